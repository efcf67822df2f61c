import Derived.Test.YthihaopabbpalaaGreatR6
import Derived.BigRegion
set_option linter.unusedSimpArgs false
set_option linter.unusedVariables false
set_option maxHeartbeats 4000000
set_option maxRecDepth 100000
namespace Go.Proofs.YthihaopabbpalaaGreat
open _root_.Go.Proofs.Tryz
open Go.RowKit Go.Maps Pw
variable {B b c cl ct f g g' gd gf gs gw gx i k n' off p q s sz:Nat} {E:En} {F:PF} {L:Nat -> Bool} {P:Program} {S S' S0:MW} {T e e':TypeId} {W W' W0 w w' w1 w2:World} {a al as0:Option Addr} {bl:List Page} {cs cur z zf zp zs:Array Value} {fi0:List PF} {m:Ma} {o:Oper} {old xs:List Value} {v v' v0:Value} {x:Operand} {y:Nat -> Value} {ρ:Operand -> Value}
def FT (S:MW) (B b:Nat) (w:World) (P:PS):(Nat->Bool)->(Nat->Value)->World->Prop:=λL y W=>
 (∀k,10<=k->k<16->L (k+1)=true->L k=true)/\(L 16=true->L 5=true) /\
 (L 16=false->fu W B b S/\MS w b S W S) /\
 (L 15=true->L 16=false->∃a e,y 15 = .slice a 1 e/\ve W a e 1 (sV P)) /\
 (L 16=true->∃w1,fu w1 B b S/\MS w b S w1 S/\w1.grownBy W (Value.slice S.H.ap S.H.sp.length S.H.cp).ownBlock/\Own W B 76 10 (y 16) (S.H.sp.length+1) (S.H.sp.flatMap sV++sV P)/\nY w1 (.slice S.H.ap S.H.sp.length S.H.cp) (y 16))
theorem Kb {row:Option Nat} (d:w.grownBy w1 row) (h:Below w1.heap.size w1 w2):w.grownBy w2 row:=
 ⟨h.os.trans d.os,h.tape.trans d.tape,h.output.trans d.output,bi d.size h.size,λk j n=>(h.block k (oG j d.size)).trans (d.block k j n)⟩
theorem jd {P:PS}:∀L y W W',Below W.heap.size W W'->FT S B b w P L y W->FT S B b w P L y W':=
 λ_ _ _ _ hb ⟨h1,h2,h3,h4,h5⟩=>⟨h1,h2,λe=>⟨(h3 e).1.below hb,(h3 e).2.below hb⟩,λu t=>by
  obtain⟨a,e,k1,d⟩:=h4 u t;exact⟨a,e,k1,d.below hb⟩,λe=>by
  obtain⟨w1,k1,d,n,j,h⟩:=h5 e;exact⟨w1,k1,d,Kb n hb,j.below hb,h⟩⟩
theorem jO {P:PS} (j:i≠15/\i≠16) (H:∀k,10<=k->k<16->k+1=i->L k=true) (h:FT S B b w P L y W):FT S B b w P (dO L i) (fq y i v) W:=by
 obtain⟨M,h2,K,J,I⟩:=h;have C:dO L i 15=L 15:=by unfold dO;rw[if_neg (λe=>j.1 e.symm)]
 have d:dO L i 16=L 16:=by unfold dO;rw[if_neg (λe=>j.2 e.symm)]
 have t:fq y i v 15=y 15:=by unfold fq;rw[if_neg (λe=>j.1 e.symm)]
 have n:fq y i v 16=y 16:=by unfold fq;rw[if_neg (λe=>j.2 e.symm)]
 have u:∀k,L k=true->dO L i k=true:=λk G=>by unfold dO;split<;>simp[G]
 refine⟨λk k1 D A => ?_,λe=>u 5 (h2 (by rw[<-d];exact e)),by rw[d];exact K,by rw[C,d,t];exact J,by rw[d,n];exact I⟩
 by_cases e:k+1=i
 ·exact u k (H k k1 D e)
 refine u k (M k k1 D ?_);unfold dO at A;rw[if_neg e] at A;exact A
theorem Ut {P:PS} {e:Nat} (C:Below W.heap.size W W') (j:L 14=true) (h:FT S B b w P L y W) (u:ve W' a e 1 (sV P)):FT S B b w P (dO L 15) (fq y 15 (.slice a 1 e)) W':=by
 obtain⟨H,h2,G,I,D⟩:=jd _ _ _ _ C h;have n:∀k,L k=true->dO L 15 k=true:=λk A=>by unfold dO;split<;>simp[A]
 refine⟨λk k1 t d => ?_,λe=>h2 e,G,λ_ _=>⟨a,e,rfl,u⟩,D⟩
 by_cases e:k+1=15
 ·obtain rfl:k=14:=by omega
  exact n 14 j
 refine n k (H k k1 t ?_);unfold dO at d;rw[if_neg e] at d;exact d
theorem Ve {P:PS} (n:L 15=true) (h5' : L 5=true) (d:L 16=false) (h:FT S B b w P L y W) (I:W.grownBy W' (Value.slice S.H.ap S.H.sp.length S.H.cp).ownBlock)
 (D:Own W' B 76 10 v (S.H.sp.length+1) (S.H.sp.flatMap sV++sV P)) (C:nY W (.slice S.H.ap S.H.sp.length S.H.cp) v):FT S B b w P (dO L 16) (fq y 16 v) W':=by
 obtain⟨J,h2,u,M,K⟩:=h;have t:∀k,L k=true->dO L 16 k=true:=λk G=>by unfold dO;split<;>simp[G]
 refine⟨λk k1 A j => ?_,λ_=>h5',λe=>(by cases e),λ_ e=>(by cases e),λ_=>⟨W,(u d).1,(u d).2,I,D,C⟩⟩
 by_cases e:k+1=16
 ·obtain rfl:k=15:=by omega
  exact t 15 n
 refine t k (J k k1 A ?_);unfold dO at j;rw[if_neg e] at j;exact j
theorem Dq {P:PS} (h:FT S B b w P L y W) (j:L i=false) (t:i=5\/(10<=i/\i<=16)):fu W B b S/\MS w b S W S:=by
 refine h.2.2.1 ?_;cases e:L 16 with
 | false=>rfl
 | true=>
  exfalso;rcases t with rfl|⟨k1,u⟩
  ·rw[h.2.1 e] at j;cases j
  have:∀d,d<=6->L (16-d)=true:=by
   intro d
   induction d with
   | zero=>intro _;exact e
   | succ d ih=>intro A;exact h.1 (16-(d+1)) (by omega) (by omega) (by rw[show 16-(d+1)+1=16-d by omega];exact ih (by omega))
  have n:=this (16-i) (by omega);rw[show 16-(16-i)=i by omega,j] at n;cases n
def Xd (S:MW) (B b:Nat) (w:World) (r:Ending) (w' : World):Prop:=∃S',r = .returned (.tuple #[])/\fu w' B b S'/\MS w b S w' S'/\More S S'
theorem UR (t:List En) (k:Nat) (d:k<64):(tL t).toArray.extract (k*3) (k*3+3)=jC (t.getD k zEn):=by
 apply mH;intro j;rw[Array.getElem?_extract];have n:(tL t).toArray.size=192:=by simp[zb]
 by_cases h:j<3
 ·rw[if_pos (by omega)];have:=NS t k j d h;simpa[lV] using this
 ·rw[if_neg (by omega),lW (by show 3<=j;omega)]
theorem entry_size3:(Tryz.prog.info? 68).map (·.size)=some 3:=by kernel_rfl
theorem Jd (t:List En) (k:Nat) (d:k<64) (e:En) (h:t.getD k zEn=e) (w:World):(Instr.index 69 (.agg (tL t).toArray) (.int .i64 k)).run Tryz.prog w = .ok (.agg (jC e)) w:=
 xz underlying69 underlying68 rfl entry_size3 _ k _ d (by rw[<-h];exact UR t k d) _ w
def Mf (S0 S S' : MW) (B b:Nat) (w:World) (gx gf:Nat) (e:En) (F:Array Value):(Nat->Bool)->(Nat->Value)->World->Prop:=λL _ W=>
 (aG W gx (jC e) 68/\aG W gf F 81)/\(L 14=false->fu W B b S/\MS w b S0 W S)/\(L 14=true->fu W B b S'/\MS w b S0 W S')
theorem bv {e:En} {F:Array Value}:∀L y W W',Below W.heap.size W W'->Mf S0 S S' B b w gx gf e F L y W->Mf S0 S S' B b w gx gf e F L y W':=
 λ_ _ _ _ hb ⟨h1,h2,h3⟩=>⟨⟨h1.1.ext hb,h1.2.ext hb⟩,λe=>⟨(h2 e).1.below hb,(h2 e).2.below hb⟩,λe=>⟨(h3 e).1.below hb,(h3 e).2.below hb⟩⟩
theorem DK {e:En} {F:Array Value} (h:Mf S0 S S' B b w gx gf e F L y W) (d:(jE S')[12]?=(jE S)[12]?):W.cell? ⟨b,12,none⟩=(jE S)[12]?:=by
 cases hL:L 14 with
 | false=>exact (h.2.1 hL).1.blk.cell 12
 | true=>rw[<-d];exact (h.2.2 hL).1.blk.cell 12
theorem uk {T:List (List En)} (d:Bh m T) (C:m.sp.length=2) {n:Nat} {x:En} (t:n<64) (A:eF x=0) (q j:Nat) (u:j≠n):fO (setL (setL T 0 n x) 1 n x) q j=fO T q j:=by
 rw[xE (d.set (p:=0) (by omega) A) (by omega) t,if_neg (λh=>u h.2),xE d (by omega) t,if_neg (λh=>u h.2)]
theorem KP {y:Operand} {n:Nat} {k:IntKind} (j:o.op = .indexAddr 34 x y) (h:ρ x = .slice (some ⟨b,off,none⟩) n c) (d:ρ y = .int k (i:Int)) (t:i<n) :
  (execOp ρ o).run Tryz.prog w = .ok (.value (.pointer (some ⟨b,off+i,none⟩))) w:=by
 have:=bP (P:=Tryz.prog) (w:=w) j h d t underlying34 (show (Tryz.prog.info? 3).map (·.size)=some 1 by kernel_rfl);rw[this,tN]
theorem fu.locE (h:fu w B b S) (G:aG w g cs 68) (D:¬nL b S g) (A:∀p∈S.H.sp,∀k v,k<8->(oh p.ts)[k]?=some v->v.ownBlock≠some g) (C:B<=g) (j:w.grownBy w' (some g)):fu w' B b S:=by
 have d:∀ {a:Option Addr},oB a∈iQ S->∀n c g',(Value.slice a n c).ownBlock=some g'->some g≠some g':=λJ n c g' u e=>by cases e;rw[jA] at u;exact D (.inr (by rw[<-u];exact J))
 exact⟨h.blk.grown j (λe=>D (.inl (aM e))),h.ge,⟨h.ma.fr.grown j (d (by simp[iQ]) _ _),h.ma.sl.grown j (d (by simp[iQ]) _ _),⟨h.ma.sw.b.grown j (d (by simp[iQ]) _ _),h.ma.sw.q.grown j (λg' u=>by rw[h.n3] at u;cases u)⟩,⟨h.ma.dk.b.grown j (d (by simp[iQ]) _ _),h.ma.dk.q.grown j (d (by simp[iQ]) _ _)⟩,
  ⟨h.ma.st.own.grown j (d (by simp[iQ]) _ _),λi p t=>ax (h.ma.st.each i p t) G (by decide) j,h.ma.st.apart⟩,h.ma.ca.grown j (d (by simp[iQ]) _ _),h.ma.sp.grown j (d (by simp[iQ]) _ _),λp t=>⟨ax (h.ma.ps p t).1 G (by decide) j,⟨(h.ma.ps p t).2.sz,λk f=>by obtain⟨v,I,h2⟩:=(h.ma.ps p t).2.own k f;exact⟨v,I,h2.grown j (λg' u e=>by cases e;exact A p t k v f I u)⟩,(h.ma.ps p t).2.apart⟩⟩,h.ma.c64⟩,
  h.tt.grown j (d (by simp[iQ]) _ _),h.rd.keep h.ra h.bs j C,h.ra,h.n1,h.n2,h.n3⟩
theorem fu.newE (h:fu w B b S) {x:Nat} (A:w.heap.size<=x):∀p∈S.H.sp,∀k v,k<8->(oh p.ts)[k]?=some v->v.ownBlock≠some x:=λp n k v t j u=>by
 obtain⟨v',d,h2⟩:=(h.ma.ps p n).2.own k t;rw[j] at d;cases d;have:=Jz h2 x u;omega
theorem PI (S:MW) (B b:Nat) (w:World) (h:fu w B b S) (N:Bd S.H.ma S.T) (hf:Oe S) (hl:S.H.sp.length=1) :
  Calls Tryz.prog 36 #[.pointer (some ⟨b,0,none⟩)] w (Xd S B b w):=by
 obtain⟨C,gH⟩:=List.length_eq_one_iff.1 hl;have gL:=ae N;have qh:=ae hf;have qC:=ae h.bs;have kc:=ae gH;obtain⟨gp,op,cap,cur,hv,gg,hP,ge,kg,kj⟩:=h.ma.sp.put oq (by decide) 0 (by rw[hl];decide);have kX:S.H.ap=some ⟨gp,op,none⟩:=(oJ hv).1;have kW:∀W,fu W B b S->W.cell? ⟨gp,op+1,none⟩=some (.slice C.aa C.ar.length C.ac):=λW hW=>by
  obtain⟨g2,o2,_,_,k6,_,_,_,qk,_⟩:=hW.ma.sp.put oq (by decide) 0 (by rw[hl];decide);have R:(some (⟨g2,o2,none⟩:Addr))=some ⟨gp,op,none⟩:=(oJ k6).1.symm.trans kX;cases R;have e0:S.H.sp[0]'(by rw[hl];decide)=C:=by simp[gH]
  rw[e0] at qk;have:=qk 1 _ rfl;simpa using this
 clear N hf gH hv hP ge kg kj;go_enter func36,ntmps36;go_upto_region 0 with (fail);refine iF 20 [_,_,_,_,_,.v (.slice (some ⟨gp,op,none⟩) 1 S.H.cp),_,_,_,_,.v (.slice (some ⟨gp,op,none⟩) 1 S.H.cp),_,_,.v (.slice C.aa C.ar.length C.ac),.v (.agg (yM ⟨true,C.aa,C.ac,C.ar,nTs,zTb⟩)),.r 15 ((dC λ_=>True)),.r 16 ((dC λ_=>True)),_,_,_] (FT S B b w ⟨true,C.aa,C.ac,C.ar,nTs,zTb⟩) jd (λ_=>⟨λk _ _ e=>(by cases e),λe=>(by cases e),λ_=>⟨h,MS.refl _ _ _⟩,λe=>(by cases e),λe=>(by cases e)⟩) (Qk jd rfl (Qk jd rfl (Qk jd rfl (Qf jd b 1 rfl rfl (Qf jd b 11 rfl rfl (ah ?_ (Qk jd rfl (Qk jd rfl (Qf jd b 1 rfl rfl (Qf jd b 11 rfl rfl (ah ?_ (Qr jd (.pointer (some ⟨gp,op,none⟩)) (λρ y W o=>(bP (i:=0) rfl (aI rfl o) (aI rfl o) (by decide) underlying43 space_size)) rfl rfl (Qf jd gp (op+1) rfl rfl (ah ?_ (ah ?_ (ah ?_ (ah ?_ (Qk jd rfl (Qf jd b 1 rfl rfl (Qf jd b 11 rfl rfl (aF) (λ_ _ _ _ c h=>jO (by decide) (by intro k h1 h2 e;first | omega | (obtain rfl:=lJ e;exact c _ rfl)) h)) (λ_ _ _ _ c h=>jO (by decide) (by intro k h1 h2 e;first | omega | (obtain rfl:=lJ e;exact c _ rfl)) h)) (λ_ _ _ _ c h=>jO (by decide) (by intro k h1 h2 e;first | omega | (obtain rfl:=lJ e;exact c _ rfl)) h)))))) (λ_ _ _ _ c h=>jO (by decide) (by intro k h1 h2 e;first | omega | (obtain rfl:=lJ e;exact c _ rfl)) h)) (λ_ _ _ _ c h=>jO (by decide) (by intro k h1 h2 e;first | omega | (obtain rfl:=lJ e;exact c _ rfl)) h))) (λ_ _ _ _ c h=>jO (by decide) (by intro k h1 h2 e;first | omega | (obtain rfl:=lJ e;exact c _ rfl)) h)) (λ_ _ _ _ c h=>jO (by decide) (by intro k h1 h2 e;first | omega | (obtain rfl:=lJ e;exact c _ rfl)) h)) (λ_ _ _ _ c h=>jO (by decide) (by intro k h1 h2 e;first | omega | (obtain rfl:=lJ e;exact c _ rfl)) h)) (λ_ _ _ _ c h=>jO (by decide) (by intro k h1 h2 e;first | omega | (obtain rfl:=lJ e;exact c _ rfl)) h))) (λ_ _ _ _ c h=>jO (by decide) (by intro k h1 h2 e;first | omega | (obtain rfl:=lJ e;exact c _ rfl)) h)) (λ_ _ _ _ c h=>jO (by decide) (by intro k h1 h2 e;first | omega | (obtain rfl:=lJ e;exact c _ rfl)) h)) (λ_ _ _ _ c h=>jO (by decide) (by intro k h1 h2 e;first | omega | (obtain rfl:=lJ e;exact c _ rfl)) h)) (λ_ _ _ _ c h=>jO (by decide) (by intro k h1 h2 e;first | omega | (obtain rfl:=lJ e;exact c _ rfl)) h)) (λ_ _ _ _ c h=>jO (by decide) (by intro k h1 h2 e;first | omega | (obtain rfl:=lJ e;exact c _ rfl)) h)) (λ_=>rfl) rfl ?_
 ·intro ρ y W L O hn t c K N;refine fT jd (λ_ _ h=>jO (by decide) (by intro k h1 h2 e;first | omega | (obtain rfl:=lJ e;exact c _ rfl)) h) K ?_;have E9:=O 9 4 rfl;have h4:y 4=_:=N 4 rfl;have hm:=(Dq K t (by decide)).1;refine ak (.slice (some ⟨gp,op,none⟩) 1 S.H.cp) (aj rfl) (by simp[execOp,go_sem,E9,h4,hm.blk.cell,jE,kX,hl]) rfl
 ·intro ρ y W L O hn t c K N;refine fT jd (λ_ _ h=>jO (by decide) (by intro k h1 h2 e;first | omega | (obtain rfl:=lJ e;exact c _ rfl)) h) K ?_;have qI:=O 14 9 rfl;have M:y 9=_:=N 9 rfl;have hm:=(Dq K t (by decide)).1;refine ak (.slice (some ⟨gp,op,none⟩) 1 S.H.cp) (aj rfl) (by simp[execOp,go_sem,qI,M,hm.blk.cell,jE,kX,hl]) rfl
 ·intro ρ y W L O hn t c K N;refine fT jd (λ_ _ h=>jO (by decide) (by intro k h1 h2 e;first | omega | (obtain rfl:=lJ e;exact c _ rfl)) h) K ?_;have qH:=O 17 12 rfl;have hA:y 12=_:=N 12 rfl;have hm:=(Dq K t (by decide)).1;refine ak (.slice C.aa C.ar.length C.ac) (aj rfl) (by simp[execOp,go_sem,qH,hA,kW W hm]) rfl
 ·intro ρ y W L O hn t c K N;refine fT jd (λ_ _ h=>jO (by decide) (by intro k h1 h2 e;first | omega | (obtain rfl:=lJ e;exact c _ rfl)) h) K ?_;have qG:=O 18 13 rfl;have kE:y 13=_:=N 13 rfl;have EC:∀v,ρ (.const v)=v:=λv=>hn (.const v) trivial;refine ak (.agg (yM ⟨true,C.aa,C.ac,C.ar,nTs,zTb⟩)) (aj rfl) (by simp[execOp,go_sem,qG,kE,EC,yM,nTs]) rfl
 ·intro ρ y W L O hn t c K N;have qF:=O 19 14 rfl;have qD:y 14=_:=N 14 rfl;refine fF (.slice (some ⟨W.heap.size,0,none⟩) 1 1) (aj rfl) ?_ (Ut (W':=W.alloc (.cells (yM ⟨true,C.aa,C.ac,C.ar,nTs,zTb⟩) 76)) ((Below.refl _ _).alloc (az _) _) (c 14 rfl) K ⟨az _,by unfold maxLen;omega,λe=>(by cases e),dZ.new _ _ _⟩) trivial;simp[execOp,go_sem,qF.trans qD,yM]
 ·intro ρ y W L O hn t c K N;have qJ:=O 10 5 rfl;have h5:y 5=_:=N 5 rfl;have qE:=O 20 15 rfl;have gm:=N 15 rfl;have hm:=(Dq K t (by decide)).1;obtain⟨a,e,qs,gF⟩:=K.2.2.2.1 (c 15 rfl) t;have qv:Own W B 76 10 (.slice S.H.ap S.H.sp.length S.H.cp) S.H.sp.length (S.H.sp.flatMap sV):=hm.ma.sp;refine mh (aj rfl) (qi _ _ _ rfl B 76 _ 10 224 underlying43 space_info rfl (by decide) (.slice S.H.ap S.H.sp.length S.H.cp) S.H.sp.length _ (by rw[hl,kX];exact qJ.trans h5) qv a 1 e _ (qE.trans qs) gF.nl gF.le rfl gF.rd (bU (by simp[yM,nTs,Value.oneCell'])) (by unfold maxLen;omega) (by omega) hm.bs) (λv W1 h=>Ve (c 15 rfl) (c 5 rfl) t K h.2.1 h.1 h.2.2) (λ_ _ _=>trivial)
 intro y W1 gC qp;clear qp;obtain⟨w1,hq,k8,kz,own2,kL⟩:=gC.2.2.2.2 rfl;clear gC h;have hC:Own w1 B 76 10 (.slice S.H.ap S.H.sp.length S.H.cp) S.H.sp.length (S.H.sp.flatMap sV):=hq.ma.sp;have kO:C∈S.H.sp:=by rw[kc.out];exact bC.2 rfl
 have gB:=zQ hC kz hq.blk (by decide);have gt:∀p∈S.H.sp++[(⟨true,C.aa,C.ac,C.ar,nTs,zTb⟩:PS)],Own W1 B 94 7 (.slice p.aa p.ar.length p.ac) p.ar.length (p.ar.flatMap mO)/\rJ W1 B (oh p.ts) p.tb:=λp hp=>by
  rcases gP.1 hp with hp|hp
  ·exact⟨jl hC kz (hq.ma.ps p hp).1 (by decide),CU hC kz (hq.ma.ps p hp).2⟩
  rw[bC.1 hp];exact⟨jl hC kz (hq.ma.ps C kO).1 (by decide),Cg _ _⟩
 obtain⟨a2,c2,k6,_⟩:=own2.rd;rw[k6] at own2 kL ⊢;clear k6;have kf:(S.H.sp++[(⟨true,C.aa,C.ac,C.ar,nTs,zTb⟩:PS)]).length=S.H.sp.length+1:=by simp
 have own2' : Own W1 B 76 10 (.slice a2 (S.H.sp++[(⟨true,C.aa,C.ac,C.ar,nTs,zTb⟩:PS)]).length c2) (S.H.sp++[(⟨true,C.aa,C.ac,C.ar,nTs,zTb⟩:PS)]).length ((S.H.sp++[(⟨true,C.aa,C.ac,C.ar,nTs,zTb⟩:PS)]).flatMap sV):=by rw[kf,fE];simpa using own2
 clear own2
 go_wp2_with (refine aB rfl _ _ _ rfl b 11 _ [.slice a2 (S.H.sp.length+1) c2] rfl rfl rfl _ _ gB (by show 11+1<=13;omega) (by kernel_rfl) (λu hu=>by cases bC.1 hu;rfl) ?_)
 intro w3 qm kH;have h3:fu w3 B b { S with H:={ S.H with ap:=a2,cp:=c2,sp:=S.H.sp++[(⟨true,C.aa,C.ac,C.ar,nTs,zTb⟩:PS)] } }:=hq.appP kz own2' gt (by rw[kf,hl];exact qm) kH;have s3:MS w b S w3 { S with H:={ S.H with ap:=a2,cp:=c2,sp:=S.H.sp++[(⟨true,C.aa,C.ac,C.ar,nTs,zTb⟩:PS)] } }:=k8.app hq hC (by simp[iQ]) kz kH kL (λx J=>by
  rcases J with J|J
  ·exact .inl (.inl J)
  simp only[iQ,dw,gN,or_false] at J;rcases J with J|J|J|J|J|J|J|J|J<;>first|exact .inr J.symm|exact .inl (.inr (by simp[iQ,J])))
 clear hq k8 hC gB gt own2' qm kH kL kz kW kX
 -- process 0's areas
 obtain⟨g3,o3,_,_,qt,_,_,_,qj,_⟩:=h3.ma.sp.put oq (by decide) 0 (by simp);have qn:a2=some ⟨g3,o3,none⟩:=(oJ qt).1;have c31:w3.cell? ⟨g3,o3+1,none⟩=some (.slice C.aa C.ar.length C.ac):=by
  have e0:(S.H.sp++[(⟨true,C.aa,C.ac,C.ar,nTs,zTb⟩:PS)])[0]'(by simp)=C:=by simp[kc.out]
  rw[e0] at qj;have:=qj 1 _ rfl;simpa using this
 have hc:=h3.blk.cell;unfold jE at hc;dsimp only at hc;rw[qn,kf] at hc;have qr:=(h3.ma.ps C (pO _ kO)).1;have k5:Hid ((bQ C.ar).1=0):=ae (gL.out.rt.pt.ar ⟨C.lv,C.ar,ic (fI S.T 0)⟩ (by
  show _∈(List.range (S.H.sp.map PS.sp).length).map λp=>({ dD S.H.ma p with tb:=ic (fI S.T p) }:Sp);rw[ja];refine⟨0,by rw[fH,hl];decide,?_⟩;have e1:dD S.H.ma 0=C.sp:=by show (S.H.sp.map PS.sp).getD 0 zSp=_;rw[kc.out];rfl
  rw[e1];rfl))
 have qO:C.ar.length<=16:=(jM.1 k5.out).1;have g5:=ae (nG (jM.1 k5.out).2)
 go_wp2_with fail
 refine (sG C.ar C.aa C.ac _ (uI qr).rd (by omega) (λx J=>(srtF_ok g5.out x J).1)).mono ?_;rintro r w4 ⟨rfl,gS⟩;have h4:=h3.below gS;have s4:=s3.below gS;have ks:=ae (ky (dz C.ar));clear h3 s3 hc c31 qn gS qr
 go_wp2_with (refine aL rfl _ _ _ rfl (fC (dz C.ar)) rfl rfl (by rw[ks.out];rfl) (by rw[ks.out];exact ones_size) (zC _) ?_)
 intro w5 gO fx5;have h5:=h4.below gO;have s5:=s4.below gO;have gb:=ae (h4.new (az _));have qy:=ae s4.size;clear h4 s4 gO;generalize w4.heap.size=gf at *
 have qo:S.T.length=1:=by have M:=gL.out.ok.len;have h8:S.H.ma.sp.length=S.H.sp.length:=fH _;omega
 have kZ:=ae qo;have gI:=ae hl;clear qo hl;have hc:=h5.blk.cell;unfold jE at hc;dsimp only at hc;have kt:Own w5 B 69 192 (.slice S.ab S.T.length S.cb) S.T.length (S.T.flatMap tL):=h5.tt
 go_wp2_with (at_builtin;go_must (refine Cs rfl _ _ rfl (by kernel_rfl) B (.slice S.ab S.T.length S.cb) S.T.length (S.T.flatMap tL) rfl kt rfl (by have:=kZ.out;omega) h5.bs ?_))
 intro v6 w6 own6 gi kK;have kk:=(Below.refl w5.heap.size w5).alloc (az _) (.cells (tL (List.replicate 64 zEn)).toArray 69);have gl:=h5.below kk;have s5a:=s5.below kk;have hS:=kt.below kk;have gj:=fx5.ext kk;have kw:∀ {x:Nat} {cs:Array Value} {T:TypeId},aG (w5.alloc (.cells (tL (List.replicate 64 zEn)).toArray 69)) x cs T->T≠69->aG w6 x cs T:=λgd hT=>by
  rcases sF hS gi with hb0|⟨g,cs,hk,_,hg'⟩
  ·exact gd.ext hb0
  ·exact bZ gd hk (λe=>hT e.symm) hg'
 have gA:=kw gl.blk (by decide);have fx6:=kw gj (by decide);have qA:∀x,v6.ownBlock=some x->x≠gf:=λx J e=>by
  rcases kK with e1|e1
  ·rw[e1] at J;obtain⟨cs,hk⟩:=mK hS x J;rw[e] at hk;exact lX hk gj (by decide) rfl
  have M:=e1 x J;rw[e] at M;exact Nat.lt_irrefl _ (oG gj.lt M)
 obtain⟨a4,c4,rfl,_⟩:=own6.rd;have qa:some gf=oB a4->False:=λe=>qA gf (by rw[jA];exact e.symm) rfl;have ke:(S.T++[List.replicate 64 zEn]).length=S.T.length+1:=by simp
 have own6' : Own w6 B 69 192 (.slice a4 (S.T++[List.replicate 64 zEn]).length c4) (S.T++[List.replicate 64 zEn]).length ((S.T++[List.replicate 64 zEn]).flatMap tL):=by rw[ke,fE];simpa using own6
 clear hc h5 s5 kt own6 kk kw gj fx5
 go_wp2_with (refine aB rfl _ _ _ rfl b 12 _ [.slice a4 (S.T.length+1) c4] rfl rfl rfl _ _ gA (by show 12+1<=13;omega) (by kernel_rfl) (λu hu=>by cases bC.1 hu;rfl) ?_)
 intro w7 ql gh;have h7:fu w7 B b { S with H:={ S.H with ap:=some ⟨g3,o3,none⟩,cp:=c2,sp:=S.H.sp++[(⟨true,C.aa,C.ac,C.ar,nTs,zTb⟩:PS)] },ab:=a4,cb:=c4,T:=S.T++[List.replicate 64 zEn] }:=gl.appT gi own6' (by rw[ke];exact ql) gh;have s7:MS w b S w7 { S with H:={ S.H with ap:=some ⟨g3,o3,none⟩,cp:=c2,sp:=S.H.sp++[(⟨true,C.aa,C.ac,C.ar,nTs,zTb⟩:PS)] },ab:=a4,cb:=c4,T:=S.T++[List.replicate 64 zEn] }:=s5a.app gl hS (by simp[iQ]) gi gh kK (λx J=>by
  rcases J with J|J
  ·exact .inl (.inl J)
  simp only[iQ,dw,gN,or_false] at J;rcases J with J|J|J|J|J|J|J|J|J<;>first|exact .inr J.symm|exact .inl (.inr (by simp[iQ,J])))
 have g9:gf≠b:=λe=>gb.out (.inl e);have gu:Hid (¬nL b ({ S with H:={ S.H with ap:=some ⟨g3,o3,none⟩,cp:=c2,sp:=S.H.sp++[(⟨true,C.aa,C.ac,C.ar,nTs,zTb⟩:PS)] },ab:=a4,cb:=c4,T:=S.T++[List.replicate 64 zEn] }:MW) gf):=ae λhk=>by
  rcases hk with hk|hk
  ·exact gb.out (.inl hk)
  simp only[iQ,dw,gN,or_false] at hk;have qN:gf<w6.heap.size:=fx6.lt;rcases hk with hk|hk|hk|hk|hk|hk|hk|hk|hk
  all_goals first
   | exact qa hk
   | exact gb.out (.inr (by simp[iQ,hk]))
 have fx7:=fx6.grown gh (λe=>g9 (aM e).symm);clear gl s5a hS gA own6' ql gh kK gi fx6;have kF:({ S with H:={ S.H with ap:=some ⟨g3,o3,none⟩,cp:=c2,sp:=S.H.sp++[(⟨true,C.aa,C.ac,C.ar,nTs,zTb⟩:PS)] },ab:=a4,cb:=c4,T:=S.T++[List.replicate 64 zEn] }:MW).H.ma = { S.H.ma with sp:=S.H.ma.sp++[⟨true,C.ar,zTb⟩] }:=by simp[MH.ma,PS.sp]
 have kv:Hid (More S { S with H:={ S.H with ap:=some ⟨g3,o3,none⟩,cp:=c2,sp:=S.H.sp++[(⟨true,C.aa,C.ac,C.ar,nTs,zTb⟩:PS)] },ab:=a4,cb:=c4,T:=S.T++[List.replicate 64 zEn] }):=ae ⟨by
  rw[kF];exact gL.out.more (s:=⟨true,C.ar,zTb⟩) (by show (S.H.sp.map PS.sp).length<4;rw[fH,gI.out];decide) rfl k5.out,λp hp n g hg=>by
  rcases gP.1 hp with hp|hp
  ·exact qh.out p hp n g hg
  rw[bC.1 hp] at hg;exact qh.out C kO n g hg,rfl,rfl,rfl,by simp,rfl⟩
 have qL:Hid (({ S with H:={ S.H with ap:=some ⟨g3,o3,none⟩,cp:=c2,sp:=S.H.sp++[(⟨true,C.aa,C.ac,C.ar,nTs,zTb⟩:PS)] },ab:=a4,cb:=c4,T:=S.T++[List.replicate 64 zEn] }:MW).H.ma.sp.length=2):=ae (by rw[kF,jf];show (S.H.sp.map PS.sp).length+1=2;rw[fH,gI.out]);have qM:Hid ((dD ({ S with H:={ S.H with ap:=some ⟨g3,o3,none⟩,cp:=c2,sp:=S.H.sp++[(⟨true,C.aa,C.ac,C.ar,nTs,zTb⟩:PS)] },ab:=a4,cb:=c4,T:=S.T++[List.replicate 64 zEn] }:MW).H.ma 0).ar=C.ar/\(dD ({ S with H:={ S.H with ap:=some ⟨g3,o3,none⟩,cp:=c2,sp:=S.H.sp++[(⟨true,C.aa,C.ac,C.ar,nTs,zTb⟩:PS)] },ab:=a4,cb:=c4,T:=S.T++[List.replicate 64 zEn] }:MW).H.ma 1).ar=C.ar):=ae (by
  rw[kF];have e:S.H.ma.sp=[C.sp]:=by show S.H.sp.map PS.sp=_;rw[kc.out];rfl
  unfold dD;simp only[e];exact⟨rfl,rfl⟩)
 obtain⟨t0,k7⟩:=List.length_eq_one_iff.1 kZ.out;have gz:Hid ((∀j:Nat,fO ({ S with H:={ S.H with ap:=some ⟨g3,o3,none⟩,cp:=c2,sp:=S.H.sp++[(⟨true,C.aa,C.ac,C.ar,nTs,zTb⟩:PS)] },ab:=a4,cb:=c4,T:=S.T++[List.replicate 64 zEn] }:MW).T 0 j=t0.getD j zEn)/\∀j:Nat,(fO ({ S with H:={ S.H with ap:=some ⟨g3,o3,none⟩,cp:=c2,sp:=S.H.sp++[(⟨true,C.aa,C.ac,C.ar,nTs,zTb⟩:PS)] },ab:=a4,cb:=c4,T:=S.T++[List.replicate 64 zEn] }:MW).T 1 j).k=0):=ae (by unfold fO fI;simp only[k7];refine⟨λj=>rfl,λj => ?_⟩;show ((List.replicate 64 zEn).getD j zEn).k=0;rw[aX,pV];split<;>rfl);obtain⟨gT,oT,_,_,g4,_,_,_,gM,_⟩:=h7.tt.put zb (by decide) 0 (by simp);have qz:a4=some ⟨gT,oT,none⟩:=(oJ g4).1;have gr:dZ w7 (some ⟨gT,oT,none⟩) (tL t0):=λj u hj=>⟨gT,oT,rfl,by
  have e0:(S.T++[List.replicate 64 zEn])[0]'(by simp)=t0:=by simp[k7]
  rw[e0] at gM;simpa using gM j u hj⟩
 have kD:(S.T++[List.replicate 64 zEn]).length=2:=by rw[ke,kZ.out]
 have hc:=h7.blk.cell;unfold jE at hc;dsimp only at hc;rw[qz,kD] at hc;have qK:=ae k7;clear kF k7 g4 gM;have gq:(Tryz.prog.info? 69).map (·.size)=some (tL t0).length:=by rw[zb];exact ents_size
 have kJ:=ae gq;clear gq;go_upto_region 3 with (fail);clear g9 ke kf qC gb qy ks k5;go_upto_region 4 with (refine ay _ _ rfl gT oT rfl rfl (tL t0) gr _ underlying69 rfl kJ.out ?_);have h7:fu w7 B b { S with H:={ S.H with ap:=some ⟨g3,o3,none⟩,cp:=c2,sp:=S.H.sp++[(⟨true,C.aa,C.ac,C.ar,nTs,zTb⟩:PS)] },ab:=a4,cb:=c4,T:=S.T++[List.replicate 64 zEn] }:=h7;have qx:Hid (({ S with H:={ S.H with ap:=some ⟨g3,o3,none⟩,cp:=c2,sp:=S.H.sp++[(⟨true,C.aa,C.ac,C.ar,nTs,zTb⟩:PS)] },ab:=a4,cb:=c4,T:=S.T++[List.replicate 64 zEn] }:MW).T.length=2):=ae kD;clear hc gr kJ kD;have gD:Hid (({ S with H:={ S.H with ap:=some ⟨g3,o3,none⟩,cp:=c2,sp:=S.H.sp++[(⟨true,C.aa,C.ac,C.ar,nTs,zTb⟩:PS)] },ab:=a4,cb:=c4,T:=S.T++[List.replicate 64 zEn] }:MW).H.sp=S.H.sp++[(⟨true,C.aa,C.ac,C.ar,nTs,zTb⟩:PS)]):=ae rfl;have qB:Hid (({ S with H:={ S.H with ap:=some ⟨g3,o3,none⟩,cp:=c2,sp:=S.H.sp++[(⟨true,C.aa,C.ac,C.ar,nTs,zTb⟩:PS)] },ab:=a4,cb:=c4,T:=S.T++[List.replicate 64 zEn] }:MW).T=S.T++[List.replicate 64 zEn]):=ae rfl;generalize ({ S with H:={ S.H with ap:=some ⟨g3,o3,none⟩,cp:=c2,sp:=S.H.sp++[(⟨true,C.aa,C.ac,C.ar,nTs,zTb⟩:PS)] },ab:=a4,cb:=c4,T:=S.T++[List.replicate 64 zEn] }:MW)=S5 at *
 go_loopw [50] (fun i wr => ∃(n:Nat) (A:MW),n<=64/\i = .int .i64 n/\fu wr B b A/\MS w b S wr A/\aG wr gf (fC (dz C.ar)) 81/\Hid (¬nL b A gf)/\Hid (JG S5 A/\Bd A.H.ma A.T/\∀j:Nat,n<=j->fO A.T 0 j=t0.getD j zEn/\(fO A.T 1 j).k=0)) (fun i _=>64-(intOf i).toNat)
 case atStart=>exact⟨0,S5,aZ _,rfl,h7,s7,fx7,gu,ae ⟨.refl _,kv.out.bd,λj _=>by rw[qB.out];exact⟨gz.out.1 j,gz.out.2 j⟩⟩⟩
 case round=>
  clear h7 s7 fx7 gu;obtain⟨n,A,hn,rfl,hm,hs,fx,gc,hN⟩:=hrel
  by_cases D:n<64
  ·have qw:(n:Int)<64:=by omega
   obtain⟨e,he⟩:∃e,t0.getD n zEn=e:=⟨_,rfl⟩;have qb:=Jd t0 n D e he;unfold jC at qb;have gK:=ae he;clear he;have hO:A.T.length=2:=by have M:=hN.out.2.1.ok.len;rw[M];show (A.H.sp.map PS.sp).length=2;rw[fH,hN.out.1.sp,kv.out.sp,gI.out]
   have kp:Hid (∀p,p<2->(fI A.T p).length=64):=ae λp hp=>hN.out.2.1.ok.l64 (by rw[<-hN.out.2.1.ok.len,hO];exact hp);go_upto_region 6 with (fail);refine iC (λW=>Code.wp _ _ _ _ W) λW1 gk bx1 k8 => ?_;have hq:=hm.below gk;have sm1:=hs.below gk;have fx1:=fx.ext gk;have z:=ae (hm.new (az _));have qg:=ae (hm.newE (az _));have qd:B<=wr.heap.size:=hm.bs;have qc:=ae hs.size;have qe:gf≠wr.heap.size:=λR=>by have:=fx.lt;omega
   have kA:=bx1.cell;clear k8 gk hm hs fx qb;generalize wr.heap.size=gx at *
   by_cases hk1:e.k=1
   ·have Q:=hN.out.1;have Z:=hN.out.2.1;have hL:A.H.ma.sp.length=2:=by rw[<-Z.ok.len];exact hO
    have hh:fO A.T 0 n=e:=by rw[(hN.out.2.2 n (az _)).1];exact gK.out
    have hE:=zh Z.ok (p:=0) (n:=n) (by omega) D;rw[hh] at hE;have kh:=mM Z.ok (p:=0) (n:=n) (by omega) D;rw[hh] at kh;obtain⟨g,hI,hY⟩:=Z.rt.en 0 n (by rw[kh,hk1];decide);rw[kh] at hY;have kP:0<=e.n:=by rcases (bN _).1 hE with M | M | M<;>omega
    obtain⟨f,kV⟩:=iI kP;have kU:f<A.H.m.fs.length:=by have M:=hY.lt hk1;have e1:((eT A.H.ma A.T).m.fs.length:Nat)=A.H.m.fs.length:=rfl;omega
    rw[oI (by omega)] at hI;have ki:(dD A.H.ma 1).ar=(dD A.H.ma 0).ar/\(dD A.H.ma 0).ar=C.ar:=by
     have e1:A.H.ma.sp=[C.sp,⟨true,C.ar,zTb⟩]:=by show A.H.sp.map PS.sp=_;rw[Q.sp,gD.out,kc.out];rfl
     unfold dD;rw[e1];exact⟨rfl,rfl⟩
    have k9:dz C.ar n=some g:=by rw[rX g5.out,<-ki.2];exact hI
    obtain⟨ga,off,cap,cur,hv,gg,hP,ge,kg,kj⟩:=hq.ma.fr.put fJ (by decide) f kU;have gV:A.H.af=some ⟨ga,off,none⟩:=(oJ hv).1;have hX:aD A.H.ma f=A.H.m.fs[f]:=by unfold aD;show A.H.m.fs.getD f fr0=_;rw[aX,aH kU];rfl
    have g7:=Z.rt.fewR (f:=f) kU;have qu:0<=(A.H.m.fs[f]).r/\(A.H.m.fs[f]).r<=257:=by rw[<-hX];exact g7
    have gW:=ae hX;have kT:=ae kj;have gw : Hid (∀j u,(pG A.H.m.fs[f])[j]?=some u->cur[off+f*13+j]?=some u):=ae λj u hj=>by rw[<-hP.cell];exact kg j u hj
    have kC:∀W,Below W1.heap.size W1 W->W.cell? ⟨ga,off+f*13+8,none⟩=some (.int .i64 (A.H.m.fs[f]).r):=λW K=>by rw[(hP.ext K).cell,<-hP.cell];exact kg 8 _ rfl
    have kY:=ae (And.intro hI (And.intro hL (And.intro ki (And.intro hE (And.intro hh k9)))));clear hX kj kg g7 hv hI hY hE kh Q Z hL kP ki hh k9;generalize A.H.m.fs[f]=X at kC qu gW gw;have gG:IntKind.i64.wrap (X.r+1)=X.r+1:=bG _ (by omega);go_upto_region 7 with (fail);refine aN 14 [_,_,_,_,_,_,_,_,_,_,_,_,_,_] (Gk rfl (Gk rfl (Gf b 1 rfl rfl (Gf b 1 rfl rfl (Gf b 1 rfl rfl (Gl hq.blk (V:=.slice (some ⟨ga,off,none⟩) A.H.m.fs.length A.H.cf) (by simp[jE,gV]) rfl rfl rfl rfl (Gf gx 1 rfl rfl (Gl bx1 (V:=.int .i64 (f:Int)) (by simp[jC,kV]) rfl rfl rfl rfl (Gr (.pointer (some ⟨ga,off+f*13,none⟩)) (λρ y W K o=>(bP rfl (aI rfl o) (aI rfl o) kU underlying30 frame_size)) rfl rfl (Gf ga (off+f*13+8) rfl rfl (Gc (.int .i64 X.r) (λW K=>by simp[kC _ K]) rfl rfl rfl rfl (Gb (.int .i64 (X.r+1)) (by simp[go_sem,gG]) rfl rfl rfl rfl rfl (Gr (.pointer (some ⟨ga,off+f*13,none⟩)) (λρ y W K o=>(bP rfl (aI rfl o) (aI rfl o) kU underlying30 frame_size)) rfl rfl (Gf ga (off+f*13+8) rfl rfl (aF))))))))))))))) (λ_=>rfl) rfl ?_;intro y W8 hi _;have hr:=hP.ext hi;have kR:=hq.below hi;have sm8:=sm1.below hi;have bx8:=bx1.ext hi;have fx8:=fx1.ext hi;clear hq sm1 bx1 fx1 hP kA kC hi
    go_wp2_with (refine aB rfl _ _ _ rfl ga (off+f*13+8) _ [.int .i64 (X.r+1)] rfl rfl rfl _ _ hr (by show off+f*13+8+1<=cur.size;omega) (by kernel_rfl) (λu hu=>by cases bC.1 hu;rfl) ?_)
    intro w9 kI hV;rw[JY (by omega) (λj u hj=>gw.out j u hj)] at kI;have k4:fu w9 B b (A.frs (A.H.m.fs.set f (eu X))):=kR.putF hr gg hV (fs:=A.H.m.fs.set f (eu X)) (by simp) (by simpa using kT.out _ _ kI);have gv:nL b A ga:=.inr (by simp only[iQ,gV];exact iL);have sx0:MS w b S w9 (A.frs (A.H.m.fs.set f (eu X))):=sm8.put hV gv (λx J => .inl J);have bx9:=bZ bx8 hr (by decide) hV;have U:=bZ fx8 hr (by decide) hV;have kH:w9.cell? ⟨gf,n*6+3,none⟩=some (.bool g.sh):=by rw[U.cell];exact Bc (dz C.ar) n 3 D _ (by rw[kY.out.2.2.2.2.2];rfl) (by decide)
    have kA:=bx9.cell;clear kR sm8 bx8 fx8 hr kI hV gV gv;unfold jC at kA;cases hsh:g.sh
    case' true=>
     rw[hsh] at kH;have J:=k4;have sx:=sx0;have bx:=bx9;have fx1:=U;have hF:Hid (¬nL b (A.frs (A.H.m.fs.set f (eu X))) gf):=gc;have z:Hid (¬nL b (A.frs (A.H.m.fs.set f (eu X))) gx):=z;have hG:(A.frs (A.H.m.fs.set f (eu X))).T.length=2:=hO;have ha:(fI (A.frs (A.H.m.fs.set f (eu X))).T 0).length=64:=kp.out 0 (by decide);have hz:(fI (A.frs (A.H.m.fs.set f (eu X))).T 1).length=64:=kp.out 1 (by decide);have hy:Hid (JG S5 { (A.frs (A.H.m.fs.set f (eu X))) with T:=setL (setL (A.frs (A.H.m.fs.set f (eu X))).T 0 n e) 1 n e }/\Bd (A.frs (A.H.m.fs.set f (eu X))).H.ma (setL (setL (A.frs (A.H.m.fs.set f (eu X))).T 0 n e) 1 n e)/\∀j:Nat,n+1<=j->fO (setL (setL (A.frs (A.H.m.fs.set f (eu X))).T 0 n e) 1 n e) 0 j=t0.getD j zEn/\(fO (setL (setL (A.frs (A.H.m.fs.set f (eu X))).T 0 n e) 1 n e) 1 j).k=0):=ae (by
      have Q:=hN.out.1;have Z:=hN.out.2.1;obtain⟨hI,hL,ki,hE,hh,k9⟩:=kY.out;have hA:=Z.share1 (w:=e.w) hL D ki.1 (by rw[hh];exact hk1) (hN.out.2.2 n (az _)).2 hI (by rw[hh];exact kV) (by rw[hh,hsh];rfl);rw[gW.out,show (⟨1,(f:Int),e.w⟩:En)=e from by rw[<-kV,<-hk1]] at hA;have k0:eF e=0:=by
       rw[bN] at hE ⊢;rcases hE with M|M|M
       ·omega
       ·first
        | exact .inr (.inl ⟨M.1,M.2⟩)
        | exact .inr (.inl ⟨rfl,by show (0:Int)<=f;omega,by show (f:Int)<40;omega⟩)
       ·omega
      exact⟨⟨Q.sp,Q.fi,Q.ct,Q.dk,by show (A.H.m.fs.set f (eu X)).length=_;rw[bK];exact Q.fl,Q.sl⟩,hA,λj hj=>by show fO (setL (setL A.T 0 n e) 1 n e) 0 j=_/\(fO (setL (setL A.T 0 n e) 1 n e) 1 j).k=0;rw[uk Z.ok hL D k0 _ _ (by omega),uk Z.ok hL D k0 _ _ (by omega)];exact hN.out.2.2 j (by omega)⟩)
     generalize hSx:(A.frs (A.H.m.fs.set f (eu X)))=Sx at J sx hF z hG ha hz hy;clear k4 sx0 bx9 U;obtain⟨G,I,_,d,kx,kS,_⟩:=J.ent (p:=0) (n:=n) (by omega) D ha;have kd:gx≠G:=λR=>z.out (.inr (by rw[R];simp[iQ,d,oB];right;right;right;right;right;right;right;right;rfl));have hD:gf≠G:=λR=>hF.out (.inr (by rw[R];simp[iQ,d,oB];right;right;right;right;right;right;right;right;rfl));go_upto_region 12 with (fail);refine yl 17 [_,_,_,.v (.slice (some ⟨G,I,none⟩) 2 Sx.cb),_,_,_,_,.v (.slice (some ⟨G,I,none⟩) 2 Sx.cb),_,.v (.agg (jC e)),.v (.agg (jC e)),_,.v (.pointer (some ⟨G,I+n*3,none⟩)),.r 14 ((dC λ_=>True)),_,.v (.pointer (some ⟨G,I+192+n*3,none⟩))] (Mf S Sx { Sx with T:=setL Sx.T 0 n e } B b w gx gf e (fC (dz C.ar))) bv (λ_=>⟨⟨bx,fx1⟩,λ_=>⟨J,sx⟩,λh=>(by cases h)⟩) (Qk bv rfl (Qk bv rfl (Qf bv b 12 rfl rfl (ah ?u1_1 (Qk bv rfl (Qk bv rfl (Qk bv rfl (Qf bv b 12 rfl rfl (ah ?u1_2 (Qk bv rfl (ah ?u1_3 (ah ?u1_4 (Qr bv (.pointer (some ⟨G,I,none⟩)) (λρ y W o=>(bP (i:=0) rfl (aI rfl o) (aI rfl o) (by decide) underlying96 ents_size)) rfl rfl (ah ?u1_5 (ah ?u1_6 (Qr bv (.pointer (some ⟨G,I+192,none⟩)) (λρ y W o=>(bP (i:=1) rfl (aI rfl o) (aI rfl o) (by decide) underlying96 ents_size)) rfl rfl (ah ?u1_7 (aF)))))))))))))))))) (λ_=>rfl) rfl ?u1_8
    case' false=>
     rw[hsh] at kH
     go_wp2_with (refine aB rfl _ _ _ rfl gx 2 _ [.bool false] rfl rfl rfl _ _ bx9 (by show 2+1<=3;omega) (by kernel_rfl) (λu hu=>by cases bC.1 hu;rfl) ?_)
     intro w10 bx q;have bx:aG w10 gx (jC ⟨1,(f:Int),false⟩) 68:=bx;have J:fu w10 B b (A.frs (A.H.m.fs.set f (eu X))):=k4.locE bx9 z.out qg.out qd q;have sx:=sx0.loc q qc.out;have fx1:=U.grown q (λR=>qe (aM R).symm);clear kA;have kA:=bx.cell;unfold jC at kA;have hF:Hid (¬nL b (A.frs (A.H.m.fs.set f (eu X))) gf):=gc;have z:Hid (¬nL b (A.frs (A.H.m.fs.set f (eu X))) gx):=z;have hG:(A.frs (A.H.m.fs.set f (eu X))).T.length=2:=hO;have ha:(fI (A.frs (A.H.m.fs.set f (eu X))).T 0).length=64:=kp.out 0 (by decide);have hz:(fI (A.frs (A.H.m.fs.set f (eu X))).T 1).length=64:=kp.out 1 (by decide);have hy:Hid (JG S5 { (A.frs (A.H.m.fs.set f (eu X))) with T:=setL (setL (A.frs (A.H.m.fs.set f (eu X))).T 0 n (⟨1,(f:Int),false⟩:En)) 1 n (⟨1,(f:Int),false⟩:En) }/\Bd (A.frs (A.H.m.fs.set f (eu X))).H.ma (setL (setL (A.frs (A.H.m.fs.set f (eu X))).T 0 n (⟨1,(f:Int),false⟩:En)) 1 n (⟨1,(f:Int),false⟩:En))/\∀j:Nat,n+1<=j->fO (setL (setL (A.frs (A.H.m.fs.set f (eu X))).T 0 n (⟨1,(f:Int),false⟩:En)) 1 n (⟨1,(f:Int),false⟩:En)) 0 j=t0.getD j zEn/\(fO (setL (setL (A.frs (A.H.m.fs.set f (eu X))).T 0 n (⟨1,(f:Int),false⟩:En)) 1 n (⟨1,(f:Int),false⟩:En)) 1 j).k=0):=ae (by
      have Q:=hN.out.1;have Z:=hN.out.2.1;obtain⟨hI,hL,ki,hE,hh,k9⟩:=kY.out;have hA:=Z.share1 (w:=false) hL D ki.1 (by rw[hh];exact hk1) (hN.out.2.2 n (az _)).2 hI (by rw[hh];exact kV) (by rw[hh,hsh];rfl);rw[gW.out,show (⟨1,(f:Int),false⟩:En)=(⟨1,(f:Int),false⟩:En) from by rw[<-kV,<-hk1]] at hA;have k0:eF (⟨1,(f:Int),false⟩:En)=0:=by
       rw[bN] at hE ⊢;rcases hE with M|M|M
       ·omega
       ·first
        | exact .inr (.inl ⟨M.1,M.2⟩)
        | exact .inr (.inl ⟨rfl,by show (0:Int)<=f;omega,by show (f:Int)<40;omega⟩)
       ·omega
      exact⟨⟨Q.sp,Q.fi,Q.ct,Q.dk,by show (A.H.m.fs.set f (eu X)).length=_;rw[bK];exact Q.fl,Q.sl⟩,hA,λj hj=>by show fO (setL (setL A.T 0 n (⟨1,(f:Int),false⟩:En)) 1 n (⟨1,(f:Int),false⟩:En)) 0 j=_/\(fO (setL (setL A.T 0 n (⟨1,(f:Int),false⟩:En)) 1 n (⟨1,(f:Int),false⟩:En)) 1 j).k=0;rw[uk Z.ok hL D k0 _ _ (by omega),uk Z.ok hL D k0 _ _ (by omega)];exact hN.out.2.2 j (by omega)⟩)
     generalize hSx:(A.frs (A.H.m.fs.set f (eu X)))=Sx at J sx hF z hG ha hz hy;clear k4 sx0 bx9 U q;obtain⟨G,I,_,d,kx,kS,_⟩:=J.ent (p:=0) (n:=n) (by omega) D ha;have kd:gx≠G:=λR=>z.out (.inr (by rw[R];simp[iQ,d,oB];right;right;right;right;right;right;right;right;rfl));have hD:gf≠G:=λR=>hF.out (.inr (by rw[R];simp[iQ,d,oB];right;right;right;right;right;right;right;right;rfl));go_upto_region 12 with (fail);refine yl 17 [_,_,_,.v (.slice (some ⟨G,I,none⟩) 2 Sx.cb),_,_,_,_,.v (.slice (some ⟨G,I,none⟩) 2 Sx.cb),_,.v (.agg (jC (⟨1,(f:Int),false⟩:En))),.v (.agg (jC (⟨1,(f:Int),false⟩:En))),_,.v (.pointer (some ⟨G,I+n*3,none⟩)),.r 14 ((dC λ_=>True)),_,.v (.pointer (some ⟨G,I+192+n*3,none⟩))] (Mf S Sx { Sx with T:=setL Sx.T 0 n (⟨1,(f:Int),false⟩:En) } B b w gx gf (⟨1,(f:Int),false⟩:En) (fC (dz C.ar))) bv (λ_=>⟨⟨bx,fx1⟩,λ_=>⟨J,sx⟩,λh=>(by cases h)⟩) (Qk bv rfl (Qk bv rfl (Qf bv b 12 rfl rfl (ah ?v1_1 (Qk bv rfl (Qk bv rfl (Qk bv rfl (Qf bv b 12 rfl rfl (ah ?v1_2 (Qk bv rfl (ah ?v1_3 (ah ?v1_4 (Qr bv (.pointer (some ⟨G,I,none⟩)) (λρ y W o=>(bP (i:=0) rfl (aI rfl o) (aI rfl o) (by decide) underlying96 ents_size)) rfl rfl (ah ?v1_5 (ah ?v1_6 (Qr bv (.pointer (some ⟨G,I+192,none⟩)) (λρ y W o=>(bP (i:=1) rfl (aI rfl o) (aI rfl o) (by decide) underlying96 ents_size)) rfl rfl (ah ?v1_7 (aF)))))))))))))))))) (λ_=>rfl) rfl ?v1_8
    case u1_1|v1_1=>
     intro ρ y W L O hn t c K N;refine fT bv (λ_ _ h=>h) K ?_;have g1:=O 93 2 rfl;have h2:y 2=_:=N 2 rfl;have kB:=DK K (by simp[jE,setL]);refine ak (.slice (some ⟨G,I,none⟩) 2 Sx.cb) (aj rfl) (by simp[execOp,go_sem,bT,g1,h2,kB,jE,d,hG]) rfl
    case u1_2|v1_2=>
     intro ρ y W L O hn t c K N;refine fT bv (λ_ _ h=>h) K ?_;have gZ:=O 98 7 rfl;have h7:y 7=_:=N 7 rfl;have kB:=DK K (by simp[jE,setL]);refine ak (.slice (some ⟨G,I,none⟩) 2 Sx.cb) (aj rfl) (by simp[execOp,go_sem,bT,gZ,h7,kB,jE,d,hG]) rfl
    case u1_5|v1_5=>
     intro ρ y W L O hn t c K N;refine fT bv (λ_ _ h=>h) K ?_;have k2:=O 103 12 rfl;have hA:y 12=_:=N 12 rfl;have g0:=O 95 4 rfl;have h4:y 4=_:=N 4 rfl;have ku:((64:Int)<=(n:Int))=False:=eq_false (by omega);refine ak (.pointer (some ⟨G,I+n*3,none⟩)) (aj rfl) (by simp[execOp,go_sem,bT,k2,hA,g0,h4,D,ku]) rfl
    case u1_7|v1_7=>
     intro ρ y W L O hn t c K N;refine fT bv (λ_ _ h=>h) K ?_;have k1:=O 105 15 rfl;have gm:y 15=_:=N 15 rfl;have k3:=O 100 9 rfl;have M:y 9=_:=N 9 rfl;have ku:((64:Int)<=(n:Int))=False:=eq_false (by omega);refine ak (.pointer (some ⟨G,I+192+n*3,none⟩)) (aj rfl) (by simp[execOp,go_sem,bT,k1,gm,k3,M,D,ku]) rfl
    case u1_3=>
     intro ρ y W L O hn t c K N;refine fT bv (λ_ _ h=>h) K ?_;have E4:ρ (.tmp 4) = .pointer (some ⟨gx,0,none⟩):=(hn (.tmp 4) rfl).trans rfl;refine ak (.agg (jC e)) (aj rfl) (dW rfl E4 K.1.1 underlying68 rfl entry_size3) rfl
    case u1_4=>
     intro ρ y W L O hn t c K N;refine fT bv (λ_ _ h=>h) K ?_;have E4:ρ (.tmp 4) = .pointer (some ⟨gx,0,none⟩):=(hn (.tmp 4) rfl).trans rfl;refine ak (.agg (jC e)) (aj rfl) (dW rfl E4 K.1.1 underlying68 rfl entry_size3) rfl
    case u1_6=>
     intro ρ y W L O hn t c K N;have kq:=O 104 13 rfl;have kE:y 13=_:=N 13 rfl;have kr:=O 101 10 rfl;have hJ:y 10=_:=N 10 rfl;obtain⟨kQ,kN⟩:=K.2.1 t;obtain⟨gQ,oQ,curQ,hQ,qq,kn,km,_,kl⟩:=kQ.ent (p:=0) (n:=n) (by omega) D ha;cases (hQ.symm.trans d);rw[vC,iJ] at km kl;exact Bu (aj rfl) (Ik _ _ _ rfl G (I+n*3) _ (lV e) (kq.trans kE) (kr.trans hJ) rfl curQ _ kn (by rw[fV];exact km) (by kernel_rfl) (bU (jq _))) ⟨⟨K.1.1.grown (aC _ _ _ _) (λR=>kd (aM R).symm),K.1.2.grown (aC _ _ _ _) (λR=>hD (aM R).symm)⟩,λh=>(by cases h),λ_=>⟨kl _ e (kn.setCells _ _) (aC _ _ _ _),kN.put (aC _ _ _ _) (.inr (by simp only[iQ,d];simp[oB];right;right;right;right;right;right;right;right;rfl)) (λx J => .inl J)⟩⟩ trivial
    case u1_8=>
     intro y W9 hZ kb;clear kb;simp only[dh,bT,bR,aY];obtain⟨⟨bx9,U⟩,_,hU⟩:=hZ;obtain⟨M,s9⟩:=hU rfl;have gX:(setL Sx.T 0 n e).length=2:=by unfold setL;rw[bK];exact hG
     obtain⟨gR,oR',curR,hR,gY,ka,h6,_,hH⟩:=M.ent (p:=1) (n:=n) (by show 1<(setL Sx.T 0 n e).length;omega) D (by show (fI (setL Sx.T 0 n e) 1).length=64;rw[si (by omega),if_neg (by decide)];exact hz);have hR:Sx.ab=some ⟨gR,oR',none⟩:=hR;cases (hR.symm.trans d);rw[Ag] at h6 hH;have h0:=ae hH;clear hH hU J sx bx fx1
     go_wp2_with (refine aB rfl _ _ _ rfl G (I+192+n*3) _ (lV e) rfl rfl rfl _ _ ka (by rw[fV];exact h6) (by kernel_rfl) (bU (jq _)) ?_)
     intro w10 ht q;have hJ:=h0.out w10 e ht q;have s10:MS w b S w10 { Sx with T:=setL (setL Sx.T 0 n e) 1 n e }:=s9.put q (.inr (by simp only[iQ,d];simp[oB];right;right;right;right;right;right;right;right;rfl)) (λx J => .inl J);have fx10:=U.grown q (λR=>hD (aM R).symm);clear M s9 bx9 U ka ht q;go_wp2;go_roundw
     case rel=>exact⟨n+1,_,by omega,by go_num,hJ,s10,fx10,hF,hy⟩
     case measure=>simp[intOf];omega
    case v1_3=>
     intro ρ y W L O hn t c K N;refine fT bv (λ_ _ h=>h) K ?_;have E4:ρ (.tmp 4) = .pointer (some ⟨gx,0,none⟩):=(hn (.tmp 4) rfl).trans rfl;refine ak (.agg (jC (⟨1,(f:Int),false⟩:En))) (aj rfl) (dW rfl E4 K.1.1 underlying68 rfl entry_size3) rfl
    case v1_4=>
     intro ρ y W L O hn t c K N;refine fT bv (λ_ _ h=>h) K ?_;have E4:ρ (.tmp 4) = .pointer (some ⟨gx,0,none⟩):=(hn (.tmp 4) rfl).trans rfl;refine ak (.agg (jC (⟨1,(f:Int),false⟩:En))) (aj rfl) (dW rfl E4 K.1.1 underlying68 rfl entry_size3) rfl
    case v1_6=>
     intro ρ y W L O hn t c K N;have kq:=O 104 13 rfl;have kE:y 13=_:=N 13 rfl;have kr:=O 101 10 rfl;have hJ:y 10=_:=N 10 rfl;obtain⟨kQ,kN⟩:=K.2.1 t;obtain⟨gQ,oQ,curQ,hQ,qq,kn,km,_,kl⟩:=kQ.ent (p:=0) (n:=n) (by omega) D ha;cases (hQ.symm.trans d);rw[vC,iJ] at km kl;exact Bu (aj rfl) (Ik _ _ _ rfl G (I+n*3) _ (lV (⟨1,(f:Int),false⟩:En)) (kq.trans kE) (kr.trans hJ) rfl curQ _ kn (by rw[fV];exact km) (by kernel_rfl) (bU (jq _))) ⟨⟨K.1.1.grown (aC _ _ _ _) (λR=>kd (aM R).symm),K.1.2.grown (aC _ _ _ _) (λR=>hD (aM R).symm)⟩,λh=>(by cases h),λ_=>⟨kl _ (⟨1,(f:Int),false⟩:En) (kn.setCells _ _) (aC _ _ _ _),kN.put (aC _ _ _ _) (.inr (by simp only[iQ,d];simp[oB];right;right;right;right;right;right;right;right;rfl)) (λx J => .inl J)⟩⟩ trivial
    case v1_8=>
     intro y W9 hZ kb;clear kb;simp only[dh,bT,bR,aY];obtain⟨⟨bx9,U⟩,_,hU⟩:=hZ;obtain⟨M,s9⟩:=hU rfl;have gX:(setL Sx.T 0 n (⟨1,(f:Int),false⟩:En)).length=2:=by unfold setL;rw[bK];exact hG
     obtain⟨gR,oR',curR,hR,gY,ka,h6,_,hH⟩:=M.ent (p:=1) (n:=n) (by show 1<(setL Sx.T 0 n (⟨1,(f:Int),false⟩:En)).length;omega) D (by show (fI (setL Sx.T 0 n (⟨1,(f:Int),false⟩:En)) 1).length=64;rw[si (by omega),if_neg (by decide)];exact hz);have hR:Sx.ab=some ⟨gR,oR',none⟩:=hR;cases (hR.symm.trans d);rw[Ag] at h6 hH;have h0:=ae hH;clear hH hU J sx bx fx1
     go_wp2_with (refine aB rfl _ _ _ rfl G (I+192+n*3) _ (lV (⟨1,(f:Int),false⟩:En)) rfl rfl rfl _ _ ka (by rw[fV];exact h6) (by kernel_rfl) (bU (jq _)) ?_)
     intro w10 ht q;have hJ:=h0.out w10 (⟨1,(f:Int),false⟩:En) ht q;have s10:MS w b S w10 { Sx with T:=setL (setL Sx.T 0 n (⟨1,(f:Int),false⟩:En)) 1 n (⟨1,(f:Int),false⟩:En) }:=s9.put q (.inr (by simp only[iQ,d];simp[oB];right;right;right;right;right;right;right;right;rfl)) (λx J => .inl J);have fx10:=U.grown q (λR=>hD (aM R).symm);clear M s9 bx9 U ka ht q;go_wp2;go_roundw
     case rel=>exact⟨n+1,_,by omega,by go_num,hJ,s10,fx10,hF,hy⟩
     case measure=>simp[intOf];omega
   by_cases hk2:e.k=2
   case' pos=>
    have Q:=hN.out.1;have Z:=hN.out.2.1;have hL:A.H.ma.sp.length=2:=by rw[<-Z.ok.len];exact hO
    have hh:fO A.T 0 n=e:=by rw[(hN.out.2.2 n (az _)).1];exact gK.out
    have hE:=zh Z.ok (p:=0) (n:=n) (by omega) D;rw[hh] at hE;have kh:=mM Z.ok (p:=0) (n:=n) (by omega) D;rw[hh] at kh;obtain⟨g,hI,hY⟩:=Z.rt.en 0 n (by rw[kh,hk2];decide);rw[kh] at hY;have kP:0<=e.n:=by rcases (bN _).1 hE with M | M | M<;>omega
    obtain⟨Y,g6⟩:=iI kP;have kM:Y<A.H.sl.length:=by have M:=(hY.sw hk2).1;have e1:((eT A.H.ma A.T).sl.length:Nat)=A.H.sl.length:=rfl;omega
    obtain⟨gs,off,cap,cur,hv,gg,hP,ge,kg,kj⟩:=Own.put (enc:=λx=>[fZ x]) (sz:=1) (l:=A.H.sl) (λ_=>rfl) Nat.one_pos (by rw[ko];exact hq.ma.sl) Y kM;have gU:A.H.asl=some ⟨gs,off,none⟩:=(oJ hv).1;rw[tN] at ge kg kj;have gE:jT A.H.ma Y=A.H.sl[Y]:=by unfold jT;show A.H.sl.getD Y 0=_;rw[aX,aH kM];rfl
    have gy:=Z.rt.fewS (s:=Y) kM;have qf:0<=A.H.sl[Y]/\A.H.sl[Y]<=256:=by rw[<-gE];exact gy
    have kT:=ae kj;have gn:=ae gE;have kC:∀W,Below W1.heap.size W1 W->W.cell? ⟨gs,off+Y,none⟩=some (.int .i64 A.H.sl[Y]):=λW K=>by have M:=kg 0 _ rfl;rw[iJ] at M;have h8:=(hP.ext K).cell (off+Y);rw[h8,<-hP.cell];exact M
    have g8:=ae (And.intro hI hL);clear gE kj kg gy hv hI hY hE kh Q Z hL kP;generalize A.H.sl[Y]=v0 at kC qf gn;have gG:IntKind.i64.wrap (v0+1)=v0+1:=bG _ (by omega);have kG:=ae hh;clear hh;go_upto_region 11 with (fail);refine aN 11 [_,_,_,_,_,_,_,_,_,_,_] (Gk rfl (Gk rfl (Gf b 1 rfl rfl (Gf b 3 rfl rfl (Gl hq.blk (V:=.slice (some ⟨gs,off,none⟩) A.H.sl.length A.H.csl) (by simp[jE,gU]) rfl rfl rfl rfl (Gf gx 1 rfl rfl (Gl bx1 (V:=.int .i64 (Y:Int)) (by simp[jC,g6]) rfl rfl rfl rfl (Gr (.pointer (some ⟨gs,off+Y,none⟩)) (λρ y W K o=>(KP rfl (aI rfl o) (aI rfl o) kM)) rfl rfl (Gc (.int .i64 v0) (λW K=>by simp[kC _ K]) rfl rfl rfl rfl (Gb (.int .i64 (v0+1)) (by simp[go_sem,gG]) rfl rfl rfl rfl rfl (Gr (.pointer (some ⟨gs,off+Y,none⟩)) (λρ y W K o=>(KP rfl (aI rfl o) (aI rfl o) kM)) rfl rfl (aF)))))))))))) (λ_=>rfl) rfl ?_;intro y W8 hi _;have hr:=hP.ext hi;have kR:=hq.below hi;have sm8:=sm1.below hi;have bx8:=bx1.ext hi;have fx8:=fx1.ext hi;clear hq sm1 bx1 fx1 hP kA kC hi
    go_wp2_with (refine aB rfl _ _ _ rfl gs (off+Y) _ [.int .i64 (v0+1)] rfl rfl rfl _ _ hr (by show off+Y+1<=cur.size;omega) (by kernel_rfl) (λu hu=>by cases bC.1 hu;rfl) ?_)
    intro w9 kI hV;have gJ:oB A.H.asl=some gs:=by rw[gU];rfl
    have J:fu w9 B b { A with H:={ A.H with sl:=A.H.sl.set Y (v0+1) } }:=kR.putS hr gg gJ hV (sl:=A.H.sl.set Y (v0+1)) (by simp) (by have M:=kT.out w9 (v0+1) kI;rw[ko] at M;simpa using M);have sx:MS w b S w9 { A with H:={ A.H with sl:=A.H.sl.set Y (v0+1) } }:=sm8.put hV (.inr (by simp[iQ,gJ])) (λx J => .inl J);have bx:=bZ bx8 hr (by decide) hV;have fx1:=bZ fx8 hr (by decide) hV;have hF:Hid (¬nL b ({ A with H:={ A.H with sl:=A.H.sl.set Y (v0+1) } }:MW) gf):=gc;have z:Hid (¬nL b ({ A with H:={ A.H with sl:=A.H.sl.set Y (v0+1) } }:MW) gx):=z;have hG:({ A with H:={ A.H with sl:=A.H.sl.set Y (v0+1) } }:MW).T.length=2:=hO;have ha:(fI ({ A with H:={ A.H with sl:=A.H.sl.set Y (v0+1) } }:MW).T 0).length=64:=kp.out 0 (by decide);have hz:(fI ({ A with H:={ A.H with sl:=A.H.sl.set Y (v0+1) } }:MW).T 1).length=64:=kp.out 1 (by decide);have hy:Hid (JG S5 { ({ A with H:={ A.H with sl:=A.H.sl.set Y (v0+1) } }:MW) with T:=setL (setL ({ A with H:={ A.H with sl:=A.H.sl.set Y (v0+1) } }:MW).T 0 n e) 1 n e }/\Bd ({ A with H:={ A.H with sl:=A.H.sl.set Y (v0+1) } }:MW).H.ma (setL (setL ({ A with H:={ A.H with sl:=A.H.sl.set Y (v0+1) } }:MW).T 0 n e) 1 n e)/\∀j:Nat,n+1<=j->fO (setL (setL ({ A with H:={ A.H with sl:=A.H.sl.set Y (v0+1) } }:MW).T 0 n e) 1 n e) 0 j=t0.getD j zEn/\(fO (setL (setL ({ A with H:={ A.H with sl:=A.H.sl.set Y (v0+1) } }:MW).T 0 n e) 1 n e) 1 j).k=0):=ae (by
     have Q:=hN.out.1;have Z:=hN.out.2.1;have hL:=g8.out.2;have hE:=zh Z.ok (p:=0) (n:=n) (by omega) D;rw[kG.out] at hE;have hI:=g8.out.1;rw[oI (by omega)] at hI;have ki:(dD A.H.ma 1).ar=(dD A.H.ma 0).ar:=by show ((A.H.sp.map PS.sp).getD 1 zSp).ar=((A.H.sp.map PS.sp).getD 0 zSp).ar;rw[Q.sp,gD.out,kc.out];rfl
     have hA:=Z.share2 hL D ki (by rw[kG.out];exact hk2) (hN.out.2.2 n (az _)).2 hI (by rw[kG.out];exact g6);rw[kG.out,gn.out] at hA;exact⟨⟨Q.sp,Q.fi,Q.ct,Q.dk,Q.fl,by show (A.H.sl.set Y (v0+1)).length=_;rw[bK];exact Q.sl⟩,hA,λj hj=>by show fO (setL (setL A.T 0 n e) 1 n e) 0 j=_/\(fO (setL (setL A.T 0 n e) 1 n e) 1 j).k=0;rw[uk Z.ok hL D hE _ _ (by omega),uk Z.ok hL D hE _ _ (by omega)];exact hN.out.2.2 j (by omega)⟩)
    clear kR sm8 bx8 fx8 hr kI hV gU gJ;generalize hSx:({ A with H:={ A.H with sl:=A.H.sl.set Y (v0+1) } }:MW)=Sx at J sx hF z hG ha hz hy;obtain⟨G,I,_,d,kx,kS,_⟩:=J.ent (p:=0) (n:=n) (by omega) D ha;have kd:gx≠G:=λR=>z.out (.inr (by rw[R];simp[iQ,d,oB];right;right;right;right;right;right;right;right;rfl));have hD:gf≠G:=λR=>hF.out (.inr (by rw[R];simp[iQ,d,oB];right;right;right;right;right;right;right;right;rfl));go_upto_region 12 with (fail);refine yl 17 [_,_,_,.v (.slice (some ⟨G,I,none⟩) 2 Sx.cb),_,_,_,_,.v (.slice (some ⟨G,I,none⟩) 2 Sx.cb),_,.v (.agg (jC e)),.v (.agg (jC e)),_,.v (.pointer (some ⟨G,I+n*3,none⟩)),.r 14 ((dC λ_=>True)),_,.v (.pointer (some ⟨G,I+192+n*3,none⟩))] (Mf S Sx { Sx with T:=setL Sx.T 0 n e } B b w gx gf e (fC (dz C.ar))) bv (λ_=>⟨⟨bx,fx1⟩,λ_=>⟨J,sx⟩,λh=>(by cases h)⟩) (Qk bv rfl (Qk bv rfl (Qf bv b 12 rfl rfl (ah ?u2_1 (Qk bv rfl (Qk bv rfl (Qk bv rfl (Qf bv b 12 rfl rfl (ah ?u2_2 (Qk bv rfl (ah ?u2_3 (ah ?u2_4 (Qr bv (.pointer (some ⟨G,I,none⟩)) (λρ y W o=>(bP (i:=0) rfl (aI rfl o) (aI rfl o) (by decide) underlying96 ents_size)) rfl rfl (ah ?u2_5 (ah ?u2_6 (Qr bv (.pointer (some ⟨G,I+192,none⟩)) (λρ y W o=>(bP (i:=1) rfl (aI rfl o) (aI rfl o) (by decide) underlying96 ents_size)) rfl rfl (ah ?u2_7 (aF)))))))))))))))))) (λ_=>rfl) rfl ?u2_8
   case' neg=>
    have J:=hq;have sx:=sm1;have bx:=bx1;have hF:=gc;have hG:=hO;have ha:=kp.out 0 (by decide);have hz:=kp.out 1 (by decide);have hy:Hid (JG S5 { A with T:=setL (setL A.T 0 n e) 1 n e }/\Bd A.H.ma (setL (setL A.T 0 n e) 1 n e)/\∀j:Nat,n+1<=j->fO (setL (setL A.T 0 n e) 1 n e) 0 j=t0.getD j zEn/\(fO (setL (setL A.T 0 n e) 1 n e) 1 j).k=0):=ae (by
     have Q:=hN.out.1;have Z:=hN.out.2.1;have hL:A.H.ma.sp.length=2:=by rw[<-Z.ok.len];exact hO
     have hh:fO A.T 0 n=e:=by rw[(hN.out.2.2 n (az _)).1];exact gK.out
     have hE:=zh Z.ok (p:=0) (n:=n) (by omega) D;rw[hh] at hE;have gd:e.k=0:=by
      rcases (bN _).1 hE with M|M|M
      ·exact M.1
      ·exact absurd M.1 hk1
      ·exact absurd M.1 hk2
     have hA:=Z.share0 hL D (by rw[hh];exact gd) (hN.out.2.2 n (az _)).2;rw[hh] at hA;exact⟨⟨Q.sp,Q.fi,Q.ct,Q.dk,Q.fl,Q.sl⟩,hA,λj hj=>by rw[uk Z.ok hL D hE _ _ (by omega),uk Z.ok hL D hE _ _ (by omega)];exact hN.out.2.2 j (by omega)⟩)
    generalize hSx:A=Sx at J sx hF z hG ha hz hy;obtain⟨G,I,_,d,kx,kS,_⟩:=J.ent (p:=0) (n:=n) (by omega) D ha;have kd:gx≠G:=λR=>z.out (.inr (by rw[R];simp[iQ,d,oB];right;right;right;right;right;right;right;right;rfl));have hD:gf≠G:=λR=>hF.out (.inr (by rw[R];simp[iQ,d,oB];right;right;right;right;right;right;right;right;rfl));go_upto_region 12 with (fail);refine yl 17 [_,_,_,.v (.slice (some ⟨G,I,none⟩) 2 Sx.cb),_,_,_,_,.v (.slice (some ⟨G,I,none⟩) 2 Sx.cb),_,.v (.agg (jC e)),.v (.agg (jC e)),_,.v (.pointer (some ⟨G,I+n*3,none⟩)),.r 14 ((dC λ_=>True)),_,.v (.pointer (some ⟨G,I+192+n*3,none⟩))] (Mf S Sx { Sx with T:=setL Sx.T 0 n e } B b w gx gf e (fC (dz C.ar))) bv (λ_=>⟨⟨bx,fx1⟩,λ_=>⟨J,sx⟩,λh=>(by cases h)⟩) (Qk bv rfl (Qk bv rfl (Qf bv b 12 rfl rfl (ah ?v2_1 (Qk bv rfl (Qk bv rfl (Qk bv rfl (Qf bv b 12 rfl rfl (ah ?v2_2 (Qk bv rfl (ah ?v2_3 (ah ?v2_4 (Qr bv (.pointer (some ⟨G,I,none⟩)) (λρ y W o=>(bP (i:=0) rfl (aI rfl o) (aI rfl o) (by decide) underlying96 ents_size)) rfl rfl (ah ?v2_5 (ah ?v2_6 (Qr bv (.pointer (some ⟨G,I+192,none⟩)) (λρ y W o=>(bP (i:=1) rfl (aI rfl o) (aI rfl o) (by decide) underlying96 ents_size)) rfl rfl (ah ?v2_7 (aF)))))))))))))))))) (λ_=>rfl) rfl ?v2_8
   case u2_1|v2_1=>
    intro ρ y W L O hn t c K N;refine fT bv (λ_ _ h=>h) K ?_;have g1:=O 93 2 rfl;have h2:y 2=_:=N 2 rfl;have kB:=DK K (by simp[jE,setL]);refine ak (.slice (some ⟨G,I,none⟩) 2 Sx.cb) (aj rfl) (by simp[execOp,go_sem,bT,g1,h2,kB,jE,d,hG]) rfl
   case u2_2|v2_2=>
    intro ρ y W L O hn t c K N;refine fT bv (λ_ _ h=>h) K ?_;have gZ:=O 98 7 rfl;have h7:y 7=_:=N 7 rfl;have kB:=DK K (by simp[jE,setL]);refine ak (.slice (some ⟨G,I,none⟩) 2 Sx.cb) (aj rfl) (by simp[execOp,go_sem,bT,gZ,h7,kB,jE,d,hG]) rfl
   case u2_3|v2_3=>
    intro ρ y W L O hn t c K N;refine fT bv (λ_ _ h=>h) K ?_;have E4:ρ (.tmp 4) = .pointer (some ⟨gx,0,none⟩):=(hn (.tmp 4) rfl).trans rfl;refine ak (.agg (jC e)) (aj rfl) (dW rfl E4 K.1.1 underlying68 rfl entry_size3) rfl
   case u2_4|v2_4=>
    intro ρ y W L O hn t c K N;refine fT bv (λ_ _ h=>h) K ?_;have E4:ρ (.tmp 4) = .pointer (some ⟨gx,0,none⟩):=(hn (.tmp 4) rfl).trans rfl;refine ak (.agg (jC e)) (aj rfl) (dW rfl E4 K.1.1 underlying68 rfl entry_size3) rfl
   case u2_5|v2_5=>
    intro ρ y W L O hn t c K N;refine fT bv (λ_ _ h=>h) K ?_;have k2:=O 103 12 rfl;have hA:y 12=_:=N 12 rfl;have g0:=O 95 4 rfl;have h4:y 4=_:=N 4 rfl;have ku:((64:Int)<=(n:Int))=False:=eq_false (by omega);refine ak (.pointer (some ⟨G,I+n*3,none⟩)) (aj rfl) (by simp[execOp,go_sem,bT,k2,hA,g0,h4,D,ku]) rfl
   case u2_6|v2_6=>
    intro ρ y W L O hn t c K N;have kq:=O 104 13 rfl;have kE:y 13=_:=N 13 rfl;have kr:=O 101 10 rfl;have hJ:y 10=_:=N 10 rfl;obtain⟨kQ,kN⟩:=K.2.1 t;obtain⟨gQ,oQ,curQ,hQ,qq,kn,km,_,kl⟩:=kQ.ent (p:=0) (n:=n) (by omega) D ha;cases (hQ.symm.trans d);rw[vC,iJ] at km kl;exact Bu (aj rfl) (Ik _ _ _ rfl G (I+n*3) _ (lV e) (kq.trans kE) (kr.trans hJ) rfl curQ _ kn (by rw[fV];exact km) (by kernel_rfl) (bU (jq _))) ⟨⟨K.1.1.grown (aC _ _ _ _) (λR=>kd (aM R).symm),K.1.2.grown (aC _ _ _ _) (λR=>hD (aM R).symm)⟩,λh=>(by cases h),λ_=>⟨kl _ e (kn.setCells _ _) (aC _ _ _ _),kN.put (aC _ _ _ _) (.inr (by simp only[iQ,d];simp[oB];right;right;right;right;right;right;right;right;rfl)) (λx J => .inl J)⟩⟩ trivial
   case u2_7|v2_7=>
    intro ρ y W L O hn t c K N;refine fT bv (λ_ _ h=>h) K ?_;have k1:=O 105 15 rfl;have gm:y 15=_:=N 15 rfl;have k3:=O 100 9 rfl;have M:y 9=_:=N 9 rfl;have ku:((64:Int)<=(n:Int))=False:=eq_false (by omega);refine ak (.pointer (some ⟨G,I+192+n*3,none⟩)) (aj rfl) (by simp[execOp,go_sem,bT,k1,gm,k3,M,D,ku]) rfl
   case u2_8=>
    intro y W9 hZ kb;clear kb;simp only[dh,bT,bR,aY];obtain⟨⟨bx9,U⟩,_,hU⟩:=hZ;obtain⟨M,s9⟩:=hU rfl;have gX:(setL Sx.T 0 n e).length=2:=by unfold setL;rw[bK];exact hG
    obtain⟨gR,oR',curR,hR,gY,ka,h6,_,hH⟩:=M.ent (p:=1) (n:=n) (by show 1<(setL Sx.T 0 n e).length;omega) D (by show (fI (setL Sx.T 0 n e) 1).length=64;rw[si (by omega),if_neg (by decide)];exact hz);have hR:Sx.ab=some ⟨gR,oR',none⟩:=hR;cases (hR.symm.trans d);rw[Ag] at h6 hH;have h0:=ae hH;clear hH hU J sx bx fx1
    go_wp2_with (refine aB rfl _ _ _ rfl G (I+192+n*3) _ (lV e) rfl rfl rfl _ _ ka (by rw[fV];exact h6) (by kernel_rfl) (bU (jq _)) ?_)
    intro w10 ht q;have hJ:=h0.out w10 e ht q;have s10:MS w b S w10 { Sx with T:=setL (setL Sx.T 0 n e) 1 n e }:=s9.put q (.inr (by simp only[iQ,d];simp[oB];right;right;right;right;right;right;right;right;rfl)) (λx J => .inl J);have fx10:=U.grown q (λR=>hD (aM R).symm);clear M s9 bx9 U ka ht q;go_wp2;go_roundw
    case rel=>exact⟨n+1,_,by omega,by go_num,hJ,s10,fx10,hF,hy⟩
    case measure=>simp[intOf];omega
   case v2_8=>
    intro y W9 hZ kb;clear kb;simp only[dh,bT,bR,aY];obtain⟨⟨bx9,U⟩,_,hU⟩:=hZ;obtain⟨M,s9⟩:=hU rfl;have gX:(setL Sx.T 0 n e).length=2:=by unfold setL;rw[bK];exact hG
    obtain⟨gR,oR',curR,hR,gY,ka,h6,_,hH⟩:=M.ent (p:=1) (n:=n) (by show 1<(setL Sx.T 0 n e).length;omega) D (by show (fI (setL Sx.T 0 n e) 1).length=64;rw[si (by omega),if_neg (by decide)];exact hz);have hR:Sx.ab=some ⟨gR,oR',none⟩:=hR;cases (hR.symm.trans d);rw[Ag] at h6 hH;have h0:=ae hH;clear hH hU J sx bx fx1
    go_wp2_with (refine aB rfl _ _ _ rfl G (I+192+n*3) _ (lV e) rfl rfl rfl _ _ ka (by rw[fV];exact h6) (by kernel_rfl) (bU (jq _)) ?_)
    intro w10 ht q;have hJ:=h0.out w10 e ht q;have s10:MS w b S w10 { Sx with T:=setL (setL Sx.T 0 n e) 1 n e }:=s9.put q (.inr (by simp only[iQ,d];simp[oB];right;right;right;right;right;right;right;right;rfl)) (λx J => .inl J);have fx10:=U.grown q (λR=>hD (aM R).symm);clear M s9 bx9 U ka ht q;go_wp2;go_roundw
    case rel=>exact⟨n+1,_,by omega,by go_num,hJ,s10,fx10,hF,hy⟩
    case measure=>simp[intOf];omega
  have qw:¬(n:Int)<64:=by omega
  go_wp2;refine bodyPost_ret (v:=.tuple #[]) (by simp[results,go_sem,results36]) rfl ?_;have Q:=hN.out.1;have hM:=kv.out;refine⟨A,rfl,hm,hs,⟨hN.out.2.1,λp hp n g hg => ?_,Q.fi.trans hM.fi,Q.ct.trans hM.ct,Q.dk.trans hM.dk,by rw[Q.sp];exact hM.sp,Q.fl.trans hM.fs⟩⟩;rw[Q.sp] at hp;rw[Q.fi];exact hM.fm p hp n g hg
theorem JQ (t:Tb) (cs:Array Value) (w:World) (h:FL w cs t):Calls Tryz.prog 101 #[.agg cs] w λr w'=>r = .returned (.int .i64 (dA t))/\Below w.heap.size w w':=by
  go_enter func101,ntmps101;go_upto_region 1 with (fail);refine iC (λW=>Code.wp _ _ _ _ W) λW0 Y hf ht => ?_;clear ht
  go_wp2_with (refine il rfl 74 (.tmp 1) rfl w.heap.size 0 rfl cs.toList hf.rd _ underlying74 tab_agg (by rw[jg,h.sz];exact tab_size) ?_)
  clear hf
  go_loopw [9] (fun i wr => ∃k:Nat,k<=8/\i = .int .i64 k/\Below w.heap.size w wr/\∀i (K:i<8),i<k->mR t[i]=0) (fun i _=>8-(intOf i).toNat)
  case atStart=>exact⟨0,aZ _,rfl,Y,λi _ h=>absurd h (fe _)⟩
  case round=>
    obtain⟨k,hk,rfl,x,hh⟩:=hrel;have J:=ae hh;clear hh Y
    by_cases C:k<8
    · obtain⟨a,c,hm,hA,hv,hx,hu⟩:=h.at' k C;have hw:=λW=>CL C hm W;have hC:decide ((k:Int)<8)=true:=by simp;omega
      unfold maxLen at hv;clear hm
      by_cases I:t[k].length=0\/t[k].length=8
      · have G:=ae I;have hB:t[k].length<=8:=by omega
        have N:((t[k].length:Int) != 0)=true/\((t[k].length:Int) != 8)=false\/((t[k].length:Int) != 0)=false/\((t[k].length:Int) != 8)=true:=by rcases I with e|e<;>simp[e]
        clear I;rcases N with ⟨N,X⟩|⟨N,X⟩
        all_goals
          go_wp2;clear hw
          go_loopw [22,5] (fun i s wr' => ∃j c:Nat,j<=t[k].length/\c<=j/\i = .int .i64 j/\s = .int .i64 c/\Below w.heap.size w wr'/\Hid (c=0↔yN t[k] j=false)/\∀i (K:i<t[k].length),i<j->eF t[k][i]=0) (fun i _ _=>t[k].length-(intOf i).toNat)
          case atStart=>exact⟨0,0,aZ _,az _,rfl,rfl,x,ae (by simp[OO]),λi _ h=>absurd h (fe _)⟩
          case round=>
            obtain⟨j,n,hj,hy,rfl,rfl,q,v,hg⟩:=hrel;have M:=ae hg;clear hg x
            by_cases D:j<t[k].length
            · obtain⟨b,off,rfl,c0,c1,c2⟩:=GM (hu.below q) j D;go_upto_region 10 with (fail);refine iC (λW=>Code.wp _ _ _ _ W) λW3 Z hd hs => ?_;have o:=ag q Z;have m:=hd.cell;have d:Hid (eF t[k][j]≠0->dA t=eF t[k][j]):=ae (λA=>(rH k C J.out (by rw[zF G.out j D M.out A];exact A)).trans (zF G.out j D M.out A));have g:Hid (eF t[k][j]=0->∀i (K:i<t[k].length),i<j+1->eF t[k][i]=0):=ae (λA=>mG M.out D A);have l:Hid (0<=t[k][j].k->((0<t[k][j].k)->(n+1=0↔yN t[k] (j+1)=false))/\(¬0<t[k][j].k->(n=0↔yN t[k] (j+1)=false))):=ae (Rp D v.out);clear q hs c0 c1 c2 Z hd M J v;generalize t[k][j]=E at m d g l;go_wp2
              all_goals first
                | (go_ret
                   refine⟨aW ?_,o⟩;clear m g l
                   go_light
                   have A:eF E≠0->dA t=eF E:=d.out;clear d;unfold eF at A
                   simp_all<;>omega)
                | (have A:eF E=0:=by
                     clear m g l d
                     go_light
                     unfold eF
                     simp_all<;>omega
                   have Q:0<=E.k:=by
                     clear m g l d A
                     go_light
                     omega
                   have z:=ae (g.out A);have u:=ae (l.out Q);clear l g d A m;have R:0<E.k:=by
                     go_light
                     omega
                   have O:=ae (u.out.1 R);clear u;go_roundw
                   case rel=>exact⟨j+1,n+1,by omega,by omega,by go_num,by go_num,o,O,z.out⟩
                   case measure=>simp[intOf];omega)
                | (have A:eF E=0:=by
                     clear m g l d
                     go_light
                     unfold eF
                     simp_all<;>omega
                   have Q:0<=E.k:=by
                     clear m g l d A
                     go_light
                     omega
                   have z:=ae (g.out A);have u:=ae (l.out Q);clear l g d A m;have R:¬0<E.k:=by
                     go_light
                     omega
                   have O:=ae (u.out.2 R);clear u;go_roundw
                   case rel=>exact⟨j+1,n,by omega,by omega,by go_num,rfl,o,O,z.out⟩
                   case measure=>simp[intOf];omega)
            have y:=ae (xM G.out λi K=>M.out i K (by omega));have p:=KU t[k] j (by omega)
            by_cases H:t[k].length=8/\n=0
            · obtain⟨V,U⟩:=H;have f:=ae (y.out.trans (if_pos ⟨by omega,by rw[<-p];exact v.out.1 U⟩));have d:=ae (rH k C J.out (by rw[f.out];decide));have g3:((t[k].length:Int)==8)=true:=by rw[beq_iff_eq];omega
              subst U;clear p V;go_wp2;go_ret;exact⟨aW (d.out.trans f.out).symm,q⟩
            have f:=ae (y.out.trans (if_neg (λh=>H ⟨by have:=G.out;omega,v.out.2 (p.trans h.2)⟩)));have hl:((t[k].length:Int)==8)=false\/((t[k].length:Int)==8)=true/\((n:Int)==0)=false:=by
              by_cases hz:t[k].length=8
              · exact .inr ⟨by rw[beq_iff_eq];omega,by rw[beq_eq_false_iff_ne];omega⟩
              · exact .inl (by rw[beq_eq_false_iff_ne];omega)
            clear H p;rcases hl with V|⟨V,U⟩
            all_goals
              go_wp2;go_roundw
              case rel=>exact⟨k+1,by omega,by go_num,q,mG J.out C f.out⟩
              case measure=>simp[intOf];omega
      have N:((t[k].length:Int) != 0)=true:=by rw[bne_iff_ne];omega
      have X:((t[k].length:Int) != 8)=true:=by rw[bne_iff_ne];omega
      have f:=ae (zg (h:=t[k]) (by omega));have d:=ae (rH k C J.out (by rw[f.out];decide));go_wp2;go_ret;exact⟨aW (d.out.trans f.out).symm,x⟩
    have d:=ae (xA λi K=>J.out i K (by omega));go_wp2;go_ret;exact⟨aW d.out.symm,x⟩
theorem WV (f g:En) (b:Bool) (h:(f==g)=b) (W:World):(Op.equalIn 10000 68 (.agg #[.int .i64 f.k,.int .i64 f.n,.bool f.w]) (.agg #[.int .i64 g.k,.int .i64 g.n,.bool g.w])).run Tryz.prog W = .ok b W:=by
 rw[<-h,Wm]
 by_cases d:(f.k==g.k)=true
 ·by_cases h2:(f.n==g.n)=true
  ·by_cases j:f.w=g.w<;>simp[go_sem,d,h2,j]
  ·simp[go_sem,d,h2]
 ·simp[go_sem,d]
theorem Qh (t u:Tb) (cs J:Array Value) (w:World) (h:FL w cs t) (h' : FL w J u):Calls Tryz.prog 51 #[.agg cs,.agg J] w λr w'=>r = .returned (.bool (Hg t u))/\Below w.heap.size w w':=by
 go_enter func51,ntmps51;go_upto_region 1 with (fail);refine wH (λW=>Code.wp _ _ _ _ W) λW0 Q v q hg => ?_;clear hg;go_wp2
 go_loopw [7] (fun i wr => ∃k:Nat,k<=8/\i = .int .i64 k/\Below w.heap.size w wr/\aG wr w.heap.size cs 74/\aG wr (w.heap.size+1) J 74/\∀i (K:i<8),i<k->t[i]=u[i]) (fun i _=>8-(intOf i).toNat)
 case atStart=>exact⟨0,aZ _,rfl,Q,v,q,λi _ h=>absurd h (fe _)⟩
 case round=>
  obtain⟨k,hk,rfl,d,G,D,z⟩:=hrel;have O:=ae z;clear z Q v q
  by_cases A:k<8
  ·obtain⟨a,c,o,hv,X,ht,Z⟩:=h.at' k A;obtain⟨a',c',n,hu,ha,hm,x⟩:=h'.at' k A;have hz:decide ((k:Int)<8)=true:=by simp;omega
   have hw:(k:Int)<8:=by omega
   unfold maxLen at X ha;have HC:=ae o;have HD:=ae n;have R:=(G.cell k).trans o;have U:=(D.cell k).trans n;clear o n
   by_cases I:t[k].length=u[k].length
   ·have g:=ae I;have Y:((t[k].length:Int) != (u[k].length:Int))=false:=by simp[I]
    clear I
    go_wp2_with fail
    go_quiet (fail);go_wp2;clear R U;generalize hW1:wr.drewN _=w1;have m:Below w.heap.size w w1:=by rw[<-hW1];exact below_drewN d _
    have s:aG w1 w.heap.size cs 74:=by rw[<-hW1];exact G.drewN _
    have p:aG w1 (w.heap.size+1) J 74:=by rw[<-hW1];exact D.drewN _
    clear hW1 d G D
    go_loopw [23] (fun i wr => ∃j:Nat,j<=t[k].length/\i = .int .i64 j/\Below w.heap.size w wr/\aG wr w.heap.size cs 74/\aG wr (w.heap.size+1) J 74/\∀i (K:i<t[k].length),i<j->t[k][i]=u[k][i]'(by have:=g.out;omega)) (λi _=>t[k].length-(intOf i).toNat)
    case atStart=>exact⟨0,aZ _,rfl,m,s,p,λi _ h=>absurd h (fe _)⟩
    case round=>
     obtain⟨j,hj,rfl,d,G,D,y⟩:=hrel;have N:=ae y;clear y m s p;have R:=(G.cell k).trans HC.out;have U:=(D.cell k).trans HD.out
     by_cases C:j<t[k].length
     ·have l : j<u[k].length:=by have:=g.out;omega
      have k1:(j:Int)<(u[k].length:Int):=by omega
      obtain⟨b,off,rfl,c0,c1,c2⟩:=GM (Z.below d) j C;obtain⟨b',M,rfl,d0,d1,d2⟩:=GM (x.below d) j l
      by_cases H:t[k][j]=u[k][j]
      ·have hE:=WV t[k][j] u[k][j] true (beq_iff_eq.2 H);have V:=ae H;clear H
       go_wp2_with fail
       go_quiet (fail);go_wp2;go_roundw
       case rel=>exact⟨j+1,by omega,by go_num,below_drewN d _,G.drewN _,D.drewN _,Xj g.out C N.out V.out⟩
       case measure=>simp[intOf];omega
      have hE:=WV t[k][j] u[k][j] false (beq_eq_false_iff_ne.2 H);have f:=ae (Gi k A (Xa j C l H));clear H
      go_wp2_with fail
      go_quiet (fail);go_wp2;go_ret;exact⟨bY f.out.symm,below_drewN d _⟩
     have hf:=ae (mG O.out A (VW g.out j C N.out));go_wp2;go_roundw
     case rel=>exact⟨k+1,by omega,by go_num,d,G,D,hf.out⟩
     case measure=>simp[intOf];omega
   have Y:((t[k].length:Int) != (u[k].length:Int))=true:=by rw[bne_iff_ne];omega
   have f:=ae (Gi k A (λe=>I (by rw[e])));clear I
   go_wp2_with fail
   go_quiet (fail);go_wp2;go_ret;exact⟨bY f.out.symm,below_drewN d _⟩
  have f:=ae (Gz λi K=>O.out i K (by omega));go_wp2;go_ret;exact⟨bY f.out.symm,d⟩
def xn (l:List En):Array Value:=(l.flatMap lV).toArray
theorem vg (l:List En):(xn l).size=l.length*3:=by
 unfold xn;rw[List.size_toArray,uo]
theorem Vy (l:List En) (k:Nat) (D:k<l.length) (x:En):bI (xn l) (k*3) (lV x)=xn (l.set k x):=by
 apply mH;intro i;have C:=uo l;have c:=uo (l.set k x);rw[bK] at c
 by_cases G:i<l.length*3
 ·have j:i / 3<l.length:=by omega
  have b:i=i / 3*3+i%3:=by omega
  have h2:=jY lV 3 fV (l.set k x) (i / 3) (by simpa using j) (i%3) (by omega);rw[<-b] at h2;have n:=jY lV 3 fV l (i / 3) j (i%3) (by omega);rw[<-b] at n;have u:(xn (l.set k x))[i]?=((l.set k x).flatMap lV)[i]?:=by simp[xn]
  have A:(xn l)[i]?=(l.flatMap lV)[i]?:=by simp[xn]
  by_cases e:i / 3=k
  ·have d:i=k*3+i%3:=by omega
   have a:i%3<(lV x).length:=by rw[fV];omega
   have t:=putAt_in (lV x) (xn l) (k*3) (i%3) (lV x)[i%3] (by rw[fV,vg];omega) (aH a);rw[<-d] at t;rw[t,u,h2];simp only[e,Ig];exact (aH a).symm
  rw[putAt_out _ _ _ _ (by rw[fV];omega),u,h2,A,n];congr 2;rw[Dj (λh=>e h.symm)]
 ·rw[lW (by rw[size_putAt,vg];omega),lW (by rw[vg,bK];omega)]
theorem arr64_size:(Tryz.prog.info? 69).map (·.size)=some 192:=by kernel_rfl
theorem UT (h:aG w b (bI cur 0 (lV E)) T) (d:cur.size=3):aG w b (jC E) T:=by
 have:bI cur 0 (jC E).toList=jC E:=gV cur (jC E) (by rw[d];rfl);have h2:aG w b (bI cur 0 (jC E).toList) T:=h;rwa [this] at h2
theorem HZ (t:Tb) (cs:Array Value) (w:World) (h:FL w cs t) (h0:dA t=0):Calls Tryz.prog 22 #[.agg cs] w λr w'=>r = .returned (.agg (xn (dI t)))/\Below w.heap.size w w':=by
 have H0:=ae h0;clear h0;go_enter func22,ntmps22;go_upto_region 2 with (fail);refine MQ (λW=>Code.wp _ _ _ _ W) λW0 R Z f H hy => ?_;clear hy;replace H:aG W0 (w.heap.size+2) (xn (List.replicate 64 zEn)) 69:=H;replace f:aG W0 (w.heap.size+1) (xn (List.replicate 64 zEn)) 69:=f
 go_wp2_with (refine il rfl 74 (.tmp 1) rfl w.heap.size 0 rfl cs.toList Z.rd _ underlying74 tab_agg (by rw[jg,h.sz];exact tab_size) ?_)
 have K:Hid (LA t (8*0) (List.replicate 64 zEn)):=ae LA.start;clear Z;have hh:=K;rw[Nat.mul_zero] at K
 go_loopw [9] (fun i wr => ∃(k:Nat) (l:List En),k<=8/\i = .int .i64 k/\Below w.heap.size w wr/\aG wr (w.heap.size+2) (xn l) 69/\aG wr (w.heap.size+1) (xn (List.replicate 64 zEn)) 69/\Hid (LA t (8*k) l)) (fun i _=>8-(intOf i).toNat)
 case atStart=>exact⟨0,_,aZ _,rfl,R,H,f,hh⟩
 case round=>
  obtain⟨k,l,C,rfl,G,J,y,Q⟩:=hrel;clear R H f K hh
  by_cases A:k<8
  ·obtain⟨a,c,U,hI,hB,hD,hz⟩:=h.at' k A;have hC:=λW=>CL A U W;have hK:decide ((k:Int)<8)=true:=by simp;omega
   have N:=ae (pW (mD H0.out k A));have hJ:t[k].length<=8:=by have:=N.out;omega
   unfold maxLen at hB;clear U;go_wp2;clear hC
   go_loopw [15] (fun i wr' => ∃(j:Nat) (l' : List En),j<=t[k].length/\i = .int .i64 j/\Below w.heap.size w wr'/\aG wr' (w.heap.size+2) (xn l') 69/\aG wr' (w.heap.size+1) (xn (List.replicate 64 zEn)) 69/\Hid (LA t (8*k+j) l')) (fun i _=>t[k].length-(intOf i).toNat)
   case atStart=>exact⟨0,l,aZ _,rfl,G,J,y,Q⟩
   case round=>
    obtain⟨j,l',hj,rfl,n,z,m,s⟩:=hrel;clear G J y
    by_cases O:j<t[k].length
    ·obtain⟨b,off,E,rfl,hE,c0,c1,c2⟩:=RJ (hz.below n) j O;have V:=ae (GL A (by omega) (by have:=N.out;omega) hE);have hH:(8:Int)*(k:Int)+(j:Int)<64:=by omega
     have M:=ae (s.out.step (by omega) V.out);have hg:Hid ((8*k+j)*3+3<=(xn l').size):=ae (by rw[vg,s.out.len];omega);have hd:Hid (bI (xn l') ((8*k+j)*3) (lV E)=xn (l'.set (8*k+j) E)):=ae (Vy l' _ (by rw[s.out.len];omega) E);clear hE V s
     go_wp2_with (refine aB rfl _ (.tmp 7) (.tmp 19) rfl wr.heap.size 0 _ (lV E) rfl rfl rfl _ _ (aG.new _ _ _) (az 3) entry_size (Bo E) ?_)
     intro I hp q;have hc:=UT hp rfl;have hG:=z.lt;have X:aG I (w.heap.size+2) _ _:=(z.alloc _).grown q (λe=>by have:=aM e;omega);have x:aG I (w.heap.size+1) _ _:=(m.alloc _).grown q (λe=>by have:=aM e;omega);have p:Below w.heap.size w I:=(n.alloc n.size _).grown q (dE n.size _) (λk C=>by cases C;exact n.size);clear hp z m n q
     go_wp2_with (first | (refine il rfl 68 (.tmp 7) rfl wr.heap.size 0 rfl (lV E) hc.rd _ underlying68 rfl entry_size ?_) | (refine aB rfl _ (.tmp 25) (.tmp 24) rfl (w.heap.size+2) ((8*k+j)*3) _ (lV E) rfl rfl rfl _ _ X hg.out entry_size (Bo E) ?_))
     intro D Y g;rw[hd.out] at Y;have hi:aG D (w.heap.size+1) _ _:=x.grown g (λe=>by have:=aM e;omega);have o:Below w.heap.size w D:=p.grown g p.size (λk C=>by cases C;omega);clear X x p g hd hg hc c0 c1 c2;go_wp2;go_roundw
     case rel=>exact⟨j+1,_,by omega,by go_num,o,Y,hi,M⟩
     case measure=>simp[intOf];omega
    have M:Hid (LA t (8*(k+1)) l'):=by
     rcases N.out with e|e
     ·have e0:j=0:=by omega
      subst e0;exact ae (LA.skip s.out A e)
     have e8:j=8:=by omega
     subst e8;exact s
    go_wp2;go_roundw
    case rel=>exact⟨k+1,l',by omega,by go_num,n,z,m,M⟩
    case measure=>simp[intOf];omega
  obtain rfl:k=8:=by omega
  obtain rfl:l=dI t:=Q.out.fin;have hf:(dI t).length=64:=by simp[dI]
  have d:Hid ((xn (dI t)).size=192):=ae (by rw[vg,hf]);have hr:(xn (dI t)).all (·.oneCell')=true:=by rw[<-mE,eZ];intro u hu;exact Cn (dI t) u (by simpa[xn] using hu)
  clear Q hf
  go_wp2_with (first | (refine il rfl 69 (.tmp 3) rfl (w.heap.size+2) 0 rfl (xn (dI t)).toList J.rd _ underlying69 rfl (by rw[jg,d.out];exact arr64_size) ?_) | (refine aA rfl _ (.tmp 2) (.tmp 28) rfl (w.heap.size+1) (xn (dI t)) rfl rfl _ _ y (by rw[d.out];rfl) (by rw[d.out];exact arr64_size) hr ?_))
  intro D hA g;have o:Below w.heap.size w D:=G.grown g G.size (λk C=>by cases C;omega);go_wp2;refine bodyPost_ret (v:=.agg (xn (dI t))) (fA results22 _ _ (w.heap.size+1) _ _ _ rfl hA underlying69 rfl (by rw[d.out];exact arr64_size)) rfl ?_;exact⟨rfl,o⟩
theorem rJ.app {t:Tb} (h:rJ w B cs t) (O:q<8) {l:List En} (N:cs[q]?=some v) (U:Own w' B 68 3 v' l.length (l.flatMap lV)) (Q:w.grownBy w' v.ownBlock)
 (M:v'.ownBlock=v.ownBlock\/∀g,v'.ownBlock=some g->w.heap.size<=g):rJ w' B (cs.setIfInBounds q v') (t.set q l) where
 sz:=by simp[h.sz]
 own:=λk C=>by
  by_cases e:k=q
  ·subst e;exact⟨v',by rw[sI (by rw[h.sz];exact C)],by simpa using U⟩
  obtain⟨u,H,h2⟩:=h.own k C;refine⟨u,by rw[gM (λA=>e A.symm)];exact H,?_⟩;rw[xL O C (λA=>e A.symm)];refine h2.grown Q λg D R => ?_;rcases vN e with n|n
  ·exact h.apart k q u v n H N g D R
  ·exact h.apart q k v u n N H g R D
 apart:=λj k x y f J G g b a=>by
  have I:∀j u,j≠q->cs[j]?=some u->v'.ownBlock=some g->u.ownBlock=some g->False:=by
   intro j u d K D c;have i:j<8:=by
    rcases fQ j 8 with C|C
    ·exact C
    ·rw[lW (by rw[h.sz];exact C)] at K;cases K
   obtain⟨X,H,h2⟩:=h.own j i;rw[K] at H;cases H;rcases M with M|M
   ·rw[M] at D;rcases vN d with n|n
    ·exact h.apart j q u v n K N g c D
    ·exact h.apart q j v u n N K g D c
   have Z:=M g D;have Y:=Nz h2 g c;omega
  by_cases e:j=q
  ·subst e;rw[sI (by rw[h.sz];exact O)] at J;cases J;rw[gM (by omega)] at G;exact I k y (by omega) G b a
  rw[gM (λA=>e A.symm)] at J
  by_cases A:k=q
  ·subst A;rw[sI (by rw[h.sz];exact O)] at G;cases G;exact I j x e J a b
  rw[gM (λV=>A V.symm)] at G;exact h.apart j k x y f J G g b a
theorem RZ {l:List En} (h:aG w b (xn l) T) (d:l[k]?=some E):dZ w (some ⟨b,k*3,none⟩) (lV E):=by
 intro i u t;refine⟨b,k*3,rfl,?_⟩;rw[h.cell];have n:k<l.length:=(cz.1 d).1;have j:l[k]=E:=(cz.1 d).2;have:=flat_get lV 3 fV l k n i u (by rw[j];exact t);simpa[xn] using this
theorem Mc (l:List En) (w:World) (hl:l.length=64):Calls Tryz.prog 38 #[.agg (xn l)] w λr w' => ∃cs,r = .returned (.agg cs)/\rJ w' w.heap.size cs (ic l)/\Below w.heap.size w w':=by
 have J:=ae hl;clear hl;go_enter func38,ntmps38;go_upto_region 2 with (fail);refine MQ (λW=>Code.wp _ _ _ _ W) λW0 kg hX hi kc ko => ?_;clear ko;have kj:rJ W0 w.heap.size #[.slice none 0 0,.slice none 0 0,.slice none 0 0,.slice none 0 0,.slice none 0 0,.slice none 0 0,.slice none 0 0,.slice none 0 0] zTb:=Cg _ _;have hr:Hid (Gw l 0 [] zTb):=ae Gw.start;go_wp2
 go_loopw [8] (fun i wr => ∃(k:Nat) (ca:Array Value) (t:Tb),k<=8/\i = .int .i64 k/\Below w.heap.size w wr/\aG wr w.heap.size (xn l) 69/\aG wr (w.heap.size+1) #[.slice none 0 0,.slice none 0 0,.slice none 0 0,.slice none 0 0,.slice none 0 0,.slice none 0 0,.slice none 0 0,.slice none 0 0] 74/\aG wr (w.heap.size+2) ca 74/\rJ wr w.heap.size ca t/\Hid (Gw l k [] t)) (fun i _=>8-(intOf i).toNat)
 case atStart=>exact⟨0,_,_,aZ _,rfl,kg,hX,hi,kc,kj,hr⟩
 case round=>
  obtain⟨k,ca,t,R,rfl,hp,hx,m,Q,O,hT⟩:=hrel;clear kg hX hi kc kj hr
  by_cases A:k<8
  ·have kK:decide ((k:Int)<8)=true:=by simp;omega
   go_wp2
   go_loopw [6,5] (fun i s wr' => ∃(j:Nat),j<=8/\i = .int .i64 j/\s = .bool (yS l k j)/\wr' = wr) (fun i _ _=>8-(intOf i).toNat)
   case atStart=>exact⟨0,aZ _,rfl,rfl,rfl⟩
   case round=>
    obtain⟨j,hj,rfl,rfl,rfl⟩:=hrel
    by_cases N:j<8
    ·have kt:decide ((j:Int)<8)=true:=by simp;omega
     obtain⟨E,U,hP⟩:=La J.out A N;have ku:=(RZ hx U) 0 (.int .i64 E.k) rfl;obtain⟨_,_,e1,kv⟩:=ku;simp only[jr,ui,and_true] at e1;obtain⟨rfl,rfl⟩:=e1;rw[iJ] at kv;have ke:(8:Int)*(k:Int)+(j:Int)<64:=by omega
     have h0:Hid (yS l k (j+1)=(yS l k j||decide (0<E.k))):=ae (by unfold yS;rw[hP,List.any_append];simp[Jw]);clear U hP;cases hs:yS l k j
     all_goals
      rw[hs] at h0;go_wp2;go_roundw
      case rel=>exact⟨j+1,by omega,by go_num,by rw[h0.out];first | rfl | (congr 1;rw[ni];simp),trivial⟩
      case measure=>simp[intOf];omega
    obtain rfl:j=8:=by omega
    rw[show ((8:Nat):Int)=8 from rfl];cases hsome:yS l k 8
    ·have p:=ae (Vi hsome);clear hsome;go_wp2
     go_loopw [7] (fun i wr'=>i = .int .i64 0/\wr' = wr) (fun _ _=>0)
     case atStart=>exact⟨rfl,rfl⟩
     case round=>
      obtain⟨rfl,rfl⟩:=hrel;have hH:Hid (Gw l (k+1) [] t):=ae (Gw.next (by rw[p.out];exact hT.out) A);go_wp2;go_roundw
      case rel=>exact⟨k+1,ca,t,by omega,by go_num,hp,hx,m,Q,O,hH⟩
      case measure=>simp[intOf];omega
    have p:=ae (Tv hsome);clear hsome;have hr:Hid (Gw l k ((l.drop (8*k)).take 0) t):=hT;go_wp2
    go_loopw [7] (fun i wr' => ∃(j:Nat) (ca' : Array Value) (t' : Tb),j<=8/\i = .int .i64 j/\Below w.heap.size w wr'/\aG wr' w.heap.size (xn l) 69/\aG wr' (w.heap.size+1) #[.slice none 0 0,.slice none 0 0,.slice none 0 0,.slice none 0 0,.slice none 0 0,.slice none 0 0,.slice none 0 0,.slice none 0 0] 74/\aG wr' (w.heap.size+2) ca' 74/\rJ wr' w.heap.size ca' t'/\Hid (Gw l k ((l.drop (8*k)).take j) t')) (fun i _=>8-(intOf i).toNat)
    case atStart=>exact⟨0,ca,t,aZ _,rfl,hp,hx,m,Q,O,hr⟩
    case round=>
     obtain⟨j,ca',t',hj,rfl,hf,hy,n,hB,Z,hq⟩:=hrel;clear hp hx m Q O hT hr
     by_cases N:j<8
     ·have kt:decide ((j:Int)<8)=true:=by simp;omega
      obtain⟨E,U,hP⟩:=La J.out A N;have h3:=RZ hy U;have ke:(8:Int)*(k:Int)+(j:Int)<64:=by omega
      have kr:¬(8:Int)*(k:Int)+(j:Int)<0:=by omega
      have ks:(k:Int)<8:=by omega
      have kd:IntKind.i64.wrap (8*(k:Int))=8*(k:Int):=bG _ (by omega);have kh:IntKind.i64.wrap (8*(k:Int)+(j:Int))=8*(k:Int)+(j:Int):=bG _ (by omega);have kq:(8*(k:Int)+(j:Int)).toNat=8*k+j:=by omega
      have kx:=ae hP;obtain⟨v,hv,ha⟩:=Z.own k A;have hY:=ae hv;have kJ:t'[k].length=j:=by rw[hq.out.at' A];exact EY J.out A (by omega)
      obtain⟨xa,xc,rfl,kI,kH,km,kG⟩:=ha.rd;have HE:=ae U;clear U hP hv;go_upto_region 13 with (fail);refine EX 11 12 [(0,.int .i64 k)] [anyR,mV (.int .i64 k),mV (.pointer (some ⟨w.heap.size+2,k,none⟩)),mV (.slice xa t'[k].length xc),mV (.int .i64 k),mV (.int .i64 (8*(k:Int))),mV (.int .i64 j),mV (.int .i64 (8*(k:Int)+(j:Int))),mV (.pointer (some ⟨w.heap.size,(8*k+j)*3,none⟩)),mV (.agg (jC E)),(XL 1 (lV E))] (by kernel_rfl) (by kernel_rfl) (by kernel_rfl) (by kernel_rfl) (by kernel_rfl) (by kernel_rfl) (by decide) (by decide) _ rfl (by kernel_rfl) (ah ?_ (ah ?_ (ah ?_ (ah ?_ (ah ?_ (ah ?_ (ah ?_ (ah ?_ (ah ?_ (ah ?_ (ah ?_ (aF)))))))))))) (aF) rfl ?_
      ·refine OY rfl ?_;intro ρ y W C D hV;have E4:ρ (.tmp 4) = .int .i64 k:=(D (.tmp 4) rfl).trans rfl;exact⟨(aj rfl),(run_move (.inl rfl) E4)⟩
      ·refine aQ rfl ?_;intro ρ y W C D I G;have E4:ρ (.tmp 4) = .int .i64 k:=(D (.tmp 4) rfl).trans rfl;refine ak (.int .i64 k) (aj rfl) (run_move (.inl rfl) E4) rfl
      ·refine aQ rfl ?_;intro ρ y W C D I G;have E3:ρ (.tmp 3) = .pointer (some ⟨w.heap.size+2,0,none⟩):=(D (.tmp 3) rfl).trans rfl;have kF:=C 34 1 rfl;have h1:y 1 = .int .i64 k:=G 1 rfl;refine ak (.pointer (some ⟨w.heap.size+2,k,none⟩)) (aj rfl) (by simp[execOp,go_sem,E3,kF,h1,underlying74,ks]) rfl
      ·refine aQ rfl ?_;intro ρ y W C D I G;have kE:=C 35 2 rfl;have h2:y 2 = .pointer (some ⟨w.heap.size+2,k,none⟩):=G 2 rfl;refine ak (.slice xa t'[k].length xc) (aj rfl) (by simp[execOp,go_sem,kE,h2,(((hB.ext I).cell k).trans hY.out),underlying72]) rfl
      ·refine aQ rfl ?_;intro ρ y W C D I G;have E4:ρ (.tmp 4) = .int .i64 k:=(D (.tmp 4) rfl).trans rfl;refine ak (.int .i64 k) (aj rfl) (run_move (.inl rfl) E4) rfl
      ·refine aQ rfl ?_;intro ρ y W C D I G;have kD:=C 37 4 rfl;have h4:y 4 = .int .i64 k:=G 4 rfl;have EC:∀v,ρ (.const v)=v:=λv=>D (.const v) trivial;refine ak (.int .i64 (8*(k:Int))) (aj rfl) (by simp[execOp,go_sem,kD,h4,EC,kd]) rfl
      ·refine aQ rfl ?_;intro ρ y W C D I G;have E7:ρ (.tmp 7) = .int .i64 j:=(D (.tmp 7) rfl).trans rfl;refine ak (.int .i64 j) (aj rfl) (run_move (.inl rfl) E7) rfl
      ·refine aQ rfl ?_;intro ρ y W C D I G;have kC:=C 38 5 rfl;have h5:y 5 = .int .i64 (8*(k:Int)):=G 5 rfl;have kB:=C 39 6 rfl;have h6:y 6 = .int .i64 j:=G 6 rfl;refine ak (.int .i64 (8*(k:Int)+(j:Int))) (aj rfl) (by simp[execOp,go_sem,kC,h5,kB,h6,kh]) rfl
      ·refine aQ rfl ?_;intro ρ y W C D I G;have E1:ρ (.tmp 1) = .pointer (some ⟨w.heap.size,0,none⟩):=(D (.tmp 1) rfl).trans rfl;have kA:=C 40 7 rfl;have h7:y 7 = .int .i64 (8*(k:Int)+(j:Int)):=G 7 rfl;refine ak (.pointer (some ⟨w.heap.size,(8*k+j)*3,none⟩)) (aj rfl) (by simp[execOp,go_sem,E1,kA,h7,underlying69,ke,kr,kq]) rfl
      ·refine aQ rfl ?_;intro ρ y W C D I G;have kz:=C 41 8 rfl;have h8:y 8 = .pointer (some ⟨w.heap.size,(8*k+j)*3,none⟩):=G 8 rfl;refine ak (.agg (jC E)) (aj rfl) (bF rfl (kz.trans h8) (vs:=lV E) (h3.below I) underlying68 rfl entry_size) rfl
      ·refine aQ rfl ?_;intro ρ y W C D I G;have ky:=C 42 9 rfl;have h9:y 9 = .agg (jC E):=G 9 rfl;refine jc (.slice (some ⟨W.heap.size,0,none⟩) 1 1) (aj rfl) (by simp[execOp,go_sem,ky,h9,jC]) ((Below.refl _ _).alloc (az _) (.cells (jC E) 68)) ?_;exact⟨_,_,rfl,az _,by unfold maxLen;omega,λe=>(by cases e),dZ.new _ _ _⟩
      intro ρ y WA o Q C D hV b a;cases Q;have hU:y 0 = .int .i64 k:=hV 0 _ rfl;have hS:y 1 = .int .i64 k:=a 1 (by decide);have hR:y 2 = .pointer (some ⟨w.heap.size+2,k,none⟩):=a 2 (by decide);have hD:y 3 = .slice xa t'[k].length xc:=a 3 (by decide);have hQ:y 4 = .int .i64 k:=a 4 (by decide);have hN:y 5 = .int .i64 (8*(k:Int)):=a 5 (by decide);have hM:y 6 = .int .i64 j:=a 6 (by decide);have hL:y 7 = .int .i64 (8*(k:Int)+(j:Int)):=a 7 (by decide);have hK:y 8 = .pointer (some ⟨w.heap.size,(8*k+j)*3,none⟩):=a 8 (by decide);have hJ:y 9 = .agg (jC E):=a 9 (by decide);obtain⟨X,V,hg,M,ymx10,K,H⟩:=a 10 (by decide);have kl:=C 36 3 rfl;rw[hD] at kl;have kk:=C 43 10 rfl;rw[hg] at kk;have EC:∀v,ρ (.const v)=v:=λv=>D (.const v) trivial;have EF:∀f,ρ (.func f) = .func (.func f) #[] #[]:=λf=>D (.func f) trivial;refine Ja (aj rfl) (qi (.tmp 36) (.tmp 43) 72 rfl w.heap.size 68 _ 3 24 underlying72 entry_info rfl (by decide) _ _ _ kl (ha.below b) X 1 V (lV E) kk K M rfl H (Bo E) (by unfold maxLen;omega) (by omega) (bi hf.size b.size)) ?_;rintro Y w4 ⟨h,g,hc⟩;clear a C D hV;simp only[lay,Nat.reduceAdd,Nat.reduceLT,Nat.reduceEqDiff,reduceIte,decide_true,decide_false,if_true,tY,if_false,zK,uF,tZ,yt,zL,yC,hU,hS,hR,hD,hQ,hN,hM,hL,hK,hJ,hg];clear hU hS hR hD hQ hN hM hL hK hJ hg;have q:=ag hf b;have d:=ha.below b;have hA:=lD (hB.ext b) d (by decide) g;have hW:=lD (hy.ext b) d (by decide) g;have hh:=lD (n.ext b) d (by decide) g;have z:=q.grown g q.size (λk R=>d.ge k R);have hm:Own w4 w.heap.size 68 3 Y (t'[k]++[E]).length ((t'[k]++[E]).flatMap lV):=by rw[jf,fE];simpa using h
      have ki:=(Z.below b).app A hY.out hm g hc;have kw:Hid (Gw l k ((l.drop (8*k)).take (j+1)) (t'.set k (t'[k]++[E]))):=ae (by
       have:=hq.out.set (h2:=(l.drop (8*k)).take (j+1)) A;have e:t'[k]++[E]=(l.drop (8*k)).take (j+1):=by rw[kx.out,hq.out.at' A]
       rw[e];exact this)
      have hZ:=Z.sz;have hG:∀u∈[Y],u.oneCell' = true:=by obtain⟨_,_,rfl,_⟩:=h.rd;intro u hu;cases bC.1 hu;rfl
      have kf:(Y.cells.toList:List Value)=[Y]:=by obtain⟨_,_,rfl,_⟩:=h.rd;rfl
      clear q d h hm hc g b hy n hB Z hq ha h3 hf H
      go_wp2_with (refine aB rfl _ (.tmp 45) (.tmp 44) rfl (w.heap.size+2) k _ [Y] rfl rfl kf _ _ hA (by rw[hZ];exact A) slent_size hG ?_)
      intro w5 kb c;rw[Pw.putAt_one] at kb;have hI:=ki.keep hA (by decide) c;have kn:=bZ hW hA (by decide) c;have hF:aG w5 (w.heap.size+1) _ _:=hh.grown c (λe=>by have:=aM e;omega);have x:=z.grown c z.size (λk R=>by cases R;omega);clear hA hW hh z ki c;go_wp2;go_roundw
      case rel=>exact⟨j+1,_,_,by omega,by go_num,x,kn,hF,kb,hI,kw⟩
      case measure=>simp[intOf];omega
     obtain rfl:j=8:=by omega
     have hH:Hid (Gw l (k+1) [] t'):=ae (Gw.next (by rw[p.out];exact hq.out) A);go_wp2;go_roundw
     case rel=>exact⟨k+1,ca',t',by omega,by go_num,hf,hy,n,hB,Z,hH⟩
     case measure=>simp[intOf];omega
  obtain rfl:k=8:=by omega
  have hC:=hT.out.fin;have ka:=O.rd.one;have hz:=O.sz;rw[hC] at O;clear hC
  go_wp2_with (first | (refine il rfl 74 (.tmp 3) rfl (w.heap.size+2) 0 rfl ca.toList Q.rd _ underlying74 tab_agg (by rw[jg,hz];exact tab_size) ?_) | (refine aA rfl _ (.tmp 2) (.tmp 47) rfl (w.heap.size+1) ca rfl rfl _ _ m (by rw[hz];rfl) (by rw[hz];exact tab_size) ka ?_))
  intro w5 kp c;have hI:=O.keep m (by decide) c;have x:Below w.heap.size w w5:=hp.grown c hp.size (λk R=>by cases R;omega);go_wp2;refine bodyPost_ret (v:=.agg ca) (fA results38 _ _ (w.heap.size+1) _ _ _ rfl kp underlying74 rfl (by rw[hz];exact tab_size)) rfl ?_;exact⟨_,rfl,hI,x⟩
theorem IP (t e:TypeId) (z:Value) (j d:Nat) (D:P.underlying t=some (.slice e)) (h2:(P.info? e).map (λi=>(i.zero,i.size,i.bytes))=some (some z,j,d)) (u A:IntKind) (n:Nat) (K:d*n<=281474976710656) (J:n<=9223372036854775807) (w:World) :
  (Instr.makeSlice t (.int u (n:Int)) (.int A (n:Int))).run P w = .ok (.slice (some ⟨w.heap.size,0,none⟩) n n) (w.alloc (.cells (madeCells z.cells (n*j)) e)):=by
 obtain⟨i,H,a,G,I⟩:=info_parts h2;have b : (i.bytes:Int)*(n:Int)<=281474976710656:=by
  have h:((i.bytes*n:Nat):Int)<=281474976710656:=by rw[I];omega
  rwa [Int.natCast_mul] at h
 have C:=run_make (P:=P) w t e i z D H a u A n n (by omega) (tX _) b (by omega);simp only[bA,G] at C;exact C
theorem Dx {α:Type} {n:Nat} (enc:α->List Value) (x:α) (d:∀x,(enc x).length=sz) (t:0<sz) (h:z.toList=enc x) (A:n<=maxLen) (G:B<=g) (C:aG w g (madeCells z (n*sz)) e) :
  Own w B e sz (.slice (some ⟨g,0,none⟩) n n) n ((List.replicate n x).flatMap enc):=
 ⟨by rw[Pw.flat_len enc sz d,kK],.inr ⟨g,0,n,_,rfl,G,C,az _,A,by simp[size_madeCells],λj u D=>by rw[dV,<-uz,GN enc sz d t z x h n];exact D⟩⟩
theorem UM {n:Nat} (h:aG w g (madeCells z (n*8)) e) (h' : aG w g' (madeCells z (n' * 8)) e') (d:Value.slice (some ⟨g,0,none⟩) n n ≠ .slice (some ⟨g',0,none⟩) n' n'):g≠g':=by
 intro u;subst u;have h2:some (Obj.cells (madeCells z (n*8)) e (0,0))=some (Obj.cells (madeCells z (n' * 8)) e' (0,0)):=h.symm.trans h';have t:madeCells z (n*8)=madeCells z (n' * 8):=by injection h2 with h2;injection h2
 have j:=congrArg Array.size t;rw[size_madeCells,size_madeCells] at j;obtain rfl:n=n':=by omega
 exact d rfl
structure JM (W0:World) (B f s ct:Nat) (zf zs zp:Array Value) (L:Nat->Bool) (y:Nat->Value) (W:World):Prop where
 be:Below W0.heap.size W0 W
 k2:L 2=true->∃g,y 2 = .slice (some ⟨g,0,none⟩) f f/\B<=g/\aG W g (madeCells zf (f*13)) 66
 k5:L 5=true->∃g,y 5 = .slice (some ⟨g,0,none⟩) s s/\B<=g/\aG W g (madeCells zs (s*1)) 3
 k7:L 7=true->∃g,y 7 = .slice (some ⟨g,0,none⟩) s s/\B<=g/\aG W g (madeCells zp (s*8)) 58
 k10:L 10=true->∃g,y 10 = .slice (some ⟨g,0,none⟩) ct ct/\B<=g/\aG W g (madeCells zp (ct*8)) 58
 ne:L 7=true->L 10=true->y 7≠y 10
 k3:L 3=true->L 2=true/\y 3 = .agg #[y 2,.int .i64 0]
 k8:L 8=true->L 7=true/\y 8 = .agg #[y 7,.slice none 0 0]
 k11:L 11=true->L 10=true/\y 11 = .agg #[y 10,.slice none 0 0]
 k14:L 14=true->(L 3=true/\L 5=true/\L 8=true/\L 11=true)/\y 14 = .agg #[y 2,.int .i64 0,y 5,y 7,.slice none 0 0,y 10,.slice none 0 0,.slice none 0 0,.int .i64 ct,.slice none 0 0,.slice none 0 0]
theorem tV :∀L y W W',Below W.heap.size W W'->JM W0 B f s ct zf zs zp L y W->JM W0 B f s ct zf zs zp L y W':=λ_ _ _ _ d h=>
 ⟨ag h.be d,λe=>by obtain⟨g,a,b,c⟩:=h.k2 e;exact⟨g,a,b,c.ext d⟩,λe=>by obtain⟨g,a,b,c⟩:=h.k5 e;exact⟨g,a,b,c.ext d⟩,λe=>by obtain⟨g,a,b,c⟩:=h.k7 e;exact⟨g,a,b,c.ext d⟩,λe=>by obtain⟨g,a,b,c⟩:=h.k10 e;exact⟨g,a,b,c.ext d⟩,h.ne,h.k3,h.k8,h.k11,h.k14⟩
theorem Xr (y:Nat->Value):JM W0 B f s ct zf zs zp (λ_=>false) y W0:=
 ⟨Below.refl _ _,λe=>(by cases e),λe=>(by cases e),λe=>(by cases e),λe=>(by cases e),λe=>(by cases e),λe=>(by cases e),λe=>(by cases e),λe=>(by cases e),λe=>(by cases e)⟩
theorem Aq (H:i≠2/\i≠5/\i≠7/\i≠10/\i≠3/\i≠8/\i≠11/\i≠14) (h:JM W0 B f s ct zf zs zp L y W):JM W0 B f s ct zf zs zp (dO L i) (fq y i v) W:=by
 have e:∀k,k≠i->dO L i k=L k/\fq y i v k=y k:=λk G=>⟨by unfold dO;rw[if_neg G],by unfold fq;rw[if_neg G]⟩;have t:=e 2 (by omega);have A:=e 5 (by omega);have j:=e 7 (by omega);have d:=e 10 (by omega);have D:=e 3 (by omega);have C:=e 8 (by omega);have n:=e 11 (by omega);have u:=e 14 (by omega);refine⟨h.be,?_,?_,?_,?_,?_,?_,?_,?_,?_⟩
 ·rw[t.1,t.2];exact h.k2
 ·rw[A.1,A.2];exact h.k5
 ·rw[j.1,j.2];exact h.k7
 ·rw[d.1,d.2];exact h.k10
 ·rw[j.1,j.2,d.1,d.2];exact h.ne
 ·rw[D.1,D.2,t.1,t.2];exact h.k3
 ·rw[C.1,C.2,j.1,j.2];exact h.k8
 ·rw[n.1,n.2,d.1,d.2];exact h.k11
 ·rw[u.1,u.2,D.1,A.1,C.1,n.1,t.2,A.2,j.2,d.2];exact h.k14
theorem oo {p:Prop} (h:L i=false) (h' : L i=true):p:=by rw[h] at h'; cases h'
theorem Xu (d:L 2=false) (n:B<=W0.heap.size) (j:JM W0 B f s ct zf zs zp L y W):JM W0 B f s ct zf zs zp (dO L 2) (fq y 2 (.slice (some ⟨W.heap.size,0,none⟩) f f)) (W.alloc (.cells (madeCells zf (f*13)) 66)):=by
 have h:=tV _ _ _ _ ((Below.refl W.heap.size W).alloc (az _) (.cells (madeCells zf (f*13)) 66)) j;exact⟨h.be,λ_=>⟨_,rfl,bi n j.be.size,aG.new _ _ _⟩,h.k5,h.k7,h.k10,h.ne,λe=>oo d (h.k3 e).1,h.k8,h.k11,λe=>oo d (h.k3 (h.k14 e).1.1).1⟩
theorem Xw (j:L 5=false) (n:B<=W0.heap.size) (d:JM W0 B f s ct zf zs zp L y W):JM W0 B f s ct zf zs zp (dO L 5) (fq y 5 (.slice (some ⟨W.heap.size,0,none⟩) s s)) (W.alloc (.cells (madeCells zs (s*1)) 3)):=by
 have h:=tV _ _ _ _ ((Below.refl W.heap.size W).alloc (az _) (.cells (madeCells zs (s*1)) 3)) d;exact⟨h.be,h.k2,λ_=>⟨_,rfl,bi n d.be.size,aG.new _ _ _⟩,h.k7,h.k10,h.ne,h.k3,h.k8,h.k11,λe=>oo j (h.k14 e).1.2.1⟩
theorem XD (j:L 7=false) (n:B<=W0.heap.size) (d:JM W0 B f s ct zf zs zp L y W):JM W0 B f s ct zf zs zp (dO L 7) (fq y 7 (.slice (some ⟨W.heap.size,0,none⟩) s s)) (W.alloc (.cells (madeCells zp (s*8)) 58)):=by
 have h:=tV _ _ _ _ ((Below.refl W.heap.size W).alloc (az _) (.cells (madeCells zp (s*8)) 58)) d;refine⟨h.be,h.k2,h.k5,λ_=>⟨_,rfl,bi n d.be.size,aG.new _ _ _⟩,h.k10,λ_ e => ?_,h.k3,λe=>oo j (h.k8 e).1,h.k11,λe=>oo j (h.k8 (h.k14 e).1.2.2.1).1⟩;obtain⟨g,A,_,u⟩:=d.k10 e;show Value.slice _ s s≠y 10;rw[A];intro t;simp only[mJ,jr,ui] at t;have:=u.lt;omega
theorem Xg (j:L 10=false) (n:B<=W0.heap.size) (d:JM W0 B f s ct zf zs zp L y W):JM W0 B f s ct zf zs zp (dO L 10) (fq y 10 (.slice (some ⟨W.heap.size,0,none⟩) ct ct)) (W.alloc (.cells (madeCells zp (ct*8)) 58)):=by
 have h:=tV _ _ _ _ ((Below.refl W.heap.size W).alloc (az _) (.cells (madeCells zp (ct*8)) 58)) d;refine⟨h.be,h.k2,h.k5,h.k7,λ_=>⟨_,rfl,bi n d.be.size,aG.new _ _ _⟩,λe _ => ?_,h.k3,h.k8,λe=>oo j (h.k11 e).1,λe=>oo j (h.k11 (h.k14 e).1.2.2.2).1⟩;obtain⟨g,A,_,u⟩:=d.k7 e;show y 7≠Value.slice _ ct ct;rw[A];intro t;simp only[mJ,jr,ui] at t;have:=u.lt;omega
theorem XI (d:L 3=false) (j:L 2=true) (h:JM W0 B f s ct zf zs zp L y W):JM W0 B f s ct zf zs zp (dO L 3) (fq y 3 (.agg #[y 2,.int .i64 0])) W:=
 ⟨h.be,h.k2,h.k5,h.k7,h.k10,h.ne,λ_=>⟨j,rfl⟩,h.k8,h.k11,λe=>oo d (h.k14 e).1.1⟩
theorem XC (d:L 8=false) (j:L 7=true) (h:JM W0 B f s ct zf zs zp L y W):JM W0 B f s ct zf zs zp (dO L 8) (fq y 8 (.agg #[y 7,.slice none 0 0])) W:=
 ⟨h.be,h.k2,h.k5,h.k7,h.k10,h.ne,h.k3,λ_=>⟨j,rfl⟩,h.k11,λe=>oo d (h.k14 e).1.2.2.1⟩
theorem WS (d:L 11=false) (j:L 10=true) (h:JM W0 B f s ct zf zs zp L y W):JM W0 B f s ct zf zs zp (dO L 11) (fq y 11 (.agg #[y 10,.slice none 0 0])) W:=
 ⟨h.be,h.k2,h.k5,h.k7,h.k10,h.ne,h.k3,h.k8,λ_=>⟨j,rfl⟩,λe=>oo d (h.k14 e).1.2.2.2⟩
theorem WQ (t:L 3=true) (n:L 5=true) (j:L 8=true) (d:L 11=true) (h:JM W0 B f s ct zf zs zp L y W) :
  JM W0 B f s ct zf zs zp (dO L 14) (fq y 14 (.agg #[y 2,.int .i64 0,y 5,y 7,.slice none 0 0,y 10,.slice none 0 0,.slice none 0 0,.int .i64 ct,.slice none 0 0,.slice none 0 0])) W:=
 ⟨h.be,h.k2,h.k5,h.k7,h.k10,h.ne,h.k3,h.k8,h.k11,λ_=>⟨⟨t,n,j,d⟩,rfl⟩⟩
def Uo (gf gs gw gd f s ct:Nat):MH:=⟨some ⟨gf,0,none⟩,f,⟨List.replicate f fr0,0⟩,some ⟨gs,0,none⟩,s,List.replicate s 0,some ⟨gw,0,none⟩,s,none,0,⟨List.replicate s zPg,[]⟩,some ⟨gd,0,none⟩,ct,none,0,⟨List.replicate ct zPg,[]⟩,none,0,[],ct,none,0,[],none,0,[]⟩
theorem UI {l:List UInt8} (J:ve w al cl l.length (l.map CQ)) (N:∀a,al=some a->l.map CQ≠[]->a.block<B) (O:B<=b) (K:aG w b (jE ⟨al,cl,l,Uo gf gs gw gd f s ct,none,0,[]⟩) 98)
 (hf:f<=40) (hs:s<=60) (hc:ct<=80) (b1:B<=gf) (Z:B<=gs) (Y:B<=gw) (X:B<=gd) (h:gw≠gd) (R:zf.toList=pG fr0) (Q:zs.toList=[fZ 0]) (j:zp.toList=CV zPg)
 (k1:aG w gf (madeCells zf (f*13)) 66) (H:aG w gs (madeCells zs (s*1)) 3) (G:aG w gw (madeCells zp (s*8)) 58) (D:aG w gd (madeCells zp (ct*8)) 58):fu w B b ⟨al,cl,l,Uo gf gs gw gd f s ct,none,0,[]⟩:=by
 have m:maxLen=maxLen:=rfl;have C:=Dx pG fr0 (n:=f) fJ (by decide) R (by unfold maxLen;omega) b1 k1;have A:=Dx (λx=>[fZ x]) (0:Int) (n:=s) (λ_=>rfl) (by decide) Q (by unfold maxLen;omega) Z H;have u:=Dx CV zPg (n:=s) nK (by decide) j (by unfold maxLen;omega) Y G;have t:=Dx CV zPg (n:=ct) nK (by decide) j (by unfold maxLen;omega) X D;refine⟨K,O,⟨?_,?_,⟨?_,Own.nil _ _ _ _⟩,⟨?_,Own.nil _ _ _ _⟩,qC.nil _ _,Own.nil _ _ _ _,Own.nil _ _ _ _,λp d=>(by cases d),by show (-9223372036854775808:Int)<=(ct:Int)/\(ct:Int)<=9223372036854775807;omega⟩,Own.nil _ _ _ _,J,N,?_,λp d=>(by cases d),rfl⟩
 ·show Own w B _ 13 (.slice (some ⟨gf,0,none⟩) (List.replicate f fr0).length f) (List.replicate f fr0).length _;rw[kK];exact C
 ·show Own w B _ 1 (.slice (some ⟨gs,0,none⟩) (List.replicate s (0:Int)).length s) (List.replicate s (0:Int)).length ((List.replicate s (0:Int)).map fZ);rw[kK,<-ko];exact A
 ·show Own w B _ 8 (.slice (some ⟨gw,0,none⟩) (List.replicate s zPg).length s) (List.replicate s zPg).length _;rw[kK];exact u
 ·show Own w B _ 8 (.slice (some ⟨gd,0,none⟩) (List.replicate ct zPg).length ct) (List.replicate ct zPg).length _;rw[kK];exact t
 intro x I M;have V:gw=x:=by simpa[Uo,oB,Value.ownBlock] using I
 have U:gd=x:=by simpa[Uo,oB,Value.ownBlock] using M
 exact h (V.trans U.symm)
def BG (f q:Nat):List Fr:=List.replicate q frZ++List.replicate (f-q) fr0
theorem JB (h:q<=f):(BG f q).length=f:=by unfold BG;simp;omega
theorem UH (h:q<f) (d:q<(BG f q).length):(BG f q)[q]=fr0:=by
 have:(BG f q)[q]?=some fr0:=by unfold BG;rw[jU (by simp),kK,qh,pV,if_pos (by omega)]
 rw[aH d] at this;exact aM this
theorem Vu (h:q<f):(BG f q).set q frZ=BG f (q+1):=by
 unfold BG;rw[List.set_append,if_neg (by simp),kK,qh];obtain⟨d,j⟩:∃d,f-q=d+1:=⟨f-q-1,by omega⟩;rw[j,show f-(q+1)=d by omega,List.replicate_succ,uF,List.replicate_succ',jG];rfl
theorem Uw (f:Nat):BG f f=List.replicate f frZ:=by unfold BG;simp
theorem Vn {o:Nat} (d:o+13<=cur.size) (A:∀j u,(pG fr0)[j]?=some u->cur[o+j]?=some u):bI cur (o+11) [.int .i64 (-1)]=bI cur o (pG frZ):=
 GK (xs:=pG fr0) rfl d A (by decide) (λi n=>by
  obtain rfl:i=0:=by simpa using n
  rfl) (λi n=>by
  by_cases t:i<13
  ·match i,t,n with
   | 0,_,_=>rfl
   | 1,_,_=>rfl
   | 2,_,_=>rfl
   | 3,_,_=>rfl
   | 4,_,_=>rfl
   | 5,_,_=>rfl
   | 6,_,_=>rfl
   | 7,_,_=>rfl
   | 8,_,_=>rfl
   | 9,_,_=>rfl
   | 10,_,_=>rfl
   | 11,_,h=>exact absurd h (by simp)
   | 12,_,_=>rfl
  ·rw[fw (by rw[fJ];omega),fw (by rw[fJ];omega)])
structure IJ (f s ct:Nat) (as0:Option Addr) (fi0:List PF) (bl:List Page) (q:List (Int × Page)) (S:MW):Prop where
 m:S.H.m=⟨List.replicate f frZ,0⟩
 asl:S.H.asl=as0
 sl:S.H.sl=List.replicate s 0
 sw:S.H.sw=⟨List.replicate s zPg,[]⟩
 dk:S.H.dk=⟨bl,q⟩
 fi:S.H.fi=fi0
 ct:S.H.ct=ct
 ca:S.H.ca=[]
 sp:S.H.sp=[]
 T:S.T=[]
theorem IJ.ma {q:List (Int × Page)} (h:IJ f s ct as0 fi0 bl q S):S.H.ma=BD f s ct bl q (fi0.map PF.fi):=by
 unfold MH.ma BD cK;rw[h.m,h.sl,h.sw,h.dk,h.fi,h.ct,h.ca,h.sp];rfl
theorem IJ.lst {q:List (Int × Page)} (h:IJ f s ct as0 fi0 bl q S) (a:Option Addr) (c:Nat) (l:List UInt8):IJ f s ct as0 fi0 bl q (S.lst a c l):=⟨h.m,h.asl,h.sl,h.sw,h.dk,h.fi,h.ct,h.ca,h.sp,h.T⟩
theorem fu.kb_int (h:fu w B b S) {x:Nat} (t:aG w x cs 3) (j:oB S.H.asl≠some x):¬nL b S x:=by
 have own:∀ {e:TypeId} {sz n c:Nat} {a:Option Addr} {xs:List Value},3≠e->Own w B e sz (.slice a n c) n xs->oB a=some x->False:=λu A j=>by obtain⟨_,C,h2⟩:=iY A j;exact lX t h2 u rfl
 intro d;rcases d with d | d
 ·subst d; exact lX t h.blk (by decide) rfl
 simp only[iQ,dw,gN,or_false] at d;rcases d with d | d | d | d | d | d | d | d | d
 ·exact own (by decide) h.ma.fr d.symm
 ·exact j d.symm
 ·exact own (by decide) h.ma.sw.b d.symm
 ·exact own (by decide) h.ma.dk.b d.symm
 ·exact own (by decide) h.ma.dk.q d.symm
 ·exact own (by decide) h.ma.st.own d.symm
 ·exact own (by decide) h.ma.ca d.symm
 ·exact own (by decide) h.ma.sp d.symm
 ·exact own (by decide) h.tt d.symm
theorem fu.locI (h:fu w B b S) (G:aG w g cs 3) (D:¬nL b S g) (C:∀p∈S.H.fi,oB p.a≠some g) (A:B<=g) (j:w.grownBy w' (some g)):fu w' B b S:=by
 have d:∀ {a:Option Addr},oB a∈iQ S->∀n c g',(Value.slice a n c).ownBlock=some g'->some g≠some g':=λI n c g' t e=>by cases e;rw[jA] at t;exact D (.inr (by rw[<-t];exact I))
 exact⟨h.blk.grown j (λe=>D (.inl (aM e))),h.ge,⟨h.ma.fr.grown j (d (by simp[iQ]) _ _),h.ma.sl.grown j (d (by simp[iQ]) _ _),⟨h.ma.sw.b.grown j (d (by simp[iQ]) _ _),h.ma.sw.q.grown j (λg' t=>by rw[h.n3] at t;cases t)⟩,⟨h.ma.dk.b.grown j (d (by simp[iQ]) _ _),h.ma.dk.q.grown j (d (by simp[iQ]) _ _)⟩,
  ⟨h.ma.st.own.grown j (d (by simp[iQ]) _ _),λi p u=>(h.ma.st.each i p u).grown j (λg' t e=>by cases e;unfold nT at t;rw[jA] at t;exact C p (bV u) t),h.ma.st.apart⟩,h.ma.ca.grown j (d (by simp[iQ]) _ _),h.ma.sp.grown j (d (by simp[iQ]) _ _),λp u=>⟨ax (h.ma.ps p u).1 G (by decide) j,(h.ma.ps p u).2.keep G (by decide) j⟩,h.ma.c64⟩,
  h.tt.grown j (d (by simp[iQ]) _ _),h.rd.keep h.ra h.bs j A,h.ra,h.n1,h.n2,h.n3⟩
theorem fu.setTb (h:fu w B b S) {P:PS} (C:S.H.sp[p]?=some P) :
  ∃g off cur,S.H.ap=some ⟨g,off,none⟩/\B<=g/\aG w g cur 76/\off+p*10+2+8<=cur.size /\
   ∀(w' : World) (v:Vector Value 8) (t:Tb),rJ w B (oh v) t->aG w' g (bI cur (off+p*10+2) (oh v).toList) 76->w.grownBy w' (some g)->fu w' B b { S with H:={ S.H with sp:=S.H.sp.set p { P with ts:=v,tb:=t } } }:=by
 have G:=(cz.1 C).1;have l:=(cz.1 C).2;obtain⟨g,off,Q,cur,D,J,a,m,f⟩:=oO oq (by decide) rfl h.ma.sp p G;simp only[mJ] at D;obtain⟨k,_,n⟩:=D;have e:=h.ma.sp;rw[k] at e;have d:=BC e a;have i:∀j u,(sV P)[j]?=some u->cur[off+p*10+j]?=some u:=λj u M=>by rw[nQ];exact d _ _ (flat_get sV 10 oq S.H.sp p G j u (by rw[l];exact M))
 refine⟨g,off,cur,k,J,a,by omega,λw' v t K I N => ?_⟩;have O:bI cur (off+p*10) (sV { P with ts:=v,tb:=t })=bI cur (off+p*10+2) (oh v).toList:=by show bI cur (off+p*10) (.bool P.lv :: .slice P.aa P.ar.length P.ac::(oh v).toList)=_;rw[vF _ (by simpa using i 0 _ rfl),vF _ (i 1 _ rfl)]
 rw[<-O] at I;have c:(S.H.sp.set p { P with ts:=v,tb:=t }).length=S.H.sp.length:=bK;refine h.putP a J N c (by rw[c];exact f w' _ I) λq A => ?_;rcases lL A with A|rfl
 ·exact h.ma.ps q A
 ·exact⟨(h.ma.ps P (bV C)).1,K⟩
def EH (S:MW) (B b:Nat) (w:World) (ks:List (Nat × Array Value × TypeId)) (p q:Nat) (e:TypeId) (sz n:Nat) (v0:Value) (old xs:List Value):(Nat->Bool)->(Nat->Value)->World->Prop:=λL y W=>
 (aG W b (jE S) 98/\∀t∈ks,aG W t.1 t.2.1 t.2.2)/\(L p=false->fu W B b S/\MS w b S W S)/\(L q=true->L p=false->∃a c,y q = .slice a 1 c/\ve W a c 1 xs) /\
 (L p=true->∃w1,fu w1 B b S/\MS w b S w1 S/\w1.grownBy W v0.ownBlock/\Own W B e sz (y p) (n+1) (old++xs)/\nY w1 v0 (y p))
theorem fG {ks:List (Nat × Array Value × TypeId)} {n:Nat} :∀L y W W',Below W.heap.size W W'->EH S B b w ks p q e sz n v0 old xs L y W->EH S B b w ks p q e sz n v0 old xs L y W':=
 λ_ _ _ _ hb ⟨h1,h2,h3,h4⟩=>⟨⟨h1.1.ext hb,λt A=>(h1.2 t A).ext hb⟩,λe=>⟨(h2 e).1.below hb,(h2 e).2.below hb⟩,λD C=>by
  obtain⟨a,e,k1,d⟩:=h3 D C;exact⟨a,e,k1,d.below hb⟩,λe=>by
  obtain⟨w1,k1,d,u,j,h⟩:=h4 e;exact⟨w1,k1,d,Kb u hb,j.below hb,h⟩⟩
theorem gD {ks:List (Nat × Array Value × TypeId)} {n:Nat} (j:i≠q/\i≠p) (h:EH S B b w ks p q e sz n v0 old xs L y W):EH S B b w ks p q e sz n v0 old xs (dO L i) (fq y i v) W:=by
 obtain⟨G,h2,D,C⟩:=h;have A:dO L i q=L q:=by unfold dO;rw[if_neg (λe=>j.1 e.symm)]
 have d:dO L i p=L p:=by unfold dO;rw[if_neg (λe=>j.2 e.symm)]
 have u:fq y i v q=y q:=by unfold fq;rw[if_neg (λe=>j.1 e.symm)]
 have t:fq y i v p=y p:=by unfold fq;rw[if_neg (λe=>j.2 e.symm)]
 exact⟨G,by rw[d];exact h2,by rw[A,d,u];exact D,by rw[d,t];exact C⟩
theorem Sv {ks:List (Nat × Array Value × TypeId)} {n:Nat} (d:p≠q) (A:Below W.heap.size W W') (h:EH S B b w ks p q e sz n v0 old xs L y W) (u:ve W' a c 1 xs) :
  EH S B b w ks p q e sz n v0 old xs (dO L q) (fq y q (.slice a 1 c)) W':=by
 obtain⟨D,h2,G,C⟩:=fG _ _ _ _ A h;have j:dO L q p=L p:=by unfold dO;rw[if_neg d]
 have t:fq y q (.slice a 1 c) p=y p:=by unfold fq;rw[if_neg d]
 exact⟨D,by rw[j];exact h2,λ_ _=>⟨a,c,by unfold fq;rw[if_pos rfl],u⟩,by rw[j,t];exact C⟩
theorem TJ {ks:List (Nat × Array Value × TypeId)} {n:Nat} (A:L p=false) (h:EH S B b w ks p q e sz n v0 old xs L y W) (j:W.grownBy W' v0.ownBlock)
 (d:∀g,v0.ownBlock=some g->g≠b/\∀t∈ks,t.1≠g) (G:Own W' B e sz v (n+1) (old++xs)) (D:nY W v0 v):EH S B b w ks p q e sz n v0 old xs (dO L p) (fq y p v) W':=by
 obtain⟨C,h2,I,H⟩:=h;refine⟨⟨C.1.grown j (λe=>(d b e).1 rfl),λt u=>(C.2 t u).grown j (λe=>(d _ e).2 t u rfl)⟩,λe => ?_,λ_ e => ?_,λ_=>⟨W,(h2 A).1,(h2 A).2,j,by unfold fq;rw[if_pos rfl];exact G,by unfold fq;rw[if_pos rfl];exact D⟩⟩<;>· unfold dO at e;rw[if_pos rfl] at e;cases e
theorem SY {ks:List (Nat × Array Value × TypeId)} {n:Nat} (h:fu w B b S) (d:∀t∈ks,aG w t.1 t.2.1 t.2.2) (y:Nat->Value):EH S B b w ks p q e sz n v0 old xs (λ_=>false) y w:=
 ⟨⟨h.blk,d⟩,λ_=>⟨h,MS.refl _ _ _⟩,λe=>(by cases e),λe=>(by cases e)⟩
def FI (S:MW) (B b:Nat) (w:World) (gf:Nat) (F:PF):(Nat->Bool)->(Nat->Value)->World->Prop:=λL y W=>
 (∃a c l,fu W B b (S.lst a c l)/\MS w b S W (S.lst a c l))/\aG W gf (qw F) 101/\Own W B 3 1 (nT F) F.l.length (F.l.map fZ) /\
 (L 4=true->L 11=false->∃g,y 4 = .slice (some ⟨g,0,none⟩) 0 0/\Own W w.heap.size 101 2 (.slice (some ⟨g,0,none⟩) 0 0) 0 []) /\
 (L 11=true->L 14=false->Own W w.heap.size 101 2 (y 11) S.H.fi.length (S.H.fi.flatMap qW)) /\
 (L 13=true->L 14=false->Own W w.heap.size 101 2 (y 13) 1 (qW F)) /\
 (L 14=true->Own W w.heap.size 101 2 (y 14) (S.H.fi.length+1) (S.H.fi.flatMap qW++qW F))/\w.heap.size<=W.heap.size/\(L 15=true->L 14=true/\y 15 = .agg #[y 14,.int .i64 0])
theorem eD :∀L y W W',Below W.heap.size W W'->FI S B b w gf F L y W->FI S B b w gf F L y W':=
 λ_ _ _ _ hb ⟨⟨a,c,l,h1,h2⟩,h3,h4,h5,h6,h7,h8,h9,h10⟩=>⟨⟨a,c,l,h1.below hb,h2.below hb⟩,h3.ext hb,h4.below hb,λd h=>by obtain⟨g,k1,j⟩:=h5 d h;exact⟨g,k1,j.below hb⟩,λd h=>(h6 d h).below hb,λd h=>(h7 d h).below hb,λd=>(h8 d).below hb,bi h9 hb.size,h10⟩
theorem VG (h:fu w B b S) (j:aG w gf (qw F) 101) (d:Own w B 3 1 (nT F) F.l.length (F.l.map fZ)) (y:Nat->Value):FI S B b w gf F (λ_=>false) y w:=
 ⟨⟨S.al,S.cl,S.l,h,MS.refl _ _ _⟩,j,d,λe=>(by cases e),λe=>(by cases e),λe=>(by cases e),λe=>(by cases e),az _,λe=>(by cases e)⟩
theorem fD (C:i≠4/\i≠11/\i≠13/\i≠14/\i≠15) (h:FI S B b w gf F L y W):FI S B b w gf F (dO L i) (fq y i v) W:=by
 have e:∀k,k=4\/k=11\/k=13\/k=14\/k=15->dO L i k=L k/\fq y i v k=y k:=λk A=>⟨by unfold dO;rw[if_neg (by omega)],by unfold fq;rw[if_neg (by omega)]⟩;have u:=e 4 (by decide);have t:=e 11 (by decide);have n:=e 13 (by decide);have j:=e 14 (by decide);have d:=e 15 (by decide);unfold FI;rw[u.1,u.2,t.1,t.2,n.1,n.2,j.1,j.2,d.1,d.2];exact h
theorem WU (h:FI S B b w gf F L y W):FI S B b w gf F (dO L 4) (fq y 4 (.slice (some ⟨W.heap.size,0,none⟩) 0 0)) (W.alloc (.cells #[] 101)):=by
 obtain⟨C,A,u,D,t,n,j,d,a⟩:=eD _ _ _ _ ((Below.refl _ _).alloc (az _) (.cells #[] 101)) h;exact⟨C,A,u,λ_ _=>⟨_,rfl,Own.empty _ _ h.2.2.2.2.2.2.2.1⟩,t,n,j,d,a⟩
theorem Wd (h:FI S B b w gf F L y W) (j:Below W.heap.size W W') (d:Own W' w.heap.size 101 2 v S.H.fi.length (S.H.fi.flatMap qW)):FI S B b w gf F (dO L 11) (fq y 11 v) W':=by
 obtain⟨D,C,A,I,G,u,t,n,a⟩:=eD _ _ _ _ j h;exact⟨D,C,A,λ_ e=>(by cases e),λ_ _=>d,u,t,n,a⟩
theorem Wi (h:FI S B b w gf F L y W) (j:Below W.heap.size W W') (d:Own W' w.heap.size 101 2 v 1 (qW F)):FI S B b w gf F (dO L 13) (fq y 13 v) W':=by
 obtain⟨G,D,C,A,u,H,t,n,a⟩:=eD _ _ _ _ j h;exact⟨G,D,C,A,u,λ_ _=>d,t,n,a⟩
theorem Oa (h:fu w B b S) {l:List UInt8} {x:Nat} (d:w.heap.size<=x):¬nL b (S.lst a c l) x:=λj=>h.new d j
theorem Wx (G:fu w B b S) (J:gf<w.heap.size) (h:FI S B b w gf F L y W) (A:L 11=true) (u:L 14=false) (n:W.grownBy W' (y 11).ownBlock) (I:Own W' w.heap.size 101 2 v (S.H.fi.length+1) (S.H.fi.flatMap qW++qW F)) :
  FI S B b w gf F (dO L 14) (fq y 14 v) W':=by
 obtain⟨⟨a,c,l,D,h2⟩,N,C,R,M,Q,O,K,i⟩:=h;have t:=M A u;have d:∀k,(y 11).ownBlock=some k->w.heap.size<=k:=λk j=>t.ge k j;refine⟨⟨a,c,l,?_,?_⟩,N.grown n (λe=>by have:=d _ e;omega),?_,λ_ e=>(by rw[show dO L 14 11=L 11 from rfl,A] at e;cases e),λ_ e=>(by cases e),λ_ e=>(by cases e),λ_=>I,bi K n.size,λe=>oo u (i e).1⟩
 ·cases j:(y 11).ownBlock with
  | none=>rw[j] at n;exact D.below (lg n)
  | some g=>
   rw[j] at n;obtain⟨cs,f⟩:=mK t g j;exact D.locT f (by decide) (Oa G (d g j)) (bi G.bs (d g j)) n
 ·cases j:(y 11).ownBlock with
  | none=>rw[j] at n;exact h2.below (lg n)
  | some g=>rw[j] at n;exact h2.loc n (d g j)
 cases j:(y 11).ownBlock with
 | none=>rw[j] at n;exact C.below (lg n)
 | some g=>
  rw[j] at n;obtain⟨cs,f⟩:=mK t g j;exact ax C f (by decide) n
theorem RG (J:i≠4/\i≠11/\i≠13/\i≠14/\i≠15) (Z:fu w B b S) (C:¬nL b S gf) (A:∀x,(nT F).ownBlock=some x->¬nL b S x) (n:Int) (hn : -9223372036854775808<=n/\n<=9223372036854775807) (h:FI S B b w gf F L y W) {R:Value->World->Prop} (K:∀x:Int,0<=x->x<256->∀W',R (.int .i64 x) W') :
  Calls Tryz.prog 32 #[.pointer (some ⟨b,0,none⟩),.int .i64 n] W λe W' => ∃v,e = .returned v/\FI S B b w gf F (dO L i) (fq y i v) W'/\R v W':=by
 obtain⟨⟨a,c,l,Y,h2⟩,X,V,U,Q,O,N,M,f⟩:=h;refine (fU _ n B b W Y hn).mono ?_;rintro r W' ⟨x,a',c',H,rfl,k1,t,D,_⟩;have d:∀ {e:TypeId} {sz n:Nat} {v:Value} {xs:List Value},Own W w.heap.size e sz v n xs->Own W' w.heap.size e sz v n xs:=λG=>t.ownN G λx I=>Oa Z (G.ge x I);refine⟨_,rfl,fD J ⟨⟨a',c',H,k1,h2.trans t⟩,t.blkN X C,t.ownN V A,λj u => ?_,λj u=>d (Q j u),λj u=>d (O j u),λj=>d (N j),bi M t.size,f⟩,K x D.1 D.2.1 W'⟩;obtain⟨g,e3,e4⟩:=U j u;exact⟨g,e3,d e4⟩
theorem VP (d:L 14=true) (h:FI S B b w gf F L y W):FI S B b w gf F (dO L 15) (fq y 15 (.agg #[y 14,.int .i64 0])) W:=by
 obtain⟨G,D,C,A,u,t,n,j,a⟩:=h;exact⟨G,D,C,A,u,t,n,j,λ_=>⟨d,rfl⟩⟩
theorem Uy (h:B<=w.heap.size) (F:PF):Own (w.alloc (.cells (qw F) 101)) B 101 2 (.slice (some ⟨w.heap.size,0,none⟩) 1 1) 1 (qW F):=
 ⟨rfl,.inr ⟨w.heap.size,0,1,_,rfl,h,aG.new _ _ _,az _,by unfold maxLen;omega,az _,λj u d=>by rw[dV,<-uz];exact d⟩⟩
theorem Ou (h:FI S B b w gf F L y W) (t:L 14=true):∃a c,y 14 = .slice a (S.H.fi++[F]).length c/\LZ W a c (S.H.fi++[F]):=by
 obtain⟨⟨a,c,l,O,h2⟩,Z,N,Y,X,V,M,U,d⟩:=h;obtain⟨R,Q,e,k1,K,J,I⟩:=(M t).rd;have u:(S.H.fi++[F]).length=S.H.fi.length+1:=by simp
 refine⟨R,Q,by rw[u];exact e,by rw[u];exact k1,K,J,by rw[fE];simpa using I,λp j => ?_⟩;rcases gP.1 j with j|j
 ·exact O.ma.rd.st.good p j
 rw[bC.1 j];obtain⟨a9,c9,n,G,D,C,A⟩:=N.rd;unfold nT at n;injection n with n e10 e11;subst n;subst e11;exact⟨G,D,C,A⟩
theorem WY {t:List En} (h:t.length=64):tL t=t.flatMap lV:=by
 have e:(List.range 64).map (λi=>t.getD i zEn)=t:=by
  apply pE;intro i;rw[jv]
  by_cases d:i<64
  ·rw[tJ d,aH (by omega)];show some (t.getD i zEn)=_;rw[aX,aH (by omega)];rfl
  ·rw[fw (by rw[CK];omega),fw (by omega)];rfl
 unfold tL;rw[<-Dn (f:=λi=>t.getD i zEn) (g:=lV),e]
def FU (x:Int) (m:Nat):Nat:=(max (min x m) 0).toNat
theorem NB (x:Int) (m:Nat):FU x m<=m:=by unfold FU;omega
theorem Jv (x:Int) (m:Nat):((FU x m:Nat):Int)=max (min x m) 0:=by unfold FU;omega
def WG (f s b:Int) (l:List UInt8) (w:World) (r:Ending) (w' : World):Prop:=∃H:MH,r = .returned (.agg (fB H))/\wR w' w.heap.size H/\Below w.heap.size w w'/\Rt H.ma/\Co H.ma/\(∀p∈H.sp,∀n g,onA p.ar n=some g->g.fi<H.fi.length) /\
 H.m.fs.length=FU f 40/\H.dk.blocks.length=FU b 80/\(1<=H.sp.length/\H.sp.length<=2)/\(l=[]->H.ma=yO (FU f 40) (FU s 60) (FU b 80))
theorem Fq (fr sl bl:Int) (al:Option Addr) (cl:Nat) (l:List UInt8) (w:World) (hr:ve w al cl l.length (l.map CQ)) :
  Calls Tryz.prog 17 #[.int .i64 fr,.int .i64 sl,.int .i64 bl,.slice al l.length cl] w (WG fr sl bl l w):=by
 have xb:Hid (∀a,al=some a->l.map CQ≠[]->a.block<w.heap.size):=ae λa ha hl=>by obtain⟨u,hu⟩:∃u,(l.map CQ)[0]?=some u:=⟨_,aH (List.length_pos_iff.2 hl)⟩;obtain⟨b',o',e,hc⟩:=hr.rd 0 u hu;rw[ha] at e;cases e;exact UA hc
 go_enter func17,ntmps17;go_upto_region 2 with (fail);refine wH (λW=>Code.wp _ _ _ _ W) λw1 kT bx1 mx1 gx => ?_;have qa:=hr.below kT;have mx1:aG w1 (w.heap.size+1) (jE ⟨al,cl,l,noH,none,0,[]⟩) 98:=mx1;have bx1:aG w1 w.heap.size (fB noH) 45:=bx1;clear hr;go_upto_region 3 with (fail);have e0:(if (if 40<fr then (40:Int) else fr)<0 then 0 else if 40<fr then 40 else fr)=((FU fr 40:Nat):Int):=by rw[Jv];split<;>split<;>omega
 have e1:(if (if 60<sl then (60:Int) else sl)<0 then 0 else if 60<sl then 60 else sl)=((FU sl 60:Nat):Int):=by rw[Jv];split<;>split<;>omega
 have e2:(if (if 80<bl then (80:Int) else bl)<0 then 0 else if 80<bl then 80 else bl)=((FU bl 80:Nat):Int):=by rw[Jv];split<;>split<;>omega
 rw[e0,e1,e2];clear e0 e1 e2;generalize (if 40<fr then (40:Int) else fr)=z0;generalize (if 60<sl then (60:Int) else sl)=z1;generalize (if 80<bl then (80:Int) else bl)=z2;obtain⟨f,hf⟩:∃f,FU fr 40=f:=⟨_,rfl⟩;obtain⟨s,Y⟩:∃s,FU sl 60=s:=⟨_,rfl⟩;obtain⟨ct,qe⟩:∃ct,FU bl 80=ct:=⟨_,rfl⟩;have gT:f<=40:=by rw[<-hf];exact NB _ _
 have gu:s<=60:=by rw[<-Y];exact NB _ _
 have gV:ct<=80:=by rw[<-qe];exact NB _ _
 have kk:=ae (And.intro hf (And.intro Y qe));rw[hf,Y,qe];clear hf Y qe;have eh:w.heap.size+2<=w1.heap.size:=mx1.lt;have qI:∀W:World,(Instr.makeSlice 30 (.int .i64 (f:Int)) (.int .i64 (f:Int))).run Tryz.prog W = .ok (.slice (some ⟨W.heap.size,0,none⟩) f f) (W.alloc (.cells (madeCells (sU fr0) (f*13)) 66)):=
  IP 30 66 _ 13 40 underlying30 frame_info .i64 .i64 f (by omega) (by omega)
 have qG:∀W:World,(Instr.makeSlice 34 (.int .i64 (s:Int)) (.int .i64 (s:Int))).run Tryz.prog W = .ok (.slice (some ⟨W.heap.size,0,none⟩) s s) (W.alloc (.cells (madeCells #[.int .i64 0] (s*1)) 3)):=
  IP 34 3 _ 1 8 underlying34 int_info .i64 .i64 s (by omega) (by omega)
 have qF:∀W:World,(Instr.makeSlice 35 (.int .i64 (s:Int)) (.int .i64 (s:Int))).run Tryz.prog W = .ok (.slice (some ⟨W.heap.size,0,none⟩) s s) (W.alloc (.cells (madeCells (fP zPg) (s*8)) 58)):=
  IP 35 58 _ 8 8 underlying35 page_info .i64 .i64 s (by omega) (by omega)
 have qJ:∀W:World,(Instr.makeSlice 35 (.int .i64 (ct:Int)) (.int .i64 (ct:Int))).run Tryz.prog W = .ok (.slice (some ⟨W.heap.size,0,none⟩) ct ct) (W.alloc (.cells (madeCells (fP zPg) (ct*8)) 58)):=
  IP 35 58 _ 8 8 underlying35 page_info .i64 .i64 ct (by omega) (by omega)
 have eg:=ae kT;clear kT;refine iF 17 [_,_,.r 2 ((dC λ_=>True)),.r 3 ((dC λ_=>True)),_,.r 5 ((dC λ_=>True)),_,.r 7 ((dC λ_=>True)),.r 8 ((dC λ_=>True)),_,.r 10 ((dC λ_=>True)),.r 11 ((dC λ_=>True)),_,.v (.agg #[.slice none 0 0,.int .i64 (ct:Int)]),.r 14 ((dC λ_=>True)),_,_] (JM w1 w1.heap.size f s ct (sU fr0) #[.int .i64 0] (fP zPg)) tV (λy=>Xr y) (Qk tV rfl (Qk tV rfl (ah ?_ (ah ?_ (Qk tV rfl (ah ?_ (Qk tV rfl (ah ?_ (ah ?_ (Qk tV rfl (ah ?_ (ah ?_ (Qk tV rfl (ah ?_ (ah ?_ (Qk tV rfl (Qf tV (w.heap.size+1) 1 rfl rfl (aF) (λ_ _ _ _ d h=>Aq (by decide) h)) (λ_ _ _ _ d h=>Aq (by decide) h)))) (λ_ _ _ _ d h=>Aq (by decide) h)))) (λ_ _ _ _ d h=>Aq (by decide) h)))) (λ_ _ _ _ d h=>Aq (by decide) h))) (λ_ _ _ _ d h=>Aq (by decide) h)))) (λ_ _ _ _ d h=>Aq (by decide) h)) (λ_ _ _ _ d h=>Aq (by decide) h)) (λ_=>rfl) rfl ?_
 ·intro ρ y W L D hn o d A G;have iS:=D 32 1 rfl;have h1:y 1=_:=G 1 rfl;refine fF (.slice (some ⟨W.heap.size,0,none⟩) f f) (aj rfl) ?_ (Xu o (az _) A) trivial;simp[execOp,go_sem,iS,h1,qI]
 ·intro ρ y W L D hn o d A G;have eH:=D 33 2 rfl;have h2:=G 2 rfl;obtain⟨g,e2,_,_⟩:=A.k2 (d 2 rfl);refine fF (.agg #[y 2,.int .i64 0]) (aj rfl) ?_ (XI o (d 2 rfl) A) trivial;rw[e2] at eH ⊢;simp[execOp,go_sem,eH]
 ·intro ρ y W L D hn o d A G;have iR:=D 35 4 rfl;have h4:y 4=_:=G 4 rfl;refine fF (.slice (some ⟨W.heap.size,0,none⟩) s s) (aj rfl) ?_ (Xw o (az _) A) trivial;simp[execOp,go_sem,iR,h4,qG]
 ·intro ρ y W L D hn o d A G;have iP:=D 37 6 rfl;have h6:y 6=_:=G 6 rfl;refine fF (.slice (some ⟨W.heap.size,0,none⟩) s s) (aj rfl) ?_ (XD o (az _) A) trivial;simp[execOp,go_sem,iP,h6,qF]
 ·intro ρ y W L D hn o d A G;have eE:=D 38 7 rfl;have h7:=G 7 rfl;obtain⟨g,e2,_,_⟩:=A.k7 (d 7 rfl);refine fF (.agg #[y 7,.slice none 0 0]) (aj rfl) ?_ (XC o (d 7 rfl) A) trivial;rw[e2] at eE ⊢;simp[execOp,go_sem,eE]
 ·intro ρ y W L D hn o d A G;have iO:=D 40 9 rfl;have h9:y 9=_:=G 9 rfl;refine fF (.slice (some ⟨W.heap.size,0,none⟩) ct ct) (aj rfl) ?_ (Xg o (az _) A) trivial;simp[execOp,go_sem,iO,h9,qJ]
 ·intro ρ y W L D hn o d A G;have eB:=D 41 10 rfl;have xD:=G 10 rfl;obtain⟨g,e2,_,_⟩:=A.k10 (d 10 rfl);refine fF (.agg #[y 10,.slice none 0 0]) (aj rfl) ?_ (WS o (d 10 rfl) A) trivial;rw[e2] at eB ⊢;simp[execOp,go_sem,eB]
 ·intro ρ y W L D hn o d A G;refine fT tV (λ_ _ h=>Aq (by decide) h) A ?_;have iN:=D 43 12 rfl;have g9:y 12=_:=G 12 rfl;refine ak (.agg #[.slice none 0 0,.int .i64 (ct:Int)]) (aj rfl) (by simp[execOp,go_sem,iN,g9]) rfl
 ·intro ρ y W L D hn o d A G;have eG:=D 34 3 rfl;have h3:=G 3 rfl;have eF:=D 36 5 rfl;have h5:=G 5 rfl;have eC:=D 39 8 rfl;have h8:=G 8 rfl;have eA:=D 42 11 rfl;have iA:=G 11 rfl;have iM:=D 44 13 rfl;have ey:y 13=_:=G 13 rfl;obtain⟨l2,e3⟩:=A.k3 (d 3 rfl);obtain⟨l7,e8⟩:=A.k8 (d 8 rfl);obtain⟨l10,e11⟩:=A.k11 (d 11 rfl);obtain⟨g2,e2,_,_⟩:=A.k2 l2;obtain⟨g5,e5,_,_⟩:=A.k5 (d 5 rfl);obtain⟨g7,e7,_,_⟩:=A.k7 l7;obtain⟨g10,e10,_,_⟩:=A.k10 l10;refine fF (.agg #[y 2,.int .i64 0,y 5,y 7,.slice none 0 0,y 10,.slice none 0 0,.slice none 0 0,.int .i64 ct,.slice none 0 0,.slice none 0 0]) (aj rfl) ?_ (WQ (d 3 rfl) (d 5 rfl) (d 8 rfl) (d 11 rfl) A) trivial;rw[e3,e2] at eG;rw[e5] at eF;rw[e8,e7] at eC;rw[e11,e10] at eA;rw[e2,e5,e7,e10];simp[execOp,go_sem,eG,eF,eC,eA,iM,ey]
 intro y W3 hH ep;clear ep;obtain⟨⟨l3,l5,l8,J⟩,e14⟩:=hH.k14 rfl;obtain⟨gf,e2,bf,kf⟩:=hH.k2 rfl;obtain⟨gs,e5,bs,ks⟩:=hH.k5 rfl;obtain⟨gw,e7,bw,kw⟩:=hH.k7 rfl;obtain⟨gd,e10,bd,kd⟩:=hH.k10 rfl;have xM:gw≠gd:=UM kw kd (by rw[<-e7,<-e10];exact hH.ne rfl rfl);have mx3:=mx1.ext hH.be;have bx3:=bx1.ext hH.be;have xU:=qa.below hH.be;have qT:=ae (ag eg.out hH.be);rw[e14,e2,e5,e7,e10];clear e14 e2 e5 e7 e10 hH l3 l5 l8 J qI qG qF qJ mx1 bx1 qa eg
 go_wp2_with (refine aB rfl _ _ _ rfl (w.heap.size+1) 1 _ [.slice (some ⟨gf,0,none⟩) f f,.int .i64 0,.slice (some ⟨gs,0,none⟩) s s,.slice (some ⟨gw,0,none⟩) s s,.slice none 0 0,.slice (some ⟨gd,0,none⟩) ct ct,.slice none 0 0,.slice none 0 0,.int .i64 ct,.slice none 0 0,.slice none 0 0] rfl rfl rfl _ _ mx3 (by show 1+11<=13;omega) (by kernel_rfl) (by simp[Value.oneCell']) ?_)
 intro w4 ee kG;have xk:aG w4 (w.heap.size+1) (jE ⟨al,cl,l,Uo gf gs gw gd f s ct,none,0,[]⟩) 98:=by
  have e:jE ⟨al,cl,l,Uo gf gs gw gd f s ct,none,0,[]⟩=bI (jE ⟨al,cl,l,noH,none,0,[]⟩) 1 [.slice (some ⟨gf,0,none⟩) f f,.int .i64 0,.slice (some ⟨gs,0,none⟩) s s,.slice (some ⟨gw,0,none⟩) s s,.slice none 0 0,.slice (some ⟨gd,0,none⟩) ct ct,.slice none 0 0,.slice none 0 0,.int .i64 ct,.slice none 0 0,.slice none 0 0]:=by unfold jE Uo noH;dsimp only;rw[kK,kK,kK,kK];kernel_rfl
  rw[e];exact ee
 have kP:fu w4 (w.heap.size+1) (w.heap.size+1) ⟨al,cl,l,Uo gf gs gw gd f s ct,none,0,[]⟩:=
  UI (xU.keep (B:=w.heap.size+1) (λa ha hl=>Nat.lt_succ_of_lt (xb.out a ha hl)) (qZ mx3.lt) kG (az _)) (λa ha hl=>Nat.lt_succ_of_lt (xb.out a ha hl)) (az _) xk gT gu gV (by omega) (by omega) (by omega) (by omega) xM (zf:=sU fr0) (zs:=#[.int .i64 0]) (zp:=fP zPg) rfl rfl rfl
   (kf.grown kG (λe=>by have:=aM e;omega)) (ks.grown kG (λe=>by have:=aM e;omega)) (kw.grown kG (λe=>by have:=aM e;omega)) (kd.grown kG (λe=>by have:=aM e;omega))
 have bx4:aG w4 w.heap.size (fB noH) 45:=bx3.grown kG (λe=>by have:=aM e;omega);have qS:Hid (Below w.heap.size w w4):=ae (qT.out.grown kG (bi (by omega) (qZ mx3.lt)) (λk hk=>by cases hk;omega));have kM:w.heap.size+2<=w4.heap.size:=xk.lt;clear kf ks kw kd mx3 bx3 xU qT ee kG xk bf bs bw bd xM xb eh;generalize hb' : w.heap.size+1=b at kP kM ⊢;have xq:=ae hb';clear hb';obtain⟨Z,g3⟩:∃Z,Z=(⟨al,cl,l,Uo gf gs gw gd f s ct,none,0,[]⟩:MW):=⟨_,rfl⟩;have g1:=ae g3;rw[<-g3] at kP;have hc:=kP.blk.cell;unfold jE at hc;have ea:Z.H.m.fs.length=f:=by rw[g3];exact kK
 rw[ea] at hc;clear ea;have qK:fu w4 b b (Z.frs (BG f 0)):=by
  have e:Z.frs (BG f 0)=Z:=by rw[g3];rfl
  rw[e];exact kP
 have qn:MS w4 b Z w4 (Z.frs (BG f 0)):=(MS.refl w4 b Z).same rfl;have qE:Hid (¬nL b Z w.heap.size):=ae (λhk=>by have h1:=(kP.kb_own hk).1;have h2:=xq.out;omega);have xP:Hid (∀w' S',MS w4 b Z w' S'->Below b w4 w'):=ae (λw' S' h=>MS.to kP h (az b));clear g3 kP;have bx4':=ae bx4;clear bx4;go_upto_region 5 with (fail)
 go_loopw [55] (fun k wr => ∃q:Nat,q<=f/\k = .int .i64 q/\fu wr b b (Z.frs (BG f q))/\MS w4 b Z wr (Z.frs (BG f q))) (fun k _=>f-(intOf k).toNat)
 case atStart=>exact⟨0,aZ _,rfl,qK,qn⟩
 case round=>
  clear qK qn;obtain⟨q,hq,rfl,I,Y⟩:=hrel
  by_cases hqf:q<f
  ·have ge:(q:Int)<(f:Int):=by omega
   have xi:(BG f q).length=f:=JB hq;have hc:=I.blk.cell;unfold jE at hc;dsimp only[MW.frs] at hc;rw[xi] at hc;obtain⟨g,off,cap,cur,hv,kR,hg,xm,qb,gQ⟩:=I.ma.fr.put fJ (by decide) q (by show q<(BG f q).length;omega);have xv:Z.H.af=some ⟨g,off,none⟩:=(oJ hv).1;have ed:Hid (∀j u,(pG fr0)[j]?=some u->cur[off+q*13+j]?=some u):=ae λj u hj=>by have e:(Z.frs (BG f q)).H.m.fs[q]'(by show q<(BG f q).length;omega)=fr0:=UH hqf (by omega);have:=qb j u (by rw[e];exact hj);rw[hg.cell] at this;exact this
   rw[xv] at hc;have gO:=ae gQ;have iX:=ae xi;have ei:=ae xv;clear hv qb gQ xi xv
   go_wp2_with (refine aB rfl _ _ _ rfl g (off+q*13+11) _ [.int .i64 (-1)] rfl rfl rfl _ _ hg (by show off+q*13+11+1<=cur.size;omega) (by kernel_rfl) (λu hu=>by cases bC.1 hu;rfl) ?_)
   intro w5 xu xo;rw[Vn xm ed.out] at xu;have ho:=gO.out _ _ xu;have hX:(Z.frs (BG f q)).H.m.fs.set q frZ=BG f (q+1):=Vu hqf;have hD:(BG f (q+1)).length=(BG f q).length:=by rw[JB (by omega),JB hq]
   rw[hX] at ho;have ku:fu w5 b b (Z.frs (BG f (q+1))):=I.putF hg kR xo (fs:=BG f (q+1)) hD (by rw[hD];exact ho);have kN:MS w4 b Z w5 (Z.frs (BG f (q+1))):=Y.put xo (.inr (by show some g∈iQ Z;unfold iQ;rw[ei.out];exact iL)) (λx X => .inl X);clear I Y hg xm xu xo hc ho hX hD;go_wp2;go_roundw
   case rel=>exact⟨q+1,by omega,by go_num,ku,kN⟩
   case measure=>simp[intOf];omega
  have ge:¬(q:Int)<(f:Int):=by omega
  have e9:f=q:=by omega
  subst e9;rw[Uw] at I Y
  go_wp2_with fail
  refine (fU _ 3 b b _ I (by omega)).mono ?_;rintro r w5 ⟨N,a5,c5,l5,rfl,ku,kN,hN,xz⟩;have kN:=Y.trans kN;have x2:Hid (l=[]->N=0/\l5=[]):=ae λe=>xz (by show Z.l=[];rw[g1.out];exact e);have xB:IJ f s ct Z.H.asl ((Z.frs (List.replicate f frZ)).lst a5 c5 l5).H.fi (List.replicate ct zPg) [] ((Z.frs (List.replicate f frZ)).lst a5 c5 l5):=by rw[g1.out];exact⟨rfl,rfl,rfl,rfl,rfl,rfl,rfl,rfl,rfl,rfl⟩
  have k9:((Z.frs (List.replicate f frZ)).lst a5 c5 l5).H.fi=[]:=by rw[g1.out];rfl
  have gI:Hid (l=[]->((Z.frs (List.replicate f frZ)).lst a5 c5 l5).l=[]):=ae λe=>(x2.out e).2;obtain⟨N,rfl⟩:=iI hN.1;have ja:N<=2:=by omega
  clear I Y hN xz hqf ge hq;generalize (Z.frs (List.replicate f frZ)).lst a5 c5 l5=S5 at ku kN xB k9 gI;go_upto_region 10 with (fail)
  go_loopw [70] (fun k wr => ∃(q:Nat) (S:MW) (bk:List Page) (qu:List (Int × Page)),q<=N/\k = .int .i64 q/\fu wr b b S/\MS w4 b Z wr S/\Hid (IJ f s ct Z.H.asl S.H.fi bk qu S/\Fb ct bk qu (S.H.fi.map PF.fi) []/\S.H.fi.length=q/\(q=0->bk=List.replicate ct zPg/\qu=[]/\(l=[]->S.l=[])))) (fun k _=>N-(intOf k).toNat)
  case atStart=>exact⟨0,S5,_,_,aZ _,rfl,ku,kN,ae ⟨xB,by rw[k9];exact Fb.start gV,by rw[k9];rfl,λ_=>⟨rfl,rfl,gI.out⟩⟩⟩
  case round=>
   clear ku kN xB k9 gI;obtain⟨q,S,bk,qu,hq,rfl,I,Y,O⟩:=hrel;obtain⟨fi0,qP⟩:∃fi0,S.H.fi=fi0:=⟨_,rfl⟩;rw[qP] at O;clear qP;have x3:Hid (fi0.length=q):=ae O.out.2.2.1;have xj:Hid (fi0.length<=2):=ae (by have:=O.out.2.2.1;omega)
   by_cases hqN:q<N
   ·have ge:(q:Int)<(N:Int):=by omega
    go_wp2_with fail
    refine (fU _ 40 b b _ I (by omega)).mono ?_;rintro r w6 ⟨x,a6,c6,l6,rfl,kt,kg,X,_⟩;have kg:=Y.trans kg;have xA:Hid (IJ f s ct Z.H.asl fi0 bk qu (S.lst a6 c6 l6)):=ae (O.out.1.lst _ _ _);have gb:0<=x/\x<40:=by omega
    obtain⟨C,hC⟩:∃C:Nat,eY x=C:=⟨(eY x).toNat,by unfold eY;split<;>omega⟩;have jd:C<=5:=by unfold eY at hC;split at hC<;>omega
    have ew:=ae hC;clear I Y X hC;generalize S.lst a6 c6 l6=S6 at kt kg xA
    go_wp2_with (refine aL rfl _ _ _ rfl (qw ⟨x,none,[],0⟩) rfl rfl rfl file_size (rA _) ?_)
    intro w7 xt fx7;have kO:=kt.below xt;have qk:=(MS.refl w6 b S6).below xt;have xg:Hid (¬nL b S6 w6.heap.size):=ae (kt.new (az _));have kR:b<=w6.heap.size:=kt.bs;have i1:=ae kR;clear kt xt;generalize hg60:w6.heap.size=gf0 at xg kR fx7 ⊢;have ip:Hid (w6.heap.size<=gf0):=ae (Dt hg60);clear hg60;have kH:=fx7.cell;unfold qw at kH
    go_wp2_with fail
    refine (zi x _ (by omega)).mono ?_;rintro r w8 ⟨rfl,rfl⟩;rw[ew.out];clear kH;have xY:∀p∈fi0,True:=λ_ _=>trivial;clear xY;go_upto_region 13 with (fail)
    go_loopw [78] (fun k wr => ∃(i:Nat) (S:MW) (bk:List Page) (qu:List (Int × Page)) (xs:List Int) (K:Option Addr) (U:Nat),i<=C/\k = .int .i64 i/\fu wr b b S/\MS w6 b S6 wr S/\Hid (¬nL b S gf0)/\Hid (IJ f s ct Z.H.asl fi0 bk qu S/\Fb ct bk qu (fi0.map PF.fi) xs/\xs.length=i)/\aG wr gf0 (qw ⟨x,K,xs,U⟩) 101 /\
     Hid (Own wr b 3 1 (nT ⟨x,K,xs,U⟩) xs.length (xs.map fZ)/\∀g,oB K=some g->w6.heap.size<=g/\oB Z.H.asl≠some g/\∀p∈fi0,oB p.a≠some g)) (λk _=>C-(intOf k).toNat)
    case atStart=>exact⟨0,S6,bk,qu,[],none,0,aZ _,rfl,kO,qk,xg,ae ⟨xA.out,O.out.2.1,rfl⟩,fx7,ae ⟨Own.nil _ _ _ _,λg hg=>(by cases hg)⟩⟩
    case round=>
     clear kO fx7 O xA qk xg;obtain⟨i,S,bk,qu,xs,K,U,hi,rfl,I,Y,k0,O,fx,ho⟩:=hrel
     by_cases hiC:i<C
     ·have io:(i:Int)<(C:Int):=by omega
      go_upto_region 16 with (fail);have x4:∀g,(nT ⟨x,K,xs,U⟩).ownBlock=some g->¬nL b S g:=λg hg=>by obtain⟨cs,hk⟩:=mK ho.out.1 g hg;refine I.kb_int hk ?_;rw[O.out.1.asl];exact (ho.out.2 g (by unfold nT at hg;rw[jA] at hg;exact hg)).2.1
      have gL:=ae x4;clear x4
      go_cut [14] (fun s14 wx => ∃(n:Nat) (a:Option Addr) (c:Nat) (l:List UInt8),s14 = .int .i64 n/\n<256/\fu wx b b (S.lst a c l)/\MS wr b S wx (S.lst a c l)/\aG wx gf0 (qw ⟨x,K,xs,U⟩) 101/\Hid (Own wx b 3 1 (nT ⟨x,K,xs,U⟩) xs.length (xs.map fZ)))
      case first=>
       go_wp2_with fail
       all_goals
        refine (fU S _ b b _ I (by omega)).mono ?_;rintro r w8 ⟨n,a8,c8,l8,rfl,hG,hA,hn,_⟩;obtain⟨n,rfl⟩:=iI hn.1;have xh:(n:Int)<256:=hn.2.1;have fx8:=hA.blkN fx k0.out;have ki:Hid (Own w8 b 3 1 (nT ⟨x,K,xs,U⟩) xs.length (xs.map fZ)):=ae (hA.ownN ho.out.1 gL.out);clear I fx hn;go_wp2;go_meet
        case rel=>exact⟨n,a8,c8,l8,rfl,by omega,hG,hA,fx8,ki⟩
      case rest=>
      obtain⟨n,a8,c8,l8,rfl,xh,hG,hA,fx8,qs⟩:=hcut;have ki:Hid (Own wc b 3 1 (nT ⟨x,K,xs,U⟩) xs.length (xs.map fZ)/\∀g,oB K=some g->w6.heap.size<=g/\oB Z.H.asl≠some g/\∀p∈fi0,oB p.a≠some g):=ae ⟨qs.out,ho.out.2⟩;clear qs;have gj:Hid (IJ f s ct Z.H.asl fi0 bk qu (S.lst a8 c8 l8)/\Fb ct bk qu (fi0.map PF.fi) xs/\xs.length=i):=ae ⟨O.out.1.lst _ _ _,O.out.2⟩;have hA:=Y.trans hA;have kZ:Hid (¬nL b (S.lst a8 c8 l8) gf0):=k0;have kY:Hid (∀g,(nT ⟨x,K,xs,U⟩).ownBlock=some g->¬nL b (S.lst a8 c8 l8) g):=gL;clear I Y O fx ho k0 gL;generalize S.lst a8 c8 l8=S8 at hG hA gj kZ kY;go_upto_region 17 with (fail)
      go_cut [109] (fun s109 wx => ∃(β:Bool) (a:Option Addr) (c:Nat) (l:List UInt8),s109 = .bool β/\fu wx b b (S8.lst a c l)/\MS wc b S8 wx (S8.lst a c l)/\aG wx gf0 (qw ⟨x,K,xs,U⟩) 101/\Hid (Own wx b 3 1 (nT ⟨x,K,xs,U⟩) xs.length (xs.map fZ))/\Hid (β=true->n<ct/\¬(n:Int)∈(fi0.map PF.fi).flatMap Fi.b++xs))
      case first=>
       have x8:gf0<wc.heap.size:=fx8.lt;have i9:S8.H.fi.length<=5:=by have e1:=gj.out.1.fi;have e2:=xj.out;rw[e1];omega
       by_cases hnc:n<ct
       ·have qd:(n:Int)<(ct:Int):=by omega
        cases hu:iD (cK (S8.H.fi++[(⟨x,K,xs,U⟩:PF)]) 0) (n:Int)
        case' true=>
         refine iF 25 [_,_,_,_,.r 4 ((dC λ_=>True)),_,_,_,_,_,.v (.slice S8.H.ai S8.H.fi.length S8.H.ci),.r 11 ((dC λ_=>True)),.v (.agg (qw ⟨x,K,xs,U⟩)),.r 13 ((dC λ_=>True)),.r 14 ((dC λ_=>True)),.r 15 ((dC λ_=>True)),_,.v (.bool true),_,_,_,_,_,_,.v (.bool false)] (FI S8 b b wc gf0 ⟨x,K,xs,U⟩) eD (λy=>VG hG fx8 ki.out.1 y) (Qk eD rfl (Qk eD rfl (Qb eD (.bool true) (by simp[go_sem,qd]) rfl rfl rfl rfl rfl (Qk eD rfl (ah ?u3_1 (Qk eD rfl (Qk eD rfl (Qf eD b 1 rfl rfl (Qf eD b 8 rfl rfl (Qf eD b 8 rfl rfl (ah ?u3_2 (ah ?u3_3 (ah ?u3_4 (ah ?u3_5 (ah ?u3_6 (ah ?u3_7 (Qk eD rfl (ah ?u3_8 (Qk eD rfl (Qk eD rfl (Qk eD rfl (Qk eD rfl (Qk eD rfl (Qk eD rfl (Qk eD rfl (aF) (λ_ _ _ _ d h=>fD (by decide) h)) (λ_ _ _ _ d h=>fD (by decide) h)) (λ_ _ _ _ d h=>fD (by decide) h)) (λ_ _ _ _ d h=>fD (by decide) h)) (λ_ _ _ _ d h=>fD (by decide) h)) (λ_ _ _ _ d h=>fD (by decide) h)) (λ_ _ _ _ d h=>fD (by decide) h))) (λ_ _ _ _ d h=>fD (by decide) h)))))))) (λ_ _ _ _ d h=>fD (by decide) h)) (λ_ _ _ _ d h=>fD (by decide) h)) (λ_ _ _ _ d h=>fD (by decide) h)) (λ_ _ _ _ d h=>fD (by decide) h)) (λ_ _ _ _ d h=>fD (by decide) h))) (λ_ _ _ _ d h=>fD (by decide) h)) (λ_ _ _ _ d h=>fD (by decide) h)) (λ_ _ _ _ d h=>fD (by decide) h)) (λ_ _ _ _ d h=>fD (by decide) h)) (λ_=>rfl) rfl ?u3_9
        case' false=>
         refine iF 25 [_,_,_,_,.r 4 ((dC λ_=>True)),_,_,_,_,_,.v (.slice S8.H.ai S8.H.fi.length S8.H.ci),.r 11 ((dC λ_=>True)),.v (.agg (qw ⟨x,K,xs,U⟩)),.r 13 ((dC λ_=>True)),.r 14 ((dC λ_=>True)),.r 15 ((dC λ_=>True)),_,.v (.bool false),_,_,_,_,.r 22 ((dC λv => ∃x:Int,v = .int .i64 x)),.r 23 ((dC λv => ∃u,v = .bool u)),.r 24 ((dC λv => ∃u,v = .bool u))] (FI S8 b b wc gf0 ⟨x,K,xs,U⟩) eD (λy=>VG hG fx8 ki.out.1 y) (Qk eD rfl (Qk eD rfl (Qb eD (.bool true) (by simp[go_sem,qd]) rfl rfl rfl rfl rfl (Qk eD rfl (ah ?v3_1 (Qk eD rfl (Qk eD rfl (Qf eD b 1 rfl rfl (Qf eD b 8 rfl rfl (Qf eD b 8 rfl rfl (ah ?v3_2 (ah ?v3_3 (ah ?v3_4 (ah ?v3_5 (ah ?v3_6 (ah ?v3_7 (Qk eD rfl (ah ?v3_8 (Qk eD rfl (Qk eD rfl (Qk eD rfl (Qk eD rfl (ah ?v3_9 (ah ?v3_10 (ah ?v3_11 (aF)))) (λ_ _ _ _ d h=>fD (by decide) h)) (λ_ _ _ _ d h=>fD (by decide) h)) (λ_ _ _ _ d h=>fD (by decide) h)) (λ_ _ _ _ d h=>fD (by decide) h))) (λ_ _ _ _ d h=>fD (by decide) h)))))))) (λ_ _ _ _ d h=>fD (by decide) h)) (λ_ _ _ _ d h=>fD (by decide) h)) (λ_ _ _ _ d h=>fD (by decide) h)) (λ_ _ _ _ d h=>fD (by decide) h)) (λ_ _ _ _ d h=>fD (by decide) h))) (λ_ _ _ _ d h=>fD (by decide) h)) (λ_ _ _ _ d h=>fD (by decide) h)) (λ_ _ _ _ d h=>fD (by decide) h)) (λ_ _ _ _ d h=>fD (by decide) h)) (λ_=>rfl) rfl ?v3_12
        case u3_1|v3_1=>
         intro ρ y W L D hn o d A G;refine fF (.slice (some ⟨W.heap.size,0,none⟩) 0 0) (bD 3 88 true true rfl rfl ((D 88 3 rfl).trans (G 3 rfl))) ?_ (WU A) trivial;simp[execOp,go_sem]
        case u3_2|v3_2=>
         intro ρ y W L D hn o d A G;refine fT eD (λ_ _ h=>fD (by decide) h) A ?_;have iJ:=D 94 9 rfl;have h9:y 9=_:=G 9 rfl;obtain⟨⟨a0,c0,l0,m1,m2⟩,m3⟩:=A;refine ak (.slice S8.H.ai S8.H.fi.length S8.H.ci) (bD 3 88 true true rfl rfl ((D 88 3 rfl).trans (G 3 rfl))) (by simp[execOp,go_sem,iJ,h9,m1.blk.cell,jE,MW.lst]) rfl
        case u3_3|v3_3=>
         intro ρ y W L D hn o d A G;have iK:=D 89 4 rfl;have h4:=G 4 rfl;have iG:=D 95 10 rfl;have xD:y 10=_:=G 10 rfl;obtain⟨g,iq,gi⟩:=A.2.2.2.1 (d 4 rfl) o;have gn:=A.2.2.2.2.2.2.2.1;obtain⟨a0,c0,l0,m1,m2⟩:=A.1;have m3:LZ W S8.H.ai S8.H.ci S8.H.fi:=m1.ma.rd.st;refine mh (bD 3 88 true true rfl rfl ((D 88 3 rfl).trans (G 3 rfl))) (Lb _ _ _ rfl wc.heap.size 101 _ 2 32 underlying39 file_info rfl (by decide) g (iK.trans iq) gi S8.H.ai S8.H.fi.length S8.H.ci (S8.H.fi.flatMap qW) (iG.trans xD) m3.nl m3.le (by rw[Pw.flat_len qW 2 lh]) m3.rd (by unfold maxLen;omega) (by omega) gn) (λv W1 h=>Wd A h.1 h.2) (λ_ _ _=>trivial)
        case u3_4|v3_4=>
         intro ρ y W L D hn o d A G;refine fT eD (λ_ _ h=>fD (by decide) h) A ?_;have xE:ρ (.tmp 11) = .pointer (some ⟨gf0,0,none⟩):=(hn (.tmp 11) rfl).trans rfl;have m3:=A.2.1;refine ak (.agg (qw ⟨x,K,xs,U⟩)) (bD 3 88 true true rfl rfl ((D 88 3 rfl).trans (G 3 rfl))) (dW rfl xE m3 underlying101 rfl file_size) rfl
        case u3_5|v3_5=>
         intro ρ y W L D hn o d A G;have iC:=D 97 12 rfl;have g9:y 12=_:=G 12 rfl;have gn:=A.2.2.2.2.2.2.2.1;refine fF (.slice (some ⟨W.heap.size,0,none⟩) 1 1) (bD 3 88 true true rfl rfl ((D 88 3 rfl).trans (G 3 rfl))) ?_ (Wi (W':=W.alloc (.cells (qw ⟨x,K,xs,U⟩) 101)) A ((Below.refl _ _).alloc (az _) _) (Uy gn _)) trivial;simp[execOp,go_sem,iC.trans g9,qw]
        case u3_6|v3_6=>
         intro ρ y W L D hn o d A G;have iE:=D 96 11 rfl;have iA:=G 11 rfl;have iB:=D 98 13 rfl;have ey:=G 13 rfl;have gn:=A.2.2.2.2.2.2.2.1;have hv:=A.2.2.2.2.1 (d 11 rfl) o;obtain⟨a,e,gb,k1,k2,k3,k4⟩:=(A.2.2.2.2.2.1 (d 13 rfl) o).rd;refine mh (bD 3 88 true true rfl rfl ((D 88 3 rfl).trans (G 3 rfl))) (qi _ _ _ rfl wc.heap.size 101 _ 2 32 underlying39 file_info rfl (by decide) (y 11) S8.H.fi.length _ iE hv a 1 e (qW ⟨x,K,xs,U⟩) (iB.trans gb) k3 k1 rfl k4 (bU (rA _)) (by unfold maxLen;omega) (by omega) gn) (λv W1 h=>Wx hG x8 A (d 11 rfl) o h.2.1 h.1) (λ_ _ _=>trivial)
        case u3_7|v3_7=>
         intro ρ y W L D hn o d A G;have ez:=D 99 14 rfl;have jh:=G 14 rfl;obtain⟨a,c,e14,_⟩:=Ou A (d 14 rfl);refine fF (.agg #[y 14,.int .i64 0]) (bD 3 88 true true rfl rfl ((D 88 3 rfl).trans (G 3 rfl))) ?_ (VP (d 14 rfl) A) trivial;rw[e14] at ez ⊢;simp[execOp,go_sem,ez]
        case u3_8|v3_8=>
         intro ρ y W L D hn o d A G;have qY:=D 100 15 rfl;have jf:=G 15 rfl;have eZ:=D 101 16 rfl;have iz:y 16=_:=G 16 rfl;have EF:∀f,ρ (.func f) = .func (.func f) #[] #[]:=λf=>hn (.func f) trivial;obtain⟨l14,e15⟩:=A.2.2.2.2.2.2.2.2 (d 15 rfl);obtain⟨a,c,e14,it⟩:=Ou A l14;rw[e15,e14] at qY;refine iZ _ _ (bD 3 88 true true rfl rfl ((D 88 3 rfl).trans (G 3 rfl))) (aT rfl (EF _) func34 (by kernel_rfl) (by kernel_rfl) (by simp only[bX,bR,aY,qY,eZ,iz,EF];rfl)) ?_;have q8:=Bw (S8.H.fi++[⟨x,K,xs,U⟩]) 0 n a c W it;unfold LV at q8;rw[hu] at q8;refine q8.mono ?_;rintro r w1 ⟨qa,kT⟩;exact⟨_,qa,fD (by decide) (eD _ _ _ _ kT A),rfl⟩
        case u3_9=>
         intro y W9 hy hW;clear hW;have xr:=hy.1;obtain⟨a9,c9,l9,hR,hJ⟩:=xr;have fx9:=hy.2.1;have kh:=ae hy.2.2.1;clear hy hG hA fx8 ki;go_wp2;go_meet
         case rel=>exact⟨false,a9,c9,l9,rfl,hR,hJ,fx9,kh,ae λe=>(by cases e)⟩
        case v3_9=>
         intro ρ y W L D hn o d A G;have eW:=D 106 21 rfl;have ix:y 21=_:=G 21 rfl;have EC:∀v,ρ (.const v)=v:=λv=>hn (.const v) trivial;have EF:∀f,ρ (.func f) = .func (.func f) #[] #[]:=λf=>hn (.func f) trivial;refine iZ _ _ (bD 20 105 true true rfl rfl ((D 105 20 rfl).trans (G 20 rfl))) (aT rfl (EF _) func32 (by kernel_rfl) (by kernel_rfl) (by simp only[bX,bR,aY,eW,ix,EC,EF];rfl)) ?_;exact RG (by decide) hG kZ.out kY.out 3 (by omega) A λx _ _ _=>⟨x,rfl⟩
        case v3_10=>
         intro ρ y W L D hn o d A G;refine fT eD (λ_ _ h=>fD (by decide) h) A ?_;have eV:=D 107 22 rfl;have iw:=G 22 rfl;obtain⟨x,X⟩:=iw;refine ak _ (bD 20 105 true true rfl rfl ((D 105 20 rfl).trans (G 20 rfl))) (qm rfl (eV.trans X) (hn (.const _) trivial) (by simp[go_sem];rfl)) ⟨_,rfl⟩
        case v3_11=>
         intro ρ y W L D hn o d A G;refine fT eD (λ_ _ h=>fD (by decide) h) A ?_;have eX:=D 105 20 rfl;have iy:y 20=_:=G 20 rfl;have eU:=D 108 23 rfl;have iv:=G 23 rfl;obtain⟨u,e4⟩:=iv;refine ak (.bool u) (aj rfl) (qB rfl (eX.trans iy) (by simpa using eU.trans e4)) ⟨_,rfl⟩
        case v3_12=>
         intro y W9 hy hW;have iV:((dC λv => ∃x:Int,v = .int .i64 x)).r (y 22) W9:=hW 22 (by decide);have iU:((dC λv => ∃u,v = .bool u)).r (y 23) W9:=hW 23 (by decide);have xG:((dC λv => ∃u,v = .bool u)).r (y 24) W9:=hW 24 (by decide);clear hW;have xr:=hy.1;obtain⟨a9,c9,l9,hR,hJ⟩:=xr;have fx9:=hy.2.1;have kh:=ae hy.2.2.1;obtain⟨β,hβ⟩:=xG;rw[hβ];clear hy hG hA fx8 ki hβ;have ij:Hid (n<ct/\¬(n:Int)∈(fi0.map PF.fi).flatMap Fi.b++xs):=ae ⟨hnc,λxZ=>by
          have e1:=gj.out.1.fi;unfold iD at hu;rw[Al,e1] at hu;have h2:¬(n:Int)∈wL (fi0++[(⟨x,K,xs,U⟩:PF)]):=of_decide_eq_false hu;refine h2 ?_;unfold wL;rw[fE];rcases gP.1 xZ with h3|h3
          ·rw[Dn] at h3;exact pO _ h3
          ·exact uM _ (by simpa using h3)⟩
         go_wp2;go_meet
         case rel=>exact⟨β,a9,c9,l9,rfl,hR,hJ,fx9,kh,ae λ_=>ij.out⟩
       have qd:¬(n:Int)<(ct:Int):=by omega
       refine aN 25 [_,_,_,_,_,_,_,_,_,_,_,_,_,_,_,_,_,_,_,_,_,_,_,_,.v (.bool false)] (Gk rfl (Gk rfl (Gb (.bool false) (by simp[go_sem,qd]) rfl rfl rfl rfl rfl (Gk rfl (Gk rfl (Gk rfl (Gk rfl (Gk rfl (Gk rfl (Gk rfl (Gk rfl (Gk rfl (Gk rfl (Gk rfl (Gk rfl (Gk rfl (Gk rfl (Gk rfl (Gk rfl (Gk rfl (Gk rfl (Gk rfl (Gk rfl (Gk rfl (Gk rfl (aF)))))))))))))))))))))))))) (λ_=>rfl) rfl ?_;intro y W9 hy _;have hR:=hG.below hy;have hJ:=(MS.refl wc b S8).below hy;have fx9:=fx8.ext hy;have kh:=ae (ki.out.1.below hy);clear hy hG fx8 ki;go_wp2;go_meet
       case rel=>exact⟨false,S8.al,S8.cl,S8.l,rfl,hR,hJ,fx9,kh,ae λe=>(by cases e)⟩
      case rest=>
      obtain⟨β,a9,c9,l9,rfl,hR,hJ,fx9,kh,hβ⟩:=hcut;have kU:=ae ki.out.2;have hJ:=hA.trans hJ;have kB:Hid (IJ f s ct Z.H.asl fi0 bk qu (S8.lst a9 c9 l9)/\Fb ct bk qu (fi0.map PF.fi) xs/\xs.length=i):=ae ⟨gj.out.1.lst _ _ _,gj.out.2⟩;have ko:Hid (¬nL b (S8.lst a9 c9 l9) gf0):=kZ;have kE:Hid (∀g,(nT ⟨x,K,xs,U⟩).ownBlock=some g->¬nL b (S8.lst a9 c9 l9) g):=kY;clear hG hA gj fx8 ki kZ kY;generalize S8.lst a9 c9 l9=S9 at hR hJ kB ko kE;go_upto_if 109 with (fail);have ev:Hid (xs.length=i):=ae kB.out.2.2;have xC:Hid (xs.length<=C):=ae (by have:=kB.out.2.2;omega)
      go_cut [13] (fun s13 wx => ∃(v:Int) (S:MW) (bk:List Page) (qu:List (Int × Page)),s13 = .int .i64 v/\fu wx b b S/\MS w6 b S6 wx S/\Hid (¬nL b S gf0)/\Hid (IJ f s ct Z.H.asl fi0 bk qu S/\Fb ct bk qu (fi0.map PF.fi) (xs++[v]))/\aG wx gf0 (qw ⟨x,K,xs,U⟩) 101/\Hid (Own wx b 3 1 (nT ⟨x,K,xs,U⟩) xs.length (xs.map fZ)))
      case first=>
       cases β with
       | false=>
        go_wp2;go_meet
        case rel=>exact⟨-1,S9,bk,qu,rfl,hR,hJ,ko,ae ⟨kB.out.1,kB.out.2.1.none⟩,fx9,kh⟩
       | true=>
        have gB:=ae (hβ.out rfl);clear hβ
        go_wp2_with fail
        refine (yB S9 b b _ hR).mono ?_;rintro r w10 ⟨P,a10,c10,l10,rfl,ke,hK⟩;have fx10:=hK.blkN fx9 ko.out;have qz:Hid (Own w10 b 3 1 (nT ⟨x,K,xs,U⟩) xs.length (xs.map fZ)):=ae (hK.ownN kh.out kE.out);have hK:=hJ.trans hK;have hY:Hid (IJ f s ct Z.H.asl fi0 bk qu (S9.lst a10 c10 l10)/\Fb ct bk qu (fi0.map PF.fi) xs/\xs.length=i):=ae ⟨kB.out.1.lst _ _ _,kB.out.2⟩;have kQ:Hid (¬nL b (S9.lst a10 c10 l10) gf0):=ko;have gK:Hid (∀g,(nT ⟨x,K,xs,U⟩).ownBlock=some g->¬nL b (S9.lst a10 c10 l10) g):=kE;clear hR hJ kB fx9 kh ko kE;generalize S9.lst a10 c10 l10=S10 at ke hK hY kQ gK
        go_wp2_with (refine aL rfl _ _ _ rfl (fP P) rfl rfl rfl psize (je P) ?_)
        intro w11 kJ px11;have kn:=ke.below kJ;have kb:=hK.below kJ;have fx11:=fx10.ext kJ;have qy:Hid (Own w11 b 3 1 (nT ⟨x,K,xs,U⟩) xs.length (xs.map fZ)):=ae (qz.out.below kJ);have xf:=ae (ke.new (az _));have gg:=ae hK.size;have ih:b<=w10.heap.size:=ke.bs;have ie:Hid (w10.heap.size≠gf0):=ae (λe=>by have:=fx10.lt;omega);clear ke hK fx10 qz kJ;generalize w10.heap.size=gp at *
        go_upto_region 21 with (fail)
        go_loopw [113] (fun j wr => ∃k:Nat,k<=8/\j = .int .i64 k/\fu wr b b S10/\MS w6 b S6 wr S10/\aG wr gp (fP (iH P (x-(i:Int)*8) k)) 58/\aG wr gf0 (qw ⟨x,K,xs,U⟩) 101/\Hid (Own wr b 3 1 (nT ⟨x,K,xs,U⟩) xs.length (xs.map fZ))) (fun j _=>8-(intOf j).toNat)
        case atStart=>exact⟨0,by omega,rfl,kn,kb,by rw[show iH P (x-(i:Int)*8) 0=P from by ext j hj;simp[iH]];exact px11,fx11,qy⟩
        case round=>
         clear kn kb px11 fx11 qy;obtain⟨k,hk,rfl,I,Y,px,fx,ho⟩:=hrel
         by_cases hk8:k<8
         ·have il:(k:Int)<8:=by omega
          have kH:=fx.cell;unfold qw at kH;have i6:IntKind.i64.wrap (8*(i:Int))=8*(i:Int):=bG _ (by omega);have i5:IntKind.i64.wrap (8*(i:Int)+(k:Int))=8*(i:Int)+(k:Int):=bG _ (by omega)
          by_cases hge:x<=8*(i:Int)+k
          ·have hX:Hid ((fP (iH P (x-(i:Int)*8) k)).setIfInBounds k (.int .u8 0)=fP (iH P (x-(i:Int)*8) (k+1))):=ae (by rw[<-yf P _ k hk8 (by omega)];exact Bg _ k hk8 0);generalize hT:iH P (x-(i:Int)*8) k=T at px hX;clear hT
           go_wp2_with (refine aB rfl _ _ _ rfl gp k _ [.int .u8 0] rfl rfl rfl _ _ px (by show k+1<=8;omega) (by kernel_rfl) (λu hu=>by cases bC.1 hu;rfl) ?_)
           intro w12 px12 hU;rw[Pw.putAt_one,hX.out] at px12;have x1:=I.locT px (by decide) xf.out ih hU;have xT:=Y.loc hU gg.out;have fx12:=fx.grown hU (λe=>ie.out (by have:=aM e;omega));have xX:Hid (Own w12 b 3 1 (nT ⟨x,K,xs,U⟩) xs.length (xs.map fZ)):=ae (ax ho.out px (by decide) hU);clear I Y px hU kH fx ho;go_wp2;go_roundw
           case rel=>exact⟨k+1,by omega,by go_num,x1,xT,px12,fx12,xX⟩
           case measure=>simp[intOf];omega
          have hX:iH P (x-(i:Int)*8) k=iH P (x-(i:Int)*8) (k+1):=by
           ext j hj
           simp only[iH,qH]
           by_cases e:x-(i:Int)*8<=(j:Int)
           ·rw[if_neg (by omega),if_neg (by omega)]
           ·rw[if_neg (by omega),if_neg (by omega)]
          rw[hX] at px;clear hX;go_wp2;go_roundw
          case rel=>exact⟨k+1,by omega,by go_num,I,Y,px,fx,ho⟩
          case measure=>simp[intOf];omega
         have il:¬(k:Int)<8:=by omega
         rw[yJ _ _ k (by omega)] at px;generalize dn P (x-(i:Int)*8)=PC at px;have qD:n<ct:=gB.out.1;have xp:S10.H.dk.blocks.length=ct:=by rw[hY.out.1.dk];exact hY.out.2.1.cl.1
         obtain⟨g,off,cap,cur,hv,kR,hg,xm,qb,gQ⟩:=I.ma.dk.b.put nK (by decide) n (by rw[xp];exact qD);have gU:S10.H.db=some ⟨g,off,none⟩:=(oJ hv).1;have gO:=ae gQ;have ec:=ae xp;have qQ:=ae gU;have id:Hid (gp≠g):=ae (λe=>xf.out (by rw[e];exact .inr (by simp only[iQ,gU];simp[oB,Value.ownBlock])));have is:Hid (gf0≠g):=ae (λe=>kQ.out (by rw[e];exact .inr (by simp only[iQ,gU];simp[oB,Value.ownBlock])));have im:Hid (nL b S10 g):=ae (.inr (by simp only[iQ,gU];simp[oB,Value.ownBlock]));clear hv qb gQ xp gU;go_upto_region 26 with (fail);refine aN 9 [_,_,_,_,_,_,_,_,_] (Gk rfl (Gk rfl (Gf b 1 rfl rfl (Gf b 6 rfl rfl (Gf b 6 rfl rfl (Gl I.blk (V:=.slice (some ⟨g,off,none⟩) ct S10.H.cdb) (by simp[jE,qQ.out,ec.out]) rfl rfl rfl rfl (Gk rfl (Gr (.agg #[.int .u8 PC[0].toNat,.int .u8 PC[1].toNat,.int .u8 PC[2].toNat,.int .u8 PC[3].toNat,.int .u8 PC[4].toNat,.int .u8 PC[5].toNat,.int .u8 PC[6].toNat,.int .u8 PC[7].toNat]) (λρ y W A hZ=>(bF rfl (aI rfl hZ) (bH (px.ext A) 0 8) underlying58 rfl (by kernel_rfl))) rfl rfl (Gr (.pointer (some ⟨g,off+n*8,none⟩)) (λρ y W A hZ=>(bP rfl (aI rfl hZ) (aI rfl hZ) qD underlying35 psize)) rfl rfl (aF)))))))))) (λ_=>rfl) rfl ?_;intro y W13 hL _;have qL:=I.below hL;have qp:=Y.below hL;have px13:=px.ext hL;have fx13:=fx.ext hL;have qx:=ae (ho.out.below hL);have k6:=hg.ext hL;clear I Y px fx ho hg hL
         go_wp2_with (refine aB rfl _ _ _ rfl g (off+n*8) _ (CV PC) rfl rfl rfl _ _ k6 (by show off+n*8+8<=cur.size;omega) (by kernel_rfl) (bU (je PC)) ?_)
         intro w14 qU kp;have xV:=gO.out _ PC qU;have gH:fu w14 b b { S10 with H:={ S10.H with dk:=⟨S10.H.dk.blocks.set n PC,S10.H.dk.queue⟩ } }:=qL.putD k6 kR (by rw[qQ.out];rfl) kp (l:=S10.H.dk.blocks.set n PC) (by simp) (by simpa using xV);have gv:MS w6 b S6 w14 { S10 with H:={ S10.H with dk:=⟨S10.H.dk.blocks.set n PC,S10.H.dk.queue⟩ } }:=qp.put kp im.out (λx X => .inl X);have px14:=px13.grown kp (λe=>id.out (aM e).symm);have fx14:=fx13.grown kp (λe=>is.out (aM e).symm);have qv:Hid (Own w14 b 3 1 (nT ⟨x,K,xs,U⟩) xs.length (xs.map fZ)):=ae (ax qx.out k6 (by decide) kp);have g6:Hid (IJ f s ct Z.H.asl fi0 (bk.set n PC) qu { S10 with H:={ S10.H with dk:=⟨S10.H.dk.blocks.set n PC,S10.H.dk.queue⟩ } }):=ae (by have h9:=hY.out.1;exact⟨h9.m,h9.asl,h9.sl,h9.sw,by show (⟨S10.H.dk.blocks.set n PC,S10.H.dk.queue⟩:wC)=_;rw[h9.dk],h9.fi,h9.ct,h9.ca,h9.sp,h9.T⟩);have ky:Hid (¬nL b { S10 with H:={ S10.H with dk:=⟨S10.H.dk.blocks.set n PC,S10.H.dk.queue⟩ } } gf0):=kQ;have kr:Hid (¬nL b { S10 with H:={ S10.H with dk:=⟨S10.H.dk.blocks.set n PC,S10.H.dk.queue⟩ } } gp):=xf;have kv:Hid (∀g,(nT ⟨x,K,xs,U⟩).ownBlock=some g->¬nL b { S10 with H:={ S10.H with dk:=⟨S10.H.dk.blocks.set n PC,S10.H.dk.queue⟩ } } g):=gK;clear qL qp px13 fx13 qx k6 xV qU kp;generalize { S10 with H:={ S10.H with dk:=⟨S10.H.dk.blocks.set n PC,S10.H.dk.queue⟩ } }=S14 at gH gv g6 ky kr kv
         go_wp2_with fail
         refine (fU S14 2 b b _ gH (by omega)).mono ?_;rintro r w15 ⟨z,a15,c15,l15,rfl,km,hQ,hz,_⟩;have fx15:=hQ.blkN fx14 ky.out;have px15:=hQ.blkN px14 kr.out;have gz:Hid (Own w15 b 3 1 (nT ⟨x,K,xs,U⟩) xs.length (xs.map fZ)):=ae (hQ.ownN qv.out kv.out);have hQ:=gv.trans hQ;have ga:Hid (IJ f s ct Z.H.asl fi0 (bk.set n PC) qu (S14.lst a15 c15 l15)):=ae (g6.out.lst _ _ _);have kx:Hid (¬nL b (S14.lst a15 c15 l15) gf0):=ky;have xe:Hid (¬nL b (S14.lst a15 c15 l15) gp):=kr;have gJ:Hid (∀g,(nT ⟨x,K,xs,U⟩).ownBlock=some g->¬nL b (S14.lst a15 c15 l15) g):=kv;clear gH gv fx14 px14 qv g6 ky kr kv;generalize S14.lst a15 c15 l15=S15 at km hQ ga kx xe gJ
         by_cases hz1:z=1
         ·subst hz1;have i7:S15.H.dk.queue.length<=100:=by have h1:=hY.out.2.1.ql;have h2:=hY.out.2.2;have h3:=xj.out;rw[ga.out.dk];rw[fH] at h1;show qu.length<=100;omega
          have gC:Hid (∀g,(Value.slice S15.H.dq S15.H.dk.queue.length S15.H.cdq).ownBlock=some g->g≠b/\∀t∈[(gp,fP PC,58),(gf0,qw ⟨x,K,xs,U⟩,101)],t.1≠g):=ae (λg hg=>by
           obtain⟨cs,hk⟩:=mK km.ma.dk.q g hg;refine⟨λe=>lX hk km.blk (by decide) e,λt ht => ?_⟩;simp only[dw,gN,or_false] at ht;rcases ht with rfl|rfl
           ·exact lX px15 hk (by decide)
           ·exact lX fx15 hk (by decide))
          have gM:Hid (∀t∈[(gp,fP PC,58),(gf0,qw ⟨x,K,xs,U⟩,101)],aG w15 t.1 t.2.1 t.2.2):=ae (λt ht=>by
           simp only[dw,gN,or_false] at ht;rcases ht with rfl|rfl
           ·exact px15
           ·exact fx15)
          go_upto_region 28 with (fail);refine iF 16 [_,_,_,_,_,_,.v (.slice S15.H.dq S15.H.dk.queue.length S15.H.cdq),_,.v (.agg (fP PC)),.v (.agg (GZ ((n:Int),PC))),.r 10 ((dC λ_=>True)),.r 11 ((dC λ_=>True)),_,_,_,_] (EH S15 b b w15 [(gp,fP PC,58),(gf0,qw ⟨x,K,xs,U⟩,101)] 11 10 105 9 S15.H.dk.queue.length (.slice S15.H.dq S15.H.dk.queue.length S15.H.cdq) (S15.H.dk.queue.flatMap zx) (zx ((n:Int),PC))) fG (λy=>SY km gM.out y) (Qk fG rfl (Qk fG rfl (Qk fG rfl (Qf fG b 1 rfl rfl (Qf fG b 6 rfl rfl (Qf fG b 7 rfl rfl (ah ?_ (Qk fG rfl (ah ?_ (ah ?_ (ah ?_ (ah ?_ (Qk fG rfl (Qf fG b 1 rfl rfl (Qf fG b 6 rfl rfl (Qf fG b 7 rfl rfl (aF) (λ_ _ _ _ d h=>gD (by decide) h)) (λ_ _ _ _ d h=>gD (by decide) h)) (λ_ _ _ _ d h=>gD (by decide) h)) (λ_ _ _ _ d h=>gD (by decide) h)))))) (λ_ _ _ _ d h=>gD (by decide) h))) (λ_ _ _ _ d h=>gD (by decide) h)) (λ_ _ _ _ d h=>gD (by decide) h)) (λ_ _ _ _ d h=>gD (by decide) h)) (λ_ _ _ _ d h=>gD (by decide) h)) (λ_ _ _ _ d h=>gD (by decide) h)) (λ_ _ _ _ d h=>gD (by decide) h)) (λ_=>rfl) rfl ?_
          ·intro ρ y W L D hn o d A G;refine fT fG (λ_ _ h=>gD (by decide) h) A ?_;have eS:=D 143 5 rfl;have h5:y 5=_:=G 5 rfl;have m1:=A.1.1;refine ak (.slice S15.H.dq S15.H.dk.queue.length S15.H.cdq) (aj rfl) (by simp[execOp,go_sem,eS,h5,m1.cell,jE]) rfl
          ·intro ρ y W L D hn o d A G;refine fT fG (λ_ _ h=>gD (by decide) h) A ?_;have iT:ρ (.tmp 15) = .pointer (some ⟨gp,0,none⟩):=(hn (.tmp 15) rfl).trans rfl;have m3:=A.1.2 _ iL;refine ak (.agg (fP PC)) (aj rfl) (dW rfl iT m3 underlying58 rfl psize) rfl
          ·intro ρ y W L D hn o d A G;refine fT fG (λ_ _ h=>gD (by decide) h) A ?_;have eQ:=D 145 7 rfl;have h7:y 7=_:=G 7 rfl;have eP:=D 146 8 rfl;have h8:y 8=_:=G 8 rfl;refine ak (.agg (GZ ((n:Int),PC))) (aj rfl) (by simp[execOp,go_sem,eQ,h7,eP,h8,fP,GZ]) rfl
          ·intro ρ y W L D hn o d A G;have eO:=D 147 9 rfl;have h9:y 9=_:=G 9 rfl;refine fF (.slice (some ⟨W.heap.size,0,none⟩) 1 1) (aj rfl) ?_ (Sv (W':=W.alloc (.cells (GZ ((n:Int),PC)) 105)) (by decide) ((Below.refl _ _).alloc (az _) _) A ⟨az _,by unfold maxLen;omega,λe=>(by cases e),dZ.new _ _ _⟩) trivial;simp[execOp,go_sem,eO.trans h9,GZ]
          ·intro ρ y W L D hn o d A G;have eR:=D 144 6 rfl;have h6:y 6=_:=G 6 rfl;have eN:=D 148 10 rfl;have xD:=G 10 rfl;have I:=(A.2.1 o).1;obtain⟨a,e,gb,kL⟩:=A.2.2.1 (d 10 rfl) o;have xd:Own W b 105 9 (.slice S15.H.dq S15.H.dk.queue.length S15.H.cdq) S15.H.dk.queue.length (S15.H.dk.queue.flatMap zx):=I.ma.dk.q;refine mh (aj rfl) (qi _ _ _ rfl b 105 _ 9 16 underlying36 put_info rfl (by decide) (.slice S15.H.dq S15.H.dk.queue.length S15.H.cdq) S15.H.dk.queue.length _ (eR.trans h6) xd a 1 e (zx ((n:Int),PC)) (eN.trans gb) kL.nl kL.le rfl kL.rd (bU (Ox _)) (by unfold maxLen;omega) (by omega) I.bs) (λv W1 h=>TJ o A h.2.1 gC.out h.1 h.2.2) (λ_ _ _=>trivial)
          intro y W16 kA xx;clear xx;obtain⟨wq,kj,kC,kF,kq,ka⟩:=kA.2.2.2 rfl;have kS:=kA.1.1;have fx16:aG W16 gf0 (qw ⟨x,K,xs,U⟩) 101:=kA.1.2 _ (jV _ iL);have qt:Hid (Own W16 b 3 1 (nT ⟨x,K,xs,U⟩) xs.length (xs.map fZ)):=ae (by
           have h1:=kC.ownN gz.out gJ.out;rcases sF kj.ma.dk.q kF with hb0|⟨g,cs,hk,_,hg'⟩
           ·exact h1.below hb0
           ·exact ax h1 hk (by decide) hg')
          have iW:=ae kC;have qo:=hQ.trans kC;obtain⟨aq,cq,gk,_⟩:=kq.rd;rw[gk] at kq ka ⊢;clear gk kA km hQ px15 fx15 gz kC gM gC
          go_wp2_with (refine aB rfl _ _ _ rfl b 7 _ [.slice aq (S15.H.dk.queue.length+1) cq] rfl rfl rfl _ _ kS (by show 7+1<=13;omega) (by kernel_rfl) (λu hu=>by cases bC.1 hu;rfl) ?_)
          intro w17 kI hS;have hD:(S15.H.dk.queue++[((n:Int),PC)]).length=S15.H.dk.queue.length+1:=by simp
          have gy : Own W16 b 105 9 (.slice aq (S15.H.dk.queue++[((n:Int),PC)]).length cq) (S15.H.dk.queue++[((n:Int),PC)]).length ((S15.H.dk.queue++[((n:Int),PC)]).flatMap zx):=by rw[hD,fE];simpa using kq
          have gG:=kj.appQ kF gy (by rw[hD];exact kI) hS;have gF:∀x,nL b { S15 with H:={ S15.H with dq:=aq,cdq:=cq,dk:=⟨S15.H.dk.blocks,S15.H.dk.queue++[((n:Int),PC)]⟩ } } x->nL b S15 x\/oB aq=some x:=λx X=>by
           rcases X with X|X
           ·exact .inl (.inl X)
           simp only[iQ,dw,gN,or_false] at X;rcases X with X|X|X|X|X|X|X|X|X<;>first|exact .inr X.symm|exact .inl (.inr (by simp[iQ,X]))
          have kD:=qo.app kj kj.ma.dk.q (by simp[iQ]) kF hS ka gF;have hqN:Hid (¬nL b { S15 with H:={ S15.H with dq:=aq,cdq:=cq,dk:=⟨S15.H.dk.blocks,S15.H.dk.queue++[((n:Int),PC)]⟩ } } gf0):=ae (λhk=>(gF gf0 hk).elim kx.out λe=>lX (iY gy e).2.choose_spec fx16 (by decide) rfl);have fx17:=fx16.grown hS (λe=>kx.out (.inl (aM e).symm));have xW:Hid (Own w17 b 3 1 (nT ⟨x,K,xs,U⟩) xs.length (xs.map fZ)):=ae (ax qt.out kS (by decide) hS);have g4:Hid (IJ f s ct Z.H.asl fi0 (bk.set n PC) (qu++[((n:Int),PC)]) { S15 with H:={ S15.H with dq:=aq,cdq:=cq,dk:=⟨S15.H.dk.blocks,S15.H.dk.queue++[((n:Int),PC)]⟩ } }/\Fb ct (bk.set n PC) (qu++[((n:Int),PC)]) (fi0.map PF.fi) (xs++[(n:Int)])):=ae (by have h9:=ga.out;exact⟨⟨h9.m,h9.asl,h9.sl,h9.sw,by show (⟨S15.H.dk.blocks,S15.H.dk.queue++[((n:Int),PC)]⟩:wC)=_;rw[h9.dk],h9.fi,h9.ct,h9.ca,h9.sp,h9.T⟩,hY.out.2.1.wait gB.out.1 gB.out.2 PC⟩);clear kj kF kq ka kS fx16 qt qo kI hD gy hS gF;go_wp2;go_meet
          case rel=>exact⟨(n:Int),_,_,_,rfl,gG,kD,hqN,g4,fx17,xW⟩
         have g4:Hid (IJ f s ct Z.H.asl fi0 (bk.set n PC) qu S15/\Fb ct (bk.set n PC) qu (fi0.map PF.fi) (xs++[(n:Int)])):=ae ⟨ga.out,hY.out.2.1.some gB.out.1 gB.out.2 PC⟩;go_wp2;go_meet
         case rel=>exact⟨(n:Int),S15,_,_,rfl,km,hQ,kx,g4,fx15,gz⟩
      case rest=>
      obtain⟨v,S,bk,qu,rfl,I,Y,x5,hF,fx,ho⟩:=hcut;clear hR hJ kB fx9 kh ko kE;have kH:=fx.cell;unfold qw at kH;have jc:=ae hF.out.2;have xI:xs.length<=100:=by have h1:=xC.out;omega
      have i8:=ae xI
      go_wp2_with (at_builtin;go_must (refine tQ rfl _ _ 33 rfl b 3 (.int .i64 0) 1 8 underlying33 int_info rfl (by decide) (nT ⟨x,K,xs,U⟩) xs.length (xs.map fZ) rfl (ho.out.alloc _) (some ⟨wc.heap.size,0,none⟩) 1 1 [fZ v] rfl (λh=>(by cases h)) (az _) rfl (dZ.new _ #[fZ v] _) (by simp[fZ,Value.oneCell']) (by unfold maxLen;omega) (by omega) (dE I.bs _) ?_))
      intro v2 w2 own2 gi gq;have g0:=(Below.refl wc.heap.size wc).alloc (az _) (.cells #[fZ v] 3);have gh:=I.below g0;have gx:=Y.below g0;have fx1:=fx.ext g0;have gA:Own (wc.alloc (.cells #[fZ v] 3)) b 3 1 (.slice K xs.length U) xs.length (xs.map fZ):=ho.out.below g0;obtain⟨a2,c2,xO,_⟩:=own2.rd;rw[xO] at own2 gq ⊢;have x9:Hid (∀g,oB a2=some g->w6.heap.size<=g/\oB Z.H.asl≠some g/\∀p∈fi0,oB p.a≠some g):=ae (λg hg=>by
       rcases gq with e1|e1
       ·unfold nT at e1;rw[jA,jA] at e1;exact kU.out g (by rw[<-e1];exact hg)
       have h1:=e1 g (by rw[jA];exact hg);refine⟨bi gx.size h1,λe => ?_,λp hp e => ?_⟩
       ·exact absurd h1 (Nat.not_le.2 (iY gh.ma.sl (by rw[hF.out.1.asl];exact e)).2.choose_spec.lt)
       rw[<-hF.out.1.fi] at hp;obtain⟨k,hk,rfl⟩:=jI.1 hp;exact absurd h1 (Nat.not_le.2 (iY (gh.ma.st.each k _ (aH hk)) e).2.choose_spec.lt))
      have x0:fu w2 b b S:=by
       rcases sF gA gi with hb0|⟨g,cs,hk,hga,hg'⟩
       ·exact gh.below hb0
       ·exact gh.locI hk (gh.kb_int hk (by rw[hF.out.1.asl];exact (kU.out g hga).2.1)) (by rw[hF.out.1.fi];exact (kU.out g hga).2.2) (iY gA hga).1 hg'
      have xS:MS w6 b S6 w2 S:=by
       rcases sF gA gi with hb0|⟨g,cs,hk,hga,hg'⟩
       ·exact gx.below hb0
       ·exact gx.loc hg' (kU.out g hga).1
      have fx2:aG w2 gf0 (qw ⟨x,K,xs,U⟩) 101:=by
       rcases sF gA gi with hb0|⟨g,cs,hk,hga,hg'⟩
       ·exact fx1.ext hb0
       ·exact bZ fx1 hk (by decide) hg'
      clear kH I Y fx gh gx fx1 gA gi gq g0 ho xO
      go_wp2_with (refine aB rfl _ _ _ rfl gf0 1 _ [.slice a2 (xs.length+1) c2] rfl rfl rfl _ _ fx2 (by show 1+1<=2;omega) (by kernel_rfl) (λu hu=>by cases bC.1 hu;rfl) ?_)
      intro w3 ef qc;have kW:(xs++[v]).length=xs.length+1:=by simp
      have fx3:aG w3 gf0 (qw ⟨x,a2,xs++[v],c2⟩) 101:=by
       have e:qw ⟨x,a2,xs++[v],c2⟩=bI (qw ⟨x,K,xs,U⟩) 1 [.slice a2 (xs.length+1) c2]:=by unfold qw;dsimp only;rw[kW];kernel_rfl
       rw[e];exact ef
      have ik:=x0.locT fx2 (by decide) x5.out kR qc;have e6:=xS.loc qc ip.out;have ii:Hid (Own w3 b 3 1 (nT ⟨x,a2,xs++[v],c2⟩) (xs++[v]).length ((xs++[v]).map fZ)/\∀g,oB a2=some g->w6.heap.size<=g/\oB Z.H.asl≠some g/\∀p∈fi0,oB p.a≠some g):=ae ⟨by
       have h1:=ax own2 fx2 (by decide) qc;unfold nT;dsimp only;rw[kW,jS];exact h1,x9.out⟩
      have iu:Hid (IJ f s ct Z.H.asl fi0 bk qu S/\Fb ct bk qu (fi0.map PF.fi) (xs++[v])/\(xs++[v]).length=i+1):=ae ⟨hF.out.1,hF.out.2,by rw[kW,ev.out]⟩;clear x0 xS fx2 own2 ef qc kW xI;go_wp2;go_roundw
      case rel=>exact⟨i+1,S,bk,qu,xs++[v],a2,c2,by omega,by go_num,ik,e6,x5,iu,fx3,ii⟩
      case measure=>simp[intOf];omega
     have io:¬(i:Int)<(C:Int):=by omega
     have x6 : i=C:=by omega
     subst x6;have i2:S.H.fi.length<=5:=by rw[O.out.1.fi];have:=xj.out;omega
     have qN:∀g,(Value.slice S.H.ai S.H.fi.length S.H.ci).ownBlock=some g->nL b S g:=λg hg => .inr (by rw[jA] at hg;simp[iQ,hg]);have gC:Hid (∀g,(Value.slice S.H.ai S.H.fi.length S.H.ci).ownBlock=some g->g≠b/\∀t∈[(gf0,qw ⟨x,K,xs,U⟩,101)],t.1≠g):=ae (λg hg=>by obtain⟨cs,hk⟩:=mK I.ma.st.own g hg;refine⟨λe=>lX hk I.blk (by decide) e,λt ht => ?_⟩;rw[bC.1 ht];intro e;exact k0.out (by rw[show gf0=g from e];exact qN g hg));have gM:Hid (∀t∈[(gf0,qw ⟨x,K,xs,U⟩,101)],aG wr t.1 t.2.1 t.2.2):=ae (λt ht=>by rw[bC.1 ht];exact fx);go_upto_region 31 with (fail);refine iF 14 [_,_,_,_,_,_,.v (.slice S.H.ai S.H.fi.length S.H.ci),.v (.agg (qw ⟨x,K,xs,U⟩)),.r 8 ((dC λ_=>True)),.r 9 ((dC λ_=>True)),_,_,_,_] (EH S b b wr [(gf0,qw ⟨x,K,xs,U⟩,101)] 9 8 101 2 S.H.fi.length (.slice S.H.ai S.H.fi.length S.H.ci) (S.H.fi.flatMap qW) (qW ⟨x,K,xs,U⟩)) fG (λy=>SY I gM.out y) (Qk fG rfl (Qk fG rfl (Qk fG rfl (Qf fG b 1 rfl rfl (Qf fG b 8 rfl rfl (Qf fG b 8 rfl rfl (ah ?_ (ah ?_ (ah ?_ (ah ?_ (Qk fG rfl (Qf fG b 1 rfl rfl (Qf fG b 8 rfl rfl (Qf fG b 8 rfl rfl (aF) (λ_ _ _ _ d h=>gD (by decide) h)) (λ_ _ _ _ d h=>gD (by decide) h)) (λ_ _ _ _ d h=>gD (by decide) h)) (λ_ _ _ _ d h=>gD (by decide) h)))))) (λ_ _ _ _ d h=>gD (by decide) h)) (λ_ _ _ _ d h=>gD (by decide) h)) (λ_ _ _ _ d h=>gD (by decide) h)) (λ_ _ _ _ d h=>gD (by decide) h)) (λ_ _ _ _ d h=>gD (by decide) h)) (λ_ _ _ _ d h=>gD (by decide) h)) (λ_=>rfl) rfl ?_
     ·intro ρ y W L D hn o d A G;refine fT fG (λ_ _ h=>gD (by decide) h) A ?_;have eM:=D 166 5 rfl;have h5:y 5=_:=G 5 rfl;have m1:=A.1.1;refine ak (.slice S.H.ai S.H.fi.length S.H.ci) (aj rfl) (by simp[execOp,go_sem,eM,h5,m1.cell,jE]) rfl
     ·intro ρ y W L D hn o d A G;refine fT fG (λ_ _ h=>gD (by decide) h) A ?_;have xE:ρ (.tmp 11) = .pointer (some ⟨gf0,0,none⟩):=(hn (.tmp 11) rfl).trans rfl;have m3:=A.1.2 _ iL;refine ak (.agg (qw ⟨x,K,xs,U⟩)) (aj rfl) (dW rfl xE m3 underlying101 rfl file_size) rfl
     ·intro ρ y W L D hn o d A G;have eK:=D 168 7 rfl;have h7:y 7=_:=G 7 rfl;refine fF (.slice (some ⟨W.heap.size,0,none⟩) 1 1) (aj rfl) ?_ (Sv (W':=W.alloc (.cells (qw ⟨x,K,xs,U⟩) 101)) (by decide) ((Below.refl _ _).alloc (az _) _) A ⟨az _,by unfold maxLen;omega,λe=>(by cases e),dZ.new _ _ _⟩) trivial;simp[execOp,go_sem,eK.trans h7,qw]
     ·intro ρ y W L D hn o d A G;have eL:=D 167 6 rfl;have h6:y 6=_:=G 6 rfl;have eJ:=D 169 8 rfl;have h8:=G 8 rfl;have I:=(A.2.1 o).1;obtain⟨a,e,gb,kL⟩:=A.2.2.1 (d 8 rfl) o;have xd:Own W b 101 2 (.slice S.H.ai S.H.fi.length S.H.ci) S.H.fi.length (S.H.fi.flatMap qW):=I.ma.st.own;refine mh (aj rfl) (qi _ _ _ rfl b 101 _ 2 32 underlying39 file_info rfl (by decide) (.slice S.H.ai S.H.fi.length S.H.ci) S.H.fi.length _ (eL.trans h6) xd a 1 e (qW ⟨x,K,xs,U⟩) (eJ.trans gb) kL.nl kL.le rfl kL.rd (bU (rA _)) (by unfold maxLen;omega) (by omega) I.bs) (λv W1 h=>TJ o A h.2.1 gC.out h.1 h.2.2) (λ_ _ _=>trivial)
     intro y W8 gX eo;clear eo;obtain⟨wq,kj,kC,kF,kq,ka⟩:=gX.2.2.2 rfl;have qR:=gX.1.1;have qr:=kC.ownN ho.out.1 (λg hg=>by obtain⟨cs,hk⟩:=mK ho.out.1 g hg;refine I.kb_int hk ?_;rw[O.out.1.asl];exact (ho.out.2 g (by unfold nT at hg;rw[jA] at hg;exact hg)).2.1);have hA:=Y.trans kC;obtain⟨aq,cq,gk,_⟩:=kq.rd;rw[gk] at kq ka ⊢;clear gk gX I Y fx kC gM gC qN
     go_wp2_with (refine aB rfl _ _ _ rfl b 8 _ [.slice aq (S.H.fi.length+1) cq] rfl rfl rfl _ _ qR (by show 8+1<=13;omega) (by kernel_rfl) (λu hu=>by cases bC.1 hu;rfl) ?_)
     intro w17 kI hS;have hD:(S.H.fi++[(⟨x,K,xs,U⟩:PF)]).length=S.H.fi.length+1:=by simp
     have gG:fu w17 b b { S with H:={ S.H with ai:=aq,ci:=cq,fi:=S.H.fi++[(⟨x,K,xs,U⟩:PF)] } }:=kj.appFi (p:=⟨x,K,xs,U⟩) qr (λk p hp g hg hg'=>by unfold nT at hg hg';rw[jA] at hg hg';exact (ho.out.2 g hg').2.2 p (by rw[<-O.out.1.fi];exact bV hp) hg) (λg hg=>by rw[O.out.1.asl];exact (ho.out.2 g hg).2.1) kF (by rw[hD];exact kq) (by rw[hD];exact kI) hS;have kD:MS w6 b S6 w17 { S with H:={ S.H with ai:=aq,ci:=cq,fi:=S.H.fi++[(⟨x,K,xs,U⟩:PF)] } }:=hA.app kj kj.ma.st.own (by simp[iQ]) kF hS ka (λx X=>by
      rcases X with X|X
      ·exact .inl (.inl X)
      simp only[iQ,dw,gN,or_false] at X;rcases X with X|X|X|X|X|X|X|X|X<;>first|exact .inr X.symm|exact .inl (.inr (by simp[iQ,X])))
     have kD:=kg.trans kD;have er:Hid (IJ f s ct Z.H.asl (S.H.fi++[(⟨x,K,xs,U⟩:PF)]) bk qu { S with H:={ S.H with ai:=aq,ci:=cq,fi:=S.H.fi++[(⟨x,K,xs,U⟩:PF)] } }/\Fb ct bk qu ((S.H.fi++[(⟨x,K,xs,U⟩:PF)]).map PF.fi) []/\(S.H.fi++[(⟨x,K,xs,U⟩:PF)]).length=q+1/\(q+1=0->bk=List.replicate ct zPg/\qu=[]/\(l=[]->S.l=[]))):=ae (by have h9:=O.out.1;refine⟨⟨h9.m,h9.asl,h9.sl,h9.sw,h9.dk,rfl,h9.ct,h9.ca,h9.sp,h9.T⟩,?_,by rw[hD,h9.fi,x3.out],λe=>absurd e (by omega)⟩;rw[jS,h9.fi];exact O.out.2.1.file (s:=x) (by omega) (by omega) (by rw[O.out.2.2,ew.out]));clear kj kF kq ka qR qr hA kI hD hS;go_wp2;go_roundw
     case rel=>exact⟨q+1,_,bk,qu,by omega,by go_num,gG,kD,er⟩
     case measure=>simp[intOf];omega
   have ge:¬(q:Int)<(N:Int):=by omega
   have kz:Hid (Bd S.H.ma S.T/\Oe S/\S.H.sp.length=0/\S.H.m.fs.length=f/\S.H.dk.blocks.length=ct/\(l=[]->S.l=[]/\S.H.ma=BD f s ct (List.replicate ct zPg) [] []/\S.T=[])):=ae (by
    obtain⟨h1,h2,h3,h4⟩:=O.out;refine⟨by rw[h1.ma,h1.T];exact h2.bd (by rw[fH];omega) gT gu,λp hp=>(by rw[h1.sp] at hp;cases hp),by rw[h1.sp];rfl,by rw[h1.m];exact kK,by rw[h1.dk];exact h2.cl.1,λe => ?_⟩;have xz:=(x2.out e).1;have ia:q=0:=by omega
    obtain⟨k1,k2,k3⟩:=h4 ia;refine⟨k3 e,?_,h1.T⟩;have eb:fi0=[]:=DN.1 (by omega);rw[h1.ma,k1,k2,eb];rfl)
   clear O
   go_wp2_with fail
   refine (fU S 2 b b _ I (by omega)).mono ?_;rintro r w6 ⟨z,a6,c6,l6,rfl,kt,kg,hz,q0⟩;have kg:=Y.trans kg;have xF:IntKind.i64.wrap (1+z)=1+z:=bG _ (by omega);obtain⟨M,hM⟩:∃M:Nat,1+z=(M:Int):=⟨(1+z).toNat,by omega⟩;have jb:1<=M/\M<=2:=by omega
   have hV:Hid (Bd (S.lst a6 c6 l6).H.ma (S.lst a6 c6 l6).T/\Oe (S.lst a6 c6 l6)/\(S.lst a6 c6 l6).H.sp.length=0/\(S.lst a6 c6 l6).H.m.fs.length=f/\(S.lst a6 c6 l6).H.dk.blocks.length=ct/\(l=[]->(S.lst a6 c6 l6).l=[]/\(S.lst a6 c6 l6).H.ma=BD f s ct (List.replicate ct zPg) [] []/\(S.lst a6 c6 l6).T=[])):=ae
    ⟨kz.out.1,kz.out.2.1,kz.out.2.2.1,kz.out.2.2.2.1,kz.out.2.2.2.2.1,λe=>⟨(q0 (kz.out.2.2.2.2.2 e).1).2,(kz.out.2.2.2.2.2 e).2⟩⟩
   have eq:Hid (l=[]->M=1):=ae (λe=>by have:=(q0 (kz.out.2.2.2.2.2 e).1).1;omega);rw[hM] at xF;clear I Y kz hz q0;generalize S.lst a6 c6 l6=S6 at kt kg hV;go_upto_region 34 with (fail);clear hM xF
   go_loopw [179] (fun k wr => ∃(p:Nat) (S:MW),p<=M/\k = .int .i64 p/\fu wr b b S/\MS w4 b Z wr S/\Hid (Bd S.H.ma S.T/\Oe S/\S.H.sp.length=p/\S.H.m.fs.length=f/\S.H.dk.blocks.length=ct/\(l=[]->S.l=[]/\((p=0->S.H.ma=BD f s ct (List.replicate ct zPg) [] []/\S.T=[])/\(p=1->S.H.ma = { BD f s ct (List.replicate ct zPg) [] [] with sp:=[⟨true,[],zTb⟩] }/\S.T=[List.replicate 64 zEn]))))) (fun k _=>M-(intOf k).toNat)
   case atStart=>exact⟨0,S6,aZ _,rfl,kt,kg,ae ⟨hV.out.1,hV.out.2.1,hV.out.2.2.1,hV.out.2.2.2.1,hV.out.2.2.2.2.1,λe=>⟨(hV.out.2.2.2.2.2 e).1,λ_=>(hV.out.2.2.2.2.2 e).2,λh=>(by cases h)⟩⟩⟩
   case round=>
    clear kt kg hV;obtain⟨p,S,hp,rfl,I,Y,O⟩:=hrel
    by_cases hpM:p<M
    ·have ib:(p:Int)<(M:Int):=by omega
     have kX:∀(S' : MW),More S S'->(l=[]->p=0->S'.l=[]/\S'.H.ma = { S.H.ma with sp:=S.H.ma.sp++[⟨true,[],zTb⟩] }/\S'.T=S.T++[List.replicate 64 zEn])->Bd S'.H.ma S'.T/\Oe S'/\S'.H.sp.length=p+1/\S'.H.m.fs.length=f/\S'.H.dk.blocks.length=ct/\(l=[]->S'.l=[]/\((p+1=0->S'.H.ma=BD f s ct (List.replicate ct zPg) [] []/\S'.T=[])/\(p+1=1->S'.H.ma = { BD f s ct (List.replicate ct zPg) [] [] with sp:=[⟨true,[],zTb⟩] }/\S'.T=[List.replicate 64 zEn]))):=λS' hB hn=>by
      obtain⟨h1,h2,h3,h4,h5,h6⟩:=O.out;refine⟨hB.bd,hB.fm,by rw[hB.sp,h3],by rw[hB.fs,h4],by rw[hB.dk,h5],λe => ?_⟩;have gg:p=0:=by have:=eq.out e;omega
      obtain⟨k1,k2,k3⟩:=hn e gg;obtain⟨q1,q2⟩:=(h6 e).2.1 gg;refine⟨k1,λh=>absurd h (by omega),λ_=>⟨by rw[k2,q1];rfl,by rw[k3,q2];rfl⟩⟩
     have kc:=ae kX;clear kX
     by_cases hp1:p=1
     ·subst hp1
      go_wp2_with fail
      refine (fU S 2 b b _ I (by omega)).mono ?_;rintro r w7 ⟨z2,a7,c7,l7,rfl,kO,gc,i4,_⟩;have gc:=Y.trans gc;clear I Y
      by_cases hz1:z2=1
      ·subst hz1
       go_wp2_with fail
       refine (PI (S.lst a7 c7 l7) b b _ kO O.out.1 O.out.2.1 O.out.2.2.1).mono ?_;rintro r w8 ⟨S8,rfl,hG,hA,hB⟩;have hA:=gc.trans hA;have h0:=ae (kc.out S8 ⟨hB.bd,hB.fm,hB.fi,hB.ct,hB.dk,hB.sp,hB.fs⟩ (λ_ h=>absurd h (by decide)));clear kO gc hB O;go_wp2;go_roundw
       case rel=>exact⟨2,S8,by omega,by go_num,hG,hA,h0⟩
       case measure=>simp[intOf];omega
      have i3:(z2==1)=false:=by simpa using hz1
      go_wp2_with fail
      refine (Ei (S.lst a7 c7 l7) b b _ kO O.out.1 O.out.2.1 (by have:=O.out.2.2.1;show S.H.sp.length<4;omega)).mono ?_;rintro r w8 ⟨S8,rfl,hG,hA,hB,_⟩;have hA:=gc.trans hA;have h0:=ae (kc.out S8 ⟨hB.bd,hB.fm,hB.fi,hB.ct,hB.dk,hB.sp,hB.fs⟩ (λ_ h=>absurd h (by decide)));clear kO gc hB O;go_wp2;go_roundw
      case rel=>exact⟨2,S8,by omega,by go_num,hG,hA,h0⟩
      case measure=>simp[intOf];omega
     have gg:p=0:=by omega
     subst gg
     go_wp2_with fail
     refine (Ei S b b _ I O.out.1 O.out.2.1 (by have:=O.out.2.2.1;omega)).mono ?_;rintro r w8 ⟨S8,rfl,hG,hA,hB,qA⟩;have hA:=Y.trans hA;have h0:=ae (kc.out S8 hB (λe _=>qA (O.out.2.2.2.2.2 e).1));clear I Y hB O qA;go_wp2;go_roundw
     case rel=>exact⟨0+1,S8,by omega,by go_num,hG,hA,ae ⟨h0.out.1,h0.out.2.1,h0.out.2.2.1,h0.out.2.2.2.1,h0.out.2.2.2.2.1,λe=>⟨(h0.out.2.2.2.2.2 e).1,(h0.out.2.2.2.2.2 e).2.1,λ_=>(h0.out.2.2.2.2.2 e).2.2 (by first | trivial | rfl)⟩⟩⟩
     case measure=>simp[intOf];omega
    have ib:¬(p:Int)<(M:Int):=by omega
    have ig:M=p:=by omega
    subst ig;have kV:Hid (Bd S.H.ma S.T/\S.T.length=M/\S.H.ma.sp.length=M):=ae (by have h1:=O.out.2.2.1;have h2:S.H.ma.sp.length=S.H.sp.length:=fH _;exact⟨O.out.1,by rw[O.out.1.ok.len];omega,by omega⟩);have eu:Hid (S.H.ma=tabs S.H.ma S.T 0/\S.T=S.T/\S.H.sp.length=M/\Oe S/\S.H.m.fs.length=f/\S.H.dk.blocks.length=ct/\(l=[]->S.l=[])):=ae ⟨rfl,rfl,O.out.2.2.1,O.out.2.1,O.out.2.2.2.1,O.out.2.2.2.2.1,λe=>(O.out.2.2.2.2.2 e).1⟩;have qC:Hid (l=[]->eT S.H.ma S.T=yO f s ct):=ae (λe=>by obtain⟨k1,k2⟩:=(O.out.2.2.2.2.2 e).2.2 (eq.out e);rw[k1,k2];exact TR gT gu gV);obtain⟨m5,ku⟩:∃m,S.H.ma=m:=⟨_,rfl⟩;obtain⟨T5,xw⟩:∃T,S.T=T:=⟨_,rfl⟩;have et:Hid (S.H.ma=tabs m5 T5 0/\S.T=T5/\S.H.sp.length=M/\Oe S/\S.H.m.fs.length=f/\S.H.dk.blocks.length=ct/\(l=[]->S.l=[])):=ae (by rw[<-ku,<-xw];exact eu.out);rw[ku,xw] at kV qC;have qj:S.H.sp.length=M:=O.out.2.2.1;clear O eu ku xw;have hc:=I.blk.cell;unfold jE at hc;rw[qj] at hc;clear qj;go_upto_region 41 with (fail);clear hc
    go_loopw [200] (fun k wr => ∃(q:Nat) (S:MW),q<=M/\k = .int .i64 q/\fu wr b b S/\MS w4 b Z wr S/\Hid (S.H.ma=tabs m5 T5 q/\S.T=T5/\S.H.sp.length=M/\Oe S/\S.H.m.fs.length=f/\S.H.dk.blocks.length=ct/\(l=[]->S.l=[]))) (fun k _=>M-(intOf k).toNat)
    case atStart=>exact⟨0,S,aZ _,rfl,I,Y,et⟩
    case round=>
     clear I Y et;obtain⟨q,S,hq,rfl,I,Y,O⟩:=hrel
     by_cases hqM:q<M
     ·have ge:(q:Int)<(M:Int):=by omega
      obtain⟨P,hP⟩:∃P,S.H.sp[q]?=some P:=⟨_,aH (by rw[O.out.2.2.1];exact hqM)⟩;obtain⟨g,off,cur0,kU,_,_,_,_⟩:=I.setTb hP;have en:S.T.length=M:=by rw[O.out.2.1];exact kV.out.2.1
      obtain⟨gt,ot,ct',curt,xN,_,xl,x7,qO,_⟩:=I.tt.put zb (by decide) q (by omega);have ek:S.ab=some ⟨gt,ot,none⟩:=(oJ xN).1;have qh:(fI T5 q).length=64:=kV.out.1.ok.l64 (by rw[kV.out.2.2];exact hqM);have el:S.T[q]'(by omega)=fI T5 q:=by rw[<-fu.lst_len (by omega),O.out.2.1]
      have qq:∀W,Below wr.heap.size wr W->dZ W (some ⟨gt,ot+q*192,none⟩) (xn (fI T5 q)).toList:=λW A j u hj=>by refine⟨gt,ot+q*192,rfl,?_⟩;have e1:=qO j u (by rw[el,WY qh];exact hj);rw[xl.cell] at e1;rw[(xl.ext A).cell];exact e1
      have xR:=ae O.out.2.2.1;have em:=ae en;have gZ:=ae kU;have ej:=ae ek;have ex:=ae qh;have gm:(xn (fI T5 q)).toList.length=192:=by rw[jg,vg,qh]
      have xQ:=ae gm;have xy:=ae hP;have q9:=ae qq;clear xN qO el en kU ek qh gm hP qq xl x7;go_upto_region 43 with (fail);refine aN 16 [_,_,_,_,_,_,_,_,_,_,_,_,_,.r 13 ((JL b (ic (fI T5 q)))),_,_] (Gk rfl (Gk rfl (Gf b 1 rfl rfl (Gf b 11 rfl rfl (Gl I.blk (V:=.slice (some ⟨g,off,none⟩) M S.H.cp) (by simp[jE,gZ.out,xR.out]) rfl rfl rfl rfl (Gk rfl (Gk rfl (Gk rfl (Gf b 12 rfl rfl (Gl I.blk (V:=.slice (some ⟨gt,ot,none⟩) M S.cb) (by simp[jE,ej.out,em.out]) rfl rfl rfl rfl (Gk rfl (Gr (.pointer (some ⟨gt,ot+q*192,none⟩)) (λρ y W A hZ=>(bP rfl (aI rfl hZ) (aI rfl hZ) hqM underlying96 arr64_size)) rfl rfl (Gr (.agg (xn (fI T5 q))) (λρ y W A hZ=>(bF rfl (aI rfl hZ) (q9.out W A) underlying69 rfl (arr64_size.trans (congrArg some xQ.out.symm)))) rfl rfl (ah ?_ (Gr (.pointer (some ⟨g,off+q*10,none⟩)) (λρ y W A hZ=>(bP rfl (aI rfl hZ) (aI rfl hZ) hqM underlying43 space_size)) rfl rfl (Gf g (off+q*10+2) rfl rfl (aF))))))))))))))))) (λ_=>rfl) rfl ?_
      ·intro ρ y W D hn A G;have eI:=D 215 12 rfl;have g9:y 12=_:=G 12 rfl;have EF:∀f,ρ (.func f) = .func (.func f) #[] #[]:=λf=>hn (.func f) trivial;refine aO _ _ (aj rfl) (aT rfl (EF _) func38 (by kernel_rfl) (by kernel_rfl) (by simp only[bX,bR,aY,eI,g9,EF];rfl)) ?_;refine (Mc (fI T5 q) W ex.out).mono ?_;rintro e w1 ⟨ca,rfl,hO,kT⟩;exact⟨_,rfl,kT,⟨_,rfl,hO.mono (I.below A).bs⟩⟩
      intro y W9 hy hW;have xH:=hW 13 (by decide);clear hW;obtain⟨cs,gl,qf⟩:∃cs,y 13 = .agg cs/\rJ W9 b cs (ic (fI T5 q)):=xH;obtain⟨v,rfl⟩:=Ri qf.sz;rw[gl];have hR:=I.below hy;have hJ:=Y.below hy;clear I Y hy gl;obtain⟨g2,off2,cur,gY,i0,gW,gS,gr⟩:=hR.setTb xy.out;rw[gZ.out] at gY;obtain⟨rfl,rfl⟩:g=g2/\off=off2:=by have:=aM gY;exact⟨congrArg Addr.block this,congrArg Addr.off this⟩
      have qM:nL b S g:=.inr (by simp[iQ,gZ.out,oB,Value.ownBlock]);clear gY
      go_wp2_with (refine aB rfl _ _ _ rfl g (off+q*10+2) _ (oh v).toList rfl rfl rfl _ _ gW (by show off+q*10+2+8<=cur.size;exact gS) (by kernel_rfl) (TT qf.rd) ?_)
      intro w10 qX gR;have ke:=gr w10 v _ qf qX gR;have hK:MS w4 b Z w10 { S with H:={ S.H with sp:=S.H.sp.set q { P with ts:=v,tb:=ic (fI T5 q) } } }:=hJ.put gR qM (λx X => .inl X);have es:Hid (({ S with H:={ S.H with sp:=S.H.sp.set q { P with ts:=v,tb:=ic (fI T5 q) } } }:MW).H.ma=tabs m5 T5 (q+1)/\S.T=T5/\(S.H.sp.set q { P with ts:=v,tb:=ic (fI T5 q) }).length=M/\Oe { S with H:={ S.H with sp:=S.H.sp.set q { P with ts:=v,tb:=ic (fI T5 q) } } }/\S.H.m.fs.length=f/\S.H.dk.blocks.length=ct/\(l=[]->S.l=[])):=ae (by
       obtain⟨q1,q2,q3,q4,q5⟩:=O.out;refine⟨?_,q2,by rw[bK];exact q3,λp hp n x X => ?_,q5⟩
       ·show MH.ma { S.H with sp:=S.H.sp.set q { P with ts:=v,tb:=ic (fI T5 q) } }=_;rw[Om xy.out,q1];rfl
       rcases lL hp with hp|rfl
       ·exact q4 p hp n x X
       ·exact q4 P (bV xy.out) n x X)
      clear hR hJ gW gS gr qX gR qf O qM;go_wp2;go_roundw
      case rel=>exact⟨q+1,_,by omega,by go_num,ke,hK,es⟩
      case measure=>simp[intOf];omega
     have ge:¬(q:Int)<(M:Int):=by omega
     have qg:Hid (S.H.ma=eT m5 T5):=ae (by
      have e:q=m5.sp.length:=by rw[kV.out.2.2];omega
      rw[O.out.1,e];exact Rv)
     have kl:Hid (Rt S.H.ma/\Co S.H.ma/\Oe S/\S.H.m.fs.length=f/\S.H.dk.blocks.length=ct/\(1<=S.H.sp.length/\S.H.sp.length<=2)/\(l=[]->S.H.ma=yO f s ct/\S.l=[])):=ae (by obtain⟨q1,q2,q3,q4,q5,q6,q7⟩:=O.out;exact⟨by rw[qg.out];exact kV.out.1.rt,by rw[qg.out];exact kV.out.1.co,q4,q5,q6,by omega,λe=>⟨by rw[qg.out];exact qC.out e,q7 e⟩⟩);clear O qg
     by_cases eb:0<f
     ·have ir:(0:Int)<(f:Int):=by omega
      go_wp2_with fail
      refine (fU S (f:Int) b b _ I (by omega)).mono ?_;rintro r w11 ⟨x,R,Q,J,rfl,kn,kb,X,xK⟩;have kb:=Y.trans kb;clear I Y
      go_wp2_with (refine aB rfl _ _ _ rfl b 2 _ [.int .i64 x] rfl rfl rfl _ _ kn.blk (by show 2+1<=13;omega) (by kernel_rfl) (λu hu=>by cases bC.1 hu;rfl) ?_)
      intro w12 qV hU;have I:=kn.setH qV hU;have Y:MS w4 b Z w12 { (S.lst R Q J) with H:={ (S.lst R Q J).H with m:=⟨(S.lst R Q J).H.m.fs,x⟩ } }:=kb.put hU (.inl rfl) (λx X => .inl X);have O:Hid (Rt ({ (S.lst R Q J) with H:={ (S.lst R Q J).H with m:=⟨(S.lst R Q J).H.m.fs,x⟩ } }:MW).H.ma/\Co ({ (S.lst R Q J) with H:={ (S.lst R Q J).H with m:=⟨(S.lst R Q J).H.m.fs,x⟩ } }:MW).H.ma/\Oe ({ (S.lst R Q J) with H:={ (S.lst R Q J).H with m:=⟨(S.lst R Q J).H.m.fs,x⟩ } }:MW)/\({ (S.lst R Q J) with H:={ (S.lst R Q J).H with m:=⟨(S.lst R Q J).H.m.fs,x⟩ } }:MW).H.m.fs.length=f/\({ (S.lst R Q J) with H:={ (S.lst R Q J).H with m:=⟨(S.lst R Q J).H.m.fs,x⟩ } }:MW).H.dk.blocks.length=ct/\(1<=({ (S.lst R Q J) with H:={ (S.lst R Q J).H with m:=⟨(S.lst R Q J).H.m.fs,x⟩ } }:MW).H.sp.length/\({ (S.lst R Q J) with H:={ (S.lst R Q J).H with m:=⟨(S.lst R Q J).H.m.fs,x⟩ } }:MW).H.sp.length<=2)/\(l=[]->({ (S.lst R Q J) with H:={ (S.lst R Q J).H with m:=⟨(S.lst R Q J).H.m.fs,x⟩ } }:MW).H.ma=yO f s ct)):=ae (by
       obtain⟨q1,q2,q3,q4,q5,q6,q7⟩:=kl.out;have xL:=(dH _).1 q1.pt.fr;have hh:=Vv q1 q2 (x:=x) ((dH _).2 ⟨xL.1,xL.2.1,X.1,by
        rcases X.2.2 with h|h
        ·exact .inr (by show x<(S.H.m.fs.length:Int);omega)
        ·exact .inl h⟩)
       refine⟨hh.1,hh.2,q3,q4,q5,q6,λe => ?_⟩;obtain⟨k1,k2⟩:=q7 e;have xJ:x=0:=(xK k2).1;subst xJ;have k3:S.H.m.hand=0:=by
        have:=congrArg (λm:Ma=>m.m.hand) k1;have e2:(yO f s ct).m.hand=0:=by unfold yO MM;rw[if_pos ⟨⟨by omega,by omega⟩,⟨by omega,by omega⟩,by omega,by omega⟩,if_pos (by omega)]
        exact this.trans e2
       rw[<-k1];show MH.ma { S.H with m:=⟨S.H.m.fs,0⟩ }=MH.ma S.H;have e3:(⟨S.H.m.fs,0⟩:Mem)=S.H.m:=by rw[<-k3]
       rw[e3])
      clear kn kb qV hU kl X xK;generalize { (S.lst R Q J) with H:={ (S.lst R Q J).H with m:=⟨(S.lst R Q J).H.m.fs,x⟩ } }=S13 at I Y O;skip;have bz:aG w12 w.heap.size (fB noH) 45:=Y.blkN bx4'.out qE.out;have g8:=ae (Dt xq.out)
      go_wp2_with (first | (refine ay _ _ rfl b 1 rfl rfl _ I.rdM _ underlying45 rfl machine_size ?_) | (refine aA rfl _ _ _ rfl w.heap.size (fB S13.H) rfl rfl _ _ bz rfl machine_size (jN _) ?_))
      intro wE bE gE;have hE:Hid (wR wE w.heap.size S13.H/\Below w.heap.size w wE):=ae ⟨(I.ma.keep bz (by decide) gE).mono (by have:=g8.out;omega),(Gs qS.out (xP.out _ _ Y) (by have:=g8.out;omega) (az _)).grown gE (bi (bi (by omega) kM) Y.size) (λk hk=>by cases hk;exact az _)⟩;clear I Y bz;go_wp2;refine bodyPost_ret (v:=.agg (fB S13.H)) (fA results17 _ _ w.heap.size _ _ _ rfl bE underlying45 rfl machine_size) rfl ?_;obtain⟨q1,q2,q3,q4,q5,q6,q7⟩:=O.out;exact⟨S13.H,rfl,hE.out.1,hE.out.2,q1,q2,q3,by rw[kk.out.1];exact q4,by rw[kk.out.2.2];exact q5,q6,λe=>by rw[kk.out.1,kk.out.2.1,kk.out.2.2];exact q7 e⟩
     have ir:¬(0:Int)<(f:Int):=by omega
     have O:Hid (Rt S.H.ma/\Co S.H.ma/\Oe S/\S.H.m.fs.length=f/\S.H.dk.blocks.length=ct/\(1<=S.H.sp.length/\S.H.sp.length<=2)/\(l=[]->S.H.ma=yO f s ct)):=ae ⟨kl.out.1,kl.out.2.1,kl.out.2.2.1,kl.out.2.2.2.1,kl.out.2.2.2.2.1,kl.out.2.2.2.2.2.1,λe=>(kl.out.2.2.2.2.2.2 e).1⟩;clear kl;skip;have bz:aG wr w.heap.size (fB noH) 45:=Y.blkN bx4'.out qE.out;have g8:=ae (Dt xq.out)
     go_wp2_with (first | (refine ay _ _ rfl b 1 rfl rfl _ I.rdM _ underlying45 rfl machine_size ?_) | (refine aA rfl _ _ _ rfl w.heap.size (fB S.H) rfl rfl _ _ bz rfl machine_size (jN _) ?_))
     intro wE bE gE;have hE:Hid (wR wE w.heap.size S.H/\Below w.heap.size w wE):=ae ⟨(I.ma.keep bz (by decide) gE).mono (by have:=g8.out;omega),(Gs qS.out (xP.out _ _ Y) (by have:=g8.out;omega) (az _)).grown gE (bi (bi (by omega) kM) Y.size) (λk hk=>by cases hk;exact az _)⟩;clear I Y bz;go_wp2;refine bodyPost_ret (v:=.agg (fB S.H)) (fA results17 _ _ w.heap.size _ _ _ rfl bE underlying45 rfl machine_size) rfl ?_;obtain⟨q1,q2,q3,q4,q5,q6,q7⟩:=O.out;exact⟨S.H,rfl,hE.out.1,hE.out.2,q1,q2,q3,by rw[kk.out.1];exact q4,by rw[kk.out.2.2];exact q5,q6,λe=>by rw[kk.out.1,kk.out.2.1,kk.out.2.2];exact q7 e⟩
theorem Kg (f:Fr) (w:World):Calls Tryz.prog 143 #[.agg (sU f)] w λe w'=>e = .returned (.int .i64 (bS f))/\Below w.heap.size w w':=by
 have d:∀W,(Op.equalIn 10000 58 (.agg #[.int .u8 f.p[0].toNat,.int .u8 f.p[1].toNat,.int .u8 f.p[2].toNat,.int .u8 f.p[3].toNat,.int .u8 f.p[4].toNat,.int .u8 f.p[5].toNat,.int .u8 f.p[6].toNat,.int .u8 f.p[7].toNat]) (.agg #[.int .u8 0,.int .u8 0,.int .u8 0,.int .u8 0,.int .u8 0,.int .u8 0,.int .u8 0,.int .u8 0])).run Tryz.prog W = .ok (f.p==zPg) W:=Xo f.p zPg;have b:∀W,(Op.equalIn 9999 58 (.agg #[.int .u8 f.p[0].toNat,.int .u8 f.p[1].toNat,.int .u8 f.p[2].toNat,.int .u8 f.p[3].toNat,.int .u8 f.p[4].toNat,.int .u8 f.p[5].toNat,.int .u8 f.p[6].toNat,.int .u8 f.p[7].toNat]) (.agg #[.int .u8 0,.int .u8 0,.int .u8 0,.int .u8 0,.int .u8 0,.int .u8 0,.int .u8 0,.int .u8 0])).run Tryz.prog W = .ok (f.p==zPg) W:=Xy f.p zPg;go_enter func143,ntmps143;unfold sU;cases hp:(f.p==zPg)
 all_goals rw[hp] at d b
 all_goals have a:=ae hp
 all_goals clear hp
 all_goals go_wp2
 all_goals go_ret
 all_goals refine⟨?_,(Below.refl _ _).alloc (az _) _⟩
 all_goals have hp:=a.out
 all_goals clear d b a
 all_goals go_light
 all_goals refine congrArg (λz=>Ending.returned (.int .i64 z)) ?_
 all_goals simp only[bS,Es,GH,Ca,uN,dU,decide_eq_true_eq,ne_eq,bne_iff_ne]
 all_goals simp_all
 all_goals omega
theorem JS (m:Mem) (a:Option Addr) (c:Nat) (w:World) (h:QV w a c m) :
  Calls Tryz.prog 96 #[.agg #[.slice a m.fs.length c,.int .i64 m.hand]] w λe w'=>e = .returned (.int .i64 (bu m))/\Below w.heap.size w w':=by
 have R:=bi h.le h.mx;unfold maxLen at R;go_enter func96,ntmps96;go_upto_region 1 with (fail);refine iC (λW=>Code.wp _ _ _ _ W) λW0 r p v => ?_;clear v;have t:=p.cell
 by_cases K:40<m.fs.length
 ·have C:bu m=4:=by unfold bu;rw[if_pos K]
  have z : (40:Int)<(m.fs.length:Int):=by omega
  go_wp2;go_ret;rw[C];exact⟨rfl,r⟩
 have z : ¬(40:Int)<(m.fs.length:Int):=by omega
 go_wp2;clear t
 go_loopw [13] (fun i wr => ∃k:Nat,k<=m.fs.length/\i = .int .i64 k/\Below w.heap.size w wr/\aG wr w.heap.size #[.slice a m.fs.length c,.int .i64 m.hand] 32/\∀i (h:i<m.fs.length),i<k->bS m.fs[i]=0) (fun i _=>m.fs.length-(intOf i).toNat)
 case atStart=>exact⟨0,aZ _,rfl,r,p,λi _ h=>absurd h (fe _)⟩
 case round=>
  clear p r;obtain⟨k,Y,rfl,d,H,s⟩:=hrel;have l:=ae s;clear s
  by_cases A:k<m.fs.length
  ·obtain⟨b,off,rfl,V⟩:=GD (h.below d).rd k A;obtain⟨c0,c1,c2,c3,c4,c5,c6,c7,c8,c9,ca,cb,cc⟩:=V;have Z:(k:Int)<(m.fs.length:Int):=by omega
   have I:=λw=>Kg m.fs[k] w;unfold sU at I
   by_cases D:bS m.fs[k]=0
   ·have x:=ae D;rw[D] at I;clear D;go_upto_region 6 with (fail);refine iC (λW=>Code.wp _ _ _ _ W) λw1 g o q => ?_;have f:=ag d g;have u:=H.ext g;clear q d H g;have y:=o.cell
    go_wp2_with fail
    refine (I _).mono ?_;rintro e w2 ⟨rfl,n⟩;go_wp2;go_roundw
    case rel=>exact⟨k+1,by omega,by go_num,ag f n,u.ext n,mG l.out A x.out⟩
    case measure=>simp[intOf];omega
   have C:bu m=bS m.fs[k]:=by have:=firstEf_at _ k A l.out D;unfold bu;rw[if_neg K,this,if_pos D]
   have X:(bS m.fs[k] != 0)=true:=by simpa using D
   have j:=ae C;clear C;go_upto_region 6 with (fail);refine iC (λW=>Code.wp _ _ _ _ W) λw1 g o q => ?_;have f:=ag d g;clear q d H g;have y:=o.cell
   go_wp2_with fail
   refine (I _).mono ?_;rintro e w2 ⟨rfl,n⟩;go_wp2;go_ret;rw[j.out];exact⟨rfl,ag f n⟩
  have M:firstEf m.fs=0:=firstEf_none _ (λi U=>l.out i U (by omega));have C:bu m=if m.hand<0\/(0<m.hand/\(m.fs.length:Int)<=m.hand) then 3 else 0:=by unfold bu;rw[if_neg K,M];rfl
  have j:=ae C;have t:=H.cell;clear C M
  by_cases G:m.hand=0
  ·have N:(m.hand != 0)=false:=by simp[G]
   have J:=ae G;clear G;go_wp2
   all_goals
    go_ret;rw[j.out,if_neg (by have:=J.out;omega)];exact⟨rfl,d⟩
  have N:(m.hand != 0)=true:=by simpa using G
  by_cases Q:m.hand<0
  ·go_wp2
   all_goals
    go_ret;rw[j.out,if_pos (.inl Q)];exact⟨rfl,d⟩
  by_cases O:(m.fs.length:Int)<=m.hand
  ·go_wp2
   all_goals
    go_ret;rw[j.out,if_pos (.inr ⟨by omega,O⟩)];exact⟨rfl,d⟩
  go_wp2
  all_goals
   go_ret;rw[j.out,if_neg (by omega)];exact⟨rfl,d⟩
def Vm (b:Bool):List Value:=[.bool b]
theorem Jy (b:Bool):(Vm b).length=1:=rfl
theorem bool_info:(Tryz.prog.info? 4).map (λi=>(i.zero,i.size,i.bytes))=some (some (.bool false),1,1):=by kernel_rfl
theorem bool_sz:(Tryz.prog.info? 4).map (·.size)=some 1:=by kernel_rfl
theorem Wz (b:Bool):∀u∈[Value.bool b],u.oneCell' = true:=by intro u d;cases bC.1 d;rfl
theorem Xm {l:List Bool} (h:dZ w (some ⟨b,off,none⟩) (l.flatMap Vm)) (i:Nat) (x:Bool) (j:l[i]?=some x):w.cell? ⟨b,off+i,none⟩=some (.bool x):=by
 have n:=(cz.1 j).1;obtain⟨u,d,e,t⟩:=h.elem Jy (by decide) i n;cases e;have:=t 0 (.bool x) (by rw[(cz.1 j).2];rfl);simpa using this
theorem Lg (A:List PF) (k:Int) (a:Option Addr) (c:Nat) (w:World) (h:LZ w a c A) (hk64 : -9223372036854775808<=k/\k<=9223372036854775807) :
  Calls Tryz.prog 99 #[.agg (LV a A.length c k)] w λr w'=>r = .returned (.int .i64 (aR (cK A k)))/\Below w.heap.size w w':=by
 have kr:=bi h.le h.mx;unfold maxLen at kr;unfold LV;go_enter func99,ntmps99;go_upto_region 1 with (fail);refine iC (λW=>Code.wp _ _ _ _ W) λW0 hK U ko => ?_;clear ko
 by_cases K:5<A.length\/k<0\/80<k
 ·have d:Hid (aR (cK A k)=4):=ae (by unfold aR cK;rw[if_pos (by simpa using K)]);have R:=U.cell;have kv : 5<A.length\/(¬5<A.length/\k<0)\/(¬5<A.length/\¬k<0/\80<k):=by omega
  clear K;rcases kv with g|⟨g,g2⟩|⟨g,g2,g3⟩
  all_goals
   go_wp2;go_ret;exact⟨aW d.out.symm,hK⟩
 have m:Hid (aR (cK A k)=pz k (((A.take 0).map PF.fi).flatMap Fi.b) ((A.drop 0).map PF.fi)):=ae (by unfold aR cK;rw[if_neg (by simpa using K)];rfl);have g1:¬5<A.length:=by omega
 have g2:¬k<0:=by omega
 have g3:¬80<k:=by omega
 have R:=U.cell;clear K;obtain⟨N,hN⟩:∃N:Nat,k=(N:Int):=⟨k.toNat,by omega⟩;subst hN;have ky:N<=80:=by omega
 go_upto_region 4 with (refine GY _ rfl _ _ _ rfl Vm 4 _ 1 1 false Jy (by decide) underlying183 bool_info rfl .i64 .i64 N N N rfl rfl rfl rfl (by omega) (by unfold maxLen;omega) ?_);clear R;intro W1 ki hQ;have hW:Below W0.heap.size W0 W1:=lg hQ;have hE:=ag hK hW;have hR:=U.ext hW;have hG : Own W1 w.heap.size 4 1 (.slice (some ⟨W0.heap.size,0,none⟩) N N) N ((xe N (((A.take 0).map PF.fi).flatMap Fi.b)).flatMap Vm):=by simp only[List.take_zero,aY,List.flatMap_nil];rw[Ud];exact ki.mono hK.size
 obtain⟨Z,kk⟩:∃g,g=W0.heap.size:=⟨_,rfl⟩;rw[<-kk] at hG ⊢;clear kk hK U hW ki hQ;have R:=hR.cell;go_upto_region 5 with (fail);clear R
 go_loopw [28] (fun i wr => ∃(q:Nat),q<=A.length/\i = .int .i64 q/\Below w.heap.size w wr/\aG wr w.heap.size #[.slice a A.length c,.int .i64 (N:Int)] 41/\Own wr w.heap.size 4 1 (.slice (some ⟨Z,0,none⟩) N N) N ((xe N (((A.take q).map PF.fi).flatMap Fi.b)).flatMap Vm)/\Hid (aR (cK A N)=pz N (((A.take q).map PF.fi).flatMap Fi.b) ((A.drop q).map PF.fi))) (fun i _=>A.length-(intOf i).toNat)
 case atStart=>exact⟨0,aZ _,rfl,hE,hR,hG,m⟩
 case round=>
  clear hE hR hG m;obtain⟨q,hq,rfl,o,J,G,m⟩:=hrel
  by_cases hlt:q<A.length
  ·obtain⟨b,off,p,rfl,hp,c0,c1⟩:=xH (h.below o).rd q hlt;have kb:=h.good p (bV hp);have hv:=kb.below o;have hz:=drop_at hp;have hs:=take_at hp;rw[hz,bR] at m;have hL:=ae hs;clear hz hs;generalize hseen:((A.take q).map PF.fi).flatMap Fi.b=seen at G m;have hg:=ae hseen;clear hseen hp
   go_wp2_with (refine aL rfl _ _ _ rfl (qw p) rfl rfl rfl file_size (rA _) ?_)
   intro w2 hF M;have z:=ag o hF;have h2:=J.ext hF;have kh:=G.below hF;have hi:=hv.below hF;clear o J G hv hF c0 c1;have hU:=M.cell;have f0:(qw p)[0]?=some (.int .i64 p.n):=rfl;have f1:(qw p)[1]?=some (.slice p.a p.l.length p.c):=rfl
   by_cases D:p.n<0\/96<p.n
   ·have d:Hid (aR (cK A N)=3):=ae (by rw[m.out,vQ,if_pos D]);have kp : p.n<0\/(¬p.n<0/\96<p.n):=by omega
    clear D;rcases kp with g|⟨g,g2⟩
    all_goals
     go_wp2;go_ret;exact⟨aW d.out.symm,z⟩
   have u:Hid (aR (cK A N)=if (p.l.length:Int)≠eY p.n then 2 else if iw N seen p.l≠0 then iw N seen p.l else pz N (seen++p.l) ((A.drop (q+1)).map PF.fi)):=ae (by rw[m.out,vQ,if_neg D]);have g4:¬p.n<0:=by omega
   have g5:¬96<p.n:=by omega
   clear D m
   by_cases C:(p.l.length:Int)=eY p.n
   ·have t:Hid (aR (cK A N)=if iw N seen p.l≠0 then iw N seen p.l else pz N (seen++p.l) ((A.drop (q+1)).map PF.fi)):=ae (by rw[u.out,if_neg (λhh=>hh C)]);have kw:p.l.length<=12:=by have:=yx (n:=p.n) (by omega);omega
    have hV:=ae C;clear u C;go_upto_region 9 with (fail);refine aN 7 [_,_,_,_,_,.v (.int .i64 (eY p.n)),_] (Gf wr.heap.size 1 rfl rfl (Gl M (V:=.slice p.a p.l.length p.c) (by simp[f1,underlying33]) rfl rfl rfl rfl (Gn rfl rfl rfl rfl (Gf wr.heap.size 0 rfl rfl (Gl M (V:=.int .i64 p.n) (by simp[f0]) rfl rfl rfl rfl (ah ?_ (Gb (.bool false) (by simp[go_sem,hV.out]) rfl rfl rfl rfl rfl (aF))))) (underlying33)))) (λ_=>rfl) rfl ?_
    ·intro ρ y W hw hn hb hd;have h0:=hw 44 4 rfl;have K:y 4=_:=hd 4 rfl;have EF:∀f,ρ (.func f) = .func (.func f) #[] #[]:=λf=>hn (.func f) trivial;refine aO _ _ (aj rfl) (aT rfl (EF _) func33 (by kernel_rfl) (by kernel_rfl) (by simp only[bX,bR,aY,h0,K,EF];rfl)) ?_;refine (zi p.n W (by omega)).mono ?_;rintro e w1 ⟨rfl,rfl⟩;exact⟨_,rfl,Below.refl _ _,rfl⟩
    intro y WA s _;have hC:=ag z s;have h1:=h2.ext s;have kf:=kh.below s;have kc:=M.ext s;have hI:=hi.below s;clear z h2 kh M hi s hU;have hU:=kc.cell;have km:Hid (iw N seen p.l=iw N (seen++p.l.take 0) (p.l.drop 0)):=ae (by simp);have kj:Own WA w.heap.size 4 1 (.slice (some ⟨Z,0,none⟩) N N) N ((xe N (seen++p.l.take 0)).flatMap Vm):=by simpa using kf
    have kz:=hI.le;have kq:=hI.mx;have hO:=hI.rd;unfold maxLen at kq;clear kf hI;go_upto_region 12 with (fail);clear hU f0 f1 kc
    go_loopw [50] (fun i wr => ∃(j:Nat),j<=p.l.length/\i = .int .i64 j/\Below w.heap.size w wr/\aG wr w.heap.size #[.slice (some ⟨b,off,none⟩) A.length c,.int .i64 (N:Int)] 41/\Own wr w.heap.size 4 1 (.slice (some ⟨Z,0,none⟩) N N) N ((xe N (seen++p.l.take j)).flatMap Vm)/\dZ wr p.a (p.l.map fZ)/\Hid (iw N seen p.l=iw N (seen++p.l.take j) (p.l.drop j))) (fun i _=>p.l.length-(intOf i).toNat)
    case atStart=>exact⟨0,aZ _,rfl,hC,h1,kj,hO,km⟩
    case round=>
     clear hC h1 kj hO km;obtain⟨j,hj,rfl,o,J,G,hS,O⟩:=hrel
     by_cases hjl:j<p.l.length
     ·obtain⟨x,hX⟩:∃x,p.l[j]?=some x:=⟨p.l[j],aH hjl⟩;obtain⟨b2,I,hT,hc⟩:=kD hS j hjl;rw[show p.l[j]=x from (cz.1 hX).2] at hc;have hz:=drop_at hX;have hs:=take_at hX;rw[hz,vJ] at O;rw[hT];generalize hs2:seen++p.l.take j=seen2 at O G;have hf:Hid (seen++p.l.take (j+1)=seen2++[x]):=ae (by rw[hs,<-jG,hs2]);have h6:=ae hS;have hP:=ae hT;have R:=J.cell;clear hX hz hs hs2 hS hT;have ka : (j:Int)<(p.l.length:Int):=by omega
      by_cases H:x < -1\/(N:Int)<=x
      ·have d:Hid (aR (cK A N)=3):=ae (by rw[t.out,O.out,if_pos H];rfl);have h8 : x < -1\/(¬x < -1/\(N:Int)<=x):=by omega
       clear H;rcases h8 with g6|⟨g6,g7⟩
       all_goals
        go_wp2;go_ret;exact⟨aW d.out.symm,o⟩
      have g6:¬x < -1:=by omega
      have g7:¬(N:Int)<=x:=by omega
      have Q:Hid (iw N seen p.l=if 0<=x/\x∈seen2 then 7 else iw N (seen2++[x]) (p.l.drop (j+1))):=ae (by rw[O.out,if_neg H]);clear O H
      by_cases U:x<0
      ·have e1:x = -1:=by omega
       have hZ:Hid (iw N seen p.l=iw N (seen++p.l.take (j+1)) (p.l.drop (j+1))):=ae (by rw[Q.out,if_neg (by omega),hf.out]);have ku:Own wr w.heap.size 4 1 (.slice (some ⟨Z,0,none⟩) N N) N ((xe N (seen++p.l.take (j+1))).flatMap Vm):=by rw[hf.out,SK _ _ _ U];exact G
       have h5:dZ wr (some ⟨b2,I,none⟩) (p.l.map fZ):=by rw[<-hP.out];exact h6.out
       clear Q G;go_wp2;go_roundw
       case rel=>exact⟨j+1,by omega,by go_num,o,J,ku,h5,hZ⟩
       case measure=>simp[intOf];omega
      obtain⟨X,ks⟩:∃X:Nat,x=(X:Int):=⟨x.toNat,by omega⟩;subst ks;have hY:X<N:=by omega
      have kx : (X:Int)<(N:Int):=by omega
      obtain⟨_,_,hH,_,_,_,ke⟩:=G.rd;simp only[mJ] at hH;obtain⟨rfl,_,rfl⟩:=hH;have hJ:=Xm ke X (decide ((X:Int)∈seen2)) (IX N seen2 X hY);rw[dV] at hJ;clear ke
      by_cases Y:(X:Int)∈seen2
      ·have d:Hid (aR (cK A N)=7):=ae (by rw[t.out,Q.out,if_pos (show 0<=(X:Int)/\(X:Int)∈seen2 from ⟨by omega,Y⟩)];rfl);rw[decide_eq_true Y] at hJ;clear Y Q;go_wp2;go_ret;exact⟨aW d.out.symm,o⟩
      have hZ:Hid (iw N seen p.l=iw N (seen++p.l.take (j+1)) (p.l.drop (j+1))):=ae (by rw[Q.out,if_neg (λhh=>Y hh.2),hf.out]);rw[decide_eq_false Y] at hJ;clear Y Q;obtain⟨g3,off3,cap3,cur3,hH,kl,hA,hy,ht⟩:=oO Jy (by decide) (Ab N seen2) G X hY;cases hH
      go_wp2_with (refine aB rfl _ _ _ rfl Z X _ [.bool true] rfl rfl rfl cur3 4 hA (by simpa using hy) bool_sz (Wz true) ?_)
      intro w6 kd hu;have kg:=ht w6 true (by rw[dV,tN];exact kd);rw[TI _ _ _ hY,<-hf.out] at kg;have hD:=o.grown hu o.size (λk hk=>by cases hk;exact kl);have kn:=bZ J hA (by decide) hu;have h3:dZ w6 (some ⟨b2,I,none⟩) (p.l.map fZ):=by have h9:=kb.rd.below hD;rw[hP.out] at h9;exact h9
      clear o J G hu R hc ht hA kd hJ hy;go_wp2;go_roundw
      case rel=>exact⟨j+1,by omega,by go_num,hD,kn,kg,h3,hZ⟩
      case measure=>simp[intOf];omega
     have d:Hid (aR (cK A N)=pz N (((A.take (q+1)).map PF.fi).flatMap Fi.b) ((A.drop (q+1)).map PF.fi)):=ae (by
      have e0:iw N seen p.l=0:=by rw[O.out,qO (by omega)];rfl
      rw[t.out,if_neg (λhh=>hh e0),hL.out,jS,fE,hg.out];simp[PF.fi])
     have kt:Own wr w.heap.size 4 1 (.slice (some ⟨Z,0,none⟩) N N) N ((xe N (((A.take (q+1)).map PF.fi).flatMap Fi.b)).flatMap Vm):=by rw[ji (by omega)] at G;rw[hL.out,jS,fE,hg.out];simpa[PF.fi] using G
     have ka : ¬(j:Int)<(p.l.length:Int):=by omega
     clear G O t;go_wp2;go_roundw
     case rel=>exact⟨q+1,by omega,by go_num,o,J,kt,d⟩
     case measure=>simp[intOf];omega
   have d:Hid (aR (cK A N)=2):=ae (by rw[u.out,if_pos C]);have hV:((p.l.length:Int) != eY p.n)=true:=by rw[bne_iff_ne];exact C
   clear u C;go_upto_region 9 with (fail);refine aN 7 [_,_,_,_,_,.v (.int .i64 (eY p.n)),_] (Gf wr.heap.size 1 rfl rfl (Gl M (V:=.slice p.a p.l.length p.c) (by simp[f1,underlying33]) rfl rfl rfl rfl (Gn rfl rfl rfl rfl (Gf wr.heap.size 0 rfl rfl (Gl M (V:=.int .i64 p.n) (by simp[f0]) rfl rfl rfl rfl (ah ?_ (Gb (.bool true) (by simp[go_sem,hV]) rfl rfl rfl rfl rfl (aF))))) (underlying33)))) (λ_=>rfl) rfl ?_
   ·intro ρ y W hw hn hb hd;have h0:=hw 44 4 rfl;have K:y 4=_:=hd 4 rfl;have EF:∀f,ρ (.func f) = .func (.func f) #[] #[]:=λf=>hn (.func f) trivial;refine aO _ _ (aj rfl) (aT rfl (EF _) func33 (by kernel_rfl) (by kernel_rfl) (by simp only[bX,bR,aY,h0,K,EF];rfl)) ?_;refine (zi p.n W (by omega)).mono ?_;rintro e w1 ⟨rfl,rfl⟩;exact⟨_,rfl,Below.refl _ _,rfl⟩
   intro y WA s _;go_wp2;go_ret;exact⟨aW d.out.symm,ag z s⟩
  have d:Hid (aR (cK A N)=0):=ae (by rw[m.out,qO (by omega)];rfl);go_wp2;go_ret;exact⟨aW d.out.symm,o⟩
theorem KI {s:St} {b:Int} (h:b∈lK s):iD s b=true:=by
 cases hu:iD s b with
 | true=>rfl
 | false=>exact absurd h (IQ hu)
theorem Wp {t:Tb} (h:dA t=0) (A:∀n,(dJ t n).k=0):t=zTb:=
 TF h zTb_right λn=>by
  rw[yc];have u:=(bN _).1 (sK h n);have h2:=A n;rcases u with ⟨_,j,d⟩|⟨e,_⟩|⟨e,_⟩
  ·generalize dJ t n=x at *
   obtain⟨a,b,c⟩:=x;simp only at h2 j d;subst h2;subst j;subst d;rfl
  ·omega
  ·omega
theorem Pi (H:MH) (w:World) (h:FD w H) (hR:Rt H.ma) :
  Calls Tryz.prog 52 #[.agg (fB H)] w λr w'=>r = .returned (.int .i64 0)/\Below w.heap.size w w':=by
 have hh:=ae h;have hq:=ae hR;have i:=ae hR.pt;have z1:H.dk.blocks.length<=1000:=(vT hR).dkb;have z2:H.dk.queue.length<=1000:=(vT hR).dkq;clear hR;go_enter func52,ntmps52;go_upto_region 1 with (fail);refine iC (λW=>Code.wp _ _ _ _ W) λw1 hp K hy => ?_;have K:aG w1 w.heap.size (fB H) 45:=K;have h1:=h.below hp;clear h hy;have r1:dZ w1 (some ⟨w.heap.size,0,none⟩) [.slice H.af H.m.fs.length H.cf,.int .i64 H.m.hand]:=bH K 0 2
 go_wp2_with (refine ay _ _ rfl w.heap.size 0 rfl rfl _ r1 _ underlying32 rfl mem_size ?_)
 refine (JS H.m H.af H.cf _ h1.fr).mono ?_;rintro r w2 ⟨rfl,y⟩;rw[show bu H.m=0 from i.out.fr];have h2:=h1.below y;have O:=K.ext y;have hg:=ag hp y;clear h1 K hp y r1;have G:=O.cell;unfold fB at G
 go_wp2_with fail
 refine (Kz H.sl H.asl H.csl _ h2.sl.rd (by have:=h2.sl.le;have:=h2.sl.mx;unfold maxLen at this;omega)).mono ?_;rintro r w2' ⟨rfl,rfl⟩;rw[show dF H.sl=0 from i.out.sl];clear G;have r2:dZ w2' (some ⟨w.heap.size,3,none⟩) [.slice H.wb H.sw.blocks.length H.cwb,.slice H.wq H.sw.queue.length H.cwq]:=bH O 3 2
 go_wp2_with (refine ay _ _ rfl w.heap.size 3 rfl rfl _ r2 _ underlying38 rfl disk_size ?_)
 refine (xh H.sw H.wb H.cwb H.wq H.cwq _ h2.sw).mono ?_;rintro r w3 ⟨rfl,x⟩;rw[show bW H.sw=0 from i.out.sw];have h3:=h2.below x;have Y:=O.ext x;have hf:=ag hg x;clear h2 O hg x r2;have r3:dZ w3 (some ⟨w.heap.size,5,none⟩) [.slice H.db H.dk.blocks.length H.cdb,.slice H.dq H.dk.queue.length H.cdq]:=bH Y 5 2
 go_wp2_with (refine ay _ _ rfl w.heap.size 5 rfl rfl _ r3 _ underlying38 rfl disk_size ?_)
 refine (xh H.dk H.db H.cdb H.dq H.cdq _ h3.dk).mono ?_;rintro r w4 ⟨rfl,v⟩;rw[show bW H.dk=0 from i.out.dk];have h4:=h3.below v;have V:=Y.ext v;have hd:=ag hf v;clear h3 Y hf v r3;have r4:dZ w4 (some ⟨w.heap.size,7,none⟩) [.slice H.ai H.fi.length H.ci,.int .i64 H.ct]:=bH V 7 2
 go_wp2_with (refine ay _ _ rfl w.heap.size 7 rfl rfl _ r4 _ underlying41 rfl store_size ?_)
 refine (Lg H.fi H.ct H.ai H.ci _ h4.st h4.c64).mono ?_;rintro r w5 ⟨rfl,hn⟩;rw[show aR (cK H.fi H.ct)=0 from i.out.st];have U:=V.ext hn;have hb:=ag hd hn;clear h4 V hd hn r4;have l1:Hid (H.sw.blocks.length=H.sl.length):=ae i.out.swl;have l2:Hid ((H.dk.blocks.length:Int)=H.ct):=ae i.out.dkl;have G:=U.cell;unfold fB at G;rw[<-l2.out,l1.out] at G;go_upto_region 18 with (fail);rw[<-l1.out,l2.out] at G;go_wp2
 go_loopw [68] (fun s68 wr => ∃k:Nat,k<=H.dk.blocks.length/\s68 = .int .i64 k/\Below w.heap.size w wr/\aG wr w.heap.size (fB H) 45) (fun s68 _=>H.dk.blocks.length-(intOf s68).toNat)
 case atStart=>exact⟨0,aZ _,rfl,hb,U⟩
 case round=>
  clear hb U G;obtain⟨k,hk,rfl,a,M⟩:=hrel;have I:=hh.out.below a
  by_cases C:k<H.dk.blocks.length
  ·obtain⟨bd,od,p,j⟩:=kM nK (by decide) I.dk.rb k C;have l:(k:Int)<(H.dk.blocks.length:Int):=by omega
   have hz:Hid ((k:Int)∈lK H.ma.st\/H.dk.blocks[k]=zPg):=ae (by
    have:=hq.out.trim.1 k (by omega) (by exact_mod_cast C);rw[bA] at this;have e:H.ma.dk.blocks.getD k zPg=H.dk.blocks[k]:=by show H.dk.blocks.getD k zPg=_;rw[aX,aH C];rfl
    rw[e] at this;exact this)
   generalize H.dk.blocks[k]=P at *
   rw[p]
   go_wp2_with (first | (refine ay _ _ rfl bd (od+k*8) rfl rfl _ j _ underlying58 rfl psize ?_) | (refine aL rfl _ _ _ rfl (fP P) rfl rfl rfl psize (je _) ?_))
   intro w6 c A;have d:=ag a c;have D:=M.ext c;have q:=I.below c;clear a M c j I;have r6:dZ w6 (some ⟨w.heap.size,7,none⟩) [.slice H.ai H.fi.length H.ci,.int .i64 H.ct]:=bH D 7 2
   go_wp2_with (refine ay _ _ rfl w.heap.size 7 rfl rfl _ r6 _ underlying41 rfl store_size ?_)
   refine (Bw H.fi H.ct k H.ai H.ci _ q.st).mono ?_;rintro r w7 ⟨rfl,b⟩;have g:=ag d b;have N:=D.ext b;have J:=A.ext b;clear d D q A b r6;cases hu:iD (cK H.fi H.ct) (k:Int) with
   | true=>
    clear J;go_wp2;go_roundw
    case rel=>exact⟨k+1,by omega,by go_num,g,N⟩
    case measure=>simp[intOf];omega
   | false=>
    have R:P=zPg:=by
     rcases hz.out with e|e
     ·have h9:=KI e;exact absurd (h9.symm.trans hu) (by decide)
     ·exact e
    subst R;have f:=J.cell;rw[lit0] at f;have hE:∀W,(Op.equalIn 10000 58 (.agg #[.int .u8 0,.int .u8 0,.int .u8 0,.int .u8 0,.int .u8 0,.int .u8 0,.int .u8 0,.int .u8 0]) (.agg #[.int .u8 0,.int .u8 0,.int .u8 0,.int .u8 0,.int .u8 0,.int .u8 0,.int .u8 0,.int .u8 0])).run Tryz.prog W = .ok true W:=λW=>Xo zPg zPg W;go_wp2;go_roundw
    case rel=>exact⟨k+1,by omega,by go_num,g,N⟩
    case measure=>simp[intOf];omega
  have l:¬(k:Int)<(H.dk.blocks.length:Int):=by omega
  have G:=M.cell;unfold fB at G;clear I;go_wp2
  go_loopw [88] (fun s88 wr => ∃k:Nat,k<=H.dk.queue.length/\s88 = .int .i64 k/\Below w.heap.size w wr/\aG wr w.heap.size (fB H) 45) (fun s88 _=>H.dk.queue.length-(intOf s88).toNat)
  case atStart=>exact⟨0,aZ _,rfl,a,M⟩
  case round=>
   clear a M G l;obtain⟨k,hk,rfl,a,M⟩:=hrel;have I:=hh.out.below a
   by_cases C:k<H.dk.queue.length
   ·obtain⟨bd,od,p,j⟩:=kM wm (by decide) I.dk.rq k C;have l:(k:Int)<(H.dk.queue.length:Int):=by omega
    have hr:iD (cK H.fi H.ct) (H.dk.queue[k]).1=true:=KI (hq.out.trim.2 _ (eO C));generalize H.dk.queue[k]=X at *
    rw[p]
    go_wp2_with (first | (refine ay _ _ rfl bd (od+k*9) rfl rfl _ j _ underlying105 rfl put_size ?_) | (refine aL rfl _ _ _ rfl (GZ X) rfl rfl rfl put_size (Ox _) ?_))
    intro w6 c A;have d:=ag a c;have D:=M.ext c;have q:=I.below c;clear a M c j I;have f:=A.cell;unfold GZ at f;have r6:dZ w6 (some ⟨w.heap.size,7,none⟩) [.slice H.ai H.fi.length H.ci,.int .i64 H.ct]:=bH D 7 2
    go_wp2_with (refine ay _ _ rfl w.heap.size 7 rfl rfl _ r6 _ underlying41 rfl store_size ?_)
    refine (Bw H.fi H.ct X.1 H.ai H.ci _ q.st).mono ?_;rintro r w7 ⟨rfl,b⟩;have g:=ag d b;have N:=D.ext b;rw[hr];clear d D q A b r6 f hr;go_wp2;go_roundw
    case rel=>exact⟨k+1,by omega,by go_num,g,N⟩
    case measure=>simp[intOf];omega
   have l:¬(k:Int)<(H.dk.queue.length:Int):=by omega
   have G:=M.cell;unfold fB at G;have hG:H.sp.length<=4:=by have:=i.out.spl;rw[ul] at this;exact this
   clear I;go_wp2
   go_loopw [106] (fun s106 wr => ∃k:Nat,k<=H.sp.length/\s106 = .int .i64 k/\Below w.heap.size w wr) (fun s106 _=>H.sp.length-(intOf s106).toNat)
   case atStart=>exact⟨0,aZ _,rfl,a⟩
   case round=>
    clear a M G l;obtain⟨k,hk,rfl,a⟩:=hrel;have I:=hh.out.below a
    by_cases C:k<H.sp.length
    ·obtain⟨bd,od,P,p,R,j⟩:=uf I.sp.rd k C;have l:(k:Int)<(H.sp.length:Int):=by omega
     have o:=wB I R;have ht:P.sp∈H.ma.sp:=by show P.sp∈H.sp.map PS.sp;exact ja.2 ⟨P,bV R,rfl⟩
     have hF:(bQ P.ar).1=0:=i.out.ar P.sp ht;have hs:dA P.tb=0:=i.out.tb P.sp ht;have hm:Hid (P.lv=false->P.ar=[]/\P.tb=zTb):=ae λhl=>by have h9:=hq.out.live k (by rw[sD R];exact hl);rw[sD R] at h9;exact⟨h9.1,Wp hs λn=>by have:=h9.2 n;unfold ent at this;rw[sD R] at this;exact this⟩
     rw[p]
     go_wp2_with (first | (refine ay _ _ rfl bd (od+k*10) rfl rfl _ j _ underlying76 rfl space_size ?_) | (refine aL rfl _ _ _ rfl (yM P) rfl rfl rfl space_size (by rw[<-mE,eZ];exact o.one) ?_))
     intro w6 c A;have d:=ag a c;have hj:=o.below c;have hA:=hj.ars;have f:=A.cell;unfold yM at f;clear a c j I o
     go_wp2_with fail
     refine (EK P.ar P.aa P.ac _ hA).mono ?_;rintro r w7 ⟨rfl,b⟩;rw[show Lr (bQ P.ar)=#[.int .i64 0,.int .i64 (bQ P.ar).2] from by unfold Lr;rw[hF]];have g:=ag d b;have hw:=hj.below b;have J:=A.ext b;clear f A d hj b hA
     go_wp2_with (refine aL rfl _ _ _ rfl #[.int .i64 0,.int .i64 (bQ P.ar).2] rfl rfl rfl fau_size (nM _ _) ?_)
     intro w8 u Z;have hC:=Z.cell;have ha:=ag g u;have hi:=hw.below u;have Q:=J.ext u;clear g hw J u;have s:dZ w8 (some ⟨wr.heap.size,2,none⟩) (oh P.ts).toList:=bH Q 2 8
     go_wp2_with (refine ay _ _ rfl wr.heap.size 2 rfl rfl _ s _ underlying74 tab_agg tab_size ?_)
     refine (JQ P.tb (oh P.ts) _ hi.tb).mono ?_;rintro r w9 ⟨rfl,t⟩;rw[hs];have z:=ag ha t;have hB:=hi.below t;have px9:=Q.ext t;clear hC Z ha hi Q t s;have f:=px9.cell;unfold yM at f;cases hlv:P.lv with
     | true=>
      rw[hlv] at f;go_wp2;go_roundw
      case rel=>exact⟨k+1,by omega,by go_num,z⟩
      case measure=>simp[intOf];omega
     | false=>
      obtain⟨e1,e2⟩:=hm.out hlv;have hv:P.ar.length=0:=by rw[e1];rfl
      rw[hlv,hv] at f;have s:dZ w9 (some ⟨wr.heap.size,2,none⟩) (oh P.ts).toList:=bH px9 2 8;have hT:FL w9 (oh P.ts) zTb:=by have:=hB.tb;rw[e2] at this;exact this
      clear hv
      go_wp2_with (refine ay _ _ rfl wr.heap.size 2 rfl rfl _ s _ underlying74 tab_agg tab_size ?_)
      refine (Qh zTb zTb (oh P.ts) (oh nTs) _ hT (Cg _ 0).rd).mono ?_;rintro r wa ⟨rfl,hD⟩;rw[MV];have hx:=ag z hD;go_wp2;go_roundw
      case rel=>exact⟨k+1,by omega,by go_num,hx⟩
      case measure=>simp[intOf];omega
    have l:¬(k:Int)<(H.sp.length:Int):=by omega
    go_wp2;go_ret;exact⟨rfl,a⟩
theorem xB {α:Type} (q:α->Bool) (l:List α) (j:Nat) (d:j<l.length):(l.take (j+1)).countP q=(l.take j).countP q+if q l[j]=true then 1 else 0:=by
 rw[nO,aH d,Dk];simp[uD]
theorem PW (H:MH) (g:Pg) (e:En) (w:World) (h:FD w H) (hR:Rt H.ma) (hf:RO H.ma g e) (hk:e.k≠0) (V:eF e=0) :
  Calls Tryz.prog 53 #[.agg (fB H),.agg (yK (some g)),.agg (jC e)] w λr w'=>r = .returned (.int .i64 0)/\Below w.heap.size w w':=by
 have z:=ae hR;have l:=ae hf;clear hR hf;go_enter func53,ntmps53;go_upto_region 1 with (fail);refine MQ (λW=>Code.wp _ _ _ _ W) λw1 i D A C v => ?_;have D:aG w1 w.heap.size (fB H) 45:=D;have A:aG w1 (w.heap.size+1) #[.bool true,.bool g.rd,.bool g.wr,.bool g.sh,.int .i64 g.fi,.int .i64 g.pg] 80:=A;have C:aG w1 (w.heap.size+1+1) #[.int .i64 e.k,.int .i64 e.n,.bool e.w] 68:=C;have h1:=h.below i;clear h v;have Y:=D.cell;unfold fB at Y;have O:=A.cell;have G:=C.cell;have c:=(bN _).1 V
 by_cases U:e.k=2
 ·obtain⟨q1,q2⟩:=l.out.sw U;have Q : e.n<(H.sl.length:Int):=q1;rw[U] at G;rw[q2] at O;clear q1 q2 hk c V U;go_wp2;go_ret;exact⟨rfl,i⟩
 have k1:e.k=1:=by omega
 have Q : e.n<(H.m.fs.length:Int):=l.out.lt k1;obtain⟨N,M,K,J,I⟩:=l.out.fr k1;have x:0<=e.n:=by omega
 obtain⟨F,Z⟩:∃F:Nat,e.n=F:=⟨e.n.toNat,by omega⟩;have o:F<H.m.fs.length:=by omega
 obtain⟨bf,of,y,t⟩:=kM fJ (by decide) h1.fr.rd F o;have p:aD H.ma e.n.toNat=H.m.fs[F]:=by rw[Z,bA];unfold aD;show H.m.fs.getD F fr0=_;rw[aX,aH o];rfl
 have j:bS H.m.fs[F]=0:=by rw[<-p,Z,bA];exact z.out.pt.frE (m:=H.ma) o
 rw[p] at N M J I;have ha : -1<=(H.m.fs[F]).f:=by
  unfold bS at j;split at j
  ·exact absurd j (by decide)
  rename_i hb;unfold Es at hb;simp at hb;omega
 generalize H.m.fs[F]=X at *
 rw[k1,Z] at G;rw[y] at Y;have hd:(F:Int)<(H.m.fs.length:Int):=by omega
 clear c V hk U p Q x
 go_wp2_with (first | (refine ay _ _ rfl bf (of+F*13) rfl rfl _ t _ underlying66 rfl frame_size ?_) | (refine aL rfl _ _ _ rfl (sU X) rfl rfl rfl frame_size (oL _) ?_))
 intro w4 d R;have a:=ag i d;have O:=(A.ext d).cell;have G:=(C.ext d).cell;rw[k1] at G;have s:=R.cell;unfold sU at s;clear D A C h1 Y i d t R
 by_cases c1:X.f<0
 ·have b:X.f = -1:=by omega
  have u:g.sh=false:=by
   cases hs:g.sh with
   | false=>rfl
   | true=>have:=M hs;omega
  rw[b] at s;rw[u] at O;cases hw:e.w with
  | false=>
   rw[hw] at G
   by_cases c2:0<=g.fi
   ·have c3:¬(-1:Int)=g.fi:=by omega
    clear N M K J I b;go_wp2
    all_goals go_ret
    all_goals exact⟨rfl,a⟩
   clear N M K J I b;go_wp2
   all_goals go_ret
   all_goals exact⟨rfl,a⟩
  | true=>
   rw[hw] at G;have h3:=K hw;have h5:=I hw c1;rw[h3] at O
   by_cases c2:0<=g.fi
   ·have c3:¬(-1:Int)=g.fi:=by omega
    clear N M K J I b;go_wp2
    all_goals go_ret
    all_goals exact⟨rfl,a⟩
   clear N M K J I b;go_wp2
   all_goals go_ret
   all_goals exact⟨rfl,a⟩
 have q:0<=X.f:=by omega
 obtain⟨p1,p2⟩:=N q;rw[<-p1,<-p2] at O;have c2:(X.f == -1)=false:=by simp;omega
 clear p1 p2;cases hw:e.w with
 | false=>
  rw[hw] at G;clear N M K J I;go_wp2
  all_goals go_ret
  all_goals exact⟨rfl,a⟩
 | true=>
  rw[hw] at G;have h3:=K hw;have h4:=J hw q;rw[h3,h4] at O;clear N M K J I;go_wp2
  all_goals go_ret
  all_goals exact⟨rfl,a⟩
theorem NU {l:List En} (h:l.length=64):xn l=(tL l).toArray:=by
 unfold xn tL;congr 1;have e:l=(List.range 64).map λi=>l.getD i zEn:=by
  apply uH
  ·simp[h]
  intro i d h2;simp[aX,aH d]
 conv=>lhs;rw[e,Dn]
theorem zG (H:MH) (kd k:Int) (w:World) (h:FD w H) (M:Rt H.ma) :
  Calls Tryz.prog 54 #[.agg (fB H),.int .i64 kd,.int .i64 k] w λr w'=>r = .returned (.int .i64 (bO H.ma kd k:Int))/\Below w.heap.size w w':=by
 have hj:=ae M.pt;have hh:=ae h;have hu:H.sp.length<=4:=by have:=M.pt.spl;rw[ul] at this;exact this
 clear M;go_enter func54,ntmps54;go_upto_region 1 with (fail);refine iC (λW=>Code.wp _ _ _ _ W) λw1 R A hg => ?_;have A:aG w1 w.heap.size (fB H) 45:=A;clear h hg;have Q:=A.cell;unfold fB at Q;go_wp2
 go_loopw [15,7] (fun s15 s7 wr => ∃p n:Nat,p<=H.sp.length/\s15 = .int .i64 p/\s7 = .int .i64 n/\n<=64*p/\Below w.heap.size w wr/\Hid (n=((H.sp.take p).map fun s=>(dI s.tb).countP (pK kd k)).sum)) (fun s15 _ _=>H.sp.length-(intOf s15).toNat)
 case atStart=>exact⟨0,0,aZ _,rfl,rfl,az _,R,ae (by simp)⟩
 case round=>
  clear R A Q;obtain⟨p,n,hp,rfl,rfl,hn,a,f⟩:=hrel;have I:=hh.out.below a
  by_cases J:p<H.sp.length
  ·obtain⟨bd,Z,P,ht,N,v⟩:=uf I.sp.rd p J;have hk:(p:Int)<(H.sp.length:Int):=by omega
   have c:=wB I N;have hf:P.sp∈H.ma.sp:=by show P.sp∈H.sp.map PS.sp;exact ja.2 ⟨P,bV N,rfl⟩
   have hd:dA P.tb=0:=hj.out.tb P.sp hf;have e:Hid (((H.sp.take (p+1)).map λs=>(dI s.tb).countP (pK kd k)).sum=n+(dI P.tb).countP (pK kd k)):=ae (by rw[nO,N,jS,List.sum_append,<-f.out];simp);rw[ht]
   go_wp2_with (first | (refine ay _ _ rfl bd (Z+p*10) rfl rfl _ v _ underlying76 rfl space_size ?_) | (refine aL rfl _ _ _ rfl (yM P) rfl rfl rfl space_size (by rw[<-mE,eZ];exact c.one) ?_))
   intro Y t D;have q:=ag a t;have x:=c.below t;clear a t v I c;have u:dZ Y (some ⟨wr.heap.size,2,none⟩) (oh P.ts).toList:=bH D 2 8
   go_wp2_with (refine ay _ _ rfl wr.heap.size 2 rfl rfl _ u _ underlying74 tab_agg tab_size ?_)
   refine (HZ P.tb (oh P.ts) _ x.tb hd).mono ?_;rintro r w7 ⟨rfl,U⟩;have o:=ag q U;clear u D x q U;have hr:=Cb P.tb;generalize dI P.tb=l at *
   rw[NU hr];go_wp2
   go_loopw [22,7] (fun s22 s7 wr => ∃i m:Nat,i<=64/\s22 = .int .i64 i/\s7 = .int .i64 m/\m<=64*p+i/\Below w.heap.size w wr/\Hid (m=n+(l.take i).countP (pK kd k))) (fun s22 _ _=>64-(intOf s22).toNat)
   case atStart=>exact⟨0,n,aZ _,rfl,rfl,by omega,o,ae (by simp)⟩
   case round=>
    clear o hn;obtain⟨i,m,hi,rfl,rfl,hm,a,C⟩:=hrel
    by_cases K:i<64
    ·have hq:(i:Int)<64:=by omega
     have j : i<l.length:=by omega
     have d:Hid ((l.take (i+1)).countP (pK kd k)=(l.take i).countP (pK kd k)+if pK kd k l[i]=true then 1 else 0):=ae (xB _ _ _ j);have V:l.getD i zEn=l[i]:=by rw[aX,aH j];rfl
     generalize l[i]=E at *
     have hl:=Jd l i K E V;clear V
     go_wp2_with (refine aL rfl _ _ _ rfl (jC E) rfl rfl rfl entry_size (by simp[jC,Value.oneCell']) ?_)
     intro w8 z G;have g:=ag a z;have hx:=G.cell;unfold jC at hx;clear hl a z G
     by_cases O:E.k=kd
     ·by_cases X:E.n=k
      ·have b : Hid (m+1=n+(l.take (i+1)).countP (pK kd k)):=ae (by rw[d.out,if_pos (by unfold pK;simp[O,X]),C.out];omega);clear C d;go_wp2;go_roundw
       case rel=>exact⟨i+1,m+1,by omega,by go_num,by go_num,by omega,g,b⟩
       case measure=>simp[intOf];omega
      have b : Hid (m=n+(l.take (i+1)).countP (pK kd k)):=ae (by rw[d.out,if_neg (by unfold pK;simp[O,X]),C.out];omega);clear C d;go_wp2;go_roundw
      case rel=>exact⟨i+1,m,by omega,by go_num,rfl,by omega,g,b⟩
      case measure=>simp[intOf];omega
     have b : Hid (m=n+(l.take (i+1)).countP (pK kd k)):=ae (by rw[d.out,if_neg (by unfold pK;simp[O]),C.out];omega);clear C d;go_wp2;go_roundw
     case rel=>exact⟨i+1,m,by omega,by go_num,rfl,by omega,g,b⟩
     case measure=>simp[intOf];omega
    have hq:¬(i:Int)<64:=by omega
    have b : Hid (m=((H.sp.take (p+1)).map λs=>(dI s.tb).countP (pK kd k)).sum):=ae (by rw[e.out,C.out,ji (by omega)]);clear C e;go_wp2;go_roundw
    case rel=>exact⟨p+1,m,by omega,by go_num,rfl,by omega,a,b⟩
    case measure=>simp[intOf];omega
  have hk:¬(p:Int)<(H.sp.length:Int):=by omega
  have y:Hid (n=bO H.ma kd k):=ae (by rw[f.out,ji (by omega)];unfold bO MH.ma;rw[List.map_map];rfl);clear f I;go_wp2;go_ret;exact⟨by rw[<-y.out];rfl,a⟩
end Go.Proofs.YthihaopabbpalaaGreat