import Derived.Test.YthihaopabbpalaaGreatF5
import Derived.ArgAppend
import Derived.Deep.DeepCutAuto
import Derived.BigRegion
set_option linter.unusedSimpArgs false
set_option linter.unusedVariables false
set_option linter.unnecessarySimpa false
set_option maxHeartbeats 4000000
set_option maxRecDepth 100000
namespace Go.Proofs.YthihaopabbpalaaGreat
open _root_.Go.Proofs.Tryz
open Go.RowKit Go.Maps Pw
variable {A:List Ar} {B B' O b c c' g i k n' off p q sz:Nat} {L L':Nat -> Bool} {P:Program} {Q:Exit -> Act -> World -> Prop} {S S' S0:MW} {T e t:TypeId} {W W' W0 w w' w0 w1 w2:World} {X:Fr} {a a':Option Addr} {cs cur:Array Value} {h x:Operand} {m:Ma} {o:Oper} {ops:Array Oper} {rest:List Oper} {sp:List PS} {v:Value} {vs xs ys:List Value} {y:Nat -> Value} {ρ:Operand -> Value}
def MW.lst(S:MW)(a:Option Addr)(c:Nat)(l:List UInt8):MW:={ S with al:=a,cl:=c,l:=l }
theorem oK(S:MW)(a a' : Option Addr)(c c' : Nat)(l l' : List UInt8):(S.lst a c l).lst a' c' l' = S.lst a' c' l':=rfl
theorem Qt{x:UInt8}{l:List UInt8}(h:eB w a ((x::l).map CY)):∃b o,a=some ⟨b,o,none⟩/\w.cell? ⟨b,o,none⟩=some (CY x)/\eB w (some ⟨b,o+1,none⟩) (l.map CY):=by
 obtain⟨b,o,rfl,d⟩:=h.at (by simp);exact⟨b,o,rfl,d 0 _ rfl,λi u f=>⟨b,o+1,rfl,by
  have:=d (i+1) u (by simpa using f);rw[show o+1+i=o+(i+1) by omega];exact this⟩⟩
theorem fD.locT(h:fD w B b S)(z:aG w g cs T)(D:T≠3/\T≠94/\T≠68)(E:¬nL b S g)(C:B<=g)(f:w.grownBy w' (some g)):fD w' B b S:=by
 have d:∀ {a:Option Addr},oB a∈iW S->∀n c u,(Value.slice a n c).ownBlock=some u->some g≠some u:=λF n c u j e=>by cases e;rw[jF]at j;exact E (.inr (by rw[<-j];exact F))
 have m:∀ {x:Option Nat} {l:List (Option Nat)},x∈x::l:=iM;refine⟨h.blk.grown f (λe=>E (.inl (aM e))),h.ge,⟨h.ma.fr.grown f (d (by simp[iW]) _ _),h.ma.sl.grown f (d (by simp[iW]) _ _),⟨h.ma.sw.b.grown f (d (by simp[iW]) _ _),h.ma.sw.q.grown f (λu j=>by rw[h.n3]at j;cases j)⟩,⟨h.ma.dk.b.grown f (d (by simp[iW]) _ _),h.ma.dk.q.grown f (d (by simp[iW]) _ _)⟩,
  ⟨h.ma.st.own.grown f (d (by simp[iW]) _ _),λi p s=>ax (h.ma.st.each i p s) z D.1 f,h.ma.st.apart⟩,h.ma.ca.grown f (d (by simp[iW]) _ _),h.ma.sp.grown f (d (by simp[iW]) _ _),λp s=>⟨ax (h.ma.ps p s).1 z D.2.1 f,(h.ma.ps p s).2.keep z D.2.2 f⟩,h.ma.c64⟩,
  h.tt.grown f (d (by simp[iW]) _ _),h.rd.keep h.ra h.bs f C,h.ra,h.n1,h.n2,h.n3⟩
def XK(S:MW)(n:Int)(B b:Nat)(w:World)(r:Ending)(w' : World):Prop:=∃x a c l,r = .returned (.int .i64 x)/\fD w' B b (S.lst a c l)/\MS w b S w' (S.lst a c l)/\(0<=x/\x<256/\(x<n\/x=0))/\(S.l=[]->x=0/\l=[])
theorem fV(S:MW)(n:Int)(B b:Nat)(w:World)(h:fD w B b S)(hn : -9223372036854775808<=n/\n<=9223372036854775807) :
  Calls Tryz.prog 32 #[.pointer (some ⟨b,0,none⟩),.int .i64 n] w (XK S n B b w):=by
 obtain⟨al,cl,l,H,ab,cb,T⟩:=S;have D:ve w al cl l.length (l.map CY):=h.rd;have g:∀a,al=some a->l.map CY≠[]->a.block<B:=h.ra;have E:=h.blk.cell;unfold jI at E;dsimp only at E;have F:=ae h;have d:=ae g;go_enter func32,ntmps32;cases l with
 | nil=>
  clear h D g;go_wp2;go_ret;exact⟨0,al,cl,[],rfl,F.out,MS.refl _ _ _,by omega,λ_=>⟨rfl,rfl⟩⟩
 | cons x l=>
  obtain⟨C,z,rfl,i,o⟩:=Qt D.rd;have r:l.length+1<=cl:=by have:=D.le;simpa using this
  have p:=ae D.mx;have m:=ae o;have f:=h.blk;clear h D g o;unfold CY at i
  by_cases R:n<1
  .go_wp2;go_ret;exact⟨0,_,cl,x::l,rfl,F.out,MS.refl _ _ _,by omega,λe=>(by cases e)⟩
  have s:(1:Int)<=((l.length+1:Nat):Int):=by omega
  have M:=ae x.toNat_lt;have k:Hid ((0:Int)<=(x.toNat:Int)%n/\(x.toNat:Int)%n<256/\((x.toNat:Int)%n<n\/(x.toNat:Int)%n=0)):=ae (by
   have Y:=Int.emod_nonneg (x.toNat:Int) (show n≠0 by omega);have V:=Int.emod_lt_of_pos (x.toNat:Int) (show(0:Int)<n by omega);have U:(x.toNat:Int)%n<=(x.toNat:Int):=by obtain⟨N,rfl⟩:=iL (show 0<=n by omega);rw[<-Jt];have:=Nat.mod_le x.toNat N;omega
   have:=M.out;omega)
  have q:IntKind.i64.wrap (x.toNat:Int)=(x.toNat:Int):=bI _ (by have:=M.out;omega)
  by_cases K:cl=1
  .subst K;obtain rfl:l=[]:=Di.1 (by omega)
   go_wp2_with (refine aB rfl _ _ _ rfl b 0 _ [.slice (some ⟨C,z,none⟩) 0 0] rfl rfl rfl _ _ f (by show 0+1<=13;omega) (by kernel_rfl) (λu I=>by cases bB.1 I;rfl) ?_)
   intro w1 j c;clear E i;go_wp2;go_ret;have J:ve w (some ⟨C,z,none⟩) 0 0 (([]:List UInt8).map CY):=⟨az _,bq _,λe=>(by cases e),eB.nil⟩;exact⟨_,some ⟨C,z,none⟩,0,[],rfl,F.out.putL J (λa e _=>by cases e;exact d.out _ rfl (by simp)) j c,(MS.refl w b _).put c (.inl rfl) λx G => .inl G,k.out,λe=>(by cases e)⟩
  go_wp2_with (refine aB rfl _ _ _ rfl b 0 _ [.slice (some ⟨C,z+1,none⟩) l.length (cl-1)] rfl rfl rfl _ _ f (by show 0+1<=13;omega) (by kernel_rfl) (λu I=>by cases bB.1 I;rfl) ?_)
  intro w1 j c;clear E i;go_wp2;go_ret;have J:ve w (some ⟨C,z+1,none⟩) (cl-1) l.length (l.map CY):=⟨by omega,by have:=p.out;omega,λe=>(by cases e),m.out⟩;exact⟨_,some ⟨C,z+1,none⟩,cl-1,l,rfl,F.out.putL J (λa e _=>by cases e;exact d.out ⟨C,z,none⟩ rfl (by simp)) j c,(MS.refl w b _).put c (.inl rfl) λx G => .inl G,k.out,λe=>(by cases e)⟩
def XZ(S:MW)(B b:Nat)(w:World)(r:Ending)(w' : World):Prop:=∃P a c l,r = .returned (.agg (eQ P))/\fD w' B b (S.lst a c l)/\MS w b S w' (S.lst a c l)
theorem yQ(S:MW)(B b:Nat)(w:World)(h:fD w B b S) :
  Calls Tryz.prog 35 #[.pointer (some ⟨b,0,none⟩)] w (XZ S B b w):=by
 have o:=ae h.bs;go_enter func35,ntmps35;go_upto_region 3 with(fail);refine uT (λW=>Code.wp _ _ _ _ W) λw1 i H F s => ?_;have V:=h.below i;have R:=(MS.refl w b S).below i;have n:=ae (h.new (az _));have m:=ae (h.new (Nat.le_succ _));clear h
 go_loopw [5] (fun k wr => ∃(q:Nat) (P:Page) (a:Option Addr) (c:Nat) (l:List UInt8),q<=8/\k = .int .i64 q/\fD wr B b (S.lst a c l)/\MS w b S wr (S.lst a c l)/\aG wr w.heap.size (eQ zPg) 58/\aG wr (w.heap.size+1) (eQ P) 58) (fun k _=>8-(intOf k).toNat)
 case atStart=>exact⟨0,zPg,S.al,S.cl,S.l,bq _,rfl,V,R,H,F⟩
 case round=>
  clear V R H F i s;obtain⟨q,P,a,c,l,hq,rfl,N,K,J,I⟩:=hrel;have hb:w.heap.size+2<=wr.heap.size:=I.lt
  by_cases M:q<8
  .have t:(q:Int)<8:=by omega
   go_wp2_with fail
   refine(fV _ 4 B b _ N (by omega)).mono ?_;rintro r w2 ⟨x,a2,c2,Z,rfl,g,f,U,_⟩;rw[oK]at g f;have G:=f.blkN J n.out;have C:=f.blkN I m.out;have j:=K.trans f;obtain⟨x,rfl⟩:∃y:UInt8,x=(y.toNat:Int):=⟨UInt8.ofNat x.toNat,by rw[UInt8.toNat_ofNat'];omega⟩;have ha:((x.toNat:Nat):Int)<256:=U.2.1;clear N K J I f U
   go_wp2_with (refine aB rfl _ _ _ rfl (w.heap.size+1) q _ [.int .u8 x.toNat] rfl rfl rfl _ _ C (by show q+1<=8;omega) (by kernel_rfl) (λu hu=>by cases bB.1 hu;rfl) ?_)
   intro Y E d;rw[Pw.putAt_one,Aj _ q M] at E;have z:=g.locT C (by decide) m.out (by have:=o.out;omega) d;have p:=j.loc d (Nat.le_succ _);have D:=G.grown d (λe=>by have:=aM e;omega);clear g j G C d;go_wp2;go_roundw
   case rel=>exact⟨q+1,_,a2,c2,Z,by omega,by go_num,z,p,D,E⟩
   case measure=>simp[intOf];omega
  have t:¬(q:Int)<8:=by omega
  go_wp2_with (first | (refine ay _ _ rfl (w.heap.size+1) 0 rfl rfl _ I.rd _ underlying58 rfl psize ?_) | (refine aA rfl _ _ _ rfl w.heap.size (eQ P) rfl rfl _ _ J rfl psize (fM _) ?_))
  intro Y D d;go_wp2;refine bodyPost_ret (v:=.agg (eQ P)) (fG results35 _ _ w.heap.size _ _ _ rfl D underlying58 rfl psize) rfl ?_;exact⟨P,a,c,l,rfl,N.locT J (by decide) n.out (by have:=o.out;omega) d,K.loc d (az _)⟩
def MW.frs(S:MW)(fs:List Fr):MW:={ S with H:={ S.H with m:=⟨fs,S.H.m.hand⟩ } }
def Xp(S:MW)(f:Fr)(B b:Nat)(w:World)(r:Ending)(w' : World):Prop:=∃x a c l fs,r = .returned (.int .i64 x)/\fD w' B b ((S.lst a c l).frs fs)/\MS w b S w' ((S.lst a c l).frs fs) /\
   ((x = -1/\fs=S.H.m.fs)\/∃j:Nat,x=j/\j<S.H.m.fs.length/\(aD S.H.ma j).r=0/\fs=S.H.m.fs.set j f)
theorem Fu(S:MW)(f:Fr)(B b:Nat)(w:World)(h:fD w B b S)(hz:S.H.m.fs.length<=1000) :
  Calls Tryz.prog 124 #[.pointer (some ⟨b,0,none⟩),.agg (tX f)] w (Xp S f B b w):=by
 go_enter func124,ntmps124;go_upto_region 1 with(fail);refine iG (λW=>Code.wp _ _ _ _ W) λw1 I E hy => ?_;have N:=h.below I;have s1:=(MS.refl w b S).below I;have hl:=ae (h.new (az _));have hJ:=ae h.bs;have C:=N.blk.cell;unfold jI at C;clear h I
 go_wp2_with fail
 refine(fV _ _ B b _ N (by omega)).mono ?_;rintro r w2 ⟨x,Z,U,G,rfl,c,t,F,_⟩;have D:=t.blkN E hl.out;have s:=s1.trans t;clear N s1 C t E hy;go_upto_region 4 with(fail);generalize hnn:S.H.m.fs.length=n at *
 go_loopw [20] (fun k wr => ∃q:Nat,q<=n/\k = .int .i64 q/\wr=w2) (fun k _=>n-(intOf k).toNat)
 case atStart=>exact⟨0,bq _,rfl,rfl⟩
 case round=>
  obtain⟨q,hq,rfl,rfl⟩:=hrel;have C:=c.blk.cell;unfold jI at C;dsimp only[MW.lst]at C;rw[hnn]at C
  by_cases hqn:q<n
  .have hA:(q:Int)<(n:Int):=by omega
   obtain⟨X,rfl⟩:=iL F.1;have hG:(X:Int)<256:=F.2.1;obtain⟨j,hC,hj⟩:∃j:Nat,j<n/\((X:Int)+(q:Int))%(n:Int)=j:=⟨(X+q)%n,uB _ (by omega),by rw[<-Int.natCast_add,<-Jt]⟩;have hI:(j:Int)<(n:Int):=by omega
   obtain⟨g,off,cap,cur,hv,hE,hg,hD,z,hs⟩:=c.ma.fr.put fQ (by decide) j (by show j<S.H.m.fs.length;omega);have l:S.H.af=some ⟨g,off,none⟩:=(oU hv).1;rw[l]at C;have R:wr.cell? ⟨g,off+j*13+8,none⟩=some (.int .i64 (S.H.m.fs[j]'(by omega)).r):=z 8 _ rfl;have ht:Hid (aD S.H.ma j=S.H.m.fs[j]'(by omega)):=ae (by unfold aD;show S.H.m.fs.getD j fr0=_;rw[aY,aF (by omega)];rfl);clear hv;have hp:=ae hs;have hF:=ae z;clear hs z;generalize S.H.m.fs[j]'(by omega)=Y at R ht
   by_cases hr:Y.r=0
   .rw[hr]at R;have hH:g≠w.heap.size:=λe=>hl.out (.inr (by rw[<-e];simp[iW,l,oB];left;rfl));go_upto_region 8 with(fail);refine aV 9 [_,_,_,_,_,_,.v (.int .i64 (j:Int)),_,_] (Gk rfl (Gk rfl (Gf b 1 rfl rfl (Gf b 1 rfl rfl (Gf b 1 rfl rfl (Gl c.blk (V:=.slice (some ⟨g,off,none⟩) n S.H.cf) (by simp[jI,MW.lst,l,hnn]) rfl rfl rfl rfl (ah ?_ (Gr (.agg #[.int .u8 f.p[0].toNat,.int .u8 f.p[1].toNat,.int .u8 f.p[2].toNat,.int .u8 f.p[3].toNat,.int .u8 f.p[4].toNat,.int .u8 f.p[5].toNat,.int .u8 f.p[6].toNat,.int .u8 f.p[7].toNat,.int .i64 f.r,.bool f.u,.bool f.d,.int .i64 f.f,.int .i64 f.i]) (λρ y W K o=>(bH rfl (aL rfl o) (bF (D.ext K) 0 13) underlying66 rfl (by kernel_rfl))) rfl rfl (Gr (.pointer (some ⟨g,off+j*13,none⟩)) (λρ y W K o=>(cO rfl (aL rfl o) (aL rfl o) hC underlying30 frame_size)) rfl rfl (aI)))))))))) (λ_=>rfl) rfl ?_
    .intro ρ y W hw hn K hd;have E8:ρ (.tmp 8) = .int .i64 (j:Int):=(hn (.tmp 8) rfl).trans (by show Value.int IntKind.i64 (((X:Int)+(q:Int))%(n:Int))=_;rw[hj]);refine ak (.int .i64 (j:Int)) (aj rfl) (run_move (.inl rfl) E8) rfl
    intro y W3 a _;have hm:=c.below a;have J:=hg.ext a;have hi:=s.below a;clear c D s a hg C R
    go_wp2_with (refine aB rfl _ _ _ rfl g (off+j*13) _ (pR f) rfl rfl rfl _ _ J (by rw[fQ];exact hD) (by kernel_rfl) (bT (oG f)) ?_)
    intro w4 h4 M;have hk:=hp.out _ f h4;have hB:=hm.putF J hE M (fs:=S.H.m.fs.set j f) (by simp[MW.lst]) (by simpa[MW.lst]using hk);have hu:=hi.put M (H':=(S.lst Z U G).frs (S.H.m.fs.set j f)) (.inr (by simp[iW,MW.lst,l,oB];left;rfl)) (λx F => .inl F);clear hm hi J M h4 hk;go_wp2;go_ret;exact⟨j,Z,U,G,_,rfl,hB,hu,.inr ⟨j,rfl,by omega,by rw[ht.out];exact hr,rfl⟩⟩
   go_wp2;go_roundw
   case rel=>exact⟨q+1,by omega,by go_num,by first | rfl | trivial⟩
   case measure=>simp[intOf];omega
  have hA:¬(q:Int)<(n:Int):=by omega
  go_wp2;go_ret;exact⟨-1,Z,U,G,S.H.m.fs,rfl,c,s,.inl ⟨rfl,rfl⟩⟩
theorem GG(d:vQ)(k:Int)(ab:Option Addr)(cb:Nat)(aq:Option Addr)(cq:Nat)(w:World)(h:QB w ab cb aq cq d) :
  Calls Tryz.prog 79 #[.agg #[.slice ab d.blocks.length cb,.slice aq d.queue.length cq],.int .i64 k] w λe w'=>e = .returned (.tuple #[.agg (eQ (dA d k)),.int .i64 (aJ d k)])/\Below w.heap.size w w':=by
 go_enter func79,ntmps79
 go_wp2_with fail
 refine uT (λW=>Calls _ _ _ W _) λW0 z hb hf hq => ?_;refine(xB d ab cb aq cq _ (h.below z)).mono ?_;rintro e w1 ⟨rfl,t⟩;have a:=ag z t;have v:=hb.ext t;have g:=hf.ext t;have h1:=h.below a;clear hb hf t z hq;have lq:=bi h1.lq h1.mq;unfold maxLen at lq;have hu:=v.cell
 by_cases Z:bV d=0
 .rw[Z]
  by_cases H:k<0\/(d.blocks.length:Int)<=k
  .have D:aJ d k=3:=by unfold aJ;rw[if_neg (by omega),if_pos H]
   have F:eQ (dA d k)=#[.int .u8 0,.int .u8 0,.int .u8 0,.int .u8 0,.int .u8 0,.int .u8 0,.int .u8 0,.int .u8 0]:=by unfold dA;rw[D];rfl
   rcases H with H|H
   all_goals
    go_wp2_with (refine aA rfl _ (.tmp 4) (.tmp 25) rfl (w.heap.size+1) #[.int .u8 0,.int .u8 0,.int .u8 0,.int .u8 0,.int .u8 0,.int .u8 0,.int .u8 0,.int .u8 0] rfl rfl _ _ g zz_fit zz_info zz_one ?_)
    all_goals
     intro w2 y l;have f:=a.grown l a.size oG0;have q:=y.cell;go_wp2;simp[bodyPost,results,go_sem,results79,q,D,F];exact f
  obtain⟨k,rfl⟩:=iL (show 0<=k by omega);have hl:k<d.blocks.length:=by omega
  have k1:¬(d.blocks.length:Int)<=(k:Int):=by omega
  have kz:(k:Int)<(d.blocks.length:Int):=by omega
  have D:aJ d k=0:=by unfold aJ;rw[if_neg (by omega),if_neg H]
  have F:dA d k=over k d.blocks[k] d.queue:=by unfold dA;rw[D,if_pos rfl];simp[hl]
  have Q:=ae (And.intro D F);have hy:w.heap.size+2<=w1.heap.size:=by have:=g.lt;omega
  clear H D F;have hd:decide (d.blocks.length<=k)=false:=by simp;omega
  obtain⟨b,off,rfl,C⟩:=Pb h1.rb k hl;have I:=C 0 (by decide);have Y:=C 1 (by decide);have V:=C 2 (by decide);have U:=C 3 (by decide);have R:=C 4 (by decide);have N:=C 5 (by decide);have M:=C 6 (by decide);have K:=C 7 (by decide);simp only[eQ,xU,qV,yz,iP]at I Y V U R N M K;clear C;go_upto_region 7 with(fail);refine iG (λW=>Code.wp _ _ _ _ W) λw2 s hi hn => ?_;have f:=ag a s;have ha:=v.ext s;have o:=g.ext s;have u : aG w2 w1.heap.size (eQ d.blocks[k]) 58:=hi;clear a v g h1 s hi hn hu I Y V U R N M K;have ht:=ha.cell;go_wp2;clear ht ha
  go_loopw [34] (fun i wr => ∃j:Nat,j<=d.queue.length/\i = .int .i64 j/\Below w.heap.size w wr/\aG wr (w.heap.size+1) #[.int .u8 0,.int .u8 0,.int .u8 0,.int .u8 0,.int .u8 0,.int .u8 0,.int .u8 0,.int .u8 0] 58/\aG wr w1.heap.size (eQ (over k d.blocks[k] (d.queue.take j))) 58) (fun i _=>d.queue.length-(intOf i).toNat)
  case atStart=>exact⟨0,bq _,rfl,f,o,u⟩
  case round=>
   clear f o u;obtain⟨j,hj,rfl,c,n,G⟩:=hrel
   by_cases J:j<d.queue.length
   .obtain⟨b',off',rfl,C⟩:=Iy (h.below c).rq j J;have I:=C 0 (by decide);have Y:=C 1 (by decide);have V:=C 2 (by decide);have U:=C 3 (by decide);have R:=C 4 (by decide);have N:=C 5 (by decide);have M:=C 6 (by decide);have K:=C 7 (by decide);have c8:=C 8 (by decide);simp only[GV,xU,qV,yz,iP]at I Y V U R N M K c8;clear C;have r:=ae (GR (k:Int) d.blocks[k] d.queue j J)
    by_cases E:d.queue[j].1=(k:Int)
    .have p : Hid (over (k:Int) d.blocks[k] (d.queue.take (j+1))=d.queue[j].2):=by have:=r.out;rw[if_pos E]at this;exact this
     rw[E]at I;clear r E;have hh:=G.alloc (.cells #[.int .i64 k,.int .u8 d.queue[j].2[0].toNat,.int .u8 d.queue[j].2[1].toNat,.int .u8 d.queue[j].2[2].toNat,.int .u8 d.queue[j].2[3].toNat,.int .u8 d.queue[j].2[4].toNat,.int .u8 d.queue[j].2[5].toNat,.int .u8 d.queue[j].2[6].toNat,.int .u8 d.queue[j].2[7].toNat] 105)
     go_wp2_with (refine aA rfl _ (.tmp 7) (.tmp 43) rfl w1.heap.size (eQ d.queue[j].2) rfl rfl _ _ hh (VC _ _) (Bh _) (fM _) ?_)
     intro w4 hs l;have m:=(c.alloc c.size _).grown l (dI c.size _) oG0;have x:=(n.alloc _).grown l (λE=>by have:=aM E;omega);clear hh G c n l I Y V U R N M K c8;go_wp2;go_roundw
     case rel=>exact⟨j+1,by omega,by go_num,m,x,by rw[p.out];exact hs⟩
     case measure=>simp[intOf];omega
    have p : Hid (over (k:Int) d.blocks[k] (d.queue.take (j+1))=over (k:Int) d.blocks[k] (d.queue.take j)):=by have:=r.out;rw[if_neg E]at this;exact this
    have hx:(d.queue[j].1==(k:Int))=false:=by simpa using E
    clear r E;go_wp2;go_roundw
    case rel=>exact⟨j+1,by omega,by go_num,c.alloc c.size _,n.alloc _,by rw[p.out];exact G.alloc _⟩
    case measure=>simp[intOf];omega
   rw[jD (show d.queue.length<=j by omega)]at G;have hg:=Q.out.2;rw[<-hg]at G;have hm:=G.cell;rw[Du]at hm;clear hg
   go_wp2_with (refine aA rfl _ (.tmp 4) (.tmp 45) rfl (w.heap.size+1) (eQ (dA d k)) rfl rfl _ _ n (MQ _) (Bh _) (fM _) ?_)
   intro w4 hr l;have m:=c.grown l c.size oG0;have q:=hr.cell;obtain⟨e0,e1,e2,e3,e4,e5,e6,e7⟩:=yD (dA d k);clear hm;go_wp2;simp[bodyPost,results,go_sem,results79,q,e0,e1,e2,e3,e4,e5,e6,e7,Q.out.1];exact⟨rfl,m⟩
 have D:aJ d k=bV d:=by unfold aJ;rw[if_pos Z]
 have F:eQ (dA d k)=#[.int .u8 0,.int .u8 0,.int .u8 0,.int .u8 0,.int .u8 0,.int .u8 0,.int .u8 0,.int .u8 0]:=by unfold dA;rw[D,if_neg Z];rfl
 have hv : (bV d != 0)=true:=by simpa using Z
 go_wp2_with (refine aA rfl _ (.tmp 4) (.tmp 14) rfl (w.heap.size+1) #[.int .u8 0,.int .u8 0,.int .u8 0,.int .u8 0,.int .u8 0,.int .u8 0,.int .u8 0,.int .u8 0] rfl rfl _ _ g zz_fit zz_info zz_one ?_)
 intro w2 y l;have f:=a.grown l a.size oG0;have q:=y.cell;go_wp2;simp[bodyPost,results,go_sem,results79,q,D,F];exact f
theorem RB{o:Nat}(h:eB w (some ⟨b,o,none⟩) (xs++ys)):eB w (some ⟨b,o,none⟩) xs:=λi u d=>h i u (by
 rw[kK (cz.1 d).1];exact d)
theorem Sk(x:Fr):∃ys,pR x=Dy x.p++ys:=⟨_,rfl⟩
theorem Ph{l:List Cc}{c:Cc}{f i:Int}(s:l[q]?=some c)(j:∀d∈l.take q,¬(d.f=f/\d.i=i))(n:c.f=f/\c.i=i):l.find? (λc=>decide (c.f=f)&&decide (c.i=i))=some c:=by
 rw[<-rX q l,List.find?_append,ru.2 (λd u=>by have:=j d u;simp only[dW,decide_eq_true_eq];exact this)];rw[vY (cz.1 s).1,(cz.1 s).2,List.find?_cons,n.1,n.2];simp
theorem EH{l:List Cc}{f i:Int}(j:∀d∈l,¬(d.f=f/\d.i=i)):l.find? (λc=>decide (c.f=f)&&decide (c.i=i))=none:=
 ru.2 (λd n=>by have:=j d n;simp only[dW,decide_eq_true_eq];exact this)
theorem zO(H:MH)(f i:Int)(w:World)(h:FK w H)(hz:H.ca.length<=1000/\∀f∈H.ma.st.fs,f.b.length<=1000)(hck:∀c∈H.ca,0<=c.k/\c.k<H.m.fs.length)(hf:0<=f/\f<H.fi.length)(hi:0<=i/\i<(aN H.ma.st f).b.length) :
  Calls Tryz.prog 80 #[.agg (fF H),.int .i64 f,.int .i64 i] w λr w'=>r = .returned (.agg (eQ (aW H.ma f i)))/\Below w.heap.size w w':=by
 have z7:H.ca.length<=1000:=hz.1;go_enter func80,ntmps80;go_upto_region 1 with(fail);refine uT (λW=>Code.wp _ _ _ _ W) λw1 hR Z rx1 hW => ?_;clear hW;have hr:=Z.cell;unfold fF at hr;go_upto_region 2 with(fail);clear hr
 go_loopw [16] (fun k wr => ∃q:Nat,q<=H.ca.length/\k = .int .i64 q/\Below w.heap.size w wr/\aG wr w.heap.size (fF H) 45/\aG wr (w.heap.size+1) (eQ zPg) 58/\Hid (∀d∈H.ca.take q,¬(d.f=f/\d.i=i))) (fun k _=>H.ca.length-(intOf k).toNat)
 case atStart=>exact⟨0,bq _,rfl,hR,Z,rx1,ae (by simp)⟩
 case round=>
  clear hR Z rx1;obtain⟨q,hq,rfl,g,E,D,hv⟩:=hrel
  by_cases hql:q<H.ca.length
  .obtain⟨bc,oc,h0,t⟩:=Aa (h.below g).ca.rd q hql;obtain⟨c,hc⟩:∃c,H.ca[q]?=some c:=⟨_,aF hql⟩;rw[show H.ca[q]=c from(cz.1 hc).2]at t;have hY:(q:Int)<(H.ca.length:Int):=by omega
   have hC:=hck c (bS hc);have hO:=ae hc;clear hc;rw[h0]
   go_wp2_with (first | (refine ay _ _ rfl bc (oc+q*3) rfl rfl _ t _ underlying122 rfl cached_size ?_) | (refine aK rfl _ _ _ rfl (xe c) rfl rfl rfl cached_size (wB c) ?_))
   intro w3 hA cx3;have ha:=ag g hA;have Y:=E.ext hA;have G:=D.ext hA;have s:=cx3.cell;have kc:=G.lt;clear g E D hA t;unfold xe at s
   by_cases hy:c.f=f/\c.i=i
   .obtain⟨ht,hD⟩:=hy;obtain⟨k,hk⟩:=iL hC.1;have hL:k<H.m.fs.length:=by have:=hC.2;omega
    obtain⟨bf,of,h3,hg⟩:=kE fQ (by decide) (h.below ha).fr.rd k hL;have hM:(k:Int)<(H.m.fs.length:Int):=by omega
    have o:Hid (aW H.ma f i=(H.m.fs[k]).p):=ae (by unfold aW;rw[show H.ma.ca.find? (λc=>decide (c.f=f)&&decide (c.i=i))=some c from Ph hO.out hv.out ⟨ht,hD⟩];show(H.m.fs.getD c.k.toNat fr0).p=_;rw[hk,aY,show((k:Nat):Int).toNat=k from rfl,aF hL];rfl);generalize H.m.fs[k]=X at hg o;obtain⟨ys,hI⟩:=Sk X;rw[hI]at hg;have hK:=RB hg;have hZ:w3.cell? ⟨w.heap.size,0,none⟩=some (.slice (some ⟨bf,of,none⟩) H.m.fs.length H.cf):=by rw[Y.cell,<-h3];rfl
    rw[ht,hD,hk]at s;clear hg hI
    go_wp2_with (first | (refine ay _ _ rfl bf (of+k*13) rfl rfl _ hK _ underlying58 rfl psize ?_) | (refine aA rfl _ _ _ rfl (w.heap.size+1) (eQ X.p) rfl rfl _ _ G rfl psize (fM X.p) ?_))
    intro J N hF;have y:=ha.grown hF ha.size oG0;clear s hZ;go_wp2;refine bodyPost_ret (v:=.agg (eQ X.p)) (fG results80 _ _ (w.heap.size+1) _ _ _ rfl N underlying58 rfl psize) rfl ?_;exact⟨by rw[o.out],y⟩
   have hB : Hid (∀d∈H.ca.take (q+1),¬(d.f=f/\d.i=i)):=ae λd hd=>by
    rw[take_at hO.out]at hd;rcases gH.1 hd with hd|hd
    .exact hv.out d hd
    .rw[bB.1 hd];exact hy
   by_cases ht:c.f=f
   .have hD:¬c.i=i:=λe=>hy ⟨ht,e⟩;clear hy;go_wp2;go_roundw
    case rel=>exact⟨q+1,by omega,by go_num,ha,Y,G,hB⟩
    case measure=>simp[intOf];omega
   clear hy;go_wp2;go_roundw
   case rel=>exact⟨q+1,by omega,by go_num,ha,Y,G,hB⟩
   case measure=>simp[intOf];omega
  have hY:¬(q:Int)<(H.ca.length:Int):=by omega
  rw[jD (by omega)]at hv;have s:=E.cell;unfold fF at s;obtain⟨F,rfl⟩:=iL hf.1;obtain⟨I,rfl⟩:=iL hi.1;have hV:F<H.fi.length:=by omega
  obtain⟨bf,of,hH,t⟩:=kE kR (by decide) h.st.rd F hV;obtain⟨p,hp⟩:∃p,H.fi[F]?=some p:=⟨_,aF hV⟩;rw[show H.fi[F]=p from(cz.1 hp).2]at t;have hJ:=ae t;have t:=t.below g;have hm:=(h.below g).st.good p (bS hp);have hn:aN H.ma.st (F:Int)=p.fi:=by unfold aN;rw[if_pos (by omega)];show(H.fi.map PF.fi).getD F ⟨0,[]⟩=p.fi;rw[aY,iV,hp];rfl
  rw[hn]at hi;have hU:I<p.l.length:=by have h2:=hi.2;have e:p.fi.b.length=p.l.length:=rfl;omega
  have h9:p.l.length<=1000:=hz.2 p.fi (eU.2 ⟨p,bS hp,rfl⟩);obtain⟨bb,ob,hE,hr⟩:=kD hm.rd I hU;obtain⟨x,hX⟩:∃x,p.l[I]?=some x:=⟨_,aF hU⟩;rw[show p.l[I]=x from(cz.1 hX).2]at hr;have V:bN H.ma.st (F:Int) (I:Int)=x:=by unfold bN;rw[hn];show p.l.getD I 0=x;rw[aY,hX];rfl
  have rc:∀j u,(rH p)[j]?=some u->wr.cell? ⟨bf,of+F*2+j,none⟩=some u:=λj u hj=>by obtain⟨b',o',e,hG⟩:=t j u hj;cases e;exact hG
  have R:wr.cell? ⟨bf,of+F*2,none⟩=some (.int .i64 p.n):=rc 0 _ rfl;have rc1:wr.cell? ⟨bf,of+F*2+1,none⟩=some (.slice p.a p.l.length p.c):=rc 1 _ rfl;have o:Hid (aW H.ma F I=if 0<=x then dw (dA H.dk x) (p.n-(I:Int)*8)else zPg):=ae (by unfold aW;rw[show H.ma.ca.find? (λc=>decide (c.f=(F:Int))&&decide (c.i=(I:Int)))=none from EH hv.out,V,hn];rfl);have ke:(F:Int)<(H.fi.length:Int):=by omega
  have kd:(I:Int)<(p.l.length:Int):=by omega
  rw[hE]at rc1;rw[hH]at s;have h4:=ae t;have hS:=ae hH;have h5:=ae hE;have h6:=ae hn;clear rc t hH hE hn hp hX V hi hm
  by_cases hx:x<0
  .go_wp2_with (refine aA rfl _ _ _ rfl (w.heap.size+1) (eQ zPg) rfl rfl _ _ D rfl psize (fM _) ?_)
   intro J N hF;have y:=g.grown hF g.size oG0;clear s;go_wp2;refine bodyPost_ret (v:=.agg (eQ zPg)) (fG results80 _ _ (w.heap.size+1) _ _ _ rfl N underlying58 rfl psize) rfl ?_;exact⟨by rw[o.out,if_neg (by omega)],y⟩
  go_wp2_with (refine ay _ _ rfl w.heap.size 5 rfl rfl _ (bF E 5 2) _ underlying38 rfl disk_size ?_)
  refine(GG H.dk x _ _ _ _ _ (h.below g).dk).mono ?_;rintro r J ⟨rfl,y⟩;have hN:=aG.new J (eQ zPg) 58;have V:Below J.heap.size J (J.alloc (.cells (eQ zPg) 58)):=(Below.refl _ _).alloc (az _) _;have kb:=y.size;have ka:=D.lt;have bx5:=(E.ext y).ext V;have rx5:=(D.ext y).ext V;have hs:=ag (ag g y) V;clear s hr R rc1 E D g
  go_wp2_with (refine aA rfl _ _ _ rfl J.heap.size (eQ (dA H.dk x)) rfl rfl _ _ hN rfl psize (fM _) ?_)
  intro w5 U hw;have hQ:=hs.grown hw hs.size oG0;have bx6:=bx5.grown hw (λe=>by have:=aM e;omega);have rx6:=rx5.grown hw (λe=>by have:=aM e;omega);clear hN V bx5 rx5 hs hw y;generalize dA H.dk x=P at U o;generalize hp4:J.heap.size=p4 at *
  clear hp4;go_upto_region 12 with(fail)
  go_loopw [59] (fun j wr => ∃k:Nat,k<=8/\j = .int .i64 k/\Below w.heap.size w wr/\aG wr w.heap.size (fF H) 45/\aG wr (w.heap.size+1) (eQ zPg) 58/\aG wr p4 (eQ (iK P (p.n-(I:Int)*8) k)) 58) (fun j _=>8-(intOf j).toNat)
  case atStart=>exact⟨0,by omega,rfl,hQ,bx6,rx6,by rw[show iK P (p.n-(I:Int)*8) 0=P from by ext j hj;simp[iK]];exact U⟩
  case round=>
   clear hQ bx6 rx6 U;obtain⟨k,hk,rfl,g,E,D,K⟩:=hrel
   by_cases hk8:k<8
   .have hM:(k:Int)<8:=by omega
    have s:=E.cell;unfold fF at s;rw[hS.out]at s;have R:wr.cell? ⟨bf,of+F*2,none⟩=some (.int .i64 p.n):=by obtain⟨b',o',e,hG⟩:=(hJ.out.below g) 0 _ rfl;cases e;exact hG
    have h8:IntKind.i64.wrap (8*(I:Int))=8*(I:Int):=bI _ (by omega);have h7:IntKind.i64.wrap (8*(I:Int)+(k:Int))=8*(I:Int)+(k:Int):=bI _ (by omega)
    by_cases hge:p.n<=8*(I:Int)+k
    .have z:Hid ((eQ (iK P (p.n-(I:Int)*8) k)).setIfInBounds k (.int .u8 0)=eQ (iK P (p.n-(I:Int)*8) (k+1))):=ae (by rw[<-yV P _ k hk8 (by omega)];exact Aj _ k hk8 0);generalize hT:iK P (p.n-(I:Int)*8) k=T at K z;clear hT
     go_wp2_with (refine aB rfl _ _ _ rfl p4 k _ [.int .u8 0] rfl rfl rfl _ _ K (by show k+1<=8;omega) (by kernel_rfl) (λu hu=>by cases bB.1 hu;rfl) ?_)
     intro w7 px7 hl;rw[Pw.putAt_one,z.out] at px7;have hP:=g.grown hl g.size oG0;have bx7:=E.grown hl (λe=>by have:=aM e;omega);have M:=D.grown hl (λe=>by have:=aM e;omega);clear g E D K hl s R;go_wp2;go_roundw
     case rel=>exact⟨k+1,by omega,by go_num,hP,bx7,M,px7⟩
     case measure=>simp[intOf];omega
    have z:iK P (p.n-(I:Int)*8) k=iK P (p.n-(I:Int)*8) (k+1):=by
     ext j hj
     simp only[iK,qY]
     by_cases e:p.n-(I:Int)*8<=(j:Int)
     .rw[if_neg (by omega),if_neg (by omega)]
     .rw[if_neg (by omega),if_neg (by omega)]
    rw[z] at K;clear z;go_wp2;go_roundw
    case rel=>exact⟨k+1,by omega,by go_num,g,E,D,K⟩
    case measure=>simp[intOf];omega
   have hM:¬(k:Int)<8:=by omega
   rw[yg _ _ k (by omega)]at K;have hh : Hid (aW H.ma F I=dw P (p.n-(I:Int)*8)):=ae (by rw[o.out,if_pos (by omega)]);generalize dw P (p.n-(I:Int)*8)=C at K hh
   go_wp2_with (first | (refine ay _ _ rfl p4 0 rfl rfl _ K.rd _ underlying58 rfl psize ?_) | (refine aA rfl _ _ _ rfl (w.heap.size+1) (eQ C) rfl rfl _ _ D rfl psize (fM _) ?_))
   intro w7 M hl;have h1:=g.grown hl g.size oG0;go_wp2;refine bodyPost_ret (v:=.agg (eQ C)) (fG results80 _ _ (w.heap.size+1) _ _ _ rfl M underlying58 rfl psize) rfl ?_;exact⟨by rw[hh.out],h1⟩
theorem KH(s x:Operand)(t:TypeId)(K:o.op=Op.call { callee:=Callee.builtin Builtin.append,args:=#[s,x],argTypes:=#[t,t] })
 (B:Nat) (e:TypeId) (z:Value) (n D:Nat) (U:P.underlying t=some (.slice e)) (h2:(P.info? e).map (λi=>(i.zero,i.size,i.bytes))=some (some z,n,D)) (h6:z.cells.size=n) (Y:0<n)
 (g:Nat) (I:ρ s = .slice (some ⟨g,0,none⟩) 0 0) (F:Own w B e n (.slice (some ⟨g,0,none⟩) 0 0) 0 [])
 (G:Option Addr) (m c:Nat) (C:List Value) (H:ρ x = .slice G m c) (M:G=none->c=0) (hmc:m<=c) (N:C.length=m*n) (J:eB w G C)
 (b1:m<=maxLen) (b2:m*D<=140737488355328) (hB:B<=w.heap.size) :
  ∃E w',(execOp ρ o).run P w = .ok (.value E) w'/\Below w.heap.size w w'/\Own w' B e n E m C:=by
 obtain⟨Z,R,hz,a,l⟩:=info_parts h2;rcases ug m with V|V
 .subst V;obtain rfl:C=[]:=kU (by simpa using N);refine⟨.slice (some ⟨g,0,none⟩) 0 0,w,?_,Below.refl _ _,F⟩;cases G with
  | none=>simp[execOp,K,resolve,invoke,builtin,I,H,Builtin.append_,run_underlying U,Go.sizeOf,typeInfo,R,Builtin.lenOf,Builtin.firstCells,storeCells,Result.andThen]
  | some ad=>simp[execOp,K,resolve,invoke,builtin,I,H,Builtin.append_,run_underlying U,Go.sizeOf,typeInfo,R,Builtin.lenOf,Builtin.firstCells,storeCells,loadCells,loadCellsFrom,Result.andThen]
 obtain⟨b,off,rfl,hc⟩:=J.at (by rw[N];exact Nat.mul_pos V Y);obtain⟨E,w',hr,d,k⟩:=run_append_arg_grows (P:=P) w t o.type e Z z n D U R hz a l h6 Y ⟨g,0,none⟩ 0 0 [] (by simp) (λj u h=>by simp at h) ⟨b,off,none⟩ m c C N (λj u hj=>by rw[qo];exact hc j u hj) (by omega) (by omega) (by rw[ed];exact b2);have f : Own w' B e n E m C:=by have:=(Own.of_owns d).mono hB;simpa using this
 refine⟨E,w',?_,lc k,f⟩;simp[execOp,K,resolve,invoke,builtin,I,H,hr,Result.andThen]
theorem mf{l:List mV}{J:(Nat->Bool)->(Nat->Value)->World->Prop}{D:Value->World->Prop}(f:Region.wanted o (iw ρ ops)=true)(h:∃d w',(execOp ρ o).run P w = .ok (.value d) w'/\D d w')
 (n:∀v w',D v w'->J (dQ L i) (fE y i v) w') (j:∀v w',D v w'->rl l i v w') :
  if Region.wanted o (iw ρ ops)=true then dZ P o ρ w (λv w'=>J (dQ L i) (fE y i v) w'/\rl l i v w')else J (dQ L i) (fE y i undef) w/\rl l i undef w:=by
 obtain⟨v,w',s,h2⟩:=h;exact fH v f s (n _ _ h2) (j _ _ h2)
theorem Ug{l:List mV}{D:Value->Prop}(d:Region.wanted o (iw ρ ops)=true)(h:∃v,(execOp ρ o).run P w = .ok (.value v) w/\D v)(f:∀v,D v->rl l i v w) :
  if Region.wanted o (iw ρ ops)=true then dZ P o ρ w (λv w'=>Below w.heap.size w w'/\rl l i v w')else rl l i undef w:=by
 obtain⟨v,j,h2⟩:=h;exact ak v d j (f _ h2)
theorem GA{α:Type}(enc:α->List Value)(sz:Nat)(d:∀x,(enc x).length=sz):∀(l:List α) (k:Nat),(l.flatMap enc).take (k*sz)=(l.take k).flatMap enc
 | [],k=>by simp
 | x::l,0=>by simp
 | x::l,k+1=>by rw[nX,List.take_succ_cons,nX,De,Jb,List.take_append,d,jD (by rw[d];omega),Bc,GA enc sz d l k]
theorem Io{α:Type}(enc:α->List Value)(sz:Nat)(d:∀x,(enc x).length=sz):∀(l:List α) (k:Nat),(l.flatMap enc).drop (k*sz)=(l.drop k).flatMap enc
 | [],k=>by simp
 | x::l,0=>by simp
 | x::l,k+1=>by rw[nX,yx,De,Jb,List.drop_append,d,qX (by rw[d];omega),JC,Bc,Io enc sz d l k]
theorem Kw(l:List Cc)(c:Cc)(q:Nat)(d:q<=l.length):((l.flatMap iQ).take (q*3)++iQ c)++(l.flatMap iQ).drop (q*3)=(l.insertIdx q c).flatMap iQ:=by
 rw[GA iQ 3 jc,Io iQ 3 jc];have:∀(l:List Cc) (q:Nat),q<=l.length->l.insertIdx q c=l.take q++c::l.drop q:=by
  intro l
  induction l with
  | nil=>
   intro q d;obtain rfl:q=0:=by simpa using d
   rfl
  | cons x l ih=>intro q d;cases q with
   | zero=>rfl
   | succ q=>rw[Dm,ih q (by simpa using d)];rfl
 rw[this l q d];simp[fI]
theorem ve.take{n:Nat}(h:ve w a c n vs)(f:k<=n):ve w a c k (vs.take (k*sz)):=
 ⟨bi f h.le,h.mx,h.nl,λj u d=>h.rd j u (by
  rw[mg]at d;split at d
  .exact d
  .cases d)⟩
theorem SV{i:Operand}{n:Nat}(G:o.op = .slice t x none (some i) none)(E:ρ x = .slice a n c)(D:ρ i = .int .i64 (k:Int))(H:k<=n)
 (F:P.underlying t=some (.slice e)) (z:(P.info? e).map (·.size)=some sz) (h:ve W0 a c n vs):(execOp ρ o).run P w = .ok (.value (.slice a k c)) w/\ve W0 a c k (vs.take (k*sz)):=by
 obtain⟨s,f,g⟩:∃s,P.info? e=some s/\s.size=sz:=by
  cases h:P.info? e with
  | none=>rw[h]at z;cases z
  | some s=>rw[h]at z;exact⟨s,rfl,by simpa using z⟩
 have b:(Go.sizeOf e).run P w = .ok sz w:=by simp[Go.sizeOf,typeInfo,f,go_sem,g]
 have m:=h.le;refine⟨?_,bi H h.le,h.mx,h.nl,λj u C=>h.rd j u (by
  rw[mg]at C;split at C
  .exact C
  .cases C)⟩
 have d:(k:Int)<=(c:Int):=by omega
 cases a with
 | none=>
  have l:=h.nl rfl;subst l;obtain rfl:k=0:=by omega
  simp[execOp,go_sem,G,E,D,F,b,d]
 | some ad=>simp[execOp,go_sem,G,E,D,F,b,d]
theorem RX{i:Operand}{n:Nat}(F:o.op = .slice t x (some i) none none)(D:ρ x = .slice a n c)(C:ρ i = .int .i64 (k:Int))(N:k<=n)
 (E:P.underlying t=some (.slice e)) (z:(P.info? e).map (·.size)=some sz) (I:vs.length=n*sz) (h:ve W0 a c n vs):∃v,(execOp ρ o).run P w = .ok (.value v) w/\∃a' c',v = .slice a' (n-k) c'/\ve W0 a' c' (n-k) (vs.drop (k*sz)):=by
 obtain⟨s,f,g⟩:∃s,P.info? e=some s/\s.size=sz:=by
  cases h:P.info? e with
  | none=>rw[h]at z;cases z
  | some s=>rw[h]at z;exact⟨s,rfl,by simpa using z⟩
 have d:(Go.sizeOf e).run P w = .ok sz w:=by simp[Go.sizeOf,typeInfo,f,go_sem,g]
 have q:=h.le;have p:=h.mx;have l:(k:Int)<=(n:Int):=by omega
 have j:(n:Int)<=(c:Int):=by omega
 cases a with
 | none=>
  have m:=h.nl rfl;subst m;obtain rfl:n=0:=by omega
  obtain rfl:k=0:=by omega
  obtain rfl:vs=[]:=kU (by simpa using I);exact⟨.slice none 0 0,by simp[execOp,go_sem,F,D,C,E,d],none,0,rfl,az _,bq _,λ_=>rfl,by rw[xY];exact eB.nil⟩
 | some ad=>
  by_cases H:k=c
  .subst H;obtain rfl:k=n:=by omega
   refine⟨.slice (some ad) 0 0,by simp[execOp,go_sem,F,D,C,E,d],some ad,0,by rw[qx],by omega,bq _,λe=>(by cases e),?_⟩;rw[qX (by omega)];exact eB.nil
  refine⟨.slice (some (ad.add (k*sz))) (n-k) (c-k),?_,some (ad.add (k*sz)),c-k,rfl,by omega,by omega,λe=>(by cases e),?_⟩
  .have J:k<c:=by omega
   simp[execOp,go_sem,F,D,C,E,d,l,j,J];exactλe=>absurd e.symm H
  intro i u G;rw[qQ]at G;obtain⟨b,off,M,K⟩:=h.rd _ _ G;cases M;exact⟨b,off+k*sz,by rw[qo],by rw[nV];exact K⟩
def AU(W0:World)(q:Nat)(l:List Cc)(c:Cc):(Nat->Bool)->(Nat->Value)->World->Prop:=λL y W=>
 Below W0.heap.size W0 W/\(L 23=true->L 15=true)/\(L 15=true->L 9=true) /\
 (L 1=true->L 9=false->∃g,y 1 = .slice (some ⟨g,0,none⟩) 0 0/\Own W W0.heap.size 122 3 (.slice (some ⟨g,0,none⟩) 0 0) 0 []) /\
 (L 9=true->L 15=false->Own W W0.heap.size 122 3 (y 9) q ((l.flatMap iQ).take (q*3))) /\
 (L 14=true->L 15=false->∃a e,y 14 = .slice a 1 e/\ve W a e 1 (iQ c)) /\
 (L 15=true->L 23=false->Own W W0.heap.size 122 3 (y 15) (q+1) ((l.flatMap iQ).take (q*3)++iQ c)) /\
 (L 23=true->Own W W0.heap.size 122 3 (y 23) (q+1+(l.length-q)) (((l.flatMap iQ).take (q*3)++iQ c)++(l.flatMap iQ).drop (q*3)))
theorem gJ{l:List Cc}{c:Cc}:∀L y W W',Below W.heap.size W W'->AU W0 q l c L y W->AU W0 q l c L y W':=
 λ_ _ _ _ hb ⟨h1,h2,h3,h4,h5,h6,h7,h8⟩=>⟨ag h1 hb,h2,h3,λa b=>by
  obtain⟨g,f,d⟩:=h4 a b;exact⟨g,f,d.below hb⟩,λa b=>(h5 a b).below hb,λa b=>by
  obtain⟨x,e,f,d⟩:=h6 a b;exact⟨x,e,f,d.below hb⟩,λa b=>(h7 a b).below hb,λa=>(h8 a).below hb⟩
theorem WN{l:List Cc}{c:Cc}(y:Nat->Value):AU W0 q l c (λ_=>false) y W0:=by
 refine⟨Below.refl _ _,?_,?_,?_,?_,?_,?_,?_⟩<;>· intro h;cases h
theorem WH{l:List Cc}{c:Cc}(h:AU W0 q l c L y W):AU W0 q l c (dQ L 1) (fE y 1 (.slice (some ⟨W.heap.size,0,none⟩) 0 0)) (W.alloc (.cells #[] 122)):=by
 obtain⟨u,h2,s,z,n,j,f,d⟩:=gJ _ _ _ _ ((Below.refl _ _).alloc (az _) (.cells #[] 122)) h;exact⟨u,h2,s,λ_ _=>⟨_,rfl,Own.empty _ _ h.1.size⟩,n,j,f,d⟩
theorem WL{l:List Cc}{c:Cc}(h:AU W0 q l c L y W)(f:Below W.heap.size W W')(d:Own W' W0.heap.size 122 3 v q ((l.flatMap iQ).take (q*3))):AU W0 q l c (dQ L 9) (fE y 9 v) W':=by
 obtain⟨u,h2,D,C,z,s,n,j⟩:=gJ _ _ _ _ f h;exact⟨u,h2,λ_=>rfl,λ_ e=>(by cases e),λ_ _=>d,s,n,j⟩
theorem VV{l:List Cc}{c:Cc}{e:Nat}(h:AU W0 q l c L y W)(f:Below W.heap.size W W')(d:ve W' a e 1 (iQ c)):AU W0 q l c (dQ L 14) (fE y 14 (.slice a 1 e)) W':=by
 obtain⟨C,h2,z,u,s,D,n,j⟩:=gJ _ _ _ _ f h;exact⟨C,h2,z,u,s,λ_ _=>⟨a,e,rfl,d⟩,n,j⟩
theorem VU{l:List Cc}{c:Cc}(h:AU W0 q l c L y W)(d:L 15=false)(f:L 9=true)(u:W.grownBy W' (y 9).ownBlock)(n:Own W' W0.heap.size 122 3 v (q+1) ((l.flatMap iQ).take (q*3)++iQ c)):AU W0 q l c (dQ L 15) (fE y 15 v) W':=by
 obtain⟨j,h2,G,F,z,E,D,C⟩:=h;have a:L 23=true->False:=λe=>by rw[h2 e]at d;cases d
 exact⟨j.grown u j.size (λk s=>(z f d).ge k s),λ_=>rfl,λ_=>f,λ_ e=>(by rw[show dQ L 15 9=L 9 from rfl,f]at e;cases e),λ_ e=>(by cases e),λ_ e=>(by cases e),λ_ _=>n,λe=>(a e).elim⟩
theorem UN{l:List Cc}{c:Cc}(h:AU W0 q l c L y W)(f:L 23=false)(d:L 15=true)(z:W.grownBy W' (y 15).ownBlock)(s:Own W' W0.heap.size 122 3 v (q+1+(l.length-q)) (((l.flatMap iQ).take (q*3)++iQ c)++(l.flatMap iQ).drop (q*3))):AU W0 q l c (dQ L 23) (fE y 23 v) W':=by
 obtain⟨n,h2,j,G,F,E,C,D⟩:=h;exact⟨n.grown z n.size (λk u=>(C d f).ge k u),λ_=>d,j,λ_ e=>(by rw[show dQ L 23 9=L 9 from rfl,j d]at e;cases e),λ_ e=>(by rw[show dQ L 23 15=L 15 from rfl,d]at e;cases e),λ_ e=>(by rw[show dQ L 23 15=L 15 from rfl,d]at e;cases e),λ_ e=>(by cases e),λ_=>s⟩
structure Ka (S S' : MW):Prop where
 sp:S'.H.sp=S.H.sp
 fi:S'.H.fi=S.H.fi
 ct:S'.H.ct=S.H.ct
 dk:S'.H.dk=S.H.dk
 fl:S'.H.m.fs.length=S.H.m.fs.length
 sl:S'.H.sl.length=S.H.sl.length
theorem Ka.refl(S:MW):Ka S S:=⟨rfl,rfl,rfl,rfl,rfl,rfl⟩
theorem Ka.trans{a b c:MW}(h:Ka a b)(k:Ka b c):Ka a c:=⟨k.sp.trans h.sp,k.fi.trans h.fi,k.ct.trans h.ct,k.dk.trans h.dk,k.fl.trans h.fl,k.sl.trans h.sl⟩
theorem fD.rdM(h:fD w B b S):eB w (some ⟨b,1,none⟩) (fF S.H).toList:=bF h.blk 1 11
theorem Bd.cas{T:List (List En)}(h:Bd m T):m.ca.length<=60:=Sv (m:=fe m T) h.rt.ca h.rt.pt.st
theorem Bd.fis{T:List (List En)}(h:Bd m T):∀f∈m.st.fs,f.b.length<=12:=yu h.rt.pt.st
def Mk(S:MW)(B b:Nat)(w:World)(ks:List (Nat × Array Value × TypeId)):(Nat->Bool)->(Nat->Value)->World->Prop:=λ_ _ W=>
 ∃a c l,fD W B b (S.lst a c l)/\MS w b S W (S.lst a c l)/\∀t∈ks,aG W t.1 t.2.1 t.2.2/\¬nL b S t.1
theorem aH{ks:List (Nat × Array Value × TypeId)}:∀L y W W',Below W.heap.size W W'->Mk S B b w ks L y W->Mk S B b w ks L y W':=
 λ_ _ _ _ hb ⟨a,c,l,h1,h2,h3⟩=>⟨a,c,l,h1.below hb,h2.below hb,λt d=>⟨(h3 t d).1.ext hb,(h3 t d).2⟩⟩
theorem zZ{ks:List (Nat × Array Value × TypeId)}{y' : Value->Nat->Value}(n:Int)(hn : -9223372036854775808<=n/\n<=9223372036854775807)(h:Mk S B b w ks L y W){R:Value->World->Prop}(z:∀x:Int,0<=x->x<256->(x<n\/x=0)->∀W',R (.int .i64 x) W') :
  Calls Tryz.prog 32 #[.pointer (some ⟨b,0,none⟩),.int .i64 n] W λe W' => ∃v,e = .returned v/\Mk S B b w ks L' (y' v) W'/\R v W':=by
 obtain⟨a,c,l,C,h2,j⟩:=h;refine(fV _ n B b W C hn).mono ?_;rintro r W' ⟨x,a',c',u,rfl,k1,s,d,_⟩;exact⟨_,rfl,⟨a',c',u,k1,h2.trans s,λt f=>⟨s.blkN (j t f).1 (j t f).2,(j t f).2⟩⟩,z x d.1 d.2.1 d.2.2 W'⟩
theorem TP{ks:List (Nat × Array Value × TypeId)}{y' : Value->Nat->Value}(h:Mk S B b w ks L y W){R:Value->World->Prop}(s:∀P W',R (.agg (eQ P)) W') :
  Calls Tryz.prog 35 #[.pointer (some ⟨b,0,none⟩)] W λe W' => ∃v,e = .returned v/\Mk S B b w ks L' (y' v) W'/\R v W':=by
 obtain⟨a,c,l,u,h2,f⟩:=h;refine(yQ _ B b W u).mono ?_;rintro r W' ⟨P,a',c',n,rfl,k1,j⟩;exact⟨_,rfl,⟨a',c',n,k1,h2.trans j,λt d=>⟨j.blkN (f t d).1 (f t d).2,(f t d).2⟩⟩,s P W'⟩
theorem SK{l:List Cc}{f i:Int}(E:q<=l.length)(n:∀d∈l.take q,Cf f i d=false)(s:q=l.length\/∃c,l[q]?=some c/\Cf f i c=true):sS l f i=q:=by
 unfold sS;rcases s with rfl|⟨c,D,z⟩
 .rw[jD (az _)]at n;rw[vU.2 λd C=>n d C];rfl
 obtain⟨u,rfl⟩:=cz.1 D;rw[sj.2 ⟨u,z,λj F=>by have:=n (l[j]'(by omega)) (List.mem_take_iff_getElem.2 ⟨j,by omega,rfl⟩);rw[this];decide⟩];rfl
def VR(S:MW)(f i:Int)(B b:Nat)(w:World)(r:Ending)(w' : World):Prop:=∃x S',r = .returned (.int .i64 x)/\fD w' B b S'/\MS w b S w' S'/\Ka S S'/\S'.T=S.T/\Bd S'.H.ma S'.T/\(x = -1\/∃c∈S'.H.ca,c.f=f/\c.i=i/\c.k=x)
theorem Ku(S:MW)(f i:Int)(B b:Nat)(w:World)(h:fD w B b S)(E:Bd S.H.ma S.T)(hi:qK S.H.ma.st f i) :
  Calls Tryz.prog 123 #[.pointer (some ⟨b,0,none⟩),.int .i64 f,.int .i64 i] w (VR S f i B b w):=by
 have z7:S.H.ca.length<=60:=E.cas;have k5:=ae h.bs;have gx:=h.lt;obtain⟨F,rfl⟩:=iL hi.1.1;obtain⟨I,rfl⟩:=iL hi.2.1;have kD:F<S.H.fi.length:=by have:=hi.1.2;simp[MH.ma,cK]at this;omega
 have gy:(F:Int)<(S.H.fi.length:Int):=by omega
 have hO:=zu E.few.2.2.2.2.1 hi;have gz:(F:Int)<5:=hO.1;have gp:(I:Int)<12:=hO.2.1;obtain⟨N,hN⟩:∃N,(aN S.H.ma.st (F:Int)).n=N:=⟨_,rfl⟩;obtain⟨p,hp⟩:∃p,S.H.fi[F]?=some p:=⟨_,aF kD⟩;have ks:p.n=N:=by rw[<-hN];have:aN S.H.ma.st (F:Int)=p.fi:=iE (by show(S.H.fi.map PF.fi)[F]?=_;rw[iV,hp];rfl);rw[this];rfl
 have kY:=ae hp;have kC:=ae hN;have kr:=ae ks;have hA:=ae E;have ke:=ae hi;clear E hi hp hN ks hO;go_enter func123,ntmps123;have U:=h.blk.cell;unfold jI at U;go_upto_region 2 with(fail);clear U
 go_loopw [20] (fun k wr => ∃q:Nat,q<=S.H.ca.length/\k = .int .i64 q/\Below w.heap.size w wr/\Hid (∀d∈S.H.ca.take q,¬(d.f=(F:Int)/\d.i=(I:Int)))) (fun k _=>S.H.ca.length-(intOf k).toNat)
 case atStart=>exact⟨0,bq _,rfl,Below.refl _ _,ae (by simp)⟩
 case round=>
  obtain⟨q,hq,rfl,hJ,hX⟩:=hrel
  by_cases K:q<S.H.ca.length
  .obtain⟨Y,R,hh,t⟩:=Aa (h.ma.rd.below hJ).ca.rd q K;obtain⟨c,U⟩:∃c,S.H.ca[q]?=some c:=⟨_,aF K⟩;rw[show S.H.ca[q]=c from(cz.1 U).2]at t;have hH:(q:Int)<(S.H.ca.length:Int):=by omega
   have ky:=ae U;clear U;rw[hh]
   go_wp2_with (first | (refine ay _ _ rfl Y (R+q*3) rfl rfl _ t _ underlying122 rfl cached_size ?_) | (refine aK rfl _ _ _ rfl (xe c) rfl rfl rfl cached_size (wB c) ?_))
   intro w3 hK cx3;have hE:=ag hJ hK;have hD:=cx3.cell;have gv:=cx3.lt;clear hJ hK t;unfold xe at hD
   by_cases hy:c.f=(F:Int)/\c.i=(I:Int)
   .obtain⟨hU,kc⟩:=hy;rw[hU,kc]at hD;go_wp2;go_ret;exact⟨c.k,S,rfl,h.below hE,(MS.refl w b S).below hE,.refl _,rfl,hA.out,.inr ⟨c,bS ky.out,hU,kc,rfl⟩⟩
   have h0 : Hid (∀d∈S.H.ca.take (q+1),¬(d.f=(F:Int)/\d.i=(I:Int))):=ae λd E=>by
    rw[take_at ky.out]at E;rcases gH.1 E with E|E
    .exact hX.out d E
    .rw[bB.1 E];exact hy
   by_cases hU:c.f=(F:Int)
   .have kc:¬c.i=(I:Int):=λe=>hy ⟨hU,e⟩;clear hy;go_wp2;go_roundw
    case rel=>exact⟨q+1,by omega,by go_num,hE,h0⟩
    case measure=>simp[intOf];omega
   clear hy;go_wp2;go_roundw
   case rel=>exact⟨q+1,by omega,by go_num,hE,h0⟩
   case measure=>simp[intOf];omega
  have hH:¬(q:Int)<(S.H.ca.length:Int):=by omega
  rw[jD (by omega)]at hX;have h1:=h.below hJ;have s1:=(MS.refl w b S).below hJ;have gu:=ae (h1.new (az _));have U:=h1.blk.cell;unfold jI at U
  go_wp2_with (refine ay _ _ rfl b 1 rfl rfl _ h1.rdM _ underlying45 rfl machine_size ?_)
  refine(zO S.H F I _ h1.ma.rd ⟨by omega,λf hf=>bi (hA.out.fis f hf) (by decide)⟩ (λc U=>hA.out.rt.ca.lt c U) (by have:=ke.out.1;simpa[MH.ma,cK]using this) ke.out.2).mono ?_;rintro r w2 ⟨rfl,kk⟩;have hP:Hid (dw (aW S.H.ma F I) (N-(I:Int)*8)=aW S.H.ma F I/\aW S.H.ma F I=dz S.H.ma F I):=ae (by
   have e:aW S.H.ma F I=dz S.H.ma F I:=by unfold aW dz;rw[show S.H.ma.ca.find? (λc=>decide (c.f=(F:Int))&&decide (c.i=(I:Int)))=none from EH hX.out]
   exact⟨by rw[e,<-kC.out];exact Ii _ _ _,e⟩)
  generalize aW S.H.ma F I=P at hP;have h2:=h1.below kk;have s2:=s1.below kk;clear h1 s1 U kk h hJ
  go_wp2_with (refine aK rfl _ _ _ rfl (eQ P) rfl rfl rfl psize (fM P) ?_)
  intro w3 hK px3;have h3:=h2.below hK;have s3:=s2.below hK;have hL:=ae (h2.new (az _));have kd:=ae s2.size;have kX:w2.heap.size<w3.heap.size:=px3.lt;have kt:B<=w2.heap.size:=bi k5.out kd.out;clear h2 s2 hK;generalize hp4:w2.heap.size=p4 at *
  clear hp4
  go_wp2_with fail
  refine(fV _ 2 B b _ h3 (by omega)).mono ?_;rintro r w4 ⟨x,a4,c4,l4,rfl,h4,s4,J,_⟩;have px4:=s4.blkN px3 hL.out;have s4:=s3.trans s4;clear h3 s3 px3 J kX;go_upto_if 46 with(fail)
  go_cut [10] (fun s10 wx => ∃(d:Bool) (a:Option Addr) (c:Nat) (l:List UInt8) (P:Page),s10 = .bool d/\fD wx B b (S.lst a c l)/\MS w b S wx (S.lst a c l)/\aG wx p4 (eQ P) 58/\Hid (dw P (N-(I:Int)*8)=P/\(d=false->P=dz S.H.ma F I)))
  case first=>
   by_cases hx1:x=1
   .subst hx1
    go_wp2_with fail
    refine(yQ _ B b _ h4).mono ?_;rintro r w5 ⟨M,a5,c5,l5,rfl,h5,s5⟩;rw[oK]at h5 s5;have px5:=s5.blkN px4 hL.out;have s5:=s4.trans s5;clear h4 s4 px4 hP
    go_wp2_with (refine aA rfl _ _ _ rfl p4 (eQ M) rfl rfl _ _ px5 rfl psize (fM _) ?_)
    intro w6 px6 kg;have h6:=h5.locT px5 (by decide) hL.out kt kg;have s6:=s5.loc kg kd.out;clear h5 s5 px5 kg;go_upto_region 11 with(fail)
    go_loopw [49] (fun j wr => ∃k:Nat,k<=8/\j = .int .i64 k/\fD wr B b (S.lst a5 c5 l5)/\MS w b S wr (S.lst a5 c5 l5)/\aG wr p4 (eQ (iK M (N-(I:Int)*8) k)) 58) (fun j _=>8-(intOf j).toNat)
    case atStart=>exact⟨0,by omega,rfl,h6,s6,by rw[show iK M (N-(I:Int)*8) 0=M from by ext j hj;simp[iK]];exact px6⟩
    case round=>
     clear h6 s6 px6;obtain⟨k,hk,rfl,hm,hs,px⟩:=hrel
     by_cases hk8:k<8
     .have k0:(k:Int)<8:=by omega
      have hD:=hm.blk.cell;unfold jI at hD;dsimp only[MW.lst]at hD;obtain⟨bf,of,kl,t⟩:=kE kR (by decide) hm.ma.rd.st.rd F kD;dsimp only[MW.lst]at kl t;rw[show S.H.fi[F]=p from(cz.1 kY.out).2]at t;rw[kl]at hD;have rc0:wr.cell? ⟨bf,of+F*2,none⟩=some (.int .i64 N):=by rw[<-kr.out];obtain⟨b',o',e,hS⟩:=t 0 _ rfl;cases e;exact hS
      clear t kl;have gt:IntKind.i64.wrap (8*(I:Int))=8*(I:Int):=bI _ (by omega);have gs:IntKind.i64.wrap (8*(I:Int)+(k:Int))=8*(I:Int)+(k:Int):=bI _ (by omega)
      by_cases hge:N<=8*(I:Int)+k
      .have hr:Hid ((eQ (iK M (N-(I:Int)*8) k)).setIfInBounds k (.int .u8 0)=eQ (iK M (N-(I:Int)*8) (k+1))):=ae (by rw[<-yV M _ k hk8 (by omega)];exact Aj _ k hk8 0);generalize hT:iK M (N-(I:Int)*8) k=T at px hr;clear hT
       go_wp2_with (refine aB rfl _ _ _ rfl p4 k _ [.int .u8 0] rfl rfl rfl _ _ px (by show k+1<=8;omega) (by kernel_rfl) (λu hu=>by cases bB.1 hu;rfl) ?_)
       intro w7 px7 kf;rw[Pw.putAt_one,hr.out] at px7;have kZ:=hm.locT px (by decide) hL.out kt kf;have kW:=hs.loc kf kd.out;clear hm hs px kf hD rc0;go_wp2;go_roundw
       case rel=>exact⟨k+1,by omega,by go_num,kZ,kW,px7⟩
       case measure=>simp[intOf];omega
      have hr:iK M (N-(I:Int)*8) k=iK M (N-(I:Int)*8) (k+1):=by
       ext j hj
       simp only[iK,qY]
       by_cases e:N-(I:Int)*8<=(j:Int)
       .rw[if_neg (by omega),if_neg (by omega)]
       .rw[if_neg (by omega),if_neg (by omega)]
      rw[hr] at px;clear hr;go_wp2;go_roundw
      case rel=>exact⟨k+1,by omega,by go_num,hm,hs,px⟩
      case measure=>simp[intOf];omega
     have k0:¬(k:Int)<8:=by omega
     rw[yg _ _ k (by omega)]at px;have hC:Hid (dw (dw M (N-(I:Int)*8)) (N-(I:Int)*8)=dw M (N-(I:Int)*8)):=ae (Oz _ _);generalize dw M (N-(I:Int)*8)=C at px hC;go_wp2;go_meet
     case rel=>exact⟨true,a5,c5,l5,C,rfl,hm,hs,px,ae ⟨hC.out,λh=>(by cases h)⟩⟩
   go_wp2;go_meet
   case rel=>exact⟨false,a4,c4,l4,P,rfl,h4,s4,px4,ae ⟨hP.out.1,λ_=>hP.out.2⟩⟩
  case rest=>
   obtain⟨d,a5,c5,l5,M,rfl,h5,s5,px5,kB⟩:=hcut;clear h4 s4 px4 hP;go_upto_region 16 with(fail);refine iI 9 [.v (.pointer (some ⟨b,0,none⟩)),.v (.agg (eQ M)),_,.r 3 ((dF λv => ∃x:Int,v = .int .i64 x/\0<=x)),.r 4 ((dF λv => ∃u,v = .bool u)),_,_,_,.r 8 ((dF λv => ∃u,v = .agg (tX ⟨M,1,u,d,(F:Int),(I:Int)⟩)))] (Mk S B b w [(p4,eQ M,58)]) aH (λ_=>⟨a5,c5,l5,h5,s5,by simpa using⟨px5,hL.out⟩⟩) (Qk aH rfl (ah ?_ (Qk aH rfl (ah ?_ (ah ?_ (Qk aH rfl (Qk aH rfl (Qk aH rfl (ah ?_ (aI)))))))))) (λ_=>rfl) rfl ?_
   .intro ρ y W L G Z o s D E;refine fZ aH (λ_ _ h=>h) D ?_;have E9:ρ (.tmp 9) = .pointer (some ⟨p4,0,none⟩):=(Z (.tmp 9) rfl).trans rfl;obtain⟨a,c,l,m1,m2,m3⟩:=D;have m3:=(m3 _ (bB.2 rfl)).1;refine ak (.agg (eQ M)) (aj rfl) (eD rfl E9 m3 underlying58 rfl psize) rfl
   .intro ρ y W L G Z o s D E;have gj:=G 72 2 rfl;have h2:y 2=_:=E 2 rfl;have EC:∀v,ρ (.const v)=v:=λv=>Z (.const v) trivial;have EF:=eF0 Z λ_=>trivial;refine jd _ _ (aj rfl) (aS rfl (EF _) func32 (by kernel_rfl) (by kernel_rfl) (by simp only[bW,bQ,aZ,gj,h2,EC,EF];rfl)) ?_;exact zZ 2 (by omega) D λx h1 _ _ _=>⟨x,rfl,h1⟩
   .intro ρ y W L G Z o s D E;refine fZ aH (λ_ _ h=>h) D ?_;have gi:=G 73 3 rfl;have h3:=E 3 rfl;obtain⟨x,J,_⟩:=h3;refine ak _ (aj rfl) (qz rfl (gi.trans J) (Z (.const _) trivial) (by simp[go_sem];rfl)) ⟨_,rfl⟩
   .intro ρ y W L G Z o s D E;refine fZ aH (λ_ _ h=>h) D ?_;have gk:=G 71 1 rfl;have h1:y 1=_:=E 1 rfl;have gh:=G 74 4 rfl;have h4:=E 4 rfl;have gg:=G 75 5 rfl;have h5:y 5=_:=E 5 rfl;have gf:=G 76 6 rfl;have h6:y 6=_:=E 6 rfl;have ge:=G 77 7 rfl;have h7:y 7=_:=E 7 rfl;obtain⟨u,hu⟩:=h4;have EC:∀v,ρ (.const v)=v:=λv=>Z (.const v) trivial;refine ak (.agg (tX ⟨M,1,u,d,(F:Int),(I:Int)⟩)) (aj rfl) (by simp[execOp,go_sem,gk,h1,gh,gg,h5,gf,h6,ge,h7,EC,hu,eQ,tX]) ⟨_,rfl⟩
   intro y W5 kz hG;have gr:((dF λv => ∃x:Int,v = .int .i64 x/\0<=x)).r (y 3) W5:=hG 3 (by decide);have gq:((dF λv => ∃u,v = .bool u)).r (y 4) W5:=hG 4 (by decide);have kU:((dF λv => ∃u,v = .agg (tX ⟨M,1,u,d,(F:Int),(I:Int)⟩))).r (y 8) W5:=hG 8 (by decide);clear hG;obtain⟨a6,c6,l6,h6,s6,px6⟩:=kz;have px6:=(px6 _ (bB.2 rfl)).1;obtain⟨u,hu⟩:=kU;rw[hu];clear hu h5 s5 px5
   go_wp2_with fail
   refine(Fu _ _ B b _ h6 (by have:=hA.out.few.1;show S.H.m.fs.length<=1000;have e:S.H.ma.m.fs.length=S.H.m.fs.length:=rfl;omega)).mono ?_;rintro r w7 ⟨x7,a7,c7,l7,fs,rfl,h7,s7,kV⟩;rw[oK]at h7 s7;have s7:=s6.trans s7;clear h6 s6 px6;rcases kV with⟨rfl,rfl⟩|⟨j,rfl,hj,hjr,rfl⟩
   .go_wp2;go_ret;exact⟨-1,_,rfl,h7,s7,⟨rfl,rfl,rfl,rfl,rfl,rfl⟩,rfl,hA.out,.inl rfl⟩
   have k1 : j<S.H.m.fs.length:=hj;have kw:=ae hjr;have gw:(0:Int)<=(j:Int):=by omega
   clear hj hjr;go_upto_region 20 with(fail)
   go_loopw [13] (fun k wr => ∃q:Nat,q<=S.H.ca.length/\k = .int .i64 q/\Below w7.heap.size w7 wr/\Hid (∀d∈S.H.ca.take q,Cf F I d=false)) (fun k _=>S.H.ca.length-(intOf k).toNat)
   case atStart=>exact⟨0,bq _,rfl,Below.refl _ _,ae (by simp)⟩
   case round=>
    obtain⟨q,hq,rfl,kj,hz⟩:=hrel;have ha:=h7.below kj;have kn:IntKind.i64.wrap (100*(F:Int))=100*(F:Int):=bI _ (by omega);have km:IntKind.i64.wrap (100*(F:Int)+(I:Int))=100*(F:Int)+(I:Int):=bI _ (by omega)
    by_cases K:q<S.H.ca.length
    case' neg=>
     have hH:¬(q:Int)<(S.H.ca.length:Int):=by omega
     go_upto_region 20 with(fail);refine aV 35 [_,_,_,_,_,_,_,_,_,_,_,_,_,_,_,_,_,_,_,_,_,_,_,_,_,_,_,_,_,_,_,_,_,_,.v (.bool false)] (Gk rfl (Gk rfl (Gk rfl (Gf b 1 rfl rfl (Gf b 10 rfl rfl (Gl ha.blk (V:=.slice S.H.ac S.H.ca.length S.H.cc) (by simp[jI,MW.frs,MW.lst]) rfl rfl rfl rfl (Gn rfl rfl rfl rfl (Gb (.bool false) (by simp[go_sem,hH,K]) rfl rfl rfl rfl rfl (Gk rfl (Gk rfl (Gk rfl (Gk rfl (Gk rfl (Gk rfl (Gk rfl (Gk rfl (Gk rfl (Gk rfl (Gk rfl (Gk rfl (Gk rfl (Gk rfl (Gk rfl (Gk rfl (Gk rfl (Gk rfl (Gk rfl (Gk rfl (Gk rfl (Gk rfl (Gk rfl (Gk rfl (Gk rfl (Gk rfl (Gk rfl (aI)))))))))))))))))))))))))))))))))))) (λ_=>rfl) rfl ?_;intro y W8 hl _;have kA:Hid (sS S.H.ca F I=q):=ae (SK hq hz.out (.inl (by omega)))
    case' pos=>
     obtain⟨Y,R,hh,t⟩:=Aa ha.ma.rd.ca.rd q K;have hh:S.H.ac=some ⟨Y,R,none⟩:=hh;obtain⟨c,U⟩:∃c,S.H.ca[q]?=some c:=⟨_,aF K⟩;have t:eB wr (some ⟨Y,R+q*3,none⟩) (iQ c):=by rw[<-(cz.1 U).2];exact t
     have hH:(q:Int)<(S.H.ca.length:Int):=by omega
     have kh:=hA.out.rt.ca.file c (bS U);have gm:=zu hA.out.few.2.2.2.2.1 kh;have gn:0<=c.f/\0<=c.i:=⟨kh.1.1,kh.2.1⟩;have kp:IntKind.i64.wrap (100*c.f)=100*c.f:=bI _ (by omega);have ko:IntKind.i64.wrap (100*c.f+c.i)=100*c.f+c.i:=bI _ (by omega);have hW:∀W,Below wr.heap.size wr W->W.cell? ⟨Y,R+q*3,none⟩=some (.int .i64 c.f):=λW D=>by obtain⟨b',o',e,hS⟩:=(t.below D) 0 _ rfl;cases e;exact hS
     have hV:∀W,Below wr.heap.size wr W->W.cell? ⟨Y,R+q*3+1,none⟩=some (.int .i64 c.i):=λW D=>by obtain⟨b',o',e,hS⟩:=(t.below D) 1 _ rfl;cases e;exact hS
     have hY:Hid (Cf F I c=true↔¬100*c.f+c.i<100*(F:Int)+(I:Int)):=ae (by rw[xW];omega)
     by_cases hlt:100*c.f+c.i<100*(F:Int)+(I:Int)
     case pos=>
      go_upto_region 20 with(fail);refine aV 35 [_,_,_,_,_,_,_,_,_,_,_,_,_,_,_,_,_,_,_,_,_,_,_,_,_,_,_,_,_,_,_,_,_,_,.v (.bool true)] (Gk rfl (Gk rfl (Gk rfl (Gf b 1 rfl rfl (Gf b 10 rfl rfl (Gl ha.blk (V:=.slice S.H.ac S.H.ca.length S.H.cc) (by simp[jI,MW.frs,MW.lst]) rfl rfl rfl rfl (Gn rfl rfl rfl rfl (Gb (.bool true) (by simp[go_sem,hH,K]) rfl rfl rfl rfl rfl (Gk rfl (Gk rfl (Gk rfl (Gf b 1 rfl rfl (Gf b 10 rfl rfl (Gl ha.blk (V:=.slice (some ⟨Y,R,none⟩) S.H.ca.length S.H.cc) (by simp[jI,MW.frs,MW.lst,hh]) rfl rfl rfl rfl (Gk rfl (Gr (.pointer (some ⟨Y,R+q*3,none⟩)) (λρ y W D z=>(cO rfl (aL rfl z) (aL rfl z) K underlying42 cached_size)) rfl rfl (Gf Y (R+q*3) rfl rfl (Gc (.int .i64 c.f) (λW D=>by simp[hW _ D]) rfl rfl rfl rfl (Gb (.int .i64 (100*c.f)) (by simp[go_sem,kp]) rfl rfl rfl rfl rfl (Gk rfl (Gk rfl (Gf b 1 rfl rfl (Gf b 10 rfl rfl (Gl ha.blk (V:=.slice (some ⟨Y,R,none⟩) S.H.ca.length S.H.cc) (by simp[jI,MW.frs,MW.lst,hh]) rfl rfl rfl rfl (Gk rfl (Gr (.pointer (some ⟨Y,R+q*3,none⟩)) (λρ y W D z=>(cO rfl (aL rfl z) (aL rfl z) K underlying42 cached_size)) rfl rfl (Gf Y (R+q*3+1) rfl rfl (Gc (.int .i64 c.i) (λW D=>by simp[hV _ D]) rfl rfl rfl rfl (Gb (.int .i64 (100*c.f+c.i)) (by simp[go_sem,ko]) rfl rfl rfl rfl rfl (Gk rfl (Gb (.int .i64 (100*(F:Int))) (by simp[go_sem,kn]) rfl rfl rfl rfl rfl (Gk rfl (Gb (.int .i64 (100*(F:Int)+(I:Int))) (by simp[go_sem,km]) rfl rfl rfl rfl rfl (Gb (.bool true) (by simp[go_sem,hlt]) rfl rfl rfl rfl rfl (Gk rfl (aI)))))))))))))))))))))))))))))))))))) (λ_=>rfl) rfl ?_;intro y W8 hl _;have ku:Hid (∀d∈S.H.ca.take (q+1),Cf F I d=false):=ae λd E=>by
       rw[take_at U]at E;rcases gH.1 E with E|E
       .exact hz.out d E
       rw[bB.1 E];cases hg:Cf F I c with
       | false=>rfl
       | true=>exact absurd hlt (hY.out.1 hg)
      have hZ:=ag kj hl;clear hl U hh t hW hV hY hz ha;go_wp2;go_roundw
      case rel=>exact⟨q+1,by omega,by go_num,hZ,ku⟩
      case measure=>simp[intOf];omega
     go_upto_region 20 with(fail);refine aV 35 [_,_,_,_,_,_,_,_,_,_,_,_,_,_,_,_,_,_,_,_,_,_,_,_,_,_,_,_,_,_,_,_,_,_,.v (.bool false)] (Gk rfl (Gk rfl (Gk rfl (Gf b 1 rfl rfl (Gf b 10 rfl rfl (Gl ha.blk (V:=.slice S.H.ac S.H.ca.length S.H.cc) (by simp[jI,MW.frs,MW.lst]) rfl rfl rfl rfl (Gn rfl rfl rfl rfl (Gb (.bool true) (by simp[go_sem,hH,K]) rfl rfl rfl rfl rfl (Gk rfl (Gk rfl (Gk rfl (Gf b 1 rfl rfl (Gf b 10 rfl rfl (Gl ha.blk (V:=.slice (some ⟨Y,R,none⟩) S.H.ca.length S.H.cc) (by simp[jI,MW.frs,MW.lst,hh]) rfl rfl rfl rfl (Gk rfl (Gr (.pointer (some ⟨Y,R+q*3,none⟩)) (λρ y W D z=>(cO rfl (aL rfl z) (aL rfl z) K underlying42 cached_size)) rfl rfl (Gf Y (R+q*3) rfl rfl (Gc (.int .i64 c.f) (λW D=>by simp[hW _ D]) rfl rfl rfl rfl (Gb (.int .i64 (100*c.f)) (by simp[go_sem,kp]) rfl rfl rfl rfl rfl (Gk rfl (Gk rfl (Gf b 1 rfl rfl (Gf b 10 rfl rfl (Gl ha.blk (V:=.slice (some ⟨Y,R,none⟩) S.H.ca.length S.H.cc) (by simp[jI,MW.frs,MW.lst,hh]) rfl rfl rfl rfl (Gk rfl (Gr (.pointer (some ⟨Y,R+q*3,none⟩)) (λρ y W D z=>(cO rfl (aL rfl z) (aL rfl z) K underlying42 cached_size)) rfl rfl (Gf Y (R+q*3+1) rfl rfl (Gc (.int .i64 c.i) (λW D=>by simp[hV _ D]) rfl rfl rfl rfl (Gb (.int .i64 (100*c.f+c.i)) (by simp[go_sem,ko]) rfl rfl rfl rfl rfl (Gk rfl (Gb (.int .i64 (100*(F:Int))) (by simp[go_sem,kn]) rfl rfl rfl rfl rfl (Gk rfl (Gb (.int .i64 (100*(F:Int)+(I:Int))) (by simp[go_sem,km]) rfl rfl rfl rfl rfl (Gb (.bool false) (by simp[go_sem,hlt]) rfl rfl rfl rfl rfl (Gk rfl (aI)))))))))))))))))))))))))))))))))))) (λ_=>rfl) rfl ?_;intro y W8 hl _;have kA:Hid (sS S.H.ca F I=q):=ae (SK hq hz.out (.inr ⟨c,U,hY.out.2 hlt⟩));clear U hh t hW hV hY
    all_goals
     have hZ:=ag kj hl;have hI:=h7.below hZ;have s9:=s7.below hZ;clear hl ha hz;go_upto_region 22 with(fail);have sC:ve W8 S.H.ac S.H.cc S.H.ca.length (S.H.ca.flatMap iQ):=hI.ma.rd.ca;have sT:=sC.take (sz:=3) hq;have k4:S.H.ca.length<=60:=z7;have tlen:((S.H.ca.flatMap iQ).take (q*3)).length=q*3:=by rw[iO,jC];omega
     have dlen:((S.H.ca.flatMap iQ).drop (q*3)).length=(S.H.ca.length-q)*3:=by rw[AX,jC];omega
     refine iI 27 [_,.r 1 ((dF λ_=>True)),_,_,_,_,.v (.slice S.H.ac S.H.ca.length S.H.cc),_,_,.r 9 ((dF λ_=>True)),_,_,_,.v (.agg #[.int .i64 (F:Int),.int .i64 (I:Int),.int .i64 (j:Int)]),.r 14 ((dF λ_=>True)),.r 15 ((dF λ_=>True)),_,_,_,_,.v (.slice S.H.ac S.H.ca.length S.H.cc),_,.r 22 ((dF λv => ∃a e,v = .slice a (S.H.ca.length-q) e/\ve W8 a e (S.H.ca.length-q) ((S.H.ca.flatMap iQ).drop (q*3)))),.r 23 ((dF λ_=>True)),_,_,_] (AU W8 q S.H.ca ⟨(F:Int),(I:Int),(j:Int)⟩) gJ (λy=>WN y) (Qk gJ rfl (ah ?_ (Qk gJ rfl (Qk gJ rfl (Qf gJ b 1 rfl rfl (Qf gJ b 10 rfl rfl (ah ?_ (Qk gJ rfl (Qr gJ (.slice S.H.ac q S.H.cc) (λρ y W z=>(SV (W0:=W8) rfl (aL rfl z) (aL rfl z) hq underlying42 cached_size sC).1) rfl rfl (ah ?_ (Qk gJ rfl (Qk gJ rfl (Qk gJ rfl (ah ?_ (ah ?_ (ah ?_ (Qk gJ rfl (Qk gJ rfl (Qf gJ b 1 rfl rfl (Qf gJ b 10 rfl rfl (ah ?_ (Qk gJ rfl (ah ?_ (ah ?_ (Qk gJ rfl (Qf gJ b 1 rfl rfl (Qf gJ b 10 rfl rfl (aI)))))))))))))))))))))))))))) (λ_=>rfl) rfl ?_
     .intro ρ y W L G Z o s D E;refine fH (.slice (some ⟨W.heap.size,0,none⟩) 0 0) (aj rfl) ?_ (WH D) trivial;simp[execOp,go_sem]
     .intro ρ y W L G Z o s D E;refine fZ gJ (λ_ _ h=>h) D ?_;have kS:=G 124 5 rfl;have h5:y 5=_:=E 5 rfl;refine ak (.slice S.H.ac S.H.ca.length S.H.cc) (aj rfl) (by simp[execOp,go_sem,kS,h5,(hI.below D.1).blk.cell,jI,MW.frs,MW.lst]) rfl
     .intro ρ y W L G Z o s D E;have kT:=G 120 1 rfl;have h1:=E 1 rfl;have kQ:=G 127 8 rfl;have h8:y 8=_:=E 8 rfl;obtain⟨g,k3,k2⟩:=D.2.2.2.1 (s 1 rfl) o;refine mf (aj rfl) (KH _ _ _ rfl W8.heap.size 122 (.agg #[.int .i64 0,.int .i64 0,.int .i64 0]) 3 24 underlying42 cached_info rfl (by decide) g (kT.trans k3) k2 S.H.ac q S.H.cc _ (kQ.trans h8) sT.nl sT.le tlen (sT.below D.1).rd (by unfold maxLen;omega) (by omega) D.1.size) (λv W1 h=>WL D h.1 h.2) (λ_ _ _=>trivial)
     .intro ρ y W L G Z o s D E;refine fZ gJ (λ_ _ h=>h) D ?_;have kO:=G 129 10 rfl;have gd:y 10=_:=E 10 rfl;have kN:=G 130 11 rfl;have gc:y 11=_:=E 11 rfl;have kM:=G 131 12 rfl;have gb:y 12=_:=E 12 rfl;refine ak (.agg #[.int .i64 (F:Int),.int .i64 (I:Int),.int .i64 (j:Int)]) (aj rfl) (by simp[execOp,go_sem,kO,gd,kN,gc,kM,gb]) rfl
     .intro ρ y W L G Z o s D E;have kL:=G 132 13 rfl;have ga:y 13=_:=E 13 rfl;refine fH (.slice (some ⟨W.heap.size,0,none⟩) 1 1) (aj rfl) ?_ (VV (W':=W.alloc (.cells (xe ⟨(F:Int),(I:Int),(j:Int)⟩) 122)) D ((Below.refl _ _).alloc (az _) _) ⟨az _,by unfold maxLen;omega,λe=>(by cases e),eB.new _ _ _⟩) trivial;simp[execOp,go_sem,kL.trans ga,xe]
     .intro ρ y W L G Z o s D E;have kP:=G 128 9 rfl;have h9:=E 9 rfl;have kK:=G 133 14 rfl;have gB:=E 14 rfl;obtain⟨a,e,hx1,hB⟩:=D.2.2.2.2.2.1 (s 14 rfl) o;have hv:=D.2.2.2.2.1 (s 9 rfl) o;refine mf (aj rfl) (qB _ _ _ rfl W8.heap.size 122 (.agg #[.int .i64 0,.int .i64 0,.int .i64 0]) 3 24 underlying42 cached_info rfl (by decide) (y 9) q _ kP hv a 1 e _ (kK.trans hx1) hB.nl hB.le rfl hB.rd (Dz _) (by unfold maxLen;omega) (by omega) D.1.size) (λv W1 h=>VU D o (s 9 rfl) h.2.1 h.1) (λ_ _ _=>trivial)
     .intro ρ y W L G Z o s D E;refine fZ gJ (λ_ _ h=>h) D ?_;have kI:=G 138 19 rfl;have k9:y 19=_:=E 19 rfl;refine ak (.slice S.H.ac S.H.ca.length S.H.cc) (aj rfl) (by simp[execOp,go_sem,kI,k9,(hI.below D.1).blk.cell,jI,MW.frs,MW.lst]) rfl
     .intro ρ y W L G Z o s D E;refine fZ gJ (λ_ _ h=>h) D ?_;have kH:=G 139 20 rfl;have k8:y 20=_:=E 20 rfl;have kG:=G 140 21 rfl;have k7:y 21=_:=E 21 rfl;exact Ug (aj rfl) (RX (W0:=W8) rfl (kH.trans k8) (kG.trans k7) hq underlying42 cached_size (jC _) sC) (λ_ h=>h)
     .intro ρ y W L G Z o s D E;have kJ:=G 134 15 rfl;have gA:=E 15 rfl;have kF:=G 141 22 rfl;have k6:=E 22 rfl;obtain⟨a,e,hx1,hB⟩:=k6;have hv:=D.2.2.2.2.2.2.1 (s 15 rfl) o;refine mf (aj rfl) (qB _ _ _ rfl W8.heap.size 122 (.agg #[.int .i64 0,.int .i64 0,.int .i64 0]) 3 24 underlying42 cached_info rfl (by decide) (y 15) (q+1) _ kJ hv a (S.H.ca.length-q) e _ (kF.trans hx1) hB.nl hB.le dlen (hB.below D.1).rd (λu hu=>yS _ u (List.mem_of_mem_drop hu)) (by unfold maxLen;omega) (by omega) D.1.size) (λv W1 h=>UN D o (s 15 rfl) h.2.1 h.1) (λ_ _ _=>trivial)
     intro y W9 hF kb;have gl:((dF λv => ∃a e,v = .slice a (S.H.ca.length-q) e/\ve W8 a e (S.H.ca.length-q) ((S.H.ca.flatMap iQ).drop (q*3)))).r (y 22) W9:=kb 22 (by decide);clear kb;have ht:=hF.2.2.2.2.2.2.2 rfl;have hM:=hI.below hF.1;have s10:=s9.below hF.1;rw[Kw _ _ _ hq]at ht;have hQ:Hid ((S.H.ca.insertIdx q (⟨(F:Int),(I:Int),(j:Int)⟩:Cc)).length=q+1+(S.H.ca.length-q)):=ae (by rw[List.length_insertIdx_of_le_length hq];omega);obtain⟨a9,c9,kq,_⟩:=ht.rd;rw[kq]at ht ⊢;have kx:Hid (∀x,oB a9=some x->w.heap.size<=x):=ae λx J=>bi s9.size (je ht J).1;have ht:=ht.mono (bi hI.bs (az _));clear kq hF hI s9 sT sC tlen dlen h7 s7
     go_wp2_with (refine aB rfl _ _ _ rfl b 10 _ [.slice a9 (q+1+(S.H.ca.length-q)) c9] rfl rfl rfl _ _ hM.blk (by show 10+1<=13;omega) (by kernel_rfl) (λu hu=>by cases bB.1 hu;rfl) ?_)
     intro w11 ka hR;have kv:=hM.setC (l:=S.H.ca.insertIdx q ⟨(F:Int),(I:Int),(j:Int)⟩) (by rw[hQ.out];exact ht) (by rw[hQ.out];exact ka) hR;have s12:=s10.put (H':=_) hR (.inl rfl) (λx (J:nL b { ((S.lst a7 c7 l7).frs (S.H.m.fs.set j ⟨M,1,u,d,(F:Int),(I:Int)⟩))with H:={ ((S.lst a7 c7 l7).frs (S.H.m.fs.set j ⟨M,1,u,d,(F:Int),(I:Int)⟩)).H with ac:=a9,cc:=c9,ca:=S.H.ca.insertIdx q ⟨(F:Int),(I:Int),(j:Int)⟩ } } x)=>by
      rcases J with J|J
      .exact .inl (.inl J)
      simp only[iW,dx,gW,or_false]at J;rcases J with J|J|J|J|J|J|J|J|J
      .exact .inl (.inr (by simp only[iW,dx,gW,or_false];exact .inl J))
      .exact .inl (.inr (by simp only[iW,dx,gW,or_false];exact .inr (.inl J)))
      .exact .inl (.inr (by simp only[iW,dx,gW,or_false];exact .inr (.inr (.inl J))))
      .exact .inl (.inr (by simp only[iW,dx,gW,or_false];exact .inr (.inr (.inr (.inl J)))))
      .exact .inl (.inr (by simp only[iW,dx,gW,or_false];exact .inr (.inr (.inr (.inr (.inl J))))))
      .exact .inl (.inr (by simp only[iW,dx,gW,or_false];exact .inr (.inr (.inr (.inr (.inr (.inl J)))))))
      .exact .inr (kx.out x J.symm)
      .exact .inl (.inr (by simp only[iW,dx,gW,or_false];exact .inr (.inr (.inr (.inr (.inr (.inr (.inr (.inl J)))))))))
      .exact .inl (.inr (by simp only[iW,dx,gW,or_false];exact .inr (.inr (.inr (.inr (.inr (.inr (.inr (.inr J))))))))))
     clear hM s10 ka hR ht;go_wp2;go_ret;have ki:=hA.out.cache (X:=⟨M,1,u,d,(F:Int),(I:Int)⟩) ke.out hX.out k1 kw.out ⟨rfl,rfl,rfl⟩ (by rw[kC.out];exact kB.out.1) kB.out.2;refine⟨j,_,rfl,kv,s12,⟨rfl,rfl,rfl,rfl,bL,rfl⟩,rfl,?_,.inr ⟨⟨(F:Int),(I:Int),(j:Int)⟩,(yJ hq).2 (.inl rfl),rfl,rfl,rfl⟩⟩;unfold AQ at ki;rw[show sS S.H.ma.ca F I=q from kA.out]at ki;exact ki
def wW(o:Option Pg):Array Value:=#[.bool o.isSome,.bool (oR o),.bool (oW o),.bool (oH o),.int .i64 (oF o),.int .i64 (oP o)]
def qU(o:Option Pg):List Value:=(wW o).toList
theorem oM(o:Option Pg):(qU o).length=6:=rfl
theorem Ut(o:Option Pg):∀u∈qU o,u.oneCell' = true:=by
 intro u d;simp only[qU,wW,dx,gW,or_false]at d;rcases d with rfl|rfl|rfl|rfl|rfl|rfl<;>rfl
theorem Fs(o:Option Pg):(wW o).all (·.oneCell')=true:=by simp[wW,Value.oneCell']
def OE(l:List (Option Pg)):Array Value:=(l.flatMap qU).toArray
theorem Xb(l:List (Option Pg)):(l.flatMap qU).length=l.length*6:=Pw.flat_len qU 6 oM l
theorem Ba(l:List (Option Pg)):(OE l).size=l.length*6:=by
 unfold OE;rw[List.size_toArray,Xb]
theorem Bb(l:List (Option Pg)):(OE l).all (·.oneCell')=true:=by
 rw[<-mO,fA];intro u d;obtain⟨o,_,h⟩:=jV.1 (show u∈l.flatMap qU by simpa[OE]using d);exact Ut o u h
theorem VQ(l:List (Option Pg))(k:Nat)(u:k<l.length)(x:Option Pg):bJ (OE l) (k*6) (qU x)=OE (l.set k x):=by
 apply mI;intro i
 by_cases z:i<l.length*6
 .have d:i / 6<l.length:=by omega
  have b:i=i / 6*6+i%6:=by omega
  have h2:=jZ qU 6 oM (l.set k x) (i / 6) (by simpa using d) (i%6) (by omega);rw[<-b]at h2;have f:=jZ qU 6 oM l (i / 6) d (i%6) (by omega);rw[<-b]at f;have n:(OE (l.set k x))[i]?=((l.set k x).flatMap qU)[i]?:=by simp[OE]
  have s:(OE l)[i]?=(l.flatMap qU)[i]?:=by simp[OE]
  by_cases e:i / 6=k
  .have c:i=k*6+i%6:=by omega
   have a:i%6<(qU x).length:=by rw[oM];omega
   have j:=putAt_in (qU x) (OE l) (k*6) (i%6) (qU x)[i%6] (by rw[oM,Ba];omega) (aF a);rw[<-c]at j;rw[j,n,h2];simp only[e,Ja];exact(aF a).symm
  rw[putAt_out _ _ _ _ (by rw[oM];omega),n,h2,s,f];congr 2;rw[Dw (λh=>e h.symm)]
 .rw[mP (by rw[size_putAt,Ba];omega),mP (by rw[Ba,bL];omega)]
def fC(f:Nat->Option Pg):Array Value:=OE (OG f)
theorem kF(f:Nat->Option Pg):(fC f).size=384:=by unfold fC;rw[Ba,yF]
theorem Uc(f:Nat->Option Pg)(k:Nat)(d:k<64)(x:Option Pg):bJ (fC f) (k*6) (qU x)=fC (λi=>if i=k then x else f i):=by
 unfold fC;rw[VQ _ _ (by rw[yF];exact d),VE]
theorem UE(cur:Array Value)(o:Nat)(a b c d e x y:Value):bJ (bJ cur o [a,b,c,d,e,x]) (o+5) [y]=bJ cur o [a,b,c,d,e,y]:=by
 simp[bJ]
theorem one_size:(Tryz.prog.info? 80).map (·.size)=some 6:=by kernel_rfl
theorem ones_size:(Tryz.prog.info? 81).map (·.size)=some 384:=by kernel_rfl
theorem nJ(l:List Ar)(a:Option Addr)(c:Nat)(w:World)(h:eB w a (l.flatMap mX))(hl:l.length<=1000)(Z:∀x∈l,aU x=0) :
  Calls Tryz.prog 24 #[.slice a l.length c] w λr w'=>r = .returned (.agg (fC (cZ l)))/\Below w.heap.size w w':=by
 go_enter func24,ntmps24;go_upto_region 2 with(fail);refine uT (λW=>Code.wp _ _ _ _ W) λW0 hy j I hE => ?_;clear hE;replace I:aG W0 (w.heap.size+1) (fC f0) 81:=I;replace j:aG W0 w.heap.size (fC f0) 81:=j;go_upto_region 3 with(fail)
 go_loopw [9] (fun i wr => ∃k:Nat,k<=l.length/\i = .int .i64 k/\Below w.heap.size w wr/\aG wr (w.heap.size+1) (fC (cZ (l.take k))) 81/\aG wr w.heap.size (fC f0) 81) (fun i _=>l.length-(intOf i).toNat)
 case atStart=>exact⟨0,bq _,rfl,hy,I,j⟩
 case round=>
  clear hy I j;obtain⟨k,hk,rfl,d,t,hi⟩:=hrel
  by_cases C:k<l.length
  .have hI:=ae (MC C);have hA:=bM (Z l[k] (eu _));obtain⟨⟨f1,f2,f3⟩,f4,f5,f6,_,_⟩:=hA;generalize hF:cZ (l.take k)=F at *
   obtain⟨b,off,rfl,c0,c1,c2,c3,c4,c5,c6⟩:=NZ (h.below d) k C;generalize l[k]=A at *
   go_upto_region 5 with(fail);refine iG (λW=>Code.wp _ _ _ _ W) λW1 H M hD => ?_;clear hD c0 c1 c2 c3 c4 c5 c6;have y:=ag d H;have hv:=t.ext H;have hs:=hi.ext H;have hK:w.heap.size+1<wr.heap.size:=t.lt;clear d t hi H;obtain⟨gx,hg⟩:∃g,g=wr.heap.size:=⟨_,rfl⟩;rw[<-hg]at M hK ⊢;clear hg;obtain⟨N,hN⟩:∃N:Nat,A.fr=(N:Int):=⟨A.fr.toNat,by omega⟩;have G:=ae hN;clear hN;have n:=M.cell;go_upto_region 6 with(fail);clear n
   go_loopw [6] (fun i wr => ∃K:Nat,A.fr<=(K:Int)/\(K:Int)<=A.en/\i = .int .i64 K/\Below w.heap.size w wr/\aG wr gx (ky A) 94/\aG wr (w.heap.size+1) (fC (LB A K F)) 81/\aG wr w.heap.size (fC f0) 81) (fun i _=>(A.en-intOf i).toNat)
   case atStart=>exact⟨N,by have:=G.out;omega,by have:=G.out;omega,by rw[G.out],y,M,by rw[<-G.out,PL];exact hv,hs⟩
   case round=>
    clear y M hv hs;obtain⟨K,hM,hQ,rfl,d,V,E,Y⟩:=hrel;have n:=V.cell;unfold ky at n
    by_cases hKe:(K:Int)<A.en
    .have hB:K<64:=by omega
     have hL:(K:Int)<64:=by omega
     have hh:Hid (K*6+6<=(fC (LB A K F)).size):=ae (by rw[kF];omega);have hP:IntKind.i64.wrap (A.ba+(K:Int))=A.ba+(K:Int):=bI _ (by omega);have hO:IntKind.i64.wrap (A.ba+(K:Int)-A.fr)=A.ba+(K:Int)-A.fr:=bI _ (by omega);have s:Hid (∀q:Int,q=(if 0<=A.fi then A.ba+(K:Int)-A.fr else 0)->bJ (fC (LB A K F)) (K*6) [.bool true,.bool A.rd,.bool A.wr,.bool A.sh,.int .i64 A.fi,.int .i64 q]=fC (LB A ((K:Int)+1) F)):=ae (λq hq=>by rw[<-Rw hM,<-Uc _ K hB,hq];rfl);go_upto_region 9 with(refine gN rfl _ _ _ rfl (w.heap.size+1) (K*6) #[.bool true,.bool A.rd,.bool A.wr,.bool A.sh,.int .i64 A.fi,.int .i64 0] rfl rfl _ _ E hh.out one_size (by simp[Value.oneCell']) ?_);intro U J p;have m:Below w.heap.size w U:=d.grown p d.size oG0;have z:aG U gx (ky A) 94:=V.grown p (λe=>by have:=aM e;omega);have hm:aG U w.heap.size (fC f0) 81:=Y.grown p (λe=>by have:=aM e;omega);clear d V E Y p n;have n:=z.cell;unfold ky at n
     by_cases D:0<=A.fi
     .go_upto_region 7 with(refine aB rfl _ _ _ rfl (w.heap.size+1) (K*6+5) (.int .i64 (A.ba+(K:Int)-A.fr)) [.int .i64 (A.ba+(K:Int)-A.fr)] rfl rfl rfl _ _ J (by rw[size_putAt];exact hh.out) int_size (by simp[Value.oneCell']) ?_);intro R hu o;have hp:Below w.heap.size w R:=m.grown o m.size oG0;have hC:aG R gx (ky A) 94:=z.grown o (λe=>by have:=aM e;omega);have hH:aG R w.heap.size (fC f0) 81:=hm.grown o (λe=>by have:=aM e;omega);have u:aG R (w.heap.size+1) (fC (LB A ((K:Int)+1) F)) 81:=by rw[<-s.out _ (by rw[if_pos D]),<-UE];exact hu
      clear m z J hm hu o n s;go_wp2;go_roundw
      case rel=>exact⟨K+1,by omega,by omega,by go_num,hp,hC,u,hH⟩
      case measure=>simp[intOf];omega
     have u:aG U (w.heap.size+1) (fC (LB A ((K:Int)+1) F)) 81:=by rw[<-s.out 0 (by rw[if_neg D])];exact J
     clear J s;go_wp2;go_roundw
     case rel=>exact⟨K+1,by omega,by omega,by go_num,m,z,u,hm⟩
     case measure=>simp[intOf];omega
    have hz:(K:Int)=A.en:=by omega
    have u:aG wr (w.heap.size+1) (fC (cZ (l.take (k+1)))) 81:=by rw[hI.out,<-hz];exact E
    clear E hz;go_wp2;go_roundw
    case rel=>exact⟨k+1,by omega,by go_num,d,u,Y⟩
    case measure=>simp[intOf];omega
  have hJ:k=l.length:=by omega
  subst hJ;rw[yB]at t;have f:Hid ((fC (cZ l)).size=384):=ae (kF _);have hj:Hid ((fC f0).size=384):=ae (kF _);have ht:(fC (cZ l)).all (·.oneCell')=true:=Bb _
  go_wp2_with (first | (refine iA rfl 81 (.tmp 3) rfl (w.heap.size+1) 0 rfl (fC (cZ l)).toList t.rd _ underlying81 rfl (by rw[jm,f.out];exact ones_size) ?_) | (refine aA rfl _ (.tmp 2) (.tmp 46) rfl w.heap.size (fC (cZ l)) rfl rfl _ _ hi (by rw[f.out,hj.out]) (by rw[f.out];exact ones_size) ht ?_))
  intro w5 hG hw;have hn:Below w.heap.size w w5:=d.grown hw d.size oG0;go_wp2;refine bodyPost_ret (v:=.agg (fC (cZ l))) (fG results24 _ _ w.heap.size _ _ _ rfl hG underlying81 rfl (by rw[f.out];exact ones_size)) rfl ?_;exact⟨rfl,hn⟩
theorem Ih(a:Ar)(w:World):Calls Tryz.prog 121 #[.agg (ky a)] w λr w'=>r = .returned (.int .i64 (aU a))/\Below w.heap.size w w':=by
 unfold ky;go_enter func121,ntmps121;go_upto_region 1 with(fail);refine iG (λW=>Code.wp _ _ _ _ W) λW0 b e f => ?_;clear f;have d:=e.cell
 by_cases I:a.fr<0
 .have j:Hid (aU a=3):=ae (by unfold aU;rw[if_pos (by omega)]);go_wp2;go_ret;exact⟨aX j.out.symm,b⟩
 by_cases H:64<a.en
 .have j:Hid (aU a=3):=ae (by unfold aU;rw[if_pos (by omega)]);go_wp2;go_ret;exact⟨aX j.out.symm,b⟩
 by_cases G:a.en<=a.fr
 .have j:Hid (aU a=3):=ae (by unfold aU;rw[if_pos (by omega)]);go_wp2;go_ret;exact⟨aX j.out.symm,b⟩
 by_cases F:a.fi < -1
 .have j:Hid (aU a=3):=ae (by unfold aU;rw[if_pos (by omega)]);go_wp2;go_ret;exact⟨aX j.out.symm,b⟩
 by_cases E:4<a.fi
 .have j:Hid (aU a=3):=ae (by unfold aU;rw[if_pos (by omega)]);go_wp2;go_ret;exact⟨aX j.out.symm,b⟩
 by_cases D:a.ba<0
 .have j:Hid (aU a=3):=ae (by unfold aU;rw[if_pos (by omega)]);go_wp2;go_ret;exact⟨aX j.out.symm,b⟩
 have c:¬(a.fr<0\/a.en<=a.fr\/64<a.en\/a.fi < -1\/5<=a.fi\/a.ba<0):=by omega
 have h:IntKind.i64.wrap (a.en-a.fr)=a.en-a.fr:=bI _ (by omega);have g:IntKind.i64.wrap (12-(a.en-a.fr))=12-(a.en-a.fr):=bI _ (by omega)
 by_cases n:a.fi = -1
 .have u : (a.fi == -1)=true:=by simpa using n
  by_cases s:a.ba=0
  .have z : ¬0<a.ba:=by omega
   cases f3:a.sh
   .have j:Hid (aU a=0):=ae (by unfold aU;rw[if_neg c,if_neg (by rw[f3];simp;omega)]);have J:¬0<=a.fi:=by omega
    clear c n s;rw[f3]at d;go_wp2;go_ret;exact⟨aX j.out.symm,b⟩
   have j:Hid (aU a=7):=ae (by unfold aU;rw[if_neg c,if_pos (.inl ⟨by omega,.inr f3⟩)]);clear c n s;rw[f3]at d;go_wp2;go_ret;exact⟨aX j.out.symm,b⟩
  have j:Hid (aU a=7):=ae (by unfold aU;rw[if_neg c,if_pos (.inl ⟨by omega,.inl s⟩)]);have z : 0<a.ba:=by omega
  clear c n s;go_wp2;go_ret;exact⟨aX j.out.symm,b⟩
 have u : 0<=a.fi:=by omega
 have C : (a.fi == -1)=false:=by simpa using n
 by_cases s:12-(a.en-a.fr)<a.ba
 .have j:Hid (aU a=7):=ae (by unfold aU;rw[if_neg c,if_pos (.inr ⟨u,s⟩)]);clear c n;go_wp2;go_ret;exact⟨aX j.out.symm,b⟩
 have j:Hid (aU a=0):=ae (by unfold aU;rw[if_neg c,if_neg (by omega)]);clear c n;go_wp2;go_ret;exact⟨aX j.out.symm,b⟩
theorem XV(p q:Pg)(b:Bool)(h:(p==q)=b)(W:World):(Op.equalIn 10000 80 (.agg #[.bool true,.bool p.rd,.bool p.wr,.bool p.sh,.int .i64 p.fi,.int .i64 p.pg]) (.agg #[.bool true,.bool q.rd,.bool q.wr,.bool q.sh,.int .i64 q.fi,.int .i64 q.pg])).run Tryz.prog W = .ok b W:=by
 rw[<-h,Xr]
 by_cases d:p.rd=q.rd
 .by_cases f:p.wr=q.wr
  .by_cases j:p.sh=q.sh
   .by_cases n:(p.fi==q.fi)=true
    .by_cases s:p.pg=q.pg<;>simp[go_sem,d,f,j,n,s]
    .simp[go_sem,d,f,j,n]
   .simp[go_sem,d,f,j]
  .simp[go_sem,d,f]
 .simp[go_sem,d]
theorem Xm(q:Pg)(x:Int)(W:World):(Op.equalIn 10000 80 (.agg #[.bool false,.bool false,.bool false,.bool false,.int .i64 0,.int .i64 x]) (.agg #[.bool true,.bool q.rd,.bool q.wr,.bool q.sh,.int .i64 q.fi,.int .i64 q.pg])).run Tryz.prog W = .ok false W:=by
 simp[go_sem]
theorem OC(f:Nat->Option Pg)(k:Nat)(d:k<64):(fC f).extract (k*6) (k*6+6)=wW (f k):=by
 apply mI;intro i
 by_cases j:i<6
 .rw[Array.getElem?_extract,if_pos (by rw[kF];omega)];have:=jZ qU 6 oM (OG f) k (by rw[yF];exact d) i j;have e:(fC f)[k*6+i]?=((OG f).flatMap qU)[k*6+i]?:=by simp[fC,OE]
  have n:(OG f)[k]'(by rw[yF];exact d)=f k:=by simp[OG]
  rw[e,this,n];simp[qU]
 .rw[mP (by simp;omega),mP (by simp[wW];omega)]
theorem Ay(f:Nat->Option Pg)(k j:Nat)(d:k<64)(u:Value)(h:(qU (f k))[j]?=some u)(n:j<6):(fC f)[k*6+j]?=some u:=by
 have:=jZ qU 6 oM (OG f) k (by rw[yF];exact d) j n;have e:(fC f)[k*6+j]?=((OG f).flatMap qU)[k*6+j]?:=by simp[fC,OE]
 have s:(OG f)[k]'(by rw[yF];exact d)=f k:=by simp[OG]
 rw[e,this,s];exact h
theorem xX(f:Nat->Option Pg)(k:Nat)(d:k<64)(o:Option Pg)(j:f k=o)(w:World):(Instr.index 81 (.agg (fC f)) (.int .i64 k)).run Tryz.prog w = .ok (.agg (wW o)) w:=
 xM underlying81 underlying80 rfl one_size _ k _ d (by rw[<-j];exact OC f k d) _ w
theorem wL{a:Act}(z:o.guard=none)(t t' : TypeId)(x y:Operand)(u:o.op = .binOp .eql t x y t')(f d:Value)(n:a.eval x=f)(j:a.eval y=d)(B:Bool)
 (s:(do eqGuard .eql t x y f d;binOp .eql t f d:Sem Value).run P w = .ok (.bool B) w) (h:wpList P ops Q rest (a.put o.dst (.bool B)) w):wpList P ops Q (o::rest) a w:=
 wpList_plain z λK C=>by unfold Oper.wp;rw[qz u n j s];exact C _ _ h
theorem Tq(p q:Pg)(b:Bool)(h:(p==q)=b)(x y:Operand)(W:World):(do eqGuard .eql 80 x y (.agg #[.bool true,.bool p.rd,.bool p.wr,.bool p.sh,.int .i64 p.fi,.int .i64 p.pg]) (.agg #[.bool true,.bool q.rd,.bool q.wr,.bool q.sh,.int .i64 q.fi,.int .i64 q.pg]);binOp .eql 80 (.agg #[.bool true,.bool p.rd,.bool p.wr,.bool p.sh,.int .i64 p.fi,.int .i64 p.pg]) (.agg #[.bool true,.bool q.rd,.bool q.wr,.bool q.sh,.int .i64 q.fi,.int .i64 q.pg]):Sem Value).run Tryz.prog W = .ok (.bool b) W:=by
 have d:=XV p q b h;simp[go_sem,d]
theorem Ov(q:Pg)(z:Int)(x y:Operand)(W:World):(do eqGuard .eql 80 x y (.agg #[.bool false,.bool false,.bool false,.bool false,.int .i64 0,.int .i64 z]) (.agg #[.bool true,.bool q.rd,.bool q.wr,.bool q.sh,.int .i64 q.fi,.int .i64 q.pg]);binOp .eql 80 (.agg #[.bool false,.bool false,.bool false,.bool false,.int .i64 0,.int .i64 z]) (.agg #[.bool true,.bool q.rd,.bool q.wr,.bool q.sh,.int .i64 q.fi,.int .i64 q.pg]):Sem Value).run Tryz.prog W = .ok (.bool false) W:=by
 have d:=Xm q z;simp[go_sem,d]
theorem Ci(f:Nat->Option Pg)(w:World)(hf:∀i p,f i=some p->0<=p.pg/\p.pg<=100) :
  Calls Tryz.prog 144 #[.agg (fC f)] w λr w' => ∃v,r = .returned v/\Own w' w.heap.size 94 7 v (lX f 64).length ((lX f 64).flatMap mX)/\Below w.heap.size w w':=by
 have hM:=ae (kF f);go_enter func144,ntmps144;go_upto_region 1 with(fail);refine iG (λW=>Code.wp _ _ _ _ W) λW0 h7 hJ hv => ?_;clear hv;go_upto_region 3 with(refine ay _ _ rfl _ 0 rfl rfl _ hJ.rd _ underlying81 rfl (by rw[jm,hM.out];exact ones_size) ?_)
 go_loopw [9,3] (fun i u wr => ∃k:Nat,k<=64/\i = .int .i64 k/\Below w.heap.size w wr/\aG wr w.heap.size (fC f) 81/\Own wr w.heap.size 94 7 u (lX f k).length ((lX f k).flatMap mX)) (fun i _ _=>64-(intOf i).toNat)
 case atStart=>exact⟨0,bq _,rfl,h7,hJ,by simpa[lX]using Own.nil _ _ _ _⟩
 case round=>
  clear h7 hJ;obtain⟨k,hk,rfl,a,o,b⟩:=hrel
  by_cases hlt:k<64
  .have kf:(k:Int)<64:=by omega
   have ki:=IG f k;cases hfk:f k with
   | none=>
    have hQ:=xX f k hlt none hfk;unfold wW oR oW oH oF oP at hQ;have E:=ae (TT hfk);go_upto_region 5 with (fail);refine iG (λW=>Code.wp _ _ _ _ W) λW1 U N hO => ?_;have G:=N.cell;have hW:=ag a U;have h6:=o.ext U;have hA:=b.below U;clear hO U a o b;rw[<-E.out] at hA;go_wp2;go_roundw
    case rel=>exact⟨k+1,by omega,by go_num,hW,h6,hA⟩
    case measure=>simp[intOf];omega
   | some p=>
    have hQ:=xX f k hlt (some p) hfk;unfold wW oR oW oH oF oP at hQ;go_upto_region 5 with(fail);refine iG (λW=>Code.wp _ _ _ _ W) λW1 U N hO => ?_;have a:=ag a U;have o:=o.ext U;have b:=b.below U;clear hO U;obtain⟨gx,h5⟩:∃g,g=wr.heap.size:=⟨_,rfl⟩;rw[<-h5]at N ⊢;clear h5;generalize hacc:lX f k=acc at *
    obtain⟨au,cu,rfl,_⟩:=b.rd;have G:=N.cell;have kh:IntKind.i64.wrap ((k:Int)+1)=(k:Int)+1:=bI _ (by omega)
    by_cases hk0:k=0
    .have hv:nD f k p=false:=by rw[hk0];rfl
     have E:Hid (lX f (k+1)=acc++[gD k p]):=ae (by rw[DL hfk hv,hacc]);have h4:¬(0:Int)<(k:Int):=by omega
     have h3:¬0<k:=by omega
     clear hk0 hv hfk hacc;go_upto_region 14 with(fail)
     go_wp2_with (at_builtin;refine fT rfl _ _ 71 rfl w.heap.size 94 _ 7 40 underlying71 area_info rfl (by decide) _ acc.length (acc.flatMap mX) rfl (b.alloc _) (some ⟨W1.heap.size,0,none⟩) 1 1 (mX (gD k p)) rfl (λh=>(by cases h)) (az _) rfl (eB.new _ (ky (gD k p)) _) (λu R=>sO [gD k p] u (by simpa using R)) (by unfold maxLen;omega) (by omega) (dI a.size _) ?_)
     intro v D d l;have t:Below w.heap.size w D:=(a.alloc a.size _).grown l (dI a.size _) (b.alloc (.cells (ky (gD k p)) 94)).ge;have x:aG D w.heap.size (fC f) 81:=lw (o.alloc (.cells (ky (gD k p)) 94)) (b.alloc (.cells (ky (gD k p)) 94)) (by decide) l;have s:Own D w.heap.size 94 7 v (lX f (k+1)).length ((lX f (k+1)).flatMap mX):=by rw[E.out,fI,jk];simpa using d
     clear d l;go_wp2;go_roundw
     case rel=>exact⟨k+1,by omega,by go_num,t,x,s⟩
     case measure=>simp[intOf];omega
    obtain⟨m,hm⟩:∃m,k=m+1:=⟨k-1,by omega⟩;have h4:(0:Int)<(k:Int):=by omega
    have h3:0<k:=by omega
    have kg:IntKind.i64.wrap ((k:Int)-1)=(m:Int):=by rw[bI _ (by omega)];omega
    have h1:m<64:=by omega
    have kb:(m:Int)<64:=by omega
    have hH:∀z,nD f k z=(match f m with | some q=>rC z q==z | none=>false):=λz=>by subst hm;rfl
    have c:∀j u,(qU (f m))[j]?=some u->j<6->W1.cell? ⟨w.heap.size,m*6+j,none⟩=some u:=λj u h hj=>by rw[o.cell];exact Ay f m j h1 u h hj
    have h0:=ae hm;clear hm hk0;cases hfm:f m with
    | none=>
     have hv:nD f k p=false:=by rw[hH,hfm]
     have E:Hid (lX f (k+1)=acc++[gD k p]):=ae (by rw[DL hfk hv,hacc]);rw[hfm]at c;have d0:=c 0 _ rfl (by decide);have d1:=c 1 _ rfl (by decide);have d2:=c 2 _ rfl (by decide);have d3:=c 3 _ rfl (by decide);have d4:=c 4 _ rfl (by decide);have d5:=c 5 _ rfl (by decide);simp only[iP,Option.isSome,oR,oW,oH,oF,oP]at d0 d1 d2 d3 d4 d5;clear hH c hv hfk hacc;have hZ:IntKind.i64.wrap (0+1)=1:=by rw[bI _ (by omega)];try rfl
     go_upto_region 9 with(fail);refine iG (λW=>Code.wp _ _ _ _ W) λW2 I F hN => ?_;have a:=ag a I;have Z:=o.ext I;have y:=b.below I;have J:=N.ext I;have hD:gx<W1.heap.size:=N.lt;have hR:w.heap.size<W1.heap.size:=o.lt;have hS:=a.size;clear hN I o b N G d0 d1 d2 d3 d4 d5;have G:=J.cell
     by_cases Y:0<=p.fi
     .obtain⟨gy,hs⟩:∃g,g=W1.heap.size:=⟨_,rfl⟩;rw[<-hs]at F hD hR ⊢;clear hs;have hU:=F.cell;go_upto_region 11 with(refine aB rfl _ _ _ rfl gy 5 (.int .i64 (1)) [.int .i64 (1)] rfl rfl rfl _ _ F (by simp) int_size (by simp[Value.oneCell']) ?_);intro H hy K;have hx:aG H gy #[.bool false,.bool (false),.bool (false),.bool (false),.int .i64 (0),.int .i64 (1)] 80:=hy;have a:=a.grown K a.size oG0;have ht:aG H w.heap.size (fC f) 81:=Z.grown K (λe=>by have:=aM e;omega);have hz:aG H gx #[.bool true,.bool p.rd,.bool p.wr,.bool p.sh,.int .i64 p.fi,.int .i64 p.pg] 80:=J.grown K (λe=>by have:=aM e;omega);have b:=ax y F (by decide) K;have o:=ht;clear F hy Z J y K G hU ht hS;have M:=Ov p 1;go_upto_region 12 with(first | (refine ay _ _ rfl _ 0 rfl rfl _ hx.rd _ underlying80 rfl one_size ?_) | (refine ay _ _ rfl _ 0 rfl rfl _ hz.rd _ underlying80 rfl one_size ?_) | (refine wL rfl _ _ _ _ rfl _ _ rfl rfl _ (M _ _ _) ?_));clear M hx;have G:=hz.cell;go_upto_region 14 with(fail)
      go_wp2_with (at_builtin;refine fT rfl _ _ 71 rfl w.heap.size 94 _ 7 40 underlying71 area_info rfl (by decide) _ acc.length (acc.flatMap mX) rfl (b.alloc _) (some ⟨H.heap.size,0,none⟩) 1 1 (mX (gD k p)) rfl (λh=>(by cases h)) (az _) rfl (eB.new _ (ky (gD k p)) _) (λu R=>sO [gD k p] u (by simpa using R)) (by unfold maxLen;omega) (by omega) (dI a.size _) ?_)
      intro v D d l;have t:Below w.heap.size w D:=(a.alloc a.size _).grown l (dI a.size _) (b.alloc (.cells (ky (gD k p)) 94)).ge;have x:aG D w.heap.size (fC f) 81:=lw (o.alloc (.cells (ky (gD k p)) 94)) (b.alloc (.cells (ky (gD k p)) 94)) (by decide) l;have s:Own D w.heap.size 94 7 v (lX f (k+1)).length ((lX f (k+1)).flatMap mX):=by rw[E.out,fI,jk];simpa using d
      clear d l;go_wp2;go_roundw
      case rel=>exact⟨k+1,by omega,by go_num,t,x,s⟩
      case measure=>simp[intOf];omega
     have o:=Z;have b:=y;clear Z y;have hI : ¬0<=p.fi:=Y;have M:=Ov p 0;go_upto_region 12 with(first | (refine ay _ _ rfl _ 0 rfl rfl _ F.rd _ underlying80 rfl one_size ?_) | (refine ay _ _ rfl _ 0 rfl rfl _ J.rd _ underlying80 rfl one_size ?_) | (refine wL rfl _ _ _ _ rfl _ _ rfl rfl _ (M _ _ _) ?_));clear M F;have G:=J.cell;go_upto_region 14 with(fail)
     go_wp2_with (at_builtin;refine fT rfl _ _ 71 rfl w.heap.size 94 _ 7 40 underlying71 area_info rfl (by decide) _ acc.length (acc.flatMap mX) rfl (b.alloc _) (some ⟨W2.heap.size,0,none⟩) 1 1 (mX (gD k p)) rfl (λh=>(by cases h)) (az _) rfl (eB.new _ (ky (gD k p)) _) (λu R=>sO [gD k p] u (by simpa using R)) (by unfold maxLen;omega) (by omega) (dI a.size _) ?_)
     intro v D d l;have t:Below w.heap.size w D:=(a.alloc a.size _).grown l (dI a.size _) (b.alloc (.cells (ky (gD k p)) 94)).ge;have x:aG D w.heap.size (fC f) 81:=lw (o.alloc (.cells (ky (gD k p)) 94)) (b.alloc (.cells (ky (gD k p)) 94)) (by decide) l;have s:Own D w.heap.size 94 7 v (lX f (k+1)).length ((lX f (k+1)).flatMap mX):=by rw[E.out,fI,jk];simpa using d
     clear d l;go_wp2;go_roundw
     case rel=>exact⟨k+1,by omega,by go_num,t,x,s⟩
     case measure=>simp[intOf];omega
    | some q=>
     have kj:=hf m q hfm;have hi:=hH p;rw[hfm]at hi c;simp only[]at hi;have d0:=c 0 _ rfl (by decide);have d1:=c 1 _ rfl (by decide);have d2:=c 2 _ rfl (by decide);have d3:=c 3 _ rfl (by decide);have d4:=c 4 _ rfl (by decide);have d5:=c 5 _ rfl (by decide);simp only[iP,Option.isSome,oR,oW,oH,oF,oP]at d0 d1 d2 d3 d4 d5;generalize hBe:(rC p q==p)=B at hi;have hw:=ae hi;clear hH c hi;have kd:0<=p.fi->((⟨q.rd,q.wr,q.sh,q.fi,q.pg+1⟩:Pg)==p)=B:=λh=>by rw[<-hBe];unfold rC;rw[if_pos h]
     have ke:¬0<=p.fi->(q==p)=B:=λh=>by rw[<-hBe];unfold rC;rw[if_neg h]
     clear hBe;have hZ:IntKind.i64.wrap (q.pg+1)=(q.pg+1):=by rw[bI _ (by omega)];try rfl
     go_upto_region 9 with(fail);refine iG (λW=>Code.wp _ _ _ _ W) λW2 I F hN => ?_;have a:=ag a I;have Z:=o.ext I;have y:=b.below I;have J:=N.ext I;have hD:gx<W1.heap.size:=N.lt;have hR:w.heap.size<W1.heap.size:=o.lt;have hS:=a.size;clear hN I o b N G d0 d1 d2 d3 d4 d5;have G:=J.cell
     by_cases Y:0<=p.fi
     .obtain⟨gy,hs⟩:∃g,g=W1.heap.size:=⟨_,rfl⟩;rw[<-hs]at F hD hR ⊢;clear hs;have hU:=F.cell;go_upto_region 11 with(refine aB rfl _ _ _ rfl gy 5 (.int .i64 ((q.pg+1))) [.int .i64 ((q.pg+1))] rfl rfl rfl _ _ F (by simp) int_size (by simp[Value.oneCell']) ?_);intro H hy K;have hx:aG H gy #[.bool true,.bool (q.rd),.bool (q.wr),.bool (q.sh),.int .i64 (q.fi),.int .i64 ((q.pg+1))] 80:=hy;have a:=a.grown K a.size oG0;have ht:aG H w.heap.size (fC f) 81:=Z.grown K (λe=>by have:=aM e;omega);have hz:aG H gx #[.bool true,.bool p.rd,.bool p.wr,.bool p.sh,.int .i64 p.fi,.int .i64 p.pg] 80:=J.grown K (λe=>by have:=aM e;omega);have b:=ax y F (by decide) K;have o:=ht;clear F hy Z J y K G hU ht hS;have M:=Tq ⟨q.rd,q.wr,q.sh,q.fi,q.pg+1⟩ p B (kd Y);go_upto_region 12 with(first | (refine ay _ _ rfl _ 0 rfl rfl _ hx.rd _ underlying80 rfl one_size ?_) | (refine ay _ _ rfl _ 0 rfl rfl _ hz.rd _ underlying80 rfl one_size ?_) | (refine wL rfl _ _ _ _ rfl _ _ rfl rfl _ (M _ _ _) ?_));clear M hx;have G:=hz.cell
      by_cases hB:B=true
      .subst hB;have E:=ae (UD hfk hw.out);rw[hacc]at E;have ka:0<acc.length:=by have:=TB f hfm;rw[<-h0.out,hacc]at this;exact this
       obtain⟨n,hC⟩:∃n,acc.length=n+1:=⟨acc.length-1,by omega⟩;have hP:n<acc.length:=by omega
       have hL:Hid (xg acc ((k:Int)+1)=acc.set n { acc[n]with en:=(k:Int)+1 }):=ae (Lm hC _);have h9:(n:Int)<(acc.length:Int):=by omega
       have h8:IntKind.i64.wrap ((acc.length:Int)-1)=(n:Int):=by rw[bI _ (by omega)];omega
       obtain⟨g,C,cap1,hK,hX,kc,⟨csg,V⟩,hF,hT,hr⟩:=zY rW (by decide) rfl b n hP 1 (by decide) (.int .i64 ((k:Int)+1)) { acc[n]with en:=(k:Int)+1 } rfl;cases hK;have hV:=hF 1 _ rfl;have hG:w.heap.size≠g:=by intro e;subst e;unfold aG at o V;rw[o]at V;simp at V
       clear hF hC hfk hacc hfm;go_upto_region 15 with(fail);have t:Below w.heap.size w (H.setCell ⟨g,C+n*7+1,none⟩ (.int .i64 ((k:Int)+1))):=a.setCell hX _;have x:aG (H.setCell ⟨g,C+n*7+1,none⟩ (.int .i64 ((k:Int)+1))) w.heap.size (fC f) 81:=o.setCell_other _ _ (by simpa using hG);have s:Own (H.setCell ⟨g,C+n*7+1,none⟩ (.int .i64 ((k:Int)+1))) w.heap.size 94 7 (.slice (some ⟨g,C,none⟩) acc.length cu) (lX f (k+1)).length ((lX f (k+1)).flatMap mX):=by rw[E.out,hL.out,bL];exact hr
       clear hr b a o hT hV V G;go_wp2;go_roundw
       case rel=>exact⟨k+1,by omega,by go_num,t,x,s⟩
       case measure=>simp[intOf];omega
      have hY:B=false:=by simpa using hB
      subst hY;have E:Hid (lX f (k+1)=acc++[gD k p]):=ae (by rw[DL hfk hw.out,hacc]);clear hfk hacc hfm hB;go_upto_region 14 with(fail)
      go_wp2_with (at_builtin;refine fT rfl _ _ 71 rfl w.heap.size 94 _ 7 40 underlying71 area_info rfl (by decide) _ acc.length (acc.flatMap mX) rfl (b.alloc _) (some ⟨H.heap.size,0,none⟩) 1 1 (mX (gD k p)) rfl (λh=>(by cases h)) (az _) rfl (eB.new _ (ky (gD k p)) _) (λu R=>sO [gD k p] u (by simpa using R)) (by unfold maxLen;omega) (by omega) (dI a.size _) ?_)
      intro v D d l;have t:Below w.heap.size w D:=(a.alloc a.size _).grown l (dI a.size _) (b.alloc (.cells (ky (gD k p)) 94)).ge;have x:aG D w.heap.size (fC f) 81:=lw (o.alloc (.cells (ky (gD k p)) 94)) (b.alloc (.cells (ky (gD k p)) 94)) (by decide) l;have s:Own D w.heap.size 94 7 v (lX f (k+1)).length ((lX f (k+1)).flatMap mX):=by rw[E.out,fI,jk];simpa using d
      clear d l;go_wp2;go_roundw
      case rel=>exact⟨k+1,by omega,by go_num,t,x,s⟩
      case measure=>simp[intOf];omega
     have o:=Z;have b:=y;clear Z y;have hI : ¬0<=p.fi:=Y;have M:=Tq q p B (ke hI);go_upto_region 12 with(first | (refine ay _ _ rfl _ 0 rfl rfl _ F.rd _ underlying80 rfl one_size ?_) | (refine ay _ _ rfl _ 0 rfl rfl _ J.rd _ underlying80 rfl one_size ?_) | (refine wL rfl _ _ _ _ rfl _ _ rfl rfl _ (M _ _ _) ?_));clear M F;have G:=J.cell
     by_cases hB:B=true
     .subst hB;have E:=ae (UD hfk hw.out);rw[hacc]at E;have ka:0<acc.length:=by have:=TB f hfm;rw[<-h0.out,hacc]at this;exact this
      obtain⟨n,hC⟩:∃n,acc.length=n+1:=⟨acc.length-1,by omega⟩;have hP:n<acc.length:=by omega
      have hL:Hid (xg acc ((k:Int)+1)=acc.set n { acc[n]with en:=(k:Int)+1 }):=ae (Lm hC _);have h9:(n:Int)<(acc.length:Int):=by omega
      have h8:IntKind.i64.wrap ((acc.length:Int)-1)=(n:Int):=by rw[bI _ (by omega)];omega
      obtain⟨g,C,cap1,hK,hX,kc,⟨csg,V⟩,hF,hT,hr⟩:=zY rW (by decide) rfl b n hP 1 (by decide) (.int .i64 ((k:Int)+1)) { acc[n]with en:=(k:Int)+1 } rfl;cases hK;have hV:=hF 1 _ rfl;have hG:w.heap.size≠g:=by intro e;subst e;unfold aG at o V;rw[o]at V;simp at V
      clear hF hC hfk hacc hfm;go_upto_region 15 with(fail);have t:Below w.heap.size w (W2.setCell ⟨g,C+n*7+1,none⟩ (.int .i64 ((k:Int)+1))):=a.setCell hX _;have x:aG (W2.setCell ⟨g,C+n*7+1,none⟩ (.int .i64 ((k:Int)+1))) w.heap.size (fC f) 81:=o.setCell_other _ _ (by simpa using hG);have s:Own (W2.setCell ⟨g,C+n*7+1,none⟩ (.int .i64 ((k:Int)+1))) w.heap.size 94 7 (.slice (some ⟨g,C,none⟩) acc.length cu) (lX f (k+1)).length ((lX f (k+1)).flatMap mX):=by rw[E.out,hL.out,bL];exact hr
      clear hr b a o hT hV V G;go_wp2;go_roundw
      case rel=>exact⟨k+1,by omega,by go_num,t,x,s⟩
      case measure=>simp[intOf];omega
     have hY:B=false:=by simpa using hB
     subst hY;have E:Hid (lX f (k+1)=acc++[gD k p]):=ae (by rw[DL hfk hw.out,hacc]);clear hfk hacc hfm hB;go_upto_region 14 with(fail)
     go_wp2_with (at_builtin;refine fT rfl _ _ 71 rfl w.heap.size 94 _ 7 40 underlying71 area_info rfl (by decide) _ acc.length (acc.flatMap mX) rfl (b.alloc _) (some ⟨W2.heap.size,0,none⟩) 1 1 (mX (gD k p)) rfl (λh=>(by cases h)) (az _) rfl (eB.new _ (ky (gD k p)) _) (λu R=>sO [gD k p] u (by simpa using R)) (by unfold maxLen;omega) (by omega) (dI a.size _) ?_)
     intro v D d l;have t:Below w.heap.size w D:=(a.alloc a.size _).grown l (dI a.size _) (b.alloc (.cells (ky (gD k p)) 94)).ge;have x:aG D w.heap.size (fC f) 81:=lw (o.alloc (.cells (ky (gD k p)) 94)) (b.alloc (.cells (ky (gD k p)) 94)) (by decide) l;have s:Own D w.heap.size 94 7 v (lX f (k+1)).length ((lX f (k+1)).flatMap mX):=by rw[E.out,fI,jk];simpa using d
     clear d l;go_wp2;go_roundw
     case rel=>exact⟨k+1,by omega,by go_num,t,x,s⟩
     case measure=>simp[intOf];omega
  have h2:k=64:=by omega
  subst h2;go_wp2;go_ret;exact⟨_,rfl,b,a⟩
theorem UZ(f:Nat->Option Pg)(m:List Ar)(s:okF none m)(u:∀i:Nat,i<64->f i=onA m i)(hf' : ∀i p,f i=some p->0<=p.pg/\p.pg<=100)(w:World) :
  Calls Tryz.prog 122 #[.agg (fC f)] w λr w' => ∃v,r = .returned (.tuple #[v,.int .i64 (Ex m.length)])/\Own w' w.heap.size 94 7 v (if 16<m.length then[]else m).length ((if 16<m.length then[]else m).flatMap mX)/\Below w.heap.size w w':=by
 have c:=ae (kF f);have g:=IG f 64;rw[NG s u]at g;go_enter func122,ntmps122;go_upto_region 1 with(fail);refine iG (λW=>Code.wp _ _ _ _ W) λW0 d e k => ?_;clear k
 go_wp2_with (refine ay _ _ rfl _ 0 rfl rfl _ e.rd _ underlying81 rfl (by rw[jm,c.out];exact ones_size) ?_)
 refine(Ci f _ hf').mono ?_;rintro r w1 ⟨E,rfl,a,j⟩;rw[NG s u]at a;have b:=ag d j;replace a:=a.mono d.size;obtain⟨D,C,rfl,_⟩:=a.rd;clear d e j
 by_cases h:16<m.length
 .have z:(16:Int)<(m.length:Int):=by omega
  have n:Hid (Ex m.length=4):=ae (by unfold Ex;rw[if_pos h]);go_wp2;go_ret2;exact⟨.slice none 0 0,by first | (rw[n.out];done) | (rw[n.out];rfl),by first | exact Own.nil _ _ _ _ | (rw[if_pos h];exact Own.nil _ _ _ _),b⟩
 have z:¬(16:Int)<(m.length:Int):=by omega
 have n:Hid (Ex m.length=0):=ae (by unfold Ex;rw[if_neg h]);go_wp2;go_ret2;exact⟨.slice D m.length C,by first | (rw[n.out];done) | (rw[n.out];rfl),by first | exact a | (rw[if_neg h];exact a),b⟩
theorem za{l:Operand}{n:Nat}(u:o.op = .slice t x (some l) (some h) none)(s:ρ x = .slice (some ⟨b,off,none⟩) n c)(z:ρ l = .int .i64 O)(C:ρ h = .int .i64 ((O:Int)+2))
 (d:P.underlying t=some (.slice (P.elem t))) (f:(P.info? (P.elem t)).map (·.size)=some sz) (G:O+1<n) (F:n<=c) :
  (execOp ρ o).run P w = .ok (.value (.slice (some ⟨b,off+O*sz,none⟩) 2 (c-O))) w:=by
 have a:(Go.sizeOf (P.elem t)).run P w = .ok sz w:=by
  cases hq:P.info? (P.elem t)with
  | none=>simp[hq]at f
  | some i=>
   have j:i.size=sz:=by simpa[hq]using f
   simp[Go.sizeOf,typeInfo,run_program,hq,j]
 unfold execOp;simp only[u,s,z,C,Option.map];rw[kY,run_sliceAt_slice w t _ _ _ _ d,run_slice_lh w t _ n c d .i64 .i64 O (O+2) (by omega) (by omega) (by omega),a];have E:((O:Int)+2).toNat-(O:Int).toNat=2:=by omega
 have D:((O:Int)+2).toNat-O=2:=by omega
 simp[sliced,E,D,Addr.add,show ¬c=O by omega,go_sem]
theorem WQ{l:List Ar}(h:eB w (some ⟨b,off,none⟩) (l.flatMap mX)){m:Nat}(f:m+1<l.length):eB w (some ⟨b,off+m*7,none⟩) ([l[m],l[m+1]].flatMap mX):=by
 have n:=EG h m (by omega);have h2:=EG h (m+1) f;intro j u d;refine⟨b,off+m*7,rfl,?_⟩;simp only[nX,List.flatMap_nil,oZ]at d
 by_cases c:j<7
 .rw[kK (by rw[rW];exact c)]at d;exact n j u d
 rw[jU (by rw[rW];omega),rW]at d;have:=h2 _ u d;rwa [show off+(m+1)*7+(j-7)=off+m*7+j by omega]at this
theorem EU(l:List Ar)(a:Option Addr)(c:Nat)(w:World)(h:XA w a c l) :
  Calls Tryz.prog 100 #[.slice a l.length c] w λe w'=>e = .returned (.agg (Kj (bP l)))/\Below w.heap.size w w':=by
 have hV:=h.le;have h2:=bi h.le h.mx;unfold maxLen at h2;have hE:=h.rd;go_enter func100,ntmps100;go_upto_region 1 with(fail);refine iG (λW=>Code.wp _ _ _ _ W) λW0 d n h1 => ?_;clear h1
 by_cases h16:16<l.length
 .have hX : (16:Int)<(l.length:Int):=by omega
  have K:Hid (bP l=(4,0)):=ae (by unfold bP;rw[if_pos h16])
  go_wp2_with (refine aA rfl _ _ _ rfl w.heap.size #[.int .i64 (4),.int .i64 (0)] rfl rfl _ _ n rfl fau_size (nO _ _) ?_)
  intro J M q;have p:Below w.heap.size w J:=d.grown q d.size (λk I=>by cases I;exact az _);go_wp2;refine bodyPost_ret (v:=.agg #[.int .i64 (4),.int .i64 (0)]) (fG results100 _ _ w.heap.size _ _ _ rfl M underlying180 rfl fau_size) rfl ?_;exact⟨by rw[K.out];rfl,p⟩
 have hX : ¬(16:Int)<(l.length:Int):=by omega
 have h0:Hid (bP l=jQ (qM l 0) 0 (l.drop 0)):=ae (by unfold bP;rw[if_neg h16];rfl);go_upto_region 4 with(fail)
 go_loopw [12] (fun i wr => ∃k:Nat,k<=l.length/\i = .int .i64 k/\Below w.heap.size w wr/\aG wr w.heap.size #[.int .i64 0,.int .i64 0] 180/\(∀i (h:i<l.length),i<k->aU l[i]=0)/\Hid (bP l=jQ (qM l k) k (l.drop k))) (fun i _=>l.length-(intOf i).toNat)
 case atStart=>exact⟨0,bq _,rfl,d,n,λi _ h=>absurd h (fq _),h0⟩
 case round=>
  clear d n h0;obtain⟨k,I,rfl,d,n,hU,V⟩:=hrel;have hp:=ae hU;clear hU
  by_cases E:k<l.length
  .obtain⟨b,off,rfl,c0,c1,c2,c3,c4,c5,c6⟩:=NZ (hE.below d) k E;have h6:(k:Int)<(l.length:Int):=by omega
   go_upto_region 6 with(fail);refine iG (λW=>Code.wp _ _ _ _ W) λW1 u hA hZ => ?_;have d:=ag d u;have n:=n.ext u;clear hZ u c0 c1 c2 c3 c4 c5 c6;obtain⟨gx,hW⟩:∃g,g=wr.heap.size:=⟨_,rfl⟩;rw[<-hW]at hA ⊢;clear hW
   go_wp2_with (refine ay _ _ rfl _ 0 rfl rfl _ hA.rd _ underlying94 rfl area_size ?_)
   refine(Ih l[k] _).mono ?_;rintro r w2 ⟨rfl,hB⟩;have j:=ag d hB;have o:=n.ext hB;have hD:=hA.ext hB;clear d n hB hA
   by_cases Y:aU l[k]=0
   .have z:=ae Y;rw[Y];clear Y;go_upto_region 9 with(fail)
    by_cases hk0:k=0
    .subst hk0;have h8:decide ((0:Int)<((0:Nat):Int))=false:=rfl;have hG:Hid (bP l=jQ (qM l (0+1)) (0+1) (l.drop (0+1))):=ae (by rw[V.out];exact wI E z.out rfl);go_quiet (fail);go_wp2;go_roundw
     case rel=>exact⟨0+1,by omega,by go_num,below_drewN j _,o.drewN _,mM hp.out E z.out,hG⟩
     case measure=>simp[intOf];omega
    obtain⟨m,rfl⟩:∃m,k=m+1:=⟨k-1,by omega⟩;have R:IntKind.i64.wrap (((m+1:Nat):Int)-1)=(m:Int):=by rw[bI _ (by omega)];omega
    have hq:m<l.length:=by omega
    have U:IntKind.i64.wrap (m:Int)=(m:Int):=bI _ (by omega);have hI:IntKind.i64.wrap ((m:Int)+1+1)=(m:Int)+2:=by rw[bI _ (by omega)];omega
    have hH:IntKind.i64.wrap (((m+1:Nat):Int)+1)=(m:Int)+2:=by rw[bI _ (by omega)];omega
    have hJ:=ae (LM E);have hC:=hp.out m hq (by omega);have h4:=hE.below j;have hK:=EG h4 m hq;have hT:=WQ hE E;have hS:∀x∈[l[m],l[m+1]],aU x=0:=λx hx=>by
     rcases dx.1 hx with rfl|hx
     .exact hC
     .rw[bB.1 hx];exact z.out
    have hY:Hid (∀i (h:i<l.length),i<m+1+1->aU l[i]=0):=ae (mM hp.out E z.out);generalize hA1:l[m+1]=A1 at *
    generalize hA0:l[m]=A0 at *
    by_cases G:A1.fr<A0.en
    .have K:Hid (bP l=(2,((m+1:Nat):Int))):=ae (by rw[V.out];exact wo E (by rw[hA1];exact z.out) (by rw[hA1,hJ.out,decide_eq_true G];rfl));have hF:True:=trivial;have hm:True:=trivial;refine aV 25 [_,_,_,_,_,_,.v (.pointer (some ⟨b,off+m*7,none⟩)),_,.v (.int .i64 A0.en),_,.v (.int .i64 A1.fr),_,_,_,_,_,_,_,_,_,_,_,_,_,.v (.bool true)] (Gk rfl (Gb (.bool true) (by simp[go_sem]) rfl rfl rfl rfl rfl (Gk rfl (Gk rfl (Gk rfl (Gb (.int .i64 (m:Int)) (by simp[go_sem,R,U]) rfl rfl rfl rfl rfl (ah ?_ (Gf b (off+m*7+1) rfl rfl (ah ?_ (Gf gx 0 rfl rfl (ah ?_ (Gb (.bool true) (by simp[go_sem,G]) rfl rfl rfl rfl rfl (Gk rfl (Gk rfl (Gk rfl (Gk rfl (Gk rfl (Gk rfl (Gk rfl (Gk rfl (Gk rfl (Gk rfl (Gk rfl (Gk rfl (Gk rfl (aI)))))))))))))))))))))))))) (λ_=>rfl) rfl ?_
     .intro ρ y W f F D C;have Z:=f 27 3 rfl;have h3:y 3=_:=C 3 rfl;have hv:=f 29 5 rfl;have h5:y 5=_:=C 5 rfl;refine ak (.pointer (some ⟨b,off+m*7,none⟩)) (bG 2 26 true true rfl rfl ((f 26 2 rfl).trans (C 2 rfl))) (by simp[execOp,go_sem,Z,h3,hv,h5,hq]) rfl
     .intro ρ y W f F D C;have hu:=f 31 7 rfl;have h7:y 7=_:=C 7 rfl;have s:=(hK.below D).cells.2.1;refine ak (.int .i64 A0.en) (bG 2 26 true true rfl rfl ((f 26 2 rfl).trans (C 2 rfl))) (by simp[execOp,go_sem,hu,h7,s]) rfl
     .intro ρ y W f F D C;have ht:=f 33 9 rfl;have h9:y 9=_:=C 9 rfl;have s:=(hD.ext D).cell 0;simp at s;refine ak (.int .i64 A1.fr) (bG 2 26 true true rfl rfl ((f 26 2 rfl).trans (C 2 rfl))) (by simp[execOp,go_sem,ht,h9,s]) rfl
     intro y WA t _;have d:=ag j t;have n:=o.ext t;clear j o
     go_wp2_with (refine aA rfl _ _ _ rfl w.heap.size #[.int .i64 (2),.int .i64 (((m+1:Nat):Int))] rfl rfl _ _ n rfl fau_size (nO _ _) ?_)
     intro J M q;have p:Below w.heap.size w J:=d.grown q d.size (λk I=>by cases I;exact az _);go_wp2;refine bodyPost_ret (v:=.agg #[.int .i64 (2),.int .i64 (((m+1:Nat):Int))]) (fG results100 _ _ w.heap.size _ _ _ rfl M underlying180 rfl fau_size) rfl ?_;exact⟨by rw[K.out];rfl,p⟩
    have hs:srtF 0 [A0,A1]:=⟨hC,(bM hC).1.2.1.1,z.out,by omega,trivial⟩;have hF:=KG hs;have hg:=RY hC z.out (by omega:A0.en<=A1.fr);cases hj:dN A0 A1
    .have hm:(lX (cZ [A0,A1]) 64).length=2:=by rw[hg,hj];rfl
     have hG:Hid (bP l=jQ (qM l (m+1+1)) (m+1+1) (l.drop (m+1+1))):=ae (by rw[V.out];exact wI E (by rw[hA1];exact z.out) (by rw[hA1,hJ.out,decide_eq_false G,hj];rfl));clear hg hs;refine aV 25 [_,_,_,_,_,_,.v (.pointer (some ⟨b,off+m*7,none⟩)),_,.v (.int .i64 A0.en),_,.v (.int .i64 A1.fr),_,_,_,_,_,_,_,_,.v (.agg (fC (cZ [A0,A1]))),.r 20 ((nA w.heap.size 94 7 (lX (cZ [A0,A1]) 64).length ((lX (cZ [A0,A1]) 64).flatMap mX))),.v (.int .i64 (2)),_,_,.v (.bool false)] (Gk rfl (Gb (.bool true) (by simp[go_sem]) rfl rfl rfl rfl rfl (Gk rfl (Gk rfl (Gk rfl (Gb (.int .i64 (m:Int)) (by simp[go_sem,R,U]) rfl rfl rfl rfl rfl (ah ?_ (Gf b (off+m*7+1) rfl rfl (ah ?_ (Gf gx 0 rfl rfl (ah ?_ (Gb (.bool false) (by simp[go_sem,G]) rfl rfl rfl rfl rfl (Gk rfl (Gk rfl (Gk rfl (Gb (.int .i64 (m:Int)) (by simp[go_sem,R,U]) rfl rfl rfl rfl rfl (Gk rfl (Gb (.int .i64 ((m:Int)+2)) (by simp[go_sem,hI,hH]) rfl rfl rfl rfl rfl (Gr (.slice (some ⟨b,off+m*7,none⟩) 2 (c-m)) (λρ y W D N=>(za rfl (aL rfl N) (aL rfl N) (aL rfl N) underlying71 area_size E hV)) rfl rfl (ah ?_ (ah ?_ (ah ?_ (Gb (.bool false) (by simp[go_sem]) rfl rfl rfl rfl rfl (Gk rfl (Gk rfl (aI)))))))))))))))))))))))))) (λ_=>rfl) rfl ?_
     .intro ρ y W f F D C;have Z:=f 27 3 rfl;have h3:y 3=_:=C 3 rfl;have hv:=f 29 5 rfl;have h5:y 5=_:=C 5 rfl;refine ak (.pointer (some ⟨b,off+m*7,none⟩)) (bG 2 26 true true rfl rfl ((f 26 2 rfl).trans (C 2 rfl))) (by simp[execOp,go_sem,Z,h3,hv,h5,hq]) rfl
     .intro ρ y W f F D C;have hu:=f 31 7 rfl;have h7:y 7=_:=C 7 rfl;have s:=(hK.below D).cells.2.1;refine ak (.int .i64 A0.en) (bG 2 26 true true rfl rfl ((f 26 2 rfl).trans (C 2 rfl))) (by simp[execOp,go_sem,hu,h7,s]) rfl
     .intro ρ y W f F D C;have ht:=f 33 9 rfl;have h9:y 9=_:=C 9 rfl;have s:=(hD.ext D).cell 0;simp at s;refine ak (.int .i64 A1.fr) (bG 2 26 true true rfl rfl ((f 26 2 rfl).trans (C 2 rfl))) (by simp[execOp,go_sem,ht,h9,s]) rfl
     .intro ρ y W f F D C;have hQ:=f 42 18 rfl;have hN:y 18=_:=C 18 rfl;have H:=eF0 F λ_=>trivial;refine aO _ _ (bG 12 36 false false rfl rfl ((f 36 12 rfl).trans (C 12 rfl))) (aS rfl (H _) func24 (by kernel_rfl) (by kernel_rfl) (by simp only[bW,bQ,aZ,hQ,hN,H];rfl)) ?_;refine(nJ [A0,A1] _ (c-m) W (hT.below (ag j D)) (by simp) hS).mono ?_;rintro r w1 ⟨rfl,u⟩;exact⟨_,rfl,u,rfl⟩
     .intro ρ y W f F D C;have hP:=f 43 19 rfl;have hM:y 19=_:=C 19 rfl;have H:=eF0 F λ_=>trivial;refine aO _ _ (bG 12 36 false false rfl rfl ((f 36 12 rfl).trans (C 12 rfl))) (aS rfl (H _) func144 (by kernel_rfl) (by kernel_rfl) (by simp only[bW,bQ,aZ,hP,hM,H];rfl)) ?_;refine(Ci (cZ [A0,A1]) W hF).mono ?_;rintro r w1 ⟨v1,rfl,ho,u⟩;exact⟨v1,rfl,u,ho.mono (bi j.size D.size)⟩
     .intro ρ y W f F D C;have hO:=f 44 20 rfl;have hL:=C 20 rfl;obtain⟨a20,c20,hr,_⟩:=Own.rd hL;refine ak (.int .i64 (2)) (bG 12 36 false false rfl rfl ((f 36 12 rfl).trans (C 12 rfl))) (by simp[execOp,go_sem,hO,hr,hm]) rfl
     intro y WA t hc;have hR:((nA w.heap.size 94 7 (lX (cZ [A0,A1]) 64).length ((lX (cZ [A0,A1]) 64).flatMap mX))).r (y 20) WA:=hc 20 (by decide);clear hc;have d:=ag j t;have n:=o.ext t;clear j o R U hI hH hm;go_wp2;go_roundw
     case rel=>exact⟨m+1+1,by omega,by go_num,d,n,hY.out,hG⟩
     case measure=>simp[intOf];omega
    have hm:(lX (cZ [A0,A1]) 64).length=1:=by rw[hg,hj];rfl
    have K:Hid (bP l=(2,((m+1:Nat):Int))):=ae (by rw[V.out];exact wo E (by rw[hA1];exact z.out) (by rw[hA1,hJ.out,hj,Jp]));clear hg hs;refine aV 25 [_,_,_,_,_,_,.v (.pointer (some ⟨b,off+m*7,none⟩)),_,.v (.int .i64 A0.en),_,.v (.int .i64 A1.fr),_,_,_,_,_,_,_,_,.v (.agg (fC (cZ [A0,A1]))),.r 20 ((nA w.heap.size 94 7 (lX (cZ [A0,A1]) 64).length ((lX (cZ [A0,A1]) 64).flatMap mX))),.v (.int .i64 (1)),_,_,.v (.bool true)] (Gk rfl (Gb (.bool true) (by simp[go_sem]) rfl rfl rfl rfl rfl (Gk rfl (Gk rfl (Gk rfl (Gb (.int .i64 (m:Int)) (by simp[go_sem,R,U]) rfl rfl rfl rfl rfl (ah ?_ (Gf b (off+m*7+1) rfl rfl (ah ?_ (Gf gx 0 rfl rfl (ah ?_ (Gb (.bool false) (by simp[go_sem,G]) rfl rfl rfl rfl rfl (Gk rfl (Gk rfl (Gk rfl (Gb (.int .i64 (m:Int)) (by simp[go_sem,R,U]) rfl rfl rfl rfl rfl (Gk rfl (Gb (.int .i64 ((m:Int)+2)) (by simp[go_sem,hI,hH]) rfl rfl rfl rfl rfl (Gr (.slice (some ⟨b,off+m*7,none⟩) 2 (c-m)) (λρ y W D N=>(za rfl (aL rfl N) (aL rfl N) (aL rfl N) underlying71 area_size E hV)) rfl rfl (ah ?_ (ah ?_ (ah ?_ (Gb (.bool true) (by simp[go_sem]) rfl rfl rfl rfl rfl (Gk rfl (Gk rfl (aI)))))))))))))))))))))))))) (λ_=>rfl) rfl ?_
    .intro ρ y W f F D C;have Z:=f 27 3 rfl;have h3:y 3=_:=C 3 rfl;have hv:=f 29 5 rfl;have h5:y 5=_:=C 5 rfl;refine ak (.pointer (some ⟨b,off+m*7,none⟩)) (bG 2 26 true true rfl rfl ((f 26 2 rfl).trans (C 2 rfl))) (by simp[execOp,go_sem,Z,h3,hv,h5,hq]) rfl
    .intro ρ y W f F D C;have hu:=f 31 7 rfl;have h7:y 7=_:=C 7 rfl;have s:=(hK.below D).cells.2.1;refine ak (.int .i64 A0.en) (bG 2 26 true true rfl rfl ((f 26 2 rfl).trans (C 2 rfl))) (by simp[execOp,go_sem,hu,h7,s]) rfl
    .intro ρ y W f F D C;have ht:=f 33 9 rfl;have h9:y 9=_:=C 9 rfl;have s:=(hD.ext D).cell 0;simp at s;refine ak (.int .i64 A1.fr) (bG 2 26 true true rfl rfl ((f 26 2 rfl).trans (C 2 rfl))) (by simp[execOp,go_sem,ht,h9,s]) rfl
    .intro ρ y W f F D C;have hQ:=f 42 18 rfl;have hN:y 18=_:=C 18 rfl;have H:=eF0 F λ_=>trivial;refine aO _ _ (bG 12 36 false false rfl rfl ((f 36 12 rfl).trans (C 12 rfl))) (aS rfl (H _) func24 (by kernel_rfl) (by kernel_rfl) (by simp only[bW,bQ,aZ,hQ,hN,H];rfl)) ?_;refine(nJ [A0,A1] _ (c-m) W (hT.below (ag j D)) (by simp) hS).mono ?_;rintro r w1 ⟨rfl,u⟩;exact⟨_,rfl,u,rfl⟩
    .intro ρ y W f F D C;have hP:=f 43 19 rfl;have hM:y 19=_:=C 19 rfl;have H:=eF0 F λ_=>trivial;refine aO _ _ (bG 12 36 false false rfl rfl ((f 36 12 rfl).trans (C 12 rfl))) (aS rfl (H _) func144 (by kernel_rfl) (by kernel_rfl) (by simp only[bW,bQ,aZ,hP,hM,H];rfl)) ?_;refine(Ci (cZ [A0,A1]) W hF).mono ?_;rintro r w1 ⟨v1,rfl,ho,u⟩;exact⟨v1,rfl,u,ho.mono (bi j.size D.size)⟩
    .intro ρ y W f F D C;have hO:=f 44 20 rfl;have hL:=C 20 rfl;obtain⟨a20,c20,hr,_⟩:=Own.rd hL;refine ak (.int .i64 (1)) (bG 12 36 false false rfl rfl ((f 36 12 rfl).trans (C 12 rfl))) (by simp[execOp,go_sem,hO,hr,hm]) rfl
    intro y WA t hc;have hR:((nA w.heap.size 94 7 (lX (cZ [A0,A1]) 64).length ((lX (cZ [A0,A1]) 64).flatMap mX))).r (y 20) WA:=hc 20 (by decide);clear hc;have d:=ag j t;have n:=o.ext t;clear j o
    go_wp2_with (refine aA rfl _ _ _ rfl w.heap.size #[.int .i64 (2),.int .i64 (((m+1:Nat):Int))] rfl rfl _ _ n rfl fau_size (nO _ _) ?_)
    intro J M q;have p:Below w.heap.size w J:=d.grown q d.size (λk I=>by cases I;exact az _);go_wp2;refine bodyPost_ret (v:=.agg #[.int .i64 (2),.int .i64 (((m+1:Nat):Int))]) (fG results100 _ _ w.heap.size _ _ _ rfl M underlying180 rfl fau_size) rfl ?_;exact⟨by rw[K.out];rfl,p⟩
   have K:Hid (bP l=(aU l[k],(k:Int))):=ae (by rw[V.out];exact Ik E Y);have z : (aU l[k] != 0)=true:=by simpa using Y
   have d:=j;have n:=o;clear Y j o
   go_wp2_with (refine aA rfl _ _ _ rfl w.heap.size #[.int .i64 (aU l[k]),.int .i64 (k)] rfl rfl _ _ n rfl fau_size (nO _ _) ?_)
   intro J M q;have p:Below w.heap.size w J:=d.grown q d.size (λk I=>by cases I;exact az _);go_wp2;refine bodyPost_ret (v:=.agg #[.int .i64 (aU l[k]),.int .i64 (k)]) (fG results100 _ _ w.heap.size _ _ _ rfl M underlying180 rfl fau_size) rfl ?_;exact⟨by rw[K.out];rfl,p⟩
  have K:Hid (bP l=(0,0)):=ae (by rw[V.out,qX (by omega)];rfl)
  go_wp2_with (refine aA rfl _ _ _ rfl w.heap.size #[.int .i64 (0),.int .i64 (0)] rfl rfl _ _ n rfl fau_size (nO _ _) ?_)
  intro J M q;have p:Below w.heap.size w J:=d.grown q d.size (λk I=>by cases I;exact az _);go_wp2;refine bodyPost_ret (v:=.agg #[.int .i64 (0),.int .i64 (0)]) (fG results100 _ _ w.heap.size _ _ _ rfl M underlying180 rfl fau_size) rfl ?_;exact⟨by rw[K.out];rfl,p⟩
theorem ents_size:(Tryz.prog.info? 69).map (·.size)=some 192:=by kernel_rfl
theorem Hf{o d:Nat}(z:ys.length=xs.length)(C:o+xs.length<=cur.size)(D:∀j u,xs[j]?=some u->cur[o+j]?=some u)(E:d+vs.length<=xs.length)
 (s:∀i,i<vs.length->ys[d+i]?=vs[i]?) (n:∀i,(i<d\/d+vs.length<=i)->ys[i]?=xs[i]?):bJ cur (o+d) vs=bJ cur o ys:=by
 apply mI;intro m
 by_cases F:o<=m/\m<o+xs.length
 .obtain⟨e,rfl⟩:∃e,m=o+e:=⟨m-o,by omega⟩;obtain⟨u,f⟩:∃u,ys[e]?=some u:=⟨_,aF (by omega)⟩;rw[putAt_in _ _ _ _ u (by omega) f]
  by_cases h2:d<=e/\e<d+vs.length
  .obtain⟨i,rfl⟩:∃i,e=d+i:=⟨e-d,by omega⟩;rw[s i (by omega)]at f;rw[<-nV];exact putAt_in _ _ _ _ u (by omega) f
  rw[n e (by omega)]at f;rw[putAt_out _ _ _ _ (by omega)];exact D _ _ f
 .rw[putAt_out _ _ _ _ (by omega),putAt_out _ _ _ _ (by omega)]
theorem Kc{o:Nat}(d:o+13<=cur.size)(s:∀j u,(pR X)[j]?=some u->cur[o+j]?=some u):bJ cur (o+8) [.int .i64 (X.r+1)]=bJ cur o (pR (eP X)):=
 Hf (xs:=pR X) rfl d s (by show 8+1<=13;omega) (λi f=>by
  obtain rfl:i=0:=by simpa using f
  rfl) (λi f=>by
  match i,f with
  | 0,_=>rfl
  | 1,_=>rfl
  | 2,_=>rfl
  | 3,_=>rfl
  | 4,_=>rfl
  | 5,_=>rfl
  | 6,_=>rfl
  | 7,_=>rfl
  | 8,h=>exact absurd h (by show ¬(8<8\/8+1<=8);omega)
  | 9,_=>rfl
  | 10,_=>rfl
  | 11,_=>rfl
  | 12,_=>rfl
  | n+13,_=>rfl)
def Xc(S:MW)(p n:Nat)(B b:Nat)(w:World)(r:Ending)(w' : World):Prop:=∃S',r = .returned (.tuple #[])/\fD w' B b S'/\MS w b S w' S'/\Ka S S'/\Bd S'.H.ma S'.T/\∀q j,¬(q=p/\j=n)->fU S'.T q j=fU S.T q j
theorem Nl(S:MW)(p n:Nat)(g:Pg)(B b:Nat)(w:World)(h:fD w B b S)(D:Bd S.H.ma S.T)(hp:p<S.H.sp.length)(G:n<64)(h0:(fU S.T p n).k=0)(hg:onA (dD S.H.ma p).ar n=some g)(hfi:g.fi<S.H.fi.length)(hpg:0<=g.pg)(hsh:g.sh=true->0<=g.fi) :
  Calls Tryz.prog 78 #[.pointer (some ⟨b,0,none⟩),.int .i64 p,.int .i64 n,.agg #[.bool true,.bool g.rd,.bool g.wr,.bool g.sh,.int .i64 g.fi,.int .i64 g.pg]] w (Xc S p n B b w):=by
 obtain⟨grd,gwr,gsh,gfi,gpg⟩:=g;dsimp only at hfi hpg hsh ⊢;obtain⟨I,rfl⟩:=iL hpg;have hm:=ae D;have kM:=ae hg;have kU:=ae h0;have gZ:=ae h.bs;clear D hg h0 hpg;go_enter func78,ntmps78;go_upto_region 1 with(fail);refine iG (λW=>Code.wp _ _ _ _ W) λw1 kP bx1 gy => ?_;have h1:=h.below kP;have s1:=(MS.refl w b S).below kP;have hT:=ae (h.new (az _));clear h kP gy
 go_wp2_with fail
 refine(fV _ 4 B b _ h1 (by omega)).mono ?_;rintro r w2 ⟨x,a2,c2,l2,rfl,h2,s2,hx,_⟩;have bx2:=s2.blkN bx1 hT.out;have s2:=s1.trans s2;clear h1 s1 bx1;have hG:=bx2.cell;go_upto_region 5 with(fail)
 by_cases hx0:x=0
 .subst hx0;go_wp2;refine bodyPost_ret (v:=.tuple #[]) (by simp[results,go_sem,results78]) rfl ?_;exact⟨_,rfl,h2,s2,⟨rfl,rfl,rfl,rfl,rfl,rfl⟩,hm.out,λ_ _ _=>rfl⟩
 have gQ:(x==0)=false:=by simp[hx0]
 go_upto_region 6 with(fail)
 go_cut [44] (fun s44 wx=>s44 = .bool (decide (0<=gfi/\(gsh=true\/x=1)))/\wx=w2)
 case first=>
  by_cases hf:0<=gfi
  .cases gsh with
   | true=>
    go_wp2;go_meet
    case rel=>exact⟨by simp[hf],rfl⟩
   | false=>
    by_cases hx1:x=1
    .have k6:(x==1)=true:=by simp[hx1]
     have k7:=ae hx1;clear hx1;go_wp2;go_meet
     case rel=>exact⟨by rw[decide_eq_true ⟨hf,.inr k7.out⟩],rfl⟩
    have k6:(x==1)=false:=by simp[hx1]
    go_wp2;go_meet
    case rel=>exact⟨by rw[decide_eq_false (by rintro⟨_,h | h⟩;cases h;exact hx1 h)],rfl⟩
  go_wp2;go_meet
  case rel=>exact⟨by rw[decide_eq_false (λh=>by have:=h.1;omega)],rfl⟩
 case rest=>
  obtain⟨rfl,gu⟩:=hcut;subst wc
  by_cases hF:0<=gfi/\(gsh=true\/x=1)
  .rw[decide_eq_true hF];obtain⟨F,rfl⟩:=iL hF.1;have kr:F<S.H.fi.length:=by omega
   obtain⟨p0,kF⟩:∃p0,S.H.fi[F]?=some p0:=⟨_,aF kr⟩;have gD:Hid (aN S.H.ma.st (F:Int)=p0.fi):=ae (iE (by show(S.H.fi.map PF.fi)[F]?=_;rw[iV,kF];rfl));obtain⟨bf,of,hY,kn⟩:=kE kR (by decide) h2.ma.rd.st.rd F kr;have hY:S.H.ai=some ⟨bf,of,none⟩:=hY;have kn:eB w2 (some ⟨bf,of+F*2,none⟩) (rH p0):=by rw[<-(cz.1 kF).2];exact kn
   have rc1:∀W,Below w2.heap.size w2 W->W.cell? ⟨bf,of+F*2+1,none⟩=some (.slice p0.a p0.l.length p0.c):=λW C=>by obtain⟨b',o',e,gE⟩:=(kn.below C) 1 _ rfl;cases e;exact gE
   have gW:=ae hfi;clear kF kn hfi;go_upto_region 7 with(fail)
   by_cases hge:(p0.l.length:Int)<=(I:Int)
   .skip;refine aV 15 [_,_,_,_,_,_,_,_,_,_,_,_,_,_,_] (Gf w.heap.size 5 rfl rfl (Gl bx2 rfl rfl rfl rfl rfl (Gk rfl (Gk rfl (Gf b 1 rfl rfl (Gf b 8 rfl rfl (Gf b 8 rfl rfl (Gl h2.blk (V:=.slice (some ⟨bf,of,none⟩) S.H.fi.length S.H.ci) (by simp[jI,MW.lst,hY]) rfl rfl rfl rfl (Gf w.heap.size 4 rfl rfl (Gl bx2 rfl rfl rfl rfl rfl (Gr (.pointer (some ⟨bf,of+F*2,none⟩)) (λρ y W C hq=>(cO rfl (aL rfl hq) (aL rfl hq) kr underlying39 file_size)) rfl rfl (Gf bf (of+F*2+1) rfl rfl (Gc (.slice p0.a p0.l.length p0.c) (λW C=>by simp[rc1 _ C]) rfl rfl rfl rfl (Gn rfl rfl rfl rfl (Gb (.bool true) (by simp[go_sem,hge]) rfl rfl rfl rfl rfl (aI)))))))))))))))) (λ_=>rfl) rfl ?_;intro y W3 hE _;have h3:=h2.below hE;have s3:=s2.below hE;have bx3:=bx2.ext hE;clear h2 s2 bx2 hG hE rc1 hY;have hG:=bx3.cell;go_wp2;refine bodyPost_ret (v:=.tuple #[]) (by simp[results,go_sem,results78]) rfl ?_;exact⟨_,rfl,h3,s3,⟨rfl,rfl,rfl,rfl,rfl,rfl⟩,hm.out,λ_ _ _=>rfl⟩
   skip;refine aV 15 [_,_,_,_,_,_,_,_,_,_,_,_,_,_,_] (Gf w.heap.size 5 rfl rfl (Gl bx2 rfl rfl rfl rfl rfl (Gk rfl (Gk rfl (Gf b 1 rfl rfl (Gf b 8 rfl rfl (Gf b 8 rfl rfl (Gl h2.blk (V:=.slice (some ⟨bf,of,none⟩) S.H.fi.length S.H.ci) (by simp[jI,MW.lst,hY]) rfl rfl rfl rfl (Gf w.heap.size 4 rfl rfl (Gl bx2 rfl rfl rfl rfl rfl (Gr (.pointer (some ⟨bf,of+F*2,none⟩)) (λρ y W C hq=>(cO rfl (aL rfl hq) (aL rfl hq) kr underlying39 file_size)) rfl rfl (Gf bf (of+F*2+1) rfl rfl (Gc (.slice p0.a p0.l.length p0.c) (λW C=>by simp[rc1 _ C]) rfl rfl rfl rfl (Gn rfl rfl rfl rfl (Gb (.bool false) (by simp[go_sem,hge]) rfl rfl rfl rfl rfl (aI)))))))))))))))) (λ_=>rfl) rfl ?_;intro y W3 hE _;have h3:=h2.below hE;have s3:=s2.below hE;have bx3:=bx2.ext hE;clear h2 s2 bx2 hG hE rc1 hY;have hG:=bx3.cell
   go_wp2_with fail
   refine(Ku _ F I B b _ h3 hm.out ⟨⟨by omega,by simp[MH.ma,cK,MW.lst];omega⟩,by omega,by show(I:Int)<(aN S.H.ma.st (F:Int)).b.length;rw[gD.out];show(I:Int)<p0.l.length;omega⟩).mono ?_;rintro r w4 ⟨x3,J,rfl,h4,s4,k4,t4,bd4,gt⟩;have bx4:=s4.blkN bx3 hT.out;have gb:=ae (s4.not bx3.lt hT.out);have s4:=s3.trans s4;clear h3 s3 bx3 hG;have hG:=bx4.cell;rcases gt with rfl|⟨c,hcm,hcf,hci,rfl⟩
   .go_wp2;refine bodyPost_ret (v:=.tuple #[]) (by simp[results,go_sem,results78]) rfl ?_;exact⟨J,rfl,h4,s4,⟨k4.sp,k4.fi,k4.ct,k4.dk,k4.fl,k4.sl⟩,bd4,λ_ _ _=>by rw[t4];rfl⟩
   have gc:=bd4.rt.ca.lt c hcm;obtain⟨f,kN⟩:=iL gc.1;have gd:f<J.H.m.fs.length:=by have e:((fe J.H.ma J.T).m.fs.length:Nat)=J.H.m.fs.length:=rfl;omega
   have kB:=ae (And.intro hcm (And.intro hcf hci));have ge:=ae kN;rw[kN];clear gc hcm hcf hci kN;obtain⟨gf,off,cap,cur,hv,kJ,hN,ko,hU,hW⟩:=h4.ma.fr.put fQ (by decide) f gd;have kS:J.H.af=some ⟨gf,off,none⟩:=(oU hv).1;have hX:Hid (aD J.H.ma f=J.H.m.fs[f]):=ae (by unfold aD;show J.H.m.fs.getD f fr0=_;rw[aY,aF (by omega)];rfl);have ga:=bd4.rt.fewR (f:=f) gd;have gA:0<=(J.H.m.fs[f]).r/\(J.H.m.fs[f]).r<=257:=by rw[<-hX.out];exact ga
   have c8:w4.cell? ⟨gf,off+f*13+8,none⟩=some (.int .i64 (J.H.m.fs[f]).r):=hU 8 _ rfl;have hV:=ae hW;have kd:=ae hU;clear hv hW hU ga;generalize J.H.m.fs[f]=X at c8 hX gA kd;have hc:=h4.blk.cell;unfold jI at hc;rw[kS]at hc;have gX:IntKind.i64.wrap (X.r+1)=X.r+1:=bI _ (by omega);have gV:(f:Int)<(J.H.m.fs.length:Int):=by omega
   go_wp2_with (refine aB rfl _ _ _ rfl gf (off+f*13+8) _ [.int .i64 (X.r+1)] rfl rfl rfl _ _ hN (by show off+f*13+8+1<=cur.size;omega) (by kernel_rfl) (λu K=>by cases bB.1 K;rfl) ?_)
   intro w5 kO kp;rw[Kc (by omega) (λj u hj=>by rw[<-hN.cell];exact kd.out j u hj)]at kO;have h5:fD w5 B b (J.frs (J.H.m.fs.set f (eP X))):=h4.putF hN kJ kp (fs:=J.H.m.fs.set f (eP X)) (by simp) (by simpa using hV.out _ _ kO);have kx:nL b J gf:=.inr (by simp only[iW,kS];exact iM);have s5:=s4.put (H':=J.frs (J.H.m.fs.set f (eP X))) kp kx (λx hx => .inl hx);have bx5:=bx4.grown kp (λe=>gb.out (by rw[<-aM e];exact kx));have hM:Hid (¬nL b (J.frs (J.H.m.fs.set f (eP X))) w.heap.size):=gb;have kq:J.T.length=S.H.sp.length:=by have:=bd4.ok.len;rw[this];show(J.H.sp.map PS.sp).length=_;rw[dV,k4.sp];rfl
   have hD:p<J.T.length:=by omega
   have gi:∀(S' : MW),S'.T=J.T->(fO S'.T p).length=64:=λS' e=>by rw[e];exact bd4.ok.l64 (by rw[<-bd4.ok.len];exact hD)
   have kw:dD J.H.ma p=dD S.H.ma p:=by show(J.H.sp.map PS.sp).getD p zSp=(S.H.sp.map PS.sp).getD p zSp;rw[k4.sp];rfl
   have kD:p<J.H.ma.sp.length:=by show p<(J.H.sp.map PS.sp).length;rw[dV,k4.sp];exact hp
   have hH:Hid (∀u:Bool,(u=true->gsh=true/\gwr=true)->Bd (J.frs (J.H.m.fs.set f (eP X))).H.ma (setL (J.frs (J.H.m.fs.set f (eP X))).T p n ⟨1,f,u⟩)):=ae λu K=>by have h9:=bd4.cachedE (w:=u) kD G (by rw[t4];exact kU.out) kB.out.1 (by rw[kw];exact kM.out) kB.out.2 K;rw[ge.out,bu,hX.out]at h9;exact h9
   have i:Hid (Ka S (J.frs (J.H.m.fs.set f (eP X)))):=ae ⟨k4.sp,k4.fi,k4.ct,k4.dk,by show(J.H.m.fs.set f (eP X)).length=_;rw[bL];exact k4.fl,k4.sl⟩;have hA:Hid (∀x q j,¬(q=p/\j=n)->fU (setL (J.frs (J.H.m.fs.set f (eP X))).T p n x) q j=fU S.T q j):=ae λx q j kb=>by show fU (setL J.T p n x) q j=_;rw[xI bd4.ok kD G,if_neg kb,t4];rfl
   have o:Hid (p<(J.frs (J.H.m.fs.set f (eP X))).T.length):=ae hD;have hI:Hid (∀S' : MW,S'.T=(J.frs (J.H.m.fs.set f (eP X))).T->(fO S'.T p).length=64):=ae gi;generalize J.frs (J.H.m.fs.set f (eP X))=S5 at *
   obtain⟨Y,U,_,hl,_⟩:=fD.ent (S:=S5) h5 (p:=p) (n:=n) o.out G (hI.out _ rfl);clear kw kD hD gi kq;clear h4 s4 bx4 hG hc c8 kO kp hN kd hV ko kS;go_upto_region 11 with(fail);cases gsh with
   | true=>cases gwr with
    | true=>
     skip;refine iI 20 [_,_,_,.v (.slice (some ⟨Y,U,none⟩) S5.T.length S5.cb),_,.v (.int .i64 (n:Int)),_,_,.v (.bool true),_,_,.v (.bool true),_,_,_,.r 15 ((dF λv => ∃x:Int,v = .int .i64 x/\0<=x)),.r 16 ((dF λv => ∃u,v = .bool u)),.r 17 ((dF λv => ∃u,(u=true->true=true)/\v = .bool u)),.r 18 ((dF λv => ∃u,(u=true->true=true)/\v = .agg #[.int .i64 1,.int .i64 (f:Int),.bool u])),_] (Mk S5 B b w5 [(w.heap.size,#[.bool true,.bool grd,.bool true,.bool true,.int .i64 (F:Int),.int .i64 (I:Int)],80)]) aH (λ_=>⟨S5.al,S5.cl,S5.l,h5,MS.refl _ _ _,by simpa using⟨bx5,hM.out⟩⟩) (Qk aH rfl (Qk aH rfl (Qf aH b 12 rfl rfl (ah ?_ (Qk aH rfl (Qk aH rfl (Qk aH rfl (Qf aH w.heap.size 3 rfl rfl (ah ?_ (Qk aH rfl (Qf aH w.heap.size 2 rfl rfl (ah ?_ (Qk aH rfl (Qk aH rfl (Qk aH rfl (ah ?_ (ah ?_ (ah ?_ (ah ?_ (Qr aH (.pointer (some ⟨Y,U+p*192,none⟩)) (λρ y W hq=>(cO rfl (aL rfl hq) (aL rfl hq) o.out underlying96 ents_size)) rfl rfl (aI))))))))))))))))))))) (λ_=>rfl) rfl ?_
     .intro ρ y W L E G s z C D;refine fZ aH (λ_ _ h=>h) C ?_;have kk:=E 94 2 rfl;have h2:y 2=_:=D 2 rfl;obtain⟨a,c,l,m1,m2,M⟩:=C;refine ak (.slice (some ⟨Y,U,none⟩) S5.T.length S5.cb) (aj rfl) (by simp[execOp,go_sem,kk,h2,m1.blk.cell,jI,MW.lst,hl]) rfl
     .intro ρ y W L E G s z C D;refine fZ aH (λ_ _ h=>h) C ?_;have ki:=E 99 7 rfl;have h7:y 7=_:=D 7 rfl;obtain⟨a,c,l,m1,m2,M⟩:=C;have M:=(M _ (bB.2 rfl)).1;refine ak (.bool true) (aj rfl) (by simp[execOp,go_sem,ki,h7,M.cell]) rfl
     .intro ρ y W L E G s z C D;refine fZ aH (λ_ _ h=>h) C ?_;have km:=E 102 10 rfl;have kh:y 10=_:=D 10 rfl;obtain⟨a,c,l,m1,m2,M⟩:=C;have M:=(M _ (bB.2 rfl)).1;refine ak (.bool true) (bG 9 101 true true rfl rfl ((E 101 9 rfl).trans (D 9 rfl))) (by simp[execOp,go_sem,km,kh,M.cell]) rfl
     .intro ρ y W L E G s z C D;have gp:=E 106 14 rfl;have gI:y 14=_:=D 14 rfl;have EC:∀v,ρ (.const v)=v:=λv=>G (.const v) trivial;have EF:=eF0 G λ_=>trivial;refine jd _ _ (bG 13 105 true true rfl rfl ((E 105 13 rfl).trans (D 13 rfl))) (aS rfl (EF _) func32 (by kernel_rfl) (by kernel_rfl) (by simp only[bW,bQ,aZ,gp,gI,EC,EF];rfl)) ?_;exact zZ 2 (by omega) C λx h1 _ _ _=>⟨x,rfl,h1⟩
     .intro ρ y W L E G s z C D;refine fZ aH (λ_ _ h=>h) C ?_;have gn:=E 107 15 rfl;have gH:=D 15 rfl;obtain⟨x,hx,_⟩:=gH;refine ak _ (bG 13 105 true true rfl rfl ((E 105 13 rfl).trans (D 13 rfl))) (qz rfl (gn.trans hx) (G (.const _) trivial) (by simp[go_sem];rfl)) ⟨_,rfl⟩
     .intro ρ y W L E G s z C D;refine fZ aH (λ_ _ h=>h) C ?_;have hR:=E 105 13 rfl;have hJ:y 13=_:=D 13 rfl;have kl:=E 108 16 rfl;have kT:=D 16 rfl;obtain⟨u,K⟩:=kT;refine ak (.bool u) (aj rfl) (qI rfl (hR.trans hJ) (by simpa using kl.trans K)) ⟨_,λ_=>rfl,rfl⟩
     .intro ρ y W L E G s z C D;refine fZ aH (λ_ _ h=>h) C ?_;have kj:=E 98 6 rfl;have Z:y 6=_:=D 6 rfl;have hQ:=E 109 17 rfl;have kg:=D 17 rfl;obtain⟨u,hr,K⟩:=kg;have EC:∀v,ρ (.const v)=v:=λv=>G (.const v) trivial;refine ak (.agg #[.int .i64 1,.int .i64 (f:Int),.bool u]) (aj rfl) (by simp[execOp,go_sem,kj,Z,hQ,EC,K]) ⟨u,hr,rfl⟩
     intro y W6 hB d;have gN:((dF λv => ∃x:Int,v = .int .i64 x/\0<=x)).r (y 15) W6:=d 15 (by decide);have gM:((dF λv => ∃u,v = .bool u)).r (y 16) W6:=d 16 (by decide);have ks:((dF λv => ∃u,(u=true->true=true)/\v = .bool u)).r (y 17) W6:=d 17 (by decide);have hK:((dF λv => ∃u,(u=true->true=true)/\v = .agg #[.int .i64 1,.int .i64 (f:Int),.bool u])).r (y 18) W6:=d 18 (by decide);clear d;obtain⟨a6,c6,l6,Z,R,_⟩:=hB;obtain⟨u,hr,K⟩:=hK;rw[K];clear K;obtain⟨gT',oT',curT,hk,hO,hy,hs,_,ha⟩:=fD.ent (S:=S5.lst a6 c6 l6) Z (p:=p) (n:=n) o.out G (hI.out _ rfl);have e9:(some (⟨gT',oT',none⟩:Addr))=some ⟨Y,U,none⟩:=hk.symm.trans hl;cases e9;have hL:(p:Int)<(S5.T.length:Int):=by have:=o.out;omega
     have ka:(n:Int)<64:=by omega
     have hh:=ae ha;have R:=s5.trans R;clear ha hk h5 s5
     go_wp2_with (refine aB rfl _ _ _ rfl Y (U+p*192+n*3) _ (lY ⟨1,f,u⟩) rfl rfl rfl _ _ hy (by rw[gz];exact hs) (by kernel_rfl) (bT (jB _)) ?_)
     intro w7 hC hi;have h7:=hh.out w7 ⟨1,f,u⟩ hC hi;have s7:=R.put (H':={ S5.lst a6 c6 l6 with T:=setL (S5.lst a6 c6 l6).T p n ⟨1,f,u⟩ }) hi (.inr (by simp only[iW,MW.lst,hl];simp[oB];right;right;right;right;right;right;right;right;rfl)) (λx hx => .inl hx);clear hy hC hi Z R;go_wp2;refine bodyPost_ret (v:=.tuple #[]) (by simp[results,go_sem,results78]) rfl ?_;exact⟨_,rfl,h7,s7,⟨i.out.sp,i.out.fi,i.out.ct,i.out.dk,i.out.fl,i.out.sl⟩,hH.out u (λh=>by first | exact trivial | exact⟨rfl,rfl⟩ | exact absurd (hr h) (by decide) | simp),hA.out _⟩
    | false=>
     skip;refine iI 20 [_,_,_,.v (.slice (some ⟨Y,U,none⟩) S5.T.length S5.cb),_,.v (.int .i64 (n:Int)),_,_,.v (.bool true),_,_,.v (.bool false),_,_,_,_,_,.r 17 ((dF λv => ∃u,(u=true->false=true)/\v = .bool u)),.r 18 ((dF λv => ∃u,(u=true->false=true)/\v = .agg #[.int .i64 1,.int .i64 (f:Int),.bool u])),_] (Mk S5 B b w5 [(w.heap.size,#[.bool true,.bool grd,.bool false,.bool true,.int .i64 (F:Int),.int .i64 (I:Int)],80)]) aH (λ_=>⟨S5.al,S5.cl,S5.l,h5,MS.refl _ _ _,by simpa using⟨bx5,hM.out⟩⟩) (Qk aH rfl (Qk aH rfl (Qf aH b 12 rfl rfl (ah ?_ (Qk aH rfl (Qk aH rfl (Qk aH rfl (Qf aH w.heap.size 3 rfl rfl (ah ?_ (Qk aH rfl (Qf aH w.heap.size 2 rfl rfl (ah ?_ (Qk aH rfl (Qk aH rfl (Qk aH rfl (Qk aH rfl (Qk aH rfl (ah ?_ (ah ?_ (Qr aH (.pointer (some ⟨Y,U+p*192,none⟩)) (λρ y W hq=>(cO rfl (aL rfl hq) (aL rfl hq) o.out underlying96 ents_size)) rfl rfl (aI))))))))))))))))))))) (λ_=>rfl) rfl ?_
     .intro ρ y W L E G s z C D;refine fZ aH (λ_ _ h=>h) C ?_;have kk:=E 94 2 rfl;have h2:y 2=_:=D 2 rfl;obtain⟨a,c,l,m1,m2,M⟩:=C;refine ak (.slice (some ⟨Y,U,none⟩) S5.T.length S5.cb) (aj rfl) (by simp[execOp,go_sem,kk,h2,m1.blk.cell,jI,MW.lst,hl]) rfl
     .intro ρ y W L E G s z C D;refine fZ aH (λ_ _ h=>h) C ?_;have ki:=E 99 7 rfl;have h7:y 7=_:=D 7 rfl;obtain⟨a,c,l,m1,m2,M⟩:=C;have M:=(M _ (bB.2 rfl)).1;refine ak (.bool true) (aj rfl) (by simp[execOp,go_sem,ki,h7,M.cell]) rfl
     .intro ρ y W L E G s z C D;refine fZ aH (λ_ _ h=>h) C ?_;have km:=E 102 10 rfl;have kh:y 10=_:=D 10 rfl;obtain⟨a,c,l,m1,m2,M⟩:=C;have M:=(M _ (bB.2 rfl)).1;refine ak (.bool false) (bG 9 101 true true rfl rfl ((E 101 9 rfl).trans (D 9 rfl))) (by simp[execOp,go_sem,km,kh,M.cell]) rfl
     .intro ρ y W L E G s z C D;refine fZ aH (λ_ _ h=>h) C ?_;have hR:=E 105 13 rfl;have hJ:y 13=_:=D 13 rfl;have kl:=E 108 16 rfl;have kT:y 16=_:=D 16 rfl;refine ak (.bool false) (aj rfl) (qI rfl (hR.trans hJ) (by exact(G (.const _) trivial).trans rfl)) ⟨false,λh=>(by cases h),rfl⟩
     .intro ρ y W L E G s z C D;refine fZ aH (λ_ _ h=>h) C ?_;have kj:=E 98 6 rfl;have Z:y 6=_:=D 6 rfl;have hQ:=E 109 17 rfl;have kg:=D 17 rfl;obtain⟨u,hr,K⟩:=kg;have EC:∀v,ρ (.const v)=v:=λv=>G (.const v) trivial;refine ak (.agg #[.int .i64 1,.int .i64 (f:Int),.bool u]) (aj rfl) (by simp[execOp,go_sem,kj,Z,hQ,EC,K]) ⟨u,hr,rfl⟩
     intro y W6 hB d;have ks:((dF λv => ∃u,(u=true->false=true)/\v = .bool u)).r (y 17) W6:=d 17 (by decide);have hK:((dF λv => ∃u,(u=true->false=true)/\v = .agg #[.int .i64 1,.int .i64 (f:Int),.bool u])).r (y 18) W6:=d 18 (by decide);clear d;obtain⟨a6,c6,l6,Z,R,_⟩:=hB;obtain⟨u,hr,K⟩:=hK;rw[K];clear K;obtain⟨gT',oT',curT,hk,hO,hy,hs,_,ha⟩:=fD.ent (S:=S5.lst a6 c6 l6) Z (p:=p) (n:=n) o.out G (hI.out _ rfl);have e9:(some (⟨gT',oT',none⟩:Addr))=some ⟨Y,U,none⟩:=hk.symm.trans hl;cases e9;have hL:(p:Int)<(S5.T.length:Int):=by have:=o.out;omega
     have ka:(n:Int)<64:=by omega
     have hh:=ae ha;have R:=s5.trans R;clear ha hk h5 s5
     go_wp2_with (refine aB rfl _ _ _ rfl Y (U+p*192+n*3) _ (lY ⟨1,f,u⟩) rfl rfl rfl _ _ hy (by rw[gz];exact hs) (by kernel_rfl) (bT (jB _)) ?_)
     intro w7 hC hi;have h7:=hh.out w7 ⟨1,f,u⟩ hC hi;have s7:=R.put (H':={ S5.lst a6 c6 l6 with T:=setL (S5.lst a6 c6 l6).T p n ⟨1,f,u⟩ }) hi (.inr (by simp only[iW,MW.lst,hl];simp[oB];right;right;right;right;right;right;right;right;rfl)) (λx hx => .inl hx);clear hy hC hi Z R;go_wp2;refine bodyPost_ret (v:=.tuple #[]) (by simp[results,go_sem,results78]) rfl ?_;exact⟨_,rfl,h7,s7,⟨i.out.sp,i.out.fi,i.out.ct,i.out.dk,i.out.fl,i.out.sl⟩,hH.out u (λh=>by first | exact trivial | exact⟨rfl,rfl⟩ | exact absurd (hr h) (by decide) | simp),hA.out _⟩
   | false=>
    skip;refine iI 20 [_,_,_,.v (.slice (some ⟨Y,U,none⟩) S5.T.length S5.cb),_,.v (.int .i64 (n:Int)),_,_,.v (.bool false),_,_,_,_,_,_,_,_,.r 17 ((dF λv => ∃u,(u=true->false=true)/\v = .bool u)),.r 18 ((dF λv => ∃u,(u=true->false=true)/\v = .agg #[.int .i64 1,.int .i64 (f:Int),.bool u])),_] (Mk S5 B b w5 [(w.heap.size,#[.bool true,.bool grd,.bool gwr,.bool false,.int .i64 (F:Int),.int .i64 (I:Int)],80)]) aH (λ_=>⟨S5.al,S5.cl,S5.l,h5,MS.refl _ _ _,by simpa using⟨bx5,hM.out⟩⟩) (Qk aH rfl (Qk aH rfl (Qf aH b 12 rfl rfl (ah ?_ (Qk aH rfl (Qk aH rfl (Qk aH rfl (Qf aH w.heap.size 3 rfl rfl (ah ?_ (Qk aH rfl (Qk aH rfl (Qk aH rfl (Qk aH rfl (Qk aH rfl (Qk aH rfl (Qk aH rfl (Qk aH rfl (ah ?_ (ah ?_ (Qr aH (.pointer (some ⟨Y,U+p*192,none⟩)) (λρ y W hq=>(cO rfl (aL rfl hq) (aL rfl hq) o.out underlying96 ents_size)) rfl rfl (aI))))))))))))))))))))) (λ_=>rfl) rfl ?_
    .intro ρ y W L E G s z C D;refine fZ aH (λ_ _ h=>h) C ?_;have kk:=E 94 2 rfl;have h2:y 2=_:=D 2 rfl;obtain⟨a,c,l,m1,m2,M⟩:=C;refine ak (.slice (some ⟨Y,U,none⟩) S5.T.length S5.cb) (aj rfl) (by simp[execOp,go_sem,kk,h2,m1.blk.cell,jI,MW.lst,hl]) rfl
    .intro ρ y W L E G s z C D;refine fZ aH (λ_ _ h=>h) C ?_;have ki:=E 99 7 rfl;have h7:y 7=_:=D 7 rfl;obtain⟨a,c,l,m1,m2,M⟩:=C;have M:=(M _ (bB.2 rfl)).1;refine ak (.bool false) (aj rfl) (by simp[execOp,go_sem,ki,h7,M.cell]) rfl
    .intro ρ y W L E G s z C D;refine fZ aH (λ_ _ h=>h) C ?_;have hR:=E 105 13 rfl;have hJ:y 13=_:=D 13 rfl;have kl:=E 108 16 rfl;have kT:y 16=_:=D 16 rfl;refine ak (.bool false) (aj rfl) (qI rfl (hR.trans hJ) (by exact(G (.const _) trivial).trans rfl)) ⟨false,λh=>(by cases h),rfl⟩
    .intro ρ y W L E G s z C D;refine fZ aH (λ_ _ h=>h) C ?_;have kj:=E 98 6 rfl;have Z:y 6=_:=D 6 rfl;have hQ:=E 109 17 rfl;have kg:=D 17 rfl;obtain⟨u,hr,K⟩:=kg;have EC:∀v,ρ (.const v)=v:=λv=>G (.const v) trivial;refine ak (.agg #[.int .i64 1,.int .i64 (f:Int),.bool u]) (aj rfl) (by simp[execOp,go_sem,kj,Z,hQ,EC,K]) ⟨u,hr,rfl⟩
    intro y W6 hB d;have ks:((dF λv => ∃u,(u=true->false=true)/\v = .bool u)).r (y 17) W6:=d 17 (by decide);have hK:((dF λv => ∃u,(u=true->false=true)/\v = .agg #[.int .i64 1,.int .i64 (f:Int),.bool u])).r (y 18) W6:=d 18 (by decide);clear d;obtain⟨a6,c6,l6,Z,R,_⟩:=hB;obtain⟨u,hr,K⟩:=hK;rw[K];clear K;obtain⟨gT',oT',curT,hk,hO,hy,hs,_,ha⟩:=fD.ent (S:=S5.lst a6 c6 l6) Z (p:=p) (n:=n) o.out G (hI.out _ rfl);have e9:(some (⟨gT',oT',none⟩:Addr))=some ⟨Y,U,none⟩:=hk.symm.trans hl;cases e9;have hL:(p:Int)<(S5.T.length:Int):=by have:=o.out;omega
    have ka:(n:Int)<64:=by omega
    have hh:=ae ha;have R:=s5.trans R;clear ha hk h5 s5
    go_wp2_with (refine aB rfl _ _ _ rfl Y (U+p*192+n*3) _ (lY ⟨1,f,u⟩) rfl rfl rfl _ _ hy (by rw[gz];exact hs) (by kernel_rfl) (bT (jB _)) ?_)
    intro w7 hC hi;have h7:=hh.out w7 ⟨1,f,u⟩ hC hi;have s7:=R.put (H':={ S5.lst a6 c6 l6 with T:=setL (S5.lst a6 c6 l6).T p n ⟨1,f,u⟩ }) hi (.inr (by simp only[iW,MW.lst,hl];simp[oB];right;right;right;right;right;right;right;right;rfl)) (λx hx => .inl hx);clear hy hC hi Z R;go_wp2;refine bodyPost_ret (v:=.tuple #[]) (by simp[results,go_sem,results78]) rfl ?_;exact⟨_,rfl,h7,s7,⟨i.out.sp,i.out.fi,i.out.ct,i.out.dk,i.out.fl,i.out.sl⟩,hH.out u (λh=>by first | exact trivial | exact⟨rfl,rfl⟩ | exact absurd (hr h) (by decide) | simp),hA.out _⟩
  rw[decide_eq_false hF];obtain rfl:gsh=false:=by
   cases gsh with
   | false=>rfl
   | true=>exact absurd ⟨hsh rfl,.inl rfl⟩ hF
  have ke:=ae hm.out.few;have gv:S.H.sl.length<=60:=ke.out.2.1;have hc:=h2.blk.cell;unfold jI at hc;dsimp only[MW.lst]at hc;clear hF hsh;go_upto_region 12 with(fail)
  go_cut [113] (fun s113 wx=>s113 = .bool (decide (x=2/\0<S.H.sl.length))/\wx=w2)
  case first=>
   by_cases hx2:x=2
   .have k3:(x==2)=true:=by simp[hx2]
    have k5:=ae hx2;clear hx2
    by_cases hsl:0<S.H.sl.length
    .have k9:(0:Int)<(S.H.sl.length:Int):=by omega
     go_wp2;go_meet
     case rel=>exact⟨by rw[decide_eq_true ⟨k5.out,hsl⟩],rfl⟩
    have k9:¬(0:Int)<(S.H.sl.length:Int):=by omega
    go_wp2;go_meet
    case rel=>exact⟨by rw[decide_eq_false (λh=>hsl h.2)],rfl⟩
   have k3:(x==2)=false:=by simp[hx2]
   go_wp2;go_meet
   case rel=>exact⟨by rw[decide_eq_false (λh=>hx2 h.1)],rfl⟩
  case rest=>
   obtain⟨rfl,gu⟩:=hcut;subst wc
   by_cases hS:x=2/\0<S.H.sl.length
   .rw[decide_eq_true hS];have hsl:=hS.2;clear hS
    go_wp2_with fail
    refine(fV _ _ B b _ h2 (by omega)).mono ?_;rintro r w3 ⟨y3,a3,c3,l3,rfl,h3,s3,k1,_⟩;rw[oK]at h3 s3;have s3:=s2.trans s3;obtain⟨N,rfl⟩:=iL k1.1;have kC:N<S.H.sl.length:=by omega
    have gS:(N:Int)<(S.H.sl.length:Int):=by omega
    clear h2 s2 bx2 hG hc k1;have hc:=h3.blk.cell;unfold jI at hc;dsimp only[MW.lst]at hc;obtain⟨gs,off,cap,cur,hv,kJ,hN,ko,hU,hW⟩:=Own.put (enc:=λx=>[gB x]) (sz:=1) (l:=S.H.sl) (λ_=>rfl) Nat.one_pos (by rw[kv];exact h3.ma.sl) N kC;have kQ:S.H.asl=some ⟨gs,off,none⟩:=(oU hv).1;rw[kQ]at hc;rw[uu]at ko hU hW;have c0:w3.cell? ⟨gs,off+N,none⟩=some (.int .i64 S.H.sl[N]):=hU 0 _ rfl;have k0:Hid (jS S.H.ma N=S.H.sl[N]):=ae (by unfold jS;show S.H.sl.getD N 0=_;rw[aY,aF kC];rfl);have hV:=ae hW;clear hv hW hU;generalize S.H.sl[N]=v0 at c0 k0
    by_cases hz:v0=0
    .subst hz
     go_wp2_with (refine aB rfl _ _ _ rfl gs (off+N) _ [.int .i64 1] rfl rfl rfl _ _ hN (by show off+N+1<=cur.size;omega) (by kernel_rfl) (λu K=>by cases bB.1 K;rfl) ?_)
     intro w4 gh kL;have kI:oB (S.lst a3 c3 l3).H.asl=some gs:=by show oB S.H.asl=some gs;rw[kQ];rfl
     have h4:fD w4 B b { S.lst a3 c3 l3 with H:={ S.H with sl:=S.H.sl.set N 1 } }:=h3.putS hN kJ kI kL (sl:=S.H.sl.set N 1) (by simp[MW.lst]) (by have:=hV.out w4 1 gh;rw[kv]at this;simpa[MW.lst]using this);have s4:=s3.put (H':={ S.lst a3 c3 l3 with H:={ S.H with sl:=S.H.sl.set N 1 } }) kL (.inr (by simp[iW,kI])) (λx hx => .inl hx);have gR:S.H.sw.blocks.length=S.H.sl.length:=ke.out.2.2.2.2.2.2.2;have gF:Hid (Ka S { S.lst a3 c3 l3 with H:={ S.H with sl:=S.H.sl.set N 1 } }):=ae ⟨rfl,rfl,rfl,rfl,rfl,bL⟩;have kq:S.T.length=S.H.sp.length:=by have:=hm.out.ok.len;rw[this];exact dV _
     have hD:p<S.T.length:=by omega
     have gG:(fO S.T p).length=64:=hm.out.ok.l64 (by rw[<-hm.out.ok.len];exact hD);have hH:Hid (∀P,Bd { S.H.ma with sl:=S.H.sl.set N 1,sw:=⟨S.H.sw.blocks.set N P,S.H.sw.queue⟩ } (setL S.T p n ⟨2,N,false⟩)):=ae λP=>
      hm.out.slotE (P:=P) (by rw[<-hm.out.ok.len];exact hD) G kU.out kC k0.out kM.out rfl
     have hA:Hid (∀x q j,¬(q=p/\j=n)->fU (setL S.T p n x) q j=fU S.T q j):=ae λx q j kb=>by rw[xI hm.out.ok (by rw[<-hm.out.ok.len];exact hD) G,if_neg kb]
     obtain⟨gw,ow,capw,curw,k8,gU,_,_,_,_⟩:=h4.ma.sw.b.put nM (by decide) N (by show N<S.H.sw.blocks.length;omega);have kf:S.H.wb=some ⟨gw,ow,none⟩:=(oU k8).1;generalize hS4:({ S.lst a3 c3 l3 with H:={ S.H with sl:=S.H.sl.set N 1 } }:MW)=S4 at h4 s4 gF;have kf:S4.H.wb=some ⟨gw,ow,none⟩:=by rw[<-hS4];exact kf
     have ku:S4.H.sw=S.H.sw:=by rw[<-hS4]
     clear h3 s3 gh kL hN ko c0 hc kQ kI k8;go_upto_region 16 with(fail);refine iI 9 [_,_,_,_,_,.v (.slice (some ⟨gw,ow,none⟩) S4.H.sw.blocks.length S4.H.cwb),.v (.int .i64 (N:Int)),_,.r 8 ((dF λv => ∃P,v = .agg (eQ P)))] (Mk S4 B b w4 []) aH (λ_=>⟨S4.al,S4.cl,S4.l,h4,MS.refl _ _ _,λt ht=>(by cases ht)⟩) (Qk aH rfl (Qk aH rfl (Qf aH b 1 rfl rfl (Qf aH b 4 rfl rfl (Qf aH b 4 rfl rfl (ah ?_ (Qk aH rfl (Qk aH rfl (ah ?_ (aI)))))))))) (λ_=>rfl) rfl ?_
     .intro ρ y W L E G s z C D;refine fZ aH (λ_ _ h=>h) C ?_;have gm:=E 153 4 rfl;have h4:y 4=_:=D 4 rfl;obtain⟨a,c,l,m1,m2,M⟩:=C;refine ak (.slice (some ⟨gw,ow,none⟩) S4.H.sw.blocks.length S4.H.cwb) (aj rfl) (by simp[execOp,go_sem,gm,h4,m1.blk.cell,jI,MW.lst,kf]) rfl
     .intro ρ y W L E G s z C D;have gl:=E 156 7 rfl;have h7:y 7=_:=D 7 rfl;have EF:=eF0 G λ_=>trivial;refine jd _ _ (aj rfl) (aS rfl (EF _) func35 (by kernel_rfl) (by kernel_rfl) (by simp only[bW,bQ,aZ,gl,h7,EF];rfl)) ?_;exact TP C λP _=>⟨P,rfl⟩
     intro y W6 hB d;have gq:((dF λv => ∃P,v = .agg (eQ P))).r (y 8) W6:=d 8 (by decide);clear d;obtain⟨a6,c6,l6,Z,R,_⟩:=hB;obtain⟨P,hP⟩:=gq;rw[hP];clear hP;have R:=s4.trans R;obtain⟨gw',ow',capw',curw',kt,kH,kc,kz,_,ky⟩:=Z.ma.sw.b.put nM (by decide) N (by show N<S4.H.sw.blocks.length;rw[ku];omega);have e9:(some (⟨gw',ow',none⟩:Addr))=some ⟨gw,ow,none⟩:=(oU kt).1.symm.trans kf;cases e9;have gx:(N:Int)<(S4.H.sw.blocks.length:Int):=by rw[ku];omega
     have kG:=ae ky;clear kt ky h4 s4
     go_wp2_with (refine aB rfl _ _ _ rfl gw (ow+N*8) _ (Dy P) rfl rfl rfl _ _ kc (by rw[nM];exact kz) (by kernel_rfl) (bT (fM P)) ?_)
     intro w7 hC hi;have kA:oB (S4.lst a6 c6 l6).H.wb=some gw:=by show oB S4.H.wb=some gw;rw[kf];rfl
     have h7:fD w7 B b { S4.lst a6 c6 l6 with H:={ S4.H with sw:=⟨S4.H.sw.blocks.set N P,S4.H.sw.queue⟩ } }:=Z.putW kc kH kA hi (l:=S4.H.sw.blocks.set N P) (by simp[MW.lst]) (by simpa[MW.lst]using kG.out w7 P hC);have s7:=R.put (H':={ S4.lst a6 c6 l6 with H:={ S4.H with sw:=⟨S4.H.sw.blocks.set N P,S4.H.sw.queue⟩ } }) hi (.inr (by simp[iW,kA])) (λx hx => .inl hx);clear Z R kc hC hi kz gx;subst hS4;dsimp only[MW.lst]at h7 s7;obtain⟨Y,U,curT,hl,hO,hy,hs,_,ha⟩:=fD.ent h7 (p:=p) (n:=n) hD G gG;have hl:S.ab=some ⟨Y,U,none⟩:=hl;have hc:=h7.blk.cell;unfold jI at hc;dsimp only at hc;rw[hl]at hc;have hL:(p:Int)<(S.T.length:Int):=by omega
     have ka:(n:Int)<64:=by omega
     have hh:=ae ha;clear ha
     go_wp2_with (refine aB rfl _ _ _ rfl Y (U+p*192+n*3) _ (lY ⟨2,N,false⟩) rfl rfl rfl _ _ hy (by rw[gz];exact hs) (by kernel_rfl) (bT (jB _)) ?_)
     intro w8 gg kK;have h8:=hh.out w8 ⟨2,N,false⟩ gg kK;have s8:=s7.put kK (.inr (by simp only[iW,hl];simp[oB];right;right;right;right;right;right;right;right;rfl)) (λx hx => .inl hx) (H':=_);clear h7 s7 hc gg kK hy;go_wp2;refine bodyPost_ret (v:=.tuple #[]) (by simp[results,go_sem,results78]) rfl ?_;exact⟨_,rfl,h8,s8.same rfl,⟨rfl,rfl,rfl,rfl,rfl,bL⟩,hH.out P,hA.out _⟩
    go_wp2;refine bodyPost_ret (v:=.tuple #[]) (by simp[results,go_sem,results78]) rfl ?_;exact⟨_,rfl,h3,s3,⟨rfl,rfl,rfl,rfl,rfl,rfl⟩,hm.out,λ_ _ _=>rfl⟩
   rw[decide_eq_false hS];clear hS hc
   go_wp2_with fail
   refine(yQ _ B b _ h2).mono ?_;rintro r w3 ⟨P,a3,c3,l3,rfl,h3,s3⟩;rw[oK]at h3 s3;have bx3:=s3.blkN bx2 hT.out;have s3:=s2.trans s3;clear h2 s2 bx2 hG;have hG:=bx3.cell;unfold eQ
   go_wp2_with fail
   refine(fV _ 2 B b _ h3 (by omega)).mono ?_;rintro r w4 ⟨y3,a4,c4,l4,rfl,h4,s4,_,_⟩;rw[oK]at h4 s4;have bx4:=s4.blkN bx3 hT.out;have s4:=s3.trans s4;clear h3 s3 bx3 hG;have hG:=bx4.cell
   go_wp2_with fail
   refine(Fu _ ⟨P,1,y3==1,false,-1,0⟩ B b _ h4 (by have:=ke.out.1;show S.H.m.fs.length<=1000;have e:S.H.ma.m.fs.length=S.H.m.fs.length:=rfl;omega)).mono ?_;rintro r w5 ⟨xf,a5,c5,l5,fs,rfl,h5,s5,gr⟩;rw[oK]at h5 s5;have bx5:=s5.blkN bx4 hT.out;have hM:=ae (s5.not bx4.lt hT.out);have s5:=s4.trans s5;clear h4 s4 bx4 hG;rcases gr with⟨rfl,rfl⟩|⟨f,rfl,hj,hjr,rfl⟩
   .go_wp2;refine bodyPost_ret (v:=.tuple #[]) (by simp[results,go_sem,results78]) rfl ?_;exact⟨_,rfl,h5,s5,⟨rfl,rfl,rfl,rfl,rfl,rfl⟩,hm.out,λ_ _ _=>rfl⟩
   have gC:f<S.H.m.fs.length:=hj;have kq:S.T.length=S.H.sp.length:=by have:=hm.out.ok.len;rw[this];exact dV _
   have hD:p<S.T.length:=by omega
   have hH:Hid (∀u:Bool,(u=true->gwr=true)->Bd ((S.lst a5 c5 l5).frs (S.H.m.fs.set f ⟨P,1,y3==1,false,-1,0⟩)).H.ma (setL ((S.lst a5 c5 l5).frs (S.H.m.fs.set f ⟨P,1,y3==1,false,-1,0⟩)).T p n ⟨1,f,u⟩)):=ae λu K=>
    hm.out.anonE (X:=⟨P,1,y3==1,false,-1,0⟩) (w:=u) (by rw[<-hm.out.ok.len];exact hD) G kU.out gC hjr ⟨rfl,rfl,rfl,rfl⟩ kM.out rfl K
   have i:Hid (Ka S ((S.lst a5 c5 l5).frs (S.H.m.fs.set f ⟨P,1,y3==1,false,-1,0⟩))):=ae ⟨rfl,rfl,rfl,rfl,bL,rfl⟩;have hA:Hid (∀x q j,¬(q=p/\j=n)->fU (setL ((S.lst a5 c5 l5).frs (S.H.m.fs.set f ⟨P,1,y3==1,false,-1,0⟩)).T p n x) q j=fU S.T q j):=ae λx q j kb=>by show fU (setL S.T p n x) q j=_;rw[xI hm.out.ok (by rw[<-hm.out.ok.len];exact hD) G,if_neg kb]
   have o:Hid (p<((S.lst a5 c5 l5).frs (S.H.m.fs.set f ⟨P,1,y3==1,false,-1,0⟩)).T.length):=ae hD;have hI:Hid (∀S' : MW,S'.T=((S.lst a5 c5 l5).frs (S.H.m.fs.set f ⟨P,1,y3==1,false,-1,0⟩)).T->(fO S'.T p).length=64):=ae λS' e=>by rw[e];exact hm.out.ok.l64 (by rw[<-hm.out.ok.len];exact hD)
   have h5:fD w5 B b ((S.lst a5 c5 l5).frs (S.H.m.fs.set f ⟨P,1,y3==1,false,-1,0⟩)):=h5;have s5:MS w b S w5 ((S.lst a5 c5 l5).frs (S.H.m.fs.set f ⟨P,1,y3==1,false,-1,0⟩)):=s5;have hM:Hid (¬nL b ((S.lst a5 c5 l5).frs (S.H.m.fs.set f ⟨P,1,y3==1,false,-1,0⟩)) w.heap.size):=hM;have gY:(0:Int)<=(f:Int):=by omega
   clear hj hjr hD kq;generalize (S.lst a5 c5 l5).frs (S.H.m.fs.set f ⟨P,1,y3==1,false,-1,0⟩)=S5 at *
   obtain⟨Y,U,_,hl,_⟩:=fD.ent (S:=S5) h5 (p:=p) (n:=n) o.out G (hI.out _ rfl);go_upto_region 4 with(fail);cases gwr with
   | true=>
    skip;refine iI 16 [_,_,_,.v (.slice (some ⟨Y,U,none⟩) S5.T.length S5.cb),_,.v (.int .i64 (n:Int)),_,_,.v (.bool true),_,_,.r 11 ((dF λv => ∃x:Int,v = .int .i64 x/\0<=x)),.r 12 ((dF λv => ∃u,v = .bool u)),.r 13 ((dF λv => ∃u,(u=true->true=true)/\v = .bool u)),.r 14 ((dF λv => ∃u,(u=true->true=true)/\v = .agg #[.int .i64 1,.int .i64 (f:Int),.bool u])),_] (Mk S5 B b w5 [(w.heap.size,#[.bool true,.bool grd,.bool true,.bool false,.int .i64 gfi,.int .i64 (I:Int)],80)]) aH (λ_=>⟨S5.al,S5.cl,S5.l,h5,MS.refl _ _ _,by simpa using⟨bx5,hM.out⟩⟩) (Qk aH rfl (Qk aH rfl (Qf aH b 12 rfl rfl (ah ?_ (Qk aH rfl (Qk aH rfl (Qk aH rfl (Qf aH w.heap.size 2 rfl rfl (ah ?_ (Qk aH rfl (Qk aH rfl (ah ?_ (ah ?_ (ah ?_ (ah ?_ (Qr aH (.pointer (some ⟨Y,U+p*192,none⟩)) (λρ y W hq=>(cO rfl (aL rfl hq) (aL rfl hq) o.out underlying96 ents_size)) rfl rfl (aI))))))))))))))))) (λ_=>rfl) rfl ?_
    .intro ρ y W L E G s z C D;refine fZ aH (λ_ _ h=>h) C ?_;have kZ:=E 26 2 rfl;have h2:y 2=_:=D 2 rfl;obtain⟨a,c,l,m1,m2,M⟩:=C;refine ak (.slice (some ⟨Y,U,none⟩) S5.T.length S5.cb) (aj rfl) (by simp[execOp,go_sem,kZ,h2,m1.blk.cell,jI,MW.lst,hl]) rfl
    .intro ρ y W L E G s z C D;refine fZ aH (λ_ _ h=>h) C ?_;have kX:=E 31 7 rfl;have h7:y 7=_:=D 7 rfl;obtain⟨a,c,l,m1,m2,M⟩:=C;have M:=(M _ (bB.2 rfl)).1;refine ak (.bool true) (aj rfl) (by simp[execOp,go_sem,kX,h7,M.cell]) rfl
    .intro ρ y W L E G s z C D;have gL:=E 34 10 rfl;have kh:y 10=_:=D 10 rfl;have EC:∀v,ρ (.const v)=v:=λv=>G (.const v) trivial;have EF:=eF0 G λ_=>trivial;refine jd _ _ (bG 9 33 true true rfl rfl ((E 33 9 rfl).trans (D 9 rfl))) (aS rfl (EF _) func32 (by kernel_rfl) (by kernel_rfl) (by simp only[bW,bQ,aZ,gL,kh,EC,EF];rfl)) ?_;exact zZ 2 (by omega) C λx h1 _ _ _=>⟨x,rfl,h1⟩
    .intro ρ y W L E G s z C D;refine fZ aH (λ_ _ h=>h) C ?_;have gK:=E 35 11 rfl;have gJ:=D 11 rfl;obtain⟨x,hx,_⟩:=gJ;refine ak _ (bG 9 33 true true rfl rfl ((E 33 9 rfl).trans (D 9 rfl))) (qz rfl (gK.trans hx) (G (.const _) trivial) (by simp[go_sem];rfl)) ⟨_,rfl⟩
    .intro ρ y W L E G s z C D;refine fZ aH (λ_ _ h=>h) C ?_;have kW:=E 33 9 rfl;have h9:y 9=_:=D 9 rfl;have gk:=E 36 12 rfl;have gj:=D 12 rfl;obtain⟨u,K⟩:=gj;refine ak (.bool u) (aj rfl) (qI rfl (kW.trans h9) (by simpa using gk.trans K)) ⟨_,λ_=>rfl,rfl⟩
    .intro ρ y W L E G s z C D;refine fZ aH (λ_ _ h=>h) C ?_;have kY:=E 30 6 rfl;have Z:y 6=_:=D 6 rfl;have kV:=E 37 13 rfl;have hJ:=D 13 rfl;obtain⟨u,hr,K⟩:=hJ;have EC:∀v,ρ (.const v)=v:=λv=>G (.const v) trivial;refine ak (.agg #[.int .i64 1,.int .i64 (f:Int),.bool u]) (aj rfl) (by simp[execOp,go_sem,kY,Z,kV,EC,K]) ⟨u,hr,rfl⟩
    intro y W6 hB d;have gP:((dF λv => ∃x:Int,v = .int .i64 x/\0<=x)).r (y 11) W6:=d 11 (by decide);have gO:((dF λv => ∃u,v = .bool u)).r (y 12) W6:=d 12 (by decide);have k2:((dF λv => ∃u,(u=true->true=true)/\v = .bool u)).r (y 13) W6:=d 13 (by decide);have hZ:((dF λv => ∃u,(u=true->true=true)/\v = .agg #[.int .i64 1,.int .i64 (f:Int),.bool u])).r (y 14) W6:=d 14 (by decide);clear d;obtain⟨a6,c6,l6,Z,R,_⟩:=hB;obtain⟨u,hr,K⟩:=hZ;rw[K];clear K;obtain⟨gT',oT',curT,hk,hO,hy,hs,_,ha⟩:=fD.ent (S:=S5.lst a6 c6 l6) Z (p:=p) (n:=n) o.out G (hI.out _ rfl);have e9:(some (⟨gT',oT',none⟩:Addr))=some ⟨Y,U,none⟩:=hk.symm.trans hl;cases e9;have hL:(p:Int)<(S5.T.length:Int):=by have:=o.out;omega
    have ka:(n:Int)<64:=by omega
    have hh:=ae ha;have R:=s5.trans R;clear ha hk h5 s5
    go_wp2_with (refine aB rfl _ _ _ rfl Y (U+p*192+n*3) _ (lY ⟨1,f,u⟩) rfl rfl rfl _ _ hy (by rw[gz];exact hs) (by kernel_rfl) (bT (jB _)) ?_)
    intro w7 hC hi;have h7:=hh.out w7 ⟨1,f,u⟩ hC hi;have s7:=R.put (H':={ S5.lst a6 c6 l6 with T:=setL (S5.lst a6 c6 l6).T p n ⟨1,f,u⟩ }) hi (.inr (by simp only[iW,MW.lst,hl];simp[oB];right;right;right;right;right;right;right;right;rfl)) (λx hx => .inl hx);clear hy hC hi Z R;go_wp2;refine bodyPost_ret (v:=.tuple #[]) (by simp[results,go_sem,results78]) rfl ?_;exact⟨_,rfl,h7,s7,⟨i.out.sp,i.out.fi,i.out.ct,i.out.dk,i.out.fl,i.out.sl⟩,hH.out u (λh=>by first | exact trivial | exact⟨rfl,rfl⟩ | exact absurd (hr h) (by decide) | simp),hA.out _⟩
   | false=>
    skip;refine iI 16 [_,_,_,.v (.slice (some ⟨Y,U,none⟩) S5.T.length S5.cb),_,.v (.int .i64 (n:Int)),_,_,.v (.bool false),_,_,_,_,.r 13 ((dF λv => ∃u,(u=true->false=true)/\v = .bool u)),.r 14 ((dF λv => ∃u,(u=true->false=true)/\v = .agg #[.int .i64 1,.int .i64 (f:Int),.bool u])),_] (Mk S5 B b w5 [(w.heap.size,#[.bool true,.bool grd,.bool false,.bool false,.int .i64 gfi,.int .i64 (I:Int)],80)]) aH (λ_=>⟨S5.al,S5.cl,S5.l,h5,MS.refl _ _ _,by simpa using⟨bx5,hM.out⟩⟩) (Qk aH rfl (Qk aH rfl (Qf aH b 12 rfl rfl (ah ?_ (Qk aH rfl (Qk aH rfl (Qk aH rfl (Qf aH w.heap.size 2 rfl rfl (ah ?_ (Qk aH rfl (Qk aH rfl (Qk aH rfl (Qk aH rfl (ah ?_ (ah ?_ (Qr aH (.pointer (some ⟨Y,U+p*192,none⟩)) (λρ y W hq=>(cO rfl (aL rfl hq) (aL rfl hq) o.out underlying96 ents_size)) rfl rfl (aI))))))))))))))))) (λ_=>rfl) rfl ?_
    .intro ρ y W L E G s z C D;refine fZ aH (λ_ _ h=>h) C ?_;have kZ:=E 26 2 rfl;have h2:y 2=_:=D 2 rfl;obtain⟨a,c,l,m1,m2,M⟩:=C;refine ak (.slice (some ⟨Y,U,none⟩) S5.T.length S5.cb) (aj rfl) (by simp[execOp,go_sem,kZ,h2,m1.blk.cell,jI,MW.lst,hl]) rfl
    .intro ρ y W L E G s z C D;refine fZ aH (λ_ _ h=>h) C ?_;have kX:=E 31 7 rfl;have h7:y 7=_:=D 7 rfl;obtain⟨a,c,l,m1,m2,M⟩:=C;have M:=(M _ (bB.2 rfl)).1;refine ak (.bool false) (aj rfl) (by simp[execOp,go_sem,kX,h7,M.cell]) rfl
    .intro ρ y W L E G s z C D;refine fZ aH (λ_ _ h=>h) C ?_;have kW:=E 33 9 rfl;have h9:y 9=_:=D 9 rfl;have gk:=E 36 12 rfl;have gj:y 12=_:=D 12 rfl;refine ak (.bool false) (aj rfl) (qI rfl (kW.trans h9) (by exact(G (.const _) trivial).trans rfl)) ⟨false,λh=>(by cases h),rfl⟩
    .intro ρ y W L E G s z C D;refine fZ aH (λ_ _ h=>h) C ?_;have kY:=E 30 6 rfl;have Z:y 6=_:=D 6 rfl;have kV:=E 37 13 rfl;have hJ:=D 13 rfl;obtain⟨u,hr,K⟩:=hJ;have EC:∀v,ρ (.const v)=v:=λv=>G (.const v) trivial;refine ak (.agg #[.int .i64 1,.int .i64 (f:Int),.bool u]) (aj rfl) (by simp[execOp,go_sem,kY,Z,kV,EC,K]) ⟨u,hr,rfl⟩
    intro y W6 hB d;have k2:((dF λv => ∃u,(u=true->false=true)/\v = .bool u)).r (y 13) W6:=d 13 (by decide);have hZ:((dF λv => ∃u,(u=true->false=true)/\v = .agg #[.int .i64 1,.int .i64 (f:Int),.bool u])).r (y 14) W6:=d 14 (by decide);clear d;obtain⟨a6,c6,l6,Z,R,_⟩:=hB;obtain⟨u,hr,K⟩:=hZ;rw[K];clear K;obtain⟨gT',oT',curT,hk,hO,hy,hs,_,ha⟩:=fD.ent (S:=S5.lst a6 c6 l6) Z (p:=p) (n:=n) o.out G (hI.out _ rfl);have e9:(some (⟨gT',oT',none⟩:Addr))=some ⟨Y,U,none⟩:=hk.symm.trans hl;cases e9;have hL:(p:Int)<(S5.T.length:Int):=by have:=o.out;omega
    have ka:(n:Int)<64:=by omega
    have hh:=ae ha;have R:=s5.trans R;clear ha hk h5 s5
    go_wp2_with (refine aB rfl _ _ _ rfl Y (U+p*192+n*3) _ (lY ⟨1,f,u⟩) rfl rfl rfl _ _ hy (by rw[gz];exact hs) (by kernel_rfl) (bT (jB _)) ?_)
    intro w7 hC hi;have h7:=hh.out w7 ⟨1,f,u⟩ hC hi;have s7:=R.put (H':={ S5.lst a6 c6 l6 with T:=setL (S5.lst a6 c6 l6).T p n ⟨1,f,u⟩ }) hi (.inr (by simp only[iW,MW.lst,hl];simp[oB];right;right;right;right;right;right;right;right;rfl)) (λx hx => .inl hx);clear hy hC hi Z R;go_wp2;refine bodyPost_ret (v:=.tuple #[]) (by simp[results,go_sem,results78]) rfl ?_;exact⟨_,rfl,h7,s7,⟨i.out.sp,i.out.fi,i.out.ct,i.out.dk,i.out.fl,i.out.sl⟩,hH.out u (λh=>by first | exact trivial | exact⟨rfl,rfl⟩ | exact absurd (hr h) (by decide) | simp),hA.out _⟩
def QQ(B:Nat):mV:=⟨λv w => ∃g,v = .pointer (some ⟨g,0,none⟩)/\aG w g (fC f0) 81/\B<=g,λ_ _ _ hb ⟨g,h1,h2,h3⟩=>⟨g,h1,h2.ext hb,h3⟩⟩
theorem Pe{l:List mV}(n:l.getD q anyR=QQ B)(j:l.getD p anyR=QQ B):GU (rl l) p q i (.pointer (some ⟨w.heap.size,0,none⟩)) w:=by
 refine LQ (λu d => ?_) (λu d => ?_)
 .unfold rl at d;rw[n]at d;obtain⟨g,f,h2,_⟩:=d;exact⟨g,_,_,f,h2⟩
 unfold rl at d;rw[j]at d;obtain⟨g,f,h2,_⟩:=d;exact⟨g,_,_,f,h2⟩
theorem Em{l:List mV}(v:Value)(f:Region.wanted o (iw ρ ops)=true)(d:(execOp ρ o).run P w = .ok (.value v) w')(j:Below w.heap.size w w')(n:rl l i v w')(s:GU (rl l) p q i v w) :
  if Region.wanted o (iw ρ ops)=true then dZ P o ρ w (λv w'=>(Below w.heap.size w w'/\rl l i v w')/\GU (rl l) p q i v w)else rl l i undef w/\i≠p/\i≠q:=by
 rw[if_pos f];unfold dZ;rw[d];exact⟨⟨j,n⟩,s⟩
theorem SF(l:List Ar)(x:Ar)(a:Option Addr)(c:Nat)(w:World)(h:XA w a c l) :
  Calls Tryz.prog 77 #[.slice a l.length c,.agg (ky x)] w λr w' => ∃v,r = .returned (.tuple #[v,.int .i64 (Ca l x)])/\Own w' w.heap.size 94 7 v (zn l x).length ((zn l x).flatMap mX)/\Below w.heap.size w w':=by
 go_enter func77,ntmps77;go_upto_region 1 with(fail);refine iG (λW=>Code.wp _ _ _ _ W) λW0 hT h5 km => ?_;clear km
 go_wp2_with fail
 refine(EU l a c _ (h.below hT)).mono ?_;rintro r w1 ⟨rfl,N⟩;have hs:=ag hT N;have h4:=h5.ext N;clear hT h5 N;unfold Kj
 go_wp2_with (refine aK rfl _ _ _ rfl #[.int .i64 (bP l).1,.int .i64 (bP l).2] rfl rfl rfl fau_size (nO _ _) ?_)
 intro w2 hS hv;have b:=ag hs hS;have hL:=h4.ext hS;clear hs h4 hS
 by_cases C:(bP l).1=0
 .have ht:=iZ.1 C;have hM:=ae C;have Z:=lI ht.2;rw[C]at hv;have ka:=hv.cell;clear C
  go_wp2_with (refine ay _ _ rfl _ 0 rfl rfl _ hL.rd _ underlying94 rfl area_size ?_)
  refine(Ih x _).mono ?_;rintro r w3 ⟨rfl,hR⟩;have b:=ag b hR;have hZ:=hL.ext hR;clear ka hv hL hR
  by_cases M:aU x=0
  .have o:=ae M;rw[M];clear M;go_upto_region 7 with(fail);refine RL 7 5 6 [mZ (.slice a l.length c),mZ (.agg (fC (cZ l))),mZ (.agg (ky x)),(Yv x),mZ (.agg (fC (cZ [x]))),(QQ w.heap.size),(QQ w.heap.size)] (by kernel_rfl) (by decide) (by decide) (by decide) _ rfl (by kernel_rfl) (by kernel_rfl) (by decide) _ rfl (by kernel_rfl) (ah (vJ (by decide) (by decide) (YH (YD rfl) (YI rfl (YJ rfl rfl) rfl))) (ah ?_ (ah ?_ (ah ?_ (ah ?_ (ah ?_ (ah ?_ (aI)))))))) ?_
   .refine vJ (by decide) (by decide) ?_;intro ρ y W C E F H;have kt:=C 23 0 rfl;have h0:y 0=_:=H 0 rfl;have EF:=eF0 E λ_=>trivial;refine aO _ _ (aj rfl) (aS rfl (EF _) func24 (by kernel_rfl) (by kernel_rfl) (by simp only[bW,bQ,aZ,kt,h0,EF];rfl)) ?_;refine(nJ l a c W (h.below (ag b F)).rd (by omega) (λx hx=>(srtF_ok Z x hx).1)).mono ?_;rintro r w1 ⟨rfl,N⟩;exact⟨_,rfl,N,rfl⟩
   .refine vJ (by decide) (by decide) ?_;intro ρ y W C E F H;have E3:ρ (.tmp 3) = .pointer (some ⟨w.heap.size,0,none⟩):=(E (.tmp 3) rfl).trans rfl;refine ak (.agg (ky x)) (aj rfl) (eD rfl E3 (hZ.ext F) underlying94 rfl area_size) rfl
   .refine vJ (by decide) (by decide) ?_;intro ρ y W C E F H;have ks:=C 25 2 rfl;have h2:y 2=_:=H 2 rfl;refine jh (.slice (some ⟨W.heap.size,0,none⟩) 1 1) (aj rfl) (by simp[execOp,go_sem,bU,ks,h2,ky]) ((Below.refl _ _).alloc (az _) (.cells (ky x) 94)) ?_;exact⟨_,rfl,aG.new _ _ _⟩
   .refine vJ (by decide) (by decide) ?_;intro ρ y W C E F H;have kr:=C 26 3 rfl;have h3:=H 3 rfl;have EF:=eF0 E λ_=>trivial;obtain⟨gq,ko,kn⟩:=h3;refine aO _ _ (aj rfl) (aS rfl (EF _) func24 (by kernel_rfl) (by kernel_rfl) (by simp only[bW,bQ,aZ,kr,EF,ko];rfl)) ?_;refine(nJ [x] _ 1 W (λj u hj=>kn.rd j u (by simpa[mX]using hj)) (by simp) (λz hz=>by rw[bB.1 hz];exact o.out)).mono ?_;rintro r w1 ⟨rfl,N⟩;exact⟨_,rfl,N,rfl⟩
   .intro ρ y W C E F H;refine Em (.pointer (some ⟨W.heap.size,0,none⟩)) (aj rfl) (w':=W.alloc (.cells (fC f0) 81)) ?_ ((Below.refl _ _).alloc (az _) _) ⟨_,rfl,aG.new _ _ _,(ag b F).size⟩ (Pe rfl rfl);simp[execOp,go_sem,bU,bU];rfl
   .intro ρ y W C E F H;refine Em (.pointer (some ⟨W.heap.size,0,none⟩)) (aj rfl) (w':=W.alloc (.cells (fC f0) 81)) ?_ ((Below.refl _ _).alloc (az _) _) ⟨_,rfl,aG.new _ _ _,(ag b F).size⟩ (Pe rfl rfl);simp[execOp,go_sem,bU,bU];rfl
   intro y WA hH d hB;have hW:y 1=_:=d 1 (by decide);have hV:y 4=_:=d 4 (by decide);have kl:=d 3 (by decide);have kk:((QQ w.heap.size)).r (y 5) WA:=d 5 (by decide);have kj:((QQ w.heap.size)).r (y 6) WA:=d 6 (by decide);clear d;simp only[lay,dm,bU,bQ,aZ,Nat.reduceAdd,Nat.reduceLT,decide_true,decide_false,if_true,uU,if_false,Ak,qD,uf,yx,AA,xY,hW,hV];clear hW hV;obtain⟨J,hK,kc,h9⟩:∃g,y 5 = .pointer (some ⟨g,0,none⟩)/\aG WA g (fC f0) 81/\w.heap.size<=g:=kk;obtain⟨I,hJ,kb,kp⟩:∃g,y 6 = .pointer (some ⟨g,0,none⟩)/\aG WA g (fC f0) 81/\w.heap.size<=g:=kj;have hU:J≠I:=λe=>hB (by rw[hK,hJ,e]);simp only[hK,hJ];have s:=ag b hH;clear kl hK hJ hB b hZ hH;go_upto_region 8 with(refine aA rfl _ _ _ rfl J (fC (cZ l)) rfl rfl _ _ kc (by rw[kF,kF]) (by rw[kF];exact ones_size) (Bb _) ?_);intro W5 ki hm;have t:=s.grown hm s.size (λk hk=>by cases hk;exact h9);have kf:aG W5 I (fC f0) 81:=kb.grown hm (λe=>hU (aM e));clear s kc kb hm;go_upto_region 8 with(refine aA rfl _ _ _ rfl I (fC (cZ [x])) rfl rfl _ _ kf (by rw[kF,kF]) (by rw[kF];exact ones_size) (Bb _) ?_);intro W6 ke hl;have hr:=t.grown hl t.size (λk hk=>by cases hk;exact kp);have kh:aG W6 J (fC (cZ l)) 81:=ki.grown hl (λe=>hU (aM e).symm);clear t ki kf hl;go_upto_region 9 with(fail)
   go_loopw [28] (fun i wr => ∃n:Nat,n<=64/\i = .int .i64 n/\Below w.heap.size w wr/\aG wr J (fC (uM x n (cZ l))) 81/\aG wr I (fC (cZ [x])) 81/\∀i:Nat,i<n->¬(oD (i:Int) x=true/\onA l i≠none)) (fun i _=>64-(intOf i).toNat)
   case atStart=>exact⟨0,by omega,rfl,hr,by rw[Oe];exact kh,ke,λi hi=>absurd hi (fq _)⟩
   case round=>
    clear hr kh ke;obtain⟨n,E,rfl,m,U,R,hE⟩:=hrel;have hO:=ae hE;clear hE
    by_cases D:n<64
    .have ku:(n:Int)<64:=by omega
     have Y:wr.cell? ⟨J,n*6,none⟩=some (.bool (onA l n).isSome):=by rw[U.cell];exact Ay (uM x n (cZ l)) n 0 D _ (by rw[VD,pJ Z];rfl) (by decide)
     have V:wr.cell? ⟨I,n*6,none⟩=some (.bool (cZ [x] n).isSome):=by rw[R.cell];exact Ay (cZ [x]) n 0 D _ rfl (by decide)
     rw[Sj]at V
     by_cases f:oD (n:Int) x=true
     .rw[if_pos f]at V;cases hon:onA l (n:Int)with
      | some p=>
       rw[hon]at Y;simp only[Option.isSome]at Y V;have q0:Hid _:=ae (Iu (l:=l) (x:=x) (e:=6) (by unfold Ca;rw[if_neg (by rw[hM.out];simp),if_neg (by rw[o.out];simp),if_pos (Sz f (by rw[hon];simp))]) (by decide));have b:=m;clear f hon;go_wp2;go_ret2;have q:=q0.out;exact⟨.slice none 0 0,by first | (rw[q.1];done) | (rw[q.1];rfl),by rw[q.2];exact Own.nil _ _ _ _,b⟩
      | none=>
       rw[hon]at Y;simp only[Option.isSome]at Y V;have hC:Hid (bJ (fC (uM x n (cZ l))) (n*6) (qU (some (kN x n)))=fC (uM x (n+1) (cZ l))):=ae (by rw[Uc _ n D,RH f]);have hD:eB wr (some ⟨I,n*6,none⟩) (qU (some (kN x n))):=λj u hj=>⟨I,n*6,rfl,by
        rw[R.cell];exact Ay (cZ [x]) n j D u (by rw[Sj,if_pos f];exact hj) (by have:=(cz.1 hj).1;rwa [oM]at this)⟩
       have hu:Hid (∀i:Nat,i<n+1->¬(oD (i:Int) x=true/\onA l i≠none)):=ae (λi hi K=>by
        by_cases c:i=n
        .subst c;exact K.2 hon
        .exact hO.out i (by omega) K)
       have hF:Hid (n*6+6<=(fC (uM x n (cZ l))).size):=ae (by rw[kF];omega);clear f hon;go_upto_region 15 with(first | (refine ay _ _ rfl _ (n*6) rfl rfl _ hD _ underlying80 rfl one_size ?_) | (refine gN rfl _ _ _ rfl J (n*6) (wW (some (kN x n))) rfl rfl _ _ U hF.out one_size (Fs _) ?_));intro W7 kg hh;have hy:aG W7 J (fC (uM x (n+1) (cZ l))) 81:=by rw[<-hC.out];exact kg
       have hQ:=m.grown hh m.size (λk hk=>by cases hk;exact h9);have kq:aG W7 I (fC (cZ [x])) 81:=R.grown hh (λe=>hU (aM e));clear U R m kg hh Y V hD hC hF;go_wp2;go_roundw
       case rel=>exact⟨n+1,by omega,by go_num,hQ,hy,kq,hu.out⟩
       case measure=>simp[intOf];omega
     rw[if_neg f]at V;simp only[Option.isSome]at V;have hu:Hid (∀i:Nat,i<n+1->¬(oD (i:Int) x=true/\onA l i≠none)):=ae (λi hi K=>by
      by_cases c:i=n
      .subst c;exact f K.1
      .exact hO.out i (by omega) K)
     have hy:aG wr J (fC (uM x (n+1) (cZ l))) 81:=by rw[QV f];exact U
     clear f U;cases hsX:(onA l (n:Int)).isSome
     .rw[hsX] at Y;clear hsX;go_wp2;go_roundw
      case rel=>exact⟨n+1,by omega,by go_num,m,hy,R,hu.out⟩
      case measure=>simp[intOf];omega
     rw[hsX] at Y;clear hsX;go_wp2;go_roundw
     case rel=>exact⟨n+1,by omega,by go_num,m,hy,R,hu.out⟩
     case measure=>simp[intOf];omega
    have h6:n=64:=by omega
    subst h6;have hI:=Vg ht.2 o.out hO.out;have h7:∀z∈l,qW x z=false:=λz hz=>by have:=uX.1 hI z hz;simpa using this
    have hg:=FD o.out Z (bM o.out).1.2.1.1 h7;rw[<-DY]at hg;have hG:Hid (Ca l x=Ex (uk (Ep l x)).length):=ae (by unfold Ca;rw[if_neg (by rw[hM.out];simp),if_neg (by rw[o.out];simp),if_neg (by rw[hI];simp)];rfl);have h8:Hid (zn l x=if 16<(uk (Ep l x)).length then[]else uk (Ep l x)):=ae (by
     unfold zn;rw[hG.out];unfold Ex
     by_cases G:16<(uk (Ep l x)).length
     .rw[if_pos G,if_pos G];rfl
     .rw[if_neg G,if_neg G];rfl)
    have hN:Hid ((fC (uM x 64 (cZ l))).size=384):=ae (kF _);clear D
    go_wp2_with (refine ay _ _ rfl _ 0 rfl rfl _ U.rd _ underlying81 rfl (by rw[jm,hN.out];exact ones_size) ?_)
    refine(UZ (uM x 64 (cZ l)) (uk (Ep l x)) (JJ hg) (λi hi => ?_) (λi p hp => ?_) _).mono ?_
    .rw[Jf hg,DY,II o.out _ Z h7];unfold uM;rw[pJ Z]
     by_cases c:oD (i:Int) x=true
     .rw[if_pos ⟨c,hi⟩,if_pos c]
     .rw[if_neg (λq=>c q.1),if_neg c]
    .unfold uM at hp;split at hp
     .rename_i K;cases hp;have h1:=OZ o.out K.1;refine⟨h1.2.2.1,?_⟩
      by_cases hf:(kN x i).fi<0
      .rw[(h1.2.2.2.1 hf).1];decide
      .have:=h1.2.2.2.2 (by omega);omega
     .exact KG Z i p hp
    rintro r w9 ⟨v9,rfl,hA,kd⟩;have hP:=ag m kd;replace hA:=hA.mono m.size;rw[<-h8.out]at hA;rw[<-hG.out];clear m U R kd h8;go_wp2;go_ret2;exact⟨v9,rfl,hA,hP⟩
  have q0:Hid _:=ae (Iu (l:=l) (x:=x) (e:=aU x) (by unfold Ca;rw[if_neg (by rw[hM.out];simp),if_pos M]) M);have kw : (aU x != 0)=true:=by simpa using M
  clear M ht;go_wp2;go_ret2;have q:=q0.out;exact⟨.slice none 0 0,by first | (rw[q.1];done) | (rw[q.1];rfl),by rw[q.2];exact Own.nil _ _ _ _,b⟩
 have q0:Hid _:=ae (Iu (l:=l) (x:=x) (e:=(bP l).1) (by unfold Ca;rw[if_pos C]) C);have kv : ((bP l).1 != 0)=true:=by simpa using C
 have ka:=hv.cell;clear C;go_upto_region 3 with(fail);go_quiet (fail);rename_i nq;have b:=below_drewN b nq;go_wp2;go_ret2;have q:=q0.out;exact⟨.slice none 0 0,by first | (rw[q.1];done) | (rw[q.1];rfl),by rw[q.2];exact Own.nil _ _ _ _,b⟩
theorem Ra{l:List Ar}{x:Ar}(h:Ca l x=0):(l.length<=16/\okF none l)/\aU x=0/\(∀a∈l,qW x a=false)/\(uk (Ep l x)).length<=16/\zn l x=uk (Ep l x):=by
 have n:=h;unfold Ca at h
 by_cases d:(bP l).1=0
 .rw[if_neg (by omega)]at h
  by_cases f:aU x=0
  .rw[if_neg (by omega)]at h;cases hm:l.any (qW x)
   .rw[hm,if_neg (by simp)]at h;refine⟨iZ.1 d,f,λa j => ?_,?_,?_⟩
    .have:=uX.1 hm a j;simpa using this
    .split at h
     .omega
     .omega
    .unfold zn;rw[if_neg (by omega)]
   .rw[hm,if_pos rfl]at h;omega
  .rw[if_pos f]at h;exact absurd h f
 .rw[if_pos d]at h;exact absurd h d
theorem MX{l:List Ar}{x:Ar}(h:Ca l x=0):(zn l x).length<=16/\okF none (zn l x)/\∀n,onA (zn l x) n=if oD n x then some (kN x n)else onA l n:=by
 obtain⟨⟨D,h2⟩,d,u,s,C⟩:=Ra h;have f:=lI h2;have z:=(bM d).1.2.1.1;have j:=FD d f z u;rw[C];rw[DY]at s ⊢;exact⟨s,JJ j,λn=>by rw[Jf j,II d n f u]⟩
def RN(l:List Ar):Nat:=((List.range 64).filter λn:Nat=>(onA l n).isSome).length
theorem VL{B:List Ar}{X:Ar}(h:∀n,onA B n=if oD n X then some (kN X n)else onA A n)(j:X.en-X.fr<=4):RN B<=RN A+4:=by
 have f:∀l:List Nat,(l.filter λn:Nat=>(onA B n).isSome).length<=(l.filter λn:Nat=>(onA A n).isSome).length+(l.filter λn:Nat=>oD n X).length:=λl=>by
  induction l with
  | nil=>simp
  | cons a l ih=>
   rw[ou,ou,ou,h];cases hI:oD (a:Int) X with
   | true=>
    simp only[reduceIte,Option.isSome_some];split<;>(try simp only[lF])<;>omega
   | false=>
    simp only[uU,reduceIte];split<;>(try simp only[lF])<;>omega
 have h2:((List.range 64).filter λn:Nat=>oD n X).length<=((List.range 4).map λi=>X.fr.toNat+i).length:=by refine DN (DU DT yj) λn d => ?_;have s:=dM.1 (uO.1 d).2;exact eU.2 ⟨n-X.fr.toNat,dG.2 (by omega),by omega⟩
 have u:=f (List.range 64);rw[dV,rJ]at h2;unfold RN;omega
def Xa(l:List Ar)(m c:Nat):Prop:=(∀n g,onA l n=some g->g.fi<m)/\RN l<=c
def Vj(l:List PF):Prop:=l.length<=2/\∀p∈l,p.l.length<=5
def OU(S:MW):Prop:=(∀p∈S.H.sp,Xa p.ar S.H.fi.length 12)/\Vj S.H.fi
structure More (S S' : MW):Prop where
 bd:Bd S'.H.ma S'.T
 fm:OU S'
 fi:S'.H.fi=S.H.fi
 ct:S'.H.ct=S.H.ct
 dk:S'.H.dk=S.H.dk
 sp:S'.H.sp.length=S.H.sp.length+1
 fs:S'.H.m.fs.length=S.H.m.fs.length
def SpaceR(S:MW)(B b:Nat)(w:World)(r:Ending)(w' : World):Prop:=∃S',r = .returned (.tuple #[])/\fD w' B b S'/\MS w b S w' S'/\More S S' /\
 (S.l=[]->S'.l=[]/\S'.H.ma = { S.H.ma with sp:=S.H.ma.sp++[⟨true,[],zTb⟩] }/\S'.T=S.T++[List.replicate 64 zEn])
theorem fD.kb_ne(h:fD w B b S){x:Nat}(j:aG w x cs T)
 (J:T≠98/\T≠66/\T≠3/\T≠58/\T≠105/\T≠101/\T≠122/\T≠76/\T≠69):¬nL b S x:=by
 obtain⟨G,F,E,f,D,C,z,u,s⟩:=J;have own:∀ {e:TypeId} {sz n c:Nat} {a:Option Addr} {xs:List Value},T≠e->Own w B e sz (.slice a n c) n xs->oB a=some x->False:=λH I d=>by obtain⟨_,K,h2⟩:=je I d;exact mD j h2 H rfl
 intro d;rcases d with d|d
 .subst d;exact mD j h.blk G rfl
 simp only[iW,dx,gW,or_false]at d;rcases d with d|d|d|d|d|d|d|d|d
 .exact own F h.ma.fr d.symm
 .exact own E h.ma.sl d.symm
 .exact own f h.ma.sw.b d.symm
 .exact own f h.ma.dk.b d.symm
 .exact own D h.ma.dk.q d.symm
 .exact own C h.ma.st.own d.symm
 .exact own z h.ma.ca d.symm
 .exact own u h.ma.sp d.symm
 .exact own s h.tt d.symm
theorem fD.own_not(h:fD w B b S){n:Nat}(f:Own w B' e sz (.slice a n c) n xs)
 (s:e≠98/\e≠66/\e≠3/\e≠58/\e≠105/\e≠101/\e≠122/\e≠76/\e≠69):∀x,(Value.slice a n c).ownBlock=some x->¬nL b S x:=λx d=>by
 obtain⟨cs,j⟩:=mR f x d;exact h.kb_ne j s
theorem fD.locA(h:fD w B b S)(E:aG w g cs 94)(D:¬nL b S g)(z:∀p∈S.H.sp,oB p.aa≠some g)(C:B<=g)(f:w.grownBy w' (some g)):fD w' B b S:=by
 have d:∀ {a:Option Addr},oB a∈iW S->∀n c u,(Value.slice a n c).ownBlock=some u->some g≠some u:=λF n c u j e=>by cases e;rw[jF]at j;exact D (.inr (by rw[<-j];exact F))
 exact⟨h.blk.grown f (λe=>D (.inl (aM e))),h.ge,⟨h.ma.fr.grown f (d (by simp[iW]) _ _),h.ma.sl.grown f (d (by simp[iW]) _ _),⟨h.ma.sw.b.grown f (d (by simp[iW]) _ _),h.ma.sw.q.grown f (λu j=>by rw[h.n3]at j;cases j)⟩,⟨h.ma.dk.b.grown f (d (by simp[iW]) _ _),h.ma.dk.q.grown f (d (by simp[iW]) _ _)⟩,
  ⟨h.ma.st.own.grown f (d (by simp[iW]) _ _),λi p s=>ax (h.ma.st.each i p s) E (by decide) f,h.ma.st.apart⟩,h.ma.ca.grown f (d (by simp[iW]) _ _),h.ma.sp.grown f (d (by simp[iW]) _ _),λp s=>⟨(h.ma.ps p s).1.grown f (λu j e=>by cases e;rw[jF]at j;exact z p s j),(h.ma.ps p s).2.keep E (by decide) f⟩,h.ma.c64⟩,
  h.tt.grown f (d (by simp[iW]) _ _),h.rd.keep h.ra h.bs f C,h.ra,h.n1,h.n2,h.n3⟩
theorem fD.newA(h:fD w B b S){x:Nat}(j:w.heap.size<=x):∀p∈S.H.sp,oB p.aa≠some x:=λp d f=>by
 have:=(je (h.ma.ps p d).1 f).2.choose_spec.lt;omega
def MM(S:MW)(B b:Nat)(w:World)(i:Nat)(cs:Array Value)(T:TypeId):(Nat->Bool)->(Nat->Value)->World->Prop:=λL y W=>
 Mk S B b w [] L y W/\(L i=true->∃g,y i = .pointer (some ⟨g,0,none⟩)/\aG W g cs T/\¬nL b S g/\w.heap.size<=g)
theorem kG :∀L y W W',Below W.heap.size W W'->MM S B b w i cs T L y W->MM S B b w i cs T L y W':=
 λ_ _ _ _ hb ⟨h1,h2⟩=>⟨aH _ _ _ _ hb h1,λd=>by obtain⟨g,n,j,f⟩:=h2 d;exact⟨g,n,j.ext hb,f⟩⟩
theorem Tc(f:fD w B b S)(h:MM S B b w i cs T L y W):MM S B b w i cs T (dQ L i) (fE y i (.pointer (some ⟨W.heap.size,0,none⟩))) (W.alloc (.cells cs T)):=by
 have d:w.heap.size<=W.heap.size:=by obtain⟨⟨a,c,l,n,h2,j⟩,_⟩:=h;exact h2.size
 exact⟨aH _ _ _ _ ((Below.refl _ _).alloc (az _) _) h.1,λ_=>⟨W.heap.size,by unfold fE;rw[if_pos rfl],aG.new _ _ _,f.new d,d⟩⟩
theorem yT{y' : Value->Nat->Value}(E:L' i=L i)(u:∀v,y' v i=y i)(n:Int)(hn : -9223372036854775808<=n/\n<=9223372036854775807)(h:MM S B b w i cs T L y W){R:Value->World->Prop}(D:∀x:Int,0<=x->x<256->(x<n\/x=0)->∀W',R (.int .i64 x) W') :
  Calls Tryz.prog 32 #[.pointer (some ⟨b,0,none⟩),.int .i64 n] W λe W' => ∃v,e = .returned v/\MM S B b w i cs T L' (y' v) W'/\R v W':=by
 obtain⟨⟨a,c,l,G,h2,K⟩,F⟩:=h;refine(fV _ n B b W G hn).mono ?_;rintro r W' ⟨x,a',c',s,rfl,k1,f,d,_⟩;exact⟨_,rfl,⟨⟨a',c',s,k1,h2.trans f,λt z=>(by cases z)⟩,λC=>by obtain⟨g,J,I,j,H⟩:=F (by rw[<-E];exact C);exact⟨g,by rw[u];exact J,f.blkN I j,j,H⟩⟩,D x d.1 d.2.1 d.2.2 W'⟩
theorem sV{n:Nat}(f:Own w B e sz (.slice a n c) n xs)(d:w.grownBy w' (Value.slice a n c).ownBlock):Below w.heap.size w w'\/∃g cs,aG w g cs e/\oB a=some g/\w.grownBy w' (some g):=by
 cases h:(Value.slice a n c).ownBlock with
 | none=>rw[h]at d;exact .inl (lc d)
 | some g=>
  rw[h]at d;obtain⟨cs,j⟩:=mR f g h;exact .inr ⟨g,cs,j,by rw[<-jF a n c];exact h,d⟩
theorem fD.appP(h:fD w B b S)(U:w.grownBy w1 (Value.slice S.H.ap S.H.sp.length S.H.cp).ownBlock){l:List PS}(R:Own w1 B 76 10 (.slice a l.length c) l.length (l.flatMap tQ))
 (E:∀p∈l,Own w1 B 94 7 (.slice p.aa p.ar.length p.ac) p.ar.length (p.ar.flatMap mX)/\sG w1 B (nT p.ts) p.tb) (V:aG w2 b (bJ (jI S) 11 [.slice a l.length c]) 98) (f:w1.grownBy w2 (some b)) :
  fD w2 B b { S with H:={ S.H with ap:=a,cp:=c,sp:=l } }:=by
 have z:aG w1 b (jI S) 98/\Own w1 B 66 13 (.slice S.H.af S.H.m.fs.length S.H.cf) S.H.m.fs.length (S.H.m.fs.flatMap pR)/\Own w1 B 3 1 (.slice S.H.asl S.H.sl.length S.H.csl) S.H.sl.length (S.H.sl.map gB) /\
   nk w1 B (.slice S.H.wb S.H.sw.blocks.length S.H.cwb) (.slice S.H.wq S.H.sw.queue.length S.H.cwq) S.H.sw/\nk w1 B (.slice S.H.db S.H.dk.blocks.length S.H.cdb) (.slice S.H.dq S.H.dk.queue.length S.H.cdq) S.H.dk/\rz w1 B (.slice S.H.ai S.H.fi.length S.H.ci) S.H.fi /\
   Own w1 B 122 3 (.slice S.H.ac S.H.ca.length S.H.cc) S.H.ca.length (S.H.ca.flatMap iQ)/\Own w1 B 69 192 (.slice S.ab S.T.length S.cb) S.T.length (S.T.flatMap tL)/\ve w1 S.al S.cl S.l.length (S.l.map CY):=by
  rcases sV h.ma.sp U with D|⟨g,cs,u,C,j⟩
  .have s:=h.below D;exact⟨s.blk,s.ma.fr,s.ma.sl,s.ma.sw,s.ma.dk,s.ma.st,s.ma.ca,s.tt,s.rd⟩
  .exact⟨bY h.blk u (by decide) j,ax h.ma.fr u (by decide) j,ax h.ma.sl u (by decide) j,h.ma.sw.keep u (by decide) (by decide) j,h.ma.dk.keep u (by decide) (by decide) j,h.ma.st.keep u (by decide) (by decide) j,ax h.ma.ca u (by decide) j,ax h.tt u (by decide) j,h.rd.keep h.ra h.bs j (je h.ma.sp C).1⟩
 obtain⟨n,k1,N,M,K,J,I,G,F⟩:=z;exact⟨V,h.ge,⟨ax k1 n (by decide) f,ax N n (by decide) f,M.keep n (by decide) (by decide) f,K.keep n (by decide) (by decide) f,J.keep n (by decide) (by decide) f,ax I n (by decide) f,ax R n (by decide) f,λp d=>⟨ax (E p d).1 n (by decide) f,(E p d).2.keep n (by decide) f⟩,h.ma.c64⟩,
  ax G n (by decide) f,F.keep h.ra (bi h.ge (rZ n.lt)) f h.ge,h.ra,h.n1,h.n2,h.n3⟩
theorem fD.appT(h:fD w B b S)(F:w.grownBy w1 (Value.slice S.ab S.T.length S.cb).ownBlock){T:List (List En)}(E:Own w1 B 69 192 (.slice a T.length c) T.length (T.flatMap tL))
 (G:aG w2 b (bJ (jI S) 12 [.slice a T.length c]) 98) (d:w1.grownBy w2 (some b)):fD w2 B b { S with ab:=a,cb:=c,T:=T }:=by
 have j:aG w1 b (jI S) 98/\wV w1 B S.H/\ve w1 S.al S.cl S.l.length (S.l.map CY):=by
  rcases sV h.tt F with u|⟨g,cs,C,s,f⟩
  .have z:=h.below u;exact⟨z.blk,z.ma,z.rd⟩
  .exact⟨bY h.blk C (by decide) f,h.ma.keep C (by decide) f,h.rd.keep h.ra h.bs f (je h.tt s).1⟩
 obtain⟨n,k1,D⟩:=j;exact⟨G,h.ge,k1.keep n (by decide) d,ax E n (by decide) d,D.keep h.ra (bi h.ge (rZ n.lt)) d h.ge,h.ra,h.n1,h.n2,h.n3⟩
theorem MS.app{n:Nat}(h:MS w0 b S0 w S)(I:fD w B b S)(E:Own w B' e sz (.slice a n c) n xs)(D:oB a∈iW S)(G:w.grownBy w1 (Value.slice a n c).ownBlock)(s:w1.grownBy w2 (some b))(z:oz w (.slice a n c) (.slice a' n' c'))
 (F:∀x,nL b S' x->nL b S x\/oB a' = some x):MS w0 b S0 w2 S':=by
 have H:MS w0 b S0 w1 S:=by
  rcases sV E G with C|⟨g,cs,_,j,u⟩
  .exact h.below C
  .exact h.put u (.inr (by rw[<-j];exact D)) (λx d => .inl d)
 refine H.put s (.inl rfl) λx d => ?_;rcases F x d with d|d
 .exact .inl d
 rcases z with f|f
 .rw[jF,jF]at f;exact .inl (.inr (by rw[<-d,f];exact D))
 .exact .inr (bi h.size (f x (by rw[jF];exact d)))
theorem ents_info:(Tryz.prog.info? 69).map (λi=>(i.zero,i.size,i.bytes))=some (some (.agg (tL (List.replicate 64 zEn)).toArray),192,1536):=by kernel_rfl
theorem CL{a:Act}(D:o.guard=none)(s x:Operand)
 (j:o.op=Op.call { callee:=Callee.builtin Builtin.append,args:=#[s,x],argTypes:=#[96,96] }) (u:cs=(tL (List.replicate 64 zEn)).toArray)
 (B:Nat) (v:Value) (n:Nat) (xs:List Value) (C:a.eval s=v) (d:Own w B 69 192 v n xs) (z:a.eval x = .slice (some ⟨w.heap.size,0,none⟩) 1 1) (G:n<=100) (F:B<=w.heap.size)
 (E:∀f w',Own w' B 69 192 f (n+1) (xs++tL (List.replicate 64 zEn))->(w.alloc (.cells (tL (List.replicate 64 zEn)).toArray 69)).grownBy w' v.ownBlock->oz (w.alloc (.cells (tL (List.replicate 64 zEn)).toArray 69)) v f->wpList Tryz.prog ops Q rest (a.put o.dst f) w') :
  wpList Tryz.prog ops Q (o::rest) a (w.alloc (.cells cs 69)):=by
 subst u;exact uo D s x 96 j B 69 _ 192 1536 underlying96 ents_info rfl (by decide) v n xs C (d.alloc _) (some ⟨w.heap.size,0,none⟩) 1 1 (tL (List.replicate 64 zEn)) z (λh=>(by cases h)) (az _) (zo _) (by simpa using eB.new w (tL (List.replicate 64 zEn)).toArray 69) (by decide +kernel) (by unfold maxLen;omega) (by omega) (dI F _) E
theorem ES(S:MW)(B b:Nat)(w:World)(h:fD w B b S)(C:Bd S.H.ma S.T)(hf:OU S)(hl4:S.H.sp.length<4) :
  Calls Tryz.prog 37 #[.pointer (some ⟨b,0,none⟩)] w (SpaceR S B b w):=by
 have kK:=ae C;have kZ:=ae hf;have gZ:=ae h.bs;have gP:S.H.fi.length<=5:=by have:=(mJ.1 C.few.2.2.2.2.1).1.1;simpa[MH.ma,cK]using this
 clear C hf;go_enter func37,ntmps37
 go_wp2_with fail
 refine(fV _ 4 B b _ h (by omega)).mono ?_;rintro r w1 ⟨n1,a1,c1,l1,rfl,h1,s1,kV,kT⟩;obtain⟨N,rfl⟩:=iL kV.1;have gY:N<4:=by omega
 have kS:=ae kT;clear h kV kT;have gh:IntKind.i64.wrap ((S.H.fi.length:Int)+1)=(S.H.fi.length:Int)+1:=bI _ (by omega);go_upto_region 2 with(fail)
 go_loopw [11,2] (fun i u wr => ∃(k:Nat) (A:List Ar) (a:Option Addr) (c:Nat) (al:Option Addr) (cl:Nat) (F:List UInt8),k<=N/\i = .int .i64 k/\u = .slice a A.length c/\Own wr B 94 7 (.slice a A.length c) A.length (A.flatMap mX)/\fD wr B b (S.lst al cl F)/\MS w b S wr (S.lst al cl F) /\
  Hid ((bP A).1=0/\Xa A S.H.fi.length (4*k)/\(k=0->A=[]/\F=l1))) (λi _ _=>N-(intOf i).toNat)
 case atStart=>exact⟨0,[],none,0,a1,c1,l1,bq _,rfl,rfl,by simpa using Own.nil _ _ _ _,h1,s1,ae ⟨by decide,⟨λn g h=>(by cases h),by decide⟩,λ_=>⟨rfl,rfl⟩⟩⟩
 case round=>
  clear h1 s1;obtain⟨k,A,a,c,al,cl,F,hk,rfl,rfl,hi,Z,hs,hA⟩:=hrel;have km:=ae (Z.own_not hi (by decide))
  by_cases hkN:k<N
  .have gm:(k:Int)<(N:Int):=by omega
   go_upto_region 3 with(fail);refine iI 21 [_,.r 1 ((dF λv => ∃x:Int,v = .int .i64 x/\0<=x/\x<12)),_,.r 3 ((dF λv => ∃x:Int,v = .int .i64 x)),.r 4 ((dF λv => ∃u,v = .bool u)),_,.r 6 ((dF λv => ∃x:Int,v = .int .i64 x)),.r 7 ((dF λv => ∃u,v = .bool u)),_,_,_,_,_,_,.v (.slice S.H.ai S.H.fi.length S.H.ci),_,_,.r 17 ((dF λv => ∃x:Int,v = .int .i64 x/\0<=x/\x<(S.H.fi.length:Int)+1)),.r 18 ((dF λv => ∃x:Int,v = .int .i64 x/\-1<=x/\x<S.H.fi.length)),.r 19 ((dF λv => ∃fr rd wr fi,v = .agg (ky ⟨fr,0,rd,wr,false,fi,0⟩)/\0<=fr/\fr<12/\-1<=fi/\fi<S.H.fi.length)),.r 20 ((dF λ_=>True))] (MM (S.lst al cl F) B b wr 20 (ky ⟨0,0,false,false,false,0,0⟩) 94) kG (λ_=>⟨⟨al,cl,F,Z,MS.refl _ _ _,λt ht=>(by cases ht)⟩,λe=>(by cases e)⟩) (Qk kG rfl (ah ?_ (Qk kG rfl (ah ?_ (ah ?_ (Qk kG rfl (ah ?_ (ah ?_ (Qk kG rfl (Qk kG rfl (Qk kG rfl (Qf kG b 1 rfl rfl (Qf kG b 8 rfl rfl (Qf kG b 8 rfl rfl (ah ?_ (Qn kG rfl rfl rfl rfl (Qb kG (.int .i64 ((S.H.fi.length:Int)+1)) (by simp[go_sem,gh]) rfl rfl rfl rfl rfl (ah ?_ (ah ?_ (ah ?_ (ah ?_ (aI)))))))))))))))))))))) (λ_=>rfl) rfl ?_
   .intro ρ y W L D G q z E C;have gM:=D 13 0 rfl;have h0:y 0=_:=C 0 rfl;have EC:∀v,ρ (.const v)=v:=λv=>G (.const v) trivial;have EF:=eF0 G λ_=>trivial;refine jd _ _ (aj rfl) (aS rfl (EF _) func32 (by kernel_rfl) (by kernel_rfl) (by simp only[bW,bQ,aZ,gM,h0,EC,EF];rfl)) ?_;exact yT rfl (λ_=>rfl) 12 (by omega) E λx h1 h2 h3 _=>⟨x,rfl,h1,by omega⟩
   .intro ρ y W L D G q z E C;have gK:=D 15 2 rfl;have h2:y 2=_:=C 2 rfl;have EC:∀v,ρ (.const v)=v:=λv=>G (.const v) trivial;have EF:=eF0 G λ_=>trivial;refine jd _ _ (aj rfl) (aS rfl (EF _) func32 (by kernel_rfl) (by kernel_rfl) (by simp only[bW,bQ,aZ,gK,h2,EC,EF];rfl)) ?_;exact yT rfl (λ_=>rfl) 4 (by omega) E λx h1 h2 h3 _=>⟨x,rfl⟩
   .intro ρ y W L D G q z E C;refine fZ kG (λ_ _ h=>h) E ?_;have gJ:=D 16 3 rfl;have h3:=C 3 rfl;obtain⟨x,f⟩:=h3;refine ak _ (aj rfl) (qz rfl (gJ.trans f) (G (.const _) trivial) (by simp[go_sem];rfl)) ⟨_,rfl⟩
   .intro ρ y W L D G q z E C;have gG:=D 18 5 rfl;have h5:y 5=_:=C 5 rfl;have EC:∀v,ρ (.const v)=v:=λv=>G (.const v) trivial;have EF:=eF0 G λ_=>trivial;refine jd _ _ (aj rfl) (aS rfl (EF _) func32 (by kernel_rfl) (by kernel_rfl) (by simp only[bW,bQ,aZ,gG,h5,EC,EF];rfl)) ?_;exact yT rfl (λ_=>rfl) 3 (by omega) E λx h1 h2 h3 _=>⟨x,rfl⟩
   .intro ρ y W L D G q z E C;refine fZ kG (λ_ _ h=>h) E ?_;have gF:=D 19 6 rfl;have h6:=C 6 rfl;obtain⟨x,f⟩:=h6;refine ak _ (aj rfl) (qz rfl (gF.trans f) (G (.const _) trivial) (by simp[go_sem];rfl)) ⟨_,rfl⟩
   .intro ρ y W L D G q z E C;refine fZ kG (λ_ _ h=>h) E ?_;have gC:=D 26 13 rfl;have gt:y 13=_:=C 13 rfl;obtain⟨⟨a0,c0,l0,m1,m2,m3⟩,_⟩:=E;refine ak (.slice S.H.ai S.H.fi.length S.H.ci) (aj rfl) (by simp[execOp,go_sem,gC,gt,m1.blk.cell,jI,MW.lst]) rfl
   .intro ρ y W L D G q z E C;have gD:=D 21 8 rfl;have h8:y 8=_:=C 8 rfl;have gB:=D 29 16 rfl;have gs:y 16=_:=C 16 rfl;have EF:=eF0 G λ_=>trivial;refine jd _ _ (aj rfl) (aS rfl (EF _) func32 (by kernel_rfl) (by kernel_rfl) (by simp only[bW,bQ,aZ,gD,h8,gB,gs,EF];rfl)) ?_;exact yT rfl (λ_=>rfl) _ (by omega) E λx h1 h2 h3 _=>⟨x,rfl,h1,by omega⟩
   .intro ρ y W L D G q z E C;refine fZ kG (λ_ _ h=>h) E ?_;have gA:=D 30 17 rfl;have gr:=C 17 rfl;obtain⟨x,f,k1,k2⟩:=gr;have kE:IntKind.i64.wrap (x-1)=x-1:=bI _ (by omega);refine ak (.int .i64 (x-1)) (aj rfl) (qz rfl (gA.trans f) (G (.const _) trivial) (by simp[go_sem,kE])) ⟨_,rfl,by omega,by omega⟩
   .intro ρ y W L D G q z E C;refine fZ kG (λ_ _ h=>h) E ?_;have gL:=D 14 1 rfl;have h1:=C 1 rfl;have gI:=D 17 4 rfl;have h4:=C 4 rfl;have gE:=D 20 7 rfl;have h7:=C 7 rfl;have gz:=D 31 18 rfl;have gq:=C 18 rfl;obtain⟨x1,hB,k1,k2⟩:=h1;obtain⟨x2,gg⟩:=h4;obtain⟨x3,gf⟩:=h7;obtain⟨x4,ge,k3,k4⟩:=gq;refine ak (.agg (ky ⟨x1,0,x2,x3,false,x4,0⟩)) (aj rfl) (by simp[execOp,go_sem,gL,gI,gE,gz,hB,gg,gf,ge,ky]) ⟨x1,x2,x3,x4,rfl,k1,k2,k3,k4⟩
   .intro ρ y W L D G q z E C;refine fH (.pointer (some ⟨W.heap.size,0,none⟩)) (aj rfl) ?_ (Tc Z E) trivial;simp[execOp,go_sem,ky]
   intro y W2 k6 m;have gT:((dF λv => ∃x:Int,v = .int .i64 x/\0<=x/\x<12)).r (y 1) W2:=m 1 (by decide);have gS:((dF λv => ∃x:Int,v = .int .i64 x)).r (y 3) W2:=m 3 (by decide);have gd:((dF λv => ∃u,v = .bool u)).r (y 4) W2:=m 4 (by decide);have gR:((dF λv => ∃x:Int,v = .int .i64 x)).r (y 6) W2:=m 6 (by decide);have gQ:((dF λv => ∃u,v = .bool u)).r (y 7) W2:=m 7 (by decide);have gO:((dF λv => ∃x:Int,v = .int .i64 x/\0<=x/\x<(S.H.fi.length:Int)+1)).r (y 17) W2:=m 17 (by decide);have gN:((dF λv => ∃x:Int,v = .int .i64 x/\-1<=x/\x<S.H.fi.length)).r (y 18) W2:=m 18 (by decide);have kO:((dF λv => ∃fr rd wr fi,v = .agg (ky ⟨fr,0,rd,wr,false,fi,0⟩)/\0<=fr/\fr<12/\-1<=fi/\fi<S.H.fi.length)).r (y 19) W2:=m 19 (by decide);clear m;obtain⟨⟨M,K,l2,h2,s2,_⟩,kB⟩:=k6;obtain⟨gx,kX,axz,hh,hI⟩:=kB rfl;obtain⟨fr,rd,Y,fi,hv,hz,gX,kN,k9⟩:=kO;rw[hv,kX];clear hv kX kB;rw[oK]at h2 s2;have ha:=s2.ownN hi km.out;have hJ:Hid (∀x,(Value.slice a A.length c).ownBlock=some x->¬nL b S x):=km;have kc:=ae (Z.newA hI);have hU:Hid (∀x,(Value.slice a A.length c).ownBlock=some x->some gx≠some x):=ae λx f e=>by have:=JV hi x f;cases e;omega
   have hS:=ae (bi hs.size hI);have hT:B<=gx:=bi Z.bs hI;have hh:=ae hh;have s2:=hs.trans s2;clear Z hs hi hI
   go_wp2_with (refine aA rfl _ _ _ rfl gx (ky ⟨fr,0,rd,Y,false,fi,0⟩) rfl rfl _ _ axz rfl area_size (Vd _) ?_)
   intro w3 ax3 hy;have h3:=h2.locA axz hh.out kc.out hT hy;have s3:=s2.loc hy hS.out;have hZ:=ha.grown hy hU.out;clear h2 s2 ha hy axz;have kP:IntKind.i64.wrap (fr+1)=fr+1:=bI _ (by omega);go_upto_region 4 with(fail);refine iI 7 [_,.v (.int .i64 fr),_,_,.r 4 ((dF λv => ∃x:Int,v = .int .i64 x/\0<=x/\x<4)),.r 5 ((dF λv => ∃x:Int,v = .int .i64 x/\fr<x/\x<=fr+4)),_] (Mk (S.lst M K l2) B b w3 [(gx,ky ⟨fr,0,rd,Y,false,fi,0⟩,94)]) aH (λ_=>⟨M,K,l2,h3,MS.refl _ _ _,by simpa using⟨ax3,hh.out⟩⟩) (Qf aH gx 0 rfl rfl (ah ?_ (Qb aH (.int .i64 (fr+1)) (by simp[go_sem,kP]) rfl rfl rfl rfl rfl (Qk aH rfl (ah ?_ (ah ?_ (Qf aH gx 1 rfl rfl (aI)))))))) (λ_=>rfl) rfl ?_
   .intro ρ y W L D G q z E C;refine fZ aH (λ_ _ h=>h) E ?_;have gy:=D 33 0 rfl;have h0:y 0=_:=C 0 rfl;obtain⟨a0,c0,l0,m1,m2,m3⟩:=E;have m3:=(m3 _ (bB.2 rfl)).1;refine ak (.int .i64 fr) (aj rfl) (by simp[execOp,go_sem,gy,h0,m3.cell,ky]) rfl
   .intro ρ y W L D G q z E C;have gv:=D 36 3 rfl;have h3:y 3=_:=C 3 rfl;have EC:∀v,ρ (.const v)=v:=λv=>G (.const v) trivial;have EF:=eF0 G λ_=>trivial;refine jd _ _ (aj rfl) (aS rfl (EF _) func32 (by kernel_rfl) (by kernel_rfl) (by simp only[bW,bQ,aZ,gv,h3,EC,EF];rfl)) ?_;exact zZ 4 (by omega) E λx h1 h2 h3 _=>⟨x,rfl,h1,by omega⟩
   .intro ρ y W L D G q z E C;refine fZ aH (λ_ _ h=>h) E ?_;have gw:=D 35 2 rfl;have h2:y 2=_:=C 2 rfl;have gu:=D 37 4 rfl;have h4:=C 4 rfl;obtain⟨x,f,k1,k2⟩:=h4;have kE:IntKind.i64.wrap (fr+1+x)=fr+1+x:=bI _ (by omega);refine ak (.int .i64 (fr+1+x)) (aj rfl) (qz rfl (gw.trans h2) (gu.trans f) (by simp[go_sem,kE])) ⟨_,rfl,by omega,by omega⟩
   intro y W4 k5 ki;have gd:((dF λv => ∃x:Int,v = .int .i64 x/\0<=x/\x<4)).r (y 4) W4:=ki 4 (by decide);have gc:((dF λv => ∃x:Int,v = .int .i64 x/\fr<x/\x<=fr+4)).r (y 5) W4:=ki 5 (by decide);clear ki;obtain⟨V,U,l4,h4,s4,kW⟩:=k5;have ax4:=(kW _ (bB.2 rfl)).1;rw[oK]at h4 s4;have hY:=s4.ownN hZ hJ.out;have s4:=s3.trans s4;obtain⟨en,hv,gV,gU⟩:=gc;have k0:Hid (en-fr<=4):=ae (by omega);rw[hv];clear hv kW h3 s3 hZ ax3 kP
   go_wp2_with (refine aB rfl _ _ _ rfl gx 1 _ [.int .i64 en] rfl rfl rfl _ _ ax4 (by show 1+1<=7;omega) (by kernel_rfl) (λu hu=>by cases bB.1 hu;rfl) ?_)
   intro w5 ax5 hr;rw[show bJ (ky ⟨fr,0,rd,Y,false,fi,0⟩) 1 [.int .i64 en]=ky ⟨fr,en,rd,Y,false,fi,0⟩from rfl]at ax5;have h5:=h4.locA ax4 hh.out kc.out hT hr;have s5:=s4.loc hr hS.out;have hq:=hY.grown hr hU.out;clear h4 s4 hY ax4 hr;have hR:=ax5.cell;unfold ky at hR;go_upto_if 42 with(fail)
   go_cut [2] (fun s2 wx=>s2 = .slice a A.length c/\∃(X:Ar) (a:Option Addr) (cl:Nat) (l:List UInt8),aG wx gx (ky X) 94/\fD wx B b (S.lst a cl l)/\MS w b S wx (S.lst a cl l)/\Own wx B 94 7 s2 A.length (A.flatMap mX)/\Hid (X.fi<S.H.fi.length/\X.en-X.fr<=4))
   case first=>
    by_cases hfi0:0<=fi
    .go_wp2_with fail
     refine(fV _ 2 B b _ h5 (by omega)).mono ?_;rintro r w6 ⟨x6,a6,c6,l6,rfl,h6,s6,_,_⟩;rw[oK]at h6 s6;have ax6:=s6.blkN ax5 hh.out;have J:=s6.ownN hq hJ.out;have s6:=s5.trans s6;clear h5 s5 hq hR ax5
     go_wp2_with fail
     refine(fV _ 4 B b _ h6 (by omega)).mono ?_;rintro r w7 ⟨x7,a7,c7,l7,rfl,h7,s7,_,_⟩;rw[oK]at h7 s7;have ax7:=s7.blkN ax6 hh.out;have I:=s7.ownN J hJ.out;have s7:=s6.trans s7;clear h6 s6 J ax6
     go_wp2_with (refine aB rfl _ _ _ rfl gx 4 _ [.bool (x6==1)] rfl rfl rfl _ _ ax7 (by show 4+1<=7;omega) (by kernel_rfl) (λu hu=>by cases bB.1 hu;rfl) ?_)
     intro w8 ax8 ko;rw[show bJ (ky ⟨fr,en,rd,Y,false,fi,0⟩) 4 [.bool (x6==1)]=ky ⟨fr,en,rd,Y,x6==1,fi,0⟩from rfl]at ax8;have h8:=h7.locA ax7 hh.out kc.out hT ko;have s8:=s7.loc ko hS.out;have own8:=I.grown ko hU.out;clear h7 s7 I ax7 ko
     go_wp2_with (refine aB rfl _ _ _ rfl gx 6 _ [.int .i64 x7] rfl rfl rfl _ _ ax8 (by show 6+1<=7;omega) (by kernel_rfl) (λu hu=>by cases bB.1 hu;rfl) ?_)
     intro w9 ax9 kn;rw[show bJ (ky ⟨fr,en,rd,Y,x6==1,fi,0⟩) 6 [.int .i64 x7]=ky ⟨fr,en,rd,Y,x6==1,fi,x7⟩from rfl]at ax9;have R:=h8.locA ax8 hh.out kc.out hT kn;have s9:=s8.loc kn hS.out;have own9:=own8.grown kn hU.out;clear h8 s8 own8 ax8 kn;go_wp2;go_meet
     case rel=>exact⟨rfl,_,a7,c7,l7,ax9,R,s9,own9,ae ⟨k9,k0.out⟩⟩
    go_wp2;go_meet
    case rel=>exact⟨rfl,_,V,U,l4,ax5,h5,s5,hq,ae ⟨k9,k0.out⟩⟩
   case rest=>
    obtain⟨rfl,X,a6,c6,l6,ax6,h6,s6,J,ga⟩:=hcut;clear h5 s5 hq ax5 hR
    go_wp2_with (refine ay _ _ rfl gx 0 rfl rfl _ ax6.rd _ underlying94 rfl area_size ?_)
    refine(SF A X a c _ (have R:=uN J;⟨R.le,R.mx,R.nl,R.rd⟩)).mono ?_;rintro r w7 ⟨v7,rfl,I,kq⟩;obtain⟨a7,c7,rfl,_⟩:=I.rd;have I:=I.mono h6.bs;have h7:=h6.below kq;have s7:=s6.below kq;have J:=J.below kq;clear h6 s6 ax6 kq km hJ hU hh kc hS hT
    by_cases hme:Ca A X=0
    .have kd:=MX hme;have kb:Hid ((bP (zn A X)).1=0/\Xa (zn A X) S.H.fi.length (4*(k+1))/\(k+1=0->zn A X=[]/\l6=l1)):=ae ⟨iZ.2 ⟨kd.1,kd.2.1⟩,⟨λn g hg=>by
      rw[kd.2.2]at hg;split at hg
      .cases hg;exact ga.out.1
      .exact hA.out.2.1.1 n g hg,by have:=VL kd.2.2 ga.out.2;have:=hA.out.2.1.2;omega⟩,λe=>by omega⟩
     clear kd;rw[hme];go_wp2;go_roundw
     case rel=>exact⟨k+1,zn A X,a7,c7,a6,c6,l6,by omega,by go_num,rfl,I,h7,s7,kb⟩
     case measure=>simp[intOf];omega
    have kb:Hid ((bP A).1=0/\Xa A S.H.fi.length (4*(k+1))/\(k+1=0->A=[]/\l6=l1)):=ae ⟨hA.out.1,⟨hA.out.2.1.1,by have:=hA.out.2.1.2;omega⟩,λe=>by omega⟩;go_wp2;go_roundw
    case rel=>exact⟨k+1,A,a,c,a6,c6,l6,by omega,by go_num,rfl,J,h7,s7,kb⟩
    case measure=>simp[intOf];omega
  have gm:¬(k:Int)<(N:Int):=by omega
  obtain rfl:k=N:=by omega
  have g0:A.length<=16:=(iZ.1 hA.out.1).1;have hc:=Z.blk.cell;unfold jI at hc;dsimp only[MW.lst]at hc;have hD:=Z.ma.sp;dsimp only[MW.lst]at hD
  go_wp2_with (at_builtin;go_must (refine uo rfl _ _ 43 rfl B 76 _ 10 224 underlying43 space_info rfl (by decide) _ S.H.sp.length (S.H.sp.flatMap tQ) rfl (hD.alloc _) (some ⟨wr.heap.size,0,none⟩) 1 1 (tQ ⟨true,a,c,A,nTs,zTb⟩) rfl (λh=>(by cases h)) (az _) rfl (eB.new _ (yX ⟨true,a,c,A,nTs,zTb⟩) _) (bT (by simp[yX,nTs,Value.oneCell'])) (by unfold maxLen;omega) (by omega) (dI Z.bs _) ?_))
  intro v2 w2 own2 hH kv;have kr:=(Below.refl wr.heap.size wr).alloc (az _) (.cells (yX (⟨true,a,c,A,nTs,zTb⟩:PS)) 76);have o:=Z.below kr;have hP:=hs.below kr;have ka:=hi.below kr;have d:Own (wr.alloc (.cells (yX (⟨true,a,c,A,nTs,zTb⟩:PS)) 76)) B 76 10 (.slice S.H.ap S.H.sp.length S.H.cp) S.H.sp.length (S.H.sp.flatMap tQ):=o.ma.sp;have ha:=jo d hH ka (by decide);have kD:=Be d hH o.blk (by decide);have kx:∀p∈S.H.sp++[(⟨true,a,c,A,nTs,zTb⟩:PS)],Own w2 B 94 7 (.slice p.aa p.ar.length p.ac) p.ar.length (p.ar.flatMap mX)/\sG w2 B (nT p.ts) p.tb:=λp hp=>by
   rcases gH.1 hp with hp|hp
   .exact⟨jo d hH (o.ma.ps p hp).1 (by decide),Ef d hH (o.ma.ps p hp).2⟩
   rw[bB.1 hp];exact⟨ha,Cr _ _⟩
  obtain⟨M,K,rfl,_⟩:=own2.rd;have hG:(S.H.sp++[(⟨true,a,c,A,nTs,zTb⟩:PS)]).length=S.H.sp.length+1:=by simp
  have own2' : Own w2 B 76 10 (.slice M (S.H.sp++[(⟨true,a,c,A,nTs,zTb⟩:PS)]).length K) (S.H.sp++[(⟨true,a,c,A,nTs,zTb⟩:PS)]).length ((S.H.sp++[(⟨true,a,c,A,nTs,zTb⟩:PS)]).flatMap tQ):=by rw[hG,fI];simpa using own2
  clear hc Z hs hi ka hD own2 km
  go_wp2_with (refine aB rfl _ _ _ rfl b 11 _ [.slice M (S.H.sp.length+1) K] rfl rfl rfl _ _ kD (by show 11+1<=13;omega) (by kernel_rfl) (λu hu=>by cases bB.1 hu;rfl) ?_)
  intro w3 kN hy;have h3:fD w3 B b { S.lst al cl F with H:={ S.H with ap:=M,cp:=K,sp:=S.H.sp++[(⟨true,a,c,A,nTs,zTb⟩:PS)] } }:=o.appP hH own2' kx (by rw[hG];exact kN) hy;have s3:MS w b S w3 { S.lst al cl F with H:={ S.H with ap:=M,cp:=K,sp:=S.H.sp++[(⟨true,a,c,A,nTs,zTb⟩:PS)] } }:=hP.app o d (by simp[iW,MW.lst]) hH hy kv (λx f=>by
   rcases f with f|f
   .exact .inl (.inl f)
   simp only[iW,MW.lst,dx,gW,or_false]at f;rcases f with f|f|f|f|f|f|f|f|f<;>first|exact .inr f.symm|exact .inl (.inr (by simp[iW,MW.lst,f])))
  have kh:S.T.length<=100:=by have R:=kK.out.ok.len;have h8:S.H.ma.sp.length=S.H.sp.length:=dV _;omega
  clear o hP d kD kx own2' kN hy kv hH kr ha;have hc:=h3.blk.cell;unfold jI at hc;dsimp only[MW.lst]at hc;have hC:Own w3 B 69 192 (.slice S.ab S.T.length S.cb) S.T.length (S.T.flatMap tL):=h3.tt
  go_wp2_with (at_builtin;go_must (refine CL rfl _ _ rfl (by kernel_rfl) B (.slice S.ab S.T.length S.cb) S.T.length (S.T.flatMap tL) rfl hC rfl kh h3.bs ?_))
  intro v4 w4 own4 kp ku;have hO:=(Below.refl w3.heap.size w3).alloc (az _) (.cells (tL (List.replicate 64 zEn)).toArray 69);have kj:=h3.below hO;have s3a:=s3.below hO;have hl:=hC.below hO;have kC:aG w4 b (jI { S.lst al cl F with H:={ S.H with ap:=M,cp:=K,sp:=S.H.sp++[(⟨true,a,c,A,nTs,zTb⟩:PS)] } }) 98:=by
   rcases sV hl kp with hb0|⟨g,cs,hk,_,hg'⟩
   .exact kj.blk.ext hb0
   .exact bY kj.blk hk (by decide) hg'
  obtain⟨V,U,rfl,_⟩:=own4.rd;have hF:(S.T++[List.replicate 64 zEn]).length=S.T.length+1:=by simp
  have own4' : Own w4 B 69 192 (.slice V (S.T++[List.replicate 64 zEn]).length U) (S.T++[List.replicate 64 zEn]).length ((S.T++[List.replicate 64 zEn]).flatMap tL):=by rw[hF,fI];simpa using own4
  clear hc h3 s3 hC own4 hO
  go_wp2_with (refine aB rfl _ _ _ rfl b 12 _ [.slice V (S.T.length+1) U] rfl rfl rfl _ _ kC (by show 12+1<=13;omega) (by kernel_rfl) (λu hu=>by cases bB.1 hu;rfl) ?_)
  intro w5 k8 hr;have h5:fD w5 B b { S.lst al cl F with H:={ S.H with ap:=M,cp:=K,sp:=S.H.sp++[(⟨true,a,c,A,nTs,zTb⟩:PS)] },ab:=V,cb:=U,T:=S.T++[List.replicate 64 zEn] }:=kj.appT kp own4' (by rw[hF];exact k8) hr;have s5:MS w b S w5 { S.lst al cl F with H:={ S.H with ap:=M,cp:=K,sp:=S.H.sp++[(⟨true,a,c,A,nTs,zTb⟩:PS)] },ab:=V,cb:=U,T:=S.T++[List.replicate 64 zEn] }:=s3a.app kj hl (by simp[iW,MW.lst]) kp hr ku (λx f=>by
   rcases f with f|f
   .exact .inl (.inl f)
   simp only[iW,MW.lst,dx,gW,or_false]at f;rcases f with f|f|f|f|f|f|f|f|f<;>first|exact .inr f.symm|exact .inl (.inr (by simp[iW,MW.lst,f])))
  clear kj s3a hl kC own4' k8 hr ku kp;have hL:({ S.lst al cl F with H:={ S.H with ap:=M,cp:=K,sp:=S.H.sp++[(⟨true,a,c,A,nTs,zTb⟩:PS)] },ab:=V,cb:=U,T:=S.T++[List.replicate 64 zEn] }:MW).H.ma = { S.H.ma with sp:=S.H.ma.sp++[⟨true,A,zTb⟩] }:=by simp[MH.ma,PS.sp]
  have kg:Bd ({ S.lst al cl F with H:={ S.H with ap:=M,cp:=K,sp:=S.H.sp++[(⟨true,a,c,A,nTs,zTb⟩:PS)] },ab:=V,cb:=U,T:=S.T++[List.replicate 64 zEn] }:MW).H.ma ({ S.lst al cl F with H:={ S.H with ap:=M,cp:=K,sp:=S.H.sp++[(⟨true,a,c,A,nTs,zTb⟩:PS)] },ab:=V,cb:=U,T:=S.T++[List.replicate 64 zEn] }:MW).T:=by rw[hL];exact kK.out.more (s:=⟨true,A,zTb⟩) (by show(S.H.sp.map PS.sp).length<4;rw[dV];exact hl4) rfl hA.out.1
  have hE:Hid (More S { S.lst al cl F with H:={ S.H with ap:=M,cp:=K,sp:=S.H.sp++[(⟨true,a,c,A,nTs,zTb⟩:PS)] },ab:=V,cb:=U,T:=S.T++[List.replicate 64 zEn] }):=ae ⟨kg,⟨λp hp=>by
   rcases gH.1 hp with hp|hp
   .exact kZ.out.1 p hp
   rw[bB.1 hp];exact⟨hA.out.2.1.1,by have:=hA.out.2.1.2;show RN A<=12;omega⟩,kZ.out.2⟩,rfl,rfl,rfl,by simp,rfl⟩
  have gb:S.T.length=S.H.sp.length:=by have R:=kK.out.ok.len;have h8:S.H.ma.sp.length=S.H.sp.length:=dV _;omega
  have kJ:Hid (∀j:Nat,(fU ({ S.lst al cl F with H:={ S.H with ap:=M,cp:=K,sp:=S.H.sp++[(⟨true,a,c,A,nTs,zTb⟩:PS)] },ab:=V,cb:=U,T:=S.T++[List.replicate 64 zEn] }:MW).T S.H.sp.length j).k=0):=ae λj=>by unfold fU fO;rw[aY (l:=S.T++_),jU (by omega),<-gb,qx];show((List.replicate 64 zEn).getD j zEn).k=0;rw[aY,qa];split<;>rfl
  have kF:Hid (dD ({ S.lst al cl F with H:={ S.H with ap:=M,cp:=K,sp:=S.H.sp++[(⟨true,a,c,A,nTs,zTb⟩:PS)] },ab:=V,cb:=U,T:=S.T++[List.replicate 64 zEn] }:MW).H.ma S.H.sp.length=⟨true,A,zTb⟩):=ae (by rw[hL];unfold dD;have h8:S.H.ma.sp.length=S.H.sp.length:=dV _;rw[aY,jU (by omega),h8,qx];rfl);have hX:∀W,fD W B b { S.lst al cl F with H:={ S.H with ap:=M,cp:=K,sp:=S.H.sp++[(⟨true,a,c,A,nTs,zTb⟩:PS)] },ab:=V,cb:=U,T:=S.T++[List.replicate 64 zEn] }->eB W a (A.flatMap mX):=λW hW=>(uN (hW.ma.ps (⟨true,a,c,A,nTs,zTb⟩:PS) (uQ _ (bB.2 rfl))).1).rd;have kH:Hid (({ S.lst al cl F with H:={ S.H with ap:=M,cp:=K,sp:=S.H.sp++[(⟨true,a,c,A,nTs,zTb⟩:PS)] },ab:=V,cb:=U,T:=S.T++[List.replicate 64 zEn] }:MW).H.sp.length=S.H.sp.length+1):=ae (by simp);have gk:Hid (S.l=[]->A=[]/\({ S.lst al cl F with H:={ S.H with ap:=M,cp:=K,sp:=S.H.sp++[(⟨true,a,c,A,nTs,zTb⟩:PS)] },ab:=V,cb:=U,T:=S.T++[List.replicate 64 zEn] }:MW).l=[]/\({ S.lst al cl F with H:={ S.H with ap:=M,cp:=K,sp:=S.H.sp++[(⟨true,a,c,A,nTs,zTb⟩:PS)] },ab:=V,cb:=U,T:=S.T++[List.replicate 64 zEn] }:MW).H.ma = { S.H.ma with sp:=S.H.ma.sp++[⟨true,[],zTb⟩] }/\({ S.lst al cl F with H:={ S.H with ap:=M,cp:=K,sp:=S.H.sp++[(⟨true,a,c,A,nTs,zTb⟩:PS)] },ab:=V,cb:=U,T:=S.T++[List.replicate 64 zEn] }:MW).T=S.T++[List.replicate 64 zEn]):=ae λe=>by
   have R:=kS.out e;have gn:k=0:=by omega
   have h8:=hA.out.2.2 gn;refine⟨h8.1,by show F=[];rw[h8.2];exact R.2,?_,rfl⟩;rw[hL,h8.1]
  have kw:=hX _ h5;have ks:∀S9:MW,S9.H.sp=S.H.sp++[(⟨true,a,c,A,nTs,zTb⟩:PS)]->S9.H.sp.length=S.H.sp.length+1:=λS9 e=>by rw[e];simp
  have kt:({ S.lst al cl F with H:={ S.H with ap:=M,cp:=K,sp:=S.H.sp++[(⟨true,a,c,A,nTs,zTb⟩:PS)] },ab:=V,cb:=U,T:=S.T++[List.replicate 64 zEn] }:MW).H.sp=S.H.sp++[(⟨true,a,c,A,nTs,zTb⟩:PS)]:=rfl;clear hL hX gb;generalize ({ S.lst al cl F with H:={ S.H with ap:=M,cp:=K,sp:=S.H.sp++[(⟨true,a,c,A,nTs,zTb⟩:PS)] },ab:=V,cb:=U,T:=S.T++[List.replicate 64 zEn] }:MW)=S5 at *
  have ke:=ks S5 kt;have kY:S5.H.fi=S.H.fi:=hE.out.fi;have kQ:srtF 0 A:=lI (iZ.1 hA.out.1).2;have hV:=ae kQ;have hc:=h5.blk.cell;unfold jI at hc;rw[ke]at hc;have gi:IntKind.i64.wrap (((S.H.sp.length+1:Nat):Int)-1)=(S.H.sp.length:Int):=by rw[bI _ (by omega)];omega
  have kL:=ae kg;clear kg kQ ks ke kY kt kh hF hG
  go_wp2_with fail
  refine(nJ A a c _ kw (by omega) (λx f=>(srtF_ok hV.out x f).1)).mono ?_;rintro r w6 ⟨rfl,kM⟩;have h6:=h5.below kM;have s6:=s5.below kM;have kk:=ae kH;clear h5 s5 hc kw gi kM;go_upto_region 15 with(fail)
  go_loopw [92] (fun i wr => ∃(n:Nat) (Sn:MW),n<=64/\i = .int .i64 n/\fD wr B b Sn/\MS w b S wr Sn/\Hid (Ka S5 Sn/\Bd Sn.H.ma Sn.T/\(∀j:Nat,n<=j->(fU Sn.T S.H.sp.length j).k=0)/\(A=[]->Sn=S5))) (fun i _=>64-(intOf i).toNat)
  case atStart=>exact⟨0,S5,bq _,rfl,h6,s6,ae ⟨.refl _,kL.out,λj _=>kJ.out j,λ_=>rfl⟩⟩
  case round=>
   clear h6 s6;obtain⟨n,Sn,G,rfl,Z,hs,hN⟩:=hrel
   by_cases hn64:n<64
   .have gl:(n:Int)<64:=by omega
    cases hfk:cZ A n with
    | none=>
     have hQ:=xX (cZ A) n hn64 none hfk;unfold wW oR oW oH oF oP at hQ;have kA:=ae hfk;clear hfk;go_upto_region 17 with (fail);refine iG (λW=>Code.wp _ _ _ _ W) λW1 hz hB hP => ?_;have hR:=hB.cell;have o:=Z.below hz;have kl:=hs.below hz;clear hP hz Z hs hQ;go_wp2;go_roundw
     case rel=>exact⟨n+1,Sn,by omega,by go_num,o,kl,ae ⟨hN.out.1,hN.out.2.1,λj hj=>hN.out.2.2.1 j (by omega),hN.out.2.2.2⟩⟩
     case measure=>simp[intOf];omega
    | some g=>
     have hQ:=xX (cZ A) n hn64 (some g) hfk;unfold wW oR oW oH oF oP at hQ;dsimp only[Option.isSome]at hQ;have kA:=ae hfk;clear hfk;go_upto_region 17 with(fail);refine iG (λW=>Code.wp _ _ _ _ W) λW1 hz hB hP => ?_;have hR:=hB.cell;have o:=Z.below hz;have kl:=hs.below hz;clear hP hz Z hs hQ;have kI:onA A n=some g:=by rw[<-pJ hV.out];exact kA.out
     have kU:=pg_in hV.out kI;have kf:=ae kI;have kz:=ae kU;have kR:Hid (dD Sn.H.ma S.H.sp.length=⟨true,A,zTb⟩):=ae (by rw[<-kF.out];show(Sn.H.sp.map PS.sp).getD _ zSp=(S5.H.sp.map PS.sp).getD _ zSp;rw[hN.out.1.sp]);clear kI kU
     go_wp2_with (refine ay _ _ rfl wr.heap.size 0 rfl rfl _ hB.rd _ underlying80 rfl one_size ?_)
     refine(Nl Sn S.H.sp.length n g B b _ o hN.out.2.1 (by rw[hN.out.1.sp,kk.out.out];omega) hn64 (hN.out.2.2.1 n (az _)) (by rw[kR.out];exact kf.out) (by rw[hN.out.1.fi,hE.out.fi];exact hA.out.2.1.1 _ _ kf.out) kz.out.1 (λh=>by
      rcases Int.lt_or_le g.fi 0 with R|R
      .have:=(kz.out.2.2.2.2.1 R).1;rw[h]at this;simp at this
      .exact R)).mono ?_
     rintro r w7 ⟨S7,rfl,h7,s7,k7,bd7,ent7⟩;have gj:=kl.trans s7;have gp:Hid (Ka S5 S7/\Bd S7.H.ma S7.T/\(∀j:Nat,n+1<=j->(fU S7.T S.H.sp.length j).k=0)/\(A=[]->S7=S5)):=ae ⟨hN.out.1.trans k7,bd7,λj hj=>by rw[ent7 _ _ (by omega)];exact hN.out.2.2.1 j (by omega),λe=>by have R:=kf.out;rw[e] at R;cases R⟩;clear o kl s7 k7 bd7 ent7 hB hR;go_wp2;go_roundw
     case rel=>exact⟨n+1,S7,by omega,by go_num,h7,gj,gp⟩
     case measure=>simp[intOf];omega
   have gl:¬(n:Int)<64:=by omega
   go_wp2;refine bodyPost_ret (v:=.tuple #[]) (by simp[results,go_sem,results37]) rfl ?_;have hK:=hN.out.1;have hM:=hE.out;refine⟨Sn,rfl,Z,hs,⟨hN.out.2.1,⟨λp hp => ?_,by rw[hK.fi];exact hM.fm.2⟩,hK.fi.trans hM.fi,hK.ct.trans hM.ct,hK.dk.trans hM.dk,by rw[hK.sp];exact hM.sp,hK.fl.trans hM.fs⟩,λe => ?_⟩
   .rw[hK.sp]at hp;rw[hK.fi];exact hM.fm.1 p hp
   have R:=gk.out e;rw[hN.out.2.2.2 R.1];exact R.2
theorem fD.putD(h:fD w B b S)(f:aG w g cs 58)(s:B<=g)(n:oB S.H.db=some g)(d:w.grownBy w' (some g)){l:List Page}(C:l.length=S.H.dk.blocks.length)(z:Own w' B 58 8 (.slice S.H.db l.length S.H.cdb) l.length (l.flatMap Dy)) :
    fD w' B b { S with H:={ S.H with dk:=⟨l,S.H.dk.queue⟩ } }:=
  ⟨by
    have D:=bY h.blk f (by decide) d;have e:jI { S with H:={ S.H with dk:=⟨l,S.H.dk.queue⟩ } }=jI S:=by unfold jI;rw[show({ S.H with dk:=⟨l,S.H.dk.queue⟩ }:MH).dk.blocks.length=S.H.dk.blocks.length from C]
    rw[e];exact D,h.ge,
   ⟨ax h.ma.fr f (by decide) d,ax h.ma.sl f (by decide) d,⟨h.ma.sw.b.grown d (λE j e=>by cases e;rw[jF]at j;exact h.n1 _ j n),ax h.ma.sw.q f (by decide) d⟩,⟨z,ax h.ma.dk.q f (by decide) d⟩,h.ma.st.keep f (by decide) (by decide) d,ax h.ma.ca f (by decide) d,ax h.ma.sp f (by decide) d,λp u=>⟨ax (h.ma.ps p u).1 f (by decide) d,(h.ma.ps p u).2.keep f (by decide) d⟩,h.ma.c64⟩,
   ax h.tt f (by decide) d,h.rd.keep h.ra h.bs d s,h.ra,h.n1,h.n2,h.n3⟩
theorem fD.appQ(h:fD w B b S)(Z:w.grownBy w1 (Value.slice S.H.dq S.H.dk.queue.length S.H.cdq).ownBlock){l:List (Int × Page)}(Y:Own w1 B 105 9 (.slice a l.length c) l.length (l.flatMap zI))
 (hb:aG w2 b (bJ (jI S) 7 [.slice a l.length c]) 98) (j:w1.grownBy w2 (some b)) :
  fD w2 B b { S with H:={ S.H with dq:=a,cdq:=c,dk:=⟨S.H.dk.blocks,l⟩ } }:=by
 have d:Own w B 105 9 (.slice S.H.wq S.H.sw.queue.length S.H.cwq) S.H.sw.queue.length (S.H.sw.queue.flatMap zI):=h.ma.sw.q;have C:aG w1 b (jI S) 98/\Own w1 B 66 13 (.slice S.H.af S.H.m.fs.length S.H.cf) S.H.m.fs.length (S.H.m.fs.flatMap pR)/\Own w1 B 3 1 (.slice S.H.asl S.H.sl.length S.H.csl) S.H.sl.length (S.H.sl.map gB) /\
   nk w1 B (.slice S.H.wb S.H.sw.blocks.length S.H.cwb) (.slice S.H.wq S.H.sw.queue.length S.H.cwq) S.H.sw/\Own w1 B 58 8 (.slice S.H.db S.H.dk.blocks.length S.H.cdb) S.H.dk.blocks.length (S.H.dk.blocks.flatMap Dy)/\rz w1 B (.slice S.H.ai S.H.fi.length S.H.ci) S.H.fi /\
   Own w1 B 122 3 (.slice S.H.ac S.H.ca.length S.H.cc) S.H.ca.length (S.H.ca.flatMap iQ)/\Own w1 B 76 10 (.slice S.H.ap S.H.sp.length S.H.cp) S.H.sp.length (S.H.sp.flatMap tQ) /\
   (∀p∈S.H.sp,Own w1 B 94 7 (.slice p.aa p.ar.length p.ac) p.ar.length (p.ar.flatMap mX)/\sG w1 B (nT p.ts) p.tb)/\Own w1 B 69 192 (.slice S.ab S.T.length S.cb) S.T.length (S.T.flatMap tL)/\ve w1 S.al S.cl S.l.length (S.l.map CY):=by
  rcases sV h.ma.dk.q Z with F|⟨g,cs,s,E,f⟩
  .have u:=h.below F;exact⟨u.blk,u.ma.fr,u.ma.sl,u.ma.sw,u.ma.dk.b,u.ma.st,u.ma.ca,u.ma.sp,u.ma.ps,u.tt,u.rd⟩
  .exact⟨bY h.blk s (by decide) f,ax h.ma.fr s (by decide) f,ax h.ma.sl s (by decide) f,⟨ax h.ma.sw.b s (by decide) f,d.grown f (λg' I=>by rw[h.n3]at I;cases I)⟩,ax h.ma.dk.b s (by decide) f,h.ma.st.keep s (by decide) (by decide) f,ax h.ma.ca s (by decide) f,ax h.ma.sp s (by decide) f,λp z=>⟨ax (h.ma.ps p z).1 s (by decide) f,(h.ma.ps p z).2.keep s (by decide) f⟩,ax h.tt s (by decide) f,h.rd.keep h.ra h.bs f (je h.ma.dk.q E).1⟩
 obtain⟨n,k1,V,U,R,N,M,K,G,J,D⟩:=C;exact⟨hb,h.ge,⟨ax k1 n (by decide) j,ax V n (by decide) j,U.keep n (by decide) (by decide) j,⟨ax R n (by decide) j,ax Y n (by decide) j⟩,N.keep n (by decide) (by decide) j,ax M n (by decide) j,ax K n (by decide) j,λp z=>⟨ax (G p z).1 n (by decide) j,(G p z).2.keep n (by decide) j⟩,h.ma.c64⟩,
  ax J n (by decide) j,D.keep h.ra (bi h.ge (rZ n.lt)) j h.ge,h.ra,h.n1,h.n2,h.n3⟩
theorem fD.appFi(h:fD w B b S){p:PF}(u:Own w B 3 1 (nQ p) p.l.length (p.l.map gB))(J:∀(i:Nat) q,S.H.fi[i]?=some q->Apart (nQ q) (nQ p))(C:∀x,oB p.a=some x->oB S.H.asl≠some x)
 (M:w.grownBy w1 (Value.slice S.H.ai S.H.fi.length S.H.ci).ownBlock) (ho:Own w1 B 101 2 (.slice a (S.H.fi++[p]).length c) (S.H.fi.length+1) (S.H.fi.flatMap rH++rH p))
 (hb:aG w2 b (bJ (jI S) 8 [.slice a (S.H.fi++[p]).length c]) 98) (d:w1.grownBy w2 (some b)):fD w2 B b { S with H:={ S.H with ai:=a,ci:=c,fi:=S.H.fi++[p] } }:=by
 have hF:rz w1 B (.slice a (S.H.fi++[p]).length c) (S.H.fi++[p]):=h.ma.st.app ho u M J;have D:aG w1 b (jI S) 98/\Own w1 B 66 13 (.slice S.H.af S.H.m.fs.length S.H.cf) S.H.m.fs.length (S.H.m.fs.flatMap pR)/\Own w1 B 3 1 (.slice S.H.asl S.H.sl.length S.H.csl) S.H.sl.length (S.H.sl.map gB) /\
   nk w1 B (.slice S.H.wb S.H.sw.blocks.length S.H.cwb) (.slice S.H.wq S.H.sw.queue.length S.H.cwq) S.H.sw/\nk w1 B (.slice S.H.db S.H.dk.blocks.length S.H.cdb) (.slice S.H.dq S.H.dk.queue.length S.H.cdq) S.H.dk /\
   Own w1 B 122 3 (.slice S.H.ac S.H.ca.length S.H.cc) S.H.ca.length (S.H.ca.flatMap iQ)/\Own w1 B 76 10 (.slice S.H.ap S.H.sp.length S.H.cp) S.H.sp.length (S.H.sp.flatMap tQ) /\
   (∀p∈S.H.sp,Own w1 B 94 7 (.slice p.aa p.ar.length p.ac) p.ar.length (p.ar.flatMap mX)/\sG w1 B (nT p.ts) p.tb)/\Own w1 B 69 192 (.slice S.ab S.T.length S.cb) S.T.length (S.T.flatMap tL)/\ve w1 S.al S.cl S.l.length (S.l.map CY):=by
  rcases sV h.ma.st.own M with I|⟨g,cs,n,G,f⟩
  .have s:=h.below I;exact⟨s.blk,s.ma.fr,s.ma.sl,s.ma.sw,s.ma.dk,s.ma.ca,s.ma.sp,s.ma.ps,s.tt,s.rd⟩
  .exact⟨bY h.blk n (by decide) f,ax h.ma.fr n (by decide) f,ax h.ma.sl n (by decide) f,h.ma.sw.keep n (by decide) (by decide) f,h.ma.dk.keep n (by decide) (by decide) f,ax h.ma.ca n (by decide) f,ax h.ma.sp n (by decide) f,λp u=>⟨ax (h.ma.ps p u).1 n (by decide) f,(h.ma.ps p u).2.keep n (by decide) f⟩,ax h.tt n (by decide) f,h.rd.keep h.ra h.bs f (je h.ma.st.own G).1⟩
 obtain⟨j,k1,Z,Y,V,U,R,K,N,E⟩:=D;exact⟨hb,h.ge,⟨ax k1 j (by decide) d,ax Z j (by decide) d,Y.keep j (by decide) (by decide) d,V.keep j (by decide) (by decide) d,hF.keep j (by decide) (by decide) d,ax U j (by decide) d,ax R j (by decide) d,λp u=>⟨ax (K p u).1 j (by decide) d,(K p u).2.keep j (by decide) d⟩,h.ma.c64⟩,
  ax N j (by decide) d,E.keep h.ra (bi h.ge (rZ j.lt)) d h.ge,h.ra,h.n1,λq z x F=>by
   rcases gH.1 z with z|z
   .exact h.n2 q z x F
   rw[bB.1 z]at F;exact C x F,h.n3⟩
theorem fD.putP(h:fD w B b S)(f:aG w g cs 76)(n:B<=g)(d:w.grownBy w' (some g))(z:sp.length=S.H.sp.length)(u:Own w' B 76 10 (.slice S.H.ap sp.length S.H.cp) sp.length (sp.flatMap tQ))
 (j:∀p∈sp,Own w B 94 7 (.slice p.aa p.ar.length p.ac) p.ar.length (p.ar.flatMap mX)/\sG w B (nT p.ts) p.tb):fD w' B b { S with H:={ S.H with sp:=sp } }:=
  ⟨by
    have C:=bY h.blk f (by decide) d;have e:jI { S with H:={ S.H with sp:=sp } }=jI S:=by unfold jI;rw[show({ S.H with sp:=sp }:MH).sp.length=S.H.sp.length from z]
    rw[e];exact C,h.ge,
   ⟨ax h.ma.fr f (by decide) d,ax h.ma.sl f (by decide) d,h.ma.sw.keep f (by decide) (by decide) d,h.ma.dk.keep f (by decide) (by decide) d,h.ma.st.keep f (by decide) (by decide) d,ax h.ma.ca f (by decide) d,u,λp s=>⟨ax (j p s).1 f (by decide) d,(j p s).2.keep f (by decide) d⟩,h.ma.c64⟩,
   ax h.tt f (by decide) d,h.rd.keep h.ra h.bs d n,h.ra,h.n1,h.n2,h.n3⟩
theorem fD.setH(h:fD w B b S){x:Int}(f:aG w' b (bJ (jI S) 2 [.int .i64 x]) 98)(d:w.grownBy w' (some b)):fD w' B b { S with H:={ S.H with m:=⟨S.H.m.fs,x⟩ } }:=
  ⟨f,h.ge,
   have k:=h.ma.keep h.blk (by decide) d
   ⟨k.fr,k.sl,k.sw,k.dk,k.st,k.ca,k.sp,k.ps,k.c64⟩,ax h.tt h.blk (by decide) d,h.rd.keep h.ra h.bs d h.ge,h.ra,h.n1,h.n2,h.n3⟩
end Go.Proofs.YthihaopabbpalaaGreat
namespace Pw
open Go Go.RowKit
variable {P:Program} {Q:Exit -> Act -> World -> Prop} {a0:Act} {id:Nat} {ops:Array Oper} {rest:List Oper} {t0:Array Value} {w0:World}
theorem Ud(m:Nat)(l:List mV)(J:(Nat->Bool)->(Nat->Value)->World->Prop)(u:∀L y w w',Below w.heap.size w w'->J L y w->J L y w')(D:∀y,J (λ_=>false) y w0)(f:Fixed l)(I:P.follows .mixedOrders=true)(ops' : Array Oper)(G:dm ops=ops')(z:jY ops' = true)(F:jg ops' m=true)(C:m<=ops'.size)
 (n:Nat) (H:a0.tmps.size=n) (s:kS ops' n=true)
 (d:bn (nu P ops' a0 J l) 0 (ops'.toList.take m))
 (j:∀y w,J (λi=>decide (i<m)) y w->(∀i,i<m->rl l i (y i) w)->wpList P ops' Q (ops'.toList.drop m) { a0 with tmps:=lay (λi=>decide (i<m)) y ops'.toList 0 a0.tmps } w) :
  (Code.region id ops true).wp P Q a0 w0:=by
 refine wp_region_any I (yK _ _ _ _ ?_);have E:=Ib m l J u D f z F C n H s d j;subst G;rw[wm]at E;exact E
theorem xS{s:List Deferred}(m:Nat)(l:List RV)(J:(Nat->Bool)->(Nat->Value)->World->Prop)(z:∀L y w w',Below w.heap.size w w'->J L y w->J L y w')(F:∀y,J (λ_=>false) y w0)
 (d:bn (nu P (dm ops) ⟨t0,s⟩ J (rvs l)) 0 ((dm ops).toList.take m)) {G:(Nat->Value)->List Value} (M:∀y,zz y l (dm ops).toList t0.toList=some (G y)) (N:wr ((dm ops).toList.drop m)=some rest)
 (n:∀y w,J (λi=>decide (i<m)) y w->(∀i,i<m->rl (rvs l) i (y i) w)->wpList P (dm ops) Q rest ⟨(G y).toArray,s⟩ w)
 (j:Fixed (rvs l):=by repeat (first | exact fix_nil | refine LV (λ_ _ _ h=>h) ?_))
 (K:P.follows .mixedOrders=true:=by kernel_rfl) (C:jY (dm ops)=true:=by kernel_rfl) (I:jg (dm ops) m=true:=by kernel_rfl) (f:m<=(dm ops).size:=by decide) (D:l.length=m:=by rfl) (E:idxOk l 0=true:=by kernel_rfl)
 (u:kS (dm ops) t0.size=true:=by kernel_rfl):(Code.region id ops true).wp P Q ⟨t0,s⟩ w0:=by
 refine Ud m (rvs l) J z F j K (dm ops) rfl C I f _ rfl u d λy w R H => ?_;have h:=n y w R H;rw[OJ N];show wpList P (dm ops) Q rest ⟨lay (λi=>decide (i<m)) y (dm ops).toList 0 t0,s⟩ w;rw[Pv E D f H (M y)];exact h
end Pw
namespace Go.Proofs.YthihaopabbpalaaGreat
open _root_.Go.Proofs.Tryz
open Go.RowKit Go.Maps Pw
variable {L:Nat -> Bool} {P:Program} {i:Nat} {o op:Oper} {ops:Array Oper} {w w':World} {y:Nat -> Value} {ρ:Operand -> Value}
theorem Jw(d:TypeId)(x y:Operand)(G:op.op = .store d x y)
 (b o:Nat) (v:Value) (cells:List Value) (D:ρ x = .pointer (some ⟨b,o,none⟩)) (C:ρ y=v) (z:v.cells.toList=cells) (cur:Array Value) (T:TypeId) (n:aG w b cur T)
 (s:o+cells.length<=cur.size) (f:(P.info? d).map (·.size)=some cells.length) (I:∀u∈cells,u.oneCell' = true):(execOp ρ op).run P w = .ok .skip (w.setCells b o cells):=by
 have a:=run_storeCells_cells (P:=P) b o cells 0 w
  (λj H=>by rw[iP,n.cell];simp[show o+j<cur.size by omega]) (λj H=>n.free _) I
 simp only[iP]at a;have c:(storeVar d ⟨b,o,none⟩ v).run P w = .ok () (w.setCells b o cells):=by
  cases hq:P.info? d with
  | none=>simp[hq]at f
  | some i=>
   have F:i.size=cells.length:=by simpa[hq]using f
   have E:v.cells.size=cells.length:=by rw[<-z];simp
   simp[storeVar,Go.sizeOf,typeInfo,hq,F,E,z,a]
 unfold execOp;simp only[G,D,C,Instr.storeAt,Instr.sureAddr,kY,qR,rA,c]
theorem BX{l:List mV}{J:(Nat->Bool)->(Nat->Value)->World->Prop}(f:Region.wanted o (iw ρ ops)=true)(d:(execOp ρ o).run P w = .ok .skip w')
 (n:J (dQ L i) (fE y i undef) w') (j:rl l i undef w') :
  if Region.wanted o (iw ρ ops)=true then dZ P o ρ w (λv w'=>J (dQ L i) (fE y i v) w'/\rl l i v w')else J (dQ L i) (fE y i undef) w/\rl l i undef w:=by
 rw[if_pos f];unfold dZ;rw[d];exact⟨n,j⟩
end Go.Proofs.YthihaopabbpalaaGreat