import Derived.Test.YthihaopabbpalaaGreatX2
import Derived.BigQuiet
import Derived.BigRegion
import Derived.Deep.DeepCutAuto
import Derived.Deep.Light
import Derived.Deep.LoopGhost
import Derived.Deep.QuietTactic
import Derived.IntWalk
import Derived.Lib.LazyBuf
import Derived.Test.YthihaopabbpalaaGreatRows
import Derived.Lib.Hide
import Derived.Deep.RegionLaw
import Derived.Laws.Externs
import Derived.Laws.IdiomCopy
import Derived.Lib.AppendZerosOnto
import Derived.Lib.Overlaps
import Derived.Lib.SliceRun
set_option linter.unusedSimpArgs false
set_option linter.unusedVariables false
set_option linter.unnecessarySimpa false
set_option maxHeartbeats 4000000
set_option maxRecDepth 100000
namespace Go.Proofs.YthihaopabbpalaaGreat
open _root_.Go.Proofs.Tryz
open Go.RowKit Go.Maps Pw
variable {B B' B0 b c c' g i k off p sz:Nat} {P:Program} {Q:Exit -> Act -> World -> Prop} {T T' t:TypeId} {a a':Option Addr} {cs cs' cur:Array Value} {e n:Int} {l l':List Int} {o:Oper} {ops:Array Oper} {rest:List Oper} {u v v':Value} {vs xs:List Value} {w w' w0 w1 w2:World} {x:Operand} {ρ:Operand -> Value}
structure PF where
 n:Int
 a:Option Addr
 l:List Int
 c:Nat
def PF.fi(p:PF):Fi:=⟨p.n,p.l⟩
def Pb(p:PF):Array Value:=#[.int .i64 p.n,.slice p.a p.l.length p.c]
def xQ(p:PF):List Value:=(Pb p).toList
theorem lC(p:PF):(xQ p).length=2:=rfl
theorem EI(p:PF):(Pb p).all (·.oneCell')=true:=by simp[Pb,Value.oneCell']
structure PF.good (w:World) (p:PF):Prop where
 le:p.l.length<=p.c
 mx:p.c<=maxLen
 nl:p.a=none->p.c=0
 rd:eD w p.a (p.l.map ib)
theorem PF.good.below{p:PF}(h:p.good w)(d:Below w.heap.size w w'):p.good w':=⟨h.le,h.mx,h.nl,h.rd.below d⟩
structure TP (w:World) (a:Option Addr) (c:Nat) (ps:List PF):Prop where
 le:ps.length<=c
 mx:c<=maxLen
 nl:a=none->c=0
 rd:eD w a (ps.flatMap xQ)
 good:∀p∈ps,p.good w
theorem TP.below{ps:List PF}(h:TP w a c ps)(d:Below w.heap.size w w'):TP w' a c ps:=
 ⟨h.le,h.mx,h.nl,h.rd.below d,λp f=>(h.good p f).below d⟩
theorem yB{ps:List PF}(h:eD w a (ps.flatMap xQ))(k:Nat)(d:k<ps.length):∃b off p,a=some ⟨b,off,none⟩/\ps[k]?=some p/\w.cell? ⟨b,off+k*2,none⟩=some (.int .i64 p.n)/\w.cell? ⟨b,off+k*2+1,none⟩=some (.slice p.a p.l.length p.c):=by
 obtain⟨b,off,j,f⟩:=h.elem lC (by decide) k d;exact⟨b,off,ps[k],j,aM d,f 0 _ rfl,f 1 _ rfl⟩
def bD(ps:List PF)(k:Int):St:=⟨ps.map PF.fi,k⟩
def QE(a:Option Addr)(n c:Nat)(k:Int):Array Value:=#[.slice a n c,.int .i64 k]
theorem file_size:(Tryz.prog.info? 101).map (·.size)=some 2:=by kernel_rfl
theorem store_size:(Tryz.prog.info? 41).map (·.size)=some 2:=by kernel_rfl
theorem Gd(c:Int)(d:List Int)(p:PF)(r:List Fi):vN c d (p.fi::r)=if p.n<0\/96<p.n then 3 else if(p.l.length:Int)≠bn p.n then 2 else if lU c d p.l≠0 then lU c d p.l else vN c (d++p.l) r:=rfl
theorem xN(ps:List PF)(k:Int)(a:Option Addr)(c:Nat)(w:World)(h:TP w a c ps)(hk64 : -9223372036854775808<=k/\k<=9223372036854775807) :
  Calls Tryz.prog 113 #[.agg (QE a ps.length c k)] w λr w'=>r = .returned (.int .i64 (aQ (bD ps k)))/\Below w.heap.size w w':=by
 have kg:=@run_makeMap Tryz.prog;have kh:=aX h.le h.mx;unfold maxLen at kh;unfold QE;go_enter func113,ntmps113;go_upto_region 1 with(fail);refine iP (λW=>Code.wp _ _ _ _ W) λW0 hV M kd => ?_;clear kd
 by_cases F:5<ps.length\/k<0\/80<k
 ·have d:Hid (aQ (bD ps k)=4):=ae (by unfold aQ bD;rw[if_pos (by simpa using F)]);have G:=M.cell;have kl : 5<ps.length\/(¬5<ps.length/\k<0)\/(¬5<ps.length/\¬k<0/\80<k):=by omega
  clear F;rcases kl with g|⟨g,g2⟩|⟨g,g2,g3⟩
  all_goals
   go_wp2;go_ret;exact⟨bI d.out.symm,hV⟩
 have s:Hid (aQ (bD ps k)=vN k (((ps.take 0).map PF.fi).flatMap Fi.b) ((ps.drop 0).map PF.fi)):=ae (by unfold aQ bD;rw[if_neg (by simpa using F)];rfl);have g1:¬5<ps.length:=by omega
 have g2:¬k<0:=by omega
 have g3:¬80<k:=by omega
 have G:=M.cell;clear F;go_upto_region 4 with(fail);clear G kg;refine abk (λW=>Code.wp _ _ _ _ W) λW1 hU hW => ?_;have hE:=ah hV hU;have hP:=M.ext hU;have ki:w.heap.size<W0.heap.size:=M.lt;obtain⟨X,ka⟩:∃g,g=W0.heap.size:=⟨_,rfl⟩;rw[<-ka]at hW ki ⊢;clear ka hV M hU;have hN : pY W1 X 0 (ve (((ps.take 0).map PF.fi).flatMap Fi.b)):=hW;have G:=hP.cell;go_upto_region 5 with(fail);clear G hW
 go_loopw [26] (fun i wr => ∃(q n:Nat),q<=ps.length/\i = .int .i64 q/\n<=12*q/\Below w.heap.size w wr/\aK wr w.heap.size #[.slice a ps.length c,.int .i64 k] 41/\pY wr X n (ve (((ps.take q).map PF.fi).flatMap Fi.b))/\Hid (aQ (bD ps k)=vN k (((ps.take q).map PF.fi).flatMap Fi.b) ((ps.drop q).map PF.fi))) (fun i _=>ps.length-(intOf i).toNat)
 case atStart=>exact⟨0,0,bN _,rfl,aC _,hE,hP,hN,s⟩
 case round=>
  clear hE hP hN s;obtain⟨q,n,hq,rfl,hn,o,D,A,s⟩:=hrel
  by_cases hlt:q<ps.length
  ·obtain⟨b,off,p,rfl,Z,c0,c1⟩:=yB (h.below o).rd q hlt;have hA:=(h.good p (dB Z)).below o;have U:=drop_at Z;have L:=take_at Z;rw[U,bM]at s;have hI:=ae L;clear U L;generalize hseen:((ps.take q).map PF.fi).flatMap Fi.b=seen at A s;have hs:=ae hseen;clear hseen Z
   go_wp2_with (refine aT (Pb p) file_size (EI _) ?_)
   intro w2 S H;have hf:=ah o S;have h1:=D.ext S;have h8:=A.below S;have ht:=hA.below S;clear o D A hA S c0 c1;have hS:=H.cell;have f0:(Pb p)[0]?=some (.int .i64 p.n):=rfl;have f1:(Pb p)[1]?=some (.slice p.a p.l.length p.c):=rfl
   by_cases C:p.n<0\/96<p.n
   ·have d:Hid (aQ (bD ps k)=3):=ae (by rw[s.out,Gd,if_pos C]);have ke : p.n<0\/(¬p.n<0/\96<p.n):=by omega
    clear C;rcases ke with g|⟨g,g2⟩
    all_goals
     go_wp2;go_ret;exact⟨bI d.out.symm,hf⟩
   have ha:Hid (aQ (bD ps k)=if(p.l.length:Int)≠bn p.n then 2 else if lU k seen p.l≠0 then lU k seen p.l else vN k (seen++p.l) ((ps.drop (q+1)).map PF.fi)):=ae (by rw[s.out,Gd,if_neg C]);have g4:¬p.n<0:=by omega
   have g5:¬96<p.n:=by omega
   clear C s
   by_cases f:(p.l.length:Int)=bn p.n
   ·have z:Hid (aQ (bD ps k)=if lU k seen p.l≠0 then lU k seen p.l else vN k (seen++p.l) ((ps.drop (q+1)).map PF.fi)):=ae (by rw[ha.out,if_neg (λO=>O f)]);have km:p.l.length<=12:=by have:=ul (n:=p.n) (by omega);omega
    have hT:=ae f;clear ha f;go_upto_region 9 with(fail);refine aR 7 [_,_,_,_,_,.v (.int .i64 (bn p.n)),_] (Gf wr.heap.size 1 rfl rfl (Gl H (V:=.slice p.a p.l.length p.c) (by simp[f1,underlying33]) rfl rfl rfl rfl (Gn rfl rfl rfl rfl (Gf wr.heap.size 0 rfl rfl (Gl H (V:=.int .i64 p.n) (by simp[f0]) rfl rfl rfl rfl (aj ?_ (Gb (.bool false) (by simp[go_sem,hT.out]) rfl rfl rfl rfl rfl (aH))))) (underlying33)))) (λ_=>rfl) rfl ?_
    ·intro ρ y W hw hn hb hd;have hZ:=hw 42 4 rfl;have F:y 4=_:=hd 4 rfl;have Y:=eF0 hn λ_=>trivial;refine aL (aW rfl (Y _) func88 (by simp only[bU,bM,bP,hZ,F,Y];rfl)) ?_;refine(qW p.n W (by omega)).mono ?_;rintro e w1 ⟨rfl,rfl⟩;exact⟨_,rfl,Below.refl _ _,rfl⟩
    intro y WA u _;have hD:=ah hf u;have h0:=h1.ext u;have h6:=h8.below u;have h5:=H.ext u;have hH:=ht.below u;clear hf h1 h8 H ht u hS;have hS:=h5.cell;have kc:Hid (lU k seen p.l=lU k (seen++p.l.take 0) (p.l.drop 0)):=ae (by simp);have h9:pY WA X n (ve (seen++p.l.take 0)):=by simpa using h6
    have kn:=hH.le;have kf:=hH.mx;have hK:=hH.rd;unfold maxLen at kf;clear h6 hH;go_upto_region 12 with(fail);clear hS f0 f1 h5
    go_loopw [48] (fun i wr => ∃(j m:Nat),j<=p.l.length/\i = .int .i64 j/\m<=n+j/\Below w.heap.size w wr/\aK wr w.heap.size #[.slice (some ⟨b,off,none⟩) ps.length c,.int .i64 k] 41/\pY wr X m (ve (seen++p.l.take j))/\eD wr p.a (p.l.map ib)/\Hid (lU k seen p.l=lU k (seen++p.l.take j) (p.l.drop j))) (fun i _=>p.l.length-(intOf i).toNat)
    case atStart=>exact⟨0,n,bN _,rfl,aC _,hD,h0,h9,hK,kc⟩
    case round=>
     clear hD h0 h9 hK kc;obtain⟨j,m,hj,rfl,hm,o,D,A,hQ,I⟩:=hrel
     by_cases N:j<p.l.length
     ·obtain⟨x,hX⟩:∃x,p.l[j]?=some x:=⟨p.l[j],aM N⟩;obtain⟨b2,off2,hR,hc⟩:=mO hQ j N;rw[show p.l[j]=x from(dw.1 hX).2]at hc;have U:=drop_at hX;have L:=take_at hX;rw[U,zW]at I;rw[hR];generalize hs2:seen++p.l.take j=seen2 at I A;have hv:Hid (seen++p.l.take (j+1)=seen2++[x]):=ae (by rw[L,<-lF,hs2]);have hJ:=ae hQ;have hL:=ae hR;have G:=D.cell;clear hX U L hs2 hQ hR;have h3 : (j:Int)<(p.l.length:Int):=by omega
      by_cases E:x < -1\/k<=x
      ·have d:Hid (aQ (bD ps k)=3):=ae (by rw[z.out,I.out,if_pos E];rfl);have h2 : x < -1\/(¬x < -1/\k<=x):=by omega
       clear E;rcases h2 with g6|⟨g6,g7⟩
       all_goals
        go_wp2;go_ret;exact⟨bI d.out.symm,o⟩
      have g6:¬x < -1:=by omega
      have g7:¬k<=x:=by omega
      have hY:Hid (lU k seen p.l=if 0<=x/\x∈seen2 then 7 else lU k (seen2++[x]) (p.l.drop (j+1))):=ae (by rw[I.out,if_neg E]);clear I E;have hg:=A.look x (by omega)
      by_cases J:0<=x/\x∈seen2
      ·have d:Hid (aQ (bD ps k)=7):=ae (by rw[z.out,hY.out,if_pos J];rfl);rw[show ve seen2 x=true from decide_eq_true J.2]at hg;have K:0<=x:=J.1;clear J;go_wp2;go_ret;exact⟨bI d.out.symm,o⟩
      have kb:Hid (lU k seen p.l=lU k (seen++p.l.take (j+1)) (p.l.drop (j+1))):=ae (by rw[hY.out,if_neg J,hv.out]);have kk : ¬0<=x\/(0<=x/\ve seen2 x=false):=by
       by_cases K:0<=x
       ·exact .inr ⟨K,decide_eq_false λO=>J ⟨K,O⟩⟩
       ·exact .inl K
      clear J hY;rcases kk with K|⟨K,g9⟩
      ·clear hg
       go_wp2_with (refine yJ A (by omega) rfl _ _ _ rfl rfl x rfl rfl (by omega) ?_)
       intro w6 R t;rw[Gm,<-hv.out] at R;have hr:=o.grown t o.size oG0;have hO:=D.grown t (λe=>by have:=aU e;omega);have hz:=A.rdv hJ.out t;clear o D A t G hc;go_wp2;go_roundw
       case rel=>exact⟨j+1,m+1,by omega,by go_num,by omega,hr,hO,R,(by rw[<-hL.out];exact hz),kb⟩
       case measure=>simp[intOf];omega
      rw[g9]at hg
      go_wp2_with (refine yJ A (by omega) rfl _ _ _ rfl rfl x rfl rfl (by omega) ?_)
      intro w6 R t;rw[Gm,<-hv.out] at R;have hr:=o.grown t o.size oG0;have hO:=D.grown t (λe=>by have:=aU e;omega);have hz:=A.rdv hJ.out t;clear o D A t G hc;go_wp2;go_roundw
      case rel=>exact⟨j+1,m+1,by omega,by go_num,by omega,hr,hO,R,(by rw[<-hL.out];exact hz),kb⟩
      case measure=>simp[intOf];omega
     have d:Hid (aQ (bD ps k)=vN k (((ps.take (q+1)).map PF.fi).flatMap Fi.b) ((ps.drop (q+1)).map PF.fi)):=ae (by
      have e0:lU k seen p.l=0:=by rw[I.out,tu (by omega)];rfl
      rw[z.out,if_neg (λO=>O e0),hI.out,jL,iq,hs.out];simp[PF.fi])
     have kj:pY wr X m (ve (((ps.take (q+1)).map PF.fi).flatMap Fi.b)):=by rw[mE (by omega)]at A;rw[hI.out,jL,iq,hs.out];simpa[PF.fi]using A
     have h3 : ¬(j:Int)<(p.l.length:Int):=by omega
     clear A I z;go_wp2;go_roundw
     case rel=>exact⟨q+1,m,by omega,by go_num,by omega,o,D,kj,d⟩
     case measure=>simp[intOf];omega
   have d:Hid (aQ (bD ps k)=2):=ae (by rw[ha.out,if_pos f]);have hT:((p.l.length:Int) != bn p.n)=true:=by rw[bne_iff_ne];exact f
   clear ha f;go_upto_region 9 with(fail);refine aR 7 [_,_,_,_,_,.v (.int .i64 (bn p.n)),_] (Gf wr.heap.size 1 rfl rfl (Gl H (V:=.slice p.a p.l.length p.c) (by simp[f1,underlying33]) rfl rfl rfl rfl (Gn rfl rfl rfl rfl (Gf wr.heap.size 0 rfl rfl (Gl H (V:=.int .i64 p.n) (by simp[f0]) rfl rfl rfl rfl (aj ?_ (Gb (.bool true) (by simp[go_sem,hT]) rfl rfl rfl rfl rfl (aH))))) (underlying33)))) (λ_=>rfl) rfl ?_
   ·intro ρ y W hw hn hb hd;have hZ:=hw 42 4 rfl;have F:y 4=_:=hd 4 rfl;have Y:=eF0 hn λ_=>trivial;refine aL (aW rfl (Y _) func88 (by simp only[bU,bM,bP,hZ,F,Y];rfl)) ?_;refine(qW p.n W (by omega)).mono ?_;rintro e w1 ⟨rfl,rfl⟩;exact⟨_,rfl,Below.refl _ _,rfl⟩
   intro y WA u _;go_wp2;go_ret;exact⟨bI d.out.symm,ah hf u⟩
  have d:Hid (aQ (bD ps k)=0):=ae (by rw[s.out,tu (by omega)];rfl);go_wp2;go_ret;exact⟨bI d.out.symm,o⟩
theorem OL(l:List Int)(a:Option Addr)(c:Nat)(w:World)(q:l.length<=c)(f:a=none->c=0)(m:eD w a (l.map ib))(A:l.length*8<=140737488355328) :
  Calls Tryz.prog 105 #[.slice a l.length c] w λe w' => ∃v,e = .returned v/\Own w' w.heap.size 3 1 v l.length (l.map ib)/\Below w.heap.size w w':=by
 cases a with
 | none=>
  have C:=f rfl;have y:l=[]:=kV (by omega);subst y;subst C;have s:=λW=>nN (P:=Tryz.prog) W 33 _ none 0 0 0 0 underlying33;go_enter func105,ntmps105;go_wp2;go_ret;exact⟨_,rfl,by simpa using Own.nil _ _ _ _,Below.refl _ _⟩
 | some ad=>
  have s:=λW=>nN (P:=Tryz.prog) W 33 _ (some ad) l.length c 0 0 underlying33;go_enter func105,ntmps105
  go_wp2_with (at_builtin;go_must (refine fJ 33 rfl w.heap.size 3 (.int .i64 0) 1 8 underlying33 int_info 0 [] rfl ?own (some ad) l.length c (l.map ib) rfl (λh=>(by cases h)) q (LU l) ?rd (Lt l) (by unfold maxLen;omega) (by simpa using A) ?bb ?k))
  case own=>exact⟨rfl,.inr ⟨w.heap.size,0,0,#[],rfl,aC _,aK.new _ _ _,aC _,bN _,by simp,λj u h=>by simp at h⟩⟩
  case rd=>exact m.below ((Below.refl _ _).alloc (aC _) _)
  case bb=>exact fe
  intro v w1 b d;go_wp2;go_ret;exact⟨v,rfl,by simpa using b,((Below.refl _ _).alloc (aC _) _).grown d (fe) (λk z=>by cases z;exact aC _)⟩
theorem file_info:(Tryz.prog.info? 101).map (λi=>(i.zero,i.size,i.bytes))=some (some (.agg #[.int .i64 0,.slice none 0 0]),2,32):=by kernel_rfl
theorem Ro(p:PF):∀u∈xQ p,u.oneCell' = true:=by
 intro u d;have:=EI p;rw[<-iX,dG]at this;exact this u d
def rY(p:PF):Value:=.slice p.a p.l.length p.c
structure mo (w:World) (B:Nat) (v:Value) (ps:List PF):Prop where
 own:Own w B 101 2 v ps.length (ps.flatMap xQ)
 each:∀(i:Nat) p,ps[i]?=some p->Own w B 3 1 (rY p) p.l.length (p.l.map ib)
 apart:∀(i j:Nat) p q,i<j->ps[i]?=some p->ps[j]?=some q->Apart (rY p) (rY q)
theorem mo.rd{ps:List PF}(h:mo w B v ps):∃a c,v = .slice a ps.length c/\TP w a c ps:=by
 obtain⟨a,c,rfl,A,z,y,s⟩:=h.own.rd;refine⟨a,c,rfl,A,z,y,s,λp m => ?_⟩;obtain⟨i,q,rfl⟩:=jK.1 m;obtain⟨a',c',e,k1,j,f,d⟩:=(h.each i _ (aM q)).rd;unfold rY at e;simp only[iW]at e;obtain⟨rfl,_,rfl⟩:=e;exact⟨k1,j,f,d⟩
theorem mo.below{ps:List PF}(h:mo w B v ps)(d:Below w.heap.size w w'):mo w' B v ps:=
 ⟨h.own.below d,λi p f=>(h.each i p f).below d,h.apart⟩
theorem mo.mono{ps:List PF}(h:mo w B v ps)(d:B'<=B):mo w B' v ps:=
 ⟨h.own.mono d,λi p f=>(h.each i p f).mono d,h.apart⟩
theorem mo.keep{ps:List PF}(h:mo w B v ps)(f:aK w g cs T)(q:T≠101)(m:T≠3)(d:w.grownBy w' (some g)):mo w' B v ps:=
 ⟨aA h.own f (p:=q) d,λi p j=>aA (h.each i p j) f (p:=m) d,h.apart⟩
theorem mo.nil(w:World)(B:Nat):mo w B (.slice none 0 0) []:=⟨Own.nil _ _ _ _,λi p h=>by simp at h,λi j p q _ h=>by simp at h⟩
def ZT(ps:List PF):Prop:=ps.length*32<=140737488355328/\∀p∈ps,p.l.length*8<=140737488355328
theorem mo.app{ps:List PF}(h:mo w B v ps){p:PF}(z:Own w' B 101 2 v' (ps.length+1) (ps.flatMap xQ++xQ p))(y:Own w B 3 1 (rY p) p.l.length (p.l.map ib))(m:w.grownBy w' v.ownBlock)
 (C:∀(i:Nat) q,ps[i]?=some q->Apart (rY q) (rY p)):mo w' B v' (ps++[p]) where
 own:=by rw[fI,iq];simpa using z
 each:=λi q d=>by
  by_cases s:i<ps.length
  ·rw[jb s]at d;exact xe (h.each i q d) h.own m
  rw[jv (by omega)]at d;have c:i-ps.length=0:=by
   rcases zq (i-ps.length)with e|e
   ·exact e
   ·rw[dP (by simp;omega)]at d;cases d
  rw[c]at d;cases d;exact xe y h.own m
 apart:=λi j q r b d f=>by
  have s:i<ps.length:=by have:=(dw.1 f).1;simp at this;omega
  rw[jb s]at d
  by_cases A:j<ps.length
  ·rw[jb A]at f;exact h.apart i j q r b d f
  rw[jv (by omega)]at f;have a:j-ps.length=0:=by
   rcases zq (j-ps.length)with e|e
   ·exact e
   ·rw[dP (by simp;omega)]at f;cases f
  rw[a]at f;cases f;exact C i q d
theorem slfile_size:(Tryz.prog.info? 39).map (·.size)=some 1:=by kernel_rfl
theorem jP(a:Option Addr)(n c:Nat)(k:Int):(#[Value.slice a n c,Value.int .i64 k]:Array Value).all (·.oneCell')=true:=by simp[Value.oneCell']
def Zz(B:Nat)(n:Int)(l:List Int):oW:=⟨λv w => ∃u,v = .agg #[.int .i64 n,u]/\Own w B 3 1 u l.length (l.map ib),λ_ _ _ hb ⟨u,h1,h2⟩=>⟨u,h1,h2.below hb⟩⟩
def aay(B:Nat)(n:Int)(l:List Int):oW:=⟨λv w => ∃g p,v = .slice (some ⟨g,0,none⟩) 1 1/\p.n=n/\p.l=l/\eD w (some ⟨g,0,none⟩) (xQ p)/\Own w B 3 1 (rY p) p.l.length (p.l.map ib),by
 rintro v w w' hb ⟨g,p,h1,h2,h3,h4,h5⟩;exact⟨g,p,h1,h2,h3,h4.below hb,h5.below hb⟩⟩
theorem BK(ps:List PF)(k:Int)(a:Option Addr)(c:Nat)(w:World)(h:TP w a c ps)(hz:ZT ps) :
  Calls Tryz.prog 60 #[.agg (QE a ps.length c k)] w λr w' => ∃v I,r = .returned (.agg #[v,.int .i64 k])/\mo w' w.heap.size v I/\I.map PF.fi=ps.map PF.fi/\Below w.heap.size w w':=by
 have kq:=aX h.le h.mx;unfold maxLen at kq;unfold QE;go_enter func60,ntmps60;go_upto_region 1 with(fail);refine uY (λW=>Code.wp _ _ _ _ W) λW0 kh hE hH km => ?_;clear km;have hO:=hE.cell;go_upto_region 2 with(refine aT #[.slice none 0 0,.int .i64 k] store_size (jP none 0 0 k) ?_);clear hO;intro W1 H hL;have hm:=ah kh H;have hW:=hE.ext H;have h9:=hH.ext H;have ks:w.heap.size+1<W0.heap.size:=hH.lt;obtain⟨G,kj⟩:∃g,g=W0.heap.size:=⟨_,rfl⟩;rw[<-kj]at hL ks ⊢;clear kj kh hE hH H;have hO:=hW.cell;go_upto_region 3 with(fail);clear hO
 go_loopw [12] (fun i wr => ∃(q:Nat) (v:Value) (A:List PF),q<=ps.length/\i = .int .i64 q/\Below w.heap.size w wr/\aK wr (w.heap.size+1) #[.slice none 0 0,.int .i64 0] 41/\aK wr G #[v,.int .i64 k] 41/\mo wr w.heap.size v A/\A.map PF.fi=(ps.take q).map PF.fi) (fun i _=>ps.length-(intOf i).toNat)
 case atStart=>exact⟨0,_,[],bN _,rfl,hm,h9,hL,mo.nil _ _,rfl⟩
 case round=>
  clear hm hW h9 hL;obtain⟨q,v,A,hq,rfl,M,U,F,X,hB⟩:=hrel;have hI:=ae hB;clear hB
  by_cases Z:q<ps.length
  ·obtain⟨b,off,p,rfl,V,c0,c1⟩:=yB (h.below M).rd q Z;have hM:=h.good p (dB V);have kn:=hz.2 p (dB V);have hX:=take_at V;have kb:Hid (A.map PF.fi++[p.fi]=(ps.take (q+1)).map PF.fi):=ae (by rw[hX,jL,hI.out];rfl);have kH:A.length<=q:=by have:=congrArg List.length hI.out;simp[uW hq]at this;omega
   clear V hX
   go_wp2_with (refine aT (Pb p) file_size (EI _) ?_)
   intro w2 L hN;have m:=ah M L;have h8:=U.ext L;have hK:=F.ext L;have J:=X.below L;have kE:G<wr.heap.size:=F.lt;clear M U F X L c0 c1;obtain⟨O,N,rfl,ki⟩:=J.rd;have kI:=ki.le;have kp:=ki.mx;unfold maxLen at kp;have kD:=hz.1;have kt:=hM.below m;go_upto_region 5 with(fail);refine uQ 9 10 [] [fQ (.pointer (some ⟨G,0,none⟩)),fQ (.slice O A.length N),fQ (.pointer (some ⟨wr.heap.size,0,none⟩)),fQ (.int .i64 p.n),fQ (.pointer (some ⟨wr.heap.size,1,none⟩)),fQ (.slice p.a p.l.length p.c),(il w2.heap.size 3 1 p.l.length (p.l.map ib)),(Zz w2.heap.size p.n p.l),(aay w2.heap.size p.n p.l)] (by kernel_rfl) (by kernel_rfl) (by kernel_rfl) (by kernel_rfl) (by kernel_rfl) (by kernel_rfl) (by decide) (by decide) _ rfl (by kernel_rfl) (aj ?_ (aj ?_ (aj ?_ (aj ?_ (aj ?_ (aj ?_ (aj ?_ (aj ?_ (aj ?_ (aH)))))))))) (aH) rfl ?_
   ·refine aB ?_;intro ρ y W f C E D;have E3:ρ (.tmp 3) = .pointer (some ⟨G,0,none⟩):=(C (.tmp 3) rfl).trans rfl;refine ak (.pointer (some ⟨G,0,none⟩)) (by simp[execOp,go_sem,E3])
   ·refine aB ?_;intro ρ y W f C E D;have kC:=f 16 0 rfl;have h0:y 0=_:=D 0 rfl;refine ak (.slice O A.length N) (by simp[execOp,go_sem,kC,h0,(hK.ext E).cell,underlying39])
   ·refine aB ?_;intro ρ y W f C E D;have E5:ρ (.tmp 5) = .pointer (some ⟨wr.heap.size,0,none⟩):=(C (.tmp 5) rfl).trans rfl;refine ak (.pointer (some ⟨wr.heap.size,0,none⟩)) (by simp[execOp,go_sem,E5])
   ·refine aB ?_;intro ρ y W f C E D;have kB:=f 18 2 rfl;have h2:y 2=_:=D 2 rfl;refine ak (.int .i64 p.n) (by simp[execOp,go_sem,kB,h2,(hN.ext E).cell,Pb])
   ·refine aB ?_;intro ρ y W f C E D;have E5:ρ (.tmp 5) = .pointer (some ⟨wr.heap.size,0,none⟩):=(C (.tmp 5) rfl).trans rfl;refine ak (.pointer (some ⟨wr.heap.size,1,none⟩)) (by simp[execOp,go_sem,E5])
   ·refine aB ?_;intro ρ y W f C E D;have kz:=f 20 4 rfl;have h4:y 4=_:=D 4 rfl;refine ak (.slice p.a p.l.length p.c) (by simp[execOp,go_sem,kz,h4,(hN.ext E).cell,Pb])
   ·refine aB ?_;intro ρ y W f C E D;have ky:=f 21 5 rfl;have h5:y 5=_:=D 5 rfl;have EF:=eF0 C λ_=>trivial;refine aL (aW rfl (EF _) func105 (by simp only[bU,bM,bP,ky,h5,EF];rfl)) ?_;refine(OL p.l p.a p.c W hM.le hM.nl (kt.below E).rd kn).mono ?_;rintro e w1 ⟨u,rfl,F,H⟩;exact⟨u,rfl,H,F.mono E.size⟩
   ·refine aB ?_;intro ρ y W f C E D;have kA:=f 19 3 rfl;have h3:y 3=_:=D 3 rfl;have kx:=f 22 6 rfl;have h6:((il w2.heap.size 3 1 p.l.length (p.l.map ib))).r (y 6) W:=D 6 rfl;obtain⟨x6,c6,e6,_⟩:=Own.rd h6;refine ak (.agg #[.int .i64 p.n,y 6]) (by simp[execOp,go_sem,kA,h3,kx,e6]) (m:=?_);exact⟨_,rfl,h6⟩
   ·refine aB ?_;intro ρ y W f C E D;have kw:=f 23 7 rfl;have h7:((Zz w2.heap.size p.n p.l)).r (y 7) W:=D 7 rfl;obtain⟨u,e7,kd⟩:=h7;obtain⟨x7,c7,rfl,_⟩:=Own.rd kd;refine gM (.slice (some ⟨W.heap.size,0,none⟩) 1 1) (ag) (by simp[execOp,go_sem,kw,e7,Pb]) ((Below.refl _ _).alloc (aC _) (.cells (Pb ⟨p.n,x7,p.l,c7⟩) 101)) ?_;exact⟨_,⟨p.n,x7,p.l,c7⟩,rfl,rfl,rfl,eD.new _ _ _,kd.alloc _⟩
   intro ρ y WA o F f C hV s d;cases F;have hU:y 0=_:=d 0 (by decide);have hD:y 1=_:=d 1 (by decide);have hT:y 2=_:=d 2 (by decide);have hS:y 3=_:=d 3 (by decide);have hR:y 4=_:=d 4 (by decide);have hQ:y 5=_:=d 5 (by decide);have kG:((il w2.heap.size 3 1 p.l.length (p.l.map ib))).r (y 6) WA:=d 6 (by decide);have kF:((Zz w2.heap.size p.n p.l)).r (y 7) WA:=d 7 (by decide);have kl:((aay w2.heap.size p.n p.l)).r (y 8) WA:=d 8 (by decide);have kk:=f 17 1 rfl;rw[hD]at kk;have kv:=f 24 8 rfl;have EC:∀v,ρ (.const v)=v:=λv=>C (.const v) trivial;have EF:=eF0 C λ_=>trivial;obtain⟨g8,R,e8,ko,kr,hA,hj⟩:=kl;refine QZ (ag) (ER (.tmp 17) (.tmp 24) 39 rfl w.heap.size 101 _ 2 32 underlying39 file_info rfl (by decide) _ _ _ kk (J.own.below s) _ 1 1 (xQ R) (kv.trans e8) (λe=>by cases e) (aC _) rfl hA (Ro _) (by unfold maxLen;omega) (by omega) (aX m.size s.size)) ?_;rintro v2 w4 ⟨hh,t,hx⟩;clear d f C hV;simp only[lay,Nat.reduceAdd,Nat.reduceLT,Nat.reduceEqDiff,reduceIte,decide_true,decide_false,if_true,oz,if_false,rD,qV,rf,rF,rC,rH,hU,hD,hT,hS,hR,hQ];clear hU hD hT hS hR hQ;have x:=ah m s;have hY:=h8.ext s;have kc:=hK.ext s;have K:=J.below s;have hC:∀(i:Nat) r,A[i]?=some r->Apart (rY r) (rY R):=by intro i r hi g hg ku;have h1:=QS (J.each i r hi) g hg;have h2:=hj.ge g ku;omega
   have hc : Own w4 w.heap.size 101 2 v2 (A.length+1) (A.flatMap xQ++xQ R):=hh;have S:=K.app hc (hj.mono m.size) t hC;have hZ:=kS hY K.own (by decide) t;have hJ:=kS kc K.own (by decide) t;have ha:Below w.heap.size w w4:=x.grown t x.size (λk hk=>K.own.ge k hk);have ka:Hid ((A++[R]).map PF.fi=(ps.take (q+1)).map PF.fi):=ae (by rw[jL,<-kb.out];congr 1;simp[PF.fi,ko,kr]);obtain⟨a4,c4,rfl,_⟩:=S.rd;rw[fI,pR]at S ⊢;clear m h8 hK J s x hY kc K hh hc t hC hj hA hN hx
   go_wp2_with (refine aY G 0 [.slice a4 (A.length+1) c4] rfl rfl rfl _ _ hJ (show 0+1<=2 by decide) slfile_size (λu hu=>by cases bF.1 hu;rfl) ?_)
   intro Y kf j;have hG:aK Y (w.heap.size+1) _ _:=hZ.grown j (λe=>by have:=aU e;omega);have hP:=S.keep hJ (by decide) (by decide) j;have z:=ha.grown j ha.size oG0;have ke : aK Y G #[.slice a4 (A.length+1) c4,.int .i64 k] 41:=kf;clear hJ hZ S ha j kf;go_wp2;go_roundw
   case rel=>exact⟨q+1,_,_,by omega,by go_num,z,hG,ke,hP,ka.out⟩
   case measure=>simp[intOf];omega
  obtain rfl:q=ps.length:=by omega
  have kg:Hid (A.map PF.fi=ps.map PF.fi):=ae (by rw[hI.out,zk]);obtain⟨O,N,rfl,_⟩:=X.rd;have kJ:=F.cell
  go_wp2_with (refine ax _ _ (w.heap.size+1) #[.slice O A.length N,.int .i64 k] U store_size (G:=jP _ _ _ _) ?_)
  intro Y hG j;have hP:=X.keep U (by decide) (by decide) j;have z:=M.grown j M.size oG0;go_wp2;refine bodyPost_ret (v:=.agg #[.slice O A.length N,.int .i64 k]) (aP results60 (w.heap.size+1) hG underlying41 store_size) rfl ?_;exact⟨_,_,rfl,hP,kg.out,z⟩
theorem WP(n:Int)(w:World):Calls Tryz.prog 72 #[.int .i64 n] w λr w'=>r = .returned (.tuple #[.agg #[.slice none 0 0,.int .i64 (Yz n)],.int .i64 (Yn n)])/\Below w.heap.size w w':=by
 go_enter func72,ntmps72
 by_cases h:n<0\/80<n
 ·have f:Yn n=4:=if_pos h;have d:Yz n=0:=if_pos h;rw[f,d];have j : n<0\/(¬n<0/\80<n):=by omega
  clear h f d;rcases j with g|⟨g,m⟩
  all_goals
   go_wp2_with (refine aT #[.slice none 0 0,.int .i64 0] store_size (jP none 0 0 0) ?_)
   intro w1 b a;go_wp2;refine bodyPost_ret (v:=.tuple #[.agg #[.slice none 0 0,.int .i64 0],.int .i64 4]) (dH results72 w.heap.size a underlying41 store_size) rfl ?_;exact⟨rfl,b⟩
 have f:Yn n=0:=if_neg h;have d:Yz n=n:=if_neg h;rw[f,d];have g:¬n<0:=by omega
 have m:¬80<n:=by omega
 clear h f d
 go_wp2_with (refine aT #[.slice none 0 0,.int .i64 n] store_size (jP none 0 0 n) ?_)
 intro w1 b a;go_wp2;refine bodyPost_ret (v:=.tuple #[.agg #[.slice none 0 0,.int .i64 n],.int .i64 0]) (dH results72 w.heap.size a underlying41 store_size) rfl ?_;exact⟨rfl,b⟩
def Xm(ps:List PF):List Int:=ps.flatMap PF.l
theorem Qt(ps:List PF)(k:Int):gZ (bD ps k)=Xm ps:=by
 unfold gZ bD Xm;rw[List.flatMap_map];rfl
theorem Tv(l:List Int)(x:Int)(a:Option Addr)(c:Nat)(w:World)(s:eD w a (l.map ib))(C:l.length<=9223372036854775807) :
  Calls Tryz.prog 220 #[.slice a l.length c,.int .i64 x] w λe w'=>e = .returned (.int .i64 (idx (λy=>decide (x=y)) l))/\Below w.heap.size w w':=by
 go_enter func220,ntmps220;go_wp2
 go_loopw [8] (fun i wr => ∃k:Nat,k<=l.length/\i = .int .i64 k/\Below w.heap.size w wr/\∀i (h:i<l.length),i<k->(fun y=>decide (x=y)) l[i]=false) (fun i _=>l.length-(intOf i).toNat)
 case atStart=>exact⟨0,bN _,rfl,Below.refl _ _,λi _ h=>absurd h (ig _)⟩
 case round=>
  obtain⟨k,D,rfl,f,g⟩:=hrel;have z:=ae g;clear g
  by_cases m:k<l.length
  ·obtain⟨b,off,rfl,E⟩:=mO (s.below f) k m
   by_cases q:x=l[k]
   ·have d:=ae (qH (λy=>decide (x=y)) l k m z.out (decide_eq_true q));have A:(x==l[k])=true:=beq_iff_eq.2 q;clear q;go_wp2;go_ret;exact⟨bI d.out.symm,f⟩
   have j:=ae (show (λy=>decide (x=y)) l[k]=false from decide_eq_false q);have A:(x==l[k])=false:=beq_eq_false_iff_ne.2 q;clear q;go_wp2;go_roundw
   case rel=>exact⟨k+1,by omega,by go_num,f,oO z.out m j.out⟩
   case measure=>simp[intOf];omega
  have d:=ae (ll (λy=>decide (x=y)) l λi h=>z.out i h (by omega));go_wp2;go_ret;exact⟨bI d.out.symm,f⟩
theorem Kj(l:List Int)(x:Int)(a:Option Addr)(c:Nat)(w:World)(f:eD w a (l.map ib))(h:l.length<=9223372036854775807) :
  Calls Tryz.prog 215 #[.slice a l.length c,.int .i64 x] w λe w'=>e = .returned (.bool (decide (x∈l)))/\Below w.heap.size w w':=by
 go_enter func215,ntmps215
 go_wp2_with fail
 refine(Tv l x a c _ f h).mono ?_;rintro e w2 ⟨rfl,d⟩;have b:=ae ((tN (λy=>decide (x=y)) l).trans (XK l x));go_wp2;go_ret;exact⟨cB b.out,d⟩
def hasB(x:Int)(p:PF):Bool:=decide (x∈p.l)
theorem TQ(p:PF)(g:Nat)(x:Int)(w:World)(s:aK w g #[.int .i64 x] 3)(q:p.good w) :
  Calls Tryz.prog 214 #[.agg #[.int .i64 p.n,.slice p.a p.l.length p.c],.pointer (some ⟨g,0,none⟩)] w λr w'=>r = .returned (.bool (hasB x p))/\Below w.heap.size w w':=by
 have i:=aX q.le q.mx;unfold maxLen at i;go_enter func214,ntmps214;go_upto_region 1 with(fail);refine iP (λW=>Code.wp _ _ _ _ W) λy b d f => ?_;clear f;have k:=(s.ext b).cell 0;have m:=d.cell;have h:=q.below b
 go_wp2_with fail
 refine(Kj p.l x p.a p.c _ h.rd (by omega)).mono ?_;rintro e w2 ⟨rfl,j⟩;go_wp2;go_ret;exact⟨rfl,ah b j⟩
theorem aag{ps:List PF}(h:eD w a (ps.flatMap xQ))(k:Nat)(f:k<ps.length):∃b off,a=some ⟨b,off,none⟩/\w.cell? ⟨b,off+k*2,none⟩=some (.int .i64 ps[k].n)/\w.cell? ⟨b,off+k*2+1,none⟩=some (.slice ps[k].a ps[k].l.length ps[k].c):=by
 obtain⟨b,off,j,d⟩:=h.elem lC (by decide) k f;exact⟨b,off,j,d 0 _ rfl,d 1 _ rfl⟩
theorem Rw(l:List PF)(a:Option Addr)(c:Nat)(w:World)(y:eD w a (l.flatMap xQ))(C:l.length<=9223372036854775807)(g:Nat)(x:Int)(A:aK w g #[.int .i64 x] 3)(s:∀p∈l,p.good w) :
  Calls Tryz.prog 219 #[.slice a l.length c,.func (.func 214) #[] #[.pointer (some ⟨g,0,none⟩)]] w λe w'=>e = .returned (.int .i64 (idx (hasB x) l))/\Below w.heap.size w w':=by
 go_enter func219,ntmps219;go_wp2
 go_loopw [8] (fun i wr => ∃k:Nat,k<=l.length/\i = .int .i64 k/\Below w.heap.size w wr/\∀i (h:i<l.length),i<k->(hasB x) l[i]=false) (fun i _=>l.length-(intOf i).toNat)
 case atStart=>exact⟨0,bN _,rfl,Below.refl _ _,λi _ h=>absurd h (ig _)⟩
 case round=>
  obtain⟨k,D,rfl,f,n⟩:=hrel;have z:=ae n;clear n
  by_cases q:k<l.length
  ·obtain⟨b,off,rfl,E,c1⟩:=aag (y.below f) k q
   go_wp2_with fail
   refine(TQ l[k] g x _ (A.ext f) ((s _ (fA q)).below f)).mono ?_;rintro e w2 ⟨rfl,o⟩;have j:=ah f o;clear o;cases hpk:(hasB x) l[k]
   ·have m:=ae hpk;clear hpk;go_wp2;go_roundw
    case rel=>exact⟨k+1,by omega,by go_num,j,oO z.out q m.out⟩
    case measure=>simp[intOf];omega
   have d:=ae (qH (hasB x) l k q z.out hpk);clear hpk;go_wp2;go_ret;exact⟨bI d.out.symm,j⟩
  have d:=ae (ll (hasB x) l λi h=>z.out i h (by omega));go_wp2;go_ret;exact⟨bI d.out.symm,f⟩
theorem Sy(l:List PF)(a:Option Addr)(c:Nat)(w:World)(f:eD w a (l.flatMap xQ))(h:l.length<=9223372036854775807)(g:Nat)(x:Int)(j:aK w g #[.int .i64 x] 3)(d:∀p∈l,p.good w) :
  Calls Tryz.prog 213 #[.slice a l.length c,.func (.func 214) #[] #[.pointer (some ⟨g,0,none⟩)]] w λe w'=>e = .returned (.bool (l.any (hasB x)))/\Below w.heap.size w w':=by
 go_enter func213,ntmps213
 go_wp2_with fail
 refine(Rw l a c _ f h g x j d).mono ?_;rintro e w2 ⟨rfl,b⟩;go_wp2;go_ret;exact⟨cB (tN _ _),b⟩
theorem UU(ps:List PF)(k x:Int):ps.any (hasB x)=kL (bD ps k) x:=by
 unfold kL hasB;rw[Qt,qK,kW,decide_eq_true_eq];unfold Xm;rw[jS];constructor
 ·rintro⟨p,d,h⟩;exact⟨p,d,of_decide_eq_true h⟩
 ·rintro⟨p,d,h⟩;exact⟨p,d,decide_eq_true h⟩
theorem Sk(ps:List PF)(k:Int)(a:Option Addr)(c g:Nat)(w:World)(h:TP w a c ps)(D:aK w g (QE a ps.length c k) 41)(H:k<=80) :
  Calls Tryz.prog 208 #[.pointer (some ⟨g,0,none⟩)] w λr w'=>r = .returned (.int .i64 (fT (bD ps k)))/\Below w.heap.size w w':=by
 have x:=aX h.le h.mx;unfold maxLen at x;unfold QE at D;go_enter func208,ntmps208;have l:=D.cell;go_upto_region 2 with(fail);clear l
 go_loopw [8] (fun i wr => ∃(q:Nat),((q:Int)<=k\/q=0)/\i = .int .i64 q/\Below w.heap.size w wr/\∀i:Nat,i<q->kL (bD ps k) i=true) (fun i _=>k.toNat-(intOf i).toNat)
 case atStart=>exact⟨0,.inr rfl,rfl,Below.refl _ _,λi z=>absurd z (ig _)⟩
 case round=>
  obtain⟨q,G,rfl,j,p⟩:=hrel;have A:=ae p;clear p
  by_cases C:(q:Int)<k
  ·have u:=D.ext j;go_upto_region 4 with(refine MU rfl _ _ _ rfl (.int .i64 q) rfl rfl rfl int_size rfl ?_);intro w2 n t;have b:=ah j n;have o:=u.ext n;have l:=o.cell;have E:=h.below b;clear j n u
   go_wp2_with fail
   refine(Sy ps a c _ E.rd (by omega) wr.heap.size q t E.good).mono ?_;rintro e F ⟨rfl,m⟩;have f:=ah b m;have y:=(t.ext m).cell 0;rw[UU ps k];clear l b o m;cases hus:kL (bD ps k) q
   ·have d:=ae (RN (s:=bD ps k) C A.out hus);clear hus;go_wp2;go_ret;exact⟨bI d.out.symm,f⟩
   have v:Hid (∀i:Nat,i<q+1->kL (bD ps k) i=true):=ae (λi z=>by
    by_cases e:i=q
    ·subst e;exact hus
    ·exact A.out i (by omega))
   clear hus;go_wp2;go_roundw
   case rel=>exact⟨q+1,by omega,by go_num,f,v.out⟩
   case measure=>simp[intOf];omega
  have d:=ae (Na (s:=bD ps k) (λi z=>A.out i (by have:(i:Int)<k:=z;omega)));go_wp2;go_ret;exact⟨bI d.out.symm,j⟩
theorem Cx{ps:List PF}{k:Int}(h:aQ (bD ps k)=0):ZT ps:=by
 have m:=jC h;have y:ps.length<=5:=by simpa[bD]using m.1
 refine⟨by omega,λp f => ?_⟩;have d:=wQ h p.fi (by simpa[bD]using AU f);have j:=ul d.2.1;have s:(p.l.length:Int)=bn p.n:=d.2.2.1;have q:bn p.n<=12:=j;omega
theorem WF{x y:Value}(m:World->Prop)(f:aK w b #[u,v] T)(h:∀W,w.grownBy W (some b)->aK W b #[x,y] T->m W):m ((w.setCell ⟨b,0,none⟩ x).setCell ⟨b,1,none⟩ y).drew:=by
 have d:=aD w b 0 [x,y];have j:aK (w.setCells b 0 [x,y]) b (dO #[u,v] 0 [x,y]) T:=f.setCells [x,y] 0;exact h _ ⟨d.os,d.tape,d.output,d.size,d.block⟩ j
def pf0:PF:=⟨0,none,[],0⟩
theorem mo.app0{ps:List PF}(h:mo w B v ps)(f:Own w' B 101 2 v' (ps.length+1) (ps.flatMap xQ++xQ pf0))(d:w.grownBy w' v.ownBlock):mo w' B v' (ps++[pf0]):=
 h.app f (Own.nil _ _ _ _) d λ_ _ _=>Apart.nil'
theorem Ng(ps:List PF)(k:Int)(a:Option Addr)(c:Nat)(w:World)(h:TP w a c ps)(hk64 : -9223372036854775808<=k/\k<=9223372036854775807) :
  Calls Tryz.prog 74 #[.agg (QE a ps.length c k)] w λr w' => ∃v E k',r = .returned (.tuple #[.agg #[v,.int .i64 k'],.int .i64 (jX (bD ps k)),.int .i64 (jV (bD ps k))])/\mo w' w.heap.size v E/\bD E k' = mR (bD ps k)/\Below w.heap.size w w':=by
 have hI:=aX h.le h.mx;unfold maxLen at hI;unfold QE;go_enter func74,ntmps74;go_upto_region 1 with(fail);refine uY (λW=>Code.wp _ _ _ _ W) λW0 O Y hz hF => ?_;clear hF
 go_wp2_with (refine ay _ 0 _ Y.rd _ underlying41 rfl store_size ?_)
 refine(xN ps k a c _ (h.below O) hk64).mono ?_;rintro r w1 ⟨rfl,I⟩;have f:=ah O I;have G:=Y.ext I;have o:=hz.ext I;clear O Y hz I
 by_cases D:aQ (bD ps k)=0
 ·have L:=ae D;rw[D];clear D;have S:=G.cell
  by_cases K:ps.length=5
  ·have M:Hid _:=ae (Gj (s:=bD ps k) (e:=4) (by unfold jV;rw[if_neg (by rw[L.out];simp),if_pos (by simpa[bD]using K)]) (by decide));have hN : ((ps.length:Int)==5)=true:=by rw[beq_iff_eq];omega
   clear K
   go_wp2_with (refine ax _ _ (w.heap.size+1) #[.slice none 0 0,.int .i64 0] o store_size (G:=jP none 0 0 0) ?_)
   all_goals
    intro C X b;have d:Below w.heap.size w C:=f.grown b f.size oG0;go_wp2;refine bodyPost_ret (v:=.tuple #[.agg #[.slice none 0 0,.int .i64 0],.int .i64 0,.int .i64 (4)]) (bX results74 (w.heap.size+1) X underlying41 store_size) rfl ?_;have q:=M.out;exact⟨_,_,_,by rw[q.1,q.2.1],mo.nil _ _,by rw[q.2.2];rfl,d⟩
  have hN : ((ps.length:Int)==5)=false:=by rw[beq_eq_false_iff_ne];omega
  have Z:Hid (jV (bD ps k)=0):=ae (by unfold jV;rw[if_neg (by rw[L.out];simp),if_neg (by simpa[bD]using K)]);have hD:=Cx L.out;have hP:ps.length<=5:=by simpa[bD]using(jC L.out).1
  clear K
  go_wp2_with (refine ay _ 0 _ G.rd _ underlying41 rfl store_size ?_)
  refine(BK ps k a c _ (h.below f) hD).mono ?_;rintro r w2 ⟨v2,A,rfl,N,x,J⟩;have hH:=ae x;have hO:A.length<=5:=by have:=congrArg List.length x;simp at this;omega
  have z:=ah f J;have hw:=G.ext J;have l:=o.ext J;have hh:=N.mono f.size;obtain⟨av,cv,rfl,_⟩:=N.rd;clear x S f G o J N
  go_wp2_with (refine aT #[.slice av A.length cv,.int .i64 k] store_size (jP _ _ _ _) ?_)
  intro w3 F U;have g:=ah z F;have hv:=hw.ext F;have t:=l.ext F;have n:=hh.below F;have hQ:w.heap.size+1<w2.heap.size:=l.lt;clear z hw l hh F;have R:=U.cell;go_upto_region 8 with(at_builtin;(refine fJ (s:=.tmp 21) (x:=.tmp 23) 39 rfl w.heap.size 101 _ 2 32 underlying39 file_info _ _ rfl (n.own.alloc _) (some ⟨w3.heap.size,0,none⟩) 1 1 (xQ pf0) rfl (λh=>(by cases h)) (aC _) rfl (eD.new w3 (Pb pf0) 101) (Ro _) (by unfold maxLen;omega) (by omega) (eO g.size) ?_));intro v4 w4 hy i;have H:mo w4 w.heap.size v4 (A++[pf0]):=(n.below ((Below.refl _ _).alloc (aC _) _)).app0 hy i;have ht:=kS (hv.alloc _) (n.own.alloc _) (by decide) i;have p:=kS (t.alloc _) (n.own.alloc _) (by decide) i;have V:=kS (U.alloc _) (n.own.alloc _) (by decide) i;have m:Below w.heap.size w w4:=(g.alloc g.size _).grown i (eO g.size) (λk hk=>n.own.ge k hk);have y:(A++[pf0]).length=A.length+1:=by simp
  have hg:=H.own;obtain⟨a4,c4,rfl,_⟩:=hg.rd;rw[y]at H ⊢;clear R hv t n U g hy i hg y;go_upto_region 8 with(refine aY w2.heap.size 0 [.slice a4 (A.length+1) c4] rfl rfl rfl _ _ V (show 0+1<=2 by decide) slfile_size (λu hu=>by cases bF.1 hu;rfl) ?_);intro C hB b;have j:aK C (w.heap.size+1) _ _:=p.grown b (λe=>by have:=aU e;omega);have hC:aK C w.heap.size _ _:=ht.grown b (λe=>by have:=aU e;omega);have hM:=H.keep V (by decide) (by decide) b;have d:=m.grown b m.size oG0;have hA : aK C w2.heap.size #[.slice a4 (A.length+1) c4,.int .i64 k] 41:=hB;clear V p ht H m b hB;have R:=hA.cell;have S:=hC.cell;have hK:=j.cell;have hJ:=j.free;go_upto_region 8 with(fail)
  go_region
  refine WF (λW=>Exit.then _ _ _ _ W) j λw6 hf hG => ?_;have hL:=hM.keep j (by decide) (by decide) hf;have hq:=d.grown hf d.size oG0;clear R S hK hJ;go_wp2;refine bodyPost_ret (v:=.tuple #[.agg #[.slice a4 (A.length+1) c4,.int .i64 k],.int .i64 ps.length,.int .i64 0]) (bX results74 (w.heap.size+1) hG underlying41 store_size) rfl ?_;have e1:jX (bD ps k)=ps.length:=by unfold jX;rw[if_pos Z.out];simp[bD]
  have e2:bD (A++[pf0]) k=mR (bD ps k):=by unfold mR;rw[if_pos Z.out];simp[bD,hH.out,pf0,PF.fi]
  exact⟨_,_,_,by rw[e1,Z.out],hL,e2,hq⟩
 have M:Hid _:=ae (Gj (s:=bD ps k) (e:=aQ (bD ps k)) (by unfold jV;rw[if_pos D]) D);have hR : (aQ (bD ps k) != 0)=true:=by simpa using D
 clear D
 go_wp2_with (refine ax _ _ (w.heap.size+1) #[.slice none 0 0,.int .i64 0] o store_size (G:=jP none 0 0 0) ?_)
 all_goals
  intro C X b;have d:Below w.heap.size w C:=f.grown b f.size oG0;go_wp2;refine bodyPost_ret (v:=.tuple #[.agg #[.slice none 0 0,.int .i64 0],.int .i64 0,.int .i64 (aQ (bD ps k))]) (bX results74 (w.heap.size+1) X underlying41 store_size) rfl ?_;have q:=M.out;exact⟨_,_,_,by rw[q.1,q.2.1],mo.nil _ _,by rw[q.2.2];rfl,d⟩
theorem YE(cur:Array Value)(o:Nat)(x y:Value)(h:cur[o+1]?=some y):dO cur o [x,y]=cur.setIfInBounds o x:=by
 show(cur.setIfInBounds o x).setIfInBounds (o+1) y=cur.setIfInBounds o x;apply sM;intro i;rw[BF]
 by_cases e:o+1=i
 ·subst e;have a:o+1<cur.size:=(iB.1 h).1;rw[if_pos rfl,if_pos (by simpa using a),gT (by omega),h]
 ·rw[if_neg e]
theorem Rn(cur:Array Value)(o:Nat)(x y:Value)(h:cur[o]?=some x):dO cur o [x,y]=cur.setIfInBounds (o+1) y:=by
 show(cur.setIfInBounds o x).setIfInBounds (o+1) y=cur.setIfInBounds (o+1) y;congr 1;apply sM;intro i;rw[BF]
 by_cases e:o=i
 ·subst e;have a:o<cur.size:=(iB.1 h).1;rw[if_pos rfl,if_pos a,h]
 ·rw[if_neg e]
theorem mo.set{ps:List PF}(h:mo w B v ps)(C:k<ps.length){p' : PF}(A:Own w' B 101 2 v ps.length ((ps.set k p').flatMap xQ))(z:Own w' B 3 1 (rY p') p'.l.length (p'.l.map ib))
 (m:∀(i:Nat) q,i≠k->ps[i]?=some q->Own w' B 3 1 (rY q) q.l.length (q.l.map ib)) (y:∀(i:Nat) q,i≠k->ps[i]?=some q->Apart (rY p') (rY q)):mo w' B v (ps.set k p') where
 own:=by rw[bV];exact A
 each:=λi q d=>by
  rw[qd]at d
  by_cases e:k=i
  ·rw[if_pos e]at d
   by_cases D:i<ps.length
   ·rw[if_pos (by omega)]at d;cases d;exact z
   ·rw[if_neg (by omega)]at d;cases d
  rw[if_neg e]at d;exact m i q (λs=>e s.symm) d
 apart:=λi j q r a d f=>by
  rw[qd]at d f
  by_cases e:k=i
  ·rw[if_pos e,if_pos (by omega)]at d;cases d;rw[if_neg (by omega)]at f;exact y j r (by omega) f
  rw[if_neg e]at d
  by_cases s:k=j
  ·rw[if_pos s,if_pos (by omega)]at f;cases f;exact(y i q (by omega) d).symm
  rw[if_neg s]at f;exact h.apart i j q r a d f
theorem mo.file{ps:List PF}(h:mo w B v ps){p:PF}(C:ps[k]?=some p) :
  ∃g off cap cur,v = .slice (some ⟨g,off,none⟩) ps.length cap/\B<=g/\aK w g cur 101/\off+k*2+2<=cur.size/\cur[off+k*2]?=some (.int .i64 p.n)/\cur[off+k*2+1]?=some (.slice p.a p.l.length p.c) /\
   (∀w' n,aK w' g (cur.setIfInBounds (off+k*2) (.int .i64 n)) 101->w.grownBy w' (some g)->mo w' B v (ps.set k ⟨n,p.a,p.l,p.c⟩)) /\
   (∀w' a l c,aK w' g (cur.setIfInBounds (off+k*2+1) (.slice a l.length c)) 101->w.grownBy w' (some g)->Own w B 3 1 (.slice a l.length c) l.length (l.map ib)->(∀(j:Nat) q,j≠k->ps[j]?=some q->Apart (.slice a l.length c) (rY q))->mo w' B v (ps.set k ⟨p.n,a,l,c⟩)):=by
 have D:=(dw.1 C).1;have o:=(dw.1 C).2;obtain⟨g,off,cap,cur,I,S,b,r,m⟩:=nS lC rfl h.own k D;have e:∀j u,(ps.flatMap xQ)[j]?=some u->cur[off+j]?=some u:=by
  rcases h.own.2 with⟨F,U⟩|⟨V,H,J,E,A,R,y,_,_,_,N⟩
  ·omega
  rw[I]at A;cases A;have:cur=E:=by unfold aK at b y;rw[b]at y;simpa using y
  subst this;exact N
 have K:cur[off+k*2]?=some (.int .i64 p.n):=by have:=e (k*2) (.int .i64 p.n) (by have:=flat_get xQ 2 lC ps k D 0 (.int .i64 p.n) (by rw[o];rfl);simpa using this);exact this
 have c1:cur[off+k*2+1]?=some (.slice p.a p.l.length p.c):=by have:=e (k*2+1) (.slice p.a p.l.length p.c) (flat_get xQ 2 lC ps k D 1 _ (by rw[o];rfl));simpa[qX]using this
 have f:∀ {w' : World},w.grownBy w' (some g)->∀(i:Nat) q,ps[i]?=some q->Own w' B 3 1 (rY q) q.l.length (q.l.map ib):=λd i q z=>aA (h.each i q z) b d;have s:∀(j:Nat) q,j≠k->ps[j]?=some q->Apart (rY p) (rY q):=λj q M z=>by
  rcases rO M with F|F
  ·exact(h.apart j k q p F z C).symm
  ·exact h.apart k j p q F C z
 refine⟨g,off,cap,cur,I,S,b,r,K,c1,λw' n G d => ?_,λw' a l c G d L O => ?_⟩
 ·refine h.set D (m w' ⟨n,p.a,p.l,p.c⟩ ?_) (f d k p C) (λi q _ z=>f d i q z) s;rw[show xQ ⟨n,p.a,p.l,p.c⟩=[.int .i64 n,.slice p.a p.l.length p.c]from rfl,YE _ _ _ _ c1];exact G
 refine h.set D (m w' ⟨p.n,a,l,c⟩ ?_) (aA L b d) (λi q _ z=>f d i q z) O;rw[show xQ ⟨p.n,a,l,c⟩=[.int .i64 p.n,.slice a l.length c]from rfl,Rn _ _ _ _ K];exact G
theorem mo.num{ps:List PF}(h:mo w B v ps){p:PF}(A:ps[k]?=some p)(J:i<p.l.length) :
  ∃g off cap cur,p.a=some ⟨g,off,none⟩/\p.c=cap/\B<=g/\aK w g cur 3/\off+i+1<=cur.size /\
   ∀w' x,aK w' g (dO cur (off+i) [.int .i64 x]) 3->w.grownBy w' (some g)->mo w' B v (ps.set k ⟨p.n,p.a,p.l.set i x,p.c⟩):=by
 have I:=(dw.1 A).1;have u:=(dw.1 A).2;have b:=h.each k p A;rw[<-pE]at b;obtain⟨g,off,cap,cur,C,M,d,s,o⟩:=nS (λx:Int=>(rfl : [ib x].length=1)) rfl b i J;unfold rY at C;simp only[iW]at C;obtain⟨E,_,K⟩:=C;refine⟨g,off,cap,cur,E,K,M,d,(by simpa using s),λw' x L r => ?_⟩;have t:∀(j:Nat) q,j≠k->ps[j]?=some q->Apart (rY p) (rY q):=λj q z y=>by
  rcases rO z with D|D
  ·exact(h.apart j k q p D y A).symm
  ·exact h.apart k j p q D A y
 have m : Own w' B 101 2 v ps.length (ps.flatMap xQ):=aA h.own d r;have f:(ps.set k ⟨p.n,p.a,p.l.set i x,p.c⟩).flatMap xQ=ps.flatMap xQ:=by
  have N:xQ ⟨p.n,p.a,p.l.set i x,p.c⟩=xQ p:=by simp[xQ,Pb]
  apply qB;intro j
  by_cases z:j<ps.length*2
  ·have y:j / 2<ps.length:=by omega
   have H:=wm xQ 2 lC (ps.set k ⟨p.n,p.a,p.l.set i x,p.c⟩) (j / 2) (by rw[bV];exact y) (j%2) (by omega);have G:=wm xQ 2 lC ps (j / 2) y (j%2) (by omega);rw[show j / 2*2+j%2=j from by omega]at H G;rw[H,G];congr 1;rw[Er]
   by_cases e:k=j / 2
   ·rw[if_pos e,N,<-u];congr 1;simp only[e]
   ·rw[if_neg e]
  ·rw[dP (by rw[Pw.flat_len xQ 2 lC,bV];omega),dP (by rw[Pw.flat_len xQ 2 lC];omega)]
 refine h.set I (by rw[f];exact m) ?_ (λj q z y=>(h.each j q y).apart (t j q z y) (by
  have:(rY p).ownBlock=some g:=by unfold rY;rw[E];rfl
  rw[this];exact r)) (λj q z y=>by rw[show rY ⟨p.n,p.a,p.l.set i x,p.c⟩=rY p from by simp[rY]];exact t j q z y)
 have F:=o w' x (by rw[Eo];exact L);rw[pE]at F;simpa[rY]using F
theorem NW(ps:List PF)(k file index:Int)(a:Option Addr)(c:Nat)(w:World)(h:TP w a c ps)(hk64 : -9223372036854775808<=k/\k<=9223372036854775807) :
  Calls Tryz.prog 192 #[.agg (QE a ps.length c k),.int .i64 file,.int .i64 index] w λr w' => ∃v R k',r = .returned (.tuple #[.agg #[v,.int .i64 k'],.int .i64 (eY (bD ps k) file index),.int .i64 (dF (bD ps k) file index)])/\mo w' w.heap.size v R/\bD R k' = eH (bD ps k) file index/\Below w.heap.size w w':=by
 have kq:=aX h.le h.mx;unfold maxLen at kq;unfold QE;go_enter func192,ntmps192;go_upto_region 1 with(fail);refine uY (λW=>Code.wp _ _ _ _ W) λW0 h3 hS kc km => ?_;clear km
 go_wp2_with (refine ay _ 0 _ hS.rd _ underlying41 rfl store_size ?_)
 refine(xN ps k a c _ (h.below h3) hk64).mono ?_;rintro r w1 ⟨rfl,hN⟩;have d:=ah h3 hN;have L:=hS.ext hN;have o:=kc.ext hN;clear h3 hS kc hN
 by_cases J:aQ (bD ps k)=0
 ·have K:=ae J;rw[J];clear J;have ku:=L.cell
  by_cases h5:file<0\/(ps.length:Int)<=file
  ·have D:Hid _:=ae (zb (s:=bD ps k) (k:=file) (i:=index) (e:=5) (by unfold dF;rw[if_neg (by rw[K.out];simp),if_pos (by simpa[bD]using h5)]) (by decide));have ky : file<0\/(¬file<0/\(ps.length:Int)<=file):=by omega
   clear h5;rcases ky with g1|⟨g1,g2⟩
   ·skip
    go_wp2_with (refine ax _ _ (w.heap.size+1) #[.slice none 0 0,.int .i64 0] o store_size (G:=jP none 0 0 0) ?_)
    all_goals
     intro C t f;have j:Below w.heap.size w C:=d.grown f d.size oG0;go_wp2;refine bodyPost_ret (v:=.tuple #[.agg #[.slice none 0 0,.int .i64 0],.int .i64 0,.int .i64 (5)]) (bX results192 (w.heap.size+1) t underlying41 store_size) rfl ?_;have q:=D.out;exact⟨_,_,_,by rw[q.1,q.2.1],mo.nil _ _,by rw[q.2.2];rfl,j⟩
   skip
   go_wp2_with (refine ax _ _ (w.heap.size+1) #[.slice none 0 0,.int .i64 0] o store_size (G:=jP none 0 0 0) ?_)
   all_goals
    intro C t f;have j:Below w.heap.size w C:=d.grown f d.size oG0;go_wp2;refine bodyPost_ret (v:=.tuple #[.agg #[.slice none 0 0,.int .i64 0],.int .i64 0,.int .i64 (5)]) (bX results192 (w.heap.size+1) t underlying41 store_size) rfl ?_;have q:=D.out;exact⟨_,_,_,by rw[q.1,q.2.1],mo.nil _ _,by rw[q.2.2];rfl,j⟩
  obtain⟨F,rfl⟩:=lM (show 0<=file by omega);have hF:F<ps.length:=by omega
  have kJ:(F:Int)<(ps.length:Int):=by omega
  obtain⟨b,off,p,rfl,hp,c0,c1⟩:=yB (h.below d).rd F hF;have kE:=h.good p (dB hp);have kp:=ae hp;have hJ:Hid (az (bD ps k) F=p.fi):=ae (by unfold az bD;rw[if_pos (by omega),bu,bA,iH,hp];rfl);have hW:Hid (¬((F:Int)<0\/(((bD ps k).fs.length:Nat):Int)<=(F:Int))):=ae (by simpa[bD]using hF);clear h5 hp
  by_cases h9:index<0\/(p.l.length:Int)<=index
  ·have D:Hid _:=ae (zb (s:=bD ps k) (k:=F) (i:=index) (e:=9) (by unfold dF;rw[if_neg (by rw[K.out];simp),if_neg hW.out,if_pos (by rw[hJ.out];exact h9)]) (by decide));have kx : index<0\/(¬index<0/\(p.l.length:Int)<=index):=by omega
   clear h9;rcases kx with g1|⟨g1,g2⟩
   ·skip
    go_wp2_with (refine ax _ _ (w.heap.size+1) #[.slice none 0 0,.int .i64 0] o store_size (G:=jP none 0 0 0) ?_)
    all_goals
     intro C t f;have j:Below w.heap.size w C:=d.grown f d.size oG0;go_wp2;refine bodyPost_ret (v:=.tuple #[.agg #[.slice none 0 0,.int .i64 0],.int .i64 0,.int .i64 (9)]) (bX results192 (w.heap.size+1) t underlying41 store_size) rfl ?_;have q:=D.out;exact⟨_,_,_,by rw[q.1,q.2.1],mo.nil _ _,by rw[q.2.2];rfl,j⟩
   skip
   go_wp2_with (refine ax _ _ (w.heap.size+1) #[.slice none 0 0,.int .i64 0] o store_size (G:=jP none 0 0 0) ?_)
   all_goals
    intro C t f;have j:Below w.heap.size w C:=d.grown f d.size oG0;go_wp2;refine bodyPost_ret (v:=.tuple #[.agg #[.slice none 0 0,.int .i64 0],.int .i64 0,.int .i64 (9)]) (bX results192 (w.heap.size+1) t underlying41 store_size) rfl ?_;have q:=D.out;exact⟨_,_,_,by rw[q.1,q.2.1],mo.nil _ _,by rw[q.2.2];rfl,j⟩
  obtain⟨I,rfl⟩:=lM (show 0<=index by omega);have hI:I<p.l.length:=by omega
  have kH:(I:Int)<(p.l.length:Int):=by omega
  have kh:Hid (¬((I:Int)<0\/(((az (bD ps k) F).b.length:Nat):Int)<=(I:Int))):=ae (by rw[hJ.out];exact h9);have kl:=Cx K.out;have kD:ps.length<=5:=by simpa[bD]using(jC K.out).1
  have hQ:k<=80:=(jC K.out).2.2;clear h9
  go_wp2_with (refine ay _ 0 _ L.rd _ underlying41 rfl store_size ?_)
  refine(BK ps k _ c _ (h.below d) kl).mono ?_;rintro r w2 ⟨v2,E,rfl,h7,hm,hM⟩;have kd:=ae hm;have ke:E.length=ps.length:=by simpa using congrArg List.length hm
  have ko:F<E.length:=by omega
  clear ke;obtain⟨q,O⟩:∃q,E[F]?=some q:=⟨E[F]'ko,aM _⟩;have hU:q.fi=p.fi:=by have h1:=congrArg (λl=>l[F]?) hm;simp only[iH,O,kp.out,xu,fM]at h1;exact h1
  have hV:=ae (show q.l=p.l from congrArg Fi.b hU);have kn:=ae (show q.n=p.n from congrArg Fi.n hU);have hn:I<q.l.length:=by rw[hV.out];exact hI
  have hE:=ah d hM;have ka:=L.ext hM;have hg:=o.ext hM;have hR:=h7.mono d.size;obtain⟨av,cv,rfl,_⟩:=h7.rd;clear hm ku d L o hM h7 c0 c1
  go_wp2_with (refine aT #[.slice av E.length cv,.int .i64 k] store_size (jP _ _ _ _) ?_)
  intro w3 hH M;have Z:=ah hE hH;have h8:=ka.ext hH;have hd:=hg.ext hH;have G:=hR.below hH;have kr:w.heap.size+1<w2.heap.size:=hg.lt;obtain⟨gg,kk⟩:∃g,g=w2.heap.size:=⟨_,rfl⟩;rw[<-kk]at M kr ⊢;clear kk hE ka hg hR hH;obtain⟨g,off9,cap,cur,hv,kK,hD,kA,e0,e1,_,_⟩:=G.file O;obtain⟨g2,U,cap2,cur2,kg,kC,kL,hC,kt,hu⟩:=G.num O (i:=I) hn;simp only[iW]at hv;obtain⟨rfl,_,rfl⟩:=hv;have kI:(F:Int)<(E.length:Int):=by omega
  have kG:(I:Int)<(q.l.length:Int):=by omega
  rw[kg]at e1;have hK:=M.cell;have hL:=hD.cell;have hZ:w3.cell? ⟨g2,U+I,none⟩=some (.int .i64 q.l[I]):=by obtain⟨_,_,e2,hc⟩:=mO ((G.rd).elim λ_ L=>L.elim λ_ hy=>(hy.2.good q (dB O)).rd) I hn;rw[kg]at e2;cases e2;exact hc
  have H:Hid (aZ (bD ps k) F I=q.l[I]):=ae (by unfold aZ;rw[hJ.out,bu];show p.l.getD I 0=_;rw[bA,<-hV.out,aM hn];rfl);generalize hB0:q.l[I]=B0 at hZ H;clear hB0 hU;go_upto_region 10 with(fail)
  by_cases A:B0<0
  ·have hP:=h8;clear hL hZ hD e0 e1
   go_wp2_with fail
   refine(Sk ps k _ c w.heap.size _ (h.below Z) hP hQ).mono ?_;rintro r w4 ⟨rfl,hG⟩;have ks:=Tj (s:=bD ps k) hQ;have y:=ah Z hG;have hb:=hd.ext hG;have N:=M.ext hG;have hO:=G.below hG;clear hP Z hd M G hG hK hu hC h8;have h2:Hid (dF (bD ps k) F I=if fT (bD ps k)<0 then 10 else 0):=ae (by
    unfold dF;rw[if_neg (by rw[K.out];simp),if_neg hW.out,if_neg kh.out,H.out]
    by_cases z:fT (bD ps k)<0
    ·rw[if_pos ⟨A,z⟩,if_pos z]
    ·rw[if_neg (λhh=>z hh.2),if_neg z])
   generalize hX:fT (bD ps k)=X at h2 ks;have kj:=ae hX;clear hX
   by_cases hX0:X<0
   ·have D:Hid _:=ae (zb (s:=bD ps k) (k:=F) (i:=I) (e:=10) (by rw[h2.out,if_pos hX0]) (by decide));have d:=y;have o:=hb;clear y hb N hO
    go_wp2_with (refine ax _ _ (w.heap.size+1) #[.slice none 0 0,.int .i64 0] o store_size (G:=jP none 0 0 0) ?_)
    all_goals
     intro C t f;have j:Below w.heap.size w C:=d.grown f d.size oG0;go_wp2;refine bodyPost_ret (v:=.tuple #[.agg #[.slice none 0 0,.int .i64 0],.int .i64 0,.int .i64 (10)]) (bX results192 (w.heap.size+1) t underlying41 store_size) rfl ?_;have q:=D.out;exact⟨_,_,_,by rw[q.1,q.2.1],mo.nil _ _,by rw[q.2.2];rfl,j⟩
   have hz:Hid (dF (bD ps k) F I=0):=ae (by rw[h2.out,if_neg hX0]);have u:Hid (eY (bD ps k) F I=X/\dF (bD ps k) F I=0/\bD (E.set F ⟨q.n,q.a,q.l.set I X,q.c⟩) k=eH (bD ps k) F I):=ae (by
    refine⟨?_,hz.out,?_⟩
    ·unfold eY;rw[if_neg (by rw[hz.out];simp),H.out,if_pos A,kj.out]
    unfold eH;rw[if_neg (by rw[hz.out];simp),H.out,if_pos A,kj.out,hJ.out];unfold nW bD;rw[bu,bu,nO,kd.out];unfold PF.fi;rw[hV.out,kn.out])
   obtain⟨g3,off3,cap3,cur3,kb,kB,hB,_,e03,e13,_,_⟩:=hO.file O;obtain⟨g4,S,cap4,cur4,kf,kz,kw,m,hY,ht⟩:=hO.num O (i:=I) hn;simp only[iW]at kb;obtain⟨e31,_,e33⟩:=kb;cases e31;subst e33;rw[kf]at e13;have hK:=N.cell;have hL:=hB.cell;have kF:gg≠g4:=λe=>by subst e;unfold aK at N m;rw[N]at m;simp at m
   go_wp2_with (refine aY g4 (S+I) [.int .i64 X] rfl rfl rfl _ _ m hY int_size (zx _ _) ?_)
   intro C ki f;have h6:=ht C X ki f;have hA:=aG N m f;have V:=aG hb m f;have x:=y.grown f y.size (λk hk=>by cases hk;exact kw);clear N hb hO y hB m ht hK hL e03 e13 ki f;have kv:=hA.cell
   go_wp2_with (first | (refine ay _ 0 _ hA.rd _ underlying41 rfl store_size ?_) | (refine ax _ _ (w.heap.size+1) _ V store_size (G:=jP _ _ _ _) ?_))
   intro wf hT Y;have h4:=h6.keep V (by decide) (by decide) Y;have hi:=x.grown Y x.size oG0;go_wp2;refine bodyPost_ret (v:=.tuple #[.agg #[.slice _ _ _,.int .i64 k],.int .i64 (X),.int .i64 0]) (bX results192 (w.heap.size+1) hT underlying41 store_size) rfl ?_;exact⟨_,_,_,by rw[u.out.1,u.out.2.1],h4,u.out.2.2,hi⟩
  have u:Hid (eY (bD ps k) F I=B0/\dF (bD ps k) F I=0/\bD E k=eH (bD ps k) F I):=ae (by
   have z:dF (bD ps k) F I=0:=by unfold dF;rw[if_neg (by rw[K.out];simp),if_neg hW.out,if_neg kh.out,if_neg (by rw[H.out];omega)]
   refine⟨?_,z,?_⟩
   ·unfold eY;rw[if_neg (by rw[z];simp),H.out,if_neg A]
   ·unfold eH;rw[if_neg (by rw[z];simp),H.out,if_neg A];unfold bD;rw[kd.out])
  have hA:=M;have V:=hd;have h6:=G;have x:=Z;clear M hd G Z hD hC hu hK hL hZ e0 e1;have kv:=hA.cell
  go_wp2_with (first | (refine ay _ 0 _ hA.rd _ underlying41 rfl store_size ?_) | (refine ax _ _ (w.heap.size+1) _ V store_size (G:=jP _ _ _ _) ?_))
  intro wf hT Y;have h4:=h6.keep V (by decide) (by decide) Y;have hi:=x.grown Y x.size oG0;go_wp2;refine bodyPost_ret (v:=.tuple #[.agg #[.slice _ _ _,.int .i64 k],.int .i64 (B0),.int .i64 0]) (bX results192 (w.heap.size+1) hT underlying41 store_size) rfl ?_;exact⟨_,_,_,by rw[u.out.1,u.out.2.1],h4,u.out.2.2,hi⟩
 have D:Hid _:=ae (zb (s:=bD ps k) (k:=file) (i:=index) (e:=aQ (bD ps k)) (by unfold dF;rw[if_pos J]) J);have kM : (aQ (bD ps k) != 0)=true:=by simpa using J
 clear J
 go_wp2_with (refine ax _ _ (w.heap.size+1) #[.slice none 0 0,.int .i64 0] o store_size (G:=jP none 0 0 0) ?_)
 all_goals
  intro C t f;have j:Below w.heap.size w C:=d.grown f d.size oG0;go_wp2;refine bodyPost_ret (v:=.tuple #[.agg #[.slice none 0 0,.int .i64 0],.int .i64 0,.int .i64 (aQ (bD ps k))]) (bX results192 (w.heap.size+1) t underlying41 store_size) rfl ?_;have q:=D.out;exact⟨_,_,_,by rw[q.1,q.2.1],mo.nil _ _,by rw[q.2.2];rfl,j⟩
theorem Own.take1{e:TypeId}{n m:Nat}(h:Own w B e 1 (.slice a n c) n xs)(E:m<=n):Own w B e 1 (.slice a m c) m (xs.take m):=by
 obtain⟨z,h⟩:=h;refine⟨by simp[z];omega,?_⟩;rcases h with⟨D,G⟩|⟨g,off,cap,cur,q,C,A,F,f,y,s⟩
 ·cases D;obtain rfl:m=0:=by omega
  exact .inl ⟨rfl,rfl⟩
 cases q;refine .inr ⟨g,off,c,cur,rfl,C,A,by omega,f,y,λj u d=>s j u ?_⟩;rw[jO]at d;split at d
 ·exact d
 ·cases d
theorem mo.grow{ps:List PF}(h:mo w B v ps){p:PF}(C:ps[k]?=some p)(ho' : Own w1 B 3 1 (.slice a' l'.length c') l'.length (l'.map ib))
 (z:w.grownBy w1 (rY p).ownBlock) (H:zl w (rY p) (.slice a' l'.length c')) :
  ∃g off cap cur,v = .slice (some ⟨g,off,none⟩) ps.length cap/\B<=g/\aK w1 g cur 101/\off+k*2+2<=cur.size/\cur[off+k*2]?=some (.int .i64 p.n)/\cur[off+k*2+1]?=some (.slice p.a p.l.length p.c) /\
   ∀w',aK w' g (cur.setIfInBounds (off+k*2+1) (.slice a' l'.length c')) 101->w1.grownBy w' (some g)->mo w' B v (ps.set k ⟨p.n,a',l',c'⟩):=by
 have F:=(dw.1 C).1;have i:=(dw.1 C).2;have e:Own w1 B 101 2 v ps.length (ps.flatMap xQ):=xe h.own (h.each k p C) z;obtain⟨g,off,cap,cur,J,R,b,o,f⟩:=nS lC rfl e k F;have d:∀j u,(ps.flatMap xQ)[j]?=some u->cur[off+j]?=some u:=by
  rcases e.2 with⟨G,S⟩|⟨U,I,K,E,A,O,s,_,_,_,M⟩
  ·omega
  rw[J]at A;cases A;have:cur=E:=by unfold aK at b s;rw[b]at s;simpa using s
  subst this;exact M
 have L:cur[off+k*2]?=some (.int .i64 p.n):=by have:=d (k*2) (.int .i64 p.n) (by have:=flat_get xQ 2 lC ps k F 0 (.int .i64 p.n) (by rw[i];rfl);simpa using this);exact this
 have c1:cur[off+k*2+1]?=some (.slice p.a p.l.length p.c):=by have:=d (k*2+1) (.slice p.a p.l.length p.c) (flat_get xQ 2 lC ps k F 1 _ (by rw[i];rfl));simpa[qX]using this
 have r:∀(j:Nat) q,j≠k->ps[j]?=some q->Apart (rY p) (rY q):=λj q D y=>by
  rcases rO D with G|G
  ·exact(h.apart j k q p G y C).symm
  ·exact h.apart k j p q G C y
 refine⟨g,off,cap,cur,J,R,b,o,L,c1,λw' N m => ?_⟩;refine h.set F (f w' ⟨p.n,a',l',c'⟩ ?_) (aA ho' b m) (λj q D y=>aA ((h.each j q y).apart (r j q D y) z) b m) (λj q D y=>(r j q D y).grown (h.each j q y) H);rw[show xQ ⟨p.n,a',l',c'⟩=[.int .i64 p.n,.slice a' l'.length c']from rfl,Rn _ _ _ _ L];exact N
theorem slint_size:(Tryz.prog.info? 33).map (·.size)=some 1:=by kernel_rfl
theorem Bc{o:Nat}(m:World->Prop)(f:aK w b cur T)(h:∀W,w.grownBy W (some b)->aK W b (cur.setIfInBounds o v) T->m W):m (w.setCell ⟨b,o,none⟩ v).drew:=by
 have d:=aD w b o [v];have j:aK (w.setCells b o [v]) b (dO cur o [v]) T:=f.setCells [v] o;exact h _ ⟨d.os,d.tape,d.output,d.size,d.block⟩ j
theorem TI(ps:List PF)(k file n:Int)(a:Option Addr)(c:Nat)(w:World)(h:TP w a c ps)(hk64 : -9223372036854775808<=k/\k<=9223372036854775807) :
  Calls Tryz.prog 189 #[.agg (QE a ps.length c k),.int .i64 file,.int .i64 n] w λr w' => ∃v ps' k',r = .returned (.tuple #[.agg #[v,.int .i64 k'],.int .i64 (jE (bD ps k) file n)])/\mo w' w.heap.size v ps'/\bD ps' k' = jU (bD ps k) file n/\Below w.heap.size w w':=by
 have gm:=aX h.le h.mx;unfold maxLen at gm;unfold QE;go_enter func189,ntmps189;go_upto_region 1 with(fail);refine uY (λW=>Code.wp _ _ _ _ W) λW0 k2 kQ k7 gl => ?_;clear gl
 go_wp2_with (refine ay _ 0 _ kQ.rd _ underlying41 rfl store_size ?_)
 refine(xN ps k a c _ (h.below k2) hk64).mono ?_;rintro r w1 ⟨rfl,kN⟩;have hc:=ah k2 kN;have hx:=kQ.ext kN;have hR:=k7.ext kN;clear k2 kQ k7 kN
 by_cases h0:aQ (bD ps k)=0
 ·have H0:=ae h0;rw[h0];clear h0;have gp:=hx.cell
  by_cases h5:file<0\/(ps.length:Int)<=file
  ·have q0:Hid _:=ae (Gt (s:=bD ps k) (k:=file) (n:=n) (e:=5) (by unfold jE;rw[if_neg (by rw[H0.out];simp),if_pos (by simpa[bD]using h5)]) (by decide));have gu : file<0\/(¬file<0/\(ps.length:Int)<=file):=by omega
   clear h5;rcases gu with g1|⟨g1,g2⟩
   ·skip
    go_wp2_with (refine ax _ _ (w.heap.size+1) #[.slice none 0 0,.int .i64 0] hR store_size (G:=jP none 0 0 0) ?_)
    all_goals
     intro w5 hZ hJ;have hl:Below w.heap.size w w5:=hc.grown hJ hc.size oG0;go_wp2;refine bodyPost_ret (v:=.tuple #[.agg #[.slice none 0 0,.int .i64 0],.int .i64 (5)]) (dH results189 (w.heap.size+1) hZ underlying41 store_size) rfl ?_;have q:=q0.out;exact⟨_,_,_,by rw[q.1],mo.nil _ _,by rw[q.2];rfl,hl⟩
   skip
   go_wp2_with (refine ax _ _ (w.heap.size+1) #[.slice none 0 0,.int .i64 0] hR store_size (G:=jP none 0 0 0) ?_)
   all_goals
    intro w5 hZ hJ;have hl:Below w.heap.size w w5:=hc.grown hJ hc.size oG0;go_wp2;refine bodyPost_ret (v:=.tuple #[.agg #[.slice none 0 0,.int .i64 0],.int .i64 (5)]) (dH results189 (w.heap.size+1) hZ underlying41 store_size) rfl ?_;have q:=q0.out;exact⟨_,_,_,by rw[q.1],mo.nil _ _,by rw[q.2];rfl,hl⟩
  obtain⟨F,rfl⟩:=lM (show 0<=file by omega);have hF:F<ps.length:=by omega
  have gz:(F:Int)<(ps.length:Int):=by omega
  have ga:Hid (¬((F:Int)<0\/(((bD ps k).fs.length:Nat):Int)<=(F:Int))):=ae (by simpa[bD]using hF);clear h5
  by_cases M:n<0\/96<n
  ·have q0:Hid _:=ae (Gt (s:=bD ps k) (k:=F) (n:=n) (e:=3) (by unfold jE;rw[if_neg (by rw[H0.out];simp),if_neg ga.out,if_pos M]) (by decide));have gt : n<0\/(¬n<0/\96<n):=by omega
   clear M;rcases gt with g1|⟨g1,g2⟩
   ·skip
    go_wp2_with (refine ax _ _ (w.heap.size+1) #[.slice none 0 0,.int .i64 0] hR store_size (G:=jP none 0 0 0) ?_)
    all_goals
     intro w5 hZ hJ;have hl:Below w.heap.size w w5:=hc.grown hJ hc.size oG0;go_wp2;refine bodyPost_ret (v:=.tuple #[.agg #[.slice none 0 0,.int .i64 0],.int .i64 (3)]) (dH results189 (w.heap.size+1) hZ underlying41 store_size) rfl ?_;have q:=q0.out;exact⟨_,_,_,by rw[q.1],mo.nil _ _,by rw[q.2];rfl,hl⟩
   skip
   go_wp2_with (refine ax _ _ (w.heap.size+1) #[.slice none 0 0,.int .i64 0] hR store_size (G:=jP none 0 0 0) ?_)
   all_goals
    intro w5 hZ hJ;have hl:Below w.heap.size w w5:=hc.grown hJ hc.size oG0;go_wp2;refine bodyPost_ret (v:=.tuple #[.agg #[.slice none 0 0,.int .i64 0],.int .i64 (3)]) (dH results189 (w.heap.size+1) hZ underlying41 store_size) rfl ?_;have q:=q0.out;exact⟨_,_,_,by rw[q.1],mo.nil _ _,by rw[q.2];rfl,hl⟩
  have hz:Hid (jE (bD ps k) F n=0):=ae (by unfold jE;rw[if_neg (by rw[H0.out];simp),if_neg ga.out,if_neg M]);have g1:¬n<0:=by omega
  have g2:¬96<n:=by omega
  have hp:ps[F]?=some ps[F]:=aM hF;have gc:Hid (az (bD ps k) F=ps[F].fi):=ae (by unfold az bD;rw[if_pos (by omega),bu,bA,iH,hp];rfl);have gk:=Cx H0.out;have gy:ps.length<=5:=by simpa[bD]using(jC H0.out).1
  clear M
  go_wp2_with (refine ay _ 0 _ hx.rd _ underlying41 rfl store_size ?_)
  refine(BK ps k _ c _ (h.below hc) gk).mono ?_;rintro r w2 ⟨v2,C,rfl,k4,ko,k1⟩;have kI:=ae ko;have k8:C.length=ps.length:=by simpa using congrArg List.length ko
  have kq:F<C.length:=by omega
  have gv : (F:Int)<(C.length:Int):=by omega
  have gx:C.length<=5:=by omega
  clear k8;obtain⟨q,hq⟩:∃q,C[F]?=some q:=⟨C[F]'kq,aM _⟩;have kT:q.fi=ps[F].fi:=by have J:=congrArg (λl=>l[F]?) ko;simp only[iH,hq,hp,xu,fM]at J;exact J
  have kK:Hid (az (bD ps k) F=q.fi):=ae (by rw[gc.out,kT]);have k9:q.l.length<=12:=by have h3:=wQ H0.out ps[F].fi (by simpa[bD]using AU (fA hF));rw[<-kT]at h3;have h4:=ul h3.2.1;have h5:(q.l.length:Int)=bn q.n:=h3.2.2.1;have h6:bn q.n<=12:=h4;omega
  have kE:=ah hc k1;have kd:=hR.ext k1;have kP:=k4.mono hc.size;obtain⟨av,cv,rfl,_⟩:=k4.rd;clear ko kT gp hc hx hR k1 k4 hp gc
  go_wp2_with (refine aT #[.slice av C.length cv,.int .i64 k] store_size (jP _ _ _ _) ?_)
  intro w3 kM kr;have km:=ah kE kM;have ku:=kd.ext kM;have gi:=kP.below kM;have gn:w.heap.size+1<w2.heap.size:=kd.lt;obtain⟨gd,gj⟩:∃g,g=w2.heap.size:=⟨_,rfl⟩;rw[<-gj]at kr gn ⊢;clear gj kE kd kP kM;obtain⟨g,D,cap,cur,hv,gs,f,hY,e0,e1,kt,_⟩:=gi.file hq;simp only[iW]at hv;obtain⟨rfl,Y,rfl⟩:=hv;clear Y;have hU:gd≠g:=λe=>by subst e;unfold aK at kr f;rw[kr]at f;simp at f
  have kC:=kr.cell
  go_wp2_with (refine aY g (D+F*2) [.int .i64 n] rfl rfl rfl _ _ f (by simp;omega) int_size (zx _ _) ?_)
  intro w4 gg kb;have hM:=kt w4 n gg kb;have ka:=kr.grown kb (λe=>hU (aU e).symm);have hm:=aG ku f kb;have p:=km.grown kb km.size (λk S=>by cases S;exact gs);have hI:(C.set F ⟨n,q.a,q.l,q.c⟩)[F]?=some ⟨n,q.a,q.l,q.c⟩:=by rw[oD kq]
  have kJ:(C.set F ⟨n,q.a,q.l,q.c⟩).length=C.length:=bV;clear kC kr ku gi km f hY e0 e1 kt gg kb;have gr:=ul (n:=n) (by omega);have gq:=Di n
  go_wp2_with fail
  refine(qW n _ (by omega)).mono ?_;rintro r w5 ⟨rfl,rfl⟩;obtain⟨K,hK⟩:∃K:Nat,bn n=(K:Int):=⟨(bn n).toNat,by omega⟩;have gw:K<=12:=by omega
  have kO:=ae hK;rw[hK];clear hK gr gq;go_upto_region 12 with(fail);obtain⟨g',off',cap',cur',k6,kp,f,hY,e0,e1,_,hg⟩:=hM.file hI;simp only[iW,fM,mD,and_true]at k6;obtain⟨⟨rfl,rfl⟩,Y,rfl⟩:=k6;clear Y;have x:=hM.each F _ hI;have hL:=f.cell;have kL:=f.free;have kU:q.l.length<=q.c:=by obtain⟨_,_,e,J,_⟩:=x.rd;unfold rY at e;simp only[iW]at e;obtain⟨_,_,rfl⟩:=e;exact J
  have hN:q.a=none->q.c=0:=by obtain⟨_,_,e,_,_,J,_⟩:=x.rd;unfold rY at e;simp only[iW]at e;obtain⟨rfl,_,rfl⟩:=e;exact J
  obtain⟨qn,qa,A,I⟩:=q;simp only at e1 k9 kU hN x hg;cases qa with
  | none=>
   obtain rfl:I=0:=hN rfl;obtain rfl:A=[]:=kV (by omega);simp only[mf]at e1
   by_cases hK0:0<K
   ·go_region
    refine Bc (λW=>Exit.then _ _ _ _ W) f λw6 d hX => ?_;have U:=ae (show((([]:List Int)).take (0)).length=0 by rw[eG];omega);have hG:mo w6 w.heap.size (.slice (some ⟨g,D,none⟩) C.length cv) ((C.set F ⟨n,none,([]:List Int),0⟩).set F ⟨n,none,(([]:List Int)).take (0),0⟩):=hg w6 (none) ((([]:List Int)).take (0)) 0 (by rw[U.out];exact hX) d (by
     have M:=Own.take1 (m:=0) x (by show _<=(([]:List Int)).length;omega);rw[U.out,wO];exact M) (λj r hj H=>by
     have kg:Apart (rY ⟨n,none,([]:List Int),0⟩) (rY r):=by
      rcases rO hj with J|J
      ·exact(hM.apart j F r _ J H hI).symm
      ·exact hM.apart F j _ r J hI H
     intro g' kk ke;exact kg g' (by simpa[rY,Value.ownBlock]using kk) ke)
    have b:Hid (((C.set F ⟨n,none,([]:List Int),0⟩).set F ⟨n,none,(([]:List Int)).take (0),0⟩).map PF.fi=(C.map PF.fi).set F ⟨n,(([]:List Int)).take (0)++List.replicate 0 (-1)⟩):=ae (by rw[nO,nO,pO];simp[PF.fi]);have hB:Hid (((C.set F ⟨n,none,([]:List Int),0⟩).set F ⟨n,none,(([]:List Int)).take (0),0⟩)[F]?=some ⟨n,none,(([]:List Int)).take (0)++List.replicate 0 (-1),0⟩):=ae (by rw[oD (by rw[bV];exact kq)];simp);have hS:=ka.grown d (λe=>hU (aU e).symm);have t:=aG hm f d;have hb:=p.grown d p.size (λk S=>by cases S;exact kp);generalize (C.set F ⟨n,none,([]:List Int),0⟩).set F ⟨n,none,(([]:List Int)).take (0),0⟩=rs at hG b hB;clear f hM ka hm p hI kJ hg hL kL e0 e1 x d hX hY;have kW:=ae hq;clear hq
    try clear hN
    go_upto_region 13 with(fail)
    go_loopg [62] K (fun gh s62 wr => ∃(j:Nat) (a' : Option Addr) (c' : Nat) (rs:List PF),K-(0+j)<=gh/\0+j<=K/\Below w.heap.size w wr/\aK wr gd #[.slice (some ⟨g,D,none⟩) C.length cv,.int .i64 k] 41/\aK wr (w.heap.size+1) #[.slice none 0 0,.int .i64 0] 41/\mo wr w.heap.size (.slice (some ⟨g,D,none⟩) C.length cv) rs/\Hid (rs.map PF.fi=(C.map PF.fi).set F ⟨n,(([]:List Int)).take (0)++List.replicate j (-1)⟩)/\Hid (rs[F]?=some ⟨n,a',(([]:List Int)).take (0)++List.replicate j (-1),c'⟩))
    case atStart=>exact⟨0,_,_,rs,by omega,by omega,hb,hS,t,hG,b,hB⟩
    case round=>
     clear hb hS t hG b hB;obtain⟨j,a',c',rs,R,Z,L,V,H,N,b,X⟩:=hrel;obtain⟨g8,off8,cap8,cur8,hP,kH,o,hh,O,E,_,_⟩:=N.file X.out;simp only[iW,fM,mD,and_true]at hP;obtain⟨⟨rfl,rfl⟩,Y,rfl⟩:=hP;clear Y;have z:((([]:List Int)).take (0)++List.replicate j (-1)).length=0+j:=by rw[fI,U.out,mY]
     have y:=N.each F _ X.out;simp only[z]at E;have hL:=o.cell
     by_cases G:0+j<K
     ·skip;have hn : (((0+j:Nat):Int))<(K:Int):=by omega
      have i:Own wr w.heap.size 3 1 (.slice a' (0+j) c') (0+j) (((([]:List Int)).take (0)++List.replicate j (-1)).map ib):=by have M:=y;unfold rY at M;simp only[z]at M;exact M
      generalize hmj:0+j=MJ at E G hn i Z R z;have hT:=ae hmj;have kA:=ae z;clear hmj z;go_upto_region 15 with(at_builtin;(refine nk rfl (.tmp 73) (.tmp 74) 33 rfl w.heap.size 3 (.int .i64 0) 1 8 underlying33 int_info rfl _ _ _ rfl (i.alloc _) (some ⟨wr.heap.size,0,none⟩) 1 1 [ib (-1)] rfl (λh=>(by cases h)) (aC _) rfl (eD.one _ _ _) (zx _ _) (by unfold maxLen;omega) (by omega) (eO L.size) ?_));intro v9 w9 kh hw h7;obtain⟨a9,c9,rfl,_⟩:=kh.rd;have hD:=L.alloc L.size (.cells #[.int .i64 (-1)] 3);have kG:=N.below ((Below.refl _ _).alloc (aC _) (.cells #[.int .i64 (-1)] 3));have ky:=V.alloc (.cells #[.int .i64 (-1)] 3);have kv:=H.alloc (.cells #[.int .i64 (-1)] 3);have h2:((([]:List Int)).take (0)++List.replicate (j+1) (-1)).length=MJ+1:=by rw[fI,U.out,mY];have:=hT.out;omega
      have kB:=ae h2;have kz:(([]:List Int)).take (0)++List.replicate (j+1) (-1)=((([]:List Int)).take (0)++List.replicate j (-1))++[-1]:=by rw[JM,lF]
      have kf:rY ⟨n,a',(([]:List Int)).take (0)++List.replicate j (-1),c'⟩ = .slice a' MJ c':=by unfold rY;simp only[kA.out]
      have kj:=kG.grow X.out (a':=a9) (l':=(([]:List Int)).take (0)++List.replicate (j+1) (-1)) (c':=c9) (by rw[h2,kz];simpa using kh) (by rw[kf];exact hw) (by rw[kf,h2];exact h7);obtain⟨g3,off3,cap3,cur3,ks,k5,hi,hV,e03,e13,hQ⟩:=kj;simp only[iW,fM,mD,and_true]at ks;obtain⟨⟨rfl,rfl⟩,Y,rfl⟩:=ks;clear Y;have h8:=kS ky (i.alloc (.cells #[.int .i64 (-1)] 3)) (by decide) hw;have kw:=kS kv (i.alloc (.cells #[.int .i64 (-1)] 3)) (by decide) hw;have hE:=hD.grown hw hD.size (λk S=>i.ge k S);have gf:=L;clear hD kG ky kv N V H L hL O E o hh y i kh hw h7;have kZ:Hid (0+(j+1)<=K):=ae (by have:=hT.out;omega);have kY:=ae (jq (show K-(0+(j+1))<K-MJ by have:=hT.out;omega) R);have kD:=hi.cell;clear h2 kz kf G Z R;go_upto_region 15 with(refine aY g (D+F*2+1) [.slice a9 (MJ+1) c9] rfl rfl rfl _ _ hi (Nat.le_of_lt_succ (Nat.lt_succ_of_le hV)) slint_size (λu hu=>by cases bF.1 hu;rfl) ?_);intro wA kF ht;have k3:=hQ wA (by rw[kB.out];exact kF) ht;have kX:=h8.grown ht (λe=>hU (aU e).symm);have kR:=aG kw hi ht;have kl:=hE.grown ht hE.size (λk S=>by cases S;exact k5);have kx:Hid ((rs.set F ⟨n,a9,(([]:List Int)).take (0)++List.replicate (j+1) (-1),c9⟩).map PF.fi=(C.map PF.fi).set F ⟨n,(([]:List Int)).take (0)++List.replicate (j+1) (-1)⟩):=ae (by rw[nO,b.out,pO];rfl);have k0:Hid ((rs.set F ⟨n,a9,(([]:List Int)).take (0)++List.replicate (j+1) (-1),c9⟩)[F]?=some ⟨n,a9,(([]:List Int)).take (0)++List.replicate (j+1) (-1),c9⟩):=ae (oD (dw.1 X.out).1);clear kD e03 e13 h8 kw hE hi hQ kF ht hV;go_wp2
      go_roundg (K-(0+(j+1)))
      case measure=>exact kY.out
      case rel=>exact⟨j+1,a9,c9,_,aC _,kZ.out,kl,kX,kR,k3,kx,k0⟩
     have hW:Hid (bD rs k=jU (bD ps k) F n):=ae (by
      have ki:j=K-0:=by omega
      unfold jU nW;rw[if_neg (by rw[hz.out];simp),kK.out,kO.out,bu,bu];unfold bD;simp only;rw[b.out,kI.out,ki];congr 2;unfold lG PF.fi;simp only[Fi.mk.injEq,true_and]
      all_goals simp)
     have hn : ¬(((0+j:Nat):Int))<(K:Int):=by omega
     generalize hmj:0+j=MJ at E G hn Z R z;clear hmj z G Z R y;go_upto_region 15 with(fail);clear hL O E o hh;have kC:=V.cell
     go_wp2_with (first | (refine ay _ 0 _ V.rd _ underlying41 rfl store_size ?_) | (refine ax _ _ (w.heap.size+1) _ H store_size (G:=jP _ _ _ _) ?_))
     intro wf kc hs;have kn:=N.keep H (by decide) (by decide) hs;have hC:=L.grown hs L.size oG0;go_wp2;refine bodyPost_ret (v:=.tuple #[.agg #[.slice _ _ _,.int .i64 k],.int .i64 0]) (dH results189 (w.heap.size+1) kc underlying41 store_size) rfl ?_;exact⟨_,_,_,by rw[hz.out],kn,hW.out,hC⟩
   go_region
   refine Bc (λW=>Exit.then _ _ _ _ W) f λw6 d hX => ?_;have U:=ae (show((([]:List Int)).take (K)).length=K by rw[eG];omega);have hG:mo w6 w.heap.size (.slice (some ⟨g,D,none⟩) C.length cv) ((C.set F ⟨n,none,([]:List Int),0⟩).set F ⟨n,none,(([]:List Int)).take (K),0⟩):=hg w6 (none) ((([]:List Int)).take (K)) 0 (by rw[U.out];exact hX) d (by
    have M:=Own.take1 (m:=K) x (by show _<=(([]:List Int)).length;omega);rw[U.out,wO];exact M) (λj r hj H=>by
    have kg:Apart (rY ⟨n,none,([]:List Int),0⟩) (rY r):=by
     rcases rO hj with J|J
     ·exact(hM.apart j F r _ J H hI).symm
     ·exact hM.apart F j _ r J hI H
    intro g' kk ke;exact kg g' (by simpa[rY,Value.ownBlock]using kk) ke)
   have b:Hid (((C.set F ⟨n,none,([]:List Int),0⟩).set F ⟨n,none,(([]:List Int)).take (K),0⟩).map PF.fi=(C.map PF.fi).set F ⟨n,(([]:List Int)).take (K)++List.replicate 0 (-1)⟩):=ae (by rw[nO,nO,pO];simp[PF.fi]);have hB:Hid (((C.set F ⟨n,none,([]:List Int),0⟩).set F ⟨n,none,(([]:List Int)).take (K),0⟩)[F]?=some ⟨n,none,(([]:List Int)).take (K)++List.replicate 0 (-1),0⟩):=ae (by rw[oD (by rw[bV];exact kq)];simp);have hS:=ka.grown d (λe=>hU (aU e).symm);have t:=aG hm f d;have hb:=p.grown d p.size (λk S=>by cases S;exact kp);generalize (C.set F ⟨n,none,([]:List Int),0⟩).set F ⟨n,none,(([]:List Int)).take (K),0⟩=rs at hG b hB;clear f hM ka hm p hI kJ hg hL kL e0 e1 x d hX hY;have kW:=ae hq;clear hq
   try clear hN
   go_upto_region 13 with(fail)
   go_loopg [62] K (fun gh s62 wr => ∃(j:Nat) (a' : Option Addr) (c' : Nat) (rs:List PF),K-(K+j)<=gh/\K+j<=K/\Below w.heap.size w wr/\aK wr gd #[.slice (some ⟨g,D,none⟩) C.length cv,.int .i64 k] 41/\aK wr (w.heap.size+1) #[.slice none 0 0,.int .i64 0] 41/\mo wr w.heap.size (.slice (some ⟨g,D,none⟩) C.length cv) rs/\Hid (rs.map PF.fi=(C.map PF.fi).set F ⟨n,(([]:List Int)).take (K)++List.replicate j (-1)⟩)/\Hid (rs[F]?=some ⟨n,a',(([]:List Int)).take (K)++List.replicate j (-1),c'⟩))
   case atStart=>exact⟨0,_,_,rs,by omega,by omega,hb,hS,t,hG,b,hB⟩
   case round=>
    clear hb hS t hG b hB;obtain⟨j,a',c',rs,R,Z,L,V,H,N,b,X⟩:=hrel;obtain⟨g8,off8,cap8,cur8,hP,kH,o,hh,O,E,_,_⟩:=N.file X.out;simp only[iW,fM,mD,and_true]at hP;obtain⟨⟨rfl,rfl⟩,Y,rfl⟩:=hP;clear Y;have z:((([]:List Int)).take (K)++List.replicate j (-1)).length=K+j:=by rw[fI,U.out,mY]
    have y:=N.each F _ X.out;simp only[z]at E;have hL:=o.cell
    by_cases G:K+j<K
    ·skip;exact absurd G (by omega)
    have hW:Hid (bD rs k=jU (bD ps k) F n):=ae (by
     have ki:j=K-K:=by omega
     unfold jU nW;rw[if_neg (by rw[hz.out];simp),kK.out,kO.out,bu,bu];unfold bD;simp only;rw[b.out,kI.out,ki];congr 2;unfold lG PF.fi;simp only[Fi.mk.injEq,true_and]
     all_goals (rw[yU];simp;try omega))
    have hn : ¬(((K+j:Nat):Int))<(K:Int):=by omega
    generalize hmj:K+j=MJ at E G hn Z R z;clear hmj z G Z R y;go_upto_region 15 with(fail);clear hL O E o hh;have kC:=V.cell
    go_wp2_with (first | (refine ay _ 0 _ V.rd _ underlying41 rfl store_size ?_) | (refine ax _ _ (w.heap.size+1) _ H store_size (G:=jP _ _ _ _) ?_))
    intro wf kc hs;have kn:=N.keep H (by decide) (by decide) hs;have hC:=L.grown hs L.size oG0;go_wp2;refine bodyPost_ret (v:=.tuple #[.agg #[.slice _ _ _,.int .i64 k],.int .i64 0]) (dH results189 (w.heap.size+1) kc underlying41 store_size) rfl ?_;exact⟨_,_,_,by rw[hz.out],kn,hW.out,hC⟩
  | some ad=>
   by_cases hKl:K<=A.length
   ·have gb:min (K:Int) (A.length:Int)=(K:Int):=by omega
    go_region
    refine Bc (λW=>Exit.then _ _ _ _ W) f λw6 d hX => ?_;have U:=ae (show((A).take (K)).length=K by rw[eG];omega);have hG:mo w6 w.heap.size (.slice (some ⟨g,D,none⟩) C.length cv) ((C.set F ⟨n,some ad,A,I⟩).set F ⟨n,some ad,(A).take (K),I⟩):=hg w6 (some ad) ((A).take (K)) I (by rw[U.out];exact hX) d (by
     have M:=Own.take1 (m:=K) x (by show _<=(A).length;omega);rw[U.out,wO];exact M) (λj r hj H=>by
     have kg:Apart (rY ⟨n,some ad,A,I⟩) (rY r):=by
      rcases rO hj with J|J
      ·exact(hM.apart j F r _ J H hI).symm
      ·exact hM.apart F j _ r J hI H
     intro g' kk ke;exact kg g' (by simpa[rY,Value.ownBlock]using kk) ke)
    have b:Hid (((C.set F ⟨n,some ad,A,I⟩).set F ⟨n,some ad,(A).take (K),I⟩).map PF.fi=(C.map PF.fi).set F ⟨n,(A).take (K)++List.replicate 0 (-1)⟩):=ae (by rw[nO,nO,pO];simp[PF.fi]);have hB:Hid (((C.set F ⟨n,some ad,A,I⟩).set F ⟨n,some ad,(A).take (K),I⟩)[F]?=some ⟨n,some ad,(A).take (K)++List.replicate 0 (-1),I⟩):=ae (by rw[oD (by rw[bV];exact kq)];simp);have hS:=ka.grown d (λe=>hU (aU e).symm);have t:=aG hm f d;have hb:=p.grown d p.size (λk S=>by cases S;exact kp);generalize (C.set F ⟨n,some ad,A,I⟩).set F ⟨n,some ad,(A).take (K),I⟩=rs at hG b hB;clear f hM ka hm p hI kJ hg hL kL e0 e1 x d hX hY;have kW:=ae hq;clear hq
    try clear hN
    go_upto_region 13 with(fail)
    go_loopg [62] K (fun gh s62 wr => ∃(j:Nat) (a' : Option Addr) (c' : Nat) (rs:List PF),K-(K+j)<=gh/\K+j<=K/\Below w.heap.size w wr/\aK wr gd #[.slice (some ⟨g,D,none⟩) C.length cv,.int .i64 k] 41/\aK wr (w.heap.size+1) #[.slice none 0 0,.int .i64 0] 41/\mo wr w.heap.size (.slice (some ⟨g,D,none⟩) C.length cv) rs/\Hid (rs.map PF.fi=(C.map PF.fi).set F ⟨n,(A).take (K)++List.replicate j (-1)⟩)/\Hid (rs[F]?=some ⟨n,a',(A).take (K)++List.replicate j (-1),c'⟩))
    case atStart=>exact⟨0,_,_,rs,by omega,by omega,hb,hS,t,hG,b,hB⟩
    case round=>
     clear hb hS t hG b hB;obtain⟨j,a',c',rs,R,Z,L,V,H,N,b,X⟩:=hrel;obtain⟨g8,off8,cap8,cur8,hP,kH,o,hh,O,E,_,_⟩:=N.file X.out;simp only[iW,fM,mD,and_true]at hP;obtain⟨⟨rfl,rfl⟩,Y,rfl⟩:=hP;clear Y;have z:((A).take (K)++List.replicate j (-1)).length=K+j:=by rw[fI,U.out,mY]
     have y:=N.each F _ X.out;simp only[z]at E;have hL:=o.cell
     by_cases G:K+j<K
     ·skip;exact absurd G (by omega)
     have hW:Hid (bD rs k=jU (bD ps k) F n):=ae (by
      have ki:j=K-K:=by omega
      unfold jU nW;rw[if_neg (by rw[hz.out];simp),kK.out,kO.out,bu,bu];unfold bD;simp only;rw[b.out,kI.out,ki];congr 2;unfold lG PF.fi;simp only[Fi.mk.injEq,true_and];rw[yU,show K-A.length=0 from by omega])
     have hn : ¬(((K+j:Nat):Int))<(K:Int):=by omega
     generalize hmj:K+j=MJ at E G hn Z R z;clear hmj z G Z R y;go_upto_region 15 with(fail);clear hL O E o hh;have kC:=V.cell
     go_wp2_with (first | (refine ay _ 0 _ V.rd _ underlying41 rfl store_size ?_) | (refine ax _ _ (w.heap.size+1) _ H store_size (G:=jP _ _ _ _) ?_))
     intro wf kc hs;have kn:=N.keep H (by decide) (by decide) hs;have hC:=L.grown hs L.size oG0;go_wp2;refine bodyPost_ret (v:=.tuple #[.agg #[.slice _ _ _,.int .i64 k],.int .i64 0]) (dH results189 (w.heap.size+1) kc underlying41 store_size) rfl ?_;exact⟨_,_,_,by rw[hz.out],kn,hW.out,hC⟩
   have gb:min (K:Int) (A.length:Int)=(A.length:Int):=by omega
   go_region
   refine Bc (λW=>Exit.then _ _ _ _ W) f λw6 d hX => ?_;have U:=ae (show((A).take (A.length)).length=A.length by rw[eG];omega);have hG:mo w6 w.heap.size (.slice (some ⟨g,D,none⟩) C.length cv) ((C.set F ⟨n,some ad,A,I⟩).set F ⟨n,some ad,(A).take (A.length),I⟩):=hg w6 (some ad) ((A).take (A.length)) I (by rw[U.out];exact hX) d (by
    have M:=Own.take1 (m:=A.length) x (by show _<=(A).length;omega);rw[U.out,wO];exact M) (λj r hj H=>by
    have kg:Apart (rY ⟨n,some ad,A,I⟩) (rY r):=by
     rcases rO hj with J|J
     ·exact(hM.apart j F r _ J H hI).symm
     ·exact hM.apart F j _ r J hI H
    intro g' kk ke;exact kg g' (by simpa[rY,Value.ownBlock]using kk) ke)
   have b:Hid (((C.set F ⟨n,some ad,A,I⟩).set F ⟨n,some ad,(A).take (A.length),I⟩).map PF.fi=(C.map PF.fi).set F ⟨n,(A).take (A.length)++List.replicate 0 (-1)⟩):=ae (by rw[nO,nO,pO];simp[PF.fi]);have hB:Hid (((C.set F ⟨n,some ad,A,I⟩).set F ⟨n,some ad,(A).take (A.length),I⟩)[F]?=some ⟨n,some ad,(A).take (A.length)++List.replicate 0 (-1),I⟩):=ae (by rw[oD (by rw[bV];exact kq)];simp);have hS:=ka.grown d (λe=>hU (aU e).symm);have t:=aG hm f d;have hb:=p.grown d p.size (λk S=>by cases S;exact kp);generalize (C.set F ⟨n,some ad,A,I⟩).set F ⟨n,some ad,(A).take (A.length),I⟩=rs at hG b hB;clear f hM ka hm p hI kJ hg hL kL e0 e1 x d hX hY;have kW:=ae hq;clear hq
   try clear hN
   go_upto_region 13 with(fail)
   go_loopg [62] K (fun gh s62 wr => ∃(j:Nat) (a' : Option Addr) (c' : Nat) (rs:List PF),K-(A.length+j)<=gh/\A.length+j<=K/\Below w.heap.size w wr/\aK wr gd #[.slice (some ⟨g,D,none⟩) C.length cv,.int .i64 k] 41/\aK wr (w.heap.size+1) #[.slice none 0 0,.int .i64 0] 41/\mo wr w.heap.size (.slice (some ⟨g,D,none⟩) C.length cv) rs/\Hid (rs.map PF.fi=(C.map PF.fi).set F ⟨n,(A).take (A.length)++List.replicate j (-1)⟩)/\Hid (rs[F]?=some ⟨n,a',(A).take (A.length)++List.replicate j (-1),c'⟩))
   case atStart=>exact⟨0,_,_,rs,by omega,by omega,hb,hS,t,hG,b,hB⟩
   case round=>
    clear hb hS t hG b hB;obtain⟨j,a',c',rs,R,Z,L,V,H,N,b,X⟩:=hrel;obtain⟨g8,off8,cap8,cur8,hP,kH,o,hh,O,E,_,_⟩:=N.file X.out;simp only[iW,fM,mD,and_true]at hP;obtain⟨⟨rfl,rfl⟩,Y,rfl⟩:=hP;clear Y;have z:((A).take (A.length)++List.replicate j (-1)).length=A.length+j:=by rw[fI,U.out,mY]
    have y:=N.each F _ X.out;simp only[z]at E;have hL:=o.cell
    by_cases G:A.length+j<K
    ·skip;have hn : (((A.length+j:Nat):Int))<(K:Int):=by omega
     have i:Own wr w.heap.size 3 1 (.slice a' (A.length+j) c') (A.length+j) (((A).take (A.length)++List.replicate j (-1)).map ib):=by have M:=y;unfold rY at M;simp only[z]at M;exact M
     generalize hmj:A.length+j=MJ at E G hn i Z R z;have hT:=ae hmj;have kA:=ae z;clear hmj z;go_upto_region 15 with(at_builtin;(refine nk rfl (.tmp 73) (.tmp 74) 33 rfl w.heap.size 3 (.int .i64 0) 1 8 underlying33 int_info rfl _ _ _ rfl (i.alloc _) (some ⟨wr.heap.size,0,none⟩) 1 1 [ib (-1)] rfl (λh=>(by cases h)) (aC _) rfl (eD.one _ _ _) (zx _ _) (by unfold maxLen;omega) (by omega) (eO L.size) ?_));intro v9 w9 kh hw h7;obtain⟨a9,c9,rfl,_⟩:=kh.rd;have hD:=L.alloc L.size (.cells #[.int .i64 (-1)] 3);have kG:=N.below ((Below.refl _ _).alloc (aC _) (.cells #[.int .i64 (-1)] 3));have ky:=V.alloc (.cells #[.int .i64 (-1)] 3);have kv:=H.alloc (.cells #[.int .i64 (-1)] 3);have h2:((A).take (A.length)++List.replicate (j+1) (-1)).length=MJ+1:=by rw[fI,U.out,mY];have:=hT.out;omega
     have kB:=ae h2;have kz:(A).take (A.length)++List.replicate (j+1) (-1)=((A).take (A.length)++List.replicate j (-1))++[-1]:=by rw[JM,lF]
     have kf:rY ⟨n,a',(A).take (A.length)++List.replicate j (-1),c'⟩ = .slice a' MJ c':=by unfold rY;simp only[kA.out]
     have kj:=kG.grow X.out (a':=a9) (l':=(A).take (A.length)++List.replicate (j+1) (-1)) (c':=c9) (by rw[h2,kz];simpa using kh) (by rw[kf];exact hw) (by rw[kf,h2];exact h7);obtain⟨g3,off3,cap3,cur3,ks,k5,hi,hV,e03,e13,hQ⟩:=kj;simp only[iW,fM,mD,and_true]at ks;obtain⟨⟨rfl,rfl⟩,Y,rfl⟩:=ks;clear Y;have h8:=kS ky (i.alloc (.cells #[.int .i64 (-1)] 3)) (by decide) hw;have kw:=kS kv (i.alloc (.cells #[.int .i64 (-1)] 3)) (by decide) hw;have hE:=hD.grown hw hD.size (λk S=>i.ge k S);have gf:=L;clear hD kG ky kv N V H L hL O E o hh y i kh hw h7;have kZ:Hid (A.length+(j+1)<=K):=ae (by have:=hT.out;omega);have kY:=ae (jq (show K-(A.length+(j+1))<K-MJ by have:=hT.out;omega) R);have kD:=hi.cell;clear h2 kz kf G Z R;go_upto_region 15 with(refine aY g (D+F*2+1) [.slice a9 (MJ+1) c9] rfl rfl rfl _ _ hi (Nat.le_of_lt_succ (Nat.lt_succ_of_le hV)) slint_size (λu hu=>by cases bF.1 hu;rfl) ?_);intro wA kF ht;have k3:=hQ wA (by rw[kB.out];exact kF) ht;have kX:=h8.grown ht (λe=>hU (aU e).symm);have kR:=aG kw hi ht;have kl:=hE.grown ht hE.size (λk S=>by cases S;exact k5);have kx:Hid ((rs.set F ⟨n,a9,(A).take (A.length)++List.replicate (j+1) (-1),c9⟩).map PF.fi=(C.map PF.fi).set F ⟨n,(A).take (A.length)++List.replicate (j+1) (-1)⟩):=ae (by rw[nO,b.out,pO];rfl);have k0:Hid ((rs.set F ⟨n,a9,(A).take (A.length)++List.replicate (j+1) (-1),c9⟩)[F]?=some ⟨n,a9,(A).take (A.length)++List.replicate (j+1) (-1),c9⟩):=ae (oD (dw.1 X.out).1);clear kD e03 e13 h8 kw hE hi hQ kF ht hV;go_wp2
     go_roundg (K-(A.length+(j+1)))
     case measure=>exact kY.out
     case rel=>exact⟨j+1,a9,c9,_,aC _,kZ.out,kl,kX,kR,k3,kx,k0⟩
    have hW:Hid (bD rs k=jU (bD ps k) F n):=ae (by
     have ki:j=K-A.length:=by omega
     unfold jU nW;rw[if_neg (by rw[hz.out];simp),kK.out,kO.out,bu,bu];unfold bD;simp only;rw[b.out,kI.out,ki];congr 2;unfold lG PF.fi;simp only[Fi.mk.injEq,true_and];rw[mE (aC _),mE (show A.length<=K by omega)])
    have hn : ¬(((A.length+j:Nat):Int))<(K:Int):=by omega
    generalize hmj:A.length+j=MJ at E G hn Z R z;clear hmj z G Z R y;go_upto_region 15 with(fail);clear hL O E o hh;have kC:=V.cell
    go_wp2_with (first | (refine ay _ 0 _ V.rd _ underlying41 rfl store_size ?_) | (refine ax _ _ (w.heap.size+1) _ H store_size (G:=jP _ _ _ _) ?_))
    intro wf kc hs;have kn:=N.keep H (by decide) (by decide) hs;have hC:=L.grown hs L.size oG0;go_wp2;refine bodyPost_ret (v:=.tuple #[.agg #[.slice _ _ _,.int .i64 k],.int .i64 0]) (dH results189 (w.heap.size+1) kc underlying41 store_size) rfl ?_;exact⟨_,_,_,by rw[hz.out],kn,hW.out,hC⟩
 have q0:Hid _:=ae (Gt (s:=bD ps k) (k:=file) (n:=n) (e:=aQ (bD ps k)) (by unfold jE;rw[if_pos h0]) h0);have gA : (aQ (bD ps k) != 0)=true:=by simpa using h0
 clear h0
 go_wp2_with (refine ax _ _ (w.heap.size+1) #[.slice none 0 0,.int .i64 0] hR store_size (G:=jP none 0 0 0) ?_)
 all_goals
  intro w5 hZ hJ;have hl:Below w.heap.size w w5:=hc.grown hJ hc.size oG0;go_wp2;refine bodyPost_ret (v:=.tuple #[.agg #[.slice none 0 0,.int .i64 0],.int .i64 (aQ (bD ps k))]) (dH results189 (w.heap.size+1) hZ underlying41 store_size) rfl ?_;have q:=q0.out;exact⟨_,_,_,by rw[q.1],mo.nil _ _,by rw[q.2];rfl,hl⟩
def lW(a:Ar):Array Value:=#[.int .i64 a.fr,.int .i64 a.en,.bool a.rd,.bool a.wr,.bool a.sh,.int .i64 a.fi,.int .i64 a.ba]
def fZ(a:Ar):List Value:=(lW a).toList
theorem jZ(a:Ar):(fZ a).length=7:=rfl
theorem area_size:(Tryz.prog.info? 94).map (·.size)=some 7:=by kernel_rfl
theorem area_info:(Tryz.prog.info? 94).map (λi=>(i.zero,i.size,i.bytes))=some (some (.agg #[.int .i64 0,.int .i64 0,.bool false,.bool false,.bool false,.int .i64 0,.int .i64 0]),7,40):=by kernel_rfl
def Af(w:World)(b o:Nat)(a:Ar):Prop:=∀j u,(fZ a)[j]?=some u->w.cell? ⟨b,o+j,none⟩=some u
theorem Af.below{o:Nat}{a:Ar}(h:Af w b o a)(f:Below w.heap.size w w'):Af w' b o a:=λj u d=>cell_later f (h j u d)
theorem Af.cells{o:Nat}{a:Ar}(h:Af w b o a):w.cell? ⟨b,o,none⟩=some (.int .i64 a.fr)/\w.cell? ⟨b,o+1,none⟩=some (.int .i64 a.en)/\w.cell? ⟨b,o+2,none⟩=some (.bool a.rd)/\w.cell? ⟨b,o+3,none⟩=some (.bool a.wr) /\
  w.cell? ⟨b,o+4,none⟩=some (.bool a.sh)/\w.cell? ⟨b,o+5,none⟩=some (.int .i64 a.fi)/\w.cell? ⟨b,o+6,none⟩=some (.int .i64 a.ba):=
 ⟨h 0 _ rfl,h 1 _ rfl,h 2 _ rfl,h 3 _ rfl,h 4 _ rfl,h 5 _ rfl,h 6 _ rfl⟩
theorem Ml(b o:Nat)(a:Ar)(w:World)(h:Af w b o a) :
  Calls Tryz.prog 169 #[.pointer (some ⟨b,o,none⟩)] w λe w'=>e = .returned (.int .i64 (dM a))/\Below w.heap.size w w':=by
 obtain⟨H,G,F,E,D,C,A⟩:=h.cells;go_enter func169,ntmps169;go_upto_region 1 with(fail)
 by_cases N:a.fr<0
 ·have j:Hid (dM a=3):=ae (by unfold dM;rw[if_pos (by omega)]);go_quiet (fail);go_wp2;go_ret;exact⟨bI j.out.symm,below_drewN (Below.refl _ _) _⟩
 by_cases M:a.en<=a.fr
 ·have j:Hid (dM a=3):=ae (by unfold dM;rw[if_pos (by omega)]);go_quiet (fail);go_wp2;go_ret;exact⟨bI j.out.symm,below_drewN (Below.refl _ _) _⟩
 by_cases L:64<a.en
 ·have j:Hid (dM a=3):=ae (by unfold dM;rw[if_pos (by omega)]);go_quiet (fail);go_wp2;go_ret;exact⟨bI j.out.symm,below_drewN (Below.refl _ _) _⟩
 by_cases K:a.fi < -1
 ·have j:Hid (dM a=3):=ae (by unfold dM;rw[if_pos (by omega)]);go_quiet (fail);go_wp2;go_ret;exact⟨bI j.out.symm,below_drewN (Below.refl _ _) _⟩
 by_cases J:5<=a.fi
 ·have j:Hid (dM a=3):=ae (by unfold dM;rw[if_pos (by omega)]);go_quiet (fail);go_wp2;go_ret;exact⟨bI j.out.symm,below_drewN (Below.refl _ _) _⟩
 by_cases I:a.ba<0
 ·have j:Hid (dM a=3):=ae (by unfold dM;rw[if_pos (by omega)]);go_quiet (fail);go_wp2;go_ret;exact⟨bI j.out.symm,below_drewN (Below.refl _ _) _⟩
 have c:¬(a.fr<0\/a.en<=a.fr\/64<a.en\/a.fi < -1\/5<=a.fi\/a.ba<0):=by omega
 have f:IntKind.i64.wrap (a.en-a.fr)=a.en-a.fr:=dz _ (by omega);have d:IntKind.i64.wrap (12-(a.en-a.fr))=12-(a.en-a.fr):=dz _ (by omega);go_quiet (fail)
 by_cases s:a.fi<0
 ·by_cases m:a.ba=0
  ·cases f3:a.sh
   ·have j:Hid (dM a=0):=ae (by unfold dM;rw[if_neg c,if_neg (by rw[f3];simp;omega)]);go_upto_region 4 with(fail);have y:decide (0<=a.fi)=false:=decide_eq_false (by omega);go_quiet (fail);go_wp2;go_ret;exact⟨bI j.out.symm,below_drewN (Below.refl _ _) _⟩
   have j:Hid (dM a=7):=ae (by unfold dM;rw[if_neg c,if_pos (.inl ⟨s,.inr f3⟩)]);go_wp2;go_ret;exact⟨bI j.out.symm,below_drewN (Below.refl _ _) _⟩
  have j:Hid (dM a=7):=ae (by unfold dM;rw[if_neg c,if_pos (.inl ⟨s,.inl m⟩)]);have z : (a.ba != 0)=true:=by simpa using m
  go_wp2;go_ret;exact⟨bI j.out.symm,below_drewN (Below.refl _ _) _⟩
 have q : 0<=a.fi:=by omega
 by_cases m:12-(a.en-a.fr)<a.ba
 ·have j:Hid (dM a=7):=ae (by unfold dM;rw[if_neg c,if_pos (.inr ⟨q,m⟩)]);go_upto_region 4 with(fail);have y:decide (0<=a.fi)=true:=decide_eq_true (by omega);go_quiet (fail);go_wp2;go_ret;exact⟨bI j.out.symm,below_drewN (Below.refl _ _) _⟩
 have j:Hid (dM a=0):=ae (by unfold dM;rw[if_neg c,if_neg (by omega)]);go_upto_region 4 with(fail);have y:decide (0<=a.fi)=true:=decide_eq_true (by omega);go_quiet (fail);go_wp2;go_ret;exact⟨bI j.out.symm,below_drewN (Below.refl _ _) _⟩
theorem CV(p q p' q' : Nat)(a b:Ar)(w:World)(h:Af w p q a)(h' : Af w p' q' b)(m:uG a) :
  Calls Tryz.prog 170 #[.pointer (some ⟨p,q,none⟩),.pointer (some ⟨p',q',none⟩)] w λe w'=>e = .returned (.bool (eu a b))/\Below w.heap.size w w':=by
 obtain⟨N,M,L,K,J,I,H⟩:=h.cells;obtain⟨G,k1,F,E,D,C,A⟩:=h'.cells;obtain⟨z,y,s⟩:=m;have d:IntKind.i64.wrap (a.ba+a.en)=a.ba+a.en:=dz _ (by omega);have c:IntKind.i64.wrap (a.ba+a.en-a.fr)=a.ba+a.en-a.fr:=dz _ (by omega);go_enter func170,ntmps170
 by_cases j:0<=a.fi
 ·go_upto_region 3 with(fail);go_quiet (fail);go_upto_region 4 with(fail);cases g1:(a.en==b.fr)
  ·have f:Hid (eu a b=false):=ae (by unfold eu mI;rw[if_pos j];simp only[g1,mg,mX,ng,qh]);go_quiet (fail);go_wp2;go_ret;exact⟨cB f.out.symm,by first | exact below_drewN (Below.refl _ _) _ | exact below_drewN (below_drewN (Below.refl _ _) _) _⟩
  cases g2:(a.rd==b.rd)
  ·have f:Hid (eu a b=false):=ae (by unfold eu mI;rw[if_pos j];simp only[g1,g2,mg,mX,ng,qh]);go_quiet (fail);go_wp2;go_ret;exact⟨cB f.out.symm,by first | exact below_drewN (Below.refl _ _) _ | exact below_drewN (below_drewN (Below.refl _ _) _) _⟩
  cases g3:(a.wr==b.wr)
  ·have f:Hid (eu a b=false):=ae (by unfold eu mI;rw[if_pos j];simp only[g1,g2,g3,mg,mX,ng,qh]);go_quiet (fail);go_wp2;go_ret;exact⟨cB f.out.symm,by first | exact below_drewN (Below.refl _ _) _ | exact below_drewN (below_drewN (Below.refl _ _) _) _⟩
  cases g4:(a.sh==b.sh)
  ·have f:Hid (eu a b=false):=ae (by unfold eu mI;rw[if_pos j];simp only[g1,g2,g3,g4,mg,mX,ng,qh]);go_quiet (fail);go_wp2;go_ret;exact⟨cB f.out.symm,by first | exact below_drewN (Below.refl _ _) _ | exact below_drewN (below_drewN (Below.refl _ _) _) _⟩
  cases g5:(a.fi==b.fi)
  ·have f:Hid (eu a b=false):=ae (by unfold eu mI;rw[if_pos j];simp only[g1,g2,g3,g4,g5,mg,mX,ng,qh]);go_quiet (fail);go_wp2;go_ret;exact⟨cB f.out.symm,by first | exact below_drewN (Below.refl _ _) _ | exact below_drewN (below_drewN (Below.refl _ _) _) _⟩
  cases g6:(b.ba==(a.ba+a.en-a.fr))
  ·have f:Hid (eu a b=false):=ae (by unfold eu mI;rw[if_pos j];simp only[g1,g2,g3,g4,g5,g6,mg,mX,ng,qh]);go_quiet (fail);go_wp2;go_ret;exact⟨cB f.out.symm,by first | exact below_drewN (Below.refl _ _) _ | exact below_drewN (below_drewN (Below.refl _ _) _) _⟩
  have f:Hid (eu a b=true):=ae (by unfold eu mI;rw[if_pos j];simp only[g1,g2,g3,g4,g5,g6,mg,mX,ng,qh]);go_quiet (fail);go_wp2;go_ret;exact⟨cB f.out.symm,by first | exact below_drewN (Below.refl _ _) _ | exact below_drewN (below_drewN (Below.refl _ _) _) _⟩
 go_upto_region 4 with(fail);cases g1:(a.en==b.fr)
 ·have f:Hid (eu a b=false):=ae (by unfold eu mI;rw[if_neg j];simp only[g1,mg,mX,ng,qh]);go_quiet (fail);go_wp2;go_ret;exact⟨cB f.out.symm,by first | exact below_drewN (Below.refl _ _) _ | exact below_drewN (below_drewN (Below.refl _ _) _) _⟩
 cases g2:(a.rd==b.rd)
 ·have f:Hid (eu a b=false):=ae (by unfold eu mI;rw[if_neg j];simp only[g1,g2,mg,mX,ng,qh]);go_quiet (fail);go_wp2;go_ret;exact⟨cB f.out.symm,by first | exact below_drewN (Below.refl _ _) _ | exact below_drewN (below_drewN (Below.refl _ _) _) _⟩
 cases g3:(a.wr==b.wr)
 ·have f:Hid (eu a b=false):=ae (by unfold eu mI;rw[if_neg j];simp only[g1,g2,g3,mg,mX,ng,qh]);go_quiet (fail);go_wp2;go_ret;exact⟨cB f.out.symm,by first | exact below_drewN (Below.refl _ _) _ | exact below_drewN (below_drewN (Below.refl _ _) _) _⟩
 cases g4:(a.sh==b.sh)
 ·have f:Hid (eu a b=false):=ae (by unfold eu mI;rw[if_neg j];simp only[g1,g2,g3,g4,mg,mX,ng,qh]);go_quiet (fail);go_wp2;go_ret;exact⟨cB f.out.symm,by first | exact below_drewN (Below.refl _ _) _ | exact below_drewN (below_drewN (Below.refl _ _) _) _⟩
 cases g5:(a.fi==b.fi)
 ·have f:Hid (eu a b=false):=ae (by unfold eu mI;rw[if_neg j];simp only[g1,g2,g3,g4,g5,mg,mX,ng,qh]);go_quiet (fail);go_wp2;go_ret;exact⟨cB f.out.symm,by first | exact below_drewN (Below.refl _ _) _ | exact below_drewN (below_drewN (Below.refl _ _) _) _⟩
 cases g6:(b.ba==0)
 ·have f:Hid (eu a b=false):=ae (by unfold eu mI;rw[if_neg j];simp only[g1,g2,g3,g4,g5,g6,mg,mX,ng,qh]);go_quiet (fail);go_wp2;go_ret;exact⟨cB f.out.symm,by first | exact below_drewN (Below.refl _ _) _ | exact below_drewN (below_drewN (Below.refl _ _) _) _⟩
 have f:Hid (eu a b=true):=ae (by unfold eu mI;rw[if_neg j];simp only[g1,g2,g3,g4,g5,g6,mg,mX,ng,qh]);go_quiet (fail);go_wp2;go_ret;exact⟨cB f.out.symm,by first | exact below_drewN (Below.refl _ _) _ | exact below_drewN (below_drewN (Below.refl _ _) _) _⟩
theorem VI{l:List Ar}(h:eD w a (l.flatMap fZ))(k:Nat)(d:k<l.length):∃b off,a=some ⟨b,off,none⟩/\Af w b (off+k*7) l[k]:=h.elem jZ (by decide) k d
theorem WI{l:List Ar}(h:eD w (some ⟨b,off,none⟩) (l.flatMap fZ))(k:Nat)(f:k<l.length):Af w b (off+k*7) l[k]:=by
 obtain⟨m,d,e,j⟩:=VI h k f;cases e;exact j
def Xa(e:Int × Int):Array Value:=#[.int .i64 e.1,.int .i64 e.2]
theorem fau_size:(Tryz.prog.info? 180).map (·.size)=some 2:=by kernel_rfl
theorem zw(x y:Int):(#[Value.int .i64 x,Value.int .i64 y]:Array Value).all (·.oneCell')=true:=by simp[Value.oneCell']
theorem Gh(l:List Ar)(a:Option Addr)(c:Nat)(w:World)(hrd:eD w a (l.flatMap fZ))(hl:l.length<=9223372036854775807) :
  Calls Tryz.prog 129 #[.slice a l.length c] w λe w'=>e = .returned (.agg (Xa (dY l)))/\Below w.heap.size w w':=by
 go_enter func129,ntmps129;go_upto_region 1 with(fail);refine iP (λW=>Code.wp _ _ _ _ W) λW0 d g hV => ?_;clear hV
 by_cases F:16<l.length
 ·have hT : (16:Int)<(l.length:Int):=by omega
  have J:Hid (dY l=(4,0)):=ae (by unfold dY;rw[if_pos F])
  go_wp2_with (refine ax _ _ w.heap.size #[.int .i64 (4),.int .i64 (0)] g fau_size (G:=zw _ _) ?_)
  intro I t p;have o:Below w.heap.size w I:=d.grown p d.size (λk H=>by cases H;exact aC _);go_wp2;refine bodyPost_ret (v:=.agg #[.int .i64 (4),.int .i64 (0)]) (aP results129 w.heap.size t underlying180 fau_size) rfl ?_;exact⟨by rw[J.out];rfl,o⟩
 have hT : ¬(16:Int)<(l.length:Int):=by omega
 have h0:Hid (dY l=mM (wE l 0) 0 (l.drop 0)):=ae (by unfold dY;rw[if_neg F];rfl);go_upto_region 4 with(fail)
 go_loopw [11] (fun i wr => ∃k:Nat,k<=l.length/\i = .int .i64 k/\Below w.heap.size w wr/\aK wr w.heap.size #[.int .i64 0,.int .i64 0] 180/\(∀i (h:i<l.length),i<k->dM l[i]=0)/\Hid (dY l=mM (wE l k) k (l.drop k))) (fun i _=>l.length-(intOf i).toNat)
 case atStart=>exact⟨0,bN _,rfl,d,g,λi _ h=>absurd h (ig _),h0⟩
 case round=>
  clear d g h0;obtain⟨k,H,rfl,d,g,hQ,z⟩:=hrel;have hp:=ae hQ;clear hQ
  by_cases C:k<l.length
  ·obtain⟨b,off,rfl,hA⟩:=VI (hrd.below d) k C;have hX:(k:Int)<(l.length:Int):=by omega
   go_wp2_with fail
   refine(Ml b (off+k*7) l[k] _ hA).mono ?_;rintro r w2 ⟨rfl,hD⟩;have j:=ah d hD;have n:=g.ext hD;clear d g hD hA
   by_cases N:dM l[k]=0
   ·have u:=ae N;rw[N];clear N;go_upto_region 9 with(fail)
    by_cases hk0:k=0
    ·subst hk0;have hW:decide ((0:Int)<((0:Nat):Int))=false:=rfl;have hB:Hid (dY l=mM (wE l (0+1)) (0+1) (l.drop (0+1))):=ae (by rw[z.out];exact FW C u.out rfl);go_quiet (fail);go_wp2;go_roundw
     case rel=>exact⟨0+1,by omega,by go_num,below_drewN j _,n.drewN _,oO hp.out C u.out,hB⟩
     case measure=>simp[intOf];omega
    obtain⟨m,rfl⟩:∃m,k=m+1:=⟨k-1,by omega⟩;have hW:decide ((0:Int)<((m+1:Nat):Int))=true:=decide_eq_true (by omega);have O:IntKind.i64.wrap (((m+1:Nat):Int)-1)=(m:Int):=by rw[dz _ (by omega)];omega
    have x:m<l.length:=by omega
    have R:IntKind.i64.wrap (m:Int)=(m:Int):=dz _ (by omega);have K:(0:Int)<=(m:Int)+1:=by omega
    have L:(m:Int)+1<(l.length:Int):=by omega
    have M:((m:Int)+1).toNat=m+1:=by omega
    have hC:=ae (VU C);have hR:=(gN (hp.out m x (by omega))).1;have hY:=(gN u.out).1;have hS:=hrd.below j;have hm:=WI hS (m+1) C;have hi:=WI hS m x;generalize hA1:l[m+1]=A1 at *
    generalize hA0:l[m]=A0 at *
    by_cases G:A1.fr<A0.en
    ·have J:Hid (dY l=(2,((m+1:Nat):Int))):=ae (by rw[z.out];exact GL C (by rw[hA1];exact u.out) (by rw[hA1,hC.out,decide_eq_true G];rfl));refine aR 26 [_,_,_,_,_,_,.v (.pointer (some ⟨b,off+m*7,none⟩)),_,.v (.int .i64 A0.en),_,_,.v (.pointer (some ⟨b,off+(m+1)*7,none⟩)),_,.v (.int .i64 A1.fr),_,_,_,_,_,_,_,_,_,_,_,.v (.bool true)] (Gk rfl (Gb (.bool true) (by simp[go_sem]) rfl rfl rfl rfl rfl (Gk rfl (Gk rfl (Gk rfl (Gb (.int .i64 (m:Int)) (by simp[go_sem,O,R]) rfl rfl rfl rfl rfl (aj ?_ (Gf b (off+m*7+1) rfl rfl (aj ?_ (Gk rfl (Gk rfl (aj ?_ (Gf b (off+(m+1)*7) rfl rfl (aj ?_ (Gb (.bool true) (by simp[go_sem,G]) rfl rfl rfl rfl rfl (Gk rfl (Gk rfl (Gk rfl (Gk rfl (Gk rfl (Gk rfl (Gk rfl (Gk rfl (Gk rfl (Gk rfl (Gk rfl (aH))))))))))))))))))))))))))) (λ_=>rfl) rfl ?_
     ·intro ρ y W f E D A;have S:=f 26 3 rfl;have h3:y 3=_:=A 3 rfl;have U:=f 28 5 rfl;have h5:y 5=_:=A 5 rfl;refine ak (.pointer (some ⟨b,off+m*7,none⟩)) (h:=(ic 2 25 true true ((f 25 2 rfl).trans (A 2 rfl)))) (by simp[execOp,go_sem,S,h3,U,h5,x])
     ·intro ρ y W f E D A;have V:=f 30 7 rfl;have h7:y 7=_:=A 7 rfl;have s:=(hi.below D).cells.2.1;refine ak (.int .i64 A0.en) (h:=(ic 2 25 true true ((f 25 2 rfl).trans (A 2 rfl)))) (by simp[execOp,go_sem,V,h7,s])
     ·intro ρ y W f E D A;have X:=f 32 9 rfl;have h9:y 9=_:=A 9 rfl;have Y:=f 33 10 rfl;have hr:y 10=_:=A 10 rfl;refine ak (.pointer (some ⟨b,off+(m+1)*7,none⟩)) (h:=(ic 2 25 true true ((f 25 2 rfl).trans (A 2 rfl)))) (by simp[execOp,go_sem,X,h9,Y,hr,C,K,L,M])
     ·intro ρ y W f E D A;have Z:=f 35 12 rfl;have hq:y 12=_:=A 12 rfl;have s:=(hm.below D).cells.1;refine ak (.int .i64 A1.fr) (h:=(ic 2 25 true true ((f 25 2 rfl).trans (A 2 rfl)))) (by simp[execOp,go_sem,Z,hq,s])
     intro y WA q _;have d:=ah j q;have g:=n.ext q;clear j n
     go_wp2_with (refine ax _ _ w.heap.size #[.int .i64 (2),.int .i64 (((m+1:Nat):Int))] g fau_size (G:=zw _ _) ?_)
     intro I t p;have o:Below w.heap.size w I:=d.grown p d.size (λk H=>by cases H;exact aC _);go_wp2;refine bodyPost_ret (v:=.agg #[.int .i64 (2),.int .i64 (((m+1:Nat):Int))]) (aP results129 w.heap.size t underlying180 fau_size) rfl ?_;exact⟨by rw[J.out];rfl,o⟩
    cases hj:eu A0 A1
    ·have hB:Hid (dY l=mM (wE l (m+1+1)) (m+1+1) (l.drop (m+1+1))):=ae (by rw[z.out];exact FW C (by rw[hA1];exact u.out) (by rw[hA1,hC.out,decide_eq_false G,hj];rfl));refine aR 26 [_,_,_,_,_,_,.v (.pointer (some ⟨b,off+m*7,none⟩)),_,.v (.int .i64 A0.en),_,_,.v (.pointer (some ⟨b,off+(m+1)*7,none⟩)),_,.v (.int .i64 A1.fr),_,_,_,_,_,.v (.pointer (some ⟨b,off+m*7,none⟩)),_,_,.v (.pointer (some ⟨b,off+(m+1)*7,none⟩)),.v (.bool false),_,.v (.bool false)] (Gk rfl (Gb (.bool true) (by simp[go_sem]) rfl rfl rfl rfl rfl (Gk rfl (Gk rfl (Gk rfl (Gb (.int .i64 (m:Int)) (by simp[go_sem,O,R]) rfl rfl rfl rfl rfl (aj ?_ (Gf b (off+m*7+1) rfl rfl (aj ?_ (Gk rfl (Gk rfl (aj ?_ (Gf b (off+(m+1)*7) rfl rfl (aj ?_ (Gb (.bool false) (by simp[go_sem,G]) rfl rfl rfl rfl rfl (Gk rfl (Gk rfl (Gk rfl (Gb (.int .i64 (m:Int)) (by simp[go_sem,O,R]) rfl rfl rfl rfl rfl (aj ?_ (Gk rfl (Gk rfl (aj ?_ (aj ?_ (Gk rfl (Gk rfl (aH))))))))))))))))))))))))))) (λ_=>rfl) rfl ?_
     ·intro ρ y W f E D A;have S:=f 26 3 rfl;have h3:y 3=_:=A 3 rfl;have U:=f 28 5 rfl;have h5:y 5=_:=A 5 rfl;refine ak (.pointer (some ⟨b,off+m*7,none⟩)) (h:=(ic 2 25 true true ((f 25 2 rfl).trans (A 2 rfl)))) (by simp[execOp,go_sem,S,h3,U,h5,x])
     ·intro ρ y W f E D A;have V:=f 30 7 rfl;have h7:y 7=_:=A 7 rfl;have s:=(hi.below D).cells.2.1;refine ak (.int .i64 A0.en) (h:=(ic 2 25 true true ((f 25 2 rfl).trans (A 2 rfl)))) (by simp[execOp,go_sem,V,h7,s])
     ·intro ρ y W f E D A;have X:=f 32 9 rfl;have h9:y 9=_:=A 9 rfl;have Y:=f 33 10 rfl;have hr:y 10=_:=A 10 rfl;refine ak (.pointer (some ⟨b,off+(m+1)*7,none⟩)) (h:=(ic 2 25 true true ((f 25 2 rfl).trans (A 2 rfl)))) (by simp[execOp,go_sem,X,h9,Y,hr,C,K,L,M])
     ·intro ρ y W f E D A;have Z:=f 35 12 rfl;have hq:y 12=_:=A 12 rfl;have s:=(hm.below D).cells.1;refine ak (.int .i64 A1.fr) (h:=(ic 2 25 true true ((f 25 2 rfl).trans (A 2 rfl)))) (by simp[execOp,go_sem,Z,hq,s])
     ·intro ρ y W f E D A;have hP:=f 39 16 rfl;have F:y 16=_:=A 16 rfl;have hO:=f 41 18 rfl;have hJ:y 18=_:=A 18 rfl;refine ak (.pointer (some ⟨b,off+m*7,none⟩)) (h:=(ic 15 38 false false ((f 38 15 rfl).trans (A 15 rfl)))) (by simp[execOp,go_sem,hP,F,hO,hJ,x])
     ·intro ρ y W f E D A;have hM:=f 43 20 rfl;have hH:y 20=_:=A 20 rfl;have hL:=f 44 21 rfl;have hG:y 21=_:=A 21 rfl;refine ak (.pointer (some ⟨b,off+(m+1)*7,none⟩)) (h:=(ic 15 38 false false ((f 38 15 rfl).trans (A 15 rfl)))) (by simp[execOp,go_sem,hM,hH,hL,hG,C,K,L,M])
     ·intro ρ y W f E D A;have hN:=f 42 19 rfl;have hI:y 19=_:=A 19 rfl;have hK:=f 45 22 rfl;have hF:y 22=_:=A 22 rfl;have EF:=eF0 E λ_=>trivial;refine aL (m:=(ic 15 38 false false ((f 38 15 rfl).trans (A 15 rfl)))) (aW rfl (EF _) func170 (by simp only[bU,bM,bP,hN,hI,hK,hF,EF];rfl)) ?_;refine(CV b (off+m*7) b (off+(m+1)*7) A0 A1 W (hi.below D) (hm.below D) hR).mono ?_;rintro r w1 ⟨rfl,hE⟩;rw[hj];exact⟨_,rfl,hE,rfl⟩
     intro y WA q _;have d:=ah j q;have g:=n.ext q;have hU:Hid (∀i (h:i<l.length),i<m+1+1->dM l[i]=0):=ae (oO hp.out C (by rw[hA1];exact u.out));clear j n K L M O R;go_wp2;go_roundw
     case rel=>exact⟨m+1+1,by omega,by go_num,d,g,hU.out,hB⟩
     case measure=>simp[intOf];omega
    have J:Hid (dY l=(2,((m+1:Nat):Int))):=ae (by rw[z.out];exact GL C (by rw[hA1];exact u.out) (by rw[hA1,hC.out,hj,Bool.or_true]));refine aR 26 [_,_,_,_,_,_,.v (.pointer (some ⟨b,off+m*7,none⟩)),_,.v (.int .i64 A0.en),_,_,.v (.pointer (some ⟨b,off+(m+1)*7,none⟩)),_,.v (.int .i64 A1.fr),_,_,_,_,_,.v (.pointer (some ⟨b,off+m*7,none⟩)),_,_,.v (.pointer (some ⟨b,off+(m+1)*7,none⟩)),.v (.bool true),_,.v (.bool true)] (Gk rfl (Gb (.bool true) (by simp[go_sem]) rfl rfl rfl rfl rfl (Gk rfl (Gk rfl (Gk rfl (Gb (.int .i64 (m:Int)) (by simp[go_sem,O,R]) rfl rfl rfl rfl rfl (aj ?_ (Gf b (off+m*7+1) rfl rfl (aj ?_ (Gk rfl (Gk rfl (aj ?_ (Gf b (off+(m+1)*7) rfl rfl (aj ?_ (Gb (.bool false) (by simp[go_sem,G]) rfl rfl rfl rfl rfl (Gk rfl (Gk rfl (Gk rfl (Gb (.int .i64 (m:Int)) (by simp[go_sem,O,R]) rfl rfl rfl rfl rfl (aj ?_ (Gk rfl (Gk rfl (aj ?_ (aj ?_ (Gk rfl (Gk rfl (aH))))))))))))))))))))))))))) (λ_=>rfl) rfl ?_
    ·intro ρ y W f E D A;have S:=f 26 3 rfl;have h3:y 3=_:=A 3 rfl;have U:=f 28 5 rfl;have h5:y 5=_:=A 5 rfl;refine ak (.pointer (some ⟨b,off+m*7,none⟩)) (h:=(ic 2 25 true true ((f 25 2 rfl).trans (A 2 rfl)))) (by simp[execOp,go_sem,S,h3,U,h5,x])
    ·intro ρ y W f E D A;have V:=f 30 7 rfl;have h7:y 7=_:=A 7 rfl;have s:=(hi.below D).cells.2.1;refine ak (.int .i64 A0.en) (h:=(ic 2 25 true true ((f 25 2 rfl).trans (A 2 rfl)))) (by simp[execOp,go_sem,V,h7,s])
    ·intro ρ y W f E D A;have X:=f 32 9 rfl;have h9:y 9=_:=A 9 rfl;have Y:=f 33 10 rfl;have hr:y 10=_:=A 10 rfl;refine ak (.pointer (some ⟨b,off+(m+1)*7,none⟩)) (h:=(ic 2 25 true true ((f 25 2 rfl).trans (A 2 rfl)))) (by simp[execOp,go_sem,X,h9,Y,hr,C,K,L,M])
    ·intro ρ y W f E D A;have Z:=f 35 12 rfl;have hq:y 12=_:=A 12 rfl;have s:=(hm.below D).cells.1;refine ak (.int .i64 A1.fr) (h:=(ic 2 25 true true ((f 25 2 rfl).trans (A 2 rfl)))) (by simp[execOp,go_sem,Z,hq,s])
    ·intro ρ y W f E D A;have hP:=f 39 16 rfl;have F:y 16=_:=A 16 rfl;have hO:=f 41 18 rfl;have hJ:y 18=_:=A 18 rfl;refine ak (.pointer (some ⟨b,off+m*7,none⟩)) (h:=(ic 15 38 false false ((f 38 15 rfl).trans (A 15 rfl)))) (by simp[execOp,go_sem,hP,F,hO,hJ,x])
    ·intro ρ y W f E D A;have hM:=f 43 20 rfl;have hH:y 20=_:=A 20 rfl;have hL:=f 44 21 rfl;have hG:y 21=_:=A 21 rfl;refine ak (.pointer (some ⟨b,off+(m+1)*7,none⟩)) (h:=(ic 15 38 false false ((f 38 15 rfl).trans (A 15 rfl)))) (by simp[execOp,go_sem,hM,hH,hL,hG,C,K,L,M])
    ·intro ρ y W f E D A;have hN:=f 42 19 rfl;have hI:y 19=_:=A 19 rfl;have hK:=f 45 22 rfl;have hF:y 22=_:=A 22 rfl;have EF:=eF0 E λ_=>trivial;refine aL (m:=(ic 15 38 false false ((f 38 15 rfl).trans (A 15 rfl)))) (aW rfl (EF _) func170 (by simp only[bU,bM,bP,hN,hI,hK,hF,EF];rfl)) ?_;refine(CV b (off+m*7) b (off+(m+1)*7) A0 A1 W (hi.below D) (hm.below D) hR).mono ?_;rintro r w1 ⟨rfl,hE⟩;rw[hj];exact⟨_,rfl,hE,rfl⟩
    intro y WA q _;have d:=ah j q;have g:=n.ext q;clear j n
    go_wp2_with (refine ax _ _ w.heap.size #[.int .i64 (2),.int .i64 (((m+1:Nat):Int))] g fau_size (G:=zw _ _) ?_)
    intro I t p;have o:Below w.heap.size w I:=d.grown p d.size (λk H=>by cases H;exact aC _);go_wp2;refine bodyPost_ret (v:=.agg #[.int .i64 (2),.int .i64 (((m+1:Nat):Int))]) (aP results129 w.heap.size t underlying180 fau_size) rfl ?_;exact⟨by rw[J.out];rfl,o⟩
   have J:Hid (dY l=(dM l[k],(k:Int))):=ae (by rw[z.out];exact SL C N);have u : (dM l[k] != 0)=true:=by simpa using N
   have d:=j;have g:=n;clear N j n
   go_wp2_with (refine ax _ _ w.heap.size #[.int .i64 (dM l[k]),.int .i64 (k)] g fau_size (G:=zw _ _) ?_)
   intro I t p;have o:Below w.heap.size w I:=d.grown p d.size (λk H=>by cases H;exact aC _);go_wp2;refine bodyPost_ret (v:=.agg #[.int .i64 (dM l[k]),.int .i64 (k)]) (aP results129 w.heap.size t underlying180 fau_size) rfl ?_;exact⟨by rw[J.out];rfl,o⟩
  have J:Hid (dY l=(0,0)):=ae (by rw[z.out,tu (by omega)];rfl)
  go_wp2_with (refine ax _ _ w.heap.size #[.int .i64 (0),.int .i64 (0)] g fau_size (G:=zw _ _) ?_)
  intro I t p;have o:Below w.heap.size w I:=d.grown p d.size (λk H=>by cases H;exact aC _);go_wp2;refine bodyPost_ret (v:=.agg #[.int .i64 (0),.int .i64 (0)]) (aP results129 w.heap.size t underlying180 fau_size) rfl ?_;exact⟨by rw[J.out];rfl,o⟩
theorem GK{l:List Ar}(h:eD w a (l.flatMap fZ))(k:Nat)(d:k<l.length):∃b off,a=some ⟨b,off,none⟩/\w.cell? ⟨b,off+k*7,none⟩=some (.int .i64 l[k].fr)/\w.cell? ⟨b,off+k*7+1,none⟩=some (.int .i64 l[k].en)/\w.cell? ⟨b,off+k*7+2,none⟩=some (.bool l[k].rd)/\w.cell? ⟨b,off+k*7+3,none⟩=some (.bool l[k].wr) /\
  w.cell? ⟨b,off+k*7+4,none⟩=some (.bool l[k].sh)/\w.cell? ⟨b,off+k*7+5,none⟩=some (.int .i64 l[k].fi)/\w.cell? ⟨b,off+k*7+6,none⟩=some (.int .i64 l[k].ba):=by
 obtain⟨b,off,e,f⟩:=VI h k d;exact⟨b,off,e,f.cells⟩
theorem TU(a:Ar)(g:Nat)(n:Int)(w:World)(q:aK w g #[.int .i64 n] 3) :
  Calls Tryz.prog 133 #[.agg #[.int .i64 a.fr,.int .i64 a.en,.bool a.rd,.bool a.wr,.bool a.sh,.int .i64 a.fi,.int .i64 a.ba],.pointer (some ⟨g,0,none⟩)] w λr w'=>r = .returned (.bool (wY n a))/\Below w.heap.size w w':=by
 go_enter func133,ntmps133;go_upto_region 1 with(fail);refine iP (λW=>Code.wp _ _ _ _ W) λs b c d => ?_;clear d;have e:=(q.ext b).cell 0;have f:=c.cell
 by_cases m:a.fr<=n
 ·by_cases j:n<a.en
  ·have h:=ae (show wY n a=true by unfold wY;rw[decide_eq_true m,decide_eq_true j];rfl);go_wp2;go_ret;exact⟨cB h.out.symm,b⟩
  have h:=ae (show wY n a=false by unfold wY;rw[decide_eq_false j,ng]);go_wp2;go_ret;exact⟨cB h.out.symm,b⟩
 have h:=ae (show wY n a=false by unfold wY;rw[decide_eq_false m,mX]);go_wp2;go_ret;exact⟨cB h.out.symm,b⟩
theorem MC(l:List Ar)(a:Option Addr)(c:Nat)(w:World)(s:eD w a (l.flatMap fZ))(A:l.length<=9223372036854775807)(g:Nat)(n:Int)(z:aK w g #[.int .i64 n] 3) :
  Calls Tryz.prog 132 #[.slice a l.length c,.func (.func 133) #[] #[.pointer (some ⟨g,0,none⟩)]] w λe w'=>e = .returned (.int .i64 (idx (wY n) l))/\Below w.heap.size w w':=by
 go_enter func132,ntmps132;go_wp2
 go_loopw [8] (fun i wr => ∃k:Nat,k<=l.length/\i = .int .i64 k/\Below w.heap.size w wr/\∀i (h:i<l.length),i<k->(wY n) l[i]=false) (fun i _=>l.length-(intOf i).toNat)
 case atStart=>exact⟨0,bN _,rfl,Below.refl _ _,λi _ h=>absurd h (ig _)⟩
 case round=>
  obtain⟨k,C,rfl,j,o⟩:=hrel;have y:=ae o;clear o
  by_cases q:k<l.length
  ·obtain⟨b,off,rfl,F,c1,c2,c3,c4,E,D⟩:=GK (s.below j) k q
   go_wp2_with fail
   refine(TU l[k] g n _ (z.ext j)).mono ?_;rintro e w2 ⟨rfl,p⟩;have f:=ah j p;clear p;cases hpk:(wY n) l[k]
   ·have m:=ae hpk;clear hpk;go_wp2;go_roundw
    case rel=>exact⟨k+1,by omega,by go_num,f,oO y.out q m.out⟩
    case measure=>simp[intOf];omega
   have d:=ae (qH (wY n) l k q y.out hpk);clear hpk;go_wp2;go_ret;exact⟨bI d.out.symm,f⟩
  have d:=ae (ll (wY n) l λi h=>y.out i h (by omega));go_wp2;go_ret;exact⟨bI d.out.symm,j⟩
theorem Db(l:List Ar)(n:Int)(a:Option Addr)(c:Nat)(w:World)(h:eD w a (l.flatMap fZ))(j:l.length<=9223372036854775807) :
  Calls Tryz.prog 87 #[.slice a l.length c,.int .i64 n] w λr w'=>r = .returned (.int .i64 (fB l n))/\Below w.heap.size w w':=by
 go_enter func87,ntmps87;go_upto_region 1 with(fail);refine iP (λW=>Code.wp _ _ _ _ W) λm b d e => ?_;clear e
 go_wp2_with fail
 refine(MC l a c _ (h.below b) j w.heap.size n d).mono ?_;rintro r w1 ⟨rfl,f⟩;go_wp2;go_ret;exact⟨rfl,ah b f⟩
theorem WW(a b:Ar)(g:Nat)(w:World)(s:aK w g (lW b) 94) :
  Calls Tryz.prog 182 #[.agg #[.int .i64 a.fr,.int .i64 a.en,.bool a.rd,.bool a.wr,.bool a.sh,.int .i64 a.fi,.int .i64 a.ba],.pointer (some ⟨g,0,none⟩)] w λr w'=>r = .returned (.bool (jA b a))/\Below w.heap.size w w':=by
 go_enter func182,ntmps182;go_upto_region 1 with(fail);refine iP (λW=>Code.wp _ _ _ _ W) λy c d e => ?_;clear e;have f:=(s.ext c).cell;unfold lW at f;have h:=d.cell
 by_cases q:a.fr<b.en
 ·by_cases m:b.fr<a.en
  ·have j:=ae (show jA b a=true by unfold jA;rw[decide_eq_true q,decide_eq_true m];rfl);go_wp2;go_ret;exact⟨cB j.out.symm,c⟩
  have j:=ae (show jA b a=false by unfold jA;rw[decide_eq_false m,ng]);go_wp2;go_ret;exact⟨cB j.out.symm,c⟩
 have j:=ae (show jA b a=false by unfold jA;rw[decide_eq_false q,mX]);go_wp2;go_ret;exact⟨cB j.out.symm,c⟩
theorem Vb(a b:Ar)(g:Nat)(w:World)(j:aK w g (lW b) 94) :
  Calls Tryz.prog 183 #[.agg #[.int .i64 a.fr,.int .i64 a.en,.bool a.rd,.bool a.wr,.bool a.sh,.int .i64 a.fi,.int .i64 a.ba],.pointer (some ⟨g,0,none⟩)] w λr w'=>r = .returned (.bool (mP b a))/\Below w.heap.size w w':=by
 go_enter func183,ntmps183;go_upto_region 1 with(fail);refine iP (λW=>Code.wp _ _ _ _ W) λm c d e => ?_;clear e;have f:=(j.ext c).cell;unfold lW at f;have h:=d.cell;go_wp2;go_ret;exact⟨rfl,c⟩
theorem MX(l:List Ar)(a:Option Addr)(c:Nat)(w:World)(s:eD w a (l.flatMap fZ))(A:l.length<=9223372036854775807)(g:Nat)(x:Ar)(z:aK w g (lW x) 94) :
  Calls Tryz.prog 132 #[.slice a l.length c,.func (.func 182) #[] #[.pointer (some ⟨g,0,none⟩)]] w λe w'=>e = .returned (.int .i64 (idx (jA x) l))/\Below w.heap.size w w':=by
 go_enter func132,ntmps132;go_wp2
 go_loopw [8] (fun i wr => ∃k:Nat,k<=l.length/\i = .int .i64 k/\Below w.heap.size w wr/\∀i (h:i<l.length),i<k->(jA x) l[i]=false) (fun i _=>l.length-(intOf i).toNat)
 case atStart=>exact⟨0,bN _,rfl,Below.refl _ _,λi _ h=>absurd h (ig _)⟩
 case round=>
  obtain⟨k,C,rfl,j,n⟩:=hrel;have y:=ae n;clear n
  by_cases q:k<l.length
  ·obtain⟨b,off,rfl,F,c1,c2,c3,c4,E,D⟩:=GK (s.below j) k q
   go_wp2_with fail
   refine(WW l[k] x g _ (z.ext j)).mono ?_;rintro e w2 ⟨rfl,o⟩;have f:=ah j o;clear o;cases hpk:(jA x) l[k]
   ·have m:=ae hpk;clear hpk;go_wp2;go_roundw
    case rel=>exact⟨k+1,by omega,by go_num,f,oO y.out q m.out⟩
    case measure=>simp[intOf];omega
   have d:=ae (qH (jA x) l k q y.out hpk);clear hpk;go_wp2;go_ret;exact⟨bI d.out.symm,f⟩
  have d:=ae (ll (jA x) l λi h=>y.out i h (by omega));go_wp2;go_ret;exact⟨bI d.out.symm,j⟩
theorem MG(l:List Ar)(a:Option Addr)(c:Nat)(w:World)(d:eD w a (l.flatMap fZ))(f:l.length<=9223372036854775807)(g:Nat)(x:Ar)(h:aK w g (lW x) 94) :
  Calls Tryz.prog 181 #[.slice a l.length c,.func (.func 182) #[] #[.pointer (some ⟨g,0,none⟩)]] w λe w'=>e = .returned (.bool (l.any (jA x)))/\Below w.heap.size w w':=by
 go_enter func181,ntmps181
 go_wp2_with fail
 refine(MX l a c _ d f g x h).mono ?_;rintro e w2 ⟨rfl,b⟩;go_wp2;go_ret;exact⟨cB (tN _ _),b⟩
theorem Ip(l:List Ar)(a:Option Addr)(c:Nat)(w:World)(s:eD w a (l.flatMap fZ))(A:l.length<=9223372036854775807)(g:Nat)(x:Ar)(z:aK w g (lW x) 94) :
  Calls Tryz.prog 132 #[.slice a l.length c,.func (.func 183) #[] #[.pointer (some ⟨g,0,none⟩)]] w λe w'=>e = .returned (.int .i64 (idx (mP x) l))/\Below w.heap.size w w':=by
 go_enter func132,ntmps132;go_wp2
 go_loopw [8] (fun i wr => ∃k:Nat,k<=l.length/\i = .int .i64 k/\Below w.heap.size w wr/\∀i (h:i<l.length),i<k->(mP x) l[i]=false) (fun i _=>l.length-(intOf i).toNat)
 case atStart=>exact⟨0,bN _,rfl,Below.refl _ _,λi _ h=>absurd h (ig _)⟩
 case round=>
  obtain⟨k,C,rfl,j,n⟩:=hrel;have y:=ae n;clear n
  by_cases q:k<l.length
  ·obtain⟨b,off,rfl,F,c1,c2,c3,c4,E,D⟩:=GK (s.below j) k q
   go_wp2_with fail
   refine(Vb l[k] x g _ (z.ext j)).mono ?_;rintro e w2 ⟨rfl,o⟩;have f:=ah j o;clear o;cases hpk:(mP x) l[k]
   ·have m:=ae hpk;clear hpk;go_wp2;go_roundw
    case rel=>exact⟨k+1,by omega,by go_num,f,oO y.out q m.out⟩
    case measure=>simp[intOf];omega
   have d:=ae (qH (mP x) l k q y.out hpk);clear hpk;go_wp2;go_ret;exact⟨bI d.out.symm,f⟩
  have d:=ae (ll (mP x) l λi h=>y.out i h (by omega));go_wp2;go_ret;exact⟨bI d.out.symm,j⟩
theorem MQ(a:Option Addr)(n c:Nat)(w:World)(f:n<=9223372036854775807) :
  Calls Tryz.prog 184 #[.slice a n c] w λr w'=>r = .returned (.tuple #[if 16<n then .slice none 0 0 else .slice a n c,.int .i64 (if 16<n then 4 else 0)])/\w=w':=by
 go_enter func184,ntmps184
 by_cases h:16<n
 ·have d:(16:Int)<(n:Int):=by omega
  go_wp2;go_ret2;exact⟨rfl,rfl⟩
 have d:¬(16:Int)<(n:Int):=by omega
 go_wp2;go_ret2;exact⟨rfl,rfl⟩
theorem nz(l:List Ar):(l.flatMap fZ).length=l.length*7:=Pw.flat_len fZ 7 jZ l
theorem KX(a:Ar):∀u∈fZ a,u.oneCell' = true:=by
 intro u d;simp only[fZ,lW,fq,kZ,or_false]at d;rcases d with rfl|rfl|rfl|rfl|rfl|rfl|rfl<;>rfl
theorem uk(l:List Ar):∀u∈l.flatMap fZ,u.oneCell' = true:=by
 intro u d;obtain⟨a,_,h⟩:=jS.1 d;exact KX a u h
theorem vE(l:List Ar)(a:Option Addr)(c:Nat)(w:World)(q:l.length<=c)(f:a=none->c=0)(m:eD w a (l.flatMap fZ))(A:l.length*40<=140737488355328) :
  Calls Tryz.prog 62 #[.slice a l.length c] w λe w' => ∃v,e = .returned v/\Own w' w.heap.size 94 7 v l.length (l.flatMap fZ)/\Below w.heap.size w w':=by
 cases a with
 | none=>
  have C:=f rfl;have y:l=[]:=kV (by omega);subst y;subst C;have s:=λW=>nN (P:=Tryz.prog) W 71 _ none 0 0 0 0 underlying71;go_enter func62,ntmps62;go_wp2;go_ret;exact⟨_,rfl,by simpa using Own.nil _ _ _ _,Below.refl _ _⟩
 | some ad=>
  have s:=λW=>nN (P:=Tryz.prog) W 71 _ (some ad) l.length c 0 0 underlying71;go_enter func62,ntmps62
  go_wp2_with (at_builtin;go_must (refine fJ 71 rfl w.heap.size 94 (.agg #[.int .i64 0,.int .i64 0,.bool false,.bool false,.bool false,.int .i64 0,.int .i64 0]) 7 40 underlying71 area_info 0 [] rfl ?own (some ad) l.length c (l.flatMap fZ) rfl (λh=>(by cases h)) q (nz l) ?rd (uk l) (by unfold maxLen;omega) (by simpa using A) ?bb ?k))
  case own=>exact⟨rfl,.inr ⟨w.heap.size,0,0,#[],rfl,aC _,aK.new _ _ _,aC _,bN _,by simp,λj u h=>by simp at h⟩⟩
  case rd=>exact m.below ((Below.refl _ _).alloc (aC _) _)
  case bb=>exact fe
  intro v w1 b d;go_wp2;go_ret;exact⟨v,rfl,by simpa using b,((Below.refl _ _).alloc (aC _) _).grown d (fe) (λk z=>by cases z;exact aC _)⟩
theorem Af.blk{a:Ar}(h:aK w b (lW a) T):Af w b 0 a:=λj u d=>by rw[h.cell,dL];simpa[fZ]using d
theorem Nq(l:List Ar)(a:Option Addr)(c:Nat)(w:World)(hrd:eD w a (l.flatMap fZ))(hl:l.length<=1000)(hf:∀x∈l,uG x) :
  Calls Tryz.prog 185 #[.slice a l.length c] w λr w' => ∃v,r = .returned v/\Own w' w.heap.size 94 7 v (bW l).length ((bW l).flatMap fZ)/\Below w.heap.size w w':=by
 go_enter func185,ntmps185;go_upto_region 3 with(fail)
 go_loopw [9,3] (fun i s wr => ∃k:Nat,k<=l.length/\i = .int .i64 k/\Below w.heap.size w wr/\Own wr w.heap.size 94 7 s (bW (l.take k)).length ((bW (l.take k)).flatMap fZ)) (fun i _ _=>l.length-(intOf i).toNat)
 case atStart=>exact⟨0,bN _,rfl,Below.refl _ _,by simpa[bW]using Own.nil _ _ _ _⟩
 case round=>
  obtain⟨k,hk,rfl,J,z⟩:=hrel
  by_cases D:k<l.length
  ·have t:=ae (Dg D);have S:=hf l[k] (fA _);have L:=Nj hf k hk;have hI:=LQ l k hk;generalize hacc:bW (l.take k)=acc at *
   obtain⟨b,off,rfl,c0,c1,c2,c3,c4,c5,c6⟩:=GK (hrd.below J) k D;generalize l[k]=A at *
   go_upto_region 5 with(fail);refine iP (λW=>Code.wp _ _ _ _ W) λW0 O H hD => ?_;clear hD c0 c1 c2 c3 c4 c5 c6;have f:=ah J O;have d:=z.below O;clear J z O;obtain⟨a1,c1,Z,_⟩:=d.rd
   by_cases h0:acc.length=0
   ·have F:Hid (bW (l.take (k+1))=acc++[A]):=ae (by rw[t.out,kV h0];rfl);subst Z;have K:=H.cell;have hE:IntKind.i64.wrap ((acc.length:Int)-1) = -1:=by rw[h0];rfl
    clear t L S h0
    go_wp2_with (first | (refine ay _ 0 _ H.rd _ underlying94 rfl area_size ?_) | (at_builtin;refine fJ 71 rfl w.heap.size 94 _ 7 40 underlying71 area_info acc.length (acc.flatMap fZ) rfl (d.alloc _) (some ⟨W0.heap.size,0,none⟩) 1 1 (fZ A) rfl (λh=>(by cases h)) (aC _) rfl (eD.new _ (lW A) _) (λu X=>uk [A] u (by simpa using X)) (by unfold maxLen;omega) (by omega) (eO f.size) ?_))
    intro v I m q;have o:Below w.heap.size w I:=(f.alloc f.size _).grown q (eO f.size) (d.alloc (.cells (lW A) 94)).ge;have j:Own I w.heap.size 94 7 v (bW (l.take (k+1))).length ((bW (l.take (k+1))).flatMap fZ):=by rw[F.out,iq,fI];simpa using m
    clear m q;go_wp2;go_roundw
    case rel=>exact⟨k+1,by omega,by go_num,o,j⟩
    case measure=>simp[intOf];omega
   obtain⟨n,M⟩:∃n,acc.length=n+1:=⟨acc.length-1,by omega⟩;have hn:=ae M;have hA:n<acc.length:=by omega
   have hJ:(n:Int)<(acc.length:Int):=by omega
   have hE:IntKind.i64.wrap ((acc.length:Int)-1)=(n:Int):=by rw[dz _ (by omega)];omega
   have hg:acc.getLast?=some acc[n]:=by rw[List.getLast?_eq_getElem?,aM (by omega)];simp[M]
   have hc:qf acc A=if eu acc[n] A then acc.set n { acc[n]with en:=A.en }else acc++[A]:=by unfold qf;rw[hg];simp[M]
   have U:=L acc[n] (fA _);rw[hc]at t;obtain⟨g,C,cap1,G,hB,hG,⟨csg,Y⟩,E,V,y⟩:=yD jZ rfl d n hA 1 (.int .i64 A.en) { acc[n]with en:=A.en } rfl;rw[Z]at G;simp only[iW,true_and]at G;obtain⟨e1,e2⟩:=G;subst e1 e2;subst Z;have hQ:Af W0 g (C+n*7) acc[n]:=E;have hC:=Af.blk H;clear M hg hc E y V Y;generalize hQQ:acc[n]=Q at *
   have K:=H.cell
   go_wp2_with fail
   refine(CV g (C+n*7) wr.heap.size 0 Q A _ hQ hC U).mono ?_;rintro r W2 ⟨rfl,R⟩;have e:=ah f R;have hr:=H.ext R;have p:=d.below R;clear K f d hC hQ;have K:=hr.cell;cases hj:eu Q A
   ·have F:Hid (bW (l.take (k+1))=acc++[A]):=ae (by rw[t.out,hj];rfl);clear t L S U
    go_wp2_with (first | (refine ay _ 0 _ hr.rd _ underlying94 rfl area_size ?_) | (at_builtin;refine fJ 71 rfl w.heap.size 94 _ 7 40 underlying71 area_info acc.length (acc.flatMap fZ) rfl (p.alloc _) (some ⟨W2.heap.size,0,none⟩) 1 1 (fZ A) rfl (λh=>(by cases h)) (aC _) rfl (eD.new _ (lW A) _) (λu X=>uk [A] u (by simpa using X)) (by unfold maxLen;omega) (by omega) (eO e.size) ?_))
    intro v I m q;have o:Below w.heap.size w I:=(e.alloc e.size _).grown q (eO e.size) (p.alloc (.cells (lW A) 94)).ge;have j:Own I w.heap.size 94 7 v (bW (l.take (k+1))).length ((bW (l.take (k+1))).flatMap fZ):=by rw[F.out,iq,fI];simpa using m
    clear m q;go_wp2;go_roundw
    case rel=>exact⟨k+1,by omega,by go_num,o,j⟩
    case measure=>simp[intOf];omega
   have F:Hid (bW (l.take (k+1))=acc.set n { acc[n]with en:=A.en }):=ae (by rw[t.out,hj,hQQ];rfl);clear t L S U;obtain⟨g',N,cap1',G,hB,hG,⟨csg,Y⟩,E,V,y⟩:=yD jZ rfl p n hA 1 (.int .i64 A.en) { acc[n]with en:=A.en } rfl;cases G;have hH:=E 1 _ rfl;clear E hQQ;go_upto_region 9 with(fail);have o:Below w.heap.size w (W2.setCell ⟨g,C+n*7+1,none⟩ (.int .i64 A.en)):=e.setCell hB _;have j:Own (W2.setCell ⟨g,C+n*7+1,none⟩ (.int .i64 A.en)) w.heap.size 94 7 (.slice (some ⟨g,C,none⟩) acc.length c1) (bW (l.take (k+1))).length ((bW (l.take (k+1))).flatMap fZ):=by rw[F.out,bV];exact y
   clear y p hr e K V hH Y;go_wp2;go_roundw
   case rel=>exact⟨k+1,by omega,by go_num,o,j⟩
   case measure=>simp[intOf];omega
  have hF:k=l.length:=by omega
  subst hF;rw[zk]at z;go_wp2;go_ret;exact⟨_,rfl,z,J⟩
structure Vh (w:World) (a:Option Addr) (c:Nat) (l:List Ar):Prop where
 le:l.length<=c
 mx:c<=maxLen
 nl:a=none->c=0
 rd:eD w a (l.flatMap fZ)
theorem Vh.below{l:List Ar}(h:Vh w a c l)(d:Below w.heap.size w w'):Vh w' a c l:=⟨h.le,h.mx,h.nl,h.rd.below d⟩
theorem Vh.of{l:List Ar}(h:Own w B 94 7 v l.length (l.flatMap fZ)):∃a c,v = .slice a l.length c/\Vh w a c l:=by
 obtain⟨a,c,q,m,j,f,d⟩:=h.rd;exact⟨a,c,q,m,j,f,d⟩
theorem lu(w:World)(A D C elem:TypeId)(sz g o f q:Nat)(a:Addr)(d h n:Nat)(cs:List Value)(cur:Array Value)(T:TypeId)
 (E:P.underlying A=some (.slice elem)) (s:(P.info? elem).map (·.size)=some sz) (F:Nat.min d f=n) (G:cs.length=n*sz) (y:aK w g cur T)
 (m:∀j v,cs[j]?=some v->w.cell? (a.add j)=some v) (z:o+cs.length<=cur.size) (J:∀v∈cs,v.oneCell' = true) :
  (Builtin.copy_ #[A,D] C #[.slice (some ⟨g,o,none⟩) f q,.slice (some a) d h]).run P w = .ok (goInt n) (w.setCells g o cs):=by
 have c:=run_loadCells_list (P:=P) w a cs m;have b:=run_storeCells_cells (P:=P) g o cs 0 w (λj H=>by rw[mG,y.cell];simp[show o+j<cur.size by omega]) (λj H=>y.free _) J;cases hq:P.info? elem with
 | none=>simp[hq]at s
 | some i=>
  have I:i.size=sz:=by simpa[hq]using s
  simp[Builtin.copy_,run_underlying E,Builtin.lenOf,Builtin.firstCells,sizeOf,typeInfo,hq,I,F,<-G,c,b]
theorem VT(w:World){a:Act}(f:o.guard=none)(d s:Operand)(t t' : TypeId)
 (q:o.op = .call { callee:=.builtin .copy,args:=#[d,s],argTypes:=#[t,t'] }) (v u:Value) (y:a.eval d=v) (j:a.eval s=u) 
 (m:(Builtin.copy_ #[t,t'] o.type #[v,u]).run P w = .ok v' w') (h:wpList P ops Q rest (a.put o.dst v') w'):wpList P ops Q (o::rest) a w:=
 wpList_plain f λK z=>by unfold Oper.wp execOp;simp only[q,resolve,invoke,builtin,lD,sF,sH,bU,bM,bP,y,j,m];exact z _ _ h
theorem Am{a:Act}{K:Act->World->Prop}{E:Prop}
 (y:o.guard=none) (d x:Operand) (j h:TypeId) (f:o.op=Op.call { callee:=Callee.builtin Builtin.copy,args:=#[d,x],argTypes:=#[j,h] })
 (v u:Value) (z:a.eval d=v) (m:a.eval x=u) (s:(Builtin.copy_ #[j,h] o.type #[v,u]).run P w = .ok v' w') (A:K (a.put o.dst v') w') :
  if Region.wanted o (yielded ops a.tmps)=true then Oper.wp P o a w K Q else E:=by
 have q:Region.wanted o (yielded ops a.tmps)=true:=by simp[Region.wanted,y]
 rw[if_pos q];unfold Oper.wp;simp[execOp,f,resolve,invoke,builtin,z,m,s,Result.andThen];exact A
theorem GG(l:List Ar)(x:Ar)(k:Nat):(l.take k++x::l.drop k).flatMap fZ=(l.take k).flatMap fZ++(fZ x++(l.drop k).flatMap fZ):=by simp[iq]
theorem IU{l:List Ar}{x:Ar}{o:Nat}(f:k<=l.length)(q:∀j u,((l.take k).flatMap fZ)[j]?=some u->cur[o+j]?=some u)(m:∀j u,(fZ x)[j]?=some u->cur[o+k*7+j]?=some u)
 (h:∀j u,((l.drop k).flatMap fZ)[j]?=some u->cur[o+(k+1)*7+j]?=some u):∀j u,((l.take k++x::l.drop k).flatMap fZ)[j]?=some u->cur[o+j]?=some u:=by
 intro j u d;have a:((l.take k).flatMap fZ).length=k*7:=by rw[nz,eG,uW f]
 rw[GG]at d
 by_cases c1:j<k*7
 ·rw[jb (by omega)]at d;exact q j u d
 rw[jv (by omega),a]at d
 by_cases c2:j-k*7<7
 ·rw[jb (by rw[jZ];exact c2)]at d;have:=m _ u d;rwa [show o+k*7+(j-k*7)=o+j by omega]at this
 rw[jv (by rw[jZ];omega),jZ]at d;have:=h _ u d;rwa [show o+(k+1)*7+(j-k*7-7)=o+j by omega]at this
theorem PY{l:List Ar}{o:Nat}(h:∀j u,(l.flatMap fZ)[j]?=some u->cur[o+j]?=some u):∀j u,((l.take k).flatMap fZ)[j]?=some u->cur[o+j]?=some u:=by
 intro j u d;refine h j u ?_
 conv=>lhs;rw[<-tZ k l,iq]
 rw[jb (by have:=(dw.1 d).1;exact this)];exact d
theorem Pf{l:List Ar}(d:k<=l.length){o:Nat}(h:∀j u,(l.flatMap fZ)[j]?=some u->cur[o+j]?=some u):∀j u,((l.drop k).flatMap fZ)[j]?=some u->cur[o+k*7+j]?=some u:=by
 intro j u f;rw[qX];refine h _ u ?_
 conv=>lhs;rw[<-tZ k l,iq]
 have a:((l.take k).flatMap fZ).length=k*7:=by rw[nz,eG,uW d]
 rw[jv (by omega),a,EH];exact f
theorem EW(l:List Ar)(x:Ar)(k:Nat)(U:k<=l.length)(v:Value)(B g:Nat)(w:World)(F:Own w B 94 7 v l.length (l.flatMap fZ))(hB:B<=w.heap.size)(hl:l.length<=1000)(J:aK w g (lW x) 94)(Z:k<l.length->∀b,v.ownBlock=some b->g≠b) :
  Calls Tryz.prog 186 #[v,.int .i64 k,.slice (some ⟨g,0,none⟩) 1 1] w λe w' => ∃v',e = .returned v'/\Own w' B 94 7 v' (l.length+1) ((l.take k++x::l.drop k).flatMap fZ)/\w.grownBy w' v.ownBlock:=by
 obtain⟨a0,c0,hs,hI,z,hC,_⟩:=F.rd;unfold maxLen at z
 by_cases hkl:k=l.length
 ·subst hkl;have ha:(l.take l.length++x::l.drop l.length).flatMap fZ=l.flatMap fZ++fZ x:=by simp[iq]
  have hi:=ae ha;clear ha;subst hs;go_enter func186,ntmps186
  go_wp2_with (at_builtin;refine fJ 71 rfl B 94 _ 7 40 underlying71 area_info l.length (l.flatMap fZ) rfl F (some ⟨g,0,none⟩) 1 1 (fZ x) rfl (λh=>(by cases h)) (aC _) rfl J.rd (λu hu=>uk [x] u (by simpa using hu)) (by unfold maxLen;omega) (by omega) hB ?_)
  all_goals
   intro v' w' hh h4;go_wp2;go_ret;exact⟨_,rfl,by rw[hi.out];exact hh,by cases a0<;>exact h4⟩
 have h1:k<l.length:=by omega
 rcases F with⟨hlen,⟨_,hz⟩|⟨b,off,c,cur,rfl,hBb,N,hnc,R,X,H⟩⟩
 ·omega
 have hL:g≠b:=Z h1 b rfl;clear hs hI z hC;have km:=N.lt;have kj:=J.lt;have kd:¬((k:Int)=(l.length:Int)):=by omega
 have ki:(k:Int)<=(l.length:Int):=by omega
 have hH:=R;unfold maxLen at hH;have kf:IntKind.i64.wrap ((k:Int)+1)=(k:Int)+1:=dz _ (by omega);have ke:IntKind.i64.wrap ((l.length:Int)+1)=(l.length:Int)+1:=dz _ (by omega);have kg:((k:Int)+1).toNat=k+1:=by omega
 have hM:((l.drop k).flatMap fZ).length=(l.length-k)*7:=by rw[nz,sU]
 have kl:¬(c=k):=by omega
 have hN:=Pf U H;have hw:=PY (k:=k) H
 by_cases M:l.length+1<=c
 ·have hX:¬((c:Int)<(l.length:Int)+1):=by omega
  have hS:¬(c=k+1):=by omega
  have h2:(0:Int)<=(k:Int)+1:=by omega
  have h6:(k:Int)<=(l.length:Int)+1:=by omega
  have hA:∀O S W,W=w->(callFunc 204 #[.slice (some ⟨g,0,none⟩) 1 1,.slice (some ⟨b,off+(k+1)*7,none⟩) O S]).run Tryz.prog W = .ok (.value (.bool false)) W:=by
   intro O S W I;subst I;have hx:∀w,(Go.sizeOf 94).run Tryz.prog w = .ok 7 w:=by
    intro w;cases hq:Tryz.prog.info? 94 with
    | none=>have:=area_size;simp[hq]at this
    | some i=>
     have hz:i.size=7:=by have:=area_size;simpa[hq]using this
     simp[Go.sizeOf,typeInfo,run_program,hq,hz]
   rw[run_callFunc_extern func204 (by kernel_rfl) (by kernel_rfl) (by kernel_rfl) (e:=Extern.SlicesOverlaps.overlaps #[71,71] #[4]) (by kernel_rfl),
    Lib.run_overlaps_apart W 71 4 94 underlying71 7 hx ⟨g,0,none⟩ ⟨b,off+(k+1)*7,none⟩ 1 1 O S hL 94 94 7 cur.size (by unfold aK at J;simp[World.shape?,J,lW]) (by unfold aK at N;simp[World.shape?,N]) (by omega) (J.free _) (J.free _)]
   rfl
  have hR:∀W C E K,aK W b cur 94->(Builtin.copy_ #[71,71] C #[.slice (some ⟨b,off+(k+1)*7,none⟩) (l.length-k) E,.slice (some ⟨b,off+k*7,none⟩) (l.length+1-k) K]).run Tryz.prog W = .ok (goInt (l.length-k:Nat)) (W.setCells b (off+(k+1)*7) ((l.drop k).flatMap fZ)):=λW C E K I=>
   lu W _ _ C 94 7 b (off+(k+1)*7) (l.length-k) E ⟨b,off+k*7,none⟩ (l.length+1-k) K (l.length-k) _ cur _ underlying71 area_size (by simp only[vK];split<;>omega) hM I (λj v A=>by rw[oF,I.cell];exact hN j v A) (by omega) (λv L=>uk _ v L)
  have hQ:∀W C E,aK W b (dO cur (off+(k+1)*7) ((l.drop k).flatMap fZ)) 94->aK W g (lW x) 94->(Builtin.copy_ #[71,71] C #[.slice (some ⟨b,off+k*7,none⟩) (l.length+1-k) E,.slice (some ⟨g,0,none⟩) 1 1]).run Tryz.prog W = .ok (goInt (1:Nat)) (W.setCells b (off+k*7) (fZ x)):=λW C E I Y=>
   lu W _ _ C 94 7 b (off+k*7) (l.length+1-k) E ⟨g,0,none⟩ 1 1 1 _ _ _ underlying71 area_size (by simp only[vK];split<;>omega) rfl I (λj v A=>by rw[oF,Y.cell,dL];simpa[fZ]using A) (by rw[size_putAt,jZ];omega) (λv L=>KX x v L)
  have hy:=λO S=>hA O S w rfl;clear hA;go_enter func186,ntmps186
  go_wp2_with (simp only[hy])
  go_region_law (refine Am rfl _ _ 71 71 rfl (.slice (some ⟨b,off+(k+1)*7,none⟩) (l.length-k) (c-(k+1))) (.slice (some ⟨b,off+k*7,none⟩) (l.length+1-k) (c-k)) (by simp[Act.eval,Act.put]) (by simp[Act.eval,Act.put]) (hR _ _ _ _ N.drew) ?_)
  have p:=(N.drew).setCells ((l.drop k).flatMap fZ) (off+(k+1)*7);have hm:aK (w.drew.setCells b (off+(k+1)*7) ((l.drop k).flatMap fZ)) g (lW x) 94:=J.drew.grown (aD _ _ _ _) (λe=>hL (aU e).symm);have d:w.grownBy (w.drew.setCells b (off+(k+1)*7) ((l.drop k).flatMap fZ)) (some b):=gu (a:=w) (b:=w.drew) (row:=some b) ⟨rfl,rfl,rfl,aC _,λ_ _ _=>rfl⟩ (aD w.drew _ _ _);generalize w.drew.setCells b (off+(k+1)*7) ((l.drop k).flatMap fZ)=W1 at *
  go_wp2_with (at_builtin;refine VT _ rfl _ _ 71 71 rfl _ _ rfl rfl (hQ _ _ _ p hm) ?_)
  have hn:=p.setCells (fZ x) (off+k*7);have o:w.grownBy (W1.setCells b (off+k*7) (fZ x)) (some b):=gu d (aD _ _ _ _);go_wp2;go_ret;refine⟨_,rfl,⟨by rw[GG];simp only[fI,nz,jZ,eG,sU];omega,.inr ⟨b,off,c,_,rfl,hBb,hn,M,R,by rw[size_putAt,size_putAt];exact X,IU U ?_ ?_ ?_⟩⟩,o⟩
  ·intro j u A;have s:j<k*7:=by have:=(dw.1 A).1;rw[nz,eG]at this;omega
   rw[putAt_out _ _ _ _ (by omega),putAt_out _ _ _ _ (by omega)];exact hw j u A
  ·intro j u A;exact putAt_in _ _ _ j u (by rw[size_putAt,jZ];omega) A
  intro j u A;rw[putAt_out _ _ _ _ (by rw[jZ];omega)];exact putAt_in _ _ _ j u (by omega) A
 have hc:c=l.length:=by omega
 subst hc;obtain⟨i0,h3,hU,hT,hr⟩:=info_parts area_info;have hX:(l.length:Int)<(l.length:Int)+1:=by omega
 have kb:¬((l.length:Int)+1<=(l.length:Int)):=by omega
 have hS:k+1<=l.length:=by omega
 have kh:IntKind.i64.wrap ((l.length:Int)+1-(k:Int))=((l.length+1-k:Nat):Int):=by rw[dz _ (by omega)];omega
 have ka : (l.length:Int)+1-(k:Int)=((l.length+1-k:Nat):Int):=by omega
 have hJ:k+(l.length+1-k)=l.length+1:=by omega
 have ht:((l.take k).flatMap fZ).length=k*7:=by rw[nz,eG,uW U]
 have y:(Builtin.firstCells i0.size k (.slice (some ⟨b,off,none⟩) k l.length)).run Tryz.prog w.drew = .ok ((l.take k).flatMap fZ).toArray w.drew:=by rw[hT];exact run_firstCells_some w.drew 7 k ⟨b,off,none⟩ k l.length _ ht (λj v A=>by rw[oF,N.drew.cell];exact hw j v A)
 have r:∀C,(Builtin.append_ #[71,3] C #[.slice (some ⟨b,off,none⟩) k l.length,.int .i64 ((l.length+1-k:Nat):Int)]).run Tryz.prog w =
   .ok (.slice (some ⟨w.heap.size,0,none⟩) (l.length+1) (grownCap w (l.length+1) l.length 94)) (w.drew.alloc (.cells (((l.take k).flatMap fZ).toArray++Builtin.zeroCells (lW zAr) (l.length+1-k)++Builtin.zeroCells (lW zAr) (grownCap w (l.length+1) l.length 94-(l.length+1))) 94)):=λC=>by
  have h:=Lib.run_append_grow_zeros w 71 3 C 94 i0 _ .i64 .i64 underlying71 underlying3 h3 hU (some ⟨b,off,none⟩) k l.length ((l.take k).flatMap fZ) y (l.length+1-k) (by omega) (by omega) (by omega) (by omega) (by rw[hr];omega) (by rw[hr,hJ];exact growslice_fits (by omega) (by omega));rw[hJ]at h;exact h
 obtain⟨G,V⟩:∃G,G=grownCap w (l.length+1) l.length 94:=⟨_,rfl⟩;have h9:l.length+1<=G:=by rw[V];exact grownCap_ge w _ _ _
 have hd:G<=maxLen:=by rw[V];exact grownCap_le_maxLen w _ _ _ (by unfold maxLen;omega)
 obtain⟨D,m⟩:∃D:Array Value,D=((l.take k).flatMap fZ).toArray++Builtin.zeroCells (lW zAr) (l.length+1-k)++Builtin.zeroCells (lW zAr) (G-(l.length+1)):=⟨_,rfl⟩;rw[<-V,<-m]at r;have kn:D.size=G*7:=by rw[m];simp[Builtin.zeroCells,lW,ht];omega
 have h8:∀(j:Nat) (u:Value),((l.take k).flatMap fZ)[j]?=some u->D[j]?=some u:=by intro j u A;have s:=(dw.1 A).1;rw[m,Array.append_assoc,Array.getElem?_append_left (by simpa using s)];simpa using A
 clear y m V;obtain⟨W1,n⟩:∃W1,W1=w.drew.alloc (.cells D 94):=⟨_,rfl⟩;rw[<-n]at r;have hE:aK W1 w.heap.size D 94:=by rw[n];exact aK.new w.drew D _
 have d:w.grownBy W1 (some b):=by rw[n];exact gu (a:=w) (b:=w.drew) (row:=some b) ⟨rfl,rfl,rfl,aC _,λ_ _ _=>rfl⟩ (Kl _ _ _)
 have p:aK W1 b cur 94:=by rw[n];exact N.drew.alloc _
 have hm:aK W1 g (lW x) 94:=by rw[n];exact J.drew.alloc _
 clear n;have h5:w.heap.size≠b:=by omega
 have kk:w.heap.size≠g:=by omega
 have hP:∀W C E,aK W w.heap.size D 94->aK W g (lW x) 94->(Builtin.copy_ #[71,71] C #[.slice (some ⟨w.heap.size,k*7,none⟩) (l.length+1-k) E,.slice (some ⟨g,0,none⟩) 1 1]).run Tryz.prog W = .ok (goInt (1:Nat)) (W.setCells w.heap.size (k*7) (fZ x)):=λW C E I Y=>
  lu W _ _ C 94 7 w.heap.size (k*7) (l.length+1-k) E ⟨g,0,none⟩ 1 1 1 _ _ _ underlying71 area_size (by simp only[vK];split<;>omega) rfl I (λj v A=>by rw[oF,Y.cell,dL];simpa[fZ]using A) (by rw[jZ];omega) (λv L=>KX x v L)
 have hO:∀W C E K,aK W w.heap.size (dO D (k*7) (fZ x)) 94->aK W b cur 94->(Builtin.copy_ #[71,71] C #[.slice (some ⟨w.heap.size,(k+1)*7,none⟩) (l.length-k) E,.slice (some ⟨b,off+k*7,none⟩) (l.length-k) K]).run Tryz.prog W = .ok (goInt (l.length-k:Nat)) (W.setCells w.heap.size ((k+1)*7) ((l.drop k).flatMap fZ)):=λW C E K I h7=>
  lu W _ _ C 94 7 w.heap.size ((k+1)*7) (l.length-k) E ⟨b,off+k*7,none⟩ (l.length-k) K (l.length-k) _ _ _ underlying71 area_size (by simp only[vK];split<;>omega) hM I (λj v A=>by rw[oF,h7.cell];exact hN j v A) (by rw[size_putAt];omega) (λv L=>uk _ v L)
 have ko:¬(G=k):=by omega
 have kc:¬(G=k+1):=by omega
 have h2:(0:Int)<=(k:Int)+1:=by omega
 have h6:(k:Int)<=(l.length:Int)+1:=by omega
 have hF:=hd;unfold maxLen at hF;go_enter func186,ntmps186
 go_wp2_with (at_builtin;refine Lib.wpList_append_run _ rfl _ _ _ _ rfl _ _ rfl rfl _ _ (r _) ?_)
 have hD:=hE.setCells (fZ x) (k*7);have hn:aK (W1.setCells w.heap.size (k*7) (fZ x)) b cur 94:=p.grown (aD _ _ _ _) (λe=>h5 (aU e));have o:∀q,q<w.heap.size->q≠b->(W1.setCells w.heap.size (k*7) (fZ x)).heap[q]?=w.heap[q]?:=λq hq hf=>
  ((aD W1 w.heap.size (k*7) (fZ x)).block q (jq hq d.size) (λe=>by have:=aU e;omega)).trans (d.block q hq (λe=>hf (aU e)))
 have hZ:=(aD W1 w.heap.size (k*7) (fZ x)).os.trans d.os;have hV:=(aD W1 w.heap.size (k*7) (fZ x)).tape.trans d.tape;have hY:=(aD W1 w.heap.size (k*7) (fZ x)).output.trans d.output;have t:=aX d.size (aD W1 w.heap.size (k*7) (fZ x)).size;generalize W1.setCells w.heap.size (k*7) (fZ x)=W2 at *
 clear hE hm p r hP
 go_region_law (refine Am rfl _ _ 71 71 rfl (.slice (some ⟨w.heap.size,(k+1)*7,none⟩) (l.length-k) (G-(k+1))) (.slice (some ⟨b,off+k*7,none⟩) (l.length-k) (l.length-k)) (by simp[Act.eval,Act.put]) (by simp[Act.eval,Act.put]) (hO _ _ _ _ hD.drew hn.drew) ?_)
 have h0:=hD.drew.setCells ((l.drop k).flatMap fZ) ((k+1)*7);have f:=aD W2.drew w.heap.size ((k+1)*7) ((l.drop k).flatMap fZ);have hK:w.grownBy (W2.drew.setCells w.heap.size ((k+1)*7) ((l.drop k).flatMap fZ)) (some b):=
  ⟨f.os.trans hZ,f.tape.trans hV,f.output.trans hY,aX t f.size,λq hq hf=>(f.block q (jq hq t) (λe=>by have:=aU e;omega)).trans (o q hq (λe=>hf (by rw[e])))⟩
 go_wp2;go_ret;refine⟨_,rfl,⟨by rw[GG];simp only[fI,nz,jZ,eG,sU];omega,.inr ⟨w.heap.size,0,G,_,rfl,hB,h0,h9,hd,by rw[size_putAt,size_putAt];omega,IU U ?_ ?_ ?_⟩⟩,hK⟩
 ·intro j u A;have s:j<k*7:=by have:=(dw.1 A).1;rw[nz,eG]at this;omega
  rw[dL,putAt_out _ _ _ _ (by omega),putAt_out _ _ _ _ (by omega)];exact h8 j u A
 ·intro j u A;have s:j<7:=by have:=(dw.1 A).1;rwa [jZ]at this
  rw[dL,putAt_out _ _ _ _ (by omega)];exact putAt_in _ _ _ j u (by rw[jZ];omega) A
 intro j u A;rw[dL];exact putAt_in _ _ _ j u (by rw[size_putAt];omega) A
theorem Ve(l:List Ar)(n:Int)(a:Option Addr)(c:Nat)(w:World)(D:eD w a (l.flatMap fZ))(N:l.length<=1000)(J:∀x∈l,uG x) :
    Calls Tryz.prog 145 #[.slice a l.length c,.int .i64 n] w λr w'=>r = .returned (.int .i64 (uM l n))/\Below w.heap.size w w':=by
  go_enter func145,ntmps145;go_upto_region 3 with(fail)
  go_loopw [10,5] (fun i s wr => ∃(k:Nat) (t:Int),k<=l.length/\i = .int .i64 k/\s = .int .i64 t/\0<=t/\t<=64/\Below w.heap.size w wr/\Hid (oh n 0 l=oh n t (l.drop k))) (fun i _ _=>l.length-(intOf i).toNat)
  case atStart=>exact⟨0,0,bN _,rfl,rfl,by decide,by decide,Below.refl _ _,ae rfl⟩
  case round=>
    obtain⟨k,t,O,rfl,rfl,p,o,d,f⟩:=hrel
    by_cases C:k<l.length
    · obtain⟨b,off,rfl,M,c1,c2,c3,c4,L,K⟩:=GK (D.below d) k C;obtain⟨U,S,R⟩:=J l[k] (fA _);have e : Hid (oh n 0 l=if n<=l[k].fr-t then t else oh n (if t<l[k].en then l[k].en else t) (l.drop (k+1))):=ae (by rw[f.out,xL C,MV]);generalize l[k]=A at *
      have m:IntKind.i64.wrap (A.fr-t)=A.fr-t:=dz _ (by omega);clear f;go_upto_region 5 with(fail);refine iP (λW=>Code.wp _ _ _ _ W) λV g h j => ?_;clear j M c1 c2 c3 c4 L K;have d:=ah d g;have q:=h.cell;clear g
      by_cases E:n<=A.fr-t
      · have z:Hid (oh n 0 l=t):=ae (by rw[e.out,if_pos E]);clear e
        by_cases G:n<1
        · have y:Hid (uM l n = -1):=ae (by unfold uM;rw[if_pos (.inl G)]);go_wp2;go_ret;exact⟨bI y.out.symm,d⟩
        have I:IntKind.i64.wrap (64-t)=64-t:=dz _ (by omega)
        by_cases F:64-t<n
        · first
          | (exfalso;omega)
          | (have y:Hid (uM l n = -1):=ae (by unfold uM;rw[z.out,if_pos (.inr F)])
             go_wp2;go_ret;exact⟨bI y.out.symm,d⟩)
        have y:Hid (uM l n=t):=ae (by unfold uM;rw[z.out,if_neg (by omega)]);go_wp2;go_ret;exact⟨bI y.out.symm,d⟩
      by_cases H:t<A.en
      · have z:Hid (oh n 0 l=oh n A.en (l.drop (k+1))):=ae (by rw[e.out,if_neg E,if_pos H]);clear e;go_wp2;go_roundw
        case rel=>exact⟨k+1,A.en,by omega,by go_num,rfl,by omega,by omega,d,z⟩
        case measure=>simp[intOf];omega
      have z:Hid (oh n 0 l=oh n t (l.drop (k+1))):=ae (by rw[e.out,if_neg E,if_neg H]);clear e;go_wp2;go_roundw
      case rel=>exact⟨k+1,t,by omega,by go_num,rfl,by omega,by omega,d,z⟩
      case measure=>simp[intOf];omega
    have z:Hid (oh n 0 l=t):=ae (by rw[f.out,tu (by omega)];rfl);clear f
    by_cases G:n<1
    · have y:Hid (uM l n = -1):=ae (by unfold uM;rw[if_pos (.inl G)]);go_wp2;go_ret;exact⟨bI y.out.symm,d⟩
    have I:IntKind.i64.wrap (64-t)=64-t:=dz _ (by omega)
    by_cases F:64-t<n
    · first
      | (exfalso;omega)
      | (have y:Hid (uM l n = -1):=ae (by unfold uM;rw[z.out,if_pos (.inr F)])
         go_wp2;go_ret;exact⟨bI y.out.symm,d⟩)
    have y:Hid (uM l n=t):=ae (by unfold uM;rw[z.out,if_neg (by omega)]);go_wp2;go_ret;exact⟨bI y.out.symm,d⟩
def Dn(B:Nat)(m:List Ar):oW:=⟨λv w => ∃u,v = .tuple #[if 16<m.length then .slice none 0 0 else u,.int .i64 (zM m.length)]/\Own w B 94 7 u m.length (m.flatMap fZ),λ_ _ _ hb ⟨u,h1,h2⟩=>⟨u,h1,h2.below hb⟩⟩
def XH(x:Ar):oW:=⟨λv w => ∃g,v = .slice (some ⟨g,0,none⟩) 1 1/\aK w g (lW x) 94,λ_ _ _ hb ⟨g,h1,h2⟩=>⟨g,h1,h2.ext hb⟩⟩
theorem Rk{l:List Ar}{x:Ar}(h:Own w B 94 7 v l.length (l.flatMap fZ))(f:aK w g (lW x) 94)(A:¬x∈l)(E:0<l.length):∀b,v.ownBlock=some b->g≠b:=by
 rintro b z rfl;rcases h with⟨m,⟨rfl,_⟩|⟨S,off,cap,cur,rfl,O,q,d,N,M,C⟩⟩
 ·cases z
 cases z;unfold aK at q f;rw[q]at f;simp only[fM,rM,and_true]at f;subst f;have R:(lW x).size=7:=rfl;have D:off=0:=by omega
 subst D
 match l,E with
 | y::r,_=>
  have d:∀(j:Nat) (u:Value),(fZ y)[j]?=some u->(lW x)[j]?=some u:=by intro j u s;have:=C j u (by rw[pF,jb (by have:=(dw.1 s).1;exact this)];exact s);rwa [dL]at this
  have L:=d 0 _ rfl;have K:=d 1 _ rfl;have J:=d 2 _ rfl;have I:=d 3 _ rfl;have H:=d 4 _ rfl;have G:=d 5 _ rfl;have F:=d 6 _ rfl;simp[lW]at L K J I H G F;refine A (fq.2 (.inl ?_));cases x;cases y
  simp_all
theorem LX{m:List Ar}(h:Own w B 94 7 u m.length (m.flatMap fZ)):Own w B 94 7 (if 16<m.length then .slice none 0 0 else u) (if 16<m.length then[]else m).length ((if 16<m.length then[]else m).flatMap fZ):=by
 split
 ·exact Own.nil _ _ _ _
 ·exact h
theorem YM(l:List Ar)(x:Ar)(a:Option Addr)(c:Nat)(w:World)(h:Vh w a c l) :
  Calls Tryz.prog 146 #[.slice a l.length c,.agg (lW x)] w λr w' => ∃v,r = .returned (.tuple #[v,.int .i64 (oH l x)])/\Own w' w.heap.size 94 7 v (jl l x).length ((jl l x).flatMap fZ)/\Below w.heap.size w w':=by
 have ht:=aX h.le h.mx;unfold maxLen at ht;go_enter func146,ntmps146;go_upto_region 1 with(fail);refine iP (λW=>Code.wp _ _ _ _ W) λW0 hQ h8 kc => ?_;clear kc
 go_wp2_with fail
 refine(Gh l a c _ (h.below hQ).rd ht).mono ?_;rintro r w1 ⟨rfl,j⟩;have hk:=ah hQ j;have h4:=h8.ext j;clear hQ h8 j;unfold Xa
 go_wp2_with (refine aT #[.int .i64 (dY l).1,.int .i64 (dY l).2] fau_size (zw _ _) ?_)
 intro w2 hP hu;have b:=ah hk hP;have hH:=h4.ext hP;clear hk h4 hP
 by_cases f:(dY l).1=0
 ·have m:=ug f;have hI:=ae f;rw[f]at hu;have h9:=hu.cell;clear f
  go_wp2_with fail
  refine(Ml w.heap.size 0 x _ (Af.blk hH)).mono ?_;rintro r w3 ⟨rfl,hO⟩;have b:=ah b hO;have hG:=hH.ext hO;clear h9 hu hH hO
  by_cases J:dM x=0
  ·have hL:=ae J;rw[J];clear J
   go_wp2_with fail
   refine(MG l a c _ (h.below b).rd ht w.heap.size x hG).mono ?_;rintro r w4 ⟨rfl,hN⟩;have b:=ah b hN;have hF:=hG.ext hN;clear hG hN;cases hm:l.any (jA x)
   ·have kd:=m.1;have hJ:=gN hL.out;have hY:Hid (¬x∈l):=ae (λhx=>by
     have h1:jA x x=true:=by unfold jA;rw[decide_eq_true hJ.2.1];rfl
     have h2:=kW.2 ⟨x,hx,h1⟩;rw[hm]at h2;cases h2)
    have hv:Hid (∀y∈fo l x,uG y):=ae (λy hy=>by
     rcases Wi hy with rfl|hy
     ·exact hJ.1
     ·exact(gN (m.2 y hy)).1)
    have ha:Hid (oH l x=zM (bW (fo l x)).length):=ae (by unfold oH;rw[if_neg (by rw[hI.out];simp),if_neg (by rw[hL.out];simp),if_neg (by rw[hm];simp)];rfl);clear hm hJ m
    go_wp2_with fail
    refine(Ip l a c _ (h.below b).rd ht w.heap.size x hF).mono ?_;rintro r w5 ⟨rfl,hM⟩;have b:=ah b hM;have hZ:=hF.ext hM;clear hF hM;cases hq:l.findIdx? (mP x)with
    | none=>
     have hK:l.length<=l.length:=aC _;have hf:Hid (JH l x=l.length):=ae (by unfold JH;rw[hq]);have X:idx (mP x) l = -1:=by unfold idx;rw[hq]
     rw[X];clear X hq;go_upto_region 12 with(fail);refine Md 5 10 [fQ (.slice a l.length c),(il w.heap.size 94 7 l.length (l.flatMap fZ)),fQ (.int .i64 (l.length:Int)),fQ (.agg (lW x)),(XH x),il w.heap.size 94 7 (fo l x).length ((fo l x).flatMap fZ),(il w.heap.size 94 7 (bW (fo l x)).length ((bW (fo l x)).flatMap fZ)),(Dn w.heap.size (bW (fo l x))),(il w.heap.size 94 7 (if 16<(bW (fo l x)).length then[]else bW (fo l x)).length ((if 16<(bW (fo l x)).length then[]else bW (fo l x)).flatMap fZ)),fQ (.int .i64 (zM (bW (fo l x)).length))] (λW=>Below w.heap.size w W) (λ_ _ h H=>ah H h) (λ_ F=>ah b F) (by kernel_rfl) (by kernel_rfl) (by kernel_rfl) (by kernel_rfl) (by decide) (by decide) _ rfl (by kernel_rfl) (aj ?_ (aj ?_ (aj ?_ (aj ?_ (aj ?_ (aH)))))) (aj ?_ (aj ?_ (aj ?_ (aj ?_ (aH))))) ?_ ?_
     ·intro ρ y W f A F C;have E0:ρ (.tmp 0) = .slice a l.length c:=(A (.tmp 0) rfl).trans rfl;refine ak (.slice a l.length c) (run_move (.inl rfl) E0)
     ·intro ρ y W f A F C;have hX:=f 30 0 rfl;have h0:y 0=_:=C 0 rfl;have D:=eF0 A λ_=>trivial;refine aL (aW rfl (D _) func62 (by simp only[bU,bM,bP,hX,h0,D];rfl)) ?_;refine(vE l a c W h.le h.nl (h.below (ah b F)).rd (by omega)).mono ?_;rintro e w1 ⟨u,rfl,I,j⟩;exact⟨u,rfl,j,I.mono (aX b.size F.size)⟩
     ·intro ρ y W f A F C;have E8:ρ (.tmp 8) = .int .i64 (l.length:Int):=(A (.tmp 8) rfl).trans rfl;refine ak (.int .i64 (l.length:Int)) (run_move (.inl rfl) E8)
     ·intro ρ y W f A F C;have E3:ρ (.tmp 3) = .pointer (some ⟨w.heap.size,0,none⟩):=(A (.tmp 3) rfl).trans rfl;refine ak (.agg (lW x)) (cz rfl E3 (hZ.ext F) underlying94 area_size)
     ·intro ρ y W f A F C;have hV:=f 33 3 rfl;have h3:y 3=_:=C 3 rfl;refine gM (.slice (some ⟨W.heap.size,0,none⟩) 1 1) (ag) (by simp[execOp,go_sem,hV,h3,lW]) ((Below.refl _ _).alloc (aC _) (.cells (lW x) 94)) ?_;exact⟨_,rfl,aK.new _ _ _⟩
     ·intro ρ y W f A H C;have hT:=f 35 5 rfl;have M:(il w.heap.size 94 7 (fo l x).length ((fo l x).flatMap fZ)).r (y 5) W:=C 5 rfl;have D:=eF0 A λ_=>trivial;obtain⟨a5,c5,hR,M⟩:=Vh.of M;refine aL (aW rfl (D _) func185 (by simp only[bU,bM,bP,hT,D,hR];rfl)) ?_;refine(Nq (fo l x) a5 c5 W M.rd (by rw[Bf];omega) hv.out).mono ?_;rintro e w1 ⟨u,rfl,I,j⟩;exact⟨u,rfl,j,I.mono H.size⟩
     ·intro ρ y W f A H C;have hS:=f 36 6 rfl;have h6:((il w.heap.size 94 7 (bW (fo l x)).length ((bW (fo l x)).flatMap fZ))).r (y 6) W:=C 6 rfl;have D:=eF0 A λ_=>trivial;obtain⟨a6,c6,U,S⟩:=Vh.of h6;refine aL (aW rfl (D _) func184 (by simp only[bU,bM,bP,hS,D,U];rfl)) ?_;refine(MQ a6 (bW (fo l x)).length c6 W (aX (aX S.le S.mx) (by decide))).mono ?_;rintro e w1 ⟨rfl,rfl⟩;exact⟨_,rfl,Below.refl _ _,_,rfl,by rw[<-U];exact h6⟩
     ·intro ρ y W f A H C;have z:=f 37 7 rfl;have L:((Dn w.heap.size (bW (fo l x)))).r (y 7) W:=C 7 rfl;obtain⟨v7,t,V⟩:=L;refine ak _ (by simp[execOp,go_sem,z,t]<;>rfl) (m:=?_);exact LX V
     ·intro ρ y W f A H C;have z:=f 37 7 rfl;have L:((Dn w.heap.size (bW (fo l x)))).r (y 7) W:=C 7 rfl;obtain⟨v7,t,V⟩:=L;refine ak _ (by simp[execOp,go_sem,z,t]<;>rfl)
     ·intro ρ y E o I f A i d;cases I;have kb:y 0=_:=d 0 (by decide);have p:((il w.heap.size 94 7 l.length (l.flatMap fZ))).r (y 1) E:=d 1 (by decide);have hE:y 2=_:=d 2 (by decide);have ka:y 3=_:=d 3 (by decide);have hD:((XH x)).r (y 4) E:=d 4 (by decide);have hW:=f 31 1 rfl;have R:=f 32 2 rfl;rw[hE]at R;have hU:=f 34 4 rfl;have EC:∀v,ρ (.const v)=v:=λv=>A (.const v) trivial;have D:=eF0 A λ_=>trivial;refine Cg _ _ (ag) (aW rfl (D _) func186 (by simp only[bU,bM,bP,hW,R,hU,EC,D];rfl)) ?_;obtain⟨g,e4,Z⟩:=hD;rw[e4];refine(EW l x (l.length) hK (y 1) w.heap.size g E p (aX b.size i.size) (by omega) Z (λke=>Rk p Z hY.out (by omega))).mono ?_;rintro r w6 ⟨N,rfl,s,hj⟩;refine⟨N,rfl,(ah b i).grown hj (aX b.size i.size) p.ge,?_⟩;show Own w6 w.heap.size _ 7 N (fo l x).length ((fo l x).flatMap fZ);rw[Bf];unfold fo;rw[hf.out];exact s
     intro y E k d;have hC:(il w.heap.size 94 7 (fo l x).length ((fo l x).flatMap fZ)).r (y 5) E:=d 5 (by decide) (by decide);have hA:((il w.heap.size 94 7 (bW (fo l x)).length ((bW (fo l x)).flatMap fZ))).r (y 6) E:=d 6 (by decide) (by decide);have hz:((Dn w.heap.size (bW (fo l x)))).r (y 7) E:=d 7 (by decide) (by decide);have n:((il w.heap.size 94 7 (if 16<(bW (fo l x)).length then[]else bW (fo l x)).length ((if 16<(bW (fo l x)).length then[]else bW (fo l x)).flatMap fZ))).r (y 8) E:=d 8 (by decide) (by decide);have hc:y 9 = .int .i64 (zM (bW (fo l x)).length):=d 9 (by decide) (by decide);clear d;simp only[lay,Nat.reduceAdd,Nat.reduceLT,Nat.reduceEqDiff,reduceIte,decide_true,decide_false,if_true,oz,if_false,rD,qV,rf,rF,rC,rH,hc];clear hc;replace k:Below w.heap.size w E:=k;have Y:Hid (jl l x=if 16<(bW (fo l x)).length then[]else bW (fo l x)):=ae (by
      unfold jl;rw[ha.out];unfold zM
      by_cases G:16<(bW (fo l x)).length
      ·rw[if_pos G,if_pos G];rfl
      ·rw[if_neg G,if_neg G];rfl)
     replace n:Own E w.heap.size 94 7 (y 8) (jl l x).length ((jl l x).flatMap fZ):=by rw[Y.out];exact n
     clear hC hA hz Y;go_wp2;go_ret2;exact⟨y 8,by rw[ha.out];rfl,n,k⟩
    | some K=>
     have hK:K<=l.length:=vI (rz.1 hq).1;have hf:Hid (JH l x=K):=ae (by unfold JH;rw[hq]);have X:idx (mP x) l=(K:Int):=by unfold idx;rw[hq]
     rw[X];clear X hq;go_upto_region 12 with(fail);refine Md 5 10 [fQ (.slice a l.length c),(il w.heap.size 94 7 l.length (l.flatMap fZ)),fQ (.int .i64 (K:Int)),fQ (.agg (lW x)),(XH x),il w.heap.size 94 7 (fo l x).length ((fo l x).flatMap fZ),(il w.heap.size 94 7 (bW (fo l x)).length ((bW (fo l x)).flatMap fZ)),(Dn w.heap.size (bW (fo l x))),(il w.heap.size 94 7 (if 16<(bW (fo l x)).length then[]else bW (fo l x)).length ((if 16<(bW (fo l x)).length then[]else bW (fo l x)).flatMap fZ)),fQ (.int .i64 (zM (bW (fo l x)).length))] (λW=>Below w.heap.size w W) (λ_ _ h H=>ah H h) (λ_ F=>ah b F) (by kernel_rfl) (by kernel_rfl) (by kernel_rfl) (by kernel_rfl) (by decide) (by decide) _ rfl (by kernel_rfl) (aj ?_ (aj ?_ (aj ?_ (aj ?_ (aj ?_ (aH)))))) (aj ?_ (aj ?_ (aj ?_ (aj ?_ (aH))))) ?_ ?_
     ·intro ρ y W f A F C;have E0:ρ (.tmp 0) = .slice a l.length c:=(A (.tmp 0) rfl).trans rfl;refine ak (.slice a l.length c) (run_move (.inl rfl) E0)
     ·intro ρ y W f A F C;have hX:=f 30 0 rfl;have h0:y 0=_:=C 0 rfl;have D:=eF0 A λ_=>trivial;refine aL (aW rfl (D _) func62 (by simp only[bU,bM,bP,hX,h0,D];rfl)) ?_;refine(vE l a c W h.le h.nl (h.below (ah b F)).rd (by omega)).mono ?_;rintro e w1 ⟨u,rfl,I,j⟩;exact⟨u,rfl,j,I.mono (aX b.size F.size)⟩
     ·intro ρ y W f A F C;have E8:ρ (.tmp 8) = .int .i64 (K:Int):=(A (.tmp 8) rfl).trans rfl;refine ak (.int .i64 (K:Int)) (run_move (.inl rfl) E8)
     ·intro ρ y W f A F C;have E3:ρ (.tmp 3) = .pointer (some ⟨w.heap.size,0,none⟩):=(A (.tmp 3) rfl).trans rfl;refine ak (.agg (lW x)) (cz rfl E3 (hZ.ext F) underlying94 area_size)
     ·intro ρ y W f A F C;have hV:=f 33 3 rfl;have h3:y 3=_:=C 3 rfl;refine gM (.slice (some ⟨W.heap.size,0,none⟩) 1 1) (ag) (by simp[execOp,go_sem,hV,h3,lW]) ((Below.refl _ _).alloc (aC _) (.cells (lW x) 94)) ?_;exact⟨_,rfl,aK.new _ _ _⟩
     ·intro ρ y W f A H C;have hT:=f 35 5 rfl;have M:(il w.heap.size 94 7 (fo l x).length ((fo l x).flatMap fZ)).r (y 5) W:=C 5 rfl;have D:=eF0 A λ_=>trivial;obtain⟨a5,c5,hR,M⟩:=Vh.of M;refine aL (aW rfl (D _) func185 (by simp only[bU,bM,bP,hT,D,hR];rfl)) ?_;refine(Nq (fo l x) a5 c5 W M.rd (by rw[Bf];omega) hv.out).mono ?_;rintro e w1 ⟨u,rfl,I,j⟩;exact⟨u,rfl,j,I.mono H.size⟩
     ·intro ρ y W f A H C;have hS:=f 36 6 rfl;have h6:((il w.heap.size 94 7 (bW (fo l x)).length ((bW (fo l x)).flatMap fZ))).r (y 6) W:=C 6 rfl;have D:=eF0 A λ_=>trivial;obtain⟨a6,c6,U,S⟩:=Vh.of h6;refine aL (aW rfl (D _) func184 (by simp only[bU,bM,bP,hS,D,U];rfl)) ?_;refine(MQ a6 (bW (fo l x)).length c6 W (aX (aX S.le S.mx) (by decide))).mono ?_;rintro e w1 ⟨rfl,rfl⟩;exact⟨_,rfl,Below.refl _ _,_,rfl,by rw[<-U];exact h6⟩
     ·intro ρ y W f A H C;have z:=f 37 7 rfl;have L:((Dn w.heap.size (bW (fo l x)))).r (y 7) W:=C 7 rfl;obtain⟨v7,t,V⟩:=L;refine ak _ (by simp[execOp,go_sem,z,t]<;>rfl) (m:=?_);exact LX V
     ·intro ρ y W f A H C;have z:=f 37 7 rfl;have L:((Dn w.heap.size (bW (fo l x)))).r (y 7) W:=C 7 rfl;obtain⟨v7,t,V⟩:=L;refine ak _ (by simp[execOp,go_sem,z,t]<;>rfl)
     ·intro ρ y E o I f A i d;cases I;have kb:y 0=_:=d 0 (by decide);have p:((il w.heap.size 94 7 l.length (l.flatMap fZ))).r (y 1) E:=d 1 (by decide);have hE:y 2=_:=d 2 (by decide);have ka:y 3=_:=d 3 (by decide);have hD:((XH x)).r (y 4) E:=d 4 (by decide);have hW:=f 31 1 rfl;have R:=f 32 2 rfl;rw[hE]at R;have hU:=f 34 4 rfl;have EC:∀v,ρ (.const v)=v:=λv=>A (.const v) trivial;have D:=eF0 A λ_=>trivial;refine Cg _ _ (ag) (aW rfl (D _) func186 (by simp only[bU,bM,bP,hW,R,hU,EC,D];rfl)) ?_;obtain⟨g,e4,Z⟩:=hD;rw[e4];refine(EW l x (K) hK (y 1) w.heap.size g E p (aX b.size i.size) (by omega) Z (λke=>Rk p Z hY.out (by omega))).mono ?_;rintro r w6 ⟨N,rfl,s,hj⟩;refine⟨N,rfl,(ah b i).grown hj (aX b.size i.size) p.ge,?_⟩;show Own w6 w.heap.size _ 7 N (fo l x).length ((fo l x).flatMap fZ);rw[Bf];unfold fo;rw[hf.out];exact s
     intro y E k d;have hC:(il w.heap.size 94 7 (fo l x).length ((fo l x).flatMap fZ)).r (y 5) E:=d 5 (by decide) (by decide);have hA:((il w.heap.size 94 7 (bW (fo l x)).length ((bW (fo l x)).flatMap fZ))).r (y 6) E:=d 6 (by decide) (by decide);have hz:((Dn w.heap.size (bW (fo l x)))).r (y 7) E:=d 7 (by decide) (by decide);have n:((il w.heap.size 94 7 (if 16<(bW (fo l x)).length then[]else bW (fo l x)).length ((if 16<(bW (fo l x)).length then[]else bW (fo l x)).flatMap fZ))).r (y 8) E:=d 8 (by decide) (by decide);have hc:y 9 = .int .i64 (zM (bW (fo l x)).length):=d 9 (by decide) (by decide);clear d;simp only[lay,Nat.reduceAdd,Nat.reduceLT,Nat.reduceEqDiff,reduceIte,decide_true,decide_false,if_true,oz,if_false,rD,qV,rf,rF,rC,rH,hc];clear hc;replace k:Below w.heap.size w E:=k;have Y:Hid (jl l x=if 16<(bW (fo l x)).length then[]else bW (fo l x)):=ae (by
      unfold jl;rw[ha.out];unfold zM
      by_cases G:16<(bW (fo l x)).length
      ·rw[if_pos G,if_pos G];rfl
      ·rw[if_neg G,if_neg G];rfl)
     replace n:Own E w.heap.size 94 7 (y 8) (jl l x).length ((jl l x).flatMap fZ):=by rw[Y.out];exact n
     clear hC hA hz Y;go_wp2;go_ret2;exact⟨y 8,by rw[ha.out];rfl,n,k⟩
   have O:Hid _:=ae (JF (l:=l) (x:=x) (e:=6) (by unfold oH;rw[if_neg (by rw[hI.out];simp),if_neg (by rw[hL.out];simp),if_pos hm]) (by decide));clear hm m;go_wp2;go_ret2;have q:=O.out;exact⟨.slice none 0 0,by first | (rw[q.1];done) | (rw[q.1];rfl),by rw[q.2];exact Own.nil _ _ _ _,b⟩
  have O:Hid _:=ae (JF (l:=l) (x:=x) (e:=dM x) (by unfold oH;rw[if_neg (by rw[hI.out];simp),if_pos J]) J);have kg : (dM x != 0)=true:=by simpa using J
  clear J m;go_wp2;go_ret2;have q:=O.out;exact⟨.slice none 0 0,by first | (rw[q.1];done) | (rw[q.1];rfl),by rw[q.2];exact Own.nil _ _ _ _,b⟩
 have O:Hid _:=ae (JF (l:=l) (x:=x) (e:=(dY l).1) (by unfold oH;rw[if_pos f]) f);have kf : ((dY l).1 != 0)=true:=by simpa using f
 have h9:=hu.cell;clear f;go_upto_region 3 with(fail);go_quiet (fail);rename_i nq;have b:=below_drewN b nq;go_wp2;go_ret2;have q:=O.out;exact⟨.slice none 0 0,by first | (rw[q.1];done) | (rw[q.1];rfl),by rw[q.2];exact Own.nil _ _ _ _,b⟩
theorem yn(l:List Int)(a:Option Addr)(c:Nat)(w:World)(q:l.length<=c)(f:a=none->c=0)(m:eD w a (l.map ib))(A:l.length*8<=140737488355328) :
  Calls Tryz.prog 58 #[.slice a l.length c] w λe w' => ∃v,e = .returned v/\Own w' w.heap.size 3 1 v l.length (l.map ib)/\Below w.heap.size w w':=by
 cases a with
 | none=>
  have C:=f rfl;have y:l=[]:=kV (by omega);subst y;subst C;have s:=λW=>nN (P:=Tryz.prog) W 34 _ none 0 0 0 0 underlying34;go_enter func58,ntmps58;go_wp2;go_ret;exact⟨_,rfl,by simpa using Own.nil _ _ _ _,Below.refl _ _⟩
 | some ad=>
  have s:=λW=>nN (P:=Tryz.prog) W 34 _ (some ad) l.length c 0 0 underlying34;go_enter func58,ntmps58
  go_wp2_with (at_builtin;go_must (refine fJ 34 rfl w.heap.size 3 (.int .i64 0) 1 8 underlying34 int_info 0 [] rfl ?own (some ad) l.length c (l.map ib) rfl (λh=>(by cases h)) q (LU l) ?rd (Lt l) (by unfold maxLen;omega) (by simpa using A) ?bb ?k))
  case own=>exact⟨rfl,.inr ⟨w.heap.size,0,0,#[],rfl,aC _,aK.new _ _ _,aC _,bN _,by simp,λj u h=>by simp at h⟩⟩
  case rd=>exact m.below ((Below.refl _ _).alloc (aC _) _)
  case bb=>exact fe
  intro v w1 b d;go_wp2;go_ret;exact⟨v,rfl,by simpa using b,((Below.refl _ _).alloc (aC _) _).grown d (fe) (λk z=>by cases z;exact aC _)⟩
theorem YN(n:Int)(w:World):Calls Tryz.prog 166 #[.int .i64 n] w λe w'=>e = .returned (.bool (zG n))/\w' = w:=by
 unfold zG;go_enter func166,ntmps166;go_wp2
 all_goals
  go_ret;refine⟨cB ?_,rfl⟩;simp[*]
theorem WM(l:List Int)(a:Option Addr)(c:Nat)(w:World)(f:eD w a (l.map ib))(m:l.length<=9223372036854775807) :
  Calls Tryz.prog 197 #[.slice a l.length c,.func (.func 166) #[] #[]] w λe w'=>e = .returned (.int .i64 (idx zG l))/\w' = w:=by
 go_enter func197,ntmps197;go_wp2
 go_loopw [8] (fun i wr => ∃k:Nat,k<=l.length/\i = .int .i64 k/\wr=w/\∀i (h:i<l.length),i<k->zG l[i]=false) (fun i _=>l.length-(intOf i).toNat)
 case atStart=>exact⟨0,bN _,rfl,rfl,λi _ h=>absurd h (ig _)⟩
 case round=>
  obtain⟨k,q,rfl,rfl,j⟩:=hrel
  by_cases d:k<l.length
  ·obtain⟨b,off,rfl,s⟩:=mO f k d
   go_wp2_with fail
   refine(YN l[k] _).mono ?_;rintro e w1 ⟨rfl,rfl⟩;cases hbk:zG l[k]with
   | true=>
    go_wp2;go_ret;exact⟨bI (qH zG l k d j hbk).symm,rfl⟩
   | false=>
    go_wp2;go_roundw
    case rel=>exact⟨k+1,by omega,by go_num,trivial,upto j d hbk⟩
    case measure=>simp[intOf];omega
  go_wp2;go_ret;exact⟨bI (ll zG l λi h=>j i h (by omega)).symm,rfl⟩
theorem Hm(l:List Int)(a:Option Addr)(c:Nat)(w:World)(d:eD w a (l.map ib))(f:l.length<=9223372036854775807) :
  Calls Tryz.prog 165 #[.slice a l.length c,.func (.func 166) #[] #[]] w λe w'=>e = .returned (.bool (l.any zG))/\w' = w:=by
 rw[<-tN];go_enter func165,ntmps165
 go_wp2_with fail
 refine(WM l a c _ d f).mono ?_;rintro e w1 ⟨rfl,rfl⟩;go_wp2;go_ret;exact⟨rfl,rfl⟩
theorem xX(l:List Int)(a:Option Addr)(c:Nat)(w:World)(d:eD w a (l.map ib))(f:l.length<=9223372036854775807) :
  Calls Tryz.prog 126 #[.slice a l.length c] w λe w'=>e = .returned (.int .i64 (dZ l))/\w' = w:=by
 unfold dZ;go_enter func126,ntmps126
 by_cases h:60<l.length
 ·have j:(60:Int)<(l.length:Int):=by omega
  go_wp2;go_ret;exact⟨by simp[h],rfl⟩
 have j:¬(60:Int)<(l.length:Int):=by omega
 go_wp2_with fail
 refine(Hm l a c _ d f).mono ?_;rintro e w1 ⟨rfl,rfl⟩;cases hb:l.any zG
 all_goals
  go_wp2;go_ret;exact⟨by simp[h],rfl⟩
theorem LW(l:List Int)(a:Option Addr)(c:Nat)(w:World)(q:eD w a (l.map ib))(z:l.length<=9223372036854775807) :
  Calls Tryz.prog 210 #[.slice a l.length c,.int .i64 0] w λe w'=>e = .returned (.int .i64 (idx Kk l))/\w' = w:=by
 go_enter func210,ntmps210;go_wp2
 go_loopw [8] (fun i wr => ∃k:Nat,k<=l.length/\i = .int .i64 k/\wr=w/\∀i (h:i<l.length),i<k->Kk l[i]=false) (fun i _=>l.length-(intOf i).toNat)
 case atStart=>exact⟨0,bN _,rfl,rfl,λi _ h=>absurd h (ig _)⟩
 case round=>
  obtain⟨k,A,rfl,rfl,s⟩:=hrel
  by_cases j:k<l.length
  ·obtain⟨b,off,rfl,y⟩:=mO q k j
   by_cases m:l[k]=0
   ·have d:Kk l[k]=true:=by simp[Kk,m]
    rw[m]at y;go_wp2;go_ret;exact⟨bI (qH Kk l k j s d).symm,rfl⟩
   have d:Kk l[k]=false:=by simp[Kk,m]
   have f : ((0:Int)==l[k])=false:=by simp;omega
   go_wp2;go_roundw
   case rel=>exact⟨k+1,by omega,by go_num,trivial,upto s j d⟩
   case measure=>simp[intOf];omega
  go_wp2;go_ret;exact⟨bI (ll Kk l λi h=>s i h (by omega)).symm,rfl⟩
theorem one_cell_int:∀x:Int,([ib x]:List Value).length=1:=λ_=>rfl
theorem RO(n:Int)(w:World) :
  Calls Tryz.prog 70 #[.int .i64 n] w λe w' => ∃v,e = .returned (.tuple #[v,.int .i64 (Lf n)])/\Own w' w.heap.size 3 1 v (GJ n).length ((GJ n).map ib)/\Below w.heap.size w w':=by
 unfold Lf GJ
 by_cases h:0<=n/\n<=60
 ·obtain⟨m,rfl⟩:=lM h.1;have j:(m:Int)<=60:=h.2;rw[if_pos h,if_pos h];go_enter func70,ntmps70
  go_wp2_with (with_reducible refine zD _ rfl (.tmp 10) (.tmp 10) 34 rfl (λx=>[ib x]) 3 (.int .i64 0) 1 8 0 one_cell_int underlying34 int_info rfl .i64 .i64 m m m rfl rfl rfl rfl (by unfold maxLen;omega) ?k)
  intro w' d a;rw[pE]at d;go_wp2;go_ret2;exact⟨_,rfl,by simpa using d,(Below.refl _ _).grown a (aC _) (λk f=>by cases f)⟩
 rw[if_neg h,if_neg h];go_enter func70,ntmps70
 by_cases q:n<0
 ·go_wp2;go_ret2;exact⟨_,rfl,Own.nil _ _ _ _,Below.refl _ _⟩
 have j:60<n:=by omega
 go_wp2;go_ret2;exact⟨_,rfl,Own.nil _ _ _ _,Below.refl _ _⟩
theorem Ot(l:List Int)(a:Option Addr)(c:Nat)(n:Int)(w:World)(C:l.length<=c)(y:a=none->c=0)(q:eD w a (l.map ib))(M:l.length<=9223372036854775807) :
  Calls Tryz.prog 201 #[.slice a l.length c,.int .i64 n] w λe w' => ∃v,e = .returned (.tuple #[v,.int .i64 (kJ l n),.int .i64 (iI l n)])/\Own w' w.heap.size 3 1 v (nJ l n).length ((nJ l n).map ib)/\Below w.heap.size w w':=by
 go_enter func201,ntmps201
 go_wp2_with fail
 refine(xX l a c _ q (by omega)).mono ?_;rintro e w1 ⟨rfl,rfl⟩
 by_cases s:dZ l=0
 ·rw[s];have d:=lK s
  by_cases A:n<1\/1000<n
  ·obtain⟨m,j,h⟩:=PU s A;rcases A with A|A <;>
   go_wp2
   all_goals
    go_ret3
    try simp only[m,j,h]
    exact⟨_,rfl,Own.nil _ _ _ _,Below.refl _ _⟩
  have J:¬n<1:=by omega
  have I:¬1000<n:=by omega
  go_wp2_with fail
  refine(LW l a c _ q (by omega)).mono ?_;rintro e w2 ⟨rfl,rfl⟩;rcases yT Kk l with⟨z,_⟩|⟨k,E,z,K,_⟩
  ·obtain⟨m,j,h⟩:=OY s ⟨by omega,by omega⟩ z;rw[z];go_wp2
   go_ret3
   try simp only[m,j,h]
   exact⟨_,rfl,Own.nil _ _ _ _,Below.refl _ _⟩
  obtain⟨m,j,h⟩:=Tw s ⟨by omega,by omega⟩ z;rw[z]
  go_wp2_with fail
  refine(yn l a c _ C y q (by omega)).mono ?_;rintro e H ⟨v,rfl,D,F⟩;obtain⟨g,off,cap,rfl,G,f,O,N,b⟩:=D.put1 k E;go_wp2
  go_ret3
  try simp only[m,j,h]
  exact⟨_,rfl,by rw[bV];exact b n,F.setCell G _⟩
 obtain⟨m,j,h⟩:=Pq n s;have L:(dZ l != 0)=true:=by simpa using s
 go_wp2
 go_ret3
 try simp only[m,j,h]
 exact⟨_,rfl,Own.nil _ _ _ _,Below.refl _ _⟩
theorem zU(l:List Int)(a:Option Addr)(c:Nat)(k n:Int)(w:World)(F:l.length<=c)(E:a=none->c=0)(C:eD w a (l.map ib))(V:l.length<=9223372036854775807) :
  Calls Tryz.prog 91 #[.slice a l.length c,.int .i64 k,.int .i64 n] w λe w' => ∃v,e = .returned (.tuple #[v,.int .i64 (bK l k n)])/\Own w' w.heap.size 3 1 v (bq l k n).length ((bq l k n).map ib)/\Below w.heap.size w w':=by
 go_enter func91,ntmps91
 go_wp2_with fail
 refine(xX l a c _ C (by omega)).mono ?_;rintro e w1 ⟨rfl,rfl⟩
 by_cases z:dZ l=0
 ·rw[z];have p:=lK z
  by_cases D:k<0\/(l.length:Int)<=k
  ·obtain⟨y,s⟩:=Ju (n:=n) z (show k<0\/(l.length:Int)<=k\/GI l k=0 from by omega);rcases D with D|D <;>
   go_wp2
   all_goals
    go_ret2
    try simp only[y,s]
    exact⟨_,rfl,Own.nil _ _ _ _,Below.refl _ _⟩
  obtain⟨k,rfl⟩:=lM (show 0<=k by omega);have h:k<l.length:=by omega
  have o:¬(l.length:Int)<=(k:Int):=by omega
  obtain⟨b,off,rfl,J⟩:=mO C k h;obtain⟨N,M⟩:=Wo l k h z;have d:=XQ h
  by_cases H:l[k]=0
  ·obtain⟨y,s⟩:=Ju (n:=n) z (show(k:Int)<0\/(l.length:Int)<=k\/GI l k=0 from by omega);rw[H]at J;clear D d N M;go_wp2
   all_goals
    go_ret2
    try simp only[y,s]
    exact⟨_,rfl,Own.nil _ _ _ _,Below.refl _ _⟩
  have q : (l[k]==(0:Int))=false:=by simp;omega
  have f:¬((k:Int)<0\/(l.length:Int)<=k\/GI l k=0):=by omega
  by_cases A:n < -GI l k\/1000-GI l k<n
  ·obtain⟨y,s⟩:=PH z f A;rw[d]at A;clear d f D;rcases A with A|A <;>
   go_wp2
   all_goals
    go_ret2
    try simp only[y,s]
    exact⟨_,rfl,Own.nil _ _ _ _,Below.refl _ _⟩
  obtain⟨y,s⟩:=RG z f A;rw[d]at A s;rw[bu]at s;have S:¬n < -l[k]:=by omega
  have R:¬1000-l[k]<n:=by omega
  clear d f D A
  go_wp2_with fail
  refine(yn l _ c _ F E C (by omega)).mono ?_;rintro e O ⟨v,rfl,I,K⟩;obtain⟨g,G,cap,rfl,L,m,j,W,i⟩:=I.put1 k h;unfold ib at j;go_wp2;go_ret2
  try simp only[y,s]
  exact⟨_,rfl,by rw[bV];exact i _,K.setCell L _⟩
 obtain⟨y,s⟩:=Oz k n z;have U:(dZ l != 0)=true:=by simpa using z
 go_wp2;go_ret2
 try simp only[y,s]
 exact⟨_,rfl,Own.nil _ _ _ _,Below.refl _ _⟩
structure PS where
 lv:Bool
 aa:Option Addr
 ac:Nat
 ar:List Ar
 ts:Vector Value 8
 tb:Tb
def PS.sp(p:PS):Sp:=⟨p.lv,p.ar,p.tb⟩
def vo(v:Vector Value 8):Array Value:=#[v[0],v[1],v[2],v[3],v[4],v[5],v[6],v[7]]
theorem Xp(v:Vector Value 8):(vo v).size=8:=rfl
theorem Zl(h:cs.size=8):∃v:Vector Value 8,cs=vo v:=by
 refine⟨⟨cs,h⟩,?_⟩;apply Array.ext
 ·rw[h,Xp]
 intro i j f;have d:i<8:=by omega
 match i,d with
 | 0,_=>rfl
 | 1,_=>rfl
 | 2,_=>rfl
 | 3,_=>rfl
 | 4,_=>rfl
 | 5,_=>rfl
 | 6,_=>rfl
 | 7,_=>rfl
 | n+8,h=>omega
def CK(p:PS):Array Value:=#[.bool p.lv,.slice p.aa p.ar.length p.ac,p.ts[0],p.ts[1],p.ts[2],p.ts[3],p.ts[4],p.ts[5],p.ts[6],p.ts[7]]
def xV(p:PS):List Value:=(CK p).toList
theorem xw(p:PS):(xV p).length=10:=rfl
theorem Ev(c:Cc):(zF c).all (·.oneCell')=true:=by simp[zF,Value.oneCell']
theorem space_size:(Tryz.prog.info? 76).map (·.size)=some 10:=by kernel_rfl
theorem space_info:(Tryz.prog.info? 76).map (λi=>(i.zero,i.size,i.bytes))=some (some (.agg #[.bool false,.slice none 0 0,.slice none 0 0,.slice none 0 0,.slice none 0 0,.slice none 0 0,.slice none 0 0,.slice none 0 0,.slice none 0 0,.slice none 0 0]),10,224):=by kernel_rfl
theorem cached_size:(Tryz.prog.info? 122).map (·.size)=some 3:=by kernel_rfl
theorem cached_info:(Tryz.prog.info? 122).map (λi=>(i.zero,i.size,i.bytes))=some (some (.agg #[.int .i64 0,.int .i64 0,.int .i64 0]),3,24):=by kernel_rfl
theorem machine_size:(Tryz.prog.info? 45).map (·.size)=some 11:=by kernel_rfl
structure PS.good (w:World) (p:PS):Prop where
 ars:Vh w p.aa p.ac p.ar
 tb:NM w (vo p.ts) p.tb
theorem PS.good.below{p:PS}(h:p.good w)(d:Below w.heap.size w w'):p.good w':=⟨h.ars.below d,h.tb.below d⟩
theorem PS.good.one{p:PS}(h:p.good w):∀u∈xV p,u.oneCell' = true:=by
 have f:∀u∈(vo p.ts).toList,u.oneCell' = true:=by have:=h.tb.one;rw[<-iX,dG]at this;exact this
 intro u d;simp only[xV,CK,fq,kZ,or_false]at d;simp only[vo,fq,kZ,or_false]at f;rcases d with rfl|rfl|d
 ·rfl
 ·rfl
 ·exact f u d
structure Uo (w:World) (a:Option Addr) (c n:Nat) (vs:List Value):Prop where
 le:n<=c
 mx:c<=maxLen
 nl:a=none->c=0
 rd:eD w a vs
theorem Uo.below{n:Nat}(h:Uo w a c n vs)(d:Below w.heap.size w w'):Uo w' a c n vs:={ h with rd:=h.rd.below d }
theorem Uo.of{e:TypeId}{n:Nat}(h:Own w B e sz v n xs):∃a c,v = .slice a n c/\Uo w a c n xs:=by
 obtain⟨a,c,rfl,m,j,f,d⟩:=h.rd;exact⟨a,c,rfl,m,j,f,d⟩
structure MH where
 af:Option Addr
 cf:Nat
 m:Mem
 asl:Option Addr
 csl:Nat
 sl:List Int
 wb:Option Addr
 cwb:Nat
 wq:Option Addr
 cwq:Nat
 sw:qo
 db:Option Addr
 cdb:Nat
 dq:Option Addr
 cdq:Nat
 dk:qo
 ai:Option Addr
 ci:Nat
 fi:List PF
 ct:Int
 ac:Option Addr
 cc:Nat
 ca:List Cc
 ap:Option Addr
 cp:Nat
 sp:List PS
def MH.ma(H:MH):Ma:=⟨H.m,H.sl,H.sw,H.dk,bD H.fi H.ct,H.ca,H.sp.map PS.sp⟩
def bS(H:MH):Array Value:=#[.slice H.af H.m.fs.length H.cf,.int .i64 H.m.hand,.slice H.asl H.sl.length H.csl,.slice H.wb H.sw.blocks.length H.cwb,.slice H.wq H.sw.queue.length H.cwq,
 .slice H.db H.dk.blocks.length H.cdb,.slice H.dq H.dk.queue.length H.cdq,.slice H.ai H.fi.length H.ci,.int .i64 H.ct,.slice H.ac H.ca.length H.cc,.slice H.ap H.sp.length H.cp]
theorem dQ(H:MH):(bS H).all (·.oneCell')=true:=by simp[bS,Value.oneCell']
structure Dk (w:World) (H:MH):Prop where
 fr:UC w H.af H.cf H.m
 sl:Uo w H.asl H.csl H.sl.length (H.sl.map ib)
 sw:Uq w H.wb H.cwb H.wq H.cwq H.sw
 dk:Uq w H.db H.cdb H.dq H.cdq H.dk
 st:TP w H.ai H.ci H.fi
 ca:Uo w H.ac H.cc H.ca.length (H.ca.flatMap kM)
 sp:Uo w H.ap H.cp H.sp.length (H.sp.flatMap xV)
 ps:∀p∈H.sp,p.good w
 c64 : -9223372036854775808<=H.ct/\H.ct<=9223372036854775807
theorem Dk.below{H:MH}(h:Dk w H)(d:Below w.heap.size w w'):Dk w' H:=
 ⟨h.fr.below d,h.sl.below d,h.sw.below d,h.dk.below d,h.st.below d,h.ca.below d,h.sp.below d,λp f=>(h.ps p f).below d,h.c64⟩
theorem yc{ps:List PS}(h:eD w a (ps.flatMap xV))(k:Nat)(d:k<ps.length):∃b off p,a=some ⟨b,off,none⟩/\ps[k]?=some p/\eD w (some ⟨b,off+k*10,none⟩) (xV p):=by
 obtain⟨b,off,q,m⟩:=h.elem xw (by decide) k d;refine⟨b,off,ps[k],q,aM d,λj u f=>⟨b,off+k*10,rfl,m j u f⟩⟩
theorem Bv{H:MH}(h:Dk w H){p:PS}(d:H.sp[k]?=some p):p.good w:=h.ps p (dB d)
theorem VQ{l:List Cc}(h:eD w a (l.flatMap kM))(k:Nat)(j:k<l.length):∃b off c,a=some ⟨b,off,none⟩/\l[k]?=some c/\w.cell? ⟨b,off+k*3,none⟩=some (.int .i64 c.f)/\w.cell? ⟨b,off+k*3+1,none⟩=some (.int .i64 c.i)/\w.cell? ⟨b,off+k*3+2,none⟩=some (.int .i64 c.k):=by
 obtain⟨b,off,m,d⟩:=h.elem kD (by decide) k j;exact⟨b,off,l[k],m,aM j,d 0 _ rfl,d 1 _ rfl,d 2 _ rfl⟩
structure PK (m:Ma):Prop where
 fs:m.m.fs.length<=1000
 sl:m.sl.length<=1000
 swb:m.sw.blocks.length<=1000
 swq:m.sw.queue.length<=1000
 dkb:m.dk.blocks.length<=1000
 dkq:m.dk.queue.length<=1000
 st:m.st.fs.length<=1000/\∀f∈m.st.fs,f.b.length<=1000
 ca:m.ca.length<=1000
 sp:m.sp.length<=1000/\∀s∈m.sp,s.ar.length<=1000/\∀k (h:k<8),s.tb[k].length<=1000
structure qp (w:World) (B:Nat) (H:MH):Prop where
 fr:Own w B 66 13 (.slice H.af H.m.fs.length H.cf) H.m.fs.length (H.m.fs.flatMap rG)
 sl:Own w B 3 1 (.slice H.asl H.sl.length H.csl) H.sl.length (H.sl.map ib)
 sw:kz w B (.slice H.wb H.sw.blocks.length H.cwb) (.slice H.wq H.sw.queue.length H.cwq) H.sw
 dk:kz w B (.slice H.db H.dk.blocks.length H.cdb) (.slice H.dq H.dk.queue.length H.cdq) H.dk
 st:mo w B (.slice H.ai H.fi.length H.ci) H.fi
 ca:Own w B 122 3 (.slice H.ac H.ca.length H.cc) H.ca.length (H.ca.flatMap kM)
 sp:Own w B 76 10 (.slice H.ap H.sp.length H.cp) H.sp.length (H.sp.flatMap xV)
 ps:∀p∈H.sp,Own w B 94 7 (.slice p.aa p.ar.length p.ac) p.ar.length (p.ar.flatMap fZ)/\xE w B (vo p.ts) p.tb
 c64 : -9223372036854775808<=H.ct/\H.ct<=9223372036854775807
theorem qp.below{H:MH}(h:qp w B H)(d:Below w.heap.size w w'):qp w' B H:=
 ⟨h.fr.below d,h.sl.below d,h.sw.below d,h.dk.below d,h.st.below d,h.ca.below d,h.sp.below d,λp f=>⟨(h.ps p f).1.below d,(h.ps p f).2.below d⟩,h.c64⟩
theorem qp.mono{H:MH}(h:qp w B H)(d:B'<=B):qp w B' H:=
 ⟨h.fr.mono d,h.sl.mono d,h.sw.mono d,h.dk.mono d,h.st.mono d,h.ca.mono d,h.sp.mono d,λp f=>⟨(h.ps p f).1.mono d,(h.ps p f).2.mono d⟩,h.c64⟩
theorem zY{e:TypeId}{n:Nat}(h:Own w B e sz (.slice a n c) n xs):Uo w a c n xs:=by
 obtain⟨a',c',d,f⟩:=Uo.of h;simp only[iW,true_and]at d;obtain⟨rfl,rfl⟩:=d;exact f
theorem Zt{b:Option Addr}{e:Nat}{d:qo}(h:kz w B (.slice a d.blocks.length c) (.slice b d.queue.length e) d):Uq w a c b e d:=
 have j:=zY h.b;have f:=zY h.q
 ⟨j.le,f.le,j.mx,f.mx,j.nl,f.nl,j.rd,f.rd⟩
theorem ZZ{ps:List PF}(h:mo w B (.slice a ps.length c) ps):TP w a c ps:=by
 obtain⟨a',c',d,f⟩:=h.rd;simp only[iW,true_and]at d;obtain⟨rfl,rfl⟩:=d;exact f
theorem qp.rd{H:MH}(h:qp w B H):Dk w H:=
 have f:=zY h.fr
 ⟨⟨f.le,f.mx,f.nl,f.rd⟩,zY h.sl,Zt h.sw,Zt h.dk,ZZ h.st,zY h.ca,zY h.sp,λp j=>⟨have d:=zY (h.ps p j).1;⟨d.le,d.mx,d.nl,d.rd⟩,(h.ps p j).2.rd⟩,h.c64⟩
theorem qp.keep{H:MH}(h:qp w B H)(f:aK w g cs T)
 (m:T≠66/\T≠3/\T≠58/\T≠105/\T≠101/\T≠122/\T≠76/\T≠94/\T≠68) (d:w.grownBy w' (some g)):qp w' B H:=
 have ⟨t1,t2,t3,t4,t5,t6,t7,t8,t9⟩:=m
 ⟨aA h.fr f (p:=t1) d,aA h.sl f (p:=t2) d,h.sw.keep f t3 t4 d,h.dk.keep f t3 t4 d,h.st.keep f t5 t2 d,aA h.ca f (p:=t6) d,aA h.sp f (p:=t7) d,λp j=>⟨aA (h.ps p j).1 f (p:=t8) d,(h.ps p j).2.keep f t9 d⟩,h.c64⟩
theorem oU{α:Type}{enc:α->List Value}(d:∀x,(enc x).length=sz){l:List α}(h:eD w a (l.flatMap enc))(k:Nat)(m:k<l.length)(f:0<sz:=by decide) :
  ∃b off,a=some ⟨b,off,none⟩/\eD w (some ⟨b,off+k*sz,none⟩) (enc l[k]):=by
 obtain⟨b,off,y,s⟩:=h.elem d f k m;exact⟨b,off,y,λj u q=>⟨b,off+k*sz,rfl,s j u q⟩⟩
theorem cK(h:aK w b cs T)(o n:Nat):eD w (some ⟨b,o,none⟩) ((cs.toList.drop o).take n):=by
 intro i u d;refine⟨b,o,rfl,?_⟩;rw[h.cell,<-qz];rw[jO]at d;split at d
 ·rw[pG]at d;exact d
 ·cases d
def lm(H:MH)(e:Int):Array Value:=#[.slice H.af H.m.fs.length H.cf,.int .i64 H.m.hand,.slice H.asl H.sl.length H.csl,.slice H.wb H.sw.blocks.length H.cwb,.slice H.wq H.sw.queue.length H.cwq,
 .slice H.db H.dk.blocks.length H.cdb,.slice H.dq H.dk.queue.length H.cdq,.slice H.ai H.fi.length H.ci,.int .i64 H.ct,.slice H.ac H.ca.length H.cc,.slice H.ap H.sp.length H.cp,.int .i64 e]
def oB(a:Option Addr):Option Nat:=(Value.slice a 0 0).ownBlock
theorem yE(a:Option Addr)(n c:Nat):(Value.slice a n c).ownBlock=oB a:=by cases a<;>rfl
structure iw (w:World) (B b:Nat) (H:MH) (e:Int):Prop where
 blk:aK w b (lm H e) 109
 ge:B<=b
 ma:qp w B H
 tz:∀p∈H.sp,CU p.tb
def kb(b:Nat)(H:MH)(x:Nat):Prop:=x=b\/oB H.af=some x\/oB H.ac=some x\/oB H.ap=some x
structure KS (w0:World) (b:Nat) (H0:MH) (w:World) (H:MH):Prop where
 os:w.os=w0.os
 tape:w.tape=w0.tape
 output:w.output=w0.output
 size:w0.heap.size<=w.heap.size
 keep:∀x,x<w0.heap.size->¬kb b H0 x->w.heap[x]?=w0.heap[x]?
 sn:∀x,kb b H x->kb b H0 x\/w0.heap.size<=x
theorem KS.refl(w:World)(b:Nat)(H:MH):KS w b H w H:=⟨rfl,rfl,rfl,aC _,λ_ _ _=>rfl,λ_ h => .inl h⟩
theorem KS.trans{s q m:MH}(h:KS w0 b s w1 q)(k:KS w1 b q w2 m):KS w0 b s w2 m:=
 ⟨k.os.trans h.os,k.tape.trans h.tape,k.output.trans h.output,aX h.size k.size,λx d j=>(k.keep x (jq d h.size) (λy=>(h.sn x y).elim j (λf=>absurd d (KY.2 f)))).trans (h.keep x d j),
  λx d=>(k.sn x d).elim (h.sn x) (λf => .inr (aX h.size f))⟩
theorem KS.below{j H:MH}(h:KS w0 b j w H)(d:Below w.heap.size w w'):KS w0 b j w' H:=
 ⟨d.os.trans h.os,d.tape.trans h.tape,d.output.trans h.output,aX h.size d.size,λx f m=>(d.block x (jq f h.size)).trans (h.keep x f m),h.sn⟩
theorem KS.put{y:Nat}{H0 H H' : MH}(h:KS w0 b H0 w H)(j:w.grownBy w' (some y))(m:kb b H y)(q:∀x,kb b H' x->kb b H x\/w0.heap.size<=x):KS w0 b H0 w' H':=
 ⟨j.os.trans h.os,j.tape.trans h.tape,j.output.trans h.output,aX h.size j.size,λx d f=>(j.block x (jq d h.size) (λe=>by have e' : x=y:=aU e;rw[<-e']at m;exact(h.sn x m).elim f (λs=>absurd d (KY.2 s)))).trans (h.keep x d f),λx d=>(q x d).elim (h.sn x) .inr⟩
theorem iw.lt{H:MH}(h:iw w B b H e):b<w.heap.size:=h.blk.lt
theorem iw.bs{H:MH}(h:iw w B b H e):B<=w.heap.size:=aX h.ge (vI h.lt)
theorem iw.below{H:MH}(h:iw w B b H e)(d:Below w.heap.size w w'):iw w' B b H e:=⟨h.blk.ext d,h.ge,h.ma.below d,h.tz⟩
theorem qI{e:TypeId}{n:Nat}(h:Own w B e sz (.slice a n c) n xs){x:Nat}(d:oB a=some x):B<=x/\∃cs,aK w x cs e:=by
 rw[<-yE a n c]at d;exact⟨h.ge x d,sS h x d⟩
theorem iw.kb_ge{H:MH}(h:iw w B b H e){x:Nat}(d:kb b H x):B<=x:=by
 rcases d with d|d|d|d
 ·rw[d];exact h.ge
 ·exact(qI h.ma.fr d).1
 ·exact(qI h.ma.ca d).1
 ·exact(qI h.ma.sp d).1
theorem iw.kb_T{H:MH}(h:iw w B b H e){x:Nat}(d:kb b H x):∃cs T,aK w x cs T/\(T=109\/T=66\/T=122\/T=76):=by
 rcases d with d|d|d|d
 ·rw[d];exact⟨_,_,h.blk,.inl rfl⟩
 ·obtain⟨cs,f⟩:=(qI h.ma.fr d).2;exact⟨cs,_,f,.inr (.inl rfl)⟩
 ·obtain⟨cs,f⟩:=(qI h.ma.ca d).2;exact⟨cs,_,f,.inr (.inr (.inl rfl))⟩
 ·obtain⟨cs,f⟩:=(qI h.ma.sp d).2;exact⟨cs,_,f,.inr (.inr (.inr rfl))⟩
theorem KS.to{f H:MH}(h:iw w0 B b f e)(d:KS w0 b f w H)(q:B0<=B):Below B0 w0 w:=
 ⟨d.os,d.tape,d.output,d.size,λx m=>d.keep x (by have:=h.bs;omega) (λj=>by have:=h.kb_ge j;omega)⟩
theorem KS.blk{x:Nat}{j H:MH}(A:KS w0 b j w H)(h:iw w0 B b j e)(f:aK w0 x cs T)(C:T≠109/\T≠66/\T≠122/\T≠76):aK w x cs T:=by
 refine(A.keep x f.lt λz => ?_).trans f;obtain⟨cs',T',d,D⟩:=h.kb_T z;unfold aK at f d;rw[f]at d;simp only[fM,rM]at d;obtain⟨y,s,q,m⟩:=C;rcases D with e|e|e|e
 ·exact y (d.2.1.trans e)
 ·exact s (d.2.1.trans e)
 ·exact q (d.2.1.trans e)
 ·exact m (d.2.1.trans e)
theorem KS.blkN{x:Nat}{f H:MH}(j:KS w0 b f w H)(d:aK w0 x cs T)(h:¬kb b f x):aK w x cs T:=(j.keep x d.lt h).trans d
theorem KS.own{f H:MH}{n:Nat}(m:KS w0 b f w H)(h:iw w0 B b f e)(d:Own w0 B' t sz v n xs)(s:t≠109/\t≠66/\t≠122/\t≠76):Own w B' t sz v n xs:=
 ⟨d.1,d.2.imp id λ⟨g,off,cap,cur,j,y,q,r⟩=>⟨g,off,cap,cur,j,y,m.blk h q s,r⟩⟩
theorem qp.keepK{H:MH}(h:iw w B b H e)(d:w.grownBy w' (some b)):qp w' B H:=h.ma.keep h.blk (by decide) d
theorem iw.setM{H:MH}(h:iw w B b H e){m:Mem}(f:Own w B 66 13 (.slice a m.fs.length c) m.fs.length (m.fs.flatMap rG))(j:aK w' b (dO (lm H e) 0 [.slice a m.fs.length c,.int .i64 m.hand]) 109)(d:w.grownBy w' (some b)) :
  iw w' B b { H with af:=a,cf:=c,m:=m } e:=
 ⟨j,h.ge,{ qp.keepK h d with fr:=aA f h.blk d },h.tz⟩
theorem iw.setL{H:MH}(h:iw w B b H e)(f:Own w B 3 1 (.slice a l.length c) l.length (l.map ib))(j:aK w' b (dO (lm H e) 2 [.slice a l.length c]) 109)(d:w.grownBy w' (some b)) :
  iw w' B b { H with asl:=a,csl:=c,sl:=l } e:=
 ⟨j,h.ge,{ qp.keepK h d with sl:=aA f h.blk d },h.tz⟩
theorem iw.setW{H:MH}(h:iw w B b H e){d:qo}(j:kz w B (.slice a d.blocks.length c) (.slice a' d.queue.length c') d)(m:aK w' b (dO (lm H e) 3 [.slice a d.blocks.length c,.slice a' d.queue.length c']) 109)(f:w.grownBy w' (some b)) :
  iw w' B b { H with wb:=a,cwb:=c,wq:=a',cwq:=c',sw:=d } e:=
 ⟨m,h.ge,{ qp.keepK h f with sw:=j.keep h.blk (by decide) (by decide) f },h.tz⟩
theorem iw.setD{H:MH}(h:iw w B b H e){d:qo}(j:kz w B (.slice a d.blocks.length c) (.slice a' d.queue.length c') d)(m:aK w' b (dO (lm H e) 5 [.slice a d.blocks.length c,.slice a' d.queue.length c']) 109)(f:w.grownBy w' (some b)) :
  iw w' B b { H with db:=a,cdb:=c,dq:=a',cdq:=c',dk:=d } e:=
 ⟨m,h.ge,{ qp.keepK h f with dk:=j.keep h.blk (by decide) (by decide) f },h.tz⟩
theorem iw.setS{H:MH}(h:iw w B b H e){ps:List PF}{k:Int}(f:mo w B (.slice a ps.length c) ps)(hk : -9223372036854775808<=k/\k<=9223372036854775807)(j:aK w' b (dO (lm H e) 7 [.slice a ps.length c,.int .i64 k]) 109)(d:w.grownBy w' (some b)) :
  iw w' B b { H with ai:=a,ci:=c,fi:=ps,ct:=k } e:=
 ⟨j,h.ge,{ qp.keepK h d with st:=f.keep h.blk (by decide) (by decide) d,c64:=hk },h.tz⟩
theorem iw.setE{H:MH}{e':Int}(h:iw w B b H e)(f:aK w' b (dO (lm H e) 11 [.int .i64 e']) 109)(d:w.grownBy w' (some b)):iw w' B b H e':=
 ⟨f,h.ge,qp.keepK h d,h.tz⟩
def KR(w:World)(B b:Nat)(H:MH)(w' : World)(k:Kp):Prop:=∃H' e',iw w' B b H' e'/\KS w b H w' H'/\Kp.mk H'.ma e' = k
theorem Bh{H H' : MH}(j:H'.af=H.af)(h:H'.ac=H.ac)(f:H'.ap=H.ap){x:Nat}(d:kb b H' x):kb b H x:=by
 unfold kb at d ⊢; rw[j,h,f]at d;exact d
theorem KS.putB{H0 H H' : MH}(h:KS w0 b H0 w H)(f:w.grownBy w' (some b))(q:H'.af=H.af)(m:H'.ac=H.ac)(j:H'.ap=H.ap):KS w0 b H0 w' H':=
 h.put f (.inl rfl) λx d => .inl (Bh q m j d)
theorem KS.putF{H0 H H' : MH}{n:Nat}(h:KS w0 b H0 w H)(j:w.grownBy w' (some b))(f:Own w B' t sz (.slice H'.af n c) n xs)(m:w0.heap.size<=B')(s:H'.ac=H.ac)(q:H'.ap=H.ap):KS w0 b H0 w' H':=
 h.put j (.inl rfl) λx d=>by
  rcases d with d|d|d|d
  ·exact .inl (.inl d)
  ·exact .inr (aX m (qI f d).1)
  ·exact .inl (.inr (.inr (.inl (by rw[<-s];exact d))))
  ·exact .inl (.inr (.inr (.inr (by rw[<-q];exact d))))
theorem NR{row:Option Nat}(d:Below w.heap.size w w1)(f:w1.grownBy w2 row):w.grownBy w2 row:=
 ⟨f.os.trans d.os,f.tape.trans d.tape,f.output.trans d.output,aX d.size f.size,λk h j=>(f.block k (jq h d.size) j).trans (d.block k h)⟩
def MN(k B:Nat)(T:TypeId)(R:oW):wD:=⟨λy w => ∃g cc,y k = .pointer (some ⟨g,0,none⟩)/\B<=g/\aK w g cc T/\R.r (.agg cc) w,[k],
 λy w w' hb ⟨g,cc,h1,h2,h3,h4⟩=>⟨g,cc,h1,h2,h3.ext hb,R.st _ _ _ hb h4⟩,λy y' w h ⟨g,cc,h1,h2⟩=>⟨g,cc,by rw[<-h k (bF.2 rfl)];exact h1,h2⟩⟩
theorem gH(h:cs.all (·.oneCell')=true):∀u∈cs.toList,u.oneCell' = true:=by
 rw[<-iX,dG]at h;exact h
theorem qm(H:MH):H.ma.sp.length=H.sp.length:=fE _
theorem Rs{l:List Cc}(h:eD w a (l.flatMap kM))(k:Nat)(d:k<l.length):∃b off,a=some ⟨b,off,none⟩/\eD w (some ⟨b,off+k*3,none⟩) (kM l[k]):=oU kD h k d
theorem oq(e:Int):iD e 0=e:=by unfold iD;split<;>simp_all
theorem Vn(h:e≠0)(d:Int):iD e d=e:=by unfold iD;rw[if_neg h]
theorem iw.rdM{H:MH}(h:iw w B b H e):eD w (some ⟨b,0,none⟩) [.slice H.af H.m.fs.length H.cf,.int .i64 H.m.hand]:=cK h.blk 0 2
theorem iw.rdW{H:MH}(h:iw w B b H e):eD w (some ⟨b,3,none⟩) [.slice H.wb H.sw.blocks.length H.cwb,.slice H.wq H.sw.queue.length H.cwq]:=cK h.blk 3 2
theorem iw.rdD{H:MH}(h:iw w B b H e):eD w (some ⟨b,5,none⟩) [.slice H.db H.dk.blocks.length H.cdb,.slice H.dq H.dk.queue.length H.cdq]:=cK h.blk 5 2
theorem iw.rdS{H:MH}(h:iw w B b H e):eD w (some ⟨b,7,none⟩) [.slice H.ai H.fi.length H.ci,.int .i64 H.ct]:=cK h.blk 7 2
theorem rU(H:MH)(e d:Int)(B b:Nat)(w:World)(h:iw w B b H e) :
  Calls Tryz.prog 138 #[.pointer (some ⟨b,0,none⟩),.int .i64 d] w λr w'=>r = .returned (.tuple #[])/\iw w' B b H (iD e d)/\w.grownBy w' (some b):=by
 have m:=h.blk.cell;have y:=h.blk.free;unfold lm at m;go_enter func138,ntmps138
 by_cases j:e=0
 ·have f:=aD w b 11 [.int .i64 d];have q:=h.blk.setCells [.int .i64 d] 11;have a:Hid (iD e d=d):=ae (by unfold iD;rw[if_pos j]);have s:=ae h;clear h;go_wp2;simp[bodyPost,results,go_sem,results138];rw[a.out];exact⟨s.out.setE q f,f⟩
 go_wp2;simp[bodyPost,results,go_sem,results138];rw[Vn j];exact⟨h,BN _ _⟩
theorem NA(H:MH)(e f n:Int)(B b:Nat)(w:World)(h:iw w B b H e) :
  Calls Tryz.prog 94 #[.pointer (some ⟨b,0,none⟩),.int .i64 f,.int .i64 n] w λr w'=>r = .returned (.tuple #[])/\∃H' e',iw w' B b H' e'/\KS w b H w' H'/\Kp.mk H'.ma e' = dU ⟨H.ma,e⟩ f n/\H'.sp=H.sp:=by
 go_enter func94,ntmps94
 go_wp2_with (refine ay b 0 _ h.rdM _ underlying32 rfl mem_size ?_)
 refine(Ub H.m f n _ _ _ h.ma.rd.fr).mono ?_;rintro r w1 ⟨L,rfl,A,l⟩;obtain⟨G,c1,rfl,_⟩:=BJ A;have p:=ae h.bs;have F:=h.below l;have E:=(KS.refl w b H).below l
 go_wp2_with (refine aT #[.slice G (nK H.m f n).fs.length c1,.int .i64 (nK H.m f n).hand] mem_size (gL _ _ _ _) ?_)
 intro w2 c g;have s:=F.below c;have D:=E.below c;have j:=A.below c;clear F E A c
 go_wp2_with fail
 refine(rU _ e (oQ H.m f n) _ _ _ s).mono ?_;rintro r K ⟨rfl,q,a⟩;have C:=D.putB a rfl rfl rfl;have i:=aA j s.blk a;have d:=aG g s.blk a;clear s D j g a
 by_cases y:oQ H.m f n=0
 ·rw[y,oq]at q;have z:Hid (dU ⟨H.ma,e⟩ f n=⟨{ H.ma with m:=nK H.m f n },e⟩):=ae (by unfold dU;exact if_pos y);have M:=d.cell;clear h;rw[y]
  go_wp2_with (first | (refine ay _ 0 [.slice G (nK H.m f n).fs.length c1,.int .i64 (nK H.m f n).hand] (cK d 0 2) _ underlying32 rfl mem_size ?_) | (refine fV _ _ b 0 _ _ _ q.blk (by show 0+2<=12;decide) mem_size (gL _ _ _ _) ?_))
  intro J o k;have I:=q.setM (i.mono p.out) o k;go_wp2;simp[bodyPost,results,go_sem,results94];rw[z.out];exact⟨_,_,I,C.putF k i (aC _) rfl rfl,rfl,rfl⟩
 have z:Hid (dU ⟨H.ma,e⟩ f n=⟨H.ma,iD e (oQ H.m f n)⟩):=ae (by unfold dU;exact if_neg y);go_wp2;simp[bodyPost,results,go_sem,results94];rw[z.out];exact⟨_,_,q,C,rfl,rfl⟩
theorem ww(H:MH)(e f n:Int)(B b:Nat)(w:World)(h:iw w B b H e) :
  Calls Tryz.prog 94 #[.pointer (some ⟨b,0,none⟩),.int .i64 f,.int .i64 n] w λr w'=>r = .returned (.tuple #[])/\KR w B b H w' (dU ⟨H.ma,e⟩ f n):=
 (NA H e f n B b w h).mono λr w' ⟨h1,H',e',h2,h3,h4,_⟩=>⟨h1,H',e',h2,h3,h4⟩
theorem ed{e:TypeId}{y:Operand}{n:Nat}{k:IntKind}(A:o.op = .indexAddr t x y)(s:ρ x = .slice (some ⟨b,off,none⟩) n c)(q:ρ y = .int k (i:Int))(C:i<n)
 (z:P.underlying t=some (.slice e)) (m:(P.info? e).map (·.size)=some sz):(execOp ρ o).run P w = .ok (.value (.pointer (some ⟨b,off+i*sz,none⟩))) w:=by
 obtain⟨j,a,d⟩:∃j,P.info? e=some j/\j.size=sz:=by
  cases h:P.info? e with
  | none=>rw[h]at m;cases m
  | some j=>rw[h]at m;exact⟨j,rfl,by simpa using m⟩
 have f:(Go.sizeOf e).run P w = .ok sz w:=by simp[Go.sizeOf,typeInfo,a,go_sem,d]
 simp[execOp,go_sem,A,s,q,z,f,C]
theorem mW{o:Nat}(h:eD w (some ⟨b,o,none⟩) vs)(d n:Nat):eD w (some ⟨b,o+d,none⟩) ((vs.drop d).take n):=by
 intro i u f;rw[jO]at f;split at f
 ·rw[pG]at f;obtain⟨q,m,e,j⟩:=h (d+i) u f;cases e;exact⟨_,_,rfl,by rw[qX];exact j⟩
 ·cases f
theorem GQ{o:Nat}(r:List Value)(h:cur[o]?=some v):dO cur o (v::r)=dO cur (o+1) r:=by
 have:cur.setIfInBounds o v=cur:=by
  apply sM;intro i;rw[BF]
  by_cases e:o=i
  ·subst e;rw[if_pos rfl,if_pos (iB.1 h).1,h]
  ·rw[if_neg e]
 show dO (cur.setIfInBounds o v) (o+1) r=_;rw[this]
theorem CW{e:TypeId}{n:Nat}(h:Own w B e sz (.slice (some ⟨g,off,none⟩) n c) n xs)(q:aK w g cur e):∀j u,xs[j]?=some u->cur[off+j]?=some u:=by
 rcases h.2 with⟨A,_⟩|⟨C,m,s,d,y,_,f,_,_,_,z⟩
 ·cases A
 cases y;have:cur=d:=by unfold aK at q f;rw[q]at f;simpa using f
 subst this;exact z
theorem iw.setT{H:MH}(h:iw w B b H e){P:PS}(C:H.sp[p]?=some P) :
  ∃g off cur,H.ap=some ⟨g,off,none⟩/\B<=g/\aK w g cur 76/\off+p*10+2+8<=cur.size/\eD w (some ⟨g,off+p*10,none⟩) (xV P) /\
   ∀(w' : World) (v:Vector Value 8) (t:Tb),xE w B (vo v) t->CU t->aK w' g (dO cur (off+p*10+2) (vo v).toList) 76->w.grownBy w' (some g)->iw w' B b { H with sp:=H.sp.set p { P with ts:=v,tb:=t } } e:=by
 have E:=(dw.1 C).1;have o:=(dw.1 C).2;obtain⟨g,off,cap,cur,D,J,a,r,k⟩:=nS xw rfl h.ma.sp p E;simp only[iW]at D;obtain⟨l,_,s⟩:=D;have i:=h.ma.sp;rw[l]at i;have d:=CW i a;have f:∀j u,(xV P)[j]?=some u->cur[off+p*10+j]?=some u:=λj u A=>by rw[qX];exact d _ _ (flat_get xV 10 xw H.sp p E j u (by rw[o];exact A))
 refine⟨g,off,cur,l,J,a,by omega,λj u A=>⟨g,_,rfl,by rw[a.cell];exact f j u A⟩,λw' v t I m F y => ?_⟩;have K:dO cur (off+p*10) (xV { P with ts:=v,tb:=t })=dO cur (off+p*10+2) (vo v).toList:=by show dO cur (off+p*10) (.bool P.lv :: .slice P.aa P.ar.length P.ac::(vo v).toList)=_;rw[GQ _ (by simpa using f 0 _ rfl),GQ _ (f 1 _ rfl)]
 rw[<-K]at F;have c:(H.sp.set p { P with ts:=v,tb:=t }).length=H.sp.length:=bV;have n:b≠g:=λe=>by have G:=h.blk;subst e;unfold aK at G a;rw[G]at a;simp only[fM,rM]at a;exact absurd a.2.1 (by decide)
 refine⟨?_,h.ge,⟨aA h.ma.fr a y,aA h.ma.sl a y,h.ma.sw.keep a (by decide) (by decide) y,h.ma.dk.keep a (by decide) (by decide) y,h.ma.st.keep a (by decide) (by decide) y,aA h.ma.ca a y,?_,λq z => ?_,h.ma.c64⟩,λq z => ?_⟩
 ·have:lm { H with sp:=H.sp.set p { P with ts:=v,tb:=t } } e=lm H e:=by unfold lm;simp only[c]
  rw[this];exact h.blk.grown y (λe=>n (aU e).symm)
 ·simp only[c];exact k w' _ F
 ·rcases mr z with z|rfl
  ·exact⟨aA (h.ma.ps q z).1 a y,(h.ma.ps q z).2.keep a (by decide) y⟩
  ·exact⟨aA (h.ma.ps P (dB C)).1 a y,I.keep a (by decide) y⟩
 rcases mr z with z|rfl
 ·exact h.tz q z
 ·exact m
theorem sP{H:MH}{P:PS}(d:H.sp[p]?=some P):bQ H.ma p=P.sp:=by
 unfold bQ MH.ma;simp only;rw[bA,iH,d];rfl
theorem YQ{H:MH}{P:PS}(d:H.sp[p]?=some P)(v:Vector Value 8)(t:Tb):MH.ma { H with sp:=H.sp.set p { P with ts:=v,tb:=t } }=setTb H.ma p t:=by
 unfold setTb;rw[sP d];unfold MH.ma;simp only[nO];rfl
theorem ZR{v:Vector Value 8}{t:Tb}(h:NM w (vo v) t):∀u∈(vo v).toList,u.oneCell' = true:=by
 have:=h.one;rw[<-iX,dG]at this;exact this
theorem Yx{t:Tb}{e:En}:CU (setT t n e):=by
 by_cases h:setE t n e=0
 ·exact AB (uJ h)
 ·rw[yL h];exact AB zTb_right
def Ue(B:Nat)(t:Tb)(n:Int)(x:En):oW:=⟨λv w => ∃cs,v = .tuple #[.agg cs,.int .i64 (setE t n x)]/\xE w B cs (setT t n x),λ_ _ _ hb ⟨cs,h1,h2⟩=>⟨cs,h1,h2.below hb⟩⟩
def PW(B:Nat)(t:Tb):oW:=⟨λv w => ∃cs,v = .agg cs/\xE w B cs t,λ_ _ _ hb ⟨cs,h1,h2⟩=>⟨cs,h1,h2.below hb⟩⟩
theorem gJ(H:MH)(e n:Int)(p:Nat)(x:En)(B b:Nat)(w:World)(h:iw w B b H e)(Y:p<H.sp.length) :
  Calls Tryz.prog 92 #[.pointer (some ⟨b,0,none⟩),.int .i64 p,.int .i64 n,.agg (pq x)] w λr w'=>r = .returned (.tuple #[])/\KR w B b H w' (dD ⟨H.ma,e⟩ p n x):=by
 obtain⟨P,K⟩:∃P,H.sp[p]?=some P:=⟨_,aM Y⟩;have hE:=ae (sP K);have hT:=ae h.bs;have hL:=dB K;go_enter func92,ntmps92;go_upto_region 1 with(fail);refine iP (λW=>Code.wp _ _ _ _ W) λw1 M hD hN => ?_;have F:=h.below M;have s1:=(KS.refl w b H).below M;clear h hN;obtain⟨g,off,cur,o,hM,u,t,hj,s⟩:=F.setT K;refine gX 18 [_,_,_,_,_,_,_,_,_,_,_,.r 11 ((Ue w1.heap.size P.tb n x)),.r 12 ((Ue w1.heap.size P.tb n x)),.r 13 ((PW w1.heap.size (setT P.tb n x))),.v (.int .i64 (setE P.tb n x)),.r 15 ((fu w1.heap.size 74 8)),.y 16 ((MN 15 w1.heap.size 74 (PW w1.heap.size (setT P.tb n x)))),.v (.int .i64 (setE P.tb n x))] (λW=>Below w1.heap.size w1 W) bH (Below.refl _ _) (Yk bH rfl (Yk bH rfl (Yf bH b 0 rfl rfl (Yf bH b 10 rfl rfl (Yc bH (.slice (some ⟨g,off,none⟩) H.sp.length H.cp) (λW f=>by simp[(F.below f).blk.cell,lm,o]) rfl rfl rfl rfl (Yk bH rfl (Yr bH (.pointer (some ⟨g,off+p*10,none⟩)) (λρ y W f a=>(ed rfl (bi rfl a) (bi rfl a) Y underlying43 space_size)) rfl rfl (Yf bH g (off+p*10+2) rfl rfl (Yr bH (.agg (vo P.ts)) (λρ y W f a=>(bO rfl (bi rfl a) (mW (hj.below f) 2 8) underlying74 (z:=tab_agg) (s:=tab_size))) rfl rfl (Yk bH rfl (Yr bH (.agg (pq x)) (λρ y W f a=>(cz rfl (bi rfl a) (hD.ext f) underlying68 entry_size)) rfl rfl (aj ?_ (aj ?_ (aj ?_ (aj ?_ (aj ?_ (aj ?_ (Yk bH rfl (aH))))))))))))))))))) (λ_=>rfl) rfl ?_
 ·intro ρ y W A E f C;refine fw f ((Ue w1.heap.size P.tb n x)) ?_;have h5:=A 19 8 rfl;have h8:y 8=_:=C 8 rfl;have h4:=A 20 9 rfl;have h9:y 9=_:=C 9 rfl;have h3:=A 21 10 rfl;have hX:y 10=_:=C 10 rfl;have EF:=eF0 E λ_=>trivial;refine aL (aW rfl (EF _) func137 (by simp only[bU,bM,bP,h5,h8,h4,h9,h3,hX,EF];rfl)) ?_;refine(Wn P.tb (vo P.ts) n x W (((F.below f).ma.ps P hL).2.rd) (F.tz P hL)).mono ?_;rintro r G ⟨cs,rfl,L,hS⟩;exact⟨_,rfl,hS,cs,rfl,L.mono f.size⟩
 ·intro ρ y W A E f C;refine fw f ((Ue w1.heap.size P.tb n x)) ?_;have hZ:=A 22 11 rfl;have hW:=C 11 rfl;refine ak _ (run_move (.inl rfl) hZ) (m:=?_);exact hW
 ·intro ρ y W A E f C;refine fw f ((PW w1.heap.size (setT P.tb n x))) ?_;have S:=A 10 12 rfl;have U:=C 12 rfl;obtain⟨cs,V,L⟩:=U;refine ak (.agg cs) (by simp[execOp,go_sem,bJ,S,V]) (m:=?_);exact⟨cs,rfl,L⟩
 ·intro ρ y W A E f C;refine fw f (fQ (.int .i64 (setE P.tb n x))) ?_;have S:=A 10 12 rfl;have U:=C 12 rfl;obtain⟨cs,V,L⟩:=U;refine ak (.int .i64 (setE P.tb n x)) (by simp[execOp,go_sem,bJ,S,V])
 ·intro ρ y W A E f C;refine fw f ((fu w1.heap.size 74 8)) ?_;refine gM (.pointer (some ⟨W.heap.size,0,none⟩)) (ag) (by simp[execOp,go_sem,bJ]) ((Below.refl _ _).alloc (aC _) (.cells #[.slice none 0 0,.slice none 0 0,.slice none 0 0,.slice none 0 0,.slice none 0 0,.slice none 0 0,.slice none 0 0,.slice none 0 0] 74)) ?_;exact⟨_,_,rfl,f.size,aK.new _ _ _,rfl⟩
 ·intro ρ y W A E f C;have E8:=A 8 15 rfl;have hU:=C 15 rfl;have hY:=A 23 13 rfl;have hV:=C 13 rfl;obtain⟨cc,e7,hl⟩:=hV;obtain⟨g3,D,e9,hJ,m,hF⟩:=hU;have j:=hl.sz;refine jT _ _ _ g3 0 (.agg cc) cc.toList (E8.trans e9) (hY.trans e7) rfl D _ m (by rw[lH,hF,j];exact aC _) (by rw[lH,j];exact tab_size) (gH hl.rd.one) ?_;intro w1 hh l;rw[eT D cc (by rw[hF,j])]at hh;refine⟨f.grown l f.size (λk hk=>by cases hk;exact hJ),⟨g3,cc,e9,hJ,hh,⟨cc,rfl,hl.keep m (by decide) l⟩⟩,?_⟩;intro k hk hO
  match k,hk,hO with
  | 0,_,_|1,_,_|2,_,_|3,_,_|4,_,_|5,_,_|6,_,_|7,_,_|8,_,_|9,_,_|10,_,_=>exactλh=>h
  | 11,_,_|12,_,_|13,_,_=>exactλ⟨c,q1,q2⟩=>⟨c,q1,q2.keep m (by decide) l⟩
  | 14,_,_=>exactλh=>h
  | 15,_,_=>exactλq=>iY q hh (p:=(λ_=>j)) ⟨_,m⟩ l
  | 16,_,h=>exact absurd rfl h
  | 17,_,_=>exactλh=>h
  | n+18,h,_=>exact absurd h (by omega)
 intro y G i d;replace i:Below w1.heap.size w1 G:=i;have hB:((Ue w1.heap.size P.tb n x)).r (y 11) G:=d 11 (by decide);have hA:((Ue w1.heap.size P.tb n x)).r (y 12) G:=d 12 (by decide);have hz:((PW w1.heap.size (setT P.tb n x))).r (y 13) G:=d 13 (by decide);have hv:((fu w1.heap.size 74 8)).r (y 15) G:=d 15 (by decide);have hu:=d 16 (by decide);clear d;simp only[dS,bJ,bM,bP];obtain⟨gx,cs2,h7,hH,hK,ca2,hf,Z⟩:=hu;simp only[yS]at hf;subst hf;obtain⟨R,rfl⟩:=Zl Z.sz;have N:=F.below i;have s2:=s1.below i;have hI:=ae M.size;clear hB hA hz hv s hj u t o F s1 hD hM M cur
 go_wp2_with fail
 refine(rU _ e (setE P.tb n x) _ _ _ N).mono ?_;rintro r w3 ⟨rfl,J,z⟩;have s3:=s2.putB z rfl rfl rfl;have hG:=Z.keep N.blk (by decide) z;have hC:=aG hK N.blk z;have hM:=ae hH;clear N s2 Z hK z i hH;have hi:Hid (setE (bQ H.ma p).tb n x=setE P.tb n x):=ae (by rw[hE.out];rfl)
 by_cases O:setE P.tb n x=0
 ·rw[O,oq]at J;have X:Hid (dD ⟨H.ma,e⟩ p n x=⟨setTb H.ma p (setT P.tb n x),e⟩):=ae (by unfold dD;simp only;rw[if_pos (hi.out.trans O),hE.out];rfl);obtain⟨g,off,cur,o,h6,u,t,hj,s⟩:=J.setT K;have hx:=hC.cell;have I:=J.blk.cell;unfold lm at I;rw[o]at I;rw[O];go_upto_region 4 with(fail);refine aR 9 [_,_,_,_,_,_,_,_,_] (Gk rfl (Gk rfl (Gf b 0 rfl rfl (Gf b 10 rfl rfl (Gc (.slice (some ⟨g,off,none⟩) H.sp.length H.cp) (λW f=>by simp[(J.below f).blk.cell,lm,o]) rfl rfl rfl rfl (Gk rfl (Gr (.agg (vo R)) (λρ y W f a=>(bO rfl (bi rfl a) ((hC.ext f).rd) underlying74 (z:=tab_agg) (s:=tab_size))) rfl rfl (Gr (.pointer (some ⟨g,off+p*10,none⟩)) (λρ y W f a=>(ed rfl (bi rfl a) (bi rfl a) Y underlying43 space_size)) rfl rfl (Gf g (off+p*10+2) rfl rfl (aH)))))))))) (λ_=>rfl) rfl ?_;intro y W4 hg _
  go_wp2_with (refine fV _ _ g (off+p*10+2) (vo R) _ _ (u.ext hg) t tab_size (by rw[<-iX,dG];exact ZR hG.rd) ?_)
  intro w5 hR hQ;have hc:=NR hg hQ;have k5:=s w5 R (setT P.tb n x) (hG.mono (aX hT.out hI.out)) Yx hR hc;go_wp2;simp[bodyPost,results,go_sem,results92];rw[X.out];refine⟨_,_,k5,s3.put hc (.inr (.inr (.inr (by rw[o];rfl)))) λy hy => .inl (Bh rfl rfl rfl hy),?_⟩;rw[YQ K]
 have X:Hid (dD ⟨H.ma,e⟩ p n x=⟨H.ma,iD e (setE P.tb n x)⟩):=ae (by unfold dD;simp only;rw[if_neg (by rw[hi.out];exact O),hi.out]);go_wp2;simp[bodyPost,results,go_sem,results92];rw[X.out];exact⟨_,_,J,s3,rfl⟩
theorem slots_size:(Tryz.prog.info? 34).map (·.size)=some 1:=by kernel_rfl
def tJ(B:Nat)(T:TypeId)(sz n:Nat)(xs:List Value)(er:Int):oW:=⟨λv w => ∃u,v = .tuple #[u,.int .i64 er]/\Own w B T sz u n xs,λ_ _ _ hb ⟨u,h1,h2⟩=>⟨u,h1,h2.below hb⟩⟩
theorem iw.at{w:World}{B b:Nat}{H:MH}{e:Int}(h:iw w B b H e){p:Nat}{P:PS}(d:H.sp[p]?=some P):∃g off,H.ap=some ⟨g,off,none⟩/\eD w (some ⟨g,off+p*10,none⟩) (xV P)/\eD w (some ⟨g,off+p*10+2,none⟩) (vo P.ts).toList/\P.good w:=by
 have j:=(dw.1 d).1;obtain⟨g,off,q,m,a,f⟩:=yc h.ma.rd.sp.rd p j;rw[d]at a;cases a;exact⟨g,off,m,f,mW f 2 8,h.ma.rd.ps P (dB d)⟩
theorem KR.trans{f d:MH}{k:Kp}(h:KS w0 b f w1 d)(j:KR w1 B b d w2 k):KR w0 B b f w2 k:=by
 obtain⟨z,y,s,q,m⟩:=j;exact⟨z,y,s,h.trans q,m⟩
theorem zn(H:MH)(e n:Int)(p:Nat)(B b:Nat)(w:World)(h:iw w B b H e)(R:p<H.sp.length) :
  Calls Tryz.prog 95 #[.pointer (some ⟨b,0,none⟩),.int .i64 p,.int .i64 n] w λr w'=>r = .returned (.tuple #[])/\KR w B b H w' (jM ⟨H.ma,e⟩ p n):=by
 obtain⟨P,hP⟩:∃P,H.sp[p]?=some P:=⟨_,aM R⟩;have hs:=ae (sP hP);obtain⟨g,off,hE,ht,hh,d⟩:=h.at hP;have hc:=h.blk.cell;unfold lm at hc;rw[hE]at hc;have hL:(p:Int)<(H.sp.length:Int):=by omega
 go_enter func95,ntmps95
 go_wp2_with (refine ay g (off+p*10+2) _ hh _ underlying74 tab_agg tab_size ?_)
 refine(wI P.tb (vo P.ts) n _ d.tb).mono ?_;rintro r w1 ⟨rfl,hf⟩;have h1:=h.below hf;have s1:=(KS.refl w b H).below hf;clear hc ht hh d;generalize hx:dR P.tb n=x
 go_wp2_with (refine aT (pq x) entry_size (by simp[pq,Value.oneCell']) ?_)
 intro w2 ha o;have F:=h1.below ha;have L:=s1.below ha;clear h1 s1 hf ha h;have i:=o.cell;unfold pq at i;have t:Hid (dR (bQ H.ma p).tb n=x):=ae (by rw[hs.out];exact hx);clear hx
 by_cases f:x.k=1
 ·have I:Hid (jM ⟨H.ma,e⟩ p n=dD (dU ⟨H.ma,e⟩ x.n (-1)) p n zEn):=ae (by unfold jM;simp only[t.out];rw[if_pos f]);have hJ:=ae f;rw[f]at i;clear f
  go_wp2_with fail
  refine(ww H e x.n (-1) B b _ F).mono ?_;rintro r w3 ⟨rfl,H3,e3,h3,K,X⟩;have hz:H3.sp.length=H.sp.length:=by
   have e1:H3.ma.sp=H.ma.sp:=by have:=congrArg (λk=>k.m.sp) X;simp only at this;rw[this];unfold dU;split<;>rfl
   have:=congrArg List.length e1;unfold MH.ma at this;simpa using this
  have V:=L.trans K;have hv:=ae X;clear X K i
  go_wp2_with fail
  refine(gJ H3 e3 n p zEn B b _ h3 (by rw[hz];exact R)).mono ?_;rintro r w4 ⟨rfl,hA⟩;go_wp2;simp[bodyPost,results,go_sem,results95];rw[I.out,<-hv.out];exact KR.trans V hA
 by_cases E:x.k=2
 ·have I:Hid (jM ⟨H.ma,e⟩ p n=dD (oI ⟨H.ma,e⟩ x.n (-1)) p n zEn):=ae (by unfold jM;simp only[t.out];rw[if_neg f,if_pos E]);rw[E]at i;clear f E;have hj:=F.blk.cell;unfold lm at hj;go_upto_region 5 with(fail);refine gX 13 [_,_,_,_,_,_,_,.r 7 ((tJ w2.heap.size 3 1 (bq H.sl x.n (-1)).length ((bq H.sl x.n (-1)).map ib) (bK H.sl x.n (-1)))),.r 8 ((tJ w2.heap.size 3 1 (bq H.sl x.n (-1)).length ((bq H.sl x.n (-1)).map ib) (bK H.sl x.n (-1)))),.r 9 ((il w2.heap.size 3 1 (bq H.sl x.n (-1)).length ((bq H.sl x.n (-1)).map ib))),.v (.int .i64 (bK H.sl x.n (-1))),.r 11 ((il w2.heap.size 3 1 (bq H.sl x.n (-1)).length ((bq H.sl x.n (-1)).map ib))),.v (.int .i64 (bK H.sl x.n (-1)))] (λW=>Below w2.heap.size w2 W) bH (Below.refl _ _) (Yk bH rfl (Yk bH rfl (Yf bH b 0 rfl rfl (Yf bH b 2 rfl rfl (Yc bH (.slice H.asl H.sl.length H.csl) (λW A=>by simp[(F.below A).blk.cell,lm]) rfl rfl rfl rfl (Yf bH w1.heap.size 1 rfl rfl (Yc bH (.int .i64 x.n) (λW A=>by simp[(o.ext A).cell,pq]) rfl rfl rfl rfl (aj ?_ (aj ?_ (aj ?_ (aj ?_ (aj ?_ (Yk bH rfl (aH)))))))))))))) (λ_=>rfl) rfl ?_
  ·intro ρ y W C J A D;refine fw A ((tJ w2.heap.size 3 1 (bq H.sl x.n (-1)).length ((bq H.sl x.n (-1)).map ib) (bK H.sl x.n (-1)))) ?_;have hI:=C 35 4 rfl;have h4:y 4=_:=D 4 rfl;have hH:=C 37 6 rfl;have h6:y 6=_:=D 6 rfl;have EC:∀v,ρ (.const v)=v:=λv=>J (.const v) trivial;have EF:=eF0 J λ_=>trivial;refine aL (aW rfl (EF _) func91 (by simp only[bU,bM,bP,hI,h4,hH,h6,EC,EF];rfl)) ?_;have N:=(F.below A).ma.rd.sl;refine(zU H.sl H.asl H.csl x.n (-1) W N.le N.nl N.rd (by have:=N.le;have:=N.mx;unfold maxLen at this;omega)).mono ?_;rintro r G ⟨u,rfl,S,hD⟩;exact⟨_,rfl,hD,u,rfl,S.mono A.size⟩
  ·intro ρ y W C J A D;refine fw A ((tJ w2.heap.size 3 1 (bq H.sl x.n (-1)).length ((bq H.sl x.n (-1)).map ib) (bK H.sl x.n (-1)))) ?_;have hG:=C 38 7 rfl;have h7:=D 7 rfl;refine ak _ (run_move (.inl rfl) hG) (m:=?_);exact h7
  ·intro ρ y W C J A D;refine fw A ((il w2.heap.size 3 1 (bq H.sl x.n (-1)).length ((bq H.sl x.n (-1)).map ib))) ?_;have Z:=C 30 8 rfl;have h8:=D 8 rfl;obtain⟨u,M,S⟩:=h8;refine ak u (by simp[execOp,go_sem,bJ,Z,M]) (m:=?_);exact S
  ·intro ρ y W C J A D;refine fw A (fQ (.int .i64 (bK H.sl x.n (-1)))) ?_;have Z:=C 30 8 rfl;have h8:=D 8 rfl;obtain⟨u,M,S⟩:=h8;refine ak (.int .i64 (bK H.sl x.n (-1))) (by simp[execOp,go_sem,bJ,Z,M])
  ·intro ρ y W C J A D;refine fw A ((il w2.heap.size 3 1 (bq H.sl x.n (-1)).length ((bq H.sl x.n (-1)).map ib))) ?_;have hF:=C 39 9 rfl;have h9:=D 9 rfl;refine ak _ (run_move (.inr rfl) hF) (m:=?_);exact h9
  intro y G a c;replace a:Below w2.heap.size w2 G:=a;have hr:((tJ w2.heap.size 3 1 (bq H.sl x.n (-1)).length ((bq H.sl x.n (-1)).map ib) (bK H.sl x.n (-1)))).r (y 7) G:=c 7 (by decide);have hl:((tJ w2.heap.size 3 1 (bq H.sl x.n (-1)).length ((bq H.sl x.n (-1)).map ib) (bK H.sl x.n (-1)))).r (y 8) G:=c 8 (by decide);have hk:((il w2.heap.size 3 1 (bq H.sl x.n (-1)).length ((bq H.sl x.n (-1)).map ib))).r (y 9) G:=c 9 (by decide);have l:((il w2.heap.size 3 1 (bq H.sl x.n (-1)).length ((bq H.sl x.n (-1)).map ib))).r (y 11) G:=c 11 (by decide);clear c;simp only[dS,bJ,bM,bP];have j:Own G w2.heap.size 3 1 (y 11) (bq H.sl x.n (-1)).length ((bq H.sl x.n (-1)).map ib):=l;obtain⟨a3,c3,e7,_⟩:=Own.rd j;rw[e7]at j;simp only[e7];have Y:=F.below a;have K:=L.below a;have hB:=ae (aX F.bs (aC _));have hK:=ae L.size;clear hr hl hk l e7 i hj F L o a
  go_wp2_with fail
  refine(rU _ e (bK H.sl x.n (-1)) _ _ _ Y).mono ?_;rintro r w4 ⟨rfl,O,z⟩;have s4:=K.putB z rfl rfl rfl;have hy:=aA j Y.blk z;clear Y K j z
  by_cases U:bK H.sl x.n (-1)=0
  ·rw[U,oq]at O;have q:Hid (oI ⟨H.ma,e⟩ x.n (-1)=⟨{ H.ma with sl:=bq H.sl x.n (-1) },e⟩):=ae (by unfold oI;exact if_pos U);rw[U]
   go_wp2_with (refine aY b 2 [.slice a3 (bq H.sl x.n (-1)).length c3] rfl rfl rfl _ _ O.blk (by show 2+1<=12;decide) slots_size (λu M=>by cases bF.1 M;rfl) ?_)
   intro w5 hC hi;have k5:=O.setL (hy.mono hB.out) hC hi;have s5:KS w b H w5 { H with asl:=a3,csl:=c3,sl:=bq H.sl x.n (-1) }:=s4.putB hi rfl rfl rfl
   go_wp2_with fail
   refine(gJ _ e n p zEn B b _ k5 R).mono ?_;rintro r w6 ⟨rfl,s⟩;go_wp2;simp[bodyPost,results,go_sem,results95];rw[I.out,q.out];exact KR.trans s5 s
  have q:Hid (oI ⟨H.ma,e⟩ x.n (-1)=⟨H.ma,iD e (bK H.sl x.n (-1))⟩):=ae (by unfold oI;exact if_neg U)
  go_wp2_with fail
  refine(gJ _ (iD e (bK H.sl x.n (-1))) n p zEn B b _ O R).mono ?_;rintro r w6 ⟨rfl,s⟩;go_wp2;simp[bodyPost,results,go_sem,results95];rw[I.out,q.out];exact KR.trans s4 s
 have I:Hid (jM ⟨H.ma,e⟩ p n=⟨H.ma,e⟩):=ae (by unfold jM;simp only[t.out];rw[if_neg f,if_neg E]);go_wp2;simp[bodyPost,results,go_sem,results95];rw[I.out];exact⟨_,_,F,L,rfl⟩
theorem uX{a:Nat}(h:aK w a cs T)(h' : aK w b cs' T')(d:T≠T'):a≠b:=by
 rintro rfl;unfold aK at h h';rw[h]at h';simp only[fM,rM]at h';exact d h'.2.1
def FH(B:Nat)(m:Mem):oW:=⟨λv w => ∃u,v = .agg #[u,.int .i64 m.hand]/\Own w B 66 13 u m.fs.length (m.fs.flatMap rG),λ_ _ _ hb ⟨u,h1,h2⟩=>⟨u,h1,h2.below hb⟩⟩
theorem kQ(l:List Cc):(l.flatMap kM).length=l.length*3:=Pw.flat_len kM 3 kD l
theorem JU(c:Cc):∀u∈kM c,u.oneCell' = true:=gH (Ev c)
theorem BU(l:List Cc):∀u∈l.flatMap kM,u.oneCell' = true:=by
 intro u d;obtain⟨c,_,f⟩:=jS.1 d;exact JU c u f
def NZ(B:Nat)(S:St):oW:=⟨λv w => ∃u ps k,v = .agg #[u,.int .i64 k]/\mo w B u ps/\bD ps k=S,λ_ _ _ hb ⟨u,ps,k,h1,h2,h3⟩=>⟨u,ps,k,h1,h2.below hb,h3⟩⟩
theorem Cu(l:List Cc)(x:Cc)(k:Nat):(l.take k++x::l.drop k).flatMap kM=(l.take k).flatMap kM++(kM x++(l.drop k).flatMap kM):=by simp[iq]
theorem Gw{l:List Cc}{x:Cc}{o:Nat}(f:k<=l.length)(q:∀j u,((l.take k).flatMap kM)[j]?=some u->cur[o+j]?=some u)(m:∀j u,(kM x)[j]?=some u->cur[o+k*3+j]?=some u)
 (h:∀j u,((l.drop k).flatMap kM)[j]?=some u->cur[o+(k+1)*3+j]?=some u):∀j u,((l.take k++x::l.drop k).flatMap kM)[j]?=some u->cur[o+j]?=some u:=by
 intro j u d;have a:((l.take k).flatMap kM).length=k*3:=by rw[kQ,eG,uW f]
 rw[Cu]at d
 by_cases c1:j<k*3
 ·rw[jb (by omega)]at d;exact q j u d
 rw[jv (by omega),a]at d
 by_cases c2:j-k*3<3
 ·rw[jb (by rw[kD];exact c2)]at d;have:=m _ u d;rwa [show o+k*3+(j-k*3)=o+j by omega]at this
 rw[jv (by rw[kD];omega),kD]at d;have:=h _ u d;rwa [show o+(k+1)*3+(j-k*3-3)=o+j by omega]at this
theorem xY{l:List Cc}{o:Nat}(h:∀j u,(l.flatMap kM)[j]?=some u->cur[o+j]?=some u):∀j u,((l.take k).flatMap kM)[j]?=some u->cur[o+j]?=some u:=by
 intro j u d;refine h j u ?_
 conv=>lhs;rw[<-tZ k l,iq]
 rw[jb (by have:=(dw.1 d).1;exact this)];exact d
theorem DF{l:List Cc}(d:k<=l.length){o:Nat}(h:∀j u,(l.flatMap kM)[j]?=some u->cur[o+j]?=some u):∀j u,((l.drop k).flatMap kM)[j]?=some u->cur[o+k*3+j]?=some u:=by
 intro j u f;rw[qX];refine h _ u ?_
 conv=>lhs;rw[<-tZ k l,iq]
 have a:((l.take k).flatMap kM).length=k*3:=by rw[kQ,eG,uW d]
 rw[jv (by omega),a,EH];exact f
theorem MZ{a:Act}{K:Act->World->Prop}{E:Prop}
 (y:o.guard=none) (d s:Operand) (t t' : TypeId) (f:o.op=Op.call { callee:=.builtin .append,args:=#[d,s],argTypes:=#[t,t'] }) (h vs v:Value)
 (z:a.eval d=h) (j:a.eval s=vs) (q:(Builtin.append_ #[t,t'] o.type #[h,vs]).run P w = .ok v w') (A:K (a.put o.dst v) w') :
  if Region.wanted o (yielded ops a.tmps)=true then Oper.wp P o a w K Q else E:=by
 have m:Region.wanted o (yielded ops a.tmps)=true:=by simp[Region.wanted,y]
 rw[if_pos m];unfold Oper.wp;simp[execOp,f,resolve,invoke,builtin,z,j,q,Result.andThen];exact A
theorem Gv(l:List Cc)(k:Nat):(l.eraseIdx k).flatMap kM=(l.take k).flatMap kM++(l.drop (k+1)).flatMap kM:=by rw[List.eraseIdx_eq_take_drop_succ,iq]
theorem Dm(l:List Cc)(k:Nat)(J:k<l.length)(a:Option Addr)(c B:Nat)(w:World)(G:Own w B 122 3 (.slice a l.length c) l.length (l.flatMap kM))(hl:l.length<=1000) :
  Calls Tryz.prog 200 #[.slice a l.length c,.int .i64 k,.int .i64 ((k:Int)+1)] w λe w'=>e = .returned (.slice a (l.length-1) c)/\Own w' B 122 3 (.slice a (l.length-1) c) (l.length-1) ((l.eraseIdx k).flatMap kM)/\w.grownBy w' (oB a):=by
 rcases G with⟨O,⟨_,hz⟩|⟨b,off,c',cur,U,I,H,W,E,F,C⟩⟩
 ·omega
 cases U;have t:=E;unfold maxLen at t;have v:((l.drop (k+1)).flatMap kM).length=(l.length-(k+1))*3:=by rw[kQ,sU]
 have x:=DF (k:=k+1) (by omega) C;have q:∀K cc D,(∀j u,((l.drop (k+1)).flatMap kM)[j]?=some u->w.cell? (Addr.add K j)=some u)->(Builtin.append_ #[42,42] D #[.slice (some ⟨b,off,none⟩) k c,.slice (some K) (l.length-(k+1)) cc]).run Tryz.prog w.drew = .ok (.slice (some ⟨b,off,none⟩) (k+(l.length-(k+1))) c) (w.drew.setCells b (off+k*3) ((l.drop (k+1)).flatMap kM)):=by intro K cc D X;obtain⟨S,Y,hh,i,hg⟩:=info_parts cached_info;have:=run_append_room_cells (P:=Tryz.prog) w.drew 42 D 122 S underlying42 Y b off k c K (l.length-(k+1)) cc ((l.drop (k+1)).flatMap kM) (by rw[i,v]) X (λu V=>BU _ u V) (by omega) (λj A=>by rw[i,H.drew.cell];simp[show off+k*3+j<cur.size by omega]) (λj A=>H.drew.free _);rw[i]at this;exact this
 have r:k+1=l.length->((l.drop (k+1)).flatMap kM)=[]:=λh=>by rw[tu (by omega)];rfl
 obtain⟨N,M⟩:∃N,N=(l.drop (k+1)).flatMap kM:=⟨_,rfl⟩;rw[<-M]at v x q r;have R:=ae M;clear M;have hi:IntKind.i64.wrap ((k:Int)+1)=(k:Int)+1:=dz _ (by omega);have hs:(k:Int)+1<=(l.length:Int):=by omega
 have hr:(k:Int)<=(k:Int)+1:=by omega
 have hf:¬((k:Int)=(k:Int)+1):=by omega
 have ht:(0:Int)<=(k:Int)+1:=by omega
 have hm:((k:Int)+1).toNat=k+1:=by omega
 have hp:(l.length:Int)<=(c:Int):=by omega
 have hq:(k:Int)<=(c:Int):=by omega
 go_enter func200,ntmps200
 go_wp2_with fail
 by_cases L:c=k+1
 ·subst L;have z:=ae (r (by omega));clear r
  go_region_law (refine MZ rfl _ _ 42 42 rfl (.slice (some ⟨b,off,none⟩) k (k+1)) (.slice (some ⟨b,off,none⟩) (l.length-(k+1)) 0) _ (by simp[Act.eval,Act.put]) (by simp[Act.eval,Act.put];omega) (q _ _ _ (λj u A=>by rw[z.out]at A;simp at A)) ?_)
  have g:=(H.drew).setCells N (off+k*3);have f:w.grownBy (w.drew.setCells b (off+k*3) N) (some b):=gu (a:=w) (b:=w.drew) (row:=some b) ⟨rfl,rfl,rfl,aC _,λ_ _ _=>rfl⟩ (aD w.drew _ _ _);have o:k+(l.length-(k+1))=k:=by omega
  try rw[o]
  have s : Hid (k=l.length-1):=ae (by omega);have e4:(l.length:Int)<=(k:Int)+1:=by omega
  generalize w.drew.setCells b (off+k*3) N=W1 at *
  have y:=λD=>ru (P:=Tryz.prog) W1 42 122 D _ 3 24 underlying42 cached_info b (off+k*3) 1 (1) _ _ g (by rw[size_putAt];show off+k*3+1*3<=cur.size;omega);have e1:l.length-k=1:=by omega
  have e2:((k:Nat):Int)<=(l.length:Int):=by omega
  have e3:¬((k+1)=k):=by omega
  go_wp2;go_ret;have p:=g.setCells (Builtin.zeroCells (Value.agg #[.int .i64 0,.int .i64 0,.int .i64 0]).cells 1).toList (off+k*3);have d:=gu f (aD W1 b (off+k*3) (Builtin.zeroCells (Value.agg #[.int .i64 0,.int .i64 0,.int .i64 0]).cells 1).toList);refine⟨congrArg (λn=>Ending.returned (Value.slice (some ⟨b,off,none⟩) n (k+1))) (show k=l.length-1 by omega),⟨by rw[kQ,xI J],.inr ⟨b,off,(k+1),_,rfl,I,p,by omega,E,by rw[size_putAt,size_putAt];exact F,?_⟩⟩,d⟩;intro j u A;have Z:j<(l.length-1)*3:=by have:=(dw.1 A).1;rw[kQ,xI J]at this;exact this
  rw[putAt_out _ _ _ _ (.inl (by omega))];rw[Gv,<-R.out]at A;have m:((l.take k).flatMap kM).length=k*3:=by rw[kQ,eG,uW (by omega)]
  by_cases c1:j<k*3
  ·rw[jb (by omega)]at A;rw[putAt_out _ _ _ _ (.inl (by omega))];exact xY C j u A
  rw[jv (by omega),m]at A;have:=putAt_in _ cur (off+k*3) (j-k*3) u (by omega) A;rwa [show off+k*3+(j-k*3)=off+j by omega]at this
 go_region_law (refine MZ rfl _ _ 42 42 rfl (.slice (some ⟨b,off,none⟩) k c) (.slice (some ⟨b,off+(k+1)*3,none⟩) (l.length-(k+1)) (c-(k+1))) _ (by simp[Act.eval,Act.put]) (by simp[Act.eval,Act.put]) (q _ _ _ (λj u A=>by rw[oF,H.cell];exact x j u A)) ?_)
 have g:=(H.drew).setCells N (off+k*3);have f:w.grownBy (w.drew.setCells b (off+k*3) N) (some b):=gu (a:=w) (b:=w.drew) (row:=some b) ⟨rfl,rfl,rfl,aC _,λ_ _ _=>rfl⟩ (aD w.drew _ _ _);have o:k+(l.length-(k+1))=(l.length-1):=by omega
 try rw[o]
 have s : Hid ((l.length-1)=l.length-1):=ae (by omega);have e4:(l.length:Int)<=(c:Int):=by omega
 generalize w.drew.setCells b (off+k*3) N=W1 at *
 have y:=λD=>ru (P:=Tryz.prog) W1 42 122 D _ 3 24 underlying42 cached_info b (off+(l.length-1)*3) 1 (c-(l.length-1)) _ _ g (by rw[size_putAt];show off+(l.length-1)*3+1*3<=cur.size;omega);have e1:l.length-(l.length-1)=1:=by omega
 have e2:(((l.length-1):Nat):Int)<=(l.length:Int):=by omega
 have e3:¬(c=(l.length-1)):=by omega
 go_wp2;go_ret;have p:=g.setCells (Builtin.zeroCells (Value.agg #[.int .i64 0,.int .i64 0,.int .i64 0]).cells 1).toList (off+(l.length-1)*3);have d:=gu f (aD W1 b (off+(l.length-1)*3) (Builtin.zeroCells (Value.agg #[.int .i64 0,.int .i64 0,.int .i64 0]).cells 1).toList);refine⟨congrArg (λn=>Ending.returned (Value.slice (some ⟨b,off,none⟩) n c)) (show(l.length-1)=l.length-1 by omega),⟨by rw[kQ,xI J],.inr ⟨b,off,c,_,rfl,I,p,by omega,E,by rw[size_putAt,size_putAt];exact F,?_⟩⟩,d⟩;intro j u A;have Z:j<(l.length-1)*3:=by have:=(dw.1 A).1;rw[kQ,xI J]at this;exact this
 rw[putAt_out _ _ _ _ (.inl (by omega))];rw[Gv,<-R.out]at A;have m:((l.take k).flatMap kM).length=k*3:=by rw[kQ,eG,uW (by omega)]
 by_cases c1:j<k*3
 ·rw[jb (by omega)]at A;rw[putAt_out _ _ _ _ (.inl (by omega))];exact xY C j u A
 rw[jv (by omega),m]at A;have:=putAt_in _ cur (off+k*3) (j-k*3) u (by omega) A;rwa [show off+k*3+(j-k*3)=off+j by omega]at this
end Go.Proofs.YthihaopabbpalaaGreat