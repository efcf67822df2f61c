import Derived.Test.YthihaopabbpalaaGreatA2
import Derived.BigQuiet
import Derived.BigRegion
import Derived.Deep.DeepCutAuto
import Derived.Deep.Light
import Derived.Deep.LoopGhost
import Derived.Deep.QuietTactic
import Derived.IntWalk
import Derived.Lib.LazyBuf
import Derived.Test.YthihaopabbpalaaGreatRows
import Derived.Lib.Hide
import Derived.Deep.RegionLaw
import Derived.Laws.Externs
import Derived.Laws.IdiomCopy
import Derived.Lib.AppendZerosOnto
import Derived.Lib.Overlaps
import Derived.Lib.SliceRun
set_option linter.unusedSimpArgs false
set_option linter.unusedVariables false
set_option linter.unnecessarySimpa false
set_option maxHeartbeats 4000000
set_option maxRecDepth 100000
namespace Go.Proofs.YthihaopabbpalaaGreat
open _root_.Go.Proofs.Tryz
open Go.RowKit Go.Maps Pw
variable {B B' B0 b c c' f g i k off p q s sz:Nat} {P:Program} {Q:Exit -> Act -> World -> Prop} {T T' e t:TypeId} {a a':Option Addr} {cs cs' cur:Array Value} {d:vW} {kd n:Int} {l:List Int} {m m':Ma} {o:Oper} {ops:Array Oper} {rest:List Oper} {s':St} {v v':Value} {vs xs:List Value} {w w' w0 w1 w2:World} {x:Operand} {ρ:Operand -> Value}
structure PF where
 n:Int
 a:Option Addr
 l:List Int
 c:Nat
def PF.fi(p:PF):Fi:=⟨p.n,p.l⟩
def qI(p:PF):Array Value:=#[.int .i64 p.n,.slice p.a p.l.length p.c]
def rG(p:PF):List Value:=(qI p).toList
theorem kE(p:PF):(rG p).length=2:=rfl
theorem rY(p:PF):(qI p).all (·.oneCell')=true:=by simp[qI,Value.oneCell']
structure PF.good (w:World) (p:PF):Prop where
 le:p.l.length<=p.c
 mx:p.c<=maxLen
 nl:p.a=none->p.c=0
 rd:eu w p.a (p.l.map gF)
theorem PF.good.below{p:PF}(h:p.good w)(j:Below w.heap.size w w'):p.good w':=⟨h.le,h.mx,h.nl,h.rd.below j⟩
structure MO (w:World) (a:Option Addr) (c:Nat) (ps:List PF):Prop where
 le:ps.length<=c
 mx:c<=maxLen
 nl:a=none->c=0
 rd:eu w a (ps.flatMap rG)
 good:∀p∈ps,p.good w
theorem MO.below{j:List PF}(h:MO w a c j)(u:Below w.heap.size w w'):MO w' a c j:=
 ⟨h.le,h.mx,h.nl,h.rd.below u,λp y=>(h.good p y).below u⟩
theorem xy{j:List PF}(h:eu w a (j.flatMap rG))(k:Nat)(u:k<j.length):∃b off p,a=some ⟨b,off,none⟩/\j[k]?=some p/\w.cell? ⟨b,off+k*2,none⟩=some (.int .i64 p.n)/\w.cell? ⟨b,off+k*2+1,none⟩=some (.slice p.a p.l.length p.c):=by
 obtain⟨b,off,z,y⟩:=h.elem kE (by decide) k u;exact⟨b,off,j[k],z,aI u,y 0 _ rfl,y 1 _ rfl⟩
def cZ(ps:List PF)(k:Int):St:=⟨ps.map PF.fi,k⟩
def MF(a:Option Addr)(n c:Nat)(k:Int):Array Value:=#[.slice a n c,.int .i64 k]
theorem file_size:(Tryz.prog.info? 101).map (·.size)=some 2:=by kernel_rfl
theorem store_size:(Tryz.prog.info? 41).map (·.size)=some 2:=by kernel_rfl
theorem wF(c:Int)(h:List Int)(p:PF)(r:List Fi):pG c h (p.fi::r)=if p.n<0\/96<p.n then 3 else if(p.l.length:Int)≠eY p.n then 2 else if iB c h p.l≠0 then iB c h p.l else pG c (h++p.l) r:=rfl
theorem EI(A:List PF)(k:Int)(a:Option Addr)(c:Nat)(w:World)(h:MO w a c A)(hk64 : -9223372036854775808<=k/\k<=9223372036854775807) :
  Calls Tryz.prog 113 #[.agg (MF a A.length c k)] w λr w'=>r = .returned (.int .i64 (aT (cZ A k)))/\Below w.heap.size w w':=by
 have kg:=@run_makeMap Tryz.prog;have kh:=bi h.le h.mx;unfold maxLen at kh;unfold MF;go_enter func113,ntmps113;go_upto_region 1 with(fail);refine iC (λW=>Code.wp _ _ _ _ W) λW0 hV O kd => ?_;clear kd
 by_cases H:5<A.length\/k<0\/80<k
 ·have d:Hid (aT (cZ A k)=4):=ae (by unfold aT cZ;rw[if_pos (by simpa using H)]);have I:=O.cell;have kl : 5<A.length\/(¬5<A.length/\k<0)\/(¬5<A.length/\¬k<0/\80<k):=by omega
  clear H;rcases kl with g|⟨g,g2⟩|⟨g,g2,g3⟩
  all_goals
   go_wp2;go_ret;exact⟨aY d.out.symm,hV⟩
 have s:Hid (aT (cZ A k)=pG k (((A.take 0).map PF.fi).flatMap Fi.b) ((A.drop 0).map PF.fi)):=ae (by unfold aT cZ;rw[if_neg (by simpa using H)];rfl);have g1:¬5<A.length:=by omega
 have g2:¬k<0:=by omega
 have g3:¬80<k:=by omega
 have I:=O.cell;clear H;go_upto_region 4 with(fail);clear I kg;refine XY (λW=>Code.wp _ _ _ _ W) λW1 hU hW => ?_;have hE:=ag hV hU;have hP:=O.ext hU;have ki:w.heap.size<W0.heap.size:=O.lt;obtain⟨Z,ka⟩:∃g,g=W0.heap.size:=⟨_,rfl⟩;rw[<-ka]at hW ki ⊢;clear ka hV O hU;have hN : pF W1 Z 0 (tX (((A.take 0).map PF.fi).flatMap Fi.b)):=hW;have I:=hP.cell;go_upto_region 5 with(fail);clear I hW
 go_loopw [26] (fun i wr => ∃(q n:Nat),q<=A.length/\i = .int .i64 q/\n<=12*q/\Below w.heap.size w wr/\aG wr w.heap.size #[.slice a A.length c,.int .i64 k] 41/\pF wr Z n (tX (((A.take q).map PF.fi).flatMap Fi.b))/\Hid (aT (cZ A k)=pG k (((A.take q).map PF.fi).flatMap Fi.b) ((A.drop q).map PF.fi))) (fun i _=>A.length-(intOf i).toNat)
 case atStart=>exact⟨0,0,bq _,rfl,az _,hE,hP,hN,s⟩
 case round=>
  clear hE hP hN s;obtain⟨q,n,hq,rfl,hn,o,F,D,s⟩:=hrel
  by_cases hlt:q<A.length
  ·obtain⟨b,off,p,rfl,hp,c0,c1⟩:=xy (h.below o).rd q hlt;have hA:=(h.good p (bP hp)).below o;have Y:=drop_at hp;have N:=take_at hp;rw[Y,bS]at s;have hI:=ae N;clear Y N;generalize hseen:((A.take q).map PF.fi).flatMap Fi.b=seen at D s;have hs:=ae hseen;clear hseen hp
   go_wp2_with (refine aJ rfl rfl (qI p) rfl rfl rfl file_size (rY _) ?_)
   intro w2 X J;have hf:=ag o X;have h1:=F.ext X;have h8:=D.below X;have ht:=hA.below X;clear o F D hA X c0 c1;have hS:=J.cell;have f0:(qI p)[0]?=some (.int .i64 p.n):=rfl;have f1:(qI p)[1]?=some (.slice p.a p.l.length p.c):=rfl
   by_cases E:p.n<0\/96<p.n
   ·have d:Hid (aT (cZ A k)=3):=ae (by rw[s.out,wF,if_pos E]);have ke : p.n<0\/(¬p.n<0/\96<p.n):=by omega
    clear E;rcases ke with g|⟨g,g2⟩
    all_goals
     go_wp2;go_ret;exact⟨aY d.out.symm,hf⟩
   have ha:Hid (aT (cZ A k)=if(p.l.length:Int)≠eY p.n then 2 else if iB k seen p.l≠0 then iB k seen p.l else pG k (seen++p.l) ((A.drop (q+1)).map PF.fi)):=ae (by rw[s.out,wF,if_neg E]);have g4:¬p.n<0:=by omega
   have g5:¬96<p.n:=by omega
   clear E s
   by_cases C:(p.l.length:Int)=eY p.n
   ·have z:Hid (aT (cZ A k)=if iB k seen p.l≠0 then iB k seen p.l else pG k (seen++p.l) ((A.drop (q+1)).map PF.fi)):=ae (by rw[ha.out,if_neg (λS=>S C)]);have km:p.l.length<=12:=by have:=yM (n:=p.n) (by omega);omega
    have hT:=ae C;clear ha C;go_upto_region 9 with(fail);refine aO 7 [_,_,_,_,_,.v (.int .i64 (eY p.n)),_] (Gf wr.heap.size 1 rfl rfl (Gl J (V:=.slice p.a p.l.length p.c) (by simp[f1,underlying33]) rfl rfl rfl rfl (Gn rfl rfl rfl rfl (Gf wr.heap.size 0 rfl rfl (Gl J (V:=.int .i64 p.n) (by simp[f0]) rfl rfl rfl rfl (ah ?_ (Gb (.bool false) (by simp[go_sem,hT.out]) rfl rfl rfl rfl rfl (aF))))) (underlying33)))) (λ_=>rfl) rfl ?_
    ·intro ρ y W hw hn hb hd;have hZ:=hw 42 4 rfl;have H:y 4=_:=hd 4 rfl;have EF:=eF0 hn λ_=>trivial;refine aP (aS rfl (EF _) func88 (by simp only[bU,bS,aZ,hZ,H,EF];rfl)) ?_;refine(BZ p.n W (by omega)).mono ?_;rintro e w1 ⟨rfl,rfl⟩;exact⟨_,rfl,Below.refl _ _,rfl⟩
    intro y WA u _;have hD:=ag hf u;have h0:=h1.ext u;have h6:=h8.below u;have h5:=J.ext u;have hH:=ht.below u;clear hf h1 h8 J ht u hS;have hS:=h5.cell;have kc:Hid (iB k seen p.l=iB k (seen++p.l.take 0) (p.l.drop 0)):=ae (by simp);have h9:pF WA Z n (tX (seen++p.l.take 0)):=by simpa using h6
    have kn:=hH.le;have kf:=hH.mx;have hK:=hH.rd;unfold maxLen at kf;clear h6 hH;go_upto_region 12 with(fail);clear hS f0 f1 h5
    go_loopw [48] (fun i wr => ∃(j m:Nat),j<=p.l.length/\i = .int .i64 j/\m<=n+j/\Below w.heap.size w wr/\aG wr w.heap.size #[.slice (some ⟨b,off,none⟩) A.length c,.int .i64 k] 41/\pF wr Z m (tX (seen++p.l.take j))/\eu wr p.a (p.l.map gF)/\Hid (iB k seen p.l=iB k (seen++p.l.take j) (p.l.drop j))) (fun i _=>p.l.length-(intOf i).toNat)
    case atStart=>exact⟨0,n,bq _,rfl,az _,hD,h0,h9,hK,kc⟩
    case round=>
     clear hD h0 h9 hK kc;obtain⟨j,m,hj,rfl,hm,o,F,D,hQ,K⟩:=hrel
     by_cases R:j<p.l.length
     ·obtain⟨x,hX⟩:∃x,p.l[j]?=some x:=⟨p.l[j],aI R⟩;obtain⟨b2,off2,hR,hc⟩:=kC hQ j R;rw[show p.l[j]=x from(bZ.1 hX).2]at hc;have Y:=drop_at hX;have N:=take_at hX;rw[Y,wh]at K;rw[hR];generalize hs2:seen++p.l.take j=seen2 at K D;have hv:Hid (seen++p.l.take (j+1)=seen2++[x]):=ae (by rw[N,<-jR,hs2]);have hJ:=ae hQ;have hL:=ae hR;have I:=F.cell;clear hX Y N hs2 hQ hR;have h3 : (j:Int)<(p.l.length:Int):=by omega
      by_cases G:x < -1\/k<=x
      ·have d:Hid (aT (cZ A k)=3):=ae (by rw[z.out,K.out,if_pos G];rfl);have h2 : x < -1\/(¬x < -1/\k<=x):=by omega
       clear G;rcases h2 with g6|⟨g6,g7⟩
       all_goals
        go_wp2;go_ret;exact⟨aY d.out.symm,o⟩
      have g6:¬x < -1:=by omega
      have g7:¬k<=x:=by omega
      have hY:Hid (iB k seen p.l=if 0<=x/\x∈seen2 then 7 else iB k (seen2++[x]) (p.l.drop (j+1))):=ae (by rw[K.out,if_neg G]);clear K G;have hg:=D.look x (by omega)
      by_cases L:0<=x/\x∈seen2
      ·have d:Hid (aT (cZ A k)=7):=ae (by rw[z.out,hY.out,if_pos L];rfl);rw[show tX seen2 x=true from decide_eq_true L.2]at hg;have M:0<=x:=L.1;clear L;go_wp2;go_ret;exact⟨aY d.out.symm,o⟩
      have kb:Hid (iB k seen p.l=iB k (seen++p.l.take (j+1)) (p.l.drop (j+1))):=ae (by rw[hY.out,if_neg L,hv.out]);have kk : ¬0<=x\/(0<=x/\tX seen2 x=false):=by
       by_cases M:0<=x
       ·exact .inr ⟨M,decide_eq_false λS=>L ⟨M,S⟩⟩
       ·exact .inl M
      clear L hY;rcases kk with M|⟨M,g9⟩
      ·clear hg
       go_wp2_with (refine xE D (by omega) rfl _ _ _ rfl rfl x rfl rfl (by omega) ?_)
       intro w6 U t;rw[Ff,<-hv.out] at U;have hr:=o.grown t o.size oG0;have hO:=F.grown t (λe=>by have:=aM e;omega);have hz:=D.rdv hJ.out t;clear o F D t I hc;go_wp2;go_roundw
       case rel=>exact⟨j+1,m+1,by omega,by go_num,by omega,hr,hO,U,(by rw[<-hL.out];exact hz),kb⟩
       case measure=>simp[intOf];omega
      rw[g9]at hg
      go_wp2_with (refine xE D (by omega) rfl _ _ _ rfl rfl x rfl rfl (by omega) ?_)
      intro w6 U t;rw[Ff,<-hv.out] at U;have hr:=o.grown t o.size oG0;have hO:=F.grown t (λe=>by have:=aM e;omega);have hz:=D.rdv hJ.out t;clear o F D t I hc;go_wp2;go_roundw
      case rel=>exact⟨j+1,m+1,by omega,by go_num,by omega,hr,hO,U,(by rw[<-hL.out];exact hz),kb⟩
      case measure=>simp[intOf];omega
     have d:Hid (aT (cZ A k)=pG k (((A.take (q+1)).map PF.fi).flatMap Fi.b) ((A.drop (q+1)).map PF.fi)):=ae (by
      have e0:iB k seen p.l=0:=by rw[K.out,rA (by omega)];rfl
      rw[z.out,if_neg (λS=>S e0),hI.out,jM,fM,hs.out];simp[PF.fi])
     have kj:pF wr Z m (tX (((A.take (q+1)).map PF.fi).flatMap Fi.b)):=by rw[jD (by omega)]at D;rw[hI.out,jM,fM,hs.out];simpa[PF.fi]using D
     have h3 : ¬(j:Int)<(p.l.length:Int):=by omega
     clear D K z;go_wp2;go_roundw
     case rel=>exact⟨q+1,m,by omega,by go_num,by omega,o,F,kj,d⟩
     case measure=>simp[intOf];omega
   have d:Hid (aT (cZ A k)=2):=ae (by rw[ha.out,if_pos C]);have hT:((p.l.length:Int) != eY p.n)=true:=by rw[bne_iff_ne];exact C
   clear ha C;go_upto_region 9 with(fail);refine aO 7 [_,_,_,_,_,.v (.int .i64 (eY p.n)),_] (Gf wr.heap.size 1 rfl rfl (Gl J (V:=.slice p.a p.l.length p.c) (by simp[f1,underlying33]) rfl rfl rfl rfl (Gn rfl rfl rfl rfl (Gf wr.heap.size 0 rfl rfl (Gl J (V:=.int .i64 p.n) (by simp[f0]) rfl rfl rfl rfl (ah ?_ (Gb (.bool true) (by simp[go_sem,hT]) rfl rfl rfl rfl rfl (aF))))) (underlying33)))) (λ_=>rfl) rfl ?_
   ·intro ρ y W hw hn hb hd;have hZ:=hw 42 4 rfl;have H:y 4=_:=hd 4 rfl;have EF:=eF0 hn λ_=>trivial;refine aP (aS rfl (EF _) func88 (by simp only[bU,bS,aZ,hZ,H,EF];rfl)) ?_;refine(BZ p.n W (by omega)).mono ?_;rintro e w1 ⟨rfl,rfl⟩;exact⟨_,rfl,Below.refl _ _,rfl⟩
   intro y WA u _;go_wp2;go_ret;exact⟨aY d.out.symm,ag hf u⟩
  have d:Hid (aT (cZ A k)=0):=ae (by rw[s.out,rA (by omega)];rfl);go_wp2;go_ret;exact⟨aY d.out.symm,o⟩
theorem MQ(l:List Int)(a:Option Addr)(c:Nat)(w:World)(A:l.length<=c)(y:a=none->c=0)(z:eu w a (l.map gF))(F:l.length*8<=140737488355328) :
  Calls Tryz.prog 105 #[.slice a l.length c] w λe w' => ∃v,e = .returned v/\Own w' w.heap.size 3 1 v l.length (l.map gF)/\Below w.heap.size w w':=by
 cases a with
 | none=>
  have G:=y rfl;have D:l=[]:=kV (by omega);subst D;subst G;have C:=λW=>mY (P:=Tryz.prog) W 33 _ none 0 0 0 0 underlying33;go_enter func105,ntmps105;go_wp2;go_ret;exact⟨_,rfl,by simpa using Own.nil _ _ _ _,Below.refl _ _⟩
 | some ad=>
  have C:=λW=>mY (P:=Tryz.prog) W 33 _ (some ad) l.length c 0 0 underlying33;go_enter func105,ntmps105
  go_wp2_with (at_builtin;go_must (refine fQ 33 rfl w.heap.size 3 (.int .i64 0) 1 8 underlying33 int_info 0 [] rfl ?own (some ad) l.length c (l.map gF) rfl (λh=>(by cases h)) A (LY l) ?rd (Ll l) (by unfold maxLen;omega) (by simpa using F) ?bb ?k))
  case own=>exact⟨rfl,.inr ⟨w.heap.size,0,0,#[],rfl,az _,aG.new _ _ _,az _,bq _,by simp,λj u h=>by simp at h⟩⟩
  case rd=>exact z.below ((Below.refl _ _).alloc (az _) _)
  case bb=>exact gU _ _
  intro v w1 b d;go_wp2;go_ret;exact⟨v,rfl,by simpa using b,((Below.refl _ _).alloc (az _) _).grown d (gU _ _) (λk E=>by cases E;exact az _)⟩
theorem file_info:(Tryz.prog.info? 101).map (λi=>(i.zero,i.size,i.bytes))=some (some (.agg #[.int .i64 0,.slice none 0 0]),2,32):=by kernel_rfl
theorem Vd(p:PF):∀u∈rG p,u.oneCell' = true:=by
 intro u h;have:=rY p;rw[<-mD,fD]at this;exact this u h
def ou(p:PF):Value:=.slice p.a p.l.length p.c
structure rC (w:World) (B:Nat) (v:Value) (ps:List PF):Prop where
 own:Own w B 101 2 v ps.length (ps.flatMap rG)
 each:∀(i:Nat) p,ps[i]?=some p->Own w B 3 1 (ou p) p.l.length (p.l.map gF)
 apart:∀(i j:Nat) p q,i<j->ps[i]?=some p->ps[j]?=some q->Apart (ou p) (ou q)
theorem rC.rd{j:List PF}(h:rC w B v j):∃a c,v = .slice a j.length c/\MO w a c j:=by
 obtain⟨a,c,rfl,F,h2,E,D⟩:=h.own.rd;refine⟨a,c,rfl,F,h2,E,D,λp A => ?_⟩;obtain⟨i,C,rfl⟩:=jJ.1 A;obtain⟨a',c',e,k1,z,y,u⟩:=(h.each i _ (aI C)).rd;unfold ou at e;simp only[lU]at e;obtain⟨rfl,_,rfl⟩:=e;exact⟨k1,z,y,u⟩
theorem rC.below{j:List PF}(h:rC w B v j)(u:Below w.heap.size w w'):rC w' B v j:=
 ⟨h.own.below u,λi p y=>(h.each i p y).below u,h.apart⟩
theorem rC.mono{j:List PF}(h:rC w B v j)(u:B'<=B):rC w B' v j:=
 ⟨h.own.mono u,λi p y=>(h.each i p y).mono u,h.apart⟩
theorem rC.keep{u:List PF}(h:rC w B v u)(y:aG w g cs T)(A:T≠101)(h2:T≠3)(j:w.grownBy w' (some g)):rC w' B v u:=
 ⟨ax h.own y (p:=A) j,λi p z=>ax (h.each i p z) y (p:=h2) j,h.apart⟩
theorem rC.nil(w:World)(B:Nat):rC w B (.slice none 0 0) []:=⟨Own.nil _ _ _ _,λi p h=>by simp at h,λi j p q _ h=>by simp at h⟩
def Xm(ps:List PF):Prop:=ps.length*32<=140737488355328/\∀p∈ps,p.l.length*8<=140737488355328
theorem rC.app{u:List PF}(h:rC w B v u){p:PF}(E:Own w' B 101 2 v' (u.length+1) (u.flatMap rG++rG p))(D:Own w B 3 1 (ou p) p.l.length (p.l.map gF))(A:w.grownBy w' v.ownBlock)
 (G:∀(i:Nat) q,u[i]?=some q->Apart (ou q) (ou p)):rC w' B v' (u++[p]) where
 own:=by rw[jq,fM];simpa using E
 each:=λi q y=>by
  by_cases C:i<u.length
  ·rw[kN C]at y;exact zY (h.each i q y) h.own A
  rw[jX (by omega)]at y;have c:i-u.length=0:=by
   rcases ut (i-u.length)with e|e
   ·exact e
   ·rw[fH (by simp;omega)]at y;cases y
  rw[c]at y;cases y;exact zY D h.own A
 apart:=λi j q r b y z=>by
  have C:i<u.length:=by have:=(bZ.1 z).1;simp at this;omega
  rw[kN C]at y
  by_cases F:j<u.length
  ·rw[kN F]at z;exact h.apart i j q r b y z
  rw[jX (by omega)]at z;have a:j-u.length=0:=by
   rcases ut (j-u.length)with e|e
   ·exact e
   ·rw[fH (by simp;omega)]at z;cases z
  rw[a]at z;cases z;exact G i q y
theorem slfile_size:(Tryz.prog.info? 39).map (·.size)=some 1:=by kernel_rfl
theorem vE(a:Option Addr)(n c:Nat)(k:Int):(#[Value.slice a n c,Value.int .i64 k]:Array Value).all (·.oneCell')=true:=by simp[Value.oneCell']
def Wt(B:Nat)(n:Int)(l:List Int):mP:=⟨λv w => ∃u,v = .agg #[.int .i64 n,u]/\Own w B 3 1 u l.length (l.map gF),λ_ _ _ hb ⟨u,h1,h2⟩=>⟨u,h1,h2.below hb⟩⟩
def XK(B:Nat)(n:Int)(l:List Int):mP:=⟨λv w => ∃g p,v = .slice (some ⟨g,0,none⟩) 1 1/\p.n=n/\p.l=l/\eu w (some ⟨g,0,none⟩) (rG p)/\Own w B 3 1 (ou p) p.l.length (p.l.map gF),by
 rintro v w w' hb ⟨g,p,h1,h2,h3,h4,h5⟩;exact⟨g,p,h1,h2,h3,h4.below hb,h5.below hb⟩⟩
theorem Lg(G:List PF)(k:Int)(a:Option Addr)(c:Nat)(w:World)(h:MO w a c G)(hz:Xm G) :
  Calls Tryz.prog 60 #[.agg (MF a G.length c k)] w λr w' => ∃v K,r = .returned (.agg #[v,.int .i64 k])/\rC w' w.heap.size v K/\K.map PF.fi=G.map PF.fi/\Below w.heap.size w w':=by
 have kq:=bi h.le h.mx;unfold maxLen at kq;unfold MF;go_enter func60,ntmps60;go_upto_region 1 with(fail);refine tY (λW=>Code.wp _ _ _ _ W) λW0 kh hE hH km => ?_;clear km;have hO:=hE.cell;go_upto_region 2 with(refine aJ rfl rfl #[.slice none 0 0,.int .i64 k] rfl rfl rfl store_size (vE none 0 0 k) ?_);clear hO;intro W1 J hL;have hm:=ag kh J;have hW:=hE.ext J;have h9:=hH.ext J;have ks:w.heap.size+1<W0.heap.size:=hH.lt;obtain⟨I,kj⟩:∃g,g=W0.heap.size:=⟨_,rfl⟩;rw[<-kj]at hL ks ⊢;clear kj kh hE hH J;have hO:=hW.cell;go_upto_region 3 with(fail);clear hO
 go_loopw [12] (fun i wr => ∃(q:Nat) (v:Value) (C:List PF),q<=G.length/\i = .int .i64 q/\Below w.heap.size w wr/\aG wr (w.heap.size+1) #[.slice none 0 0,.int .i64 0] 41/\aG wr I #[v,.int .i64 k] 41/\rC wr w.heap.size v C/\C.map PF.fi=(G.take q).map PF.fi) (fun i _=>G.length-(intOf i).toNat)
 case atStart=>exact⟨0,_,[],bq _,rfl,hm,h9,hL,rC.nil _ _,rfl⟩
 case round=>
  clear hm hW h9 hL;obtain⟨q,v,C,hq,rfl,O,X,H,Z,hB⟩:=hrel;have hI:=ae hB;clear hB
  by_cases hlt:q<G.length
  ·obtain⟨b,off,p,rfl,Y,c0,c1⟩:=xy (h.below O).rd q hlt;have hM:=h.good p (bP Y);have kn:=hz.2 p (bP Y);have hX:=take_at Y;have kb:Hid (C.map PF.fi++[p.fi]=(G.take (q+1)).map PF.fi):=ae (by rw[hX,jM,hI.out];rfl);have kH:C.length<=q:=by have:=congrArg List.length hI.out;simp[uy hq]at this;omega
   clear Y hX
   go_wp2_with (refine aJ rfl rfl (qI p) rfl rfl rfl file_size (rY _) ?_)
   intro w2 N hN;have m:=ag O N;have h8:=X.ext N;have hK:=H.ext N;have L:=Z.below N;have kE:I<wr.heap.size:=H.lt;clear O X H Z N c0 c1;obtain⟨S,R,rfl,ki⟩:=L.rd;have kI:=ki.le;have kp:=ki.mx;unfold maxLen at kp;have kD:=hz.1;have kt:=hM.below m;go_upto_region 5 with(fail);refine Eu 9 10 [] [mW (.pointer (some ⟨I,0,none⟩)),mW (.slice S C.length R),mW (.pointer (some ⟨wr.heap.size,0,none⟩)),mW (.int .i64 p.n),mW (.pointer (some ⟨wr.heap.size,1,none⟩)),mW (.slice p.a p.l.length p.c),(nA w2.heap.size 3 1 p.l.length (p.l.map gF)),(Wt w2.heap.size p.n p.l),(XK w2.heap.size p.n p.l)] (by kernel_rfl) (by kernel_rfl) (by kernel_rfl) (by kernel_rfl) (by kernel_rfl) (by kernel_rfl) (by decide) (by decide) _ rfl (by kernel_rfl) (ah ?_ (ah ?_ (ah ?_ (ah ?_ (ah ?_ (ah ?_ (ah ?_ (ah ?_ (ah ?_ (aF)))))))))) (aF) rfl ?_
   ·refine aR ?_;intro ρ y W A D F E;have E3:ρ (.tmp 3) = .pointer (some ⟨I,0,none⟩):=(D (.tmp 3) rfl).trans rfl;refine ak (.pointer (some ⟨I,0,none⟩)) (by simp[execOp,go_sem,E3])
   ·refine aR ?_;intro ρ y W A D F E;have kC:=A 16 0 rfl;have h0:y 0=_:=E 0 rfl;refine ak (.slice S C.length R) (by simp[execOp,go_sem,kC,h0,(hK.ext F).cell,underlying39])
   ·refine aR ?_;intro ρ y W A D F E;have E5:ρ (.tmp 5) = .pointer (some ⟨wr.heap.size,0,none⟩):=(D (.tmp 5) rfl).trans rfl;refine ak (.pointer (some ⟨wr.heap.size,0,none⟩)) (by simp[execOp,go_sem,E5])
   ·refine aR ?_;intro ρ y W A D F E;have kB:=A 18 2 rfl;have h2:y 2=_:=E 2 rfl;refine ak (.int .i64 p.n) (by simp[execOp,go_sem,kB,h2,(hN.ext F).cell,qI])
   ·refine aR ?_;intro ρ y W A D F E;have E5:ρ (.tmp 5) = .pointer (some ⟨wr.heap.size,0,none⟩):=(D (.tmp 5) rfl).trans rfl;refine ak (.pointer (some ⟨wr.heap.size,1,none⟩)) (by simp[execOp,go_sem,E5])
   ·refine aR ?_;intro ρ y W A D F E;have kz:=A 20 4 rfl;have h4:y 4=_:=E 4 rfl;refine ak (.slice p.a p.l.length p.c) (by simp[execOp,go_sem,kz,h4,(hN.ext F).cell,qI])
   ·refine aR ?_;intro ρ y W A D F E;have ky:=A 21 5 rfl;have h5:y 5=_:=E 5 rfl;have EF:=eF0 D λ_=>trivial;refine aP (aS rfl (EF _) func105 (by simp only[bU,bS,aZ,ky,h5,EF];rfl)) ?_;refine(MQ p.l p.a p.c W hM.le hM.nl (kt.below F).rd kn).mono ?_;rintro e w1 ⟨u,rfl,H,J⟩;exact⟨u,rfl,J,H.mono F.size⟩
   ·refine aR ?_;intro ρ y W A D F E;have kA:=A 19 3 rfl;have h3:y 3=_:=E 3 rfl;have kx:=A 22 6 rfl;have h6:((nA w2.heap.size 3 1 p.l.length (p.l.map gF))).r (y 6) W:=E 6 rfl;obtain⟨x6,c6,e6,_⟩:=Own.rd h6;refine ak (.agg #[.int .i64 p.n,y 6]) (by simp[execOp,go_sem,kA,h3,kx,e6]) (m:=?_);exact⟨_,rfl,h6⟩
   ·refine aR ?_;intro ρ y W A D F E;have kw:=A 23 7 rfl;have h7:((Wt w2.heap.size p.n p.l)).r (y 7) W:=E 7 rfl;obtain⟨u,e7,kd⟩:=h7;obtain⟨x7,c7,rfl,_⟩:=Own.rd kd;refine jg (.slice (some ⟨W.heap.size,0,none⟩) 1 1) (aj) (by simp[execOp,go_sem,kw,e7,qI]) ((Below.refl _ _).alloc (az _) (.cells (qI ⟨p.n,x7,p.l,c7⟩) 101)) ?_;exact⟨_,⟨p.n,x7,p.l,c7⟩,rfl,rfl,rfl,eu.new _ _ _,kd.alloc _⟩
   intro ρ y WA o H A D hV s d;cases H;have hU:y 0=_:=d 0 (by decide);have hD:y 1=_:=d 1 (by decide);have hT:y 2=_:=d 2 (by decide);have hS:y 3=_:=d 3 (by decide);have hR:y 4=_:=d 4 (by decide);have hQ:y 5=_:=d 5 (by decide);have kG:((nA w2.heap.size 3 1 p.l.length (p.l.map gF))).r (y 6) WA:=d 6 (by decide);have kF:((Wt w2.heap.size p.n p.l)).r (y 7) WA:=d 7 (by decide);have kl:((XK w2.heap.size p.n p.l)).r (y 8) WA:=d 8 (by decide);have kk:=A 17 1 rfl;rw[hD]at kk;have kv:=A 24 8 rfl;have EC:∀v,ρ (.const v)=v:=λv=>D (.const v) trivial;have EF:=eF0 D λ_=>trivial;obtain⟨g8,U,e8,ko,kr,hA,hj⟩:=kl;refine Jc (aj) (qB (.tmp 17) (.tmp 24) 39 rfl w.heap.size 101 _ 2 32 underlying39 file_info rfl _ _ _ kk (L.own.below s) _ 1 1 (rG U) (kv.trans e8) (λe=>by cases e) (az _) rfl hA (Vd _) (by unfold maxLen;omega) (bi m.size s.size)) ?_;rintro v2 w4 ⟨hh,t,hx⟩;clear d A D hV;simp only[lay,Nat.reduceAdd,Nat.reduceLT,Nat.reduceEqDiff,reduceIte,decide_true,decide_false,if_true,uA,if_false,zX,uT,uB,yL,AL,yZ,hU,hD,hT,hS,hR,hQ];clear hU hD hT hS hR hQ;have x:=ag m s;have hY:=h8.ext s;have kc:=hK.ext s;have M:=L.below s;have hC:∀(i:Nat) r,C[i]?=some r->Apart (ou r) (ou U):=by intro i r hi g hg ku;have h1:=JG (L.each i r hi) g hg;have h2:=hj.ge g ku;omega
   have hc : Own w4 w.heap.size 101 2 v2 (C.length+1) (C.flatMap rG++rG U):=hh;have V:=M.app hc (hj.mono m.size) t hC;have hZ:=lI hY M.own t;have hJ:=lI kc M.own t;have ha:Below w.heap.size w w4:=x.grown t x.size (λk hk=>M.own.ge k hk);have ka:Hid ((C++[U]).map PF.fi=(G.take (q+1)).map PF.fi):=ae (by rw[jM,<-kb.out];congr 1;simp[PF.fi,ko,kr]);obtain⟨a4,c4,rfl,_⟩:=V.rd;rw[jq,DK]at V ⊢;clear m h8 hK L s x hY kc M hh hc t hC hj hA hN hx
   go_wp2_with (refine aC I 0 [.slice a4 (C.length+1) c4] rfl rfl rfl _ _ hJ (show 0+1<=2 by decide) slfile_size (λu hu=>by cases bC.1 hu;rfl) ?_)
   intro w5 kf j;have hG:aG w5 (w.heap.size+1) _ _:=hZ.grown j (λe=>by have:=aM e;omega);have hP:=V.keep hJ (by decide) (by decide) j;have z:=ha.grown j ha.size oG0;have ke : aG w5 I #[.slice a4 (C.length+1) c4,.int .i64 k] 41:=kf;clear hJ hZ V ha j kf;go_wp2;go_roundw
   case rel=>exact⟨q+1,_,_,by omega,by go_num,z,hG,ke,hP,ka.out⟩
   case measure=>simp[intOf];omega
  obtain rfl:q=G.length:=by omega
  have kg:Hid (C.map PF.fi=G.map PF.fi):=ae (by rw[hI.out,yu]);obtain⟨S,R,rfl,_⟩:=Z.rd;have kJ:=H.cell
  go_wp2_with (refine aA rfl _ _ rfl (w.heap.size+1) #[.slice S C.length R,.int .i64 k] rfl rfl X rfl store_size (vE _ _ _ _) ?_)
  intro w5 hG j;have hP:=Z.keep X (by decide) (by decide) j;have z:=O.grown j O.size oG0;go_wp2;refine bodyPost_ret (v:=.agg #[.slice S C.length R,.int .i64 k]) (fw results60 (w.heap.size+1) hG underlying41 store_size) rfl ?_;exact⟨_,_,rfl,hP,kg.out,z⟩
def wV(ps:List PF):List Int:=ps.flatMap PF.l
theorem Bl(h:List PF)(k:Int):lT (cZ h k)=wV h:=by
 unfold lT cZ wV;rw[Dw];rfl
theorem NS{h:List PF}{p:PF}(j:h[q]?=some p):wV (h.take (q+1))=wV (h.take q)++p.l:=by
 unfold wV;rw[take_at j,fM];simp
theorem Cx(A:List PF)(k x:Int)(a:Option Addr)(c:Nat)(w:World)(h:MO w a c A) :
  Calls Tryz.prog 34 #[.agg (MF a A.length c k),.int .i64 x] w λr w'=>r = .returned (.bool (iE (cZ A k) x))/\Below w.heap.size w w':=by
 have U:=bi h.le h.mx;unfold maxLen at U;unfold MF;go_enter func34,ntmps34;go_upto_region 1 with(fail);refine iC (λW=>Code.wp _ _ _ _ W) λW0 L e X => ?_;clear X;have R:=e.cell;go_upto_region 2 with(fail);clear R e
 go_loopw [12] (fun i wr => ∃(q:Nat),q<=A.length/\i = .int .i64 q/\¬x∈wV (A.take q)/\Below w.heap.size w wr) (fun i _=>A.length-(intOf i).toNat)
 case atStart=>exact⟨0,bq _,rfl,by simp[wV],L⟩
 case round=>
  clear L;obtain⟨q,hq,rfl,z,d⟩:=hrel;have K:=ae z;clear z
  by_cases H:q<A.length
  ·obtain⟨b,off,p,rfl,G,c0,c1⟩:=xy (h.below d).rd q H;have t:=h.good p (bP G);have Y:=ae (NS G);have S:Hid (∀y∈p.l,y∈wV A):=ae (λy D=>lg.2 ⟨p,bP G,D⟩);have V:=bi t.le t.mx;unfold maxLen at V;clear G
   go_wp2_with (refine aJ rfl rfl (qI p) rfl rfl rfl file_size (rY _) ?_)
   intro w2 M N;have g:=ag d M;have O:=N.cell;have f0:(qI p)[0]?=some (.int .i64 p.n):=rfl;have f1:(qI p)[1]?=some (.slice p.a p.l.length p.c):=rfl;clear d M c0 c1;go_upto_region 5 with(fail);clear O f0 f1 N
   go_loopw [19] (fun i wr => ∃(j:Nat),j<=p.l.length/\i = .int .i64 j/\¬x∈p.l.take j/\Below w.heap.size w wr) (fun i _=>p.l.length-(intOf i).toNat)
   case atStart=>exact⟨0,bq _,rfl,by simp,g⟩
   case round=>
    clear g;obtain⟨j,hj,rfl,e,d⟩:=hrel;have J:=ae e;clear e
    by_cases E:j<p.l.length
    ·obtain⟨b2,I,v,Z⟩:=kC (t.rd.below d) j E;have u:p.l.take (j+1)=p.l.take j++[p.l[j]]:=take_at (aI E);have m:=ae (S.out _ (fe E));have o:=ae u;rw[v];clear u v;generalize p.l[j]=y at Z o m
     by_cases D:y=x
     ·have f:Hid (iE (cZ A k) x=true):=ae (by unfold iE;rw[Bl,<-D];exact decide_eq_true m.out);subst D;go_wp2;go_ret;exact⟨bY f.out.symm,d⟩
     have s:Hid (¬x∈p.l.take (j+1)):=ae (by
      rw[o.out];intro C;rcases gV.1 C with C|C
      ·exact J.out C
      ·exact D (bC.1 C).symm)
     have hs:(y==x)=false:=beq_eq_false_iff_ne.2 D;clear D;go_wp2;go_roundw
     case rel=>exact⟨j+1,by omega,by go_num,s.out,d⟩
     case measure=>simp[intOf];omega
    have s:Hid (¬x∈wV (A.take (q+1))):=ae (by
     have F:=J.out;rw[jD (by omega)]at F;rw[Y.out];intro C;rcases gV.1 C with C|C
     ·exact K.out C
     ·exact F C)
    go_wp2;go_roundw
    case rel=>exact⟨q+1,by omega,by go_num,s.out,d⟩
    case measure=>simp[intOf];omega
  have f:Hid (iE (cZ A k) x=false):=ae (by have F:=K.out;rw[jD (by omega)]at F;unfold iE;rw[Bl];exact decide_eq_false F);go_wp2;go_ret;exact⟨bY f.out.symm,d⟩
theorem Rq(l:List Int)(x:Int)(a:Option Addr)(c:Nat)(w:World)(A:eu w a (l.map gF))(E:l.length<=9223372036854775807) :
  Calls Tryz.prog 220 #[.slice a l.length c,.int .i64 x] w λe w'=>e = .returned (.int .i64 (idx (λy=>decide (x=y)) l))/\Below w.heap.size w w':=by
 go_enter func220,ntmps220;go_wp2
 go_loopw [8] (fun i wr => ∃k:Nat,k<=l.length/\i = .int .i64 k/\Below w.heap.size w wr/\∀i (h:i<l.length),i<k->(fun y=>decide (x=y)) l[i]=false) (fun i _=>l.length-(intOf i).toNat)
 case atStart=>exact⟨0,bq _,rfl,Below.refl _ _,λi _ h=>absurd h (fA _)⟩
 case round=>
  obtain⟨k,F,rfl,f,g⟩:=hrel;have C:=ae g;clear g
  by_cases u:k<l.length
  ·obtain⟨b,off,rfl,G⟩:=kC (A.below f) k u
   by_cases z:x=l[k]
   ·have d:=ae (uR (λy=>decide (x=y)) l k u C.out (decide_eq_true z));have D:(x==l[k])=true:=beq_iff_eq.2 z;clear z;go_wp2;go_ret;exact⟨aY d.out.symm,f⟩
   have j:=ae (show (λy=>decide (x=y)) l[k]=false from decide_eq_false z);have D:(x==l[k])=false:=beq_eq_false_iff_ne.2 z;clear z;go_wp2;go_roundw
   case rel=>exact⟨k+1,by omega,by go_num,f,mJ C.out u j.out⟩
   case measure=>simp[intOf];omega
  have d:=ae (mo (λy=>decide (x=y)) l λi h=>C.out i h (by omega));go_wp2;go_ret;exact⟨aY d.out.symm,f⟩
theorem Jw(l:List Int)(x:Int)(a:Option Addr)(c:Nat)(w:World)(h:eu w a (l.map gF))(j:l.length<=9223372036854775807) :
  Calls Tryz.prog 215 #[.slice a l.length c,.int .i64 x] w λe w'=>e = .returned (.bool (decide (x∈l)))/\Below w.heap.size w w':=by
 go_enter func215,ntmps215
 go_wp2_with fail
 refine(Rq l x a c _ h j).mono ?_;rintro e w2 ⟨rfl,d⟩;have b:=ae ((pM (λy=>decide (x=y)) l).trans (Vi l x));go_wp2;go_ret;exact⟨bY b.out,d⟩
def hasB(x:Int)(p:PF):Bool:=decide (x∈p.l)
theorem QH(p:PF)(g:Nat)(x:Int)(w:World)(y:aG w g #[.int .i64 x] 3)(u:p.good w) :
  Calls Tryz.prog 214 #[.agg #[.int .i64 p.n,.slice p.a p.l.length p.c],.pointer (some ⟨g,0,none⟩)] w λr w'=>r = .returned (.bool (hasB x p))/\Below w.heap.size w w':=by
 have i:=bi u.le u.mx;unfold maxLen at i;go_enter func214,ntmps214;go_upto_region 1 with(fail);refine iC (λW=>Code.wp _ _ _ _ W) λW0 b d f => ?_;clear f;have k:=(y.ext b).cell 0;have m:=d.cell;have h:=u.below b
 go_wp2_with fail
 refine(Jw p.l x p.a p.c _ h.rd (by omega)).mono ?_;rintro e w2 ⟨rfl,j⟩;go_wp2;go_ret;exact⟨rfl,ag b j⟩
theorem WC{j:List PF}(h:eu w a (j.flatMap rG))(k:Nat)(y:k<j.length):∃b off,a=some ⟨b,off,none⟩/\w.cell? ⟨b,off+k*2,none⟩=some (.int .i64 j[k].n)/\w.cell? ⟨b,off+k*2+1,none⟩=some (.slice j[k].a j[k].l.length j[k].c):=by
 obtain⟨b,off,z,u⟩:=h.elem kE (by decide) k y;exact⟨b,off,z,u 0 _ rfl,u 1 _ rfl⟩
theorem Rh(l:List PF)(a:Option Addr)(c:Nat)(w:World)(z:eu w a (l.flatMap rG))(D:l.length<=9223372036854775807)(g:Nat)(x:Int)(C:aG w g #[.int .i64 x] 3)(y:∀p∈l,p.good w) :
  Calls Tryz.prog 219 #[.slice a l.length c,.func (.func 214) #[] #[.pointer (some ⟨g,0,none⟩)]] w λe w'=>e = .returned (.int .i64 (idx (hasB x) l))/\Below w.heap.size w w':=by
 go_enter func219,ntmps219;go_wp2
 go_loopw [8] (fun i wr => ∃k:Nat,k<=l.length/\i = .int .i64 k/\Below w.heap.size w wr/\∀i (h:i<l.length),i<k->(hasB x) l[i]=false) (fun i _=>l.length-(intOf i).toNat)
 case atStart=>exact⟨0,bq _,rfl,Below.refl _ _,λi _ h=>absurd h (fA _)⟩
 case round=>
  obtain⟨k,E,rfl,f,n⟩:=hrel;have A:=ae n;clear n
  by_cases u:k<l.length
  ·obtain⟨b,off,rfl,G,F⟩:=WC (z.below f) k u
   go_wp2_with fail
   refine(QH l[k] g x _ (C.ext f) ((y _ (fe u)).below f)).mono ?_;rintro e w2 ⟨rfl,o⟩;have j:=ag f o;clear o;cases hpk:(hasB x) l[k]
   ·have m:=ae hpk;clear hpk;go_wp2;go_roundw
    case rel=>exact⟨k+1,by omega,by go_num,j,mJ A.out u m.out⟩
    case measure=>simp[intOf];omega
   have d:=ae (uR (hasB x) l k u A.out hpk);clear hpk;go_wp2;go_ret;exact⟨aY d.out.symm,j⟩
  have d:=ae (mo (hasB x) l λi h=>A.out i h (by omega));go_wp2;go_ret;exact⟨aY d.out.symm,f⟩
theorem Qj(l:List PF)(a:Option Addr)(c:Nat)(w:World)(j:eu w a (l.flatMap rG))(u:l.length<=9223372036854775807)(g:Nat)(x:Int)(y:aG w g #[.int .i64 x] 3)(h:∀p∈l,p.good w) :
  Calls Tryz.prog 213 #[.slice a l.length c,.func (.func 214) #[] #[.pointer (some ⟨g,0,none⟩)]] w λe w'=>e = .returned (.bool (l.any (hasB x)))/\Below w.heap.size w w':=by
 go_enter func213,ntmps213
 go_wp2_with fail
 refine(Rh l a c _ j u g x y h).mono ?_;rintro e w2 ⟨rfl,b⟩;go_wp2;go_ret;exact⟨bY (pM _ _),b⟩
theorem Si(u:List PF)(k x:Int):u.any (hasB x)=iE (cZ u k) x:=by
 unfold iE hasB;rw[Bl,nz,jP,decide_eq_true_eq];unfold wV;rw[lg];constructor
 ·rintro⟨p,j,h⟩;exact⟨p,j,of_decide_eq_true h⟩
 ·rintro⟨p,j,h⟩;exact⟨p,j,decide_eq_true h⟩
theorem Pn(z:List PF)(k:Int)(a:Option Addr)(c g:Nat)(w:World)(h:MO w a c z)(E:aG w g (MF a z.length c k) 41)(H:k<=80) :
  Calls Tryz.prog 208 #[.pointer (some ⟨g,0,none⟩)] w λr w'=>r = .returned (.int .i64 (iD (cZ z k)))/\Below w.heap.size w w':=by
 have x:=bi h.le h.mx;unfold maxLen at x;unfold MF at E;go_enter func208,ntmps208;have l:=E.cell;go_upto_region 2 with(fail);clear l
 go_loopw [8] (fun i wr => ∃(q:Nat),((q:Int)<=k\/q=0)/\i = .int .i64 q/\Below w.heap.size w wr/\∀i:Nat,i<q->iE (cZ z k) i=true) (fun i _=>k.toNat-(intOf i).toNat)
 case atStart=>exact⟨0,.inr rfl,rfl,Below.refl _ _,λi A=>absurd A (fA _)⟩
 case round=>
  obtain⟨q,G,rfl,j,p⟩:=hrel;have C:=ae p;clear p
  by_cases D:(q:Int)<k
  ·have u:=E.ext j;go_upto_region 4 with(refine Kb rfl _ _ _ rfl (.int .i64 q) rfl rfl rfl int_size rfl ?_);intro w2 n t;have b:=ag j n;have o:=u.ext n;have l:=o.cell;have h2:=h.below b;clear j n u
   go_wp2_with fail
   refine(Qj z a c _ h2.rd (by omega) wr.heap.size q t h2.good).mono ?_;rintro e F ⟨rfl,m⟩;have f:=ag b m;have y:=(t.ext m).cell 0;rw[Si z k];clear l b o m;cases hus:iE (cZ z k) q
   ·have d:=ae (QO (s:=cZ z k) D C.out hus);clear hus;go_wp2;go_ret;exact⟨aY d.out.symm,f⟩
   have v:Hid (∀i:Nat,i<q+1->iE (cZ z k) i=true):=ae (λi A=>by
    by_cases e:i=q
    ·subst e;exact hus
    ·exact C.out i (by omega))
   clear hus;go_wp2;go_roundw
   case rel=>exact⟨q+1,by omega,by go_num,f,v.out⟩
   case measure=>simp[intOf];omega
  have d:=ae (LD (s:=cZ z k) (λi A=>C.out i (by have:(i:Int)<k:=A;omega)));go_wp2;go_ret;exact⟨aY d.out.symm,j⟩
theorem QD{j:List PF}{k:Int}(h:aT (cZ j k)=0):Xm j:=by
 have A:=lu h;have h2:j.length<=5:=by simpa[cZ]using A.1
 refine⟨by omega,λp y => ?_⟩;have u:=wB h p.fi (by simpa[cZ]using DD y);have z:=yM u.2.1;have D:(p.l.length:Int)=eY p.n:=u.2.2.1;have C:eY p.n<=12:=z;omega
theorem UQ(cur:Array Value)(o:Nat)(x y:Value)(h:cur[o+1]?=some y):bH cur o [x,y]=cur.setIfInBounds o x:=by
 show(cur.setIfInBounds o x).setIfInBounds (o+1) y=cur.setIfInBounds o x;apply mI;intro i;rw[BC]
 by_cases e:o+1=i
 ·subst e;have a:o+1<cur.size:=(iV.1 h).1;rw[if_pos rfl,if_pos (by simpa using a),gZ (by omega),h]
 ·rw[if_neg e]
theorem VT(cur:Array Value)(o:Nat)(x y:Value)(h:cur[o]?=some x):bH cur o [x,y]=cur.setIfInBounds (o+1) y:=by
 show(cur.setIfInBounds o x).setIfInBounds (o+1) y=cur.setIfInBounds (o+1) y;congr 1;apply mI;intro i;rw[BC]
 by_cases e:o=i
 ·subst e;have a:o<cur.size:=(iV.1 h).1;rw[if_pos rfl,if_pos a,h]
 ·rw[if_neg e]
theorem rC.set{y:List PF}(h:rC w B v y)(G:k<y.length){p' : PF}(F:Own w' B 101 2 v y.length ((y.set k p').flatMap rG))(E:Own w' B 3 1 (ou p') p'.l.length (p'.l.map gF))
 (A:∀(i:Nat) q,i≠k->y[i]?=some q->Own w' B 3 1 (ou q) q.l.length (q.l.map gF)) (D:∀(i:Nat) q,i≠k->y[i]?=some q->Apart (ou p') (ou q)):rC w' B v (y.set k p') where
 own:=by rw[bI];exact F
 each:=λi q u=>by
  rw[nE]at u
  by_cases e:k=i
  ·rw[if_pos e]at u
   by_cases H:i<y.length
   ·rw[if_pos (by omega)]at u;cases u;exact E
   ·rw[if_neg (by omega)]at u;cases u
  rw[if_neg e]at u;exact A i q (λC=>e C.symm) u
 apart:=λi j q r a u z=>by
  rw[nE]at u z
  by_cases e:k=i
  ·rw[if_pos e,if_pos (by omega)]at u;cases u;rw[if_neg (by omega)]at z;exact D j r (by omega) z
  rw[if_neg e]at u
  by_cases C:k=j
  ·rw[if_pos C,if_pos (by omega)]at z;cases z;exact(D i q (by omega) u).symm
  rw[if_neg C]at z;exact h.apart i j q r a u z
theorem rC.file{z:List PF}(h:rC w B v z){p:PF}(E:z[k]?=some p) :
  ∃g off C cur,v = .slice (some ⟨g,off,none⟩) z.length C/\B<=g/\aG w g cur 101/\off+k*2+2<=cur.size/\cur[off+k*2]?=some (.int .i64 p.n)/\cur[off+k*2+1]?=some (.slice p.a p.l.length p.c) /\
   (∀w' n,aG w' g (cur.setIfInBounds (off+k*2) (.int .i64 n)) 101->w.grownBy w' (some g)->rC w' B v (z.set k ⟨n,p.a,p.l,p.c⟩)) /\
   (∀w' a l c,aG w' g (cur.setIfInBounds (off+k*2+1) (.slice a l.length c)) 101->w.grownBy w' (some g)->Own w B 3 1 (.slice a l.length c) l.length (l.map gF)->(∀(j:Nat) q,j≠k->z[j]?=some q->Apart (.slice a l.length c) (ou q))->rC w' B v (z.set k ⟨p.n,a,l,c⟩)):=by
 have F:=(bZ.1 E).1;have o:=(bZ.1 E).2;obtain⟨g,off,C,cur,K,W,b,r,m⟩:=nP kE rfl h.own k F;have e:∀j u,(z.flatMap rG)[j]?=some u->cur[off+j]?=some u:=by
  rcases h.own.2 with⟨H,h2⟩|⟨X,J,L,G,D,V,y,_,_,_,S⟩
  ·omega
  rw[K]at D;cases D;have:cur=G:=by unfold aG at b y;rw[b]at y;simpa using y
  subst this;exact S
 have N:cur[off+k*2]?=some (.int .i64 p.n):=by have:=e (k*2) (.int .i64 p.n) (by have:=flat_get rG 2 kE z k F 0 (.int .i64 p.n) (by rw[o];rfl);simpa using this);exact this
 have M:cur[off+k*2+1]?=some (.slice p.a p.l.length p.c):=by have:=e (k*2+1) (.slice p.a p.l.length p.c) (flat_get rG 2 kE z k F 1 _ (by rw[o];rfl));simpa[ng]using this
 have f:∀ {w' : World},w.grownBy w' (some g)->∀(i:Nat) q,z[i]?=some q->Own w' B 3 1 (ou q) q.l.length (q.l.map gF):=λd i q A=>ax (h.each i q A) b d;have s:∀(j:Nat) q,j≠k->z[j]?=some q->Apart (ou p) (ou q):=λj q R A=>by
  rcases vL R with H|H
  ·exact(h.apart j k q p H A E).symm
  ·exact h.apart k j p q H E A
 refine⟨g,off,C,cur,K,W,b,r,N,M,λw' n I d => ?_,λw' a l c I d O U => ?_⟩
 ·refine h.set F (m w' ⟨n,p.a,p.l,p.c⟩ ?_) (f d k p E) (λi q _ A=>f d i q A) s;rw[show rG ⟨n,p.a,p.l,p.c⟩=[.int .i64 n,.slice p.a p.l.length p.c]from rfl,UQ _ _ _ _ M];exact I
 refine h.set F (m w' ⟨p.n,a,l,c⟩ ?_) (ax O b d) (λi q _ A=>f d i q A) U;rw[show rG ⟨p.n,a,l,c⟩=[.int .i64 p.n,.slice a l.length c]from rfl,VT _ _ _ _ N];exact I
theorem rC.num{y:List PF}(h:rC w B v y){p:PF}(D:y[k]?=some p)(L:i<p.l.length) :
  ∃g off A cur,p.a=some ⟨g,off,none⟩/\p.c=A/\B<=g/\aG w g cur 3/\off+i+1<=cur.size /\
   ∀w' x,aG w' g (bH cur (off+i) [.int .i64 x]) 3->w.grownBy w' (some g)->rC w' B v (y.set k ⟨p.n,p.a,p.l.set i x,p.c⟩):=by
 have K:=(bZ.1 D).1;have u:=(bZ.1 D).2;have b:=h.each k p D;rw[<-kI]at b;obtain⟨g,off,A,cur,E,O,d,s,o⟩:=nP (λx:Int=>(rfl : [gF x].length=1)) rfl b i L;unfold ou at E;simp only[lU]at E;obtain⟨G,_,M⟩:=E;refine⟨g,off,A,cur,G,M,O,d,(by simpa using s),λw' x N r => ?_⟩;have t:∀(j:Nat) q,j≠k->y[j]?=some q->Apart (ou p) (ou q):=λj q C z=>by
  rcases vL C with F|F
  ·exact(h.apart j k q p F z D).symm
  ·exact h.apart k j p q F D z
 have m : Own w' B 101 2 v y.length (y.flatMap rG):=ax h.own d r;have f:(y.set k ⟨p.n,p.a,p.l.set i x,p.c⟩).flatMap rG=y.flatMap rG:=by
  have R:rG ⟨p.n,p.a,p.l.set i x,p.c⟩=rG p:=by simp[rG,qI]
  apply oG;intro j
  by_cases C:j<y.length*2
  ·have z:j / 2<y.length:=by omega
   have J:=ku rG 2 kE (y.set k ⟨p.n,p.a,p.l.set i x,p.c⟩) (j / 2) (by rw[bI];exact z) (j%2) (by omega);have I:=ku rG 2 kE y (j / 2) z (j%2) (by omega);rw[show j / 2*2+j%2=j from by omega]at J I;rw[J,I];congr 1;rw[DF]
   by_cases e:k=j / 2
   ·rw[if_pos e,R,<-u];congr 1;simp only[e]
   ·rw[if_neg e]
  ·rw[fH (by rw[Pw.flat_len rG 2 kE,bI];omega),fH (by rw[Pw.flat_len rG 2 kE];omega)]
 refine h.set K (by rw[f];exact m) ?_ (λj q C z=>(h.each j q z).apart (t j q C z) (by
  have:(ou p).ownBlock=some g:=by unfold ou;rw[G];rfl
  rw[this];exact r)) (λj q C z=>by rw[show ou ⟨p.n,p.a,p.l.set i x,p.c⟩=ou p from by simp[ou]];exact t j q C z)
 have H:=o w' x (by rw[uo];exact N);rw[kI]at H;simpa[ou]using H
theorem MM(A:List PF)(k file index:Int)(a:Option Addr)(c:Nat)(w:World)(h:MO w a c A)(hk64 : -9223372036854775808<=k/\k<=9223372036854775807) :
  Calls Tryz.prog 192 #[.agg (MF a A.length c k),.int .i64 file,.int .i64 index] w λr w' => ∃v S k',r = .returned (.tuple #[.agg #[v,.int .i64 k'],.int .i64 (eZ (cZ A k) file index),.int .i64 (dK (cZ A k) file index)])/\rC w' w.heap.size v S/\cZ S k' = eU (cZ A k) file index/\Below w.heap.size w w':=by
 have kq:=bi h.le h.mx;unfold maxLen at kq;unfold MF;go_enter func192,ntmps192;go_upto_region 1 with(fail);refine tY (λW=>Code.wp _ _ _ _ W) λW0 h3 hS kc km => ?_;clear km
 go_wp2_with (refine ay _ 0 _ hS.rd _ underlying41 rfl store_size ?_)
 refine(EI A k a c _ (h.below h3) hk64).mono ?_;rintro r w1 ⟨rfl,hN⟩;have d:=ag h3 hN;have M:=hS.ext hN;have o:=kc.ext hN;clear h3 hS kc hN
 by_cases K:aT (cZ A k)=0
 ·have L:=ae K;rw[K];clear K;have ku:=M.cell
  by_cases h5:file<0\/(A.length:Int)<=file
  ·have E:Hid _:=ae (ym (s:=cZ A k) (k:=file) (i:=index) (e:=5) (by unfold dK;rw[if_neg (by rw[L.out];simp),if_pos (by simpa[cZ]using h5)]) (by decide));have ky : file<0\/(¬file<0/\(A.length:Int)<=file):=by omega
   clear h5;rcases ky with g1|⟨g1,g2⟩
   ·skip
    go_wp2_with (refine aA rfl _ _ rfl (w.heap.size+1) #[.slice none 0 0,.int .i64 0] rfl rfl o rfl store_size (vE none 0 0 0) ?_)
    all_goals
     intro D t f;have j:Below w.heap.size w D:=d.grown f d.size oG0;go_wp2;refine bodyPost_ret (v:=.tuple #[.agg #[.slice none 0 0,.int .i64 0],.int .i64 0,.int .i64 (5)]) (cz results192 (w.heap.size+1) t underlying41 store_size) rfl ?_;have q:=E.out;exact⟨_,_,_,by rw[q.1,q.2.1],rC.nil _ _,by rw[q.2.2];rfl,j⟩
   skip
   go_wp2_with (refine aA rfl _ _ rfl (w.heap.size+1) #[.slice none 0 0,.int .i64 0] rfl rfl o rfl store_size (vE none 0 0 0) ?_)
   all_goals
    intro D t f;have j:Below w.heap.size w D:=d.grown f d.size oG0;go_wp2;refine bodyPost_ret (v:=.tuple #[.agg #[.slice none 0 0,.int .i64 0],.int .i64 0,.int .i64 (5)]) (cz results192 (w.heap.size+1) t underlying41 store_size) rfl ?_;have q:=E.out;exact⟨_,_,_,by rw[q.1,q.2.1],rC.nil _ _,by rw[q.2.2];rfl,j⟩
  obtain⟨F,rfl⟩:=iO (show 0<=file by omega);have hF:F<A.length:=by omega
  have kK:(F:Int)<(A.length:Int):=by omega
  obtain⟨b,off,p,rfl,hp,c0,c1⟩:=xy (h.below d).rd F hF;have kF:=h.good p (bP hp);have kp:=ae hp;have hJ:Hid (aN (cZ A k) F=p.fi):=ae (by unfold aN cZ;rw[if_pos (by omega),bv,aW,jd,hp];rfl);have hW:Hid (¬((F:Int)<0\/(((cZ A k).fs.length:Nat):Int)<=(F:Int))):=ae (by simpa[cZ]using hF);clear h5 hp
  by_cases h9:index<0\/(p.l.length:Int)<=index
  ·have E:Hid _:=ae (ym (s:=cZ A k) (k:=F) (i:=index) (e:=9) (by unfold dK;rw[if_neg (by rw[L.out];simp),if_neg hW.out,if_pos (by rw[hJ.out];exact h9)]) (by decide));have kx : index<0\/(¬index<0/\(p.l.length:Int)<=index):=by omega
   clear h9;rcases kx with g1|⟨g1,g2⟩
   ·skip
    go_wp2_with (refine aA rfl _ _ rfl (w.heap.size+1) #[.slice none 0 0,.int .i64 0] rfl rfl o rfl store_size (vE none 0 0 0) ?_)
    all_goals
     intro D t f;have j:Below w.heap.size w D:=d.grown f d.size oG0;go_wp2;refine bodyPost_ret (v:=.tuple #[.agg #[.slice none 0 0,.int .i64 0],.int .i64 0,.int .i64 (9)]) (cz results192 (w.heap.size+1) t underlying41 store_size) rfl ?_;have q:=E.out;exact⟨_,_,_,by rw[q.1,q.2.1],rC.nil _ _,by rw[q.2.2];rfl,j⟩
   skip
   go_wp2_with (refine aA rfl _ _ rfl (w.heap.size+1) #[.slice none 0 0,.int .i64 0] rfl rfl o rfl store_size (vE none 0 0 0) ?_)
   all_goals
    intro D t f;have j:Below w.heap.size w D:=d.grown f d.size oG0;go_wp2;refine bodyPost_ret (v:=.tuple #[.agg #[.slice none 0 0,.int .i64 0],.int .i64 0,.int .i64 (9)]) (cz results192 (w.heap.size+1) t underlying41 store_size) rfl ?_;have q:=E.out;exact⟨_,_,_,by rw[q.1,q.2.1],rC.nil _ _,by rw[q.2.2];rfl,j⟩
  obtain⟨I,rfl⟩:=iO (show 0<=index by omega);have hI:I<p.l.length:=by omega
  have kI:(I:Int)<(p.l.length:Int):=by omega
  have kh:Hid (¬((I:Int)<0\/(((aN (cZ A k) F).b.length:Nat):Int)<=(I:Int))):=ae (by rw[hJ.out];exact h9);have kl:=QD L.out;have kE:A.length<=5:=by simpa[cZ]using(lu L.out).1
  have hQ:k<=80:=(lu L.out).2.2;clear h9
  go_wp2_with (refine ay _ 0 _ M.rd _ underlying41 rfl store_size ?_)
  refine(Lg A k _ c _ (h.below d) kl).mono ?_;rintro r w2 ⟨v2,G,rfl,h7,hm,hM⟩;have kd:=ae hm;have ke:G.length=A.length:=by simpa using congrArg List.length hm
  have ko:F<G.length:=by omega
  clear ke;obtain⟨q,R⟩:∃q,G[F]?=some q:=⟨G[F]'ko,aI _⟩;have hU:q.fi=p.fi:=by have h1:=congrArg (λl=>l[F]?) hm;simp only[jd,R,kp.out,rT,jo]at h1;exact h1
  have hV:=ae (show q.l=p.l from congrArg Fi.b hU);have kn:=ae (show q.n=p.n from congrArg Fi.n hU);have hn:I<q.l.length:=by rw[hV.out];exact hI
  have hE:=ag d hM;have ka:=M.ext hM;have hg:=o.ext hM;have hR:=h7.mono d.size;obtain⟨av,cv,rfl,_⟩:=h7.rd;clear hm ku d M o hM h7 c0 c1
  go_wp2_with (refine aJ rfl rfl #[.slice av G.length cv,.int .i64 k] rfl rfl rfl store_size (vE _ _ _ _) ?_)
  intro w3 hH N;have ha:=ag hE hH;have h8:=ka.ext hH;have hd:=hg.ext hH;have H:=hR.below hH;have kr:w.heap.size+1<w2.heap.size:=hg.lt;obtain⟨gg,kk⟩:∃g,g=w2.heap.size:=⟨_,rfl⟩;rw[<-kk]at N kr ⊢;clear kk hE ka hg hR hH;obtain⟨g,off9,cap,cur,hv,kL,hD,kA,e0,e1,_,_⟩:=H.file R;obtain⟨g2,V,cap2,cur2,kg,kD,kM,hC,kt,hu⟩:=H.num R (i:=I) hn;simp only[lU]at hv;obtain⟨rfl,_,rfl⟩:=hv;have kJ:(F:Int)<(G.length:Int):=by omega
  have kH:(I:Int)<(q.l.length:Int):=by omega
  rw[kg]at e1;have hK:=N.cell;have hL:=hD.cell;have hZ:w3.cell? ⟨g2,V+I,none⟩=some (.int .i64 q.l[I]):=by obtain⟨_,_,e2,hc⟩:=kC ((H.rd).elim λ_ M=>M.elim λ_ hy=>(hy.2.good q (bP R)).rd) I hn;rw[kg]at e2;cases e2;exact hc
  have J:Hid (bO (cZ A k) F I=q.l[I]):=ae (by unfold bO;rw[hJ.out,bv];show p.l.getD I 0=_;rw[aW,<-hV.out,aI hn];rfl);generalize hB0:q.l[I]=B0 at hZ J;clear hB0 hU;go_upto_region 10 with(fail)
  by_cases C:B0<0
  ·have hP:=h8;clear hL hZ hD e0 e1
   go_wp2_with fail
   refine(Pn A k _ c w.heap.size _ (h.below ha) hP hQ).mono ?_;rintro r w4 ⟨rfl,hG⟩;have ks:=Ra (s:=cZ A k) hQ;have y:=ag ha hG;have hb:=hd.ext hG;have O:=N.ext hG;have hO:=H.below hG;clear hP ha hd N H hG hK hu hC h8;have h2:Hid (dK (cZ A k) F I=if iD (cZ A k)<0 then 10 else 0):=ae (by
    unfold dK;rw[if_neg (by rw[L.out];simp),if_neg hW.out,if_neg kh.out,J.out]
    by_cases z:iD (cZ A k)<0
    ·rw[if_pos ⟨C,z⟩,if_pos z]
    ·rw[if_neg (λhh=>z hh.2),if_neg z])
   generalize hX:iD (cZ A k)=X at h2 ks;have kj:=ae hX;clear hX
   by_cases hX0:X<0
   ·have E:Hid _:=ae (ym (s:=cZ A k) (k:=F) (i:=I) (e:=10) (by rw[h2.out,if_pos hX0]) (by decide));have d:=y;have o:=hb;clear y hb O hO
    go_wp2_with (refine aA rfl _ _ rfl (w.heap.size+1) #[.slice none 0 0,.int .i64 0] rfl rfl o rfl store_size (vE none 0 0 0) ?_)
    all_goals
     intro D t f;have j:Below w.heap.size w D:=d.grown f d.size oG0;go_wp2;refine bodyPost_ret (v:=.tuple #[.agg #[.slice none 0 0,.int .i64 0],.int .i64 0,.int .i64 (10)]) (cz results192 (w.heap.size+1) t underlying41 store_size) rfl ?_;have q:=E.out;exact⟨_,_,_,by rw[q.1,q.2.1],rC.nil _ _,by rw[q.2.2];rfl,j⟩
   have hz:Hid (dK (cZ A k) F I=0):=ae (by rw[h2.out,if_neg hX0]);have u:Hid (eZ (cZ A k) F I=X/\dK (cZ A k) F I=0/\cZ (G.set F ⟨q.n,q.a,q.l.set I X,q.c⟩) k=eU (cZ A k) F I):=ae (by
    refine⟨?_,hz.out,?_⟩
    ·unfold eZ;rw[if_neg (by rw[hz.out];simp),J.out,if_pos C,kj.out]
    unfold eU;rw[if_neg (by rw[hz.out];simp),J.out,if_pos C,kj.out,hJ.out];unfold Bh cZ;rw[bv,bv,AB,kd.out];unfold PF.fi;rw[hV.out,kn.out])
   obtain⟨g3,off3,cap3,cur3,kb,kB,hB,_,e03,e13,_,_⟩:=hO.file R;obtain⟨g4,U,cap4,cur4,kf,kz,kw,m,hY,ht⟩:=hO.num R (i:=I) hn;simp only[lU]at kb;obtain⟨e31,_,e33⟩:=kb;cases e31;subst e33;rw[kf]at e13;have hK:=O.cell;have hL:=hB.cell;have kG:gg≠g4:=λe=>by subst e;unfold aG at O m;rw[O]at m;simp at m
   go_wp2_with (refine aC g4 (U+I) [.int .i64 X] rfl rfl rfl _ _ m hY int_size (JQ _ _) ?_)
   intro D ki f;have h6:=ht D X ki f;have hA:=cB O m f;have Y:=cB hb m f;have x:=y.grown f y.size (λk hk=>by cases hk;exact kw);clear O hb hO y hB m ht hK hL e03 e13 ki f;have kv:=hA.cell
   go_wp2_with (first | (refine ay _ 0 _ hA.rd _ underlying41 rfl store_size ?_) | (refine aA rfl _ _ rfl (w.heap.size+1) _ rfl rfl Y rfl store_size (vE _ _ _ _) ?_))
   intro wf hT Z;have h4:=h6.keep Y (by decide) (by decide) Z;have hi:=x.grown Z x.size oG0;go_wp2;refine bodyPost_ret (v:=.tuple #[.agg #[.slice _ _ _,.int .i64 k],.int .i64 (X),.int .i64 0]) (cz results192 (w.heap.size+1) hT underlying41 store_size) rfl ?_;exact⟨_,_,_,by rw[u.out.1,u.out.2.1],h4,u.out.2.2,hi⟩
  have u:Hid (eZ (cZ A k) F I=B0/\dK (cZ A k) F I=0/\cZ G k=eU (cZ A k) F I):=ae (by
   have z:dK (cZ A k) F I=0:=by unfold dK;rw[if_neg (by rw[L.out];simp),if_neg hW.out,if_neg kh.out,if_neg (by rw[J.out];omega)]
   refine⟨?_,z,?_⟩
   ·unfold eZ;rw[if_neg (by rw[z];simp),J.out,if_neg C]
   ·unfold eU;rw[if_neg (by rw[z];simp),J.out,if_neg C];unfold cZ;rw[kd.out])
  have hA:=N;have Y:=hd;have h6:=H;have x:=ha;clear N hd H ha hD hC hu hK hL hZ e0 e1;have kv:=hA.cell
  go_wp2_with (first | (refine ay _ 0 _ hA.rd _ underlying41 rfl store_size ?_) | (refine aA rfl _ _ rfl (w.heap.size+1) _ rfl rfl Y rfl store_size (vE _ _ _ _) ?_))
  intro wf hT Z;have h4:=h6.keep Y (by decide) (by decide) Z;have hi:=x.grown Z x.size oG0;go_wp2;refine bodyPost_ret (v:=.tuple #[.agg #[.slice _ _ _,.int .i64 k],.int .i64 (B0),.int .i64 0]) (cz results192 (w.heap.size+1) hT underlying41 store_size) rfl ?_;exact⟨_,_,_,by rw[u.out.1,u.out.2.1],h4,u.out.2.2,hi⟩
 have E:Hid _:=ae (ym (s:=cZ A k) (k:=file) (i:=index) (e:=aT (cZ A k)) (by unfold dK;rw[if_pos K]) K);have kN : (aT (cZ A k) != 0)=true:=by simpa using K
 clear K
 go_wp2_with (refine aA rfl _ _ rfl (w.heap.size+1) #[.slice none 0 0,.int .i64 0] rfl rfl o rfl store_size (vE none 0 0 0) ?_)
 all_goals
  intro D t f;have j:Below w.heap.size w D:=d.grown f d.size oG0;go_wp2;refine bodyPost_ret (v:=.tuple #[.agg #[.slice none 0 0,.int .i64 0],.int .i64 0,.int .i64 (aT (cZ A k))]) (cz results192 (w.heap.size+1) t underlying41 store_size) rfl ?_;have q:=E.out;exact⟨_,_,_,by rw[q.1,q.2.1],rC.nil _ _,by rw[q.2.2];rfl,j⟩
def kH(a:Ar):Array Value:=#[.int .i64 a.fr,.int .i64 a.en,.bool a.rd,.bool a.wr,.bool a.sh,.int .i64 a.fi,.int .i64 a.ba]
def mV(a:Ar):List Value:=(kH a).toList
theorem rZ(a:Ar):(mV a).length=7:=rfl
theorem Vx(a:Ar):(kH a).all (·.oneCell')=true:=by simp[kH,Value.oneCell']
theorem area_size:(Tryz.prog.info? 94).map (·.size)=some 7:=by kernel_rfl
theorem area_info:(Tryz.prog.info? 94).map (λi=>(i.zero,i.size,i.bytes))=some (some (.agg #[.int .i64 0,.int .i64 0,.bool false,.bool false,.bool false,.int .i64 0,.int .i64 0]),7,40):=by kernel_rfl
def Gj(w:World)(b o:Nat)(a:Ar):Prop:=∀j u,(mV a)[j]?=some u->w.cell? ⟨b,o+j,none⟩=some u
theorem Gj.below{o:Nat}{a:Ar}(h:Gj w b o a)(z:Below w.heap.size w w'):Gj w' b o a:=λj u y=>cell_later z (h j u y)
theorem Gj.cells{o:Nat}{a:Ar}(h:Gj w b o a):w.cell? ⟨b,o,none⟩=some (.int .i64 a.fr)/\w.cell? ⟨b,o+1,none⟩=some (.int .i64 a.en)/\w.cell? ⟨b,o+2,none⟩=some (.bool a.rd)/\w.cell? ⟨b,o+3,none⟩=some (.bool a.wr) /\
  w.cell? ⟨b,o+4,none⟩=some (.bool a.sh)/\w.cell? ⟨b,o+5,none⟩=some (.int .i64 a.fi)/\w.cell? ⟨b,o+6,none⟩=some (.int .i64 a.ba):=
 ⟨h 0 _ rfl,h 1 _ rfl,h 2 _ rfl,h 3 _ rfl,h 4 _ rfl,h 5 _ rfl,h 6 _ rfl⟩
theorem RO(b o:Nat)(a:Ar)(w:World)(h:Gj w b o a) :
  Calls Tryz.prog 169 #[.pointer (some ⟨b,o,none⟩)] w λe w'=>e = .returned (.int .i64 (aX a))/\Below w.heap.size w w':=by
 obtain⟨I,H,h2,G,F,E,D⟩:=h.cells;go_enter func169,ntmps169;go_upto_region 1 with(fail)
 by_cases O:a.fr<0
 ·have j:Hid (aX a=3):=ae (by unfold aX;rw[if_pos (by omega)]);go_quiet (fail);go_wp2;go_ret;exact⟨aY j.out.symm,below_drewN (Below.refl _ _) _⟩
 by_cases N:a.en<=a.fr
 ·have j:Hid (aX a=3):=ae (by unfold aX;rw[if_pos (by omega)]);go_quiet (fail);go_wp2;go_ret;exact⟨aY j.out.symm,below_drewN (Below.refl _ _) _⟩
 by_cases M:64<a.en
 ·have j:Hid (aX a=3):=ae (by unfold aX;rw[if_pos (by omega)]);go_quiet (fail);go_wp2;go_ret;exact⟨aY j.out.symm,below_drewN (Below.refl _ _) _⟩
 by_cases L:a.fi < -1
 ·have j:Hid (aX a=3):=ae (by unfold aX;rw[if_pos (by omega)]);go_quiet (fail);go_wp2;go_ret;exact⟨aY j.out.symm,below_drewN (Below.refl _ _) _⟩
 by_cases K:5<=a.fi
 ·have j:Hid (aX a=3):=ae (by unfold aX;rw[if_pos (by omega)]);go_quiet (fail);go_wp2;go_ret;exact⟨aY j.out.symm,below_drewN (Below.refl _ _) _⟩
 by_cases J:a.ba<0
 ·have j:Hid (aX a=3):=ae (by unfold aX;rw[if_pos (by omega)]);go_quiet (fail);go_wp2;go_ret;exact⟨aY j.out.symm,below_drewN (Below.refl _ _) _⟩
 have c:¬(a.fr<0\/a.en<=a.fr\/64<a.en\/a.fi < -1\/5<=a.fi\/a.ba<0):=by omega
 have f:IntKind.i64.wrap (a.en-a.fr)=a.en-a.fr:=bK _ (by omega);have d:IntKind.i64.wrap (12-(a.en-a.fr))=12-(a.en-a.fr):=bK _ (by omega);go_quiet (fail)
 by_cases z:a.fi<0
 ·by_cases u:a.ba=0
  ·cases f3:a.sh
   ·have j:Hid (aX a=0):=ae (by unfold aX;rw[if_neg c,if_neg (by rw[f3];simp;omega)]);go_upto_region 4 with(fail);have A:decide (0<=a.fi)=false:=decide_eq_false (by omega);go_quiet (fail);go_wp2;go_ret;exact⟨aY j.out.symm,below_drewN (Below.refl _ _) _⟩
   have j:Hid (aX a=7):=ae (by unfold aX;rw[if_neg c,if_pos (.inl ⟨z,.inr f3⟩)]);go_wp2;go_ret;exact⟨aY j.out.symm,below_drewN (Below.refl _ _) _⟩
  have j:Hid (aX a=7):=ae (by unfold aX;rw[if_neg c,if_pos (.inl ⟨z,.inl u⟩)]);have C : (a.ba != 0)=true:=by simpa using u
  go_wp2;go_ret;exact⟨aY j.out.symm,below_drewN (Below.refl _ _) _⟩
 have y : 0<=a.fi:=by omega
 by_cases u:12-(a.en-a.fr)<a.ba
 ·have j:Hid (aX a=7):=ae (by unfold aX;rw[if_neg c,if_pos (.inr ⟨y,u⟩)]);go_upto_region 4 with(fail);have A:decide (0<=a.fi)=true:=decide_eq_true (by omega);go_quiet (fail);go_wp2;go_ret;exact⟨aY j.out.symm,below_drewN (Below.refl _ _) _⟩
 have j:Hid (aX a=0):=ae (by unfold aX;rw[if_neg c,if_neg (by omega)]);go_upto_region 4 with(fail);have A:decide (0<=a.fi)=true:=decide_eq_true (by omega);go_quiet (fail);go_wp2;go_ret;exact⟨aY j.out.symm,below_drewN (Below.refl _ _) _⟩
theorem GH(p q p' q' : Nat)(a b:Ar)(w:World)(h:Gj w p q a)(h' : Gj w p' q' b)(y:vo a) :
  Calls Tryz.prog 170 #[.pointer (some ⟨p,q,none⟩),.pointer (some ⟨p',q',none⟩)] w λe w'=>e = .returned (.bool (dP a b))/\Below w.heap.size w w':=by
 obtain⟨O,N,h2,M,L,K,J⟩:=h.cells;obtain⟨I,k1,H,G,F,E,D⟩:=h'.cells;obtain⟨C,A,z⟩:=y;have d:IntKind.i64.wrap (a.ba+a.en)=a.ba+a.en:=bK _ (by omega);have c:IntKind.i64.wrap (a.ba+a.en-a.fr)=a.ba+a.en-a.fr:=bK _ (by omega);go_enter func170,ntmps170
 by_cases u:0<=a.fi
 ·go_upto_region 3 with(fail);go_quiet (fail);go_upto_region 4 with(fail);cases g1:(a.en==b.fr)
  ·have j:Hid (dP a b=false):=ae (by unfold dP kK;rw[if_pos u];simp only[g1,lV,mf,nk,pI]);go_quiet (fail);go_wp2;go_ret;exact⟨bY j.out.symm,by first | exact below_drewN (Below.refl _ _) _ | exact below_drewN (below_drewN (Below.refl _ _) _) _⟩
  cases g2:(a.rd==b.rd)
  ·have j:Hid (dP a b=false):=ae (by unfold dP kK;rw[if_pos u];simp only[g1,g2,lV,mf,nk,pI]);go_quiet (fail);go_wp2;go_ret;exact⟨bY j.out.symm,by first | exact below_drewN (Below.refl _ _) _ | exact below_drewN (below_drewN (Below.refl _ _) _) _⟩
  cases g3:(a.wr==b.wr)
  ·have j:Hid (dP a b=false):=ae (by unfold dP kK;rw[if_pos u];simp only[g1,g2,g3,lV,mf,nk,pI]);go_quiet (fail);go_wp2;go_ret;exact⟨bY j.out.symm,by first | exact below_drewN (Below.refl _ _) _ | exact below_drewN (below_drewN (Below.refl _ _) _) _⟩
  cases g4:(a.sh==b.sh)
  ·have j:Hid (dP a b=false):=ae (by unfold dP kK;rw[if_pos u];simp only[g1,g2,g3,g4,lV,mf,nk,pI]);go_quiet (fail);go_wp2;go_ret;exact⟨bY j.out.symm,by first | exact below_drewN (Below.refl _ _) _ | exact below_drewN (below_drewN (Below.refl _ _) _) _⟩
  cases g5:(a.fi==b.fi)
  ·have j:Hid (dP a b=false):=ae (by unfold dP kK;rw[if_pos u];simp only[g1,g2,g3,g4,g5,lV,mf,nk,pI]);go_quiet (fail);go_wp2;go_ret;exact⟨bY j.out.symm,by first | exact below_drewN (Below.refl _ _) _ | exact below_drewN (below_drewN (Below.refl _ _) _) _⟩
  cases g6:(b.ba==(a.ba+a.en-a.fr))
  ·have j:Hid (dP a b=false):=ae (by unfold dP kK;rw[if_pos u];simp only[g1,g2,g3,g4,g5,g6,lV,mf,nk,pI]);go_quiet (fail);go_wp2;go_ret;exact⟨bY j.out.symm,by first | exact below_drewN (Below.refl _ _) _ | exact below_drewN (below_drewN (Below.refl _ _) _) _⟩
  have j:Hid (dP a b=true):=ae (by unfold dP kK;rw[if_pos u];simp only[g1,g2,g3,g4,g5,g6,lV,mf,nk,pI]);go_quiet (fail);go_wp2;go_ret;exact⟨bY j.out.symm,by first | exact below_drewN (Below.refl _ _) _ | exact below_drewN (below_drewN (Below.refl _ _) _) _⟩
 go_upto_region 4 with(fail);cases g1:(a.en==b.fr)
 ·have j:Hid (dP a b=false):=ae (by unfold dP kK;rw[if_neg u];simp only[g1,lV,mf,nk,pI]);go_quiet (fail);go_wp2;go_ret;exact⟨bY j.out.symm,by first | exact below_drewN (Below.refl _ _) _ | exact below_drewN (below_drewN (Below.refl _ _) _) _⟩
 cases g2:(a.rd==b.rd)
 ·have j:Hid (dP a b=false):=ae (by unfold dP kK;rw[if_neg u];simp only[g1,g2,lV,mf,nk,pI]);go_quiet (fail);go_wp2;go_ret;exact⟨bY j.out.symm,by first | exact below_drewN (Below.refl _ _) _ | exact below_drewN (below_drewN (Below.refl _ _) _) _⟩
 cases g3:(a.wr==b.wr)
 ·have j:Hid (dP a b=false):=ae (by unfold dP kK;rw[if_neg u];simp only[g1,g2,g3,lV,mf,nk,pI]);go_quiet (fail);go_wp2;go_ret;exact⟨bY j.out.symm,by first | exact below_drewN (Below.refl _ _) _ | exact below_drewN (below_drewN (Below.refl _ _) _) _⟩
 cases g4:(a.sh==b.sh)
 ·have j:Hid (dP a b=false):=ae (by unfold dP kK;rw[if_neg u];simp only[g1,g2,g3,g4,lV,mf,nk,pI]);go_quiet (fail);go_wp2;go_ret;exact⟨bY j.out.symm,by first | exact below_drewN (Below.refl _ _) _ | exact below_drewN (below_drewN (Below.refl _ _) _) _⟩
 cases g5:(a.fi==b.fi)
 ·have j:Hid (dP a b=false):=ae (by unfold dP kK;rw[if_neg u];simp only[g1,g2,g3,g4,g5,lV,mf,nk,pI]);go_quiet (fail);go_wp2;go_ret;exact⟨bY j.out.symm,by first | exact below_drewN (Below.refl _ _) _ | exact below_drewN (below_drewN (Below.refl _ _) _) _⟩
 cases g6:(b.ba==0)
 ·have j:Hid (dP a b=false):=ae (by unfold dP kK;rw[if_neg u];simp only[g1,g2,g3,g4,g5,g6,lV,mf,nk,pI]);go_quiet (fail);go_wp2;go_ret;exact⟨bY j.out.symm,by first | exact below_drewN (Below.refl _ _) _ | exact below_drewN (below_drewN (Below.refl _ _) _) _⟩
 have j:Hid (dP a b=true):=ae (by unfold dP kK;rw[if_neg u];simp only[g1,g2,g3,g4,g5,g6,lV,mf,nk,pI]);go_quiet (fail);go_wp2;go_ret;exact⟨bY j.out.symm,by first | exact below_drewN (Below.refl _ _) _ | exact below_drewN (below_drewN (Below.refl _ _) _) _⟩
theorem Tx{l:List Ar}(h:eu w a (l.flatMap mV))(k:Nat)(j:k<l.length):∃b off,a=some ⟨b,off,none⟩/\Gj w b (off+k*7) l[k]:=h.elem rZ (by decide) k j
theorem EB{l:List Ar}(h:eu w (some ⟨b,off,none⟩) (l.flatMap mV))(k:Nat)(u:k<l.length):Gj w b (off+k*7) l[k]:=by
 obtain⟨z,j,e,y⟩:=Tx h k u;cases e;exact y
def Km(e:Int × Int):Array Value:=#[.int .i64 e.1,.int .i64 e.2]
theorem fau_size:(Tryz.prog.info? 180).map (·.size)=some 2:=by kernel_rfl
theorem nR(x y:Int):(#[Value.int .i64 x,Value.int .i64 y]:Array Value).all (·.oneCell')=true:=by simp[Value.oneCell']
theorem MP(l:List Ar)(a:Option Addr)(c:Nat)(w:World)(hrd:eu w a (l.flatMap mV))(hl:l.length<=9223372036854775807) :
  Calls Tryz.prog 129 #[.slice a l.length c] w λe w'=>e = .returned (.agg (Km (bQ l)))/\Below w.heap.size w w':=by
 go_enter func129,ntmps129;go_upto_region 1 with(fail);refine iC (λW=>Code.wp _ _ _ _ W) λW0 d g hV => ?_;clear hV
 by_cases G:16<l.length
 ·have hT : (16:Int)<(l.length:Int):=by omega
  have K:Hid (bQ l=(4,0)):=ae (by unfold bQ;rw[if_pos G])
  go_wp2_with (refine aA rfl _ _ rfl w.heap.size #[.int .i64 (4),.int .i64 (0)] rfl rfl g rfl fau_size (nR _ _) ?_)
  intro J t p;have o:Below w.heap.size w J:=d.grown p d.size (λk I=>by cases I;exact az _);go_wp2;refine bodyPost_ret (v:=.agg #[.int .i64 (4),.int .i64 (0)]) (fw results129 w.heap.size t underlying180 fau_size) rfl ?_;exact⟨by rw[K.out];rfl,o⟩
 have hT : ¬(16:Int)<(l.length:Int):=by omega
 have h0:Hid (bQ l=jS (qJ l 0) 0 (l.drop 0)):=ae (by unfold bQ;rw[if_neg G];rfl);go_upto_region 4 with(fail)
 go_loopw [11] (fun i wr => ∃k:Nat,k<=l.length/\i = .int .i64 k/\Below w.heap.size w wr/\aG wr w.heap.size #[.int .i64 0,.int .i64 0] 180/\(∀i (h:i<l.length),i<k->aX l[i]=0)/\Hid (bQ l=jS (qJ l k) k (l.drop k))) (fun i _=>l.length-(intOf i).toNat)
 case atStart=>exact⟨0,bq _,rfl,d,g,λi _ h=>absurd h (fA _),h0⟩
 case round=>
  clear d g h0;obtain⟨k,I,rfl,d,g,hQ,z⟩:=hrel;have hp:=ae hQ;clear hQ
  by_cases D:k<l.length
  ·obtain⟨b,off,rfl,hA⟩:=Tx (hrd.below d) k D;have hX:(k:Int)<(l.length:Int):=by omega
   go_wp2_with fail
   refine(RO b (off+k*7) l[k] _ hA).mono ?_;rintro r w2 ⟨rfl,hD⟩;have j:=ag d hD;have n:=g.ext hD;clear d g hD hA
   by_cases O:aX l[k]=0
   ·have u:=ae O;rw[O];clear O;go_upto_region 9 with(fail)
    by_cases hk0:k=0
    ·subst hk0;have hW:decide ((0:Int)<((0:Nat):Int))=false:=rfl;have hB:Hid (bQ l=jS (qJ l (0+1)) (0+1) (l.drop (0+1))):=ae (by rw[z.out];exact vN D u.out rfl);go_quiet (fail);go_wp2;go_roundw
     case rel=>exact⟨0+1,by omega,by go_num,below_drewN j _,n.drewN _,mJ hp.out D u.out,hB⟩
     case measure=>simp[intOf];omega
    obtain⟨m,rfl⟩:∃m,k=m+1:=⟨k-1,by omega⟩;have hW:decide ((0:Int)<((m+1:Nat):Int))=true:=decide_eq_true (by omega);have R:IntKind.i64.wrap (((m+1:Nat):Int)-1)=(m:Int):=by rw[bK _ (by omega)];omega
    have x:m<l.length:=by omega
    have S:IntKind.i64.wrap (m:Int)=(m:Int):=bK _ (by omega);have L:(0:Int)<=(m:Int)+1:=by omega
    have M:(m:Int)+1<(l.length:Int):=by omega
    have N:((m:Int)+1).toNat=m+1:=by omega
    have hC:=ae (LX D);have hR:=(bM (hp.out m x (by omega))).1;have hY:=(bM u.out).1;have hS:=hrd.below j;have hm:=EB hS (m+1) D;have hi:=EB hS m x;generalize hA1:l[m+1]=A1 at *
    generalize hA0:l[m]=A0 at *
    by_cases H:A1.fr<A0.en
    ·have K:Hid (bQ l=(2,((m+1:Nat):Int))):=ae (by rw[z.out];exact vQ D (by rw[hA1];exact u.out) (by rw[hA1,hC.out,decide_eq_true H];rfl));refine aO 26 [_,_,_,_,_,_,.v (.pointer (some ⟨b,off+m*7,none⟩)),_,.v (.int .i64 A0.en),_,_,.v (.pointer (some ⟨b,off+(m+1)*7,none⟩)),_,.v (.int .i64 A1.fr),_,_,_,_,_,_,_,_,_,_,_,.v (.bool true)] (Gk rfl (Gb (.bool true) (by simp[go_sem]) rfl rfl rfl rfl rfl (Gk rfl (Gk rfl (Gk rfl (Gb (.int .i64 (m:Int)) (by simp[go_sem,R,S]) rfl rfl rfl rfl rfl (ah ?_ (Gf b (off+m*7+1) rfl rfl (ah ?_ (Gk rfl (Gk rfl (ah ?_ (Gf b (off+(m+1)*7) rfl rfl (ah ?_ (Gb (.bool true) (by simp[go_sem,H]) rfl rfl rfl rfl rfl (Gk rfl (Gk rfl (Gk rfl (Gk rfl (Gk rfl (Gk rfl (Gk rfl (Gk rfl (Gk rfl (Gk rfl (Gk rfl (aF))))))))))))))))))))))))))) (λ_=>rfl) rfl ?_
     ·intro ρ y W A F E C;have U:=A 26 3 rfl;have h3:y 3=_:=C 3 rfl;have V:=A 28 5 rfl;have h5:y 5=_:=C 5 rfl;refine ak (.pointer (some ⟨b,off+m*7,none⟩)) (h:=(bB 2 25 true true ((A 25 2 rfl).trans (C 2 rfl)))) (by simp[execOp,go_sem,U,h3,V,h5,x])
     ·intro ρ y W A F E C;have X:=A 30 7 rfl;have h7:y 7=_:=C 7 rfl;have s:=(hi.below E).cells.2.1;refine ak (.int .i64 A0.en) (h:=(bB 2 25 true true ((A 25 2 rfl).trans (C 2 rfl)))) (by simp[execOp,go_sem,X,h7,s])
     ·intro ρ y W A F E C;have Y:=A 32 9 rfl;have h9:y 9=_:=C 9 rfl;have Z:=A 33 10 rfl;have hr:y 10=_:=C 10 rfl;refine ak (.pointer (some ⟨b,off+(m+1)*7,none⟩)) (h:=(bB 2 25 true true ((A 25 2 rfl).trans (C 2 rfl)))) (by simp[execOp,go_sem,Y,h9,Z,hr,D,L,M,N])
     ·intro ρ y W A F E C;have hs:=A 35 12 rfl;have hq:y 12=_:=C 12 rfl;have s:=(hm.below E).cells.1;refine ak (.int .i64 A1.fr) (h:=(bB 2 25 true true ((A 25 2 rfl).trans (C 2 rfl)))) (by simp[execOp,go_sem,hs,hq,s])
     intro y WA q _;have d:=ag j q;have g:=n.ext q;clear j n
     go_wp2_with (refine aA rfl _ _ rfl w.heap.size #[.int .i64 (2),.int .i64 (((m+1:Nat):Int))] rfl rfl g rfl fau_size (nR _ _) ?_)
     intro J t p;have o:Below w.heap.size w J:=d.grown p d.size (λk I=>by cases I;exact az _);go_wp2;refine bodyPost_ret (v:=.agg #[.int .i64 (2),.int .i64 (((m+1:Nat):Int))]) (fw results129 w.heap.size t underlying180 fau_size) rfl ?_;exact⟨by rw[K.out];rfl,o⟩
    cases hj:dP A0 A1
    ·have hB:Hid (bQ l=jS (qJ l (m+1+1)) (m+1+1) (l.drop (m+1+1))):=ae (by rw[z.out];exact vN D (by rw[hA1];exact u.out) (by rw[hA1,hC.out,decide_eq_false H,hj];rfl));refine aO 26 [_,_,_,_,_,_,.v (.pointer (some ⟨b,off+m*7,none⟩)),_,.v (.int .i64 A0.en),_,_,.v (.pointer (some ⟨b,off+(m+1)*7,none⟩)),_,.v (.int .i64 A1.fr),_,_,_,_,_,.v (.pointer (some ⟨b,off+m*7,none⟩)),_,_,.v (.pointer (some ⟨b,off+(m+1)*7,none⟩)),.v (.bool false),_,.v (.bool false)] (Gk rfl (Gb (.bool true) (by simp[go_sem]) rfl rfl rfl rfl rfl (Gk rfl (Gk rfl (Gk rfl (Gb (.int .i64 (m:Int)) (by simp[go_sem,R,S]) rfl rfl rfl rfl rfl (ah ?_ (Gf b (off+m*7+1) rfl rfl (ah ?_ (Gk rfl (Gk rfl (ah ?_ (Gf b (off+(m+1)*7) rfl rfl (ah ?_ (Gb (.bool false) (by simp[go_sem,H]) rfl rfl rfl rfl rfl (Gk rfl (Gk rfl (Gk rfl (Gb (.int .i64 (m:Int)) (by simp[go_sem,R,S]) rfl rfl rfl rfl rfl (ah ?_ (Gk rfl (Gk rfl (ah ?_ (ah ?_ (Gk rfl (Gk rfl (aF))))))))))))))))))))))))))) (λ_=>rfl) rfl ?_
     ·intro ρ y W A F E C;have U:=A 26 3 rfl;have h3:y 3=_:=C 3 rfl;have V:=A 28 5 rfl;have h5:y 5=_:=C 5 rfl;refine ak (.pointer (some ⟨b,off+m*7,none⟩)) (h:=(bB 2 25 true true ((A 25 2 rfl).trans (C 2 rfl)))) (by simp[execOp,go_sem,U,h3,V,h5,x])
     ·intro ρ y W A F E C;have X:=A 30 7 rfl;have h7:y 7=_:=C 7 rfl;have s:=(hi.below E).cells.2.1;refine ak (.int .i64 A0.en) (h:=(bB 2 25 true true ((A 25 2 rfl).trans (C 2 rfl)))) (by simp[execOp,go_sem,X,h7,s])
     ·intro ρ y W A F E C;have Y:=A 32 9 rfl;have h9:y 9=_:=C 9 rfl;have Z:=A 33 10 rfl;have hr:y 10=_:=C 10 rfl;refine ak (.pointer (some ⟨b,off+(m+1)*7,none⟩)) (h:=(bB 2 25 true true ((A 25 2 rfl).trans (C 2 rfl)))) (by simp[execOp,go_sem,Y,h9,Z,hr,D,L,M,N])
     ·intro ρ y W A F E C;have hs:=A 35 12 rfl;have hq:y 12=_:=C 12 rfl;have s:=(hm.below E).cells.1;refine ak (.int .i64 A1.fr) (h:=(bB 2 25 true true ((A 25 2 rfl).trans (C 2 rfl)))) (by simp[execOp,go_sem,hs,hq,s])
     ·intro ρ y W A F E C;have hP:=A 39 16 rfl;have G:y 16=_:=C 16 rfl;have hO:=A 41 18 rfl;have hJ:y 18=_:=C 18 rfl;refine ak (.pointer (some ⟨b,off+m*7,none⟩)) (h:=(bB 15 38 false false ((A 38 15 rfl).trans (C 15 rfl)))) (by simp[execOp,go_sem,hP,G,hO,hJ,x])
     ·intro ρ y W A F E C;have hM:=A 43 20 rfl;have hH:y 20=_:=C 20 rfl;have hL:=A 44 21 rfl;have hG:y 21=_:=C 21 rfl;refine ak (.pointer (some ⟨b,off+(m+1)*7,none⟩)) (h:=(bB 15 38 false false ((A 38 15 rfl).trans (C 15 rfl)))) (by simp[execOp,go_sem,hM,hH,hL,hG,D,L,M,N])
     ·intro ρ y W A F E C;have hN:=A 42 19 rfl;have hI:y 19=_:=C 19 rfl;have hK:=A 45 22 rfl;have hF:y 22=_:=C 22 rfl;have EF:=eF0 F λ_=>trivial;refine aP (m:=(bB 15 38 false false ((A 38 15 rfl).trans (C 15 rfl)))) (aS rfl (EF _) func170 (by simp only[bU,bS,aZ,hN,hI,hK,hF,EF];rfl)) ?_;refine(GH b (off+m*7) b (off+(m+1)*7) A0 A1 W (hi.below E) (hm.below E) hR).mono ?_;rintro r w1 ⟨rfl,hE⟩;rw[hj];exact⟨_,rfl,hE,rfl⟩
     intro y WA q _;have d:=ag j q;have g:=n.ext q;have hU:Hid (∀i (h:i<l.length),i<m+1+1->aX l[i]=0):=ae (mJ hp.out D (by rw[hA1];exact u.out));clear j n L M N R S;go_wp2;go_roundw
     case rel=>exact⟨m+1+1,by omega,by go_num,d,g,hU.out,hB⟩
     case measure=>simp[intOf];omega
    have K:Hid (bQ l=(2,((m+1:Nat):Int))):=ae (by rw[z.out];exact vQ D (by rw[hA1];exact u.out) (by rw[hA1,hC.out,hj,Jk]));refine aO 26 [_,_,_,_,_,_,.v (.pointer (some ⟨b,off+m*7,none⟩)),_,.v (.int .i64 A0.en),_,_,.v (.pointer (some ⟨b,off+(m+1)*7,none⟩)),_,.v (.int .i64 A1.fr),_,_,_,_,_,.v (.pointer (some ⟨b,off+m*7,none⟩)),_,_,.v (.pointer (some ⟨b,off+(m+1)*7,none⟩)),.v (.bool true),_,.v (.bool true)] (Gk rfl (Gb (.bool true) (by simp[go_sem]) rfl rfl rfl rfl rfl (Gk rfl (Gk rfl (Gk rfl (Gb (.int .i64 (m:Int)) (by simp[go_sem,R,S]) rfl rfl rfl rfl rfl (ah ?_ (Gf b (off+m*7+1) rfl rfl (ah ?_ (Gk rfl (Gk rfl (ah ?_ (Gf b (off+(m+1)*7) rfl rfl (ah ?_ (Gb (.bool false) (by simp[go_sem,H]) rfl rfl rfl rfl rfl (Gk rfl (Gk rfl (Gk rfl (Gb (.int .i64 (m:Int)) (by simp[go_sem,R,S]) rfl rfl rfl rfl rfl (ah ?_ (Gk rfl (Gk rfl (ah ?_ (ah ?_ (Gk rfl (Gk rfl (aF))))))))))))))))))))))))))) (λ_=>rfl) rfl ?_
    ·intro ρ y W A F E C;have U:=A 26 3 rfl;have h3:y 3=_:=C 3 rfl;have V:=A 28 5 rfl;have h5:y 5=_:=C 5 rfl;refine ak (.pointer (some ⟨b,off+m*7,none⟩)) (h:=(bB 2 25 true true ((A 25 2 rfl).trans (C 2 rfl)))) (by simp[execOp,go_sem,U,h3,V,h5,x])
    ·intro ρ y W A F E C;have X:=A 30 7 rfl;have h7:y 7=_:=C 7 rfl;have s:=(hi.below E).cells.2.1;refine ak (.int .i64 A0.en) (h:=(bB 2 25 true true ((A 25 2 rfl).trans (C 2 rfl)))) (by simp[execOp,go_sem,X,h7,s])
    ·intro ρ y W A F E C;have Y:=A 32 9 rfl;have h9:y 9=_:=C 9 rfl;have Z:=A 33 10 rfl;have hr:y 10=_:=C 10 rfl;refine ak (.pointer (some ⟨b,off+(m+1)*7,none⟩)) (h:=(bB 2 25 true true ((A 25 2 rfl).trans (C 2 rfl)))) (by simp[execOp,go_sem,Y,h9,Z,hr,D,L,M,N])
    ·intro ρ y W A F E C;have hs:=A 35 12 rfl;have hq:y 12=_:=C 12 rfl;have s:=(hm.below E).cells.1;refine ak (.int .i64 A1.fr) (h:=(bB 2 25 true true ((A 25 2 rfl).trans (C 2 rfl)))) (by simp[execOp,go_sem,hs,hq,s])
    ·intro ρ y W A F E C;have hP:=A 39 16 rfl;have G:y 16=_:=C 16 rfl;have hO:=A 41 18 rfl;have hJ:y 18=_:=C 18 rfl;refine ak (.pointer (some ⟨b,off+m*7,none⟩)) (h:=(bB 15 38 false false ((A 38 15 rfl).trans (C 15 rfl)))) (by simp[execOp,go_sem,hP,G,hO,hJ,x])
    ·intro ρ y W A F E C;have hM:=A 43 20 rfl;have hH:y 20=_:=C 20 rfl;have hL:=A 44 21 rfl;have hG:y 21=_:=C 21 rfl;refine ak (.pointer (some ⟨b,off+(m+1)*7,none⟩)) (h:=(bB 15 38 false false ((A 38 15 rfl).trans (C 15 rfl)))) (by simp[execOp,go_sem,hM,hH,hL,hG,D,L,M,N])
    ·intro ρ y W A F E C;have hN:=A 42 19 rfl;have hI:y 19=_:=C 19 rfl;have hK:=A 45 22 rfl;have hF:y 22=_:=C 22 rfl;have EF:=eF0 F λ_=>trivial;refine aP (m:=(bB 15 38 false false ((A 38 15 rfl).trans (C 15 rfl)))) (aS rfl (EF _) func170 (by simp only[bU,bS,aZ,hN,hI,hK,hF,EF];rfl)) ?_;refine(GH b (off+m*7) b (off+(m+1)*7) A0 A1 W (hi.below E) (hm.below E) hR).mono ?_;rintro r w1 ⟨rfl,hE⟩;rw[hj];exact⟨_,rfl,hE,rfl⟩
    intro y WA q _;have d:=ag j q;have g:=n.ext q;clear j n
    go_wp2_with (refine aA rfl _ _ rfl w.heap.size #[.int .i64 (2),.int .i64 (((m+1:Nat):Int))] rfl rfl g rfl fau_size (nR _ _) ?_)
    intro J t p;have o:Below w.heap.size w J:=d.grown p d.size (λk I=>by cases I;exact az _);go_wp2;refine bodyPost_ret (v:=.agg #[.int .i64 (2),.int .i64 (((m+1:Nat):Int))]) (fw results129 w.heap.size t underlying180 fau_size) rfl ?_;exact⟨by rw[K.out];rfl,o⟩
   have K:Hid (bQ l=(aX l[k],(k:Int))):=ae (by rw[z.out];exact Ia D O);have u : (aX l[k] != 0)=true:=by simpa using O
   have d:=j;have g:=n;clear O j n
   go_wp2_with (refine aA rfl _ _ rfl w.heap.size #[.int .i64 (aX l[k]),.int .i64 (k)] rfl rfl g rfl fau_size (nR _ _) ?_)
   intro J t p;have o:Below w.heap.size w J:=d.grown p d.size (λk I=>by cases I;exact az _);go_wp2;refine bodyPost_ret (v:=.agg #[.int .i64 (aX l[k]),.int .i64 (k)]) (fw results129 w.heap.size t underlying180 fau_size) rfl ?_;exact⟨by rw[K.out];rfl,o⟩
  have K:Hid (bQ l=(0,0)):=ae (by rw[z.out,rA (by omega)];rfl)
  go_wp2_with (refine aA rfl _ _ rfl w.heap.size #[.int .i64 (0),.int .i64 (0)] rfl rfl g rfl fau_size (nR _ _) ?_)
  intro J t p;have o:Below w.heap.size w J:=d.grown p d.size (λk I=>by cases I;exact az _);go_wp2;refine bodyPost_ret (v:=.agg #[.int .i64 (0),.int .i64 (0)]) (fw results129 w.heap.size t underlying180 fau_size) rfl ?_;exact⟨by rw[K.out];rfl,o⟩
theorem NB{l:List Ar}(h:eu w a (l.flatMap mV))(k:Nat)(j:k<l.length):∃b off,a=some ⟨b,off,none⟩/\w.cell? ⟨b,off+k*7,none⟩=some (.int .i64 l[k].fr)/\w.cell? ⟨b,off+k*7+1,none⟩=some (.int .i64 l[k].en)/\w.cell? ⟨b,off+k*7+2,none⟩=some (.bool l[k].rd)/\w.cell? ⟨b,off+k*7+3,none⟩=some (.bool l[k].wr) /\
  w.cell? ⟨b,off+k*7+4,none⟩=some (.bool l[k].sh)/\w.cell? ⟨b,off+k*7+5,none⟩=some (.int .i64 l[k].fi)/\w.cell? ⟨b,off+k*7+6,none⟩=some (.int .i64 l[k].ba):=by
 obtain⟨b,off,e,u⟩:=Tx h k j;exact⟨b,off,e,u.cells⟩
theorem QP(a:Ar)(g:Nat)(n:Int)(w:World)(u:aG w g #[.int .i64 n] 3) :
  Calls Tryz.prog 133 #[.agg #[.int .i64 a.fr,.int .i64 a.en,.bool a.rd,.bool a.wr,.bool a.sh,.int .i64 a.fi,.int .i64 a.ba],.pointer (some ⟨g,0,none⟩)] w λr w'=>r = .returned (.bool (pU n a))/\Below w.heap.size w w':=by
 go_enter func133,ntmps133;go_upto_region 1 with(fail);refine iC (λW=>Code.wp _ _ _ _ W) λW0 b c d => ?_;clear d;have e:=(u.ext b).cell 0;have f:=c.cell
 by_cases j:a.fr<=n
 ·by_cases h2:n<a.en
  ·have h:=ae (show pU n a=true by unfold pU;rw[decide_eq_true j,decide_eq_true h2];rfl);go_wp2;go_ret;exact⟨bY h.out.symm,b⟩
  have h:=ae (show pU n a=false by unfold pU;rw[decide_eq_false h2,nk]);go_wp2;go_ret;exact⟨bY h.out.symm,b⟩
 have h:=ae (show pU n a=false by unfold pU;rw[decide_eq_false j,mf]);go_wp2;go_ret;exact⟨bY h.out.symm,b⟩
theorem Ku(l:List Ar)(a:Option Addr)(c:Nat)(w:World)(y:eu w a (l.flatMap mV))(C:l.length<=9223372036854775807)(g:Nat)(n:Int)(A:aG w g #[.int .i64 n] 3) :
  Calls Tryz.prog 132 #[.slice a l.length c,.func (.func 133) #[] #[.pointer (some ⟨g,0,none⟩)]] w λe w'=>e = .returned (.int .i64 (idx (pU n) l))/\Below w.heap.size w w':=by
 go_enter func132,ntmps132;go_wp2
 go_loopw [8] (fun i wr => ∃k:Nat,k<=l.length/\i = .int .i64 k/\Below w.heap.size w wr/\∀i (h:i<l.length),i<k->(pU n) l[i]=false) (fun i _=>l.length-(intOf i).toNat)
 case atStart=>exact⟨0,bq _,rfl,Below.refl _ _,λi _ h=>absurd h (fA _)⟩
 case round=>
  obtain⟨k,D,rfl,j,o⟩:=hrel;have z:=ae o;clear o
  by_cases u:k<l.length
  ·obtain⟨b,off,rfl,K,J,I,H,G,F,E⟩:=NB (y.below j) k u
   go_wp2_with fail
   refine(QP l[k] g n _ (A.ext j)).mono ?_;rintro e w2 ⟨rfl,p⟩;have f:=ag j p;clear p;cases hpk:(pU n) l[k]
   ·have m:=ae hpk;clear hpk;go_wp2;go_roundw
    case rel=>exact⟨k+1,by omega,by go_num,f,mJ z.out u m.out⟩
    case measure=>simp[intOf];omega
   have d:=ae (uR (pU n) l k u z.out hpk);clear hpk;go_wp2;go_ret;exact⟨aY d.out.symm,f⟩
  have d:=ae (mo (pU n) l λi h=>z.out i h (by omega));go_wp2;go_ret;exact⟨aY d.out.symm,j⟩
theorem Ih(l:List Ar)(n:Int)(a:Option Addr)(c:Nat)(w:World)(h:eu w a (l.flatMap mV))(j:l.length<=9223372036854775807) :
  Calls Tryz.prog 87 #[.slice a l.length c,.int .i64 n] w λr w'=>r = .returned (.int .i64 (ik l n))/\Below w.heap.size w w':=by
 go_enter func87,ntmps87;go_upto_region 1 with(fail);refine iC (λW=>Code.wp _ _ _ _ W) λW0 b d e => ?_;clear e
 go_wp2_with fail
 refine(Ku l a c _ (h.below b) j w.heap.size n d).mono ?_;rintro r w1 ⟨rfl,f⟩;go_wp2;go_ret;exact⟨rfl,ag b f⟩
theorem Pk(l:List Ar):(l.flatMap mV).length=l.length*7:=Pw.flat_len mV 7 rZ l
theorem Vk(a:Ar):∀u∈mV a,u.oneCell' = true:=by
 intro u h;simp only[mV,kH,dz,ib,or_false]at h;rcases h with rfl|rfl|rfl|rfl|rfl|rfl|rfl<;>rfl
theorem sN(l:List Ar):∀u∈l.flatMap mV,u.oneCell' = true:=by
 intro u j;obtain⟨a,_,h⟩:=lg.1 j;exact Vk a u h
theorem LP(l:List Ar)(a:Option Addr)(c:Nat)(w:World)(A:l.length<=c)(y:a=none->c=0)(z:eu w a (l.flatMap mV))(F:l.length*40<=140737488355328) :
  Calls Tryz.prog 62 #[.slice a l.length c] w λe w' => ∃v,e = .returned v/\Own w' w.heap.size 94 7 v l.length (l.flatMap mV)/\Below w.heap.size w w':=by
 cases a with
 | none=>
  have G:=y rfl;have D:l=[]:=kV (by omega);subst D;subst G;have C:=λW=>mY (P:=Tryz.prog) W 71 _ none 0 0 0 0 underlying71;go_enter func62,ntmps62;go_wp2;go_ret;exact⟨_,rfl,by simpa using Own.nil _ _ _ _,Below.refl _ _⟩
 | some ad=>
  have C:=λW=>mY (P:=Tryz.prog) W 71 _ (some ad) l.length c 0 0 underlying71;go_enter func62,ntmps62
  go_wp2_with (at_builtin;go_must (refine fQ 71 rfl w.heap.size 94 (.agg #[.int .i64 0,.int .i64 0,.bool false,.bool false,.bool false,.int .i64 0,.int .i64 0]) 7 40 underlying71 area_info 0 [] rfl ?own (some ad) l.length c (l.flatMap mV) rfl (λh=>(by cases h)) A (Pk l) ?rd (sN l) (by unfold maxLen;omega) (by simpa using F) ?bb ?k))
  case own=>exact⟨rfl,.inr ⟨w.heap.size,0,0,#[],rfl,az _,aG.new _ _ _,az _,bq _,by simp,λj u h=>by simp at h⟩⟩
  case rd=>exact z.below ((Below.refl _ _).alloc (az _) _)
  case bb=>exact gU _ _
  intro v w1 b d;go_wp2;go_ret;exact⟨v,rfl,by simpa using b,((Below.refl _ _).alloc (az _) _).grown d (gU _ _) (λk E=>by cases E;exact az _)⟩
structure Xp (w:World) (a:Option Addr) (c:Nat) (l:List Ar):Prop where
 le:l.length<=c
 mx:c<=maxLen
 nl:a=none->c=0
 rd:eu w a (l.flatMap mV)
theorem Xp.below{l:List Ar}(h:Xp w a c l)(j:Below w.heap.size w w'):Xp w' a c l:=⟨h.le,h.mx,h.nl,h.rd.below j⟩
theorem uw(w:World)(F H G elem:TypeId)(sz g o u A:Nat)(a:Addr)(h y n:Nat)(cs:List Value)(cur:Array Value)(T:TypeId)
 (I:P.underlying F=some (.slice elem)) (C:(P.info? elem).map (·.size)=some sz) (J:Nat.min h u=n) (K:cs.length=n*sz) (D:aG w g cur T)
 (z:∀j v,cs[j]?=some v->w.cell? (a.add j)=some v) (E:o+cs.length<=cur.size) (N:∀v∈cs,v.oneCell' = true) :
  (Builtin.copy_ #[F,H] G #[.slice (some ⟨g,o,none⟩) u A,.slice (some a) h y]).run P w = .ok (goInt n) (w.setCells g o cs):=by
 have c:=run_loadCells_list (P:=P) w a cs z;have b:=run_storeCells_cells (P:=P) g o cs 0 w (λj L=>by rw[iK,D.cell];simp[show o+j<cur.size by omega]) (λj L=>D.free _) N;cases hq:P.info? elem with
 | none=>simp[hq]at C
 | some i=>
  have M:i.size=sz:=by simpa[hq]using C
  simp[Builtin.copy_,run_underlying I,Builtin.lenOf,Builtin.firstCells,sizeOf,typeInfo,hq,M,J,<-K,c,b]
theorem Wx(w:World){a:Act}(j:o.guard=none)(d s:Operand)(t t' : TypeId)
 (A:o.op = .call { callee:=.builtin .copy,args:=#[d,s],argTypes:=#[t,t'] }) (v u:Value) (C:a.eval d=v) (y:a.eval s=u) 
 (z:(Builtin.copy_ #[t,t'] o.type #[v,u]).run P w = .ok v' w') (h:wpList P ops Q rest (a.put o.dst v') w'):wpList P ops Q (o::rest) a w:=
 wpList_plain j λK D=>by unfold Oper.wp execOp;simp only[A,resolve,invoke,builtin,kY,rf,qV,bU,bS,aZ,C,y,z];exact D _ _ h
theorem LJ{a:Act}{K:Act->World->Prop}{E:Prop}
 (D:o.guard=none) (d x:Operand) (y j:TypeId) (h:o.op=Op.call { callee:=Callee.builtin Builtin.copy,args:=#[d,x],argTypes:=#[y,j] })
 (v u:Value) (F:a.eval d=v) (z:a.eval x=u) (C:(Builtin.copy_ #[y,j] o.type #[v,u]).run P w = .ok v' w') (G:K (a.put o.dst v') w') :
  if Region.wanted o (yielded ops a.tmps)=true then Oper.wp P o a w K Q else E:=by
 have A:Region.wanted o (yielded ops a.tmps)=true:=by simp[Region.wanted,D]
 rw[if_pos A];unfold Oper.wp;simp[execOp,h,resolve,invoke,builtin,F,z,C,Result.andThen];exact G
def XW(x:Ar):mP:=⟨λv w => ∃g,v = .slice (some ⟨g,0,none⟩) 1 1/\aG w g (kH x) 94,λ_ _ _ hb ⟨g,h1,h2⟩=>⟨g,h1,h2.ext hb⟩⟩
theorem own_not{l:List Ar}{x:Ar}(h:Own w B 94 7 v l.length (l.flatMap mV))(A:aG w g (kH x) 94)(G:¬x∈l)(J:0<l.length):∀b,v.ownBlock=some b->g≠b:=by
 rintro b F rfl;rcases h with⟨C,⟨rfl,_⟩|⟨Z,off,U,cur,rfl,X,D,z,W,V,H⟩⟩
 ·cases F
 cases F;unfold aG at D A;rw[D]at A;simp only[jo,uj,and_true]at A;subst A;have Y:(kH x).size=7:=rfl;have I:off=0:=by omega
 subst I
 match l,J with
 | y::r,_=>
  have z:∀(j:Nat) (u:Value),(mV y)[j]?=some u->(kH x)[j]?=some u:=by intro j u E;have:=H j u (by rw[nV,kN (by have:=(bZ.1 E).1;exact this)];exact E);rwa [eB]at this
  have S:=z 0 _ rfl;have R:=z 1 _ rfl;have O:=z 2 _ rfl;have N:=z 3 _ rfl;have M:=z 4 _ rfl;have L:=z 5 _ rfl;have K:=z 6 _ rfl;simp[kH]at S R O N M L K;refine G (dz.2 (.inl ?_));cases x;cases y
  simp_all
theorem xK{n:Nat}{d:TypeDesc}(z:P.underlying t=some (.array n e))(C:P.underlying e=some d)(E:aggB d=true)(h:(P.info? e).map (·.size)=some sz)
 (cs:Array Value) (k:Nat) (vs:Array Value) (A:k<n) (y:cs.extract (k*sz) (k*sz+sz)=vs) (j:IntKind) (w:World):(Instr.index t (.agg cs) (.int j k)).run P w = .ok (.agg vs) w:=by
 have a:∀w,(Go.sizeOf e).run P w = .ok sz w:=by
  intro w;cases hq:P.info? e with
  | none=>simp[hq]at h
  | some i=>
   have u:i.size=sz:=by simpa[hq]using h
   simp[Go.sizeOf,typeInfo,run_program,hq,u]
 have D:∀w,(isAgg e).run P w = .ok true w:=by intro w;unfold isAgg;simp[run_underlying C];cases d<;>simp_all[aggB]
 simp[Instr.index,part,asIntOf,run_underlying z,a,A,D,go_sem,y]
theorem xQ(l:List Int)(a:Option Addr)(c:Nat)(w:World)(A:l.length<=c)(y:a=none->c=0)(z:eu w a (l.map gF))(F:l.length*8<=140737488355328) :
  Calls Tryz.prog 58 #[.slice a l.length c] w λe w' => ∃v,e = .returned v/\Own w' w.heap.size 3 1 v l.length (l.map gF)/\Below w.heap.size w w':=by
 cases a with
 | none=>
  have G:=y rfl;have D:l=[]:=kV (by omega);subst D;subst G;have C:=λW=>mY (P:=Tryz.prog) W 34 _ none 0 0 0 0 underlying34;go_enter func58,ntmps58;go_wp2;go_ret;exact⟨_,rfl,by simpa using Own.nil _ _ _ _,Below.refl _ _⟩
 | some ad=>
  have C:=λW=>mY (P:=Tryz.prog) W 34 _ (some ad) l.length c 0 0 underlying34;go_enter func58,ntmps58
  go_wp2_with (at_builtin;go_must (refine fQ 34 rfl w.heap.size 3 (.int .i64 0) 1 8 underlying34 int_info 0 [] rfl ?own (some ad) l.length c (l.map gF) rfl (λh=>(by cases h)) A (LY l) ?rd (Ll l) (by unfold maxLen;omega) (by simpa using F) ?bb ?k))
  case own=>exact⟨rfl,.inr ⟨w.heap.size,0,0,#[],rfl,az _,aG.new _ _ _,az _,bq _,by simp,λj u h=>by simp at h⟩⟩
  case rd=>exact z.below ((Below.refl _ _).alloc (az _) _)
  case bb=>exact gU _ _
  intro v w1 b d;go_wp2;go_ret;exact⟨v,rfl,by simpa using b,((Below.refl _ _).alloc (az _) _).grown d (gU _ _) (λk E=>by cases E;exact az _)⟩
theorem UV(n:Int)(w:World):Calls Tryz.prog 166 #[.int .i64 n] w λe w'=>e = .returned (.bool (rR n))/\w' = w:=by
 unfold rR;go_enter func166,ntmps166;go_wp2
 all_goals
  go_ret;refine⟨bY ?_,rfl⟩;simp[*]
theorem TM(l:List Int)(a:Option Addr)(c:Nat)(w:World)(u:eu w a (l.map gF))(z:l.length<=9223372036854775807) :
  Calls Tryz.prog 197 #[.slice a l.length c,.func (.func 166) #[] #[]] w λe w'=>e = .returned (.int .i64 (idx rR l))/\w' = w:=by
 go_enter func197,ntmps197;go_wp2
 go_loopw [8] (fun i wr => ∃k:Nat,k<=l.length/\i = .int .i64 k/\wr=w/\∀i (h:i<l.length),i<k->rR l[i]=false) (fun i _=>l.length-(intOf i).toNat)
 case atStart=>exact⟨0,bq _,rfl,rfl,λi _ h=>absurd h (fA _)⟩
 case round=>
  obtain⟨k,A,rfl,rfl,y⟩:=hrel
  by_cases j:k<l.length
  ·obtain⟨b,off,rfl,C⟩:=kC u k j
   go_wp2_with fail
   refine(UV l[k] _).mono ?_;rintro e w1 ⟨rfl,rfl⟩;cases hbk:rR l[k]with
   | true=>
    go_wp2;go_ret;exact⟨aY (uR rR l k j y hbk).symm,rfl⟩
   | false=>
    go_wp2;go_roundw
    case rel=>exact⟨k+1,by omega,by go_num,trivial,upto y j hbk⟩
    case measure=>simp[intOf];omega
  go_wp2;go_ret;exact⟨aY (mo rR l λi h=>y i h (by omega)).symm,rfl⟩
theorem EQ(l:List Int)(a:Option Addr)(c:Nat)(w:World)(h:eu w a (l.map gF))(j:l.length<=9223372036854775807) :
  Calls Tryz.prog 165 #[.slice a l.length c,.func (.func 166) #[] #[]] w λe w'=>e = .returned (.bool (l.any rR))/\w' = w:=by
 rw[<-pM];go_enter func165,ntmps165
 go_wp2_with fail
 refine(TM l a c _ h j).mono ?_;rintro e w1 ⟨rfl,rfl⟩;go_wp2;go_ret;exact⟨rfl,rfl⟩
theorem xD(l:List Int)(a:Option Addr)(c:Nat)(w:World)(j:eu w a (l.map gF))(u:l.length<=9223372036854775807) :
  Calls Tryz.prog 126 #[.slice a l.length c] w λe w'=>e = .returned (.int .i64 (dL l))/\w' = w:=by
 unfold dL;go_enter func126,ntmps126
 by_cases h:60<l.length
 ·have y:(60:Int)<(l.length:Int):=by omega
  go_wp2;go_ret;exact⟨by simp[h],rfl⟩
 have y:¬(60:Int)<(l.length:Int):=by omega
 go_wp2_with fail
 refine(EQ l a c _ j u).mono ?_;rintro e w1 ⟨rfl,rfl⟩;cases hb:l.any rR
 all_goals
  go_wp2;go_ret;exact⟨by simp[h],rfl⟩
theorem LZ(l:List Int)(a:Option Addr)(c:Nat)(w:World)(y:eu w a (l.map gF))(F:l.length<=9223372036854775807) :
  Calls Tryz.prog 97 #[.slice a l.length c] w λe w'=>e = .returned (.int .i64 (dL l))/\w' = w:=by
 unfold dL;go_enter func97,ntmps97
 by_cases h:60<l.length
 ·have C:(60:Int)<(l.length:Int):=by omega
  go_wp2;go_ret;exact⟨by simp[h],rfl⟩
 have C:¬(60:Int)<(l.length:Int):=by omega
 rw[if_neg h];go_wp2
 go_loopw [10] (fun i wr => ∃k:Nat,k<=l.length/\i = .int .i64 k/\wr=w/\∀i (h:i<l.length),i<k->rR l[i]=false) (fun i _=>l.length-(intOf i).toNat)
 case atStart=>exact⟨0,bq _,rfl,rfl,λi _ h=>absurd h (fA _)⟩
 case round=>
  obtain⟨k,G,rfl,rfl,A⟩:=hrel
  by_cases j:k<l.length
  ·obtain⟨b,off,rfl,H⟩:=kC y k j
   by_cases u:l[k]<0\/1000<l[k]
   ·have d:rR l[k]=true:=by simpa[rR]using u
    have z:l.any rR=true:=jP.2 ⟨_,fe j,d⟩;rcases u with u|u <;>
    go_wp2
    all_goals
     go_ret;exact⟨by simp[z],rfl⟩
   have d:rR l[k]=false:=by simp[rR];omega
   have E:¬l[k]<0:=by omega
   have D:¬(1000<l[k]):=by omega
   go_wp2;go_roundw
   case rel=>exact⟨k+1,by omega,by go_num,trivial,upto A j d⟩
   case measure=>simp[intOf];omega
  have z:l.any rR=false:=by rw[<-pM,mo rR l λi h=>A i h (by omega)];rfl
  go_wp2
  all_goals
   go_ret;exact⟨by simp[z],rfl⟩
theorem KG(l:List Int)(a:Option Addr)(c:Nat)(w:World)(y:eu w a (l.map gF))(C:l.length<=9223372036854775807) :
  Calls Tryz.prog 210 #[.slice a l.length c,.int .i64 0] w λe w'=>e = .returned (.int .i64 (idx JZ l))/\w' = w:=by
 go_enter func210,ntmps210;go_wp2
 go_loopw [8] (fun i wr => ∃k:Nat,k<=l.length/\i = .int .i64 k/\wr=w/\∀i (h:i<l.length),i<k->JZ l[i]=false) (fun i _=>l.length-(intOf i).toNat)
 case atStart=>exact⟨0,bq _,rfl,rfl,λi _ h=>absurd h (fA _)⟩
 case round=>
  obtain⟨k,D,rfl,rfl,z⟩:=hrel
  by_cases j:k<l.length
  ·obtain⟨b,off,rfl,A⟩:=kC y k j
   by_cases u:l[k]=0
   ·have d:JZ l[k]=true:=by simp[JZ,u]
    rw[u]at A;go_wp2;go_ret;exact⟨aY (uR JZ l k j z d).symm,rfl⟩
   have d:JZ l[k]=false:=by simp[JZ,u]
   have f : ((0:Int)==l[k])=false:=by simp;omega
   go_wp2;go_roundw
   case rel=>exact⟨k+1,by omega,by go_num,trivial,upto z j d⟩
   case measure=>simp[intOf];omega
  go_wp2;go_ret;exact⟨aY (mo JZ l λi h=>z i h (by omega)).symm,rfl⟩
theorem Mx(l:List Int)(a:Option Addr)(c:Nat)(n:Int)(w:World)(E:l.length<=c)(A:a=none->c=0)(y:eu w a (l.map gF))(R:l.length<=9223372036854775807) :
  Calls Tryz.prog 201 #[.slice a l.length c,.int .i64 n] w λe w' => ∃v,e = .returned (.tuple #[v,.int .i64 (kL l n),.int .i64 (iY l n)])/\Own w' w.heap.size 3 1 v (mU l n).length ((mU l n).map gF)/\Below w.heap.size w w':=by
 go_enter func201,ntmps201
 go_wp2_with fail
 refine(xD l a c _ y (by omega)).mono ?_;rintro e w1 ⟨rfl,rfl⟩
 by_cases z:dL l=0
 ·rw[z];have d:=kJ z
  by_cases D:n<1\/1000<n
  ·obtain⟨u,j,h⟩:=Ms z D;rcases D with D|D <;>
   go_wp2
   all_goals
    go_ret3
    try simp only[u,j,h]
    exact⟨_,rfl,Own.nil _ _ _ _,Below.refl _ _⟩
  have M:¬n<1:=by omega
  have L:¬1000<n:=by omega
  go_wp2_with fail
  refine(KG l a c _ y (by omega)).mono ?_;rintro e w2 ⟨rfl,rfl⟩;rcases Ce JZ l with⟨C,_⟩|⟨k,G,C,N,_⟩
  ·obtain⟨u,j,h⟩:=MV z ⟨by omega,by omega⟩ C;rw[C];go_wp2
   go_ret3
   try simp only[u,j,h]
   exact⟨_,rfl,Own.nil _ _ _ _,Below.refl _ _⟩
  obtain⟨u,j,h⟩:=PR z ⟨by omega,by omega⟩ C;rw[C]
  go_wp2_with fail
  refine(xQ l a c _ E A y (by omega)).mono ?_;rintro e K ⟨v,rfl,F,H⟩;obtain⟨g,off,J,rfl,I,f,U,S,b⟩:=F.put1 k G;go_wp2
  go_ret3
  try simp only[u,j,h]
  exact⟨_,rfl,by rw[bI];exact b n,H.setCell I _⟩
 obtain⟨u,j,h⟩:=Mw n z;have O:(dL l != 0)=true:=by simpa using z
 go_wp2
 go_ret3
 try simp only[u,j,h]
 exact⟨_,rfl,Own.nil _ _ _ _,Below.refl _ _⟩
theorem Ez(l:List Int)(a:Option Addr)(c:Nat)(k n:Int)(w:World)(F:l.length<=c)(E:a=none->c=0)(C:eu w a (l.map gF))(W:l.length<=9223372036854775807) :
  Calls Tryz.prog 91 #[.slice a l.length c,.int .i64 k,.int .i64 n] w λe w' => ∃v,e = .returned (.tuple #[v,.int .i64 (dH l k n)])/\Own w' w.heap.size 3 1 v (cO l k n).length ((cO l k n).map gF)/\Below w.heap.size w w':=by
 go_enter func91,ntmps91
 go_wp2_with fail
 refine(xD l a c _ C (by omega)).mono ?_;rintro e w1 ⟨rfl,rfl⟩
 by_cases z:dL l=0
 ·rw[z];have p:=kJ z
  by_cases D:k<0\/(l.length:Int)<=k
  ·obtain⟨y,u⟩:=GN (n:=n) z (show k<0\/(l.length:Int)<=k\/Gv l k=0 from by omega);rcases D with D|D <;>
   go_wp2
   all_goals
    go_ret2
    try simp only[y,u]
    exact⟨_,rfl,Own.nil _ _ _ _,Below.refl _ _⟩
  obtain⟨k,rfl⟩:=iO (show 0<=k by omega);have h:k<l.length:=by omega
  have o:¬(l.length:Int)<=(k:Int):=by omega
  obtain⟨b,off,rfl,J⟩:=kC C k h;obtain⟨O,N⟩:=Sg l k h z;have d:=VM h
  by_cases H:l[k]=0
  ·obtain⟨y,u⟩:=GN (n:=n) z (show(k:Int)<0\/(l.length:Int)<=k\/Gv l k=0 from by omega);rw[H]at J;clear D d O N;go_wp2
   all_goals
    go_ret2
    try simp only[y,u]
    exact⟨_,rfl,Own.nil _ _ _ _,Below.refl _ _⟩
  have q : (l[k]==(0:Int))=false:=by simp;omega
  have f:¬((k:Int)<0\/(l.length:Int)<=k\/Gv l k=0):=by omega
  by_cases A:n < -Gv l k\/1000-Gv l k<n
  ·obtain⟨y,u⟩:=MG z f A;rw[d]at A;clear d f D;rcases A with A|A <;>
   go_wp2
   all_goals
    go_ret2
    try simp only[y,u]
    exact⟨_,rfl,Own.nil _ _ _ _,Below.refl _ _⟩
  obtain⟨y,u⟩:=PL z f A;rw[d]at A u;rw[bv]at u;have U:¬n < -l[k]:=by omega
  have S:¬1000-l[k]<n:=by omega
  clear d f D A
  go_wp2_with fail
  refine(xQ l _ c _ F E C (by omega)).mono ?_;rintro e R ⟨v,rfl,I,K⟩;obtain⟨g,G,M,rfl,L,m,j,X,i⟩:=I.put1 k h;unfold gF at j;go_wp2;go_ret2
  try simp only[y,u]
  exact⟨_,rfl,by rw[bI];exact i _,K.setCell L _⟩
 obtain⟨y,u⟩:=Nh k n z;have V:(dL l != 0)=true:=by simpa using z
 go_wp2;go_ret2
 try simp only[y,u]
 exact⟨_,rfl,Own.nil _ _ _ _,Below.refl _ _⟩
structure PS where
 lv:Bool
 aa:Option Addr
 ac:Nat
 ar:List Ar
 ts:Vector Value 8
 tb:Tb
def PS.sp(p:PS):Sp:=⟨p.lv,p.ar,p.tb⟩
def nT(v:Vector Value 8):Array Value:=#[v[0],v[1],v[2],v[3],v[4],v[5],v[6],v[7]]
theorem Sq(v:Vector Value 8):(nT v).size=8:=rfl
theorem SI(h:cs.size=8):∃v:Vector Value 8,cs=nT v:=by
 refine⟨⟨cs,h⟩,?_⟩;apply Array.ext
 ·rw[h,Sq]
 intro i u h2;have j:i<8:=by omega
 match i,j with
 | 0,_=>rfl
 | 1,_=>rfl
 | 2,_=>rfl
 | 3,_=>rfl
 | 4,_=>rfl
 | 5,_=>rfl
 | 6,_=>rfl
 | 7,_=>rfl
 | n+8,h=>omega
def ze(p:PS):Array Value:=#[.bool p.lv,.slice p.aa p.ar.length p.ac,p.ts[0],p.ts[1],p.ts[2],p.ts[3],p.ts[4],p.ts[5],p.ts[6],p.ts[7]]
def ug(p:PS):List Value:=(ze p).toList
theorem oU(p:PS):(ug p).length=10:=rfl
theorem wO(c:Cc):(vT c).all (·.oneCell')=true:=by simp[vT,Value.oneCell']
theorem space_size:(Tryz.prog.info? 76).map (·.size)=some 10:=by kernel_rfl
theorem space_info:(Tryz.prog.info? 76).map (λi=>(i.zero,i.size,i.bytes))=some (some (.agg #[.bool false,.slice none 0 0,.slice none 0 0,.slice none 0 0,.slice none 0 0,.slice none 0 0,.slice none 0 0,.slice none 0 0,.slice none 0 0,.slice none 0 0]),10,224):=by kernel_rfl
theorem cached_size:(Tryz.prog.info? 122).map (·.size)=some 3:=by kernel_rfl
theorem cached_info:(Tryz.prog.info? 122).map (λi=>(i.zero,i.size,i.bytes))=some (some (.agg #[.int .i64 0,.int .i64 0,.int .i64 0]),3,24):=by kernel_rfl
theorem machine_size:(Tryz.prog.info? 45).map (·.size)=some 11:=by kernel_rfl
structure PS.good (w:World) (p:PS):Prop where
 ars:Xp w p.aa p.ac p.ar
 tb:FZ w (nT p.ts) p.tb
theorem PS.good.below{p:PS}(h:p.good w)(j:Below w.heap.size w w'):p.good w':=⟨h.ars.below j,h.tb.below j⟩
theorem PS.good.one{p:PS}(h:p.good w):∀u∈ug p,u.oneCell' = true:=by
 have y:∀u∈(nT p.ts).toList,u.oneCell' = true:=by have:=h.tb.one;rw[<-mD,fD]at this;exact this
 intro u j;simp only[ug,ze,dz,ib,or_false]at j;simp only[nT,dz,ib,or_false]at y;rcases j with rfl|rfl|j
 ·rfl
 ·rfl
 ·exact y u j
structure vG (w:World) (a:Option Addr) (c n:Nat) (vs:List Value):Prop where
 le:n<=c
 mx:c<=maxLen
 nl:a=none->c=0
 rd:eu w a vs
theorem vG.below{n:Nat}(h:vG w a c n vs)(j:Below w.heap.size w w'):vG w' a c n vs:={ h with rd:=h.rd.below j }
theorem vG.of{n:Nat}(h:Own w B e sz v n xs):∃a c,v = .slice a n c/\vG w a c n xs:=by
 obtain⟨a,c,rfl,y,h2,u,j⟩:=h.rd;exact⟨a,c,rfl,y,h2,u,j⟩
structure MH where
 af:Option Addr
 cf:Nat
 m:Mem
 asl:Option Addr
 csl:Nat
 sl:List Int
 wb:Option Addr
 cwb:Nat
 wq:Option Addr
 cwq:Nat
 sw:vW
 db:Option Addr
 cdb:Nat
 dq:Option Addr
 cdq:Nat
 dk:vW
 ai:Option Addr
 ci:Nat
 fi:List PF
 ct:Int
 ac:Option Addr
 cc:Nat
 ca:List Cc
 ap:Option Addr
 cp:Nat
 sp:List PS
def MH.ma(H:MH):Ma:=⟨H.m,H.sl,H.sw,H.dk,cZ H.fi H.ct,H.ca,H.sp.map PS.sp⟩
def dF(H:MH):Array Value:=#[.slice H.af H.m.fs.length H.cf,.int .i64 H.m.hand,.slice H.asl H.sl.length H.csl,.slice H.wb H.sw.blocks.length H.cwb,.slice H.wq H.sw.queue.length H.cwq,
 .slice H.db H.dk.blocks.length H.cdb,.slice H.dq H.dk.queue.length H.cdq,.slice H.ai H.fi.length H.ci,.int .i64 H.ct,.slice H.ac H.ca.length H.cc,.slice H.ap H.sp.length H.cp]
theorem jc(H:MH):(dF H).all (·.oneCell')=true:=by simp[dF,Value.oneCell']
structure wI (w:World) (H:MH):Prop where
 fr:RB w H.af H.cf H.m
 sl:vG w H.asl H.csl H.sl.length (H.sl.map gF)
 sw:Rl w H.wb H.cwb H.wq H.cwq H.sw
 dk:Rl w H.db H.cdb H.dq H.cdq H.dk
 st:MO w H.ai H.ci H.fi
 ca:vG w H.ac H.cc H.ca.length (H.ca.flatMap iL)
 sp:vG w H.ap H.cp H.sp.length (H.sp.flatMap ug)
 ps:∀p∈H.sp,p.good w
 c64 : -9223372036854775808<=H.ct/\H.ct<=9223372036854775807
theorem wI.below{H:MH}(h:wI w H)(j:Below w.heap.size w w'):wI w' H:=
 ⟨h.fr.below j,h.sl.below j,h.sw.below j,h.dk.below j,h.st.below j,h.ca.below j,h.sp.below j,λp u=>(h.ps p u).below j,h.c64⟩
theorem qN{y:List PS}(h:eu w a (y.flatMap ug))(k:Nat)(z:k<y.length):∃b off p,a=some ⟨b,off,none⟩/\y[k]?=some p/\eu w (some ⟨b,off+k*10,none⟩) (ug p):=by
 obtain⟨b,off,D,C⟩:=h.elem oU (by decide) k z;refine⟨b,off,y[k],D,aI z,λj u A=>⟨b,off+k*10,rfl,C j u A⟩⟩
theorem qF{H:MH}(h:wI w H){p:PS}(j:H.sp[k]?=some p):p.good w:=h.ps p (bP j)
theorem Uj{l:List Cc}(h:eu w a (l.flatMap iL))(k:Nat)(u:k<l.length):∃b off c,a=some ⟨b,off,none⟩/\l[k]?=some c/\w.cell? ⟨b,off+k*3,none⟩=some (.int .i64 c.f)/\w.cell? ⟨b,off+k*3+1,none⟩=some (.int .i64 c.i)/\w.cell? ⟨b,off+k*3+2,none⟩=some (.int .i64 c.k):=by
 obtain⟨b,off,y,j⟩:=h.elem jb (by decide) k u;exact⟨b,off,l[k],y,aI u,j 0 _ rfl,j 1 _ rfl,j 2 _ rfl⟩
structure Wd (m:Ma):Prop where
 fs:m.m.fs.length<=1000
 sl:m.sl.length<=1000
 swb:m.sw.blocks.length<=1000
 swq:m.sw.queue.length<=1000
 dkb:m.dk.blocks.length<=1000
 dkq:m.dk.queue.length<=1000
 st:m.st.fs.length<=1000/\∀f∈m.st.fs,f.b.length<=1000
 ca:m.ca.length<=1000
 sp:m.sp.length<=1000/\∀s∈m.sp,s.ar.length<=1000/\∀k (h:k<8),s.tb[k].length<=1000
structure tT (w:World) (B:Nat) (H:MH):Prop where
 fr:Own w B 66 13 (.slice H.af H.m.fs.length H.cf) H.m.fs.length (H.m.fs.flatMap ni)
 sl:Own w B 3 1 (.slice H.asl H.sl.length H.csl) H.sl.length (H.sl.map gF)
 sw:mZ w B (.slice H.wb H.sw.blocks.length H.cwb) (.slice H.wq H.sw.queue.length H.cwq) H.sw
 dk:mZ w B (.slice H.db H.dk.blocks.length H.cdb) (.slice H.dq H.dk.queue.length H.cdq) H.dk
 st:rC w B (.slice H.ai H.fi.length H.ci) H.fi
 ca:Own w B 122 3 (.slice H.ac H.ca.length H.cc) H.ca.length (H.ca.flatMap iL)
 sp:Own w B 76 10 (.slice H.ap H.sp.length H.cp) H.sp.length (H.sp.flatMap ug)
 ps:∀p∈H.sp,Own w B 94 7 (.slice p.aa p.ar.length p.ac) p.ar.length (p.ar.flatMap mV)/\sM w B (nT p.ts) p.tb
 c64 : -9223372036854775808<=H.ct/\H.ct<=9223372036854775807
theorem tT.below{H:MH}(h:tT w B H)(j:Below w.heap.size w w'):tT w' B H:=
 ⟨h.fr.below j,h.sl.below j,h.sw.below j,h.dk.below j,h.st.below j,h.ca.below j,h.sp.below j,λp u=>⟨(h.ps p u).1.below j,(h.ps p u).2.below j⟩,h.c64⟩
theorem tT.mono{H:MH}(h:tT w B H)(j:B'<=B):tT w B' H:=
 ⟨h.fr.mono j,h.sl.mono j,h.sw.mono j,h.dk.mono j,h.st.mono j,h.ca.mono j,h.sp.mono j,λp u=>⟨(h.ps p u).1.mono j,(h.ps p u).2.mono j⟩,h.c64⟩
theorem uK{n:Nat}(h:Own w B e sz (.slice a n c) n xs):vG w a c n xs:=by
 obtain⟨a',c',j,u⟩:=vG.of h;simp only[lU,true_and]at j;obtain⟨rfl,rfl⟩:=j;exact u
theorem Wn{b:Option Addr}{e:Nat}(h:mZ w B (.slice a d.blocks.length c) (.slice b d.queue.length e) d):Rl w a c b e d:=
 have j:=uK h.b;have h2:=uK h.q
 ⟨j.le,h2.le,j.mx,h2.mx,j.nl,h2.nl,j.rd,h2.rd⟩
theorem WR{j:List PF}(h:rC w B (.slice a j.length c) j):MO w a c j:=by
 obtain⟨a',c',u,y⟩:=h.rd;simp only[lU,true_and]at u;obtain⟨rfl,rfl⟩:=u;exact y
theorem tT.rd{H:MH}(h:tT w B H):wI w H:=
 have j:=uK h.fr
 ⟨⟨j.le,j.mx,j.nl,j.rd⟩,uK h.sl,Wn h.sw,Wn h.dk,WR h.st,uK h.ca,uK h.sp,λp u=>⟨have h2:=uK (h.ps p u).1;⟨h2.le,h2.mx,h2.nl,h2.rd⟩,(h.ps p u).2.rd⟩,h.c64⟩
theorem tT.keep{H:MH}(h:tT w B H)(u:aG w g cs T)
 (z:T≠66/\T≠3/\T≠58/\T≠105/\T≠101/\T≠122/\T≠76/\T≠94/\T≠68) (j:w.grownBy w' (some g)):tT w' B H:=
 have ⟨t1,t2,t3,t4,t5,t6,t7,t8,t9⟩:=z
 ⟨ax h.fr u (p:=t1) j,ax h.sl u (p:=t2) j,h.sw.keep u t3 t4 j,h.dk.keep u t3 t4 j,h.st.keep u t5 t2 j,ax h.ca u (p:=t6) j,ax h.sp u (p:=t7) j,λp y=>⟨ax (h.ps p y).1 u (p:=t8) j,(h.ps p y).2.keep u t9 j⟩,h.c64⟩
theorem jO{α:Type}{enc:α->List Value}(y:∀x,(enc x).length=sz){l:List α}(h:eu w a (l.flatMap enc))(k:Nat)(A:k<l.length)(z:0<sz:=by decide) :
  ∃b off,a=some ⟨b,off,none⟩/\eu w (some ⟨b,off+k*sz,none⟩) (enc l[k]):=by
 obtain⟨b,off,E,D⟩:=h.elem y z k A;exact⟨b,off,E,λj u C=>⟨b,off+k*sz,rfl,D j u C⟩⟩
theorem bF(h:aG w b cs T)(o n:Nat):eu w (some ⟨b,o,none⟩) ((cs.toList.drop o).take n):=by
 intro i u j;refine⟨b,o,rfl,?_⟩;rw[h.cell,<-uQ];rw[mE]at j;split at j
 ·rw[qY]at j;exact j
 ·cases j
def rD(H:MH)(e:Int):Array Value:=#[.slice H.af H.m.fs.length H.cf,.int .i64 H.m.hand,.slice H.asl H.sl.length H.csl,.slice H.wb H.sw.blocks.length H.cwb,.slice H.wq H.sw.queue.length H.cwq,
 .slice H.db H.dk.blocks.length H.cdb,.slice H.dq H.dk.queue.length H.cdq,.slice H.ai H.fi.length H.ci,.int .i64 H.ct,.slice H.ac H.ca.length H.cc,.slice H.ap H.sp.length H.cp,.int .i64 e]
def oB(a:Option Addr):Option Nat:=(Value.slice a 0 0).ownBlock
theorem jF(a:Option Addr)(n c:Nat):(Value.slice a n c).ownBlock=oB a:=by cases a<;>rfl
structure lD (w:World) (B b:Nat) (H:MH) (e:Int):Prop where
 blk:aG w b (rD H e) 109
 ge:B<=b
 ma:tT w B H
 tz:∀p∈H.sp,Gq p.tb
def kb(b:Nat)(H:MH)(x:Nat):Prop:=x=b\/oB H.af=some x\/oB H.ac=some x\/oB H.ap=some x
structure KS (w0:World) (b:Nat) (H0:MH) (w:World) (H:MH):Prop where
 os:w.os=w0.os
 tape:w.tape=w0.tape
 output:w.output=w0.output
 size:w0.heap.size<=w.heap.size
 keep:∀x,x<w0.heap.size->¬kb b H0 x->w.heap[x]?=w0.heap[x]?
 sn:∀x,kb b H x->kb b H0 x\/w0.heap.size<=x
theorem KS.refl(w:World)(b:Nat)(H:MH):KS w b H w H:=⟨rfl,rfl,rfl,az _,λ_ _ _=>rfl,λ_ h => .inl h⟩
theorem KS.trans{C A z:MH}(h:KS w0 b C w1 A)(k:KS w1 b A w2 z):KS w0 b C w2 z:=
 ⟨k.os.trans h.os,k.tape.trans h.tape,k.output.trans h.output,bi h.size k.size,λx j y=>(k.keep x (pu j h.size) (λD=>(h.sn x D).elim y (λu=>absurd j (DV.2 u)))).trans (h.keep x j y),
  λx j=>(k.sn x j).elim (h.sn x) (λu => .inr (bi h.size u))⟩
theorem KS.below{y H:MH}(h:KS w0 b y w H)(j:Below w.heap.size w w'):KS w0 b y w' H:=
 ⟨j.os.trans h.os,j.tape.trans h.tape,j.output.trans h.output,bi h.size j.size,λx u z=>(j.block x (pu u h.size)).trans (h.keep x u z),h.sn⟩
theorem KS.put{y:Nat}{H0 H H' : MH}(h:KS w0 b H0 w H)(z:w.grownBy w' (some y))(A:kb b H y)(C:∀x,kb b H' x->kb b H x\/w0.heap.size<=x):KS w0 b H0 w' H':=
 ⟨z.os.trans h.os,z.tape.trans h.tape,z.output.trans h.output,bi h.size z.size,λx j u=>(z.block x (pu j h.size) (λe=>by have e' : x=y:=aM e;rw[<-e']at A;exact(h.sn x A).elim u (λD=>absurd j (DV.2 D)))).trans (h.keep x j u),λx j=>(C x j).elim (h.sn x) .inr⟩
theorem lD.lt{H:MH}{e:Int}(h:lD w B b H e):b<w.heap.size:=h.blk.lt
theorem lD.bs{H:MH}{e:Int}(h:lD w B b H e):B<=w.heap.size:=bi h.ge (rU h.lt)
theorem lD.below{H:MH}{e:Int}(h:lD w B b H e)(j:Below w.heap.size w w'):lD w' B b H e:=⟨h.blk.ext j,h.ge,h.ma.below j,h.tz⟩
theorem jf{n:Nat}(h:Own w B e sz (.slice a n c) n xs){x:Nat}(j:oB a=some x):B<=x/\∃cs,aG w x cs e:=by
 rw[<-jF a n c]at j;exact⟨h.ge x j,mQ h x j⟩
theorem lD.kb_ge{H:MH}{e:Int}(h:lD w B b H e){x:Nat}(j:kb b H x):B<=x:=by
 rcases j with j|j|j|j
 ·rw[j];exact h.ge
 ·exact(jf h.ma.fr j).1
 ·exact(jf h.ma.ca j).1
 ·exact(jf h.ma.sp j).1
theorem lD.kb_T{H:MH}{e:Int}(h:lD w B b H e){x:Nat}(j:kb b H x):∃cs T,aG w x cs T/\(T=109\/T=66\/T=122\/T=76):=by
 rcases j with j|j|j|j
 ·rw[j];exact⟨_,_,h.blk,.inl rfl⟩
 ·obtain⟨cs,u⟩:=(jf h.ma.fr j).2;exact⟨cs,_,u,.inr (.inl rfl)⟩
 ·obtain⟨cs,u⟩:=(jf h.ma.ca j).2;exact⟨cs,_,u,.inr (.inr (.inl rfl))⟩
 ·obtain⟨cs,u⟩:=(jf h.ma.sp j).2;exact⟨cs,_,u,.inr (.inr (.inr rfl))⟩
theorem KS.to{u H:MH}{e:Int}(h:lD w0 B b u e)(j:KS w0 b u w H)(A:B0<=B):Below B0 w0 w:=
 ⟨j.os,j.tape,j.output,j.size,λx z=>j.keep x (by have:=h.bs;omega) (λy=>by have:=h.kb_ge y;omega)⟩
theorem KS.blk{x:Nat}{y H:MH}{e:Int}(F:KS w0 b y w H)(h:lD w0 B b y e)(u:aG w0 x cs T)(G:T≠109/\T≠66/\T≠122/\T≠76):aG w x cs T:=by
 refine(F.keep x u.lt λE => ?_).trans u;obtain⟨cs',T',j,I⟩:=h.kb_T E;unfold aG at u j;rw[u]at j;simp only[jo,uj]at j;obtain⟨D,C,A,z⟩:=G;rcases I with e|e|e|e
 ·exact D (j.2.1.trans e)
 ·exact C (j.2.1.trans e)
 ·exact A (j.2.1.trans e)
 ·exact z (j.2.1.trans e)
theorem KS.blkN{x:Nat}{j H:MH}(y:KS w0 b j w H)(h:aG w0 x cs T)(u:¬kb b j x):aG w x cs T:=(y.keep x h.lt u).trans h
theorem KS.own{y H:MH}{e:Int}{n:Nat}(A:KS w0 b y w H)(h:lD w0 B b y e)(u:Own w0 B' t sz v n xs)(D:t≠109/\t≠66/\t≠122/\t≠76):Own w B' t sz v n xs:=
 ⟨u.1,u.2.imp id λ⟨g,off,j,cur,z,E,C,r⟩=>⟨g,off,j,cur,z,E,A.blk h C D,r⟩⟩
theorem tT.keepK{H:MH}{e:Int}(h:lD w B b H e)(j:w.grownBy w' (some b)):tT w' B H:=h.ma.keep h.blk (by decide) j
theorem lD.setM{H:MH}{e:Int}(h:lD w B b H e){m:Mem}(u:Own w B 66 13 (.slice a m.fs.length c) m.fs.length (m.fs.flatMap ni))(y:aG w' b (bH (rD H e) 0 [.slice a m.fs.length c,.int .i64 m.hand]) 109)(j:w.grownBy w' (some b)) :
  lD w' B b { H with af:=a,cf:=c,m:=m } e:=
 ⟨y,h.ge,{ tT.keepK h j with fr:=ax u h.blk j },h.tz⟩
theorem lD.setL{H:MH}{e:Int}(h:lD w B b H e)(u:Own w B 3 1 (.slice a l.length c) l.length (l.map gF))(y:aG w' b (bH (rD H e) 2 [.slice a l.length c]) 109)(j:w.grownBy w' (some b)) :
  lD w' B b { H with asl:=a,csl:=c,sl:=l } e:=
 ⟨y,h.ge,{ tT.keepK h j with sl:=ax u h.blk j },h.tz⟩
theorem lD.setW{H:MH}{e:Int}(h:lD w B b H e)(u:mZ w B (.slice a d.blocks.length c) (.slice a' d.queue.length c') d)(y:aG w' b (bH (rD H e) 3 [.slice a d.blocks.length c,.slice a' d.queue.length c']) 109)(j:w.grownBy w' (some b)) :
  lD w' B b { H with wb:=a,cwb:=c,wq:=a',cwq:=c',sw:=d } e:=
 ⟨y,h.ge,{ tT.keepK h j with sw:=u.keep h.blk (by decide) (by decide) j },h.tz⟩
theorem lD.setD{H:MH}{e:Int}(h:lD w B b H e)(u:mZ w B (.slice a d.blocks.length c) (.slice a' d.queue.length c') d)(y:aG w' b (bH (rD H e) 5 [.slice a d.blocks.length c,.slice a' d.queue.length c']) 109)(j:w.grownBy w' (some b)) :
  lD w' B b { H with db:=a,cdb:=c,dq:=a',cdq:=c',dk:=d } e:=
 ⟨y,h.ge,{ tT.keepK h j with dk:=u.keep h.blk (by decide) (by decide) j },h.tz⟩
theorem lD.setS{H:MH}{e:Int}(h:lD w B b H e){j:List PF}{k:Int}(y:rC w B (.slice a j.length c) j)(hk : -9223372036854775808<=k/\k<=9223372036854775807)(z:aG w' b (bH (rD H e) 7 [.slice a j.length c,.int .i64 k]) 109)(u:w.grownBy w' (some b)) :
  lD w' B b { H with ai:=a,ci:=c,fi:=j,ct:=k } e:=
 ⟨z,h.ge,{ tT.keepK h u with st:=y.keep h.blk (by decide) (by decide) u,c64:=hk },h.tz⟩
theorem lD.setE{H:MH}{e e' : Int}(h:lD w B b H e)(u:aG w' b (bH (rD H e) 11 [.int .i64 e']) 109)(j:w.grownBy w' (some b)):lD w' B b H e':=
 ⟨u,h.ge,tT.keepK h j,h.tz⟩
def KR(w:World)(B b:Nat)(H:MH)(w' : World)(k:Kp):Prop:=∃H' e',lD w' B b H' e'/\KS w b H w' H'/\Kp.mk H'.ma e' = k
theorem Dt{H H' : MH}(u:H'.af=H.af)(h2:H'.ac=H.ac)(j:H'.ap=H.ap){x:Nat}(h:kb b H' x):kb b H x:=by
 unfold kb at h ⊢; rw[u,h2,j]at h;exact h
theorem KS.putB{H0 H H' : MH}(h:KS w0 b H0 w H)(u:w.grownBy w' (some b))(z:H'.af=H.af)(h2:H'.ac=H.ac)(y:H'.ap=H.ap):KS w0 b H0 w' H':=
 h.put u (.inl rfl) λx j => .inl (Dt z h2 y j)
theorem KS.putF{H0 H H' : MH}{n:Nat}(h:KS w0 b H0 w H)(y:w.grownBy w' (some b))(u:Own w B' t sz (.slice H'.af n c) n xs)(z:w0.heap.size<=B')(h2:H'.ac=H.ac)(A:H'.ap=H.ap):KS w0 b H0 w' H':=
 h.put y (.inl rfl) λx j=>by
  rcases j with j|j|j|j
  ·exact .inl (.inl j)
  ·exact .inr (bi z (jf u j).1)
  ·exact .inl (.inr (.inr (.inl (by rw[<-h2];exact j))))
  ·exact .inl (.inr (.inr (.inr (by rw[<-A];exact j))))
theorem NY{row:Option Nat}(h:Below w.heap.size w w1)(j:w1.grownBy w2 row):w.grownBy w2 row:=
 ⟨j.os.trans h.os,j.tape.trans h.tape,j.output.trans h.output,bi h.size j.size,λk u y=>(j.block k (pu u h.size) y).trans (h.block k u)⟩
def Kk(k B:Nat)(T:TypeId)(R:mP):wX:=⟨λy w => ∃g cc,y k = .pointer (some ⟨g,0,none⟩)/\B<=g/\aG w g cc T/\R.r (.agg cc) w,[k],
 λy w w' hb ⟨g,cc,h1,h2,h3,h4⟩=>⟨g,cc,h1,h2,h3.ext hb,R.st _ _ _ hb h4⟩,λy y' w h ⟨g,cc,h1,h2⟩=>⟨g,cc,by rw[<-h k (bC.2 rfl)];exact h1,h2⟩⟩
theorem bV(h:cs.all (·.oneCell')=true):∀u∈cs.toList,u.oneCell' = true:=by
 rw[<-mD,fD]at h;exact h
theorem rX(H:MH):H.ma.sp.length=H.sp.length:=eQ _
theorem Ag{l:List Cc}(h:eu w a (l.flatMap iL))(k:Nat)(j:k<l.length):∃b off,a=some ⟨b,off,none⟩/\eu w (some ⟨b,off+k*3,none⟩) (iL l[k]):=jO jb h k j
theorem oo(e:Int):jr e 0=e:=by unfold jr;split<;>simp_all
theorem Sy{e:Int}(h:e≠0)(j:Int):jr e j=e:=by unfold jr;rw[if_neg h]
theorem lD.rdM{H:MH}{e:Int}(h:lD w B b H e):eu w (some ⟨b,0,none⟩) [.slice H.af H.m.fs.length H.cf,.int .i64 H.m.hand]:=bF h.blk 0 2
theorem lD.rdW{H:MH}{e:Int}(h:lD w B b H e):eu w (some ⟨b,3,none⟩) [.slice H.wb H.sw.blocks.length H.cwb,.slice H.wq H.sw.queue.length H.cwq]:=bF h.blk 3 2
theorem lD.rdD{H:MH}{e:Int}(h:lD w B b H e):eu w (some ⟨b,5,none⟩) [.slice H.db H.dk.blocks.length H.cdb,.slice H.dq H.dk.queue.length H.cdq]:=bF h.blk 5 2
theorem lD.rdS{H:MH}{e:Int}(h:lD w B b H e):eu w (some ⟨b,7,none⟩) [.slice H.ai H.fi.length H.ci,.int .i64 H.ct]:=bF h.blk 7 2
theorem sV(H:MH)(e j:Int)(B b:Nat)(w:World)(h:lD w B b H e) :
  Calls Tryz.prog 138 #[.pointer (some ⟨b,0,none⟩),.int .i64 j] w λr w'=>r = .returned (.tuple #[])/\lD w' B b H (jr e j)/\w.grownBy w' (some b):=by
 have z:=h.blk.cell;have D:=h.blk.free;unfold rD at z;go_enter func138,ntmps138
 by_cases y:e=0
 ·have u:=aD w b 11 [.int .i64 j];have A:=h.blk.setCells [.int .i64 j] 11;have a:Hid (jr e j=j):=ae (by unfold jr;rw[if_pos y]);have C:=ae h;clear h;go_wp2;simp[bodyPost,results,go_sem,results138];rw[a.out];exact⟨C.out.setE A u,u⟩
 go_wp2;simp[bodyPost,results,go_sem,results138];rw[Sy y];exact⟨h,Jf _ _⟩
theorem Tw(H:MH)(e f n:Int)(B b:Nat)(w:World)(h:lD w B b H e) :
  Calls Tryz.prog 94 #[.pointer (some ⟨b,0,none⟩),.int .i64 f,.int .i64 n] w λr w'=>r = .returned (.tuple #[])/\∃H' e',lD w' B b H' e'/\KS w b H w' H'/\Kp.mk H'.ma e' = gH ⟨H.ma,e⟩ f n/\H'.sp=H.sp:=by
 go_enter func94,ntmps94
 go_wp2_with (refine ay b 0 _ h.rdM _ underlying32 rfl mem_size ?_)
 refine(QY H.m f n _ _ _ h.ma.rd.fr).mono ?_;rintro r w1 ⟨M,rfl,A,l⟩;obtain⟨I,G,rfl,_⟩:=Bn A;have p:=ae h.bs;have F:=h.below l;have E:=(KS.refl w b H).below l
 go_wp2_with (refine aJ rfl rfl #[.slice I (lX H.m f n).fs.length G,.int .i64 (lX H.m f n).hand] rfl rfl rfl mem_size (iR _ _ _ _) ?_)
 intro w2 c g;have h2:=F.below c;have D:=E.below c;have j:=A.below c;clear F E A c
 go_wp2_with fail
 refine(sV _ e (oI H.m f n) _ _ _ h2).mono ?_;rintro r L ⟨rfl,u,a⟩;have C:=D.putB a rfl rfl rfl;have i:=ax j h2.blk a;have d:=cB g h2.blk a;clear h2 D j g a
 by_cases y:oI H.m f n=0
 ·rw[y,oo]at u;have z:Hid (gH ⟨H.ma,e⟩ f n=⟨{ H.ma with m:=lX H.m f n },e⟩):=ae (by unfold gH;exact if_pos y);have N:=d.cell;clear h;rw[y]
  go_wp2_with (first | (refine ay _ 0 [.slice I (lX H.m f n).fs.length G,.int .i64 (lX H.m f n).hand] (bF d 0 2) _ underlying32 rfl mem_size ?_) | (refine gD rfl _ _ _ rfl b 0 _ rfl rfl _ _ u.blk (by show 0+2<=12;decide) mem_size (iR _ _ _ _) ?_))
  intro K o k;have J:=u.setM (i.mono p.out) o k;go_wp2;simp[bodyPost,results,go_sem,results94];rw[z.out];exact⟨_,_,J,C.putF k i (az _) rfl rfl,rfl,rfl⟩
 have z:Hid (gH ⟨H.ma,e⟩ f n=⟨H.ma,jr e (oI H.m f n)⟩):=ae (by unfold gH;exact if_neg y);go_wp2;simp[bodyPost,results,go_sem,results94];rw[z.out];exact⟨_,_,u,C,rfl,rfl⟩
theorem xX(H:MH)(e f n:Int)(B b:Nat)(w:World)(h:lD w B b H e) :
  Calls Tryz.prog 94 #[.pointer (some ⟨b,0,none⟩),.int .i64 f,.int .i64 n] w λr w'=>r = .returned (.tuple #[])/\KR w B b H w' (gH ⟨H.ma,e⟩ f n):=
 (Tw H e f n B b w h).mono λr w' ⟨h1,H',e',h2,h3,h4,_⟩=>⟨h1,H',e',h2,h3,h4⟩
theorem bN{y:Operand}{n:Nat}{k:IntKind}(D:o.op = .indexAddr t x y)(A:ρ x = .slice (some ⟨b,off,none⟩) n c)(z:ρ y = .int k (i:Int))(E:i<n)
 (C:P.underlying t=some (.slice e)) (u:(P.info? e).map (·.size)=some sz):(execOp ρ o).run P w = .ok (.value (.pointer (some ⟨b,off+i*sz,none⟩))) w:=by
 obtain⟨j,a,d⟩:∃j,P.info? e=some j/\j.size=sz:=by
  cases h:P.info? e with
  | none=>rw[h]at u;cases u
  | some j=>rw[h]at u;exact⟨j,rfl,by simpa using u⟩
 have f:(Go.sizeOf e).run P w = .ok sz w:=by simp[Go.sizeOf,typeInfo,a,go_sem,d]
 simp[execOp,go_sem,D,A,z,C,f,E]
theorem nJ{o:Nat}(h:eu w (some ⟨b,o,none⟩) vs)(d n:Nat):eu w (some ⟨b,o+d,none⟩) ((vs.drop d).take n):=by
 intro i u j;rw[mE]at j;split at j
 ·rw[qY]at j;obtain⟨A,z,e,y⟩:=h (d+i) u j;cases e;exact⟨_,_,rfl,by rw[ng];exact y⟩
 ·cases j
theorem vO{o:Nat}(r:List Value)(h:cur[o]?=some v):bH cur o (v::r)=bH cur (o+1) r:=by
 have:cur.setIfInBounds o v=cur:=by
  apply mI;intro i;rw[BC]
  by_cases e:o=i
  ·subst e;rw[if_pos rfl,if_pos (iV.1 h).1,h]
  ·rw[if_neg e]
 show bH (cur.setIfInBounds o v) (o+1) r=_;rw[this]
theorem yY{n:Nat}(h:Own w B e sz (.slice (some ⟨g,off,none⟩) n c) n xs)(C:aG w g cur e):∀j u,xs[j]?=some u->cur[off+j]?=some u:=by
 rcases h.2 with⟨G,_⟩|⟨H,A,D,y,E,_,z,_,_,_,F⟩
 ·cases G
 cases E;have:cur=y:=by unfold aG at C z;rw[C]at z;simpa using z
 subst this;exact F
theorem lD.setT{H:MH}{e:Int}(h:lD w B b H e){P:PS}(C:H.sp[p]?=some P) :
  ∃g off cur,H.ap=some ⟨g,off,none⟩/\B<=g/\aG w g cur 76/\off+p*10+2+8<=cur.size/\eu w (some ⟨g,off+p*10,none⟩) (ug P) /\
   ∀(w' : World) (v:Vector Value 8) (t:Tb),sM w B (nT v) t->Gq t->aG w' g (bH cur (off+p*10+2) (nT v).toList) 76->w.grownBy w' (some g)->lD w' B b { H with sp:=H.sp.set p { P with ts:=v,tb:=t } } e:=by
 have E:=(bZ.1 C).1;have o:=(bZ.1 C).2;obtain⟨g,off,L,cur,D,J,a,r,k⟩:=nP oU rfl h.ma.sp p E;simp only[lU]at D;obtain⟨l,_,s⟩:=D;have i:=h.ma.sp;rw[l]at i;have d:=yY i a;have f:∀j u,(ug P)[j]?=some u->cur[off+p*10+j]?=some u:=λj u A=>by rw[ng];exact d _ _ (flat_get ug 10 oU H.sp p E j u (by rw[o];exact A))
 refine⟨g,off,cur,l,J,a,by omega,λj u A=>⟨g,_,rfl,by rw[a.cell];exact f j u A⟩,λw' v t I m F y => ?_⟩;have K:bH cur (off+p*10) (ug { P with ts:=v,tb:=t })=bH cur (off+p*10+2) (nT v).toList:=by show bH cur (off+p*10) (.bool P.lv :: .slice P.aa P.ar.length P.ac::(nT v).toList)=_;rw[vO _ (by simpa using f 0 _ rfl),vO _ (f 1 _ rfl)]
 rw[<-K]at F;have c:(H.sp.set p { P with ts:=v,tb:=t }).length=H.sp.length:=bI;have n:b≠g:=λe=>by have G:=h.blk;subst e;unfold aG at G a;rw[G]at a;simp only[jo,uj]at a;exact absurd a.2.1 (by decide)
 refine⟨?_,h.ge,⟨ax h.ma.fr a y,ax h.ma.sl a y,h.ma.sw.keep a (by decide) (by decide) y,h.ma.dk.keep a (by decide) (by decide) y,h.ma.st.keep a (by decide) (by decide) y,ax h.ma.ca a y,?_,λq z => ?_,h.ma.c64⟩,λq z => ?_⟩
 ·have:rD { H with sp:=H.sp.set p { P with ts:=v,tb:=t } } e=rD H e:=by unfold rD;simp only[c]
  rw[this];exact h.blk.grown y (λe=>n (aM e).symm)
 ·simp only[c];exact k w' _ F
 ·rcases lS z with z|rfl
  ·exact⟨ax (h.ma.ps q z).1 a y,(h.ma.ps q z).2.keep a (by decide) y⟩
  ·exact⟨ax (h.ma.ps P (bP C)).1 a y,I.keep a (by decide) y⟩
 rcases lS z with z|rfl
 ·exact h.tz q z
 ·exact m
theorem qa{H:MH}{P:PS}(h:H.sp[p]?=some P):dI H.ma p=P.sp:=by
 unfold dI MH.ma;simp only;rw[aW,jd,h];rfl
theorem OL{H:MH}{P:PS}(h:H.sp[p]?=some P)(v:Vector Value 8)(t:Tb):MH.ma { H with sp:=H.sp.set p { P with ts:=v,tb:=t } }=setTb H.ma p t:=by
 unfold setTb;rw[qa h];unfold MH.ma;simp only[AB];rfl
theorem Ug{v:Vector Value 8}{t:Tb}(h:FZ w (nT v) t):∀u∈(nT v).toList,u.oneCell' = true:=by
 have:=h.one;rw[<-mD,fD]at this;exact this
theorem VW{t:Tb}{e:En}:Gq (setT t n e):=by
 by_cases h:setE t n e=0
 ·exact KX (qf h)
 ·rw[xA h];exact KX zTb_right
def PX(B:Nat)(t:Tb)(n:Int)(x:En):mP:=⟨λv w => ∃cs,v = .tuple #[.agg cs,.int .i64 (setE t n x)]/\sM w B cs (setT t n x),λ_ _ _ hb ⟨cs,h1,h2⟩=>⟨cs,h1,h2.below hb⟩⟩
def KA(B:Nat)(t:Tb):mP:=⟨λv w => ∃cs,v = .agg cs/\sM w B cs t,λ_ _ _ hb ⟨cs,h1,h2⟩=>⟨cs,h1,h2.below hb⟩⟩
theorem jl(H:MH)(e n:Int)(p:Nat)(x:En)(B b:Nat)(w:World)(h:lD w B b H e)(Y:p<H.sp.length) :
  Calls Tryz.prog 92 #[.pointer (some ⟨b,0,none⟩),.int .i64 p,.int .i64 n,.agg (jm x)] w λr w'=>r = .returned (.tuple #[])/\KR w B b H w' (fo ⟨H.ma,e⟩ p n x):=by
 obtain⟨P,L⟩:∃P,H.sp[p]?=some P:=⟨_,aI Y⟩;have hE:=ae (qa L);have hT:=ae h.bs;have hL:=bP L;go_enter func92,ntmps92;go_upto_region 1 with(fail);refine iC (λW=>Code.wp _ _ _ _ W) λw1 N hD hN => ?_;have G:=h.below N;have s1:=(KS.refl w b H).below N;clear h hN;obtain⟨g,off,cur,o,hM,u,t,hj,s⟩:=G.setT L;refine kv 18 [_,_,_,_,_,_,_,_,_,_,_,.r 11 ((PX w1.heap.size P.tb n x)),.r 12 ((PX w1.heap.size P.tb n x)),.r 13 ((KA w1.heap.size (setT P.tb n x))),.v (.int .i64 (setE P.tb n x)),.r 15 ((iP w1.heap.size 74 8)),.y 16 ((Kk 15 w1.heap.size 74 (KA w1.heap.size (setT P.tb n x)))),.v (.int .i64 (setE P.tb n x))] (λW=>Below w1.heap.size w1 W) dV (Below.refl _ _) (Yk dV rfl (Yk dV rfl (Yf dV b 0 rfl rfl (Yf dV b 10 rfl rfl (Yc dV (.slice (some ⟨g,off,none⟩) H.sp.length H.cp) (λW A=>by simp[(G.below A).blk.cell,rD,o]) rfl rfl rfl rfl (Yk dV rfl (Yr dV (.pointer (some ⟨g,off+p*10,none⟩)) (λρ y W A a=>(bN rfl (aH rfl a) (aH rfl a) Y underlying43 space_size)) rfl rfl (Yf dV g (off+p*10+2) rfl rfl (Yr dV (.agg (nT P.ts)) (λρ y W A a=>(bJ rfl (aH rfl a) (nJ (hj.below A) 2 8) underlying74 (C:=tab_agg) (A:=tab_size))) rfl rfl (Yk dV rfl (Yr dV (.agg (jm x)) (λρ y W A a=>(dG rfl (aH rfl a) (hD.ext A) underlying68 entry_size)) rfl rfl (ah ?_ (ah ?_ (ah ?_ (ah ?_ (ah ?_ (ah ?_ (Yk dV rfl (aF))))))))))))))))))) (λ_=>rfl) rfl ?_
 ·intro ρ y W C F A D;refine iW dV A ((PX w1.heap.size P.tb n x)) (λ_ _ h=>h) ?_;have h5:=C 19 8 rfl;have h8:y 8=_:=D 8 rfl;have h4:=C 20 9 rfl;have h9:y 9=_:=D 9 rfl;have h3:=C 21 10 rfl;have hX:y 10=_:=D 10 rfl;have EF:=eF0 F λ_=>trivial;refine aP (aS rfl (EF _) func137 (by simp only[bU,bS,aZ,h5,h8,h4,h9,h3,hX,EF];rfl)) ?_;refine(SH P.tb (nT P.ts) n x W (((G.below A).ma.ps P hL).2.rd) (G.tz P hL)).mono ?_;rintro r I ⟨cs,rfl,M,hS⟩;exact⟨_,rfl,hS,cs,rfl,M.mono A.size⟩
 ·intro ρ y W C F A D;refine iW dV A ((PX w1.heap.size P.tb n x)) (λ_ _ h=>h) ?_;have hZ:=C 22 11 rfl;have hW:=D 11 rfl;refine ak _ (run_move (.inl rfl) hZ) (m:=?_);exact hW
 ·intro ρ y W C F A D;refine iW dV A ((KA w1.heap.size (setT P.tb n x))) (λ_ _ h=>h) ?_;have S:=C 10 12 rfl;have U:=D 12 rfl;obtain⟨cs,V,M⟩:=U;refine ak (.agg cs) (by simp[execOp,go_sem,bW,S,V]) (m:=?_);exact⟨cs,rfl,M⟩
 ·intro ρ y W C F A D;refine iW dV A (mW (.int .i64 (setE P.tb n x))) (λ_ _ h=>h) ?_;have S:=C 10 12 rfl;have U:=D 12 rfl;obtain⟨cs,V,M⟩:=U;refine ak (.int .i64 (setE P.tb n x)) (by simp[execOp,go_sem,bW,S,V])
 ·intro ρ y W C F A D;refine iW dV A ((iP w1.heap.size 74 8)) (λ_ _ h=>h) ?_;refine jg (.pointer (some ⟨W.heap.size,0,none⟩)) (aj) (by simp[execOp,go_sem,bW]) ((Below.refl _ _).alloc (az _) (.cells #[.slice none 0 0,.slice none 0 0,.slice none 0 0,.slice none 0 0,.slice none 0 0,.slice none 0 0,.slice none 0 0,.slice none 0 0] 74)) ?_;exact⟨_,_,rfl,A.size,aG.new _ _ _,rfl⟩
 ·intro ρ y W C F A D;have E8:=C 8 15 rfl;have hU:=D 15 rfl;have hY:=C 23 13 rfl;have hV:=D 13 rfl;obtain⟨cc,e7,hl⟩:=hV;obtain⟨g3,E,e9,hJ,m,hF⟩:=hU;have j:=hl.sz;refine mH _ _ _ rfl g3 0 (.agg cc) cc.toList (E8.trans e9) (hY.trans e7) rfl E _ m (by rw[jk,hF,j];exact az _) (by rw[jk,j];exact tab_size) (bV hl.rd.one) ?_;intro w1 hh l;rw[gK E cc (by rw[hF,j])]at hh;refine⟨A.grown l A.size (λk hk=>by cases hk;exact hJ),⟨g3,cc,e9,hJ,hh,⟨cc,rfl,hl.keep m (by decide) l⟩⟩,?_⟩;intro k hk hO
  match k,hk,hO with
  | 0,_,_|1,_,_|2,_,_|3,_,_|4,_,_|5,_,_|6,_,_|7,_,_|8,_,_|9,_,_|10,_,_=>exactλh=>h
  | 11,_,_|12,_,_|13,_,_=>exactλ⟨c,q1,q2⟩=>⟨c,q1,q2.keep m (by decide) l⟩
  | 14,_,_=>exactλh=>h
  | 15,_,_=>exactλq=>lh q hh (z:=(λ_=>j)) ⟨_,m⟩ l
  | 16,_,h=>exact absurd rfl h
  | 17,_,_=>exactλh=>h
  | n+18,h,_=>exact absurd h (by omega)
 intro y I i d;replace i:Below w1.heap.size w1 I:=i;have hB:((PX w1.heap.size P.tb n x)).r (y 11) I:=d 11 (by decide);have hA:((PX w1.heap.size P.tb n x)).r (y 12) I:=d 12 (by decide);have hz:((KA w1.heap.size (setT P.tb n x))).r (y 13) I:=d 13 (by decide);have hv:((iP w1.heap.size 74 8)).r (y 15) I:=d 15 (by decide);have hu:=d 16 (by decide);clear d;simp only[dn,bW,bS,aZ];obtain⟨gx,cs2,h7,hH,hK,ca2,hf,Z⟩:=hu;simp only[yQ]at hf;subst hf;obtain⟨R,rfl⟩:=SI Z.sz;have h2:=G.below i;have s2:=s1.below i;have hI:=ae N.size;clear hB hA hz hv s hj u t o G s1 hD hM N cur
 go_wp2_with fail
 refine(sV _ e (setE P.tb n x) _ _ _ h2).mono ?_;rintro r w3 ⟨rfl,K,z⟩;have s3:=s2.putB z rfl rfl rfl;have hG:=Z.keep h2.blk (by decide) z;have hC:=cB hK h2.blk z;have hM:=ae hH;clear h2 s2 Z hK z i hH;have hi:Hid (setE (dI H.ma p).tb n x=setE P.tb n x):=ae (by rw[hE.out];rfl)
 by_cases O:setE P.tb n x=0
 ·rw[O,oo]at K;have X:Hid (fo ⟨H.ma,e⟩ p n x=⟨setTb H.ma p (setT P.tb n x),e⟩):=ae (by unfold fo;simp only;rw[if_pos (hi.out.trans O),hE.out];rfl);obtain⟨g,off,cur,o,h6,u,t,hj,s⟩:=K.setT L;have hx:=hC.cell;have J:=K.blk.cell;unfold rD at J;rw[o]at J;rw[O];go_upto_region 4 with(fail);refine aO 9 [_,_,_,_,_,_,_,_,_] (Gk rfl (Gk rfl (Gf b 0 rfl rfl (Gf b 10 rfl rfl (Gc (.slice (some ⟨g,off,none⟩) H.sp.length H.cp) (λW A=>by simp[(K.below A).blk.cell,rD,o]) rfl rfl rfl rfl (Gk rfl (Gr (.agg (nT R)) (λρ y W A a=>(bJ rfl (aH rfl a) ((hC.ext A).rd) underlying74 (C:=tab_agg) (A:=tab_size))) rfl rfl (Gr (.pointer (some ⟨g,off+p*10,none⟩)) (λρ y W A a=>(bN rfl (aH rfl a) (aH rfl a) Y underlying43 space_size)) rfl rfl (Gf g (off+p*10+2) rfl rfl (aF)))))))))) (λ_=>rfl) rfl ?_;intro y W4 hg _
  go_wp2_with (refine gD rfl _ _ _ rfl g (off+p*10+2) (nT R) rfl rfl _ _ (u.ext hg) t tab_size (by rw[<-mD,fD];exact Ug hG.rd) ?_)
  intro w5 hR hQ;have hc:=NY hg hQ;have k5:=s w5 R (setT P.tb n x) (hG.mono (bi hT.out hI.out)) VW hR hc;go_wp2;simp[bodyPost,results,go_sem,results92];rw[X.out];refine⟨_,_,k5,s3.put hc (.inr (.inr (.inr (by rw[o];rfl)))) λy hy => .inl (Dt rfl rfl rfl hy),?_⟩;rw[OL L]
 have X:Hid (fo ⟨H.ma,e⟩ p n x=⟨H.ma,jr e (setE P.tb n x)⟩):=ae (by unfold fo;simp only;rw[if_neg (by rw[hi.out];exact O),hi.out]);go_wp2;simp[bodyPost,results,go_sem,results92];rw[X.out];exact⟨_,_,K,s3,rfl⟩
theorem slots_size:(Tryz.prog.info? 34).map (·.size)=some 1:=by kernel_rfl
def Db(B:Nat)(T:TypeId)(sz n:Nat)(xs:List Value)(er:Int):mP:=⟨λv w => ∃u,v = .tuple #[u,.int .i64 er]/\Own w B T sz u n xs,λ_ _ _ hb ⟨u,h1,h2⟩=>⟨u,h1,h2.below hb⟩⟩
theorem lD.at{w:World}{B b:Nat}{H:MH}{e:Int}(h:lD w B b H e){p:Nat}{P:PS}(j:H.sp[p]?=some P):∃g off,H.ap=some ⟨g,off,none⟩/\eu w (some ⟨g,off+p*10,none⟩) (ug P)/\eu w (some ⟨g,off+p*10+2,none⟩) (nT P.ts).toList/\P.good w:=by
 have y:=(bZ.1 j).1;obtain⟨g,off,A,z,a,u⟩:=qN h.ma.rd.sp.rd p y;rw[j]at a;cases a;exact⟨g,off,z,u,nJ u 2 8,h.ma.rd.ps P (bP j)⟩
theorem KR.trans{u j:MH}{k:Kp}(h:KS w0 b u w1 j)(y:KR w1 B b j w2 k):KR w0 B b u w2 k:=by
 obtain⟨D,C,A,h2,z⟩:=y;exact⟨D,C,A,h.trans h2,z⟩
theorem BR(H:MH)(e n:Int)(p:Nat)(B b:Nat)(w:World)(h:lD w B b H e)(R:p<H.sp.length) :
  Calls Tryz.prog 95 #[.pointer (some ⟨b,0,none⟩),.int .i64 p,.int .i64 n] w λr w'=>r = .returned (.tuple #[])/\KR w B b H w' (jV ⟨H.ma,e⟩ p n):=by
 obtain⟨P,hP⟩:∃P,H.sp[p]?=some P:=⟨_,aI R⟩;have hs:=ae (qa hP);obtain⟨g,off,hE,ht,hh,d⟩:=h.at hP;have hc:=h.blk.cell;unfold rD at hc;rw[hE]at hc;have hL:(p:Int)<(H.sp.length:Int):=by omega
 go_enter func95,ntmps95
 go_wp2_with (refine ay g (off+p*10+2) _ hh _ underlying74 tab_agg tab_size ?_)
 refine(xG P.tb (nT P.ts) n _ d.tb).mono ?_;rintro r w1 ⟨rfl,hf⟩;have h1:=h.below hf;have s1:=(KS.refl w b H).below hf;clear hc ht hh d;generalize hx:dM P.tb n=x
 go_wp2_with (refine aJ rfl rfl (jm x) rfl rfl rfl entry_size (by simp[jm,Value.oneCell']) ?_)
 intro w2 ha o;have h2:=h1.below ha;have L:=s1.below ha;clear h1 s1 hf ha h;have i:=o.cell;unfold jm at i;have t:Hid (dM (dI H.ma p).tb n=x):=ae (by rw[hs.out];exact hx);clear hx
 by_cases A:x.k=1
 ·have I:Hid (jV ⟨H.ma,e⟩ p n=fo (gH ⟨H.ma,e⟩ x.n (-1)) p n zEn):=ae (by unfold jV;simp only[t.out];rw[if_pos A]);have hJ:=ae A;rw[A]at i;clear A
  go_wp2_with fail
  refine(xX H e x.n (-1) B b _ h2).mono ?_;rintro r w3 ⟨rfl,H3,e3,h3,K,X⟩;have hz:H3.sp.length=H.sp.length:=by
   have e1:H3.ma.sp=H.ma.sp:=by have:=congrArg (λk=>k.m.sp) X;simp only at this;rw[this];unfold gH;split<;>rfl
   have:=congrArg List.length e1;unfold MH.ma at this;simpa using this
  have V:=L.trans K;have hv:=ae X;clear X K i
  go_wp2_with fail
  refine(jl H3 e3 n p zEn B b _ h3 (by rw[hz];exact R)).mono ?_;rintro r w4 ⟨rfl,hA⟩;go_wp2;simp[bodyPost,results,go_sem,results95];rw[I.out,<-hv.out];exact KR.trans V hA
 by_cases F:x.k=2
 ·have I:Hid (jV ⟨H.ma,e⟩ p n=fo (oq ⟨H.ma,e⟩ x.n (-1)) p n zEn):=ae (by unfold jV;simp only[t.out];rw[if_neg A,if_pos F]);rw[F]at i;clear A F;have hj:=h2.blk.cell;unfold rD at hj;go_upto_region 5 with(fail);refine kv 13 [_,_,_,_,_,_,_,.r 7 ((Db w2.heap.size 3 1 (cO H.sl x.n (-1)).length ((cO H.sl x.n (-1)).map gF) (dH H.sl x.n (-1)))),.r 8 ((Db w2.heap.size 3 1 (cO H.sl x.n (-1)).length ((cO H.sl x.n (-1)).map gF) (dH H.sl x.n (-1)))),.r 9 ((nA w2.heap.size 3 1 (cO H.sl x.n (-1)).length ((cO H.sl x.n (-1)).map gF))),.v (.int .i64 (dH H.sl x.n (-1))),.r 11 ((nA w2.heap.size 3 1 (cO H.sl x.n (-1)).length ((cO H.sl x.n (-1)).map gF))),.v (.int .i64 (dH H.sl x.n (-1)))] (λW=>Below w2.heap.size w2 W) dV (Below.refl _ _) (Yk dV rfl (Yk dV rfl (Yf dV b 0 rfl rfl (Yf dV b 2 rfl rfl (Yc dV (.slice H.asl H.sl.length H.csl) (λW C=>by simp[(h2.below C).blk.cell,rD]) rfl rfl rfl rfl (Yf dV w1.heap.size 1 rfl rfl (Yc dV (.int .i64 x.n) (λW C=>by simp[(o.ext C).cell,jm]) rfl rfl rfl rfl (ah ?_ (ah ?_ (ah ?_ (ah ?_ (ah ?_ (Yk dV rfl (aF)))))))))))))) (λ_=>rfl) rfl ?_
  ·intro ρ y W D J C E;refine iW dV C ((Db w2.heap.size 3 1 (cO H.sl x.n (-1)).length ((cO H.sl x.n (-1)).map gF) (dH H.sl x.n (-1)))) (λ_ _ h=>h) ?_;have hI:=D 35 4 rfl;have h4:y 4=_:=E 4 rfl;have hH:=D 37 6 rfl;have h6:y 6=_:=E 6 rfl;have EC:∀v,ρ (.const v)=v:=λv=>J (.const v) trivial;have EF:=eF0 J λ_=>trivial;refine aP (aS rfl (EF _) func91 (by simp only[bU,bS,aZ,hI,h4,hH,h6,EC,EF];rfl)) ?_;have N:=(h2.below C).ma.rd.sl;refine(Ez H.sl H.asl H.csl x.n (-1) W N.le N.nl N.rd (by have:=N.le;have:=N.mx;unfold maxLen at this;omega)).mono ?_;rintro r G ⟨u,rfl,S,hD⟩;exact⟨_,rfl,hD,u,rfl,S.mono C.size⟩
  ·intro ρ y W D J C E;refine iW dV C ((Db w2.heap.size 3 1 (cO H.sl x.n (-1)).length ((cO H.sl x.n (-1)).map gF) (dH H.sl x.n (-1)))) (λ_ _ h=>h) ?_;have hG:=D 38 7 rfl;have h7:=E 7 rfl;refine ak _ (run_move (.inl rfl) hG) (m:=?_);exact h7
  ·intro ρ y W D J C E;refine iW dV C ((nA w2.heap.size 3 1 (cO H.sl x.n (-1)).length ((cO H.sl x.n (-1)).map gF))) (λ_ _ h=>h) ?_;have Z:=D 30 8 rfl;have h8:=E 8 rfl;obtain⟨u,M,S⟩:=h8;refine ak u (by simp[execOp,go_sem,bW,Z,M]) (m:=?_);exact S
  ·intro ρ y W D J C E;refine iW dV C (mW (.int .i64 (dH H.sl x.n (-1)))) (λ_ _ h=>h) ?_;have Z:=D 30 8 rfl;have h8:=E 8 rfl;obtain⟨u,M,S⟩:=h8;refine ak (.int .i64 (dH H.sl x.n (-1))) (by simp[execOp,go_sem,bW,Z,M])
  ·intro ρ y W D J C E;refine iW dV C ((nA w2.heap.size 3 1 (cO H.sl x.n (-1)).length ((cO H.sl x.n (-1)).map gF))) (λ_ _ h=>h) ?_;have hF:=D 39 9 rfl;have h9:=E 9 rfl;refine ak _ (run_move (.inr rfl) hF) (m:=?_);exact h9
  intro y G a c;replace a:Below w2.heap.size w2 G:=a;have hr:((Db w2.heap.size 3 1 (cO H.sl x.n (-1)).length ((cO H.sl x.n (-1)).map gF) (dH H.sl x.n (-1)))).r (y 7) G:=c 7 (by decide);have hl:((Db w2.heap.size 3 1 (cO H.sl x.n (-1)).length ((cO H.sl x.n (-1)).map gF) (dH H.sl x.n (-1)))).r (y 8) G:=c 8 (by decide);have hk:((nA w2.heap.size 3 1 (cO H.sl x.n (-1)).length ((cO H.sl x.n (-1)).map gF))).r (y 9) G:=c 9 (by decide);have l:((nA w2.heap.size 3 1 (cO H.sl x.n (-1)).length ((cO H.sl x.n (-1)).map gF))).r (y 11) G:=c 11 (by decide);clear c;simp only[dn,bW,bS,aZ];have j:Own G w2.heap.size 3 1 (y 11) (cO H.sl x.n (-1)).length ((cO H.sl x.n (-1)).map gF):=l;obtain⟨a3,c3,e7,_⟩:=Own.rd j;rw[e7]at j;simp only[e7];have Y:=h2.below a;have K:=L.below a;have hB:=ae (bi h2.bs (az _));have hK:=ae L.size;clear hr hl hk l e7 i hj h2 L o a
  go_wp2_with fail
  refine(sV _ e (dH H.sl x.n (-1)) _ _ _ Y).mono ?_;rintro r w4 ⟨rfl,O,z⟩;have s4:=K.putB z rfl rfl rfl;have hy:=ax j Y.blk z;clear Y K j z
  by_cases U:dH H.sl x.n (-1)=0
  ·rw[U,oo]at O;have q:Hid (oq ⟨H.ma,e⟩ x.n (-1)=⟨{ H.ma with sl:=cO H.sl x.n (-1) },e⟩):=ae (by unfold oq;exact if_pos U);rw[U]
   go_wp2_with (refine aC b 2 [.slice a3 (cO H.sl x.n (-1)).length c3] rfl rfl rfl _ _ O.blk (by show 2+1<=12;decide) slots_size (λu M=>by cases bC.1 M;rfl) ?_)
   intro w5 hC hi;have k5:=O.setL (hy.mono hB.out) hC hi;have s5:KS w b H w5 { H with asl:=a3,csl:=c3,sl:=cO H.sl x.n (-1) }:=s4.putB hi rfl rfl rfl
   go_wp2_with fail
   refine(jl _ e n p zEn B b _ k5 R).mono ?_;rintro r w6 ⟨rfl,s⟩;go_wp2;simp[bodyPost,results,go_sem,results95];rw[I.out,q.out];exact KR.trans s5 s
  have q:Hid (oq ⟨H.ma,e⟩ x.n (-1)=⟨H.ma,jr e (dH H.sl x.n (-1))⟩):=ae (by unfold oq;exact if_neg U)
  go_wp2_with fail
  refine(jl _ (jr e (dH H.sl x.n (-1))) n p zEn B b _ O R).mono ?_;rintro r w6 ⟨rfl,s⟩;go_wp2;simp[bodyPost,results,go_sem,results95];rw[I.out,q.out];exact KR.trans s4 s
 have I:Hid (jV ⟨H.ma,e⟩ p n=⟨H.ma,e⟩):=ae (by unfold jV;simp only[t.out];rw[if_neg A,if_neg F]);go_wp2;simp[bodyPost,results,go_sem,results95];rw[I.out];exact⟨_,_,h2,L,rfl⟩
theorem mG{a:Nat}(h:aG w a cs T)(h' : aG w b cs' T')(j:T≠T'):a≠b:=by
 rintro rfl;unfold aG at h h';rw[h]at h';simp only[jo,uj]at h';exact j h'.2.1
def EO(B:Nat)(m:Mem):mP:=⟨λv w => ∃u,v = .agg #[u,.int .i64 m.hand]/\Own w B 66 13 u m.fs.length (m.fs.flatMap ni),λ_ _ _ hb ⟨u,h1,h2⟩=>⟨u,h1,h2.below hb⟩⟩
theorem jE(l:List Cc):(l.flatMap iL).length=l.length*3:=Pw.flat_len iL 3 jb l
theorem DI(c:Cc):∀u∈iL c,u.oneCell' = true:=bV (wO c)
theorem yV(l:List Cc):∀u∈l.flatMap iL,u.oneCell' = true:=by
 intro u h;obtain⟨c,_,j⟩:=lg.1 h;exact DI c u j
def MI(B:Nat)(S:St):mP:=⟨λv w => ∃u ps k,v = .agg #[u,.int .i64 k]/\rC w B u ps/\cZ ps k=S,λ_ _ _ hb ⟨u,ps,k,h1,h2,h3⟩=>⟨u,ps,k,h1,h2.below hb,h3⟩⟩
theorem BM(l:List Cc)(x:Cc)(k:Nat):(l.take k++x::l.drop k).flatMap iL=(l.take k).flatMap iL++(iL x++(l.drop k).flatMap iL):=by simp[fM]
theorem Fu{l:List Cc}{x:Cc}{o:Nat}(y:k<=l.length)(A:∀j u,((l.take k).flatMap iL)[j]?=some u->cur[o+j]?=some u)(h2:∀j u,(iL x)[j]?=some u->cur[o+k*3+j]?=some u)
 (z:∀j u,((l.drop k).flatMap iL)[j]?=some u->cur[o+(k+1)*3+j]?=some u):∀j u,((l.take k++x::l.drop k).flatMap iL)[j]?=some u->cur[o+j]?=some u:=by
 intro j u h;have a:((l.take k).flatMap iL).length=k*3:=by rw[jE,iQ,uy y]
 rw[BM]at h
 by_cases D:j<k*3
 ·rw[kN (by omega)]at h;exact A j u h
 rw[jX (by omega),a]at h
 by_cases C:j-k*3<3
 ·rw[kN (by rw[jb];exact C)]at h;have:=h2 _ u h;rwa [show o+k*3+(j-k*3)=o+j by omega]at this
 rw[jX (by rw[jb];omega),jb]at h;have:=z _ u h;rwa [show o+(k+1)*3+(j-k*3-3)=o+j by omega]at this
theorem xC{l:List Cc}{o:Nat}(h:∀j u,(l.flatMap iL)[j]?=some u->cur[o+j]?=some u):∀j u,((l.take k).flatMap iL)[j]?=some u->cur[o+j]?=some u:=by
 intro j u y;refine h j u ?_
 conv=>lhs;rw[<-rJ k l,fM]
 rw[kN (by have:=(bZ.1 y).1;exact this)];exact y
theorem CR{l:List Cc}(y:k<=l.length){o:Nat}(h:∀j u,(l.flatMap iL)[j]?=some u->cur[o+j]?=some u):∀j u,((l.drop k).flatMap iL)[j]?=some u->cur[o+k*3+j]?=some u:=by
 intro j u z;rw[ng];refine h _ u ?_
 conv=>lhs;rw[<-rJ k l,fM]
 have a:((l.take k).flatMap iL).length=k*3:=by rw[jE,iQ,uy y]
 rw[jX (by omega),a,Aa];exact z
theorem LA{a:Act}{K:Act->World->Prop}{E:Prop}
 (A:o.guard=none) (d s:Operand) (t t' : TypeId) (h:o.op=Op.call { callee:=.builtin .append,args:=#[d,s],argTypes:=#[t,t'] }) (j vs v:Value)
 (C:a.eval d=j) (u:a.eval s=vs) (z:(Builtin.append_ #[t,t'] o.type #[j,vs]).run P w = .ok v w') (D:K (a.put o.dst v) w') :
  if Region.wanted o (yielded ops a.tmps)=true then Oper.wp P o a w K Q else E:=by
 have y:Region.wanted o (yielded ops a.tmps)=true:=by simp[Region.wanted,A]
 rw[if_pos y];unfold Oper.wp;simp[execOp,h,resolve,invoke,builtin,C,u,z,Result.andThen];exact D
theorem Fa(l:List Cc)(k:Nat):(l.eraseIdx k).flatMap iL=(l.take k).flatMap iL++(l.drop (k+1)).flatMap iL:=by rw[List.eraseIdx_eq_take_drop_succ,fM]
theorem Lx(l:List Cc)(k:Nat)(J:k<l.length)(a:Option Addr)(c B:Nat)(w:World)(G:Own w B 122 3 (.slice a l.length c) l.length (l.flatMap iL))(hl:l.length<=1000) :
  Calls Tryz.prog 200 #[.slice a l.length c,.int .i64 k,.int .i64 ((k:Int)+1)] w λe w'=>e = .returned (.slice a (l.length-1) c)/\Own w' B 122 3 (.slice a (l.length-1) c) (l.length-1) ((l.eraseIdx k).flatMap iL)/\w.grownBy w' (oB a):=by
 rcases G with⟨O,⟨_,hz⟩|⟨b,off,c',cur,U,I,H,W,E,F,C⟩⟩
 ·omega
 cases U;have t:=E;unfold maxLen at t;have v:((l.drop (k+1)).flatMap iL).length=(l.length-(k+1))*3:=by rw[jE,AA]
 have x:=CR (k:=k+1) (by omega) C;have q:∀K cc D,(∀j u,((l.drop (k+1)).flatMap iL)[j]?=some u->w.cell? (Addr.add K j)=some u)->(Builtin.append_ #[42,42] D #[.slice (some ⟨b,off,none⟩) k c,.slice (some K) (l.length-(k+1)) cc]).run Tryz.prog w.drew = .ok (.slice (some ⟨b,off,none⟩) (k+(l.length-(k+1))) c) (w.drew.setCells b (off+k*3) ((l.drop (k+1)).flatMap iL)):=by intro K cc D X;obtain⟨S,Y,hh,i,hg⟩:=info_parts cached_info;have:=run_append_room_cells (P:=Tryz.prog) w.drew 42 D 122 S underlying42 Y b off k c K (l.length-(k+1)) cc ((l.drop (k+1)).flatMap iL) (by rw[i,v]) X (λu V=>yV _ u V) (by omega) (λj A=>by rw[i,H.drew.cell];simp[show off+k*3+j<cur.size by omega]) (λj A=>H.drew.free _);rw[i]at this;exact this
 have r:k+1=l.length->((l.drop (k+1)).flatMap iL)=[]:=λh=>by rw[rA (by omega)];rfl
 obtain⟨N,M⟩:∃N,N=(l.drop (k+1)).flatMap iL:=⟨_,rfl⟩;rw[<-M]at v x q r;have R:=ae M;clear M;have hi:IntKind.i64.wrap ((k:Int)+1)=(k:Int)+1:=bK _ (by omega);have hs:(k:Int)+1<=(l.length:Int):=by omega
 have hr:(k:Int)<=(k:Int)+1:=by omega
 have hf:¬((k:Int)=(k:Int)+1):=by omega
 have ht:(0:Int)<=(k:Int)+1:=by omega
 have hm:((k:Int)+1).toNat=k+1:=by omega
 have hp:(l.length:Int)<=(c:Int):=by omega
 have hq:(k:Int)<=(c:Int):=by omega
 go_enter func200,ntmps200
 go_wp2_with fail
 by_cases L:c=k+1
 ·subst L;have z:=ae (r (by omega));clear r
  go_region_law (refine LA rfl _ _ 42 42 rfl (.slice (some ⟨b,off,none⟩) k (k+1)) (.slice (some ⟨b,off,none⟩) (l.length-(k+1)) 0) _ (by simp[Act.eval,Act.put]) (by simp[Act.eval,Act.put];omega) (q _ _ _ (λj u A=>by rw[z.out]at A;simp at A)) ?_)
  have g:=(H.drew).setCells N (off+k*3);have f:w.grownBy (w.drew.setCells b (off+k*3) N) (some b):=nY (a:=w) (b:=w.drew) (row:=some b) ⟨rfl,rfl,rfl,az _,λ_ _ _=>rfl⟩ (aD w.drew _ _ _);have o:k+(l.length-(k+1))=k:=by omega
  try rw[o]
  have s : Hid (k=l.length-1):=ae (by omega);have e4:(l.length:Int)<=(k:Int)+1:=by omega
  generalize w.drew.setCells b (off+k*3) N=W1 at *
  have y:=λD=>uV (P:=Tryz.prog) W1 42 122 D _ 3 24 underlying42 cached_info (by decide) (by decide) b (off+k*3) 1 (1) (by omega) _ _ g (by rw[size_putAt];show off+k*3+1*3<=cur.size;omega);have e1:l.length-k=1:=by omega
  have e2:((k:Nat):Int)<=(l.length:Int):=by omega
  have e3:¬((k+1)=k):=by omega
  go_wp2;go_ret;have p:=g.setCells (Builtin.zeroCells (Value.agg #[.int .i64 0,.int .i64 0,.int .i64 0]).cells 1).toList (off+k*3);have d:=nY f (aD W1 b (off+k*3) (Builtin.zeroCells (Value.agg #[.int .i64 0,.int .i64 0,.int .i64 0]).cells 1).toList);refine⟨congrArg (λn=>Ending.returned (Value.slice (some ⟨b,off,none⟩) n (k+1))) (show k=l.length-1 by omega),⟨by rw[jE,Bc J],.inr ⟨b,off,(k+1),_,rfl,I,p,by omega,E,by rw[size_putAt,size_putAt];exact F,?_⟩⟩,d⟩;intro j u A;have Z:j<(l.length-1)*3:=by have:=(bZ.1 A).1;rw[jE,Bc J]at this;exact this
  rw[putAt_out _ _ _ _ (.inl (by omega))];rw[Fa,<-R.out]at A;have m:((l.take k).flatMap iL).length=k*3:=by rw[jE,iQ,uy (by omega)]
  by_cases c1:j<k*3
  ·rw[kN (by omega)]at A;rw[putAt_out _ _ _ _ (.inl (by omega))];exact xC C j u A
  rw[jX (by omega),m]at A;have:=putAt_in _ cur (off+k*3) (j-k*3) u (by omega) A;rwa [show off+k*3+(j-k*3)=off+j by omega]at this
 go_region_law (refine LA rfl _ _ 42 42 rfl (.slice (some ⟨b,off,none⟩) k c) (.slice (some ⟨b,off+(k+1)*3,none⟩) (l.length-(k+1)) (c-(k+1))) _ (by simp[Act.eval,Act.put]) (by simp[Act.eval,Act.put]) (q _ _ _ (λj u A=>by rw[qo,H.cell];exact x j u A)) ?_)
 have g:=(H.drew).setCells N (off+k*3);have f:w.grownBy (w.drew.setCells b (off+k*3) N) (some b):=nY (a:=w) (b:=w.drew) (row:=some b) ⟨rfl,rfl,rfl,az _,λ_ _ _=>rfl⟩ (aD w.drew _ _ _);have o:k+(l.length-(k+1))=(l.length-1):=by omega
 try rw[o]
 have s : Hid ((l.length-1)=l.length-1):=ae (by omega);have e4:(l.length:Int)<=(c:Int):=by omega
 generalize w.drew.setCells b (off+k*3) N=W1 at *
 have y:=λD=>uV (P:=Tryz.prog) W1 42 122 D _ 3 24 underlying42 cached_info (by decide) (by decide) b (off+(l.length-1)*3) 1 (c-(l.length-1)) (by omega) _ _ g (by rw[size_putAt];show off+(l.length-1)*3+1*3<=cur.size;omega);have e1:l.length-(l.length-1)=1:=by omega
 have e2:(((l.length-1):Nat):Int)<=(l.length:Int):=by omega
 have e3:¬(c=(l.length-1)):=by omega
 go_wp2;go_ret;have p:=g.setCells (Builtin.zeroCells (Value.agg #[.int .i64 0,.int .i64 0,.int .i64 0]).cells 1).toList (off+(l.length-1)*3);have d:=nY f (aD W1 b (off+(l.length-1)*3) (Builtin.zeroCells (Value.agg #[.int .i64 0,.int .i64 0,.int .i64 0]).cells 1).toList);refine⟨congrArg (λn=>Ending.returned (Value.slice (some ⟨b,off,none⟩) n c)) (show(l.length-1)=l.length-1 by omega),⟨by rw[jE,Bc J],.inr ⟨b,off,c,_,rfl,I,p,by omega,E,by rw[size_putAt,size_putAt];exact F,?_⟩⟩,d⟩;intro j u A;have Z:j<(l.length-1)*3:=by have:=(bZ.1 A).1;rw[jE,Bc J]at this;exact this
 rw[putAt_out _ _ _ _ (.inl (by omega))];rw[Fa,<-R.out]at A;have m:((l.take k).flatMap iL).length=k*3:=by rw[jE,iQ,uy (by omega)]
 by_cases c1:j<k*3
 ·rw[kN (by omega)]at A;rw[putAt_out _ _ _ _ (.inl (by omega))];exact xC C j u A
 rw[jX (by omega),m]at A;have:=putAt_in _ cur (off+k*3) (j-k*3) u (by omega) A;rwa [show off+k*3+(j-k*3)=off+j by omega]at this
theorem VN(c:Cc)(g A:Nat)(f i:Int)(w:World)(C:aG w g #[.int .i64 f] 3)(u:aG w A #[.int .i64 i] 3) :
  Calls Tryz.prog 178 #[.agg (vT c),.pointer (some ⟨g,0,none⟩),.pointer (some ⟨A,0,none⟩)] w λr w'=>r = .returned (.bool (Cq f i c))/\Below w.heap.size w w':=by
 go_enter func178,ntmps178;go_upto_region 1 with(fail);refine iC (λW=>Code.wp _ _ _ _ W) λW0 a b d => ?_;clear d;have j:=(C.ext a).cell 0;have h:=(u.ext a).cell 0;have e:=b.cell;unfold vT at e
 by_cases y:f<c.f
 ·go_wp2;go_ret;exact⟨bY (by unfold Cq;simp[y]),a⟩
 by_cases h2:c.f=f
 ·have D:(c.f==f)=true:=by simpa using h2
  by_cases z:i<=c.i
  ·go_wp2;go_ret;exact⟨bY (by unfold Cq;simp[h2,z]),a⟩
  go_wp2;go_ret;exact⟨bY (by unfold Cq;simp[y,h2,z]),a⟩
 have D:(c.f==f)=false:=by simpa using h2
 go_wp2;go_ret;exact⟨bY (by unfold Cq;simp[y,h2]),a⟩
theorem QI(l:List Cc)(a:Option Addr)(c:Nat)(w:World)(A:eu w a (l.flatMap iL))(G:l.length<=9223372036854775807)(g E:Nat)(z u:Int)(F:aG w g #[.int .i64 z] 3)(D:aG w E #[.int .i64 u] 3) :
  Calls Tryz.prog 131 #[.slice a l.length c,.func (.func 178) #[] #[.pointer (some ⟨g,0,none⟩),.pointer (some ⟨E,0,none⟩)]] w λe w'=>e = .returned (.int .i64 (idx (Cq z u) l))/\Below w.heap.size w w':=by
 go_enter func131,ntmps131;go_wp2
 go_loopw [8] (fun i wr => ∃k:Nat,k<=l.length/\i = .int .i64 k/\Below w.heap.size w wr/\∀i (h:i<l.length),i<k->(Cq z u) l[i]=false) (fun i _=>l.length-(intOf i).toNat)
 case atStart=>exact⟨0,bq _,rfl,Below.refl _ _,λi _ h=>absurd h (fA _)⟩
 case round=>
  obtain⟨k,H,rfl,f,n⟩:=hrel;have C:=ae n;clear n
  by_cases y:k<l.length
  ·obtain⟨b,off,rfl,p⟩:=Ag (A.below f) k y
   go_wp2_with (refine ay b (off+k*3) _ p _ underlying122 rfl cached_size ?_)
   refine(VN l[k] g E z u _ (F.ext f) (D.ext f)).mono ?_;rintro e w2 ⟨rfl,o⟩;have j:=ag f o;clear o;cases hpk:(Cq z u) l[k]
   ·have m:=ae hpk;clear hpk;go_wp2;go_roundw
    case rel=>exact⟨k+1,by omega,by go_num,j,mJ C.out y m.out⟩
    case measure=>simp[intOf];omega
   have d:=ae (uR (Cq z u) l k y C.out hpk);clear hpk;go_wp2;go_ret;exact⟨aY d.out.symm,j⟩
  have d:=ae (mo (Cq z u) l λi h=>C.out i h (by omega));go_wp2;go_ret;exact⟨aY d.out.symm,f⟩
theorem Vy{l:List Cc}{f i:Int}:(idx (Cq f i) l<0/\sP l f i=l.length/\JY l f i=false)\/(∃k,∃j:k<l.length,idx (Cq f i) l=k/\sP l f i=k/\JY l f i=(decide (l[k].f=f)&&decide (l[k].i=i))):=by
 unfold idx JY sP;cases h:l.findIdx? (Cq f i)with
 | none=>exact .inl ⟨by decide,rfl,by simp⟩
 | some k=>
  obtain⟨j,_,_⟩:=si.1 h;exact .inr ⟨k,j,rfl,rfl,by simp[aI j]⟩
theorem Eo(H:MH)(e f i:Int)(B b:Nat)(w:World)(h:lD w B b H e) :
  Calls Tryz.prog 139 #[.pointer (some ⟨b,0,none⟩),.int .i64 f,.int .i64 i] w λr w'=>r = .returned (.tuple #[.int .i64 (sP H.ca f i:Int),.bool (JY H.ca f i)])/\Below w.heap.size w w':=by
 go_enter func139,ntmps139;go_upto_region 1 with(fail);refine tY (λW=>Code.wp _ _ _ _ W) λW0 p n m u => ?_;clear u;have F:=h.below p;have K:=F.blk.cell;unfold rD at K;have C:=F.ma.rd.ca;have v:=C.mx;have O:=C.le;unfold maxLen at v;clear h
 go_wp2_with fail
 refine(QI H.ca H.ac H.cc _ C.rd (by omega) _ _ f i n m).mono ?_;rintro r w1 ⟨rfl,d⟩;have a:=ag p d;have k1:=F.below d;have y:=(n.ext d).cell 0;have x:=(m.ext d).cell 0;have s:=k1.blk.cell;unfold rD at s;have j:=C.rd.below d;clear K n m p d F C;rcases Vy (l:=H.ca) (f:=f) (i:=i)with⟨I,h2,D⟩|⟨k,J,I,h2,D⟩
 ·have A:=ae (And.intro h2 D);clear h2 D;generalize idx (Cq f i) H.ca=z at *
  go_wp2;go_ret2;rw[A.out.1,A.out.2];exact⟨rfl,a⟩
 have A:=ae (And.intro h2 D);rw[I];clear I h2 D;obtain⟨g,off,c,t,o,U,S,R⟩:=Uj j k J;rw[t]at s;have q:H.ca[k]=c:=by rw[aI J]at o;exact aM o
 rw[q]at A;have N:(k:Int)<(H.ca.length:Int):=by omega
 clear o j t q
 go_wp2_with fail
 by_cases E:c.f=f
 ·have M:(c.f==f)=true:=by simpa using E
  by_cases G:c.i=i
  ·have L:(c.i==i)=true:=by simpa using G
   go_quiet (fail);go_wp2;go_ret2;rw[A.out.1,A.out.2];refine⟨by simp[E,G],below_drewN a _⟩
  have L:(c.i==i)=false:=by simpa using G
  go_quiet (fail);go_wp2;go_ret2;rw[A.out.1,A.out.2];refine⟨by simp[E,G],below_drewN a _⟩
 have M:(c.f==f)=false:=by simpa using E
 go_quiet (fail);go_wp2;go_ret2;rw[A.out.1,A.out.2];refine⟨by simp[E],below_drewN a _⟩
def uC(u:Nat × Int):Array Value:=#[.int .i64 u.1,.int .i64 u.2]
def uL(u:Nat × Int):List Value:=(uC u).toList
theorem WX(u:Nat × Int):(uL u).length=2:=rfl
theorem us_info:(Tryz.prog.info? 247).map (λi=>(i.zero,i.size,i.bytes))=some (some (.agg #[.int .i64 0,.int .i64 0]),2,16):=by kernel_rfl
theorem us_size:(Tryz.prog.info? 247).map (·.size)=some 2:=by kernel_rfl
theorem WJ(u:Nat × Int):∀x∈uL u,x.oneCell' = true:=by
 intro x h;simp only[uL,uC,dz,ib,or_false]at h;rcases h with rfl|rfl<;>rfl
def tZ(m:Ma)(f:Int)(P:Nat):List (Nat × Int):=(List.range P).flatMap λp=>(pX (dI m p).tb 1 f).map λn=>(p,n)
theorem Iy(m:Ma)(f:Int)(P:Nat):tZ m f (P+1)=tZ m f P++(pX (dI m P).tb 1 f).map λn=>(P,n):=by
 unfold tZ;rw[yo,fM];simp
theorem Pi(t:Tb)(kd i:Int):(pX t kd i).length<=64:=by
 unfold pX aV;exact bi (AC _ _) (tO t 64)
theorem DZ(m:Ma)(f:Int):∀P,(tZ m f P).length<=P*64
 | 0=>by simp[tZ]
 | P+1=>by have h:=DZ m f P;have h2:=Pi (dI m P).tb 1 f;rw[Iy,jq,eQ];omega
theorem MX(H:MH)(e f:Int)(B b:Nat)(w:World)(h:lD w B b H e)(hz:H.sp.length<=1000) :
  Calls Tryz.prog 199 #[.pointer (some ⟨b,0,none⟩),.int .i64 f] w λr w' => ∃v,r = .returned v/\Own w' w.heap.size 247 2 v (bD H.ma f).length ((bD H.ma f).flatMap uL)/\Below w.heap.size w w':=by
 go_enter func199,ntmps199;have A:=h.blk.cell;unfold rD at A;go_upto_region 3 with(fail);clear A
 go_loopw [5,15] (fun s5 s15 wr => ∃P:Nat,P<=H.sp.length/\s15 = .int .i64 P/\Own wr w.heap.size 247 2 s5 (tZ H.ma f P).length ((tZ H.ma f P).flatMap uL)/\Below w.heap.size w wr) (fun _ s15 _=>H.sp.length-(intOf s15).toNat)
 case atStart=>exact⟨0,bq _,rfl,Own.nil _ _ _ _,Below.refl _ _⟩
 case round=>
  obtain⟨P,hP,rfl,a,c⟩:=hrel
  by_cases E:P<H.sp.length
  ·obtain⟨S,J⟩:∃S,H.sp[P]?=some S:=⟨_,aI E⟩;have Y:=ae (qa J);have D:=h.below c;obtain⟨g,off,M,V,I,m⟩:=D.at J;have A:=D.blk.cell;unfold rD at A;rw[M]at A;have K:(P:Int)<(H.sp.length:Int):=by omega
   go_wp2_with (refine ay g (off+P*10+2) _ I _ underlying74 tab_agg tab_size ?_)
   refine(PO S.tb (nT S.ts) 1 f _ m.tb).mono ?_;rintro r w1 ⟨v1,rfl,x,F⟩;obtain⟨a1,c1,rfl,_⟩:=x.rd;have q:=x.mono (bq _);have s:=ag c F;have d:=a.below F;have hs:(pX S.tb 1 f).length<=64:=Pi _ _ _;have O:Hid (pX (dI H.ma P).tb 1 f=pX S.tb 1 f):=ae (by rw[Y.out];rfl);have hr:=DZ H.ma f P;generalize pX S.tb 1 f=L at *
   clear A V I m D a F x;go_upto_region 6 with(fail)
   go_loopw [5,30] (fun s5 s30 wr => ∃j:Nat,j<=L.length/\s30 = .int .i64 j/\Own wr w.heap.size 247 2 s5 (tZ H.ma f P++(L.take j).map fun n=>(P,n)).length ((tZ H.ma f P++(L.take j).map fun n=>(P,n)).flatMap uL)/\Below w.heap.size w wr/\Own wr 0 3 1 (.slice a1 L.length c1) L.length (L.map gF)) (fun _ s30 _=>L.length-(intOf s30).toNat)
   case atStart=>exact⟨0,bq _,rfl,by simpa using d,s,q⟩
   case round=>
    clear d s q;obtain⟨j,hj,rfl,a,c,p⟩:=hrel
    by_cases C:j<L.length
    ·obtain⟨_,_,Z,_,_,_,G⟩:=p.rd;cases Z;obtain⟨bl,ol,rfl,N⟩:=kC G j C;have R:(j:Int)<(L.length:Int):=by omega
     have W:(tZ H.ma f P++(L.take j).map λn=>(P,n)).length=(tZ H.ma f P).length+j:=by rw[jq,eQ,iQ];omega
     have t:Hid (tZ H.ma f P++(L.take (j+1)).map (λn=>(P,n))=(tZ H.ma f P++(L.take j).map λn=>(P,n))++[(P,L[j])]):=ae (by rw[oC,aI C,jM,jR];rfl);generalize tZ H.ma f P++(L.take j).map (λn=>(P,n))=us at *
     go_wp2_with (at_builtin;(refine fQ 259 rfl w.heap.size 247 (.agg #[.int .i64 0,.int .i64 0]) 2 16 underlying259 us_info _ _ rfl (a.alloc _) (some ⟨_,0,none⟩) 1 1 (uL (P,L[j])) rfl (λh=>(by cases h)) (az _) rfl (eu.new _ (uC (P,L[j])) _) (WJ _) (by unfold maxLen;omega) (by omega) (dE c.size) ?_))
     intro v2 w2 u l;have z:=(c.alloc c.size (.cells (uC (P,L[j])) 247)).grown l (dE c.size) (λk U=>a.ge k U);have X:=zY (p.alloc (.cells (uC (P,L[j])) 247)) (a.alloc (.cells (uC (P,L[j])) 247)) l;have y:(us++[(P,L[j])]).length=us.length+1:=by simp
     clear N G a c p l;go_wp2;go_roundw
     case rel=>exact⟨j+1,by omega,by go_num,by rw[t.out,y,fM,W];simpa using u,z,X⟩
     case measure=>simp[intOf];omega
    have R:¬(j:Int)<(L.length:Int):=by omega
    have o:Hid (tZ H.ma f P++(L.take j).map (λn=>(P,n))=tZ H.ma f (P+1)):=ae (by rw[jD (by omega),Iy,O.out]);clear p;go_wp2;go_roundw
    case rel=>
     have i:=a;rw[o.out]at i;exact⟨u5,.int .i64 (P:Int),u8,.int .i64 ((P:Int)+1),⟨P+1,by omega,by go_num,i⟩,rfl,rfl,rfl,rfl⟩
    case measure=>simp[intOf];omega
  have o:Hid (tZ H.ma f P=bD H.ma f):=ae (by
   have:P=H.sp.length:=by omega
   unfold tZ bD MH.ma;simp[this])
  have K:¬(P:Int)<(H.sp.length:Int):=by omega
  go_wp2;go_ret;rw[<-o.out];exact⟨_,rfl,a,c⟩
def ent(m:Ma)(p:Nat)(n:Int):En:=dM (dI m p).tb n
structure Pt (m:Ma):Prop where
 fr:bu m.m=0
 sl:dL m.sl=0
 sw:bX m.sw=0
 dk:bX m.dk=0
 st:aT m.st=0
 swl:m.sw.blocks.length=m.sl.length
 dkl:(m.dk.blocks.length:Int)=m.st.count
 spl:m.sp.length<=4
 ar:∀s∈m.sp,(bQ s.ar).1=0
 tb:∀s∈m.sp,dA s.tb=0
theorem zF(h:p<m.sp.length):m.sp[p]?=some (dI m p):=by
 unfold dI;rw[aW,aI h];rfl
theorem Dn(h:p<m.sp.length):dI m p∈m.sp:=bP (zF h)
theorem qA(h:m.sp.length<=p):dI m p=zSp:=by
 unfold dI;rw[aW,fH h];rfl
theorem Ph{s:Sp}(h:s∈m.sp):∃p,p<m.sp.length/\s=dI m p:=by
 obtain⟨i,j,rfl⟩:=jJ.1 h;refine⟨i,j,?_⟩;have:=zF (m:=m) j;rw[aI j]at this;exact aM this
theorem Pt.tbN(h:Pt m)(p:Nat):dA (dI m p).tb=0:=by
 rcases gu p m.sp.length with j|j
 ·exact h.tb _ (Dn j)
 ·rw[qA j];decide
theorem Pt.arN(h:Pt m)(p:Nat):(bQ (dI m p).ar).1=0:=by
 rcases gu p m.sp.length with j|j
 ·exact h.ar _ (Dn j)
 ·rw[qA j];decide
theorem nG(h:Pt m)(p:Nat)(n:Int):eP (ent m p n)=0:=qH (h.tbN p) n
theorem OD(p:Nat)(h:n<0\/64<=n):ent m p n=zEn:=sU (h:=h)
theorem bG(e:En):eP e=0↔(e.k=0/\e.n=0/\e.w=false)\/(e.k=1/\0<=e.n/\e.n<40)\/(e.k=2/\0<=e.n/\e.n<60/\e.w=false):=by
 obtain⟨k,n,w⟩:=e;unfold eP;simp only;cases w
 all_goals
  simp only[uA,reduceCtorEq,and_true,and_false,or_false,false_or,or_true];constructor
  ·intro h;split at h
   ·omega
   split at h
   ·omega
   ·split at h<;>omega
  intro h;split
  ·omega
  split
  ·omega
  split
  ·omega
  ·rfl
theorem BL{t:Tb}(j:p<m.sp.length)(q:Nat):dI (setTb m p t) q=if q=p then{ dI m p with tb:=t }else dI m q:=by
 unfold setTb;show(m.sp.set p _).getD q zSp=_;rw[aW,nE]
 by_cases e:q=p
 ·subst e;rw[if_pos rfl,if_pos j,if_pos rfl];rfl
 ·rw[if_neg (λh=>e h.symm),if_neg e];unfold dI;rw[aW]
theorem QQ{t:Tb}(h:p<m.sp.length)(q:Nat)(n:Int):ent (setTb m p t) q n=if q=p then dM t n else ent m q n:=by
 unfold ent;rw[BL h]
 by_cases e:q=p
 ·rw[if_pos e,if_pos e]
 ·rw[if_neg e,if_neg e]
theorem vI{t:Tb}:(setTb m p t).sp.length=m.sp.length:=bI
theorem Pt.setTb{m:Ma}(h:Pt m){p:Nat}{t:Tb}(u:dA t=0):Pt (setTb m p t):=by
 by_cases y:p<m.sp.length
 ·refine{ h with spl:=by rw[vI];exact h.spl,ar:=λs j => ?_,tb:=λs j => ?_ }
  ·rcases lS j with j|rfl
   ·exact h.ar s j
   ·exact h.arN p
  rcases lS j with j|rfl
  ·exact h.tb s j
  ·exact u
 have:Go.Proofs.YthihaopabbpalaaGreat.setTb m p t=m:=by unfold Go.Proofs.YthihaopabbpalaaGreat.setTb;rw[List.set_eq_of_length_le (by omega)]
 rw[this];exact h
def pW(kd i:Int)(e:En):Bool:=decide (e.k=kd)&&decide (e.n=i)
def bR(m:Ma)(kd i:Int):Nat:=(m.sp.map λs=>(dC s.tb).countP (pW kd i)).sum
def sO(b:Bool):Nat:=if b=true then 1 else 0
theorem countP_set{α:Type}(q:α->Bool):∀(l:List α) (k:Nat) (h:k<l.length) (x:α),(l.set k x).countP q+sO (q l[k])=l.countP q+sO (q x)
 | a::l,0,_,x=>by simp only[uT,Dp,uU,sO];omega
 | a::l,k+1,h,x=>by have:=countP_set q l k (by simpa using h) x;simp only[uB,Ef,uU];omega
theorem sum_set:∀(l:List Nat) (k:Nat) (h:k<l.length) (x:Nat),(l.set k x).sum+l[k]=l.sum+x
 | a::l,0,_,x=>by simp only[uT,Dp,Bq];omega
 | a::l,k+1,h,x=>by have:=sum_set l k (by simpa using h) x;simp only[uB,Ef,Bq];omega
theorem Al{t:Tb}{e:En}(h:setE t n e=0):dC (setT t n e)=(dC t).set n.toNat e:=by
 obtain⟨u,h2,j⟩:=wM h;rw[FL h,Ex (Jh u j) (by rw[bI,oD])]
theorem Mt{t:Tb}{e:En}(h:setE t n e=0)(q:En->Bool):(dC (setT t n e)).countP q+sO (q (dM t n))=(dC t).countP q+sO (q e):=by
 obtain⟨A,h2,z⟩:=wM h;have j:n.toNat<(dC t).length:=by rw[oD];omega
 have y:=countP_set q (dC t) n.toNat j e;have u:=Bb t n.toNat (by omega);rw[aI j,El h2.1]at u;rw[aM u]at y;rw[Al h];exact y
theorem qG(j:p<m.sp.length){x:En}(h:setE (dI m p).tb n x=0)(kd i:Int) :
  bR (setTb m p (setT (dI m p).tb n x)) kd i+sO (pW kd i (ent m p n))=bR m kd i+sO (pW kd i x):=by
 have z:=Mt h (pW kd i);have h2:=sum_set (m.sp.map λs=>(dC s.tb).countP (pW kd i)) p (by simpa using j) ((dC (setT (dI m p).tb n x)).countP (pW kd i));unfold bR setTb;rw[AB];have u:(m.sp.map λs=>(dC s.tb).countP (pW kd i))[p]'(by simpa using j)=(dC (dI m p).tb).countP (pW kd i):=by rw[wJ];have:=zF j;rw[aI j]at this;rw[aM this]
 rw[u]at h2;have y:sO (pW kd i (ent m p n))=sO (pW kd i (dM (dI m p).tb n)):=rfl;simp only;omega
theorem Vt{l:List Nat}:0<l.sum↔∃k,∃h:k<l.length,0<l[k]:=by
 induction l with
 | nil=>simp
 | cons a l ih=>
  rw[Bq];constructor
  ·intro h
   by_cases y:0<a
   ·exact⟨0,by simp,by simpa using y⟩
   obtain⟨k,u,j⟩:=ih.1 (by omega);exact⟨k+1,by simpa using u,by simpa using j⟩
  rintro⟨k,u,j⟩;cases k with
  | zero=>simp at j;omega
  | succ k=>
   have:=ih.2 ⟨k,by simpa using u,by simpa using j⟩;omega
theorem nI{i:Int}(G:kd≠0:=by decide):0<bR m kd i↔∃p n,p<m.sp.length/\(0<=n/\n<64)/\(ent m p n).k=kd/\(ent m p n).n=i:=by
 unfold bR;rw[Vt];constructor
 ·rintro⟨p,y,h⟩;have a : p<m.sp.length:=by simpa using y
  rw[wJ]at h;obtain⟨e,E,u⟩:=yT.1 h;obtain⟨j,C,rfl⟩:=jJ.1 E;have b : j<64:=by rw[oD]at C;exact C
  have A:m.sp[p]=dI m p:=by have:=zF a;rw[aI a]at this;exact aM this
  have z:=Bb m.sp[p].tb j b;rw[aI C]at z;rw[aM z,A]at u;unfold pW at u;simp only[ed,decide_eq_true_eq]at u;exact⟨p,j,a,by omega,u.1,u.2⟩
 rintro⟨p,n,y,D,F,h2⟩;refine⟨p,by simpa using y,?_⟩;rw[wJ,yT];have A:m.sp[p]=dI m p:=by have:=zF y;rw[aI y]at this;exact aM this
 refine⟨ent m p n,?_,by unfold pW;rw[F,h2];simp⟩;rw[A];have z:=Bb (dI m p).tb n.toNat (by omega);rw[El D.1]at z;exact bP z
theorem sQ(h:f<m.m.fs.length):m.m.fs[f]?=some (aB m f):=by
 unfold aB;rw[aW,aI h];rfl
theorem Ou(h:f<m.m.fs.length):aB m f∈m.m.fs:=bP (sQ h)
theorem JH(h:m.m.fs.length<=f):aB m f=fr0:=by
 unfold aB;rw[aW,fH h];rfl
theorem gB{x:Fr}(h:f<m.m.fs.length)(g:Nat):aB (setFr m f x) g=if g=f then x else aB m g:=by
 unfold aB setFr;simp only;rw[aW,nE]
 by_cases e:g=f
 ·subst e;rw[if_pos rfl,if_pos h,if_pos rfl];rfl
 ·rw[if_neg (λe'=>e e'.symm),if_neg e,aW]
theorem fu{x:Fr}:(setFr m f x).m.fs.length=m.m.fs.length:=bI
theorem Pt.frE(h:Pt m)(j:f<m.m.fs.length):bT (aB m f)=0:=((dO _).1 h.fr).2.1 _ (Ou j)
theorem Pt.setFr{m:Ma}(h:Pt m){f:Nat}{x:Fr}(j:bT x=0):Pt (setFr m f x):={ h with fr:=FK h.fr j }
theorem Lu{x:Fr}(h:bT x=0)(y:x.r≠0)(h1 : -x.r<=n)(h2:n<=1000-x.r):bT (il x n)=0:=by
 unfold il
 by_cases j:x.r+n=0
 ·rw[if_pos j];decide
 rw[if_neg j,dN];have:=(dN x).1 h;refine⟨by simp only;omega,λu=>absurd u j,this.2.2⟩
theorem TK{m:Mem}{k:Int}(h:bu m=0)(u:0<=k/\k<m.fs.length)(j:(m.fs.getD k.toNat fr0).r≠0)(h1 : -(m.fs.getD k.toNat fr0).r<=n)(h2:n<=1000-(m.fs.getD k.toNat fr0).r):oI m k n=0:=by
 unfold oI;rw[if_neg (by rw[h];simp),if_neg (by omega),if_neg (by omega)]
theorem BD{k:Kp}(h:Pt k.m)(y:f<k.m.m.fs.length)(j:(aB k.m f).r≠0)(h1 : -(aB k.m f).r<=n)(h2:n<=1000-(aB k.m f).r) :
  gH k f n=⟨setFr k.m f (il (aB k.m f) n),k.e⟩/\Pt (setFr k.m f (il (aB k.m f) n)):=by
 have u:oI k.m.m (f:Int) n=0:=TK h.fr (by omega) j h1 h2;refine⟨?_,h.setFr (Lu (h.frE y) j h1 h2)⟩;unfold gH;rw[if_pos u];congr 1;unfold lX;rw[if_pos u];rfl
def jW(m:Ma)(s:Nat):Int:=m.sl.getD s 0
def setSl(m:Ma)(s:Nat)(n:Int):Ma:={ m with sl:=m.sl.set s n }
theorem MB(h:f<m.sl.length):m.sl[f]?=some (jW m f):=by
 unfold jW;rw[aW,aI h];rfl
theorem Jg{x:Int}(h:f<m.sl.length)(g:Nat):jW (setSl m f x) g=if g=f then x else jW m g:=by
 unfold jW setSl;simp only;rw[aW,nE]
 by_cases e:g=f
 ·subst e;rw[if_pos rfl,if_pos h,if_pos rfl];rfl
 ·rw[if_neg (λe'=>e e'.symm),if_neg e,aW]
theorem Pt.slB(h:Pt m)(s:Nat):0<=jW m s/\jW m s<=1000:=by
 rcases gu s m.sl.length with j|j
 ·have:=Fq h.sl _ (bP (MB j));unfold rR at this;simp only[Df,decide_eq_false_iff_not]at this;omega
 ·unfold jW;rw[aW,fH j];simp
theorem Pt.setSl{m:Ma}(h:Pt m){s:Nat}{n:Int}(u:0<=n)(j:n<=1000):Pt (setSl m s n):=
 { h with sl:=EX s n h.sl u j,swl:=h.swl.trans bI.symm }
theorem PE{k:Kp}(h:Pt k.m)(y:s<k.m.sl.length)(z:jW k.m s≠0)(h1 : -(jW k.m s)<=n)(h2:n<=1000-jW k.m s) :
  oq k s n=⟨setSl k.m s (jW k.m s+n),k.e⟩/\Pt (setSl k.m s (jW k.m s+n)):=by
 have u:Gv k.m.sl (s:Int)=jW k.m s:=rfl;have j:dH k.m.sl (s:Int) n=0:=by unfold dH;rw[if_neg (by rw[h.sl];simp),if_neg (by rw[u];omega),if_neg (by rw[u];omega)]
 refine⟨?_,h.setSl (by omega) (by omega)⟩;unfold oq;rw[if_pos j];congr 1;unfold cO;rw[if_pos j];rfl
theorem iT{k:Kp}{x:En}(h:Pt k.m)(y:0<=n/\n<64)(u:eP x=0) :
  setE (dI k.m p).tb n x=0/\fo k p n x=⟨setTb k.m p (setT (dI k.m p).tb n x),k.e⟩/\Pt (setTb k.m p (setT (dI k.m p).tb n x)):=by
 have j:=AX (h.tbN p) y u;refine⟨j,?_,h.setTb (qf j)⟩;unfold fo;rw[if_pos j]
theorem nU{x:En}(z:p<m.sp.length)(h:setE (dI m p).tb n x=0)(q:Nat)(j:Int):ent (setTb m p (setT (dI m p).tb n x)) q j=if q=p/\j=n then x else ent m q j:=by
 rw[QQ z]
 by_cases e:q=p
 ·subst e;rw[if_pos rfl,zU h]
  by_cases u:j=n
  ·rw[if_pos u,if_pos ⟨rfl,u⟩]
  ·rw[if_neg u,if_neg (λy=>u y.2)];rfl
 ·rw[if_neg e,if_neg (λy=>e y.1)]
structure iF (m m' : Ma):Prop where
 len:m'.sp.length=m.sp.length
 lv:∀p,(dI m' p).lv=(dI m p).lv
 ar:∀p,(dI m' p).ar=(dI m p).ar
theorem iF.refl(m:Ma):iF m m:=⟨rfl,λ_=>rfl,λ_=>rfl⟩
theorem iF.trans{a b c:Ma}(h:iF a b)(k:iF b c):iF a c:=⟨k.len.trans h.len,λp=>(k.lv p).trans (h.lv p),λp=>(k.ar p).trans (h.ar p)⟩
theorem iF.of(h:m'.sp=m.sp):iF m m':=⟨by rw[h],λp=>by unfold dI;rw[h],λp=>by unfold dI;rw[h]⟩
theorem iF.setTb{m:Ma}{p:Nat}{t:Tb}:iF m (setTb m p t):=by
 by_cases h:p<m.sp.length
 ·refine⟨vI,λq => ?_,λq => ?_⟩
  all_goals
   rw[BL h]
   by_cases e:q=p
   ·rw[if_pos e,e]
   ·rw[if_neg e]
 have:Go.Proofs.YthihaopabbpalaaGreat.setTb m p t=m:=by unfold Go.Proofs.YthihaopabbpalaaGreat.setTb;rw[List.set_eq_of_length_le (by omega)]
 rw[this];exact .refl _
structure Rest (m m' : Ma):Prop where
 sl:m'.sl=m.sl
 sw:m'.sw=m.sw
 dk:m'.dk=m.dk
 st:m'.st=m.st
 ca:m'.ca=m.ca
theorem Rest.refl(m:Ma):Rest m m:=⟨rfl,rfl,rfl,rfl,rfl⟩
theorem Rest.trans{a b c:Ma}(h:Rest a b)(k:Rest b c):Rest a c:=⟨k.sl.trans h.sl,k.sw.trans h.sw,k.dk.trans h.dk,k.st.trans h.st,k.ca.trans h.ca⟩
structure VZ (m:Ma) (f:Nat) (l:List (Nat × Int)):Prop where
 nd:l.Nodup
 mem:∀u∈l,u.1<m.sp.length/\(0<=u.2/\u.2<64)/\(ent m u.1 u.2).k=1/\(ent m u.1 u.2).n=f
theorem Hr{x:Fr}(h:bT x=0):il x 0=x:=by
 unfold il
 by_cases j:x.r=0
 ·rw[if_pos (by omega)];exact(OY h j).symm
 rw[if_neg (by omega)];obtain⟨p,r,u,d,f,i⟩:=x;simp
theorem PM{x:Fr}(h:bT x=0)(j:Nat)(y:(j:Int)+1<=x.r):il (il x (-1)) (-(j:Int))=il x (-((j:Int)+1)):=by
 by_cases z:x.r=1
 ·have:j=0:=by omega
  subst this;have u:il x (-1)=frZ:=by unfold il;rw[if_pos (by omega)]
  rw[show -((0:Nat):Int)=0 from rfl,show -(((0:Nat):Int)+1) = -1 from rfl,u];exact Hr (by decide)
 have u:il x (-1) = { x with r:=x.r + -1 }:=by unfold il;rw[if_neg (by omega)]
 rw[u];unfold il;simp only
 by_cases h2:x.r=(j:Int)+1
 ·rw[if_pos (by omega),if_pos (by omega)]
 rw[if_neg (by omega),if_neg (by omega)];congr 1;omega
def Vg(f:Nat)(e' : En)(k:Kp)(u:Nat × Int):Kp:=fo (gH k f (-1)) u.1 u.2 e'
theorem FX(h:f<m.m.fs.length):setFr m f (aB m f)=m:=by
 have h2:m.m.fs.set f (aB m f)=m.m.fs:=by have:=sQ h;rw[aI h]at this;rw[<-aM this,vJ]
 unfold setFr;rw[h2]
theorem DW{f:Nat}{e' : En}(he:eP e' = 0)(step:Kp->(Nat × Int)->Kp)(y:∀k u,(ent k.m u.1 u.2).k=1->(ent k.m u.1 u.2).n=f->step k u=Vg f e' k u):∀(l:List (Nat × Int)) (k:Kp),Pt k.m->VZ k.m f l->f<k.m.m.fs.length->(l.length:Int)<=(aB k.m f).r ->
  (l.foldl step k).e=k.e/\Pt (l.foldl step k).m/\Rest k.m (l.foldl step k).m/\iF k.m (l.foldl step k).m/\(l.foldl step k).m.m=(setFr k.m f (il (aB k.m f) (-(l.length:Int)))).m /\
   (∀p n,ent (l.foldl step k).m p n=if(p,n)∈l then e' else ent k.m p n)/\∀kd i,bR (l.foldl step k).m kd i+(if kd=1/\i=f then l.length else 0)=bR k.m kd i+(if kd=e'.k/\i=e'.n then l.length else 0)
 | [],k,h,hu,hf,hr=>by refine⟨rfl,h,.refl _,.refl _,?_,λp n=>by simp,λkd i=>by simp⟩;show k.m.m=_;rw[show -(([]:List (Nat × Int)).length:Int)=0 from rfl,Hr (h.frE hf),FX hf]
 | u::l,k,h,hu,hf,hr=>by
  obtain⟨hp,hn,N,M⟩:=hu.mem u iN;simp only[qz]at hr;have O:=h.frE hf;have hb:=((dN _).1 O).1;obtain⟨I,p1⟩:=BD (k:=k) (f:=f) (n:=-1) h hf (by omega) (by omega) (by omega);have z:=PM O l.length (by omega);generalize hX:il (aB k.m f) (-1)=X at I p1 z;obtain⟨s0,H,p2⟩:=iT (k:=⟨setFr k.m f X,k.e⟩) (p:=u.1) (n:=u.2) (x:=e') p1 hn he;have E:step k u=⟨setTb (setFr k.m f X) u.1 (setT (dI k.m u.1).tb u.2 e'),k.e⟩:=by rw[y k u N M];unfold Vg;rw[I,H];rfl
  have S:=λq j=>nU (m:=setFr k.m f X) (p:=u.1) (n:=u.2) (x:=e') hp s0 q j;have G:=λkd i=>qG (m:=setFr k.m f X) (p:=u.1) (n:=u.2) (x:=e') hp s0 kd i;have K:=uz.1 hu.nd;have F:(step k u).m.m=(setFr k.m f X).m:=by rw[E];rfl
  have R:aB (step k u).m f=X:=by
   have:aB (step k u).m f=aB (setFr k.m f X) f:=by unfold aB;rw[F]
   rw[this,gB hf,if_pos rfl]
  have A:∀q j,ent (step k u).m q j=if q=u.1/\j=u.2 then e' else ent k.m q j:=λq j=>by rw[E];exact S q j
  have L:(step k u).m.sp.length=k.m.sp.length:=by rw[E];exact vI
  have Y:X.r=(aB k.m f).r-1:=by
   rw[<-hX];unfold il
   by_cases h0:(aB k.m f).r + -1=0
   ·rw[if_pos h0];show(0:Int)=_;omega
   ·rw[if_neg h0];rfl
  have ih:=DW he step y l (step k u) (by rw[E];exact p2) ⟨K.2,λv hv=>by obtain⟨D,C,a3,Z⟩:=hu.mem v (jY _ hv);have W:¬(v.1=u.1/\v.2=u.2):=λe=>K.1 (by rw[<-show v=u from Prod.ext e.1 e.2];exact hv);rw[L,A,if_neg W];exact⟨D,C,a3,Z⟩⟩ (by rw[F,fu];exact hf) (by rw[R,Y];omega);obtain⟨i1,i2,i3,i4,i5,i6,i7⟩:=ih;rw[Bo];refine⟨by rw[i1,E],i2,Rest.trans (by rw[E];exact⟨rfl,rfl,rfl,rfl,rfl⟩) i3,iF.trans (by rw[E];exact iF.trans (b:=setFr k.m f X) (iF.of rfl) iF.setTb) i4,?_,λq j => ?_,λkd i => ?_⟩
  ·rw[i5,R,z];unfold setFr;simp only;rw[F];unfold setFr;simp only[Bj,qz];rfl
  ·rw[i6,A]
   by_cases I:(q,j)∈l
   ·rw[if_pos I,if_pos (jY _ I)]
   rw[if_neg I]
   by_cases H:q=u.1/\j=u.2
   ·rw[if_pos H,if_pos (by rw[show(q,j)=u from Prod.ext H.1 H.2];exact iN)]
   rw[if_neg H,if_neg];intro J;rcases dz.1 J with J|J
   ·exact H ⟨congrArg Prod.fst J,congrArg Prod.snd J⟩
   ·exact I J
  have D:=i7 kd i;have C:=G kd i;have a3:bR (step k u).m kd i=bR (setTb (setFr k.m f X) u.1 (setT (dI (setFr k.m f X) u.1).tb u.2 e')) kd i:=by rw[E];rfl
  have Z:bR (setFr k.m f X) kd i=bR k.m kd i:=rfl;have a5:sO (pW kd i (ent (setFr k.m f X) u.1 u.2))=if kd=1/\i=f then 1 else 0:=by
   have:ent (setFr k.m f X) u.1 u.2=ent k.m u.1 u.2:=rfl;rw[this];unfold pW sO;rw[N,M]
   by_cases e:kd=1/\i=f
   ·rw[if_pos e,e.1,e.2];simp
   rw[if_neg e,if_neg];simp only[ed,decide_eq_true_eq];exactλU=>e ⟨U.1.symm,U.2.symm⟩
  have a6:sO (pW kd i e')=if kd=e'.k/\i=e'.n then 1 else 0:=by
   unfold pW sO
   by_cases e:kd=e'.k/\i=e'.n
   ·rw[if_pos e,e.1,e.2];simp
   rw[if_neg e,if_neg];simp only[ed,decide_eq_true_eq];exactλU=>e ⟨U.1.symm,U.2.symm⟩
  rw[a3]at D;rw[Z,a5,a6]at C;rw[qz]
  by_cases c1:kd=1/\i=f
  ·rw[if_pos c1]at D C ⊢
   by_cases V:kd=e'.k/\i=e'.n
   ·rw[if_pos V]at D C ⊢; omega
   ·rw[if_neg V]at D C ⊢; omega
  rw[if_neg c1]at D C ⊢
  by_cases V:kd=e'.k/\i=e'.n
  ·rw[if_pos V]at D C ⊢; omega
  ·rw[if_neg V]at D C ⊢; omega
theorem GL{α β:Type}{f:α->β}(u:∀a b,f a=f b->a=b){l:List α}(h:l.Nodup):(l.map f).Nodup:=List.Pairwise.map _ (λa b j e=>j (u a b e)) h
theorem qd{t:Tb} :n∈aV t↔(0<=n/\n<64)/\(dM t n).k≠0:=by
 unfold aV kG;simp only[iA,Ab,eO,qi,decide_eq_true_eq];constructor
 ·rintro⟨j,⟨h,h2⟩,rfl⟩;exact⟨by omega,h2⟩
 rintro⟨h,h2⟩;refine⟨n.toNat,⟨by omega,?_⟩,by omega⟩;rw[El h.1];exact h2
theorem Lt{t:Tb}{i:Int}(j:kd≠0):n∈pX t kd i↔(0<=n/\n<64)/\(dM t n).k=kd/\(dM t n).n=i:=by
 unfold pX qZ;rw[Ab,qd];simp only[DU,ed,uG,decide_eq_false_iff_not,ru];constructor
 ·rintro⟨⟨h,_⟩,h2⟩;exact⟨h,h2⟩
 ·rintro⟨h,h2⟩;exact⟨⟨h,by rw[h2.1];exact j⟩,h2⟩
theorem Lh(t:Tb):(aV t).Nodup:=by
 unfold aV kG;exact GL (λa b h=>by have j : (a:Int)=b:=h;omega) (List.nodup_range.filter _)
theorem EN{t:Tb}{i:Int}(j:kd≠0):(pX t kd i).length=(dC t).countP (pW kd i):=by
 unfold pX aV kG dC;rw[<-Em,yh,IZ,yh];congr 1;funext n;simp only[Jj,qZ,pW,qi,DU];rw[nz];simp only[ed,uG,decide_eq_false_iff_not,ru,decide_eq_true_eq];constructor
 ·rintro⟨h,_⟩;exact h
 ·intro h;exact⟨h,by rw[h.1];exact j⟩
theorem vB{f:Int}{u:Nat × Int}:u∈bD m f↔u.1<m.sp.length/\(0<=u.2/\u.2<64)/\(ent m u.1 u.2).k=1/\(ent m u.1 u.2).n=f:=by
 unfold bD;simp only[lg,eO,iA];constructor
 ·rintro⟨p,j,n,y,rfl⟩;exact⟨j,(Lt (by decide)).1 y⟩
 rintro⟨j,h⟩;exact⟨u.1,j,u.2,(Lt (by decide)).2 h,rfl⟩
theorem FP{α β:Type}(g:α->List β):∀(l:List α),l.Nodup->(∀x∈l,(g x).Nodup)->(∀x∈l,∀y∈l,∀z,z∈g x->z∈g y->x=y)->(l.flatMap g).Nodup
 | [],_,_,_=>by simp
 | a::l,h1,h2,h3=>by rw[nV,yw];have A:=uz.1 h1;refine⟨h2 a iN,FP g l A.2 (λx u=>h2 x (jY _ u)) (λx u y h=>h3 x (jY _ u) y (jY _ h)),?_⟩;rintro z C w D rfl;obtain⟨y,h,j⟩:=lg.1 D;exact A.1 (by rw[h3 a iN y (jY _ h) z C j];exact h)
theorem Mf(m:Ma)(f:Int):(bD m f).Nodup:=by
 unfold bD;refine FP _ _ List.nodup_range (λp u => ?_) (λp _ q _ z j h2 => ?_)
 ·unfold pX;exact GL (λa b h=>by simpa using h) ((Lh _).filter _)
 obtain⟨_,_,rfl⟩:=iA.1 j;obtain⟨_,_,e⟩:=iA.1 h2;exact(congrArg Prod.fst e).symm
theorem FO(m:Ma)(f:Nat):VZ m f (bD m f):=⟨Mf m f,λu h=>vB.1 h⟩
theorem QU{α:Type}(l:List α)(d:α){β:Type}(g:α->β):(List.range l.length).map (λp=>g (l.getD p d))=l.map g:=by
 apply uZ
 ·simp
 intro i h h2;simp only[wJ,JC];rw[aW,aI (by simpa using h2)];rfl
theorem vw(m:Ma)(f:Int):(bD m f).length=bR m 1 f:=by
 unfold bD bR;rw[List.length_flatMap];simp only[eQ,EN (show(1:Int)≠0 by decide)];rw[<-QU m.sp zSp];rfl
theorem lD.frame{H:MH}{e:Int}(h:lD w B b H e)(z:f<H.m.fs.length) :
  ∃g off cur,H.af=some ⟨g,off,none⟩/\B<=g/\aG w g cur 66/\off+f*13+13<=cur.size/\eu w (some ⟨g,off+f*13,none⟩) (ni (aB H.ma f))/\(∀j u,(ni (aB H.ma f))[j]?=some u->cur[off+f*13+j]?=some u)/\b≠g /\
   ∀(w' : World) (x:Fr),aG w' g (bH cur (off+f*13) (ni x)) 66->w.grownBy w' (some g)->lD w' B b { H with m:=⟨H.m.fs.set f x,H.m.hand⟩ } e:=by
 have r:H.m.fs[f]=aB H.ma f:=by have:H.m.fs[f]?=some (aB H.ma f):=sQ (m:=H.ma) (f:=f) z;rw[aI z]at this;exact aM this
 obtain⟨g,off,I,cur,C,G,a,l,i⟩:=nP eX rfl h.ma.fr f z;simp only[lU]at C;obtain⟨p,_,s⟩:=C;have k:=h.ma.fr;rw[p]at k;have d:=yY k a;have o:∀j u,(ni (aB H.ma f))[j]?=some u->cur[off+f*13+j]?=some u:=λj u A=>by rw[ng];exact d _ _ (flat_get ni 13 eX H.m.fs f z j u (by rw[r];exact A))
 have n:b≠g:=λe=>by have E:=h.blk;subst e;unfold aG at E a;rw[E]at a;simp only[jo,uj]at a;exact absurd a.2.1 (by decide)
 refine⟨g,off,cur,p,G,a,l,λj u A=>⟨g,_,rfl,by rw[a.cell];exact o j u A⟩,o,n,λw' x F y => ?_⟩;have c:(H.m.fs.set f x).length=H.m.fs.length:=bI;refine⟨?_,h.ge,⟨?_,ax h.ma.sl a y,h.ma.sw.keep a (by decide) (by decide) y,h.ma.dk.keep a (by decide) (by decide) y,h.ma.st.keep a (by decide) (by decide) y,ax h.ma.ca a y,ax h.ma.sp a y,λq D=>⟨ax (h.ma.ps q D).1 a y,(h.ma.ps q D).2.keep a (by decide) y⟩,h.ma.c64⟩,h.tz⟩
 ·have:rD { H with m:=⟨H.m.fs.set f x,H.m.hand⟩ } e=rD H e:=by unfold rD;simp only[c]
  rw[this];exact h.blk.grown y (λe=>n (aM e).symm)
 simp only[c];exact i w' _ F
theorem putAt_one{o:Nat}:∀ {vs:List Value} {j:Nat} {v:Value},(∀i u,vs[i]?=some u->cur[o+i]?=some u)->j<vs.length->bH cur o (vs.set j v)=cur.setIfInBounds (o+j) v:=by
 intro vs j v b z;apply mI;intro i;rw[BC];have a:∀k,k<vs.length->o+k<cur.size:=λk y=>(iV.1 (b k _ (aI y))).1
 by_cases A:i<o\/o+vs.length<=i
 ·rw[putAt_out _ _ _ _ (by rw[bI];omega),if_neg (by omega)]
 have h:i-o<vs.length:=by omega
 have:=putAt_in (vs.set j v) cur o (i-o) ((vs.set j v)[i-o]'(by rw[bI];exact h)) (by rw[bI];have:=a (vs.length-1) (by omega);omega) (aI _);rw[show o+(i-o)=i by omega]at this;rw[this,DF]
 by_cases e:j=i-o
 ·rw[if_pos e,if_pos (by omega),if_pos (by have:=a j z;omega)]
 rw[if_neg e,if_neg (by omega)];have:=b (i-o) _ (aI h);rw[show o+(i-o)=i by omega]at this;exact this.symm
theorem JU(s:St)(f i:Int):(eU s f i).count=s.count\/(eU s f i).count=0:=by
 unfold eU;split
 ·exact .inr rfl
 split
 ·exact .inl rfl
 ·exact .inl rfl
theorem TE{o:Nat}(m:World->Prop)(h:∀W,w.grownBy W (some b)->(∀ {cur T},aG w b cur T->aG W b (bH cur o vs) T)->m W):m (w.setCells b o vs).drew:=by
 have j:=aD w b o vs;exact h _ ⟨j.os,j.tape,j.output,j.size,j.block⟩ λu=>u.setCells vs o
theorem wm : (Tryz.prog.info? 4).map (·.size)=some 1:=by kernel_rfl
def Rm(B:Nat)(S:St)(N E:Int):mP:=⟨λv w => ∃u ps k,v = .tuple #[.agg #[u,.int .i64 k],.int .i64 N,.int .i64 E]/\rC w B u ps/\cZ ps k=S,λ_ _ _ hb ⟨u,ps,k,h1,h2,h3⟩=>⟨u,ps,k,h1,h2.below hb,h3⟩⟩
def De(B:Nat)(d:vW)(E:Int):mP:=⟨λv w => ∃a b,v = .tuple #[.agg #[a,b],.int .i64 E]/\mZ w B a b d,λ_ _ _ hb ⟨a,b,h1,h2⟩=>⟨a,b,h1,h2.below hb⟩⟩
theorem Oc(H:MH)(e:Int)(f:Nat)(B b:Nat)(w:World)(h:lD w B b H e)(hf:f<H.m.fs.length) :
  Calls Tryz.prog 161 #[.pointer (some ⟨b,0,none⟩),.int .i64 f] w λr w'=>r = .returned (.bool (lN H.ma f))/\KR w B b H w' (lF ⟨H.ma,e⟩ f):=by
 obtain⟨g,off,cur,h2,ge,hi,kX,ky,hG,gc,kh⟩:=h.frame hf;generalize hx:aB H.ma f=x at *
 have O:=ae hx;clear hx kh;have hc:=h.blk.cell;unfold rD at hc;rw[h2]at hc;have gb:(f:Int)<(H.m.fs.length:Int):=by omega
 have q10:cur[off+f*13+10]?=some (.bool x.d):=hG 10 _ rfl;have q11:cur[off+f*13+11]?=some (.int .i64 x.f):=hG 11 _ rfl;have q12:cur[off+f*13+12]?=some (.int .i64 x.i):=hG 12 _ rfl;have kD:=hi.cell;have kB:=hi.free;have kZ:=ae hG;clear hG;go_enter func161,ntmps161
 by_cases h1:x.f<0
 ·have V:Hid (lF ⟨H.ma,e⟩ f=⟨H.ma,e⟩):=ae (by unfold lF;simp only[O.out];rw[if_pos (.inl h1)]);have Y:Hid (lN H.ma f=true):=ae (by unfold lN;rw[O.out];simp[h1]);have hh:=ae h;clear h;go_wp2;go_ret;rw[V.out,Y.out];exact⟨rfl,_,_,hh.out,KS.refl _ _ _,rfl⟩
 cases hd:x.d with
 | false=>
  have V:Hid (lF ⟨H.ma,e⟩ f=⟨H.ma,e⟩):=ae (by unfold lF;simp only[O.out];rw[if_pos (.inr (.inl hd))]);have Y:Hid (lN H.ma f=true):=ae (by unfold lN;rw[O.out,hd];simp);rw[hd]at q10;have hh:=ae h;clear h;go_wp2;go_ret;rw[V.out,Y.out];exact⟨rfl,_,_,hh.out,KS.refl _ _ _,rfl⟩
 | true=>
  rw[hd]at q10;go_upto_region 4 with(fail);have hm:=ae h;refine kv 22 [_,_,_,_,_,_,_,_,_,_,_,_,_,.r 13 ((Rm w.heap.size (eU H.ma.st x.f x.i) (eZ H.ma.st x.f x.i) (dK H.ma.st x.f x.i))),.r 14 ((Rm w.heap.size (eU H.ma.st x.f x.i) (eZ H.ma.st x.f x.i) (dK H.ma.st x.f x.i))),.r 15 ((MI w.heap.size (eU H.ma.st x.f x.i))),.v (.int .i64 (eZ H.ma.st x.f x.i)),.v (.int .i64 (dK H.ma.st x.f x.i)),.r 18 ((iP w.heap.size 41 2)),.y 19 ((Kk 18 w.heap.size 41 (MI w.heap.size (eU H.ma.st x.f x.i)))),.v (.int .i64 (eZ H.ma.st x.f x.i)),.v (.int .i64 (dK H.ma.st x.f x.i))] (λW=>Below w.heap.size w W) dV (Below.refl _ _) (Yk dV rfl (Yk dV rfl (Yf dV b 0 rfl rfl (Yf dV b 7 rfl rfl (Yr dV (.agg #[.slice H.ai H.fi.length H.ci,.int .i64 H.ct]) (λρ y W A hH=>(bJ rfl (aH rfl hH) (h.below A).rdS underlying41 (A:=store_size))) rfl rfl (Yk dV rfl (Yk dV rfl (Yf dV g (off+f*13+11) rfl rfl (Yc dV (.int .i64 x.f) (λW A=>by simp[(hi.ext A).cell,q11]) rfl rfl rfl rfl (Yk dV rfl (Yk dV rfl (Yf dV g (off+f*13+12) rfl rfl (Yc dV (.int .i64 x.i) (λW A=>by simp[(hi.ext A).cell,q12]) rfl rfl rfl rfl (ah ?_ (ah ?_ (ah ?_ (ah ?_ (ah ?_ (ah ?_ (ah ?_ (Yk dV rfl (Yk dV rfl (aF))))))))))))))))))))))) (λ_=>rfl) rfl ?_
  ·intro ρ y W C I A hd;refine iW dV A ((Rm w.heap.size (eU H.ma.st x.f x.i) (eZ H.ma.st x.f x.i) (dK H.ma.st x.f x.i))) (λ_ _ h=>h) ?_;have kU:=C 35 4 rfl;have h4:y 4=_:=hd 4 rfl;have kT:=C 39 8 rfl;have h8:y 8=_:=hd 8 rfl;have kS:=C 43 12 rfl;have h3:y 12=_:=hd 12 rfl;have EF:=eF0 I λ_=>trivial;refine aP (aS rfl (EF _) func192 (by simp only[bU,bS,aZ,kU,h4,kT,h8,kS,h3,EF];rfl)) ?_;refine(MM H.fi H.ct x.f x.i H.ai H.ci W (h.below A).ma.rd.st h.ma.c64).mono ?_;rintro r D ⟨u,E,k,rfl,M,hB,kG⟩;exact⟨_,rfl,kG,u,E,k,rfl,M.mono A.size,hB⟩
  ·intro ρ y W C I A hd;refine iW dV A ((Rm w.heap.size (eU H.ma.st x.f x.i) (eZ H.ma.st x.f x.i) (dK H.ma.st x.f x.i))) (λ_ _ h=>h) ?_;have kR:=C 44 13 rfl;have kJ:=hd 13 rfl;refine ak _ (run_move (.inl rfl) kR) (m:=?_);exact kJ
  ·intro ρ y W C I A hd;refine iW dV A ((MI w.heap.size (eU H.ma.st x.f x.i))) (λ_ _ h=>h) ?_;have hI:=C 30 14 rfl;have X:=hd 14 rfl;obtain⟨u,E,k,L,M,hB⟩:=X;refine ak (.agg #[u,.int .i64 k]) (by simp[execOp,go_sem,bW,hI,L]) (m:=?_);exact⟨u,E,k,rfl,M,hB⟩
  ·intro ρ y W C I A hd;refine iW dV A (mW (.int .i64 (eZ H.ma.st x.f x.i))) (λ_ _ h=>h) ?_;have hI:=C 30 14 rfl;have X:=hd 14 rfl;obtain⟨u,E,k,L,M,hB⟩:=X;refine ak (.int .i64 (eZ H.ma.st x.f x.i)) (by simp[execOp,go_sem,bW,hI,L])
  ·intro ρ y W C I A hd;refine iW dV A (mW (.int .i64 (dK H.ma.st x.f x.i))) (λ_ _ h=>h) ?_;have hI:=C 30 14 rfl;have X:=hd 14 rfl;obtain⟨u,E,k,L,M,hB⟩:=X;refine ak (.int .i64 (dK H.ma.st x.f x.i)) (by simp[execOp,go_sem,bW,hI,L])
  ·intro ρ y W C I A hd;refine iW dV A ((iP w.heap.size 41 2)) (λ_ _ h=>h) ?_;refine jg (.pointer (some ⟨W.heap.size,0,none⟩)) (aj) (by simp[execOp,go_sem,bW]) ((Below.refl _ _).alloc (az _) (.cells #[.slice none 0 0,.int .i64 0] 41)) ?_;exact⟨_,_,rfl,A.size,aG.new _ _ _,rfl⟩
  ·intro ρ y W C I A hd;have E6:=C 6 18 rfl;have kH:=hd 18 rfl;have kQ:=C 45 15 rfl;have kI:=hd 15 rfl;obtain⟨u,E,k,e7,ht,kg⟩:=kI;obtain⟨g3,F,e9,hF,l,hC⟩:=kH;obtain⟨K,J,rfl,_⟩:=ht.rd;refine mH _ _ _ rfl g3 0 (.agg #[.slice K E.length J,.int .i64 k]) [.slice K E.length J,.int .i64 k] (E6.trans e9) (kQ.trans e7) rfl F _ l (by rw[hC];exact az _) store_size (bV (vE _ _ _ _)) ?_;intro w1 hj a;rw[show[Value.slice K E.length J,Value.int .i64 k]=(#[Value.slice K E.length J,Value.int .i64 k]:Array Value).toList from rfl,gK F _ (by rw[hC];rfl)]at hj;refine⟨A.grown a A.size (λk Z=>by cases Z;exact hF),⟨g3,_,e9,hF,hj,⟨_,E,k,rfl,ht.keep l (by decide) (by decide) a,kg⟩⟩,?_⟩;intro k Z hX
   match k,Z,hX with
   | 0,_,_|1,_,_|2,_,_|3,_,_|4,_,_|5,_,_|6,_,_|7,_,_|8,_,_|9,_,_|10,_,_|11,_,_|12,_,_=>exactλh=>h
   | 13,_,_|14,_,_|15,_,_=>exactλ⟨c,q0,q1,q2,q3,q4⟩=>⟨c,q0,q1,q2,q3.keep l (by decide) (by decide) a,q4⟩
   | 16,_,_|17,_,_=>exactλh=>h
   | 18,_,_=>exactλq=>lh q hj ⟨_,l⟩ a
   | 19,_,h=>exact absurd rfl h
   | 20,_,_|21,_,_=>exactλh=>h
   | n+22,h,_=>exact absurd h (by omega)
  intro y D t ha;replace t:Below w.heap.size w D:=t;have kc:((Rm w.heap.size (eU H.ma.st x.f x.i) (eZ H.ma.st x.f x.i) (dK H.ma.st x.f x.i))).r (y 13) D:=ha 13 (by decide);have hA:((Rm w.heap.size (eU H.ma.st x.f x.i) (eZ H.ma.st x.f x.i) (dK H.ma.st x.f x.i))).r (y 14) D:=ha 14 (by decide);have hz:((MI w.heap.size (eU H.ma.st x.f x.i))).r (y 15) D:=ha 15 (by decide);have kb:((iP w.heap.size 41 2)).r (y 18) D:=ha 18 (by decide);have ka:=ha 19 (by decide);clear ha;simp only[dn,bW,bS,aZ];obtain⟨gs,cs,k7,kk,ko,us,E,ks,hL,hW,hN⟩:=ka;simp only[yQ]at hL;subst hL;obtain⟨K,J,rfl,_⟩:=hW.rd;have k2:=h.below t;have s2:=(KS.refl w b H).below t;have h0:=hi.ext t;have hD:=ky.below t;have kW:=ae kk;clear kc hA hz kb hc kD kB kk
  by_cases hE:dK H.ma.st x.f x.i=0
  ·have V:Hid (lF ⟨H.ma,e⟩ f=⟨setFr { H.ma with st:=eU H.ma.st x.f x.i,dk:=dR H.dk (eZ H.ma.st x.f x.i) x.p } f { x with d:=false },jr e (aL H.dk (eZ H.ma.st x.f x.i))⟩):=ae (by
    unfold lF;simp only[O.out];rw[if_neg]
    ·rfl
    rintro(q|q|q)
    ·exact h1 q
    ·rw[hd]at q;cases q
    ·exact q hE)
   have Y:Hid (lN H.ma f=true):=ae (by unfold lN;rw[O.out,hE];simp);rw[hE];clear hE;have k0:Hid (dK H.ma.st x.f x.i=dK H.ma.st x.f x.i):=ae rfl;generalize eZ H.ma.st x.f x.i=N at *
   go_upto_region 7 with(fail);refine kv 17 [_,_,_,_,_,_,_,_,_,_,.r 10 ((De D.heap.size (dR H.dk N x.p) (aL H.dk N))),.r 11 ((De D.heap.size (dR H.dk N x.p) (aL H.dk N))),.r 12 ((zg D.heap.size (dR H.dk N x.p))),.v (.int .i64 (aL H.dk N)),.r 14 ((iP D.heap.size 38 2)),.y 15 ((Kk 14 D.heap.size 38 (zg D.heap.size (dR H.dk N x.p)))),.v (.int .i64 (aL H.dk N))] (λW=>Below D.heap.size D W) dV (Below.refl _ _) (Yk dV rfl (Yk dV rfl (Yf dV b 0 rfl rfl (Yf dV b 5 rfl rfl (Yr dV (.agg #[.slice H.db H.dk.blocks.length H.cdb,.slice H.dq H.dk.queue.length H.cdq]) (λρ y W A hH=>(bJ rfl (aH rfl hH) (k2.below A).rdD underlying38 (A:=disk_size))) rfl rfl (Yk dV rfl (Yk dV rfl (Yk dV rfl (Yf dV g (off+f*13) rfl rfl (Yr dV (.agg (dW x.p)) (λρ y W A hH=>(bJ rfl (aH rfl hH) (nJ (hD.below A) 0 8) underlying58 (A:=psize))) rfl rfl (ah ?_ (ah ?_ (ah ?_ (ah ?_ (ah ?_ (ah ?_ (Yk dV rfl (aF)))))))))))))))))) (λ_=>rfl) rfl ?_
   ·intro ρ y W C I A hd;refine iW dV A ((De D.heap.size (dR H.dk N x.p) (aL H.dk N))) (λ_ _ h=>h) ?_;have kP:=C 55 4 rfl;have h4:y 4=_:=hd 4 rfl;have kO:=C 56 5 rfl;have h5:y 5=_:=hd 5 rfl;have kN:=C 60 9 rfl;have h9:y 9=_:=hd 9 rfl;have EF:=eF0 I λ_=>trivial;refine aP (aS rfl (EF _) func193 (by simp only[bU,bS,aZ,kP,h4,kO,h5,kN,h9,EF];rfl)) ?_;refine(FT H.dk N x.p H.db H.cdb H.dq H.cdq W (k2.below A).ma.rd.dk).mono ?_;rintro r W3 ⟨U,S,rfl,M,kF⟩;exact⟨_,rfl,kF,U,S,rfl,M.mono A.size⟩
   ·intro ρ y W C I A hd;refine iW dV A ((De D.heap.size (dR H.dk N x.p) (aL H.dk N))) (λ_ _ h=>h) ?_;have kM:=C 61 10 rfl;have kK:=hd 10 rfl;refine ak _ (run_move (.inl rfl) kM) (m:=?_);exact kK
   ·intro ρ y W C I A hd;refine iW dV A ((zg D.heap.size (dR H.dk N x.p))) (λ_ _ h=>h) ?_;have h7:=C 50 11 rfl;have h6:=hd 11 rfl;obtain⟨U,S,L,M⟩:=h6;refine ak (.agg #[U,S]) (by simp[execOp,go_sem,bW,h7,L]) (m:=?_);exact⟨U,S,rfl,M⟩
   ·intro ρ y W C I A hd;refine iW dV A (mW (.int .i64 (aL H.dk N))) (λ_ _ h=>h) ?_;have h7:=C 50 11 rfl;have h6:=hd 11 rfl;obtain⟨U,S,L,M⟩:=h6;refine ak (.int .i64 (aL H.dk N)) (by simp[execOp,go_sem,bW,h7,L])
   ·intro ρ y W C I A hd;refine iW dV A ((iP D.heap.size 38 2)) (λ_ _ h=>h) ?_;refine jg (.pointer (some ⟨W.heap.size,0,none⟩)) (aj) (by simp[execOp,go_sem,bW]) ((Below.refl _ _).alloc (az _) (.cells #[.slice none 0 0,.slice none 0 0] 38)) ?_;exact⟨_,_,rfl,A.size,aG.new _ _ _,rfl⟩
   ·intro ρ y W C I A hd;have E9:=C 9 14 rfl;have X:=hd 14 rfl;have kL:=C 62 12 rfl;have h3:=hd 12 rfl;obtain⟨U,S,e7,ht⟩:=h3;obtain⟨g3,F,e9,hF,l,hC⟩:=X;obtain⟨ab,cb,rfl,_⟩:=ht.b.rd;obtain⟨aq,cq,rfl,_⟩:=ht.q.rd;refine mH _ _ _ rfl g3 0 (.agg #[.slice ab _ cb,.slice aq _ cq]) [.slice ab _ cb,.slice aq _ cq] (E9.trans e9) (kL.trans e7) rfl F _ l (by rw[hC];exact az _) disk_size (bV (xn _ _ _ _ _ _)) ?_;intro w1 hj a;rw[show ∀(p q:Value),[p,q]=(#[p,q]:Array Value).toList fromλ_ _=>rfl,gK F _ (by rw[hC];rfl)]at hj;refine⟨A.grown a A.size (λk Z=>by cases Z;exact hF),⟨g3,_,e9,hF,hj,⟨_,_,rfl,ht.keep l (by decide) (by decide) a⟩⟩,?_⟩;intro k Z hX
    match k,Z,hX with
    | 0,_,_|1,_,_|2,_,_|3,_,_|4,_,_|5,_,_|6,_,_|7,_,_|8,_,_|9,_,_=>exactλh=>h
    | 10,_,_|11,_,_|12,_,_=>exactλ⟨c,q0,q1,q2⟩=>⟨c,q0,q1,q2.keep l (by decide) (by decide) a⟩
    | 13,_,_=>exactλh=>h
    | 14,_,_=>exactλq=>lh q hj ⟨_,l⟩ a
    | 15,_,h=>exact absurd rfl h
    | 16,_,_=>exactλh=>h
    | n+17,h,_=>exact absurd h (by omega)
   intro y W3 s z;replace s:Below D.heap.size D W3:=s;have kf:((De D.heap.size (dR H.dk N x.p) (aL H.dk N))).r (y 10) W3:=z 10 (by decide);have ke:((De D.heap.size (dR H.dk N x.p) (aL H.dk N))).r (y 11) W3:=z 11 (by decide);have kd:((zg D.heap.size (dR H.dk N x.p))).r (y 12) W3:=z 12 (by decide);have hA:((iP D.heap.size 38 2)).r (y 14) W3:=z 14 (by decide);have hz:=z 15 (by decide);clear z;simp only[dn,bW,bS,aZ];obtain⟨gd,cd,k9,ga,kp,U,S,hM,hJ⟩:=hz;simp only[yQ]at hM;subst hM;obtain⟨ab,cb,rfl,_⟩:=hJ.b.rd;obtain⟨aq,cq,rfl,_⟩:=hJ.q.rd;have k3:=k2.below s;have s3:=s2.below s;have hS:=ko.ext s;have hR:=hW.below s;have kx:=ae s2.size;have ki:=hD.below s;clear kf ke kd hA k2 s2 h0 ko hW s hD
   go_wp2_with fail
   refine(sV _ e (aL H.dk N) _ _ _ k3).mono ?_;rintro r w4 ⟨rfl,R,hv⟩;have s4:=s3.putB hv rfl rfl rfl;have hP:=hJ.keep k3.blk (by decide) (by decide) hv;have hQ:=hR.keep k3.blk (by decide) (by decide) hv;have hr:=cB hS k3.blk hv;have hs:=cB kp k3.blk hv;clear k3 s3 hJ hR hS kp hv ki;have kn:=R.blk.cell;have kC:=R.blk.free;unfold rD at kn;have hL:=hr.cell;have hM:=hs.cell;have n1:=mG R.blk hr (by decide);have n2:=mG R.blk hs (by decide);have n3:=mG hr hs (by decide);go_upto_region 9 with(fail)
   go_region
   refine TE (w:=w4.setCells b 7 [.slice K E.length J,.int .i64 ks]) (b:=b) (o:=5) (vs:=[.slice ab (dR H.dk N x.p).blocks.length cb,.slice aq (dR H.dk N x.p).queue.length cq]) (λW=>Exit.then _ _ _ _ W) λw6 hY kr => ?_;have km : -9223372036854775808<=ks/\ks<=9223372036854775807:=by
    have e1:ks=(eU H.ma.st x.f x.i).count:=by rw[<-hN];rfl
    have e2:=h.ma.c64;have e3:H.ma.st.count=H.ct:=rfl;rcases JU H.ma.st x.f x.i with e4|e4<;>rw[e1,e4]<;>omega
   have hK:=aD w4 b 7 [.slice K E.length J,.int .i64 ks];have kt:=R.blk.setCells [.slice K E.length J,.int .i64 ks] 7;have k5:=R.setS (hQ.mono h.bs) km kt hK;have s5:=s4.putB (H':={ H with ai:=K,ci:=J,fi:=E,ct:=ks }) hK rfl rfl rfl;have hO:=hP.keep R.blk (by decide) (by decide) hK;have hT:=kr k5.blk;have k6:=k5.setD (hO.mono (bi h.bs kx.out)) hT hY;have s6:=s5.putB (H':={ H with ai:=K,ci:=J,fi:=E,ct:=ks,db:=ab,cdb:=cb,dq:=aq,cdq:=cq,dk:=dR H.dk N x.p }) hY rfl rfl rfl;clear kr hT hY k5 s5 hO kt hK km R s4 hP hQ kn kC hL hM hr hs;obtain⟨g7,G,cur7,ku,k1,hZ,kA,kV,hU,kY,hV⟩:=k6.frame hf;have kz:g7=g/\G=off:=by have:H.af=some ⟨g7,G,none⟩:=ku;rw[h2]at this;simp only[jo,rH,and_true]at this;exact⟨this.1.symm,this.2.symm⟩
   obtain⟨rfl,rfl⟩:=kz;have kw:aB (MH.ma { H with ai:=K,ci:=J,fi:=E,ct:=ks,db:=ab,cdb:=cb,dq:=aq,cdq:=cq,dk:=dR H.dk N x.p }) f=x:=O.out;rw[kw]at hU;have kj:=putAt_one (v:=.bool false) (j:=10) hU (by rw[eX];decide)
   go_wp2_with (refine aC g7 (G+f*13+10) [.bool false] rfl rfl rfl _ _ hZ (by simp;omega) wm (λu L=>by cases bC.1 L;rfl) ?_)
   intro w8 kE kl;have kq : aG w8 g7 (bH cur7 (G+f*13) (ni { x with d:=false })) 66:=by have e1:ni { x with d:=false }=(ni x).set 10 (.bool false):=rfl;rw[e1,kj];exact kE
   have k8:=hV w8 { x with d:=false } kq kl;have s8:=s6.put (H':={ H with ai:=K,ci:=J,fi:=E,ct:=ks,db:=ab,cdb:=cb,dq:=aq,cdq:=cq,dk:=dR H.dk N x.p,m:=⟨H.m.fs.set f { x with d:=false },H.m.hand⟩ }) kl (.inr (.inl (by show oB H.af=_;rw[h2];rfl))) λy hy => .inl (Dt rfl rfl rfl hy);go_wp2;go_ret;rw[V.out,Y.out];refine⟨rfl,_,_,k8,s8,?_⟩;unfold MH.ma setFr;simp only[hN];rfl
  have V:Hid (lF ⟨H.ma,e⟩ f=⟨H.ma,e⟩):=ae (by unfold lF;simp only[O.out];rw[if_pos (.inr (.inr hE))]);have Y:Hid (lN H.ma f=false):=ae (by unfold lN;rw[O.out];simp only[Df,decide_eq_false_iff_not,Bool.not_eq_false'];exact⟨⟨h1,hd⟩,hE⟩);go_wp2;go_ret;rw[V.out,Y.out];exact⟨rfl,_,_,k2,s2,rfl⟩
def qP(s:St)(f i:Int):Prop:=(0<=f/\f<s.fs.length)/\0<=i/\i<(aN s f).b.length
theorem jN{s:St}{F:Nat}{x:Fi}(h:s.fs[F]?=some x):aN s F=x:=by
 unfold aN;rw[if_pos (by omega),bv,aW,h];rfl
theorem xL{s:St}{f:Int}(h:0<=f/\f<s.fs.length):s.fs[f.toNat]?=some (aN s f):=by
 unfold aN;rw[if_pos h.1,aW,aI (by omega)];rfl
theorem su{s:St}{f i:Int}(h:qP s f i):(aN s f).b[i.toNat]?=some (bO s f i):=by
 unfold bO;rw[aW,aI (by have:=h.2;omega)];rfl
theorem vC{s:St}{f i:Int}(h:qP s f i):bO s f i∈lT s:=
 lg.2 ⟨_,bP (xL h.1),bP (su h)⟩
theorem Md{s:St}{x:Int}(h:x∈lT s):∃f i,qP s f i/\bO s f i=x:=by
 obtain⟨fi,z,h2⟩:=lg.1 h;obtain⟨F,y,rfl⟩:=jJ.1 z;obtain⟨I,u,rfl⟩:=jJ.1 h2;have j:aN s F=s.fs[F]:=jN (aI y);have a:qP s F I:=⟨by omega,by omega,by rw[j];omega⟩;refine⟨F,I,a,?_⟩;have:=su a;rw[j,bv,aI u]at this;exact(aM this).symm
theorem posB_inj:∀ {l:List Int} {I J:Nat} {v:Int},(lG l).Nodup->l[I]?=some v->l[J]?=some v->0<=v->I=J
 | [],_,_,_,_,h,_,_=>by simp at h
 | a::l,0,0,_,_,_,_,_=>rfl
 | a::l,0,J+1,v,hn,h1,h2,h0=>by simp only[rz,jo]at h1;subst h1;rw[JN h0]at hn;exact((uz.1 hn).1 (jL.2 ⟨bP (by simpa using h2:l[J]?=some a),h0⟩)).elim
 | a::l,I+1,0,v,hn,h1,h2,h0=>by simp only[rz,jo]at h2;subst h2;rw[JN h0]at hn;exact((uz.1 hn).1 (jL.2 ⟨bP (by simpa using h1:l[I]?=some a),h0⟩)).elim
 | a::l,I+1,J+1,v,hn,h1,h2,h0=>by
  have:(lG l).Nodup:=by have j:(lG l).Sublist (lG (a::l)):=(List.sublist_cons_self a l).filter _;exact hn.sublist j
  have u:=posB_inj (I:=I) (J:=J) this (by simpa using h1) (by simpa using h2) h0;omega
theorem flat_inj:∀ {fs:List Fi} {F G I J:Nat} {x y:Fi} {v:Int},(lG (fs.flatMap Fi.b)).Nodup->fs[F]?=some x->fs[G]?=some y->x.b[I]?=some v->y.b[J]?=some v->0<=v->F=G/\I=J
 | [],_,_,_,_,_,_,_,_,h,_,_,_,_=>by simp at h
 | a::fs,F,G,I,J,x,y,v,hn,hF,hG,hI,hJ,h0=>by
  rw[nV,vk,yw]at hn;obtain⟨z,u,j⟩:=hn;cases F with
  | zero=>
   simp only[rz,jo]at hF;subst hF;cases G with
   | zero=>
    simp only[rz,jo]at hG;subst hG;exact⟨rfl,posB_inj z hI hJ h0⟩
   | succ G=>
    exact absurd rfl (j v (jL.2 ⟨bP hI,h0⟩) v (jL.2 ⟨lg.2 ⟨y,bP (by simpa using hG),bP hJ⟩,h0⟩))
  | succ F=>
   cases G with
   | zero=>
    simp only[rz,jo]at hG;subst hG;exact absurd rfl (j v (jL.2 ⟨bP hJ,h0⟩) v (jL.2 ⟨lg.2 ⟨x,bP (by simpa using hF),bP hI⟩,h0⟩))
   | succ G=>
    obtain⟨C,A⟩:=flat_inj u (by simpa using hF) (by simpa using hG) hI hJ h0;exact⟨by omega,A⟩
theorem Oq{s:St}(h:aT s=0){f i g j:Int}(u:qP s f i)(h2:qP s g j)(A:0<=bO s f i)(z:bO s f i=bO s g j):f=g/\i=j:=by
 have y:=(mF.1 h).2.2;obtain⟨D,C⟩:=flat_inj y (xL u.1) (xL h2.1) (su u) (by rw[z];exact su h2) A;have:=u.1;have:=u.2;have:=h2.1;have:=h2.2;omega
theorem wP{s:St}(h:aT s=0){f:Int}(j:0<=f/\f<s.fs.length):FD s.count (aN s f):=(mF.1 h).2.1 _ (bP (xL j))
theorem block_lt{s:St}(h:aT s=0){f i:Int}(j:qP s f i) : -1<=bO s f i/\bO s f i<s.count:=
 (wP h j.1).2.2.2 _ (bP (su j))
theorem zB{s:St}(h:aT s=0){f i:Int}(j:qP s f i):f<5/\i<12/\i*8<(aN s f).n/\(aN s f).n<=96:=by
 have z:=(mF.1 h).1;obtain⟨C,A,y,_⟩:=wP h j.1;have h2:=j.1;have u:=j.2;rw[y]at u;unfold eY at u;split at u<;>omega
structure Blocked (s s' : St) (f i b:Int):Prop where
 right:aT s' = 0
 count:s'.count=s.count
 len:s'.fs.length=s.fs.length
 size:∀g,(aN s' g).n=(aN s g).n
 lenb:∀g,(aN s' g).b.length=(aN s g).b.length
 at_:bO s' f i=b
 other:∀g j,0<=j->¬(g=f/\j=i)->bO s' g j=bO s g j
 b0:0<=b
 bc:b<s.count
 used:∀x,0<=x->(x∈lT s'↔x=b\/x∈lT s)
 was:(bO s f i=b/\s' = s)\/(bO s f i<0/\b ∉ lT s/\zu s' = zu s-1)
theorem qP.same{s:St}{f i:Int}(h:qP s f i)(j:s'.fs.length=s.fs.length)(h2:∀g,(aN s' g).b.length=(aN s g).b.length):qP s' f i:=⟨by rw[j];exact h.1,by rw[h2];exact h.2⟩
theorem blocked{s:St}{f i:Int}(h:dK s f i=0):qP s f i/\Blocked s (eU s f i) f i (eZ s f i):=by
 have K:=Kc h;obtain⟨H,F,I,x,v,rfl,rfl,O,L,t,m,R⟩:=CB h;have Z:=(bZ.1 O).1;have S:=(bZ.1 L).1;have r:qP s F I:=⟨by omega,by omega,by rw[t];omega⟩;refine⟨r,?_⟩;have J:=block_lt H r;rcases R with⟨C,A,G⟩|⟨N,C,G,A⟩
 ·rw[A,G];rw[m]at J;exact⟨H,rfl,rfl,λ_=>rfl,λ_=>rfl,m,λ_ _ _ _=>rfl,C,J.2,λy _=>⟨.inr,λh=>h.elim (λe=>by rw[e,<-m];exact vC r) id⟩,.inl ⟨m,rfl⟩⟩
 obtain⟨z,M⟩:=GK C;have w:=Jr M;have a:=K.2.2.2.2;rw[m]at a;have a:zu (eU s F I)=zu s-1:=by
  rcases a with⟨e,_⟩|⟨_,_,e⟩
  ·omega
  ·exact e
 have o:=K.1;rw[A]at o a;rw[A,G];generalize hs' : (⟨s.fs.set F ⟨x.n,x.b.set I (iD s)⟩,s.count⟩:St)=s' at *
 have k:∀g,aN s' g=if g=F then⟨x.n,x.b.set I (iD s)⟩else aN s g:=by
  intro g;rw[<-hs'];unfold aN;simp only
  by_cases D:0<=g
  ·rw[if_pos D,if_pos D,aW,nE]
   by_cases e:g=F
   ·rw[if_pos e,if_pos (by omega),if_pos (by omega)];rfl
   ·rw[if_neg e,if_neg (by omega),aW]
  ·rw[if_neg D,if_neg D,if_neg (by omega)]
 have p:s'.fs.length=s.fs.length:=by rw[<-hs'];exact bI
 have d:∀g,(aN s' g).b.length=(aN s g).b.length:=by
  intro g;rw[k]
  by_cases e:g=F
  ·rw[if_pos e,e,t];exact bI
  ·rw[if_neg e]
 have u:bO s' F I=iD s:=by unfold bO;rw[k,if_pos rfl,bv,aW,vU S];rfl
 have q:∀g j,0<=j->¬(g=(F:Int)/\j=(I:Int))->bO s' g j=bO s g j:=by
  intro g j X Y;unfold bO;rw[k]
  by_cases e:g=F
  ·rw[if_pos e,e,t];simp only;rw[aW,uH (by omega),aW]
  ·rw[if_neg e]
 refine⟨o,by rw[<-hs'],p,λg => ?_,d,u,q,C,z,λy W => ?_,.inr ⟨by rw[m];exact N,w,a⟩⟩
 ·rw[k]
  by_cases e:g=F
  ·rw[if_pos e,e,t]
  ·rw[if_neg e]
 constructor
 ·intro E;obtain⟨g,j,c,l⟩:=Md E
  by_cases e:g=(F:Int)/\j=(I:Int)
  ·rw[e.1,e.2,u]at l;exact .inl l.symm
  rw[q g j c.2.1 e]at l;refine .inr ?_;rw[<-l];exact vC ⟨by rw[<-p];exact c.1,by rw[<-d];exact c.2⟩
 rintro(e|E)
 ·rw[e,<-u];exact vC (r.same p d)
 obtain⟨g,j,c,l⟩:=Md E;have e:¬(g=(F:Int)/\j=(I:Int)):=by rintro⟨V,U⟩;rw[V,U,m]at l;omega
 rw[<-l,<-q g j c.2.1 e];exact vC (c.same p d)
def fI(m:Ma)(p:Nat)(n:Int):Option Pg:=onA (dI m p).ar n
def CZ(a b:Cc):Prop:=a.f<b.f\/a.f=b.f/\a.i<b.i
def Ol(x:Fr)(g:Pg)(w:Bool):Prop:=
 (0<=x.f->x.f=g.fi/\x.i=g.pg)/\(g.sh=true->0<=x.f)/\(w=true->g.wr=true)/\(w=true->0<=x.f->g.sh=true)/\(w=true->x.f<0->x.r<=1)
structure QA (m:Ma) (g:Pg) (e:En):Prop where
 sw:e.k=2->e.n<m.sl.length/\g.sh=false
 lt:e.k=1->e.n<m.m.fs.length
 fr:e.k=1->Ol (aB m e.n.toNat) g e.w
structure uW (m:Ma):Prop where
 file:∀c∈m.ca,qP m.st c.f c.i
 lt:∀c∈m.ca,0<=c.k/\c.k<m.m.fs.length
 fr:∀c∈m.ca,1<=(aB m c.k.toNat).r/\(aB m c.k.toNat).f=c.f/\(aB m c.k.toNat).i=c.i
 srt:m.ca.Pairwise CZ
def uf(m:Ma)(i:Int):Nat:=m.ca.countP λc=>decide (c.k=i)
structure Rt (m:Ma):Prop where
 pt:Pt m
 trim:(∀b:Int,0<=b->b<m.dk.blocks.length->b∈lT m.st\/m.dk.blocks.getD b.toNat zPg=zPg)/\∀q∈m.dk.queue,q.1∈lT m.st
 live:∀p,(dI m p).lv=false->(dI m p).ar=[]/\∀n,(ent m p n).k=0
 ca:uW m
 en:∀p n,(ent m p n).k≠0->∃g,fI m p n=some g/\QA m g (ent m p n)
 cf:∀i:Nat,i<m.m.fs.length->(aB m i).r=uf m i+bR m 1 i
 fc:∀i:Nat,i<m.m.fs.length->0<=(aB m i).f->∃c∈m.ca,c.k=i
 cs:∀s:Nat,s<m.sl.length->jW m s=bR m 2 s
structure Co (m:Ma):Prop where
 tail:∀c∈m.ca,dx (aB m c.k.toNat).p ((aN m.st c.f).n-c.i*8)=(aB m c.k.toNat).p
 clean:∀c∈m.ca,(aB m c.k.toNat).d=false->(aB m c.k.toNat).p=dB m c.f c.i
 anon:∀i:Nat,i<m.m.fs.length->(aB m i).d=true->0<=(aB m i).f
def eD(m:Ma)(p:Nat)(n:Int):Page × Bool × Int:=
 match fI m p n with
 | none=>(zPg,false,5)
 | some g=>
  if(ent m p n).k=1 then((jw m (ent m p n).n).p,decide ((jw m (ent m p n).n).f<0),0)
  else if(ent m p n).k=2 then(dD m.sw (ent m p n).n,true,aL m.sw (ent m p n).n)
  else if g.fi<0 then(zPg,false,0)
  else if(m.st.fs.length:Int)<=g.fi\/qx m.st g.fi g.pg=true then(zPg,false,9)
  else(aU m g.fi g.pg,false,0)
structure FY (m m' : Ma):Prop where
 sk:iF m m'
 files:m'.st.fs.length=m.st.fs.length
 size:∀f,(aN m'.st f).n=(aN m.st f).n
 lenb:∀f,(aN m'.st f).b.length=(aN m.st f).b.length
 see:∀p n,eD m' p n=eD m p n
 con:∀f i,qP m.st f i->aU m' f i=aU m f i
theorem FY.refl(m:Ma):FY m m:=⟨.refl m,rfl,λ_=>rfl,λ_=>rfl,λ_ _=>rfl,λ_ _ _=>rfl⟩
theorem FY.trans{a b c:Ma}(h:FY a b)(k:FY b c):FY a c:=
 ⟨h.sk.trans k.sk,k.files.trans h.files,λf=>(k.size f).trans (h.size f),λf=>(k.lenb f).trans (h.lenb f),λp n=>(k.see p n).trans (h.see p n),λf i j=>(k.con f i (j.same h.files h.lenb)).trans (h.con f i j)⟩
theorem JW(a:Cc):¬CZ a a:=λh=>by unfold CZ at h;omega
theorem srt_eq:∀ {l:List Cc},l.Pairwise CZ->∀ {a b:Cc},a∈l->b∈l->a.f=b.f->a.i=b.i->a=b
 | [],_,_,_,h,_,_,_=>by cases h
 | c::l,hs,a,b,ha,hb,e1,e2=>by
  obtain⟨j,h2⟩:=ui.1 hs;rcases dz.1 ha with e|ha<;>rcases dz.1 hb with e' | hb
  ·rw[e,e']
  ·have:=j b hb;rw[e]at e1 e2;unfold CZ at this;omega
  ·have:=j a ha;rw[e']at e1 e2;unfold CZ at this;omega
  ·exact srt_eq h2 ha hb e1 e2
theorem uW.uniq(h:uW m){a b:Cc}(y:a∈m.ca)(u:b∈m.ca)(z:a.k=b.k):a=b:=by
 have j:=h.fr a y;have h2:=h.fr b u;rw[z]at j;exact srt_eq h.srt y u (j.2.1.symm.trans h2.2.1) (j.2.2.symm.trans h2.2.2)
theorem Cr{k:Int}:∀ {l:List Cc},l.Pairwise CZ->(∀a∈l,∀b∈l,a.k=b.k->a=b)->l.countP (λc=>decide (c.k=k))<=1
 | [],_,_=>bq _
 | c::l,hs,hu=>by
  obtain⟨A,h2⟩:=ui.1 hs;have C:=Cr (k:=k) h2 (λa z b y=>hu a (jY _ z) b (jY _ y));rw[uU]
  by_cases j:c.k=k
  ·rw[if_pos (by simpa using j)];have:l.countP (λc=>decide (c.k=k))=0:=by rw[yX];intro d u h;have e:=hu c iN d (jY _ u) (by rw[j];exact(of_decide_eq_true h).symm);have:=A d u;rw[<-e]at this;exact JW _ this
   omega
  ·rw[if_neg (by simpa using j)];omega
theorem uW.one(h:uW m){c:Cc}(j:c∈m.ca):uf m c.k=1:=by
 have z:=Cr (k:=c.k) h.srt (λa y b u=>h.uniq y u);have h2:0<m.ca.countP (λd=>decide (d.k=c.k)):=yT.2 ⟨c,j,by simp⟩;unfold uf;omega
theorem uW.none{i:Int}(h:∀c∈m.ca,c.k≠i):uf m i=0:=by
 unfold uf;rw[yX];intro c u j;exact h c u (of_decide_eq_true j)
theorem yn{f i:Int}{c:Cc}:Cq f i c=true↔f<c.f\/c.f=f/\i<=c.i:=by unfold Cq;simp
theorem AO(l:List Cc)(f i:Int):sP l f i<=l.length:=by
 unfold sP;cases h:l.findIdx? (Cq f i)with
 | none=>exact az _
 | some k=>exact rU (si.1 h).1
theorem Jy{l:List Cc}(A:l.Pairwise CZ){f i:Int}:JY l f i=true↔∃c∈l,c.f=f/\c.i=i:=by
 unfold JY;constructor
 ·intro h;cases hc:l[sP l f i]? with
  | none=>rw[hc]at h;cases h
  | some c=>
   rw[hc]at h;simp only[ed,decide_eq_true_eq]at h;exact⟨c,bP hc,h⟩
 rintro⟨c,hc,u,h2⟩;obtain⟨j,C,rfl⟩:=jJ.1 hc;unfold sP;cases h:l.findIdx? (Cq f i)with
 | none=>
  have:=wu.1 h _ hc;rw[IM]at this;exact absurd (yn.2 (.inr ⟨u,by omega⟩)) this
 | some k=>
  obtain⟨y,z,b⟩:=si.1 h;have d:¬j<k:=λa=>b j a (yn.2 (.inr ⟨u,by omega⟩));have z:=yn.1 z;have:k=j:=by
   rcases gu k j with a|D
   ·have:=Af.1 A k j y C a;unfold CZ at this;omega
   ·omega
  subst this;simp only[qy,aI y,u,h2,decide_true,Bool.and_self]
theorem JL{l:List Cc}{f i:Int}(h:JY l f i=true):∃c,l[sP l f i]?=some c/\c.f=f/\c.i=i:=by
 unfold JY at h;cases hc:l[sP l f i]? with
 | none=>rw[hc]at h;cases h
 | some c=>
  rw[hc]at h;simp only[ed,decide_eq_true_eq]at h;exact⟨c,rfl,h⟩
def pY(m:Ma)(f i:Int):Option Cc:=m.ca.find? λc=>decide (c.f=f)&&decide (c.i=i)
theorem Rb(h:uW m){c:Cc}(u:c∈m.ca):pY m c.f c.i=some c:=by
 cases hl:pY m c.f c.i with
 | none=>
  have:=qR.1 hl c u;simp at this
 | some d=>
  have j:=uD hl;simp only[ed,decide_eq_true_eq]at j;rw[srt_eq h.srt (rP hl) u j.1 j.2]
theorem Qq{f i:Int}(h:∀c∈m.ca,¬(c.f=f/\c.i=i)):pY m f i=none:=by
 unfold pY;rw[qR];intro c u j;simp only[ed,decide_eq_true_eq]at j;exact h c u j
theorem oz(m:Ma)(f i:Int):(∃c,pY m f i=some c/\c∈m.ca/\c.f=f/\c.i=i)\/(pY m f i=none/\∀c∈m.ca,¬(c.f=f/\c.i=i)):=by
 cases hl:pY m f i with
 | none=>
  refine .inr ⟨rfl,λc u j => ?_⟩;have:=qR.1 hl c u;simp only[ed,decide_eq_true_eq]at this;exact this j
 | some d=>
  have h:=uD hl;simp only[ed,decide_eq_true_eq]at h;exact .inl ⟨d,rfl,rP hl,h⟩
theorem kP(m:Ma)(f i:Int):aU m f i=match pY m f i with
  | some c=>(jw m c.k).p
  | none=>dB m f i:=rfl
theorem iG(h:uW m){c:Cc}(j:c∈m.ca):aU m c.f c.i=(aB m c.k.toNat).p:=by
 rw[kP,Rb h j];rfl
theorem gJ{f i:Int}(h:∀c∈m.ca,¬(c.f=f/\c.i=i)):aU m f i=dB m f i:=by
 rw[kP,Qq h]
theorem ve(k:Nat):jw m (k:Int)=aB m k:=rfl
theorem IW{l:List Ar}(h:0<=ik l n):onA l n=some (kS (l.getD (ik l n).toNat zAr) n)/\pU n (l.getD (ik l n).toNat zAr)=true:=by
 induction l with
 | nil=>unfold ik idx at h;simp at h
 | cons a r ih=>
  rw[dw]
  by_cases j:pU n a=true
  ·have y:ik (a::r) n=0:=by unfold ik idx;rw[Aj,if_pos j];rfl
   rw[y,if_pos j];exact⟨rfl,j⟩
  have u:ik (a::r) n=if 0<=ik r n then ik r n+1 else -1:=by
   unfold ik idx;rw[Aj,if_neg j];cases r.findIdx? (pU n)with
   | none=>rfl
   | some k=>
    simp only[rT];rw[if_pos (by omega)];rfl
  rw[if_neg j]
  by_cases h2:0<=ik r n
  ·rw[u,if_pos h2];have e:(ik r n+1).toNat=(ik r n).toNat+1:=by omega
   rw[e];exact ih h2
  rw[u,if_neg h2]at h;omega
def vX(m:Ma)(g:Pg)(e:En):Page × Bool × Int:=
 if e.k=1 then((jw m e.n).p,decide ((jw m e.n).f<0),0)
 else if e.k=2 then(dD m.sw e.n,true,aL m.sw e.n)
 else if g.fi<0 then(zPg,false,0)
 else if(m.st.fs.length:Int)<=g.fi\/qx m.st g.fi g.pg=true then(zPg,false,9)
 else(aU m g.fi g.pg,false,0)
theorem jH{g:Pg}(h:fI m p n=some g):eD m p n=vX m g (ent m p n):=by
 unfold eD;rw[h];rfl
theorem sF(h:fI m p n=none):eD m p n=(zPg,false,5):=by
 unfold eD;rw[h]
theorem pg_in:∀ {l:List Ar} {u:Int} {n:Int} {g:Pg},srtF u l->onA l n=some g->0<=g.pg/\g.pg<12/\-1<=g.fi/\g.fi<5/\(g.fi<0->g.sh=false/\g.pg=0)/\0<=n/\n<64
 | [],_,_,_,_,h=>by cases h
 | a::r,u,n,g,hs,h=>by
  rw[dw]at h
  by_cases j:pU n a=true
  ·rw[if_pos j]at h;have E:=dQ.1 j;have h2:=hs.1;unfold aX at h2;split at h2
   ·cases h2
   split at h2
   ·cases h2
   rename_i D y;cases h;unfold kS;simp only;have A:¬(a.fi<0/\(a.ba≠0\/a.sh=true)):=λh=>y (.inl h);have C:¬(0<=a.fi/\12-(a.en-a.fr)<a.ba):=λh=>y (.inr h);refine⟨?_,?_,by omega,by omega,λz=>⟨?_,if_neg (by omega)⟩,by omega,by omega⟩
   ·split<;>omega
   ·split<;>omega
   cases hsh:a.sh with
   | false=>rfl
   | true=>exact absurd ⟨z,.inr hsh⟩ A
  rw[if_neg j]at h;exact pg_in hs.2.2 h
theorem Pt.pg(h:Pt m){g:Pg}(j:fI m p n=some g):0<=g.pg/\g.pg<12/\-1<=g.fi/\g.fi<5/\(g.fi<0->g.sh=false/\g.pg=0)/\0<=n/\n<64:=
 pg_in (lK (iX.1 (h.arN p)).2) j
theorem Eb{s:St}(h:aT s=0){f i:Int}(z:0<=f)(u:0<=i)(j:¬((s.fs.length:Int)<=f\/qx s f i=true)):qP s f i:=by
 have A:¬(s.fs.length:Int)<=f:=λh=>j (.inl h);have h2:¬qx s f i=true:=λh=>j (.inr h);have y:=(wP h (f:=f) (by omega)).2.2.1;refine⟨by omega,u,?_⟩;rw[y];unfold qx at h2;simpa using h2
theorem sS{s:St}(h:aT s=0){f i:Int}(j:qP s f i):¬((s.fs.length:Int)<=f\/qx s f i=true):=by
 have z:=(wP h j.1).2.2.1;have y:=j.1;have u:=j.2;rintro(h|h)
 ·omega
 unfold qx at h;have:=of_decide_eq_true h;omega
structure mr (s s' : St):Prop where
 len:s'.fs.length=s.fs.length
 size:∀f,(aN s' f).n=(aN s f).n
 lenb:∀f,(aN s' f).b.length=(aN s f).b.length
theorem mr.refl(s:St):mr s s:=⟨rfl,λ_=>rfl,λ_=>rfl⟩
theorem mr.of{s:St}(h:s' = s):mr s s':=by subst h;exact .refl _
theorem PT{s:St}(h:mr s s')(f i:Int):qx s' f i=qx s f i:=by unfold qx;rw[h.size]
theorem qK{g:Pg}{e:En}(A:aT m.st=0)(C:0<=g.pg)(y:mr m.st m'.st)(D:∀f i,qP m.st f i->aU m' f i=aU m f i)
 (z:e.k=1->(jw m' e.n).p=(jw m e.n).p/\(jw m' e.n).f=(jw m e.n).f) (h2:e.k=2->dD m'.sw e.n=dD m.sw e.n/\aL m'.sw e.n=aL m.sw e.n):vX m' g e=vX m g e:=by
 unfold vX
 by_cases k1:e.k=1
 ·rw[if_pos k1,if_pos k1,(z k1).1,(z k1).2]
 rw[if_neg k1,if_neg k1]
 by_cases h:e.k=2
 ·rw[if_pos h,if_pos h,(h2 h).1,(h2 h).2]
 rw[if_neg h,if_neg h,y.len,PT y]
 by_cases u:g.fi<0
 ·rw[if_pos u,if_pos u]
 rw[if_neg u,if_neg u]
 by_cases j:(m.st.fs.length:Int)<=g.fi\/qx m.st g.fi g.pg=true
 ·rw[if_pos j,if_pos j]
 ·rw[if_neg j,if_neg j,D _ _ (Eb A (by omega) C j)]
theorem Fx(h:Pt m)(u:iF m m')(j:mr m.st m'.st)(A:∀f i,qP m.st f i->aU m' f i=aU m f i)
 (z:∀p n g,fI m p n=some g->vX m' g (ent m' p n)=vX m g (ent m p n)):FY m m':=by
 refine⟨u,j.len,j.size,j.lenb,λp n => ?_,A⟩;have y:fI m' p n=fI m p n:=by unfold fI;rw[u.ar]
 cases hg:fI m p n with
 | none=>rw[sF hg,sF (y.trans hg)]
 | some g=>rw[jH hg,jH (y.trans hg)];exact z p n g hg
theorem Ql{x:Fr}(h:bT x=0):bT { x with d:=false }=0:=by
 rw[dN]at h ⊢;exact⟨h.1,λj=>⟨(h.2.1 j).1,rfl,(h.2.1 j).2.2.1,(h.2.1 j).2.2.2⟩,h.2.2⟩
theorem Sv{x:Int × Page}{b:Int}(j:0<=b)(h:∀q∈d.queue,q.1≠b/\0<=q.1):(jQ d x).blocks.getD b.toNat zPg=d.blocks.getD b.toNat zPg:=by
 unfold jQ;cases hd:d.queue with
 | nil=>rfl
 | cons q r=>
  simp only;split
  ·have:=h q (by rw[hd];exact iN);rw[aW,uH (by omega),aW]
  ·rfl
theorem SX{x q:Int × Page}(h:q∈(jQ d x).queue):q∈d.queue\/q=x:=by
 unfold jQ at h;cases hd:d.queue with
 | nil=>rw[hd]at h;simp at h;exact .inr h
 | cons a r=>
  rw[hd]at h;simp only at h;split at h
  ·rcases gV.1 h with h|h
   ·exact .inl (jY _ h)
   ·exact .inr (bC.1 h)
  rcases gV.1 h with h|h
  ·exact .inl h
  ·exact .inr (bC.1 h)
def iM(m:Ma)(f:Nat):Ma:=
 let x:=aB m f
 setFr { m with st:=eU m.st x.f x.i,dk:=jQ m.dk (eZ m.st x.f x.i,x.p) } f { x with d:=false }
theorem Lv{k:Kp}(h:Rt k.m)(z:f<k.m.m.fs.length):lF k f=if(aB k.m f).f<0\/(aB k.m f).d=false\/dK k.m.st (aB k.m f).f (aB k.m f).i≠0 then k else⟨iM k.m f,k.e⟩:=by
 unfold lF
 by_cases j:(aB k.m f).f<0\/(aB k.m f).d=false\/dK k.m.st (aB k.m f).f (aB k.m f).i≠0
 ·simp only[if_pos j]
 have y:dK k.m.st (aB k.m f).f (aB k.m f).i=0:=by
  by_cases e:dK k.m.st (aB k.m f).f (aB k.m f).i=0
  ·exact e
  ·exact absurd (.inr (.inr e)) j
 have u:=(blocked y).2;have a:aL k.m.dk (eZ k.m.st (aB k.m f).f (aB k.m f).i)=0:=kF.2 ⟨h.pt.dk,u.b0,by rw[h.pt.dkl];exact u.bc⟩;simp only[if_neg j];unfold iM dR;rw[a];simp only[jr,if_true];congr 1;split<;>simp_all
structure Cleaned (m m' : Ma) (f:Nat):Prop where
 rt:Rt m'
 co:Co m'
 vis:FY m m'
 sl:m'.sl=m.sl
 sw:m'.sw=m.sw
 ca:m'.ca=m.ca
 sp:m'.sp=m.sp
 fs:m'.m=(setFr m f { aB m f with d:=false }).m
theorem GD(h:Rt m)(G:Co m)(R:f<m.m.fs.length)(h0:0<=(aB m f).f)(hb:dK m.st (aB m f).f (aB m f).i=0):Cleaned m (iM m f) f:=by
 obtain⟨hF,A⟩:=blocked hb;obtain⟨c,v,J⟩:=h.fc f R h0;have l:=h.ca.fr c v;rw[J,bv]at l;have hD:aL m.dk (eZ m.st (aB m f).f (aB m f).i)=0:=kF.2 ⟨h.pt.dk,A.b0,by rw[h.pt.dkl];exact A.bc⟩;have z:eZ m.st (aB m f).f (aB m f).i<m.dk.blocks.length:=by rw[h.pt.dkl];exact A.bc
 have M:∀g,aB (iM m f) g=if g=f then{ aB m f with d:=false }else aB m g:=λg=>gB (m:={ m with st:=eU m.st (aB m f).f (aB m f).i,dk:=jQ m.dk (eZ m.st (aB m f).f (aB m f).i,(aB m f).p) }) (x:={ aB m f with d:=false }) R g;have a:∀g,(aB (iM m f) g).p=(aB m g).p/\(aB (iM m f) g).f=(aB m g).f/\(aB (iM m f) g).i=(aB m g).i/\(aB (iM m f) g).r=(aB m g).r:=by
  intro g;rw[M]
  by_cases e:g=f
  ·rw[if_pos e,e];exact⟨rfl,rfl,rfl,rfl⟩
  ·rw[if_neg e];exact⟨rfl,rfl,rfl,rfl⟩
 have o:(iM m f).m.fs.length=m.m.fs.length:=bI;have s:mr m.st (iM m f).st:=⟨A.len,A.size,A.lenb⟩;have w:∀p n,ent (iM m f) p n=ent m p n:=λ_ _=>rfl;have U:∀g j,qP m.st g j->¬(g=(aB m f).f/\j=(aB m f).i)->dB (iM m f) g j=dB m g j:=by
  intro g j t W;have I:bO (iM m f).st g j=bO m.st g j:=A.other g j t.2.1 W;unfold dB;rw[I,A.size g |> (λe=>show(aN (iM m f).st g).n=(aN m.st g).n from e)]
  by_cases D:0<=bO m.st g j
  ·rw[if_pos D,if_pos D];congr 1;show dD (jQ m.dk _) _=_;rw[zb h.pt.dk A.b0 z,if_neg];rintro⟨_,e⟩;simp only at e;rcases A.was with⟨hw,_⟩|⟨_,hn,_⟩
   ·exact W (Oq h.pt.st t hF (by omega) (by omega))
   ·exact hn (by rw[e];exact vC t)
  ·rw[if_neg D,if_neg D]
 have hv:dB (iM m f) (aB m f).f (aB m f).i=(aB m f).p:=by have I:bO (iM m f).st (aB m f).f (aB m f).i=eZ m.st (aB m f).f (aB m f).i:=A.at_;have X:=G.tail c v;rw[J,bv,<-l.2.1,<-l.2.2]at X;unfold dB;rw[I,if_pos A.b0,show(aN (iM m f).st (aB m f).f).n=(aN m.st (aB m f).f).n from A.size _];show dx (dD (jQ m.dk _) _) _=_;rw[zb h.pt.dk A.b0 z,if_pos ⟨hD,rfl⟩];exact X
 have y:∀g j,qP m.st g j->aU (iM m f) g j=aU m g j:=by
  intro g j t;have hl:pY (iM m f) g j=pY m g j:=rfl;rw[kP,kP,hl];rcases oz m g j with⟨d,C,hdm,_⟩|⟨C,K⟩
  ·rw[C];exact(a d.k.toNat).1
  rw[C];exact U g j t λe=>K c v ⟨by rw[e.1];exact l.2.1.symm,by rw[e.2];exact l.2.2.symm⟩
 have hE:Pt (iM m f):=by have C:bX (jQ m.dk (eZ m.st (aB m f).f (aB m f).i,(aB m f).p))=0:=zK h.pt.dk A.b0 z;exact{ fr:=FK h.pt.fr (Ql (h.pt.frE R)),sl:=h.pt.sl,sw:=h.pt.sw,dk:=C,st:=A.right,swl:=h.pt.swl,dkl:=by show((jQ m.dk _).blocks.length:Int)=_;rw[xg,h.pt.dkl];exact A.count.symm,spl:=h.pt.spl,ar:=h.pt.ar,tb:=h.pt.tb }
 have hr:uW (iM m f):=⟨λd C=>(h.ca.file d C).same A.len A.lenb,λd C=>by rw[o];exact h.ca.lt d C,λd C=>by have:=a d.k.toNat;rw[this.2.1,this.2.2.1,this.2.2.2];exact h.ca.fr d C,h.ca.srt⟩;refine⟨⟨hE,⟨λb D hG => ?_,λq E => ?_⟩,h.live,hr,λp n hk => ?_,λi F => ?_,λi F V => ?_,h.cs⟩,⟨λd C => ?_,λd C Y => ?_,λi F N => ?_⟩,?_,rfl,rfl,rfl,rfl,rfl⟩
 ·have hC : b<m.dk.blocks.length:=by have:((iM m f).dk.blocks.length)=m.dk.blocks.length:=xg _ _;omega
  by_cases H:b∈lT m.st
  ·exact .inl ((A.used b D).2 (.inr H))
  by_cases e:b=eZ m.st (aB m f).f (aB m f).i
  ·exact .inl ((A.used b D).2 (.inl e))
  refine .inr ?_;show(jQ m.dk _).blocks.getD b.toNat zPg=zPg;rw[Sv D (λq E=>⟨λe=>H (by rw[<-e];exact h.trim.2 q E),((jK _).1 h.pt.dk).2.2 q E |>.1⟩)];exact(h.trim.1 b D hC).resolve_left H
 ·rcases SX E with E|rfl
  ·exact(A.used _ (((jK _).1 h.pt.dk).2.2 q E).1).2 (.inr (h.trim.2 q E))
  ·exact(A.used _ A.b0).2 (.inl rfl)
 ·obtain⟨g,O,u⟩:=h.en p n hk;refine⟨g,O,u.sw,λS=>by rw[o];exact u.lt S,λS => ?_⟩;have Z:=u.fr S;have h2:=a (ent m p n).n.toNat;unfold Ol at Z ⊢;rw[w,h2.2.1,h2.2.2.1,h2.2.2.2];exact Z
 ·rw[(a i).2.2.2];exact h.cf i (by rw[<-o];exact F)
 ·rw[(a i).2.1]at V;exact h.fc i (by rw[<-o];exact F) V
 ·rw[(a d.k.toNat).1,show(aN (iM m f).st d.f).n=(aN m.st d.f).n from A.size _];exact G.tail d C
 ·by_cases e:d.k.toNat=f
  ·have L:d=c:=h.ca.uniq C v (by have:=h.ca.lt d C;omega);subst L;rw[(a d.k.toNat).1,e];rw[<-l.2.1,<-l.2.2];exact hv.symm
  rw[M,if_neg e]at Y;rw[(a d.k.toNat).1,G.clean d C Y];refine(U d.f d.i (h.ca.file d C) λe2=>e ?_).symm;have L:d=c:=srt_eq h.ca.srt C v (by rw[e2.1];exact l.2.1) (by rw[e2.2];exact l.2.2);rw[L,J];exact bv f
 ·rw[(a i).2.1];rw[M]at N
  by_cases e:i=f
  ·rw[e];exact h0
  ·rw[if_neg e]at N;exact G.anon i (by rw[<-o];exact F) N
 refine Fx h.pt (iF.of rfl) s y λp n g O => ?_;rw[w];exact qK h.pt.st (h.pt.pg O).1 s y (λ_=>⟨(a _).1,(a _).2.1⟩) (λ_=>⟨rfl,rfl⟩)
end Go.Proofs.YthihaopabbpalaaGreat