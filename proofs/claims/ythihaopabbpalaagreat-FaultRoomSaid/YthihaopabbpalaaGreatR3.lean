import Derived.Test.YthihaopabbpalaaGreatR2
import Derived.BigQuiet
import Derived.BigRegion
import Derived.Deep.DeepCutAuto
import Derived.Deep.Light
import Derived.Deep.LoopGhost
import Derived.Deep.QuietTactic
import Derived.IntWalk
import Derived.Lib.LazyBuf
import Derived.Test.YthihaopabbpalaaGreatRows
import Derived.Lib.Hide
import Derived.Deep.RegionLaw
import Derived.Laws.Externs
import Derived.Laws.IdiomCopy
import Derived.Lib.AppendZerosOnto
import Derived.Lib.Overlaps
import Derived.Lib.SliceRun
set_option linter.unusedSimpArgs false
set_option linter.unusedVariables false
set_option maxHeartbeats 4000000
set_option maxRecDepth 100000
namespace Go.Proofs.YthihaopabbpalaaGreat
open _root_.Go.Proofs.Tryz
open Go.RowKit Go.Maps Pw
variable {B B' B0 b c c' f g i k off p q s sz:Nat} {P:Program} {Q:Exit -> Act -> World -> Prop} {T T' e t:TypeId} {a a':Option Addr} {cs cs' cur:Array Value} {d:wC} {kd n:Int} {l:List Int} {m m':Ma} {o:Oper} {ops:Array Oper} {rest:List Oper} {s':St} {v v':Value} {vs xs:List Value} {w w' w0 w1 w2:World} {x:Operand} {ρ:Operand -> Value}
structure PF where
 n:Int
 a:Option Addr
 l:List Int
 c:Nat
def PF.fi (p:PF):Fi:=⟨p.n,p.l⟩
def qw (p:PF):Array Value:=#[.int .i64 p.n,.slice p.a p.l.length p.c]
def qW (p:PF):List Value:=(qw p).toList
theorem lh (p:PF):(qW p).length=2:=rfl
theorem rA (p:PF):(qw p).all (·.oneCell')=true:=by simp[qw,Value.oneCell']
structure PF.good (w:World) (p:PF):Prop where
 le:p.l.length<=p.c
 mx:p.c<=maxLen
 nl:p.a=none->p.c=0
 rd:dZ w p.a (p.l.map fZ)
theorem PF.good.below {p:PF} (h:p.good w) (j:Below w.heap.size w w'):p.good w':=⟨h.le,h.mx,h.nl,h.rd.below j⟩
structure LZ (w:World) (a:Option Addr) (c:Nat) (ps:List PF):Prop where
 le:ps.length<=c
 mx:c<=maxLen
 nl:a=none->c=0
 rd:dZ w a (ps.flatMap qW)
 good:∀p∈ps,p.good w
theorem LZ.below {j:List PF} (h:LZ w a c j) (u:Below w.heap.size w w'):LZ w' a c j:=
 ⟨h.le,h.mx,h.nl,h.rd.below u,λp y=>(h.good p y).below u⟩
theorem xH {j:List PF} (h:dZ w a (j.flatMap qW)) (k:Nat) (u:k<j.length):∃b off p,a=some ⟨b,off,none⟩/\j[k]?=some p/\w.cell? ⟨b,off+k*2,none⟩=some (.int .i64 p.n)/\w.cell? ⟨b,off+k*2+1,none⟩=some (.slice p.a p.l.length p.c):=by
 obtain⟨b,off,z,y⟩:=h.elem lh (by decide) k u;exact⟨b,off,j[k],z,aH u,y 0 _ rfl,y 1 _ rfl⟩
def cK (ps:List PF) (k:Int):St:=⟨ps.map PF.fi,k⟩
def LV (a:Option Addr) (n c:Nat) (k:Int):Array Value:=#[.slice a n c,.int .i64 k]
theorem file_size:(Tryz.prog.info? 101).map (·.size)=some 2:=by kernel_rfl
theorem store_size:(Tryz.prog.info? 41).map (·.size)=some 2:=by kernel_rfl
theorem vQ (c:Int) (h:List Int) (p:PF) (r:List Fi):pz c h (p.fi::r)=if p.n<0\/96<p.n then 3 else if (p.l.length:Int)≠eY p.n then 2 else if iw c h p.l≠0 then iw c h p.l else pz c (h++p.l) r:=rfl
theorem Em (A:List PF) (k:Int) (a:Option Addr) (c:Nat) (w:World) (h:LZ w a c A) (hk64 : -9223372036854775808<=k/\k<=9223372036854775807) :
  Calls Tryz.prog 113 #[.agg (LV a A.length c k)] w λr w'=>r = .returned (.int .i64 (aR (cK A k)))/\Below w.heap.size w w':=by
 have kg:=@run_makeMap Tryz.prog;have kh:=bi h.le h.mx;unfold maxLen at kh;unfold LV;go_enter func113,ntmps113;go_upto_region 1 with (fail);refine iC (λW=>Code.wp _ _ _ _ W) λW0 hV O kd => ?_;clear kd
 by_cases H:5<A.length\/k<0\/80<k
 ·have d:Hid (aR (cK A k)=4):=ae (by unfold aR cK;rw[if_pos (by simpa using H)]);have I:=O.cell;have kl : 5<A.length\/(¬5<A.length/\k<0)\/(¬5<A.length/\¬k<0/\80<k):=by omega
  clear H;rcases kl with g|⟨g,g2⟩|⟨g,g2,g3⟩
  all_goals
   go_wp2;go_ret;exact⟨aW d.out.symm,hV⟩
 have s:Hid (aR (cK A k)=pz k (((A.take 0).map PF.fi).flatMap Fi.b) ((A.drop 0).map PF.fi)):=ae (by unfold aR cK;rw[if_neg (by simpa using H)];rfl);have g1:¬5<A.length:=by omega
 have g2:¬k<0:=by omega
 have g3:¬80<k:=by omega
 have I:=O.cell;clear H;go_upto_region 4 with (fail);clear I kg;refine Xq (λW=>Code.wp _ _ _ _ W) λW1 hU hW => ?_;have hE:=ag hV hU;have hP:=O.ext hU;have ki:w.heap.size<W0.heap.size:=O.lt;obtain⟨Z,ka⟩:∃g,g=W0.heap.size:=⟨_,rfl⟩;rw[<-ka] at hW ki ⊢;clear ka hV O hU;have hN : oZ W1 Z 0 (tu (((A.take 0).map PF.fi).flatMap Fi.b)):=hW;have I:=hP.cell;go_upto_region 5 with (fail);clear I hW
 go_loopw [26] (fun i wr => ∃(q n:Nat),q<=A.length/\i = .int .i64 q/\n<=12*q/\Below w.heap.size w wr/\aG wr w.heap.size #[.slice a A.length c,.int .i64 k] 41/\oZ wr Z n (tu (((A.take q).map PF.fi).flatMap Fi.b))/\Hid (aR (cK A k)=pz k (((A.take q).map PF.fi).flatMap Fi.b) ((A.drop q).map PF.fi))) (fun i _=>A.length-(intOf i).toNat)
 case atStart=>exact⟨0,0,aZ _,rfl,az _,hE,hP,hN,s⟩
 case round=>
  clear hE hP hN s;obtain⟨q,n,hq,rfl,hn,o,F,D,s⟩:=hrel
  by_cases hlt:q<A.length
  ·obtain⟨b,off,p,rfl,hp,c0,c1⟩:=xH (h.below o).rd q hlt;have hA:=(h.good p (bV hp)).below o;have Y:=drop_at hp;have N:=take_at hp;rw[Y,bR] at s;have hI:=ae N;clear Y N;generalize hseen:((A.take q).map PF.fi).flatMap Fi.b=seen at D s;have hs:=ae hseen;clear hseen hp
   go_wp2_with (refine aL rfl _ _ _ rfl (qw p) rfl rfl rfl file_size (rA _) ?_)
   intro w2 X J;have hf:=ag o X;have h1:=F.ext X;have h8:=D.below X;have ht:=hA.below X;clear o F D hA X c0 c1;have hS:=J.cell;have f0:(qw p)[0]?=some (.int .i64 p.n):=rfl;have f1:(qw p)[1]?=some (.slice p.a p.l.length p.c):=rfl
   by_cases E:p.n<0\/96<p.n
   ·have d:Hid (aR (cK A k)=3):=ae (by rw[s.out,vQ,if_pos E]);have ke : p.n<0\/(¬p.n<0/\96<p.n):=by omega
    clear E;rcases ke with g|⟨g,g2⟩
    all_goals
     go_wp2;go_ret;exact⟨aW d.out.symm,hf⟩
   have ha:Hid (aR (cK A k)=if (p.l.length:Int)≠eY p.n then 2 else if iw k seen p.l≠0 then iw k seen p.l else pz k (seen++p.l) ((A.drop (q+1)).map PF.fi)):=ae (by rw[s.out,vQ,if_neg E]);have g4:¬p.n<0:=by omega
   have g5:¬96<p.n:=by omega
   clear E s
   by_cases C:(p.l.length:Int)=eY p.n
   ·have z:Hid (aR (cK A k)=if iw k seen p.l≠0 then iw k seen p.l else pz k (seen++p.l) ((A.drop (q+1)).map PF.fi)):=ae (by rw[ha.out,if_neg (λS=>S C)]);have km:p.l.length<=12:=by have:=yx (n:=p.n) (by omega);omega
    have hT:=ae C;clear ha C;go_upto_region 9 with (fail);refine aN 7 [_,_,_,_,_,.v (.int .i64 (eY p.n)),_] (Gf wr.heap.size 1 rfl rfl (Gl J (V:=.slice p.a p.l.length p.c) (by simp[f1,underlying33]) rfl rfl rfl rfl (Gn rfl rfl rfl rfl (Gf wr.heap.size 0 rfl rfl (Gl J (V:=.int .i64 p.n) (by simp[f0]) rfl rfl rfl rfl (ah ?_ (Gb (.bool false) (by simp[go_sem,hT.out]) rfl rfl rfl rfl rfl (aF))))) (underlying33)))) (λ_=>rfl) rfl ?_
    ·intro ρ y W hw hn hb hd;have hZ:=hw 42 4 rfl;have H:y 4=_:=hd 4 rfl;have EF:∀f,ρ (.func f) = .func (.func f) #[] #[]:=λf=>hn (.func f) trivial;refine aO _ _ (aj rfl) (aT rfl (EF _) func88 (by kernel_rfl) (by kernel_rfl) (by simp only[bX,bR,aY,hZ,H,EF];rfl)) ?_;refine (BS p.n W (by omega)).mono ?_;rintro e w1 ⟨rfl,rfl⟩;exact⟨_,rfl,Below.refl _ _,rfl⟩
    intro y WA u _;have hD:=ag hf u;have h0:=h1.ext u;have h6:=h8.below u;have h5:=J.ext u;have hH:=ht.below u;clear hf h1 h8 J ht u hS;have hS:=h5.cell;have kc:Hid (iw k seen p.l=iw k (seen++p.l.take 0) (p.l.drop 0)):=ae (by simp);have h9:oZ WA Z n (tu (seen++p.l.take 0)):=by simpa using h6
    have kn:=hH.le;have kf:=hH.mx;have hK:=hH.rd;unfold maxLen at kf;clear h6 hH;go_upto_region 12 with (fail);clear hS f0 f1 h5
    go_loopw [48] (fun i wr => ∃(j m:Nat),j<=p.l.length/\i = .int .i64 j/\m<=n+j/\Below w.heap.size w wr/\aG wr w.heap.size #[.slice (some ⟨b,off,none⟩) A.length c,.int .i64 k] 41/\oZ wr Z m (tu (seen++p.l.take j))/\dZ wr p.a (p.l.map fZ)/\Hid (iw k seen p.l=iw k (seen++p.l.take j) (p.l.drop j))) (fun i _=>p.l.length-(intOf i).toNat)
    case atStart=>exact⟨0,n,aZ _,rfl,az _,hD,h0,h9,hK,kc⟩
    case round=>
     clear hD h0 h9 hK kc;obtain⟨j,m,hj,rfl,hm,o,F,D,hQ,K⟩:=hrel
     by_cases R:j<p.l.length
     ·obtain⟨x,hX⟩:∃x,p.l[j]?=some x:=⟨p.l[j],aH R⟩;obtain⟨b2,off2,hR,hc⟩:=kD hQ j R;rw[show p.l[j]=x from (cz.1 hX).2] at hc;have Y:=drop_at hX;have N:=take_at hX;rw[Y,vJ] at K;rw[hR];generalize hs2:seen++p.l.take j=seen2 at K D;have hv:Hid (seen++p.l.take (j+1)=seen2++[x]):=ae (by rw[N,<-jG,hs2]);have hJ:=ae hQ;have hL:=ae hR;have I:=F.cell;clear hX Y N hs2 hQ hR;have h3 : (j:Int)<(p.l.length:Int):=by omega
      by_cases G:x < -1\/k<=x
      ·have d:Hid (aR (cK A k)=3):=ae (by rw[z.out,K.out,if_pos G];rfl);have h2 : x < -1\/(¬x < -1/\k<=x):=by omega
       clear G;rcases h2 with g6|⟨g6,g7⟩
       all_goals
        go_wp2;go_ret;exact⟨aW d.out.symm,o⟩
      have g6:¬x < -1:=by omega
      have g7:¬k<=x:=by omega
      have hY:Hid (iw k seen p.l=if 0<=x/\x∈seen2 then 7 else iw k (seen2++[x]) (p.l.drop (j+1))):=ae (by rw[K.out,if_neg G]);clear K G;have hg:=D.look x (by omega)
      by_cases L:0<=x/\x∈seen2
      ·have d:Hid (aR (cK A k)=7):=ae (by rw[z.out,hY.out,if_pos L];rfl);rw[show tu seen2 x=true from decide_eq_true L.2] at hg;have M:0<=x:=L.1;clear L;go_wp2;go_ret;exact⟨aW d.out.symm,o⟩
      have kb:Hid (iw k seen p.l=iw k (seen++p.l.take (j+1)) (p.l.drop (j+1))):=ae (by rw[hY.out,if_neg L,hv.out]);have kk : ¬0<=x\/(0<=x/\tu seen2 x=false):=by
       by_cases M:0<=x
       ·exact .inr ⟨M,decide_eq_false λS=>L ⟨M,S⟩⟩
       ·exact .inl M
      clear L hY;rcases kk with M|⟨M,g9⟩
      ·clear hg
       go_wp2_with (refine xC D (by omega) rfl _ _ _ rfl rfl x rfl rfl (by omega) ?_)
       intro w6 U t;rw[Ev,<-hv.out] at U;have hr:=o.grown t o.size (λk hk=>by cases hk;omega);have hO:=F.grown t (λe=>by have:=aM e;omega);have hz:=D.rdv hJ.out t;clear o F D t I hc;go_wp2;go_roundw
       case rel=>exact⟨j+1,m+1,by omega,by go_num,by omega,hr,hO,U,(by rw[<-hL.out];exact hz),kb⟩
       case measure=>simp[intOf];omega
      rw[g9] at hg
      go_wp2_with (refine xC D (by omega) rfl _ _ _ rfl rfl x rfl rfl (by omega) ?_)
      intro w6 U t;rw[Ev,<-hv.out] at U;have hr:=o.grown t o.size (λk hk=>by cases hk;omega);have hO:=F.grown t (λe=>by have:=aM e;omega);have hz:=D.rdv hJ.out t;clear o F D t I hc;go_wp2;go_roundw
      case rel=>exact⟨j+1,m+1,by omega,by go_num,by omega,hr,hO,U,(by rw[<-hL.out];exact hz),kb⟩
      case measure=>simp[intOf];omega
     have d:Hid (aR (cK A k)=pz k (((A.take (q+1)).map PF.fi).flatMap Fi.b) ((A.drop (q+1)).map PF.fi)):=ae (by
      have e0:iw k seen p.l=0:=by rw[K.out,qO (by omega)];rfl
      rw[z.out,if_neg (λS=>S e0),hI.out,jS,fE,hs.out];simp[PF.fi])
     have kj:oZ wr Z m (tu (((A.take (q+1)).map PF.fi).flatMap Fi.b)):=by rw[ji (by omega)] at D;rw[hI.out,jS,fE,hs.out];simpa[PF.fi] using D
     have h3 : ¬(j:Int)<(p.l.length:Int):=by omega
     clear D K z;go_wp2;go_roundw
     case rel=>exact⟨q+1,m,by omega,by go_num,by omega,o,F,kj,d⟩
     case measure=>simp[intOf];omega
   have d:Hid (aR (cK A k)=2):=ae (by rw[ha.out,if_pos C]);have hT:((p.l.length:Int) != eY p.n)=true:=by rw[bne_iff_ne];exact C
   clear ha C;go_upto_region 9 with (fail);refine aN 7 [_,_,_,_,_,.v (.int .i64 (eY p.n)),_] (Gf wr.heap.size 1 rfl rfl (Gl J (V:=.slice p.a p.l.length p.c) (by simp[f1,underlying33]) rfl rfl rfl rfl (Gn rfl rfl rfl rfl (Gf wr.heap.size 0 rfl rfl (Gl J (V:=.int .i64 p.n) (by simp[f0]) rfl rfl rfl rfl (ah ?_ (Gb (.bool true) (by simp[go_sem,hT]) rfl rfl rfl rfl rfl (aF))))) (underlying33)))) (λ_=>rfl) rfl ?_
   ·intro ρ y W hw hn hb hd;have hZ:=hw 42 4 rfl;have H:y 4=_:=hd 4 rfl;have EF:∀f,ρ (.func f) = .func (.func f) #[] #[]:=λf=>hn (.func f) trivial;refine aO _ _ (aj rfl) (aT rfl (EF _) func88 (by kernel_rfl) (by kernel_rfl) (by simp only[bX,bR,aY,hZ,H,EF];rfl)) ?_;refine (BS p.n W (by omega)).mono ?_;rintro e w1 ⟨rfl,rfl⟩;exact⟨_,rfl,Below.refl _ _,rfl⟩
   intro y WA u _;go_wp2;go_ret;exact⟨aW d.out.symm,ag hf u⟩
  have d:Hid (aR (cK A k)=0):=ae (by rw[s.out,qO (by omega)];rfl);go_wp2;go_ret;exact⟨aW d.out.symm,o⟩
theorem NG (l:List Int) (a:Option Addr) (c:Nat) (w:World) (A:l.length<=c) (y:a=none->c=0) (z:dZ w a (l.map fZ)) (F:l.length*8<=140737488355328) :
  Calls Tryz.prog 105 #[.slice a l.length c] w λe w' => ∃v,e = .returned v/\Own w' w.heap.size 3 1 v l.length (l.map fZ)/\Below w.heap.size w w':=by
 cases a with
 | none=>
  have G:=y rfl;have D:l=[]:=kS (by omega);subst D;subst G;have C:=λW=>mW (P:=Tryz.prog) W 33 _ none 0 0 0 0 underlying33;go_enter func105,ntmps105;go_wp2;go_ret;exact⟨_,rfl,by simpa using Own.nil _ _ _ _,Below.refl _ _⟩
 | some ad=>
  have C:=λW=>mW (P:=Tryz.prog) W 33 _ (some ad) l.length c 0 0 underlying33;go_enter func105,ntmps105
  go_wp2_with (at_builtin;go_must (refine fK rfl _ _ 33 rfl w.heap.size 3 (.int .i64 0) 1 8 underlying33 int_info rfl (by decide) _ 0 [] rfl ?own (some ad) l.length c (l.map fZ) rfl (λh=>(by cases h)) A (JX l) ?rd (KQ l) (by unfold maxLen;omega) (by simpa using F) ?bb ?k))
  case own=>exact⟨rfl,.inr ⟨w.heap.size,0,0,#[],rfl,az _,aG.new _ _ _,az _,aZ _,by simp,λj u h=>by simp at h⟩⟩
  case rd=>exact z.below ((Below.refl _ _).alloc (az _) _)
  case bb=>exact gK _ _
  intro v w1 b d;go_wp2;go_ret;exact⟨v,rfl,by simpa using b,((Below.refl _ _).alloc (az _) _).grown d (gK _ _) (λk E=>by cases E;exact az _)⟩
theorem file_info:(Tryz.prog.info? 101).map (λi=>(i.zero,i.size,i.bytes))=some (some (.agg #[.int .i64 0,.slice none 0 0]),2,32):=by kernel_rfl
theorem Vp (p:PF):∀u∈qW p,u.oneCell' = true:=by
 intro u h;have:=rA p;rw[<-mE,eZ] at this;exact this u h
def nT (p:PF):Value:=.slice p.a p.l.length p.c
structure qC (w:World) (B:Nat) (v:Value) (ps:List PF):Prop where
 own:Own w B 101 2 v ps.length (ps.flatMap qW)
 each:∀(i:Nat) p,ps[i]?=some p->Own w B 3 1 (nT p) p.l.length (p.l.map fZ)
 apart:∀(i j:Nat) p q,i<j->ps[i]?=some p->ps[j]?=some q->Apart (nT p) (nT q)
theorem qC.rd {j:List PF} (h:qC w B v j):∃a c,v = .slice a j.length c/\LZ w a c j:=by
 obtain⟨a,c,rfl,F,h2,E,D⟩:=h.own.rd;refine⟨a,c,rfl,F,h2,E,D,λp A => ?_⟩;obtain⟨i,C,rfl⟩:=jI.1 A;obtain⟨a',c',e,k1,z,y,u⟩:=(h.each i _ (aH C)).rd;unfold nT at e;simp only[mJ] at e;obtain⟨rfl,_,rfl⟩:=e;exact⟨k1,z,y,u⟩
theorem qC.below {j:List PF} (h:qC w B v j) (u:Below w.heap.size w w'):qC w' B v j:=
 ⟨h.own.below u,λi p y=>(h.each i p y).below u,h.apart⟩
theorem qC.mono {j:List PF} (h:qC w B v j) (u:B'<=B):qC w B' v j:=
 ⟨h.own.mono u,λi p y=>(h.each i p y).mono u,h.apart⟩
theorem qC.keep {u:List PF} (h:qC w B v u) (y:aG w g cs T) (A:T≠101) (h2:T≠3) (j:w.grownBy w' (some g)):qC w' B v u:=
 ⟨ax h.own y A j,λi p z=>ax (h.each i p z) y h2 j,h.apart⟩
theorem qC.nil (w:World) (B:Nat):qC w B (.slice none 0 0) []:=⟨Own.nil _ _ _ _,λi p h=>by simp at h,λi j p q _ h=>by simp at h⟩
def Ws (ps:List PF):Prop:=ps.length*32<=140737488355328/\∀p∈ps,p.l.length*8<=140737488355328
theorem qC.app {u:List PF} (h:qC w B v u) {p:PF} (E:Own w' B 101 2 v' (u.length+1) (u.flatMap qW++qW p)) (D:Own w B 3 1 (nT p) p.l.length (p.l.map fZ)) (A:w.grownBy w' v.ownBlock)
 (G:∀(i:Nat) q,u[i]?=some q->Apart (nT q) (nT p)):qC w' B v' (u++[p]) where
 own:=by rw[jf,fE];simpa using E
 each:=λi q y=>by
  by_cases C:i<u.length
  ·rw[kF C] at y;exact Ae (h.each i q y) h.own (by decide) A
  rw[jU (by omega)] at y;have c:i-u.length=0:=by
   rcases tK (i-u.length) with e|e
   ·exact e
   ·rw[fw (by simp;omega)] at y;cases y
  rw[c] at y;cases y;exact Ae D h.own (by decide) A
 apart:=λi j q r b y z=>by
  have C:i<u.length:=by have:=(cz.1 z).1;simp at this;omega
  rw[kF C] at y
  by_cases F:j<u.length
  ·rw[kF F] at z;exact h.apart i j q r b y z
  rw[jU (by omega)] at z;have a:j-u.length=0:=by
   rcases tK (j-u.length) with e|e
   ·exact e
   ·rw[fw (by simp;omega)] at z;cases z
  rw[a] at z;cases z;exact G i q y
theorem slfile_size:(Tryz.prog.info? 39).map (·.size)=some 1:=by kernel_rfl
theorem uX (a:Option Addr) (n c:Nat) (k:Int):(#[Value.slice a n c,Value.int .i64 k]:Array Value).all (·.oneCell')=true:=by simp[Value.oneCell']
def We (B:Nat) (n:Int) (l:List Int):mQ:=⟨λv w => ∃u,v = .agg #[.int .i64 n,u]/\Own w B 3 1 u l.length (l.map fZ),λ_ _ _ hb ⟨u,h1,h2⟩=>⟨u,h1,h2.below hb⟩⟩
def WP (B:Nat) (n:Int) (l:List Int):mQ:=⟨λv w => ∃g p,v = .slice (some ⟨g,0,none⟩) 1 1/\p.n=n/\p.l=l/\dZ w (some ⟨g,0,none⟩) (qW p)/\Own w B 3 1 (nT p) p.l.length (p.l.map fZ),by
 rintro v w w' hb ⟨g,p,h1,h2,h3,h4,h5⟩;exact⟨g,p,h1,h2,h3,h4.below hb,h5.below hb⟩⟩
theorem JN (G:List PF) (k:Int) (a:Option Addr) (c:Nat) (w:World) (h:LZ w a c G) (hz:Ws G) :
  Calls Tryz.prog 60 #[.agg (LV a G.length c k)] w λr w' => ∃v M,r = .returned (.agg #[v,.int .i64 k])/\qC w' w.heap.size v M/\M.map PF.fi=G.map PF.fi/\Below w.heap.size w w':=by
 have kq:=bi h.le h.mx;unfold maxLen at kq;unfold LV;go_enter func60,ntmps60;go_upto_region 1 with (fail);refine wH (λW=>Code.wp _ _ _ _ W) λW0 kh hE hH km => ?_;clear km;have hO:=hE.cell;go_upto_region 2 with (refine aL rfl _ _ _ rfl #[.slice none 0 0,.int .i64 k] rfl rfl rfl store_size (uX none 0 0 k) ?_);clear hO;intro W1 J hL;have hm:=ag kh J;have hW:=hE.ext J;have h9:=hH.ext J;have ks:w.heap.size+1<W0.heap.size:=hH.lt;obtain⟨H,kj⟩:∃g,g=W0.heap.size:=⟨_,rfl⟩;rw[<-kj] at hL ks ⊢;clear kj kh hE hH J;have hO:=hW.cell;go_upto_region 3 with (fail);clear hO
 go_loopw [12] (fun i wr => ∃(q:Nat) (v:Value) (C:List PF),q<=G.length/\i = .int .i64 q/\Below w.heap.size w wr/\aG wr (w.heap.size+1) #[.slice none 0 0,.int .i64 0] 41/\aG wr H #[v,.int .i64 k] 41/\qC wr w.heap.size v C/\C.map PF.fi=(G.take q).map PF.fi) (fun i _=>G.length-(intOf i).toNat)
 case atStart=>exact⟨0,_,[],aZ _,rfl,hm,h9,hL,qC.nil _ _,rfl⟩
 case round=>
  clear hm hW h9 hL;obtain⟨q,v,C,hq,rfl,S,Y,I,hF,hB⟩:=hrel;have hI:=ae hB;clear hB
  by_cases hlt:q<G.length
  ·obtain⟨b,off,p,rfl,Z,c0,c1⟩:=xH (h.below S).rd q hlt;have hM:=h.good p (bV Z);have kn:=hz.2 p (bV Z);have hX:=take_at Z;have kb:Hid (C.map PF.fi++[p.fi]=(G.take (q+1)).map PF.fi):=ae (by rw[hX,jS,hI.out];rfl);have kH:C.length<=q:=by have:=congrArg List.length hI.out;simp[tT hq] at this;omega
   clear Z hX
   go_wp2_with (refine aL rfl _ _ _ rfl (qw p) rfl rfl rfl file_size (rA _) ?_)
   intro w2 R hN;have m:=ag S R;have h8:=Y.ext R;have hK:=I.ext R;have N:=hF.below R;have kE:H<wr.heap.size:=I.lt;clear S Y I hF R c0 c1;obtain⟨L,K,rfl,ki⟩:=N.rd;have kI:=ki.le;have kp:=ki.mx;unfold maxLen at kp;have kD:=hz.1;have kt:=hM.below m;go_upto_region 5 with (fail);refine EX 9 10 [] [mV (.pointer (some ⟨H,0,none⟩)),mV (.slice L C.length K),mV (.pointer (some ⟨wr.heap.size,0,none⟩)),mV (.int .i64 p.n),mV (.pointer (some ⟨wr.heap.size,1,none⟩)),mV (.slice p.a p.l.length p.c),(nz w2.heap.size 3 1 p.l.length (p.l.map fZ)),(We w2.heap.size p.n p.l),(WP w2.heap.size p.n p.l)] (by kernel_rfl) (by kernel_rfl) (by kernel_rfl) (by kernel_rfl) (by kernel_rfl) (by kernel_rfl) (by decide) (by decide) _ rfl (by kernel_rfl) (ah ?_ (ah ?_ (ah ?_ (ah ?_ (ah ?_ (ah ?_ (ah ?_ (ah ?_ (ah ?_ (aF)))))))))) (aF) rfl ?_
   ·refine aQ rfl ?_;intro ρ y W A D F E;have E3:ρ (.tmp 3) = .pointer (some ⟨H,0,none⟩):=(D (.tmp 3) rfl).trans rfl;refine ak (.pointer (some ⟨H,0,none⟩)) (aj rfl) (by simp[execOp,go_sem,E3]) rfl
   ·refine aQ rfl ?_;intro ρ y W A D F E;have kC:=A 16 0 rfl;have h0:y 0 = .pointer (some ⟨H,0,none⟩):=E 0 rfl;refine ak (.slice L C.length K) (aj rfl) (by simp[execOp,go_sem,kC,h0,(hK.ext F).cell,underlying39]) rfl
   ·refine aQ rfl ?_;intro ρ y W A D F E;have E5:ρ (.tmp 5) = .pointer (some ⟨wr.heap.size,0,none⟩):=(D (.tmp 5) rfl).trans rfl;refine ak (.pointer (some ⟨wr.heap.size,0,none⟩)) (aj rfl) (by simp[execOp,go_sem,E5]) rfl
   ·refine aQ rfl ?_;intro ρ y W A D F E;have kB:=A 18 2 rfl;have h2:y 2 = .pointer (some ⟨wr.heap.size,0,none⟩):=E 2 rfl;refine ak (.int .i64 p.n) (aj rfl) (by simp[execOp,go_sem,kB,h2,(hN.ext F).cell,qw]) rfl
   ·refine aQ rfl ?_;intro ρ y W A D F E;have E5:ρ (.tmp 5) = .pointer (some ⟨wr.heap.size,0,none⟩):=(D (.tmp 5) rfl).trans rfl;refine ak (.pointer (some ⟨wr.heap.size,1,none⟩)) (aj rfl) (by simp[execOp,go_sem,E5]) rfl
   ·refine aQ rfl ?_;intro ρ y W A D F E;have kz:=A 20 4 rfl;have h4:y 4 = .pointer (some ⟨wr.heap.size,1,none⟩):=E 4 rfl;refine ak (.slice p.a p.l.length p.c) (aj rfl) (by simp[execOp,go_sem,kz,h4,(hN.ext F).cell,qw]) rfl
   ·refine aQ rfl ?_;intro ρ y W A D F E;have ky:=A 21 5 rfl;have h5:y 5 = .slice p.a p.l.length p.c:=E 5 rfl;have EF:∀f,ρ (.func f) = .func (.func f) #[] #[]:=λf=>D (.func f) trivial;refine aO _ _ (aj rfl) (aT rfl (EF _) func105 (by kernel_rfl) (by kernel_rfl) (by simp only[bX,bR,aY,ky,h5,EF];rfl)) ?_;refine (NG p.l p.a p.c W hM.le hM.nl (kt.below F).rd kn).mono ?_;rintro e w1 ⟨u,rfl,I,J⟩;exact⟨u,rfl,J,I.mono F.size⟩
   ·refine aQ rfl ?_;intro ρ y W A D F E;have kA:=A 19 3 rfl;have h3:y 3 = .int .i64 p.n:=E 3 rfl;have kx:=A 22 6 rfl;have h6:((nz w2.heap.size 3 1 p.l.length (p.l.map fZ))).r (y 6) W:=E 6 rfl;obtain⟨x6,c6,e6,_⟩:=Own.rd h6;refine ak (.agg #[.int .i64 p.n,y 6]) (aj rfl) (by simp[execOp,go_sem,kA,h3,kx,e6]) ?_;exact⟨_,rfl,h6⟩
   ·refine aQ rfl ?_;intro ρ y W A D F E;have kw:=A 23 7 rfl;have h7:((We w2.heap.size p.n p.l)).r (y 7) W:=E 7 rfl;obtain⟨u,e7,kd⟩:=h7;obtain⟨x7,c7,rfl,_⟩:=Own.rd kd;refine jc (.slice (some ⟨W.heap.size,0,none⟩) 1 1) (aj rfl) (by simp[execOp,go_sem,kw,e7,qw]) ((Below.refl _ _).alloc (az _) (.cells (qw ⟨p.n,x7,p.l,c7⟩) 101)) ?_;exact⟨_,⟨p.n,x7,p.l,c7⟩,rfl,rfl,rfl,dZ.new _ _ _,kd.alloc _⟩
   intro ρ y WA o I A D hV s d;cases I;have hU:y 0 = .pointer (some ⟨H,0,none⟩):=d 0 (by decide);have hD:y 1 = .slice L C.length K:=d 1 (by decide);have hT:y 2 = .pointer (some ⟨wr.heap.size,0,none⟩):=d 2 (by decide);have hS:y 3 = .int .i64 p.n:=d 3 (by decide);have hR:y 4 = .pointer (some ⟨wr.heap.size,1,none⟩):=d 4 (by decide);have hQ:y 5 = .slice p.a p.l.length p.c:=d 5 (by decide);have kG:((nz w2.heap.size 3 1 p.l.length (p.l.map fZ))).r (y 6) WA:=d 6 (by decide);have kF:((We w2.heap.size p.n p.l)).r (y 7) WA:=d 7 (by decide);have kl:((WP w2.heap.size p.n p.l)).r (y 8) WA:=d 8 (by decide);have kk:=A 17 1 rfl;rw[hD] at kk;have kv:=A 24 8 rfl;have EC:∀v,ρ (.const v)=v:=λv=>D (.const v) trivial;have EF:∀f,ρ (.func f) = .func (.func f) #[] #[]:=λf=>D (.func f) trivial;obtain⟨g8,V,e8,ko,kr,hA,hj⟩:=kl;refine Ja (aj rfl) (qi (.tmp 17) (.tmp 24) 39 rfl w.heap.size 101 _ 2 32 underlying39 file_info rfl (by decide) _ _ _ kk (N.own.below s) _ 1 1 (qW V) (kv.trans e8) (λe=>by cases e) (az _) rfl hA (Vp _) (by unfold maxLen;omega) (by omega) (bi m.size s.size)) ?_;rintro v2 w4 ⟨hh,t,hx⟩;clear d A D hV;simp only[lay,Nat.reduceAdd,Nat.reduceLT,Nat.reduceEqDiff,reduceIte,decide_true,decide_false,if_true,tY,if_false,zK,uF,tZ,yt,zL,yC,hU,hD,hT,hS,hR,hQ];clear hU hD hT hS hR hQ;have x:=ag m s;have hY:=h8.ext s;have kc:=hK.ext s;have O:=N.below s;have hC:∀(i:Nat) r,C[i]?=some r->Apart (nT r) (nT V):=by intro i r hi g hg ku;have h1:=Jz (N.each i r hi) g hg;have h2:=hj.ge g ku;omega
   have hc : Own w4 w.heap.size 101 2 v2 (C.length+1) (C.flatMap qW++qW V):=hh;have X:=O.app hc (hj.mono m.size) t hC;have hZ:=lD hY O.own (by decide) t;have hJ:=lD kc O.own (by decide) t;have ha:Below w.heap.size w w4:=x.grown t x.size (λk U=>O.own.ge k U);have ka:Hid ((C++[V]).map PF.fi=(G.take (q+1)).map PF.fi):=ae (by rw[jS,<-kb.out];congr 1;simp[PF.fi,ko,kr]);obtain⟨a4,c4,rfl,_⟩:=X.rd;rw[jf,De] at X ⊢;clear m h8 hK N s x hY kc O hh hc t hC hj hA hN hx
   go_wp2_with (refine aB rfl _ _ _ rfl H 0 _ [.slice a4 (C.length+1) c4] rfl rfl rfl _ _ hJ (show 0+1<=2 by decide) slfile_size (λu hu=>by cases bC.1 hu;rfl) ?_)
   intro w5 kf j;have hG:aG w5 (w.heap.size+1) _ _:=hZ.grown j (λe=>by have:=aM e;omega);have hP:=X.keep hJ (by decide) (by decide) j;have z:=ha.grown j ha.size (λk U=>by cases U;omega);have ke : aG w5 H #[.slice a4 (C.length+1) c4,.int .i64 k] 41:=kf;clear hJ hZ X ha j kf;go_wp2;go_roundw
   case rel=>exact⟨q+1,_,_,by omega,by go_num,z,hG,ke,hP,ka.out⟩
   case measure=>simp[intOf];omega
  obtain rfl:q=G.length:=by omega
  have kg:Hid (C.map PF.fi=G.map PF.fi):=ae (by rw[hI.out,yE]);obtain⟨L,K,rfl,_⟩:=hF.rd;have kJ:=I.cell
  go_wp2_with (refine aA rfl _ _ _ rfl (w.heap.size+1) #[.slice L C.length K,.int .i64 k] rfl rfl _ _ Y rfl store_size (uX _ _ _ _) ?_)
  intro w5 hG j;have hP:=hF.keep Y (by decide) (by decide) j;have z:=S.grown j S.size (λk U=>by cases U;omega);go_wp2;refine bodyPost_ret (v:=.agg #[.slice L C.length K,.int .i64 k]) (fA results60 _ _ (w.heap.size+1) _ _ _ rfl hG underlying41 rfl store_size) rfl ?_;exact⟨_,_,rfl,hP,kg.out,z⟩
def wL (ps:List PF):List Int:=ps.flatMap PF.l
theorem Al (h:List PF) (k:Int):lK (cK h k)=wL h:=by
 unfold lK cK wL;rw[Dn];rfl
theorem MO {h:List PF} {p:PF} (j:h[q]?=some p):wL (h.take (q+1))=wL (h.take q)++p.l:=by
 unfold wL;rw[take_at j,fE];simp
theorem Bw (A:List PF) (k x:Int) (a:Option Addr) (c:Nat) (w:World) (h:LZ w a c A) :
  Calls Tryz.prog 34 #[.agg (LV a A.length c k),.int .i64 x] w λr w'=>r = .returned (.bool (iD (cK A k) x))/\Below w.heap.size w w':=by
 have U:=bi h.le h.mx;unfold maxLen at U;unfold LV;go_enter func34,ntmps34;go_upto_region 1 with (fail);refine iC (λW=>Code.wp _ _ _ _ W) λW0 L e X => ?_;clear X;have R:=e.cell;go_upto_region 2 with (fail);clear R e
 go_loopw [12] (fun i wr => ∃(q:Nat),q<=A.length/\i = .int .i64 q/\¬x∈wL (A.take q)/\Below w.heap.size w wr) (fun i _=>A.length-(intOf i).toNat)
 case atStart=>exact⟨0,aZ _,rfl,by simp[wL],L⟩
 case round=>
  clear L;obtain⟨q,hq,rfl,z,d⟩:=hrel;have K:=ae z;clear z
  by_cases H:q<A.length
  ·obtain⟨b,off,p,rfl,G,c0,c1⟩:=xH (h.below d).rd q H;have t:=h.good p (bV G);have Y:=ae (MO G);have S:Hid (∀y∈p.l,y∈wL A):=ae (λy D=>kT.2 ⟨p,bV G,D⟩);have V:=bi t.le t.mx;unfold maxLen at V;clear G
   go_wp2_with (refine aL rfl _ _ _ rfl (qw p) rfl rfl rfl file_size (rA _) ?_)
   intro w2 M N;have g:=ag d M;have O:=N.cell;have f0:(qw p)[0]?=some (.int .i64 p.n):=rfl;have f1:(qw p)[1]?=some (.slice p.a p.l.length p.c):=rfl;clear d M c0 c1;go_upto_region 5 with (fail);clear O f0 f1 N
   go_loopw [19] (fun i wr => ∃(j:Nat),j<=p.l.length/\i = .int .i64 j/\¬x∈p.l.take j/\Below w.heap.size w wr) (fun i _=>p.l.length-(intOf i).toNat)
   case atStart=>exact⟨0,aZ _,rfl,by simp,g⟩
   case round=>
    clear g;obtain⟨j,hj,rfl,e,d⟩:=hrel;have J:=ae e;clear e
    by_cases E:j<p.l.length
    ·obtain⟨b2,I,v,Z⟩:=kD (t.rd.below d) j E;have u:p.l.take (j+1)=p.l.take j++[p.l[j]]:=take_at (aH E);have m:=ae (S.out _ (eO E));have o:=ae u;rw[v];clear u v;generalize p.l[j]=y at Z o m
     by_cases D:y=x
     ·have f:Hid (iD (cK A k) x=true):=ae (by unfold iD;rw[Al,<-D];exact decide_eq_true m.out);subst D;go_wp2;go_ret;exact⟨bY f.out.symm,d⟩
     have s:Hid (¬x∈p.l.take (j+1)):=ae (by
      rw[o.out];intro C;rcases gP.1 C with C|C
      ·exact J.out C
      ·exact D (bC.1 C).symm)
     have hs:(y==x)=false:=beq_eq_false_iff_ne.2 D;clear D;go_wp2;go_roundw
     case rel=>exact⟨j+1,by omega,by go_num,s.out,d⟩
     case measure=>simp[intOf];omega
    have s:Hid (¬x∈wL (A.take (q+1))):=ae (by
     have F:=J.out;rw[ji (by omega)] at F;rw[Y.out];intro C;rcases gP.1 C with C|C
     ·exact K.out C
     ·exact F C)
    go_wp2;go_roundw
    case rel=>exact⟨q+1,by omega,by go_num,s.out,d⟩
    case measure=>simp[intOf];omega
  have f:Hid (iD (cK A k) x=false):=ae (by have F:=K.out;rw[ji (by omega)] at F;unfold iD;rw[Al];exact decide_eq_false F);go_wp2;go_ret;exact⟨bY f.out.symm,d⟩
theorem OQ (l:List Int) (x:Int) (a:Option Addr) (c:Nat) (w:World) (A:dZ w a (l.map fZ)) (E:l.length<=9223372036854775807) :
  Calls Tryz.prog 220 #[.slice a l.length c,.int .i64 x] w λe w'=>e = .returned (.int .i64 (idx (λy=>decide (x=y)) l))/\Below w.heap.size w w':=by
 go_enter func220,ntmps220;go_wp2
 go_loopw [8] (fun i wr => ∃k:Nat,k<=l.length/\i = .int .i64 k/\Below w.heap.size w wr/\∀i (h:i<l.length),i<k->(fun y=>decide (x=y)) l[i]=false) (fun i _=>l.length-(intOf i).toNat)
 case atStart=>exact⟨0,aZ _,rfl,Below.refl _ _,λi _ h=>absurd h (fe _)⟩
 case round=>
  obtain⟨k,F,rfl,f,g⟩:=hrel;have C:=ae g;clear g
  by_cases u:k<l.length
  ·obtain⟨b,off,rfl,G⟩:=kD (A.below f) k u
   by_cases z:x=l[k]
   ·have d:=ae (uG (λy=>decide (x=y)) l k u C.out (decide_eq_true z));have D:(x==l[k])=true:=beq_iff_eq.2 z;clear z;go_wp2;go_ret;exact⟨aW d.out.symm,f⟩
   have j:=ae (show (λy=>decide (x=y)) l[k]=false from decide_eq_false z);have D:(x==l[k])=false:=beq_eq_false_iff_ne.2 z;clear z;go_wp2;go_roundw
   case rel=>exact⟨k+1,by omega,by go_num,f,mG C.out u j.out⟩
   case measure=>simp[intOf];omega
  have d:=ae (lY (λy=>decide (x=y)) l λi h=>C.out i h (by omega));go_wp2;go_ret;exact⟨aW d.out.symm,f⟩
theorem Jq (l:List Int) (x:Int) (a:Option Addr) (c:Nat) (w:World) (h:dZ w a (l.map fZ)) (j:l.length<=9223372036854775807) :
  Calls Tryz.prog 215 #[.slice a l.length c,.int .i64 x] w λe w'=>e = .returned (.bool (decide (x∈l)))/\Below w.heap.size w w':=by
 go_enter func215,ntmps215
 go_wp2_with fail
 refine (OQ l x a c _ h j).mono ?_;rintro e w2 ⟨rfl,d⟩;have b:=ae ((pu (λy=>decide (x=y)) l).trans (UK l x));go_wp2;go_ret;exact⟨bY b.out,d⟩
def hasB (x:Int) (p:PF):Bool:=decide (x∈p.l)
theorem Qs (p:PF) (g:Nat) (x:Int) (w:World) (y:aG w g #[.int .i64 x] 3) (u:p.good w) :
  Calls Tryz.prog 214 #[.agg #[.int .i64 p.n,.slice p.a p.l.length p.c],.pointer (some ⟨g,0,none⟩)] w λr w'=>r = .returned (.bool (hasB x p))/\Below w.heap.size w w':=by
 have i:=bi u.le u.mx;unfold maxLen at i;go_enter func214,ntmps214;go_upto_region 1 with (fail);refine iC (λW=>Code.wp _ _ _ _ W) λW0 b d f => ?_;clear f;have k:=(y.ext b).cell 0;have m:=d.cell;have h:=u.below b
 go_wp2_with fail
 refine (Jq p.l x p.a p.c _ h.rd (by omega)).mono ?_;rintro e w2 ⟨rfl,j⟩;go_wp2;go_ret;exact⟨rfl,ag b j⟩
theorem VN {j:List PF} (h:dZ w a (j.flatMap qW)) (k:Nat) (y:k<j.length):∃b off,a=some ⟨b,off,none⟩/\w.cell? ⟨b,off+k*2,none⟩=some (.int .i64 j[k].n)/\w.cell? ⟨b,off+k*2+1,none⟩=some (.slice j[k].a j[k].l.length j[k].c):=by
 obtain⟨b,off,z,u⟩:=h.elem lh (by decide) k y;exact⟨b,off,z,u 0 _ rfl,u 1 _ rfl⟩
theorem PU (l:List PF) (a:Option Addr) (c:Nat) (w:World) (z:dZ w a (l.flatMap qW)) (D:l.length<=9223372036854775807) (g:Nat) (x:Int) (C:aG w g #[.int .i64 x] 3) (y:∀p∈l,p.good w) :
  Calls Tryz.prog 219 #[.slice a l.length c,.func (.func 214) #[] #[.pointer (some ⟨g,0,none⟩)]] w λe w'=>e = .returned (.int .i64 (idx (hasB x) l))/\Below w.heap.size w w':=by
 go_enter func219,ntmps219;go_wp2
 go_loopw [8] (fun i wr => ∃k:Nat,k<=l.length/\i = .int .i64 k/\Below w.heap.size w wr/\∀i (h:i<l.length),i<k->(hasB x) l[i]=false) (fun i _=>l.length-(intOf i).toNat)
 case atStart=>exact⟨0,aZ _,rfl,Below.refl _ _,λi _ h=>absurd h (fe _)⟩
 case round=>
  obtain⟨k,E,rfl,f,n⟩:=hrel;have A:=ae n;clear n
  by_cases u:k<l.length
  ·obtain⟨b,off,rfl,G,F⟩:=VN (z.below f) k u
   go_wp2_with fail
   refine (Qs l[k] g x _ (C.ext f) ((y _ (eO u)).below f)).mono ?_;rintro e w2 ⟨rfl,o⟩;have j:=ag f o;clear o;cases hpk:(hasB x) l[k]
   ·have m:=ae hpk;clear hpk;go_wp2;go_roundw
    case rel=>exact⟨k+1,by omega,by go_num,j,mG A.out u m.out⟩
    case measure=>simp[intOf];omega
   have d:=ae (uG (hasB x) l k u A.out hpk);clear hpk;go_wp2;go_ret;exact⟨aW d.out.symm,j⟩
  have d:=ae (lY (hasB x) l λi h=>A.out i h (by omega));go_wp2;go_ret;exact⟨aW d.out.symm,f⟩
theorem PG (l:List PF) (a:Option Addr) (c:Nat) (w:World) (j:dZ w a (l.flatMap qW)) (u:l.length<=9223372036854775807) (g:Nat) (x:Int) (y:aG w g #[.int .i64 x] 3) (h:∀p∈l,p.good w) :
  Calls Tryz.prog 213 #[.slice a l.length c,.func (.func 214) #[] #[.pointer (some ⟨g,0,none⟩)]] w λe w'=>e = .returned (.bool (l.any (hasB x)))/\Below w.heap.size w w':=by
 go_enter func213,ntmps213
 go_wp2_with fail
 refine (PU l a c _ j u g x y h).mono ?_;rintro e w2 ⟨rfl,b⟩;go_wp2;go_ret;exact⟨bY (pu _ _),b⟩
theorem TG (u:List PF) (k x:Int):u.any (hasB x)=iD (cK u k) x:=by
 unfold iD hasB;rw[Al,ni,jK,decide_eq_true_eq];unfold wL;rw[kT];constructor
 ·rintro⟨p,j,h⟩;exact⟨p,j,of_decide_eq_true h⟩
 ·rintro⟨p,j,h⟩;exact⟨p,j,decide_eq_true h⟩
theorem Qt (z:List PF) (k:Int) (a:Option Addr) (c g:Nat) (w:World) (h:LZ w a c z) (E:aG w g (LV a z.length c k) 41) (H:k<=80) :
  Calls Tryz.prog 208 #[.pointer (some ⟨g,0,none⟩)] w λr w'=>r = .returned (.int .i64 (iy (cK z k)))/\Below w.heap.size w w':=by
 have x:=bi h.le h.mx;unfold maxLen at x;unfold LV at E;go_enter func208,ntmps208;have l:=E.cell;go_upto_region 2 with (fail);clear l
 go_loopw [8] (fun i wr => ∃(q:Nat),((q:Int)<=k\/q=0)/\i = .int .i64 q/\Below w.heap.size w wr/\∀i:Nat,i<q->iD (cK z k) i=true) (fun i _=>k.toNat-(intOf i).toNat)
 case atStart=>exact⟨0,.inr rfl,rfl,Below.refl _ _,λi A=>absurd A (fe _)⟩
 case round=>
  obtain⟨q,G,rfl,j,p⟩:=hrel;have C:=ae p;clear p
  by_cases D:(q:Int)<k
  ·have u:=E.ext j;go_upto_region 4 with (refine Kh rfl _ _ _ rfl (.int .i64 q) rfl rfl rfl int_size rfl ?_);intro w2 n t;have b:=ag j n;have o:=u.ext n;have l:=o.cell;have h2:=h.below b;clear j n u
   go_wp2_with fail
   refine (PG z a c _ h2.rd (by omega) wr.heap.size q t h2.good).mono ?_;rintro e F ⟨rfl,m⟩;have f:=ag b m;have y:=(t.ext m).cell 0;rw[TG z k];clear l b o m;cases hus:iD (cK z k) q
   ·have d:=ae (PH (s:=cK z k) D C.out hus);clear hus;go_wp2;go_ret;exact⟨aW d.out.symm,f⟩
   have v:Hid (∀i:Nat,i<q+1->iD (cK z k) i=true):=ae (λi A=>by
    by_cases e:i=q
    ·subst e;exact hus
    ·exact C.out i (by omega))
   clear hus;go_wp2;go_roundw
   case rel=>exact⟨q+1,by omega,by go_num,f,v.out⟩
   case measure=>simp[intOf];omega
  have d:=ae (Lj (s:=cK z k) (λi A=>C.out i (by have:(i:Int)<k:=A;omega)));go_wp2;go_ret;exact⟨aW d.out.symm,j⟩
theorem QC {j:List PF} {k:Int} (h:aR (cK j k)=0):Ws j:=by
 have A:=mr h;have h2:j.length<=5:=by simpa[cK] using A.1
 refine⟨by omega,λp y => ?_⟩;have u:=Ak h p.fi (by simpa[cK] using Dm y);have z:=yx u.2.1;have D:(p.l.length:Int)=eY p.n:=u.2.2.1;have C:eY p.n<=12:=z;omega
theorem Vr (cur:Array Value) (o:Nat) (x y:Value) (h:cur[o+1]?=some y):bI cur o [x,y]=cur.setIfInBounds o x:=by
 show (cur.setIfInBounds o x).setIfInBounds (o+1) y=cur.setIfInBounds o x;apply mH;intro i;rw[AA]
 by_cases e:o+1=i
 ·subst e;have a:o+1<cur.size:=(iU.1 h).1;rw[if_pos rfl,if_pos (by simpa using a),gM (by omega),h]
 ·rw[if_neg e]
theorem Uu (cur:Array Value) (o:Nat) (x y:Value) (h:cur[o]?=some x):bI cur o [x,y]=cur.setIfInBounds (o+1) y:=by
 show (cur.setIfInBounds o x).setIfInBounds (o+1) y=cur.setIfInBounds (o+1) y;congr 1;apply mH;intro i;rw[AA]
 by_cases e:o=i
 ·subst e;have a:o<cur.size:=(iU.1 h).1;rw[if_pos rfl,if_pos a,h]
 ·rw[if_neg e]
theorem qC.set {y:List PF} (h:qC w B v y) (G:k<y.length) {p' : PF} (F:Own w' B 101 2 v y.length ((y.set k p').flatMap qW)) (E:Own w' B 3 1 (nT p') p'.l.length (p'.l.map fZ))
 (A:∀(i:Nat) q,i≠k->y[i]?=some q->Own w' B 3 1 (nT q) q.l.length (q.l.map fZ)) (D:∀(i:Nat) q,i≠k->y[i]?=some q->Apart (nT p') (nT q)):qC w' B v (y.set k p') where
 own:=by rw[bK];exact F
 each:=λi q u=>by
  rw[nR] at u
  by_cases e:k=i
  ·rw[if_pos e] at u
   by_cases H:i<y.length
   ·rw[if_pos (by omega)] at u;cases u;exact E
   ·rw[if_neg (by omega)] at u;cases u
  rw[if_neg e] at u;exact A i q (λC=>e C.symm) u
 apart:=λi j q r a u z=>by
  rw[nR] at u z
  by_cases e:k=i
  ·rw[if_pos e,if_pos (by omega)] at u;cases u;rw[if_neg (by omega)] at z;exact D j r (by omega) z
  rw[if_neg e] at u
  by_cases C:k=j
  ·rw[if_pos C,if_pos (by omega)] at z;cases z;exact (D i q (by omega) u).symm
  rw[if_neg C] at z;exact h.apart i j q r a u z
theorem qC.file {z:List PF} (h:qC w B v z) {p:PF} (E:z[k]?=some p) :
  ∃g off C cur,v = .slice (some ⟨g,off,none⟩) z.length C/\B<=g/\aG w g cur 101/\off+k*2+2<=cur.size/\cur[off+k*2]?=some (.int .i64 p.n)/\cur[off+k*2+1]?=some (.slice p.a p.l.length p.c) /\
   (∀w' n,aG w' g (cur.setIfInBounds (off+k*2) (.int .i64 n)) 101->w.grownBy w' (some g)->qC w' B v (z.set k ⟨n,p.a,p.l,p.c⟩)) /\
   (∀w' a l c,aG w' g (cur.setIfInBounds (off+k*2+1) (.slice a l.length c)) 101->w.grownBy w' (some g)->Own w B 3 1 (.slice a l.length c) l.length (l.map fZ)->(∀(j:Nat) q,j≠k->z[j]?=some q->Apart (.slice a l.length c) (nT q))->qC w' B v (z.set k ⟨p.n,a,l,c⟩)):=by
 have F:=(cz.1 E).1;have o:=(cz.1 E).2;obtain⟨g,off,C,cur,K,W,b,r,m⟩:=oO lh (by decide) rfl h.own k F;have e:∀j u,(z.flatMap qW)[j]?=some u->cur[off+j]?=some u:=by
  rcases h.own.2 with ⟨H,h2⟩|⟨X,J,L,G,D,V,y,_,_,_,S⟩
  ·omega
  rw[K] at D;cases D;have:cur=G:=by unfold aG at b y;rw[b] at y;simpa using y
  subst this;exact S
 have N:cur[off+k*2]?=some (.int .i64 p.n):=by have:=e (k*2) (.int .i64 p.n) (by have:=flat_get qW 2 lh z k F 0 (.int .i64 p.n) (by rw[o];rfl);simpa using this);exact this
 have M:cur[off+k*2+1]?=some (.slice p.a p.l.length p.c):=by have:=e (k*2+1) (.slice p.a p.l.length p.c) (flat_get qW 2 lh z k F 1 _ (by rw[o];rfl));simpa[nQ] using this
 have f:∀ {w' : World},w.grownBy w' (some g)->∀(i:Nat) q,z[i]?=some q->Own w' B 3 1 (nT q) q.l.length (q.l.map fZ):=λd i q A=>ax (h.each i q A) b (by decide) d;have s:∀(j:Nat) q,j≠k->z[j]?=some q->Apart (nT p) (nT q):=λj q R A=>by
  rcases vN R with H|H
  ·exact (h.apart j k q p H A E).symm
  ·exact h.apart k j p q H E A
 refine⟨g,off,C,cur,K,W,b,r,N,M,λw' n I d => ?_,λw' a l c I d O U => ?_⟩
 ·refine h.set F (m w' ⟨n,p.a,p.l,p.c⟩ ?_) (f d k p E) (λi q _ A=>f d i q A) s;rw[show qW ⟨n,p.a,p.l,p.c⟩=[.int .i64 n,.slice p.a p.l.length p.c] from rfl,Vr _ _ _ _ M];exact I
 refine h.set F (m w' ⟨p.n,a,l,c⟩ ?_) (ax O b (by decide) d) (λi q _ A=>f d i q A) U;rw[show qW ⟨p.n,a,l,c⟩=[.int .i64 p.n,.slice a l.length c] from rfl,Uu _ _ _ _ N];exact I
theorem qC.num {y:List PF} (h:qC w B v y) {p:PF} (D:y[k]?=some p) (L:i<p.l.length) :
  ∃g off A cur,p.a=some ⟨g,off,none⟩/\p.c=A/\B<=g/\aG w g cur 3/\off+i+1<=cur.size /\
   ∀w' x,aG w' g (bI cur (off+i) [.int .i64 x]) 3->w.grownBy w' (some g)->qC w' B v (y.set k ⟨p.n,p.a,p.l.set i x,p.c⟩):=by
 have K:=(cz.1 D).1;have u:=(cz.1 D).2;have b:=h.each k p D;rw[<-ko] at b;obtain⟨g,off,A,cur,E,O,d,s,o⟩:=oO (λx:Int=>(rfl : [fZ x].length=1)) (by decide) rfl b i L;unfold nT at E;simp only[mJ] at E;obtain⟨G,_,M⟩:=E;refine⟨g,off,A,cur,G,M,O,d,(by simpa using s),λw' x N r => ?_⟩;have t:∀(j:Nat) q,j≠k->y[j]?=some q->Apart (nT p) (nT q):=λj q C z=>by
  rcases vN C with F|F
  ·exact (h.apart j k q p F z D).symm
  ·exact h.apart k j p q F D z
 have m : Own w' B 101 2 v y.length (y.flatMap qW):=ax h.own d (by decide) r;have f:(y.set k ⟨p.n,p.a,p.l.set i x,p.c⟩).flatMap qW=y.flatMap qW:=by
  have R:qW ⟨p.n,p.a,p.l.set i x,p.c⟩=qW p:=by simp[qW,qw]
  apply pE;intro j
  by_cases C:j<y.length*2
  ·have z:j / 2<y.length:=by omega
   have J:=jY qW 2 lh (y.set k ⟨p.n,p.a,p.l.set i x,p.c⟩) (j / 2) (by rw[bK];exact z) (j%2) (by omega);have I:=jY qW 2 lh y (j / 2) z (j%2) (by omega);rw[show j / 2*2+j%2=j from by omega] at J I;rw[J,I];congr 1;rw[DC]
   by_cases e:k=j / 2
   ·rw[if_pos e,R,<-u];congr 1;simp only[e]
   ·rw[if_neg e]
  ·rw[fw (by rw[Pw.flat_len qW 2 lh,bK];omega),fw (by rw[Pw.flat_len qW 2 lh];omega)]
 refine h.set K (by rw[f];exact m) ?_ (λj q C z=>(h.each j q z).apart (t j q C z) (by
  have:(nT p).ownBlock=some g:=by unfold nT;rw[G];rfl
  rw[this];exact r)) (λj q C z=>by rw[show nT ⟨p.n,p.a,p.l.set i x,p.c⟩=nT p from by simp[nT]];exact t j q C z)
 have H:=o w' x (by rw[tN];exact N);rw[ko] at H;simpa[nT] using H
theorem Mq (A:List PF) (k file index:Int) (a:Option Addr) (c:Nat) (w:World) (h:LZ w a c A) (hk64 : -9223372036854775808<=k/\k<=9223372036854775807) :
  Calls Tryz.prog 192 #[.agg (LV a A.length c k),.int .i64 file,.int .i64 index] w λr w' => ∃v U k',r = .returned (.tuple #[.agg #[v,.int .i64 k'],.int .i64 (eH (cK A k) file index),.int .i64 (dG (cK A k) file index)])/\qC w' w.heap.size v U/\cK U k' = eB (cK A k) file index/\Below w.heap.size w w':=by
 have kq:=bi h.le h.mx;unfold maxLen at kq;unfold LV;go_enter func192,ntmps192;go_upto_region 1 with (fail);refine wH (λW=>Code.wp _ _ _ _ W) λW0 h3 hS kc km => ?_;clear km
 go_wp2_with (refine ay _ _ rfl _ 0 rfl rfl _ hS.rd _ underlying41 rfl store_size ?_)
 refine (Em A k a c _ (h.below h3) hk64).mono ?_;rintro r w1 ⟨rfl,hN⟩;have d:=ag h3 hN;have N:=hS.ext hN;have o:=kc.ext hN;clear h3 hS kc hN
 by_cases L:aR (cK A k)=0
 ·have M:=ae L;rw[L];clear L;have ku:=N.cell
  by_cases h5:file<0\/(A.length:Int)<=file
  ·have G:Hid _:=ae (yn (s:=cK A k) (k:=file) (i:=index) (e:=5) (by unfold dG;rw[if_neg (by rw[M.out];simp),if_pos (by simpa[cK] using h5)]) (by decide));have ky : file<0\/(¬file<0/\(A.length:Int)<=file):=by omega
   clear h5;rcases ky with g1|⟨g1,g2⟩
   ·skip
    go_wp2_with (refine aA rfl _ _ _ rfl (w.heap.size+1) #[.slice none 0 0,.int .i64 0] rfl rfl _ _ o rfl store_size (uX none 0 0 0) ?_)
    all_goals
     intro E t f;have j:Below w.heap.size w E:=d.grown f d.size (λk D=>by cases D;omega);go_wp2;refine bodyPost_ret (v:=.tuple #[.agg #[.slice none 0 0,.int .i64 0],.int .i64 0,.int .i64 (5)]) (eQ results192 _ _ (w.heap.size+1) _ _ _ _ _ rfl rfl rfl t underlying41 rfl store_size) rfl ?_;have q:=G.out;exact⟨_,_,_,by rw[q.1,q.2.1],qC.nil _ _,by rw[q.2.2];rfl,j⟩
   skip
   go_wp2_with (refine aA rfl _ _ _ rfl (w.heap.size+1) #[.slice none 0 0,.int .i64 0] rfl rfl _ _ o rfl store_size (uX none 0 0 0) ?_)
   all_goals
    intro E t f;have j:Below w.heap.size w E:=d.grown f d.size (λk D=>by cases D;omega);go_wp2;refine bodyPost_ret (v:=.tuple #[.agg #[.slice none 0 0,.int .i64 0],.int .i64 0,.int .i64 (5)]) (eQ results192 _ _ (w.heap.size+1) _ _ _ _ _ rfl rfl rfl t underlying41 rfl store_size) rfl ?_;have q:=G.out;exact⟨_,_,_,by rw[q.1,q.2.1],qC.nil _ _,by rw[q.2.2];rfl,j⟩
  obtain⟨F,rfl⟩:=iI (show 0<=file by omega);have hF:F<A.length:=by omega
  have kK:(F:Int)<(A.length:Int):=by omega
  obtain⟨b,off,p,rfl,hp,c0,c1⟩:=xH (h.below d).rd F hF;have kF:=h.good p (bV hp);have kp:=ae hp;have hJ:Hid (aS (cK A k) F=p.fi):=ae (by unfold aS cK;rw[if_pos (by omega),bA,aX,jv,hp];rfl);have hW:Hid (¬((F:Int)<0\/(((cK A k).fs.length:Nat):Int)<=(F:Int))):=ae (by simpa[cK] using hF);clear h5 hp
  by_cases h9:index<0\/(p.l.length:Int)<=index
  ·have G:Hid _:=ae (yn (s:=cK A k) (k:=F) (i:=index) (e:=9) (by unfold dG;rw[if_neg (by rw[M.out];simp),if_neg hW.out,if_pos (by rw[hJ.out];exact h9)]) (by decide));have kx : index<0\/(¬index<0/\(p.l.length:Int)<=index):=by omega
   clear h9;rcases kx with g1|⟨g1,g2⟩
   ·skip
    go_wp2_with (refine aA rfl _ _ _ rfl (w.heap.size+1) #[.slice none 0 0,.int .i64 0] rfl rfl _ _ o rfl store_size (uX none 0 0 0) ?_)
    all_goals
     intro E t f;have j:Below w.heap.size w E:=d.grown f d.size (λk D=>by cases D;omega);go_wp2;refine bodyPost_ret (v:=.tuple #[.agg #[.slice none 0 0,.int .i64 0],.int .i64 0,.int .i64 (9)]) (eQ results192 _ _ (w.heap.size+1) _ _ _ _ _ rfl rfl rfl t underlying41 rfl store_size) rfl ?_;have q:=G.out;exact⟨_,_,_,by rw[q.1,q.2.1],qC.nil _ _,by rw[q.2.2];rfl,j⟩
   skip
   go_wp2_with (refine aA rfl _ _ _ rfl (w.heap.size+1) #[.slice none 0 0,.int .i64 0] rfl rfl _ _ o rfl store_size (uX none 0 0 0) ?_)
   all_goals
    intro E t f;have j:Below w.heap.size w E:=d.grown f d.size (λk D=>by cases D;omega);go_wp2;refine bodyPost_ret (v:=.tuple #[.agg #[.slice none 0 0,.int .i64 0],.int .i64 0,.int .i64 (9)]) (eQ results192 _ _ (w.heap.size+1) _ _ _ _ _ rfl rfl rfl t underlying41 rfl store_size) rfl ?_;have q:=G.out;exact⟨_,_,_,by rw[q.1,q.2.1],qC.nil _ _,by rw[q.2.2];rfl,j⟩
  obtain⟨I,rfl⟩:=iI (show 0<=index by omega);have hI:I<p.l.length:=by omega
  have kI:(I:Int)<(p.l.length:Int):=by omega
  have kh:Hid (¬((I:Int)<0\/(((aS (cK A k) F).b.length:Nat):Int)<=(I:Int))):=ae (by rw[hJ.out];exact h9);have kl:=QC M.out;have kE:A.length<=5:=by simpa[cK] using (mr M.out).1
  have hQ:k<=80:=(mr M.out).2.2;clear h9
  go_wp2_with (refine ay _ _ rfl _ 0 rfl rfl _ N.rd _ underlying41 rfl store_size ?_)
  refine (JN A k _ c _ (h.below d) kl).mono ?_;rintro r w2 ⟨v2,H,rfl,h7,hm,hM⟩;have kd:=ae hm;have ke:H.length=A.length:=by simpa using congrArg List.length hm
  have ko:F<H.length:=by omega
  clear ke;obtain⟨q,S⟩:∃q,H[F]?=some q:=⟨H[F]'ko,aH _⟩;have hU:q.fi=p.fi:=by have h1:=congrArg (λl=>l[F]?) hm;simp only[jv,S,kp.out,ru,jr] at h1;exact h1
  have hV:=ae (show q.l=p.l from congrArg Fi.b hU);have kn:=ae (show q.n=p.n from congrArg Fi.n hU);have hn:I<q.l.length:=by rw[hV.out];exact hI
  have hE:=ag d hM;have ka:=N.ext hM;have hg:=o.ext hM;have hR:=h7.mono d.size;obtain⟨av,cv,rfl,_⟩:=h7.rd;clear hm ku d N o hM h7 c0 c1
  go_wp2_with (refine aL rfl _ _ _ rfl #[.slice av H.length cv,.int .i64 k] rfl rfl rfl store_size (uX _ _ _ _) ?_)
  intro w3 hH O;have ha:=ag hE hH;have h8:=ka.ext hH;have hd:=hg.ext hH;have J:=hR.below hH;have kr:w.heap.size+1<w2.heap.size:=hg.lt;obtain⟨gg,kk⟩:∃g,g=w2.heap.size:=⟨_,rfl⟩;rw[<-kk] at O kr ⊢;clear kk hE ka hg hR hH;obtain⟨g,off9,cap,cur,hv,kL,hD,kA,e0,e1,_,_⟩:=J.file S;obtain⟨g2,Y,cap2,cur2,kg,kC,kM,hC,kt,hu⟩:=J.num S (i:=I) hn;simp only[mJ] at hv;obtain⟨rfl,_,rfl⟩:=hv;have kJ:(F:Int)<(H.length:Int):=by omega
  have kH:(I:Int)<(q.l.length:Int):=by omega
  rw[kg] at e1;have hK:=O.cell;have hL:=hD.cell;have hZ:w3.cell? ⟨g2,Y+I,none⟩=some (.int .i64 q.l[I]):=by obtain⟨_,_,e2,hc⟩:=kD ((J.rd).elim λ_ N=>N.elim λ_ hy=>(hy.2.good q (bV S)).rd) I hn;rw[kg] at e2;cases e2;exact hc
  have K:Hid (bM (cK A k) F I=q.l[I]):=ae (by unfold bM;rw[hJ.out,bA];show p.l.getD I 0=_;rw[aX,<-hV.out,aH hn];rfl);generalize hB0:q.l[I]=B0 at hZ K;clear hB0 hU;go_upto_region 10 with (fail)
  by_cases C:B0<0
  ·have hP:=h8;clear hL hZ hD e0 e1
   go_wp2_with fail
   refine (Qt A k _ c w.heap.size _ (h.below ha) hP hQ).mono ?_;rintro r w4 ⟨rfl,hG⟩;have ks:=Pm (s:=cK A k) hQ;have y:=ag ha hG;have hb:=hd.ext hG;have R:=O.ext hG;have hO:=J.below hG;clear hP ha hd O J hG hK hu hC h8;have h2:Hid (dG (cK A k) F I=if iy (cK A k)<0 then 10 else 0):=ae (by
    unfold dG;rw[if_neg (by rw[M.out];simp),if_neg hW.out,if_neg kh.out,K.out]
    by_cases z:iy (cK A k)<0
    ·rw[if_pos ⟨C,z⟩,if_pos z]
    ·rw[if_neg (λhh=>z hh.2),if_neg z])
   generalize hX:iy (cK A k)=X at h2 ks;have kj:=ae hX;clear hX
   by_cases hX0:X<0
   ·have G:Hid _:=ae (yn (s:=cK A k) (k:=F) (i:=I) (e:=10) (by rw[h2.out,if_pos hX0]) (by decide));have d:=y;have o:=hb;clear y hb R hO
    go_wp2_with (refine aA rfl _ _ _ rfl (w.heap.size+1) #[.slice none 0 0,.int .i64 0] rfl rfl _ _ o rfl store_size (uX none 0 0 0) ?_)
    all_goals
     intro E t f;have j:Below w.heap.size w E:=d.grown f d.size (λk D=>by cases D;omega);go_wp2;refine bodyPost_ret (v:=.tuple #[.agg #[.slice none 0 0,.int .i64 0],.int .i64 0,.int .i64 (10)]) (eQ results192 _ _ (w.heap.size+1) _ _ _ _ _ rfl rfl rfl t underlying41 rfl store_size) rfl ?_;have q:=G.out;exact⟨_,_,_,by rw[q.1,q.2.1],qC.nil _ _,by rw[q.2.2];rfl,j⟩
   have hz:Hid (dG (cK A k) F I=0):=ae (by rw[h2.out,if_neg hX0]);have u:Hid (eH (cK A k) F I=X/\dG (cK A k) F I=0/\cK (H.set F ⟨q.n,q.a,q.l.set I X,q.c⟩) k=eB (cK A k) F I):=ae (by
    refine⟨?_,hz.out,?_⟩
    ·unfold eH;rw[if_neg (by rw[hz.out];simp),K.out,if_pos C,kj.out]
    unfold eB;rw[if_neg (by rw[hz.out];simp),K.out,if_pos C,kj.out,hJ.out];unfold Am cK;rw[bA,bA,Be,kd.out];unfold PF.fi;rw[hV.out,kn.out])
   obtain⟨g3,off3,cap3,cur3,kb,kB,hB,_,e03,e13,_,_⟩:=hO.file S;obtain⟨g4,V,cap4,cur4,kf,kz,kw,m,hY,ht⟩:=hO.num S (i:=I) hn;simp only[mJ] at kb;obtain⟨e31,_,e33⟩:=kb;cases e31;subst e33;rw[kf] at e13;have hK:=R.cell;have hL:=hB.cell;have kG:gg≠g4:=λe=>by subst e;unfold aG at R m;rw[R] at m;simp at m
   go_wp2_with (refine aB rfl _ _ _ rfl g4 (V+I) _ [.int .i64 X] rfl rfl rfl _ _ m hY int_size (IU _ _) ?_)
   intro E ki f;have h6:=ht E X ki f;have hA:=bZ R m (by decide) f;have Z:=bZ hb m (by decide) f;have x:=y.grown f y.size (λk D=>by cases D;exact kw);clear R hb hO y hB m ht hK hL e03 e13 ki f;have kv:=hA.cell
   go_wp2_with (first | (refine ay _ _ rfl _ 0 rfl rfl _ hA.rd _ underlying41 rfl store_size ?_) | (refine aA rfl _ _ _ rfl (w.heap.size+1) _ rfl rfl _ _ Z rfl store_size (uX _ _ _ _) ?_))
   intro wf hT hf;have h4:=h6.keep Z (by decide) (by decide) hf;have hi:=x.grown hf x.size (λk D=>by cases D;omega);go_wp2;refine bodyPost_ret (v:=.tuple #[.agg #[.slice _ _ _,.int .i64 k],.int .i64 (X),.int .i64 0]) (eQ results192 _ _ (w.heap.size+1) _ _ _ _ _ rfl rfl rfl hT underlying41 rfl store_size) rfl ?_;exact⟨_,_,_,by rw[u.out.1,u.out.2.1],h4,u.out.2.2,hi⟩
  have u:Hid (eH (cK A k) F I=B0/\dG (cK A k) F I=0/\cK H k=eB (cK A k) F I):=ae (by
   have z:dG (cK A k) F I=0:=by unfold dG;rw[if_neg (by rw[M.out];simp),if_neg hW.out,if_neg kh.out,if_neg (by rw[K.out];omega)]
   refine⟨?_,z,?_⟩
   ·unfold eH;rw[if_neg (by rw[z];simp),K.out,if_neg C]
   ·unfold eB;rw[if_neg (by rw[z];simp),K.out,if_neg C];unfold cK;rw[kd.out])
  have hA:=O;have Z:=hd;have h6:=J;have x:=ha;clear O hd J ha hD hC hu hK hL hZ e0 e1;have kv:=hA.cell
  go_wp2_with (first | (refine ay _ _ rfl _ 0 rfl rfl _ hA.rd _ underlying41 rfl store_size ?_) | (refine aA rfl _ _ _ rfl (w.heap.size+1) _ rfl rfl _ _ Z rfl store_size (uX _ _ _ _) ?_))
  intro wf hT hf;have h4:=h6.keep Z (by decide) (by decide) hf;have hi:=x.grown hf x.size (λk D=>by cases D;omega);go_wp2;refine bodyPost_ret (v:=.tuple #[.agg #[.slice _ _ _,.int .i64 k],.int .i64 (B0),.int .i64 0]) (eQ results192 _ _ (w.heap.size+1) _ _ _ _ _ rfl rfl rfl hT underlying41 rfl store_size) rfl ?_;exact⟨_,_,_,by rw[u.out.1,u.out.2.1],h4,u.out.2.2,hi⟩
 have G:Hid _:=ae (yn (s:=cK A k) (k:=file) (i:=index) (e:=aR (cK A k)) (by unfold dG;rw[if_pos L]) L);have kN : (aR (cK A k) != 0)=true:=by simpa using L
 clear L
 go_wp2_with (refine aA rfl _ _ _ rfl (w.heap.size+1) #[.slice none 0 0,.int .i64 0] rfl rfl _ _ o rfl store_size (uX none 0 0 0) ?_)
 all_goals
  intro E t f;have j:Below w.heap.size w E:=d.grown f d.size (λk D=>by cases D;omega);go_wp2;refine bodyPost_ret (v:=.tuple #[.agg #[.slice none 0 0,.int .i64 0],.int .i64 0,.int .i64 (aR (cK A k))]) (eQ results192 _ _ (w.heap.size+1) _ _ _ _ _ rfl rfl rfl t underlying41 rfl store_size) rfl ?_;have q:=G.out;exact⟨_,_,_,by rw[q.1,q.2.1],qC.nil _ _,by rw[q.2.2];rfl,j⟩
def ku (a:Ar):Array Value:=#[.int .i64 a.fr,.int .i64 a.en,.bool a.rd,.bool a.wr,.bool a.sh,.int .i64 a.fi,.int .i64 a.ba]
def mO (a:Ar):List Value:=(ku a).toList
theorem rG (a:Ar):(mO a).length=7:=rfl
theorem Uv (a:Ar):(ku a).all (·.oneCell')=true:=by simp[ku,Value.oneCell']
theorem area_size:(Tryz.prog.info? 94).map (·.size)=some 7:=by kernel_rfl
theorem area_info:(Tryz.prog.info? 94).map (λi=>(i.zero,i.size,i.bytes))=some (some (.agg #[.int .i64 0,.int .i64 0,.bool false,.bool false,.bool false,.int .i64 0,.int .i64 0]),7,40):=by kernel_rfl
def FN (w:World) (b o:Nat) (a:Ar):Prop:=∀j u,(mO a)[j]?=some u->w.cell? ⟨b,o+j,none⟩=some u
theorem FN.below {o:Nat} {a:Ar} (h:FN w b o a) (z:Below w.heap.size w w'):FN w' b o a:=λj u y=>cell_later z (h j u y)
theorem FN.cells {o:Nat} {a:Ar} (h:FN w b o a):w.cell? ⟨b,o,none⟩=some (.int .i64 a.fr)/\w.cell? ⟨b,o+1,none⟩=some (.int .i64 a.en)/\w.cell? ⟨b,o+2,none⟩=some (.bool a.rd)/\w.cell? ⟨b,o+3,none⟩=some (.bool a.wr) /\
  w.cell? ⟨b,o+4,none⟩=some (.bool a.sh)/\w.cell? ⟨b,o+5,none⟩=some (.int .i64 a.fi)/\w.cell? ⟨b,o+6,none⟩=some (.int .i64 a.ba):=
 ⟨h 0 _ rfl,h 1 _ rfl,h 2 _ rfl,h 3 _ rfl,h 4 _ rfl,h 5 _ rfl,h 6 _ rfl⟩
theorem TE (b o:Nat) (a:Ar) (w:World) (h:FN w b o a) :
  Calls Tryz.prog 169 #[.pointer (some ⟨b,o,none⟩)] w λe w'=>e = .returned (.int .i64 (aV a))/\Below w.heap.size w w':=by
 obtain⟨I,H,h2,G,F,E,D⟩:=h.cells;go_enter func169,ntmps169;go_upto_region 1 with (fail)
 by_cases O:a.fr<0
 ·have j:Hid (aV a=3):=ae (by unfold aV;rw[if_pos (by omega)]);go_quiet (fail);go_wp2;go_ret;exact⟨aW j.out.symm,below_drewN (Below.refl _ _) _⟩
 by_cases N:a.en<=a.fr
 ·have j:Hid (aV a=3):=ae (by unfold aV;rw[if_pos (by omega)]);go_quiet (fail);go_wp2;go_ret;exact⟨aW j.out.symm,below_drewN (Below.refl _ _) _⟩
 by_cases M:64<a.en
 ·have j:Hid (aV a=3):=ae (by unfold aV;rw[if_pos (by omega)]);go_quiet (fail);go_wp2;go_ret;exact⟨aW j.out.symm,below_drewN (Below.refl _ _) _⟩
 by_cases L:a.fi < -1
 ·have j:Hid (aV a=3):=ae (by unfold aV;rw[if_pos (by omega)]);go_quiet (fail);go_wp2;go_ret;exact⟨aW j.out.symm,below_drewN (Below.refl _ _) _⟩
 by_cases K:5<=a.fi
 ·have j:Hid (aV a=3):=ae (by unfold aV;rw[if_pos (by omega)]);go_quiet (fail);go_wp2;go_ret;exact⟨aW j.out.symm,below_drewN (Below.refl _ _) _⟩
 by_cases J:a.ba<0
 ·have j:Hid (aV a=3):=ae (by unfold aV;rw[if_pos (by omega)]);go_quiet (fail);go_wp2;go_ret;exact⟨aW j.out.symm,below_drewN (Below.refl _ _) _⟩
 have c:¬(a.fr<0\/a.en<=a.fr\/64<a.en\/a.fi < -1\/5<=a.fi\/a.ba<0):=by omega
 have f:IntKind.i64.wrap (a.en-a.fr)=a.en-a.fr:=bG _ (by omega);have d:IntKind.i64.wrap (12-(a.en-a.fr))=12-(a.en-a.fr):=bG _ (by omega);go_quiet (fail)
 by_cases z:a.fi<0
 ·by_cases u:a.ba=0
  ·cases f3:a.sh
   ·have j:Hid (aV a=0):=ae (by unfold aV;rw[if_neg c,if_neg (by rw[f3];simp;omega)]);go_upto_region 4 with (fail);have A:decide (0<=a.fi)=false:=decide_eq_false (by omega);go_quiet (fail);go_wp2;go_ret;exact⟨aW j.out.symm,below_drewN (Below.refl _ _) _⟩
   have j:Hid (aV a=7):=ae (by unfold aV;rw[if_neg c,if_pos (.inl ⟨z,.inr f3⟩)]);go_wp2;go_ret;exact⟨aW j.out.symm,below_drewN (Below.refl _ _) _⟩
  have j:Hid (aV a=7):=ae (by unfold aV;rw[if_neg c,if_pos (.inl ⟨z,.inl u⟩)]);have C : (a.ba != 0)=true:=by simpa using u
  go_wp2;go_ret;exact⟨aW j.out.symm,below_drewN (Below.refl _ _) _⟩
 have y : 0<=a.fi:=by omega
 by_cases u:12-(a.en-a.fr)<a.ba
 ·have j:Hid (aV a=7):=ae (by unfold aV;rw[if_neg c,if_pos (.inr ⟨y,u⟩)]);go_upto_region 4 with (fail);have A:decide (0<=a.fi)=true:=decide_eq_true (by omega);go_quiet (fail);go_wp2;go_ret;exact⟨aW j.out.symm,below_drewN (Below.refl _ _) _⟩
 have j:Hid (aV a=0):=ae (by unfold aV;rw[if_neg c,if_neg (by omega)]);go_upto_region 4 with (fail);have A:decide (0<=a.fi)=true:=decide_eq_true (by omega);go_quiet (fail);go_wp2;go_ret;exact⟨aW j.out.symm,below_drewN (Below.refl _ _) _⟩
theorem GV (p q p' q' : Nat) (a b:Ar) (w:World) (h:FN w p q a) (h' : FN w p' q' b) (y:uU a) :
  Calls Tryz.prog 170 #[.pointer (some ⟨p,q,none⟩),.pointer (some ⟨p',q',none⟩)] w λe w'=>e = .returned (.bool (dM a b))/\Below w.heap.size w w':=by
 obtain⟨O,N,h2,M,L,K,J⟩:=h.cells;obtain⟨I,k1,H,G,F,E,D⟩:=h'.cells;obtain⟨C,A,z⟩:=y;have d:IntKind.i64.wrap (a.ba+a.en)=a.ba+a.en:=bG _ (by omega);have c:IntKind.i64.wrap (a.ba+a.en-a.fr)=a.ba+a.en-a.fr:=bG _ (by omega);go_enter func170,ntmps170
 by_cases u:0<=a.fi
 ·go_upto_region 3 with (fail);go_quiet (fail);go_upto_region 4 with (fail);cases g1:(a.en==b.fr)
  ·have j:Hid (dM a b=false):=ae (by unfold dM kG;rw[if_pos u];simp only[g1,lM,lZ,mZ,oN]);go_quiet (fail);go_wp2;go_ret;exact⟨bY j.out.symm,by first | exact below_drewN (Below.refl _ _) _ | exact below_drewN (below_drewN (Below.refl _ _) _) _⟩
  cases g2:(a.rd==b.rd)
  ·have j:Hid (dM a b=false):=ae (by unfold dM kG;rw[if_pos u];simp only[g1,g2,lM,lZ,mZ,oN]);go_quiet (fail);go_wp2;go_ret;exact⟨bY j.out.symm,by first | exact below_drewN (Below.refl _ _) _ | exact below_drewN (below_drewN (Below.refl _ _) _) _⟩
  cases g3:(a.wr==b.wr)
  ·have j:Hid (dM a b=false):=ae (by unfold dM kG;rw[if_pos u];simp only[g1,g2,g3,lM,lZ,mZ,oN]);go_quiet (fail);go_wp2;go_ret;exact⟨bY j.out.symm,by first | exact below_drewN (Below.refl _ _) _ | exact below_drewN (below_drewN (Below.refl _ _) _) _⟩
  cases g4:(a.sh==b.sh)
  ·have j:Hid (dM a b=false):=ae (by unfold dM kG;rw[if_pos u];simp only[g1,g2,g3,g4,lM,lZ,mZ,oN]);go_quiet (fail);go_wp2;go_ret;exact⟨bY j.out.symm,by first | exact below_drewN (Below.refl _ _) _ | exact below_drewN (below_drewN (Below.refl _ _) _) _⟩
  cases g5:(a.fi==b.fi)
  ·have j:Hid (dM a b=false):=ae (by unfold dM kG;rw[if_pos u];simp only[g1,g2,g3,g4,g5,lM,lZ,mZ,oN]);go_quiet (fail);go_wp2;go_ret;exact⟨bY j.out.symm,by first | exact below_drewN (Below.refl _ _) _ | exact below_drewN (below_drewN (Below.refl _ _) _) _⟩
  cases g6:(b.ba==(a.ba+a.en-a.fr))
  ·have j:Hid (dM a b=false):=ae (by unfold dM kG;rw[if_pos u];simp only[g1,g2,g3,g4,g5,g6,lM,lZ,mZ,oN]);go_quiet (fail);go_wp2;go_ret;exact⟨bY j.out.symm,by first | exact below_drewN (Below.refl _ _) _ | exact below_drewN (below_drewN (Below.refl _ _) _) _⟩
  have j:Hid (dM a b=true):=ae (by unfold dM kG;rw[if_pos u];simp only[g1,g2,g3,g4,g5,g6,lM,lZ,mZ,oN]);go_quiet (fail);go_wp2;go_ret;exact⟨bY j.out.symm,by first | exact below_drewN (Below.refl _ _) _ | exact below_drewN (below_drewN (Below.refl _ _) _) _⟩
 go_upto_region 4 with (fail);cases g1:(a.en==b.fr)
 ·have j:Hid (dM a b=false):=ae (by unfold dM kG;rw[if_neg u];simp only[g1,lM,lZ,mZ,oN]);go_quiet (fail);go_wp2;go_ret;exact⟨bY j.out.symm,by first | exact below_drewN (Below.refl _ _) _ | exact below_drewN (below_drewN (Below.refl _ _) _) _⟩
 cases g2:(a.rd==b.rd)
 ·have j:Hid (dM a b=false):=ae (by unfold dM kG;rw[if_neg u];simp only[g1,g2,lM,lZ,mZ,oN]);go_quiet (fail);go_wp2;go_ret;exact⟨bY j.out.symm,by first | exact below_drewN (Below.refl _ _) _ | exact below_drewN (below_drewN (Below.refl _ _) _) _⟩
 cases g3:(a.wr==b.wr)
 ·have j:Hid (dM a b=false):=ae (by unfold dM kG;rw[if_neg u];simp only[g1,g2,g3,lM,lZ,mZ,oN]);go_quiet (fail);go_wp2;go_ret;exact⟨bY j.out.symm,by first | exact below_drewN (Below.refl _ _) _ | exact below_drewN (below_drewN (Below.refl _ _) _) _⟩
 cases g4:(a.sh==b.sh)
 ·have j:Hid (dM a b=false):=ae (by unfold dM kG;rw[if_neg u];simp only[g1,g2,g3,g4,lM,lZ,mZ,oN]);go_quiet (fail);go_wp2;go_ret;exact⟨bY j.out.symm,by first | exact below_drewN (Below.refl _ _) _ | exact below_drewN (below_drewN (Below.refl _ _) _) _⟩
 cases g5:(a.fi==b.fi)
 ·have j:Hid (dM a b=false):=ae (by unfold dM kG;rw[if_neg u];simp only[g1,g2,g3,g4,g5,lM,lZ,mZ,oN]);go_quiet (fail);go_wp2;go_ret;exact⟨bY j.out.symm,by first | exact below_drewN (Below.refl _ _) _ | exact below_drewN (below_drewN (Below.refl _ _) _) _⟩
 cases g6:(b.ba==0)
 ·have j:Hid (dM a b=false):=ae (by unfold dM kG;rw[if_neg u];simp only[g1,g2,g3,g4,g5,g6,lM,lZ,mZ,oN]);go_quiet (fail);go_wp2;go_ret;exact⟨bY j.out.symm,by first | exact below_drewN (Below.refl _ _) _ | exact below_drewN (below_drewN (Below.refl _ _) _) _⟩
 have j:Hid (dM a b=true):=ae (by unfold dM kG;rw[if_neg u];simp only[g1,g2,g3,g4,g5,g6,lM,lZ,mZ,oN]);go_quiet (fail);go_wp2;go_ret;exact⟨bY j.out.symm,by first | exact below_drewN (Below.refl _ _) _ | exact below_drewN (below_drewN (Below.refl _ _) _) _⟩
theorem Tt {l:List Ar} (h:dZ w a (l.flatMap mO)) (k:Nat) (j:k<l.length):∃b off,a=some ⟨b,off,none⟩/\FN w b (off+k*7) l[k]:=h.elem rG (by decide) k j
theorem EE {l:List Ar} (h:dZ w (some ⟨b,off,none⟩) (l.flatMap mO)) (k:Nat) (u:k<l.length):FN w b (off+k*7) l[k]:=by
 obtain⟨z,j,e,y⟩:=Tt h k u;cases e;exact y
def Lr (e:Int × Int):Array Value:=#[.int .i64 e.1,.int .i64 e.2]
theorem fau_size:(Tryz.prog.info? 180).map (·.size)=some 2:=by kernel_rfl
theorem nM (x y:Int):(#[Value.int .i64 x,Value.int .i64 y]:Array Value).all (·.oneCell')=true:=by simp[Value.oneCell']
theorem LW (l:List Ar) (a:Option Addr) (c:Nat) (w:World) (hrd:dZ w a (l.flatMap mO)) (hl:l.length<=9223372036854775807) :
  Calls Tryz.prog 129 #[.slice a l.length c] w λe w'=>e = .returned (.agg (Lr (bQ l)))/\Below w.heap.size w w':=by
 go_enter func129,ntmps129;go_upto_region 1 with (fail);refine iC (λW=>Code.wp _ _ _ _ W) λW0 d g hV => ?_;clear hV
 by_cases G:16<l.length
 ·have hT : (16:Int)<(l.length:Int):=by omega
  have K:Hid (bQ l=(4,0)):=ae (by unfold bQ;rw[if_pos G])
  go_wp2_with (refine aA rfl _ _ _ rfl w.heap.size #[.int .i64 (4),.int .i64 (0)] rfl rfl _ _ g rfl fau_size (nM _ _) ?_)
  intro J t p;have o:Below w.heap.size w J:=d.grown p d.size (λk I=>by cases I;exact az _);go_wp2;refine bodyPost_ret (v:=.agg #[.int .i64 (4),.int .i64 (0)]) (fA results129 _ _ w.heap.size _ _ _ rfl t underlying180 rfl fau_size) rfl ?_;exact⟨by rw[K.out];rfl,o⟩
 have hT : ¬(16:Int)<(l.length:Int):=by omega
 have h0:Hid (bQ l=jP (qy l 0) 0 (l.drop 0)):=ae (by unfold bQ;rw[if_neg G];rfl);go_upto_region 4 with (fail)
 go_loopw [11] (fun i wr => ∃k:Nat,k<=l.length/\i = .int .i64 k/\Below w.heap.size w wr/\aG wr w.heap.size #[.int .i64 0,.int .i64 0] 180/\(∀i (h:i<l.length),i<k->aV l[i]=0)/\Hid (bQ l=jP (qy l k) k (l.drop k))) (fun i _=>l.length-(intOf i).toNat)
 case atStart=>exact⟨0,aZ _,rfl,d,g,λi _ h=>absurd h (fe _),h0⟩
 case round=>
  clear d g h0;obtain⟨k,I,rfl,d,g,hQ,z⟩:=hrel;have hp:=ae hQ;clear hQ
  by_cases D:k<l.length
  ·obtain⟨b,off,rfl,hA⟩:=Tt (hrd.below d) k D;have hX:(k:Int)<(l.length:Int):=by omega
   go_wp2_with fail
   refine (TE b (off+k*7) l[k] _ hA).mono ?_;rintro r w2 ⟨rfl,hD⟩;have j:=ag d hD;have n:=g.ext hD;clear d g hD hA
   by_cases O:aV l[k]=0
   ·have u:=ae O;rw[O];clear O;go_upto_region 9 with (fail)
    by_cases hk0:k=0
    ·subst hk0;have hW:decide ((0:Int)<((0:Nat):Int))=false:=rfl;have hB:Hid (bQ l=jP (qy l (0+1)) (0+1) (l.drop (0+1))):=ae (by rw[z.out];exact vE D u.out rfl);go_quiet (fail);go_wp2;go_roundw
     case rel=>exact⟨0+1,by omega,by go_num,below_drewN j _,n.drewN _,mG hp.out D u.out,hB⟩
     case measure=>simp[intOf];omega
    obtain⟨m,rfl⟩:∃m,k=m+1:=⟨k-1,by omega⟩;have hW:decide ((0:Int)<((m+1:Nat):Int))=true:=decide_eq_true (by omega);have R:IntKind.i64.wrap (((m+1:Nat):Int)-1)=(m:Int):=by rw[bG _ (by omega)];omega
    have x:m<l.length:=by omega
    have S:IntKind.i64.wrap (m:Int)=(m:Int):=bG _ (by omega);have L:(0:Int)<=(m:Int)+1:=by omega
    have M:(m:Int)+1<(l.length:Int):=by omega
    have N:((m:Int)+1).toNat=m+1:=by omega
    have hC:=ae (Lc D);have hR:=(bL (hp.out m x (by omega))).1;have hY:=(bL u.out).1;have hS:=hrd.below j;have hm:=EE hS (m+1) D;have hi:=EE hS m x;generalize hA1:l[m+1]=A1 at *
    generalize hA0:l[m]=A0 at *
    by_cases H:A1.fr<A0.en
    ·have K:Hid (bQ l=(2,((m+1:Nat):Int))):=ae (by rw[z.out];exact vH D (by rw[hA1];exact u.out) (by rw[hA1,hC.out,decide_eq_true H];rfl));refine aN 26 [_,_,_,_,_,_,.v (.pointer (some ⟨b,off+m*7,none⟩)),_,.v (.int .i64 A0.en),_,_,.v (.pointer (some ⟨b,off+(m+1)*7,none⟩)),_,.v (.int .i64 A1.fr),_,_,_,_,_,_,_,_,_,_,_,.v (.bool true)] (Gk rfl (Gb (.bool true) (by simp[go_sem]) rfl rfl rfl rfl rfl (Gk rfl (Gk rfl (Gk rfl (Gb (.int .i64 (m:Int)) (by simp[go_sem,R,S]) rfl rfl rfl rfl rfl (ah ?_ (Gf b (off+m*7+1) rfl rfl (ah ?_ (Gk rfl (Gk rfl (ah ?_ (Gf b (off+(m+1)*7) rfl rfl (ah ?_ (Gb (.bool true) (by simp[go_sem,H]) rfl rfl rfl rfl rfl (Gk rfl (Gk rfl (Gk rfl (Gk rfl (Gk rfl (Gk rfl (Gk rfl (Gk rfl (Gk rfl (Gk rfl (Gk rfl (aF))))))))))))))))))))))))))) (λ_=>rfl) rfl ?_
     ·intro ρ y W A F E C;have U:=A 26 3 rfl;have h3:y 3=_:=C 3 rfl;have V:=A 28 5 rfl;have h5:y 5=_:=C 5 rfl;refine ak (.pointer (some ⟨b,off+m*7,none⟩)) (bD 2 25 true true rfl rfl ((A 25 2 rfl).trans (C 2 rfl))) (by simp[execOp,go_sem,U,h3,V,h5,x]) rfl
     ·intro ρ y W A F E C;have X:=A 30 7 rfl;have h7:y 7=_:=C 7 rfl;have s:=(hi.below E).cells.2.1;refine ak (.int .i64 A0.en) (bD 2 25 true true rfl rfl ((A 25 2 rfl).trans (C 2 rfl))) (by simp[execOp,go_sem,X,h7,s]) rfl
     ·intro ρ y W A F E C;have Y:=A 32 9 rfl;have h9:y 9=_:=C 9 rfl;have Z:=A 33 10 rfl;have hr:y 10=_:=C 10 rfl;refine ak (.pointer (some ⟨b,off+(m+1)*7,none⟩)) (bD 2 25 true true rfl rfl ((A 25 2 rfl).trans (C 2 rfl))) (by simp[execOp,go_sem,Y,h9,Z,hr,D,L,M,N]) rfl
     ·intro ρ y W A F E C;have hs:=A 35 12 rfl;have hq:y 12=_:=C 12 rfl;have s:=(hm.below E).cells.1;refine ak (.int .i64 A1.fr) (bD 2 25 true true rfl rfl ((A 25 2 rfl).trans (C 2 rfl))) (by simp[execOp,go_sem,hs,hq,s]) rfl
     intro y WA q _;have d:=ag j q;have g:=n.ext q;clear j n
     go_wp2_with (refine aA rfl _ _ _ rfl w.heap.size #[.int .i64 (2),.int .i64 (((m+1:Nat):Int))] rfl rfl _ _ g rfl fau_size (nM _ _) ?_)
     intro J t p;have o:Below w.heap.size w J:=d.grown p d.size (λk I=>by cases I;exact az _);go_wp2;refine bodyPost_ret (v:=.agg #[.int .i64 (2),.int .i64 (((m+1:Nat):Int))]) (fA results129 _ _ w.heap.size _ _ _ rfl t underlying180 rfl fau_size) rfl ?_;exact⟨by rw[K.out];rfl,o⟩
    cases hj:dM A0 A1
    ·have hB:Hid (bQ l=jP (qy l (m+1+1)) (m+1+1) (l.drop (m+1+1))):=ae (by rw[z.out];exact vE D (by rw[hA1];exact u.out) (by rw[hA1,hC.out,decide_eq_false H,hj];rfl));refine aN 26 [_,_,_,_,_,_,.v (.pointer (some ⟨b,off+m*7,none⟩)),_,.v (.int .i64 A0.en),_,_,.v (.pointer (some ⟨b,off+(m+1)*7,none⟩)),_,.v (.int .i64 A1.fr),_,_,_,_,_,.v (.pointer (some ⟨b,off+m*7,none⟩)),_,_,.v (.pointer (some ⟨b,off+(m+1)*7,none⟩)),.v (.bool false),_,.v (.bool false)] (Gk rfl (Gb (.bool true) (by simp[go_sem]) rfl rfl rfl rfl rfl (Gk rfl (Gk rfl (Gk rfl (Gb (.int .i64 (m:Int)) (by simp[go_sem,R,S]) rfl rfl rfl rfl rfl (ah ?_ (Gf b (off+m*7+1) rfl rfl (ah ?_ (Gk rfl (Gk rfl (ah ?_ (Gf b (off+(m+1)*7) rfl rfl (ah ?_ (Gb (.bool false) (by simp[go_sem,H]) rfl rfl rfl rfl rfl (Gk rfl (Gk rfl (Gk rfl (Gb (.int .i64 (m:Int)) (by simp[go_sem,R,S]) rfl rfl rfl rfl rfl (ah ?_ (Gk rfl (Gk rfl (ah ?_ (ah ?_ (Gk rfl (Gk rfl (aF))))))))))))))))))))))))))) (λ_=>rfl) rfl ?_
     ·intro ρ y W A F E C;have U:=A 26 3 rfl;have h3:y 3=_:=C 3 rfl;have V:=A 28 5 rfl;have h5:y 5=_:=C 5 rfl;refine ak (.pointer (some ⟨b,off+m*7,none⟩)) (bD 2 25 true true rfl rfl ((A 25 2 rfl).trans (C 2 rfl))) (by simp[execOp,go_sem,U,h3,V,h5,x]) rfl
     ·intro ρ y W A F E C;have X:=A 30 7 rfl;have h7:y 7=_:=C 7 rfl;have s:=(hi.below E).cells.2.1;refine ak (.int .i64 A0.en) (bD 2 25 true true rfl rfl ((A 25 2 rfl).trans (C 2 rfl))) (by simp[execOp,go_sem,X,h7,s]) rfl
     ·intro ρ y W A F E C;have Y:=A 32 9 rfl;have h9:y 9=_:=C 9 rfl;have Z:=A 33 10 rfl;have hr:y 10=_:=C 10 rfl;refine ak (.pointer (some ⟨b,off+(m+1)*7,none⟩)) (bD 2 25 true true rfl rfl ((A 25 2 rfl).trans (C 2 rfl))) (by simp[execOp,go_sem,Y,h9,Z,hr,D,L,M,N]) rfl
     ·intro ρ y W A F E C;have hs:=A 35 12 rfl;have hq:y 12=_:=C 12 rfl;have s:=(hm.below E).cells.1;refine ak (.int .i64 A1.fr) (bD 2 25 true true rfl rfl ((A 25 2 rfl).trans (C 2 rfl))) (by simp[execOp,go_sem,hs,hq,s]) rfl
     ·intro ρ y W A F E C;have hP:=A 39 16 rfl;have G:y 16=_:=C 16 rfl;have hO:=A 41 18 rfl;have hJ:y 18=_:=C 18 rfl;refine ak (.pointer (some ⟨b,off+m*7,none⟩)) (bD 15 38 false false rfl rfl ((A 38 15 rfl).trans (C 15 rfl))) (by simp[execOp,go_sem,hP,G,hO,hJ,x]) rfl
     ·intro ρ y W A F E C;have hM:=A 43 20 rfl;have hH:y 20=_:=C 20 rfl;have hL:=A 44 21 rfl;have hG:y 21=_:=C 21 rfl;refine ak (.pointer (some ⟨b,off+(m+1)*7,none⟩)) (bD 15 38 false false rfl rfl ((A 38 15 rfl).trans (C 15 rfl))) (by simp[execOp,go_sem,hM,hH,hL,hG,D,L,M,N]) rfl
     ·intro ρ y W A F E C;have hN:=A 42 19 rfl;have hI:y 19=_:=C 19 rfl;have hK:=A 45 22 rfl;have hF:y 22=_:=C 22 rfl;have EF:∀f,ρ (.func f) = .func (.func f) #[] #[]:=λf=>F (.func f) trivial;refine aO _ _ (bD 15 38 false false rfl rfl ((A 38 15 rfl).trans (C 15 rfl))) (aT rfl (EF _) func170 (by kernel_rfl) (by kernel_rfl) (by simp only[bX,bR,aY,hN,hI,hK,hF,EF];rfl)) ?_;refine (GV b (off+m*7) b (off+(m+1)*7) A0 A1 W (hi.below E) (hm.below E) hR).mono ?_;rintro r w1 ⟨rfl,hE⟩;rw[hj];exact⟨_,rfl,hE,rfl⟩
     intro y WA q _;have d:=ag j q;have g:=n.ext q;have hU:Hid (∀i (h:i<l.length),i<m+1+1->aV l[i]=0):=ae (mG hp.out D (by rw[hA1];exact u.out));clear j n L M N R S;go_wp2;go_roundw
     case rel=>exact⟨m+1+1,by omega,by go_num,d,g,hU.out,hB⟩
     case measure=>simp[intOf];omega
    have K:Hid (bQ l=(2,((m+1:Nat):Int))):=ae (by rw[z.out];exact vH D (by rw[hA1];exact u.out) (by rw[hA1,hC.out,hj,Je]));refine aN 26 [_,_,_,_,_,_,.v (.pointer (some ⟨b,off+m*7,none⟩)),_,.v (.int .i64 A0.en),_,_,.v (.pointer (some ⟨b,off+(m+1)*7,none⟩)),_,.v (.int .i64 A1.fr),_,_,_,_,_,.v (.pointer (some ⟨b,off+m*7,none⟩)),_,_,.v (.pointer (some ⟨b,off+(m+1)*7,none⟩)),.v (.bool true),_,.v (.bool true)] (Gk rfl (Gb (.bool true) (by simp[go_sem]) rfl rfl rfl rfl rfl (Gk rfl (Gk rfl (Gk rfl (Gb (.int .i64 (m:Int)) (by simp[go_sem,R,S]) rfl rfl rfl rfl rfl (ah ?_ (Gf b (off+m*7+1) rfl rfl (ah ?_ (Gk rfl (Gk rfl (ah ?_ (Gf b (off+(m+1)*7) rfl rfl (ah ?_ (Gb (.bool false) (by simp[go_sem,H]) rfl rfl rfl rfl rfl (Gk rfl (Gk rfl (Gk rfl (Gb (.int .i64 (m:Int)) (by simp[go_sem,R,S]) rfl rfl rfl rfl rfl (ah ?_ (Gk rfl (Gk rfl (ah ?_ (ah ?_ (Gk rfl (Gk rfl (aF))))))))))))))))))))))))))) (λ_=>rfl) rfl ?_
    ·intro ρ y W A F E C;have U:=A 26 3 rfl;have h3:y 3=_:=C 3 rfl;have V:=A 28 5 rfl;have h5:y 5=_:=C 5 rfl;refine ak (.pointer (some ⟨b,off+m*7,none⟩)) (bD 2 25 true true rfl rfl ((A 25 2 rfl).trans (C 2 rfl))) (by simp[execOp,go_sem,U,h3,V,h5,x]) rfl
    ·intro ρ y W A F E C;have X:=A 30 7 rfl;have h7:y 7=_:=C 7 rfl;have s:=(hi.below E).cells.2.1;refine ak (.int .i64 A0.en) (bD 2 25 true true rfl rfl ((A 25 2 rfl).trans (C 2 rfl))) (by simp[execOp,go_sem,X,h7,s]) rfl
    ·intro ρ y W A F E C;have Y:=A 32 9 rfl;have h9:y 9=_:=C 9 rfl;have Z:=A 33 10 rfl;have hr:y 10=_:=C 10 rfl;refine ak (.pointer (some ⟨b,off+(m+1)*7,none⟩)) (bD 2 25 true true rfl rfl ((A 25 2 rfl).trans (C 2 rfl))) (by simp[execOp,go_sem,Y,h9,Z,hr,D,L,M,N]) rfl
    ·intro ρ y W A F E C;have hs:=A 35 12 rfl;have hq:y 12=_:=C 12 rfl;have s:=(hm.below E).cells.1;refine ak (.int .i64 A1.fr) (bD 2 25 true true rfl rfl ((A 25 2 rfl).trans (C 2 rfl))) (by simp[execOp,go_sem,hs,hq,s]) rfl
    ·intro ρ y W A F E C;have hP:=A 39 16 rfl;have G:y 16=_:=C 16 rfl;have hO:=A 41 18 rfl;have hJ:y 18=_:=C 18 rfl;refine ak (.pointer (some ⟨b,off+m*7,none⟩)) (bD 15 38 false false rfl rfl ((A 38 15 rfl).trans (C 15 rfl))) (by simp[execOp,go_sem,hP,G,hO,hJ,x]) rfl
    ·intro ρ y W A F E C;have hM:=A 43 20 rfl;have hH:y 20=_:=C 20 rfl;have hL:=A 44 21 rfl;have hG:y 21=_:=C 21 rfl;refine ak (.pointer (some ⟨b,off+(m+1)*7,none⟩)) (bD 15 38 false false rfl rfl ((A 38 15 rfl).trans (C 15 rfl))) (by simp[execOp,go_sem,hM,hH,hL,hG,D,L,M,N]) rfl
    ·intro ρ y W A F E C;have hN:=A 42 19 rfl;have hI:y 19=_:=C 19 rfl;have hK:=A 45 22 rfl;have hF:y 22=_:=C 22 rfl;have EF:∀f,ρ (.func f) = .func (.func f) #[] #[]:=λf=>F (.func f) trivial;refine aO _ _ (bD 15 38 false false rfl rfl ((A 38 15 rfl).trans (C 15 rfl))) (aT rfl (EF _) func170 (by kernel_rfl) (by kernel_rfl) (by simp only[bX,bR,aY,hN,hI,hK,hF,EF];rfl)) ?_;refine (GV b (off+m*7) b (off+(m+1)*7) A0 A1 W (hi.below E) (hm.below E) hR).mono ?_;rintro r w1 ⟨rfl,hE⟩;rw[hj];exact⟨_,rfl,hE,rfl⟩
    intro y WA q _;have d:=ag j q;have g:=n.ext q;clear j n
    go_wp2_with (refine aA rfl _ _ _ rfl w.heap.size #[.int .i64 (2),.int .i64 (((m+1:Nat):Int))] rfl rfl _ _ g rfl fau_size (nM _ _) ?_)
    intro J t p;have o:Below w.heap.size w J:=d.grown p d.size (λk I=>by cases I;exact az _);go_wp2;refine bodyPost_ret (v:=.agg #[.int .i64 (2),.int .i64 (((m+1:Nat):Int))]) (fA results129 _ _ w.heap.size _ _ _ rfl t underlying180 rfl fau_size) rfl ?_;exact⟨by rw[K.out];rfl,o⟩
   have K:Hid (bQ l=(aV l[k],(k:Int))):=ae (by rw[z.out];exact HY D O);have u : (aV l[k] != 0)=true:=by simpa using O
   have d:=j;have g:=n;clear O j n
   go_wp2_with (refine aA rfl _ _ _ rfl w.heap.size #[.int .i64 (aV l[k]),.int .i64 (k)] rfl rfl _ _ g rfl fau_size (nM _ _) ?_)
   intro J t p;have o:Below w.heap.size w J:=d.grown p d.size (λk I=>by cases I;exact az _);go_wp2;refine bodyPost_ret (v:=.agg #[.int .i64 (aV l[k]),.int .i64 (k)]) (fA results129 _ _ w.heap.size _ _ _ rfl t underlying180 rfl fau_size) rfl ?_;exact⟨by rw[K.out];rfl,o⟩
  have K:Hid (bQ l=(0,0)):=ae (by rw[z.out,qO (by omega)];rfl)
  go_wp2_with (refine aA rfl _ _ _ rfl w.heap.size #[.int .i64 (0),.int .i64 (0)] rfl rfl _ _ g rfl fau_size (nM _ _) ?_)
  intro J t p;have o:Below w.heap.size w J:=d.grown p d.size (λk I=>by cases I;exact az _);go_wp2;refine bodyPost_ret (v:=.agg #[.int .i64 (0),.int .i64 (0)]) (fA results129 _ _ w.heap.size _ _ _ rfl t underlying180 rfl fau_size) rfl ?_;exact⟨by rw[K.out];rfl,o⟩
theorem Nh {l:List Ar} (h:dZ w a (l.flatMap mO)) (k:Nat) (j:k<l.length):∃b off,a=some ⟨b,off,none⟩/\w.cell? ⟨b,off+k*7,none⟩=some (.int .i64 l[k].fr)/\w.cell? ⟨b,off+k*7+1,none⟩=some (.int .i64 l[k].en)/\w.cell? ⟨b,off+k*7+2,none⟩=some (.bool l[k].rd)/\w.cell? ⟨b,off+k*7+3,none⟩=some (.bool l[k].wr) /\
  w.cell? ⟨b,off+k*7+4,none⟩=some (.bool l[k].sh)/\w.cell? ⟨b,off+k*7+5,none⟩=some (.int .i64 l[k].fi)/\w.cell? ⟨b,off+k*7+6,none⟩=some (.int .i64 l[k].ba):=by
 obtain⟨b,off,e,u⟩:=Tt h k j;exact⟨b,off,e,u.cells⟩
theorem PT (a:Ar) (g:Nat) (n:Int) (w:World) (u:aG w g #[.int .i64 n] 3) :
  Calls Tryz.prog 133 #[.agg #[.int .i64 a.fr,.int .i64 a.en,.bool a.rd,.bool a.wr,.bool a.sh,.int .i64 a.fi,.int .i64 a.ba],.pointer (some ⟨g,0,none⟩)] w λr w'=>r = .returned (.bool (pF n a))/\Below w.heap.size w w':=by
 go_enter func133,ntmps133;go_upto_region 1 with (fail);refine iC (λW=>Code.wp _ _ _ _ W) λW0 b c d => ?_;clear d;have e:=(u.ext b).cell 0;have f:=c.cell
 by_cases j:a.fr<=n
 ·by_cases h2:n<a.en
  ·have h:=ae (show pF n a=true by unfold pF;rw[decide_eq_true j,decide_eq_true h2];rfl);go_wp2;go_ret;exact⟨bY h.out.symm,b⟩
  have h:=ae (show pF n a=false by unfold pF;rw[decide_eq_false h2,mZ]);go_wp2;go_ret;exact⟨bY h.out.symm,b⟩
 have h:=ae (show pF n a=false by unfold pF;rw[decide_eq_false j,lZ]);go_wp2;go_ret;exact⟨bY h.out.symm,b⟩
theorem Lp (l:List Ar) (a:Option Addr) (c:Nat) (w:World) (y:dZ w a (l.flatMap mO)) (C:l.length<=9223372036854775807) (g:Nat) (n:Int) (A:aG w g #[.int .i64 n] 3) :
  Calls Tryz.prog 132 #[.slice a l.length c,.func (.func 133) #[] #[.pointer (some ⟨g,0,none⟩)]] w λe w'=>e = .returned (.int .i64 (idx (pF n) l))/\Below w.heap.size w w':=by
 go_enter func132,ntmps132;go_wp2
 go_loopw [8] (fun i wr => ∃k:Nat,k<=l.length/\i = .int .i64 k/\Below w.heap.size w wr/\∀i (h:i<l.length),i<k->(pF n) l[i]=false) (fun i _=>l.length-(intOf i).toNat)
 case atStart=>exact⟨0,aZ _,rfl,Below.refl _ _,λi _ h=>absurd h (fe _)⟩
 case round=>
  obtain⟨k,D,rfl,j,o⟩:=hrel;have z:=ae o;clear o
  by_cases u:k<l.length
  ·obtain⟨b,off,rfl,K,J,I,H,G,F,E⟩:=Nh (y.below j) k u
   go_wp2_with fail
   refine (PT l[k] g n _ (A.ext j)).mono ?_;rintro e w2 ⟨rfl,p⟩;have f:=ag j p;clear p;cases hpk:(pF n) l[k]
   ·have m:=ae hpk;clear hpk;go_wp2;go_roundw
    case rel=>exact⟨k+1,by omega,by go_num,f,mG z.out u m.out⟩
    case measure=>simp[intOf];omega
   have d:=ae (uG (pF n) l k u z.out hpk);clear hpk;go_wp2;go_ret;exact⟨aW d.out.symm,f⟩
  have d:=ae (lY (pF n) l λi h=>z.out i h (by omega));go_wp2;go_ret;exact⟨aW d.out.symm,j⟩
theorem GU (l:List Ar) (n:Int) (a:Option Addr) (c:Nat) (w:World) (h:dZ w a (l.flatMap mO)) (j:l.length<=9223372036854775807) :
  Calls Tryz.prog 87 #[.slice a l.length c,.int .i64 n] w λr w'=>r = .returned (.int .i64 (gU l n))/\Below w.heap.size w w':=by
 go_enter func87,ntmps87;go_upto_region 1 with (fail);refine iC (λW=>Code.wp _ _ _ _ W) λW0 b d e => ?_;clear e
 go_wp2_with fail
 refine (Lp l a c _ (h.below b) j w.heap.size n d).mono ?_;rintro r w1 ⟨rfl,f⟩;go_wp2;go_ret;exact⟨rfl,ag b f⟩
theorem Qj (l:List Ar):(l.flatMap mO).length=l.length*7:=Pw.flat_len mO 7 rG l
theorem Vb (a:Ar):∀u∈mO a,u.oneCell' = true:=by
 intro u h;simp only[mO,ku,dw,gN,or_false] at h;rcases h with rfl|rfl|rfl|rfl|rfl|rfl|rfl<;>rfl
theorem rO (l:List Ar):∀u∈l.flatMap mO,u.oneCell' = true:=by
 intro u j;obtain⟨a,_,h⟩:=kT.1 j;exact Vb a u h
theorem JZ (l:List Ar) (a:Option Addr) (c:Nat) (w:World) (A:l.length<=c) (y:a=none->c=0) (z:dZ w a (l.flatMap mO)) (F:l.length*40<=140737488355328) :
  Calls Tryz.prog 62 #[.slice a l.length c] w λe w' => ∃v,e = .returned v/\Own w' w.heap.size 94 7 v l.length (l.flatMap mO)/\Below w.heap.size w w':=by
 cases a with
 | none=>
  have G:=y rfl;have D:l=[]:=kS (by omega);subst D;subst G;have C:=λW=>mW (P:=Tryz.prog) W 71 _ none 0 0 0 0 underlying71;go_enter func62,ntmps62;go_wp2;go_ret;exact⟨_,rfl,by simpa using Own.nil _ _ _ _,Below.refl _ _⟩
 | some ad=>
  have C:=λW=>mW (P:=Tryz.prog) W 71 _ (some ad) l.length c 0 0 underlying71;go_enter func62,ntmps62
  go_wp2_with (at_builtin;go_must (refine fK rfl _ _ 71 rfl w.heap.size 94 (.agg #[.int .i64 0,.int .i64 0,.bool false,.bool false,.bool false,.int .i64 0,.int .i64 0]) 7 40 underlying71 area_info rfl (by decide) _ 0 [] rfl ?own (some ad) l.length c (l.flatMap mO) rfl (λh=>(by cases h)) A (Qj l) ?rd (rO l) (by unfold maxLen;omega) (by simpa using F) ?bb ?k))
  case own=>exact⟨rfl,.inr ⟨w.heap.size,0,0,#[],rfl,az _,aG.new _ _ _,az _,aZ _,by simp,λj u h=>by simp at h⟩⟩
  case rd=>exact z.below ((Below.refl _ _).alloc (az _) _)
  case bb=>exact gK _ _
  intro v w1 b d;go_wp2;go_ret;exact⟨v,rfl,by simpa using b,((Below.refl _ _).alloc (az _) _).grown d (gK _ _) (λk E=>by cases E;exact az _)⟩
structure WM (w:World) (a:Option Addr) (c:Nat) (l:List Ar):Prop where
 le:l.length<=c
 mx:c<=maxLen
 nl:a=none->c=0
 rd:dZ w a (l.flatMap mO)
theorem WM.below {l:List Ar} (h:WM w a c l) (j:Below w.heap.size w w'):WM w' a c l:=⟨h.le,h.mx,h.nl,h.rd.below j⟩
theorem uh (w:World) (F H G elem:TypeId) (sz g o u A:Nat) (a:Addr) (h y n:Nat) (cs:List Value) (cur:Array Value) (T:TypeId)
 (I:P.underlying F=some (.slice elem)) (C:(P.info? elem).map (·.size)=some sz) (J:Nat.min h u=n) (K:cs.length=n*sz) (D:aG w g cur T)
 (z:∀j v,cs[j]?=some v->w.cell? (a.add j)=some v) (E:o+cs.length<=cur.size) (N:∀v∈cs,v.oneCell' = true) :
  (Builtin.copy_ #[F,H] G #[.slice (some ⟨g,o,none⟩) u A,.slice (some a) h y]).run P w = .ok (goInt n) (w.setCells g o cs):=by
 have c:=run_loadCells_list (P:=P) w a cs z;have b:=run_storeCells_cells (P:=P) g o cs 0 w (λj L=>by rw[iJ,D.cell];simp[show o+j<cur.size by omega]) (λj L=>D.free _) N;cases hq:P.info? elem with
 | none=>simp[hq] at C
 | some i=>
  have M:i.size=sz:=by simpa[hq] using C
  simp[Builtin.copy_,run_underlying I,Builtin.lenOf,Builtin.firstCells,sizeOf,typeInfo,hq,M,J,<-K,c,b]
theorem VV (w:World) {a:Act} (j:o.guard=none) (d s:Operand) (t t' : TypeId)
 (A:o.op = .call { callee:=.builtin .copy,args:=#[d,s],argTypes:=#[t,t'] }) (v u:Value) (C:a.eval d=v) (y:a.eval s=u) 
 (z:(Builtin.copy_ #[t,t'] o.type #[v,u]).run P w = .ok v' w') (h:wpList P ops Q rest (a.put o.dst v') w'):wpList P ops Q (o::rest) a w:=
 wpList_plain j λK D=>by unfold Oper.wp execOp;simp only[A,resolve,invoke,builtin,kW,qP,qK,bX,bR,aY,C,y,z];exact D _ _ h
theorem Kt {a:Act} {K:Act->World->Prop} {E:Prop}
 (D:o.guard=none) (d x:Operand) (y j:TypeId) (h:o.op=Op.call { callee:=Callee.builtin Builtin.copy,args:=#[d,x],argTypes:=#[y,j] })
 (v u:Value) (F:a.eval d=v) (z:a.eval x=u) (C:(Builtin.copy_ #[y,j] o.type #[v,u]).run P w = .ok v' w') (G:K (a.put o.dst v') w') :
  if Region.wanted o (yielded ops a.tmps)=true then Oper.wp P o a w K Q else E:=by
 have A:Region.wanted o (yielded ops a.tmps)=true:=by simp[Region.wanted,D]
 rw[if_pos A];unfold Oper.wp;simp[execOp,h,resolve,invoke,builtin,F,z,C,Result.andThen];exact G
def XB (x:Ar):mQ:=⟨λv w => ∃g,v = .slice (some ⟨g,0,none⟩) 1 1/\aG w g (ku x) 94,λ_ _ _ hb ⟨g,h1,h2⟩=>⟨g,h1,h2.ext hb⟩⟩
theorem own_not {l:List Ar} {x:Ar} (h:Own w B 94 7 v l.length (l.flatMap mO)) (A:aG w g (ku x) 94) (G:¬x∈l) (J:0<l.length):∀b,v.ownBlock=some b->g≠b:=by
 rintro b F rfl;rcases h with ⟨C,⟨rfl,_⟩|⟨Z,off,U,cur,rfl,X,D,z,W,V,H⟩⟩
 ·cases F
 cases F;unfold aG at D A;rw[D] at A;simp only[jr,ug,and_true] at A;subst A;have Y:(ku x).size=7:=rfl;have I:off=0:=by omega
 subst I
 match l,J with
 | y::r,_=>
  have z:∀(j:Nat) (u:Value),(mO y)[j]?=some u->(ku x)[j]?=some u:=by intro j u E;have:=H j u (by rw[nX,kF (by have:=(cz.1 E).1;exact this)];exact E);rwa [dV] at this
  have S:=z 0 _ rfl;have R:=z 1 _ rfl;have O:=z 2 _ rfl;have N:=z 3 _ rfl;have M:=z 4 _ rfl;have L:=z 5 _ rfl;have K:=z 6 _ rfl;simp[ku] at S R O N M L K;refine G (dw.2 (.inl ?_));cases x;cases y
  simp_all
theorem xz {n:Nat} {d:TypeDesc} (z:P.underlying t=some (.array n e)) (C:P.underlying e=some d) (E:aggB d=true) (h:(P.info? e).map (·.size)=some sz)
 (cs:Array Value) (k:Nat) (vs:Array Value) (A:k<n) (y:cs.extract (k*sz) (k*sz+sz)=vs) (j:IntKind) (w:World):(Instr.index t (.agg cs) (.int j k)).run P w = .ok (.agg vs) w:=by
 have a:∀w,(Go.sizeOf e).run P w = .ok sz w:=by
  intro w;cases hq:P.info? e with
  | none=>simp[hq] at h
  | some i=>
   have u:i.size=sz:=by simpa[hq] using h
   simp[Go.sizeOf,typeInfo,run_program,hq,u]
 have D:∀w,(isAgg e).run P w = .ok true w:=by intro w;unfold isAgg;simp[run_underlying C];cases d<;>simp_all[aggB]
 simp[Instr.index,part,asIntOf,run_underlying z,a,A,D,go_sem,y]
theorem wT (l:List Int) (a:Option Addr) (c:Nat) (w:World) (A:l.length<=c) (y:a=none->c=0) (z:dZ w a (l.map fZ)) (F:l.length*8<=140737488355328) :
  Calls Tryz.prog 58 #[.slice a l.length c] w λe w' => ∃v,e = .returned v/\Own w' w.heap.size 3 1 v l.length (l.map fZ)/\Below w.heap.size w w':=by
 cases a with
 | none=>
  have G:=y rfl;have D:l=[]:=kS (by omega);subst D;subst G;have C:=λW=>mW (P:=Tryz.prog) W 34 _ none 0 0 0 0 underlying34;go_enter func58,ntmps58;go_wp2;go_ret;exact⟨_,rfl,by simpa using Own.nil _ _ _ _,Below.refl _ _⟩
 | some ad=>
  have C:=λW=>mW (P:=Tryz.prog) W 34 _ (some ad) l.length c 0 0 underlying34;go_enter func58,ntmps58
  go_wp2_with (at_builtin;go_must (refine fK rfl _ _ 34 rfl w.heap.size 3 (.int .i64 0) 1 8 underlying34 int_info rfl (by decide) _ 0 [] rfl ?own (some ad) l.length c (l.map fZ) rfl (λh=>(by cases h)) A (JX l) ?rd (KQ l) (by unfold maxLen;omega) (by simpa using F) ?bb ?k))
  case own=>exact⟨rfl,.inr ⟨w.heap.size,0,0,#[],rfl,az _,aG.new _ _ _,az _,aZ _,by simp,λj u h=>by simp at h⟩⟩
  case rd=>exact z.below ((Below.refl _ _).alloc (az _) _)
  case bb=>exact gK _ _
  intro v w1 b d;go_wp2;go_ret;exact⟨v,rfl,by simpa using b,((Below.refl _ _).alloc (az _) _).grown d (gK _ _) (λk E=>by cases E;exact az _)⟩
theorem Vs (n:Int) (w:World):Calls Tryz.prog 166 #[.int .i64 n] w λe w'=>e = .returned (.bool (rf n))/\w' = w:=by
 unfold rf;go_enter func166,ntmps166;go_wp2
 all_goals
  go_ret;refine⟨bY ?_,rfl⟩;simp[*]
theorem SB (l:List Int) (a:Option Addr) (c:Nat) (w:World) (u:dZ w a (l.map fZ)) (z:l.length<=9223372036854775807) :
  Calls Tryz.prog 197 #[.slice a l.length c,.func (.func 166) #[] #[]] w λe w'=>e = .returned (.int .i64 (idx rf l))/\w' = w:=by
 go_enter func197,ntmps197;go_wp2
 go_loopw [8] (fun i wr => ∃k:Nat,k<=l.length/\i = .int .i64 k/\wr=w/\∀i (h:i<l.length),i<k->rf l[i]=false) (fun i _=>l.length-(intOf i).toNat)
 case atStart=>exact⟨0,aZ _,rfl,rfl,λi _ h=>absurd h (fe _)⟩
 case round=>
  obtain⟨k,A,rfl,rfl,y⟩:=hrel
  by_cases j:k<l.length
  ·obtain⟨b,off,rfl,C⟩:=kD u k j
   go_wp2_with fail
   refine (Vs l[k] _).mono ?_;rintro e w1 ⟨rfl,rfl⟩;cases hbk:rf l[k] with
   | true=>
    go_wp2;go_ret;exact⟨aW (uG rf l k j y hbk).symm,rfl⟩
   | false=>
    go_wp2;go_roundw
    case rel=>exact⟨k+1,by omega,by go_num,trivial,upto y j hbk⟩
    case measure=>simp[intOf];omega
  go_wp2;go_ret;exact⟨aW (lY rf l λi h=>y i h (by omega)).symm,rfl⟩
theorem Ed (l:List Int) (a:Option Addr) (c:Nat) (w:World) (h:dZ w a (l.map fZ)) (j:l.length<=9223372036854775807) :
  Calls Tryz.prog 165 #[.slice a l.length c,.func (.func 166) #[] #[]] w λe w'=>e = .returned (.bool (l.any rf))/\w' = w:=by
 rw[<-pu];go_enter func165,ntmps165
 go_wp2_with fail
 refine (SB l a c _ h j).mono ?_;rintro e w1 ⟨rfl,rfl⟩;go_wp2;go_ret;exact⟨rfl,rfl⟩
theorem xx (l:List Int) (a:Option Addr) (c:Nat) (w:World) (j:dZ w a (l.map fZ)) (u:l.length<=9223372036854775807) :
  Calls Tryz.prog 126 #[.slice a l.length c] w λe w'=>e = .returned (.int .i64 (dF l))/\w' = w:=by
 unfold dF;go_enter func126,ntmps126
 by_cases h:60<l.length
 ·have y:(60:Int)<(l.length:Int):=by omega
  go_wp2;go_ret;exact⟨by simp[h],rfl⟩
 have y:¬(60:Int)<(l.length:Int):=by omega
 go_wp2_with fail
 refine (Ed l a c _ j u).mono ?_;rintro e w1 ⟨rfl,rfl⟩;cases hb:l.any rf
 all_goals
  go_wp2;go_ret;exact⟨by simp[h],rfl⟩
theorem Kz (l:List Int) (a:Option Addr) (c:Nat) (w:World) (y:dZ w a (l.map fZ)) (F:l.length<=9223372036854775807) :
  Calls Tryz.prog 97 #[.slice a l.length c] w λe w'=>e = .returned (.int .i64 (dF l))/\w' = w:=by
 unfold dF;go_enter func97,ntmps97
 by_cases h:60<l.length
 ·have C:(60:Int)<(l.length:Int):=by omega
  go_wp2;go_ret;exact⟨by simp[h],rfl⟩
 have C:¬(60:Int)<(l.length:Int):=by omega
 rw[if_neg h];go_wp2
 go_loopw [10] (fun i wr => ∃k:Nat,k<=l.length/\i = .int .i64 k/\wr=w/\∀i (h:i<l.length),i<k->rf l[i]=false) (fun i _=>l.length-(intOf i).toNat)
 case atStart=>exact⟨0,aZ _,rfl,rfl,λi _ h=>absurd h (fe _)⟩
 case round=>
  obtain⟨k,G,rfl,rfl,A⟩:=hrel
  by_cases j:k<l.length
  ·obtain⟨b,off,rfl,H⟩:=kD y k j
   by_cases u:l[k]<0\/1000<l[k]
   ·have d:rf l[k]=true:=by simpa[rf] using u
    have z:l.any rf=true:=jK.2 ⟨_,eO j,d⟩;rcases u with u|u <;>
    go_wp2
    all_goals
     go_ret;exact⟨by simp[z],rfl⟩
   have d:rf l[k]=false:=by simp[rf];omega
   have E:¬l[k]<0:=by omega
   have D:¬(1000<l[k]):=by omega
   go_wp2;go_roundw
   case rel=>exact⟨k+1,by omega,by go_num,trivial,upto A j d⟩
   case measure=>simp[intOf];omega
  have z:l.any rf=false:=by rw[<-pu,lY rf l λi h=>A i h (by omega)];rfl
  go_wp2
  all_goals
   go_ret;exact⟨by simp[z],rfl⟩
theorem KZ (l:List Int) (a:Option Addr) (c:Nat) (w:World) (y:dZ w a (l.map fZ)) (C:l.length<=9223372036854775807) :
  Calls Tryz.prog 210 #[.slice a l.length c,.int .i64 0] w λe w'=>e = .returned (.int .i64 (idx JF l))/\w' = w:=by
 go_enter func210,ntmps210;go_wp2
 go_loopw [8] (fun i wr => ∃k:Nat,k<=l.length/\i = .int .i64 k/\wr=w/\∀i (h:i<l.length),i<k->JF l[i]=false) (fun i _=>l.length-(intOf i).toNat)
 case atStart=>exact⟨0,aZ _,rfl,rfl,λi _ h=>absurd h (fe _)⟩
 case round=>
  obtain⟨k,D,rfl,rfl,z⟩:=hrel
  by_cases j:k<l.length
  ·obtain⟨b,off,rfl,A⟩:=kD y k j
   by_cases u:l[k]=0
   ·have d:JF l[k]=true:=by simp[JF,u]
    rw[u] at A;go_wp2;go_ret;exact⟨aW (uG JF l k j z d).symm,rfl⟩
   have d:JF l[k]=false:=by simp[JF,u]
   have f : ((0:Int)==l[k])=false:=by simp;omega
   go_wp2;go_roundw
   case rel=>exact⟨k+1,by omega,by go_num,trivial,upto z j d⟩
   case measure=>simp[intOf];omega
  go_wp2;go_ret;exact⟨aW (lY JF l λi h=>z i h (by omega)).symm,rfl⟩
theorem MK (l:List Int) (a:Option Addr) (c:Nat) (n:Int) (w:World) (E:l.length<=c) (A:a=none->c=0) (y:dZ w a (l.map fZ)) (R:l.length<=9223372036854775807) :
  Calls Tryz.prog 201 #[.slice a l.length c,.int .i64 n] w λe w' => ∃v,e = .returned (.tuple #[v,.int .i64 (kJ l n),.int .i64 (iV l n)])/\Own w' w.heap.size 3 1 v (mU l n).length ((mU l n).map fZ)/\Below w.heap.size w w':=by
 go_enter func201,ntmps201
 go_wp2_with fail
 refine (xx l a c _ y (by omega)).mono ?_;rintro e w1 ⟨rfl,rfl⟩
 by_cases z:dF l=0
 ·rw[z];have d:=kE z
  by_cases D:n<1\/1000<n
  ·obtain⟨u,j,h⟩:=NF z D;rcases D with D|D <;>
   go_wp2
   all_goals
    go_ret3
    try simp only[u,j,h]
    exact⟨_,rfl,Own.nil _ _ _ _,Below.refl _ _⟩
  have M:¬n<1:=by omega
  have L:¬1000<n:=by omega
  go_wp2_with fail
  refine (KZ l a c _ y (by omega)).mono ?_;rintro e w2 ⟨rfl,rfl⟩;rcases Br JF l with ⟨C,_⟩|⟨k,G,C,N,_⟩
  ·obtain⟨u,j,h⟩:=Me z ⟨by omega,by omega⟩ C;rw[C];go_wp2
   go_ret3
   try simp only[u,j,h]
   exact⟨_,rfl,Own.nil _ _ _ _,Below.refl _ _⟩
  obtain⟨u,j,h⟩:=OE z ⟨by omega,by omega⟩ C;rw[C]
  go_wp2_with fail
  refine (wT l a c _ E A y (by omega)).mono ?_;rintro e K ⟨v,rfl,F,H⟩;obtain⟨g,off,J,rfl,I,f,U,S,b⟩:=F.put1 k G;go_wp2
  go_ret3
  try simp only[u,j,h]
  exact⟨_,rfl,by rw[bK];exact b n,H.setCell I _⟩
 obtain⟨u,j,h⟩:=Nv n z;have O:(dF l != 0)=true:=by simpa using z
 go_wp2
 go_ret3
 try simp only[u,j,h]
 exact⟨_,rfl,Own.nil _ _ _ _,Below.refl _ _⟩
theorem Fe (l:List Int) (a:Option Addr) (c:Nat) (k n:Int) (w:World) (F:l.length<=c) (E:a=none->c=0) (C:dZ w a (l.map fZ)) (W:l.length<=9223372036854775807) :
  Calls Tryz.prog 91 #[.slice a l.length c,.int .i64 k,.int .i64 n] w λe w' => ∃v,e = .returned (.tuple #[v,.int .i64 (dB l k n)])/\Own w' w.heap.size 3 1 v (cB l k n).length ((cB l k n).map fZ)/\Below w.heap.size w w':=by
 go_enter func91,ntmps91
 go_wp2_with fail
 refine (xx l a c _ C (by omega)).mono ?_;rintro e w1 ⟨rfl,rfl⟩
 by_cases z:dF l=0
 ·rw[z];have p:=kE z
  by_cases D:k<0\/(l.length:Int)<=k
  ·obtain⟨y,u⟩:=Gu (n:=n) z (show k<0\/(l.length:Int)<=k\/FM l k=0 from by omega);rcases D with D|D <;>
   go_wp2
   all_goals
    go_ret2
    try simp only[y,u]
    exact⟨_,rfl,Own.nil _ _ _ _,Below.refl _ _⟩
  obtain⟨k,rfl⟩:=iI (show 0<=k by omega);have h:k<l.length:=by omega
  have o:¬(l.length:Int)<=(k:Int):=by omega
  obtain⟨b,off,rfl,J⟩:=kD C k h;obtain⟨O,N⟩:=TL l k h z;have d:=UZ h
  by_cases H:l[k]=0
  ·obtain⟨y,u⟩:=Gu (n:=n) z (show (k:Int)<0\/(l.length:Int)<=k\/FM l k=0 from by omega);rw[H] at J;clear D d O N;go_wp2
   all_goals
    go_ret2
    try simp only[y,u]
    exact⟨_,rfl,Own.nil _ _ _ _,Below.refl _ _⟩
  have q : (l[k]==(0:Int))=false:=by simp;omega
  have f:¬((k:Int)<0\/(l.length:Int)<=k\/FM l k=0):=by omega
  by_cases A:n < -FM l k\/1000-FM l k<n
  ·obtain⟨y,u⟩:=NJ z f A;rw[d] at A;clear d f D;rcases A with A|A <;>
   go_wp2
   all_goals
    go_ret2
    try simp only[y,u]
    exact⟨_,rfl,Own.nil _ _ _ _,Below.refl _ _⟩
  obtain⟨y,u⟩:=QD z f A;rw[d] at A u;rw[bA] at u;have U:¬n < -l[k]:=by omega
  have S:¬1000-l[k]<n:=by omega
  clear d f D A
  go_wp2_with fail
  refine (wT l _ c _ F E C (by omega)).mono ?_;rintro e R ⟨v,rfl,I,K⟩;obtain⟨g,G,M,rfl,L,m,j,X,i⟩:=I.put1 k h;unfold fZ at j;go_wp2;go_ret2
  try simp only[y,u]
  exact⟨_,rfl,by rw[bK];exact i _,K.setCell L _⟩
 obtain⟨y,u⟩:=Mh k n z;have V:(dF l != 0)=true:=by simpa using z
 go_wp2;go_ret2
 try simp only[y,u]
 exact⟨_,rfl,Own.nil _ _ _ _,Below.refl _ _⟩
structure PS where
 lv:Bool
 aa:Option Addr
 ac:Nat
 ar:List Ar
 ts:Vector Value 8
 tb:Tb
def PS.sp (p:PS):Sp:=⟨p.lv,p.ar,p.tb⟩
def oh (v:Vector Value 8):Array Value:=#[v[0],v[1],v[2],v[3],v[4],v[5],v[6],v[7]]
theorem TS (v:Vector Value 8):(oh v).size=8:=rfl
theorem Ri (h:cs.size=8):∃v:Vector Value 8,cs=oh v:=by
 refine⟨⟨cs,h⟩,?_⟩;apply Array.ext
 ·rw[h,TS]
 intro i u h2;have j:i<8:=by omega
 match i,j with
 | 0,_=>rfl
 | 1,_=>rfl
 | 2,_=>rfl
 | 3,_=>rfl
 | 4,_=>rfl
 | 5,_=>rfl
 | 6,_=>rfl
 | 7,_=>rfl
 | n+8,h=>omega
def yM (p:PS):Array Value:=#[.bool p.lv,.slice p.aa p.ar.length p.ac,p.ts[0],p.ts[1],p.ts[2],p.ts[3],p.ts[4],p.ts[5],p.ts[6],p.ts[7]]
def sV (p:PS):List Value:=(yM p).toList
theorem oq (p:PS):(sV p).length=10:=rfl
theorem wI (c:Cc):(vV c).all (·.oneCell')=true:=by simp[vV,Value.oneCell']
theorem space_size:(Tryz.prog.info? 76).map (·.size)=some 10:=by kernel_rfl
theorem space_info:(Tryz.prog.info? 76).map (λi=>(i.zero,i.size,i.bytes))=some (some (.agg #[.bool false,.slice none 0 0,.slice none 0 0,.slice none 0 0,.slice none 0 0,.slice none 0 0,.slice none 0 0,.slice none 0 0,.slice none 0 0,.slice none 0 0]),10,224):=by kernel_rfl
theorem cached_size:(Tryz.prog.info? 122).map (·.size)=some 3:=by kernel_rfl
theorem cached_info:(Tryz.prog.info? 122).map (λi=>(i.zero,i.size,i.bytes))=some (some (.agg #[.int .i64 0,.int .i64 0,.int .i64 0]),3,24):=by kernel_rfl
theorem machine_size:(Tryz.prog.info? 45).map (·.size)=some 11:=by kernel_rfl
structure PS.good (w:World) (p:PS):Prop where
 ars:WM w p.aa p.ac p.ar
 tb:FL w (oh p.ts) p.tb
theorem PS.good.below {p:PS} (h:p.good w) (j:Below w.heap.size w w'):p.good w':=⟨h.ars.below j,h.tb.below j⟩
theorem PS.good.one {p:PS} (h:p.good w):∀u∈sV p,u.oneCell' = true:=by
 have y:∀u∈(oh p.ts).toList,u.oneCell' = true:=by have:=h.tb.one;rw[<-mE,eZ] at this;exact this
 intro u j;simp only[sV,yM,dw,gN,or_false] at j;simp only[oh,dw,gN,or_false] at y;rcases j with rfl|rfl|j
 ·rfl
 ·rfl
 ·exact y u j
structure ve (w:World) (a:Option Addr) (c n:Nat) (vs:List Value):Prop where
 le:n<=c
 mx:c<=maxLen
 nl:a=none->c=0
 rd:dZ w a vs
theorem ve.below {n:Nat} (h:ve w a c n vs) (j:Below w.heap.size w w'):ve w' a c n vs:={ h with rd:=h.rd.below j }
theorem ve.of {n:Nat} (h:Own w B e sz v n xs):∃a c,v = .slice a n c/\ve w a c n xs:=by
 obtain⟨a,c,rfl,y,h2,u,j⟩:=h.rd;exact⟨a,c,rfl,y,h2,u,j⟩
structure MH where
 af:Option Addr
 cf:Nat
 m:Mem
 asl:Option Addr
 csl:Nat
 sl:List Int
 wb:Option Addr
 cwb:Nat
 wq:Option Addr
 cwq:Nat
 sw:wC
 db:Option Addr
 cdb:Nat
 dq:Option Addr
 cdq:Nat
 dk:wC
 ai:Option Addr
 ci:Nat
 fi:List PF
 ct:Int
 ac:Option Addr
 cc:Nat
 ca:List Cc
 ap:Option Addr
 cp:Nat
 sp:List PS
def MH.ma (H:MH):Ma:=⟨H.m,H.sl,H.sw,H.dk,cK H.fi H.ct,H.ca,H.sp.map PS.sp⟩
def fB (H:MH):Array Value:=#[.slice H.af H.m.fs.length H.cf,.int .i64 H.m.hand,.slice H.asl H.sl.length H.csl,.slice H.wb H.sw.blocks.length H.cwb,.slice H.wq H.sw.queue.length H.cwq,
 .slice H.db H.dk.blocks.length H.cdb,.slice H.dq H.dk.queue.length H.cdq,.slice H.ai H.fi.length H.ci,.int .i64 H.ct,.slice H.ac H.ca.length H.cc,.slice H.ap H.sp.length H.cp]
theorem jN (H:MH):(fB H).all (·.oneCell')=true:=by simp[fB,Value.oneCell']
structure FD (w:World) (H:MH):Prop where
 fr:QV w H.af H.cf H.m
 sl:ve w H.asl H.csl H.sl.length (H.sl.map fZ)
 sw:QM w H.wb H.cwb H.wq H.cwq H.sw
 dk:QM w H.db H.cdb H.dq H.cdq H.dk
 st:LZ w H.ai H.ci H.fi
 ca:ve w H.ac H.cc H.ca.length (H.ca.flatMap iK)
 sp:ve w H.ap H.cp H.sp.length (H.sp.flatMap sV)
 ps:∀p∈H.sp,p.good w
 c64 : -9223372036854775808<=H.ct/\H.ct<=9223372036854775807
theorem FD.below {H:MH} (h:FD w H) (j:Below w.heap.size w w'):FD w' H:=
 ⟨h.fr.below j,h.sl.below j,h.sw.below j,h.dk.below j,h.st.below j,h.ca.below j,h.sp.below j,λp u=>(h.ps p u).below j,h.c64⟩
theorem uf {y:List PS} (h:dZ w a (y.flatMap sV)) (k:Nat) (z:k<y.length):∃b off p,a=some ⟨b,off,none⟩/\y[k]?=some p/\dZ w (some ⟨b,off+k*10,none⟩) (sV p):=by
 obtain⟨b,off,D,C⟩:=h.elem oq (by decide) k z;refine⟨b,off,y[k],D,aH z,λj u A=>⟨b,off+k*10,rfl,C j u A⟩⟩
theorem wB {H:MH} (h:FD w H) {p:PS} (j:H.sp[k]?=some p):p.good w:=h.ps p (bV j)
theorem Sm {l:List Cc} (h:dZ w a (l.flatMap iK)) (k:Nat) (u:k<l.length):∃b off c,a=some ⟨b,off,none⟩/\l[k]?=some c/\w.cell? ⟨b,off+k*3,none⟩=some (.int .i64 c.f)/\w.cell? ⟨b,off+k*3+1,none⟩=some (.int .i64 c.i)/\w.cell? ⟨b,off+k*3+2,none⟩=some (.int .i64 c.k):=by
 obtain⟨b,off,y,j⟩:=h.elem iX (by decide) k u;exact⟨b,off,l[k],y,aH u,j 0 _ rfl,j 1 _ rfl,j 2 _ rfl⟩
structure VH (m:Ma):Prop where
 fs:m.m.fs.length<=1000
 sl:m.sl.length<=1000
 swb:m.sw.blocks.length<=1000
 swq:m.sw.queue.length<=1000
 dkb:m.dk.blocks.length<=1000
 dkq:m.dk.queue.length<=1000
 st:m.st.fs.length<=1000/\∀f∈m.st.fs,f.b.length<=1000
 ca:m.ca.length<=1000
 sp:m.sp.length<=1000/\∀s∈m.sp,s.ar.length<=1000/\∀k (h:k<8),s.tb[k].length<=1000
structure wR (w:World) (B:Nat) (H:MH):Prop where
 fr:Own w B 66 13 (.slice H.af H.m.fs.length H.cf) H.m.fs.length (H.m.fs.flatMap pG)
 sl:Own w B 3 1 (.slice H.asl H.sl.length H.csl) H.sl.length (H.sl.map fZ)
 sw:ng w B (.slice H.wb H.sw.blocks.length H.cwb) (.slice H.wq H.sw.queue.length H.cwq) H.sw
 dk:ng w B (.slice H.db H.dk.blocks.length H.cdb) (.slice H.dq H.dk.queue.length H.cdq) H.dk
 st:qC w B (.slice H.ai H.fi.length H.ci) H.fi
 ca:Own w B 122 3 (.slice H.ac H.ca.length H.cc) H.ca.length (H.ca.flatMap iK)
 sp:Own w B 76 10 (.slice H.ap H.sp.length H.cp) H.sp.length (H.sp.flatMap sV)
 ps:∀p∈H.sp,Own w B 94 7 (.slice p.aa p.ar.length p.ac) p.ar.length (p.ar.flatMap mO)/\rJ w B (oh p.ts) p.tb
 c64 : -9223372036854775808<=H.ct/\H.ct<=9223372036854775807
theorem wR.below {H:MH} (h:wR w B H) (j:Below w.heap.size w w'):wR w' B H:=
 ⟨h.fr.below j,h.sl.below j,h.sw.below j,h.dk.below j,h.st.below j,h.ca.below j,h.sp.below j,λp u=>⟨(h.ps p u).1.below j,(h.ps p u).2.below j⟩,h.c64⟩
theorem wR.mono {H:MH} (h:wR w B H) (j:B'<=B):wR w B' H:=
 ⟨h.fr.mono j,h.sl.mono j,h.sw.mono j,h.dk.mono j,h.st.mono j,h.ca.mono j,h.sp.mono j,λp u=>⟨(h.ps p u).1.mono j,(h.ps p u).2.mono j⟩,h.c64⟩
theorem uI {n:Nat} (h:Own w B e sz (.slice a n c) n xs):ve w a c n xs:=by
 obtain⟨a',c',j,u⟩:=ve.of h;simp only[mJ,true_and] at j;obtain⟨rfl,rfl⟩:=j;exact u
theorem VA {b:Option Addr} {e:Nat} (h:ng w B (.slice a d.blocks.length c) (.slice b d.queue.length e) d):QM w a c b e d:=
 have j:=uI h.b;have h2:=uI h.q
 ⟨j.le,h2.le,j.mx,h2.mx,j.nl,h2.nl,j.rd,h2.rd⟩
theorem Wn {j:List PF} (h:qC w B (.slice a j.length c) j):LZ w a c j:=by
 obtain⟨a',c',u,y⟩:=h.rd;simp only[mJ,true_and] at u;obtain⟨rfl,rfl⟩:=u;exact y
theorem wR.rd {H:MH} (h:wR w B H):FD w H:=
 have j:=uI h.fr
 ⟨⟨j.le,j.mx,j.nl,j.rd⟩,uI h.sl,VA h.sw,VA h.dk,Wn h.st,uI h.ca,uI h.sp,λp u=>⟨have h2:=uI (h.ps p u).1;⟨h2.le,h2.mx,h2.nl,h2.rd⟩,(h.ps p u).2.rd⟩,h.c64⟩
theorem wR.keep {H:MH} (h:wR w B H) (u:aG w g cs T)
 (z:T≠66/\T≠3/\T≠58/\T≠105/\T≠101/\T≠122/\T≠76/\T≠94/\T≠68) (j:w.grownBy w' (some g)):wR w' B H:=
 have ⟨t1,t2,t3,t4,t5,t6,t7,t8,t9⟩:=z
 ⟨ax h.fr u t1 j,ax h.sl u t2 j,h.sw.keep u t3 t4 j,h.dk.keep u t3 t4 j,h.st.keep u t5 t2 j,ax h.ca u t6 j,ax h.sp u t7 j,λp y=>⟨ax (h.ps p y).1 u t8 j,(h.ps p y).2.keep u t9 j⟩,h.c64⟩
theorem kM {α:Type} {enc:α->List Value} (y:∀x,(enc x).length=sz) (z:0<sz) {l:List α} (h:dZ w a (l.flatMap enc)) (k:Nat) (A:k<l.length) :
  ∃b off,a=some ⟨b,off,none⟩/\dZ w (some ⟨b,off+k*sz,none⟩) (enc l[k]):=by
 obtain⟨b,off,E,D⟩:=h.elem y z k A;exact⟨b,off,E,λj u C=>⟨b,off+k*sz,rfl,D j u C⟩⟩
theorem bH (h:aG w b cs T) (o n:Nat):dZ w (some ⟨b,o,none⟩) ((cs.toList.drop o).take n):=by
 intro i u j;refine⟨b,o,rfl,?_⟩;rw[h.cell,<-uz];rw[mI] at j;split at j
 ·rw[qD] at j;exact j
 ·cases j
def qR (H:MH) (e:Int):Array Value:=#[.slice H.af H.m.fs.length H.cf,.int .i64 H.m.hand,.slice H.asl H.sl.length H.csl,.slice H.wb H.sw.blocks.length H.cwb,.slice H.wq H.sw.queue.length H.cwq,
 .slice H.db H.dk.blocks.length H.cdb,.slice H.dq H.dk.queue.length H.cdq,.slice H.ai H.fi.length H.ci,.int .i64 H.ct,.slice H.ac H.ca.length H.cc,.slice H.ap H.sp.length H.cp,.int .i64 e]
def oB (a:Option Addr):Option Nat:=(Value.slice a 0 0).ownBlock
theorem jA (a:Option Addr) (n c:Nat):(Value.slice a n c).ownBlock=oB a:=by cases a<;>rfl
structure lG (w:World) (B b:Nat) (H:MH) (e:Int):Prop where
 blk:aG w b (qR H e) 109
 ge:B<=b
 ma:wR w B H
 tz:∀p∈H.sp,FX p.tb
def kb (b:Nat) (H:MH) (x:Nat):Prop:=x=b\/oB H.af=some x\/oB H.ac=some x\/oB H.ap=some x
structure KS (w0:World) (b:Nat) (H0:MH) (w:World) (H:MH):Prop where
 os:w.os=w0.os
 tape:w.tape=w0.tape
 output:w.output=w0.output
 size:w0.heap.size<=w.heap.size
 keep:∀x,x<w0.heap.size->¬kb b H0 x->w.heap[x]?=w0.heap[x]?
 sn:∀x,kb b H x->kb b H0 x\/w0.heap.size<=x
theorem KS.refl (w:World) (b:Nat) (H:MH):KS w b H w H:=⟨rfl,rfl,rfl,az _,λ_ _ _=>rfl,λ_ h => .inl h⟩
theorem KS.trans {C A z:MH} (h:KS w0 b C w1 A) (k:KS w1 b A w2 z):KS w0 b C w2 z:=
 ⟨k.os.trans h.os,k.tape.trans h.tape,k.output.trans h.output,bi h.size k.size,λx j y=>(k.keep x (oG j h.size) (λD=>(h.sn x D).elim y (λu=>absurd j (DW.2 u)))).trans (h.keep x j y),
  λx j=>(k.sn x j).elim (h.sn x) (λu => .inr (bi h.size u))⟩
theorem KS.below {y H:MH} (h:KS w0 b y w H) (j:Below w.heap.size w w'):KS w0 b y w' H:=
 ⟨j.os.trans h.os,j.tape.trans h.tape,j.output.trans h.output,bi h.size j.size,λx u z=>(j.block x (oG u h.size)).trans (h.keep x u z),h.sn⟩
theorem KS.put {y:Nat} {H0 H H' : MH} (h:KS w0 b H0 w H) (z:w.grownBy w' (some y)) (A:kb b H y) (C:∀x,kb b H' x->kb b H x\/w0.heap.size<=x):KS w0 b H0 w' H':=
 ⟨z.os.trans h.os,z.tape.trans h.tape,z.output.trans h.output,bi h.size z.size,λx j u=>(z.block x (oG j h.size) (λe=>by have e' : x=y:=aM e;rw[<-e'] at A;exact (h.sn x A).elim u (λD=>absurd j (DW.2 D)))).trans (h.keep x j u),λx j=>(C x j).elim (h.sn x) .inr⟩
theorem lG.lt {H:MH} {e:Int} (h:lG w B b H e):b<w.heap.size:=h.blk.lt
theorem lG.bs {H:MH} {e:Int} (h:lG w B b H e):B<=w.heap.size:=bi h.ge (qZ h.lt)
theorem lG.below {H:MH} {e:Int} (h:lG w B b H e) (j:Below w.heap.size w w'):lG w' B b H e:=⟨h.blk.ext j,h.ge,h.ma.below j,h.tz⟩
theorem iY {n:Nat} (h:Own w B e sz (.slice a n c) n xs) {x:Nat} (j:oB a=some x):B<=x/\∃cs,aG w x cs e:=by
 rw[<-jA a n c] at j;exact⟨h.ge x j,mK h x j⟩
theorem lG.kb_ge {H:MH} {e:Int} (h:lG w B b H e) {x:Nat} (j:kb b H x):B<=x:=by
 rcases j with j|j|j|j
 ·rw[j];exact h.ge
 ·exact (iY h.ma.fr j).1
 ·exact (iY h.ma.ca j).1
 ·exact (iY h.ma.sp j).1
theorem lG.kb_T {H:MH} {e:Int} (h:lG w B b H e) {x:Nat} (j:kb b H x):∃cs T,aG w x cs T/\(T=109\/T=66\/T=122\/T=76):=by
 rcases j with j|j|j|j
 ·rw[j];exact⟨_,_,h.blk,.inl rfl⟩
 ·obtain⟨cs,u⟩:=(iY h.ma.fr j).2;exact⟨cs,_,u,.inr (.inl rfl)⟩
 ·obtain⟨cs,u⟩:=(iY h.ma.ca j).2;exact⟨cs,_,u,.inr (.inr (.inl rfl))⟩
 ·obtain⟨cs,u⟩:=(iY h.ma.sp j).2;exact⟨cs,_,u,.inr (.inr (.inr rfl))⟩
theorem KS.to {u H:MH} {e:Int} (h:lG w0 B b u e) (j:KS w0 b u w H) (A:B0<=B):Below B0 w0 w:=
 ⟨j.os,j.tape,j.output,j.size,λx z=>j.keep x (by have:=h.bs;omega) (λy=>by have:=h.kb_ge y;omega)⟩
theorem KS.blk {x:Nat} {y H:MH} {e:Int} (F:KS w0 b y w H) (h:lG w0 B b y e) (u:aG w0 x cs T) (G:T≠109/\T≠66/\T≠122/\T≠76):aG w x cs T:=by
 refine (F.keep x u.lt λE => ?_).trans u;obtain⟨cs',T',j,I⟩:=h.kb_T E;unfold aG at u j;rw[u] at j;simp only[jr,ug] at j;obtain⟨D,C,A,z⟩:=G;rcases I with e|e|e|e
 ·exact D (j.2.1.trans e)
 ·exact C (j.2.1.trans e)
 ·exact A (j.2.1.trans e)
 ·exact z (j.2.1.trans e)
theorem KS.blkN {x:Nat} {j H:MH} (y:KS w0 b j w H) (h:aG w0 x cs T) (u:¬kb b j x):aG w x cs T:=(y.keep x h.lt u).trans h
theorem KS.own {y H:MH} {e:Int} {n:Nat} (A:KS w0 b y w H) (h:lG w0 B b y e) (u:Own w0 B' t sz v n xs) (D:t≠109/\t≠66/\t≠122/\t≠76):Own w B' t sz v n xs:=
 ⟨u.1,u.2.imp id λ⟨g,off,j,cur,z,E,C,r⟩=>⟨g,off,j,cur,z,E,A.blk h C D,r⟩⟩
theorem wR.keepK {H:MH} {e:Int} (h:lG w B b H e) (j:w.grownBy w' (some b)):wR w' B H:=h.ma.keep h.blk (by decide) j
theorem lG.setM {H:MH} {e:Int} (h:lG w B b H e) {m:Mem} (u:Own w B 66 13 (.slice a m.fs.length c) m.fs.length (m.fs.flatMap pG)) (y:aG w' b (bI (qR H e) 0 [.slice a m.fs.length c,.int .i64 m.hand]) 109) (j:w.grownBy w' (some b)) :
  lG w' B b { H with af:=a,cf:=c,m:=m } e:=
 ⟨y,h.ge,{ wR.keepK h j with fr:=ax u h.blk (by decide) j },h.tz⟩
theorem lG.setL {H:MH} {e:Int} (h:lG w B b H e) (u:Own w B 3 1 (.slice a l.length c) l.length (l.map fZ)) (y:aG w' b (bI (qR H e) 2 [.slice a l.length c]) 109) (j:w.grownBy w' (some b)) :
  lG w' B b { H with asl:=a,csl:=c,sl:=l } e:=
 ⟨y,h.ge,{ wR.keepK h j with sl:=ax u h.blk (by decide) j },h.tz⟩
theorem lG.setW {H:MH} {e:Int} (h:lG w B b H e) (u:ng w B (.slice a d.blocks.length c) (.slice a' d.queue.length c') d) (y:aG w' b (bI (qR H e) 3 [.slice a d.blocks.length c,.slice a' d.queue.length c']) 109) (j:w.grownBy w' (some b)) :
  lG w' B b { H with wb:=a,cwb:=c,wq:=a',cwq:=c',sw:=d } e:=
 ⟨y,h.ge,{ wR.keepK h j with sw:=u.keep h.blk (by decide) (by decide) j },h.tz⟩
theorem lG.setD {H:MH} {e:Int} (h:lG w B b H e) (u:ng w B (.slice a d.blocks.length c) (.slice a' d.queue.length c') d) (y:aG w' b (bI (qR H e) 5 [.slice a d.blocks.length c,.slice a' d.queue.length c']) 109) (j:w.grownBy w' (some b)) :
  lG w' B b { H with db:=a,cdb:=c,dq:=a',cdq:=c',dk:=d } e:=
 ⟨y,h.ge,{ wR.keepK h j with dk:=u.keep h.blk (by decide) (by decide) j },h.tz⟩
theorem lG.setS {H:MH} {e:Int} (h:lG w B b H e) {j:List PF} {k:Int} (y:qC w B (.slice a j.length c) j) (hk : -9223372036854775808<=k/\k<=9223372036854775807) (z:aG w' b (bI (qR H e) 7 [.slice a j.length c,.int .i64 k]) 109) (u:w.grownBy w' (some b)) :
  lG w' B b { H with ai:=a,ci:=c,fi:=j,ct:=k } e:=
 ⟨z,h.ge,{ wR.keepK h u with st:=y.keep h.blk (by decide) (by decide) u,c64:=hk },h.tz⟩
theorem lG.setE {H:MH} {e e' : Int} (h:lG w B b H e) (u:aG w' b (bI (qR H e) 11 [.int .i64 e']) 109) (j:w.grownBy w' (some b)):lG w' B b H e':=
 ⟨u,h.ge,wR.keepK h j,h.tz⟩
def KR (w:World) (B b:Nat) (H:MH) (w' : World) (k:Kp):Prop:=∃H' e',lG w' B b H' e'/\KS w b H w' H'/\Kp.mk H'.ma e' = k
theorem Dw {H H' : MH} (u:H'.af=H.af) (h2:H'.ac=H.ac) (j:H'.ap=H.ap) {x:Nat} (h:kb b H' x):kb b H x:=by
 unfold kb at h ⊢; rw[u,h2,j] at h;exact h
theorem KS.putB {H0 H H' : MH} (h:KS w0 b H0 w H) (u:w.grownBy w' (some b)) (z:H'.af=H.af) (h2:H'.ac=H.ac) (y:H'.ap=H.ap):KS w0 b H0 w' H':=
 h.put u (.inl rfl) λx j => .inl (Dw z h2 y j)
theorem KS.putF {H0 H H' : MH} {n:Nat} (h:KS w0 b H0 w H) (y:w.grownBy w' (some b)) (u:Own w B' t sz (.slice H'.af n c) n xs) (z:w0.heap.size<=B') (h2:H'.ac=H.ac) (A:H'.ap=H.ap):KS w0 b H0 w' H':=
 h.put y (.inl rfl) λx j=>by
  rcases j with j|j|j|j
  ·exact .inl (.inl j)
  ·exact .inr (bi z (iY u j).1)
  ·exact .inl (.inr (.inr (.inl (by rw[<-h2];exact j))))
  ·exact .inl (.inr (.inr (.inr (by rw[<-A];exact j))))
theorem Np {row:Option Nat} (h:Below w.heap.size w w1) (j:w1.grownBy w2 row):w.grownBy w2 row:=
 ⟨j.os.trans h.os,j.tape.trans h.tape,j.output.trans h.output,bi h.size j.size,λk u y=>(j.block k (oG u h.size) y).trans (h.block k u)⟩
def KJ (k B:Nat) (T:TypeId) (R:mQ):wP:=⟨λy w => ∃g cc,y k = .pointer (some ⟨g,0,none⟩)/\B<=g/\aG w g cc T/\R.r (.agg cc) w,[k],
 λy w w' hb ⟨g,cc,h1,h2,h3,h4⟩=>⟨g,cc,h1,h2,h3.ext hb,R.st _ _ _ hb h4⟩,λy y' w h ⟨g,cc,h1,h2⟩=>⟨g,cc,by rw[<-h k (bC.2 rfl)];exact h1,h2⟩⟩
theorem bU (h:cs.all (·.oneCell')=true):∀u∈cs.toList,u.oneCell' = true:=by
 rw[<-mE,eZ] at h;exact h
theorem ul (H:MH):H.ma.sp.length=H.sp.length:=fH _
theorem zy {l:List Cc} (h:dZ w a (l.flatMap iK)) (k:Nat) (j:k<l.length):∃b off,a=some ⟨b,off,none⟩/\dZ w (some ⟨b,off+k*3,none⟩) (iK l[k]):=kM iX (by decide) h k j
theorem nU (e:Int):jm e 0=e:=by unfold jm;split<;>simp_all
theorem Ub {e:Int} (h:e≠0) (j:Int):jm e j=e:=by unfold jm;rw[if_neg h]
theorem lG.rdM {H:MH} {e:Int} (h:lG w B b H e):dZ w (some ⟨b,0,none⟩) [.slice H.af H.m.fs.length H.cf,.int .i64 H.m.hand]:=bH h.blk 0 2
theorem lG.rdW {H:MH} {e:Int} (h:lG w B b H e):dZ w (some ⟨b,3,none⟩) [.slice H.wb H.sw.blocks.length H.cwb,.slice H.wq H.sw.queue.length H.cwq]:=bH h.blk 3 2
theorem lG.rdD {H:MH} {e:Int} (h:lG w B b H e):dZ w (some ⟨b,5,none⟩) [.slice H.db H.dk.blocks.length H.cdb,.slice H.dq H.dk.queue.length H.cdq]:=bH h.blk 5 2
theorem lG.rdS {H:MH} {e:Int} (h:lG w B b H e):dZ w (some ⟨b,7,none⟩) [.slice H.ai H.fi.length H.ci,.int .i64 H.ct]:=bH h.blk 7 2
theorem rZ (H:MH) (e j:Int) (B b:Nat) (w:World) (h:lG w B b H e) :
  Calls Tryz.prog 138 #[.pointer (some ⟨b,0,none⟩),.int .i64 j] w λr w'=>r = .returned (.tuple #[])/\lG w' B b H (jm e j)/\w.grownBy w' (some b):=by
 have z:=h.blk.cell;have D:=h.blk.free;unfold qR at z;go_enter func138,ntmps138
 by_cases y:e=0
 ·have u:=aC w b 11 [.int .i64 j];have A:=h.blk.setCells [.int .i64 j] 11;have a:Hid (jm e j=j):=ae (by unfold jm;rw[if_pos y]);have C:=ae h;clear h;go_wp2;simp[bodyPost,results,go_sem,results138];rw[a.out];exact⟨C.out.setE A u,u⟩
 go_wp2;simp[bodyPost,results,go_sem,results138];rw[Ub y];exact⟨h,IA _ _⟩
theorem RY (H:MH) (e f n:Int) (B b:Nat) (w:World) (h:lG w B b H e) :
  Calls Tryz.prog 94 #[.pointer (some ⟨b,0,none⟩),.int .i64 f,.int .i64 n] w λr w'=>r = .returned (.tuple #[])/\∃H' e',lG w' B b H' e'/\KS w b H w' H'/\Kp.mk H'.ma e' = gB ⟨H.ma,e⟩ f n/\H'.sp=H.sp:=by
 go_enter func94,ntmps94
 go_wp2_with (refine ay _ _ rfl b 0 rfl rfl _ h.rdM _ underlying32 rfl mem_size ?_)
 refine (PK H.m f n _ _ _ h.ma.rd.fr).mono ?_;rintro r w1 ⟨M,rfl,A,l⟩;obtain⟨I,G,rfl,_⟩:=zM A;have p:=ae h.bs;have F:=h.below l;have E:=(KS.refl w b H).below l
 go_wp2_with (refine aL rfl _ _ _ rfl #[.slice I (lT H.m f n).fs.length G,.int .i64 (lT H.m f n).hand] rfl rfl rfl mem_size (iO _ _ _ _) ?_)
 intro w2 c g;have h2:=F.below c;have D:=E.below c;have j:=A.below c;clear F E A c
 go_wp2_with fail
 refine (rZ _ e (nZ H.m f n) _ _ _ h2).mono ?_;rintro r L ⟨rfl,u,a⟩;have C:=D.putB a rfl rfl rfl;have i:=ax j h2.blk (by decide) a;have d:=bZ g h2.blk (by decide) a;clear h2 D j g a
 by_cases y:nZ H.m f n=0
 ·rw[y,nU] at u;have z:Hid (gB ⟨H.ma,e⟩ f n=⟨{ H.ma with m:=lT H.m f n },e⟩):=ae (by unfold gB;exact if_pos y);have N:=d.cell;clear h;rw[y]
  go_wp2_with (first | (refine ay _ _ rfl _ 0 rfl rfl [.slice I (lT H.m f n).fs.length G,.int .i64 (lT H.m f n).hand] (bH d 0 2) _ underlying32 rfl mem_size ?_) | (refine gH rfl _ _ _ rfl b 0 _ rfl rfl _ _ u.blk (by show 0+2<=12;decide) mem_size (iO _ _ _ _) ?_))
  intro K o k;have J:=u.setM (i.mono p.out) o k;go_wp2;simp[bodyPost,results,go_sem,results94];rw[z.out];exact⟨_,_,J,C.putF k i (az _) rfl rfl,rfl,rfl⟩
 have z:Hid (gB ⟨H.ma,e⟩ f n=⟨H.ma,jm e (nZ H.m f n)⟩):=ae (by unfold gB;exact if_neg y);go_wp2;simp[bodyPost,results,go_sem,results94];rw[z.out];exact⟨_,_,u,C,rfl,rfl⟩
theorem yw (H:MH) (e f n:Int) (B b:Nat) (w:World) (h:lG w B b H e) :
  Calls Tryz.prog 94 #[.pointer (some ⟨b,0,none⟩),.int .i64 f,.int .i64 n] w λr w'=>r = .returned (.tuple #[])/\KR w B b H w' (gB ⟨H.ma,e⟩ f n):=
 (RY H e f n B b w h).mono λr w' ⟨h1,H',e',h2,h3,h4,_⟩=>⟨h1,H',e',h2,h3,h4⟩
theorem bP {y:Operand} {n:Nat} {k:IntKind} (D:o.op = .indexAddr t x y) (A:ρ x = .slice (some ⟨b,off,none⟩) n c) (z:ρ y = .int k (i:Int)) (E:i<n)
 (C:P.underlying t=some (.slice e)) (u:(P.info? e).map (·.size)=some sz):(execOp ρ o).run P w = .ok (.value (.pointer (some ⟨b,off+i*sz,none⟩))) w:=by
 obtain⟨j,a,d⟩:∃j,P.info? e=some j/\j.size=sz:=by
  cases h:P.info? e with
  | none=>rw[h] at u;cases u
  | some j=>rw[h] at u;exact⟨j,rfl,by simpa using u⟩
 have f:(Go.sizeOf e).run P w = .ok sz w:=by simp[Go.sizeOf,typeInfo,a,go_sem,d]
 simp[execOp,go_sem,D,A,z,C,f,E]
theorem sN {o:Nat} (h:dZ w (some ⟨b,o,none⟩) vs) (d n:Nat):dZ w (some ⟨b,o+d,none⟩) ((vs.drop d).take n):=by
 intro i u j;rw[mI] at j;split at j
 ·rw[qD] at j;obtain⟨A,z,e,y⟩:=h (d+i) u j;cases e;exact⟨_,_,rfl,by rw[nQ];exact y⟩
 ·cases j
theorem vF {o:Nat} (r:List Value) (h:cur[o]?=some v):bI cur o (v::r)=bI cur (o+1) r:=by
 have:cur.setIfInBounds o v=cur:=by
  apply mH;intro i;rw[AA]
  by_cases e:o=i
  ·subst e;rw[if_pos rfl,if_pos (iU.1 h).1,h]
  ·rw[if_neg e]
 show bI (cur.setIfInBounds o v) (o+1) r=_;rw[this]
theorem BC {n:Nat} (h:Own w B e sz (.slice (some ⟨g,off,none⟩) n c) n xs) (C:aG w g cur e):∀j u,xs[j]?=some u->cur[off+j]?=some u:=by
 rcases h.2 with ⟨G,_⟩|⟨H,A,D,y,E,_,z,_,_,_,F⟩
 ·cases G
 cases E;have:cur=y:=by unfold aG at C z;rw[C] at z;simpa using z
 subst this;exact F
theorem lG.setT {H:MH} {e:Int} (h:lG w B b H e) {P:PS} (C:H.sp[p]?=some P) :
  ∃g off cur,H.ap=some ⟨g,off,none⟩/\B<=g/\aG w g cur 76/\off+p*10+2+8<=cur.size/\dZ w (some ⟨g,off+p*10,none⟩) (sV P) /\
   ∀(w' : World) (v:Vector Value 8) (t:Tb),rJ w B (oh v) t->FX t->aG w' g (bI cur (off+p*10+2) (oh v).toList) 76->w.grownBy w' (some g)->lG w' B b { H with sp:=H.sp.set p { P with ts:=v,tb:=t } } e:=by
 have E:=(cz.1 C).1;have o:=(cz.1 C).2;obtain⟨g,off,L,cur,D,J,a,r,k⟩:=oO oq (by decide) rfl h.ma.sp p E;simp only[mJ] at D;obtain⟨l,_,s⟩:=D;have i:=h.ma.sp;rw[l] at i;have d:=BC i a;have f:∀j u,(sV P)[j]?=some u->cur[off+p*10+j]?=some u:=λj u A=>by rw[nQ];exact d _ _ (flat_get sV 10 oq H.sp p E j u (by rw[o];exact A))
 refine⟨g,off,cur,l,J,a,by omega,λj u A=>⟨g,_,rfl,by rw[a.cell];exact f j u A⟩,λw' v t I m F y => ?_⟩;have K:bI cur (off+p*10) (sV { P with ts:=v,tb:=t })=bI cur (off+p*10+2) (oh v).toList:=by show bI cur (off+p*10) (.bool P.lv :: .slice P.aa P.ar.length P.ac::(oh v).toList)=_;rw[vF _ (by simpa using f 0 _ rfl),vF _ (f 1 _ rfl)]
 rw[<-K] at F;have c:(H.sp.set p { P with ts:=v,tb:=t }).length=H.sp.length:=bK;have n:b≠g:=λe=>by have G:=h.blk;subst e;unfold aG at G a;rw[G] at a;simp only[jr,ug] at a;exact absurd a.2.1 (by decide)
 refine⟨?_,h.ge,⟨ax h.ma.fr a (by decide) y,ax h.ma.sl a (by decide) y,h.ma.sw.keep a (by decide) (by decide) y,h.ma.dk.keep a (by decide) (by decide) y,h.ma.st.keep a (by decide) (by decide) y,ax h.ma.ca a (by decide) y,?_,λq z => ?_,h.ma.c64⟩,λq z => ?_⟩
 ·have:qR { H with sp:=H.sp.set p { P with ts:=v,tb:=t } } e=qR H e:=by unfold qR;simp only[c]
  rw[this];exact h.blk.grown y (λe=>n (aM e).symm)
 ·simp only[c];exact k w' _ F
 ·rcases lL z with z|rfl
  ·exact⟨ax (h.ma.ps q z).1 a (by decide) y,(h.ma.ps q z).2.keep a (by decide) y⟩
  ·exact⟨ax (h.ma.ps P (bV C)).1 a (by decide) y,I.keep a (by decide) y⟩
 rcases lL z with z|rfl
 ·exact h.tz q z
 ·exact m
theorem sD {H:MH} {P:PS} (h:H.sp[p]?=some P):dD H.ma p=P.sp:=by
 unfold dD MH.ma;simp only;rw[aX,jv,h];rfl
theorem Om {H:MH} {P:PS} (h:H.sp[p]?=some P) (v:Vector Value 8) (t:Tb):MH.ma { H with sp:=H.sp.set p { P with ts:=v,tb:=t } }=setTb H.ma p t:=by
 unfold setTb;rw[sD h];unfold MH.ma;simp only[Be];rfl
theorem TT {v:Vector Value 8} {t:Tb} (h:FL w (oh v) t):∀u∈(oh v).toList,u.oneCell' = true:=by
 have:=h.one;rw[<-mE,eZ] at this;exact this
theorem UG {t:Tb} {e:En}:FX (setT t n e):=by
 by_cases h:setE t n e=0
 ·exact Kr (qd h)
 ·rw[wZ h];exact Kr zTb_right
def OP (B:Nat) (t:Tb) (n:Int) (x:En):mQ:=⟨λv w => ∃cs,v = .tuple #[.agg cs,.int .i64 (setE t n x)]/\rJ w B cs (setT t n x),λ_ _ _ hb ⟨cs,h1,h2⟩=>⟨cs,h1,h2.below hb⟩⟩
def JL (B:Nat) (t:Tb):mQ:=⟨λv w => ∃cs,v = .agg cs/\rJ w B cs t,λ_ _ _ hb ⟨cs,h1,h2⟩=>⟨cs,h1,h2.below hb⟩⟩
theorem jh (H:MH) (e n:Int) (p:Nat) (x:En) (B b:Nat) (w:World) (h:lG w B b H e) (hp:p<H.sp.length) :
  Calls Tryz.prog 92 #[.pointer (some ⟨b,0,none⟩),.int .i64 p,.int .i64 n,.agg (jC x)] w λr w'=>r = .returned (.tuple #[])/\KR w B b H w' (eP ⟨H.ma,e⟩ p n x):=by
 obtain⟨P,N⟩:∃P,H.sp[p]?=some P:=⟨_,aH hp⟩;have hE:=ae (sD N);have hT:=ae h.bs;have hL:=bV N;go_enter func92,ntmps92;go_upto_region 1 with (fail);refine iC (λW=>Code.wp _ _ _ _ W) λw1 R hD hN => ?_;have G:=h.below R;have s1:=(KS.refl w b H).below R;clear h hN;obtain⟨g,off,cur,o,hM,u,t,hj,s⟩:=G.setT N;refine jZ 18 [_,_,_,_,_,_,_,_,_,_,_,.r 11 ((OP w1.heap.size P.tb n x)),.r 12 ((OP w1.heap.size P.tb n x)),.r 13 ((JL w1.heap.size (setT P.tb n x))),.v (.int .i64 (setE P.tb n x)),.r 15 ((iM w1.heap.size 74 8)),.y 16 ((KJ 15 w1.heap.size 74 (JL w1.heap.size (setT P.tb n x)))),.v (.int .i64 (setE P.tb n x))] (λW=>Below w1.heap.size w1 W) dR (Below.refl _ _) (Yk dR rfl (Yk dR rfl (Yf dR b 0 rfl rfl (Yf dR b 10 rfl rfl (Yc dR (.slice (some ⟨g,off,none⟩) H.sp.length H.cp) (λW A=>by simp[(G.below A).blk.cell,qR,o]) rfl rfl rfl rfl (Yk dR rfl (Yr dR (.pointer (some ⟨g,off+p*10,none⟩)) (λρ y W A a=>(bP rfl (aI rfl a) (aI rfl a) hp underlying43 space_size)) rfl rfl (Yf dR g (off+p*10+2) rfl rfl (Yr dR (.agg (oh P.ts)) (λρ y W A a=>(bF rfl (aI rfl a) (sN (hj.below A) 2 8) underlying74 tab_agg tab_size)) rfl rfl (Yk dR rfl (Yr dR (.agg (jC x)) (λρ y W A a=>(dW rfl (aI rfl a) (hD.ext A) underlying68 rfl entry_size)) rfl rfl (ah ?_ (ah ?_ (ah ?_ (ah ?_ (ah ?_ (ah ?_ (Yk dR rfl (aF))))))))))))))))))) (λ_=>rfl) rfl ?_
 ·intro ρ y W C F A D;refine iT dR A ((OP w1.heap.size P.tb n x)) (λ_ _ h=>h) ?_;have h5:=C 19 8 rfl;have h8:y 8 = .agg (oh P.ts):=D 8 rfl;have h4:=C 20 9 rfl;have h9:y 9 = .int .i64 n:=D 9 rfl;have h3:=C 21 10 rfl;have hX:y 10 = .agg (jC x):=D 10 rfl;have EF:∀f,ρ (.func f) = .func (.func f) #[] #[]:=λf=>F (.func f) trivial;refine aO _ _ (aj rfl) (aT rfl (EF _) func137 (by kernel_rfl) (by kernel_rfl) (by simp only[bX,bR,aY,h5,h8,h4,h9,h3,hX,EF];rfl)) ?_;refine (RH P.tb (oh P.ts) n x W (((G.below A).ma.ps P hL).2.rd) (G.tz P hL)).mono ?_;rintro r I ⟨cs,rfl,O,hS⟩;exact⟨_,rfl,hS,cs,rfl,O.mono A.size⟩
 ·intro ρ y W C F A D;refine iT dR A ((OP w1.heap.size P.tb n x)) (λ_ _ h=>h) ?_;have hZ:=C 22 11 rfl;have hW:=D 11 rfl;refine ak _ (aj rfl) (run_move (.inl rfl) hZ) ?_;exact hW
 ·intro ρ y W C F A D;refine iT dR A ((JL w1.heap.size (setT P.tb n x))) (λ_ _ h=>h) ?_;have V:=C 10 12 rfl;have X:=D 12 rfl;obtain⟨cs,Y,O⟩:=X;refine ak (.agg cs) (aj rfl) (by simp[execOp,go_sem,bT,V,Y]) ?_;exact⟨cs,rfl,O⟩
 ·intro ρ y W C F A D;refine iT dR A (mV (.int .i64 (setE P.tb n x))) (λ_ _ h=>h) ?_;have V:=C 10 12 rfl;have X:=D 12 rfl;obtain⟨cs,Y,O⟩:=X;refine ak (.int .i64 (setE P.tb n x)) (aj rfl) (by simp[execOp,go_sem,bT,V,Y]) rfl
 ·intro ρ y W C F A D;refine iT dR A ((iM w1.heap.size 74 8)) (λ_ _ h=>h) ?_;refine jc (.pointer (some ⟨W.heap.size,0,none⟩)) (aj rfl) (by simp[execOp,go_sem,bT]) ((Below.refl _ _).alloc (az _) (.cells #[.slice none 0 0,.slice none 0 0,.slice none 0 0,.slice none 0 0,.slice none 0 0,.slice none 0 0,.slice none 0 0,.slice none 0 0] 74)) ?_;exact⟨_,_,rfl,A.size,aG.new _ _ _,rfl⟩
 ·intro ρ y W C F A D;have E8:=C 8 15 rfl;have hU:=D 15 rfl;have hY:=C 23 13 rfl;have hV:=D 13 rfl;obtain⟨cc,e7,hl⟩:=hV;obtain⟨g3,E,e9,hJ,m,hF⟩:=hU;have j:=hl.sz;refine mi (aj rfl) _ _ _ rfl g3 0 (.agg cc) cc.toList (E8.trans e9) (hY.trans e7) rfl E _ m (by rw[jg,hF,j];exact az _) (by rw[jg,j];exact tab_size) (bU hl.rd.one) ?_;intro w1 hh l;rw[gV E cc (by rw[hF,j])] at hh;refine⟨A.grown l A.size (λk hk=>by cases hk;exact hJ),⟨g3,cc,e9,hJ,hh,⟨cc,rfl,hl.keep m (by decide) l⟩⟩,?_⟩;intro k hk hO
  match k,hk,hO with
  | 0,_,_=>exact λh=>h
  | 1,_,_=>exact λh=>h
  | 2,_,_=>exact λh=>h
  | 3,_,_=>exact λh=>h
  | 4,_,_=>exact λh=>h
  | 5,_,_=>exact λh=>h
  | 6,_,_=>exact λh=>h
  | 7,_,_=>exact λh=>h
  | 8,_,_=>exact λh=>h
  | 9,_,_=>exact λh=>h
  | 10,_,_=>exact λh=>h
  | 11,_,_=>exact λ⟨c,K,J⟩=>⟨c,K,J.keep m (by decide) l⟩
  | 12,_,_=>exact λ⟨c,K,J⟩=>⟨c,K,J.keep m (by decide) l⟩
  | 13,_,_=>exact λ⟨c,K,J⟩=>⟨c,K,J.keep m (by decide) l⟩
  | 14,_,_=>exact λh=>h
  | 15,_,_=>exact λq=>lc q hh (λ_=>j) ⟨_,m⟩ l
  | 16,_,h=>exact absurd rfl h
  | 17,_,_=>exact λh=>h
  | n+18,h,_=>exact absurd h (by omega)
 intro y I i d;replace i:Below w1.heap.size w1 I:=i;have hB:((OP w1.heap.size P.tb n x)).r (y 11) I:=d 11 (by decide);have hA:((OP w1.heap.size P.tb n x)).r (y 12) I:=d 12 (by decide);have hz:((JL w1.heap.size (setT P.tb n x))).r (y 13) I:=d 13 (by decide);have hv:((iM w1.heap.size 74 8)).r (y 15) I:=d 15 (by decide);have hu:=d 16 (by decide);clear d;simp only[dh,bT,bR,aY];obtain⟨gx,cs2,h7,hH,hK,ca2,hf,hm⟩:=hu;simp only[xU] at hf;subst hf;obtain⟨U,rfl⟩:=Ri hm.sz;have h2:=G.below i;have s2:=s1.below i;have hI:=ae R.size;clear hB hA hz hv s hj u t o G s1 hD hM R cur
 go_wp2_with fail
 refine (rZ _ e (setE P.tb n x) _ _ _ h2).mono ?_;rintro r w3 ⟨rfl,M,z⟩;have s3:=s2.putB z rfl rfl rfl;have hG:=hm.keep h2.blk (by decide) z;have hC:=bZ hK h2.blk (by decide) z;have hM:=ae hH;clear h2 s2 hm hK z i hH;have hi:Hid (setE (dD H.ma p).tb n x=setE P.tb n x):=ae (by rw[hE.out];rfl)
 by_cases S:setE P.tb n x=0
 ·rw[S,nU] at M;have Z:Hid (eP ⟨H.ma,e⟩ p n x=⟨setTb H.ma p (setT P.tb n x),e⟩):=ae (by unfold eP;simp only;rw[if_pos (hi.out.trans S),hE.out];rfl);obtain⟨g,off,cur,o,h6,u,t,hj,s⟩:=M.setT N;have hx:=hC.cell;have L:=M.blk.cell;unfold qR at L;rw[o] at L;rw[S];go_upto_region 4 with (fail);refine aN 9 [_,_,_,_,_,_,_,_,_] (Gk rfl (Gk rfl (Gf b 0 rfl rfl (Gf b 10 rfl rfl (Gc (.slice (some ⟨g,off,none⟩) H.sp.length H.cp) (λW A=>by simp[(M.below A).blk.cell,qR,o]) rfl rfl rfl rfl (Gk rfl (Gr (.agg (oh U)) (λρ y W A a=>(bF rfl (aI rfl a) ((hC.ext A).rd) underlying74 tab_agg tab_size)) rfl rfl (Gr (.pointer (some ⟨g,off+p*10,none⟩)) (λρ y W A a=>(bP rfl (aI rfl a) (aI rfl a) hp underlying43 space_size)) rfl rfl (Gf g (off+p*10+2) rfl rfl (aF)))))))))) (λ_=>rfl) rfl ?_;intro y W4 hg _
  go_wp2_with (refine gH rfl _ _ _ rfl g (off+p*10+2) (oh U) rfl rfl _ _ (u.ext hg) t tab_size (by rw[<-mE,eZ];exact TT hG.rd) ?_)
  intro w5 hR hQ;have hc:=Np hg hQ;have k5:=s w5 U (setT P.tb n x) (hG.mono (bi hT.out hI.out)) UG hR hc;go_wp2;simp[bodyPost,results,go_sem,results92];rw[Z.out];refine⟨_,_,k5,s3.put hc (.inr (.inr (.inr (by rw[o];rfl)))) λy hy => .inl (Dw rfl rfl rfl hy),?_⟩;rw[Om N]
 have Z:Hid (eP ⟨H.ma,e⟩ p n x=⟨H.ma,jm e (setE P.tb n x)⟩):=ae (by unfold eP;simp only;rw[if_neg (by rw[hi.out];exact S),hi.out]);go_wp2;simp[bodyPost,results,go_sem,results92];rw[Z.out];exact⟨_,_,M,s3,rfl⟩
theorem slots_size:(Tryz.prog.info? 34).map (·.size)=some 1:=by kernel_rfl
def Cz (B:Nat) (T:TypeId) (sz n:Nat) (xs:List Value) (er:Int):mQ:=⟨λv w => ∃u,v = .tuple #[u,.int .i64 er]/\Own w B T sz u n xs,λ_ _ _ hb ⟨u,h1,h2⟩=>⟨u,h1,h2.below hb⟩⟩
theorem lG.at {w:World} {B b:Nat} {H:MH} {e:Int} (h:lG w B b H e) {p:Nat} {P:PS} (j:H.sp[p]?=some P):∃g off,H.ap=some ⟨g,off,none⟩/\dZ w (some ⟨g,off+p*10,none⟩) (sV P)/\dZ w (some ⟨g,off+p*10+2,none⟩) (oh P.ts).toList/\P.good w:=by
 have y:=(cz.1 j).1;obtain⟨g,off,A,z,a,u⟩:=uf h.ma.rd.sp.rd p y;rw[j] at a;cases a;exact⟨g,off,z,u,sN u 2 8,h.ma.rd.ps P (bV j)⟩
theorem KR.trans {u j:MH} {k:Kp} (h:KS w0 b u w1 j) (y:KR w1 B b j w2 k):KR w0 B b u w2 k:=by
 obtain⟨D,C,A,h2,z⟩:=y;exact⟨D,C,A,h.trans h2,z⟩
theorem BK (H:MH) (e n:Int) (p:Nat) (B b:Nat) (w:World) (h:lG w B b H e) (R:p<H.sp.length) :
  Calls Tryz.prog 95 #[.pointer (some ⟨b,0,none⟩),.int .i64 p,.int .i64 n] w λr w'=>r = .returned (.tuple #[])/\KR w B b H w' (jR ⟨H.ma,e⟩ p n):=by
 obtain⟨P,hP⟩:∃P,H.sp[p]?=some P:=⟨_,aH R⟩;have hs:=ae (sD hP);obtain⟨g,off,hE,ht,hh,d⟩:=h.at hP;have hc:=h.blk.cell;unfold qR at hc;rw[hE] at hc;have hL:(p:Int)<(H.sp.length:Int):=by omega
 go_enter func95,ntmps95
 go_wp2_with (refine ay _ _ rfl g (off+p*10+2) rfl rfl _ hh _ underlying74 tab_agg tab_size ?_)
 refine (xy P.tb (oh P.ts) n _ d.tb).mono ?_;rintro r w1 ⟨rfl,hf⟩;have h1:=h.below hf;have s1:=(KS.refl w b H).below hf;clear hc ht hh d;generalize hx:dJ P.tb n=x
 go_wp2_with (refine aL rfl _ _ _ rfl (jC x) rfl rfl rfl entry_size (by simp[jC,Value.oneCell']) ?_)
 intro w2 ha o;have h2:=h1.below ha;have L:=s1.below ha;clear h1 s1 hf ha h;have i:=o.cell;unfold jC at i;have t:Hid (dJ (dD H.ma p).tb n=x):=ae (by rw[hs.out];exact hx);clear hx
 by_cases A:x.k=1
 ·have I:Hid (jR ⟨H.ma,e⟩ p n=eP (gB ⟨H.ma,e⟩ x.n (-1)) p n zEn):=ae (by unfold jR;simp only[t.out];rw[if_pos A]);have hJ:=ae A;rw[A] at i;clear A
  go_wp2_with fail
  refine (yw H e x.n (-1) B b _ h2).mono ?_;rintro r w3 ⟨rfl,H3,e3,h3,K,X⟩;have hz:H3.sp.length=H.sp.length:=by
   have e1:H3.ma.sp=H.ma.sp:=by have:=congrArg (λk=>k.m.sp) X;simp only at this;rw[this];unfold gB;split<;>rfl
   have:=congrArg List.length e1;unfold MH.ma at this;simpa using this
  have V:=L.trans K;have hv:=ae X;clear X K i
  go_wp2_with fail
  refine (jh H3 e3 n p zEn B b _ h3 (by rw[hz];exact R)).mono ?_;rintro r w4 ⟨rfl,hA⟩;go_wp2;simp[bodyPost,results,go_sem,results95];rw[I.out,<-hv.out];exact KR.trans V hA
 by_cases F:x.k=2
 ·have I:Hid (jR ⟨H.ma,e⟩ p n=eP (nS ⟨H.ma,e⟩ x.n (-1)) p n zEn):=ae (by unfold jR;simp only[t.out];rw[if_neg A,if_pos F]);rw[F] at i;clear A F;have hj:=h2.blk.cell;unfold qR at hj;go_upto_region 5 with (fail);refine jZ 13 [_,_,_,_,_,_,_,.r 7 ((Cz w2.heap.size 3 1 (cB H.sl x.n (-1)).length ((cB H.sl x.n (-1)).map fZ) (dB H.sl x.n (-1)))),.r 8 ((Cz w2.heap.size 3 1 (cB H.sl x.n (-1)).length ((cB H.sl x.n (-1)).map fZ) (dB H.sl x.n (-1)))),.r 9 ((nz w2.heap.size 3 1 (cB H.sl x.n (-1)).length ((cB H.sl x.n (-1)).map fZ))),.v (.int .i64 (dB H.sl x.n (-1))),.r 11 ((nz w2.heap.size 3 1 (cB H.sl x.n (-1)).length ((cB H.sl x.n (-1)).map fZ))),.v (.int .i64 (dB H.sl x.n (-1)))] (λW=>Below w2.heap.size w2 W) dR (Below.refl _ _) (Yk dR rfl (Yk dR rfl (Yf dR b 0 rfl rfl (Yf dR b 2 rfl rfl (Yc dR (.slice H.asl H.sl.length H.csl) (λW C=>by simp[(h2.below C).blk.cell,qR]) rfl rfl rfl rfl (Yf dR w1.heap.size 1 rfl rfl (Yc dR (.int .i64 x.n) (λW C=>by simp[(o.ext C).cell,jC]) rfl rfl rfl rfl (ah ?_ (ah ?_ (ah ?_ (ah ?_ (ah ?_ (Yk dR rfl (aF)))))))))))))) (λ_=>rfl) rfl ?_
  ·intro ρ y W D J C E;refine iT dR C ((Cz w2.heap.size 3 1 (cB H.sl x.n (-1)).length ((cB H.sl x.n (-1)).map fZ) (dB H.sl x.n (-1)))) (λ_ _ h=>h) ?_;have hI:=D 35 4 rfl;have h4:y 4 = .slice H.asl H.sl.length H.csl:=E 4 rfl;have hH:=D 37 6 rfl;have h6:y 6 = .int .i64 x.n:=E 6 rfl;have EC:∀v,ρ (.const v)=v:=λv=>J (.const v) trivial;have EF:∀f,ρ (.func f) = .func (.func f) #[] #[]:=λf=>J (.func f) trivial;refine aO _ _ (aj rfl) (aT rfl (EF _) func91 (by kernel_rfl) (by kernel_rfl) (by simp only[bX,bR,aY,hI,h4,hH,h6,EC,EF];rfl)) ?_;have N:=(h2.below C).ma.rd.sl;refine (Fe H.sl H.asl H.csl x.n (-1) W N.le N.nl N.rd (by have:=N.le;have:=N.mx;unfold maxLen at this;omega)).mono ?_;rintro r G ⟨u,rfl,S,hD⟩;exact⟨_,rfl,hD,u,rfl,S.mono C.size⟩
  ·intro ρ y W D J C E;refine iT dR C ((Cz w2.heap.size 3 1 (cB H.sl x.n (-1)).length ((cB H.sl x.n (-1)).map fZ) (dB H.sl x.n (-1)))) (λ_ _ h=>h) ?_;have hG:=D 38 7 rfl;have h7:=E 7 rfl;refine ak _ (aj rfl) (run_move (.inl rfl) hG) ?_;exact h7
  ·intro ρ y W D J C E;refine iT dR C ((nz w2.heap.size 3 1 (cB H.sl x.n (-1)).length ((cB H.sl x.n (-1)).map fZ))) (λ_ _ h=>h) ?_;have Z:=D 30 8 rfl;have h8:=E 8 rfl;obtain⟨u,M,S⟩:=h8;refine ak u (aj rfl) (by simp[execOp,go_sem,bT,Z,M]) ?_;exact S
  ·intro ρ y W D J C E;refine iT dR C (mV (.int .i64 (dB H.sl x.n (-1)))) (λ_ _ h=>h) ?_;have Z:=D 30 8 rfl;have h8:=E 8 rfl;obtain⟨u,M,S⟩:=h8;refine ak (.int .i64 (dB H.sl x.n (-1))) (aj rfl) (by simp[execOp,go_sem,bT,Z,M]) rfl
  ·intro ρ y W D J C E;refine iT dR C ((nz w2.heap.size 3 1 (cB H.sl x.n (-1)).length ((cB H.sl x.n (-1)).map fZ))) (λ_ _ h=>h) ?_;have hF:=D 39 9 rfl;have h9:=E 9 rfl;refine ak _ (aj rfl) (run_move (.inr rfl) hF) ?_;exact h9
  intro y G a c;replace a:Below w2.heap.size w2 G:=a;have hr:((Cz w2.heap.size 3 1 (cB H.sl x.n (-1)).length ((cB H.sl x.n (-1)).map fZ) (dB H.sl x.n (-1)))).r (y 7) G:=c 7 (by decide);have hl:((Cz w2.heap.size 3 1 (cB H.sl x.n (-1)).length ((cB H.sl x.n (-1)).map fZ) (dB H.sl x.n (-1)))).r (y 8) G:=c 8 (by decide);have hk:((nz w2.heap.size 3 1 (cB H.sl x.n (-1)).length ((cB H.sl x.n (-1)).map fZ))).r (y 9) G:=c 9 (by decide);have l:((nz w2.heap.size 3 1 (cB H.sl x.n (-1)).length ((cB H.sl x.n (-1)).map fZ))).r (y 11) G:=c 11 (by decide);clear c;simp only[dh,bT,bR,aY];have j:Own G w2.heap.size 3 1 (y 11) (cB H.sl x.n (-1)).length ((cB H.sl x.n (-1)).map fZ):=l;obtain⟨a3,c3,e7,_⟩:=Own.rd j;rw[e7] at j;simp only[e7];have Y:=h2.below a;have K:=L.below a;have hB:=ae (bi h2.bs (az _));have hK:=ae L.size;clear hr hl hk l e7 i hj h2 L o a
  go_wp2_with fail
  refine (rZ _ e (dB H.sl x.n (-1)) _ _ _ Y).mono ?_;rintro r w4 ⟨rfl,O,z⟩;have s4:=K.putB z rfl rfl rfl;have hy:=ax j Y.blk (by decide) z;clear Y K j z
  by_cases U:dB H.sl x.n (-1)=0
  ·rw[U,nU] at O;have q:Hid (nS ⟨H.ma,e⟩ x.n (-1)=⟨{ H.ma with sl:=cB H.sl x.n (-1) },e⟩):=ae (by unfold nS;exact if_pos U);rw[U]
   go_wp2_with (refine aB rfl _ _ _ rfl b 2 _ [.slice a3 (cB H.sl x.n (-1)).length c3] rfl rfl rfl _ _ O.blk (by show 2+1<=12;decide) slots_size (λu M=>by cases bC.1 M;rfl) ?_)
   intro w5 hC hi;have k5:=O.setL (hy.mono hB.out) hC hi;have s5:KS w b H w5 { H with asl:=a3,csl:=c3,sl:=cB H.sl x.n (-1) }:=s4.putB hi rfl rfl rfl
   go_wp2_with fail
   refine (jh _ e n p zEn B b _ k5 R).mono ?_;rintro r w6 ⟨rfl,s⟩;go_wp2;simp[bodyPost,results,go_sem,results95];rw[I.out,q.out];exact KR.trans s5 s
  have q:Hid (nS ⟨H.ma,e⟩ x.n (-1)=⟨H.ma,jm e (dB H.sl x.n (-1))⟩):=ae (by unfold nS;exact if_neg U)
  go_wp2_with fail
  refine (jh _ (jm e (dB H.sl x.n (-1))) n p zEn B b _ O R).mono ?_;rintro r w6 ⟨rfl,s⟩;go_wp2;simp[bodyPost,results,go_sem,results95];rw[I.out,q.out];exact KR.trans s4 s
 have I:Hid (jR ⟨H.ma,e⟩ p n=⟨H.ma,e⟩):=ae (by unfold jR;simp only[t.out];rw[if_neg A,if_neg F]);go_wp2;simp[bodyPost,results,go_sem,results95];rw[I.out];exact⟨_,_,h2,L,rfl⟩
theorem lX {a:Nat} (h:aG w a cs T) (h' : aG w b cs' T') (j:T≠T'):a≠b:=by
 rintro rfl;unfold aG at h h';rw[h] at h';simp only[jr,ug] at h';exact j h'.2.1
def DX (B:Nat) (m:Mem):mQ:=⟨λv w => ∃u,v = .agg #[u,.int .i64 m.hand]/\Own w B 66 13 u m.fs.length (m.fs.flatMap pG),λ_ _ _ hb ⟨u,h1,h2⟩=>⟨u,h1,h2.below hb⟩⟩
theorem jy (l:List Cc):(l.flatMap iK).length=l.length*3:=Pw.flat_len iK 3 iX l
theorem Dl (c:Cc):∀u∈iK c,u.oneCell' = true:=bU (wI c)
theorem yz (l:List Cc):∀u∈l.flatMap iK,u.oneCell' = true:=by
 intro u h;obtain⟨c,_,j⟩:=kT.1 h;exact Dl c u j
def Nc (B:Nat) (S:St):mQ:=⟨λv w => ∃u ps k,v = .agg #[u,.int .i64 k]/\qC w B u ps/\cK ps k=S,λ_ _ _ hb ⟨u,ps,k,h1,h2,h3⟩=>⟨u,ps,k,h1,h2.below hb,h3⟩⟩
theorem BN (l:List Cc) (x:Cc) (k:Nat):(l.take k++x::l.drop k).flatMap iK=(l.take k).flatMap iK++(iK x++(l.drop k).flatMap iK):=by simp[fE]
theorem Ey {l:List Cc} {x:Cc} {o:Nat} (y:k<=l.length) (A:∀j u,((l.take k).flatMap iK)[j]?=some u->cur[o+j]?=some u) (h2:∀j u,(iK x)[j]?=some u->cur[o+k*3+j]?=some u)
 (z:∀j u,((l.drop k).flatMap iK)[j]?=some u->cur[o+(k+1)*3+j]?=some u):∀j u,((l.take k++x::l.drop k).flatMap iK)[j]?=some u->cur[o+j]?=some u:=by
 intro j u h;have a:((l.take k).flatMap iK).length=k*3:=by rw[jy,iB,tT y]
 rw[BN] at h
 by_cases D:j<k*3
 ·rw[kF (by omega)] at h;exact A j u h
 rw[jU (by omega),a] at h
 by_cases C:j-k*3<3
 ·rw[kF (by rw[iX];exact C)] at h;have:=h2 _ u h;rwa [show o+k*3+(j-k*3)=o+j by omega] at this
 rw[jU (by rw[iX];omega),iX] at h;have:=z _ u h;rwa [show o+(k+1)*3+(j-k*3-3)=o+j by omega] at this
theorem xI {l:List Cc} {o:Nat} (h:∀j u,(l.flatMap iK)[j]?=some u->cur[o+j]?=some u):∀j u,((l.take k).flatMap iK)[j]?=some u->cur[o+j]?=some u:=by
 intro j u y;refine h j u ?_
 conv=>lhs;rw[<-qX k l,fE]
 rw[kF (by have:=(cz.1 y).1;exact this)];exact y
theorem Ch {l:List Cc} (y:k<=l.length) {o:Nat} (h:∀j u,(l.flatMap iK)[j]?=some u->cur[o+j]?=some u):∀j u,((l.drop k).flatMap iK)[j]?=some u->cur[o+k*3+j]?=some u:=by
 intro j u z;rw[nQ];refine h _ u ?_
 conv=>lhs;rw[<-qX k l,fE]
 have a:((l.take k).flatMap iK).length=k*3:=by rw[jy,iB,tT y]
 rw[jU (by omega),a,AU];exact z
theorem Lm {a:Act} {K:Act->World->Prop} {E:Prop}
 (A:o.guard=none) (d s:Operand) (t t' : TypeId) (h:o.op=Op.call { callee:=.builtin .append,args:=#[d,s],argTypes:=#[t,t'] }) (j vs v:Value)
 (C:a.eval d=j) (u:a.eval s=vs) (z:(Builtin.append_ #[t,t'] o.type #[j,vs]).run P w = .ok v w') (D:K (a.put o.dst v) w') :
  if Region.wanted o (yielded ops a.tmps)=true then Oper.wp P o a w K Q else E:=by
 have y:Region.wanted o (yielded ops a.tmps)=true:=by simp[Region.wanted,A]
 rw[if_pos y];unfold Oper.wp;simp[execOp,h,resolve,invoke,builtin,C,u,z,Result.andThen];exact D
theorem EN (l:List Cc) (k:Nat):(l.eraseIdx k).flatMap iK=(l.take k).flatMap iK++(l.drop (k+1)).flatMap iK:=by rw[List.eraseIdx_eq_take_drop_succ,fE]
theorem JJ (l:List Cc) (k:Nat) (J:k<l.length) (a:Option Addr) (c B:Nat) (w:World) (G:Own w B 122 3 (.slice a l.length c) l.length (l.flatMap iK)) (hl:l.length<=1000) :
  Calls Tryz.prog 200 #[.slice a l.length c,.int .i64 k,.int .i64 ((k:Int)+1)] w λe w'=>e = .returned (.slice a (l.length-1) c)/\Own w' B 122 3 (.slice a (l.length-1) c) (l.length-1) ((l.eraseIdx k).flatMap iK)/\w.grownBy w' (oB a):=by
 rcases G with ⟨O,⟨_,hz⟩|⟨b,off,c',cur,U,I,H,W,E,F,C⟩⟩
 ·omega
 cases U;have t:=E;unfold maxLen at t;have v:((l.drop (k+1)).flatMap iK).length=(l.length-(k+1))*3:=by rw[jy,zH]
 have x:=Ch (k:=k+1) (by omega) C;have q:∀K cc D,(∀j u,((l.drop (k+1)).flatMap iK)[j]?=some u->w.cell? (Addr.add K j)=some u)->(Builtin.append_ #[42,42] D #[.slice (some ⟨b,off,none⟩) k c,.slice (some K) (l.length-(k+1)) cc]).run Tryz.prog w.drew = .ok (.slice (some ⟨b,off,none⟩) (k+(l.length-(k+1))) c) (w.drew.setCells b (off+k*3) ((l.drop (k+1)).flatMap iK)):=by intro K cc D X;obtain⟨S,Y,hh,i,hg⟩:=info_parts cached_info;have:=run_append_room_cells (P:=Tryz.prog) w.drew 42 D 122 S underlying42 Y b off k c K (l.length-(k+1)) cc ((l.drop (k+1)).flatMap iK) (by rw[i,v]) X (λu V=>yz _ u V) (by omega) (λj A=>by rw[i,H.drew.cell];simp[show off+k*3+j<cur.size by omega]) (λj A=>H.drew.free _);rw[i] at this;exact this
 have r:k+1=l.length->((l.drop (k+1)).flatMap iK)=[]:=λh=>by rw[qO (by omega)];rfl
 obtain⟨N,M⟩:∃N,N=(l.drop (k+1)).flatMap iK:=⟨_,rfl⟩;rw[<-M] at v x q r;have R:=ae M;clear M;have hi:IntKind.i64.wrap ((k:Int)+1)=(k:Int)+1:=bG _ (by omega);have hs:(k:Int)+1<=(l.length:Int):=by omega
 have hr:(k:Int)<=(k:Int)+1:=by omega
 have hf:¬((k:Int)=(k:Int)+1):=by omega
 have ht:(0:Int)<=(k:Int)+1:=by omega
 have hm:((k:Int)+1).toNat=k+1:=by omega
 have hp:(l.length:Int)<=(c:Int):=by omega
 have hq:(k:Int)<=(c:Int):=by omega
 go_enter func200,ntmps200
 go_wp2_with fail
 by_cases L:c=k+1
 ·subst L;have z:=ae (r (by omega));clear r
  go_region_law (refine Lm rfl _ _ 42 42 rfl (.slice (some ⟨b,off,none⟩) k (k+1)) (.slice (some ⟨b,off,none⟩) (l.length-(k+1)) 0) _ (by simp[Act.eval,Act.put]) (by simp[Act.eval,Act.put];omega) (q _ _ _ (λj u A=>by rw[z.out] at A;simp at A)) ?_)
  have g:=(H.drew).setCells N (off+k*3);have f:w.grownBy (w.drew.setCells b (off+k*3) N) (some b):=nV (a:=w) (b:=w.drew) (row:=some b) ⟨rfl,rfl,rfl,az _,λ_ _ _=>rfl⟩ (aC w.drew _ _ _);have o:k+(l.length-(k+1))=k:=by omega
  try rw[o]
  have s : Hid (k=l.length-1):=ae (by omega);have e4:(l.length:Int)<=(k:Int)+1:=by omega
  generalize w.drew.setCells b (off+k*3) N=W1 at *
  have y:=λD=>uQ (P:=Tryz.prog) W1 42 122 D _ 3 24 underlying42 cached_info (by decide) (by decide) b (off+k*3) 1 (1) (by omega) _ _ g (by rw[size_putAt];show off+k*3+1*3<=cur.size;omega);have e1:l.length-k=1:=by omega
  have e2:((k:Nat):Int)<=(l.length:Int):=by omega
  have e3:¬((k+1)=k):=by omega
  go_wp2;go_ret;have p:=g.setCells (Builtin.zeroCells (Value.agg #[.int .i64 0,.int .i64 0,.int .i64 0]).cells 1).toList (off+k*3);have d:=nV f (aC W1 b (off+k*3) (Builtin.zeroCells (Value.agg #[.int .i64 0,.int .i64 0,.int .i64 0]).cells 1).toList);refine⟨congrArg (λn=>Ending.returned (Value.slice (some ⟨b,off,none⟩) n (k+1))) (show k=l.length-1 by omega),⟨by rw[jy,Az J],.inr ⟨b,off,(k+1),_,rfl,I,p,by omega,E,by rw[size_putAt,size_putAt];exact F,?_⟩⟩,d⟩;intro j u A;have Z:j<(l.length-1)*3:=by have:=(cz.1 A).1;rw[jy,Az J] at this;exact this
  rw[putAt_out _ _ _ _ (.inl (by omega))];rw[EN,<-R.out] at A;have m:((l.take k).flatMap iK).length=k*3:=by rw[jy,iB,tT (by omega)]
  by_cases c1:j<k*3
  ·rw[kF (by omega)] at A;rw[putAt_out _ _ _ _ (.inl (by omega))];exact xI C j u A
  rw[jU (by omega),m] at A;have:=putAt_in _ cur (off+k*3) (j-k*3) u (by omega) A;rwa [show off+k*3+(j-k*3)=off+j by omega] at this
 go_region_law (refine Lm rfl _ _ 42 42 rfl (.slice (some ⟨b,off,none⟩) k c) (.slice (some ⟨b,off+(k+1)*3,none⟩) (l.length-(k+1)) (c-(k+1))) _ (by simp[Act.eval,Act.put]) (by simp[Act.eval,Act.put]) (q _ _ _ (λj u A=>by rw[qa,H.cell];exact x j u A)) ?_)
 have g:=(H.drew).setCells N (off+k*3);have f:w.grownBy (w.drew.setCells b (off+k*3) N) (some b):=nV (a:=w) (b:=w.drew) (row:=some b) ⟨rfl,rfl,rfl,az _,λ_ _ _=>rfl⟩ (aC w.drew _ _ _);have o:k+(l.length-(k+1))=(l.length-1):=by omega
 try rw[o]
 have s : Hid ((l.length-1)=l.length-1):=ae (by omega);have e4:(l.length:Int)<=(c:Int):=by omega
 generalize w.drew.setCells b (off+k*3) N=W1 at *
 have y:=λD=>uQ (P:=Tryz.prog) W1 42 122 D _ 3 24 underlying42 cached_info (by decide) (by decide) b (off+(l.length-1)*3) 1 (c-(l.length-1)) (by omega) _ _ g (by rw[size_putAt];show off+(l.length-1)*3+1*3<=cur.size;omega);have e1:l.length-(l.length-1)=1:=by omega
 have e2:(((l.length-1):Nat):Int)<=(l.length:Int):=by omega
 have e3:¬(c=(l.length-1)):=by omega
 go_wp2;go_ret;have p:=g.setCells (Builtin.zeroCells (Value.agg #[.int .i64 0,.int .i64 0,.int .i64 0]).cells 1).toList (off+(l.length-1)*3);have d:=nV f (aC W1 b (off+(l.length-1)*3) (Builtin.zeroCells (Value.agg #[.int .i64 0,.int .i64 0,.int .i64 0]).cells 1).toList);refine⟨congrArg (λn=>Ending.returned (Value.slice (some ⟨b,off,none⟩) n c)) (show (l.length-1)=l.length-1 by omega),⟨by rw[jy,Az J],.inr ⟨b,off,c,_,rfl,I,p,by omega,E,by rw[size_putAt,size_putAt];exact F,?_⟩⟩,d⟩;intro j u A;have Z:j<(l.length-1)*3:=by have:=(cz.1 A).1;rw[jy,Az J] at this;exact this
 rw[putAt_out _ _ _ _ (.inl (by omega))];rw[EN,<-R.out] at A;have m:((l.take k).flatMap iK).length=k*3:=by rw[jy,iB,tT (by omega)]
 by_cases c1:j<k*3
 ·rw[kF (by omega)] at A;rw[putAt_out _ _ _ _ (.inl (by omega))];exact xI C j u A
 rw[jU (by omega),m] at A;have:=putAt_in _ cur (off+k*3) (j-k*3) u (by omega) A;rwa [show off+k*3+(j-k*3)=off+j by omega] at this
theorem Us (c:Cc) (g A:Nat) (f i:Int) (w:World) (C:aG w g #[.int .i64 f] 3) (u:aG w A #[.int .i64 i] 3) :
  Calls Tryz.prog 178 #[.agg (vV c),.pointer (some ⟨g,0,none⟩),.pointer (some ⟨A,0,none⟩)] w λr w'=>r = .returned (.bool (BB f i c))/\Below w.heap.size w w':=by
 go_enter func178,ntmps178;go_upto_region 1 with (fail);refine iC (λW=>Code.wp _ _ _ _ W) λW0 a b d => ?_;clear d;have j:=(C.ext a).cell 0;have h:=(u.ext a).cell 0;have e:=b.cell;unfold vV at e
 by_cases y:f<c.f
 ·go_wp2;go_ret;exact⟨bY (by unfold BB;simp[y]),a⟩
 by_cases h2:c.f=f
 ·have D:(c.f==f)=true:=by simpa using h2
  by_cases z:i<=c.i
  ·go_wp2;go_ret;exact⟨bY (by unfold BB;simp[h2,z]),a⟩
  go_wp2;go_ret;exact⟨bY (by unfold BB;simp[y,h2,z]),a⟩
 have D:(c.f==f)=false:=by simpa using h2
 go_wp2;go_ret;exact⟨bY (by unfold BB;simp[y,h2]),a⟩
theorem PP (l:List Cc) (a:Option Addr) (c:Nat) (w:World) (A:dZ w a (l.flatMap iK)) (G:l.length<=9223372036854775807) (g E:Nat) (z u:Int) (F:aG w g #[.int .i64 z] 3) (D:aG w E #[.int .i64 u] 3) :
  Calls Tryz.prog 131 #[.slice a l.length c,.func (.func 178) #[] #[.pointer (some ⟨g,0,none⟩),.pointer (some ⟨E,0,none⟩)]] w λe w'=>e = .returned (.int .i64 (idx (BB z u) l))/\Below w.heap.size w w':=by
 go_enter func131,ntmps131;go_wp2
 go_loopw [8] (fun i wr => ∃k:Nat,k<=l.length/\i = .int .i64 k/\Below w.heap.size w wr/\∀i (h:i<l.length),i<k->(BB z u) l[i]=false) (fun i _=>l.length-(intOf i).toNat)
 case atStart=>exact⟨0,aZ _,rfl,Below.refl _ _,λi _ h=>absurd h (fe _)⟩
 case round=>
  obtain⟨k,H,rfl,f,n⟩:=hrel;have C:=ae n;clear n
  by_cases y:k<l.length
  ·obtain⟨b,off,rfl,p⟩:=zy (A.below f) k y
   go_wp2_with (refine ay _ _ rfl b (off+k*3) rfl rfl _ p _ underlying122 rfl cached_size ?_)
   refine (Us l[k] g E z u _ (F.ext f) (D.ext f)).mono ?_;rintro e w2 ⟨rfl,o⟩;have j:=ag f o;clear o;cases hpk:(BB z u) l[k]
   ·have m:=ae hpk;clear hpk;go_wp2;go_roundw
    case rel=>exact⟨k+1,by omega,by go_num,j,mG C.out y m.out⟩
    case measure=>simp[intOf];omega
   have d:=ae (uG (BB z u) l k y C.out hpk);clear hpk;go_wp2;go_ret;exact⟨aW d.out.symm,j⟩
  have d:=ae (lY (BB z u) l λi h=>C.out i h (by omega));go_wp2;go_ret;exact⟨aW d.out.symm,f⟩
theorem UF {l:List Cc} {f i:Int}:(idx (BB f i) l<0/\sH l f i=l.length/\JH l f i=false)\/(∃k,∃j:k<l.length,idx (BB f i) l=k/\sH l f i=k/\JH l f i=(decide (l[k].f=f)&&decide (l[k].i=i))):=by
 unfold idx JH sH;cases h:l.findIdx? (BB f i) with
 | none=>exact .inl ⟨by decide,rfl,by simp⟩
 | some k=>
  obtain⟨j,_,_⟩:=rD.1 h;exact .inr ⟨k,j,rfl,rfl,by simp[aH j]⟩
theorem CS (H:MH) (e f i:Int) (B b:Nat) (w:World) (h:lG w B b H e) :
  Calls Tryz.prog 139 #[.pointer (some ⟨b,0,none⟩),.int .i64 f,.int .i64 i] w λr w'=>r = .returned (.tuple #[.int .i64 (sH H.ca f i:Int),.bool (JH H.ca f i)])/\Below w.heap.size w w':=by
 go_enter func139,ntmps139;go_upto_region 1 with (fail);refine wH (λW=>Code.wp _ _ _ _ W) λW0 p n m u => ?_;clear u;have F:=h.below p;have K:=F.blk.cell;unfold qR at K;have C:=F.ma.rd.ca;have v:=C.mx;have O:=C.le;unfold maxLen at v;clear h
 go_wp2_with fail
 refine (PP H.ca H.ac H.cc _ C.rd (by omega) _ _ f i n m).mono ?_;rintro r w1 ⟨rfl,d⟩;have a:=ag p d;have k1:=F.below d;have y:=(n.ext d).cell 0;have x:=(m.ext d).cell 0;have s:=k1.blk.cell;unfold qR at s;have j:=C.rd.below d;clear K n m p d F C;rcases UF (l:=H.ca) (f:=f) (i:=i) with ⟨I,h2,D⟩|⟨k,J,I,h2,D⟩
 ·have A:=ae (And.intro h2 D);clear h2 D;generalize idx (BB f i) H.ca=z at *
  go_wp2;go_ret2;rw[A.out.1,A.out.2];exact⟨rfl,a⟩
 have A:=ae (And.intro h2 D);rw[I];clear I h2 D;obtain⟨g,off,c,t,o,U,S,R⟩:=Sm j k J;rw[t] at s;have q:H.ca[k]=c:=by rw[aH J] at o;exact aM o
 rw[q] at A;have N:(k:Int)<(H.ca.length:Int):=by omega
 clear o j t q
 go_wp2_with fail
 by_cases E:c.f=f
 ·have M:(c.f==f)=true:=by simpa using E
  by_cases G:c.i=i
  ·have L:(c.i==i)=true:=by simpa using G
   go_quiet (fail);go_wp2;go_ret2;rw[A.out.1,A.out.2];refine⟨by simp[E,G],below_drewN a _⟩
  have L:(c.i==i)=false:=by simpa using G
  go_quiet (fail);go_wp2;go_ret2;rw[A.out.1,A.out.2];refine⟨by simp[E,G],below_drewN a _⟩
 have M:(c.f==f)=false:=by simpa using E
 go_quiet (fail);go_wp2;go_ret2;rw[A.out.1,A.out.2];refine⟨by simp[E],below_drewN a _⟩
def uC (u:Nat × Int):Array Value:=#[.int .i64 u.1,.int .i64 u.2]
def uL (u:Nat × Int):List Value:=(uC u).toList
theorem VQ (u:Nat × Int):(uL u).length=2:=rfl
theorem us_info:(Tryz.prog.info? 247).map (λi=>(i.zero,i.size,i.bytes))=some (some (.agg #[.int .i64 0,.int .i64 0]),2,16):=by kernel_rfl
theorem us_size:(Tryz.prog.info? 247).map (·.size)=some 2:=by kernel_rfl
theorem WH (u:Nat × Int):∀x∈uL u,x.oneCell' = true:=by
 intro x h;simp only[uL,uC,dw,gN,or_false] at h;rcases h with rfl|rfl<;>rfl
def sW (m:Ma) (f:Int) (P:Nat):List (Nat × Int):=(List.range P).flatMap λp=>(pJ (dD m p).tb 1 f).map λn=>(p,n)
theorem Gt (m:Ma) (f:Int) (P:Nat):sW m f (P+1)=sW m f P++(pJ (dD m P).tb 1 f).map λn=>(P,n):=by
 unfold sW;rw[Ao,fE];simp
theorem NQ (t:Tb) (kd i:Int):(pJ t kd i).length<=64:=by
 unfold pJ aU;exact bi (AL _ _) (su t 64)
theorem CO (m:Ma) (f:Int):∀P,(sW m f P).length<=P*64
 | 0=>by simp[sW]
 | P+1=>by have h:=CO m f P;have h2:=NQ (dD m P).tb 1 f;rw[Gt,jf,fH];omega
theorem NE (H:MH) (e f:Int) (B b:Nat) (w:World) (h:lG w B b H e) (hz:H.sp.length<=1000) :
  Calls Tryz.prog 199 #[.pointer (some ⟨b,0,none⟩),.int .i64 f] w λr w' => ∃v,r = .returned v/\Own w' w.heap.size 247 2 v (bB H.ma f).length ((bB H.ma f).flatMap uL)/\Below w.heap.size w w':=by
 go_enter func199,ntmps199;have A:=h.blk.cell;unfold qR at A;go_upto_region 3 with (fail);clear A
 go_loopw [5,15] (fun s5 s15 wr => ∃P:Nat,P<=H.sp.length/\s15 = .int .i64 P/\Own wr w.heap.size 247 2 s5 (sW H.ma f P).length ((sW H.ma f P).flatMap uL)/\Below w.heap.size w wr) (fun _ s15 _=>H.sp.length-(intOf s15).toNat)
 case atStart=>exact⟨0,aZ _,rfl,Own.nil _ _ _ _,Below.refl _ _⟩
 case round=>
  obtain⟨P,hP,rfl,a,c⟩:=hrel
  by_cases E:P<H.sp.length
  ·obtain⟨S,J⟩:∃S,H.sp[P]?=some S:=⟨_,aH E⟩;have Y:=ae (sD J);have D:=h.below c;obtain⟨g,off,M,V,I,m⟩:=D.at J;have A:=D.blk.cell;unfold qR at A;rw[M] at A;have K:(P:Int)<(H.sp.length:Int):=by omega
   go_wp2_with (refine ay _ _ rfl g (off+P*10+2) rfl rfl _ I _ underlying74 tab_agg tab_size ?_)
   refine (PM S.tb (oh S.ts) 1 f _ m.tb).mono ?_;rintro r w1 ⟨v1,rfl,x,F⟩;obtain⟨a1,c1,rfl,_⟩:=x.rd;have q:=x.mono (aZ _);have s:=ag c F;have d:=a.below F;have hs:(pJ S.tb 1 f).length<=64:=NQ _ _ _;have O:Hid (pJ (dD H.ma P).tb 1 f=pJ S.tb 1 f):=ae (by rw[Y.out];rfl);have hr:=CO H.ma f P;generalize pJ S.tb 1 f=L at *
   clear A V I m D a F x;go_upto_region 6 with (fail)
   go_loopw [5,30] (fun s5 s30 wr => ∃j:Nat,j<=L.length/\s30 = .int .i64 j/\Own wr w.heap.size 247 2 s5 (sW H.ma f P++(L.take j).map fun n=>(P,n)).length ((sW H.ma f P++(L.take j).map fun n=>(P,n)).flatMap uL)/\Below w.heap.size w wr/\Own wr 0 3 1 (.slice a1 L.length c1) L.length (L.map fZ)) (fun _ s30 _=>L.length-(intOf s30).toNat)
   case atStart=>exact⟨0,aZ _,rfl,by simpa using d,s,q⟩
   case round=>
    clear d s q;obtain⟨j,hj,rfl,a,c,p⟩:=hrel
    by_cases C:j<L.length
    ·obtain⟨_,_,Z,_,_,_,G⟩:=p.rd;cases Z;obtain⟨bl,ol,rfl,N⟩:=kD G j C;have R:(j:Int)<(L.length:Int):=by omega
     have W:(sW H.ma f P++(L.take j).map λn=>(P,n)).length=(sW H.ma f P).length+j:=by rw[jf,fH,iB];omega
     have t:Hid (sW H.ma f P++(L.take (j+1)).map (λn=>(P,n))=(sW H.ma f P++(L.take j).map λn=>(P,n))++[(P,L[j])]):=ae (by rw[nO,aH C,jS,jG];rfl);generalize sW H.ma f P++(L.take j).map (λn=>(P,n))=us at *
     go_wp2_with (at_builtin;(refine fK rfl _ _ 259 rfl w.heap.size 247 (.agg #[.int .i64 0,.int .i64 0]) 2 16 underlying259 us_info rfl (by decide) _ _ _ rfl (a.alloc _) (some ⟨_,0,none⟩) 1 1 (uL (P,L[j])) rfl (λh=>(by cases h)) (az _) rfl (dZ.new _ (uC (P,L[j])) _) (WH _) (by unfold maxLen;omega) (by omega) (dE c.size _) ?_))
     intro v2 w2 u l;have z:=(c.alloc c.size (.cells (uC (P,L[j])) 247)).grown l (dE c.size _) (λk U=>a.ge k U);have X:=Ae (p.alloc (.cells (uC (P,L[j])) 247)) (a.alloc (.cells (uC (P,L[j])) 247)) (by decide) l;have y:(us++[(P,L[j])]).length=us.length+1:=by simp
     clear N G a c p l;go_wp2;go_roundw
     case rel=>exact⟨j+1,by omega,by go_num,by rw[t.out,y,fE,W];simpa using u,z,X⟩
     case measure=>simp[intOf];omega
    have R:¬(j:Int)<(L.length:Int):=by omega
    have o:Hid (sW H.ma f P++(L.take j).map (λn=>(P,n))=sW H.ma f (P+1)):=ae (by rw[ji (by omega),Gt,O.out]);clear p;go_wp2;go_roundw
    case rel=>
     have i:=a;rw[o.out] at i;exact⟨u5,.int .i64 (P:Int),u8,.int .i64 ((P:Int)+1),⟨P+1,by omega,by go_num,i⟩,rfl,rfl,rfl,rfl⟩
    case measure=>simp[intOf];omega
  have o:Hid (sW H.ma f P=bB H.ma f):=ae (by
   have:P=H.sp.length:=by omega
   unfold sW bB MH.ma;simp[this])
  have K:¬(P:Int)<(H.sp.length:Int):=by omega
  go_wp2;go_ret;rw[<-o.out];exact⟨_,rfl,a,c⟩
def ent (m:Ma) (p:Nat) (n:Int):En:=dJ (dD m p).tb n
structure Pt (m:Ma):Prop where
 fr:bu m.m=0
 sl:dF m.sl=0
 sw:bW m.sw=0
 dk:bW m.dk=0
 st:aR m.st=0
 swl:m.sw.blocks.length=m.sl.length
 dkl:(m.dk.blocks.length:Int)=m.st.count
 spl:m.sp.length<=4
 ar:∀s∈m.sp,(bQ s.ar).1=0
 tb:∀s∈m.sp,dA s.tb=0
theorem zt (h:p<m.sp.length):m.sp[p]?=some (dD m p):=by
 unfold dD;rw[aX,aH h];rfl
theorem Dg (h:p<m.sp.length):dD m p∈m.sp:=bV (zt h)
theorem qp (h:m.sp.length<=p):dD m p=zSp:=by
 unfold dD;rw[aX,fw h];rfl
theorem Ow {s:Sp} (h:s∈m.sp):∃p,p<m.sp.length/\s=dD m p:=by
 obtain⟨i,j,rfl⟩:=jI.1 h;refine⟨i,j,?_⟩;have:=zt (m:=m) j;rw[aH j] at this;exact aM this
theorem Pt.tbN (h:Pt m) (p:Nat):dA (dD m p).tb=0:=by
 rcases fQ p m.sp.length with j|j
 ·exact h.tb _ (Dg j)
 ·rw[qp j];decide
theorem Pt.arN (h:Pt m) (p:Nat):(bQ (dD m p).ar).1=0:=by
 rcases fQ p m.sp.length with j|j
 ·exact h.ar _ (Dg j)
 ·rw[qp j];decide
theorem mY (h:Pt m) (p:Nat) (n:Int):eF (ent m p n)=0:=sK (h.tbN p) n
theorem Od (p:Nat) (h:n<0\/64<=n):ent m p n=zEn:=sj h
theorem bN (e:En):eF e=0↔(e.k=0/\e.n=0/\e.w=false)\/(e.k=1/\0<=e.n/\e.n<40)\/(e.k=2/\0<=e.n/\e.n<60/\e.w=false):=by
 obtain⟨k,n,w⟩:=e;unfold eF;simp only;cases w
 all_goals
  simp only[tY,reduceCtorEq,and_true,and_false,or_false,false_or,or_true];constructor
  ·intro h;split at h
   ·omega
   split at h
   ·omega
   ·split at h<;>omega
  intro h;split
  ·omega
  split
  ·omega
  split
  ·omega
  ·rfl
theorem BZ {t:Tb} (j:p<m.sp.length) (q:Nat):dD (setTb m p t) q=if q=p then { dD m p with tb:=t } else dD m q:=by
 unfold setTb;show (m.sp.set p _).getD q zSp=_;rw[aX,nR]
 by_cases e:q=p
 ·subst e;rw[if_pos rfl,if_pos j,if_pos rfl];rfl
 ·rw[if_neg (λh=>e h.symm),if_neg e];unfold dD;rw[aX]
theorem PZ {t:Tb} (h:p<m.sp.length) (q:Nat) (n:Int):ent (setTb m p t) q n=if q=p then dJ t n else ent m q n:=by
 unfold ent;rw[BZ h]
 by_cases e:q=p
 ·rw[if_pos e,if_pos e]
 ·rw[if_neg e,if_neg e]
theorem uZ {t:Tb}:(setTb m p t).sp.length=m.sp.length:=bK
theorem Pt.setTb {m:Ma} (h:Pt m) {p:Nat} {t:Tb} (u:dA t=0):Pt (setTb m p t):=by
 by_cases y:p<m.sp.length
 ·refine { h with spl:=by rw[uZ];exact h.spl,ar:=λs j => ?_,tb:=λs j => ?_ }
  ·rcases lL j with j|rfl
   ·exact h.ar s j
   ·exact h.arN p
  rcases lL j with j|rfl
  ·exact h.tb s j
  ·exact u
 have:Go.Proofs.YthihaopabbpalaaGreat.setTb m p t=m:=by unfold Go.Proofs.YthihaopabbpalaaGreat.setTb;rw[List.set_eq_of_length_le (by omega)]
 rw[this];exact h
def pK (kd i:Int) (e:En):Bool:=decide (e.k=kd)&&decide (e.n=i)
def bO (m:Ma) (kd i:Int):Nat:=(m.sp.map λs=>(dI s.tb).countP (pK kd i)).sum
def rU (b:Bool):Nat:=if b=true then 1 else 0
theorem countP_set {α:Type} (q:α->Bool):∀(l:List α) (k:Nat) (h:k<l.length) (x:α),(l.set k x).countP q+rU (q l[k])=l.countP q+rU (q x)
 | a::l,0,_,x=>by simp only[uF,Da,uD,rU];omega
 | a::l,k+1,h,x=>by have:=countP_set q l k (by simpa using h) x;simp only[tZ,CP,uD];omega
theorem sum_set:∀(l:List Nat) (k:Nat) (h:k<l.length) (x:Nat),(l.set k x).sum+l[k]=l.sum+x
 | a::l,0,_,x=>by simp only[uF,Da,Av];omega
 | a::l,k+1,h,x=>by have:=sum_set l k (by simpa using h) x;simp only[tZ,CP,Av];omega
theorem Ai {t:Tb} {e:En} (h:setE t n e=0):dI (setT t n e)=(dI t).set n.toNat e:=by
 obtain⟨u,h2,j⟩:=ww h;rw[Fx h,EZ (Jp u j) (by rw[bK,nW])]
theorem ME {t:Tb} {e:En} (h:setE t n e=0) (q:En->Bool):(dI (setT t n e)).countP q+rU (q (dJ t n))=(dI t).countP q+rU (q e):=by
 obtain⟨A,h2,z⟩:=ww h;have j:n.toNat<(dI t).length:=by rw[nW];omega
 have y:=countP_set q (dI t) n.toNat j e;have u:=zD t n.toNat (by omega);rw[aH j,DV h2.1] at u;rw[aM u] at y;rw[Ai h];exact y
theorem qx (j:p<m.sp.length) {x:En} (h:setE (dD m p).tb n x=0) (kd i:Int) :
  bO (setTb m p (setT (dD m p).tb n x)) kd i+rU (pK kd i (ent m p n))=bO m kd i+rU (pK kd i x):=by
 have z:=ME h (pK kd i);have h2:=sum_set (m.sp.map λs=>(dI s.tb).countP (pK kd i)) p (by simpa using j) ((dI (setT (dD m p).tb n x)).countP (pK kd i));unfold bO setTb;rw[Be];have u:(m.sp.map λs=>(dI s.tb).countP (pK kd i))[p]'(by simpa using j)=(dI (dD m p).tb).countP (pK kd i):=by rw[wy];have:=zt j;rw[aH j] at this;rw[aM this]
 rw[u] at h2;have y:rU (pK kd i (ent m p n))=rU (pK kd i (dJ (dD m p).tb n)):=rfl;simp only;omega
theorem UN {l:List Nat}:0<l.sum↔∃k,∃h:k<l.length,0<l[k]:=by
 induction l with
 | nil=>simp
 | cons a l ih=>
  rw[Av];constructor
  ·intro h
   by_cases y:0<a
   ·exact⟨0,by simp,by simpa using y⟩
   obtain⟨k,u,j⟩:=ih.1 (by omega);exact⟨k+1,by simpa using u,by simpa using j⟩
  rintro⟨k,u,j⟩;cases k with
  | zero=>simp at j;omega
  | succ k=>
   have:=ih.2 ⟨k,by simpa using u,by simpa using j⟩;omega
theorem nC {i:Int} (G:kd≠0):0<bO m kd i↔∃p n,p<m.sp.length/\(0<=n/\n<64)/\(ent m p n).k=kd/\(ent m p n).n=i:=by
 unfold bO;rw[UN];constructor
 ·rintro⟨p,y,h⟩;have a : p<m.sp.length:=by simpa using y
  rw[wy] at h;obtain⟨e,E,u⟩:=yg.1 h;obtain⟨j,C,rfl⟩:=jI.1 E;have b : j<64:=by rw[nW] at C;exact C
  have A:m.sp[p]=dD m p:=by have:=zt a;rw[aH a] at this;exact aM this
  have z:=zD m.sp[p].tb j b;rw[aH C] at z;rw[aM z,A] at u;unfold pK at u;simp only[dU,decide_eq_true_eq] at u;exact⟨p,j,a,by omega,u.1,u.2⟩
 rintro⟨p,n,y,D,F,h2⟩;refine⟨p,by simpa using y,?_⟩;rw[wy,yg];have A:m.sp[p]=dD m p:=by have:=zt y;rw[aH y] at this;exact aM this
 refine⟨ent m p n,?_,by unfold pK;rw[F,h2];simp⟩;rw[A];have z:=zD (dD m p).tb n.toNat (by omega);rw[DV D.1] at z;exact bV z
theorem wu (h:f<m.m.fs.length):m.m.fs[f]?=some (aD m f):=by
 unfold aD;rw[aX,aH h];rfl
theorem NV (h:f<m.m.fs.length):aD m f∈m.m.fs:=bV (wu h)
theorem Iw (h:m.m.fs.length<=f):aD m f=fr0:=by
 unfold aD;rw[aX,fw h];rfl
theorem iq {x:Fr} (h:f<m.m.fs.length) (g:Nat):aD (setFr m f x) g=if g=f then x else aD m g:=by
 unfold aD setFr;simp only;rw[aX,nR]
 by_cases e:g=f
 ·subst e;rw[if_pos rfl,if_pos h,if_pos rfl];rfl
 ·rw[if_neg (λe'=>e e'.symm),if_neg e,aX]
theorem eU {x:Fr}:(setFr m f x).m.fs.length=m.m.fs.length:=bK
theorem Pt.frE (h:Pt m) (j:f<m.m.fs.length):bS (aD m f)=0:=((dH _).1 h.fr).2.1 _ (NV j)
theorem Pt.setFr {m:Ma} (h:Pt m) {f:Nat} {x:Fr} (j:bS x=0):Pt (setFr m f x):={ h with fr:=Er h.fr j }
theorem Ki {x:Fr} (h:bS x=0) (y:x.r≠0) (h1 : -x.r<=n) (h2:n<=1000-x.r):bS (ig x n)=0:=by
 unfold ig
 by_cases j:x.r+n=0
 ·rw[if_pos j];decide
 rw[if_neg j,dK];have:=(dK x).1 h;refine⟨by simp only;omega,λu=>absurd u j,this.2.2⟩
theorem Sw {m:Mem} {k:Int} (h:bu m=0) (u:0<=k/\k<m.fs.length) (j:(m.fs.getD k.toNat fr0).r≠0) (h1 : -(m.fs.getD k.toNat fr0).r<=n) (h2:n<=1000-(m.fs.getD k.toNat fr0).r):nZ m k n=0:=by
 unfold nZ;rw[if_neg (by rw[h];simp),if_neg (by omega),if_neg (by omega)]
theorem Ah {k:Kp} (h:Pt k.m) (y:f<k.m.m.fs.length) (j:(aD k.m f).r≠0) (h1 : -(aD k.m f).r<=n) (h2:n<=1000-(aD k.m f).r) :
  gB k f n=⟨setFr k.m f (ig (aD k.m f) n),k.e⟩/\Pt (setFr k.m f (ig (aD k.m f) n)):=by
 have u:nZ k.m.m (f:Int) n=0:=Sw h.fr (by omega) j h1 h2;refine⟨?_,h.setFr (Ki (h.frE y) j h1 h2)⟩;unfold gB;rw[if_pos u];congr 1;unfold lT;rw[if_pos u];rfl
def jT (m:Ma) (s:Nat):Int:=m.sl.getD s 0
def setSl (m:Ma) (s:Nat) (n:Int):Ma:={ m with sl:=m.sl.set s n }
theorem LU (h:f<m.sl.length):m.sl[f]?=some (jT m f):=by
 unfold jT;rw[aX,aH h];rfl
theorem Iy {x:Int} (h:f<m.sl.length) (g:Nat):jT (setSl m f x) g=if g=f then x else jT m g:=by
 unfold jT setSl;simp only;rw[aX,nR]
 by_cases e:g=f
 ·subst e;rw[if_pos rfl,if_pos h,if_pos rfl];rfl
 ·rw[if_neg (λe'=>e e'.symm),if_neg e,aX]
theorem Pt.slB (h:Pt m) (s:Nat):0<=jT m s/\jT m s<=1000:=by
 rcases fQ s m.sl.length with j|j
 ·have:=Fw h.sl _ (bV (LU j));unfold rf at this;simp only[DF,decide_eq_false_iff_not] at this;omega
 ·unfold jT;rw[aX,fw j];simp
theorem Pt.setSl {m:Ma} (h:Pt m) {s:Nat} {n:Int} (u:0<=n) (j:n<=1000):Pt (setSl m s n):=
 { h with sl:=Eb s n h.sl u j,swl:=h.swl.trans bK.symm }
theorem Ql {k:Kp} (h:Pt k.m) (y:s<k.m.sl.length) (z:jT k.m s≠0) (h1 : -(jT k.m s)<=n) (h2:n<=1000-jT k.m s) :
  nS k s n=⟨setSl k.m s (jT k.m s+n),k.e⟩/\Pt (setSl k.m s (jT k.m s+n)):=by
 have u:FM k.m.sl (s:Int)=jT k.m s:=rfl;have j:dB k.m.sl (s:Int) n=0:=by unfold dB;rw[if_neg (by rw[h.sl];simp),if_neg (by rw[u];omega),if_neg (by rw[u];omega)]
 refine⟨?_,h.setSl (by omega) (by omega)⟩;unfold nS;rw[if_pos j];congr 1;unfold cB;rw[if_pos j];rfl
theorem iP {k:Kp} {x:En} (h:Pt k.m) (y:0<=n/\n<64) (u:eF x=0) :
  setE (dD k.m p).tb n x=0/\eP k p n x=⟨setTb k.m p (setT (dD k.m p).tb n x),k.e⟩/\Pt (setTb k.m p (setT (dD k.m p).tb n x)):=by
 have j:=zW (h.tbN p) y u;refine⟨j,?_,h.setTb (qd j)⟩;unfold eP;rw[if_pos j]
theorem nJ {x:En} (z:p<m.sp.length) (h:setE (dD m p).tb n x=0) (q:Nat) (j:Int):ent (setTb m p (setT (dD m p).tb n x)) q j=if q=p/\j=n then x else ent m q j:=by
 rw[PZ z]
 by_cases e:q=p
 ·subst e;rw[if_pos rfl,AC h]
  by_cases u:j=n
  ·rw[if_pos u,if_pos ⟨rfl,u⟩]
  ·rw[if_neg u,if_neg (λy=>u y.2)];rfl
 ·rw[if_neg e,if_neg (λy=>e y.1)]
structure iA (m m' : Ma):Prop where
 len:m'.sp.length=m.sp.length
 lv:∀p,(dD m' p).lv=(dD m p).lv
 ar:∀p,(dD m' p).ar=(dD m p).ar
theorem iA.refl (m:Ma):iA m m:=⟨rfl,λ_=>rfl,λ_=>rfl⟩
theorem iA.trans {a b c:Ma} (h:iA a b) (k:iA b c):iA a c:=⟨k.len.trans h.len,λp=>(k.lv p).trans (h.lv p),λp=>(k.ar p).trans (h.ar p)⟩
theorem iA.of (h:m'.sp=m.sp):iA m m':=⟨by rw[h],λp=>by unfold dD;rw[h],λp=>by unfold dD;rw[h]⟩
theorem iA.setTb {m:Ma} {p:Nat} {t:Tb}:iA m (setTb m p t):=by
 by_cases h:p<m.sp.length
 ·refine⟨uZ,λq => ?_,λq => ?_⟩
  all_goals
   rw[BZ h]
   by_cases e:q=p
   ·rw[if_pos e,e]
   ·rw[if_neg e]
 have:Go.Proofs.YthihaopabbpalaaGreat.setTb m p t=m:=by unfold Go.Proofs.YthihaopabbpalaaGreat.setTb;rw[List.set_eq_of_length_le (by omega)]
 rw[this];exact .refl _
structure Rest (m m' : Ma):Prop where
 sl:m'.sl=m.sl
 sw:m'.sw=m.sw
 dk:m'.dk=m.dk
 st:m'.st=m.st
 ca:m'.ca=m.ca
theorem Rest.refl (m:Ma):Rest m m:=⟨rfl,rfl,rfl,rfl,rfl⟩
theorem Rest.trans {a b c:Ma} (h:Rest a b) (k:Rest b c):Rest a c:=⟨k.sl.trans h.sl,k.sw.trans h.sw,k.dk.trans h.dk,k.st.trans h.st,k.ca.trans h.ca⟩
structure VB (m:Ma) (f:Nat) (l:List (Nat × Int)):Prop where
 nd:l.Nodup
 mem:∀u∈l,u.1<m.sp.length/\(0<=u.2/\u.2<64)/\(ent m u.1 u.2).k=1/\(ent m u.1 u.2).n=f
theorem Ha {x:Fr} (h:bS x=0):ig x 0=x:=by
 unfold ig
 by_cases j:x.r=0
 ·rw[if_pos (by omega)];exact (NZ h j).symm
 rw[if_neg (by omega)];obtain⟨p,r,u,d,f,i⟩:=x;simp
theorem OJ {x:Fr} (h:bS x=0) (j:Nat) (y:(j:Int)+1<=x.r):ig (ig x (-1)) (-(j:Int))=ig x (-((j:Int)+1)):=by
 by_cases z:x.r=1
 ·have:j=0:=by omega
  subst this;have u:ig x (-1)=frZ:=by unfold ig;rw[if_pos (by omega)]
  rw[show -((0:Nat):Int)=0 from rfl,show -(((0:Nat):Int)+1) = -1 from rfl,u];exact Ha (by decide)
 have u:ig x (-1) = { x with r:=x.r + -1 }:=by unfold ig;rw[if_neg (by omega)]
 rw[u];unfold ig;simp only
 by_cases h2:x.r=(j:Int)+1
 ·rw[if_pos (by omega),if_pos (by omega)]
 rw[if_neg (by omega),if_neg (by omega)];congr 1;omega
def Vh (f:Nat) (e' : En) (k:Kp) (u:Nat × Int):Kp:=eP (gB k f (-1)) u.1 u.2 e'
theorem Et (h:f<m.m.fs.length):setFr m f (aD m f)=m:=by
 have h2:m.m.fs.set f (aD m f)=m.m.fs:=by have:=wu h;rw[aH h] at this;rw[<-aM this,vM]
 unfold setFr;rw[h2]
theorem Dp {f:Nat} {e' : En} (he:eF e' = 0) (step:Kp->(Nat × Int)->Kp) (y:∀k u,(ent k.m u.1 u.2).k=1->(ent k.m u.1 u.2).n=f->step k u=Vh f e' k u):∀(l:List (Nat × Int)) (k:Kp),Pt k.m->VB k.m f l->f<k.m.m.fs.length->(l.length:Int)<=(aD k.m f).r ->
  (l.foldl step k).e=k.e/\Pt (l.foldl step k).m/\Rest k.m (l.foldl step k).m/\iA k.m (l.foldl step k).m/\(l.foldl step k).m.m=(setFr k.m f (ig (aD k.m f) (-(l.length:Int)))).m /\
   (∀p n,ent (l.foldl step k).m p n=if (p,n)∈l then e' else ent k.m p n)/\∀kd i,bO (l.foldl step k).m kd i+(if kd=1/\i=f then l.length else 0)=bO k.m kd i+(if kd=e'.k/\i=e'.n then l.length else 0)
 | [],k,h,hu,hf,hr=>by refine⟨rfl,h,.refl _,.refl _,?_,λp n=>by simp,λkd i=>by simp⟩;show k.m.m=_;rw[show -(([]:List (Nat × Int)).length:Int)=0 from rfl,Ha (h.frE hf),Et hf]
 | u::l,k,h,hu,hf,hr=>by
  obtain⟨hp,hn,N,M⟩:=hu.mem u iL;simp only[qg] at hr;have O:=h.frE hf;have hb:=((dK _).1 O).1;obtain⟨I,p1⟩:=Ah (k:=k) (f:=f) (n:=-1) h hf (by omega) (by omega) (by omega);have z:=OJ O l.length (by omega);generalize hX:ig (aD k.m f) (-1)=X at I p1 z;obtain⟨s0,H,p2⟩:=iP (k:=⟨setFr k.m f X,k.e⟩) (p:=u.1) (n:=u.2) (x:=e') p1 hn he;have E:step k u=⟨setTb (setFr k.m f X) u.1 (setT (dD k.m u.1).tb u.2 e'),k.e⟩:=by rw[y k u N M];unfold Vh;rw[I,H];rfl
  have S:=λq j=>nJ (m:=setFr k.m f X) (p:=u.1) (n:=u.2) (x:=e') hp s0 q j;have G:=λkd i=>qx (m:=setFr k.m f X) (p:=u.1) (n:=u.2) (x:=e') hp s0 kd i;have K:=tF.1 hu.nd;have F:(step k u).m.m=(setFr k.m f X).m:=by rw[E];rfl
  have R:aD (step k u).m f=X:=by
   have:aD (step k u).m f=aD (setFr k.m f X) f:=by unfold aD;rw[F]
   rw[this,iq hf,if_pos rfl]
  have A:∀q j,ent (step k u).m q j=if q=u.1/\j=u.2 then e' else ent k.m q j:=λq j=>by rw[E];exact S q j
  have L:(step k u).m.sp.length=k.m.sp.length:=by rw[E];exact uZ
  have Y:X.r=(aD k.m f).r-1:=by
   rw[<-hX];unfold ig
   by_cases h0:(aD k.m f).r + -1=0
   ·rw[if_pos h0];show (0:Int)=_;omega
   ·rw[if_neg h0];rfl
  have ih:=Dp he step y l (step k u) (by rw[E];exact p2) ⟨K.2,λv hv=>by obtain⟨D,C,a3,Z⟩:=hu.mem v (jV _ hv);have W:¬(v.1=u.1/\v.2=u.2):=λe=>K.1 (by rw[<-show v=u from Prod.ext e.1 e.2];exact hv);rw[L,A,if_neg W];exact⟨D,C,a3,Z⟩⟩ (by rw[F,eU];exact hf) (by rw[R,Y];omega);obtain⟨i1,i2,i3,i4,i5,i6,i7⟩:=ih;rw[Ba];refine⟨by rw[i1,E],i2,Rest.trans (by rw[E];exact⟨rfl,rfl,rfl,rfl,rfl⟩) i3,iA.trans (by rw[E];exact iA.trans (b:=setFr k.m f X) (iA.of rfl) iA.setTb) i4,?_,λq j => ?_,λkd i => ?_⟩
  ·rw[i5,R,z];unfold setFr;simp only;rw[F];unfold setFr;simp only[Di,qg];rfl
  ·rw[i6,A]
   by_cases I:(q,j)∈l
   ·rw[if_pos I,if_pos (jV _ I)]
   rw[if_neg I]
   by_cases H:q=u.1/\j=u.2
   ·rw[if_pos H,if_pos (by rw[show (q,j)=u from Prod.ext H.1 H.2];exact iL)]
   rw[if_neg H,if_neg];intro J;rcases dw.1 J with J|J
   ·exact H ⟨congrArg Prod.fst J,congrArg Prod.snd J⟩
   ·exact I J
  have D:=i7 kd i;have C:=G kd i;have a3:bO (step k u).m kd i=bO (setTb (setFr k.m f X) u.1 (setT (dD (setFr k.m f X) u.1).tb u.2 e')) kd i:=by rw[E];rfl
  have Z:bO (setFr k.m f X) kd i=bO k.m kd i:=rfl;have a5:rU (pK kd i (ent (setFr k.m f X) u.1 u.2))=if kd=1/\i=f then 1 else 0:=by
   have:ent (setFr k.m f X) u.1 u.2=ent k.m u.1 u.2:=rfl;rw[this];unfold pK rU;rw[N,M]
   by_cases e:kd=1/\i=f
   ·rw[if_pos e,e.1,e.2];simp
   rw[if_neg e,if_neg];simp only[dU,decide_eq_true_eq];exact λU=>e ⟨U.1.symm,U.2.symm⟩
  have a6:rU (pK kd i e')=if kd=e'.k/\i=e'.n then 1 else 0:=by
   unfold pK rU
   by_cases e:kd=e'.k/\i=e'.n
   ·rw[if_pos e,e.1,e.2];simp
   rw[if_neg e,if_neg];simp only[dU,decide_eq_true_eq];exact λU=>e ⟨U.1.symm,U.2.symm⟩
  rw[a3] at D;rw[Z,a5,a6] at C;rw[qg]
  by_cases c1:kd=1/\i=f
  ·rw[if_pos c1] at D C ⊢
   by_cases V:kd=e'.k/\i=e'.n
   ·rw[if_pos V] at D C ⊢; omega
   ·rw[if_neg V] at D C ⊢; omega
  rw[if_neg c1] at D C ⊢
  by_cases V:kd=e'.k/\i=e'.n
  ·rw[if_pos V] at D C ⊢; omega
  ·rw[if_neg V] at D C ⊢; omega
theorem GI {α β:Type} {f:α->β} (u:∀a b,f a=f b->a=b) {l:List α} (h:l.Nodup):(l.map f).Nodup:=List.Pairwise.map _ (λa b j e=>j (u a b e)) h
theorem qf {t:Tb} :n∈aU t↔(0<=n/\n<64)/\(dJ t n).k≠0:=by
 unfold aU kC;simp only[ja,zU,eG,pY,decide_eq_true_eq];constructor
 ·rintro⟨j,⟨h,h2⟩,rfl⟩;exact⟨by omega,h2⟩
 rintro⟨h,h2⟩;refine⟨n.toNat,⟨by omega,?_⟩,by omega⟩;rw[DV h.1];exact h2
theorem Lu {t:Tb} {i:Int} (j:kd≠0):n∈pJ t kd i↔(0<=n/\n<64)/\(dJ t n).k=kd/\(dJ t n).n=i:=by
 unfold pJ qG;rw[zU,qf];simp only[Dz,dU,tO,decide_eq_false_iff_not,qL];constructor
 ·rintro⟨⟨h,_⟩,h2⟩;exact⟨h,h2⟩
 ·rintro⟨h,h2⟩;exact⟨⟨h,by rw[h2.1];exact j⟩,h2⟩
theorem Ld (t:Tb):(aU t).Nodup:=by
 unfold aU kC;exact GI (λa b h=>by have j : (a:Int)=b:=h;omega) (List.nodup_range.filter _)
theorem EB {t:Tb} {i:Int} (j:kd≠0):(pJ t kd i).length=(dI t).countP (pK kd i):=by
 unfold pJ aU kC dI;rw[<-DI,yH,IC,yH];congr 1;funext n;simp only[IL,qG,pK,pY,Dz];rw[ni];simp only[dU,tO,decide_eq_false_iff_not,qL,decide_eq_true_eq];constructor
 ·rintro⟨h,_⟩;exact h
 ·intro h;exact⟨h,by rw[h.1];exact j⟩
theorem uV {f:Int} {u:Nat × Int}:u∈bB m f↔u.1<m.sp.length/\(0<=u.2/\u.2<64)/\(ent m u.1 u.2).k=1/\(ent m u.1 u.2).n=f:=by
 unfold bB;simp only[kT,eG,ja];constructor
 ·rintro⟨p,j,n,y,rfl⟩;exact⟨j,(Lu (by decide)).1 y⟩
 rintro⟨j,h⟩;exact⟨u.1,j,u.2,(Lu (by decide)).2 h,rfl⟩
theorem FB {α β:Type} (g:α->List β):∀(l:List α),l.Nodup->(∀x∈l,(g x).Nodup)->(∀x∈l,∀y∈l,∀z,z∈g x->z∈g y->x=y)->(l.flatMap g).Nodup
 | [],_,_,_=>by simp
 | a::l,h1,h2,h3=>by rw[nX,ym];have A:=tF.1 h1;refine⟨h2 a iL,FB g l A.2 (λx u=>h2 x (jV _ u)) (λx u y h=>h3 x (jV _ u) y (jV _ h)),?_⟩;rintro z C w D rfl;obtain⟨y,h,j⟩:=kT.1 D;exact A.1 (by rw[h3 a iL y (jV _ h) z C j];exact h)
theorem JW (m:Ma) (f:Int):(bB m f).Nodup:=by
 unfold bB;refine FB _ _ List.nodup_range (λp u => ?_) (λp _ q _ z j h2 => ?_)
 ·unfold pJ;exact GI (λa b h=>by simpa using h) ((Ld _).filter _)
 obtain⟨_,_,rfl⟩:=ja.1 j;obtain⟨_,_,e⟩:=ja.1 h2;exact (congrArg Prod.fst e).symm
theorem EQ (m:Ma) (f:Nat):VB m f (bB m f):=⟨JW m f,λu h=>uV.1 h⟩
theorem QQ {α:Type} (l:List α) (d:α) {β:Type} (g:α->β):(List.range l.length).map (λp=>g (l.getD p d))=l.map g:=by
 apply uH
 ·simp
 intro i h h2;simp only[wy,IW];rw[aX,aH (by simpa using h2)];rfl
theorem vk (m:Ma) (f:Int):(bB m f).length=bO m 1 f:=by
 unfold bB bO;rw[List.length_flatMap];simp only[fH,EB (show (1:Int)≠0 by decide)];rw[<-QQ m.sp zSp];rfl
theorem lG.frame {H:MH} {e:Int} (h:lG w B b H e) (z:f<H.m.fs.length) :
  ∃g off cur,H.af=some ⟨g,off,none⟩/\B<=g/\aG w g cur 66/\off+f*13+13<=cur.size/\dZ w (some ⟨g,off+f*13,none⟩) (pG (aD H.ma f))/\(∀j u,(pG (aD H.ma f))[j]?=some u->cur[off+f*13+j]?=some u)/\b≠g /\
   ∀(w' : World) (x:Fr),aG w' g (bI cur (off+f*13) (pG x)) 66->w.grownBy w' (some g)->lG w' B b { H with m:=⟨H.m.fs.set f x,H.m.hand⟩ } e:=by
 have r:H.m.fs[f]=aD H.ma f:=by have:H.m.fs[f]?=some (aD H.ma f):=wu (m:=H.ma) (f:=f) z;rw[aH z] at this;exact aM this
 obtain⟨g,off,I,cur,C,G,a,l,i⟩:=oO fJ (by decide) rfl h.ma.fr f z;simp only[mJ] at C;obtain⟨p,_,s⟩:=C;have k:=h.ma.fr;rw[p] at k;have d:=BC k a;have o:∀j u,(pG (aD H.ma f))[j]?=some u->cur[off+f*13+j]?=some u:=λj u A=>by rw[nQ];exact d _ _ (flat_get pG 13 fJ H.m.fs f z j u (by rw[r];exact A))
 have n:b≠g:=λe=>by have E:=h.blk;subst e;unfold aG at E a;rw[E] at a;simp only[jr,ug] at a;exact absurd a.2.1 (by decide)
 refine⟨g,off,cur,p,G,a,l,λj u A=>⟨g,_,rfl,by rw[a.cell];exact o j u A⟩,o,n,λw' x F y => ?_⟩;have c:(H.m.fs.set f x).length=H.m.fs.length:=bK;refine⟨?_,h.ge,⟨?_,ax h.ma.sl a (by decide) y,h.ma.sw.keep a (by decide) (by decide) y,h.ma.dk.keep a (by decide) (by decide) y,h.ma.st.keep a (by decide) (by decide) y,ax h.ma.ca a (by decide) y,ax h.ma.sp a (by decide) y,λq D=>⟨ax (h.ma.ps q D).1 a (by decide) y,(h.ma.ps q D).2.keep a (by decide) y⟩,h.ma.c64⟩,h.tz⟩
 ·have:qR { H with m:=⟨H.m.fs.set f x,H.m.hand⟩ } e=qR H e:=by unfold qR;simp only[c]
  rw[this];exact h.blk.grown y (λe=>n (aM e).symm)
 simp only[c];exact i w' _ F
theorem putAt_one {o:Nat}:∀ {vs:List Value} {j:Nat} {v:Value},(∀i u,vs[i]?=some u->cur[o+i]?=some u)->j<vs.length->bI cur o (vs.set j v)=cur.setIfInBounds (o+j) v:=by
 intro vs j v b z;apply mH;intro i;rw[AA];have a:∀k,k<vs.length->o+k<cur.size:=λk y=>(iU.1 (b k _ (aH y))).1
 by_cases A:i<o\/o+vs.length<=i
 ·rw[putAt_out _ _ _ _ (by rw[bK];omega),if_neg (by omega)]
 have h:i-o<vs.length:=by omega
 have:=putAt_in (vs.set j v) cur o (i-o) ((vs.set j v)[i-o]'(by rw[bK];exact h)) (by rw[bK];have:=a (vs.length-1) (by omega);omega) (aH _);rw[show o+(i-o)=i by omega] at this;rw[this,DC]
 by_cases e:j=i-o
 ·rw[if_pos e,if_pos (by omega),if_pos (by have:=a j z;omega)]
 rw[if_neg e,if_neg (by omega)];have:=b (i-o) _ (aH h);rw[show o+(i-o)=i by omega] at this;exact this.symm
theorem JE (s:St) (f i:Int):(eB s f i).count=s.count\/(eB s f i).count=0:=by
 unfold eB;split
 ·exact .inr rfl
 split
 ·exact .inl rfl
 ·exact .inl rfl
theorem QY {o:Nat} (m:World->Prop) (h:∀W,w.grownBy W (some b)->(∀ {cur T},aG w b cur T->aG W b (bI cur o vs) T)->m W):m (w.setCells b o vs).drew:=by
 have j:=aC w b o vs;exact h _ ⟨j.os,j.tape,j.output,j.size,j.block⟩ λu=>u.setCells vs o
theorem vX : (Tryz.prog.info? 4).map (·.size)=some 1:=by kernel_rfl
def QL (B:Nat) (S:St) (N E:Int):mQ:=⟨λv w => ∃u ps k,v = .tuple #[.agg #[u,.int .i64 k],.int .i64 N,.int .i64 E]/\qC w B u ps/\cK ps k=S,λ_ _ _ hb ⟨u,ps,k,h1,h2,h3⟩=>⟨u,ps,k,h1,h2.below hb,h3⟩⟩
def CF (B:Nat) (d:wC) (E:Int):mQ:=⟨λv w => ∃a b,v = .tuple #[.agg #[a,b],.int .i64 E]/\ng w B a b d,λ_ _ _ hb ⟨a,b,h1,h2⟩=>⟨a,b,h1,h2.below hb⟩⟩
theorem MB (H:MH) (e:Int) (f:Nat) (B b:Nat) (w:World) (h:lG w B b H e) (hf:f<H.m.fs.length) :
  Calls Tryz.prog 161 #[.pointer (some ⟨b,0,none⟩),.int .i64 f] w λr w'=>r = .returned (.bool (lN H.ma f))/\KR w B b H w' (lw ⟨H.ma,e⟩ f):=by
 obtain⟨g,off,cur,h2,gc,hi,kW,kx,hG,gb,kh⟩:=h.frame hf;generalize hx:aD H.ma f=x at *
 have U:=ae hx;clear hx kh;have hc:=h.blk.cell;unfold qR at hc;rw[h2] at hc;have ga:(f:Int)<(H.m.fs.length:Int):=by omega
 have q10:cur[off+f*13+10]?=some (.bool x.d):=hG 10 _ rfl;have q11:cur[off+f*13+11]?=some (.int .i64 x.f):=hG 11 _ rfl;have q12:cur[off+f*13+12]?=some (.int .i64 x.i):=hG 12 _ rfl;have kC:=hi.cell;have kA:=hi.free;have kY:=ae hG;clear hG;go_enter func161,ntmps161
 by_cases h1:x.f<0
 ·have Z:Hid (lw ⟨H.ma,e⟩ f=⟨H.ma,e⟩):=ae (by unfold lw;simp only[U.out];rw[if_pos (.inl h1)]);have hl:Hid (lN H.ma f=true):=ae (by unfold lN;rw[U.out];simp[h1]);have hh:=ae h;clear h;go_wp2;go_ret;rw[Z.out,hl.out];exact⟨rfl,_,_,hh.out,KS.refl _ _ _,rfl⟩
 cases hd:x.d with
 | false=>
  have Z:Hid (lw ⟨H.ma,e⟩ f=⟨H.ma,e⟩):=ae (by unfold lw;simp only[U.out];rw[if_pos (.inr (.inl hd))]);have hl:Hid (lN H.ma f=true):=ae (by unfold lN;rw[U.out,hd];simp);rw[hd] at q10;have hh:=ae h;clear h;go_wp2;go_ret;rw[Z.out,hl.out];exact⟨rfl,_,_,hh.out,KS.refl _ _ _,rfl⟩
 | true=>
  rw[hd] at q10;go_upto_region 4 with (fail);have hm:=ae h;refine jZ 22 [_,_,_,_,_,_,_,_,_,_,_,_,_,.r 13 ((QL w.heap.size (eB H.ma.st x.f x.i) (eH H.ma.st x.f x.i) (dG H.ma.st x.f x.i))),.r 14 ((QL w.heap.size (eB H.ma.st x.f x.i) (eH H.ma.st x.f x.i) (dG H.ma.st x.f x.i))),.r 15 ((Nc w.heap.size (eB H.ma.st x.f x.i))),.v (.int .i64 (eH H.ma.st x.f x.i)),.v (.int .i64 (dG H.ma.st x.f x.i)),.r 18 ((iM w.heap.size 41 2)),.y 19 ((KJ 18 w.heap.size 41 (Nc w.heap.size (eB H.ma.st x.f x.i)))),.v (.int .i64 (eH H.ma.st x.f x.i)),.v (.int .i64 (dG H.ma.st x.f x.i))] (λW=>Below w.heap.size w W) dR (Below.refl _ _) (Yk dR rfl (Yk dR rfl (Yf dR b 0 rfl rfl (Yf dR b 7 rfl rfl (Yr dR (.agg #[.slice H.ai H.fi.length H.ci,.int .i64 H.ct]) (λρ y W A hH=>(bF rfl (aI rfl hH) (h.below A).rdS underlying41 rfl store_size)) rfl rfl (Yk dR rfl (Yk dR rfl (Yf dR g (off+f*13+11) rfl rfl (Yc dR (.int .i64 x.f) (λW A=>by simp[(hi.ext A).cell,q11]) rfl rfl rfl rfl (Yk dR rfl (Yk dR rfl (Yf dR g (off+f*13+12) rfl rfl (Yc dR (.int .i64 x.i) (λW A=>by simp[(hi.ext A).cell,q12]) rfl rfl rfl rfl (ah ?_ (ah ?_ (ah ?_ (ah ?_ (ah ?_ (ah ?_ (ah ?_ (Yk dR rfl (Yk dR rfl (aF))))))))))))))))))))))) (λ_=>rfl) rfl ?_
  ·intro ρ y W C I A hd;refine iT dR A ((QL w.heap.size (eB H.ma.st x.f x.i) (eH H.ma.st x.f x.i) (dG H.ma.st x.f x.i))) (λ_ _ h=>h) ?_;have kT:=C 35 4 rfl;have h4:y 4 = .agg #[.slice H.ai H.fi.length H.ci,.int .i64 H.ct]:=hd 4 rfl;have kS:=C 39 8 rfl;have h8:y 8 = .int .i64 x.f:=hd 8 rfl;have kR:=C 43 12 rfl;have h3:y 12 = .int .i64 x.i:=hd 12 rfl;have EF:∀f,ρ (.func f) = .func (.func f) #[] #[]:=λf=>I (.func f) trivial;refine aO _ _ (aj rfl) (aT rfl (EF _) func192 (by kernel_rfl) (by kernel_rfl) (by simp only[bX,bR,aY,kT,h4,kS,h8,kR,h3,EF];rfl)) ?_;refine (Mq H.fi H.ct x.f x.i H.ai H.ci W (h.below A).ma.rd.st h.ma.c64).mono ?_;rintro r D ⟨u,E,k,rfl,S,hB,kF⟩;exact⟨_,rfl,kF,u,E,k,rfl,S.mono A.size,hB⟩
  ·intro ρ y W C I A hd;refine iT dR A ((QL w.heap.size (eB H.ma.st x.f x.i) (eH H.ma.st x.f x.i) (dG H.ma.st x.f x.i))) (λ_ _ h=>h) ?_;have kQ:=C 44 13 rfl;have kI:=hd 13 rfl;refine ak _ (aj rfl) (run_move (.inl rfl) kQ) ?_;exact kI
  ·intro ρ y W C I A hd;refine iT dR A ((Nc w.heap.size (eB H.ma.st x.f x.i))) (λ_ _ h=>h) ?_;have hI:=C 30 14 rfl;have hp:=hd 14 rfl;obtain⟨u,E,k,R,S,hB⟩:=hp;refine ak (.agg #[u,.int .i64 k]) (aj rfl) (by simp[execOp,go_sem,bT,hI,R]) ?_;exact⟨u,E,k,rfl,S,hB⟩
  ·intro ρ y W C I A hd;refine iT dR A (mV (.int .i64 (eH H.ma.st x.f x.i))) (λ_ _ h=>h) ?_;have hI:=C 30 14 rfl;have hp:=hd 14 rfl;obtain⟨u,E,k,R,S,hB⟩:=hp;refine ak (.int .i64 (eH H.ma.st x.f x.i)) (aj rfl) (by simp[execOp,go_sem,bT,hI,R]) rfl
  ·intro ρ y W C I A hd;refine iT dR A (mV (.int .i64 (dG H.ma.st x.f x.i))) (λ_ _ h=>h) ?_;have hI:=C 30 14 rfl;have hp:=hd 14 rfl;obtain⟨u,E,k,R,S,hB⟩:=hp;refine ak (.int .i64 (dG H.ma.st x.f x.i)) (aj rfl) (by simp[execOp,go_sem,bT,hI,R]) rfl
  ·intro ρ y W C I A hd;refine iT dR A ((iM w.heap.size 41 2)) (λ_ _ h=>h) ?_;refine jc (.pointer (some ⟨W.heap.size,0,none⟩)) (aj rfl) (by simp[execOp,go_sem,bT]) ((Below.refl _ _).alloc (az _) (.cells #[.slice none 0 0,.int .i64 0] 41)) ?_;exact⟨_,_,rfl,A.size,aG.new _ _ _,rfl⟩
  ·intro ρ y W C I A hd;have E6:=C 6 18 rfl;have kG:=hd 18 rfl;have kP:=C 45 15 rfl;have kH:=hd 15 rfl;obtain⟨u,E,k,e7,ht,kg⟩:=kH;obtain⟨g3,F,e9,hF,l,hC⟩:=kG;obtain⟨K,J,rfl,_⟩:=ht.rd;refine mi (aj rfl) _ _ _ rfl g3 0 (.agg #[.slice K E.length J,.int .i64 k]) [.slice K E.length J,.int .i64 k] (E6.trans e9) (kP.trans e7) rfl F _ l (by rw[hC];exact az _) store_size (bU (uX _ _ _ _)) ?_;intro w1 hj a;rw[show [Value.slice K E.length J,Value.int .i64 k]=(#[Value.slice K E.length J,Value.int .i64 k]:Array Value).toList from rfl,gV F _ (by rw[hC];rfl)] at hj;refine⟨A.grown a A.size (λk hk=>by cases hk;exact hF),⟨g3,_,e9,hF,hj,⟨_,E,k,rfl,ht.keep l (by decide) (by decide) a,kg⟩⟩,?_⟩;intro k hk hX
   match k,hk,hX with
   | 0,_,_=>exact λh=>h
   | 1,_,_=>exact λh=>h
   | 2,_,_=>exact λh=>h
   | 3,_,_=>exact λh=>h
   | 4,_,_=>exact λh=>h
   | 5,_,_=>exact λh=>h
   | 6,_,_=>exact λh=>h
   | 7,_,_=>exact λh=>h
   | 8,_,_=>exact λh=>h
   | 9,_,_=>exact λh=>h
   | 10,_,_=>exact λh=>h
   | 11,_,_=>exact λh=>h
   | 12,_,_=>exact λh=>h
   | 13,_,_=>exact λ⟨c,O,M,L,q3,q4⟩=>⟨c,O,M,L,q3.keep l (by decide) (by decide) a,q4⟩
   | 14,_,_=>exact λ⟨c,O,M,L,q3,q4⟩=>⟨c,O,M,L,q3.keep l (by decide) (by decide) a,q4⟩
   | 15,_,_=>exact λ⟨c,O,M,L,q3,q4⟩=>⟨c,O,M,L,q3.keep l (by decide) (by decide) a,q4⟩
   | 16,_,_=>exact λh=>h
   | 17,_,_=>exact λh=>h
   | 18,_,_=>exact λq=>lc q hj (λ_=>rfl) ⟨_,l⟩ a
   | 19,_,h=>exact absurd rfl h
   | 20,_,_=>exact λh=>h
   | 21,_,_=>exact λh=>h
   | n+22,h,_=>exact absurd h (by omega)
  intro y D t ha;replace t:Below w.heap.size w D:=t;have kc:((QL w.heap.size (eB H.ma.st x.f x.i) (eH H.ma.st x.f x.i) (dG H.ma.st x.f x.i))).r (y 13) D:=ha 13 (by decide);have hA:((QL w.heap.size (eB H.ma.st x.f x.i) (eH H.ma.st x.f x.i) (dG H.ma.st x.f x.i))).r (y 14) D:=ha 14 (by decide);have hz:((Nc w.heap.size (eB H.ma.st x.f x.i))).r (y 15) D:=ha 15 (by decide);have kb:((iM w.heap.size 41 2)).r (y 18) D:=ha 18 (by decide);have ka:=ha 19 (by decide);clear ha;simp only[dh,bT,bR,aY];obtain⟨gs,cs,k1,kk,ko,us,E,ks,hL,hW,hN⟩:=ka;simp only[xU] at hL;subst hL;obtain⟨K,J,rfl,_⟩:=hW.rd;have k2:=h.below t;have s2:=(KS.refl w b H).below t;have h0:=hi.ext t;have hD:=kx.below t;have kV:=ae kk;clear kc hA hz kb hc kC kA kk
  by_cases hE:dG H.ma.st x.f x.i=0
  ·have Z:Hid (lw ⟨H.ma,e⟩ f=⟨setFr { H.ma with st:=eB H.ma.st x.f x.i,dk:=dP H.dk (eH H.ma.st x.f x.i) x.p } f { x with d:=false },jm e (aK H.dk (eH H.ma.st x.f x.i))⟩):=ae (by
    unfold lw;simp only[U.out];rw[if_neg]
    ·rfl
    rintro (q|q|q)
    ·exact h1 q
    ·rw[hd] at q;cases q
    ·exact q hE)
   have hl:Hid (lN H.ma f=true):=ae (by unfold lN;rw[U.out,hE];simp);rw[hE];clear hE;have kZ:Hid (dG H.ma.st x.f x.i=dG H.ma.st x.f x.i):=ae rfl;generalize eH H.ma.st x.f x.i=N at *
   go_upto_region 7 with (fail);refine jZ 17 [_,_,_,_,_,_,_,_,_,_,.r 10 ((CF D.heap.size (dP H.dk N x.p) (aK H.dk N))),.r 11 ((CF D.heap.size (dP H.dk N x.p) (aK H.dk N))),.r 12 ((yL D.heap.size (dP H.dk N x.p))),.v (.int .i64 (aK H.dk N)),.r 14 ((iM D.heap.size 38 2)),.y 15 ((KJ 14 D.heap.size 38 (yL D.heap.size (dP H.dk N x.p)))),.v (.int .i64 (aK H.dk N))] (λW=>Below D.heap.size D W) dR (Below.refl _ _) (Yk dR rfl (Yk dR rfl (Yf dR b 0 rfl rfl (Yf dR b 5 rfl rfl (Yr dR (.agg #[.slice H.db H.dk.blocks.length H.cdb,.slice H.dq H.dk.queue.length H.cdq]) (λρ y W A hH=>(bF rfl (aI rfl hH) (k2.below A).rdD underlying38 rfl disk_size)) rfl rfl (Yk dR rfl (Yk dR rfl (Yk dR rfl (Yf dR g (off+f*13) rfl rfl (Yr dR (.agg (fP x.p)) (λρ y W A hH=>(bF rfl (aI rfl hH) (sN (hD.below A) 0 8) underlying58 rfl psize)) rfl rfl (ah ?_ (ah ?_ (ah ?_ (ah ?_ (ah ?_ (ah ?_ (Yk dR rfl (aF)))))))))))))))))) (λ_=>rfl) rfl ?_
   ·intro ρ y W C I A hd;refine iT dR A ((CF D.heap.size (dP H.dk N x.p) (aK H.dk N))) (λ_ _ h=>h) ?_;have kO:=C 55 4 rfl;have h4:y 4 = .agg #[.slice H.db H.dk.blocks.length H.cdb,.slice H.dq H.dk.queue.length H.cdq]:=hd 4 rfl;have kN:=C 56 5 rfl;have h5:y 5 = .int .i64 N:=hd 5 rfl;have kM:=C 60 9 rfl;have h9:y 9 = .agg (fP x.p):=hd 9 rfl;have EF:∀f,ρ (.func f) = .func (.func f) #[] #[]:=λf=>I (.func f) trivial;refine aO _ _ (aj rfl) (aT rfl (EF _) func193 (by kernel_rfl) (by kernel_rfl) (by simp only[bX,bR,aY,kO,h4,kN,h5,kM,h9,EF];rfl)) ?_;refine (DZ H.dk N x.p H.db H.cdb H.dq H.cdq W (k2.below A).ma.rd.dk).mono ?_;rintro r W3 ⟨Y,X,rfl,S,kE⟩;exact⟨_,rfl,kE,Y,X,rfl,S.mono A.size⟩
   ·intro ρ y W C I A hd;refine iT dR A ((CF D.heap.size (dP H.dk N x.p) (aK H.dk N))) (λ_ _ h=>h) ?_;have kL:=C 61 10 rfl;have kJ:=hd 10 rfl;refine ak _ (aj rfl) (run_move (.inl rfl) kL) ?_;exact kJ
   ·intro ρ y W C I A hd;refine iT dR A ((yL D.heap.size (dP H.dk N x.p))) (λ_ _ h=>h) ?_;have h7:=C 50 11 rfl;have h6:=hd 11 rfl;obtain⟨Y,X,R,S⟩:=h6;refine ak (.agg #[Y,X]) (aj rfl) (by simp[execOp,go_sem,bT,h7,R]) ?_;exact⟨Y,X,rfl,S⟩
   ·intro ρ y W C I A hd;refine iT dR A (mV (.int .i64 (aK H.dk N))) (λ_ _ h=>h) ?_;have h7:=C 50 11 rfl;have h6:=hd 11 rfl;obtain⟨Y,X,R,S⟩:=h6;refine ak (.int .i64 (aK H.dk N)) (aj rfl) (by simp[execOp,go_sem,bT,h7,R]) rfl
   ·intro ρ y W C I A hd;refine iT dR A ((iM D.heap.size 38 2)) (λ_ _ h=>h) ?_;refine jc (.pointer (some ⟨W.heap.size,0,none⟩)) (aj rfl) (by simp[execOp,go_sem,bT]) ((Below.refl _ _).alloc (az _) (.cells #[.slice none 0 0,.slice none 0 0] 38)) ?_;exact⟨_,_,rfl,A.size,aG.new _ _ _,rfl⟩
   ·intro ρ y W C I A hd;have E9:=C 9 14 rfl;have hp:=hd 14 rfl;have kK:=C 62 12 rfl;have h3:=hd 12 rfl;obtain⟨Y,X,e7,ht⟩:=h3;obtain⟨g3,F,e9,hF,l,hC⟩:=hp;obtain⟨ab,cb,rfl,_⟩:=ht.b.rd;obtain⟨aq,cq,rfl,_⟩:=ht.q.rd;refine mi (aj rfl) _ _ _ rfl g3 0 (.agg #[.slice ab _ cb,.slice aq _ cq]) [.slice ab _ cb,.slice aq _ cq] (E9.trans e9) (kK.trans e7) rfl F _ l (by rw[hC];exact az _) disk_size (bU (xD _ _ _ _ _ _)) ?_;intro w1 hj a;rw[show ∀(p q:Value),[p,q]=(#[p,q]:Array Value).toList from λ_ _=>rfl,gV F _ (by rw[hC];rfl)] at hj;refine⟨A.grown a A.size (λk hk=>by cases hk;exact hF),⟨g3,_,e9,hF,hj,⟨_,_,rfl,ht.keep l (by decide) (by decide) a⟩⟩,?_⟩;intro k hk hX
    match k,hk,hX with
    | 0,_,_=>exact λh=>h
    | 1,_,_=>exact λh=>h
    | 2,_,_=>exact λh=>h
    | 3,_,_=>exact λh=>h
    | 4,_,_=>exact λh=>h
    | 5,_,_=>exact λh=>h
    | 6,_,_=>exact λh=>h
    | 7,_,_=>exact λh=>h
    | 8,_,_=>exact λh=>h
    | 9,_,_=>exact λh=>h
    | 10,_,_=>exact λ⟨c,O,M,L⟩=>⟨c,O,M,L.keep l (by decide) (by decide) a⟩
    | 11,_,_=>exact λ⟨c,O,M,L⟩=>⟨c,O,M,L.keep l (by decide) (by decide) a⟩
    | 12,_,_=>exact λ⟨c,O,M,L⟩=>⟨c,O,M,L.keep l (by decide) (by decide) a⟩
    | 13,_,_=>exact λh=>h
    | 14,_,_=>exact λq=>lc q hj (λ_=>rfl) ⟨_,l⟩ a
    | 15,_,h=>exact absurd rfl h
    | 16,_,_=>exact λh=>h
    | n+17,h,_=>exact absurd h (by omega)
   intro y W3 s z;replace s:Below D.heap.size D W3:=s;have kf:((CF D.heap.size (dP H.dk N x.p) (aK H.dk N))).r (y 10) W3:=z 10 (by decide);have ke:((CF D.heap.size (dP H.dk N x.p) (aK H.dk N))).r (y 11) W3:=z 11 (by decide);have kd:((yL D.heap.size (dP H.dk N x.p))).r (y 12) W3:=z 12 (by decide);have hA:((iM D.heap.size 38 2)).r (y 14) W3:=z 14 (by decide);have hz:=z 15 (by decide);clear z;simp only[dh,bT,bR,aY];obtain⟨gd,cd,k7,k9,kp,Y,X,hM,hJ⟩:=hz;simp only[xU] at hM;subst hM;obtain⟨ab,cb,rfl,_⟩:=hJ.b.rd;obtain⟨aq,cq,rfl,_⟩:=hJ.q.rd;have k3:=k2.below s;have s3:=s2.below s;have hS:=ko.ext s;have hR:=hW.below s;have kw:=ae s2.size;have ki:=hD.below s;clear kf ke kd hA k2 s2 h0 ko hW s hD
   go_wp2_with fail
   refine (rZ _ e (aK H.dk N) _ _ _ k3).mono ?_;rintro r w4 ⟨rfl,V,hv⟩;have s4:=s3.putB hv rfl rfl rfl;have hP:=hJ.keep k3.blk (by decide) (by decide) hv;have hQ:=hR.keep k3.blk (by decide) (by decide) hv;have hr:=bZ hS k3.blk (by decide) hv;have hs:=bZ kp k3.blk (by decide) hv;clear k3 s3 hJ hR hS kp hv ki;have kn:=V.blk.cell;have kB:=V.blk.free;unfold qR at kn;have hL:=hr.cell;have hM:=hs.cell;have n1:=lX V.blk hr (by decide);have n2:=lX V.blk hs (by decide);have n3:=lX hr hs (by decide);go_upto_region 9 with (fail)
   go_region
   refine QY (w:=w4.setCells b 7 [.slice K E.length J,.int .i64 ks]) (b:=b) (o:=5) (vs:=[.slice ab (dP H.dk N x.p).blocks.length cb,.slice aq (dP H.dk N x.p).queue.length cq]) (λW=>Exit.then _ _ _ _ W) λw6 hY kr => ?_;have km : -9223372036854775808<=ks/\ks<=9223372036854775807:=by
    have e1:ks=(eB H.ma.st x.f x.i).count:=by rw[<-hN];rfl
    have e2:=h.ma.c64;have e3:H.ma.st.count=H.ct:=rfl;rcases JE H.ma.st x.f x.i with e4|e4<;>rw[e1,e4]<;>omega
   have hK:=aC w4 b 7 [.slice K E.length J,.int .i64 ks];have kt:=V.blk.setCells [.slice K E.length J,.int .i64 ks] 7;have k5:=V.setS (hQ.mono h.bs) km kt hK;have s5:=s4.putB (H':={ H with ai:=K,ci:=J,fi:=E,ct:=ks }) hK rfl rfl rfl;have hO:=hP.keep V.blk (by decide) (by decide) hK;have hT:=kr k5.blk;have k6:=k5.setD (hO.mono (bi h.bs kw.out)) hT hY;have s6:=s5.putB (H':={ H with ai:=K,ci:=J,fi:=E,ct:=ks,db:=ab,cdb:=cb,dq:=aq,cdq:=cq,dk:=dP H.dk N x.p }) hY rfl rfl rfl;clear kr hT hY k5 s5 hO kt hK km V s4 hP hQ kn kB hL hM hr hs;obtain⟨g7,G,cur7,ku,k0,hZ,kz,kU,hU,kX,hV⟩:=k6.frame hf;have ky:g7=g/\G=off:=by have:H.af=some ⟨g7,G,none⟩:=ku;rw[h2] at this;simp only[jr,ui,and_true] at this;exact⟨this.1.symm,this.2.symm⟩
   obtain⟨rfl,rfl⟩:=ky;have kv:aD (MH.ma { H with ai:=K,ci:=J,fi:=E,ct:=ks,db:=ab,cdb:=cb,dq:=aq,cdq:=cq,dk:=dP H.dk N x.p }) f=x:=U.out;rw[kv] at hU;have kj:=putAt_one (v:=.bool false) (j:=10) hU (by rw[fJ];decide)
   go_wp2_with (refine aB rfl _ _ _ rfl g7 (G+f*13+10) _ [.bool false] rfl rfl rfl _ _ hZ (by simp;omega) vX (λu R=>by cases bC.1 R;rfl) ?_)
   intro w8 kD kl;have kq : aG w8 g7 (bI cur7 (G+f*13) (pG { x with d:=false })) 66:=by have e1:pG { x with d:=false }=(pG x).set 10 (.bool false):=rfl;rw[e1,kj];exact kD
   have k8:=hV w8 { x with d:=false } kq kl;have s8:=s6.put (H':={ H with ai:=K,ci:=J,fi:=E,ct:=ks,db:=ab,cdb:=cb,dq:=aq,cdq:=cq,dk:=dP H.dk N x.p,m:=⟨H.m.fs.set f { x with d:=false },H.m.hand⟩ }) kl (.inr (.inl (by show oB H.af=_;rw[h2];rfl))) λy hy => .inl (Dw rfl rfl rfl hy);go_wp2;go_ret;rw[Z.out,hl.out];refine⟨rfl,_,_,k8,s8,?_⟩;unfold MH.ma setFr;simp only[hN];rfl
  have Z:Hid (lw ⟨H.ma,e⟩ f=⟨H.ma,e⟩):=ae (by unfold lw;simp only[U.out];rw[if_pos (.inr (.inr hE))]);have hl:Hid (lN H.ma f=false):=ae (by unfold lN;rw[U.out];simp only[DF,decide_eq_false_iff_not,Bool.not_eq_false'];exact⟨⟨h1,hd⟩,hE⟩);go_wp2;go_ret;rw[Z.out,hl.out];exact⟨rfl,_,_,k2,s2,rfl⟩
def qM (s:St) (f i:Int):Prop:=(0<=f/\f<s.fs.length)/\0<=i/\i<(aS s f).b.length
theorem kI {s:St} {F:Nat} {x:Fi} (h:s.fs[F]?=some x):aS s F=x:=by
 unfold aS;rw[if_pos (by omega),bA,aX,h];rfl
theorem zY {s:St} {f:Int} (h:0<=f/\f<s.fs.length):s.fs[f.toNat]?=some (aS s f):=by
 unfold aS;rw[if_pos h.1,aX,aH (by omega)];rfl
theorem rT {s:St} {f i:Int} (h:qM s f i):(aS s f).b[i.toNat]?=some (bM s f i):=by
 unfold bM;rw[aX,aH (by have:=h.2;omega)];rfl
theorem uY {s:St} {f i:Int} (h:qM s f i):bM s f i∈lK s:=
 kT.2 ⟨_,bV (zY h.1),bV (rT h)⟩
theorem Ky {s:St} {x:Int} (h:x∈lK s):∃f i,qM s f i/\bM s f i=x:=by
 obtain⟨fi,z,h2⟩:=kT.1 h;obtain⟨F,y,rfl⟩:=jI.1 z;obtain⟨I,u,rfl⟩:=jI.1 h2;have j:aS s F=s.fs[F]:=kI (aH y);have a:qM s F I:=⟨by omega,by omega,by rw[j];omega⟩;refine⟨F,I,a,?_⟩;have:=rT a;rw[j,bA,aH u] at this;exact (aM this).symm
theorem posB_inj:∀ {l:List Int} {I J:Nat} {v:Int},(lm l).Nodup->l[I]?=some v->l[J]?=some v->0<=v->I=J
 | [],_,_,_,_,h,_,_=>by simp at h
 | a::l,0,0,_,_,_,_,_=>rfl
 | a::l,0,J+1,v,hn,h1,h2,h0=>by simp only[qQ,jr] at h1;subst h1;rw[IE h0] at hn;exact ((tF.1 hn).1 (jH.2 ⟨bV (by simpa using h2:l[J]?=some a),h0⟩)).elim
 | a::l,I+1,0,v,hn,h1,h2,h0=>by simp only[qQ,jr] at h2;subst h2;rw[IE h0] at hn;exact ((tF.1 hn).1 (jH.2 ⟨bV (by simpa using h1:l[I]?=some a),h0⟩)).elim
 | a::l,I+1,J+1,v,hn,h1,h2,h0=>by
  have:(lm l).Nodup:=by have j:(lm l).Sublist (lm (a::l)):=(List.sublist_cons_self a l).filter _;exact hn.sublist j
  have u:=posB_inj (I:=I) (J:=J) this (by simpa using h1) (by simpa using h2) h0;omega
theorem flat_inj:∀ {fs:List Fi} {F G I J:Nat} {x y:Fi} {v:Int},(lm (fs.flatMap Fi.b)).Nodup->fs[F]?=some x->fs[G]?=some y->x.b[I]?=some v->y.b[J]?=some v->0<=v->F=G/\I=J
 | [],_,_,_,_,_,_,_,_,h,_,_,_,_=>by simp at h
 | a::fs,F,G,I,J,x,y,v,hn,hF,hG,hI,hJ,h0=>by
  rw[nX,vo,ym] at hn;obtain⟨z,u,j⟩:=hn;cases F with
  | zero=>
   simp only[qQ,jr] at hF;subst hF;cases G with
   | zero=>
    simp only[qQ,jr] at hG;subst hG;exact⟨rfl,posB_inj z hI hJ h0⟩
   | succ G=>
    exact absurd rfl (j v (jH.2 ⟨bV hI,h0⟩) v (jH.2 ⟨kT.2 ⟨y,bV (by simpa using hG),bV hJ⟩,h0⟩))
  | succ F=>
   cases G with
   | zero=>
    simp only[qQ,jr] at hG;subst hG;exact absurd rfl (j v (jH.2 ⟨bV hJ,h0⟩) v (jH.2 ⟨kT.2 ⟨x,bV (by simpa using hF),bV hI⟩,h0⟩))
   | succ G=>
    obtain⟨C,A⟩:=flat_inj u (by simpa using hF) (by simpa using hG) hI hJ h0;exact⟨by omega,A⟩
theorem MX {s:St} (h:aR s=0) {f i g j:Int} (u:qM s f i) (h2:qM s g j) (A:0<=bM s f i) (z:bM s f i=bM s g j):f=g/\i=j:=by
 have y:=(mF.1 h).2.2;obtain⟨D,C⟩:=flat_inj y (zY u.1) (zY h2.1) (rT u) (by rw[z];exact rT h2) A;have:=u.1;have:=u.2;have:=h2.1;have:=h2.2;omega
theorem wh {s:St} (h:aR s=0) {f:Int} (j:0<=f/\f<s.fs.length):EP s.count (aS s f):=(mF.1 h).2.1 _ (bV (zY j))
theorem block_lt {s:St} (h:aR s=0) {f i:Int} (j:qM s f i) : -1<=bM s f i/\bM s f i<s.count:=
 (wh h j.1).2.2.2 _ (bV (rT j))
theorem zm {s:St} (h:aR s=0) {f i:Int} (j:qM s f i):f<5/\i<12/\i*8<(aS s f).n/\(aS s f).n<=96:=by
 have z:=(mF.1 h).1;obtain⟨C,A,y,_⟩:=wh h j.1;have h2:=j.1;have u:=j.2;rw[y] at u;unfold eY at u;split at u<;>omega
structure Blocked (s s' : St) (f i b:Int):Prop where
 right:aR s' = 0
 count:s'.count=s.count
 len:s'.fs.length=s.fs.length
 size:∀g,(aS s' g).n=(aS s g).n
 lenb:∀g,(aS s' g).b.length=(aS s g).b.length
 at_:bM s' f i=b
 other:∀g j,0<=j->¬(g=f/\j=i)->bM s' g j=bM s g j
 b0:0<=b
 bc:b<s.count
 used:∀x,0<=x->(x∈lK s'↔x=b\/x∈lK s)
 was:(bM s f i=b/\s' = s)\/(bM s f i<0/\b ∉ lK s/\za s' = za s-1)
theorem qM.same {s:St} {f i:Int} (h:qM s f i) (j:s'.fs.length=s.fs.length) (h2:∀g,(aS s' g).b.length=(aS s g).b.length):qM s' f i:=⟨by rw[j];exact h.1,by rw[h2];exact h.2⟩
theorem blocked {s:St} {f i:Int} (h:dG s f i=0):qM s f i/\Blocked s (eB s f i) f i (eH s f i):=by
 have K:=JR h;obtain⟨H,F,I,x,v,rfl,rfl,O,L,t,m,R⟩:=Cq h;have Z:=(cz.1 O).1;have S:=(cz.1 L).1;have r:qM s F I:=⟨by omega,by omega,by rw[t];omega⟩;refine⟨r,?_⟩;have J:=block_lt H r;rcases R with ⟨C,A,G⟩|⟨N,C,G,A⟩
 ·rw[A,G];rw[m] at J;exact⟨H,rfl,rfl,λ_=>rfl,λ_=>rfl,m,λ_ _ _ _=>rfl,C,J.2,λy _=>⟨.inr,λh=>h.elim (λe=>by rw[e,<-m];exact uY r) id⟩,.inl ⟨m,rfl⟩⟩
 obtain⟨z,M⟩:=Hu C;have w:=IQ M;have a:=K.2.2.2.2;rw[m] at a;have a:za (eB s F I)=za s-1:=by
  rcases a with ⟨e,_⟩|⟨_,_,e⟩
  ·omega
  ·exact e
 have o:=K.1;rw[A] at o a;rw[A,G];generalize hs' : (⟨s.fs.set F ⟨x.n,x.b.set I (iy s)⟩,s.count⟩:St)=s' at *
 have k:∀g,aS s' g=if g=F then ⟨x.n,x.b.set I (iy s)⟩ else aS s g:=by
  intro g;rw[<-hs'];unfold aS;simp only
  by_cases D:0<=g
  ·rw[if_pos D,if_pos D,aX,nR]
   by_cases e:g=F
   ·rw[if_pos e,if_pos (by omega),if_pos (by omega)];rfl
   ·rw[if_neg e,if_neg (by omega),aX]
  ·rw[if_neg D,if_neg D,if_neg (by omega)]
 have p:s'.fs.length=s.fs.length:=by rw[<-hs'];exact bK
 have d:∀g,(aS s' g).b.length=(aS s g).b.length:=by
  intro g;rw[k]
  by_cases e:g=F
  ·rw[if_pos e,e,t];exact bK
  ·rw[if_neg e]
 have u:bM s' F I=iy s:=by unfold bM;rw[k,if_pos rfl,bA,aX,vO S];rfl
 have q:∀g j,0<=j->¬(g=(F:Int)/\j=(I:Int))->bM s' g j=bM s g j:=by
  intro g j X Y;unfold bM;rw[k]
  by_cases e:g=F
  ·rw[if_pos e,e,t];simp only;rw[aX,um (by omega),aX]
  ·rw[if_neg e]
 refine⟨o,by rw[<-hs'],p,λg => ?_,d,u,q,C,z,λy W => ?_,.inr ⟨by rw[m];exact N,w,a⟩⟩
 ·rw[k]
  by_cases e:g=F
  ·rw[if_pos e,e,t]
  ·rw[if_neg e]
 constructor
 ·intro E;obtain⟨g,j,c,l⟩:=Ky E
  by_cases e:g=(F:Int)/\j=(I:Int)
  ·rw[e.1,e.2,u] at l;exact .inl l.symm
  rw[q g j c.2.1 e] at l;refine .inr ?_;rw[<-l];exact uY ⟨by rw[<-p];exact c.1,by rw[<-d];exact c.2⟩
 rintro (e|E)
 ·rw[e,<-u];exact uY (r.same p d)
 obtain⟨g,j,c,l⟩:=Ky E;have e:¬(g=(F:Int)/\j=(I:Int)):=by rintro⟨V,U⟩;rw[V,U,m] at l;omega
 rw[<-l,<-q g j c.2.1 e];exact uY (c.same p d)
def fM (m:Ma) (p:Nat) (n:Int):Option Pg:=onA (dD m p).ar n
def Cy (a b:Cc):Prop:=a.f<b.f\/a.f=b.f/\a.i<b.i
def ML (x:Fr) (g:Pg) (w:Bool):Prop:=
 (0<=x.f->x.f=g.fi/\x.i=g.pg)/\(g.sh=true->0<=x.f)/\(w=true->g.wr=true)/\(w=true->0<=x.f->g.sh=true)/\(w=true->x.f<0->x.r<=1)
structure RO (m:Ma) (g:Pg) (e:En):Prop where
 sw:e.k=2->e.n<m.sl.length/\g.sh=false
 lt:e.k=1->e.n<m.m.fs.length
 fr:e.k=1->ML (aD m e.n.toNat) g e.w
structure uB (m:Ma):Prop where
 file:∀c∈m.ca,qM m.st c.f c.i
 lt:∀c∈m.ca,0<=c.k/\c.k<m.m.fs.length
 fr:∀c∈m.ca,1<=(aD m c.k.toNat).r/\(aD m c.k.toNat).f=c.f/\(aD m c.k.toNat).i=c.i
 srt:m.ca.Pairwise Cy
def sZ (m:Ma) (i:Int):Nat:=m.ca.countP λc=>decide (c.k=i)
structure Rt (m:Ma):Prop where
 pt:Pt m
 trim:(∀b:Int,0<=b->b<m.dk.blocks.length->b∈lK m.st\/m.dk.blocks.getD b.toNat zPg=zPg)/\∀q∈m.dk.queue,q.1∈lK m.st
 live:∀p,(dD m p).lv=false->(dD m p).ar=[]/\∀n,(ent m p n).k=0
 ca:uB m
 en:∀p n,(ent m p n).k≠0->∃g,fM m p n=some g/\RO m g (ent m p n)
 cf:∀i:Nat,i<m.m.fs.length->(aD m i).r=sZ m i+bO m 1 i
 fc:∀i:Nat,i<m.m.fs.length->0<=(aD m i).f->∃c∈m.ca,c.k=i
 cs:∀s:Nat,s<m.sl.length->jT m s=bO m 2 s
structure Co (m:Ma):Prop where
 tail:∀c∈m.ca,dn (aD m c.k.toNat).p ((aS m.st c.f).n-c.i*8)=(aD m c.k.toNat).p
 clean:∀c∈m.ca,(aD m c.k.toNat).d=false->(aD m c.k.toNat).p=dx m c.f c.i
 anon:∀i:Nat,i<m.m.fs.length->(aD m i).d=true->0<=(aD m i).f
def kQ (m:Ma) (p:Nat) (n:Int):Page × Bool × Int:=
 match fM m p n with
 | none=>(zPg,false,5)
 | some g=>
  if (ent m p n).k=1 then ((jD m (ent m p n).n).p,decide ((jD m (ent m p n).n).f<0),0)
  else if (ent m p n).k=2 then (dL m.sw (ent m p n).n,true,aK m.sw (ent m p n).n)
  else if g.fi<0 then (zPg,false,0)
  else if (m.st.fs.length:Int)<=g.fi\/qF m.st g.fi g.pg=true then (zPg,false,9)
  else (bq m g.fi g.pg,false,0)
structure FE (m m' : Ma):Prop where
 sk:iA m m'
 files:m'.st.fs.length=m.st.fs.length
 size:∀f,(aS m'.st f).n=(aS m.st f).n
 lenb:∀f,(aS m'.st f).b.length=(aS m.st f).b.length
 see:∀p n,kQ m' p n=kQ m p n
 con:∀f i,qM m.st f i->bq m' f i=bq m f i
theorem FE.refl (m:Ma):FE m m:=⟨.refl m,rfl,λ_=>rfl,λ_=>rfl,λ_ _=>rfl,λ_ _ _=>rfl⟩
theorem FE.trans {a b c:Ma} (h:FE a b) (k:FE b c):FE a c:=
 ⟨h.sk.trans k.sk,k.files.trans h.files,λf=>(k.size f).trans (h.size f),λf=>(k.lenb f).trans (h.lenb f),λp n=>(k.see p n).trans (h.see p n),λf i j=>(k.con f i (j.same h.files h.lenb)).trans (h.con f i j)⟩
theorem Ih (a:Cc):¬Cy a a:=λh=>by unfold Cy at h;omega
theorem srt_eq:∀ {l:List Cc},l.Pairwise Cy->∀ {a b:Cc},a∈l->b∈l->a.f=b.f->a.i=b.i->a=b
 | [],_,_,_,h,_,_,_=>by cases h
 | c::l,hs,a,b,ha,hb,e1,e2=>by
  obtain⟨j,h2⟩:=ut.1 hs;rcases dw.1 ha with e|ha<;>rcases dw.1 hb with e' | hb
  ·rw[e,e']
  ·have:=j b hb;rw[e] at e1 e2;unfold Cy at this;omega
  ·have:=j a ha;rw[e'] at e1 e2;unfold Cy at this;omega
  ·exact srt_eq h2 ha hb e1 e2
theorem uB.uniq (h:uB m) {a b:Cc} (y:a∈m.ca) (u:b∈m.ca) (z:a.k=b.k):a=b:=by
 have j:=h.fr a y;have h2:=h.fr b u;rw[z] at j;exact srt_eq h.srt y u (j.2.1.symm.trans h2.2.1) (j.2.2.symm.trans h2.2.2)
theorem Bq {k:Int}:∀ {l:List Cc},l.Pairwise Cy->(∀a∈l,∀b∈l,a.k=b.k->a=b)->l.countP (λc=>decide (c.k=k))<=1
 | [],_,_=>aZ _
 | c::l,hs,hu=>by
  obtain⟨A,h2⟩:=ut.1 hs;have C:=Bq (k:=k) h2 (λa z b y=>hu a (jV _ z) b (jV _ y));rw[uD]
  by_cases j:c.k=k
  ·rw[if_pos (by simpa using j)];have:l.countP (λc=>decide (c.k=k))=0:=by rw[xK];intro d u h;have e:=hu c iL d (jV _ u) (by rw[j];exact (of_decide_eq_true h).symm);have:=A d u;rw[<-e] at this;exact Ih _ this
   omega
  ·rw[if_neg (by simpa using j)];omega
theorem uB.one (h:uB m) {c:Cc} (j:c∈m.ca):sZ m c.k=1:=by
 have z:=Bq (k:=c.k) h.srt (λa y b u=>h.uniq y u);have h2:0<m.ca.countP (λd=>decide (d.k=c.k)):=yg.2 ⟨c,j,by simp⟩;unfold sZ;omega
theorem uB.none {i:Int} (h:∀c∈m.ca,c.k≠i):sZ m i=0:=by
 unfold sZ;rw[xK];intro c u j;exact h c u (of_decide_eq_true j)
theorem yo {f i:Int} {c:Cc}:BB f i c=true↔f<c.f\/c.f=f/\i<=c.i:=by unfold BB;simp
theorem Bb (l:List Cc) (f i:Int):sH l f i<=l.length:=by
 unfold sH;cases h:l.findIdx? (BB f i) with
 | none=>exact az _
 | some k=>exact qZ (rD.1 h).1
theorem Jo {l:List Cc} (A:l.Pairwise Cy) {f i:Int}:JH l f i=true↔∃c∈l,c.f=f/\c.i=i:=by
 unfold JH;constructor
 ·intro h;cases hc:l[sH l f i]? with
  | none=>rw[hc] at h;cases h
  | some c=>
   rw[hc] at h;simp only[dU,decide_eq_true_eq] at h;exact⟨c,bV hc,h⟩
 rintro⟨c,hc,u,h2⟩;obtain⟨j,C,rfl⟩:=jI.1 hc;unfold sH;cases h:l.findIdx? (BB f i) with
 | none=>
  have:=vB.1 h _ hc;rw[Iz] at this;exact absurd (yo.2 (.inr ⟨u,by omega⟩)) this
 | some k=>
  obtain⟨y,z,b⟩:=rD.1 h;have d:¬j<k:=λa=>b j a (yo.2 (.inr ⟨u,by omega⟩));have z:=yo.1 z;have:k=j:=by
   rcases fQ k j with a|D
   ·have:=zP.1 A k j y C a;unfold Cy at this;omega
   ·omega
  subst this;simp only[qc,aH y,u,h2,decide_true,Bool.and_self]
theorem Jr {l:List Cc} {f i:Int} (h:JH l f i=true):∃c,l[sH l f i]?=some c/\c.f=f/\c.i=i:=by
 unfold JH at h;cases hc:l[sH l f i]? with
 | none=>rw[hc] at h;cases h
 | some c=>
  rw[hc] at h;simp only[dU,decide_eq_true_eq] at h;exact⟨c,rfl,h⟩
def uu (m:Ma) (f i:Int):Option Cc:=m.ca.find? λc=>decide (c.f=f)&&decide (c.i=i)
theorem Pb (h:uB m) {c:Cc} (u:c∈m.ca):uu m c.f c.i=some c:=by
 cases hl:uu m c.f c.i with
 | none=>
  have:=qI.1 hl c u;simp at this
 | some d=>
  have j:=uj hl;simp only[dU,decide_eq_true_eq] at j;rw[srt_eq h.srt (rC hl) u j.1 j.2]
theorem Qv {f i:Int} (h:∀c∈m.ca,¬(c.f=f/\c.i=i)):uu m f i=none:=by
 unfold uu;rw[qI];intro c u j;simp only[dU,decide_eq_true_eq] at j;exact h c u j
theorem pM (m:Ma) (f i:Int):(∃c,uu m f i=some c/\c∈m.ca/\c.f=f/\c.i=i)\/(uu m f i=none/\∀c∈m.ca,¬(c.f=f/\c.i=i)):=by
 cases hl:uu m f i with
 | none=>
  refine .inr ⟨rfl,λc u j => ?_⟩;have:=qI.1 hl c u;simp only[dU,decide_eq_true_eq] at this;exact this j
 | some d=>
  have h:=uj hl;simp only[dU,decide_eq_true_eq] at h;exact .inl ⟨d,rfl,rC hl,h⟩
theorem pQ (m:Ma) (f i:Int):bq m f i=match uu m f i with
  | some c=>(jD m c.k).p
  | none=>dx m f i:=rfl
theorem iE (h:uB m) {c:Cc} (j:c∈m.ca):bq m c.f c.i=(aD m c.k.toNat).p:=by
 rw[pQ,Pb h j];rfl
theorem gG {f i:Int} (h:∀c∈m.ca,¬(c.f=f/\c.i=i)):bq m f i=dx m f i:=by
 rw[pQ,Qv h]
theorem zJ (k:Nat):jD m (k:Int)=aD m k:=rfl
theorem JA {l:List Ar} (h:0<=gU l n):onA l n=some (kN (l.getD (gU l n).toNat zAr) n)/\pF n (l.getD (gU l n).toNat zAr)=true:=by
 induction l with
 | nil=>unfold gU idx at h;simp at h
 | cons a r ih=>
  rw[dm]
  by_cases j:pF n a=true
  ·have y:gU (a::r) n=0:=by unfold gU idx;rw[zZ,if_pos j];rfl
   rw[y,if_pos j];exact⟨rfl,j⟩
  have u:gU (a::r) n=if 0<=gU r n then gU r n+1 else -1:=by
   unfold gU idx;rw[zZ,if_neg j];cases r.findIdx? (pF n) with
   | none=>rfl
   | some k=>
    simp only[ru];rw[if_pos (by omega)];rfl
  rw[if_neg j]
  by_cases h2:0<=gU r n
  ·rw[u,if_pos h2];have e:(gU r n+1).toNat=(gU r n).toNat+1:=by omega
   rw[e];exact ih h2
  rw[u,if_neg h2] at h;omega
def vK (m:Ma) (g:Pg) (e:En):Page × Bool × Int:=
 if e.k=1 then ((jD m e.n).p,decide ((jD m e.n).f<0),0)
 else if e.k=2 then (dL m.sw e.n,true,aK m.sw e.n)
 else if g.fi<0 then (zPg,false,0)
 else if (m.st.fs.length:Int)<=g.fi\/qF m.st g.fi g.pg=true then (zPg,false,9)
 else (bq m g.fi g.pg,false,0)
theorem jB {g:Pg} (h:fM m p n=some g):kQ m p n=vK m g (ent m p n):=by
 unfold kQ;rw[h];rfl
theorem rP (h:fM m p n=none):kQ m p n=(zPg,false,5):=by
 unfold kQ;rw[h]
theorem pg_in:∀ {l:List Ar} {u:Int} {n:Int} {g:Pg},srtF u l->onA l n=some g->0<=g.pg/\g.pg<12/\-1<=g.fi/\g.fi<5/\(g.fi<0->g.sh=false/\g.pg=0)/\0<=n/\n<64
 | [],_,_,_,_,h=>by cases h
 | a::r,u,n,g,hs,h=>by
  rw[dm] at h
  by_cases j:pF n a=true
  ·rw[if_pos j] at h;have E:=dN.1 j;have h2:=hs.1;unfold aV at h2;split at h2
   ·cases h2
   split at h2
   ·cases h2
   rename_i D y;cases h;unfold kN;simp only;have A:¬(a.fi<0/\(a.ba≠0\/a.sh=true)):=λh=>y (.inl h);have C:¬(0<=a.fi/\12-(a.en-a.fr)<a.ba):=λh=>y (.inr h);refine⟨?_,?_,by omega,by omega,λz=>⟨?_,if_neg (by omega)⟩,by omega,by omega⟩
   ·split<;>omega
   ·split<;>omega
   cases hsh:a.sh with
   | false=>rfl
   | true=>exact absurd ⟨z,.inr hsh⟩ A
  rw[if_neg j] at h;exact pg_in hs.2.2 h
theorem Pt.pg (h:Pt m) {g:Pg} (j:fM m p n=some g):0<=g.pg/\g.pg<12/\-1<=g.fi/\g.fi<5/\(g.fi<0->g.sh=false/\g.pg=0)/\0<=n/\n<64:=
 pg_in (nG (jM.1 (h.arN p)).2) j
theorem Ie {s:St} (h:aR s=0) {f i:Int} (z:0<=f) (u:0<=i) (j:¬((s.fs.length:Int)<=f\/qF s f i=true)):qM s f i:=by
 have A:¬(s.fs.length:Int)<=f:=λh=>j (.inl h);have h2:¬qF s f i=true:=λh=>j (.inr h);have y:=(wh h (f:=f) (by omega)).2.2.1;refine⟨by omega,u,?_⟩;rw[y];unfold qF at h2;simpa using h2
theorem wo {s:St} (h:aR s=0) {f i:Int} (j:qM s f i):¬((s.fs.length:Int)<=f\/qF s f i=true):=by
 have z:=(wh h j.1).2.2.1;have y:=j.1;have u:=j.2;rintro (h|h)
 ·omega
 unfold qF at h;have:=of_decide_eq_true h;omega
structure mf (s s' : St):Prop where
 len:s'.fs.length=s.fs.length
 size:∀f,(aS s' f).n=(aS s f).n
 lenb:∀f,(aS s' f).b.length=(aS s f).b.length
theorem mf.refl (s:St):mf s s:=⟨rfl,λ_=>rfl,λ_=>rfl⟩
theorem mf.of {s:St} (h:s' = s):mf s s':=by subst h;exact .refl _
theorem OT {s:St} (h:mf s s') (f i:Int):qF s' f i=qF s f i:=by unfold qF;rw[h.size]
theorem qz {g:Pg} {e:En} (A:aR m.st=0) (C:0<=g.pg) (y:mf m.st m'.st) (D:∀f i,qM m.st f i->bq m' f i=bq m f i)
 (z:e.k=1->(jD m' e.n).p=(jD m e.n).p/\(jD m' e.n).f=(jD m e.n).f) (h2:e.k=2->dL m'.sw e.n=dL m.sw e.n/\aK m'.sw e.n=aK m.sw e.n):vK m' g e=vK m g e:=by
 unfold vK
 by_cases k1:e.k=1
 ·rw[if_pos k1,if_pos k1,(z k1).1,(z k1).2]
 rw[if_neg k1,if_neg k1]
 by_cases h:e.k=2
 ·rw[if_pos h,if_pos h,(h2 h).1,(h2 h).2]
 rw[if_neg h,if_neg h,y.len,OT y]
 by_cases u:g.fi<0
 ·rw[if_pos u,if_pos u]
 rw[if_neg u,if_neg u]
 by_cases j:(m.st.fs.length:Int)<=g.fi\/qF m.st g.fi g.pg=true
 ·rw[if_pos j,if_pos j]
 ·rw[if_neg j,if_neg j,D _ _ (Ie A (by omega) C j)]
theorem Fa (h:Pt m) (u:iA m m') (j:mf m.st m'.st) (A:∀f i,qM m.st f i->bq m' f i=bq m f i)
 (z:∀p n g,fM m p n=some g->vK m' g (ent m' p n)=vK m g (ent m p n)):FE m m':=by
 refine⟨u,j.len,j.size,j.lenb,λp n => ?_,A⟩;have y:fM m' p n=fM m p n:=by unfold fM;rw[u.ar]
 cases hg:fM m p n with
 | none=>rw[rP hg,rP (y.trans hg)]
 | some g=>rw[jB hg,jB (y.trans hg)];exact z p n g hg
theorem QN {x:Fr} (h:bS x=0):bS { x with d:=false }=0:=by
 rw[dK] at h ⊢;exact⟨h.1,λj=>⟨(h.2.1 j).1,rfl,(h.2.1 j).2.2.1,(h.2.1 j).2.2.2⟩,h.2.2⟩
theorem TD {x:Int × Page} {b:Int} (j:0<=b) (h:∀q∈d.queue,q.1≠b/\0<=q.1):(jJ d x).blocks.getD b.toNat zPg=d.blocks.getD b.toNat zPg:=by
 unfold jJ;cases hd:d.queue with
 | nil=>rfl
 | cons q r=>
  simp only;split
  ·have:=h q (by rw[hd];exact iL);rw[aX,um (by omega),aX]
  ·rfl
theorem Ua {x q:Int × Page} (h:q∈(jJ d x).queue):q∈d.queue\/q=x:=by
 unfold jJ at h;cases hd:d.queue with
 | nil=>rw[hd] at h;simp at h;exact .inr h
 | cons a r=>
  rw[hd] at h;simp only at h;split at h
  ·rcases gP.1 h with h|h
   ·exact .inl (jV _ h)
   ·exact .inr (bC.1 h)
  rcases gP.1 h with h|h
  ·exact .inl h
  ·exact .inr (bC.1 h)
def iN (m:Ma) (f:Nat):Ma:=
 let x:=aD m f
 setFr { m with st:=eB m.st x.f x.i,dk:=jJ m.dk (eH m.st x.f x.i,x.p) } f { x with d:=false }
theorem KE {k:Kp} (h:Rt k.m) (z:f<k.m.m.fs.length):lw k f=if (aD k.m f).f<0\/(aD k.m f).d=false\/dG k.m.st (aD k.m f).f (aD k.m f).i≠0 then k else ⟨iN k.m f,k.e⟩:=by
 unfold lw
 by_cases j:(aD k.m f).f<0\/(aD k.m f).d=false\/dG k.m.st (aD k.m f).f (aD k.m f).i≠0
 ·simp only[if_pos j]
 have y:dG k.m.st (aD k.m f).f (aD k.m f).i=0:=by
  by_cases e:dG k.m.st (aD k.m f).f (aD k.m f).i=0
  ·exact e
  ·exact absurd (.inr (.inr e)) j
 have u:=(blocked y).2;have a:aK k.m.dk (eH k.m.st (aD k.m f).f (aD k.m f).i)=0:=kZ.2 ⟨h.pt.dk,u.b0,by rw[h.pt.dkl];exact u.bc⟩;simp only[if_neg j];unfold iN dP;rw[a];simp only[jm,if_true];congr 1;split<;>simp_all
structure Cleaned (m m' : Ma) (f:Nat):Prop where
 rt:Rt m'
 co:Co m'
 vis:FE m m'
 sl:m'.sl=m.sl
 sw:m'.sw=m.sw
 ca:m'.ca=m.ca
 sp:m'.sp=m.sp
 fs:m'.m=(setFr m f { aD m f with d:=false }).m
theorem Gp (h:Rt m) (G:Co m) (R:f<m.m.fs.length) (h0:0<=(aD m f).f) (hb:dG m.st (aD m f).f (aD m f).i=0):Cleaned m (iN m f) f:=by
 obtain⟨hF,A⟩:=blocked hb;obtain⟨c,v,J⟩:=h.fc f R h0;have l:=h.ca.fr c v;rw[J,bA] at l;have hD:aK m.dk (eH m.st (aD m f).f (aD m f).i)=0:=kZ.2 ⟨h.pt.dk,A.b0,by rw[h.pt.dkl];exact A.bc⟩;have z:eH m.st (aD m f).f (aD m f).i<m.dk.blocks.length:=by rw[h.pt.dkl];exact A.bc
 have M:∀g,aD (iN m f) g=if g=f then { aD m f with d:=false } else aD m g:=λg=>iq (m:={ m with st:=eB m.st (aD m f).f (aD m f).i,dk:=jJ m.dk (eH m.st (aD m f).f (aD m f).i,(aD m f).p) }) (x:={ aD m f with d:=false }) R g;have a:∀g,(aD (iN m f) g).p=(aD m g).p/\(aD (iN m f) g).f=(aD m g).f/\(aD (iN m f) g).i=(aD m g).i/\(aD (iN m f) g).r=(aD m g).r:=by
  intro g;rw[M]
  by_cases e:g=f
  ·rw[if_pos e,e];exact⟨rfl,rfl,rfl,rfl⟩
  ·rw[if_neg e];exact⟨rfl,rfl,rfl,rfl⟩
 have o:(iN m f).m.fs.length=m.m.fs.length:=bK;have s:mf m.st (iN m f).st:=⟨A.len,A.size,A.lenb⟩;have w:∀p n,ent (iN m f) p n=ent m p n:=λ_ _=>rfl;have U:∀g j,qM m.st g j->¬(g=(aD m f).f/\j=(aD m f).i)->dx (iN m f) g j=dx m g j:=by
  intro g j t W;have I:bM (iN m f).st g j=bM m.st g j:=A.other g j t.2.1 W;unfold dx;rw[I,A.size g |> (λe=>show (aS (iN m f).st g).n=(aS m.st g).n from e)]
  by_cases D:0<=bM m.st g j
  ·rw[if_pos D,if_pos D];congr 1;show dL (jJ m.dk _) _=_;rw[xJ h.pt.dk A.b0 z,if_neg];rintro⟨_,e⟩;simp only at e;rcases A.was with ⟨hw,_⟩|⟨_,hn,_⟩
   ·exact W (MX h.pt.st t hF (by omega) (by omega))
   ·exact hn (by rw[e];exact uY t)
  ·rw[if_neg D,if_neg D]
 have hv:dx (iN m f) (aD m f).f (aD m f).i=(aD m f).p:=by have I:bM (iN m f).st (aD m f).f (aD m f).i=eH m.st (aD m f).f (aD m f).i:=A.at_;have X:=G.tail c v;rw[J,bA,<-l.2.1,<-l.2.2] at X;unfold dx;rw[I,if_pos A.b0,show (aS (iN m f).st (aD m f).f).n=(aS m.st (aD m f).f).n from A.size _];show dn (dL (jJ m.dk _) _) _=_;rw[xJ h.pt.dk A.b0 z,if_pos ⟨hD,rfl⟩];exact X
 have y:∀g j,qM m.st g j->bq (iN m f) g j=bq m g j:=by
  intro g j t;have hl:uu (iN m f) g j=uu m g j:=rfl;rw[pQ,pQ,hl];rcases pM m g j with ⟨d,C,hdm,_⟩|⟨C,K⟩
  ·rw[C];exact (a d.k.toNat).1
  rw[C];exact U g j t λe=>K c v ⟨by rw[e.1];exact l.2.1.symm,by rw[e.2];exact l.2.2.symm⟩
 have hE:Pt (iN m f):=by have C:bW (jJ m.dk (eH m.st (aD m f).f (aD m f).i,(aD m f).p))=0:=yU h.pt.dk A.b0 z;exact { fr:=Er h.pt.fr (QN (h.pt.frE R)),sl:=h.pt.sl,sw:=h.pt.sw,dk:=C,st:=A.right,swl:=h.pt.swl,dkl:=by show ((jJ m.dk _).blocks.length:Int)=_;rw[wV,h.pt.dkl];exact A.count.symm,spl:=h.pt.spl,ar:=h.pt.ar,tb:=h.pt.tb }
 have hr:uB (iN m f):=⟨λd C=>(h.ca.file d C).same A.len A.lenb,λd C=>by rw[o];exact h.ca.lt d C,λd C=>by have:=a d.k.toNat;rw[this.2.1,this.2.2.1,this.2.2.2];exact h.ca.fr d C,h.ca.srt⟩;refine⟨⟨hE,⟨λb D hG => ?_,λq E => ?_⟩,h.live,hr,λp n hk => ?_,λi F => ?_,λi F V => ?_,h.cs⟩,⟨λd C => ?_,λd C Y => ?_,λi F N => ?_⟩,?_,rfl,rfl,rfl,rfl,rfl⟩
 ·have hC : b<m.dk.blocks.length:=by have:((iN m f).dk.blocks.length)=m.dk.blocks.length:=wV _ _;omega
  by_cases H:b∈lK m.st
  ·exact .inl ((A.used b D).2 (.inr H))
  by_cases e:b=eH m.st (aD m f).f (aD m f).i
  ·exact .inl ((A.used b D).2 (.inl e))
  refine .inr ?_;show (jJ m.dk _).blocks.getD b.toNat zPg=zPg;rw[TD D (λq E=>⟨λe=>H (by rw[<-e];exact h.trim.2 q E),((jL _).1 h.pt.dk).2.2 q E |>.1⟩)];exact (h.trim.1 b D hC).resolve_left H
 ·rcases Ua E with E|rfl
  ·exact (A.used _ (((jL _).1 h.pt.dk).2.2 q E).1).2 (.inr (h.trim.2 q E))
  ·exact (A.used _ A.b0).2 (.inl rfl)
 ·obtain⟨g,O,u⟩:=h.en p n hk;refine⟨g,O,u.sw,λS=>by rw[o];exact u.lt S,λS => ?_⟩;have Z:=u.fr S;have h2:=a (ent m p n).n.toNat;unfold ML at Z ⊢;rw[w,h2.2.1,h2.2.2.1,h2.2.2.2];exact Z
 ·rw[(a i).2.2.2];exact h.cf i (by rw[<-o];exact F)
 ·rw[(a i).2.1] at V;exact h.fc i (by rw[<-o];exact F) V
 ·rw[(a d.k.toNat).1,show (aS (iN m f).st d.f).n=(aS m.st d.f).n from A.size _];exact G.tail d C
 ·by_cases e:d.k.toNat=f
  ·have L:d=c:=h.ca.uniq C v (by have:=h.ca.lt d C;omega);subst L;rw[(a d.k.toNat).1,e];rw[<-l.2.1,<-l.2.2];exact hv.symm
  rw[M,if_neg e] at Y;rw[(a d.k.toNat).1,G.clean d C Y];refine (U d.f d.i (h.ca.file d C) λe2=>e ?_).symm;have L:d=c:=srt_eq h.ca.srt C v (by rw[e2.1];exact l.2.1) (by rw[e2.2];exact l.2.2);rw[L,J];exact bA f
 ·rw[(a i).2.1];rw[M] at N
  by_cases e:i=f
  ·rw[e];exact h0
  ·rw[if_neg e] at N;exact G.anon i (by rw[<-o];exact F) N
 refine Fa h.pt (iA.of rfl) s y λp n g O => ?_;rw[w];exact qz h.pt.st (h.pt.pg O).1 s y (λ_=>⟨(a _).1,(a _).2.1⟩) (λ_=>⟨rfl,rfl⟩)
end Go.Proofs.YthihaopabbpalaaGreat