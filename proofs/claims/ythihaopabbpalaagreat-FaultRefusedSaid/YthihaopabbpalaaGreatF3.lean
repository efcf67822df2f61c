import Derived.Test.YthihaopabbpalaaGreatF2
import Derived.BigQuiet
import Derived.BigRegion
import Derived.Deep.DeepCutAuto
import Derived.Deep.Light
import Derived.Deep.LoopGhost
import Derived.Deep.QuietTactic
import Derived.IntWalk
import Derived.Lib.LazyBuf
import Derived.Test.YthihaopabbpalaaGreatRows
import Derived.Lib.Hide
import Derived.Deep.RegionLaw
import Derived.Laws.Externs
import Derived.Laws.IdiomCopy
import Derived.Lib.AppendZerosOnto
import Derived.Lib.Overlaps
import Derived.Lib.SliceRun
set_option linter.unusedSimpArgs false
set_option linter.unusedVariables false
set_option linter.unnecessarySimpa false
set_option maxHeartbeats 4000000
set_option maxRecDepth 100000
namespace Go.Proofs.YthihaopabbpalaaGreat
open _root_.Go.Proofs.Tryz
open Go.RowKit Go.Maps Pw
variable {B B' B0 b c c' f g i k off p q s sz:Nat} {P:Program} {Q:Exit -> Act -> World -> Prop} {T T' e t:TypeId} {a a':Option Addr} {cs cs' cur:Array Value} {d:vQ} {kd n:Int} {l:List Int} {m m':Ma} {o:Oper} {ops:Array Oper} {rest:List Oper} {s':St} {v v':Value} {vs xs:List Value} {w w' w0 w1 w2:World} {x:Operand} {ρ:Operand -> Value}
structure PF where
 n:Int
 a:Option Addr
 l:List Int
 c:Nat
def PF.fi(p:PF):Fi:=⟨p.n,p.l⟩
def qF(p:PF):Array Value:=#[.int .i64 p.n,.slice p.a p.l.length p.c]
def rH(p:PF):List Value:=(qF p).toList
theorem kR(p:PF):(rH p).length=2:=rfl
theorem rO(p:PF):(qF p).all (·.oneCell')=true:=by simp[qF,Value.oneCell']
structure PF.good (w:World) (p:PF):Prop where
 le:p.l.length<=p.c
 mx:p.c<=maxLen
 nl:p.a=none->p.c=0
 rd:eB w p.a (p.l.map gB)
theorem PF.good.below{p:PF}(h:p.good w)(j:Below w.heap.size w w'):p.good w':=⟨h.le,h.mx,h.nl,h.rd.below j⟩
structure Mg (w:World) (a:Option Addr) (c:Nat) (ps:List PF):Prop where
 le:ps.length<=c
 mx:c<=maxLen
 nl:a=none->c=0
 rd:eB w a (ps.flatMap rH)
 good:∀p∈ps,p.good w
theorem Mg.below{j:List PF}(h:Mg w a c j)(u:Below w.heap.size w w'):Mg w' a c j:=
 ⟨h.le,h.mx,h.nl,h.rd.below u,λp y=>(h.good p y).below u⟩
theorem xP{j:List PF}(h:eB w a (j.flatMap rH))(k:Nat)(u:k<j.length):∃b off p,a=some ⟨b,off,none⟩/\j[k]?=some p/\w.cell? ⟨b,off+k*2,none⟩=some (.int .i64 p.n)/\w.cell? ⟨b,off+k*2+1,none⟩=some (.slice p.a p.l.length p.c):=by
 obtain⟨b,off,z,y⟩:=h.elem kR (by decide) k u;exact⟨b,off,j[k],z,aF u,y 0 _ rfl,y 1 _ rfl⟩
def cK(ps:List PF)(k:Int):St:=⟨ps.map PF.fi,k⟩
def MJ(a:Option Addr)(n c:Nat)(k:Int):Array Value:=#[.slice a n c,.int .i64 k]
theorem file_size:(Tryz.prog.info? 101).map (·.size)=some 2:=by kernel_rfl
theorem store_size:(Tryz.prog.info? 41).map (·.size)=some 2:=by kernel_rfl
theorem wM(c:Int)(h:List Int)(p:PF)(r:List Fi):pI c h (p.fi::r)=if p.n<0\/96<p.n then 3 else if(p.l.length:Int)≠fw p.n then 2 else if iC c h p.l≠0 then iC c h p.l else pI c (h++p.l) r:=rfl
theorem Fy(A:List PF)(k:Int)(a:Option Addr)(c:Nat)(w:World)(h:Mg w a c A)(hk64 : -9223372036854775808<=k/\k<=9223372036854775807) :
  Calls Tryz.prog 113 #[.agg (MJ a A.length c k)] w λr w'=>r = .returned (.int .i64 (aR (cK A k)))/\Below w.heap.size w w':=by
 have kg:=@run_makeMap Tryz.prog;have kh:=bi h.le h.mx;unfold maxLen at kh;unfold MJ;go_enter func113,ntmps113;go_upto_region 1 with(fail);refine iG (λW=>Code.wp _ _ _ _ W) λW0 hV O kd => ?_;clear kd
 by_cases H:5<A.length\/k<0\/80<k
 .have d:Hid (aR (cK A k)=4):=ae (by unfold aR cK;rw[if_pos (by simpa using H)]);have I:=O.cell;have kl : 5<A.length\/(¬5<A.length/\k<0)\/(¬5<A.length/\¬k<0/\80<k):=by omega
  clear H;rcases kl with g|⟨g,g2⟩|⟨g,g2,g3⟩
  all_goals
   go_wp2;go_ret;exact⟨aX d.out.symm,hV⟩
 have s:Hid (aR (cK A k)=pI k (((A.take 0).map PF.fi).flatMap Fi.b) ((A.drop 0).map PF.fi)):=ae (by unfold aR cK;rw[if_neg (by simpa using H)];rfl);have g1:¬5<A.length:=by omega
 have g2:¬k<0:=by omega
 have g3:¬80<k:=by omega
 have I:=O.cell;clear H;go_upto_region 4 with(fail);clear I kg;refine Yy (λW=>Code.wp _ _ _ _ W) λW1 hU hW => ?_;have hE:=ag hV hU;have hP:=O.ext hU;have ki:w.heap.size<W0.heap.size:=O.lt;obtain⟨Z,ka⟩:∃g,g=W0.heap.size:=⟨_,rfl⟩;rw[<-ka]at hW ki ⊢;clear ka hV O hU;have hN : pz W1 Z 0 (tZ (((A.take 0).map PF.fi).flatMap Fi.b)):=hW;have I:=hP.cell;go_upto_region 5 with(fail);clear I hW
 go_loopw [26] (fun i wr => ∃(q n:Nat),q<=A.length/\i = .int .i64 q/\n<=12*q/\Below w.heap.size w wr/\aG wr w.heap.size #[.slice a A.length c,.int .i64 k] 41/\pz wr Z n (tZ (((A.take q).map PF.fi).flatMap Fi.b))/\Hid (aR (cK A k)=pI k (((A.take q).map PF.fi).flatMap Fi.b) ((A.drop q).map PF.fi))) (fun i _=>A.length-(intOf i).toNat)
 case atStart=>exact⟨0,0,bq _,rfl,az _,hE,hP,hN,s⟩
 case round=>
  clear hE hP hN s;obtain⟨q,n,hq,rfl,hn,o,F,D,s⟩:=hrel
  by_cases hlt:q<A.length
  .obtain⟨b,off,p,rfl,hp,c0,c1⟩:=xP (h.below o).rd q hlt;have hA:=(h.good p (bS hp)).below o;have Y:=drop_at hp;have N:=take_at hp;rw[Y,bQ]at s;have hI:=ae N;clear Y N;generalize hseen:((A.take q).map PF.fi).flatMap Fi.b=seen at D s;have hs:=ae hseen;clear hseen hp
   go_wp2_with (refine aK rfl _ _ _ rfl (qF p) rfl rfl rfl file_size (rO _) ?_)
   intro w2 X J;have hf:=ag o X;have h1:=F.ext X;have h8:=D.below X;have ht:=hA.below X;clear o F D hA X c0 c1;have hS:=J.cell;have f0:(qF p)[0]?=some (.int .i64 p.n):=rfl;have f1:(qF p)[1]?=some (.slice p.a p.l.length p.c):=rfl
   by_cases E:p.n<0\/96<p.n
   .have d:Hid (aR (cK A k)=3):=ae (by rw[s.out,wM,if_pos E]);have ke : p.n<0\/(¬p.n<0/\96<p.n):=by omega
    clear E;rcases ke with g|⟨g,g2⟩
    all_goals
     go_wp2;go_ret;exact⟨aX d.out.symm,hf⟩
   have ha:Hid (aR (cK A k)=if(p.l.length:Int)≠fw p.n then 2 else if iC k seen p.l≠0 then iC k seen p.l else pI k (seen++p.l) ((A.drop (q+1)).map PF.fi)):=ae (by rw[s.out,wM,if_neg E]);have g4:¬p.n<0:=by omega
   have g5:¬96<p.n:=by omega
   clear E s
   by_cases C:(p.l.length:Int)=fw p.n
   .have z:Hid (aR (cK A k)=if iC k seen p.l≠0 then iC k seen p.l else pI k (seen++p.l) ((A.drop (q+1)).map PF.fi)):=ae (by rw[ha.out,if_neg (λS=>S C)]);have km:p.l.length<=12:=by have:=yC (n:=p.n) (by omega);omega
    have hT:=ae C;clear ha C;go_upto_region 9 with(fail);refine aV 7 [_,_,_,_,_,.v (.int .i64 (fw p.n)),_] (Gf wr.heap.size 1 rfl rfl (Gl J (V:=.slice p.a p.l.length p.c) (by simp[f1,underlying33]) rfl rfl rfl rfl (Gn rfl rfl rfl rfl (Gf wr.heap.size 0 rfl rfl (Gl J (V:=.int .i64 p.n) (by simp[f0]) rfl rfl rfl rfl (ah ?_ (Gb (.bool false) (by simp[go_sem,hT.out]) rfl rfl rfl rfl rfl (aI))))) (underlying33)))) (λ_=>rfl) rfl ?_
    .intro ρ y W hw hn hb hd;have hZ:=hw 42 4 rfl;have H:y 4=_:=hd 4 rfl;have EF:=eF0 hn λ_=>trivial;refine aO _ _ (aj rfl) (aS rfl (EF _) func88 (by kernel_rfl) (by kernel_rfl) (by simp only[bW,bQ,aZ,hZ,H,EF];rfl)) ?_;refine(Cm p.n W (by omega)).mono ?_;rintro e w1 ⟨rfl,rfl⟩;exact⟨_,rfl,Below.refl _ _,rfl⟩
    intro y WA u _;have hD:=ag hf u;have h0:=h1.ext u;have h6:=h8.below u;have h5:=J.ext u;have hH:=ht.below u;clear hf h1 h8 J ht u hS;have hS:=h5.cell;have kc:Hid (iC k seen p.l=iC k (seen++p.l.take 0) (p.l.drop 0)):=ae (by simp);have h9:pz WA Z n (tZ (seen++p.l.take 0)):=by simpa using h6
    have kn:=hH.le;have kf:=hH.mx;have hK:=hH.rd;unfold maxLen at kf;clear h6 hH;go_upto_region 12 with(fail);clear hS f0 f1 h5
    go_loopw [48] (fun i wr => ∃(j m:Nat),j<=p.l.length/\i = .int .i64 j/\m<=n+j/\Below w.heap.size w wr/\aG wr w.heap.size #[.slice (some ⟨b,off,none⟩) A.length c,.int .i64 k] 41/\pz wr Z m (tZ (seen++p.l.take j))/\eB wr p.a (p.l.map gB)/\Hid (iC k seen p.l=iC k (seen++p.l.take j) (p.l.drop j))) (fun i _=>p.l.length-(intOf i).toNat)
    case atStart=>exact⟨0,n,bq _,rfl,az _,hD,h0,h9,hK,kc⟩
    case round=>
     clear hD h0 h9 hK kc;obtain⟨j,m,hj,rfl,hm,o,F,D,hQ,K⟩:=hrel
     by_cases R:j<p.l.length
     .obtain⟨x,hX⟩:∃x,p.l[j]?=some x:=⟨p.l[j],aF R⟩;obtain⟨b2,off2,hR,hc⟩:=kD hQ j R;rw[show p.l[j]=x from(cz.1 hX).2]at hc;have Y:=drop_at hX;have N:=take_at hX;rw[Y,vL]at K;rw[hR];generalize hs2:seen++p.l.take j=seen2 at K D;have hv:Hid (seen++p.l.take (j+1)=seen2++[x]):=ae (by rw[N,<-jN,hs2]);have hJ:=ae hQ;have hL:=ae hR;have I:=F.cell;clear hX Y N hs2 hQ hR;have h3 : (j:Int)<(p.l.length:Int):=by omega
      by_cases G:x < -1\/k<=x
      .have d:Hid (aR (cK A k)=3):=ae (by rw[z.out,K.out,if_pos G];rfl);have h2 : x < -1\/(¬x < -1/\k<=x):=by omega
       clear G;rcases h2 with g6|⟨g6,g7⟩
       all_goals
        go_wp2;go_ret;exact⟨aX d.out.symm,o⟩
      have g6:¬x < -1:=by omega
      have g7:¬k<=x:=by omega
      have hY:Hid (iC k seen p.l=if 0<=x/\x∈seen2 then 7 else iC k (seen2++[x]) (p.l.drop (j+1))):=ae (by rw[K.out,if_neg G]);clear K G;have hg:=D.look x (by omega)
      by_cases L:0<=x/\x∈seen2
      .have d:Hid (aR (cK A k)=7):=ae (by rw[z.out,hY.out,if_pos L];rfl);rw[show tZ seen2 x=true from decide_eq_true L.2]at hg;have M:0<=x:=L.1;clear L;go_wp2;go_ret;exact⟨aX d.out.symm,o⟩
      have kb:Hid (iC k seen p.l=iC k (seen++p.l.take (j+1)) (p.l.drop (j+1))):=ae (by rw[hY.out,if_neg L,hv.out]);have kk : ¬0<=x\/(0<=x/\tZ seen2 x=false):=by
       by_cases M:0<=x
       .exact .inr ⟨M,decide_eq_false λS=>L ⟨M,S⟩⟩
       .exact .inl M
      clear L hY;rcases kk with M|⟨M,g9⟩
      .clear hg
       go_wp2_with (refine xn D (by omega) rfl _ _ _ rfl rfl x rfl rfl (by omega) ?_)
       intro w6 U t;rw[Er,<-hv.out] at U;have hr:=o.grown t o.size oG0;have hO:=F.grown t (λe=>by have:=aM e;omega);have hz:=D.rdv hJ.out t;clear o F D t I hc;go_wp2;go_roundw
       case rel=>exact⟨j+1,m+1,by omega,by go_num,by omega,hr,hO,U,(by rw[<-hL.out];exact hz),kb⟩
       case measure=>simp[intOf];omega
      rw[g9]at hg
      go_wp2_with (refine xn D (by omega) rfl _ _ _ rfl rfl x rfl rfl (by omega) ?_)
      intro w6 U t;rw[Er,<-hv.out] at U;have hr:=o.grown t o.size oG0;have hO:=F.grown t (λe=>by have:=aM e;omega);have hz:=D.rdv hJ.out t;clear o F D t I hc;go_wp2;go_roundw
      case rel=>exact⟨j+1,m+1,by omega,by go_num,by omega,hr,hO,U,(by rw[<-hL.out];exact hz),kb⟩
      case measure=>simp[intOf];omega
     have d:Hid (aR (cK A k)=pI k (((A.take (q+1)).map PF.fi).flatMap Fi.b) ((A.drop (q+1)).map PF.fi)):=ae (by
      have e0:iC k seen p.l=0:=by rw[K.out,qX (by omega)];rfl
      rw[z.out,if_neg (λS=>S e0),hI.out,jJ,fI,hs.out];simp[PF.fi])
     have kj:pz wr Z m (tZ (((A.take (q+1)).map PF.fi).flatMap Fi.b)):=by rw[jD (by omega)]at D;rw[hI.out,jJ,fI,hs.out];simpa[PF.fi]using D
     have h3 : ¬(j:Int)<(p.l.length:Int):=by omega
     clear D K z;go_wp2;go_roundw
     case rel=>exact⟨q+1,m,by omega,by go_num,by omega,o,F,kj,d⟩
     case measure=>simp[intOf];omega
   have d:Hid (aR (cK A k)=2):=ae (by rw[ha.out,if_pos C]);have hT:((p.l.length:Int) != fw p.n)=true:=by rw[bne_iff_ne];exact C
   clear ha C;go_upto_region 9 with(fail);refine aV 7 [_,_,_,_,_,.v (.int .i64 (fw p.n)),_] (Gf wr.heap.size 1 rfl rfl (Gl J (V:=.slice p.a p.l.length p.c) (by simp[f1,underlying33]) rfl rfl rfl rfl (Gn rfl rfl rfl rfl (Gf wr.heap.size 0 rfl rfl (Gl J (V:=.int .i64 p.n) (by simp[f0]) rfl rfl rfl rfl (ah ?_ (Gb (.bool true) (by simp[go_sem,hT]) rfl rfl rfl rfl rfl (aI))))) (underlying33)))) (λ_=>rfl) rfl ?_
   .intro ρ y W hw hn hb hd;have hZ:=hw 42 4 rfl;have H:y 4=_:=hd 4 rfl;have EF:=eF0 hn λ_=>trivial;refine aO _ _ (aj rfl) (aS rfl (EF _) func88 (by kernel_rfl) (by kernel_rfl) (by simp only[bW,bQ,aZ,hZ,H,EF];rfl)) ?_;refine(Cm p.n W (by omega)).mono ?_;rintro e w1 ⟨rfl,rfl⟩;exact⟨_,rfl,Below.refl _ _,rfl⟩
   intro y WA u _;go_wp2;go_ret;exact⟨aX d.out.symm,ag hf u⟩
  have d:Hid (aR (cK A k)=0):=ae (by rw[s.out,qX (by omega)];rfl);go_wp2;go_ret;exact⟨aX d.out.symm,o⟩
theorem ND(l:List Int)(a:Option Addr)(c:Nat)(w:World)(A:l.length<=c)(y:a=none->c=0)(z:eB w a (l.map gB))(F:l.length*8<=140737488355328) :
  Calls Tryz.prog 105 #[.slice a l.length c] w λe w' => ∃v,e = .returned v/\Own w' w.heap.size 3 1 v l.length (l.map gB)/\Below w.heap.size w w':=by
 cases a with
 | none=>
  have G:=y rfl;have D:l=[]:=kU (by omega);subst D;subst G;have C:=λW=>ni (P:=Tryz.prog) W 33 _ none 0 0 0 0 underlying33;go_enter func105,ntmps105;go_wp2;go_ret;exact⟨_,rfl,by simpa using Own.nil _ _ _ _,Below.refl _ _⟩
 | some ad=>
  have C:=λW=>ni (P:=Tryz.prog) W 33 _ (some ad) l.length c 0 0 underlying33;go_enter func105,ntmps105
  go_wp2_with (at_builtin;go_must (refine fT rfl _ _ 33 rfl w.heap.size 3 (.int .i64 0) 1 8 underlying33 int_info rfl (by decide) _ 0 [] rfl ?own (some ad) l.length c (l.map gB) rfl (λh=>(by cases h)) A (Kr l) ?rd (Kb l) (by unfold maxLen;omega) (by simpa using F) ?bb ?k))
  case own=>exact⟨rfl,.inr ⟨w.heap.size,0,0,#[],rfl,az _,aG.new _ _ _,az _,bq _,by simp,λj u h=>by simp at h⟩⟩
  case rd=>exact z.below ((Below.refl _ _).alloc (az _) _)
  case bb=>exact gU _ _
  intro v w1 b d;go_wp2;go_ret;exact⟨v,rfl,by simpa using b,((Below.refl _ _).alloc (az _) _).grown d (gU _ _) (λk E=>by cases E;exact az _)⟩
theorem file_info:(Tryz.prog.info? 101).map (λi=>(i.zero,i.size,i.bytes))=some (some (.agg #[.int .i64 0,.slice none 0 0]),2,32):=by kernel_rfl
theorem Vz(p:PF):∀u∈rH p,u.oneCell' = true:=by
 intro u h;have:=rO p;rw[<-mO,fA]at this;exact this u h
def nQ(p:PF):Value:=.slice p.a p.l.length p.c
structure rz (w:World) (B:Nat) (v:Value) (ps:List PF):Prop where
 own:Own w B 101 2 v ps.length (ps.flatMap rH)
 each:∀(i:Nat) p,ps[i]?=some p->Own w B 3 1 (nQ p) p.l.length (p.l.map gB)
 apart:∀(i j:Nat) p q,i<j->ps[i]?=some p->ps[j]?=some q->Apart (nQ p) (nQ q)
theorem rz.rd{j:List PF}(h:rz w B v j):∃a c,v = .slice a j.length c/\Mg w a c j:=by
 obtain⟨a,c,rfl,F,h2,E,D⟩:=h.own.rd;refine⟨a,c,rfl,F,h2,E,D,λp A => ?_⟩;obtain⟨i,C,rfl⟩:=jM.1 A;obtain⟨a',c',e,k1,z,y,u⟩:=(h.each i _ (aF C)).rd;unfold nQ at e;simp only[mK]at e;obtain⟨rfl,_,rfl⟩:=e;exact⟨k1,z,y,u⟩
theorem rz.below{j:List PF}(h:rz w B v j)(u:Below w.heap.size w w'):rz w' B v j:=
 ⟨h.own.below u,λi p y=>(h.each i p y).below u,h.apart⟩
theorem rz.mono{j:List PF}(h:rz w B v j)(u:B'<=B):rz w B' v j:=
 ⟨h.own.mono u,λi p y=>(h.each i p y).mono u,h.apart⟩
theorem rz.keep{u:List PF}(h:rz w B v u)(y:aG w g cs T)(A:T≠101)(h2:T≠3)(j:w.grownBy w' (some g)):rz w' B v u:=
 ⟨ax h.own y A j,λi p z=>ax (h.each i p z) y h2 j,h.apart⟩
theorem rz.nil(w:World)(B:Nat):rz w B (.slice none 0 0) []:=⟨Own.nil _ _ _ _,λi p h=>by simp at h,λi j p q _ h=>by simp at h⟩
def Xt(ps:List PF):Prop:=ps.length*32<=140737488355328/\∀p∈ps,p.l.length*8<=140737488355328
theorem rz.app{u:List PF}(h:rz w B v u){p:PF}(E:Own w' B 101 2 v' (u.length+1) (u.flatMap rH++rH p))(D:Own w B 3 1 (nQ p) p.l.length (p.l.map gB))(A:w.grownBy w' v.ownBlock)
 (G:∀(i:Nat) q,u[i]?=some q->Apart (nQ q) (nQ p)):rz w' B v' (u++[p]) where
 own:=by rw[jk,fI];simpa using E
 each:=λi q y=>by
  by_cases C:i<u.length
  .rw[kK C]at y;exact zQ (h.each i q y) h.own (by decide) A
  rw[jU (by omega)]at y;have c:i-u.length=0:=by
   rcases ug (i-u.length)with e|e
   .exact e
   .rw[eY (by simp;omega)]at y;cases y
  rw[c]at y;cases y;exact zQ D h.own (by decide) A
 apart:=λi j q r b y z=>by
  have C:i<u.length:=by have:=(cz.1 z).1;simp at this;omega
  rw[kK C]at y
  by_cases F:j<u.length
  .rw[kK F]at z;exact h.apart i j q r b y z
  rw[jU (by omega)]at z;have a:j-u.length=0:=by
   rcases ug (j-u.length)with e|e
   .exact e
   .rw[eY (by simp;omega)]at z;cases z
  rw[a]at z;cases z;exact G i q y
theorem slfile_size:(Tryz.prog.info? 39).map (·.size)=some 1:=by kernel_rfl
theorem vI(a:Option Addr)(n c:Nat)(k:Int):(#[Value.slice a n c,Value.int .i64 k]:Array Value).all (·.oneCell')=true:=by simp[Value.oneCell']
def Xo(B:Nat)(n:Int)(l:List Int):mV:=⟨λv w => ∃u,v = .agg #[.int .i64 n,u]/\Own w B 3 1 u l.length (l.map gB),λ_ _ _ hb ⟨u,h1,h2⟩=>⟨u,h1,h2.below hb⟩⟩
def XO(B:Nat)(n:Int)(l:List Int):mV:=⟨λv w => ∃g p,v = .slice (some ⟨g,0,none⟩) 1 1/\p.n=n/\p.l=l/\eB w (some ⟨g,0,none⟩) (rH p)/\Own w B 3 1 (nQ p) p.l.length (p.l.map gB),by
 rintro v w w' hb ⟨g,p,h1,h2,h3,h4,h5⟩;exact⟨g,p,h1,h2,h3,h4.below hb,h5.below hb⟩⟩
theorem Lr(G:List PF)(k:Int)(a:Option Addr)(c:Nat)(w:World)(h:Mg w a c G)(hz:Xt G) :
  Calls Tryz.prog 60 #[.agg (MJ a G.length c k)] w λr w' => ∃v K,r = .returned (.agg #[v,.int .i64 k])/\rz w' w.heap.size v K/\K.map PF.fi=G.map PF.fi/\Below w.heap.size w w':=by
 have kq:=bi h.le h.mx;unfold maxLen at kq;unfold MJ;go_enter func60,ntmps60;go_upto_region 1 with(fail);refine uT (λW=>Code.wp _ _ _ _ W) λW0 kh hE hH km => ?_;clear km;have hO:=hE.cell;go_upto_region 2 with(refine aK rfl _ _ _ rfl #[.slice none 0 0,.int .i64 k] rfl rfl rfl store_size (vI none 0 0 k) ?_);clear hO;intro W1 J hL;have hm:=ag kh J;have hW:=hE.ext J;have h9:=hH.ext J;have ks:w.heap.size+1<W0.heap.size:=hH.lt;obtain⟨I,kj⟩:∃g,g=W0.heap.size:=⟨_,rfl⟩;rw[<-kj]at hL ks ⊢;clear kj kh hE hH J;have hO:=hW.cell;go_upto_region 3 with(fail);clear hO
 go_loopw [12] (fun i wr => ∃(q:Nat) (v:Value) (C:List PF),q<=G.length/\i = .int .i64 q/\Below w.heap.size w wr/\aG wr (w.heap.size+1) #[.slice none 0 0,.int .i64 0] 41/\aG wr I #[v,.int .i64 k] 41/\rz wr w.heap.size v C/\C.map PF.fi=(G.take q).map PF.fi) (fun i _=>G.length-(intOf i).toNat)
 case atStart=>exact⟨0,_,[],bq _,rfl,hm,h9,hL,rz.nil _ _,rfl⟩
 case round=>
  clear hm hW h9 hL;obtain⟨q,v,C,hq,rfl,O,X,H,Z,hB⟩:=hrel;have hI:=ae hB;clear hB
  by_cases hlt:q<G.length
  .obtain⟨b,off,p,rfl,Y,c0,c1⟩:=xP (h.below O).rd q hlt;have hM:=h.good p (bS Y);have kn:=hz.2 p (bS Y);have hX:=take_at Y;have kb:Hid (C.map PF.fi++[p.fi]=(G.take (q+1)).map PF.fi):=ae (by rw[hX,jJ,hI.out];rfl);have kH:C.length<=q:=by have:=congrArg List.length hI.out;simp[uz hq]at this;omega
   clear Y hX
   go_wp2_with (refine aK rfl _ _ _ rfl (qF p) rfl rfl rfl file_size (rO _) ?_)
   intro w2 N hN;have m:=ag O N;have h8:=X.ext N;have hK:=H.ext N;have L:=Z.below N;have kE:I<wr.heap.size:=H.lt;clear O X H Z N c0 c1;obtain⟨S,R,rfl,ki⟩:=L.rd;have kI:=ki.le;have kp:=ki.mx;unfold maxLen at kp;have kD:=hz.1;have kt:=hM.below m;go_upto_region 5 with(fail);refine FI 9 10 [] [mZ (.pointer (some ⟨I,0,none⟩)),mZ (.slice S C.length R),mZ (.pointer (some ⟨wr.heap.size,0,none⟩)),mZ (.int .i64 p.n),mZ (.pointer (some ⟨wr.heap.size,1,none⟩)),mZ (.slice p.a p.l.length p.c),(nA w2.heap.size 3 1 p.l.length (p.l.map gB)),(Xo w2.heap.size p.n p.l),(XO w2.heap.size p.n p.l)] (by kernel_rfl) (by kernel_rfl) (by kernel_rfl) (by kernel_rfl) (by kernel_rfl) (by kernel_rfl) (by decide) (by decide) _ rfl (by kernel_rfl) (ah ?_ (ah ?_ (ah ?_ (ah ?_ (ah ?_ (ah ?_ (ah ?_ (ah ?_ (ah ?_ (aI)))))))))) (aI) rfl ?_
   .refine aQ rfl ?_;intro ρ y W A D F E;have E3:ρ (.tmp 3) = .pointer (some ⟨I,0,none⟩):=(D (.tmp 3) rfl).trans rfl;refine ak (.pointer (some ⟨I,0,none⟩)) (aj rfl) (by simp[execOp,go_sem,E3]) rfl
   .refine aQ rfl ?_;intro ρ y W A D F E;have kC:=A 16 0 rfl;have h0:y 0=_:=E 0 rfl;refine ak (.slice S C.length R) (aj rfl) (by simp[execOp,go_sem,kC,h0,(hK.ext F).cell,underlying39]) rfl
   .refine aQ rfl ?_;intro ρ y W A D F E;have E5:ρ (.tmp 5) = .pointer (some ⟨wr.heap.size,0,none⟩):=(D (.tmp 5) rfl).trans rfl;refine ak (.pointer (some ⟨wr.heap.size,0,none⟩)) (aj rfl) (by simp[execOp,go_sem,E5]) rfl
   .refine aQ rfl ?_;intro ρ y W A D F E;have kB:=A 18 2 rfl;have h2:y 2=_:=E 2 rfl;refine ak (.int .i64 p.n) (aj rfl) (by simp[execOp,go_sem,kB,h2,(hN.ext F).cell,qF]) rfl
   .refine aQ rfl ?_;intro ρ y W A D F E;have E5:ρ (.tmp 5) = .pointer (some ⟨wr.heap.size,0,none⟩):=(D (.tmp 5) rfl).trans rfl;refine ak (.pointer (some ⟨wr.heap.size,1,none⟩)) (aj rfl) (by simp[execOp,go_sem,E5]) rfl
   .refine aQ rfl ?_;intro ρ y W A D F E;have kz:=A 20 4 rfl;have h4:y 4=_:=E 4 rfl;refine ak (.slice p.a p.l.length p.c) (aj rfl) (by simp[execOp,go_sem,kz,h4,(hN.ext F).cell,qF]) rfl
   .refine aQ rfl ?_;intro ρ y W A D F E;have ky:=A 21 5 rfl;have h5:y 5=_:=E 5 rfl;have EF:=eF0 D λ_=>trivial;refine aO _ _ (aj rfl) (aS rfl (EF _) func105 (by kernel_rfl) (by kernel_rfl) (by simp only[bW,bQ,aZ,ky,h5,EF];rfl)) ?_;refine(ND p.l p.a p.c W hM.le hM.nl (kt.below F).rd kn).mono ?_;rintro e w1 ⟨u,rfl,H,J⟩;exact⟨u,rfl,J,H.mono F.size⟩
   .refine aQ rfl ?_;intro ρ y W A D F E;have kA:=A 19 3 rfl;have h3:y 3=_:=E 3 rfl;have kx:=A 22 6 rfl;have h6:((nA w2.heap.size 3 1 p.l.length (p.l.map gB))).r (y 6) W:=E 6 rfl;obtain⟨x6,c6,e6,_⟩:=Own.rd h6;refine ak (.agg #[.int .i64 p.n,y 6]) (aj rfl) (by simp[execOp,go_sem,kA,h3,kx,e6]) ?_;exact⟨_,rfl,h6⟩
   .refine aQ rfl ?_;intro ρ y W A D F E;have kw:=A 23 7 rfl;have h7:((Xo w2.heap.size p.n p.l)).r (y 7) W:=E 7 rfl;obtain⟨u,e7,kd⟩:=h7;obtain⟨x7,c7,rfl,_⟩:=Own.rd kd;refine jh (.slice (some ⟨W.heap.size,0,none⟩) 1 1) (aj rfl) (by simp[execOp,go_sem,kw,e7,qF]) ((Below.refl _ _).alloc (az _) (.cells (qF ⟨p.n,x7,p.l,c7⟩) 101)) ?_;exact⟨_,⟨p.n,x7,p.l,c7⟩,rfl,rfl,rfl,eB.new _ _ _,kd.alloc _⟩
   intro ρ y WA o H A D hV s d;cases H;have hU:y 0=_:=d 0 (by decide);have hD:y 1=_:=d 1 (by decide);have hT:y 2=_:=d 2 (by decide);have hS:y 3=_:=d 3 (by decide);have hR:y 4=_:=d 4 (by decide);have hQ:y 5=_:=d 5 (by decide);have kG:((nA w2.heap.size 3 1 p.l.length (p.l.map gB))).r (y 6) WA:=d 6 (by decide);have kF:((Xo w2.heap.size p.n p.l)).r (y 7) WA:=d 7 (by decide);have kl:((XO w2.heap.size p.n p.l)).r (y 8) WA:=d 8 (by decide);have kk:=A 17 1 rfl;rw[hD]at kk;have kv:=A 24 8 rfl;have EC:∀v,ρ (.const v)=v:=λv=>D (.const v) trivial;have EF:=eF0 D λ_=>trivial;obtain⟨g8,U,e8,ko,kr,hA,hj⟩:=kl;refine IR (aj rfl) (qB (.tmp 17) (.tmp 24) 39 rfl w.heap.size 101 _ 2 32 underlying39 file_info rfl (by decide) _ _ _ kk (L.own.below s) _ 1 1 (rH U) (kv.trans e8) (λe=>by cases e) (az _) rfl hA (Vz _) (by unfold maxLen;omega) (by omega) (bi m.size s.size)) ?_;rintro v2 w4 ⟨hh,t,hx⟩;clear d A D hV;simp only[lay,Nat.reduceAdd,Nat.reduceLT,Nat.reduceEqDiff,reduceIte,decide_true,decide_false,if_true,uU,if_false,Ak,qD,uf,yx,AA,xY,hU,hD,hT,hS,hR,hQ];clear hU hD hT hS hR hQ;have x:=ag m s;have hY:=h8.ext s;have kc:=hK.ext s;have M:=L.below s;have hC:∀(i:Nat) r,C[i]?=some r->Apart (nQ r) (nQ U):=by intro i r hi g hg ku;have h1:=JV (L.each i r hi) g hg;have h2:=hj.ge g ku;omega
   have hc : Own w4 w.heap.size 101 2 v2 (C.length+1) (C.flatMap rH++rH U):=hh;have V:=M.app hc (hj.mono m.size) t hC;have hZ:=lw hY M.own (by decide) t;have hJ:=lw kc M.own (by decide) t;have ha:Below w.heap.size w w4:=x.grown t x.size (λk hk=>M.own.ge k hk);have ka:Hid ((C++[U]).map PF.fi=(G.take (q+1)).map PF.fi):=ae (by rw[jJ,<-kb.out];congr 1;simp[PF.fi,ko,kr]);obtain⟨a4,c4,rfl,_⟩:=V.rd;rw[jk,Ec]at V ⊢;clear m h8 hK L s x hY kc M hh hc t hC hj hA hN hx
   go_wp2_with (refine aB rfl _ _ _ rfl I 0 _ [.slice a4 (C.length+1) c4] rfl rfl rfl _ _ hJ (show 0+1<=2 by decide) slfile_size (λu hu=>by cases bB.1 hu;rfl) ?_)
   intro w5 kf j;have hG:aG w5 (w.heap.size+1) _ _:=hZ.grown j (λe=>by have:=aM e;omega);have hP:=V.keep hJ (by decide) (by decide) j;have z:=ha.grown j ha.size oG0;have ke : aG w5 I #[.slice a4 (C.length+1) c4,.int .i64 k] 41:=kf;clear hJ hZ V ha j kf;go_wp2;go_roundw
   case rel=>exact⟨q+1,_,_,by omega,by go_num,z,hG,ke,hP,ka.out⟩
   case measure=>simp[intOf];omega
  obtain rfl:q=G.length:=by omega
  have kg:Hid (C.map PF.fi=G.map PF.fi):=ae (by rw[hI.out,yB]);obtain⟨S,R,rfl,_⟩:=Z.rd;have kJ:=H.cell
  go_wp2_with (refine aA rfl _ _ _ rfl (w.heap.size+1) #[.slice S C.length R,.int .i64 k] rfl rfl _ _ X rfl store_size (vI _ _ _ _) ?_)
  intro w5 hG j;have hP:=Z.keep X (by decide) (by decide) j;have z:=O.grown j O.size oG0;go_wp2;refine bodyPost_ret (v:=.agg #[.slice S C.length R,.int .i64 k]) (fG results60 _ _ (w.heap.size+1) _ _ _ rfl hG underlying41 rfl store_size) rfl ?_;exact⟨_,_,rfl,hP,kg.out,z⟩
def wU(ps:List PF):List Int:=ps.flatMap PF.l
theorem Bi(h:List PF)(k:Int):kJ (cK h k)=wU h:=by
 unfold kJ cK wU;rw[Eb];rfl
theorem Om{h:List PF}{p:PF}(j:h[q]?=some p):wU (h.take (q+1))=wU (h.take q)++p.l:=by
 unfold wU;rw[take_at j,fI];simp
theorem Cg(A:List PF)(k x:Int)(a:Option Addr)(c:Nat)(w:World)(h:Mg w a c A) :
  Calls Tryz.prog 34 #[.agg (MJ a A.length c k),.int .i64 x] w λr w'=>r = .returned (.bool (iH (cK A k) x))/\Below w.heap.size w w':=by
 have U:=bi h.le h.mx;unfold maxLen at U;unfold MJ;go_enter func34,ntmps34;go_upto_region 1 with(fail);refine iG (λW=>Code.wp _ _ _ _ W) λW0 L e X => ?_;clear X;have R:=e.cell;go_upto_region 2 with(fail);clear R e
 go_loopw [12] (fun i wr => ∃(q:Nat),q<=A.length/\i = .int .i64 q/\¬x∈wU (A.take q)/\Below w.heap.size w wr) (fun i _=>A.length-(intOf i).toNat)
 case atStart=>exact⟨0,bq _,rfl,by simp[wU],L⟩
 case round=>
  clear L;obtain⟨q,hq,rfl,z,d⟩:=hrel;have K:=ae z;clear z
  by_cases H:q<A.length
  .obtain⟨b,off,p,rfl,G,c0,c1⟩:=xP (h.below d).rd q H;have t:=h.good p (bS G);have Y:=ae (Om G);have S:Hid (∀y∈p.l,y∈wU A):=ae (λy D=>jV.2 ⟨p,bS G,D⟩);have V:=bi t.le t.mx;unfold maxLen at V;clear G
   go_wp2_with (refine aK rfl _ _ _ rfl (qF p) rfl rfl rfl file_size (rO _) ?_)
   intro w2 M N;have g:=ag d M;have O:=N.cell;have f0:(qF p)[0]?=some (.int .i64 p.n):=rfl;have f1:(qF p)[1]?=some (.slice p.a p.l.length p.c):=rfl;clear d M c0 c1;go_upto_region 5 with(fail);clear O f0 f1 N
   go_loopw [19] (fun i wr => ∃(j:Nat),j<=p.l.length/\i = .int .i64 j/\¬x∈p.l.take j/\Below w.heap.size w wr) (fun i _=>p.l.length-(intOf i).toNat)
   case atStart=>exact⟨0,bq _,rfl,by simp,g⟩
   case round=>
    clear g;obtain⟨j,hj,rfl,e,d⟩:=hrel;have J:=ae e;clear e
    by_cases E:j<p.l.length
    .obtain⟨b2,I,v,Z⟩:=kD (t.rd.below d) j E;have u:p.l.take (j+1)=p.l.take j++[p.l[j]]:=take_at (aF E);have m:=ae (S.out _ (eu E));have o:=ae u;rw[v];clear u v;generalize p.l[j]=y at Z o m
     by_cases D:y=x
     .have f:Hid (iH (cK A k) x=true):=ae (by unfold iH;rw[Bi,<-D];exact decide_eq_true m.out);subst D;go_wp2;go_ret;exact⟨bX f.out.symm,d⟩
     have s:Hid (¬x∈p.l.take (j+1)):=ae (by
      rw[o.out];intro C;rcases gH.1 C with C|C
      .exact J.out C
      .exact D (bB.1 C).symm)
     have hs:(y==x)=false:=beq_eq_false_iff_ne.2 D;clear D;go_wp2;go_roundw
     case rel=>exact⟨j+1,by omega,by go_num,s.out,d⟩
     case measure=>simp[intOf];omega
    have s:Hid (¬x∈wU (A.take (q+1))):=ae (by
     have F:=J.out;rw[jD (by omega)]at F;rw[Y.out];intro C;rcases gH.1 C with C|C
     .exact K.out C
     .exact F C)
    go_wp2;go_roundw
    case rel=>exact⟨q+1,by omega,by go_num,s.out,d⟩
    case measure=>simp[intOf];omega
  have f:Hid (iH (cK A k) x=false):=ae (by have F:=K.out;rw[jD (by omega)]at F;unfold iH;rw[Bi];exact decide_eq_false F);go_wp2;go_ret;exact⟨bX f.out.symm,d⟩
theorem PR(l:List Int)(x:Int)(a:Option Addr)(c:Nat)(w:World)(A:eB w a (l.map gB))(E:l.length<=9223372036854775807) :
  Calls Tryz.prog 220 #[.slice a l.length c,.int .i64 x] w λe w'=>e = .returned (.int .i64 (idx (λy=>decide (x=y)) l))/\Below w.heap.size w w':=by
 go_enter func220,ntmps220;go_wp2
 go_loopw [8] (fun i wr => ∃k:Nat,k<=l.length/\i = .int .i64 k/\Below w.heap.size w wr/\∀i (h:i<l.length),i<k->(fun y=>decide (x=y)) l[i]=false) (fun i _=>l.length-(intOf i).toNat)
 case atStart=>exact⟨0,bq _,rfl,Below.refl _ _,λi _ h=>absurd h (fq _)⟩
 case round=>
  obtain⟨k,F,rfl,f,g⟩:=hrel;have C:=ae g;clear g
  by_cases u:k<l.length
  .obtain⟨b,off,rfl,G⟩:=kD (A.below f) k u
   by_cases z:x=l[k]
   .have d:=ae (uJ (λy=>decide (x=y)) l k u C.out (decide_eq_true z));have D:(x==l[k])=true:=beq_iff_eq.2 z;clear z;go_wp2;go_ret;exact⟨aX d.out.symm,f⟩
   have j:=ae (show (λy=>decide (x=y)) l[k]=false from decide_eq_false z);have D:(x==l[k])=false:=beq_eq_false_iff_ne.2 z;clear z;go_wp2;go_roundw
   case rel=>exact⟨k+1,by omega,by go_num,f,mM C.out u j.out⟩
   case measure=>simp[intOf];omega
  have d:=ae (mr (λy=>decide (x=y)) l λi h=>C.out i h (by omega));go_wp2;go_ret;exact⟨aX d.out.symm,f⟩
theorem IJ(l:List Int)(x:Int)(a:Option Addr)(c:Nat)(w:World)(h:eB w a (l.map gB))(j:l.length<=9223372036854775807) :
  Calls Tryz.prog 215 #[.slice a l.length c,.int .i64 x] w λe w'=>e = .returned (.bool (decide (x∈l)))/\Below w.heap.size w w':=by
 go_enter func215,ntmps215
 go_wp2_with fail
 refine(PR l x a c _ h j).mono ?_;rintro e w2 ⟨rfl,d⟩;have b:=ae ((pK (λy=>decide (x=y)) l).trans (Vr l x));go_wp2;go_ret;exact⟨bX b.out,d⟩
def hasB(x:Int)(p:PF):Bool:=decide (x∈p.l)
theorem Qe(p:PF)(g:Nat)(x:Int)(w:World)(y:aG w g #[.int .i64 x] 3)(u:p.good w) :
  Calls Tryz.prog 214 #[.agg #[.int .i64 p.n,.slice p.a p.l.length p.c],.pointer (some ⟨g,0,none⟩)] w λr w'=>r = .returned (.bool (hasB x p))/\Below w.heap.size w w':=by
 have i:=bi u.le u.mx;unfold maxLen at i;go_enter func214,ntmps214;go_upto_region 1 with(fail);refine iG (λW=>Code.wp _ _ _ _ W) λW0 b d f => ?_;clear f;have k:=(y.ext b).cell 0;have m:=d.cell;have h:=u.below b
 go_wp2_with fail
 refine(IJ p.l x p.a p.c _ h.rd (by omega)).mono ?_;rintro e w2 ⟨rfl,j⟩;go_wp2;go_ret;exact⟨rfl,ag b j⟩
theorem WK{j:List PF}(h:eB w a (j.flatMap rH))(k:Nat)(y:k<j.length):∃b off,a=some ⟨b,off,none⟩/\w.cell? ⟨b,off+k*2,none⟩=some (.int .i64 j[k].n)/\w.cell? ⟨b,off+k*2+1,none⟩=some (.slice j[k].a j[k].l.length j[k].c):=by
 obtain⟨b,off,z,u⟩:=h.elem kR (by decide) k y;exact⟨b,off,z,u 0 _ rfl,u 1 _ rfl⟩
theorem Rn(l:List PF)(a:Option Addr)(c:Nat)(w:World)(z:eB w a (l.flatMap rH))(D:l.length<=9223372036854775807)(g:Nat)(x:Int)(C:aG w g #[.int .i64 x] 3)(y:∀p∈l,p.good w) :
  Calls Tryz.prog 219 #[.slice a l.length c,.func (.func 214) #[] #[.pointer (some ⟨g,0,none⟩)]] w λe w'=>e = .returned (.int .i64 (idx (hasB x) l))/\Below w.heap.size w w':=by
 go_enter func219,ntmps219;go_wp2
 go_loopw [8] (fun i wr => ∃k:Nat,k<=l.length/\i = .int .i64 k/\Below w.heap.size w wr/\∀i (h:i<l.length),i<k->(hasB x) l[i]=false) (fun i _=>l.length-(intOf i).toNat)
 case atStart=>exact⟨0,bq _,rfl,Below.refl _ _,λi _ h=>absurd h (fq _)⟩
 case round=>
  obtain⟨k,E,rfl,f,n⟩:=hrel;have A:=ae n;clear n
  by_cases u:k<l.length
  .obtain⟨b,off,rfl,G,F⟩:=WK (z.below f) k u
   go_wp2_with fail
   refine(Qe l[k] g x _ (C.ext f) ((y _ (eu u)).below f)).mono ?_;rintro e w2 ⟨rfl,o⟩;have j:=ag f o;clear o;cases hpk:(hasB x) l[k]
   .have m:=ae hpk;clear hpk;go_wp2;go_roundw
    case rel=>exact⟨k+1,by omega,by go_num,j,mM A.out u m.out⟩
    case measure=>simp[intOf];omega
   have d:=ae (uJ (hasB x) l k u A.out hpk);clear hpk;go_wp2;go_ret;exact⟨aX d.out.symm,j⟩
  have d:=ae (mr (hasB x) l λi h=>A.out i h (by omega));go_wp2;go_ret;exact⟨aX d.out.symm,f⟩
theorem QI(l:List PF)(a:Option Addr)(c:Nat)(w:World)(j:eB w a (l.flatMap rH))(u:l.length<=9223372036854775807)(g:Nat)(x:Int)(y:aG w g #[.int .i64 x] 3)(h:∀p∈l,p.good w) :
  Calls Tryz.prog 213 #[.slice a l.length c,.func (.func 214) #[] #[.pointer (some ⟨g,0,none⟩)]] w λe w'=>e = .returned (.bool (l.any (hasB x)))/\Below w.heap.size w w':=by
 go_enter func213,ntmps213
 go_wp2_with fail
 refine(Rn l a c _ j u g x y h).mono ?_;rintro e w2 ⟨rfl,b⟩;go_wp2;go_ret;exact⟨bX (pK _ _),b⟩
theorem SI(u:List PF)(k x:Int):u.any (hasB x)=iH (cK u k) x:=by
 unfold iH hasB;rw[Bi,nC,jK,decide_eq_true_eq];unfold wU;rw[jV];constructor
 .rintro⟨p,j,h⟩;exact⟨p,j,of_decide_eq_true h⟩
 .rintro⟨p,j,h⟩;exact⟨p,j,decide_eq_true h⟩
theorem Qy(z:List PF)(k:Int)(a:Option Addr)(c g:Nat)(w:World)(h:Mg w a c z)(E:aG w g (MJ a z.length c k) 41)(H:k<=80) :
  Calls Tryz.prog 208 #[.pointer (some ⟨g,0,none⟩)] w λr w'=>r = .returned (.int .i64 (iD (cK z k)))/\Below w.heap.size w w':=by
 have x:=bi h.le h.mx;unfold maxLen at x;unfold MJ at E;go_enter func208,ntmps208;have l:=E.cell;go_upto_region 2 with(fail);clear l
 go_loopw [8] (fun i wr => ∃(q:Nat),((q:Int)<=k\/q=0)/\i = .int .i64 q/\Below w.heap.size w wr/\∀i:Nat,i<q->iH (cK z k) i=true) (fun i _=>k.toNat-(intOf i).toNat)
 case atStart=>exact⟨0,.inr rfl,rfl,Below.refl _ _,λi A=>absurd A (fq _)⟩
 case round=>
  obtain⟨q,G,rfl,j,p⟩:=hrel;have C:=ae p;clear p
  by_cases D:(q:Int)<k
  .have u:=E.ext j;go_upto_region 4 with(refine KT rfl _ _ _ rfl (.int .i64 q) rfl rfl rfl int_size rfl ?_);intro w2 n t;have b:=ag j n;have o:=u.ext n;have l:=o.cell;have h2:=h.below b;clear j n u
   go_wp2_with fail
   refine(QI z a c _ h2.rd (by omega) wr.heap.size q t h2.good).mono ?_;rintro e F ⟨rfl,m⟩;have f:=ag b m;have y:=(t.ext m).cell 0;rw[SI z k];clear l b o m;cases hus:iH (cK z k) q
   .have d:=ae (Qg (s:=cK z k) D C.out hus);clear hus;go_wp2;go_ret;exact⟨aX d.out.symm,f⟩
   have v:Hid (∀i:Nat,i<q+1->iH (cK z k) i=true):=ae (λi A=>by
    by_cases e:i=q
    .subst e;exact hus
    .exact C.out i (by omega))
   clear hus;go_wp2;go_roundw
   case rel=>exact⟨q+1,by omega,by go_num,f,v.out⟩
   case measure=>simp[intOf];omega
  have d:=ae (LG (s:=cK z k) (λi A=>C.out i (by have:(i:Int)<k:=A;omega)));go_wp2;go_ret;exact⟨aX d.out.symm,j⟩
theorem Pm{j:List PF}{k:Int}(h:aR (cK j k)=0):Xt j:=by
 have A:=lZ h;have h2:j.length<=5:=by simpa[cK]using A.1
 refine⟨by omega,λp y => ?_⟩;have u:=zP h p.fi (by simpa[cK]using Dx y);have z:=yC u.2.1;have D:(p.l.length:Int)=fw p.n:=u.2.2.1;have C:fw p.n<=12:=z;omega
theorem VX(cur:Array Value)(o:Nat)(x y:Value)(h:cur[o+1]?=some y):bJ cur o [x,y]=cur.setIfInBounds o x:=by
 show(cur.setIfInBounds o x).setIfInBounds (o+1) y=cur.setIfInBounds o x;apply mI;intro i;rw[Al]
 by_cases e:o+1=i
 .subst e;have a:o+1<cur.size:=(iX.1 h).1;rw[if_pos rfl,if_pos (by simpa using a),ib (by omega),h]
 .rw[if_neg e]
theorem Vx(cur:Array Value)(o:Nat)(x y:Value)(h:cur[o]?=some x):bJ cur o [x,y]=cur.setIfInBounds (o+1) y:=by
 show(cur.setIfInBounds o x).setIfInBounds (o+1) y=cur.setIfInBounds (o+1) y;congr 1;apply mI;intro i;rw[Al]
 by_cases e:o=i
 .subst e;have a:o<cur.size:=(iX.1 h).1;rw[if_pos rfl,if_pos a,h]
 .rw[if_neg e]
theorem rz.set{y:List PF}(h:rz w B v y)(G:k<y.length){p' : PF}(F:Own w' B 101 2 v y.length ((y.set k p').flatMap rH))(E:Own w' B 3 1 (nQ p') p'.l.length (p'.l.map gB))
 (A:∀(i:Nat) q,i≠k->y[i]?=some q->Own w' B 3 1 (nQ q) q.l.length (q.l.map gB)) (D:∀(i:Nat) q,i≠k->y[i]?=some q->Apart (nQ p') (nQ q)):rz w' B v (y.set k p') where
 own:=by rw[bL];exact F
 each:=λi q u=>by
  rw[oq]at u
  by_cases e:k=i
  .rw[if_pos e]at u
   by_cases H:i<y.length
   .rw[if_pos (by omega)]at u;cases u;exact E
   .rw[if_neg (by omega)]at u;cases u
  rw[if_neg e]at u;exact A i q (λC=>e C.symm) u
 apart:=λi j q r a u z=>by
  rw[oq]at u z
  by_cases e:k=i
  .rw[if_pos e,if_pos (by omega)]at u;cases u;rw[if_neg (by omega)]at z;exact D j r (by omega) z
  rw[if_neg e]at u
  by_cases C:k=j
  .rw[if_pos C,if_pos (by omega)]at z;cases z;exact(D i q (by omega) u).symm
  rw[if_neg C]at z;exact h.apart i j q r a u z
theorem rz.file{z:List PF}(h:rz w B v z){p:PF}(E:z[k]?=some p) :
  ∃g off C cur,v = .slice (some ⟨g,off,none⟩) z.length C/\B<=g/\aG w g cur 101/\off+k*2+2<=cur.size/\cur[off+k*2]?=some (.int .i64 p.n)/\cur[off+k*2+1]?=some (.slice p.a p.l.length p.c) /\
   (∀w' n,aG w' g (cur.setIfInBounds (off+k*2) (.int .i64 n)) 101->w.grownBy w' (some g)->rz w' B v (z.set k ⟨n,p.a,p.l,p.c⟩)) /\
   (∀w' a l c,aG w' g (cur.setIfInBounds (off+k*2+1) (.slice a l.length c)) 101->w.grownBy w' (some g)->Own w B 3 1 (.slice a l.length c) l.length (l.map gB)->(∀(j:Nat) q,j≠k->z[j]?=some q->Apart (.slice a l.length c) (nQ q))->rz w' B v (z.set k ⟨p.n,a,l,c⟩)):=by
 have F:=(cz.1 E).1;have o:=(cz.1 E).2;obtain⟨g,off,C,cur,K,W,b,r,m⟩:=oO kR (by decide) rfl h.own k F;have e:∀j u,(z.flatMap rH)[j]?=some u->cur[off+j]?=some u:=by
  rcases h.own.2 with⟨H,h2⟩|⟨X,J,L,G,D,V,y,_,_,_,S⟩
  .omega
  rw[K]at D;cases D;have:cur=G:=by unfold aG at b y;rw[b]at y;simpa using y
  subst this;exact S
 have N:cur[off+k*2]?=some (.int .i64 p.n):=by have:=e (k*2) (.int .i64 p.n) (by have:=flat_get rH 2 kR z k F 0 (.int .i64 p.n) (by rw[o];rfl);simpa using this);exact this
 have M:cur[off+k*2+1]?=some (.slice p.a p.l.length p.c):=by have:=e (k*2+1) (.slice p.a p.l.length p.c) (flat_get rH 2 kR z k F 1 _ (by rw[o];rfl));simpa[nV]using this
 have f:∀ {w' : World},w.grownBy w' (some g)->∀(i:Nat) q,z[i]?=some q->Own w' B 3 1 (nQ q) q.l.length (q.l.map gB):=λd i q A=>ax (h.each i q A) b (by decide) d;have s:∀(j:Nat) q,j≠k->z[j]?=some q->Apart (nQ p) (nQ q):=λj q R A=>by
  rcases wC R with H|H
  .exact(h.apart j k q p H A E).symm
  .exact h.apart k j p q H E A
 refine⟨g,off,C,cur,K,W,b,r,N,M,λw' n I d => ?_,λw' a l c I d O U => ?_⟩
 .refine h.set F (m w' ⟨n,p.a,p.l,p.c⟩ ?_) (f d k p E) (λi q _ A=>f d i q A) s;rw[show rH ⟨n,p.a,p.l,p.c⟩=[.int .i64 n,.slice p.a p.l.length p.c]from rfl,VX _ _ _ _ M];exact I
 refine h.set F (m w' ⟨p.n,a,l,c⟩ ?_) (ax O b (by decide) d) (λi q _ A=>f d i q A) U;rw[show rH ⟨p.n,a,l,c⟩=[.int .i64 p.n,.slice a l.length c]from rfl,Vx _ _ _ _ N];exact I
theorem rz.num{y:List PF}(h:rz w B v y){p:PF}(D:y[k]?=some p)(L:i<p.l.length) :
  ∃g off A cur,p.a=some ⟨g,off,none⟩/\p.c=A/\B<=g/\aG w g cur 3/\off+i+1<=cur.size /\
   ∀w' x,aG w' g (bJ cur (off+i) [.int .i64 x]) 3->w.grownBy w' (some g)->rz w' B v (y.set k ⟨p.n,p.a,p.l.set i x,p.c⟩):=by
 have K:=(cz.1 D).1;have u:=(cz.1 D).2;have b:=h.each k p D;rw[<-kv]at b;obtain⟨g,off,A,cur,E,O,d,s,o⟩:=oO (λx:Int=>(rfl : [gB x].length=1)) (by decide) rfl b i L;unfold nQ at E;simp only[mK]at E;obtain⟨G,_,M⟩:=E;refine⟨g,off,A,cur,G,M,O,d,(by simpa using s),λw' x N r => ?_⟩;have t:∀(j:Nat) q,j≠k->y[j]?=some q->Apart (nQ p) (nQ q):=λj q C z=>by
  rcases wC C with F|F
  .exact(h.apart j k q p F z D).symm
  .exact h.apart k j p q F D z
 have m : Own w' B 101 2 v y.length (y.flatMap rH):=ax h.own d (by decide) r;have f:(y.set k ⟨p.n,p.a,p.l.set i x,p.c⟩).flatMap rH=y.flatMap rH:=by
  have R:rH ⟨p.n,p.a,p.l.set i x,p.c⟩=rH p:=by simp[rH,qF]
  apply nY;intro j
  by_cases C:j<y.length*2
  .have z:j / 2<y.length:=by omega
   have J:=jZ rH 2 kR (y.set k ⟨p.n,p.a,p.l.set i x,p.c⟩) (j / 2) (by rw[bL];exact z) (j%2) (by omega);have I:=jZ rH 2 kR y (j / 2) z (j%2) (by omega);rw[show j / 2*2+j%2=j from by omega]at J I;rw[J,I];congr 1;rw[DC]
   by_cases e:k=j / 2
   .rw[if_pos e,R,<-u];congr 1;simp only[e]
   .rw[if_neg e]
  .rw[eY (by rw[Pw.flat_len rH 2 kR,bL];omega),eY (by rw[Pw.flat_len rH 2 kR];omega)]
 refine h.set K (by rw[f];exact m) ?_ (λj q C z=>(h.each j q z).apart (t j q C z) (by
  have:(nQ p).ownBlock=some g:=by unfold nQ;rw[G];rfl
  rw[this];exact r)) (λj q C z=>by rw[show nQ ⟨p.n,p.a,p.l.set i x,p.c⟩=nQ p from by simp[nQ]];exact t j q C z)
 have H:=o w' x (by rw[uu];exact N);rw[kv]at H;simpa[nQ]using H
theorem NU(A:List PF)(k file index:Int)(a:Option Addr)(c:Nat)(w:World)(h:Mg w a c A)(hk64 : -9223372036854775808<=k/\k<=9223372036854775807) :
  Calls Tryz.prog 192 #[.agg (MJ a A.length c k),.int .i64 file,.int .i64 index] w λr w' => ∃v S k',r = .returned (.tuple #[.agg #[v,.int .i64 k'],.int .i64 (eX (cK A k) file index),.int .i64 (dJ (cK A k) file index)])/\rz w' w.heap.size v S/\cK S k' = eG (cK A k) file index/\Below w.heap.size w w':=by
 have kq:=bi h.le h.mx;unfold maxLen at kq;unfold MJ;go_enter func192,ntmps192;go_upto_region 1 with(fail);refine uT (λW=>Code.wp _ _ _ _ W) λW0 h3 hS kc km => ?_;clear km
 go_wp2_with (refine ay _ _ rfl _ 0 rfl rfl _ hS.rd _ underlying41 rfl store_size ?_)
 refine(Fy A k a c _ (h.below h3) hk64).mono ?_;rintro r w1 ⟨rfl,hN⟩;have d:=ag h3 hN;have M:=hS.ext hN;have o:=kc.ext hN;clear h3 hS kc hN
 by_cases K:aR (cK A k)=0
 .have L:=ae K;rw[K];clear K;have ku:=M.cell
  by_cases h5:file<0\/(A.length:Int)<=file
  .have E:Hid _:=ae (yO (s:=cK A k) (k:=file) (i:=index) (e:=5) (by unfold dJ;rw[if_neg (by rw[L.out];simp),if_pos (by simpa[cK]using h5)]) (by decide));have ky : file<0\/(¬file<0/\(A.length:Int)<=file):=by omega
   clear h5;rcases ky with g1|⟨g1,g2⟩
   .skip
    go_wp2_with (refine aA rfl _ _ _ rfl (w.heap.size+1) #[.slice none 0 0,.int .i64 0] rfl rfl _ _ o rfl store_size (vI none 0 0 0) ?_)
    all_goals
     intro D t f;have j:Below w.heap.size w D:=d.grown f d.size oG0;go_wp2;refine bodyPost_ret (v:=.tuple #[.agg #[.slice none 0 0,.int .i64 0],.int .i64 0,.int .i64 (5)]) (bZ results192 _ _ (w.heap.size+1) _ _ _ _ _ rfl rfl rfl t underlying41 rfl store_size) rfl ?_;have q:=E.out;exact⟨_,_,_,by rw[q.1,q.2.1],rz.nil _ _,by rw[q.2.2];rfl,j⟩
   skip
   go_wp2_with (refine aA rfl _ _ _ rfl (w.heap.size+1) #[.slice none 0 0,.int .i64 0] rfl rfl _ _ o rfl store_size (vI none 0 0 0) ?_)
   all_goals
    intro D t f;have j:Below w.heap.size w D:=d.grown f d.size oG0;go_wp2;refine bodyPost_ret (v:=.tuple #[.agg #[.slice none 0 0,.int .i64 0],.int .i64 0,.int .i64 (5)]) (bZ results192 _ _ (w.heap.size+1) _ _ _ _ _ rfl rfl rfl t underlying41 rfl store_size) rfl ?_;have q:=E.out;exact⟨_,_,_,by rw[q.1,q.2.1],rz.nil _ _,by rw[q.2.2];rfl,j⟩
  obtain⟨F,rfl⟩:=iL (show 0<=file by omega);have hF:F<A.length:=by omega
  have kK:(F:Int)<(A.length:Int):=by omega
  obtain⟨b,off,p,rfl,hp,c0,c1⟩:=xP (h.below d).rd F hF;have kF:=h.good p (bS hp);have kp:=ae hp;have hJ:Hid (aN (cK A k) F=p.fi):=ae (by unfold aN cK;rw[if_pos (by omega),bu,aY,iV,hp];rfl);have hW:Hid (¬((F:Int)<0\/(((cK A k).fs.length:Nat):Int)<=(F:Int))):=ae (by simpa[cK]using hF);clear h5 hp
  by_cases h9:index<0\/(p.l.length:Int)<=index
  .have E:Hid _:=ae (yO (s:=cK A k) (k:=F) (i:=index) (e:=9) (by unfold dJ;rw[if_neg (by rw[L.out];simp),if_neg hW.out,if_pos (by rw[hJ.out];exact h9)]) (by decide));have kx : index<0\/(¬index<0/\(p.l.length:Int)<=index):=by omega
   clear h9;rcases kx with g1|⟨g1,g2⟩
   .skip
    go_wp2_with (refine aA rfl _ _ _ rfl (w.heap.size+1) #[.slice none 0 0,.int .i64 0] rfl rfl _ _ o rfl store_size (vI none 0 0 0) ?_)
    all_goals
     intro D t f;have j:Below w.heap.size w D:=d.grown f d.size oG0;go_wp2;refine bodyPost_ret (v:=.tuple #[.agg #[.slice none 0 0,.int .i64 0],.int .i64 0,.int .i64 (9)]) (bZ results192 _ _ (w.heap.size+1) _ _ _ _ _ rfl rfl rfl t underlying41 rfl store_size) rfl ?_;have q:=E.out;exact⟨_,_,_,by rw[q.1,q.2.1],rz.nil _ _,by rw[q.2.2];rfl,j⟩
   skip
   go_wp2_with (refine aA rfl _ _ _ rfl (w.heap.size+1) #[.slice none 0 0,.int .i64 0] rfl rfl _ _ o rfl store_size (vI none 0 0 0) ?_)
   all_goals
    intro D t f;have j:Below w.heap.size w D:=d.grown f d.size oG0;go_wp2;refine bodyPost_ret (v:=.tuple #[.agg #[.slice none 0 0,.int .i64 0],.int .i64 0,.int .i64 (9)]) (bZ results192 _ _ (w.heap.size+1) _ _ _ _ _ rfl rfl rfl t underlying41 rfl store_size) rfl ?_;have q:=E.out;exact⟨_,_,_,by rw[q.1,q.2.1],rz.nil _ _,by rw[q.2.2];rfl,j⟩
  obtain⟨I,rfl⟩:=iL (show 0<=index by omega);have hI:I<p.l.length:=by omega
  have kI:(I:Int)<(p.l.length:Int):=by omega
  have kh:Hid (¬((I:Int)<0\/(((aN (cK A k) F).b.length:Nat):Int)<=(I:Int))):=ae (by rw[hJ.out];exact h9);have kl:=Pm L.out;have kE:A.length<=5:=by simpa[cK]using(lZ L.out).1
  have hQ:k<=80:=(lZ L.out).2.2;clear h9
  go_wp2_with (refine ay _ _ rfl _ 0 rfl rfl _ M.rd _ underlying41 rfl store_size ?_)
  refine(Lr A k _ c _ (h.below d) kl).mono ?_;rintro r w2 ⟨v2,G,rfl,h7,hm,hM⟩;have kd:=ae hm;have ke:G.length=A.length:=by simpa using congrArg List.length hm
  have ko:F<G.length:=by omega
  clear ke;obtain⟨q,R⟩:∃q,G[F]?=some q:=⟨G[F]'ko,aF _⟩;have hU:q.fi=p.fi:=by have h1:=congrArg (λl=>l[F]?) hm;simp only[iV,R,kp.out,rY,jA]at h1;exact h1
  have hV:=ae (show q.l=p.l from congrArg Fi.b hU);have kn:=ae (show q.n=p.n from congrArg Fi.n hU);have hn:I<q.l.length:=by rw[hV.out];exact hI
  have hE:=ag d hM;have ka:=M.ext hM;have hg:=o.ext hM;have hR:=h7.mono d.size;obtain⟨av,cv,rfl,_⟩:=h7.rd;clear hm ku d M o hM h7 c0 c1
  go_wp2_with (refine aK rfl _ _ _ rfl #[.slice av G.length cv,.int .i64 k] rfl rfl rfl store_size (vI _ _ _ _) ?_)
  intro w3 hH N;have ha:=ag hE hH;have h8:=ka.ext hH;have hd:=hg.ext hH;have H:=hR.below hH;have kr:w.heap.size+1<w2.heap.size:=hg.lt;obtain⟨gg,kk⟩:∃g,g=w2.heap.size:=⟨_,rfl⟩;rw[<-kk]at N kr ⊢;clear kk hE ka hg hR hH;obtain⟨g,off9,cap,cur,hv,kL,hD,kA,e0,e1,_,_⟩:=H.file R;obtain⟨g2,V,cap2,cur2,kg,kC,kM,hC,kt,hu⟩:=H.num R (i:=I) hn;simp only[mK]at hv;obtain⟨rfl,_,rfl⟩:=hv;have kJ:(F:Int)<(G.length:Int):=by omega
  have kH:(I:Int)<(q.l.length:Int):=by omega
  rw[kg]at e1;have hK:=N.cell;have hL:=hD.cell;have hZ:w3.cell? ⟨g2,V+I,none⟩=some (.int .i64 q.l[I]):=by obtain⟨_,_,e2,hc⟩:=kD ((H.rd).elim λ_ M=>M.elim λ_ hy=>(hy.2.good q (bS R)).rd) I hn;rw[kg]at e2;cases e2;exact hc
  have J:Hid (bN (cK A k) F I=q.l[I]):=ae (by unfold bN;rw[hJ.out,bu];show p.l.getD I 0=_;rw[aY,<-hV.out,aF hn];rfl);generalize hB0:q.l[I]=B0 at hZ J;clear hB0 hU;go_upto_region 10 with(fail)
  by_cases C:B0<0
  .have hP:=h8;clear hL hZ hD e0 e1
   go_wp2_with fail
   refine(Qy A k _ c w.heap.size _ (h.below ha) hP hQ).mono ?_;rintro r w4 ⟨rfl,hG⟩;have ks:=QW (s:=cK A k) hQ;have y:=ag ha hG;have hb:=hd.ext hG;have O:=N.ext hG;have hO:=H.below hG;clear hP ha hd N H hG hK hu hC h8;have h2:Hid (dJ (cK A k) F I=if iD (cK A k)<0 then 10 else 0):=ae (by
    unfold dJ;rw[if_neg (by rw[L.out];simp),if_neg hW.out,if_neg kh.out,J.out]
    by_cases z:iD (cK A k)<0
    .rw[if_pos ⟨C,z⟩,if_pos z]
    .rw[if_neg (λhh=>z hh.2),if_neg z])
   generalize hX:iD (cK A k)=X at h2 ks;have kj:=ae hX;clear hX
   by_cases hX0:X<0
   .have E:Hid _:=ae (yO (s:=cK A k) (k:=F) (i:=I) (e:=10) (by rw[h2.out,if_pos hX0]) (by decide));have d:=y;have o:=hb;clear y hb O hO
    go_wp2_with (refine aA rfl _ _ _ rfl (w.heap.size+1) #[.slice none 0 0,.int .i64 0] rfl rfl _ _ o rfl store_size (vI none 0 0 0) ?_)
    all_goals
     intro D t f;have j:Below w.heap.size w D:=d.grown f d.size oG0;go_wp2;refine bodyPost_ret (v:=.tuple #[.agg #[.slice none 0 0,.int .i64 0],.int .i64 0,.int .i64 (10)]) (bZ results192 _ _ (w.heap.size+1) _ _ _ _ _ rfl rfl rfl t underlying41 rfl store_size) rfl ?_;have q:=E.out;exact⟨_,_,_,by rw[q.1,q.2.1],rz.nil _ _,by rw[q.2.2];rfl,j⟩
   have hz:Hid (dJ (cK A k) F I=0):=ae (by rw[h2.out,if_neg hX0]);have u:Hid (eX (cK A k) F I=X/\dJ (cK A k) F I=0/\cK (G.set F ⟨q.n,q.a,q.l.set I X,q.c⟩) k=eG (cK A k) F I):=ae (by
    refine⟨?_,hz.out,?_⟩
    .unfold eX;rw[if_neg (by rw[hz.out];simp),J.out,if_pos C,kj.out]
    unfold eG;rw[if_neg (by rw[hz.out];simp),J.out,if_pos C,kj.out,hJ.out];unfold zW cK;rw[bu,bu,AV,kd.out];unfold PF.fi;rw[hV.out,kn.out])
   obtain⟨g3,off3,cap3,cur3,kb,kB,hB,_,e03,e13,_,_⟩:=hO.file R;obtain⟨g4,U,cap4,cur4,kf,kz,kw,m,hY,ht⟩:=hO.num R (i:=I) hn;simp only[mK]at kb;obtain⟨e31,_,e33⟩:=kb;cases e31;subst e33;rw[kf]at e13;have hK:=O.cell;have hL:=hB.cell;have kG:gg≠g4:=λe=>by subst e;unfold aG at O m;rw[O]at m;simp at m
   go_wp2_with (refine aB rfl _ _ _ rfl g4 (U+I) _ [.int .i64 X] rfl rfl rfl _ _ m hY int_size (IM _ _) ?_)
   intro D ki f;have h6:=ht D X ki f;have hA:=bY O m (by decide) f;have Y:=bY hb m (by decide) f;have x:=y.grown f y.size (λk hk=>by cases hk;exact kw);clear O hb hO y hB m ht hK hL e03 e13 ki f;have kv:=hA.cell
   go_wp2_with (first | (refine ay _ _ rfl _ 0 rfl rfl _ hA.rd _ underlying41 rfl store_size ?_) | (refine aA rfl _ _ _ rfl (w.heap.size+1) _ rfl rfl _ _ Y rfl store_size (vI _ _ _ _) ?_))
   intro wf hT Z;have h4:=h6.keep Y (by decide) (by decide) Z;have hi:=x.grown Z x.size oG0;go_wp2;refine bodyPost_ret (v:=.tuple #[.agg #[.slice _ _ _,.int .i64 k],.int .i64 (X),.int .i64 0]) (bZ results192 _ _ (w.heap.size+1) _ _ _ _ _ rfl rfl rfl hT underlying41 rfl store_size) rfl ?_;exact⟨_,_,_,by rw[u.out.1,u.out.2.1],h4,u.out.2.2,hi⟩
  have u:Hid (eX (cK A k) F I=B0/\dJ (cK A k) F I=0/\cK G k=eG (cK A k) F I):=ae (by
   have z:dJ (cK A k) F I=0:=by unfold dJ;rw[if_neg (by rw[L.out];simp),if_neg hW.out,if_neg kh.out,if_neg (by rw[J.out];omega)]
   refine⟨?_,z,?_⟩
   .unfold eX;rw[if_neg (by rw[z];simp),J.out,if_neg C]
   .unfold eG;rw[if_neg (by rw[z];simp),J.out,if_neg C];unfold cK;rw[kd.out])
  have hA:=N;have Y:=hd;have h6:=H;have x:=ha;clear N hd H ha hD hC hu hK hL hZ e0 e1;have kv:=hA.cell
  go_wp2_with (first | (refine ay _ _ rfl _ 0 rfl rfl _ hA.rd _ underlying41 rfl store_size ?_) | (refine aA rfl _ _ _ rfl (w.heap.size+1) _ rfl rfl _ _ Y rfl store_size (vI _ _ _ _) ?_))
  intro wf hT Z;have h4:=h6.keep Y (by decide) (by decide) Z;have hi:=x.grown Z x.size oG0;go_wp2;refine bodyPost_ret (v:=.tuple #[.agg #[.slice _ _ _,.int .i64 k],.int .i64 (B0),.int .i64 0]) (bZ results192 _ _ (w.heap.size+1) _ _ _ _ _ rfl rfl rfl hT underlying41 rfl store_size) rfl ?_;exact⟨_,_,_,by rw[u.out.1,u.out.2.1],h4,u.out.2.2,hi⟩
 have E:Hid _:=ae (yO (s:=cK A k) (k:=file) (i:=index) (e:=aR (cK A k)) (by unfold dJ;rw[if_pos K]) K);have kN : (aR (cK A k) != 0)=true:=by simpa using K
 clear K
 go_wp2_with (refine aA rfl _ _ _ rfl (w.heap.size+1) #[.slice none 0 0,.int .i64 0] rfl rfl _ _ o rfl store_size (vI none 0 0 0) ?_)
 all_goals
  intro D t f;have j:Below w.heap.size w D:=d.grown f d.size oG0;go_wp2;refine bodyPost_ret (v:=.tuple #[.agg #[.slice none 0 0,.int .i64 0],.int .i64 0,.int .i64 (aR (cK A k))]) (bZ results192 _ _ (w.heap.size+1) _ _ _ _ _ rfl rfl rfl t underlying41 rfl store_size) rfl ?_;have q:=E.out;exact⟨_,_,_,by rw[q.1,q.2.1],rz.nil _ _,by rw[q.2.2];rfl,j⟩
def ky(a:Ar):Array Value:=#[.int .i64 a.fr,.int .i64 a.en,.bool a.rd,.bool a.wr,.bool a.sh,.int .i64 a.fi,.int .i64 a.ba]
def mX(a:Ar):List Value:=(ky a).toList
theorem rW(a:Ar):(mX a).length=7:=rfl
theorem Vd(a:Ar):(ky a).all (·.oneCell')=true:=by simp[ky,Value.oneCell']
theorem area_size:(Tryz.prog.info? 94).map (·.size)=some 7:=by kernel_rfl
theorem area_info:(Tryz.prog.info? 94).map (λi=>(i.zero,i.size,i.bytes))=some (some (.agg #[.int .i64 0,.int .i64 0,.bool false,.bool false,.bool false,.int .i64 0,.int .i64 0]),7,40):=by kernel_rfl
def Gg(w:World)(b o:Nat)(a:Ar):Prop:=∀j u,(mX a)[j]?=some u->w.cell? ⟨b,o+j,none⟩=some u
theorem Gg.below{o:Nat}{a:Ar}(h:Gg w b o a)(z:Below w.heap.size w w'):Gg w' b o a:=λj u y=>cell_later z (h j u y)
theorem Gg.cells{o:Nat}{a:Ar}(h:Gg w b o a):w.cell? ⟨b,o,none⟩=some (.int .i64 a.fr)/\w.cell? ⟨b,o+1,none⟩=some (.int .i64 a.en)/\w.cell? ⟨b,o+2,none⟩=some (.bool a.rd)/\w.cell? ⟨b,o+3,none⟩=some (.bool a.wr) /\
  w.cell? ⟨b,o+4,none⟩=some (.bool a.sh)/\w.cell? ⟨b,o+5,none⟩=some (.int .i64 a.fi)/\w.cell? ⟨b,o+6,none⟩=some (.int .i64 a.ba):=
 ⟨h 0 _ rfl,h 1 _ rfl,h 2 _ rfl,h 3 _ rfl,h 4 _ rfl,h 5 _ rfl,h 6 _ rfl⟩
theorem Tf(b o:Nat)(a:Ar)(w:World)(h:Gg w b o a) :
  Calls Tryz.prog 169 #[.pointer (some ⟨b,o,none⟩)] w λe w'=>e = .returned (.int .i64 (aU a))/\Below w.heap.size w w':=by
 obtain⟨I,H,h2,G,F,E,D⟩:=h.cells;go_enter func169,ntmps169;go_upto_region 1 with(fail)
 by_cases O:a.fr<0
 .have j:Hid (aU a=3):=ae (by unfold aU;rw[if_pos (by omega)]);go_quiet (fail);go_wp2;go_ret;exact⟨aX j.out.symm,below_drewN (Below.refl _ _) _⟩
 by_cases N:a.en<=a.fr
 .have j:Hid (aU a=3):=ae (by unfold aU;rw[if_pos (by omega)]);go_quiet (fail);go_wp2;go_ret;exact⟨aX j.out.symm,below_drewN (Below.refl _ _) _⟩
 by_cases M:64<a.en
 .have j:Hid (aU a=3):=ae (by unfold aU;rw[if_pos (by omega)]);go_quiet (fail);go_wp2;go_ret;exact⟨aX j.out.symm,below_drewN (Below.refl _ _) _⟩
 by_cases L:a.fi < -1
 .have j:Hid (aU a=3):=ae (by unfold aU;rw[if_pos (by omega)]);go_quiet (fail);go_wp2;go_ret;exact⟨aX j.out.symm,below_drewN (Below.refl _ _) _⟩
 by_cases K:5<=a.fi
 .have j:Hid (aU a=3):=ae (by unfold aU;rw[if_pos (by omega)]);go_quiet (fail);go_wp2;go_ret;exact⟨aX j.out.symm,below_drewN (Below.refl _ _) _⟩
 by_cases J:a.ba<0
 .have j:Hid (aU a=3):=ae (by unfold aU;rw[if_pos (by omega)]);go_quiet (fail);go_wp2;go_ret;exact⟨aX j.out.symm,below_drewN (Below.refl _ _) _⟩
 have c:¬(a.fr<0\/a.en<=a.fr\/64<a.en\/a.fi < -1\/5<=a.fi\/a.ba<0):=by omega
 have f:IntKind.i64.wrap (a.en-a.fr)=a.en-a.fr:=bI _ (by omega);have d:IntKind.i64.wrap (12-(a.en-a.fr))=12-(a.en-a.fr):=bI _ (by omega);go_quiet (fail)
 by_cases z:a.fi<0
 .by_cases u:a.ba=0
  .cases f3:a.sh
   .have j:Hid (aU a=0):=ae (by unfold aU;rw[if_neg c,if_neg (by rw[f3];simp;omega)]);go_upto_region 4 with(fail);have A:decide (0<=a.fi)=false:=decide_eq_false (by omega);go_quiet (fail);go_wp2;go_ret;exact⟨aX j.out.symm,below_drewN (Below.refl _ _) _⟩
   have j:Hid (aU a=7):=ae (by unfold aU;rw[if_neg c,if_pos (.inl ⟨z,.inr f3⟩)]);go_wp2;go_ret;exact⟨aX j.out.symm,below_drewN (Below.refl _ _) _⟩
  have j:Hid (aU a=7):=ae (by unfold aU;rw[if_neg c,if_pos (.inl ⟨z,.inl u⟩)]);have C : (a.ba != 0)=true:=by simpa using u
  go_wp2;go_ret;exact⟨aX j.out.symm,below_drewN (Below.refl _ _) _⟩
 have y : 0<=a.fi:=by omega
 by_cases u:12-(a.en-a.fr)<a.ba
 .have j:Hid (aU a=7):=ae (by unfold aU;rw[if_neg c,if_pos (.inr ⟨y,u⟩)]);go_upto_region 4 with(fail);have A:decide (0<=a.fi)=true:=decide_eq_true (by omega);go_quiet (fail);go_wp2;go_ret;exact⟨aX j.out.symm,below_drewN (Below.refl _ _) _⟩
 have j:Hid (aU a=0):=ae (by unfold aU;rw[if_neg c,if_neg (by omega)]);go_upto_region 4 with(fail);have A:decide (0<=a.fi)=true:=decide_eq_true (by omega);go_quiet (fail);go_wp2;go_ret;exact⟨aX j.out.symm,below_drewN (Below.refl _ _) _⟩
theorem Ip(p q p' q' : Nat)(a b:Ar)(w:World)(h:Gg w p q a)(h' : Gg w p' q' b)(y:vk a) :
  Calls Tryz.prog 170 #[.pointer (some ⟨p,q,none⟩),.pointer (some ⟨p',q',none⟩)] w λe w'=>e = .returned (.bool (dN a b))/\Below w.heap.size w w':=by
 obtain⟨O,N,h2,M,L,K,J⟩:=h.cells;obtain⟨I,k1,H,G,F,E,D⟩:=h'.cells;obtain⟨C,A,z⟩:=y;have d:IntKind.i64.wrap (a.ba+a.en)=a.ba+a.en:=bI _ (by omega);have c:IntKind.i64.wrap (a.ba+a.en-a.fr)=a.ba+a.en-a.fr:=bI _ (by omega);go_enter func170,ntmps170
 by_cases u:0<=a.fi
 .go_upto_region 3 with(fail);go_quiet (fail);go_upto_region 4 with(fail);cases g1:(a.en==b.fr)
  .have j:Hid (dN a b=false):=ae (by unfold dN kH;rw[if_pos u];simp only[g1,lQ,mH,ny,oJ]);go_quiet (fail);go_wp2;go_ret;exact⟨bX j.out.symm,by first | exact below_drewN (Below.refl _ _) _ | exact below_drewN (below_drewN (Below.refl _ _) _) _⟩
  cases g2:(a.rd==b.rd)
  .have j:Hid (dN a b=false):=ae (by unfold dN kH;rw[if_pos u];simp only[g1,g2,lQ,mH,ny,oJ]);go_quiet (fail);go_wp2;go_ret;exact⟨bX j.out.symm,by first | exact below_drewN (Below.refl _ _) _ | exact below_drewN (below_drewN (Below.refl _ _) _) _⟩
  cases g3:(a.wr==b.wr)
  .have j:Hid (dN a b=false):=ae (by unfold dN kH;rw[if_pos u];simp only[g1,g2,g3,lQ,mH,ny,oJ]);go_quiet (fail);go_wp2;go_ret;exact⟨bX j.out.symm,by first | exact below_drewN (Below.refl _ _) _ | exact below_drewN (below_drewN (Below.refl _ _) _) _⟩
  cases g4:(a.sh==b.sh)
  .have j:Hid (dN a b=false):=ae (by unfold dN kH;rw[if_pos u];simp only[g1,g2,g3,g4,lQ,mH,ny,oJ]);go_quiet (fail);go_wp2;go_ret;exact⟨bX j.out.symm,by first | exact below_drewN (Below.refl _ _) _ | exact below_drewN (below_drewN (Below.refl _ _) _) _⟩
  cases g5:(a.fi==b.fi)
  .have j:Hid (dN a b=false):=ae (by unfold dN kH;rw[if_pos u];simp only[g1,g2,g3,g4,g5,lQ,mH,ny,oJ]);go_quiet (fail);go_wp2;go_ret;exact⟨bX j.out.symm,by first | exact below_drewN (Below.refl _ _) _ | exact below_drewN (below_drewN (Below.refl _ _) _) _⟩
  cases g6:(b.ba==(a.ba+a.en-a.fr))
  .have j:Hid (dN a b=false):=ae (by unfold dN kH;rw[if_pos u];simp only[g1,g2,g3,g4,g5,g6,lQ,mH,ny,oJ]);go_quiet (fail);go_wp2;go_ret;exact⟨bX j.out.symm,by first | exact below_drewN (Below.refl _ _) _ | exact below_drewN (below_drewN (Below.refl _ _) _) _⟩
  have j:Hid (dN a b=true):=ae (by unfold dN kH;rw[if_pos u];simp only[g1,g2,g3,g4,g5,g6,lQ,mH,ny,oJ]);go_quiet (fail);go_wp2;go_ret;exact⟨bX j.out.symm,by first | exact below_drewN (Below.refl _ _) _ | exact below_drewN (below_drewN (Below.refl _ _) _) _⟩
 go_upto_region 4 with(fail);cases g1:(a.en==b.fr)
 .have j:Hid (dN a b=false):=ae (by unfold dN kH;rw[if_neg u];simp only[g1,lQ,mH,ny,oJ]);go_quiet (fail);go_wp2;go_ret;exact⟨bX j.out.symm,by first | exact below_drewN (Below.refl _ _) _ | exact below_drewN (below_drewN (Below.refl _ _) _) _⟩
 cases g2:(a.rd==b.rd)
 .have j:Hid (dN a b=false):=ae (by unfold dN kH;rw[if_neg u];simp only[g1,g2,lQ,mH,ny,oJ]);go_quiet (fail);go_wp2;go_ret;exact⟨bX j.out.symm,by first | exact below_drewN (Below.refl _ _) _ | exact below_drewN (below_drewN (Below.refl _ _) _) _⟩
 cases g3:(a.wr==b.wr)
 .have j:Hid (dN a b=false):=ae (by unfold dN kH;rw[if_neg u];simp only[g1,g2,g3,lQ,mH,ny,oJ]);go_quiet (fail);go_wp2;go_ret;exact⟨bX j.out.symm,by first | exact below_drewN (Below.refl _ _) _ | exact below_drewN (below_drewN (Below.refl _ _) _) _⟩
 cases g4:(a.sh==b.sh)
 .have j:Hid (dN a b=false):=ae (by unfold dN kH;rw[if_neg u];simp only[g1,g2,g3,g4,lQ,mH,ny,oJ]);go_quiet (fail);go_wp2;go_ret;exact⟨bX j.out.symm,by first | exact below_drewN (Below.refl _ _) _ | exact below_drewN (below_drewN (Below.refl _ _) _) _⟩
 cases g5:(a.fi==b.fi)
 .have j:Hid (dN a b=false):=ae (by unfold dN kH;rw[if_neg u];simp only[g1,g2,g3,g4,g5,lQ,mH,ny,oJ]);go_quiet (fail);go_wp2;go_ret;exact⟨bX j.out.symm,by first | exact below_drewN (Below.refl _ _) _ | exact below_drewN (below_drewN (Below.refl _ _) _) _⟩
 cases g6:(b.ba==0)
 .have j:Hid (dN a b=false):=ae (by unfold dN kH;rw[if_neg u];simp only[g1,g2,g3,g4,g5,g6,lQ,mH,ny,oJ]);go_quiet (fail);go_wp2;go_ret;exact⟨bX j.out.symm,by first | exact below_drewN (Below.refl _ _) _ | exact below_drewN (below_drewN (Below.refl _ _) _) _⟩
 have j:Hid (dN a b=true):=ae (by unfold dN kH;rw[if_neg u];simp only[g1,g2,g3,g4,g5,g6,lQ,mH,ny,oJ]);go_quiet (fail);go_wp2;go_ret;exact⟨bX j.out.symm,by first | exact below_drewN (Below.refl _ _) _ | exact below_drewN (below_drewN (Below.refl _ _) _) _⟩
theorem Tx{l:List Ar}(h:eB w a (l.flatMap mX))(k:Nat)(j:k<l.length):∃b off,a=some ⟨b,off,none⟩/\Gg w b (off+k*7) l[k]:=h.elem rW (by decide) k j
theorem EG{l:List Ar}(h:eB w (some ⟨b,off,none⟩) (l.flatMap mX))(k:Nat)(u:k<l.length):Gg w b (off+k*7) l[k]:=by
 obtain⟨z,j,e,y⟩:=Tx h k u;cases e;exact y
def Kj(e:Int × Int):Array Value:=#[.int .i64 e.1,.int .i64 e.2]
theorem fau_size:(Tryz.prog.info? 180).map (·.size)=some 2:=by kernel_rfl
theorem nO(x y:Int):(#[Value.int .i64 x,Value.int .i64 y]:Array Value).all (·.oneCell')=true:=by simp[Value.oneCell']
theorem ME(l:List Ar)(a:Option Addr)(c:Nat)(w:World)(hrd:eB w a (l.flatMap mX))(hl:l.length<=9223372036854775807) :
  Calls Tryz.prog 129 #[.slice a l.length c] w λe w'=>e = .returned (.agg (Kj (bP l)))/\Below w.heap.size w w':=by
 go_enter func129,ntmps129;go_upto_region 1 with(fail);refine iG (λW=>Code.wp _ _ _ _ W) λW0 d g hV => ?_;clear hV
 by_cases G:16<l.length
 .have hT : (16:Int)<(l.length:Int):=by omega
  have K:Hid (bP l=(4,0)):=ae (by unfold bP;rw[if_pos G])
  go_wp2_with (refine aA rfl _ _ _ rfl w.heap.size #[.int .i64 (4),.int .i64 (0)] rfl rfl _ _ g rfl fau_size (nO _ _) ?_)
  intro J t p;have o:Below w.heap.size w J:=d.grown p d.size (λk I=>by cases I;exact az _);go_wp2;refine bodyPost_ret (v:=.agg #[.int .i64 (4),.int .i64 (0)]) (fG results129 _ _ w.heap.size _ _ _ rfl t underlying180 rfl fau_size) rfl ?_;exact⟨by rw[K.out];rfl,o⟩
 have hT : ¬(16:Int)<(l.length:Int):=by omega
 have h0:Hid (bP l=jQ (qM l 0) 0 (l.drop 0)):=ae (by unfold bP;rw[if_neg G];rfl);go_upto_region 4 with(fail)
 go_loopw [11] (fun i wr => ∃k:Nat,k<=l.length/\i = .int .i64 k/\Below w.heap.size w wr/\aG wr w.heap.size #[.int .i64 0,.int .i64 0] 180/\(∀i (h:i<l.length),i<k->aU l[i]=0)/\Hid (bP l=jQ (qM l k) k (l.drop k))) (fun i _=>l.length-(intOf i).toNat)
 case atStart=>exact⟨0,bq _,rfl,d,g,λi _ h=>absurd h (fq _),h0⟩
 case round=>
  clear d g h0;obtain⟨k,I,rfl,d,g,hQ,z⟩:=hrel;have hp:=ae hQ;clear hQ
  by_cases D:k<l.length
  .obtain⟨b,off,rfl,hA⟩:=Tx (hrd.below d) k D;have hX:(k:Int)<(l.length:Int):=by omega
   go_wp2_with fail
   refine(Tf b (off+k*7) l[k] _ hA).mono ?_;rintro r w2 ⟨rfl,hD⟩;have j:=ag d hD;have n:=g.ext hD;clear d g hD hA
   by_cases O:aU l[k]=0
   .have u:=ae O;rw[O];clear O;go_upto_region 9 with(fail)
    by_cases hk0:k=0
    .subst hk0;have hW:decide ((0:Int)<((0:Nat):Int))=false:=rfl;have hB:Hid (bP l=jQ (qM l (0+1)) (0+1) (l.drop (0+1))):=ae (by rw[z.out];exact wI D u.out rfl);go_quiet (fail);go_wp2;go_roundw
     case rel=>exact⟨0+1,by omega,by go_num,below_drewN j _,n.drewN _,mM hp.out D u.out,hB⟩
     case measure=>simp[intOf];omega
    obtain⟨m,rfl⟩:∃m,k=m+1:=⟨k-1,by omega⟩;have hW:decide ((0:Int)<((m+1:Nat):Int))=true:=decide_eq_true (by omega);have R:IntKind.i64.wrap (((m+1:Nat):Int)-1)=(m:Int):=by rw[bI _ (by omega)];omega
    have x:m<l.length:=by omega
    have S:IntKind.i64.wrap (m:Int)=(m:Int):=bI _ (by omega);have L:(0:Int)<=(m:Int)+1:=by omega
    have M:(m:Int)+1<(l.length:Int):=by omega
    have N:((m:Int)+1).toNat=m+1:=by omega
    have hC:=ae (LM D);have hR:=(bM (hp.out m x (by omega))).1;have hY:=(bM u.out).1;have hS:=hrd.below j;have hm:=EG hS (m+1) D;have hi:=EG hS m x;generalize hA1:l[m+1]=A1 at *
    generalize hA0:l[m]=A0 at *
    by_cases H:A1.fr<A0.en
    .have K:Hid (bP l=(2,((m+1:Nat):Int))):=ae (by rw[z.out];exact wo D (by rw[hA1];exact u.out) (by rw[hA1,hC.out,decide_eq_true H];rfl));refine aV 26 [_,_,_,_,_,_,.v (.pointer (some ⟨b,off+m*7,none⟩)),_,.v (.int .i64 A0.en),_,_,.v (.pointer (some ⟨b,off+(m+1)*7,none⟩)),_,.v (.int .i64 A1.fr),_,_,_,_,_,_,_,_,_,_,_,.v (.bool true)] (Gk rfl (Gb (.bool true) (by simp[go_sem]) rfl rfl rfl rfl rfl (Gk rfl (Gk rfl (Gk rfl (Gb (.int .i64 (m:Int)) (by simp[go_sem,R,S]) rfl rfl rfl rfl rfl (ah ?_ (Gf b (off+m*7+1) rfl rfl (ah ?_ (Gk rfl (Gk rfl (ah ?_ (Gf b (off+(m+1)*7) rfl rfl (ah ?_ (Gb (.bool true) (by simp[go_sem,H]) rfl rfl rfl rfl rfl (Gk rfl (Gk rfl (Gk rfl (Gk rfl (Gk rfl (Gk rfl (Gk rfl (Gk rfl (Gk rfl (Gk rfl (Gk rfl (aI))))))))))))))))))))))))))) (λ_=>rfl) rfl ?_
     .intro ρ y W A F E C;have U:=A 26 3 rfl;have h3:y 3=_:=C 3 rfl;have V:=A 28 5 rfl;have h5:y 5=_:=C 5 rfl;refine ak (.pointer (some ⟨b,off+m*7,none⟩)) (bG 2 25 true true rfl rfl ((A 25 2 rfl).trans (C 2 rfl))) (by simp[execOp,go_sem,U,h3,V,h5,x]) rfl
     .intro ρ y W A F E C;have X:=A 30 7 rfl;have h7:y 7=_:=C 7 rfl;have s:=(hi.below E).cells.2.1;refine ak (.int .i64 A0.en) (bG 2 25 true true rfl rfl ((A 25 2 rfl).trans (C 2 rfl))) (by simp[execOp,go_sem,X,h7,s]) rfl
     .intro ρ y W A F E C;have Y:=A 32 9 rfl;have h9:y 9=_:=C 9 rfl;have Z:=A 33 10 rfl;have hr:y 10=_:=C 10 rfl;refine ak (.pointer (some ⟨b,off+(m+1)*7,none⟩)) (bG 2 25 true true rfl rfl ((A 25 2 rfl).trans (C 2 rfl))) (by simp[execOp,go_sem,Y,h9,Z,hr,D,L,M,N]) rfl
     .intro ρ y W A F E C;have hs:=A 35 12 rfl;have hq:y 12=_:=C 12 rfl;have s:=(hm.below E).cells.1;refine ak (.int .i64 A1.fr) (bG 2 25 true true rfl rfl ((A 25 2 rfl).trans (C 2 rfl))) (by simp[execOp,go_sem,hs,hq,s]) rfl
     intro y WA q _;have d:=ag j q;have g:=n.ext q;clear j n
     go_wp2_with (refine aA rfl _ _ _ rfl w.heap.size #[.int .i64 (2),.int .i64 (((m+1:Nat):Int))] rfl rfl _ _ g rfl fau_size (nO _ _) ?_)
     intro J t p;have o:Below w.heap.size w J:=d.grown p d.size (λk I=>by cases I;exact az _);go_wp2;refine bodyPost_ret (v:=.agg #[.int .i64 (2),.int .i64 (((m+1:Nat):Int))]) (fG results129 _ _ w.heap.size _ _ _ rfl t underlying180 rfl fau_size) rfl ?_;exact⟨by rw[K.out];rfl,o⟩
    cases hj:dN A0 A1
    .have hB:Hid (bP l=jQ (qM l (m+1+1)) (m+1+1) (l.drop (m+1+1))):=ae (by rw[z.out];exact wI D (by rw[hA1];exact u.out) (by rw[hA1,hC.out,decide_eq_false H,hj];rfl));refine aV 26 [_,_,_,_,_,_,.v (.pointer (some ⟨b,off+m*7,none⟩)),_,.v (.int .i64 A0.en),_,_,.v (.pointer (some ⟨b,off+(m+1)*7,none⟩)),_,.v (.int .i64 A1.fr),_,_,_,_,_,.v (.pointer (some ⟨b,off+m*7,none⟩)),_,_,.v (.pointer (some ⟨b,off+(m+1)*7,none⟩)),.v (.bool false),_,.v (.bool false)] (Gk rfl (Gb (.bool true) (by simp[go_sem]) rfl rfl rfl rfl rfl (Gk rfl (Gk rfl (Gk rfl (Gb (.int .i64 (m:Int)) (by simp[go_sem,R,S]) rfl rfl rfl rfl rfl (ah ?_ (Gf b (off+m*7+1) rfl rfl (ah ?_ (Gk rfl (Gk rfl (ah ?_ (Gf b (off+(m+1)*7) rfl rfl (ah ?_ (Gb (.bool false) (by simp[go_sem,H]) rfl rfl rfl rfl rfl (Gk rfl (Gk rfl (Gk rfl (Gb (.int .i64 (m:Int)) (by simp[go_sem,R,S]) rfl rfl rfl rfl rfl (ah ?_ (Gk rfl (Gk rfl (ah ?_ (ah ?_ (Gk rfl (Gk rfl (aI))))))))))))))))))))))))))) (λ_=>rfl) rfl ?_
     .intro ρ y W A F E C;have U:=A 26 3 rfl;have h3:y 3=_:=C 3 rfl;have V:=A 28 5 rfl;have h5:y 5=_:=C 5 rfl;refine ak (.pointer (some ⟨b,off+m*7,none⟩)) (bG 2 25 true true rfl rfl ((A 25 2 rfl).trans (C 2 rfl))) (by simp[execOp,go_sem,U,h3,V,h5,x]) rfl
     .intro ρ y W A F E C;have X:=A 30 7 rfl;have h7:y 7=_:=C 7 rfl;have s:=(hi.below E).cells.2.1;refine ak (.int .i64 A0.en) (bG 2 25 true true rfl rfl ((A 25 2 rfl).trans (C 2 rfl))) (by simp[execOp,go_sem,X,h7,s]) rfl
     .intro ρ y W A F E C;have Y:=A 32 9 rfl;have h9:y 9=_:=C 9 rfl;have Z:=A 33 10 rfl;have hr:y 10=_:=C 10 rfl;refine ak (.pointer (some ⟨b,off+(m+1)*7,none⟩)) (bG 2 25 true true rfl rfl ((A 25 2 rfl).trans (C 2 rfl))) (by simp[execOp,go_sem,Y,h9,Z,hr,D,L,M,N]) rfl
     .intro ρ y W A F E C;have hs:=A 35 12 rfl;have hq:y 12=_:=C 12 rfl;have s:=(hm.below E).cells.1;refine ak (.int .i64 A1.fr) (bG 2 25 true true rfl rfl ((A 25 2 rfl).trans (C 2 rfl))) (by simp[execOp,go_sem,hs,hq,s]) rfl
     .intro ρ y W A F E C;have hP:=A 39 16 rfl;have G:y 16=_:=C 16 rfl;have hO:=A 41 18 rfl;have hJ:y 18=_:=C 18 rfl;refine ak (.pointer (some ⟨b,off+m*7,none⟩)) (bG 15 38 false false rfl rfl ((A 38 15 rfl).trans (C 15 rfl))) (by simp[execOp,go_sem,hP,G,hO,hJ,x]) rfl
     .intro ρ y W A F E C;have hM:=A 43 20 rfl;have hH:y 20=_:=C 20 rfl;have hL:=A 44 21 rfl;have hG:y 21=_:=C 21 rfl;refine ak (.pointer (some ⟨b,off+(m+1)*7,none⟩)) (bG 15 38 false false rfl rfl ((A 38 15 rfl).trans (C 15 rfl))) (by simp[execOp,go_sem,hM,hH,hL,hG,D,L,M,N]) rfl
     .intro ρ y W A F E C;have hN:=A 42 19 rfl;have hI:y 19=_:=C 19 rfl;have hK:=A 45 22 rfl;have hF:y 22=_:=C 22 rfl;have EF:=eF0 F λ_=>trivial;refine aO _ _ (bG 15 38 false false rfl rfl ((A 38 15 rfl).trans (C 15 rfl))) (aS rfl (EF _) func170 (by kernel_rfl) (by kernel_rfl) (by simp only[bW,bQ,aZ,hN,hI,hK,hF,EF];rfl)) ?_;refine(Ip b (off+m*7) b (off+(m+1)*7) A0 A1 W (hi.below E) (hm.below E) hR).mono ?_;rintro r w1 ⟨rfl,hE⟩;rw[hj];exact⟨_,rfl,hE,rfl⟩
     intro y WA q _;have d:=ag j q;have g:=n.ext q;have hU:Hid (∀i (h:i<l.length),i<m+1+1->aU l[i]=0):=ae (mM hp.out D (by rw[hA1];exact u.out));clear j n L M N R S;go_wp2;go_roundw
     case rel=>exact⟨m+1+1,by omega,by go_num,d,g,hU.out,hB⟩
     case measure=>simp[intOf];omega
    have K:Hid (bP l=(2,((m+1:Nat):Int))):=ae (by rw[z.out];exact wo D (by rw[hA1];exact u.out) (by rw[hA1,hC.out,hj,Jp]));refine aV 26 [_,_,_,_,_,_,.v (.pointer (some ⟨b,off+m*7,none⟩)),_,.v (.int .i64 A0.en),_,_,.v (.pointer (some ⟨b,off+(m+1)*7,none⟩)),_,.v (.int .i64 A1.fr),_,_,_,_,_,.v (.pointer (some ⟨b,off+m*7,none⟩)),_,_,.v (.pointer (some ⟨b,off+(m+1)*7,none⟩)),.v (.bool true),_,.v (.bool true)] (Gk rfl (Gb (.bool true) (by simp[go_sem]) rfl rfl rfl rfl rfl (Gk rfl (Gk rfl (Gk rfl (Gb (.int .i64 (m:Int)) (by simp[go_sem,R,S]) rfl rfl rfl rfl rfl (ah ?_ (Gf b (off+m*7+1) rfl rfl (ah ?_ (Gk rfl (Gk rfl (ah ?_ (Gf b (off+(m+1)*7) rfl rfl (ah ?_ (Gb (.bool false) (by simp[go_sem,H]) rfl rfl rfl rfl rfl (Gk rfl (Gk rfl (Gk rfl (Gb (.int .i64 (m:Int)) (by simp[go_sem,R,S]) rfl rfl rfl rfl rfl (ah ?_ (Gk rfl (Gk rfl (ah ?_ (ah ?_ (Gk rfl (Gk rfl (aI))))))))))))))))))))))))))) (λ_=>rfl) rfl ?_
    .intro ρ y W A F E C;have U:=A 26 3 rfl;have h3:y 3=_:=C 3 rfl;have V:=A 28 5 rfl;have h5:y 5=_:=C 5 rfl;refine ak (.pointer (some ⟨b,off+m*7,none⟩)) (bG 2 25 true true rfl rfl ((A 25 2 rfl).trans (C 2 rfl))) (by simp[execOp,go_sem,U,h3,V,h5,x]) rfl
    .intro ρ y W A F E C;have X:=A 30 7 rfl;have h7:y 7=_:=C 7 rfl;have s:=(hi.below E).cells.2.1;refine ak (.int .i64 A0.en) (bG 2 25 true true rfl rfl ((A 25 2 rfl).trans (C 2 rfl))) (by simp[execOp,go_sem,X,h7,s]) rfl
    .intro ρ y W A F E C;have Y:=A 32 9 rfl;have h9:y 9=_:=C 9 rfl;have Z:=A 33 10 rfl;have hr:y 10=_:=C 10 rfl;refine ak (.pointer (some ⟨b,off+(m+1)*7,none⟩)) (bG 2 25 true true rfl rfl ((A 25 2 rfl).trans (C 2 rfl))) (by simp[execOp,go_sem,Y,h9,Z,hr,D,L,M,N]) rfl
    .intro ρ y W A F E C;have hs:=A 35 12 rfl;have hq:y 12=_:=C 12 rfl;have s:=(hm.below E).cells.1;refine ak (.int .i64 A1.fr) (bG 2 25 true true rfl rfl ((A 25 2 rfl).trans (C 2 rfl))) (by simp[execOp,go_sem,hs,hq,s]) rfl
    .intro ρ y W A F E C;have hP:=A 39 16 rfl;have G:y 16=_:=C 16 rfl;have hO:=A 41 18 rfl;have hJ:y 18=_:=C 18 rfl;refine ak (.pointer (some ⟨b,off+m*7,none⟩)) (bG 15 38 false false rfl rfl ((A 38 15 rfl).trans (C 15 rfl))) (by simp[execOp,go_sem,hP,G,hO,hJ,x]) rfl
    .intro ρ y W A F E C;have hM:=A 43 20 rfl;have hH:y 20=_:=C 20 rfl;have hL:=A 44 21 rfl;have hG:y 21=_:=C 21 rfl;refine ak (.pointer (some ⟨b,off+(m+1)*7,none⟩)) (bG 15 38 false false rfl rfl ((A 38 15 rfl).trans (C 15 rfl))) (by simp[execOp,go_sem,hM,hH,hL,hG,D,L,M,N]) rfl
    .intro ρ y W A F E C;have hN:=A 42 19 rfl;have hI:y 19=_:=C 19 rfl;have hK:=A 45 22 rfl;have hF:y 22=_:=C 22 rfl;have EF:=eF0 F λ_=>trivial;refine aO _ _ (bG 15 38 false false rfl rfl ((A 38 15 rfl).trans (C 15 rfl))) (aS rfl (EF _) func170 (by kernel_rfl) (by kernel_rfl) (by simp only[bW,bQ,aZ,hN,hI,hK,hF,EF];rfl)) ?_;refine(Ip b (off+m*7) b (off+(m+1)*7) A0 A1 W (hi.below E) (hm.below E) hR).mono ?_;rintro r w1 ⟨rfl,hE⟩;rw[hj];exact⟨_,rfl,hE,rfl⟩
    intro y WA q _;have d:=ag j q;have g:=n.ext q;clear j n
    go_wp2_with (refine aA rfl _ _ _ rfl w.heap.size #[.int .i64 (2),.int .i64 (((m+1:Nat):Int))] rfl rfl _ _ g rfl fau_size (nO _ _) ?_)
    intro J t p;have o:Below w.heap.size w J:=d.grown p d.size (λk I=>by cases I;exact az _);go_wp2;refine bodyPost_ret (v:=.agg #[.int .i64 (2),.int .i64 (((m+1:Nat):Int))]) (fG results129 _ _ w.heap.size _ _ _ rfl t underlying180 rfl fau_size) rfl ?_;exact⟨by rw[K.out];rfl,o⟩
   have K:Hid (bP l=(aU l[k],(k:Int))):=ae (by rw[z.out];exact Ik D O);have u : (aU l[k] != 0)=true:=by simpa using O
   have d:=j;have g:=n;clear O j n
   go_wp2_with (refine aA rfl _ _ _ rfl w.heap.size #[.int .i64 (aU l[k]),.int .i64 (k)] rfl rfl _ _ g rfl fau_size (nO _ _) ?_)
   intro J t p;have o:Below w.heap.size w J:=d.grown p d.size (λk I=>by cases I;exact az _);go_wp2;refine bodyPost_ret (v:=.agg #[.int .i64 (aU l[k]),.int .i64 (k)]) (fG results129 _ _ w.heap.size _ _ _ rfl t underlying180 rfl fau_size) rfl ?_;exact⟨by rw[K.out];rfl,o⟩
  have K:Hid (bP l=(0,0)):=ae (by rw[z.out,qX (by omega)];rfl)
  go_wp2_with (refine aA rfl _ _ _ rfl w.heap.size #[.int .i64 (0),.int .i64 (0)] rfl rfl _ _ g rfl fau_size (nO _ _) ?_)
  intro J t p;have o:Below w.heap.size w J:=d.grown p d.size (λk I=>by cases I;exact az _);go_wp2;refine bodyPost_ret (v:=.agg #[.int .i64 (0),.int .i64 (0)]) (fG results129 _ _ w.heap.size _ _ _ rfl t underlying180 rfl fau_size) rfl ?_;exact⟨by rw[K.out];rfl,o⟩
theorem NZ{l:List Ar}(h:eB w a (l.flatMap mX))(k:Nat)(j:k<l.length):∃b off,a=some ⟨b,off,none⟩/\w.cell? ⟨b,off+k*7,none⟩=some (.int .i64 l[k].fr)/\w.cell? ⟨b,off+k*7+1,none⟩=some (.int .i64 l[k].en)/\w.cell? ⟨b,off+k*7+2,none⟩=some (.bool l[k].rd)/\w.cell? ⟨b,off+k*7+3,none⟩=some (.bool l[k].wr) /\
  w.cell? ⟨b,off+k*7+4,none⟩=some (.bool l[k].sh)/\w.cell? ⟨b,off+k*7+5,none⟩=some (.int .i64 l[k].fi)/\w.cell? ⟨b,off+k*7+6,none⟩=some (.int .i64 l[k].ba):=by
 obtain⟨b,off,e,u⟩:=Tx h k j;exact⟨b,off,e,u.cells⟩
theorem PD(a:Ar)(g:Nat)(n:Int)(w:World)(u:aG w g #[.int .i64 n] 3) :
  Calls Tryz.prog 133 #[.agg #[.int .i64 a.fr,.int .i64 a.en,.bool a.rd,.bool a.wr,.bool a.sh,.int .i64 a.fi,.int .i64 a.ba],.pointer (some ⟨g,0,none⟩)] w λr w'=>r = .returned (.bool (oD n a))/\Below w.heap.size w w':=by
 go_enter func133,ntmps133;go_upto_region 1 with(fail);refine iG (λW=>Code.wp _ _ _ _ W) λW0 b c d => ?_;clear d;have e:=(u.ext b).cell 0;have f:=c.cell
 by_cases j:a.fr<=n
 .by_cases h2:n<a.en
  .have h:=ae (show oD n a=true by unfold oD;rw[decide_eq_true j,decide_eq_true h2];rfl);go_wp2;go_ret;exact⟨bX h.out.symm,b⟩
  have h:=ae (show oD n a=false by unfold oD;rw[decide_eq_false h2,ny]);go_wp2;go_ret;exact⟨bX h.out.symm,b⟩
 have h:=ae (show oD n a=false by unfold oD;rw[decide_eq_false j,mH]);go_wp2;go_ret;exact⟨bX h.out.symm,b⟩
theorem Ky(l:List Ar)(a:Option Addr)(c:Nat)(w:World)(y:eB w a (l.flatMap mX))(C:l.length<=9223372036854775807)(g:Nat)(n:Int)(A:aG w g #[.int .i64 n] 3) :
  Calls Tryz.prog 132 #[.slice a l.length c,.func (.func 133) #[] #[.pointer (some ⟨g,0,none⟩)]] w λe w'=>e = .returned (.int .i64 (idx (oD n) l))/\Below w.heap.size w w':=by
 go_enter func132,ntmps132;go_wp2
 go_loopw [8] (fun i wr => ∃k:Nat,k<=l.length/\i = .int .i64 k/\Below w.heap.size w wr/\∀i (h:i<l.length),i<k->(oD n) l[i]=false) (fun i _=>l.length-(intOf i).toNat)
 case atStart=>exact⟨0,bq _,rfl,Below.refl _ _,λi _ h=>absurd h (fq _)⟩
 case round=>
  obtain⟨k,D,rfl,j,o⟩:=hrel;have z:=ae o;clear o
  by_cases u:k<l.length
  .obtain⟨b,off,rfl,K,J,I,H,G,F,E⟩:=NZ (y.below j) k u
   go_wp2_with fail
   refine(PD l[k] g n _ (A.ext j)).mono ?_;rintro e w2 ⟨rfl,p⟩;have f:=ag j p;clear p;cases hpk:(oD n) l[k]
   .have m:=ae hpk;clear hpk;go_wp2;go_roundw
    case rel=>exact⟨k+1,by omega,by go_num,f,mM z.out u m.out⟩
    case measure=>simp[intOf];omega
   have d:=ae (uJ (oD n) l k u z.out hpk);clear hpk;go_wp2;go_ret;exact⟨aX d.out.symm,f⟩
  have d:=ae (mr (oD n) l λi h=>z.out i h (by omega));go_wp2;go_ret;exact⟨aX d.out.symm,j⟩
theorem Ir(l:List Ar)(n:Int)(a:Option Addr)(c:Nat)(w:World)(h:eB w a (l.flatMap mX))(j:l.length<=9223372036854775807) :
  Calls Tryz.prog 87 #[.slice a l.length c,.int .i64 n] w λr w'=>r = .returned (.int .i64 (il l n))/\Below w.heap.size w w':=by
 go_enter func87,ntmps87;go_upto_region 1 with(fail);refine iG (λW=>Code.wp _ _ _ _ W) λW0 b d e => ?_;clear e
 go_wp2_with fail
 refine(Ky l a c _ (h.below b) j w.heap.size n d).mono ?_;rintro r w1 ⟨rfl,f⟩;go_wp2;go_ret;exact⟨rfl,ag b f⟩
theorem QD(l:List Ar):(l.flatMap mX).length=l.length*7:=Pw.flat_len mX 7 rW l
theorem VM(a:Ar):∀u∈mX a,u.oneCell' = true:=by
 intro u h;simp only[mX,ky,dx,gW,or_false]at h;rcases h with rfl|rfl|rfl|rfl|rfl|rfl|rfl<;>rfl
theorem sO(l:List Ar):∀u∈l.flatMap mX,u.oneCell' = true:=by
 intro u j;obtain⟨a,_,h⟩:=jV.1 j;exact VM a u h
theorem LJ(l:List Ar)(a:Option Addr)(c:Nat)(w:World)(A:l.length<=c)(y:a=none->c=0)(z:eB w a (l.flatMap mX))(F:l.length*40<=140737488355328) :
  Calls Tryz.prog 62 #[.slice a l.length c] w λe w' => ∃v,e = .returned v/\Own w' w.heap.size 94 7 v l.length (l.flatMap mX)/\Below w.heap.size w w':=by
 cases a with
 | none=>
  have G:=y rfl;have D:l=[]:=kU (by omega);subst D;subst G;have C:=λW=>ni (P:=Tryz.prog) W 71 _ none 0 0 0 0 underlying71;go_enter func62,ntmps62;go_wp2;go_ret;exact⟨_,rfl,by simpa using Own.nil _ _ _ _,Below.refl _ _⟩
 | some ad=>
  have C:=λW=>ni (P:=Tryz.prog) W 71 _ (some ad) l.length c 0 0 underlying71;go_enter func62,ntmps62
  go_wp2_with (at_builtin;go_must (refine fT rfl _ _ 71 rfl w.heap.size 94 (.agg #[.int .i64 0,.int .i64 0,.bool false,.bool false,.bool false,.int .i64 0,.int .i64 0]) 7 40 underlying71 area_info rfl (by decide) _ 0 [] rfl ?own (some ad) l.length c (l.flatMap mX) rfl (λh=>(by cases h)) A (QD l) ?rd (sO l) (by unfold maxLen;omega) (by simpa using F) ?bb ?k))
  case own=>exact⟨rfl,.inr ⟨w.heap.size,0,0,#[],rfl,az _,aG.new _ _ _,az _,bq _,by simp,λj u h=>by simp at h⟩⟩
  case rd=>exact z.below ((Below.refl _ _).alloc (az _) _)
  case bb=>exact gU _ _
  intro v w1 b d;go_wp2;go_ret;exact⟨v,rfl,by simpa using b,((Below.refl _ _).alloc (az _) _).grown d (gU _ _) (λk E=>by cases E;exact az _)⟩
structure XA (w:World) (a:Option Addr) (c:Nat) (l:List Ar):Prop where
 le:l.length<=c
 mx:c<=maxLen
 nl:a=none->c=0
 rd:eB w a (l.flatMap mX)
theorem XA.below{l:List Ar}(h:XA w a c l)(j:Below w.heap.size w w'):XA w' a c l:=⟨h.le,h.mx,h.nl,h.rd.below j⟩
theorem uF(w:World)(F H G elem:TypeId)(sz g o u A:Nat)(a:Addr)(h y n:Nat)(cs:List Value)(cur:Array Value)(T:TypeId)
 (I:P.underlying F=some (.slice elem)) (C:(P.info? elem).map (·.size)=some sz) (J:Nat.min h u=n) (K:cs.length=n*sz) (D:aG w g cur T)
 (z:∀j v,cs[j]?=some v->w.cell? (a.add j)=some v) (E:o+cs.length<=cur.size) (N:∀v∈cs,v.oneCell' = true) :
  (Builtin.copy_ #[F,H] G #[.slice (some ⟨g,o,none⟩) u A,.slice (some a) h y]).run P w = .ok (goInt n) (w.setCells g o cs):=by
 have c:=run_loadCells_list (P:=P) w a cs z;have b:=run_storeCells_cells (P:=P) g o cs 0 w (λj L=>by rw[iP,D.cell];simp[show o+j<cur.size by omega]) (λj L=>D.free _) N;cases hq:P.info? elem with
 | none=>simp[hq]at C
 | some i=>
  have M:i.size=sz:=by simpa[hq]using C
  simp[Builtin.copy_,run_underlying I,Builtin.lenOf,Builtin.firstCells,sizeOf,typeInfo,hq,M,J,<-K,c,b]
theorem WX(w:World){a:Act}(j:o.guard=none)(d s:Operand)(t t' : TypeId)
 (A:o.op = .call { callee:=.builtin .copy,args:=#[d,s],argTypes:=#[t,t'] }) (v u:Value) (C:a.eval d=v) (y:a.eval s=u) 
 (z:(Builtin.copy_ #[t,t'] o.type #[v,u]).run P w = .ok v' w') (h:wpList P ops Q rest (a.put o.dst v') w'):wpList P ops Q (o::rest) a w:=
 wpList_plain j λK D=>by unfold Oper.wp execOp;simp only[A,resolve,invoke,builtin,kY,qR,rA,bW,bQ,aZ,C,y,z];exact D _ _ h
theorem KW{a:Act}{K:Act->World->Prop}{E:Prop}
 (D:o.guard=none) (d x:Operand) (y j:TypeId) (h:o.op=Op.call { callee:=Callee.builtin Builtin.copy,args:=#[d,x],argTypes:=#[y,j] })
 (v u:Value) (F:a.eval d=v) (z:a.eval x=u) (C:(Builtin.copy_ #[y,j] o.type #[v,u]).run P w = .ok v' w') (G:K (a.put o.dst v') w') :
  if Region.wanted o (yielded ops a.tmps)=true then Oper.wp P o a w K Q else E:=by
 have A:Region.wanted o (yielded ops a.tmps)=true:=by simp[Region.wanted,D]
 rw[if_pos A];unfold Oper.wp;simp[execOp,h,resolve,invoke,builtin,F,z,C,Result.andThen];exact G
def Yv(x:Ar):mV:=⟨λv w => ∃g,v = .slice (some ⟨g,0,none⟩) 1 1/\aG w g (ky x) 94,λ_ _ _ hb ⟨g,h1,h2⟩=>⟨g,h1,h2.ext hb⟩⟩
theorem own_not{l:List Ar}{x:Ar}(h:Own w B 94 7 v l.length (l.flatMap mX))(A:aG w g (ky x) 94)(G:¬x∈l)(J:0<l.length):∀b,v.ownBlock=some b->g≠b:=by
 rintro b F rfl;rcases h with⟨C,⟨rfl,_⟩|⟨Z,off,U,cur,rfl,X,D,z,W,V,H⟩⟩
 .cases F
 cases F;unfold aG at D A;rw[D]at A;simp only[jA,uj,and_true]at A;subst A;have Y:(ky x).size=7:=rfl;have I:off=0:=by omega
 subst I
 match l,J with
 | y::r,_=>
  have z:∀(j:Nat) (u:Value),(mX y)[j]?=some u->(ky x)[j]?=some u:=by intro j u E;have:=H j u (by rw[nX,kK (by have:=(cz.1 E).1;exact this)];exact E);rwa [ed]at this
  have S:=z 0 _ rfl;have R:=z 1 _ rfl;have O:=z 2 _ rfl;have N:=z 3 _ rfl;have M:=z 4 _ rfl;have L:=z 5 _ rfl;have K:=z 6 _ rfl;simp[ky]at S R O N M L K;refine G (dx.2 (.inl ?_));cases x;cases y
  simp_all
theorem xM{n:Nat}{d:TypeDesc}(z:P.underlying t=some (.array n e))(C:P.underlying e=some d)(E:aggB d=true)(h:(P.info? e).map (·.size)=some sz)
 (cs:Array Value) (k:Nat) (vs:Array Value) (A:k<n) (y:cs.extract (k*sz) (k*sz+sz)=vs) (j:IntKind) (w:World):(Instr.index t (.agg cs) (.int j k)).run P w = .ok (.agg vs) w:=by
 have a:∀w,(Go.sizeOf e).run P w = .ok sz w:=by
  intro w;cases hq:P.info? e with
  | none=>simp[hq]at h
  | some i=>
   have u:i.size=sz:=by simpa[hq]using h
   simp[Go.sizeOf,typeInfo,run_program,hq,u]
 have D:∀w,(isAgg e).run P w = .ok true w:=by intro w;unfold isAgg;simp[run_underlying C];cases d<;>simp_all[aggB]
 simp[Instr.index,part,asIntOf,run_underlying z,a,A,D,go_sem,y]
theorem xy(l:List Int)(a:Option Addr)(c:Nat)(w:World)(A:l.length<=c)(y:a=none->c=0)(z:eB w a (l.map gB))(F:l.length*8<=140737488355328) :
  Calls Tryz.prog 58 #[.slice a l.length c] w λe w' => ∃v,e = .returned v/\Own w' w.heap.size 3 1 v l.length (l.map gB)/\Below w.heap.size w w':=by
 cases a with
 | none=>
  have G:=y rfl;have D:l=[]:=kU (by omega);subst D;subst G;have C:=λW=>ni (P:=Tryz.prog) W 34 _ none 0 0 0 0 underlying34;go_enter func58,ntmps58;go_wp2;go_ret;exact⟨_,rfl,by simpa using Own.nil _ _ _ _,Below.refl _ _⟩
 | some ad=>
  have C:=λW=>ni (P:=Tryz.prog) W 34 _ (some ad) l.length c 0 0 underlying34;go_enter func58,ntmps58
  go_wp2_with (at_builtin;go_must (refine fT rfl _ _ 34 rfl w.heap.size 3 (.int .i64 0) 1 8 underlying34 int_info rfl (by decide) _ 0 [] rfl ?own (some ad) l.length c (l.map gB) rfl (λh=>(by cases h)) A (Kr l) ?rd (Kb l) (by unfold maxLen;omega) (by simpa using F) ?bb ?k))
  case own=>exact⟨rfl,.inr ⟨w.heap.size,0,0,#[],rfl,az _,aG.new _ _ _,az _,bq _,by simp,λj u h=>by simp at h⟩⟩
  case rd=>exact z.below ((Below.refl _ _).alloc (az _) _)
  case bb=>exact gU _ _
  intro v w1 b d;go_wp2;go_ret;exact⟨v,rfl,by simpa using b,((Below.refl _ _).alloc (az _) _).grown d (gU _ _) (λk E=>by cases E;exact az _)⟩
theorem Vl(n:Int)(w:World):Calls Tryz.prog 166 #[.int .i64 n] w λe w'=>e = .returned (.bool (rU n))/\w' = w:=by
 unfold rU;go_enter func166,ntmps166;go_wp2
 all_goals
  go_ret;refine⟨bX ?_,rfl⟩;simp[*]
theorem Ue(l:List Int)(a:Option Addr)(c:Nat)(w:World)(u:eB w a (l.map gB))(z:l.length<=9223372036854775807) :
  Calls Tryz.prog 197 #[.slice a l.length c,.func (.func 166) #[] #[]] w λe w'=>e = .returned (.int .i64 (idx rU l))/\w' = w:=by
 go_enter func197,ntmps197;go_wp2
 go_loopw [8] (fun i wr => ∃k:Nat,k<=l.length/\i = .int .i64 k/\wr=w/\∀i (h:i<l.length),i<k->rU l[i]=false) (fun i _=>l.length-(intOf i).toNat)
 case atStart=>exact⟨0,bq _,rfl,rfl,λi _ h=>absurd h (fq _)⟩
 case round=>
  obtain⟨k,A,rfl,rfl,y⟩:=hrel
  by_cases j:k<l.length
  .obtain⟨b,off,rfl,C⟩:=kD u k j
   go_wp2_with fail
   refine(Vl l[k] _).mono ?_;rintro e w1 ⟨rfl,rfl⟩;cases hbk:rU l[k]with
   | true=>
    go_wp2;go_ret;exact⟨aX (uJ rU l k j y hbk).symm,rfl⟩
   | false=>
    go_wp2;go_roundw
    case rel=>exact⟨k+1,by omega,by go_num,trivial,upto y j hbk⟩
    case measure=>simp[intOf];omega
  go_wp2;go_ret;exact⟨aX (mr rU l λi h=>y i h (by omega)).symm,rfl⟩
theorem EW(l:List Int)(a:Option Addr)(c:Nat)(w:World)(h:eB w a (l.map gB))(j:l.length<=9223372036854775807) :
  Calls Tryz.prog 165 #[.slice a l.length c,.func (.func 166) #[] #[]] w λe w'=>e = .returned (.bool (l.any rU))/\w' = w:=by
 rw[<-pK];go_enter func165,ntmps165
 go_wp2_with fail
 refine(Ue l a c _ h j).mono ?_;rintro e w1 ⟨rfl,rfl⟩;go_wp2;go_ret;exact⟨rfl,rfl⟩
theorem xA(l:List Int)(a:Option Addr)(c:Nat)(w:World)(j:eB w a (l.map gB))(u:l.length<=9223372036854775807) :
  Calls Tryz.prog 126 #[.slice a l.length c] w λe w'=>e = .returned (.int .i64 (dH l))/\w' = w:=by
 unfold dH;go_enter func126,ntmps126
 by_cases h:60<l.length
 .have y:(60:Int)<(l.length:Int):=by omega
  go_wp2;go_ret;exact⟨by simp[h],rfl⟩
 have y:¬(60:Int)<(l.length:Int):=by omega
 go_wp2_with fail
 refine(EW l a c _ j u).mono ?_;rintro e w1 ⟨rfl,rfl⟩;cases hb:l.any rU
 all_goals
  go_wp2;go_ret;exact⟨by simp[h],rfl⟩
theorem Kq(l:List Int)(a:Option Addr)(c:Nat)(w:World)(y:eB w a (l.map gB))(F:l.length<=9223372036854775807) :
  Calls Tryz.prog 97 #[.slice a l.length c] w λe w'=>e = .returned (.int .i64 (dH l))/\w' = w:=by
 unfold dH;go_enter func97,ntmps97
 by_cases h:60<l.length
 .have C:(60:Int)<(l.length:Int):=by omega
  go_wp2;go_ret;exact⟨by simp[h],rfl⟩
 have C:¬(60:Int)<(l.length:Int):=by omega
 rw[if_neg h];go_wp2
 go_loopw [10] (fun i wr => ∃k:Nat,k<=l.length/\i = .int .i64 k/\wr=w/\∀i (h:i<l.length),i<k->rU l[i]=false) (fun i _=>l.length-(intOf i).toNat)
 case atStart=>exact⟨0,bq _,rfl,rfl,λi _ h=>absurd h (fq _)⟩
 case round=>
  obtain⟨k,G,rfl,rfl,A⟩:=hrel
  by_cases j:k<l.length
  .obtain⟨b,off,rfl,H⟩:=kD y k j
   by_cases u:l[k]<0\/1000<l[k]
   .have d:rU l[k]=true:=by simpa[rU]using u
    have z:l.any rU=true:=jK.2 ⟨_,eu j,d⟩;rcases u with u|u <;>
    go_wp2
    all_goals
     go_ret;exact⟨by simp[z],rfl⟩
   have d:rU l[k]=false:=by simp[rU];omega
   have E:¬l[k]<0:=by omega
   have D:¬(1000<l[k]):=by omega
   go_wp2;go_roundw
   case rel=>exact⟨k+1,by omega,by go_num,trivial,upto A j d⟩
   case measure=>simp[intOf];omega
  have z:l.any rU=false:=by rw[<-pK,mr rU l λi h=>A i h (by omega)];rfl
  go_wp2
  all_goals
   go_ret;exact⟨by simp[z],rfl⟩
theorem Lv(l:List Int)(a:Option Addr)(c:Nat)(w:World)(y:eB w a (l.map gB))(C:l.length<=9223372036854775807) :
  Calls Tryz.prog 210 #[.slice a l.length c,.int .i64 0] w λe w'=>e = .returned (.int .i64 (idx JY l))/\w' = w:=by
 go_enter func210,ntmps210;go_wp2
 go_loopw [8] (fun i wr => ∃k:Nat,k<=l.length/\i = .int .i64 k/\wr=w/\∀i (h:i<l.length),i<k->JY l[i]=false) (fun i _=>l.length-(intOf i).toNat)
 case atStart=>exact⟨0,bq _,rfl,rfl,λi _ h=>absurd h (fq _)⟩
 case round=>
  obtain⟨k,D,rfl,rfl,z⟩:=hrel
  by_cases j:k<l.length
  .obtain⟨b,off,rfl,A⟩:=kD y k j
   by_cases u:l[k]=0
   .have d:JY l[k]=true:=by simp[JY,u]
    rw[u]at A;go_wp2;go_ret;exact⟨aX (uJ JY l k j z d).symm,rfl⟩
   have d:JY l[k]=false:=by simp[JY,u]
   have f : ((0:Int)==l[k])=false:=by simp;omega
   go_wp2;go_roundw
   case rel=>exact⟨k+1,by omega,by go_num,trivial,upto z j d⟩
   case measure=>simp[intOf];omega
  go_wp2;go_ret;exact⟨aX (mr JY l λi h=>z i h (by omega)).symm,rfl⟩
theorem Mm(l:List Int)(a:Option Addr)(c:Nat)(n:Int)(w:World)(E:l.length<=c)(A:a=none->c=0)(y:eB w a (l.map gB))(R:l.length<=9223372036854775807) :
  Calls Tryz.prog 201 #[.slice a l.length c,.int .i64 n] w λe w' => ∃v,e = .returned (.tuple #[v,.int .i64 (kI l n),.int .i64 (ja l n)])/\Own w' w.heap.size 3 1 v (ng l n).length ((ng l n).map gB)/\Below w.heap.size w w':=by
 go_enter func201,ntmps201
 go_wp2_with fail
 refine(xA l a c _ y (by omega)).mono ?_;rintro e w1 ⟨rfl,rfl⟩
 by_cases z:dH l=0
 .rw[z];have d:=lu z
  by_cases D:n<1\/1000<n
  .obtain⟨u,j,h⟩:=Og z D;rcases D with D|D <;>
   go_wp2
   all_goals
    go_ret3
    try simp only[u,j,h]
    exact⟨_,rfl,Own.nil _ _ _ _,Below.refl _ _⟩
  have M:¬n<1:=by omega
  have L:¬1000<n:=by omega
  go_wp2_with fail
  refine(Lv l a c _ y (by omega)).mono ?_;rintro e w2 ⟨rfl,rfl⟩;rcases BS JY l with⟨C,_⟩|⟨k,G,C,N,_⟩
  .obtain⟨u,j,h⟩:=NN z ⟨by omega,by omega⟩ C;rw[C];go_wp2
   go_ret3
   try simp only[u,j,h]
   exact⟨_,rfl,Own.nil _ _ _ _,Below.refl _ _⟩
  obtain⟨u,j,h⟩:=PE z ⟨by omega,by omega⟩ C;rw[C]
  go_wp2_with fail
  refine(xy l a c _ E A y (by omega)).mono ?_;rintro e K ⟨v,rfl,F,H⟩;obtain⟨g,off,J,rfl,I,f,U,S,b⟩:=F.put1 k G;go_wp2
  go_ret3
  try simp only[u,j,h]
  exact⟨_,rfl,by rw[bL];exact b n,H.setCell I _⟩
 obtain⟨u,j,h⟩:=Nj n z;have O:(dH l != 0)=true:=by simpa using z
 go_wp2
 go_ret3
 try simp only[u,j,h]
 exact⟨_,rfl,Own.nil _ _ _ _,Below.refl _ _⟩
theorem EA(l:List Int)(a:Option Addr)(c:Nat)(k n:Int)(w:World)(F:l.length<=c)(E:a=none->c=0)(C:eB w a (l.map gB))(W:l.length<=9223372036854775807) :
  Calls Tryz.prog 91 #[.slice a l.length c,.int .i64 k,.int .i64 n] w λe w' => ∃v,e = .returned (.tuple #[v,.int .i64 (dC l k n)])/\Own w' w.heap.size 3 1 v (cB l k n).length ((cB l k n).map gB)/\Below w.heap.size w w':=by
 go_enter func91,ntmps91
 go_wp2_with fail
 refine(xA l a c _ C (by omega)).mono ?_;rintro e w1 ⟨rfl,rfl⟩
 by_cases z:dH l=0
 .rw[z];have p:=lu z
  by_cases D:k<0\/(l.length:Int)<=k
  .obtain⟨y,u⟩:=Hz (n:=n) z (show k<0\/(l.length:Int)<=k\/Gd l k=0 from by omega);rcases D with D|D <;>
   go_wp2
   all_goals
    go_ret2
    try simp only[y,u]
    exact⟨_,rfl,Own.nil _ _ _ _,Below.refl _ _⟩
  obtain⟨k,rfl⟩:=iL (show 0<=k by omega);have h:k<l.length:=by omega
  have o:¬(l.length:Int)<=(k:Int):=by omega
  obtain⟨b,off,rfl,J⟩:=kD C k h;obtain⟨O,N⟩:=RA l k h z;have d:=Vp h
  by_cases H:l[k]=0
  .obtain⟨y,u⟩:=Hz (n:=n) z (show(k:Int)<0\/(l.length:Int)<=k\/Gd l k=0 from by omega);rw[H]at J;clear D d O N;go_wp2
   all_goals
    go_ret2
    try simp only[y,u]
    exact⟨_,rfl,Own.nil _ _ _ _,Below.refl _ _⟩
  have q : (l[k]==(0:Int))=false:=by simp;omega
  have f:¬((k:Int)<0\/(l.length:Int)<=k\/Gd l k=0):=by omega
  by_cases A:n < -Gd l k\/1000-Gd l k<n
  .obtain⟨y,u⟩:=Nr z f A;rw[d]at A;clear d f D;rcases A with A|A <;>
   go_wp2
   all_goals
    go_ret2
    try simp only[y,u]
    exact⟨_,rfl,Own.nil _ _ _ _,Below.refl _ _⟩
  obtain⟨y,u⟩:=Rb z f A;rw[d]at A u;rw[bu]at u;have U:¬n < -l[k]:=by omega
  have S:¬1000-l[k]<n:=by omega
  clear d f D A
  go_wp2_with fail
  refine(xy l _ c _ F E C (by omega)).mono ?_;rintro e R ⟨v,rfl,I,K⟩;obtain⟨g,G,M,rfl,L,m,j,X,i⟩:=I.put1 k h;unfold gB at j;go_wp2;go_ret2
  try simp only[y,u]
  exact⟨_,rfl,by rw[bL];exact i _,K.setCell L _⟩
 obtain⟨y,u⟩:=Na k n z;have V:(dH l != 0)=true:=by simpa using z
 go_wp2;go_ret2
 try simp only[y,u]
 exact⟨_,rfl,Own.nil _ _ _ _,Below.refl _ _⟩
structure PS where
 lv:Bool
 aa:Option Addr
 ac:Nat
 ar:List Ar
 ts:Vector Value 8
 tb:Tb
def PS.sp(p:PS):Sp:=⟨p.lv,p.ar,p.tb⟩
def nT(v:Vector Value 8):Array Value:=#[v[0],v[1],v[2],v[3],v[4],v[5],v[6],v[7]]
theorem SN(v:Vector Value 8):(nT v).size=8:=rfl
theorem TW(h:cs.size=8):∃v:Vector Value 8,cs=nT v:=by
 refine⟨⟨cs,h⟩,?_⟩;apply Array.ext
 .rw[h,SN]
 intro i u h2;have j:i<8:=by omega
 match i,j with
 | 0,_=>rfl
 | 1,_=>rfl
 | 2,_=>rfl
 | 3,_=>rfl
 | 4,_=>rfl
 | 5,_=>rfl
 | 6,_=>rfl
 | 7,_=>rfl
 | n+8,h=>omega
def yX(p:PS):Array Value:=#[.bool p.lv,.slice p.aa p.ar.length p.ac,p.ts[0],p.ts[1],p.ts[2],p.ts[3],p.ts[4],p.ts[5],p.ts[6],p.ts[7]]
def tQ(p:PS):List Value:=(yX p).toList
theorem oV(p:PS):(tQ p).length=10:=rfl
theorem wB(c:Cc):(xe c).all (·.oneCell')=true:=by simp[xe,Value.oneCell']
theorem space_size:(Tryz.prog.info? 76).map (·.size)=some 10:=by kernel_rfl
theorem space_info:(Tryz.prog.info? 76).map (λi=>(i.zero,i.size,i.bytes))=some (some (.agg #[.bool false,.slice none 0 0,.slice none 0 0,.slice none 0 0,.slice none 0 0,.slice none 0 0,.slice none 0 0,.slice none 0 0,.slice none 0 0,.slice none 0 0]),10,224):=by kernel_rfl
theorem cached_size:(Tryz.prog.info? 122).map (·.size)=some 3:=by kernel_rfl
theorem cached_info:(Tryz.prog.info? 122).map (λi=>(i.zero,i.size,i.bytes))=some (some (.agg #[.int .i64 0,.int .i64 0,.int .i64 0]),3,24):=by kernel_rfl
theorem machine_size:(Tryz.prog.info? 45).map (·.size)=some 11:=by kernel_rfl
structure PS.good (w:World) (p:PS):Prop where
 ars:XA w p.aa p.ac p.ar
 tb:Gq w (nT p.ts) p.tb
theorem PS.good.below{p:PS}(h:p.good w)(j:Below w.heap.size w w'):p.good w':=⟨h.ars.below j,h.tb.below j⟩
theorem PS.good.one{p:PS}(h:p.good w):∀u∈tQ p,u.oneCell' = true:=by
 have y:∀u∈(nT p.ts).toList,u.oneCell' = true:=by have:=h.tb.one;rw[<-mO,fA]at this;exact this
 intro u j;simp only[tQ,yX,dx,gW,or_false]at j;simp only[nT,dx,gW,or_false]at y;rcases j with rfl|rfl|j
 .rfl
 .rfl
 .exact y u j
structure ve (w:World) (a:Option Addr) (c n:Nat) (vs:List Value):Prop where
 le:n<=c
 mx:c<=maxLen
 nl:a=none->c=0
 rd:eB w a vs
theorem ve.below{n:Nat}(h:ve w a c n vs)(j:Below w.heap.size w w'):ve w' a c n vs:={ h with rd:=h.rd.below j }
theorem ve.of{n:Nat}(h:Own w B e sz v n xs):∃a c,v = .slice a n c/\ve w a c n xs:=by
 obtain⟨a,c,rfl,y,h2,u,j⟩:=h.rd;exact⟨a,c,rfl,y,h2,u,j⟩
structure MH where
 af:Option Addr
 cf:Nat
 m:Mem
 asl:Option Addr
 csl:Nat
 sl:List Int
 wb:Option Addr
 cwb:Nat
 wq:Option Addr
 cwq:Nat
 sw:vQ
 db:Option Addr
 cdb:Nat
 dq:Option Addr
 cdq:Nat
 dk:vQ
 ai:Option Addr
 ci:Nat
 fi:List PF
 ct:Int
 ac:Option Addr
 cc:Nat
 ca:List Cc
 ap:Option Addr
 cp:Nat
 sp:List PS
def MH.ma(H:MH):Ma:=⟨H.m,H.sl,H.sw,H.dk,cK H.fi H.ct,H.ca,H.sp.map PS.sp⟩
def fF(H:MH):Array Value:=#[.slice H.af H.m.fs.length H.cf,.int .i64 H.m.hand,.slice H.asl H.sl.length H.csl,.slice H.wb H.sw.blocks.length H.cwb,.slice H.wq H.sw.queue.length H.cwq,
 .slice H.db H.dk.blocks.length H.cdb,.slice H.dq H.dk.queue.length H.cdq,.slice H.ai H.fi.length H.ci,.int .i64 H.ct,.slice H.ac H.ca.length H.cc,.slice H.ap H.sp.length H.cp]
theorem ku(H:MH):(fF H).all (·.oneCell')=true:=by simp[fF,Value.oneCell']
structure FK (w:World) (H:MH):Prop where
 fr:Ru w H.af H.cf H.m
 sl:ve w H.asl H.csl H.sl.length (H.sl.map gB)
 sw:QB w H.wb H.cwb H.wq H.cwq H.sw
 dk:QB w H.db H.cdb H.dq H.cdq H.dk
 st:Mg w H.ai H.ci H.fi
 ca:ve w H.ac H.cc H.ca.length (H.ca.flatMap iQ)
 sp:ve w H.ap H.cp H.sp.length (H.sp.flatMap tQ)
 ps:∀p∈H.sp,p.good w
 c64 : -9223372036854775808<=H.ct/\H.ct<=9223372036854775807
theorem FK.below{H:MH}(h:FK w H)(j:Below w.heap.size w w'):FK w' H:=
 ⟨h.fr.below j,h.sl.below j,h.sw.below j,h.dk.below j,h.st.below j,h.ca.below j,h.sp.below j,λp u=>(h.ps p u).below j,h.c64⟩
theorem rG{y:List PS}(h:eB w a (y.flatMap tQ))(k:Nat)(z:k<y.length):∃b off p,a=some ⟨b,off,none⟩/\y[k]?=some p/\eB w (some ⟨b,off+k*10,none⟩) (tQ p):=by
 obtain⟨b,off,D,C⟩:=h.elem oV (by decide) k z;refine⟨b,off,y[k],D,aF z,λj u A=>⟨b,off+k*10,rfl,C j u A⟩⟩
theorem rM{H:MH}(h:FK w H){p:PS}(j:H.sp[k]?=some p):p.good w:=h.ps p (bS j)
theorem TU{l:List Cc}(h:eB w a (l.flatMap iQ))(k:Nat)(u:k<l.length):∃b off c,a=some ⟨b,off,none⟩/\l[k]?=some c/\w.cell? ⟨b,off+k*3,none⟩=some (.int .i64 c.f)/\w.cell? ⟨b,off+k*3+1,none⟩=some (.int .i64 c.i)/\w.cell? ⟨b,off+k*3+2,none⟩=some (.int .i64 c.k):=by
 obtain⟨b,off,y,j⟩:=h.elem jc (by decide) k u;exact⟨b,off,l[k],y,aF u,j 0 _ rfl,j 1 _ rfl,j 2 _ rfl⟩
structure Wu (m:Ma):Prop where
 fs:m.m.fs.length<=1000
 sl:m.sl.length<=1000
 swb:m.sw.blocks.length<=1000
 swq:m.sw.queue.length<=1000
 dkb:m.dk.blocks.length<=1000
 dkq:m.dk.queue.length<=1000
 st:m.st.fs.length<=1000/\∀f∈m.st.fs,f.b.length<=1000
 ca:m.ca.length<=1000
 sp:m.sp.length<=1000/\∀s∈m.sp,s.ar.length<=1000/\∀k (h:k<8),s.tb[k].length<=1000
structure wV (w:World) (B:Nat) (H:MH):Prop where
 fr:Own w B 66 13 (.slice H.af H.m.fs.length H.cf) H.m.fs.length (H.m.fs.flatMap pR)
 sl:Own w B 3 1 (.slice H.asl H.sl.length H.csl) H.sl.length (H.sl.map gB)
 sw:nk w B (.slice H.wb H.sw.blocks.length H.cwb) (.slice H.wq H.sw.queue.length H.cwq) H.sw
 dk:nk w B (.slice H.db H.dk.blocks.length H.cdb) (.slice H.dq H.dk.queue.length H.cdq) H.dk
 st:rz w B (.slice H.ai H.fi.length H.ci) H.fi
 ca:Own w B 122 3 (.slice H.ac H.ca.length H.cc) H.ca.length (H.ca.flatMap iQ)
 sp:Own w B 76 10 (.slice H.ap H.sp.length H.cp) H.sp.length (H.sp.flatMap tQ)
 ps:∀p∈H.sp,Own w B 94 7 (.slice p.aa p.ar.length p.ac) p.ar.length (p.ar.flatMap mX)/\sG w B (nT p.ts) p.tb
 c64 : -9223372036854775808<=H.ct/\H.ct<=9223372036854775807
theorem wV.below{H:MH}(h:wV w B H)(j:Below w.heap.size w w'):wV w' B H:=
 ⟨h.fr.below j,h.sl.below j,h.sw.below j,h.dk.below j,h.st.below j,h.ca.below j,h.sp.below j,λp u=>⟨(h.ps p u).1.below j,(h.ps p u).2.below j⟩,h.c64⟩
theorem wV.mono{H:MH}(h:wV w B H)(j:B'<=B):wV w B' H:=
 ⟨h.fr.mono j,h.sl.mono j,h.sw.mono j,h.dk.mono j,h.st.mono j,h.ca.mono j,h.sp.mono j,λp u=>⟨(h.ps p u).1.mono j,(h.ps p u).2.mono j⟩,h.c64⟩
theorem uN{n:Nat}(h:Own w B e sz (.slice a n c) n xs):ve w a c n xs:=by
 obtain⟨a',c',j,u⟩:=ve.of h;simp only[mK,true_and]at j;obtain⟨rfl,rfl⟩:=j;exact u
theorem WC{b:Option Addr}{e:Nat}(h:nk w B (.slice a d.blocks.length c) (.slice b d.queue.length e) d):QB w a c b e d:=
 have j:=uN h.b;have h2:=uN h.q
 ⟨j.le,h2.le,j.mx,h2.mx,j.nl,h2.nl,j.rd,h2.rd⟩
theorem WR{j:List PF}(h:rz w B (.slice a j.length c) j):Mg w a c j:=by
 obtain⟨a',c',u,y⟩:=h.rd;simp only[mK,true_and]at u;obtain⟨rfl,rfl⟩:=u;exact y
theorem wV.rd{H:MH}(h:wV w B H):FK w H:=
 have j:=uN h.fr
 ⟨⟨j.le,j.mx,j.nl,j.rd⟩,uN h.sl,WC h.sw,WC h.dk,WR h.st,uN h.ca,uN h.sp,λp u=>⟨have h2:=uN (h.ps p u).1;⟨h2.le,h2.mx,h2.nl,h2.rd⟩,(h.ps p u).2.rd⟩,h.c64⟩
theorem wV.keep{H:MH}(h:wV w B H)(u:aG w g cs T)
 (z:T≠66/\T≠3/\T≠58/\T≠105/\T≠101/\T≠122/\T≠76/\T≠94/\T≠68) (j:w.grownBy w' (some g)):wV w' B H:=
 have ⟨t1,t2,t3,t4,t5,t6,t7,t8,t9⟩:=z
 ⟨ax h.fr u t1 j,ax h.sl u t2 j,h.sw.keep u t3 t4 j,h.dk.keep u t3 t4 j,h.st.keep u t5 t2 j,ax h.ca u t6 j,ax h.sp u t7 j,λp y=>⟨ax (h.ps p y).1 u t8 j,(h.ps p y).2.keep u t9 j⟩,h.c64⟩
theorem kE{α:Type}{enc:α->List Value}(y:∀x,(enc x).length=sz)(z:0<sz){l:List α}(h:eB w a (l.flatMap enc))(k:Nat)(A:k<l.length) :
  ∃b off,a=some ⟨b,off,none⟩/\eB w (some ⟨b,off+k*sz,none⟩) (enc l[k]):=by
 obtain⟨b,off,E,D⟩:=h.elem y z k A;exact⟨b,off,E,λj u C=>⟨b,off+k*sz,rfl,D j u C⟩⟩
theorem bF(h:aG w b cs T)(o n:Nat):eB w (some ⟨b,o,none⟩) ((cs.toList.drop o).take n):=by
 intro i u j;refine⟨b,o,rfl,?_⟩;rw[h.cell,<-uZ];rw[mg]at j;split at j
 .rw[qQ]at j;exact j
 .cases j
def rD(H:MH)(e:Int):Array Value:=#[.slice H.af H.m.fs.length H.cf,.int .i64 H.m.hand,.slice H.asl H.sl.length H.csl,.slice H.wb H.sw.blocks.length H.cwb,.slice H.wq H.sw.queue.length H.cwq,
 .slice H.db H.dk.blocks.length H.cdb,.slice H.dq H.dk.queue.length H.cdq,.slice H.ai H.fi.length H.ci,.int .i64 H.ct,.slice H.ac H.ca.length H.cc,.slice H.ap H.sp.length H.cp,.int .i64 e]
def oB(a:Option Addr):Option Nat:=(Value.slice a 0 0).ownBlock
theorem jF(a:Option Addr)(n c:Nat):(Value.slice a n c).ownBlock=oB a:=by cases a<;>rfl
structure lH (w:World) (B b:Nat) (H:MH) (e:Int):Prop where
 blk:aG w b (rD H e) 109
 ge:B<=b
 ma:wV w B H
 tz:∀p∈H.sp,Gi p.tb
def kb(b:Nat)(H:MH)(x:Nat):Prop:=x=b\/oB H.af=some x\/oB H.ac=some x\/oB H.ap=some x
structure KS (w0:World) (b:Nat) (H0:MH) (w:World) (H:MH):Prop where
 os:w.os=w0.os
 tape:w.tape=w0.tape
 output:w.output=w0.output
 size:w0.heap.size<=w.heap.size
 keep:∀x,x<w0.heap.size->¬kb b H0 x->w.heap[x]?=w0.heap[x]?
 sn:∀x,kb b H x->kb b H0 x\/w0.heap.size<=x
theorem KS.refl(w:World)(b:Nat)(H:MH):KS w b H w H:=⟨rfl,rfl,rfl,az _,λ_ _ _=>rfl,λ_ h => .inl h⟩
theorem KS.trans{C A z:MH}(h:KS w0 b C w1 A)(k:KS w1 b A w2 z):KS w0 b C w2 z:=
 ⟨k.os.trans h.os,k.tape.trans h.tape,k.output.trans h.output,bi h.size k.size,λx j y=>(k.keep x (oL j h.size) (λD=>(h.sn x D).elim y (λu=>absurd j (Df.2 u)))).trans (h.keep x j y),
  λx j=>(k.sn x j).elim (h.sn x) (λu => .inr (bi h.size u))⟩
theorem KS.below{y H:MH}(h:KS w0 b y w H)(j:Below w.heap.size w w'):KS w0 b y w' H:=
 ⟨j.os.trans h.os,j.tape.trans h.tape,j.output.trans h.output,bi h.size j.size,λx u z=>(j.block x (oL u h.size)).trans (h.keep x u z),h.sn⟩
theorem KS.put{y:Nat}{H0 H H' : MH}(h:KS w0 b H0 w H)(z:w.grownBy w' (some y))(A:kb b H y)(C:∀x,kb b H' x->kb b H x\/w0.heap.size<=x):KS w0 b H0 w' H':=
 ⟨z.os.trans h.os,z.tape.trans h.tape,z.output.trans h.output,bi h.size z.size,λx j u=>(z.block x (oL j h.size) (λe=>by have e' : x=y:=aM e;rw[<-e']at A;exact(h.sn x A).elim u (λD=>absurd j (Df.2 D)))).trans (h.keep x j u),λx j=>(C x j).elim (h.sn x) .inr⟩
theorem lH.lt{H:MH}{e:Int}(h:lH w B b H e):b<w.heap.size:=h.blk.lt
theorem lH.bs{H:MH}{e:Int}(h:lH w B b H e):B<=w.heap.size:=bi h.ge (rZ h.lt)
theorem lH.below{H:MH}{e:Int}(h:lH w B b H e)(j:Below w.heap.size w w'):lH w' B b H e:=⟨h.blk.ext j,h.ge,h.ma.below j,h.tz⟩
theorem je{n:Nat}(h:Own w B e sz (.slice a n c) n xs){x:Nat}(j:oB a=some x):B<=x/\∃cs,aG w x cs e:=by
 rw[<-jF a n c]at j;exact⟨h.ge x j,mR h x j⟩
theorem lH.kb_ge{H:MH}{e:Int}(h:lH w B b H e){x:Nat}(j:kb b H x):B<=x:=by
 rcases j with j|j|j|j
 .rw[j];exact h.ge
 .exact(je h.ma.fr j).1
 .exact(je h.ma.ca j).1
 .exact(je h.ma.sp j).1
theorem lH.kb_T{H:MH}{e:Int}(h:lH w B b H e){x:Nat}(j:kb b H x):∃cs T,aG w x cs T/\(T=109\/T=66\/T=122\/T=76):=by
 rcases j with j|j|j|j
 .rw[j];exact⟨_,_,h.blk,.inl rfl⟩
 .obtain⟨cs,u⟩:=(je h.ma.fr j).2;exact⟨cs,_,u,.inr (.inl rfl)⟩
 .obtain⟨cs,u⟩:=(je h.ma.ca j).2;exact⟨cs,_,u,.inr (.inr (.inl rfl))⟩
 .obtain⟨cs,u⟩:=(je h.ma.sp j).2;exact⟨cs,_,u,.inr (.inr (.inr rfl))⟩
theorem KS.to{u H:MH}{e:Int}(h:lH w0 B b u e)(j:KS w0 b u w H)(A:B0<=B):Below B0 w0 w:=
 ⟨j.os,j.tape,j.output,j.size,λx z=>j.keep x (by have:=h.bs;omega) (λy=>by have:=h.kb_ge y;omega)⟩
theorem KS.blk{x:Nat}{y H:MH}{e:Int}(F:KS w0 b y w H)(h:lH w0 B b y e)(u:aG w0 x cs T)(G:T≠109/\T≠66/\T≠122/\T≠76):aG w x cs T:=by
 refine(F.keep x u.lt λE => ?_).trans u;obtain⟨cs',T',j,I⟩:=h.kb_T E;unfold aG at u j;rw[u]at j;simp only[jA,uj]at j;obtain⟨D,C,A,z⟩:=G;rcases I with e|e|e|e
 .exact D (j.2.1.trans e)
 .exact C (j.2.1.trans e)
 .exact A (j.2.1.trans e)
 .exact z (j.2.1.trans e)
theorem KS.blkN{x:Nat}{j H:MH}(y:KS w0 b j w H)(h:aG w0 x cs T)(u:¬kb b j x):aG w x cs T:=(y.keep x h.lt u).trans h
theorem KS.own{y H:MH}{e:Int}{n:Nat}(A:KS w0 b y w H)(h:lH w0 B b y e)(u:Own w0 B' t sz v n xs)(D:t≠109/\t≠66/\t≠122/\t≠76):Own w B' t sz v n xs:=
 ⟨u.1,u.2.imp id λ⟨g,off,j,cur,z,E,C,r⟩=>⟨g,off,j,cur,z,E,A.blk h C D,r⟩⟩
theorem wV.keepK{H:MH}{e:Int}(h:lH w B b H e)(j:w.grownBy w' (some b)):wV w' B H:=h.ma.keep h.blk (by decide) j
theorem lH.setM{H:MH}{e:Int}(h:lH w B b H e){m:Mem}(u:Own w B 66 13 (.slice a m.fs.length c) m.fs.length (m.fs.flatMap pR))(y:aG w' b (bJ (rD H e) 0 [.slice a m.fs.length c,.int .i64 m.hand]) 109)(j:w.grownBy w' (some b)) :
  lH w' B b { H with af:=a,cf:=c,m:=m } e:=
 ⟨y,h.ge,{ wV.keepK h j with fr:=ax u h.blk (by decide) j },h.tz⟩
theorem lH.setL{H:MH}{e:Int}(h:lH w B b H e)(u:Own w B 3 1 (.slice a l.length c) l.length (l.map gB))(y:aG w' b (bJ (rD H e) 2 [.slice a l.length c]) 109)(j:w.grownBy w' (some b)) :
  lH w' B b { H with asl:=a,csl:=c,sl:=l } e:=
 ⟨y,h.ge,{ wV.keepK h j with sl:=ax u h.blk (by decide) j },h.tz⟩
theorem lH.setW{H:MH}{e:Int}(h:lH w B b H e)(u:nk w B (.slice a d.blocks.length c) (.slice a' d.queue.length c') d)(y:aG w' b (bJ (rD H e) 3 [.slice a d.blocks.length c,.slice a' d.queue.length c']) 109)(j:w.grownBy w' (some b)) :
  lH w' B b { H with wb:=a,cwb:=c,wq:=a',cwq:=c',sw:=d } e:=
 ⟨y,h.ge,{ wV.keepK h j with sw:=u.keep h.blk (by decide) (by decide) j },h.tz⟩
theorem lH.setD{H:MH}{e:Int}(h:lH w B b H e)(u:nk w B (.slice a d.blocks.length c) (.slice a' d.queue.length c') d)(y:aG w' b (bJ (rD H e) 5 [.slice a d.blocks.length c,.slice a' d.queue.length c']) 109)(j:w.grownBy w' (some b)) :
  lH w' B b { H with db:=a,cdb:=c,dq:=a',cdq:=c',dk:=d } e:=
 ⟨y,h.ge,{ wV.keepK h j with dk:=u.keep h.blk (by decide) (by decide) j },h.tz⟩
theorem lH.setS{H:MH}{e:Int}(h:lH w B b H e){j:List PF}{k:Int}(y:rz w B (.slice a j.length c) j)(hk : -9223372036854775808<=k/\k<=9223372036854775807)(z:aG w' b (bJ (rD H e) 7 [.slice a j.length c,.int .i64 k]) 109)(u:w.grownBy w' (some b)) :
  lH w' B b { H with ai:=a,ci:=c,fi:=j,ct:=k } e:=
 ⟨z,h.ge,{ wV.keepK h u with st:=y.keep h.blk (by decide) (by decide) u,c64:=hk },h.tz⟩
theorem lH.setE{H:MH}{e e' : Int}(h:lH w B b H e)(u:aG w' b (bJ (rD H e) 11 [.int .i64 e']) 109)(j:w.grownBy w' (some b)):lH w' B b H e':=
 ⟨u,h.ge,wV.keepK h j,h.tz⟩
def KR(w:World)(B b:Nat)(H:MH)(w' : World)(k:Kp):Prop:=∃H' e',lH w' B b H' e'/\KS w b H w' H'/\Kp.mk H'.ma e' = k
theorem Dj{H H' : MH}(u:H'.af=H.af)(h2:H'.ac=H.ac)(j:H'.ap=H.ap){x:Nat}(h:kb b H' x):kb b H x:=by
 unfold kb at h ⊢; rw[u,h2,j]at h;exact h
theorem KS.putB{H0 H H' : MH}(h:KS w0 b H0 w H)(u:w.grownBy w' (some b))(z:H'.af=H.af)(h2:H'.ac=H.ac)(y:H'.ap=H.ap):KS w0 b H0 w' H':=
 h.put u (.inl rfl) λx j => .inl (Dj z h2 y j)
theorem KS.putF{H0 H H' : MH}{n:Nat}(h:KS w0 b H0 w H)(y:w.grownBy w' (some b))(u:Own w B' t sz (.slice H'.af n c) n xs)(z:w0.heap.size<=B')(h2:H'.ac=H.ac)(A:H'.ap=H.ap):KS w0 b H0 w' H':=
 h.put y (.inl rfl) λx j=>by
  rcases j with j|j|j|j
  .exact .inl (.inl j)
  .exact .inr (bi z (je u j).1)
  .exact .inl (.inr (.inr (.inl (by rw[<-h2];exact j))))
  .exact .inl (.inr (.inr (.inr (by rw[<-A];exact j))))
theorem Nq{row:Option Nat}(h:Below w.heap.size w w1)(j:w1.grownBy w2 row):w.grownBy w2 row:=
 ⟨j.os.trans h.os,j.tape.trans h.tape,j.output.trans h.output,bi h.size j.size,λk u y=>(j.block k (oL u h.size) y).trans (h.block k u)⟩
def Lc(k B:Nat)(T:TypeId)(R:mV):wX:=⟨λy w => ∃g cc,y k = .pointer (some ⟨g,0,none⟩)/\B<=g/\aG w g cc T/\R.r (.agg cc) w,[k],
 λy w w' hb ⟨g,cc,h1,h2,h3,h4⟩=>⟨g,cc,h1,h2,h3.ext hb,R.st _ _ _ hb h4⟩,λy y' w h ⟨g,cc,h1,h2⟩=>⟨g,cc,by rw[<-h k (bB.2 rfl)];exact h1,h2⟩⟩
theorem bT(h:cs.all (·.oneCell')=true):∀u∈cs.toList,u.oneCell' = true:=by
 rw[<-mO,fA]at h;exact h
theorem tV(H:MH):H.ma.sp.length=H.sp.length:=dV _
theorem Aa{l:List Cc}(h:eB w a (l.flatMap iQ))(k:Nat)(j:k<l.length):∃b off,a=some ⟨b,off,none⟩/\eB w (some ⟨b,off+k*3,none⟩) (iQ l[k]):=kE jc (by decide) h k j
theorem nW(e:Int):jw e 0=e:=by unfold jw;split<;>simp_all
theorem UC{e:Int}(h:e≠0)(j:Int):jw e j=e:=by unfold jw;rw[if_neg h]
theorem lH.rdM{H:MH}{e:Int}(h:lH w B b H e):eB w (some ⟨b,0,none⟩) [.slice H.af H.m.fs.length H.cf,.int .i64 H.m.hand]:=bF h.blk 0 2
theorem lH.rdW{H:MH}{e:Int}(h:lH w B b H e):eB w (some ⟨b,3,none⟩) [.slice H.wb H.sw.blocks.length H.cwb,.slice H.wq H.sw.queue.length H.cwq]:=bF h.blk 3 2
theorem lH.rdD{H:MH}{e:Int}(h:lH w B b H e):eB w (some ⟨b,5,none⟩) [.slice H.db H.dk.blocks.length H.cdb,.slice H.dq H.dk.queue.length H.cdq]:=bF h.blk 5 2
theorem lH.rdS{H:MH}{e:Int}(h:lH w B b H e):eB w (some ⟨b,7,none⟩) [.slice H.ai H.fi.length H.ci,.int .i64 H.ct]:=bF h.blk 7 2
theorem tu(H:MH)(e j:Int)(B b:Nat)(w:World)(h:lH w B b H e) :
  Calls Tryz.prog 138 #[.pointer (some ⟨b,0,none⟩),.int .i64 j] w λr w'=>r = .returned (.tuple #[])/\lH w' B b H (jw e j)/\w.grownBy w' (some b):=by
 have z:=h.blk.cell;have D:=h.blk.free;unfold rD at z;go_enter func138,ntmps138
 by_cases y:e=0
 .have u:=aC w b 11 [.int .i64 j];have A:=h.blk.setCells [.int .i64 j] 11;have a:Hid (jw e j=j):=ae (by unfold jw;rw[if_pos y]);have C:=ae h;clear h;go_wp2;simp[bodyPost,results,go_sem,results138];rw[a.out];exact⟨C.out.setE A u,u⟩
 go_wp2;simp[bodyPost,results,go_sem,results138];rw[UC y];exact⟨h,Jo _ _⟩
theorem TJ(H:MH)(e f n:Int)(B b:Nat)(w:World)(h:lH w B b H e) :
  Calls Tryz.prog 94 #[.pointer (some ⟨b,0,none⟩),.int .i64 f,.int .i64 n] w λr w'=>r = .returned (.tuple #[])/\∃H' e',lH w' B b H' e'/\KS w b H w' H'/\Kp.mk H'.ma e' = gF ⟨H.ma,e⟩ f n/\H'.sp=H.sp:=by
 go_enter func94,ntmps94
 go_wp2_with (refine ay _ _ rfl b 0 rfl rfl _ h.rdM _ underlying32 rfl mem_size ?_)
 refine(QC H.m f n _ _ _ h.ma.rd.fr).mono ?_;rintro r w1 ⟨M,rfl,A,l⟩;obtain⟨I,G,rfl,_⟩:=Bl A;have p:=ae h.bs;have F:=h.below l;have E:=(KS.refl w b H).below l
 go_wp2_with (refine aK rfl _ _ _ rfl #[.slice I (lW H.m f n).fs.length G,.int .i64 (lW H.m f n).hand] rfl rfl rfl mem_size (iT _ _ _ _) ?_)
 intro w2 c g;have h2:=F.below c;have D:=E.below c;have j:=A.below c;clear F E A c
 go_wp2_with fail
 refine(tu _ e (oC H.m f n) _ _ _ h2).mono ?_;rintro r L ⟨rfl,u,a⟩;have C:=D.putB a rfl rfl rfl;have i:=ax j h2.blk (by decide) a;have d:=bY g h2.blk (by decide) a;clear h2 D j g a
 by_cases y:oC H.m f n=0
 .rw[y,nW]at u;have z:Hid (gF ⟨H.ma,e⟩ f n=⟨{ H.ma with m:=lW H.m f n },e⟩):=ae (by unfold gF;exact if_pos y);have N:=d.cell;clear h;rw[y]
  go_wp2_with (first | (refine ay _ _ rfl _ 0 rfl rfl [.slice I (lW H.m f n).fs.length G,.int .i64 (lW H.m f n).hand] (bF d 0 2) _ underlying32 rfl mem_size ?_) | (refine gN rfl _ _ _ rfl b 0 _ rfl rfl _ _ u.blk (by show 0+2<=12;decide) mem_size (iT _ _ _ _) ?_))
  intro K o k;have J:=u.setM (i.mono p.out) o k;go_wp2;simp[bodyPost,results,go_sem,results94];rw[z.out];exact⟨_,_,J,C.putF k i (az _) rfl rfl,rfl,rfl⟩
 have z:Hid (gF ⟨H.ma,e⟩ f n=⟨H.ma,jw e (oC H.m f n)⟩):=ae (by unfold gF;exact if_neg y);go_wp2;simp[bodyPost,results,go_sem,results94];rw[z.out];exact⟨_,_,u,C,rfl,rfl⟩
theorem yI(H:MH)(e f n:Int)(B b:Nat)(w:World)(h:lH w B b H e) :
  Calls Tryz.prog 94 #[.pointer (some ⟨b,0,none⟩),.int .i64 f,.int .i64 n] w λr w'=>r = .returned (.tuple #[])/\KR w B b H w' (gF ⟨H.ma,e⟩ f n):=
 (TJ H e f n B b w h).mono λr w' ⟨h1,H',e',h2,h3,h4,_⟩=>⟨h1,H',e',h2,h3,h4⟩
theorem cO{y:Operand}{n:Nat}{k:IntKind}(D:o.op = .indexAddr t x y)(A:ρ x = .slice (some ⟨b,off,none⟩) n c)(z:ρ y = .int k (i:Int))(E:i<n)
 (C:P.underlying t=some (.slice e)) (u:(P.info? e).map (·.size)=some sz):(execOp ρ o).run P w = .ok (.value (.pointer (some ⟨b,off+i*sz,none⟩))) w:=by
 obtain⟨j,a,d⟩:∃j,P.info? e=some j/\j.size=sz:=by
  cases h:P.info? e with
  | none=>rw[h]at u;cases u
  | some j=>rw[h]at u;exact⟨j,rfl,by simpa using u⟩
 have f:(Go.sizeOf e).run P w = .ok sz w:=by simp[Go.sizeOf,typeInfo,a,go_sem,d]
 simp[execOp,go_sem,D,A,z,C,f,E]
theorem qG{o:Nat}(h:eB w (some ⟨b,o,none⟩) vs)(d n:Nat):eB w (some ⟨b,o+d,none⟩) ((vs.drop d).take n):=by
 intro i u j;rw[mg]at j;split at j
 .rw[qQ]at j;obtain⟨A,z,e,y⟩:=h (d+i) u j;cases e;exact⟨_,_,rfl,by rw[nV];exact y⟩
 .cases j
theorem vM{o:Nat}(r:List Value)(h:cur[o]?=some v):bJ cur o (v::r)=bJ cur (o+1) r:=by
 have:cur.setIfInBounds o v=cur:=by
  apply mI;intro i;rw[Al]
  by_cases e:o=i
  .subst e;rw[if_pos rfl,if_pos (iX.1 h).1,h]
  .rw[if_neg e]
 show bJ (cur.setIfInBounds o v) (o+1) r=_;rw[this]
theorem BM{n:Nat}(h:Own w B e sz (.slice (some ⟨g,off,none⟩) n c) n xs)(C:aG w g cur e):∀j u,xs[j]?=some u->cur[off+j]?=some u:=by
 rcases h.2 with⟨G,_⟩|⟨H,A,D,y,E,_,z,_,_,_,F⟩
 .cases G
 cases E;have:cur=y:=by unfold aG at C z;rw[C]at z;simpa using z
 subst this;exact F
theorem lH.setT{H:MH}{e:Int}(h:lH w B b H e){P:PS}(C:H.sp[p]?=some P) :
  ∃g off cur,H.ap=some ⟨g,off,none⟩/\B<=g/\aG w g cur 76/\off+p*10+2+8<=cur.size/\eB w (some ⟨g,off+p*10,none⟩) (tQ P) /\
   ∀(w' : World) (v:Vector Value 8) (t:Tb),sG w B (nT v) t->Gi t->aG w' g (bJ cur (off+p*10+2) (nT v).toList) 76->w.grownBy w' (some g)->lH w' B b { H with sp:=H.sp.set p { P with ts:=v,tb:=t } } e:=by
 have E:=(cz.1 C).1;have o:=(cz.1 C).2;obtain⟨g,off,L,cur,D,J,a,r,k⟩:=oO oV (by decide) rfl h.ma.sp p E;simp only[mK]at D;obtain⟨l,_,s⟩:=D;have i:=h.ma.sp;rw[l]at i;have d:=BM i a;have f:∀j u,(tQ P)[j]?=some u->cur[off+p*10+j]?=some u:=λj u A=>by rw[nV];exact d _ _ (flat_get tQ 10 oV H.sp p E j u (by rw[o];exact A))
 refine⟨g,off,cur,l,J,a,by omega,λj u A=>⟨g,_,rfl,by rw[a.cell];exact f j u A⟩,λw' v t I m F y => ?_⟩;have K:bJ cur (off+p*10) (tQ { P with ts:=v,tb:=t })=bJ cur (off+p*10+2) (nT v).toList:=by show bJ cur (off+p*10) (.bool P.lv :: .slice P.aa P.ar.length P.ac::(nT v).toList)=_;rw[vM _ (by simpa using f 0 _ rfl),vM _ (f 1 _ rfl)]
 rw[<-K]at F;have c:(H.sp.set p { P with ts:=v,tb:=t }).length=H.sp.length:=bL;have n:b≠g:=λe=>by have G:=h.blk;subst e;unfold aG at G a;rw[G]at a;simp only[jA,uj]at a;exact absurd a.2.1 (by decide)
 refine⟨?_,h.ge,⟨ax h.ma.fr a (by decide) y,ax h.ma.sl a (by decide) y,h.ma.sw.keep a (by decide) (by decide) y,h.ma.dk.keep a (by decide) (by decide) y,h.ma.st.keep a (by decide) (by decide) y,ax h.ma.ca a (by decide) y,?_,λq z => ?_,h.ma.c64⟩,λq z => ?_⟩
 .have:rD { H with sp:=H.sp.set p { P with ts:=v,tb:=t } } e=rD H e:=by unfold rD;simp only[c]
  rw[this];exact h.blk.grown y (λe=>n (aM e).symm)
 .simp only[c];exact k w' _ F
 .rcases lU z with z|rfl
  .exact⟨ax (h.ma.ps q z).1 a (by decide) y,(h.ma.ps q z).2.keep a (by decide) y⟩
  .exact⟨ax (h.ma.ps P (bS C)).1 a (by decide) y,I.keep a (by decide) y⟩
 rcases lU z with z|rfl
 .exact h.tz q z
 .exact m
theorem pV{H:MH}{P:PS}(h:H.sp[p]?=some P):dD H.ma p=P.sp:=by
 unfold dD MH.ma;simp only;rw[aY,iV,h];rfl
theorem OB{H:MH}{P:PS}(h:H.sp[p]?=some P)(v:Vector Value 8)(t:Tb):MH.ma { H with sp:=H.sp.set p { P with ts:=v,tb:=t } }=setTb H.ma p t:=by
 unfold setTb;rw[pV h];unfold MH.ma;simp only[AV];rfl
theorem TS{v:Vector Value 8}{t:Tb}(h:Gq w (nT v) t):∀u∈(nT v).toList,u.oneCell' = true:=by
 have:=h.one;rw[<-mO,fA]at this;exact this
theorem VJ{t:Tb}{e:En}:Gi (setT t n e):=by
 by_cases h:setE t n e=0
 .exact Me (qm h)
 .rw[xL h];exact Me zTb_right
def PY(B:Nat)(t:Tb)(n:Int)(x:En):mV:=⟨λv w => ∃cs,v = .tuple #[.agg cs,.int .i64 (setE t n x)]/\sG w B cs (setT t n x),λ_ _ _ hb ⟨cs,h1,h2⟩=>⟨cs,h1,h2.below hb⟩⟩
def Ke(B:Nat)(t:Tb):mV:=⟨λv w => ∃cs,v = .agg cs/\sG w B cs t,λ_ _ _ hb ⟨cs,h1,h2⟩=>⟨cs,h1,h2.below hb⟩⟩
theorem jl(H:MH)(e n:Int)(p:Nat)(x:En)(B b:Nat)(w:World)(h:lH w B b H e)(Y:p<H.sp.length) :
  Calls Tryz.prog 92 #[.pointer (some ⟨b,0,none⟩),.int .i64 p,.int .i64 n,.agg (jy x)] w λr w'=>r = .returned (.tuple #[])/\KR w B b H w' (eZ ⟨H.ma,e⟩ p n x):=by
 obtain⟨P,L⟩:∃P,H.sp[p]?=some P:=⟨_,aF Y⟩;have hE:=ae (pV L);have hT:=ae h.bs;have hL:=bS L;go_enter func92,ntmps92;go_upto_region 1 with(fail);refine iG (λW=>Code.wp _ _ _ _ W) λw1 N hD hN => ?_;have G:=h.below N;have s1:=(KS.refl w b H).below N;clear h hN;obtain⟨g,off,cur,o,hM,u,t,hj,s⟩:=G.setT L;refine ko 18 [_,_,_,_,_,_,_,_,_,_,_,.r 11 ((PY w1.heap.size P.tb n x)),.r 12 ((PY w1.heap.size P.tb n x)),.r 13 ((Ke w1.heap.size (setT P.tb n x))),.v (.int .i64 (setE P.tb n x)),.r 15 ((iN w1.heap.size 74 8)),.y 16 ((Lc 15 w1.heap.size 74 (Ke w1.heap.size (setT P.tb n x)))),.v (.int .i64 (setE P.tb n x))] (λW=>Below w1.heap.size w1 W) dS (Below.refl _ _) (Yk dS rfl (Yk dS rfl (Yf dS b 0 rfl rfl (Yf dS b 10 rfl rfl (Yc dS (.slice (some ⟨g,off,none⟩) H.sp.length H.cp) (λW A=>by simp[(G.below A).blk.cell,rD,o]) rfl rfl rfl rfl (Yk dS rfl (Yr dS (.pointer (some ⟨g,off+p*10,none⟩)) (λρ y W A a=>(cO rfl (aL rfl a) (aL rfl a) Y underlying43 space_size)) rfl rfl (Yf dS g (off+p*10+2) rfl rfl (Yr dS (.agg (nT P.ts)) (λρ y W A a=>(bH rfl (aL rfl a) (qG (hj.below A) 2 8) underlying74 tab_agg tab_size)) rfl rfl (Yk dS rfl (Yr dS (.agg (jy x)) (λρ y W A a=>(eD rfl (aL rfl a) (hD.ext A) underlying68 rfl entry_size)) rfl rfl (ah ?_ (ah ?_ (ah ?_ (ah ?_ (ah ?_ (ah ?_ (Yk dS rfl (aI))))))))))))))))))) (λ_=>rfl) rfl ?_
 .intro ρ y W C F A D;refine iY dS A ((PY w1.heap.size P.tb n x)) (λ_ _ h=>h) ?_;have h5:=C 19 8 rfl;have h8:y 8=_:=D 8 rfl;have h4:=C 20 9 rfl;have h9:y 9=_:=D 9 rfl;have h3:=C 21 10 rfl;have hX:y 10=_:=D 10 rfl;have EF:=eF0 F λ_=>trivial;refine aO _ _ (aj rfl) (aS rfl (EF _) func137 (by kernel_rfl) (by kernel_rfl) (by simp only[bW,bQ,aZ,h5,h8,h4,h9,h3,hX,EF];rfl)) ?_;refine(Su P.tb (nT P.ts) n x W (((G.below A).ma.ps P hL).2.rd) (G.tz P hL)).mono ?_;rintro r I ⟨cs,rfl,M,hS⟩;exact⟨_,rfl,hS,cs,rfl,M.mono A.size⟩
 .intro ρ y W C F A D;refine iY dS A ((PY w1.heap.size P.tb n x)) (λ_ _ h=>h) ?_;have hZ:=C 22 11 rfl;have hW:=D 11 rfl;refine ak _ (aj rfl) (run_move (.inl rfl) hZ) ?_;exact hW
 .intro ρ y W C F A D;refine iY dS A ((Ke w1.heap.size (setT P.tb n x))) (λ_ _ h=>h) ?_;have S:=C 10 12 rfl;have U:=D 12 rfl;obtain⟨cs,V,M⟩:=U;refine ak (.agg cs) (aj rfl) (by simp[execOp,go_sem,bU,S,V]) ?_;exact⟨cs,rfl,M⟩
 .intro ρ y W C F A D;refine iY dS A (mZ (.int .i64 (setE P.tb n x))) (λ_ _ h=>h) ?_;have S:=C 10 12 rfl;have U:=D 12 rfl;obtain⟨cs,V,M⟩:=U;refine ak (.int .i64 (setE P.tb n x)) (aj rfl) (by simp[execOp,go_sem,bU,S,V]) rfl
 .intro ρ y W C F A D;refine iY dS A ((iN w1.heap.size 74 8)) (λ_ _ h=>h) ?_;refine jh (.pointer (some ⟨W.heap.size,0,none⟩)) (aj rfl) (by simp[execOp,go_sem,bU]) ((Below.refl _ _).alloc (az _) (.cells #[.slice none 0 0,.slice none 0 0,.slice none 0 0,.slice none 0 0,.slice none 0 0,.slice none 0 0,.slice none 0 0,.slice none 0 0] 74)) ?_;exact⟨_,_,rfl,A.size,aG.new _ _ _,rfl⟩
 .intro ρ y W C F A D;have E8:=C 8 15 rfl;have hU:=D 15 rfl;have hY:=C 23 13 rfl;have hV:=D 13 rfl;obtain⟨cc,e7,hl⟩:=hV;obtain⟨g3,E,e9,hJ,m,hF⟩:=hU;have j:=hl.sz;refine mh (aj rfl) _ _ _ rfl g3 0 (.agg cc) cc.toList (E8.trans e9) (hY.trans e7) rfl E _ m (by rw[jm,hF,j];exact az _) (by rw[jm,j];exact tab_size) (bT hl.rd.one) ?_;intro w1 hh l;rw[gK E cc (by rw[hF,j])]at hh;refine⟨A.grown l A.size (λk hk=>by cases hk;exact hJ),⟨g3,cc,e9,hJ,hh,⟨cc,rfl,hl.keep m (by decide) l⟩⟩,?_⟩;intro k hk hO
  match k,hk,hO with
  | 0,_,_|1,_,_|2,_,_|3,_,_|4,_,_|5,_,_|6,_,_|7,_,_|8,_,_|9,_,_|10,_,_=>exactλh=>h
  | 11,_,_|12,_,_|13,_,_=>exactλ⟨c,q1,q2⟩=>⟨c,q1,q2.keep m (by decide) l⟩
  | 14,_,_=>exactλh=>h
  | 15,_,_=>exactλq=>kZ q hh (λ_=>j) ⟨_,m⟩ l
  | 16,_,h=>exact absurd rfl h
  | 17,_,_=>exactλh=>h
  | n+18,h,_=>exact absurd h (by omega)
 intro y I i d;replace i:Below w1.heap.size w1 I:=i;have hB:((PY w1.heap.size P.tb n x)).r (y 11) I:=d 11 (by decide);have hA:((PY w1.heap.size P.tb n x)).r (y 12) I:=d 12 (by decide);have hz:((Ke w1.heap.size (setT P.tb n x))).r (y 13) I:=d 13 (by decide);have hv:((iN w1.heap.size 74 8)).r (y 15) I:=d 15 (by decide);have hu:=d 16 (by decide);clear d;simp only[dm,bU,bQ,aZ];obtain⟨gx,cs2,h7,hH,hK,ca2,hf,Z⟩:=hu;simp only[ym]at hf;subst hf;obtain⟨R,rfl⟩:=TW Z.sz;have h2:=G.below i;have s2:=s1.below i;have hI:=ae N.size;clear hB hA hz hv s hj u t o G s1 hD hM N cur
 go_wp2_with fail
 refine(tu _ e (setE P.tb n x) _ _ _ h2).mono ?_;rintro r w3 ⟨rfl,K,z⟩;have s3:=s2.putB z rfl rfl rfl;have hG:=Z.keep h2.blk (by decide) z;have hC:=bY hK h2.blk (by decide) z;have hM:=ae hH;clear h2 s2 Z hK z i hH;have hi:Hid (setE (dD H.ma p).tb n x=setE P.tb n x):=ae (by rw[hE.out];rfl)
 by_cases O:setE P.tb n x=0
 .rw[O,nW]at K;have X:Hid (eZ ⟨H.ma,e⟩ p n x=⟨setTb H.ma p (setT P.tb n x),e⟩):=ae (by unfold eZ;simp only;rw[if_pos (hi.out.trans O),hE.out];rfl);obtain⟨g,off,cur,o,h6,u,t,hj,s⟩:=K.setT L;have hx:=hC.cell;have J:=K.blk.cell;unfold rD at J;rw[o]at J;rw[O];go_upto_region 4 with(fail);refine aV 9 [_,_,_,_,_,_,_,_,_] (Gk rfl (Gk rfl (Gf b 0 rfl rfl (Gf b 10 rfl rfl (Gc (.slice (some ⟨g,off,none⟩) H.sp.length H.cp) (λW A=>by simp[(K.below A).blk.cell,rD,o]) rfl rfl rfl rfl (Gk rfl (Gr (.agg (nT R)) (λρ y W A a=>(bH rfl (aL rfl a) ((hC.ext A).rd) underlying74 tab_agg tab_size)) rfl rfl (Gr (.pointer (some ⟨g,off+p*10,none⟩)) (λρ y W A a=>(cO rfl (aL rfl a) (aL rfl a) Y underlying43 space_size)) rfl rfl (Gf g (off+p*10+2) rfl rfl (aI)))))))))) (λ_=>rfl) rfl ?_;intro y W4 hg _
  go_wp2_with (refine gN rfl _ _ _ rfl g (off+p*10+2) (nT R) rfl rfl _ _ (u.ext hg) t tab_size (by rw[<-mO,fA];exact TS hG.rd) ?_)
  intro w5 hR hQ;have hc:=Nq hg hQ;have k5:=s w5 R (setT P.tb n x) (hG.mono (bi hT.out hI.out)) VJ hR hc;go_wp2;simp[bodyPost,results,go_sem,results92];rw[X.out];refine⟨_,_,k5,s3.put hc (.inr (.inr (.inr (by rw[o];rfl)))) λy hy => .inl (Dj rfl rfl rfl hy),?_⟩;rw[OB L]
 have X:Hid (eZ ⟨H.ma,e⟩ p n x=⟨H.ma,jw e (setE P.tb n x)⟩):=ae (by unfold eZ;simp only;rw[if_neg (by rw[hi.out];exact O),hi.out]);go_wp2;simp[bodyPost,results,go_sem,results92];rw[X.out];exact⟨_,_,K,s3,rfl⟩
theorem slots_size:(Tryz.prog.info? 34).map (·.size)=some 1:=by kernel_rfl
def CX(B:Nat)(T:TypeId)(sz n:Nat)(xs:List Value)(er:Int):mV:=⟨λv w => ∃u,v = .tuple #[u,.int .i64 er]/\Own w B T sz u n xs,λ_ _ _ hb ⟨u,h1,h2⟩=>⟨u,h1,h2.below hb⟩⟩
theorem lH.at{w:World}{B b:Nat}{H:MH}{e:Int}(h:lH w B b H e){p:Nat}{P:PS}(j:H.sp[p]?=some P):∃g off,H.ap=some ⟨g,off,none⟩/\eB w (some ⟨g,off+p*10,none⟩) (tQ P)/\eB w (some ⟨g,off+p*10+2,none⟩) (nT P.ts).toList/\P.good w:=by
 have y:=(cz.1 j).1;obtain⟨g,off,A,z,a,u⟩:=rG h.ma.rd.sp.rd p y;rw[j]at a;cases a;exact⟨g,off,z,u,qG u 2 8,h.ma.rd.ps P (bS j)⟩
theorem KR.trans{u j:MH}{k:Kp}(h:KS w0 b u w1 j)(y:KR w1 B b j w2 k):KR w0 B b u w2 k:=by
 obtain⟨D,C,A,h2,z⟩:=y;exact⟨D,C,A,h.trans h2,z⟩
theorem BA(H:MH)(e n:Int)(p:Nat)(B b:Nat)(w:World)(h:lH w B b H e)(R:p<H.sp.length) :
  Calls Tryz.prog 95 #[.pointer (some ⟨b,0,none⟩),.int .i64 p,.int .i64 n] w λr w'=>r = .returned (.tuple #[])/\KR w B b H w' (jT ⟨H.ma,e⟩ p n):=by
 obtain⟨P,hP⟩:∃P,H.sp[p]?=some P:=⟨_,aF R⟩;have hs:=ae (pV hP);obtain⟨g,off,hE,ht,hh,d⟩:=h.at hP;have hc:=h.blk.cell;unfold rD at hc;rw[hE]at hc;have hL:(p:Int)<(H.sp.length:Int):=by omega
 go_enter func95,ntmps95
 go_wp2_with (refine ay _ _ rfl g (off+p*10+2) rfl rfl _ hh _ underlying74 tab_agg tab_size ?_)
 refine(xk P.tb (nT P.ts) n _ d.tb).mono ?_;rintro r w1 ⟨rfl,hf⟩;have h1:=h.below hf;have s1:=(KS.refl w b H).below hf;clear hc ht hh d;generalize hx:dK P.tb n=x
 go_wp2_with (refine aK rfl _ _ _ rfl (jy x) rfl rfl rfl entry_size (by simp[jy,Value.oneCell']) ?_)
 intro w2 ha o;have h2:=h1.below ha;have L:=s1.below ha;clear h1 s1 hf ha h;have i:=o.cell;unfold jy at i;have t:Hid (dK (dD H.ma p).tb n=x):=ae (by rw[hs.out];exact hx);clear hx
 by_cases A:x.k=1
 .have I:Hid (jT ⟨H.ma,e⟩ p n=eZ (gF ⟨H.ma,e⟩ x.n (-1)) p n zEn):=ae (by unfold jT;simp only[t.out];rw[if_pos A]);have hJ:=ae A;rw[A]at i;clear A
  go_wp2_with fail
  refine(yI H e x.n (-1) B b _ h2).mono ?_;rintro r w3 ⟨rfl,H3,e3,h3,K,X⟩;have hz:H3.sp.length=H.sp.length:=by
   have e1:H3.ma.sp=H.ma.sp:=by have:=congrArg (λk=>k.m.sp) X;simp only at this;rw[this];unfold gF;split<;>rfl
   have:=congrArg List.length e1;unfold MH.ma at this;simpa using this
  have V:=L.trans K;have hv:=ae X;clear X K i
  go_wp2_with fail
  refine(jl H3 e3 n p zEn B b _ h3 (by rw[hz];exact R)).mono ?_;rintro r w4 ⟨rfl,hA⟩;go_wp2;simp[bodyPost,results,go_sem,results95];rw[I.out,<-hv.out];exact KR.trans V hA
 by_cases F:x.k=2
 .have I:Hid (jT ⟨H.ma,e⟩ p n=eZ (nS ⟨H.ma,e⟩ x.n (-1)) p n zEn):=ae (by unfold jT;simp only[t.out];rw[if_neg A,if_pos F]);rw[F]at i;clear A F;have hj:=h2.blk.cell;unfold rD at hj;go_upto_region 5 with(fail);refine ko 13 [_,_,_,_,_,_,_,.r 7 ((CX w2.heap.size 3 1 (cB H.sl x.n (-1)).length ((cB H.sl x.n (-1)).map gB) (dC H.sl x.n (-1)))),.r 8 ((CX w2.heap.size 3 1 (cB H.sl x.n (-1)).length ((cB H.sl x.n (-1)).map gB) (dC H.sl x.n (-1)))),.r 9 ((nA w2.heap.size 3 1 (cB H.sl x.n (-1)).length ((cB H.sl x.n (-1)).map gB))),.v (.int .i64 (dC H.sl x.n (-1))),.r 11 ((nA w2.heap.size 3 1 (cB H.sl x.n (-1)).length ((cB H.sl x.n (-1)).map gB))),.v (.int .i64 (dC H.sl x.n (-1)))] (λW=>Below w2.heap.size w2 W) dS (Below.refl _ _) (Yk dS rfl (Yk dS rfl (Yf dS b 0 rfl rfl (Yf dS b 2 rfl rfl (Yc dS (.slice H.asl H.sl.length H.csl) (λW C=>by simp[(h2.below C).blk.cell,rD]) rfl rfl rfl rfl (Yf dS w1.heap.size 1 rfl rfl (Yc dS (.int .i64 x.n) (λW C=>by simp[(o.ext C).cell,jy]) rfl rfl rfl rfl (ah ?_ (ah ?_ (ah ?_ (ah ?_ (ah ?_ (Yk dS rfl (aI)))))))))))))) (λ_=>rfl) rfl ?_
  .intro ρ y W D J C E;refine iY dS C ((CX w2.heap.size 3 1 (cB H.sl x.n (-1)).length ((cB H.sl x.n (-1)).map gB) (dC H.sl x.n (-1)))) (λ_ _ h=>h) ?_;have hI:=D 35 4 rfl;have h4:y 4=_:=E 4 rfl;have hH:=D 37 6 rfl;have h6:y 6=_:=E 6 rfl;have EC:∀v,ρ (.const v)=v:=λv=>J (.const v) trivial;have EF:=eF0 J λ_=>trivial;refine aO _ _ (aj rfl) (aS rfl (EF _) func91 (by kernel_rfl) (by kernel_rfl) (by simp only[bW,bQ,aZ,hI,h4,hH,h6,EC,EF];rfl)) ?_;have N:=(h2.below C).ma.rd.sl;refine(EA H.sl H.asl H.csl x.n (-1) W N.le N.nl N.rd (by have:=N.le;have:=N.mx;unfold maxLen at this;omega)).mono ?_;rintro r G ⟨u,rfl,S,hD⟩;exact⟨_,rfl,hD,u,rfl,S.mono C.size⟩
  .intro ρ y W D J C E;refine iY dS C ((CX w2.heap.size 3 1 (cB H.sl x.n (-1)).length ((cB H.sl x.n (-1)).map gB) (dC H.sl x.n (-1)))) (λ_ _ h=>h) ?_;have hG:=D 38 7 rfl;have h7:=E 7 rfl;refine ak _ (aj rfl) (run_move (.inl rfl) hG) ?_;exact h7
  .intro ρ y W D J C E;refine iY dS C ((nA w2.heap.size 3 1 (cB H.sl x.n (-1)).length ((cB H.sl x.n (-1)).map gB))) (λ_ _ h=>h) ?_;have Z:=D 30 8 rfl;have h8:=E 8 rfl;obtain⟨u,M,S⟩:=h8;refine ak u (aj rfl) (by simp[execOp,go_sem,bU,Z,M]) ?_;exact S
  .intro ρ y W D J C E;refine iY dS C (mZ (.int .i64 (dC H.sl x.n (-1)))) (λ_ _ h=>h) ?_;have Z:=D 30 8 rfl;have h8:=E 8 rfl;obtain⟨u,M,S⟩:=h8;refine ak (.int .i64 (dC H.sl x.n (-1))) (aj rfl) (by simp[execOp,go_sem,bU,Z,M]) rfl
  .intro ρ y W D J C E;refine iY dS C ((nA w2.heap.size 3 1 (cB H.sl x.n (-1)).length ((cB H.sl x.n (-1)).map gB))) (λ_ _ h=>h) ?_;have hF:=D 39 9 rfl;have h9:=E 9 rfl;refine ak _ (aj rfl) (run_move (.inr rfl) hF) ?_;exact h9
  intro y G a c;replace a:Below w2.heap.size w2 G:=a;have hr:((CX w2.heap.size 3 1 (cB H.sl x.n (-1)).length ((cB H.sl x.n (-1)).map gB) (dC H.sl x.n (-1)))).r (y 7) G:=c 7 (by decide);have hl:((CX w2.heap.size 3 1 (cB H.sl x.n (-1)).length ((cB H.sl x.n (-1)).map gB) (dC H.sl x.n (-1)))).r (y 8) G:=c 8 (by decide);have hk:((nA w2.heap.size 3 1 (cB H.sl x.n (-1)).length ((cB H.sl x.n (-1)).map gB))).r (y 9) G:=c 9 (by decide);have l:((nA w2.heap.size 3 1 (cB H.sl x.n (-1)).length ((cB H.sl x.n (-1)).map gB))).r (y 11) G:=c 11 (by decide);clear c;simp only[dm,bU,bQ,aZ];have j:Own G w2.heap.size 3 1 (y 11) (cB H.sl x.n (-1)).length ((cB H.sl x.n (-1)).map gB):=l;obtain⟨a3,c3,e7,_⟩:=Own.rd j;rw[e7]at j;simp only[e7];have Y:=h2.below a;have K:=L.below a;have hB:=ae (bi h2.bs (az _));have hK:=ae L.size;clear hr hl hk l e7 i hj h2 L o a
  go_wp2_with fail
  refine(tu _ e (dC H.sl x.n (-1)) _ _ _ Y).mono ?_;rintro r w4 ⟨rfl,O,z⟩;have s4:=K.putB z rfl rfl rfl;have hy:=ax j Y.blk (by decide) z;clear Y K j z
  by_cases U:dC H.sl x.n (-1)=0
  .rw[U,nW]at O;have q:Hid (nS ⟨H.ma,e⟩ x.n (-1)=⟨{ H.ma with sl:=cB H.sl x.n (-1) },e⟩):=ae (by unfold nS;exact if_pos U);rw[U]
   go_wp2_with (refine aB rfl _ _ _ rfl b 2 _ [.slice a3 (cB H.sl x.n (-1)).length c3] rfl rfl rfl _ _ O.blk (by show 2+1<=12;decide) slots_size (λu M=>by cases bB.1 M;rfl) ?_)
   intro w5 hC hi;have k5:=O.setL (hy.mono hB.out) hC hi;have s5:KS w b H w5 { H with asl:=a3,csl:=c3,sl:=cB H.sl x.n (-1) }:=s4.putB hi rfl rfl rfl
   go_wp2_with fail
   refine(jl _ e n p zEn B b _ k5 R).mono ?_;rintro r w6 ⟨rfl,s⟩;go_wp2;simp[bodyPost,results,go_sem,results95];rw[I.out,q.out];exact KR.trans s5 s
  have q:Hid (nS ⟨H.ma,e⟩ x.n (-1)=⟨H.ma,jw e (dC H.sl x.n (-1))⟩):=ae (by unfold nS;exact if_neg U)
  go_wp2_with fail
  refine(jl _ (jw e (dC H.sl x.n (-1))) n p zEn B b _ O R).mono ?_;rintro r w6 ⟨rfl,s⟩;go_wp2;simp[bodyPost,results,go_sem,results95];rw[I.out,q.out];exact KR.trans s4 s
 have I:Hid (jT ⟨H.ma,e⟩ p n=⟨H.ma,e⟩):=ae (by unfold jT;simp only[t.out];rw[if_neg A,if_neg F]);go_wp2;simp[bodyPost,results,go_sem,results95];rw[I.out];exact⟨_,_,h2,L,rfl⟩
theorem mD{a:Nat}(h:aG w a cs T)(h' : aG w b cs' T')(j:T≠T'):a≠b:=by
 rintro rfl;unfold aG at h h';rw[h]at h';simp only[jA,uj]at h';exact j h'.2.1
def FP(B:Nat)(m:Mem):mV:=⟨λv w => ∃u,v = .agg #[u,.int .i64 m.hand]/\Own w B 66 13 u m.fs.length (m.fs.flatMap pR),λ_ _ _ hb ⟨u,h1,h2⟩=>⟨u,h1,h2.below hb⟩⟩
theorem jC(l:List Cc):(l.flatMap iQ).length=l.length*3:=Pw.flat_len iQ 3 jc l
theorem Dz(c:Cc):∀u∈iQ c,u.oneCell' = true:=bT (wB c)
theorem yS(l:List Cc):∀u∈l.flatMap iQ,u.oneCell' = true:=by
 intro u h;obtain⟨c,_,j⟩:=jV.1 h;exact Dz c u j
def NA(B:Nat)(S:St):mV:=⟨λv w => ∃u ps k,v = .agg #[u,.int .i64 k]/\rz w B u ps/\cK ps k=S,λ_ _ _ hb ⟨u,ps,k,h1,h2,h3⟩=>⟨u,ps,k,h1,h2.below hb,h3⟩⟩
theorem BL(l:List Cc)(x:Cc)(k:Nat):(l.take k++x::l.drop k).flatMap iQ=(l.take k).flatMap iQ++(iQ x++(l.drop k).flatMap iQ):=by simp[fI]
theorem Eu{l:List Cc}{x:Cc}{o:Nat}(y:k<=l.length)(A:∀j u,((l.take k).flatMap iQ)[j]?=some u->cur[o+j]?=some u)(h2:∀j u,(iQ x)[j]?=some u->cur[o+k*3+j]?=some u)
 (z:∀j u,((l.drop k).flatMap iQ)[j]?=some u->cur[o+(k+1)*3+j]?=some u):∀j u,((l.take k++x::l.drop k).flatMap iQ)[j]?=some u->cur[o+j]?=some u:=by
 intro j u h;have a:((l.take k).flatMap iQ).length=k*3:=by rw[jC,iO,uz y]
 rw[BL]at h
 by_cases D:j<k*3
 .rw[kK (by omega)]at h;exact A j u h
 rw[jU (by omega),a]at h
 by_cases C:j-k*3<3
 .rw[kK (by rw[jc];exact C)]at h;have:=h2 _ u h;rwa [show o+k*3+(j-k*3)=o+j by omega]at this
 rw[jU (by rw[jc];omega),jc]at h;have:=z _ u h;rwa [show o+(k+1)*3+(j-k*3-3)=o+j by omega]at this
theorem xh{l:List Cc}{o:Nat}(h:∀j u,(l.flatMap iQ)[j]?=some u->cur[o+j]?=some u):∀j u,((l.take k).flatMap iQ)[j]?=some u->cur[o+j]?=some u:=by
 intro j u y;refine h j u ?_
 conv=>lhs;rw[<-rX k l,fI]
 rw[kK (by have:=(cz.1 y).1;exact this)];exact y
theorem Cw{l:List Cc}(y:k<=l.length){o:Nat}(h:∀j u,(l.flatMap iQ)[j]?=some u->cur[o+j]?=some u):∀j u,((l.drop k).flatMap iQ)[j]?=some u->cur[o+k*3+j]?=some u:=by
 intro j u z;rw[nV];refine h _ u ?_
 conv=>lhs;rw[<-rX k l,fI]
 have a:((l.take k).flatMap iQ).length=k*3:=by rw[jC,iO,uz y]
 rw[jU (by omega),a,Bc];exact z
theorem Ll{a:Act}{K:Act->World->Prop}{E:Prop}
 (A:o.guard=none) (d s:Operand) (t t' : TypeId) (h:o.op=Op.call { callee:=.builtin .append,args:=#[d,s],argTypes:=#[t,t'] }) (j vs v:Value)
 (C:a.eval d=j) (u:a.eval s=vs) (z:(Builtin.append_ #[t,t'] o.type #[j,vs]).run P w = .ok v w') (D:K (a.put o.dst v) w') :
  if Region.wanted o (yielded ops a.tmps)=true then Oper.wp P o a w K Q else E:=by
 have y:Region.wanted o (yielded ops a.tmps)=true:=by simp[Region.wanted,A]
 rw[if_pos y];unfold Oper.wp;simp[execOp,h,resolve,invoke,builtin,C,u,z,Result.andThen];exact D
theorem EO(l:List Cc)(k:Nat):(l.eraseIdx k).flatMap iQ=(l.take k).flatMap iQ++(l.drop (k+1)).flatMap iQ:=by rw[List.eraseIdx_eq_take_drop_succ,fI]
theorem Lh(l:List Cc)(k:Nat)(J:k<l.length)(a:Option Addr)(c B:Nat)(w:World)(G:Own w B 122 3 (.slice a l.length c) l.length (l.flatMap iQ))(hl:l.length<=1000) :
  Calls Tryz.prog 200 #[.slice a l.length c,.int .i64 k,.int .i64 ((k:Int)+1)] w λe w'=>e = .returned (.slice a (l.length-1) c)/\Own w' B 122 3 (.slice a (l.length-1) c) (l.length-1) ((l.eraseIdx k).flatMap iQ)/\w.grownBy w' (oB a):=by
 rcases G with⟨O,⟨_,hz⟩|⟨b,off,c',cur,U,I,H,W,E,F,C⟩⟩
 .omega
 cases U;have t:=E;unfold maxLen at t;have v:((l.drop (k+1)).flatMap iQ).length=(l.length-(k+1))*3:=by rw[jC,AX]
 have x:=Cw (k:=k+1) (by omega) C;have q:∀K cc D,(∀j u,((l.drop (k+1)).flatMap iQ)[j]?=some u->w.cell? (Addr.add K j)=some u)->(Builtin.append_ #[42,42] D #[.slice (some ⟨b,off,none⟩) k c,.slice (some K) (l.length-(k+1)) cc]).run Tryz.prog w.drew = .ok (.slice (some ⟨b,off,none⟩) (k+(l.length-(k+1))) c) (w.drew.setCells b (off+k*3) ((l.drop (k+1)).flatMap iQ)):=by intro K cc D X;obtain⟨S,Y,hh,i,hg⟩:=info_parts cached_info;have:=run_append_room_cells (P:=Tryz.prog) w.drew 42 D 122 S underlying42 Y b off k c K (l.length-(k+1)) cc ((l.drop (k+1)).flatMap iQ) (by rw[i,v]) X (λu V=>yS _ u V) (by omega) (λj A=>by rw[i,H.drew.cell];simp[show off+k*3+j<cur.size by omega]) (λj A=>H.drew.free _);rw[i]at this;exact this
 have r:k+1=l.length->((l.drop (k+1)).flatMap iQ)=[]:=λh=>by rw[qX (by omega)];rfl
 obtain⟨N,M⟩:∃N,N=(l.drop (k+1)).flatMap iQ:=⟨_,rfl⟩;rw[<-M]at v x q r;have R:=ae M;clear M;have hi:IntKind.i64.wrap ((k:Int)+1)=(k:Int)+1:=bI _ (by omega);have hs:(k:Int)+1<=(l.length:Int):=by omega
 have hr:(k:Int)<=(k:Int)+1:=by omega
 have hf:¬((k:Int)=(k:Int)+1):=by omega
 have ht:(0:Int)<=(k:Int)+1:=by omega
 have hm:((k:Int)+1).toNat=k+1:=by omega
 have hp:(l.length:Int)<=(c:Int):=by omega
 have hq:(k:Int)<=(c:Int):=by omega
 go_enter func200,ntmps200
 go_wp2_with fail
 by_cases L:c=k+1
 .subst L;have z:=ae (r (by omega));clear r
  go_region_law (refine Ll rfl _ _ 42 42 rfl (.slice (some ⟨b,off,none⟩) k (k+1)) (.slice (some ⟨b,off,none⟩) (l.length-(k+1)) 0) _ (by simp[Act.eval,Act.put]) (by simp[Act.eval,Act.put];omega) (q _ _ _ (λj u A=>by rw[z.out]at A;simp at A)) ?_)
  have g:=(H.drew).setCells N (off+k*3);have f:w.grownBy (w.drew.setCells b (off+k*3) N) (some b):=oh (a:=w) (b:=w.drew) (row:=some b) ⟨rfl,rfl,rfl,az _,λ_ _ _=>rfl⟩ (aC w.drew _ _ _);have o:k+(l.length-(k+1))=k:=by omega
  try rw[o]
  have s : Hid (k=l.length-1):=ae (by omega);have e4:(l.length:Int)<=(k:Int)+1:=by omega
  generalize w.drew.setCells b (off+k*3) N=W1 at *
  have y:=λD=>uI (P:=Tryz.prog) W1 42 122 D _ 3 24 underlying42 cached_info (by decide) (by decide) b (off+k*3) 1 (1) (by omega) _ _ g (by rw[size_putAt];show off+k*3+1*3<=cur.size;omega);have e1:l.length-k=1:=by omega
  have e2:((k:Nat):Int)<=(l.length:Int):=by omega
  have e3:¬((k+1)=k):=by omega
  go_wp2;go_ret;have p:=g.setCells (Builtin.zeroCells (Value.agg #[.int .i64 0,.int .i64 0,.int .i64 0]).cells 1).toList (off+k*3);have d:=oh f (aC W1 b (off+k*3) (Builtin.zeroCells (Value.agg #[.int .i64 0,.int .i64 0,.int .i64 0]).cells 1).toList);refine⟨congrArg (λn=>Ending.returned (Value.slice (some ⟨b,off,none⟩) n (k+1))) (show k=l.length-1 by omega),⟨by rw[jC,AO J],.inr ⟨b,off,(k+1),_,rfl,I,p,by omega,E,by rw[size_putAt,size_putAt];exact F,?_⟩⟩,d⟩;intro j u A;have Z:j<(l.length-1)*3:=by have:=(cz.1 A).1;rw[jC,AO J]at this;exact this
  rw[putAt_out _ _ _ _ (.inl (by omega))];rw[EO,<-R.out]at A;have m:((l.take k).flatMap iQ).length=k*3:=by rw[jC,iO,uz (by omega)]
  by_cases c1:j<k*3
  .rw[kK (by omega)]at A;rw[putAt_out _ _ _ _ (.inl (by omega))];exact xh C j u A
  rw[jU (by omega),m]at A;have:=putAt_in _ cur (off+k*3) (j-k*3) u (by omega) A;rwa [show off+k*3+(j-k*3)=off+j by omega]at this
 go_region_law (refine Ll rfl _ _ 42 42 rfl (.slice (some ⟨b,off,none⟩) k c) (.slice (some ⟨b,off+(k+1)*3,none⟩) (l.length-(k+1)) (c-(k+1))) _ (by simp[Act.eval,Act.put]) (by simp[Act.eval,Act.put]) (q _ _ _ (λj u A=>by rw[qo,H.cell];exact x j u A)) ?_)
 have g:=(H.drew).setCells N (off+k*3);have f:w.grownBy (w.drew.setCells b (off+k*3) N) (some b):=oh (a:=w) (b:=w.drew) (row:=some b) ⟨rfl,rfl,rfl,az _,λ_ _ _=>rfl⟩ (aC w.drew _ _ _);have o:k+(l.length-(k+1))=(l.length-1):=by omega
 try rw[o]
 have s : Hid ((l.length-1)=l.length-1):=ae (by omega);have e4:(l.length:Int)<=(c:Int):=by omega
 generalize w.drew.setCells b (off+k*3) N=W1 at *
 have y:=λD=>uI (P:=Tryz.prog) W1 42 122 D _ 3 24 underlying42 cached_info (by decide) (by decide) b (off+(l.length-1)*3) 1 (c-(l.length-1)) (by omega) _ _ g (by rw[size_putAt];show off+(l.length-1)*3+1*3<=cur.size;omega);have e1:l.length-(l.length-1)=1:=by omega
 have e2:(((l.length-1):Nat):Int)<=(l.length:Int):=by omega
 have e3:¬(c=(l.length-1)):=by omega
 go_wp2;go_ret;have p:=g.setCells (Builtin.zeroCells (Value.agg #[.int .i64 0,.int .i64 0,.int .i64 0]).cells 1).toList (off+(l.length-1)*3);have d:=oh f (aC W1 b (off+(l.length-1)*3) (Builtin.zeroCells (Value.agg #[.int .i64 0,.int .i64 0,.int .i64 0]).cells 1).toList);refine⟨congrArg (λn=>Ending.returned (Value.slice (some ⟨b,off,none⟩) n c)) (show(l.length-1)=l.length-1 by omega),⟨by rw[jC,AO J],.inr ⟨b,off,c,_,rfl,I,p,by omega,E,by rw[size_putAt,size_putAt];exact F,?_⟩⟩,d⟩;intro j u A;have Z:j<(l.length-1)*3:=by have:=(cz.1 A).1;rw[jC,AO J]at this;exact this
 rw[putAt_out _ _ _ _ (.inl (by omega))];rw[EO,<-R.out]at A;have m:((l.take k).flatMap iQ).length=k*3:=by rw[jC,iO,uz (by omega)]
 by_cases c1:j<k*3
 .rw[kK (by omega)]at A;rw[putAt_out _ _ _ _ (.inl (by omega))];exact xh C j u A
 rw[jU (by omega),m]at A;have:=putAt_in _ cur (off+k*3) (j-k*3) u (by omega) A;rwa [show off+k*3+(j-k*3)=off+j by omega]at this
theorem UQ(c:Cc)(g A:Nat)(f i:Int)(w:World)(C:aG w g #[.int .i64 f] 3)(u:aG w A #[.int .i64 i] 3) :
  Calls Tryz.prog 178 #[.agg (xe c),.pointer (some ⟨g,0,none⟩),.pointer (some ⟨A,0,none⟩)] w λr w'=>r = .returned (.bool (Cf f i c))/\Below w.heap.size w w':=by
 go_enter func178,ntmps178;go_upto_region 1 with(fail);refine iG (λW=>Code.wp _ _ _ _ W) λW0 a b d => ?_;clear d;have j:=(C.ext a).cell 0;have h:=(u.ext a).cell 0;have e:=b.cell;unfold xe at e
 by_cases y:f<c.f
 .go_wp2;go_ret;exact⟨bX (by unfold Cf;simp[y]),a⟩
 by_cases h2:c.f=f
 .have D:(c.f==f)=true:=by simpa using h2
  by_cases z:i<=c.i
  .go_wp2;go_ret;exact⟨bX (by unfold Cf;simp[h2,z]),a⟩
  go_wp2;go_ret;exact⟨bX (by unfold Cf;simp[y,h2,z]),a⟩
 have D:(c.f==f)=false:=by simpa using h2
 go_wp2;go_ret;exact⟨bX (by unfold Cf;simp[y,h2]),a⟩
theorem QA(l:List Cc)(a:Option Addr)(c:Nat)(w:World)(A:eB w a (l.flatMap iQ))(G:l.length<=9223372036854775807)(g E:Nat)(z u:Int)(F:aG w g #[.int .i64 z] 3)(D:aG w E #[.int .i64 u] 3) :
  Calls Tryz.prog 131 #[.slice a l.length c,.func (.func 178) #[] #[.pointer (some ⟨g,0,none⟩),.pointer (some ⟨E,0,none⟩)]] w λe w'=>e = .returned (.int .i64 (idx (Cf z u) l))/\Below w.heap.size w w':=by
 go_enter func131,ntmps131;go_wp2
 go_loopw [8] (fun i wr => ∃k:Nat,k<=l.length/\i = .int .i64 k/\Below w.heap.size w wr/\∀i (h:i<l.length),i<k->(Cf z u) l[i]=false) (fun i _=>l.length-(intOf i).toNat)
 case atStart=>exact⟨0,bq _,rfl,Below.refl _ _,λi _ h=>absurd h (fq _)⟩
 case round=>
  obtain⟨k,H,rfl,f,n⟩:=hrel;have C:=ae n;clear n
  by_cases y:k<l.length
  .obtain⟨b,off,rfl,p⟩:=Aa (A.below f) k y
   go_wp2_with (refine ay _ _ rfl b (off+k*3) rfl rfl _ p _ underlying122 rfl cached_size ?_)
   refine(UQ l[k] g E z u _ (F.ext f) (D.ext f)).mono ?_;rintro e w2 ⟨rfl,o⟩;have j:=ag f o;clear o;cases hpk:(Cf z u) l[k]
   .have m:=ae hpk;clear hpk;go_wp2;go_roundw
    case rel=>exact⟨k+1,by omega,by go_num,j,mM C.out y m.out⟩
    case measure=>simp[intOf];omega
   have d:=ae (uJ (Cf z u) l k y C.out hpk);clear hpk;go_wp2;go_ret;exact⟨aX d.out.symm,j⟩
  have d:=ae (mr (Cf z u) l λi h=>C.out i h (by omega));go_wp2;go_ret;exact⟨aX d.out.symm,f⟩
theorem VZ{l:List Cc}{f i:Int}:(idx (Cf f i) l<0/\sS l f i=l.length/\JZ l f i=false)\/(∃k,∃j:k<l.length,idx (Cf f i) l=k/\sS l f i=k/\JZ l f i=(decide (l[k].f=f)&&decide (l[k].i=i))):=by
 unfold idx JZ sS;cases h:l.findIdx? (Cf f i)with
 | none=>exact .inl ⟨by decide,rfl,by simp⟩
 | some k=>
  obtain⟨j,_,_⟩:=sj.1 h;exact .inr ⟨k,j,rfl,rfl,by simp[aF j]⟩
theorem DR(H:MH)(e f i:Int)(B b:Nat)(w:World)(h:lH w B b H e) :
  Calls Tryz.prog 139 #[.pointer (some ⟨b,0,none⟩),.int .i64 f,.int .i64 i] w λr w'=>r = .returned (.tuple #[.int .i64 (sS H.ca f i:Int),.bool (JZ H.ca f i)])/\Below w.heap.size w w':=by
 go_enter func139,ntmps139;go_upto_region 1 with(fail);refine uT (λW=>Code.wp _ _ _ _ W) λW0 p n m u => ?_;clear u;have F:=h.below p;have K:=F.blk.cell;unfold rD at K;have C:=F.ma.rd.ca;have v:=C.mx;have O:=C.le;unfold maxLen at v;clear h
 go_wp2_with fail
 refine(QA H.ca H.ac H.cc _ C.rd (by omega) _ _ f i n m).mono ?_;rintro r w1 ⟨rfl,d⟩;have a:=ag p d;have k1:=F.below d;have y:=(n.ext d).cell 0;have x:=(m.ext d).cell 0;have s:=k1.blk.cell;unfold rD at s;have j:=C.rd.below d;clear K n m p d F C;rcases VZ (l:=H.ca) (f:=f) (i:=i)with⟨I,h2,D⟩|⟨k,J,I,h2,D⟩
 .have A:=ae (And.intro h2 D);clear h2 D;generalize idx (Cf f i) H.ca=z at *
  go_wp2;go_ret2;rw[A.out.1,A.out.2];exact⟨rfl,a⟩
 have A:=ae (And.intro h2 D);rw[I];clear I h2 D;obtain⟨g,off,c,t,o,U,S,R⟩:=TU j k J;rw[t]at s;have q:H.ca[k]=c:=by rw[aF J]at o;exact aM o
 rw[q]at A;have N:(k:Int)<(H.ca.length:Int):=by omega
 clear o j t q
 go_wp2_with fail
 by_cases E:c.f=f
 .have M:(c.f==f)=true:=by simpa using E
  by_cases G:c.i=i
  .have L:(c.i==i)=true:=by simpa using G
   go_quiet (fail);go_wp2;go_ret2;rw[A.out.1,A.out.2];refine⟨by simp[E,G],below_drewN a _⟩
  have L:(c.i==i)=false:=by simpa using G
  go_quiet (fail);go_wp2;go_ret2;rw[A.out.1,A.out.2];refine⟨by simp[E,G],below_drewN a _⟩
 have M:(c.f==f)=false:=by simpa using E
 go_quiet (fail);go_wp2;go_ret2;rw[A.out.1,A.out.2];refine⟨by simp[E],below_drewN a _⟩
def uC(u:Nat × Int):Array Value:=#[.int .i64 u.1,.int .i64 u.2]
def uL(u:Nat × Int):List Value:=(uC u).toList
theorem Xq(u:Nat × Int):(uL u).length=2:=rfl
theorem us_info:(Tryz.prog.info? 247).map (λi=>(i.zero,i.size,i.bytes))=some (some (.agg #[.int .i64 0,.int .i64 0]),2,16):=by kernel_rfl
theorem us_size:(Tryz.prog.info? 247).map (·.size)=some 2:=by kernel_rfl
theorem Xf(u:Nat × Int):∀x∈uL u,x.oneCell' = true:=by
 intro x h;simp only[uL,uC,dx,gW,or_false]at h;rcases h with rfl|rfl<;>rfl
def tT(m:Ma)(f:Int)(P:Nat):List (Nat × Int):=(List.range P).flatMap λp=>(pU (dD m p).tb 1 f).map λn=>(p,n)
theorem Hq(m:Ma)(f:Int)(P:Nat):tT m f (P+1)=tT m f P++(pU (dD m P).tb 1 f).map λn=>(P,n):=by
 unfold tT;rw[yf,fI];simp
theorem OT(t:Tb)(kd i:Int):(pU t kd i).length<=64:=by
 unfold pU aT;exact bi (zL _ _) (tK t 64)
theorem Dt(m:Ma)(f:Int):∀P,(tT m f P).length<=P*64
 | 0=>by simp[tT]
 | P+1=>by have h:=Dt m f P;have h2:=OT (dD m P).tb 1 f;rw[Hq,jk,dV];omega
theorem NC(H:MH)(e f:Int)(B b:Nat)(w:World)(h:lH w B b H e)(hz:H.sp.length<=1000) :
  Calls Tryz.prog 199 #[.pointer (some ⟨b,0,none⟩),.int .i64 f] w λr w' => ∃v,r = .returned v/\Own w' w.heap.size 247 2 v (bC H.ma f).length ((bC H.ma f).flatMap uL)/\Below w.heap.size w w':=by
 go_enter func199,ntmps199;have A:=h.blk.cell;unfold rD at A;go_upto_region 3 with(fail);clear A
 go_loopw [5,15] (fun s5 s15 wr => ∃P:Nat,P<=H.sp.length/\s15 = .int .i64 P/\Own wr w.heap.size 247 2 s5 (tT H.ma f P).length ((tT H.ma f P).flatMap uL)/\Below w.heap.size w wr) (fun _ s15 _=>H.sp.length-(intOf s15).toNat)
 case atStart=>exact⟨0,bq _,rfl,Own.nil _ _ _ _,Below.refl _ _⟩
 case round=>
  obtain⟨P,hP,rfl,a,c⟩:=hrel
  by_cases E:P<H.sp.length
  .obtain⟨S,J⟩:∃S,H.sp[P]?=some S:=⟨_,aF E⟩;have Y:=ae (pV J);have D:=h.below c;obtain⟨g,off,M,V,I,m⟩:=D.at J;have A:=D.blk.cell;unfold rD at A;rw[M]at A;have K:(P:Int)<(H.sp.length:Int):=by omega
   go_wp2_with (refine ay _ _ rfl g (off+P*10+2) rfl rfl _ I _ underlying74 tab_agg tab_size ?_)
   refine(Qw S.tb (nT S.ts) 1 f _ m.tb).mono ?_;rintro r w1 ⟨v1,rfl,x,F⟩;obtain⟨a1,c1,rfl,_⟩:=x.rd;have q:=x.mono (bq _);have s:=ag c F;have d:=a.below F;have hs:(pU S.tb 1 f).length<=64:=OT _ _ _;have O:Hid (pU (dD H.ma P).tb 1 f=pU S.tb 1 f):=ae (by rw[Y.out];rfl);have hr:=Dt H.ma f P;generalize pU S.tb 1 f=L at *
   clear A V I m D a F x;go_upto_region 6 with(fail)
   go_loopw [5,30] (fun s5 s30 wr => ∃j:Nat,j<=L.length/\s30 = .int .i64 j/\Own wr w.heap.size 247 2 s5 (tT H.ma f P++(L.take j).map fun n=>(P,n)).length ((tT H.ma f P++(L.take j).map fun n=>(P,n)).flatMap uL)/\Below w.heap.size w wr/\Own wr 0 3 1 (.slice a1 L.length c1) L.length (L.map gB)) (fun _ s30 _=>L.length-(intOf s30).toNat)
   case atStart=>exact⟨0,bq _,rfl,by simpa using d,s,q⟩
   case round=>
    clear d s q;obtain⟨j,hj,rfl,a,c,p⟩:=hrel
    by_cases C:j<L.length
    .obtain⟨_,_,Z,_,_,_,G⟩:=p.rd;cases Z;obtain⟨bl,ol,rfl,N⟩:=kD G j C;have R:(j:Int)<(L.length:Int):=by omega
     have W:(tT H.ma f P++(L.take j).map λn=>(P,n)).length=(tT H.ma f P).length+j:=by rw[jk,dV,iO];omega
     have t:Hid (tT H.ma f P++(L.take (j+1)).map (λn=>(P,n))=(tT H.ma f P++(L.take j).map λn=>(P,n))++[(P,L[j])]):=ae (by rw[nR,aF C,jJ,jN];rfl);generalize tT H.ma f P++(L.take j).map (λn=>(P,n))=us at *
     go_wp2_with (at_builtin;(refine fT rfl _ _ 259 rfl w.heap.size 247 (.agg #[.int .i64 0,.int .i64 0]) 2 16 underlying259 us_info rfl (by decide) _ _ _ rfl (a.alloc _) (some ⟨_,0,none⟩) 1 1 (uL (P,L[j])) rfl (λh=>(by cases h)) (az _) rfl (eB.new _ (uC (P,L[j])) _) (Xf _) (by unfold maxLen;omega) (by omega) (dI c.size _) ?_))
     intro v2 w2 u l;have z:=(c.alloc c.size (.cells (uC (P,L[j])) 247)).grown l (dI c.size _) (λk U=>a.ge k U);have X:=zQ (p.alloc (.cells (uC (P,L[j])) 247)) (a.alloc (.cells (uC (P,L[j])) 247)) (by decide) l;have y:(us++[(P,L[j])]).length=us.length+1:=by simp
     clear N G a c p l;go_wp2;go_roundw
     case rel=>exact⟨j+1,by omega,by go_num,by rw[t.out,y,fI,W];simpa using u,z,X⟩
     case measure=>simp[intOf];omega
    have R:¬(j:Int)<(L.length:Int):=by omega
    have o:Hid (tT H.ma f P++(L.take j).map (λn=>(P,n))=tT H.ma f (P+1)):=ae (by rw[jD (by omega),Hq,O.out]);clear p;go_wp2;go_roundw
    case rel=>
     have i:=a;rw[o.out]at i;exact⟨u5,.int .i64 (P:Int),u8,.int .i64 ((P:Int)+1),⟨P+1,by omega,by go_num,i⟩,rfl,rfl,rfl,rfl⟩
    case measure=>simp[intOf];omega
  have o:Hid (tT H.ma f P=bC H.ma f):=ae (by
   have:P=H.sp.length:=by omega
   unfold tT bC MH.ma;simp[this])
  have K:¬(P:Int)<(H.sp.length:Int):=by omega
  go_wp2;go_ret;rw[<-o.out];exact⟨_,rfl,a,c⟩
def ent(m:Ma)(p:Nat)(n:Int):En:=dK (dD m p).tb n
structure Pt (m:Ma):Prop where
 fr:bv m.m=0
 sl:dH m.sl=0
 sw:bV m.sw=0
 dk:bV m.dk=0
 st:aR m.st=0
 swl:m.sw.blocks.length=m.sl.length
 dkl:(m.dk.blocks.length:Int)=m.st.count
 spl:m.sp.length<=4
 ar:∀s∈m.sp,(bP s.ar).1=0
 tb:∀s∈m.sp,dB s.tb=0
theorem zG(h:p<m.sp.length):m.sp[p]?=some (dD m p):=by
 unfold dD;rw[aY,aF h];rfl
theorem Da(h:p<m.sp.length):dD m p∈m.sp:=bS (zG h)
theorem qA(h:m.sp.length<=p):dD m p=zSp:=by
 unfold dD;rw[aY,eY h];rfl
theorem OQ{s:Sp}(h:s∈m.sp):∃p,p<m.sp.length/\s=dD m p:=by
 obtain⟨i,j,rfl⟩:=jM.1 h;refine⟨i,j,?_⟩;have:=zG (m:=m) j;rw[aF j]at this;exact aM this
theorem Pt.tbN(h:Pt m)(p:Nat):dB (dD m p).tb=0:=by
 rcases gu p m.sp.length with j|j
 .exact h.tb _ (Da j)
 .rw[qA j];decide
theorem Pt.arN(h:Pt m)(p:Nat):(bP (dD m p).ar).1=0:=by
 rcases gu p m.sp.length with j|j
 .exact h.ar _ (Da j)
 .rw[qA j];decide
theorem mE(h:Pt m)(p:Nat)(n:Int):eF (ent m p n)=0:=qL (h.tbN p) n
theorem OM(p:Nat)(h:n<0\/64<=n):ent m p n=zEn:=sZ h
theorem bD(e:En):eF e=0↔(e.k=0/\e.n=0/\e.w=false)\/(e.k=1/\0<=e.n/\e.n<40)\/(e.k=2/\0<=e.n/\e.n<60/\e.w=false):=by
 obtain⟨k,n,w⟩:=e;unfold eF;simp only;cases w
 all_goals
  simp only[uU,reduceCtorEq,and_true,and_false,or_false,false_or,or_true];constructor
  .intro h;split at h
   .omega
   split at h
   .omega
   .split at h<;>omega
  intro h;split
  .omega
  split
  .omega
  split
  .omega
  .rfl
theorem BJ{t:Tb}(j:p<m.sp.length)(q:Nat):dD (setTb m p t) q=if q=p then{ dD m p with tb:=t }else dD m q:=by
 unfold setTb;show(m.sp.set p _).getD q zSp=_;rw[aY,oq]
 by_cases e:q=p
 .subst e;rw[if_pos rfl,if_pos j,if_pos rfl];rfl
 .rw[if_neg (λh=>e h.symm),if_neg e];unfold dD;rw[aY]
theorem PU{t:Tb}(h:p<m.sp.length)(q:Nat)(n:Int):ent (setTb m p t) q n=if q=p then dK t n else ent m q n:=by
 unfold ent;rw[BJ h]
 by_cases e:q=p
 .rw[if_pos e,if_pos e]
 .rw[if_neg e,if_neg e]
theorem vB{t:Tb}:(setTb m p t).sp.length=m.sp.length:=bL
theorem Pt.setTb{m:Ma}(h:Pt m){p:Nat}{t:Tb}(u:dB t=0):Pt (setTb m p t):=by
 by_cases y:p<m.sp.length
 .refine{ h with spl:=by rw[vB];exact h.spl,ar:=λs j => ?_,tb:=λs j => ?_ }
  .rcases lU j with j|rfl
   .exact h.ar s j
   .exact h.arN p
  rcases lU j with j|rfl
  .exact h.tb s j
  .exact u
 have:Go.Proofs.YthihaopabbpalaaGreat.setTb m p t=m:=by unfold Go.Proofs.YthihaopabbpalaaGreat.setTb;rw[List.set_eq_of_length_le (by omega)]
 rw[this];exact h
def pW(kd i:Int)(e:En):Bool:=decide (e.k=kd)&&decide (e.n=i)
def bO(m:Ma)(kd i:Int):Nat:=(m.sp.map λs=>(dE s.tb).countP (pW kd i)).sum
def sD(b:Bool):Nat:=if b=true then 1 else 0
theorem countP_set{α:Type}(q:α->Bool):∀(l:List α) (k:Nat) (h:k<l.length) (x:α),(l.set k x).countP q+sD (q l[k])=l.countP q+sD (q x)
 | a::l,0,_,x=>by simp only[qD,El,qE,sD];omega
 | a::l,k+1,h,x=>by have:=countP_set q l k (by simpa using h) x;simp only[uf,Dh,qE];omega
theorem sum_set:∀(l:List Nat) (k:Nat) (h:k<l.length) (x:Nat),(l.set k x).sum+l[k]=l.sum+x
 | a::l,0,_,x=>by simp only[qD,El,yh];omega
 | a::l,k+1,h,x=>by have:=sum_set l k (by simpa using h) x;simp only[uf,Dh,yh];omega
theorem AB{t:Tb}{e:En}(h:setE t n e=0):dE (setT t n e)=(dE t).set n.toNat e:=by
 obtain⟨u,h2,j⟩:=wP h;rw[Ez h,EP (IV u j) (by rw[bL,nP])]
theorem Mr{t:Tb}{e:En}(h:setE t n e=0)(q:En->Bool):(dE (setT t n e)).countP q+sD (q (dK t n))=(dE t).countP q+sD (q e):=by
 obtain⟨A,h2,z⟩:=wP h;have j:n.toNat<(dE t).length:=by rw[nP];omega
 have y:=countP_set q (dE t) n.toNat j e;have u:=AR t n.toNat (by omega);rw[aF j,Dn h2.1]at u;rw[aM u]at y;rw[AB h];exact y
theorem qN(j:p<m.sp.length){x:En}(h:setE (dD m p).tb n x=0)(kd i:Int) :
  bO (setTb m p (setT (dD m p).tb n x)) kd i+sD (pW kd i (ent m p n))=bO m kd i+sD (pW kd i x):=by
 have z:=Mr h (pW kd i);have h2:=sum_set (m.sp.map λs=>(dE s.tb).countP (pW kd i)) p (by simpa using j) ((dE (setT (dD m p).tb n x)).countP (pW kd i));unfold bO setTb;rw[AV];have u:(m.sp.map λs=>(dE s.tb).countP (pW kd i))[p]'(by simpa using j)=(dE (dD m p).tb).countP (pW kd i):=by rw[wR];have:=zG j;rw[aF j]at this;rw[aM this]
 rw[u]at h2;have y:sD (pW kd i (ent m p n))=sD (pW kd i (dK (dD m p).tb n)):=rfl;simp only;omega
theorem Wp{l:List Nat}:0<l.sum↔∃k,∃h:k<l.length,0<l[k]:=by
 induction l with
 | nil=>simp
 | cons a l ih=>
  rw[yh];constructor
  .intro h
   by_cases y:0<a
   .exact⟨0,by simp,by simpa using y⟩
   obtain⟨k,u,j⟩:=ih.1 (by omega);exact⟨k+1,by simpa using u,by simpa using j⟩
  rintro⟨k,u,j⟩;cases k with
  | zero=>simp at j;omega
  | succ k=>
   have:=ih.2 ⟨k,by simpa using u,by simpa using j⟩;omega
theorem lJ{i:Int}(G:kd≠0):0<bO m kd i↔∃p n,p<m.sp.length/\(0<=n/\n<64)/\(ent m p n).k=kd/\(ent m p n).n=i:=by
 unfold bO;rw[Wp];constructor
 .rintro⟨p,y,h⟩;have a : p<m.sp.length:=by simpa using y
  rw[wR]at h;obtain⟨e,E,u⟩:=xV.1 h;obtain⟨j,C,rfl⟩:=jM.1 E;have b : j<64:=by rw[nP]at C;exact C
  have A:m.sp[p]=dD m p:=by have:=zG a;rw[aF a]at this;exact aM this
  have z:=AR m.sp[p].tb j b;rw[aF C]at z;rw[aM z,A]at u;unfold pW at u;simp only[dW,decide_eq_true_eq]at u;exact⟨p,j,a,by omega,u.1,u.2⟩
 rintro⟨p,n,y,D,F,h2⟩;refine⟨p,by simpa using y,?_⟩;rw[wR,xV];have A:m.sp[p]=dD m p:=by have:=zG y;rw[aF y]at this;exact aM this
 refine⟨ent m p n,?_,by unfold pW;rw[F,h2];simp⟩;rw[A];have z:=AR (dD m p).tb n.toNat (by omega);rw[Dn D.1]at z;exact bS z
theorem uW(h:f<m.m.fs.length):m.m.fs[f]?=some (aD m f):=by
 unfold aD;rw[aY,aF h];rfl
theorem Ot(h:f<m.m.fs.length):aD m f∈m.m.fs:=bS (uW h)
theorem Ji(h:m.m.fs.length<=f):aD m f=fr0:=by
 unfold aD;rw[aY,eY h];rfl
theorem iB{x:Fr}(h:f<m.m.fs.length)(g:Nat):aD (setFr m f x) g=if g=f then x else aD m g:=by
 unfold aD setFr;simp only;rw[aY,oq]
 by_cases e:g=f
 .subst e;rw[if_pos rfl,if_pos h,if_pos rfl];rfl
 .rw[if_neg (λe'=>e e'.symm),if_neg e,aY]
theorem fo{x:Fr}:(setFr m f x).m.fs.length=m.m.fs.length:=bL
theorem Pt.frE(h:Pt m)(j:f<m.m.fs.length):bR (aD m f)=0:=((dO _).1 h.fr).2.1 _ (Ot j)
theorem Pt.setFr{m:Ma}(h:Pt m){f:Nat}{x:Fr}(j:bR x=0):Pt (setFr m f x):={ h with fr:=EX h.fr j }
theorem Ld{x:Fr}(h:bR x=0)(y:x.r≠0)(h1 : -x.r<=n)(h2:n<=1000-x.r):bR (ik x n)=0:=by
 unfold ik
 by_cases j:x.r+n=0
 .rw[if_pos j];decide
 rw[if_neg j,dL];have:=(dL x).1 h;refine⟨by simp only;omega,λu=>absurd u j,this.2.2⟩
theorem RS{m:Mem}{k:Int}(h:bv m=0)(u:0<=k/\k<m.fs.length)(j:(m.fs.getD k.toNat fr0).r≠0)(h1 : -(m.fs.getD k.toNat fr0).r<=n)(h2:n<=1000-(m.fs.getD k.toNat fr0).r):oC m k n=0:=by
 unfold oC;rw[if_neg (by rw[h];simp),if_neg (by omega),if_neg (by omega)]
theorem Bj{k:Kp}(h:Pt k.m)(y:f<k.m.m.fs.length)(j:(aD k.m f).r≠0)(h1 : -(aD k.m f).r<=n)(h2:n<=1000-(aD k.m f).r) :
  gF k f n=⟨setFr k.m f (ik (aD k.m f) n),k.e⟩/\Pt (setFr k.m f (ik (aD k.m f) n)):=by
 have u:oC k.m.m (f:Int) n=0:=RS h.fr (by omega) j h1 h2;refine⟨?_,h.setFr (Ld (h.frE y) j h1 h2)⟩;unfold gF;rw[if_pos u];congr 1;unfold lW;rw[if_pos u];rfl
def jS(m:Ma)(s:Nat):Int:=m.sl.getD s 0
def setSl(m:Ma)(s:Nat)(n:Int):Ma:={ m with sl:=m.sl.set s n }
theorem MR(h:f<m.sl.length):m.sl[f]?=some (jS m f):=by
 unfold jS;rw[aY,aF h];rfl
theorem JF{x:Int}(h:f<m.sl.length)(g:Nat):jS (setSl m f x) g=if g=f then x else jS m g:=by
 unfold jS setSl;simp only;rw[aY,oq]
 by_cases e:g=f
 .subst e;rw[if_pos rfl,if_pos h,if_pos rfl];rfl
 .rw[if_neg (λe'=>e e'.symm),if_neg e,aY]
theorem Pt.slB(h:Pt m)(s:Nat):0<=jS m s/\jS m s<=1000:=by
 rcases gu s m.sl.length with j|j
 .have:=ET h.sl _ (bS (MR j));unfold rU at this;simp only[Eh,decide_eq_false_iff_not]at this;omega
 .unfold jS;rw[aY,eY j];simp
theorem Pt.setSl{m:Ma}(h:Pt m){s:Nat}{n:Int}(u:0<=n)(j:n<=1000):Pt (setSl m s n):=
 { h with sl:=EY s n h.sl u j,swl:=h.swl.trans bL.symm }
theorem Rs{k:Kp}(h:Pt k.m)(y:s<k.m.sl.length)(z:jS k.m s≠0)(h1 : -(jS k.m s)<=n)(h2:n<=1000-jS k.m s) :
  nS k s n=⟨setSl k.m s (jS k.m s+n),k.e⟩/\Pt (setSl k.m s (jS k.m s+n)):=by
 have u:Gd k.m.sl (s:Int)=jS k.m s:=rfl;have j:dC k.m.sl (s:Int) n=0:=by unfold dC;rw[if_neg (by rw[h.sl];simp),if_neg (by rw[u];omega),if_neg (by rw[u];omega)]
 refine⟨?_,h.setSl (by omega) (by omega)⟩;unfold nS;rw[if_pos j];congr 1;unfold cB;rw[if_pos j];rfl
theorem iU{k:Kp}{x:En}(h:Pt k.m)(y:0<=n/\n<64)(u:eF x=0) :
  setE (dD k.m p).tb n x=0/\eZ k p n x=⟨setTb k.m p (setT (dD k.m p).tb n x),k.e⟩/\Pt (setTb k.m p (setT (dD k.m p).tb n x)):=by
 have j:=Bn (h.tbN p) y u;refine⟨j,?_,h.setTb (qm j)⟩;unfold eZ;rw[if_pos j]
theorem nN{x:En}(z:p<m.sp.length)(h:setE (dD m p).tb n x=0)(q:Nat)(j:Int):ent (setTb m p (setT (dD m p).tb n x)) q j=if q=p/\j=n then x else ent m q j:=by
 rw[PU z]
 by_cases e:q=p
 .subst e;rw[if_pos rfl,Bp h]
  by_cases u:j=n
  .rw[if_pos u,if_pos ⟨rfl,u⟩]
  .rw[if_neg u,if_neg (λy=>u y.2)];rfl
 .rw[if_neg e,if_neg (λy=>e y.1)]
structure iF (m m' : Ma):Prop where
 len:m'.sp.length=m.sp.length
 lv:∀p,(dD m' p).lv=(dD m p).lv
 ar:∀p,(dD m' p).ar=(dD m p).ar
theorem iF.refl(m:Ma):iF m m:=⟨rfl,λ_=>rfl,λ_=>rfl⟩
theorem iF.trans{a b c:Ma}(h:iF a b)(k:iF b c):iF a c:=⟨k.len.trans h.len,λp=>(k.lv p).trans (h.lv p),λp=>(k.ar p).trans (h.ar p)⟩
theorem iF.of(h:m'.sp=m.sp):iF m m':=⟨by rw[h],λp=>by unfold dD;rw[h],λp=>by unfold dD;rw[h]⟩
theorem iF.setTb{m:Ma}{p:Nat}{t:Tb}:iF m (setTb m p t):=by
 by_cases h:p<m.sp.length
 .refine⟨vB,λq => ?_,λq => ?_⟩
  all_goals
   rw[BJ h]
   by_cases e:q=p
   .rw[if_pos e,e]
   .rw[if_neg e]
 have:Go.Proofs.YthihaopabbpalaaGreat.setTb m p t=m:=by unfold Go.Proofs.YthihaopabbpalaaGreat.setTb;rw[List.set_eq_of_length_le (by omega)]
 rw[this];exact .refl _
structure Rest (m m' : Ma):Prop where
 sl:m'.sl=m.sl
 sw:m'.sw=m.sw
 dk:m'.dk=m.dk
 st:m'.st=m.st
 ca:m'.ca=m.ca
theorem Rest.refl(m:Ma):Rest m m:=⟨rfl,rfl,rfl,rfl,rfl⟩
theorem Rest.trans{a b c:Ma}(h:Rest a b)(k:Rest b c):Rest a c:=⟨k.sl.trans h.sl,k.sw.trans h.sw,k.dk.trans h.dk,k.st.trans h.st,k.ca.trans h.ca⟩
structure WE (m:Ma) (f:Nat) (l:List (Nat × Int)):Prop where
 nd:l.Nodup
 mem:∀u∈l,u.1<m.sp.length/\(0<=u.2/\u.2<64)/\(ent m u.1 u.2).k=1/\(ent m u.1 u.2).n=f
theorem GY{x:Fr}(h:bR x=0):ik x 0=x:=by
 unfold ik
 by_cases j:x.r=0
 .rw[if_pos (by omega)];exact(Ox h j).symm
 rw[if_neg (by omega)];obtain⟨p,r,u,d,f,i⟩:=x;simp
theorem QX{x:Fr}(h:bR x=0)(j:Nat)(y:(j:Int)+1<=x.r):ik (ik x (-1)) (-(j:Int))=ik x (-((j:Int)+1)):=by
 by_cases z:x.r=1
 .have:j=0:=by omega
  subst this;have u:ik x (-1)=frZ:=by unfold ik;rw[if_pos (by omega)]
  rw[show -((0:Nat):Int)=0 from rfl,show -(((0:Nat):Int)+1) = -1 from rfl,u];exact GY (by decide)
 have u:ik x (-1) = { x with r:=x.r + -1 }:=by unfold ik;rw[if_neg (by omega)]
 rw[u];unfold ik;simp only
 by_cases h2:x.r=(j:Int)+1
 .rw[if_pos (by omega),if_pos (by omega)]
 rw[if_neg (by omega),if_neg (by omega)];congr 1;omega
def VF(f:Nat)(e' : En)(k:Kp)(u:Nat × Int):Kp:=eZ (gF k f (-1)) u.1 u.2 e'
theorem EB(h:f<m.m.fs.length):setFr m f (aD m f)=m:=by
 have h2:m.m.fs.set f (aD m f)=m.m.fs:=by have:=uW h;rw[aF h]at this;rw[<-aM this,wu]
 unfold setFr;rw[h2]
theorem Ej{f:Nat}{e' : En}(he:eF e' = 0)(step:Kp->(Nat × Int)->Kp)(y:∀k u,(ent k.m u.1 u.2).k=1->(ent k.m u.1 u.2).n=f->step k u=VF f e' k u):∀(l:List (Nat × Int)) (k:Kp),Pt k.m->WE k.m f l->f<k.m.m.fs.length->(l.length:Int)<=(aD k.m f).r ->
  (l.foldl step k).e=k.e/\Pt (l.foldl step k).m/\Rest k.m (l.foldl step k).m/\iF k.m (l.foldl step k).m/\(l.foldl step k).m.m=(setFr k.m f (ik (aD k.m f) (-(l.length:Int)))).m /\
   (∀p n,ent (l.foldl step k).m p n=if(p,n)∈l then e' else ent k.m p n)/\∀kd i,bO (l.foldl step k).m kd i+(if kd=1/\i=f then l.length else 0)=bO k.m kd i+(if kd=e'.k/\i=e'.n then l.length else 0)
 | [],k,h,hu,hf,hr=>by refine⟨rfl,h,.refl _,.refl _,?_,λp n=>by simp,λkd i=>by simp⟩;show k.m.m=_;rw[show -(([]:List (Nat × Int)).length:Int)=0 from rfl,GY (h.frE hf),EB hf]
 | u::l,k,h,hu,hf,hr=>by
  obtain⟨hp,hn,N,M⟩:=hu.mem u iM;simp only[lF]at hr;have O:=h.frE hf;have hb:=((dL _).1 O).1;obtain⟨I,p1⟩:=Bj (k:=k) (f:=f) (n:=-1) h hf (by omega) (by omega) (by omega);have z:=QX O l.length (by omega);generalize hX:ik (aD k.m f) (-1)=X at I p1 z;obtain⟨s0,H,p2⟩:=iU (k:=⟨setFr k.m f X,k.e⟩) (p:=u.1) (n:=u.2) (x:=e') p1 hn he;have E:step k u=⟨setTb (setFr k.m f X) u.1 (setT (dD k.m u.1).tb u.2 e'),k.e⟩:=by rw[y k u N M];unfold VF;rw[I,H];rfl
  have S:=λq j=>nN (m:=setFr k.m f X) (p:=u.1) (n:=u.2) (x:=e') hp s0 q j;have G:=λkd i=>qN (m:=setFr k.m f X) (p:=u.1) (n:=u.2) (x:=e') hp s0 kd i;have K:=uD.1 hu.nd;have F:(step k u).m.m=(setFr k.m f X).m:=by rw[E];rfl
  have R:aD (step k u).m f=X:=by
   have:aD (step k u).m f=aD (setFr k.m f X) f:=by unfold aD;rw[F]
   rw[this,iB hf,if_pos rfl]
  have A:∀q j,ent (step k u).m q j=if q=u.1/\j=u.2 then e' else ent k.m q j:=λq j=>by rw[E];exact S q j
  have L:(step k u).m.sp.length=k.m.sp.length:=by rw[E];exact vB
  have Y:X.r=(aD k.m f).r-1:=by
   rw[<-hX];unfold ik
   by_cases h0:(aD k.m f).r + -1=0
   .rw[if_pos h0];show(0:Int)=_;omega
   .rw[if_neg h0];rfl
  have ih:=Ej he step y l (step k u) (by rw[E];exact p2) ⟨K.2,λv hv=>by obtain⟨D,C,a3,Z⟩:=hu.mem v (jW _ hv);have W:¬(v.1=u.1/\v.2=u.2):=λe=>K.1 (by rw[<-show v=u from Prod.ext e.1 e.2];exact hv);rw[L,A,if_neg W];exact⟨D,C,a3,Z⟩⟩ (by rw[F,fo];exact hf) (by rw[R,Y];omega);obtain⟨i1,i2,i3,i4,i5,i6,i7⟩:=ih;rw[Am];refine⟨by rw[i1,E],i2,Rest.trans (by rw[E];exact⟨rfl,rfl,rfl,rfl,rfl⟩) i3,iF.trans (by rw[E];exact iF.trans (b:=setFr k.m f X) (iF.of rfl) iF.setTb) i4,?_,λq j => ?_,λkd i => ?_⟩
  .rw[i5,R,z];unfold setFr;simp only;rw[F];unfold setFr;simp only[DJ,lF];rfl
  .rw[i6,A]
   by_cases I:(q,j)∈l
   .rw[if_pos I,if_pos (jW _ I)]
   rw[if_neg I]
   by_cases H:q=u.1/\j=u.2
   .rw[if_pos H,if_pos (by rw[show(q,j)=u from Prod.ext H.1 H.2];exact iM)]
   rw[if_neg H,if_neg];intro J;rcases dx.1 J with J|J
   .exact H ⟨congrArg Prod.fst J,congrArg Prod.snd J⟩
   .exact I J
  have D:=i7 kd i;have C:=G kd i;have a3:bO (step k u).m kd i=bO (setTb (setFr k.m f X) u.1 (setT (dD (setFr k.m f X) u.1).tb u.2 e')) kd i:=by rw[E];rfl
  have Z:bO (setFr k.m f X) kd i=bO k.m kd i:=rfl;have a5:sD (pW kd i (ent (setFr k.m f X) u.1 u.2))=if kd=1/\i=f then 1 else 0:=by
   have:ent (setFr k.m f X) u.1 u.2=ent k.m u.1 u.2:=rfl;rw[this];unfold pW sD;rw[N,M]
   by_cases e:kd=1/\i=f
   .rw[if_pos e,e.1,e.2];simp
   rw[if_neg e,if_neg];simp only[dW,decide_eq_true_eq];exactλU=>e ⟨U.1.symm,U.2.symm⟩
  have a6:sD (pW kd i e')=if kd=e'.k/\i=e'.n then 1 else 0:=by
   unfold pW sD
   by_cases e:kd=e'.k/\i=e'.n
   .rw[if_pos e,e.1,e.2];simp
   rw[if_neg e,if_neg];simp only[dW,decide_eq_true_eq];exactλU=>e ⟨U.1.symm,U.2.symm⟩
  rw[a3]at D;rw[Z,a5,a6]at C;rw[lF]
  by_cases c1:kd=1/\i=f
  .rw[if_pos c1]at D C ⊢
   by_cases V:kd=e'.k/\i=e'.n
   .rw[if_pos V]at D C ⊢; omega
   .rw[if_neg V]at D C ⊢; omega
  rw[if_neg c1]at D C ⊢
  by_cases V:kd=e'.k/\i=e'.n
  .rw[if_pos V]at D C ⊢; omega
  .rw[if_neg V]at D C ⊢; omega
theorem vv{α β:Type}{f:α->β}(u:∀a b,f a=f b->a=b){l:List α}(h:l.Nodup):(l.map f).Nodup:=List.Pairwise.map _ (λa b j e=>j (u a b e)) h
theorem pX{t:Tb} :n∈aT t↔(0<=n/\n<64)/\(dK t n).k≠0:=by
 unfold aT kC;simp only[eU,uO,dG,qi,decide_eq_true_eq];constructor
 .rintro⟨j,⟨h,h2⟩,rfl⟩;exact⟨by omega,h2⟩
 rintro⟨h,h2⟩;refine⟨n.toNat,⟨by omega,?_⟩,by omega⟩;rw[Dn h.1];exact h2
theorem KM{t:Tb}{i:Int}(j:kd≠0):n∈pU t kd i↔(0<=n/\n<64)/\(dK t n).k=kd/\(dK t n).n=i:=by
 unfold pU qP;rw[uO,pX];simp only[Dk,dW,uy,decide_eq_false_iff_not,rf];constructor
 .rintro⟨⟨h,_⟩,h2⟩;exact⟨h,h2⟩
 .rintro⟨h,h2⟩;exact⟨⟨h,by rw[h2.1];exact j⟩,h2⟩
theorem Ko(t:Tb):(aT t).Nodup:=by
 unfold aT kC;exact vv (λa b h=>by have j : (a:Int)=b:=h;omega) (yj.filter _)
theorem Ff{t:Tb}{i:Int}(j:kd≠0):(pU t kd i).length=(dE t).countP (pW kd i):=by
 unfold pU aT kC dE;rw[<-Ah,ww,Jm,ww];congr 1;funext n;simp only[JH,qP,pW,qi,Dk];rw[nC];simp only[dW,uy,decide_eq_false_iff_not,rf,decide_eq_true_eq];constructor
 .rintro⟨h,_⟩;exact h
 .intro h;exact⟨h,by rw[h.1];exact j⟩
theorem vF{f:Int}{u:Nat × Int}:u∈bC m f↔u.1<m.sp.length/\(0<=u.2/\u.2<64)/\(ent m u.1 u.2).k=1/\(ent m u.1 u.2).n=f:=by
 unfold bC;simp only[jV,dG,eU];constructor
 .rintro⟨p,j,n,y,rfl⟩;exact⟨j,(KM (by decide)).1 y⟩
 rintro⟨j,h⟩;exact⟨u.1,j,u.2,(KM (by decide)).2 h,rfl⟩
theorem FQ{α β:Type}(g:α->List β):∀(l:List α),l.Nodup->(∀x∈l,(g x).Nodup)->(∀x∈l,∀y∈l,∀z,z∈g x->z∈g y->x=y)->(l.flatMap g).Nodup
 | [],_,_,_=>by simp
 | a::l,h1,h2,h3=>by rw[nX,wJ];have A:=uD.1 h1;refine⟨h2 a iM,FQ g l A.2 (λx u=>h2 x (jW _ u)) (λx u y h=>h3 x (jW _ u) y (jW _ h)),?_⟩;rintro z C w D rfl;obtain⟨y,h,j⟩:=jV.1 D;exact A.1 (by rw[h3 a iM y (jW _ h) z C j];exact h)
theorem LX(m:Ma)(f:Int):(bC m f).Nodup:=by
 unfold bC;refine FQ _ _ yj (λp u => ?_) (λp _ q _ z j h2 => ?_)
 .unfold pU;exact vv (λa b h=>by simpa using h) ((Ko _).filter _)
 obtain⟨_,_,rfl⟩:=eU.1 j;obtain⟨_,_,e⟩:=eU.1 h2;exact(congrArg Prod.fst e).symm
theorem EJ(m:Ma)(f:Nat):WE m f (bC m f):=⟨LX m f,λu h=>vF.1 h⟩
theorem QH{α:Type}(l:List α)(d:α){β:Type}(g:α->β):(List.range l.length).map (λp=>g (l.getD p d))=l.map g:=by
 apply qZ
 .simp
 intro i h h2;simp only[wR,Je];rw[aY,aF (by simpa using h2)];rfl
theorem vE(m:Ma)(f:Int):(bC m f).length=bO m 1 f:=by
 unfold bC bO;rw[Aq];simp only[dV,Ff (show(1:Int)≠0 by decide)];rw[<-QH m.sp zSp];rfl
theorem lH.frame{H:MH}{e:Int}(h:lH w B b H e)(z:f<H.m.fs.length) :
  ∃g off cur,H.af=some ⟨g,off,none⟩/\B<=g/\aG w g cur 66/\off+f*13+13<=cur.size/\eB w (some ⟨g,off+f*13,none⟩) (pR (aD H.ma f))/\(∀j u,(pR (aD H.ma f))[j]?=some u->cur[off+f*13+j]?=some u)/\b≠g /\
   ∀(w' : World) (x:Fr),aG w' g (bJ cur (off+f*13) (pR x)) 66->w.grownBy w' (some g)->lH w' B b { H with m:=⟨H.m.fs.set f x,H.m.hand⟩ } e:=by
 have r:H.m.fs[f]=aD H.ma f:=by have:H.m.fs[f]?=some (aD H.ma f):=uW (m:=H.ma) (f:=f) z;rw[aF z]at this;exact aM this
 obtain⟨g,off,I,cur,C,G,a,l,i⟩:=oO fQ (by decide) rfl h.ma.fr f z;simp only[mK]at C;obtain⟨p,_,s⟩:=C;have k:=h.ma.fr;rw[p]at k;have d:=BM k a;have o:∀j u,(pR (aD H.ma f))[j]?=some u->cur[off+f*13+j]?=some u:=λj u A=>by rw[nV];exact d _ _ (flat_get pR 13 fQ H.m.fs f z j u (by rw[r];exact A))
 have n:b≠g:=λe=>by have E:=h.blk;subst e;unfold aG at E a;rw[E]at a;simp only[jA,uj]at a;exact absurd a.2.1 (by decide)
 refine⟨g,off,cur,p,G,a,l,λj u A=>⟨g,_,rfl,by rw[a.cell];exact o j u A⟩,o,n,λw' x F y => ?_⟩;have c:(H.m.fs.set f x).length=H.m.fs.length:=bL;refine⟨?_,h.ge,⟨?_,ax h.ma.sl a (by decide) y,h.ma.sw.keep a (by decide) (by decide) y,h.ma.dk.keep a (by decide) (by decide) y,h.ma.st.keep a (by decide) (by decide) y,ax h.ma.ca a (by decide) y,ax h.ma.sp a (by decide) y,λq D=>⟨ax (h.ma.ps q D).1 a (by decide) y,(h.ma.ps q D).2.keep a (by decide) y⟩,h.ma.c64⟩,h.tz⟩
 .have:rD { H with m:=⟨H.m.fs.set f x,H.m.hand⟩ } e=rD H e:=by unfold rD;simp only[c]
  rw[this];exact h.blk.grown y (λe=>n (aM e).symm)
 simp only[c];exact i w' _ F
theorem putAt_one{o:Nat}:∀ {vs:List Value} {j:Nat} {v:Value},(∀i u,vs[i]?=some u->cur[o+i]?=some u)->j<vs.length->bJ cur o (vs.set j v)=cur.setIfInBounds (o+j) v:=by
 intro vs j v b z;apply mI;intro i;rw[Al];have a:∀k,k<vs.length->o+k<cur.size:=λk y=>(iX.1 (b k _ (aF y))).1
 by_cases A:i<o\/o+vs.length<=i
 .rw[putAt_out _ _ _ _ (by rw[bL];omega),if_neg (by omega)]
 have h:i-o<vs.length:=by omega
 have:=putAt_in (vs.set j v) cur o (i-o) ((vs.set j v)[i-o]'(by rw[bL];exact h)) (by rw[bL];have:=a (vs.length-1) (by omega);omega) (aF _);rw[show o+(i-o)=i by omega]at this;rw[this,DC]
 by_cases e:j=i-o
 .rw[if_pos e,if_pos (by omega),if_pos (by have:=a j z;omega)]
 rw[if_neg e,if_neg (by omega)];have:=b (i-o) _ (aF h);rw[show o+(i-o)=i by omega]at this;exact this.symm
theorem JP(s:St)(f i:Int):(eG s f i).count=s.count\/(eG s f i).count=0:=by
 unfold eG;split
 .exact .inr rfl
 split
 .exact .inl rfl
 .exact .inl rfl
theorem TD{o:Nat}(m:World->Prop)(h:∀W,w.grownBy W (some b)->(∀ {cur T},aG w b cur T->aG W b (bJ cur o vs) T)->m W):m (w.setCells b o vs).drew:=by
 have j:=aC w b o vs;exact h _ ⟨j.os,j.tape,j.output,j.size,j.block⟩ λu=>u.setCells vs o
theorem vR : (Tryz.prog.info? 4).map (·.size)=some 1:=by kernel_rfl
def Pq(B:Nat)(S:St)(N E:Int):mV:=⟨λv w => ∃u ps k,v = .tuple #[.agg #[u,.int .i64 k],.int .i64 N,.int .i64 E]/\rz w B u ps/\cK ps k=S,λ_ _ _ hb ⟨u,ps,k,h1,h2,h3⟩=>⟨u,ps,k,h1,h2.below hb,h3⟩⟩
def CZ(B:Nat)(d:vQ)(E:Int):mV:=⟨λv w => ∃a b,v = .tuple #[.agg #[a,b],.int .i64 E]/\nk w B a b d,λ_ _ _ hb ⟨a,b,h1,h2⟩=>⟨a,b,h1,h2.below hb⟩⟩
theorem Oa(H:MH)(e:Int)(f:Nat)(B b:Nat)(w:World)(h:lH w B b H e)(hf:f<H.m.fs.length) :
  Calls Tryz.prog 161 #[.pointer (some ⟨b,0,none⟩),.int .i64 f] w λr w'=>r = .returned (.bool (lT H.ma f))/\KR w B b H w' (lD ⟨H.ma,e⟩ f):=by
 obtain⟨g,off,cur,h2,gf,hi,kX,ky,hG,ge,kh⟩:=h.frame hf;generalize hx:aD H.ma f=x at *
 have O:=ae hx;clear hx kh;have hc:=h.blk.cell;unfold rD at hc;rw[h2]at hc;have gc:(f:Int)<(H.m.fs.length:Int):=by omega
 have q10:cur[off+f*13+10]?=some (.bool x.d):=hG 10 _ rfl;have q11:cur[off+f*13+11]?=some (.int .i64 x.f):=hG 11 _ rfl;have q12:cur[off+f*13+12]?=some (.int .i64 x.i):=hG 12 _ rfl;have kD:=hi.cell;have kB:=hi.free;have k0:=ae hG;clear hG;go_enter func161,ntmps161
 by_cases h1:x.f<0
 .have V:Hid (lD ⟨H.ma,e⟩ f=⟨H.ma,e⟩):=ae (by unfold lD;simp only[O.out];rw[if_pos (.inl h1)]);have Y:Hid (lT H.ma f=true):=ae (by unfold lT;rw[O.out];simp[h1]);have hh:=ae h;clear h;go_wp2;go_ret;rw[V.out,Y.out];exact⟨rfl,_,_,hh.out,KS.refl _ _ _,rfl⟩
 cases hd:x.d with
 | false=>
  have V:Hid (lD ⟨H.ma,e⟩ f=⟨H.ma,e⟩):=ae (by unfold lD;simp only[O.out];rw[if_pos (.inr (.inl hd))]);have Y:Hid (lT H.ma f=true):=ae (by unfold lT;rw[O.out,hd];simp);rw[hd]at q10;have hh:=ae h;clear h;go_wp2;go_ret;rw[V.out,Y.out];exact⟨rfl,_,_,hh.out,KS.refl _ _ _,rfl⟩
 | true=>
  rw[hd]at q10;go_upto_region 4 with(fail);have hm:=ae h;refine ko 22 [_,_,_,_,_,_,_,_,_,_,_,_,_,.r 13 ((Pq w.heap.size (eG H.ma.st x.f x.i) (eX H.ma.st x.f x.i) (dJ H.ma.st x.f x.i))),.r 14 ((Pq w.heap.size (eG H.ma.st x.f x.i) (eX H.ma.st x.f x.i) (dJ H.ma.st x.f x.i))),.r 15 ((NA w.heap.size (eG H.ma.st x.f x.i))),.v (.int .i64 (eX H.ma.st x.f x.i)),.v (.int .i64 (dJ H.ma.st x.f x.i)),.r 18 ((iN w.heap.size 41 2)),.y 19 ((Lc 18 w.heap.size 41 (NA w.heap.size (eG H.ma.st x.f x.i)))),.v (.int .i64 (eX H.ma.st x.f x.i)),.v (.int .i64 (dJ H.ma.st x.f x.i))] (λW=>Below w.heap.size w W) dS (Below.refl _ _) (Yk dS rfl (Yk dS rfl (Yf dS b 0 rfl rfl (Yf dS b 7 rfl rfl (Yr dS (.agg #[.slice H.ai H.fi.length H.ci,.int .i64 H.ct]) (λρ y W A hH=>(bH rfl (aL rfl hH) (h.below A).rdS underlying41 rfl store_size)) rfl rfl (Yk dS rfl (Yk dS rfl (Yf dS g (off+f*13+11) rfl rfl (Yc dS (.int .i64 x.f) (λW A=>by simp[(hi.ext A).cell,q11]) rfl rfl rfl rfl (Yk dS rfl (Yk dS rfl (Yf dS g (off+f*13+12) rfl rfl (Yc dS (.int .i64 x.i) (λW A=>by simp[(hi.ext A).cell,q12]) rfl rfl rfl rfl (ah ?_ (ah ?_ (ah ?_ (ah ?_ (ah ?_ (ah ?_ (ah ?_ (Yk dS rfl (Yk dS rfl (aI))))))))))))))))))))))) (λ_=>rfl) rfl ?_
  .intro ρ y W C I A hd;refine iY dS A ((Pq w.heap.size (eG H.ma.st x.f x.i) (eX H.ma.st x.f x.i) (dJ H.ma.st x.f x.i))) (λ_ _ h=>h) ?_;have kU:=C 35 4 rfl;have h4:y 4=_:=hd 4 rfl;have kT:=C 39 8 rfl;have h8:y 8=_:=hd 8 rfl;have kS:=C 43 12 rfl;have h3:y 12=_:=hd 12 rfl;have EF:=eF0 I λ_=>trivial;refine aO _ _ (aj rfl) (aS rfl (EF _) func192 (by kernel_rfl) (by kernel_rfl) (by simp only[bW,bQ,aZ,kU,h4,kT,h8,kS,h3,EF];rfl)) ?_;refine(NU H.fi H.ct x.f x.i H.ai H.ci W (h.below A).ma.rd.st h.ma.c64).mono ?_;rintro r D ⟨u,E,k,rfl,M,hB,kG⟩;exact⟨_,rfl,kG,u,E,k,rfl,M.mono A.size,hB⟩
  .intro ρ y W C I A hd;refine iY dS A ((Pq w.heap.size (eG H.ma.st x.f x.i) (eX H.ma.st x.f x.i) (dJ H.ma.st x.f x.i))) (λ_ _ h=>h) ?_;have kR:=C 44 13 rfl;have kJ:=hd 13 rfl;refine ak _ (aj rfl) (run_move (.inl rfl) kR) ?_;exact kJ
  .intro ρ y W C I A hd;refine iY dS A ((NA w.heap.size (eG H.ma.st x.f x.i))) (λ_ _ h=>h) ?_;have hI:=C 30 14 rfl;have X:=hd 14 rfl;obtain⟨u,E,k,L,M,hB⟩:=X;refine ak (.agg #[u,.int .i64 k]) (aj rfl) (by simp[execOp,go_sem,bU,hI,L]) ?_;exact⟨u,E,k,rfl,M,hB⟩
  .intro ρ y W C I A hd;refine iY dS A (mZ (.int .i64 (eX H.ma.st x.f x.i))) (λ_ _ h=>h) ?_;have hI:=C 30 14 rfl;have X:=hd 14 rfl;obtain⟨u,E,k,L,M,hB⟩:=X;refine ak (.int .i64 (eX H.ma.st x.f x.i)) (aj rfl) (by simp[execOp,go_sem,bU,hI,L]) rfl
  .intro ρ y W C I A hd;refine iY dS A (mZ (.int .i64 (dJ H.ma.st x.f x.i))) (λ_ _ h=>h) ?_;have hI:=C 30 14 rfl;have X:=hd 14 rfl;obtain⟨u,E,k,L,M,hB⟩:=X;refine ak (.int .i64 (dJ H.ma.st x.f x.i)) (aj rfl) (by simp[execOp,go_sem,bU,hI,L]) rfl
  .intro ρ y W C I A hd;refine iY dS A ((iN w.heap.size 41 2)) (λ_ _ h=>h) ?_;refine jh (.pointer (some ⟨W.heap.size,0,none⟩)) (aj rfl) (by simp[execOp,go_sem,bU]) ((Below.refl _ _).alloc (az _) (.cells #[.slice none 0 0,.int .i64 0] 41)) ?_;exact⟨_,_,rfl,A.size,aG.new _ _ _,rfl⟩
  .intro ρ y W C I A hd;have E6:=C 6 18 rfl;have kH:=hd 18 rfl;have kQ:=C 45 15 rfl;have kI:=hd 15 rfl;obtain⟨u,E,k,e7,ht,kg⟩:=kI;obtain⟨g3,F,e9,hF,l,hC⟩:=kH;obtain⟨K,J,rfl,_⟩:=ht.rd;refine mh (aj rfl) _ _ _ rfl g3 0 (.agg #[.slice K E.length J,.int .i64 k]) [.slice K E.length J,.int .i64 k] (E6.trans e9) (kQ.trans e7) rfl F _ l (by rw[hC];exact az _) store_size (bT (vI _ _ _ _)) ?_;intro w1 hj a;rw[show[Value.slice K E.length J,Value.int .i64 k]=(#[Value.slice K E.length J,Value.int .i64 k]:Array Value).toList from rfl,gK F _ (by rw[hC];rfl)]at hj;refine⟨A.grown a A.size (λk Z=>by cases Z;exact hF),⟨g3,_,e9,hF,hj,⟨_,E,k,rfl,ht.keep l (by decide) (by decide) a,kg⟩⟩,?_⟩;intro k Z hX
   match k,Z,hX with
   | 0,_,_|1,_,_|2,_,_|3,_,_|4,_,_|5,_,_|6,_,_|7,_,_|8,_,_|9,_,_|10,_,_|11,_,_|12,_,_=>exactλh=>h
   | 13,_,_|14,_,_|15,_,_=>exactλ⟨c,q0,q1,q2,q3,q4⟩=>⟨c,q0,q1,q2,q3.keep l (by decide) (by decide) a,q4⟩
   | 16,_,_|17,_,_=>exactλh=>h
   | 18,_,_=>exactλq=>kZ q hj (λ_=>rfl) ⟨_,l⟩ a
   | 19,_,h=>exact absurd rfl h
   | 20,_,_|21,_,_=>exactλh=>h
   | n+22,h,_=>exact absurd h (by omega)
  intro y D t ha;replace t:Below w.heap.size w D:=t;have kc:((Pq w.heap.size (eG H.ma.st x.f x.i) (eX H.ma.st x.f x.i) (dJ H.ma.st x.f x.i))).r (y 13) D:=ha 13 (by decide);have hA:((Pq w.heap.size (eG H.ma.st x.f x.i) (eX H.ma.st x.f x.i) (dJ H.ma.st x.f x.i))).r (y 14) D:=ha 14 (by decide);have hz:((NA w.heap.size (eG H.ma.st x.f x.i))).r (y 15) D:=ha 15 (by decide);have kb:((iN w.heap.size 41 2)).r (y 18) D:=ha 18 (by decide);have ka:=ha 19 (by decide);clear ha;simp only[dm,bU,bQ,aZ];obtain⟨gs,cs,k9,kk,kp,us,E,ks,hL,hW,hN⟩:=ka;simp only[ym]at hL;subst hL;obtain⟨K,J,rfl,_⟩:=hW.rd;have k2:=h.below t;have s2:=(KS.refl w b H).below t;have h0:=hi.ext t;have hD:=ky.below t;have kW:=ae kk;clear kc hA hz kb hc kD kB kk
  by_cases hE:dJ H.ma.st x.f x.i=0
  .have V:Hid (lD ⟨H.ma,e⟩ f=⟨setFr { H.ma with st:=eG H.ma.st x.f x.i,dk:=dP H.dk (eX H.ma.st x.f x.i) x.p } f { x with d:=false },jw e (aJ H.dk (eX H.ma.st x.f x.i))⟩):=ae (by
    unfold lD;simp only[O.out];rw[if_neg]
    .rfl
    rintro(q|q|q)
    .exact h1 q
    .rw[hd]at q;cases q
    .exact q hE)
   have Y:Hid (lT H.ma f=true):=ae (by unfold lT;rw[O.out,hE];simp);rw[hE];clear hE;have k1:Hid (dJ H.ma.st x.f x.i=dJ H.ma.st x.f x.i):=ae rfl;generalize eX H.ma.st x.f x.i=N at *
   go_upto_region 7 with(fail);refine ko 17 [_,_,_,_,_,_,_,_,_,_,.r 10 ((CZ D.heap.size (dP H.dk N x.p) (aJ H.dk N))),.r 11 ((CZ D.heap.size (dP H.dk N x.p) (aJ H.dk N))),.r 12 ((yY D.heap.size (dP H.dk N x.p))),.v (.int .i64 (aJ H.dk N)),.r 14 ((iN D.heap.size 38 2)),.y 15 ((Lc 14 D.heap.size 38 (yY D.heap.size (dP H.dk N x.p)))),.v (.int .i64 (aJ H.dk N))] (λW=>Below D.heap.size D W) dS (Below.refl _ _) (Yk dS rfl (Yk dS rfl (Yf dS b 0 rfl rfl (Yf dS b 5 rfl rfl (Yr dS (.agg #[.slice H.db H.dk.blocks.length H.cdb,.slice H.dq H.dk.queue.length H.cdq]) (λρ y W A hH=>(bH rfl (aL rfl hH) (k2.below A).rdD underlying38 rfl disk_size)) rfl rfl (Yk dS rfl (Yk dS rfl (Yk dS rfl (Yf dS g (off+f*13) rfl rfl (Yr dS (.agg (eQ x.p)) (λρ y W A hH=>(bH rfl (aL rfl hH) (qG (hD.below A) 0 8) underlying58 rfl psize)) rfl rfl (ah ?_ (ah ?_ (ah ?_ (ah ?_ (ah ?_ (ah ?_ (Yk dS rfl (aI)))))))))))))))))) (λ_=>rfl) rfl ?_
   .intro ρ y W C I A hd;refine iY dS A ((CZ D.heap.size (dP H.dk N x.p) (aJ H.dk N))) (λ_ _ h=>h) ?_;have kP:=C 55 4 rfl;have h4:y 4=_:=hd 4 rfl;have kO:=C 56 5 rfl;have h5:y 5=_:=hd 5 rfl;have kN:=C 60 9 rfl;have h9:y 9=_:=hd 9 rfl;have EF:=eF0 I λ_=>trivial;refine aO _ _ (aj rfl) (aS rfl (EF _) func193 (by kernel_rfl) (by kernel_rfl) (by simp only[bW,bQ,aZ,kP,h4,kO,h5,kN,h9,EF];rfl)) ?_;refine(FL H.dk N x.p H.db H.cdb H.dq H.cdq W (k2.below A).ma.rd.dk).mono ?_;rintro r W3 ⟨U,S,rfl,M,kF⟩;exact⟨_,rfl,kF,U,S,rfl,M.mono A.size⟩
   .intro ρ y W C I A hd;refine iY dS A ((CZ D.heap.size (dP H.dk N x.p) (aJ H.dk N))) (λ_ _ h=>h) ?_;have kM:=C 61 10 rfl;have kK:=hd 10 rfl;refine ak _ (aj rfl) (run_move (.inl rfl) kM) ?_;exact kK
   .intro ρ y W C I A hd;refine iY dS A ((yY D.heap.size (dP H.dk N x.p))) (λ_ _ h=>h) ?_;have h7:=C 50 11 rfl;have h6:=hd 11 rfl;obtain⟨U,S,L,M⟩:=h6;refine ak (.agg #[U,S]) (aj rfl) (by simp[execOp,go_sem,bU,h7,L]) ?_;exact⟨U,S,rfl,M⟩
   .intro ρ y W C I A hd;refine iY dS A (mZ (.int .i64 (aJ H.dk N))) (λ_ _ h=>h) ?_;have h7:=C 50 11 rfl;have h6:=hd 11 rfl;obtain⟨U,S,L,M⟩:=h6;refine ak (.int .i64 (aJ H.dk N)) (aj rfl) (by simp[execOp,go_sem,bU,h7,L]) rfl
   .intro ρ y W C I A hd;refine iY dS A ((iN D.heap.size 38 2)) (λ_ _ h=>h) ?_;refine jh (.pointer (some ⟨W.heap.size,0,none⟩)) (aj rfl) (by simp[execOp,go_sem,bU]) ((Below.refl _ _).alloc (az _) (.cells #[.slice none 0 0,.slice none 0 0] 38)) ?_;exact⟨_,_,rfl,A.size,aG.new _ _ _,rfl⟩
   .intro ρ y W C I A hd;have E9:=C 9 14 rfl;have X:=hd 14 rfl;have kL:=C 62 12 rfl;have h3:=hd 12 rfl;obtain⟨U,S,e7,ht⟩:=h3;obtain⟨g3,F,e9,hF,l,hC⟩:=X;obtain⟨ab,cb,rfl,_⟩:=ht.b.rd;obtain⟨aq,cq,rfl,_⟩:=ht.q.rd;refine mh (aj rfl) _ _ _ rfl g3 0 (.agg #[.slice ab _ cb,.slice aq _ cq]) [.slice ab _ cb,.slice aq _ cq] (E9.trans e9) (kL.trans e7) rfl F _ l (by rw[hC];exact az _) disk_size (bT (xG _ _ _ _ _ _)) ?_;intro w1 hj a;rw[show ∀(p q:Value),[p,q]=(#[p,q]:Array Value).toList fromλ_ _=>rfl,gK F _ (by rw[hC];rfl)]at hj;refine⟨A.grown a A.size (λk Z=>by cases Z;exact hF),⟨g3,_,e9,hF,hj,⟨_,_,rfl,ht.keep l (by decide) (by decide) a⟩⟩,?_⟩;intro k Z hX
    match k,Z,hX with
    | 0,_,_|1,_,_|2,_,_|3,_,_|4,_,_|5,_,_|6,_,_|7,_,_|8,_,_|9,_,_=>exactλh=>h
    | 10,_,_|11,_,_|12,_,_=>exactλ⟨c,q0,q1,q2⟩=>⟨c,q0,q1,q2.keep l (by decide) (by decide) a⟩
    | 13,_,_=>exactλh=>h
    | 14,_,_=>exactλq=>kZ q hj (λ_=>rfl) ⟨_,l⟩ a
    | 15,_,h=>exact absurd rfl h
    | 16,_,_=>exactλh=>h
    | n+17,h,_=>exact absurd h (by omega)
   intro y W3 s z;replace s:Below D.heap.size D W3:=s;have kf:((CZ D.heap.size (dP H.dk N x.p) (aJ H.dk N))).r (y 10) W3:=z 10 (by decide);have ke:((CZ D.heap.size (dP H.dk N x.p) (aJ H.dk N))).r (y 11) W3:=z 11 (by decide);have kd:((yY D.heap.size (dP H.dk N x.p))).r (y 12) W3:=z 12 (by decide);have hA:((iN D.heap.size 38 2)).r (y 14) W3:=z 14 (by decide);have hz:=z 15 (by decide);clear z;simp only[dm,bU,bQ,aZ];obtain⟨gd,cd,ga,gb,kq,U,S,hM,hJ⟩:=hz;simp only[ym]at hM;subst hM;obtain⟨ab,cb,rfl,_⟩:=hJ.b.rd;obtain⟨aq,cq,rfl,_⟩:=hJ.q.rd;have k3:=k2.below s;have s3:=s2.below s;have hS:=kp.ext s;have hR:=hW.below s;have kx:=ae s2.size;have ki:=hD.below s;clear kf ke kd hA k2 s2 h0 kp hW s hD
   go_wp2_with fail
   refine(tu _ e (aJ H.dk N) _ _ _ k3).mono ?_;rintro r w4 ⟨rfl,R,hv⟩;have s4:=s3.putB hv rfl rfl rfl;have hP:=hJ.keep k3.blk (by decide) (by decide) hv;have hQ:=hR.keep k3.blk (by decide) (by decide) hv;have hr:=bY hS k3.blk (by decide) hv;have hs:=bY kq k3.blk (by decide) hv;clear k3 s3 hJ hR hS kq hv ki;have kn:=R.blk.cell;have kC:=R.blk.free;unfold rD at kn;have hL:=hr.cell;have hM:=hs.cell;have n1:=mD R.blk hr (by decide);have n2:=mD R.blk hs (by decide);have n3:=mD hr hs (by decide);go_upto_region 9 with(fail)
   go_region
   refine TD (w:=w4.setCells b 7 [.slice K E.length J,.int .i64 ks]) (b:=b) (o:=5) (vs:=[.slice ab (dP H.dk N x.p).blocks.length cb,.slice aq (dP H.dk N x.p).queue.length cq]) (λW=>Exit.then _ _ _ _ W) λw6 hY kt => ?_;have km : -9223372036854775808<=ks/\ks<=9223372036854775807:=by
    have e1:ks=(eG H.ma.st x.f x.i).count:=by rw[<-hN];rfl
    have e2:=h.ma.c64;have e3:H.ma.st.count=H.ct:=rfl;rcases JP H.ma.st x.f x.i with e4|e4<;>rw[e1,e4]<;>omega
   have hK:=aC w4 b 7 [.slice K E.length J,.int .i64 ks];have ku:=R.blk.setCells [.slice K E.length J,.int .i64 ks] 7;have k5:=R.setS (hQ.mono h.bs) km ku hK;have s5:=s4.putB (H':={ H with ai:=K,ci:=J,fi:=E,ct:=ks }) hK rfl rfl rfl;have hO:=hP.keep R.blk (by decide) (by decide) hK;have hT:=kt k5.blk;have k6:=k5.setD (hO.mono (bi h.bs kx.out)) hT hY;have s6:=s5.putB (H':={ H with ai:=K,ci:=J,fi:=E,ct:=ks,db:=ab,cdb:=cb,dq:=aq,cdq:=cq,dk:=dP H.dk N x.p }) hY rfl rfl rfl;clear kt hT hY k5 s5 hO ku hK km R s4 hP hQ kn kC hL hM hr hs;obtain⟨g7,G,cur7,kv,k7,hZ,kA,kV,hU,kY,hV⟩:=k6.frame hf;have kz:g7=g/\G=off:=by have:H.af=some ⟨g7,G,none⟩:=kv;rw[h2]at this;simp only[jA,ui,and_true]at this;exact⟨this.1.symm,this.2.symm⟩
   obtain⟨rfl,rfl⟩:=kz;have kw:aD (MH.ma { H with ai:=K,ci:=J,fi:=E,ct:=ks,db:=ab,cdb:=cb,dq:=aq,cdq:=cq,dk:=dP H.dk N x.p }) f=x:=O.out;rw[kw]at hU;have kj:=putAt_one (v:=.bool false) (j:=10) hU (by rw[fQ];decide)
   go_wp2_with (refine aB rfl _ _ _ rfl g7 (G+f*13+10) _ [.bool false] rfl rfl rfl _ _ hZ (by simp;omega) vR (λu L=>by cases bB.1 L;rfl) ?_)
   intro w8 kE kl;have kr : aG w8 g7 (bJ cur7 (G+f*13) (pR { x with d:=false })) 66:=by have e1:pR { x with d:=false }=(pR x).set 10 (.bool false):=rfl;rw[e1,kj];exact kE
   have k8:=hV w8 { x with d:=false } kr kl;have s8:=s6.put (H':={ H with ai:=K,ci:=J,fi:=E,ct:=ks,db:=ab,cdb:=cb,dq:=aq,cdq:=cq,dk:=dP H.dk N x.p,m:=⟨H.m.fs.set f { x with d:=false },H.m.hand⟩ }) kl (.inr (.inl (by show oB H.af=_;rw[h2];rfl))) λy hy => .inl (Dj rfl rfl rfl hy);go_wp2;go_ret;rw[V.out,Y.out];refine⟨rfl,_,_,k8,s8,?_⟩;unfold MH.ma setFr;simp only[hN];rfl
  have V:Hid (lD ⟨H.ma,e⟩ f=⟨H.ma,e⟩):=ae (by unfold lD;simp only[O.out];rw[if_pos (.inr (.inr hE))]);have Y:Hid (lT H.ma f=false):=ae (by unfold lT;rw[O.out];simp only[Eh,decide_eq_false_iff_not,Bool.not_eq_false'];exact⟨⟨h1,hd⟩,hE⟩);go_wp2;go_ret;rw[V.out,Y.out];exact⟨rfl,_,_,k2,s2,rfl⟩
def qK(s:St)(f i:Int):Prop:=(0<=f/\f<s.fs.length)/\0<=i/\i<(aN s f).b.length
theorem iE{s:St}{F:Nat}{x:Fi}(h:s.fs[F]?=some x):aN s F=x:=by
 unfold aN;rw[if_pos (by omega),bu,aY,h];rfl
theorem Ac{s:St}{f:Int}(h:0<=f/\f<s.fs.length):s.fs[f.toNat]?=some (aN s f):=by
 unfold aN;rw[if_pos h.1,aY,aF (by omega)];rfl
theorem sM{s:St}{f i:Int}(h:qK s f i):(aN s f).b[i.toNat]?=some (bN s f i):=by
 unfold bN;rw[aY,aF (by have:=h.2;omega)];rfl
theorem vo{s:St}{f i:Int}(h:qK s f i):bN s f i∈kJ s:=
 jV.2 ⟨_,bS (Ac h.1),bS (sM h)⟩
theorem KP{s:St}{x:Int}(h:x∈kJ s):∃f i,qK s f i/\bN s f i=x:=by
 obtain⟨fi,z,h2⟩:=jV.1 h;obtain⟨F,y,rfl⟩:=jM.1 z;obtain⟨I,u,rfl⟩:=jM.1 h2;have j:aN s F=s.fs[F]:=iE (aF y);have a:qK s F I:=⟨by omega,by omega,by rw[j];omega⟩;refine⟨F,I,a,?_⟩;have:=sM a;rw[j,bu,aF u]at this;exact(aM this).symm
theorem posB_inj:∀ {l:List Int} {I J:Nat} {v:Int},(lh l).Nodup->l[I]?=some v->l[J]?=some v->0<=v->I=J
 | [],_,_,_,_,h,_,_=>by simp at h
 | a::l,0,0,_,_,_,_,_=>rfl
 | a::l,0,J+1,v,hn,h1,h2,h0=>by simp only[qV,jA]at h1;subst h1;rw[Ju h0]at hn;exact((uD.1 hn).1 (jP.2 ⟨bS (by simpa using h2:l[J]?=some a),h0⟩)).elim
 | a::l,I+1,0,v,hn,h1,h2,h0=>by simp only[qV,jA]at h2;subst h2;rw[Ju h0]at hn;exact((uD.1 hn).1 (jP.2 ⟨bS (by simpa using h1:l[I]?=some a),h0⟩)).elim
 | a::l,I+1,J+1,v,hn,h1,h2,h0=>by
  have:(lh l).Nodup:=by have j:(lh l).Sublist (lh (a::l)):=(List.sublist_cons_self a l).filter _;exact hn.sublist j
  have u:=posB_inj (I:=I) (J:=J) this (by simpa using h1) (by simpa using h2) h0;omega
theorem flat_inj:∀ {fs:List Fi} {F G I J:Nat} {x y:Fi} {v:Int},(lh (fs.flatMap Fi.b)).Nodup->fs[F]?=some x->fs[G]?=some y->x.b[I]?=some v->y.b[J]?=some v->0<=v->F=G/\I=J
 | [],_,_,_,_,_,_,_,_,h,_,_,_,_=>by simp at h
 | a::fs,F,G,I,J,x,y,v,hn,hF,hG,hI,hJ,h0=>by
  rw[nX,vC,wJ]at hn;obtain⟨z,u,j⟩:=hn;cases F with
  | zero=>
   simp only[qV,jA]at hF;subst hF;cases G with
   | zero=>
    simp only[qV,jA]at hG;subst hG;exact⟨rfl,posB_inj z hI hJ h0⟩
   | succ G=>
    exact absurd rfl (j v (jP.2 ⟨bS hI,h0⟩) v (jP.2 ⟨jV.2 ⟨y,bS (by simpa using hG),bS hJ⟩,h0⟩))
  | succ F=>
   cases G with
   | zero=>
    simp only[qV,jA]at hG;subst hG;exact absurd rfl (j v (jP.2 ⟨bS hJ,h0⟩) v (jP.2 ⟨jV.2 ⟨x,bS (by simpa using hF),bS hI⟩,h0⟩))
   | succ G=>
    obtain⟨C,A⟩:=flat_inj u (by simpa using hF) (by simpa using hG) hI hJ h0;exact⟨by omega,A⟩
theorem Mi{s:St}(h:aR s=0){f i g j:Int}(u:qK s f i)(h2:qK s g j)(A:0<=bN s f i)(z:bN s f i=bN s g j):f=g/\i=j:=by
 have y:=(mJ.1 h).2.2;obtain⟨D,C⟩:=flat_inj y (Ac u.1) (Ac h2.1) (sM u) (by rw[z];exact sM h2) A;have:=u.1;have:=u.2;have:=h2.1;have:=h2.2;omega
theorem vN{s:St}(h:aR s=0){f:Int}(j:0<=f/\f<s.fs.length):FN s.count (aN s f):=(mJ.1 h).2.1 _ (bS (Ac j))
theorem block_lt{s:St}(h:aR s=0){f i:Int}(j:qK s f i) : -1<=bN s f i/\bN s f i<s.count:=
 (vN h j.1).2.2.2 _ (bS (sM j))
theorem zu{s:St}(h:aR s=0){f i:Int}(j:qK s f i):f<5/\i<12/\i*8<(aN s f).n/\(aN s f).n<=96:=by
 have z:=(mJ.1 h).1;obtain⟨C,A,y,_⟩:=vN h j.1;have h2:=j.1;have u:=j.2;rw[y]at u;unfold fw at u;split at u<;>omega
structure Blocked (s s' : St) (f i b:Int):Prop where
 right:aR s' = 0
 count:s'.count=s.count
 len:s'.fs.length=s.fs.length
 size:∀g,(aN s' g).n=(aN s g).n
 lenb:∀g,(aN s' g).b.length=(aN s g).b.length
 at_:bN s' f i=b
 other:∀g j,0<=j->¬(g=f/\j=i)->bN s' g j=bN s g j
 b0:0<=b
 bc:b<s.count
 used:∀x,0<=x->(x∈kJ s'↔x=b\/x∈kJ s)
 was:(bN s f i=b/\s' = s)\/(bN s f i<0/\b ∉ kJ s/\zh s' = zh s-1)
theorem qK.same{s:St}{f i:Int}(h:qK s f i)(j:s'.fs.length=s.fs.length)(h2:∀g,(aN s' g).b.length=(aN s g).b.length):qK s' f i:=⟨by rw[j];exact h.1,by rw[h2];exact h.2⟩
theorem blocked{s:St}{f i:Int}(h:dJ s f i=0):qK s f i/\Blocked s (eG s f i) f i (eX s f i):=by
 have K:=Kt h;obtain⟨H,F,I,x,v,rfl,rfl,O,L,t,m,R⟩:=CF h;have Z:=(cz.1 O).1;have S:=(cz.1 L).1;have r:qK s F I:=⟨by omega,by omega,by rw[t];omega⟩;refine⟨r,?_⟩;have J:=block_lt H r;rcases R with⟨C,A,G⟩|⟨N,C,G,A⟩
 .rw[A,G];rw[m]at J;exact⟨H,rfl,rfl,λ_=>rfl,λ_=>rfl,m,λ_ _ _ _=>rfl,C,J.2,λy _=>⟨.inr,λh=>h.elim (λe=>by rw[e,<-m];exact vo r) id⟩,.inl ⟨m,rfl⟩⟩
 obtain⟨z,M⟩:=GK C;have w:=JW M;have a:=K.2.2.2.2;rw[m]at a;have a:zh (eG s F I)=zh s-1:=by
  rcases a with⟨e,_⟩|⟨_,_,e⟩
  .omega
  .exact e
 have o:=K.1;rw[A]at o a;rw[A,G];generalize hs' : (⟨s.fs.set F ⟨x.n,x.b.set I (iD s)⟩,s.count⟩:St)=s' at *
 have k:∀g,aN s' g=if g=F then⟨x.n,x.b.set I (iD s)⟩else aN s g:=by
  intro g;rw[<-hs'];unfold aN;simp only
  by_cases D:0<=g
  .rw[if_pos D,if_pos D,aY,oq]
   by_cases e:g=F
   .rw[if_pos e,if_pos (by omega),if_pos (by omega)];rfl
   .rw[if_neg e,if_neg (by omega),aY]
  .rw[if_neg D,if_neg D,if_neg (by omega)]
 have p:s'.fs.length=s.fs.length:=by rw[<-hs'];exact bL
 have d:∀g,(aN s' g).b.length=(aN s g).b.length:=by
  intro g;rw[k]
  by_cases e:g=F
  .rw[if_pos e,e,t];exact bL
  .rw[if_neg e]
 have u:bN s' F I=iD s:=by unfold bN;rw[k,if_pos rfl,bu,aY,wy S];rfl
 have q:∀g j,0<=j->¬(g=(F:Int)/\j=(I:Int))->bN s' g j=bN s g j:=by
  intro g j X Y;unfold bN;rw[k]
  by_cases e:g=F
  .rw[if_pos e,e,t];simp only;rw[aY,uw (by omega),aY]
  .rw[if_neg e]
 refine⟨o,by rw[<-hs'],p,λg => ?_,d,u,q,C,z,λy W => ?_,.inr ⟨by rw[m];exact N,w,a⟩⟩
 .rw[k]
  by_cases e:g=F
  .rw[if_pos e,e,t]
  .rw[if_neg e]
 constructor
 .intro E;obtain⟨g,j,c,l⟩:=KP E
  by_cases e:g=(F:Int)/\j=(I:Int)
  .rw[e.1,e.2,u]at l;exact .inl l.symm
  rw[q g j c.2.1 e]at l;refine .inr ?_;rw[<-l];exact vo ⟨by rw[<-p];exact c.1,by rw[<-d];exact c.2⟩
 rintro(e|E)
 .rw[e,<-u];exact vo (r.same p d)
 obtain⟨g,j,c,l⟩:=KP E;have e:¬(g=(F:Int)/\j=(I:Int)):=by rintro⟨V,U⟩;rw[V,U,m]at l;omega
 rw[<-l,<-q g j c.2.1 e];exact vo (c.same p d)
def eT(m:Ma)(p:Nat)(n:Int):Option Pg:=onA (dD m p).ar n
def CK(a b:Cc):Prop:=a.f<b.f\/a.f=b.f/\a.i<b.i
def Oj(x:Fr)(g:Pg)(w:Bool):Prop:=
 (0<=x.f->x.f=g.fi/\x.i=g.pg)/\(g.sh=true->0<=x.f)/\(w=true->g.wr=true)/\(w=true->0<=x.f->g.sh=true)/\(w=true->x.f<0->x.r<=1)
structure Pn (m:Ma) (g:Pg) (e:En):Prop where
 sw:e.k=2->e.n<m.sl.length/\g.sh=false
 lt:e.k=1->e.n<m.m.fs.length
 fr:e.k=1->Oj (aD m e.n.toNat) g e.w
structure uK (m:Ma):Prop where
 file:∀c∈m.ca,qK m.st c.f c.i
 lt:∀c∈m.ca,0<=c.k/\c.k<m.m.fs.length
 fr:∀c∈m.ca,1<=(aD m c.k.toNat).r/\(aD m c.k.toNat).f=c.f/\(aD m c.k.toNat).i=c.i
 srt:m.ca.Pairwise CK
def tY(m:Ma)(i:Int):Nat:=m.ca.countP λc=>decide (c.k=i)
structure Rt (m:Ma):Prop where
 pt:Pt m
 trim:(∀b:Int,0<=b->b<m.dk.blocks.length->b∈kJ m.st\/m.dk.blocks.getD b.toNat zPg=zPg)/\∀q∈m.dk.queue,q.1∈kJ m.st
 live:∀p,(dD m p).lv=false->(dD m p).ar=[]/\∀n,(ent m p n).k=0
 ca:uK m
 en:∀p n,(ent m p n).k≠0->∃g,eT m p n=some g/\Pn m g (ent m p n)
 cf:∀i:Nat,i<m.m.fs.length->(aD m i).r=tY m i+bO m 1 i
 fc:∀i:Nat,i<m.m.fs.length->0<=(aD m i).f->∃c∈m.ca,c.k=i
 cs:∀s:Nat,s<m.sl.length->jS m s=bO m 2 s
structure Co (m:Ma):Prop where
 tail:∀c∈m.ca,dw (aD m c.k.toNat).p ((aN m.st c.f).n-c.i*8)=(aD m c.k.toNat).p
 clean:∀c∈m.ca,(aD m c.k.toNat).d=false->(aD m c.k.toNat).p=dz m c.f c.i
 anon:∀i:Nat,i<m.m.fs.length->(aD m i).d=true->0<=(aD m i).f
def fP(m:Ma)(p:Nat)(n:Int):Page × Bool × Int:=
 match eT m p n with
 | none=>(zPg,false,5)
 | some g=>
  if(ent m p n).k=1 then((jv m (ent m p n).n).p,decide ((jv m (ent m p n).n).f<0),0)
  else if(ent m p n).k=2 then(dA m.sw (ent m p n).n,true,aJ m.sw (ent m p n).n)
  else if g.fi<0 then(zPg,false,0)
  else if(m.st.fs.length:Int)<=g.fi\/pq m.st g.fi g.pg=true then(zPg,false,9)
  else(aW m g.fi g.pg,false,0)
structure FU (m m' : Ma):Prop where
 sk:iF m m'
 files:m'.st.fs.length=m.st.fs.length
 size:∀f,(aN m'.st f).n=(aN m.st f).n
 lenb:∀f,(aN m'.st f).b.length=(aN m.st f).b.length
 see:∀p n,fP m' p n=fP m p n
 con:∀f i,qK m.st f i->aW m' f i=aW m f i
theorem FU.refl(m:Ma):FU m m:=⟨.refl m,rfl,λ_=>rfl,λ_=>rfl,λ_ _=>rfl,λ_ _ _=>rfl⟩
theorem FU.trans{a b c:Ma}(h:FU a b)(k:FU b c):FU a c:=
 ⟨h.sk.trans k.sk,k.files.trans h.files,λf=>(k.size f).trans (h.size f),λf=>(k.lenb f).trans (h.lenb f),λp n=>(k.see p n).trans (h.see p n),λf i j=>(k.con f i (j.same h.files h.lenb)).trans (h.con f i j)⟩
theorem Jj(a:Cc):¬CK a a:=λh=>by unfold CK at h;omega
theorem srt_eq:∀ {l:List Cc},l.Pairwise CK->∀ {a b:Cc},a∈l->b∈l->a.f=b.f->a.i=b.i->a=b
 | [],_,_,_,h,_,_,_=>by cases h
 | c::l,hs,a,b,ha,hb,e1,e2=>by
  obtain⟨j,h2⟩:=uA.1 hs;rcases dx.1 ha with e|ha<;>rcases dx.1 hb with e' | hb
  .rw[e,e']
  .have:=j b hb;rw[e]at e1 e2;unfold CK at this;omega
  .have:=j a ha;rw[e']at e1 e2;unfold CK at this;omega
  .exact srt_eq h2 ha hb e1 e2
theorem uK.uniq(h:uK m){a b:Cc}(y:a∈m.ca)(u:b∈m.ca)(z:a.k=b.k):a=b:=by
 have j:=h.fr a y;have h2:=h.fr b u;rw[z]at j;exact srt_eq h.srt y u (j.2.1.symm.trans h2.2.1) (j.2.2.symm.trans h2.2.2)
theorem BU{k:Int}:∀ {l:List Cc},l.Pairwise CK->(∀a∈l,∀b∈l,a.k=b.k->a=b)->l.countP (λc=>decide (c.k=k))<=1
 | [],_,_=>bq _
 | c::l,hs,hu=>by
  obtain⟨A,h2⟩:=uA.1 hs;have C:=BU (k:=k) h2 (λa z b y=>hu a (jW _ z) b (jW _ y));rw[qE]
  by_cases j:c.k=k
  .rw[if_pos (by simpa using j)];have:l.countP (λc=>decide (c.k=k))=0:=by rw[yl];intro d u h;have e:=hu c iM d (jW _ u) (by rw[j];exact(of_decide_eq_true h).symm);have:=A d u;rw[<-e]at this;exact Jj _ this
   omega
  .rw[if_neg (by simpa using j)];omega
theorem uK.one(h:uK m){c:Cc}(j:c∈m.ca):tY m c.k=1:=by
 have z:=BU (k:=c.k) h.srt (λa y b u=>h.uniq y u);have h2:0<m.ca.countP (λd=>decide (d.k=c.k)):=xV.2 ⟨c,j,by simp⟩;unfold tY;omega
theorem uK.none{i:Int}(h:∀c∈m.ca,c.k≠i):tY m i=0:=by
 unfold tY;rw[yl];intro c u j;exact h c u (of_decide_eq_true j)
theorem xW{f i:Int}{c:Cc}:Cf f i c=true↔f<c.f\/c.f=f/\i<=c.i:=by unfold Cf;simp
theorem zU(l:List Cc)(f i:Int):sS l f i<=l.length:=by
 unfold sS;cases h:l.findIdx? (Cf f i)with
 | none=>exact az _
 | some k=>exact rZ (sj.1 h).1
theorem JK{l:List Cc}(A:l.Pairwise CK){f i:Int}:JZ l f i=true↔∃c∈l,c.f=f/\c.i=i:=by
 unfold JZ;constructor
 .intro h;cases hc:l[sS l f i]? with
  | none=>rw[hc]at h;cases h
  | some c=>
   rw[hc]at h;simp only[dW,decide_eq_true_eq]at h;exact⟨c,bS hc,h⟩
 rintro⟨c,hc,u,h2⟩;obtain⟨j,C,rfl⟩:=jM.1 hc;unfold sS;cases h:l.findIdx? (Cf f i)with
 | none=>
  have:=vU.1 h _ hc;rw[IA]at this;exact absurd (xW.2 (.inr ⟨u,by omega⟩)) this
 | some k=>
  obtain⟨y,z,b⟩:=sj.1 h;have d:¬j<k:=λa=>b j a (xW.2 (.inr ⟨u,by omega⟩));have z:=xW.1 z;have:k=j:=by
   rcases gu k j with a|D
   .have:=Af.1 A k j y C a;unfold CK at this;omega
   .omega
  subst this;simp only[qh,aF y,u,h2,decide_true,Bool.and_self]
theorem JD{l:List Cc}{f i:Int}(h:JZ l f i=true):∃c,l[sS l f i]?=some c/\c.f=f/\c.i=i:=by
 unfold JZ at h;cases hc:l[sS l f i]? with
 | none=>rw[hc]at h;cases h
 | some c=>
  rw[hc]at h;simp only[dW,decide_eq_true_eq]at h;exact⟨c,rfl,h⟩
def uh(m:Ma)(f i:Int):Option Cc:=m.ca.find? λc=>decide (c.f=f)&&decide (c.i=i)
theorem Rc(h:uK m){c:Cc}(u:c∈m.ca):uh m c.f c.i=some c:=by
 cases hl:uh m c.f c.i with
 | none=>
  have:=ru.1 hl c u;simp at this
 | some d=>
  have j:=ut hl;simp only[dW,decide_eq_true_eq]at j;rw[srt_eq h.srt (rR hl) u j.1 j.2]
theorem Qq{f i:Int}(h:∀c∈m.ca,¬(c.f=f/\c.i=i)):uh m f i=none:=by
 unfold uh;rw[ru];intro c u j;simp only[dW,decide_eq_true_eq]at j;exact h c u j
theorem qd(m:Ma)(f i:Int):(∃c,uh m f i=some c/\c∈m.ca/\c.f=f/\c.i=i)\/(uh m f i=none/\∀c∈m.ca,¬(c.f=f/\c.i=i)):=by
 cases hl:uh m f i with
 | none=>
  refine .inr ⟨rfl,λc u j => ?_⟩;have:=ru.1 hl c u;simp only[dW,decide_eq_true_eq]at this;exact this j
 | some d=>
  have h:=ut hl;simp only[dW,decide_eq_true_eq]at h;exact .inl ⟨d,rfl,rR hl,h⟩
theorem qp(m:Ma)(f i:Int):aW m f i=match uh m f i with
  | some c=>(jv m c.k).p
  | none=>dz m f i:=rfl
theorem ic(h:uK m){c:Cc}(j:c∈m.ca):aW m c.f c.i=(aD m c.k.toNat).p:=by
 rw[qp,Rc h j];rfl
theorem gL{f i:Int}(h:∀c∈m.ca,¬(c.f=f/\c.i=i)):aW m f i=dz m f i:=by
 rw[qp,Qq h]
theorem vg(k:Nat):jv m (k:Int)=aD m k:=rfl
theorem Jc{l:List Ar}(h:0<=il l n):onA l n=some (kN (l.getD (il l n).toNat zAr) n)/\oD n (l.getD (il l n).toNat zAr)=true:=by
 induction l with
 | nil=>unfold il idx at h;simp at h
 | cons a r ih=>
  rw[dn]
  by_cases j:oD n a=true
  .have y:il (a::r) n=0:=by unfold il idx;rw[zJ,if_pos j];rfl
   rw[y,if_pos j];exact⟨rfl,j⟩
  have u:il (a::r) n=if 0<=il r n then il r n+1 else -1:=by
   unfold il idx;rw[zJ,if_neg j];cases r.findIdx? (oD n)with
   | none=>rfl
   | some k=>
    simp only[rY];rw[if_pos (by omega)];rfl
  rw[if_neg j]
  by_cases h2:0<=il r n
  .rw[u,if_pos h2];have e:(il r n+1).toNat=(il r n).toNat+1:=by omega
   rw[e];exact ih h2
  rw[u,if_neg h2]at h;omega
def vH(m:Ma)(g:Pg)(e:En):Page × Bool × Int:=
 if e.k=1 then((jv m e.n).p,decide ((jv m e.n).f<0),0)
 else if e.k=2 then(dA m.sw e.n,true,aJ m.sw e.n)
 else if g.fi<0 then(zPg,false,0)
 else if(m.st.fs.length:Int)<=g.fi\/pq m.st g.fi g.pg=true then(zPg,false,9)
 else(aW m g.fi g.pg,false,0)
theorem ji{g:Pg}(h:eT m p n=some g):fP m p n=vH m g (ent m p n):=by
 unfold fP;rw[h];rfl
theorem sN(h:eT m p n=none):fP m p n=(zPg,false,5):=by
 unfold fP;rw[h]
theorem pg_in:∀ {l:List Ar} {u:Int} {n:Int} {g:Pg},srtF u l->onA l n=some g->0<=g.pg/\g.pg<12/\-1<=g.fi/\g.fi<5/\(g.fi<0->g.sh=false/\g.pg=0)/\0<=n/\n<64
 | [],_,_,_,_,h=>by cases h
 | a::r,u,n,g,hs,h=>by
  rw[dn]at h
  by_cases j:oD n a=true
  .rw[if_pos j]at h;have E:=dM.1 j;have h2:=hs.1;unfold aU at h2;split at h2
   .cases h2
   split at h2
   .cases h2
   rename_i D y;cases h;unfold kN;simp only;have A:¬(a.fi<0/\(a.ba≠0\/a.sh=true)):=λh=>y (.inl h);have C:¬(0<=a.fi/\12-(a.en-a.fr)<a.ba):=λh=>y (.inr h);refine⟨?_,?_,by omega,by omega,λz=>⟨?_,if_neg (by omega)⟩,by omega,by omega⟩
   .split<;>omega
   .split<;>omega
   cases hsh:a.sh with
   | false=>rfl
   | true=>exact absurd ⟨z,.inr hsh⟩ A
  rw[if_neg j]at h;exact pg_in hs.2.2 h
theorem Pt.pg(h:Pt m){g:Pg}(j:eT m p n=some g):0<=g.pg/\g.pg<12/\-1<=g.fi/\g.fi<5/\(g.fi<0->g.sh=false/\g.pg=0)/\0<=n/\n<64:=
 pg_in (lI (iZ.1 (h.arN p)).2) j
theorem zV{s:St}(h:aR s=0){f i:Int}(z:0<=f)(u:0<=i)(j:¬((s.fs.length:Int)<=f\/pq s f i=true)):qK s f i:=by
 have A:¬(s.fs.length:Int)<=f:=λh=>j (.inl h);have h2:¬pq s f i=true:=λh=>j (.inr h);have y:=(vN h (f:=f) (by omega)).2.2.1;refine⟨by omega,u,?_⟩;rw[y];unfold pq at h2;simpa using h2
theorem nU{s:St}(h:aR s=0){f i:Int}(j:qK s f i):¬((s.fs.length:Int)<=f\/pq s f i=true):=by
 have z:=(vN h j.1).2.2.1;have y:=j.1;have u:=j.2;rintro(h|h)
 .omega
 unfold pq at h;have:=of_decide_eq_true h;omega
structure mi (s s' : St):Prop where
 len:s'.fs.length=s.fs.length
 size:∀f,(aN s' f).n=(aN s f).n
 lenb:∀f,(aN s' f).b.length=(aN s f).b.length
theorem mi.refl(s:St):mi s s:=⟨rfl,λ_=>rfl,λ_=>rfl⟩
theorem mi.of{s:St}(h:s' = s):mi s s':=by subst h;exact .refl _
theorem Qs{s:St}(h:mi s s')(f i:Int):pq s' f i=pq s f i:=by unfold pq;rw[h.size]
theorem qH{g:Pg}{e:En}(A:aR m.st=0)(C:0<=g.pg)(y:mi m.st m'.st)(D:∀f i,qK m.st f i->aW m' f i=aW m f i)
 (z:e.k=1->(jv m' e.n).p=(jv m e.n).p/\(jv m' e.n).f=(jv m e.n).f) (h2:e.k=2->dA m'.sw e.n=dA m.sw e.n/\aJ m'.sw e.n=aJ m.sw e.n):vH m' g e=vH m g e:=by
 unfold vH
 by_cases k1:e.k=1
 .rw[if_pos k1,if_pos k1,(z k1).1,(z k1).2]
 rw[if_neg k1,if_neg k1]
 by_cases h:e.k=2
 .rw[if_pos h,if_pos h,(h2 h).1,(h2 h).2]
 rw[if_neg h,if_neg h,y.len,Qs y]
 by_cases u:g.fi<0
 .rw[if_pos u,if_pos u]
 rw[if_neg u,if_neg u]
 by_cases j:(m.st.fs.length:Int)<=g.fi\/pq m.st g.fi g.pg=true
 .rw[if_pos j,if_pos j]
 .rw[if_neg j,if_neg j,D _ _ (zV A (by omega) C j)]
theorem FR(h:Pt m)(u:iF m m')(j:mi m.st m'.st)(A:∀f i,qK m.st f i->aW m' f i=aW m f i)
 (z:∀p n g,eT m p n=some g->vH m' g (ent m' p n)=vH m g (ent m p n)):FU m m':=by
 refine⟨u,j.len,j.size,j.lenb,λp n => ?_,A⟩;have y:eT m' p n=eT m p n:=by unfold eT;rw[u.ar]
 cases hg:eT m p n with
 | none=>rw[sN hg,sN (y.trans hg)]
 | some g=>rw[ji hg,ji (y.trans hg)];exact z p n g hg
theorem QP{x:Fr}(h:bR x=0):bR { x with d:=false }=0:=by
 rw[dL]at h ⊢;exact⟨h.1,λj=>⟨(h.2.1 j).1,rfl,(h.2.1 j).2.2.1,(h.2.1 j).2.2.2⟩,h.2.2⟩
theorem SC{x:Int × Page}{b:Int}(j:0<=b)(h:∀q∈d.queue,q.1≠b/\0<=q.1):(jO d x).blocks.getD b.toNat zPg=d.blocks.getD b.toNat zPg:=by
 unfold jO;cases hd:d.queue with
 | nil=>rfl
 | cons q r=>
  simp only;split
  .have:=h q (by rw[hd];exact iM);rw[aY,uw (by omega),aY]
  .rfl
theorem TH{x q:Int × Page}(h:q∈(jO d x).queue):q∈d.queue\/q=x:=by
 unfold jO at h;cases hd:d.queue with
 | nil=>rw[hd]at h;simp at h;exact .inr h
 | cons a r=>
  rw[hd]at h;simp only at h;split at h
  .rcases gH.1 h with h|h
   .exact .inl (jW _ h)
   .exact .inr (bB.1 h)
  rcases gH.1 h with h|h
  .exact .inl h
  .exact .inr (bB.1 h)
def iR(m:Ma)(f:Nat):Ma:=
 let x:=aD m f
 setFr { m with st:=eG m.st x.f x.i,dk:=jO m.dk (eX m.st x.f x.i,x.p) } f { x with d:=false }
theorem Kz{k:Kp}(h:Rt k.m)(z:f<k.m.m.fs.length):lD k f=if(aD k.m f).f<0\/(aD k.m f).d=false\/dJ k.m.st (aD k.m f).f (aD k.m f).i≠0 then k else⟨iR k.m f,k.e⟩:=by
 unfold lD
 by_cases j:(aD k.m f).f<0\/(aD k.m f).d=false\/dJ k.m.st (aD k.m f).f (aD k.m f).i≠0
 .simp only[if_pos j]
 have y:dJ k.m.st (aD k.m f).f (aD k.m f).i=0:=by
  by_cases e:dJ k.m.st (aD k.m f).f (aD k.m f).i=0
  .exact e
  .exact absurd (.inr (.inr e)) j
 have u:=(blocked y).2;have a:aJ k.m.dk (eX k.m.st (aD k.m f).f (aD k.m f).i)=0:=jG.2 ⟨h.pt.dk,u.b0,by rw[h.pt.dkl];exact u.bc⟩;simp only[if_neg j];unfold iR dP;rw[a];simp only[jw,if_true];congr 1;split<;>simp_all
structure Cleaned (m m' : Ma) (f:Nat):Prop where
 rt:Rt m'
 co:Co m'
 vis:FU m m'
 sl:m'.sl=m.sl
 sw:m'.sw=m.sw
 ca:m'.ca=m.ca
 sp:m'.sp=m.sp
 fs:m'.m=(setFr m f { aD m f with d:=false }).m
theorem HZ(h:Rt m)(G:Co m)(R:f<m.m.fs.length)(h0:0<=(aD m f).f)(hb:dJ m.st (aD m f).f (aD m f).i=0):Cleaned m (iR m f) f:=by
 obtain⟨hF,A⟩:=blocked hb;obtain⟨c,v,J⟩:=h.fc f R h0;have l:=h.ca.fr c v;rw[J,bu]at l;have hD:aJ m.dk (eX m.st (aD m f).f (aD m f).i)=0:=jG.2 ⟨h.pt.dk,A.b0,by rw[h.pt.dkl];exact A.bc⟩;have z:eX m.st (aD m f).f (aD m f).i<m.dk.blocks.length:=by rw[h.pt.dkl];exact A.bc
 have M:∀g,aD (iR m f) g=if g=f then{ aD m f with d:=false }else aD m g:=λg=>iB (m:={ m with st:=eG m.st (aD m f).f (aD m f).i,dk:=jO m.dk (eX m.st (aD m f).f (aD m f).i,(aD m f).p) }) (x:={ aD m f with d:=false }) R g;have a:∀g,(aD (iR m f) g).p=(aD m g).p/\(aD (iR m f) g).f=(aD m g).f/\(aD (iR m f) g).i=(aD m g).i/\(aD (iR m f) g).r=(aD m g).r:=by
  intro g;rw[M]
  by_cases e:g=f
  .rw[if_pos e,e];exact⟨rfl,rfl,rfl,rfl⟩
  .rw[if_neg e];exact⟨rfl,rfl,rfl,rfl⟩
 have o:(iR m f).m.fs.length=m.m.fs.length:=bL;have s:mi m.st (iR m f).st:=⟨A.len,A.size,A.lenb⟩;have w:∀p n,ent (iR m f) p n=ent m p n:=λ_ _=>rfl;have U:∀g j,qK m.st g j->¬(g=(aD m f).f/\j=(aD m f).i)->dz (iR m f) g j=dz m g j:=by
  intro g j t W;have I:bN (iR m f).st g j=bN m.st g j:=A.other g j t.2.1 W;unfold dz;rw[I,A.size g |> (λe=>show(aN (iR m f).st g).n=(aN m.st g).n from e)]
  by_cases D:0<=bN m.st g j
  .rw[if_pos D,if_pos D];congr 1;show dA (jO m.dk _) _=_;rw[yA h.pt.dk A.b0 z,if_neg];rintro⟨_,e⟩;simp only at e;rcases A.was with⟨hw,_⟩|⟨_,hn,_⟩
   .exact W (Mi h.pt.st t hF (by omega) (by omega))
   .exact hn (by rw[e];exact vo t)
  .rw[if_neg D,if_neg D]
 have hv:dz (iR m f) (aD m f).f (aD m f).i=(aD m f).p:=by have I:bN (iR m f).st (aD m f).f (aD m f).i=eX m.st (aD m f).f (aD m f).i:=A.at_;have X:=G.tail c v;rw[J,bu,<-l.2.1,<-l.2.2]at X;unfold dz;rw[I,if_pos A.b0,show(aN (iR m f).st (aD m f).f).n=(aN m.st (aD m f).f).n from A.size _];show dw (dA (jO m.dk _) _) _=_;rw[yA h.pt.dk A.b0 z,if_pos ⟨hD,rfl⟩];exact X
 have y:∀g j,qK m.st g j->aW (iR m f) g j=aW m g j:=by
  intro g j t;have hl:uh (iR m f) g j=uh m g j:=rfl;rw[qp,qp,hl];rcases qd m g j with⟨d,C,hdm,_⟩|⟨C,K⟩
  .rw[C];exact(a d.k.toNat).1
  rw[C];exact U g j t λe=>K c v ⟨by rw[e.1];exact l.2.1.symm,by rw[e.2];exact l.2.2.symm⟩
 have hE:Pt (iR m f):=by have C:bV (jO m.dk (eX m.st (aD m f).f (aD m f).i,(aD m f).p))=0:=zA h.pt.dk A.b0 z;exact{ fr:=EX h.pt.fr (QP (h.pt.frE R)),sl:=h.pt.sl,sw:=h.pt.sw,dk:=C,st:=A.right,swl:=h.pt.swl,dkl:=by show((jO m.dk _).blocks.length:Int)=_;rw[xK,h.pt.dkl];exact A.count.symm,spl:=h.pt.spl,ar:=h.pt.ar,tb:=h.pt.tb }
 have hr:uK (iR m f):=⟨λd C=>(h.ca.file d C).same A.len A.lenb,λd C=>by rw[o];exact h.ca.lt d C,λd C=>by have:=a d.k.toNat;rw[this.2.1,this.2.2.1,this.2.2.2];exact h.ca.fr d C,h.ca.srt⟩;refine⟨⟨hE,⟨λb D hG => ?_,λq E => ?_⟩,h.live,hr,λp n hk => ?_,λi F => ?_,λi F V => ?_,h.cs⟩,⟨λd C => ?_,λd C Y => ?_,λi F N => ?_⟩,?_,rfl,rfl,rfl,rfl,rfl⟩
 .have hC : b<m.dk.blocks.length:=by have:((iR m f).dk.blocks.length)=m.dk.blocks.length:=xK _ _;omega
  by_cases H:b∈kJ m.st
  .exact .inl ((A.used b D).2 (.inr H))
  by_cases e:b=eX m.st (aD m f).f (aD m f).i
  .exact .inl ((A.used b D).2 (.inl e))
  refine .inr ?_;show(jO m.dk _).blocks.getD b.toNat zPg=zPg;rw[SC D (λq E=>⟨λe=>H (by rw[<-e];exact h.trim.2 q E),((jL _).1 h.pt.dk).2.2 q E |>.1⟩)];exact(h.trim.1 b D hC).resolve_left H
 .rcases TH E with E|rfl
  .exact(A.used _ (((jL _).1 h.pt.dk).2.2 q E).1).2 (.inr (h.trim.2 q E))
  .exact(A.used _ A.b0).2 (.inl rfl)
 .obtain⟨g,O,u⟩:=h.en p n hk;refine⟨g,O,u.sw,λS=>by rw[o];exact u.lt S,λS => ?_⟩;have Z:=u.fr S;have h2:=a (ent m p n).n.toNat;unfold Oj at Z ⊢;rw[w,h2.2.1,h2.2.2.1,h2.2.2.2];exact Z
 .rw[(a i).2.2.2];exact h.cf i (by rw[<-o];exact F)
 .rw[(a i).2.1]at V;exact h.fc i (by rw[<-o];exact F) V
 .rw[(a d.k.toNat).1,show(aN (iR m f).st d.f).n=(aN m.st d.f).n from A.size _];exact G.tail d C
 .by_cases e:d.k.toNat=f
  .have L:d=c:=h.ca.uniq C v (by have:=h.ca.lt d C;omega);subst L;rw[(a d.k.toNat).1,e];rw[<-l.2.1,<-l.2.2];exact hv.symm
  rw[M,if_neg e]at Y;rw[(a d.k.toNat).1,G.clean d C Y];refine(U d.f d.i (h.ca.file d C) λe2=>e ?_).symm;have L:d=c:=srt_eq h.ca.srt C v (by rw[e2.1];exact l.2.1) (by rw[e2.2];exact l.2.2);rw[L,J];exact bu f
 .rw[(a i).2.1];rw[M]at N
  by_cases e:i=f
  .rw[e];exact h0
  .rw[if_neg e]at N;exact G.anon i (by rw[<-o];exact F) N
 refine FR h.pt (iF.of rfl) s y λp n g O => ?_;rw[w];exact qH h.pt.st (h.pt.pg O).1 s y (λ_=>⟨(a _).1,(a _).2.1⟩) (λ_=>⟨rfl,rfl⟩)
end Go.Proofs.YthihaopabbpalaaGreat