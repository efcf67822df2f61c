import Derived.Test.YtpaeabelhnnbiaaGreatW2
import Derived.BigQuiet
import Derived.BigRegion
import Derived.Deep.DeepCutAuto
import Derived.Deep.Light
import Derived.Deep.LoopGhost
import Derived.Deep.QuietTactic
import Derived.IntWalk
import Derived.Lib.LazyBuf
import Derived.Test.YtpaeabelhnnbiaaGreatRows
import Derived.Lib.Hide
import Derived.Deep.RegionLaw
import Derived.Laws.Externs
import Derived.Laws.IdiomCopy
import Derived.Lib.AppendZerosOnto
import Derived.Lib.Overlaps
import Derived.Lib.SliceRun
set_option linter.unusedSimpArgs false
set_option linter.unusedVariables false
set_option maxHeartbeats 4000000
set_option maxRecDepth 100000
namespace Go.Proofs.YtpaeabelhnnbiaaGreat
open _root_.Go.Proofs.Tryz
open Go.RowKit Go.Maps Pw
variable {B B' B0 b c c' f g i k off p sz:Nat} {P:Program} {Q:Exit → Act → World → Prop} {T T' e t:TypeId} {a a':Option Addr} {cs cs' cur:Array Value} {d:sK} {kd n:Int} {l:List Int} {m m':Ma} {o:Oper} {ops:Array Oper} {rest:List Oper} {u v v':Value} {vs xs:List Value} {w w' w0 w1 w2:World} {x:Operand} {ρ:Operand → Value}
structure PF where
 n:Int
 a:Option Addr
 l:List Int
 c:Nat
def PF.fi (p:PF):Fi:=⟨p.n,p.l⟩
def Le (p:PF):Array Value:=#[.int .i64 p.n,.slice p.a p.l.length p.c]
def xu (p:PF):List Value:=(Le p).toList
theorem nk (p:PF):(xu p).length=2:=rfl
theorem BD (p:PF):(Le p).all (·.oneCell')=true:=by simp[Le,Value.oneCell']
structure PF.good (w:World) (p:PF):Prop where
 le:p.l.length≤p.c
 mx:p.c≤maxLen
 nl:p.a=none→p.c=0
 rd:eB w p.a (p.l.map iI)
theorem PF.good.below {p:PF} (h:p.good w) (hb:Below w.heap.size w w'):p.good w':=⟨h.le,h.mx,h.nl,h.rd.below hb⟩
structure PV (w:World) (a:Option Addr) (c:Nat) (ps:List PF):Prop where
 le:ps.length≤c
 mx:c≤maxLen
 nl:a=none→c=0
 rd:eB w a (ps.flatMap xu)
 good:∀p∈ps,p.good w
theorem PV.below {ps:List PF} (h:PV w a c ps) (hb:Below w.heap.size w w'):PV w' a c ps:=
 ⟨h.le,h.mx,h.nl,h.rd.below hb,fun p hp=>(h.good p hp).below hb⟩
theorem yY {ps:List PF} (h:eB w a (ps.flatMap xu)) (k:Nat) (hk:k<ps.length):∃b off p,a=some ⟨b,off,none⟩∧ps[k]?=some p∧w.cell? ⟨b,off+k*2,none⟩=some (.int .i64 p.n)∧w.cell? ⟨b,off+k*2+1,none⟩=some (.slice p.a p.l.length p.c):=by
 obtain⟨b,off,ha,hc⟩:=h.elem nk (by decide) k hk;exact⟨b,off,ps[k],ha,aN hk,hc 0 _ rfl,hc 1 _ rfl⟩
def bJ (ps:List PF) (k:Int):St:=⟨ps.map PF.fi,k⟩
def PU (a:Option Addr) (n c:Nat) (k:Int):Array Value:=#[.slice a n c,.int .i64 k]
theorem file_size:(Tryz.prog.info? 98).map (·.size)=some 2:=by kernel_rfl
theorem store_size:(Tryz.prog.info? 40).map (·.size)=some 2:=by kernel_rfl
theorem CV (c:Int) (seen:List Int) (p:PF) (r:List Fi):rP c seen (p.fi::r)=if p.n<0∨96<p.n then 3 else if (p.l.length:Int)≠gu p.n then 2 else if kD c seen p.l≠0 then kD c seen p.l else rP c (seen++p.l) r:=rfl
theorem xN (ps:List PF) (k:Int) (a:Option Addr) (c:Nat) (w:World) (h:PV w a c ps) (hk64 : -9223372036854775808≤k∧k≤9223372036854775807) :
  Calls Tryz.prog 71 #[.agg (PU a ps.length c k)] w fun r w'=>r = .returned (.int .i64 (aO (bJ ps k)))∧Below w.heap.size w w':=by
 have kg:=@run_makeMap Tryz.prog;have kh:=aV h.le h.mx;unfold maxLen at kh;unfold PU;go_enter func71,ntmps71;go_upto_region 1 with (fail);refine jl (fun W=>Code.wp _ _ _ _ W) fun W0 hV hu kd => ?_;clear kd
 by_cases h4:5<ps.length∨k<0∨80<k
 ·have d:Hid (aO (bJ ps k)=4):=ae (by unfold aO bJ;rw[if_pos (by simpa using h4)]);have hl:=hu.cell;have kl : 5<ps.length∨(¬5<ps.length∧k<0)∨(¬5<ps.length∧¬k<0∧80<k):=by omega
  clear h4;rcases kl with g|⟨g,g2⟩|⟨g,g2,g3⟩
  all_goals
   go_wp2;go_ret;exact⟨bi d.out.symm,hV⟩
 have s:Hid (aO (bJ ps k)=rP k (((ps.take 0).map PF.fi).flatMap Fi.b) ((ps.drop 0).map PF.fi)):=ae (by unfold aO bJ;rw[if_neg (by simpa using h4)];rfl);have g1:¬5<ps.length:=by omega
 have g2:¬k<0:=by omega
 have g3:¬80<k:=by omega
 have hl:=hu.cell;clear h4;go_upto_region 4 with (fail);clear hl kg;refine Xh (fun W=>Code.wp _ _ _ _ W) fun W1 hU hW => ?_;have hE:=ah hV hU;have hP:=hu.ext hU;have ki:w.heap.size<W0.heap.size:=hu.lt;obtain⟨gm,ka⟩:∃g,g=W0.heap.size:=⟨_,rfl⟩;rw[←ka] at hW ki ⊢;clear ka hV hu hU;have hN : mU W1 gm 0 (qX (((ps.take 0).map PF.fi).flatMap Fi.b)):=hW;have hl:=hP.cell;go_upto_region 5 with (fail);clear hl hW
 go_loopw [26] (fun i wr => ∃(q n:Nat),q≤ps.length∧i = .int .i64 q∧n≤12*q∧Below w.heap.size w wr∧aJ wr w.heap.size #[.slice a ps.length c,.int .i64 k] 40∧mU wr gm n (qX (((ps.take q).map PF.fi).flatMap Fi.b))∧Hid (aO (bJ ps k)=rP k (((ps.take q).map PF.fi).flatMap Fi.b) ((ps.drop q).map PF.fi))) (fun i _=>ps.length-(intOf i).toNat)
 case atStart=>exact⟨0,0,bB _,rfl,az _,hE,hP,hN,s⟩
 case round=>
  clear hE hP hN s;obtain⟨q,n,hq,rfl,hn,o,hx,hM,s⟩:=hrel
  by_cases hlt:q<ps.length
  ·obtain⟨b,off,p,rfl,hp,c0,c1⟩:=yY (h.below o).rd q hlt;have hA:=(h.good p (dm hp)).below o;have hC:=drop_at hp;have hy:=take_at hp;rw[hC,bF] at s;have hI:=ae hy;clear hC hy;generalize hseen:((ps.take q).map PF.fi).flatMap Fi.b=seen at hM s;have hs:=ae hseen;clear hseen hp
   go_wp2_with (refine aT rfl _ _ _ rfl (Le p) rfl rfl rfl file_size (BD _) ?_)
   intro w2 hF hi;have hf:=ah o hF;have h1:=hx.ext hF;have h8:=hM.below hF;have ht:=hA.below hF;clear o hx hM hA hF c0 c1;have hS:=hi.cell;have f0:(Le p)[0]?=some (.int .i64 p.n):=rfl;have f1:(Le p)[1]?=some (.slice p.a p.l.length p.c):=rfl
   by_cases hn96:p.n<0∨96<p.n
   ·have d:Hid (aO (bJ ps k)=3):=ae (by rw[s.out,CV,if_pos hn96]);have ke : p.n<0∨(¬p.n<0∧96<p.n):=by omega
    clear hn96;rcases ke with g|⟨g,g2⟩
    all_goals
     go_wp2;go_ret;exact⟨bi d.out.symm,hf⟩
   have ha:Hid (aO (bJ ps k)=if (p.l.length:Int)≠gu p.n then 2 else if kD k seen p.l≠0 then kD k seen p.l else rP k (seen++p.l) ((ps.drop (q+1)).map PF.fi)):=ae (by rw[s.out,CV,if_neg hn96]);have g4:¬p.n<0:=by omega
   have g5:¬96<p.n:=by omega
   clear hn96 s
   by_cases hcnt:(p.l.length:Int)=gu p.n
   ·have z:Hid (aO (bJ ps k)=if kD k seen p.l≠0 then kD k seen p.l else rP k (seen++p.l) ((ps.drop (q+1)).map PF.fi)):=ae (by rw[ha.out,if_neg (fun hh=>hh hcnt)]);have km:p.l.length≤12:=by have:=zG (n:=p.n) (by omega);omega
    have hT:=ae hcnt;clear ha hcnt;go_upto_region 9 with (fail);refine aP 7 [_,_,_,_,_,.v (.int .i64 (gu p.n)),_] (Gf wr.heap.size 1 rfl rfl (Gl hi (V:=.slice p.a p.l.length p.c) (by simp[f1,underlying32]) rfl rfl rfl rfl (Gn rfl rfl rfl rfl (Gf wr.heap.size 0 rfl rfl (Gl hi (V:=.int .i64 p.n) (by simp[f0]) rfl rfl rfl rfl (aj ?_ (Gb (.bool false) (by simp[go_sem,hT.out]) rfl rfl rfl rfl rfl (aF))))) (underlying32)))) (fun _=>rfl) rfl ?_
    ·intro ρ y W hw hn hb hd;have hZ:=hw 42 4 rfl;have h4:y 4=_:=hd 4 rfl;have EF:∀f,ρ (.func f) = .func (.func f) #[] #[]:=fun f=>hn (.func f) trivial;refine aK _ _ (ag rfl) (aQ rfl (EF _) func122 (by kernel_rfl) (by kernel_rfl) (by simp only[bT,bF,bI,hZ,h4,EF];rfl)) ?_;refine (zC p.n W (by omega)).mono ?_;rintro e w1 ⟨rfl,rfl⟩;exact⟨_,rfl,Below.refl _ _,rfl⟩
    intro y WA u _;have hD:=ah hf u;have h0:=h1.ext u;have h6:=h8.below u;have h5:=hi.ext u;have hH:=ht.below u;clear hf h1 h8 hi ht u hS;have hS:=h5.cell;have kc:Hid (kD k seen p.l=kD k (seen++p.l.take 0) (p.l.drop 0)):=ae (by simp);have h9:mU WA gm n (qX (seen++p.l.take 0)):=by simpa using h6
    have kn:=hH.le;have kf:=hH.mx;have hK:=hH.rd;unfold maxLen at kf;clear h6 hH;go_upto_region 12 with (fail);clear hS f0 f1 h5
    go_loopw [48] (fun i wr => ∃(j m:Nat),j≤p.l.length∧i = .int .i64 j∧m≤n+j∧Below w.heap.size w wr∧aJ wr w.heap.size #[.slice (some ⟨b,off,none⟩) ps.length c,.int .i64 k] 40∧mU wr gm m (qX (seen++p.l.take j))∧eB wr p.a (p.l.map iI)∧Hid (kD k seen p.l=kD k (seen++p.l.take j) (p.l.drop j))) (fun i _=>p.l.length-(intOf i).toNat)
    case atStart=>exact⟨0,n,bB _,rfl,az _,hD,h0,h9,hK,kc⟩
    case round=>
     clear hD h0 h9 hK kc;obtain⟨j,m,hj,rfl,hm,o,hx,hM,hQ,hB⟩:=hrel
     by_cases hjl:j<p.l.length
     ·obtain⟨x,hX⟩:∃x,p.l[j]?=some x:=⟨p.l[j],aN hjl⟩;obtain⟨b2,off2,hR,hc⟩:=lm hQ j hjl;rw[show p.l[j]=x from (dx.1 hX).2] at hc;have hC:=drop_at hX;have hy:=take_at hX;rw[hC,xK] at hB;rw[hR];generalize hs2:seen++p.l.take j=seen2 at hB hM;have hv:Hid (seen++p.l.take (j+1)=seen2++[x]):=ae (by rw[hy,←mQ,hs2]);have hJ:=ae hQ;have hL:=ae hR;have hl:=hx.cell;clear hX hC hy hs2 hQ hR;have h3 : (j:Int)<(p.l.length:Int):=by omega
      by_cases hr3:x < -1∨k≤x
      ·have d:Hid (aO (bJ ps k)=3):=ae (by rw[z.out,hB.out,if_pos hr3];rfl);have h2 : x < -1∨(¬x < -1∧k≤x):=by omega
       clear hr3;rcases h2 with g6|⟨g6,g7⟩
       all_goals
        go_wp2;go_ret;exact⟨bi d.out.symm,o⟩
      have g6:¬x < -1:=by omega
      have g7:¬k≤x:=by omega
      have hY:Hid (kD k seen p.l=if 0≤x∧x∈seen2 then 7 else kD k (seen2++[x]) (p.l.drop (j+1))):=ae (by rw[hB.out,if_neg hr3]);clear hB hr3;have hg:=hM.look x (by omega)
      by_cases h7:0≤x∧x∈seen2
      ·have d:Hid (aO (bJ ps k)=7):=ae (by rw[z.out,hY.out,if_pos h7];rfl);rw[show qX seen2 x=true from decide_eq_true h7.2] at hg;have g8:0≤x:=h7.1;clear h7;go_wp2;go_ret;exact⟨bi d.out.symm,o⟩
      have kb:Hid (kD k seen p.l=kD k (seen++p.l.take (j+1)) (p.l.drop (j+1))):=ae (by rw[hY.out,if_neg h7,hv.out]);have kk : ¬0≤x∨(0≤x∧qX seen2 x=false):=by
       by_cases g8:0≤x
       ·exact .inr ⟨g8,decide_eq_false fun hh=>h7 ⟨g8,hh⟩⟩
       ·exact .inl g8
      clear h7 hY;rcases kk with g8|⟨g8,g9⟩
      ·clear hg
       go_wp2_with (refine vY hM (by omega) rfl _ _ _ rfl rfl x rfl rfl (by omega) ?_)
       intro w6 hG t;rw[DY,←hv.out] at hG;have hr:=o.grown t o.size (fun k hk=>by cases hk;omega);have hO:=hx.grown t (fun e=>by have:=aS e;omega);have hz:=hM.rdv hJ.out t;clear o hx hM t hl hc;go_wp2;go_roundw
       case rel=>exact⟨j+1,m+1,by omega,by go_num,by omega,hr,hO,hG,(by rw[←hL.out];exact hz),kb⟩
       case measure=>simp[intOf];omega
      rw[g9] at hg
      go_wp2_with (refine vY hM (by omega) rfl _ _ _ rfl rfl x rfl rfl (by omega) ?_)
      intro w6 hG t;rw[DY,←hv.out] at hG;have hr:=o.grown t o.size (fun k hk=>by cases hk;omega);have hO:=hx.grown t (fun e=>by have:=aS e;omega);have hz:=hM.rdv hJ.out t;clear o hx hM t hl hc;go_wp2;go_roundw
      case rel=>exact⟨j+1,m+1,by omega,by go_num,by omega,hr,hO,hG,(by rw[←hL.out];exact hz),kb⟩
      case measure=>simp[intOf];omega
     have d:Hid (aO (bJ ps k)=rP k (((ps.take (q+1)).map PF.fi).flatMap Fi.b) ((ps.drop (q+1)).map PF.fi)):=ae (by
      have e0:kD k seen p.l=0:=by rw[hB.out,uF (by omega)];rfl
      rw[z.out,if_neg (fun hh=>hh e0),hI.out,gX,gK,hs.out];simp[PF.fi])
     have kj:mU wr gm m (qX (((ps.take (q+1)).map PF.fi).flatMap Fi.b)):=by rw[ou (by omega)] at hM;rw[hI.out,gX,gK,hs.out];simpa[PF.fi] using hM
     have h3 : ¬(j:Int)<(p.l.length:Int):=by omega
     clear hM hB z;go_wp2;go_roundw
     case rel=>exact⟨q+1,m,by omega,by go_num,by omega,o,hx,kj,d⟩
     case measure=>simp[intOf];omega
   have d:Hid (aO (bJ ps k)=2):=ae (by rw[ha.out,if_pos hcnt]);have hT:((p.l.length:Int) != gu p.n)=true:=by rw[bne_iff_ne];exact hcnt
   clear ha hcnt;go_upto_region 9 with (fail);refine aP 7 [_,_,_,_,_,.v (.int .i64 (gu p.n)),_] (Gf wr.heap.size 1 rfl rfl (Gl hi (V:=.slice p.a p.l.length p.c) (by simp[f1,underlying32]) rfl rfl rfl rfl (Gn rfl rfl rfl rfl (Gf wr.heap.size 0 rfl rfl (Gl hi (V:=.int .i64 p.n) (by simp[f0]) rfl rfl rfl rfl (aj ?_ (Gb (.bool true) (by simp[go_sem,hT]) rfl rfl rfl rfl rfl (aF))))) (underlying32)))) (fun _=>rfl) rfl ?_
   ·intro ρ y W hw hn hb hd;have hZ:=hw 42 4 rfl;have h4:y 4=_:=hd 4 rfl;have EF:∀f,ρ (.func f) = .func (.func f) #[] #[]:=fun f=>hn (.func f) trivial;refine aK _ _ (ag rfl) (aQ rfl (EF _) func122 (by kernel_rfl) (by kernel_rfl) (by simp only[bT,bF,bI,hZ,h4,EF];rfl)) ?_;refine (zC p.n W (by omega)).mono ?_;rintro e w1 ⟨rfl,rfl⟩;exact⟨_,rfl,Below.refl _ _,rfl⟩
   intro y WA u _;go_wp2;go_ret;exact⟨bi d.out.symm,ah hf u⟩
  have d:Hid (aO (bJ ps k)=0):=ae (by rw[s.out,uF (by omega)];rfl);go_wp2;go_ret;exact⟨bi d.out.symm,o⟩
theorem KC (l:List Int) (a:Option Addr) (c:Nat) (w:World) (hle:l.length≤c) (hnil:a=none→c=0) (hrd:eB w a (l.map iI)) (hb:l.length*8≤140737488355328) :
  Calls Tryz.prog 103 #[.slice a l.length c] w fun e w' => ∃v,e = .returned v∧Own w' w.heap.size 3 1 v l.length (l.map iI)∧Below w.heap.size w w':=by
 cases a with
 | none=>
  have h0:=hnil rfl;have hl:l=[]:=jX (by omega);subst hl;subst h0;have hq:=fun W=>lI (P:=Tryz.prog) W 32 _ none 0 0 0 0 underlying32;go_enter func103,ntmps103;go_wp2;go_ret;exact⟨_,rfl,by simpa using Own.nil _ _ _ _,Below.refl _ _⟩
 | some ad=>
  have hq:=fun W=>lI (P:=Tryz.prog) W 32 _ (some ad) l.length c 0 0 underlying32;go_enter func103,ntmps103
  go_wp2_with (at_builtin;go_must (refine eH rfl _ _ 32 rfl w.heap.size 3 (.int .i64 0) 1 8 underlying32 int_info rfl (by decide) _ 0 [] rfl ?own (some ad) l.length c (l.map iI) rfl (fun h=>(by cases h)) hle (Iu l) ?rd (IU l) (by unfold maxLen;omega) (by simpa using hb) ?bb ?k))
  case own=>exact⟨rfl,.inr ⟨w.heap.size,0,0,#[],rfl,az _,aJ.new _ _ _,az _,bB _,by simp,fun j u h=>by simp at h⟩⟩
  case rd=>exact hrd.below ((Below.refl _ _).alloc (az _) _)
  case bb=>exact dV _ _
  intro v w1 b d;go_wp2;go_ret;exact⟨v,rfl,by simpa using b,((Below.refl _ _).alloc (az _) _).grown d (dV _ _) (fun k hk=>by cases hk;exact az _)⟩
theorem file_info:(Tryz.prog.info? 98).map (fun i=>(i.zero,i.size,i.bytes))=some (some (.agg #[.int .i64 0,.slice none 0 0]),2,32):=by kernel_rfl
theorem NA (p:PF):∀u∈xu p,u.oneCell' = true:=by
 intro u hu;have:=BD p;rw[←iA,cK] at this;exact this u hu
def zZ (p:PF):Value:=.slice p.a p.l.length p.c
structure oz (w:World) (B:Nat) (v:Value) (ps:List PF):Prop where
 own:Own w B 98 2 v ps.length (ps.flatMap xu)
 each:∀(i:Nat) p,ps[i]?=some p→Own w B 3 1 (zZ p) p.l.length (p.l.map iI)
 apart:∀(i j:Nat) p q,i<j→ps[i]?=some p→ps[j]?=some q→Apart (zZ p) (zZ q)
theorem oz.rd {ps:List PF} (h:oz w B v ps):∃a c,v = .slice a ps.length c∧PV w a c ps:=by
 obtain⟨a,c,rfl,h1,h2,h3,h4⟩:=h.own.rd;refine⟨a,c,rfl,h1,h2,h3,h4,fun p hp => ?_⟩;obtain⟨i,hi,rfl⟩:=jC.1 hp;obtain⟨a',c',e,k1,k2,k3,k4⟩:=(h.each i _ (aN hi)).rd;unfold zZ at e;simp only[lH] at e;obtain⟨rfl,_,rfl⟩:=e;exact⟨k1,k2,k3,k4⟩
theorem oz.below {ps:List PF} (h:oz w B v ps) (hb:Below w.heap.size w w'):oz w' B v ps:=
 ⟨h.own.below hb,fun i p hp=>(h.each i p hp).below hb,h.apart⟩
theorem oz.mono {ps:List PF} (h:oz w B v ps) (hB:B'≤B):oz w B' v ps:=
 ⟨h.own.mono hB,fun i p hp=>(h.each i p hp).mono hB,h.apart⟩
theorem oz.keep {ps:List PF} (h:oz w B v ps) (hk:aJ w g cs T) (h1:T≠98) (h2:T≠3) (hgr:w.grownBy w' (some g)):oz w' B v ps:=
 ⟨ay h.own hk h1 hgr,fun i p hp=>ay (h.each i p hp) hk h2 hgr,h.apart⟩
theorem oz.nil (w:World) (B:Nat):oz w B (.slice none 0 0) []:=⟨Own.nil _ _ _ _,fun i p h=>by simp at h,fun i j p q _ h=>by simp at h⟩
def Vr (ps:List PF):Prop:=ps.length*32≤140737488355328∧∀p∈ps,p.l.length*8≤140737488355328
theorem oz.app {ps:List PF} (h:oz w B v ps) {p:PF} (ho:Own w' B 98 2 v' (ps.length+1) (ps.flatMap xu++xu p)) (hp:Own w B 3 1 (zZ p) p.l.length (p.l.map iI)) (hgr:w.grownBy w' v.ownBlock)
 (ha:∀(i:Nat) q,ps[i]?=some q→Apart (zZ q) (zZ p)):oz w' B v' (ps++[p]) where
 own:=by rw[iK,gK];simpa using ho
 each:=fun i q hq=>by
  by_cases hi:i<ps.length
  ·rw[il hi] at hq;exact yA (h.each i q hq) h.own (by decide) hgr
  rw[iN (by omega)] at hq;have c:i-ps.length=0:=by
   rcases wY (i-ps.length) with e|e
   ·exact e
   ·rw[fo (by simp;omega)] at hq;cases hq
  rw[c] at hq;cases hq;exact yA hp h.own (by decide) hgr
 apart:=fun i j q r b hq hr=>by
  have hi:i<ps.length:=by have:=(dx.1 hr).1;simp at this;omega
  rw[il hi] at hq
  by_cases hj:j<ps.length
  ·rw[il hj] at hr;exact h.apart i j q r b hq hr
  rw[iN (by omega)] at hr;have a:j-ps.length=0:=by
   rcases wY (j-ps.length) with e|e
   ·exact e
   ·rw[fo (by simp;omega)] at hr;cases hr
  rw[a] at hr;cases hr;exact ha i q hq
theorem slfile_size:(Tryz.prog.info? 38).map (·.size)=some 1:=by kernel_rfl
theorem mE (a:Option Addr) (n c:Nat) (k:Int):(#[Value.slice a n c,Value.int .i64 k]:Array Value).all (·.oneCell')=true:=by simp[Value.oneCell']
def Vk (B:Nat) (n:Int) (l:List Int):nG:=⟨fun v w => ∃u,v = .agg #[.int .i64 n,u]∧Own w B 3 1 u l.length (l.map iI),fun _ _ _ hb ⟨u,h1,h2⟩=>⟨u,h1,h2.below hb⟩⟩
def Wy (B:Nat) (n:Int) (l:List Int):nG:=⟨fun v w => ∃g p,v = .slice (some ⟨g,0,none⟩) 1 1∧p.n=n∧p.l=l∧eB w (some ⟨g,0,none⟩) (xu p)∧Own w B 3 1 (zZ p) p.l.length (p.l.map iI),by
 rintro v w w' hb ⟨g,p,h1,h2,h3,h4,h5⟩;exact⟨g,p,h1,h2,h3,h4.below hb,h5.below hb⟩⟩
theorem Ct (ps:List PF) (k:Int) (a:Option Addr) (c:Nat) (w:World) (h:PV w a c ps) (hz:Vr ps) :
  Calls Tryz.prog 60 #[.agg (PU a ps.length c k)] w fun r w' => ∃v ps',r = .returned (.agg #[v,.int .i64 k])∧oz w' w.heap.size v ps'∧ps'.map PF.fi=ps.map PF.fi∧Below w.heap.size w w':=by
 have kq:=aV h.le h.mx;unfold maxLen at kq;unfold PU;go_enter func60,ntmps60;go_upto_region 1 with (fail);refine vg (fun W=>Code.wp _ _ _ _ W) fun W0 kh hE hH km => ?_;clear km;have hO:=hE.cell;go_upto_region 2 with (refine aT rfl _ _ _ rfl #[.slice none 0 0,.int .i64 k] rfl rfl rfl store_size (mE none 0 0 k) ?_);clear hO;intro W1 hf hL;have hm:=ah kh hf;have hW:=hE.ext hf;have h9:=hH.ext hf;have ks:w.heap.size+1<W0.heap.size:=hH.lt;obtain⟨go,kj⟩:∃g,g=W0.heap.size:=⟨_,rfl⟩;rw[←kj] at hL ks ⊢;clear kj kh hE hH hf;have hO:=hW.cell;go_upto_region 3 with (fail);clear hO
 go_loopw [12] (fun i wr => ∃(q:Nat) (v:Value) (qs:List PF),q≤ps.length∧i = .int .i64 q∧Below w.heap.size w wr∧aJ wr (w.heap.size+1) #[.slice none 0 0,.int .i64 0] 40∧aJ wr go #[v,.int .i64 k] 40∧oz wr w.heap.size v qs∧qs.map PF.fi=(ps.take q).map PF.fi) (fun i _=>ps.length-(intOf i).toNat)
 case atStart=>exact⟨0,_,[],bB _,rfl,hm,h9,hL,oz.nil _ _,rfl⟩
 case round=>
  clear hm hW h9 hL;obtain⟨q,v,qs,hq,rfl,hl,hr,ho,hF,hB⟩:=hrel;have hI:=ae hB;clear hB
  by_cases hlt:q<ps.length
  ·obtain⟨b,off,p,rfl,hp,c0,c1⟩:=yY (h.below hl).rd q hlt;have hM:=h.good p (dm hp);have kn:=hz.2 p (dm hp);have hX:=take_at hp;have kb:Hid (qs.map PF.fi++[p.fi]=(ps.take (q+1)).map PF.fi):=ae (by rw[hX,gX,hI.out];rfl);have kH:qs.length≤q:=by have:=congrArg List.length hI.out;simp[qN hq] at this;omega
   clear hp hX
   go_wp2_with (refine aT rfl _ _ _ rfl (Le p) rfl rfl rfl file_size (BD _) ?_)
   intro w2 hs hN;have m:=ah hl hs;have h8:=hr.ext hs;have hK:=ho.ext hs;have hv:=hF.below hs;have kE:go<wr.heap.size:=ho.lt;clear hl hr ho hF hs c0 c1;obtain⟨av,cv,rfl,ki⟩:=hv.rd;have kI:=ki.le;have kp:=ki.mx;unfold maxLen at kp;have kD:=hz.1;have kt:=hM.below m;go_upto_region 5 with (fail);refine vR 9 10 [] [gI (.pointer (some ⟨go,0,none⟩)),gI (.slice av qs.length cv),gI (.pointer (some ⟨wr.heap.size,0,none⟩)),gI (.int .i64 p.n),gI (.pointer (some ⟨wr.heap.size,1,none⟩)),gI (.slice p.a p.l.length p.c),(iw w2.heap.size 3 1 p.l.length (p.l.map iI)),(Vk w2.heap.size p.n p.l),(Wy w2.heap.size p.n p.l)] (by kernel_rfl) (by kernel_rfl) (by kernel_rfl) (by kernel_rfl) (by kernel_rfl) (by kernel_rfl) (by decide) (by decide) _ rfl (by kernel_rfl) (aj ?_ (aj ?_ (aj ?_ (aj ?_ (aj ?_ (aj ?_ (aj ?_ (aj ?_ (aj ?_ (aF)))))))))) (aF) rfl ?_
   ·refine aB rfl ?_;intro ρ y W hw hn hb hd;have E3:ρ (.tmp 3) = .pointer (some ⟨go,0,none⟩):=(hn (.tmp 3) rfl).trans rfl;refine ak (.pointer (some ⟨go,0,none⟩)) (ag rfl) (by simp[execOp,go_sem,E3]) rfl
   ·refine aB rfl ?_;intro ρ y W hw hn hb hd;have kC:=hw 16 0 rfl;have h0:y 0 = .pointer (some ⟨go,0,none⟩):=hd 0 rfl;refine ak (.slice av qs.length cv) (ag rfl) (by simp[execOp,go_sem,kC,h0,(hK.ext hb).cell,underlying38]) rfl
   ·refine aB rfl ?_;intro ρ y W hw hn hb hd;have E5:ρ (.tmp 5) = .pointer (some ⟨wr.heap.size,0,none⟩):=(hn (.tmp 5) rfl).trans rfl;refine ak (.pointer (some ⟨wr.heap.size,0,none⟩)) (ag rfl) (by simp[execOp,go_sem,E5]) rfl
   ·refine aB rfl ?_;intro ρ y W hw hn hb hd;have kB:=hw 18 2 rfl;have h2:y 2 = .pointer (some ⟨wr.heap.size,0,none⟩):=hd 2 rfl;refine ak (.int .i64 p.n) (ag rfl) (by simp[execOp,go_sem,kB,h2,(hN.ext hb).cell,Le]) rfl
   ·refine aB rfl ?_;intro ρ y W hw hn hb hd;have E5:ρ (.tmp 5) = .pointer (some ⟨wr.heap.size,0,none⟩):=(hn (.tmp 5) rfl).trans rfl;refine ak (.pointer (some ⟨wr.heap.size,1,none⟩)) (ag rfl) (by simp[execOp,go_sem,E5]) rfl
   ·refine aB rfl ?_;intro ρ y W hw hn hb hd;have kz:=hw 20 4 rfl;have h4:y 4 = .pointer (some ⟨wr.heap.size,1,none⟩):=hd 4 rfl;refine ak (.slice p.a p.l.length p.c) (ag rfl) (by simp[execOp,go_sem,kz,h4,(hN.ext hb).cell,Le]) rfl
   ·refine aB rfl ?_;intro ρ y W hw hn hb hd;have ky:=hw 21 5 rfl;have h5:y 5 = .slice p.a p.l.length p.c:=hd 5 rfl;have EF:∀f,ρ (.func f) = .func (.func f) #[] #[]:=fun f=>hn (.func f) trivial;refine aK _ _ (ag rfl) (aQ rfl (EF _) func103 (by kernel_rfl) (by kernel_rfl) (by simp only[bT,bF,bI,ky,h5,EF];rfl)) ?_;refine (KC p.l p.a p.c W hM.le hM.nl (kt.below hb).rd kn).mono ?_;rintro e w1 ⟨u,rfl,ho,hf⟩;exact⟨u,rfl,hf,ho.mono hb.size⟩
   ·refine aB rfl ?_;intro ρ y W hw hn hb hd;have kA:=hw 19 3 rfl;have h3:y 3 = .int .i64 p.n:=hd 3 rfl;have kx:=hw 22 6 rfl;have h6:((iw w2.heap.size 3 1 p.l.length (p.l.map iI))).r (y 6) W:=hd 6 rfl;obtain⟨x6,c6,e6,_⟩:=Own.rd h6;refine ak (.agg #[.int .i64 p.n,y 6]) (ag rfl) (by simp[execOp,go_sem,kA,h3,kx,e6]) ?_;exact⟨_,rfl,h6⟩
   ·refine aB rfl ?_;intro ρ y W hw hn hb hd;have kw:=hw 23 7 rfl;have h7:((Vk w2.heap.size p.n p.l)).r (y 7) W:=hd 7 rfl;obtain⟨u,e7,kd⟩:=h7;obtain⟨x7,c7,rfl,_⟩:=Own.rd kd;refine gz (.slice (some ⟨W.heap.size,0,none⟩) 1 1) (ag rfl) (by simp[execOp,go_sem,kw,e7,Le]) ((Below.refl _ _).alloc (az _) (.cells (Le ⟨p.n,x7,p.l,c7⟩) 98)) ?_;exact⟨_,⟨p.n,x7,p.l,c7⟩,rfl,rfl,rfl,eB.new _ _ _,kd.alloc _⟩
   intro ρ y WA o ho hw hn hV s d;cases ho;have hU:y 0 = .pointer (some ⟨go,0,none⟩):=d 0 (by decide);have hD:y 1 = .slice av qs.length cv:=d 1 (by decide);have hT:y 2 = .pointer (some ⟨wr.heap.size,0,none⟩):=d 2 (by decide);have hS:y 3 = .int .i64 p.n:=d 3 (by decide);have hR:y 4 = .pointer (some ⟨wr.heap.size,1,none⟩):=d 4 (by decide);have hQ:y 5 = .slice p.a p.l.length p.c:=d 5 (by decide);have kG:((iw w2.heap.size 3 1 p.l.length (p.l.map iI))).r (y 6) WA:=d 6 (by decide);have kF:((Vk w2.heap.size p.n p.l)).r (y 7) WA:=d 7 (by decide);have kl:((Wy w2.heap.size p.n p.l)).r (y 8) WA:=d 8 (by decide);have kk:=hw 17 1 rfl;rw[hD] at kk;have kv:=hw 24 8 rfl;have EC:∀v,ρ (.const v)=v:=fun v=>hn (.const v) trivial;have EF:∀f,ρ (.func f) = .func (.func f) #[] #[]:=fun f=>hn (.func f) trivial;obtain⟨g8,p8,e8,ko,kr,hA,hj⟩:=kl;refine Nb (ag rfl) (FP (.tmp 17) (.tmp 24) 38 rfl w.heap.size 98 _ 2 32 underlying38 file_info rfl (by decide) _ _ _ kk (hv.own.below s) _ 1 1 (xu p8) (kv.trans e8) (fun e=>by cases e) (az _) rfl hA (NA _) (by unfold maxLen;omega) (by omega) (aV m.size s.size)) ?_;rintro v2 w4 ⟨hh,t,hx⟩;clear d hw hn hV;simp only[lay,Nat.reduceAdd,Nat.reduceLT,Nat.reduceEqDiff,reduceIte,decide_true,decide_false,if_true,pq,if_false,rR,sj,rW,qY,rE,rH,hU,hD,hT,hS,hR,hQ];clear hU hD hT hS hR hQ;have x:=ah m s;have hY:=h8.ext s;have kc:=hK.ext s;have ht:=hv.below s;have hC:∀(i:Nat) r,qs[i]?=some r→Apart (zZ r) (zZ p8):=by intro i r hi g hg ku;have h1:=Uf (hv.each i r hi) g hg;have h2:=hj.ge g ku;omega
   have hc : Own w4 w.heap.size 98 2 v2 (qs.length+1) (qs.flatMap xu++xu p8):=hh;have hy:=ht.app hc (hj.mono m.size) t hC;have hZ:=oC hY ht.own (by decide) t;have hJ:=oC kc ht.own (by decide) t;have ha:Below w.heap.size w w4:=x.grown t x.size (fun k hk=>ht.own.ge k hk);have ka:Hid ((qs++[p8]).map PF.fi=(ps.take (q+1)).map PF.fi):=ae (by rw[gX,←kb.out];congr 1;simp[PF.fi,ko,kr]);obtain⟨a4,c4,rfl,_⟩:=hy.rd;rw[iK,Bt] at hy ⊢;clear m h8 hK hv s x hY kc ht hh hc t hC hj hA hN hx
   go_wp2_with (refine bz rfl _ _ _ rfl go 0 _ [.slice a4 (qs.length+1) c4] rfl rfl rfl _ _ hJ (show 0+1≤2 by decide) slfile_size (fun u hu=>by cases bN.1 hu;rfl) ?_)
   intro w5 kf j;have hG:aJ w5 (w.heap.size+1) _ _:=hZ.grown j (fun e=>by have:=aS e;omega);have hP:=hy.keep hJ (by decide) (by decide) j;have z:=ha.grown j ha.size (fun k hk=>by cases hk;omega);have ke : aJ w5 go #[.slice a4 (qs.length+1) c4,.int .i64 k] 40:=kf;clear hJ hZ hy ha j kf;go_wp2;go_roundw
   case rel=>exact⟨q+1,_,_,by omega,by go_num,z,hG,ke,hP,ka.out⟩
   case measure=>simp[intOf];omega
  obtain rfl:q=ps.length:=by omega
  have kg:Hid (qs.map PF.fi=ps.map PF.fi):=ae (by rw[hI.out,wF]);obtain⟨av,cv,rfl,_⟩:=hF.rd;have kJ:=ho.cell
  go_wp2_with (refine ax rfl _ _ _ rfl (w.heap.size+1) #[.slice av qs.length cv,.int .i64 k] rfl rfl _ _ hr rfl store_size (mE _ _ _ _) ?_)
  intro w5 hG j;have hP:=hF.keep hr (by decide) (by decide) j;have z:=hl.grown j hl.size (fun k hk=>by cases hk;omega);go_wp2;refine bodyPost_ret (v:=.agg #[.slice av qs.length cv,.int .i64 k]) (aY results60 _ _ (w.heap.size+1) _ _ _ rfl hG underlying40 rfl store_size) rfl ?_;exact⟨_,_,rfl,hP,kg.out,z⟩
theorem Sy (n:Int) (w:World):Calls Tryz.prog 43 #[.int .i64 n] w fun r w'=>r = .returned (.tuple #[.agg #[.slice none 0 0,.int .i64 (TU n)],.int .i64 (Ux n)])∧Below w.heap.size w w':=by
 go_enter func43,ntmps43
 by_cases h:n<0∨80<n
 ·have e1:Ux n=4:=if_pos h;have e2:TU n=0:=if_pos h;rw[e1,e2];have h' : n<0∨(¬n<0∧80<n):=by omega
  clear h e1 e2;rcases h' with g|⟨g,g2⟩
  all_goals
   go_wp2_with (refine aT rfl _ _ _ rfl #[.slice none 0 0,.int .i64 0] rfl rfl rfl store_size (mE none 0 0 0) ?_)
   intro w1 b a;go_wp2;refine bodyPost_ret (v:=.tuple #[.agg #[.slice none 0 0,.int .i64 0],.int .i64 4]) (fZ results43 _ _ w.heap.size _ _ _ _ rfl rfl a underlying40 rfl store_size) rfl ?_;exact⟨rfl,b⟩
 have e1:Ux n=0:=if_neg h;have e2:TU n=n:=if_neg h;rw[e1,e2];have g:¬n<0:=by omega
 have g2:¬80<n:=by omega
 clear h e1 e2
 go_wp2_with (refine aT rfl _ _ _ rfl #[.slice none 0 0,.int .i64 n] rfl rfl rfl store_size (mE none 0 0 n) ?_)
 intro w1 b a;go_wp2;refine bodyPost_ret (v:=.tuple #[.agg #[.slice none 0 0,.int .i64 n],.int .i64 0]) (fZ results43 _ _ w.heap.size _ _ _ _ rfl rfl a underlying40 rfl store_size) rfl ?_;exact⟨rfl,b⟩
def QK (ps:List PF):List Int:=ps.flatMap PF.l
theorem NB (ps:List PF) (k:Int):ig (bJ ps k)=QK ps:=by
 unfold ig bJ QK;rw[List.flatMap_map];rfl
theorem NI (l:List Int) (x:Int) (a:Option Addr) (c:Nat) (w:World) (hrd:eB w a (l.map iI)) (hl:l.length≤9223372036854775807) :
  Calls Tryz.prog 219 #[.slice a l.length c,.int .i64 x] w fun e w'=>e = .returned (.int .i64 (idx (fun y=>decide (x=y)) l))∧Below w.heap.size w w':=by
 go_enter func219,ntmps219;go_wp2
 go_loopw [8] (fun i wr => ∃k:Nat,k≤l.length∧i = .int .i64 k∧Below w.heap.size w wr∧∀i (h:i<l.length),i<k→(fun y=>decide (x=y)) l[i]=false) (fun i _=>l.length-(intOf i).toNat)
 case atStart=>exact⟨0,bB _,rfl,Below.refl _ _,fun i _ h=>absurd h (gL _)⟩
 case round=>
  obtain⟨k,hk,rfl,f,g⟩:=hrel;have hp:=ae g;clear g
  by_cases hlt:k<l.length
  ·obtain⟨b,off,rfl,hc⟩:=lm (hrd.below f) k hlt
   by_cases he:x=l[k]
   ·have d:=ae (pz (fun y=>decide (x=y)) l k hlt hp.out (decide_eq_true he));have hb:(x==l[k])=true:=beq_iff_eq.2 he;clear he;go_wp2;go_ret;exact⟨bi d.out.symm,f⟩
   have j:=ae (show (fun y=>decide (x=y)) l[k]=false from decide_eq_false he);have hb:(x==l[k])=false:=beq_eq_false_iff_ne.2 he;clear he;go_wp2;go_roundw
   case rel=>exact⟨k+1,by omega,by go_num,f,nH hp.out hlt j.out⟩
   case measure=>simp[intOf];omega
  have d:=ae (ky (fun y=>decide (x=y)) l fun i h=>hp.out i h (by omega));go_wp2;go_ret;exact⟨bi d.out.symm,f⟩
theorem Gq (l:List Int) (x:Int) (a:Option Addr) (c:Nat) (w:World) (hrd:eB w a (l.map iI)) (hl:l.length≤9223372036854775807) :
  Calls Tryz.prog 212 #[.slice a l.length c,.int .i64 x] w fun e w'=>e = .returned (.bool (decide (x∈l)))∧Below w.heap.size w w':=by
 go_enter func212,ntmps212
 go_wp2_with fail
 refine (NI l x a c _ hrd hl).mono ?_;rintro e w2 ⟨rfl,d⟩;have b:=ae ((pW (fun y=>decide (x=y)) l).trans (Us l x));go_wp2;go_ret;exact⟨bK b.out,d⟩
def hasB (x:Int) (p:PF):Bool:=decide (x∈p.l)
theorem OC (p:PF) (g:Nat) (x:Int) (w:World) (hg:aJ w g #[.int .i64 x] 3) (hp:p.good w) :
  Calls Tryz.prog 211 #[.agg #[.int .i64 p.n,.slice p.a p.l.length p.c],.pointer (some ⟨g,0,none⟩)] w fun r w'=>r = .returned (.bool (hasB x p))∧Below w.heap.size w w':=by
 have i:=aV hp.le hp.mx;unfold maxLen at i;go_enter func211,ntmps211;go_upto_region 1 with (fail);refine jl (fun W=>Code.wp _ _ _ _ W) fun W0 b d f => ?_;clear f;have k:=(hg.ext b).cell 0;have m:=d.cell;have h:=hp.below b
 go_wp2_with fail
 refine (Gq p.l x p.a p.c _ h.rd (by omega)).mono ?_;rintro e w2 ⟨rfl,j⟩;go_wp2;go_ret;exact⟨rfl,ah b j⟩
theorem VT {ps:List PF} (h:eB w a (ps.flatMap xu)) (k:Nat) (hk:k<ps.length):∃b off,a=some ⟨b,off,none⟩∧w.cell? ⟨b,off+k*2,none⟩=some (.int .i64 ps[k].n)∧w.cell? ⟨b,off+k*2+1,none⟩=some (.slice ps[k].a ps[k].l.length ps[k].c):=by
 obtain⟨b,off,ha,hc⟩:=h.elem nk (by decide) k hk;exact⟨b,off,ha,hc 0 _ rfl,hc 1 _ rfl⟩
theorem OA (l:List PF) (a:Option Addr) (c:Nat) (w:World) (hrd:eB w a (l.flatMap xu)) (hl:l.length≤9223372036854775807) (g:Nat) (x:Int) (hg:aJ w g #[.int .i64 x] 3) (hgood:∀p∈l,p.good w) :
  Calls Tryz.prog 218 #[.slice a l.length c,.func (.func 211) #[] #[.pointer (some ⟨g,0,none⟩)]] w fun e w'=>e = .returned (.int .i64 (idx (hasB x) l))∧Below w.heap.size w w':=by
 go_enter func218,ntmps218;go_wp2
 go_loopw [8] (fun i wr => ∃k:Nat,k≤l.length∧i = .int .i64 k∧Below w.heap.size w wr∧∀i (h:i<l.length),i<k→(hasB x) l[i]=false) (fun i _=>l.length-(intOf i).toNat)
 case atStart=>exact⟨0,bB _,rfl,Below.refl _ _,fun i _ h=>absurd h (gL _)⟩
 case round=>
  obtain⟨k,hk,rfl,f,n⟩:=hrel;have hp:=ae n;clear n
  by_cases hlt:k<l.length
  ·obtain⟨b,off,rfl,c0,c1⟩:=VT (hrd.below f) k hlt
   go_wp2_with fail
   refine (OC l[k] g x _ (hg.ext f) ((hgood _ (eZ hlt)).below f)).mono ?_;rintro e w2 ⟨rfl,o⟩;have j:=ah f o;clear o;cases hpk:(hasB x) l[k]
   ·have m:=ae hpk;clear hpk;go_wp2;go_roundw
    case rel=>exact⟨k+1,by omega,by go_num,j,nH hp.out hlt m.out⟩
    case measure=>simp[intOf];omega
   have d:=ae (pz (hasB x) l k hlt hp.out hpk);clear hpk;go_wp2;go_ret;exact⟨bi d.out.symm,j⟩
  have d:=ae (ky (hasB x) l fun i h=>hp.out i h (by omega));go_wp2;go_ret;exact⟨bi d.out.symm,f⟩
theorem OY (l:List PF) (a:Option Addr) (c:Nat) (w:World) (hrd:eB w a (l.flatMap xu)) (hl:l.length≤9223372036854775807) (g:Nat) (x:Int) (hg:aJ w g #[.int .i64 x] 3) (hgood:∀p∈l,p.good w) :
  Calls Tryz.prog 210 #[.slice a l.length c,.func (.func 211) #[] #[.pointer (some ⟨g,0,none⟩)]] w fun e w'=>e = .returned (.bool (l.any (hasB x)))∧Below w.heap.size w w':=by
 go_enter func210,ntmps210
 go_wp2_with fail
 refine (OA l a c _ hrd hl g x hg hgood).mono ?_;rintro e w2 ⟨rfl,b⟩;go_wp2;go_ret;exact⟨bK (pW _ _),b⟩
theorem Qy (ps:List PF) (k x:Int):ps.any (hasB x)=jy (bJ ps k) x:=by
 unfold jy hasB;rw[NB,nP,jO,decide_eq_true_eq];unfold QK;rw[ji];constructor
 ·rintro⟨p,hp,h⟩;exact⟨p,hp,of_decide_eq_true h⟩
 ·rintro⟨p,hp,h⟩;exact⟨p,hp,decide_eq_true h⟩
theorem OG (ps:List PF) (k:Int) (a:Option Addr) (c g:Nat) (w:World) (h:PV w a c ps) (hg:aJ w g (PU a ps.length c k) 40) (hk:k≤80) :
  Calls Tryz.prog 202 #[.pointer (some ⟨g,0,none⟩)] w fun r w'=>r = .returned (.int .i64 (eY (bJ ps k)))∧Below w.heap.size w w':=by
 have x:=aV h.le h.mx;unfold maxLen at x;unfold PU at hg;go_enter func202,ntmps202;have l:=hg.cell;go_upto_region 2 with (fail);clear l
 go_loopw [8] (fun i wr => ∃(q:Nat),((q:Int)≤k∨q=0)∧i = .int .i64 q∧Below w.heap.size w wr∧∀i:Nat,i<q→jy (bJ ps k) i=true) (fun i _=>k.toNat-(intOf i).toNat)
 case atStart=>exact⟨0,.inr rfl,rfl,Below.refl _ _,fun i hi=>absurd hi (gL _)⟩
 case round=>
  obtain⟨q,hq,rfl,j,p⟩:=hrel;have hu:=ae p;clear p
  by_cases hlt:(q:Int)<k
  ·have u:=hg.ext j;go_upto_region 4 with (refine Ki rfl _ _ _ rfl (.int .i64 q) rfl rfl rfl int_size rfl ?_);intro w2 n t;have b:=ah j n;have o:=u.ext n;have l:=o.cell;have h2:=h.below b;clear j n u
   go_wp2_with fail
   refine (OY ps a c _ h2.rd (by omega) wr.heap.size q t h2.good).mono ?_;rintro e w3 ⟨rfl,m⟩;have f:=ah b m;have y:=(t.ext m).cell 0;rw[Qy ps k];clear l b o m;cases hus:jy (bJ ps k) q
   ·have d:=ae (ND (s:=bJ ps k) hlt hu.out hus);clear hus;go_wp2;go_ret;exact⟨bi d.out.symm,f⟩
   have v:Hid (∀i:Nat,i<q+1→jy (bJ ps k) i=true):=ae (fun i hi=>by
    by_cases e:i=q
    ·subst e;exact hus
    ·exact hu.out i (by omega))
   clear hus;go_wp2;go_roundw
   case rel=>exact⟨q+1,by omega,by go_num,f,v.out⟩
   case measure=>simp[intOf];omega
  have d:=ae (Ij (s:=bJ ps k) (fun i hi=>hu.out i (by have:(i:Int)<k:=hi;omega)));go_wp2;go_ret;exact⟨bi d.out.symm,j⟩
theorem Fa {ps:List PF} {k:Int} (h:aO (bJ ps k)=0):Vr ps:=by
 have h1:=jS h;have h2:ps.length≤5:=by simpa[bJ] using h1.1
 refine⟨by omega,fun p hp => ?_⟩;have h3:=yR h p.fi (by simpa[bJ] using Bn hp);have h4:=zG h3.2.1;have h5:(p.l.length:Int)=gu p.n:=h3.2.2.1;have h6:gu p.n≤12:=h4;omega
theorem Rz {x y:Value} (m:World→Prop) (hb:aJ w b #[u,v] T) (h:∀W,w.grownBy W (some b)→aJ W b #[x,y] T→m W):m ((w.setCell ⟨b,0,none⟩ x).setCell ⟨b,1,none⟩ y).drew:=by
 have h1:=aA w b 0 [x,y];have h2:aJ (w.setCells b 0 [x,y]) b (dF #[u,v] 0 [x,y]) T:=hb.setCells [x,y] 0;exact h _ ⟨h1.os,h1.tape,h1.output,h1.size,h1.block⟩ h2
def pf0:PF:=⟨0,none,[],0⟩
theorem oz.app0 {ps:List PF} (h:oz w B v ps) (ho:Own w' B 98 2 v' (ps.length+1) (ps.flatMap xu++xu pf0)) (hgr:w.grownBy w' v.ownBlock):oz w' B v' (ps++[pf0]):=
 h.app ho (Own.nil _ _ _ _) hgr fun _ _ _=>Apart.nil'
theorem Ia (ps:List PF) (k:Int) (a:Option Addr) (c:Nat) (w:World) (h:PV w a c ps) (hk64 : -9223372036854775808≤k∧k≤9223372036854775807) :
  Calls Tryz.prog 35 #[.agg (PU a ps.length c k)] w fun r w' => ∃v ps' k',r = .returned (.tuple #[.agg #[v,.int .i64 k'],.int .i64 (jI (bJ ps k)),.int .i64 (lh (bJ ps k))])∧oz w' w.heap.size v ps'∧bJ ps' k' = oD (bJ ps k)∧Below w.heap.size w w':=by
 have hI:=aV h.le h.mx;unfold maxLen at hI;unfold PU;go_enter func35,ntmps35;go_upto_region 1 with (fail);refine vg (fun W=>Code.wp _ _ _ _ W) fun W0 hr hi hz hF => ?_;clear hF
 go_wp2_with (refine aC _ _ rfl _ 0 rfl rfl _ hi.rd _ underlying40 rfl store_size ?_)
 refine (xN ps k a c _ (h.below hr) hk64).mono ?_;rintro r w1 ⟨rfl,hc⟩;have f:=ah hr hc;have hx:=hi.ext hc;have o:=hz.ext hc;clear hr hi hz hc
 by_cases h0:aO (bJ ps k)=0
 ·have H0:=ae h0;rw[h0];clear h0;have hn:=hx.cell
  by_cases h5:ps.length=5
  ·have q0:Hid _:=ae (Cm (s:=bJ ps k) (e:=4) (by unfold lh;rw[if_neg (by rw[H0.out];simp),if_pos (by simpa[bJ] using h5)]) (by decide));have hN : ((ps.length:Int)==5)=true:=by rw[beq_iff_eq];omega
   clear h5
   go_wp2_with (refine ax rfl _ _ _ rfl (w.heap.size+1) #[.slice none 0 0,.int .i64 0] rfl rfl _ _ o rfl store_size (mE none 0 0 0) ?_)
   all_goals
    intro w5 hj b;have d:Below w.heap.size w w5:=f.grown b f.size (fun k hk=>by cases hk;omega);go_wp2;refine bodyPost_ret (v:=.tuple #[.agg #[.slice none 0 0,.int .i64 0],.int .i64 0,.int .i64 (4)]) (dn results35 _ _ (w.heap.size+1) _ _ _ _ _ rfl rfl rfl hj underlying40 rfl store_size) rfl ?_;have q:=q0.out;exact⟨_,_,_,by rw[q.1,q.2.1],oz.nil _ _,by rw[q.2.2];rfl,d⟩
  have hN : ((ps.length:Int)==5)=false:=by rw[beq_eq_false_iff_ne];omega
  have hE:Hid (lh (bJ ps k)=0):=ae (by unfold lh;rw[if_neg (by rw[H0.out];simp),if_neg (by simpa[bJ] using h5)]);have hD:=Fa H0.out;have hP:ps.length≤5:=by simpa[bJ] using (jS H0.out).1
  clear h5
  go_wp2_with (refine aC _ _ rfl _ 0 rfl rfl _ hx.rd _ underlying40 rfl store_size ?_)
  refine (Ct ps k a c _ (h.below f) hD).mono ?_;rintro r w2 ⟨v2,qs,rfl,hs,x,hb⟩;have hH:=ae x;have hO:qs.length≤5:=by have:=congrArg List.length x;simp at this;omega
  have z:=ah f hb;have hw:=hx.ext hb;have l:=o.ext hb;have hh:=hs.mono f.size;obtain⟨av,cv,rfl,_⟩:=hs.rd;clear x hn f hx o hb hs
  go_wp2_with (refine aT rfl _ _ _ rfl #[.slice av qs.length cv,.int .i64 k] rfl rfl rfl store_size (mE _ _ _ _) ?_)
  intro w3 ha hm;have g:=ah z ha;have hv:=hw.ext ha;have t:=l.ext ha;have n:=hh.below ha;have hQ:w.heap.size+1<w2.heap.size:=l.lt;clear z hw l hh ha;have hp:=hm.cell;go_upto_region 8 with (at_builtin;(refine eH rfl (.tmp 21) (.tmp 23) 38 rfl w.heap.size 98 _ 2 32 underlying38 file_info rfl (by decide) _ _ _ rfl (n.own.alloc _) (some ⟨w3.heap.size,0,none⟩) 1 1 (xu pf0) rfl (fun h=>(by cases h)) (az _) rfl (eB.new w3 (Le pf0) 98) (NA _) (by unfold maxLen;omega) (by omega) (eF g.size _) ?_));intro v4 w4 hy i;have hd:oz w4 w.heap.size v4 (qs++[pf0]):=(n.below ((Below.refl _ _).alloc (az _) _)).app0 hy i;have ht:=oC (hv.alloc _) (n.own.alloc _) (by decide) i;have p:=oC (t.alloc _) (n.own.alloc _) (by decide) i;have hl:=oC (hm.alloc _) (n.own.alloc _) (by decide) i;have m:Below w.heap.size w w4:=(g.alloc g.size _).grown i (eF g.size _) (fun k hk=>n.own.ge k hk);have y:(qs++[pf0]).length=qs.length+1:=by simp
  have hg:=hd.own;obtain⟨a4,c4,rfl,_⟩:=hg.rd;rw[y] at hd ⊢;clear hp hv t n hm g hy i hg y;go_upto_region 8 with (refine bz rfl _ _ _ rfl w2.heap.size 0 _ [.slice a4 (qs.length+1) c4] rfl rfl rfl _ _ hl (show 0+1≤2 by decide) slfile_size (fun u hu=>by cases bN.1 hu;rfl) ?_);intro w5 hB b;have j:aJ w5 (w.heap.size+1) _ _:=p.grown b (fun e=>by have:=aS e;omega);have hC:aJ w5 w.heap.size _ _:=ht.grown b (fun e=>by have:=aS e;omega);have hM:=hd.keep hl (by decide) (by decide) b;have d:=m.grown b m.size (fun k hk=>by cases hk;omega);have hA : aJ w5 w2.heap.size #[.slice a4 (qs.length+1) c4,.int .i64 k] 40:=hB;clear hl p ht hd m b hB;have hp:=hA.cell;have hn:=hC.cell;have hK:=j.cell;have hJ:=j.free;go_upto_region 8 with (fail)
  go_region
  refine Rz (fun W=>Exit.then _ _ _ _ W) j fun w6 hf hG => ?_;have hL:=hM.keep j (by decide) (by decide) hf;have hq:=d.grown hf d.size (fun k hk=>by cases hk;omega);clear hp hn hK hJ;go_wp2;refine bodyPost_ret (v:=.tuple #[.agg #[.slice a4 (qs.length+1) c4,.int .i64 k],.int .i64 ps.length,.int .i64 0]) (dn results35 _ _ (w.heap.size+1) _ _ _ _ _ rfl rfl rfl hG underlying40 rfl store_size) rfl ?_;have e1:jI (bJ ps k)=ps.length:=by unfold jI;rw[if_pos hE.out];simp[bJ]
  have e2:bJ (qs++[pf0]) k=oD (bJ ps k):=by unfold oD;rw[if_pos hE.out];simp[bJ,hH.out,pf0,PF.fi]
  exact⟨_,_,_,by rw[e1,hE.out],hL,e2,hq⟩
 have q0:Hid _:=ae (Cm (s:=bJ ps k) (e:=aO (bJ ps k)) (by unfold lh;rw[if_pos h0]) h0);have hR : (aO (bJ ps k) != 0)=true:=by simpa using h0
 clear h0
 go_wp2_with (refine ax rfl _ _ _ rfl (w.heap.size+1) #[.slice none 0 0,.int .i64 0] rfl rfl _ _ o rfl store_size (mE none 0 0 0) ?_)
 all_goals
  intro w5 hj b;have d:Below w.heap.size w w5:=f.grown b f.size (fun k hk=>by cases hk;omega);go_wp2;refine bodyPost_ret (v:=.tuple #[.agg #[.slice none 0 0,.int .i64 0],.int .i64 0,.int .i64 (aO (bJ ps k))]) (dn results35 _ _ (w.heap.size+1) _ _ _ _ _ rfl rfl rfl hj underlying40 rfl store_size) rfl ?_;have q:=q0.out;exact⟨_,_,_,by rw[q.1,q.2.1],oz.nil _ _,by rw[q.2.2];rfl,d⟩
theorem Tu (cur:Array Value) (o:Nat) (x y:Value) (h:cur[o+1]?=some y):dF cur o [x,y]=cur.setIfInBounds o x:=by
 show (cur.setIfInBounds o x).setIfInBounds (o+1) y=cur.setIfInBounds o x;apply oO;intro i;rw[za]
 by_cases e:o+1=i
 ·subst e;have a:o+1<cur.size:=(gN.1 h).1;rw[if_pos rfl,if_pos (by simpa using a),fO (by omega),h]
 ·rw[if_neg e]
theorem UN (cur:Array Value) (o:Nat) (x y:Value) (h:cur[o]?=some x):dF cur o [x,y]=cur.setIfInBounds (o+1) y:=by
 show (cur.setIfInBounds o x).setIfInBounds (o+1) y=cur.setIfInBounds (o+1) y;congr 1;apply oO;intro i;rw[za]
 by_cases e:o=i
 ·subst e;have a:o<cur.size:=(gN.1 h).1;rw[if_pos rfl,if_pos a,h]
 ·rw[if_neg e]
theorem oz.set {ps:List PF} (h:oz w B v ps) (hk:k<ps.length) {p' : PF} (ho:Own w' B 98 2 v ps.length ((ps.set k p').flatMap xu)) (hp:Own w' B 3 1 (zZ p') p'.l.length (p'.l.map iI))
 (hoth:∀(i:Nat) q,i≠k→ps[i]?=some q→Own w' B 3 1 (zZ q) q.l.length (q.l.map iI)) (ha:∀(i:Nat) q,i≠k→ps[i]?=some q→Apart (zZ p') (zZ q)):oz w' B v (ps.set k p') where
 own:=by rw[dM];exact ho
 each:=fun i q hq=>by
  rw[qL] at hq
  by_cases e:k=i
  ·rw[if_pos e] at hq
   by_cases hi:i<ps.length
   ·rw[if_pos (by omega)] at hq;cases hq;exact hp
   ·rw[if_neg (by omega)] at hq;cases hq
  rw[if_neg e] at hq;exact hoth i q (fun e2=>e e2.symm) hq
 apart:=fun i j q r a hq hr=>by
  rw[qL] at hq hr
  by_cases e:k=i
  ·rw[if_pos e,if_pos (by omega)] at hq;cases hq;rw[if_neg (by omega)] at hr;exact ha j r (by omega) hr
  rw[if_neg e] at hq
  by_cases e2:k=j
  ·rw[if_pos e2,if_pos (by omega)] at hr;cases hr;exact (ha i q (by omega) hq).symm
  rw[if_neg e2] at hr;exact h.apart i j q r a hq hr
theorem oz.file {ps:List PF} (h:oz w B v ps) {p:PF} (hp:ps[k]?=some p) :
  ∃g off cap cur,v = .slice (some ⟨g,off,none⟩) ps.length cap∧B≤g∧aJ w g cur 98∧off+k*2+2≤cur.size∧cur[off+k*2]?=some (.int .i64 p.n)∧cur[off+k*2+1]?=some (.slice p.a p.l.length p.c) ∧
   (∀w' n,aJ w' g (cur.setIfInBounds (off+k*2) (.int .i64 n)) 98→w.grownBy w' (some g)→oz w' B v (ps.set k ⟨n,p.a,p.l,p.c⟩)) ∧
   (∀w' a l c,aJ w' g (cur.setIfInBounds (off+k*2+1) (.slice a l.length c)) 98→w.grownBy w' (some g)→Own w B 3 1 (.slice a l.length c) l.length (l.map iI)→(∀(j:Nat) q,j≠k→ps[j]?=some q→Apart (.slice a l.length c) (zZ q))→oz w' B v (ps.set k ⟨p.n,a,l,c⟩)):=by
 have hk:=(dx.1 hp).1;have o:=(dx.1 hp).2;obtain⟨g,off,cap,cur,hv,hB,b,r,m⟩:=oM nk (by decide) rfl h.own k hk;have e:∀j u,(ps.flatMap xu)[j]?=some u→cur[off+j]?=some u:=by
  rcases h.own.2 with ⟨h1,h2⟩|⟨g',off',cap',cur',hv',hB',hblk',_,_,_,hc⟩
  ·omega
  rw[hv] at hv';cases hv';have:cur=cur':=by unfold aJ at b hblk';rw[b] at hblk';simpa using hblk'
  subst this;exact hc
 have c0:cur[off+k*2]?=some (.int .i64 p.n):=by have:=e (k*2) (.int .i64 p.n) (by have:=flat_get xu 2 nk ps k hk 0 (.int .i64 p.n) (by rw[o];rfl);simpa using this);exact this
 have c1:cur[off+k*2+1]?=some (.slice p.a p.l.length p.c):=by have:=e (k*2+1) (.slice p.a p.l.length p.c) (flat_get xu 2 nk ps k hk 1 _ (by rw[o];rfl));simpa[oQ] using this
 have f:∀ {w' : World},w.grownBy w' (some g)→∀(i:Nat) q,ps[i]?=some q→Own w' B 3 1 (zZ q) q.l.length (q.l.map iI):=fun d i q hq=>ay (h.each i q hq) b (by decide) d;have s:∀(j:Nat) q,j≠k→ps[j]?=some q→Apart (zZ p) (zZ q):=fun j q hj hq=>by
  rcases yw hj with h1|h1
  ·exact (h.apart j k q p h1 hq hp).symm
  ·exact h.apart k j p q h1 hp hq
 refine⟨g,off,cap,cur,hv,hB,b,r,c0,c1,fun w' n hb d => ?_,fun w' a l c hb d ho ha => ?_⟩
 ·refine h.set hk (m w' ⟨n,p.a,p.l,p.c⟩ ?_) (f d k p hp) (fun i q _ hq=>f d i q hq) s;rw[show xu ⟨n,p.a,p.l,p.c⟩=[.int .i64 n,.slice p.a p.l.length p.c] from rfl,Tu _ _ _ _ c1];exact hb
 refine h.set hk (m w' ⟨p.n,a,l,c⟩ ?_) (ay ho b (by decide) d) (fun i q _ hq=>f d i q hq) ha;rw[show xu ⟨p.n,a,l,c⟩=[.int .i64 p.n,.slice a l.length c] from rfl,UN _ _ _ _ c0];exact hb
theorem oz.num {ps:List PF} (h:oz w B v ps) {p:PF} (hp:ps[k]?=some p) (hi:i<p.l.length) :
  ∃g off cap cur,p.a=some ⟨g,off,none⟩∧p.c=cap∧B≤g∧aJ w g cur 3∧off+i+1≤cur.size ∧
   ∀w' x,aJ w' g (dF cur (off+i) [.int .i64 x]) 3→w.grownBy w' (some g)→oz w' B v (ps.set k ⟨p.n,p.a,p.l.set i x,p.c⟩):=by
 have hk:=(dx.1 hp).1;have u:=(dx.1 hp).2;have b:=h.each k p hp;rw[←mV] at b;obtain⟨g,off,cap,cur,hv,hB,d,s,o⟩:=oM (fun x:Int=>(rfl : [iI x].length=1)) (by decide) rfl b i hi;unfold zZ at hv;simp only[lH] at hv;obtain⟨ha,_,hc⟩:=hv;refine⟨g,off,cap,cur,ha,hc,hB,d,(by simpa using s),fun w' x hb r => ?_⟩;have t:∀(j:Nat) q,j≠k→ps[j]?=some q→Apart (zZ p) (zZ q):=fun j q hj hq=>by
  rcases yw hj with h1|h1
  ·exact (h.apart j k q p h1 hq hp).symm
  ·exact h.apart k j p q h1 hp hq
 have m : Own w' B 98 2 v ps.length (ps.flatMap xu):=ay h.own d (by decide) r;have f:(ps.set k ⟨p.n,p.a,p.l.set i x,p.c⟩).flatMap xu=ps.flatMap xu:=by
  have e1:xu ⟨p.n,p.a,p.l.set i x,p.c⟩=xu p:=by simp[xu,Le]
  apply nO;intro j
  by_cases hj:j<ps.length*2
  ·have hq:j / 2<ps.length:=by omega
   have f1:=sQ xu 2 nk (ps.set k ⟨p.n,p.a,p.l.set i x,p.c⟩) (j / 2) (by rw[dM];exact hq) (j%2) (by omega);have f2:=sQ xu 2 nk ps (j / 2) hq (j%2) (by omega);rw[show j / 2*2+j%2=j from by omega] at f1 f2;rw[f1,f2];congr 1;rw[BG]
   by_cases e:k=j / 2
   ·rw[if_pos e,e1,←u];congr 1;simp only[e]
   ·rw[if_neg e]
  ·rw[fo (by rw[Pw.flat_len xu 2 nk,dM];omega),fo (by rw[Pw.flat_len xu 2 nk];omega)]
 refine h.set hk (by rw[f];exact m) ?_ (fun j q hj hq=>(h.each j q hq).apart (t j q hj hq) (by
  have:(zZ p).ownBlock=some g:=by unfold zZ;rw[ha];rfl
  rw[this];exact r)) (fun j q hj hq=>by rw[show zZ ⟨p.n,p.a,p.l.set i x,p.c⟩=zZ p from by simp[zZ]];exact t j q hj hq)
 have h9:=o w' x (by rw[BX];exact hb);rw[mV] at h9;simpa[zZ] using h9
theorem Kq (ps:List PF) (k file index:Int) (a:Option Addr) (c:Nat) (w:World) (h:PV w a c ps) (hk64 : -9223372036854775808≤k∧k≤9223372036854775807) :
  Calls Tryz.prog 177 #[.agg (PU a ps.length c k),.int .i64 file,.int .i64 index] w fun r w' => ∃v ps' k',r = .returned (.tuple #[.agg #[v,.int .i64 k'],.int .i64 (dR (bJ ps k) file index),.int .i64 (bZ (bJ ps k) file index)])∧oz w' w.heap.size v ps'∧bJ ps' k' = dL (bJ ps k) file index∧Below w.heap.size w w':=by
 have kq:=aV h.le h.mx;unfold maxLen at kq;unfold PU;go_enter func177,ntmps177;go_upto_region 1 with (fail);refine vg (fun W=>Code.wp _ _ _ _ W) fun W0 h3 hS kc km => ?_;clear km
 go_wp2_with (refine aC _ _ rfl _ 0 rfl rfl _ hS.rd _ underlying40 rfl store_size ?_)
 refine (xN ps k a c _ (h.below h3) hk64).mono ?_;rintro r w1 ⟨rfl,hN⟩;have d:=ah h3 hN;have hx:=hS.ext hN;have o:=kc.ext hN;clear h3 hS kc hN
 by_cases h0:aO (bJ ps k)=0
 ·have H0:=ae h0;rw[h0];clear h0;have ku:=hx.cell
  by_cases h5:file<0∨(ps.length:Int)≤file
  ·have q0:Hid _:=ae (wM (s:=bJ ps k) (k:=file) (i:=index) (e:=5) (by unfold bZ;rw[if_neg (by rw[H0.out];simp),if_pos (by simpa[bJ] using h5)]) (by decide));have ky : file<0∨(¬file<0∧(ps.length:Int)≤file):=by omega
   clear h5;rcases ky with g1|⟨g1,g2⟩
   ·skip
    go_wp2_with (refine ax rfl _ _ _ rfl (w.heap.size+1) #[.slice none 0 0,.int .i64 0] rfl rfl _ _ o rfl store_size (mE none 0 0 0) ?_)
    all_goals
     intro w5 t f;have j:Below w.heap.size w w5:=d.grown f d.size (fun k hk=>by cases hk;omega);go_wp2;refine bodyPost_ret (v:=.tuple #[.agg #[.slice none 0 0,.int .i64 0],.int .i64 0,.int .i64 (5)]) (dn results177 _ _ (w.heap.size+1) _ _ _ _ _ rfl rfl rfl t underlying40 rfl store_size) rfl ?_;have q:=q0.out;exact⟨_,_,_,by rw[q.1,q.2.1],oz.nil _ _,by rw[q.2.2];rfl,j⟩
   skip
   go_wp2_with (refine ax rfl _ _ _ rfl (w.heap.size+1) #[.slice none 0 0,.int .i64 0] rfl rfl _ _ o rfl store_size (mE none 0 0 0) ?_)
   all_goals
    intro w5 t f;have j:Below w.heap.size w w5:=d.grown f d.size (fun k hk=>by cases hk;omega);go_wp2;refine bodyPost_ret (v:=.tuple #[.agg #[.slice none 0 0,.int .i64 0],.int .i64 0,.int .i64 (5)]) (dn results177 _ _ (w.heap.size+1) _ _ _ _ _ rfl rfl rfl t underlying40 rfl store_size) rfl ?_;have q:=q0.out;exact⟨_,_,_,by rw[q.1,q.2.1],oz.nil _ _,by rw[q.2.2];rfl,j⟩
  obtain⟨F,rfl⟩:=kW (show 0≤file by omega);have hF:F<ps.length:=by omega
  have kJ:(F:Int)<(ps.length:Int):=by omega
  obtain⟨b,off,p,rfl,hp,c0,c1⟩:=yY (h.below d).rd F hF;have kE:=h.good p (dm hp);have kp:=ae hp;have hJ:Hid (aH (bJ ps k) F=p.fi):=ae (by unfold aH bJ;rw[if_pos (by omega),bD,bM,iY,hp];rfl);have hW:Hid (¬((F:Int)<0∨(((bJ ps k).fs.length:Nat):Int)≤(F:Int))):=ae (by simpa[bJ] using hF);clear h5 hp
  by_cases h9:index<0∨(p.l.length:Int)≤index
  ·have q0:Hid _:=ae (wM (s:=bJ ps k) (k:=F) (i:=index) (e:=9) (by unfold bZ;rw[if_neg (by rw[H0.out];simp),if_neg hW.out,if_pos (by rw[hJ.out];exact h9)]) (by decide));have kx : index<0∨(¬index<0∧(p.l.length:Int)≤index):=by omega
   clear h9;rcases kx with g1|⟨g1,g2⟩
   ·skip
    go_wp2_with (refine ax rfl _ _ _ rfl (w.heap.size+1) #[.slice none 0 0,.int .i64 0] rfl rfl _ _ o rfl store_size (mE none 0 0 0) ?_)
    all_goals
     intro w5 t f;have j:Below w.heap.size w w5:=d.grown f d.size (fun k hk=>by cases hk;omega);go_wp2;refine bodyPost_ret (v:=.tuple #[.agg #[.slice none 0 0,.int .i64 0],.int .i64 0,.int .i64 (9)]) (dn results177 _ _ (w.heap.size+1) _ _ _ _ _ rfl rfl rfl t underlying40 rfl store_size) rfl ?_;have q:=q0.out;exact⟨_,_,_,by rw[q.1,q.2.1],oz.nil _ _,by rw[q.2.2];rfl,j⟩
   skip
   go_wp2_with (refine ax rfl _ _ _ rfl (w.heap.size+1) #[.slice none 0 0,.int .i64 0] rfl rfl _ _ o rfl store_size (mE none 0 0 0) ?_)
   all_goals
    intro w5 t f;have j:Below w.heap.size w w5:=d.grown f d.size (fun k hk=>by cases hk;omega);go_wp2;refine bodyPost_ret (v:=.tuple #[.agg #[.slice none 0 0,.int .i64 0],.int .i64 0,.int .i64 (9)]) (dn results177 _ _ (w.heap.size+1) _ _ _ _ _ rfl rfl rfl t underlying40 rfl store_size) rfl ?_;have q:=q0.out;exact⟨_,_,_,by rw[q.1,q.2.1],oz.nil _ _,by rw[q.2.2];rfl,j⟩
  obtain⟨I,rfl⟩:=kW (show 0≤index by omega);have hI:I<p.l.length:=by omega
  have kH:(I:Int)<(p.l.length:Int):=by omega
  have kh:Hid (¬((I:Int)<0∨(((aH (bJ ps k) F).b.length:Nat):Int)≤(I:Int))):=ae (by rw[hJ.out];exact h9);have kl:=Fa H0.out;have kD:ps.length≤5:=by simpa[bJ] using (jS H0.out).1
  have hQ:k≤80:=(jS H0.out).2.2;clear h9
  go_wp2_with (refine aC _ _ rfl _ 0 rfl rfl _ hx.rd _ underlying40 rfl store_size ?_)
  refine (Ct ps k _ c _ (h.below d) kl).mono ?_;rintro r w2 ⟨v2,qs,rfl,h7,hm,hM⟩;have kd:=ae hm;have ke:qs.length=ps.length:=by simpa using congrArg List.length hm
  have ko:F<qs.length:=by omega
  clear ke;obtain⟨q,hq⟩:∃q,qs[F]?=some q:=⟨qs[F]'ko,aN _⟩;have hU:q.fi=p.fi:=by have h1:=congrArg (fun l=>l[F]?) hm;simp only[iY,hq,kp.out,wT,gY] at h1;exact h1
  have hV:=ae (show q.l=p.l from congrArg Fi.b hU);have kn:=ae (show q.n=p.n from congrArg Fi.n hU);have hn:I<q.l.length:=by rw[hV.out];exact hI
  have hE:=ah d hM;have ka:=hx.ext hM;have hg:=o.ext hM;have hR:=h7.mono d.size;obtain⟨av,cv,rfl,_⟩:=h7.rd;clear hm ku d hx o hM h7 c0 c1
  go_wp2_with (refine aT rfl _ _ _ rfl #[.slice av qs.length cv,.int .i64 k] rfl rfl rfl store_size (mE _ _ _ _) ?_)
  intro w3 hH hs;have ha:=ah hE hH;have h8:=ka.ext hH;have hd:=hg.ext hH;have hl:=hR.below hH;have kr:w.heap.size+1<w2.heap.size:=hg.lt;obtain⟨gg,kk⟩:∃g,g=w2.heap.size:=⟨_,rfl⟩;rw[←kk] at hs kr ⊢;clear kk hE ka hg hR hH;obtain⟨g,off9,cap,cur,hv,kK,hD,kA,e0,e1,_,_⟩:=hl.file hq;obtain⟨g2,off2,cap2,cur2,kg,kC,kL,hC,kt,hu⟩:=hl.num hq (i:=I) hn;simp only[lH] at hv;obtain⟨rfl,_,rfl⟩:=hv;have kI:(F:Int)<(qs.length:Int):=by omega
  have kG:(I:Int)<(q.l.length:Int):=by omega
  rw[kg] at e1;have hK:=hs.cell;have hL:=hD.cell;have hZ:w3.cell? ⟨g2,off2+I,none⟩=some (.int .i64 q.l[I]):=by obtain⟨_,_,e2,hc⟩:=lm ((hl.rd).elim fun _ hx=>hx.elim fun _ hy=>(hy.2.good q (dm hq)).rd) I hn;rw[kg] at e2;cases e2;exact hc
  have hj:Hid (bn (bJ ps k) F I=q.l[I]):=ae (by unfold bn;rw[hJ.out,bD];show p.l.getD I 0=_;rw[bM,←hV.out,aN hn];rfl);generalize hB0:q.l[I]=B0 at hZ hj;clear hB0 hU;go_upto_region 10 with (fail)
  by_cases hneg:B0<0
  ·have hP:=h8;clear hL hZ hD e0 e1
   go_wp2_with fail
   refine (OG ps k _ c w.heap.size _ (h.below ha) hP hQ).mono ?_;rintro r w4 ⟨rfl,hG⟩;have ks:=Ox (s:=bJ ps k) hQ;have y:=ah ha hG;have hb:=hd.ext hG;have hr:=hs.ext hG;have hO:=hl.below hG;clear hP ha hd hs hl hG hK hu hC h8;have h2:Hid (bZ (bJ ps k) F I=if eY (bJ ps k)<0 then 10 else 0):=ae (by
    unfold bZ;rw[if_neg (by rw[H0.out];simp),if_neg hW.out,if_neg kh.out,hj.out]
    by_cases z:eY (bJ ps k)<0
    ·rw[if_pos ⟨hneg,z⟩,if_pos z]
    ·rw[if_neg (fun hh=>z hh.2),if_neg z])
   generalize hX:eY (bJ ps k)=X at h2 ks;have kj:=ae hX;clear hX
   by_cases hX0:X<0
   ·have q0:Hid _:=ae (wM (s:=bJ ps k) (k:=F) (i:=I) (e:=10) (by rw[h2.out,if_pos hX0]) (by decide));have d:=y;have o:=hb;clear y hb hr hO
    go_wp2_with (refine ax rfl _ _ _ rfl (w.heap.size+1) #[.slice none 0 0,.int .i64 0] rfl rfl _ _ o rfl store_size (mE none 0 0 0) ?_)
    all_goals
     intro w5 t f;have j:Below w.heap.size w w5:=d.grown f d.size (fun k hk=>by cases hk;omega);go_wp2;refine bodyPost_ret (v:=.tuple #[.agg #[.slice none 0 0,.int .i64 0],.int .i64 0,.int .i64 (10)]) (dn results177 _ _ (w.heap.size+1) _ _ _ _ _ rfl rfl rfl t underlying40 rfl store_size) rfl ?_;have q:=q0.out;exact⟨_,_,_,by rw[q.1,q.2.1],oz.nil _ _,by rw[q.2.2];rfl,j⟩
   have hz:Hid (bZ (bJ ps k) F I=0):=ae (by rw[h2.out,if_neg hX0]);have u:Hid (dR (bJ ps k) F I=X∧bZ (bJ ps k) F I=0∧bJ (qs.set F ⟨q.n,q.a,q.l.set I X,q.c⟩) k=dL (bJ ps k) F I):=ae (by
    refine⟨?_,hz.out,?_⟩
    ·unfold dR;rw[if_neg (by rw[hz.out];simp),hj.out,if_pos hneg,kj.out]
    unfold dL;rw[if_neg (by rw[hz.out];simp),hj.out,if_pos hneg,kj.out,hJ.out];unfold vK bJ;rw[bD,bD,yE,kd.out];unfold PF.fi;rw[hV.out,kn.out])
   obtain⟨g3,off3,cap3,cur3,kb,kB,hB,_,e03,e13,_,_⟩:=hO.file hq;obtain⟨g4,off4,cap4,cur4,kf,kz,kw,m,hY,ht⟩:=hO.num hq (i:=I) hn;simp only[lH] at kb;obtain⟨e31,_,e33⟩:=kb;cases e31;subst e33;rw[kf] at e13;have hK:=hr.cell;have hL:=hB.cell;have kF:gg≠g4:=fun e=>by subst e;unfold aJ at hr m;rw[hr] at m;simp at m
   go_wp2_with (refine bz rfl _ _ _ rfl g4 (off4+I) _ [.int .i64 X] rfl rfl rfl _ _ m hY int_size (HY _ _) ?_)
   intro w5 ki f;have h6:=ht w5 X ki f;have hA:=aG hr m (by decide) f;have hw:=aG hb m (by decide) f;have x:=y.grown f y.size (fun k hk=>by cases hk;exact kw);clear hr hb hO y hB m ht hK hL e03 e13 ki f;have kv:=hA.cell
   go_wp2_with (first | (refine aC _ _ rfl _ 0 rfl rfl _ hA.rd _ underlying40 rfl store_size ?_) | (refine ax rfl _ _ _ rfl (w.heap.size+1) _ rfl rfl _ _ hw rfl store_size (mE _ _ _ _) ?_))
   intro wf hT hf;have h4:=h6.keep hw (by decide) (by decide) hf;have hi:=x.grown hf x.size (fun k hk=>by cases hk;omega);go_wp2;refine bodyPost_ret (v:=.tuple #[.agg #[.slice _ _ _,.int .i64 k],.int .i64 (X),.int .i64 0]) (dn results177 _ _ (w.heap.size+1) _ _ _ _ _ rfl rfl rfl hT underlying40 rfl store_size) rfl ?_;exact⟨_,_,_,by rw[u.out.1,u.out.2.1],h4,u.out.2.2,hi⟩
  have u:Hid (dR (bJ ps k) F I=B0∧bZ (bJ ps k) F I=0∧bJ qs k=dL (bJ ps k) F I):=ae (by
   have z:bZ (bJ ps k) F I=0:=by unfold bZ;rw[if_neg (by rw[H0.out];simp),if_neg hW.out,if_neg kh.out,if_neg (by rw[hj.out];omega)]
   refine⟨?_,z,?_⟩
   ·unfold dR;rw[if_neg (by rw[z];simp),hj.out,if_neg hneg]
   ·unfold dL;rw[if_neg (by rw[z];simp),hj.out,if_neg hneg];unfold bJ;rw[kd.out])
  have hA:=hs;have hw:=hd;have h6:=hl;have x:=ha;clear hs hd hl ha hD hC hu hK hL hZ e0 e1;have kv:=hA.cell
  go_wp2_with (first | (refine aC _ _ rfl _ 0 rfl rfl _ hA.rd _ underlying40 rfl store_size ?_) | (refine ax rfl _ _ _ rfl (w.heap.size+1) _ rfl rfl _ _ hw rfl store_size (mE _ _ _ _) ?_))
  intro wf hT hf;have h4:=h6.keep hw (by decide) (by decide) hf;have hi:=x.grown hf x.size (fun k hk=>by cases hk;omega);go_wp2;refine bodyPost_ret (v:=.tuple #[.agg #[.slice _ _ _,.int .i64 k],.int .i64 (B0),.int .i64 0]) (dn results177 _ _ (w.heap.size+1) _ _ _ _ _ rfl rfl rfl hT underlying40 rfl store_size) rfl ?_;exact⟨_,_,_,by rw[u.out.1,u.out.2.1],h4,u.out.2.2,hi⟩
 have q0:Hid _:=ae (wM (s:=bJ ps k) (k:=file) (i:=index) (e:=aO (bJ ps k)) (by unfold bZ;rw[if_pos h0]) h0);have kM : (aO (bJ ps k) != 0)=true:=by simpa using h0
 clear h0
 go_wp2_with (refine ax rfl _ _ _ rfl (w.heap.size+1) #[.slice none 0 0,.int .i64 0] rfl rfl _ _ o rfl store_size (mE none 0 0 0) ?_)
 all_goals
  intro w5 t f;have j:Below w.heap.size w w5:=d.grown f d.size (fun k hk=>by cases hk;omega);go_wp2;refine bodyPost_ret (v:=.tuple #[.agg #[.slice none 0 0,.int .i64 0],.int .i64 0,.int .i64 (aO (bJ ps k))]) (dn results177 _ _ (w.heap.size+1) _ _ _ _ _ rfl rfl rfl t underlying40 rfl store_size) rfl ?_;have q:=q0.out;exact⟨_,_,_,by rw[q.1,q.2.1],oz.nil _ _,by rw[q.2.2];rfl,j⟩
def kE (a:Ar):Array Value:=#[.int .i64 a.fr,.int .i64 a.en,.bool a.rd,.bool a.wr,.bool a.sh,.int .i64 a.fi,.int .i64 a.ba]
def fA (a:Ar):List Value:=(kE a).toList
theorem jo (a:Ar):(fA a).length=7:=rfl
theorem area_size:(Tryz.prog.info? 143).map (·.size)=some 7:=by kernel_rfl
theorem area_info:(Tryz.prog.info? 143).map (fun i=>(i.zero,i.size,i.bytes))=some (some (.agg #[.int .i64 0,.int .i64 0,.bool false,.bool false,.bool false,.int .i64 0,.int .i64 0]),7,40):=by kernel_rfl
def xO (w:World) (b o:Nat) (a:Ar):Prop:=∀j u,(fA a)[j]?=some u→w.cell? ⟨b,o+j,none⟩=some u
theorem xO.below {o:Nat} {a:Ar} (h:xO w b o a) (hb:Below w.heap.size w w'):xO w' b o a:=fun j u hj=>cell_later hb (h j u hj)
theorem xO.cells {o:Nat} {a:Ar} (h:xO w b o a):w.cell? ⟨b,o,none⟩=some (.int .i64 a.fr)∧w.cell? ⟨b,o+1,none⟩=some (.int .i64 a.en)∧w.cell? ⟨b,o+2,none⟩=some (.bool a.rd)∧w.cell? ⟨b,o+3,none⟩=some (.bool a.wr) ∧
  w.cell? ⟨b,o+4,none⟩=some (.bool a.sh)∧w.cell? ⟨b,o+5,none⟩=some (.int .i64 a.fi)∧w.cell? ⟨b,o+6,none⟩=some (.int .i64 a.ba):=
 ⟨h 0 _ rfl,h 1 _ rfl,h 2 _ rfl,h 3 _ rfl,h 4 _ rfl,h 5 _ rfl,h 6 _ rfl⟩
theorem II (b o:Nat) (a:Ar) (w:World) (h:xO w b o a) :
  Calls Tryz.prog 147 #[.pointer (some ⟨b,o,none⟩)] w fun e w'=>e = .returned (.int .i64 (cZ a))∧Below w.heap.size w w':=by
 obtain⟨h0,h1,h2,h3,h4,h5,h6⟩:=h.cells;go_enter func147,ntmps147;go_upto_region 1 with (fail)
 by_cases g1:a.fr<0
 ·have hz:Hid (cZ a=3):=ae (by unfold cZ;rw[if_pos (by omega)]);go_quiet (fail);go_wp2;go_ret;exact⟨bi hz.out.symm,below_drewN (Below.refl _ _) _⟩
 by_cases g2:a.en≤a.fr
 ·have hz:Hid (cZ a=3):=ae (by unfold cZ;rw[if_pos (by omega)]);go_quiet (fail);go_wp2;go_ret;exact⟨bi hz.out.symm,below_drewN (Below.refl _ _) _⟩
 by_cases g3:64<a.en
 ·have hz:Hid (cZ a=3):=ae (by unfold cZ;rw[if_pos (by omega)]);go_quiet (fail);go_wp2;go_ret;exact⟨bi hz.out.symm,below_drewN (Below.refl _ _) _⟩
 by_cases g4:a.fi < -1
 ·have hz:Hid (cZ a=3):=ae (by unfold cZ;rw[if_pos (by omega)]);go_quiet (fail);go_wp2;go_ret;exact⟨bi hz.out.symm,below_drewN (Below.refl _ _) _⟩
 by_cases g5:5≤a.fi
 ·have hz:Hid (cZ a=3):=ae (by unfold cZ;rw[if_pos (by omega)]);go_quiet (fail);go_wp2;go_ret;exact⟨bi hz.out.symm,below_drewN (Below.refl _ _) _⟩
 by_cases g6:a.ba<0
 ·have hz:Hid (cZ a=3):=ae (by unfold cZ;rw[if_pos (by omega)]);go_quiet (fail);go_wp2;go_ret;exact⟨bi hz.out.symm,below_drewN (Below.refl _ _) _⟩
 have c:¬(a.fr<0∨a.en≤a.fr∨64<a.en∨a.fi < -1∨5≤a.fi∨a.ba<0):=by omega
 have f:IntKind.i64.wrap (a.en-a.fr)=a.en-a.fr:=bP _ (by omega);have d:IntKind.i64.wrap (12-(a.en-a.fr))=12-(a.en-a.fr):=bP _ (by omega);go_quiet (fail)
 by_cases f1:a.fi<0
 ·by_cases f2:a.ba=0
  ·cases f3:a.sh
   ·have hz:Hid (cZ a=0):=ae (by unfold cZ;rw[if_neg c,if_neg (by rw[f3];simp;omega)]);go_upto_region 4 with (fail);have d0:decide (0≤a.fi)=false:=decide_eq_false (by omega);go_quiet (fail);go_wp2;go_ret;exact⟨bi hz.out.symm,below_drewN (Below.refl _ _) _⟩
   have hz:Hid (cZ a=7):=ae (by unfold cZ;rw[if_neg c,if_pos (.inl ⟨f1,.inr f3⟩)]);go_wp2;go_ret;exact⟨bi hz.out.symm,below_drewN (Below.refl _ _) _⟩
  have hz:Hid (cZ a=7):=ae (by unfold cZ;rw[if_neg c,if_pos (.inl ⟨f1,.inl f2⟩)]);have f2' : (a.ba != 0)=true:=by simpa using f2
  go_wp2;go_ret;exact⟨bi hz.out.symm,below_drewN (Below.refl _ _) _⟩
 have f1' : 0≤a.fi:=by omega
 by_cases f2:12-(a.en-a.fr)<a.ba
 ·have hz:Hid (cZ a=7):=ae (by unfold cZ;rw[if_neg c,if_pos (.inr ⟨f1',f2⟩)]);go_upto_region 4 with (fail);have d0:decide (0≤a.fi)=true:=decide_eq_true (by omega);go_quiet (fail);go_wp2;go_ret;exact⟨bi hz.out.symm,below_drewN (Below.refl _ _) _⟩
 have hz:Hid (cZ a=0):=ae (by unfold cZ;rw[if_neg c,if_neg (by omega)]);go_upto_region 4 with (fail);have d0:decide (0≤a.fi)=true:=decide_eq_true (by omega);go_quiet (fail);go_wp2;go_ret;exact⟨bi hz.out.symm,below_drewN (Below.refl _ _) _⟩
theorem Af (p q p' q' : Nat) (a b:Ar) (w:World) (h:xO w p q a) (h' : xO w p' q' b) (hs:qU a) :
  Calls Tryz.prog 148 #[.pointer (some ⟨p,q,none⟩),.pointer (some ⟨p',q',none⟩)] w fun e w'=>e = .returned (.bool (dI a b))∧Below w.heap.size w w':=by
 obtain⟨h0,h1,h2,h3,h4,h5,h6⟩:=h.cells;obtain⟨k0,k1,k2,k3,k4,k5,k6⟩:=h'.cells;obtain⟨s1,s2,s3⟩:=hs;have d:IntKind.i64.wrap (a.ba+a.en)=a.ba+a.en:=bP _ (by omega);have c:IntKind.i64.wrap (a.ba+a.en-a.fr)=a.ba+a.en-a.fr:=bP _ (by omega);go_enter func148,ntmps148
 by_cases hf:0≤a.fi
 ·go_upto_region 3 with (fail);go_quiet (fail);go_upto_region 4 with (fail);cases g1:(a.en==b.fr)
  ·have hz:Hid (dI a b=false):=ae (by unfold dI kL;rw[if_pos hf];simp only[g1,kF,lg,kZ,ng]);go_quiet (fail);go_wp2;go_ret;exact⟨bK hz.out.symm,by first | exact below_drewN (Below.refl _ _) _ | exact below_drewN (below_drewN (Below.refl _ _) _) _⟩
  cases g2:(a.rd==b.rd)
  ·have hz:Hid (dI a b=false):=ae (by unfold dI kL;rw[if_pos hf];simp only[g1,g2,kF,lg,kZ,ng]);go_quiet (fail);go_wp2;go_ret;exact⟨bK hz.out.symm,by first | exact below_drewN (Below.refl _ _) _ | exact below_drewN (below_drewN (Below.refl _ _) _) _⟩
  cases g3:(a.wr==b.wr)
  ·have hz:Hid (dI a b=false):=ae (by unfold dI kL;rw[if_pos hf];simp only[g1,g2,g3,kF,lg,kZ,ng]);go_quiet (fail);go_wp2;go_ret;exact⟨bK hz.out.symm,by first | exact below_drewN (Below.refl _ _) _ | exact below_drewN (below_drewN (Below.refl _ _) _) _⟩
  cases g4:(a.sh==b.sh)
  ·have hz:Hid (dI a b=false):=ae (by unfold dI kL;rw[if_pos hf];simp only[g1,g2,g3,g4,kF,lg,kZ,ng]);go_quiet (fail);go_wp2;go_ret;exact⟨bK hz.out.symm,by first | exact below_drewN (Below.refl _ _) _ | exact below_drewN (below_drewN (Below.refl _ _) _) _⟩
  cases g5:(a.fi==b.fi)
  ·have hz:Hid (dI a b=false):=ae (by unfold dI kL;rw[if_pos hf];simp only[g1,g2,g3,g4,g5,kF,lg,kZ,ng]);go_quiet (fail);go_wp2;go_ret;exact⟨bK hz.out.symm,by first | exact below_drewN (Below.refl _ _) _ | exact below_drewN (below_drewN (Below.refl _ _) _) _⟩
  cases g6:(b.ba==(a.ba+a.en-a.fr))
  ·have hz:Hid (dI a b=false):=ae (by unfold dI kL;rw[if_pos hf];simp only[g1,g2,g3,g4,g5,g6,kF,lg,kZ,ng]);go_quiet (fail);go_wp2;go_ret;exact⟨bK hz.out.symm,by first | exact below_drewN (Below.refl _ _) _ | exact below_drewN (below_drewN (Below.refl _ _) _) _⟩
  have hz:Hid (dI a b=true):=ae (by unfold dI kL;rw[if_pos hf];simp only[g1,g2,g3,g4,g5,g6,kF,lg,kZ,ng]);go_quiet (fail);go_wp2;go_ret;exact⟨bK hz.out.symm,by first | exact below_drewN (Below.refl _ _) _ | exact below_drewN (below_drewN (Below.refl _ _) _) _⟩
 go_upto_region 4 with (fail);cases g1:(a.en==b.fr)
 ·have hz:Hid (dI a b=false):=ae (by unfold dI kL;rw[if_neg hf];simp only[g1,kF,lg,kZ,ng]);go_quiet (fail);go_wp2;go_ret;exact⟨bK hz.out.symm,by first | exact below_drewN (Below.refl _ _) _ | exact below_drewN (below_drewN (Below.refl _ _) _) _⟩
 cases g2:(a.rd==b.rd)
 ·have hz:Hid (dI a b=false):=ae (by unfold dI kL;rw[if_neg hf];simp only[g1,g2,kF,lg,kZ,ng]);go_quiet (fail);go_wp2;go_ret;exact⟨bK hz.out.symm,by first | exact below_drewN (Below.refl _ _) _ | exact below_drewN (below_drewN (Below.refl _ _) _) _⟩
 cases g3:(a.wr==b.wr)
 ·have hz:Hid (dI a b=false):=ae (by unfold dI kL;rw[if_neg hf];simp only[g1,g2,g3,kF,lg,kZ,ng]);go_quiet (fail);go_wp2;go_ret;exact⟨bK hz.out.symm,by first | exact below_drewN (Below.refl _ _) _ | exact below_drewN (below_drewN (Below.refl _ _) _) _⟩
 cases g4:(a.sh==b.sh)
 ·have hz:Hid (dI a b=false):=ae (by unfold dI kL;rw[if_neg hf];simp only[g1,g2,g3,g4,kF,lg,kZ,ng]);go_quiet (fail);go_wp2;go_ret;exact⟨bK hz.out.symm,by first | exact below_drewN (Below.refl _ _) _ | exact below_drewN (below_drewN (Below.refl _ _) _) _⟩
 cases g5:(a.fi==b.fi)
 ·have hz:Hid (dI a b=false):=ae (by unfold dI kL;rw[if_neg hf];simp only[g1,g2,g3,g4,g5,kF,lg,kZ,ng]);go_quiet (fail);go_wp2;go_ret;exact⟨bK hz.out.symm,by first | exact below_drewN (Below.refl _ _) _ | exact below_drewN (below_drewN (Below.refl _ _) _) _⟩
 cases g6:(b.ba==0)
 ·have hz:Hid (dI a b=false):=ae (by unfold dI kL;rw[if_neg hf];simp only[g1,g2,g3,g4,g5,g6,kF,lg,kZ,ng]);go_quiet (fail);go_wp2;go_ret;exact⟨bK hz.out.symm,by first | exact below_drewN (Below.refl _ _) _ | exact below_drewN (below_drewN (Below.refl _ _) _) _⟩
 have hz:Hid (dI a b=true):=ae (by unfold dI kL;rw[if_neg hf];simp only[g1,g2,g3,g4,g5,g6,kF,lg,kZ,ng]);go_quiet (fail);go_wp2;go_ret;exact⟨bK hz.out.symm,by first | exact below_drewN (Below.refl _ _) _ | exact below_drewN (below_drewN (Below.refl _ _) _) _⟩
theorem QX {l:List Ar} (h:eB w a (l.flatMap fA)) (k:Nat) (hk:k<l.length):∃b off,a=some ⟨b,off,none⟩∧xO w b (off+k*7) l[k]:=h.elem jo (by decide) k hk
theorem SL {l:List Ar} (h:eB w (some ⟨b,off,none⟩) (l.flatMap fA)) (k:Nat) (hk:k<l.length):xO w b (off+k*7) l[k]:=by
 obtain⟨b',off',e,h1⟩:=QX h k hk;cases e;exact h1
def SH (e:Int × Int):Array Value:=#[.int .i64 e.1,.int .i64 e.2]
theorem fau_size:(Tryz.prog.info? 166).map (·.size)=some 2:=by kernel_rfl
theorem xe (x y:Int):(#[Value.int .i64 x,Value.int .i64 y]:Array Value).all (·.oneCell')=true:=by simp[Value.oneCell']
theorem CL (l:List Ar) (a:Option Addr) (c:Nat) (w:World) (hrd:eB w a (l.flatMap fA)) (hl:l.length≤9223372036854775807) :
  Calls Tryz.prog 96 #[.slice a l.length c] w fun e w'=>e = .returned (.agg (SH (dH l)))∧Below w.heap.size w w':=by
 go_enter func96,ntmps96;go_upto_region 1 with (fail);refine jl (fun W=>Code.wp _ _ _ _ W) fun W0 d g hV => ?_;clear hV
 by_cases h16:16<l.length
 ·have hT : (16:Int)<(l.length:Int):=by omega
  have hz:Hid (dH l=(4,0)):=ae (by unfold dH;rw[if_pos h16])
  go_wp2_with (refine ax rfl _ _ _ rfl w.heap.size #[.int .i64 (4),.int .i64 (0)] rfl rfl _ _ g rfl fau_size (xe _ _) ?_)
  intro w5 t p;have o:Below w.heap.size w w5:=d.grown p d.size (fun k hk=>by cases hk;exact az _);go_wp2;refine bodyPost_ret (v:=.agg #[.int .i64 (4),.int .i64 (0)]) (aY results96 _ _ w.heap.size _ _ _ rfl t underlying166 rfl fau_size) rfl ?_;exact⟨by rw[hz.out];rfl,o⟩
 have hT : ¬(16:Int)<(l.length:Int):=by omega
 have h0:Hid (dH l=kM (tu l 0) 0 (l.drop 0)):=ae (by unfold dH;rw[if_neg h16];rfl);go_upto_region 4 with (fail)
 go_loopw [11] (fun i wr => ∃k:Nat,k≤l.length∧i = .int .i64 k∧Below w.heap.size w wr∧aJ wr w.heap.size #[.int .i64 0,.int .i64 0] 166∧(∀i (h:i<l.length),i<k→cZ l[i]=0)∧Hid (dH l=kM (tu l k) k (l.drop k))) (fun i _=>l.length-(intOf i).toNat)
 case atStart=>exact⟨0,bB _,rfl,d,g,fun i _ h=>absurd h (gL _),h0⟩
 case round=>
  clear d g h0;obtain⟨k,hk,rfl,d,g,hQ,z⟩:=hrel;have hp:=ae hQ;clear hQ
  by_cases hlt:k<l.length
  ·obtain⟨b,off,rfl,hA⟩:=QX (hrd.below d) k hlt;have hX:(k:Int)<(l.length:Int):=by omega
   go_wp2_with fail
   refine (II b (off+k*7) l[k] _ hA).mono ?_;rintro r w2 ⟨rfl,hD⟩;have j:=ah d hD;have n:=g.ext hD;clear d g hD hA
   by_cases he:cZ l[k]=0
   ·have u:=ae he;rw[he];clear he;go_upto_region 9 with (fail)
    by_cases hk0:k=0
    ·subst hk0;have hW:decide ((0:Int)<((0:Nat):Int))=false:=rfl;have hB:Hid (dH l=kM (tu l (0+1)) (0+1) (l.drop (0+1))):=ae (by rw[z.out];exact Cz hlt u.out rfl);go_quiet (fail);go_wp2;go_roundw
     case rel=>exact⟨0+1,by omega,by go_num,below_drewN j _,n.drewN _,nH hp.out hlt u.out,hB⟩
     case measure=>simp[intOf];omega
    obtain⟨m,rfl⟩:∃m,k=m+1:=⟨k-1,by omega⟩;have hW:decide ((0:Int)<((m+1:Nat):Int))=true:=decide_eq_true (by omega);have hc:IntKind.i64.wrap (((m+1:Nat):Int)-1)=(m:Int):=by rw[bP _ (by omega)];omega
    have x:m<l.length:=by omega
    have ha:IntKind.i64.wrap (m:Int)=(m:Int):=bP _ (by omega);have hh:(0:Int)≤(m:Int)+1:=by omega
    have hg:(m:Int)+1<(l.length:Int):=by omega
    have hf:((m:Int)+1).toNat=m+1:=by omega
    have hC:=ae (Ru hlt);have hR:=(fK (hp.out m x (by omega))).1;have hY:=(fK u.out).1;have hS:=hrd.below j;have hm:=SL hS (m+1) hlt;have hi:=SL hS m x;generalize hA1:l[m+1]=A1 at *
    generalize hA0:l[m]=A0 at *
    by_cases hov:A1.fr<A0.en
    ·have hz:Hid (dH l=(2,((m+1:Nat):Int))):=ae (by rw[z.out];exact Eh hlt (by rw[hA1];exact u.out) (by rw[hA1,hC.out,decide_eq_true hov];rfl));refine aP 26 [_,_,_,_,_,_,.v (.pointer (some ⟨b,off+m*7,none⟩)),_,.v (.int .i64 A0.en),_,_,.v (.pointer (some ⟨b,off+(m+1)*7,none⟩)),_,.v (.int .i64 A1.fr),_,_,_,_,_,_,_,_,_,_,_,.v (.bool true)] (Gk rfl (Gb (.bool true) (by simp[go_sem]) rfl rfl rfl rfl rfl (Gk rfl (Gk rfl (Gk rfl (Gb (.int .i64 (m:Int)) (by simp[go_sem,hc,ha]) rfl rfl rfl rfl rfl (aj ?_ (Gf b (off+m*7+1) rfl rfl (aj ?_ (Gk rfl (Gk rfl (aj ?_ (Gf b (off+(m+1)*7) rfl rfl (aj ?_ (Gb (.bool true) (by simp[go_sem,hov]) rfl rfl rfl rfl rfl (Gk rfl (Gk rfl (Gk rfl (Gk rfl (Gk rfl (Gk rfl (Gk rfl (Gk rfl (Gk rfl (Gk rfl (Gk rfl (aF))))))))))))))))))))))))))) (fun _=>rfl) rfl ?_
     ·intro ρ y W hw hn hb hd;have hy:=hw 26 3 rfl;have h3:y 3=_:=hd 3 rfl;have hx:=hw 28 5 rfl;have h5:y 5=_:=hd 5 rfl;refine ak (.pointer (some ⟨b,off+m*7,none⟩)) (gB 2 25 true true rfl rfl ((hw 25 2 rfl).trans (hd 2 rfl))) (by simp[execOp,go_sem,hy,h3,hx,h5,x]) rfl
     ·intro ρ y W hw hn hb hd;have hv:=hw 30 7 rfl;have h7:y 7=_:=hd 7 rfl;have s:=(hi.below hb).cells.2.1;refine ak (.int .i64 A0.en) (gB 2 25 true true rfl rfl ((hw 25 2 rfl).trans (hd 2 rfl))) (by simp[execOp,go_sem,hv,h7,s]) rfl
     ·intro ρ y W hw hn hb hd;have hu:=hw 32 9 rfl;have h9:y 9=_:=hd 9 rfl;have ht:=hw 33 10 rfl;have hr:y 10=_:=hd 10 rfl;refine ak (.pointer (some ⟨b,off+(m+1)*7,none⟩)) (gB 2 25 true true rfl rfl ((hw 25 2 rfl).trans (hd 2 rfl))) (by simp[execOp,go_sem,hu,h9,ht,hr,hlt,hh,hg,hf]) rfl
     ·intro ρ y W hw hn hb hd;have hs:=hw 35 12 rfl;have hq:y 12=_:=hd 12 rfl;have s:=(hm.below hb).cells.1;refine ak (.int .i64 A1.fr) (gB 2 25 true true rfl rfl ((hw 25 2 rfl).trans (hd 2 rfl))) (by simp[execOp,go_sem,hs,hq,s]) rfl
     intro y WA q _;have d:=ah j q;have g:=n.ext q;clear j n
     go_wp2_with (refine ax rfl _ _ _ rfl w.heap.size #[.int .i64 (2),.int .i64 (((m+1:Nat):Int))] rfl rfl _ _ g rfl fau_size (xe _ _) ?_)
     intro w5 t p;have o:Below w.heap.size w w5:=d.grown p d.size (fun k hk=>by cases hk;exact az _);go_wp2;refine bodyPost_ret (v:=.agg #[.int .i64 (2),.int .i64 (((m+1:Nat):Int))]) (aY results96 _ _ w.heap.size _ _ _ rfl t underlying166 rfl fau_size) rfl ?_;exact⟨by rw[hz.out];rfl,o⟩
    cases hj:dI A0 A1
    ·have hB:Hid (dH l=kM (tu l (m+1+1)) (m+1+1) (l.drop (m+1+1))):=ae (by rw[z.out];exact Cz hlt (by rw[hA1];exact u.out) (by rw[hA1,hC.out,decide_eq_false hov,hj];rfl));refine aP 26 [_,_,_,_,_,_,.v (.pointer (some ⟨b,off+m*7,none⟩)),_,.v (.int .i64 A0.en),_,_,.v (.pointer (some ⟨b,off+(m+1)*7,none⟩)),_,.v (.int .i64 A1.fr),_,_,_,_,_,.v (.pointer (some ⟨b,off+m*7,none⟩)),_,_,.v (.pointer (some ⟨b,off+(m+1)*7,none⟩)),.v (.bool false),_,.v (.bool false)] (Gk rfl (Gb (.bool true) (by simp[go_sem]) rfl rfl rfl rfl rfl (Gk rfl (Gk rfl (Gk rfl (Gb (.int .i64 (m:Int)) (by simp[go_sem,hc,ha]) rfl rfl rfl rfl rfl (aj ?_ (Gf b (off+m*7+1) rfl rfl (aj ?_ (Gk rfl (Gk rfl (aj ?_ (Gf b (off+(m+1)*7) rfl rfl (aj ?_ (Gb (.bool false) (by simp[go_sem,hov]) rfl rfl rfl rfl rfl (Gk rfl (Gk rfl (Gk rfl (Gb (.int .i64 (m:Int)) (by simp[go_sem,hc,ha]) rfl rfl rfl rfl rfl (aj ?_ (Gk rfl (Gk rfl (aj ?_ (aj ?_ (Gk rfl (Gk rfl (aF))))))))))))))))))))))))))) (fun _=>rfl) rfl ?_
     ·intro ρ y W hw hn hb hd;have hy:=hw 26 3 rfl;have h3:y 3=_:=hd 3 rfl;have hx:=hw 28 5 rfl;have h5:y 5=_:=hd 5 rfl;refine ak (.pointer (some ⟨b,off+m*7,none⟩)) (gB 2 25 true true rfl rfl ((hw 25 2 rfl).trans (hd 2 rfl))) (by simp[execOp,go_sem,hy,h3,hx,h5,x]) rfl
     ·intro ρ y W hw hn hb hd;have hv:=hw 30 7 rfl;have h7:y 7=_:=hd 7 rfl;have s:=(hi.below hb).cells.2.1;refine ak (.int .i64 A0.en) (gB 2 25 true true rfl rfl ((hw 25 2 rfl).trans (hd 2 rfl))) (by simp[execOp,go_sem,hv,h7,s]) rfl
     ·intro ρ y W hw hn hb hd;have hu:=hw 32 9 rfl;have h9:y 9=_:=hd 9 rfl;have ht:=hw 33 10 rfl;have hr:y 10=_:=hd 10 rfl;refine ak (.pointer (some ⟨b,off+(m+1)*7,none⟩)) (gB 2 25 true true rfl rfl ((hw 25 2 rfl).trans (hd 2 rfl))) (by simp[execOp,go_sem,hu,h9,ht,hr,hlt,hh,hg,hf]) rfl
     ·intro ρ y W hw hn hb hd;have hs:=hw 35 12 rfl;have hq:y 12=_:=hd 12 rfl;have s:=(hm.below hb).cells.1;refine ak (.int .i64 A1.fr) (gB 2 25 true true rfl rfl ((hw 25 2 rfl).trans (hd 2 rfl))) (by simp[execOp,go_sem,hs,hq,s]) rfl
     ·intro ρ y W hw hn hb hd;have hP:=hw 39 16 rfl;have h16:y 16=_:=hd 16 rfl;have hO:=hw 41 18 rfl;have hJ:y 18=_:=hd 18 rfl;refine ak (.pointer (some ⟨b,off+m*7,none⟩)) (gB 15 38 false false rfl rfl ((hw 38 15 rfl).trans (hd 15 rfl))) (by simp[execOp,go_sem,hP,h16,hO,hJ,x]) rfl
     ·intro ρ y W hw hn hb hd;have hM:=hw 43 20 rfl;have hH:y 20=_:=hd 20 rfl;have hL:=hw 44 21 rfl;have hG:y 21=_:=hd 21 rfl;refine ak (.pointer (some ⟨b,off+(m+1)*7,none⟩)) (gB 15 38 false false rfl rfl ((hw 38 15 rfl).trans (hd 15 rfl))) (by simp[execOp,go_sem,hM,hH,hL,hG,hlt,hh,hg,hf]) rfl
     ·intro ρ y W hw hn hb hd;have hN:=hw 42 19 rfl;have hI:y 19=_:=hd 19 rfl;have hK:=hw 45 22 rfl;have hF:y 22=_:=hd 22 rfl;have EF:∀f,ρ (.func f) = .func (.func f) #[] #[]:=fun f=>hn (.func f) trivial;refine aK _ _ (gB 15 38 false false rfl rfl ((hw 38 15 rfl).trans (hd 15 rfl))) (aQ rfl (EF _) func148 (by kernel_rfl) (by kernel_rfl) (by simp only[bT,bF,bI,hN,hI,hK,hF,EF];rfl)) ?_;refine (Af b (off+m*7) b (off+(m+1)*7) A0 A1 W (hi.below hb) (hm.below hb) hR).mono ?_;rintro r w1 ⟨rfl,hE⟩;rw[hj];exact⟨_,rfl,hE,rfl⟩
     intro y WA q _;have d:=ah j q;have g:=n.ext q;have hU:Hid (∀i (h:i<l.length),i<m+1+1→cZ l[i]=0):=ae (nH hp.out hlt (by rw[hA1];exact u.out));clear j n hh hg hf hc ha;go_wp2;go_roundw
     case rel=>exact⟨m+1+1,by omega,by go_num,d,g,hU.out,hB⟩
     case measure=>simp[intOf];omega
    have hz:Hid (dH l=(2,((m+1:Nat):Int))):=ae (by rw[z.out];exact Eh hlt (by rw[hA1];exact u.out) (by rw[hA1,hC.out,hj,Bool.or_true]));refine aP 26 [_,_,_,_,_,_,.v (.pointer (some ⟨b,off+m*7,none⟩)),_,.v (.int .i64 A0.en),_,_,.v (.pointer (some ⟨b,off+(m+1)*7,none⟩)),_,.v (.int .i64 A1.fr),_,_,_,_,_,.v (.pointer (some ⟨b,off+m*7,none⟩)),_,_,.v (.pointer (some ⟨b,off+(m+1)*7,none⟩)),.v (.bool true),_,.v (.bool true)] (Gk rfl (Gb (.bool true) (by simp[go_sem]) rfl rfl rfl rfl rfl (Gk rfl (Gk rfl (Gk rfl (Gb (.int .i64 (m:Int)) (by simp[go_sem,hc,ha]) rfl rfl rfl rfl rfl (aj ?_ (Gf b (off+m*7+1) rfl rfl (aj ?_ (Gk rfl (Gk rfl (aj ?_ (Gf b (off+(m+1)*7) rfl rfl (aj ?_ (Gb (.bool false) (by simp[go_sem,hov]) rfl rfl rfl rfl rfl (Gk rfl (Gk rfl (Gk rfl (Gb (.int .i64 (m:Int)) (by simp[go_sem,hc,ha]) rfl rfl rfl rfl rfl (aj ?_ (Gk rfl (Gk rfl (aj ?_ (aj ?_ (Gk rfl (Gk rfl (aF))))))))))))))))))))))))))) (fun _=>rfl) rfl ?_
    ·intro ρ y W hw hn hb hd;have hy:=hw 26 3 rfl;have h3:y 3=_:=hd 3 rfl;have hx:=hw 28 5 rfl;have h5:y 5=_:=hd 5 rfl;refine ak (.pointer (some ⟨b,off+m*7,none⟩)) (gB 2 25 true true rfl rfl ((hw 25 2 rfl).trans (hd 2 rfl))) (by simp[execOp,go_sem,hy,h3,hx,h5,x]) rfl
    ·intro ρ y W hw hn hb hd;have hv:=hw 30 7 rfl;have h7:y 7=_:=hd 7 rfl;have s:=(hi.below hb).cells.2.1;refine ak (.int .i64 A0.en) (gB 2 25 true true rfl rfl ((hw 25 2 rfl).trans (hd 2 rfl))) (by simp[execOp,go_sem,hv,h7,s]) rfl
    ·intro ρ y W hw hn hb hd;have hu:=hw 32 9 rfl;have h9:y 9=_:=hd 9 rfl;have ht:=hw 33 10 rfl;have hr:y 10=_:=hd 10 rfl;refine ak (.pointer (some ⟨b,off+(m+1)*7,none⟩)) (gB 2 25 true true rfl rfl ((hw 25 2 rfl).trans (hd 2 rfl))) (by simp[execOp,go_sem,hu,h9,ht,hr,hlt,hh,hg,hf]) rfl
    ·intro ρ y W hw hn hb hd;have hs:=hw 35 12 rfl;have hq:y 12=_:=hd 12 rfl;have s:=(hm.below hb).cells.1;refine ak (.int .i64 A1.fr) (gB 2 25 true true rfl rfl ((hw 25 2 rfl).trans (hd 2 rfl))) (by simp[execOp,go_sem,hs,hq,s]) rfl
    ·intro ρ y W hw hn hb hd;have hP:=hw 39 16 rfl;have h16:y 16=_:=hd 16 rfl;have hO:=hw 41 18 rfl;have hJ:y 18=_:=hd 18 rfl;refine ak (.pointer (some ⟨b,off+m*7,none⟩)) (gB 15 38 false false rfl rfl ((hw 38 15 rfl).trans (hd 15 rfl))) (by simp[execOp,go_sem,hP,h16,hO,hJ,x]) rfl
    ·intro ρ y W hw hn hb hd;have hM:=hw 43 20 rfl;have hH:y 20=_:=hd 20 rfl;have hL:=hw 44 21 rfl;have hG:y 21=_:=hd 21 rfl;refine ak (.pointer (some ⟨b,off+(m+1)*7,none⟩)) (gB 15 38 false false rfl rfl ((hw 38 15 rfl).trans (hd 15 rfl))) (by simp[execOp,go_sem,hM,hH,hL,hG,hlt,hh,hg,hf]) rfl
    ·intro ρ y W hw hn hb hd;have hN:=hw 42 19 rfl;have hI:y 19=_:=hd 19 rfl;have hK:=hw 45 22 rfl;have hF:y 22=_:=hd 22 rfl;have EF:∀f,ρ (.func f) = .func (.func f) #[] #[]:=fun f=>hn (.func f) trivial;refine aK _ _ (gB 15 38 false false rfl rfl ((hw 38 15 rfl).trans (hd 15 rfl))) (aQ rfl (EF _) func148 (by kernel_rfl) (by kernel_rfl) (by simp only[bT,bF,bI,hN,hI,hK,hF,EF];rfl)) ?_;refine (Af b (off+m*7) b (off+(m+1)*7) A0 A1 W (hi.below hb) (hm.below hb) hR).mono ?_;rintro r w1 ⟨rfl,hE⟩;rw[hj];exact⟨_,rfl,hE,rfl⟩
    intro y WA q _;have d:=ah j q;have g:=n.ext q;clear j n
    go_wp2_with (refine ax rfl _ _ _ rfl w.heap.size #[.int .i64 (2),.int .i64 (((m+1:Nat):Int))] rfl rfl _ _ g rfl fau_size (xe _ _) ?_)
    intro w5 t p;have o:Below w.heap.size w w5:=d.grown p d.size (fun k hk=>by cases hk;exact az _);go_wp2;refine bodyPost_ret (v:=.agg #[.int .i64 (2),.int .i64 (((m+1:Nat):Int))]) (aY results96 _ _ w.heap.size _ _ _ rfl t underlying166 rfl fau_size) rfl ?_;exact⟨by rw[hz.out];rfl,o⟩
   have hz:Hid (dH l=(cZ l[k],(k:Int))):=ae (by rw[z.out];exact OO hlt he);have u : (cZ l[k] != 0)=true:=by simpa using he
   have d:=j;have g:=n;clear he j n
   go_wp2_with (refine ax rfl _ _ _ rfl w.heap.size #[.int .i64 (cZ l[k]),.int .i64 (k)] rfl rfl _ _ g rfl fau_size (xe _ _) ?_)
   intro w5 t p;have o:Below w.heap.size w w5:=d.grown p d.size (fun k hk=>by cases hk;exact az _);go_wp2;refine bodyPost_ret (v:=.agg #[.int .i64 (cZ l[k]),.int .i64 (k)]) (aY results96 _ _ w.heap.size _ _ _ rfl t underlying166 rfl fau_size) rfl ?_;exact⟨by rw[hz.out];rfl,o⟩
  have hz:Hid (dH l=(0,0)):=ae (by rw[z.out,uF (by omega)];rfl)
  go_wp2_with (refine ax rfl _ _ _ rfl w.heap.size #[.int .i64 (0),.int .i64 (0)] rfl rfl _ _ g rfl fau_size (xe _ _) ?_)
  intro w5 t p;have o:Below w.heap.size w w5:=d.grown p d.size (fun k hk=>by cases hk;exact az _);go_wp2;refine bodyPost_ret (v:=.agg #[.int .i64 (0),.int .i64 (0)]) (aY results96 _ _ w.heap.size _ _ _ rfl t underlying166 rfl fau_size) rfl ?_;exact⟨by rw[hz.out];rfl,o⟩
theorem Ci {l:List Ar} (h:eB w a (l.flatMap fA)) (k:Nat) (hk:k<l.length):∃b off,a=some ⟨b,off,none⟩∧w.cell? ⟨b,off+k*7,none⟩=some (.int .i64 l[k].fr)∧w.cell? ⟨b,off+k*7+1,none⟩=some (.int .i64 l[k].en)∧w.cell? ⟨b,off+k*7+2,none⟩=some (.bool l[k].rd)∧w.cell? ⟨b,off+k*7+3,none⟩=some (.bool l[k].wr) ∧
  w.cell? ⟨b,off+k*7+4,none⟩=some (.bool l[k].sh)∧w.cell? ⟨b,off+k*7+5,none⟩=some (.int .i64 l[k].fi)∧w.cell? ⟨b,off+k*7+6,none⟩=some (.int .i64 l[k].ba):=by
 obtain⟨b,off,e,h1⟩:=QX h k hk;exact⟨b,off,e,h1.cells⟩
theorem NF (a:Ar) (g:Nat) (n:Int) (w:World) (hg:aJ w g #[.int .i64 n] 3) :
  Calls Tryz.prog 151 #[.agg #[.int .i64 a.fr,.int .i64 a.en,.bool a.rd,.bool a.wr,.bool a.sh,.int .i64 a.fi,.int .i64 a.ba],.pointer (some ⟨g,0,none⟩)] w fun r w'=>r = .returned (.bool (uW n a))∧Below w.heap.size w w':=by
 go_enter func151,ntmps151;go_upto_region 1 with (fail);refine jl (fun W=>Code.wp _ _ _ _ W) fun W0 b c d => ?_;clear d;have e:=(hg.ext b).cell 0;have f:=c.cell
 by_cases h1:a.fr≤n
 ·by_cases h2:n<a.en
  ·have hz:=ae (show uW n a=true by unfold uW;rw[decide_eq_true h1,decide_eq_true h2];rfl);go_wp2;go_ret;exact⟨bK hz.out.symm,b⟩
  have hz:=ae (show uW n a=false by unfold uW;rw[decide_eq_false h2,kZ]);go_wp2;go_ret;exact⟨bK hz.out.symm,b⟩
 have hz:=ae (show uW n a=false by unfold uW;rw[decide_eq_false h1,lg]);go_wp2;go_ret;exact⟨bK hz.out.symm,b⟩
theorem Ka (l:List Ar) (a:Option Addr) (c:Nat) (w:World) (hrd:eB w a (l.flatMap fA)) (hl:l.length≤9223372036854775807) (g:Nat) (n:Int) (hg:aJ w g #[.int .i64 n] 3) :
  Calls Tryz.prog 150 #[.slice a l.length c,.func (.func 151) #[] #[.pointer (some ⟨g,0,none⟩)]] w fun e w'=>e = .returned (.int .i64 (idx (uW n) l))∧Below w.heap.size w w':=by
 go_enter func150,ntmps150;go_wp2
 go_loopw [8] (fun i wr => ∃k:Nat,k≤l.length∧i = .int .i64 k∧Below w.heap.size w wr∧∀i (h:i<l.length),i<k→(uW n) l[i]=false) (fun i _=>l.length-(intOf i).toNat)
 case atStart=>exact⟨0,bB _,rfl,Below.refl _ _,fun i _ h=>absurd h (gL _)⟩
 case round=>
  obtain⟨k,hk,rfl,j,o⟩:=hrel;have hp:=ae o;clear o
  by_cases hlt:k<l.length
  ·obtain⟨b,off,rfl,c0,c1,c2,c3,c4,c5,c6⟩:=Ci (hrd.below j) k hlt
   go_wp2_with fail
   refine (NF l[k] g n _ (hg.ext j)).mono ?_;rintro e w2 ⟨rfl,p⟩;have f:=ah j p;clear p;cases hpk:(uW n) l[k]
   ·have m:=ae hpk;clear hpk;go_wp2;go_roundw
    case rel=>exact⟨k+1,by omega,by go_num,f,nH hp.out hlt m.out⟩
    case measure=>simp[intOf];omega
   have d:=ae (pz (uW n) l k hlt hp.out hpk);clear hpk;go_wp2;go_ret;exact⟨bi d.out.symm,f⟩
  have d:=ae (ky (uW n) l fun i h=>hp.out i h (by omega));go_wp2;go_ret;exact⟨bi d.out.symm,j⟩
theorem EL (l:List Ar) (n:Int) (a:Option Addr) (c:Nat) (w:World) (hrd:eB w a (l.flatMap fA)) (hl:l.length≤9223372036854775807) :
  Calls Tryz.prog 98 #[.slice a l.length c,.int .i64 n] w fun r w'=>r = .returned (.int .i64 (fB l n))∧Below w.heap.size w w':=by
 go_enter func98,ntmps98;go_upto_region 1 with (fail);refine jl (fun W=>Code.wp _ _ _ _ W) fun W0 b d e => ?_;clear e
 go_wp2_with fail
 refine (Ka l a c _ (hrd.below b) hl w.heap.size n d).mono ?_;rintro r w1 ⟨rfl,f⟩;go_wp2;go_ret;exact⟨rfl,ah b f⟩
theorem Rm (a b:Ar) (g:Nat) (w:World) (hg:aJ w g (kE b) 143) :
  Calls Tryz.prog 153 #[.agg #[.int .i64 a.fr,.int .i64 a.en,.bool a.rd,.bool a.wr,.bool a.sh,.int .i64 a.fi,.int .i64 a.ba],.pointer (some ⟨g,0,none⟩)] w fun r w'=>r = .returned (.bool (iP b a))∧Below w.heap.size w w':=by
 go_enter func153,ntmps153;go_upto_region 1 with (fail);refine jl (fun W=>Code.wp _ _ _ _ W) fun W0 c d e => ?_;clear e;have f:=(hg.ext c).cell;unfold kE at f;have h:=d.cell
 by_cases h1:a.fr<b.en
 ·by_cases h2:b.fr<a.en
  ·have hz:=ae (show iP b a=true by unfold iP;rw[decide_eq_true h1,decide_eq_true h2];rfl);go_wp2;go_ret;exact⟨bK hz.out.symm,c⟩
  have hz:=ae (show iP b a=false by unfold iP;rw[decide_eq_false h2,kZ]);go_wp2;go_ret;exact⟨bK hz.out.symm,c⟩
 have hz:=ae (show iP b a=false by unfold iP;rw[decide_eq_false h1,lg]);go_wp2;go_ret;exact⟨bK hz.out.symm,c⟩
theorem Qa (a b:Ar) (g:Nat) (w:World) (hg:aJ w g (kE b) 143) :
  Calls Tryz.prog 154 #[.agg #[.int .i64 a.fr,.int .i64 a.en,.bool a.rd,.bool a.wr,.bool a.sh,.int .i64 a.fi,.int .i64 a.ba],.pointer (some ⟨g,0,none⟩)] w fun r w'=>r = .returned (.bool (kN b a))∧Below w.heap.size w w':=by
 go_enter func154,ntmps154;go_upto_region 1 with (fail);refine jl (fun W=>Code.wp _ _ _ _ W) fun W0 c d e => ?_;clear e;have f:=(hg.ext c).cell;unfold kE at f;have h:=d.cell;go_wp2;go_ret;exact⟨rfl,c⟩
theorem JX (l:List Ar) (a:Option Addr) (c:Nat) (w:World) (hrd:eB w a (l.flatMap fA)) (hl:l.length≤9223372036854775807) (g:Nat) (x:Ar) (hg:aJ w g (kE x) 143) :
  Calls Tryz.prog 150 #[.slice a l.length c,.func (.func 153) #[] #[.pointer (some ⟨g,0,none⟩)]] w fun e w'=>e = .returned (.int .i64 (idx (iP x) l))∧Below w.heap.size w w':=by
 go_enter func150,ntmps150;go_wp2
 go_loopw [8] (fun i wr => ∃k:Nat,k≤l.length∧i = .int .i64 k∧Below w.heap.size w wr∧∀i (h:i<l.length),i<k→(iP x) l[i]=false) (fun i _=>l.length-(intOf i).toNat)
 case atStart=>exact⟨0,bB _,rfl,Below.refl _ _,fun i _ h=>absurd h (gL _)⟩
 case round=>
  obtain⟨k,hk,rfl,j,n⟩:=hrel;have hp:=ae n;clear n
  by_cases hlt:k<l.length
  ·obtain⟨b,off,rfl,c0,c1,c2,c3,c4,c5,c6⟩:=Ci (hrd.below j) k hlt
   go_wp2_with fail
   refine (Rm l[k] x g _ (hg.ext j)).mono ?_;rintro e w2 ⟨rfl,o⟩;have f:=ah j o;clear o;cases hpk:(iP x) l[k]
   ·have m:=ae hpk;clear hpk;go_wp2;go_roundw
    case rel=>exact⟨k+1,by omega,by go_num,f,nH hp.out hlt m.out⟩
    case measure=>simp[intOf];omega
   have d:=ae (pz (iP x) l k hlt hp.out hpk);clear hpk;go_wp2;go_ret;exact⟨bi d.out.symm,f⟩
  have d:=ae (ky (iP x) l fun i h=>hp.out i h (by omega));go_wp2;go_ret;exact⟨bi d.out.symm,j⟩
theorem Jg (l:List Ar) (a:Option Addr) (c:Nat) (w:World) (hrd:eB w a (l.flatMap fA)) (hl:l.length≤9223372036854775807) (g:Nat) (x:Ar) (hg:aJ w g (kE x) 143) :
  Calls Tryz.prog 152 #[.slice a l.length c,.func (.func 153) #[] #[.pointer (some ⟨g,0,none⟩)]] w fun e w'=>e = .returned (.bool (l.any (iP x)))∧Below w.heap.size w w':=by
 go_enter func152,ntmps152
 go_wp2_with fail
 refine (JX l a c _ hrd hl g x hg).mono ?_;rintro e w2 ⟨rfl,b⟩;go_wp2;go_ret;exact⟨bK (pW _ _),b⟩
theorem Ep (l:List Ar) (a:Option Addr) (c:Nat) (w:World) (hrd:eB w a (l.flatMap fA)) (hl:l.length≤9223372036854775807) (g:Nat) (x:Ar) (hg:aJ w g (kE x) 143) :
  Calls Tryz.prog 150 #[.slice a l.length c,.func (.func 154) #[] #[.pointer (some ⟨g,0,none⟩)]] w fun e w'=>e = .returned (.int .i64 (idx (kN x) l))∧Below w.heap.size w w':=by
 go_enter func150,ntmps150;go_wp2
 go_loopw [8] (fun i wr => ∃k:Nat,k≤l.length∧i = .int .i64 k∧Below w.heap.size w wr∧∀i (h:i<l.length),i<k→(kN x) l[i]=false) (fun i _=>l.length-(intOf i).toNat)
 case atStart=>exact⟨0,bB _,rfl,Below.refl _ _,fun i _ h=>absurd h (gL _)⟩
 case round=>
  obtain⟨k,hk,rfl,j,n⟩:=hrel;have hp:=ae n;clear n
  by_cases hlt:k<l.length
  ·obtain⟨b,off,rfl,c0,c1,c2,c3,c4,c5,c6⟩:=Ci (hrd.below j) k hlt
   go_wp2_with fail
   refine (Qa l[k] x g _ (hg.ext j)).mono ?_;rintro e w2 ⟨rfl,o⟩;have f:=ah j o;clear o;cases hpk:(kN x) l[k]
   ·have m:=ae hpk;clear hpk;go_wp2;go_roundw
    case rel=>exact⟨k+1,by omega,by go_num,f,nH hp.out hlt m.out⟩
    case measure=>simp[intOf];omega
   have d:=ae (pz (kN x) l k hlt hp.out hpk);clear hpk;go_wp2;go_ret;exact⟨bi d.out.symm,f⟩
  have d:=ae (ky (kN x) l fun i h=>hp.out i h (by omega));go_wp2;go_ret;exact⟨bi d.out.symm,j⟩
theorem JC (a:Option Addr) (n c:Nat) (w:World) (hn:n≤9223372036854775807) :
  Calls Tryz.prog 155 #[.slice a n c] w fun r w'=>r = .returned (.tuple #[if 16<n then .slice none 0 0 else .slice a n c,.int .i64 (if 16<n then 4 else 0)])∧w=w':=by
 go_enter func155,ntmps155
 by_cases h:16<n
 ·have hi:(16:Int)<(n:Int):=by omega
  go_wp2;go_ret2;exact⟨rfl,rfl⟩
 have hi:¬(16:Int)<(n:Int):=by omega
 go_wp2;go_ret2;exact⟨rfl,rfl⟩
theorem lu (l:List Ar):(l.flatMap fA).length=l.length*7:=Pw.flat_len fA 7 jo l
theorem Hr (a:Ar):∀u∈fA a,u.oneCell' = true:=by
 intro u hu;simp only[fA,kE,fE,nZ,or_false] at hu;rcases hu with rfl|rfl|rfl|rfl|rfl|rfl|rfl<;>rfl
theorem qh (l:List Ar):∀u∈l.flatMap fA,u.oneCell' = true:=by
 intro u hu;obtain⟨a,_,h⟩:=ji.1 hu;exact Hr a u h
theorem vF (l:List Ar) (a:Option Addr) (c:Nat) (w:World) (hle:l.length≤c) (hnil:a=none→c=0) (hrd:eB w a (l.flatMap fA)) (hb:l.length*40≤140737488355328) :
  Calls Tryz.prog 62 #[.slice a l.length c] w fun e w' => ∃v,e = .returned v∧Own w' w.heap.size 143 7 v l.length (l.flatMap fA)∧Below w.heap.size w w':=by
 cases a with
 | none=>
  have h0:=hnil rfl;have hl:l=[]:=jX (by omega);subst hl;subst h0;have hq:=fun W=>lI (P:=Tryz.prog) W 80 _ none 0 0 0 0 underlying80;go_enter func62,ntmps62;go_wp2;go_ret;exact⟨_,rfl,by simpa using Own.nil _ _ _ _,Below.refl _ _⟩
 | some ad=>
  have hq:=fun W=>lI (P:=Tryz.prog) W 80 _ (some ad) l.length c 0 0 underlying80;go_enter func62,ntmps62
  go_wp2_with (at_builtin;go_must (refine eH rfl _ _ 80 rfl w.heap.size 143 (.agg #[.int .i64 0,.int .i64 0,.bool false,.bool false,.bool false,.int .i64 0,.int .i64 0]) 7 40 underlying80 area_info rfl (by decide) _ 0 [] rfl ?own (some ad) l.length c (l.flatMap fA) rfl (fun h=>(by cases h)) hle (lu l) ?rd (qh l) (by unfold maxLen;omega) (by simpa using hb) ?bb ?k))
  case own=>exact⟨rfl,.inr ⟨w.heap.size,0,0,#[],rfl,az _,aJ.new _ _ _,az _,bB _,by simp,fun j u h=>by simp at h⟩⟩
  case rd=>exact hrd.below ((Below.refl _ _).alloc (az _) _)
  case bb=>exact dV _ _
  intro v w1 b d;go_wp2;go_ret;exact⟨v,rfl,by simpa using b,((Below.refl _ _).alloc (az _) _).grown d (dV _ _) (fun k hk=>by cases hk;exact az _)⟩
theorem xO.blk {a:Ar} (h:aJ w b (kE a) T):xO w b 0 a:=fun j u hj=>by rw[h.cell,dA];simpa[fA] using hj
theorem JP (l:List Ar) (a:Option Addr) (c:Nat) (w:World) (hrd:eB w a (l.flatMap fA)) (hl:l.length≤1000) (hf:∀x∈l,qU x) :
  Calls Tryz.prog 156 #[.slice a l.length c] w fun r w' => ∃v,r = .returned v∧Own w' w.heap.size 143 7 v (bH l).length ((bH l).flatMap fA)∧Below w.heap.size w w':=by
 go_enter func156,ntmps156;go_upto_region 3 with (fail)
 go_loopw [9,3] (fun i s wr => ∃k:Nat,k≤l.length∧i = .int .i64 k∧Below w.heap.size w wr∧Own wr w.heap.size 143 7 s (bH (l.take k)).length ((bH (l.take k)).flatMap fA)) (fun i _ _=>l.length-(intOf i).toNat)
 case atStart=>exact⟨0,bB _,rfl,Below.refl _ _,by simpa[bH] using Own.nil _ _ _ _⟩
 case round=>
  obtain⟨k,hk,rfl,hq,z⟩:=hrel
  by_cases hlt:k<l.length
  ·have t:=ae (zL hlt);have hx:=hf l[k] (eZ _);have hm:=IZ hf k hk;have hI:=IR l k hk;generalize hacc:bH (l.take k)=acc at *
   obtain⟨b,off,rfl,c0,c1,c2,c3,c4,c5,c6⟩:=Ci (hrd.below hq) k hlt;generalize l[k]=A at *
   go_upto_region 5 with (fail);refine jl (fun W=>Code.wp _ _ _ _ W) fun W0 hz ha hD => ?_;clear hD c0 c1 c2 c3 c4 c5 c6;have f:=ah hq hz;have d:=z.below hz;clear hq z hz;obtain⟨a1,c1,hs,_⟩:=d.rd
   by_cases h0:acc.length=0
   ·have hd:Hid (bH (l.take (k+1))=acc++[A]):=ae (by rw[t.out,jX h0];rfl);subst hs;have hp:=ha.cell;have hE:IntKind.i64.wrap ((acc.length:Int)-1) = -1:=by rw[h0];rfl
    clear t hm hx h0
    go_wp2_with (first | (refine aC _ _ rfl _ 0 rfl rfl _ ha.rd _ underlying143 rfl area_size ?_) | (at_builtin;refine eH rfl _ _ 80 rfl w.heap.size 143 _ 7 40 underlying80 area_info rfl (by decide) _ acc.length (acc.flatMap fA) rfl (d.alloc _) (some ⟨W0.heap.size,0,none⟩) 1 1 (fA A) rfl (fun h=>(by cases h)) (az _) rfl (eB.new _ (kE A) _) (fun u hu=>qh [A] u (by simpa using hu)) (by unfold maxLen;omega) (by omega) (eF f.size _) ?_))
    intro v W6 m q;have o:Below w.heap.size w W6:=(f.alloc f.size _).grown q (eF f.size _) (d.alloc (.cells (kE A) 143)).ge;have j:Own W6 w.heap.size 143 7 v (bH (l.take (k+1))).length ((bH (l.take (k+1))).flatMap fA):=by rw[hd.out,gK,iK];simpa using m
    clear m q;go_wp2;go_roundw
    case rel=>exact⟨k+1,by omega,by go_num,o,j⟩
    case measure=>simp[intOf];omega
   obtain⟨n,hi⟩:∃n,acc.length=n+1:=⟨acc.length-1,by omega⟩;have hn:=ae hi;have hA:n<acc.length:=by omega
   have hJ:(n:Int)<(acc.length:Int):=by omega
   have hE:IntKind.i64.wrap ((acc.length:Int)-1)=(n:Int):=by rw[bP _ (by omega)];omega
   have hg:acc.getLast?=some acc[n]:=by rw[List.getLast?_eq_getElem?,aN (by omega)];simp[hi]
   have hc:mZ acc A=if dI acc[n] A then acc.set n { acc[n] with en:=A.en } else acc++[A]:=by unfold mZ;rw[hg];simp[hi]
   have hw:=hm acc[n] (eZ _);rw[hc] at t;obtain⟨g,off1,cap1,hb,hB,hG,⟨csg,ht⟩,hh,hv,y⟩:=vS jo (by decide) rfl d n hA 1 (by decide) (.int .i64 A.en) { acc[n] with en:=A.en } rfl;rw[hs] at hb;simp only[lH,true_and] at hb;obtain⟨e1,e2⟩:=hb;subst e1 e2;subst hs;have hQ:xO W0 g (off1+n*7) acc[n]:=hh;have hC:=xO.blk ha;clear hi hg hc hh y hv ht;generalize hQQ:acc[n]=Q at *
   have hp:=ha.cell
   go_wp2_with fail
   refine (Af g (off1+n*7) wr.heap.size 0 Q A _ hQ hC hw).mono ?_;rintro r W2 ⟨rfl,hy⟩;have e:=ah f hy;have hr:=ha.ext hy;have p:=d.below hy;clear hp f d hC hQ;have hp:=hr.cell;cases hj:dI Q A
   ·have hd:Hid (bH (l.take (k+1))=acc++[A]):=ae (by rw[t.out,hj];rfl);clear t hm hx hw
    go_wp2_with (first | (refine aC _ _ rfl _ 0 rfl rfl _ hr.rd _ underlying143 rfl area_size ?_) | (at_builtin;refine eH rfl _ _ 80 rfl w.heap.size 143 _ 7 40 underlying80 area_info rfl (by decide) _ acc.length (acc.flatMap fA) rfl (p.alloc _) (some ⟨W2.heap.size,0,none⟩) 1 1 (fA A) rfl (fun h=>(by cases h)) (az _) rfl (eB.new _ (kE A) _) (fun u hu=>qh [A] u (by simpa using hu)) (by unfold maxLen;omega) (by omega) (eF e.size _) ?_))
    intro v W6 m q;have o:Below w.heap.size w W6:=(e.alloc e.size _).grown q (eF e.size _) (p.alloc (.cells (kE A) 143)).ge;have j:Own W6 w.heap.size 143 7 v (bH (l.take (k+1))).length ((bH (l.take (k+1))).flatMap fA):=by rw[hd.out,gK,iK];simpa using m
    clear m q;go_wp2;go_roundw
    case rel=>exact⟨k+1,by omega,by go_num,o,j⟩
    case measure=>simp[intOf];omega
   have hd:Hid (bH (l.take (k+1))=acc.set n { acc[n] with en:=A.en }):=ae (by rw[t.out,hj,hQQ];rfl);clear t hm hx hw;obtain⟨g',off1',cap1',hb,hB,hG,⟨csg,ht⟩,hh,hv,y⟩:=vS jo (by decide) rfl p n hA 1 (by decide) (.int .i64 A.en) { acc[n] with en:=A.en } rfl;cases hb;have hH:=hh 1 _ rfl;clear hh hQQ;go_upto_region 9 with (fail);have o:Below w.heap.size w (W2.setCell ⟨g,off1+n*7+1,none⟩ (.int .i64 A.en)):=e.setCell hB _;have j:Own (W2.setCell ⟨g,off1+n*7+1,none⟩ (.int .i64 A.en)) w.heap.size 143 7 (.slice (some ⟨g,off1,none⟩) acc.length c1) (bH (l.take (k+1))).length ((bH (l.take (k+1))).flatMap fA):=by rw[hd.out,dM];exact y
   clear y p hr e hp hv hH ht;go_wp2;go_roundw
   case rel=>exact⟨k+1,by omega,by go_num,o,j⟩
   case measure=>simp[intOf];omega
  have hF:k=l.length:=by omega
  subst hF;rw[wF] at z;go_wp2;go_ret;exact⟨_,rfl,z,hq⟩
structure QY (w:World) (a:Option Addr) (c:Nat) (l:List Ar):Prop where
 le:l.length≤c
 mx:c≤maxLen
 nl:a=none→c=0
 rd:eB w a (l.flatMap fA)
theorem QY.below {l:List Ar} (h:QY w a c l) (hb:Below w.heap.size w w'):QY w' a c l:=⟨h.le,h.mx,h.nl,h.rd.below hb⟩
theorem QY.of {l:List Ar} (h:Own w B 143 7 v l.length (l.flatMap fA)):∃a c,v = .slice a l.length c∧QY w a c l:=by
 obtain⟨a,c,h1,h2,h3,h4,h5⟩:=h.rd;exact⟨a,c,h1,h2,h3,h4,h5⟩
theorem jR (w:World) (dT sT ty elem:TypeId) (sz g o dLen dCap:Nat) (a:Addr) (sLen sCap n:Nat) (cs:List Value) (cur:Array Value) (T:TypeId)
 (hu:P.underlying dT=some (.slice elem)) (hs:(P.info? elem).map (·.size)=some sz) (hn:Nat.min sLen dLen=n) (hl:cs.length=n*sz) (hg:aJ w g cur T)
 (hsrc:∀j v,cs[j]?=some v→w.cell? (a.add j)=some v) (hfit:o+cs.length≤cur.size) (h1:∀v∈cs,v.oneCell' = true) :
  (Builtin.copy_ #[dT,sT] ty #[.slice (some ⟨g,o,none⟩) dLen dCap,.slice (some a) sLen sCap]).run P w = .ok (goInt n) (w.setCells g o cs):=by
 have c:=run_loadCells_list (P:=P) w a cs hsrc;have b:=run_storeCells_cells (P:=P) g o cs 0 w (fun j hj=>by rw[kU,hg.cell];simp[show o+j<cur.size by omega]) (fun j hj=>hg.free _) h1;cases hq:P.info? elem with
 | none=>simp[hq] at hs
 | some i=>
  have hi:i.size=sz:=by simpa[hq] using hs
  simp[Builtin.copy_,run_underlying hu,Builtin.lenOf,Builtin.firstCells,sizeOf,typeInfo,hq,hi,hn,←hl,c,b]
theorem Sj (w:World) {a:Act} (hgd:o.guard=none) (d s:Operand) (t t' : TypeId)
 (ho:o.op = .call { callee:=.builtin .copy,args:=#[d,s],argTypes:=#[t,t'] }) (v u:Value) (hd:a.eval d=v) (hs:a.eval s=u) 
 (hr:(Builtin.copy_ #[t,t'] o.type #[v,u]).run P w = .ok v' w') (h:wpList P ops Q rest (a.put o.dst v') w'):wpList P ops Q (o::rest) a w:=
 wpList_plain hgd fun K hK=>by unfold Oper.wp execOp;simp only[ho,resolve,invoke,builtin,jZ,pu,oZ,bT,bF,bI,hd,hs,hr];exact hK _ _ h
theorem yI {a:Act} {K:Act→World→Prop} {E:Prop}
 (hg:o.guard=none) (d x:Operand) (dT sT:TypeId) (hop:o.op=Op.call { callee:=Callee.builtin Builtin.copy,args:=#[d,x],argTypes:=#[dT,sT] })
 (v u:Value) (hd:a.eval d=v) (hx:a.eval x=u) (hr:(Builtin.copy_ #[dT,sT] o.type #[v,u]).run P w = .ok v' w') (hK:K (a.put o.dst v') w') :
  if Region.wanted o (yielded ops a.tmps)=true then Oper.wp P o a w K Q else E:=by
 have hw:Region.wanted o (yielded ops a.tmps)=true:=by simp[Region.wanted,hg]
 rw[if_pos hw];unfold Oper.wp;simp[execOp,hop,resolve,invoke,builtin,hd,hx,hr,Result.andThen];exact hK
theorem Dk (l:List Ar) (x:Ar) (k:Nat):(l.take k++x::l.drop k).flatMap fA=(l.take k).flatMap fA++(fA x++(l.drop k).flatMap fA):=by simp[gK]
theorem EZ {l:List Ar} {x:Ar} {o:Nat} (hk:k≤l.length) (h1:∀j u,((l.take k).flatMap fA)[j]?=some u→cur[o+j]?=some u) (h2:∀j u,(fA x)[j]?=some u→cur[o+k*7+j]?=some u)
 (h3:∀j u,((l.drop k).flatMap fA)[j]?=some u→cur[o+(k+1)*7+j]?=some u):∀j u,((l.take k++x::l.drop k).flatMap fA)[j]?=some u→cur[o+j]?=some u:=by
 intro j u hj;have a:((l.take k).flatMap fA).length=k*7:=by rw[lu,fq,qN hk]
 rw[Dk] at hj
 by_cases c1:j<k*7
 ·rw[il (by omega)] at hj;exact h1 j u hj
 rw[iN (by omega),a] at hj
 by_cases c2:j-k*7<7
 ·rw[il (by rw[jo];exact c2)] at hj;have:=h2 _ u hj;rwa [show o+k*7+(j-k*7)=o+j by omega] at this
 rw[iN (by rw[jo];omega),jo] at hj;have:=h3 _ u hj;rwa [show o+(k+1)*7+(j-k*7-7)=o+j by omega] at this
theorem Mo {l:List Ar} {o:Nat} (h:∀j u,(l.flatMap fA)[j]?=some u→cur[o+j]?=some u):∀j u,((l.take k).flatMap fA)[j]?=some u→cur[o+j]?=some u:=by
 intro j u hj;refine h j u ?_
 conv=>lhs;rw[←pR k l,gK]
 rw[il (by have:=(dx.1 hj).1;exact this)];exact hj
theorem Mv {l:List Ar} (hk:k≤l.length) {o:Nat} (h:∀j u,(l.flatMap fA)[j]?=some u→cur[o+j]?=some u):∀j u,((l.drop k).flatMap fA)[j]?=some u→cur[o+k*7+j]?=some u:=by
 intro j u hj;rw[oQ];refine h _ u ?_
 conv=>lhs;rw[←pR k l,gK]
 have a:((l.take k).flatMap fA).length=k*7:=by rw[lu,fq,qN hk]
 rw[iN (by omega),a,yQ];exact hj
theorem CK (l:List Ar) (x:Ar) (k:Nat) (hk:k≤l.length) (v:Value) (B g:Nat) (w:World) (hown:Own w B 143 7 v l.length (l.flatMap fA)) (hB:B≤w.heap.size) (hl:l.length≤1000) (hg:aJ w g (kE x) 143) (hne:k<l.length→∀b,v.ownBlock=some b→g≠b) :
  Calls Tryz.prog 157 #[v,.int .i64 k,.slice (some ⟨g,0,none⟩) 1 1] w fun e w' => ∃v',e = .returned v'∧Own w' B 143 7 v' (l.length+1) ((l.take k++x::l.drop k).flatMap fA)∧w.grownBy w' v.ownBlock:=by
 obtain⟨a0,c0,hs,hI,z,hC,_⟩:=hown.rd;unfold maxLen at z
 by_cases hkl:k=l.length
 ·subst hkl;have ha:(l.take l.length++x::l.drop l.length).flatMap fA=l.flatMap fA++fA x:=by simp[gK]
  have hi:=ae ha;clear ha;subst hs;go_enter func157,ntmps157
  go_wp2_with (at_builtin;refine eH rfl _ _ 80 rfl B 143 _ 7 40 underlying80 area_info rfl (by decide) _ l.length (l.flatMap fA) rfl hown (some ⟨g,0,none⟩) 1 1 (fA x) rfl (fun h=>(by cases h)) (az _) rfl hg.rd (fun u hu=>qh [x] u (by simpa using hu)) (by unfold maxLen;omega) (by omega) hB ?_)
  all_goals
   intro v' w' hh h4;go_wp2;go_ret;exact⟨_,rfl,by rw[hi.out];exact hh,by cases a0<;>exact h4⟩
 have h1:k<l.length:=by omega
 rcases hown with ⟨hlen,⟨_,hz⟩|⟨b,off,c,cur,rfl,hBb,hb,hnc,hmx,hsz,hcell⟩⟩
 ·omega
 have hL:g≠b:=hne h1 b rfl;clear hs hI z hC;have km:=hb.lt;have kj:=hg.lt;have kd:¬((k:Int)=(l.length:Int)):=by omega
 have ki:(k:Int)≤(l.length:Int):=by omega
 have hH:=hmx;unfold maxLen at hH;have kf:IntKind.i64.wrap ((k:Int)+1)=(k:Int)+1:=bP _ (by omega);have ke:IntKind.i64.wrap ((l.length:Int)+1)=(l.length:Int)+1:=bP _ (by omega);have kg:((k:Int)+1).toNat=k+1:=by omega
 have hM:((l.drop k).flatMap fA).length=(l.length-k)*7:=by rw[lu,uJ]
 have kl:¬(c=k):=by omega
 have hN:=Mv hk hcell;have hw:=Mo (k:=k) hcell
 by_cases hroom:l.length+1≤c
 ·have hX:¬((c:Int)<(l.length:Int)+1):=by omega
  have hS:¬(c=k+1):=by omega
  have h2:(0:Int)≤(k:Int)+1:=by omega
  have h6:(k:Int)≤(l.length:Int)+1:=by omega
  have hA:∀lb cb W,W=w→(callFunc 188 #[.slice (some ⟨g,0,none⟩) 1 1,.slice (some ⟨b,off+(k+1)*7,none⟩) lb cb]).run Tryz.prog W = .ok (.value (.bool false)) W:=by
   intro lb cb W hW;subst hW;have hx:∀w,(Go.sizeOf 143).run Tryz.prog w = .ok 7 w:=by
    intro w;cases hq:Tryz.prog.info? 143 with
    | none=>have:=area_size;simp[hq] at this
    | some i=>
     have hz:i.size=7:=by have:=area_size;simpa[hq] using this
     simp[Go.sizeOf,typeInfo,run_program,hq,hz]
   rw[run_callFunc_extern func188 (by kernel_rfl) (by kernel_rfl) (by kernel_rfl) (e:=Extern.SlicesOverlaps.overlaps #[80,80] #[4]) (by kernel_rfl),
    Lib.run_overlaps_apart W 80 4 143 underlying80 7 hx ⟨g,0,none⟩ ⟨b,off+(k+1)*7,none⟩ 1 1 lb cb hL 143 143 7 cur.size (by unfold aJ at hg;simp[World.shape?,hg,kE]) (by unfold aJ at hb;simp[World.shape?,hb]) (by omega) (hg.free _) (hg.free _)]
   rfl
  have hR:∀W ty dc sc,aJ W b cur 143→(Builtin.copy_ #[80,80] ty #[.slice (some ⟨b,off+(k+1)*7,none⟩) (l.length-k) dc,.slice (some ⟨b,off+k*7,none⟩) (l.length+1-k) sc]).run Tryz.prog W = .ok (goInt (l.length-k:Nat)) (W.setCells b (off+(k+1)*7) ((l.drop k).flatMap fA)):=fun W ty dc sc hW=>
   jR W _ _ ty 143 7 b (off+(k+1)*7) (l.length-k) dc ⟨b,off+k*7,none⟩ (l.length+1-k) sc (l.length-k) _ cur _ underlying80 area_size (by simp only[ru];split<;>omega) hM hW (fun j v hj=>by rw[mr,hW.cell];exact hN j v hj) (by omega) (fun v hv=>qh _ v hv)
  have hQ:∀W ty dc,aJ W b (dF cur (off+(k+1)*7) ((l.drop k).flatMap fA)) 143→aJ W g (kE x) 143→(Builtin.copy_ #[80,80] ty #[.slice (some ⟨b,off+k*7,none⟩) (l.length+1-k) dc,.slice (some ⟨g,0,none⟩) 1 1]).run Tryz.prog W = .ok (goInt (1:Nat)) (W.setCells b (off+k*7) (fA x)):=fun W ty dc hW hp=>
   jR W _ _ ty 143 7 b (off+k*7) (l.length+1-k) dc ⟨g,0,none⟩ 1 1 1 _ _ _ underlying80 area_size (by simp only[ru];split<;>omega) rfl hW (fun j v hj=>by rw[mr,hp.cell,dA];simpa[fA] using hj) (by rw[size_putAt,jo];omega) (fun v hv=>Hr x v hv)
  have hy:=fun lb cb=>hA lb cb w rfl;clear hA;go_enter func157,ntmps157
  go_wp2_with (simp only[hy])
  go_region_law (refine yI rfl _ _ 80 80 rfl (.slice (some ⟨b,off+(k+1)*7,none⟩) (l.length-k) (c-(k+1))) (.slice (some ⟨b,off+k*7,none⟩) (l.length+1-k) (c-k)) (by simp[Act.eval,Act.put]) (by simp[Act.eval,Act.put]) (hR _ _ _ _ hb.drew) ?_)
  have p:=(hb.drew).setCells ((l.drop k).flatMap fA) (off+(k+1)*7);have hm:aJ (w.drew.setCells b (off+(k+1)*7) ((l.drop k).flatMap fA)) g (kE x) 143:=hg.drew.grown (aA _ _ _ _) (fun e=>hL (aS e).symm);have d:w.grownBy (w.drew.setCells b (off+(k+1)*7) ((l.drop k).flatMap fA)) (some b):=jw (a:=w) (b:=w.drew) (row:=some b) ⟨rfl,rfl,rfl,az _,fun _ _ _=>rfl⟩ (aA w.drew _ _ _);generalize w.drew.setCells b (off+(k+1)*7) ((l.drop k).flatMap fA)=W1 at *
  go_wp2_with (at_builtin;refine Sj _ rfl _ _ 80 80 rfl _ _ rfl rfl (hQ _ _ _ p hm) ?_)
  have hn:=p.setCells (fA x) (off+k*7);have o:w.grownBy (W1.setCells b (off+k*7) (fA x)) (some b):=jw d (aA _ _ _ _);go_wp2;go_ret;refine⟨_,rfl,⟨by rw[Dk];simp only[iK,lu,jo,fq,uJ];omega,.inr ⟨b,off,c,_,rfl,hBb,hn,hroom,hmx,by rw[size_putAt,size_putAt];exact hsz,EZ hk ?_ ?_ ?_⟩⟩,o⟩
  ·intro j u hj;have s:j<k*7:=by have:=(dx.1 hj).1;rw[lu,fq] at this;omega
   rw[putAt_out _ _ _ _ (by omega),putAt_out _ _ _ _ (by omega)];exact hw j u hj
  ·intro j u hj;exact putAt_in _ _ _ j u (by rw[size_putAt,jo];omega) hj
  intro j u hj;rw[putAt_out _ _ _ _ (by rw[jo];omega)];exact putAt_in _ _ _ j u (by omega) hj
 have hc:c=l.length:=by omega
 subst hc;obtain⟨i0,h3,hU,hT,hr⟩:=info_parts area_info;have hX:(l.length:Int)<(l.length:Int)+1:=by omega
 have kb:¬((l.length:Int)+1≤(l.length:Int)):=by omega
 have hS:k+1≤l.length:=by omega
 have kh:IntKind.i64.wrap ((l.length:Int)+1-(k:Int))=((l.length+1-k:Nat):Int):=by rw[bP _ (by omega)];omega
 have ka : (l.length:Int)+1-(k:Int)=((l.length+1-k:Nat):Int):=by omega
 have hJ:k+(l.length+1-k)=l.length+1:=by omega
 have ht:((l.take k).flatMap fA).length=k*7:=by rw[lu,fq,qN hk]
 have y:(Builtin.firstCells i0.size k (.slice (some ⟨b,off,none⟩) k l.length)).run Tryz.prog w.drew = .ok ((l.take k).flatMap fA).toArray w.drew:=by rw[hT];exact run_firstCells_some w.drew 7 k ⟨b,off,none⟩ k l.length _ ht (fun j v hj=>by rw[mr,hb.drew.cell];exact hw j v hj)
 have r:∀ty,(Builtin.append_ #[80,3] ty #[.slice (some ⟨b,off,none⟩) k l.length,.int .i64 ((l.length+1-k:Nat):Int)]).run Tryz.prog w =
   .ok (.slice (some ⟨w.heap.size,0,none⟩) (l.length+1) (grownCap w (l.length+1) l.length 143)) (w.drew.alloc (.cells (((l.take k).flatMap fA).toArray++Builtin.zeroCells (kE zAr) (l.length+1-k)++Builtin.zeroCells (kE zAr) (grownCap w (l.length+1) l.length 143-(l.length+1))) 143)):=fun ty=>by
  have h:=Lib.run_append_grow_zeros w 80 3 ty 143 i0 _ .i64 .i64 underlying80 underlying3 h3 hU (some ⟨b,off,none⟩) k l.length ((l.take k).flatMap fA) y (l.length+1-k) (by omega) (by omega) (by omega) (by omega) (by rw[hr];omega) (by rw[hr,hJ];exact growslice_fits (by omega) (by omega));rw[hJ] at h;exact h
 obtain⟨G,hG⟩:∃G,G=grownCap w (l.length+1) l.length 143:=⟨_,rfl⟩;have h9:l.length+1≤G:=by rw[hG];exact grownCap_ge w _ _ _
 have hd:G≤maxLen:=by rw[hG];exact grownCap_le_maxLen w _ _ _ (by unfold maxLen;omega)
 obtain⟨ROW,m⟩:∃ROW:Array Value,ROW=((l.take k).flatMap fA).toArray++Builtin.zeroCells (kE zAr) (l.length+1-k)++Builtin.zeroCells (kE zAr) (G-(l.length+1)):=⟨_,rfl⟩;rw[←hG,←m] at r;have kn:ROW.size=G*7:=by rw[m];simp[Builtin.zeroCells,kE,ht];omega
 have h8:∀(j:Nat) (u:Value),((l.take k).flatMap fA)[j]?=some u→ROW[j]?=some u:=by intro j u hj;have s:=(dx.1 hj).1;rw[m,Array.append_assoc,Array.getElem?_append_left (by simpa using s)];simpa using hj
 clear y m hG;obtain⟨W1,n⟩:∃W1,W1=w.drew.alloc (.cells ROW 143):=⟨_,rfl⟩;rw[←n] at r;have hE:aJ W1 w.heap.size ROW 143:=by rw[n];exact aJ.new w.drew ROW _
 have d:w.grownBy W1 (some b):=by rw[n];exact jw (a:=w) (b:=w.drew) (row:=some b) ⟨rfl,rfl,rfl,az _,fun _ _ _=>rfl⟩ (World.grownBy_alloc _ _ _)
 have p:aJ W1 b cur 143:=by rw[n];exact hb.drew.alloc _
 have hm:aJ W1 g (kE x) 143:=by rw[n];exact hg.drew.alloc _
 clear n;have h5:w.heap.size≠b:=by omega
 have kk:w.heap.size≠g:=by omega
 have hP:∀W ty dc,aJ W w.heap.size ROW 143→aJ W g (kE x) 143→(Builtin.copy_ #[80,80] ty #[.slice (some ⟨w.heap.size,k*7,none⟩) (l.length+1-k) dc,.slice (some ⟨g,0,none⟩) 1 1]).run Tryz.prog W = .ok (goInt (1:Nat)) (W.setCells w.heap.size (k*7) (fA x)):=fun W ty dc hW hp=>
  jR W _ _ ty 143 7 w.heap.size (k*7) (l.length+1-k) dc ⟨g,0,none⟩ 1 1 1 _ _ _ underlying80 area_size (by simp only[ru];split<;>omega) rfl hW (fun j v hj=>by rw[mr,hp.cell,dA];simpa[fA] using hj) (by rw[jo];omega) (fun v hv=>Hr x v hv)
 have hO:∀W ty dc sc,aJ W w.heap.size (dF ROW (k*7) (fA x)) 143→aJ W b cur 143→(Builtin.copy_ #[80,80] ty #[.slice (some ⟨w.heap.size,(k+1)*7,none⟩) (l.length-k) dc,.slice (some ⟨b,off+k*7,none⟩) (l.length-k) sc]).run Tryz.prog W = .ok (goInt (l.length-k:Nat)) (W.setCells w.heap.size ((k+1)*7) ((l.drop k).flatMap fA)):=fun W ty dc sc hW h7=>
  jR W _ _ ty 143 7 w.heap.size ((k+1)*7) (l.length-k) dc ⟨b,off+k*7,none⟩ (l.length-k) sc (l.length-k) _ _ _ underlying80 area_size (by simp only[ru];split<;>omega) hM hW (fun j v hj=>by rw[mr,h7.cell];exact hN j v hj) (by rw[size_putAt];omega) (fun v hv=>qh _ v hv)
 have ko:¬(G=k):=by omega
 have kc:¬(G=k+1):=by omega
 have h2:(0:Int)≤(k:Int)+1:=by omega
 have h6:(k:Int)≤(l.length:Int)+1:=by omega
 have hF:=hd;unfold maxLen at hF;go_enter func157,ntmps157
 go_wp2_with (at_builtin;refine Lib.wpList_append_run _ rfl _ _ _ _ rfl _ _ rfl rfl _ _ (r _) ?_)
 have hD:=hE.setCells (fA x) (k*7);have hn:aJ (W1.setCells w.heap.size (k*7) (fA x)) b cur 143:=p.grown (aA _ _ _ _) (fun e=>h5 (aS e));have o:∀q,q<w.heap.size→q≠b→(W1.setCells w.heap.size (k*7) (fA x)).heap[q]?=w.heap[q]?:=fun q hq hf=>
  ((aA W1 w.heap.size (k*7) (fA x)).block q (nM hq d.size) (fun e=>by have:=aS e;omega)).trans (d.block q hq (fun e=>hf (aS e)))
 have hZ:=(aA W1 w.heap.size (k*7) (fA x)).os.trans d.os;have hV:=(aA W1 w.heap.size (k*7) (fA x)).tape.trans d.tape;have hY:=(aA W1 w.heap.size (k*7) (fA x)).output.trans d.output;have t:=aV d.size (aA W1 w.heap.size (k*7) (fA x)).size;generalize W1.setCells w.heap.size (k*7) (fA x)=W2 at *
 clear hE hm p r hP
 go_region_law (refine yI rfl _ _ 80 80 rfl (.slice (some ⟨w.heap.size,(k+1)*7,none⟩) (l.length-k) (G-(k+1))) (.slice (some ⟨b,off+k*7,none⟩) (l.length-k) (l.length-k)) (by simp[Act.eval,Act.put]) (by simp[Act.eval,Act.put]) (hO _ _ _ _ hD.drew hn.drew) ?_)
 have h0:=hD.drew.setCells ((l.drop k).flatMap fA) ((k+1)*7);have f:=aA W2.drew w.heap.size ((k+1)*7) ((l.drop k).flatMap fA);have hK:w.grownBy (W2.drew.setCells w.heap.size ((k+1)*7) ((l.drop k).flatMap fA)) (some b):=
  ⟨f.os.trans hZ,f.tape.trans hV,f.output.trans hY,aV t f.size,fun q hq hf=>(f.block q (nM hq t) (fun e=>by have:=aS e;omega)).trans (o q hq (fun e=>hf (by rw[e])))⟩
 go_wp2;go_ret;refine⟨_,rfl,⟨by rw[Dk];simp only[iK,lu,jo,fq,uJ];omega,.inr ⟨w.heap.size,0,G,_,rfl,hB,h0,h9,hd,by rw[size_putAt,size_putAt];omega,EZ hk ?_ ?_ ?_⟩⟩,hK⟩
 ·intro j u hj;have s:j<k*7:=by have:=(dx.1 hj).1;rw[lu,fq] at this;omega
  rw[dA,putAt_out _ _ _ _ (by omega),putAt_out _ _ _ _ (by omega)];exact h8 j u hj
 ·intro j u hj;have s:j<7:=by have:=(dx.1 hj).1;rwa [jo] at this
  rw[dA,putAt_out _ _ _ _ (by omega)];exact putAt_in _ _ _ j u (by rw[jo];omega) hj
 intro j u hj;rw[dA];exact putAt_in _ _ _ j u (by rw[size_putAt];omega) hj
theorem Qd (l:List Ar) (n:Int) (a:Option Addr) (c:Nat) (w:World) (hrd:eB w a (l.flatMap fA)) (hl:l.length≤1000) (hf:∀x∈l,qU x) :
    Calls Tryz.prog 105 #[.slice a l.length c,.int .i64 n] w fun r w'=>r = .returned (.int .i64 (qE l n))∧Below w.heap.size w w':=by
  go_enter func105,ntmps105;go_upto_region 3 with (fail)
  go_loopw [10,5] (fun i s wr => ∃(k:Nat) (t:Int),k≤l.length∧i = .int .i64 k∧s = .int .i64 t∧0≤t∧t≤64∧Below w.heap.size w wr∧Hid (mg n 0 l=mg n t (l.drop k))) (fun i _ _=>l.length-(intOf i).toNat)
  case atStart=>exact⟨0,0,bB _,rfl,rfl,by decide,by decide,Below.refl _ _,ae rfl⟩
  case round=>
    obtain⟨k,t,hk,rfl,rfl,p,o,d,f⟩:=hrel
    by_cases hlt:k<l.length
    · obtain⟨b,off,rfl,c0,c1,c2,c3,c4,c5,c6⟩:=Ci (hrd.below d) k hlt;obtain⟨f1,f2,f3⟩:=hf l[k] (eZ _);have e : Hid (mg n 0 l=if n≤l[k].fr-t then t else mg n (if t<l[k].en then l[k].en else t) (l.drop (k+1))):=ae (by rw[f.out,wV hlt,Je]);generalize l[k]=A at *
      have m:IntKind.i64.wrap (A.fr-t)=A.fr-t:=bP _ (by omega);clear f;go_upto_region 5 with (fail);refine jl (fun W=>Code.wp _ _ _ _ W) fun W0 g h j => ?_;clear j c0 c1 c2 c3 c4 c5 c6;have d:=ah d g;have q:=h.cell;clear g
      by_cases hn:n≤A.fr-t
      · have hq:Hid (mg n 0 l=t):=ae (by rw[e.out,if_pos hn]);clear e
        by_cases h1:n<1
        · have hz:Hid (qE l n = -1):=ae (by unfold qE;rw[if_pos (.inl h1)]);go_wp2;go_ret;exact⟨bi hz.out.symm,d⟩
        have hw:IntKind.i64.wrap (64-t)=64-t:=bP _ (by omega)
        by_cases h2:64-t<n
        · first
          | (exfalso;omega)
          | (have hz:Hid (qE l n = -1):=ae (by unfold qE;rw[hq.out,if_pos (.inr h2)])
             go_wp2;go_ret;exact⟨bi hz.out.symm,d⟩)
        have hz:Hid (qE l n=t):=ae (by unfold qE;rw[hq.out,if_neg (by omega)]);go_wp2;go_ret;exact⟨bi hz.out.symm,d⟩
      by_cases hm:t<A.en
      · have hq:Hid (mg n 0 l=mg n A.en (l.drop (k+1))):=ae (by rw[e.out,if_neg hn,if_pos hm]);clear e;go_wp2;go_roundw
        case rel=>exact⟨k+1,A.en,by omega,by go_num,rfl,by omega,by omega,d,hq⟩
        case measure=>simp[intOf];omega
      have hq:Hid (mg n 0 l=mg n t (l.drop (k+1))):=ae (by rw[e.out,if_neg hn,if_neg hm]);clear e;go_wp2;go_roundw
      case rel=>exact⟨k+1,t,by omega,by go_num,rfl,by omega,by omega,d,hq⟩
      case measure=>simp[intOf];omega
    have hq:Hid (mg n 0 l=t):=ae (by rw[f.out,uF (by omega)];rfl);clear f
    by_cases h1:n<1
    · have hz:Hid (qE l n = -1):=ae (by unfold qE;rw[if_pos (.inl h1)]);go_wp2;go_ret;exact⟨bi hz.out.symm,d⟩
    have hw:IntKind.i64.wrap (64-t)=64-t:=bP _ (by omega)
    by_cases h2:64-t<n
    · first
      | (exfalso;omega)
      | (have hz:Hid (qE l n = -1):=ae (by unfold qE;rw[hq.out,if_pos (.inr h2)])
         go_wp2;go_ret;exact⟨bi hz.out.symm,d⟩)
    have hz:Hid (qE l n=t):=ae (by unfold qE;rw[hq.out,if_neg (by omega)]);go_wp2;go_ret;exact⟨bi hz.out.symm,d⟩
def Ay (B:Nat) (m:List Ar):nG:=⟨fun v w => ∃u,v = .tuple #[if 16<m.length then .slice none 0 0 else u,.int .i64 (xE m.length)]∧Own w B 143 7 u m.length (m.flatMap fA),fun _ _ _ hb ⟨u,h1,h2⟩=>⟨u,h1,h2.below hb⟩⟩
def Ty (x:Ar):nG:=⟨fun v w => ∃g,v = .slice (some ⟨g,0,none⟩) 1 1∧aJ w g (kE x) 143,fun _ _ _ hb ⟨g,h1,h2⟩=>⟨g,h1,h2.ext hb⟩⟩
theorem MO {l:List Ar} {x:Ar} (h:Own w B 143 7 v l.length (l.flatMap fA)) (hg:aJ w g (kE x) 143) (hx:¬x∈l) (h0:0<l.length):∀b,v.ownBlock=some b→g≠b:=by
 rintro b hb rfl;rcases h with ⟨hlen,⟨rfl,_⟩|⟨b',off,cap,cur,rfl,hB,hk,hc,hm,hs,ht⟩⟩
 ·cases hb
 cases hb;unfold aJ at hk hg;rw[hk] at hg;simp only[gY,pM,and_true] at hg;subst hg;have h7:(kE x).size=7:=rfl;have ho:off=0:=by omega
 subst ho
 match l,h0 with
 | y::r,_=>
  have hc:∀(j:Nat) (u:Value),(fA y)[j]?=some u→(kE x)[j]?=some u:=by intro j u hj;have:=ht j u (by rw[oV,il (by have:=(dx.1 hj).1;exact this)];exact hj);rwa [dA] at this
  have e0:=hc 0 _ rfl;have e1:=hc 1 _ rfl;have e2:=hc 2 _ rfl;have e3:=hc 3 _ rfl;have e4:=hc 4 _ rfl;have e5:=hc 5 _ rfl;have e6:=hc 6 _ rfl;simp[kE] at e0 e1 e2 e3 e4 e5 e6;refine hx (fE.2 (.inl ?_));cases x;cases y
  simp_all
theorem Jz {m:List Ar} (h:Own w B 143 7 u m.length (m.flatMap fA)):Own w B 143 7 (if 16<m.length then .slice none 0 0 else u) (if 16<m.length then [] else m).length ((if 16<m.length then [] else m).flatMap fA):=by
 split
 ·exact Own.nil _ _ _ _
 ·exact h
theorem TF (l:List Ar) (x:Ar) (a:Option Addr) (c:Nat) (w:World) (h:QY w a c l) :
  Calls Tryz.prog 106 #[.slice a l.length c,.agg (kE x)] w fun r w' => ∃v,r = .returned (.tuple #[v,.int .i64 (lK l x)])∧Own w' w.heap.size 143 7 v (iD l x).length ((iD l x).flatMap fA)∧Below w.heap.size w w':=by
 have ht:=aV h.le h.mx;unfold maxLen at ht;go_enter func106,ntmps106;go_upto_region 1 with (fail);refine jl (fun W=>Code.wp _ _ _ _ W) fun W0 hQ h8 kc => ?_;clear kc
 go_wp2_with fail
 refine (CL l a c _ (h.below hQ).rd ht).mono ?_;rintro r w1 ⟨rfl,j⟩;have hk:=ah hQ j;have h4:=h8.ext j;clear hQ h8 j;unfold SH
 go_wp2_with (refine aT rfl _ _ _ rfl #[.int .i64 (dH l).1,.int .i64 (dH l).2] rfl rfl rfl fau_size (xe _ _) ?_)
 intro w2 hP hu;have b:=ah hk hP;have hH:=h4.ext hP;clear hk h4 hP
 by_cases hw:(dH l).1=0
 ·have m:=qm hw;have hI:=ae hw;rw[hw] at hu;have h9:=hu.cell;clear hw
  go_wp2_with fail
  refine (II w.heap.size 0 x _ (xO.blk hH)).mono ?_;rintro r w3 ⟨rfl,hO⟩;have b:=ah b hO;have hG:=hH.ext hO;clear h9 hu hH hO
  by_cases he:cZ x=0
  ·have hL:=ae he;rw[he];clear he
   go_wp2_with fail
   refine (Jg l a c _ (h.below b).rd ht w.heap.size x hG).mono ?_;rintro r w4 ⟨rfl,hN⟩;have b:=ah b hN;have hF:=hG.ext hN;clear hG hN;cases hm:l.any (iP x)
   ·have kd:=m.1;have hJ:=fK hL.out;have hY:Hid (¬x∈l):=ae (fun hx=>by
     have h1:iP x x=true:=by unfold iP;rw[decide_eq_true hJ.2.1];rfl
     have h2:=jO.2 ⟨x,hx,h1⟩;rw[hm] at h2;cases h2)
    have hv:Hid (∀y∈dW l x,qU y):=ae (fun y hy=>by
     rcases Rv hy with rfl|hy
     ·exact hJ.1
     ·exact (fK (m.2 y hy)).1)
    have ha:Hid (lK l x=xE (bH (dW l x)).length):=ae (by unfold lK;rw[if_neg (by rw[hI.out];simp),if_neg (by rw[hL.out];simp),if_neg (by rw[hm];simp)];rfl);clear hm hJ m
    go_wp2_with fail
    refine (Ep l a c _ (h.below b).rd ht w.heap.size x hF).mono ?_;rintro r w5 ⟨rfl,hM⟩;have b:=ah b hM;have hZ:=hF.ext hM;clear hF hM;cases hq:l.findIdx? (kN x) with
    | none=>
     have hK:l.length≤l.length:=az _;have hf:Hid (FO l x=l.length):=ae (by unfold FO;rw[hq]);have hi:idx (kN x) l = -1:=by unfold idx;rw[hq]
     rw[hi];clear hi hq;go_upto_region 12 with (fail);refine Im 5 10 [gI (.slice a l.length c),(iw w.heap.size 143 7 l.length (l.flatMap fA)),gI (.int .i64 (l.length:Int)),gI (.agg (kE x)),(Ty x),iw w.heap.size 143 7 (dW l x).length ((dW l x).flatMap fA),(iw w.heap.size 143 7 (bH (dW l x)).length ((bH (dW l x)).flatMap fA)),(Ay w.heap.size (bH (dW l x))),(iw w.heap.size 143 7 (if 16<(bH (dW l x)).length then [] else bH (dW l x)).length ((if 16<(bH (dW l x)).length then [] else bH (dW l x)).flatMap fA)),gI (.int .i64 (xE (bH (dW l x)).length))] (fun W=>Below w.heap.size w W) (fun _ _ h hB=>ah hB h) (fun _ hb=>ah b hb) (by kernel_rfl) (by kernel_rfl) (by kernel_rfl) (by kernel_rfl) (by decide) (by decide) _ rfl (by kernel_rfl) (aj ?_ (aj ?_ (aj ?_ (aj ?_ (aj ?_ (aF)))))) (aj ?_ (aj ?_ (aj ?_ (aj ?_ (aF))))) ?_ ?_
     ·intro ρ y W hw hn hb hd;have E0:ρ (.tmp 0) = .slice a l.length c:=(hn (.tmp 0) rfl).trans rfl;refine ak (.slice a l.length c) (ag rfl) (run_move (.inl rfl) E0) rfl
     ·intro ρ y W hw hn hb hd;have hX:=hw 30 0 rfl;have h0:y 0 = .slice a l.length c:=hd 0 rfl;have EF:∀f,ρ (.func f) = .func (.func f) #[] #[]:=fun f=>hn (.func f) trivial;refine aK _ _ (ag rfl) (aQ rfl (EF _) func62 (by kernel_rfl) (by kernel_rfl) (by simp only[bT,bF,bI,hX,h0,EF];rfl)) ?_;refine (vF l a c W h.le h.nl (h.below (ah b hb)).rd (by omega)).mono ?_;rintro e w1 ⟨u,rfl,ho,j⟩;exact⟨u,rfl,j,ho.mono (aV b.size hb.size)⟩
     ·intro ρ y W hw hn hb hd;have E8:ρ (.tmp 8) = .int .i64 (l.length:Int):=(hn (.tmp 8) rfl).trans rfl;refine ak (.int .i64 (l.length:Int)) (ag rfl) (run_move (.inl rfl) E8) rfl
     ·intro ρ y W hw hn hb hd;have E3:ρ (.tmp 3) = .pointer (some ⟨w.heap.size,0,none⟩):=(hn (.tmp 3) rfl).trans rfl;refine ak (.agg (kE x)) (ag rfl) (bY rfl E3 (hZ.ext hb) underlying143 rfl area_size) rfl
     ·intro ρ y W hw hn hb hd;have hV:=hw 33 3 rfl;have h3:y 3 = .agg (kE x):=hd 3 rfl;refine gz (.slice (some ⟨W.heap.size,0,none⟩) 1 1) (ag rfl) (by simp[execOp,go_sem,hV,h3,kE]) ((Below.refl _ _).alloc (az _) (.cells (kE x) 143)) ?_;exact⟨_,rfl,aJ.new _ _ _⟩
     ·intro ρ y W hw hn hB hd;have hT:=hw 35 5 rfl;have h5:(iw w.heap.size 143 7 (dW l x).length ((dW l x).flatMap fA)).r (y 5) W:=hd 5 rfl;have EF:∀f,ρ (.func f) = .func (.func f) #[] #[]:=fun f=>hn (.func f) trivial;obtain⟨a5,c5,hR,h5⟩:=QY.of h5;refine aK _ _ (ag rfl) (aQ rfl (EF _) func156 (by kernel_rfl) (by kernel_rfl) (by simp only[bT,bF,bI,hT,EF,hR];rfl)) ?_;refine (JP (dW l x) a5 c5 W h5.rd (by rw[yC];omega) hv.out).mono ?_;rintro e w1 ⟨u,rfl,ho,j⟩;exact⟨u,rfl,j,ho.mono hB.size⟩
     ·intro ρ y W hw hn hB hd;have hS:=hw 36 6 rfl;have h6:((iw w.heap.size 143 7 (bH (dW l x)).length ((bH (dW l x)).flatMap fA))).r (y 6) W:=hd 6 rfl;have EF:∀f,ρ (.func f) = .func (.func f) #[] #[]:=fun f=>hn (.func f) trivial;obtain⟨a6,c6,hp,hr⟩:=QY.of h6;refine aK _ _ (ag rfl) (aQ rfl (EF _) func155 (by kernel_rfl) (by kernel_rfl) (by simp only[bT,bF,bI,hS,EF,hp];rfl)) ?_;refine (JC a6 (bH (dW l x)).length c6 W (aV (aV hr.le hr.mx) (by decide))).mono ?_;rintro e w1 ⟨rfl,rfl⟩;exact⟨_,rfl,Below.refl _ _,_,rfl,by rw[←hp];exact h6⟩
     ·intro ρ y W hw hn hB hd;have z:=hw 37 7 rfl;have h7:((Ay w.heap.size (bH (dW l x)))).r (y 7) W:=hd 7 rfl;obtain⟨v7,t,hl⟩:=h7;refine ak _ (ag rfl) (by simp[execOp,go_sem,z,t]<;>rfl) ?_;exact Jz hl
     ·intro ρ y W hw hn hB hd;have z:=hw 37 7 rfl;have h7:((Ay w.heap.size (bH (dW l x)))).r (y 7) W:=hd 7 rfl;obtain⟨v7,t,hl⟩:=h7;refine ak _ (ag rfl) (by simp[execOp,go_sem,z,t]<;>rfl) rfl
     ·intro ρ y WA o ho hw hn i d;cases ho;have kb:y 0 = .slice a l.length c:=d 0 (by decide);have p:((iw w.heap.size 143 7 l.length (l.flatMap fA))).r (y 1) WA:=d 1 (by decide);have hE:y 2 = .int .i64 (l.length:Int):=d 2 (by decide);have ka:y 3 = .agg (kE x):=d 3 (by decide);have hD:((Ty x)).r (y 4) WA:=d 4 (by decide);have hW:=hw 31 1 rfl;have hs:=hw 32 2 rfl;rw[hE] at hs;have hU:=hw 34 4 rfl;have EC:∀v,ρ (.const v)=v:=fun v=>hn (.const v) trivial;have EF:∀f,ρ (.func f) = .func (.func f) #[] #[]:=fun f=>hn (.func f) trivial;refine Dz _ _ (ag rfl) (aQ rfl (EF _) func157 (by kernel_rfl) (by kernel_rfl) (by simp only[bT,bF,bI,hW,hs,hU,EC,EF];rfl)) ?_;obtain⟨g,e4,hg⟩:=hD;rw[e4];refine (CK l x (l.length) hK (y 1) w.heap.size g WA p (aV b.size i.size) (by omega) hg (fun ke=>MO p hg hY.out (by omega))).mono ?_;rintro r w6 ⟨v6,rfl,s,hj⟩;refine⟨v6,rfl,(ah b i).grown hj (aV b.size i.size) p.ge,?_⟩;show Own w6 w.heap.size _ 7 v6 (dW l x).length ((dW l x).flatMap fA);rw[yC];unfold dW;rw[hf.out];exact s
     intro y WA k d;have hC:(iw w.heap.size 143 7 (dW l x).length ((dW l x).flatMap fA)).r (y 5) WA:=d 5 (by decide) (by decide);have hA:((iw w.heap.size 143 7 (bH (dW l x)).length ((bH (dW l x)).flatMap fA))).r (y 6) WA:=d 6 (by decide) (by decide);have hz:((Ay w.heap.size (bH (dW l x)))).r (y 7) WA:=d 7 (by decide) (by decide);have n:((iw w.heap.size 143 7 (if 16<(bH (dW l x)).length then [] else bH (dW l x)).length ((if 16<(bH (dW l x)).length then [] else bH (dW l x)).flatMap fA))).r (y 8) WA:=d 8 (by decide) (by decide);have hc:y 9 = .int .i64 (xE (bH (dW l x)).length):=d 9 (by decide) (by decide);clear d;simp only[lay,Nat.reduceAdd,Nat.reduceLT,Nat.reduceEqDiff,reduceIte,decide_true,decide_false,if_true,pq,if_false,rR,sj,rW,qY,rE,rH,hc];clear hc;replace k:Below w.heap.size w WA:=k;have hh:Hid (iD l x=if 16<(bH (dW l x)).length then [] else bH (dW l x)):=ae (by
      unfold iD;rw[ha.out];unfold xE
      by_cases h16:16<(bH (dW l x)).length
      ·rw[if_pos h16,if_pos h16];rfl
      ·rw[if_neg h16,if_neg h16];rfl)
     replace n:Own WA w.heap.size 143 7 (y 8) (iD l x).length ((iD l x).flatMap fA):=by rw[hh.out];exact n
     clear hC hA hz hh;go_wp2;go_ret2;exact⟨y 8,by rw[ha.out];rfl,n,k⟩
    | some K=>
     have hK:K≤l.length:=wI (sF.1 hq).1;have hf:Hid (FO l x=K):=ae (by unfold FO;rw[hq]);have hi:idx (kN x) l=(K:Int):=by unfold idx;rw[hq]
     rw[hi];clear hi hq;go_upto_region 12 with (fail);refine Im 5 10 [gI (.slice a l.length c),(iw w.heap.size 143 7 l.length (l.flatMap fA)),gI (.int .i64 (K:Int)),gI (.agg (kE x)),(Ty x),iw w.heap.size 143 7 (dW l x).length ((dW l x).flatMap fA),(iw w.heap.size 143 7 (bH (dW l x)).length ((bH (dW l x)).flatMap fA)),(Ay w.heap.size (bH (dW l x))),(iw w.heap.size 143 7 (if 16<(bH (dW l x)).length then [] else bH (dW l x)).length ((if 16<(bH (dW l x)).length then [] else bH (dW l x)).flatMap fA)),gI (.int .i64 (xE (bH (dW l x)).length))] (fun W=>Below w.heap.size w W) (fun _ _ h hB=>ah hB h) (fun _ hb=>ah b hb) (by kernel_rfl) (by kernel_rfl) (by kernel_rfl) (by kernel_rfl) (by decide) (by decide) _ rfl (by kernel_rfl) (aj ?_ (aj ?_ (aj ?_ (aj ?_ (aj ?_ (aF)))))) (aj ?_ (aj ?_ (aj ?_ (aj ?_ (aF))))) ?_ ?_
     ·intro ρ y W hw hn hb hd;have E0:ρ (.tmp 0) = .slice a l.length c:=(hn (.tmp 0) rfl).trans rfl;refine ak (.slice a l.length c) (ag rfl) (run_move (.inl rfl) E0) rfl
     ·intro ρ y W hw hn hb hd;have hX:=hw 30 0 rfl;have h0:y 0 = .slice a l.length c:=hd 0 rfl;have EF:∀f,ρ (.func f) = .func (.func f) #[] #[]:=fun f=>hn (.func f) trivial;refine aK _ _ (ag rfl) (aQ rfl (EF _) func62 (by kernel_rfl) (by kernel_rfl) (by simp only[bT,bF,bI,hX,h0,EF];rfl)) ?_;refine (vF l a c W h.le h.nl (h.below (ah b hb)).rd (by omega)).mono ?_;rintro e w1 ⟨u,rfl,ho,j⟩;exact⟨u,rfl,j,ho.mono (aV b.size hb.size)⟩
     ·intro ρ y W hw hn hb hd;have E8:ρ (.tmp 8) = .int .i64 (K:Int):=(hn (.tmp 8) rfl).trans rfl;refine ak (.int .i64 (K:Int)) (ag rfl) (run_move (.inl rfl) E8) rfl
     ·intro ρ y W hw hn hb hd;have E3:ρ (.tmp 3) = .pointer (some ⟨w.heap.size,0,none⟩):=(hn (.tmp 3) rfl).trans rfl;refine ak (.agg (kE x)) (ag rfl) (bY rfl E3 (hZ.ext hb) underlying143 rfl area_size) rfl
     ·intro ρ y W hw hn hb hd;have hV:=hw 33 3 rfl;have h3:y 3 = .agg (kE x):=hd 3 rfl;refine gz (.slice (some ⟨W.heap.size,0,none⟩) 1 1) (ag rfl) (by simp[execOp,go_sem,hV,h3,kE]) ((Below.refl _ _).alloc (az _) (.cells (kE x) 143)) ?_;exact⟨_,rfl,aJ.new _ _ _⟩
     ·intro ρ y W hw hn hB hd;have hT:=hw 35 5 rfl;have h5:(iw w.heap.size 143 7 (dW l x).length ((dW l x).flatMap fA)).r (y 5) W:=hd 5 rfl;have EF:∀f,ρ (.func f) = .func (.func f) #[] #[]:=fun f=>hn (.func f) trivial;obtain⟨a5,c5,hR,h5⟩:=QY.of h5;refine aK _ _ (ag rfl) (aQ rfl (EF _) func156 (by kernel_rfl) (by kernel_rfl) (by simp only[bT,bF,bI,hT,EF,hR];rfl)) ?_;refine (JP (dW l x) a5 c5 W h5.rd (by rw[yC];omega) hv.out).mono ?_;rintro e w1 ⟨u,rfl,ho,j⟩;exact⟨u,rfl,j,ho.mono hB.size⟩
     ·intro ρ y W hw hn hB hd;have hS:=hw 36 6 rfl;have h6:((iw w.heap.size 143 7 (bH (dW l x)).length ((bH (dW l x)).flatMap fA))).r (y 6) W:=hd 6 rfl;have EF:∀f,ρ (.func f) = .func (.func f) #[] #[]:=fun f=>hn (.func f) trivial;obtain⟨a6,c6,hp,hr⟩:=QY.of h6;refine aK _ _ (ag rfl) (aQ rfl (EF _) func155 (by kernel_rfl) (by kernel_rfl) (by simp only[bT,bF,bI,hS,EF,hp];rfl)) ?_;refine (JC a6 (bH (dW l x)).length c6 W (aV (aV hr.le hr.mx) (by decide))).mono ?_;rintro e w1 ⟨rfl,rfl⟩;exact⟨_,rfl,Below.refl _ _,_,rfl,by rw[←hp];exact h6⟩
     ·intro ρ y W hw hn hB hd;have z:=hw 37 7 rfl;have h7:((Ay w.heap.size (bH (dW l x)))).r (y 7) W:=hd 7 rfl;obtain⟨v7,t,hl⟩:=h7;refine ak _ (ag rfl) (by simp[execOp,go_sem,z,t]<;>rfl) ?_;exact Jz hl
     ·intro ρ y W hw hn hB hd;have z:=hw 37 7 rfl;have h7:((Ay w.heap.size (bH (dW l x)))).r (y 7) W:=hd 7 rfl;obtain⟨v7,t,hl⟩:=h7;refine ak _ (ag rfl) (by simp[execOp,go_sem,z,t]<;>rfl) rfl
     ·intro ρ y WA o ho hw hn i d;cases ho;have kb:y 0 = .slice a l.length c:=d 0 (by decide);have p:((iw w.heap.size 143 7 l.length (l.flatMap fA))).r (y 1) WA:=d 1 (by decide);have hE:y 2 = .int .i64 (K:Int):=d 2 (by decide);have ka:y 3 = .agg (kE x):=d 3 (by decide);have hD:((Ty x)).r (y 4) WA:=d 4 (by decide);have hW:=hw 31 1 rfl;have hs:=hw 32 2 rfl;rw[hE] at hs;have hU:=hw 34 4 rfl;have EC:∀v,ρ (.const v)=v:=fun v=>hn (.const v) trivial;have EF:∀f,ρ (.func f) = .func (.func f) #[] #[]:=fun f=>hn (.func f) trivial;refine Dz _ _ (ag rfl) (aQ rfl (EF _) func157 (by kernel_rfl) (by kernel_rfl) (by simp only[bT,bF,bI,hW,hs,hU,EC,EF];rfl)) ?_;obtain⟨g,e4,hg⟩:=hD;rw[e4];refine (CK l x (K) hK (y 1) w.heap.size g WA p (aV b.size i.size) (by omega) hg (fun ke=>MO p hg hY.out (by omega))).mono ?_;rintro r w6 ⟨v6,rfl,s,hj⟩;refine⟨v6,rfl,(ah b i).grown hj (aV b.size i.size) p.ge,?_⟩;show Own w6 w.heap.size _ 7 v6 (dW l x).length ((dW l x).flatMap fA);rw[yC];unfold dW;rw[hf.out];exact s
     intro y WA k d;have hC:(iw w.heap.size 143 7 (dW l x).length ((dW l x).flatMap fA)).r (y 5) WA:=d 5 (by decide) (by decide);have hA:((iw w.heap.size 143 7 (bH (dW l x)).length ((bH (dW l x)).flatMap fA))).r (y 6) WA:=d 6 (by decide) (by decide);have hz:((Ay w.heap.size (bH (dW l x)))).r (y 7) WA:=d 7 (by decide) (by decide);have n:((iw w.heap.size 143 7 (if 16<(bH (dW l x)).length then [] else bH (dW l x)).length ((if 16<(bH (dW l x)).length then [] else bH (dW l x)).flatMap fA))).r (y 8) WA:=d 8 (by decide) (by decide);have hc:y 9 = .int .i64 (xE (bH (dW l x)).length):=d 9 (by decide) (by decide);clear d;simp only[lay,Nat.reduceAdd,Nat.reduceLT,Nat.reduceEqDiff,reduceIte,decide_true,decide_false,if_true,pq,if_false,rR,sj,rW,qY,rE,rH,hc];clear hc;replace k:Below w.heap.size w WA:=k;have hh:Hid (iD l x=if 16<(bH (dW l x)).length then [] else bH (dW l x)):=ae (by
      unfold iD;rw[ha.out];unfold xE
      by_cases h16:16<(bH (dW l x)).length
      ·rw[if_pos h16,if_pos h16];rfl
      ·rw[if_neg h16,if_neg h16];rfl)
     replace n:Own WA w.heap.size 143 7 (y 8) (iD l x).length ((iD l x).flatMap fA):=by rw[hh.out];exact n
     clear hC hA hz hh;go_wp2;go_ret2;exact⟨y 8,by rw[ha.out];rfl,n,k⟩
   have q0:Hid _:=ae (GR (l:=l) (x:=x) (e:=6) (by unfold lK;rw[if_neg (by rw[hI.out];simp),if_neg (by rw[hL.out];simp),if_pos hm]) (by decide));clear hm m;go_wp2;go_ret2;have q:=q0.out;exact⟨.slice none 0 0,by first | (rw[q.1];done) | (rw[q.1];rfl),by rw[q.2];exact Own.nil _ _ _ _,b⟩
  have q0:Hid _:=ae (GR (l:=l) (x:=x) (e:=cZ x) (by unfold lK;rw[if_neg (by rw[hI.out];simp),if_pos he]) he);have kg : (cZ x != 0)=true:=by simpa using he
  clear he m;go_wp2;go_ret2;have q:=q0.out;exact⟨.slice none 0 0,by first | (rw[q.1];done) | (rw[q.1];rfl),by rw[q.2];exact Own.nil _ _ _ _,b⟩
 have q0:Hid _:=ae (GR (l:=l) (x:=x) (e:=(dH l).1) (by unfold lK;rw[if_pos hw]) hw);have kf : ((dH l).1 != 0)=true:=by simpa using hw
 have h9:=hu.cell;clear hw;go_upto_region 3 with (fail);go_quiet (fail);rename_i nq;have b:=below_drewN b nq;go_wp2;go_ret2;have q:=q0.out;exact⟨.slice none 0 0,by first | (rw[q.1];done) | (rw[q.1];rfl),by rw[q.2];exact Own.nil _ _ _ _,b⟩
theorem vH (l:List Int) (a:Option Addr) (c:Nat) (w:World) (hle:l.length≤c) (hnil:a=none→c=0) (hrd:eB w a (l.map iI)) (hb:l.length*8≤140737488355328) :
  Calls Tryz.prog 58 #[.slice a l.length c] w fun e w' => ∃v,e = .returned v∧Own w' w.heap.size 3 1 v l.length (l.map iI)∧Below w.heap.size w w':=by
 cases a with
 | none=>
  have h0:=hnil rfl;have hl:l=[]:=jX (by omega);subst hl;subst h0;have hq:=fun W=>lI (P:=Tryz.prog) W 33 _ none 0 0 0 0 underlying33;go_enter func58,ntmps58;go_wp2;go_ret;exact⟨_,rfl,by simpa using Own.nil _ _ _ _,Below.refl _ _⟩
 | some ad=>
  have hq:=fun W=>lI (P:=Tryz.prog) W 33 _ (some ad) l.length c 0 0 underlying33;go_enter func58,ntmps58
  go_wp2_with (at_builtin;go_must (refine eH rfl _ _ 33 rfl w.heap.size 3 (.int .i64 0) 1 8 underlying33 int_info rfl (by decide) _ 0 [] rfl ?own (some ad) l.length c (l.map iI) rfl (fun h=>(by cases h)) hle (Iu l) ?rd (IU l) (by unfold maxLen;omega) (by simpa using hb) ?bb ?k))
  case own=>exact⟨rfl,.inr ⟨w.heap.size,0,0,#[],rfl,az _,aJ.new _ _ _,az _,bB _,by simp,fun j u h=>by simp at h⟩⟩
  case rd=>exact hrd.below ((Below.refl _ _).alloc (az _) _)
  case bb=>exact dV _ _
  intro v w1 b d;go_wp2;go_ret;exact⟨v,rfl,by simpa using b,((Below.refl _ _).alloc (az _) _).grown d (dV _ _) (fun k hk=>by cases hk;exact az _)⟩
theorem TW (n:Int) (w:World):Calls Tryz.prog 144 #[.int .i64 n] w fun e w'=>e = .returned (.bool (xR n))∧w' = w:=by
 unfold xR;go_enter func144,ntmps144;go_wp2
 all_goals
  go_ret;refine⟨bK ?_,rfl⟩;simp[*]
theorem Sw (l:List Int) (a:Option Addr) (c:Nat) (w:World) (hrd:eB w a (l.map iI)) (hl:l.length≤9223372036854775807) :
  Calls Tryz.prog 186 #[.slice a l.length c,.func (.func 144) #[] #[]] w fun e w'=>e = .returned (.int .i64 (idx xR l))∧w' = w:=by
 go_enter func186,ntmps186;go_wp2
 go_loopw [8] (fun i wr => ∃k:Nat,k≤l.length∧i = .int .i64 k∧wr=w∧∀i (h:i<l.length),i<k→xR l[i]=false) (fun i _=>l.length-(intOf i).toNat)
 case atStart=>exact⟨0,bB _,rfl,rfl,fun i _ h=>absurd h (gL _)⟩
 case round=>
  obtain⟨k,hk,rfl,rfl,hp⟩:=hrel
  by_cases hlt:k<l.length
  ·obtain⟨b,off,rfl,hc⟩:=lm hrd k hlt
   go_wp2_with fail
   refine (TW l[k] _).mono ?_;rintro e w1 ⟨rfl,rfl⟩;cases hbk:xR l[k] with
   | true=>
    go_wp2;go_ret;exact⟨bi (pz xR l k hlt hp hbk).symm,rfl⟩
   | false=>
    go_wp2;go_roundw
    case rel=>exact⟨k+1,by omega,by go_num,trivial,upto hp hlt hbk⟩
    case measure=>simp[intOf];omega
  go_wp2;go_ret;exact⟨bi (ky xR l fun i h=>hp i h (by omega)).symm,rfl⟩
theorem CF (l:List Int) (a:Option Addr) (c:Nat) (w:World) (hrd:eB w a (l.map iI)) (hl:l.length≤9223372036854775807) :
  Calls Tryz.prog 143 #[.slice a l.length c,.func (.func 144) #[] #[]] w fun e w'=>e = .returned (.bool (l.any xR))∧w' = w:=by
 rw[←pW];go_enter func143,ntmps143
 go_wp2_with fail
 refine (Sw l a c _ hrd hl).mono ?_;rintro e w1 ⟨rfl,rfl⟩;go_wp2;go_ret;exact⟨rfl,rfl⟩
theorem vZ (l:List Int) (a:Option Addr) (c:Nat) (w:World) (hrd:eB w a (l.map iI)) (hl:l.length≤9223372036854775807) :
  Calls Tryz.prog 93 #[.slice a l.length c] w fun e w'=>e = .returned (.int .i64 (dD l))∧w' = w:=by
 unfold dD;go_enter func93,ntmps93
 by_cases h:60<l.length
 ·have h1:(60:Int)<(l.length:Int):=by omega
  go_wp2;go_ret;exact⟨by simp[h],rfl⟩
 have h1:¬(60:Int)<(l.length:Int):=by omega
 go_wp2_with fail
 refine (CF l a c _ hrd hl).mono ?_;rintro e w1 ⟨rfl,rfl⟩;cases hb:l.any xR
 all_goals
  go_wp2;go_ret;exact⟨by simp[h],rfl⟩
theorem Ie (l:List Int) (a:Option Addr) (c:Nat) (w:World) (hrd:eB w a (l.map iI)) (hl:l.length≤9223372036854775807) :
  Calls Tryz.prog 213 #[.slice a l.length c,.int .i64 0] w fun e w'=>e = .returned (.int .i64 (idx Gy l))∧w' = w:=by
 go_enter func213,ntmps213;go_wp2
 go_loopw [8] (fun i wr => ∃k:Nat,k≤l.length∧i = .int .i64 k∧wr=w∧∀i (h:i<l.length),i<k→Gy l[i]=false) (fun i _=>l.length-(intOf i).toNat)
 case atStart=>exact⟨0,bB _,rfl,rfl,fun i _ h=>absurd h (gL _)⟩
 case round=>
  obtain⟨k,hk,rfl,rfl,hp⟩:=hrel
  by_cases hlt:k<l.length
  ·obtain⟨b,off,rfl,hc⟩:=lm hrd k hlt
   by_cases hz:l[k]=0
   ·have d:Gy l[k]=true:=by simp[Gy,hz]
    rw[hz] at hc;go_wp2;go_ret;exact⟨bi (pz Gy l k hlt hp d).symm,rfl⟩
   have d:Gy l[k]=false:=by simp[Gy,hz]
   have f : ((0:Int)==l[k])=false:=by simp;omega
   go_wp2;go_roundw
   case rel=>exact⟨k+1,by omega,by go_num,trivial,upto hp hlt d⟩
   case measure=>simp[intOf];omega
  go_wp2;go_ret;exact⟨bi (ky Gy l fun i h=>hp i h (by omega)).symm,rfl⟩
theorem one_cell_int:∀x:Int,([iI x]:List Value).length=1:=fun _=>rfl
theorem OW (n:Int) (w:World) :
  Calls Tryz.prog 41 #[.int .i64 n] w fun e w' => ∃v,e = .returned (.tuple #[v,.int .i64 (Gx n)])∧Own w' w.heap.size 3 1 v (Cn n).length ((Cn n).map iI)∧Below w.heap.size w w':=by
 unfold Gx Cn
 by_cases h:0≤n∧n≤60
 ·obtain⟨m,rfl⟩:=kW h.1;have h1:(m:Int)≤60:=h.2;rw[if_pos h,if_pos h];go_enter func41,ntmps41
  go_wp2_with (with_reducible refine wB _ rfl (.tmp 10) (.tmp 10) 33 rfl (fun x=>[iI x]) 3 (.int .i64 0) 1 8 0 one_cell_int (by decide) underlying33 int_info rfl .i64 .i64 m m m rfl rfl rfl rfl (by omega) (by unfold maxLen;omega) ?k)
  intro w' ho a;rw[mV] at ho;go_wp2;go_ret2;exact⟨_,rfl,by simpa using ho,(Below.refl _ _).grown a (az _) (fun k hk=>by cases hk)⟩
 rw[if_neg h,if_neg h];go_enter func41,ntmps41
 by_cases h0:n<0
 ·go_wp2;go_ret2;exact⟨_,rfl,Own.nil _ _ _ _,Below.refl _ _⟩
 have h1:60<n:=by omega
 go_wp2;go_ret2;exact⟨_,rfl,Own.nil _ _ _ _,Below.refl _ _⟩
theorem Mg (l:List Int) (a:Option Addr) (c:Nat) (n:Int) (w:World) (hle:l.length≤c) (hnil:a=none→c=0) (hrd:eB w a (l.map iI)) (hl:l.length≤9223372036854775807) :
  Calls Tryz.prog 203 #[.slice a l.length c,.int .i64 n] w fun e w' => ∃v,e = .returned (.tuple #[v,.int .i64 (jD l n),.int .i64 (gT l n)])∧Own w' w.heap.size 3 1 v (lF l n).length ((lF l n).map iI)∧Below w.heap.size w w':=by
 go_enter func203,ntmps203
 go_wp2_with fail
 refine (vZ l a c _ hrd (by omega)).mono ?_;rintro e w1 ⟨rfl,rfl⟩
 by_cases h0:dD l=0
 ·rw[h0];have d:=mf h0
  by_cases hn:n<1∨1000<n
  ·obtain⟨q1,q2,q3⟩:=KT h0 hn;rcases hn with hn|hn <;>
   go_wp2
   all_goals
    go_ret3
    try simp only[q1,q2,q3]
    exact⟨_,rfl,Own.nil _ _ _ _,Below.refl _ _⟩
  have n1:¬n<1:=by omega
  have n2:¬1000<n:=by omega
  go_wp2_with fail
  refine (Ie l a c _ hrd (by omega)).mono ?_;rintro e w2 ⟨rfl,rfl⟩;rcases zO Gy l with ⟨hi,_⟩|⟨k,hk,hi,hz,_⟩
  ·obtain⟨q1,q2,q3⟩:=KJ h0 ⟨by omega,by omega⟩ hi;rw[hi];go_wp2
   go_ret3
   try simp only[q1,q2,q3]
   exact⟨_,rfl,Own.nil _ _ _ _,Below.refl _ _⟩
  obtain⟨q1,q2,q3⟩:=PR h0 ⟨by omega,by omega⟩ hi;rw[hi]
  go_wp2_with fail
  refine (vH l a c _ hle hnil hrd (by omega)).mono ?_;rintro e w3 ⟨v,rfl,ho,hb⟩;obtain⟨g,off,cap,rfl,hB,f,hc,hf,b⟩:=ho.put1 k hk;go_wp2
  go_ret3
  try simp only[q1,q2,q3]
  exact⟨_,rfl,by rw[dM];exact b n,hb.setCell hB _⟩
 obtain⟨q1,q2,q3⟩:=LJ n h0;have hw:(dD l != 0)=true:=by simpa using h0
 go_wp2
 go_ret3
 try simp only[q1,q2,q3]
 exact⟨_,rfl,Own.nil _ _ _ _,Below.refl _ _⟩
theorem Ed (l:List Int) (a:Option Addr) (c:Nat) (k n:Int) (w:World) (hle:l.length≤c) (hnil:a=none→c=0) (hrd:eB w a (l.map iI)) (hl:l.length≤9223372036854775807) :
  Calls Tryz.prog 167 #[.slice a l.length c,.int .i64 k,.int .i64 n] w fun e w' => ∃v,e = .returned (.tuple #[v,.int .i64 (bS l k n)])∧Own w' w.heap.size 3 1 v (bL l k n).length ((bL l k n).map iI)∧Below w.heap.size w w':=by
 go_enter func167,ntmps167
 go_wp2_with fail
 refine (vZ l a c _ hrd (by omega)).mono ?_;rintro e w1 ⟨rfl,rfl⟩
 by_cases h0:dD l=0
 ·rw[h0];have p:=mf h0
  by_cases hk:k<0∨(l.length:Int)≤k
  ·obtain⟨q1,q2⟩:=ED (n:=n) h0 (show k<0∨(l.length:Int)≤k∨El l k=0 from by omega);rcases hk with hk|hk <;>
   go_wp2
   all_goals
    go_ret2
    try simp only[q1,q2]
    exact⟨_,rfl,Own.nil _ _ _ _,Below.refl _ _⟩
  obtain⟨k,rfl⟩:=kW (show 0≤k by omega);have h:k<l.length:=by omega
  have o:¬(l.length:Int)≤(k:Int):=by omega
  obtain⟨b,off,rfl,hc⟩:=lm hrd k h;obtain⟨b1,b2⟩:=PZ l k h h0;have d:=Tq h
  by_cases hz:l[k]=0
  ·obtain⟨q1,q2⟩:=ED (n:=n) h0 (show (k:Int)<0∨(l.length:Int)≤k∨El l k=0 from by omega);rw[hz] at hc;clear hk d b1 b2;go_wp2
   all_goals
    go_ret2
    try simp only[q1,q2]
    exact⟨_,rfl,Own.nil _ _ _ _,Below.refl _ _⟩
  have q : (l[k]==(0:Int))=false:=by simp;omega
  have f:¬((k:Int)<0∨(l.length:Int)≤k∨El l k=0):=by omega
  by_cases hr:n < -El l k∨1000-El l k<n
  ·obtain⟨q1,q2⟩:=Mr h0 f hr;rw[d] at hr;clear d f hk;rcases hr with hr|hr <;>
   go_wp2
   all_goals
    go_ret2
    try simp only[q1,q2]
    exact⟨_,rfl,Own.nil _ _ _ _,Below.refl _ _⟩
  obtain⟨q1,q2⟩:=NJ h0 f hr;rw[d] at hr q2;rw[bD] at q2;have r1:¬n < -l[k]:=by omega
  have r2:¬1000-l[k]<n:=by omega
  clear d f hk hr
  go_wp2_with fail
  refine (vH l _ c _ hle hnil hrd (by omega)).mono ?_;rintro e w3 ⟨v,rfl,ho,hb⟩;obtain⟨g,off',cap,rfl,hB,m,j,hf,i⟩:=ho.put1 k h;unfold iI at j;go_wp2;go_ret2
  try simp only[q1,q2]
  exact⟨_,rfl,by rw[dM];exact i _,hb.setCell hB _⟩
 obtain⟨q1,q2⟩:=Lf k n h0;have hw:(dD l != 0)=true:=by simpa using h0
 go_wp2;go_ret2
 try simp only[q1,q2]
 exact⟨_,rfl,Own.nil _ _ _ _,Below.refl _ _⟩
structure PS where
 lv:Bool
 aa:Option Addr
 ac:Nat
 ar:List Ar
 ts:Vector Value 8
 tb:Tb
def PS.sp (p:PS):Sp:=⟨p.lv,p.ar,p.tb⟩
def tX (v:Vector Value 8):Array Value:=#[v[0],v[1],v[2],v[3],v[4],v[5],v[6],v[7]]
theorem Rf (v:Vector Value 8):(tX v).size=8:=rfl
theorem UY (h:cs.size=8):∃v:Vector Value 8,cs=tX v:=by
 refine⟨⟨cs,h⟩,?_⟩;apply Array.ext
 ·rw[h,Rf]
 intro i h1 h2;have hi:i<8:=by omega
 match i,hi with
 | 0,_=>rfl
 | 1,_=>rfl
 | 2,_=>rfl
 | 3,_=>rfl
 | 4,_=>rfl
 | 5,_=>rfl
 | 6,_=>rfl
 | 7,_=>rfl
 | n+8,h=>omega
def Et (p:PS):Array Value:=#[.bool p.lv,.slice p.aa p.ar.length p.ac,p.ts[0],p.ts[1],p.ts[2],p.ts[3],p.ts[4],p.ts[5],p.ts[6],p.ts[7]]
def zw (p:PS):List Value:=(Et p).toList
theorem wX (p:PS):(zw p).length=10:=rfl
theorem Gd (c:Cc):(zU c).all (·.oneCell')=true:=by simp[zU,Value.oneCell']
theorem space_size:(Tryz.prog.info? 114).map (·.size)=some 10:=by kernel_rfl
theorem space_info:(Tryz.prog.info? 114).map (fun i=>(i.zero,i.size,i.bytes))=some (some (.agg #[.bool false,.slice none 0 0,.slice none 0 0,.slice none 0 0,.slice none 0 0,.slice none 0 0,.slice none 0 0,.slice none 0 0,.slice none 0 0,.slice none 0 0]),10,224):=by kernel_rfl
theorem cached_size:(Tryz.prog.info? 124).map (·.size)=some 3:=by kernel_rfl
theorem cached_info:(Tryz.prog.info? 124).map (fun i=>(i.zero,i.size,i.bytes))=some (some (.agg #[.int .i64 0,.int .i64 0,.int .i64 0]),3,24):=by kernel_rfl
theorem machine_size:(Tryz.prog.info? 44).map (·.size)=some 11:=by kernel_rfl
structure PS.good (w:World) (p:PS):Prop where
 ars:QY w p.aa p.ac p.ar
 tb:Km w (tX p.ts) p.tb
theorem PS.good.below {p:PS} (h:p.good w) (hb:Below w.heap.size w w'):p.good w':=⟨h.ars.below hb,h.tb.below hb⟩
theorem PS.good.one {p:PS} (h:p.good w):∀u∈zw p,u.oneCell' = true:=by
 have h1:∀u∈(tX p.ts).toList,u.oneCell' = true:=by have:=h.tb.one;rw[←iA,cK] at this;exact this
 intro u hu;simp only[zw,Et,fE,nZ,or_false] at hu;simp only[tX,fE,nZ,or_false] at h1;rcases hu with rfl|rfl|hu
 ·rfl
 ·rfl
 ·exact h1 u hu
structure SV (w:World) (a:Option Addr) (c n:Nat) (vs:List Value):Prop where
 le:n≤c
 mx:c≤maxLen
 nl:a=none→c=0
 rd:eB w a vs
theorem SV.below {n:Nat} (h:SV w a c n vs) (hb:Below w.heap.size w w'):SV w' a c n vs:={ h with rd:=h.rd.below hb }
theorem SV.of {n:Nat} (h:Own w B e sz v n xs):∃a c,v = .slice a n c∧SV w a c n xs:=by
 obtain⟨a,c,rfl,h1,h2,h3,h4⟩:=h.rd;exact⟨a,c,rfl,h1,h2,h3,h4⟩
structure MH where
 af:Option Addr
 cf:Nat
 m:Mem
 asl:Option Addr
 csl:Nat
 sl:List Int
 wb:Option Addr
 cwb:Nat
 wq:Option Addr
 cwq:Nat
 sw:sK
 db:Option Addr
 cdb:Nat
 dq:Option Addr
 cdq:Nat
 dk:sK
 ai:Option Addr
 ci:Nat
 fi:List PF
 ct:Int
 ac:Option Addr
 cc:Nat
 ca:List Cc
 ap:Option Addr
 cp:Nat
 sp:List PS
def MH.ma (H:MH):Ma:=⟨H.m,H.sl,H.sw,H.dk,bJ H.fi H.ct,H.ca,H.sp.map PS.sp⟩
def bW (H:MH):Array Value:=#[.slice H.af H.m.fs.length H.cf,.int .i64 H.m.hand,.slice H.asl H.sl.length H.csl,.slice H.wb H.sw.blocks.length H.cwb,.slice H.wq H.sw.queue.length H.cwq,
 .slice H.db H.dk.blocks.length H.cdb,.slice H.dq H.dk.queue.length H.cdq,.slice H.ai H.fi.length H.ci,.int .i64 H.ct,.slice H.ac H.ca.length H.cc,.slice H.ap H.sp.length H.cp]
theorem eU (H:MH):(bW H).all (·.oneCell')=true:=by simp[bW,Value.oneCell']
structure Ga (w:World) (H:MH):Prop where
 fr:Qe w H.af H.cf H.m
 sl:SV w H.asl H.csl H.sl.length (H.sl.map iI)
 sw:Qu w H.wb H.cwb H.wq H.cwq H.sw
 dk:Qu w H.db H.cdb H.dq H.cdq H.dk
 st:PV w H.ai H.ci H.fi
 ca:SV w H.ac H.cc H.ca.length (H.ca.flatMap jG)
 sp:SV w H.ap H.cp H.sp.length (H.sp.flatMap zw)
 ps:∀p∈H.sp,p.good w
 c64 : -9223372036854775808≤H.ct∧H.ct≤9223372036854775807
theorem Ga.below {H:MH} (h:Ga w H) (hb:Below w.heap.size w w'):Ga w' H:=
 ⟨h.fr.below hb,h.sl.below hb,h.sw.below hb,h.dk.below hb,h.st.below hb,h.ca.below hb,h.sp.below hb,fun p hp=>(h.ps p hp).below hb,h.c64⟩
theorem xz {ps:List PS} (h:eB w a (ps.flatMap zw)) (k:Nat) (hk:k<ps.length):∃b off p,a=some ⟨b,off,none⟩∧ps[k]?=some p∧eB w (some ⟨b,off+k*10,none⟩) (zw p):=by
 obtain⟨b,off,ha,hc⟩:=h.elem wX (by decide) k hk;refine⟨b,off,ps[k],ha,aN hk,fun j u hj=>⟨b,off+k*10,rfl,hc j u hj⟩⟩
theorem yt {H:MH} (h:Ga w H) {p:PS} (hp:H.sp[k]?=some p):p.good w:=h.ps p (dm hp)
theorem QA {l:List Cc} (h:eB w a (l.flatMap jG)) (k:Nat) (hk:k<l.length):∃b off c,a=some ⟨b,off,none⟩∧l[k]?=some c∧w.cell? ⟨b,off+k*3,none⟩=some (.int .i64 c.f)∧w.cell? ⟨b,off+k*3+1,none⟩=some (.int .i64 c.i)∧w.cell? ⟨b,off+k*3+2,none⟩=some (.int .i64 c.k):=by
 obtain⟨b,off,ha,hc⟩:=h.elem jH (by decide) k hk;exact⟨b,off,l[k],ha,aN hk,hc 0 _ rfl,hc 1 _ rfl,hc 2 _ rfl⟩
structure SN (m:Ma):Prop where
 fs:m.m.fs.length≤1000
 sl:m.sl.length≤1000
 swb:m.sw.blocks.length≤1000
 swq:m.sw.queue.length≤1000
 dkb:m.dk.blocks.length≤1000
 dkq:m.dk.queue.length≤1000
 st:m.st.fs.length≤1000∧∀f∈m.st.fs,f.b.length≤1000
 ca:m.ca.length≤1000
 sp:m.sp.length≤1000∧∀s∈m.sp,s.ar.length≤1000∧∀k (h:k<8),s.tb[k].length≤1000
structure qc (w:World) (B:Nat) (H:MH):Prop where
 fr:Own w B 132 13 (.slice H.af H.m.fs.length H.cf) H.m.fs.length (H.m.fs.flatMap oH)
 sl:Own w B 3 1 (.slice H.asl H.sl.length H.csl) H.sl.length (H.sl.map iI)
 sw:kw w B (.slice H.wb H.sw.blocks.length H.cwb) (.slice H.wq H.sw.queue.length H.cwq) H.sw
 dk:kw w B (.slice H.db H.dk.blocks.length H.cdb) (.slice H.dq H.dk.queue.length H.cdq) H.dk
 st:oz w B (.slice H.ai H.fi.length H.ci) H.fi
 ca:Own w B 124 3 (.slice H.ac H.ca.length H.cc) H.ca.length (H.ca.flatMap jG)
 sp:Own w B 114 10 (.slice H.ap H.sp.length H.cp) H.sp.length (H.sp.flatMap zw)
 ps:∀p∈H.sp,Own w B 143 7 (.slice p.aa p.ar.length p.ac) p.ar.length (p.ar.flatMap fA)∧wR w B (tX p.ts) p.tb
 c64 : -9223372036854775808≤H.ct∧H.ct≤9223372036854775807
theorem qc.below {H:MH} (h:qc w B H) (hb:Below w.heap.size w w'):qc w' B H:=
 ⟨h.fr.below hb,h.sl.below hb,h.sw.below hb,h.dk.below hb,h.st.below hb,h.ca.below hb,h.sp.below hb,fun p hp=>⟨(h.ps p hp).1.below hb,(h.ps p hp).2.below hb⟩,h.c64⟩
theorem qc.mono {H:MH} (h:qc w B H) (hB:B'≤B):qc w B' H:=
 ⟨h.fr.mono hB,h.sl.mono hB,h.sw.mono hB,h.dk.mono hB,h.st.mono hB,h.ca.mono hB,h.sp.mono hB,fun p hp=>⟨(h.ps p hp).1.mono hB,(h.ps p hp).2.mono hB⟩,h.c64⟩
theorem xS {n:Nat} (h:Own w B e sz (.slice a n c) n xs):SV w a c n xs:=by
 obtain⟨a',c',e1,h1⟩:=SV.of h;simp only[lH,true_and] at e1;obtain⟨rfl,rfl⟩:=e1;exact h1
theorem Va {b:Option Addr} {e:Nat} (h:kw w B (.slice a d.blocks.length c) (.slice b d.queue.length e) d):Qu w a c b e d:=
 have h1:=xS h.b;have h2:=xS h.q
 ⟨h1.le,h2.le,h1.mx,h2.mx,h1.nl,h2.nl,h1.rd,h2.rd⟩
theorem VO {ps:List PF} (h:oz w B (.slice a ps.length c) ps):PV w a c ps:=by
 obtain⟨a',c',e1,h1⟩:=h.rd;simp only[lH,true_and] at e1;obtain⟨rfl,rfl⟩:=e1;exact h1
theorem qc.rd {H:MH} (h:qc w B H):Ga w H:=
 have h1:=xS h.fr
 ⟨⟨h1.le,h1.mx,h1.nl,h1.rd⟩,xS h.sl,Va h.sw,Va h.dk,VO h.st,xS h.ca,xS h.sp,fun p hp=>⟨have h2:=xS (h.ps p hp).1;⟨h2.le,h2.mx,h2.nl,h2.rd⟩,(h.ps p hp).2.rd⟩,h.c64⟩
theorem qc.keep {H:MH} (h:qc w B H) (hk:aJ w g cs T)
 (hT:T≠132∧T≠3∧T≠100∧T≠186∧T≠98∧T≠124∧T≠114∧T≠143∧T≠129) (hgr:w.grownBy w' (some g)):qc w' B H:=
 have ⟨t1,t2,t3,t4,t5,t6,t7,t8,t9⟩:=hT
 ⟨ay h.fr hk t1 hgr,ay h.sl hk t2 hgr,h.sw.keep hk t3 t4 hgr,h.dk.keep hk t3 t4 hgr,h.st.keep hk t5 t2 hgr,ay h.ca hk t6 hgr,ay h.sp hk t7 hgr,fun p hp=>⟨ay (h.ps p hp).1 hk t8 hgr,(h.ps p hp).2.keep hk t9 hgr⟩,h.c64⟩
theorem pG {α:Type} {enc:α→List Value} (hsz:∀x,(enc x).length=sz) (hp:0<sz) {l:List α} (h:eB w a (l.flatMap enc)) (k:Nat) (hk:k<l.length) :
  ∃b off,a=some ⟨b,off,none⟩∧eB w (some ⟨b,off+k*sz,none⟩) (enc l[k]):=by
 obtain⟨b,off,ha,hc⟩:=h.elem hsz hp k hk;exact⟨b,off,ha,fun j u hj=>⟨b,off+k*sz,rfl,hc j u hj⟩⟩
theorem cz (h:aJ w b cs T) (o n:Nat):eB w (some ⟨b,o,none⟩) ((cs.toList.drop o).take n):=by
 intro i u hi;refine⟨b,o,rfl,?_⟩;rw[h.cell,←oP];rw[jN] at hi;split at hi
 ·rw[nK] at hi;exact hi
 ·cases hi
def nC (H:MH) (e:Int):Array Value:=#[.slice H.af H.m.fs.length H.cf,.int .i64 H.m.hand,.slice H.asl H.sl.length H.csl,.slice H.wb H.sw.blocks.length H.cwb,.slice H.wq H.sw.queue.length H.cwq,
 .slice H.db H.dk.blocks.length H.cdb,.slice H.dq H.dk.queue.length H.cdq,.slice H.ai H.fi.length H.ci,.int .i64 H.ct,.slice H.ac H.ca.length H.cc,.slice H.ap H.sp.length H.cp,.int .i64 e]
def oB (a:Option Addr):Option Nat:=(Value.slice a 0 0).ownBlock
theorem vI (a:Option Addr) (n c:Nat):(Value.slice a n c).ownBlock=oB a:=by cases a<;>rfl
structure jf (w:World) (B b:Nat) (H:MH) (e:Int):Prop where
 blk:aJ w b (nC H e) 192
 ge:B≤b
 ma:qc w B H
 tz:∀p∈H.sp,Dw p.tb
def kb (b:Nat) (H:MH) (x:Nat):Prop:=x=b∨oB H.af=some x∨oB H.ac=some x∨oB H.ap=some x
structure KS (w0:World) (b:Nat) (H0:MH) (w:World) (H:MH):Prop where
 os:w.os=w0.os
 tape:w.tape=w0.tape
 output:w.output=w0.output
 size:w0.heap.size≤w.heap.size
 keep:∀x,x<w0.heap.size→¬kb b H0 x→w.heap[x]?=w0.heap[x]?
 sn:∀x,kb b H x→kb b H0 x∨w0.heap.size≤x
theorem KS.refl (w:World) (b:Nat) (H:MH):KS w b H w H:=⟨rfl,rfl,rfl,az _,fun _ _ _=>rfl,fun _ h => .inl h⟩
theorem KS.trans {H0 H1 H2:MH} (h:KS w0 b H0 w1 H1) (k:KS w1 b H1 w2 H2):KS w0 b H0 w2 H2:=
 ⟨k.os.trans h.os,k.tape.trans h.tape,k.output.trans h.output,aV h.size k.size,fun x hx hn=>(k.keep x (nM hx h.size) (fun hk=>(h.sn x hk).elim hn (fun hh=>absurd hx (Nat.not_lt.2 hh)))).trans (h.keep x hx hn),
  fun x hx=>(k.sn x hx).elim (h.sn x) (fun hh => .inr (aV h.size hh))⟩
theorem KS.below {H0 H:MH} (h:KS w0 b H0 w H) (hb:Below w.heap.size w w'):KS w0 b H0 w' H:=
 ⟨hb.os.trans h.os,hb.tape.trans h.tape,hb.output.trans h.output,aV h.size hb.size,fun x hx hn=>(hb.block x (nM hx h.size)).trans (h.keep x hx hn),h.sn⟩
theorem KS.put {y:Nat} {H0 H H' : MH} (h:KS w0 b H0 w H) (hg:w.grownBy w' (some y)) (hy:kb b H y) (hn:∀x,kb b H' x→kb b H x∨w0.heap.size≤x):KS w0 b H0 w' H':=
 ⟨hg.os.trans h.os,hg.tape.trans h.tape,hg.output.trans h.output,aV h.size hg.size,fun x hx hnx=>(hg.block x (nM hx h.size) (fun e=>by have e' : x=y:=aS e;rw[←e'] at hy;exact (h.sn x hy).elim hnx (fun hh=>absurd hx (Nat.not_lt.2 hh)))).trans (h.keep x hx hnx),fun x hx=>(hn x hx).elim (h.sn x) .inr⟩
theorem jf.lt {H:MH} {e:Int} (h:jf w B b H e):b<w.heap.size:=h.blk.lt
theorem jf.bs {H:MH} {e:Int} (h:jf w B b H e):B≤w.heap.size:=aV h.ge (wI h.lt)
theorem jf.below {H:MH} {e:Int} (h:jf w B b H e) (hb:Below w.heap.size w w'):jf w' B b H e:=⟨h.blk.ext hb,h.ge,h.ma.below hb,h.tz⟩
theorem nR {n:Nat} (h:Own w B e sz (.slice a n c) n xs) {x:Nat} (hx:oB a=some x):B≤x∧∃cs,aJ w x cs e:=by
 rw[←vI a n c] at hx;exact⟨h.ge x hx,rO h x hx⟩
theorem jf.kb_ge {H:MH} {e:Int} (h:jf w B b H e) {x:Nat} (hx:kb b H x):B≤x:=by
 rcases hx with hx|hx|hx|hx
 ·rw[hx];exact h.ge
 ·exact (nR h.ma.fr hx).1
 ·exact (nR h.ma.ca hx).1
 ·exact (nR h.ma.sp hx).1
theorem jf.kb_T {H:MH} {e:Int} (h:jf w B b H e) {x:Nat} (hx:kb b H x):∃cs T,aJ w x cs T∧(T=192∨T=132∨T=124∨T=114):=by
 rcases hx with hx|hx|hx|hx
 ·rw[hx];exact⟨_,_,h.blk,.inl rfl⟩
 ·obtain⟨cs,hb⟩:=(nR h.ma.fr hx).2;exact⟨cs,_,hb,.inr (.inl rfl)⟩
 ·obtain⟨cs,hb⟩:=(nR h.ma.ca hx).2;exact⟨cs,_,hb,.inr (.inr (.inl rfl))⟩
 ·obtain⟨cs,hb⟩:=(nR h.ma.sp hx).2;exact⟨cs,_,hb,.inr (.inr (.inr rfl))⟩
theorem KS.to {H0 H:MH} {e:Int} (h:jf w0 B b H0 e) (hs:KS w0 b H0 w H) (hB:B0≤B):Below B0 w0 w:=
 ⟨hs.os,hs.tape,hs.output,hs.size,fun x hx=>hs.keep x (by have:=h.bs;omega) (fun hk=>by have:=h.kb_ge hk;omega)⟩
theorem KS.blk {x:Nat} {H0 H:MH} {e:Int} (hs:KS w0 b H0 w H) (h:jf w0 B b H0 e) (hk:aJ w0 x cs T) (hT:T≠192∧T≠132∧T≠124∧T≠114):aJ w x cs T:=by
 refine (hs.keep x hk.lt fun hx => ?_).trans hk;obtain⟨cs',T',hb,h4⟩:=h.kb_T hx;unfold aJ at hk hb;rw[hk] at hb;simp only[gY,pM] at hb;obtain⟨t1,t2,t3,t4⟩:=hT;rcases h4 with e|e|e|e
 ·exact t1 (hb.2.1.trans e)
 ·exact t2 (hb.2.1.trans e)
 ·exact t3 (hb.2.1.trans e)
 ·exact t4 (hb.2.1.trans e)
theorem KS.blkN {x:Nat} {H0 H:MH} (hs:KS w0 b H0 w H) (hk:aJ w0 x cs T) (hx:¬kb b H0 x):aJ w x cs T:=(hs.keep x hk.lt hx).trans hk
theorem KS.own {H0 H:MH} {e:Int} {n:Nat} (hs:KS w0 b H0 w H) (h:jf w0 B b H0 e) (ho:Own w0 B' t sz v n xs) (hT:t≠192∧t≠132∧t≠124∧t≠114):Own w B' t sz v n xs:=
 ⟨ho.1,ho.2.imp id fun⟨g,off,cap,cur,hv,hB,hk,r⟩=>⟨g,off,cap,cur,hv,hB,hs.blk h hk hT,r⟩⟩
theorem qc.keepK {H:MH} {e:Int} (h:jf w B b H e) (hg:w.grownBy w' (some b)):qc w' B H:=h.ma.keep h.blk (by decide) hg
theorem jf.setM {H:MH} {e:Int} (h:jf w B b H e) {m:Mem} (ho:Own w B 132 13 (.slice a m.fs.length c) m.fs.length (m.fs.flatMap oH)) (hb:aJ w' b (dF (nC H e) 0 [.slice a m.fs.length c,.int .i64 m.hand]) 192) (hg:w.grownBy w' (some b)) :
  jf w' B b { H with af:=a,cf:=c,m:=m } e:=
 ⟨hb,h.ge,{ qc.keepK h hg with fr:=ay ho h.blk (by decide) hg },h.tz⟩
theorem jf.setL {H:MH} {e:Int} (h:jf w B b H e) (ho:Own w B 3 1 (.slice a l.length c) l.length (l.map iI)) (hb:aJ w' b (dF (nC H e) 2 [.slice a l.length c]) 192) (hg:w.grownBy w' (some b)) :
  jf w' B b { H with asl:=a,csl:=c,sl:=l } e:=
 ⟨hb,h.ge,{ qc.keepK h hg with sl:=ay ho h.blk (by decide) hg },h.tz⟩
theorem jf.setW {H:MH} {e:Int} (h:jf w B b H e) (ho:kw w B (.slice a d.blocks.length c) (.slice a' d.queue.length c') d) (hb:aJ w' b (dF (nC H e) 3 [.slice a d.blocks.length c,.slice a' d.queue.length c']) 192) (hg:w.grownBy w' (some b)) :
  jf w' B b { H with wb:=a,cwb:=c,wq:=a',cwq:=c',sw:=d } e:=
 ⟨hb,h.ge,{ qc.keepK h hg with sw:=ho.keep h.blk (by decide) (by decide) hg },h.tz⟩
theorem jf.setD {H:MH} {e:Int} (h:jf w B b H e) (ho:kw w B (.slice a d.blocks.length c) (.slice a' d.queue.length c') d) (hb:aJ w' b (dF (nC H e) 5 [.slice a d.blocks.length c,.slice a' d.queue.length c']) 192) (hg:w.grownBy w' (some b)) :
  jf w' B b { H with db:=a,cdb:=c,dq:=a',cdq:=c',dk:=d } e:=
 ⟨hb,h.ge,{ qc.keepK h hg with dk:=ho.keep h.blk (by decide) (by decide) hg },h.tz⟩
theorem jf.setS {H:MH} {e:Int} (h:jf w B b H e) {ps:List PF} {k:Int} (ho:oz w B (.slice a ps.length c) ps) (hk : -9223372036854775808≤k∧k≤9223372036854775807) (hb:aJ w' b (dF (nC H e) 7 [.slice a ps.length c,.int .i64 k]) 192) (hg:w.grownBy w' (some b)) :
  jf w' B b { H with ai:=a,ci:=c,fi:=ps,ct:=k } e:=
 ⟨hb,h.ge,{ qc.keepK h hg with st:=ho.keep h.blk (by decide) (by decide) hg,c64:=hk },h.tz⟩
theorem jf.setE {H:MH} {e e' : Int} (h:jf w B b H e) (hb:aJ w' b (dF (nC H e) 11 [.int .i64 e']) 192) (hg:w.grownBy w' (some b)):jf w' B b H e':=
 ⟨hb,h.ge,qc.keepK h hg,h.tz⟩
def KR (w:World) (B b:Nat) (H:MH) (w' : World) (k:Kp):Prop:=∃H' e',jf w' B b H' e'∧KS w b H w' H'∧Kp.mk H'.ma e' = k
theorem zl {H H' : MH} (h1:H'.af=H.af) (h2:H'.ac=H.ac) (h3:H'.ap=H.ap) {x:Nat} (hx:kb b H' x):kb b H x:=by
 unfold kb at hx ⊢; rw[h1,h2,h3] at hx;exact hx
theorem KS.putB {H0 H H' : MH} (h:KS w0 b H0 w H) (hg:w.grownBy w' (some b)) (h1:H'.af=H.af) (h2:H'.ac=H.ac) (h3:H'.ap=H.ap):KS w0 b H0 w' H':=
 h.put hg (.inl rfl) fun x hx => .inl (zl h1 h2 h3 hx)
theorem KS.putF {H0 H H' : MH} {n:Nat} (h:KS w0 b H0 w H) (hg:w.grownBy w' (some b)) (ho:Own w B' t sz (.slice H'.af n c) n xs) (hB:w0.heap.size≤B') (h2:H'.ac=H.ac) (h3:H'.ap=H.ap):KS w0 b H0 w' H':=
 h.put hg (.inl rfl) fun x hx=>by
  rcases hx with hx|hx|hx|hx
  ·exact .inl (.inl hx)
  ·exact .inr (aV hB (nR ho hx).1)
  ·exact .inl (.inr (.inr (.inl (by rw[←h2];exact hx))))
  ·exact .inl (.inr (.inr (.inr (by rw[←h3];exact hx))))
theorem Kz {row:Option Nat} (hb:Below w.heap.size w w1) (hg:w1.grownBy w2 row):w.grownBy w2 row:=
 ⟨hg.os.trans hb.os,hg.tape.trans hb.tape,hg.output.trans hb.output,aV hb.size hg.size,fun k hk hn=>(hg.block k (nM hk hb.size) hn).trans (hb.block k hk)⟩
def IJ (k B:Nat) (T:TypeId) (R:nG):tH:=⟨fun y w => ∃g cc,y k = .pointer (some ⟨g,0,none⟩)∧B≤g∧aJ w g cc T∧R.r (.agg cc) w,[k],
 fun y w w' hb ⟨g,cc,h1,h2,h3,h4⟩=>⟨g,cc,h1,h2,h3.ext hb,R.st _ _ _ hb h4⟩,fun y y' w h ⟨g,cc,h1,h2⟩=>⟨g,cc,by rw[←h k (bN.2 rfl)];exact h1,h2⟩⟩
theorem gG (h:cs.all (·.oneCell')=true):∀u∈cs.toList,u.oneCell' = true:=by
 rw[←iA,cK] at h;exact h
theorem tQ (H:MH):H.ma.sp.length=H.sp.length:=fP _
theorem MQ {l:List Cc} (h:eB w a (l.flatMap jG)) (k:Nat) (hk:k<l.length):∃b off,a=some ⟨b,off,none⟩∧eB w (some ⟨b,off+k*3,none⟩) (jG l[k]):=pG jH (by decide) h k hk
theorem mi (e:Int):iF e 0=e:=by unfold iF;split<;>simp_all
theorem RN {e:Int} (h:e≠0) (er:Int):iF e er=e:=by unfold iF;rw[if_neg h]
theorem jf.rdM {H:MH} {e:Int} (h:jf w B b H e):eB w (some ⟨b,0,none⟩) [.slice H.af H.m.fs.length H.cf,.int .i64 H.m.hand]:=cz h.blk 0 2
theorem jf.rdW {H:MH} {e:Int} (h:jf w B b H e):eB w (some ⟨b,3,none⟩) [.slice H.wb H.sw.blocks.length H.cwb,.slice H.wq H.sw.queue.length H.cwq]:=cz h.blk 3 2
theorem jf.rdD {H:MH} {e:Int} (h:jf w B b H e):eB w (some ⟨b,5,none⟩) [.slice H.db H.dk.blocks.length H.cdb,.slice H.dq H.dk.queue.length H.cdq]:=cz h.blk 5 2
theorem jf.rdS {H:MH} {e:Int} (h:jf w B b H e):eB w (some ⟨b,7,none⟩) [.slice H.ai H.fi.length H.ci,.int .i64 H.ct]:=cz h.blk 7 2
theorem qK (H:MH) (e er:Int) (B b:Nat) (w:World) (h:jf w B b H e) :
  Calls Tryz.prog 162 #[.pointer (some ⟨b,0,none⟩),.int .i64 er] w fun r w'=>r = .returned (.tuple #[])∧jf w' B b H (iF e er)∧w.grownBy w' (some b):=by
 have hc:=h.blk.cell;have hf:=h.blk.free;unfold nC at hc;go_enter func162,ntmps162
 by_cases h0:e=0
 ·have hg:=aA w b 11 [.int .i64 er];have hb:=h.blk.setCells [.int .i64 er] 11;have a:Hid (iF e er=er):=ae (by unfold iF;rw[if_pos h0]);have h':=ae h;clear h;go_wp2;simp[bodyPost,results,go_sem,results162];rw[a.out];exact⟨h'.out.setE hb hg,hg⟩
 go_wp2;simp[bodyPost,results,go_sem,results162];rw[RN h0];exact⟨h,Bp _ _⟩
theorem QO (H:MH) (e f n:Int) (B b:Nat) (w:World) (h:jf w B b H e) :
  Calls Tryz.prog 168 #[.pointer (some ⟨b,0,none⟩),.int .i64 f,.int .i64 n] w fun r w'=>r = .returned (.tuple #[])∧∃H' e',jf w' B b H' e'∧KS w b H w' H'∧Kp.mk H'.ma e' = fV ⟨H.ma,e⟩ f n∧H'.sp=H.sp:=by
 go_enter func168,ntmps168
 go_wp2_with (refine aC _ _ rfl b 0 rfl rfl _ h.rdM _ underlying31 rfl mem_size ?_)
 refine (Pi H.m f n _ _ _ h.ma.rd.fr).mono ?_;rintro r w1 ⟨vb,rfl,ho,l⟩;obtain⟨a1,c1,rfl,_⟩:=yj ho;have p:=ae h.bs;have h1:=h.below l;have s1:=(KS.refl w b H).below l
 go_wp2_with (refine aT rfl _ _ _ rfl #[.slice a1 (lw H.m f n).fs.length c1,.int .i64 (lw H.m f n).hand] rfl rfl rfl mem_size (fI _ _ _ _) ?_)
 intro w2 c g;have h2:=h1.below c;have s2:=s1.below c;have j:=ho.below c;clear h1 s1 ho c
 go_wp2_with fail
 refine (qK _ e (mI H.m f n) _ _ _ h2).mono ?_;rintro r w3 ⟨rfl,h3,a⟩;have s3:=s2.putB a rfl rfl rfl;have i:=ay j h2.blk (by decide) a;have d:=aG g h2.blk (by decide) a;clear h2 s2 j g a
 by_cases h0:mI H.m f n=0
 ·rw[h0,mi] at h3;have hq:Hid (fV ⟨H.ma,e⟩ f n=⟨{ H.ma with m:=lw H.m f n },e⟩):=ae (by unfold fV;exact if_pos h0);have hx:=d.cell;clear h;rw[h0]
  go_wp2_with (first | (refine aC _ _ rfl _ 0 rfl rfl [.slice a1 (lw H.m f n).fs.length c1,.int .i64 (lw H.m f n).hand] (cz d 0 2) _ underlying31 rfl mem_size ?_) | (refine gy rfl _ _ _ rfl b 0 _ rfl rfl _ _ h3.blk (by show 0+2≤12;decide) mem_size (fI _ _ _ _) ?_))
  intro w4 o k;have h4:=h3.setM (i.mono p.out) o k;go_wp2;simp[bodyPost,results,go_sem,results168];rw[hq.out];exact⟨_,_,h4,s3.putF k i (az _) rfl rfl,rfl,rfl⟩
 have hq:Hid (fV ⟨H.ma,e⟩ f n=⟨H.ma,iF e (mI H.m f n)⟩):=ae (by unfold fV;exact if_neg h0);go_wp2;simp[bodyPost,results,go_sem,results168];rw[hq.out];exact⟨_,_,h3,s3,rfl,rfl⟩
theorem wQ (H:MH) (e f n:Int) (B b:Nat) (w:World) (h:jf w B b H e) :
  Calls Tryz.prog 168 #[.pointer (some ⟨b,0,none⟩),.int .i64 f,.int .i64 n] w fun r w'=>r = .returned (.tuple #[])∧KR w B b H w' (fV ⟨H.ma,e⟩ f n):=
 (QO H e f n B b w h).mono fun r w' ⟨h1,H',e',h2,h3,h4,_⟩=>⟨h1,H',e',h2,h3,h4⟩
theorem eX {y:Operand} {n:Nat} {k:IntKind} (ho:o.op = .indexAddr t x y) (hx:ρ x = .slice (some ⟨b,off,none⟩) n c) (hy:ρ y = .int k (i:Int)) (hi:i<n)
 (hu:P.underlying t=some (.slice e)) (hs:(P.info? e).map (·.size)=some sz):(execOp ρ o).run P w = .ok (.value (.pointer (some ⟨b,off+i*sz,none⟩))) w:=by
 obtain⟨inf,a,d⟩:∃inf,P.info? e=some inf∧inf.size=sz:=by
  cases h:P.info? e with
  | none=>rw[h] at hs;cases hs
  | some inf=>rw[h] at hs;exact⟨inf,rfl,by simpa using hs⟩
 have f:(Go.sizeOf e).run P w = .ok sz w:=by simp[Go.sizeOf,typeInfo,a,go_sem,d]
 simp[execOp,go_sem,ho,hx,hy,hu,f,hi]
theorem mW {o:Nat} (h:eB w (some ⟨b,o,none⟩) vs) (d n:Nat):eB w (some ⟨b,o+d,none⟩) ((vs.drop d).take n):=by
 intro i u hi;rw[jN] at hi;split at hi
 ·rw[nK] at hi;obtain⟨b',o',e,hc⟩:=h (d+i) u hi;cases e;exact⟨_,_,rfl,by rw[oQ];exact hc⟩
 ·cases hi
theorem CS {o:Nat} (r:List Value) (h:cur[o]?=some v):dF cur o (v::r)=dF cur (o+1) r:=by
 have:cur.setIfInBounds o v=cur:=by
  apply oO;intro i;rw[za]
  by_cases e:o=i
  ·subst e;rw[if_pos rfl,if_pos (gN.1 h).1,h]
  ·rw[if_neg e]
 show dF (cur.setIfInBounds o v) (o+1) r=_;rw[this]
theorem zJ {n:Nat} (h:Own w B e sz (.slice (some ⟨g,off,none⟩) n c) n xs) (hb:aJ w g cur e):∀j u,xs[j]?=some u→cur[off+j]?=some u:=by
 rcases h.2 with ⟨h1,_⟩|⟨g',off',cap',cur',hv,_,hk,_,_,_,ht⟩
 ·cases h1
 cases hv;have:cur=cur':=by unfold aJ at hb hk;rw[hb] at hk;simpa using hk
 subst this;exact ht
theorem jf.setT {H:MH} {e:Int} (h:jf w B b H e) {P:PS} (hP:H.sp[p]?=some P) :
  ∃g off cur,H.ap=some ⟨g,off,none⟩∧B≤g∧aJ w g cur 114∧off+p*10+2+8≤cur.size∧eB w (some ⟨g,off+p*10,none⟩) (zw P) ∧
   ∀(w' : World) (v:Vector Value 8) (t:Tb),wR w B (tX v) t→Dw t→aJ w' g (dF cur (off+p*10+2) (tX v).toList) 114→w.grownBy w' (some g)→jf w' B b { H with sp:=H.sp.set p { P with ts:=v,tb:=t } } e:=by
 have hp:=(dx.1 hP).1;have o:=(dx.1 hP).2;obtain⟨g,off,cap,cur,hv,hB,a,r,k⟩:=oM wX (by decide) rfl h.ma.sp p hp;simp only[lH] at hv;obtain⟨l,_,s⟩:=hv;have i:=h.ma.sp;rw[l] at i;have d:=zJ i a;have f:∀j u,(zw P)[j]?=some u→cur[off+p*10+j]?=some u:=fun j u hj=>by rw[oQ];exact d _ _ (flat_get zw 10 wX H.sp p hp j u (by rw[o];exact hj))
 refine⟨g,off,cur,l,hB,a,by omega,fun j u hj=>⟨g,_,rfl,by rw[a.cell];exact f j u hj⟩,fun w' v t ht m hb hg => ?_⟩;have e1:dF cur (off+p*10) (zw { P with ts:=v,tb:=t })=dF cur (off+p*10+2) (tX v).toList:=by show dF cur (off+p*10) (.bool P.lv :: .slice P.aa P.ar.length P.ac::(tX v).toList)=_;rw[CS _ (by simpa using f 0 _ rfl),CS _ (f 1 _ rfl)]
 rw[←e1] at hb;have c:(H.sp.set p { P with ts:=v,tb:=t }).length=H.sp.length:=dM;have n:b≠g:=fun e=>by have h1:=h.blk;subst e;unfold aJ at h1 a;rw[h1] at a;simp only[gY,pM] at a;exact absurd a.2.1 (by decide)
 refine⟨?_,h.ge,⟨ay h.ma.fr a (by decide) hg,ay h.ma.sl a (by decide) hg,h.ma.sw.keep a (by decide) (by decide) hg,h.ma.dk.keep a (by decide) (by decide) hg,h.ma.st.keep a (by decide) (by decide) hg,ay h.ma.ca a (by decide) hg,?_,fun q hq => ?_,h.ma.c64⟩,fun q hq => ?_⟩
 ·have:nC { H with sp:=H.sp.set p { P with ts:=v,tb:=t } } e=nC H e:=by unfold nC;simp only[c]
  rw[this];exact h.blk.grown hg (fun e=>n (aS e).symm)
 ·simp only[c];exact k w' _ hb
 ·rcases lZ hq with hq|rfl
  ·exact⟨ay (h.ma.ps q hq).1 a (by decide) hg,(h.ma.ps q hq).2.keep a (by decide) hg⟩
  ·exact⟨ay (h.ma.ps P (dm hP)).1 a (by decide) hg,ht.keep a (by decide) hg⟩
 rcases lZ hq with hq|rfl
 ·exact h.tz q hq
 ·exact m
theorem wh {H:MH} {P:PS} (hP:H.sp[p]?=some P):bX H.ma p=P.sp:=by
 unfold bX MH.ma;simp only;rw[bM,iY,hP];rfl
theorem Uq {H:MH} {P:PS} (hP:H.sp[p]?=some P) (v:Vector Value 8) (t:Tb):MH.ma { H with sp:=H.sp.set p { P with ts:=v,tb:=t } }=setTb H.ma p t:=by
 unfold setTb;rw[wh hP];unfold MH.ma;simp only[yE];rfl
theorem VK {v:Vector Value 8} {t:Tb} (h:Km w (tX v) t):∀u∈(tX v).toList,u.oneCell' = true:=by
 have:=h.one;rw[←iA,cK] at this;exact this
theorem Ug {t:Tb} {e:En}:Dw (setT t n e):=by
 by_cases h:setE t n e=0
 ·exact Jr (qR h)
 ·rw[vX h];exact Jr zTb_right
def Ps (B:Nat) (t:Tb) (n:Int) (x:En):nG:=⟨fun v w => ∃cs,v = .tuple #[.agg cs,.int .i64 (setE t n x)]∧wR w B cs (setT t n x),fun _ _ _ hb ⟨cs,h1,h2⟩=>⟨cs,h1,h2.below hb⟩⟩
def Ml (B:Nat) (t:Tb):nG:=⟨fun v w => ∃cs,v = .agg cs∧wR w B cs t,fun _ _ _ hb ⟨cs,h1,h2⟩=>⟨cs,h1,h2.below hb⟩⟩
theorem iH (H:MH) (e n:Int) (p:Nat) (x:En) (B b:Nat) (w:World) (h:jf w B b H e) (hp:p<H.sp.length) :
  Calls Tryz.prog 114 #[.pointer (some ⟨b,0,none⟩),.int .i64 p,.int .i64 n,.agg (nI x)] w fun r w'=>r = .returned (.tuple #[])∧KR w B b H w' (dK ⟨H.ma,e⟩ p n x):=by
 obtain⟨P,hP⟩:∃P,H.sp[p]?=some P:=⟨_,aN hp⟩;have hE:=ae (wh hP);have hT:=ae h.bs;have hL:=dm hP;go_enter func114,ntmps114;go_upto_region 1 with (fail);refine jl (fun W=>Code.wp _ _ _ _ W) fun w1 ha hD hN => ?_;have h1:=h.below ha;have s1:=(KS.refl w b H).below ha;clear h hN;obtain⟨g,off,cur,o,hM,u,t,hj,s⟩:=h1.setT hP;refine gH 18 [_,_,_,_,_,_,_,_,_,_,_,.r 11 ((Ps w1.heap.size P.tb n x)),.r 12 ((Ps w1.heap.size P.tb n x)),.r 13 ((Ml w1.heap.size (setT P.tb n x))),.v (.int .i64 (setE P.tb n x)),.r 15 ((eO w1.heap.size 112 8)),.y 16 ((IJ 15 w1.heap.size 112 (Ml w1.heap.size (setT P.tb n x)))),.v (.int .i64 (setE P.tb n x))] (fun W=>Below w1.heap.size w1 W) bA (Below.refl _ _) (Yk bA rfl (Yk bA rfl (Yf bA b 0 rfl rfl (Yf bA b 10 rfl rfl (Yc bA (.slice (some ⟨g,off,none⟩) H.sp.length H.cp) (fun W hb=>by simp[(h1.below hb).blk.cell,nC,o]) rfl rfl rfl rfl (Yk bA rfl (Yr bA (.pointer (some ⟨g,off+p*10,none⟩)) (fun ρ y W hb a=>(eX rfl (aU rfl a) (aU rfl a) hp underlying42 space_size)) rfl rfl (Yf bA g (off+p*10+2) rfl rfl (Yr bA (.agg (tX P.ts)) (fun ρ y W hb a=>(bG rfl (aU rfl a) (mW (hj.below hb) 2 8) underlying112 tab_agg tab_size)) rfl rfl (Yk bA rfl (Yr bA (.agg (nI x)) (fun ρ y W hb a=>(bY rfl (aU rfl a) (hD.ext hb) underlying129 rfl entry_size)) rfl rfl (aj ?_ (aj ?_ (aj ?_ (aj ?_ (aj ?_ (aj ?_ (Yk bA rfl (aF))))))))))))))))))) (fun _=>rfl) rfl ?_
 ·intro ρ y W hw hn hb hd;refine eP bA hb ((Ps w1.heap.size P.tb n x)) (fun _ _ h=>h) ?_;have h5:=hw 19 8 rfl;have h8:y 8 = .agg (tX P.ts):=hd 8 rfl;have h4:=hw 20 9 rfl;have h9:y 9 = .int .i64 n:=hd 9 rfl;have h3:=hw 21 10 rfl;have hX:y 10 = .agg (nI x):=hd 10 rfl;have EF:∀f,ρ (.func f) = .func (.func f) #[] #[]:=fun f=>hn (.func f) trivial;refine aK _ _ (ag rfl) (aQ rfl (EF _) func161 (by kernel_rfl) (by kernel_rfl) (by simp only[bT,bF,bI,h5,h8,h4,h9,h3,hX,EF];rfl)) ?_;refine (Sq P.tb (tX P.ts) n x W (((h1.below hb).ma.ps P hL).2.rd) (h1.tz P hL)).mono ?_;rintro r W2 ⟨cs,rfl,ho,hS⟩;exact⟨_,rfl,hS,cs,rfl,ho.mono hb.size⟩
 ·intro ρ y W hw hn hb hd;refine eP bA hb ((Ps w1.heap.size P.tb n x)) (fun _ _ h=>h) ?_;have hZ:=hw 22 11 rfl;have hW:=hd 11 rfl;refine ak _ (ag rfl) (run_move (.inl rfl) hZ) ?_;exact hW
 ·intro ρ y W hw hn hb hd;refine eP bA hb ((Ml w1.heap.size (setT P.tb n x))) (fun _ _ h=>h) ?_;have ht:=hw 10 12 rfl;have hs:=hd 12 rfl;obtain⟨cs,hr,ho⟩:=hs;refine ak (.agg cs) (ag rfl) (by simp[execOp,go_sem,bu,ht,hr]) ?_;exact⟨cs,rfl,ho⟩
 ·intro ρ y W hw hn hb hd;refine eP bA hb (gI (.int .i64 (setE P.tb n x))) (fun _ _ h=>h) ?_;have ht:=hw 10 12 rfl;have hs:=hd 12 rfl;obtain⟨cs,hr,ho⟩:=hs;refine ak (.int .i64 (setE P.tb n x)) (ag rfl) (by simp[execOp,go_sem,bu,ht,hr]) rfl
 ·intro ρ y W hw hn hb hd;refine eP bA hb ((eO w1.heap.size 112 8)) (fun _ _ h=>h) ?_;refine gz (.pointer (some ⟨W.heap.size,0,none⟩)) (ag rfl) (by simp[execOp,go_sem,bu]) ((Below.refl _ _).alloc (az _) (.cells #[.slice none 0 0,.slice none 0 0,.slice none 0 0,.slice none 0 0,.slice none 0 0,.slice none 0 0,.slice none 0 0,.slice none 0 0] 112)) ?_;exact⟨_,_,rfl,hb.size,aJ.new _ _ _,rfl⟩
 ·intro ρ y W hw hn hb hd;have E8:=hw 8 15 rfl;have hU:=hd 15 rfl;have hY:=hw 23 13 rfl;have hV:=hd 13 rfl;obtain⟨cc,e7,hl⟩:=hV;obtain⟨g3,cur3,e9,hJ,m,hF⟩:=hU;have j:=hl.sz;refine iZ (ag rfl) _ _ _ rfl g3 0 (.agg cc) cc.toList (E8.trans e9) (hY.trans e7) rfl cur3 _ m (by rw[kH,hF,j];exact az _) (by rw[kH,j];exact tab_size) (gG hl.rd.one) ?_;intro w1 hh l;rw[dU cur3 cc (by rw[hF,j])] at hh;refine⟨hb.grown l hb.size (fun k hk=>by cases hk;exact hJ),⟨g3,cc,e9,hJ,hh,⟨cc,rfl,hl.keep m (by decide) l⟩⟩,?_⟩;intro k hk hO
  match k,hk,hO with
  | 0,_,_=>exact fun h=>h
  | 1,_,_=>exact fun h=>h
  | 2,_,_=>exact fun h=>h
  | 3,_,_=>exact fun h=>h
  | 4,_,_=>exact fun h=>h
  | 5,_,_=>exact fun h=>h
  | 6,_,_=>exact fun h=>h
  | 7,_,_=>exact fun h=>h
  | 8,_,_=>exact fun h=>h
  | 9,_,_=>exact fun h=>h
  | 10,_,_=>exact fun h=>h
  | 11,_,_=>exact fun⟨c,q1,q2⟩=>⟨c,q1,q2.keep m (by decide) l⟩
  | 12,_,_=>exact fun⟨c,q1,q2⟩=>⟨c,q1,q2.keep m (by decide) l⟩
  | 13,_,_=>exact fun⟨c,q1,q2⟩=>⟨c,q1,q2.keep m (by decide) l⟩
  | 14,_,_=>exact fun h=>h
  | 15,_,_=>exact fun q=>iy q hh (fun _=>j) ⟨_,m⟩ l
  | 16,_,h=>exact absurd rfl h
  | 17,_,_=>exact fun h=>h
  | n+18,h,_=>exact absurd h (by omega)
 intro y W2 i d;replace i:Below w1.heap.size w1 W2:=i;have hB:((Ps w1.heap.size P.tb n x)).r (y 11) W2:=d 11 (by decide);have hA:((Ps w1.heap.size P.tb n x)).r (y 12) W2:=d 12 (by decide);have hz:((Ml w1.heap.size (setT P.tb n x))).r (y 13) W2:=d 13 (by decide);have hv:((eO w1.heap.size 112 8)).r (y 15) W2:=d 15 (by decide);have hu:=d 16 (by decide);clear d;simp only[dE,bu,bF,bI];obtain⟨gx,cs2,h7,hH,hK,ca2,hf,hm⟩:=hu;simp only[wW] at hf;subst hf;obtain⟨v2,rfl⟩:=UY hm.sz;have h2:=h1.below i;have s2:=s1.below i;have hI:=ae ha.size;clear hB hA hz hv s hj u t o h1 s1 hD hM ha cur
 go_wp2_with fail
 refine (qK _ e (setE P.tb n x) _ _ _ h2).mono ?_;rintro r w3 ⟨rfl,k3,z⟩;have s3:=s2.putB z rfl rfl rfl;have hG:=hm.keep h2.blk (by decide) z;have hC:=aG hK h2.blk (by decide) z;have hM:=ae hH;clear h2 s2 hm hK z i hH;have hi:Hid (setE (bX H.ma p).tb n x=setE P.tb n x):=ae (by rw[hE.out];rfl)
 by_cases h0:setE P.tb n x=0
 ·rw[h0,mi] at k3;have hq:Hid (dK ⟨H.ma,e⟩ p n x=⟨setTb H.ma p (setT P.tb n x),e⟩):=ae (by unfold dK;simp only;rw[if_pos (hi.out.trans h0),hE.out];rfl);obtain⟨g,off,cur,o,h6,u,t,hj,s⟩:=k3.setT hP;have hx:=hC.cell;have kc3:=k3.blk.cell;unfold nC at kc3;rw[o] at kc3;rw[h0];go_upto_region 4 with (fail);refine aP 9 [_,_,_,_,_,_,_,_,_] (Gk rfl (Gk rfl (Gf b 0 rfl rfl (Gf b 10 rfl rfl (Gc (.slice (some ⟨g,off,none⟩) H.sp.length H.cp) (fun W hb=>by simp[(k3.below hb).blk.cell,nC,o]) rfl rfl rfl rfl (Gk rfl (Gr (.agg (tX v2)) (fun ρ y W hb a=>(bG rfl (aU rfl a) ((hC.ext hb).rd) underlying112 tab_agg tab_size)) rfl rfl (Gr (.pointer (some ⟨g,off+p*10,none⟩)) (fun ρ y W hb a=>(eX rfl (aU rfl a) (aU rfl a) hp underlying42 space_size)) rfl rfl (Gf g (off+p*10+2) rfl rfl (aF)))))))))) (fun _=>rfl) rfl ?_;intro y W4 hg _
  go_wp2_with (refine gy rfl _ _ _ rfl g (off+p*10+2) (tX v2) rfl rfl _ _ (u.ext hg) t tab_size (by rw[←iA,cK];exact VK hG.rd) ?_)
  intro w5 hR hQ;have hc:=Kz hg hQ;have k5:=s w5 v2 (setT P.tb n x) (hG.mono (aV hT.out hI.out)) Ug hR hc;go_wp2;simp[bodyPost,results,go_sem,results114];rw[hq.out];refine⟨_,_,k5,s3.put hc (.inr (.inr (.inr (by rw[o];rfl)))) fun y hy => .inl (zl rfl rfl rfl hy),?_⟩;rw[Uq hP]
 have hq:Hid (dK ⟨H.ma,e⟩ p n x=⟨H.ma,iF e (setE P.tb n x)⟩):=ae (by unfold dK;simp only;rw[if_neg (by rw[hi.out];exact h0),hi.out]);go_wp2;simp[bodyPost,results,go_sem,results114];rw[hq.out];exact⟨_,_,k3,s3,rfl⟩
theorem slots_size:(Tryz.prog.info? 33).map (·.size)=some 1:=by kernel_rfl
def uY (B:Nat) (T:TypeId) (sz n:Nat) (xs:List Value) (er:Int):nG:=⟨fun v w => ∃u,v = .tuple #[u,.int .i64 er]∧Own w B T sz u n xs,fun _ _ _ hb ⟨u,h1,h2⟩=>⟨u,h1,h2.below hb⟩⟩
theorem jf.at {w:World} {B b:Nat} {H:MH} {e:Int} (h:jf w B b H e) {p:Nat} {P:PS} (hP:H.sp[p]?=some P):∃g off,H.ap=some ⟨g,off,none⟩∧eB w (some ⟨g,off+p*10,none⟩) (zw P)∧eB w (some ⟨g,off+p*10+2,none⟩) (tX P.ts).toList∧P.good w:=by
 have hp:=(dx.1 hP).1;obtain⟨g,off,P',ha,a,hr⟩:=xz h.ma.rd.sp.rd p hp;rw[hP] at a;cases a;exact⟨g,off,ha,hr,mW hr 2 8,h.ma.rd.ps P (dm hP)⟩
theorem KR.trans {H0 H1:MH} {k:Kp} (h:KS w0 b H0 w1 H1) (k2:KR w1 B b H1 w2 k):KR w0 B b H0 w2 k:=by
 obtain⟨H2,e2,h1,h2,h3⟩:=k2;exact⟨H2,e2,h1,h.trans h2,h3⟩
theorem zW (H:MH) (e n:Int) (p:Nat) (B b:Nat) (w:World) (h:jf w B b H e) (hp:p<H.sp.length) :
  Calls Tryz.prog 160 #[.pointer (some ⟨b,0,none⟩),.int .i64 p,.int .i64 n] w fun r w'=>r = .returned (.tuple #[])∧KR w B b H w' (iU ⟨H.ma,e⟩ p n):=by
 obtain⟨P,hP⟩:∃P,H.sp[p]?=some P:=⟨_,aN hp⟩;have hs:=ae (wh hP);obtain⟨g,off,hE,ht,hh,d⟩:=h.at hP;have hc:=h.blk.cell;unfold nC at hc;rw[hE] at hc;have hL:(p:Int)<(H.sp.length:Int):=by omega
 go_enter func160,ntmps160
 go_wp2_with (refine aC _ _ rfl g (off+p*10+2) rfl rfl _ hh _ underlying112 tab_agg tab_size ?_)
 refine (wo P.tb (tX P.ts) n _ d.tb).mono ?_;rintro r w1 ⟨rfl,hf⟩;have h1:=h.below hf;have s1:=(KS.refl w b H).below hf;clear hc ht hh d;generalize hx:dB P.tb n=x
 go_wp2_with (refine aT rfl _ _ _ rfl (nI x) rfl rfl rfl entry_size (by simp[nI,Value.oneCell']) ?_)
 intro w2 ha o;have h2:=h1.below ha;have s2:=s1.below ha;clear h1 s1 hf ha h;have i:=o.cell;unfold nI at i;have t:Hid (dB (bX H.ma p).tb n=x):=ae (by rw[hs.out];exact hx);clear hx
 by_cases hk1:x.k=1
 ·have hq:Hid (iU ⟨H.ma,e⟩ p n=dK (fV ⟨H.ma,e⟩ x.n (-1)) p n zEn):=ae (by unfold iU;simp only[t.out];rw[if_pos hk1]);have hJ:=ae hk1;rw[hk1] at i;clear hk1
  go_wp2_with fail
  refine (wQ H e x.n (-1) B b _ h2).mono ?_;rintro r w3 ⟨rfl,H3,e3,h3,s3,q3⟩;have hz:H3.sp.length=H.sp.length:=by
   have e1:H3.ma.sp=H.ma.sp:=by have:=congrArg (fun k=>k.m.sp) q3;simp only at this;rw[this];unfold fV;split<;>rfl
   have:=congrArg List.length e1;unfold MH.ma at this;simpa using this
  have s3':=s2.trans s3;have hv:=ae q3;clear q3 s3 i
  go_wp2_with fail
  refine (iH H3 e3 n p zEn B b _ h3 (by rw[hz];exact hp)).mono ?_;rintro r w4 ⟨rfl,hA⟩;go_wp2;simp[bodyPost,results,go_sem,results160];rw[hq.out,←hv.out];exact KR.trans s3' hA
 by_cases hk2:x.k=2
 ·have hq:Hid (iU ⟨H.ma,e⟩ p n=dK (lY ⟨H.ma,e⟩ x.n (-1)) p n zEn):=ae (by unfold iU;simp only[t.out];rw[if_neg hk1,if_pos hk2]);rw[hk2] at i;clear hk1 hk2;have hj:=h2.blk.cell;unfold nC at hj;go_upto_region 5 with (fail);refine gH 13 [_,_,_,_,_,_,_,.r 7 ((uY w2.heap.size 3 1 (bL H.sl x.n (-1)).length ((bL H.sl x.n (-1)).map iI) (bS H.sl x.n (-1)))),.r 8 ((uY w2.heap.size 3 1 (bL H.sl x.n (-1)).length ((bL H.sl x.n (-1)).map iI) (bS H.sl x.n (-1)))),.r 9 ((iw w2.heap.size 3 1 (bL H.sl x.n (-1)).length ((bL H.sl x.n (-1)).map iI))),.v (.int .i64 (bS H.sl x.n (-1))),.r 11 ((iw w2.heap.size 3 1 (bL H.sl x.n (-1)).length ((bL H.sl x.n (-1)).map iI))),.v (.int .i64 (bS H.sl x.n (-1)))] (fun W=>Below w2.heap.size w2 W) bA (Below.refl _ _) (Yk bA rfl (Yk bA rfl (Yf bA b 0 rfl rfl (Yf bA b 2 rfl rfl (Yc bA (.slice H.asl H.sl.length H.csl) (fun W hb=>by simp[(h2.below hb).blk.cell,nC]) rfl rfl rfl rfl (Yf bA w1.heap.size 1 rfl rfl (Yc bA (.int .i64 x.n) (fun W hb=>by simp[(o.ext hb).cell,nI]) rfl rfl rfl rfl (aj ?_ (aj ?_ (aj ?_ (aj ?_ (aj ?_ (Yk bA rfl (aF)))))))))))))) (fun _=>rfl) rfl ?_
  ·intro ρ y W hw hn hb hd;refine eP bA hb ((uY w2.heap.size 3 1 (bL H.sl x.n (-1)).length ((bL H.sl x.n (-1)).map iI) (bS H.sl x.n (-1)))) (fun _ _ h=>h) ?_;have hI:=hw 35 4 rfl;have h4:y 4 = .slice H.asl H.sl.length H.csl:=hd 4 rfl;have hH:=hw 37 6 rfl;have h6:y 6 = .int .i64 x.n:=hd 6 rfl;have EC:∀v,ρ (.const v)=v:=fun v=>hn (.const v) trivial;have EF:∀f,ρ (.func f) = .func (.func f) #[] #[]:=fun f=>hn (.func f) trivial;refine aK _ _ (ag rfl) (aQ rfl (EF _) func167 (by kernel_rfl) (by kernel_rfl) (by simp only[bT,bF,bI,hI,h4,hH,h6,EC,EF];rfl)) ?_;have hm:=(h2.below hb).ma.rd.sl;refine (Ed H.sl H.asl H.csl x.n (-1) W hm.le hm.nl hm.rd (by have:=hm.le;have:=hm.mx;unfold maxLen at this;omega)).mono ?_;rintro r W3 ⟨u,rfl,ho,hD⟩;exact⟨_,rfl,hD,u,rfl,ho.mono hb.size⟩
  ·intro ρ y W hw hn hb hd;refine eP bA hb ((uY w2.heap.size 3 1 (bL H.sl x.n (-1)).length ((bL H.sl x.n (-1)).map iI) (bS H.sl x.n (-1)))) (fun _ _ h=>h) ?_;have hG:=hw 38 7 rfl;have h7:=hd 7 rfl;refine ak _ (ag rfl) (run_move (.inl rfl) hG) ?_;exact h7
  ·intro ρ y W hw hn hb hd;refine eP bA hb ((iw w2.heap.size 3 1 (bL H.sl x.n (-1)).length ((bL H.sl x.n (-1)).map iI))) (fun _ _ h=>h) ?_;have hg:=hw 30 8 rfl;have h8:=hd 8 rfl;obtain⟨u,hu,ho⟩:=h8;refine ak u (ag rfl) (by simp[execOp,go_sem,bu,hg,hu]) ?_;exact ho
  ·intro ρ y W hw hn hb hd;refine eP bA hb (gI (.int .i64 (bS H.sl x.n (-1)))) (fun _ _ h=>h) ?_;have hg:=hw 30 8 rfl;have h8:=hd 8 rfl;obtain⟨u,hu,ho⟩:=h8;refine ak (.int .i64 (bS H.sl x.n (-1))) (ag rfl) (by simp[execOp,go_sem,bu,hg,hu]) rfl
  ·intro ρ y W hw hn hb hd;refine eP bA hb ((iw w2.heap.size 3 1 (bL H.sl x.n (-1)).length ((bL H.sl x.n (-1)).map iI))) (fun _ _ h=>h) ?_;have hF:=hw 39 9 rfl;have h9:=hd 9 rfl;refine ak _ (ag rfl) (run_move (.inr rfl) hF) ?_;exact h9
  intro y W3 a c;replace a:Below w2.heap.size w2 W3:=a;have hr:((uY w2.heap.size 3 1 (bL H.sl x.n (-1)).length ((bL H.sl x.n (-1)).map iI) (bS H.sl x.n (-1)))).r (y 7) W3:=c 7 (by decide);have hl:((uY w2.heap.size 3 1 (bL H.sl x.n (-1)).length ((bL H.sl x.n (-1)).map iI) (bS H.sl x.n (-1)))).r (y 8) W3:=c 8 (by decide);have hk:((iw w2.heap.size 3 1 (bL H.sl x.n (-1)).length ((bL H.sl x.n (-1)).map iI))).r (y 9) W3:=c 9 (by decide);have l:((iw w2.heap.size 3 1 (bL H.sl x.n (-1)).length ((bL H.sl x.n (-1)).map iI))).r (y 11) W3:=c 11 (by decide);clear c;simp only[dE,bu,bF,bI];have j:Own W3 w2.heap.size 3 1 (y 11) (bL H.sl x.n (-1)).length ((bL H.sl x.n (-1)).map iI):=l;obtain⟨a3,c3,e7,_⟩:=Own.rd j;rw[e7] at j;simp only[e7];have k3:=h2.below a;have s3:=s2.below a;have hB:=ae (aV h2.bs (az _));have hK:=ae s2.size;clear hr hl hk l e7 i hj h2 s2 o a
  go_wp2_with fail
  refine (qK _ e (bS H.sl x.n (-1)) _ _ _ k3).mono ?_;rintro r w4 ⟨rfl,k4,z⟩;have s4:=s3.putB z rfl rfl rfl;have hy:=ay j k3.blk (by decide) z;clear k3 s3 j z
  by_cases h0:bS H.sl x.n (-1)=0
  ·rw[h0,mi] at k4;have q:Hid (lY ⟨H.ma,e⟩ x.n (-1)=⟨{ H.ma with sl:=bL H.sl x.n (-1) },e⟩):=ae (by unfold lY;exact if_pos h0);rw[h0]
   go_wp2_with (refine bz rfl _ _ _ rfl b 2 _ [.slice a3 (bL H.sl x.n (-1)).length c3] rfl rfl rfl _ _ k4.blk (by show 2+1≤12;decide) slots_size (fun u hu=>by cases bN.1 hu;rfl) ?_)
   intro w5 hC hi;have k5:=k4.setL (hy.mono hB.out) hC hi;have s5:KS w b H w5 { H with asl:=a3,csl:=c3,sl:=bL H.sl x.n (-1) }:=s4.putB hi rfl rfl rfl
   go_wp2_with fail
   refine (iH _ e n p zEn B b _ k5 hp).mono ?_;rintro r w6 ⟨rfl,s⟩;go_wp2;simp[bodyPost,results,go_sem,results160];rw[hq.out,q.out];exact KR.trans s5 s
  have q:Hid (lY ⟨H.ma,e⟩ x.n (-1)=⟨H.ma,iF e (bS H.sl x.n (-1))⟩):=ae (by unfold lY;exact if_neg h0)
  go_wp2_with fail
  refine (iH _ (iF e (bS H.sl x.n (-1))) n p zEn B b _ k4 hp).mono ?_;rintro r w6 ⟨rfl,s⟩;go_wp2;simp[bodyPost,results,go_sem,results160];rw[hq.out,q.out];exact KR.trans s4 s
 have hq:Hid (iU ⟨H.ma,e⟩ p n=⟨H.ma,e⟩):=ae (by unfold iU;simp only[t.out];rw[if_neg hk1,if_neg hk2]);go_wp2;simp[bodyPost,results,go_sem,results160];rw[hq.out];exact⟨_,_,h2,s2,rfl⟩
theorem vw {a:Nat} (h:aJ w a cs T) (h' : aJ w b cs' T') (hT:T≠T'):a≠b:=by
 rintro rfl;unfold aJ at h h';rw[h] at h';simp only[gY,pM] at h';exact hT h'.2.1
def CW (B:Nat) (m:Mem):nG:=⟨fun v w => ∃u,v = .agg #[u,.int .i64 m.hand]∧Own w B 132 13 u m.fs.length (m.fs.flatMap oH),fun _ _ _ hb ⟨u,h1,h2⟩=>⟨u,h1,h2.below hb⟩⟩
theorem jJ (l:List Cc):(l.flatMap jG).length=l.length*3:=Pw.flat_len jG 3 jH l
theorem Ht (c:Cc):∀u∈jG c,u.oneCell' = true:=gG (Gd c)
theorem yJ (l:List Cc):∀u∈l.flatMap jG,u.oneCell' = true:=by
 intro u hu;obtain⟨c,_,hc⟩:=ji.1 hu;exact Ht c u hc
def Lt (B:Nat) (S:St):nG:=⟨fun v w => ∃u ps k,v = .agg #[u,.int .i64 k]∧oz w B u ps∧bJ ps k=S,fun _ _ _ hb ⟨u,ps,k,h1,h2,h3⟩=>⟨u,ps,k,h1,h2.below hb,h3⟩⟩
theorem zQ (l:List Cc) (x:Cc) (k:Nat):(l.take k++x::l.drop k).flatMap jG=(l.take k).flatMap jG++(jG x++(l.drop k).flatMap jG):=by simp[gK]
theorem Dl {l:List Cc} {x:Cc} {o:Nat} (hk:k≤l.length) (h1:∀j u,((l.take k).flatMap jG)[j]?=some u→cur[o+j]?=some u) (h2:∀j u,(jG x)[j]?=some u→cur[o+k*3+j]?=some u)
 (h3:∀j u,((l.drop k).flatMap jG)[j]?=some u→cur[o+(k+1)*3+j]?=some u):∀j u,((l.take k++x::l.drop k).flatMap jG)[j]?=some u→cur[o+j]?=some u:=by
 intro j u hj;have a:((l.take k).flatMap jG).length=k*3:=by rw[jJ,fq,qN hk]
 rw[zQ] at hj
 by_cases c1:j<k*3
 ·rw[il (by omega)] at hj;exact h1 j u hj
 rw[iN (by omega),a] at hj
 by_cases c2:j-k*3<3
 ·rw[il (by rw[jH];exact c2)] at hj;have:=h2 _ u hj;rwa [show o+k*3+(j-k*3)=o+j by omega] at this
 rw[iN (by rw[jH];omega),jH] at hj;have:=h3 _ u hj;rwa [show o+(k+1)*3+(j-k*3-3)=o+j by omega] at this
theorem vO {l:List Cc} {o:Nat} (h:∀j u,(l.flatMap jG)[j]?=some u→cur[o+j]?=some u):∀j u,((l.take k).flatMap jG)[j]?=some u→cur[o+j]?=some u:=by
 intro j u hj;refine h j u ?_
 conv=>lhs;rw[←pR k l,gK]
 rw[il (by have:=(dx.1 hj).1;exact this)];exact hj
theorem Aj {l:List Cc} (hk:k≤l.length) {o:Nat} (h:∀j u,(l.flatMap jG)[j]?=some u→cur[o+j]?=some u):∀j u,((l.drop k).flatMap jG)[j]?=some u→cur[o+k*3+j]?=some u:=by
 intro j u hj;rw[oQ];refine h _ u ?_
 conv=>lhs;rw[←pR k l,gK]
 have a:((l.take k).flatMap jG).length=k*3:=by rw[jJ,fq,qN hk]
 rw[iN (by omega),a,yQ];exact hj
theorem IG {a:Act} {K:Act→World→Prop} {E:Prop}
 (hg:o.guard=none) (d s:Operand) (t t' : TypeId) (hop:o.op=Op.call { callee:=.builtin .append,args:=#[d,s],argTypes:=#[t,t'] }) (vd vs v:Value)
 (hd:a.eval d=vd) (hx:a.eval s=vs) (hr:(Builtin.append_ #[t,t'] o.type #[vd,vs]).run P w = .ok v w') (hK:K (a.put o.dst v) w') :
  if Region.wanted o (yielded ops a.tmps)=true then Oper.wp P o a w K Q else E:=by
 have hw:Region.wanted o (yielded ops a.tmps)=true:=by simp[Region.wanted,hg]
 rw[if_pos hw];unfold Oper.wp;simp[execOp,hop,resolve,invoke,builtin,hd,hx,hr,Result.andThen];exact hK
theorem CG (l:List Cc) (k:Nat):(l.eraseIdx k).flatMap jG=(l.take k).flatMap jG++(l.drop (k+1)).flatMap jG:=by rw[List.eraseIdx_eq_take_drop_succ,gK]
theorem IA (l:List Cc) (k:Nat) (hk:k<l.length) (a:Option Addr) (c B:Nat) (w:World) (hown:Own w B 124 3 (.slice a l.length c) l.length (l.flatMap jG)) (hl:l.length≤1000) :
  Calls Tryz.prog 199 #[.slice a l.length c,.int .i64 k,.int .i64 ((k:Int)+1)] w fun e w'=>e = .returned (.slice a (l.length-1) c)∧Own w' B 124 3 (.slice a (l.length-1) c) (l.length-1) ((l.eraseIdx k).flatMap jG)∧w.grownBy w' (oB a):=by
 rcases hown with ⟨hlen,⟨_,hz⟩|⟨b,off,c',cur,hv,hBb,hb,hnc,hmx,hsz,hcell⟩⟩
 ·omega
 cases hv;have t:=hmx;unfold maxLen at t;have v:((l.drop (k+1)).flatMap jG).length=(l.length-(k+1))*3:=by rw[jJ,uJ]
 have x:=Aj (k:=k+1) (by omega) hcell;have q:∀ad cc ty,(∀j u,((l.drop (k+1)).flatMap jG)[j]?=some u→w.cell? (Addr.add ad j)=some u)→(Builtin.append_ #[41,41] ty #[.slice (some ⟨b,off,none⟩) k c,.slice (some ad) (l.length-(k+1)) cc]).run Tryz.prog w.drew = .ok (.slice (some ⟨b,off,none⟩) (k+(l.length-(k+1))) c) (w.drew.setCells b (off+k*3) ((l.drop (k+1)).flatMap jG)):=by intro ad cc ty hn;obtain⟨i0,hd,hh,i,hg⟩:=info_parts cached_info;have:=run_append_room_cells (P:=Tryz.prog) w.drew 41 ty 124 i0 underlying41 hd b off k c ad (l.length-(k+1)) cc ((l.drop (k+1)).flatMap jG) (by rw[i,v]) hn (fun u hu=>yJ _ u hu) (by omega) (fun j hj=>by rw[i,hb.drew.cell];simp[show off+k*3+j<cur.size by omega]) (fun j hj=>hb.drew.free _);rw[i] at this;exact this
 have r:k+1=l.length→((l.drop (k+1)).flatMap jG)=[]:=fun h=>by rw[uF (by omega)];rfl
 obtain⟨N,hN⟩:∃N,N=(l.drop (k+1)).flatMap jG:=⟨_,rfl⟩;rw[←hN] at v x q r;have ha:=ae hN;clear hN;have hi:IntKind.i64.wrap ((k:Int)+1)=(k:Int)+1:=bP _ (by omega);have hs:(k:Int)+1≤(l.length:Int):=by omega
 have hr:(k:Int)≤(k:Int)+1:=by omega
 have hf:¬((k:Int)=(k:Int)+1):=by omega
 have ht:(0:Int)≤(k:Int)+1:=by omega
 have hm:((k:Int)+1).toNat=k+1:=by omega
 have hp:(l.length:Int)≤(c:Int):=by omega
 have hq:(k:Int)≤(c:Int):=by omega
 go_enter func199,ntmps199
 go_wp2_with fail
 by_cases hck:c=k+1
 ·subst hck;have z:=ae (r (by omega));clear r
  go_region_law (refine IG rfl _ _ 41 41 rfl (.slice (some ⟨b,off,none⟩) k (k+1)) (.slice (some ⟨b,off,none⟩) (l.length-(k+1)) 0) _ (by simp[Act.eval,Act.put]) (by simp[Act.eval,Act.put];omega) (q _ _ _ (fun j u hj=>by rw[z.out] at hj;simp at hj)) ?_)
  have g:=(hb.drew).setCells N (off+k*3);have f:w.grownBy (w.drew.setCells b (off+k*3) N) (some b):=jw (a:=w) (b:=w.drew) (row:=some b) ⟨rfl,rfl,rfl,az _,fun _ _ _=>rfl⟩ (aA w.drew _ _ _);have o:k+(l.length-(k+1))=k:=by omega
  try rw[o]
  have s : Hid (k=l.length-1):=ae (by omega);have e4:(l.length:Int)≤(k:Int)+1:=by omega
  generalize w.drew.setCells b (off+k*3) N=W1 at *
  have y:=fun ty=>sH (P:=Tryz.prog) W1 41 124 ty _ 3 24 underlying41 cached_info (by decide) (by decide) b (off+k*3) 1 (1) (by omega) _ _ g (by rw[size_putAt];show off+k*3+1*3≤cur.size;omega);have e1:l.length-k=1:=by omega
  have e2:((k:Nat):Int)≤(l.length:Int):=by omega
  have e3:¬((k+1)=k):=by omega
  go_wp2;go_ret;have p:=g.setCells (Builtin.zeroCells (Value.agg #[.int .i64 0,.int .i64 0,.int .i64 0]).cells 1).toList (off+k*3);have d:=jw f (aA W1 b (off+k*3) (Builtin.zeroCells (Value.agg #[.int .i64 0,.int .i64 0,.int .i64 0]).cells 1).toList);refine⟨congrArg (fun n=>Ending.returned (Value.slice (some ⟨b,off,none⟩) n (k+1))) (show k=l.length-1 by omega),⟨by rw[jJ,yo hk],.inr ⟨b,off,(k+1),_,rfl,hBb,p,by omega,hmx,by rw[size_putAt,size_putAt];exact hsz,?_⟩⟩,d⟩;intro j u hj;have hc:j<(l.length-1)*3:=by have:=(dx.1 hj).1;rw[jJ,yo hk] at this;exact this
  rw[putAt_out _ _ _ _ (.inl (by omega))];rw[CG,←ha.out] at hj;have m:((l.take k).flatMap jG).length=k*3:=by rw[jJ,fq,qN (by omega)]
  by_cases c1:j<k*3
  ·rw[il (by omega)] at hj;rw[putAt_out _ _ _ _ (.inl (by omega))];exact vO hcell j u hj
  rw[iN (by omega),m] at hj;have:=putAt_in _ cur (off+k*3) (j-k*3) u (by omega) hj;rwa [show off+k*3+(j-k*3)=off+j by omega] at this
 go_region_law (refine IG rfl _ _ 41 41 rfl (.slice (some ⟨b,off,none⟩) k c) (.slice (some ⟨b,off+(k+1)*3,none⟩) (l.length-(k+1)) (c-(k+1))) _ (by simp[Act.eval,Act.put]) (by simp[Act.eval,Act.put]) (q _ _ _ (fun j u hj=>by rw[mr,hb.cell];exact x j u hj)) ?_)
 have g:=(hb.drew).setCells N (off+k*3);have f:w.grownBy (w.drew.setCells b (off+k*3) N) (some b):=jw (a:=w) (b:=w.drew) (row:=some b) ⟨rfl,rfl,rfl,az _,fun _ _ _=>rfl⟩ (aA w.drew _ _ _);have o:k+(l.length-(k+1))=(l.length-1):=by omega
 try rw[o]
 have s : Hid ((l.length-1)=l.length-1):=ae (by omega);have e4:(l.length:Int)≤(c:Int):=by omega
 generalize w.drew.setCells b (off+k*3) N=W1 at *
 have y:=fun ty=>sH (P:=Tryz.prog) W1 41 124 ty _ 3 24 underlying41 cached_info (by decide) (by decide) b (off+(l.length-1)*3) 1 (c-(l.length-1)) (by omega) _ _ g (by rw[size_putAt];show off+(l.length-1)*3+1*3≤cur.size;omega);have e1:l.length-(l.length-1)=1:=by omega
 have e2:(((l.length-1):Nat):Int)≤(l.length:Int):=by omega
 have e3:¬(c=(l.length-1)):=by omega
 go_wp2;go_ret;have p:=g.setCells (Builtin.zeroCells (Value.agg #[.int .i64 0,.int .i64 0,.int .i64 0]).cells 1).toList (off+(l.length-1)*3);have d:=jw f (aA W1 b (off+(l.length-1)*3) (Builtin.zeroCells (Value.agg #[.int .i64 0,.int .i64 0,.int .i64 0]).cells 1).toList);refine⟨congrArg (fun n=>Ending.returned (Value.slice (some ⟨b,off,none⟩) n c)) (show (l.length-1)=l.length-1 by omega),⟨by rw[jJ,yo hk],.inr ⟨b,off,c,_,rfl,hBb,p,by omega,hmx,by rw[size_putAt,size_putAt];exact hsz,?_⟩⟩,d⟩;intro j u hj;have hc:j<(l.length-1)*3:=by have:=(dx.1 hj).1;rw[jJ,yo hk] at this;exact this
 rw[putAt_out _ _ _ _ (.inl (by omega))];rw[CG,←ha.out] at hj;have m:((l.take k).flatMap jG).length=k*3:=by rw[jJ,fq,qN (by omega)]
 by_cases c1:j<k*3
 ·rw[il (by omega)] at hj;rw[putAt_out _ _ _ _ (.inl (by omega))];exact vO hcell j u hj
 rw[iN (by omega),m] at hj;have:=putAt_in _ cur (off+k*3) (j-k*3) u (by omega) hj;rwa [show off+k*3+(j-k*3)=off+j by omega] at this
theorem SX (c:Cc) (g g2:Nat) (f i:Int) (w:World) (hg:aJ w g #[.int .i64 f] 3) (hg2:aJ w g2 #[.int .i64 i] 3) :
  Calls Tryz.prog 193 #[.agg (zU c),.pointer (some ⟨g,0,none⟩),.pointer (some ⟨g2,0,none⟩)] w fun r w'=>r = .returned (.bool (Eu f i c))∧Below w.heap.size w w':=by
 go_enter func193,ntmps193;go_upto_region 1 with (fail);refine jl (fun W=>Code.wp _ _ _ _ W) fun W0 a b d => ?_;clear d;have j:=(hg.ext a).cell 0;have h:=(hg2.ext a).cell 0;have e:=b.cell;unfold zU at e
 by_cases h1:f<c.f
 ·go_wp2;go_ret;exact⟨bK (by unfold Eu;simp[h1]),a⟩
 by_cases h2:c.f=f
 ·have e1:(c.f==f)=true:=by simpa using h2
  by_cases h3:i≤c.i
  ·go_wp2;go_ret;exact⟨bK (by unfold Eu;simp[h2,h3]),a⟩
  go_wp2;go_ret;exact⟨bK (by unfold Eu;simp[h1,h2,h3]),a⟩
 have e1:(c.f==f)=false:=by simpa using h2
 go_wp2;go_ret;exact⟨bK (by unfold Eu;simp[h1,h2]),a⟩
theorem Oj (l:List Cc) (a:Option Addr) (c:Nat) (w:World) (hrd:eB w a (l.flatMap jG)) (hl:l.length≤9223372036854775807) (g g2:Nat) (ff ii:Int) (hg:aJ w g #[.int .i64 ff] 3) (hg2:aJ w g2 #[.int .i64 ii] 3) :
  Calls Tryz.prog 99 #[.slice a l.length c,.func (.func 193) #[] #[.pointer (some ⟨g,0,none⟩),.pointer (some ⟨g2,0,none⟩)]] w fun e w'=>e = .returned (.int .i64 (idx (Eu ff ii) l))∧Below w.heap.size w w':=by
 go_enter func99,ntmps99;go_wp2
 go_loopw [8] (fun i wr => ∃k:Nat,k≤l.length∧i = .int .i64 k∧Below w.heap.size w wr∧∀i (h:i<l.length),i<k→(Eu ff ii) l[i]=false) (fun i _=>l.length-(intOf i).toNat)
 case atStart=>exact⟨0,bB _,rfl,Below.refl _ _,fun i _ h=>absurd h (gL _)⟩
 case round=>
  obtain⟨k,hk,rfl,f,n⟩:=hrel;have hp:=ae n;clear n
  by_cases hlt:k<l.length
  ·obtain⟨b,off,rfl,p⟩:=MQ (hrd.below f) k hlt
   go_wp2_with (refine aC _ _ rfl b (off+k*3) rfl rfl _ p _ underlying124 rfl cached_size ?_)
   refine (SX l[k] g g2 ff ii _ (hg.ext f) (hg2.ext f)).mono ?_;rintro e w2 ⟨rfl,o⟩;have j:=ah f o;clear o;cases hpk:(Eu ff ii) l[k]
   ·have m:=ae hpk;clear hpk;go_wp2;go_roundw
    case rel=>exact⟨k+1,by omega,by go_num,j,nH hp.out hlt m.out⟩
    case measure=>simp[intOf];omega
   have d:=ae (pz (Eu ff ii) l k hlt hp.out hpk);clear hpk;go_wp2;go_ret;exact⟨bi d.out.symm,j⟩
  have d:=ae (ky (Eu ff ii) l fun i h=>hp.out i h (by omega));go_wp2;go_ret;exact⟨bi d.out.symm,f⟩
theorem Ua {l:List Cc} {f i:Int}:(idx (Eu f i) l<0∧sJ l f i=l.length∧FX l f i=false)∨(∃k,∃hk:k<l.length,idx (Eu f i) l=k∧sJ l f i=k∧FX l f i=(decide (l[k].f=f)&&decide (l[k].i=i))):=by
 unfold idx FX sJ;cases h:l.findIdx? (Eu f i) with
 | none=>exact .inl ⟨by decide,rfl,by simp⟩
 | some k=>
  obtain⟨hk,_,_⟩:=sF.1 h;exact .inr ⟨k,hk,rfl,rfl,by simp[aN hk]⟩
theorem Be (H:MH) (e f i:Int) (B b:Nat) (w:World) (h:jf w B b H e) :
  Calls Tryz.prog 169 #[.pointer (some ⟨b,0,none⟩),.int .i64 f,.int .i64 i] w fun r w'=>r = .returned (.tuple #[.int .i64 (sJ H.ca f i:Int),.bool (FX H.ca f i)])∧Below w.heap.size w w':=by
 go_enter func169,ntmps169;go_upto_region 1 with (fail);refine vg (fun W=>Code.wp _ _ _ _ W) fun W0 p n m u => ?_;clear u;have k0:=h.below p;have hc:=k0.blk.cell;unfold nC at hc;have hm:=k0.ma.rd.ca;have v:=hm.mx;have ha:=hm.le;unfold maxLen at v;clear h
 go_wp2_with fail
 refine (Oj H.ca H.ac H.cc _ hm.rd (by omega) _ _ f i n m).mono ?_;rintro r w1 ⟨rfl,d⟩;have a:=ah p d;have k1:=k0.below d;have y:=(n.ext d).cell 0;have x:=(m.ext d).cell 0;have s:=k1.blk.cell;unfold nC at s;have j:=hm.rd.below d;clear hc n m p d k0 hm;rcases Ua (l:=H.ca) (f:=f) (i:=i) with ⟨h1,h2,h3⟩|⟨k,hk,h1,h2,h3⟩
 ·have hq:=ae (And.intro h2 h3);clear h2 h3;generalize idx (Eu f i) H.ca=z at *
  go_wp2;go_ret2;rw[hq.out.1,hq.out.2];exact⟨rfl,a⟩
 have hq:=ae (And.intro h2 h3);rw[h1];clear h1 h2 h3;obtain⟨g,off,c,t,o,c0,c1,c2⟩:=QA j k hk;rw[t] at s;have q:H.ca[k]=c:=by rw[aN hk] at o;exact aS o
 rw[q] at hq;have hb:(k:Int)<(H.ca.length:Int):=by omega
 clear o j t q
 go_wp2_with fail
 by_cases e1:c.f=f
 ·have b1:(c.f==f)=true:=by simpa using e1
  by_cases e2:c.i=i
  ·have b2:(c.i==i)=true:=by simpa using e2
   go_quiet (fail);go_wp2;go_ret2;rw[hq.out.1,hq.out.2];refine⟨by simp[e1,e2],below_drewN a _⟩
  have b2:(c.i==i)=false:=by simpa using e2
  go_quiet (fail);go_wp2;go_ret2;rw[hq.out.1,hq.out.2];refine⟨by simp[e1,e2],below_drewN a _⟩
 have b1:(c.f==f)=false:=by simpa using e1
 go_quiet (fail);go_wp2;go_ret2;rw[hq.out.1,hq.out.2];refine⟨by simp[e1],below_drewN a _⟩
def uC (u:Nat × Int):Array Value:=#[.int .i64 u.1,.int .i64 u.2]
def uL (u:Nat × Int):List Value:=(uC u).toList
theorem VN (u:Nat × Int):(uL u).length=2:=rfl
theorem us_info:(Tryz.prog.info? 226).map (fun i=>(i.zero,i.size,i.bytes))=some (some (.agg #[.int .i64 0,.int .i64 0]),2,16):=by kernel_rfl
theorem us_size:(Tryz.prog.info? 226).map (·.size)=some 2:=by kernel_rfl
theorem Vn (u:Nat × Int):∀x∈uL u,x.oneCell' = true:=by
 intro x hx;simp only[uL,uC,fE,nZ,or_false] at hx;rcases hx with rfl|rfl<;>rfl
def qV (m:Ma) (f:Int) (P:Nat):List (Nat × Int):=(List.range P).flatMap fun p=>(nA (bX m p).tb 1 f).map fun n=>(p,n)
theorem Fp (m:Ma) (f:Int) (P:Nat):qV m f (P+1)=qV m f P++(nA (bX m P).tb 1 f).map fun n=>(P,n):=by
 unfold qV;rw[qB,gK];simp
theorem MZ (t:Tb) (kd i:Int):(nA t kd i).length≤64:=by
 unfold nA aM;exact aV (wy _ _) (qp t 64)
theorem Bg (m:Ma) (f:Int):∀P,(qV m f P).length≤P*64
 | 0=>by simp[qV]
 | P+1=>by have h1:=Bg m f P;have h2:=MZ (bX m P).tb 1 f;rw[Fp,iK,fP];omega
theorem KM (H:MH) (e f:Int) (B b:Nat) (w:World) (h:jf w B b H e) (hz:H.sp.length≤1000) :
  Calls Tryz.prog 198 #[.pointer (some ⟨b,0,none⟩),.int .i64 f] w fun r w' => ∃v,r = .returned v∧Own w' w.heap.size 226 2 v (aX H.ma f).length ((aX H.ma f).flatMap uL)∧Below w.heap.size w w':=by
 go_enter func198,ntmps198;have hc:=h.blk.cell;unfold nC at hc;go_upto_region 3 with (fail);clear hc
 go_loopw [5,15] (fun s5 s15 wr => ∃P:Nat,P≤H.sp.length∧s15 = .int .i64 P∧Own wr w.heap.size 226 2 s5 (qV H.ma f P).length ((qV H.ma f P).flatMap uL)∧Below w.heap.size w wr) (fun _ s15 _=>H.sp.length-(intOf s15).toNat)
 case atStart=>exact⟨0,bB _,rfl,Own.nil _ _ _ _,Below.refl _ _⟩
 case round=>
  obtain⟨P,hP,rfl,a,c⟩:=hrel
  by_cases hlt:P<H.sp.length
  ·obtain⟨S,hS⟩:∃S,H.sp[P]?=some S:=⟨_,aN hlt⟩;have hb:=ae (wh hS);have kr:=h.below c;obtain⟨g,off,hp,hi,hd,m⟩:=kr.at hS;have hc:=kr.blk.cell;unfold nC at hc;rw[hp] at hc;have hq:(P:Int)<(H.sp.length:Int):=by omega
   go_wp2_with (refine aC _ _ rfl g (off+P*10+2) rfl rfl _ hd _ underlying112 tab_agg tab_size ?_)
   refine (NQ S.tb (tX S.ts) 1 f _ m.tb).mono ?_;rintro r w1 ⟨v1,rfl,x,ha⟩;obtain⟨a1,c1,rfl,_⟩:=x.rd;have q:=x.mono (bB _);have s:=ah c ha;have d:=a.below ha;have hs:(nA S.tb 1 f).length≤64:=MZ _ _ _;have hm:Hid (nA (bX H.ma P).tb 1 f=nA S.tb 1 f):=ae (by rw[hb.out];rfl);have hr:=Bg H.ma f P;generalize nA S.tb 1 f=L at *
   clear hc hi hd m kr a ha x;go_upto_region 6 with (fail)
   go_loopw [5,30] (fun s5 s30 wr => ∃j:Nat,j≤L.length∧s30 = .int .i64 j∧Own wr w.heap.size 226 2 s5 (qV H.ma f P++(L.take j).map fun n=>(P,n)).length ((qV H.ma f P++(L.take j).map fun n=>(P,n)).flatMap uL)∧Below w.heap.size w wr∧Own wr 0 3 1 (.slice a1 L.length c1) L.length (L.map iI)) (fun _ s30 _=>L.length-(intOf s30).toNat)
   case atStart=>exact⟨0,bB _,rfl,by simpa using d,s,q⟩
   case round=>
    clear d s q;obtain⟨j,hj,rfl,a,c,p⟩:=hrel
    by_cases hjl:j<L.length
    ·obtain⟨_,_,e9,_,_,_,hf⟩:=p.rd;cases e9;obtain⟨bl,ol,rfl,hn⟩:=lm hf j hjl;have hl:(j:Int)<(L.length:Int):=by omega
     have hh:(qV H.ma f P++(L.take j).map fun n=>(P,n)).length=(qV H.ma f P).length+j:=by rw[iK,fP,fq];omega
     have t:Hid (qV H.ma f P++(L.take (j+1)).map (fun n=>(P,n))=(qV H.ma f P++(L.take j).map fun n=>(P,n))++[(P,L[j])]):=ae (by rw[nT,aN hjl,gX,mQ];rfl);generalize qV H.ma f P++(L.take j).map (fun n=>(P,n))=us at *
     go_wp2_with (at_builtin;(refine eH rfl _ _ 268 rfl w.heap.size 226 (.agg #[.int .i64 0,.int .i64 0]) 2 16 underlying268 us_info rfl (by decide) _ _ _ rfl (a.alloc _) (some ⟨_,0,none⟩) 1 1 (uL (P,L[j])) rfl (fun h=>(by cases h)) (az _) rfl (eB.new _ (uC (P,L[j])) _) (Vn _) (by unfold maxLen;omega) (by omega) (eF c.size _) ?_))
     intro v2 w2 u l;have z:=(c.alloc c.size (.cells (uC (P,L[j])) 226)).grown l (eF c.size _) (fun k hk=>a.ge k hk);have hg:=yA (p.alloc (.cells (uC (P,L[j])) 226)) (a.alloc (.cells (uC (P,L[j])) 226)) (by decide) l;have y:(us++[(P,L[j])]).length=us.length+1:=by simp
     clear hn hf a c p l;go_wp2;go_roundw
     case rel=>exact⟨j+1,by omega,by go_num,by rw[t.out,y,gK,hh];simpa using u,z,hg⟩
     case measure=>simp[intOf];omega
    have hl:¬(j:Int)<(L.length:Int):=by omega
    have o:Hid (qV H.ma f P++(L.take j).map (fun n=>(P,n))=qV H.ma f (P+1)):=ae (by rw[ou (by omega),Fp,hm.out]);clear p;go_wp2;go_roundw
    case rel=>
     have i:=a;rw[o.out] at i;exact⟨u5,.int .i64 (P:Int),u8,.int .i64 ((P:Int)+1),⟨P+1,by omega,by go_num,i⟩,rfl,rfl,rfl,rfl⟩
    case measure=>simp[intOf];omega
  have o:Hid (qV H.ma f P=aX H.ma f):=ae (by
   have:P=H.sp.length:=by omega
   unfold qV aX MH.ma;simp[this])
  have hq:¬(P:Int)<(H.sp.length:Int):=by omega
  go_wp2;go_ret;rw[←o.out];exact⟨_,rfl,a,c⟩
def aL (m:Ma) (p:Nat) (n:Int):En:=dB (bX m p).tb n
structure Pt (m:Ma):Prop where
 fr:bC m.m=0
 sl:dD m.sl=0
 sw:cB m.sw=0
 dk:cB m.dk=0
 st:aO m.st=0
 swl:m.sw.blocks.length=m.sl.length
 dkl:(m.dk.blocks.length:Int)=m.st.count
 spl:m.sp.length≤4
 ar:∀s∈m.sp,(dH s.ar).1=0
 tb:∀s∈m.sp,dO s.tb=0
theorem xP (h:p<m.sp.length):m.sp[p]?=some (bX m p):=by
 unfold bX;rw[bM,aN h];rfl
theorem Cg (h:p<m.sp.length):bX m p∈m.sp:=dm (xP h)
theorem qd (h:m.sp.length≤p):bX m p=zSp:=by
 unfold bX;rw[bM,fo h];rfl
theorem Ns {s:Sp} (h:s∈m.sp):∃p,p<m.sp.length∧s=bX m p:=by
 obtain⟨i,hi,rfl⟩:=jC.1 h;refine⟨i,hi,?_⟩;have:=xP (m:=m) hi;rw[aN hi] at this;exact aS this
theorem Pt.tbN (h:Pt m) (p:Nat):dO (bX m p).tb=0:=by
 rcases fM p m.sp.length with hp|hp
 ·exact h.tb _ (Cg hp)
 ·rw[qd hp];decide
theorem Pt.arN (h:Pt m) (p:Nat):(dH (bX m p).ar).1=0:=by
 rcases fM p m.sp.length with hp|hp
 ·exact h.ar _ (Cg hp)
 ·rw[qd hp];decide
theorem mo (h:Pt m) (p:Nat) (n:Int):gV (aL m p n)=0:=vT (h.tbN p) n
theorem Nt (p:Nat) (h:n<0∨64≤n):aL m p n=zEn:=qx h
theorem dS (e:En):gV e=0↔(e.k=0∧e.n=0∧e.w=false)∨(e.k=1∧0≤e.n∧e.n<40)∨(e.k=2∧0≤e.n∧e.n<60∧e.w=false):=by
 obtain⟨k,n,w⟩:=e;unfold gV;simp only;cases w
 all_goals
  simp only[pq,reduceCtorEq,and_true,and_false,or_false,false_or,or_true];constructor
  ·intro h;split at h
   ·omega
   split at h
   ·omega
   ·split at h<;>omega
  intro h;split
  ·omega
  split
  ·omega
  split
  ·omega
  ·rfl
theorem zS {t:Tb} (hp:p<m.sp.length) (q:Nat):bX (setTb m p t) q=if q=p then { bX m p with tb:=t } else bX m q:=by
 unfold setTb;show (m.sp.set p _).getD q zSp=_;rw[bM,qL]
 by_cases e:q=p
 ·subst e;rw[if_pos rfl,if_pos hp,if_pos rfl];rfl
 ·rw[if_neg (fun h=>e h.symm),if_neg e];unfold bX;rw[bM]
theorem OT {t:Tb} (hp:p<m.sp.length) (q:Nat) (n:Int):aL (setTb m p t) q n=if q=p then dB t n else aL m q n:=by
 unfold aL;rw[zS hp]
 by_cases e:q=p
 ·rw[if_pos e,if_pos e]
 ·rw[if_neg e,if_neg e]
theorem tL {t:Tb}:(setTb m p t).sp.length=m.sp.length:=dM
theorem Pt.setTb {m:Ma} (h:Pt m) {p:Nat} {t:Tb} (ht:dO t=0):Pt (setTb m p t):=by
 by_cases hp:p<m.sp.length
 ·refine { h with spl:=by rw[tL];exact h.spl,ar:=fun s hs => ?_,tb:=fun s hs => ?_ }
  ·rcases lZ hs with hs|rfl
   ·exact h.ar s hs
   ·exact h.arN p
  rcases lZ hs with hs|rfl
  ·exact h.tb s hs
  ·exact ht
 have:Go.Proofs.YtpaeabelhnnbiaaGreat.setTb m p t=m:=by unfold Go.Proofs.YtpaeabelhnnbiaaGreat.setTb;rw[List.set_eq_of_length_le (by omega)]
 rw[this];exact h
def uV (kd i:Int) (e:En):Bool:=decide (e.k=kd)&&decide (e.n=i)
def bU (m:Ma) (kd i:Int):Nat:=(m.sp.map fun s=>(fU s.tb).countP (uV kd i)).sum
def ut (b:Bool):Nat:=if b=true then 1 else 0
theorem countP_set {α:Type} (q:α→Bool):∀(l:List α) (k:Nat) (h:k<l.length) (x:α),(l.set k x).countP q+ut (q l[k])=l.countP q+ut (q x)
 | a::l,0,_,x=>by simp only[sj,Bv,pU,ut];omega
 | a::l,k+1,h,x=>by have:=countP_set q l k (by simpa using h) x;simp only[rW,Bi,pU];omega
theorem sum_set:∀(l:List Nat) (k:Nat) (h:k<l.length) (x:Nat),(l.set k x).sum+l[k]=l.sum+x
 | a::l,0,_,x=>by simp only[sj,Bv,yh];omega
 | a::l,k+1,h,x=>by have:=sum_set l k (by simpa using h) x;simp only[rW,Bi,yh];omega
theorem DF {t:Tb} {e:En} (h:setE t n e=0):fU (setT t n e)=(fU t).set n.toNat e:=by
 obtain⟨h1,h2,h3⟩:=uS h;rw[Cx h,Lj (Hl h1 h3) (by rw[dM,mh])]
theorem La {t:Tb} {e:En} (h:setE t n e=0) (q:En→Bool):(fU (setT t n e)).countP q+ut (q (dB t n))=(fU t).countP q+ut (q e):=by
 obtain⟨h1,h2,h3⟩:=uS h;have hl:n.toNat<(fU t).length:=by rw[mh];omega
 have h4:=countP_set q (fU t) n.toNat hl e;have h5:=yc t n.toNat (by omega);rw[aN hl,BI h2.1] at h5;rw[aS h5] at h4;rw[DF h];exact h4
theorem sS (hp:p<m.sp.length) {x:En} (h:setE (bX m p).tb n x=0) (kd i:Int) :
  bU (setTb m p (setT (bX m p).tb n x)) kd i+ut (uV kd i (aL m p n))=bU m kd i+ut (uV kd i x):=by
 have h1:=La h (uV kd i);have h2:=sum_set (m.sp.map fun s=>(fU s.tb).countP (uV kd i)) p (by simpa using hp) ((fU (setT (bX m p).tb n x)).countP (uV kd i));unfold bU setTb;rw[yE];have h3:(m.sp.map fun s=>(fU s.tb).countP (uV kd i))[p]'(by simpa using hp)=(fU (bX m p).tb).countP (uV kd i):=by rw[rG];have:=xP hp;rw[aN hp] at this;rw[aS this]
 rw[h3] at h2;have h4:ut (uV kd i (aL m p n))=ut (uV kd i (dB (bX m p).tb n)):=rfl;simp only;omega
theorem Tv {l:List Nat}:0<l.sum↔∃k,∃h:k<l.length,0<l[k]:=by
 induction l with
 | nil=>simp
 | cons a l ih=>
  rw[yh];constructor
  ·intro h
   by_cases ha:0<a
   ·exact⟨0,by simp,by simpa using ha⟩
   obtain⟨k,hk,hx⟩:=ih.1 (by omega);exact⟨k+1,by simpa using hk,by simpa using hx⟩
  rintro⟨k,hk,hx⟩;cases k with
  | zero=>simp at hx;omega
  | succ k=>
   have:=ih.2 ⟨k,by simpa using hk,by simpa using hx⟩;omega
theorem kC {i:Int} (hk:kd≠0):0<bU m kd i↔∃p n,p<m.sp.length∧(0≤n∧n<64)∧(aL m p n).k=kd∧(aL m p n).n=i:=by
 unfold bU;rw[Tv];constructor
 ·rintro⟨p,hp,h⟩;have a : p<m.sp.length:=by simpa using hp
  rw[rG] at h;obtain⟨e,he,hq⟩:=wz.1 h;obtain⟨j,hj,rfl⟩:=jC.1 he;have b : j<64:=by rw[mh] at hj;exact hj
  have hs:m.sp[p]=bX m p:=by have:=xP a;rw[aN a] at this;exact aS this
  have h5:=yc m.sp[p].tb j b;rw[aN hj] at h5;rw[aS h5,hs] at hq;unfold uV at hq;simp only[dh,decide_eq_true_eq] at hq;exact⟨p,j,a,by omega,hq.1,hq.2⟩
 rintro⟨p,n,hp,hn,h1,h2⟩;refine⟨p,by simpa using hp,?_⟩;rw[rG,wz];have hs:m.sp[p]=bX m p:=by have:=xP hp;rw[aN hp] at this;exact aS this
 refine⟨aL m p n,?_,by unfold uV;rw[h1,h2];simp⟩;rw[hs];have h5:=yc (bX m p).tb n.toNat (by omega);rw[BI hn.1] at h5;exact dm h5
theorem rZ (h:f<m.m.fs.length):m.m.fs[f]?=some (aD m f):=by
 unfold aD;rw[bM,aN h];rfl
theorem MS (h:f<m.m.fs.length):aD m f∈m.m.fs:=dm (rZ h)
theorem Gs (h:m.m.fs.length≤f):aD m f=fr0:=by
 unfold aD;rw[bM,fo h];rfl
theorem fJ {x:Fr} (h:f<m.m.fs.length) (g:Nat):aD (setFr m f x) g=if g=f then x else aD m g:=by
 unfold aD setFr;simp only;rw[bM,qL]
 by_cases e:g=f
 ·subst e;rw[if_pos rfl,if_pos h,if_pos rfl];rfl
 ·rw[if_neg (fun e'=>e e'.symm),if_neg e,bM]
theorem dG {x:Fr}:(setFr m f x).m.fs.length=m.m.fs.length:=dM
theorem Pt.frE (h:Pt m) (hf:f<m.m.fs.length):bO (aD m f)=0:=((dZ _).1 h.fr).2.1 _ (MS hf)
theorem Pt.setFr {m:Ma} (h:Pt m) {f:Nat} {x:Fr} (hx:bO x=0):Pt (setFr m f x):={ h with fr:=Hz h.fr hx }
theorem Ic {x:Fr} (h:bO x=0) (hr:x.r≠0) (h1 : -x.r≤n) (h2:n≤1000-x.r):bO (gD x n)=0:=by
 unfold gD
 by_cases h0:x.r+n=0
 ·rw[if_pos h0];decide
 rw[if_neg h0,dC];have:=(dC x).1 h;refine⟨by simp only;omega,fun h3=>absurd h3 h0,this.2.2⟩
theorem Qj {m:Mem} {k:Int} (h:bC m=0) (hk:0≤k∧k<m.fs.length) (hr:(m.fs.getD k.toNat fr0).r≠0) (h1 : -(m.fs.getD k.toNat fr0).r≤n) (h2:n≤1000-(m.fs.getD k.toNat fr0).r):mI m k n=0:=by
 unfold mI;rw[if_neg (by rw[h];simp),if_neg (by omega),if_neg (by omega)]
theorem xZ {k:Kp} (h:Pt k.m) (hf:f<k.m.m.fs.length) (hr:(aD k.m f).r≠0) (h1 : -(aD k.m f).r≤n) (h2:n≤1000-(aD k.m f).r) :
  fV k f n=⟨setFr k.m f (gD (aD k.m f) n),k.e⟩∧Pt (setFr k.m f (gD (aD k.m f) n)):=by
 have h0:mI k.m.m (f:Int) n=0:=Qj h.fr (by omega) hr h1 h2;refine⟨?_,h.setFr (Ic (h.frE hf) hr h1 h2)⟩;unfold fV;rw[if_pos h0];congr 1;unfold lw;rw[if_pos h0];rfl
def lC (m:Ma) (s:Nat):Int:=m.sl.getD s 0
def setSl (m:Ma) (s:Nat) (n:Int):Ma:={ m with sl:=m.sl.set s n }
theorem LK (h:f<m.sl.length):m.sl[f]?=some (lC m f):=by
 unfold lC;rw[bM,aN h];rfl
theorem Nc {x:Int} (h:f<m.sl.length) (g:Nat):lC (setSl m f x) g=if g=f then x else lC m g:=by
 unfold lC setSl;simp only;rw[bM,qL]
 by_cases e:g=f
 ·subst e;rw[if_pos rfl,if_pos h,if_pos rfl];rfl
 ·rw[if_neg (fun e'=>e e'.symm),if_neg e,bM]
theorem Pt.setSl {m:Ma} (h:Pt m) {s:Nat} {n:Int} (h0:0≤n) (h1:n≤1000):Pt (setSl m s n):=
 { h with sl:=Eb s n h.sl h0 h1,swl:=h.swl.trans dM.symm }
theorem PH {k:Kp} {s:Nat} (h:Pt k.m) (hs:s<k.m.sl.length) (hr:lC k.m s≠0) (h1 : -(lC k.m s)≤n) (h2:n≤1000-lC k.m s) :
  lY k s n=⟨setSl k.m s (lC k.m s+n),k.e⟩∧Pt (setSl k.m s (lC k.m s+n)):=by
 have e1:El k.m.sl (s:Int)=lC k.m s:=rfl;have h0:bS k.m.sl (s:Int) n=0:=by unfold bS;rw[if_neg (by rw[h.sl];simp),if_neg (by rw[e1];omega),if_neg (by rw[e1];omega)]
 refine⟨?_,h.setSl (by omega) (by omega)⟩;unfold lY;rw[if_pos h0];congr 1;unfold bL;rw[if_pos h0];rfl
theorem iX {k:Kp} {x:En} (h:Pt k.m) (hn:0≤n∧n<64) (hx:gV x=0) :
  setE (bX k.m p).tb n x=0∧dK k p n x=⟨setTb k.m p (setT (bX k.m p).tb n x),k.e⟩∧Pt (setTb k.m p (setT (bX k.m p).tb n x)):=by
 have h0:=Bz (h.tbN p) hn hx;refine⟨h0,?_,h.setTb (qR h0)⟩;unfold dK;rw[if_pos h0]
theorem pX {x:En} (hp:p<m.sp.length) (h:setE (bX m p).tb n x=0) (q:Nat) (j:Int):aL (setTb m p (setT (bX m p).tb n x)) q j=if q=p∧j=n then x else aL m q j:=by
 rw[OT hp]
 by_cases e:q=p
 ·subst e;rw[if_pos rfl,yx h]
  by_cases e2:j=n
  ·rw[if_pos e2,if_pos ⟨rfl,e2⟩]
  ·rw[if_neg e2,if_neg (fun h'=>e2 h'.2)];rfl
 ·rw[if_neg e,if_neg (fun h'=>e h'.1)]
structure gZ (m m' : Ma):Prop where
 len:m'.sp.length=m.sp.length
 lv:∀p,(bX m' p).lv=(bX m p).lv
 ar:∀p,(bX m' p).ar=(bX m p).ar
theorem gZ.refl (m:Ma):gZ m m:=⟨rfl,fun _=>rfl,fun _=>rfl⟩
theorem gZ.trans {a b c:Ma} (h:gZ a b) (k:gZ b c):gZ a c:=⟨k.len.trans h.len,fun p=>(k.lv p).trans (h.lv p),fun p=>(k.ar p).trans (h.ar p)⟩
theorem gZ.of (h:m'.sp=m.sp):gZ m m':=⟨by rw[h],fun p=>by unfold bX;rw[h],fun p=>by unfold bX;rw[h]⟩
theorem gZ.setTb {m:Ma} {p:Nat} {t:Tb}:gZ m (setTb m p t):=by
 by_cases hp:p<m.sp.length
 ·refine⟨tL,fun q => ?_,fun q => ?_⟩
  all_goals
   rw[zS hp]
   by_cases e:q=p
   ·rw[if_pos e,e]
   ·rw[if_neg e]
 have:Go.Proofs.YtpaeabelhnnbiaaGreat.setTb m p t=m:=by unfold Go.Proofs.YtpaeabelhnnbiaaGreat.setTb;rw[List.set_eq_of_length_le (by omega)]
 rw[this];exact .refl _
structure Rest (m m' : Ma):Prop where
 sl:m'.sl=m.sl
 sw:m'.sw=m.sw
 dk:m'.dk=m.dk
 st:m'.st=m.st
 ca:m'.ca=m.ca
theorem Rest.refl (m:Ma):Rest m m:=⟨rfl,rfl,rfl,rfl,rfl⟩
theorem Rest.trans {a b c:Ma} (h:Rest a b) (k:Rest b c):Rest a c:=⟨k.sl.trans h.sl,k.sw.trans h.sw,k.dk.trans h.dk,k.st.trans h.st,k.ca.trans h.ca⟩
structure UZ (m:Ma) (f:Nat) (l:List (Nat × Int)):Prop where
 nd:l.Nodup
 mem:∀u∈l,u.1<m.sp.length∧(0≤u.2∧u.2<64)∧(aL m u.1 u.2).k=1∧(aL m u.1 u.2).n=f
theorem ES {x:Fr} (h:bO x=0):gD x 0=x:=by
 unfold gD
 by_cases h0:x.r=0
 ·rw[if_pos (by omega)];exact (MM h h0).symm
 rw[if_neg (by omega)];obtain⟨p,r,u,d,f,i⟩:=x;simp
theorem NY {x:Fr} (h:bO x=0) (j:Nat) (hr:(j:Int)+1≤x.r):gD (gD x (-1)) (-(j:Int))=gD x (-((j:Int)+1)):=by
 by_cases h0:x.r=1
 ·have:j=0:=by omega
  subst this;have h1:gD x (-1)=frZ:=by unfold gD;rw[if_pos (by omega)]
  rw[show -((0:Nat):Int)=0 from rfl,show -(((0:Nat):Int)+1) = -1 from rfl,h1];exact ES (by decide)
 have h1:gD x (-1) = { x with r:=x.r + -1 }:=by unfold gD;rw[if_neg (by omega)]
 rw[h1];unfold gD;simp only
 by_cases h2:x.r=(j:Int)+1
 ·rw[if_pos (by omega),if_pos (by omega)]
 rw[if_neg (by omega),if_neg (by omega)];congr 1;omega
def Ub (f:Nat) (e' : En) (k:Kp) (u:Nat × Int):Kp:=dK (fV k f (-1)) u.1 u.2 e'
theorem De (hf:f<m.m.fs.length):setFr m f (aD m f)=m:=by
 have h2:m.m.fs.set f (aD m f)=m.m.fs:=by have:=rZ hf;rw[aN hf] at this;rw[←aS this,List.set_getElem_self]
 unfold setFr;rw[h2]
theorem Ce {f:Nat} {e' : En} (he:gV e' = 0) (step:Kp→(Nat × Int)→Kp) (hstep:∀k u,(aL k.m u.1 u.2).k=1→(aL k.m u.1 u.2).n=f→step k u=Ub f e' k u):∀(l:List (Nat × Int)) (k:Kp),Pt k.m→UZ k.m f l→f<k.m.m.fs.length→(l.length:Int)≤(aD k.m f).r →
  (l.foldl step k).e=k.e∧Pt (l.foldl step k).m∧Rest k.m (l.foldl step k).m∧gZ k.m (l.foldl step k).m∧(l.foldl step k).m.m=(setFr k.m f (gD (aD k.m f) (-(l.length:Int)))).m ∧
   (∀p n,aL (l.foldl step k).m p n=if (p,n)∈l then e' else aL k.m p n)∧∀kd i,bU (l.foldl step k).m kd i+(if kd=1∧i=f then l.length else 0)=bU k.m kd i+(if kd=e'.k∧i=e'.n then l.length else 0)
 | [],k,h,hu,hf,hr=>by refine⟨rfl,h,.refl _,.refl _,?_,fun p n=>by simp,fun kd i=>by simp⟩;show k.m.m=_;rw[show -(([]:List (Nat × Int)).length:Int)=0 from rfl,ES (h.frE hf),De hf]
 | u::l,k,h,hu,hf,hr=>by
  obtain⟨hp,hn,hk1,hkn⟩:=hu.mem u kv;simp only[nz] at hr;have hfr:=h.frE hf;have hb:=((dC _).1 hfr).1;obtain⟨e1,p1⟩:=xZ (k:=k) (f:=f) (n:=-1) h hf (by omega) (by omega) (by omega);have hheld:=NY hfr l.length (by omega);generalize hX:gD (aD k.m f) (-1)=X at e1 p1 hheld;obtain⟨s0,e2,p2⟩:=iX (k:=⟨setFr k.m f X,k.e⟩) (p:=u.1) (n:=u.2) (x:=e') p1 hn he;have hd:step k u=⟨setTb (setFr k.m f X) u.1 (setT (bX k.m u.1).tb u.2 e'),k.e⟩:=by rw[hstep k u hk1 hkn];unfold Ub;rw[e1,e2];rfl
  have hent:=fun q j=>pX (m:=setFr k.m f X) (p:=u.1) (n:=u.2) (x:=e') hp s0 q j;have hhold:=fun kd i=>sS (m:=setFr k.m f X) (p:=u.1) (n:=u.2) (x:=e') hp s0 kd i;have hnd:=rf.1 hu.nd;have hm1:(step k u).m.m=(setFr k.m f X).m:=by rw[hd];rfl
  have hfN:aD (step k u).m f=X:=by
   have:aD (step k u).m f=aD (setFr k.m f X) f:=by unfold aD;rw[hm1]
   rw[this,fJ hf,if_pos rfl]
  have hentd:∀q j,aL (step k u).m q j=if q=u.1∧j=u.2 then e' else aL k.m q j:=fun q j=>by rw[hd];exact hent q j
  have hlen:(step k u).m.sp.length=k.m.sp.length:=by rw[hd];exact tL
  have hXr:X.r=(aD k.m f).r-1:=by
   rw[←hX];unfold gD
   by_cases h0:(aD k.m f).r + -1=0
   ·rw[if_pos h0];show (0:Int)=_;omega
   ·rw[if_neg h0];rfl
  have ih:=Ce he step hstep l (step k u) (by rw[hd];exact p2) ⟨hnd.2,fun v hv=>by obtain⟨a1,a2,a3,a4⟩:=hu.mem v (jM _ hv);have hne:¬(v.1=u.1∧v.2=u.2):=fun e=>hnd.1 (by rw[←show v=u from Br e.1 e.2];exact hv);rw[hlen,hentd,if_neg hne];exact⟨a1,a2,a3,a4⟩⟩ (by rw[hm1,dG];exact hf) (by rw[hfN,hXr];omega);obtain⟨i1,i2,i3,i4,i5,i6,i7⟩:=ih;rw[Hf];refine⟨by rw[i1,hd],i2,Rest.trans (by rw[hd];exact⟨rfl,rfl,rfl,rfl,rfl⟩) i3,gZ.trans (by rw[hd];exact gZ.trans (b:=setFr k.m f X) (gZ.of rfl) gZ.setTb) i4,?_,fun q j => ?_,fun kd i => ?_⟩
  ·rw[i5,hfN,hheld];unfold setFr;simp only;rw[hm1];unfold setFr;simp only[GL,nz];rfl
  ·rw[i6,hentd]
   by_cases e1:(q,j)∈l
   ·rw[if_pos e1,if_pos (jM _ e1)]
   rw[if_neg e1]
   by_cases e2:q=u.1∧j=u.2
   ·rw[if_pos e2,if_pos (by rw[show (q,j)=u from Br e2.1 e2.2];exact kv)]
   rw[if_neg e2,if_neg];intro e3;rcases fE.1 e3 with e3|e3
   ·exact e2 ⟨congrArg Prod.fst e3,congrArg Prod.snd e3⟩
   ·exact e1 e3
  have a1:=i7 kd i;have a2:=hhold kd i;have a3:bU (step k u).m kd i=bU (setTb (setFr k.m f X) u.1 (setT (bX (setFr k.m f X) u.1).tb u.2 e')) kd i:=by rw[hd];rfl
  have a4:bU (setFr k.m f X) kd i=bU k.m kd i:=rfl;have a5:ut (uV kd i (aL (setFr k.m f X) u.1 u.2))=if kd=1∧i=f then 1 else 0:=by
   have:aL (setFr k.m f X) u.1 u.2=aL k.m u.1 u.2:=rfl;rw[this];unfold uV ut;rw[hk1,hkn]
   by_cases e:kd=1∧i=f
   ·rw[if_pos e,e.1,e.2];simp
   rw[if_neg e,if_neg];simp only[dh,decide_eq_true_eq];exact fun h'=>e ⟨h'.1.symm,h'.2.symm⟩
  have a6:ut (uV kd i e')=if kd=e'.k∧i=e'.n then 1 else 0:=by
   unfold uV ut
   by_cases e:kd=e'.k∧i=e'.n
   ·rw[if_pos e,e.1,e.2];simp
   rw[if_neg e,if_neg];simp only[dh,decide_eq_true_eq];exact fun h'=>e ⟨h'.1.symm,h'.2.symm⟩
  rw[a3] at a1;rw[a4,a5,a6] at a2;rw[nz]
  by_cases c1:kd=1∧i=f
  ·rw[if_pos c1] at a1 a2 ⊢
   by_cases c2:kd=e'.k∧i=e'.n
   ·rw[if_pos c2] at a1 a2 ⊢; omega
   ·rw[if_neg c2] at a1 a2 ⊢; omega
  rw[if_neg c1] at a1 a2 ⊢
  by_cases c2:kd=e'.k∧i=e'.n
  ·rw[if_pos c2] at a1 a2 ⊢; omega
  ·rw[if_neg c2] at a1 a2 ⊢; omega
theorem tF {α β:Type} {f:α→β} (hf:∀a b,f a=f b→a=b) {l:List α} (h:l.Nodup):(l.map f).Nodup:=List.Pairwise.map _ (fun a b hne e=>hne (hf a b e)) h
theorem oo {t:Tb} :n∈aM t↔(0≤n∧n<64)∧(dB t n).k≠0:=by
 unfold aM jm;simp only[eD,rU,bV,oq,decide_eq_true_eq];constructor
 ·rintro⟨j,⟨h1,h2⟩,rfl⟩;exact⟨by omega,h2⟩
 rintro⟨h1,h2⟩;refine⟨n.toNat,⟨by omega,?_⟩,by omega⟩;rw[BI h1.1];exact h2
theorem IM {t:Tb} {i:Int} (hk:kd≠0):n∈nA t kd i↔(0≤n∧n<64)∧(dB t n).k=kd∧(dB t n).n=i:=by
 unfold nA oU;rw[rU,oo];simp only[BK,dh,pJ,decide_eq_false_iff_not,qO];constructor
 ·rintro⟨⟨h1,_⟩,h2⟩;exact⟨h1,h2⟩
 ·rintro⟨h1,h2⟩;exact⟨⟨h1,by rw[h2.1];exact hk⟩,h2⟩
theorem Jt (t:Tb):(aM t).Nodup:=by
 unfold aM jm;exact tF (fun a b h=>by have h' : (a:Int)=b:=h;omega) (wH.filter _)
theorem CX {t:Tb} {i:Int} (hk:kd≠0):(nA t kd i).length=(fU t).countP (uV kd i):=by
 unfold nA aM jm fU;rw[←Gg,ww,Ho,ww];congr 1;funext n;simp only[GJ,oU,uV,oq,BK];rw[nP];simp only[dh,pJ,decide_eq_false_iff_not,qO,decide_eq_true_eq];constructor
 ·rintro⟨h,_⟩;exact h
 ·intro h;exact⟨h,by rw[h.1];exact hk⟩
theorem tK {f:Int} {u:Nat × Int}:u∈aX m f↔u.1<m.sp.length∧(0≤u.2∧u.2<64)∧(aL m u.1 u.2).k=1∧(aL m u.1 u.2).n=f:=by
 unfold aX;simp only[ji,bV,eD];constructor
 ·rintro⟨p,hp,n,hn,rfl⟩;exact⟨hp,(IM (by decide)).1 hn⟩
 rintro⟨hp,h⟩;exact⟨u.1,hp,u.2,(IM (by decide)).2 h,rfl⟩
theorem DZ {α β:Type} (g:α→List β):∀(l:List α),l.Nodup→(∀x∈l,(g x).Nodup)→(∀x∈l,∀y∈l,∀z,z∈g x→z∈g y→x=y)→(l.flatMap g).Nodup
 | [],_,_,_=>by simp
 | a::l,h1,h2,h3=>by rw[oV,xg];have h4:=rf.1 h1;refine⟨h2 a kv,DZ g l h4.2 (fun x hx=>h2 x (jM _ hx)) (fun x hx y hy=>h3 x (jM _ hx) y (jM _ hy)),?_⟩;rintro z hz w hw rfl;obtain⟨y,hy,hzy⟩:=ji.1 hw;exact h4.1 (by rw[h3 a kv y (jM _ hy) z hz hzy];exact hy)
theorem Iq (m:Ma) (f:Int):(aX m f).Nodup:=by
 unfold aX;refine DZ _ _ wH (fun p hp => ?_) (fun p _ q _ z h1 h2 => ?_)
 ·unfold nA;exact tF (fun a b h=>by simpa using h) ((Jt _).filter _)
 obtain⟨_,_,rfl⟩:=eD.1 h1;obtain⟨_,_,e⟩:=eD.1 h2;exact (congrArg Prod.fst e).symm
theorem Db (m:Ma) (f:Nat):UZ m f (aX m f):=⟨Iq m f,fun u hu=>tK.1 hu⟩
theorem NG {α:Type} (l:List α) (d:α) {β:Type} (g:α→β):(List.range l.length).map (fun p=>g (l.getD p d))=l.map g:=by
 apply qH
 ·simp
 intro i h1 h2;simp only[rG,Ha];rw[bM,aN (by simpa using h2)];rfl
theorem sW (m:Ma) (f:Int):(aX m f).length=bU m 1 f:=by
 unfold aX bU;rw[Bc];simp only[fP,CX (show (1:Int)≠0 by decide)];rw[←NG m.sp zSp];rfl
end Go.Proofs.YtpaeabelhnnbiaaGreat