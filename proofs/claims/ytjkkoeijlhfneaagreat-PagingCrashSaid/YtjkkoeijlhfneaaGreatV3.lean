import Derived.Test.YtjkkoeijlhfneaaGreatV2
import Derived.BigQuiet
import Derived.Deep.DeepCutAuto
import Derived.Deep.QuietTactic
import Derived.IntWalk
import Derived.Lib.LazyBuf
import Derived.Maps.Range
import Derived.Test.YtjkkoeijlhfneaaGreatRows
import Derived.Deep.Light
import Derived.BigRegion
import Derived.RegionTactic
import Derived.Deep.LoopGhost
import Derived.Lib.Hide
import Derived.Deep.RegionLaw
import Derived.Laws.Externs
import Derived.Laws.IdiomCopy
import Derived.Lib.AppendZerosOnto
import Derived.Lib.Overlaps
import Derived.Lib.SliceRun
set_option linter.unusedSimpArgs false
set_option linter.unusedVariables false
set_option maxHeartbeats 4000000
set_option maxRecDepth 100000
namespace Go.Proofs.YtjkkoeijlhfneaaGreat
open _root_.Go.Proofs.Tryz
open Go.RowKit Pw
variable {B B' b c cb cq g i k n off q r sz:Nat} {P:Program} {T e t ty:TypeId} {a ab aq:Option Addr} {ca cs cs':Array Value} {d:TypeDesc} {o:Oper} {v v' vb vq:Value} {vs xs:List Value} {w w' w0 w4 w5:World} {x:Operand} {ρ:Operand → Value}
def yL (p:Page):List Value:=(iq p).toList
def Ep (q:Int × Page):Array Value:=#[.int .i64 q.1,.int .u8 q.2[0].toNat,.int .u8 q.2[1].toNat,.int .u8 q.2[2].toNat,.int .u8 q.2[3].toNat,.int .u8 q.2[4].toNat,.int .u8 q.2[5].toNat,.int .u8 q.2[6].toNat,.int .u8 q.2[7].toNat]
def yz (q:Int × Page):List Value:=(Ep q).toList
theorem jJ (p:Page):(yL p).length=8:=rfl
theorem uQ (q:Int × Page):(yz q).length=9:=rfl
theorem page_info:(Tryz.prog.info? 79).map (fun i=>(i.zero,i.size,i.bytes))=some (some (.agg #[.int .u8 0,.int .u8 0,.int .u8 0,.int .u8 0,.int .u8 0,.int .u8 0,.int .u8 0,.int .u8 0]),8,8):=by kernel_rfl
theorem put_info:(Tryz.prog.info? 86).map (fun i=>(i.zero,i.size,i.bytes))=some (some (.agg #[.int .i64 0,.int .u8 0,.int .u8 0,.int .u8 0,.int .u8 0,.int .u8 0,.int .u8 0,.int .u8 0,.int .u8 0]),9,16):=by kernel_rfl
theorem FH (l:List Page):(l.flatMap yL).length=l.length*8:=Pw.flat_len _ _ jJ l
theorem Sy (l:List (Int × Page)):(l.flatMap yz).length=l.length*9:=Pw.flat_len _ _ uQ l
theorem FQ (l:List Page):∀u∈l.flatMap yL,u.oneCell' = true:=by
 intro u hu;obtain⟨p,_,hp⟩:=jP.1 hu;simp only[yL,iq,bY,fI,or_false] at hp;rcases hp with rfl|rfl|rfl|rfl|rfl|rfl|rfl|rfl<;>rfl
theorem Ef (l:List (Int × Page)):∀u∈l.flatMap yz,u.oneCell' = true:=by
 intro u hu;obtain⟨p,_,hp⟩:=jP.1 hu;simp only[yz,Ep,bY,fI,or_false] at hp;rcases hp with rfl|rfl|rfl|rfl|rfl|rfl|rfl|rfl|rfl<;>rfl
theorem Bv (l:List Page) (a:Option Addr) (c:Nat) (w:World) (hle:l.length≤c) (hnil:a=none→c=0) (hrd:dN w a (l.flatMap yL)) (hb:l.length*8≤140737488355328) :
  Calls Tryz.prog 115 #[.slice a l.length c] w fun e w' => ∃v,e = .returned v∧Own w' w.heap.size 79 8 v l.length (l.flatMap yL)∧Below w.heap.size w w':=by
 cases a with
 | none=>
  have h0:=hnil rfl;have hl:l=[]:=jO (by omega);subst hl;subst h0;have hq:=fun W=>lN (P:=Tryz.prog) W 31 _ none 0 0 0 0 underlying31;go_enter func115,ntmps115;go_wp2;go_ret;exact⟨_,rfl,by simpa using Own.nil _ _ _ _,Below.refl _ _⟩
 | some ad=>
  have hq:=fun W=>lN (P:=Tryz.prog) W 31 _ (some ad) l.length c 0 0 underlying31;go_enter func115,ntmps115
  go_wp2_with (at_builtin;go_must (refine eH rfl _ _ 31 rfl w.heap.size 79 (.agg #[.int .u8 0,.int .u8 0,.int .u8 0,.int .u8 0,.int .u8 0,.int .u8 0,.int .u8 0,.int .u8 0]) 8 8 underlying31 page_info rfl (by decide) _ 0 [] rfl ?own (some ad) l.length c (l.flatMap yL) rfl (fun h=>(by cases h)) hle (FH l) ?rd (FQ l) (by unfold maxLen;omega) (by simpa using hb) ?bb ?k))
  case own=>exact⟨rfl,.inr ⟨w.heap.size,0,0,#[],rfl,ay _,aC.new _ _ _,ay _,aS _,by simp,fun j u h=>by simp at h⟩⟩
  case rd=>exact hrd.below ((Below.refl _ _).alloc (ay _) _)
  case bb=>exact fU _ _
  intro v w1 hown hgr;go_wp2;go_ret;exact⟨v,rfl,by simpa using hown,((Below.refl _ _).alloc (ay _) _).grown hgr (fU _ _) (fun k hk=>by cases hk;exact ay _)⟩
theorem LY (l:List (Int × Page)) (a:Option Addr) (c:Nat) (w:World) (hle:l.length≤c) (hnil:a=none→c=0) (hrd:dN w a (l.flatMap yz)) (hb:l.length*16≤140737488355328) :
  Calls Tryz.prog 116 #[.slice a l.length c] w fun e w' => ∃v,e = .returned v∧Own w' w.heap.size 86 9 v l.length (l.flatMap yz)∧Below w.heap.size w w':=by
 cases a with
 | none=>
  have h0:=hnil rfl;have hl:l=[]:=jO (by omega);subst hl;subst h0;have hq:=fun W=>lN (P:=Tryz.prog) W 32 _ none 0 0 0 0 underlying32;go_enter func116,ntmps116;go_wp2;go_ret;exact⟨_,rfl,by simpa using Own.nil _ _ _ _,Below.refl _ _⟩
 | some ad=>
  have hq:=fun W=>lN (P:=Tryz.prog) W 32 _ (some ad) l.length c 0 0 underlying32;go_enter func116,ntmps116
  go_wp2_with (at_builtin;go_must (refine eH rfl _ _ 32 rfl w.heap.size 86 (.agg #[.int .i64 0,.int .u8 0,.int .u8 0,.int .u8 0,.int .u8 0,.int .u8 0,.int .u8 0,.int .u8 0,.int .u8 0]) 9 16 underlying32 put_info rfl (by decide) _ 0 [] rfl ?own (some ad) l.length c (l.flatMap yz) rfl (fun h=>(by cases h)) hle (Sy l) ?rd (Ef l) (by unfold maxLen;omega) (by simpa using hb) ?bb ?k))
  case own=>exact⟨rfl,.inr ⟨w.heap.size,0,0,#[],rfl,ay _,aC.new _ _ _,ay _,aS _,by simp,fun j u h=>by simp at h⟩⟩
  case rd=>exact hrd.below ((Below.refl _ _).alloc (ay _) _)
  case bb=>exact fU _ _
  intro v w1 hown hgr;go_wp2;go_ret;exact⟨v,rfl,by simpa using hown,((Below.refl _ _).alloc (ay _) _).grown hgr (fU _ _) (fun k hk=>by cases hk;exact ay _)⟩
structure JF (w:World) (ab:Option Addr) (cb:Nat) (aq:Option Addr) (cq:Nat) (d:mZ):Prop where
 lb:d.blocks.length≤cb
 lq:d.queue.length≤cq
 mb:cb≤maxLen
 mq:cq≤maxLen
 nb:ab=none→cb=0
 nq:aq=none→cq=0
 rb:dN w ab (d.blocks.flatMap yL)
 rq:dN w aq (d.queue.flatMap yz)
theorem JF.below {d:mZ} (h:JF w ab cb aq cq d) (hb:Below w.heap.size w w'):JF w' ab cb aq cq d:=
 { h with rb:=h.rb.below hb,rq:=h.rq.below hb }
structure ic (w:World) (B:Nat) (vb vq:Value) (d:mZ):Prop where
 b:Own w B 79 8 vb d.blocks.length (d.blocks.flatMap yL)
 q:Own w B 86 9 vq d.queue.length (d.queue.flatMap yz)
theorem ic.below {d:mZ} (h:ic w B vb vq d) (hb:Below w.heap.size w w'):ic w' B vb vq d:=⟨h.b.below hb,h.q.below hb⟩
theorem ic.mono {d:mZ} (h:ic w B vb vq d) (hB:B'≤B):ic w B' vb vq d:=⟨h.b.mono hB,h.q.mono hB⟩
theorem ic.rd {d:mZ} (h:ic w B vb vq d):∃ab cb aq cq,vb = .slice ab d.blocks.length cb∧vq = .slice aq d.queue.length cq∧JF w ab cb aq cq d:=by
 obtain⟨ab,cb,rfl,h1,h2,h3,h4⟩:=h.b.rd;obtain⟨aq,cq,rfl,g1,g2,g3,g4⟩:=h.q.rd;exact⟨ab,cb,aq,cq,rfl,rfl,h1,g1,h2,g2,h3,g3,h4,g4⟩
theorem ic.nil (w:World) (B:Nat):ic w B (.slice none 0 0) (.slice none 0 0) ⟨[],[]⟩:=⟨Own.nil _ _ _ _,Own.nil _ _ _ _⟩
theorem yt {l:List (Int × Page)} (h:dN w a (l.flatMap yz)) (k:Nat) (hk:k<l.length):∃b off,a=some ⟨b,off,none⟩∧∀j,j<9→w.cell? ⟨b,off+k*9+j,none⟩=(Ep l[k])[j]?:=by
 obtain⟨b,off,ha,hc⟩:=h.elem uQ (by decide) k hk;refine⟨b,off,ha,fun j hj => ?_⟩;have e:(yz l[k])[j]?=some ((yz l[k])[j]'(by rw[uQ];exact hj)):=aG _;rw[hc j _ e,←e];simp[yz]
theorem GV {l:List Page} (h:dN w a (l.flatMap yL)) (k:Nat) (hk:k<l.length):∃b off,a=some ⟨b,off,none⟩∧∀j,j<8→w.cell? ⟨b,off+k*8+j,none⟩=(iq l[k])[j]?:=by
 obtain⟨b,off,ha,hc⟩:=h.elem jJ (by decide) k hk;refine⟨b,off,ha,fun j hj => ?_⟩;have e:(yL l[k])[j]?=some ((yL l[k])[j]'(by rw[jJ];exact hj)):=aG _;rw[hc j _ e,←e];simp[yL]
theorem uY (d:mZ) (ab:Option Addr) (cb:Nat) (aq:Option Addr) (cq:Nat) (w:World) (h:JF w ab cb aq cq d) :
  Calls Tryz.prog 93 #[.agg #[.slice ab d.blocks.length cb,.slice aq d.queue.length cq]] w fun e w'=>e = .returned (.int .i64 (bn d))∧Below w.heap.size w w':=by
 have lb:=aX h.lb h.mb;have lq:=aX h.lq h.mq;unfold maxLen at lb lq;have hrq:=h.rq;unfold bn;obtain⟨B,Q⟩:=d;simp only at *
 go_enter func93,ntmps93;have hb0:Below w.heap.size w (w.alloc (.cells #[.slice ab B.length cb,.slice aq Q.length cq] 34)):=(Below.refl _ _).alloc (ay _) _
 by_cases h4:80<B.length∨400<Q.length
 ·rw[if_pos h4];have h4' : (80:Int)<(B.length:Int)∨(400:Int)<(Q.length:Int):=by omega
  clear h4;rcases h4' with h4|h4
  all_goals
   go_wp2
   all_goals
    go_ret;exact⟨rfl,hb0⟩
 rw[if_neg h4];have h41:¬(80:Int)<(B.length:Int):=by omega
 have h42:¬(400:Int)<(Q.length:Int):=by omega
 clear h4;go_wp2
 go_loopw [18] (fun i wr => ∃k:Nat,k≤Q.length∧i = .int .i64 k∧Below w.heap.size w wr∧aC wr w.heap.size #[.slice ab B.length cb,.slice aq Q.length cq] 34∧∀i (h:i<Q.length),i<k→vP B.length Q[i]=false) (fun i _=>Q.length-(intOf i).toNat)
 case atStart=>exact⟨0,aS _,rfl,hb0,aC.new _ _ _,fun i _ h=>absurd h (dO _)⟩
 case round=>
  obtain⟨k,hk,rfl,hbel,hblk,hp⟩:=hrel
  by_cases hlt:k<Q.length
  ·obtain⟨b,off,rfl,hc⟩:=yt (hrq.below hbel) k hlt;have c0:=hc 0 (by decide);have c1:=hc 1 (by decide);have c2:=hc 2 (by decide);have c3:=hc 3 (by decide);have c4:=hc 4 (by decide);have c5:=hc 5 (by decide);have c6:=hc 6 (by decide);have c7:=hc 7 (by decide);have c8:=hc 8 (by decide);simp only[Ep,rJ,mY,rT,gM] at c0 c1 c2 c3 c4 c5 c6 c7 c8;clear hc;have hcd:=fun o=>(hblk.alloc o).cell
   by_cases hbad:Q[k].1<0∨(B.length:Int)≤Q[k].1
   ·have hbk:vP B.length Q[k]=true:=by simpa[vP] using hbad
    have ha:Q.any (vP B.length)=true:=iW.2 ⟨_,dP hlt,hbk⟩;rcases hbad with hbad|hbad
    all_goals
     go_wp2
     all_goals
      go_ret;exact⟨by simp[ha],hbel.alloc hbel.size _⟩
   have n1:¬Q[k].1<0:=by omega
   have n2:¬(B.length:Int)≤Q[k].1:=by omega
   have hbk:vP B.length Q[k]=false:=by simp[vP];omega
   clear hbad;go_wp2;go_roundw
   case rel=>exact⟨k+1,by omega,by go_num,hbel.alloc hbel.size _,hblk.alloc _,lH hp hlt hbk⟩
   case measure=>simp[intOf];omega
  have ha:Q.any (vP B.length)=false:=by rw[tQ];intro x hx;obtain⟨i,hi,rfl⟩:=jE.1 hx;simp[hp i hi (by omega)]
  go_wp2
  all_goals
   go_ret;exact⟨by simp[ha],hbel⟩
theorem rX (d:mZ) (ab:Option Addr) (cb:Nat) (aq:Option Addr) (cq:Nat) (w:World) (h:JF w ab cb aq cq d) :
  Calls Tryz.prog 62 #[.agg #[.slice ab d.blocks.length cb,.slice aq d.queue.length cq]] w fun e w'=>e = .returned (.int .i64 (bn d))∧Below w.heap.size w w':=by
 have lb:=aX h.lb h.mb;have lq:=aX h.lq h.mq;unfold maxLen at lb lq;have hrq:=h.rq;unfold bn;obtain⟨B,Q⟩:=d;simp only at *
 go_enter func62,ntmps62;have hb0:Below w.heap.size w (w.alloc (.cells #[.slice ab B.length cb,.slice aq Q.length cq] 34)):=(Below.refl _ _).alloc (ay _) _
 by_cases h4:80<B.length∨400<Q.length
 ·rw[if_pos h4];have h4' : (80:Int)<(B.length:Int)∨(400:Int)<(Q.length:Int):=by omega
  clear h4;rcases h4' with h4|h4
  all_goals
   go_wp2
   all_goals
    go_ret;exact⟨rfl,hb0⟩
 rw[if_neg h4];have h41:¬(80:Int)<(B.length:Int):=by omega
 have h42:¬(400:Int)<(Q.length:Int):=by omega
 clear h4;go_wp2
 go_loopw [18] (fun i wr => ∃k:Nat,k≤Q.length∧i = .int .i64 k∧Below w.heap.size w wr∧aC wr w.heap.size #[.slice ab B.length cb,.slice aq Q.length cq] 34∧∀i (h:i<Q.length),i<k→vP B.length Q[i]=false) (fun i _=>Q.length-(intOf i).toNat)
 case atStart=>exact⟨0,aS _,rfl,hb0,aC.new _ _ _,fun i _ h=>absurd h (dO _)⟩
 case round=>
  obtain⟨k,hk,rfl,hbel,hblk,hp⟩:=hrel
  by_cases hlt:k<Q.length
  ·obtain⟨b,off,rfl,hc⟩:=yt (hrq.below hbel) k hlt;have c0:=hc 0 (by decide);have c1:=hc 1 (by decide);have c2:=hc 2 (by decide);have c3:=hc 3 (by decide);have c4:=hc 4 (by decide);have c5:=hc 5 (by decide);have c6:=hc 6 (by decide);have c7:=hc 7 (by decide);have c8:=hc 8 (by decide);simp only[Ep,rJ,mY,rT,gM] at c0 c1 c2 c3 c4 c5 c6 c7 c8;clear hc;have hcd:=fun o=>(hblk.alloc o).cell
   by_cases hbad:Q[k].1<0∨(B.length:Int)≤Q[k].1
   ·have hbk:vP B.length Q[k]=true:=by simpa[vP] using hbad
    have ha:Q.any (vP B.length)=true:=iW.2 ⟨_,dP hlt,hbk⟩;rcases hbad with hbad|hbad
    all_goals
     go_wp2
     all_goals
      go_ret;exact⟨by simp[ha],hbel.alloc hbel.size _⟩
   have n1:¬Q[k].1<0:=by omega
   have n2:¬(B.length:Int)≤Q[k].1:=by omega
   have hbk:vP B.length Q[k]=false:=by simp[vP];omega
   clear hbad;go_wp2;go_roundw
   case rel=>exact⟨k+1,by omega,by go_num,hbel.alloc hbel.size _,hblk.alloc _,lH hp hlt hbk⟩
   case measure=>simp[intOf];omega
  have ha:Q.any (vP B.length)=false:=by rw[tQ];intro x hx;obtain⟨i,hi,rfl⟩:=jE.1 hx;simp[hp i hi (by omega)]
  go_wp2
  all_goals
   go_ret;exact⟨by simp[ha],hbel⟩
theorem ic.keep {d:mZ} (h:ic w B vb vq d) (hk:aC w g cs T) (h1:T≠79) (h2:T≠86) (hgr:w.grownBy w' (some g)):ic w' B vb vq d:=
 ⟨ak h.b hk h1 hgr,ak h.q hk h2 hgr⟩
def xC (B:Nat) (d:mZ):lX:=⟨fun v w => ∃vb vq,v = .agg #[vb,vq]∧ic w B vb vq d,fun _ _ _ hb ⟨vb,vq,h1,h2⟩=>⟨vb,vq,h1,h2.below hb⟩⟩
theorem psize:(Tryz.prog.info? 79).map (·.size)=some 8:=by kernel_rfl
theorem zz_fit:(#[.int .u8 0,.int .u8 0,.int .u8 0,.int .u8 0,.int .u8 0,.int .u8 0,.int .u8 0,.int .u8 0]:Array Value).size=(#[.int .u8 0,.int .u8 0,.int .u8 0,.int .u8 0,.int .u8 0,.int .u8 0,.int .u8 0,.int .u8 0]:Array Value).size:=rfl
theorem zz_one:(#[.int .u8 0,.int .u8 0,.int .u8 0,.int .u8 0,.int .u8 0,.int .u8 0,.int .u8 0,.int .u8 0]:Array Value).all (·.oneCell')=true:=by simp[Value.oneCell']
theorem zz_info:(Tryz.prog.info? 79).map (·.size)=some (#[.int .u8 0,.int .u8 0,.int .u8 0,.int .u8 0,.int .u8 0,.int .u8 0,.int .u8 0,.int .u8 0]:Array Value).size:=psize
theorem UL (p:Page):(iq p).size=(#[.int .u8 0,.int .u8 0,.int .u8 0,.int .u8 0,.int .u8 0,.int .u8 0,.int .u8 0,.int .u8 0]:Array Value).size:=rfl
theorem TA (p q:Page):(iq p).size=(iq q).size:=rfl
theorem wY (p:Page):(Tryz.prog.info? 79).map (·.size)=some (iq p).size:=psize
theorem disk_size:(Tryz.prog.info? 34).map (·.size)=some 2:=by kernel_rfl
theorem DZ (d:mZ) (ab:Option Addr) (cb:Nat) (aq:Option Addr) (cq:Nat) (w:World) (h:JF w ab cb aq cq d) (h80:d.blocks.length*8≤140737488355328) (h400:d.queue.length*16≤140737488355328) :
  Calls Tryz.prog 75 #[.agg #[.slice ab d.blocks.length cb,.slice aq d.queue.length cq]] w fun e w' => ∃vb vq,e = .returned (.agg #[vb,vq])∧ic w' w.heap.size vb vq d∧Below w.heap.size w w':=by
 go_enter func75,ntmps75;go_upto_region 1 with (fail);have hbel0:Below w.heap.size w ((w.alloc (.cells #[.slice ab d.blocks.length cb,.slice aq d.queue.length cq] 34)).alloc (.cells #[.slice none 0 0,.slice none 0 0] 34)):=((Below.refl _ _).alloc (ay _) _).alloc (fU _ _) _;have hblk:aC ((w.alloc (.cells #[.slice ab d.blocks.length cb,.slice aq d.queue.length cq] 34)).alloc (.cells #[.slice none 0 0,.slice none 0 0] 34)) w.heap.size #[.slice ab d.blocks.length cb,.slice aq d.queue.length cq] 34:=(aC.new _ _ _).alloc _;have hout:aC ((w.alloc (.cells #[.slice ab d.blocks.length cb,.slice aq d.queue.length cq] 34)).alloc (.cells #[.slice none 0 0,.slice none 0 0] 34)) (w.heap.size+1) #[.slice none 0 0,.slice none 0 0] 34:=by simpa using aC.new (w.alloc (.cells #[.slice ab d.blocks.length cb,.slice aq d.queue.length cq] 34)) _ _
 have h0:=h.below hbel0;refine aK 7 [_,_,.r 2 ((oq w.heap.size 79 8 d.blocks.length (d.blocks.flatMap yL))),_,_,.r 5 ((oq w.heap.size 86 9 d.queue.length (d.queue.flatMap yz))),.r 6 ((xC w.heap.size d))] (Gf w.heap.size 0 rfl rfl (Gl hblk (V:=.slice ab d.blocks.length cb) (by simp[underlying31]) rfl rfl rfl rfl (ag ?_ (Gf w.heap.size 1 rfl rfl (Gl hblk (V:=.slice aq d.queue.length cq) (by simp[underlying32]) rfl rfl rfl rfl (ag ?_ (ag ?_ (aB)))))))) (fun _=>rfl) rfl ?_
 ·intro ρ y W hw hn hb hd;have E4:=hw 4 1 rfl;have h1:y 1=_:=hd 1 rfl;have EF:∀f,ρ (.func f) = .func (.func f) #[] #[]:=fun f=>hn (.func f) trivial;refine aO _ _ (ah rfl) (aQ rfl (EF _) func115 (by kernel_rfl) (by kernel_rfl) (by simp only[bP,bM,bN,E4,h1,EF];rfl)) ?_;refine (Bv d.blocks ab cb W h0.lb h0.nb (h0.below hb).rb h80).mono ?_;rintro e w1 ⟨v,rfl,ho,hb1⟩;exact⟨v,rfl,hb1,ho.mono (aX hbel0.size hb.size)⟩
 ·intro ρ y W hw hn hb hd;have E7:=hw 7 4 rfl;have h4:y 4=_:=hd 4 rfl;have EF:∀f,ρ (.func f) = .func (.func f) #[] #[]:=fun f=>hn (.func f) trivial;refine aO _ _ (ah rfl) (aQ rfl (EF _) func116 (by kernel_rfl) (by kernel_rfl) (by simp only[bP,bM,bN,E7,h4,EF];rfl)) ?_;refine (LY d.queue aq cq W h0.lq h0.nq (h0.below hb).rq h400).mono ?_;rintro e w1 ⟨v,rfl,ho,hb1⟩;exact⟨v,rfl,hb1,ho.mono (aX hbel0.size hb.size)⟩
 ·intro ρ y W hw hn hb hd;have E5:=hw 5 2 rfl;have h2:=hd 2 rfl;have E8:=hw 8 5 rfl;have h5:=hd 5 rfl;obtain⟨x2,c2,e2,_⟩:=Own.rd h2;obtain⟨x5,c5,e5,_⟩:=Own.rd h5;refine aj (.agg #[y 2,y 5]) (ah rfl) (by simp[execOp,go_sem,E5,E8,e2,e5]) ?_;exact⟨_,_,rfl,h2,h5⟩
 intro y WA hbWA hRWA;have hy2:((oq w.heap.size 79 8 d.blocks.length (d.blocks.flatMap yL))).r (y 2) WA:=hRWA 2 (by decide);have hy5:((oq w.heap.size 86 9 d.queue.length (d.queue.flatMap yz))).r (y 5) WA:=hRWA 5 (by decide);have hy6:((xC w.heap.size d)).r (y 6) WA:=hRWA 6 (by decide);clear hRWA;obtain⟨vb,vq,e6,ho⟩:=hy6;rw[e6];clear hy2 hy5 e6;have hbelA:=ae hbel0 hbWA;obtain⟨xb,cb',xq,cq',rfl,rfl,_⟩:=ho.rd;refine az rfl _ (.tmp 2) (.tmp 9) rfl (w.heap.size+1) _ rfl rfl _ _ (hout.ext hbWA) rfl disk_size (by simp[Value.oneCell']) ?_;intro w2 hq hgr;have hbel2:Below w.heap.size w w2:=hbelA.grown hgr hbelA.size (fun k hk=>by cases hk;omega);have hc:=hq.cell;go_wp2;simp[bodyPost,results,go_sem,results75,hc];exact⟨_,_,⟨rfl,rfl⟩,ho.keep (hout.ext hbWA) (by decide) (by decide) hgr,hbel2⟩
theorem tZ (a b c d:Value):(#[a,b]:Array Value).size=(#[c,d]:Array Value).size:=rfl
theorem qz (a b:Value):(Tryz.prog.info? 34).map (·.size)=some (#[a,b]:Array Value).size:=disk_size
theorem Eg (d:mZ) (k:Int) (p:Page) (ab:Option Addr) (cb:Nat) (aq:Option Addr) (cq:Nat) (w:World) (h:JF w ab cb aq cq d) :
  Calls Tryz.prog 92 #[.agg #[.slice ab d.blocks.length cb,.slice aq d.queue.length cq],.int .i64 k,.agg (iq p)] w fun e w' => ∃vb vq,e = .returned (.tuple #[.agg #[vb,vq],.int .i64 (aL d k)])∧ic w' w.heap.size vb vq (dC d k p)∧Below w.heap.size w w':=by
 go_enter func92,ntmps92
 go_wp2_with fail
 refine Ld (fun W=>Calls _ _ _ W _) fun W0 hb0 hbox0 hpg0 hres0 hs0 => ?_;refine (uY d ab cb aq cq _ (h.below hb0)).mono ?_;rintro e w1 ⟨rfl,hb1⟩;have hbel1:=ae hb0 hb1;have hbox1:=hbox0.ext hb1;have hpg1:=hpg0.ext hb1;have hres1:=hres0.ext hb1;have h1:=h.below hbel1;clear hbox0 hpg0 hres0 hb1 hb0 h hs0;have hc1:=hbox1.cell
 by_cases hw:bn d=0
 ·rw[hw];obtain⟨l80,l400⟩:=wW hw
  by_cases hk:k<0∨(d.blocks.length:Int)≤k
  ·have q1:aL d k=3:=by unfold aL;rw[if_neg (by omega),if_pos hk]
   have q2:dC d k p=⟨[],[]⟩:=by unfold dC;rw[if_neg (by omega)]
   rcases hk with hk|hk
   all_goals
    go_wp2_with (refine az rfl _ (.tmp 6) (.tmp 26) rfl (w.heap.size+2) #[.slice none 0 0,.slice none 0 0] rfl rfl _ _ hres1 rfl disk_size (kQ _ _ _ _ _ _) ?_)
    all_goals
     intro w2 hr2 hgr;have hbel2:=hbel1.grown hgr hbel1.size (fun k hk=>by cases hk;omega);have hcr:=hr2.cell;go_wp2;simp[bodyPost,results,go_sem,results92,hcr,q1];exact⟨_,_,⟨rfl,rfl⟩,by rw[q2];exact ic.nil _ _,hbel2⟩
  obtain⟨k,rfl⟩:=fE (show 0≤k by omega);have hkl:k<d.blocks.length:=by omega
  have k1:¬(d.blocks.length:Int)≤(k:Int):=by omega
  have q1:aL d k=0:=by unfold aL;rw[if_neg (by omega),if_neg hk]
  have q2:dC d k p=iU d (k,p):=by unfold dC;rw[if_pos q1]
  have Q2:=Lib.hid q2;clear hk q2
  go_wp2_with fail
  refine (DZ d ab cb aq cq _ h1 (by omega) (by omega)).mono ?_;rintro e w2 ⟨vb,vq,rfl,ho,hb2⟩;have hbel2:=ae hbel1 hb2;have hpg2:=hpg1.ext hb2;have hres2:=hres1.ext hb2;have hge1:w.heap.size+3≤w1.heap.size:=by have:=hres1.lt;omega
  have hge2:w.heap.size+3≤w2.heap.size:=aX (show w.heap.size+3≤w1.heap.size by have:=hres1.lt;omega) hb2.size;clear hbox1 hpg1 hres1 hb2 h1 hc1;obtain⟨xb,cb',xq,cq',rfl,rfl,hrd2⟩:=ho.rd;have hlq:=hrd2.lq;go_upto_region 7 with (fail);refine gI (fun W=>Code.wp _ _ _ _ W) fun w3 hb3 hout3 hs3 => ?_;have ho3:=ho.below hb3;have hbel3:=ae hbel2 hb3;have hpg3:=hpg2.ext hb3;have hres3:=hres2.ext hb3;have hge3:w.heap.size+3≤w2.heap.size:=hge2;clear ho hrd2 hpg2 hres2 hb3;have hlt3:w2.heap.size<w3.heap.size:=by omega
  clear hs3;have hc9:=hout3.cell
  by_cases h4:d.queue.length=400
  ·have Q3:=Lib.hid (Pe d ((k:Int),p) h4);have h4' : ((d.queue.length:Int)==400)=true:=by rw[h4];rfl
   have hqn:0<d.queue.length:=by omega
   obtain⟨hin1,hin2⟩:=wS hw 0 hqn;generalize hq0:d.queue[0]=q0 at *
   obtain⟨i0,hi0⟩:=fE hin1;have hi0' : i0<d.blocks.length:=by omega
   obtain⟨gq,offq,capq,curq,hvq,hBq,hgq,hfq,hcq,hsetq⟩:=ho3.q.put uQ (by decide) 0 hqn;obtain⟨gb,offb,capb,curb,hvb,hBb,hgb,hfb,hcb,hsetb⟩:=ho3.b.put jJ (by decide) i0 hi0';cases hvq;cases hvb;rw[hq0] at hcq;have c0:=hcq 0 _ rfl;have c1:=hcq 1 _ rfl;have c2:=hcq 2 _ rfl;have c3:=hcq 3 _ rfl;have c4:=hcq 4 _ rfl;have c5:=hcq 5 _ rfl;have c6:=hcq 6 _ rfl;have c7:=hcq 7 _ rfl;have c8:=hcq 8 _ rfl;simp only[wL,gM,hi0] at c0 c1 c2 c3 c4 c5 c6 c7 c8;have n1:(0:Int)<(d.queue.length:Int):=by omega
   have n2:(i0:Int)<(d.blocks.length:Int):=by omega
   have hcd:=fun o=>(hout3.alloc o).cell;clear hcq hcb hsetq hin1 hin2
   go_wp2_with (refine fP rfl _ (.tmp 43) (.tmp 42) rfl gb (offb+i0*8) (iq q0.2) rfl rfl curb 79 (hgb.alloc _) (by rw[zx];omega) (wY _) (ja _) ?_)
   intro w5 hq5 hgr5;have hB5:=hsetb w5 q0.2 hq5;have hQ5:=ak (ho3.q.alloc _) (hgb.alloc _) (by decide) hgr5;have hout5:=bu (hout3.alloc _) (hgb.alloc _) (by decide) hgr5;have hres5:=bu (hres3.alloc _) (hgb.alloc _) (by decide) hgr5;have hpg5:=(hpg3.alloc _).grown hgr5 (by intro he;cases he;omega);have hbel5:Below w.heap.size w w5:=(hbel3.alloc hbel3.size _).grown hgr5 (bV hbel3.size _) (fun k hk=>by cases hk;omega);clear hq5 hgr5 hsetb hgb hcd hout3 hres3 hpg3 ho3 c0 c1 c2 c3 c4 c5 c6 c7 c8 hbel3 hc9 hgq;have hc9:=hout5.cell;have hf9:=hout5.free;have hcne:¬cq' = 1:=by omega
   go_upto_region 11 with (fail);have hl:(d.queue.drop 1).length=399:=by simp;omega
   have hQ5':=(hQ5.drop uQ 1 hqn).mono hbel1.size;rw[hl,zV] at hQ5';have hQ6:=uN hQ5' hout5 (by decide) 1 (.slice (some ⟨gq,offq+9,none⟩) 399 (cq' - 1));have hB6:=uN (hB5.mono hbel1.size) hout5 (by decide) 1 (.slice (some ⟨gq,offq+9,none⟩) 399 (cq' - 1));have hout6:=hout5.setCell 1 (.slice (some ⟨gq,offq+9,none⟩) 399 (cq' - 1));have hres6:=hres5.setCell_other ⟨w2.heap.size,1,none⟩ (.slice (some ⟨gq,offq+9,none⟩) 399 (cq' - 1)) (by simp;omega);have hpg6:=hpg5.setCell_other ⟨w2.heap.size,1,none⟩ (.slice (some ⟨gq,offq+9,none⟩) 399 (cq' - 1)) (by simp;omega);have hbel6:Below w.heap.size w (w5.setCell ⟨w2.heap.size,1,none⟩ (.slice (some ⟨gq,offq+9,none⟩) 399 (cq' - 1))):=hbel5.setCell (by simp;omega) _;have hlt6:w2.heap.size<(w5.setCell ⟨w2.heap.size,1,none⟩ (.slice (some ⟨gq,offq+9,none⟩) 399 (cq' - 1))).heap.size:=hout6.lt;clear hQ5 hQ5' hB5 hout5 hres5 hpg5 hbel5 hf9 hc9;generalize w5.setCell ⟨w2.heap.size,1,none⟩ (.slice (some ⟨gq,offq+9,none⟩) 399 (cq' - 1))=w6 at *
   have hc9:=hout6.cell;have hcp:=hpg6.cell;obtain⟨e0,e1,e2,e3,e4,e5,e6,e7⟩:=HZ p;have hpp : #[Value.int .u8 p[0].toNat,Value.int .u8 p[1].toNat,Value.int .u8 p[2].toNat,Value.int .u8 p[3].toNat,Value.int .u8 p[4].toNat,Value.int .u8 p[5].toNat,Value.int .u8 p[6].toNat,Value.int .u8 p[7].toNat]=iq p:=rfl;clear hpp
   go_wp2_with (at_builtin;(refine eH rfl _ _ 32 rfl w.heap.size 86 _ 9 16 underlying32 put_info rfl (by decide) _ 399 ((d.queue.drop 1).flatMap yz) rfl ?own (some ⟨w6.heap.size,0,none⟩) 1 1 (yz ((k:Int),p)) rfl (fun h=>(by cases h)) (ay _) rfl ?rd (fun u hu=>Ef [((k:Int),p)] u (by simpa using hu)) (by unfold maxLen;omega) (by omega) ?bb ?app))
   case own=>exact hQ6.alloc _
   case rd=>exact dN.new _ (Ep ((k:Int),p)) _
   case bb=>exact bV hbel6.size _
   intro v w4 hown hgr;have hq3:=hQ6.alloc (.cells #[.int .i64 k,.int .u8 p[0].toNat,.int .u8 p[1].toNat,.int .u8 p[2].toNat,.int .u8 p[3].toNat,.int .u8 p[4].toNat,.int .u8 p[5].toNat,.int .u8 p[6].toNat,.int .u8 p[7].toNat] 86);have hb4:=zI (hB6.alloc _) hq3 (by decide) hgr;have hout4:=jY (hout6.alloc _) hq3 (by decide) hgr;have hres4:=jY (hres6.alloc _) hq3 (by decide) hgr;have hbel4:Below w.heap.size w w4:=(hbel6.alloc hbel6.size _).grown hgr (bV hbel6.size _) hq3.ge;obtain⟨x4,c4,rfl,_⟩:=hown.rd;clear e0 e1 e2 e3 e4 e5 e6 e7 hcp hgr hq3 hB6 hQ6 hout6 hres6 hpg6 hc9;have hc9:=hout4.cell;have hf9:=hout4.free
   go_wp2_with (refine az rfl _ (.tmp 6) (.tmp 56) rfl (w.heap.size+2) #[.slice (some ⟨gb,offb,none⟩) d.blocks.length cb',.slice x4 (399+1) c4] rfl rfl _ _ (hres4.setCell_other _ _ (by simp;omega)) (tZ _ _ _ _) (qz _ _) (kQ _ _ _ _ _ _) ?_)
   intro w7 hr5 hgr5;have hres4':=hres4.setCell_other ⟨w2.heap.size,1,none⟩ (.slice x4 (399+1) c4) (by simp;omega);have hb5:=ak (uN hb4 hout4 (by decide) 1 (.slice x4 (399+1) c4)) hres4' (by decide) hgr5;have hq5:=ak (uN hown hout4 (by decide) 1 (.slice x4 (399+1) c4)) hres4' (by decide) hgr5;have hbs:Below w.heap.size w (w4.setCell ⟨w2.heap.size,1,none⟩ (.slice x4 (399+1) c4)):=hbel4.setCell (by simp;omega) _;have hbel7:Below w.heap.size w w7:=hbs.grown hgr5 hbs.size (fun k hk=>by cases hk;omega);have hcr:=hr5.cell;clear hb4 hown hout4 hres4 hres4' hgr5 hbel4 hbs hc9 hf9;go_wp2;simp[bodyPost,results,go_sem,results92,hcr,q1];refine⟨_,_,⟨rfl,rfl⟩,?_,hbel7⟩;rw[Q2.out,Q3.out];rw[hi0,bU];have e9:(d.queue.drop 1++[((k:Int),p)]).length=399+1:=by simp;omega
   exact⟨by rw[bI];exact hb5,by rw[e9,eT];simpa using hq5⟩
  have Q3:=Lib.hid (Ow d ((k:Int),p) h4);have h4' : ((d.queue.length:Int)==400)=false:=by simp;omega
  have hcp:=hpg3.cell;obtain⟨e0,e1,e2,e3,e4,e5,e6,e7⟩:=HZ p;have hpp : #[Value.int .u8 p[0].toNat,Value.int .u8 p[1].toNat,Value.int .u8 p[2].toNat,Value.int .u8 p[3].toNat,Value.int .u8 p[4].toNat,Value.int .u8 p[5].toNat,Value.int .u8 p[6].toNat,Value.int .u8 p[7].toNat]=iq p:=rfl;clear hpp
  go_wp2_with (at_builtin;(refine eH rfl _ _ 32 rfl w.heap.size 86 _ 9 16 underlying32 put_info rfl (by decide) _ d.queue.length (d.queue.flatMap yz) rfl ?own2 (some ⟨w3.heap.size,0,none⟩) 1 1 (yz ((k:Int),p)) rfl (fun h=>(by cases h)) (ay _) rfl ?rd2 (fun u hu=>Ef [((k:Int),p)] u (by simpa using hu)) (by unfold maxLen;omega) (by omega) ?bb2 ?app2))
  case own2=>exact (ho3.q.mono hbel1.size).alloc _
  case rd2=>exact dN.new _ (Ep ((k:Int),p)) _
  case bb2=>exact bV hbel3.size _
  intro v w4 hown hgr;have hq3:=(ho3.q.mono hbel1.size).alloc (.cells #[.int .i64 k,.int .u8 p[0].toNat,.int .u8 p[1].toNat,.int .u8 p[2].toNat,.int .u8 p[3].toNat,.int .u8 p[4].toNat,.int .u8 p[5].toNat,.int .u8 p[6].toNat,.int .u8 p[7].toNat] 86);have hb4:=zI ((ho3.b.mono hbel1.size).alloc _) hq3 (by decide) hgr;have hout4:=jY (hout3.alloc _) hq3 (by decide) hgr;have hres4:=jY (hres3.alloc _) hq3 (by decide) hgr;have hbel4:Below w.heap.size w w4:=(hbel3.alloc hbel3.size _).grown hgr (bV hbel3.size _) hq3.ge;obtain⟨x4,c4,rfl,_⟩:=hown.rd;clear e0 e1 e2 e3 e4 e5 e6 e7 hcp hgr hq3 ho3 hout3 hres3 hpg3 hc9;have hc9:=hout4.cell;have hf9:=hout4.free
  go_wp2_with (refine az rfl _ (.tmp 6) (.tmp 56) rfl (w.heap.size+2) #[.slice xb d.blocks.length cb',.slice x4 (d.queue.length+1) c4] rfl rfl _ _ (hres4.setCell_other _ _ (by simp;omega)) (tZ _ _ _ _) (qz _ _) (kQ _ _ _ _ _ _) ?_)
  intro w5 hr5 hgr5;have hres4':=hres4.setCell_other ⟨w2.heap.size,1,none⟩ (.slice x4 (d.queue.length+1) c4) (by simp;omega);have hb5:=ak (uN hb4 hout4 (by decide) 1 (.slice x4 (d.queue.length+1) c4)) hres4' (by decide) hgr5;have hq5:=ak (uN hown hout4 (by decide) 1 (.slice x4 (d.queue.length+1) c4)) hres4' (by decide) hgr5;have hbs:Below w.heap.size w (w4.setCell ⟨w2.heap.size,1,none⟩ (.slice x4 (d.queue.length+1) c4)):=hbel4.setCell (by simp;omega) _;have hbel5:Below w.heap.size w w5:=hbs.grown hgr5 hbs.size (fun k hk=>by cases hk;omega);have hcr:=hr5.cell;clear hb4 hown hout4 hres4 hres4' hgr5 hbel4 hbs hc9 hf9;go_wp2;simp[bodyPost,results,go_sem,results92,hcr,q1];refine⟨_,_,⟨rfl,rfl⟩,?_,hbel5⟩;rw[Q2.out,Q3.out];exact⟨hb5,by simpa[eT] using hq5⟩
 have q1:aL d k=bn d:=by unfold aL;rw[if_pos hw]
 have q2:dC d k p=⟨[],[]⟩:=by unfold dC;rw[if_neg (by omega)]
 have hw' : (bn d != 0)=true:=by simpa using hw
 go_wp2_with (refine az rfl _ (.tmp 6) (.tmp 15) rfl (w.heap.size+2) #[.slice none 0 0,.slice none 0 0] rfl rfl _ _ hres1 rfl disk_size (kQ _ _ _ _ _ _) ?_)
 intro w2 hr2 hgr;have hbel2:=hbel1.grown hgr hbel1.size (fun k hk=>by cases hk;omega);have hcr:=hr2.cell;go_wp2;simp[bodyPost,results,go_sem,results92,hcr,q1];exact⟨_,_,⟨rfl,rfl⟩,by rw[q2];exact ic.nil _ _,hbel2⟩
theorem MF (i:Nat) (bits:Int) (b:Nat) (hi:i≤400) (w:World) (hb:aC w b #[.int .i64 bits] 3):Calls Tryz.prog 100 #[.int .i64 i,.pointer (some ⟨b,0,none⟩)] w fun e w'=>e = .returned (.bool (jU bits i))∧w' = w:=by
 have hc:=hb.cell;go_enter func100,ntmps100;go_wp2;go_ret;exact⟨rfl,rfl⟩
theorem JI (n:Int) (w:World) :
  Calls Tryz.prog 98 #[.int .i64 n] w fun e w' => ∃vb vq,e = .returned (.tuple #[.agg #[vb,vq],.int .i64 (MR n)])∧ic w' w.heap.size vb vq (oo n)∧Below w.heap.size w w':=by
 have hres0:=aC.new w #[.slice none 0 0,.slice none 0 0] 34;have hbel0:Below w.heap.size w (w.alloc (.cells #[.slice none 0 0,.slice none 0 0] 34)):=(Below.refl _ _).alloc (ay _) _;unfold oo MR
 by_cases h:0≤n∧n≤80
 ·obtain⟨m,rfl⟩:=fE h.1;have h1:(m:Int)≤80:=h.2;rw[if_pos h,if_pos h];go_enter func98,ntmps98
  go_wp2_with (refine uk _ rfl (.tmp 11) (.tmp 11) 31 rfl yL 79 _ 8 8 zPg jJ (by decide) underlying31 page_info rfl .i64 .i64 m m m rfl rfl rfl rfl (by omega) (by unfold maxLen;omega) ?_)
  intro w2 ho hgr;have hres2:=hres0.grown hgr (by intro he;cases he);have hbel2:=hbel0.grown hgr hbel0.size (fun k hk=>by cases hk)
  go_wp2_with (refine az rfl _ (.tmp 2) (.tmp 13) rfl w.heap.size #[.slice (some ⟨w.heap.size+1,0,none⟩) m m,.slice none 0 0] rfl rfl _ _ hres2 (tZ _ _ _ _) (qz _ _) (kQ _ _ _ _ _ _) ?_)
  intro w3 hr3 hgr3;have ho3:=ak ho hres2 (by decide) hgr3;have hbel3:=hbel2.grown hgr3 hbel2.size (fun k hk=>by cases hk;exact ay _);have hcr:=hr3.cell;go_wp2;simp[bodyPost,results,go_sem,results98,hcr];exact⟨_,_,⟨rfl,rfl⟩,⟨by simpa using ho3.mono (zN _),Own.nil _ _ _ _⟩,hbel3⟩
 rw[if_neg h,if_neg h];have h' : n<0∨80<n:=by omega
 clear h;rcases h' with h|h
 all_goals
  go_enter func98,ntmps98
  go_wp2_with (refine az rfl _ (.tmp 2) (.tmp 10) rfl w.heap.size #[.slice none 0 0,.slice none 0 0] rfl rfl _ _ hres0 rfl disk_size (kQ _ _ _ _ _ _) ?_)
  all_goals
   intro w2 hr2 hgr;have hbel2:=hbel0.grown hgr hbel0.size (fun k hk=>by cases hk;exact ay _);have hcr:=hr2.cell;go_wp2;simp[bodyPost,results,go_sem,results98,hcr];exact⟨_,_,⟨rfl,rfl⟩,ic.nil _ _,hbel2⟩
theorem Py (d:mZ) (ab:Option Addr) (cb:Nat) (aq:Option Addr) (cq:Nat) (bd:Nat) (w:World) (hd:aC w bd #[.slice ab d.blocks.length cb,.slice aq d.queue.length cq] 34) (h:JF w ab cb aq cq d) (hw:bn d=0) (bits:Int) (bb:Nat) (hbb:aC w bb #[.int .i64 bits] 3) :
  Calls Tryz.prog 94 #[.pointer (some ⟨bd,0,none⟩),.func (.func 100) #[] #[.pointer (some ⟨bb,0,none⟩)]] w fun e w' => ∃vb vq,e = .returned (.agg #[vb,vq])∧ic w' w.heap.size vb vq ⟨jX (jU bits) d.blocks d.queue d.queue.length,[]⟩∧Below w.heap.size w w':=by
 obtain⟨l80,l400⟩:=wW hw;have hin:=wS hw;go_enter func94,ntmps94;have hcd:=fun o=>(hd.alloc o).cell
 go_wp2_with fail
 clear hcd;refine gI (fun W=>Calls _ _ _ W _) fun W0 hb0 hres0 hs0 => ?_;refine (Bv d.blocks ab cb W0 h.lb h.nb (h.below hb0).rb (by omega)).mono ?_;rintro e w1 ⟨v,rfl,ho,hb1⟩;have hbel1:=ae hb0 hb1;have hres1:=hres0.ext hb1;have hd1:=(hd.ext hb0).ext hb1;have h1:=h.below hbel1;have ho1:=ho.mono hb0.size;obtain⟨xb,cb',rfl,hle,_⟩:=ho.rd;clear hres0 hb1 ho;go_upto_region 2 with (fail);refine gI (fun W=>Code.wp _ _ _ _ W) fun w2 hb2 hout2 hs2 => ?_;have hbel2:=ae hbel1 hb2;have hres2:=hres1.ext hb2;have hd2:=hd1.ext hb2;have h2:=h1.below hb2;have ho2:=ho1.below hb2;have hgeo:w.heap.size<w1.heap.size:=hres1.lt;have hbb2:=hbb.below hbel2 hbb.lt;clear hres1 hd1 h1 ho1 hs2 hs0 hb0;have hc2:=hd2.cell;go_wp2;clear hc2
 go_loopw [19] (fun i wr => ∃k:Nat,k≤d.queue.length∧i = .int .i64 k∧Below w.heap.size w wr∧aC wr bd #[.slice ab d.blocks.length cb,.slice aq d.queue.length cq] 34∧aC wr w1.heap.size #[.slice xb d.blocks.length cb',.slice none 0 0] 34∧aC wr w.heap.size #[.slice none 0 0,.slice none 0 0] 34∧Own wr w.heap.size 79 8 (.slice xb d.blocks.length cb') d.blocks.length ((jX (jU bits) d.blocks d.queue k).flatMap yL)∧aC wr bb #[.int .i64 bits] 3) (fun i _=>d.queue.length-(intOf i).toNat)
 case atStart=>exact⟨0,aS _,rfl,hbel2,hd2,hout2,hres2,ho2 ,hbb2⟩
 case round=>
  obtain⟨k,hk,rfl,hbel,hdr,houtr,hresr,hor ,hbr⟩:=hrel;clear hd2 hout2 hres2 ho2 hbel2 h2
  by_cases hlt:k<d.queue.length
  ·obtain⟨b,off,rfl,hc⟩:=yt (h.rq.below hbel) k hlt;have c0:=hc 0 (by decide);have c1:=hc 1 (by decide);have c2:=hc 2 (by decide);have c3:=hc 3 (by decide);have c4:=hc 4 (by decide);have c5:=hc 5 (by decide);have c6:=hc 6 (by decide);have c7:=hc 7 (by decide);have c8:=hc 8 (by decide);simp only[Ep,rJ,mY,rT,gM] at c0 c1 c2 c3 c4 c5 c6 c7 c8;obtain⟨i1,i2⟩:=hin k hlt;clear hc hin
   go_wp2_with fail
   refine gI (fun W=>Calls _ _ _ W _) fun w3 hb3 hbox3 hs3 => ?_;have hbel3:=ae hbel hb3;have hd3:=hdr.ext hb3;have hout3:=houtr.ext hb3;have hres3:=hresr.ext hb3;have ho3:=hor.below hb3;have hbr3:=hbr.ext hb3;clear hdr houtr hresr hor hs3 c0 c1 c2 c3 c4 c5 c6 c7 c8 hbel;refine (MF k bits bb (by omega) _ hbr3).mono ?_;rintro e w4 ⟨rfl,rfl⟩
   by_cases hfk:(jU bits) k=true
   ·obtain⟨i0,hi0⟩:=fE i1;have hi0' : i0<d.blocks.length:=by omega
    have n2:(i0:Int)<(d.blocks.length:Int):=by omega
    obtain⟨gb,offb,capb,curb,hvb,hBb,hgb,hfb,hsetb⟩:=kW jJ (by decide) (lw (jU bits) d.blocks d.queue k) ho3 i0 hi0';cases hvb;have hkn0:=xu (f:=(jU bits)) (B:=d.blocks) hlt hfk;rw[hi0,bU] at hkn0;have hkn:=Lib.hid hkn0;clear hkn0;rw[hi0] at hbox3;have hcb:=hbox3.cell;have hco:=hout3.cell;clear i1 i2
    go_wp2_with (refine fP rfl _ (.tmp 33) (.tmp 32) rfl gb (offb+i0*8) (iq d.queue[k].2) rfl rfl curb 79 hgb (by rw[zx];omega) (wY _) (ja _) ?_)
    intro w5 hq5 hgr5;have hB5:=hsetb w5 d.queue[k].2 hq5;have hd5:=bu hd3 hgb (by decide) hgr5;have hout5:=bu hout3 hgb (by decide) hgr5;have hres5:=bu hres3 hgb (by decide) hgr5;have hbel5:Below w.heap.size w w5:=hbel3.grown hgr5 hbel3.size (fun k hk=>by cases hk;exact hBb);have hbr5:=bu hbr3 hgb (by decide) hgr5;clear hcb hco hq5 hsetb hgb hd3 hout3 hres3 ho3 hbel3;go_wp2;go_roundw
    case rel=>exact⟨k+1,by omega,by go_num,hbel5,hd5,hout5,hres5,by rw[hkn.out];exact hB5 ,hbr5⟩
    case measure=>simp[intOf];omega
   have hfk' : (jU bits) k=false:=by simpa using hfk
   have hkn:=Lib.hid (Al (f:=(jU bits)) (B:=d.blocks) hlt hfk');go_wp2;go_roundw
   case rel=>exact⟨k+1,by omega,by go_num,hbel3,hd3,hout3,hres3,by rw[hkn.out];exact ho3 ,hbr3⟩
   case measure=>simp[intOf];omega
  obtain rfl:k=d.queue.length:=by omega
  have hco:=houtr.cell
  go_wp2_with (refine az rfl _ (.tmp 4) (.tmp 35) rfl w.heap.size #[.slice xb d.blocks.length cb',.slice none 0 0] rfl rfl _ _ hresr (tZ _ _ _ _) (qz _ _) (kQ _ _ _ _ _ _) ?_)
  intro w3 hr3 hgr3;have ho3:=ak hor hresr (by decide) hgr3;have hbel3:Below w.heap.size w w3:=hbel.grown hgr3 hbel.size (fun k hk=>by cases hk;exact ay _);have hcr:=hr3.cell;go_wp2;simp[bodyPost,results,go_sem,results94,hcr];exact⟨_,_,⟨rfl,rfl⟩,⟨by rw[lw];exact ho3,Own.nil _ _ _ _⟩,hbel3⟩
theorem LA (d:mZ) (ab:Option Addr) (cb:Nat) (aq:Option Addr) (cq:Nat) (bits:Int) (w:World) (h:JF w ab cb aq cq d) :
  Calls Tryz.prog 60 #[.agg #[.slice ab d.blocks.length cb,.slice aq d.queue.length cq],.int .i64 bits] w fun e w' => ∃vb vq,e = .returned (.tuple #[.agg #[vb,vq],.int .i64 (bn d)])∧ic w' w.heap.size vb vq (qa (jU bits) d)∧Below w.heap.size w w':=by
 go_enter func60,ntmps60
 go_wp2_with fail
 refine Ld (fun W=>Calls _ _ _ W _) fun W0 hb0 hbox0 hbb0 hres0 hs0 => ?_;refine (uY d ab cb aq cq _ (h.below hb0)).mono ?_;rintro e w1 ⟨rfl,hb1⟩;have hbel1:=ae hb0 hb1;have hbox1:=hbox0.ext hb1;have hres1:=hres0.ext hb1;have hbb1:=hbb0.ext hb1;have h1:=h.below hbel1;have hge1:w.heap.size+2<w1.heap.size:=hres1.lt;clear hbox0 hres0 hb1 hb0 h hs0;have hc1:=hbox1.cell
 by_cases hw:bn d=0
 ·have q2:qa (jU bits) d=⟨jX (jU bits) d.blocks d.queue d.queue.length,[]⟩:=by unfold qa;rw[if_pos hw]
  have Q2:=Lib.hid q2;have HW:=Lib.hid hw;rw[hw];clear q2 hw
  go_wp2_with fail
  refine (Py d ab cb aq cq _ w1 hbox1 h1 HW.out bits _ hbb1).mono ?_;rintro e w2 ⟨vb,vq,rfl,ho,hb2⟩;have hbel2:=ae hbel1 hb2;have hres2:=hres1.ext hb2;obtain⟨xb,cb',xq,cq',rfl,rfl,_⟩:=ho.rd
  go_wp2_with (refine az rfl _ (.tmp 4) (.tmp 14) rfl (w.heap.size+2) _ rfl rfl _ _ hres2 (tZ _ _ _ _) (qz _ _) (kQ _ _ _ _ _ _) ?_)
  intro w3 hr3 hgr;have hbel3:=hbel2.grown hgr hbel2.size (fun k hk=>by cases hk;omega);have ho3:=(ho.mono hbel1.size).keep hres2 (by decide) (by decide) hgr;have hcr:=hr3.cell;go_wp2;simp[bodyPost,results,go_sem,results60,hcr,HW.out];exact⟨_,_,⟨rfl,rfl⟩,by rw[Q2.out];exact ho3,hbel3⟩
 have q2:qa (jU bits) d=⟨[],[]⟩:=by unfold qa;rw[if_neg hw]
 have hw' : (bn d != 0)=true:=by simpa using hw
 go_wp2_with (refine az rfl _ (.tmp 4) (.tmp 11) rfl (w.heap.size+2) #[.slice none 0 0,.slice none 0 0] rfl rfl _ _ hres1 rfl disk_size (kQ _ _ _ _ _ _) ?_)
 intro w2 hr2 hgr;have hbel2:=hbel1.grown hgr hbel1.size (fun k hk=>by cases hk;omega);have hcr:=hr2.cell;go_wp2;simp[bodyPost,results,go_sem,results60,hcr];exact⟨_,_,⟨rfl,rfl⟩,by rw[q2];exact ic.nil _ _,hbel2⟩
theorem VC (p q:Page) (W:World):(Op.equalIn 10000 79 (.agg #[.int .u8 p[0].toNat,.int .u8 p[1].toNat,.int .u8 p[2].toNat,.int .u8 p[3].toNat,.int .u8 p[4].toNat,.int .u8 p[5].toNat,.int .u8 p[6].toNat,.int .u8 p[7].toNat]) (.agg #[.int .u8 q[0].toNat,.int .u8 q[1].toNat,.int .u8 q[2].toNat,.int .u8 q[3].toNat,.int .u8 q[4].toNat,.int .u8 q[5].toNat,.int .u8 q[6].toNat,.int .u8 q[7].toNat])).run Tryz.prog W = .ok (p==q) W:=
 Bw W 9998 _ _ underlying79 underlying5 byte_size p q
theorem Nw (p:Page):iq p=#[.int .u8 p[0].toNat,.int .u8 p[1].toNat,.int .u8 p[2].toNat,.int .u8 p[3].toNat,.int .u8 p[4].toNat,.int .u8 p[5].toNat,.int .u8 p[6].toNat,.int .u8 p[7].toNat]:=rfl
theorem lit0:iq zPg=#[.int .u8 0,.int .u8 0,.int .u8 0,.int .u8 0,.int .u8 0,.int .u8 0,.int .u8 0,.int .u8 0]:=rfl
theorem VM (p q:Page) (W:World):(Op.equalIn 9999 79 (.agg #[.int .u8 p[0].toNat,.int .u8 p[1].toNat,.int .u8 p[2].toNat,.int .u8 p[3].toNat,.int .u8 p[4].toNat,.int .u8 p[5].toNat,.int .u8 p[6].toNat,.int .u8 p[7].toNat]) (.agg #[.int .u8 q[0].toNat,.int .u8 q[1].toNat,.int .u8 q[2].toNat,.int .u8 q[3].toNat,.int .u8 q[4].toNat,.int .u8 q[5].toNat,.int .u8 q[6].toNat,.int .u8 q[7].toNat])).run Tryz.prog W = .ok (p==q) W:=
 Bw W 9997 _ _ underlying79 underlying5 byte_size p q
theorem OU (d d' : mZ) (ab:Option Addr) (cb:Nat) (aq:Option Addr) (cq:Nat) (ab' : Option Addr) (cb' : Nat) (aq' : Option Addr) (cq' : Nat) (w:World) (h:JF w ab cb aq cq d) (h' : JF w ab' cb' aq' cq' d') :
  Calls Tryz.prog 28 #[.agg #[.slice ab d.blocks.length cb,.slice aq d.queue.length cq],.agg #[.slice ab' d'.blocks.length cb',.slice aq' d'.queue.length cq']] w fun e w'=>e = .returned (.bool (MP d d'))∧Below w.heap.size w w':=by
 go_enter func28,ntmps28;go_upto_region 1 with (fail);refine qH (fun W=>Code.wp _ _ _ _ W) fun W0 hb0 hx0 hy0 _ => ?_;have hcx:=hx0.cell;have hcy:=hy0.cell
 by_cases hl:d.blocks.length=d'.blocks.length
 ·have hne:((d.blocks.length:Int) != (d'.blocks.length:Int))=false:=by simp[hl]
  by_cases hq:d.queue.length=d'.queue.length
  ·have hne' : ((d.queue.length:Int) != (d'.queue.length:Int))=false:=by simp[hq]
   have lb:=aX h.lb h.mb;have lq:=aX h.lq h.mq;unfold maxLen at lb lq;have hl':=Lib.hid hl;have hq':=Lib.hid hq;clear hl hq;go_wp2;clear hcx hcy
   go_loopw [26] (fun i wr => ∃k:Nat,k≤d.blocks.length∧i = .int .i64 k∧Below w.heap.size w wr∧aC wr w.heap.size #[.slice ab d.blocks.length cb,.slice aq d.queue.length cq] 34∧aC wr (w.heap.size+1) #[.slice ab' d'.blocks.length cb',.slice aq' d'.queue.length cq'] 34∧∀i (h:i<d.blocks.length),i<k→d.blocks[i]=d'.blocks[i]'(by have:=hl'.out;omega)) (fun i _=>d.blocks.length-(intOf i).toNat)
   case atStart=>exact⟨0,aS _,rfl,hb0,hx0,hy0,fun i _ h=>absurd h (dO _)⟩
   case round=>
    obtain⟨k,hk,rfl,hbel,hx,hy,hp⟩:=hrel;clear hx0 hy0 hb0;have hp':=Lib.hid hp;clear hp;have hcx:=hx.cell;have hcy:=hy.cell
    by_cases hlt:k<d.blocks.length
    ·have hlt' : k<d'.blocks.length:=by have:=hl'.out;omega
     obtain⟨b,off,rfl,hc⟩:=GV (h.below hbel).rb k hlt;obtain⟨b',off',rfl,hc'⟩:=GV (h'.below hbel).rb k hlt';have c0:=hc 0 (by decide);have c1:=hc 1 (by decide);have c2:=hc 2 (by decide);have c3:=hc 3 (by decide);have c4:=hc 4 (by decide);have c5:=hc 5 (by decide);have c6:=hc 6 (by decide);have c7:=hc 7 (by decide);have g0:=hc' 0 (by decide);have g1:=hc' 1 (by decide);have g2:=hc' 2 (by decide);have g3:=hc' 3 (by decide);have g4:=hc' 4 (by decide);have g5:=hc' 5 (by decide);have g6:=hc' 6 (by decide);have g7:=hc' 7 (by decide);simp only[iq,rJ,mY,rT,gM] at c0 c1 c2 c3 c4 c5 c6 c7 g0 g1 g2 g3 g4 g5 g6 g7;clear hc hc';have k1:(k:Int)<(d'.blocks.length:Int):=by omega
     have hE:=VC d.blocks[k] d'.blocks[k]
     by_cases he:d.blocks[k]=d'.blocks[k]
     ·rw[beq_iff_eq.2 he] at hE;have he':=Lib.hid he;clear he
      go_wp2_with fail
      go_quiet (fail);go_wp2;go_roundw
      case rel=>exact⟨k+1,by omega,by go_num,below_drewN hbel _,hx.drewN _,hy.drewN _,Sg hl'.out hlt hp'.out he'.out⟩
      case measure=>simp[intOf];omega
     rw[beq_eq_false_iff_ne.2 he] at hE;have he':=Lib.hid he;clear he
     go_wp2_with fail
     go_quiet (fail);go_wp2;go_ret;exact⟨by rw[uD (.inl (NE k hlt hlt' he'.out))];rfl,below_drewN hbel _⟩
    have hall:=Lib.hid (KJ hl'.out k hlt hp'.out);clear hp';go_wp2;clear hcx hcy
    go_loopw [44] (fun i wr => ∃k:Nat,k≤d.queue.length∧i = .int .i64 k∧Below w.heap.size w wr∧aC wr w.heap.size #[.slice ab d.blocks.length cb,.slice aq d.queue.length cq] 34∧aC wr (w.heap.size+1) #[.slice ab' d'.blocks.length cb',.slice aq' d'.queue.length cq'] 34∧∀i (h:i<d.queue.length),i<k→d.queue[i]=d'.queue[i]'(by have:=hq'.out;omega)) (fun i _=>d.queue.length-(intOf i).toNat)
    case atStart=>exact⟨0,aS _,rfl,hbel,hx,hy,fun i _ h=>absurd h (dO _)⟩
    case round=>
     clear hbel hx hy;obtain⟨k,hk,rfl,hbel,hx,hy,hp⟩:=hrel;have hp':=Lib.hid hp;clear hp;have hcx:=hx.cell;have hcy:=hy.cell
     by_cases hlt:k<d.queue.length
     ·have hlt' : k<d'.queue.length:=by have:=hq'.out;omega
      obtain⟨b,off,rfl,hc⟩:=yt (h.below hbel).rq k hlt;obtain⟨b',off',rfl,hc'⟩:=yt (h'.below hbel).rq k hlt';have c0:=hc 0 (by decide);have c1:=hc 1 (by decide);have c2:=hc 2 (by decide);have c3:=hc 3 (by decide);have c4:=hc 4 (by decide);have c5:=hc 5 (by decide);have c6:=hc 6 (by decide);have c7:=hc 7 (by decide);have c8:=hc 8 (by decide);have g0:=hc' 0 (by decide);have g1:=hc' 1 (by decide);have g2:=hc' 2 (by decide);have g3:=hc' 3 (by decide);have g4:=hc' 4 (by decide);have g5:=hc' 5 (by decide);have g6:=hc' 6 (by decide);have g7:=hc' 7 (by decide);have g8:=hc' 8 (by decide);simp only[Ep,rJ,mY,rT,gM] at c0 c1 c2 c3 c4 c5 c6 c7 c8 g0 g1 g2 g3 g4 g5 g6 g7 g8;clear hc hc';have k1:(k:Int)<(d'.queue.length:Int):=by omega
      have hE:=VM d.queue[k].2 d'.queue[k].2
      by_cases he:d.queue[k]=d'.queue[k]
      ·rw[←he] at hE g0 g1 g2 g3 g4 g5 g6 g7 g8;rw[beq_self_eq_true] at hE;have he':=Lib.hid he;clear he
       go_wp2_with fail
       go_quiet (fail);go_wp2;go_roundw
       case rel=>exact⟨k+1,by omega,by go_num,below_drewN hbel _,hx.drewN _,hy.drewN _,Sg hq'.out hlt hp'.out he'.out⟩
       case measure=>simp[intOf];omega
      have he':=Lib.hid he
      by_cases hn:d.queue[k].1=d'.queue[k].1
      ·have hpn:¬d.queue[k].2=d'.queue[k].2:=fun hh=>he (Prod.ext hn hh);rw[beq_eq_false_iff_ne.2 hpn] at hE;rw[←hn] at g0;clear he hn hpn
       go_wp2_with fail
       go_quiet (fail);go_wp2;go_ret;exact⟨by rw[uD (.inr (NE k hlt hlt' he'.out))];rfl,below_drewN hbel _⟩
      have hz:(d.queue[k].1==d'.queue[k].1)=false:=by simpa using hn
      clear he hn hE
      go_wp2_with fail
      go_quiet (fail);go_wp2;go_ret;exact⟨by rw[uD (.inr (NE k hlt hlt' he'.out))];rfl,below_drewN hbel _⟩
     have hall2:=Lib.hid (KJ hq'.out k hlt hp'.out);go_wp2;go_ret;exact⟨by rw[AL.2 (by cases d;cases d'; simp only[mZ.mk.injEq];exact⟨hall.out,hall2.out⟩)];rfl,hbel⟩
  have hne' : ((d.queue.length:Int) != (d'.queue.length:Int))=true:=by simp;omega
  go_wp2;go_ret;exact⟨by rw[uD (.inr (fun e=>hq (by rw[e])))];rfl,hb0⟩
 have hne:((d.blocks.length:Int) != (d'.blocks.length:Int))=true:=by simp;omega
 go_wp2;go_ret;exact⟨by rw[uD (.inl (fun e=>hl (by rw[e])))];rfl,hb0⟩
theorem put_size:(Tryz.prog.info? 86).map (·.size)=some 9:=by kernel_rfl
theorem NB (q:Int × Page):(Ep q).all (·.oneCell')=true:=by simp[Ep,Value.oneCell']
def vK (f:Fr):Array Value:=#[.int .u8 f.p[0].toNat,.int .u8 f.p[1].toNat,.int .u8 f.p[2].toNat,.int .u8 f.p[3].toNat,.int .u8 f.p[4].toNat,.int .u8 f.p[5].toNat,.int .u8 f.p[6].toNat,.int .u8 f.p[7].toNat,.int .i64 f.r,.bool f.u,.bool f.d,.int .i64 f.f,.int .i64 f.i]
def pO (f:Fr):List Value:=(vK f).toList
theorem eZ (f:Fr):(pO f).length=13:=rfl
structure VA (w:World) (b off:Nat) (f:Fr):Prop where
 c0:w.cell? ⟨b,off,none⟩=some (.int .u8 f.p[0].toNat)
 c1:w.cell? ⟨b,off+1,none⟩=some (.int .u8 f.p[1].toNat)
 c2:w.cell? ⟨b,off+2,none⟩=some (.int .u8 f.p[2].toNat)
 c3:w.cell? ⟨b,off+3,none⟩=some (.int .u8 f.p[3].toNat)
 c4:w.cell? ⟨b,off+4,none⟩=some (.int .u8 f.p[4].toNat)
 c5:w.cell? ⟨b,off+5,none⟩=some (.int .u8 f.p[5].toNat)
 c6:w.cell? ⟨b,off+6,none⟩=some (.int .u8 f.p[6].toNat)
 c7:w.cell? ⟨b,off+7,none⟩=some (.int .u8 f.p[7].toNat)
 c8:w.cell? ⟨b,off+8,none⟩=some (.int .i64 f.r)
 c9:w.cell? ⟨b,off+9,none⟩=some (.bool f.u)
 ca:w.cell? ⟨b,off+10,none⟩=some (.bool f.d)
 cb:w.cell? ⟨b,off+11,none⟩=some (.int .i64 f.f)
 cc:w.cell? ⟨b,off+12,none⟩=some (.int .i64 f.i)
theorem JP {l:List Fr} (h:dN w a (l.flatMap pO)) (k:Nat) (hk:k<l.length):∃b off,a=some ⟨b,off,none⟩∧VA w b (off+k*13) l[k]:=by
 obtain⟨b,off,ha,hc⟩:=h.elem eZ (by decide) k hk;exact⟨b,off,ha,hc 0 _ rfl,hc 1 _ rfl,hc 2 _ rfl,hc 3 _ rfl,hc 4 _ rfl,hc 5 _ rfl,hc 6 _ rfl,hc 7 _ rfl,hc 8 _ rfl,hc 9 _ rfl,hc 10 _ rfl,hc 11 _ rfl,hc 12 _ rfl⟩
theorem Fs (f:Fr) (b off:Nat) (w:World) (h:VA w b off f):Calls Tryz.prog 130 #[.pointer (some ⟨b,off,none⟩)] w fun e w'=>e = .returned (.int .i64 (dR f))∧w' = w:=by
 obtain⟨c0,c1,c2,c3,c4,c5,c6,c7,c8,c9,ca,cb,cc⟩:=h;have hE:∀W,(Op.equalIn 10000 79 (.agg #[.int .u8 f.p[0].toNat,.int .u8 f.p[1].toNat,.int .u8 f.p[2].toNat,.int .u8 f.p[3].toNat,.int .u8 f.p[4].toNat,.int .u8 f.p[5].toNat,.int .u8 f.p[6].toNat,.int .u8 f.p[7].toNat]) (.agg #[.int .u8 0,.int .u8 0,.int .u8 0,.int .u8 0,.int .u8 0,.int .u8 0,.int .u8 0,.int .u8 0])).run Tryz.prog W = .ok (f.p==zPg) W:=VC f.p zPg;go_enter func130,ntmps130;go_wp2
 all_goals go_ret
 all_goals refine⟨?_,rfl⟩
 all_goals clear c0 c1 c2 c3 c4 c5 c6 c7 c8 c9 ca cb cc hE
 all_goals go_light
 all_goals refine congrArg (fun z=>Ending.returned (.int .i64 z)) ?_
 all_goals simp only[dR,De,Fx,Ak,sP,dS,decide_eq_true_eq,ne_eq,bne_iff_ne]
 all_goals simp_all
 all_goals omega
theorem frame_info:(Tryz.prog.info? 81).map (fun i=>(i.zero,i.size,i.bytes))=some (some (.agg #[.int .u8 0,.int .u8 0,.int .u8 0,.int .u8 0,.int .u8 0,.int .u8 0,.int .u8 0,.int .u8 0,.int .i64 0,.bool false,.bool false,.int .i64 0,.int .i64 0]),13,40):=by kernel_rfl
theorem frame_size:(Tryz.prog.info? 81).map (·.size)=some 13:=by kernel_rfl
theorem KY (l:List Fr):(l.flatMap pO).length=l.length*13:=Pw.flat_len pO 13 eZ l
theorem oZ (f:Fr):(vK f).all (·.oneCell')=true:=by simp[vK,Value.oneCell']
theorem KD (l:List Fr):∀u∈l.flatMap pO,u.oneCell' = true:=by
 intro u hu;obtain⟨p,_,hp⟩:=jP.1 hu;simp only[pO,vK,bY,fI,or_false] at hp;rcases hp with rfl|rfl|rfl|rfl|rfl|rfl|rfl|rfl|rfl|rfl|rfl|rfl|rfl<;>rfl
theorem Ih (l:List Fr) (a:Option Addr) (c:Nat) (w:World) (hle:l.length≤c) (hnil:a=none→c=0) (hrd:dN w a (l.flatMap pO)) (hb:l.length*40≤140737488355328) :
  Calls Tryz.prog 114 #[.slice a l.length c] w fun e w' => ∃v,e = .returned v∧Own w' w.heap.size 81 13 v l.length (l.flatMap pO)∧Below w.heap.size w w':=by
 cases a with
 | none=>
  have h0:=hnil rfl;have hl:l=[]:=jO (by omega);subst hl;subst h0;have hq:=fun W=>lN (P:=Tryz.prog) W 26 _ none 0 0 0 0 underlying26;go_enter func114,ntmps114;go_wp2;go_ret;exact⟨_,rfl,by simpa using Own.nil _ _ _ _,Below.refl _ _⟩
 | some ad=>
  have hq:=fun W=>lN (P:=Tryz.prog) W 26 _ (some ad) l.length c 0 0 underlying26;go_enter func114,ntmps114
  go_wp2_with (at_builtin;go_must (refine eH rfl _ _ 26 rfl w.heap.size 81 (.agg #[.int .u8 0,.int .u8 0,.int .u8 0,.int .u8 0,.int .u8 0,.int .u8 0,.int .u8 0,.int .u8 0,.int .i64 0,.bool false,.bool false,.int .i64 0,.int .i64 0]) 13 40 underlying26 frame_info rfl (by decide) _ 0 [] rfl ?own (some ad) l.length c (l.flatMap pO) rfl (fun h=>(by cases h)) hle (KY l) ?rd (KD l) (by unfold maxLen;omega) (by simpa using hb) ?bb ?k))
  case own=>exact⟨rfl,.inr ⟨w.heap.size,0,0,#[],rfl,ay _,aC.new _ _ _,ay _,aS _,by simp,fun j u h=>by simp at h⟩⟩
  case rd=>exact hrd.below ((Below.refl _ _).alloc (ay _) _)
  case bb=>exact fU _ _
  intro v w1 hown hgr;go_wp2;go_ret;exact⟨v,rfl,by simpa using hown,((Below.refl _ _).alloc (ay _) _).grown hgr (fU _ _) (fun k hk=>by cases hk;exact ay _)⟩
structure QX (w:World) (a:Option Addr) (c:Nat) (m:Mem):Prop where
 le:m.fs.length≤c
 mx:c≤maxLen
 nil:a=none→c=0
 rd:dN w a (m.fs.flatMap pO)
theorem QX.below {m:Mem} (h:QX w a c m) (hb:Below w.heap.size w w'):QX w' a c m:={ h with rd:=h.rd.below hb }
theorem Cx {m:Mem} (h:Own w B 81 13 v m.fs.length (m.fs.flatMap pO)):∃a c,v = .slice a m.fs.length c∧QX w a c m:=by
 obtain⟨a,c,rfl,h1,h2,h3,h4⟩:=h.rd;exact⟨a,c,rfl,h1,h2,h3,h4⟩
theorem yf (m:Mem) (a:Option Addr) (c:Nat) (w:World) (h:QX w a c m) :
  Calls Tryz.prog 107 #[.agg #[.slice a m.fs.length c,.int .i64 m.hand]] w fun e w'=>e = .returned (.int .i64 (bK m))∧Below w.heap.size w w':=by
 have hl:=aX h.le h.mx;unfold maxLen at hl;go_enter func107,ntmps107;go_upto_region 1 with (fail);refine gI (fun W=>Code.wp _ _ _ _ W) fun W0 hb0 hx0 hs0 => ?_;clear hs0;have hcx:=hx0.cell;have h0:=h.below hb0
 by_cases h4:40<m.fs.length
 ·have hW:bK m=4:=by unfold bK;rw[if_pos h4]
  have h4' : (40:Int)<(m.fs.length:Int):=by omega
  go_wp2;go_ret;rw[hW];exact⟨rfl,hb0⟩
 have h4' : ¬(40:Int)<(m.fs.length:Int):=by omega
 go_wp2
 go_loopw [12] (fun i wr => ∃k:Nat,k≤m.fs.length∧i = .int .i64 k∧W0=wr∧∀i (h:i<m.fs.length),i<k→dR m.fs[i]=0) (fun i _=>m.fs.length-(intOf i).toNat)
 case atStart=>exact⟨0,aS _,rfl,rfl,fun i _ h=>absurd h (dO _)⟩
 case round=>
  obtain⟨k,hk,rfl,rfl,hno⟩:=hrel;have hno':=Lib.hid hno;clear hno
  by_cases hlt:k<m.fs.length
  ·obtain⟨b,off,rfl,hc⟩:=JP h0.rd k hlt;have hkz:(k:Int)<(m.fs.length:Int):=by omega
   by_cases he:dR m.fs[k]=0
   ·have he':=Lib.hid he;have hf:=Fs m.fs[k] b _ _ hc;rw[he] at hf;clear he hc
    go_wp2_with fail
    refine hf.mono ?_;rintro e w2 ⟨rfl,rfl⟩;go_wp2;go_roundw
    case rel=>exact⟨k+1,by omega,by go_num,trivial,lH hno'.out hlt he'.out⟩
    case measure=>simp[intOf];omega
   have hf:=Fs m.fs[k] b _ _ hc;have hW:bK m=dR m.fs[k]:=by have:=firstEf_at _ k hlt hno'.out he;unfold bK;rw[if_neg h4,this,if_pos he]
   have hn:(dR m.fs[k] != 0)=true:=by simpa using he
   clear hc;have hW':=Lib.hid hW;clear hW
   go_wp2_with fail
   refine hf.mono ?_;rintro e w2 ⟨rfl,rfl⟩;go_wp2;go_ret;rw[hW'.out];exact⟨rfl,hb0⟩
  have h0:firstEf m.fs=0:=firstEf_none _ (fun i hi=>hno'.out i hi (by omega));have hW:bK m=if m.hand<0∨(0<m.hand∧(m.fs.length:Int)≤m.hand) then 3 else 0:=by unfold bK;rw[if_neg h4,h0];rfl
  have hW':=Lib.hid hW;clear hW h0
  by_cases n1:m.hand<0
  ·go_wp2
   all_goals
    go_ret;rw[hW'.out,if_pos (.inl n1)];exact⟨rfl,hb0⟩
  by_cases n2:(0:Int)<m.hand
  ·by_cases n3:(m.fs.length:Int)≤m.hand
   ·go_wp2
    all_goals
     go_ret;rw[hW'.out,if_pos (.inr ⟨n2,n3⟩)];exact⟨rfl,hb0⟩
   go_wp2
   all_goals
    go_ret;rw[hW'.out,if_neg (by omega)];exact⟨rfl,hb0⟩
  go_wp2
  all_goals
   go_ret;rw[hW'.out,if_neg (by omega)];exact⟨rfl,hb0⟩
theorem mem_size:(Tryz.prog.info? 28).map (·.size)=some 2:=by kernel_rfl
theorem jc (a:Option Addr) (n c:Nat) (k:Int):(#[Value.slice a n c,.int .i64 k]:Array Value).all (·.oneCell')=true:=by simp[Value.oneCell']
theorem zH (a b:Option Addr) (n c m e:Nat) (k l:Int):(#[Value.slice a n c,.int .i64 k]:Array Value).size=(#[Value.slice b m e,.int .i64 l]:Array Value).size:=rfl
theorem QF (v u:Value):(Tryz.prog.info? 28).map (·.size)=some (#[v,u]:Array Value).size:=mem_size
def VV (B:Nat) (m:Mem):lX:=⟨fun v w => ∃vb,v = .agg #[vb,.int .i64 m.hand]∧Own w B 81 13 vb m.fs.length (m.fs.flatMap pO),fun _ _ _ hb ⟨vb,h1,h2⟩=>⟨vb,h1,h2.below hb⟩⟩
theorem CQ (m:Mem) (a:Option Addr) (c:Nat) (w:World) (h:QX w a c m) (h40:m.fs.length*40≤140737488355328) :
  Calls Tryz.prog 73 #[.agg #[.slice a m.fs.length c,.int .i64 m.hand]] w fun e w' => ∃vb,e = .returned (.agg #[vb,.int .i64 m.hand])∧Own w' w.heap.size 81 13 vb m.fs.length (m.fs.flatMap pO)∧Below w.heap.size w w':=by
 go_enter func73,ntmps73;go_upto_region 1 with (fail);refine qH (fun W=>Code.wp _ _ _ _ W) fun w0 hbel0 hblk hout hs0 => ?_;clear hs0;have h0:=h.below hbel0;refine aK 6 [_,_,.r 2 ((oq w.heap.size 81 13 m.fs.length (m.fs.flatMap pO))),_,_,.r 5 ((VV w.heap.size m))] (Gf w.heap.size 0 rfl rfl (Gl hblk (V:=.slice a m.fs.length c) (by simp[underlying26]) rfl rfl rfl rfl (ag ?_ (Gf w.heap.size 1 rfl rfl (Gl hblk (V:=.int .i64 m.hand) (by simp[underlying3]) rfl rfl rfl rfl (ag ?_ (aB))))))) (fun _=>rfl) rfl ?_
 ·intro ρ y W hw hn hb hd;have E4:=hw 4 1 rfl;have h1:y 1=_:=hd 1 rfl;have EF:∀f,ρ (.func f) = .func (.func f) #[] #[]:=fun f=>hn (.func f) trivial;refine aO _ _ (ah rfl) (aQ rfl (EF _) func114 (by kernel_rfl) (by kernel_rfl) (by simp only[bP,bM,bN,E4,h1,EF];rfl)) ?_;refine (Ih m.fs a c W h0.le h0.nil (h0.below hb).rd h40).mono ?_;rintro e w1 ⟨v,rfl,ho,hb1⟩;exact⟨v,rfl,hb1,ho.mono (aX hbel0.size hb.size)⟩
 ·intro ρ y W hw hn hb hd;have E5:=hw 5 2 rfl;have h2:=hd 2 rfl;have E7:=hw 7 4 rfl;have h4:y 4=_:=hd 4 rfl;obtain⟨x2,c2,e2,_⟩:=Own.rd h2;refine aj (.agg #[y 2,.int .i64 m.hand]) (ah rfl) (by simp[execOp,go_sem,E5,E7,h4,e2]) ?_;exact⟨_,rfl,h2⟩
 intro y WA hbWA hRWA;have hy2:((oq w.heap.size 81 13 m.fs.length (m.fs.flatMap pO))).r (y 2) WA:=hRWA 2 (by decide);have hy5:((VV w.heap.size m)).r (y 5) WA:=hRWA 5 (by decide);clear hRWA;obtain⟨vb,e5,ho⟩:=hy5;rw[e5];clear hy2 e5;have hbelA:=ae hbel0 hbWA;obtain⟨xb,cb',rfl,_⟩:=ho.rd;refine az rfl _ (.tmp 2) (.tmp 8) rfl (w.heap.size+1) _ rfl rfl _ _ (hout.ext hbWA) rfl mem_size (by simp[Value.oneCell']) ?_;intro w2 hq hgr;have hbel2:Below w.heap.size w w2:=hbelA.grown hgr hbelA.size (fun k hk=>by cases hk;omega);have hc:=hq.cell;go_wp2;simp[bodyPost,results,go_sem,results73,hc];exact⟨ak ho (hout.ext hbWA) (by decide) hgr,hbel2⟩
theorem ER (m:Mem) (a:Option Addr) (c:Nat) (w:World) (h:QX w a c m) :
  Calls Tryz.prog 124 #[.agg #[.slice a m.fs.length c,.int .i64 m.hand]] w fun e w'=>e = .returned (.int .i64 (mr m.fs))∧Below w.heap.size w w':=by
 have hl:=aX h.le h.mx;unfold maxLen at hl;go_enter func124,ntmps124;go_upto_region 1 with (fail);refine gI (fun W=>Code.wp _ _ _ _ W) fun W0 hb0 hx0 hs0 => ?_;have hcx:=hx0.cell;clear hs0;go_wp2;clear hcx hx0
 go_loopw [3,9] (fun s i wr => ∃(k n:Nat),k≤m.fs.length∧i = .int .i64 k∧s = .int .i64 n∧n≤k∧Below w.heap.size w wr∧Hid (mr (m.fs.take k)=n)) (fun _ i _=>m.fs.length-(intOf i).toNat)
 case atStart=>exact⟨0,0,aS _,rfl,rfl,ay _,hb0,Lib.hid rfl⟩
 case round=>
  obtain⟨k,n,hk,rfl,rfl,hn,hbel,hf⟩:=hrel
  by_cases hlt:k<m.fs.length
  ·obtain⟨b,off,rfl,hc⟩:=JP (h.below hbel).rd k hlt;obtain⟨c0,c1,c2,c3,c4,c5,c6,c7,c8,c9,ca,cb,cc⟩:=hc;have ht:=KX m.fs k hlt;rw[hf.out] at ht
   by_cases hr:m.fs[k].r=0
   ·rw[if_pos hr] at ht;have ht':=Lib.hid ht;have hrb:(m.fs[k].r==0)=true:=by simpa using hr
    clear ht hr;go_wp2;go_roundw
    case rel=>exact⟨k+1,n+1,by omega,by go_num,by go_num,by omega,hbel.alloc hbel.size _,ht'⟩
    case measure=>simp[intOf];omega
   rw[if_neg hr] at ht;have ht':=Lib.hid ht;have hrb:(m.fs[k].r==0)=false:=by simpa using hr
   clear ht hr;go_wp2;go_roundw
   case rel=>exact⟨k+1,n,by omega,by go_num,rfl,by omega,hbel.alloc hbel.size _,ht'⟩
   case measure=>simp[intOf];omega
  have hfin:Hid (mr m.fs=n):=by have:=hf.out;rw[iF (by omega)] at this;exact this
  go_wp2;go_ret;rw[hfin.out];exact⟨rfl,hbel⟩
theorem QG (n:Int) (w:World) :
  Calls Tryz.prog 96 #[.int .i64 n] w fun e w' => ∃vb,e = .returned (.tuple #[.agg #[vb,.int .i64 0],.int .i64 (NA n)])∧Own w' w.heap.size 81 13 vb (tV n).fs.length ((tV n).fs.flatMap pO)∧Below w.heap.size w w':=by
 have hres0:=aC.new w #[.slice none 0 0,.int .i64 0] 28;have hbel0:Below w.heap.size w (w.alloc (.cells #[.slice none 0 0,.int .i64 0] 28)):=(Below.refl _ _).alloc (ay _) _;unfold tV NA;go_enter func96,ntmps96
 by_cases hn:0≤n∧n≤40
 ·obtain⟨n,rfl⟩:=fE hn.1;rw[if_pos hn,if_pos hn];have n1:¬(40:Int)<(n:Int):=by omega
  have n2:n≤40:=by omega
  clear hn
  go_wp2_with (refine uk _ rfl (.tmp 13) (.tmp 13) 26 rfl pO 81 _ 13 40 fr0 eZ (by decide) underlying26 frame_info rfl .i64 .i64 n n n rfl rfl rfl rfl (by omega) (by unfold maxLen;omega) ?_)
  intro w2 ho hgr;have hres2:=hres0.grown hgr (by intro he;cases he);have hbel2:=hbel0.grown hgr hbel0.size (fun k hk=>by cases hk);clear hres0 hgr hbel0;have hlt2:w.heap.size+1<w2.heap.size:=by obtain⟨cs,hk⟩:=kM ho _ rfl;simpa using hk.lt
  go_upto_region 4 with (fail);refine gI (fun W=>Code.wp _ _ _ _ W) fun w3 hb3 hm3 hs3 => ?_;clear hs3;have hbel3:=ae hbel2 hb3;have hres3:=hres2.ext hb3;have ho3:=ho.below hb3;have hcm:=hm3.cell;clear hres2 ho hb3;go_wp2;clear hcm
  go_loopw [19] (fun i wr => ∃(k:Nat) (cur:List Fr),k≤n∧i = .int .i64 k∧Below w.heap.size w wr∧aC wr w.heap.size #[.slice none 0 0,.int .i64 0] 28∧aC wr w2.heap.size #[.slice (some ⟨w.heap.size+1,0,none⟩) n n,.int .i64 0] 28∧Own wr w.heap.size 81 13 (.slice (some ⟨w.heap.size+1,0,none⟩) n n) n (cur.flatMap pO)∧Hid (cur.length=n∧∀i,i<n→cur[i]?=some (if i<k then frZ else fr0))) (fun i _=>n-(intOf i).toNat)
  case atStart=>exact⟨0,List.replicate n fr0,aS _,rfl,hbel3,hres3,hm3,ho3.mono (by simp),Lib.hid ⟨by simp,fun i hi=>by simp[hi]⟩⟩
  case round=>
   clear hres3 hm3 ho3 hbel3;obtain⟨k,cur,hk,rfl,hbel,hres,hm,ho,hcur⟩:=hrel;have hcm:=hm.cell
   by_cases hlt:k<n
   ·have hlen:=hcur.out.1;have hkc:k<cur.length:=by omega
    have hk0:cur[k]'hkc=fr0:=by have:=hcur.out.2 k hlt;rw[aG hkc] at this;simpa using this
    obtain⟨g,off,cap,hv,hBg,hgl,⟨csg,hgb⟩,hcc,hfz,hset⟩:=wD eZ (by decide) hlen ho k hlt 11 (by decide) (.int .i64 (-1)) frZ (by rw[hk0];rfl);cases hv;have hcb:=hcc 11 (.int .i64 0) (by rw[hk0];rfl);simp only[ed] at hcb hfz hset;have hnew:Hid ((cur.set k frZ).length=n∧∀i,i<n→(cur.set k frZ)[i]?=some (if i<k+1 then frZ else fr0)):=by
     refine⟨by simp[hlen],fun i hi => ?_⟩;rw[mf]
     by_cases e:k=i
     ·subst e;simp[hkc]
     rw[if_neg e,hcur.out.2 i hi]
     by_cases h:i<k
     ·rw[if_pos h,if_pos (by omega)]
     ·rw[if_neg h,if_neg (by omega)]
    have hkz:(k:Int)<(n:Int):=by omega
    clear hk0 hcc hcur hlen ho;go_wp2;go_roundw
    case rel=>exact⟨k+1,cur.set k frZ,by omega,by go_num,hbel.setCell (by simp) _,hres.setCell_other _ _ (by simp),hm.setCell_other _ _ (by simp;omega),hset,hnew⟩
    case measure=>simp[intOf];omega
   have hcurn:Hid (cur=List.replicate n frZ):=by
    apply mK;intro i
    by_cases hi:i<n
    ·rw[hcur.out.2 i hi,if_pos (by omega)];simp[hi]
    ·rw[dI (by have:=hcur.out.1;omega),dI (by simp;omega)]
   go_wp2_with (refine az rfl _ (.tmp 2) (.tmp 28) rfl w.heap.size #[.slice (some ⟨w.heap.size+1,0,none⟩) n n,.int .i64 0] rfl rfl _ _ hres (zH _ _ _ _ _ _ _ _) (QF _ _) (jc _ _ _ _) ?_)
   intro w5 hr5 hgr5;have ho5:=ak ho hres (by decide) hgr5;have hbel5:=hbel.grown hgr5 hbel.size (fun k hk=>by cases hk;exact ay _);have hcr:=hr5.cell;go_wp2;simp[bodyPost,results,go_sem,results96,hcr];rw[hcurn.out] at ho5;exact⟨ho5,hbel5⟩
 rw[if_neg hn,if_neg hn];have h' : n<0∨40<n:=by omega
 clear hn;rcases h' with h|h
 all_goals
  go_wp2_with (refine az rfl _ (.tmp 2) (.tmp 12) rfl w.heap.size #[.slice none 0 0,.int .i64 0] rfl rfl _ _ hres0 rfl mem_size (jc _ _ _ _) ?_)
  all_goals
   intro w2 hr2 hgr;have hbel2:=hbel0.grown hgr hbel0.size (fun k hk=>by cases hk;exact ay _);have hcr:=hr2.cell;go_wp2;simp[bodyPost,results,go_sem,results96,hcr];exact⟨Own.nil _ _ _ _,hbel2⟩
theorem PQ (m:Mem) (k n:Int) (a:Option Addr) (c:Nat) (w:World) (h:QX w a c m) :
  Calls Tryz.prog 119 #[.agg #[.slice a m.fs.length c,.int .i64 m.hand],.int .i64 k,.int .i64 n] w fun e w' => ∃vb,e = .returned (.tuple #[.agg #[vb,.int .i64 (lC m k n).hand],.int .i64 (mV m k n)])∧Own w' w.heap.size 81 13 vb (lC m k n).fs.length ((lC m k n).fs.flatMap pO)∧Below w.heap.size w w':=by
 go_enter func119,ntmps119
 go_wp2_with fail
 refine qH (fun W=>Calls _ _ _ W _) fun W0 hb0 hbox0 hres0 hs0 => ?_;refine (yf m a c _ (h.below hb0)).mono ?_;rintro e w1 ⟨rfl,hb1⟩;have hbel1:=ae hb0 hb1;have hbox1:=hbox0.ext hb1;have hres1:=hres0.ext hb1;have h1:=h.below hbel1;clear hbox0 hres0 hb1 hb0 hs0;have hcb:=hbox1.cell
 by_cases hw:bK m=0
 ·obtain⟨hl40,hall,_,_⟩:=(eD m).1 hw;rw[hw]
  by_cases hk:k<0∨(m.fs.length:Int)≤k
  ·have q1:mV m k n=5:=by unfold mV;rw[if_neg (by omega),if_pos (by omega)]
   have q3:lC m k n=noM:=by unfold lC;rw[if_neg (by omega)]
   clear hall;rcases hk with hk|hk
   all_goals
    go_wp2_with (refine az rfl _ (.tmp 6) (.tmp 35) rfl (w.heap.size+1) #[.slice none 0 0,.int .i64 0] rfl rfl _ _ hres1 rfl mem_size (jc _ _ _ _) ?_)
    all_goals
     intro w5 hr5 hgr;have hbel5:=(hbel1).grown hgr (hbel1).size (fun k hk=>by cases hk;omega);have hcr:=hr5.cell;go_wp2;simp[bodyPost,results,go_sem,results119,hcr,q1,q3,noM];exact⟨Own.nil _ _ _ _,hbel5⟩
  obtain⟨k,rfl⟩:=fE (show 0≤k by omega);have hkl:k<m.fs.length:=by omega
  have hk1:¬(m.fs.length:Int)≤(k:Int):=by omega
  have hkz:(k:Int)<(m.fs.length:Int):=by omega
  obtain⟨⟨hr0,hr1,_⟩,_,_⟩:=(iD m.fs[k]).1 (hall _ (dP hkl));have hg:m.fs.getD (k:Int).toNat fr0=m.fs[k]:=by simp[hkl]
  clear hall hk;obtain⟨b,off,rfl,hc⟩:=JP h1.rd k hkl;have c8:=hc.c8
  by_cases hr:m.fs[k].r=0
  ·have q1:mV m k n=5:=by unfold mV;rw[if_neg (by omega),hg,if_pos (.inr (.inr hr))]
   have q3:lC m k n=noM:=by unfold lC;rw[if_neg (by omega)]
   have hrb:(m.fs[k].r==0)=true:=by simpa using hr
   clear hg
   go_wp2_with (refine az rfl _ (.tmp 6) (.tmp 35) rfl (w.heap.size+1) #[.slice none 0 0,.int .i64 0] rfl rfl _ _ hres1 rfl mem_size (jc _ _ _ _) ?_)
   all_goals
    intro w5 hr5 hgr;have hbel5:=(hbel1).grown hgr (hbel1).size (fun k hk=>by cases hk;omega);have hcr:=hr5.cell;go_wp2;simp[bodyPost,results,go_sem,results119,hcr,q1,q3,noM];exact⟨Own.nil _ _ _ _,hbel5⟩
  have hrb:(m.fs[k].r==0)=false:=by simpa using hr
  by_cases hn:n < -m.fs[k].r∨1000-m.fs[k].r<n
  ·have q1:mV m k n=3:=by unfold mV;rw[if_neg (by omega),hg,if_neg (by omega),if_pos hn]
   have q3:lC m k n=noM:=by unfold lC;rw[if_neg (by omega)]
   clear hg;rcases hn with hn|hn
   all_goals
    go_wp2_with (refine az rfl _ (.tmp 6) (.tmp 56) rfl (w.heap.size+1) #[.slice none 0 0,.int .i64 0] rfl rfl _ _ hres1 rfl mem_size (jc _ _ _ _) ?_)
    all_goals
     intro w5 hr5 hgr;have hbel5:=(hbel1).grown hgr (hbel1).size (fun k hk=>by cases hk;omega);have hcr:=hr5.cell;go_wp2;simp[bodyPost,results,go_sem,results119,hcr,q1,q3,noM];exact⟨Own.nil _ _ _ _,hbel5⟩
  have q1:mV m k n=0:=by unfold mV;rw[if_neg (by omega),hg,if_neg (by omega),if_neg hn]
  have q3:lC m k n=⟨m.fs.set k (jo m.fs[k] n),m.hand⟩:=by unfold lC;rw[if_pos q1,hg];rfl
  have Q1:=Lib.hid q1;have Q3:=Lib.hid q3;have n1:¬n < -m.fs[k].r:=by omega
  have n2:¬1000-m.fs[k].r<n:=by omega
  clear hg q1 q3 hn hr
  go_wp2_with fail
  refine (CQ m _ c _ h1 (by omega)).mono ?_;rintro e w2 ⟨vb,rfl,ho,hb2⟩;have hbel2:=ae hbel1 hb2;have hres2:=hres1.ext hb2;have hge1:=hbel1.size;have hgx:w.heap.size+2≤w1.heap.size:=by have:=hres1.lt;omega
  obtain⟨xb,cb',rfl,_⟩:=Cx ho;clear hcb hbox1 hres1 h1 hb2 hc c8;go_upto_region 9 with (fail);refine gI (fun W=>Code.wp _ _ _ _ W) fun w3 hb3 hm3 hs3 => ?_;have hbel3:=ae hbel2 hb3;have hres3:=hres2.ext hb3;have ho3:=ho.below hb3;have hgy:w.heap.size+2≤w2.heap.size:=by have:=hbel2.size;have:=hres2.lt;omega
  clear hres2 ho hb3 hs3;obtain⟨gb,offb,capb,hvb,hBb,hgl,⟨csg,hgb⟩,hcc,hfz,hset⟩:=wD eZ (by decide) rfl ho3 k hkl 8 (by decide) (.int .i64 (m.fs[k].r+n)) { m.fs[k] with r:=m.fs[k].r+n } rfl;cases hvb;have hc8:=hcc 8 (.int .i64 m.fs[k].r) rfl;have hcm:=hm3.cell;clear hcc;have hlt3:=hm3.lt;have hgm:w2.heap.size≠gb:=by intro e;subst e;unfold aC at hm3 hgb;rw[hm3] at hgb;cases hgb
  go_upto_region 11 with (fail);have hm4:=hm3.setCell_other ⟨gb,offb+k*13+8,none⟩ (.int .i64 (m.fs[k].r+n)) (by simpa using hgm);have hres4:=hres3.setCell_other ⟨gb,offb+k*13+8,none⟩ (.int .i64 (m.fs[k].r+n)) (by simp;omega);have hbel4:Below w.heap.size w (w3.setCell ⟨gb,offb+k*13+8,none⟩ (.int .i64 (m.fs[k].r+n))):=hbel3.setCell (by simp;omega) _;generalize w3.setCell ⟨gb,offb+k*13+8,none⟩ (.int .i64 (m.fs[k].r+n))=w4 at *
  clear hm3 hres3 hbel3 ho3 hgb hfz hc8 hcm hgl hlt3;have hls:(m.fs.set k { m.fs[k] with r:=m.fs[k].r+n }).length=m.fs.length:=by simp
  have hkl' : k<(m.fs.set k { m.fs[k] with r:=m.fs[k].r+n }).length:=by omega
  obtain⟨_,_,hv,_,_,_,hrd4⟩:=hset.rd;cases hv;obtain⟨_,_,hv,hc4⟩:=JP hrd4 k hkl';cases hv;rw[GR] at hc4;have c8:=hc4.c8;simp only at c8;clear hc4 hrd4;have hcm:=hm4.cell
  by_cases hz:m.fs[k].r+n=0
  ·have hhf:Hid (jo m.fs[k] n=frZ):=by unfold jo;exact if_pos hz
   obtain⟨_,_,_,curb,hv,_,hgb4,hfb,hsetb⟩:=kW eZ (by decide) hls hset k hkl;cases hv;rw[hz] at c8;clear hz hset
   go_wp2_with (refine fP rfl _ (.tmp 78) (.tmp 77) rfl gb (offb+k*13) (vK frZ) rfl rfl curb 81 hgb4 (by show _+13≤_;omega) frame_size (oZ _) ?_)
   intro w5 hq5 hgr5;have hB5:=hsetb w5 frZ hq5;rw[Gu] at hB5;have hm5:=bu hm4 hgb4 (by decide) hgr5;have hres5:=bu hres4 hgb4 (by decide) hgr5;have hbel5:Below w.heap.size w w5:=hbel4.grown hgr5 hbel4.size (fun k hk=>by cases hk;omega);clear hq5 hsetb hgb4 hm4 hres4 hcm c8 hgr5 hbel4;have hcm:=hm5.cell
   go_wp2_with (refine az rfl _ (.tmp 6) (.tmp 79) rfl (w.heap.size+1) #[.slice (some ⟨gb,offb,none⟩) m.fs.length cb',.int .i64 m.hand] rfl rfl _ _ hres5 (zH _ _ _ _ _ _ _ _) mem_size (jc _ _ _ _) ?_)
   intro w8 hr8 hgr8;have hB8:=ak hB5 hres5 (by decide) hgr8;have hbel8:=hbel5.grown hgr8 hbel5.size (fun k hk=>by cases hk;omega);have hcr:=hr8.cell;clear hcm;go_wp2;simp[bodyPost,results,go_sem,results119,hcr,Q1.out,Q3.out,hhf.out];exact⟨by have:=hB8.mono (show w.heap.size≤w1.heap.size from hge1);simpa using this,hbel8⟩
  have hhf:Hid (jo m.fs[k] n = { m.fs[k] with r:=m.fs[k].r+n }):=by unfold jo;exact if_neg hz
  have hzb:(m.fs[k].r+n==0)=false:=by simpa using hz
  clear hz
  go_wp2_with (refine az rfl _ (.tmp 6) (.tmp 79) rfl (w.heap.size+1) #[.slice (some ⟨gb,offb,none⟩) m.fs.length cb',.int .i64 m.hand] rfl rfl _ _ hres4 (zH _ _ _ _ _ _ _ _) mem_size (jc _ _ _ _) ?_)
  intro w8 hr8 hgr8;have hB8:=ak hset hres4 (by decide) hgr8;have hbel8:=hbel4.grown hgr8 hbel4.size (fun k hk=>by cases hk;omega);have hcr:=hr8.cell;clear hcm;go_wp2;simp[bodyPost,results,go_sem,results119,hcr,Q1.out,Q3.out,hhf.out];exact⟨by have:=hB8.mono (show w.heap.size≤w1.heap.size from hge1);simpa using this,hbel8⟩
 have q1:mV m k n=bK m:=by unfold mV;rw[if_pos hw]
 have q3:lC m k n=noM:=by unfold lC;rw[if_neg (by omega)]
 have hn:(bK m != 0)=true:=by simpa using hw
 go_wp2_with (refine az rfl _ (.tmp 6) (.tmp 15) rfl (w.heap.size+1) #[.slice none 0 0,.int .i64 0] rfl rfl _ _ hres1 rfl mem_size (jc _ _ _ _) ?_)
 all_goals
  intro w5 hr5 hgr;have hbel5:=(hbel1).grown hgr (hbel1).size (fun k hk=>by cases hk;omega);have hcr:=hr5.cell;go_wp2;simp[bodyPost,results,go_sem,results119,hcr,q1,q3,noM];exact⟨Own.nil _ _ _ _,hbel5⟩
theorem Po (m:Mem) (a:Option Addr) (c:Nat) (w:World) (h:QX w a c m) :
  Calls Tryz.prog 88 #[.agg #[.slice a m.fs.length c,.int .i64 m.hand]] w fun e w' => ∃vb,e = .returned (.tuple #[.agg #[vb,.int .i64 (fG m).hand],.int .i64 (iH m),.int .i64 (bK m)])∧Own w' w.heap.size 81 13 vb (fG m).fs.length ((fG m).fs.flatMap pO)∧Below w.heap.size w w':=by
 go_enter func88,ntmps88
 go_wp2_with fail
 refine qH (fun W=>Calls _ _ _ W _) fun W0 hb0 hbox0 hres0 hs0 => ?_;refine (yf m a c _ (h.below hb0)).mono ?_;rintro e w1 ⟨rfl,hb1⟩;have hbel1:=ae hb0 hb1;have hbox1:=hbox0.ext hb1;have hres1:=hres0.ext hb1;have h1:=h.below hbel1;clear hbox0 hres0 hb1 hb0 hs0;have hcb:=hbox1.cell
 by_cases hw:bK m=0
 ·obtain⟨hl40,hall,hh0,hh1⟩:=(eD m).1 hw;rw[hw]
  go_wp2_with fail
  refine (CQ m _ c _ h1 (by omega)).mono ?_;rintro e w2 ⟨vb,rfl,ho,hb2⟩;have hbel2:=ae hbel1 hb2;have hbox2:=hbox1.ext hb2;have hres2:=hres1.ext hb2;have h2:=h1.below hb2;have hge1:=hbel1.size;have hgx:w.heap.size+2≤w1.heap.size:=by have:=hres1.lt;omega
  have hgy:w.heap.size+2≤w2.heap.size:=by have:=hb2.size;omega
  obtain⟨xb,cb',rfl,_⟩:=Cx ho;clear hcb hbox1 hres1 h1 hb2;go_upto_region 5 with (fail);refine gI (fun W=>Code.wp _ _ _ _ W) fun w3 hb3 hm3 hs3 => ?_;have hbel3:=ae hbel2 hb3;have hbox3:=hbox2.ext hb3;have hres3:=hres2.ext hb3;have h3:=h2.below hb3;have ho3:=ho.below hb3;clear hbox2 hres2 h2 ho hb3 hs3
  by_cases hf:mr m.fs=m.fs.length
  ·have q2:fG m=m:=by unfold fG;rw[if_neg (by omega),if_pos hf]
   have q3:iH m = -1:=by unfold iH;rw[if_neg (by omega),if_pos hf]
   have hfb:((mr m.fs:Int)==(m.fs.length:Int))=true:=by simp[hf]
   have Q:=Lib.hid (And.intro q2 q3);clear q2 q3 hf hall;refine aK 6 [.v (.agg #[.slice a m.fs.length c,.int .i64 m.hand]),.v (.int .i64 (mr m.fs)),_,_,_,_] (ag ?_ (ag ?_ (Gf w.heap.size 0 rfl rfl (Gl hbox3 (V:=.slice a m.fs.length c) (by simp[underlying26]) rfl rfl rfl rfl (Gn rfl rfl rfl rfl (Gb (.bool true) (by simp[go_sem,hfb]) rfl rfl rfl rfl rfl (aB)) (underlying26)))))) (fun _=>rfl) rfl ?_
   ·intro ρ y W hw hn hb hd;have E1:ρ (.tmp 1) = .pointer (some ⟨w.heap.size,0,none⟩):=(hn (.tmp 1) rfl).trans rfl;refine aj (.agg #[.slice a m.fs.length c,.int .i64 m.hand]) (ah rfl) (by simp[execOp,go_sem,E1,(hbox3.ext hb).cell]) rfl
   ·intro ρ y W hw hn hb hd;have E17:=hw 17 0 rfl;have h0:y 0=_:=hd 0 rfl;have EF:∀f,ρ (.func f) = .func (.func f) #[] #[]:=fun f=>hn (.func f) trivial;refine aO _ _ (ah rfl) (aQ rfl (EF _) func124 (by kernel_rfl) (by kernel_rfl) (by simp only[bP,bM,bN,E17,h0,EF];rfl)) ?_;refine (ER m a c W (h3.below hb)).mono ?_;rintro e w1 ⟨rfl,hb1⟩;exact⟨_,rfl,hb1,rfl⟩
   intro y WA hbWA _;have hbelA:=ae hbel3 hbWA;have hresA:=hres3.ext hbWA;have hmA:=hm3.ext hbWA;have hoA:=ho3.below hbWA;clear hbox3 hres3 hm3 ho3 h3 hbWA;have hcm:=hmA.cell
   go_wp2_with (refine az rfl _ (.tmp 2) (.tmp 23) rfl (w.heap.size+1) #[.slice xb m.fs.length cb',.int .i64 m.hand] rfl rfl _ _ hresA (zH _ _ _ _ _ _ _ _) mem_size (jc _ _ _ _) ?_)
   intro w8 hr8 hgr8;have hB8:=ak hoA hresA (by decide) hgr8;have hbel8:=hbelA.grown hgr8 hbelA.size (fun k hk=>by cases hk;omega);have hcr:=hr8.cell;clear hcm;go_wp2;simp[bodyPost,results,go_sem,results88,hcr,Q.out.1,Q.out.2]
   first
    | exact⟨hB8.mono hge1,hbel8⟩
    | exact⟨_,⟨rfl,rfl⟩,hB8.mono hge1,hbel8⟩
    | exact⟨_,⟨rfl,hw.symm⟩,hB8.mono hge1,hbel8⟩
  obtain⟨hS1,hS2,hS3⟩:=SB m hw hf;have q2:fG m=⟨nN m (gZ m),(iP m (gZ m+1):Nat)⟩:=by unfold fG;rw[if_neg (by omega),if_neg hf]
  have q3:iH m=(iP m (gZ m):Nat):=by unfold iH;rw[if_neg (by omega),if_neg hf]
  have hfb:((mr m.fs:Int)==(m.fs.length:Int))=false:=by simpa using (by omega:¬(mr m.fs:Int)=m.fs.length)
  have hpos:0<m.fs.length:=by
   rcases si m.fs.length with h0|h0
   ·exact absurd (by have:=CW m.fs;omega) hf
   ·exact h0
  have Q:=Lib.hid (And.intro q2 (And.intro q3 (And.intro hS1 (And.intro hS2 hS3))));clear q2 q3 hf hall hS1 hS2 hS3;refine aK 6 [.v (.agg #[.slice a m.fs.length c,.int .i64 m.hand]),.v (.int .i64 (mr m.fs)),_,_,_,_] (ag ?_ (ag ?_ (Gf w.heap.size 0 rfl rfl (Gl hbox3 (V:=.slice a m.fs.length c) (by simp[underlying26]) rfl rfl rfl rfl (Gn rfl rfl rfl rfl (Gb (.bool false) (by simp[go_sem,hfb]) rfl rfl rfl rfl rfl (aB)) (underlying26)))))) (fun _=>rfl) rfl ?_
  ·intro ρ y W hw hn hb hd;have E1:ρ (.tmp 1) = .pointer (some ⟨w.heap.size,0,none⟩):=(hn (.tmp 1) rfl).trans rfl;refine aj (.agg #[.slice a m.fs.length c,.int .i64 m.hand]) (ah rfl) (by simp[execOp,go_sem,E1,(hbox3.ext hb).cell]) rfl
  ·intro ρ y W hw hn hb hd;have E17:=hw 17 0 rfl;have h0:y 0=_:=hd 0 rfl;have EF:∀f,ρ (.func f) = .func (.func f) #[] #[]:=fun f=>hn (.func f) trivial;refine aO _ _ (ah rfl) (aQ rfl (EF _) func124 (by kernel_rfl) (by kernel_rfl) (by simp only[bP,bM,bN,E17,h0,EF];rfl)) ?_;refine (ER m a c W (h3.below hb)).mono ?_;rintro e w1 ⟨rfl,hb1⟩;exact⟨_,rfl,hb1,rfl⟩
  intro y WA hbWA _;have hbelA:=ae hbel3 hbWA;have hresA:=hres3.ext hbWA;have hmA:=hm3.ext hbWA;have hoA:=ho3.below hbWA;clear hbox3 hres3 hm3 ho3 h3 hbWA;have hst:Hid (m.hand=(iP m 0:Nat)):=by show m.hand=(iP m 0:Nat);unfold iP;rw[gM,qh (by omega)];omega
  rw[hst.out] at hmA;clear hst;go_wp2
  go_loopg [7] (2*m.fs.length) (fun gg s7 wr => ∃s:Nat,Hid (s≤gZ m)∧2*m.fs.length-s≤gg∧Below w.heap.size w wr∧aC wr w2.heap.size #[.slice xb m.fs.length cb',.int .i64 (iP m s)] 28∧aC wr (w.heap.size+1) #[.slice none 0 0,.int .i64 0] 28∧Own wr w.heap.size 81 13 (.slice xb m.fs.length cb') m.fs.length ((nN m s).flatMap pO))
  case atStart=>exact⟨0,Lib.hid (aS _),by omega,hbelA,hmA,hresA,by rw[Ry];exact hoA.mono hge1⟩
  case round=>
   clear hbelA hmA hresA hoA;obtain⟨s,hs,hgg,hbel,hm,hres,ho⟩:=hrel;obtain⟨k,hk⟩:∃k,k=iP m s:=⟨_,rfl⟩;have hkl:k<m.fs.length:=by rw[hk];exact nY hpos s
   have hnx:((k:Int)+1)%(m.fs.length:Int)=(iP m (s+1):Nat):=by
    have h1:iP m (s+1)=(k+1)%m.fs.length:=by rw[hk];unfold iP;rw[Nat.mod_add_mod,mU]
    rw[h1,show (k:Int)+1=((k+1:Nat):Int) from by simp,←IE]
   have hlk:k<(nN m s).length:=by rw[iJ];exact hkl
   have hstop:vY m s=(decide (0<((nN m s)[k]'hlk).r)&&!((nN m s)[k]'hlk).u):=by subst hk;exact Td m s hpos
   have hsucc:Hid ((nN m s).set k (unused ((nN m s)[k]'hlk))=nN m (s+1)):=by subst hk;exact Sb m s hpos
   rw[←hk] at hm;have hk':=Lib.hid hk;clear hk;have hcm:=hm.cell;have hfm:=hm.free;have hl0:((m.fs.length:Int)==0)=false:=beq_eq_false_iff_ne.2 (by omega);have hl1:¬(m.fs.length:Int)=0:=by omega
   have hlm:=hm.lt;have hst':=Lib.hid hstop;clear hstop;go_upto_region 9 with (fail);have hm5:=hm.setCell 1 (.int .i64 (iP m (s+1):Nat));have hres5:=hres.setCell_other ⟨w2.heap.size,1,none⟩ (.int .i64 (iP m (s+1):Nat)) (by simp;omega);have ho5:=uN ho hm (by decide) 1 (.int .i64 (iP m (s+1):Nat));have hbel5:Below w.heap.size w (wr.setCell ⟨w2.heap.size,1,none⟩ (.int .i64 (iP m (s+1):Nat))):=hbel.setCell (by simp;omega) _;generalize wr.setCell ⟨w2.heap.size,1,none⟩ (.int .i64 (iP m (s+1):Nat))=w5 at *
   have hm5' : aC w5 w2.heap.size #[.slice xb m.fs.length cb',.int .i64 (iP m (s+1):Nat)] 28:=hm5;clear hm hcm hfm hres ho hbel hm5 hlm hnx hl0 hl1;have hcm:=hm5'.cell;obtain⟨g,off,cap,hv,hBg,hgl,⟨csg,hgb⟩,hcc,hfz,hset⟩:=wD eZ (by decide) (iJ m s) ho5 k hkl 9 (by decide) (.bool false) (unused ((nN m s)[k]'hlk)) rfl;cases hv;generalize hF:(nN m s)[k]'hlk=F at *
   have c8:=hcc 8 (.int .i64 F.r) rfl;have c9:=hcc 9 (.bool F.u) rfl;have hkz:(k:Int)<(m.fs.length:Int):=by omega
   clear hcc hF;have hgm:w2.heap.size≠g:=by intro e;subst e;unfold aC at hm5' hgb;rw[hm5'] at hgb;cases hgb
   have hgw:g≠w.heap.size+1:=by intro e;subst e;unfold aC at hres5 hgb;rw[hres5] at hgb;cases hgb
   by_cases hr:0<F.r
   ·cases hu:F.u with
    | true=>
     rw[hu] at c9;have hnot:Hid (s+1≤gZ m):=by
      have h1:=hst'.out;rw[hu] at h1;have h2:s≠gZ m:=by intro e;rw[e,Q.out.2.2.2.1] at h1;simp at h1
      have:=hs.out;show s+1≤gZ m;omega
     clear hu;go_wp2
     go_roundg (2*m.fs.length-(s+1))
     case measure=>have:=hnot.out;have:=Q.out.2.2.1;omega
     case rel=>exact⟨s+1,hnot,ay _,hbel5.setCell (by simp;omega) _,hm5'.setCell_other _ _ (by simpa using hgm),hres5.setCell_other _ _ (by simp;omega),by rw[←hsucc.out];exact hset⟩
    | false=>
     rw[hu] at c9;have hS:Hid (s=gZ m):=by
      have h1:=hst'.out;rw[hu] at h1;have h2:vY m s=true:=by rw[h1];simp[hr]
      have:=hs.out;rcases fA s (gZ m) with h|h
      ·rw[Q.out.2.2.2.2 s h] at h2;cases h2
      ·show s=gZ m;omega
     clear hu hset hsucc
     go_wp2_with (refine az rfl _ (.tmp 2) (.tmp 50) rfl (w.heap.size+1) #[.slice (some ⟨g,off,none⟩) m.fs.length cb',.int .i64 (iP m (s+1):Nat)] rfl rfl _ _ hres5 (zH _ _ _ _ _ _ _ _) mem_size (jc _ _ _ _) ?_)
     intro w8 hr8 hgr8;have hB8:=ak ho5 hres5 (by decide) hgr8;have hbel8:=hbel5.grown hgr8 hbel5.size (fun k hk=>by cases hk;omega);have hcr:=hr8.cell;clear hcm;go_wp2;have hS':=hS.out;rw[←hS'] at Q;simp[bodyPost,results,go_sem,results88,hcr,Q.out.1,Q.out.2.1,hw,hk'.out];exact⟨by rw[iJ];exact hB8,hbel8⟩
   have hnot:Hid (s+1≤gZ m):=by
    have h1:=hst'.out;have h2:s≠gZ m:=by intro e;rw[e,Q.out.2.2.2.1] at h1;simp[hr] at h1
    have:=hs.out;show s+1≤gZ m;omega
   go_wp2
   go_roundg (2*m.fs.length-(s+1))
   case measure=>have:=hnot.out;have:=Q.out.2.2.1;omega
   case rel=>exact⟨s+1,hnot,ay _,hbel5.setCell (by simp;omega) _,hm5'.setCell_other _ _ (by simpa using hgm),hres5.setCell_other _ _ (by simp;omega),by rw[←hsucc.out];exact hset⟩
 have q2:fG m=noM:=by unfold fG;rw[if_pos hw]
 have q3:iH m=0:=by unfold iH;rw[if_pos hw]
 have hn:(bK m != 0)=true:=by simpa using hw
 go_wp2_with (refine az rfl _ (.tmp 2) (.tmp 13) rfl (w.heap.size+1) #[.slice none 0 0,.int .i64 0] rfl rfl _ _ hres1 rfl mem_size (jc _ _ _ _) ?_)
 intro w5 hr5 hgr;have hbel5:=hbel1.grown hgr hbel1.size (fun k hk=>by cases hk;omega);have hcr:=hr5.cell;go_wp2;simp[bodyPost,results,go_sem,results88,hcr,q2,q3,noM];exact⟨Own.nil _ _ _ _,hbel5⟩
theorem bB (ho:o.op = .load ty x) (hx:ρ x = .pointer (some ⟨b,off,none⟩)) (hrd:dN w (some ⟨b,off,none⟩) vs)
 (hu:P.underlying ty=some d) (hd:aggB d=true) (hi:(P.info? ty).map (·.size)=some vs.length):(execOp ρ o).run P w = .ok (.value (.agg vs.toArray)) w:=by
 unfold execOp;simp only[ho,hx,Instr.loadAt,Instr.sureAddr,ko,rE,qJ,jN hrd hu hd hi]
def jk (e:En):Array Value:=#[.int .i64 e.k,.int .i64 e.n,.bool e.w]
def kP (e:En):List Value:=(jk e).toList
theorem eY (e:En):(kP e).length=3:=rfl
structure EE (w:World) (cs:Array Value) (t:Tb):Prop where
 sz:cs.size=8
 at' : ∀k (h:k<8),∃a c,cs[k]?=some (.slice a t[k].length c)∧t[k].length≤c∧c≤maxLen∧(a=none→c=0)∧dN w a (t[k].flatMap kP)
theorem EE.below {t:Tb} (h:EE w cs t) (hb:Below w.heap.size w w'):EE w' cs t:=
 ⟨h.sz,fun k hk=>by obtain⟨a,c,h1,h2,h3,h4,h5⟩:=h.at' k hk;exact⟨a,c,h1,h2,h3,h4,h5.below hb⟩⟩
theorem EE.one {t:Tb} (h:EE w cs t):cs.all (·.oneCell')=true:=by
 rw[Array.all_eq_true];intro i hi;obtain⟨a,c,h1,_⟩:=h.at' i (by have:=h.sz;omega);rw[za hi] at h1;rw[aJ h1];rfl
theorem Cf (h:k<8) (hv:cs[k]?=some v) (w:World):(Instr.index 53 (.agg cs) (.int .i64 k)).run Tryz.prog w = .ok v w:=
 Dc underlying53 underlying51 Ud (by kernel_rfl) _ k _ h hv _ w
theorem tab_agg:aggB (.array 8 51)=true:=rfl
theorem tab_size:(Tryz.prog.info? 53).map (·.size)=some 8:=by kernel_rfl
theorem EZ {l:List En} (h:dN w a (l.flatMap kP)) (k:Nat) (hk:k<l.length):∃b off,a=some ⟨b,off,none⟩∧w.cell? ⟨b,off+k*3,none⟩=some (.int .i64 l[k].k)∧w.cell? ⟨b,off+k*3+1,none⟩=some (.int .i64 l[k].n)∧w.cell? ⟨b,off+k*3+2,none⟩=some (.bool l[k].w):=by
 obtain⟨b,off,ha,hc⟩:=h.elem eY (by decide) k hk;exact⟨b,off,ha,hc 0 _ rfl,hc 1 _ rfl,hc 2 _ rfl⟩
theorem EY (e:En) (w:World):Calls Tryz.prog 138 #[.agg #[.int .i64 e.k,.int .i64 e.n,.bool e.w]] w fun r w'=>r = .returned (.int .i64 (eQ e))∧Below w.heap.size w w':=by
 go_enter func138,ntmps138;go_wp2
 all_goals go_ret
 all_goals refine⟨?_,(Below.refl _ _).alloc (ay _) _⟩
 all_goals go_light
 all_goals refine congrArg (fun z=>Ending.returned (.int .i64 z)) ?_
 all_goals simp only[eQ]
 all_goals simp_all
 all_goals omega
theorem Dj (t:Tb) (cs:Array Value) (w:World) (h:EE w cs t):Calls Tryz.prog 112 #[.agg cs] w fun r w'=>r = .returned (.int .i64 (cK t))∧Below w.heap.size w w':=by
 go_enter func112,ntmps112;go_upto_region 1 with (fail);refine gI (fun W=>Code.wp _ _ _ _ W) fun W0 hb0 hx0 hs0 => ?_;clear hs0
 go_wp2_with (refine fQ rfl 53 (.tmp 1) rfl w.heap.size 0 rfl cs.toList hx0.rd _ underlying53 tab_agg (by rw[iC,h.sz];exact tab_size) ?_)
 clear hx0
 go_loopw [10] (fun i wr => ∃k:Nat,k≤8∧i = .int .i64 k∧Below w.heap.size w wr∧∀i (hi:i<8),i<k→lD t[i]=0) (fun i _=>8-(intOf i).toNat)
 case atStart=>exact⟨0,aS _,rfl,hb0,fun i _ h=>absurd h (dO _)⟩
 case round=>
  obtain⟨k,hk,rfl,hbr,hp0⟩:=hrel;have hp:=Lib.hid hp0;clear hp0 hb0
  by_cases hlt:k<8
  ·obtain⟨a,c,hcs,hle,hmx,hnil,hrd⟩:=h.at' k hlt;have hix:=fun W=>Cf hlt hcs W;have hd8:decide ((k:Int)<8)=true:=by simp;omega
   unfold maxLen at hmx;clear hcs
   by_cases h08:t[k].length=0∨t[k].length=8
   ·have H08:=Lib.hid h08;have q1:((t[k].length:Int) != 0)=true∧((t[k].length:Int) != 8)=false∨((t[k].length:Int) != 0)=false∧((t[k].length:Int) != 8)=true:=by rcases h08 with e|e<;>simp[e]
    clear h08;rcases q1 with ⟨q1,q2⟩|⟨q1,q2⟩
    all_goals
     go_wp2;clear hix
     go_loopw [23,5] (fun i s wr' => ∃j:Nat,j≤t[k].length∧i = .int .i64 j∧s = .bool (xE t[k] j)∧Below w.heap.size w wr'∧∀i (hi:i<t[k].length),i<j→eQ t[k][i]=0) (fun i _ _=>t[k].length-(intOf i).toNat)
     case atStart=>exact⟨0,aS _,rfl,rfl,hbr,fun i _ h=>absurd h (dO _)⟩
     case round=>
      obtain⟨j,hj,rfl,rfl,hbq,hq0⟩:=hrel;have hq:=Lib.hid hq0;clear hq0 hbr
      by_cases hjl:j<t[k].length
      ·obtain⟨b,off,rfl,c0,c1,c2⟩:=EZ (hrd.below hbq) j hjl
       go_wp2_with fail
       refine gI (fun W=>Calls _ _ _ W _) fun W3 hb3 hx3 hs3 => ?_;have hbel3:=ae hbq hb3;clear hbq hs3 c0 c1 c2 hb3;refine (EY t[k][j] _).mono ?_;rintro e w4 ⟨rfl,hb4⟩;have hbel4:=ae hbel3 hb4;have hx4:=(hx3.ext hb4).cell;clear hx3 hb4 hbel3
       by_cases he:eQ t[k][j]=0
       ·have hen:=Fz t[k] j hjl;have he':=Lib.hid he;rw[he];clear he;cases hs:xE t[k] j
        all_goals
         rw[hs] at hen;go_wp2;go_roundw
         case rel=>exact⟨j+1,by omega,by go_num,by rw[hen];first | rfl | (congr 1;rw[lS];simp),hbel4,lH hq.out hjl he'.out⟩
         case measure=>simp[intOf];omega
       have he2:(eQ t[k][j] != 0)=true:=by simpa using he
       have hfin:=Lib.hid (qF k hlt hp.out (by rw[ze H08.out j hjl hq.out he];exact he));have hfin2:=Lib.hid (ze H08.out j hjl hq.out he);go_wp2;go_ret;exact⟨aR (hfin.out.trans hfin2.out).symm,hbel4⟩
      have hend:=Lib.hid (wH H08.out fun i hi=>hq.out i hi (by omega));have hall:=Lib.hid (Ko t[k] j (by omega))
      by_cases hgo:0<t[k].length∧xE t[k] j=false
      ·obtain⟨g1,g2⟩:=hgo;have hfin2:=Lib.hid (hend.out.trans (if_pos ⟨g1,hall.out▸g2⟩));have hfin:=Lib.hid (qF k hlt hp.out (by rw[hfin2.out];decide));rw[g2];go_wp2;go_ret;exact⟨aR (hfin.out.trans hfin2.out).symm,hbq⟩
      have hfin2:=Lib.hid (hend.out.trans (if_neg (fun h=>hgo ⟨h.1,hall.out.trans h.2⟩)));have hgo2:¬0<t[k].length∨0<t[k].length∧xE t[k] j=true:=by
       by_cases hz:0<t[k].length
       ·exact .inr ⟨hz,by simpa[hz] using hgo⟩
       ·exact .inl hz
      clear hgo;rcases hgo2 with g1|⟨g1,g2⟩
      ·go_wp2;go_roundw
       case rel=>exact⟨k+1,by omega,by go_num,hbq,lH hp.out hlt hfin2.out⟩
       case measure=>simp[intOf];omega
      rw[g2];go_wp2;go_roundw
      case rel=>exact⟨k+1,by omega,by go_num,hbq,lH hp.out hlt hfin2.out⟩
      case measure=>simp[intOf];omega
   have q1:((t[k].length:Int) != 0)=true:=by rw[bne_iff_ne];omega
   have q2:((t[k].length:Int) != 8)=true:=by rw[bne_iff_ne];omega
   have hfin2:=Lib.hid (yl (h:=t[k]) (by omega));have hfin:=Lib.hid (qF k hlt hp.out (by rw[hfin2.out];decide));go_wp2;go_ret;exact⟨aR (hfin.out.trans hfin2.out).symm,hbr⟩
  have hfin:=Lib.hid (vS fun i hi=>hp.out i hi (by omega));go_wp2;go_ret;exact⟨aR hfin.out.symm,hbr⟩
theorem entry_info:(Tryz.prog.info? 89).map (fun i=>(i.zero,i.size,i.bytes))=some (some (.agg #[.int .i64 0,.int .i64 0,.bool false]),3,24):=by kernel_rfl
theorem sI (l:List En):(l.flatMap kP).length=l.length*3:=Pw.flat_len kP 3 eY l
theorem iL (f:En):(jk f).all (·.oneCell')=true:=by simp[jk,Value.oneCell']
theorem Bo (l:List En):∀u∈l.flatMap kP,u.oneCell' = true:=by
 intro u hu;obtain⟨f,_,hf⟩:=jP.1 hu;have:=iL f;rw[←ky,dL] at this;exact this u hf
theorem EA (l:List En) (a:Option Addr) (c:Nat) (w:World) (hle:l.length≤c) (hnil:a=none→c=0) (hrd:dN w a (l.flatMap kP)) (hb:l.length*24≤140737488355328) :
  Calls Tryz.prog 117 #[.slice a l.length c] w fun e w' => ∃v,e = .returned v∧Own w' w.heap.size 89 3 v l.length (l.flatMap kP)∧Below w.heap.size w w':=by
 cases a with
 | none=>
  have h0:=hnil rfl;have hl:l=[]:=jO (by omega);subst hl;subst h0;have hq:=fun W=>lN (P:=Tryz.prog) W 51 _ none 0 0 0 0 underlying51;go_enter func117,ntmps117;go_wp2;go_ret;exact⟨_,rfl,by simpa using Own.nil _ _ _ _,Below.refl _ _⟩
 | some ad=>
  have hq:=fun W=>lN (P:=Tryz.prog) W 51 _ (some ad) l.length c 0 0 underlying51;go_enter func117,ntmps117
  go_wp2_with (at_builtin;go_must (refine eH rfl _ _ 51 rfl w.heap.size 89 (.agg #[.int .i64 0,.int .i64 0,.bool false]) 3 24 underlying51 entry_info rfl (by decide) _ 0 [] rfl ?own (some ad) l.length c (l.flatMap kP) rfl (fun h=>(by cases h)) hle (sI l) ?rd (Bo l) (by unfold maxLen;omega) (by simpa using hb) ?bb ?k))
  case own=>exact⟨rfl,.inr ⟨w.heap.size,0,0,#[],rfl,ay _,aC.new _ _ _,ay _,aS _,by simp,fun j u h=>by simp at h⟩⟩
  case rd=>exact hrd.below ((Below.refl _ _).alloc (ay _) _)
  case bb=>exact fU _ _
  intro v w1 hown hgr;go_wp2;go_ret;exact⟨v,rfl,by simpa using hown,((Below.refl _ _).alloc (ay _) _).grown hgr (fU _ _) (fun k hk=>by cases hk;exact ay _)⟩
structure qD (w:World) (B:Nat) (cs:Array Value) (t:Tb):Prop where
 sz:cs.size=8
 own:∀k (h:k<8),∃v,cs[k]?=some v∧Own w B 89 3 v t[k].length (t[k].flatMap kP)
 apart:∀(j k:Nat) (v u:Value),j<k→cs[j]?=some v→cs[k]?=some u→∀g,v.ownBlock=some g→u.ownBlock≠some g
theorem qD.rd {t:Tb} (h:qD w B cs t):EE w cs t:=
 ⟨h.sz,fun k hk=>by obtain⟨v,h1,h2⟩:=h.own k hk;obtain⟨a,c,rfl,h3,h4,h5,h6⟩:=h2.rd;exact⟨a,c,h1,h3,h4,h5,h6⟩⟩
theorem qD.below {t:Tb} (h:qD w B cs t) (hb:Below w.heap.size w w'):qD w' B cs t:=
 ⟨h.sz,fun k hk=>by obtain⟨v,h1,h2⟩:=h.own k hk;exact⟨v,h1,h2.below hb⟩,h.apart⟩
theorem qD.mono {t:Tb} (h:qD w B cs t) (hB:B'≤B):qD w B' cs t:=
 ⟨h.sz,fun k hk=>by obtain⟨v,h1,h2⟩:=h.own k hk;exact⟨v,h1,h2.mono hB⟩,h.apart⟩
theorem qD.keep {t:Tb} (h:qD w B cs t) (hk:aC w g cs' T) (hT:T≠89) (hgr:w.grownBy w' (some g)):qD w' B cs t:=
 ⟨h.sz,fun k hk'=>by obtain⟨v,h1,h2⟩:=h.own k hk'; exact⟨v,h1,ak h2 hk hT hgr⟩,h.apart⟩
structure SX (w:World) (B:Nat) (cs ca:Array Value) (t:Tb) (k:Nat):Prop where
 sz:ca.size=8
 old:∀i,k≤i→ca[i]?=cs[i]?
 own:∀i (h:i<8),i<k→∃v,ca[i]?=some v∧Own w B 89 3 v t[i].length (t[i].flatMap kP)
 apart:∀(j i:Nat) (v u:Value),j<i→i<k→ca[j]?=some v→ca[i]?=some u→∀g,v.ownBlock=some g→u.ownBlock≠some g
theorem SX.start {t:Tb} (h:cs.size=8):SX w B cs cs t 0:=⟨h,fun _ _=>rfl,fun _ _ h=>absurd h (dO _),fun _ _ _ _ _ h=>absurd h (dO _)⟩
theorem Lh (h:Own w B e sz v n xs) (g:Nat) (hg:v.ownBlock=some g):g<w.heap.size:=by
 obtain⟨cs,hb⟩:=kM h g hg;exact hb.lt
theorem SX.step {t:Tb} (h:SX w B cs ca t k) (hB:B≤w.heap.size) (hk:k<8) (hb:Below w.heap.size w w4) (ho:Own w4 w.heap.size 89 3 v t[k].length (t[k].flatMap kP))
 (hblk:aC w4 b ca T) (hT:T≠89) (hg:w4.grownBy w5 (some b)):SX w5 B cs (ca.setIfInBounds k v) t (k+1) where
 sz:=by simp[h.sz]
 old:=fun i hi=>by rw[fK (by omega)];exact h.old i (by omega)
 own:=fun i hi hik=>by
  by_cases e:i=k
  ·subst e;exact⟨v,by rw[qP (by rw[h.sz];exact hi)],ak (ho.mono hB) hblk hT hg⟩
  obtain⟨u,h1,h2⟩:=h.own i hi (by omega);exact⟨u,by rw[fK (by omega)];exact h1,ak (h2.below hb) hblk hT hg⟩
 apart:=fun j i x y hji hi hx hy g hgx hgy=>by
  have hjk:j≠k:=by omega
  rw[fK (by omega)] at hx
  by_cases e:i=k
  ·subst e;rw[qP (by rw[h.sz];exact hk)] at hy;cases hy;have h1:=ho.ge g hgy;obtain⟨u,h2,h3⟩:=h.own j (by omega) (by omega);rw[h2] at hx;cases hx;have:=Lh h3 g hgx;omega
  rw[fK (by omega)] at hy;exact h.apart j i x y hji (by omega) hx hy g hgx hgy
theorem SX.fin {t:Tb} (h:SX w B cs ca t 8):qD w B ca t:=
 ⟨h.sz,fun k hk=>h.own k hk hk,fun j k v u hjk h1 h2=>h.apart j k v u hjk (by
  rcases fA k 8 with hk|hk
  ·exact hk
  ·rw[kX (by rw[h.sz];exact hk)] at h2;cases h2) h1 h2⟩
theorem Jp (t:Tb) (cs:Array Value) (w:World) (h:EE w cs t) (hz:Ey t):Calls Tryz.prog 77 #[.agg cs] w fun r w' => ∃cs',r = .returned (.agg cs')∧qD w' w.heap.size cs' t∧Below w.heap.size w w':=by
 go_enter func77,ntmps77;go_upto_region 1 with (fail);refine qH (fun W=>Code.wp _ _ _ _ W) fun W0 hb0 hx0 hres0 hs0 => ?_;clear hs0
 go_wp2_with (refine fQ rfl 53 (.tmp 1) rfl w.heap.size 0 rfl cs.toList hx0.rd _ underlying53 tab_agg (by rw[iC,h.sz];exact tab_size) ?_)
 have hM0:SX W0 w.heap.size cs cs t 0:=SX.start h.sz
 go_loopw [6] (fun i wr => ∃(k:Nat) (ca:Array Value),k≤8∧i = .int .i64 k∧Below w.heap.size w wr∧aC wr w.heap.size ca 53∧aC wr (w.heap.size+1) #[.slice none 0 0,.slice none 0 0,.slice none 0 0,.slice none 0 0,.slice none 0 0,.slice none 0 0,.slice none 0 0,.slice none 0 0] 53∧SX wr w.heap.size cs ca t k) (fun i _=>8-(intOf i).toNat)
 case atStart=>exact⟨0,cs,aS _,rfl,hb0,hx0,hres0,hM0⟩
 case round=>
  obtain⟨k,ca,hk,rfl,hbr,hx,hres,hM⟩:=hrel;clear hb0 hx0 hres0 hM0
  by_cases hlt:k<8
  ·obtain⟨a,c,hcs,hle,hmx,hnil,hrd⟩:=h.at' k hlt;have hix:=fun W=>Cf hlt hcs W;have hd8:decide ((k:Int)<8)=true:=by simp;omega
   have hca:=(hM.old k (ay _)).trans hcs;have HCA:=Lib.hid hca;clear hca hcs
   go_wp2_with fail
   refine (EA t[k] a c _ hle hnil (hrd.below hbr) (hz k hlt)).mono ?_;rintro e w4 ⟨v,rfl,ho,hb4⟩;have hbel4:=ae hbr hb4;have hx4:=hx.ext hb4;have hres4:=hres.ext hb4;have hc4:=(hx4.cell k).trans HCA.out;have hf4:=hx4.free k;have hgr4:=aH w4 w.heap.size k [v];have hM5:=hM.step hbr.size hlt hb4 ho hx4 (by decide) hgr4;have hx5:aC (w4.setCell ⟨w.heap.size,k,none⟩ v) w.heap.size (ca.setIfInBounds k v) 53:=hx4.setCell k v;have hres5:=hres4.setCell_other ⟨w.heap.size,k,none⟩ v (by simp);have hbel5:Below w.heap.size w (w4.setCell ⟨w.heap.size,k,none⟩ v):=hbel4.grown hgr4 hbel4.size (fun k hk=>by cases hk;exact ay _);obtain⟨xa,xc,rfl,_⟩:=ho.rd;clear hx4 hres4 hbr hx hres hM hbel4 hb4 ho hgr4 hix;go_wp2;go_roundw
   case rel=>exact⟨k+1,_,by omega,by go_num,hbel5,hx5,hres5,hM5⟩
   case measure=>simp[intOf];omega
  obtain rfl:k=8:=by omega
  have hO:=hM.fin;have hone:=hO.rd.one;have hsz:=hM.sz
  go_wp2_with (first | (refine fQ rfl 53 (.tmp 1) rfl w.heap.size 0 rfl ca.toList hx.rd _ underlying53 tab_agg (by rw[iC,hsz];exact tab_size) ?_) | (refine az rfl _ (.tmp 2) (.tmp 15) rfl (w.heap.size+1) ca rfl rfl _ _ hres (by rw[hsz];rfl) (by rw[hsz];exact tab_size) hone ?_))
  intro w5 hr5 hgr5;have hO5:=hO.keep hres (by decide) hgr5;have hbel5:Below w.heap.size w w5:=hbr.grown hgr5 hbr.size (fun k hk=>by cases hk;omega);go_wp2;refine bodyPost_ret (v:=.agg ca) (results_cell_row results77 _ _ (w.heap.size+1) _ ca _ _ rfl hr5 underlying53 rfl (by rw[hsz];exact tab_size)) rfl ?_;exact⟨_,rfl,hO5,hbel5⟩
theorem entry_size:(Tryz.prog.info? 89).map (·.size)=some 3:=by kernel_rfl
theorem Rw {l:List En} (h:dN w a (l.flatMap kP)) (k:Nat) (hk:k<l.length):∃b off E,a=some ⟨b,off,none⟩∧l[k]?=some E∧w.cell? ⟨b,off+k*3,none⟩=some (.int .i64 E.k)∧w.cell? ⟨b,off+k*3+1,none⟩=some (.int .i64 E.n)∧w.cell? ⟨b,off+k*3+2,none⟩=some (.bool E.w):=by
 obtain⟨b,off,ha,h0,h1,h2⟩:=EZ h k hk;exact⟨b,off,l[k],ha,aG hk,h0,h1,h2⟩
theorem zX (t:Tb) (cs:Array Value) (n:Int) (w:World) (h:EE w cs t):Calls Tryz.prog 69 #[.agg cs,.int .i64 n] w fun r w'=>r = .returned (.agg (jk (dG t n)))∧Below w.heap.size w w':=by
 by_cases hn:0≤n∧n<64
 ·obtain⟨q,r,hq,hr,hnn,hdq,hdr⟩:=wK hn;have hg:=zh (t:=t) hq hr;rw[←hnn] at hg;have HG:=Lib.hid hg;have HN:=Lib.hid hnn;obtain⟨n0,n1⟩:=hn;have hn0:decide (n<0)=false:=by simp;omega
  have hn1:decide (64≤n)=false:=by simp;omega
  obtain⟨a,c,hcs,hle,hmx,hnil,hrd⟩:=h.at' q hq;unfold maxLen at hmx;clear hg hnn;go_enter func69,ntmps69;go_upto_region 1 with (fail);refine qH (fun W=>Code.wp _ _ _ _ W) fun W0 hb0 hx0 hres0 hs0 => ?_;clear hs0;have hc0:=(hx0.cell q).trans hcs;have hrd0:=hrd.below hb0;have hq' : (q:Int)<8:=by omega
  by_cases h8:t[q].length=8
  ·obtain⟨b,off,E,rfl,hE,c0,c1,c2⟩:=Rw hrd0 r (by omega);have hfin:dG t n=E:=by rw[HG.out,if_pos h8,aW,hE];rfl
   have HF:=Lib.hid hfin;have hr' : (r:Int)<8:=by omega
   rw[h8] at hc0;clear h8 hcs hE h hfin
   go_wp2_with (refine az rfl _ (.tmp 4) (.tmp 27) rfl (w.heap.size+1) (jk E) rfl rfl _ _ hres0 rfl entry_size (iL _) ?_)
   all_goals
    intro w5 hr5 hgr5;have hbel5:Below w.heap.size w w5:=hb0.grown hgr5 hb0.size (fun k hk=>by cases hk;omega);go_wp2;refine bodyPost_ret (v:=.agg (jk E)) (results_cell_row results69 _ _ (w.heap.size+1) _ _ _ _ rfl hr5 underlying89 rfl entry_size) rfl ?_;exact⟨by rw[HF.out],hbel5⟩
  have hne:((t[q].length:Int) != 8)=true:=by rw[bne_iff_ne];omega
  have hfin:dG t n=zEn:=by rw[HG.out,if_neg h8]
  have HF:=Lib.hid hfin;clear hfin
  go_wp2_with (refine az rfl _ (.tmp 4) (.tmp 19) rfl (w.heap.size+1) (jk zEn) rfl rfl _ _ hres0 rfl entry_size (iL _) ?_)
  all_goals
   intro w5 hr5 hgr5;have hbel5:Below w.heap.size w w5:=hb0.grown hgr5 hb0.size (fun k hk=>by cases hk;omega);go_wp2;refine bodyPost_ret (v:=.agg (jk zEn)) (results_cell_row results69 _ _ (w.heap.size+1) _ _ _ _ rfl hr5 underlying89 rfl entry_size) rfl ?_;exact⟨by rw[HF.out],hbel5⟩
 have hfin:dG t n=zEn:=qZ (by omega);have HF:=Lib.hid hfin;have hn' : n<0∨64≤n:=by omega
 clear hfin hn;go_enter func69,ntmps69;go_upto_region 1 with (fail);refine qH (fun W=>Code.wp _ _ _ _ W) fun W0 hb0 hx0 hres0 hs0 => ?_;clear hs0
 by_cases hn0:n<0
 ·skip
  go_wp2_with (refine az rfl _ (.tmp 4) (.tmp 19) rfl (w.heap.size+1) (jk zEn) rfl rfl _ _ hres0 rfl entry_size (iL _) ?_)
  all_goals
   intro w5 hr5 hgr5;have hbel5:Below w.heap.size w w5:=hb0.grown hgr5 hb0.size (fun k hk=>by cases hk;omega);go_wp2;refine bodyPost_ret (v:=.agg (jk zEn)) (results_cell_row results69 _ _ (w.heap.size+1) _ _ _ _ rfl hr5 underlying89 rfl entry_size) rfl ?_;exact⟨by rw[HF.out],hbel5⟩
 have hn1:64≤n:=by omega
 have hn0' : decide (n<0)=false:=by simp;omega
 go_wp2_with (refine az rfl _ (.tmp 4) (.tmp 19) rfl (w.heap.size+1) (jk zEn) rfl rfl _ _ hres0 rfl entry_size (iL _) ?_)
 all_goals
  intro w5 hr5 hgr5;have hbel5:Below w.heap.size w w5:=hb0.grown hgr5 hb0.size (fun k hk=>by cases hk;omega);go_wp2;refine bodyPost_ret (v:=.agg (jk zEn)) (results_cell_row results69 _ _ (w.heap.size+1) _ _ _ _ rfl hr5 underlying89 rfl entry_size) rfl ?_;exact⟨by rw[HF.out],hbel5⟩
theorem slent_size:(Tryz.prog.info? 51).map (·.size)=some 1:=by kernel_rfl
theorem Ad (e:En):∀u∈kP e,u.oneCell' = true:=by
 intro u hu;have:=iL e;rw[←ky,dL] at this;exact this u hu
theorem QU (e:En) (w:World):Calls Tryz.prog 140 #[.agg #[.int .i64 e.k,.int .i64 e.n,.bool e.w]] w fun r w'=>r = .returned (.bool (ou e))∧Below w.heap.size w w':=by
 go_enter func140,ntmps140;go_wp2;go_ret;exact⟨bH (by unfold ou;rw[lS];simp),(Below.refl _ _).alloc (ay _) _⟩
theorem PN (l:List En) (a:Option Addr) (c:Nat) (w:World) (hrd:dN w a (l.flatMap kP)) (hl:l.length≤9223372036854775807) :
  Calls Tryz.prog 149 #[.slice a l.length c,.func (.func 140) #[] #[]] w fun e w'=>e = .returned (.int .i64 (idx ou l))∧Below w.heap.size w w':=by
 go_enter func149,ntmps149;go_wp2
 go_loopw [8] (fun i wr => ∃k:Nat,k≤l.length∧i = .int .i64 k∧Below w.heap.size w wr∧∀i (h:i<l.length),i<k→ou l[i]=false) (fun i _=>l.length-(intOf i).toNat)
 case atStart=>exact⟨0,aS _,rfl,Below.refl _ _,fun i _ h=>absurd h (dO _)⟩
 case round=>
  obtain⟨k,hk,rfl,hbr,hp0⟩:=hrel;have hp:=Lib.hid hp0;clear hp0
  by_cases hlt:k<l.length
  ·obtain⟨b,off,rfl,c0,c1,c2⟩:=EZ (hrd.below hbr) k hlt
   go_wp2_with fail
   refine (QU l[k] _).mono ?_;rintro e w2 ⟨rfl,hb2⟩;have hbel2:=ae hbr hb2;clear hb2;cases hpk:ou l[k]
   ·have hpk':=Lib.hid hpk;clear hpk;go_wp2;go_roundw
    case rel=>exact⟨k+1,by omega,by go_num,hbel2,lH hp.out hlt hpk'.out⟩
    case measure=>simp[intOf];omega
   have hfin:=Lib.hid (tH ou l k hlt hp.out hpk);clear hpk;go_wp2;go_ret;exact⟨aR hfin.out.symm,hbel2⟩
  have hfin:=Lib.hid (kT ou l fun i h=>hp.out i h (by omega));go_wp2;go_ret;exact⟨aR hfin.out.symm,hbr⟩
theorem KU (l:List En) (a:Option Addr) (c:Nat) (w:World) (hrd:dN w a (l.flatMap kP)) (hl:l.length≤9223372036854775807) :
  Calls Tryz.prog 139 #[.slice a l.length c,.func (.func 140) #[] #[]] w fun e w'=>e = .returned (.bool (l.any ou))∧Below w.heap.size w w':=by
 go_enter func139,ntmps139
 go_wp2_with fail
 refine (PN l a c _ hrd hl).mono ?_;rintro e w2 ⟨rfl,hb2⟩;go_wp2;go_ret;exact⟨bH (nC _ _),hb2⟩
theorem zQ (w:World) (B:Nat):qD w B #[.slice none 0 0,.slice none 0 0,.slice none 0 0,.slice none 0 0,.slice none 0 0,.slice none 0 0,.slice none 0 0,.slice none 0 0] zTb where
 sz:=rfl
 own:=fun k hk=>by
  refine⟨.slice none 0 0,?_,by simpa[zTb] using Own.nil w B 89 3⟩
  match k,hk with
  | 0,_=>rfl
  | 1,_=>rfl
  | 2,_=>rfl
  | 3,_=>rfl
  | 4,_=>rfl
  | 5,_=>rfl
  | 6,_=>rfl
  | 7,_=>rfl
 apart:=fun j k v u hjk h1 h2 g hg=>by
  have:v = .slice none 0 0:=by
   match j with
   | 0=>cases h1;rfl
   | 1=>cases h1;rfl
   | 2=>cases h1;rfl
   | 3=>cases h1;rfl
   | 4=>cases h1;rfl
   | 5=>cases h1;rfl
   | 6=>cases h1;rfl
   | 7=>cases h1;rfl
   | j+8=>cases h1
  subst this;cases hg
theorem qD.put {t:Tb} (h:qD w B cs t) (hq:q<8) {l:List En} (ho:Own w B 89 3 v l.length (l.flatMap kP))
 (hnew:∀g,v.ownBlock=some g→∀j u,j≠q→cs[j]?=some u→u.ownBlock≠some g):qD w B (cs.setIfInBounds q v) (t.set q l) where
 sz:=by simp[h.sz]
 own:=fun k hk=>by
  by_cases e:k=q
  ·subst e;exact⟨v,by rw[qP (by rw[h.sz];exact hk)],by simpa using ho⟩
  obtain⟨u,h1,h2⟩:=h.own k hk;exact⟨u,by rw[fK (fun e2=>e e2.symm)];exact h1,by rw[wO hq hk (fun e2=>e e2.symm)];exact h2⟩
 apart:=fun j k x y hjk hx hy g hgx hgy=>by
  by_cases e:j=q
  ·subst e;rw[qP (by rw[h.sz];exact hq)] at hx;cases hx;rw[fK (by omega)] at hy;exact hnew g hgx k y (by omega) hy hgy
  rw[fK (fun e2=>e e2.symm)] at hx
  by_cases e2:k=q
  ·subst e2;rw[qP (by rw[h.sz];exact hq)] at hy;cases hy;exact hnew g hgy j x e hx hgx
  rw[fK (fun e3=>e2 e3.symm)] at hy;exact h.apart j k x y hjk hx hy g hgx hgy
theorem qD.wr {t:Tb} (h:qD w B cs t) (hq:q<8) (hr:r<t[q].length) :
  ∃g off cap cur,cs[q]?=some (.slice (some ⟨g,off,none⟩) t[q].length cap)∧B≤g∧aC w g cur 89∧off+r*3+3≤cur.size ∧
   (∀j y,(kP (t[q][r]))[j]?=some y→w.cell? ⟨g,off+r*3+j,none⟩=some y) ∧
   ∀w' x,aC w' g (bA cur (off+r*3) (kP x)) 89→w.grownBy w' (some g)→qD w' B cs (t.set q (t[q].set r x)):=by
 obtain⟨v,h1,h2⟩:=h.own q hq;obtain⟨g,off,cap,cur,rfl,hB,hb,hfit,hcell,hset⟩:=h2.put eY (by decide) r hr;refine⟨g,off,cap,cur,h1,hB,hb,hfit,hcell,fun w' x hb' hgr=>⟨h.sz,fun k hk => ?_,h.apart⟩⟩
 by_cases e:k=q
 ·subst e;exact⟨_,h1,by simpa using hset w' x hb'⟩
 obtain⟨u,h3,h4⟩:=h.own k hk;refine⟨u,h3,?_⟩;rw[wO hq hk (fun e2=>e e2.symm)];refine h4.grown hgr fun g' hg' he => ?_;cases he;rcases uJ e with hlt|hlt
 ·exact h.apart k q _ _ hlt h3 h1 g hg' rfl
 ·exact h.apart q k _ _ hlt h1 h3 g rfl hg'
theorem QM (t:Tb) (cs:Array Value) (n:Int) (e:En) (w:World) (h:EE w cs t) (hz:Ey t):Calls Tryz.prog 118 #[.agg cs,.int .i64 n,.agg (jk e)] w fun r w' => ∃cs',r = .returned (.tuple #[.agg cs',.int .i64 (setE t n e)])∧qD w' w.heap.size cs' (setT t n e)∧Below w.heap.size w w':=by
 go_enter func118,ntmps118;go_upto_region 1 with (fail);refine Ld (fun W=>Code.wp _ _ _ _ W) fun W0 hb0 hx0 he0 hres0 hs0 => ?_;clear hs0
 go_wp2_with (refine fQ rfl 53 (.tmp 3) rfl w.heap.size 0 rfl cs.toList hx0.rd _ underlying53 tab_agg (by rw[iC,h.sz];exact tab_size) ?_)
 refine (Dj t cs _ (h.below hb0)).mono ?_;rintro r w1 ⟨rfl,hb1⟩;have hbel:=ae hb0 hb1;have hx:=hx0.ext hb1;have he:=he0.ext hb1;have hres:=hres0.ext hb1;clear hb0 hx0 he0 hres0 hb1
 by_cases h0:cK t=0
 ·have H0:=Lib.hid h0;rw[h0];clear h0
  by_cases hn:0≤n∧n<64
  ·obtain⟨q,r,hq,hr,hnn,hdq,hdr⟩:=wK hn;have HN:=Lib.hid hnn;clear hnn;obtain⟨n0,n1⟩:=hn;have hn0:decide (n<0)=false:=by simp;omega
   have hn1:decide (64≤n)=false:=by simp;omega
   have hq' : (q:Int)<8:=by omega
   have hr' : (r:Int)<8:=by omega
   have hdt:n.tmod 8=(r:Int):=by rw[Int.tmod_eq_emod_of_nonneg n0];exact hdr
   go_wp2_with (refine fQ rfl 89 (.tmp 5) rfl (w.heap.size+1) 0 rfl (jk e).toList he.rd _ underlying89 rfl entry_size ?_)
   refine (EY e _).mono ?_;rintro x w2 ⟨rfl,hb2⟩;have hbel2:=ae hbel hb2;have hx2:=hx.ext hb2;have he2:=he.ext hb2;have hres2:=hres.ext hb2;clear hbel hx he hres hb2
   by_cases h1:eQ e=0
   ·have hs0:setE t n e=0:=by unfold setE;rw[if_neg (by rw[H0.out];simp),if_neg (by omega),h1]
    have HS:=Lib.hid hs0;have hset:=Lib.hid (Np hs0 hq hr HN.out);rw[h1];clear h1 hs0
    go_wp2_with (refine fQ rfl 53 (.tmp 3) rfl w.heap.size 0 rfl cs.toList hx2.rd _ underlying53 tab_agg (by rw[iC,h.sz];exact tab_size) ?_)
    refine (Jp t cs _ (h.below hbel2) hz).mono ?_;rintro x w3 ⟨ca,rfl,hO3,hb3⟩;have hbel3:=ae hbel2 hb3;have he3:=he2.ext hb3;have hres3:=hres2.ext hb3;have hone:=hO3.rd.one;have hsz:=hO3.sz;have hO3':=hO3.mono hbel2.size;clear hbel2 hx2 he2 hres2 hb3 hO3
    go_wp2_with (refine az rfl _ (.tmp 10) (.tmp 32) rfl w3.heap.size ca rfl rfl _ _ (aC.new _ _ _) (by rw[hsz];rfl) (by rw[hsz];exact tab_size) hone ?_)
    intro w4 hx4 hgr4;have hO4:=(hO3'.below ((Below.refl _ _).alloc (ay _) _)).keep (aC.new _ _ _) (by decide) hgr4;have he4:=bu (he3.alloc _) (aC.new _ _ _) (by decide) hgr4;have hres4:aC w4 (w.heap.size+2) _ _:=(hres3.alloc _).grown hgr4 (fun e=>by have:=aJ e;have:=hres3.lt;omega);have hbel4:Below w.heap.size w w4:=(hbel3.alloc hbel3.size _).grown hgr4 (bV hbel3.size _) (fun k hk=>by cases hk;exact hbel3.size);have hge:w.heap.size+2<w3.heap.size:=hres3.lt;have hg4:w3.heap.size<w4.heap.size:=hx4.lt;clear he3 hres3 hgr4 hO3' hone;have hl8:=oD (kU H0.out q hq);obtain⟨v,hv,hown⟩:=hO4.own q hq;obtain⟨av,cv,rfl,hvle,hvmx,_⟩:=hown.rd;have HV:=Lib.hid hv;have hc4:=(hx4.cell q).trans hv;rcases hl8 with h0|h8
    case' inl=>
     have H00:=Lib.hid h0;rw[h0] at hc4;clear hv hown h0
     go_wp2_with (refine uk _ rfl (.const (.int .i64 8)) (.const (.int .i64 8)) 51 rfl kP 89 _ 3 24 zEn eY (by decide) underlying51 entry_info rfl .i64 .i64 8 8 8 rfl rfl rfl rfl (by omega) (by unfold maxLen;omega) ?_)
     intro w5 ho5 hgr5;have hx5:=hx4.grown hgr5 (by simp);have he5:=he4.grown hgr5 (by simp);have hres5:=hres4.grown hgr5 (by simp);have hO5:qD w5 w.heap.size ca t:=hO4.below (jW hgr5);have hbel5:=ae hbel4 (jW hgr5);have hnew:∀g,(Value.slice (some ⟨w4.heap.size,0,none⟩) 8 8).ownBlock=some g→∀j u,j≠q→ca[j]?=some u→u.ownBlock≠some g:=by
      intro g hg j u hj hu hgu;cases hg;obtain⟨v',hv',ho'⟩:=hO4.own j (by
       rcases fA j 8 with hk|hk
       ·exact hk
       ·rw[kX (by rw[hsz];exact hk)] at hu;cases hu)
      rw[hu] at hv';cases hv';exact absurd (Lh ho' _ hgu) (Nat.lt_irrefl _)
     go_wp2_with (refine aA rfl _ (.tmp 43) (.tmp 42) rfl w3.heap.size q _ [.slice (some ⟨w4.heap.size,0,none⟩) 8 8] rfl rfl rfl _ _ hx5 (by rw[hsz];exact hq) slent_size (fun u hu=>by cases bq.1 hu;rfl) ?_)
     intro w6 hx6 hgr6;rw[Pw.putAt_one] at hx6;have ho5' : Own w5 w.heap.size 89 3 (.slice (some ⟨w4.heap.size,0,none⟩) 8 8) (List.replicate 8 zEn).length ((List.replicate 8 zEn).flatMap kP):=ho5.mono hbel4.size;have hO6:=(hO5.keep hx5 (by decide) hgr6).put hq (ak ho5' hx5 (by decide) hgr6) hnew;have he6:=bu he5 hx5 (by decide) hgr6;have hres6:aC w6 (w.heap.size+2) _ _:=hres5.grown hgr6 (fun e=>by have:=aJ e;omega);have hbel6:=hbel5.grown hgr6 hbel5.size (fun k hk=>by cases hk;exact hbel3.size);have hcv:(ca.setIfInBounds q (Value.slice (some ⟨w4.heap.size,0,none⟩) 8 8))[q]?=some (.slice (some ⟨w4.heap.size,0,none⟩) 8 8):=qP (by rw[hsz];exact hq);have HH:Hid (∀l,(t.set q (List.replicate 8 zEn)).set q l=t.set q l):=Lib.hid (fun l=>by simp);have HL:Hid ((t.set q (List.replicate 8 zEn))[q]=(if t[q].length=0 then List.replicate 8 zEn else t[q])):=Lib.hid (by rw[if_pos H00.out];simp);have HL8:Hid ((t.set q (List.replicate 8 zEn))[q].length=8):=Lib.hid (by simp);go_upto_region 13 with (fail);generalize hT6:t.set q (List.replicate 8 zEn)=t6 at HH HL HL8 hO6;generalize hC6:ca.setIfInBounds q (Value.slice (some ⟨w4.heap.size,0,none⟩) 8 8)=c6 at hcv hO6 hx6;have hw6:=hx6.lt;clear hT6 hC6 hx5 he5 hres5 hO5 hbel5 hgr5 hgr6 hnew ho5 ho5' hx4 he4 hres4 hO4 hbel4 hc4 hn0 hn1
    case' inr=>
     have hx6:=hx4;have he6:=he4;have hres6:=hres4;have hO6:=hO4;have hbel6:=hbel4;have hcv:=HV.out;have hc6:=hc4;rw[h8] at hc6;have HL:Hid (t[q]=(if t[q].length=0 then List.replicate 8 zEn else t[q])):=Lib.hid (by rw[if_neg (by omega)]);have HL8:Hid (t[q].length=8):=Lib.hid h8;have hl0:((8:Int)==0)=false:=by decide
     clear h8 hv hown hc4;go_upto_region 13 with (fail);generalize hT6:t[q]=tq at HL HL8;obtain⟨t6,hT7⟩:∃t6,t6=t:=⟨_,rfl⟩;have HH:Hid (∀l:List En,t6.set q l hq=t.set q l hq):=Lib.hid (fun l=>by rw[hT7]);have HL:Hid (t6[q]=(if t[q].length=0 then List.replicate 8 zEn else t[q])):=Lib.hid (by rw[hT7,hT6];exact HL.out);have HL8:Hid (t6[q].length=8):=Lib.hid (by rw[hT7,hT6];exact HL8.out);have hO6:qD w4 w.heap.size ca t6:=by rw[hT7];exact hO6
     have hw6:=hx6.lt;obtain⟨c6,hC6⟩:∃c6,c6=ca:=⟨_,rfl⟩;rw[←hC6] at hcv hO6 hx6;clear hT6 hT7 hC6 hx4 he4 hres4 hO4 hbel4 hc6 hn0 hn1
    all_goals
     obtain⟨g,off,cap,cur,hgv,hBg,hbg,hfit,_,hset⟩:=hO6.wr hq (r:=r) (by rw[HL8.out];exact hr);rw[HL8.out] at hgv;clear hcv;have HGV:=Lib.hid hgv;clear hgv;refine aK 7 [_,_,_,_,_,_,.v (.pointer (some ⟨g,off+r*3,none⟩))] (Gk rfl (Gk rfl (Gc (.slice (some ⟨g,off,none⟩) 8 cap) (fun W hb=>by simp[(((hx6.ext hb).cell q).trans HGV.out),underlying51]) rfl rfl rfl rfl (Gk rfl (Gb (.int .i64 r) (by simp[go_sem,hdt]) rfl rfl rfl rfl rfl (Gr (.agg (jk e)) (fun ρ y W hb hKn=>(dx rfl (aD rfl hKn) (he6.ext hb) underlying89 rfl entry_size)) rfl rfl (ag ?_ (aB)))))))) (fun _=>rfl) rfl ?_
     ·intro ρ y W hw hn hb hd;have E46:=hw 46 2 rfl;have h2:y 2=_:=hd 2 rfl;have E48:=hw 48 4 rfl;have h4:y 4=_:=hd 4 rfl;refine aj (.pointer (some ⟨g,off+r*3,none⟩)) (ah rfl) (by simp[execOp,go_sem,E46,h2,E48,h4,underlying51,hr']) rfl
     intro y WA hbWA _;have hx7:=hx6.ext hbWA;have hres7:=hres6.ext hbWA;have hbel7:=ae hbel6 hbWA;have hw7:w3.heap.size<WA.heap.size:=hx7.lt;clear hbg hset;obtain⟨g2,off2,cap2,cur2,hgv2,hBg2,hbg2,hfit2,_,hset2⟩:=(hO6.below hbWA).wr hq (r:=r) (by rw[HL8.out];exact hr);have hE7:=aJ (HGV.out.symm.trans hgv2);simp only[lY,iM,vC,and_true] at hE7;obtain⟨⟨rfl,rfl⟩,hl8',rfl⟩:=hE7;clear hgv2 hl8' hx6 hres6 hbel6 hbWA
     go_wp2_with (refine aA rfl _ (.tmp 50) (.tmp 49) rfl g (off+r*3) _ (kP e) rfl rfl rfl _ _ hbg2 hfit2 entry_size (Ad e) ?_)
     intro w8 hb8 hgr8;have hO8:=hset2 w8 e hb8 hgr8;have hx8:=bu hx7 hbg2 (by decide) hgr8;have hres8:=bu hres7 hbg2 (by decide) hgr8;have hbel8:=hbel7.grown hgr8 hbel7.size (fun k hk=>by cases hk;exact hBg);have hc8:=(hx8.cell q).trans HGV.out;have hset8:Hid (t6.set q (t6[q].set r e)=t.set q (t6[q].set r e)):=Lib.hid (HH.out _);have hl8:Hid ((t6[q].set r e).length=8):=Lib.hid (by rw[bI];exact HL8.out);have hrd8:dN w8 (some ⟨g,off,none⟩) ((t6[q].set r e).flatMap kP):=by obtain⟨v,h1,h2⟩:=hO8.own q hq;obtain rfl:=aJ (HGV.out.symm.trans h1);obtain⟨a',c',h3,_,_,_,h4⟩:=h2.rd;simp only[lY] at h3;obtain⟨rfl,_,_⟩:=h3;simpa using h4
     have hany:Hid (setH t[q] r e=if (t6[q].set r e).any ou then t6[q].set r e else []):=Lib.hid (by rw[HL.out];rfl);clear hx7 hres7 hbel7 hbg2 hb8 hgr8 hset2 hO6 he6;generalize hl8e:t6[q].set r e=l8 at hset8 hl8 hrd8 hany hO8;clear hl8e;have HC:∀W,dN W (some ⟨g,off,none⟩) (l8.flatMap kP)→Calls Tryz.prog 139 #[.slice (some ⟨g,off,none⟩) 8 cap,.func (.func 140) #[] #[]] W fun e w'=>e = .returned (.bool (l8.any ou))∧Below W.heap.size W w':=by intro W hW;have:=KU l8 (some ⟨g,off,none⟩) cap W hW (by rw[hl8.out];decide);rw[hl8.out] at this;exact this
     have HC':=Lib.hid HC;clear HC
     go_wp2_with fail
     refine (HC'.out _ hrd8).mono ?_;rintro x w9 ⟨rfl,hb9⟩;have hx9:=hx8.ext hb9;have hres9:=hres8.ext hb9;have hbel9:=ae hbel8 hb9;have hO9:=hO8.below hb9;have hz9:=hO9.sz;clear hx8 hres8 hbel8 hO8 hrd8 hb9 hc8;cases hk:l8.any ou
     ·have hfin:Hid (t.set q (setH t[q] r e)=t.set q []):=Lib.hid (by rw[hany.out,hk];rfl);have hone1:∀u∈[Value.slice none 0 0],u.oneCell' = true:=fun u hu=>by cases bq.1 hu;rfl
      clear hany
      go_wp2_with (refine aA rfl _ (.tmp 57) (.const (.slice none 0 0)) rfl w3.heap.size q _ [.slice none 0 0] rfl rfl rfl _ _ hx9 (by rw[hz9];exact hq) slent_size hone1 ?_)
      intro wa hxa hgra;rw[Pw.putAt_one] at hxa;have hOa:=(hO9.keep hx9 (by decide) hgra).put hq (v:=.slice none 0 0) (l:=[]) (Own.nil _ _ _ _) (fun g hg=>by cases hg);have hresa:aC wa (w.heap.size+2) _ _:=hres9.grown hgra (fun e=>by have:=aJ e;omega);have hbela:=hbel9.grown hgra hbel9.size (fun k hk=>by cases hk;exact hbel3.size);have hta:Hid ((t6.set q l8).set q []=t.set q (setH t[q] r e)):=Lib.hid (by rw[hset8.out,hfin.out];simp);clear hx9 hres9 hbel9 hO9 hgra;generalize hCa:c6.setIfInBounds q (Value.slice none 0 0)=ca2 at hOa hxa;clear hCa;have honea:=hOa.rd.one;have hsza:=hOa.sz
      go_wp2_with (first | (refine fQ rfl 53 (.tmp 10) rfl w3.heap.size 0 rfl ca2.toList hxa.rd _ underlying53 tab_agg (by rw[iC,hsza];exact tab_size) ?_) | (refine az rfl _ (.tmp 6) (.tmp 58) rfl (w.heap.size+2) ca2 rfl rfl _ _ hresa (by rw[hsza];rfl) (by rw[hsza];exact tab_size) honea ?_))
      intro wb hrb hgrb;have hOb:=hOa.keep hresa (by decide) hgrb;have hbelb:=hbela.grown hgrb hbela.size (fun k hk=>by cases hk;omega);go_wp2;refine bodyPost_ret (v:=.tuple #[.agg ca2,.int .i64 0]) (fH results118 _ _ (w.heap.size+2) _ _ _ _ rfl rfl hrb underlying53 rfl (by rw[hsza];exact tab_size)) rfl ?_;exact⟨_,by rw[HS.out],by rw[hset.out,←hta.out];exact hOb,hbelb⟩
     have hta:Hid (t6.set q l8=t.set q (setH t[q] r e)):=Lib.hid (by rw[hset8.out,hany.out,hk];rfl);have hOa:=hO9;have hxa:=hx9;have hresa:=hres9;have hbela:=hbel9;clear hx9 hres9 hbel9 hO9 hany;generalize hCa:c6=ca2 at hOa hxa;clear hCa;have honea:=hOa.rd.one;have hsza:=hOa.sz
     go_wp2_with (first | (refine fQ rfl 53 (.tmp 10) rfl w3.heap.size 0 rfl ca2.toList hxa.rd _ underlying53 tab_agg (by rw[iC,hsza];exact tab_size) ?_) | (refine az rfl _ (.tmp 6) (.tmp 58) rfl (w.heap.size+2) ca2 rfl rfl _ _ hresa (by rw[hsza];rfl) (by rw[hsza];exact tab_size) honea ?_))
     intro wb hrb hgrb;have hOb:=hOa.keep hresa (by decide) hgrb;have hbelb:=hbela.grown hgrb hbela.size (fun k hk=>by cases hk;omega);go_wp2;refine bodyPost_ret (v:=.tuple #[.agg ca2,.int .i64 0]) (fH results118 _ _ (w.heap.size+2) _ _ _ _ rfl rfl hrb underlying53 rfl (by rw[hsza];exact tab_size)) rfl ?_;exact⟨_,by rw[HS.out],by rw[hset.out,←hta.out];exact hOb,hbelb⟩
   have q0:Hid (setE t n e=eQ e∧eQ e≠0):=Lib.hid ⟨by unfold setE;rw[if_neg (by rw[H0.out];simp),if_neg (by omega)],h1⟩;have h1' : (eQ e != 0)=true:=by simpa using h1
   have hbel:=hbel2;have hres:=hres2;clear h1 hbel2 hres2
   go_wp2_with (refine az rfl _ (.tmp 6) (.tmp 29) rfl (w.heap.size+2) #[.slice none 0 0,.slice none 0 0,.slice none 0 0,.slice none 0 0,.slice none 0 0,.slice none 0 0,.slice none 0 0,.slice none 0 0] rfl rfl _ _ hres rfl tab_size (by simp[Value.oneCell']) ?_)
   all_goals
    intro w5 hr5 hgr5;have hbel5:Below w.heap.size w w5:=hbel.grown hgr5 hbel.size (fun k hk=>by cases hk;omega);go_wp2;refine bodyPost_ret (v:=.tuple #[.agg #[.slice none 0 0,.slice none 0 0,.slice none 0 0,.slice none 0 0,.slice none 0 0,.slice none 0 0,.slice none 0 0,.slice none 0 0],.int .i64 (eQ e)]) (fH results118 _ _ (w.heap.size+2) _ _ _ _ rfl rfl hr5 underlying53 rfl tab_size) rfl ?_;have q:=q0.out;exact⟨_,by rw[q.1],by rw[vZ (by rw[q.1];exact q.2)];exact zQ _ _,hbel5⟩
  have q0:Hid (setE t n e=3∧(3:Int)≠0):=Lib.hid ⟨by unfold setE;rw[if_neg (by rw[H0.out];simp),if_pos (by omega)],by decide⟩;have hn' : n<0∨64≤n:=by omega
  clear hn
  by_cases hn0:n<0
  ·skip
   go_wp2_with (refine az rfl _ (.tmp 6) (.tmp 24) rfl (w.heap.size+2) #[.slice none 0 0,.slice none 0 0,.slice none 0 0,.slice none 0 0,.slice none 0 0,.slice none 0 0,.slice none 0 0,.slice none 0 0] rfl rfl _ _ hres rfl tab_size (by simp[Value.oneCell']) ?_)
   all_goals
    intro w5 hr5 hgr5;have hbel5:Below w.heap.size w w5:=hbel.grown hgr5 hbel.size (fun k hk=>by cases hk;omega);go_wp2;refine bodyPost_ret (v:=.tuple #[.agg #[.slice none 0 0,.slice none 0 0,.slice none 0 0,.slice none 0 0,.slice none 0 0,.slice none 0 0,.slice none 0 0,.slice none 0 0],.int .i64 (3)]) (fH results118 _ _ (w.heap.size+2) _ _ _ _ rfl rfl hr5 underlying53 rfl tab_size) rfl ?_;have q:=q0.out;exact⟨_,by rw[q.1],by rw[vZ (by rw[q.1];exact q.2)];exact zQ _ _,hbel5⟩
  have hn1:64≤n:=by omega
  have hn0' : decide (n<0)=false:=by simp;omega
  go_wp2_with (refine az rfl _ (.tmp 6) (.tmp 24) rfl (w.heap.size+2) #[.slice none 0 0,.slice none 0 0,.slice none 0 0,.slice none 0 0,.slice none 0 0,.slice none 0 0,.slice none 0 0,.slice none 0 0] rfl rfl _ _ hres rfl tab_size (by simp[Value.oneCell']) ?_)
  all_goals
   intro w5 hr5 hgr5;have hbel5:Below w.heap.size w w5:=hbel.grown hgr5 hbel.size (fun k hk=>by cases hk;omega);go_wp2;refine bodyPost_ret (v:=.tuple #[.agg #[.slice none 0 0,.slice none 0 0,.slice none 0 0,.slice none 0 0,.slice none 0 0,.slice none 0 0,.slice none 0 0,.slice none 0 0],.int .i64 (3)]) (fH results118 _ _ (w.heap.size+2) _ _ _ _ rfl rfl hr5 underlying53 rfl tab_size) rfl ?_;have q:=q0.out;exact⟨_,by rw[q.1],by rw[vZ (by rw[q.1];exact q.2)];exact zQ _ _,hbel5⟩
 have q0:Hid (setE t n e=cK t∧cK t≠0):=Lib.hid ⟨by unfold setE;rw[if_pos h0],h0⟩;have h0' : (cK t != 0)=true:=by simpa using h0
 clear h0
 go_wp2_with (refine az rfl _ (.tmp 6) (.tmp 16) rfl (w.heap.size+2) #[.slice none 0 0,.slice none 0 0,.slice none 0 0,.slice none 0 0,.slice none 0 0,.slice none 0 0,.slice none 0 0,.slice none 0 0] rfl rfl _ _ hres rfl tab_size (by simp[Value.oneCell']) ?_)
 all_goals
  intro w5 hr5 hgr5;have hbel5:Below w.heap.size w w5:=hbel.grown hgr5 hbel.size (fun k hk=>by cases hk;omega);go_wp2;refine bodyPost_ret (v:=.tuple #[.agg #[.slice none 0 0,.slice none 0 0,.slice none 0 0,.slice none 0 0,.slice none 0 0,.slice none 0 0,.slice none 0 0,.slice none 0 0],.int .i64 (cK t)]) (fH results118 _ _ (w.heap.size+2) _ _ _ _ rfl rfl hr5 underlying53 rfl tab_size) rfl ?_;have q:=q0.out;exact⟨_,by rw[q.1],by rw[vZ (by rw[q.1];exact q.2)];exact zQ _ _,hbel5⟩
theorem JD (t:Tb) (cs:Array Value) (n:Int) (w:World) (h:EE w cs t):Calls Tryz.prog 69 #[.agg cs,.int .i64 n] w fun r w'=>r = .returned (.agg #[.int .i64 (dG t n).k,.int .i64 (dG t n).n,.bool (dG t n).w])∧Below w.heap.size w w':=zX t cs n w h
theorem Vz (E:En) (W:World):(Instr.field 89 (.agg #[.int .i64 E.k,.int .i64 E.n,.bool E.w]) 0).run Tryz.prog W = .ok (.int .i64 E.k) W:=by
 simp[Instr.field,go_sem];rfl
theorem xU (t:Tb) (cs:Array Value) (w:World) (h:EE w cs t):Calls Tryz.prog 42 #[.agg cs] w fun r w' => ∃v,r = .returned v∧Own w' w.heap.size 3 1 v (aN t).length ((aN t).map fM)∧Below w.heap.size w w':=by
 go_enter func42,ntmps42;go_upto_region 1 with (fail);refine gI (fun W=>Code.wp _ _ _ _ W) fun W0 hb0 hx0 hs0 => ?_;clear hs0;go_wp2;have hown0:Own W0 w.heap.size 3 1 (.slice none 0 0) (jw t 0).length ((jw t 0).map fM):=Own.nil _ _ _ _
 go_loopw [5,3] (fun i v wr => ∃k:Nat,k≤64∧i = .int .i64 k∧Below w.heap.size w wr∧aC wr w.heap.size cs 53∧Own wr w.heap.size 3 1 v (jw t k).length ((jw t k).map fM)) (fun i _ _=>64-(intOf i).toNat)
 case atStart=>exact⟨0,aS _,rfl,hb0,hx0,hown0⟩
 case round=>
  obtain⟨k,hk,rfl,hbr,hx,hown⟩:=hrel;clear hb0 hx0 hown0;have hle:=qY t k
  by_cases hlt:k<64
  ·have hd:decide ((k:Int)<64)=true:=by simp;omega
   go_wp2_with (refine fQ rfl 53 (.tmp 1) rfl w.heap.size 0 rfl cs.toList hx.rd _ underlying53 tab_agg (by rw[iC,h.sz];exact tab_size) ?_)
   refine (JD t cs k _ (h.below hbr)).mono ?_;rintro r w1 ⟨rfl,hb1⟩;have hbel1:=ae hbr hb1;have hx1:=hx.ext hb1;have hfk:=Vz (dG t k);have hown1:=hown.below hb1;clear hb1 hbr hx hown;cases hk2:ou (dG t k)
   ·have hkk:((dG t k).k != 0)=false:=by simpa[ou] using hk2
    have hn:=Lib.hid (Mw hk2);clear hk2;go_wp2;go_roundw
    case rel=>exact⟨k+1,by omega,by go_num,hbel1,hx1,by rw[hn.out];exact hown1⟩
    case measure=>simp[intOf];omega
   have hkk:((dG t k).k != 0)=true:=by simpa[ou] using hk2
   have hn:=Lib.hid (Jy hk2);clear hk2
   go_wp2_with (at_builtin;go_must (refine eH rfl _ _ 29 rfl w.heap.size 3 (.int .i64 0) 1 8 underlying29 int_info rfl (by decide) _ _ _ rfl (hown1.alloc _) (some ⟨w1.heap.size,0,none⟩) 1 1 [fM k] rfl (fun h=>(by cases h)) (ay _) rfl (dN.one _ _ _) (Hr _ _) (by unfold maxLen;omega) (by omega) ?bb ?k))
   case bb=>exact bV hbel1.size _
   intro v2 w2 hown2 hgr2;have hbel2:Below w.heap.size w w2:=(hbel1.alloc hbel1.size _).grown hgr2 (bV hbel1.size _) (fun k hk=>(hown1.ge k hk));have hx2:aC w2 w.heap.size cs 53:=jY (hx1.alloc _) (hown1.alloc _) (by decide) hgr2;go_wp2;go_roundw
   case rel=>exact⟨k+1,by omega,by go_num,hbel2,hx2,by rw[hn.out,jf,jG];exact hown2⟩
   case measure=>simp[intOf];omega
  obtain rfl:k=64:=by omega
  go_wp2;go_ret;exact⟨_,rfl,hown,hbr⟩
theorem one_int1:∀x:Int,([fM x]:List Value).length=1:=fun _=>rfl
def Ra (B:Nat) (w0:World) (c1 c2 c3:Value) (p:Int→Bool):Prop:=∀(n:Int) (W:World),Below B w0 W→B≤W.heap.size→Calls Tryz.prog 151 #[.int .i64 n,c1,c2,c3] W fun e w'=>e = .returned (.bool (p n))∧Below W.heap.size W w'
theorem ym (h:Below B w0 w) (hB:B≤w.heap.size) (hb:Below w.heap.size w w'):Below B w0 w':=h.trans (hb.mono hB)
theorem Mc (l:List Int) (a:Option Addr) (c:Nat) (w:World) (hrd:dN w a (l.map fM)) (hl:l.length≤9223372036854775807) (B:Nat) (w0:World) (c1 c2 c3:Value) (p:Int→Bool) (hT:Ra B w0 c1 c2 c3 p) (hB0:Below B w0 w) (hBs:B≤w.heap.size) :
  Calls Tryz.prog 154 #[.slice a l.length c,.func (.func 151) #[] #[c1,c2,c3]] w fun e w'=>e = .returned (.int .i64 (idx p l))∧Below w.heap.size w w':=by
 go_enter func154,ntmps154;go_wp2
 go_loopw [8] (fun i wr => ∃k:Nat,k≤l.length∧i = .int .i64 k∧Below w.heap.size w wr∧∀i (h:i<l.length),i<k→p l[i]=false) (fun i _=>l.length-(intOf i).toNat)
 case atStart=>exact⟨0,aS _,rfl,Below.refl _ _,fun i _ h=>absurd h (dO _)⟩
 case round=>
  obtain⟨k,hk,rfl,hbr,hp0⟩:=hrel;have hp:=Lib.hid hp0;clear hp0
  by_cases hlt:k<l.length
  ·obtain⟨b,off,rfl,c0⟩:=jl (hrd.below hbr) k hlt
   go_wp2_with fail
   refine (hT l[k] _ (ym hB0 hBs hbr) (aX hBs hbr.size)).mono ?_;rintro e w2 ⟨rfl,hb2⟩;have hbel2:=ae hbr hb2;clear hb2;cases hpk:p l[k]
   ·have hpk':=Lib.hid hpk;clear hpk;go_wp2;go_roundw
    case rel=>exact⟨k+1,by omega,by go_num,hbel2,lH hp.out hlt hpk'.out⟩
    case measure=>simp[intOf];omega
   have hfin:=Lib.hid (tH p l k hlt hp.out hpk);clear hpk;go_wp2;go_ret;exact⟨aR hfin.out.symm,hbel2⟩
  have hfin:=Lib.hid (kT p l fun i h=>hp.out i h (by omega));go_wp2;go_ret;exact⟨aR hfin.out.symm,hbr⟩
theorem Kv (l:List Int) (v:Value) (B:Nat) (w0 w:World) (c1 c2 c3:Value) (p:Int→Bool) (ho:Own w B 3 1 v l.length (l.map fM)) (hl:l.length≤100000) (hT:Ra B w0 c1 c2 c3 p) (hB0:Below B w0 w) (hBs:B≤w.heap.size) :
  Calls Tryz.prog 150 #[v,.func (.func 151) #[] #[c1,c2,c3]] w fun e w' => ∃v',e = .returned v'∧Own w' B 3 1 v' (l.filter (fun x => !p x)).length ((l.filter (fun x => !p x)).map fM)∧Below B w w':=by
 obtain⟨a,c,rfl,hle,hm,hnil,hrd⟩:=ho.rd;unfold maxLen at hm;go_enter func150,ntmps150
 go_wp2_with fail
 refine (Mc l a c _ hrd (by omega) B w0 c1 c2 c3 p hT hB0 hBs).mono ?_;rintro e w1 ⟨rfl,hb1⟩;have ho1:=ho.below hb1;have hG1:Below B w w1:=hb1.mono hBs;have hBs1:B≤w1.heap.size:=aX hBs hb1.size;clear ho;rcases Ao p l with ⟨hi,hall⟩|⟨i0,hi0,hi,he0,hno⟩
 ·have hk:=Lib.hid (BJ.all hall);rw[hi];clear hall hi hb1;go_wp2;go_ret;rw[hk.out];exact⟨_,rfl,ho1,hG1⟩
 have hI0:=Lib.hid (BJ.start hi0 he0 hno);rw[hi];clear he0 hno hi hb1;have hm1:((i0:Int) == -1)=false:=beq_eq_false_iff_ne.2 (by omega);cases a with
 | none=>have:=hnil rfl;omega
 | some ad=>
  obtain⟨g,off,had⟩:∃g off,ad=⟨g,off,none⟩:=by
   rcases ho1.2 with ⟨h,_⟩|⟨g,off,cap,cur,h,_⟩
   ·cases h
   ·exact⟨g,off,by cases h;rfl⟩
  subst had;clear hrd hnil;go_wp2
  go_loopw [5,6] (fun s5 s6 wr => ∃(i j:Nat) (cur:List Int),s5 = .int .i64 i∧s6 = .int .i64 j∧Hid (BJ p l j i cur)∧Own wr B 3 1 (.slice (some ⟨g,off,none⟩) l.length c) l.length (cur.map fM)∧Below B w wr∧B≤wr.heap.size) (fun _ s6 _=>l.length-(intOf s6).toNat)
  case atStart=>exact⟨i0,i0+1,l,rfl,by go_num,hI0,ho1,hG1,hBs1⟩
  case round=>
   clear hI0 ho1 hG1 hBs1 hi0 hm1;obtain⟨i,j,cur,rfl,rfl,hI,hor,hG,hBr⟩:=hrel;have hil:=hI.out.lt;have hjl:=hI.out.le;have hcl:=hI.out.len
   by_cases hlt:j<l.length
   ·have hjc:j<cur.length:=by omega
    have hlj:cur[j]=l[j]:=by have:=hI.out.rest j (ay _);rw[aG hjc,aG hlt] at this;exact aJ this
    obtain⟨_,_,e2,_,_,_,hrr⟩:=hor.rd;simp only[lY] at e2;obtain⟨rfl,_,rfl⟩:=e2;obtain⟨_,_,e3,hc⟩:=jl hrr j hjc;simp only[iM,vC,and_true] at e3;obtain⟨rfl,rfl⟩:=e3;rw[hlj] at hc;have hcl':=Lib.hid hcl;clear hlj hrr hcl;have hcall:=hT l[j] wr (hB0.trans hG) hBr;go_upto_region 8 with (fail);clear hc
    by_cases he:p l[j]=true
    ·have hI2:=Lib.hid (hI.out.skip hlt he);rw[he] at hcall;clear he hI
     go_wp2_with fail
     refine hcall.mono ?_;rintro e w3 ⟨rfl,hb3⟩;have ho3:=hor.below hb3;have hG3:=ym hG hBr hb3;have hBr3:=aX hBr hb3.size;clear hor hG hBr hcall hb3;go_wp2;go_roundw
     case rel=>exact⟨i,j+1,cur,rfl,by go_num,hI2,ho3,hG3,hBr3⟩
     case measure=>simp[intOf];omega
    have he' : p l[j]=false:=by simpa using he
    have hI2:=Lib.hid (hI.out.keep hlt he');rw[he'] at hcall;clear he hI he'
    go_wp2_with fail
    refine hcall.mono ?_;rintro e w3 ⟨rfl,hb3⟩;have ho3:=hor.below hb3;have hG3:=ym hG hBr hb3;have hBr3:=aX hBr hb3.size;clear hor hG hBr hcall hb3;rw[←iR] at ho3;obtain⟨gb,offb,capb,curb,hvb,hBb,hgb,hfb,hsetb⟩:=kW one_int1 (by decide) hcl'.out ho3 i (by omega);cases hvb;have hi0:(i:Int)<(l.length:Int):=by omega
    go_wp2_with (refine aA rfl _ (.tmp 33) (.tmp 32) rfl g (off+i) _ [fM l[j]] rfl rfl rfl curb 3 hgb (by simp;omega) int_size (Hr _ _) ?_)
    intro w5 hq5 hgr5;have hB5:=hsetb w5 l[j] (by rw[rP];exact hq5);rw[iR] at hB5;have hG5:=hG3.grown hgr5 hBr3 (fun k hk=>by cases hk;exact hBb);have hBr5:B≤w5.heap.size:=by have:=hgr5.size;omega
    clear hq5 hsetb hgb ho3 hG3 hgr5 hfb;go_wp2;go_roundw
    case rel=>exact⟨i+1,j+1,cur.set i l[j],by go_num,by go_num,hI2,hB5,hG5,hBr5⟩
    case measure=>simp[intOf];omega
   have hi0:i<l.length:=by omega
   have hfin:Hid (cur.take i=l.filter (fun x => !p x)):=by have:=hI.out.done;rw[iF (l:=l) (by omega)] at this;exact this
   have hcl':=Lib.hid hcl;have hic:(i:Int)≤(c:Int):=by omega
   have hil' : (i:Int)≤(l.length:Int):=by omega
   obtain⟨cs,hgb,hfb,hBg⟩:∃cs,aC wr g cs 3∧off+l.length*1≤cs.size∧B≤g:=by
    rcases hor.2 with ⟨h,_⟩|⟨g',off',cap',cur',h,h0,h2,h3,_,h4,_⟩
    ·cases h
    ·cases h;exact⟨cur',h2,by omega,h0⟩
   have hcl0:=fun ty=>tu (P:=Tryz.prog) wr 29 3 ty _ 1 8 underlying29 int_info (by decide) (by decide) g (off+i) (l.length-i) (c-i) (by omega) cs _ hgb (by simp[Value.cells];omega);rw[←iR] at hor;have htk:=fun w' vs=>Pv one_int1 (w':=w') (vs:=vs) hor i hcl'.out (by omega);simp only[iR] at htk;rw[hfin.out] at htk;have hlen:Hid ((l.filter (fun x => !p x)).length=i):=by show (l.filter (fun x => !p x)).length=i;rw[←hfin.out,kK,hcl'.out];omega
   clear hI hcl hor;go_wp2;go_ret;have hh:=fun vs=>htk (wr.setCells g (off+i) vs) vs (fun cur hc=>by rw[rP];exact hc.setCells vs _);rw[hlen.out] at hh ⊢;exact⟨_,rfl,hh _,hG.grown (aH _ _ _ _) hBr (fun k hk=>by cases hk;exact hBg)⟩
theorem LM (t:Tb) (cs:Array Value) (kind k n:Int) (b1 b2 b3:Nat) (w:World) (h:EE w cs t) (h1:aC w b1 cs 53) (h2:aC w b2 #[.int .i64 kind] 3) (h3:aC w b3 #[.int .i64 k] 3) :
  Calls Tryz.prog 151 #[.int .i64 n,.pointer (some ⟨b1,0,none⟩),.pointer (some ⟨b2,0,none⟩),.pointer (some ⟨b3,0,none⟩)] w fun r w'=>r = .returned (.bool (pU t kind k n))∧Below w.heap.size w w':=by
 go_enter func151,ntmps151
 go_wp2_with (refine fQ rfl 53 (.tmp 1) rfl b1 0 rfl cs.toList h1.rd _ underlying53 tab_agg (by rw[iC,h.sz];exact tab_size) ?_)
 refine (zX t cs n _ h).mono ?_;rintro r w1 ⟨rfl,hb1⟩;have hc2:=(h2.ext hb1).cell;have hc3:=(h3.ext hb1).cell;have hge2:=h2.lt;have hge3:=h3.lt;have hs1:=hb1.size;generalize hE:dG t n=E;have hfin:Hid (pU t kind k n=(decide (E.k≠kind)||decide (E.n≠k))):=Lib.hid (by unfold pU;rw[hE]);clear hE
 by_cases hk:E.k=kind
 ·have hkk:(E.k != kind)=false:=by simp[hk]
  have hfin2:Hid (pU t kind k n=(E.n != k)):=Lib.hid (by rw[hfin.out,lS];simp[hk]);clear hk hfin
  go_wp2_with (refine aA rfl _ (.tmp 6) (.tmp 9) rfl w1.heap.size 0 _ (kP E) rfl rfl rfl _ _ (aC.new _ _ _) (ay 3) entry_size (Ad E) ?_)
  intro w2 hx2 hgr2;have hx2' : aC w2 w1.heap.size (jk E) 89:=by simpa[bA,kP,jk] using hx2
  have hcx:=hx2'.cell;have hc20:=(((h2.ext hb1).alloc _).grown hgr2 (fun e=>by have:=aJ e;omega)).cell;have hc30:=(((h3.ext hb1).alloc _).grown hgr2 (fun e=>by have:=aJ e;omega)).cell;have hbel2:Below w.heap.size w w2:=(hb1.alloc hb1.size _).grown hgr2 (bV hb1.size _) (fun k hk=>by cases hk;exact hb1.size);have e0:(jk E)[0]?=some (.int .i64 E.k):=rfl;have e1:(jk E)[1]?=some (.int .i64 E.n):=rfl;clear hc2 hc3 hx2;go_wp2;go_ret;exact⟨bH hfin2.out.symm,hbel2⟩
 have hkk:(E.k != kind)=true:=by simpa using hk
 have hfin2:Hid (pU t kind k n=true):=Lib.hid (by rw[hfin.out];simp[hk]);clear hk hfin
 go_wp2_with (refine aA rfl _ (.tmp 6) (.tmp 9) rfl w1.heap.size 0 _ (kP E) rfl rfl rfl _ _ (aC.new _ _ _) (ay 3) entry_size (Ad E) ?_)
 intro w2 hx2 hgr2;have hx2' : aC w2 w1.heap.size (jk E) 89:=by simpa[bA,kP,jk] using hx2
 have hcx:=hx2'.cell;have hc20:=(((h2.ext hb1).alloc _).grown hgr2 (fun e=>by have:=aJ e;omega)).cell;have hc30:=(((h3.ext hb1).alloc _).grown hgr2 (fun e=>by have:=aJ e;omega)).cell;have hbel2:Below w.heap.size w w2:=(hb1.alloc hb1.size _).grown hgr2 (bV hb1.size _) (fun k hk=>by cases hk;exact hb1.size);have e0:(jk E)[0]?=some (.int .i64 E.k):=rfl;have e1:(jk E)[1]?=some (.int .i64 E.n):=rfl;clear hc2 hc3 hx2;go_wp2;go_ret;exact⟨bH hfin2.out.symm,hbel2⟩
theorem NG (t:Tb) (cs:Array Value) (kind k:Int) (w:World) (h:EE w cs t):Calls Tryz.prog 141 #[.agg cs,.int .i64 kind,.int .i64 k] w fun r w' => ∃v,r = .returned v∧Own w' w.heap.size 3 1 v (nT t kind k).length ((nT t kind k).map fM)∧Below w.heap.size w w':=by
 go_enter func141,ntmps141;go_upto_region 1 with (fail);refine Ld (fun W=>Code.wp _ _ _ _ W) fun W0 hb0 hx0 hk0 hn0 hs0 => ?_;have hge:w.heap.size+2<W0.heap.size:=hn0.lt;clear hs0
 go_wp2_with (refine fQ rfl 53 (.tmp 3) rfl w.heap.size 0 rfl cs.toList hx0.rd _ underlying53 tab_agg (by rw[iC,h.sz];exact tab_size) ?_)
 refine (xU t cs _ (h.below hb0)).mono ?_;rintro r w1 ⟨v,rfl,ho1,hb1⟩;have hT:Ra W0.heap.size W0 (.pointer (some ⟨w.heap.size,0,none⟩)) (.pointer (some ⟨w.heap.size+1,0,none⟩)) (.pointer (some ⟨w.heap.size+2,0,none⟩)) (pU t kind k):=
  fun n W hW hWs=>LM t cs kind k n _ _ _ W ((h.below hb0).below hW) (hx0.ext hW) (hk0.ext hW) (hn0.ext hW)
 go_wp2_with fail
 refine (Kv (aN t) v W0.heap.size W0 w1 _ _ _ (pU t kind k) ho1 (aX (qY t 64) (by decide)) hT hb1 hb1.size).mono ?_;rintro r w2 ⟨v2,rfl,ho2,hb2⟩;go_wp2;go_ret;exact⟨_,rfl,ho2.mono hb0.size,hb0.trans ((hb1.trans hb2).mono hb0.size)⟩
open Go.Maps
structure PF where
 n:Int
 a:Option Addr
 l:List Int
 c:Nat
def PF.fi (p:PF):Fi:=⟨p.n,p.l⟩
def pE (p:PF):Array Value:=#[.int .i64 p.n,.slice p.a p.l.length p.c]
def pY (p:PF):List Value:=(pE p).toList
theorem jq (p:PF):(pY p).length=2:=rfl
theorem oU (p:PF):(pE p).all (·.oneCell')=true:=by simp[pE,Value.oneCell']
structure PF.good (w:World) (p:PF):Prop where
 le:p.l.length≤p.c
 mx:p.c≤maxLen
 nl:p.a=none→p.c=0
 rd:dN w p.a (p.l.map fM)
theorem PF.good.below {p:PF} (h:p.good w) (hb:Below w.heap.size w w'):p.good w':=⟨h.le,h.mx,h.nl,h.rd.below hb⟩
structure Ll (w:World) (a:Option Addr) (c:Nat) (ps:List PF):Prop where
 le:ps.length≤c
 mx:c≤maxLen
 nl:a=none→c=0
 rd:dN w a (ps.flatMap pY)
 good:∀p∈ps,p.good w
theorem Ll.below {ps:List PF} (h:Ll w a c ps) (hb:Below w.heap.size w w'):Ll w' a c ps:=
 ⟨h.le,h.mx,h.nl,h.rd.below hb,fun p hp=>(h.good p hp).below hb⟩
theorem Dk {ps:List PF} (h:dN w a (ps.flatMap pY)) (k:Nat) (hk:k<ps.length):∃b off p,a=some ⟨b,off,none⟩∧ps[k]?=some p∧w.cell? ⟨b,off+k*2,none⟩=some (.int .i64 p.n)∧w.cell? ⟨b,off+k*2+1,none⟩=some (.slice p.a p.l.length p.c):=by
 obtain⟨b,off,ha,hc⟩:=h.elem jq (by decide) k hk;exact⟨b,off,ps[k],ha,aG hk,hc 0 _ rfl,hc 1 _ rfl⟩
def bZ (ps:List PF) (k:Int):St:=⟨ps.map PF.fi,k⟩
def Ox (a:Option Addr) (n c:Nat) (k:Int):Array Value:=#[.slice a n c,.int .i64 k]
theorem file_size:(Tryz.prog.info? 67).map (·.size)=some 2:=by kernel_rfl
theorem store_size:(Tryz.prog.info? 37).map (·.size)=some 2:=by kernel_rfl
theorem vg (c:Int) (seen:List Int) (p:PF) (r:List Fi):ni c seen (p.fi::r)=if p.n<0∨96<p.n then 3 else if (p.l.length:Int)≠dZ p.n then 2 else if gu c seen p.l≠0 then gu c seen p.l else ni c (seen++p.l) r:=rfl
theorem CX (ps:List PF) (k:Int) (a:Option Addr) (c:Nat) (w:World) (h:Ll w a c ps) (hk64 : -9223372036854775808≤k∧k≤9223372036854775807) :
  Calls Tryz.prog 109 #[.agg (Ox a ps.length c k)] w fun r w'=>r = .returned (.int .i64 (aM (bZ ps k)))∧Below w.heap.size w w':=by
 have hmm:=@run_makeMap Tryz.prog;have hlc:=aX h.le h.mx;unfold maxLen at hlc;unfold Ox;go_enter func109,ntmps109;go_upto_region 1 with (fail);refine gI (fun W=>Code.wp _ _ _ _ W) fun W0 hb0 hx0 hs0 => ?_;clear hs0
 by_cases h4:5<ps.length∨k<0∨80<k
 ·have hfin:Hid (aM (bZ ps k)=4):=Lib.hid (by unfold aM bZ;rw[if_pos (by simpa using h4)]);have hcx:=hx0.cell;have h4' : 5<ps.length∨(¬5<ps.length∧k<0)∨(¬5<ps.length∧¬k<0∧80<k):=by omega
  clear h4;rcases h4' with g|⟨g,g2⟩|⟨g,g2,g3⟩
  all_goals
   go_wp2;go_ret;exact⟨aR hfin.out.symm,hb0⟩
 have hres:Hid (aM (bZ ps k)=ni k (((ps.take 0).map PF.fi).flatMap Fi.b) ((ps.drop 0).map PF.fi)):=Lib.hid (by unfold aM bZ;rw[if_neg (by simpa using h4)];rfl);have g1:¬5<ps.length:=by omega
 have g2:¬k<0:=by omega
 have g3:¬80<k:=by omega
 have hcx:=hx0.cell;clear h4;go_upto_region 4 with (fail);clear hcx hmm;refine Wq (fun W=>Code.wp _ _ _ _ W) fun W1 hb1 hM1 => ?_;have hbel1:=ae hb0 hb1;have hx1:=hx0.ext hb1;have hgm:w.heap.size<W0.heap.size:=hx0.lt;obtain⟨gm,hGM⟩:∃g,g=W0.heap.size:=⟨_,rfl⟩;rw[←hGM] at hM1 hgm ⊢;clear hGM hb0 hx0 hb1;have hM1' : nK W1 gm 0 (rH (((ps.take 0).map PF.fi).flatMap Fi.b)):=hM1;have hcx:=hx1.cell;go_upto_region 5 with (fail);clear hcx hM1
 go_loopw [26] (fun i wr => ∃(q n:Nat),q≤ps.length∧i = .int .i64 q∧n≤12*q∧Below w.heap.size w wr∧aC wr w.heap.size #[.slice a ps.length c,.int .i64 k] 37∧nK wr gm n (rH (((ps.take q).map PF.fi).flatMap Fi.b))∧Hid (aM (bZ ps k)=ni k (((ps.take q).map PF.fi).flatMap Fi.b) ((ps.drop q).map PF.fi))) (fun i _=>ps.length-(intOf i).toNat)
 case atStart=>exact⟨0,0,aS _,rfl,ay _,hbel1,hx1,hM1',hres⟩
 case round=>
  clear hbel1 hx1 hM1' hres;obtain⟨q,n,hq,rfl,hn,hbr,hx,hM,hres⟩:=hrel
  by_cases hlt:q<ps.length
  ·obtain⟨b,off,p,rfl,hp,c0,c1⟩:=Dk (h.below hbr).rd q hlt;have hgood:=(h.good p (bQ hp)).below hbr;have hdr:=drop_at hp;have htk:=take_at hp;rw[hdr,bM] at hres;have htk':=Lib.hid htk;clear hdr htk;generalize hseen:((ps.take q).map PF.fi).flatMap Fi.b=seen at hM hres;have hseen':=Lib.hid hseen;clear hseen hp
   go_wp2_with (refine aI rfl _ _ _ rfl (pE p) rfl rfl rfl file_size (oU _) ?_)
   intro w2 hb2 hf2;have hbel2:=ae hbr hb2;have hx2:=hx.ext hb2;have hM2:=hM.below hb2;have hgood2:=hgood.below hb2;clear hbr hx hM hgood hb2 c0 c1;have hcf:=hf2.cell;have f0:(pE p)[0]?=some (.int .i64 p.n):=rfl;have f1:(pE p)[1]?=some (.slice p.a p.l.length p.c):=rfl
   by_cases hn96:p.n<0∨96<p.n
   ·have hfin:Hid (aM (bZ ps k)=3):=Lib.hid (by rw[hres.out,vg,if_pos hn96]);have hn' : p.n<0∨(¬p.n<0∧96<p.n):=by omega
    clear hn96;rcases hn' with g|⟨g,g2⟩
    all_goals
     go_wp2;go_ret;exact⟨aR hfin.out.symm,hbel2⟩
   have hres2:Hid (aM (bZ ps k)=if (p.l.length:Int)≠dZ p.n then 2 else if gu k seen p.l≠0 then gu k seen p.l else ni k (seen++p.l) ((ps.drop (q+1)).map PF.fi)):=Lib.hid (by rw[hres.out,vg,if_neg hn96]);have g4:¬p.n<0:=by omega
   have g5:¬96<p.n:=by omega
   clear hn96 hres
   by_cases hcnt:(p.l.length:Int)=dZ p.n
   ·have hres3:Hid (aM (bZ ps k)=if gu k seen p.l≠0 then gu k seen p.l else ni k (seen++p.l) ((ps.drop (q+1)).map PF.fi)):=Lib.hid (by rw[hres2.out,if_neg (fun hh=>hh hcnt)]);have hl12:p.l.length≤12:=by have:=xn (n:=p.n) (by omega);omega
    have hcc:=Lib.hid hcnt;clear hres2 hcnt;go_upto_region 9 with (fail);refine aK 7 [_,_,_,_,_,.v (.int .i64 (dZ p.n)),_] (Gf wr.heap.size 1 rfl rfl (Gl hf2 (V:=.slice p.a p.l.length p.c) (by simp[f1,underlying29]) rfl rfl rfl rfl (Gn rfl rfl rfl rfl (Gf wr.heap.size 0 rfl rfl (Gl hf2 (V:=.int .i64 p.n) (by simp[f0]) rfl rfl rfl rfl (ag ?_ (Gb (.bool false) (by simp[go_sem,hcc.out]) rfl rfl rfl rfl rfl (aB))))) (underlying29)))) (fun _=>rfl) rfl ?_
    ·intro ρ y W hw hn hb hd;have E42:=hw 42 4 rfl;have h4:y 4=_:=hd 4 rfl;have EF:∀f,ρ (.func f) = .func (.func f) #[] #[]:=fun f=>hn (.func f) trivial;refine aO _ _ (ah rfl) (aQ rfl (EF _) func133 (by kernel_rfl) (by kernel_rfl) (by simp only[bP,bM,bN,E42,h4,EF];rfl)) ?_;refine (Fe p.n W (by omega)).mono ?_;rintro e w1 ⟨rfl,rfl⟩;exact⟨_,rfl,Below.refl _ _,rfl⟩
    intro y WA hbWA _;have hbelA:=ae hbel2 hbWA;have hxA:=hx2.ext hbWA;have hMA:=hM2.below hbWA;have hfA:=hf2.ext hbWA;have hgA:=hgood2.below hbWA;clear hbel2 hx2 hM2 hf2 hgood2 hbWA hcf;have hcf:=hfA.cell;have hB0:Hid (gu k seen p.l=gu k (seen++p.l.take 0) (p.l.drop 0)):=Lib.hid (by simp);have hM0:nK WA gm n (rH (seen++p.l.take 0)):=by simpa using hMA
    have hle:=hgA.le;have hmx:=hgA.mx;have hrdp:=hgA.rd;unfold maxLen at hmx;clear hMA hgA;go_upto_region 12 with (fail);clear hcf f0 f1 hfA
    go_loopw [48] (fun i wr => ∃(j m:Nat),j≤p.l.length∧i = .int .i64 j∧m≤n+j∧Below w.heap.size w wr∧aC wr w.heap.size #[.slice (some ⟨b,off,none⟩) ps.length c,.int .i64 k] 37∧nK wr gm m (rH (seen++p.l.take j))∧dN wr p.a (p.l.map fM)∧Hid (gu k seen p.l=gu k (seen++p.l.take j) (p.l.drop j))) (fun i _=>p.l.length-(intOf i).toNat)
    case atStart=>exact⟨0,n,aS _,rfl,ay _,hbelA,hxA,hM0,hrdp,hB0⟩
    case round=>
     clear hbelA hxA hM0 hrdp hB0;obtain⟨j,m,hj,rfl,hm,hbr,hx,hM,hrp,hB⟩:=hrel
     by_cases hjl:j<p.l.length
     ·obtain⟨x,hX⟩:∃x,p.l[j]?=some x:=⟨p.l[j],aG hjl⟩;obtain⟨b2,off2,hpa,hc⟩:=jl hrp j hjl;rw[show p.l[j]=x from (bW.1 hX).2] at hc;have hdr:=drop_at hX;have htk:=take_at hX;rw[hdr,uF] at hB;rw[hpa];generalize hs2:seen++p.l.take j=seen2 at hB hM;have htk2:Hid (seen++p.l.take (j+1)=seen2++[x]):=Lib.hid (by rw[htk,←jC,hs2]);have hrp':=Lib.hid hrp;have hpa':=Lib.hid hpa;have hcx:=hx.cell;clear hX hdr htk hs2 hrp hpa;have hjl' : (j:Int)<(p.l.length:Int):=by omega
      by_cases hr3:x < -1∨k≤x
      ·have hfin:Hid (aM (bZ ps k)=3):=Lib.hid (by rw[hres3.out,hB.out,if_pos hr3];rfl);have hr3' : x < -1∨(¬x < -1∧k≤x):=by omega
       clear hr3;rcases hr3' with g6|⟨g6,g7⟩
       all_goals
        go_wp2;go_ret;exact⟨aR hfin.out.symm,hbr⟩
      have g6:¬x < -1:=by omega
      have g7:¬k≤x:=by omega
      have hB2:Hid (gu k seen p.l=if 0≤x∧x∈seen2 then 7 else gu k (seen2++[x]) (p.l.drop (j+1))):=Lib.hid (by rw[hB.out,if_neg hr3]);clear hB hr3;have hlook:=hM.look x (by omega)
      by_cases h7:0≤x∧x∈seen2
      ·have hfin:Hid (aM (bZ ps k)=7):=Lib.hid (by rw[hres3.out,hB2.out,if_pos h7];rfl);rw[show rH seen2 x=true from decide_eq_true h7.2] at hlook;have g8:0≤x:=h7.1;clear h7;go_wp2;go_ret;exact⟨aR hfin.out.symm,hbr⟩
      have hB3:Hid (gu k seen p.l=gu k (seen++p.l.take (j+1)) (p.l.drop (j+1))):=Lib.hid (by rw[hB2.out,if_neg h7,htk2.out]);have h7' : ¬0≤x∨(0≤x∧rH seen2 x=false):=by
       by_cases g8:0≤x
       ·exact .inr ⟨g8,decide_eq_false fun hh=>h7 ⟨g8,hh⟩⟩
       ·exact .inl g8
      clear h7 hB2;rcases h7' with g8|⟨g8,g9⟩
      ·clear hlook
       go_wp2_with (refine vQ hM (by omega) rfl _ _ _ rfl rfl x rfl rfl (by omega) ?_)
       intro w6 hM6 hgr6;rw[Ea,←htk2.out] at hM6;have hbel6:=hbr.grown hgr6 hbr.size (fun k hk=>by cases hk;omega);have hx6:=hx.grown hgr6 (fun e=>by have:=aJ e;omega);have hrp6:=hM.rdv hrp'.out hgr6;clear hbr hx hM hgr6 hcx hc;go_wp2;go_roundw
       case rel=>exact⟨j+1,m+1,by omega,by go_num,by omega,hbel6,hx6,hM6,(by rw[←hpa'.out];exact hrp6),hB3⟩
       case measure=>simp[intOf];omega
      rw[g9] at hlook
      go_wp2_with (refine vQ hM (by omega) rfl _ _ _ rfl rfl x rfl rfl (by omega) ?_)
      intro w6 hM6 hgr6;rw[Ea,←htk2.out] at hM6;have hbel6:=hbr.grown hgr6 hbr.size (fun k hk=>by cases hk;omega);have hx6:=hx.grown hgr6 (fun e=>by have:=aJ e;omega);have hrp6:=hM.rdv hrp'.out hgr6;clear hbr hx hM hgr6 hcx hc;go_wp2;go_roundw
      case rel=>exact⟨j+1,m+1,by omega,by go_num,by omega,hbel6,hx6,hM6,(by rw[←hpa'.out];exact hrp6),hB3⟩
      case measure=>simp[intOf];omega
     have hfin:Hid (aM (bZ ps k)=ni k (((ps.take (q+1)).map PF.fi).flatMap Fi.b) ((ps.drop (q+1)).map PF.fi)):=Lib.hid (by
      have e0:gu k seen p.l=0:=by rw[hB.out,pV (by omega)];rfl
      rw[hres3.out,if_neg (fun hh=>hh e0),htk'.out,jf,eT,hseen'.out];simp[PF.fi])
     have hMq:nK wr gm m (rH (((ps.take (q+1)).map PF.fi).flatMap Fi.b)):=by rw[iF (by omega)] at hM;rw[htk'.out,jf,eT,hseen'.out];simpa[PF.fi] using hM
     have hjl' : ¬(j:Int)<(p.l.length:Int):=by omega
     clear hM hB hres3;go_wp2;go_roundw
     case rel=>exact⟨q+1,m,by omega,by go_num,by omega,hbr,hx,hMq,hfin⟩
     case measure=>simp[intOf];omega
   have hfin:Hid (aM (bZ ps k)=2):=Lib.hid (by rw[hres2.out,if_pos hcnt]);have hcc:((p.l.length:Int) != dZ p.n)=true:=by rw[bne_iff_ne];exact hcnt
   clear hres2 hcnt;go_upto_region 9 with (fail);refine aK 7 [_,_,_,_,_,.v (.int .i64 (dZ p.n)),_] (Gf wr.heap.size 1 rfl rfl (Gl hf2 (V:=.slice p.a p.l.length p.c) (by simp[f1,underlying29]) rfl rfl rfl rfl (Gn rfl rfl rfl rfl (Gf wr.heap.size 0 rfl rfl (Gl hf2 (V:=.int .i64 p.n) (by simp[f0]) rfl rfl rfl rfl (ag ?_ (Gb (.bool true) (by simp[go_sem,hcc]) rfl rfl rfl rfl rfl (aB))))) (underlying29)))) (fun _=>rfl) rfl ?_
   ·intro ρ y W hw hn hb hd;have E42:=hw 42 4 rfl;have h4:y 4=_:=hd 4 rfl;have EF:∀f,ρ (.func f) = .func (.func f) #[] #[]:=fun f=>hn (.func f) trivial;refine aO _ _ (ah rfl) (aQ rfl (EF _) func133 (by kernel_rfl) (by kernel_rfl) (by simp only[bP,bM,bN,E42,h4,EF];rfl)) ?_;refine (Fe p.n W (by omega)).mono ?_;rintro e w1 ⟨rfl,rfl⟩;exact⟨_,rfl,Below.refl _ _,rfl⟩
   intro y WA hbWA _;go_wp2;go_ret;exact⟨aR hfin.out.symm,ae hbel2 hbWA⟩
  have hfin:Hid (aM (bZ ps k)=0):=Lib.hid (by rw[hres.out,pV (by omega)];rfl);go_wp2;go_ret;exact⟨aR hfin.out.symm,hbr⟩
theorem Mg (l:List Int) (a:Option Addr) (c:Nat) (w:World) (hle:l.length≤c) (hnil:a=none→c=0) (hrd:dN w a (l.map fM)) (hb:l.length*8≤140737488355328) :
  Calls Tryz.prog 101 #[.slice a l.length c] w fun e w' => ∃v,e = .returned v∧Own w' w.heap.size 3 1 v l.length (l.map fM)∧Below w.heap.size w w':=by
 cases a with
 | none=>
  have h0:=hnil rfl;have hl:l=[]:=jO (by omega);subst hl;subst h0;have hq:=fun W=>lN (P:=Tryz.prog) W 29 _ none 0 0 0 0 underlying29;go_enter func101,ntmps101;go_wp2;go_ret;exact⟨_,rfl,by simpa using Own.nil _ _ _ _,Below.refl _ _⟩
 | some ad=>
  have hq:=fun W=>lN (P:=Tryz.prog) W 29 _ (some ad) l.length c 0 0 underlying29;go_enter func101,ntmps101
  go_wp2_with (at_builtin;go_must (refine eH rfl _ _ 29 rfl w.heap.size 3 (.int .i64 0) 1 8 underlying29 int_info rfl (by decide) _ 0 [] rfl ?own (some ad) l.length c (l.map fM) rfl (fun h=>(by cases h)) hle (JQ l) ?rd (Jf l) (by unfold maxLen;omega) (by simpa using hb) ?bb ?k))
  case own=>exact⟨rfl,.inr ⟨w.heap.size,0,0,#[],rfl,ay _,aC.new _ _ _,ay _,aS _,by simp,fun j u h=>by simp at h⟩⟩
  case rd=>exact hrd.below ((Below.refl _ _).alloc (ay _) _)
  case bb=>exact fU _ _
  intro v w1 hown hgr;go_wp2;go_ret;exact⟨v,rfl,by simpa using hown,((Below.refl _ _).alloc (ay _) _).grown hgr (fU _ _) (fun k hk=>by cases hk;exact ay _)⟩
theorem file_info:(Tryz.prog.info? 67).map (fun i=>(i.zero,i.size,i.bytes))=some (some (.agg #[.int .i64 0,.slice none 0 0]),2,32):=by kernel_rfl
theorem Uh (p:PF):∀u∈pY p,u.oneCell' = true:=by
 intro u hu;have:=oU p;rw[←ky,dL] at this;exact this u hu
def mP (p:PF):Value:=.slice p.a p.l.length p.c
structure nM (w:World) (B:Nat) (v:Value) (ps:List PF):Prop where
 own:Own w B 67 2 v ps.length (ps.flatMap pY)
 each:∀(i:Nat) p,ps[i]?=some p→Own w B 3 1 (mP p) p.l.length (p.l.map fM)
 apart:∀(i j:Nat) p q,i<j→ps[i]?=some p→ps[j]?=some q→Apart (mP p) (mP q)
theorem nM.rd {ps:List PF} (h:nM w B v ps):∃a c,v = .slice a ps.length c∧Ll w a c ps:=by
 obtain⟨a,c,rfl,h1,h2,h3,h4⟩:=h.own.rd;refine⟨a,c,rfl,h1,h2,h3,h4,fun p hp => ?_⟩;obtain⟨i,hi,rfl⟩:=jE.1 hp;obtain⟨a',c',e,k1,k2,k3,k4⟩:=(h.each i _ (aG hi)).rd;unfold mP at e;simp only[lY] at e;obtain⟨rfl,_,rfl⟩:=e;exact⟨k1,k2,k3,k4⟩
theorem nM.below {ps:List PF} (h:nM w B v ps) (hb:Below w.heap.size w w'):nM w' B v ps:=
 ⟨h.own.below hb,fun i p hp=>(h.each i p hp).below hb,h.apart⟩
theorem nM.mono {ps:List PF} (h:nM w B v ps) (hB:B'≤B):nM w B' v ps:=
 ⟨h.own.mono hB,fun i p hp=>(h.each i p hp).mono hB,h.apart⟩
theorem nM.keep {ps:List PF} (h:nM w B v ps) (hk:aC w g cs T) (h1:T≠67) (h2:T≠3) (hgr:w.grownBy w' (some g)):nM w' B v ps:=
 ⟨ak h.own hk h1 hgr,fun i p hp=>ak (h.each i p hp) hk h2 hgr,h.apart⟩
theorem nM.nil (w:World) (B:Nat):nM w B (.slice none 0 0) []:=⟨Own.nil _ _ _ _,fun i p h=>by simp at h,fun i j p q _ h=>by simp at h⟩
def TL (ps:List PF):Prop:=ps.length*32≤140737488355328∧∀p∈ps,p.l.length*8≤140737488355328
theorem nM.app {ps:List PF} (h:nM w B v ps) {p:PF} (ho:Own w' B 67 2 v' (ps.length+1) (ps.flatMap pY++pY p)) (hp:Own w B 3 1 (mP p) p.l.length (p.l.map fM)) (hgr:w.grownBy w' v.ownBlock)
 (ha:∀(i:Nat) q,ps[i]?=some q→Apart (mP q) (mP p)):nM w' B v' (ps++[p]) where
 own:=by rw[jG,eT];simpa using ho
 each:=fun i q hq=>by
  by_cases hi:i<ps.length
  ·rw[kV hi] at hq;exact zI (h.each i q hq) h.own (by decide) hgr
  rw[kI (by omega)] at hq;have hi0:i-ps.length=0:=by
   rcases si (i-ps.length) with e|e
   ·exact e
   ·rw[dI (by simp;omega)] at hq;cases hq
  rw[hi0] at hq;cases hq;exact zI hp h.own (by decide) hgr
 apart:=fun i j q r hij hq hr=>by
  have hi:i<ps.length:=by have:=(bW.1 hr).1;simp at this;omega
  rw[kV hi] at hq
  by_cases hj:j<ps.length
  ·rw[kV hj] at hr;exact h.apart i j q r hij hq hr
  rw[kI (by omega)] at hr;have hj0:j-ps.length=0:=by
   rcases si (j-ps.length) with e|e
   ·exact e
   ·rw[dI (by simp;omega)] at hr;cases hr
  rw[hj0] at hr;cases hr;exact ha i q hq
theorem slfile_size:(Tryz.prog.info? 35).map (·.size)=some 1:=by kernel_rfl
theorem qV (a:Option Addr) (n c:Nat) (k:Int):(#[Value.slice a n c,Value.int .i64 k]:Array Value).all (·.oneCell')=true:=by simp[Value.oneCell']
def UT (B:Nat) (n:Int) (l:List Int):lX:=⟨fun v w => ∃u,v = .agg #[.int .i64 n,u]∧Own w B 3 1 u l.length (l.map fM),fun _ _ _ hb ⟨u,h1,h2⟩=>⟨u,h1,h2.below hb⟩⟩
def VI (B:Nat) (n:Int) (l:List Int):lX:=⟨fun v w => ∃g p,v = .slice (some ⟨g,0,none⟩) 1 1∧p.n=n∧p.l=l∧dN w (some ⟨g,0,none⟩) (pY p)∧Own w B 3 1 (mP p) p.l.length (p.l.map fM),by
 rintro v w w' hb ⟨g,p,h1,h2,h3,h4,h5⟩;exact⟨g,p,h1,h2,h3,h4.below hb,h5.below hb⟩⟩
theorem Di (ps:List PF) (k:Int) (a:Option Addr) (c:Nat) (w:World) (h:Ll w a c ps) (hz:TL ps) :
  Calls Tryz.prog 61 #[.agg (Ox a ps.length c k)] w fun r w' => ∃v ps',r = .returned (.agg #[v,.int .i64 k])∧nM w' w.heap.size v ps'∧ps'.map PF.fi=ps.map PF.fi∧Below w.heap.size w w':=by
 have hlc:=aX h.le h.mx;unfold maxLen at hlc;unfold Ox;go_enter func61,ntmps61;go_upto_region 1 with (fail);refine qH (fun W=>Code.wp _ _ _ _ W) fun W0 hb0 hx0 hr0 hs0 => ?_;clear hs0;have hcx:=hx0.cell;go_upto_region 2 with (refine aI rfl _ _ _ rfl #[.slice none 0 0,.int .i64 k] rfl rfl rfl store_size (qV none 0 0 k) ?_);clear hcx;intro W1 hb1 ho1;have hbel1:=ae hb0 hb1;have hx1:=hx0.ext hb1;have hr1:=hr0.ext hb1;have hgo:w.heap.size+1<W0.heap.size:=hr0.lt;obtain⟨go,hGO⟩:∃g,g=W0.heap.size:=⟨_,rfl⟩;rw[←hGO] at ho1 hgo ⊢;clear hGO hb0 hx0 hr0 hb1;have hcx:=hx1.cell;go_upto_region 3 with (fail);clear hcx
 go_loopw [12] (fun i wr => ∃(q:Nat) (v:Value) (qs:List PF),q≤ps.length∧i = .int .i64 q∧Below w.heap.size w wr∧aC wr (w.heap.size+1) #[.slice none 0 0,.int .i64 0] 37∧aC wr go #[v,.int .i64 k] 37∧nM wr w.heap.size v qs∧qs.map PF.fi=(ps.take q).map PF.fi) (fun i _=>ps.length-(intOf i).toNat)
 case atStart=>exact⟨0,_,[],aS _,rfl,hbel1,hr1,ho1,nM.nil _ _,rfl⟩
 case round=>
  clear hbel1 hx1 hr1 ho1;obtain⟨q,v,qs,hq,rfl,hbr,hr,ho,hF,hqs0⟩:=hrel;have hqs:=Lib.hid hqs0;clear hqs0
  by_cases hlt:q<ps.length
  ·obtain⟨b,off,p,rfl,hp,c0,c1⟩:=Dk (h.below hbr).rd q hlt;have hgw:=h.good p (bQ hp);have hpz:=hz.2 p (bQ hp);have htk:=take_at hp;have hqs2:Hid (qs.map PF.fi++[p.fi]=(ps.take (q+1)).map PF.fi):=Lib.hid (by rw[htk,jf,hqs.out];rfl);have hql:qs.length≤q:=by have:=congrArg List.length hqs.out;simp[wP hq] at this;omega
   clear hp htk
   go_wp2_with (refine aI rfl _ _ _ rfl (pE p) rfl rfl rfl file_size (oU _) ?_)
   intro w2 hb2 hf2;have hbel2:=ae hbr hb2;have hr2:=hr.ext hb2;have ho2:=ho.ext hb2;have hF2:=hF.below hb2;have hgo2:go<wr.heap.size:=ho.lt;clear hbr hr ho hF hb2 c0 c1;obtain⟨av,cv,rfl,hR2⟩:=hF2.rd;have hlv:=hR2.le;have hmv:=hR2.mx;unfold maxLen at hmv;have hsz1:=hz.1;have hgA:=hgw.below hbel2;go_upto_region 5 with (fail);refine JB 9 10 [] [uy (.pointer (some ⟨go,0,none⟩)),uy (.slice av qs.length cv),uy (.pointer (some ⟨wr.heap.size,0,none⟩)),uy (.int .i64 p.n),uy (.pointer (some ⟨wr.heap.size,1,none⟩)),uy (.slice p.a p.l.length p.c),(oq w2.heap.size 3 1 p.l.length (p.l.map fM)),(UT w2.heap.size p.n p.l),(VI w2.heap.size p.n p.l)] (by kernel_rfl) (by kernel_rfl) (by kernel_rfl) (by kernel_rfl) (by kernel_rfl) (by kernel_rfl) (by decide) (by decide) _ rfl (by kernel_rfl) (ag ?_ (ag ?_ (ag ?_ (ag ?_ (ag ?_ (ag ?_ (ag ?_ (ag ?_ (ag ?_ (aB)))))))))) (aB) rfl ?_
   ·refine bD rfl ?_;intro ρ y W hw hn hb hd;have E3:ρ (.tmp 3) = .pointer (some ⟨go,0,none⟩):=(hn (.tmp 3) rfl).trans rfl;refine aj (.pointer (some ⟨go,0,none⟩)) (ah rfl) (by simp[execOp,go_sem,E3]) rfl
   ·refine bD rfl ?_;intro ρ y W hw hn hb hd;have E16:=hw 16 0 rfl;have h0:y 0 = .pointer (some ⟨go,0,none⟩):=hd 0 rfl;refine aj (.slice av qs.length cv) (ah rfl) (by simp[execOp,go_sem,E16,h0,(ho2.ext hb).cell,underlying35]) rfl
   ·refine bD rfl ?_;intro ρ y W hw hn hb hd;have E5:ρ (.tmp 5) = .pointer (some ⟨wr.heap.size,0,none⟩):=(hn (.tmp 5) rfl).trans rfl;refine aj (.pointer (some ⟨wr.heap.size,0,none⟩)) (ah rfl) (by simp[execOp,go_sem,E5]) rfl
   ·refine bD rfl ?_;intro ρ y W hw hn hb hd;have E18:=hw 18 2 rfl;have h2:y 2 = .pointer (some ⟨wr.heap.size,0,none⟩):=hd 2 rfl;refine aj (.int .i64 p.n) (ah rfl) (by simp[execOp,go_sem,E18,h2,(hf2.ext hb).cell,pE]) rfl
   ·refine bD rfl ?_;intro ρ y W hw hn hb hd;have E5:ρ (.tmp 5) = .pointer (some ⟨wr.heap.size,0,none⟩):=(hn (.tmp 5) rfl).trans rfl;refine aj (.pointer (some ⟨wr.heap.size,1,none⟩)) (ah rfl) (by simp[execOp,go_sem,E5]) rfl
   ·refine bD rfl ?_;intro ρ y W hw hn hb hd;have E20:=hw 20 4 rfl;have h4:y 4 = .pointer (some ⟨wr.heap.size,1,none⟩):=hd 4 rfl;refine aj (.slice p.a p.l.length p.c) (ah rfl) (by simp[execOp,go_sem,E20,h4,(hf2.ext hb).cell,pE]) rfl
   ·refine bD rfl ?_;intro ρ y W hw hn hb hd;have E21:=hw 21 5 rfl;have h5:y 5 = .slice p.a p.l.length p.c:=hd 5 rfl;have EF:∀f,ρ (.func f) = .func (.func f) #[] #[]:=fun f=>hn (.func f) trivial;refine aO _ _ (ah rfl) (aQ rfl (EF _) func101 (by kernel_rfl) (by kernel_rfl) (by simp only[bP,bM,bN,E21,h5,EF];rfl)) ?_;refine (Mg p.l p.a p.c W hgw.le hgw.nl (hgA.below hb).rd hpz).mono ?_;rintro e w1 ⟨u,rfl,ho,hb1⟩;exact⟨u,rfl,hb1,ho.mono hb.size⟩
   ·refine bD rfl ?_;intro ρ y W hw hn hb hd;have E19:=hw 19 3 rfl;have h3:y 3 = .int .i64 p.n:=hd 3 rfl;have E22:=hw 22 6 rfl;have h6:((oq w2.heap.size 3 1 p.l.length (p.l.map fM))).r (y 6) W:=hd 6 rfl;obtain⟨x6,c6,e6,_⟩:=Own.rd h6;refine aj (.agg #[.int .i64 p.n,y 6]) (ah rfl) (by simp[execOp,go_sem,E19,h3,E22,e6]) ?_;exact⟨_,rfl,h6⟩
   ·refine bD rfl ?_;intro ρ y W hw hn hb hd;have E23:=hw 23 7 rfl;have h7:((UT w2.heap.size p.n p.l)).r (y 7) W:=hd 7 rfl;obtain⟨u,e7,ho7⟩:=h7;obtain⟨x7,c7,rfl,_⟩:=Own.rd ho7;refine jL (.slice (some ⟨W.heap.size,0,none⟩) 1 1) (ah rfl) (by simp[execOp,go_sem,E23,e7,pE]) ((Below.refl _ _).alloc (ay _) (.cells (pE ⟨p.n,x7,p.l,c7⟩) 67)) ?_;exact⟨_,⟨p.n,x7,p.l,c7⟩,rfl,rfl,rfl,dN.new _ _ _,ho7.alloc _⟩
   intro ρ y WA o ho hw hn hV hbWA hRWA;cases ho;have hy0:y 0 = .pointer (some ⟨go,0,none⟩):=hRWA 0 (by decide);have hy1:y 1 = .slice av qs.length cv:=hRWA 1 (by decide);have hy2:y 2 = .pointer (some ⟨wr.heap.size,0,none⟩):=hRWA 2 (by decide);have hy3:y 3 = .int .i64 p.n:=hRWA 3 (by decide);have hy4:y 4 = .pointer (some ⟨wr.heap.size,1,none⟩):=hRWA 4 (by decide);have hy5:y 5 = .slice p.a p.l.length p.c:=hRWA 5 (by decide);have hy6:((oq w2.heap.size 3 1 p.l.length (p.l.map fM))).r (y 6) WA:=hRWA 6 (by decide);have hy7:((UT w2.heap.size p.n p.l)).r (y 7) WA:=hRWA 7 (by decide);have hy8:((VI w2.heap.size p.n p.l)).r (y 8) WA:=hRWA 8 (by decide);have E17:=hw 17 1 rfl;rw[hy1] at E17;have E24:=hw 24 8 rfl;have EC:∀v,ρ (.const v)=v:=fun v=>hn (.const v) trivial;have EF:∀f,ρ (.func f) = .func (.func f) #[] #[]:=fun f=>hn (.func f) trivial;obtain⟨g8,p8,e8,hn8,hl8,hrd8,hou8⟩:=hy8;refine II (ah rfl) (pz (.tmp 17) (.tmp 24) 35 rfl w.heap.size 67 _ 2 32 underlying35 file_info rfl (by decide) _ _ _ E17 (hF2.own.below hbWA) _ 1 1 (pY p8) (E24.trans e8) (fun e=>by cases e) (ay _) rfl hrd8 (Uh _) (by unfold maxLen;omega) (by omega) (aX hbel2.size hbWA.size)) ?_;rintro v2 w4 ⟨hown4,hgr4,hcase4⟩;clear hRWA hw hn hV;simp only[lay,Nat.reduceAdd,Nat.reduceLT,Nat.reduceEqDiff,reduceIte,decide_true,decide_false,if_true,uR,if_false,Cj,qw,ve,zC,BS,zZ,hy0,hy1,hy2,hy3,hy4,hy5];clear hy0 hy1 hy2 hy3 hy4 hy5;have hbelA:=ae hbel2 hbWA;have hrA:=hr2.ext hbWA;have hoA:=ho2.ext hbWA;have hFA:=hF2.below hbWA;have hapn:∀(i:Nat) r,qs[i]?=some r→Apart (mP r) (mP p8):=by intro i r hi g hg hg8;have h1:=IA (hF2.each i r hi) g hg;have h2:=hou8.ge g hg8;omega
   have hown4' : Own w4 w.heap.size 67 2 v2 (qs.length+1) (qs.flatMap pY++pY p8):=hown4;have hF4:=hFA.app hown4' (hou8.mono hbel2.size) hgr4 hapn;have hr4:=jY hrA hFA.own (by decide) hgr4;have ho4:=jY hoA hFA.own (by decide) hgr4;have hbel4:Below w.heap.size w w4:=hbelA.grown hgr4 hbelA.size (fun k hk=>hFA.own.ge k hk);have hqs3:Hid ((qs++[p8]).map PF.fi=(ps.take (q+1)).map PF.fi):=Lib.hid (by rw[jf,←hqs2.out];congr 1;simp[PF.fi,hn8,hl8]);obtain⟨a4,c4,rfl,_⟩:=hF4.rd;rw[jG,Cn] at hF4 ⊢;clear hbel2 hr2 ho2 hF2 hbWA hbelA hrA hoA hFA hown4 hown4' hgr4 hapn hou8 hrd8 hf2 hcase4
   go_wp2_with (refine aA rfl _ _ _ rfl go 0 _ [.slice a4 (qs.length+1) c4] rfl rfl rfl _ _ ho4 (show 0+1≤2 by decide) slfile_size (fun u hu=>by cases bq.1 hu;rfl) ?_)
   intro w5 ho5 hgr5;have hr5:aC w5 (w.heap.size+1) _ _:=hr4.grown hgr5 (fun e=>by have:=aJ e;omega);have hF5:=hF4.keep ho4 (by decide) (by decide) hgr5;have hbel5:=hbel4.grown hgr5 hbel4.size (fun k hk=>by cases hk;omega);have ho5' : aC w5 go #[.slice a4 (qs.length+1) c4,.int .i64 k] 37:=ho5;clear ho4 hr4 hF4 hbel4 hgr5 ho5;go_wp2;go_roundw
   case rel=>exact⟨q+1,_,_,by omega,by go_num,hbel5,hr5,ho5',hF5,hqs3.out⟩
   case measure=>simp[intOf];omega
  obtain rfl:q=ps.length:=by omega
  have hfin:Hid (qs.map PF.fi=ps.map PF.fi):=Lib.hid (by rw[hqs.out,yY]);obtain⟨av,cv,rfl,_⟩:=hF.rd;have hco:=ho.cell
  go_wp2_with (refine az rfl _ _ _ rfl (w.heap.size+1) #[.slice av qs.length cv,.int .i64 k] rfl rfl _ _ hr rfl store_size (qV _ _ _ _) ?_)
  intro w5 hr5 hgr5;have hF5:=hF.keep hr (by decide) (by decide) hgr5;have hbel5:=hbr.grown hgr5 hbr.size (fun k hk=>by cases hk;omega);go_wp2;refine bodyPost_ret (v:=.agg #[.slice av qs.length cv,.int .i64 k]) (eu results61 _ _ (w.heap.size+1) _ _ _ rfl hr5 underlying37 rfl store_size) rfl ?_;exact⟨_,_,rfl,hF5,hfin.out,hbel5⟩
theorem SL (n:Int) (w:World):Calls Tryz.prog 99 #[.int .i64 n] w fun r w'=>r = .returned (.tuple #[.agg #[.slice none 0 0,.int .i64 (Ta n)],.int .i64 (newE n)])∧Below w.heap.size w w':=by
 go_enter func99,ntmps99
 by_cases h:n<0∨80<n
 ·have e1:newE n=4:=if_pos h;have e2:Ta n=0:=if_pos h;rw[e1,e2];have h' : n<0∨(¬n<0∧80<n):=by omega
  clear h e1 e2;rcases h' with g|⟨g,g2⟩
  all_goals
   go_wp2_with (refine aI rfl _ _ _ rfl #[.slice none 0 0,.int .i64 0] rfl rfl rfl store_size (qV none 0 0 0) ?_)
   intro w1 hb1 hr1;go_wp2;refine bodyPost_ret (v:=.tuple #[.agg #[.slice none 0 0,.int .i64 0],.int .i64 4]) (fH results99 _ _ w.heap.size _ _ _ _ rfl rfl hr1 underlying37 rfl store_size) rfl ?_;exact⟨rfl,hb1⟩
 have e1:newE n=0:=if_neg h;have e2:Ta n=n:=if_neg h;rw[e1,e2];have g:¬n<0:=by omega
 have g2:¬80<n:=by omega
 clear h e1 e2
 go_wp2_with (refine aI rfl _ _ _ rfl #[.slice none 0 0,.int .i64 n] rfl rfl rfl store_size (qV none 0 0 n) ?_)
 intro w1 hb1 hr1;go_wp2;refine bodyPost_ret (v:=.tuple #[.agg #[.slice none 0 0,.int .i64 n],.int .i64 0]) (fH results99 _ _ w.heap.size _ _ _ _ rfl rfl hr1 underlying37 rfl store_size) rfl ?_;exact⟨rfl,hb1⟩
def vJ (ps:List PF):List Int:=ps.flatMap PF.l
theorem zG (ps:List PF) (k:Int):kE (bZ ps k)=vJ ps:=by
 unfold kE bZ vJ;rw[Cg];rfl
theorem Mx {ps:List PF} {p:PF} (hp:ps[q]?=some p):vJ (ps.take (q+1))=vJ (ps.take q)++p.l:=by
 unfold vJ;rw[take_at hp,eT];simp
theorem Ay (ps:List PF) (k x:Int) (a:Option Addr) (c:Nat) (w:World) (h:Ll w a c ps) :
  Calls Tryz.prog 32 #[.agg (Ox a ps.length c k),.int .i64 x] w fun r w'=>r = .returned (.bool (gD (bZ ps k) x))∧Below w.heap.size w w':=by
 have hlc:=aX h.le h.mx;unfold maxLen at hlc;unfold Ox;go_enter func32,ntmps32;go_upto_region 1 with (fail);refine gI (fun W=>Code.wp _ _ _ _ W) fun W0 hb0 hx0 hs0 => ?_;clear hs0;have hcx:=hx0.cell;go_upto_region 2 with (fail);clear hcx hx0
 go_loopw [12] (fun i wr => ∃(q:Nat),q≤ps.length∧i = .int .i64 q∧¬x∈vJ (ps.take q)∧Below w.heap.size w wr) (fun i _=>ps.length-(intOf i).toNat)
 case atStart=>exact⟨0,aS _,rfl,by simp[vJ],hb0⟩
 case round=>
  clear hb0;obtain⟨q,hq,rfl,hm0,hbr⟩:=hrel;have hm:=Lib.hid hm0;clear hm0
  by_cases hlt:q<ps.length
  ·obtain⟨b,off,p,rfl,hp,c0,c1⟩:=Dk (h.below hbr).rd q hlt;have hgw:=h.good p (bQ hp);have hst:=Lib.hid (Mx hp);have hin:Hid (∀y∈p.l,y∈vJ ps):=Lib.hid (fun y hy=>jP.2 ⟨p,bQ hp,hy⟩);have hle:=aX hgw.le hgw.mx;unfold maxLen at hle;clear hp
   go_wp2_with (refine aI rfl _ _ _ rfl (pE p) rfl rfl rfl file_size (oU _) ?_)
   intro w2 hb2 hf2;have hbel2:=ae hbr hb2;have hcf:=hf2.cell;have f0:(pE p)[0]?=some (.int .i64 p.n):=rfl;have f1:(pE p)[1]?=some (.slice p.a p.l.length p.c):=rfl;clear hbr hb2 c0 c1;go_upto_region 5 with (fail);clear hcf f0 f1 hf2
   go_loopw [19] (fun i wr => ∃(j:Nat),j≤p.l.length∧i = .int .i64 j∧¬x∈p.l.take j∧Below w.heap.size w wr) (fun i _=>p.l.length-(intOf i).toNat)
   case atStart=>exact⟨0,aS _,rfl,by simp,hbel2⟩
   case round=>
    clear hbel2;obtain⟨j,hj,rfl,hx0,hbr⟩:=hrel;have hx:=Lib.hid hx0;clear hx0
    by_cases hjl:j<p.l.length
    ·obtain⟨b2,off2,hpa,hc⟩:=jl (hgw.rd.below hbr) j hjl;have htk:p.l.take (j+1)=p.l.take j++[p.l[j]]:=take_at (aG hjl);have hyin:=Lib.hid (hin.out _ (dP hjl));have htk':=Lib.hid htk;rw[hpa];clear htk hpa;generalize p.l[j]=y at hc htk' hyin
     by_cases hy:y=x
     ·have hfin:Hid (gD (bZ ps k) x=true):=Lib.hid (by unfold gD;rw[zG,←hy];exact decide_eq_true hyin.out);subst hy;go_wp2;go_ret;exact⟨bH hfin.out.symm,hbr⟩
     have hnx:Hid (¬x∈p.l.take (j+1)):=Lib.hid (by
      rw[htk'.out];intro hh;rcases fJ.1 hh with hh|hh
      ·exact hx.out hh
      ·exact hy (bq.1 hh).symm)
     have hyb:(y==x)=false:=beq_eq_false_iff_ne.2 hy;clear hy;go_wp2;go_roundw
     case rel=>exact⟨j+1,by omega,by go_num,hnx.out,hbr⟩
     case measure=>simp[intOf];omega
    have hnx:Hid (¬x∈vJ (ps.take (q+1))):=Lib.hid (by
     have h9:=hx.out;rw[iF (by omega)] at h9;rw[hst.out];intro hh;rcases fJ.1 hh with hh|hh
     ·exact hm.out hh
     ·exact h9 hh)
    go_wp2;go_roundw
    case rel=>exact⟨q+1,by omega,by go_num,hnx.out,hbr⟩
    case measure=>simp[intOf];omega
  have hfin:Hid (gD (bZ ps k) x=false):=Lib.hid (by have h9:=hm.out;rw[iF (by omega)] at h9;unfold gD;rw[zG];exact decide_eq_false h9);go_wp2;go_ret;exact⟨bH hfin.out.symm,hbr⟩
theorem NQ (l:List Int) (x:Int) (a:Option Addr) (c:Nat) (w:World) (hrd:dN w a (l.map fM)) (hl:l.length≤9223372036854775807) :
  Calls Tryz.prog 153 #[.slice a l.length c,.int .i64 x] w fun e w'=>e = .returned (.int .i64 (idx (fun y=>decide (x=y)) l))∧Below w.heap.size w w':=by
 go_enter func153,ntmps153;go_wp2
 go_loopw [8] (fun i wr => ∃k:Nat,k≤l.length∧i = .int .i64 k∧Below w.heap.size w wr∧∀i (h:i<l.length),i<k→(fun y=>decide (x=y)) l[i]=false) (fun i _=>l.length-(intOf i).toNat)
 case atStart=>exact⟨0,aS _,rfl,Below.refl _ _,fun i _ h=>absurd h (dO _)⟩
 case round=>
  obtain⟨k,hk,rfl,hbr,hp0⟩:=hrel;have hp:=Lib.hid hp0;clear hp0
  by_cases hlt:k<l.length
  ·obtain⟨b,off,rfl,hc⟩:=jl (hrd.below hbr) k hlt
   by_cases he:x=l[k]
   ·have hfin:=Lib.hid (tH (fun y=>decide (x=y)) l k hlt hp.out (decide_eq_true he));have hb:(x==l[k])=true:=beq_iff_eq.2 he;clear he;go_wp2;go_ret;exact⟨aR hfin.out.symm,hbr⟩
   have hpk:=Lib.hid (show (fun y=>decide (x=y)) l[k]=false from decide_eq_false he);have hb:(x==l[k])=false:=beq_eq_false_iff_ne.2 he;clear he;go_wp2;go_roundw
   case rel=>exact⟨k+1,by omega,by go_num,hbr,lH hp.out hlt hpk.out⟩
   case measure=>simp[intOf];omega
  have hfin:=Lib.hid (kT (fun y=>decide (x=y)) l fun i h=>hp.out i h (by omega));go_wp2;go_ret;exact⟨aR hfin.out.symm,hbr⟩
theorem GZ (l:List Int) (x:Int) (a:Option Addr) (c:Nat) (w:World) (hrd:dN w a (l.map fM)) (hl:l.length≤9223372036854775807) :
  Calls Tryz.prog 146 #[.slice a l.length c,.int .i64 x] w fun e w'=>e = .returned (.bool (decide (x∈l)))∧Below w.heap.size w w':=by
 go_enter func146,ntmps146
 go_wp2_with fail
 refine (NQ l x a c _ hrd hl).mono ?_;rintro e w2 ⟨rfl,hb2⟩;have hfin:=Lib.hid ((nC (fun y=>decide (x=y)) l).trans (TS l x));go_wp2;go_ret;exact⟨bH hfin.out,hb2⟩
def hasB (x:Int) (p:PF):Bool:=decide (x∈p.l)
theorem Pq (p:PF) (g:Nat) (x:Int) (w:World) (hg:aC w g #[.int .i64 x] 3) (hp:p.good w) :
  Calls Tryz.prog 145 #[.agg #[.int .i64 p.n,.slice p.a p.l.length p.c],.pointer (some ⟨g,0,none⟩)] w fun r w'=>r = .returned (.bool (hasB x p))∧Below w.heap.size w w':=by
 have hle:=aX hp.le hp.mx;unfold maxLen at hle;go_enter func145,ntmps145;go_upto_region 1 with (fail);refine gI (fun W=>Code.wp _ _ _ _ W) fun W0 hb0 hx0 hs0 => ?_;clear hs0;have hgx:=(hg.ext hb0).cell 0;have hcx:=hx0.cell;have hp0:=hp.below hb0
 go_wp2_with fail
 refine (GZ p.l x p.a p.c _ hp0.rd (by omega)).mono ?_;rintro e w2 ⟨rfl,hb2⟩;go_wp2;go_ret;exact⟨rfl,ae hb0 hb2⟩
theorem Vh {ps:List PF} (h:dN w a (ps.flatMap pY)) (k:Nat) (hk:k<ps.length):∃b off,a=some ⟨b,off,none⟩∧w.cell? ⟨b,off+k*2,none⟩=some (.int .i64 ps[k].n)∧w.cell? ⟨b,off+k*2+1,none⟩=some (.slice ps[k].a ps[k].l.length ps[k].c):=by
 obtain⟨b,off,ha,hc⟩:=h.elem jq (by decide) k hk;exact⟨b,off,ha,hc 0 _ rfl,hc 1 _ rfl⟩
theorem PM (l:List PF) (a:Option Addr) (c:Nat) (w:World) (hrd:dN w a (l.flatMap pY)) (hl:l.length≤9223372036854775807) (g:Nat) (x:Int) (hg:aC w g #[.int .i64 x] 3) (hgood:∀p∈l,p.good w) :
  Calls Tryz.prog 152 #[.slice a l.length c,.func (.func 145) #[] #[.pointer (some ⟨g,0,none⟩)]] w fun e w'=>e = .returned (.int .i64 (idx (hasB x) l))∧Below w.heap.size w w':=by
 go_enter func152,ntmps152;go_wp2
 go_loopw [8] (fun i wr => ∃k:Nat,k≤l.length∧i = .int .i64 k∧Below w.heap.size w wr∧∀i (h:i<l.length),i<k→(hasB x) l[i]=false) (fun i _=>l.length-(intOf i).toNat)
 case atStart=>exact⟨0,aS _,rfl,Below.refl _ _,fun i _ h=>absurd h (dO _)⟩
 case round=>
  obtain⟨k,hk,rfl,hbr,hp0⟩:=hrel;have hp:=Lib.hid hp0;clear hp0
  by_cases hlt:k<l.length
  ·obtain⟨b,off,rfl,c0,c1⟩:=Vh (hrd.below hbr) k hlt
   go_wp2_with fail
   refine (Pq l[k] g x _ (hg.ext hbr) ((hgood _ (dP hlt)).below hbr)).mono ?_;rintro e w2 ⟨rfl,hb2⟩;have hbel2:=ae hbr hb2;clear hb2;cases hpk:(hasB x) l[k]
   ·have hpk':=Lib.hid hpk;clear hpk;go_wp2;go_roundw
    case rel=>exact⟨k+1,by omega,by go_num,hbel2,lH hp.out hlt hpk'.out⟩
    case measure=>simp[intOf];omega
   have hfin:=Lib.hid (tH (hasB x) l k hlt hp.out hpk);clear hpk;go_wp2;go_ret;exact⟨aR hfin.out.symm,hbel2⟩
  have hfin:=Lib.hid (kT (hasB x) l fun i h=>hp.out i h (by omega));go_wp2;go_ret;exact⟨aR hfin.out.symm,hbr⟩
theorem PT (l:List PF) (a:Option Addr) (c:Nat) (w:World) (hrd:dN w a (l.flatMap pY)) (hl:l.length≤9223372036854775807) (g:Nat) (x:Int) (hg:aC w g #[.int .i64 x] 3) (hgood:∀p∈l,p.good w) :
  Calls Tryz.prog 144 #[.slice a l.length c,.func (.func 145) #[] #[.pointer (some ⟨g,0,none⟩)]] w fun e w'=>e = .returned (.bool (l.any (hasB x)))∧Below w.heap.size w w':=by
 go_enter func144,ntmps144
 go_wp2_with fail
 refine (PM l a c _ hrd hl g x hg hgood).mono ?_;rintro e w2 ⟨rfl,hb2⟩;go_wp2;go_ret;exact⟨bH (nC _ _),hb2⟩
theorem Su (ps:List PF) (k x:Int):ps.any (hasB x)=gD (bZ ps k) x:=by
 unfold gD hasB;rw[zG,lS,iW,decide_eq_true_eq];unfold vJ;rw[jP];constructor
 ·rintro⟨p,hp,h⟩;exact⟨p,hp,of_decide_eq_true h⟩
 ·rintro⟨p,hp,h⟩;exact⟨p,hp,decide_eq_true h⟩
theorem NL (ps:List PF) (k:Int) (a:Option Addr) (c g:Nat) (w:World) (h:Ll w a c ps) (hg:aC w g (Ox a ps.length c k) 37) (hk:k≤80) :
  Calls Tryz.prog 129 #[.pointer (some ⟨g,0,none⟩)] w fun r w'=>r = .returned (.int .i64 (gG (bZ ps k)))∧Below w.heap.size w w':=by
 have hlc:=aX h.le h.mx;unfold maxLen at hlc;unfold Ox at hg;go_enter func129,ntmps129;have hcx:=hg.cell;go_upto_region 2 with (fail);clear hcx
 go_loopw [8] (fun i wr => ∃(q:Nat),((q:Int)≤k∨q=0)∧i = .int .i64 q∧Below w.heap.size w wr∧∀i:Nat,i<q→gD (bZ ps k) i=true) (fun i _=>k.toNat-(intOf i).toNat)
 case atStart=>exact⟨0,.inr rfl,rfl,Below.refl _ _,fun i hi=>absurd hi (dO _)⟩
 case round=>
  obtain⟨q,hq,rfl,hbr,hu0⟩:=hrel;have hu:=Lib.hid hu0;clear hu0
  by_cases hlt:(q:Int)<k
  ·have hgr:=hg.ext hbr;go_upto_region 4 with (refine IU rfl _ _ _ rfl (.int .i64 q) rfl rfl rfl int_size rfl ?_);intro w2 hb2 hq2;have hbel2:=ae hbr hb2;have hx2:=hgr.ext hb2;have hcx:=hx2.cell;have h2:=h.below hbel2;clear hbr hb2 hgr
   go_wp2_with fail
   refine (PT ps a c _ h2.rd (by omega) wr.heap.size q hq2 h2.good).mono ?_;rintro e w3 ⟨rfl,hb3⟩;have hbel3:=ae hbel2 hb3;have hq3:=(hq2.ext hb3).cell 0;rw[Su ps k];clear hcx hbel2 hx2 hb3;cases hus:gD (bZ ps k) q
   ·have hfin:=Lib.hid (PE (s:=bZ ps k) hlt hu.out hus);clear hus;go_wp2;go_ret;exact⟨aR hfin.out.symm,hbel3⟩
   have hnx:Hid (∀i:Nat,i<q+1→gD (bZ ps k) i=true):=Lib.hid (fun i hi=>by
    by_cases e:i=q
    ·subst e;exact hus
    ·exact hu.out i (by omega))
   clear hus;go_wp2;go_roundw
   case rel=>exact⟨q+1,by omega,by go_num,hbel3,hnx.out⟩
   case measure=>simp[intOf];omega
  have hfin:=Lib.hid (JR (s:=bZ ps k) (fun i hi=>hu.out i (by have:(i:Int)<k:=hi;omega)));go_wp2;go_ret;exact⟨aR hfin.out.symm,hbr⟩
theorem EK {ps:List PF} {k:Int} (h:aM (bZ ps k)=0):TL ps:=by
 have h1:=jv h;have h2:ps.length≤5:=by simpa[bZ] using h1.1
 refine⟨by omega,fun p hp => ?_⟩;have h3:=zk h p.fi (by simpa[bZ] using Cq hp);have h4:=xn h3.2.1;have h5:(p.l.length:Int)=dZ p.n:=h3.2.2.1;have h6:dZ p.n≤12:=h4;omega
theorem TR (cur:Array Value) (o:Nat) (x y:Value) (h:cur[o+1]?=some y):bA cur o [x,y]=cur.setIfInBounds o x:=by
 show (cur.setIfInBounds o x).setIfInBounds (o+1) y=cur.setIfInBounds o x;apply mg;intro i;rw[zM]
 by_cases e:o+1=i
 ·subst e;have hlt:o+1<cur.size:=(gW.1 h).1;rw[if_pos rfl,if_pos (by simpa using hlt),fK (by omega),h]
 ·rw[if_neg e]
theorem TM (cur:Array Value) (o:Nat) (x y:Value) (h:cur[o]?=some x):bA cur o [x,y]=cur.setIfInBounds (o+1) y:=by
 show (cur.setIfInBounds o x).setIfInBounds (o+1) y=cur.setIfInBounds (o+1) y;congr 1;apply mg;intro i;rw[zM]
 by_cases e:o=i
 ·subst e;have hlt:o<cur.size:=(gW.1 h).1;rw[if_pos rfl,if_pos hlt,h]
 ·rw[if_neg e]
theorem nM.set {ps:List PF} (h:nM w B v ps) (hk:k<ps.length) {p' : PF} (ho:Own w' B 67 2 v ps.length ((ps.set k p').flatMap pY)) (hp:Own w' B 3 1 (mP p') p'.l.length (p'.l.map fM))
 (hoth:∀(i:Nat) q,i≠k→ps[i]?=some q→Own w' B 3 1 (mP q) q.l.length (q.l.map fM)) (ha:∀(i:Nat) q,i≠k→ps[i]?=some q→Apart (mP p') (mP q)):nM w' B v (ps.set k p') where
 own:=by rw[bI];exact ho
 each:=fun i q hq=>by
  rw[mf] at hq
  by_cases e:k=i
  ·rw[if_pos e] at hq
   by_cases hi:i<ps.length
   ·rw[if_pos (by omega)] at hq;cases hq;exact hp
   ·rw[if_neg (by omega)] at hq;cases hq
  rw[if_neg e] at hq;exact hoth i q (fun e2=>e e2.symm) hq
 apart:=fun i j q r hij hq hr=>by
  rw[mf] at hq hr
  by_cases e:k=i
  ·rw[if_pos e,if_pos (by omega)] at hq;cases hq;rw[if_neg (by omega)] at hr;exact ha j r (by omega) hr
  rw[if_neg e] at hq
  by_cases e2:k=j
  ·rw[if_pos e2,if_pos (by omega)] at hr;cases hr;exact (ha i q (by omega) hq).symm
  rw[if_neg e2] at hr;exact h.apart i j q r hij hq hr
theorem nM.file {ps:List PF} (h:nM w B v ps) {p:PF} (hp:ps[k]?=some p) :
  ∃g off cap cur,v = .slice (some ⟨g,off,none⟩) ps.length cap∧B≤g∧aC w g cur 67∧off+k*2+2≤cur.size∧cur[off+k*2]?=some (.int .i64 p.n)∧cur[off+k*2+1]?=some (.slice p.a p.l.length p.c) ∧
   (∀w' n,aC w' g (cur.setIfInBounds (off+k*2) (.int .i64 n)) 67→w.grownBy w' (some g)→nM w' B v (ps.set k ⟨n,p.a,p.l,p.c⟩)) ∧
   (∀w' a l c,aC w' g (cur.setIfInBounds (off+k*2+1) (.slice a l.length c)) 67→w.grownBy w' (some g)→Own w B 3 1 (.slice a l.length c) l.length (l.map fM)→(∀(j:Nat) q,j≠k→ps[j]?=some q→Apart (.slice a l.length c) (mP q))→nM w' B v (ps.set k ⟨p.n,a,l,c⟩)):=by
 have hk:=(bW.1 hp).1;have hpe:=(bW.1 hp).2;obtain⟨g,off,cap,cur,hv,hB,hblk,hfit,hset⟩:=kW jq (by decide) rfl h.own k hk;have hcells:∀j u,(ps.flatMap pY)[j]?=some u→cur[off+j]?=some u:=by
  rcases h.own.2 with ⟨h1,h2⟩|⟨g',off',cap',cur',hv',hB',hblk',_,_,_,hc⟩
  ·omega
  rw[hv] at hv';cases hv';have:cur=cur':=by unfold aC at hblk hblk';rw[hblk] at hblk';simpa using hblk'
  subst this;exact hc
 have c0:cur[off+k*2]?=some (.int .i64 p.n):=by have:=hcells (k*2) (.int .i64 p.n) (by have:=flat_get pY 2 jq ps k hk 0 (.int .i64 p.n) (by rw[hpe];rfl);simpa using this);exact this
 have c1:cur[off+k*2+1]?=some (.slice p.a p.l.length p.c):=by have:=hcells (k*2+1) (.slice p.a p.l.length p.c) (flat_get pY 2 jq ps k hk 1 _ (by rw[hpe];rfl));simpa[mU] using this
 have hoth:∀ {w' : World},w.grownBy w' (some g)→∀(i:Nat) q,ps[i]?=some q→Own w' B 3 1 (mP q) q.l.length (q.l.map fM):=fun hgr i q hq=>ak (h.each i q hq) hblk (by decide) hgr;have hap:∀(j:Nat) q,j≠k→ps[j]?=some q→Apart (mP p) (mP q):=fun j q hj hq=>by
  rcases uJ hj with h1|h1
  ·exact (h.apart j k q p h1 hq hp).symm
  ·exact h.apart k j p q h1 hp hq
 refine⟨g,off,cap,cur,hv,hB,hblk,hfit,c0,c1,fun w' n hb hgr => ?_,fun w' a l c hb hgr ho ha => ?_⟩
 ·refine h.set hk (hset w' ⟨n,p.a,p.l,p.c⟩ ?_) (hoth hgr k p hp) (fun i q _ hq=>hoth hgr i q hq) hap;rw[show pY ⟨n,p.a,p.l,p.c⟩=[.int .i64 n,.slice p.a p.l.length p.c] from rfl,TR _ _ _ _ c1];exact hb
 refine h.set hk (hset w' ⟨p.n,a,l,c⟩ ?_) (ak ho hblk (by decide) hgr) (fun i q _ hq=>hoth hgr i q hq) ha;rw[show pY ⟨p.n,a,l,c⟩=[.int .i64 p.n,.slice a l.length c] from rfl,TM _ _ _ _ c0];exact hb
theorem nM.num {ps:List PF} (h:nM w B v ps) {p:PF} (hp:ps[k]?=some p) (hi:i<p.l.length) :
  ∃g off cap cur,p.a=some ⟨g,off,none⟩∧p.c=cap∧B≤g∧aC w g cur 3∧off+i+1≤cur.size ∧
   ∀w' x,aC w' g (bA cur (off+i) [.int .i64 x]) 3→w.grownBy w' (some g)→nM w' B v (ps.set k ⟨p.n,p.a,p.l.set i x,p.c⟩):=by
 have hk:=(bW.1 hp).1;have hpe:=(bW.1 hp).2;have hown:=h.each k p hp;rw[←iR] at hown;obtain⟨g,off,cap,cur,hv,hB,hblk,hfit,hset⟩:=kW (fun x:Int=>(rfl : [fM x].length=1)) (by decide) rfl hown i hi;unfold mP at hv;simp only[lY] at hv;obtain⟨ha,_,hc⟩:=hv;refine⟨g,off,cap,cur,ha,hc,hB,hblk,(by simpa using hfit),fun w' x hb hgr => ?_⟩;have hap:∀(j:Nat) q,j≠k→ps[j]?=some q→Apart (mP p) (mP q):=fun j q hj hq=>by
  rcases uJ hj with h1|h1
  ·exact (h.apart j k q p h1 hq hp).symm
  ·exact h.apart k j p q h1 hp hq
 have hown' : Own w' B 67 2 v ps.length (ps.flatMap pY):=ak h.own hblk (by decide) hgr;have hsame:(ps.set k ⟨p.n,p.a,p.l.set i x,p.c⟩).flatMap pY=ps.flatMap pY:=by
  have e1:pY ⟨p.n,p.a,p.l.set i x,p.c⟩=pY p:=by simp[pY,pE]
  apply mK;intro j
  by_cases hj:j<ps.length*2
  ·have hq:j / 2<ps.length:=by omega
   have f1:=ji pY 2 jq (ps.set k ⟨p.n,p.a,p.l.set i x,p.c⟩) (j / 2) (by rw[bI];exact hq) (j%2) (by omega);have f2:=ji pY 2 jq ps (j / 2) hq (j%2) (by omega);rw[show j / 2*2+j%2=j from by omega] at f1 f2;rw[f1,f2];congr 1;rw[Ct]
   by_cases e:k=j / 2
   ·rw[if_pos e,e1,←hpe];congr 1;simp only[e]
   ·rw[if_neg e]
  ·rw[dI (by rw[Pw.flat_len pY 2 jq,bI];omega),dI (by rw[Pw.flat_len pY 2 jq];omega)]
 refine h.set hk (by rw[hsame];exact hown') ?_ (fun j q hj hq=>(h.each j q hq).apart (hap j q hj hq) (by
  have:(mP p).ownBlock=some g:=by unfold mP;rw[ha];rfl
  rw[this];exact hgr)) (fun j q hj hq=>by rw[show mP ⟨p.n,p.a,p.l.set i x,p.c⟩=mP p from by simp[mP]];exact hap j q hj hq)
 have h9:=hset w' x (by rw[rP];exact hb);rw[iR] at h9;simpa[mP] using h9
theorem Ku (ps:List PF) (k file index:Int) (a:Option Addr) (c:Nat) (w:World) (h:Ll w a c ps) (hk64 : -9223372036854775808≤k∧k≤9223372036854775807) :
  Calls Tryz.prog 91 #[.agg (Ox a ps.length c k),.int .i64 file,.int .i64 index] w fun r w' => ∃v ps' k',r = .returned (.tuple #[.agg #[v,.int .i64 k'],.int .i64 (dQ (bZ ps k) file index),.int .i64 (dn (bZ ps k) file index)])∧nM w' w.heap.size v ps'∧bZ ps' k' = dJ (bZ ps k) file index∧Below w.heap.size w w':=by
 have hlc:=aX h.le h.mx;unfold maxLen at hlc;unfold Ox;go_enter func91,ntmps91;go_upto_region 1 with (fail);refine qH (fun W=>Code.wp _ _ _ _ W) fun W0 hb0 hx0 hr0 hs0 => ?_;clear hs0
 go_wp2_with (refine ax _ _ rfl _ 0 rfl rfl _ hx0.rd _ underlying37 rfl store_size ?_)
 refine (CX ps k a c _ (h.below hb0) hk64).mono ?_;rintro r w1 ⟨rfl,hb1⟩;have hbel:=ae hb0 hb1;have hx:=hx0.ext hb1;have hres:=hr0.ext hb1;clear hb0 hx0 hr0 hb1
 by_cases h0:aM (bZ ps k)=0
 ·have H0:=Lib.hid h0;rw[h0];clear h0;have hcx:=hx.cell
  by_cases h5:file<0∨(ps.length:Int)≤file
  ·have q0:Hid _:=Lib.hid (xm (s:=bZ ps k) (k:=file) (i:=index) (e:=5) (by unfold dn;rw[if_neg (by rw[H0.out];simp),if_pos (by simpa[bZ] using h5)]) (by decide));have h5' : file<0∨(¬file<0∧(ps.length:Int)≤file):=by omega
   clear h5;rcases h5' with g1|⟨g1,g2⟩
   ·skip
    go_wp2_with (refine az rfl _ _ _ rfl (w.heap.size+1) #[.slice none 0 0,.int .i64 0] rfl rfl _ _ hres rfl store_size (qV none 0 0 0) ?_)
    all_goals
     intro w5 hr5 hgr5;have hbel5:Below w.heap.size w w5:=hbel.grown hgr5 hbel.size (fun k hk=>by cases hk;omega);go_wp2;refine bodyPost_ret (v:=.tuple #[.agg #[.slice none 0 0,.int .i64 0],.int .i64 0,.int .i64 (5)]) (ik results91 _ _ (w.heap.size+1) _ _ _ _ _ rfl rfl rfl hr5 underlying37 rfl store_size) rfl ?_;have q:=q0.out;exact⟨_,_,_,by rw[q.1,q.2.1],nM.nil _ _,by rw[q.2.2];rfl,hbel5⟩
   skip
   go_wp2_with (refine az rfl _ _ _ rfl (w.heap.size+1) #[.slice none 0 0,.int .i64 0] rfl rfl _ _ hres rfl store_size (qV none 0 0 0) ?_)
   all_goals
    intro w5 hr5 hgr5;have hbel5:Below w.heap.size w w5:=hbel.grown hgr5 hbel.size (fun k hk=>by cases hk;omega);go_wp2;refine bodyPost_ret (v:=.tuple #[.agg #[.slice none 0 0,.int .i64 0],.int .i64 0,.int .i64 (5)]) (ik results91 _ _ (w.heap.size+1) _ _ _ _ _ rfl rfl rfl hr5 underlying37 rfl store_size) rfl ?_;have q:=q0.out;exact⟨_,_,_,by rw[q.1,q.2.1],nM.nil _ _,by rw[q.2.2];rfl,hbel5⟩
  obtain⟨F,rfl⟩:=fE (show 0≤file by omega);have hF:F<ps.length:=by omega
  have hFi:(F:Int)<(ps.length:Int):=by omega
  obtain⟨b,off,p,rfl,hp,c0,c1⟩:=Dk (h.below hbel).rd F hF;have hgw:=h.good p (bQ hp);have hp':=Lib.hid hp;have hfi:Hid (aU (bZ ps k) F=p.fi):=Lib.hid (by unfold aU bZ;rw[if_pos (by omega),bU,aW,jM,hp];rfl);have hnl:Hid (¬((F:Int)<0∨(((bZ ps k).fs.length:Nat):Int)≤(F:Int))):=Lib.hid (by simpa[bZ] using hF);clear h5 hp
  by_cases h9:index<0∨(p.l.length:Int)≤index
  ·have q0:Hid _:=Lib.hid (xm (s:=bZ ps k) (k:=F) (i:=index) (e:=9) (by unfold dn;rw[if_neg (by rw[H0.out];simp),if_neg hnl.out,if_pos (by rw[hfi.out];exact h9)]) (by decide));have h9' : index<0∨(¬index<0∧(p.l.length:Int)≤index):=by omega
   clear h9;rcases h9' with g1|⟨g1,g2⟩
   ·skip
    go_wp2_with (refine az rfl _ _ _ rfl (w.heap.size+1) #[.slice none 0 0,.int .i64 0] rfl rfl _ _ hres rfl store_size (qV none 0 0 0) ?_)
    all_goals
     intro w5 hr5 hgr5;have hbel5:Below w.heap.size w w5:=hbel.grown hgr5 hbel.size (fun k hk=>by cases hk;omega);go_wp2;refine bodyPost_ret (v:=.tuple #[.agg #[.slice none 0 0,.int .i64 0],.int .i64 0,.int .i64 (9)]) (ik results91 _ _ (w.heap.size+1) _ _ _ _ _ rfl rfl rfl hr5 underlying37 rfl store_size) rfl ?_;have q:=q0.out;exact⟨_,_,_,by rw[q.1,q.2.1],nM.nil _ _,by rw[q.2.2];rfl,hbel5⟩
   skip
   go_wp2_with (refine az rfl _ _ _ rfl (w.heap.size+1) #[.slice none 0 0,.int .i64 0] rfl rfl _ _ hres rfl store_size (qV none 0 0 0) ?_)
   all_goals
    intro w5 hr5 hgr5;have hbel5:Below w.heap.size w w5:=hbel.grown hgr5 hbel.size (fun k hk=>by cases hk;omega);go_wp2;refine bodyPost_ret (v:=.tuple #[.agg #[.slice none 0 0,.int .i64 0],.int .i64 0,.int .i64 (9)]) (ik results91 _ _ (w.heap.size+1) _ _ _ _ _ rfl rfl rfl hr5 underlying37 rfl store_size) rfl ?_;have q:=q0.out;exact⟨_,_,_,by rw[q.1,q.2.1],nM.nil _ _,by rw[q.2.2];rfl,hbel5⟩
  obtain⟨I,rfl⟩:=fE (show 0≤index by omega);have hI:I<p.l.length:=by omega
  have hIi:(I:Int)<(p.l.length:Int):=by omega
  have hil:Hid (¬((I:Int)<0∨(((aU (bZ ps k) F).b.length:Nat):Int)≤(I:Int))):=Lib.hid (by rw[hfi.out];exact h9);have hsz:=EK H0.out;have hlp:ps.length≤5:=by simpa[bZ] using (jv H0.out).1
  have hk80:k≤80:=(jv H0.out).2.2;clear h9
  go_wp2_with (refine ax _ _ rfl _ 0 rfl rfl _ hx.rd _ underlying37 rfl store_size ?_)
  refine (Di ps k _ c _ (h.below hbel) hsz).mono ?_;rintro r w2 ⟨v2,qs,rfl,hO2,hqs0,hb2⟩;have hqs:=Lib.hid hqs0;have hql0:qs.length=ps.length:=by simpa using congrArg List.length hqs0
  have hqF:F<qs.length:=by omega
  clear hql0;obtain⟨q,hq⟩:∃q,qs[F]?=some q:=⟨qs[F]'hqF,aG _⟩;have hqp:q.fi=p.fi:=by have h1:=congrArg (fun l=>l[F]?) hqs0;simp only[jM,hq,hp'.out,tC,iM] at h1;exact h1
  have hqb:=Lib.hid (show q.l=p.l from congrArg Fi.b hqp);have hqn:=Lib.hid (show q.n=p.n from congrArg Fi.n hqp);have hIq0:I<q.l.length:=by rw[hqb.out];exact hI
  have hbel2:=ae hbel hb2;have hx2:=hx.ext hb2;have hres2:=hres.ext hb2;have hO2':=hO2.mono hbel.size;obtain⟨av,cv,rfl,_⟩:=hO2.rd;clear hqs0 hcx hbel hx hres hb2 hO2 c0 c1
  go_wp2_with (refine aI rfl _ _ _ rfl #[.slice av qs.length cv,.int .i64 k] rfl rfl rfl store_size (qV _ _ _ _) ?_)
  intro w3 hb3 ho3;have hbel3:=ae hbel2 hb3;have hx3:=hx2.ext hb3;have hres3:=hres2.ext hb3;have hO3:=hO2'.below hb3;have hgo:w.heap.size+1<w2.heap.size:=hres2.lt;obtain⟨gg,hGG⟩:∃g,g=w2.heap.size:=⟨_,rfl⟩;rw[←hGG] at ho3 hgo ⊢;clear hGG hbel2 hx2 hres2 hO2' hb3;obtain⟨g,off9,cap,cur,hv,hBg,hblk,hfit,e0,e1,_,_⟩:=hO3.file hq;obtain⟨g2,off2,cap2,cur2,hqa,hqc,hB2,hblk2,hfit2,hset2⟩:=hO3.num hq (i:=I) hIq0;simp only[lY] at hv;obtain⟨rfl,_,rfl⟩:=hv;have hFq:(F:Int)<(qs.length:Int):=by omega
  have hIq:(I:Int)<(q.l.length:Int):=by omega
  rw[hqa] at e1;have hco:=ho3.cell;have hcf:=hblk.cell;have hc2:w3.cell? ⟨g2,off2+I,none⟩=some (.int .i64 q.l[I]):=by obtain⟨_,_,e2,hc⟩:=jl ((hO3.rd).elim fun _ hx=>hx.elim fun _ hy=>(hy.2.good q (bQ hq)).rd) I hIq0;rw[hqa] at e2;cases e2;exact hc
  have hba:Hid (bL (bZ ps k) F I=q.l[I]):=Lib.hid (by unfold bL;rw[hfi.out,bU];show p.l.getD I 0=_;rw[aW,←hqb.out,aG hIq0];rfl);generalize hB0:q.l[I]=B0 at hc2 hba;clear hB0 hqp;go_upto_region 10 with (fail)
  by_cases hneg:B0<0
  ·have hx3':=hx3;clear hcf hc2 hblk e0 e1
   go_wp2_with fail
   refine (NL ps k _ c w.heap.size _ (h.below hbel3) hx3' hk80).mono ?_;rintro r w4 ⟨rfl,hb4⟩;have hfl:=OH (s:=bZ ps k) hk80;have hbel4:=ae hbel3 hb4;have hres4:=hres3.ext hb4;have ho4:=ho3.ext hb4;have hO4:=hO3.below hb4;clear hx3' hbel3 hres3 ho3 hO3 hb4 hco hset2 hblk2 hx3;have hbE:Hid (dn (bZ ps k) F I=if gG (bZ ps k)<0 then 10 else 0):=Lib.hid (by
    unfold dn;rw[if_neg (by rw[H0.out];simp),if_neg hnl.out,if_neg hil.out,hba.out]
    by_cases z:gG (bZ ps k)<0
    ·rw[if_pos ⟨hneg,z⟩,if_pos z]
    ·rw[if_neg (fun hh=>z hh.2),if_neg z])
   generalize hX:gG (bZ ps k)=X at hbE hfl;have hX':=Lib.hid hX;clear hX
   by_cases hX0:X<0
   ·have q0:Hid _:=Lib.hid (xm (s:=bZ ps k) (k:=F) (i:=I) (e:=10) (by rw[hbE.out,if_pos hX0]) (by decide));have hbel:=hbel4;have hres:=hres4;clear hbel4 hres4 ho4 hO4
    go_wp2_with (refine az rfl _ _ _ rfl (w.heap.size+1) #[.slice none 0 0,.int .i64 0] rfl rfl _ _ hres rfl store_size (qV none 0 0 0) ?_)
    all_goals
     intro w5 hr5 hgr5;have hbel5:Below w.heap.size w w5:=hbel.grown hgr5 hbel.size (fun k hk=>by cases hk;omega);go_wp2;refine bodyPost_ret (v:=.tuple #[.agg #[.slice none 0 0,.int .i64 0],.int .i64 0,.int .i64 (10)]) (ik results91 _ _ (w.heap.size+1) _ _ _ _ _ rfl rfl rfl hr5 underlying37 rfl store_size) rfl ?_;have q:=q0.out;exact⟨_,_,_,by rw[q.1,q.2.1],nM.nil _ _,by rw[q.2.2];rfl,hbel5⟩
   have hz:Hid (dn (bZ ps k) F I=0):=Lib.hid (by rw[hbE.out,if_neg hX0]);have hfin:Hid (dQ (bZ ps k) F I=X∧dn (bZ ps k) F I=0∧bZ (qs.set F ⟨q.n,q.a,q.l.set I X,q.c⟩) k=dJ (bZ ps k) F I):=Lib.hid (by
    refine⟨?_,hz.out,?_⟩
    ·unfold dQ;rw[if_neg (by rw[hz.out];simp),hba.out,if_pos hneg,hX'.out]
    unfold dJ;rw[if_neg (by rw[hz.out];simp),hba.out,if_pos hneg,hX'.out,hfi.out];unfold zW bZ;rw[bU,bU,Cs,hqs.out];unfold PF.fi;rw[hqb.out,hqn.out])
   obtain⟨g3,off3,cap3,cur3,hv3,hBg3,hblk3,_,e03,e13,_,_⟩:=hO4.file hq;obtain⟨g4,off4,cap4,cur4,hqa4,hqc4,hB4,hblk4,hfit4,hset4⟩:=hO4.num hq (i:=I) hIq0;simp only[lY] at hv3;obtain⟨e31,_,e33⟩:=hv3;cases e31;subst e33;rw[hqa4] at e13;have hco:=ho4.cell;have hcf:=hblk3.cell;have hg2:gg≠g4:=fun e=>by subst e;unfold aC at ho4 hblk4;rw[ho4] at hblk4;simp at hblk4
   go_wp2_with (refine aA rfl _ _ _ rfl g4 (off4+I) _ [.int .i64 X] rfl rfl rfl _ _ hblk4 hfit4 int_size (Hr _ _) ?_)
   intro w5 hb5 hgr5;have hO9:=hset4 w5 X hb5 hgr5;have hg9:=bu ho4 hblk4 (by decide) hgr5;have hr9:=bu hres4 hblk4 (by decide) hgr5;have hbel9:=hbel4.grown hgr5 hbel4.size (fun k hk=>by cases hk;exact hB4);clear ho4 hres4 hO4 hbel4 hblk3 hblk4 hset4 hco hcf e03 e13 hb5 hgr5;have hcg:=hg9.cell
   go_wp2_with (first | (refine ax _ _ rfl _ 0 rfl rfl _ hg9.rd _ underlying37 rfl store_size ?_) | (refine az rfl _ _ _ rfl (w.heap.size+1) _ rfl rfl _ _ hr9 rfl store_size (qV _ _ _ _) ?_))
   intro wf hrf hgrf;have hOf:=hO9.keep hr9 (by decide) (by decide) hgrf;have hbelf:=hbel9.grown hgrf hbel9.size (fun k hk=>by cases hk;omega);go_wp2;refine bodyPost_ret (v:=.tuple #[.agg #[.slice _ _ _,.int .i64 k],.int .i64 (X),.int .i64 0]) (ik results91 _ _ (w.heap.size+1) _ _ _ _ _ rfl rfl rfl hrf underlying37 rfl store_size) rfl ?_;exact⟨_,_,_,by rw[hfin.out.1,hfin.out.2.1],hOf,hfin.out.2.2,hbelf⟩
  have hfin:Hid (dQ (bZ ps k) F I=B0∧dn (bZ ps k) F I=0∧bZ qs k=dJ (bZ ps k) F I):=Lib.hid (by
   have z:dn (bZ ps k) F I=0:=by unfold dn;rw[if_neg (by rw[H0.out];simp),if_neg hnl.out,if_neg hil.out,if_neg (by rw[hba.out];omega)]
   refine⟨?_,z,?_⟩
   ·unfold dQ;rw[if_neg (by rw[z];simp),hba.out,if_neg hneg]
   ·unfold dJ;rw[if_neg (by rw[z];simp),hba.out,if_neg hneg];unfold bZ;rw[hqs.out])
  have hg9:=ho3;have hr9:=hres3;have hO9:=hO3;have hbel9:=hbel3;clear ho3 hres3 hO3 hbel3 hblk hblk2 hset2 hco hcf hc2 e0 e1;have hcg:=hg9.cell
  go_wp2_with (first | (refine ax _ _ rfl _ 0 rfl rfl _ hg9.rd _ underlying37 rfl store_size ?_) | (refine az rfl _ _ _ rfl (w.heap.size+1) _ rfl rfl _ _ hr9 rfl store_size (qV _ _ _ _) ?_))
  intro wf hrf hgrf;have hOf:=hO9.keep hr9 (by decide) (by decide) hgrf;have hbelf:=hbel9.grown hgrf hbel9.size (fun k hk=>by cases hk;omega);go_wp2;refine bodyPost_ret (v:=.tuple #[.agg #[.slice _ _ _,.int .i64 k],.int .i64 (B0),.int .i64 0]) (ik results91 _ _ (w.heap.size+1) _ _ _ _ _ rfl rfl rfl hrf underlying37 rfl store_size) rfl ?_;exact⟨_,_,_,by rw[hfin.out.1,hfin.out.2.1],hOf,hfin.out.2.2,hbelf⟩
 have q0:Hid _:=Lib.hid (xm (s:=bZ ps k) (k:=file) (i:=index) (e:=aM (bZ ps k)) (by unfold dn;rw[if_pos h0]) h0);have h0' : (aM (bZ ps k) != 0)=true:=by simpa using h0
 clear h0
 go_wp2_with (refine az rfl _ _ _ rfl (w.heap.size+1) #[.slice none 0 0,.int .i64 0] rfl rfl _ _ hres rfl store_size (qV none 0 0 0) ?_)
 all_goals
  intro w5 hr5 hgr5;have hbel5:Below w.heap.size w w5:=hbel.grown hgr5 hbel.size (fun k hk=>by cases hk;omega);go_wp2;refine bodyPost_ret (v:=.tuple #[.agg #[.slice none 0 0,.int .i64 0],.int .i64 0,.int .i64 (aM (bZ ps k))]) (ik results91 _ _ (w.heap.size+1) _ _ _ _ _ rfl rfl rfl hr5 underlying37 rfl store_size) rfl ?_;have q:=q0.out;exact⟨_,_,_,by rw[q.1,q.2.1],nM.nil _ _,by rw[q.2.2];rfl,hbel5⟩
def nR (a:Ar):Array Value:=#[.int .i64 a.fr,.int .i64 a.en,.bool a.rd,.bool a.wr,.bool a.sh,.int .i64 a.fi,.int .i64 a.ba]
def mF (a:Ar):List Value:=(nR a).toList
theorem su (a:Ar):(mF a).length=7:=rfl
theorem Ti (a:Ar):(nR a).all (·.oneCell')=true:=by simp[nR,Value.oneCell']
theorem area_size:(Tryz.prog.info? 99).map (·.size)=some 7:=by kernel_rfl
theorem area_info:(Tryz.prog.info? 99).map (fun i=>(i.zero,i.size,i.bytes))=some (some (.agg #[.int .i64 0,.int .i64 0,.bool false,.bool false,.bool false,.int .i64 0,.int .i64 0]),7,40):=by kernel_rfl
def Ez (w:World) (b o:Nat) (a:Ar):Prop:=∀j u,(mF a)[j]?=some u→w.cell? ⟨b,o+j,none⟩=some u
theorem Ez.below {o:Nat} {a:Ar} (h:Ez w b o a) (hb:Below w.heap.size w w'):Ez w' b o a:=fun j u hj=>cell_later hb (h j u hj)
theorem Ez.cells {o:Nat} {a:Ar} (h:Ez w b o a):w.cell? ⟨b,o,none⟩=some (.int .i64 a.fr)∧w.cell? ⟨b,o+1,none⟩=some (.int .i64 a.en)∧w.cell? ⟨b,o+2,none⟩=some (.bool a.rd)∧w.cell? ⟨b,o+3,none⟩=some (.bool a.wr) ∧
  w.cell? ⟨b,o+4,none⟩=some (.bool a.sh)∧w.cell? ⟨b,o+5,none⟩=some (.int .i64 a.fi)∧w.cell? ⟨b,o+6,none⟩=some (.int .i64 a.ba):=
 ⟨h 0 _ rfl,h 1 _ rfl,h 2 _ rfl,h 3 _ rfl,h 4 _ rfl,h 5 _ rfl,h 6 _ rfl⟩
theorem Qt (b o:Nat) (a:Ar) (w:World) (h:Ez w b o a) :
  Calls Tryz.prog 136 #[.pointer (some ⟨b,o,none⟩)] w fun e w'=>e = .returned (.int .i64 (aP a))∧Below w.heap.size w w':=by
 obtain⟨h0,h1,h2,h3,h4,h5,h6⟩:=h.cells;go_enter func136,ntmps136;go_upto_region 1 with (fail)
 by_cases g1:a.fr<0
 ·have hz:Hid (aP a=3):=Lib.hid (by unfold aP;rw[if_pos (by omega)]);go_quiet (fail);go_wp2;go_ret;exact⟨aR hz.out.symm,below_drewN (Below.refl _ _) _⟩
 by_cases g2:a.en≤a.fr
 ·have hz:Hid (aP a=3):=Lib.hid (by unfold aP;rw[if_pos (by omega)]);go_quiet (fail);go_wp2;go_ret;exact⟨aR hz.out.symm,below_drewN (Below.refl _ _) _⟩
 by_cases g3:64<a.en
 ·have hz:Hid (aP a=3):=Lib.hid (by unfold aP;rw[if_pos (by omega)]);go_quiet (fail);go_wp2;go_ret;exact⟨aR hz.out.symm,below_drewN (Below.refl _ _) _⟩
 by_cases g4:a.fi < -1
 ·have hz:Hid (aP a=3):=Lib.hid (by unfold aP;rw[if_pos (by omega)]);go_quiet (fail);go_wp2;go_ret;exact⟨aR hz.out.symm,below_drewN (Below.refl _ _) _⟩
 by_cases g5:5≤a.fi
 ·have hz:Hid (aP a=3):=Lib.hid (by unfold aP;rw[if_pos (by omega)]);go_quiet (fail);go_wp2;go_ret;exact⟨aR hz.out.symm,below_drewN (Below.refl _ _) _⟩
 by_cases g6:a.ba<0
 ·have hz:Hid (aP a=3):=Lib.hid (by unfold aP;rw[if_pos (by omega)]);go_quiet (fail);go_wp2;go_ret;exact⟨aR hz.out.symm,below_drewN (Below.refl _ _) _⟩
 have hn1:¬(a.fr<0∨a.en≤a.fr∨64<a.en∨a.fi < -1∨5≤a.fi∨a.ba<0):=by omega
 have hw1:IntKind.i64.wrap (a.en-a.fr)=a.en-a.fr:=bJ _ (by omega);have hw2:IntKind.i64.wrap (12-(a.en-a.fr))=12-(a.en-a.fr):=bJ _ (by omega);go_quiet (fail)
 by_cases f1:a.fi<0
 ·by_cases f2:a.ba=0
  ·cases f3:a.sh
   ·have hz:Hid (aP a=0):=Lib.hid (by unfold aP;rw[if_neg hn1,if_neg (by rw[f3];simp;omega)]);go_upto_region 4 with (fail);have d0:decide (0≤a.fi)=false:=decide_eq_false (by omega);go_quiet (fail);go_wp2;go_ret;exact⟨aR hz.out.symm,below_drewN (Below.refl _ _) _⟩
   have hz:Hid (aP a=7):=Lib.hid (by unfold aP;rw[if_neg hn1,if_pos (.inl ⟨f1,.inr f3⟩)]);go_wp2;go_ret;exact⟨aR hz.out.symm,below_drewN (Below.refl _ _) _⟩
  have hz:Hid (aP a=7):=Lib.hid (by unfold aP;rw[if_neg hn1,if_pos (.inl ⟨f1,.inl f2⟩)]);have f2' : (a.ba != 0)=true:=by simpa using f2
  go_wp2;go_ret;exact⟨aR hz.out.symm,below_drewN (Below.refl _ _) _⟩
 have f1' : 0≤a.fi:=by omega
 by_cases f2:12-(a.en-a.fr)<a.ba
 ·have hz:Hid (aP a=7):=Lib.hid (by unfold aP;rw[if_neg hn1,if_pos (.inr ⟨f1',f2⟩)]);go_upto_region 4 with (fail);have d0:decide (0≤a.fi)=true:=decide_eq_true (by omega);go_quiet (fail);go_wp2;go_ret;exact⟨aR hz.out.symm,below_drewN (Below.refl _ _) _⟩
 have hz:Hid (aP a=0):=Lib.hid (by unfold aP;rw[if_neg hn1,if_neg (by omega)]);go_upto_region 4 with (fail);have d0:decide (0≤a.fi)=true:=decide_eq_true (by omega);go_quiet (fail);go_wp2;go_ret;exact⟨aR hz.out.symm,below_drewN (Below.refl _ _) _⟩
theorem FB (p q p' q' : Nat) (a b:Ar) (w:World) (h:Ez w p q a) (h' : Ez w p' q' b) (hs:Bj a) :
  Calls Tryz.prog 137 #[.pointer (some ⟨p,q,none⟩),.pointer (some ⟨p',q',none⟩)] w fun e w'=>e = .returned (.bool (dz a b))∧Below w.heap.size w w':=by
 obtain⟨h0,h1,h2,h3,h4,h5,h6⟩:=h.cells;obtain⟨k0,k1,k2,k3,k4,k5,k6⟩:=h'.cells;obtain⟨s1,s2,s3⟩:=hs;have hw1:IntKind.i64.wrap (a.ba+a.en)=a.ba+a.en:=bJ _ (by omega);have hw2:IntKind.i64.wrap (a.ba+a.en-a.fr)=a.ba+a.en-a.fr:=bJ _ (by omega);go_enter func137,ntmps137
 by_cases hf:0≤a.fi
 ·go_upto_region 3 with (fail);go_quiet (fail);go_upto_region 4 with (fail);cases g1:(a.en==b.fr)
  ·have hz:Hid (dz a b=false):=Lib.hid (by unfold dz jB;rw[if_pos hf];simp only[g1,lm,lV,lU,nD]);go_quiet (fail);go_wp2;go_ret;exact⟨bH hz.out.symm,by first | exact below_drewN (Below.refl _ _) _ | exact below_drewN (below_drewN (Below.refl _ _) _) _⟩
  cases g2:(a.rd==b.rd)
  ·have hz:Hid (dz a b=false):=Lib.hid (by unfold dz jB;rw[if_pos hf];simp only[g1,g2,lm,lV,lU,nD]);go_quiet (fail);go_wp2;go_ret;exact⟨bH hz.out.symm,by first | exact below_drewN (Below.refl _ _) _ | exact below_drewN (below_drewN (Below.refl _ _) _) _⟩
  cases g3:(a.wr==b.wr)
  ·have hz:Hid (dz a b=false):=Lib.hid (by unfold dz jB;rw[if_pos hf];simp only[g1,g2,g3,lm,lV,lU,nD]);go_quiet (fail);go_wp2;go_ret;exact⟨bH hz.out.symm,by first | exact below_drewN (Below.refl _ _) _ | exact below_drewN (below_drewN (Below.refl _ _) _) _⟩
  cases g4:(a.sh==b.sh)
  ·have hz:Hid (dz a b=false):=Lib.hid (by unfold dz jB;rw[if_pos hf];simp only[g1,g2,g3,g4,lm,lV,lU,nD]);go_quiet (fail);go_wp2;go_ret;exact⟨bH hz.out.symm,by first | exact below_drewN (Below.refl _ _) _ | exact below_drewN (below_drewN (Below.refl _ _) _) _⟩
  cases g5:(a.fi==b.fi)
  ·have hz:Hid (dz a b=false):=Lib.hid (by unfold dz jB;rw[if_pos hf];simp only[g1,g2,g3,g4,g5,lm,lV,lU,nD]);go_quiet (fail);go_wp2;go_ret;exact⟨bH hz.out.symm,by first | exact below_drewN (Below.refl _ _) _ | exact below_drewN (below_drewN (Below.refl _ _) _) _⟩
  cases g6:(b.ba==(a.ba+a.en-a.fr))
  ·have hz:Hid (dz a b=false):=Lib.hid (by unfold dz jB;rw[if_pos hf];simp only[g1,g2,g3,g4,g5,g6,lm,lV,lU,nD]);go_quiet (fail);go_wp2;go_ret;exact⟨bH hz.out.symm,by first | exact below_drewN (Below.refl _ _) _ | exact below_drewN (below_drewN (Below.refl _ _) _) _⟩
  have hz:Hid (dz a b=true):=Lib.hid (by unfold dz jB;rw[if_pos hf];simp only[g1,g2,g3,g4,g5,g6,lm,lV,lU,nD]);go_quiet (fail);go_wp2;go_ret;exact⟨bH hz.out.symm,by first | exact below_drewN (Below.refl _ _) _ | exact below_drewN (below_drewN (Below.refl _ _) _) _⟩
 go_upto_region 4 with (fail);cases g1:(a.en==b.fr)
 ·have hz:Hid (dz a b=false):=Lib.hid (by unfold dz jB;rw[if_neg hf];simp only[g1,lm,lV,lU,nD]);go_quiet (fail);go_wp2;go_ret;exact⟨bH hz.out.symm,by first | exact below_drewN (Below.refl _ _) _ | exact below_drewN (below_drewN (Below.refl _ _) _) _⟩
 cases g2:(a.rd==b.rd)
 ·have hz:Hid (dz a b=false):=Lib.hid (by unfold dz jB;rw[if_neg hf];simp only[g1,g2,lm,lV,lU,nD]);go_quiet (fail);go_wp2;go_ret;exact⟨bH hz.out.symm,by first | exact below_drewN (Below.refl _ _) _ | exact below_drewN (below_drewN (Below.refl _ _) _) _⟩
 cases g3:(a.wr==b.wr)
 ·have hz:Hid (dz a b=false):=Lib.hid (by unfold dz jB;rw[if_neg hf];simp only[g1,g2,g3,lm,lV,lU,nD]);go_quiet (fail);go_wp2;go_ret;exact⟨bH hz.out.symm,by first | exact below_drewN (Below.refl _ _) _ | exact below_drewN (below_drewN (Below.refl _ _) _) _⟩
 cases g4:(a.sh==b.sh)
 ·have hz:Hid (dz a b=false):=Lib.hid (by unfold dz jB;rw[if_neg hf];simp only[g1,g2,g3,g4,lm,lV,lU,nD]);go_quiet (fail);go_wp2;go_ret;exact⟨bH hz.out.symm,by first | exact below_drewN (Below.refl _ _) _ | exact below_drewN (below_drewN (Below.refl _ _) _) _⟩
 cases g5:(a.fi==b.fi)
 ·have hz:Hid (dz a b=false):=Lib.hid (by unfold dz jB;rw[if_neg hf];simp only[g1,g2,g3,g4,g5,lm,lV,lU,nD]);go_quiet (fail);go_wp2;go_ret;exact⟨bH hz.out.symm,by first | exact below_drewN (Below.refl _ _) _ | exact below_drewN (below_drewN (Below.refl _ _) _) _⟩
 cases g6:(b.ba==0)
 ·have hz:Hid (dz a b=false):=Lib.hid (by unfold dz jB;rw[if_neg hf];simp only[g1,g2,g3,g4,g5,g6,lm,lV,lU,nD]);go_quiet (fail);go_wp2;go_ret;exact⟨bH hz.out.symm,by first | exact below_drewN (Below.refl _ _) _ | exact below_drewN (below_drewN (Below.refl _ _) _) _⟩
 have hz:Hid (dz a b=true):=Lib.hid (by unfold dz jB;rw[if_neg hf];simp only[g1,g2,g3,g4,g5,g6,lm,lV,lU,nD]);go_quiet (fail);go_wp2;go_ret;exact⟨bH hz.out.symm,by first | exact below_drewN (Below.refl _ _) _ | exact below_drewN (below_drewN (Below.refl _ _) _) _⟩
theorem QS {l:List Ar} (h:dN w a (l.flatMap mF)) (k:Nat) (hk:k<l.length):∃b off,a=some ⟨b,off,none⟩∧Ez w b (off+k*7) l[k]:=h.elem su (by decide) k hk
theorem DX {l:List Ar} (h:dN w (some ⟨b,off,none⟩) (l.flatMap mF)) (k:Nat) (hk:k<l.length):Ez w b (off+k*7) l[k]:=by
 obtain⟨b',off',e,h1⟩:=QS h k hk;cases e;exact h1
def JZ (e:Int × Int):Array Value:=#[.int .i64 e.1,.int .i64 e.2]
theorem fau_size:(Tryz.prog.info? 150).map (·.size)=some 2:=by kernel_rfl
theorem mG (x y:Int):(#[Value.int .i64 x,Value.int .i64 y]:Array Value).all (·.oneCell')=true:=by simp[Value.oneCell']
theorem Lf (l:List Ar) (a:Option Addr) (c:Nat) (w:World) (hrd:dN w a (l.flatMap mF)) (hl:l.length≤9223372036854775807) :
  Calls Tryz.prog 111 #[.slice a l.length c] w fun e w'=>e = .returned (.agg (JZ (bG l)))∧Below w.heap.size w w':=by
 go_enter func111,ntmps111;go_upto_region 1 with (fail);refine gI (fun W=>Code.wp _ _ _ _ W) fun W0 hbel hres hs0 => ?_;clear hs0
 by_cases h16:16<l.length
 ·have h16' : (16:Int)<(l.length:Int):=by omega
  have hz:Hid (bG l=(4,0)):=Lib.hid (by unfold bG;rw[if_pos h16])
  go_wp2_with (refine az rfl _ _ _ rfl w.heap.size #[.int .i64 (4),.int .i64 (0)] rfl rfl _ _ hres rfl fau_size (mG _ _) ?_)
  intro w5 hr5 hgr5;have hbel5:Below w.heap.size w w5:=hbel.grown hgr5 hbel.size (fun k hk=>by cases hk;exact ay _);go_wp2;refine bodyPost_ret (v:=.agg #[.int .i64 (4),.int .i64 (0)]) (eu results111 _ _ w.heap.size _ _ _ rfl hr5 underlying150 rfl fau_size) rfl ?_;exact⟨by rw[hz.out];rfl,hbel5⟩
 have h16' : ¬(16:Int)<(l.length:Int):=by omega
 have h0:Hid (bG l=jb (pI l 0) 0 (l.drop 0)):=Lib.hid (by unfold bG;rw[if_neg h16];rfl);go_upto_region 4 with (fail)
 go_loopw [11] (fun i wr => ∃k:Nat,k≤l.length∧i = .int .i64 k∧Below w.heap.size w wr∧aC wr w.heap.size #[.int .i64 0,.int .i64 0] 150∧(∀i (h:i<l.length),i<k→aP l[i]=0)∧Hid (bG l=jb (pI l k) k (l.drop k))) (fun i _=>l.length-(intOf i).toNat)
 case atStart=>exact⟨0,aS _,rfl,hbel,hres,fun i _ h=>absurd h (dO _),h0⟩
 case round=>
  clear hbel hres h0;obtain⟨k,hk,rfl,hbel,hres,hp0,hst⟩:=hrel;have hp:=Lib.hid hp0;clear hp0
  by_cases hlt:k<l.length
  ·obtain⟨b,off,rfl,hA⟩:=QS (hrd.below hbel) k hlt;have hki:(k:Int)<(l.length:Int):=by omega
   go_wp2_with fail
   refine (Qt b (off+k*7) l[k] _ hA).mono ?_;rintro r w2 ⟨rfl,hb2⟩;have hbel2:=ae hbel hb2;have hres2:=hres.ext hb2;clear hbel hres hb2 hA
   by_cases he:aP l[k]=0
   ·have he':=Lib.hid he;rw[he];clear he;go_upto_region 9 with (fail)
    by_cases hk0:k=0
    ·subst hk0;have hd0:decide ((0:Int)<((0:Nat):Int))=false:=rfl;have hnx:Hid (bG l=jb (pI l (0+1)) (0+1) (l.drop (0+1))):=Lib.hid (by rw[hst.out];exact uI hlt he'.out rfl);go_quiet (fail);go_wp2;go_roundw
     case rel=>exact⟨0+1,by omega,by go_num,below_drewN hbel2 _,hres2.drewN _,lH hp.out hlt he'.out,hnx⟩
     case measure=>simp[intOf];omega
    obtain⟨m,rfl⟩:∃m,k=m+1:=⟨k-1,by omega⟩;have hd0:decide ((0:Int)<((m+1:Nat):Int))=true:=decide_eq_true (by omega);have hm1:IntKind.i64.wrap (((m+1:Nat):Int)-1)=(m:Int):=by rw[bJ _ (by omega)];omega
    have hml:m<l.length:=by omega
    have hm2:IntKind.i64.wrap (m:Int)=(m:Int):=bJ _ (by omega);have hg1:(0:Int)≤(m:Int)+1:=by omega
    have hg2:(m:Int)+1<(l.length:Int):=by omega
    have hg3:((m:Int)+1).toNat=m+1:=by omega
    have hbp:=Lib.hid (JV hlt);have hfm:=(bC (hp.out m hml (by omega))).1;have hf1:=(bC he'.out).1;have hRd:=hrd.below hbel2;have hPk:=DX hRd (m+1) hlt;have hPm:=DX hRd m hml;generalize hA1:l[m+1]=A1 at *
    generalize hA0:l[m]=A0 at *
    by_cases hov:A1.fr<A0.en
    ·have hz:Hid (bG l=(2,((m+1:Nat):Int))):=Lib.hid (by rw[hst.out];exact uH hlt (by rw[hA1];exact he'.out) (by rw[hA1,hbp.out,decide_eq_true hov];rfl));refine aK 26 [_,_,_,_,_,_,.v (.pointer (some ⟨b,off+m*7,none⟩)),_,.v (.int .i64 A0.en),_,_,.v (.pointer (some ⟨b,off+(m+1)*7,none⟩)),_,.v (.int .i64 A1.fr),_,_,_,_,_,_,_,_,_,_,_,.v (.bool true)] (Gk rfl (Gb (.bool true) (by simp[go_sem]) rfl rfl rfl rfl rfl (Gk rfl (Gk rfl (Gk rfl (Gb (.int .i64 (m:Int)) (by simp[go_sem,hm1,hm2]) rfl rfl rfl rfl rfl (ag ?_ (Gf b (off+m*7+1) rfl rfl (ag ?_ (Gk rfl (Gk rfl (ag ?_ (Gf b (off+(m+1)*7) rfl rfl (ag ?_ (Gb (.bool true) (by simp[go_sem,hov]) rfl rfl rfl rfl rfl (Gk rfl (Gk rfl (Gk rfl (Gk rfl (Gk rfl (Gk rfl (Gk rfl (Gk rfl (Gk rfl (Gk rfl (Gk rfl (aB))))))))))))))))))))))))))) (fun _=>rfl) rfl ?_
     ·intro ρ y W hw hn hb hd;have E26:=hw 26 3 rfl;have h3:y 3=_:=hd 3 rfl;have E28:=hw 28 5 rfl;have h5:y 5=_:=hd 5 rfl;refine aj (.pointer (some ⟨b,off+m*7,none⟩)) (aY 2 25 true true rfl rfl ((hw 25 2 rfl).trans (hd 2 rfl))) (by simp[execOp,go_sem,E26,h3,E28,h5,hml]) rfl
     ·intro ρ y W hw hn hb hd;have E30:=hw 30 7 rfl;have h7:y 7=_:=hd 7 rfl;have hc0:=(hPm.below hb).cells.2.1;refine aj (.int .i64 A0.en) (aY 2 25 true true rfl rfl ((hw 25 2 rfl).trans (hd 2 rfl))) (by simp[execOp,go_sem,E30,h7,hc0]) rfl
     ·intro ρ y W hw hn hb hd;have E32:=hw 32 9 rfl;have h9:y 9=_:=hd 9 rfl;have E33:=hw 33 10 rfl;have h10:y 10=_:=hd 10 rfl;refine aj (.pointer (some ⟨b,off+(m+1)*7,none⟩)) (aY 2 25 true true rfl rfl ((hw 25 2 rfl).trans (hd 2 rfl))) (by simp[execOp,go_sem,E32,h9,E33,h10,hlt,hg1,hg2,hg3]) rfl
     ·intro ρ y W hw hn hb hd;have E35:=hw 35 12 rfl;have h12:y 12=_:=hd 12 rfl;have hc0:=(hPk.below hb).cells.1;refine aj (.int .i64 A1.fr) (aY 2 25 true true rfl rfl ((hw 25 2 rfl).trans (hd 2 rfl))) (by simp[execOp,go_sem,E35,h12,hc0]) rfl
     intro y WA hbWA _;have hbel:=ae hbel2 hbWA;have hres:=hres2.ext hbWA;clear hbel2 hres2
     go_wp2_with (refine az rfl _ _ _ rfl w.heap.size #[.int .i64 (2),.int .i64 (((m+1:Nat):Int))] rfl rfl _ _ hres rfl fau_size (mG _ _) ?_)
     intro w5 hr5 hgr5;have hbel5:Below w.heap.size w w5:=hbel.grown hgr5 hbel.size (fun k hk=>by cases hk;exact ay _);go_wp2;refine bodyPost_ret (v:=.agg #[.int .i64 (2),.int .i64 (((m+1:Nat):Int))]) (eu results111 _ _ w.heap.size _ _ _ rfl hr5 underlying150 rfl fau_size) rfl ?_;exact⟨by rw[hz.out];rfl,hbel5⟩
    cases hj:dz A0 A1
    ·have hnx:Hid (bG l=jb (pI l (m+1+1)) (m+1+1) (l.drop (m+1+1))):=Lib.hid (by rw[hst.out];exact uI hlt (by rw[hA1];exact he'.out) (by rw[hA1,hbp.out,decide_eq_false hov,hj];rfl));refine aK 26 [_,_,_,_,_,_,.v (.pointer (some ⟨b,off+m*7,none⟩)),_,.v (.int .i64 A0.en),_,_,.v (.pointer (some ⟨b,off+(m+1)*7,none⟩)),_,.v (.int .i64 A1.fr),_,_,_,_,_,.v (.pointer (some ⟨b,off+m*7,none⟩)),_,_,.v (.pointer (some ⟨b,off+(m+1)*7,none⟩)),.v (.bool false),_,.v (.bool false)] (Gk rfl (Gb (.bool true) (by simp[go_sem]) rfl rfl rfl rfl rfl (Gk rfl (Gk rfl (Gk rfl (Gb (.int .i64 (m:Int)) (by simp[go_sem,hm1,hm2]) rfl rfl rfl rfl rfl (ag ?_ (Gf b (off+m*7+1) rfl rfl (ag ?_ (Gk rfl (Gk rfl (ag ?_ (Gf b (off+(m+1)*7) rfl rfl (ag ?_ (Gb (.bool false) (by simp[go_sem,hov]) rfl rfl rfl rfl rfl (Gk rfl (Gk rfl (Gk rfl (Gb (.int .i64 (m:Int)) (by simp[go_sem,hm1,hm2]) rfl rfl rfl rfl rfl (ag ?_ (Gk rfl (Gk rfl (ag ?_ (ag ?_ (Gk rfl (Gk rfl (aB))))))))))))))))))))))))))) (fun _=>rfl) rfl ?_
     ·intro ρ y W hw hn hb hd;have E26:=hw 26 3 rfl;have h3:y 3=_:=hd 3 rfl;have E28:=hw 28 5 rfl;have h5:y 5=_:=hd 5 rfl;refine aj (.pointer (some ⟨b,off+m*7,none⟩)) (aY 2 25 true true rfl rfl ((hw 25 2 rfl).trans (hd 2 rfl))) (by simp[execOp,go_sem,E26,h3,E28,h5,hml]) rfl
     ·intro ρ y W hw hn hb hd;have E30:=hw 30 7 rfl;have h7:y 7=_:=hd 7 rfl;have hc0:=(hPm.below hb).cells.2.1;refine aj (.int .i64 A0.en) (aY 2 25 true true rfl rfl ((hw 25 2 rfl).trans (hd 2 rfl))) (by simp[execOp,go_sem,E30,h7,hc0]) rfl
     ·intro ρ y W hw hn hb hd;have E32:=hw 32 9 rfl;have h9:y 9=_:=hd 9 rfl;have E33:=hw 33 10 rfl;have h10:y 10=_:=hd 10 rfl;refine aj (.pointer (some ⟨b,off+(m+1)*7,none⟩)) (aY 2 25 true true rfl rfl ((hw 25 2 rfl).trans (hd 2 rfl))) (by simp[execOp,go_sem,E32,h9,E33,h10,hlt,hg1,hg2,hg3]) rfl
     ·intro ρ y W hw hn hb hd;have E35:=hw 35 12 rfl;have h12:y 12=_:=hd 12 rfl;have hc0:=(hPk.below hb).cells.1;refine aj (.int .i64 A1.fr) (aY 2 25 true true rfl rfl ((hw 25 2 rfl).trans (hd 2 rfl))) (by simp[execOp,go_sem,E35,h12,hc0]) rfl
     ·intro ρ y W hw hn hb hd;have E39:=hw 39 16 rfl;have h16:y 16=_:=hd 16 rfl;have E41:=hw 41 18 rfl;have h18:y 18=_:=hd 18 rfl;refine aj (.pointer (some ⟨b,off+m*7,none⟩)) (aY 15 38 false false rfl rfl ((hw 38 15 rfl).trans (hd 15 rfl))) (by simp[execOp,go_sem,E39,h16,E41,h18,hml]) rfl
     ·intro ρ y W hw hn hb hd;have E43:=hw 43 20 rfl;have h20:y 20=_:=hd 20 rfl;have E44:=hw 44 21 rfl;have h21:y 21=_:=hd 21 rfl;refine aj (.pointer (some ⟨b,off+(m+1)*7,none⟩)) (aY 15 38 false false rfl rfl ((hw 38 15 rfl).trans (hd 15 rfl))) (by simp[execOp,go_sem,E43,h20,E44,h21,hlt,hg1,hg2,hg3]) rfl
     ·intro ρ y W hw hn hb hd;have E42:=hw 42 19 rfl;have h19:y 19=_:=hd 19 rfl;have E45:=hw 45 22 rfl;have h22:y 22=_:=hd 22 rfl;have EF:∀f,ρ (.func f) = .func (.func f) #[] #[]:=fun f=>hn (.func f) trivial;refine aO _ _ (aY 15 38 false false rfl rfl ((hw 38 15 rfl).trans (hd 15 rfl))) (aQ rfl (EF _) func137 (by kernel_rfl) (by kernel_rfl) (by simp only[bP,bM,bN,E42,h19,E45,h22,EF];rfl)) ?_;refine (FB b (off+m*7) b (off+(m+1)*7) A0 A1 W (hPm.below hb) (hPk.below hb) hfm).mono ?_;rintro r w1 ⟨rfl,hb1⟩;rw[hj];exact⟨_,rfl,hb1,rfl⟩
     intro y WA hbWA _;have hbel:=ae hbel2 hbWA;have hres:=hres2.ext hbWA;have hup:Hid (∀i (h:i<l.length),i<m+1+1→aP l[i]=0):=Lib.hid (lH hp.out hlt (by rw[hA1];exact he'.out));clear hbel2 hres2 hg1 hg2 hg3 hm1 hm2;go_wp2;go_roundw
     case rel=>exact⟨m+1+1,by omega,by go_num,hbel,hres,hup.out,hnx⟩
     case measure=>simp[intOf];omega
    have hz:Hid (bG l=(2,((m+1:Nat):Int))):=Lib.hid (by rw[hst.out];exact uH hlt (by rw[hA1];exact he'.out) (by rw[hA1,hbp.out,hj,Ir]));refine aK 26 [_,_,_,_,_,_,.v (.pointer (some ⟨b,off+m*7,none⟩)),_,.v (.int .i64 A0.en),_,_,.v (.pointer (some ⟨b,off+(m+1)*7,none⟩)),_,.v (.int .i64 A1.fr),_,_,_,_,_,.v (.pointer (some ⟨b,off+m*7,none⟩)),_,_,.v (.pointer (some ⟨b,off+(m+1)*7,none⟩)),.v (.bool true),_,.v (.bool true)] (Gk rfl (Gb (.bool true) (by simp[go_sem]) rfl rfl rfl rfl rfl (Gk rfl (Gk rfl (Gk rfl (Gb (.int .i64 (m:Int)) (by simp[go_sem,hm1,hm2]) rfl rfl rfl rfl rfl (ag ?_ (Gf b (off+m*7+1) rfl rfl (ag ?_ (Gk rfl (Gk rfl (ag ?_ (Gf b (off+(m+1)*7) rfl rfl (ag ?_ (Gb (.bool false) (by simp[go_sem,hov]) rfl rfl rfl rfl rfl (Gk rfl (Gk rfl (Gk rfl (Gb (.int .i64 (m:Int)) (by simp[go_sem,hm1,hm2]) rfl rfl rfl rfl rfl (ag ?_ (Gk rfl (Gk rfl (ag ?_ (ag ?_ (Gk rfl (Gk rfl (aB))))))))))))))))))))))))))) (fun _=>rfl) rfl ?_
    ·intro ρ y W hw hn hb hd;have E26:=hw 26 3 rfl;have h3:y 3=_:=hd 3 rfl;have E28:=hw 28 5 rfl;have h5:y 5=_:=hd 5 rfl;refine aj (.pointer (some ⟨b,off+m*7,none⟩)) (aY 2 25 true true rfl rfl ((hw 25 2 rfl).trans (hd 2 rfl))) (by simp[execOp,go_sem,E26,h3,E28,h5,hml]) rfl
    ·intro ρ y W hw hn hb hd;have E30:=hw 30 7 rfl;have h7:y 7=_:=hd 7 rfl;have hc0:=(hPm.below hb).cells.2.1;refine aj (.int .i64 A0.en) (aY 2 25 true true rfl rfl ((hw 25 2 rfl).trans (hd 2 rfl))) (by simp[execOp,go_sem,E30,h7,hc0]) rfl
    ·intro ρ y W hw hn hb hd;have E32:=hw 32 9 rfl;have h9:y 9=_:=hd 9 rfl;have E33:=hw 33 10 rfl;have h10:y 10=_:=hd 10 rfl;refine aj (.pointer (some ⟨b,off+(m+1)*7,none⟩)) (aY 2 25 true true rfl rfl ((hw 25 2 rfl).trans (hd 2 rfl))) (by simp[execOp,go_sem,E32,h9,E33,h10,hlt,hg1,hg2,hg3]) rfl
    ·intro ρ y W hw hn hb hd;have E35:=hw 35 12 rfl;have h12:y 12=_:=hd 12 rfl;have hc0:=(hPk.below hb).cells.1;refine aj (.int .i64 A1.fr) (aY 2 25 true true rfl rfl ((hw 25 2 rfl).trans (hd 2 rfl))) (by simp[execOp,go_sem,E35,h12,hc0]) rfl
    ·intro ρ y W hw hn hb hd;have E39:=hw 39 16 rfl;have h16:y 16=_:=hd 16 rfl;have E41:=hw 41 18 rfl;have h18:y 18=_:=hd 18 rfl;refine aj (.pointer (some ⟨b,off+m*7,none⟩)) (aY 15 38 false false rfl rfl ((hw 38 15 rfl).trans (hd 15 rfl))) (by simp[execOp,go_sem,E39,h16,E41,h18,hml]) rfl
    ·intro ρ y W hw hn hb hd;have E43:=hw 43 20 rfl;have h20:y 20=_:=hd 20 rfl;have E44:=hw 44 21 rfl;have h21:y 21=_:=hd 21 rfl;refine aj (.pointer (some ⟨b,off+(m+1)*7,none⟩)) (aY 15 38 false false rfl rfl ((hw 38 15 rfl).trans (hd 15 rfl))) (by simp[execOp,go_sem,E43,h20,E44,h21,hlt,hg1,hg2,hg3]) rfl
    ·intro ρ y W hw hn hb hd;have E42:=hw 42 19 rfl;have h19:y 19=_:=hd 19 rfl;have E45:=hw 45 22 rfl;have h22:y 22=_:=hd 22 rfl;have EF:∀f,ρ (.func f) = .func (.func f) #[] #[]:=fun f=>hn (.func f) trivial;refine aO _ _ (aY 15 38 false false rfl rfl ((hw 38 15 rfl).trans (hd 15 rfl))) (aQ rfl (EF _) func137 (by kernel_rfl) (by kernel_rfl) (by simp only[bP,bM,bN,E42,h19,E45,h22,EF];rfl)) ?_;refine (FB b (off+m*7) b (off+(m+1)*7) A0 A1 W (hPm.below hb) (hPk.below hb) hfm).mono ?_;rintro r w1 ⟨rfl,hb1⟩;rw[hj];exact⟨_,rfl,hb1,rfl⟩
    intro y WA hbWA _;have hbel:=ae hbel2 hbWA;have hres:=hres2.ext hbWA;clear hbel2 hres2
    go_wp2_with (refine az rfl _ _ _ rfl w.heap.size #[.int .i64 (2),.int .i64 (((m+1:Nat):Int))] rfl rfl _ _ hres rfl fau_size (mG _ _) ?_)
    intro w5 hr5 hgr5;have hbel5:Below w.heap.size w w5:=hbel.grown hgr5 hbel.size (fun k hk=>by cases hk;exact ay _);go_wp2;refine bodyPost_ret (v:=.agg #[.int .i64 (2),.int .i64 (((m+1:Nat):Int))]) (eu results111 _ _ w.heap.size _ _ _ rfl hr5 underlying150 rfl fau_size) rfl ?_;exact⟨by rw[hz.out];rfl,hbel5⟩
   have hz:Hid (bG l=(aP l[k],(k:Int))):=Lib.hid (by rw[hst.out];exact Fw hlt he);have he' : (aP l[k] != 0)=true:=by simpa using he
   have hbel:=hbel2;have hres:=hres2;clear he hbel2 hres2
   go_wp2_with (refine az rfl _ _ _ rfl w.heap.size #[.int .i64 (aP l[k]),.int .i64 (k)] rfl rfl _ _ hres rfl fau_size (mG _ _) ?_)
   intro w5 hr5 hgr5;have hbel5:Below w.heap.size w w5:=hbel.grown hgr5 hbel.size (fun k hk=>by cases hk;exact ay _);go_wp2;refine bodyPost_ret (v:=.agg #[.int .i64 (aP l[k]),.int .i64 (k)]) (eu results111 _ _ w.heap.size _ _ _ rfl hr5 underlying150 rfl fau_size) rfl ?_;exact⟨by rw[hz.out];rfl,hbel5⟩
  have hz:Hid (bG l=(0,0)):=Lib.hid (by rw[hst.out,pV (by omega)];rfl)
  go_wp2_with (refine az rfl _ _ _ rfl w.heap.size #[.int .i64 (0),.int .i64 (0)] rfl rfl _ _ hres rfl fau_size (mG _ _) ?_)
  intro w5 hr5 hgr5;have hbel5:Below w.heap.size w w5:=hbel.grown hgr5 hbel.size (fun k hk=>by cases hk;exact ay _);go_wp2;refine bodyPost_ret (v:=.agg #[.int .i64 (0),.int .i64 (0)]) (eu results111 _ _ w.heap.size _ _ _ rfl hr5 underlying150 rfl fau_size) rfl ?_;exact⟨by rw[hz.out];rfl,hbel5⟩
theorem Mf {l:List Ar} (h:dN w a (l.flatMap mF)) (k:Nat) (hk:k<l.length):∃b off,a=some ⟨b,off,none⟩∧w.cell? ⟨b,off+k*7,none⟩=some (.int .i64 l[k].fr)∧w.cell? ⟨b,off+k*7+1,none⟩=some (.int .i64 l[k].en)∧w.cell? ⟨b,off+k*7+2,none⟩=some (.bool l[k].rd)∧w.cell? ⟨b,off+k*7+3,none⟩=some (.bool l[k].wr) ∧
  w.cell? ⟨b,off+k*7+4,none⟩=some (.bool l[k].sh)∧w.cell? ⟨b,off+k*7+5,none⟩=some (.int .i64 l[k].fi)∧w.cell? ⟨b,off+k*7+6,none⟩=some (.int .i64 l[k].ba):=by
 obtain⟨b,off,e,h1⟩:=QS h k hk;exact⟨b,off,e,h1.cells⟩
theorem Pm (a:Ar) (g:Nat) (n:Int) (w:World) (hg:aC w g #[.int .i64 n] 3) :
  Calls Tryz.prog 121 #[.agg #[.int .i64 a.fr,.int .i64 a.en,.bool a.rd,.bool a.wr,.bool a.sh,.int .i64 a.fi,.int .i64 a.ba],.pointer (some ⟨g,0,none⟩)] w fun r w'=>r = .returned (.bool (nS n a))∧Below w.heap.size w w':=by
 go_enter func121,ntmps121;go_upto_region 1 with (fail);refine gI (fun W=>Code.wp _ _ _ _ W) fun W0 hb0 hx0 hs0 => ?_;clear hs0;have hgx:=(hg.ext hb0).cell 0;have hcx:=hx0.cell
 by_cases h1:a.fr≤n
 ·by_cases h2:n<a.en
  ·have hz:=Lib.hid (show nS n a=true by unfold nS;rw[decide_eq_true h1,decide_eq_true h2];rfl);go_wp2;go_ret;exact⟨bH hz.out.symm,hb0⟩
  have hz:=Lib.hid (show nS n a=false by unfold nS;rw[decide_eq_false h2,lU]);go_wp2;go_ret;exact⟨bH hz.out.symm,hb0⟩
 have hz:=Lib.hid (show nS n a=false by unfold nS;rw[decide_eq_false h1,lV]);go_wp2;go_ret;exact⟨bH hz.out.symm,hb0⟩
theorem IV (l:List Ar) (a:Option Addr) (c:Nat) (w:World) (hrd:dN w a (l.flatMap mF)) (hl:l.length≤9223372036854775807) (g:Nat) (n:Int) (hg:aC w g #[.int .i64 n] 3) :
  Calls Tryz.prog 120 #[.slice a l.length c,.func (.func 121) #[] #[.pointer (some ⟨g,0,none⟩)]] w fun e w'=>e = .returned (.int .i64 (idx (nS n) l))∧Below w.heap.size w w':=by
 go_enter func120,ntmps120;go_wp2
 go_loopw [8] (fun i wr => ∃k:Nat,k≤l.length∧i = .int .i64 k∧Below w.heap.size w wr∧∀i (h:i<l.length),i<k→(nS n) l[i]=false) (fun i _=>l.length-(intOf i).toNat)
 case atStart=>exact⟨0,aS _,rfl,Below.refl _ _,fun i _ h=>absurd h (dO _)⟩
 case round=>
  obtain⟨k,hk,rfl,hbr,hp0⟩:=hrel;have hp:=Lib.hid hp0;clear hp0
  by_cases hlt:k<l.length
  ·obtain⟨b,off,rfl,c0,c1,c2,c3,c4,c5,c6⟩:=Mf (hrd.below hbr) k hlt
   go_wp2_with fail
   refine (Pm l[k] g n _ (hg.ext hbr)).mono ?_;rintro e w2 ⟨rfl,hb2⟩;have hbel2:=ae hbr hb2;clear hb2;cases hpk:(nS n) l[k]
   ·have hpk':=Lib.hid hpk;clear hpk;go_wp2;go_roundw
    case rel=>exact⟨k+1,by omega,by go_num,hbel2,lH hp.out hlt hpk'.out⟩
    case measure=>simp[intOf];omega
   have hfin:=Lib.hid (tH (nS n) l k hlt hp.out hpk);clear hpk;go_wp2;go_ret;exact⟨aR hfin.out.symm,hbel2⟩
  have hfin:=Lib.hid (kT (nS n) l fun i h=>hp.out i h (by omega));go_wp2;go_ret;exact⟨aR hfin.out.symm,hbr⟩
theorem NY (l:List Ar) (n:Int) (a:Option Addr) (c:Nat) (w:World) (hrd:dN w a (l.flatMap mF)) (hl:l.length≤9223372036854775807) :
  Calls Tryz.prog 81 #[.slice a l.length c,.int .i64 n] w fun r w'=>r = .returned (.int .i64 (kD l n))∧Below w.heap.size w w':=by
 go_enter func81,ntmps81;go_upto_region 1 with (fail);refine gI (fun W=>Code.wp _ _ _ _ W) fun W0 hb0 hx0 hs0 => ?_;clear hs0
 go_wp2_with fail
 refine (IV l a c _ (hrd.below hb0) hl w.heap.size n hx0).mono ?_;rintro r w1 ⟨rfl,hb1⟩;go_wp2;go_ret;exact⟨rfl,ae hb0 hb1⟩
theorem OL (l:List Ar):(l.flatMap mF).length=l.length*7:=Pw.flat_len mF 7 su l
theorem Ty (a:Ar):∀u∈mF a,u.oneCell' = true:=by
 intro u hu;simp only[mF,nR,bY,fI,or_false] at hu;rcases hu with rfl|rfl|rfl|rfl|rfl|rfl|rfl<;>rfl
theorem qA (l:List Ar):∀u∈l.flatMap mF,u.oneCell' = true:=by
 intro u hu;obtain⟨a,_,h⟩:=jP.1 hu;exact Ty a u h
theorem Jd (l:List Ar) (a:Option Addr) (c:Nat) (w:World) (hle:l.length≤c) (hnil:a=none→c=0) (hrd:dN w a (l.flatMap mF)) (hb:l.length*40≤140737488355328) :
  Calls Tryz.prog 41 #[.slice a l.length c] w fun e w' => ∃v,e = .returned v∧Own w' w.heap.size 99 7 v l.length (l.flatMap mF)∧Below w.heap.size w w':=by
 cases a with
 | none=>
  have h0:=hnil rfl;have hl:l=[]:=jO (by omega);subst hl;subst h0;have hq:=fun W=>lN (P:=Tryz.prog) W 50 _ none 0 0 0 0 underlying50;go_enter func41,ntmps41;go_wp2;go_ret;exact⟨_,rfl,by simpa using Own.nil _ _ _ _,Below.refl _ _⟩
 | some ad=>
  have hq:=fun W=>lN (P:=Tryz.prog) W 50 _ (some ad) l.length c 0 0 underlying50;go_enter func41,ntmps41
  go_wp2_with (at_builtin;go_must (refine eH rfl _ _ 50 rfl w.heap.size 99 (.agg #[.int .i64 0,.int .i64 0,.bool false,.bool false,.bool false,.int .i64 0,.int .i64 0]) 7 40 underlying50 area_info rfl (by decide) _ 0 [] rfl ?own (some ad) l.length c (l.flatMap mF) rfl (fun h=>(by cases h)) hle (OL l) ?rd (qA l) (by unfold maxLen;omega) (by simpa using hb) ?bb ?k))
  case own=>exact⟨rfl,.inr ⟨w.heap.size,0,0,#[],rfl,ay _,aC.new _ _ _,ay _,aS _,by simp,fun j u h=>by simp at h⟩⟩
  case rd=>exact hrd.below ((Below.refl _ _).alloc (ay _) _)
  case bb=>exact fU _ _
  intro v w1 hown hgr;go_wp2;go_ret;exact⟨v,rfl,by simpa using hown,((Below.refl _ _).alloc (ay _) _).grown hgr (fU _ _) (fun k hk=>by cases hk;exact ay _)⟩
structure Vu (w:World) (a:Option Addr) (c:Nat) (l:List Ar):Prop where
 le:l.length≤c
 mx:c≤maxLen
 nl:a=none→c=0
 rd:dN w a (l.flatMap mF)
theorem Vu.below {l:List Ar} (h:Vu w a c l) (hb:Below w.heap.size w w'):Vu w' a c l:=⟨h.le,h.mx,h.nl,h.rd.below hb⟩
def VY (x:Ar):lX:=⟨fun v w => ∃g,v = .slice (some ⟨g,0,none⟩) 1 1∧aC w g (nR x) 99,fun _ _ _ hb ⟨g,h1,h2⟩=>⟨g,h1,h2.ext hb⟩⟩
theorem own_not {l:List Ar} {x:Ar} (h:Own w B 99 7 v l.length (l.flatMap mF)) (hg:aC w g (nR x) 99) (hx:¬x∈l) (h0:0<l.length):∀b,v.ownBlock=some b→g≠b:=by
 rintro b hb rfl;rcases h with ⟨hlen,⟨rfl,_⟩|⟨b',off,cap,cur,rfl,hB,hk,hc,hm,hs,ht⟩⟩
 ·cases hb
 cases hb;unfold aC at hk hg;rw[hk] at hg;simp only[iM,rY,and_true] at hg;subst hg;have h7:(nR x).size=7:=rfl;have ho:off=0:=by omega
 subst ho
 match l,h0 with
 | y::r,_=>
  have hc:∀(j:Nat) (u:Value),(mF y)[j]?=some u→(nR x)[j]?=some u:=by intro j u hj;have:=ht j u (by rw[lZ,kV (by have:=(bW.1 hj).1;exact this)];exact hj);rwa [ed] at this
  have e0:=hc 0 _ rfl;have e1:=hc 1 _ rfl;have e2:=hc 2 _ rfl;have e3:=hc 3 _ rfl;have e4:=hc 4 _ rfl;have e5:=hc 5 _ rfl;have e6:=hc 6 _ rfl;simp[nR] at e0 e1 e2 e3 e4 e5 e6;refine hx (bY.2 (.inl ?_));cases x;cases y
  simp_all
theorem wG (ht:P.underlying t=some (.array n e)) (he:P.underlying e=some d) (hd:aggB d=true) (hs:(P.info? e).map (·.size)=some sz)
 (cs:Array Value) (k:Nat) (vs:Array Value) (hk:k<n) (hv:cs.extract (k*sz) (k*sz+sz)=vs) (kk:IntKind) (w:World):(Instr.index t (.agg cs) (.int kk k)).run P w = .ok (.agg vs) w:=by
 have hsz:∀w,(Go.sizeOf e).run P w = .ok sz w:=by
  intro w;cases hq:P.info? e with
  | none=>simp[hq] at hs
  | some i=>
   have hz:i.size=sz:=by simpa[hq] using hs
   simp[Go.sizeOf,typeInfo,run_program,hq,hz]
 have ha:∀w,(isAgg e).run P w = .ok true w:=by intro w;unfold isAgg;simp[run_underlying he];cases d<;>simp_all[aggB]
 simp[Instr.index,part,asIntOf,run_underlying ht,hsz,hk,ha,go_sem,hv]
theorem ww (l:List Int) (a:Option Addr) (c:Nat) (w:World) (hle:l.length≤c) (hnil:a=none→c=0) (hrd:dN w a (l.map fM)) (hb:l.length*8≤140737488355328) :
  Calls Tryz.prog 74 #[.slice a l.length c] w fun e w' => ∃v,e = .returned v∧Own w' w.heap.size 3 1 v l.length (l.map fM)∧Below w.heap.size w w':=by
 cases a with
 | none=>
  have h0:=hnil rfl;have hl:l=[]:=jO (by omega);subst hl;subst h0;have hq:=fun W=>lN (P:=Tryz.prog) W 30 _ none 0 0 0 0 underlying30;go_enter func74,ntmps74;go_wp2;go_ret;exact⟨_,rfl,by simpa using Own.nil _ _ _ _,Below.refl _ _⟩
 | some ad=>
  have hq:=fun W=>lN (P:=Tryz.prog) W 30 _ (some ad) l.length c 0 0 underlying30;go_enter func74,ntmps74
  go_wp2_with (at_builtin;go_must (refine eH rfl _ _ 30 rfl w.heap.size 3 (.int .i64 0) 1 8 underlying30 int_info rfl (by decide) _ 0 [] rfl ?own (some ad) l.length c (l.map fM) rfl (fun h=>(by cases h)) hle (JQ l) ?rd (Jf l) (by unfold maxLen;omega) (by simpa using hb) ?bb ?k))
  case own=>exact⟨rfl,.inr ⟨w.heap.size,0,0,#[],rfl,ay _,aC.new _ _ _,ay _,aS _,by simp,fun j u h=>by simp at h⟩⟩
  case rd=>exact hrd.below ((Below.refl _ _).alloc (ay _) _)
  case bb=>exact fU _ _
  intro v w1 hown hgr;go_wp2;go_ret;exact⟨v,rfl,by simpa using hown,((Below.refl _ _).alloc (ay _) _).grown hgr (fU _ _) (fun k hk=>by cases hk;exact ay _)⟩
theorem TH (n:Int) (w:World):Calls Tryz.prog 132 #[.int .i64 n] w fun e w'=>e = .returned (.bool (qx n))∧w' = w:=by
 unfold qx;go_enter func132,ntmps132;go_wp2
 all_goals
  go_ret;refine⟨bH ?_,rfl⟩;simp[*]
theorem Rz (l:List Int) (a:Option Addr) (c:Nat) (w:World) (hrd:dN w a (l.map fM)) (hl:l.length≤9223372036854775807) :
  Calls Tryz.prog 147 #[.slice a l.length c,.func (.func 132) #[] #[]] w fun e w'=>e = .returned (.int .i64 (idx qx l))∧w' = w:=by
 go_enter func147,ntmps147;go_wp2
 go_loopw [8] (fun i wr => ∃k:Nat,k≤l.length∧i = .int .i64 k∧wr=w∧∀i (h:i<l.length),i<k→qx l[i]=false) (fun i _=>l.length-(intOf i).toNat)
 case atStart=>exact⟨0,aS _,rfl,rfl,fun i _ h=>absurd h (dO _)⟩
 case round=>
  obtain⟨k,hk,rfl,rfl,hp⟩:=hrel
  by_cases hlt:k<l.length
  ·obtain⟨b,off,rfl,hc⟩:=jl hrd k hlt
   go_wp2_with fail
   refine (TH l[k] _).mono ?_;rintro e w1 ⟨rfl,rfl⟩;cases hbk:qx l[k] with
   | true=>
    go_wp2;go_ret;exact⟨aR (tH qx l k hlt hp hbk).symm,rfl⟩
   | false=>
    go_wp2;go_roundw
    case rel=>exact⟨k+1,by omega,by go_num,trivial,upto hp hlt hbk⟩
    case measure=>simp[intOf];omega
  go_wp2;go_ret;exact⟨aR (kT qx l fun i h=>hp i h (by omega)).symm,rfl⟩
theorem DF (l:List Int) (a:Option Addr) (c:Nat) (w:World) (hrd:dN w a (l.map fM)) (hl:l.length≤9223372036854775807) :
  Calls Tryz.prog 131 #[.slice a l.length c,.func (.func 132) #[] #[]] w fun e w'=>e = .returned (.bool (l.any qx))∧w' = w:=by
 rw[←nC];go_enter func131,ntmps131
 go_wp2_with fail
 refine (Rz l a c _ hrd hl).mono ?_;rintro e w1 ⟨rfl,rfl⟩;go_wp2;go_ret;exact⟨rfl,rfl⟩
theorem vX (l:List Int) (a:Option Addr) (c:Nat) (w:World) (hrd:dN w a (l.map fM)) (hl:l.length≤9223372036854775807) :
  Calls Tryz.prog 108 #[.slice a l.length c] w fun e w'=>e = .returned (.int .i64 (dm l))∧w' = w:=by
 unfold dm;go_enter func108,ntmps108
 by_cases h:60<l.length
 ·have h1:(60:Int)<(l.length:Int):=by omega
  go_wp2;go_ret;exact⟨by simp[h],rfl⟩
 have h1:¬(60:Int)<(l.length:Int):=by omega
 go_wp2_with fail
 refine (DF l a c _ hrd hl).mono ?_;rintro e w1 ⟨rfl,rfl⟩;cases hb:l.any qx<;>(go_wp2;go_ret;exact⟨by simp[h],rfl⟩)
theorem IW (l:List Int) (a:Option Addr) (c:Nat) (w:World) (hrd:dN w a (l.map fM)) (hl:l.length≤9223372036854775807) :
  Calls Tryz.prog 83 #[.slice a l.length c] w fun e w'=>e = .returned (.int .i64 (dm l))∧w' = w:=by
 unfold dm;go_enter func83,ntmps83
 by_cases h:60<l.length
 ·have h1:(60:Int)<(l.length:Int):=by omega
  go_wp2;go_ret;exact⟨by simp[h],rfl⟩
 have h1:¬(60:Int)<(l.length:Int):=by omega
 rw[if_neg h];go_wp2
 go_loopw [10] (fun i wr => ∃k:Nat,k≤l.length∧i = .int .i64 k∧wr=w∧∀i (h:i<l.length),i<k→qx l[i]=false) (fun i _=>l.length-(intOf i).toNat)
 case atStart=>exact⟨0,aS _,rfl,rfl,fun i _ h=>absurd h (dO _)⟩
 case round=>
  obtain⟨k,hk,rfl,rfl,hp⟩:=hrel
  by_cases hlt:k<l.length
  ·obtain⟨b,off,rfl,hc⟩:=jl hrd k hlt
   by_cases hn:l[k]<0∨1000<l[k]
   ·have hbk:qx l[k]=true:=by simpa[qx] using hn
    have ha:l.any qx=true:=iW.2 ⟨_,dP hlt,hbk⟩;rcases hn with hn|hn <;>
    go_wp2
    all_goals
     go_ret;exact⟨by simp[ha],rfl⟩
   have hbk:qx l[k]=false:=by simp[qx];omega
   have n1:¬l[k]<0:=by omega
   have n2:¬(1000<l[k]):=by omega
   go_wp2;go_roundw
   case rel=>exact⟨k+1,by omega,by go_num,trivial,upto hp hlt hbk⟩
   case measure=>simp[intOf];omega
  have ha:l.any qx=false:=by rw[←nC,kT qx l fun i h=>hp i h (by omega)];rfl
  go_wp2
  all_goals
   go_ret;exact⟨by simp[ha],rfl⟩
theorem JC (l:List Int) (a:Option Addr) (c:Nat) (w:World) (hrd:dN w a (l.map fM)) (hl:l.length≤9223372036854775807) :
  Calls Tryz.prog 143 #[.slice a l.length c,.int .i64 0] w fun e w'=>e = .returned (.int .i64 (idx IJ l))∧w' = w:=by
 go_enter func143,ntmps143;go_wp2
 go_loopw [8] (fun i wr => ∃k:Nat,k≤l.length∧i = .int .i64 k∧wr=w∧∀i (h:i<l.length),i<k→IJ l[i]=false) (fun i _=>l.length-(intOf i).toNat)
 case atStart=>exact⟨0,aS _,rfl,rfl,fun i _ h=>absurd h (dO _)⟩
 case round=>
  obtain⟨k,hk,rfl,rfl,hp⟩:=hrel
  by_cases hlt:k<l.length
  ·obtain⟨b,off,rfl,hc⟩:=jl hrd k hlt
   by_cases hz:l[k]=0
   ·have hbk:IJ l[k]=true:=by simp[IJ,hz]
    rw[hz] at hc;go_wp2;go_ret;exact⟨aR (tH IJ l k hlt hp hbk).symm,rfl⟩
   have hbk:IJ l[k]=false:=by simp[IJ,hz]
   have hz' : ((0:Int)==l[k])=false:=by simp;omega
   go_wp2;go_roundw
   case rel=>exact⟨k+1,by omega,by go_num,trivial,upto hp hlt hbk⟩
   case measure=>simp[intOf];omega
  go_wp2;go_ret;exact⟨aR (kT IJ l fun i h=>hp i h (by omega)).symm,rfl⟩
theorem one_cell_int:∀x:Int,([fM x]:List Value).length=1:=fun _=>rfl
theorem OE (n:Int) (w:World) :
  Calls Tryz.prog 97 #[.int .i64 n] w fun e w' => ∃v,e = .returned (.tuple #[v,.int .i64 (GY n)])∧Own w' w.heap.size 3 1 v (AQ n).length ((AQ n).map fM)∧Below w.heap.size w w':=by
 unfold GY AQ
 by_cases h:0≤n∧n≤60
 ·obtain⟨m,rfl⟩:=fE h.1;have h1:(m:Int)≤60:=h.2;rw[if_pos h,if_pos h];go_enter func97,ntmps97
  go_wp2_with (with_reducible refine uk _ rfl (.tmp 10) (.tmp 10) 30 rfl (fun x=>[fM x]) 3 (.int .i64 0) 1 8 0 one_cell_int (by decide) underlying30 int_info rfl .i64 .i64 m m m rfl rfl rfl rfl (by omega) (by unfold maxLen;omega) ?k)
  intro w' ho hgr;rw[iR] at ho;go_wp2;go_ret2;exact⟨_,rfl,by simpa using ho,(Below.refl _ _).grown hgr (ay _) (fun k hk=>by cases hk)⟩
 rw[if_neg h,if_neg h];go_enter func97,ntmps97
 by_cases h0:n<0
 ·go_wp2;go_ret2;exact⟨_,rfl,Own.nil _ _ _ _,Below.refl _ _⟩
 have h1:60<n:=by omega
 go_wp2;go_ret2;exact⟨_,rfl,Own.nil _ _ _ _,Below.refl _ _⟩
theorem LB (l:List Int) (a:Option Addr) (c:Nat) (n:Int) (w:World) (hle:l.length≤c) (hnil:a=none→c=0) (hrd:dN w a (l.map fM)) (hl:l.length≤9223372036854775807) :
  Calls Tryz.prog 128 #[.slice a l.length c,.int .i64 n] w fun e w' => ∃v,e = .returned (.tuple #[v,.int .i64 (jA l n),.int .i64 (gP l n)])∧Own w' w.heap.size 3 1 v (lF l n).length ((lF l n).map fM)∧Below w.heap.size w w':=by
 go_enter func128,ntmps128
 go_wp2_with fail
 refine (vX l a c _ hrd (by omega)).mono ?_;rintro e w1 ⟨rfl,rfl⟩
 by_cases h0:dm l=0
 ·rw[h0];have hlen:=iT h0
  by_cases hn:n<1∨1000<n
  ·obtain⟨q1,q2,q3⟩:=Lj h0 hn;rcases hn with hn|hn <;>
   go_wp2
   all_goals
    go_ret3
    try simp only[q1,q2,q3]
    exact⟨_,rfl,Own.nil _ _ _ _,Below.refl _ _⟩
  have n1:¬n<1:=by omega
  have n2:¬1000<n:=by omega
  go_wp2_with fail
  refine (JC l a c _ hrd (by omega)).mono ?_;rintro e w2 ⟨rfl,rfl⟩;rcases Ao IJ l with ⟨hi,_⟩|⟨k,hk,hi,hz,_⟩
  ·obtain⟨q1,q2,q3⟩:=MB h0 ⟨by omega,by omega⟩ hi;rw[hi];go_wp2
   go_ret3
   try simp only[q1,q2,q3]
   exact⟨_,rfl,Own.nil _ _ _ _,Below.refl _ _⟩
  obtain⟨q1,q2,q3⟩:=PK h0 ⟨by omega,by omega⟩ hi;rw[hi]
  go_wp2_with fail
  refine (ww l a c _ hle hnil hrd (by omega)).mono ?_;rintro e w3 ⟨v,rfl,ho,hb⟩;obtain⟨g,off,cap,rfl,hB,hlt,hc,hf,hset⟩:=ho.put1 k hk;go_wp2
  go_ret3
  try simp only[q1,q2,q3]
  exact⟨_,rfl,by rw[bI];exact hset n,hb.setCell hB _⟩
 obtain⟨q1,q2,q3⟩:=Kt n h0;have hw:(dm l != 0)=true:=by simpa using h0
 go_wp2
 go_ret3
 try simp only[q1,q2,q3]
 exact⟨_,rfl,Own.nil _ _ _ _,Below.refl _ _⟩
theorem KM (l:List Int) (a:Option Addr) (c:Nat) (k n:Int) (w:World) (hle:l.length≤c) (hnil:a=none→c=0) (hrd:dN w a (l.map fM)) (hl:l.length≤9223372036854775807) :
  Calls Tryz.prog 78 #[.slice a l.length c,.int .i64 k,.int .i64 n] w fun e w' => ∃v,e = .returned (.tuple #[v,.int .i64 (fV l k n)])∧Own w' w.heap.size 3 1 v (fZ l k n).length ((fZ l k n).map fM)∧Below w.heap.size w w':=by
 go_enter func78,ntmps78
 go_wp2_with fail
 refine (vX l a c _ hrd (by omega)).mono ?_;rintro e w1 ⟨rfl,rfl⟩
 by_cases h0:dm l=0
 ·rw[h0];have hlen:=iT h0
  by_cases hk:k<0∨(l.length:Int)≤k
  ·obtain⟨q1,q2⟩:=FO (n:=n) h0 (show k<0∨(l.length:Int)≤k∨Hf l k=0 from by omega);rcases hk with hk|hk <;>
   go_wp2
   all_goals
    go_ret2
    try simp only[q1,q2]
    exact⟨_,rfl,Own.nil _ _ _ _,Below.refl _ _⟩
  obtain⟨k,rfl⟩:=fE (show 0≤k by omega);have hlt:k<l.length:=by omega
  have hlt1:¬(l.length:Int)≤(k:Int):=by omega
  obtain⟨b,off,rfl,hc⟩:=jl hrd k hlt;obtain⟨b1,b2⟩:=RY l k hlt h0;have hat:=Tp hlt
  by_cases hz:l[k]=0
  ·obtain⟨q1,q2⟩:=FO (n:=n) h0 (show (k:Int)<0∨(l.length:Int)≤k∨Hf l k=0 from by omega);rw[hz] at hc;clear hk hat b1 b2;go_wp2
   all_goals
    go_ret2
    try simp only[q1,q2]
    exact⟨_,rfl,Own.nil _ _ _ _,Below.refl _ _⟩
  have hz' : (l[k]==(0:Int))=false:=by simp;omega
  have hnn:¬((k:Int)<0∨(l.length:Int)≤k∨Hf l k=0):=by omega
  by_cases hr:n < -Hf l k∨1000-Hf l k<n
  ·obtain⟨q1,q2⟩:=Mo h0 hnn hr;rw[hat] at hr;clear hat hnn hk;rcases hr with hr|hr <;>
   go_wp2
   all_goals
    go_ret2
    try simp only[q1,q2]
    exact⟨_,rfl,Own.nil _ _ _ _,Below.refl _ _⟩
  obtain⟨q1,q2⟩:=Om h0 hnn hr;rw[hat] at hr q2;rw[bU] at q2;have r1:¬n < -l[k]:=by omega
  have r2:¬1000-l[k]<n:=by omega
  clear hat hnn hk hr
  go_wp2_with fail
  refine (ww l _ c _ hle hnil hrd (by omega)).mono ?_;rintro e w3 ⟨v,rfl,ho,hb⟩;obtain⟨g,off',cap,rfl,hB,hltg,hc',hf,hset⟩:=ho.put1 k hlt;unfold fM at hc';go_wp2;go_ret2
  try simp only[q1,q2]
  exact⟨_,rfl,by rw[bI];exact hset _,hb.setCell hB _⟩
 obtain⟨q1,q2⟩:=KL k n h0;have hw:(dm l != 0)=true:=by simpa using h0
 go_wp2;go_ret2
 try simp only[q1,q2]
 exact⟨_,rfl,Own.nil _ _ _ _,Below.refl _ _⟩
structure PS where
 lv:Bool
 aa:Option Addr
 ac:Nat
 ar:List Ar
 ts:Vector Value 8
 tb:Tb
def PS.sp (p:PS):Sp:=⟨p.lv,p.ar,p.tb⟩
def ng (v:Vector Value 8):Array Value:=#[v[0],v[1],v[2],v[3],v[4],v[5],v[6],v[7]]
theorem SG (v:Vector Value 8):(ng v).size=8:=rfl
theorem QD (h:cs.size=8):∃v:Vector Value 8,cs=ng v:=by
 refine⟨⟨cs,h⟩,?_⟩;apply Array.ext
 ·rw[h,SG]
 intro i h1 h2;have hi:i<8:=by omega
 match i,hi with
 | 0,_=>rfl
 | 1,_=>rfl
 | 2,_=>rfl
 | 3,_=>rfl
 | 4,_=>rfl
 | 5,_=>rfl
 | 6,_=>rfl
 | 7,_=>rfl
 | n+8,h=>omega
def vM (p:PS):Array Value:=#[.bool p.lv,.slice p.aa p.ar.length p.ac,p.ts[0],p.ts[1],p.ts[2],p.ts[3],p.ts[4],p.ts[5],p.ts[6],p.ts[7]]
def tF (p:PS):List Value:=(vM p).toList
theorem rQ (p:PS):(tF p).length=10:=rfl
theorem vB (c:Cc):(Ab c).all (·.oneCell')=true:=by simp[Ab,Value.oneCell']
theorem space_size:(Tryz.prog.info? 55).map (·.size)=some 10:=by kernel_rfl
theorem space_info:(Tryz.prog.info? 55).map (fun i=>(i.zero,i.size,i.bytes))=some (some (.agg #[.bool false,.slice none 0 0,.slice none 0 0,.slice none 0 0,.slice none 0 0,.slice none 0 0,.slice none 0 0,.slice none 0 0,.slice none 0 0,.slice none 0 0]),10,224):=by kernel_rfl
theorem cached_size:(Tryz.prog.info? 106).map (·.size)=some 3:=by kernel_rfl
theorem cached_info:(Tryz.prog.info? 106).map (fun i=>(i.zero,i.size,i.bytes))=some (some (.agg #[.int .i64 0,.int .i64 0,.int .i64 0]),3,24):=by kernel_rfl
theorem machine_size:(Tryz.prog.info? 41).map (·.size)=some 11:=by kernel_rfl
structure PS.good (w:World) (p:PS):Prop where
 ars:Vu w p.aa p.ac p.ar
 tb:EE w (ng p.ts) p.tb
theorem PS.good.below {p:PS} (h:p.good w) (hb:Below w.heap.size w w'):p.good w':=⟨h.ars.below hb,h.tb.below hb⟩
theorem PS.good.one {p:PS} (h:p.good w):∀u∈tF p,u.oneCell' = true:=by
 have h1:∀u∈(ng p.ts).toList,u.oneCell' = true:=by have:=h.tb.one;rw[←ky,dL] at this;exact this
 intro u hu;simp only[tF,vM,bY,fI,or_false] at hu;simp only[ng,bY,fI,or_false] at h1;rcases hu with rfl|rfl|hu
 ·rfl
 ·rfl
 ·exact h1 u hu
structure ui (w:World) (a:Option Addr) (c n:Nat) (vs:List Value):Prop where
 le:n≤c
 mx:c≤maxLen
 nl:a=none→c=0
 rd:dN w a vs
theorem ui.below (h:ui w a c n vs) (hb:Below w.heap.size w w'):ui w' a c n vs:={ h with rd:=h.rd.below hb }
theorem ui.of (h:Own w B e sz v n xs):∃a c,v = .slice a n c∧ui w a c n xs:=by
 obtain⟨a,c,rfl,h1,h2,h3,h4⟩:=h.rd;exact⟨a,c,rfl,h1,h2,h3,h4⟩
structure MH where
 af:Option Addr
 cf:Nat
 m:Mem
 asl:Option Addr
 csl:Nat
 sl:List Int
 wb:Option Addr
 cwb:Nat
 wq:Option Addr
 cwq:Nat
 sw:mZ
 db:Option Addr
 cdb:Nat
 dq:Option Addr
 cdq:Nat
 dk:mZ
 ai:Option Addr
 ci:Nat
 fi:List PF
 ct:Int
 ac:Option Addr
 cc:Nat
 ca:List Cc
 ap:Option Addr
 cp:Nat
 sp:List PS
def MH.ma (H:MH):Ma:=⟨H.m,H.sl,H.sw,H.dk,bZ H.fi H.ct,H.ca,H.sp.map PS.sp⟩
def dD (H:MH):Array Value:=#[.slice H.af H.m.fs.length H.cf,.int .i64 H.m.hand,.slice H.asl H.sl.length H.csl,.slice H.wb H.sw.blocks.length H.cwb,.slice H.wq H.sw.queue.length H.cwq,
 .slice H.db H.dk.blocks.length H.cdb,.slice H.dq H.dk.queue.length H.cdq,.slice H.ai H.fi.length H.ci,.int .i64 H.ct,.slice H.ac H.ca.length H.cc,.slice H.ap H.sp.length H.cp]
theorem iB (H:MH):(dD H).all (·.oneCell')=true:=by simp[dD,Value.oneCell']
structure BF (w:World) (H:MH):Prop where
 fr:QX w H.af H.cf H.m
 sl:ui w H.asl H.csl H.sl.length (H.sl.map fM)
 sw:JF w H.wb H.cwb H.wq H.cwq H.sw
 dk:JF w H.db H.cdb H.dq H.cdq H.dk
 st:Ll w H.ai H.ci H.fi
 ca:ui w H.ac H.cc H.ca.length (H.ca.flatMap mh)
 sp:ui w H.ap H.cp H.sp.length (H.sp.flatMap tF)
 ps:∀p∈H.sp,p.good w
 c64 : -9223372036854775808≤H.ct∧H.ct≤9223372036854775807
theorem BF.below {H:MH} (h:BF w H) (hb:Below w.heap.size w w'):BF w' H:=
 ⟨h.fr.below hb,h.sl.below hb,h.sw.below hb,h.dk.below hb,h.st.below hb,h.ca.below hb,h.sp.below hb,fun p hp=>(h.ps p hp).below hb,h.c64⟩
theorem xH {ps:List PS} (h:dN w a (ps.flatMap tF)) (k:Nat) (hk:k<ps.length):∃b off p,a=some ⟨b,off,none⟩∧ps[k]?=some p∧dN w (some ⟨b,off+k*10,none⟩) (tF p):=by
 obtain⟨b,off,ha,hc⟩:=h.elem rQ (by decide) k hk;refine⟨b,off,ps[k],ha,aG hk,fun j u hj=>⟨b,off+k*10,rfl,hc j u hj⟩⟩
theorem wJ {H:MH} (h:BF w H) {p:PS} (hp:H.sp[k]?=some p):p.good w:=h.ps p (bQ hp)
theorem Uu {l:List Cc} (h:dN w a (l.flatMap mh)) (k:Nat) (hk:k<l.length):∃b off c,a=some ⟨b,off,none⟩∧l[k]?=some c∧w.cell? ⟨b,off+k*3,none⟩=some (.int .i64 c.f)∧w.cell? ⟨b,off+k*3+1,none⟩=some (.int .i64 c.i)∧w.cell? ⟨b,off+k*3+2,none⟩=some (.int .i64 c.k):=by
 obtain⟨b,off,ha,hc⟩:=h.elem oV (by decide) k hk;exact⟨b,off,l[k],ha,aG hk,hc 0 _ rfl,hc 1 _ rfl,hc 2 _ rfl⟩
structure RF (m:Ma):Prop where
 fs:m.m.fs.length≤1000
 sl:m.sl.length≤1000
 swb:m.sw.blocks.length≤1000
 swq:m.sw.queue.length≤1000
 dkb:m.dk.blocks.length≤1000
 dkq:m.dk.queue.length≤1000
 st:m.st.fs.length≤1000∧∀f∈m.st.fs,f.b.length≤1000
 ca:m.ca.length≤1000
 sp:m.sp.length≤1000∧∀s∈m.sp,s.ar.length≤1000∧∀k (h:k<8),s.tb[k].length≤1000
structure uj (w:World) (B:Nat) (H:MH):Prop where
 fr:Own w B 81 13 (.slice H.af H.m.fs.length H.cf) H.m.fs.length (H.m.fs.flatMap pO)
 sl:Own w B 3 1 (.slice H.asl H.sl.length H.csl) H.sl.length (H.sl.map fM)
 sw:ic w B (.slice H.wb H.sw.blocks.length H.cwb) (.slice H.wq H.sw.queue.length H.cwq) H.sw
 dk:ic w B (.slice H.db H.dk.blocks.length H.cdb) (.slice H.dq H.dk.queue.length H.cdq) H.dk
 st:nM w B (.slice H.ai H.fi.length H.ci) H.fi
 ca:Own w B 106 3 (.slice H.ac H.ca.length H.cc) H.ca.length (H.ca.flatMap mh)
 sp:Own w B 55 10 (.slice H.ap H.sp.length H.cp) H.sp.length (H.sp.flatMap tF)
 ps:∀p∈H.sp,Own w B 99 7 (.slice p.aa p.ar.length p.ac) p.ar.length (p.ar.flatMap mF)∧qD w B (ng p.ts) p.tb
 c64 : -9223372036854775808≤H.ct∧H.ct≤9223372036854775807
theorem uj.below {H:MH} (h:uj w B H) (hb:Below w.heap.size w w'):uj w' B H:=
 ⟨h.fr.below hb,h.sl.below hb,h.sw.below hb,h.dk.below hb,h.st.below hb,h.ca.below hb,h.sp.below hb,fun p hp=>⟨(h.ps p hp).1.below hb,(h.ps p hp).2.below hb⟩,h.c64⟩
theorem uj.mono {H:MH} (h:uj w B H) (hB:B'≤B):uj w B' H:=
 ⟨h.fr.mono hB,h.sl.mono hB,h.sw.mono hB,h.dk.mono hB,h.st.mono hB,h.ca.mono hB,h.sp.mono hB,fun p hp=>⟨(h.ps p hp).1.mono hB,(h.ps p hp).2.mono hB⟩,h.c64⟩
theorem sO (h:Own w B e sz (.slice a n c) n xs):ui w a c n xs:=by
 obtain⟨a',c',e1,h1⟩:=ui.of h;simp only[lY,true_and] at e1;obtain⟨rfl,rfl⟩:=e1;exact h1
theorem RN {b:Option Addr} {e:Nat} {d:mZ} (h:ic w B (.slice a d.blocks.length c) (.slice b d.queue.length e) d):JF w a c b e d:=
 have h1:=sO h.b;have h2:=sO h.q
 ⟨h1.le,h2.le,h1.mx,h2.mx,h1.nl,h2.nl,h1.rd,h2.rd⟩
theorem Vq {ps:List PF} (h:nM w B (.slice a ps.length c) ps):Ll w a c ps:=by
 obtain⟨a',c',e1,h1⟩:=h.rd;simp only[lY,true_and] at e1;obtain⟨rfl,rfl⟩:=e1;exact h1
theorem uj.rd {H:MH} (h:uj w B H):BF w H:=
 have h1:=sO h.fr
 ⟨⟨h1.le,h1.mx,h1.nl,h1.rd⟩,sO h.sl,RN h.sw,RN h.dk,Vq h.st,sO h.ca,sO h.sp,fun p hp=>⟨have h2:=sO (h.ps p hp).1;⟨h2.le,h2.mx,h2.nl,h2.rd⟩,(h.ps p hp).2.rd⟩,h.c64⟩
theorem uj.keep {H:MH} (h:uj w B H) (hk:aC w g cs T)
 (hT:T≠81∧T≠3∧T≠79∧T≠86∧T≠67∧T≠106∧T≠55∧T≠99∧T≠89) (hgr:w.grownBy w' (some g)):uj w' B H:=
 have ⟨t1,t2,t3,t4,t5,t6,t7,t8,t9⟩:=hT
 ⟨ak h.fr hk t1 hgr,ak h.sl hk t2 hgr,h.sw.keep hk t3 t4 hgr,h.dk.keep hk t3 t4 hgr,h.st.keep hk t5 t2 hgr,ak h.ca hk t6 hgr,ak h.sp hk t7 hgr,fun p hp=>⟨ak (h.ps p hp).1 hk t8 hgr,(h.ps p hp).2.keep hk t9 hgr⟩,h.c64⟩
end Go.Proofs.YtjkkoeijlhfneaaGreat