import Derived.Test.YtjkkoeijlhfneaaGreatJ2
import Derived.BigQuiet
import Derived.Deep.DeepCutAuto
import Derived.Deep.QuietTactic
import Derived.IntWalk
import Derived.Lib.LazyBuf
import Derived.Maps.Range
import Derived.Test.YtjkkoeijlhfneaaGreatRows
import Derived.Deep.Light
import Derived.BigRegion
import Derived.RegionTactic
import Derived.Deep.LoopGhost
import Derived.Lib.Hide
import Derived.Deep.RegionLaw
import Derived.Laws.Externs
import Derived.Laws.IdiomCopy
import Derived.Lib.AppendZerosOnto
import Derived.Lib.Overlaps
import Derived.Lib.SliceRun
set_option linter.unusedSimpArgs false
set_option linter.unusedVariables false
set_option maxHeartbeats 4000000
set_option maxRecDepth 100000
namespace Go.Proofs.YtjkkoeijlhfneaaGreat
open _root_.Go.Proofs.Tryz
open Go.RowKit Pw
variable {B B' b c cb cq g i k n off q r sz:Nat} {P:Program} {T e t ty:TypeId} {a ab aq:Option Addr} {ca cs cs':Array Value} {d:pR} {o:Oper} {v v' vb vq:Value} {vs xs:List Value} {w w' w0 w4 w5:World} {x:Operand} {ρ:Operand → Value}
def Br (p:Page):List Value:=(iB p).toList
def ES (q:Int × Page):Array Value:=#[.int .i64 q.1,.int .u8 q.2[0].toNat,.int .u8 q.2[1].toNat,.int .u8 q.2[2].toNat,.int .u8 q.2[3].toNat,.int .u8 q.2[4].toNat,.int .u8 q.2[5].toNat,.int .u8 q.2[6].toNat,.int .u8 q.2[7].toNat]
def yP (q:Int × Page):List Value:=(ES q).toList
theorem kD (p:Page):(Br p).length=8:=rfl
theorem uV (q:Int × Page):(yP q).length=9:=rfl
theorem page_info:(Tryz.prog.info? 79).map (fun i=>(i.zero,i.size,i.bytes))=some (some (.agg #[.int .u8 0,.int .u8 0,.int .u8 0,.int .u8 0,.int .u8 0,.int .u8 0,.int .u8 0,.int .u8 0]),8,8):=by kernel_rfl
theorem put_info:(Tryz.prog.info? 86).map (fun i=>(i.zero,i.size,i.bytes))=some (some (.agg #[.int .i64 0,.int .u8 0,.int .u8 0,.int .u8 0,.int .u8 0,.int .u8 0,.int .u8 0,.int .u8 0,.int .u8 0]),9,16):=by kernel_rfl
theorem Qy (l:List Page):(l.flatMap Br).length=l.length*8:=Pw.flat_len _ _ kD l
theorem SH (l:List (Int × Page)):(l.flatMap yP).length=l.length*9:=Pw.flat_len _ _ uV l
theorem OX (l:List Page):∀u∈l.flatMap Br,u.oneCell' = true:=by
 intro u hu;obtain⟨p,_,hp⟩:=jP.1 hu;simp only[Br,iB,bZ,fP,or_false] at hp;rcases hp with rfl|rfl|rfl|rfl|rfl|rfl|rfl|rfl<;>rfl
theorem Du (l:List (Int × Page)):∀u∈l.flatMap yP,u.oneCell' = true:=by
 intro u hu;obtain⟨p,_,hp⟩:=jP.1 hu;simp only[yP,ES,bZ,fP,or_false] at hp;rcases hp with rfl|rfl|rfl|rfl|rfl|rfl|rfl|rfl|rfl<;>rfl
theorem wI (l:List Page) (a:Option Addr) (c:Nat) (w:World) (hle:l.length≤c) (hnil:a=none→c=0) (hrd:dP w a (l.flatMap Br)) (hb:l.length*8≤140737488355328) :
  Calls Tryz.prog 115 #[.slice a l.length c] w fun e w' => ∃v,e = .returned v∧Own w' w.heap.size 79 8 v l.length (l.flatMap Br)∧Below w.heap.size w w':=by
 cases a with
 | none=>
  have h0:=hnil rfl;have hl:l=[]:=jM (by omega);subst hl;subst h0;have hq:=fun W=>lV (P:=Tryz.prog) W 31 _ none 0 0 0 0 underlying31;go_enter func115,ntmps115;go_wp2;go_ret;exact⟨_,rfl,by simpa using Own.nil _ _ _ _,Below.refl _ _⟩
 | some ad=>
  have hq:=fun W=>lV (P:=Tryz.prog) W 31 _ (some ad) l.length c 0 0 underlying31;go_enter func115,ntmps115
  go_wp2_with (at_builtin;go_must (refine fq rfl _ _ 31 rfl w.heap.size 79 (.agg #[.int .u8 0,.int .u8 0,.int .u8 0,.int .u8 0,.int .u8 0,.int .u8 0,.int .u8 0,.int .u8 0]) 8 8 underlying31 page_info rfl (by decide) _ 0 [] rfl ?own (some ad) l.length c (l.flatMap Br) rfl (fun h=>(by cases h)) hle (Qy l) ?rd (OX l) (by unfold maxLen;omega) (by simpa using hb) ?bb ?k))
  case own=>exact⟨rfl,.inr ⟨w.heap.size,0,0,#[],rfl,ay _,aB.new _ _ _,ay _,aV _,by simp,fun j u h=>by simp at h⟩⟩
  case rd=>exact hrd.below ((Below.refl _ _).alloc (ay _) _)
  case bb=>exact fZ _ _
  intro v w1 b d;go_wp2;go_ret;exact⟨v,rfl,by simpa using b,((Below.refl _ _).alloc (ay _) _).grown d (fZ _ _) (fun k hk=>by cases hk;exact ay _)⟩
theorem Lx (l:List (Int × Page)) (a:Option Addr) (c:Nat) (w:World) (hle:l.length≤c) (hnil:a=none→c=0) (hrd:dP w a (l.flatMap yP)) (hb:l.length*16≤140737488355328) :
  Calls Tryz.prog 116 #[.slice a l.length c] w fun e w' => ∃v,e = .returned v∧Own w' w.heap.size 86 9 v l.length (l.flatMap yP)∧Below w.heap.size w w':=by
 cases a with
 | none=>
  have h0:=hnil rfl;have hl:l=[]:=jM (by omega);subst hl;subst h0;have hq:=fun W=>lV (P:=Tryz.prog) W 32 _ none 0 0 0 0 underlying32;go_enter func116,ntmps116;go_wp2;go_ret;exact⟨_,rfl,by simpa using Own.nil _ _ _ _,Below.refl _ _⟩
 | some ad=>
  have hq:=fun W=>lV (P:=Tryz.prog) W 32 _ (some ad) l.length c 0 0 underlying32;go_enter func116,ntmps116
  go_wp2_with (at_builtin;go_must (refine fq rfl _ _ 32 rfl w.heap.size 86 (.agg #[.int .i64 0,.int .u8 0,.int .u8 0,.int .u8 0,.int .u8 0,.int .u8 0,.int .u8 0,.int .u8 0,.int .u8 0]) 9 16 underlying32 put_info rfl (by decide) _ 0 [] rfl ?own (some ad) l.length c (l.flatMap yP) rfl (fun h=>(by cases h)) hle (SH l) ?rd (Du l) (by unfold maxLen;omega) (by simpa using hb) ?bb ?k))
  case own=>exact⟨rfl,.inr ⟨w.heap.size,0,0,#[],rfl,ay _,aB.new _ _ _,ay _,aV _,by simp,fun j u h=>by simp at h⟩⟩
  case rd=>exact hrd.below ((Below.refl _ _).alloc (ay _) _)
  case bb=>exact fZ _ _
  intro v w1 b d;go_wp2;go_ret;exact⟨v,rfl,by simpa using b,((Below.refl _ _).alloc (ay _) _).grown d (fZ _ _) (fun k hk=>by cases hk;exact ay _)⟩
structure Lb (w:World) (ab:Option Addr) (cb:Nat) (aq:Option Addr) (cq:Nat) (d:pR):Prop where
 lb:d.blocks.length≤cb
 lq:d.queue.length≤cq
 mb:cb≤maxLen
 mq:cq≤maxLen
 nb:ab=none→cb=0
 nq:aq=none→cq=0
 rb:dP w ab (d.blocks.flatMap Br)
 rq:dP w aq (d.queue.flatMap yP)
theorem Lb.below (h:Lb w ab cb aq cq d) (hb:Below w.heap.size w w'):Lb w' ab cb aq cq d:=
 { h with rb:=h.rb.below hb,rq:=h.rq.below hb }
structure il (w:World) (B:Nat) (vb vq:Value) (d:pR):Prop where
 b:Own w B 79 8 vb d.blocks.length (d.blocks.flatMap Br)
 q:Own w B 86 9 vq d.queue.length (d.queue.flatMap yP)
theorem il.below (h:il w B vb vq d) (hb:Below w.heap.size w w'):il w' B vb vq d:=⟨h.b.below hb,h.q.below hb⟩
theorem il.mono (h:il w B vb vq d) (hB:B'≤B):il w B' vb vq d:=⟨h.b.mono hB,h.q.mono hB⟩
theorem il.rd (h:il w B vb vq d):∃ab cb aq cq,vb = .slice ab d.blocks.length cb∧vq = .slice aq d.queue.length cq∧Lb w ab cb aq cq d:=by
 obtain⟨ab,cb,rfl,h1,h2,h3,h4⟩:=h.b.rd;obtain⟨aq,cq,rfl,g1,g2,g3,g4⟩:=h.q.rd;exact⟨ab,cb,aq,cq,rfl,rfl,h1,g1,h2,g2,h3,g3,h4,g4⟩
theorem il.nil (w:World) (B:Nat):il w B (.slice none 0 0) (.slice none 0 0) ⟨[],[]⟩:=⟨Own.nil _ _ _ _,Own.nil _ _ _ _⟩
theorem Eg {l:List (Int × Page)} (h:dP w a (l.flatMap yP)) (k:Nat) (hk:k<l.length):∃b off,a=some ⟨b,off,none⟩∧∀j,j<9→w.cell? ⟨b,off+k*9+j,none⟩=(ES l[k])[j]?:=by
 obtain⟨b,off,ha,hc⟩:=h.elem uV (by decide) k hk;refine⟨b,off,ha,fun j hj => ?_⟩;have e:(yP l[k])[j]?=some ((yP l[k])[j]'(by rw[uV];exact hj)):=aH _;rw[hc j _ e,←e];simp[yP]
theorem UL {l:List Page} (h:dP w a (l.flatMap Br)) (k:Nat) (hk:k<l.length):∃b off,a=some ⟨b,off,none⟩∧∀j,j<8→w.cell? ⟨b,off+k*8+j,none⟩=(iB l[k])[j]?:=by
 obtain⟨b,off,ha,hc⟩:=h.elem kD (by decide) k hk;refine⟨b,off,ha,fun j hj => ?_⟩;have e:(Br l[k])[j]?=some ((Br l[k])[j]'(by rw[kD];exact hj)):=aH _;rw[hc j _ e,←e];simp[Br]
theorem rF (d:pR) (ab:Option Addr) (cb:Nat) (aq:Option Addr) (cq:Nat) (w:World) (h:Lb w ab cb aq cq d) :
  Calls Tryz.prog 93 #[.agg #[.slice ab d.blocks.length cb,.slice aq d.queue.length cq]] w fun e w'=>e = .returned (.int .i64 (aY d))∧Below w.heap.size w w':=by
 have lb:=bi h.lb h.mb;have lq:=bi h.lq h.mq;unfold maxLen at lb lq;have j:=h.rq;unfold aY;obtain⟨B,Q⟩:=d;simp only at *
 go_enter func93,ntmps93;have g:Below w.heap.size w (w.alloc (.cells #[.slice ab B.length cb,.slice aq Q.length cq] 34)):=(Below.refl _ _).alloc (ay _) _
 by_cases h4:80<B.length∨400<Q.length
 ·rw[if_pos h4];have l : (80:Int)<(B.length:Int)∨(400:Int)<(Q.length:Int):=by omega
  clear h4;rcases l with h4|h4
  all_goals
   go_wp2
   all_goals
    go_ret;exact⟨rfl,g⟩
 rw[if_neg h4];have p:¬(80:Int)<(B.length:Int):=by omega
 have n:¬(400:Int)<(Q.length:Int):=by omega
 clear h4;go_wp2
 go_loopw [18] (fun i wr => ∃k:Nat,k≤Q.length∧i = .int .i64 k∧Below w.heap.size w wr∧aB wr w.heap.size #[.slice ab B.length cb,.slice aq Q.length cq] 34∧∀i (h:i<Q.length),i<k→vR B.length Q[i]=false) (fun i _=>Q.length-(intOf i).toNat)
 case atStart=>exact⟨0,aV _,rfl,g,aB.new _ _ _,fun i _ h=>absurd h (dV _)⟩
 case round=>
  obtain⟨k,hk,rfl,a,c,hp⟩:=hrel
  by_cases hlt:k<Q.length
  ·obtain⟨b,off,rfl,hc⟩:=Eg (j.below a) k hlt;have c0:=hc 0 (by decide);have c1:=hc 1 (by decide);have c2:=hc 2 (by decide);have c3:=hc 3 (by decide);have c4:=hc 4 (by decide);have c5:=hc 5 (by decide);have c6:=hc 6 (by decide);have c7:=hc 7 (by decide);have c8:=hc 8 (by decide);simp only[ES,wV,pV,xC,iq] at c0 c1 c2 c3 c4 c5 c6 c7 c8;clear hc;have m:=fun o=>(c.alloc o).cell
   by_cases hbad:Q[k].1<0∨(B.length:Int)≤Q[k].1
   ·have f:vR B.length Q[k]=true:=by simpa[vR] using hbad
    have ha:Q.any (vR B.length)=true:=iX.2 ⟨_,dN hlt,f⟩;rcases hbad with hbad|hbad
    all_goals
     go_wp2
     all_goals
      go_ret;exact⟨by simp[ha],a.alloc a.size _⟩
   have n1:¬Q[k].1<0:=by omega
   have n2:¬(B.length:Int)≤Q[k].1:=by omega
   have f:vR B.length Q[k]=false:=by simp[vR];omega
   clear hbad;go_wp2;go_roundw
   case rel=>exact⟨k+1,by omega,by go_num,a.alloc a.size _,c.alloc _,lN hp hlt f⟩
   case measure=>simp[intOf];omega
  have ha:Q.any (vR B.length)=false:=by rw[tY];intro x hx;obtain⟨i,hi,rfl⟩:=jC.1 hx;simp[hp i hi (by omega)]
  go_wp2
  all_goals
   go_ret;exact⟨by simp[ha],a⟩
theorem wy (d:pR) (ab:Option Addr) (cb:Nat) (aq:Option Addr) (cq:Nat) (w:World) (h:Lb w ab cb aq cq d) :
  Calls Tryz.prog 62 #[.agg #[.slice ab d.blocks.length cb,.slice aq d.queue.length cq]] w fun e w'=>e = .returned (.int .i64 (aY d))∧Below w.heap.size w w':=by
 have lb:=bi h.lb h.mb;have lq:=bi h.lq h.mq;unfold maxLen at lb lq;have j:=h.rq;unfold aY;obtain⟨B,Q⟩:=d;simp only at *
 go_enter func62,ntmps62;have g:Below w.heap.size w (w.alloc (.cells #[.slice ab B.length cb,.slice aq Q.length cq] 34)):=(Below.refl _ _).alloc (ay _) _
 by_cases h4:80<B.length∨400<Q.length
 ·rw[if_pos h4];have l : (80:Int)<(B.length:Int)∨(400:Int)<(Q.length:Int):=by omega
  clear h4;rcases l with h4|h4
  all_goals
   go_wp2
   all_goals
    go_ret;exact⟨rfl,g⟩
 rw[if_neg h4];have p:¬(80:Int)<(B.length:Int):=by omega
 have n:¬(400:Int)<(Q.length:Int):=by omega
 clear h4;go_wp2
 go_loopw [18] (fun i wr => ∃k:Nat,k≤Q.length∧i = .int .i64 k∧Below w.heap.size w wr∧aB wr w.heap.size #[.slice ab B.length cb,.slice aq Q.length cq] 34∧∀i (h:i<Q.length),i<k→vR B.length Q[i]=false) (fun i _=>Q.length-(intOf i).toNat)
 case atStart=>exact⟨0,aV _,rfl,g,aB.new _ _ _,fun i _ h=>absurd h (dV _)⟩
 case round=>
  obtain⟨k,hk,rfl,a,c,hp⟩:=hrel
  by_cases hlt:k<Q.length
  ·obtain⟨b,off,rfl,hc⟩:=Eg (j.below a) k hlt;have c0:=hc 0 (by decide);have c1:=hc 1 (by decide);have c2:=hc 2 (by decide);have c3:=hc 3 (by decide);have c4:=hc 4 (by decide);have c5:=hc 5 (by decide);have c6:=hc 6 (by decide);have c7:=hc 7 (by decide);have c8:=hc 8 (by decide);simp only[ES,wV,pV,xC,iq] at c0 c1 c2 c3 c4 c5 c6 c7 c8;clear hc;have m:=fun o=>(c.alloc o).cell
   by_cases hbad:Q[k].1<0∨(B.length:Int)≤Q[k].1
   ·have f:vR B.length Q[k]=true:=by simpa[vR] using hbad
    have ha:Q.any (vR B.length)=true:=iX.2 ⟨_,dN hlt,f⟩;rcases hbad with hbad|hbad
    all_goals
     go_wp2
     all_goals
      go_ret;exact⟨by simp[ha],a.alloc a.size _⟩
   have n1:¬Q[k].1<0:=by omega
   have n2:¬(B.length:Int)≤Q[k].1:=by omega
   have f:vR B.length Q[k]=false:=by simp[vR];omega
   clear hbad;go_wp2;go_roundw
   case rel=>exact⟨k+1,by omega,by go_num,a.alloc a.size _,c.alloc _,lN hp hlt f⟩
   case measure=>simp[intOf];omega
  have ha:Q.any (vR B.length)=false:=by rw[tY];intro x hx;obtain⟨i,hi,rfl⟩:=jC.1 hx;simp[hp i hi (by omega)]
  go_wp2
  all_goals
   go_ret;exact⟨by simp[ha],a⟩
theorem il.keep (h:il w B vb vq d) (hk:aB w g cs T) (h1:T≠79) (h2:T≠86) (hgr:w.grownBy w' (some g)):il w' B vb vq d:=
 ⟨ak h.b hk h1 hgr,ak h.q hk h2 hgr⟩
def xW (B:Nat) (d:pR):mg:=⟨fun v w => ∃vb vq,v = .agg #[vb,vq]∧il w B vb vq d,fun _ _ _ hb ⟨vb,vq,h1,h2⟩=>⟨vb,vq,h1,h2.below hb⟩⟩
theorem psize:(Tryz.prog.info? 79).map (·.size)=some 8:=by kernel_rfl
theorem zz_fit:(#[.int .u8 0,.int .u8 0,.int .u8 0,.int .u8 0,.int .u8 0,.int .u8 0,.int .u8 0,.int .u8 0]:Array Value).size=(#[.int .u8 0,.int .u8 0,.int .u8 0,.int .u8 0,.int .u8 0,.int .u8 0,.int .u8 0,.int .u8 0]:Array Value).size:=rfl
theorem zz_one:(#[.int .u8 0,.int .u8 0,.int .u8 0,.int .u8 0,.int .u8 0,.int .u8 0,.int .u8 0,.int .u8 0]:Array Value).all (·.oneCell')=true:=by simp[Value.oneCell']
theorem zz_info:(Tryz.prog.info? 79).map (·.size)=some (#[.int .u8 0,.int .u8 0,.int .u8 0,.int .u8 0,.int .u8 0,.int .u8 0,.int .u8 0,.int .u8 0]:Array Value).size:=psize
theorem Vr (p:Page):(iB p).size=(#[.int .u8 0,.int .u8 0,.int .u8 0,.int .u8 0,.int .u8 0,.int .u8 0,.int .u8 0,.int .u8 0]:Array Value).size:=rfl
theorem UK (p q:Page):(iB p).size=(iB q).size:=rfl
theorem zn (p:Page):(Tryz.prog.info? 79).map (·.size)=some (iB p).size:=psize
theorem disk_size:(Tryz.prog.info? 34).map (·.size)=some 2:=by kernel_rfl
theorem Ez (d:pR) (ab:Option Addr) (cb:Nat) (aq:Option Addr) (cq:Nat) (w:World) (h:Lb w ab cb aq cq d) (h80:d.blocks.length*8≤140737488355328) (h400:d.queue.length*16≤140737488355328) :
  Calls Tryz.prog 75 #[.agg #[.slice ab d.blocks.length cb,.slice aq d.queue.length cq]] w fun e w' => ∃vb vq,e = .returned (.agg #[vb,vq])∧il w' w.heap.size vb vq d∧Below w.heap.size w w':=by
 go_enter func75,ntmps75;go_upto_region 1 with (fail);have a:Below w.heap.size w ((w.alloc (.cells #[.slice ab d.blocks.length cb,.slice aq d.queue.length cq] 34)).alloc (.cells #[.slice none 0 0,.slice none 0 0] 34)):=((Below.refl _ _).alloc (ay _) _).alloc (fZ _ _) _;have j:aB ((w.alloc (.cells #[.slice ab d.blocks.length cb,.slice aq d.queue.length cq] 34)).alloc (.cells #[.slice none 0 0,.slice none 0 0] 34)) w.heap.size #[.slice ab d.blocks.length cb,.slice aq d.queue.length cq] 34:=(aB.new _ _ _).alloc _;have i:aB ((w.alloc (.cells #[.slice ab d.blocks.length cb,.slice aq d.queue.length cq] 34)).alloc (.cells #[.slice none 0 0,.slice none 0 0] 34)) (w.heap.size+1) #[.slice none 0 0,.slice none 0 0] 34:=by simpa using aB.new (w.alloc (.cells #[.slice ab d.blocks.length cb,.slice aq d.queue.length cq] 34)) _ _
 have h0:=h.below a;refine aM 7 [_,_,.r 2 ((ou w.heap.size 79 8 d.blocks.length (d.blocks.flatMap Br))),_,_,.r 5 ((ou w.heap.size 86 9 d.queue.length (d.queue.flatMap yP))),.r 6 ((xW w.heap.size d))] (Gf w.heap.size 0 rfl rfl (Gl j (V:=.slice ab d.blocks.length cb) (by simp[underlying31]) rfl rfl rfl rfl (ag ?_ (Gf w.heap.size 1 rfl rfl (Gl j (V:=.slice aq d.queue.length cq) (by simp[underlying32]) rfl rfl rfl rfl (ag ?_ (ag ?_ (aC)))))))) (fun _=>rfl) rfl ?_
 ·intro ρ y W hw hn hb hd;have E4:=hw 4 1 rfl;have h1:y 1=_:=hd 1 rfl;have EF:∀f,ρ (.func f) = .func (.func f) #[] #[]:=fun f=>hn (.func f) trivial;refine aR _ _ (ah rfl) (aU rfl (EF _) func115 (by kernel_rfl) (by kernel_rfl) (by simp only[bV,bP,bT,E4,h1,EF];rfl)) ?_;refine (wI d.blocks ab cb W h0.lb h0.nb (h0.below hb).rb h80).mono ?_;rintro e w1 ⟨v,rfl,ho,m⟩;exact⟨v,rfl,m,ho.mono (bi a.size hb.size)⟩
 ·intro ρ y W hw hn hb hd;have E7:=hw 7 4 rfl;have h4:y 4=_:=hd 4 rfl;have EF:∀f,ρ (.func f) = .func (.func f) #[] #[]:=fun f=>hn (.func f) trivial;refine aR _ _ (ah rfl) (aU rfl (EF _) func116 (by kernel_rfl) (by kernel_rfl) (by simp only[bV,bP,bT,E7,h4,EF];rfl)) ?_;refine (Lx d.queue aq cq W h0.lq h0.nq (h0.below hb).rq h400).mono ?_;rintro e w1 ⟨v,rfl,ho,m⟩;exact⟨v,rfl,m,ho.mono (bi a.size hb.size)⟩
 ·intro ρ y W hw hn hb hd;have E5:=hw 5 2 rfl;have h2:=hd 2 rfl;have E8:=hw 8 5 rfl;have h5:=hd 5 rfl;obtain⟨x2,c2,e2,_⟩:=Own.rd h2;obtain⟨x5,c5,e5,_⟩:=Own.rd h5;refine aj (.agg #[y 2,y 5]) (ah rfl) (by simp[execOp,go_sem,E5,E8,e2,e5]) ?_;exact⟨_,_,rfl,h2,h5⟩
 intro y WA g b;have q:((ou w.heap.size 79 8 d.blocks.length (d.blocks.flatMap Br))).r (y 2) WA:=b 2 (by decide);have p:((ou w.heap.size 86 9 d.queue.length (d.queue.flatMap yP))).r (y 5) WA:=b 5 (by decide);have o:((xW w.heap.size d)).r (y 6) WA:=b 6 (by decide);clear b;obtain⟨vb,vq,e6,ho⟩:=o;rw[e6];clear q p e6;have c:=ae a g;obtain⟨xb,cb',xq,cq',rfl,rfl,_⟩:=ho.rd;refine az rfl _ (.tmp 2) (.tmp 9) rfl (w.heap.size+1) _ rfl rfl _ _ (i.ext g) rfl disk_size (by simp[Value.oneCell']) ?_;intro w2 hq n;have l:Below w.heap.size w w2:=c.grown n c.size (fun k hk=>by cases hk;omega);have hc:=hq.cell;go_wp2;simp[bodyPost,results,go_sem,results75,hc];exact⟨_,_,⟨rfl,rfl⟩,ho.keep (i.ext g) (by decide) (by decide) n,l⟩
theorem qQ (a b c d:Value):(#[a,b]:Array Value).size=(#[c,d]:Array Value).size:=rfl
theorem oO (a b:Value):(Tryz.prog.info? 34).map (·.size)=some (#[a,b]:Array Value).size:=disk_size
theorem Dp (d:pR) (k:Int) (p:Page) (ab:Option Addr) (cb:Nat) (aq:Option Addr) (cq:Nat) (w:World) (h:Lb w ab cb aq cq d) :
  Calls Tryz.prog 92 #[.agg #[.slice ab d.blocks.length cb,.slice aq d.queue.length cq],.int .i64 k,.agg (iB p)] w fun e w' => ∃vb vq,e = .returned (.tuple #[.agg #[vb,vq],.int .i64 (aL d k)])∧il w' w.heap.size vb vq (dC d k p)∧Below w.heap.size w w':=by
 go_enter func92,ntmps92
 go_wp2_with fail
 refine LD (fun W=>Calls _ _ _ W _) fun W0 hT hy hJ hs h7 => ?_;refine (rF d ab cb aq cq _ (h.below hT)).mono ?_;rintro e w1 ⟨rfl,hC⟩;have f:=ae hT hC;have hx:=hy.ext hC;have hI:=hJ.ext hC;have m:=hs.ext hC;have h1:=h.below f;clear hy hJ hs hC hT h h7;have kb:=hx.cell
 by_cases hw:aY d=0
 ·rw[hw];obtain⟨l80,l400⟩:=xL hw
  by_cases hk:k<0∨(d.blocks.length:Int)≤k
  ·have q1:aL d k=3:=by unfold aL;rw[if_neg (by omega),if_pos hk]
   have q2:dC d k p=⟨[],[]⟩:=by unfold dC;rw[if_neg (by omega)]
   rcases hk with hk|hk
   all_goals
    go_wp2_with (refine az rfl _ (.tmp 6) (.tmp 26) rfl (w.heap.size+2) #[.slice none 0 0,.slice none 0 0] rfl rfl _ _ m rfl disk_size (kN _ _ _ _ _ _) ?_)
    all_goals
     intro w2 hN l;have z:=f.grown l f.size (fun k hk=>by cases hk;omega);have hh:=hN.cell;go_wp2;simp[bodyPost,results,go_sem,results92,hh,q1];exact⟨_,_,⟨rfl,rfl⟩,by rw[q2];exact il.nil _ _,z⟩
  obtain⟨k,rfl⟩:=fE (show 0≤k by omega);have kk:k<d.blocks.length:=by omega
  have k1:¬(d.blocks.length:Int)≤(k:Int):=by omega
  have q1:aL d k=0:=by unfold aL;rw[if_neg (by omega),if_neg hk]
  have q2:dC d k p=iC d (k,p):=by unfold dC;rw[if_pos q1]
  have Q2:=Lib.hid q2;clear hk q2
  go_wp2_with fail
  refine (Ez d ab cb aq cq _ h1 (by omega) (by omega)).mono ?_;rintro e w2 ⟨vb,vq,rfl,ho,hB⟩;have z:=ae f hB;have hH:=hI.ext hB;have hr:=m.ext hB;have kg:w.heap.size+3≤w1.heap.size:=by have:=m.lt;omega
  have hY:w.heap.size+3≤w2.heap.size:=bi (show w.heap.size+3≤w1.heap.size by have:=m.lt;omega) hB.size;clear hx hI m hB h1 kb;obtain⟨xb,cb',xq,cq',rfl,rfl,hE⟩:=ho.rd;have kj:=hE.lq;go_upto_region 7 with (fail);refine gB (fun W=>Code.wp _ _ _ _ W) fun w3 hA r h6 => ?_;have hg:=ho.below hA;have i:=ae z hA;have hj:=hH.ext hA;have hb:=hr.ext hA;have kf:w.heap.size+3≤w2.heap.size:=hY;clear ho hE hH hr hA;have ke:w2.heap.size<w3.heap.size:=by omega
  clear h6;have ha:=r.cell
  by_cases h4:d.queue.length=400
  ·have Q3:=Lib.hid (Pf d ((k:Int),p) h4);have kc : ((d.queue.length:Int)==400)=true:=by rw[h4];rfl
   have hO:0<d.queue.length:=by omega
   obtain⟨hK,hV⟩:=xD hw 0 hO;generalize hq0:d.queue[0]=q0 at *
   obtain⟨i0,hX⟩:=fE hK;have hW : i0<d.blocks.length:=by omega
   obtain⟨gq,offq,capq,curq,h3,kn,h8,kl,x,hL⟩:=hg.q.put uV (by decide) 0 hO;obtain⟨gb,offb,capb,curb,h5,ko,ht,km,ka,hn⟩:=hg.b.put kD (by decide) i0 hW;cases h3;cases h5;rw[hq0] at x;have c0:=x 0 _ rfl;have c1:=x 1 _ rfl;have c2:=x 2 _ rfl;have c3:=x 3 _ rfl;have c4:=x 4 _ rfl;have c5:=x 5 _ rfl;have c6:=x 6 _ rfl;have c7:=x 7 _ rfl;have c8:=x 8 _ rfl;simp only[xM,iq,hX] at c0 c1 c2 c3 c4 c5 c6 c7 c8;have n1:(0:Int)<(d.queue.length:Int):=by omega
   have n2:(i0:Int)<(d.blocks.length:Int):=by omega
   have h9:=fun o=>(r.alloc o).cell;clear x ka hL hK hV
   go_wp2_with (refine gP rfl _ (.tmp 43) (.tmp 42) rfl gb (offb+i0*8) (iB q0.2) rfl rfl curb 79 (ht.alloc _) (by rw[Eo];omega) (zn _) (jy _) ?_)
   intro w5 hm a;have h2:=hn w5 q0.2 hm;have hZ:=ak (hg.q.alloc _) (ht.alloc _) (by decide) a;have n:=bq (r.alloc _) (ht.alloc _) (by decide) a;have hq:=bq (hb.alloc _) (ht.alloc _) (by decide) a;have hG:=(hj.alloc _).grown a (by intro he;cases he;omega);have hf:Below w.heap.size w w5:=(i.alloc i.size _).grown a (cZ i.size _) (fun k hk=>by cases hk;omega);clear hm a hn ht h9 r hb hj hg c0 c1 c2 c3 c4 c5 c6 c7 c8 i ha h8;have ha:=n.cell;have hv:=n.free;have kh:¬cq' = 1:=by omega
   go_upto_region 11 with (fail);have hl:(d.queue.drop 1).length=399:=by simp;omega
   have hD:=(hZ.drop uV 1 hO).mono f.size;rw[hl,zN] at hD;have hU:=vE hD n (by decide) 1 (.slice (some ⟨gq,offq+9,none⟩) 399 (cq' - 1));have h0:=vE (h2.mono f.size) n (by decide) 1 (.slice (some ⟨gq,offq+9,none⟩) 399 (cq' - 1));have hc:=n.setCell 1 (.slice (some ⟨gq,offq+9,none⟩) 399 (cq' - 1));have hp:=hq.setCell_other ⟨w2.heap.size,1,none⟩ (.slice (some ⟨gq,offq+9,none⟩) 399 (cq' - 1)) (by simp;omega);have hF:=hG.setCell_other ⟨w2.heap.size,1,none⟩ (.slice (some ⟨gq,offq+9,none⟩) 399 (cq' - 1)) (by simp;omega);have hd:Below w.heap.size w (w5.setCell ⟨w2.heap.size,1,none⟩ (.slice (some ⟨gq,offq+9,none⟩) 399 (cq' - 1))):=hf.setCell (by simp;omega) _;have kd:w2.heap.size<(w5.setCell ⟨w2.heap.size,1,none⟩ (.slice (some ⟨gq,offq+9,none⟩) 399 (cq' - 1))).heap.size:=hc.lt;clear hZ hD h2 n hq hG hf hv ha;generalize w5.setCell ⟨w2.heap.size,1,none⟩ (.slice (some ⟨gq,offq+9,none⟩) 399 (cq' - 1))=w6 at *
   have ha:=hc.cell;have hQ:=hF.cell;obtain⟨e0,e1,e2,e3,e4,e5,e6,e7⟩:=Jg p;have hP : #[Value.int .u8 p[0].toNat,Value.int .u8 p[1].toNat,Value.int .u8 p[2].toNat,Value.int .u8 p[3].toNat,Value.int .u8 p[4].toNat,Value.int .u8 p[5].toNat,Value.int .u8 p[6].toNat,Value.int .u8 p[7].toNat]=iB p:=rfl;clear hP
   go_wp2_with (at_builtin;(refine fq rfl _ _ 32 rfl w.heap.size 86 _ 9 16 underlying32 put_info rfl (by decide) _ 399 ((d.queue.drop 1).flatMap yP) rfl ?own (some ⟨w6.heap.size,0,none⟩) 1 1 (yP ((k:Int),p)) rfl (fun h=>(by cases h)) (ay _) rfl ?rd (fun u hu=>Du [((k:Int),p)] u (by simpa using hu)) (by unfold maxLen;omega) (by omega) ?bb ?app))
   case own=>exact hU.alloc _
   case rd=>exact dP.new _ (ES ((k:Int),p)) _
   case bb=>exact cZ hd.size _
   intro v w4 t l;have s:=hU.alloc (.cells #[.int .i64 k,.int .u8 p[0].toNat,.int .u8 p[1].toNat,.int .u8 p[2].toNat,.int .u8 p[3].toNat,.int .u8 p[4].toNat,.int .u8 p[5].toNat,.int .u8 p[6].toNat,.int .u8 p[7].toNat] 86);have hz:=zg (h0.alloc _) s (by decide) l;have c:=kv (hc.alloc _) s (by decide) l;have j:=kv (hp.alloc _) s (by decide) l;have y:Below w.heap.size w w4:=(hd.alloc hd.size _).grown l (cZ hd.size _) s.ge;obtain⟨x4,c4,rfl,_⟩:=t.rd;clear e0 e1 e2 e3 e4 e5 e6 e7 hQ l s h0 hU hc hp hF ha;have ha:=c.cell;have hv:=c.free
   go_wp2_with (refine az rfl _ (.tmp 6) (.tmp 56) rfl (w.heap.size+2) #[.slice (some ⟨gb,offb,none⟩) d.blocks.length cb',.slice x4 (399+1) c4] rfl rfl _ _ (j.setCell_other _ _ (by simp;omega)) (qQ _ _ _ _) (oO _ _) (kN _ _ _ _ _ _) ?_)
   intro w7 hM a;have g:=j.setCell_other ⟨w2.heap.size,1,none⟩ (.slice x4 (399+1) c4) (by simp;omega);have hS:=ak (vE hz c (by decide) 1 (.slice x4 (399+1) c4)) g (by decide) a;have hm:=ak (vE t c (by decide) 1 (.slice x4 (399+1) c4)) g (by decide) a;have hi:Below w.heap.size w (w4.setCell ⟨w2.heap.size,1,none⟩ (.slice x4 (399+1) c4)):=y.setCell (by simp;omega) _;have hR:Below w.heap.size w w7:=hi.grown a hi.size (fun k hk=>by cases hk;omega);have hh:=hM.cell;clear hz t c j g a y hi ha hv;go_wp2;simp[bodyPost,results,go_sem,results92,hh,q1];refine⟨_,_,⟨rfl,rfl⟩,?_,hR⟩;rw[Q2.out,Q3.out];rw[hX,bR];have e9:(d.queue.drop 1++[((k:Int),p)]).length=399+1:=by simp;omega
   exact⟨by rw[bH];exact hS,by rw[e9,eY];simpa using hm⟩
  have Q3:=Lib.hid (OD d ((k:Int),p) h4);have kc : ((d.queue.length:Int)==400)=false:=by simp;omega
  have hQ:=hj.cell;obtain⟨e0,e1,e2,e3,e4,e5,e6,e7⟩:=Jg p;have hP : #[Value.int .u8 p[0].toNat,Value.int .u8 p[1].toNat,Value.int .u8 p[2].toNat,Value.int .u8 p[3].toNat,Value.int .u8 p[4].toNat,Value.int .u8 p[5].toNat,Value.int .u8 p[6].toNat,Value.int .u8 p[7].toNat]=iB p:=rfl;clear hP
  go_wp2_with (at_builtin;(refine fq rfl _ _ 32 rfl w.heap.size 86 _ 9 16 underlying32 put_info rfl (by decide) _ d.queue.length (d.queue.flatMap yP) rfl ?own2 (some ⟨w3.heap.size,0,none⟩) 1 1 (yP ((k:Int),p)) rfl (fun h=>(by cases h)) (ay _) rfl ?rd2 (fun u hu=>Du [((k:Int),p)] u (by simpa using hu)) (by unfold maxLen;omega) (by omega) ?bb2 ?app2))
  case own2=>exact (hg.q.mono f.size).alloc _
  case rd2=>exact dP.new _ (ES ((k:Int),p)) _
  case bb2=>exact cZ i.size _
  intro v w4 t l;have s:=(hg.q.mono f.size).alloc (.cells #[.int .i64 k,.int .u8 p[0].toNat,.int .u8 p[1].toNat,.int .u8 p[2].toNat,.int .u8 p[3].toNat,.int .u8 p[4].toNat,.int .u8 p[5].toNat,.int .u8 p[6].toNat,.int .u8 p[7].toNat] 86);have hz:=zg ((hg.b.mono f.size).alloc _) s (by decide) l;have c:=kv (r.alloc _) s (by decide) l;have j:=kv (hb.alloc _) s (by decide) l;have y:Below w.heap.size w w4:=(i.alloc i.size _).grown l (cZ i.size _) s.ge;obtain⟨x4,c4,rfl,_⟩:=t.rd;clear e0 e1 e2 e3 e4 e5 e6 e7 hQ l s hg r hb hj ha;have ha:=c.cell;have hv:=c.free
  go_wp2_with (refine az rfl _ (.tmp 6) (.tmp 56) rfl (w.heap.size+2) #[.slice xb d.blocks.length cb',.slice x4 (d.queue.length+1) c4] rfl rfl _ _ (j.setCell_other _ _ (by simp;omega)) (qQ _ _ _ _) (oO _ _) (kN _ _ _ _ _ _) ?_)
  intro w5 hM a;have g:=j.setCell_other ⟨w2.heap.size,1,none⟩ (.slice x4 (d.queue.length+1) c4) (by simp;omega);have hS:=ak (vE hz c (by decide) 1 (.slice x4 (d.queue.length+1) c4)) g (by decide) a;have hm:=ak (vE t c (by decide) 1 (.slice x4 (d.queue.length+1) c4)) g (by decide) a;have hi:Below w.heap.size w (w4.setCell ⟨w2.heap.size,1,none⟩ (.slice x4 (d.queue.length+1) c4)):=y.setCell (by simp;omega) _;have hf:Below w.heap.size w w5:=hi.grown a hi.size (fun k hk=>by cases hk;omega);have hh:=hM.cell;clear hz t c j g a y hi ha hv;go_wp2;simp[bodyPost,results,go_sem,results92,hh,q1];refine⟨_,_,⟨rfl,rfl⟩,?_,hf⟩;rw[Q2.out,Q3.out];exact⟨hS,by simpa[eY] using hm⟩
 have q1:aL d k=aY d:=by unfold aL;rw[if_pos hw]
 have q2:dC d k p=⟨[],[]⟩:=by unfold dC;rw[if_neg (by omega)]
 have ki : (aY d != 0)=true:=by simpa using hw
 go_wp2_with (refine az rfl _ (.tmp 6) (.tmp 15) rfl (w.heap.size+2) #[.slice none 0 0,.slice none 0 0] rfl rfl _ _ m rfl disk_size (kN _ _ _ _ _ _) ?_)
 intro w2 hN l;have z:=f.grown l f.size (fun k hk=>by cases hk;omega);have hh:=hN.cell;go_wp2;simp[bodyPost,results,go_sem,results92,hh,q1];exact⟨_,_,⟨rfl,rfl⟩,by rw[q2];exact il.nil _ _,z⟩
theorem Lm (i:Int) (w:World):Calls Tryz.prog 95 #[.int .i64 i] w fun e w'=>e = .returned (.bool true)∧w' = w:=by
 go_enter func95,ntmps95;go_wp2;go_ret;exact⟨rfl,rfl⟩
theorem LP (i:Nat) (bits:Int) (b:Nat) (hi:i≤400) (w:World) (hb:aB w b #[.int .i64 bits] 3):Calls Tryz.prog 100 #[.int .i64 i,.pointer (some ⟨b,0,none⟩)] w fun e w'=>e = .returned (.bool (ko bits i))∧w' = w:=by
 have hc:=hb.cell;go_enter func100,ntmps100;go_wp2;go_ret;exact⟨rfl,rfl⟩
theorem Ki (n:Int) (w:World) :
  Calls Tryz.prog 98 #[.int .i64 n] w fun e w' => ∃vb vq,e = .returned (.tuple #[.agg #[vb,vq],.int .i64 (NK n)])∧il w' w.heap.size vb vq (oI n)∧Below w.heap.size w w':=by
 have d:=aB.new w #[.slice none 0 0,.slice none 0 0] 34;have b:Below w.heap.size w (w.alloc (.cells #[.slice none 0 0,.slice none 0 0] 34)):=(Below.refl _ _).alloc (ay _) _;unfold oI NK
 by_cases h:0≤n∧n≤80
 ·obtain⟨m,rfl⟩:=fE h.1;have h1:(m:Int)≤80:=h.2;rw[if_pos h,if_pos h];go_enter func98,ntmps98
  go_wp2_with (refine uy _ rfl (.tmp 11) (.tmp 11) 31 rfl Br 79 _ 8 8 zPg kD (by decide) underlying31 page_info rfl .i64 .i64 m m m rfl rfl rfl rfl (by omega) (by unfold maxLen;omega) ?_)
  intro w2 ho f;have c:=d.grown f (by intro he;cases he);have a:=b.grown f b.size (fun k hk=>by cases hk)
  go_wp2_with (refine az rfl _ (.tmp 2) (.tmp 13) rfl w.heap.size #[.slice (some ⟨w.heap.size+1,0,none⟩) m m,.slice none 0 0] rfl rfl _ _ c (qQ _ _ _ _) (oO _ _) (kN _ _ _ _ _ _) ?_)
  intro w3 l g;have p:=ak ho c (by decide) g;have j:=a.grown g a.size (fun k hk=>by cases hk;exact ay _);have i:=l.cell;go_wp2;simp[bodyPost,results,go_sem,results98,i];exact⟨_,_,⟨rfl,rfl⟩,⟨by simpa using p.mono (xA _),Own.nil _ _ _ _⟩,j⟩
 rw[if_neg h,if_neg h];have h' : n<0∨80<n:=by omega
 clear h;rcases h' with h|h
 all_goals
  go_enter func98,ntmps98
  go_wp2_with (refine az rfl _ (.tmp 2) (.tmp 10) rfl w.heap.size #[.slice none 0 0,.slice none 0 0] rfl rfl _ _ d rfl disk_size (kN _ _ _ _ _ _) ?_)
  all_goals
   intro w2 o f;have a:=b.grown f b.size (fun k hk=>by cases hk;exact ay _);have i:=o.cell;go_wp2;simp[bodyPost,results,go_sem,results98,i];exact⟨_,_,⟨rfl,rfl⟩,il.nil _ _,a⟩
theorem Tc (d:pR) (ab:Option Addr) (cb:Nat) (aq:Option Addr) (cq:Nat) (bd:Nat) (w:World) (hd:aB w bd #[.slice ab d.blocks.length cb,.slice aq d.queue.length cq] 34) (h:Lb w ab cb aq cq d) (hw:aY d=0) :
  Calls Tryz.prog 94 #[.pointer (some ⟨bd,0,none⟩),.func (.func 95) #[] #[]] w fun e w' => ∃vb vq,e = .returned (.agg #[vb,vq])∧il w' w.heap.size vb vq ⟨iF (fun _=>true) d.blocks d.queue d.queue.length,[]⟩∧Below w.heap.size w w':=by
 obtain⟨l80,l400⟩:=xL hw;have hx:=xD hw;go_enter func94,ntmps94;have hM:=fun o=>(hd.alloc o).cell
 go_wp2_with fail
 clear hM;refine gB (fun W=>Calls _ _ _ W _) fun W0 hh s hI => ?_;refine (wI d.blocks ab cb W0 h.lb h.nb (h.below hh).rb (by omega)).mono ?_;rintro e w1 ⟨v,rfl,ho,hi⟩;have hb:=ae hh hi;have m:=s.ext hi;have hD:=(hd.ext hh).ext hi;have h1:=h.below hb;have hv:=ho.mono hh.size;obtain⟨xb,cb',rfl,hS,_⟩:=ho.rd;clear s hi ho;go_upto_region 2 with (fail);refine gB (fun W=>Code.wp _ _ _ _ W) fun w2 hg t hH => ?_;have ha:=ae hb hg;have r:=m.ext hg;have hr:=hD.ext hg;have h2:=h1.below hg;have hu:=hv.below hg;have hR:w.heap.size<w1.heap.size:=m.lt;clear m hD h1 hv hH hI hh;have hO:=hr.cell;go_wp2;clear hO
 go_loopw [19] (fun i wr => ∃k:Nat,k≤d.queue.length∧i = .int .i64 k∧Below w.heap.size w wr∧aB wr bd #[.slice ab d.blocks.length cb,.slice aq d.queue.length cq] 34∧aB wr w1.heap.size #[.slice xb d.blocks.length cb',.slice none 0 0] 34∧aB wr w.heap.size #[.slice none 0 0,.slice none 0 0] 34∧Own wr w.heap.size 79 8 (.slice xb d.blocks.length cb') d.blocks.length ((iF (fun _=>true) d.blocks d.queue k).flatMap Br) ) (fun i _=>d.queue.length-(intOf i).toNat)
 case atStart=>exact⟨0,aV _,rfl,ha,hr,t,r,hu ⟩
 case round=>
  obtain⟨k,hk,rfl,j,hC,n,c,hn ⟩:=hrel;clear hr t r hu ha h2
  by_cases hlt:k<d.queue.length
  ·obtain⟨b,off,rfl,hc⟩:=Eg (h.rq.below j) k hlt;have c0:=hc 0 (by decide);have c1:=hc 1 (by decide);have c2:=hc 2 (by decide);have c3:=hc 3 (by decide);have c4:=hc 4 (by decide);have c5:=hc 5 (by decide);have c6:=hc 6 (by decide);have c7:=hc 7 (by decide);have c8:=hc 8 (by decide);simp only[ES,wV,pV,xC,iq] at c0 c1 c2 c3 c4 c5 c6 c7 c8;obtain⟨i1,i2⟩:=hx k hlt;clear hc hx
   go_wp2_with fail
   refine gB (fun W=>Calls _ _ _ W _) fun w3 hf z hG => ?_;have a:=ae j hf;have hq:=hC.ext hf;have g:=n.ext hf;have l:=c.ext hf;have u:=hn.below hf;clear hC n c hn hG c0 c1 c2 c3 c4 c5 c6 c7 c8 j;refine (Lm _ _).mono ?_;rintro e w4 ⟨rfl,rfl⟩
   by_cases hB:(fun _=>true) k=true
   ·obtain⟨i0,hz⟩:=fE i1;have hy : i0<d.blocks.length:=by omega
    have n2:(i0:Int)<(d.blocks.length:Int):=by omega
    obtain⟨gb,offb,capb,curb,hF,hP,y,hT,q⟩:=mF kD (by decide) (jk (fun _=>true) d.blocks d.queue k) u i0 hy;cases hF;have x:=xS (f:=(fun _=>true)) (B:=d.blocks) hlt hB;rw[hz,bR] at x;have hp:=Lib.hid x;clear x;rw[hz] at z;have hN:=z.cell;have hE:=g.cell;clear i1 i2
    go_wp2_with (refine gP rfl _ (.tmp 33) (.tmp 32) rfl gb (offb+i0*8) (iB d.queue[k].2) rfl rfl curb 79 y (by rw[Eo];omega) (zn _) (jy _) ?_)
    intro w5 ht p;have hQ:=q w5 d.queue[k].2 ht;have hK:=bq hq y (by decide) p;have hm:=bq g y (by decide) p;have hl:=bq l y (by decide) p;have hs:Below w.heap.size w w5:=a.grown p a.size (fun k hk=>by cases hk;exact hP);clear hN hE ht q y hq g l u a;go_wp2;go_roundw
    case rel=>exact⟨k+1,by omega,by go_num,hs,hK,hm,hl,by rw[hp.out];exact hQ ⟩
    case measure=>simp[intOf];omega
   have hA : (fun _=>true) k=false:=zP.2 hB;have hp:=Lib.hid (Az (f:=(fun _=>true)) (B:=d.blocks) hlt hA);go_wp2;go_roundw
   case rel=>exact⟨k+1,by omega,by go_num,a,hq,g,l,by rw[hp.out];exact u ⟩
   case measure=>simp[intOf];omega
  obtain rfl:k=d.queue.length:=by omega
  have hE:=n.cell
  go_wp2_with (refine az rfl _ (.tmp 4) (.tmp 35) rfl w.heap.size #[.slice xb d.blocks.length cb',.slice none 0 0] rfl rfl _ _ c (qQ _ _ _ _) (oO _ _) (kN _ _ _ _ _ _) ?_)
  intro w3 hJ hj;have u:=ak hn c (by decide) hj;have a:Below w.heap.size w w3:=j.grown hj j.size (fun k hk=>by cases hk;exact ay _);have hL:=hJ.cell;go_wp2;simp[bodyPost,results,go_sem,results94,hL];exact⟨_,_,⟨rfl,rfl⟩,⟨by rw[jk];exact u,Own.nil _ _ _ _⟩,a⟩
theorem QC (d:pR) (ab:Option Addr) (cb:Nat) (aq:Option Addr) (cq:Nat) (bd:Nat) (w:World) (hd:aB w bd #[.slice ab d.blocks.length cb,.slice aq d.queue.length cq] 34) (h:Lb w ab cb aq cq d) (hw:aY d=0) (bits:Int) (bb:Nat) (hbb:aB w bb #[.int .i64 bits] 3) :
  Calls Tryz.prog 94 #[.pointer (some ⟨bd,0,none⟩),.func (.func 100) #[] #[.pointer (some ⟨bb,0,none⟩)]] w fun e w' => ∃vb vq,e = .returned (.agg #[vb,vq])∧il w' w.heap.size vb vq ⟨iF (ko bits) d.blocks d.queue d.queue.length,[]⟩∧Below w.heap.size w w':=by
 obtain⟨l80,l400⟩:=xL hw;have hy:=xD hw;go_enter func94,ntmps94;have hP:=fun o=>(hd.alloc o).cell
 go_wp2_with fail
 clear hP;refine gB (fun W=>Calls _ _ _ W _) fun W0 hi x hL => ?_;refine (wI d.blocks ab cb W0 h.lb h.nb (h.below hi).rb (by omega)).mono ?_;rintro e w1 ⟨v,rfl,ho,hj⟩;have hg:=ae hi hj;have n:=x.ext hj;have hE:=(hd.ext hi).ext hj;have h1:=h.below hg;have hx:=ho.mono hi.size;obtain⟨xb,cb',rfl,hW,_⟩:=ho.rd;clear x hj ho;go_upto_region 2 with (fail);refine gB (fun W=>Code.wp _ _ _ _ W) fun w2 hh y hK => ?_;have q:=ae hg hh;have u:=n.ext hh;have hs:=hE.ext hh;have h2:=h1.below hh;have hv:=hx.below hh;have hV:w.heap.size<w1.heap.size:=n.lt;have hH:=hbb.below q hbb.lt;clear n hE h1 hx hK hL hi;have hR:=hs.cell;go_wp2;clear hR
 go_loopw [19] (fun i wr => ∃k:Nat,k≤d.queue.length∧i = .int .i64 k∧Below w.heap.size w wr∧aB wr bd #[.slice ab d.blocks.length cb,.slice aq d.queue.length cq] 34∧aB wr w1.heap.size #[.slice xb d.blocks.length cb',.slice none 0 0] 34∧aB wr w.heap.size #[.slice none 0 0,.slice none 0 0] 34∧Own wr w.heap.size 79 8 (.slice xb d.blocks.length cb') d.blocks.length ((iF (ko bits) d.blocks d.queue k).flatMap Br)∧aB wr bb #[.int .i64 bits] 3) (fun i _=>d.queue.length-(intOf i).toNat)
 case atStart=>exact⟨0,aV _,rfl,q,hs,y,u,hv ,hH⟩
 case round=>
  obtain⟨k,hk,rfl,l,hD,p,c,hp ,hS⟩:=hrel;clear hs y u hv q h2
  by_cases hlt:k<d.queue.length
  ·obtain⟨b,off,rfl,hc⟩:=Eg (h.rq.below l) k hlt;have c0:=hc 0 (by decide);have c1:=hc 1 (by decide);have c2:=hc 2 (by decide);have c3:=hc 3 (by decide);have c4:=hc 4 (by decide);have c5:=hc 5 (by decide);have c6:=hc 6 (by decide);have c7:=hc 7 (by decide);have c8:=hc 8 (by decide);simp only[ES,wV,pV,xC,iq] at c0 c1 c2 c3 c4 c5 c6 c7 c8;obtain⟨i1,i2⟩:=hy k hlt;clear hc hy
   go_wp2_with fail
   refine gB (fun W=>Calls _ _ _ W _) fun w3 s hf hJ => ?_;have a:=ae l s;have hr:=hD.ext s;have g:=p.ext s;have m:=c.ext s;have z:=hp.below s;have hb:=hS.ext s;clear hD p c hp hJ c0 c1 c2 c3 c4 c5 c6 c7 c8 l;refine (LP k bits bb (by omega) _ hb).mono ?_;rintro e w4 ⟨rfl,rfl⟩
   by_cases hC:(ko bits) k=true
   ·obtain⟨i0,hA⟩:=fE i1;have hz : i0<d.blocks.length:=by omega
    have n2:(i0:Int)<(d.blocks.length:Int):=by omega
    obtain⟨gb,offb,capb,curb,hI,hT,r,hX,t⟩:=mF kD (by decide) (jk (ko bits) d.blocks d.queue k) z i0 hz;cases hI;have ha:=xS (f:=(ko bits)) (B:=d.blocks) hlt hC;rw[hA,bR] at ha;have hq:=Lib.hid ha;clear ha;rw[hA] at hf;have hQ:=hf.cell;have hF:=g.cell;clear i1 i2
    go_wp2_with (refine gP rfl _ (.tmp 33) (.tmp 32) rfl gb (offb+i0*8) (iB d.queue[k].2) rfl rfl curb 79 r (by rw[Eo];omega) (zn _) (jy _) ?_)
    intro w5 hu j;have hU:=t w5 d.queue[k].2 hu;have hN:=bq hr r (by decide) j;have hn:=bq g r (by decide) j;have hm:=bq m r (by decide) j;have ht:Below w.heap.size w w5:=a.grown j a.size (fun k hk=>by cases hk;exact hT);have hG:=bq hb r (by decide) j;clear hQ hF hu t r hr g m z a;go_wp2;go_roundw
    case rel=>exact⟨k+1,by omega,by go_num,ht,hN,hn,hm,by rw[hq.out];exact hU ,hG⟩
    case measure=>simp[intOf];omega
   have hB : (ko bits) k=false:=zP.2 hC;have hq:=Lib.hid (Az (f:=(ko bits)) (B:=d.blocks) hlt hB);go_wp2;go_roundw
   case rel=>exact⟨k+1,by omega,by go_num,a,hr,g,m,by rw[hq.out];exact z ,hb⟩
   case measure=>simp[intOf];omega
  obtain rfl:k=d.queue.length:=by omega
  have hF:=p.cell
  go_wp2_with (refine az rfl _ (.tmp 4) (.tmp 35) rfl w.heap.size #[.slice xb d.blocks.length cb',.slice none 0 0] rfl rfl _ _ c (qQ _ _ _ _) (oO _ _) (kN _ _ _ _ _ _) ?_)
  intro w3 hM hl;have z:=ak hp c (by decide) hl;have a:Below w.heap.size w w3:=l.grown hl l.size (fun k hk=>by cases hk;exact ay _);have hO:=hM.cell;go_wp2;simp[bodyPost,results,go_sem,results94,hO];exact⟨_,_,⟨rfl,rfl⟩,⟨by rw[jk];exact z,Own.nil _ _ _ _⟩,a⟩
theorem MN (d:pR) (ab:Option Addr) (cb:Nat) (aq:Option Addr) (cq:Nat) (w:World) (h:Lb w ab cb aq cq d) :
  Calls Tryz.prog 58 #[.agg #[.slice ab d.blocks.length cb,.slice aq d.queue.length cq]] w fun e w' => ∃vb vq,e = .returned (.tuple #[.agg #[vb,vq],.int .i64 (aY d)])∧il w' w.heap.size vb vq (jo (fun _=>true) d)∧Below w.heap.size w w':=by
 go_enter func58,ntmps58
 go_wp2_with fail
 refine rE (fun W=>Calls _ _ _ W _) fun W0 p j g r => ?_;refine (rF d ab cb aq cq _ (h.below p)).mono ?_;rintro e w1 ⟨rfl,m⟩;have a:=ae p m;have i:=j.ext m;have c:=g.ext m;skip;have h1:=h.below a;have v:w.heap.size+1<w1.heap.size:=c.lt;clear j g m p h r;have y:=i.cell
 by_cases hw:aY d=0
 ·have q2:jo (fun _=>true) d=⟨iF (fun _=>true) d.blocks d.queue d.queue.length,[]⟩:=by unfold jo;rw[if_pos hw]
  have Q2:=Lib.hid q2;have HW:=Lib.hid hw;rw[hw];clear q2 hw
  go_wp2_with fail
  refine (Tc d ab cb aq cq _ w1 i h1 HW.out).mono ?_;rintro e w2 ⟨vb,vq,rfl,ho,q⟩;have b:=ae a q;have f:=c.ext q;obtain⟨xb,cb',xq,cq',rfl,rfl,_⟩:=ho.rd
  go_wp2_with (refine az rfl _ (.tmp 2) (.tmp 11) rfl (w.heap.size+1) _ rfl rfl _ _ f (qQ _ _ _ _) (oO _ _) (kN _ _ _ _ _ _) ?_)
  intro w3 s l;have o:=b.grown l b.size (fun k hk=>by cases hk;omega);have u:=(ho.mono a.size).keep f (by decide) (by decide) l;have n:=s.cell;go_wp2;simp[bodyPost,results,go_sem,results58,n,HW.out];exact⟨_,_,⟨rfl,rfl⟩,by rw[Q2.out];exact u,o⟩
 have q2:jo (fun _=>true) d=⟨[],[]⟩:=by unfold jo;rw[if_neg hw]
 have x : (aY d != 0)=true:=by simpa using hw
 go_wp2_with (refine az rfl _ (.tmp 2) (.tmp 9) rfl (w.heap.size+1) #[.slice none 0 0,.slice none 0 0] rfl rfl _ _ c rfl disk_size (kN _ _ _ _ _ _) ?_)
 intro w2 t l;have b:=a.grown l a.size (fun k hk=>by cases hk;omega);have n:=t.cell;go_wp2;simp[bodyPost,results,go_sem,results58,n];exact⟨_,_,⟨rfl,rfl⟩,by rw[q2];exact il.nil _ _,b⟩
theorem LJ (d:pR) (ab:Option Addr) (cb:Nat) (aq:Option Addr) (cq:Nat) (bits:Int) (w:World) (h:Lb w ab cb aq cq d) :
  Calls Tryz.prog 60 #[.agg #[.slice ab d.blocks.length cb,.slice aq d.queue.length cq],.int .i64 bits] w fun e w' => ∃vb vq,e = .returned (.tuple #[.agg #[vb,vq],.int .i64 (aY d)])∧il w' w.heap.size vb vq (jo (ko bits) d)∧Below w.heap.size w w':=by
 go_enter func60,ntmps60
 go_wp2_with fail
 refine LD (fun W=>Calls _ _ _ W _) fun W0 p j r g t => ?_;refine (rF d ab cb aq cq _ (h.below p)).mono ?_;rintro e w1 ⟨rfl,l⟩;have a:=ae p l;have i:=j.ext l;have c:=g.ext l;have q:=r.ext l;have h1:=h.below a;have y:w.heap.size+2<w1.heap.size:=c.lt;clear j g l p h t;have ha:=i.cell
 by_cases hw:aY d=0
 ·have q2:jo (ko bits) d=⟨iF (ko bits) d.blocks d.queue d.queue.length,[]⟩:=by unfold jo;rw[if_pos hw]
  have Q2:=Lib.hid q2;have HW:=Lib.hid hw;rw[hw];clear q2 hw
  go_wp2_with fail
  refine (QC d ab cb aq cq _ w1 i h1 HW.out bits _ q).mono ?_;rintro e w2 ⟨vb,vq,rfl,ho,s⟩;have b:=ae a s;have f:=c.ext s;obtain⟨xb,cb',xq,cq',rfl,rfl,_⟩:=ho.rd
  go_wp2_with (refine az rfl _ (.tmp 4) (.tmp 14) rfl (w.heap.size+2) _ rfl rfl _ _ f (qQ _ _ _ _) (oO _ _) (kN _ _ _ _ _ _) ?_)
  intro w3 u m;have o:=b.grown m b.size (fun k hk=>by cases hk;omega);have x:=(ho.mono a.size).keep f (by decide) (by decide) m;have n:=u.cell;go_wp2;simp[bodyPost,results,go_sem,results60,n,HW.out];exact⟨_,_,⟨rfl,rfl⟩,by rw[Q2.out];exact x,o⟩
 have q2:jo (ko bits) d=⟨[],[]⟩:=by unfold jo;rw[if_neg hw]
 have z : (aY d != 0)=true:=by simpa using hw
 go_wp2_with (refine az rfl _ (.tmp 4) (.tmp 11) rfl (w.heap.size+2) #[.slice none 0 0,.slice none 0 0] rfl rfl _ _ c rfl disk_size (kN _ _ _ _ _ _) ?_)
 intro w2 v m;have b:=a.grown m a.size (fun k hk=>by cases hk;omega);have n:=v.cell;go_wp2;simp[bodyPost,results,go_sem,results60,n];exact⟨_,_,⟨rfl,rfl⟩,by rw[q2];exact il.nil _ _,b⟩
theorem WK (p q:Page) (W:World):(Op.equalIn 10000 79 (.agg #[.int .u8 p[0].toNat,.int .u8 p[1].toNat,.int .u8 p[2].toNat,.int .u8 p[3].toNat,.int .u8 p[4].toNat,.int .u8 p[5].toNat,.int .u8 p[6].toNat,.int .u8 p[7].toNat]) (.agg #[.int .u8 q[0].toNat,.int .u8 q[1].toNat,.int .u8 q[2].toNat,.int .u8 q[3].toNat,.int .u8 q[4].toNat,.int .u8 q[5].toNat,.int .u8 q[6].toNat,.int .u8 q[7].toNat])).run Tryz.prog W = .ok (p==q) W:=
 Bz W 9998 _ _ underlying79 underlying5 byte_size p q
theorem Nu (p:Page):iB p=#[.int .u8 p[0].toNat,.int .u8 p[1].toNat,.int .u8 p[2].toNat,.int .u8 p[3].toNat,.int .u8 p[4].toNat,.int .u8 p[5].toNat,.int .u8 p[6].toNat,.int .u8 p[7].toNat]:=rfl
theorem lit0:iB zPg=#[.int .u8 0,.int .u8 0,.int .u8 0,.int .u8 0,.int .u8 0,.int .u8 0,.int .u8 0,.int .u8 0]:=rfl
theorem WW (p q:Page) (W:World):(Op.equalIn 9999 79 (.agg #[.int .u8 p[0].toNat,.int .u8 p[1].toNat,.int .u8 p[2].toNat,.int .u8 p[3].toNat,.int .u8 p[4].toNat,.int .u8 p[5].toNat,.int .u8 p[6].toNat,.int .u8 p[7].toNat]) (.agg #[.int .u8 q[0].toNat,.int .u8 q[1].toNat,.int .u8 q[2].toNat,.int .u8 q[3].toNat,.int .u8 q[4].toNat,.int .u8 q[5].toNat,.int .u8 q[6].toNat,.int .u8 q[7].toNat])).run Tryz.prog W = .ok (p==q) W:=
 Bz W 9997 _ _ underlying79 underlying5 byte_size p q
theorem put_size:(Tryz.prog.info? 86).map (·.size)=some 9:=by kernel_rfl
theorem NL (q:Int × Page):(ES q).all (·.oneCell')=true:=by simp[ES,Value.oneCell']
def vW (f:Fr):Array Value:=#[.int .u8 f.p[0].toNat,.int .u8 f.p[1].toNat,.int .u8 f.p[2].toNat,.int .u8 f.p[3].toNat,.int .u8 f.p[4].toNat,.int .u8 f.p[5].toNat,.int .u8 f.p[6].toNat,.int .u8 f.p[7].toNat,.int .i64 f.r,.bool f.u,.bool f.d,.int .i64 f.f,.int .i64 f.i]
def qf (f:Fr):List Value:=(vW f).toList
theorem fJ (f:Fr):(qf f).length=13:=rfl
structure Wd (w:World) (b off:Nat) (f:Fr):Prop where
 c0:w.cell? ⟨b,off,none⟩=some (.int .u8 f.p[0].toNat)
 c1:w.cell? ⟨b,off+1,none⟩=some (.int .u8 f.p[1].toNat)
 c2:w.cell? ⟨b,off+2,none⟩=some (.int .u8 f.p[2].toNat)
 c3:w.cell? ⟨b,off+3,none⟩=some (.int .u8 f.p[3].toNat)
 c4:w.cell? ⟨b,off+4,none⟩=some (.int .u8 f.p[4].toNat)
 c5:w.cell? ⟨b,off+5,none⟩=some (.int .u8 f.p[5].toNat)
 c6:w.cell? ⟨b,off+6,none⟩=some (.int .u8 f.p[6].toNat)
 c7:w.cell? ⟨b,off+7,none⟩=some (.int .u8 f.p[7].toNat)
 c8:w.cell? ⟨b,off+8,none⟩=some (.int .i64 f.r)
 c9:w.cell? ⟨b,off+9,none⟩=some (.bool f.u)
 ca:w.cell? ⟨b,off+10,none⟩=some (.bool f.d)
 cb:w.cell? ⟨b,off+11,none⟩=some (.int .i64 f.f)
 cc:w.cell? ⟨b,off+12,none⟩=some (.int .i64 f.i)
theorem Jt {l:List Fr} (h:dP w a (l.flatMap qf)) (k:Nat) (hk:k<l.length):∃b off,a=some ⟨b,off,none⟩∧Wd w b (off+k*13) l[k]:=by
 obtain⟨b,off,ha,hc⟩:=h.elem fJ (by decide) k hk;exact⟨b,off,ha,hc 0 _ rfl,hc 1 _ rfl,hc 2 _ rfl,hc 3 _ rfl,hc 4 _ rfl,hc 5 _ rfl,hc 6 _ rfl,hc 7 _ rfl,hc 8 _ rfl,hc 9 _ rfl,hc 10 _ rfl,hc 11 _ rfl,hc 12 _ rfl⟩
theorem Gx (f:Fr) (b off:Nat) (w:World) (h:Wd w b off f):Calls Tryz.prog 130 #[.pointer (some ⟨b,off,none⟩)] w fun e w'=>e = .returned (.int .i64 (dR f))∧w' = w:=by
 obtain⟨c0,c1,c2,c3,c4,c5,c6,c7,c8,c9,ca,cb,cc⟩:=h;have hE:∀W,(Op.equalIn 10000 79 (.agg #[.int .u8 f.p[0].toNat,.int .u8 f.p[1].toNat,.int .u8 f.p[2].toNat,.int .u8 f.p[3].toNat,.int .u8 f.p[4].toNat,.int .u8 f.p[5].toNat,.int .u8 f.p[6].toNat,.int .u8 f.p[7].toNat]) (.agg #[.int .u8 0,.int .u8 0,.int .u8 0,.int .u8 0,.int .u8 0,.int .u8 0,.int .u8 0,.int .u8 0])).run Tryz.prog W = .ok (f.p==zPg) W:=WK f.p zPg;go_enter func130,ntmps130;go_wp2
 all_goals go_ret
 all_goals refine⟨?_,rfl⟩
 all_goals clear c0 c1 c2 c3 c4 c5 c6 c7 c8 c9 ca cb cc hE
 all_goals go_light
 all_goals refine congrArg (fun z=>Ending.returned (.int .i64 z)) ?_
 all_goals simp only[dR,Dt,FI,Bl,tF,dS,decide_eq_true_eq,ne_eq,bne_iff_ne]
 all_goals simp_all
 all_goals omega
theorem frame_info:(Tryz.prog.info? 81).map (fun i=>(i.zero,i.size,i.bytes))=some (some (.agg #[.int .u8 0,.int .u8 0,.int .u8 0,.int .u8 0,.int .u8 0,.int .u8 0,.int .u8 0,.int .u8 0,.int .i64 0,.bool false,.bool false,.int .i64 0,.int .i64 0]),13,40):=by kernel_rfl
theorem frame_size:(Tryz.prog.info? 81).map (·.size)=some 13:=by kernel_rfl
theorem Mi (l:List Fr):(l.flatMap qf).length=l.length*13:=Pw.flat_len qf 13 fJ l
theorem qw (f:Fr):(vW f).all (·.oneCell')=true:=by simp[vW,Value.oneCell']
theorem LW (l:List Fr):∀u∈l.flatMap qf,u.oneCell' = true:=by
 intro u hu;obtain⟨p,_,hp⟩:=jP.1 hu;simp only[qf,vW,bZ,fP,or_false] at hp;rcases hp with rfl|rfl|rfl|rfl|rfl|rfl|rfl|rfl|rfl|rfl|rfl|rfl|rfl<;>rfl
theorem II (l:List Fr) (a:Option Addr) (c:Nat) (w:World) (hle:l.length≤c) (hnil:a=none→c=0) (hrd:dP w a (l.flatMap qf)) (hb:l.length*40≤140737488355328) :
  Calls Tryz.prog 114 #[.slice a l.length c] w fun e w' => ∃v,e = .returned v∧Own w' w.heap.size 81 13 v l.length (l.flatMap qf)∧Below w.heap.size w w':=by
 cases a with
 | none=>
  have h0:=hnil rfl;have hl:l=[]:=jM (by omega);subst hl;subst h0;have hq:=fun W=>lV (P:=Tryz.prog) W 26 _ none 0 0 0 0 underlying26;go_enter func114,ntmps114;go_wp2;go_ret;exact⟨_,rfl,by simpa using Own.nil _ _ _ _,Below.refl _ _⟩
 | some ad=>
  have hq:=fun W=>lV (P:=Tryz.prog) W 26 _ (some ad) l.length c 0 0 underlying26;go_enter func114,ntmps114
  go_wp2_with (at_builtin;go_must (refine fq rfl _ _ 26 rfl w.heap.size 81 (.agg #[.int .u8 0,.int .u8 0,.int .u8 0,.int .u8 0,.int .u8 0,.int .u8 0,.int .u8 0,.int .u8 0,.int .i64 0,.bool false,.bool false,.int .i64 0,.int .i64 0]) 13 40 underlying26 frame_info rfl (by decide) _ 0 [] rfl ?own (some ad) l.length c (l.flatMap qf) rfl (fun h=>(by cases h)) hle (Mi l) ?rd (LW l) (by unfold maxLen;omega) (by simpa using hb) ?bb ?k))
  case own=>exact⟨rfl,.inr ⟨w.heap.size,0,0,#[],rfl,ay _,aB.new _ _ _,ay _,aV _,by simp,fun j u h=>by simp at h⟩⟩
  case rd=>exact hrd.below ((Below.refl _ _).alloc (ay _) _)
  case bb=>exact fZ _ _
  intro v w1 b d;go_wp2;go_ret;exact⟨v,rfl,by simpa using b,((Below.refl _ _).alloc (ay _) _).grown d (fZ _ _) (fun k hk=>by cases hk;exact ay _)⟩
structure Sj (w:World) (a:Option Addr) (c:Nat) (m:Mem):Prop where
 le:m.fs.length≤c
 mx:c≤maxLen
 nil:a=none→c=0
 rd:dP w a (m.fs.flatMap qf)
theorem Sj.below {m:Mem} (h:Sj w a c m) (hb:Below w.heap.size w w'):Sj w' a c m:={ h with rd:=h.rd.below hb }
theorem Ci {m:Mem} (h:Own w B 81 13 v m.fs.length (m.fs.flatMap qf)):∃a c,v = .slice a m.fs.length c∧Sj w a c m:=by
 obtain⟨a,c,rfl,h1,h2,h3,h4⟩:=h.rd;exact⟨a,c,rfl,h1,h2,h3,h4⟩
theorem yj (m:Mem) (a:Option Addr) (c:Nat) (w:World) (h:Sj w a c m) :
  Calls Tryz.prog 107 #[.agg #[.slice a m.fs.length c,.int .i64 m.hand]] w fun e w'=>e = .returned (.int .i64 (bL m))∧Below w.heap.size w w':=by
 have hl:=bi h.le h.mx;unfold maxLen at hl;go_enter func107,ntmps107;go_upto_region 1 with (fail);refine gB (fun W=>Code.wp _ _ _ _ W) fun W0 d l n => ?_;clear n;have r:=l.cell;have h0:=h.below d
 by_cases h4:40<m.fs.length
 ·have hW:bL m=4:=by unfold bL;rw[if_pos h4]
  have p : (40:Int)<(m.fs.length:Int):=by omega
  go_wp2;go_ret;rw[hW];exact⟨rfl,d⟩
 have p : ¬(40:Int)<(m.fs.length:Int):=by omega
 go_wp2
 go_loopw [12] (fun i wr => ∃k:Nat,k≤m.fs.length∧i = .int .i64 k∧W0=wr∧∀i (h:i<m.fs.length),i<k→dR m.fs[i]=0) (fun i _=>m.fs.length-(intOf i).toNat)
 case atStart=>exact⟨0,aV _,rfl,rfl,fun i _ h=>absurd h (dV _)⟩
 case round=>
  obtain⟨k,hk,rfl,rfl,j⟩:=hrel;have g:=Lib.hid j;clear j
  by_cases hlt:k<m.fs.length
  ·obtain⟨b,off,rfl,hc⟩:=Jt h0.rd k hlt;have q:(k:Int)<(m.fs.length:Int):=by omega
   by_cases he:dR m.fs[k]=0
   ·have o:=Lib.hid he;have hf:=Gx m.fs[k] b _ _ hc;rw[he] at hf;clear he hc
    go_wp2_with fail
    refine hf.mono ?_;rintro e w2 ⟨rfl,rfl⟩;go_wp2;go_roundw
    case rel=>exact⟨k+1,by omega,by go_num,trivial,lN g.out hlt o.out⟩
    case measure=>simp[intOf];omega
   have hf:=Gx m.fs[k] b _ _ hc;have hW:bL m=dR m.fs[k]:=by have:=firstEf_at _ k hlt g.out he;unfold bL;rw[if_neg h4,this,if_pos he]
   have hn:(dR m.fs[k] != 0)=true:=by simpa using he
   clear hc;have f:=Lib.hid hW;clear hW
   go_wp2_with fail
   refine hf.mono ?_;rintro e w2 ⟨rfl,rfl⟩;go_wp2;go_ret;rw[f.out];exact⟨rfl,d⟩
  have h0:firstEf m.fs=0:=firstEf_none _ (fun i hi=>g.out i hi (by omega));have hW:bL m=if m.hand<0∨(0<m.hand∧(m.fs.length:Int)≤m.hand) then 3 else 0:=by unfold bL;rw[if_neg h4,h0];rfl
  have f:=Lib.hid hW;clear hW h0
  by_cases n1:m.hand<0
  ·go_wp2
   all_goals
    go_ret;rw[f.out,if_pos (.inl n1)];exact⟨rfl,d⟩
  by_cases n2:(0:Int)<m.hand
  ·by_cases n3:(m.fs.length:Int)≤m.hand
   ·go_wp2
    all_goals
     go_ret;rw[f.out,if_pos (.inr ⟨n2,n3⟩)];exact⟨rfl,d⟩
   go_wp2
   all_goals
    go_ret;rw[f.out,if_neg (by omega)];exact⟨rfl,d⟩
  go_wp2
  all_goals
   go_ret;rw[f.out,if_neg (by omega)];exact⟨rfl,d⟩
theorem mem_size:(Tryz.prog.info? 28).map (·.size)=some 2:=by kernel_rfl
theorem jf (a:Option Addr) (n c:Nat) (k:Int):(#[Value.slice a n c,.int .i64 k]:Array Value).all (·.oneCell')=true:=by simp[Value.oneCell']
theorem zY (a b:Option Addr) (n c m e:Nat) (k l:Int):(#[Value.slice a n c,.int .i64 k]:Array Value).size=(#[Value.slice b m e,.int .i64 l]:Array Value).size:=rfl
theorem RX (v u:Value):(Tryz.prog.info? 28).map (·.size)=some (#[v,u]:Array Value).size:=mem_size
def WF (B:Nat) (m:Mem):mg:=⟨fun v w => ∃vb,v = .agg #[vb,.int .i64 m.hand]∧Own w B 81 13 vb m.fs.length (m.fs.flatMap qf),fun _ _ _ hb ⟨vb,h1,h2⟩=>⟨vb,h1,h2.below hb⟩⟩
theorem Ea (m:Mem) (a:Option Addr) (c:Nat) (w:World) (h:Sj w a c m) (h40:m.fs.length*40≤140737488355328) :
  Calls Tryz.prog 73 #[.agg #[.slice a m.fs.length c,.int .i64 m.hand]] w fun e w' => ∃vb,e = .returned (.agg #[vb,.int .i64 m.hand])∧Own w' w.heap.size 81 13 vb m.fs.length (m.fs.flatMap qf)∧Below w.heap.size w w':=by
 go_enter func73,ntmps73;go_upto_region 1 with (fail);refine rE (fun W=>Code.wp _ _ _ _ W) fun w0 b l j s => ?_;clear s;have h0:=h.below b;refine aM 6 [_,_,.r 2 ((ou w.heap.size 81 13 m.fs.length (m.fs.flatMap qf))),_,_,.r 5 ((WF w.heap.size m))] (Gf w.heap.size 0 rfl rfl (Gl l (V:=.slice a m.fs.length c) (by simp[underlying26]) rfl rfl rfl rfl (ag ?_ (Gf w.heap.size 1 rfl rfl (Gl l (V:=.int .i64 m.hand) (by simp[underlying3]) rfl rfl rfl rfl (ag ?_ (aC))))))) (fun _=>rfl) rfl ?_
 ·intro ρ y W hw hn hb hd;have E4:=hw 4 1 rfl;have h1:y 1=_:=hd 1 rfl;have EF:∀f,ρ (.func f) = .func (.func f) #[] #[]:=fun f=>hn (.func f) trivial;refine aR _ _ (ah rfl) (aU rfl (EF _) func114 (by kernel_rfl) (by kernel_rfl) (by simp only[bV,bP,bT,E4,h1,EF];rfl)) ?_;refine (II m.fs a c W h0.le h0.nil (h0.below hb).rd h40).mono ?_;rintro e w1 ⟨v,rfl,ho,t⟩;exact⟨v,rfl,t,ho.mono (bi b.size hb.size)⟩
 ·intro ρ y W hw hn hb hd;have E5:=hw 5 2 rfl;have h2:=hd 2 rfl;have E7:=hw 7 4 rfl;have h4:y 4=_:=hd 4 rfl;obtain⟨x2,c2,e2,_⟩:=Own.rd h2;refine aj (.agg #[y 2,.int .i64 m.hand]) (ah rfl) (by simp[execOp,go_sem,E5,E7,h4,e2]) ?_;exact⟨_,rfl,h2⟩
 intro y WA g i;have q:((ou w.heap.size 81 13 m.fs.length (m.fs.flatMap qf))).r (y 2) WA:=i 2 (by decide);have p:((WF w.heap.size m)).r (y 5) WA:=i 5 (by decide);clear i;obtain⟨vb,e5,ho⟩:=p;rw[e5];clear q e5;have d:=ae b g;obtain⟨xb,cb',rfl,_⟩:=ho.rd;refine az rfl _ (.tmp 2) (.tmp 8) rfl (w.heap.size+1) _ rfl rfl _ _ (j.ext g) rfl mem_size (by simp[Value.oneCell']) ?_;intro w2 hq o;have n:Below w.heap.size w w2:=d.grown o d.size (fun k hk=>by cases hk;omega);have hc:=hq.cell;go_wp2;simp[bodyPost,results,go_sem,results73,hc];exact⟨ak ho (j.ext g) (by decide) o,n⟩
theorem FO (m:Mem) (a:Option Addr) (c:Nat) (w:World) (h:Sj w a c m) :
  Calls Tryz.prog 124 #[.agg #[.slice a m.fs.length c,.int .i64 m.hand]] w fun e w'=>e = .returned (.int .i64 (mI m.fs))∧Below w.heap.size w w':=by
 have hl:=bi h.le h.mx;unfold maxLen at hl;go_enter func124,ntmps124;go_upto_region 1 with (fail);refine gB (fun W=>Code.wp _ _ _ _ W) fun W0 q g l => ?_;have p:=g.cell;clear l;go_wp2;clear p g
 go_loopw [3,9] (fun s i wr => ∃(k n:Nat),k≤m.fs.length∧i = .int .i64 k∧s = .int .i64 n∧n≤k∧Below w.heap.size w wr∧Hid (mI (m.fs.take k)=n)) (fun _ i _=>m.fs.length-(intOf i).toNat)
 case atStart=>exact⟨0,0,aV _,rfl,rfl,ay _,q,Lib.hid rfl⟩
 case round=>
  obtain⟨k,n,hk,rfl,rfl,hn,d,hf⟩:=hrel
  by_cases hlt:k<m.fs.length
  ·obtain⟨b,off,rfl,hc⟩:=Jt (h.below d).rd k hlt;obtain⟨c0,c1,c2,c3,c4,c5,c6,c7,c8,c9,ca,cb,cc⟩:=hc;have ht:=Mf m.fs k hlt;rw[hf.out] at ht
   by_cases hr:m.fs[k].r=0
   ·rw[if_pos hr] at ht;have f:=Lib.hid ht;have o:(m.fs[k].r==0)=true:=by simpa using hr
    clear ht hr;go_wp2;go_roundw
    case rel=>exact⟨k+1,n+1,by omega,by go_num,by go_num,by omega,d.alloc d.size _,f⟩
    case measure=>simp[intOf];omega
   rw[if_neg hr] at ht;have f:=Lib.hid ht;have o:(m.fs[k].r==0)=false:=by simpa using hr
   clear ht hr;go_wp2;go_roundw
   case rel=>exact⟨k+1,n,by omega,by go_num,rfl,by omega,d.alloc d.size _,f⟩
   case measure=>simp[intOf];omega
  have j:Hid (mI m.fs=n):=by have:=hf.out;rw[iN (by omega)] at this;exact this
  go_wp2;go_ret;rw[j.out];exact⟨rfl,d⟩
theorem QV (n:Int) (w:World) :
  Calls Tryz.prog 96 #[.int .i64 n] w fun e w' => ∃vb,e = .returned (.tuple #[.agg #[vb,.int .i64 0],.int .i64 (Og n)])∧Own w' w.heap.size 81 13 vb (uh n).fs.length ((uh n).fs.flatMap qf)∧Below w.heap.size w w':=by
 have c:=aB.new w #[.slice none 0 0,.int .i64 0] 28;have a:Below w.heap.size w (w.alloc (.cells #[.slice none 0 0,.int .i64 0] 28)):=(Below.refl _ _).alloc (ay _) _;unfold uh Og;go_enter func96,ntmps96
 by_cases hn:0≤n∧n≤40
 ·obtain⟨n,rfl⟩:=fE hn.1;rw[if_pos hn,if_pos hn];have n1:¬(40:Int)<(n:Int):=by omega
  have n2:n≤40:=by omega
  clear hn
  go_wp2_with (refine uy _ rfl (.tmp 13) (.tmp 13) 26 rfl qf 81 _ 13 40 fr0 fJ (by decide) underlying26 frame_info rfl .i64 .i64 n n n rfl rfl rfl rfl (by omega) (by unfold maxLen;omega) ?_)
  intro w2 ho o;have j:=c.grown o (by intro he;cases he);have d:=a.grown o a.size (fun k hk=>by cases hk);clear c o a;have hr:w.heap.size+1<w2.heap.size:=by obtain⟨cs,hk⟩:=kQ ho _ rfl;simpa using hk.lt
  go_upto_region 4 with (fail);refine gB (fun W=>Code.wp _ _ _ _ W) fun w3 r u hh => ?_;clear hh;have p:=ae d r;have f:=j.ext r;have hc:=ho.below r;have hf:=u.cell;clear j ho r;go_wp2;clear hf
  go_loopw [19] (fun i wr => ∃(k:Nat) (cur:List Fr),k≤n∧i = .int .i64 k∧Below w.heap.size w wr∧aB wr w.heap.size #[.slice none 0 0,.int .i64 0] 28∧aB wr w2.heap.size #[.slice (some ⟨w.heap.size+1,0,none⟩) n n,.int .i64 0] 28∧Own wr w.heap.size 81 13 (.slice (some ⟨w.heap.size+1,0,none⟩) n n) n (cur.flatMap qf)∧Hid (cur.length=n∧∀i,i<n→cur[i]?=some (if i<k then frZ else fr0))) (fun i _=>n-(intOf i).toNat)
  case atStart=>exact⟨0,List.replicate n fr0,aV _,rfl,p,f,u,hc.mono (by simp),Lib.hid ⟨by simp,fun i hi=>by simp[hi]⟩⟩
  case round=>
   clear f u hc p;obtain⟨k,cur,hk,rfl,q,l,hm,ho,b⟩:=hrel;have hf:=hm.cell
   by_cases hlt:k<n
   ·have m:=b.out.1;have v:k<cur.length:=by omega
    have x:cur[k]'v=fr0:=by have:=b.out.2 k hlt;rw[aH v] at this;simpa using this
    obtain⟨g,off,cap,hv,hw,ht,⟨csg,hu⟩,hg,hp,s⟩:=wu fJ (by decide) m ho k hlt 11 (by decide) (.int .i64 (-1)) frZ (by rw[x];rfl);cases hv;have hq:=hg 11 (.int .i64 0) (by rw[x];rfl);simp only[eu] at hq hp s;have hd:Hid ((cur.set k frZ).length=n∧∀i,i<n→(cur.set k frZ)[i]?=some (if i<k+1 then frZ else fr0)):=by
     refine⟨by simp[m],fun i hi => ?_⟩;rw[kW]
     by_cases e:k=i
     ·subst e;simp[v]
     rw[if_neg e,b.out.2 i hi]
     by_cases h:i<k
     ·rw[if_pos h,if_pos (by omega)]
     ·rw[if_neg h,if_neg (by omega)]
    have hs:(k:Int)<(n:Int):=by omega
    clear x hg b m ho;go_wp2;go_roundw
    case rel=>exact⟨k+1,cur.set k frZ,by omega,by go_num,q.setCell (by simp) _,l.setCell_other _ _ (by simp),hm.setCell_other _ _ (by simp;omega),s,hd⟩
    case measure=>simp[intOf];omega
   have y:Hid (cur=List.replicate n frZ):=by
    apply mR;intro i
    by_cases hi:i<n
    ·rw[b.out.2 i hi,if_pos (by omega)];simp[hi]
    ·rw[dI (by have:=b.out.1;omega),dI (by simp;omega)]
   go_wp2_with (refine az rfl _ (.tmp 2) (.tmp 28) rfl w.heap.size #[.slice (some ⟨w.heap.size+1,0,none⟩) n n,.int .i64 0] rfl rfl _ _ l (zY _ _ _ _ _ _ _ _) (RX _ _) (jf _ _ _ _) ?_)
   intro w5 hj t;have hb:=ak ho l (by decide) t;have ha:=q.grown t q.size (fun k hk=>by cases hk;exact ay _);have z:=hj.cell;go_wp2;simp[bodyPost,results,go_sem,results96,z];rw[y.out] at hb;exact⟨hb,ha⟩
 rw[if_neg hn,if_neg hn];have h' : n<0∨40<n:=by omega
 clear hn;rcases h' with h|h
 all_goals
  go_wp2_with (refine az rfl _ (.tmp 2) (.tmp 12) rfl w.heap.size #[.slice none 0 0,.int .i64 0] rfl rfl _ _ c rfl mem_size (jf _ _ _ _) ?_)
  all_goals
   intro w2 hl o;have d:=a.grown o a.size (fun k hk=>by cases hk;exact ay _);have z:=hl.cell;go_wp2;simp[bodyPost,results,go_sem,results96,z];exact⟨Own.nil _ _ _ _,d⟩
theorem PZ (m:Mem) (k n:Int) (a:Option Addr) (c:Nat) (w:World) (h:Sj w a c m) :
  Calls Tryz.prog 119 #[.agg #[.slice a m.fs.length c,.int .i64 m.hand],.int .i64 k,.int .i64 n] w fun e w' => ∃vb,e = .returned (.tuple #[.agg #[vb,.int .i64 (lL m k n).hand],.int .i64 (nz m k n)])∧Own w' w.heap.size 81 13 vb (lL m k n).fs.length ((lL m k n).fs.flatMap qf)∧Below w.heap.size w w':=by
 go_enter func119,ntmps119
 go_wp2_with fail
 refine rE (fun W=>Calls _ _ _ W _) fun W0 hE hj hf hO => ?_;refine (yj m a c _ (h.below hE)).mono ?_;rintro e w1 ⟨rfl,ht⟩;have d:=ae hE ht;have hi:=hj.ext ht;have g:=hf.ext ht;have h1:=h.below d;clear hj hf ht hE hO;have hV:=hi.cell
 by_cases hw:bL m=0
 ·obtain⟨hX,hp,_,_⟩:=(eH m).1 hw;rw[hw]
  by_cases hk:k<0∨(m.fs.length:Int)≤k
  ·have q1:nz m k n=5:=by unfold nz;rw[if_neg (by omega),if_pos (by omega)]
   have q3:lL m k n=noM:=by unfold lL;rw[if_neg (by omega)]
   clear hp;rcases hk with hk|hk
   all_goals
    go_wp2_with (refine az rfl _ (.tmp 6) (.tmp 35) rfl (w.heap.size+1) #[.slice none 0 0,.int .i64 0] rfl rfl _ _ g rfl mem_size (jf _ _ _ _) ?_)
    all_goals
     intro w5 q s;have f:=(d).grown s (d).size (fun k hk=>by cases hk;omega);have i:=q.cell;go_wp2;simp[bodyPost,results,go_sem,results119,i,q1,q3,noM];exact⟨Own.nil _ _ _ _,f⟩
  obtain⟨k,rfl⟩:=fE (show 0≤k by omega);have hh:k<m.fs.length:=by omega
  have h3:¬(m.fs.length:Int)≤(k:Int):=by omega
  have h2:(k:Int)<(m.fs.length:Int):=by omega
  obtain⟨⟨h0,hZ,_⟩,_,_⟩:=(iH m.fs[k]).1 (hp _ (dN hh));have hg:m.fs.getD (k:Int).toNat fr0=m.fs[k]:=by simp[hh]
  clear hp hk;obtain⟨b,off,rfl,hc⟩:=Jt h1.rd k hh;have c8:=hc.c8
  by_cases hr:m.fs[k].r=0
  ·have q1:nz m k n=5:=by unfold nz;rw[if_neg (by omega),hg,if_pos (.inr (.inr hr))]
   have q3:lL m k n=noM:=by unfold lL;rw[if_neg (by omega)]
   have hP:(m.fs[k].r==0)=true:=by simpa using hr
   clear hg
   go_wp2_with (refine az rfl _ (.tmp 6) (.tmp 35) rfl (w.heap.size+1) #[.slice none 0 0,.int .i64 0] rfl rfl _ _ g rfl mem_size (jf _ _ _ _) ?_)
   all_goals
    intro w5 q s;have f:=(d).grown s (d).size (fun k hk=>by cases hk;omega);have i:=q.cell;go_wp2;simp[bodyPost,results,go_sem,results119,i,q1,q3,noM];exact⟨Own.nil _ _ _ _,f⟩
  have hP:(m.fs[k].r==0)=false:=by simpa using hr
  by_cases hn:n < -m.fs[k].r∨1000-m.fs[k].r<n
  ·have q1:nz m k n=3:=by unfold nz;rw[if_neg (by omega),hg,if_neg (by omega),if_pos hn]
   have q3:lL m k n=noM:=by unfold lL;rw[if_neg (by omega)]
   clear hg;rcases hn with hn|hn
   all_goals
    go_wp2_with (refine az rfl _ (.tmp 6) (.tmp 56) rfl (w.heap.size+1) #[.slice none 0 0,.int .i64 0] rfl rfl _ _ g rfl mem_size (jf _ _ _ _) ?_)
    all_goals
     intro w5 q s;have f:=(d).grown s (d).size (fun k hk=>by cases hk;omega);have i:=q.cell;go_wp2;simp[bodyPost,results,go_sem,results119,i,q1,q3,noM];exact⟨Own.nil _ _ _ _,f⟩
  have q1:nz m k n=0:=by unfold nz;rw[if_neg (by omega),hg,if_neg (by omega),if_neg hn]
  have q3:lL m k n=⟨m.fs.set k (jA m.fs[k] n),m.hand⟩:=by unfold lL;rw[if_pos q1,hg];rfl
  have Q1:=Lib.hid q1;have Q3:=Lib.hid q3;have n1:¬n < -m.fs[k].r:=by omega
  have n2:¬1000-m.fs[k].r<n:=by omega
  clear hg q1 q3 hn hr
  go_wp2_with fail
  refine (Ea m _ c _ h1 (by omega)).mono ?_;rintro e w2 ⟨vb,rfl,ho,hD⟩;have hm:=ae d hD;have p:=g.ext hD;have hx:=d.size;have h5:w.heap.size+2≤w1.heap.size:=by have:=g.lt;omega
  obtain⟨xb,cb',rfl,_⟩:=Ci ho;clear hV hi g h1 hD hc c8;go_upto_region 9 with (fail);refine gB (fun W=>Code.wp _ _ _ _ W) fun w3 hs y hN => ?_;have hl:=ae hm hs;have hd:=p.ext hs;have hH:=ho.below hs;have h4:w.heap.size+2≤w2.heap.size:=by have:=hm.size;have:=p.lt;omega
  clear p ho hs hN;obtain⟨gb,offb,capb,hM,h7,hT,⟨csg,hq⟩,hK,hU,u⟩:=wu fJ (by decide) rfl hH k hh 8 (by decide) (.int .i64 (m.fs[k].r+n)) { m.fs[k] with r:=m.fs[k].r+n } rfl;cases hM;have hW:=hK 8 (.int .i64 m.fs[k].r) rfl;have z:=y.cell;clear hK;have hI:=y.lt;have hS:w2.heap.size≠gb:=by intro e;subst e;unfold aB at y hq;rw[y] at hq;cases hq
  go_upto_region 11 with (fail);have hA:=y.setCell_other ⟨gb,offb+k*13+8,none⟩ (.int .i64 (m.fs[k].r+n)) (by simpa using hS);have l:=hd.setCell_other ⟨gb,offb+k*13+8,none⟩ (.int .i64 (m.fs[k].r+n)) (by simp;omega);have j:Below w.heap.size w (w3.setCell ⟨gb,offb+k*13+8,none⟩ (.int .i64 (m.fs[k].r+n))):=hl.setCell (by simp;omega) _;generalize w3.setCell ⟨gb,offb+k*13+8,none⟩ (.int .i64 (m.fs[k].r+n))=w4 at *
  clear y hd hl hH hq hU hW z hT hI;have hR:(m.fs.set k { m.fs[k] with r:=m.fs[k].r+n }).length=m.fs.length:=by simp
  have hJ : k<(m.fs.set k { m.fs[k] with r:=m.fs[k].r+n }).length:=by omega
  obtain⟨_,_,hv,_,_,_,hu⟩:=u.rd;cases hv;obtain⟨_,_,hv,hC⟩:=Jt hu k hJ;cases hv;rw[Jh] at hC;have c8:=hC.c8;simp only at c8;clear hC hu;have z:=hA.cell
  by_cases hz:m.fs[k].r+n=0
  ·have hB:Hid (jA m.fs[k] n=frZ):=by unfold jA;exact if_pos hz
   obtain⟨_,_,_,curb,hv,_,x,h6,ha⟩:=mF fJ (by decide) hR u k hh;cases hv;rw[hz] at c8;clear hz u
   go_wp2_with (refine gP rfl _ (.tmp 78) (.tmp 77) rfl gb (offb+k*13) (vW frZ) rfl rfl curb 81 x (by show _+13≤_;omega) frame_size (qw _) ?_)
   intro w5 hG v;have hL:=ha w5 frZ hG;rw[Jf] at hL;have hQ:=bq hA x (by decide) v;have hb:=bq l x (by decide) v;have f:Below w.heap.size w w5:=j.grown v j.size (fun k hk=>by cases hk;omega);clear hG ha x hA l z c8 v j;have z:=hQ.cell
   go_wp2_with (refine az rfl _ (.tmp 6) (.tmp 79) rfl (w.heap.size+1) #[.slice (some ⟨gb,offb,none⟩) m.fs.length cb',.int .i64 m.hand] rfl rfl _ _ hb (zY _ _ _ _ _ _ _ _) mem_size (jf _ _ _ _) ?_)
   intro w8 hy o;have hF:=ak hL hb (by decide) o;have t:=f.grown o f.size (fun k hk=>by cases hk;omega);have i:=hy.cell;clear z;go_wp2;simp[bodyPost,results,go_sem,results119,i,Q1.out,Q3.out,hB.out];exact⟨by have:=hF.mono (show w.heap.size≤w1.heap.size from hx);simpa using this,t⟩
  have hB:Hid (jA m.fs[k] n = { m.fs[k] with r:=m.fs[k].r+n }):=by unfold jA;exact if_neg hz
  have hY:(m.fs[k].r+n==0)=false:=by simpa using hz
  clear hz
  go_wp2_with (refine az rfl _ (.tmp 6) (.tmp 79) rfl (w.heap.size+1) #[.slice (some ⟨gb,offb,none⟩) m.fs.length cb',.int .i64 m.hand] rfl rfl _ _ l (zY _ _ _ _ _ _ _ _) mem_size (jf _ _ _ _) ?_)
  intro w8 hy o;have hF:=ak u l (by decide) o;have t:=j.grown o j.size (fun k hk=>by cases hk;omega);have i:=hy.cell;clear z;go_wp2;simp[bodyPost,results,go_sem,results119,i,Q1.out,Q3.out,hB.out];exact⟨by have:=hF.mono (show w.heap.size≤w1.heap.size from hx);simpa using this,t⟩
 have q1:nz m k n=bL m:=by unfold nz;rw[if_pos hw]
 have q3:lL m k n=noM:=by unfold lL;rw[if_neg (by omega)]
 have hn:(bL m != 0)=true:=by simpa using hw
 go_wp2_with (refine az rfl _ (.tmp 6) (.tmp 15) rfl (w.heap.size+1) #[.slice none 0 0,.int .i64 0] rfl rfl _ _ g rfl mem_size (jf _ _ _ _) ?_)
 all_goals
  intro w5 q s;have f:=(d).grown s (d).size (fun k hk=>by cases hk;omega);have i:=q.cell;go_wp2;simp[bodyPost,results,go_sem,results119,i,q1,q3,noM];exact⟨Own.nil _ _ _ _,f⟩
theorem Pd (m:Mem) (a:Option Addr) (c:Nat) (w:World) (h:Sj w a c m) :
  Calls Tryz.prog 88 #[.agg #[.slice a m.fs.length c,.int .i64 m.hand]] w fun e w' => ∃vb,e = .returned (.tuple #[.agg #[vb,.int .i64 (fM m).hand],.int .i64 (iM m),.int .i64 (bL m)])∧Own w' w.heap.size 81 13 vb (fM m).fs.length ((fM m).fs.flatMap qf)∧Below w.heap.size w w':=by
 go_enter func88,ntmps88
 go_wp2_with fail
 refine rE (fun W=>Calls _ _ _ W _) fun W0 hV hH hz ka => ?_;refine (yj m a c _ (h.below hV)).mono ?_;rintro e w1 ⟨rfl,hc⟩;have p:=ae hV hc;have hh:=hH.ext hc;have t:=hz.ext hc;have h1:=h.below p;clear hH hz hc hV ka;have kj:=hh.cell
 by_cases hw:bL m=0
 ·obtain⟨kl,hP,ko,kn⟩:=(eH m).1 hw;rw[hw]
  go_wp2_with fail
  refine (Ea m _ c _ h1 (by omega)).mono ?_;rintro e w2 ⟨vb,rfl,ho,hp⟩;have hU:=ae p hp;have hG:=hh.ext hp;have hy:=t.ext hp;have h2:=h1.below hp;have hi:=p.size;have kq:w.heap.size+2≤w1.heap.size:=by have:=t.lt;omega
  have kp:w.heap.size+2≤w2.heap.size:=by have:=hp.size;omega
  obtain⟨xb,cb',rfl,_⟩:=Ci ho;clear kj hh t h1 hp;go_upto_region 5 with (fail);refine gB (fun W=>Code.wp _ _ _ _ W) fun w3 hl hM h9 => ?_;have hI:=ae hU hl;have i:=hG.ext hl;have q:=hy.ext hl;have h3:=h2.below hl;have hL:=ho.below hl;clear hG hy h2 ho hl h9
  by_cases hf:mI m.fs=m.fs.length
  ·have q2:fM m=m:=by unfold fM;rw[if_neg (by omega),if_pos hf]
   have q3:iM m = -1:=by unfold iM;rw[if_neg (by omega),if_pos hf]
   have hR:((mI m.fs:Int)==(m.fs.length:Int))=true:=by simp[hf]
   have Q:=Lib.hid (And.intro q2 q3);clear q2 q3 hf hP;refine aM 6 [.v (.agg #[.slice a m.fs.length c,.int .i64 m.hand]),.v (.int .i64 (mI m.fs)),_,_,_,_] (ag ?_ (ag ?_ (Gf w.heap.size 0 rfl rfl (Gl i (V:=.slice a m.fs.length c) (by simp[underlying26]) rfl rfl rfl rfl (Gn rfl rfl rfl rfl (Gb (.bool true) (by simp[go_sem,hR]) rfl rfl rfl rfl rfl (aC)) (underlying26)))))) (fun _=>rfl) rfl ?_
   ·intro ρ y W hw hn hb hd;have E1:ρ (.tmp 1) = .pointer (some ⟨w.heap.size,0,none⟩):=(hn (.tmp 1) rfl).trans rfl;refine aj (.agg #[.slice a m.fs.length c,.int .i64 m.hand]) (ah rfl) (by simp[execOp,go_sem,E1,(i.ext hb).cell]) rfl
   ·intro ρ y W hw hn hb hd;have hW:=hw 17 0 rfl;have h0:y 0=_:=hd 0 rfl;have EF:∀f,ρ (.func f) = .func (.func f) #[] #[]:=fun f=>hn (.func f) trivial;refine aR _ _ (ah rfl) (aU rfl (EF _) func124 (by kernel_rfl) (by kernel_rfl) (by simp only[bV,bP,bT,hW,h0,EF];rfl)) ?_;refine (FO m a c W (h3.below hb)).mono ?_;rintro e w1 ⟨rfl,hc⟩;exact⟨_,rfl,hc,rfl⟩
   intro y WA b _;have n:=ae hI b;have l:=q.ext b;have hB:=hM.ext b;have hK:=hL.below b;clear i q hM hL h3 b;have hE:=hB.cell
   go_wp2_with (refine az rfl _ (.tmp 2) (.tmp 23) rfl (w.heap.size+1) #[.slice xb m.fs.length cb',.int .i64 m.hand] rfl rfl _ _ l (zY _ _ _ _ _ _ _ _) mem_size (jf _ _ _ _) ?_)
   intro w8 hQ ha;have hJ:=ak hK l (by decide) ha;have o:=n.grown ha n.size (fun k hk=>by cases hk;omega);have hD:=hQ.cell;clear hE;go_wp2;simp[bodyPost,results,go_sem,results88,hD,Q.out.1,Q.out.2]
   first
    | exact⟨hJ.mono hi,o⟩
    | exact⟨_,⟨rfl,rfl⟩,hJ.mono hi,o⟩
    | exact⟨_,⟨rfl,hw.symm⟩,hJ.mono hi,o⟩
  obtain⟨h8,h7,h6⟩:=QI m hw hf;have q2:fM m=⟨nS m (ik m),(iU m (ik m+1):Nat)⟩:=by unfold fM;rw[if_neg (by omega),if_neg hf]
  have q3:iM m=(iU m (ik m):Nat):=by unfold iM;rw[if_neg (by omega),if_neg hf]
  have hR:((mI m.fs:Int)==(m.fs.length:Int))=false:=by simpa using (by omega:¬(mI m.fs:Int)=m.fs.length)
  have hA:0<m.fs.length:=by
   rcases sS m.fs.length with h0|h0
   ·exact absurd (by have:=EO m.fs;omega) hf
   ·exact h0
  have Q:=Lib.hid (And.intro q2 (And.intro q3 (And.intro h8 (And.intro h7 h6))));clear q2 q3 hf hP h8 h7 h6;refine aM 6 [.v (.agg #[.slice a m.fs.length c,.int .i64 m.hand]),.v (.int .i64 (mI m.fs)),_,_,_,_] (ag ?_ (ag ?_ (Gf w.heap.size 0 rfl rfl (Gl i (V:=.slice a m.fs.length c) (by simp[underlying26]) rfl rfl rfl rfl (Gn rfl rfl rfl rfl (Gb (.bool false) (by simp[go_sem,hR]) rfl rfl rfl rfl rfl (aC)) (underlying26)))))) (fun _=>rfl) rfl ?_
  ·intro ρ y W hw hn hb hd;have E1:ρ (.tmp 1) = .pointer (some ⟨w.heap.size,0,none⟩):=(hn (.tmp 1) rfl).trans rfl;refine aj (.agg #[.slice a m.fs.length c,.int .i64 m.hand]) (ah rfl) (by simp[execOp,go_sem,E1,(i.ext hb).cell]) rfl
  ·intro ρ y W hw hn hb hd;have hW:=hw 17 0 rfl;have h0:y 0=_:=hd 0 rfl;have EF:∀f,ρ (.func f) = .func (.func f) #[] #[]:=fun f=>hn (.func f) trivial;refine aR _ _ (ah rfl) (aU rfl (EF _) func124 (by kernel_rfl) (by kernel_rfl) (by simp only[bV,bP,bT,hW,h0,EF];rfl)) ?_;refine (FO m a c W (h3.below hb)).mono ?_;rintro e w1 ⟨rfl,hc⟩;exact⟨_,rfl,hc,rfl⟩
  intro y WA b _;have n:=ae hI b;have l:=q.ext b;have hB:=hM.ext b;have hK:=hL.below b;clear i q hM hL h3 b;have hX:Hid (m.hand=(iU m 0:Nat)):=by show m.hand=(iU m 0:Nat);unfold iU;rw[iq,qy (by omega)];omega
  rw[hX.out] at hB;clear hX;go_wp2
  go_loopg [7] (2*m.fs.length) (fun gg s7 wr => ∃s:Nat,Hid (s≤ik m)∧2*m.fs.length-s≤gg∧Below w.heap.size w wr∧aB wr w2.heap.size #[.slice xb m.fs.length cb',.int .i64 (iU m s)] 28∧aB wr (w.heap.size+1) #[.slice none 0 0,.int .i64 0] 28∧Own wr w.heap.size 81 13 (.slice xb m.fs.length cb') m.fs.length ((nS m s).flatMap qf))
  case atStart=>exact⟨0,Lib.hid (aV _),by omega,n,hB,l,by rw[RZ];exact hK.mono hi⟩
  case round=>
   clear n hB l hK;obtain⟨s,hs,kt,hO,hm,hN,ho⟩:=hrel;obtain⟨k,hk⟩:∃k,k=iU m s:=⟨_,rfl⟩;have h4:k<m.fs.length:=by rw[hk];exact oh hA s
   have kc:((k:Int)+1)%(m.fs.length:Int)=(iU m (s+1):Nat):=by
    have h1:iU m (s+1)=(k+1)%m.fs.length:=by rw[hk];unfold iU;rw[Nat.mod_add_mod,mZ]
    rw[h1,show (k:Int)+1=((k+1:Nat):Int) from by simp,←Iz]
   have hC:k<(nS m s).length:=by rw[iP];exact h4
   have hq:wh m s=(decide (0<((nS m s)[k]'hC).r)&&!((nS m s)[k]'hC).u):=by subst hk;exact TG m s hA
   have hg:Hid ((nS m s).set k (unused ((nS m s)[k]'hC))=nS m (s+1)):=by subst hk;exact RB m s hA
   rw[←hk] at hm;have kg:=Lib.hid hk;clear hk;have hE:=hm.cell;have ki:=hm.free;have kf:((m.fs.length:Int)==0)=false:=beq_eq_false_iff_ne.2 (by omega);have ke:¬(m.fs.length:Int)=0:=by omega
   have kd:=hm.lt;have ht:=Lib.hid hq;clear hq;go_upto_region 9 with (fail);have hZ:=hm.setCell 1 (.int .i64 (iU m (s+1):Nat));have d:=hN.setCell_other ⟨w2.heap.size,1,none⟩ (.int .i64 (iU m (s+1):Nat)) (by simp;omega);have hY:=vE ho hm (by decide) 1 (.int .i64 (iU m (s+1):Nat));have j:Below w.heap.size w (wr.setCell ⟨w2.heap.size,1,none⟩ (.int .i64 (iU m (s+1):Nat))):=hO.setCell (by simp;omega) _;generalize wr.setCell ⟨w2.heap.size,1,none⟩ (.int .i64 (iU m (s+1):Nat))=w5 at *
   have z : aB w5 w2.heap.size #[.slice xb m.fs.length cb',.int .i64 (iU m (s+1):Nat)] 28:=hZ;clear hm hE ki hN ho hO hZ kd kc kf ke;have hE:=z.cell;obtain⟨g,off,cap,hv,kv,ks,⟨csg,hj⟩,hT,ku,hx⟩:=wu fJ (by decide) (iP m s) hY k h4 9 (by decide) (.bool false) (unused ((nS m s)[k]'hC)) rfl;cases hv;generalize hF:(nS m s)[k]'hC=F at *
   have c8:=hT 8 (.int .i64 F.r) rfl;have c9:=hT 9 (.bool F.u) rfl;have km:(k:Int)<(m.fs.length:Int):=by omega
   clear hT hF;have h5:w2.heap.size≠g:=by intro e;subst e;unfold aB at z hj;rw[z] at hj;cases hj
   have kr:g≠w.heap.size+1:=by intro e;subst e;unfold aB at d hj;rw[d] at hj;cases hj
   by_cases hr:0<F.r
   ·cases hu:F.u with
    | true=>
     rw[hu] at c9;have x:Hid (s+1≤ik m):=by
      have h1:=ht.out;rw[hu] at h1;have h2:s≠ik m:=by intro e;rw[e,Q.out.2.2.2.1] at h1;simp at h1
      have:=hs.out;show s+1≤ik m;omega
     clear hu;go_wp2
     go_roundg (2*m.fs.length-(s+1))
     case measure=>have:=x.out;have:=Q.out.2.2.1;omega
     case rel=>exact⟨s+1,x,ay _,j.setCell (by simp;omega) _,z.setCell_other _ _ (by simpa using h5),d.setCell_other _ _ (by simp;omega),by rw[←hg.out];exact hx⟩
    | false=>
     rw[hu] at c9;have hS:Hid (s=ik m):=by
      have h1:=ht.out;rw[hu] at h1;have h2:wh m s=true:=by rw[h1];simp[hr]
      have:=hs.out;rcases fG s (ik m) with h|h
      ·rw[Q.out.2.2.2.2 s h] at h2;cases h2
      ·show s=ik m;omega
     clear hu hx hg
     go_wp2_with (refine az rfl _ (.tmp 2) (.tmp 50) rfl (w.heap.size+1) #[.slice (some ⟨g,off,none⟩) m.fs.length cb',.int .i64 (iU m (s+1):Nat)] rfl rfl _ _ d (zY _ _ _ _ _ _ _ _) mem_size (jf _ _ _ _) ?_)
     intro w8 hQ ha;have hJ:=ak hY d (by decide) ha;have o:=j.grown ha j.size (fun k hk=>by cases hk;omega);have hD:=hQ.cell;clear hE;go_wp2;have kk:=hS.out;rw[←kk] at Q;simp[bodyPost,results,go_sem,results88,hD,Q.out.1,Q.out.2.1,hw,kg.out];exact⟨by rw[iP];exact hJ,o⟩
   have x:Hid (s+1≤ik m):=by
    have h1:=ht.out;have h2:s≠ik m:=by intro e;rw[e,Q.out.2.2.2.1] at h1;simp[hr] at h1
    have:=hs.out;show s+1≤ik m;omega
   go_wp2
   go_roundg (2*m.fs.length-(s+1))
   case measure=>have:=x.out;have:=Q.out.2.2.1;omega
   case rel=>exact⟨s+1,x,ay _,j.setCell (by simp;omega) _,z.setCell_other _ _ (by simpa using h5),d.setCell_other _ _ (by simp;omega),by rw[←hg.out];exact hx⟩
 have q2:fM m=noM:=by unfold fM;rw[if_pos hw]
 have q3:iM m=0:=by unfold iM;rw[if_pos hw]
 have hn:(bL m != 0)=true:=by simpa using hw
 go_wp2_with (refine az rfl _ (.tmp 2) (.tmp 13) rfl (w.heap.size+1) #[.slice none 0 0,.int .i64 0] rfl rfl _ _ t rfl mem_size (jf _ _ _ _) ?_)
 intro w5 kb kh;have j:=p.grown kh p.size (fun k hk=>by cases hk;omega);have hD:=kb.cell;go_wp2;simp[bodyPost,results,go_sem,results88,hD,q2,q3,noM];exact⟨Own.nil _ _ _ _,j⟩
theorem bC {d:TypeDesc} (ho:o.op = .load ty x) (hx:ρ x = .pointer (some ⟨b,off,none⟩)) (hrd:dP w (some ⟨b,off,none⟩) vs)
 (hu:P.underlying ty=some d) (hd:aggB d=true) (hi:(P.info? ty).map (·.size)=some vs.length):(execOp ρ o).run P w = .ok (.value (.agg vs.toArray)) w:=by
 unfold execOp;simp only[ho,hx,Instr.loadAt,Instr.sureAddr,kC,rU,rM,jR hrd hu hd hi]
def jw (e:En):Array Value:=#[.int .i64 e.k,.int .i64 e.n,.bool e.w]
def kS (e:En):List Value:=(jw e).toList
theorem fA (e:En):(kS e).length=3:=rfl
structure Fh (w:World) (cs:Array Value) (t:Tb):Prop where
 sz:cs.size=8
 at' : ∀k (h:k<8),∃a c,cs[k]?=some (.slice a t[k].length c)∧t[k].length≤c∧c≤maxLen∧(a=none→c=0)∧dP w a (t[k].flatMap kS)
theorem Fh.below {t:Tb} (h:Fh w cs t) (hb:Below w.heap.size w w'):Fh w' cs t:=
 ⟨h.sz,fun k hk=>by obtain⟨a,c,h1,h2,h3,h4,h5⟩:=h.at' k hk;exact⟨a,c,h1,h2,h3,h4,h5.below hb⟩⟩
theorem Fh.one {t:Tb} (h:Fh w cs t):cs.all (·.oneCell')=true:=by
 rw[Array.all_eq_true];intro i hi;obtain⟨a,c,h1,_⟩:=h.at' i (by have:=h.sz;omega);rw[Af hi] at h1;rw[aJ h1];rfl
theorem Cw (h:k<8) (hv:cs[k]?=some v) (w:World):(Instr.index 53 (.agg cs) (.int .i64 k)).run Tryz.prog w = .ok v w:=
 Dk underlying53 underlying51 UI (by kernel_rfl) _ k _ h hv _ w
theorem tab_agg:aggB (.array 8 51)=true:=rfl
theorem tab_size:(Tryz.prog.info? 53).map (·.size)=some 8:=by kernel_rfl
theorem GA {l:List En} (h:dP w a (l.flatMap kS)) (k:Nat) (hk:k<l.length):∃b off,a=some ⟨b,off,none⟩∧w.cell? ⟨b,off+k*3,none⟩=some (.int .i64 l[k].k)∧w.cell? ⟨b,off+k*3+1,none⟩=some (.int .i64 l[k].n)∧w.cell? ⟨b,off+k*3+2,none⟩=some (.bool l[k].w):=by
 obtain⟨b,off,ha,hc⟩:=h.elem fA (by decide) k hk;exact⟨b,off,ha,hc 0 _ rfl,hc 1 _ rfl,hc 2 _ rfl⟩
theorem FV (e:En) (w:World):Calls Tryz.prog 138 #[.agg #[.int .i64 e.k,.int .i64 e.n,.bool e.w]] w fun r w'=>r = .returned (.int .i64 (eX e))∧Below w.heap.size w w':=by
 go_enter func138,ntmps138;go_wp2
 all_goals go_ret
 all_goals refine⟨?_,(Below.refl _ _).alloc (ay _) _⟩
 all_goals go_light
 all_goals refine congrArg (fun z=>Ending.returned (.int .i64 z)) ?_
 all_goals simp only[eX]
 all_goals simp_all
 all_goals omega
theorem DY (t:Tb) (cs:Array Value) (w:World) (h:Fh w cs t):Calls Tryz.prog 112 #[.agg cs] w fun r w'=>r = .returned (.int .i64 (cB t))∧Below w.heap.size w w':=by
 go_enter func112,ntmps112;go_upto_region 1 with (fail);refine gB (fun W=>Code.wp _ _ _ _ W) fun W0 hd v hg => ?_;clear hg
 go_wp2_with (refine gz rfl 53 (.tmp 1) rfl w.heap.size 0 rfl cs.toList v.rd _ underlying53 tab_agg (by rw[iI,h.sz];exact tab_size) ?_)
 clear v
 go_loopw [10] (fun i wr => ∃k:Nat,k≤8∧i = .int .i64 k∧Below w.heap.size w wr∧∀i (hi:i<8),i<k→lI t[i]=0) (fun i _=>8-(intOf i).toNat)
 case atStart=>exact⟨0,aV _,rfl,hd,fun i _ h=>absurd h (dV _)⟩
 case round=>
  obtain⟨k,hk,rfl,n,y⟩:=hrel;have hp:=Lib.hid y;clear y hd
  by_cases hlt:k<8
  ·obtain⟨a,c,hb,hu,hl,hr,hh⟩:=h.at' k hlt;have hm:=fun W=>Cw hlt hb W;have hw:decide ((k:Int)<8)=true:=by simp;omega
   unfold maxLen at hl;clear hb
   by_cases h08:t[k].length=0∨t[k].length=8
   ·have H08:=Lib.hid h08;have q1:((t[k].length:Int) != 0)=true∧((t[k].length:Int) != 8)=false∨((t[k].length:Int) != 0)=false∧((t[k].length:Int) != 8)=true:=by rcases h08 with e|e<;>simp[e]
    clear h08;rcases q1 with ⟨q1,q2⟩|⟨q1,q2⟩
    all_goals
     go_wp2;clear hm
     go_loopw [23,5] (fun i s wr' => ∃j:Nat,j≤t[k].length∧i = .int .i64 j∧s = .bool (xU t[k] j)∧Below w.heap.size w wr'∧∀i (hi:i<t[k].length),i<j→eX t[k][i]=0) (fun i _ _=>t[k].length-(intOf i).toNat)
     case atStart=>exact⟨0,aV _,rfl,rfl,n,fun i _ h=>absurd h (dV _)⟩
     case round=>
      obtain⟨j,hj,rfl,rfl,g,x⟩:=hrel;have hq:=Lib.hid x;clear x n
      by_cases hjl:j<t[k].length
      ·obtain⟨b,off,rfl,c0,c1,c2⟩:=GA (hh.below g) j hjl
       go_wp2_with fail
       refine gB (fun W=>Calls _ _ _ W _) fun W3 hc u hf => ?_;have m:=ae g hc;clear g hf c0 c1 c2 hc;refine (FV t[k][j] _).mono ?_;rintro e w4 ⟨rfl,q⟩;have l:=ae m q;have ht:=(u.ext q).cell;clear u q m
       by_cases he:eX t[k][j]=0
       ·have ha:=FM t[k] j hjl;have hn:=Lib.hid he;rw[he];clear he;cases hs:xU t[k] j
        all_goals
         rw[hs] at ha;go_wp2;go_roundw
         case rel=>exact⟨j+1,by omega,by go_num,by rw[ha];first | rfl | (congr 1;rw[lT];simp),l,lN hq.out hjl hn.out⟩
         case measure=>simp[intOf];omega
       have hv:(eX t[k][j] != 0)=true:=by simpa using he
       have f:=Lib.hid (qK k hlt hp.out (by rw[zT H08.out j hjl hq.out he];exact he));have d:=Lib.hid (zT H08.out j hjl hq.out he);go_wp2;go_ret;exact⟨aT (f.out.trans d.out).symm,l⟩
      have o:=Lib.hid (xk H08.out fun i hi=>hq.out i hi (by omega));have p:=Lib.hid (JH t[k] j (by omega))
      by_cases hgo:0<t[k].length∧xU t[k] j=false
      ·obtain⟨g1,g2⟩:=hgo;have d:=Lib.hid (o.out.trans (if_pos ⟨g1,p.out▸g2⟩));have f:=Lib.hid (qK k hlt hp.out (by rw[d.out];decide));rw[g2];go_wp2;go_ret;exact⟨aT (f.out.trans d.out).symm,g⟩
      have d:=Lib.hid (o.out.trans (if_neg (fun h=>hgo ⟨h.1,p.out.trans h.2⟩)));have z:¬0<t[k].length∨0<t[k].length∧xU t[k] j=true:=by
       by_cases hz:0<t[k].length
       ·exact .inr ⟨hz,by simpa[hz] using hgo⟩
       ·exact .inl hz
      clear hgo;rcases z with g1|⟨g1,g2⟩
      ·go_wp2;go_roundw
       case rel=>exact⟨k+1,by omega,by go_num,g,lN hp.out hlt d.out⟩
       case measure=>simp[intOf];omega
      rw[g2];go_wp2;go_roundw
      case rel=>exact⟨k+1,by omega,by go_num,g,lN hp.out hlt d.out⟩
      case measure=>simp[intOf];omega
   have q1:((t[k].length:Int) != 0)=true:=by rw[bne_iff_ne];omega
   have q2:((t[k].length:Int) != 8)=true:=by rw[bne_iff_ne];omega
   have d:=Lib.hid (yh (h:=t[k]) (by omega));have f:=Lib.hid (qK k hlt hp.out (by rw[d.out];decide));go_wp2;go_ret;exact⟨aT (f.out.trans d.out).symm,n⟩
  have f:=Lib.hid (wH fun i hi=>hp.out i hi (by omega));go_wp2;go_ret;exact⟨aT f.out.symm,n⟩
theorem entry_info:(Tryz.prog.info? 89).map (fun i=>(i.zero,i.size,i.bytes))=some (some (.agg #[.int .i64 0,.int .i64 0,.bool false]),3,24):=by kernel_rfl
theorem sP (l:List En):(l.flatMap kS).length=l.length*3:=Pw.flat_len kS 3 fA l
theorem iO (f:En):(jw f).all (·.oneCell')=true:=by simp[jw,Value.oneCell']
theorem BI (l:List En):∀u∈l.flatMap kS,u.oneCell' = true:=by
 intro u hu;obtain⟨f,_,hf⟩:=jP.1 hu;have:=iO f;rw[←jV,dK] at this;exact this u hf
theorem Fq (l:List En) (a:Option Addr) (c:Nat) (w:World) (hle:l.length≤c) (hnil:a=none→c=0) (hrd:dP w a (l.flatMap kS)) (hb:l.length*24≤140737488355328) :
  Calls Tryz.prog 117 #[.slice a l.length c] w fun e w' => ∃v,e = .returned v∧Own w' w.heap.size 89 3 v l.length (l.flatMap kS)∧Below w.heap.size w w':=by
 cases a with
 | none=>
  have h0:=hnil rfl;have hl:l=[]:=jM (by omega);subst hl;subst h0;have hq:=fun W=>lV (P:=Tryz.prog) W 51 _ none 0 0 0 0 underlying51;go_enter func117,ntmps117;go_wp2;go_ret;exact⟨_,rfl,by simpa using Own.nil _ _ _ _,Below.refl _ _⟩
 | some ad=>
  have hq:=fun W=>lV (P:=Tryz.prog) W 51 _ (some ad) l.length c 0 0 underlying51;go_enter func117,ntmps117
  go_wp2_with (at_builtin;go_must (refine fq rfl _ _ 51 rfl w.heap.size 89 (.agg #[.int .i64 0,.int .i64 0,.bool false]) 3 24 underlying51 entry_info rfl (by decide) _ 0 [] rfl ?own (some ad) l.length c (l.flatMap kS) rfl (fun h=>(by cases h)) hle (sP l) ?rd (BI l) (by unfold maxLen;omega) (by simpa using hb) ?bb ?k))
  case own=>exact⟨rfl,.inr ⟨w.heap.size,0,0,#[],rfl,ay _,aB.new _ _ _,ay _,aV _,by simp,fun j u h=>by simp at h⟩⟩
  case rd=>exact hrd.below ((Below.refl _ _).alloc (ay _) _)
  case bb=>exact fZ _ _
  intro v w1 b d;go_wp2;go_ret;exact⟨v,rfl,by simpa using b,((Below.refl _ _).alloc (ay _) _).grown d (fZ _ _) (fun k hk=>by cases hk;exact ay _)⟩
structure qG (w:World) (B:Nat) (cs:Array Value) (t:Tb):Prop where
 sz:cs.size=8
 own:∀k (h:k<8),∃v,cs[k]?=some v∧Own w B 89 3 v t[k].length (t[k].flatMap kS)
 apart:∀(j k:Nat) (v u:Value),j<k→cs[j]?=some v→cs[k]?=some u→∀g,v.ownBlock=some g→u.ownBlock≠some g
theorem qG.rd {t:Tb} (h:qG w B cs t):Fh w cs t:=
 ⟨h.sz,fun k hk=>by obtain⟨v,h1,h2⟩:=h.own k hk;obtain⟨a,c,rfl,h3,h4,h5,h6⟩:=h2.rd;exact⟨a,c,h1,h3,h4,h5,h6⟩⟩
theorem qG.below {t:Tb} (h:qG w B cs t) (hb:Below w.heap.size w w'):qG w' B cs t:=
 ⟨h.sz,fun k hk=>by obtain⟨v,h1,h2⟩:=h.own k hk;exact⟨v,h1,h2.below hb⟩,h.apart⟩
theorem qG.mono {t:Tb} (h:qG w B cs t) (hB:B'≤B):qG w B' cs t:=
 ⟨h.sz,fun k hk=>by obtain⟨v,h1,h2⟩:=h.own k hk;exact⟨v,h1,h2.mono hB⟩,h.apart⟩
theorem qG.keep {t:Tb} (h:qG w B cs t) (hk:aB w g cs' T) (hT:T≠89) (hgr:w.grownBy w' (some g)):qG w' B cs t:=
 ⟨h.sz,fun k hk'=>by obtain⟨v,h1,h2⟩:=h.own k hk'; exact⟨v,h1,ak h2 hk hT hgr⟩,h.apart⟩
structure TE (w:World) (B:Nat) (cs ca:Array Value) (t:Tb) (k:Nat):Prop where
 sz:ca.size=8
 old:∀i,k≤i→ca[i]?=cs[i]?
 own:∀i (h:i<8),i<k→∃v,ca[i]?=some v∧Own w B 89 3 v t[i].length (t[i].flatMap kS)
 apart:∀(j i:Nat) (v u:Value),j<i→i<k→ca[j]?=some v→ca[i]?=some u→∀g,v.ownBlock=some g→u.ownBlock≠some g
theorem TE.start {t:Tb} (h:cs.size=8):TE w B cs cs t 0:=⟨h,fun _ _=>rfl,fun _ _ h=>absurd h (dV _),fun _ _ _ _ _ h=>absurd h (dV _)⟩
theorem LH (h:Own w B e sz v n xs) (g:Nat) (hg:v.ownBlock=some g):g<w.heap.size:=by
 obtain⟨cs,hb⟩:=kQ h g hg;exact hb.lt
theorem TE.step {t:Tb} (h:TE w B cs ca t k) (hB:B≤w.heap.size) (hk:k<8) (hb:Below w.heap.size w w4) (ho:Own w4 w.heap.size 89 3 v t[k].length (t[k].flatMap kS))
 (hblk:aB w4 b ca T) (hT:T≠89) (hg:w4.grownBy w5 (some b)):TE w5 B cs (ca.setIfInBounds k v) t (k+1) where
 sz:=by simp[h.sz]
 old:=fun i hi=>by rw[fQ (by omega)];exact h.old i (by omega)
 own:=fun i hi l=>by
  by_cases e:i=k
  ·subst e;exact⟨v,by rw[qW (by rw[h.sz];exact hi)],ak (ho.mono hB) hblk hT hg⟩
  obtain⟨u,h1,h2⟩:=h.own i hi (by omega);exact⟨u,by rw[fQ (by omega)];exact h1,ak (h2.below hb) hblk hT hg⟩
 apart:=fun j i x y d hi hx hy g c a=>by
  have f:j≠k:=by omega
  rw[fQ (by omega)] at hx
  by_cases e:i=k
  ·subst e;rw[qW (by rw[h.sz];exact hk)] at hy;cases hy;have h1:=ho.ge g a;obtain⟨u,h2,h3⟩:=h.own j (by omega) (by omega);rw[h2] at hx;cases hx;have:=LH h3 g c;omega
  rw[fQ (by omega)] at hy;exact h.apart j i x y d (by omega) hx hy g c a
theorem TE.fin {t:Tb} (h:TE w B cs ca t 8):qG w B ca t:=
 ⟨h.sz,fun k hk=>h.own k hk hk,fun j k v u hjk h1 h2=>h.apart j k v u hjk (by
  rcases fG k 8 with hk|hk
  ·exact hk
  ·rw[lg (by rw[h.sz];exact hk)] at h2;cases h2) h1 h2⟩
theorem JL (t:Tb) (cs:Array Value) (w:World) (h:Fh w cs t) (hz:Fu t):Calls Tryz.prog 77 #[.agg cs] w fun r w' => ∃cs',r = .returned (.agg cs')∧qG w' w.heap.size cs' t∧Below w.heap.size w w':=by
 go_enter func77,ntmps77;go_upto_region 1 with (fail);refine rE (fun W=>Code.wp _ _ _ _ W) fun W0 hb s m hf => ?_;clear hf
 go_wp2_with (refine gz rfl 53 (.tmp 1) rfl w.heap.size 0 rfl cs.toList s.rd _ underlying53 tab_agg (by rw[iI,h.sz];exact tab_size) ?_)
 have hc:TE W0 w.heap.size cs cs t 0:=TE.start h.sz
 go_loopw [6] (fun i wr => ∃(k:Nat) (ca:Array Value),k≤8∧i = .int .i64 k∧Below w.heap.size w wr∧aB wr w.heap.size ca 53∧aB wr (w.heap.size+1) #[.slice none 0 0,.slice none 0 0,.slice none 0 0,.slice none 0 0,.slice none 0 0,.slice none 0 0,.slice none 0 0,.slice none 0 0] 53∧TE wr w.heap.size cs ca t k) (fun i _=>8-(intOf i).toNat)
 case atStart=>exact⟨0,cs,aV _,rfl,hb,s,m,hc⟩
 case round=>
  obtain⟨k,ca,hk,rfl,g,hx,f,hM⟩:=hrel;clear hb s m hc
  by_cases hlt:k<8
  ·obtain⟨a,c,x,hi,hn,z,hg⟩:=h.at' k hlt;have hj:=fun W=>Cw hlt x W;have hq:decide ((k:Int)<8)=true:=by simp;omega
   have ha:=(hM.old k (ay _)).trans x;have HCA:=Lib.hid ha;clear ha x
   go_wp2_with fail
   refine (Fq t[k] a c _ hi z (hg.below g) (hz k hlt)).mono ?_;rintro e w4 ⟨v,rfl,ho,o⟩;have d:=ae g o;have j:=hx.ext o;have l:=f.ext o;have hr:=(j.cell k).trans HCA.out;have hp:=j.free k;have n:=aG w4 w.heap.size k [v];have hm:=hM.step g.size hlt o ho j (by decide) n;have hd:aB (w4.setCell ⟨w.heap.size,k,none⟩ v) w.heap.size (ca.setIfInBounds k v) 53:=j.setCell k v;have u:=l.setCell_other ⟨w.heap.size,k,none⟩ v (by simp);have b:Below w.heap.size w (w4.setCell ⟨w.heap.size,k,none⟩ v):=d.grown n d.size (fun k hk=>by cases hk;exact ay _);obtain⟨xa,xc,rfl,_⟩:=ho.rd;clear j l g hx f hM d o ho n hj;go_wp2;go_roundw
   case rel=>exact⟨k+1,_,by omega,by go_num,b,hd,u,hm⟩
   case measure=>simp[intOf];omega
  obtain rfl:k=8:=by omega
  have hO:=hM.fin;have y:=hO.rd.one;have p:=hM.sz
  go_wp2_with (first | (refine gz rfl 53 (.tmp 1) rfl w.heap.size 0 rfl ca.toList hx.rd _ underlying53 tab_agg (by rw[iI,p];exact tab_size) ?_) | (refine az rfl _ (.tmp 2) (.tmp 15) rfl (w.heap.size+1) ca rfl rfl _ _ f (by rw[p];rfl) (by rw[p];exact tab_size) y ?_))
  intro w5 hh q;have hl:=hO.keep f (by decide) q;have b:Below w.heap.size w w5:=g.grown q g.size (fun k hk=>by cases hk;omega);go_wp2;refine bodyPost_ret (v:=.agg ca) (results_cell_row results77 _ _ (w.heap.size+1) _ ca _ _ rfl hh underlying53 rfl (by rw[p];exact tab_size)) rfl ?_;exact⟨_,rfl,hl,b⟩
theorem entry_size:(Tryz.prog.info? 89).map (·.size)=some 3:=by kernel_rfl
theorem Sc {l:List En} (h:dP w a (l.flatMap kS)) (k:Nat) (hk:k<l.length):∃b off E,a=some ⟨b,off,none⟩∧l[k]?=some E∧w.cell? ⟨b,off+k*3,none⟩=some (.int .i64 E.k)∧w.cell? ⟨b,off+k*3+1,none⟩=some (.int .i64 E.n)∧w.cell? ⟨b,off+k*3+2,none⟩=some (.bool E.w):=by
 obtain⟨b,off,ha,h0,h1,h2⟩:=GA h k hk;exact⟨b,off,l[k],ha,aH hk,h0,h1,h2⟩
theorem zl (t:Tb) (cs:Array Value) (n:Int) (w:World) (h:Fh w cs t):Calls Tryz.prog 69 #[.agg cs,.int .i64 n] w fun r w'=>r = .returned (.agg (jw (dH t n)))∧Below w.heap.size w w':=by
 by_cases hn:0≤n∧n<64
 ·obtain⟨q,r,hq,hr,m,hm,hl⟩:=xz hn;have hg:=zu (t:=t) hq hr;rw[←m] at hg;have HG:=Lib.hid hg;have HN:=Lib.hid m;obtain⟨n0,n1⟩:=hn;have y:decide (n<0)=false:=by simp;omega
  have x:decide (64≤n)=false:=by simp;omega
  obtain⟨a,c,s,hj,z,hb,u⟩:=h.at' q hq;unfold maxLen at z;clear hg m;go_enter func69,ntmps69;go_upto_region 1 with (fail);refine rE (fun W=>Code.wp _ _ _ _ W) fun W0 i o f l => ?_;clear l;have ha:=(o.cell q).trans s;have p:=u.below i;have hf : (q:Int)<8:=by omega
  by_cases h8:t[q].length=8
  ·obtain⟨b,off,E,rfl,hE,c0,c1,c2⟩:=Sc p r (by omega);have e:dH t n=E:=by rw[HG.out,if_pos h8,aS,hE];rfl
   have HF:=Lib.hid e;have hd : (r:Int)<8:=by omega
   rw[h8] at ha;clear h8 s hE h e
   go_wp2_with (refine az rfl _ (.tmp 4) (.tmp 27) rfl (w.heap.size+1) (jw E) rfl rfl _ _ f rfl entry_size (iO _) ?_)
   all_goals
    intro w5 j g;have d:Below w.heap.size w w5:=i.grown g i.size (fun k hk=>by cases hk;omega);go_wp2;refine bodyPost_ret (v:=.agg (jw E)) (results_cell_row results69 _ _ (w.heap.size+1) _ _ _ _ rfl j underlying89 rfl entry_size) rfl ?_;exact⟨by rw[HF.out],d⟩
  have hh:((t[q].length:Int) != 8)=true:=by rw[bne_iff_ne];omega
  have e:dH t n=zEn:=by rw[HG.out,if_neg h8]
  have HF:=Lib.hid e;clear e
  go_wp2_with (refine az rfl _ (.tmp 4) (.tmp 19) rfl (w.heap.size+1) (jw zEn) rfl rfl _ _ f rfl entry_size (iO _) ?_)
  all_goals
   intro w5 j g;have d:Below w.heap.size w w5:=i.grown g i.size (fun k hk=>by cases hk;omega);go_wp2;refine bodyPost_ret (v:=.agg (jw zEn)) (results_cell_row results69 _ _ (w.heap.size+1) _ _ _ _ rfl j underlying89 rfl entry_size) rfl ?_;exact⟨by rw[HF.out],d⟩
 have e:dH t n=zEn:=qN (by omega);have HF:=Lib.hid e;have hi : n<0∨64≤n:=by omega
 clear e hn;go_enter func69,ntmps69;go_upto_region 1 with (fail);refine rE (fun W=>Code.wp _ _ _ _ W) fun W0 i o f l => ?_;clear l
 by_cases y:n<0
 ·skip
  go_wp2_with (refine az rfl _ (.tmp 4) (.tmp 19) rfl (w.heap.size+1) (jw zEn) rfl rfl _ _ f rfl entry_size (iO _) ?_)
  all_goals
   intro w5 j g;have d:Below w.heap.size w w5:=i.grown g i.size (fun k hk=>by cases hk;omega);go_wp2;refine bodyPost_ret (v:=.agg (jw zEn)) (results_cell_row results69 _ _ (w.heap.size+1) _ _ _ _ rfl j underlying89 rfl entry_size) rfl ?_;exact⟨by rw[HF.out],d⟩
 have x:64≤n:=by omega
 have hc : decide (n<0)=false:=by simp;omega
 go_wp2_with (refine az rfl _ (.tmp 4) (.tmp 19) rfl (w.heap.size+1) (jw zEn) rfl rfl _ _ f rfl entry_size (iO _) ?_)
 all_goals
  intro w5 j g;have d:Below w.heap.size w w5:=i.grown g i.size (fun k hk=>by cases hk;omega);go_wp2;refine bodyPost_ret (v:=.agg (jw zEn)) (results_cell_row results69 _ _ (w.heap.size+1) _ _ _ _ rfl j underlying89 rfl entry_size) rfl ?_;exact⟨by rw[HF.out],d⟩
theorem slent_size:(Tryz.prog.info? 51).map (·.size)=some 1:=by kernel_rfl
theorem Ap (e:En):∀u∈kS e,u.oneCell' = true:=by
 intro u hu;have:=iO e;rw[←jV,dK] at this;exact this u hu
theorem Tu (e:En) (w:World):Calls Tryz.prog 140 #[.agg #[.int .i64 e.k,.int .i64 e.n,.bool e.w]] w fun r w'=>r = .returned (.bool (oN e))∧Below w.heap.size w w':=by
 go_enter func140,ntmps140;go_wp2;go_ret;exact⟨bK (by unfold oN;rw[lT];simp),(Below.refl _ _).alloc (ay _) _⟩
theorem Ou (l:List En) (a:Option Addr) (c:Nat) (w:World) (hrd:dP w a (l.flatMap kS)) (hl:l.length≤9223372036854775807) :
  Calls Tryz.prog 149 #[.slice a l.length c,.func (.func 140) #[] #[]] w fun e w'=>e = .returned (.int .i64 (idx oN l))∧Below w.heap.size w w':=by
 go_enter func149,ntmps149;go_wp2
 go_loopw [8] (fun i wr => ∃k:Nat,k≤l.length∧i = .int .i64 k∧Below w.heap.size w wr∧∀i (h:i<l.length),i<k→oN l[i]=false) (fun i _=>l.length-(intOf i).toNat)
 case atStart=>exact⟨0,aV _,rfl,Below.refl _ _,fun i _ h=>absurd h (dV _)⟩
 case round=>
  obtain⟨k,hk,rfl,g,m⟩:=hrel;have hp:=Lib.hid m;clear m
  by_cases hlt:k<l.length
  ·obtain⟨b,off,rfl,c0,c1,c2⟩:=GA (hrd.below g) k hlt
   go_wp2_with fail
   refine (Tu l[k] _).mono ?_;rintro e w2 ⟨rfl,n⟩;have f:=ae g n;clear n;cases hpk:oN l[k]
   ·have j:=Lib.hid hpk;clear hpk;go_wp2;go_roundw
    case rel=>exact⟨k+1,by omega,by go_num,f,lN hp.out hlt j.out⟩
    case measure=>simp[intOf];omega
   have d:=Lib.hid (tN oN l k hlt hp.out hpk);clear hpk;go_wp2;go_ret;exact⟨aT d.out.symm,f⟩
  have d:=Lib.hid (lc oN l fun i h=>hp.out i h (by omega));go_wp2;go_ret;exact⟨aT d.out.symm,g⟩
theorem Np (l:List En) (a:Option Addr) (c:Nat) (w:World) (hrd:dP w a (l.flatMap kS)) (hl:l.length≤9223372036854775807) :
  Calls Tryz.prog 139 #[.slice a l.length c,.func (.func 140) #[] #[]] w fun e w'=>e = .returned (.bool (l.any oN))∧Below w.heap.size w w':=by
 go_enter func139,ntmps139
 go_wp2_with fail
 refine (Ou l a c _ hrd hl).mono ?_;rintro e w2 ⟨rfl,b⟩;go_wp2;go_ret;exact⟨bK (nE _ _),b⟩
theorem yS (w:World) (B:Nat):qG w B #[.slice none 0 0,.slice none 0 0,.slice none 0 0,.slice none 0 0,.slice none 0 0,.slice none 0 0,.slice none 0 0,.slice none 0 0] zTb where
 sz:=rfl
 own:=fun k hk=>by
  refine⟨.slice none 0 0,?_,by simpa[zTb] using Own.nil w B 89 3⟩
  match k,hk with
  | 0,_=>rfl
  | 1,_=>rfl
  | 2,_=>rfl
  | 3,_=>rfl
  | 4,_=>rfl
  | 5,_=>rfl
  | 6,_=>rfl
  | 7,_=>rfl
 apart:=fun j k v u hjk h1 h2 g hg=>by
  have:v = .slice none 0 0:=by
   match j with
   | 0=>cases h1;rfl
   | 1=>cases h1;rfl
   | 2=>cases h1;rfl
   | 3=>cases h1;rfl
   | 4=>cases h1;rfl
   | 5=>cases h1;rfl
   | 6=>cases h1;rfl
   | 7=>cases h1;rfl
   | j+8=>cases h1
  subst this;cases hg
theorem qG.put {t:Tb} (h:qG w B cs t) (hq:q<8) {l:List En} (ho:Own w B 89 3 v l.length (l.flatMap kS))
 (hnew:∀g,v.ownBlock=some g→∀j u,j≠q→cs[j]?=some u→u.ownBlock≠some g):qG w B (cs.setIfInBounds q v) (t.set q l) where
 sz:=by simp[h.sz]
 own:=fun k hk=>by
  by_cases e:k=q
  ·subst e;exact⟨v,by rw[qW (by rw[h.sz];exact hk)],by simpa using ho⟩
  obtain⟨u,h1,h2⟩:=h.own k hk;exact⟨u,by rw[fQ (fun e2=>e e2.symm)];exact h1,by rw[wT hq hk (fun e2=>e e2.symm)];exact h2⟩
 apart:=fun j k x y c hx hy g b a=>by
  by_cases e:j=q
  ·subst e;rw[qW (by rw[h.sz];exact hq)] at hx;cases hx;rw[fQ (by omega)] at hy;exact hnew g b k y (by omega) hy a
  rw[fQ (fun e2=>e e2.symm)] at hx
  by_cases e2:k=q
  ·subst e2;rw[qW (by rw[h.sz];exact hq)] at hy;cases hy;exact hnew g a j x e hx b
  rw[fQ (fun e3=>e2 e3.symm)] at hy;exact h.apart j k x y c hx hy g b a
theorem qG.wr {t:Tb} (h:qG w B cs t) (hq:q<8) (hr:r<t[q].length) :
  ∃g off cap cur,cs[q]?=some (.slice (some ⟨g,off,none⟩) t[q].length cap)∧B≤g∧aB w g cur 89∧off+r*3+3≤cur.size ∧
   (∀j y,(kS (t[q][r]))[j]?=some y→w.cell? ⟨g,off+r*3+j,none⟩=some y) ∧
   ∀w' x,aB w' g (bB cur (off+r*3) (kS x)) 89→w.grownBy w' (some g)→qG w' B cs (t.set q (t[q].set r x)):=by
 obtain⟨v,h1,h2⟩:=h.own q hq;obtain⟨g,off,cap,cur,rfl,hB,hb,d,a,b⟩:=h2.put fA (by decide) r hr;refine⟨g,off,cap,cur,h1,hB,hb,d,a,fun w' x i f=>⟨h.sz,fun k hk => ?_,h.apart⟩⟩
 by_cases e:k=q
 ·subst e;exact⟨_,h1,by simpa using b w' x i⟩
 obtain⟨u,h3,h4⟩:=h.own k hk;refine⟨u,h3,?_⟩;rw[wT hq hk (fun e2=>e e2.symm)];refine h4.grown f fun g' c he => ?_;cases he;rcases vK e with hlt|hlt
 ·exact h.apart k q _ _ hlt h3 h1 g c rfl
 ·exact h.apart q k _ _ hlt h1 h3 g rfl c
theorem Sw (t:Tb) (cs:Array Value) (n:Int) (e:En) (w:World) (h:Fh w cs t) (hz:Fu t):Calls Tryz.prog 118 #[.agg cs,.int .i64 n,.agg (jw e)] w fun r w' => ∃cs',r = .returned (.tuple #[.agg cs',.int .i64 (setE t n e)])∧qG w' w.heap.size cs' (setT t n e)∧Below w.heap.size w w':=by
 go_enter func118,ntmps118;go_upto_region 1 with (fail);refine LD (fun W=>Code.wp _ _ _ _ W) fun W0 kA kr kL hY hT => ?_;clear hT
 go_wp2_with (refine gz rfl 53 (.tmp 3) rfl w.heap.size 0 rfl cs.toList kr.rd _ underlying53 tab_agg (by rw[iI,h.sz];exact tab_size) ?_)
 refine (DY t cs _ (h.below kA)).mono ?_;rintro r w1 ⟨rfl,kb⟩;have c:=ae kA kb;have hx:=kr.ext kb;have he:=kL.ext kb;have o:=hY.ext kb;clear kA kr kL hY kb
 by_cases h0:cB t=0
 ·have H0:=Lib.hid h0;rw[h0];clear h0
  by_cases hn:0≤n∧n<64
  ·obtain⟨q,r,hq,hr,kF,gf,kX⟩:=xz hn;have HN:=Lib.hid kF;clear kF;obtain⟨n0,n1⟩:=hn;have kw:decide (n<0)=false:=by simp;omega
   have kv:decide (64≤n)=false:=by simp;omega
   have ga : (q:Int)<8:=by omega
   have kT : (r:Int)<8:=by omega
   have kW:n.tmod 8=(r:Int):=by rw[Int.tmod_eq_emod_of_nonneg n0];exact kX
   go_wp2_with (refine gz rfl 89 (.tmp 5) rfl (w.heap.size+1) 0 rfl (jw e).toList he.rd _ underlying89 rfl entry_size ?_)
   refine (FV e _).mono ?_;rintro x w2 ⟨rfl,ka⟩;have i:=ae c ka;have kC:=hx.ext ka;have kK:=he.ext ka;have hl:=o.ext ka;clear c hx he o ka
   by_cases h1:eX e=0
   ·have hT:setE t n e=0:=by unfold setE;rw[if_neg (by rw[H0.out];simp),if_neg (by omega),h1]
    have HS:=Lib.hid hT;have hJ:=Lib.hid (NW hT hq hr HN.out);rw[h1];clear h1 hT
    go_wp2_with (refine gz rfl 53 (.tmp 3) rfl w.heap.size 0 rfl cs.toList kC.rd _ underlying53 tab_agg (by rw[iI,h.sz];exact tab_size) ?_)
    refine (JL t cs _ (h.below i) hz).mono ?_;rintro x w3 ⟨ca,rfl,kj,kh⟩;have f:=ae i kh;have kJ:=kK.ext kh;have hi:=hl.ext kh;have kk:=kj.rd.one;have hR:=kj.sz;have ko:=kj.mono i.size;clear i kC kK hl kh kj
    go_wp2_with (refine az rfl _ (.tmp 10) (.tmp 32) rfl w3.heap.size ca rfl rfl _ _ (aB.new _ _ _) (by rw[hR];rfl) (by rw[hR];exact tab_size) kk ?_)
    intro w4 hN hy;have hO:=(ko.below ((Below.refl _ _).alloc (ay _) _)).keep (aB.new _ _ _) (by decide) hy;have ke:=bq (kJ.alloc _) (aB.new _ _ _) (by decide) hy;have hh:aB w4 (w.heap.size+2) _ _:=(hi.alloc _).grown hy (fun e=>by have:=aJ e;have:=hi.lt;omega);have z:Below w.heap.size w w4:=(f.alloc f.size _).grown hy (cZ f.size _) (fun k hk=>by cases hk;exact f.size);have gd:w.heap.size+2<w3.heap.size:=hi.lt;have ge:w3.heap.size<w4.heap.size:=hN.lt;clear kJ hi hy ko kk;have h6:=oL (lF H0.out q hq);obtain⟨v,hv,h5⟩:=hO.own q hq;obtain⟨av,cv,rfl,k5,k4,_⟩:=h5.rd;have HV:=Lib.hid hv;have kg:=(hN.cell q).trans hv;rcases h6 with h0|h8
    case' inl=>
     have H00:=Lib.hid h0;rw[h0] at kg;clear hv h5 h0
     go_wp2_with (refine uy _ rfl (.const (.int .i64 8)) (.const (.int .i64 8)) 51 rfl kS 89 _ 3 24 zEn fA (by decide) underlying51 entry_info rfl .i64 .i64 8 8 8 rfl rfl rfl rfl (by omega) (by unfold maxLen;omega) ?_)
     intro w5 kE b;have hQ:=hN.grown b (by simp);have kI:=ke.grown b (by simp);have hX:=hh.grown b (by simp);have kO:qG w5 w.heap.size ca t:=hO.below (jZ b);have a:=ae z (jZ b);have km:∀g,(Value.slice (some ⟨w4.heap.size,0,none⟩) 8 8).ownBlock=some g→∀j u,j≠q→ca[j]?=some u→u.ownBlock≠some g:=by
      intro g hg j u hj hu kV;cases hg;obtain⟨v',kD,kU⟩:=hO.own j (by
       rcases fG j 8 with hk|hk
       ·exact hk
       ·rw[lg (by rw[hR];exact hk)] at hu;cases hu)
      rw[hu] at kD;cases kD;exact absurd (LH kU _ kV) (Nat.lt_irrefl _)
     go_wp2_with (refine aA rfl _ (.tmp 43) (.tmp 42) rfl w3.heap.size q _ [.slice (some ⟨w4.heap.size,0,none⟩) 8 8] rfl rfl rfl _ _ hQ (by rw[hR];exact hq) slent_size (fun u hu=>by cases bv.1 hu;rfl) ?_)
     intro w6 hc ha;rw[Pw.putAt_one] at hc;have kl : Own w5 w.heap.size 89 3 (.slice (some ⟨w4.heap.size,0,none⟩) 8 8) (List.replicate 8 zEn).length ((List.replicate 8 zEn).flatMap kS):=kE.mono z.size;have hp:=(kO.keep hQ (by decide) ha).put hq (ak kl hQ (by decide) ha) km;have kz:=bq kI hQ (by decide) ha;have hD:aB w6 (w.heap.size+2) _ _:=hX.grown ha (fun e=>by have:=aJ e;omega);have hI:=a.grown ha a.size (fun k hk=>by cases hk;exact f.size);have kf:(ca.setIfInBounds q (Value.slice (some ⟨w4.heap.size,0,none⟩) 8 8))[q]?=some (.slice (some ⟨w4.heap.size,0,none⟩) 8 8):=qW (by rw[hR];exact hq);have HH:Hid (∀l,(t.set q (List.replicate 8 zEn)).set q l=t.set q l):=Lib.hid (fun l=>by simp);have HL:Hid ((t.set q (List.replicate 8 zEn))[q]=(if t[q].length=0 then List.replicate 8 zEn else t[q])):=Lib.hid (by rw[if_pos H00.out];simp);have HL8:Hid ((t.set q (List.replicate 8 zEn))[q].length=8):=Lib.hid (by simp);go_upto_region 13 with (fail);generalize hT6:t.set q (List.replicate 8 zEn)=t6 at HH HL HL8 hp;generalize hC6:ca.setIfInBounds q (Value.slice (some ⟨w4.heap.size,0,none⟩) 8 8)=c6 at kf hp hc;have kR:=hc.lt;clear hT6 hC6 hQ kI hX kO a b ha km kE kl hN ke hh hO z kg kw kv
    case' inr=>
     have hc:=hN;have kz:=ke;have hD:=hh;have hp:=hO;have hI:=z;have kf:=HV.out;have kM:=kg;rw[h8] at kM;have HL:Hid (t[q]=(if t[q].length=0 then List.replicate 8 zEn else t[q])):=Lib.hid (by rw[if_neg (by omega)]);have HL8:Hid (t[q].length=8):=Lib.hid h8;have gc:((8:Int)==0)=false:=by decide
     clear h8 hv h5 kg;go_upto_region 13 with (fail);generalize hT6:t[q]=tq at HL HL8;obtain⟨t6,kc⟩:∃t6,t6=t:=⟨_,rfl⟩;have HH:Hid (∀l:List En,t6.set q l hq=t.set q l hq):=Lib.hid (fun l=>by rw[kc]);have HL:Hid (t6[q]=(if t[q].length=0 then List.replicate 8 zEn else t[q])):=Lib.hid (by rw[kc,hT6];exact HL.out);have HL8:Hid (t6[q].length=8):=Lib.hid (by rw[kc,hT6];exact HL8.out);have hp:qG w4 w.heap.size ca t6:=by rw[kc];exact hp
     have kR:=hc.lt;obtain⟨c6,hC6⟩:∃c6,c6=ca:=⟨_,rfl⟩;rw[←hC6] at kf hp hc;clear hT6 kc hC6 hN ke hh hO z kM kw kv
    all_goals
     obtain⟨g,off,cap,cur,kx,k1,kZ,k7,_,hJ⟩:=hp.wr hq (r:=r) (by rw[HL8.out];exact hr);rw[HL8.out] at kx;clear kf;have HGV:=Lib.hid kx;clear kx;refine aM 7 [_,_,_,_,_,_,.v (.pointer (some ⟨g,off+r*3,none⟩))] (Gk rfl (Gk rfl (Gc (.slice (some ⟨g,off,none⟩) 8 cap) (fun W hb=>by simp[(((hc.ext hb).cell q).trans HGV.out),underlying51]) rfl rfl rfl rfl (Gk rfl (Gb (.int .i64 r) (by simp[go_sem,kW]) rfl rfl rfl rfl rfl (Gr (.agg (jw e)) (fun ρ y W hb k0=>(dL rfl (aF rfl k0) (kz.ext hb) underlying89 rfl entry_size)) rfl rfl (ag ?_ (aC)))))))) (fun _=>rfl) rfl ?_
     ·intro ρ y W hw hn hb hd;have k3:=hw 46 2 rfl;have h2:y 2=_:=hd 2 rfl;have k2:=hw 48 4 rfl;have h4:y 4=_:=hd 4 rfl;refine aj (.pointer (some ⟨g,off+r*3,none⟩)) (ah rfl) (by simp[execOp,go_sem,k3,h2,k2,h4,underlying51,kT]) rfl
     intro y WA hA _;have kq:=hc.ext hA;have hV:=hD.ext hA;have hH:=ae hI hA;have k9:w3.heap.size<WA.heap.size:=kq.lt;clear kZ hJ;obtain⟨g2,off2,cap2,cur2,kn,k8,hL,ky,_,hS⟩:=(hp.below hA).wr hq (r:=r) (by rw[HL8.out];exact hr);have kP:=aJ (HGV.out.symm.trans kn);simp only[lU,iY,vM,and_true] at kP;obtain⟨⟨rfl,rfl⟩,kG,rfl⟩:=kP;clear kn kG hc hD hI hA
     go_wp2_with (refine aA rfl _ (.tmp 50) (.tmp 49) rfl g (off+r*3) _ (kS e) rfl rfl rfl _ _ hL ky entry_size (Ap e) ?_)
     intro w8 kN ht;have ki:=hS w8 e kN ht;have kp:=bq kq hL (by decide) ht;have hU:=bq hV hL (by decide) ht;have h7:=hH.grown ht hH.size (fun k hk=>by cases hk;exact k1);have kY:=(kp.cell q).trans HGV.out;have hC:Hid (t6.set q (t6[q].set r e)=t.set q (t6[q].set r e)):=Lib.hid (HH.out _);have h6:Hid ((t6[q].set r e).length=8):=Lib.hid (by rw[bH];exact HL8.out);have hZ:dP w8 (some ⟨g,off,none⟩) ((t6[q].set r e).flatMap kS):=by obtain⟨v,h1,h2⟩:=ki.own q hq;obtain rfl:=aJ (HGV.out.symm.trans h1);obtain⟨a',c',h3,_,_,_,h4⟩:=h2.rd;simp only[lU] at h3;obtain⟨rfl,_,_⟩:=h3;simpa using h4
     have hB:Hid (setH t[q] r e=if (t6[q].set r e).any oN then t6[q].set r e else []):=Lib.hid (by rw[HL.out];rfl);clear kq hV hH hL kN ht hS hp kz;generalize hl8e:t6[q].set r e=l8 at hC h6 hZ hB ki;clear hl8e;have HC:∀W,dP W (some ⟨g,off,none⟩) (l8.flatMap kS)→Calls Tryz.prog 139 #[.slice (some ⟨g,off,none⟩) 8 cap,.func (.func 140) #[] #[]] W fun e w'=>e = .returned (.bool (l8.any oN))∧Below W.heap.size W w':=by intro W hW;have:=Np l8 (some ⟨g,off,none⟩) cap W hW (by rw[h6.out];decide);rw[h6.out] at this;exact this
     have HC':=Lib.hid HC;clear HC
     go_wp2_with fail
     refine (HC'.out _ hZ).mono ?_;rintro x w9 ⟨rfl,h9⟩;have hP:=kp.ext h9;have hf:=hU.ext h9;have s:=ae h7 h9;have kd:=ki.below h9;have kQ:=kd.sz;clear kp hU h7 ki hZ h9 kY;cases hk:l8.any oN
     ·have kH:Hid (t.set q (setH t[q] r e)=t.set q []):=Lib.hid (by rw[hB.out,hk];rfl);have ku:∀u∈[Value.slice none 0 0],u.oneCell' = true:=fun u hu=>by cases bv.1 hu;rfl
      clear hB
      go_wp2_with (refine aA rfl _ (.tmp 57) (.const (.slice none 0 0)) rfl w3.heap.size q _ [.slice none 0 0] rfl rfl rfl _ _ hP (by rw[kQ];exact hq) slent_size ku ?_)
      intro wa hM hK;rw[Pw.putAt_one] at hM;have hm:=(kd.keep hP (by decide) hK).put hq (v:=.slice none 0 0) (l:=[]) (Own.nil _ _ _ _) (fun g hg=>by cases hg);have m:aB wa (w.heap.size+2) _ _:=hf.grown hK (fun e=>by have:=aJ e;omega);have p:=s.grown hK s.size (fun k hk=>by cases hk;exact f.size);have ks:Hid ((t6.set q l8).set q []=t.set q (setH t[q] r e)):=Lib.hid (by rw[hC.out,kH.out];simp);clear hP hf s kd hK;generalize hCa:c6.setIfInBounds q (Value.slice none 0 0)=ca2 at hm hM;clear hCa;have hF:=hm.rd.one;have d:=hm.sz
      go_wp2_with (first | (refine gz rfl 53 (.tmp 10) rfl w3.heap.size 0 rfl ca2.toList hM.rd _ underlying53 tab_agg (by rw[iI,d];exact tab_size) ?_) | (refine az rfl _ (.tmp 6) (.tmp 58) rfl (w.heap.size+2) ca2 rfl rfl _ _ m (by rw[d];rfl) (by rw[d];exact tab_size) hF ?_))
      intro wb kt hs;have kB:=hm.keep m (by decide) hs;have hG:=p.grown hs p.size (fun k hk=>by cases hk;omega);go_wp2;refine bodyPost_ret (v:=.tuple #[.agg ca2,.int .i64 0]) (eZ results118 _ _ (w.heap.size+2) _ _ _ _ rfl rfl kt underlying53 rfl (by rw[d];exact tab_size)) rfl ?_;exact⟨_,by rw[HS.out],by rw[hJ.out,←ks.out];exact kB,hG⟩
     have ks:Hid (t6.set q l8=t.set q (setH t[q] r e)):=Lib.hid (by rw[hC.out,hB.out,hk];rfl);have hm:=kd;have hM:=hP;have m:=hf;have p:=s;clear hP hf s kd hB;generalize hCa:c6=ca2 at hm hM;clear hCa;have hF:=hm.rd.one;have d:=hm.sz
     go_wp2_with (first | (refine gz rfl 53 (.tmp 10) rfl w3.heap.size 0 rfl ca2.toList hM.rd _ underlying53 tab_agg (by rw[iI,d];exact tab_size) ?_) | (refine az rfl _ (.tmp 6) (.tmp 58) rfl (w.heap.size+2) ca2 rfl rfl _ _ m (by rw[d];rfl) (by rw[d];exact tab_size) hF ?_))
     intro wb kt hs;have kB:=hm.keep m (by decide) hs;have hG:=p.grown hs p.size (fun k hk=>by cases hk;omega);go_wp2;refine bodyPost_ret (v:=.tuple #[.agg ca2,.int .i64 0]) (eZ results118 _ _ (w.heap.size+2) _ _ _ _ rfl rfl kt underlying53 rfl (by rw[d];exact tab_size)) rfl ?_;exact⟨_,by rw[HS.out],by rw[hJ.out,←ks.out];exact kB,hG⟩
   have q0:Hid (setE t n e=eX e∧eX e≠0):=Lib.hid ⟨by unfold setE;rw[if_neg (by rw[H0.out];simp),if_neg (by omega)],h1⟩;have gg : (eX e != 0)=true:=by simpa using h1
   have c:=i;have o:=hl;clear h1 i hl
   go_wp2_with (refine az rfl _ (.tmp 6) (.tmp 29) rfl (w.heap.size+2) #[.slice none 0 0,.slice none 0 0,.slice none 0 0,.slice none 0 0,.slice none 0 0,.slice none 0 0,.slice none 0 0,.slice none 0 0] rfl rfl _ _ o rfl tab_size (by simp[Value.oneCell']) ?_)
   all_goals
    intro w5 hE b;have a:Below w.heap.size w w5:=c.grown b c.size (fun k hk=>by cases hk;omega);go_wp2;refine bodyPost_ret (v:=.tuple #[.agg #[.slice none 0 0,.slice none 0 0,.slice none 0 0,.slice none 0 0,.slice none 0 0,.slice none 0 0,.slice none 0 0,.slice none 0 0],.int .i64 (eX e)]) (eZ results118 _ _ (w.heap.size+2) _ _ _ _ rfl rfl hE underlying53 rfl tab_size) rfl ?_;have q:=q0.out;exact⟨_,by rw[q.1],by rw[wo (by rw[q.1];exact q.2)];exact yS _ _,a⟩
  have q0:Hid (setE t n e=3∧(3:Int)≠0):=Lib.hid ⟨by unfold setE;rw[if_neg (by rw[H0.out];simp),if_pos (by omega)],by decide⟩;have gb : n<0∨64≤n:=by omega
  clear hn
  by_cases kw:n<0
  ·skip
   go_wp2_with (refine az rfl _ (.tmp 6) (.tmp 24) rfl (w.heap.size+2) #[.slice none 0 0,.slice none 0 0,.slice none 0 0,.slice none 0 0,.slice none 0 0,.slice none 0 0,.slice none 0 0,.slice none 0 0] rfl rfl _ _ o rfl tab_size (by simp[Value.oneCell']) ?_)
   all_goals
    intro w5 hE b;have a:Below w.heap.size w w5:=c.grown b c.size (fun k hk=>by cases hk;omega);go_wp2;refine bodyPost_ret (v:=.tuple #[.agg #[.slice none 0 0,.slice none 0 0,.slice none 0 0,.slice none 0 0,.slice none 0 0,.slice none 0 0,.slice none 0 0,.slice none 0 0],.int .i64 (3)]) (eZ results118 _ _ (w.heap.size+2) _ _ _ _ rfl rfl hE underlying53 rfl tab_size) rfl ?_;have q:=q0.out;exact⟨_,by rw[q.1],by rw[wo (by rw[q.1];exact q.2)];exact yS _ _,a⟩
  have kv:64≤n:=by omega
  have k6 : decide (n<0)=false:=by simp;omega
  go_wp2_with (refine az rfl _ (.tmp 6) (.tmp 24) rfl (w.heap.size+2) #[.slice none 0 0,.slice none 0 0,.slice none 0 0,.slice none 0 0,.slice none 0 0,.slice none 0 0,.slice none 0 0,.slice none 0 0] rfl rfl _ _ o rfl tab_size (by simp[Value.oneCell']) ?_)
  all_goals
   intro w5 hE b;have a:Below w.heap.size w w5:=c.grown b c.size (fun k hk=>by cases hk;omega);go_wp2;refine bodyPost_ret (v:=.tuple #[.agg #[.slice none 0 0,.slice none 0 0,.slice none 0 0,.slice none 0 0,.slice none 0 0,.slice none 0 0,.slice none 0 0,.slice none 0 0],.int .i64 (3)]) (eZ results118 _ _ (w.heap.size+2) _ _ _ _ rfl rfl hE underlying53 rfl tab_size) rfl ?_;have q:=q0.out;exact⟨_,by rw[q.1],by rw[wo (by rw[q.1];exact q.2)];exact yS _ _,a⟩
 have q0:Hid (setE t n e=cB t∧cB t≠0):=Lib.hid ⟨by unfold setE;rw[if_pos h0],h0⟩;have gh : (cB t != 0)=true:=by simpa using h0
 clear h0
 go_wp2_with (refine az rfl _ (.tmp 6) (.tmp 16) rfl (w.heap.size+2) #[.slice none 0 0,.slice none 0 0,.slice none 0 0,.slice none 0 0,.slice none 0 0,.slice none 0 0,.slice none 0 0,.slice none 0 0] rfl rfl _ _ o rfl tab_size (by simp[Value.oneCell']) ?_)
 all_goals
  intro w5 hE b;have a:Below w.heap.size w w5:=c.grown b c.size (fun k hk=>by cases hk;omega);go_wp2;refine bodyPost_ret (v:=.tuple #[.agg #[.slice none 0 0,.slice none 0 0,.slice none 0 0,.slice none 0 0,.slice none 0 0,.slice none 0 0,.slice none 0 0,.slice none 0 0],.int .i64 (cB t)]) (eZ results118 _ _ (w.heap.size+2) _ _ _ _ rfl rfl hE underlying53 rfl tab_size) rfl ?_;have q:=q0.out;exact⟨_,by rw[q.1],by rw[wo (by rw[q.1];exact q.2)];exact yS _ _,a⟩
theorem Kh (t:Tb) (cs:Array Value) (n:Int) (w:World) (h:Fh w cs t):Calls Tryz.prog 69 #[.agg cs,.int .i64 n] w fun r w'=>r = .returned (.agg #[.int .i64 (dH t n).k,.int .i64 (dH t n).n,.bool (dH t n).w])∧Below w.heap.size w w':=zl t cs n w h
theorem WG (E:En) (W:World):(Instr.field 89 (.agg #[.int .i64 E.k,.int .i64 E.n,.bool E.w]) 0).run Tryz.prog W = .ok (.int .i64 E.k) W:=by
 simp[Instr.field,go_sem];rfl
theorem yx (t:Tb) (cs:Array Value) (w:World) (h:Fh w cs t):Calls Tryz.prog 42 #[.agg cs] w fun r w' => ∃v,r = .returned v∧Own w' w.heap.size 3 1 v (aP t).length ((aP t).map fT)∧Below w.heap.size w w':=by
 go_enter func42,ntmps42;go_upto_region 1 with (fail);refine gB (fun W=>Code.wp _ _ _ _ W) fun W0 o n q => ?_;clear q;go_wp2;have c:Own W0 w.heap.size 3 1 (.slice none 0 0) (jr t 0).length ((jr t 0).map fT):=Own.nil _ _ _ _
 go_loopw [5,3] (fun i v wr => ∃k:Nat,k≤64∧i = .int .i64 k∧Below w.heap.size w wr∧aB wr w.heap.size cs 53∧Own wr w.heap.size 3 1 v (jr t k).length ((jr t k).map fT)) (fun i _ _=>64-(intOf i).toNat)
 case atStart=>exact⟨0,aV _,rfl,o,n,c⟩
 case round=>
  obtain⟨k,hk,rfl,e,hx,d⟩:=hrel;clear o n c;have u:=qO t k
  by_cases hlt:k<64
  ·have hd:decide ((k:Int)<64)=true:=by simp;omega
   go_wp2_with (refine gz rfl 53 (.tmp 1) rfl w.heap.size 0 rfl cs.toList hx.rd _ underlying53 tab_agg (by rw[iI,h.sz];exact tab_size) ?_)
   refine (Kh t cs k _ (h.below e)).mono ?_;rintro r w1 ⟨rfl,f⟩;have a:=ae e f;have m:=hx.ext f;have x:=WG (dH t k);have b:=d.below f;clear f e hx d;cases hk2:oN (dH t k)
   ·have s:((dH t k).k != 0)=false:=by simpa[oN] using hk2
    have hn:=Lib.hid (Mk hk2);clear hk2;go_wp2;go_roundw
    case rel=>exact⟨k+1,by omega,by go_num,a,m,by rw[hn.out];exact b⟩
    case measure=>simp[intOf];omega
   have s:((dH t k).k != 0)=true:=by simpa[oN] using hk2
   have hn:=Lib.hid (Kb hk2);clear hk2
   go_wp2_with (at_builtin;go_must (refine fq rfl _ _ 29 rfl w.heap.size 3 (.int .i64 0) 1 8 underlying29 int_info rfl (by decide) _ _ _ rfl (b.alloc _) (some ⟨w1.heap.size,0,none⟩) 1 1 [fT k] rfl (fun h=>(by cases h)) (ay _) rfl (dP.one _ _ _) (IE _ _) (by unfold maxLen;omega) (by omega) ?bb ?k))
   case bb=>exact cZ a.size _
   intro v2 w2 j g;have l:Below w.heap.size w w2:=(a.alloc a.size _).grown g (cZ a.size _) (fun k hk=>(b.ge k hk));have p:aB w2 w.heap.size cs 53:=kv (m.alloc _) (b.alloc _) (by decide) g;go_wp2;go_roundw
   case rel=>exact⟨k+1,by omega,by go_num,l,p,by rw[hn.out,jb,jH];exact j⟩
   case measure=>simp[intOf];omega
  obtain rfl:k=64:=by omega
  go_wp2;go_ret;exact⟨_,rfl,d,e⟩
theorem one_int1:∀x:Int,([fT x]:List Value).length=1:=fun _=>rfl
def Rz (B:Nat) (w0:World) (c1 c2 c3:Value) (p:Int→Bool):Prop:=∀(n:Int) (W:World),Below B w0 W→B≤W.heap.size→Calls Tryz.prog 151 #[.int .i64 n,c1,c2,c3] W fun e w'=>e = .returned (.bool (p n))∧Below W.heap.size W w'
theorem yK (h:Below B w0 w) (hB:B≤w.heap.size) (hb:Below w.heap.size w w'):Below B w0 w':=h.trans (hb.mono hB)
theorem Mm (l:List Int) (a:Option Addr) (c:Nat) (w:World) (hrd:dP w a (l.map fT)) (hl:l.length≤9223372036854775807) (B:Nat) (w0:World) (c1 c2 c3:Value) (p:Int→Bool) (hT:Rz B w0 c1 c2 c3 p) (hB0:Below B w0 w) (hBs:B≤w.heap.size) :
  Calls Tryz.prog 154 #[.slice a l.length c,.func (.func 151) #[] #[c1,c2,c3]] w fun e w'=>e = .returned (.int .i64 (idx p l))∧Below w.heap.size w w':=by
 go_enter func154,ntmps154;go_wp2
 go_loopw [8] (fun i wr => ∃k:Nat,k≤l.length∧i = .int .i64 k∧Below w.heap.size w wr∧∀i (h:i<l.length),i<k→p l[i]=false) (fun i _=>l.length-(intOf i).toNat)
 case atStart=>exact⟨0,aV _,rfl,Below.refl _ _,fun i _ h=>absurd h (dV _)⟩
 case round=>
  obtain⟨k,hk,rfl,f,m⟩:=hrel;have hp:=Lib.hid m;clear m
  by_cases hlt:k<l.length
  ·obtain⟨b,off,rfl,c0⟩:=jv (hrd.below f) k hlt
   go_wp2_with fail
   refine (hT l[k] _ (yK hB0 hBs f) (bi hBs f.size)).mono ?_;rintro e w2 ⟨rfl,n⟩;have g:=ae f n;clear n;cases hpk:p l[k]
   ·have j:=Lib.hid hpk;clear hpk;go_wp2;go_roundw
    case rel=>exact⟨k+1,by omega,by go_num,g,lN hp.out hlt j.out⟩
    case measure=>simp[intOf];omega
   have d:=Lib.hid (tN p l k hlt hp.out hpk);clear hpk;go_wp2;go_ret;exact⟨aT d.out.symm,g⟩
  have d:=Lib.hid (lc p l fun i h=>hp.out i h (by omega));go_wp2;go_ret;exact⟨aT d.out.symm,f⟩
theorem Mt (l:List Int) (v:Value) (B:Nat) (w0 w:World) (c1 c2 c3:Value) (p:Int→Bool) (ho:Own w B 3 1 v l.length (l.map fT)) (hl:l.length≤100000) (hT:Rz B w0 c1 c2 c3 p) (hB0:Below B w0 w) (hBs:B≤w.heap.size) :
  Calls Tryz.prog 150 #[v,.func (.func 151) #[] #[c1,c2,c3]] w fun e w' => ∃v',e = .returned v'∧Own w' B 3 1 v' (l.filter (fun x => !p x)).length ((l.filter (fun x => !p x)).map fT)∧Below B w w':=by
 obtain⟨a,c,rfl,hK,hm,hb,hr⟩:=ho.rd;unfold maxLen at hm;go_enter func150,ntmps150
 go_wp2_with fail
 refine (Mm l a c _ hr (by omega) B w0 c1 c2 c3 p hT hB0 hBs).mono ?_;rintro e w1 ⟨rfl,s⟩;have u:=ho.below s;have hp:Below B w w1:=s.mono hBs;have hf:B≤w1.heap.size:=bi hBs s.size;clear ho;rcases Bb p l with ⟨hi,hall⟩|⟨i0,hi0,hi,he0,hno⟩
 ·have hk:=Lib.hid (Ce.all hall);rw[hi];clear hall hi s;go_wp2;go_ret;rw[hk.out];exact⟨_,rfl,u,hp⟩
 have hx:=Lib.hid (Ce.start hi0 he0 hno);rw[hi];clear he0 hno hi s;have hB:((i0:Int) == -1)=false:=beq_eq_false_iff_ne.2 (by omega);cases a with
 | none=>have:=hb rfl;omega
 | some ad=>
  obtain⟨g,off,hC⟩:∃g off,ad=⟨g,off,none⟩:=by
   rcases u.2 with ⟨h,_⟩|⟨g,off,cap,cur,h,_⟩
   ·cases h
   ·exact⟨g,off,by cases h;rfl⟩
  subst hC;clear hr hb;go_wp2
  go_loopw [5,6] (fun s5 s6 wr => ∃(i j:Nat) (cur:List Int),s5 = .int .i64 i∧s6 = .int .i64 j∧Hid (Ce p l j i cur)∧Own wr B 3 1 (.slice (some ⟨g,off,none⟩) l.length c) l.length (cur.map fT)∧Below B w wr∧B≤wr.heap.size) (fun _ s6 _=>l.length-(intOf s6).toNat)
  case atStart=>exact⟨i0,i0+1,l,rfl,by go_num,hx,u,hp,hf⟩
  case round=>
   clear hx u hp hf hi0 hB;obtain⟨i,j,cur,rfl,rfl,hI,d,hG,m⟩:=hrel;have hM:=hI.out.lt;have hL:=hI.out.le;have z:=hI.out.len
   by_cases hlt:j<l.length
   ·have hv:j<cur.length:=by omega
    have ht:cur[j]=l[j]:=by have:=hI.out.rest j (ay _);rw[aH hv,aH hlt] at this;exact aJ this
    obtain⟨_,_,e2,_,_,_,hq⟩:=d.rd;simp only[lU] at e2;obtain⟨rfl,_,rfl⟩:=e2;obtain⟨_,_,e3,hc⟩:=jv hq j hv;simp only[iY,vM,and_true] at e3;obtain⟨rfl,rfl⟩:=e3;rw[ht] at hc;have n:=Lib.hid z;clear ht hq z;have b:=hT l[j] wr (hB0.trans hG) m;go_upto_region 8 with (fail);clear hc
    by_cases he:p l[j]=true
    ·have hn:=Lib.hid (hI.out.skip hlt he);rw[he] at b;clear he hI
     go_wp2_with fail
     refine b.mono ?_;rintro e w3 ⟨rfl,f⟩;have q:=d.below f;have ha:=yK hG m f;have t:=bi m f.size;clear d hG m b f;go_wp2;go_roundw
     case rel=>exact⟨i,j+1,cur,rfl,by go_num,hn,q,ha,t⟩
     case measure=>simp[intOf];omega
    have hj : p l[j]=false:=by simpa using he
    have hn:=Lib.hid (hI.out.keep hlt hj);rw[hj] at b;clear he hI hj
    go_wp2_with fail
    refine b.mono ?_;rintro e w3 ⟨rfl,f⟩;have q:=d.below f;have ha:=yK hG m f;have t:=bi m f.size;clear d hG m b f;rw[←iZ] at q;obtain⟨gb,offb,capb,curb,hA,hF,y,hw,o⟩:=mF one_int1 (by decide) n.out q i (by omega);cases hA;have hi0:(i:Int)<(l.length:Int):=by omega
    go_wp2_with (refine aA rfl _ (.tmp 33) (.tmp 32) rfl g (off+i) _ [fT l[j]] rfl rfl rfl curb 3 y (by simp;omega) int_size (IE _ _) ?_)
    intro w5 hs r;have hz:=o w5 l[j] (by rw[sH];exact hs);rw[iZ] at hz;have hD:=ha.grown r t (fun k hk=>by cases hk;exact hF);have hy:B≤w5.heap.size:=by have:=r.size;omega
    clear hs o y q ha r hw;go_wp2;go_roundw
    case rel=>exact⟨i+1,j+1,cur.set i l[j],by go_num,by go_num,hn,hz,hD,hy⟩
    case measure=>simp[intOf];omega
   have hi0:i<l.length:=by omega
   have hd:Hid (cur.take i=l.filter (fun x => !p x)):=by have:=hI.out.done;rw[iN (l:=l) (by omega)] at this;exact this
   have n:=Lib.hid z;have hN:(i:Int)≤(c:Int):=by omega
   have hH : (i:Int)≤(l.length:Int):=by omega
   obtain⟨cs,y,hw,hE⟩:∃cs,aB wr g cs 3∧off+l.length*1≤cs.size∧B≤g:=by
    rcases d.2 with ⟨h,_⟩|⟨g',off',cap',cur',h,h0,h2,h3,_,h4,_⟩
    ·cases h
    ·cases h;exact⟨cur',h2,by omega,h0⟩
   have hJ:=fun ty=>tQ (P:=Tryz.prog) wr 29 3 ty _ 1 8 underlying29 int_info (by decide) (by decide) g (off+i) (l.length-i) (c-i) (by omega) cs _ y (by simp[Value.cells];omega);rw[←iZ] at d;have hg:=fun w' vs=>Qw one_int1 (w':=w') (vs:=vs) d i n.out (by omega);simp only[iZ] at hg;rw[hd.out] at hg;have hu:Hid ((l.filter (fun x => !p x)).length=i):=by show (l.filter (fun x => !p x)).length=i;rw[←hd.out,lC,n.out];omega
   clear hI z d;go_wp2;go_ret;have hh:=fun vs=>hg (wr.setCells g (off+i) vs) vs (fun cur hc=>by rw[sH];exact hc.setCells vs _);rw[hu.out] at hh ⊢;exact⟨_,rfl,hh _,hG.grown (aG _ _ _ _) m (fun k hk=>by cases hk;exact hE)⟩
theorem Ld (t:Tb) (cs:Array Value) (kind k n:Int) (b1 b2 b3:Nat) (w:World) (h:Fh w cs t) (h1:aB w b1 cs 53) (h2:aB w b2 #[.int .i64 kind] 3) (h3:aB w b3 #[.int .i64 k] 3) :
  Calls Tryz.prog 151 #[.int .i64 n,.pointer (some ⟨b1,0,none⟩),.pointer (some ⟨b2,0,none⟩),.pointer (some ⟨b3,0,none⟩)] w fun r w'=>r = .returned (.bool (pW t kind k n))∧Below w.heap.size w w':=by
 go_enter func151,ntmps151
 go_wp2_with (refine gz rfl 53 (.tmp 1) rfl b1 0 rfl cs.toList h1.rd _ underlying53 tab_agg (by rw[iI,h.sz];exact tab_size) ?_)
 refine (zl t cs n _ h).mono ?_;rintro r w1 ⟨rfl,a⟩;have o:=(h2.ext a).cell;have l:=(h3.ext a).cell;have u:=h2.lt;have s:=h3.lt;have v:=a.size;generalize hE:dH t n=E;have f:Hid (pW t kind k n=(decide (E.k≠kind)||decide (E.n≠k))):=Lib.hid (by unfold pW;rw[hE]);clear hE
 by_cases hk:E.k=kind
 ·have p:(E.k != kind)=false:=by simp[hk]
  have c:Hid (pW t kind k n=(E.n != k)):=Lib.hid (by rw[f.out,lT];simp[hk]);clear hk f
  go_wp2_with (refine aA rfl _ (.tmp 6) (.tmp 9) rfl w1.heap.size 0 _ (kS E) rfl rfl rfl _ _ (aB.new _ _ _) (ay 3) entry_size (Ap E) ?_)
  intro w2 i b;have g : aB w2 w1.heap.size (jw E) 89:=by simpa[bB,kS,jw] using i
  have q:=g.cell;have m:=(((h2.ext a).alloc _).grown b (fun e=>by have:=aJ e;omega)).cell;have j:=(((h3.ext a).alloc _).grown b (fun e=>by have:=aJ e;omega)).cell;have d:Below w.heap.size w w2:=(a.alloc a.size _).grown b (cZ a.size _) (fun k hk=>by cases hk;exact a.size);have e0:(jw E)[0]?=some (.int .i64 E.k):=rfl;have e1:(jw E)[1]?=some (.int .i64 E.n):=rfl;clear o l i;go_wp2;go_ret;exact⟨bK c.out.symm,d⟩
 have p:(E.k != kind)=true:=by simpa using hk
 have c:Hid (pW t kind k n=true):=Lib.hid (by rw[f.out];simp[hk]);clear hk f
 go_wp2_with (refine aA rfl _ (.tmp 6) (.tmp 9) rfl w1.heap.size 0 _ (kS E) rfl rfl rfl _ _ (aB.new _ _ _) (ay 3) entry_size (Ap E) ?_)
 intro w2 i b;have g : aB w2 w1.heap.size (jw E) 89:=by simpa[bB,kS,jw] using i
 have q:=g.cell;have m:=(((h2.ext a).alloc _).grown b (fun e=>by have:=aJ e;omega)).cell;have j:=(((h3.ext a).alloc _).grown b (fun e=>by have:=aJ e;omega)).cell;have d:Below w.heap.size w w2:=(a.alloc a.size _).grown b (cZ a.size _) (fun k hk=>by cases hk;exact a.size);have e0:(jw E)[0]?=some (.int .i64 E.k):=rfl;have e1:(jw E)[1]?=some (.int .i64 E.n):=rfl;clear o l i;go_wp2;go_ret;exact⟨bK c.out.symm,d⟩
theorem PQ (t:Tb) (cs:Array Value) (kind k:Int) (w:World) (h:Fh w cs t):Calls Tryz.prog 141 #[.agg cs,.int .i64 kind,.int .i64 k] w fun r w' => ∃v,r = .returned v∧Own w' w.heap.size 3 1 v (nY t kind k).length ((nY t kind k).map fT)∧Below w.heap.size w w':=by
 go_enter func141,ntmps141;go_upto_region 1 with (fail);refine LD (fun W=>Code.wp _ _ _ _ W) fun W0 a c i d e => ?_;have l:w.heap.size+2<W0.heap.size:=d.lt;clear e
 go_wp2_with (refine gz rfl 53 (.tmp 3) rfl w.heap.size 0 rfl cs.toList c.rd _ underlying53 tab_agg (by rw[iI,h.sz];exact tab_size) ?_)
 refine (yx t cs _ (h.below a)).mono ?_;rintro r w1 ⟨v,rfl,g,b⟩;have hT:Rz W0.heap.size W0 (.pointer (some ⟨w.heap.size,0,none⟩)) (.pointer (some ⟨w.heap.size+1,0,none⟩)) (.pointer (some ⟨w.heap.size+2,0,none⟩)) (pW t kind k):=
  fun n W hW m=>Ld t cs kind k n _ _ _ W ((h.below a).below hW) (c.ext hW) (i.ext hW) (d.ext hW)
 go_wp2_with fail
 refine (Mt (aP t) v W0.heap.size W0 w1 _ _ _ (pW t kind k) g (bi (qO t 64) (by decide)) hT b b.size).mono ?_;rintro r w2 ⟨v2,rfl,f,j⟩;go_wp2;go_ret;exact⟨_,rfl,f.mono a.size,a.trans ((b.trans j).mono a.size)⟩
open Go.Maps
structure PF where
 n:Int
 a:Option Addr
 l:List Int
 c:Nat
def PF.fi (p:PF):Fi:=⟨p.n,p.l⟩
def pK (p:PF):Array Value:=#[.int .i64 p.n,.slice p.a p.l.length p.c]
def qg (p:PF):List Value:=(pK p).toList
theorem jL (p:PF):(qg p).length=2:=rfl
theorem qE (p:PF):(pK p).all (·.oneCell')=true:=by simp[pK,Value.oneCell']
structure PF.good (w:World) (p:PF):Prop where
 le:p.l.length≤p.c
 mx:p.c≤maxLen
 nl:p.a=none→p.c=0
 rd:dP w p.a (p.l.map fT)
theorem PF.good.below {p:PF} (h:p.good w) (hb:Below w.heap.size w w'):p.good w':=⟨h.le,h.mx,h.nl,h.rd.below hb⟩
structure Mw (w:World) (a:Option Addr) (c:Nat) (ps:List PF):Prop where
 le:ps.length≤c
 mx:c≤maxLen
 nl:a=none→c=0
 rd:dP w a (ps.flatMap qg)
 good:∀p∈ps,p.good w
theorem Mw.below {ps:List PF} (h:Mw w a c ps) (hb:Below w.heap.size w w'):Mw w' a c ps:=
 ⟨h.le,h.mx,h.nl,h.rd.below hb,fun p hp=>(h.good p hp).below hb⟩
theorem DJ {ps:List PF} (h:dP w a (ps.flatMap qg)) (k:Nat) (hk:k<ps.length):∃b off p,a=some ⟨b,off,none⟩∧ps[k]?=some p∧w.cell? ⟨b,off+k*2,none⟩=some (.int .i64 p.n)∧w.cell? ⟨b,off+k*2+1,none⟩=some (.slice p.a p.l.length p.c):=by
 obtain⟨b,off,ha,hc⟩:=h.elem jL (by decide) k hk;exact⟨b,off,ps[k],ha,aH hk,hc 0 _ rfl,hc 1 _ rfl⟩
def bY (ps:List PF) (k:Int):St:=⟨ps.map PF.fi,k⟩
def PE (a:Option Addr) (n c:Nat) (k:Int):Array Value:=#[.slice a n c,.int .i64 k]
theorem file_size:(Tryz.prog.info? 67).map (·.size)=some 2:=by kernel_rfl
theorem store_size:(Tryz.prog.info? 37).map (·.size)=some 2:=by kernel_rfl
theorem uY (c:Int) (seen:List Int) (p:PF) (r:List Fi):nO c seen (p.fi::r)=if p.n<0∨96<p.n then 3 else if (p.l.length:Int)≠dW p.n then 2 else if gH c seen p.l≠0 then gH c seen p.l else nO c (seen++p.l) r:=rfl
theorem Em (ps:List PF) (k:Int) (a:Option Addr) (c:Nat) (w:World) (h:Mw w a c ps) (hk64 : -9223372036854775808≤k∧k≤9223372036854775807) :
  Calls Tryz.prog 109 #[.agg (PE a ps.length c k)] w fun r w'=>r = .returned (.int .i64 (aO (bY ps k)))∧Below w.heap.size w w':=by
 have kg:=@run_makeMap Tryz.prog;have kh:=bi h.le h.mx;unfold maxLen at kh;unfold PE;go_enter func109,ntmps109;go_upto_region 1 with (fail);refine gB (fun W=>Code.wp _ _ _ _ W) fun W0 hV hu kd => ?_;clear kd
 by_cases h4:5<ps.length∨k<0∨80<k
 ·have d:Hid (aO (bY ps k)=4):=Lib.hid (by unfold aO bY;rw[if_pos (by simpa using h4)]);have hl:=hu.cell;have kl : 5<ps.length∨(¬5<ps.length∧k<0)∨(¬5<ps.length∧¬k<0∧80<k):=by omega
  clear h4;rcases kl with g|⟨g,g2⟩|⟨g,g2,g3⟩
  all_goals
   go_wp2;go_ret;exact⟨aT d.out.symm,hV⟩
 have s:Hid (aO (bY ps k)=nO k (((ps.take 0).map PF.fi).flatMap Fi.b) ((ps.drop 0).map PF.fi)):=Lib.hid (by unfold aO bY;rw[if_neg (by simpa using h4)];rfl);have g1:¬5<ps.length:=by omega
 have g2:¬k<0:=by omega
 have g3:¬80<k:=by omega
 have hl:=hu.cell;clear h4;go_upto_region 4 with (fail);clear hl kg;refine WY (fun W=>Code.wp _ _ _ _ W) fun W1 hU hW => ?_;have hE:=ae hV hU;have hP:=hu.ext hU;have ki:w.heap.size<W0.heap.size:=hu.lt;obtain⟨gm,ka⟩:∃g,g=W0.heap.size:=⟨_,rfl⟩;rw[←ka] at hW ki ⊢;clear ka hV hu hU;have hN : nV W1 gm 0 (rW (((ps.take 0).map PF.fi).flatMap Fi.b)):=hW;have hl:=hP.cell;go_upto_region 5 with (fail);clear hl hW
 go_loopw [26] (fun i wr => ∃(q n:Nat),q≤ps.length∧i = .int .i64 q∧n≤12*q∧Below w.heap.size w wr∧aB wr w.heap.size #[.slice a ps.length c,.int .i64 k] 37∧nV wr gm n (rW (((ps.take q).map PF.fi).flatMap Fi.b))∧Hid (aO (bY ps k)=nO k (((ps.take q).map PF.fi).flatMap Fi.b) ((ps.drop q).map PF.fi))) (fun i _=>ps.length-(intOf i).toNat)
 case atStart=>exact⟨0,0,aV _,rfl,ay _,hE,hP,hN,s⟩
 case round=>
  clear hE hP hN s;obtain⟨q,n,hq,rfl,hn,o,hx,hM,s⟩:=hrel
  by_cases hlt:q<ps.length
  ·obtain⟨b,off,p,rfl,hp,c0,c1⟩:=DJ (h.below o).rd q hlt;have hA:=(h.good p (bO hp)).below o;have hC:=drop_at hp;have hy:=take_at hp;rw[hC,bP] at s;have hI:=Lib.hid hy;clear hC hy;generalize hseen:((ps.take q).map PF.fi).flatMap Fi.b=seen at hM s;have hs:=Lib.hid hseen;clear hseen hp
   go_wp2_with (refine aI rfl _ _ _ rfl (pK p) rfl rfl rfl file_size (qE _) ?_)
   intro w2 hF hi;have hf:=ae o hF;have h1:=hx.ext hF;have h8:=hM.below hF;have ht:=hA.below hF;clear o hx hM hA hF c0 c1;have hS:=hi.cell;have f0:(pK p)[0]?=some (.int .i64 p.n):=rfl;have f1:(pK p)[1]?=some (.slice p.a p.l.length p.c):=rfl
   by_cases hn96:p.n<0∨96<p.n
   ·have d:Hid (aO (bY ps k)=3):=Lib.hid (by rw[s.out,uY,if_pos hn96]);have ke : p.n<0∨(¬p.n<0∧96<p.n):=by omega
    clear hn96;rcases ke with g|⟨g,g2⟩
    all_goals
     go_wp2;go_ret;exact⟨aT d.out.symm,hf⟩
   have ha:Hid (aO (bY ps k)=if (p.l.length:Int)≠dW p.n then 2 else if gH k seen p.l≠0 then gH k seen p.l else nO k (seen++p.l) ((ps.drop (q+1)).map PF.fi)):=Lib.hid (by rw[s.out,uY,if_neg hn96]);have g4:¬p.n<0:=by omega
   have g5:¬96<p.n:=by omega
   clear hn96 s
   by_cases hcnt:(p.l.length:Int)=dW p.n
   ·have z:Hid (aO (bY ps k)=if gH k seen p.l≠0 then gH k seen p.l else nO k (seen++p.l) ((ps.drop (q+1)).map PF.fi)):=Lib.hid (by rw[ha.out,if_neg (fun hh=>hh hcnt)]);have km:p.l.length≤12:=by have:=wX (n:=p.n) (by omega);omega
    have hT:=Lib.hid hcnt;clear ha hcnt;go_upto_region 9 with (fail);refine aM 7 [_,_,_,_,_,.v (.int .i64 (dW p.n)),_] (Gf wr.heap.size 1 rfl rfl (Gl hi (V:=.slice p.a p.l.length p.c) (by simp[f1,underlying29]) rfl rfl rfl rfl (Gn rfl rfl rfl rfl (Gf wr.heap.size 0 rfl rfl (Gl hi (V:=.int .i64 p.n) (by simp[f0]) rfl rfl rfl rfl (ag ?_ (Gb (.bool false) (by simp[go_sem,hT.out]) rfl rfl rfl rfl rfl (aC))))) (underlying29)))) (fun _=>rfl) rfl ?_
    ·intro ρ y W hw hn hb hd;have hZ:=hw 42 4 rfl;have h4:y 4=_:=hd 4 rfl;have EF:∀f,ρ (.func f) = .func (.func f) #[] #[]:=fun f=>hn (.func f) trivial;refine aR _ _ (ah rfl) (aU rfl (EF _) func133 (by kernel_rfl) (by kernel_rfl) (by simp only[bV,bP,bT,hZ,h4,EF];rfl)) ?_;refine (Gv p.n W (by omega)).mono ?_;rintro e w1 ⟨rfl,rfl⟩;exact⟨_,rfl,Below.refl _ _,rfl⟩
    intro y WA u _;have hD:=ae hf u;have h0:=h1.ext u;have h6:=h8.below u;have h5:=hi.ext u;have hH:=ht.below u;clear hf h1 h8 hi ht u hS;have hS:=h5.cell;have kc:Hid (gH k seen p.l=gH k (seen++p.l.take 0) (p.l.drop 0)):=Lib.hid (by simp);have h9:nV WA gm n (rW (seen++p.l.take 0)):=by simpa using h6
    have kn:=hH.le;have kf:=hH.mx;have hK:=hH.rd;unfold maxLen at kf;clear h6 hH;go_upto_region 12 with (fail);clear hS f0 f1 h5
    go_loopw [48] (fun i wr => ∃(j m:Nat),j≤p.l.length∧i = .int .i64 j∧m≤n+j∧Below w.heap.size w wr∧aB wr w.heap.size #[.slice (some ⟨b,off,none⟩) ps.length c,.int .i64 k] 37∧nV wr gm m (rW (seen++p.l.take j))∧dP wr p.a (p.l.map fT)∧Hid (gH k seen p.l=gH k (seen++p.l.take j) (p.l.drop j))) (fun i _=>p.l.length-(intOf i).toNat)
    case atStart=>exact⟨0,n,aV _,rfl,ay _,hD,h0,h9,hK,kc⟩
    case round=>
     clear hD h0 h9 hK kc;obtain⟨j,m,hj,rfl,hm,o,hx,hM,hQ,hB⟩:=hrel
     by_cases hjl:j<p.l.length
     ·obtain⟨x,hX⟩:∃x,p.l[j]?=some x:=⟨p.l[j],aH hjl⟩;obtain⟨b2,off2,hR,hc⟩:=jv hQ j hjl;rw[show p.l[j]=x from (cK.1 hX).2] at hc;have hC:=drop_at hX;have hy:=take_at hX;rw[hC,vk] at hB;rw[hR];generalize hs2:seen++p.l.take j=seen2 at hB hM;have hv:Hid (seen++p.l.take (j+1)=seen2++[x]):=Lib.hid (by rw[hy,←jG,hs2]);have hJ:=Lib.hid hQ;have hL:=Lib.hid hR;have hl:=hx.cell;clear hX hC hy hs2 hQ hR;have h3 : (j:Int)<(p.l.length:Int):=by omega
      by_cases hr3:x < -1∨k≤x
      ·have d:Hid (aO (bY ps k)=3):=Lib.hid (by rw[z.out,hB.out,if_pos hr3];rfl);have h2 : x < -1∨(¬x < -1∧k≤x):=by omega
       clear hr3;rcases h2 with g6|⟨g6,g7⟩
       all_goals
        go_wp2;go_ret;exact⟨aT d.out.symm,o⟩
      have g6:¬x < -1:=by omega
      have g7:¬k≤x:=by omega
      have hY:Hid (gH k seen p.l=if 0≤x∧x∈seen2 then 7 else gH k (seen2++[x]) (p.l.drop (j+1))):=Lib.hid (by rw[hB.out,if_neg hr3]);clear hB hr3;have hg:=hM.look x (by omega)
      by_cases h7:0≤x∧x∈seen2
      ·have d:Hid (aO (bY ps k)=7):=Lib.hid (by rw[z.out,hY.out,if_pos h7];rfl);rw[show rW seen2 x=true from decide_eq_true h7.2] at hg;have g8:0≤x:=h7.1;clear h7;go_wp2;go_ret;exact⟨aT d.out.symm,o⟩
      have kb:Hid (gH k seen p.l=gH k (seen++p.l.take (j+1)) (p.l.drop (j+1))):=Lib.hid (by rw[hY.out,if_neg h7,hv.out]);have kk : ¬0≤x∨(0≤x∧rW seen2 x=false):=by
       by_cases g8:0≤x
       ·exact .inr ⟨g8,decide_eq_false fun hh=>h7 ⟨g8,hh⟩⟩
       ·exact .inl g8
      clear h7 hY;rcases kk with g8|⟨g8,g9⟩
      ·clear hg
       go_wp2_with (refine wP hM (by omega) rfl _ _ _ rfl rfl x rfl rfl (by omega) ?_)
       intro w6 hG t;rw[DT,←hv.out] at hG;have hr:=o.grown t o.size (fun k hk=>by cases hk;omega);have hO:=hx.grown t (fun e=>by have:=aJ e;omega);have hz:=hM.rdv hJ.out t;clear o hx hM t hl hc;go_wp2;go_roundw
       case rel=>exact⟨j+1,m+1,by omega,by go_num,by omega,hr,hO,hG,(by rw[←hL.out];exact hz),kb⟩
       case measure=>simp[intOf];omega
      rw[g9] at hg
      go_wp2_with (refine wP hM (by omega) rfl _ _ _ rfl rfl x rfl rfl (by omega) ?_)
      intro w6 hG t;rw[DT,←hv.out] at hG;have hr:=o.grown t o.size (fun k hk=>by cases hk;omega);have hO:=hx.grown t (fun e=>by have:=aJ e;omega);have hz:=hM.rdv hJ.out t;clear o hx hM t hl hc;go_wp2;go_roundw
      case rel=>exact⟨j+1,m+1,by omega,by go_num,by omega,hr,hO,hG,(by rw[←hL.out];exact hz),kb⟩
      case measure=>simp[intOf];omega
     have d:Hid (aO (bY ps k)=nO k (((ps.take (q+1)).map PF.fi).flatMap Fi.b) ((ps.drop (q+1)).map PF.fi)):=Lib.hid (by
      have e0:gH k seen p.l=0:=by rw[hB.out,qa (by omega)];rfl
      rw[z.out,if_neg (fun hh=>hh e0),hI.out,jb,eY,hs.out];simp[PF.fi])
     have kj:nV wr gm m (rW (((ps.take (q+1)).map PF.fi).flatMap Fi.b)):=by rw[iN (by omega)] at hM;rw[hI.out,jb,eY,hs.out];simpa[PF.fi] using hM
     have h3 : ¬(j:Int)<(p.l.length:Int):=by omega
     clear hM hB z;go_wp2;go_roundw
     case rel=>exact⟨q+1,m,by omega,by go_num,by omega,o,hx,kj,d⟩
     case measure=>simp[intOf];omega
   have d:Hid (aO (bY ps k)=2):=Lib.hid (by rw[ha.out,if_pos hcnt]);have hT:((p.l.length:Int) != dW p.n)=true:=by rw[bne_iff_ne];exact hcnt
   clear ha hcnt;go_upto_region 9 with (fail);refine aM 7 [_,_,_,_,_,.v (.int .i64 (dW p.n)),_] (Gf wr.heap.size 1 rfl rfl (Gl hi (V:=.slice p.a p.l.length p.c) (by simp[f1,underlying29]) rfl rfl rfl rfl (Gn rfl rfl rfl rfl (Gf wr.heap.size 0 rfl rfl (Gl hi (V:=.int .i64 p.n) (by simp[f0]) rfl rfl rfl rfl (ag ?_ (Gb (.bool true) (by simp[go_sem,hT]) rfl rfl rfl rfl rfl (aC))))) (underlying29)))) (fun _=>rfl) rfl ?_
   ·intro ρ y W hw hn hb hd;have hZ:=hw 42 4 rfl;have h4:y 4=_:=hd 4 rfl;have EF:∀f,ρ (.func f) = .func (.func f) #[] #[]:=fun f=>hn (.func f) trivial;refine aR _ _ (ah rfl) (aU rfl (EF _) func133 (by kernel_rfl) (by kernel_rfl) (by simp only[bV,bP,bT,hZ,h4,EF];rfl)) ?_;refine (Gv p.n W (by omega)).mono ?_;rintro e w1 ⟨rfl,rfl⟩;exact⟨_,rfl,Below.refl _ _,rfl⟩
   intro y WA u _;go_wp2;go_ret;exact⟨aT d.out.symm,ae hf u⟩
  have d:Hid (aO (bY ps k)=0):=Lib.hid (by rw[s.out,qa (by omega)];rfl);go_wp2;go_ret;exact⟨aT d.out.symm,o⟩
theorem Mj (l:List Int) (a:Option Addr) (c:Nat) (w:World) (hle:l.length≤c) (hnil:a=none→c=0) (hrd:dP w a (l.map fT)) (hb:l.length*8≤140737488355328) :
  Calls Tryz.prog 101 #[.slice a l.length c] w fun e w' => ∃v,e = .returned v∧Own w' w.heap.size 3 1 v l.length (l.map fT)∧Below w.heap.size w w':=by
 cases a with
 | none=>
  have h0:=hnil rfl;have hl:l=[]:=jM (by omega);subst hl;subst h0;have hq:=fun W=>lV (P:=Tryz.prog) W 29 _ none 0 0 0 0 underlying29;go_enter func101,ntmps101;go_wp2;go_ret;exact⟨_,rfl,by simpa using Own.nil _ _ _ _,Below.refl _ _⟩
 | some ad=>
  have hq:=fun W=>lV (P:=Tryz.prog) W 29 _ (some ad) l.length c 0 0 underlying29;go_enter func101,ntmps101
  go_wp2_with (at_builtin;go_must (refine fq rfl _ _ 29 rfl w.heap.size 3 (.int .i64 0) 1 8 underlying29 int_info rfl (by decide) _ 0 [] rfl ?own (some ad) l.length c (l.map fT) rfl (fun h=>(by cases h)) hle (JO l) ?rd (Kv l) (by unfold maxLen;omega) (by simpa using hb) ?bb ?k))
  case own=>exact⟨rfl,.inr ⟨w.heap.size,0,0,#[],rfl,ay _,aB.new _ _ _,ay _,aV _,by simp,fun j u h=>by simp at h⟩⟩
  case rd=>exact hrd.below ((Below.refl _ _).alloc (ay _) _)
  case bb=>exact fZ _ _
  intro v w1 b d;go_wp2;go_ret;exact⟨v,rfl,by simpa using b,((Below.refl _ _).alloc (ay _) _).grown d (fZ _ _) (fun k hk=>by cases hk;exact ay _)⟩
theorem file_info:(Tryz.prog.info? 67).map (fun i=>(i.zero,i.size,i.bytes))=some (some (.agg #[.int .i64 0,.slice none 0 0]),2,32):=by kernel_rfl
theorem Uh (p:PF):∀u∈qg p,u.oneCell' = true:=by
 intro u hu;have:=qE p;rw[←jV,dK] at this;exact this u hu
def mW (p:PF):Value:=.slice p.a p.l.length p.c
structure nW (w:World) (B:Nat) (v:Value) (ps:List PF):Prop where
 own:Own w B 67 2 v ps.length (ps.flatMap qg)
 each:∀(i:Nat) p,ps[i]?=some p→Own w B 3 1 (mW p) p.l.length (p.l.map fT)
 apart:∀(i j:Nat) p q,i<j→ps[i]?=some p→ps[j]?=some q→Apart (mW p) (mW q)
theorem nW.rd {ps:List PF} (h:nW w B v ps):∃a c,v = .slice a ps.length c∧Mw w a c ps:=by
 obtain⟨a,c,rfl,h1,h2,h3,h4⟩:=h.own.rd;refine⟨a,c,rfl,h1,h2,h3,h4,fun p hp => ?_⟩;obtain⟨i,hi,rfl⟩:=jC.1 hp;obtain⟨a',c',e,k1,k2,k3,k4⟩:=(h.each i _ (aH hi)).rd;unfold mW at e;simp only[lU] at e;obtain⟨rfl,_,rfl⟩:=e;exact⟨k1,k2,k3,k4⟩
theorem nW.below {ps:List PF} (h:nW w B v ps) (hb:Below w.heap.size w w'):nW w' B v ps:=
 ⟨h.own.below hb,fun i p hp=>(h.each i p hp).below hb,h.apart⟩
theorem nW.mono {ps:List PF} (h:nW w B v ps) (hB:B'≤B):nW w B' v ps:=
 ⟨h.own.mono hB,fun i p hp=>(h.each i p hp).mono hB,h.apart⟩
theorem nW.keep {ps:List PF} (h:nW w B v ps) (hk:aB w g cs T) (h1:T≠67) (h2:T≠3) (hgr:w.grownBy w' (some g)):nW w' B v ps:=
 ⟨ak h.own hk h1 hgr,fun i p hp=>ak (h.each i p hp) hk h2 hgr,h.apart⟩
theorem nW.nil (w:World) (B:Nat):nW w B (.slice none 0 0) []:=⟨Own.nil _ _ _ _,fun i p h=>by simp at h,fun i j p q _ h=>by simp at h⟩
def Uy (ps:List PF):Prop:=ps.length*32≤140737488355328∧∀p∈ps,p.l.length*8≤140737488355328
theorem nW.app {ps:List PF} (h:nW w B v ps) {p:PF} (ho:Own w' B 67 2 v' (ps.length+1) (ps.flatMap qg++qg p)) (hp:Own w B 3 1 (mW p) p.l.length (p.l.map fT)) (hgr:w.grownBy w' v.ownBlock)
 (ha:∀(i:Nat) q,ps[i]?=some q→Apart (mW q) (mW p)):nW w' B v' (ps++[p]) where
 own:=by rw[jH,eY];simpa using ho
 each:=fun i q hq=>by
  by_cases hi:i<ps.length
  ·rw[kY hi] at hq;exact zg (h.each i q hq) h.own (by decide) hgr
  rw[kK (by omega)] at hq;have c:i-ps.length=0:=by
   rcases sS (i-ps.length) with e|e
   ·exact e
   ·rw[dI (by simp;omega)] at hq;cases hq
  rw[c] at hq;cases hq;exact zg hp h.own (by decide) hgr
 apart:=fun i j q r b hq hr=>by
  have hi:i<ps.length:=by have:=(cK.1 hr).1;simp at this;omega
  rw[kY hi] at hq
  by_cases hj:j<ps.length
  ·rw[kY hj] at hr;exact h.apart i j q r b hq hr
  rw[kK (by omega)] at hr;have a:j-ps.length=0:=by
   rcases sS (j-ps.length) with e|e
   ·exact e
   ·rw[dI (by simp;omega)] at hr;cases hr
  rw[a] at hr;cases hr;exact ha i q hq
theorem slfile_size:(Tryz.prog.info? 35).map (·.size)=some 1:=by kernel_rfl
theorem rT (a:Option Addr) (n c:Nat) (k:Int):(#[Value.slice a n c,Value.int .i64 k]:Array Value).all (·.oneCell')=true:=by simp[Value.oneCell']
def VS (B:Nat) (n:Int) (l:List Int):mg:=⟨fun v w => ∃u,v = .agg #[.int .i64 n,u]∧Own w B 3 1 u l.length (l.map fT),fun _ _ _ hb ⟨u,h1,h2⟩=>⟨u,h1,h2.below hb⟩⟩
def WH (B:Nat) (n:Int) (l:List Int):mg:=⟨fun v w => ∃g p,v = .slice (some ⟨g,0,none⟩) 1 1∧p.n=n∧p.l=l∧dP w (some ⟨g,0,none⟩) (qg p)∧Own w B 3 1 (mW p) p.l.length (p.l.map fT),by
 rintro v w w' hb ⟨g,p,h1,h2,h3,h4,h5⟩;exact⟨g,p,h1,h2,h3,h4.below hb,h5.below hb⟩⟩
theorem EL (ps:List PF) (k:Int) (a:Option Addr) (c:Nat) (w:World) (h:Mw w a c ps) (hz:Uy ps) :
  Calls Tryz.prog 61 #[.agg (PE a ps.length c k)] w fun r w' => ∃v ps',r = .returned (.agg #[v,.int .i64 k])∧nW w' w.heap.size v ps'∧ps'.map PF.fi=ps.map PF.fi∧Below w.heap.size w w':=by
 have kq:=bi h.le h.mx;unfold maxLen at kq;unfold PE;go_enter func61,ntmps61;go_upto_region 1 with (fail);refine rE (fun W=>Code.wp _ _ _ _ W) fun W0 kh hE hH km => ?_;clear km;have hO:=hE.cell;go_upto_region 2 with (refine aI rfl _ _ _ rfl #[.slice none 0 0,.int .i64 k] rfl rfl rfl store_size (rT none 0 0 k) ?_);clear hO;intro W1 hf hL;have hm:=ae kh hf;have hW:=hE.ext hf;have h9:=hH.ext hf;have ks:w.heap.size+1<W0.heap.size:=hH.lt;obtain⟨go,kj⟩:∃g,g=W0.heap.size:=⟨_,rfl⟩;rw[←kj] at hL ks ⊢;clear kj kh hE hH hf;have hO:=hW.cell;go_upto_region 3 with (fail);clear hO
 go_loopw [12] (fun i wr => ∃(q:Nat) (v:Value) (qs:List PF),q≤ps.length∧i = .int .i64 q∧Below w.heap.size w wr∧aB wr (w.heap.size+1) #[.slice none 0 0,.int .i64 0] 37∧aB wr go #[v,.int .i64 k] 37∧nW wr w.heap.size v qs∧qs.map PF.fi=(ps.take q).map PF.fi) (fun i _=>ps.length-(intOf i).toNat)
 case atStart=>exact⟨0,_,[],aV _,rfl,hm,h9,hL,nW.nil _ _,rfl⟩
 case round=>
  clear hm hW h9 hL;obtain⟨q,v,qs,hq,rfl,hl,hr,ho,hF,hB⟩:=hrel;have hI:=Lib.hid hB;clear hB
  by_cases hlt:q<ps.length
  ·obtain⟨b,off,p,rfl,hp,c0,c1⟩:=DJ (h.below hl).rd q hlt;have hM:=h.good p (bO hp);have kn:=hz.2 p (bO hp);have hX:=take_at hp;have kb:Hid (qs.map PF.fi++[p.fi]=(ps.take (q+1)).map PF.fi):=Lib.hid (by rw[hX,jb,hI.out];rfl);have kI:qs.length≤q:=by have:=congrArg List.length hI.out;simp[xI hq] at this;omega
   clear hp hX
   go_wp2_with (refine aI rfl _ _ _ rfl (pK p) rfl rfl rfl file_size (qE _) ?_)
   intro w2 hs hN;have m:=ae hl hs;have h8:=hr.ext hs;have hK:=ho.ext hs;have hv:=hF.below hs;have kF:go<wr.heap.size:=ho.lt;clear hl hr ho hF hs c0 c1;obtain⟨av,cv,rfl,ki⟩:=hv.rd;have kJ:=ki.le;have kp:=ki.mx;unfold maxLen at kp;have kE:=hz.1;have kt:=hM.below m;go_upto_region 5 with (fail);refine Kl 9 10 [] [ul (.pointer (some ⟨go,0,none⟩)),ul (.slice av qs.length cv),ul (.pointer (some ⟨wr.heap.size,0,none⟩)),ul (.int .i64 p.n),ul (.pointer (some ⟨wr.heap.size,1,none⟩)),ul (.slice p.a p.l.length p.c),(ou w2.heap.size 3 1 p.l.length (p.l.map fT)),(VS w2.heap.size p.n p.l),(WH w2.heap.size p.n p.l)] (by kernel_rfl) (by kernel_rfl) (by kernel_rfl) (by kernel_rfl) (by kernel_rfl) (by kernel_rfl) (by decide) (by decide) _ rfl (by kernel_rfl) (ag ?_ (ag ?_ (ag ?_ (ag ?_ (ag ?_ (ag ?_ (ag ?_ (ag ?_ (ag ?_ (aC)))))))))) (aC) rfl ?_
   ·refine bG rfl ?_;intro ρ y W hw hn hb hd;have E3:ρ (.tmp 3) = .pointer (some ⟨go,0,none⟩):=(hn (.tmp 3) rfl).trans rfl;refine aj (.pointer (some ⟨go,0,none⟩)) (ah rfl) (by simp[execOp,go_sem,E3]) rfl
   ·refine bG rfl ?_;intro ρ y W hw hn hb hd;have kD:=hw 16 0 rfl;have h0:y 0 = .pointer (some ⟨go,0,none⟩):=hd 0 rfl;refine aj (.slice av qs.length cv) (ah rfl) (by simp[execOp,go_sem,kD,h0,(hK.ext hb).cell,underlying35]) rfl
   ·refine bG rfl ?_;intro ρ y W hw hn hb hd;have E5:ρ (.tmp 5) = .pointer (some ⟨wr.heap.size,0,none⟩):=(hn (.tmp 5) rfl).trans rfl;refine aj (.pointer (some ⟨wr.heap.size,0,none⟩)) (ah rfl) (by simp[execOp,go_sem,E5]) rfl
   ·refine bG rfl ?_;intro ρ y W hw hn hb hd;have kC:=hw 18 2 rfl;have h2:y 2 = .pointer (some ⟨wr.heap.size,0,none⟩):=hd 2 rfl;refine aj (.int .i64 p.n) (ah rfl) (by simp[execOp,go_sem,kC,h2,(hN.ext hb).cell,pK]) rfl
   ·refine bG rfl ?_;intro ρ y W hw hn hb hd;have E5:ρ (.tmp 5) = .pointer (some ⟨wr.heap.size,0,none⟩):=(hn (.tmp 5) rfl).trans rfl;refine aj (.pointer (some ⟨wr.heap.size,1,none⟩)) (ah rfl) (by simp[execOp,go_sem,E5]) rfl
   ·refine bG rfl ?_;intro ρ y W hw hn hb hd;have kA:=hw 20 4 rfl;have h4:y 4 = .pointer (some ⟨wr.heap.size,1,none⟩):=hd 4 rfl;refine aj (.slice p.a p.l.length p.c) (ah rfl) (by simp[execOp,go_sem,kA,h4,(hN.ext hb).cell,pK]) rfl
   ·refine bG rfl ?_;intro ρ y W hw hn hb hd;have kz:=hw 21 5 rfl;have h5:y 5 = .slice p.a p.l.length p.c:=hd 5 rfl;have EF:∀f,ρ (.func f) = .func (.func f) #[] #[]:=fun f=>hn (.func f) trivial;refine aR _ _ (ah rfl) (aU rfl (EF _) func101 (by kernel_rfl) (by kernel_rfl) (by simp only[bV,bP,bT,kz,h5,EF];rfl)) ?_;refine (Mj p.l p.a p.c W hM.le hM.nl (kt.below hb).rd kn).mono ?_;rintro e w1 ⟨u,rfl,ho,hf⟩;exact⟨u,rfl,hf,ho.mono hb.size⟩
   ·refine bG rfl ?_;intro ρ y W hw hn hb hd;have kB:=hw 19 3 rfl;have h3:y 3 = .int .i64 p.n:=hd 3 rfl;have ky:=hw 22 6 rfl;have h6:((ou w2.heap.size 3 1 p.l.length (p.l.map fT))).r (y 6) W:=hd 6 rfl;obtain⟨x6,c6,e6,_⟩:=Own.rd h6;refine aj (.agg #[.int .i64 p.n,y 6]) (ah rfl) (by simp[execOp,go_sem,kB,h3,ky,e6]) ?_;exact⟨_,rfl,h6⟩
   ·refine bG rfl ?_;intro ρ y W hw hn hb hd;have kx:=hw 23 7 rfl;have h7:((VS w2.heap.size p.n p.l)).r (y 7) W:=hd 7 rfl;obtain⟨u,e7,kd⟩:=h7;obtain⟨x7,c7,rfl,_⟩:=Own.rd kd;refine jU (.slice (some ⟨W.heap.size,0,none⟩) 1 1) (ah rfl) (by simp[execOp,go_sem,kx,e7,pK]) ((Below.refl _ _).alloc (ay _) (.cells (pK ⟨p.n,x7,p.l,c7⟩) 67)) ?_;exact⟨_,⟨p.n,x7,p.l,c7⟩,rfl,rfl,rfl,dP.new _ _ _,kd.alloc _⟩
   intro ρ y WA o ho hw hn hV s d;cases ho;have hU:y 0 = .pointer (some ⟨go,0,none⟩):=d 0 (by decide);have hD:y 1 = .slice av qs.length cv:=d 1 (by decide);have hT:y 2 = .pointer (some ⟨wr.heap.size,0,none⟩):=d 2 (by decide);have hS:y 3 = .int .i64 p.n:=d 3 (by decide);have hR:y 4 = .pointer (some ⟨wr.heap.size,1,none⟩):=d 4 (by decide);have hQ:y 5 = .slice p.a p.l.length p.c:=d 5 (by decide);have kH:((ou w2.heap.size 3 1 p.l.length (p.l.map fT))).r (y 6) WA:=d 6 (by decide);have kG:((VS w2.heap.size p.n p.l)).r (y 7) WA:=d 7 (by decide);have kl:((WH w2.heap.size p.n p.l)).r (y 8) WA:=d 8 (by decide);have kk:=hw 17 1 rfl;rw[hD] at kk;have kw:=hw 24 8 rfl;have EC:∀v,ρ (.const v)=v:=fun v=>hn (.const v) trivial;have EF:∀f,ρ (.func f) = .func (.func f) #[] #[]:=fun f=>hn (.func f) trivial;obtain⟨g8,p8,e8,ko,kr,hA,hj⟩:=kl;refine Ht (ah rfl) (pG (.tmp 17) (.tmp 24) 35 rfl w.heap.size 67 _ 2 32 underlying35 file_info rfl (by decide) _ _ _ kk (hv.own.below s) _ 1 1 (qg p8) (kw.trans e8) (fun e=>by cases e) (ay _) rfl hA (Uh _) (by unfold maxLen;omega) (by omega) (bi m.size s.size)) ?_;rintro v2 w4 ⟨hh,t,hx⟩;clear d hw hn hV;simp only[lay,Nat.reduceAdd,Nat.reduceLT,Nat.reduceEqDiff,reduceIte,decide_true,decide_false,if_true,uQ,if_false,Cf,qC,uZ,zz,CZ,Ab,hU,hD,hT,hS,hR,hQ];clear hU hD hT hS hR hQ;have x:=ae m s;have hY:=h8.ext s;have kc:=hK.ext s;have ht:=hv.below s;have hC:∀(i:Nat) r,qs[i]?=some r→Apart (mW r) (mW p8):=by intro i r hi g hg ku;have h1:=Ii (hv.each i r hi) g hg;have h2:=hj.ge g ku;omega
   have hc : Own w4 w.heap.size 67 2 v2 (qs.length+1) (qs.flatMap qg++qg p8):=hh;have hy:=ht.app hc (hj.mono m.size) t hC;have hZ:=kv hY ht.own (by decide) t;have hJ:=kv kc ht.own (by decide) t;have ha:Below w.heap.size w w4:=x.grown t x.size (fun k hk=>ht.own.ge k hk);have ka:Hid ((qs++[p8]).map PF.fi=(ps.take (q+1)).map PF.fi):=Lib.hid (by rw[jb,←kb.out];congr 1;simp[PF.fi,ko,kr]);obtain⟨a4,c4,rfl,_⟩:=hy.rd;rw[jH,Cv] at hy ⊢;clear m h8 hK hv s x hY kc ht hh hc t hC hj hA hN hx
   go_wp2_with (refine aA rfl _ _ _ rfl go 0 _ [.slice a4 (qs.length+1) c4] rfl rfl rfl _ _ hJ (show 0+1≤2 by decide) slfile_size (fun u hu=>by cases bv.1 hu;rfl) ?_)
   intro w5 kf j;have hG:aB w5 (w.heap.size+1) _ _:=hZ.grown j (fun e=>by have:=aJ e;omega);have hP:=hy.keep hJ (by decide) (by decide) j;have z:=ha.grown j ha.size (fun k hk=>by cases hk;omega);have ke : aB w5 go #[.slice a4 (qs.length+1) c4,.int .i64 k] 37:=kf;clear hJ hZ hy ha j kf;go_wp2;go_roundw
   case rel=>exact⟨q+1,_,_,by omega,by go_num,z,hG,ke,hP,ka.out⟩
   case measure=>simp[intOf];omega
  obtain rfl:q=ps.length:=by omega
  have kg:Hid (qs.map PF.fi=ps.map PF.fi):=Lib.hid (by rw[hI.out,xQ]);obtain⟨av,cv,rfl,_⟩:=hF.rd;have kK:=ho.cell
  go_wp2_with (refine az rfl _ _ _ rfl (w.heap.size+1) #[.slice av qs.length cv,.int .i64 k] rfl rfl _ _ hr rfl store_size (rT _ _ _ _) ?_)
  intro w5 hG j;have hP:=hF.keep hr (by decide) (by decide) j;have z:=hl.grown j hl.size (fun k hk=>by cases hk;omega);go_wp2;refine bodyPost_ret (v:=.agg #[.slice av qs.length cv,.int .i64 k]) (eF results61 _ _ (w.heap.size+1) _ _ _ rfl hG underlying37 rfl store_size) rfl ?_;exact⟨_,_,rfl,hP,kg.out,z⟩
theorem Rk (n:Int) (w:World):Calls Tryz.prog 99 #[.int .i64 n] w fun r w'=>r = .returned (.tuple #[.agg #[.slice none 0 0,.int .i64 (Ug n)],.int .i64 (newE n)])∧Below w.heap.size w w':=by
 go_enter func99,ntmps99
 by_cases h:n<0∨80<n
 ·have e1:newE n=4:=if_pos h;have e2:Ug n=0:=if_pos h;rw[e1,e2];have h' : n<0∨(¬n<0∧80<n):=by omega
  clear h e1 e2;rcases h' with g|⟨g,g2⟩
  all_goals
   go_wp2_with (refine aI rfl _ _ _ rfl #[.slice none 0 0,.int .i64 0] rfl rfl rfl store_size (rT none 0 0 0) ?_)
   intro w1 b a;go_wp2;refine bodyPost_ret (v:=.tuple #[.agg #[.slice none 0 0,.int .i64 0],.int .i64 4]) (eZ results99 _ _ w.heap.size _ _ _ _ rfl rfl a underlying37 rfl store_size) rfl ?_;exact⟨rfl,b⟩
 have e1:newE n=0:=if_neg h;have e2:Ug n=n:=if_neg h;rw[e1,e2];have g:¬n<0:=by omega
 have g2:¬80<n:=by omega
 clear h e1 e2
 go_wp2_with (refine aI rfl _ _ _ rfl #[.slice none 0 0,.int .i64 n] rfl rfl rfl store_size (rT none 0 0 n) ?_)
 intro w1 b a;go_wp2;refine bodyPost_ret (v:=.tuple #[.agg #[.slice none 0 0,.int .i64 n],.int .i64 0]) (eZ results99 _ _ w.heap.size _ _ _ _ rfl rfl a underlying37 rfl store_size) rfl ?_;exact⟨rfl,b⟩
def vQ (ps:List PF):List Int:=ps.flatMap PF.l
theorem zD (ps:List PF) (k:Int):kE (bY ps k)=vQ ps:=by
 unfold kE bY vQ;rw[Cr];rfl
theorem MI {ps:List PF} {p:PF} (hp:ps[q]?=some p):vQ (ps.take (q+1))=vQ (ps.take q)++p.l:=by
 unfold vQ;rw[take_at hp,eY];simp
theorem Aq (ps:List PF) (k x:Int) (a:Option Addr) (c:Nat) (w:World) (h:Mw w a c ps) :
  Calls Tryz.prog 32 #[.agg (PE a ps.length c k),.int .i64 x] w fun r w'=>r = .returned (.bool (gL (bY ps k) x))∧Below w.heap.size w w':=by
 have hk:=bi h.le h.mx;unfold maxLen at hk;unfold PE;go_enter func32,ntmps32;go_upto_region 1 with (fail);refine gB (fun W=>Code.wp _ _ _ _ W) fun W0 hd e hg => ?_;clear hg;have hn:=e.cell;go_upto_region 2 with (fail);clear hn e
 go_loopw [12] (fun i wr => ∃(q:Nat),q≤ps.length∧i = .int .i64 q∧¬x∈vQ (ps.take q)∧Below w.heap.size w wr) (fun i _=>ps.length-(intOf i).toNat)
 case atStart=>exact⟨0,aV _,rfl,by simp[vQ],hd⟩
 case round=>
  clear hd;obtain⟨q,hq,rfl,z,d⟩:=hrel;have hm:=Lib.hid z;clear z
  by_cases hlt:q<ps.length
  ·obtain⟨b,off,p,rfl,hp,c0,c1⟩:=DJ (h.below d).rd q hlt;have t:=h.good p (bO hp);have hf:=Lib.hid (MI hp);have hl:Hid (∀y∈p.l,y∈vQ ps):=Lib.hid (fun y hy=>jP.2 ⟨p,bO hp,hy⟩);have hi:=bi t.le t.mx;unfold maxLen at hi;clear hp
   go_wp2_with (refine aI rfl _ _ _ rfl (pK p) rfl rfl rfl file_size (qE _) ?_)
   intro w2 hb ha;have g:=ae d hb;have hr:=ha.cell;have f0:(pK p)[0]?=some (.int .i64 p.n):=rfl;have f1:(pK p)[1]?=some (.slice p.a p.l.length p.c):=rfl;clear d hb c0 c1;go_upto_region 5 with (fail);clear hr f0 f1 ha
   go_loopw [19] (fun i wr => ∃(j:Nat),j≤p.l.length∧i = .int .i64 j∧¬x∈p.l.take j∧Below w.heap.size w wr) (fun i _=>p.l.length-(intOf i).toNat)
   case atStart=>exact⟨0,aV _,rfl,by simp,g⟩
   case round=>
    clear g;obtain⟨j,hj,rfl,e,d⟩:=hrel;have hx:=Lib.hid e;clear e
    by_cases hjl:j<p.l.length
    ·obtain⟨b2,off2,v,hc⟩:=jv (t.rd.below d) j hjl;have u:p.l.take (j+1)=p.l.take j++[p.l[j]]:=take_at (aH hjl);have m:=Lib.hid (hl.out _ (dN hjl));have o:=Lib.hid u;rw[v];clear u v;generalize p.l[j]=y at hc o m
     by_cases hy:y=x
     ·have f:Hid (gL (bY ps k) x=true):=Lib.hid (by unfold gL;rw[zD,←hy];exact decide_eq_true m.out);subst hy;go_wp2;go_ret;exact⟨bK f.out.symm,d⟩
     have s:Hid (¬x∈p.l.take (j+1)):=Lib.hid (by
      rw[o.out];intro hh;rcases fO.1 hh with hh|hh
      ·exact hx.out hh
      ·exact hy (bv.1 hh).symm)
     have hs:(y==x)=false:=beq_eq_false_iff_ne.2 hy;clear hy;go_wp2;go_roundw
     case rel=>exact⟨j+1,by omega,by go_num,s.out,d⟩
     case measure=>simp[intOf];omega
    have s:Hid (¬x∈vQ (ps.take (q+1))):=Lib.hid (by
     have h9:=hx.out;rw[iN (by omega)] at h9;rw[hf.out];intro hh;rcases fO.1 hh with hh|hh
     ·exact hm.out hh
     ·exact h9 hh)
    go_wp2;go_roundw
    case rel=>exact⟨q+1,by omega,by go_num,s.out,d⟩
    case measure=>simp[intOf];omega
  have f:Hid (gL (bY ps k) x=false):=Lib.hid (by have h9:=hm.out;rw[iN (by omega)] at h9;unfold gL;rw[zD];exact decide_eq_false h9);go_wp2;go_ret;exact⟨bK f.out.symm,d⟩
theorem Qd (l:List Int) (x:Int) (a:Option Addr) (c:Nat) (w:World) (hrd:dP w a (l.map fT)) (hl:l.length≤9223372036854775807) :
  Calls Tryz.prog 153 #[.slice a l.length c,.int .i64 x] w fun e w'=>e = .returned (.int .i64 (idx (fun y=>decide (x=y)) l))∧Below w.heap.size w w':=by
 go_enter func153,ntmps153;go_wp2
 go_loopw [8] (fun i wr => ∃k:Nat,k≤l.length∧i = .int .i64 k∧Below w.heap.size w wr∧∀i (h:i<l.length),i<k→(fun y=>decide (x=y)) l[i]=false) (fun i _=>l.length-(intOf i).toNat)
 case atStart=>exact⟨0,aV _,rfl,Below.refl _ _,fun i _ h=>absurd h (dV _)⟩
 case round=>
  obtain⟨k,hk,rfl,f,g⟩:=hrel;have hp:=Lib.hid g;clear g
  by_cases hlt:k<l.length
  ·obtain⟨b,off,rfl,hc⟩:=jv (hrd.below f) k hlt
   by_cases he:x=l[k]
   ·have d:=Lib.hid (tN (fun y=>decide (x=y)) l k hlt hp.out (decide_eq_true he));have hb:(x==l[k])=true:=beq_iff_eq.2 he;clear he;go_wp2;go_ret;exact⟨aT d.out.symm,f⟩
   have j:=Lib.hid (show (fun y=>decide (x=y)) l[k]=false from decide_eq_false he);have hb:(x==l[k])=false:=beq_eq_false_iff_ne.2 he;clear he;go_wp2;go_roundw
   case rel=>exact⟨k+1,by omega,by go_num,f,lN hp.out hlt j.out⟩
   case measure=>simp[intOf];omega
  have d:=Lib.hid (lc (fun y=>decide (x=y)) l fun i h=>hp.out i h (by omega));go_wp2;go_ret;exact⟨aT d.out.symm,f⟩
theorem IY (l:List Int) (x:Int) (a:Option Addr) (c:Nat) (w:World) (hrd:dP w a (l.map fT)) (hl:l.length≤9223372036854775807) :
  Calls Tryz.prog 146 #[.slice a l.length c,.int .i64 x] w fun e w'=>e = .returned (.bool (decide (x∈l)))∧Below w.heap.size w w':=by
 go_enter func146,ntmps146
 go_wp2_with fail
 refine (Qd l x a c _ hrd hl).mono ?_;rintro e w2 ⟨rfl,d⟩;have b:=Lib.hid ((nE (fun y=>decide (x=y)) l).trans (Uq l x));go_wp2;go_ret;exact⟨bK b.out,d⟩
def hasB (x:Int) (p:PF):Bool:=decide (x∈p.l)
theorem Qv (p:PF) (g:Nat) (x:Int) (w:World) (hg:aB w g #[.int .i64 x] 3) (hp:p.good w) :
  Calls Tryz.prog 145 #[.agg #[.int .i64 p.n,.slice p.a p.l.length p.c],.pointer (some ⟨g,0,none⟩)] w fun r w'=>r = .returned (.bool (hasB x p))∧Below w.heap.size w w':=by
 have i:=bi hp.le hp.mx;unfold maxLen at i;go_enter func145,ntmps145;go_upto_region 1 with (fail);refine gB (fun W=>Code.wp _ _ _ _ W) fun W0 b d f => ?_;clear f;have k:=(hg.ext b).cell 0;have m:=d.cell;have h:=hp.below b
 go_wp2_with fail
 refine (IY p.l x p.a p.c _ h.rd (by omega)).mono ?_;rintro e w2 ⟨rfl,j⟩;go_wp2;go_ret;exact⟨rfl,ae b j⟩
theorem Vp {ps:List PF} (h:dP w a (ps.flatMap qg)) (k:Nat) (hk:k<ps.length):∃b off,a=some ⟨b,off,none⟩∧w.cell? ⟨b,off+k*2,none⟩=some (.int .i64 ps[k].n)∧w.cell? ⟨b,off+k*2+1,none⟩=some (.slice ps[k].a ps[k].l.length ps[k].c):=by
 obtain⟨b,off,ha,hc⟩:=h.elem jL (by decide) k hk;exact⟨b,off,ha,hc 0 _ rfl,hc 1 _ rfl⟩
theorem Pn (l:List PF) (a:Option Addr) (c:Nat) (w:World) (hrd:dP w a (l.flatMap qg)) (hl:l.length≤9223372036854775807) (g:Nat) (x:Int) (hg:aB w g #[.int .i64 x] 3) (hgood:∀p∈l,p.good w) :
  Calls Tryz.prog 152 #[.slice a l.length c,.func (.func 145) #[] #[.pointer (some ⟨g,0,none⟩)]] w fun e w'=>e = .returned (.int .i64 (idx (hasB x) l))∧Below w.heap.size w w':=by
 go_enter func152,ntmps152;go_wp2
 go_loopw [8] (fun i wr => ∃k:Nat,k≤l.length∧i = .int .i64 k∧Below w.heap.size w wr∧∀i (h:i<l.length),i<k→(hasB x) l[i]=false) (fun i _=>l.length-(intOf i).toNat)
 case atStart=>exact⟨0,aV _,rfl,Below.refl _ _,fun i _ h=>absurd h (dV _)⟩
 case round=>
  obtain⟨k,hk,rfl,f,n⟩:=hrel;have hp:=Lib.hid n;clear n
  by_cases hlt:k<l.length
  ·obtain⟨b,off,rfl,c0,c1⟩:=Vp (hrd.below f) k hlt
   go_wp2_with fail
   refine (Qv l[k] g x _ (hg.ext f) ((hgood _ (dN hlt)).below f)).mono ?_;rintro e w2 ⟨rfl,o⟩;have j:=ae f o;clear o;cases hpk:(hasB x) l[k]
   ·have m:=Lib.hid hpk;clear hpk;go_wp2;go_roundw
    case rel=>exact⟨k+1,by omega,by go_num,j,lN hp.out hlt m.out⟩
    case measure=>simp[intOf];omega
   have d:=Lib.hid (tN (hasB x) l k hlt hp.out hpk);clear hpk;go_wp2;go_ret;exact⟨aT d.out.symm,j⟩
  have d:=Lib.hid (lc (hasB x) l fun i h=>hp.out i h (by omega));go_wp2;go_ret;exact⟨aT d.out.symm,f⟩
theorem Om (l:List PF) (a:Option Addr) (c:Nat) (w:World) (hrd:dP w a (l.flatMap qg)) (hl:l.length≤9223372036854775807) (g:Nat) (x:Int) (hg:aB w g #[.int .i64 x] 3) (hgood:∀p∈l,p.good w) :
  Calls Tryz.prog 144 #[.slice a l.length c,.func (.func 145) #[] #[.pointer (some ⟨g,0,none⟩)]] w fun e w'=>e = .returned (.bool (l.any (hasB x)))∧Below w.heap.size w w':=by
 go_enter func144,ntmps144
 go_wp2_with fail
 refine (Pn l a c _ hrd hl g x hg hgood).mono ?_;rintro e w2 ⟨rfl,b⟩;go_wp2;go_ret;exact⟨bK (nE _ _),b⟩
theorem Tm (ps:List PF) (k x:Int):ps.any (hasB x)=gL (bY ps k) x:=by
 unfold gL hasB;rw[zD,lT,iX,decide_eq_true_eq];unfold vQ;rw[jP];constructor
 ·rintro⟨p,hp,h⟩;exact⟨p,hp,of_decide_eq_true h⟩
 ·rintro⟨p,hp,h⟩;exact⟨p,hp,decide_eq_true h⟩
theorem PH (ps:List PF) (k:Int) (a:Option Addr) (c g:Nat) (w:World) (h:Mw w a c ps) (hg:aB w g (PE a ps.length c k) 37) (hk:k≤80) :
  Calls Tryz.prog 129 #[.pointer (some ⟨g,0,none⟩)] w fun r w'=>r = .returned (.int .i64 (gK (bY ps k)))∧Below w.heap.size w w':=by
 have x:=bi h.le h.mx;unfold maxLen at x;unfold PE at hg;go_enter func129,ntmps129;have l:=hg.cell;go_upto_region 2 with (fail);clear l
 go_loopw [8] (fun i wr => ∃(q:Nat),((q:Int)≤k∨q=0)∧i = .int .i64 q∧Below w.heap.size w wr∧∀i:Nat,i<q→gL (bY ps k) i=true) (fun i _=>k.toNat-(intOf i).toNat)
 case atStart=>exact⟨0,.inr rfl,rfl,Below.refl _ _,fun i hi=>absurd hi (dV _)⟩
 case round=>
  obtain⟨q,hq,rfl,j,p⟩:=hrel;have hu:=Lib.hid p;clear p
  by_cases hlt:(q:Int)<k
  ·have u:=hg.ext j;go_upto_region 4 with (refine Jm rfl _ _ _ rfl (.int .i64 q) rfl rfl rfl int_size rfl ?_);intro w2 n t;have b:=ae j n;have o:=u.ext n;have l:=o.cell;have h2:=h.below b;clear j n u
   go_wp2_with fail
   refine (Om ps a c _ h2.rd (by omega) wr.heap.size q t h2.good).mono ?_;rintro e w3 ⟨rfl,m⟩;have f:=ae b m;have y:=(t.ext m).cell 0;rw[Tm ps k];clear l b o m;cases hus:gL (bY ps k) q
   ·have d:=Lib.hid (Ot (s:=bY ps k) hlt hu.out hus);clear hus;go_wp2;go_ret;exact⟨aT d.out.symm,f⟩
   have v:Hid (∀i:Nat,i<q+1→gL (bY ps k) i=true):=Lib.hid (fun i hi=>by
    by_cases e:i=q
    ·subst e;exact hus
    ·exact hu.out i (by omega))
   clear hus;go_wp2;go_roundw
   case rel=>exact⟨q+1,by omega,by go_num,f,v.out⟩
   case measure=>simp[intOf];omega
  have d:=Lib.hid (Jo (s:=bY ps k) (fun i hi=>hu.out i (by have:(i:Int)<k:=hi;omega)));go_wp2;go_ret;exact⟨aT d.out.symm,j⟩
theorem Gp {ps:List PF} {k:Int} (h:aO (bY ps k)=0):Uy ps:=by
 have h1:=jY h;have h2:ps.length≤5:=by simpa[bY] using h1.1
 refine⟨by omega,fun p hp => ?_⟩;have h3:=vg h p.fi (by simpa[bY] using Cj hp);have h4:=wX h3.2.1;have h5:(p.l.length:Int)=dW p.n:=h3.2.2.1;have h6:dW p.n≤12:=h4;omega
theorem UQ (cur:Array Value) (o:Nat) (x y:Value) (h:cur[o+1]?=some y):bB cur o [x,y]=cur.setIfInBounds o x:=by
 show (cur.setIfInBounds o x).setIfInBounds (o+1) y=cur.setIfInBounds o x;apply lS;intro i;rw[zF]
 by_cases e:o+1=i
 ·subst e;have a:o+1<cur.size:=(ib.1 h).1;rw[if_pos rfl,if_pos (by simpa using a),fQ (by omega),h]
 ·rw[if_neg e]
theorem TT (cur:Array Value) (o:Nat) (x y:Value) (h:cur[o]?=some x):bB cur o [x,y]=cur.setIfInBounds (o+1) y:=by
 show (cur.setIfInBounds o x).setIfInBounds (o+1) y=cur.setIfInBounds (o+1) y;congr 1;apply lS;intro i;rw[zF]
 by_cases e:o=i
 ·subst e;have a:o<cur.size:=(ib.1 h).1;rw[if_pos rfl,if_pos a,h]
 ·rw[if_neg e]
theorem nW.set {ps:List PF} (h:nW w B v ps) (hk:k<ps.length) {p' : PF} (ho:Own w' B 67 2 v ps.length ((ps.set k p').flatMap qg)) (hp:Own w' B 3 1 (mW p') p'.l.length (p'.l.map fT))
 (hoth:∀(i:Nat) q,i≠k→ps[i]?=some q→Own w' B 3 1 (mW q) q.l.length (q.l.map fT)) (ha:∀(i:Nat) q,i≠k→ps[i]?=some q→Apart (mW p') (mW q)):nW w' B v (ps.set k p') where
 own:=by rw[bH];exact ho
 each:=fun i q hq=>by
  rw[kW] at hq
  by_cases e:k=i
  ·rw[if_pos e] at hq
   by_cases hi:i<ps.length
   ·rw[if_pos (by omega)] at hq;cases hq;exact hp
   ·rw[if_neg (by omega)] at hq;cases hq
  rw[if_neg e] at hq;exact hoth i q (fun e2=>e e2.symm) hq
 apart:=fun i j q r a hq hr=>by
  rw[kW] at hq hr
  by_cases e:k=i
  ·rw[if_pos e,if_pos (by omega)] at hq;cases hq;rw[if_neg (by omega)] at hr;exact ha j r (by omega) hr
  rw[if_neg e] at hq
  by_cases e2:k=j
  ·rw[if_pos e2,if_pos (by omega)] at hr;cases hr;exact (ha i q (by omega) hq).symm
  rw[if_neg e2] at hr;exact h.apart i j q r a hq hr
theorem nW.file {ps:List PF} (h:nW w B v ps) {p:PF} (hp:ps[k]?=some p) :
  ∃g off cap cur,v = .slice (some ⟨g,off,none⟩) ps.length cap∧B≤g∧aB w g cur 67∧off+k*2+2≤cur.size∧cur[off+k*2]?=some (.int .i64 p.n)∧cur[off+k*2+1]?=some (.slice p.a p.l.length p.c) ∧
   (∀w' n,aB w' g (cur.setIfInBounds (off+k*2) (.int .i64 n)) 67→w.grownBy w' (some g)→nW w' B v (ps.set k ⟨n,p.a,p.l,p.c⟩)) ∧
   (∀w' a l c,aB w' g (cur.setIfInBounds (off+k*2+1) (.slice a l.length c)) 67→w.grownBy w' (some g)→Own w B 3 1 (.slice a l.length c) l.length (l.map fT)→(∀(j:Nat) q,j≠k→ps[j]?=some q→Apart (.slice a l.length c) (mW q))→nW w' B v (ps.set k ⟨p.n,a,l,c⟩)):=by
 have hk:=(cK.1 hp).1;have o:=(cK.1 hp).2;obtain⟨g,off,cap,cur,hv,hB,b,r,m⟩:=mF jL (by decide) rfl h.own k hk;have e:∀j u,(ps.flatMap qg)[j]?=some u→cur[off+j]?=some u:=by
  rcases h.own.2 with ⟨h1,h2⟩|⟨g',off',cap',cur',hv',hB',hblk',_,_,_,hc⟩
  ·omega
  rw[hv] at hv';cases hv';have:cur=cur':=by unfold aB at b hblk';rw[b] at hblk';simpa using hblk'
  subst this;exact hc
 have c0:cur[off+k*2]?=some (.int .i64 p.n):=by have:=e (k*2) (.int .i64 p.n) (by have:=flat_get qg 2 jL ps k hk 0 (.int .i64 p.n) (by rw[o];rfl);simpa using this);exact this
 have c1:cur[off+k*2+1]?=some (.slice p.a p.l.length p.c):=by have:=e (k*2+1) (.slice p.a p.l.length p.c) (flat_get qg 2 jL ps k hk 1 _ (by rw[o];rfl));simpa[mZ] using this
 have f:∀ {w' : World},w.grownBy w' (some g)→∀(i:Nat) q,ps[i]?=some q→Own w' B 3 1 (mW q) q.l.length (q.l.map fT):=fun d i q hq=>ak (h.each i q hq) b (by decide) d;have s:∀(j:Nat) q,j≠k→ps[j]?=some q→Apart (mW p) (mW q):=fun j q hj hq=>by
  rcases vK hj with h1|h1
  ·exact (h.apart j k q p h1 hq hp).symm
  ·exact h.apart k j p q h1 hp hq
 refine⟨g,off,cap,cur,hv,hB,b,r,c0,c1,fun w' n hb d => ?_,fun w' a l c hb d ho ha => ?_⟩
 ·refine h.set hk (m w' ⟨n,p.a,p.l,p.c⟩ ?_) (f d k p hp) (fun i q _ hq=>f d i q hq) s;rw[show qg ⟨n,p.a,p.l,p.c⟩=[.int .i64 n,.slice p.a p.l.length p.c] from rfl,UQ _ _ _ _ c1];exact hb
 refine h.set hk (m w' ⟨p.n,a,l,c⟩ ?_) (ak ho b (by decide) d) (fun i q _ hq=>f d i q hq) ha;rw[show qg ⟨p.n,a,l,c⟩=[.int .i64 p.n,.slice a l.length c] from rfl,TT _ _ _ _ c0];exact hb
theorem nW.num {ps:List PF} (h:nW w B v ps) {p:PF} (hp:ps[k]?=some p) (hi:i<p.l.length) :
  ∃g off cap cur,p.a=some ⟨g,off,none⟩∧p.c=cap∧B≤g∧aB w g cur 3∧off+i+1≤cur.size ∧
   ∀w' x,aB w' g (bB cur (off+i) [.int .i64 x]) 3→w.grownBy w' (some g)→nW w' B v (ps.set k ⟨p.n,p.a,p.l.set i x,p.c⟩):=by
 have hk:=(cK.1 hp).1;have u:=(cK.1 hp).2;have b:=h.each k p hp;rw[←iZ] at b;obtain⟨g,off,cap,cur,hv,hB,d,s,o⟩:=mF (fun x:Int=>(rfl : [fT x].length=1)) (by decide) rfl b i hi;unfold mW at hv;simp only[lU] at hv;obtain⟨ha,_,hc⟩:=hv;refine⟨g,off,cap,cur,ha,hc,hB,d,(by simpa using s),fun w' x hb r => ?_⟩;have t:∀(j:Nat) q,j≠k→ps[j]?=some q→Apart (mW p) (mW q):=fun j q hj hq=>by
  rcases vK hj with h1|h1
  ·exact (h.apart j k q p h1 hq hp).symm
  ·exact h.apart k j p q h1 hp hq
 have m : Own w' B 67 2 v ps.length (ps.flatMap qg):=ak h.own d (by decide) r;have f:(ps.set k ⟨p.n,p.a,p.l.set i x,p.c⟩).flatMap qg=ps.flatMap qg:=by
  have e1:qg ⟨p.n,p.a,p.l.set i x,p.c⟩=qg p:=by simp[qg,pK]
  apply mR;intro j
  by_cases hj:j<ps.length*2
  ·have hq:j / 2<ps.length:=by omega
   have f1:=jl qg 2 jL (ps.set k ⟨p.n,p.a,p.l.set i x,p.c⟩) (j / 2) (by rw[bH];exact hq) (j%2) (by omega);have f2:=jl qg 2 jL ps (j / 2) hq (j%2) (by omega);rw[show j / 2*2+j%2=j from by omega] at f1 f2;rw[f1,f2];congr 1;rw[CQ]
   by_cases e:k=j / 2
   ·rw[if_pos e,e1,←u];congr 1;simp only[e]
   ·rw[if_neg e]
  ·rw[dI (by rw[Pw.flat_len qg 2 jL,bH];omega),dI (by rw[Pw.flat_len qg 2 jL];omega)]
 refine h.set hk (by rw[f];exact m) ?_ (fun j q hj hq=>(h.each j q hq).apart (t j q hj hq) (by
  have:(mW p).ownBlock=some g:=by unfold mW;rw[ha];rfl
  rw[this];exact r)) (fun j q hj hq=>by rw[show mW ⟨p.n,p.a,p.l.set i x,p.c⟩=mW p from by simp[mW]];exact t j q hj hq)
 have h9:=o w' x (by rw[sH];exact hb);rw[iZ] at h9;simpa[mW] using h9
theorem Lf (ps:List PF) (k file index:Int) (a:Option Addr) (c:Nat) (w:World) (h:Mw w a c ps) (hk64 : -9223372036854775808≤k∧k≤9223372036854775807) :
  Calls Tryz.prog 91 #[.agg (PE a ps.length c k),.int .i64 file,.int .i64 index] w fun r w' => ∃v ps' k',r = .returned (.tuple #[.agg #[v,.int .i64 k'],.int .i64 (dD (bY ps k) file index),.int .i64 (dw (bY ps k) file index)])∧nW w' w.heap.size v ps'∧bY ps' k' = dJ (bY ps k) file index∧Below w.heap.size w w':=by
 have kq:=bi h.le h.mx;unfold maxLen at kq;unfold PE;go_enter func91,ntmps91;go_upto_region 1 with (fail);refine rE (fun W=>Code.wp _ _ _ _ W) fun W0 h3 hS kc km => ?_;clear km
 go_wp2_with (refine ax _ _ rfl _ 0 rfl rfl _ hS.rd _ underlying37 rfl store_size ?_)
 refine (Em ps k a c _ (h.below h3) hk64).mono ?_;rintro r w1 ⟨rfl,hN⟩;have d:=ae h3 hN;have hx:=hS.ext hN;have o:=kc.ext hN;clear h3 hS kc hN
 by_cases h0:aO (bY ps k)=0
 ·have H0:=Lib.hid h0;rw[h0];clear h0;have ku:=hx.cell
  by_cases h5:file<0∨(ps.length:Int)≤file
  ·have q0:Hid _:=Lib.hid (wS (s:=bY ps k) (k:=file) (i:=index) (e:=5) (by unfold dw;rw[if_neg (by rw[H0.out];simp),if_pos (by simpa[bY] using h5)]) (by decide));have ky : file<0∨(¬file<0∧(ps.length:Int)≤file):=by omega
   clear h5;rcases ky with g1|⟨g1,g2⟩
   ·skip
    go_wp2_with (refine az rfl _ _ _ rfl (w.heap.size+1) #[.slice none 0 0,.int .i64 0] rfl rfl _ _ o rfl store_size (rT none 0 0 0) ?_)
    all_goals
     intro w5 t f;have j:Below w.heap.size w w5:=d.grown f d.size (fun k hk=>by cases hk;omega);go_wp2;refine bodyPost_ret (v:=.tuple #[.agg #[.slice none 0 0,.int .i64 0],.int .i64 0,.int .i64 (5)]) (iw results91 _ _ (w.heap.size+1) _ _ _ _ _ rfl rfl rfl t underlying37 rfl store_size) rfl ?_;have q:=q0.out;exact⟨_,_,_,by rw[q.1,q.2.1],nW.nil _ _,by rw[q.2.2];rfl,j⟩
   skip
   go_wp2_with (refine az rfl _ _ _ rfl (w.heap.size+1) #[.slice none 0 0,.int .i64 0] rfl rfl _ _ o rfl store_size (rT none 0 0 0) ?_)
   all_goals
    intro w5 t f;have j:Below w.heap.size w w5:=d.grown f d.size (fun k hk=>by cases hk;omega);go_wp2;refine bodyPost_ret (v:=.tuple #[.agg #[.slice none 0 0,.int .i64 0],.int .i64 0,.int .i64 (5)]) (iw results91 _ _ (w.heap.size+1) _ _ _ _ _ rfl rfl rfl t underlying37 rfl store_size) rfl ?_;have q:=q0.out;exact⟨_,_,_,by rw[q.1,q.2.1],nW.nil _ _,by rw[q.2.2];rfl,j⟩
  obtain⟨F,rfl⟩:=fE (show 0≤file by omega);have hF:F<ps.length:=by omega
  have kJ:(F:Int)<(ps.length:Int):=by omega
  obtain⟨b,off,p,rfl,hp,c0,c1⟩:=DJ (h.below d).rd F hF;have kE:=h.good p (bO hp);have kp:=Lib.hid hp;have hJ:Hid (aK (bY ps k) F=p.fi):=Lib.hid (by unfold aK bY;rw[if_pos (by omega),bR,aS,jO,hp];rfl);have hW:Hid (¬((F:Int)<0∨(((bY ps k).fs.length:Nat):Int)≤(F:Int))):=Lib.hid (by simpa[bY] using hF);clear h5 hp
  by_cases h9:index<0∨(p.l.length:Int)≤index
  ·have q0:Hid _:=Lib.hid (wS (s:=bY ps k) (k:=F) (i:=index) (e:=9) (by unfold dw;rw[if_neg (by rw[H0.out];simp),if_neg hW.out,if_pos (by rw[hJ.out];exact h9)]) (by decide));have kx : index<0∨(¬index<0∧(p.l.length:Int)≤index):=by omega
   clear h9;rcases kx with g1|⟨g1,g2⟩
   ·skip
    go_wp2_with (refine az rfl _ _ _ rfl (w.heap.size+1) #[.slice none 0 0,.int .i64 0] rfl rfl _ _ o rfl store_size (rT none 0 0 0) ?_)
    all_goals
     intro w5 t f;have j:Below w.heap.size w w5:=d.grown f d.size (fun k hk=>by cases hk;omega);go_wp2;refine bodyPost_ret (v:=.tuple #[.agg #[.slice none 0 0,.int .i64 0],.int .i64 0,.int .i64 (9)]) (iw results91 _ _ (w.heap.size+1) _ _ _ _ _ rfl rfl rfl t underlying37 rfl store_size) rfl ?_;have q:=q0.out;exact⟨_,_,_,by rw[q.1,q.2.1],nW.nil _ _,by rw[q.2.2];rfl,j⟩
   skip
   go_wp2_with (refine az rfl _ _ _ rfl (w.heap.size+1) #[.slice none 0 0,.int .i64 0] rfl rfl _ _ o rfl store_size (rT none 0 0 0) ?_)
   all_goals
    intro w5 t f;have j:Below w.heap.size w w5:=d.grown f d.size (fun k hk=>by cases hk;omega);go_wp2;refine bodyPost_ret (v:=.tuple #[.agg #[.slice none 0 0,.int .i64 0],.int .i64 0,.int .i64 (9)]) (iw results91 _ _ (w.heap.size+1) _ _ _ _ _ rfl rfl rfl t underlying37 rfl store_size) rfl ?_;have q:=q0.out;exact⟨_,_,_,by rw[q.1,q.2.1],nW.nil _ _,by rw[q.2.2];rfl,j⟩
  obtain⟨I,rfl⟩:=fE (show 0≤index by omega);have hI:I<p.l.length:=by omega
  have kH:(I:Int)<(p.l.length:Int):=by omega
  have kh:Hid (¬((I:Int)<0∨(((aK (bY ps k) F).b.length:Nat):Int)≤(I:Int))):=Lib.hid (by rw[hJ.out];exact h9);have kl:=Gp H0.out;have kD:ps.length≤5:=by simpa[bY] using (jY H0.out).1
  have hQ:k≤80:=(jY H0.out).2.2;clear h9
  go_wp2_with (refine ax _ _ rfl _ 0 rfl rfl _ hx.rd _ underlying37 rfl store_size ?_)
  refine (EL ps k _ c _ (h.below d) kl).mono ?_;rintro r w2 ⟨v2,qs,rfl,h7,hm,hM⟩;have kd:=Lib.hid hm;have ke:qs.length=ps.length:=by simpa using congrArg List.length hm
  have ko:F<qs.length:=by omega
  clear ke;obtain⟨q,hq⟩:∃q,qs[F]?=some q:=⟨qs[F]'ko,aH _⟩;have hU:q.fi=p.fi:=by have h1:=congrArg (fun l=>l[F]?) hm;simp only[jO,hq,kp.out,qA,iY] at h1;exact h1
  have hV:=Lib.hid (show q.l=p.l from congrArg Fi.b hU);have kn:=Lib.hid (show q.n=p.n from congrArg Fi.n hU);have hn:I<q.l.length:=by rw[hV.out];exact hI
  have hE:=ae d hM;have ka:=hx.ext hM;have hg:=o.ext hM;have hR:=h7.mono d.size;obtain⟨av,cv,rfl,_⟩:=h7.rd;clear hm ku d hx o hM h7 c0 c1
  go_wp2_with (refine aI rfl _ _ _ rfl #[.slice av qs.length cv,.int .i64 k] rfl rfl rfl store_size (rT _ _ _ _) ?_)
  intro w3 hH hs;have ha:=ae hE hH;have h8:=ka.ext hH;have hd:=hg.ext hH;have hl:=hR.below hH;have kr:w.heap.size+1<w2.heap.size:=hg.lt;obtain⟨gg,kk⟩:∃g,g=w2.heap.size:=⟨_,rfl⟩;rw[←kk] at hs kr ⊢;clear kk hE ka hg hR hH;obtain⟨g,off9,cap,cur,hv,kK,hD,kA,e0,e1,_,_⟩:=hl.file hq;obtain⟨g2,off2,cap2,cur2,kg,kC,kL,hC,kt,hu⟩:=hl.num hq (i:=I) hn;simp only[lU] at hv;obtain⟨rfl,_,rfl⟩:=hv;have kI:(F:Int)<(qs.length:Int):=by omega
  have kG:(I:Int)<(q.l.length:Int):=by omega
  rw[kg] at e1;have hK:=hs.cell;have hL:=hD.cell;have hZ:w3.cell? ⟨g2,off2+I,none⟩=some (.int .i64 q.l[I]):=by obtain⟨_,_,e2,hc⟩:=jv ((hl.rd).elim fun _ hx=>hx.elim fun _ hy=>(hy.2.good q (bO hq)).rd) I hn;rw[kg] at e2;cases e2;exact hc
  have hj:Hid (aX (bY ps k) F I=q.l[I]):=Lib.hid (by unfold aX;rw[hJ.out,bR];show p.l.getD I 0=_;rw[aS,←hV.out,aH hn];rfl);generalize hB0:q.l[I]=B0 at hZ hj;clear hB0 hU;go_upto_region 10 with (fail)
  by_cases hneg:B0<0
  ·have hP:=h8;clear hL hZ hD e0 e1
   go_wp2_with fail
   refine (PH ps k _ c w.heap.size _ (h.below ha) hP hQ).mono ?_;rintro r w4 ⟨rfl,hG⟩;have ks:=PY (s:=bY ps k) hQ;have y:=ae ha hG;have hb:=hd.ext hG;have hr:=hs.ext hG;have hO:=hl.below hG;clear hP ha hd hs hl hG hK hu hC h8;have h2:Hid (dw (bY ps k) F I=if gK (bY ps k)<0 then 10 else 0):=Lib.hid (by
    unfold dw;rw[if_neg (by rw[H0.out];simp),if_neg hW.out,if_neg kh.out,hj.out]
    by_cases z:gK (bY ps k)<0
    ·rw[if_pos ⟨hneg,z⟩,if_pos z]
    ·rw[if_neg (fun hh=>z hh.2),if_neg z])
   generalize hX:gK (bY ps k)=X at h2 ks;have kj:=Lib.hid hX;clear hX
   by_cases hX0:X<0
   ·have q0:Hid _:=Lib.hid (wS (s:=bY ps k) (k:=F) (i:=I) (e:=10) (by rw[h2.out,if_pos hX0]) (by decide));have d:=y;have o:=hb;clear y hb hr hO
    go_wp2_with (refine az rfl _ _ _ rfl (w.heap.size+1) #[.slice none 0 0,.int .i64 0] rfl rfl _ _ o rfl store_size (rT none 0 0 0) ?_)
    all_goals
     intro w5 t f;have j:Below w.heap.size w w5:=d.grown f d.size (fun k hk=>by cases hk;omega);go_wp2;refine bodyPost_ret (v:=.tuple #[.agg #[.slice none 0 0,.int .i64 0],.int .i64 0,.int .i64 (10)]) (iw results91 _ _ (w.heap.size+1) _ _ _ _ _ rfl rfl rfl t underlying37 rfl store_size) rfl ?_;have q:=q0.out;exact⟨_,_,_,by rw[q.1,q.2.1],nW.nil _ _,by rw[q.2.2];rfl,j⟩
   have hz:Hid (dw (bY ps k) F I=0):=Lib.hid (by rw[h2.out,if_neg hX0]);have u:Hid (dD (bY ps k) F I=X∧dw (bY ps k) F I=0∧bY (qs.set F ⟨q.n,q.a,q.l.set I X,q.c⟩) k=dJ (bY ps k) F I):=Lib.hid (by
    refine⟨?_,hz.out,?_⟩
    ·unfold dD;rw[if_neg (by rw[hz.out];simp),hj.out,if_pos hneg,kj.out]
    unfold dJ;rw[if_neg (by rw[hz.out];simp),hj.out,if_pos hneg,kj.out,hJ.out];unfold zL bY;rw[bR,bR,CU,kd.out];unfold PF.fi;rw[hV.out,kn.out])
   obtain⟨g3,off3,cap3,cur3,kb,kB,hB,_,e03,e13,_,_⟩:=hO.file hq;obtain⟨g4,off4,cap4,cur4,kf,kz,kw,m,hY,ht⟩:=hO.num hq (i:=I) hn;simp only[lU] at kb;obtain⟨e31,_,e33⟩:=kb;cases e31;subst e33;rw[kf] at e13;have hK:=hr.cell;have hL:=hB.cell;have kF:gg≠g4:=fun e=>by subst e;unfold aB at hr m;rw[hr] at m;simp at m
   go_wp2_with (refine aA rfl _ _ _ rfl g4 (off4+I) _ [.int .i64 X] rfl rfl rfl _ _ m hY int_size (IE _ _) ?_)
   intro w5 ki f;have h6:=ht w5 X ki f;have hA:=bq hr m (by decide) f;have hw:=bq hb m (by decide) f;have x:=y.grown f y.size (fun k hk=>by cases hk;exact kw);clear hr hb hO y hB m ht hK hL e03 e13 ki f;have kv:=hA.cell
   go_wp2_with (first | (refine ax _ _ rfl _ 0 rfl rfl _ hA.rd _ underlying37 rfl store_size ?_) | (refine az rfl _ _ _ rfl (w.heap.size+1) _ rfl rfl _ _ hw rfl store_size (rT _ _ _ _) ?_))
   intro wf hT hf;have h4:=h6.keep hw (by decide) (by decide) hf;have hi:=x.grown hf x.size (fun k hk=>by cases hk;omega);go_wp2;refine bodyPost_ret (v:=.tuple #[.agg #[.slice _ _ _,.int .i64 k],.int .i64 (X),.int .i64 0]) (iw results91 _ _ (w.heap.size+1) _ _ _ _ _ rfl rfl rfl hT underlying37 rfl store_size) rfl ?_;exact⟨_,_,_,by rw[u.out.1,u.out.2.1],h4,u.out.2.2,hi⟩
  have u:Hid (dD (bY ps k) F I=B0∧dw (bY ps k) F I=0∧bY qs k=dJ (bY ps k) F I):=Lib.hid (by
   have z:dw (bY ps k) F I=0:=by unfold dw;rw[if_neg (by rw[H0.out];simp),if_neg hW.out,if_neg kh.out,if_neg (by rw[hj.out];omega)]
   refine⟨?_,z,?_⟩
   ·unfold dD;rw[if_neg (by rw[z];simp),hj.out,if_neg hneg]
   ·unfold dJ;rw[if_neg (by rw[z];simp),hj.out,if_neg hneg];unfold bY;rw[kd.out])
  have hA:=hs;have hw:=hd;have h6:=hl;have x:=ha;clear hs hd hl ha hD hC hu hK hL hZ e0 e1;have kv:=hA.cell
  go_wp2_with (first | (refine ax _ _ rfl _ 0 rfl rfl _ hA.rd _ underlying37 rfl store_size ?_) | (refine az rfl _ _ _ rfl (w.heap.size+1) _ rfl rfl _ _ hw rfl store_size (rT _ _ _ _) ?_))
  intro wf hT hf;have h4:=h6.keep hw (by decide) (by decide) hf;have hi:=x.grown hf x.size (fun k hk=>by cases hk;omega);go_wp2;refine bodyPost_ret (v:=.tuple #[.agg #[.slice _ _ _,.int .i64 k],.int .i64 (B0),.int .i64 0]) (iw results91 _ _ (w.heap.size+1) _ _ _ _ _ rfl rfl rfl hT underlying37 rfl store_size) rfl ?_;exact⟨_,_,_,by rw[u.out.1,u.out.2.1],h4,u.out.2.2,hi⟩
 have q0:Hid _:=Lib.hid (wS (s:=bY ps k) (k:=file) (i:=index) (e:=aO (bY ps k)) (by unfold dw;rw[if_pos h0]) h0);have kM : (aO (bY ps k) != 0)=true:=by simpa using h0
 clear h0
 go_wp2_with (refine az rfl _ _ _ rfl (w.heap.size+1) #[.slice none 0 0,.int .i64 0] rfl rfl _ _ o rfl store_size (rT none 0 0 0) ?_)
 all_goals
  intro w5 t f;have j:Below w.heap.size w w5:=d.grown f d.size (fun k hk=>by cases hk;omega);go_wp2;refine bodyPost_ret (v:=.tuple #[.agg #[.slice none 0 0,.int .i64 0],.int .i64 0,.int .i64 (aO (bY ps k))]) (iw results91 _ _ (w.heap.size+1) _ _ _ _ _ rfl rfl rfl t underlying37 rfl store_size) rfl ?_;have q:=q0.out;exact⟨_,_,_,by rw[q.1,q.2.1],nW.nil _ _,by rw[q.2.2];rfl,j⟩
def nX (a:Ar):Array Value:=#[.int .i64 a.fr,.int .i64 a.en,.bool a.rd,.bool a.wr,.bool a.sh,.int .i64 a.fi,.int .i64 a.ba]
def mM (a:Ar):List Value:=(nX a).toList
theorem sN (a:Ar):(mM a).length=7:=rfl
theorem TK (a:Ar):(nX a).all (·.oneCell')=true:=by simp[nX,Value.oneCell']
theorem area_size:(Tryz.prog.info? 99).map (·.size)=some 7:=by kernel_rfl
theorem area_info:(Tryz.prog.info? 99).map (fun i=>(i.zero,i.size,i.bytes))=some (some (.agg #[.int .i64 0,.int .i64 0,.bool false,.bool false,.bool false,.int .i64 0,.int .i64 0]),7,40):=by kernel_rfl
def Ff (w:World) (b o:Nat) (a:Ar):Prop:=∀j u,(mM a)[j]?=some u→w.cell? ⟨b,o+j,none⟩=some u
theorem Ff.below {o:Nat} {a:Ar} (h:Ff w b o a) (hb:Below w.heap.size w w'):Ff w' b o a:=fun j u hj=>cell_later hb (h j u hj)
theorem Ff.cells {o:Nat} {a:Ar} (h:Ff w b o a):w.cell? ⟨b,o,none⟩=some (.int .i64 a.fr)∧w.cell? ⟨b,o+1,none⟩=some (.int .i64 a.en)∧w.cell? ⟨b,o+2,none⟩=some (.bool a.rd)∧w.cell? ⟨b,o+3,none⟩=some (.bool a.wr) ∧
  w.cell? ⟨b,o+4,none⟩=some (.bool a.sh)∧w.cell? ⟨b,o+5,none⟩=some (.int .i64 a.fi)∧w.cell? ⟨b,o+6,none⟩=some (.int .i64 a.ba):=
 ⟨h 0 _ rfl,h 1 _ rfl,h 2 _ rfl,h 3 _ rfl,h 4 _ rfl,h 5 _ rfl,h 6 _ rfl⟩
theorem QP (b o:Nat) (a:Ar) (w:World) (h:Ff w b o a) :
  Calls Tryz.prog 136 #[.pointer (some ⟨b,o,none⟩)] w fun e w'=>e = .returned (.int .i64 (aQ a))∧Below w.heap.size w w':=by
 obtain⟨h0,h1,h2,h3,h4,h5,h6⟩:=h.cells;go_enter func136,ntmps136;go_upto_region 1 with (fail)
 by_cases g1:a.fr<0
 ·have hz:Hid (aQ a=3):=Lib.hid (by unfold aQ;rw[if_pos (by omega)]);go_quiet (fail);go_wp2;go_ret;exact⟨aT hz.out.symm,below_drewN (Below.refl _ _) _⟩
 by_cases g2:a.en≤a.fr
 ·have hz:Hid (aQ a=3):=Lib.hid (by unfold aQ;rw[if_pos (by omega)]);go_quiet (fail);go_wp2;go_ret;exact⟨aT hz.out.symm,below_drewN (Below.refl _ _) _⟩
 by_cases g3:64<a.en
 ·have hz:Hid (aQ a=3):=Lib.hid (by unfold aQ;rw[if_pos (by omega)]);go_quiet (fail);go_wp2;go_ret;exact⟨aT hz.out.symm,below_drewN (Below.refl _ _) _⟩
 by_cases g4:a.fi < -1
 ·have hz:Hid (aQ a=3):=Lib.hid (by unfold aQ;rw[if_pos (by omega)]);go_quiet (fail);go_wp2;go_ret;exact⟨aT hz.out.symm,below_drewN (Below.refl _ _) _⟩
 by_cases g5:5≤a.fi
 ·have hz:Hid (aQ a=3):=Lib.hid (by unfold aQ;rw[if_pos (by omega)]);go_quiet (fail);go_wp2;go_ret;exact⟨aT hz.out.symm,below_drewN (Below.refl _ _) _⟩
 by_cases g6:a.ba<0
 ·have hz:Hid (aQ a=3):=Lib.hid (by unfold aQ;rw[if_pos (by omega)]);go_quiet (fail);go_wp2;go_ret;exact⟨aT hz.out.symm,below_drewN (Below.refl _ _) _⟩
 have c:¬(a.fr<0∨a.en≤a.fr∨64<a.en∨a.fi < -1∨5≤a.fi∨a.ba<0):=by omega
 have f:IntKind.i64.wrap (a.en-a.fr)=a.en-a.fr:=bM _ (by omega);have d:IntKind.i64.wrap (12-(a.en-a.fr))=12-(a.en-a.fr):=bM _ (by omega);go_quiet (fail)
 by_cases f1:a.fi<0
 ·by_cases f2:a.ba=0
  ·cases f3:a.sh
   ·have hz:Hid (aQ a=0):=Lib.hid (by unfold aQ;rw[if_neg c,if_neg (by rw[f3];simp;omega)]);go_upto_region 4 with (fail);have d0:decide (0≤a.fi)=false:=decide_eq_false (by omega);go_quiet (fail);go_wp2;go_ret;exact⟨aT hz.out.symm,below_drewN (Below.refl _ _) _⟩
   have hz:Hid (aQ a=7):=Lib.hid (by unfold aQ;rw[if_neg c,if_pos (.inl ⟨f1,.inr f3⟩)]);go_wp2;go_ret;exact⟨aT hz.out.symm,below_drewN (Below.refl _ _) _⟩
  have hz:Hid (aQ a=7):=Lib.hid (by unfold aQ;rw[if_neg c,if_pos (.inl ⟨f1,.inl f2⟩)]);have f2' : (a.ba != 0)=true:=by simpa using f2
  go_wp2;go_ret;exact⟨aT hz.out.symm,below_drewN (Below.refl _ _) _⟩
 have f1' : 0≤a.fi:=by omega
 by_cases f2:12-(a.en-a.fr)<a.ba
 ·have hz:Hid (aQ a=7):=Lib.hid (by unfold aQ;rw[if_neg c,if_pos (.inr ⟨f1',f2⟩)]);go_upto_region 4 with (fail);have d0:decide (0≤a.fi)=true:=decide_eq_true (by omega);go_quiet (fail);go_wp2;go_ret;exact⟨aT hz.out.symm,below_drewN (Below.refl _ _) _⟩
 have hz:Hid (aQ a=0):=Lib.hid (by unfold aQ;rw[if_neg c,if_neg (by omega)]);go_upto_region 4 with (fail);have d0:decide (0≤a.fi)=true:=decide_eq_true (by omega);go_quiet (fail);go_wp2;go_ret;exact⟨aT hz.out.symm,below_drewN (Below.refl _ _) _⟩
theorem Gm (p q p' q' : Nat) (a b:Ar) (w:World) (h:Ff w p q a) (h' : Ff w p' q' b) (hs:BG a) :
  Calls Tryz.prog 137 #[.pointer (some ⟨p,q,none⟩),.pointer (some ⟨p',q',none⟩)] w fun e w'=>e = .returned (.bool (dz a b))∧Below w.heap.size w w':=by
 obtain⟨h0,h1,h2,h3,h4,h5,h6⟩:=h.cells;obtain⟨k0,k1,k2,k3,k4,k5,k6⟩:=h'.cells;obtain⟨s1,s2,s3⟩:=hs;have d:IntKind.i64.wrap (a.ba+a.en)=a.ba+a.en:=bM _ (by omega);have c:IntKind.i64.wrap (a.ba+a.en-a.fr)=a.ba+a.en-a.fr:=bM _ (by omega);go_enter func137,ntmps137
 by_cases hf:0≤a.fi
 ·go_upto_region 3 with (fail);go_quiet (fail);go_upto_region 4 with (fail);cases g1:(a.en==b.fr)
  ·have hz:Hid (dz a b=false):=Lib.hid (by unfold dz jE;rw[if_pos hf];simp only[g1,lu,lY,mi,nN]);go_quiet (fail);go_wp2;go_ret;exact⟨bK hz.out.symm,by first | exact below_drewN (Below.refl _ _) _ | exact below_drewN (below_drewN (Below.refl _ _) _) _⟩
  cases g2:(a.rd==b.rd)
  ·have hz:Hid (dz a b=false):=Lib.hid (by unfold dz jE;rw[if_pos hf];simp only[g1,g2,lu,lY,mi,nN]);go_quiet (fail);go_wp2;go_ret;exact⟨bK hz.out.symm,by first | exact below_drewN (Below.refl _ _) _ | exact below_drewN (below_drewN (Below.refl _ _) _) _⟩
  cases g3:(a.wr==b.wr)
  ·have hz:Hid (dz a b=false):=Lib.hid (by unfold dz jE;rw[if_pos hf];simp only[g1,g2,g3,lu,lY,mi,nN]);go_quiet (fail);go_wp2;go_ret;exact⟨bK hz.out.symm,by first | exact below_drewN (Below.refl _ _) _ | exact below_drewN (below_drewN (Below.refl _ _) _) _⟩
  cases g4:(a.sh==b.sh)
  ·have hz:Hid (dz a b=false):=Lib.hid (by unfold dz jE;rw[if_pos hf];simp only[g1,g2,g3,g4,lu,lY,mi,nN]);go_quiet (fail);go_wp2;go_ret;exact⟨bK hz.out.symm,by first | exact below_drewN (Below.refl _ _) _ | exact below_drewN (below_drewN (Below.refl _ _) _) _⟩
  cases g5:(a.fi==b.fi)
  ·have hz:Hid (dz a b=false):=Lib.hid (by unfold dz jE;rw[if_pos hf];simp only[g1,g2,g3,g4,g5,lu,lY,mi,nN]);go_quiet (fail);go_wp2;go_ret;exact⟨bK hz.out.symm,by first | exact below_drewN (Below.refl _ _) _ | exact below_drewN (below_drewN (Below.refl _ _) _) _⟩
  cases g6:(b.ba==(a.ba+a.en-a.fr))
  ·have hz:Hid (dz a b=false):=Lib.hid (by unfold dz jE;rw[if_pos hf];simp only[g1,g2,g3,g4,g5,g6,lu,lY,mi,nN]);go_quiet (fail);go_wp2;go_ret;exact⟨bK hz.out.symm,by first | exact below_drewN (Below.refl _ _) _ | exact below_drewN (below_drewN (Below.refl _ _) _) _⟩
  have hz:Hid (dz a b=true):=Lib.hid (by unfold dz jE;rw[if_pos hf];simp only[g1,g2,g3,g4,g5,g6,lu,lY,mi,nN]);go_quiet (fail);go_wp2;go_ret;exact⟨bK hz.out.symm,by first | exact below_drewN (Below.refl _ _) _ | exact below_drewN (below_drewN (Below.refl _ _) _) _⟩
 go_upto_region 4 with (fail);cases g1:(a.en==b.fr)
 ·have hz:Hid (dz a b=false):=Lib.hid (by unfold dz jE;rw[if_neg hf];simp only[g1,lu,lY,mi,nN]);go_quiet (fail);go_wp2;go_ret;exact⟨bK hz.out.symm,by first | exact below_drewN (Below.refl _ _) _ | exact below_drewN (below_drewN (Below.refl _ _) _) _⟩
 cases g2:(a.rd==b.rd)
 ·have hz:Hid (dz a b=false):=Lib.hid (by unfold dz jE;rw[if_neg hf];simp only[g1,g2,lu,lY,mi,nN]);go_quiet (fail);go_wp2;go_ret;exact⟨bK hz.out.symm,by first | exact below_drewN (Below.refl _ _) _ | exact below_drewN (below_drewN (Below.refl _ _) _) _⟩
 cases g3:(a.wr==b.wr)
 ·have hz:Hid (dz a b=false):=Lib.hid (by unfold dz jE;rw[if_neg hf];simp only[g1,g2,g3,lu,lY,mi,nN]);go_quiet (fail);go_wp2;go_ret;exact⟨bK hz.out.symm,by first | exact below_drewN (Below.refl _ _) _ | exact below_drewN (below_drewN (Below.refl _ _) _) _⟩
 cases g4:(a.sh==b.sh)
 ·have hz:Hid (dz a b=false):=Lib.hid (by unfold dz jE;rw[if_neg hf];simp only[g1,g2,g3,g4,lu,lY,mi,nN]);go_quiet (fail);go_wp2;go_ret;exact⟨bK hz.out.symm,by first | exact below_drewN (Below.refl _ _) _ | exact below_drewN (below_drewN (Below.refl _ _) _) _⟩
 cases g5:(a.fi==b.fi)
 ·have hz:Hid (dz a b=false):=Lib.hid (by unfold dz jE;rw[if_neg hf];simp only[g1,g2,g3,g4,g5,lu,lY,mi,nN]);go_quiet (fail);go_wp2;go_ret;exact⟨bK hz.out.symm,by first | exact below_drewN (Below.refl _ _) _ | exact below_drewN (below_drewN (Below.refl _ _) _) _⟩
 cases g6:(b.ba==0)
 ·have hz:Hid (dz a b=false):=Lib.hid (by unfold dz jE;rw[if_neg hf];simp only[g1,g2,g3,g4,g5,g6,lu,lY,mi,nN]);go_quiet (fail);go_wp2;go_ret;exact⟨bK hz.out.symm,by first | exact below_drewN (Below.refl _ _) _ | exact below_drewN (below_drewN (Below.refl _ _) _) _⟩
 have hz:Hid (dz a b=true):=Lib.hid (by unfold dz jE;rw[if_neg hf];simp only[g1,g2,g3,g4,g5,g6,lu,lY,mi,nN]);go_quiet (fail);go_wp2;go_ret;exact⟨bK hz.out.symm,by first | exact below_drewN (Below.refl _ _) _ | exact below_drewN (below_drewN (Below.refl _ _) _) _⟩
theorem Rl {l:List Ar} (h:dP w a (l.flatMap mM)) (k:Nat) (hk:k<l.length):∃b off,a=some ⟨b,off,none⟩∧Ff w b (off+k*7) l[k]:=h.elem sN (by decide) k hk
theorem Ee {l:List Ar} (h:dP w (some ⟨b,off,none⟩) (l.flatMap mM)) (k:Nat) (hk:k<l.length):Ff w b (off+k*7) l[k]:=by
 obtain⟨b',off',e,h1⟩:=Rl h k hk;cases e;exact h1
def Kr (e:Int × Int):Array Value:=#[.int .i64 e.1,.int .i64 e.2]
theorem fau_size:(Tryz.prog.info? 150).map (·.size)=some 2:=by kernel_rfl
theorem mO (x y:Int):(#[Value.int .i64 x,Value.int .i64 y]:Array Value).all (·.oneCell')=true:=by simp[Value.oneCell']
theorem Mc (l:List Ar) (a:Option Addr) (c:Nat) (w:World) (hrd:dP w a (l.flatMap mM)) (hl:l.length≤9223372036854775807) :
  Calls Tryz.prog 111 #[.slice a l.length c] w fun e w'=>e = .returned (.agg (Kr (bI l)))∧Below w.heap.size w w':=by
 go_enter func111,ntmps111;go_upto_region 1 with (fail);refine gB (fun W=>Code.wp _ _ _ _ W) fun W0 d g hV => ?_;clear hV
 by_cases h16:16<l.length
 ·have hT : (16:Int)<(l.length:Int):=by omega
  have hz:Hid (bI l=(4,0)):=Lib.hid (by unfold bI;rw[if_pos h16])
  go_wp2_with (refine az rfl _ _ _ rfl w.heap.size #[.int .i64 (4),.int .i64 (0)] rfl rfl _ _ g rfl fau_size (mO _ _) ?_)
  intro w5 t p;have o:Below w.heap.size w w5:=d.grown p d.size (fun k hk=>by cases hk;exact ay _);go_wp2;refine bodyPost_ret (v:=.agg #[.int .i64 (4),.int .i64 (0)]) (eF results111 _ _ w.heap.size _ _ _ rfl t underlying150 rfl fau_size) rfl ?_;exact⟨by rw[hz.out];rfl,o⟩
 have hT : ¬(16:Int)<(l.length:Int):=by omega
 have h0:Hid (bI l=jd (pO l 0) 0 (l.drop 0)):=Lib.hid (by unfold bI;rw[if_neg h16];rfl);go_upto_region 4 with (fail)
 go_loopw [11] (fun i wr => ∃k:Nat,k≤l.length∧i = .int .i64 k∧Below w.heap.size w wr∧aB wr w.heap.size #[.int .i64 0,.int .i64 0] 150∧(∀i (h:i<l.length),i<k→aQ l[i]=0)∧Hid (bI l=jd (pO l k) k (l.drop k))) (fun i _=>l.length-(intOf i).toNat)
 case atStart=>exact⟨0,aV _,rfl,d,g,fun i _ h=>absurd h (dV _),h0⟩
 case round=>
  clear d g h0;obtain⟨k,hk,rfl,d,g,hQ,z⟩:=hrel;have hp:=Lib.hid hQ;clear hQ
  by_cases hlt:k<l.length
  ·obtain⟨b,off,rfl,hA⟩:=Rl (hrd.below d) k hlt;have hX:(k:Int)<(l.length:Int):=by omega
   go_wp2_with fail
   refine (QP b (off+k*7) l[k] _ hA).mono ?_;rintro r w2 ⟨rfl,hD⟩;have j:=ae d hD;have n:=g.ext hD;clear d g hD hA
   by_cases he:aQ l[k]=0
   ·have u:=Lib.hid he;rw[he];clear he;go_upto_region 9 with (fail)
    by_cases hk0:k=0
    ·subst hk0;have hW:decide ((0:Int)<((0:Nat):Int))=false:=rfl;have hB:Hid (bI l=jd (pO l (0+1)) (0+1) (l.drop (0+1))):=Lib.hid (by rw[z.out];exact uU hlt u.out rfl);go_quiet (fail);go_wp2;go_roundw
     case rel=>exact⟨0+1,by omega,by go_num,below_drewN j _,n.drewN _,lN hp.out hlt u.out,hB⟩
     case measure=>simp[intOf];omega
    obtain⟨m,rfl⟩:∃m,k=m+1:=⟨k-1,by omega⟩;have hW:decide ((0:Int)<((m+1:Nat):Int))=true:=decide_eq_true (by omega);have hc:IntKind.i64.wrap (((m+1:Nat):Int)-1)=(m:Int):=by rw[bM _ (by omega)];omega
    have x:m<l.length:=by omega
    have ha:IntKind.i64.wrap (m:Int)=(m:Int):=bM _ (by omega);have hh:(0:Int)≤(m:Int)+1:=by omega
    have hg:(m:Int)+1<(l.length:Int):=by omega
    have hf:((m:Int)+1).toNat=m+1:=by omega
    have hC:=Lib.hid (JS hlt);have hR:=(bD (hp.out m x (by omega))).1;have hY:=(bD u.out).1;have hS:=hrd.below j;have hm:=Ee hS (m+1) hlt;have hi:=Ee hS m x;generalize hA1:l[m+1]=A1 at *
    generalize hA0:l[m]=A0 at *
    by_cases hov:A1.fr<A0.en
    ·have hz:Hid (bI l=(2,((m+1:Nat):Int))):=Lib.hid (by rw[z.out];exact uR hlt (by rw[hA1];exact u.out) (by rw[hA1,hC.out,decide_eq_true hov];rfl));refine aM 26 [_,_,_,_,_,_,.v (.pointer (some ⟨b,off+m*7,none⟩)),_,.v (.int .i64 A0.en),_,_,.v (.pointer (some ⟨b,off+(m+1)*7,none⟩)),_,.v (.int .i64 A1.fr),_,_,_,_,_,_,_,_,_,_,_,.v (.bool true)] (Gk rfl (Gb (.bool true) (by simp[go_sem]) rfl rfl rfl rfl rfl (Gk rfl (Gk rfl (Gk rfl (Gb (.int .i64 (m:Int)) (by simp[go_sem,hc,ha]) rfl rfl rfl rfl rfl (ag ?_ (Gf b (off+m*7+1) rfl rfl (ag ?_ (Gk rfl (Gk rfl (ag ?_ (Gf b (off+(m+1)*7) rfl rfl (ag ?_ (Gb (.bool true) (by simp[go_sem,hov]) rfl rfl rfl rfl rfl (Gk rfl (Gk rfl (Gk rfl (Gk rfl (Gk rfl (Gk rfl (Gk rfl (Gk rfl (Gk rfl (Gk rfl (Gk rfl (aC))))))))))))))))))))))))))) (fun _=>rfl) rfl ?_
     ·intro ρ y W hw hn hb hd;have hy:=hw 26 3 rfl;have h3:y 3=_:=hd 3 rfl;have hx:=hw 28 5 rfl;have h5:y 5=_:=hd 5 rfl;refine aj (.pointer (some ⟨b,off+m*7,none⟩)) (bu 2 25 true true rfl rfl ((hw 25 2 rfl).trans (hd 2 rfl))) (by simp[execOp,go_sem,hy,h3,hx,h5,x]) rfl
     ·intro ρ y W hw hn hb hd;have hv:=hw 30 7 rfl;have h7:y 7=_:=hd 7 rfl;have s:=(hi.below hb).cells.2.1;refine aj (.int .i64 A0.en) (bu 2 25 true true rfl rfl ((hw 25 2 rfl).trans (hd 2 rfl))) (by simp[execOp,go_sem,hv,h7,s]) rfl
     ·intro ρ y W hw hn hb hd;have hu:=hw 32 9 rfl;have h9:y 9=_:=hd 9 rfl;have ht:=hw 33 10 rfl;have hr:y 10=_:=hd 10 rfl;refine aj (.pointer (some ⟨b,off+(m+1)*7,none⟩)) (bu 2 25 true true rfl rfl ((hw 25 2 rfl).trans (hd 2 rfl))) (by simp[execOp,go_sem,hu,h9,ht,hr,hlt,hh,hg,hf]) rfl
     ·intro ρ y W hw hn hb hd;have hs:=hw 35 12 rfl;have hq:y 12=_:=hd 12 rfl;have s:=(hm.below hb).cells.1;refine aj (.int .i64 A1.fr) (bu 2 25 true true rfl rfl ((hw 25 2 rfl).trans (hd 2 rfl))) (by simp[execOp,go_sem,hs,hq,s]) rfl
     intro y WA q _;have d:=ae j q;have g:=n.ext q;clear j n
     go_wp2_with (refine az rfl _ _ _ rfl w.heap.size #[.int .i64 (2),.int .i64 (((m+1:Nat):Int))] rfl rfl _ _ g rfl fau_size (mO _ _) ?_)
     intro w5 t p;have o:Below w.heap.size w w5:=d.grown p d.size (fun k hk=>by cases hk;exact ay _);go_wp2;refine bodyPost_ret (v:=.agg #[.int .i64 (2),.int .i64 (((m+1:Nat):Int))]) (eF results111 _ _ w.heap.size _ _ _ rfl t underlying150 rfl fau_size) rfl ?_;exact⟨by rw[hz.out];rfl,o⟩
    cases hj:dz A0 A1
    ·have hB:Hid (bI l=jd (pO l (m+1+1)) (m+1+1) (l.drop (m+1+1))):=Lib.hid (by rw[z.out];exact uU hlt (by rw[hA1];exact u.out) (by rw[hA1,hC.out,decide_eq_false hov,hj];rfl));refine aM 26 [_,_,_,_,_,_,.v (.pointer (some ⟨b,off+m*7,none⟩)),_,.v (.int .i64 A0.en),_,_,.v (.pointer (some ⟨b,off+(m+1)*7,none⟩)),_,.v (.int .i64 A1.fr),_,_,_,_,_,.v (.pointer (some ⟨b,off+m*7,none⟩)),_,_,.v (.pointer (some ⟨b,off+(m+1)*7,none⟩)),.v (.bool false),_,.v (.bool false)] (Gk rfl (Gb (.bool true) (by simp[go_sem]) rfl rfl rfl rfl rfl (Gk rfl (Gk rfl (Gk rfl (Gb (.int .i64 (m:Int)) (by simp[go_sem,hc,ha]) rfl rfl rfl rfl rfl (ag ?_ (Gf b (off+m*7+1) rfl rfl (ag ?_ (Gk rfl (Gk rfl (ag ?_ (Gf b (off+(m+1)*7) rfl rfl (ag ?_ (Gb (.bool false) (by simp[go_sem,hov]) rfl rfl rfl rfl rfl (Gk rfl (Gk rfl (Gk rfl (Gb (.int .i64 (m:Int)) (by simp[go_sem,hc,ha]) rfl rfl rfl rfl rfl (ag ?_ (Gk rfl (Gk rfl (ag ?_ (ag ?_ (Gk rfl (Gk rfl (aC))))))))))))))))))))))))))) (fun _=>rfl) rfl ?_
     ·intro ρ y W hw hn hb hd;have hy:=hw 26 3 rfl;have h3:y 3=_:=hd 3 rfl;have hx:=hw 28 5 rfl;have h5:y 5=_:=hd 5 rfl;refine aj (.pointer (some ⟨b,off+m*7,none⟩)) (bu 2 25 true true rfl rfl ((hw 25 2 rfl).trans (hd 2 rfl))) (by simp[execOp,go_sem,hy,h3,hx,h5,x]) rfl
     ·intro ρ y W hw hn hb hd;have hv:=hw 30 7 rfl;have h7:y 7=_:=hd 7 rfl;have s:=(hi.below hb).cells.2.1;refine aj (.int .i64 A0.en) (bu 2 25 true true rfl rfl ((hw 25 2 rfl).trans (hd 2 rfl))) (by simp[execOp,go_sem,hv,h7,s]) rfl
     ·intro ρ y W hw hn hb hd;have hu:=hw 32 9 rfl;have h9:y 9=_:=hd 9 rfl;have ht:=hw 33 10 rfl;have hr:y 10=_:=hd 10 rfl;refine aj (.pointer (some ⟨b,off+(m+1)*7,none⟩)) (bu 2 25 true true rfl rfl ((hw 25 2 rfl).trans (hd 2 rfl))) (by simp[execOp,go_sem,hu,h9,ht,hr,hlt,hh,hg,hf]) rfl
     ·intro ρ y W hw hn hb hd;have hs:=hw 35 12 rfl;have hq:y 12=_:=hd 12 rfl;have s:=(hm.below hb).cells.1;refine aj (.int .i64 A1.fr) (bu 2 25 true true rfl rfl ((hw 25 2 rfl).trans (hd 2 rfl))) (by simp[execOp,go_sem,hs,hq,s]) rfl
     ·intro ρ y W hw hn hb hd;have hP:=hw 39 16 rfl;have h16:y 16=_:=hd 16 rfl;have hO:=hw 41 18 rfl;have hJ:y 18=_:=hd 18 rfl;refine aj (.pointer (some ⟨b,off+m*7,none⟩)) (bu 15 38 false false rfl rfl ((hw 38 15 rfl).trans (hd 15 rfl))) (by simp[execOp,go_sem,hP,h16,hO,hJ,x]) rfl
     ·intro ρ y W hw hn hb hd;have hM:=hw 43 20 rfl;have hH:y 20=_:=hd 20 rfl;have hL:=hw 44 21 rfl;have hG:y 21=_:=hd 21 rfl;refine aj (.pointer (some ⟨b,off+(m+1)*7,none⟩)) (bu 15 38 false false rfl rfl ((hw 38 15 rfl).trans (hd 15 rfl))) (by simp[execOp,go_sem,hM,hH,hL,hG,hlt,hh,hg,hf]) rfl
     ·intro ρ y W hw hn hb hd;have hN:=hw 42 19 rfl;have hI:y 19=_:=hd 19 rfl;have hK:=hw 45 22 rfl;have hF:y 22=_:=hd 22 rfl;have EF:∀f,ρ (.func f) = .func (.func f) #[] #[]:=fun f=>hn (.func f) trivial;refine aR _ _ (bu 15 38 false false rfl rfl ((hw 38 15 rfl).trans (hd 15 rfl))) (aU rfl (EF _) func137 (by kernel_rfl) (by kernel_rfl) (by simp only[bV,bP,bT,hN,hI,hK,hF,EF];rfl)) ?_;refine (Gm b (off+m*7) b (off+(m+1)*7) A0 A1 W (hi.below hb) (hm.below hb) hR).mono ?_;rintro r w1 ⟨rfl,hE⟩;rw[hj];exact⟨_,rfl,hE,rfl⟩
     intro y WA q _;have d:=ae j q;have g:=n.ext q;have hU:Hid (∀i (h:i<l.length),i<m+1+1→aQ l[i]=0):=Lib.hid (lN hp.out hlt (by rw[hA1];exact u.out));clear j n hh hg hf hc ha;go_wp2;go_roundw
     case rel=>exact⟨m+1+1,by omega,by go_num,d,g,hU.out,hB⟩
     case measure=>simp[intOf];omega
    have hz:Hid (bI l=(2,((m+1:Nat):Int))):=Lib.hid (by rw[z.out];exact uR hlt (by rw[hA1];exact u.out) (by rw[hA1,hC.out,hj,IP]));refine aM 26 [_,_,_,_,_,_,.v (.pointer (some ⟨b,off+m*7,none⟩)),_,.v (.int .i64 A0.en),_,_,.v (.pointer (some ⟨b,off+(m+1)*7,none⟩)),_,.v (.int .i64 A1.fr),_,_,_,_,_,.v (.pointer (some ⟨b,off+m*7,none⟩)),_,_,.v (.pointer (some ⟨b,off+(m+1)*7,none⟩)),.v (.bool true),_,.v (.bool true)] (Gk rfl (Gb (.bool true) (by simp[go_sem]) rfl rfl rfl rfl rfl (Gk rfl (Gk rfl (Gk rfl (Gb (.int .i64 (m:Int)) (by simp[go_sem,hc,ha]) rfl rfl rfl rfl rfl (ag ?_ (Gf b (off+m*7+1) rfl rfl (ag ?_ (Gk rfl (Gk rfl (ag ?_ (Gf b (off+(m+1)*7) rfl rfl (ag ?_ (Gb (.bool false) (by simp[go_sem,hov]) rfl rfl rfl rfl rfl (Gk rfl (Gk rfl (Gk rfl (Gb (.int .i64 (m:Int)) (by simp[go_sem,hc,ha]) rfl rfl rfl rfl rfl (ag ?_ (Gk rfl (Gk rfl (ag ?_ (ag ?_ (Gk rfl (Gk rfl (aC))))))))))))))))))))))))))) (fun _=>rfl) rfl ?_
    ·intro ρ y W hw hn hb hd;have hy:=hw 26 3 rfl;have h3:y 3=_:=hd 3 rfl;have hx:=hw 28 5 rfl;have h5:y 5=_:=hd 5 rfl;refine aj (.pointer (some ⟨b,off+m*7,none⟩)) (bu 2 25 true true rfl rfl ((hw 25 2 rfl).trans (hd 2 rfl))) (by simp[execOp,go_sem,hy,h3,hx,h5,x]) rfl
    ·intro ρ y W hw hn hb hd;have hv:=hw 30 7 rfl;have h7:y 7=_:=hd 7 rfl;have s:=(hi.below hb).cells.2.1;refine aj (.int .i64 A0.en) (bu 2 25 true true rfl rfl ((hw 25 2 rfl).trans (hd 2 rfl))) (by simp[execOp,go_sem,hv,h7,s]) rfl
    ·intro ρ y W hw hn hb hd;have hu:=hw 32 9 rfl;have h9:y 9=_:=hd 9 rfl;have ht:=hw 33 10 rfl;have hr:y 10=_:=hd 10 rfl;refine aj (.pointer (some ⟨b,off+(m+1)*7,none⟩)) (bu 2 25 true true rfl rfl ((hw 25 2 rfl).trans (hd 2 rfl))) (by simp[execOp,go_sem,hu,h9,ht,hr,hlt,hh,hg,hf]) rfl
    ·intro ρ y W hw hn hb hd;have hs:=hw 35 12 rfl;have hq:y 12=_:=hd 12 rfl;have s:=(hm.below hb).cells.1;refine aj (.int .i64 A1.fr) (bu 2 25 true true rfl rfl ((hw 25 2 rfl).trans (hd 2 rfl))) (by simp[execOp,go_sem,hs,hq,s]) rfl
    ·intro ρ y W hw hn hb hd;have hP:=hw 39 16 rfl;have h16:y 16=_:=hd 16 rfl;have hO:=hw 41 18 rfl;have hJ:y 18=_:=hd 18 rfl;refine aj (.pointer (some ⟨b,off+m*7,none⟩)) (bu 15 38 false false rfl rfl ((hw 38 15 rfl).trans (hd 15 rfl))) (by simp[execOp,go_sem,hP,h16,hO,hJ,x]) rfl
    ·intro ρ y W hw hn hb hd;have hM:=hw 43 20 rfl;have hH:y 20=_:=hd 20 rfl;have hL:=hw 44 21 rfl;have hG:y 21=_:=hd 21 rfl;refine aj (.pointer (some ⟨b,off+(m+1)*7,none⟩)) (bu 15 38 false false rfl rfl ((hw 38 15 rfl).trans (hd 15 rfl))) (by simp[execOp,go_sem,hM,hH,hL,hG,hlt,hh,hg,hf]) rfl
    ·intro ρ y W hw hn hb hd;have hN:=hw 42 19 rfl;have hI:y 19=_:=hd 19 rfl;have hK:=hw 45 22 rfl;have hF:y 22=_:=hd 22 rfl;have EF:∀f,ρ (.func f) = .func (.func f) #[] #[]:=fun f=>hn (.func f) trivial;refine aR _ _ (bu 15 38 false false rfl rfl ((hw 38 15 rfl).trans (hd 15 rfl))) (aU rfl (EF _) func137 (by kernel_rfl) (by kernel_rfl) (by simp only[bV,bP,bT,hN,hI,hK,hF,EF];rfl)) ?_;refine (Gm b (off+m*7) b (off+(m+1)*7) A0 A1 W (hi.below hb) (hm.below hb) hR).mono ?_;rintro r w1 ⟨rfl,hE⟩;rw[hj];exact⟨_,rfl,hE,rfl⟩
    intro y WA q _;have d:=ae j q;have g:=n.ext q;clear j n
    go_wp2_with (refine az rfl _ _ _ rfl w.heap.size #[.int .i64 (2),.int .i64 (((m+1:Nat):Int))] rfl rfl _ _ g rfl fau_size (mO _ _) ?_)
    intro w5 t p;have o:Below w.heap.size w w5:=d.grown p d.size (fun k hk=>by cases hk;exact ay _);go_wp2;refine bodyPost_ret (v:=.agg #[.int .i64 (2),.int .i64 (((m+1:Nat):Int))]) (eF results111 _ _ w.heap.size _ _ _ rfl t underlying150 rfl fau_size) rfl ?_;exact⟨by rw[hz.out];rfl,o⟩
   have hz:Hid (bI l=(aQ l[k],(k:Int))):=Lib.hid (by rw[z.out];exact Gz hlt he);have u : (aQ l[k] != 0)=true:=by simpa using he
   have d:=j;have g:=n;clear he j n
   go_wp2_with (refine az rfl _ _ _ rfl w.heap.size #[.int .i64 (aQ l[k]),.int .i64 (k)] rfl rfl _ _ g rfl fau_size (mO _ _) ?_)
   intro w5 t p;have o:Below w.heap.size w w5:=d.grown p d.size (fun k hk=>by cases hk;exact ay _);go_wp2;refine bodyPost_ret (v:=.agg #[.int .i64 (aQ l[k]),.int .i64 (k)]) (eF results111 _ _ w.heap.size _ _ _ rfl t underlying150 rfl fau_size) rfl ?_;exact⟨by rw[hz.out];rfl,o⟩
  have hz:Hid (bI l=(0,0)):=Lib.hid (by rw[z.out,qa (by omega)];rfl)
  go_wp2_with (refine az rfl _ _ _ rfl w.heap.size #[.int .i64 (0),.int .i64 (0)] rfl rfl _ _ g rfl fau_size (mO _ _) ?_)
  intro w5 t p;have o:Below w.heap.size w w5:=d.grown p d.size (fun k hk=>by cases hk;exact ay _);go_wp2;refine bodyPost_ret (v:=.agg #[.int .i64 (0),.int .i64 (0)]) (eF results111 _ _ w.heap.size _ _ _ rfl t underlying150 rfl fau_size) rfl ?_;exact⟨by rw[hz.out];rfl,o⟩
theorem Nk {l:List Ar} (h:dP w a (l.flatMap mM)) (k:Nat) (hk:k<l.length):∃b off,a=some ⟨b,off,none⟩∧w.cell? ⟨b,off+k*7,none⟩=some (.int .i64 l[k].fr)∧w.cell? ⟨b,off+k*7+1,none⟩=some (.int .i64 l[k].en)∧w.cell? ⟨b,off+k*7+2,none⟩=some (.bool l[k].rd)∧w.cell? ⟨b,off+k*7+3,none⟩=some (.bool l[k].wr) ∧
  w.cell? ⟨b,off+k*7+4,none⟩=some (.bool l[k].sh)∧w.cell? ⟨b,off+k*7+5,none⟩=some (.int .i64 l[k].fi)∧w.cell? ⟨b,off+k*7+6,none⟩=some (.int .i64 l[k].ba):=by
 obtain⟨b,off,e,h1⟩:=Rl h k hk;exact⟨b,off,e,h1.cells⟩
theorem Px (a:Ar) (g:Nat) (n:Int) (w:World) (hg:aB w g #[.int .i64 n] 3) :
  Calls Tryz.prog 121 #[.agg #[.int .i64 a.fr,.int .i64 a.en,.bool a.rd,.bool a.wr,.bool a.sh,.int .i64 a.fi,.int .i64 a.ba],.pointer (some ⟨g,0,none⟩)] w fun r w'=>r = .returned (.bool (nZ n a))∧Below w.heap.size w w':=by
 go_enter func121,ntmps121;go_upto_region 1 with (fail);refine gB (fun W=>Code.wp _ _ _ _ W) fun W0 b c d => ?_;clear d;have e:=(hg.ext b).cell 0;have f:=c.cell
 by_cases h1:a.fr≤n
 ·by_cases h2:n<a.en
  ·have hz:=Lib.hid (show nZ n a=true by unfold nZ;rw[decide_eq_true h1,decide_eq_true h2];rfl);go_wp2;go_ret;exact⟨bK hz.out.symm,b⟩
  have hz:=Lib.hid (show nZ n a=false by unfold nZ;rw[decide_eq_false h2,mi]);go_wp2;go_ret;exact⟨bK hz.out.symm,b⟩
 have hz:=Lib.hid (show nZ n a=false by unfold nZ;rw[decide_eq_false h1,lY]);go_wp2;go_ret;exact⟨bK hz.out.symm,b⟩
theorem JB (l:List Ar) (a:Option Addr) (c:Nat) (w:World) (hrd:dP w a (l.flatMap mM)) (hl:l.length≤9223372036854775807) (g:Nat) (n:Int) (hg:aB w g #[.int .i64 n] 3) :
  Calls Tryz.prog 120 #[.slice a l.length c,.func (.func 121) #[] #[.pointer (some ⟨g,0,none⟩)]] w fun e w'=>e = .returned (.int .i64 (idx (nZ n) l))∧Below w.heap.size w w':=by
 go_enter func120,ntmps120;go_wp2
 go_loopw [8] (fun i wr => ∃k:Nat,k≤l.length∧i = .int .i64 k∧Below w.heap.size w wr∧∀i (h:i<l.length),i<k→(nZ n) l[i]=false) (fun i _=>l.length-(intOf i).toNat)
 case atStart=>exact⟨0,aV _,rfl,Below.refl _ _,fun i _ h=>absurd h (dV _)⟩
 case round=>
  obtain⟨k,hk,rfl,j,o⟩:=hrel;have hp:=Lib.hid o;clear o
  by_cases hlt:k<l.length
  ·obtain⟨b,off,rfl,c0,c1,c2,c3,c4,c5,c6⟩:=Nk (hrd.below j) k hlt
   go_wp2_with fail
   refine (Px l[k] g n _ (hg.ext j)).mono ?_;rintro e w2 ⟨rfl,p⟩;have f:=ae j p;clear p;cases hpk:(nZ n) l[k]
   ·have m:=Lib.hid hpk;clear hpk;go_wp2;go_roundw
    case rel=>exact⟨k+1,by omega,by go_num,f,lN hp.out hlt m.out⟩
    case measure=>simp[intOf];omega
   have d:=Lib.hid (tN (nZ n) l k hlt hp.out hpk);clear hpk;go_wp2;go_ret;exact⟨aT d.out.symm,f⟩
  have d:=Lib.hid (lc (nZ n) l fun i h=>hp.out i h (by omega));go_wp2;go_ret;exact⟨aT d.out.symm,j⟩
theorem OT (l:List Ar) (n:Int) (a:Option Addr) (c:Nat) (w:World) (hrd:dP w a (l.flatMap mM)) (hl:l.length≤9223372036854775807) :
  Calls Tryz.prog 81 #[.slice a l.length c,.int .i64 n] w fun r w'=>r = .returned (.int .i64 (kH l n))∧Below w.heap.size w w':=by
 go_enter func81,ntmps81;go_upto_region 1 with (fail);refine gB (fun W=>Code.wp _ _ _ _ W) fun W0 b d e => ?_;clear e
 go_wp2_with fail
 refine (JB l a c _ (hrd.below b) hl w.heap.size n d).mono ?_;rintro r w1 ⟨rfl,f⟩;go_wp2;go_ret;exact⟨rfl,ae b f⟩
theorem Ow (l:List Ar):(l.flatMap mM).length=l.length*7:=Pw.flat_len mM 7 sN l
theorem UA (a:Ar):∀u∈mM a,u.oneCell' = true:=by
 intro u hu;simp only[mM,nX,bZ,fP,or_false] at hu;rcases hu with rfl|rfl|rfl|rfl|rfl|rfl|rfl<;>rfl
theorem qF (l:List Ar):∀u∈l.flatMap mM,u.oneCell' = true:=by
 intro u hu;obtain⟨a,_,h⟩:=jP.1 hu;exact UA a u h
theorem Js (l:List Ar) (a:Option Addr) (c:Nat) (w:World) (hle:l.length≤c) (hnil:a=none→c=0) (hrd:dP w a (l.flatMap mM)) (hb:l.length*40≤140737488355328) :
  Calls Tryz.prog 41 #[.slice a l.length c] w fun e w' => ∃v,e = .returned v∧Own w' w.heap.size 99 7 v l.length (l.flatMap mM)∧Below w.heap.size w w':=by
 cases a with
 | none=>
  have h0:=hnil rfl;have hl:l=[]:=jM (by omega);subst hl;subst h0;have hq:=fun W=>lV (P:=Tryz.prog) W 50 _ none 0 0 0 0 underlying50;go_enter func41,ntmps41;go_wp2;go_ret;exact⟨_,rfl,by simpa using Own.nil _ _ _ _,Below.refl _ _⟩
 | some ad=>
  have hq:=fun W=>lV (P:=Tryz.prog) W 50 _ (some ad) l.length c 0 0 underlying50;go_enter func41,ntmps41
  go_wp2_with (at_builtin;go_must (refine fq rfl _ _ 50 rfl w.heap.size 99 (.agg #[.int .i64 0,.int .i64 0,.bool false,.bool false,.bool false,.int .i64 0,.int .i64 0]) 7 40 underlying50 area_info rfl (by decide) _ 0 [] rfl ?own (some ad) l.length c (l.flatMap mM) rfl (fun h=>(by cases h)) hle (Ow l) ?rd (qF l) (by unfold maxLen;omega) (by simpa using hb) ?bb ?k))
  case own=>exact⟨rfl,.inr ⟨w.heap.size,0,0,#[],rfl,ay _,aB.new _ _ _,ay _,aV _,by simp,fun j u h=>by simp at h⟩⟩
  case rd=>exact hrd.below ((Below.refl _ _).alloc (ay _) _)
  case bb=>exact fZ _ _
  intro v w1 b d;go_wp2;go_ret;exact⟨v,rfl,by simpa using b,((Below.refl _ _).alloc (ay _) _).grown d (fZ _ _) (fun k hk=>by cases hk;exact ay _)⟩
structure VX (w:World) (a:Option Addr) (c:Nat) (l:List Ar):Prop where
 le:l.length≤c
 mx:c≤maxLen
 nl:a=none→c=0
 rd:dP w a (l.flatMap mM)
theorem VX.below {l:List Ar} (h:VX w a c l) (hb:Below w.heap.size w w'):VX w' a c l:=⟨h.le,h.mx,h.nl,h.rd.below hb⟩
def WT (x:Ar):mg:=⟨fun v w => ∃g,v = .slice (some ⟨g,0,none⟩) 1 1∧aB w g (nX x) 99,fun _ _ _ hb ⟨g,h1,h2⟩=>⟨g,h1,h2.ext hb⟩⟩
theorem own_not {l:List Ar} {x:Ar} (h:Own w B 99 7 v l.length (l.flatMap mM)) (hg:aB w g (nX x) 99) (hx:¬x∈l) (h0:0<l.length):∀b,v.ownBlock=some b→g≠b:=by
 rintro b hb rfl;rcases h with ⟨hlen,⟨rfl,_⟩|⟨b',off,cap,cur,rfl,hB,hk,hc,hm,hs,ht⟩⟩
 ·cases hb
 cases hb;unfold aB at hk hg;rw[hk] at hg;simp only[iY,rX,and_true] at hg;subst hg;have h7:(nX x).size=7:=rfl;have ho:off=0:=by omega
 subst ho
 match l,h0 with
 | y::r,_=>
  have hc:∀(j:Nat) (u:Value),(mM y)[j]?=some u→(nX x)[j]?=some u:=by intro j u hj;have:=ht j u (by rw[lX,kY (by have:=(cK.1 hj).1;exact this)];exact hj);rwa [eu] at this
  have e0:=hc 0 _ rfl;have e1:=hc 1 _ rfl;have e2:=hc 2 _ rfl;have e3:=hc 3 _ rfl;have e4:=hc 4 _ rfl;have e5:=hc 5 _ rfl;have e6:=hc 6 _ rfl;simp[nX] at e0 e1 e2 e3 e4 e5 e6;refine hx (bZ.2 (.inl ?_));cases x;cases y
  simp_all
theorem wM {d:TypeDesc} (ht:P.underlying t=some (.array n e)) (he:P.underlying e=some d) (hd:aggB d=true) (hs:(P.info? e).map (·.size)=some sz)
 (cs:Array Value) (k:Nat) (vs:Array Value) (hk:k<n) (hv:cs.extract (k*sz) (k*sz+sz)=vs) (kk:IntKind) (w:World):(Instr.index t (.agg cs) (.int kk k)).run P w = .ok (.agg vs) w:=by
 have a:∀w,(Go.sizeOf e).run P w = .ok sz w:=by
  intro w;cases hq:P.info? e with
  | none=>simp[hq] at hs
  | some i=>
   have hz:i.size=sz:=by simpa[hq] using hs
   simp[Go.sizeOf,typeInfo,run_program,hq,hz]
 have ha:∀w,(isAgg e).run P w = .ok true w:=by intro w;unfold isAgg;simp[run_underlying he];cases d<;>simp_all[aggB]
 simp[Instr.index,part,asIntOf,run_underlying ht,a,hk,ha,go_sem,hv]
theorem wJ (l:List Int) (a:Option Addr) (c:Nat) (w:World) (hle:l.length≤c) (hnil:a=none→c=0) (hrd:dP w a (l.map fT)) (hb:l.length*8≤140737488355328) :
  Calls Tryz.prog 74 #[.slice a l.length c] w fun e w' => ∃v,e = .returned v∧Own w' w.heap.size 3 1 v l.length (l.map fT)∧Below w.heap.size w w':=by
 cases a with
 | none=>
  have h0:=hnil rfl;have hl:l=[]:=jM (by omega);subst hl;subst h0;have hq:=fun W=>lV (P:=Tryz.prog) W 30 _ none 0 0 0 0 underlying30;go_enter func74,ntmps74;go_wp2;go_ret;exact⟨_,rfl,by simpa using Own.nil _ _ _ _,Below.refl _ _⟩
 | some ad=>
  have hq:=fun W=>lV (P:=Tryz.prog) W 30 _ (some ad) l.length c 0 0 underlying30;go_enter func74,ntmps74
  go_wp2_with (at_builtin;go_must (refine fq rfl _ _ 30 rfl w.heap.size 3 (.int .i64 0) 1 8 underlying30 int_info rfl (by decide) _ 0 [] rfl ?own (some ad) l.length c (l.map fT) rfl (fun h=>(by cases h)) hle (JO l) ?rd (Kv l) (by unfold maxLen;omega) (by simpa using hb) ?bb ?k))
  case own=>exact⟨rfl,.inr ⟨w.heap.size,0,0,#[],rfl,ay _,aB.new _ _ _,ay _,aV _,by simp,fun j u h=>by simp at h⟩⟩
  case rd=>exact hrd.below ((Below.refl _ _).alloc (ay _) _)
  case bb=>exact fZ _ _
  intro v w1 b d;go_wp2;go_ret;exact⟨v,rfl,by simpa using b,((Below.refl _ _).alloc (ay _) _).grown d (fZ _ _) (fun k hk=>by cases hk;exact ay _)⟩
theorem TU (n:Int) (w:World):Calls Tryz.prog 132 #[.int .i64 n] w fun e w'=>e = .returned (.bool (qD n))∧w' = w:=by
 unfold qD;go_enter func132,ntmps132;go_wp2
 all_goals
  go_ret;refine⟨bK ?_,rfl⟩;simp[*]
theorem Ry (l:List Int) (a:Option Addr) (c:Nat) (w:World) (hrd:dP w a (l.map fT)) (hl:l.length≤9223372036854775807) :
  Calls Tryz.prog 147 #[.slice a l.length c,.func (.func 132) #[] #[]] w fun e w'=>e = .returned (.int .i64 (idx qD l))∧w' = w:=by
 go_enter func147,ntmps147;go_wp2
 go_loopw [8] (fun i wr => ∃k:Nat,k≤l.length∧i = .int .i64 k∧wr=w∧∀i (h:i<l.length),i<k→qD l[i]=false) (fun i _=>l.length-(intOf i).toNat)
 case atStart=>exact⟨0,aV _,rfl,rfl,fun i _ h=>absurd h (dV _)⟩
 case round=>
  obtain⟨k,hk,rfl,rfl,hp⟩:=hrel
  by_cases hlt:k<l.length
  ·obtain⟨b,off,rfl,hc⟩:=jv hrd k hlt
   go_wp2_with fail
   refine (TU l[k] _).mono ?_;rintro e w1 ⟨rfl,rfl⟩;cases hbk:qD l[k] with
   | true=>
    go_wp2;go_ret;exact⟨aT (tN qD l k hlt hp hbk).symm,rfl⟩
   | false=>
    go_wp2;go_roundw
    case rel=>exact⟨k+1,by omega,by go_num,trivial,upto hp hlt hbk⟩
    case measure=>simp[intOf];omega
  go_wp2;go_ret;exact⟨aT (lc qD l fun i h=>hp i h (by omega)).symm,rfl⟩
theorem EE (l:List Int) (a:Option Addr) (c:Nat) (w:World) (hrd:dP w a (l.map fT)) (hl:l.length≤9223372036854775807) :
  Calls Tryz.prog 131 #[.slice a l.length c,.func (.func 132) #[] #[]] w fun e w'=>e = .returned (.bool (l.any qD))∧w' = w:=by
 rw[←nE];go_enter func131,ntmps131
 go_wp2_with fail
 refine (Ry l a c _ hrd hl).mono ?_;rintro e w1 ⟨rfl,rfl⟩;go_wp2;go_ret;exact⟨rfl,rfl⟩
theorem wL (l:List Int) (a:Option Addr) (c:Nat) (w:World) (hrd:dP w a (l.map fT)) (hl:l.length≤9223372036854775807) :
  Calls Tryz.prog 108 #[.slice a l.length c] w fun e w'=>e = .returned (.int .i64 (dn l))∧w' = w:=by
 unfold dn;go_enter func108,ntmps108
 by_cases h:60<l.length
 ·have h1:(60:Int)<(l.length:Int):=by omega
  go_wp2;go_ret;exact⟨by simp[h],rfl⟩
 have h1:¬(60:Int)<(l.length:Int):=by omega
 go_wp2_with fail
 refine (EE l a c _ hrd hl).mono ?_;rintro e w1 ⟨rfl,rfl⟩;cases hb:l.any qD
 all_goals
  go_wp2;go_ret;exact⟨by simp[h],rfl⟩
theorem JD (l:List Int) (a:Option Addr) (c:Nat) (w:World) (hrd:dP w a (l.map fT)) (hl:l.length≤9223372036854775807) :
  Calls Tryz.prog 83 #[.slice a l.length c] w fun e w'=>e = .returned (.int .i64 (dn l))∧w' = w:=by
 unfold dn;go_enter func83,ntmps83
 by_cases h:60<l.length
 ·have h1:(60:Int)<(l.length:Int):=by omega
  go_wp2;go_ret;exact⟨by simp[h],rfl⟩
 have h1:¬(60:Int)<(l.length:Int):=by omega
 rw[if_neg h];go_wp2
 go_loopw [10] (fun i wr => ∃k:Nat,k≤l.length∧i = .int .i64 k∧wr=w∧∀i (h:i<l.length),i<k→qD l[i]=false) (fun i _=>l.length-(intOf i).toNat)
 case atStart=>exact⟨0,aV _,rfl,rfl,fun i _ h=>absurd h (dV _)⟩
 case round=>
  obtain⟨k,hk,rfl,rfl,hp⟩:=hrel
  by_cases hlt:k<l.length
  ·obtain⟨b,off,rfl,hc⟩:=jv hrd k hlt
   by_cases hn:l[k]<0∨1000<l[k]
   ·have d:qD l[k]=true:=by simpa[qD] using hn
    have ha:l.any qD=true:=iX.2 ⟨_,dN hlt,d⟩;rcases hn with hn|hn <;>
    go_wp2
    all_goals
     go_ret;exact⟨by simp[ha],rfl⟩
   have d:qD l[k]=false:=by simp[qD];omega
   have n1:¬l[k]<0:=by omega
   have n2:¬(1000<l[k]):=by omega
   go_wp2;go_roundw
   case rel=>exact⟨k+1,by omega,by go_num,trivial,upto hp hlt d⟩
   case measure=>simp[intOf];omega
  have ha:l.any qD=false:=by rw[←nE,lc qD l fun i h=>hp i h (by omega)];rfl
  go_wp2
  all_goals
   go_ret;exact⟨by simp[ha],rfl⟩
theorem JP (l:List Int) (a:Option Addr) (c:Nat) (w:World) (hrd:dP w a (l.map fT)) (hl:l.length≤9223372036854775807) :
  Calls Tryz.prog 143 #[.slice a l.length c,.int .i64 0] w fun e w'=>e = .returned (.int .i64 (idx Jk l))∧w' = w:=by
 go_enter func143,ntmps143;go_wp2
 go_loopw [8] (fun i wr => ∃k:Nat,k≤l.length∧i = .int .i64 k∧wr=w∧∀i (h:i<l.length),i<k→Jk l[i]=false) (fun i _=>l.length-(intOf i).toNat)
 case atStart=>exact⟨0,aV _,rfl,rfl,fun i _ h=>absurd h (dV _)⟩
 case round=>
  obtain⟨k,hk,rfl,rfl,hp⟩:=hrel
  by_cases hlt:k<l.length
  ·obtain⟨b,off,rfl,hc⟩:=jv hrd k hlt
   by_cases hz:l[k]=0
   ·have d:Jk l[k]=true:=by simp[Jk,hz]
    rw[hz] at hc;go_wp2;go_ret;exact⟨aT (tN Jk l k hlt hp d).symm,rfl⟩
   have d:Jk l[k]=false:=by simp[Jk,hz]
   have f : ((0:Int)==l[k])=false:=by simp;omega
   go_wp2;go_roundw
   case rel=>exact⟨k+1,by omega,by go_num,trivial,upto hp hlt d⟩
   case measure=>simp[intOf];omega
  go_wp2;go_ret;exact⟨aT (lc Jk l fun i h=>hp i h (by omega)).symm,rfl⟩
theorem one_cell_int:∀x:Int,([fT x]:List Value).length=1:=fun _=>rfl
theorem Ol (n:Int) (w:World) :
  Calls Tryz.prog 97 #[.int .i64 n] w fun e w' => ∃v,e = .returned (.tuple #[v,.int .i64 (Ik n)])∧Own w' w.heap.size 3 1 v (AJ n).length ((AJ n).map fT)∧Below w.heap.size w w':=by
 unfold Ik AJ
 by_cases h:0≤n∧n≤60
 ·obtain⟨m,rfl⟩:=fE h.1;have h1:(m:Int)≤60:=h.2;rw[if_pos h,if_pos h];go_enter func97,ntmps97
  go_wp2_with (with_reducible refine uy _ rfl (.tmp 10) (.tmp 10) 30 rfl (fun x=>[fT x]) 3 (.int .i64 0) 1 8 0 one_cell_int (by decide) underlying30 int_info rfl .i64 .i64 m m m rfl rfl rfl rfl (by omega) (by unfold maxLen;omega) ?k)
  intro w' ho a;rw[iZ] at ho;go_wp2;go_ret2;exact⟨_,rfl,by simpa using ho,(Below.refl _ _).grown a (ay _) (fun k hk=>by cases hk)⟩
 rw[if_neg h,if_neg h];go_enter func97,ntmps97
 by_cases h0:n<0
 ·go_wp2;go_ret2;exact⟨_,rfl,Own.nil _ _ _ _,Below.refl _ _⟩
 have h1:60<n:=by omega
 go_wp2;go_ret2;exact⟨_,rfl,Own.nil _ _ _ _,Below.refl _ _⟩
theorem MQ (l:List Int) (a:Option Addr) (c:Nat) (n:Int) (w:World) (hle:l.length≤c) (hnil:a=none→c=0) (hrd:dP w a (l.map fT)) (hl:l.length≤9223372036854775807) :
  Calls Tryz.prog 128 #[.slice a l.length c,.int .i64 n] w fun e w' => ∃v,e = .returned (.tuple #[v,.int .i64 (jF l n),.int .i64 (ig l n)])∧Own w' w.heap.size 3 1 v (lM l n).length ((lM l n).map fT)∧Below w.heap.size w w':=by
 go_enter func128,ntmps128
 go_wp2_with fail
 refine (wL l a c _ hrd (by omega)).mono ?_;rintro e w1 ⟨rfl,rfl⟩
 by_cases h0:dn l=0
 ·rw[h0];have d:=ja h0
  by_cases hn:n<1∨1000<n
  ·obtain⟨q1,q2,q3⟩:=MU h0 hn;rcases hn with hn|hn <;>
   go_wp2
   all_goals
    go_ret3
    try simp only[q1,q2,q3]
    exact⟨_,rfl,Own.nil _ _ _ _,Below.refl _ _⟩
  have n1:¬n<1:=by omega
  have n2:¬1000<n:=by omega
  go_wp2_with fail
  refine (JP l a c _ hrd (by omega)).mono ?_;rintro e w2 ⟨rfl,rfl⟩;rcases Bb Jk l with ⟨hi,_⟩|⟨k,hk,hi,hz,_⟩
  ·obtain⟨q1,q2,q3⟩:=ML h0 ⟨by omega,by omega⟩ hi;rw[hi];go_wp2
   go_ret3
   try simp only[q1,q2,q3]
   exact⟨_,rfl,Own.nil _ _ _ _,Below.refl _ _⟩
  obtain⟨q1,q2,q3⟩:=Qo h0 ⟨by omega,by omega⟩ hi;rw[hi]
  go_wp2_with fail
  refine (wJ l a c _ hle hnil hrd (by omega)).mono ?_;rintro e w3 ⟨v,rfl,ho,hb⟩;obtain⟨g,off,cap,rfl,hB,f,hc,hf,b⟩:=ho.put1 k hk;go_wp2
  go_ret3
  try simp only[q1,q2,q3]
  exact⟨_,rfl,by rw[bH];exact b n,hb.setCell hB _⟩
 obtain⟨q1,q2,q3⟩:=Lj n h0;have hw:(dn l != 0)=true:=by simpa using h0
 go_wp2
 go_ret3
 try simp only[q1,q2,q3]
 exact⟨_,rfl,Own.nil _ _ _ _,Below.refl _ _⟩
theorem MV (l:List Int) (a:Option Addr) (c:Nat) (k n:Int) (w:World) (hle:l.length≤c) (hnil:a=none→c=0) (hrd:dP w a (l.map fT)) (hl:l.length≤9223372036854775807) :
  Calls Tryz.prog 78 #[.slice a l.length c,.int .i64 k,.int .i64 n] w fun e w' => ∃v,e = .returned (.tuple #[v,.int .i64 (gD l k n)])∧Own w' w.heap.size 3 1 v (gG l k n).length ((gG l k n).map fT)∧Below w.heap.size w w':=by
 go_enter func78,ntmps78
 go_wp2_with fail
 refine (wL l a c _ hrd (by omega)).mono ?_;rintro e w1 ⟨rfl,rfl⟩
 by_cases h0:dn l=0
 ·rw[h0];have p:=ja h0
  by_cases hk:k<0∨(l.length:Int)≤k
  ·obtain⟨q1,q2⟩:=FX (n:=n) h0 (show k<0∨(l.length:Int)≤k∨Ic l k=0 from by omega);rcases hk with hk|hk <;>
   go_wp2
   all_goals
    go_ret2
    try simp only[q1,q2]
    exact⟨_,rfl,Own.nil _ _ _ _,Below.refl _ _⟩
  obtain⟨k,rfl⟩:=fE (show 0≤k by omega);have h:k<l.length:=by omega
  have o:¬(l.length:Int)≤(k:Int):=by omega
  obtain⟨b,off,rfl,hc⟩:=jv hrd k h;obtain⟨b1,b2⟩:=Rq l k h h0;have d:=Ul h
  by_cases hz:l[k]=0
  ·obtain⟨q1,q2⟩:=FX (n:=n) h0 (show (k:Int)<0∨(l.length:Int)≤k∨Ic l k=0 from by omega);rw[hz] at hc;clear hk d b1 b2;go_wp2
   all_goals
    go_ret2
    try simp only[q1,q2]
    exact⟨_,rfl,Own.nil _ _ _ _,Below.refl _ _⟩
  have q : (l[k]==(0:Int))=false:=by simp;omega
  have f:¬((k:Int)<0∨(l.length:Int)≤k∨Ic l k=0):=by omega
  by_cases hr:n < -Ic l k∨1000-Ic l k<n
  ·obtain⟨q1,q2⟩:=MG h0 f hr;rw[d] at hr;clear d f hk;rcases hr with hr|hr <;>
   go_wp2
   all_goals
    go_ret2
    try simp only[q1,q2]
    exact⟨_,rfl,Own.nil _ _ _ _,Below.refl _ _⟩
  obtain⟨q1,q2⟩:=Qg h0 f hr;rw[d] at hr q2;rw[bR] at q2;have r1:¬n < -l[k]:=by omega
  have r2:¬1000-l[k]<n:=by omega
  clear d f hk hr
  go_wp2_with fail
  refine (wJ l _ c _ hle hnil hrd (by omega)).mono ?_;rintro e w3 ⟨v,rfl,ho,hb⟩;obtain⟨g,off',cap,rfl,hB,m,j,hf,i⟩:=ho.put1 k h;unfold fT at j;go_wp2;go_ret2
  try simp only[q1,q2]
  exact⟨_,rfl,by rw[bH];exact i _,hb.setCell hB _⟩
 obtain⟨q1,q2⟩:=Nh k n h0;have hw:(dn l != 0)=true:=by simpa using h0
 go_wp2;go_ret2
 try simp only[q1,q2]
 exact⟨_,rfl,Own.nil _ _ _ _,Below.refl _ _⟩
structure PS where
 lv:Bool
 aa:Option Addr
 ac:Nat
 ar:List Ar
 ts:Vector Value 8
 tb:Tb
def PS.sp (p:PS):Sp:=⟨p.lv,p.ar,p.tb⟩
def nP (v:Vector Value 8):Array Value:=#[v[0],v[1],v[2],v[3],v[4],v[5],v[6],v[7]]
theorem QN (v:Vector Value 8):(nP v).size=8:=rfl
theorem QK (h:cs.size=8):∃v:Vector Value 8,cs=nP v:=by
 refine⟨⟨cs,h⟩,?_⟩;apply Array.ext
 ·rw[h,QN]
 intro i h1 h2;have hi:i<8:=by omega
 match i,hi with
 | 0,_=>rfl
 | 1,_=>rfl
 | 2,_=>rfl
 | 3,_=>rfl
 | 4,_=>rfl
 | 5,_=>rfl
 | 6,_=>rfl
 | 7,_=>rfl
 | n+8,h=>omega
def vT (p:PS):Array Value:=#[.bool p.lv,.slice p.aa p.ar.length p.ac,p.ts[0],p.ts[1],p.ts[2],p.ts[3],p.ts[4],p.ts[5],p.ts[6],p.ts[7]]
def sW (p:PS):List Value:=(vT p).toList
theorem sO (p:PS):(sW p).length=10:=rfl
theorem vL (c:Cc):(Ao c).all (·.oneCell')=true:=by simp[Ao,Value.oneCell']
theorem space_size:(Tryz.prog.info? 55).map (·.size)=some 10:=by kernel_rfl
theorem space_info:(Tryz.prog.info? 55).map (fun i=>(i.zero,i.size,i.bytes))=some (some (.agg #[.bool false,.slice none 0 0,.slice none 0 0,.slice none 0 0,.slice none 0 0,.slice none 0 0,.slice none 0 0,.slice none 0 0,.slice none 0 0,.slice none 0 0]),10,224):=by kernel_rfl
theorem cached_size:(Tryz.prog.info? 106).map (·.size)=some 3:=by kernel_rfl
theorem cached_info:(Tryz.prog.info? 106).map (fun i=>(i.zero,i.size,i.bytes))=some (some (.agg #[.int .i64 0,.int .i64 0,.int .i64 0]),3,24):=by kernel_rfl
theorem machine_size:(Tryz.prog.info? 41).map (·.size)=some 11:=by kernel_rfl
structure PS.good (w:World) (p:PS):Prop where
 ars:VX w p.aa p.ac p.ar
 tb:Fh w (nP p.ts) p.tb
theorem PS.good.below {p:PS} (h:p.good w) (hb:Below w.heap.size w w'):p.good w':=⟨h.ars.below hb,h.tb.below hb⟩
theorem PS.good.one {p:PS} (h:p.good w):∀u∈sW p,u.oneCell' = true:=by
 have h1:∀u∈(nP p.ts).toList,u.oneCell' = true:=by have:=h.tb.one;rw[←jV,dK] at this;exact this
 intro u hu;simp only[sW,vT,bZ,fP,or_false] at hu;simp only[nP,bZ,fP,or_false] at h1;rcases hu with rfl|rfl|hu
 ·rfl
 ·rfl
 ·exact h1 u hu
structure uk (w:World) (a:Option Addr) (c n:Nat) (vs:List Value):Prop where
 le:n≤c
 mx:c≤maxLen
 nl:a=none→c=0
 rd:dP w a vs
theorem uk.below (h:uk w a c n vs) (hb:Below w.heap.size w w'):uk w' a c n vs:={ h with rd:=h.rd.below hb }
theorem uk.of (h:Own w B e sz v n xs):∃a c,v = .slice a n c∧uk w a c n xs:=by
 obtain⟨a,c,rfl,h1,h2,h3,h4⟩:=h.rd;exact⟨a,c,rfl,h1,h2,h3,h4⟩
structure MH where
 af:Option Addr
 cf:Nat
 m:Mem
 asl:Option Addr
 csl:Nat
 sl:List Int
 wb:Option Addr
 cwb:Nat
 wq:Option Addr
 cwq:Nat
 sw:pR
 db:Option Addr
 cdb:Nat
 dq:Option Addr
 cdq:Nat
 dk:pR
 ai:Option Addr
 ci:Nat
 fi:List PF
 ct:Int
 ac:Option Addr
 cc:Nat
 ca:List Cc
 ap:Option Addr
 cp:Nat
 sp:List PS
def MH.ma (H:MH):Ma:=⟨H.m,H.sl,H.sw,H.dk,bY H.fi H.ct,H.ca,H.sp.map PS.sp⟩
def dh (H:MH):Array Value:=#[.slice H.af H.m.fs.length H.cf,.int .i64 H.m.hand,.slice H.asl H.sl.length H.csl,.slice H.wb H.sw.blocks.length H.cwb,.slice H.wq H.sw.queue.length H.cwq,
 .slice H.db H.dk.blocks.length H.cdb,.slice H.dq H.dk.queue.length H.cdq,.slice H.ai H.fi.length H.ci,.int .i64 H.ct,.slice H.ac H.ca.length H.cc,.slice H.ap H.sp.length H.cp]
theorem fw (H:MH):(dh H).all (·.oneCell')=true:=by simp[dh,Value.oneCell']
structure BR (w:World) (H:MH):Prop where
 fr:Sj w H.af H.cf H.m
 sl:uk w H.asl H.csl H.sl.length (H.sl.map fT)
 sw:Lb w H.wb H.cwb H.wq H.cwq H.sw
 dk:Lb w H.db H.cdb H.dq H.cdq H.dk
 st:Mw w H.ai H.ci H.fi
 ca:uk w H.ac H.cc H.ca.length (H.ca.flatMap mD)
 sp:uk w H.ap H.cp H.sp.length (H.sp.flatMap sW)
 ps:∀p∈H.sp,p.good w
 c64 : -9223372036854775808≤H.ct∧H.ct≤9223372036854775807
theorem BR.below {H:MH} (h:BR w H) (hb:Below w.heap.size w w'):BR w' H:=
 ⟨h.fr.below hb,h.sl.below hb,h.sw.below hb,h.dk.below hb,h.st.below hb,h.ca.below hb,h.sp.below hb,fun p hp=>(h.ps p hp).below hb,h.c64⟩
theorem zy {ps:List PS} (h:dP w a (ps.flatMap sW)) (k:Nat) (hk:k<ps.length):∃b off p,a=some ⟨b,off,none⟩∧ps[k]?=some p∧dP w (some ⟨b,off+k*10,none⟩) (sW p):=by
 obtain⟨b,off,ha,hc⟩:=h.elem sO (by decide) k hk;refine⟨b,off,ps[k],ha,aH hk,fun j u hj=>⟨b,off+k*10,rfl,hc j u hj⟩⟩
theorem xE {H:MH} (h:BR w H) {p:PS} (hp:H.sp[k]?=some p):p.good w:=h.ps p (bO hp)
theorem Vh {l:List Cc} (h:dP w a (l.flatMap mD)) (k:Nat) (hk:k<l.length):∃b off c,a=some ⟨b,off,none⟩∧l[k]?=some c∧w.cell? ⟨b,off+k*3,none⟩=some (.int .i64 c.f)∧w.cell? ⟨b,off+k*3+1,none⟩=some (.int .i64 c.i)∧w.cell? ⟨b,off+k*3+2,none⟩=some (.int .i64 c.k):=by
 obtain⟨b,off,ha,hc⟩:=h.elem pE (by decide) k hk;exact⟨b,off,l[k],ha,aH hk,hc 0 _ rfl,hc 1 _ rfl,hc 2 _ rfl⟩
structure QE (m:Ma):Prop where
 fs:m.m.fs.length≤1000
 sl:m.sl.length≤1000
 swb:m.sw.blocks.length≤1000
 swq:m.sw.queue.length≤1000
 dkb:m.dk.blocks.length≤1000
 dkq:m.dk.queue.length≤1000
 st:m.st.fs.length≤1000∧∀f∈m.st.fs,f.b.length≤1000
 ca:m.ca.length≤1000
 sp:m.sp.length≤1000∧∀s∈m.sp,s.ar.length≤1000∧∀k (h:k<8),s.tb[k].length≤1000
structure tu (w:World) (B:Nat) (H:MH):Prop where
 fr:Own w B 81 13 (.slice H.af H.m.fs.length H.cf) H.m.fs.length (H.m.fs.flatMap qf)
 sl:Own w B 3 1 (.slice H.asl H.sl.length H.csl) H.sl.length (H.sl.map fT)
 sw:il w B (.slice H.wb H.sw.blocks.length H.cwb) (.slice H.wq H.sw.queue.length H.cwq) H.sw
 dk:il w B (.slice H.db H.dk.blocks.length H.cdb) (.slice H.dq H.dk.queue.length H.cdq) H.dk
 st:nW w B (.slice H.ai H.fi.length H.ci) H.fi
 ca:Own w B 106 3 (.slice H.ac H.ca.length H.cc) H.ca.length (H.ca.flatMap mD)
 sp:Own w B 55 10 (.slice H.ap H.sp.length H.cp) H.sp.length (H.sp.flatMap sW)
 ps:∀p∈H.sp,Own w B 99 7 (.slice p.aa p.ar.length p.ac) p.ar.length (p.ar.flatMap mM)∧qG w B (nP p.ts) p.tb
 c64 : -9223372036854775808≤H.ct∧H.ct≤9223372036854775807
theorem tu.below {H:MH} (h:tu w B H) (hb:Below w.heap.size w w'):tu w' B H:=
 ⟨h.fr.below hb,h.sl.below hb,h.sw.below hb,h.dk.below hb,h.st.below hb,h.ca.below hb,h.sp.below hb,fun p hp=>⟨(h.ps p hp).1.below hb,(h.ps p hp).2.below hb⟩,h.c64⟩
theorem tu.mono {H:MH} (h:tu w B H) (hB:B'≤B):tu w B' H:=
 ⟨h.fr.mono hB,h.sl.mono hB,h.sw.mono hB,h.dk.mono hB,h.st.mono hB,h.ca.mono hB,h.sp.mono hB,fun p hp=>⟨(h.ps p hp).1.mono hB,(h.ps p hp).2.mono hB⟩,h.c64⟩
theorem ug (h:Own w B e sz (.slice a n c) n xs):uk w a c n xs:=by
 obtain⟨a',c',e1,h1⟩:=uk.of h;simp only[lU,true_and] at e1;obtain⟨rfl,rfl⟩:=e1;exact h1
theorem UX {b:Option Addr} {e:Nat} (h:il w B (.slice a d.blocks.length c) (.slice b d.queue.length e) d):Lb w a c b e d:=
 have h1:=ug h.b;have h2:=ug h.q
 ⟨h1.le,h2.le,h1.mx,h2.mx,h1.nl,h2.nl,h1.rd,h2.rd⟩
theorem VC {ps:List PF} (h:nW w B (.slice a ps.length c) ps):Mw w a c ps:=by
 obtain⟨a',c',e1,h1⟩:=h.rd;simp only[lU,true_and] at e1;obtain⟨rfl,rfl⟩:=e1;exact h1
theorem tu.rd {H:MH} (h:tu w B H):BR w H:=
 have h1:=ug h.fr
 ⟨⟨h1.le,h1.mx,h1.nl,h1.rd⟩,ug h.sl,UX h.sw,UX h.dk,VC h.st,ug h.ca,ug h.sp,fun p hp=>⟨have h2:=ug (h.ps p hp).1;⟨h2.le,h2.mx,h2.nl,h2.rd⟩,(h.ps p hp).2.rd⟩,h.c64⟩
theorem tu.keep {H:MH} (h:tu w B H) (hk:aB w g cs T)
 (hT:T≠81∧T≠3∧T≠79∧T≠86∧T≠67∧T≠106∧T≠55∧T≠99∧T≠89) (hgr:w.grownBy w' (some g)):tu w' B H:=
 have ⟨t1,t2,t3,t4,t5,t6,t7,t8,t9⟩:=hT
 ⟨ak h.fr hk t1 hgr,ak h.sl hk t2 hgr,h.sw.keep hk t3 t4 hgr,h.dk.keep hk t3 t4 hgr,h.st.keep hk t5 t2 hgr,ak h.ca hk t6 hgr,ak h.sp hk t7 hgr,fun p hp=>⟨ak (h.ps p hp).1 hk t8 hgr,(h.ps p hp).2.keep hk t9 hgr⟩,h.c64⟩
end Go.Proofs.YtjkkoeijlhfneaaGreat