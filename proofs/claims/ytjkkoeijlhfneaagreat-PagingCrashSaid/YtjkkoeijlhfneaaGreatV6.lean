import Derived.Test.YtjkkoeijlhfneaaGreatV5
set_option linter.unusedSimpArgs false
set_option linter.unusedVariables false
set_option maxHeartbeats 4000000
set_option maxRecDepth 100000
namespace Go.Proofs.YtjkkoeijlhfneaaGreat
open _root_.Go.Proofs.Tryz
open Go.RowKit Go.Maps Pw
variable {B B' b c c' cl ct f g g' gd gf gs gw gx i k n n' off p q s sz:Nat} {E:En} {F:PF} {L L':Nat → Bool} {P:Program} {Q:Exit → Act → World → Prop} {S S' S0:MW} {T e e':TypeId} {W W' W0 w w' w0 w1 w2:World} {a a' al as0:Option Addr} {bl:List Page} {cs cur z zf zp zs:Array Value} {fi0:List PF} {m:Ma} {o:Oper} {old vs xs ys:List Value} {ops:Array Oper} {rest:List Oper} {sp:List PS} {v v' v0:Value} {x:Operand} {y:Nat → Value} {ρ:Operand → Value}
theorem ents_size:(Tryz.prog.info? 90).map (·.size)=some 192:=by kernel_rfl
theorem FL {o d:Nat} (hlen:ys.length=xs.length) (hfit:o+xs.length≤cur.size) (hc:∀j u,xs[j]?=some u→cur[o+j]?=some u) (hd:d+vs.length≤xs.length)
 (hin:∀i,i<vs.length→ys[d+i]?=vs[i]?) (hout:∀i,(i<d∨d+vs.length≤i)→ys[i]?=xs[i]?):bA cur (o+d) vs=bA cur o ys:=by
 apply mg;intro m
 by_cases h1:o≤m∧m<o+xs.length
 ·obtain⟨e,rfl⟩:∃e,m=o+e:=⟨m-o,by omega⟩;obtain⟨u,hu⟩:∃u,ys[e]?=some u:=⟨_,aG (by omega)⟩;rw[putAt_in _ _ _ _ u (by omega) hu]
  by_cases h2:d≤e∧e<d+vs.length
  ·obtain⟨i,rfl⟩:∃i,e=d+i:=⟨e-d,by omega⟩;rw[hin i (by omega)] at hu;rw[←mU];exact putAt_in _ _ _ _ u (by omega) hu
  rw[hout e (by omega)] at hu;rw[putAt_out _ _ _ _ (by omega)];exact hc _ _ hu
 ·rw[putAt_out _ _ _ _ (by omega),putAt_out _ _ _ _ (by omega)]
theorem Jm {o:Nat} {X:Fr} (hfit:o+13≤cur.size) (hc:∀j u,(pO X)[j]?=some u→cur[o+j]?=some u):bA cur (o+8) [.int .i64 (X.r+1)]=bA cur o (pO (il X)):=
 FL (xs:=pO X) rfl hfit hc (by show 8+1≤13;omega) (fun i hi=>by
  obtain rfl:i=0:=by simpa using hi
  rfl) (fun i hi=>by
  match i,hi with
  | 0,_=>rfl
  | 1,_=>rfl
  | 2,_=>rfl
  | 3,_=>rfl
  | 4,_=>rfl
  | 5,_=>rfl
  | 6,_=>rfl
  | 7,_=>rfl
  | 8,h=>exact absurd h (by show ¬(8<8∨8+1≤8);omega)
  | 9,_=>rfl
  | 10,_=>rfl
  | 11,_=>rfl
  | 12,_=>rfl
  | n+13,_=>rfl)
def Va (S:MW) (p n:Nat) (B b:Nat) (w:World) (r:Ending) (w' : World):Prop:=∃S',r = .returned (.tuple #[])∧dW w' B b S'∧MS w b S w' S'∧IK S S'∧Bd S'.H.ma S'.T∧∀q j,¬(q=p∧j=n)→eU S'.T q j=eU S.T q j
theorem Mm (S:MW) (p n:Nat) (g:Pg) (B b:Nat) (w:World) (h:dW w B b S) (hd:Bd S.H.ma S.T) (hp:p<S.H.sp.length) (hn:n<64) (h0:(eU S.T p n).k=0) (hg:onA (fq S.H.ma p).ar n=some g) (hfi:g.fi<S.H.fi.length) (hpg:0≤g.pg) (hsh:g.sh=true→0≤g.fi) :
  Calls Tryz.prog 65 #[.pointer (some ⟨b,0,none⟩),.int .i64 p,.int .i64 n,.agg #[.bool true,.bool g.rd,.bool g.wr,.bool g.sh,.int .i64 g.fi,.int .i64 g.pg]] w (Va S p n B b w):=by
 obtain⟨grd,gwr,gsh,gfi,gpg⟩:=g;dsimp only at hfi hpg hsh ⊢;obtain⟨I,rfl⟩:=fE hpg;have hd':=Lib.hid hd;have hg':=Lib.hid hg;have h0':=Lib.hid h0;have hBs:=Lib.hid h.bs;clear hd hg h0 hpg;go_enter func65,ntmps65;go_upto_region 1 with (fail);refine gI (fun W=>Code.wp _ _ _ _ W) fun w1 hb1 bx1 hs1 => ?_;have h1:=h.below hb1;have s1:=(MS.refl w b S).below hb1;have hn0:=Lib.hid (h.new (ay _));clear h hb1 hs1
 go_wp2_with fail
 refine (fo _ 4 B b _ h1 (by omega)).mono ?_;rintro r w2 ⟨x,a2,c2,l2,rfl,h2,s2,hx,_⟩;have bx2:=s2.blkN bx1 hn0.out;have s2:=s1.trans s2;clear h1 s1 bx1;have hcx:=bx2.cell;go_upto_region 5 with (fail)
 by_cases hx0:x=0
 ·subst hx0;go_wp2;refine bodyPost_ret (v:=.tuple #[]) (by simp[results,go_sem,results65]) rfl ?_;exact⟨_,rfl,h2,s2,⟨rfl,rfl,rfl,rfl,rfl,rfl⟩,hd'.out,fun _ _ _=>rfl⟩
 have hx0b:(x==0)=false:=by simp[hx0]
 go_upto_region 6 with (fail)
 go_cut [44] (fun s44 wx=>s44 = .bool (decide (0≤gfi∧(gsh=true∨x=1)))∧wx=w2)
 case first=>
  by_cases hf:0≤gfi
  ·cases gsh with
   | true=>
    go_wp2;go_meet
    case rel=>exact⟨by simp[hf],rfl⟩
   | false=>
    by_cases hx1:x=1
    ·have hx1b:(x==1)=true:=by simp[hx1]
     have hx1':=Lib.hid hx1;clear hx1;go_wp2;go_meet
     case rel=>exact⟨by rw[decide_eq_true ⟨hf,.inr hx1'.out⟩],rfl⟩
    have hx1b:(x==1)=false:=by simp[hx1]
    go_wp2;go_meet
    case rel=>exact⟨by rw[decide_eq_false (by rintro⟨_,h | h⟩;cases h;exact hx1 h)],rfl⟩
  go_wp2;go_meet
  case rel=>exact⟨by rw[decide_eq_false (fun h=>by have:=h.1;omega)],rfl⟩
 case rest=>
  obtain⟨rfl,hwc⟩:=hcut;subst wc
  by_cases hF:0≤gfi∧(gsh=true∨x=1)
  ·rw[decide_eq_true hF];obtain⟨F,rfl⟩:=fE hF.1;have hFl:F<S.H.fi.length:=by omega
   obtain⟨p0,hp0⟩:∃p0,S.H.fi[F]?=some p0:=⟨_,aG hFl⟩;have hfa:Hid (aU S.H.ma.st (F:Int)=p0.fi):=Lib.hid (oJ (by show (S.H.fi.map PF.fi)[F]?=_;rw[jM,hp0];rfl));obtain⟨bf,of,hai,hrd⟩:=jH jq (by decide) h2.ma.rd.st.rd F hFl;have hai:S.H.ai=some ⟨bf,of,none⟩:=hai;have hrd:dN w2 (some ⟨bf,of+F*2,none⟩) (pY p0):=by rw[←(bW.1 hp0).2];exact hrd
   have rc1:∀W,Below w2.heap.size w2 W→W.cell? ⟨bf,of+F*2+1,none⟩=some (.slice p0.a p0.l.length p0.c):=fun W hb=>by obtain⟨b',o',e,hcc⟩:=(hrd.below hb) 1 _ rfl;cases e;exact hcc
   have hfi':=Lib.hid hfi;clear hp0 hrd hfi;go_upto_region 7 with (fail)
   by_cases hge:(p0.l.length:Int)≤(I:Int)
   ·skip;refine aK 15 [_,_,_,_,_,_,_,_,_,_,_,_,_,_,_] (Gf w.heap.size 5 rfl rfl (Gl bx2 rfl rfl rfl rfl rfl (Gk rfl (Gk rfl (Gf b 1 rfl rfl (Gf b 8 rfl rfl (Gf b 8 rfl rfl (Gl h2.blk (V:=.slice (some ⟨bf,of,none⟩) S.H.fi.length S.H.ci) (by simp[iQ,MW.lst,hai]) rfl rfl rfl rfl (Gf w.heap.size 4 rfl rfl (Gl bx2 rfl rfl rfl rfl rfl (Gr (.pointer (some ⟨bf,of+F*2,none⟩)) (fun ρ y W hb hKn=>(bv rfl (aD rfl hKn) (aD rfl hKn) hFl underlying35 file_size)) rfl rfl (Gf bf (of+F*2+1) rfl rfl (Gc (.slice p0.a p0.l.length p0.c) (fun W hb=>by simp[rc1 _ hb]) rfl rfl rfl rfl (Gn rfl rfl rfl rfl (Gb (.bool true) (by simp[go_sem,hge]) rfl rfl rfl rfl rfl (aB)))))))))))))))) (fun _=>rfl) rfl ?_;intro y W3 hbW3 _;have h3:=h2.below hbW3;have s3:=s2.below hbW3;have bx3:=bx2.ext hbW3;clear h2 s2 bx2 hcx hbW3 rc1 hai;have hcx:=bx3.cell;go_wp2;refine bodyPost_ret (v:=.tuple #[]) (by simp[results,go_sem,results65]) rfl ?_;exact⟨_,rfl,h3,s3,⟨rfl,rfl,rfl,rfl,rfl,rfl⟩,hd'.out,fun _ _ _=>rfl⟩
   skip;refine aK 15 [_,_,_,_,_,_,_,_,_,_,_,_,_,_,_] (Gf w.heap.size 5 rfl rfl (Gl bx2 rfl rfl rfl rfl rfl (Gk rfl (Gk rfl (Gf b 1 rfl rfl (Gf b 8 rfl rfl (Gf b 8 rfl rfl (Gl h2.blk (V:=.slice (some ⟨bf,of,none⟩) S.H.fi.length S.H.ci) (by simp[iQ,MW.lst,hai]) rfl rfl rfl rfl (Gf w.heap.size 4 rfl rfl (Gl bx2 rfl rfl rfl rfl rfl (Gr (.pointer (some ⟨bf,of+F*2,none⟩)) (fun ρ y W hb hKn=>(bv rfl (aD rfl hKn) (aD rfl hKn) hFl underlying35 file_size)) rfl rfl (Gf bf (of+F*2+1) rfl rfl (Gc (.slice p0.a p0.l.length p0.c) (fun W hb=>by simp[rc1 _ hb]) rfl rfl rfl rfl (Gn rfl rfl rfl rfl (Gb (.bool false) (by simp[go_sem,hge]) rfl rfl rfl rfl rfl (aB)))))))))))))))) (fun _=>rfl) rfl ?_;intro y W3 hbW3 _;have h3:=h2.below hbW3;have s3:=s2.below hbW3;have bx3:=bx2.ext hbW3;clear h2 s2 bx2 hcx hbW3 rc1 hai;have hcx:=bx3.cell
   go_wp2_with fail
   refine (JN _ F I B b _ h3 hd'.out ⟨⟨by omega,by simp[MH.ma,bZ,MW.lst];omega⟩,by omega,by show (I:Int)<(aU S.H.ma.st (F:Int)).b.length;rw[hfa.out];show (I:Int)<p0.l.length;omega⟩).mono ?_;rintro r w4 ⟨x3,S3,rfl,h4,s4,k4,t4,bd4,hx4⟩;have bx4:=s4.blkN bx3 hn0.out;have hn4:=Lib.hid (s4.not bx3.lt hn0.out);have s4:=s3.trans s4;clear h3 s3 bx3 hcx;have hcx:=bx4.cell;rcases hx4 with rfl|⟨c,hcm,hcf,hci,rfl⟩
   ·go_wp2;refine bodyPost_ret (v:=.tuple #[]) (by simp[results,go_sem,results65]) rfl ?_;exact⟨S3,rfl,h4,s4,⟨k4.sp,k4.fi,k4.ct,k4.dk,k4.fl,k4.sl⟩,bd4,fun _ _ _=>by rw[t4];rfl⟩
   have hlt:=bd4.rt.ca.lt c hcm;obtain⟨f,hfk⟩:=fE hlt.1;have hfl:f<S3.H.m.fs.length:=by have e:((dU S3.H.ma S3.T).m.fs.length:Nat)=S3.H.m.fs.length:=rfl;omega
   have hcm':=Lib.hid (And.intro hcm (And.intro hcf hci));have hfk':=Lib.hid hfk;rw[hfk];clear hlt hcm hcf hci hfk;obtain⟨gf,off,cap,cur,hv,hgB,hgk,hgs,hgc,hgw⟩:=h4.ma.fr.put eZ (by decide) f hfl;have haf:S3.H.af=some ⟨gf,off,none⟩:=(nQ hv).1;have hX:Hid (aT S3.H.ma f=S3.H.m.fs[f]):=Lib.hid (by unfold aT;show S3.H.m.fs.getD f fr0=_;rw[aW,aG (by omega)];rfl);have hr0:=bd4.rt.fewR (f:=f) hfl;have hr1:0≤(S3.H.m.fs[f]).r∧(S3.H.m.fs[f]).r≤257:=by rw[←hX.out];exact hr0
   have c8:w4.cell? ⟨gf,off+f*13+8,none⟩=some (.int .i64 (S3.H.m.fs[f]).r):=hgc 8 _ rfl;have hgw':=Lib.hid hgw;have hgc':=Lib.hid hgc;clear hv hgw hgc hr0;generalize S3.H.m.fs[f]=X at c8 hX hr1 hgc';have hc:=h4.blk.cell;unfold iQ at hc;rw[haf] at hc;have hwr:IntKind.i64.wrap (X.r+1)=X.r+1:=bJ _ (by omega);have hfi2:(f:Int)<(S3.H.m.fs.length:Int):=by omega
   go_wp2_with (refine aA rfl _ _ _ rfl gf (off+f*13+8) _ [.int .i64 (X.r+1)] rfl rfl rfl _ _ hgk (by show off+f*13+8+1≤cur.size;omega) (by kernel_rfl) (fun u hu=>by cases bq.1 hu;rfl) ?_)
   intro w5 hb5 hg5;rw[Jm (by omega) (fun j u hj=>by rw[←hgk.cell];exact hgc'.out j u hj)] at hb5;have h5:dW w5 B b (S3.frs (S3.H.m.fs.set f (il X))):=h4.putF hgk hgB hg5 (fs:=S3.H.m.fs.set f (il X)) (by simp) (by simpa using hgw'.out _ _ hb5);have hkaf:mE b S3 gf:=.inr (by simp only[gV,haf];exact gL);have s5:=s4.put (H':=S3.frs (S3.H.m.fs.set f (il X))) hg5 hkaf (fun x hx => .inl hx);have bx5:=bx4.grown hg5 (fun e=>hn4.out (by rw[←aJ e];exact hkaf));have hn5:Hid (¬mE b (S3.frs (S3.H.m.fs.set f (il X))) w.heap.size):=hn4;have hTl:S3.T.length=S.H.sp.length:=by have:=bd4.ok.len;rw[this];show (S3.H.sp.map PS.sp).length=_;rw[fe,k4.sp];rfl
   have hpT:p<S3.T.length:=by omega
   have hTn:∀(S' : MW),S'.T=S3.T→(eP S'.T p).length=64:=fun S' e=>by rw[e];exact bd4.ok.l64 (by rw[←bd4.ok.len];exact hpT)
   have hsp4:fq S3.H.ma p=fq S.H.ma p:=by show (S3.H.sp.map PS.sp).getD p zSp=(S.H.sp.map PS.sp).getD p zSp;rw[k4.sp];rfl
   have hp4:p<S3.H.ma.sp.length:=by show p<(S3.H.sp.map PS.sp).length;rw[fe,k4.sp];exact hp
   have hbdu:Hid (∀u:Bool,(u=true→gsh=true∧gwr=true)→Bd (S3.frs (S3.H.m.fs.set f (il X))).H.ma (setL (S3.frs (S3.H.m.fs.set f (il X))).T p n ⟨1,f,u⟩)):=Lib.hid fun u hu=>by have h9:=bd4.cachedE (w:=u) hp4 hn (by rw[t4];exact h0'.out) hcm'.out.1 (by rw[hsp4];exact hg'.out) hcm'.out.2 hu;rw[hfk'.out,bU,hX.out] at h9;exact h9
   have hK5:Hid (IK S (S3.frs (S3.H.m.fs.set f (il X)))):=Lib.hid ⟨k4.sp,k4.fi,k4.ct,k4.dk,by show (S3.H.m.fs.set f (il X)).length=_;rw[bI];exact k4.fl,k4.sl⟩;have hent5:Hid (∀x q j,¬(q=p∧j=n)→eU (setL (S3.frs (S3.H.m.fs.set f (il X))).T p n x) q j=eU S.T q j):=Lib.hid fun x q j hne=>by show eU (setL S3.T p n x) q j=_;rw[wu bd4.ok hp4 hn,if_neg hne,t4];rfl
   have hpT5:Hid (p<(S3.frs (S3.H.m.fs.set f (il X))).T.length):=Lib.hid hpT;have hTn5:Hid (∀S' : MW,S'.T=(S3.frs (S3.H.m.fs.set f (il X))).T→(eP S'.T p).length=64):=Lib.hid hTn;generalize S3.frs (S3.H.m.fs.set f (il X))=S5 at *
   obtain⟨gT,oT,_,hab,_⟩:=dW.ent (S:=S5) h5 (p:=p) (n:=n) hpT5.out hn (hTn5.out _ rfl);clear hsp4 hp4 hpT hTn hTl;clear h4 s4 bx4 hcx hc c8 hb5 hg5 hgk hgc' hgw' hgs haf;go_upto_region 11 with (fail);cases gsh with
   | true=>cases gwr with
    | true=>
     skip;refine gH 20 [_,_,_,.v (.slice (some ⟨gT,oT,none⟩) S5.T.length S5.cb),_,.v (.int .i64 (n:Int)),_,_,.v (.bool true),_,_,.v (.bool true),_,_,_,.r 15 ((bX fun v => ∃x:Int,v = .int .i64 x∧0≤x)),.r 16 ((bX fun v => ∃u,v = .bool u)),.r 17 ((bX fun v => ∃u,(u=true→true=true)∧v = .bool u)),.r 18 ((bX fun v => ∃u,(u=true→true=true)∧v = .agg #[.int .i64 1,.int .i64 (f:Int),.bool u])),_] (LF S5 B b w5 [(w.heap.size,#[.bool true,.bool grd,.bool true,.bool true,.int .i64 (F:Int),.int .i64 (I:Int)],109)]) aF (fun _=>⟨S5.al,S5.cl,S5.l,h5,MS.refl _ _ _,by simpa using ⟨bx5,hn5.out⟩⟩) (Qk aF rfl (Qk aF rfl (Qf aF b 12 rfl rfl (ag ?_ (Qk aF rfl (Qk aF rfl (Qk aF rfl (Qf aF w.heap.size 3 rfl rfl (ag ?_ (Qk aF rfl (Qf aF w.heap.size 2 rfl rfl (ag ?_ (Qk aF rfl (Qk aF rfl (Qk aF rfl (ag ?_ (ag ?_ (ag ?_ (ag ?_ (Qr aF (.pointer (some ⟨gT,oT+p*192,none⟩)) (fun ρ y W hKn=>(bv rfl (aD rfl hKn) (aD rfl hKn) hpT5.out underlying75 ents_size)) rfl rfl (aB))))))))))))))))))))) (fun _=>rfl) rfl ?_
     ·intro ρ y W L hw hn hLi hLd hb hd;refine eB aF (fun _ _ h=>h) hb ?_;have E94:=hw 94 2 rfl;have h2:y 2=_:=hd 2 rfl;obtain⟨a,c,l,m1,m2,m3⟩:=hb;refine aj (.slice (some ⟨gT,oT,none⟩) S5.T.length S5.cb) (ah rfl) (by simp[execOp,go_sem,E94,h2,m1.blk.cell,iQ,MW.lst,hab]) rfl
     ·intro ρ y W L hw hn hLi hLd hb hd;refine eB aF (fun _ _ h=>h) hb ?_;have E99:=hw 99 7 rfl;have h7:y 7=_:=hd 7 rfl;obtain⟨a,c,l,m1,m2,m3⟩:=hb;have m3:=(m3 _ (bq.2 rfl)).1;refine aj (.bool true) (ah rfl) (by simp[execOp,go_sem,E99,h7,m3.cell]) rfl
     ·intro ρ y W L hw hn hLi hLd hb hd;refine eB aF (fun _ _ h=>h) hb ?_;have E102:=hw 102 10 rfl;have h10:y 10=_:=hd 10 rfl;obtain⟨a,c,l,m1,m2,m3⟩:=hb;have m3:=(m3 _ (bq.2 rfl)).1;refine aj (.bool true) (aY 9 101 true true rfl rfl ((hw 101 9 rfl).trans (hd 9 rfl))) (by simp[execOp,go_sem,E102,h10,m3.cell]) rfl
     ·intro ρ y W L hw hn hLi hLd hb hd;have E106:=hw 106 14 rfl;have h14:y 14=_:=hd 14 rfl;have EC:∀v,ρ (.const v)=v:=fun v=>hn (.const v) trivial;have EF:∀f,ρ (.func f) = .func (.func f) #[] #[]:=fun f=>hn (.func f) trivial;refine gJ _ _ (aY 13 105 true true rfl rfl ((hw 105 13 rfl).trans (hd 13 rfl))) (aQ rfl (EF _) func30 (by kernel_rfl) (by kernel_rfl) (by simp only[bP,bM,bN,E106,h14,EC,EF];rfl)) ?_;exact zK 2 (by omega) hb fun x h1 _ _ _=>⟨x,rfl,h1⟩
     ·intro ρ y W L hw hn hLi hLd hb hd;refine eB aF (fun _ _ h=>h) hb ?_;have E107:=hw 107 15 rfl;have h15:=hd 15 rfl;obtain⟨x,hx,_⟩:=h15;refine aj _ (aY 13 105 true true rfl rfl ((hw 105 13 rfl).trans (hd 13 rfl))) (oO rfl (E107.trans hx) (hn (.const _) trivial) (by simp[go_sem];rfl)) ⟨_,rfl⟩
     ·intro ρ y W L hw hn hLi hLd hb hd;refine eB aF (fun _ _ h=>h) hb ?_;have E105:=hw 105 13 rfl;have h13:y 13=_:=hd 13 rfl;have E108:=hw 108 16 rfl;have h16:=hd 16 rfl;obtain⟨u,hu⟩:=h16;refine aj (.bool u) (ah rfl) (pJ rfl (E105.trans h13) (by simpa using E108.trans hu)) ⟨_,fun _=>rfl,rfl⟩
     ·intro ρ y W L hw hn hLi hLd hb hd;refine eB aF (fun _ _ h=>h) hb ?_;have E98:=hw 98 6 rfl;have h6:y 6=_:=hd 6 rfl;have E109:=hw 109 17 rfl;have h17:=hd 17 rfl;obtain⟨u,hu1,hu⟩:=h17;have EC:∀v,ρ (.const v)=v:=fun v=>hn (.const v) trivial;refine aj (.agg #[.int .i64 1,.int .i64 (f:Int),.bool u]) (ah rfl) (by simp[execOp,go_sem,E98,h6,E109,EC,hu]) ⟨u,hu1,rfl⟩
     intro y W6 hbW6 hRW6;have hy15:((bX fun v => ∃x:Int,v = .int .i64 x∧0≤x)).r (y 15) W6:=hRW6 15 (by decide);have hy16:((bX fun v => ∃u,v = .bool u)).r (y 16) W6:=hRW6 16 (by decide);have hy17:((bX fun v => ∃u,(u=true→true=true)∧v = .bool u)).r (y 17) W6:=hRW6 17 (by decide);have hy18:((bX fun v => ∃u,(u=true→true=true)∧v = .agg #[.int .i64 1,.int .i64 (f:Int),.bool u])).r (y 18) W6:=hRW6 18 (by decide);clear hRW6;obtain⟨a6,c6,l6,h6,s6,_⟩:=hbW6;obtain⟨u,hu1,hu⟩:=hy18;rw[hu];clear hu;obtain⟨gT',oT',curT,hab',hgTB,hgT,hgTs,_,hgTw⟩:=dW.ent (S:=S5.lst a6 c6 l6) h6 (p:=p) (n:=n) hpT5.out hn (hTn5.out _ rfl);have e9:(some (⟨gT',oT',none⟩:Addr))=some ⟨gT,oT,none⟩:=hab'.symm.trans hab;cases e9;have hpTi:(p:Int)<(S5.T.length:Int):=by have:=hpT5.out;omega
     have hni:(n:Int)<64:=by omega
     have hgTw':=Lib.hid hgTw;have s6:=s5.trans s6;clear hgTw hab' h5 s5
     go_wp2_with (refine aA rfl _ _ _ rfl gT (oT+p*192+n*3) _ (kP ⟨1,f,u⟩) rfl rfl rfl _ _ hgT (by rw[eY];exact hgTs) (by kernel_rfl) (bR (iL _)) ?_)
     intro w7 hb7 hg7;have h7:=hgTw'.out w7 ⟨1,f,u⟩ hb7 hg7;have s7:=s6.put (H':={ S5.lst a6 c6 l6 with T:=setL (S5.lst a6 c6 l6).T p n ⟨1,f,u⟩ }) hg7 (.inr (by simp only[gV,MW.lst,hab];simp[oB];right;right;right;right;right;right;right;right;rfl)) (fun x hx => .inl hx);clear hgT hb7 hg7 h6 s6;go_wp2;refine bodyPost_ret (v:=.tuple #[]) (by simp[results,go_sem,results65]) rfl ?_;exact⟨_,rfl,h7,s7,⟨hK5.out.sp,hK5.out.fi,hK5.out.ct,hK5.out.dk,hK5.out.fl,hK5.out.sl⟩,hbdu.out u (fun h=>by first | exact trivial | exact⟨rfl,rfl⟩ | exact absurd (hu1 h) (by decide) | simp),hent5.out _⟩
    | false=>
     skip;refine gH 20 [_,_,_,.v (.slice (some ⟨gT,oT,none⟩) S5.T.length S5.cb),_,.v (.int .i64 (n:Int)),_,_,.v (.bool true),_,_,.v (.bool false),_,_,_,_,_,.r 17 ((bX fun v => ∃u,(u=true→false=true)∧v = .bool u)),.r 18 ((bX fun v => ∃u,(u=true→false=true)∧v = .agg #[.int .i64 1,.int .i64 (f:Int),.bool u])),_] (LF S5 B b w5 [(w.heap.size,#[.bool true,.bool grd,.bool false,.bool true,.int .i64 (F:Int),.int .i64 (I:Int)],109)]) aF (fun _=>⟨S5.al,S5.cl,S5.l,h5,MS.refl _ _ _,by simpa using ⟨bx5,hn5.out⟩⟩) (Qk aF rfl (Qk aF rfl (Qf aF b 12 rfl rfl (ag ?_ (Qk aF rfl (Qk aF rfl (Qk aF rfl (Qf aF w.heap.size 3 rfl rfl (ag ?_ (Qk aF rfl (Qf aF w.heap.size 2 rfl rfl (ag ?_ (Qk aF rfl (Qk aF rfl (Qk aF rfl (Qk aF rfl (Qk aF rfl (ag ?_ (ag ?_ (Qr aF (.pointer (some ⟨gT,oT+p*192,none⟩)) (fun ρ y W hKn=>(bv rfl (aD rfl hKn) (aD rfl hKn) hpT5.out underlying75 ents_size)) rfl rfl (aB))))))))))))))))))))) (fun _=>rfl) rfl ?_
     ·intro ρ y W L hw hn hLi hLd hb hd;refine eB aF (fun _ _ h=>h) hb ?_;have E94:=hw 94 2 rfl;have h2:y 2=_:=hd 2 rfl;obtain⟨a,c,l,m1,m2,m3⟩:=hb;refine aj (.slice (some ⟨gT,oT,none⟩) S5.T.length S5.cb) (ah rfl) (by simp[execOp,go_sem,E94,h2,m1.blk.cell,iQ,MW.lst,hab]) rfl
     ·intro ρ y W L hw hn hLi hLd hb hd;refine eB aF (fun _ _ h=>h) hb ?_;have E99:=hw 99 7 rfl;have h7:y 7=_:=hd 7 rfl;obtain⟨a,c,l,m1,m2,m3⟩:=hb;have m3:=(m3 _ (bq.2 rfl)).1;refine aj (.bool true) (ah rfl) (by simp[execOp,go_sem,E99,h7,m3.cell]) rfl
     ·intro ρ y W L hw hn hLi hLd hb hd;refine eB aF (fun _ _ h=>h) hb ?_;have E102:=hw 102 10 rfl;have h10:y 10=_:=hd 10 rfl;obtain⟨a,c,l,m1,m2,m3⟩:=hb;have m3:=(m3 _ (bq.2 rfl)).1;refine aj (.bool false) (aY 9 101 true true rfl rfl ((hw 101 9 rfl).trans (hd 9 rfl))) (by simp[execOp,go_sem,E102,h10,m3.cell]) rfl
     ·intro ρ y W L hw hn hLi hLd hb hd;refine eB aF (fun _ _ h=>h) hb ?_;have E105:=hw 105 13 rfl;have h13:y 13=_:=hd 13 rfl;have E108:=hw 108 16 rfl;have h16:y 16=_:=hd 16 rfl;refine aj (.bool false) (ah rfl) (pJ rfl (E105.trans h13) (by exact (hn (.const _) trivial).trans rfl)) ⟨false,fun h=>(by cases h),rfl⟩
     ·intro ρ y W L hw hn hLi hLd hb hd;refine eB aF (fun _ _ h=>h) hb ?_;have E98:=hw 98 6 rfl;have h6:y 6=_:=hd 6 rfl;have E109:=hw 109 17 rfl;have h17:=hd 17 rfl;obtain⟨u,hu1,hu⟩:=h17;have EC:∀v,ρ (.const v)=v:=fun v=>hn (.const v) trivial;refine aj (.agg #[.int .i64 1,.int .i64 (f:Int),.bool u]) (ah rfl) (by simp[execOp,go_sem,E98,h6,E109,EC,hu]) ⟨u,hu1,rfl⟩
     intro y W6 hbW6 hRW6;have hy17:((bX fun v => ∃u,(u=true→false=true)∧v = .bool u)).r (y 17) W6:=hRW6 17 (by decide);have hy18:((bX fun v => ∃u,(u=true→false=true)∧v = .agg #[.int .i64 1,.int .i64 (f:Int),.bool u])).r (y 18) W6:=hRW6 18 (by decide);clear hRW6;obtain⟨a6,c6,l6,h6,s6,_⟩:=hbW6;obtain⟨u,hu1,hu⟩:=hy18;rw[hu];clear hu;obtain⟨gT',oT',curT,hab',hgTB,hgT,hgTs,_,hgTw⟩:=dW.ent (S:=S5.lst a6 c6 l6) h6 (p:=p) (n:=n) hpT5.out hn (hTn5.out _ rfl);have e9:(some (⟨gT',oT',none⟩:Addr))=some ⟨gT,oT,none⟩:=hab'.symm.trans hab;cases e9;have hpTi:(p:Int)<(S5.T.length:Int):=by have:=hpT5.out;omega
     have hni:(n:Int)<64:=by omega
     have hgTw':=Lib.hid hgTw;have s6:=s5.trans s6;clear hgTw hab' h5 s5
     go_wp2_with (refine aA rfl _ _ _ rfl gT (oT+p*192+n*3) _ (kP ⟨1,f,u⟩) rfl rfl rfl _ _ hgT (by rw[eY];exact hgTs) (by kernel_rfl) (bR (iL _)) ?_)
     intro w7 hb7 hg7;have h7:=hgTw'.out w7 ⟨1,f,u⟩ hb7 hg7;have s7:=s6.put (H':={ S5.lst a6 c6 l6 with T:=setL (S5.lst a6 c6 l6).T p n ⟨1,f,u⟩ }) hg7 (.inr (by simp only[gV,MW.lst,hab];simp[oB];right;right;right;right;right;right;right;right;rfl)) (fun x hx => .inl hx);clear hgT hb7 hg7 h6 s6;go_wp2;refine bodyPost_ret (v:=.tuple #[]) (by simp[results,go_sem,results65]) rfl ?_;exact⟨_,rfl,h7,s7,⟨hK5.out.sp,hK5.out.fi,hK5.out.ct,hK5.out.dk,hK5.out.fl,hK5.out.sl⟩,hbdu.out u (fun h=>by first | exact trivial | exact⟨rfl,rfl⟩ | exact absurd (hu1 h) (by decide) | simp),hent5.out _⟩
   | false=>
    skip;refine gH 20 [_,_,_,.v (.slice (some ⟨gT,oT,none⟩) S5.T.length S5.cb),_,.v (.int .i64 (n:Int)),_,_,.v (.bool false),_,_,_,_,_,_,_,_,.r 17 ((bX fun v => ∃u,(u=true→false=true)∧v = .bool u)),.r 18 ((bX fun v => ∃u,(u=true→false=true)∧v = .agg #[.int .i64 1,.int .i64 (f:Int),.bool u])),_] (LF S5 B b w5 [(w.heap.size,#[.bool true,.bool grd,.bool gwr,.bool false,.int .i64 (F:Int),.int .i64 (I:Int)],109)]) aF (fun _=>⟨S5.al,S5.cl,S5.l,h5,MS.refl _ _ _,by simpa using ⟨bx5,hn5.out⟩⟩) (Qk aF rfl (Qk aF rfl (Qf aF b 12 rfl rfl (ag ?_ (Qk aF rfl (Qk aF rfl (Qk aF rfl (Qf aF w.heap.size 3 rfl rfl (ag ?_ (Qk aF rfl (Qk aF rfl (Qk aF rfl (Qk aF rfl (Qk aF rfl (Qk aF rfl (Qk aF rfl (Qk aF rfl (ag ?_ (ag ?_ (Qr aF (.pointer (some ⟨gT,oT+p*192,none⟩)) (fun ρ y W hKn=>(bv rfl (aD rfl hKn) (aD rfl hKn) hpT5.out underlying75 ents_size)) rfl rfl (aB))))))))))))))))))))) (fun _=>rfl) rfl ?_
    ·intro ρ y W L hw hn hLi hLd hb hd;refine eB aF (fun _ _ h=>h) hb ?_;have E94:=hw 94 2 rfl;have h2:y 2=_:=hd 2 rfl;obtain⟨a,c,l,m1,m2,m3⟩:=hb;refine aj (.slice (some ⟨gT,oT,none⟩) S5.T.length S5.cb) (ah rfl) (by simp[execOp,go_sem,E94,h2,m1.blk.cell,iQ,MW.lst,hab]) rfl
    ·intro ρ y W L hw hn hLi hLd hb hd;refine eB aF (fun _ _ h=>h) hb ?_;have E99:=hw 99 7 rfl;have h7:y 7=_:=hd 7 rfl;obtain⟨a,c,l,m1,m2,m3⟩:=hb;have m3:=(m3 _ (bq.2 rfl)).1;refine aj (.bool false) (ah rfl) (by simp[execOp,go_sem,E99,h7,m3.cell]) rfl
    ·intro ρ y W L hw hn hLi hLd hb hd;refine eB aF (fun _ _ h=>h) hb ?_;have E105:=hw 105 13 rfl;have h13:y 13=_:=hd 13 rfl;have E108:=hw 108 16 rfl;have h16:y 16=_:=hd 16 rfl;refine aj (.bool false) (ah rfl) (pJ rfl (E105.trans h13) (by exact (hn (.const _) trivial).trans rfl)) ⟨false,fun h=>(by cases h),rfl⟩
    ·intro ρ y W L hw hn hLi hLd hb hd;refine eB aF (fun _ _ h=>h) hb ?_;have E98:=hw 98 6 rfl;have h6:y 6=_:=hd 6 rfl;have E109:=hw 109 17 rfl;have h17:=hd 17 rfl;obtain⟨u,hu1,hu⟩:=h17;have EC:∀v,ρ (.const v)=v:=fun v=>hn (.const v) trivial;refine aj (.agg #[.int .i64 1,.int .i64 (f:Int),.bool u]) (ah rfl) (by simp[execOp,go_sem,E98,h6,E109,EC,hu]) ⟨u,hu1,rfl⟩
    intro y W6 hbW6 hRW6;have hy17:((bX fun v => ∃u,(u=true→false=true)∧v = .bool u)).r (y 17) W6:=hRW6 17 (by decide);have hy18:((bX fun v => ∃u,(u=true→false=true)∧v = .agg #[.int .i64 1,.int .i64 (f:Int),.bool u])).r (y 18) W6:=hRW6 18 (by decide);clear hRW6;obtain⟨a6,c6,l6,h6,s6,_⟩:=hbW6;obtain⟨u,hu1,hu⟩:=hy18;rw[hu];clear hu;obtain⟨gT',oT',curT,hab',hgTB,hgT,hgTs,_,hgTw⟩:=dW.ent (S:=S5.lst a6 c6 l6) h6 (p:=p) (n:=n) hpT5.out hn (hTn5.out _ rfl);have e9:(some (⟨gT',oT',none⟩:Addr))=some ⟨gT,oT,none⟩:=hab'.symm.trans hab;cases e9;have hpTi:(p:Int)<(S5.T.length:Int):=by have:=hpT5.out;omega
    have hni:(n:Int)<64:=by omega
    have hgTw':=Lib.hid hgTw;have s6:=s5.trans s6;clear hgTw hab' h5 s5
    go_wp2_with (refine aA rfl _ _ _ rfl gT (oT+p*192+n*3) _ (kP ⟨1,f,u⟩) rfl rfl rfl _ _ hgT (by rw[eY];exact hgTs) (by kernel_rfl) (bR (iL _)) ?_)
    intro w7 hb7 hg7;have h7:=hgTw'.out w7 ⟨1,f,u⟩ hb7 hg7;have s7:=s6.put (H':={ S5.lst a6 c6 l6 with T:=setL (S5.lst a6 c6 l6).T p n ⟨1,f,u⟩ }) hg7 (.inr (by simp only[gV,MW.lst,hab];simp[oB];right;right;right;right;right;right;right;right;rfl)) (fun x hx => .inl hx);clear hgT hb7 hg7 h6 s6;go_wp2;refine bodyPost_ret (v:=.tuple #[]) (by simp[results,go_sem,results65]) rfl ?_;exact⟨_,rfl,h7,s7,⟨hK5.out.sp,hK5.out.fi,hK5.out.ct,hK5.out.dk,hK5.out.fl,hK5.out.sl⟩,hbdu.out u (fun h=>by first | exact trivial | exact⟨rfl,rfl⟩ | exact absurd (hu1 h) (by decide) | simp),hent5.out _⟩
  rw[decide_eq_false hF];obtain rfl:gsh=false:=by
   cases gsh with
   | false=>rfl
   | true=>exact absurd ⟨hsh rfl,.inl rfl⟩ hF
  have hfew:=Lib.hid hd'.out.few;have hsl60:S.H.sl.length≤60:=hfew.out.2.1;have hc:=h2.blk.cell;unfold iQ at hc;dsimp only[MW.lst] at hc;clear hF hsh;go_upto_region 12 with (fail)
  go_cut [113] (fun s113 wx=>s113 = .bool (decide (x=2∧0<S.H.sl.length))∧wx=w2)
  case first=>
   by_cases hx2:x=2
   ·have hx2b:(x==2)=true:=by simp[hx2]
    have hx2':=Lib.hid hx2;clear hx2
    by_cases hsl:0<S.H.sl.length
    ·have hsli:(0:Int)<(S.H.sl.length:Int):=by omega
     go_wp2;go_meet
     case rel=>exact⟨by rw[decide_eq_true ⟨hx2'.out,hsl⟩],rfl⟩
    have hsli:¬(0:Int)<(S.H.sl.length:Int):=by omega
    go_wp2;go_meet
    case rel=>exact⟨by rw[decide_eq_false (fun h=>hsl h.2)],rfl⟩
   have hx2b:(x==2)=false:=by simp[hx2]
   go_wp2;go_meet
   case rel=>exact⟨by rw[decide_eq_false (fun h=>hx2 h.1)],rfl⟩
  case rest=>
   obtain⟨rfl,hwc⟩:=hcut;subst wc
   by_cases hS:x=2∧0<S.H.sl.length
   ·rw[decide_eq_true hS];have hsl:=hS.2;clear hS
    go_wp2_with fail
    refine (fo _ _ B b _ h2 (by omega)).mono ?_;rintro r w3 ⟨y3,a3,c3,l3,rfl,h3,s3,hy3,_⟩;rw[nk] at h3 s3;have s3:=s2.trans s3;obtain⟨s0,rfl⟩:=fE hy3.1;have hs0:s0<S.H.sl.length:=by omega
    have hs0i:(s0:Int)<(S.H.sl.length:Int):=by omega
    clear h2 s2 bx2 hcx hc hy3;have hc:=h3.blk.cell;unfold iQ at hc;dsimp only[MW.lst] at hc;obtain⟨gs,off,cap,cur,hv,hgB,hgk,hgs,hgc,hgw⟩:=Own.put (enc:=fun x=>[fM x]) (sz:=1) (l:=S.H.sl) (fun _=>rfl) Nat.one_pos (by rw[iR];exact h3.ma.sl) s0 hs0;have has:S.H.asl=some ⟨gs,off,none⟩:=(nQ hv).1;rw[has] at hc;rw[rP] at hgs hgc hgw;have c0:w3.cell? ⟨gs,off+s0,none⟩=some (.int .i64 S.H.sl[s0]):=hgc 0 _ rfl;have hz0:Hid (oG S.H.ma s0=S.H.sl[s0]):=Lib.hid (by unfold oG;show S.H.sl.getD s0 0=_;rw[aW,aG hs0];rfl);have hgw':=Lib.hid hgw;clear hv hgw hgc;generalize S.H.sl[s0]=v0 at c0 hz0
    by_cases hz:v0=0
    ·subst hz
     go_wp2_with (refine aA rfl _ _ _ rfl gs (off+s0) _ [.int .i64 1] rfl rfl rfl _ _ hgk (by show off+s0+1≤cur.size;omega) (by kernel_rfl) (fun u hu=>by cases bq.1 hu;rfl) ?_)
     intro w4 hb4 hg4;have hga:oB (S.lst a3 c3 l3).H.asl=some gs:=by show oB S.H.asl=some gs;rw[has];rfl
     have h4:dW w4 B b { S.lst a3 c3 l3 with H:={ S.H with sl:=S.H.sl.set s0 1 } }:=h3.putS hgk hgB hga hg4 (sl:=S.H.sl.set s0 1) (by simp[MW.lst]) (by have:=hgw'.out w4 1 hb4;rw[iR] at this;simpa[MW.lst] using this);have s4:=s3.put (H':={ S.lst a3 c3 l3 with H:={ S.H with sl:=S.H.sl.set s0 1 } }) hg4 (.inr (by simp[gV,hga])) (fun x hx => .inl hx);have hswl:S.H.sw.blocks.length=S.H.sl.length:=hfew.out.2.2.2.2.2.2.2;have hK4:Hid (IK S { S.lst a3 c3 l3 with H:={ S.H with sl:=S.H.sl.set s0 1 } }):=Lib.hid ⟨rfl,rfl,rfl,rfl,rfl,bI⟩;have hTl:S.T.length=S.H.sp.length:=by have:=hd'.out.ok.len;rw[this];exact fe _
     have hpT:p<S.T.length:=by omega
     have h64:(eP S.T p).length=64:=hd'.out.ok.l64 (by rw[←hd'.out.ok.len];exact hpT);have hbdu:Hid (∀P,Bd { S.H.ma with sl:=S.H.sl.set s0 1,sw:=⟨S.H.sw.blocks.set s0 P,S.H.sw.queue⟩ } (setL S.T p n ⟨2,s0,false⟩)):=Lib.hid fun P=>
      hd'.out.slotE (P:=P) (by rw[←hd'.out.ok.len];exact hpT) hn h0'.out hs0 hz0.out hg'.out rfl
     have hent5:Hid (∀x q j,¬(q=p∧j=n)→eU (setL S.T p n x) q j=eU S.T q j):=Lib.hid fun x q j hne=>by rw[wu hd'.out.ok (by rw[←hd'.out.ok.len];exact hpT) hn,if_neg hne]
     obtain⟨gw,ow,capw,curw,hvw,hgwB,_,_,_,_⟩:=h4.ma.sw.b.put jJ (by decide) s0 (by show s0<S.H.sw.blocks.length;omega);have haw:S.H.wb=some ⟨gw,ow,none⟩:=(nQ hvw).1;generalize hS4:({ S.lst a3 c3 l3 with H:={ S.H with sl:=S.H.sl.set s0 1 } }:MW)=S4 at h4 s4 hK4;have haw:S4.H.wb=some ⟨gw,ow,none⟩:=by rw[←hS4];exact haw
     have hsw4:S4.H.sw=S.H.sw:=by rw[←hS4]
     clear h3 s3 hb4 hg4 hgk hgs c0 hc has hga hvw;go_upto_region 16 with (fail);refine gH 9 [_,_,_,_,_,.v (.slice (some ⟨gw,ow,none⟩) S4.H.sw.blocks.length S4.H.cwb),.v (.int .i64 (s0:Int)),_,.r 8 ((bX fun v => ∃P,v = .agg (iq P)))] (LF S4 B b w4 []) aF (fun _=>⟨S4.al,S4.cl,S4.l,h4,MS.refl _ _ _,fun t ht=>(by cases ht)⟩) (Qk aF rfl (Qk aF rfl (Qf aF b 1 rfl rfl (Qf aF b 4 rfl rfl (Qf aF b 4 rfl rfl (ag ?_ (Qk aF rfl (Qk aF rfl (ag ?_ (aB)))))))))) (fun _=>rfl) rfl ?_
     ·intro ρ y W L hw hn hLi hLd hb hd;refine eB aF (fun _ _ h=>h) hb ?_;have E153:=hw 153 4 rfl;have h4:y 4=_:=hd 4 rfl;obtain⟨a,c,l,m1,m2,m3⟩:=hb;refine aj (.slice (some ⟨gw,ow,none⟩) S4.H.sw.blocks.length S4.H.cwb) (ah rfl) (by simp[execOp,go_sem,E153,h4,m1.blk.cell,iQ,MW.lst,haw]) rfl
     ·intro ρ y W L hw hn hLi hLd hb hd;have E156:=hw 156 7 rfl;have h7:y 7=_:=hd 7 rfl;have EF:∀f,ρ (.func f) = .func (.func f) #[] #[]:=fun f=>hn (.func f) trivial;refine gJ _ _ (ah rfl) (aQ rfl (EF _) func33 (by kernel_rfl) (by kernel_rfl) (by simp only[bP,bM,bN,E156,h7,EF];rfl)) ?_;exact QA hb fun P _=>⟨P,rfl⟩
     intro y W6 hbW6 hRW6;have hy8:((bX fun v => ∃P,v = .agg (iq P))).r (y 8) W6:=hRW6 8 (by decide);clear hRW6;obtain⟨a6,c6,l6,h6,s6,_⟩:=hbW6;obtain⟨P,hP⟩:=hy8;rw[hP];clear hP;have s6:=s4.trans s6;obtain⟨gw',ow',capw',curw',hvw',hgwB',hgwk,hgws,_,hgww⟩:=h6.ma.sw.b.put jJ (by decide) s0 (by show s0<S4.H.sw.blocks.length;rw[hsw4];omega);have e9:(some (⟨gw',ow',none⟩:Addr))=some ⟨gw,ow,none⟩:=(nQ hvw').1.symm.trans haw;cases e9;have hsi:(s0:Int)<(S4.H.sw.blocks.length:Int):=by rw[hsw4];omega
     have hgww':=Lib.hid hgww;clear hvw' hgww h4 s4
     go_wp2_with (refine aA rfl _ _ _ rfl gw (ow+s0*8) _ (yL P) rfl rfl rfl _ _ hgwk (by rw[jJ];exact hgws) (by kernel_rfl) (bR (ja P)) ?_)
     intro w7 hb7 hg7;have hgaw:oB (S4.lst a6 c6 l6).H.wb=some gw:=by show oB S4.H.wb=some gw;rw[haw];rfl
     have h7:dW w7 B b { S4.lst a6 c6 l6 with H:={ S4.H with sw:=⟨S4.H.sw.blocks.set s0 P,S4.H.sw.queue⟩ } }:=h6.putW hgwk hgwB' hgaw hg7 (l:=S4.H.sw.blocks.set s0 P) (by simp[MW.lst]) (by simpa[MW.lst] using hgww'.out w7 P hb7);have s7:=s6.put (H':={ S4.lst a6 c6 l6 with H:={ S4.H with sw:=⟨S4.H.sw.blocks.set s0 P,S4.H.sw.queue⟩ } }) hg7 (.inr (by simp[gV,hgaw])) (fun x hx => .inl hx);clear h6 s6 hgwk hb7 hg7 hgws hsi;subst hS4;dsimp only[MW.lst] at h7 s7;obtain⟨gT,oT,curT,hab,hgTB,hgT,hgTs,_,hgTw⟩:=dW.ent h7 (p:=p) (n:=n) hpT hn h64;have hab:S.ab=some ⟨gT,oT,none⟩:=hab;have hc:=h7.blk.cell;unfold iQ at hc;dsimp only at hc;rw[hab] at hc;have hpTi:(p:Int)<(S.T.length:Int):=by omega
     have hni:(n:Int)<64:=by omega
     have hgTw':=Lib.hid hgTw;clear hgTw
     go_wp2_with (refine aA rfl _ _ _ rfl gT (oT+p*192+n*3) _ (kP ⟨2,s0,false⟩) rfl rfl rfl _ _ hgT (by rw[eY];exact hgTs) (by kernel_rfl) (bR (iL _)) ?_)
     intro w8 hb8 hg8;have h8:=hgTw'.out w8 ⟨2,s0,false⟩ hb8 hg8;have s8:=s7.put hg8 (.inr (by simp only[gV,hab];simp[oB];right;right;right;right;right;right;right;right;rfl)) (fun x hx => .inl hx) (H':=_);clear h7 s7 hc hb8 hg8 hgT;go_wp2;refine bodyPost_ret (v:=.tuple #[]) (by simp[results,go_sem,results65]) rfl ?_;exact⟨_,rfl,h8,s8.same rfl,⟨rfl,rfl,rfl,rfl,rfl,bI⟩,hbdu.out P,hent5.out _⟩
    go_wp2;refine bodyPost_ret (v:=.tuple #[]) (by simp[results,go_sem,results65]) rfl ?_;exact⟨_,rfl,h3,s3,⟨rfl,rfl,rfl,rfl,rfl,rfl⟩,hd'.out,fun _ _ _=>rfl⟩
   rw[decide_eq_false hS];clear hS hc
   go_wp2_with fail
   refine (wM _ B b _ h2).mono ?_;rintro r w3 ⟨P,a3,c3,l3,rfl,h3,s3⟩;rw[nk] at h3 s3;have bx3:=s3.blkN bx2 hn0.out;have s3:=s2.trans s3;clear h2 s2 bx2 hcx;have hcx:=bx3.cell;unfold iq
   go_wp2_with fail
   refine (fo _ 2 B b _ h3 (by omega)).mono ?_;rintro r w4 ⟨y3,a4,c4,l4,rfl,h4,s4,_,_⟩;rw[nk] at h4 s4;have bx4:=s4.blkN bx3 hn0.out;have s4:=s3.trans s4;clear h3 s3 bx3 hcx;have hcx:=bx4.cell
   go_wp2_with fail
   refine (Ei _ ⟨P,1,y3==1,false,-1,0⟩ B b _ h4 (by have:=hfew.out.1;show S.H.m.fs.length≤1000;have e:S.H.ma.m.fs.length=S.H.m.fs.length:=rfl;omega)).mono ?_;rintro r w5 ⟨xf,a5,c5,l5,fs,rfl,h5,s5,hxf⟩;rw[nk] at h5 s5;have bx5:=s5.blkN bx4 hn0.out;have hn5:=Lib.hid (s5.not bx4.lt hn0.out);have s5:=s4.trans s5;clear h4 s4 bx4 hcx;rcases hxf with ⟨rfl,rfl⟩|⟨f,rfl,hj,hjr,rfl⟩
   ·go_wp2;refine bodyPost_ret (v:=.tuple #[]) (by simp[results,go_sem,results65]) rfl ?_;exact⟨_,rfl,h5,s5,⟨rfl,rfl,rfl,rfl,rfl,rfl⟩,hd'.out,fun _ _ _=>rfl⟩
   have hjl:f<S.H.m.fs.length:=hj;have hTl:S.T.length=S.H.sp.length:=by have:=hd'.out.ok.len;rw[this];exact fe _
   have hpT:p<S.T.length:=by omega
   have hbdu:Hid (∀u:Bool,(u=true→gwr=true)→Bd ((S.lst a5 c5 l5).frs (S.H.m.fs.set f ⟨P,1,y3==1,false,-1,0⟩)).H.ma (setL ((S.lst a5 c5 l5).frs (S.H.m.fs.set f ⟨P,1,y3==1,false,-1,0⟩)).T p n ⟨1,f,u⟩)):=Lib.hid fun u hu=>
    hd'.out.anonE (X:=⟨P,1,y3==1,false,-1,0⟩) (w:=u) (by rw[←hd'.out.ok.len];exact hpT) hn h0'.out hjl hjr ⟨rfl,rfl,rfl,rfl⟩ hg'.out rfl hu
   have hK5:Hid (IK S ((S.lst a5 c5 l5).frs (S.H.m.fs.set f ⟨P,1,y3==1,false,-1,0⟩))):=Lib.hid ⟨rfl,rfl,rfl,rfl,bI,rfl⟩;have hent5:Hid (∀x q j,¬(q=p∧j=n)→eU (setL ((S.lst a5 c5 l5).frs (S.H.m.fs.set f ⟨P,1,y3==1,false,-1,0⟩)).T p n x) q j=eU S.T q j):=Lib.hid fun x q j hne=>by show eU (setL S.T p n x) q j=_;rw[wu hd'.out.ok (by rw[←hd'.out.ok.len];exact hpT) hn,if_neg hne]
   have hpT5:Hid (p<((S.lst a5 c5 l5).frs (S.H.m.fs.set f ⟨P,1,y3==1,false,-1,0⟩)).T.length):=Lib.hid hpT;have hTn5:Hid (∀S' : MW,S'.T=((S.lst a5 c5 l5).frs (S.H.m.fs.set f ⟨P,1,y3==1,false,-1,0⟩)).T→(eP S'.T p).length=64):=Lib.hid fun S' e=>by rw[e];exact hd'.out.ok.l64 (by rw[←hd'.out.ok.len];exact hpT)
   have h5:dW w5 B b ((S.lst a5 c5 l5).frs (S.H.m.fs.set f ⟨P,1,y3==1,false,-1,0⟩)):=h5;have s5:MS w b S w5 ((S.lst a5 c5 l5).frs (S.H.m.fs.set f ⟨P,1,y3==1,false,-1,0⟩)):=s5;have hn5:Hid (¬mE b ((S.lst a5 c5 l5).frs (S.H.m.fs.set f ⟨P,1,y3==1,false,-1,0⟩)) w.heap.size):=hn5;have hf0:(0:Int)≤(f:Int):=by omega
   clear hj hjr hpT hTl;generalize (S.lst a5 c5 l5).frs (S.H.m.fs.set f ⟨P,1,y3==1,false,-1,0⟩)=S5 at *
   obtain⟨gT,oT,_,hab,_⟩:=dW.ent (S:=S5) h5 (p:=p) (n:=n) hpT5.out hn (hTn5.out _ rfl);go_upto_region 4 with (fail);cases gwr with
   | true=>
    skip;refine gH 16 [_,_,_,.v (.slice (some ⟨gT,oT,none⟩) S5.T.length S5.cb),_,.v (.int .i64 (n:Int)),_,_,.v (.bool true),_,_,.r 11 ((bX fun v => ∃x:Int,v = .int .i64 x∧0≤x)),.r 12 ((bX fun v => ∃u,v = .bool u)),.r 13 ((bX fun v => ∃u,(u=true→true=true)∧v = .bool u)),.r 14 ((bX fun v => ∃u,(u=true→true=true)∧v = .agg #[.int .i64 1,.int .i64 (f:Int),.bool u])),_] (LF S5 B b w5 [(w.heap.size,#[.bool true,.bool grd,.bool true,.bool false,.int .i64 gfi,.int .i64 (I:Int)],109)]) aF (fun _=>⟨S5.al,S5.cl,S5.l,h5,MS.refl _ _ _,by simpa using ⟨bx5,hn5.out⟩⟩) (Qk aF rfl (Qk aF rfl (Qf aF b 12 rfl rfl (ag ?_ (Qk aF rfl (Qk aF rfl (Qk aF rfl (Qf aF w.heap.size 2 rfl rfl (ag ?_ (Qk aF rfl (Qk aF rfl (ag ?_ (ag ?_ (ag ?_ (ag ?_ (Qr aF (.pointer (some ⟨gT,oT+p*192,none⟩)) (fun ρ y W hKn=>(bv rfl (aD rfl hKn) (aD rfl hKn) hpT5.out underlying75 ents_size)) rfl rfl (aB))))))))))))))))) (fun _=>rfl) rfl ?_
    ·intro ρ y W L hw hn hLi hLd hb hd;refine eB aF (fun _ _ h=>h) hb ?_;have E26:=hw 26 2 rfl;have h2:y 2=_:=hd 2 rfl;obtain⟨a,c,l,m1,m2,m3⟩:=hb;refine aj (.slice (some ⟨gT,oT,none⟩) S5.T.length S5.cb) (ah rfl) (by simp[execOp,go_sem,E26,h2,m1.blk.cell,iQ,MW.lst,hab]) rfl
    ·intro ρ y W L hw hn hLi hLd hb hd;refine eB aF (fun _ _ h=>h) hb ?_;have E31:=hw 31 7 rfl;have h7:y 7=_:=hd 7 rfl;obtain⟨a,c,l,m1,m2,m3⟩:=hb;have m3:=(m3 _ (bq.2 rfl)).1;refine aj (.bool true) (ah rfl) (by simp[execOp,go_sem,E31,h7,m3.cell]) rfl
    ·intro ρ y W L hw hn hLi hLd hb hd;have E34:=hw 34 10 rfl;have h10:y 10=_:=hd 10 rfl;have EC:∀v,ρ (.const v)=v:=fun v=>hn (.const v) trivial;have EF:∀f,ρ (.func f) = .func (.func f) #[] #[]:=fun f=>hn (.func f) trivial;refine gJ _ _ (aY 9 33 true true rfl rfl ((hw 33 9 rfl).trans (hd 9 rfl))) (aQ rfl (EF _) func30 (by kernel_rfl) (by kernel_rfl) (by simp only[bP,bM,bN,E34,h10,EC,EF];rfl)) ?_;exact zK 2 (by omega) hb fun x h1 _ _ _=>⟨x,rfl,h1⟩
    ·intro ρ y W L hw hn hLi hLd hb hd;refine eB aF (fun _ _ h=>h) hb ?_;have E35:=hw 35 11 rfl;have h11:=hd 11 rfl;obtain⟨x,hx,_⟩:=h11;refine aj _ (aY 9 33 true true rfl rfl ((hw 33 9 rfl).trans (hd 9 rfl))) (oO rfl (E35.trans hx) (hn (.const _) trivial) (by simp[go_sem];rfl)) ⟨_,rfl⟩
    ·intro ρ y W L hw hn hLi hLd hb hd;refine eB aF (fun _ _ h=>h) hb ?_;have E33:=hw 33 9 rfl;have h9:y 9=_:=hd 9 rfl;have E36:=hw 36 12 rfl;have h12:=hd 12 rfl;obtain⟨u,hu⟩:=h12;refine aj (.bool u) (ah rfl) (pJ rfl (E33.trans h9) (by simpa using E36.trans hu)) ⟨_,fun _=>rfl,rfl⟩
    ·intro ρ y W L hw hn hLi hLd hb hd;refine eB aF (fun _ _ h=>h) hb ?_;have E30:=hw 30 6 rfl;have h6:y 6=_:=hd 6 rfl;have E37:=hw 37 13 rfl;have h13:=hd 13 rfl;obtain⟨u,hu1,hu⟩:=h13;have EC:∀v,ρ (.const v)=v:=fun v=>hn (.const v) trivial;refine aj (.agg #[.int .i64 1,.int .i64 (f:Int),.bool u]) (ah rfl) (by simp[execOp,go_sem,E30,h6,E37,EC,hu]) ⟨u,hu1,rfl⟩
    intro y W6 hbW6 hRW6;have hy11:((bX fun v => ∃x:Int,v = .int .i64 x∧0≤x)).r (y 11) W6:=hRW6 11 (by decide);have hy12:((bX fun v => ∃u,v = .bool u)).r (y 12) W6:=hRW6 12 (by decide);have hy13:((bX fun v => ∃u,(u=true→true=true)∧v = .bool u)).r (y 13) W6:=hRW6 13 (by decide);have hy14:((bX fun v => ∃u,(u=true→true=true)∧v = .agg #[.int .i64 1,.int .i64 (f:Int),.bool u])).r (y 14) W6:=hRW6 14 (by decide);clear hRW6;obtain⟨a6,c6,l6,h6,s6,_⟩:=hbW6;obtain⟨u,hu1,hu⟩:=hy14;rw[hu];clear hu;obtain⟨gT',oT',curT,hab',hgTB,hgT,hgTs,_,hgTw⟩:=dW.ent (S:=S5.lst a6 c6 l6) h6 (p:=p) (n:=n) hpT5.out hn (hTn5.out _ rfl);have e9:(some (⟨gT',oT',none⟩:Addr))=some ⟨gT,oT,none⟩:=hab'.symm.trans hab;cases e9;have hpTi:(p:Int)<(S5.T.length:Int):=by have:=hpT5.out;omega
    have hni:(n:Int)<64:=by omega
    have hgTw':=Lib.hid hgTw;have s6:=s5.trans s6;clear hgTw hab' h5 s5
    go_wp2_with (refine aA rfl _ _ _ rfl gT (oT+p*192+n*3) _ (kP ⟨1,f,u⟩) rfl rfl rfl _ _ hgT (by rw[eY];exact hgTs) (by kernel_rfl) (bR (iL _)) ?_)
    intro w7 hb7 hg7;have h7:=hgTw'.out w7 ⟨1,f,u⟩ hb7 hg7;have s7:=s6.put (H':={ S5.lst a6 c6 l6 with T:=setL (S5.lst a6 c6 l6).T p n ⟨1,f,u⟩ }) hg7 (.inr (by simp only[gV,MW.lst,hab];simp[oB];right;right;right;right;right;right;right;right;rfl)) (fun x hx => .inl hx);clear hgT hb7 hg7 h6 s6;go_wp2;refine bodyPost_ret (v:=.tuple #[]) (by simp[results,go_sem,results65]) rfl ?_;exact⟨_,rfl,h7,s7,⟨hK5.out.sp,hK5.out.fi,hK5.out.ct,hK5.out.dk,hK5.out.fl,hK5.out.sl⟩,hbdu.out u (fun h=>by first | exact trivial | exact⟨rfl,rfl⟩ | exact absurd (hu1 h) (by decide) | simp),hent5.out _⟩
   | false=>
    skip;refine gH 16 [_,_,_,.v (.slice (some ⟨gT,oT,none⟩) S5.T.length S5.cb),_,.v (.int .i64 (n:Int)),_,_,.v (.bool false),_,_,_,_,.r 13 ((bX fun v => ∃u,(u=true→false=true)∧v = .bool u)),.r 14 ((bX fun v => ∃u,(u=true→false=true)∧v = .agg #[.int .i64 1,.int .i64 (f:Int),.bool u])),_] (LF S5 B b w5 [(w.heap.size,#[.bool true,.bool grd,.bool false,.bool false,.int .i64 gfi,.int .i64 (I:Int)],109)]) aF (fun _=>⟨S5.al,S5.cl,S5.l,h5,MS.refl _ _ _,by simpa using ⟨bx5,hn5.out⟩⟩) (Qk aF rfl (Qk aF rfl (Qf aF b 12 rfl rfl (ag ?_ (Qk aF rfl (Qk aF rfl (Qk aF rfl (Qf aF w.heap.size 2 rfl rfl (ag ?_ (Qk aF rfl (Qk aF rfl (Qk aF rfl (Qk aF rfl (ag ?_ (ag ?_ (Qr aF (.pointer (some ⟨gT,oT+p*192,none⟩)) (fun ρ y W hKn=>(bv rfl (aD rfl hKn) (aD rfl hKn) hpT5.out underlying75 ents_size)) rfl rfl (aB))))))))))))))))) (fun _=>rfl) rfl ?_
    ·intro ρ y W L hw hn hLi hLd hb hd;refine eB aF (fun _ _ h=>h) hb ?_;have E26:=hw 26 2 rfl;have h2:y 2=_:=hd 2 rfl;obtain⟨a,c,l,m1,m2,m3⟩:=hb;refine aj (.slice (some ⟨gT,oT,none⟩) S5.T.length S5.cb) (ah rfl) (by simp[execOp,go_sem,E26,h2,m1.blk.cell,iQ,MW.lst,hab]) rfl
    ·intro ρ y W L hw hn hLi hLd hb hd;refine eB aF (fun _ _ h=>h) hb ?_;have E31:=hw 31 7 rfl;have h7:y 7=_:=hd 7 rfl;obtain⟨a,c,l,m1,m2,m3⟩:=hb;have m3:=(m3 _ (bq.2 rfl)).1;refine aj (.bool false) (ah rfl) (by simp[execOp,go_sem,E31,h7,m3.cell]) rfl
    ·intro ρ y W L hw hn hLi hLd hb hd;refine eB aF (fun _ _ h=>h) hb ?_;have E33:=hw 33 9 rfl;have h9:y 9=_:=hd 9 rfl;have E36:=hw 36 12 rfl;have h12:y 12=_:=hd 12 rfl;refine aj (.bool false) (ah rfl) (pJ rfl (E33.trans h9) (by exact (hn (.const _) trivial).trans rfl)) ⟨false,fun h=>(by cases h),rfl⟩
    ·intro ρ y W L hw hn hLi hLd hb hd;refine eB aF (fun _ _ h=>h) hb ?_;have E30:=hw 30 6 rfl;have h6:y 6=_:=hd 6 rfl;have E37:=hw 37 13 rfl;have h13:=hd 13 rfl;obtain⟨u,hu1,hu⟩:=h13;have EC:∀v,ρ (.const v)=v:=fun v=>hn (.const v) trivial;refine aj (.agg #[.int .i64 1,.int .i64 (f:Int),.bool u]) (ah rfl) (by simp[execOp,go_sem,E30,h6,E37,EC,hu]) ⟨u,hu1,rfl⟩
    intro y W6 hbW6 hRW6;have hy13:((bX fun v => ∃u,(u=true→false=true)∧v = .bool u)).r (y 13) W6:=hRW6 13 (by decide);have hy14:((bX fun v => ∃u,(u=true→false=true)∧v = .agg #[.int .i64 1,.int .i64 (f:Int),.bool u])).r (y 14) W6:=hRW6 14 (by decide);clear hRW6;obtain⟨a6,c6,l6,h6,s6,_⟩:=hbW6;obtain⟨u,hu1,hu⟩:=hy14;rw[hu];clear hu;obtain⟨gT',oT',curT,hab',hgTB,hgT,hgTs,_,hgTw⟩:=dW.ent (S:=S5.lst a6 c6 l6) h6 (p:=p) (n:=n) hpT5.out hn (hTn5.out _ rfl);have e9:(some (⟨gT',oT',none⟩:Addr))=some ⟨gT,oT,none⟩:=hab'.symm.trans hab;cases e9;have hpTi:(p:Int)<(S5.T.length:Int):=by have:=hpT5.out;omega
    have hni:(n:Int)<64:=by omega
    have hgTw':=Lib.hid hgTw;have s6:=s5.trans s6;clear hgTw hab' h5 s5
    go_wp2_with (refine aA rfl _ _ _ rfl gT (oT+p*192+n*3) _ (kP ⟨1,f,u⟩) rfl rfl rfl _ _ hgT (by rw[eY];exact hgTs) (by kernel_rfl) (bR (iL _)) ?_)
    intro w7 hb7 hg7;have h7:=hgTw'.out w7 ⟨1,f,u⟩ hb7 hg7;have s7:=s6.put (H':={ S5.lst a6 c6 l6 with T:=setL (S5.lst a6 c6 l6).T p n ⟨1,f,u⟩ }) hg7 (.inr (by simp only[gV,MW.lst,hab];simp[oB];right;right;right;right;right;right;right;right;rfl)) (fun x hx => .inl hx);clear hgT hb7 hg7 h6 s6;go_wp2;refine bodyPost_ret (v:=.tuple #[]) (by simp[results,go_sem,results65]) rfl ?_;exact⟨_,rfl,h7,s7,⟨hK5.out.sp,hK5.out.fi,hK5.out.ct,hK5.out.dk,hK5.out.fl,hK5.out.sl⟩,hbdu.out u (fun h=>by first | exact trivial | exact⟨rfl,rfl⟩ | exact absurd (hu1 h) (by decide) | simp),hent5.out _⟩
def Ol (B:Nat):lX:=⟨fun v w => ∃g,v = .pointer (some ⟨g,0,none⟩)∧aC w g (fC f0) 110∧B≤g,fun _ _ _ hb ⟨g,h1,h2,h3⟩=>⟨g,h1,h2.ext hb,h3⟩⟩
theorem Nr {l:List lX} (hp:l.getD q anyR=Ol B) (hq:l.getD p anyR=Ol B):FE (rl l) p q i (.pointer (some ⟨w.heap.size,0,none⟩)) w:=by
 refine IM (fun u hu => ?_) (fun u hu => ?_)
 ·unfold rl at hu;rw[hp] at hu;obtain⟨g,h1,h2,_⟩:=hu;exact⟨g,_,_,h1,h2⟩
 unfold rl at hu;rw[hq] at hu;obtain⟨g,h1,h2,_⟩:=hu;exact⟨g,_,_,h1,h2⟩
theorem Dy {l:List lX} (v:Value) (hw:Region.wanted o (gz ρ ops)=true) (hrun:(execOp ρ o).run P w = .ok (.value v) w') (hb:Below w.heap.size w w') (hR:rl l i v w') (hN:FE (rl l) p q i v w) :
  if Region.wanted o (gz ρ ops)=true then dM P o ρ w (fun v w'=>(Below w.heap.size w w'∧rl l i v w')∧FE (rl l) p q i v w) else rl l i undef w∧i≠p∧i≠q:=by
 rw[if_pos hw];unfold dM;rw[hrun];exact⟨⟨hb,hR⟩,hN⟩
theorem QE (l:List Ar) (x:Ar) (a:Option Addr) (c:Nat) (w:World) (h:Vu w a c l) :
  Calls Tryz.prog 64 #[.slice a l.length c,.agg (nR x)] w fun r w' => ∃v,r = .returned (.tuple #[v,.int .i64 (AA l x)])∧Own w' w.heap.size 99 7 v (xY l x).length ((xY l x).flatMap mF)∧Below w.heap.size w w':=by
 go_enter func64,ntmps64;go_upto_region 1 with (fail);refine gI (fun W=>Code.wp _ _ _ _ W) fun W0 hb0 hx0 hs0 => ?_;clear hs0
 go_wp2_with fail
 refine (CY l a c _ (h.below hb0)).mono ?_;rintro r w1 ⟨rfl,hb1⟩;have hbel1:=ae hb0 hb1;have hx1:=hx0.ext hb1;clear hb0 hx0 hb1;unfold JZ
 go_wp2_with (refine aI rfl _ _ _ rfl #[.int .i64 (bG l).1,.int .i64 (bG l).2] rfl rfl rfl fau_size (mG _ _) ?_)
 intro w2 hb2 hf2;have hbel:=ae hbel1 hb2;have hx2:=hx1.ext hb2;clear hbel1 hx1 hb2
 by_cases hw:(bG l).1=0
 ·have hall:=jD.1 hw;have hw0:=Lib.hid hw;have hsr:=nI hall.2;rw[hw] at hf2;have hcf:=hf2.cell;clear hw
  go_wp2_with (refine ax _ _ rfl _ 0 rfl rfl _ hx2.rd _ underlying99 rfl area_size ?_)
  refine (EM x _).mono ?_;rintro r w3 ⟨rfl,hb3⟩;have hbel:=ae hbel hb3;have hx3:=hx2.ext hb3;clear hcf hf2 hx2 hb3
  by_cases he:aP x=0
  ·have he0:=Lib.hid he;rw[he];clear he;go_upto_region 7 with (fail);refine Rx 7 5 6 [uy (.slice a l.length c),uy (.agg (fC (cz l))),uy (.agg (nR x)),(VY x),uy (.agg (fC (cz [x]))),(Ol w.heap.size),(Ol w.heap.size)] (by kernel_rfl) (by decide) (by decide) (by decide) _ rfl (by kernel_rfl) (by kernel_rfl) (by decide) _ rfl (by kernel_rfl) (ag (uf (by decide) (by decide) (Ww (Wt rfl) (Wz rfl (WB rfl rfl) rfl))) (ag ?_ (ag ?_ (ag ?_ (ag ?_ (ag ?_ (ag ?_ (aB)))))))) ?_
   ·refine uf (by decide) (by decide) ?_;intro ρ y W hw hn hb hd;have E23:=hw 23 0 rfl;have h0:y 0=_:=hd 0 rfl;have EF:∀f,ρ (.func f) = .func (.func f) #[] #[]:=fun f=>hn (.func f) trivial;refine aO _ _ (ah rfl) (aQ rfl (EF _) func49 (by kernel_rfl) (by kernel_rfl) (by simp only[bP,bM,bN,E23,h0,EF];rfl)) ?_;refine (qG l a c W (h.below (ae hbel hb)).rd (by omega) (fun x hx=>(srtF_ok hsr x hx).1)).mono ?_;rintro r w1 ⟨rfl,hb1⟩;exact⟨_,rfl,hb1,rfl⟩
   ·refine uf (by decide) (by decide) ?_;intro ρ y W hw hn hb hd;have E3:ρ (.tmp 3) = .pointer (some ⟨w.heap.size,0,none⟩):=(hn (.tmp 3) rfl).trans rfl;refine aj (.agg (nR x)) (ah rfl) (dx rfl E3 (hx3.ext hb) underlying99 rfl area_size) rfl
   ·refine uf (by decide) (by decide) ?_;intro ρ y W hw hn hb hd;have E25:=hw 25 2 rfl;have h2:y 2=_:=hd 2 rfl;refine jL (.slice (some ⟨W.heap.size,0,none⟩) 1 1) (ah rfl) (by simp[execOp,go_sem,cZ,E25,h2,nR]) ((Below.refl _ _).alloc (ay _) (.cells (nR x) 99)) ?_;exact⟨_,rfl,aC.new _ _ _⟩
   ·refine uf (by decide) (by decide) ?_;intro ρ y W hw hn hb hd;have E26:=hw 26 3 rfl;have h3:=hd 3 rfl;have EF:∀f,ρ (.func f) = .func (.func f) #[] #[]:=fun f=>hn (.func f) trivial;obtain⟨gq,hq3,hqb⟩:=h3;refine aO _ _ (ah rfl) (aQ rfl (EF _) func49 (by kernel_rfl) (by kernel_rfl) (by simp only[bP,bM,bN,E26,EF,hq3];rfl)) ?_;refine (qG [x] _ 1 W (fun j u hj=>hqb.rd j u (by simpa[mF] using hj)) (by simp) (fun z hz=>by rw[bq.1 hz];exact he0.out)).mono ?_;rintro r w1 ⟨rfl,hb1⟩;exact⟨_,rfl,hb1,rfl⟩
   ·intro ρ y W hw hn hb hd;refine Dy (.pointer (some ⟨W.heap.size,0,none⟩)) (ah rfl) (w':=W.alloc (.cells (fC f0) 110)) ?_ ((Below.refl _ _).alloc (ay _) _) ⟨_,rfl,aC.new _ _ _,(ae hbel hb).size⟩ (Nr rfl rfl);simp[execOp,go_sem,cZ,cZ];rfl
   ·intro ρ y W hw hn hb hd;refine Dy (.pointer (some ⟨W.heap.size,0,none⟩)) (ah rfl) (w':=W.alloc (.cells (fC f0) 110)) ?_ ((Below.refl _ _).alloc (ay _) _) ⟨_,rfl,aC.new _ _ _,(ae hbel hb).size⟩ (Nr rfl rfl);simp[execOp,go_sem,cZ,cZ];rfl
   intro y WA hbWA hRWA hyne;have hy1:y 1=_:=hRWA 1 (by decide);have hy4:y 4=_:=hRWA 4 (by decide);have hy3:=hRWA 3 (by decide);have hy5:((Ol w.heap.size)).r (y 5) WA:=hRWA 5 (by decide);have hy6:((Ol w.heap.size)).r (y 6) WA:=hRWA 6 (by decide);clear hRWA;simp only[lay,bT,cZ,bM,bN,Nat.reduceAdd,Nat.reduceLT,decide_true,decide_false,if_true,uR,if_false,Cj,qw,ve,zC,BS,zZ,hy1,hy4];clear hy1 hy4;obtain⟨gX,hyX,hbX,hgX⟩:∃g,y 5 = .pointer (some ⟨g,0,none⟩)∧aC WA g (fC f0) 110∧w.heap.size≤g:=hy5;obtain⟨gY,hyY,hbY,hgY⟩:∃g,y 6 = .pointer (some ⟨g,0,none⟩)∧aC WA g (fC f0) 110∧w.heap.size≤g:=hy6;have hXY:gX≠gY:=fun e=>hyne (by rw[hyX,hyY,e]);simp only[hyX,hyY];have hbelA:=ae hbel hbWA;clear hy3 hyX hyY hyne hbel hx3 hbWA;go_upto_region 8 with (refine az rfl _ _ _ rfl gX (fC (cz l)) rfl rfl _ _ hbX (by rw[jr,jr]) (by rw[jr];exact ones_size) (zJ _) ?_);intro W5 hX5 hgr5;have hbel5:=hbelA.grown hgr5 hbelA.size (fun k hk=>by cases hk;exact hgX);have hY5:aC W5 gY (fC f0) 110:=hbY.grown hgr5 (fun e=>hXY (aJ e));clear hbelA hbX hbY hgr5;go_upto_region 8 with (refine az rfl _ _ _ rfl gY (fC (cz [x])) rfl rfl _ _ hY5 (by rw[jr,jr]) (by rw[jr];exact ones_size) (zJ _) ?_);intro W6 hY6 hgr6;have hbel6:=hbel5.grown hgr6 hbel5.size (fun k hk=>by cases hk;exact hgY);have hX6:aC W6 gX (fC (cz l)) 110:=hX5.grown hgr6 (fun e=>hXY (aJ e).symm);clear hbel5 hX5 hY5 hgr6;go_upto_region 9 with (fail)
   go_loopw [28] (fun i wr => ∃n:Nat,n≤64∧i = .int .i64 n∧Below w.heap.size w wr∧aC wr gX (fC (sW x n (cz l))) 110∧aC wr gY (fC (cz [x])) 110∧∀i:Nat,i<n→¬(nS (i:Int) x=true∧onA l i≠none)) (fun i _=>64-(intOf i).toNat)
   case atStart=>exact⟨0,by omega,rfl,hbel6,by rw[Mh];exact hX6,hY6,fun i hi=>absurd hi (dO _)⟩
   case round=>
    clear hbel6 hX6 hY6;obtain⟨n,hn,rfl,hbr,hX,hY,hno0⟩:=hrel;have hno:=Lib.hid hno0;clear hno0
    by_cases hlt:n<64
    ·have hlti:(n:Int)<64:=by omega
     have dX:wr.cell? ⟨gX,n*6,none⟩=some (.bool (onA l n).isSome):=by rw[hX.cell];exact zU (sW x n (cz l)) n 0 hlt _ (by rw[Uk,qX hsr];rfl) (by decide)
     have dY:wr.cell? ⟨gY,n*6,none⟩=some (.bool (cz [x] n).isSome):=by rw[hY.cell];exact zU (cz [x]) n 0 hlt _ rfl (by decide)
     rw[Sd] at dY
     by_cases hin:nS (n:Int) x=true
     ·rw[if_pos hin] at dY;cases hon:onA l (n:Int) with
      | some p=>
       rw[hon] at dX;simp only[Option.isSome] at dX dY;have q0:Hid _:=Lib.hid (GQ (l:=l) (x:=x) (e:=6) (by unfold AA;rw[if_neg (by rw[hw0.out];simp),if_neg (by rw[he0.out];simp),if_pos (Sm hin (by rw[hon];simp))]) (by decide));have hbel:=hbr;clear hin hon;go_wp2;go_ret2;have q:=q0.out;exact⟨.slice none 0 0,by first | (rw[q.1];done) | (rw[q.1];rfl),by rw[q.2];exact Own.nil _ _ _ _,hbel⟩
      | none=>
       rw[hon] at dX;simp only[Option.isSome] at dX dY;have hset:Hid (bA (fC (sW x n (cz l))) (n*6) (pQ (some (jV x n)))=fC (sW x (n+1) (cz l))):=Lib.hid (by rw[Rl _ n hlt,RA hin]);have hrdY:dN wr (some ⟨gY,n*6,none⟩) (pQ (some (jV x n))):=fun j u hj=>⟨gY,n*6,rfl,by
        rw[hY.cell];exact zU (cz [x]) n j hlt u (by rw[Sd,if_pos hin];exact hj) (by have:=(bW.1 hj).1;rwa [nu] at this)⟩
       have hup:Hid (∀i:Nat,i<n+1→¬(nS (i:Int) x=true∧onA l i≠none)):=Lib.hid (fun i hi hq=>by
        by_cases c:i=n
        ·subst c;exact hq.2 hon
        ·exact hno.out i (by omega) hq)
       have hfit:Hid (n*6+6≤(fC (sW x n (cz l))).size):=Lib.hid (by rw[jr];omega);clear hin hon;go_upto_region 15 with (first | (refine ax _ _ rfl _ (n*6) rfl rfl _ hrdY _ underlying109 rfl one_size ?_) | (refine fP rfl _ _ _ rfl gX (n*6) (xD (some (jV x n))) rfl rfl _ _ hX hfit.out one_size (QN _) ?_));intro W7 hX7 hgr7;have hX8:aC W7 gX (fC (sW x (n+1) (cz l))) 110:=by rw[←hset.out];exact hX7
       have hbel7:=hbr.grown hgr7 hbr.size (fun k hk=>by cases hk;exact hgX);have hY7:aC W7 gY (fC (cz [x])) 110:=hY.grown hgr7 (fun e=>hXY (aJ e));clear hX hY hbr hX7 hgr7 dX dY hrdY hset hfit;go_wp2;go_roundw
       case rel=>exact⟨n+1,by omega,by go_num,hbel7,hX8,hY7,hup.out⟩
       case measure=>simp[intOf];omega
     rw[if_neg hin] at dY;simp only[Option.isSome] at dY;have hup:Hid (∀i:Nat,i<n+1→¬(nS (i:Int) x=true∧onA l i≠none)):=Lib.hid (fun i hi hq=>by
      by_cases c:i=n
      ·subst c;exact hin hq.1
      ·exact hno.out i (by omega) hq)
     have hX8:aC wr gX (fC (sW x (n+1) (cz l))) 110:=by rw[OC hin];exact hX
     clear hin hX;cases hsX:(onA l (n:Int)).isSome
     ·rw[hsX] at dX;clear hsX;go_wp2;go_roundw
      case rel=>exact⟨n+1,by omega,by go_num,hbr,hX8,hY,hup.out⟩
      case measure=>simp[intOf];omega
     rw[hsX] at dX;clear hsX;go_wp2;go_roundw
     case rel=>exact⟨n+1,by omega,by go_num,hbr,hX8,hY,hup.out⟩
     case measure=>simp[intOf];omega
    have hn64:n=64:=by omega
    subst hn64;have hany:=Tv hall.2 he0.out hno.out;have hmt:∀z∈l,pR x z=false:=fun z hz=>by have:=tQ.1 hany z hz;simpa using this
    have hins:=Dv he0.out hsr (bC he0.out).1.2.1.1 hmt;rw[←Ci] at hins;have hfin:Hid (AA l x=DL (sj (Du l x)).length):=Lib.hid (by unfold AA;rw[if_neg (by rw[hw0.out];simp),if_neg (by rw[he0.out];simp),if_neg (by rw[hany];simp)];rfl);have hml:Hid (xY l x=if 16<(sj (Du l x)).length then [] else sj (Du l x)):=Lib.hid (by
     unfold xY;rw[hfin.out];unfold DL
     by_cases h16:16<(sj (Du l x)).length
     ·rw[if_pos h16,if_pos h16];rfl
     ·rw[if_neg h16,if_neg h16];rfl)
    have hs384:Hid ((fC (sW x 64 (cz l))).size=384):=Lib.hid (jr _);clear hlt
    go_wp2_with (refine ax _ _ rfl _ 0 rfl rfl _ hX.rd _ underlying110 rfl (by rw[iC,hs384.out];exact ones_size) ?_)
    refine (TD (sW x 64 (cz l)) (sj (Du l x)) (Gm hins) (fun i hi => ?_) (fun i p hp => ?_) _).mono ?_
    ·rw[Iw hins,Ci,Hl he0.out _ hsr hmt];unfold sW;rw[qX hsr]
     by_cases c:nS (i:Int) x=true
     ·rw[if_pos ⟨c,hi⟩,if_pos c]
     ·rw[if_neg (fun q=>c q.1),if_neg c]
    ·unfold sW at hp;split at hp
     ·rename_i hq;cases hp;have h1:=MM he0.out hq.1;refine⟨h1.2.2.1,?_⟩
      by_cases hf:(jV x i).fi<0
      ·rw[(h1.2.2.2.1 hf).1];decide
      ·have:=h1.2.2.2.2 (by omega);omega
     ·exact JE hsr i p hp
    rintro r w9 ⟨v9,rfl,hO9,hb9⟩;have hbel9:=ae hbr hb9;replace hO9:=hO9.mono hbr.size;rw[←hml.out] at hO9;rw[←hfin.out];clear hbr hX hY hb9 hml;go_wp2;go_ret2;exact⟨v9,rfl,hO9,hbel9⟩
  have q0:Hid _:=Lib.hid (GQ (l:=l) (x:=x) (e:=aP x) (by unfold AA;rw[if_neg (by rw[hw0.out];simp),if_pos he]) he);have he' : (aP x != 0)=true:=by simpa using he
  clear he hall;go_wp2;go_ret2;have q:=q0.out;exact⟨.slice none 0 0,by first | (rw[q.1];done) | (rw[q.1];rfl),by rw[q.2];exact Own.nil _ _ _ _,hbel⟩
 have q0:Hid _:=Lib.hid (GQ (l:=l) (x:=x) (e:=(bG l).1) (by unfold AA;rw[if_pos hw]) hw);have hw' : ((bG l).1 != 0)=true:=by simpa using hw
 have hcf:=hf2.cell;clear hw;go_upto_region 3 with (fail);go_quiet (fail);rename_i nq;have hbel:=below_drewN hbel nq;go_wp2;go_ret2;have q:=q0.out;exact⟨.slice none 0 0,by first | (rw[q.1];done) | (rw[q.1];rfl),by rw[q.2];exact Own.nil _ _ _ _,hbel⟩
theorem NV {l:List Ar} {x:Ar} (h:AA l x=0):(l.length≤16∧okF none l)∧aP x=0∧(∀a∈l,pR x a=false)∧(sj (Du l x)).length≤16∧xY l x=sj (Du l x):=by
 have h0:=h;unfold AA at h
 by_cases hw:(bG l).1=0
 ·rw[if_neg (by omega)] at h
  by_cases he:aP x=0
  ·rw[if_neg (by omega)] at h;cases hm:l.any (pR x)
   ·rw[hm,if_neg (by simp)] at h;refine⟨jD.1 hw,he,fun a ha => ?_,?_,?_⟩
    ·have:=tQ.1 hm a ha;simpa using this
    ·split at h
     ·omega
     ·omega
    ·unfold xY;rw[if_neg (by omega)]
   ·rw[hm,if_pos rfl] at h;omega
  ·rw[if_pos he] at h;exact absurd h he
 ·rw[if_pos hw] at h;exact absurd h hw
theorem Ml {l:List Ar} {x:Ar} (h:AA l x=0):(xY l x).length≤16∧okF none (xY l x)∧∀n,onA (xY l x) n=if nS n x then some (jV x n) else onA l n:=by
 obtain⟨⟨h1,h2⟩,h3,h4,h5,h6⟩:=NV h;have hs:=nI h2;have hx:=(bC h3).1.2.1.1;have hi:=Dv h3 hs hx h4;rw[h6];rw[Ci] at h5 ⊢;exact⟨h5,Gm hi,fun n=>by rw[Iw hi,Hl h3 n hs h4]⟩
def Nv (S:MW):Prop:=∀p∈S.H.sp,∀n g,onA p.ar n=some g→g.fi<S.H.fi.length
structure More (S S' : MW):Prop where
 bd:Bd S'.H.ma S'.T
 fm:Nv S'
 fi:S'.H.fi=S.H.fi
 ct:S'.H.ct=S.H.ct
 dk:S'.H.dk=S.H.dk
 sp:S'.H.sp.length=S.H.sp.length+1
 fs:S'.H.m.fs.length=S.H.m.fs.length
def SpaceR (S:MW) (B b:Nat) (w:World) (r:Ending) (w' : World):Prop:=∃S',r = .returned (.tuple #[])∧dW w' B b S'∧MS w b S w' S'∧More S S' ∧
 (S.l=[]→S'.l=[]∧S'.H.ma = { S.H.ma with sp:=S.H.ma.sp++[⟨true,[],zTb⟩] }∧S'.T=S.T++[List.replicate 64 zEn])
theorem dW.kb_ne (h:dW w B b S) {x:Nat} (hk:aC w x cs T)
 (hT:T≠77∧T≠81∧T≠3∧T≠79∧T≠86∧T≠67∧T≠106∧T≠55∧T≠90):¬mE b S x:=by
 obtain⟨t1,t2,t3,t4,t5,t6,t7,t8,t9⟩:=hT;have own:∀ {e:TypeId} {sz n c:Nat} {a:Option Addr} {xs:List Value},T≠e→Own w B e sz (.slice a n c) n xs→oB a=some x→False:=fun ht ho hx=>by obtain⟨_,cs',h2⟩:=iK ho hx;exact lJ hk h2 ht rfl
 intro hx;rcases hx with hx|hx
 ·subst hx;exact lJ hk h.blk t1 rfl
 simp only[gV,bY,fI,or_false] at hx;rcases hx with hx|hx|hx|hx|hx|hx|hx|hx|hx
 ·exact own t2 h.ma.fr hx.symm
 ·exact own t3 h.ma.sl hx.symm
 ·exact own t4 h.ma.sw.b hx.symm
 ·exact own t4 h.ma.dk.b hx.symm
 ·exact own t5 h.ma.dk.q hx.symm
 ·exact own t6 h.ma.st.own hx.symm
 ·exact own t7 h.ma.ca hx.symm
 ·exact own t8 h.ma.sp hx.symm
 ·exact own t9 h.tt hx.symm
theorem dW.own_not (h:dW w B b S) (ho:Own w B' e sz (.slice a n c) n xs)
 (hT:e≠77∧e≠81∧e≠3∧e≠79∧e≠86∧e≠67∧e≠106∧e≠55∧e≠90):∀x,(Value.slice a n c).ownBlock=some x→¬mE b S x:=fun x hx=>by
 obtain⟨cs,hk⟩:=kM ho x hx;exact h.kb_ne hk hT
theorem dW.locA (h:dW w B b S) (hk:aC w g cs 99) (hn:¬mE b S g) (hsp:∀p∈S.H.sp,oB p.aa≠some g) (hgB:B≤g) (hg:w.grownBy w' (some g)):dW w' B b S:=by
 have hne:∀ {a:Option Addr},oB a∈gV S→∀n c g',(Value.slice a n c).ownBlock=some g'→some g≠some g':=fun hm n c g' he e=>by cases e;rw[lI] at he;exact hn (.inr (by rw[←he];exact hm))
 exact⟨h.blk.grown hg (fun e=>hn (.inl (aJ e))),h.ge,⟨h.ma.fr.grown hg (hne (by simp[gV]) _ _),h.ma.sl.grown hg (hne (by simp[gV]) _ _),⟨h.ma.sw.b.grown hg (hne (by simp[gV]) _ _),h.ma.sw.q.grown hg (fun g' he=>by rw[h.n3] at he;cases he)⟩,⟨h.ma.dk.b.grown hg (hne (by simp[gV]) _ _),h.ma.dk.q.grown hg (hne (by simp[gV]) _ _)⟩,
  ⟨h.ma.st.own.grown hg (hne (by simp[gV]) _ _),fun i p hp=>ak (h.ma.st.each i p hp) hk (by decide) hg,h.ma.st.apart⟩,h.ma.ca.grown hg (hne (by simp[gV]) _ _),h.ma.sp.grown hg (hne (by simp[gV]) _ _),fun p hp=>⟨(h.ma.ps p hp).1.grown hg (fun g' he e=>by cases e;rw[lI] at he;exact hsp p hp he),(h.ma.ps p hp).2.keep hk (by decide) hg⟩,h.ma.c64⟩,
  h.tt.grown hg (hne (by simp[gV]) _ _),h.rd.keep h.ra h.bs hg hgB,h.ra,h.n1,h.n2,h.n3⟩
theorem dW.newA (h:dW w B b S) {x:Nat} (hx:w.heap.size≤x):∀p∈S.H.sp,oB p.aa≠some x:=fun p hp he=>by
 have:=(iK (h.ma.ps p hp).1 he).2.choose_spec.lt;omega
def Li (S:MW) (B b:Nat) (w:World) (i:Nat) (cs:Array Value) (T:TypeId):(Nat→Bool)→(Nat→Value)→World→Prop:=fun L y W=>
 LF S B b w [] L y W∧(L i=true→∃g,y i = .pointer (some ⟨g,0,none⟩)∧aC W g cs T∧¬mE b S g∧w.heap.size≤g)
theorem jm :∀L y W W',Below W.heap.size W W'→Li S B b w i cs T L y W→Li S B b w i cs T L y W':=
 fun _ _ _ _ hb ⟨h1,h2⟩=>⟨aF _ _ _ _ hb h1,fun hL=>by obtain⟨g,e1,e2,e3⟩:=h2 hL;exact⟨g,e1,e2.ext hb,e3⟩⟩
theorem Qc (h0:dW w B b S) (h:Li S B b w i cs T L y W):Li S B b w i cs T (cO L i) (dH y i (.pointer (some ⟨W.heap.size,0,none⟩))) (W.alloc (.cells cs T)):=by
 have hs:w.heap.size≤W.heap.size:=by obtain⟨⟨a,c,l,h1,h2,h3⟩,_⟩:=h;exact h2.size
 exact⟨aF _ _ _ _ ((Below.refl _ _).alloc (ay _) _) h.1,fun _=>⟨W.heap.size,by unfold dH;rw[if_pos rfl],aC.new _ _ _,h0.new hs,hs⟩⟩
theorem xy {y' : Value→Nat→Value} (hL:L' i=L i) (hy:∀v,y' v i=y i) (n:Int) (hn : -9223372036854775808≤n∧n≤9223372036854775807) (h:Li S B b w i cs T L y W) {R:Value→World→Prop} (hR:∀x:Int,0≤x→x<256→(x<n∨x=0)→∀W',R (.int .i64 x) W') :
  Calls Tryz.prog 30 #[.pointer (some ⟨b,0,none⟩),.int .i64 n] W fun e W' => ∃v,e = .returned v∧Li S B b w i cs T L' (y' v) W'∧R v W':=by
 obtain⟨⟨a,c,l,h1,h2,h3⟩,h4⟩:=h;refine (fo _ n B b W h1 hn).mono ?_;rintro r W' ⟨x,a',c',l',rfl,k1,k2,k3,_⟩;exact⟨_,rfl,⟨⟨a',c',l',k1,h2.trans k2,fun t ht=>(by cases ht)⟩,fun hl=>by obtain⟨g,e1,e2,e3,e4⟩:=h4 (by rw[←hL];exact hl);exact⟨g,by rw[hy];exact e1,k2.blkN e2 e3,e3,e4⟩⟩,hR x k3.1 k3.2.1 k3.2.2 W'⟩
theorem qI (ho:Own w B e sz (.slice a n c) n xs) (hg:w.grownBy w' (Value.slice a n c).ownBlock):Below w.heap.size w w'∨∃g cs,aC w g cs e∧oB a=some g∧w.grownBy w' (some g):=by
 cases h:(Value.slice a n c).ownBlock with
 | none=>rw[h] at hg;exact .inl (jW hg)
 | some g=>
  rw[h] at hg;obtain⟨cs,hk⟩:=kM ho g h;exact .inr ⟨g,cs,hk,by rw[←lI a n c];exact h,hg⟩
theorem dW.appP (h:dW w B b S) (hg:w.grownBy w1 (Value.slice S.H.ap S.H.sp.length S.H.cp).ownBlock) {l:List PS} (ho:Own w1 B 55 10 (.slice a l.length c) l.length (l.flatMap tF))
 (hp:∀p∈l,Own w1 B 99 7 (.slice p.aa p.ar.length p.ac) p.ar.length (p.ar.flatMap mF)∧qD w1 B (ng p.ts) p.tb) (hb:aC w2 b (bA (iQ S) 11 [.slice a l.length c]) 77) (hg2:w1.grownBy w2 (some b)) :
  dW w2 B b { S with H:={ S.H with ap:=a,cp:=c,sp:=l } }:=by
 have key:aC w1 b (iQ S) 77∧Own w1 B 81 13 (.slice S.H.af S.H.m.fs.length S.H.cf) S.H.m.fs.length (S.H.m.fs.flatMap pO)∧Own w1 B 3 1 (.slice S.H.asl S.H.sl.length S.H.csl) S.H.sl.length (S.H.sl.map fM) ∧
   ic w1 B (.slice S.H.wb S.H.sw.blocks.length S.H.cwb) (.slice S.H.wq S.H.sw.queue.length S.H.cwq) S.H.sw∧ic w1 B (.slice S.H.db S.H.dk.blocks.length S.H.cdb) (.slice S.H.dq S.H.dk.queue.length S.H.cdq) S.H.dk∧nM w1 B (.slice S.H.ai S.H.fi.length S.H.ci) S.H.fi ∧
   Own w1 B 106 3 (.slice S.H.ac S.H.ca.length S.H.cc) S.H.ca.length (S.H.ca.flatMap mh)∧Own w1 B 90 192 (.slice S.ab S.T.length S.cb) S.T.length (S.T.flatMap tL)∧ui w1 S.al S.cl S.l.length (S.l.map BP):=by
  rcases qI h.ma.sp hg with hb0|⟨g,cs,hk,hga,hg'⟩
  ·have h1:=h.below hb0;exact⟨h1.blk,h1.ma.fr,h1.ma.sl,h1.ma.sw,h1.ma.dk,h1.ma.st,h1.ma.ca,h1.tt,h1.rd⟩
  ·exact⟨bu h.blk hk (by decide) hg',ak h.ma.fr hk (by decide) hg',ak h.ma.sl hk (by decide) hg',h.ma.sw.keep hk (by decide) (by decide) hg',h.ma.dk.keep hk (by decide) (by decide) hg',h.ma.st.keep hk (by decide) (by decide) hg',ak h.ma.ca hk (by decide) hg',ak h.tt hk (by decide) hg',h.rd.keep h.ra h.bs hg' (iK h.ma.sp hga).1⟩
 obtain⟨k0,k1,k2,k3,k4,k5,k6,k7,k8⟩:=key;exact⟨hb,h.ge,⟨ak k1 k0 (by decide) hg2,ak k2 k0 (by decide) hg2,k3.keep k0 (by decide) (by decide) hg2,k4.keep k0 (by decide) (by decide) hg2,k5.keep k0 (by decide) (by decide) hg2,ak k6 k0 (by decide) hg2,ak ho k0 (by decide) hg2,fun p hpm=>⟨ak (hp p hpm).1 k0 (by decide) hg2,(hp p hpm).2.keep k0 (by decide) hg2⟩,h.ma.c64⟩,
  ak k7 k0 (by decide) hg2,k8.keep h.ra (aX h.ge (qi k0.lt)) hg2 h.ge,h.ra,h.n1,h.n2,h.n3⟩
theorem dW.appT (h:dW w B b S) (hg:w.grownBy w1 (Value.slice S.ab S.T.length S.cb).ownBlock) {T:List (List En)} (ho:Own w1 B 90 192 (.slice a T.length c) T.length (T.flatMap tL))
 (hb:aC w2 b (bA (iQ S) 12 [.slice a T.length c]) 77) (hg2:w1.grownBy w2 (some b)):dW w2 B b { S with ab:=a,cb:=c,T:=T }:=by
 have key:aC w1 b (iQ S) 77∧uj w1 B S.H∧ui w1 S.al S.cl S.l.length (S.l.map BP):=by
  rcases qI h.tt hg with hb0|⟨g,cs,hk,hga,hg'⟩
  ·have h1:=h.below hb0;exact⟨h1.blk,h1.ma,h1.rd⟩
  ·exact⟨bu h.blk hk (by decide) hg',h.ma.keep hk (by decide) hg',h.rd.keep h.ra h.bs hg' (iK h.tt hga).1⟩
 obtain⟨k0,k1,k2⟩:=key;exact⟨hb,h.ge,k1.keep k0 (by decide) hg2,ak ho k0 (by decide) hg2,k2.keep h.ra (aX h.ge (qi k0.lt)) hg2 h.ge,h.ra,h.n1,h.n2,h.n3⟩
theorem MS.app (h:MS w0 b S0 w S) (hm:dW w B b S) (ho:Own w B' e sz (.slice a n c) n xs) (hk:oB a∈gV S) (hg:w.grownBy w1 (Value.slice a n c).ownBlock) (hg2:w1.grownBy w2 (some b)) (hbn:oN w (.slice a n c) (.slice a' n' c'))
 (hn:∀x,mE b S' x→mE b S x∨oB a' = some x):MS w0 b S0 w2 S':=by
 have h1:MS w0 b S0 w1 S:=by
  rcases qI ho hg with hb0|⟨g,cs,_,hga,hg'⟩
  ·exact h.below hb0
  ·exact h.put hg' (.inr (by rw[←hga];exact hk)) (fun x hx => .inl hx)
 refine h1.put hg2 (.inl rfl) fun x hx => ?_;rcases hn x hx with hx|hx
 ·exact .inl hx
 rcases hbn with e1|e1
 ·rw[lI,lI] at e1;exact .inl (.inr (by rw[←hx,e1];exact hk))
 ·exact .inr (aX h.size (e1 x (by rw[lI];exact hx)))
theorem ents_info:(Tryz.prog.info? 90).map (fun i=>(i.zero,i.size,i.bytes))=some (some (.agg (tL (List.replicate 64 zEn)).toArray),192,1536):=by kernel_rfl
theorem Bp {a:Act} (hg:o.guard=none) (s x:Operand)
 (hop:o.op=Op.call { callee:=Callee.builtin Builtin.append,args:=#[s,x],argTypes:=#[75,75] }) (hcs:cs=(tL (List.replicate 64 zEn)).toArray)
 (B:Nat) (v:Value) (n:Nat) (xs:List Value) (hs:a.eval s=v) (hown:Own w B 90 192 v n xs) (hx:a.eval x = .slice (some ⟨w.heap.size,0,none⟩) 1 1) (hn:n≤100) (hB:B≤w.heap.size)
 (hK:∀v' w',Own w' B 90 192 v' (n+1) (xs++tL (List.replicate 64 zEn))→(w.alloc (.cells (tL (List.replicate 64 zEn)).toArray 90)).grownBy w' v.ownBlock→oN (w.alloc (.cells (tL (List.replicate 64 zEn)).toArray 90)) v v'→wpList Tryz.prog ops Q rest (a.put o.dst v') w') :
  wpList Tryz.prog ops Q (o::rest) a (w.alloc (.cells cs 90)):=by
 subst hcs;exact vW hg s x 75 hop B 90 _ 192 1536 underlying75 ents_info rfl (by decide) v n xs hs (hown.alloc _) (some ⟨w.heap.size,0,none⟩) 1 1 (tL (List.replicate 64 zEn)) hx (fun h=>(by cases h)) (ay _) (xS _) (by simpa using dN.new w (tL (List.replicate 64 zEn)).toArray 90) (by decide +kernel) (by unfold maxLen;omega) (by omega) (bV hB _) hK
theorem Eo (S:MW) (B b:Nat) (w:World) (h:dW w B b S) (hd:Bd S.H.ma S.T) (hf:Nv S) (hl4:S.H.sp.length<4) :
  Calls Tryz.prog 35 #[.pointer (some ⟨b,0,none⟩)] w (SpaceR S B b w):=by
 have hd':=Lib.hid hd;have hf':=Lib.hid hf;have hBs:=Lib.hid h.bs;have hfl5:S.H.fi.length≤5:=by have:=(lh.1 hd.few.2.2.2.2.1).1.1;simpa[MH.ma,bZ] using this
 clear hd hf;go_enter func35,ntmps35
 go_wp2_with fail
 refine (fo _ 4 B b _ h (by omega)).mono ?_;rintro r w1 ⟨n1,a1,c1,l1,rfl,h1,s1,hn1,hq1⟩;obtain⟨N,rfl⟩:=fE hn1.1;have hN4:N<4:=by omega
 have hq1':=Lib.hid hq1;clear h hn1 hq1;have hwl:IntKind.i64.wrap ((S.H.fi.length:Int)+1)=(S.H.fi.length:Int)+1:=bJ _ (by omega);go_upto_region 2 with (fail)
 go_loopw [11,2] (fun i u wr => ∃(k:Nat) (A:List Ar) (a:Option Addr) (c:Nat) (al:Option Addr) (cl:Nat) (ll:List UInt8),k≤N∧i = .int .i64 k∧u = .slice a A.length c∧Own wr B 99 7 (.slice a A.length c) A.length (A.flatMap mF)∧dW wr B b (S.lst al cl ll)∧MS w b S wr (S.lst al cl ll) ∧
  Hid ((bG A).1=0∧(∀n g,onA A n=some g→g.fi<S.H.fi.length)∧(k=0→A=[]∧ll=l1))) (fun i _ _=>N-(intOf i).toNat)
 case atStart=>exact⟨0,[],none,0,a1,c1,l1,aS _,rfl,rfl,by simpa using Own.nil _ _ _ _,h1,s1,Lib.hid ⟨by decide,fun n g h=>(by cases h),fun _=>⟨rfl,rfl⟩⟩⟩
 case round=>
  clear h1 s1;obtain⟨k,A,a,c,al,cl,ll,hk,rfl,rfl,hown,hm,hs,hA⟩:=hrel;have hnu:=Lib.hid (hm.own_not hown (by decide))
  by_cases hkN:k<N
  ·have hki:(k:Int)<(N:Int):=by omega
   go_upto_region 3 with (fail);refine gH 21 [_,.r 1 ((bX fun v => ∃x:Int,v = .int .i64 x∧0≤x∧x<12)),_,.r 3 ((bX fun v => ∃x:Int,v = .int .i64 x)),.r 4 ((bX fun v => ∃u,v = .bool u)),_,.r 6 ((bX fun v => ∃x:Int,v = .int .i64 x)),.r 7 ((bX fun v => ∃u,v = .bool u)),_,_,_,_,_,_,.v (.slice S.H.ai S.H.fi.length S.H.ci),_,_,.r 17 ((bX fun v => ∃x:Int,v = .int .i64 x∧0≤x∧x<(S.H.fi.length:Int)+1)),.r 18 ((bX fun v => ∃x:Int,v = .int .i64 x∧-1≤x∧x<S.H.fi.length)),.r 19 ((bX fun v => ∃fr rd wr fi,v = .agg (nR ⟨fr,0,rd,wr,false,fi,0⟩)∧0≤fr∧fr<12∧-1≤fi∧fi<S.H.fi.length)),.r 20 ((bX fun _=>True))] (Li (S.lst al cl ll) B b wr 20 (nR ⟨0,0,false,false,false,0,0⟩) 99) jm (fun _=>⟨⟨al,cl,ll,hm,MS.refl _ _ _,fun t ht=>(by cases ht)⟩,fun e=>(by cases e)⟩) (Qk jm rfl (ag ?_ (Qk jm rfl (ag ?_ (ag ?_ (Qk jm rfl (ag ?_ (ag ?_ (Qk jm rfl (Qk jm rfl (Qk jm rfl (Qf jm b 1 rfl rfl (Qf jm b 8 rfl rfl (Qf jm b 8 rfl rfl (ag ?_ (Qn jm rfl rfl rfl rfl (Qb jm (.int .i64 ((S.H.fi.length:Int)+1)) (by simp[go_sem,hwl]) rfl rfl rfl rfl rfl (ag ?_ (ag ?_ (ag ?_ (ag ?_ (aB)))))))))))))))))))))) (fun _=>rfl) rfl ?_
   ·intro ρ y W L hw hn hLi hLd hb hd;have E13:=hw 13 0 rfl;have h0:y 0=_:=hd 0 rfl;have EC:∀v,ρ (.const v)=v:=fun v=>hn (.const v) trivial;have EF:∀f,ρ (.func f) = .func (.func f) #[] #[]:=fun f=>hn (.func f) trivial;refine gJ _ _ (ah rfl) (aQ rfl (EF _) func30 (by kernel_rfl) (by kernel_rfl) (by simp only[bP,bM,bN,E13,h0,EC,EF];rfl)) ?_;exact xy rfl (fun _=>rfl) 12 (by omega) hb fun x h1 h2 h3 _=>⟨x,rfl,h1,by omega⟩
   ·intro ρ y W L hw hn hLi hLd hb hd;have E15:=hw 15 2 rfl;have h2:y 2=_:=hd 2 rfl;have EC:∀v,ρ (.const v)=v:=fun v=>hn (.const v) trivial;have EF:∀f,ρ (.func f) = .func (.func f) #[] #[]:=fun f=>hn (.func f) trivial;refine gJ _ _ (ah rfl) (aQ rfl (EF _) func30 (by kernel_rfl) (by kernel_rfl) (by simp only[bP,bM,bN,E15,h2,EC,EF];rfl)) ?_;exact xy rfl (fun _=>rfl) 4 (by omega) hb fun x h1 h2 h3 _=>⟨x,rfl⟩
   ·intro ρ y W L hw hn hLi hLd hb hd;refine eB jm (fun _ _ h=>h) hb ?_;have E16:=hw 16 3 rfl;have h3:=hd 3 rfl;obtain⟨x,hx⟩:=h3;refine aj _ (ah rfl) (oO rfl (E16.trans hx) (hn (.const _) trivial) (by simp[go_sem];rfl)) ⟨_,rfl⟩
   ·intro ρ y W L hw hn hLi hLd hb hd;have E18:=hw 18 5 rfl;have h5:y 5=_:=hd 5 rfl;have EC:∀v,ρ (.const v)=v:=fun v=>hn (.const v) trivial;have EF:∀f,ρ (.func f) = .func (.func f) #[] #[]:=fun f=>hn (.func f) trivial;refine gJ _ _ (ah rfl) (aQ rfl (EF _) func30 (by kernel_rfl) (by kernel_rfl) (by simp only[bP,bM,bN,E18,h5,EC,EF];rfl)) ?_;exact xy rfl (fun _=>rfl) 3 (by omega) hb fun x h1 h2 h3 _=>⟨x,rfl⟩
   ·intro ρ y W L hw hn hLi hLd hb hd;refine eB jm (fun _ _ h=>h) hb ?_;have E19:=hw 19 6 rfl;have h6:=hd 6 rfl;obtain⟨x,hx⟩:=h6;refine aj _ (ah rfl) (oO rfl (E19.trans hx) (hn (.const _) trivial) (by simp[go_sem];rfl)) ⟨_,rfl⟩
   ·intro ρ y W L hw hn hLi hLd hb hd;refine eB jm (fun _ _ h=>h) hb ?_;have E26:=hw 26 13 rfl;have h13:y 13=_:=hd 13 rfl;obtain⟨⟨a0,c0,l0,m1,m2,m3⟩,_⟩:=hb;refine aj (.slice S.H.ai S.H.fi.length S.H.ci) (ah rfl) (by simp[execOp,go_sem,E26,h13,m1.blk.cell,iQ,MW.lst]) rfl
   ·intro ρ y W L hw hn hLi hLd hb hd;have E21:=hw 21 8 rfl;have h8:y 8=_:=hd 8 rfl;have E29:=hw 29 16 rfl;have h16:y 16=_:=hd 16 rfl;have EF:∀f,ρ (.func f) = .func (.func f) #[] #[]:=fun f=>hn (.func f) trivial;refine gJ _ _ (ah rfl) (aQ rfl (EF _) func30 (by kernel_rfl) (by kernel_rfl) (by simp only[bP,bM,bN,E21,h8,E29,h16,EF];rfl)) ?_;exact xy rfl (fun _=>rfl) _ (by omega) hb fun x h1 h2 h3 _=>⟨x,rfl,h1,by omega⟩
   ·intro ρ y W L hw hn hLi hLd hb hd;refine eB jm (fun _ _ h=>h) hb ?_;have E30:=hw 30 17 rfl;have h17:=hd 17 rfl;obtain⟨x,hx,k1,k2⟩:=h17;have hw9:IntKind.i64.wrap (x-1)=x-1:=bJ _ (by omega);refine aj (.int .i64 (x-1)) (ah rfl) (oO rfl (E30.trans hx) (hn (.const _) trivial) (by simp[go_sem,hw9])) ⟨_,rfl,by omega,by omega⟩
   ·intro ρ y W L hw hn hLi hLd hb hd;refine eB jm (fun _ _ h=>h) hb ?_;have E14:=hw 14 1 rfl;have h1:=hd 1 rfl;have E17:=hw 17 4 rfl;have h4:=hd 4 rfl;have E20:=hw 20 7 rfl;have h7:=hd 7 rfl;have E31:=hw 31 18 rfl;have h18:=hd 18 rfl;obtain⟨x1,hx1,k1,k2⟩:=h1;obtain⟨x2,hx2⟩:=h4;obtain⟨x3,hx3⟩:=h7;obtain⟨x4,hx4,k3,k4⟩:=h18;refine aj (.agg (nR ⟨x1,0,x2,x3,false,x4,0⟩)) (ah rfl) (by simp[execOp,go_sem,E14,E17,E20,E31,hx1,hx2,hx3,hx4,nR]) ⟨x1,x2,x3,x4,rfl,k1,k2,k3,k4⟩
   ·intro ρ y W L hw hn hLi hLd hb hd;refine eF (.pointer (some ⟨W.heap.size,0,none⟩)) (ah rfl) ?_ (Qc hm hb) trivial;simp[execOp,go_sem,nR]
   intro y W2 hbW2 hRW2;have hy1:((bX fun v => ∃x:Int,v = .int .i64 x∧0≤x∧x<12)).r (y 1) W2:=hRW2 1 (by decide);have hy3:((bX fun v => ∃x:Int,v = .int .i64 x)).r (y 3) W2:=hRW2 3 (by decide);have hy4:((bX fun v => ∃u,v = .bool u)).r (y 4) W2:=hRW2 4 (by decide);have hy6:((bX fun v => ∃x:Int,v = .int .i64 x)).r (y 6) W2:=hRW2 6 (by decide);have hy7:((bX fun v => ∃u,v = .bool u)).r (y 7) W2:=hRW2 7 (by decide);have hy17:((bX fun v => ∃x:Int,v = .int .i64 x∧0≤x∧x<(S.H.fi.length:Int)+1)).r (y 17) W2:=hRW2 17 (by decide);have hy18:((bX fun v => ∃x:Int,v = .int .i64 x∧-1≤x∧x<S.H.fi.length)).r (y 18) W2:=hRW2 18 (by decide);have hy19:((bX fun v => ∃fr rd wr fi,v = .agg (nR ⟨fr,0,rd,wr,false,fi,0⟩)∧0≤fr∧fr<12∧-1≤fi∧fi<S.H.fi.length)).r (y 19) W2:=hRW2 19 (by decide);clear hRW2;obtain⟨⟨a2,c2,l2,h2,s2,_⟩,hbox⟩:=hbW2;obtain⟨gx,hgx,axz,hnx,hxw2⟩:=hbox rfl;obtain⟨fr,rd,wr2,fi,hv,hb1,hb2,hb3,hb4⟩:=hy19;rw[hv,hgx];clear hv hgx hbox;rw[nk] at h2 s2;have hown2:=s2.ownN hown hnu.out;have hnu2:Hid (∀x,(Value.slice a A.length c).ownBlock=some x→¬mE b S x):=hnu;have hna:=Lib.hid (hm.newA hxw2);have hux:Hid (∀x,(Value.slice a A.length c).ownBlock=some x→some gx≠some x):=Lib.hid fun x hx e=>by have:=IA hown x hx;cases e;omega
   have hxw:=Lib.hid (aX hs.size hxw2);have hxB:B≤gx:=aX hm.bs hxw2;have hnx:=Lib.hid hnx;have s2:=hs.trans s2;clear hm hs hown hxw2
   go_wp2_with (refine az rfl _ _ _ rfl gx (nR ⟨fr,0,rd,wr2,false,fi,0⟩) rfl rfl _ _ axz rfl area_size (Ti _) ?_)
   intro w3 ax3 hg3;have h3:=h2.locA axz hnx.out hna.out hxB hg3;have s3:=s2.loc hg3 hxw.out;have hown3:=hown2.grown hg3 hux.out;clear h2 s2 hown2 hg3 axz;have hwf:IntKind.i64.wrap (fr+1)=fr+1:=bJ _ (by omega);go_upto_region 4 with (fail);refine gH 7 [_,.v (.int .i64 fr),_,_,.r 4 ((bX fun v => ∃x:Int,v = .int .i64 x∧0≤x∧x<4)),.r 5 ((bX fun v => ∃x:Int,v = .int .i64 x∧fr<x∧x≤fr+4)),_] (LF (S.lst a2 c2 l2) B b w3 [(gx,nR ⟨fr,0,rd,wr2,false,fi,0⟩,99)]) aF (fun _=>⟨a2,c2,l2,h3,MS.refl _ _ _,by simpa using ⟨ax3,hnx.out⟩⟩) (Qf aF gx 0 rfl rfl (ag ?_ (Qb aF (.int .i64 (fr+1)) (by simp[go_sem,hwf]) rfl rfl rfl rfl rfl (Qk aF rfl (ag ?_ (ag ?_ (Qf aF gx 1 rfl rfl (aB)))))))) (fun _=>rfl) rfl ?_
   ·intro ρ y W L hw hn hLi hLd hb hd;refine eB aF (fun _ _ h=>h) hb ?_;have E33:=hw 33 0 rfl;have h0:y 0=_:=hd 0 rfl;obtain⟨a0,c0,l0,m1,m2,m3⟩:=hb;have m3:=(m3 _ (bq.2 rfl)).1;refine aj (.int .i64 fr) (ah rfl) (by simp[execOp,go_sem,E33,h0,m3.cell,nR]) rfl
   ·intro ρ y W L hw hn hLi hLd hb hd;have E36:=hw 36 3 rfl;have h3:y 3=_:=hd 3 rfl;have EC:∀v,ρ (.const v)=v:=fun v=>hn (.const v) trivial;have EF:∀f,ρ (.func f) = .func (.func f) #[] #[]:=fun f=>hn (.func f) trivial;refine gJ _ _ (ah rfl) (aQ rfl (EF _) func30 (by kernel_rfl) (by kernel_rfl) (by simp only[bP,bM,bN,E36,h3,EC,EF];rfl)) ?_;exact zK 4 (by omega) hb fun x h1 h2 h3 _=>⟨x,rfl,h1,by omega⟩
   ·intro ρ y W L hw hn hLi hLd hb hd;refine eB aF (fun _ _ h=>h) hb ?_;have E35:=hw 35 2 rfl;have h2:y 2=_:=hd 2 rfl;have E37:=hw 37 4 rfl;have h4:=hd 4 rfl;obtain⟨x,hx,k1,k2⟩:=h4;have hw9:IntKind.i64.wrap (fr+1+x)=fr+1+x:=bJ _ (by omega);refine aj (.int .i64 (fr+1+x)) (ah rfl) (oO rfl (E35.trans h2) (E37.trans hx) (by simp[go_sem,hw9])) ⟨_,rfl,by omega,by omega⟩
   intro y W4 hbW4 hRW4;have hy4:((bX fun v => ∃x:Int,v = .int .i64 x∧0≤x∧x<4)).r (y 4) W4:=hRW4 4 (by decide);have hy5:((bX fun v => ∃x:Int,v = .int .i64 x∧fr<x∧x≤fr+4)).r (y 5) W4:=hRW4 5 (by decide);clear hRW4;obtain⟨a4,c4,l4,h4,s4,hks⟩:=hbW4;have ax4:=(hks _ (bq.2 rfl)).1;rw[nk] at h4 s4;have hown4:=s4.ownN hown3 hnu2.out;have s4:=s3.trans s4;obtain⟨en,hv,he1,he2⟩:=hy5;rw[hv];clear hv hks h3 s3 hown3 ax3 hwf
   go_wp2_with (refine aA rfl _ _ _ rfl gx 1 _ [.int .i64 en] rfl rfl rfl _ _ ax4 (by show 1+1≤7;omega) (by kernel_rfl) (fun u hu=>by cases bq.1 hu;rfl) ?_)
   intro w5 ax5 hg5;rw[show bA (nR ⟨fr,0,rd,wr2,false,fi,0⟩) 1 [.int .i64 en]=nR ⟨fr,en,rd,wr2,false,fi,0⟩ from rfl] at ax5;have h5:=h4.locA ax4 hnx.out hna.out hxB hg5;have s5:=s4.loc hg5 hxw.out;have hown5:=hown4.grown hg5 hux.out;clear h4 s4 hown4 ax4 hg5;have hcx:=ax5.cell;unfold nR at hcx;go_upto_if 42 with (fail)
   go_cut [2] (fun s2 wx=>s2 = .slice a A.length c∧∃(X:Ar) (a:Option Addr) (cl:Nat) (l:List UInt8),aC wx gx (nR X) 99∧dW wx B b (S.lst a cl l)∧MS w b S wx (S.lst a cl l)∧Own wx B 99 7 s2 A.length (A.flatMap mF)∧Hid (X.fi<S.H.fi.length))
   case first=>
    by_cases hfi0:0≤fi
    ·go_wp2_with fail
     refine (fo _ 2 B b _ h5 (by omega)).mono ?_;rintro r w6 ⟨x6,a6,c6,l6,rfl,h6,s6,_,_⟩;rw[nk] at h6 s6;have ax6:=s6.blkN ax5 hnx.out;have own6:=s6.ownN hown5 hnu2.out;have s6:=s5.trans s6;clear h5 s5 hown5 hcx ax5
     go_wp2_with fail
     refine (fo _ 4 B b _ h6 (by omega)).mono ?_;rintro r w7 ⟨x7,a7,c7,l7,rfl,h7,s7,_,_⟩;rw[nk] at h7 s7;have ax7:=s7.blkN ax6 hnx.out;have own7:=s7.ownN own6 hnu2.out;have s7:=s6.trans s7;clear h6 s6 own6 ax6
     go_wp2_with (refine aA rfl _ _ _ rfl gx 4 _ [.bool (x6==1)] rfl rfl rfl _ _ ax7 (by show 4+1≤7;omega) (by kernel_rfl) (fun u hu=>by cases bq.1 hu;rfl) ?_)
     intro w8 ax8 hg8;rw[show bA (nR ⟨fr,en,rd,wr2,false,fi,0⟩) 4 [.bool (x6==1)]=nR ⟨fr,en,rd,wr2,x6==1,fi,0⟩ from rfl] at ax8;have h8:=h7.locA ax7 hnx.out hna.out hxB hg8;have s8:=s7.loc hg8 hxw.out;have own8:=own7.grown hg8 hux.out;clear h7 s7 own7 ax7 hg8
     go_wp2_with (refine aA rfl _ _ _ rfl gx 6 _ [.int .i64 x7] rfl rfl rfl _ _ ax8 (by show 6+1≤7;omega) (by kernel_rfl) (fun u hu=>by cases bq.1 hu;rfl) ?_)
     intro w9 ax9 hg9;rw[show bA (nR ⟨fr,en,rd,wr2,x6==1,fi,0⟩) 6 [.int .i64 x7]=nR ⟨fr,en,rd,wr2,x6==1,fi,x7⟩ from rfl] at ax9;have h9:=h8.locA ax8 hnx.out hna.out hxB hg9;have s9:=s8.loc hg9 hxw.out;have own9:=own8.grown hg9 hux.out;clear h8 s8 own8 ax8 hg9;go_wp2;go_meet
     case rel=>exact⟨rfl,_,a7,c7,l7,ax9,h9,s9,own9,Lib.hid hb4⟩
    go_wp2;go_meet
    case rel=>exact⟨rfl,_,a4,c4,l4,ax5,h5,s5,hown5,Lib.hid hb4⟩
   case rest=>
    obtain⟨rfl,X,a6,c6,l6,ax6,h6,s6,own6,hXf⟩:=hcut;clear h5 s5 hown5 ax5 hcx
    go_wp2_with (refine ax _ _ rfl gx 0 rfl rfl _ ax6.rd _ underlying99 rfl area_size ?_)
    refine (QE A X a c _ (have h9:=sO own6;⟨h9.le,h9.mx,h9.nl,h9.rd⟩)).mono ?_;rintro r w7 ⟨v7,rfl,own7,hb7⟩;obtain⟨a7,c7,rfl,_⟩:=own7.rd;have own7:=own7.mono h6.bs;have h7:=h6.below hb7;have s7:=s6.below hb7;have own6:=own6.below hb7;clear h6 s6 ax6 hb7 hnu hnu2 hux hnx hna hxw hxB
    by_cases hme:AA A X=0
    ·have hmr:=Ml hme;have hnew:Hid ((bG (xY A X)).1=0∧(∀n g,onA (xY A X) n=some g→g.fi<S.H.fi.length)∧(k+1=0→xY A X=[]∧l6=l1)):=Lib.hid ⟨jD.2 ⟨hmr.1,hmr.2.1⟩,fun n g hg=>by
      rw[hmr.2.2] at hg;split at hg
      ·cases hg;exact hXf.out
      ·exact hA.out.2.1 n g hg,fun e=>by omega⟩
     clear hmr;rw[hme];go_wp2;go_roundw
     case rel=>exact⟨k+1,xY A X,a7,c7,a6,c6,l6,by omega,by go_num,rfl,own7,h7,s7,hnew⟩
     case measure=>simp[intOf];omega
    have hnew:Hid ((bG A).1=0∧(∀n g,onA A n=some g→g.fi<S.H.fi.length)∧(k+1=0→A=[]∧l6=l1)):=Lib.hid ⟨hA.out.1,hA.out.2.1,fun e=>by omega⟩;go_wp2;go_roundw
    case rel=>exact⟨k+1,A,a,c,a6,c6,l6,by omega,by go_num,rfl,own6,h7,s7,hnew⟩
    case measure=>simp[intOf];omega
  have hki:¬(k:Int)<(N:Int):=by omega
  obtain rfl:k=N:=by omega
  have hAl:A.length≤16:=(jD.1 hA.out.1).1;have hc:=hm.blk.cell;unfold iQ at hc;dsimp only[MW.lst] at hc;have hownP:=hm.ma.sp;dsimp only[MW.lst] at hownP
  go_wp2_with (at_builtin;go_must (refine vW rfl _ _ 39 rfl B 55 _ 10 224 underlying39 space_info rfl (by decide) _ S.H.sp.length (S.H.sp.flatMap tF) rfl (hownP.alloc _) (some ⟨wr.heap.size,0,none⟩) 1 1 (tF ⟨true,a,c,A,nTs,zTb⟩) rfl (fun h=>(by cases h)) (ay _) rfl (dN.new _ (vM ⟨true,a,c,A,nTs,zTb⟩) _) (bR (by simp[vM,nTs,Value.oneCell'])) (by unfold maxLen;omega) (by omega) (bV hm.bs _) ?_))
  intro v2 w2 own2 hg2 hsn2;have hal:=(Below.refl wr.heap.size wr).alloc (ay _) (.cells (vM (⟨true,a,c,A,nTs,zTb⟩:PS)) 55);have hm1:=hm.below hal;have hs1:=hs.below hal;have hown1:=hown.below hal;have hownP1:Own (wr.alloc (.cells (vM (⟨true,a,c,A,nTs,zTb⟩:PS)) 55)) B 55 10 (.slice S.H.ap S.H.sp.length S.H.cp) S.H.sp.length (S.H.sp.flatMap tF):=hm1.ma.sp;have hown2:=iG hownP1 hg2 hown1 (by decide);have hbk2:=zi hownP1 hg2 hm1.blk (by decide);have hps2:∀p∈S.H.sp++[(⟨true,a,c,A,nTs,zTb⟩:PS)],Own w2 B 99 7 (.slice p.aa p.ar.length p.ac) p.ar.length (p.ar.flatMap mF)∧qD w2 B (ng p.ts) p.tb:=fun p hp=>by
   rcases fJ.1 hp with hp|hp
   ·exact⟨iG hownP1 hg2 (hm1.ma.ps p hp).1 (by decide),BX hownP1 hg2 (hm1.ma.ps p hp).2⟩
   rw[bq.1 hp];exact⟨hown2,zQ _ _⟩
  obtain⟨a2,c2,rfl,_⟩:=own2.rd;have hlen2:(S.H.sp++[(⟨true,a,c,A,nTs,zTb⟩:PS)]).length=S.H.sp.length+1:=by simp
  have own2' : Own w2 B 55 10 (.slice a2 (S.H.sp++[(⟨true,a,c,A,nTs,zTb⟩:PS)]).length c2) (S.H.sp++[(⟨true,a,c,A,nTs,zTb⟩:PS)]).length ((S.H.sp++[(⟨true,a,c,A,nTs,zTb⟩:PS)]).flatMap tF):=by rw[hlen2,eT];simpa using own2
  clear hc hm hs hown hown1 hownP own2 hnu
  go_wp2_with (refine aA rfl _ _ _ rfl b 11 _ [.slice a2 (S.H.sp.length+1) c2] rfl rfl rfl _ _ hbk2 (by show 11+1≤13;omega) (by kernel_rfl) (fun u hu=>by cases bq.1 hu;rfl) ?_)
  intro w3 hb3 hg3;have h3:dW w3 B b { S.lst al cl ll with H:={ S.H with ap:=a2,cp:=c2,sp:=S.H.sp++[(⟨true,a,c,A,nTs,zTb⟩:PS)] } }:=hm1.appP hg2 own2' hps2 (by rw[hlen2];exact hb3) hg3;have s3:MS w b S w3 { S.lst al cl ll with H:={ S.H with ap:=a2,cp:=c2,sp:=S.H.sp++[(⟨true,a,c,A,nTs,zTb⟩:PS)] } }:=hs1.app hm1 hownP1 (by simp[gV,MW.lst]) hg2 hg3 hsn2 (fun x hx=>by
   rcases hx with hx|hx
   ·exact .inl (.inl hx)
   simp only[gV,MW.lst,bY,fI,or_false] at hx;rcases hx with hx|hx|hx|hx|hx|hx|hx|hx|hx<;>first|exact .inr hx.symm|exact .inl (.inr (by simp[gV,MW.lst,hx])))
  have hT100:S.T.length≤100:=by have h9:=hd'.out.ok.len;have h8:S.H.ma.sp.length=S.H.sp.length:=fe _;omega
  clear hm1 hs1 hownP1 hbk2 hps2 own2' hb3 hg3 hsn2 hg2 hal hown2;have hc:=h3.blk.cell;unfold iQ at hc;dsimp only[MW.lst] at hc;have hownT:Own w3 B 90 192 (.slice S.ab S.T.length S.cb) S.T.length (S.T.flatMap tL):=h3.tt
  go_wp2_with (at_builtin;go_must (refine Bp rfl _ _ rfl (by kernel_rfl) B (.slice S.ab S.T.length S.cb) S.T.length (S.T.flatMap tL) rfl hownT rfl hT100 h3.bs ?_))
  intro v4 w4 own4 hg4 hsn4;have hal3:=(Below.refl w3.heap.size w3).alloc (ay _) (.cells (tL (List.replicate 64 zEn)).toArray 90);have h3a:=h3.below hal3;have s3a:=s3.below hal3;have hownTa:=hownT.below hal3;have hbk4:aC w4 b (iQ { S.lst al cl ll with H:={ S.H with ap:=a2,cp:=c2,sp:=S.H.sp++[(⟨true,a,c,A,nTs,zTb⟩:PS)] } }) 77:=by
   rcases qI hownTa hg4 with hb0|⟨g,cs,hk,_,hg'⟩
   ·exact h3a.blk.ext hb0
   ·exact bu h3a.blk hk (by decide) hg'
  obtain⟨a4,c4,rfl,_⟩:=own4.rd;have hlen4:(S.T++[List.replicate 64 zEn]).length=S.T.length+1:=by simp
  have own4' : Own w4 B 90 192 (.slice a4 (S.T++[List.replicate 64 zEn]).length c4) (S.T++[List.replicate 64 zEn]).length ((S.T++[List.replicate 64 zEn]).flatMap tL):=by rw[hlen4,eT];simpa using own4
  clear hc h3 s3 hownT own4 hal3
  go_wp2_with (refine aA rfl _ _ _ rfl b 12 _ [.slice a4 (S.T.length+1) c4] rfl rfl rfl _ _ hbk4 (by show 12+1≤13;omega) (by kernel_rfl) (fun u hu=>by cases bq.1 hu;rfl) ?_)
  intro w5 hb5 hg5;have h5:dW w5 B b { S.lst al cl ll with H:={ S.H with ap:=a2,cp:=c2,sp:=S.H.sp++[(⟨true,a,c,A,nTs,zTb⟩:PS)] },ab:=a4,cb:=c4,T:=S.T++[List.replicate 64 zEn] }:=h3a.appT hg4 own4' (by rw[hlen4];exact hb5) hg5;have s5:MS w b S w5 { S.lst al cl ll with H:={ S.H with ap:=a2,cp:=c2,sp:=S.H.sp++[(⟨true,a,c,A,nTs,zTb⟩:PS)] },ab:=a4,cb:=c4,T:=S.T++[List.replicate 64 zEn] }:=s3a.app h3a hownTa (by simp[gV,MW.lst]) hg4 hg5 hsn4 (fun x hx=>by
   rcases hx with hx|hx
   ·exact .inl (.inl hx)
   simp only[gV,MW.lst,bY,fI,or_false] at hx;rcases hx with hx|hx|hx|hx|hx|hx|hx|hx|hx<;>first|exact .inr hx.symm|exact .inl (.inr (by simp[gV,MW.lst,hx])))
  clear h3a s3a hownTa hbk4 own4' hb5 hg5 hsn4 hg4;have hma5:({ S.lst al cl ll with H:={ S.H with ap:=a2,cp:=c2,sp:=S.H.sp++[(⟨true,a,c,A,nTs,zTb⟩:PS)] },ab:=a4,cb:=c4,T:=S.T++[List.replicate 64 zEn] }:MW).H.ma = { S.H.ma with sp:=S.H.ma.sp++[⟨true,A,zTb⟩] }:=by simp[MH.ma,PS.sp]
  have hbd5:Bd ({ S.lst al cl ll with H:={ S.H with ap:=a2,cp:=c2,sp:=S.H.sp++[(⟨true,a,c,A,nTs,zTb⟩:PS)] },ab:=a4,cb:=c4,T:=S.T++[List.replicate 64 zEn] }:MW).H.ma ({ S.lst al cl ll with H:={ S.H with ap:=a2,cp:=c2,sp:=S.H.sp++[(⟨true,a,c,A,nTs,zTb⟩:PS)] },ab:=a4,cb:=c4,T:=S.T++[List.replicate 64 zEn] }:MW).T:=by rw[hma5];exact hd'.out.more (s:=⟨true,A,zTb⟩) (by show (S.H.sp.map PS.sp).length<4;rw[fe];exact hl4) rfl hA.out.1
  have hmore:Hid (More S { S.lst al cl ll with H:={ S.H with ap:=a2,cp:=c2,sp:=S.H.sp++[(⟨true,a,c,A,nTs,zTb⟩:PS)] },ab:=a4,cb:=c4,T:=S.T++[List.replicate 64 zEn] }):=Lib.hid ⟨hbd5,fun p hp n g hg=>by
   rcases fJ.1 hp with hp|hp
   ·exact hf'.out p hp n g hg
   rw[bq.1 hp] at hg;exact hA.out.2.1 n g hg,rfl,rfl,rfl,by simp,rfl⟩
  have hTl:S.T.length=S.H.sp.length:=by have h9:=hd'.out.ok.len;have h8:S.H.ma.sp.length=S.H.sp.length:=fe _;omega
  have hent5:Hid (∀j:Nat,(eU ({ S.lst al cl ll with H:={ S.H with ap:=a2,cp:=c2,sp:=S.H.sp++[(⟨true,a,c,A,nTs,zTb⟩:PS)] },ab:=a4,cb:=c4,T:=S.T++[List.replicate 64 zEn] }:MW).T S.H.sp.length j).k=0):=Lib.hid fun j=>by unfold eU eP;rw[aW (l:=S.T++_),kI (by omega),←hTl,sS];show ((List.replicate 64 zEn).getD j zEn).k=0;rw[aW,ny];split<;>rfl
  have hspn5:Hid (fq ({ S.lst al cl ll with H:={ S.H with ap:=a2,cp:=c2,sp:=S.H.sp++[(⟨true,a,c,A,nTs,zTb⟩:PS)] },ab:=a4,cb:=c4,T:=S.T++[List.replicate 64 zEn] }:MW).H.ma S.H.sp.length=⟨true,A,zTb⟩):=Lib.hid (by rw[hma5];unfold fq;have h8:S.H.ma.sp.length=S.H.sp.length:=fe _;rw[aW,kI (by omega),h8,sS];rfl);have hpar5:∀W,dW W B b { S.lst al cl ll with H:={ S.H with ap:=a2,cp:=c2,sp:=S.H.sp++[(⟨true,a,c,A,nTs,zTb⟩:PS)] },ab:=a4,cb:=c4,T:=S.T++[List.replicate 64 zEn] }→dN W a (A.flatMap mF):=fun W hW=>(sO (hW.ma.ps (⟨true,a,c,A,nTs,zTb⟩:PS) (sU _ (bq.2 rfl))).1).rd;have hspl5:Hid (({ S.lst al cl ll with H:={ S.H with ap:=a2,cp:=c2,sp:=S.H.sp++[(⟨true,a,c,A,nTs,zTb⟩:PS)] },ab:=a4,cb:=c4,T:=S.T++[List.replicate 64 zEn] }:MW).H.sp.length=S.H.sp.length+1):=Lib.hid (by simp);have hq5:Hid (S.l=[]→A=[]∧({ S.lst al cl ll with H:={ S.H with ap:=a2,cp:=c2,sp:=S.H.sp++[(⟨true,a,c,A,nTs,zTb⟩:PS)] },ab:=a4,cb:=c4,T:=S.T++[List.replicate 64 zEn] }:MW).l=[]∧({ S.lst al cl ll with H:={ S.H with ap:=a2,cp:=c2,sp:=S.H.sp++[(⟨true,a,c,A,nTs,zTb⟩:PS)] },ab:=a4,cb:=c4,T:=S.T++[List.replicate 64 zEn] }:MW).H.ma = { S.H.ma with sp:=S.H.ma.sp++[⟨true,[],zTb⟩] }∧({ S.lst al cl ll with H:={ S.H with ap:=a2,cp:=c2,sp:=S.H.sp++[(⟨true,a,c,A,nTs,zTb⟩:PS)] },ab:=a4,cb:=c4,T:=S.T++[List.replicate 64 zEn] }:MW).T=S.T++[List.replicate 64 zEn]):=Lib.hid fun e=>by
   have h9:=hq1'.out e;have hk0:k=0:=by omega
   have h8:=hA.out.2.2 hk0;refine⟨h8.1,by show ll=[];rw[h8.2];exact h9.2,?_,rfl⟩;rw[hma5,h8.1]
  have hrd5:=hpar5 _ h5;have hspl:∀S9:MW,S9.H.sp=S.H.sp++[(⟨true,a,c,A,nTs,zTb⟩:PS)]→S9.H.sp.length=S.H.sp.length+1:=fun S9 e=>by rw[e];simp
  have hsp5:({ S.lst al cl ll with H:={ S.H with ap:=a2,cp:=c2,sp:=S.H.sp++[(⟨true,a,c,A,nTs,zTb⟩:PS)] },ab:=a4,cb:=c4,T:=S.T++[List.replicate 64 zEn] }:MW).H.sp=S.H.sp++[(⟨true,a,c,A,nTs,zTb⟩:PS)]:=rfl;clear hma5 hpar5 hTl;generalize ({ S.lst al cl ll with H:={ S.H with ap:=a2,cp:=c2,sp:=S.H.sp++[(⟨true,a,c,A,nTs,zTb⟩:PS)] },ab:=a4,cb:=c4,T:=S.T++[List.replicate 64 zEn] }:MW)=S5 at *
  have hlen5:=hspl S5 hsp5;have hfi5:S5.H.fi=S.H.fi:=hmore.out.fi;have hsr:srtF 0 A:=nI (jD.1 hA.out.1).2;have hsr':=Lib.hid hsr;have hc:=h5.blk.cell;unfold iQ at hc;rw[hlen5] at hc;have hwM:IntKind.i64.wrap (((S.H.sp.length+1:Nat):Int)-1)=(S.H.sp.length:Int):=by rw[bJ _ (by omega)];omega
  have hbd5':=Lib.hid hbd5;clear hbd5 hsr hspl hlen5 hfi5 hsp5 hT100 hlen4 hlen2
  go_wp2_with fail
  refine (qG A a c _ hrd5 (by omega) (fun x hx=>(srtF_ok hsr'.out x hx).1)).mono ?_;rintro r w6 ⟨rfl,hb6⟩;have h6:=h5.below hb6;have s6:=s5.below hb6;have hspl5':=Lib.hid hspl5;clear h5 s5 hc hrd5 hwM hb6;go_upto_region 15 with (fail)
  go_loopw [92] (fun i wr => ∃(n:Nat) (Sn:MW),n≤64∧i = .int .i64 n∧dW wr B b Sn∧MS w b S wr Sn∧Hid (IK S5 Sn∧Bd Sn.H.ma Sn.T∧(∀j:Nat,n≤j→(eU Sn.T S.H.sp.length j).k=0)∧(A=[]→Sn=S5))) (fun i _=>64-(intOf i).toNat)
  case atStart=>exact⟨0,S5,aS _,rfl,h6,s6,Lib.hid ⟨.refl _,hbd5'.out,fun j _=>hent5.out j,fun _=>rfl⟩⟩
  case round=>
   clear h6 s6;obtain⟨n,Sn,hn,rfl,hm,hs,hN⟩:=hrel
   by_cases hn64:n<64
   ·have hni:(n:Int)<64:=by omega
    cases hfk:cz A n with
    | none=>
     have hix:=BO (cz A) n hn64 none hfk;unfold xD oR oW oH oF oP at hix;have hfk':=Lib.hid hfk;clear hfk;go_upto_region 17 with (fail);refine gI (fun W=>Code.wp _ _ _ _ W) fun W1 hb1 hx1 hs1 => ?_;have hcx:=hx1.cell;have hm1:=hm.below hb1;have hs2:=hs.below hb1;clear hs1 hb1 hm hs hix;go_wp2;go_roundw
     case rel=>exact⟨n+1,Sn,by omega,by go_num,hm1,hs2,Lib.hid ⟨hN.out.1,hN.out.2.1,fun j hj=>hN.out.2.2.1 j (by omega),hN.out.2.2.2⟩⟩
     case measure=>simp[intOf];omega
    | some g=>
     have hix:=BO (cz A) n hn64 (some g) hfk;unfold xD oR oW oH oF oP at hix;dsimp only[Option.isSome] at hix;have hfk':=Lib.hid hfk;clear hfk;go_upto_region 17 with (fail);refine gI (fun W=>Code.wp _ _ _ _ W) fun W1 hb1 hx1 hs1 => ?_;have hcx:=hx1.cell;have hm1:=hm.below hb1;have hs2:=hs.below hb1;clear hs1 hb1 hm hs hix;have hgA:onA A n=some g:=by rw[←qX hsr'.out];exact hfk'.out
     have hpi:=pg_in hsr'.out hgA;have hgA':=Lib.hid hgA;have hpi':=Lib.hid hpi;have hspS:Hid (fq Sn.H.ma S.H.sp.length=⟨true,A,zTb⟩):=Lib.hid (by rw[←hspn5.out];show (Sn.H.sp.map PS.sp).getD _ zSp=(S5.H.sp.map PS.sp).getD _ zSp;rw[hN.out.1.sp]);clear hgA hpi
     go_wp2_with (refine ax _ _ rfl wr.heap.size 0 rfl rfl _ hx1.rd _ underlying109 rfl one_size ?_)
     refine (Mm Sn S.H.sp.length n g B b _ hm1 hN.out.2.1 (by rw[hN.out.1.sp,hspl5'.out.out];omega) hn64 (hN.out.2.2.1 n (ay _)) (by rw[hspS.out];exact hgA'.out) (by rw[hN.out.1.fi,hmore.out.fi];exact hA.out.2.1 _ _ hgA'.out) hpi'.out.1 (fun h=>by
      rcases Int.lt_or_le g.fi 0 with h9|h9
      ·have:=(hpi'.out.2.2.2.2.1 h9).1;rw[h] at this;simp at this
      ·exact h9)).mono ?_
     rintro r w7 ⟨S7,rfl,h7,s7,k7,bd7,ent7⟩;have hs7:=hs2.trans s7;have hN7:Hid (IK S5 S7∧Bd S7.H.ma S7.T∧(∀j:Nat,n+1≤j→(eU S7.T S.H.sp.length j).k=0)∧(A=[]→S7=S5)):=Lib.hid ⟨hN.out.1.trans k7,bd7,fun j hj=>by rw[ent7 _ _ (by omega)];exact hN.out.2.2.1 j (by omega),fun e=>by have h9:=hgA'.out;rw[e] at h9;cases h9⟩;clear hm1 hs2 s7 k7 bd7 ent7 hx1 hcx;go_wp2;go_roundw
     case rel=>exact⟨n+1,S7,by omega,by go_num,h7,hs7,hN7⟩
     case measure=>simp[intOf];omega
   have hni:¬(n:Int)<64:=by omega
   go_wp2;refine bodyPost_ret (v:=.tuple #[]) (by simp[results,go_sem,results35]) rfl ?_;have hK:=hN.out.1;have hM:=hmore.out;refine⟨Sn,rfl,hm,hs,⟨hN.out.2.1,fun p hp n g hg => ?_,hK.fi.trans hM.fi,hK.ct.trans hM.ct,hK.dk.trans hM.dk,by rw[hK.sp];exact hM.sp,hK.fl.trans hM.fs⟩,fun e => ?_⟩
   ·rw[hK.sp] at hp;rw[hK.fi];exact hM.fm p hp n g hg
   have h9:=hq5.out e;rw[hN.out.2.2.2 h9.1];exact h9.2
theorem dW.putD (h:dW w B b S) (hk:aC w g cs 79) (hgB:B≤g) (hga:oB S.H.db=some g) (hg:w.grownBy w' (some g)) {l:List Page} (hl:l.length=S.H.dk.blocks.length) (ho:Own w' B 79 8 (.slice S.H.db l.length S.H.cdb) l.length (l.flatMap yL)) :
    dW w' B b { S with H:={ S.H with dk:=⟨l,S.H.dk.queue⟩ } }:=
  ⟨by
    have h1:=bu h.blk hk (by decide) hg;have e:iQ { S with H:={ S.H with dk:=⟨l,S.H.dk.queue⟩ } }=iQ S:=by unfold iQ;rw[show ({ S.H with dk:=⟨l,S.H.dk.queue⟩ }:MH).dk.blocks.length=S.H.dk.blocks.length from hl]
    rw[e];exact h1,h.ge,
   ⟨ak h.ma.fr hk (by decide) hg,ak h.ma.sl hk (by decide) hg,⟨h.ma.sw.b.grown hg (fun g' hg' e=>by cases e;rw[lI] at hg';exact h.n1 _ hg' hga),ak h.ma.sw.q hk (by decide) hg⟩,⟨ho,ak h.ma.dk.q hk (by decide) hg⟩,h.ma.st.keep hk (by decide) (by decide) hg,ak h.ma.ca hk (by decide) hg,ak h.ma.sp hk (by decide) hg,fun p hp=>⟨ak (h.ma.ps p hp).1 hk (by decide) hg,(h.ma.ps p hp).2.keep hk (by decide) hg⟩,h.ma.c64⟩,
   ak h.tt hk (by decide) hg,h.rd.keep h.ra h.bs hg hgB,h.ra,h.n1,h.n2,h.n3⟩
theorem dW.appQ (h:dW w B b S) (hg:w.grownBy w1 (Value.slice S.H.dq S.H.dk.queue.length S.H.cdq).ownBlock) {l:List (Int × Page)} (ho:Own w1 B 86 9 (.slice a l.length c) l.length (l.flatMap yz))
 (hb:aC w2 b (bA (iQ S) 7 [.slice a l.length c]) 77) (hg2:w1.grownBy w2 (some b)) :
  dW w2 B b { S with H:={ S.H with dq:=a,cdq:=c,dk:=⟨S.H.dk.blocks,l⟩ } }:=by
 have hq0:Own w B 86 9 (.slice S.H.wq S.H.sw.queue.length S.H.cwq) S.H.sw.queue.length (S.H.sw.queue.flatMap yz):=h.ma.sw.q;have key:aC w1 b (iQ S) 77∧Own w1 B 81 13 (.slice S.H.af S.H.m.fs.length S.H.cf) S.H.m.fs.length (S.H.m.fs.flatMap pO)∧Own w1 B 3 1 (.slice S.H.asl S.H.sl.length S.H.csl) S.H.sl.length (S.H.sl.map fM) ∧
   ic w1 B (.slice S.H.wb S.H.sw.blocks.length S.H.cwb) (.slice S.H.wq S.H.sw.queue.length S.H.cwq) S.H.sw∧Own w1 B 79 8 (.slice S.H.db S.H.dk.blocks.length S.H.cdb) S.H.dk.blocks.length (S.H.dk.blocks.flatMap yL)∧nM w1 B (.slice S.H.ai S.H.fi.length S.H.ci) S.H.fi ∧
   Own w1 B 106 3 (.slice S.H.ac S.H.ca.length S.H.cc) S.H.ca.length (S.H.ca.flatMap mh)∧Own w1 B 55 10 (.slice S.H.ap S.H.sp.length S.H.cp) S.H.sp.length (S.H.sp.flatMap tF) ∧
   (∀p∈S.H.sp,Own w1 B 99 7 (.slice p.aa p.ar.length p.ac) p.ar.length (p.ar.flatMap mF)∧qD w1 B (ng p.ts) p.tb)∧Own w1 B 90 192 (.slice S.ab S.T.length S.cb) S.T.length (S.T.flatMap tL)∧ui w1 S.al S.cl S.l.length (S.l.map BP):=by
  rcases qI h.ma.dk.q hg with hb0|⟨g,cs,hk,hga,hg'⟩
  ·have h1:=h.below hb0;exact⟨h1.blk,h1.ma.fr,h1.ma.sl,h1.ma.sw,h1.ma.dk.b,h1.ma.st,h1.ma.ca,h1.ma.sp,h1.ma.ps,h1.tt,h1.rd⟩
  ·exact⟨bu h.blk hk (by decide) hg',ak h.ma.fr hk (by decide) hg',ak h.ma.sl hk (by decide) hg',⟨ak h.ma.sw.b hk (by decide) hg',hq0.grown hg' (fun g' he=>by rw[h.n3] at he;cases he)⟩,ak h.ma.dk.b hk (by decide) hg',h.ma.st.keep hk (by decide) (by decide) hg',ak h.ma.ca hk (by decide) hg',ak h.ma.sp hk (by decide) hg',fun p hp=>⟨ak (h.ma.ps p hp).1 hk (by decide) hg',(h.ma.ps p hp).2.keep hk (by decide) hg'⟩,ak h.tt hk (by decide) hg',h.rd.keep h.ra h.bs hg' (iK h.ma.dk.q hga).1⟩
 obtain⟨k0,k1,k2,k3,k4,k5,k6,k7,k8,k9,k10⟩:=key;exact⟨hb,h.ge,⟨ak k1 k0 (by decide) hg2,ak k2 k0 (by decide) hg2,k3.keep k0 (by decide) (by decide) hg2,⟨ak k4 k0 (by decide) hg2,ak ho k0 (by decide) hg2⟩,k5.keep k0 (by decide) (by decide) hg2,ak k6 k0 (by decide) hg2,ak k7 k0 (by decide) hg2,fun p hp=>⟨ak (k8 p hp).1 k0 (by decide) hg2,(k8 p hp).2.keep k0 (by decide) hg2⟩,h.ma.c64⟩,
  ak k9 k0 (by decide) hg2,k10.keep h.ra (aX h.ge (qi k0.lt)) hg2 h.ge,h.ra,h.n1,h.n2,h.n3⟩
theorem dW.appFi (h:dW w B b S) {p:PF} (hp:Own w B 3 1 (mP p) p.l.length (p.l.map fM)) (hap:∀(i:Nat) q,S.H.fi[i]?=some q→Apart (mP q) (mP p)) (hasl:∀x,oB p.a=some x→oB S.H.asl≠some x)
 (hg:w.grownBy w1 (Value.slice S.H.ai S.H.fi.length S.H.ci).ownBlock) (ho:Own w1 B 67 2 (.slice a (S.H.fi++[p]).length c) (S.H.fi.length+1) (S.H.fi.flatMap pY++pY p))
 (hb:aC w2 b (bA (iQ S) 8 [.slice a (S.H.fi++[p]).length c]) 77) (hg2:w1.grownBy w2 (some b)):dW w2 B b { S with H:={ S.H with ai:=a,ci:=c,fi:=S.H.fi++[p] } }:=by
 have hF:nM w1 B (.slice a (S.H.fi++[p]).length c) (S.H.fi++[p]):=h.ma.st.app ho hp hg hap;have key:aC w1 b (iQ S) 77∧Own w1 B 81 13 (.slice S.H.af S.H.m.fs.length S.H.cf) S.H.m.fs.length (S.H.m.fs.flatMap pO)∧Own w1 B 3 1 (.slice S.H.asl S.H.sl.length S.H.csl) S.H.sl.length (S.H.sl.map fM) ∧
   ic w1 B (.slice S.H.wb S.H.sw.blocks.length S.H.cwb) (.slice S.H.wq S.H.sw.queue.length S.H.cwq) S.H.sw∧ic w1 B (.slice S.H.db S.H.dk.blocks.length S.H.cdb) (.slice S.H.dq S.H.dk.queue.length S.H.cdq) S.H.dk ∧
   Own w1 B 106 3 (.slice S.H.ac S.H.ca.length S.H.cc) S.H.ca.length (S.H.ca.flatMap mh)∧Own w1 B 55 10 (.slice S.H.ap S.H.sp.length S.H.cp) S.H.sp.length (S.H.sp.flatMap tF) ∧
   (∀p∈S.H.sp,Own w1 B 99 7 (.slice p.aa p.ar.length p.ac) p.ar.length (p.ar.flatMap mF)∧qD w1 B (ng p.ts) p.tb)∧Own w1 B 90 192 (.slice S.ab S.T.length S.cb) S.T.length (S.T.flatMap tL)∧ui w1 S.al S.cl S.l.length (S.l.map BP):=by
  rcases qI h.ma.st.own hg with hb0|⟨g,cs,hk,hga,hg'⟩
  ·have h1:=h.below hb0;exact⟨h1.blk,h1.ma.fr,h1.ma.sl,h1.ma.sw,h1.ma.dk,h1.ma.ca,h1.ma.sp,h1.ma.ps,h1.tt,h1.rd⟩
  ·exact⟨bu h.blk hk (by decide) hg',ak h.ma.fr hk (by decide) hg',ak h.ma.sl hk (by decide) hg',h.ma.sw.keep hk (by decide) (by decide) hg',h.ma.dk.keep hk (by decide) (by decide) hg',ak h.ma.ca hk (by decide) hg',ak h.ma.sp hk (by decide) hg',fun p hp=>⟨ak (h.ma.ps p hp).1 hk (by decide) hg',(h.ma.ps p hp).2.keep hk (by decide) hg'⟩,ak h.tt hk (by decide) hg',h.rd.keep h.ra h.bs hg' (iK h.ma.st.own hga).1⟩
 obtain⟨k0,k1,k2,k3,k4,k6,k7,k8,k9,k10⟩:=key;exact⟨hb,h.ge,⟨ak k1 k0 (by decide) hg2,ak k2 k0 (by decide) hg2,k3.keep k0 (by decide) (by decide) hg2,k4.keep k0 (by decide) (by decide) hg2,hF.keep k0 (by decide) (by decide) hg2,ak k6 k0 (by decide) hg2,ak k7 k0 (by decide) hg2,fun p hp=>⟨ak (k8 p hp).1 k0 (by decide) hg2,(k8 p hp).2.keep k0 (by decide) hg2⟩,h.ma.c64⟩,
  ak k9 k0 (by decide) hg2,k10.keep h.ra (aX h.ge (qi k0.lt)) hg2 h.ge,h.ra,h.n1,fun q hq x hx=>by
   rcases fJ.1 hq with hq|hq
   ·exact h.n2 q hq x hx
   rw[bq.1 hq] at hx;exact hasl x hx,h.n3⟩
theorem dW.putP (h:dW w B b S) (hk:aC w g cs 55) (hgB:B≤g) (hg:w.grownBy w' (some g)) (hl:sp.length=S.H.sp.length) (ho:Own w' B 55 10 (.slice S.H.ap sp.length S.H.cp) sp.length (sp.flatMap tF))
 (hps:∀p∈sp,Own w B 99 7 (.slice p.aa p.ar.length p.ac) p.ar.length (p.ar.flatMap mF)∧qD w B (ng p.ts) p.tb):dW w' B b { S with H:={ S.H with sp:=sp } }:=
  ⟨by
    have h1:=bu h.blk hk (by decide) hg;have e:iQ { S with H:={ S.H with sp:=sp } }=iQ S:=by unfold iQ;rw[show ({ S.H with sp:=sp }:MH).sp.length=S.H.sp.length from hl]
    rw[e];exact h1,h.ge,
   ⟨ak h.ma.fr hk (by decide) hg,ak h.ma.sl hk (by decide) hg,h.ma.sw.keep hk (by decide) (by decide) hg,h.ma.dk.keep hk (by decide) (by decide) hg,h.ma.st.keep hk (by decide) (by decide) hg,ak h.ma.ca hk (by decide) hg,ho,fun p hp=>⟨ak (hps p hp).1 hk (by decide) hg,(hps p hp).2.keep hk (by decide) hg⟩,h.ma.c64⟩,
   ak h.tt hk (by decide) hg,h.rd.keep h.ra h.bs hg hgB,h.ra,h.n1,h.n2,h.n3⟩
theorem dW.setH (h:dW w B b S) {x:Int} (hb:aC w' b (bA (iQ S) 2 [.int .i64 x]) 77) (hg:w.grownBy w' (some b)):dW w' B b { S with H:={ S.H with m:=⟨S.H.m.fs,x⟩ } }:=
  ⟨hb,h.ge,
   have k:=h.ma.keep h.blk (by decide) hg
   ⟨k.fr,k.sl,k.sw,k.dk,k.st,k.ca,k.sp,k.ps,k.c64⟩,ak h.tt h.blk (by decide) hg,h.rd.keep h.ra h.bs hg h.ge,h.ra,h.n1,h.n2,h.n3⟩
def EH (S:MW) (B b:Nat) (w:World) (P:PS):(Nat→Bool)→(Nat→Value)→World→Prop:=fun L y W=>
 (∀k,10≤k→k<16→L (k+1)=true→L k=true)∧(L 16=true→L 5=true) ∧
 (L 16=false→dW W B b S∧MS w b S W S) ∧
 (L 15=true→L 16=false→∃a e,y 15 = .slice a 1 e∧ui W a e 1 (tF P)) ∧
 (L 16=true→∃w1,dW w1 B b S∧MS w b S w1 S∧w1.grownBy W (Value.slice S.H.ap S.H.sp.length S.H.cp).ownBlock∧Own W B 55 10 (y 16) (S.H.sp.length+1) (S.H.sp.flatMap tF++tF P)∧oN w1 (.slice S.H.ap S.H.sp.length S.H.cp) (y 16))
theorem IP {row:Option Nat} (hg:w.grownBy w1 row) (hb:Below w1.heap.size w1 w2):w.grownBy w2 row:=
 ⟨hb.os.trans hg.os,hb.tape.trans hg.tape,hb.output.trans hg.output,aX hg.size hb.size,fun k hk hn=>(hb.block k (pX hk hg.size)).trans (hg.block k hk hn)⟩
theorem iy {P:PS}:∀L y W W',Below W.heap.size W W'→EH S B b w P L y W→EH S B b w P L y W':=
 fun _ _ _ _ hb ⟨h1,h2,h3,h4,h5⟩=>⟨h1,h2,fun e=>⟨(h3 e).1.below hb,(h3 e).2.below hb⟩,fun e1 e2=>by
  obtain⟨a,e,k1,k2⟩:=h4 e1 e2;exact⟨a,e,k1,k2.below hb⟩,fun e=>by
  obtain⟨w1,k1,k2,k3,k4,k5⟩:=h5 e;exact⟨w1,k1,k2,IP k3 hb,k4.below hb,k5⟩⟩
theorem iZ {P:PS} (hi:i≠15∧i≠16) (hd:∀k,10≤k→k<16→k+1=i→L k=true) (h:EH S B b w P L y W):EH S B b w P (cO L i) (dH y i v) W:=by
 obtain⟨h1,h2,h3,h4,h5⟩:=h;have e15:cO L i 15=L 15:=by unfold cO;rw[if_neg (fun e=>hi.1 e.symm)]
 have e16:cO L i 16=L 16:=by unfold cO;rw[if_neg (fun e=>hi.2 e.symm)]
 have y15:dH y i v 15=y 15:=by unfold dH;rw[if_neg (fun e=>hi.1 e.symm)]
 have y16:dH y i v 16=y 16:=by unfold dH;rw[if_neg (fun e=>hi.2 e.symm)]
 have up:∀k,L k=true→cO L i k=true:=fun k hk=>by unfold cO;split<;>simp[hk]
 refine⟨fun k k1 k2 k3 => ?_,fun e=>up 5 (h2 (by rw[←e16];exact e)),by rw[e16];exact h3,by rw[e15,e16,y15];exact h4,by rw[e16,y16];exact h5⟩
 by_cases e:k+1=i
 ·exact up k (hd k k1 k2 e)
 refine up k (h1 k k1 k2 ?_);unfold cO at k3;rw[if_neg e] at k3;exact k3
theorem Tf {P:PS} {e:Nat} (hb:Below W.heap.size W W') (h14:L 14=true) (h:EH S B b w P L y W) (hr:ui W' a e 1 (tF P)):EH S B b w P (cO L 15) (dH y 15 (.slice a 1 e)) W':=by
 obtain⟨h1,h2,h3,h4,h5⟩:=iy _ _ _ _ hb h;have up:∀k,L k=true→cO L 15 k=true:=fun k hk=>by unfold cO;split<;>simp[hk]
 refine⟨fun k k1 k2 k3 => ?_,fun e=>h2 e,h3,fun _ _=>⟨a,e,rfl,hr⟩,h5⟩
 by_cases e:k+1=15
 ·obtain rfl:k=14:=by omega
  exact up 14 h14
 refine up k (h1 k k1 k2 ?_);unfold cO at k3;rw[if_neg e] at k3;exact k3
theorem Ua {P:PS} (h15:L 15=true) (h5' : L 5=true) (h16:L 16=false) (h:EH S B b w P L y W) (hg:W.grownBy W' (Value.slice S.H.ap S.H.sp.length S.H.cp).ownBlock)
 (ho:Own W' B 55 10 v (S.H.sp.length+1) (S.H.sp.flatMap tF++tF P)) (hs:oN W (.slice S.H.ap S.H.sp.length S.H.cp) v):EH S B b w P (cO L 16) (dH y 16 v) W':=by
 obtain⟨h1,h2,h3,h4,h5⟩:=h;have up:∀k,L k=true→cO L 16 k=true:=fun k hk=>by unfold cO;split<;>simp[hk]
 refine⟨fun k k1 k2 k3 => ?_,fun _=>h5',fun e=>(by cases e),fun _ e=>(by cases e),fun _=>⟨W,(h3 h16).1,(h3 h16).2,hg,ho,hs⟩⟩
 by_cases e:k+1=16
 ·obtain rfl:k=15:=by omega
  exact up 15 h15
 refine up k (h1 k k1 k2 ?_);unfold cO at k3;rw[if_neg e] at k3;exact k3
theorem Cz {P:PS} (h:EH S B b w P L y W) (hi:L i=false) (hk:i=5∨(10≤i∧i≤16)):dW W B b S∧MS w b S W S:=by
 refine h.2.2.1 ?_;cases e:L 16 with
 | false=>rfl
 | true=>
  exfalso;rcases hk with rfl|⟨k1,k2⟩
  ·rw[h.2.1 e] at hi;cases hi
  have:∀d,d≤6→L (16-d)=true:=by
   intro d
   induction d with
   | zero=>intro _;exact e
   | succ d ih=>intro hd;exact h.1 (16-(d+1)) (by omega) (by omega) (by rw[show 16-(d+1)+1=16-d by omega];exact ih (by omega))
  have h9:=this (16-i) (by omega);rw[show 16-(16-i)=i by omega,hi] at h9;cases h9
def VL (S:MW) (B b:Nat) (w:World) (r:Ending) (w' : World):Prop:=∃S',r = .returned (.tuple #[])∧dW w' B b S'∧MS w b S w' S'∧More S S'
theorem TK (t:List En) (k:Nat) (hk:k<64):(tL t).toArray.extract (k*3) (k*3+3)=jk (t.getD k zEn):=by
 apply mg;intro j;rw[Array.getElem?_extract];have hs:(tL t).toArray.size=192:=by simp[xS]
 by_cases hj:j<3
 ·rw[if_pos (by omega)];have:=MI t k j hk hj;simpa[kP] using this
 ·rw[if_neg (by omega),kX (by show 3≤j;omega)]
theorem entry_size3:(Tryz.prog.info? 89).map (·.size)=some 3:=by kernel_rfl
theorem GN (t:List En) (k:Nat) (hk:k<64) (e:En) (he:t.getD k zEn=e) (w:World):(Instr.index 90 (.agg (tL t).toArray) (.int .i64 k)).run Tryz.prog w = .ok (.agg (jk e)) w:=
 wG underlying90 underlying89 rfl entry_size3 _ k _ hk (by rw[←he];exact TK t k hk) _ w
def Lu (S0 S S' : MW) (B b:Nat) (w:World) (gx gf:Nat) (e:En) (F:Array Value):(Nat→Bool)→(Nat→Value)→World→Prop:=fun L _ W=>
 (aC W gx (jk e) 89∧aC W gf F 110)∧(L 14=false→dW W B b S∧MS w b S0 W S)∧(L 14=true→dW W B b S'∧MS w b S0 W S')
theorem aZ {e:En} {F:Array Value}:∀L y W W',Below W.heap.size W W'→Lu S0 S S' B b w gx gf e F L y W→Lu S0 S S' B b w gx gf e F L y W':=
 fun _ _ _ _ hb ⟨h1,h2,h3⟩=>⟨⟨h1.1.ext hb,h1.2.ext hb⟩,fun e=>⟨(h2 e).1.below hb,(h2 e).2.below hb⟩,fun e=>⟨(h3 e).1.below hb,(h3 e).2.below hb⟩⟩
theorem CB {e:En} {F:Array Value} (h:Lu S0 S S' B b w gx gf e F L y W) (hk:(iQ S')[12]?=(iQ S)[12]?):W.cell? ⟨b,12,none⟩=(iQ S)[12]?:=by
 cases hL:L 14 with
 | false=>exact (h.2.1 hL).1.blk.cell 12
 | true=>rw[←hk];exact (h.2.2 hL).1.blk.cell 12
theorem rU {T:List (List En)} (ok:Ac m T) (hl:m.sp.length=2) {x:En} (hn:n<64) (hx:eQ x=0) (q j:Nat) (hj:j≠n):eU (setL (setL T 0 n x) 1 n x) q j=eU T q j:=by
 rw[wu (ok.set (p:=0) (by omega) hx) (by omega) hn,if_neg (fun h=>hj h.2),wu ok (by omega) hn,if_neg (fun h=>hj h.2)]
theorem Jh {y:Operand} {k:IntKind} (ho:o.op = .indexAddr 30 x y) (hx:ρ x = .slice (some ⟨b,off,none⟩) n c) (hy:ρ y = .int k (i:Int)) (hi:i<n) :
  (execOp ρ o).run Tryz.prog w = .ok (.value (.pointer (some ⟨b,off+i,none⟩))) w:=by
 have:=bv (P:=Tryz.prog) (w:=w) ho hx hy hi underlying30 (show (Tryz.prog.info? 3).map (·.size)=some 1 by kernel_rfl);rw[this,rP]
theorem dW.locE (h:dW w B b S) (hk:aC w g cs 89) (hn:¬mE b S g) (hsp:∀p∈S.H.sp,∀k v,k<8→(ng p.ts)[k]?=some v→v.ownBlock≠some g) (hgB:B≤g) (hg:w.grownBy w' (some g)):dW w' B b S:=by
 have hne:∀ {a:Option Addr},oB a∈gV S→∀n c g',(Value.slice a n c).ownBlock=some g'→some g≠some g':=fun hm n c g' he e=>by cases e;rw[lI] at he;exact hn (.inr (by rw[←he];exact hm))
 exact⟨h.blk.grown hg (fun e=>hn (.inl (aJ e))),h.ge,⟨h.ma.fr.grown hg (hne (by simp[gV]) _ _),h.ma.sl.grown hg (hne (by simp[gV]) _ _),⟨h.ma.sw.b.grown hg (hne (by simp[gV]) _ _),h.ma.sw.q.grown hg (fun g' he=>by rw[h.n3] at he;cases he)⟩,⟨h.ma.dk.b.grown hg (hne (by simp[gV]) _ _),h.ma.dk.q.grown hg (hne (by simp[gV]) _ _)⟩,
  ⟨h.ma.st.own.grown hg (hne (by simp[gV]) _ _),fun i p hp=>ak (h.ma.st.each i p hp) hk (by decide) hg,h.ma.st.apart⟩,h.ma.ca.grown hg (hne (by simp[gV]) _ _),h.ma.sp.grown hg (hne (by simp[gV]) _ _),fun p hp=>⟨ak (h.ma.ps p hp).1 hk (by decide) hg,⟨(h.ma.ps p hp).2.sz,fun k hk8=>by obtain⟨v,h1,h2⟩:=(h.ma.ps p hp).2.own k hk8;exact⟨v,h1,h2.grown hg (fun g' he e=>by cases e;exact hsp p hp k v hk8 h1 he)⟩,(h.ma.ps p hp).2.apart⟩⟩,h.ma.c64⟩,
  h.tt.grown hg (hne (by simp[gV]) _ _),h.rd.keep h.ra h.bs hg hgB,h.ra,h.n1,h.n2,h.n3⟩
theorem dW.newE (h:dW w B b S) {x:Nat} (hx:w.heap.size≤x):∀p∈S.H.sp,∀k v,k<8→(ng p.ts)[k]?=some v→v.ownBlock≠some x:=fun p hp k v hk hv he=>by
 obtain⟨v',h1,h2⟩:=(h.ma.ps p hp).2.own k hk;rw[hv] at h1;cases h1;have:=IA h2 x he;omega
theorem NM (S:MW) (B b:Nat) (w:World) (h:dW w B b S) (hd:Bd S.H.ma S.T) (hf:Nv S) (hl:S.H.sp.length=1) :
  Calls Tryz.prog 34 #[.pointer (some ⟨b,0,none⟩)] w (VL S B b w):=by
 obtain⟨p0,hsp⟩:=List.length_eq_one_iff.1 hl;have hd':=Lib.hid hd;have hf':=Lib.hid hf;have hBs:=Lib.hid h.bs;have hsp':=Lib.hid hsp;obtain⟨gp,op,cap,cur,hv,hgB,hgk,hgs,hgc,hgw⟩:=h.ma.sp.put rQ (by decide) 0 (by rw[hl];decide);have hap:S.H.ap=some ⟨gp,op,none⟩:=(nQ hv).1;have hcell:∀W,dW W B b S→W.cell? ⟨gp,op+1,none⟩=some (.slice p0.aa p0.ar.length p0.ac):=fun W hW=>by
  obtain⟨g2,o2,_,_,hv2,_,_,_,hc2,_⟩:=hW.ma.sp.put rQ (by decide) 0 (by rw[hl];decide);have e9:(some (⟨g2,o2,none⟩:Addr))=some ⟨gp,op,none⟩:=(nQ hv2).1.symm.trans hap;cases e9;have e0:S.H.sp[0]'(by rw[hl];decide)=p0:=by simp[hsp]
  rw[e0] at hc2;have:=hc2 1 _ rfl;simpa using this
 clear hd hf hsp hv hgk hgs hgc hgw;go_enter func34,ntmps34;go_upto_region 0 with (fail);refine gH 20 [_,_,_,_,_,.v (.slice (some ⟨gp,op,none⟩) 1 S.H.cp),_,_,_,_,.v (.slice (some ⟨gp,op,none⟩) 1 S.H.cp),_,_,.v (.slice p0.aa p0.ar.length p0.ac),.v (.agg (vM ⟨true,p0.aa,p0.ac,p0.ar,nTs,zTb⟩)),.r 15 ((bX fun _=>True)),.r 16 ((bX fun _=>True)),_,_,_] (EH S B b w ⟨true,p0.aa,p0.ac,p0.ar,nTs,zTb⟩) iy (fun _=>⟨fun k _ _ e=>(by cases e),fun e=>(by cases e),fun _=>⟨h,MS.refl _ _ _⟩,fun e=>(by cases e),fun e=>(by cases e)⟩) (Qk iy rfl (Qk iy rfl (Qk iy rfl (Qf iy b 1 rfl rfl (Qf iy b 11 rfl rfl (ag ?_ (Qk iy rfl (Qk iy rfl (Qf iy b 1 rfl rfl (Qf iy b 11 rfl rfl (ag ?_ (Qr iy (.pointer (some ⟨gp,op,none⟩)) (fun ρ y W hKn=>(bv (i:=0) rfl (aD rfl hKn) (aD rfl hKn) (by decide) underlying39 space_size)) rfl rfl (Qf iy gp (op+1) rfl rfl (ag ?_ (ag ?_ (ag ?_ (ag ?_ (Qk iy rfl (Qf iy b 1 rfl rfl (Qf iy b 11 rfl rfl (aB) (fun _ _ _ _ hLd h=>iZ (by decide) (by intro k h1 h2 e;first | omega | (obtain rfl:=kL e;exact hLd _ rfl)) h)) (fun _ _ _ _ hLd h=>iZ (by decide) (by intro k h1 h2 e;first | omega | (obtain rfl:=kL e;exact hLd _ rfl)) h)) (fun _ _ _ _ hLd h=>iZ (by decide) (by intro k h1 h2 e;first | omega | (obtain rfl:=kL e;exact hLd _ rfl)) h)))))) (fun _ _ _ _ hLd h=>iZ (by decide) (by intro k h1 h2 e;first | omega | (obtain rfl:=kL e;exact hLd _ rfl)) h)) (fun _ _ _ _ hLd h=>iZ (by decide) (by intro k h1 h2 e;first | omega | (obtain rfl:=kL e;exact hLd _ rfl)) h))) (fun _ _ _ _ hLd h=>iZ (by decide) (by intro k h1 h2 e;first | omega | (obtain rfl:=kL e;exact hLd _ rfl)) h)) (fun _ _ _ _ hLd h=>iZ (by decide) (by intro k h1 h2 e;first | omega | (obtain rfl:=kL e;exact hLd _ rfl)) h)) (fun _ _ _ _ hLd h=>iZ (by decide) (by intro k h1 h2 e;first | omega | (obtain rfl:=kL e;exact hLd _ rfl)) h)) (fun _ _ _ _ hLd h=>iZ (by decide) (by intro k h1 h2 e;first | omega | (obtain rfl:=kL e;exact hLd _ rfl)) h))) (fun _ _ _ _ hLd h=>iZ (by decide) (by intro k h1 h2 e;first | omega | (obtain rfl:=kL e;exact hLd _ rfl)) h)) (fun _ _ _ _ hLd h=>iZ (by decide) (by intro k h1 h2 e;first | omega | (obtain rfl:=kL e;exact hLd _ rfl)) h)) (fun _ _ _ _ hLd h=>iZ (by decide) (by intro k h1 h2 e;first | omega | (obtain rfl:=kL e;exact hLd _ rfl)) h)) (fun _ _ _ _ hLd h=>iZ (by decide) (by intro k h1 h2 e;first | omega | (obtain rfl:=kL e;exact hLd _ rfl)) h)) (fun _ _ _ _ hLd h=>iZ (by decide) (by intro k h1 h2 e;first | omega | (obtain rfl:=kL e;exact hLd _ rfl)) h)) (fun _=>rfl) rfl ?_
 ·intro ρ y W L hw hn hLi hLd hb hd;refine eB iy (fun _ _ h=>iZ (by decide) (by intro k h1 h2 e;first | omega | (obtain rfl:=kL e;exact hLd _ rfl)) h) hb ?_;have E9:=hw 9 4 rfl;have h4:y 4=_:=hd 4 rfl;have hm:=(Cz hb hLi (by decide)).1;refine aj (.slice (some ⟨gp,op,none⟩) 1 S.H.cp) (ah rfl) (by simp[execOp,go_sem,E9,h4,hm.blk.cell,iQ,hap,hl]) rfl
 ·intro ρ y W L hw hn hLi hLd hb hd;refine eB iy (fun _ _ h=>iZ (by decide) (by intro k h1 h2 e;first | omega | (obtain rfl:=kL e;exact hLd _ rfl)) h) hb ?_;have E14:=hw 14 9 rfl;have h9:y 9=_:=hd 9 rfl;have hm:=(Cz hb hLi (by decide)).1;refine aj (.slice (some ⟨gp,op,none⟩) 1 S.H.cp) (ah rfl) (by simp[execOp,go_sem,E14,h9,hm.blk.cell,iQ,hap,hl]) rfl
 ·intro ρ y W L hw hn hLi hLd hb hd;refine eB iy (fun _ _ h=>iZ (by decide) (by intro k h1 h2 e;first | omega | (obtain rfl:=kL e;exact hLd _ rfl)) h) hb ?_;have E17:=hw 17 12 rfl;have h12:y 12=_:=hd 12 rfl;have hm:=(Cz hb hLi (by decide)).1;refine aj (.slice p0.aa p0.ar.length p0.ac) (ah rfl) (by simp[execOp,go_sem,E17,h12,hcell W hm]) rfl
 ·intro ρ y W L hw hn hLi hLd hb hd;refine eB iy (fun _ _ h=>iZ (by decide) (by intro k h1 h2 e;first | omega | (obtain rfl:=kL e;exact hLd _ rfl)) h) hb ?_;have E18:=hw 18 13 rfl;have h13:y 13=_:=hd 13 rfl;have EC:∀v,ρ (.const v)=v:=fun v=>hn (.const v) trivial;refine aj (.agg (vM ⟨true,p0.aa,p0.ac,p0.ar,nTs,zTb⟩)) (ah rfl) (by simp[execOp,go_sem,E18,h13,EC,vM,nTs]) rfl
 ·intro ρ y W L hw hn hLi hLd hb hd;have E19:=hw 19 14 rfl;have h14:y 14=_:=hd 14 rfl;refine eF (.slice (some ⟨W.heap.size,0,none⟩) 1 1) (ah rfl) ?_ (Tf (W':=W.alloc (.cells (vM ⟨true,p0.aa,p0.ac,p0.ar,nTs,zTb⟩) 55)) ((Below.refl _ _).alloc (ay _) _) (hLd 14 rfl) hb ⟨ay _,by unfold maxLen;omega,fun e=>(by cases e),dN.new _ _ _⟩) trivial;simp[execOp,go_sem,E19.trans h14,vM]
 ·intro ρ y W L hw hn hLi hLd hb hd;have E10:=hw 10 5 rfl;have h5:y 5=_:=hd 5 rfl;have E20:=hw 20 15 rfl;have h15:=hd 15 rfl;have hm:=(Cz hb hLi (by decide)).1;obtain⟨a,e,hx1,hx2⟩:=hb.2.2.2.1 (hLd 15 rfl) hLi;have hpv:Own W B 55 10 (.slice S.H.ap S.H.sp.length S.H.cp) S.H.sp.length (S.H.sp.flatMap tF):=hm.ma.sp;refine kS (ah rfl) (pz _ _ _ rfl B 55 _ 10 224 underlying39 space_info rfl (by decide) (.slice S.H.ap S.H.sp.length S.H.cp) S.H.sp.length _ (by rw[hl,hap];exact E10.trans h5) hpv a 1 e _ (E20.trans hx1) hx2.nl hx2.le rfl hx2.rd (bR (by simp[vM,nTs,Value.oneCell'])) (by unfold maxLen;omega) (by omega) hm.bs) (fun v W1 h=>Ua (hLd 15 rfl) (hLd 5 rfl) hLi hb h.2.1 h.1 h.2.2) (fun _ _ _=>trivial)
 intro y W1 hbW1 hRW1;clear hRW1;obtain⟨w1,hm1,hs1,hg2,own2,hsn2⟩:=hbW1.2.2.2.2 rfl;clear hbW1 h;have hownP1:Own w1 B 55 10 (.slice S.H.ap S.H.sp.length S.H.cp) S.H.sp.length (S.H.sp.flatMap tF):=hm1.ma.sp;have hp0m:p0∈S.H.sp:=by rw[hsp'.out];exact bq.2 rfl
 have hbk2:=zi hownP1 hg2 hm1.blk (by decide);have hps2:∀p∈S.H.sp++[(⟨true,p0.aa,p0.ac,p0.ar,nTs,zTb⟩:PS)],Own W1 B 99 7 (.slice p.aa p.ar.length p.ac) p.ar.length (p.ar.flatMap mF)∧qD W1 B (ng p.ts) p.tb:=fun p hp=>by
  rcases fJ.1 hp with hp|hp
  ·exact⟨iG hownP1 hg2 (hm1.ma.ps p hp).1 (by decide),BX hownP1 hg2 (hm1.ma.ps p hp).2⟩
  rw[bq.1 hp];exact⟨iG hownP1 hg2 (hm1.ma.ps p0 hp0m).1 (by decide),zQ _ _⟩
 obtain⟨a2,c2,hv2,_⟩:=own2.rd;rw[hv2] at own2 hsn2 ⊢;clear hv2;have hlen2:(S.H.sp++[(⟨true,p0.aa,p0.ac,p0.ar,nTs,zTb⟩:PS)]).length=S.H.sp.length+1:=by simp
 have own2' : Own W1 B 55 10 (.slice a2 (S.H.sp++[(⟨true,p0.aa,p0.ac,p0.ar,nTs,zTb⟩:PS)]).length c2) (S.H.sp++[(⟨true,p0.aa,p0.ac,p0.ar,nTs,zTb⟩:PS)]).length ((S.H.sp++[(⟨true,p0.aa,p0.ac,p0.ar,nTs,zTb⟩:PS)]).flatMap tF):=by rw[hlen2,eT];simpa using own2
 clear own2
 go_wp2_with (refine aA rfl _ _ _ rfl b 11 _ [.slice a2 (S.H.sp.length+1) c2] rfl rfl rfl _ _ hbk2 (by show 11+1≤13;omega) (by kernel_rfl) (fun u hu=>by cases bq.1 hu;rfl) ?_)
 intro w3 hb3 hg3;have h3:dW w3 B b { S with H:={ S.H with ap:=a2,cp:=c2,sp:=S.H.sp++[(⟨true,p0.aa,p0.ac,p0.ar,nTs,zTb⟩:PS)] } }:=hm1.appP hg2 own2' hps2 (by rw[hlen2,hl];exact hb3) hg3;have s3:MS w b S w3 { S with H:={ S.H with ap:=a2,cp:=c2,sp:=S.H.sp++[(⟨true,p0.aa,p0.ac,p0.ar,nTs,zTb⟩:PS)] } }:=hs1.app hm1 hownP1 (by simp[gV]) hg2 hg3 hsn2 (fun x hx=>by
  rcases hx with hx|hx
  ·exact .inl (.inl hx)
  simp only[gV,bY,fI,or_false] at hx;rcases hx with hx|hx|hx|hx|hx|hx|hx|hx|hx<;>first|exact .inr hx.symm|exact .inl (.inr (by simp[gV,hx])))
 clear hm1 hs1 hownP1 hbk2 hps2 own2' hb3 hg3 hsn2 hg2 hcell hap
 -- process 0's areas
 obtain⟨g3,o3,_,_,hv3,_,_,_,hc3,_⟩:=h3.ma.sp.put rQ (by decide) 0 (by simp);have ha3:a2=some ⟨g3,o3,none⟩:=(nQ hv3).1;have c31:w3.cell? ⟨g3,o3+1,none⟩=some (.slice p0.aa p0.ar.length p0.ac):=by
  have e0:(S.H.sp++[(⟨true,p0.aa,p0.ac,p0.ar,nTs,zTb⟩:PS)])[0]'(by simp)=p0:=by simp[hsp'.out]
  rw[e0] at hc3;have:=hc3 1 _ rfl;simpa using this
 have hc:=h3.blk.cell;unfold iQ at hc;dsimp only at hc;rw[ha3,hlen2] at hc;have hA0:=(h3.ma.ps p0 (oM _ hp0m)).1;have hwA:Hid ((bG p0.ar).1=0):=Lib.hid (hd'.out.rt.pt.ar ⟨p0.lv,p0.ar,fT (eP S.T 0)⟩ (by
  show _∈(List.range (S.H.sp.map PS.sp).length).map fun p=>({ fq S.H.ma p with tb:=fT (eP S.T p) }:Sp);rw[ib];refine⟨0,by rw[fe,hl];decide,?_⟩;have e1:fq S.H.ma 0=p0.sp:=by show (S.H.sp.map PS.sp).getD 0 zSp=_;rw[hsp'.out];rfl
  rw[e1];rfl))
 have hAl:p0.ar.length≤16:=(jD.1 hwA.out).1;have hsr:=Lib.hid (nI (jD.1 hwA.out).2)
 go_wp2_with fail
 refine (qG p0.ar p0.aa p0.ac _ (sO hA0).rd (by omega) (fun x hx=>(srtF_ok hsr.out x hx).1)).mono ?_;rintro r w4 ⟨rfl,hb4⟩;have h4:=h3.below hb4;have s4:=s3.below hb4;have hs384:=Lib.hid (jr (cz p0.ar));clear h3 s3 hc c31 ha3 hb4 hA0
 go_wp2_with (refine aI rfl _ _ _ rfl (fC (cz p0.ar)) rfl rfl (by rw[hs384.out];rfl) (by rw[hs384.out];exact ones_size) (zJ _) ?_)
 intro w5 hb5 fx5;have h5:=h4.below hb5;have s5:=s4.below hb5;have hnf:=Lib.hid (h4.new (ay _));have hfw:=Lib.hid s4.size;clear h4 s4 hb5;generalize w4.heap.size=gf at *
 have hT1:S.T.length=1:=by have h9:=hd'.out.ok.len;have h8:S.H.ma.sp.length=S.H.sp.length:=fe _;omega
 have hT1':=Lib.hid hT1;have hl':=Lib.hid hl;clear hT1 hl;have hc:=h5.blk.cell;unfold iQ at hc;dsimp only at hc;have hownT:Own w5 B 90 192 (.slice S.ab S.T.length S.cb) S.T.length (S.T.flatMap tL):=h5.tt
 go_wp2_with (at_builtin;go_must (refine Bp rfl _ _ rfl (by kernel_rfl) B (.slice S.ab S.T.length S.cb) S.T.length (S.T.flatMap tL) rfl hownT rfl (by have:=hT1'.out;omega) h5.bs ?_))
 intro v6 w6 own6 hg6 hsn6;have hal5:=(Below.refl w5.heap.size w5).alloc (ay _) (.cells (tL (List.replicate 64 zEn)).toArray 90);have h5a:=h5.below hal5;have s5a:=s5.below hal5;have hownTa:=hownT.below hal5;have hfa:=fx5.ext hal5;have hkeep:∀ {x:Nat} {cs:Array Value} {T:TypeId},aC (w5.alloc (.cells (tL (List.replicate 64 zEn)).toArray 90)) x cs T→T≠90→aC w6 x cs T:=fun hk0 hT=>by
  rcases qI hownTa hg6 with hb0|⟨g,cs,hk,_,hg'⟩
  ·exact hk0.ext hb0
  ·exact bu hk0 hk (fun e=>hT e.symm) hg'
 have hbk6:=hkeep h5a.blk (by decide);have fx6:=hkeep hfa (by decide);have hTf:∀x,v6.ownBlock=some x→x≠gf:=fun x hx e=>by
  rcases hsn6 with e1|e1
  ·rw[e1] at hx;obtain⟨cs,hk⟩:=kM hownTa x hx;rw[e] at hk;exact lJ hk hfa (by decide) rfl
  have h9:=e1 x hx;rw[e] at h9;exact Nat.lt_irrefl _ (pX hfa.lt h9)
 obtain⟨a4,c4,rfl,_⟩:=own6.rd;have hkfT:some gf=oB a4→False:=fun e=>hTf gf (by rw[lI];exact e.symm) rfl;have hlen4:(S.T++[List.replicate 64 zEn]).length=S.T.length+1:=by simp
 have own6' : Own w6 B 90 192 (.slice a4 (S.T++[List.replicate 64 zEn]).length c4) (S.T++[List.replicate 64 zEn]).length ((S.T++[List.replicate 64 zEn]).flatMap tL):=by rw[hlen4,eT];simpa using own6
 clear hc h5 s5 hownT own6 hal5 hkeep hfa fx5
 go_wp2_with (refine aA rfl _ _ _ rfl b 12 _ [.slice a4 (S.T.length+1) c4] rfl rfl rfl _ _ hbk6 (by show 12+1≤13;omega) (by kernel_rfl) (fun u hu=>by cases bq.1 hu;rfl) ?_)
 intro w7 hb7 hg7;have h7:dW w7 B b { S with H:={ S.H with ap:=some ⟨g3,o3,none⟩,cp:=c2,sp:=S.H.sp++[(⟨true,p0.aa,p0.ac,p0.ar,nTs,zTb⟩:PS)] },ab:=a4,cb:=c4,T:=S.T++[List.replicate 64 zEn] }:=h5a.appT hg6 own6' (by rw[hlen4];exact hb7) hg7;have s7:MS w b S w7 { S with H:={ S.H with ap:=some ⟨g3,o3,none⟩,cp:=c2,sp:=S.H.sp++[(⟨true,p0.aa,p0.ac,p0.ar,nTs,zTb⟩:PS)] },ab:=a4,cb:=c4,T:=S.T++[List.replicate 64 zEn] }:=s5a.app h5a hownTa (by simp[gV]) hg6 hg7 hsn6 (fun x hx=>by
  rcases hx with hx|hx
  ·exact .inl (.inl hx)
  simp only[gV,bY,fI,or_false] at hx;rcases hx with hx|hx|hx|hx|hx|hx|hx|hx|hx<;>first|exact .inr hx.symm|exact .inl (.inr (by simp[gV,hx])))
 have hnb:gf≠b:=fun e=>hnf.out (.inl e);have hkf7:Hid (¬mE b ({ S with H:={ S.H with ap:=some ⟨g3,o3,none⟩,cp:=c2,sp:=S.H.sp++[(⟨true,p0.aa,p0.ac,p0.ar,nTs,zTb⟩:PS)] },ab:=a4,cb:=c4,T:=S.T++[List.replicate 64 zEn] }:MW) gf):=Lib.hid fun hk=>by
  rcases hk with hk|hk
  ·exact hnf.out (.inl hk)
  simp only[gV,bY,fI,or_false] at hk;have hlt:gf<w6.heap.size:=fx6.lt;rcases hk with hk|hk|hk|hk|hk|hk|hk|hk|hk
  all_goals first
   | exact hkfT hk
   | exact hnf.out (.inr (by simp[gV,hk]))
 have fx7:=fx6.grown hg7 (fun e=>hnb (aJ e).symm);clear h5a s5a hownTa hbk6 own6' hb7 hg7 hsn6 hg6 fx6;have hma5:({ S with H:={ S.H with ap:=some ⟨g3,o3,none⟩,cp:=c2,sp:=S.H.sp++[(⟨true,p0.aa,p0.ac,p0.ar,nTs,zTb⟩:PS)] },ab:=a4,cb:=c4,T:=S.T++[List.replicate 64 zEn] }:MW).H.ma = { S.H.ma with sp:=S.H.ma.sp++[⟨true,p0.ar,zTb⟩] }:=by simp[MH.ma,PS.sp]
 have hmore:Hid (More S { S with H:={ S.H with ap:=some ⟨g3,o3,none⟩,cp:=c2,sp:=S.H.sp++[(⟨true,p0.aa,p0.ac,p0.ar,nTs,zTb⟩:PS)] },ab:=a4,cb:=c4,T:=S.T++[List.replicate 64 zEn] }):=Lib.hid ⟨by
  rw[hma5];exact hd'.out.more (s:=⟨true,p0.ar,zTb⟩) (by show (S.H.sp.map PS.sp).length<4;rw[fe,hl'.out];decide) rfl hwA.out,fun p hp n g hg=>by
  rcases fJ.1 hp with hp|hp
  ·exact hf'.out p hp n g hg
  rw[bq.1 hp] at hg;exact hf'.out p0 hp0m n g hg,rfl,rfl,rfl,by simp,rfl⟩
 have hspL:Hid (({ S with H:={ S.H with ap:=some ⟨g3,o3,none⟩,cp:=c2,sp:=S.H.sp++[(⟨true,p0.aa,p0.ac,p0.ar,nTs,zTb⟩:PS)] },ab:=a4,cb:=c4,T:=S.T++[List.replicate 64 zEn] }:MW).H.ma.sp.length=2):=Lib.hid (by rw[hma5,jG];show (S.H.sp.map PS.sp).length+1=2;rw[fe,hl'.out]);have hsp0:Hid ((fq ({ S with H:={ S.H with ap:=some ⟨g3,o3,none⟩,cp:=c2,sp:=S.H.sp++[(⟨true,p0.aa,p0.ac,p0.ar,nTs,zTb⟩:PS)] },ab:=a4,cb:=c4,T:=S.T++[List.replicate 64 zEn] }:MW).H.ma 0).ar=p0.ar∧(fq ({ S with H:={ S.H with ap:=some ⟨g3,o3,none⟩,cp:=c2,sp:=S.H.sp++[(⟨true,p0.aa,p0.ac,p0.ar,nTs,zTb⟩:PS)] },ab:=a4,cb:=c4,T:=S.T++[List.replicate 64 zEn] }:MW).H.ma 1).ar=p0.ar):=Lib.hid (by
  rw[hma5];have e:S.H.ma.sp=[p0.sp]:=by show S.H.sp.map PS.sp=_;rw[hsp'.out];rfl
  unfold fq;simp only[e];exact⟨rfl,rfl⟩)
 obtain⟨t0,ht0⟩:=List.length_eq_one_iff.1 hT1'.out;have hent:Hid ((∀j:Nat,eU ({ S with H:={ S.H with ap:=some ⟨g3,o3,none⟩,cp:=c2,sp:=S.H.sp++[(⟨true,p0.aa,p0.ac,p0.ar,nTs,zTb⟩:PS)] },ab:=a4,cb:=c4,T:=S.T++[List.replicate 64 zEn] }:MW).T 0 j=t0.getD j zEn)∧∀j:Nat,(eU ({ S with H:={ S.H with ap:=some ⟨g3,o3,none⟩,cp:=c2,sp:=S.H.sp++[(⟨true,p0.aa,p0.ac,p0.ar,nTs,zTb⟩:PS)] },ab:=a4,cb:=c4,T:=S.T++[List.replicate 64 zEn] }:MW).T 1 j).k=0):=Lib.hid (by unfold eU eP;simp only[ht0];refine⟨fun j=>rfl,fun j => ?_⟩;show ((List.replicate 64 zEn).getD j zEn).k=0;rw[aW,ny];split<;>rfl);obtain⟨gT,oT,_,_,hvT,_,_,_,hcT,_⟩:=h7.tt.put xS (by decide) 0 (by simp);have haT:a4=some ⟨gT,oT,none⟩:=(nQ hvT).1;have hrdT:dN w7 (some ⟨gT,oT,none⟩) (tL t0):=fun j u hj=>⟨gT,oT,rfl,by
  have e0:(S.T++[List.replicate 64 zEn])[0]'(by simp)=t0:=by simp[ht0]
  rw[e0] at hcT;simpa using hcT j u hj⟩
 have hTlen:(S.T++[List.replicate 64 zEn]).length=2:=by rw[hlen4,hT1'.out]
 have hc:=h7.blk.cell;unfold iQ at hc;dsimp only at hc;rw[haT,hTlen] at hc;have ht0':=Lib.hid ht0;clear hma5 ht0 hvT hcT;have hsz3:(Tryz.prog.info? 90).map (·.size)=some (tL t0).length:=by rw[xS];exact ents_size
 have hsz3':=Lib.hid hsz3;clear hsz3;go_upto_region 3 with (fail);clear hnb hlen4 hlen2 hBs hnf hfw hs384 hwA;go_upto_region 4 with (refine ax _ _ rfl gT oT rfl rfl (tL t0) hrdT _ underlying90 rfl hsz3'.out ?_);have h7:dW w7 B b { S with H:={ S.H with ap:=some ⟨g3,o3,none⟩,cp:=c2,sp:=S.H.sp++[(⟨true,p0.aa,p0.ac,p0.ar,nTs,zTb⟩:PS)] },ab:=a4,cb:=c4,T:=S.T++[List.replicate 64 zEn] }:=h7;have hlen7:Hid (({ S with H:={ S.H with ap:=some ⟨g3,o3,none⟩,cp:=c2,sp:=S.H.sp++[(⟨true,p0.aa,p0.ac,p0.ar,nTs,zTb⟩:PS)] },ab:=a4,cb:=c4,T:=S.T++[List.replicate 64 zEn] }:MW).T.length=2):=Lib.hid hTlen;clear hc hrdT hsz3' hTlen;have hSp5:Hid (({ S with H:={ S.H with ap:=some ⟨g3,o3,none⟩,cp:=c2,sp:=S.H.sp++[(⟨true,p0.aa,p0.ac,p0.ar,nTs,zTb⟩:PS)] },ab:=a4,cb:=c4,T:=S.T++[List.replicate 64 zEn] }:MW).H.sp=S.H.sp++[(⟨true,p0.aa,p0.ac,p0.ar,nTs,zTb⟩:PS)]):=Lib.hid rfl;have hT5:Hid (({ S with H:={ S.H with ap:=some ⟨g3,o3,none⟩,cp:=c2,sp:=S.H.sp++[(⟨true,p0.aa,p0.ac,p0.ar,nTs,zTb⟩:PS)] },ab:=a4,cb:=c4,T:=S.T++[List.replicate 64 zEn] }:MW).T=S.T++[List.replicate 64 zEn]):=Lib.hid rfl;generalize ({ S with H:={ S.H with ap:=some ⟨g3,o3,none⟩,cp:=c2,sp:=S.H.sp++[(⟨true,p0.aa,p0.ac,p0.ar,nTs,zTb⟩:PS)] },ab:=a4,cb:=c4,T:=S.T++[List.replicate 64 zEn] }:MW)=S5 at *
 go_loopw [50] (fun i wr => ∃(n:Nat) (Sn:MW),n≤64∧i = .int .i64 n∧dW wr B b Sn∧MS w b S wr Sn∧aC wr gf (fC (cz p0.ar)) 110∧Hid (¬mE b Sn gf)∧Hid (IK S5 Sn∧Bd Sn.H.ma Sn.T∧∀j:Nat,n≤j→eU Sn.T 0 j=t0.getD j zEn∧(eU Sn.T 1 j).k=0)) (fun i _=>64-(intOf i).toNat)
 case atStart=>exact⟨0,S5,aS _,rfl,h7,s7,fx7,hkf7,Lib.hid ⟨.refl _,hmore.out.bd,fun j _=>by rw[hT5.out];exact⟨hent.out.1 j,hent.out.2 j⟩⟩⟩
 case round=>
  clear h7 s7 fx7 hkf7;obtain⟨n,Sn,hn,rfl,hm,hs,fx,hkf,hN⟩:=hrel
  by_cases hn64:n<64
  ·have hni:(n:Int)<64:=by omega
   obtain⟨e,he⟩:∃e,t0.getD n zEn=e:=⟨_,rfl⟩;have hix:=GN t0 n hn64 e he;unfold jk at hix;have he':=Lib.hid he;clear he;have hTSn:Sn.T.length=2:=by have h9:=hN.out.2.1.ok.len;rw[h9];show (Sn.H.sp.map PS.sp).length=2;rw[fe,hN.out.1.sp,hmore.out.sp,hl'.out]
   have h64:Hid (∀p,p<2→(eP Sn.T p).length=64):=Lib.hid fun p hp=>hN.out.2.1.ok.l64 (by rw[←hN.out.2.1.ok.len,hTSn];exact hp);go_upto_region 6 with (fail);refine gI (fun W=>Code.wp _ _ _ _ W) fun W1 hb1 bx1 hs1 => ?_;have hm1:=hm.below hb1;have sm1:=hs.below hb1;have fx1:=fx.ext hb1;have hkgx:=Lib.hid (hm.new (ay _));have hfar:=Lib.hid (hm.newE (ay _));have hgxB:B≤wr.heap.size:=hm.bs;have hgxw:=Lib.hid hs.size;have hgfx:gf≠wr.heap.size:=fun e9=>by have:=fx.lt;omega
   have hcx:=bx1.cell;clear hs1 hb1 hm hs fx hix;generalize wr.heap.size=gx at *
   by_cases hk1:e.k=1
   ·have hK:=hN.out.1;have hB:=hN.out.2.1;have hL:Sn.H.ma.sp.length=2:=by rw[←hB.ok.len];exact hTSn
    have he0:eU Sn.T 0 n=e:=by rw[(hN.out.2.2 n (ay _)).1];exact he'.out
    have hE:=xW hB.ok (p:=0) (n:=n) (by omega) hn64;rw[he0] at hE;have hfe:=lu hB.ok (p:=0) (n:=n) (by omega) hn64;rw[he0] at hfe;obtain⟨g,hpg,hfit⟩:=hB.rt.en 0 n (by rw[hfe,hk1];decide);rw[hfe] at hfit;have hn0:0≤e.n:=by rcases (dw _).1 hE with h9 | h9 | h9<;>omega
    obtain⟨f,hf0⟩:=fE hn0;have hfl:f<Sn.H.m.fs.length:=by have h9:=hfit.lt hk1;have e1:((dU Sn.H.ma Sn.T).m.fs.length:Nat)=Sn.H.m.fs.length:=rfl;omega
    rw[nL (by omega)] at hpg;have har:(fq Sn.H.ma 1).ar=(fq Sn.H.ma 0).ar∧(fq Sn.H.ma 0).ar=p0.ar:=by
     have e1:Sn.H.ma.sp=[p0.sp,⟨true,p0.ar,zTb⟩]:=by show Sn.H.sp.map PS.sp=_;rw[hK.sp,hSp5.out,hsp'.out];rfl
     unfold fq;rw[e1];exact⟨rfl,rfl⟩
    have hog:cz p0.ar n=some g:=by rw[qX hsr.out,←har.2];exact hpg
    obtain⟨ga,off,cap,cur,hv,hgB,hgk,hgs,hgc,hgw⟩:=hm1.ma.fr.put eZ (by decide) f hfl;have haf:Sn.H.af=some ⟨ga,off,none⟩:=(nQ hv).1;have hX:aT Sn.H.ma f=Sn.H.m.fs[f]:=by unfold aT;show Sn.H.m.fs.getD f fr0=_;rw[aW,aG hfl];rfl
    have hr0:=hB.rt.fewR (f:=f) hfl;have hr1:0≤(Sn.H.m.fs[f]).r∧(Sn.H.m.fs[f]).r≤257:=by rw[←hX];exact hr0
    have hX':=Lib.hid hX;have hgw':=Lib.hid hgw;have hgc' : Hid (∀j u,(pO Sn.H.m.fs[f])[j]?=some u→cur[off+f*13+j]?=some u):=Lib.hid fun j u hj=>by rw[←hgk.cell];exact hgc j u hj
    have hc0:∀W,Below W1.heap.size W1 W→W.cell? ⟨ga,off+f*13+8,none⟩=some (.int .i64 (Sn.H.m.fs[f]).r):=fun W hb=>by rw[(hgk.ext hb).cell,←hgk.cell];exact hgc 8 _ rfl
    have hall:=Lib.hid (And.intro hpg (And.intro hL (And.intro har (And.intro hE (And.intro he0 hog)))));clear hX hgw hgc hr0 hv hpg hfit hE hfe hK hB hL hn0 har he0 hog;generalize Sn.H.m.fs[f]=X at hc0 hr1 hX' hgc';have hw0:IntKind.i64.wrap (X.r+1)=X.r+1:=bJ _ (by omega);go_upto_region 7 with (fail);refine aK 14 [_,_,_,_,_,_,_,_,_,_,_,_,_,_] (Gk rfl (Gk rfl (Gf b 1 rfl rfl (Gf b 1 rfl rfl (Gf b 1 rfl rfl (Gl hm1.blk (V:=.slice (some ⟨ga,off,none⟩) Sn.H.m.fs.length Sn.H.cf) (by simp[iQ,haf]) rfl rfl rfl rfl (Gf gx 1 rfl rfl (Gl bx1 (V:=.int .i64 (f:Int)) (by simp[jk,hf0]) rfl rfl rfl rfl (Gr (.pointer (some ⟨ga,off+f*13,none⟩)) (fun ρ y W hb hKn=>(bv rfl (aD rfl hKn) (aD rfl hKn) hfl underlying26 frame_size)) rfl rfl (Gf ga (off+f*13+8) rfl rfl (Gc (.int .i64 X.r) (fun W hb=>by simp[hc0 _ hb]) rfl rfl rfl rfl (Gb (.int .i64 (X.r+1)) (by simp[go_sem,hw0]) rfl rfl rfl rfl rfl (Gr (.pointer (some ⟨ga,off+f*13,none⟩)) (fun ρ y W hb hKn=>(bv rfl (aD rfl hKn) (aD rfl hKn) hfl underlying26 frame_size)) rfl rfl (Gf ga (off+f*13+8) rfl rfl (aB))))))))))))))) (fun _=>rfl) rfl ?_;intro y W8 hbW8 _;have hgk8:=hgk.ext hbW8;have hm8:=hm1.below hbW8;have sm8:=sm1.below hbW8;have bx8:=bx1.ext hbW8;have fx8:=fx1.ext hbW8;clear hm1 sm1 bx1 fx1 hgk hcx hc0 hbW8
    go_wp2_with (refine aA rfl _ _ _ rfl ga (off+f*13+8) _ [.int .i64 (X.r+1)] rfl rfl rfl _ _ hgk8 (by show off+f*13+8+1≤cur.size;omega) (by kernel_rfl) (fun u hu=>by cases bq.1 hu;rfl) ?_)
    intro w9 hb9 hg9;rw[Jm (by omega) (fun j u hj=>hgc'.out j u hj)] at hb9;have hx0:dW w9 B b (Sn.frs (Sn.H.m.fs.set f (il X))):=hm8.putF hgk8 hgB hg9 (fs:=Sn.H.m.fs.set f (il X)) (by simp) (by simpa using hgw'.out _ _ hb9);have hkaf:mE b Sn ga:=.inr (by simp only[gV,haf];exact gL);have sx0:MS w b S w9 (Sn.frs (Sn.H.m.fs.set f (il X))):=sm8.put hg9 hkaf (fun x hx => .inl hx);have bx9:=bu bx8 hgk8 (by decide) hg9;have fx9:=bu fx8 hgk8 (by decide) hg9;have hg3:w9.cell? ⟨gf,n*6+3,none⟩=some (.bool g.sh):=by rw[fx9.cell];exact zU (cz p0.ar) n 3 hn64 _ (by rw[hall.out.2.2.2.2.2];rfl) (by decide)
    have hcx:=bx9.cell;clear hm8 sm8 bx8 fx8 hgk8 hb9 hg9 haf hkaf;unfold jk at hcx;cases hsh:g.sh
    case' true=>
     rw[hsh] at hg3;have hx:=hx0;have sx:=sx0;have bx:=bx9;have fx1:=fx9;have hkx:Hid (¬mE b (Sn.frs (Sn.H.m.fs.set f (il X))) gf):=hkf;have hkgx:Hid (¬mE b (Sn.frs (Sn.H.m.fs.set f (il X))) gx):=hkgx;have hT2:(Sn.frs (Sn.H.m.fs.set f (il X))).T.length=2:=hTSn;have h64a:(eP (Sn.frs (Sn.H.m.fs.set f (il X))).T 0).length=64:=h64.out 0 (by decide);have h64b:(eP (Sn.frs (Sn.H.m.fs.set f (il X))).T 1).length=64:=h64.out 1 (by decide);have hF12:Hid (IK S5 { (Sn.frs (Sn.H.m.fs.set f (il X))) with T:=setL (setL (Sn.frs (Sn.H.m.fs.set f (il X))).T 0 n e) 1 n e }∧Bd (Sn.frs (Sn.H.m.fs.set f (il X))).H.ma (setL (setL (Sn.frs (Sn.H.m.fs.set f (il X))).T 0 n e) 1 n e)∧∀j:Nat,n+1≤j→eU (setL (setL (Sn.frs (Sn.H.m.fs.set f (il X))).T 0 n e) 1 n e) 0 j=t0.getD j zEn∧(eU (setL (setL (Sn.frs (Sn.H.m.fs.set f (il X))).T 0 n e) 1 n e) 1 j).k=0):=Lib.hid (by
      have hK:=hN.out.1;have hB:=hN.out.2.1;obtain⟨hpg,hL,har,hE,he0,hog⟩:=hall.out;have h12:=hB.share1 (w:=e.w) hL hn64 har.1 (by rw[he0];exact hk1) (hN.out.2.2 n (ay _)).2 hpg (by rw[he0];exact hf0) (by rw[he0,hsh];rfl);rw[hX'.out,show (⟨1,(f:Int),e.w⟩:En)=e from by rw[←hf0,←hk1]] at h12;have hE2:eQ e=0:=by
       rw[dw] at hE ⊢;rcases hE with h9|h9|h9
       ·omega
       ·first
        | exact .inr (.inl ⟨h9.1,h9.2⟩)
        | exact .inr (.inl ⟨rfl,by show (0:Int)≤f;omega,by show (f:Int)<40;omega⟩)
       ·omega
      exact⟨⟨hK.sp,hK.fi,hK.ct,hK.dk,by show (Sn.H.m.fs.set f (il X)).length=_;rw[bI];exact hK.fl,hK.sl⟩,h12,fun j hj=>by show eU (setL (setL Sn.T 0 n e) 1 n e) 0 j=_∧(eU (setL (setL Sn.T 0 n e) 1 n e) 1 j).k=0;rw[rU hB.ok hL hn64 hE2 _ _ (by omega),rU hB.ok hL hn64 hE2 _ _ (by omega)];exact hN.out.2.2 j (by omega)⟩)
     generalize hSx:(Sn.frs (Sn.H.m.fs.set f (il X)))=Sx at hx sx hkx hkgx hT2 h64a h64b hF12;clear hx0 sx0 bx9 fx9;obtain⟨gT2,oT2,_,hab2,hgT2B,hkT2,_⟩:=hx.ent (p:=0) (n:=n) (by omega) hn64 h64a;have hgxT:gx≠gT2:=fun e9=>hkgx.out (.inr (by rw[e9];simp[gV,hab2,oB];right;right;right;right;right;right;right;right;rfl));have hgfT:gf≠gT2:=fun e9=>hkx.out (.inr (by rw[e9];simp[gV,hab2,oB];right;right;right;right;right;right;right;right;rfl));go_upto_region 12 with (fail);refine oI 17 [_,_,_,.v (.slice (some ⟨gT2,oT2,none⟩) 2 Sx.cb),_,_,_,_,.v (.slice (some ⟨gT2,oT2,none⟩) 2 Sx.cb),_,.v (.agg (jk e)),.v (.agg (jk e)),_,.v (.pointer (some ⟨gT2,oT2+n*3,none⟩)),.r 14 ((bX fun _=>True)),_,.v (.pointer (some ⟨gT2,oT2+192+n*3,none⟩))] (Lu S Sx { Sx with T:=setL Sx.T 0 n e } B b w gx gf e (fC (cz p0.ar))) aZ (fun _=>⟨⟨bx,fx1⟩,fun _=>⟨hx,sx⟩,fun h=>(by cases h)⟩) (Qk aZ rfl (Qk aZ rfl (Qf aZ b 12 rfl rfl (ag ?u1_1 (Qk aZ rfl (Qk aZ rfl (Qk aZ rfl (Qf aZ b 12 rfl rfl (ag ?u1_2 (Qk aZ rfl (ag ?u1_3 (ag ?u1_4 (Qr aZ (.pointer (some ⟨gT2,oT2,none⟩)) (fun ρ y W hKn=>(bv (i:=0) rfl (aD rfl hKn) (aD rfl hKn) (by decide) underlying75 ents_size)) rfl rfl (ag ?u1_5 (ag ?u1_6 (Qr aZ (.pointer (some ⟨gT2,oT2+192,none⟩)) (fun ρ y W hKn=>(bv (i:=1) rfl (aD rfl hKn) (aD rfl hKn) (by decide) underlying75 ents_size)) rfl rfl (ag ?u1_7 (aB)))))))))))))))))) (fun _=>rfl) rfl ?u1_8
    case' false=>
     rw[hsh] at hg3
     go_wp2_with (refine aA rfl _ _ _ rfl gx 2 _ [.bool false] rfl rfl rfl _ _ bx9 (by show 2+1≤3;omega) (by kernel_rfl) (fun u hu=>by cases bq.1 hu;rfl) ?_)
     intro w10 bx hg10;have bx:aC w10 gx (jk ⟨1,(f:Int),false⟩) 89:=bx;have hx:dW w10 B b (Sn.frs (Sn.H.m.fs.set f (il X))):=hx0.locE bx9 hkgx.out hfar.out hgxB hg10;have sx:=sx0.loc hg10 hgxw.out;have fx1:=fx9.grown hg10 (fun e9=>hgfx (aJ e9).symm);clear hcx;have hcx:=bx.cell;unfold jk at hcx;have hkx:Hid (¬mE b (Sn.frs (Sn.H.m.fs.set f (il X))) gf):=hkf;have hkgx:Hid (¬mE b (Sn.frs (Sn.H.m.fs.set f (il X))) gx):=hkgx;have hT2:(Sn.frs (Sn.H.m.fs.set f (il X))).T.length=2:=hTSn;have h64a:(eP (Sn.frs (Sn.H.m.fs.set f (il X))).T 0).length=64:=h64.out 0 (by decide);have h64b:(eP (Sn.frs (Sn.H.m.fs.set f (il X))).T 1).length=64:=h64.out 1 (by decide);have hF12:Hid (IK S5 { (Sn.frs (Sn.H.m.fs.set f (il X))) with T:=setL (setL (Sn.frs (Sn.H.m.fs.set f (il X))).T 0 n (⟨1,(f:Int),false⟩:En)) 1 n (⟨1,(f:Int),false⟩:En) }∧Bd (Sn.frs (Sn.H.m.fs.set f (il X))).H.ma (setL (setL (Sn.frs (Sn.H.m.fs.set f (il X))).T 0 n (⟨1,(f:Int),false⟩:En)) 1 n (⟨1,(f:Int),false⟩:En))∧∀j:Nat,n+1≤j→eU (setL (setL (Sn.frs (Sn.H.m.fs.set f (il X))).T 0 n (⟨1,(f:Int),false⟩:En)) 1 n (⟨1,(f:Int),false⟩:En)) 0 j=t0.getD j zEn∧(eU (setL (setL (Sn.frs (Sn.H.m.fs.set f (il X))).T 0 n (⟨1,(f:Int),false⟩:En)) 1 n (⟨1,(f:Int),false⟩:En)) 1 j).k=0):=Lib.hid (by
      have hK:=hN.out.1;have hB:=hN.out.2.1;obtain⟨hpg,hL,har,hE,he0,hog⟩:=hall.out;have h12:=hB.share1 (w:=false) hL hn64 har.1 (by rw[he0];exact hk1) (hN.out.2.2 n (ay _)).2 hpg (by rw[he0];exact hf0) (by rw[he0,hsh];rfl);rw[hX'.out,show (⟨1,(f:Int),false⟩:En)=(⟨1,(f:Int),false⟩:En) from by rw[←hf0,←hk1]] at h12;have hE2:eQ (⟨1,(f:Int),false⟩:En)=0:=by
       rw[dw] at hE ⊢;rcases hE with h9|h9|h9
       ·omega
       ·first
        | exact .inr (.inl ⟨h9.1,h9.2⟩)
        | exact .inr (.inl ⟨rfl,by show (0:Int)≤f;omega,by show (f:Int)<40;omega⟩)
       ·omega
      exact⟨⟨hK.sp,hK.fi,hK.ct,hK.dk,by show (Sn.H.m.fs.set f (il X)).length=_;rw[bI];exact hK.fl,hK.sl⟩,h12,fun j hj=>by show eU (setL (setL Sn.T 0 n (⟨1,(f:Int),false⟩:En)) 1 n (⟨1,(f:Int),false⟩:En)) 0 j=_∧(eU (setL (setL Sn.T 0 n (⟨1,(f:Int),false⟩:En)) 1 n (⟨1,(f:Int),false⟩:En)) 1 j).k=0;rw[rU hB.ok hL hn64 hE2 _ _ (by omega),rU hB.ok hL hn64 hE2 _ _ (by omega)];exact hN.out.2.2 j (by omega)⟩)
     generalize hSx:(Sn.frs (Sn.H.m.fs.set f (il X)))=Sx at hx sx hkx hkgx hT2 h64a h64b hF12;clear hx0 sx0 bx9 fx9 hg10;obtain⟨gT2,oT2,_,hab2,hgT2B,hkT2,_⟩:=hx.ent (p:=0) (n:=n) (by omega) hn64 h64a;have hgxT:gx≠gT2:=fun e9=>hkgx.out (.inr (by rw[e9];simp[gV,hab2,oB];right;right;right;right;right;right;right;right;rfl));have hgfT:gf≠gT2:=fun e9=>hkx.out (.inr (by rw[e9];simp[gV,hab2,oB];right;right;right;right;right;right;right;right;rfl));go_upto_region 12 with (fail);refine oI 17 [_,_,_,.v (.slice (some ⟨gT2,oT2,none⟩) 2 Sx.cb),_,_,_,_,.v (.slice (some ⟨gT2,oT2,none⟩) 2 Sx.cb),_,.v (.agg (jk (⟨1,(f:Int),false⟩:En))),.v (.agg (jk (⟨1,(f:Int),false⟩:En))),_,.v (.pointer (some ⟨gT2,oT2+n*3,none⟩)),.r 14 ((bX fun _=>True)),_,.v (.pointer (some ⟨gT2,oT2+192+n*3,none⟩))] (Lu S Sx { Sx with T:=setL Sx.T 0 n (⟨1,(f:Int),false⟩:En) } B b w gx gf (⟨1,(f:Int),false⟩:En) (fC (cz p0.ar))) aZ (fun _=>⟨⟨bx,fx1⟩,fun _=>⟨hx,sx⟩,fun h=>(by cases h)⟩) (Qk aZ rfl (Qk aZ rfl (Qf aZ b 12 rfl rfl (ag ?v1_1 (Qk aZ rfl (Qk aZ rfl (Qk aZ rfl (Qf aZ b 12 rfl rfl (ag ?v1_2 (Qk aZ rfl (ag ?v1_3 (ag ?v1_4 (Qr aZ (.pointer (some ⟨gT2,oT2,none⟩)) (fun ρ y W hKn=>(bv (i:=0) rfl (aD rfl hKn) (aD rfl hKn) (by decide) underlying75 ents_size)) rfl rfl (ag ?v1_5 (ag ?v1_6 (Qr aZ (.pointer (some ⟨gT2,oT2+192,none⟩)) (fun ρ y W hKn=>(bv (i:=1) rfl (aD rfl hKn) (aD rfl hKn) (by decide) underlying75 ents_size)) rfl rfl (ag ?v1_7 (aB)))))))))))))))))) (fun _=>rfl) rfl ?v1_8
    case u1_1|v1_1=>
     intro ρ y W L hw hn hLi hLd hb hd;refine eB aZ (fun _ _ h=>h) hb ?_;have E93:=hw 93 2 rfl;have h2:y 2=_:=hd 2 rfl;have hcc:=CB hb (by simp[iQ,setL]);refine aj (.slice (some ⟨gT2,oT2,none⟩) 2 Sx.cb) (ah rfl) (by simp[execOp,go_sem,cZ,E93,h2,hcc,iQ,hab2,hT2]) rfl
    case u1_2|v1_2=>
     intro ρ y W L hw hn hLi hLd hb hd;refine eB aZ (fun _ _ h=>h) hb ?_;have E98:=hw 98 7 rfl;have h7:y 7=_:=hd 7 rfl;have hcc:=CB hb (by simp[iQ,setL]);refine aj (.slice (some ⟨gT2,oT2,none⟩) 2 Sx.cb) (ah rfl) (by simp[execOp,go_sem,cZ,E98,h7,hcc,iQ,hab2,hT2]) rfl
    case u1_5|v1_5=>
     intro ρ y W L hw hn hLi hLd hb hd;refine eB aZ (fun _ _ h=>h) hb ?_;have E103:=hw 103 12 rfl;have h12:y 12=_:=hd 12 rfl;have E95:=hw 95 4 rfl;have h4:y 4=_:=hd 4 rfl;have hn9:((64:Int)≤(n:Int))=False:=eq_false (by omega);refine aj (.pointer (some ⟨gT2,oT2+n*3,none⟩)) (ah rfl) (by simp[execOp,go_sem,cZ,E103,h12,E95,h4,hn64,hn9]) rfl
    case u1_7|v1_7=>
     intro ρ y W L hw hn hLi hLd hb hd;refine eB aZ (fun _ _ h=>h) hb ?_;have E105:=hw 105 15 rfl;have h15:y 15=_:=hd 15 rfl;have E100:=hw 100 9 rfl;have h9:y 9=_:=hd 9 rfl;have hn9:((64:Int)≤(n:Int))=False:=eq_false (by omega);refine aj (.pointer (some ⟨gT2,oT2+192+n*3,none⟩)) (ah rfl) (by simp[execOp,go_sem,cZ,E105,h15,E100,h9,hn64,hn9]) rfl
    case u1_3=>
     intro ρ y W L hw hn hLi hLd hb hd;refine eB aZ (fun _ _ h=>h) hb ?_;have E4:ρ (.tmp 4) = .pointer (some ⟨gx,0,none⟩):=(hn (.tmp 4) rfl).trans rfl;refine aj (.agg (jk e)) (ah rfl) (dx rfl E4 hb.1.1 underlying89 rfl entry_size3) rfl
    case u1_4=>
     intro ρ y W L hw hn hLi hLd hb hd;refine eB aZ (fun _ _ h=>h) hb ?_;have E4:ρ (.tmp 4) = .pointer (some ⟨gx,0,none⟩):=(hn (.tmp 4) rfl).trans rfl;refine aj (.agg (jk e)) (ah rfl) (dx rfl E4 hb.1.1 underlying89 rfl entry_size3) rfl
    case u1_6=>
     intro ρ y W L hw hn hLi hLd hb hd;have E104:=hw 104 13 rfl;have h13:y 13=_:=hd 13 rfl;have E101:=hw 101 10 rfl;have h10:y 10=_:=hd 10 rfl;obtain⟨hm9,hs9⟩:=hb.2.1 hLi;obtain⟨gQ,oQ,curQ,hQ,hQB,hQk,hQs,_,hQw⟩:=hm9.ent (p:=0) (n:=n) (by omega) hn64 h64a;cases (hQ.symm.trans hab2);rw[wL,gM] at hQs hQw;exact nU (ah rfl) (uV _ _ _ rfl gT2 (oT2+n*3) _ (kP e) (E104.trans h13) (E101.trans h10) rfl curQ _ hQk (by rw[eY];exact hQs) (by kernel_rfl) (bR (iL _))) ⟨⟨hb.1.1.grown (aH _ _ _ _) (fun e9=>hgxT (aJ e9).symm),hb.1.2.grown (aH _ _ _ _) (fun e9=>hgfT (aJ e9).symm)⟩,fun h=>(by cases h),fun _=>⟨hQw _ e (hQk.setCells _ _) (aH _ _ _ _),hs9.put (aH _ _ _ _) (.inr (by simp only[gV,hab2];simp[oB];right;right;right;right;right;right;right;right;rfl)) (fun x hx => .inl hx)⟩⟩ trivial
    case u1_8=>
     intro y W9 hbW9 hRW9;clear hRW9;simp only[bT,cZ,bM,bN];obtain⟨⟨bx9,fx9⟩,_,hq9⟩:=hbW9;obtain⟨h9,s9⟩:=hq9 rfl;have hT9:(setL Sx.T 0 n e).length=2:=by unfold setL;rw[bI];exact hT2
     obtain⟨gR,oR',curR,hR,hRB,hRk,hRs,_,hRw⟩:=h9.ent (p:=1) (n:=n) (by show 1<(setL Sx.T 0 n e).length;omega) hn64 (by show (eP (setL Sx.T 0 n e) 1).length=64;rw[rC (by omega),if_neg (by decide)];exact h64b);have hR:Sx.ab=some ⟨gR,oR',none⟩:=hR;cases (hR.symm.trans hab2);rw[zV] at hRs hRw;have hRw':=Lib.hid hRw;clear hRw hq9 hx sx bx fx1
     go_wp2_with (refine aA rfl _ _ _ rfl gT2 (oT2+192+n*3) _ (kP e) rfl rfl rfl _ _ hRk (by rw[eY];exact hRs) (by kernel_rfl) (bR (iL _)) ?_)
     intro w10 hb10 hg10;have h10:=hRw'.out w10 e hb10 hg10;have s10:MS w b S w10 { Sx with T:=setL (setL Sx.T 0 n e) 1 n e }:=s9.put hg10 (.inr (by simp only[gV,hab2];simp[oB];right;right;right;right;right;right;right;right;rfl)) (fun x hx => .inl hx);have fx10:=fx9.grown hg10 (fun e9=>hgfT (aJ e9).symm);clear h9 s9 bx9 fx9 hRk hb10 hg10;go_wp2;go_roundw
     case rel=>exact⟨n+1,_,by omega,by go_num,h10,s10,fx10,hkx,hF12⟩
     case measure=>simp[intOf];omega
    case v1_3=>
     intro ρ y W L hw hn hLi hLd hb hd;refine eB aZ (fun _ _ h=>h) hb ?_;have E4:ρ (.tmp 4) = .pointer (some ⟨gx,0,none⟩):=(hn (.tmp 4) rfl).trans rfl;refine aj (.agg (jk (⟨1,(f:Int),false⟩:En))) (ah rfl) (dx rfl E4 hb.1.1 underlying89 rfl entry_size3) rfl
    case v1_4=>
     intro ρ y W L hw hn hLi hLd hb hd;refine eB aZ (fun _ _ h=>h) hb ?_;have E4:ρ (.tmp 4) = .pointer (some ⟨gx,0,none⟩):=(hn (.tmp 4) rfl).trans rfl;refine aj (.agg (jk (⟨1,(f:Int),false⟩:En))) (ah rfl) (dx rfl E4 hb.1.1 underlying89 rfl entry_size3) rfl
    case v1_6=>
     intro ρ y W L hw hn hLi hLd hb hd;have E104:=hw 104 13 rfl;have h13:y 13=_:=hd 13 rfl;have E101:=hw 101 10 rfl;have h10:y 10=_:=hd 10 rfl;obtain⟨hm9,hs9⟩:=hb.2.1 hLi;obtain⟨gQ,oQ,curQ,hQ,hQB,hQk,hQs,_,hQw⟩:=hm9.ent (p:=0) (n:=n) (by omega) hn64 h64a;cases (hQ.symm.trans hab2);rw[wL,gM] at hQs hQw;exact nU (ah rfl) (uV _ _ _ rfl gT2 (oT2+n*3) _ (kP (⟨1,(f:Int),false⟩:En)) (E104.trans h13) (E101.trans h10) rfl curQ _ hQk (by rw[eY];exact hQs) (by kernel_rfl) (bR (iL _))) ⟨⟨hb.1.1.grown (aH _ _ _ _) (fun e9=>hgxT (aJ e9).symm),hb.1.2.grown (aH _ _ _ _) (fun e9=>hgfT (aJ e9).symm)⟩,fun h=>(by cases h),fun _=>⟨hQw _ (⟨1,(f:Int),false⟩:En) (hQk.setCells _ _) (aH _ _ _ _),hs9.put (aH _ _ _ _) (.inr (by simp only[gV,hab2];simp[oB];right;right;right;right;right;right;right;right;rfl)) (fun x hx => .inl hx)⟩⟩ trivial
    case v1_8=>
     intro y W9 hbW9 hRW9;clear hRW9;simp only[bT,cZ,bM,bN];obtain⟨⟨bx9,fx9⟩,_,hq9⟩:=hbW9;obtain⟨h9,s9⟩:=hq9 rfl;have hT9:(setL Sx.T 0 n (⟨1,(f:Int),false⟩:En)).length=2:=by unfold setL;rw[bI];exact hT2
     obtain⟨gR,oR',curR,hR,hRB,hRk,hRs,_,hRw⟩:=h9.ent (p:=1) (n:=n) (by show 1<(setL Sx.T 0 n (⟨1,(f:Int),false⟩:En)).length;omega) hn64 (by show (eP (setL Sx.T 0 n (⟨1,(f:Int),false⟩:En)) 1).length=64;rw[rC (by omega),if_neg (by decide)];exact h64b);have hR:Sx.ab=some ⟨gR,oR',none⟩:=hR;cases (hR.symm.trans hab2);rw[zV] at hRs hRw;have hRw':=Lib.hid hRw;clear hRw hq9 hx sx bx fx1
     go_wp2_with (refine aA rfl _ _ _ rfl gT2 (oT2+192+n*3) _ (kP (⟨1,(f:Int),false⟩:En)) rfl rfl rfl _ _ hRk (by rw[eY];exact hRs) (by kernel_rfl) (bR (iL _)) ?_)
     intro w10 hb10 hg10;have h10:=hRw'.out w10 (⟨1,(f:Int),false⟩:En) hb10 hg10;have s10:MS w b S w10 { Sx with T:=setL (setL Sx.T 0 n (⟨1,(f:Int),false⟩:En)) 1 n (⟨1,(f:Int),false⟩:En) }:=s9.put hg10 (.inr (by simp only[gV,hab2];simp[oB];right;right;right;right;right;right;right;right;rfl)) (fun x hx => .inl hx);have fx10:=fx9.grown hg10 (fun e9=>hgfT (aJ e9).symm);clear h9 s9 bx9 fx9 hRk hb10 hg10;go_wp2;go_roundw
     case rel=>exact⟨n+1,_,by omega,by go_num,h10,s10,fx10,hkx,hF12⟩
     case measure=>simp[intOf];omega
   by_cases hk2:e.k=2
   case' pos=>
    have hK:=hN.out.1;have hB:=hN.out.2.1;have hL:Sn.H.ma.sp.length=2:=by rw[←hB.ok.len];exact hTSn
    have he0:eU Sn.T 0 n=e:=by rw[(hN.out.2.2 n (ay _)).1];exact he'.out
    have hE:=xW hB.ok (p:=0) (n:=n) (by omega) hn64;rw[he0] at hE;have hfe:=lu hB.ok (p:=0) (n:=n) (by omega) hn64;rw[he0] at hfe;obtain⟨g,hpg,hfit⟩:=hB.rt.en 0 n (by rw[hfe,hk2];decide);rw[hfe] at hfit;have hn0:0≤e.n:=by rcases (dw _).1 hE with h9 | h9 | h9<;>omega
    obtain⟨s0,hs0⟩:=fE hn0;have hsl:s0<Sn.H.sl.length:=by have h9:=(hfit.sw hk2).1;have e1:((dU Sn.H.ma Sn.T).sl.length:Nat)=Sn.H.sl.length:=rfl;omega
    obtain⟨gs,off,cap,cur,hv,hgB,hgk,hgs,hgc,hgw⟩:=Own.put (enc:=fun x=>[fM x]) (sz:=1) (l:=Sn.H.sl) (fun _=>rfl) Nat.one_pos (by rw[iR];exact hm1.ma.sl) s0 hsl;have has:Sn.H.asl=some ⟨gs,off,none⟩:=(nQ hv).1;rw[rP] at hgs hgc hgw;have hz0:oG Sn.H.ma s0=Sn.H.sl[s0]:=by unfold oG;show Sn.H.sl.getD s0 0=_;rw[aW,aG hsl];rfl
    have hfw9:=hB.rt.fewS (s:=s0) hsl;have hfw8:0≤Sn.H.sl[s0]∧Sn.H.sl[s0]≤256:=by rw[←hz0];exact hfw9
    have hgw':=Lib.hid hgw;have hz0':=Lib.hid hz0;have hc0:∀W,Below W1.heap.size W1 W→W.cell? ⟨gs,off+s0,none⟩=some (.int .i64 Sn.H.sl[s0]):=fun W hb=>by have h9:=hgc 0 _ rfl;rw[gM] at h9;have h8:=(hgk.ext hb).cell (off+s0);rw[h8,←hgk.cell];exact h9
    have hps:=Lib.hid (And.intro hpg hL);clear hz0 hgw hgc hfw9 hv hpg hfit hE hfe hK hB hL hn0;generalize Sn.H.sl[s0]=v0 at hc0 hfw8 hz0';have hw0:IntKind.i64.wrap (v0+1)=v0+1:=bJ _ (by omega);have he0':=Lib.hid he0;clear he0;go_upto_region 11 with (fail);refine aK 11 [_,_,_,_,_,_,_,_,_,_,_] (Gk rfl (Gk rfl (Gf b 1 rfl rfl (Gf b 3 rfl rfl (Gl hm1.blk (V:=.slice (some ⟨gs,off,none⟩) Sn.H.sl.length Sn.H.csl) (by simp[iQ,has]) rfl rfl rfl rfl (Gf gx 1 rfl rfl (Gl bx1 (V:=.int .i64 (s0:Int)) (by simp[jk,hs0]) rfl rfl rfl rfl (Gr (.pointer (some ⟨gs,off+s0,none⟩)) (fun ρ y W hb hKn=>(Jh rfl (aD rfl hKn) (aD rfl hKn) hsl)) rfl rfl (Gc (.int .i64 v0) (fun W hb=>by simp[hc0 _ hb]) rfl rfl rfl rfl (Gb (.int .i64 (v0+1)) (by simp[go_sem,hw0]) rfl rfl rfl rfl rfl (Gr (.pointer (some ⟨gs,off+s0,none⟩)) (fun ρ y W hb hKn=>(Jh rfl (aD rfl hKn) (aD rfl hKn) hsl)) rfl rfl (aB)))))))))))) (fun _=>rfl) rfl ?_;intro y W8 hbW8 _;have hgk8:=hgk.ext hbW8;have hm8:=hm1.below hbW8;have sm8:=sm1.below hbW8;have bx8:=bx1.ext hbW8;have fx8:=fx1.ext hbW8;clear hm1 sm1 bx1 fx1 hgk hcx hc0 hbW8
    go_wp2_with (refine aA rfl _ _ _ rfl gs (off+s0) _ [.int .i64 (v0+1)] rfl rfl rfl _ _ hgk8 (by show off+s0+1≤cur.size;omega) (by kernel_rfl) (fun u hu=>by cases bq.1 hu;rfl) ?_)
    intro w9 hb9 hg9;have hga:oB Sn.H.asl=some gs:=by rw[has];rfl
    have hx:dW w9 B b { Sn with H:={ Sn.H with sl:=Sn.H.sl.set s0 (v0+1) } }:=hm8.putS hgk8 hgB hga hg9 (sl:=Sn.H.sl.set s0 (v0+1)) (by simp) (by have h9:=hgw'.out w9 (v0+1) hb9;rw[iR] at h9;simpa using h9);have sx:MS w b S w9 { Sn with H:={ Sn.H with sl:=Sn.H.sl.set s0 (v0+1) } }:=sm8.put hg9 (.inr (by simp[gV,hga])) (fun x hx => .inl hx);have bx:=bu bx8 hgk8 (by decide) hg9;have fx1:=bu fx8 hgk8 (by decide) hg9;have hkx:Hid (¬mE b ({ Sn with H:={ Sn.H with sl:=Sn.H.sl.set s0 (v0+1) } }:MW) gf):=hkf;have hkgx:Hid (¬mE b ({ Sn with H:={ Sn.H with sl:=Sn.H.sl.set s0 (v0+1) } }:MW) gx):=hkgx;have hT2:({ Sn with H:={ Sn.H with sl:=Sn.H.sl.set s0 (v0+1) } }:MW).T.length=2:=hTSn;have h64a:(eP ({ Sn with H:={ Sn.H with sl:=Sn.H.sl.set s0 (v0+1) } }:MW).T 0).length=64:=h64.out 0 (by decide);have h64b:(eP ({ Sn with H:={ Sn.H with sl:=Sn.H.sl.set s0 (v0+1) } }:MW).T 1).length=64:=h64.out 1 (by decide);have hF12:Hid (IK S5 { ({ Sn with H:={ Sn.H with sl:=Sn.H.sl.set s0 (v0+1) } }:MW) with T:=setL (setL ({ Sn with H:={ Sn.H with sl:=Sn.H.sl.set s0 (v0+1) } }:MW).T 0 n e) 1 n e }∧Bd ({ Sn with H:={ Sn.H with sl:=Sn.H.sl.set s0 (v0+1) } }:MW).H.ma (setL (setL ({ Sn with H:={ Sn.H with sl:=Sn.H.sl.set s0 (v0+1) } }:MW).T 0 n e) 1 n e)∧∀j:Nat,n+1≤j→eU (setL (setL ({ Sn with H:={ Sn.H with sl:=Sn.H.sl.set s0 (v0+1) } }:MW).T 0 n e) 1 n e) 0 j=t0.getD j zEn∧(eU (setL (setL ({ Sn with H:={ Sn.H with sl:=Sn.H.sl.set s0 (v0+1) } }:MW).T 0 n e) 1 n e) 1 j).k=0):=Lib.hid (by
     have hK:=hN.out.1;have hB:=hN.out.2.1;have hL:=hps.out.2;have hE:=xW hB.ok (p:=0) (n:=n) (by omega) hn64;rw[he0'.out] at hE;have hpg:=hps.out.1;rw[nL (by omega)] at hpg;have har:(fq Sn.H.ma 1).ar=(fq Sn.H.ma 0).ar:=by show ((Sn.H.sp.map PS.sp).getD 1 zSp).ar=((Sn.H.sp.map PS.sp).getD 0 zSp).ar;rw[hK.sp,hSp5.out,hsp'.out];rfl
     have h12:=hB.share2 hL hn64 har (by rw[he0'.out];exact hk2) (hN.out.2.2 n (ay _)).2 hpg (by rw[he0'.out];exact hs0);rw[he0'.out,hz0'.out] at h12;exact⟨⟨hK.sp,hK.fi,hK.ct,hK.dk,hK.fl,by show (Sn.H.sl.set s0 (v0+1)).length=_;rw[bI];exact hK.sl⟩,h12,fun j hj=>by show eU (setL (setL Sn.T 0 n e) 1 n e) 0 j=_∧(eU (setL (setL Sn.T 0 n e) 1 n e) 1 j).k=0;rw[rU hB.ok hL hn64 hE _ _ (by omega),rU hB.ok hL hn64 hE _ _ (by omega)];exact hN.out.2.2 j (by omega)⟩)
    clear hm8 sm8 bx8 fx8 hgk8 hb9 hg9 has hga;generalize hSx:({ Sn with H:={ Sn.H with sl:=Sn.H.sl.set s0 (v0+1) } }:MW)=Sx at hx sx hkx hkgx hT2 h64a h64b hF12;obtain⟨gT2,oT2,_,hab2,hgT2B,hkT2,_⟩:=hx.ent (p:=0) (n:=n) (by omega) hn64 h64a;have hgxT:gx≠gT2:=fun e9=>hkgx.out (.inr (by rw[e9];simp[gV,hab2,oB];right;right;right;right;right;right;right;right;rfl));have hgfT:gf≠gT2:=fun e9=>hkx.out (.inr (by rw[e9];simp[gV,hab2,oB];right;right;right;right;right;right;right;right;rfl));go_upto_region 12 with (fail);refine oI 17 [_,_,_,.v (.slice (some ⟨gT2,oT2,none⟩) 2 Sx.cb),_,_,_,_,.v (.slice (some ⟨gT2,oT2,none⟩) 2 Sx.cb),_,.v (.agg (jk e)),.v (.agg (jk e)),_,.v (.pointer (some ⟨gT2,oT2+n*3,none⟩)),.r 14 ((bX fun _=>True)),_,.v (.pointer (some ⟨gT2,oT2+192+n*3,none⟩))] (Lu S Sx { Sx with T:=setL Sx.T 0 n e } B b w gx gf e (fC (cz p0.ar))) aZ (fun _=>⟨⟨bx,fx1⟩,fun _=>⟨hx,sx⟩,fun h=>(by cases h)⟩) (Qk aZ rfl (Qk aZ rfl (Qf aZ b 12 rfl rfl (ag ?u2_1 (Qk aZ rfl (Qk aZ rfl (Qk aZ rfl (Qf aZ b 12 rfl rfl (ag ?u2_2 (Qk aZ rfl (ag ?u2_3 (ag ?u2_4 (Qr aZ (.pointer (some ⟨gT2,oT2,none⟩)) (fun ρ y W hKn=>(bv (i:=0) rfl (aD rfl hKn) (aD rfl hKn) (by decide) underlying75 ents_size)) rfl rfl (ag ?u2_5 (ag ?u2_6 (Qr aZ (.pointer (some ⟨gT2,oT2+192,none⟩)) (fun ρ y W hKn=>(bv (i:=1) rfl (aD rfl hKn) (aD rfl hKn) (by decide) underlying75 ents_size)) rfl rfl (ag ?u2_7 (aB)))))))))))))))))) (fun _=>rfl) rfl ?u2_8
   case' neg=>
    have hx:=hm1;have sx:=sm1;have bx:=bx1;have hkx:=hkf;have hT2:=hTSn;have h64a:=h64.out 0 (by decide);have h64b:=h64.out 1 (by decide);have hF12:Hid (IK S5 { Sn with T:=setL (setL Sn.T 0 n e) 1 n e }∧Bd Sn.H.ma (setL (setL Sn.T 0 n e) 1 n e)∧∀j:Nat,n+1≤j→eU (setL (setL Sn.T 0 n e) 1 n e) 0 j=t0.getD j zEn∧(eU (setL (setL Sn.T 0 n e) 1 n e) 1 j).k=0):=Lib.hid (by
     have hK:=hN.out.1;have hB:=hN.out.2.1;have hL:Sn.H.ma.sp.length=2:=by rw[←hB.ok.len];exact hTSn
     have he0:eU Sn.T 0 n=e:=by rw[(hN.out.2.2 n (ay _)).1];exact he'.out
     have hE:=xW hB.ok (p:=0) (n:=n) (by omega) hn64;rw[he0] at hE;have hk0:e.k=0:=by
      rcases (dw _).1 hE with h9|h9|h9
      ·exact h9.1
      ·exact absurd h9.1 hk1
      ·exact absurd h9.1 hk2
     have h12:=hB.share0 hL hn64 (by rw[he0];exact hk0) (hN.out.2.2 n (ay _)).2;rw[he0] at h12;exact⟨⟨hK.sp,hK.fi,hK.ct,hK.dk,hK.fl,hK.sl⟩,h12,fun j hj=>by rw[rU hB.ok hL hn64 hE _ _ (by omega),rU hB.ok hL hn64 hE _ _ (by omega)];exact hN.out.2.2 j (by omega)⟩)
    generalize hSx:Sn=Sx at hx sx hkx hkgx hT2 h64a h64b hF12;obtain⟨gT2,oT2,_,hab2,hgT2B,hkT2,_⟩:=hx.ent (p:=0) (n:=n) (by omega) hn64 h64a;have hgxT:gx≠gT2:=fun e9=>hkgx.out (.inr (by rw[e9];simp[gV,hab2,oB];right;right;right;right;right;right;right;right;rfl));have hgfT:gf≠gT2:=fun e9=>hkx.out (.inr (by rw[e9];simp[gV,hab2,oB];right;right;right;right;right;right;right;right;rfl));go_upto_region 12 with (fail);refine oI 17 [_,_,_,.v (.slice (some ⟨gT2,oT2,none⟩) 2 Sx.cb),_,_,_,_,.v (.slice (some ⟨gT2,oT2,none⟩) 2 Sx.cb),_,.v (.agg (jk e)),.v (.agg (jk e)),_,.v (.pointer (some ⟨gT2,oT2+n*3,none⟩)),.r 14 ((bX fun _=>True)),_,.v (.pointer (some ⟨gT2,oT2+192+n*3,none⟩))] (Lu S Sx { Sx with T:=setL Sx.T 0 n e } B b w gx gf e (fC (cz p0.ar))) aZ (fun _=>⟨⟨bx,fx1⟩,fun _=>⟨hx,sx⟩,fun h=>(by cases h)⟩) (Qk aZ rfl (Qk aZ rfl (Qf aZ b 12 rfl rfl (ag ?v2_1 (Qk aZ rfl (Qk aZ rfl (Qk aZ rfl (Qf aZ b 12 rfl rfl (ag ?v2_2 (Qk aZ rfl (ag ?v2_3 (ag ?v2_4 (Qr aZ (.pointer (some ⟨gT2,oT2,none⟩)) (fun ρ y W hKn=>(bv (i:=0) rfl (aD rfl hKn) (aD rfl hKn) (by decide) underlying75 ents_size)) rfl rfl (ag ?v2_5 (ag ?v2_6 (Qr aZ (.pointer (some ⟨gT2,oT2+192,none⟩)) (fun ρ y W hKn=>(bv (i:=1) rfl (aD rfl hKn) (aD rfl hKn) (by decide) underlying75 ents_size)) rfl rfl (ag ?v2_7 (aB)))))))))))))))))) (fun _=>rfl) rfl ?v2_8
   case u2_1|v2_1=>
    intro ρ y W L hw hn hLi hLd hb hd;refine eB aZ (fun _ _ h=>h) hb ?_;have E93:=hw 93 2 rfl;have h2:y 2=_:=hd 2 rfl;have hcc:=CB hb (by simp[iQ,setL]);refine aj (.slice (some ⟨gT2,oT2,none⟩) 2 Sx.cb) (ah rfl) (by simp[execOp,go_sem,cZ,E93,h2,hcc,iQ,hab2,hT2]) rfl
   case u2_2|v2_2=>
    intro ρ y W L hw hn hLi hLd hb hd;refine eB aZ (fun _ _ h=>h) hb ?_;have E98:=hw 98 7 rfl;have h7:y 7=_:=hd 7 rfl;have hcc:=CB hb (by simp[iQ,setL]);refine aj (.slice (some ⟨gT2,oT2,none⟩) 2 Sx.cb) (ah rfl) (by simp[execOp,go_sem,cZ,E98,h7,hcc,iQ,hab2,hT2]) rfl
   case u2_3|v2_3=>
    intro ρ y W L hw hn hLi hLd hb hd;refine eB aZ (fun _ _ h=>h) hb ?_;have E4:ρ (.tmp 4) = .pointer (some ⟨gx,0,none⟩):=(hn (.tmp 4) rfl).trans rfl;refine aj (.agg (jk e)) (ah rfl) (dx rfl E4 hb.1.1 underlying89 rfl entry_size3) rfl
   case u2_4|v2_4=>
    intro ρ y W L hw hn hLi hLd hb hd;refine eB aZ (fun _ _ h=>h) hb ?_;have E4:ρ (.tmp 4) = .pointer (some ⟨gx,0,none⟩):=(hn (.tmp 4) rfl).trans rfl;refine aj (.agg (jk e)) (ah rfl) (dx rfl E4 hb.1.1 underlying89 rfl entry_size3) rfl
   case u2_5|v2_5=>
    intro ρ y W L hw hn hLi hLd hb hd;refine eB aZ (fun _ _ h=>h) hb ?_;have E103:=hw 103 12 rfl;have h12:y 12=_:=hd 12 rfl;have E95:=hw 95 4 rfl;have h4:y 4=_:=hd 4 rfl;have hn9:((64:Int)≤(n:Int))=False:=eq_false (by omega);refine aj (.pointer (some ⟨gT2,oT2+n*3,none⟩)) (ah rfl) (by simp[execOp,go_sem,cZ,E103,h12,E95,h4,hn64,hn9]) rfl
   case u2_6|v2_6=>
    intro ρ y W L hw hn hLi hLd hb hd;have E104:=hw 104 13 rfl;have h13:y 13=_:=hd 13 rfl;have E101:=hw 101 10 rfl;have h10:y 10=_:=hd 10 rfl;obtain⟨hm9,hs9⟩:=hb.2.1 hLi;obtain⟨gQ,oQ,curQ,hQ,hQB,hQk,hQs,_,hQw⟩:=hm9.ent (p:=0) (n:=n) (by omega) hn64 h64a;cases (hQ.symm.trans hab2);rw[wL,gM] at hQs hQw;exact nU (ah rfl) (uV _ _ _ rfl gT2 (oT2+n*3) _ (kP e) (E104.trans h13) (E101.trans h10) rfl curQ _ hQk (by rw[eY];exact hQs) (by kernel_rfl) (bR (iL _))) ⟨⟨hb.1.1.grown (aH _ _ _ _) (fun e9=>hgxT (aJ e9).symm),hb.1.2.grown (aH _ _ _ _) (fun e9=>hgfT (aJ e9).symm)⟩,fun h=>(by cases h),fun _=>⟨hQw _ e (hQk.setCells _ _) (aH _ _ _ _),hs9.put (aH _ _ _ _) (.inr (by simp only[gV,hab2];simp[oB];right;right;right;right;right;right;right;right;rfl)) (fun x hx => .inl hx)⟩⟩ trivial
   case u2_7|v2_7=>
    intro ρ y W L hw hn hLi hLd hb hd;refine eB aZ (fun _ _ h=>h) hb ?_;have E105:=hw 105 15 rfl;have h15:y 15=_:=hd 15 rfl;have E100:=hw 100 9 rfl;have h9:y 9=_:=hd 9 rfl;have hn9:((64:Int)≤(n:Int))=False:=eq_false (by omega);refine aj (.pointer (some ⟨gT2,oT2+192+n*3,none⟩)) (ah rfl) (by simp[execOp,go_sem,cZ,E105,h15,E100,h9,hn64,hn9]) rfl
   case u2_8=>
    intro y W9 hbW9 hRW9;clear hRW9;simp only[bT,cZ,bM,bN];obtain⟨⟨bx9,fx9⟩,_,hq9⟩:=hbW9;obtain⟨h9,s9⟩:=hq9 rfl;have hT9:(setL Sx.T 0 n e).length=2:=by unfold setL;rw[bI];exact hT2
    obtain⟨gR,oR',curR,hR,hRB,hRk,hRs,_,hRw⟩:=h9.ent (p:=1) (n:=n) (by show 1<(setL Sx.T 0 n e).length;omega) hn64 (by show (eP (setL Sx.T 0 n e) 1).length=64;rw[rC (by omega),if_neg (by decide)];exact h64b);have hR:Sx.ab=some ⟨gR,oR',none⟩:=hR;cases (hR.symm.trans hab2);rw[zV] at hRs hRw;have hRw':=Lib.hid hRw;clear hRw hq9 hx sx bx fx1
    go_wp2_with (refine aA rfl _ _ _ rfl gT2 (oT2+192+n*3) _ (kP e) rfl rfl rfl _ _ hRk (by rw[eY];exact hRs) (by kernel_rfl) (bR (iL _)) ?_)
    intro w10 hb10 hg10;have h10:=hRw'.out w10 e hb10 hg10;have s10:MS w b S w10 { Sx with T:=setL (setL Sx.T 0 n e) 1 n e }:=s9.put hg10 (.inr (by simp only[gV,hab2];simp[oB];right;right;right;right;right;right;right;right;rfl)) (fun x hx => .inl hx);have fx10:=fx9.grown hg10 (fun e9=>hgfT (aJ e9).symm);clear h9 s9 bx9 fx9 hRk hb10 hg10;go_wp2;go_roundw
    case rel=>exact⟨n+1,_,by omega,by go_num,h10,s10,fx10,hkx,hF12⟩
    case measure=>simp[intOf];omega
   case v2_8=>
    intro y W9 hbW9 hRW9;clear hRW9;simp only[bT,cZ,bM,bN];obtain⟨⟨bx9,fx9⟩,_,hq9⟩:=hbW9;obtain⟨h9,s9⟩:=hq9 rfl;have hT9:(setL Sx.T 0 n e).length=2:=by unfold setL;rw[bI];exact hT2
    obtain⟨gR,oR',curR,hR,hRB,hRk,hRs,_,hRw⟩:=h9.ent (p:=1) (n:=n) (by show 1<(setL Sx.T 0 n e).length;omega) hn64 (by show (eP (setL Sx.T 0 n e) 1).length=64;rw[rC (by omega),if_neg (by decide)];exact h64b);have hR:Sx.ab=some ⟨gR,oR',none⟩:=hR;cases (hR.symm.trans hab2);rw[zV] at hRs hRw;have hRw':=Lib.hid hRw;clear hRw hq9 hx sx bx fx1
    go_wp2_with (refine aA rfl _ _ _ rfl gT2 (oT2+192+n*3) _ (kP e) rfl rfl rfl _ _ hRk (by rw[eY];exact hRs) (by kernel_rfl) (bR (iL _)) ?_)
    intro w10 hb10 hg10;have h10:=hRw'.out w10 e hb10 hg10;have s10:MS w b S w10 { Sx with T:=setL (setL Sx.T 0 n e) 1 n e }:=s9.put hg10 (.inr (by simp only[gV,hab2];simp[oB];right;right;right;right;right;right;right;right;rfl)) (fun x hx => .inl hx);have fx10:=fx9.grown hg10 (fun e9=>hgfT (aJ e9).symm);clear h9 s9 bx9 fx9 hRk hb10 hg10;go_wp2;go_roundw
    case rel=>exact⟨n+1,_,by omega,by go_num,h10,s10,fx10,hkx,hF12⟩
    case measure=>simp[intOf];omega
  have hni:¬(n:Int)<64:=by omega
  go_wp2;refine bodyPost_ret (v:=.tuple #[]) (by simp[results,go_sem,results34]) rfl ?_;have hK:=hN.out.1;have hM:=hmore.out;refine⟨Sn,rfl,hm,hs,⟨hN.out.2.1,fun p hp n g hg => ?_,hK.fi.trans hM.fi,hK.ct.trans hM.ct,hK.dk.trans hM.dk,by rw[hK.sp];exact hM.sp,hK.fl.trans hM.fs⟩⟩;rw[hK.sp] at hp;rw[hK.fi];exact hM.fm p hp n g hg
theorem Kg (t:Tb) (cs:Array Value) (w:World) (h:EE w cs t):Calls Tryz.prog 86 #[.agg cs] w fun r w'=>r = .returned (.int .i64 (cK t))∧Below w.heap.size w w':=by
  go_enter func86,ntmps86;go_upto_region 1 with (fail);refine gI (fun W=>Code.wp _ _ _ _ W) fun W0 hb0 hx0 hs0 => ?_;clear hs0
  go_wp2_with (refine fQ rfl 53 (.tmp 1) rfl w.heap.size 0 rfl cs.toList hx0.rd _ underlying53 tab_agg (by rw[iC,h.sz];exact tab_size) ?_)
  clear hx0
  go_loopw [9] (fun i wr => ∃k:Nat,k≤8∧i = .int .i64 k∧Below w.heap.size w wr∧∀i (hi:i<8),i<k→lD t[i]=0) (fun i _=>8-(intOf i).toNat)
  case atStart=>exact⟨0,aS _,rfl,hb0,fun i _ h=>absurd h (dO _)⟩
  case round=>
    obtain⟨k,hk,rfl,hbr,hp0⟩:=hrel;have hp:=Lib.hid hp0;clear hp0 hb0
    by_cases hlt:k<8
    · obtain⟨a,c,hcs,hle,hmx,hnil,hrd⟩:=h.at' k hlt;have hix:=fun W=>Cf hlt hcs W;have hd8:decide ((k:Int)<8)=true:=by simp;omega
      unfold maxLen at hmx;clear hcs
      by_cases h08:t[k].length=0∨t[k].length=8
      · have H08:=Lib.hid h08;have hl8:t[k].length≤8:=by omega
        have q1:((t[k].length:Int) != 0)=true∧((t[k].length:Int) != 8)=false∨((t[k].length:Int) != 0)=false∧((t[k].length:Int) != 8)=true:=by rcases h08 with e|e<;>simp[e]
        clear h08;rcases q1 with ⟨q1,q2⟩|⟨q1,q2⟩
        all_goals
          go_wp2;clear hix
          go_loopw [22,5] (fun i s wr' => ∃j c:Nat,j≤t[k].length∧c≤j∧i = .int .i64 j∧s = .int .i64 c∧Below w.heap.size w wr'∧Hid (c=0↔xE t[k] j=false)∧∀i (hi:i<t[k].length),i<j→eQ t[k][i]=0) (fun i _ _=>t[k].length-(intOf i).toNat)
          case atStart=>exact⟨0,0,aS _,ay _,rfl,rfl,hbr,Lib.hid (by simp[OY]),fun i _ h=>absurd h (dO _)⟩
          case round=>
            obtain⟨j,n,hj,hnj,rfl,rfl,hbq,hn0,hq0⟩:=hrel;have hq:=Lib.hid hq0;clear hq0 hbr
            by_cases hjl:j<t[k].length
            · obtain⟨b,off,rfl,c0,c1,c2⟩:=EZ (hrd.below hbq) j hjl;go_upto_region 10 with (fail);refine gI (fun W=>Code.wp _ _ _ _ W) fun W3 hb3 hx3 hs3 => ?_;have hbel3:=ae hbq hb3;have hx4:=hx3.cell;have hfin:Hid (eQ t[k][j]≠0→cK t=eQ t[k][j]):=Lib.hid (fun he=>(qF k hlt hp.out (by rw[ze H08.out j hjl hq.out he];exact he)).trans (ze H08.out j hjl hq.out he));have hok:Hid (eQ t[k][j]=0→∀i (hi:i<t[k].length),i<j+1→eQ t[k][i]=0):=Lib.hid (fun he=>lH hq.out hjl he);have hai:Hid (0≤t[k][j].k→((0<t[k][j].k)→(n+1=0↔xE t[k] (j+1)=false))∧(¬0<t[k][j].k→(n=0↔xE t[k] (j+1)=false))):=Lib.hid (RQ hjl hn0.out);clear hbq hs3 c0 c1 c2 hb3 hx3 hq hp hn0;generalize t[k][j]=E at hx4 hfin hok hai;go_wp2
              all_goals first
                | (go_ret
                   refine⟨aR ?_,hbel3⟩;clear hx4 hok hai
                   go_light
                   have he:eQ E≠0→cK t=eQ E:=hfin.out;clear hfin;unfold eQ at he
                   simp_all<;>omega)
                | (have he:eQ E=0:=by
                     clear hx4 hok hai hfin
                     go_light
                     unfold eQ
                     simp_all<;>omega
                   have hk0:0≤E.k:=by
                     clear hx4 hok hai hfin he
                     go_light
                     omega
                   have hq2:=Lib.hid (hok.out he);have ha2:=Lib.hid (hai.out hk0);clear hai hok hfin he hx4;have hkp:0<E.k:=by
                     go_light
                     omega
                   have ha3:=Lib.hid (ha2.out.1 hkp);clear ha2;go_roundw
                   case rel=>exact⟨j+1,n+1,by omega,by omega,by go_num,by go_num,hbel3,ha3,hq2.out⟩
                   case measure=>simp[intOf];omega)
                | (have he:eQ E=0:=by
                     clear hx4 hok hai hfin
                     go_light
                     unfold eQ
                     simp_all<;>omega
                   have hk0:0≤E.k:=by
                     clear hx4 hok hai hfin he
                     go_light
                     omega
                   have hq2:=Lib.hid (hok.out he);have ha2:=Lib.hid (hai.out hk0);clear hai hok hfin he hx4;have hkp:¬0<E.k:=by
                     go_light
                     omega
                   have ha3:=Lib.hid (ha2.out.2 hkp);clear ha2;go_roundw
                   case rel=>exact⟨j+1,n,by omega,by omega,by go_num,rfl,hbel3,ha3,hq2.out⟩
                   case measure=>simp[intOf];omega)
            have hend:=Lib.hid (wH H08.out fun i hi=>hq.out i hi (by omega));have hall:=Ko t[k] j (by omega)
            by_cases hgo:t[k].length=8∧n=0
            · obtain⟨g1,g2⟩:=hgo;have hfin2:=Lib.hid (hend.out.trans (if_pos ⟨by omega,by rw[←hall];exact hn0.out.1 g2⟩));have hfin:=Lib.hid (qF k hlt hp.out (by rw[hfin2.out];decide));have g3:((t[k].length:Int)==8)=true:=by rw[beq_iff_eq];omega
              subst g2;clear hall g1;go_wp2;go_ret;exact⟨aR (hfin.out.trans hfin2.out).symm,hbq⟩
            have hfin2:=Lib.hid (hend.out.trans (if_neg (fun h=>hgo ⟨by have:=H08.out;omega,hn0.out.2 (hall.trans h.2)⟩)));have hgo2:((t[k].length:Int)==8)=false∨((t[k].length:Int)==8)=true∧((n:Int)==0)=false:=by
              by_cases hz:t[k].length=8
              · exact .inr ⟨by rw[beq_iff_eq];omega,by rw[beq_eq_false_iff_ne];omega⟩
              · exact .inl (by rw[beq_eq_false_iff_ne];omega)
            clear hgo hall;rcases hgo2 with g1|⟨g1,g2⟩
            all_goals
              go_wp2;go_roundw
              case rel=>exact⟨k+1,by omega,by go_num,hbq,lH hp.out hlt hfin2.out⟩
              case measure=>simp[intOf];omega
      have q1:((t[k].length:Int) != 0)=true:=by rw[bne_iff_ne];omega
      have q2:((t[k].length:Int) != 8)=true:=by rw[bne_iff_ne];omega
      have hfin2:=Lib.hid (yl (h:=t[k]) (by omega));have hfin:=Lib.hid (qF k hlt hp.out (by rw[hfin2.out];decide));go_wp2;go_ret;exact⟨aR (hfin.out.trans hfin2.out).symm,hbr⟩
    have hfin:=Lib.hid (vS fun i hi=>hp.out i hi (by omega));go_wp2;go_ret;exact⟨aR hfin.out.symm,hbr⟩
theorem Vv (f g:En) (b:Bool) (h:(f==g)=b) (W:World):(Op.equalIn 10000 89 (.agg #[.int .i64 f.k,.int .i64 f.n,.bool f.w]) (.agg #[.int .i64 g.k,.int .i64 g.n,.bool g.w])).run Tryz.prog W = .ok b W:=by
 rw[←h,Vo]
 by_cases h1:(f.k==g.k)=true
 ·by_cases h2:(f.n==g.n)=true
  ·by_cases h3:f.w=g.w<;>simp[go_sem,h1,h2,h3]
  ·simp[go_sem,h1,h2]
 ·simp[go_sem,h1]
theorem Oi (t u:Tb) (cs ds:Array Value) (w:World) (h:EE w cs t) (h' : EE w ds u):Calls Tryz.prog 47 #[.agg cs,.agg ds] w fun r w'=>r = .returned (.bool (Fa t u))∧Below w.heap.size w w':=by
 go_enter func47,ntmps47;go_upto_region 1 with (fail);refine qH (fun W=>Code.wp _ _ _ _ W) fun W0 hb0 hx0 hy0 hs0 => ?_;clear hs0;go_wp2
 go_loopw [7] (fun i wr => ∃k:Nat,k≤8∧i = .int .i64 k∧Below w.heap.size w wr∧aC wr w.heap.size cs 53∧aC wr (w.heap.size+1) ds 53∧∀i (hi:i<8),i<k→t[i]=u[i]) (fun i _=>8-(intOf i).toNat)
 case atStart=>exact⟨0,aS _,rfl,hb0,hx0,hy0,fun i _ h=>absurd h (dO _)⟩
 case round=>
  obtain⟨k,hk,rfl,hbr,hx,hy,hp0⟩:=hrel;have hp:=Lib.hid hp0;clear hp0 hb0 hx0 hy0
  by_cases hlt:k<8
  ·obtain⟨a,c,hcs,hle,hmx,hnil,hrd⟩:=h.at' k hlt;obtain⟨a',c',hds,hle',hmx',hnil',hrd'⟩:=h'.at' k hlt;have hd8:decide ((k:Int)<8)=true:=by simp;omega
   have hk8:(k:Int)<8:=by omega
   unfold maxLen at hmx hmx';have HC:=Lib.hid hcs;have HD:=Lib.hid hds;have hcx:=(hx.cell k).trans hcs;have hcy:=(hy.cell k).trans hds;clear hcs hds
   by_cases hl:t[k].length=u[k].length
   ·have hl':=Lib.hid hl;have hne:((t[k].length:Int) != (u[k].length:Int))=false:=by simp[hl]
    clear hl
    go_wp2_with fail
    go_quiet (fail);go_wp2;clear hcx hcy;generalize hW1:wr.drewN _=w1;have hbr1:Below w.heap.size w w1:=by rw[←hW1];exact below_drewN hbr _
    have hx1:aC w1 w.heap.size cs 53:=by rw[←hW1];exact hx.drewN _
    have hy1:aC w1 (w.heap.size+1) ds 53:=by rw[←hW1];exact hy.drewN _
    clear hW1 hbr hx hy
    go_loopw [23] (fun i wr => ∃j:Nat,j≤t[k].length∧i = .int .i64 j∧Below w.heap.size w wr∧aC wr w.heap.size cs 53∧aC wr (w.heap.size+1) ds 53∧∀i (hi:i<t[k].length),i<j→t[k][i]=u[k][i]'(by have:=hl'.out;omega)) (fun i _=>t[k].length-(intOf i).toNat)
    case atStart=>exact⟨0,aS _,rfl,hbr1,hx1,hy1,fun i _ h=>absurd h (dO _)⟩
    case round=>
     obtain⟨j,hj,rfl,hbr,hx,hy,hq0⟩:=hrel;have hq:=Lib.hid hq0;clear hq0 hbr1 hx1 hy1;have hcx:=(hx.cell k).trans HC.out;have hcy:=(hy.cell k).trans HD.out
     by_cases hjl:j<t[k].length
     ·have hjl' : j<u[k].length:=by have:=hl'.out;omega
      have k1:(j:Int)<(u[k].length:Int):=by omega
      obtain⟨b,off,rfl,c0,c1,c2⟩:=EZ (hrd.below hbr) j hjl;obtain⟨b',off',rfl,d0,d1,d2⟩:=EZ (hrd'.below hbr) j hjl'
      by_cases he:t[k][j]=u[k][j]
      ·have hE:=Vv t[k][j] u[k][j] true (beq_iff_eq.2 he);have he':=Lib.hid he;clear he
       go_wp2_with fail
       go_quiet (fail);go_wp2;go_roundw
       case rel=>exact⟨j+1,by omega,by go_num,below_drewN hbr _,hx.drewN _,hy.drewN _,Sg hl'.out hjl hq.out he'.out⟩
       case measure=>simp[intOf];omega
      have hE:=Vv t[k][j] u[k][j] false (beq_eq_false_iff_ne.2 he);have hfin:=Lib.hid (FV k hlt (NE j hjl hjl' he));clear he
      go_wp2_with fail
      go_quiet (fail);go_wp2;go_ret;exact⟨bH hfin.out.symm,below_drewN hbr _⟩
     have hall:=Lib.hid (lH hp.out hlt (KJ hl'.out j hjl hq.out));go_wp2;go_roundw
     case rel=>exact⟨k+1,by omega,by go_num,hbr,hx,hy,hall.out⟩
     case measure=>simp[intOf];omega
   have hne:((t[k].length:Int) != (u[k].length:Int))=true:=by rw[bne_iff_ne];omega
   have hfin:=Lib.hid (FV k hlt (fun e=>hl (by rw[e])));clear hl
   go_wp2_with fail
   go_quiet (fail);go_wp2;go_ret;exact⟨bH hfin.out.symm,below_drewN hbr _⟩
  have hfin:=Lib.hid (ES fun i hi=>hp.out i hi (by omega));go_wp2;go_ret;exact⟨bH hfin.out.symm,hbr⟩
def wB (l:List En):Array Value:=(l.flatMap kP).toArray
theorem tX (l:List En):(wB l).size=l.length*3:=by
 unfold wB;rw[List.size_toArray,sI]
theorem TC (l:List En) (k:Nat) (hk:k<l.length) (x:En):bA (wB l) (k*3) (kP x)=wB (l.set k x):=by
 apply mg;intro i;have hl:=sI l;have hl':=sI (l.set k x);rw[bI] at hl'
 by_cases hi:i<l.length*3
 ·have hq:i / 3<l.length:=by omega
  have hir:i=i / 3*3+i%3:=by omega
  have h2:=ji kP 3 eY (l.set k x) (i / 3) (by simpa using hq) (i%3) (by omega);rw[←hir] at h2;have h3:=ji kP 3 eY l (i / 3) hq (i%3) (by omega);rw[←hir] at h3;have e2:(wB (l.set k x))[i]?=((l.set k x).flatMap kP)[i]?:=by simp[wB]
  have e3:(wB l)[i]?=(l.flatMap kP)[i]?:=by simp[wB]
  by_cases e:i / 3=k
  ·have hik:i=k*3+i%3:=by omega
   have hlt:i%3<(kP x).length:=by rw[eY];omega
   have h1:=putAt_in (kP x) (wB l) (k*3) (i%3) (kP x)[i%3] (by rw[eY,tX];omega) (aG hlt);rw[←hik] at h1;rw[h1,e2,h2];simp only[e,GR];exact (aG hlt).symm
  rw[putAt_out _ _ _ _ (by rw[eY];omega),e2,h2,e3,h3];congr 2;rw[Aa (fun h=>e h.symm)]
 ·rw[kX (by rw[size_putAt,tX];omega),kX (by rw[tX,bI];omega)]
theorem arr64_size:(Tryz.prog.info? 90).map (·.size)=some 192:=by kernel_rfl
theorem Tc (h:aC w b (bA cur 0 (kP E)) T) (hc:cur.size=3):aC w b (jk E) T:=by
 have:bA cur 0 (jk E).toList=jk E:=iO cur (jk E) (by rw[hc];rfl);have h2:aC w b (bA cur 0 (jk E).toList) T:=h;rwa [this] at h2
theorem FN (t:Tb) (cs:Array Value) (w:World) (h:EE w cs t) (h0:cK t=0):Calls Tryz.prog 50 #[.agg cs] w fun r w'=>r = .returned (.agg (wB (dB t)))∧Below w.heap.size w w':=by
 have H0:=Lib.hid h0;clear h0;go_enter func50,ntmps50;go_upto_region 2 with (fail);refine Ld (fun W=>Code.wp _ _ _ _ W) fun W0 hb0 hx0 hres0 ho0 hs0 => ?_;clear hs0;replace ho0:aC W0 (w.heap.size+2) (wB (List.replicate 64 zEn)) 90:=ho0;replace hres0:aC W0 (w.heap.size+1) (wB (List.replicate 64 zEn)) 90:=hres0
 go_wp2_with (refine fQ rfl 53 (.tmp 1) rfl w.heap.size 0 rfl cs.toList hx0.rd _ underlying53 tab_agg (by rw[iC,h.sz];exact tab_size) ?_)
 have hF0:Hid (Kr t (8*0) (List.replicate 64 zEn)):=Lib.hid Kr.start;clear hx0;have hF0':=hF0;rw[Nat.mul_zero] at hF0
 go_loopw [9] (fun i wr => ∃(k:Nat) (l:List En),k≤8∧i = .int .i64 k∧Below w.heap.size w wr∧aC wr (w.heap.size+2) (wB l) 90∧aC wr (w.heap.size+1) (wB (List.replicate 64 zEn)) 90∧Hid (Kr t (8*k) l)) (fun i _=>8-(intOf i).toNat)
 case atStart=>exact⟨0,_,aS _,rfl,hb0,ho0,hres0,hF0'⟩
 case round=>
  obtain⟨k,l,hk,rfl,hbr,ho,hres,hF⟩:=hrel;clear hb0 ho0 hres0 hF0 hF0'
  by_cases hlt:k<8
  ·obtain⟨a,c,hcs,hle,hmx,hnil,hrd⟩:=h.at' k hlt;have hix:=fun W=>Cf hlt hcs W;have hd8:decide ((k:Int)<8)=true:=by simp;omega
   have hl8:=Lib.hid (oD (kU H0.out k hlt));have hl9:t[k].length≤8:=by have:=hl8.out;omega
   unfold maxLen at hmx;clear hcs;go_wp2;clear hix
   go_loopw [15] (fun i wr' => ∃(j:Nat) (l' : List En),j≤t[k].length∧i = .int .i64 j∧Below w.heap.size w wr'∧aC wr' (w.heap.size+2) (wB l') 90∧aC wr' (w.heap.size+1) (wB (List.replicate 64 zEn)) 90∧Hid (Kr t (8*k+j) l')) (fun i _=>t[k].length-(intOf i).toNat)
   case atStart=>exact⟨0,l,aS _,rfl,hbr,ho,hres,hF⟩
   case round=>
    obtain⟨j,l',hj,rfl,hbq,ho2,hres2,hF2⟩:=hrel;clear hbr ho hres
    by_cases hjl:j<t[k].length
    ·obtain⟨b,off,E,rfl,hE,c0,c1,c2⟩:=Rw (hrd.below hbq) j hjl;have hgE:=Lib.hid (EQ hlt (by omega) (by have:=hl8.out;omega) hE);have hm1:(8:Int)*(k:Int)+(j:Int)<64:=by omega
     have hF3:=Lib.hid (hF2.out.step (by omega) hgE.out);have hfit:Hid ((8*k+j)*3+3≤(wB l').size):=Lib.hid (by rw[tX,hF2.out.len];omega);have hset:Hid (bA (wB l') ((8*k+j)*3) (kP E)=wB (l'.set (8*k+j) E)):=Lib.hid (TC l' _ (by rw[hF2.out.len];omega) E);clear hE hgE hF2
     go_wp2_with (refine aA rfl _ (.tmp 7) (.tmp 19) rfl wr.heap.size 0 _ (kP E) rfl rfl rfl _ _ (aC.new _ _ _) (ay 3) entry_size (Ad E) ?_)
     intro w4 hx4 hgr4;have hx4':=Tc hx4 rfl;have hlt0:=ho2.lt;have ho4:aC w4 (w.heap.size+2) _ _:=(ho2.alloc _).grown hgr4 (fun e=>by have:=aJ e;omega);have hres4:aC w4 (w.heap.size+1) _ _:=(hres2.alloc _).grown hgr4 (fun e=>by have:=aJ e;omega);have hbel4:Below w.heap.size w w4:=(hbq.alloc hbq.size _).grown hgr4 (bV hbq.size _) (fun k hk=>by cases hk;exact hbq.size);clear hx4 ho2 hres2 hbq hgr4
     go_wp2_with (first | (refine fQ rfl 89 (.tmp 7) rfl wr.heap.size 0 rfl (kP E) hx4'.rd _ underlying89 rfl entry_size ?_) | (refine aA rfl _ (.tmp 25) (.tmp 24) rfl (w.heap.size+2) ((8*k+j)*3) _ (kP E) rfl rfl rfl _ _ ho4 hfit.out entry_size (Ad E) ?_))
     intro w5 ho5 hgr5;rw[hset.out] at ho5;have hres5:aC w5 (w.heap.size+1) _ _:=hres4.grown hgr5 (fun e=>by have:=aJ e;omega);have hbel5:Below w.heap.size w w5:=hbel4.grown hgr5 hbel4.size (fun k hk=>by cases hk;omega);clear ho4 hres4 hbel4 hgr5 hset hfit hx4' c0 c1 c2;go_wp2;go_roundw
     case rel=>exact⟨j+1,_,by omega,by go_num,hbel5,ho5,hres5,hF3⟩
     case measure=>simp[intOf];omega
    have hF3:Hid (Kr t (8*(k+1)) l'):=by
     rcases hl8.out with e|e
     ·have e0:j=0:=by omega
      subst e0;exact Lib.hid (Kr.skip hF2.out hlt e)
     have e8:j=8:=by omega
     subst e8;exact hF2
    go_wp2;go_roundw
    case rel=>exact⟨k+1,l',by omega,by go_num,hbq,ho2,hres2,hF3⟩
    case measure=>simp[intOf];omega
  obtain rfl:k=8:=by omega
  obtain rfl:l=dB t:=hF.out.fin;have hlen:(dB t).length=64:=by simp[dB]
  have hs192:Hid ((wB (dB t)).size=192):=Lib.hid (by rw[tX,hlen]);have hone:(wB (dB t)).all (·.oneCell')=true:=by rw[←ky,dL];intro u hu;exact Bo (dB t) u (by simpa[wB] using hu)
  clear hF hlen
  go_wp2_with (first | (refine fQ rfl 90 (.tmp 3) rfl (w.heap.size+2) 0 rfl (wB (dB t)).toList ho.rd _ underlying90 rfl (by rw[iC,hs192.out];exact arr64_size) ?_) | (refine az rfl _ (.tmp 2) (.tmp 28) rfl (w.heap.size+1) (wB (dB t)) rfl rfl _ _ hres (by rw[hs192.out];rfl) (by rw[hs192.out];exact arr64_size) hone ?_))
  intro w5 hr5 hgr5;have hbel5:Below w.heap.size w w5:=hbr.grown hgr5 hbr.size (fun k hk=>by cases hk;omega);go_wp2;refine bodyPost_ret (v:=.agg (wB (dB t))) (eu results50 _ _ (w.heap.size+1) _ _ _ rfl hr5 underlying90 rfl (by rw[hs192.out];exact arr64_size)) rfl ?_;exact⟨rfl,hbel5⟩
theorem qD.app {t:Tb} (h:qD w B cs t) (hq:q<8) {l:List En} (hv:cs[q]?=some v) (ho:Own w' B 89 3 v' l.length (l.flatMap kP)) (hgr:w.grownBy w' v.ownBlock)
 (hc:v'.ownBlock=v.ownBlock∨∀g,v'.ownBlock=some g→w.heap.size≤g):qD w' B (cs.setIfInBounds q v') (t.set q l) where
 sz:=by simp[h.sz]
 own:=fun k hk=>by
  by_cases e:k=q
  ·subst e;exact⟨v',by rw[qP (by rw[h.sz];exact hk)],by simpa using ho⟩
  obtain⟨u,h1,h2⟩:=h.own k hk;refine⟨u,by rw[fK (fun e2=>e e2.symm)];exact h1,?_⟩;rw[wO hq hk (fun e2=>e e2.symm)];refine h2.grown hgr fun g hg he => ?_;rcases uJ e with hlt|hlt
  ·exact h.apart k q u v hlt h1 hv g hg he
  ·exact h.apart q k v u hlt hv h1 g he hg
 apart:=fun j k x y hjk hx hy g hgx hgy=>by
  have key:∀j u,j≠q→cs[j]?=some u→v'.ownBlock=some g→u.ownBlock=some g→False:=by
   intro j u hjq hu hg hgu;have hj8:j<8:=by
    rcases fA j 8 with hk|hk
    ·exact hk
    ·rw[kX (by rw[h.sz];exact hk)] at hu;cases hu
   obtain⟨u',h1,h2⟩:=h.own j hj8;rw[hu] at h1;cases h1;rcases hc with hc|hc
   ·rw[hc] at hg;rcases uJ hjq with hlt|hlt
    ·exact h.apart j q u v hlt hu hv g hgu hg
    ·exact h.apart q j v u hlt hv hu g hg hgu
   have h3:=hc g hg;have h4:=Lh h2 g hgu;omega
  by_cases e:j=q
  ·subst e;rw[qP (by rw[h.sz];exact hq)] at hx;cases hx;rw[fK (by omega)] at hy;exact key k y (by omega) hy hgx hgy
  rw[fK (fun e2=>e e2.symm)] at hx
  by_cases e2:k=q
  ·subst e2;rw[qP (by rw[h.sz];exact hq)] at hy;cases hy;exact key j x e hx hgy hgx
  rw[fK (fun e3=>e2 e3.symm)] at hy;exact h.apart j k x y hjk hx hy g hgx hgy
theorem Sz {l:List En} (h:aC w b (wB l) T) (hE:l[k]?=some E):dN w (some ⟨b,k*3,none⟩) (kP E):=by
 intro i u hi;refine⟨b,k*3,rfl,?_⟩;rw[h.cell];have hk:k<l.length:=(bW.1 hE).1;have hl:l[k]=E:=(bW.1 hE).2;have:=flat_get kP 3 eY l k hk i u (by rw[hl];exact hi);simpa[wB] using this
theorem Ky (l:List En) (w:World) (hl:l.length=64):Calls Tryz.prog 36 #[.agg (wB l)] w fun r w' => ∃cs,r = .returned (.agg cs)∧qD w' w.heap.size cs (fT l)∧Below w.heap.size w w':=by
 have HLEN:=Lib.hid hl;clear hl;go_enter func36,ntmps36;go_upto_region 2 with (fail);refine Ld (fun W=>Code.wp _ _ _ _ W) fun W0 hb0 hx0 hres0 ho0 hs0 => ?_;clear hs0;have hO0:qD W0 w.heap.size #[.slice none 0 0,.slice none 0 0,.slice none 0 0,.slice none 0 0,.slice none 0 0,.slice none 0 0,.slice none 0 0,.slice none 0 0] zTb:=zQ _ _;have hT0:Hid (EL l 0 [] zTb):=Lib.hid EL.start;go_wp2
 go_loopw [8] (fun i wr => ∃(k:Nat) (ca:Array Value) (t:Tb),k≤8∧i = .int .i64 k∧Below w.heap.size w wr∧aC wr w.heap.size (wB l) 90∧aC wr (w.heap.size+1) #[.slice none 0 0,.slice none 0 0,.slice none 0 0,.slice none 0 0,.slice none 0 0,.slice none 0 0,.slice none 0 0,.slice none 0 0] 53∧aC wr (w.heap.size+2) ca 53∧qD wr w.heap.size ca t∧Hid (EL l k [] t)) (fun i _=>8-(intOf i).toNat)
 case atStart=>exact⟨0,_,_,aS _,rfl,hb0,hx0,hres0,ho0,hO0,hT0⟩
 case round=>
  obtain⟨k,ca,t,hk,rfl,hbr,hx,hres,ho,hO,hT⟩:=hrel;clear hb0 hx0 hres0 ho0 hO0 hT0
  by_cases hlt:k<8
  ·have hd8:decide ((k:Int)<8)=true:=by simp;omega
   go_wp2
   go_loopw [6,5] (fun i s wr' => ∃(j:Nat),j≤8∧i = .int .i64 j∧s = .bool (xI l k j)∧wr' = wr) (fun i _ _=>8-(intOf i).toNat)
   case atStart=>exact⟨0,aS _,rfl,rfl,rfl⟩
   case round=>
    obtain⟨j,hj,rfl,rfl,rfl⟩:=hrel
    by_cases hjl:j<8
    ·have hd9:decide ((j:Int)<8)=true:=by simp;omega
     obtain⟨E,hE,hP⟩:=JA HLEN.out hlt hjl;have hcE:=(Sz hx hE) 0 (.int .i64 E.k) rfl;obtain⟨_,_,e1,hc0⟩:=hcE;simp only[iM,vC,and_true] at e1;obtain⟨rfl,rfl⟩:=e1;rw[gM] at hc0;have hm1:(8:Int)*(k:Int)+(j:Int)<64:=by omega
     have hst:Hid (xI l k (j+1)=(xI l k j||decide (0<E.k))):=Lib.hid (by unfold xI;rw[hP,List.any_append];simp[Hw]);clear hE hP;cases hs:xI l k j
     all_goals
      rw[hs] at hst;go_wp2;go_roundw
      case rel=>exact⟨j+1,by omega,by go_num,by rw[hst.out];first | rfl | (congr 1;rw[lS];simp),trivial⟩
      case measure=>simp[intOf];omega
    obtain rfl:j=8:=by omega
    rw[show ((8:Nat):Int)=8 from rfl];cases hsome:xI l k 8
    ·have hhalf:=Lib.hid (Tj hsome);clear hsome;go_wp2
     go_loopw [7] (fun i wr'=>i = .int .i64 0∧wr' = wr) (fun _ _=>0)
     case atStart=>exact⟨rfl,rfl⟩
     case round=>
      obtain⟨rfl,rfl⟩:=hrel;have hTn:Hid (EL l (k+1) [] t):=Lib.hid (EL.next (by rw[hhalf.out];exact hT.out) hlt);go_wp2;go_roundw
      case rel=>exact⟨k+1,ca,t,by omega,by go_num,hbr,hx,hres,ho,hO,hTn⟩
      case measure=>simp[intOf];omega
    have hhalf:=Lib.hid (QH hsome);clear hsome;have hT0:Hid (EL l k ((l.drop (8*k)).take 0) t):=hT;go_wp2
    go_loopw [7] (fun i wr' => ∃(j:Nat) (ca' : Array Value) (t' : Tb),j≤8∧i = .int .i64 j∧Below w.heap.size w wr'∧aC wr' w.heap.size (wB l) 90∧aC wr' (w.heap.size+1) #[.slice none 0 0,.slice none 0 0,.slice none 0 0,.slice none 0 0,.slice none 0 0,.slice none 0 0,.slice none 0 0,.slice none 0 0] 53∧aC wr' (w.heap.size+2) ca' 53∧qD wr' w.heap.size ca' t'∧Hid (EL l k ((l.drop (8*k)).take j) t')) (fun i _=>8-(intOf i).toNat)
    case atStart=>exact⟨0,ca,t,aS _,rfl,hbr,hx,hres,ho,hO,hT0⟩
    case round=>
     obtain⟨j,ca',t',hj,rfl,hbr2,hx2,hres2,ho2,hO2,hT2⟩:=hrel;clear hbr hx hres ho hO hT hT0
     by_cases hjl:j<8
     ·have hd9:decide ((j:Int)<8)=true:=by simp;omega
      obtain⟨E,hE,hP⟩:=JA HLEN.out hlt hjl;have hrE:=Sz hx2 hE;have hm1:(8:Int)*(k:Int)+(j:Int)<64:=by omega
      have hm0:¬(8:Int)*(k:Int)+(j:Int)<0:=by omega
      have hk8:(k:Int)<8:=by omega
      have hmul:IntKind.i64.wrap (8*(k:Int))=8*(k:Int):=bJ _ (by omega);have hadd:IntKind.i64.wrap (8*(k:Int)+(j:Int))=8*(k:Int)+(j:Int):=bJ _ (by omega);have hnn:(8*(k:Int)+(j:Int)).toNat=8*k+j:=by omega
      have hP':=Lib.hid hP;obtain⟨v,hv,hown⟩:=hO2.own k hlt;have hv':=Lib.hid hv;have hpl:t'[k].length=j:=by rw[hT2.out.at' hlt];exact Dt HLEN.out hlt (by omega)
      obtain⟨xa,xc,rfl,hxle,hxmx,hxnil,hxrd⟩:=hown.rd;have HE:=Lib.hid hE;clear hE hP hv;go_upto_region 13 with (fail);refine JB 11 12 [(0,.int .i64 k)] [anyR,uy (.int .i64 k),uy (.pointer (some ⟨w.heap.size+2,k,none⟩)),uy (.slice xa t'[k].length xc),uy (.int .i64 k),uy (.int .i64 (8*(k:Int))),uy (.int .i64 j),uy (.int .i64 (8*(k:Int)+(j:Int))),uy (.pointer (some ⟨w.heap.size,(8*k+j)*3,none⟩)),uy (.agg (jk E)),(Wy 1 (kP E))] (by kernel_rfl) (by kernel_rfl) (by kernel_rfl) (by kernel_rfl) (by kernel_rfl) (by kernel_rfl) (by decide) (by decide) _ rfl (by kernel_rfl) (ag ?_ (ag ?_ (ag ?_ (ag ?_ (ag ?_ (ag ?_ (ag ?_ (ag ?_ (ag ?_ (ag ?_ (ag ?_ (aB)))))))))))) (aB) rfl ?_
      ·refine PG rfl ?_;intro ρ y W hw hn hV;have E4:ρ (.tmp 4) = .int .i64 k:=(hn (.tmp 4) rfl).trans rfl;exact⟨(ah rfl),(run_move (.inl rfl) E4)⟩
      ·refine bD rfl ?_;intro ρ y W hw hn hb hd;have E4:ρ (.tmp 4) = .int .i64 k:=(hn (.tmp 4) rfl).trans rfl;refine aj (.int .i64 k) (ah rfl) (run_move (.inl rfl) E4) rfl
      ·refine bD rfl ?_;intro ρ y W hw hn hb hd;have E3:ρ (.tmp 3) = .pointer (some ⟨w.heap.size+2,0,none⟩):=(hn (.tmp 3) rfl).trans rfl;have E34:=hw 34 1 rfl;have h1:y 1 = .int .i64 k:=hd 1 rfl;refine aj (.pointer (some ⟨w.heap.size+2,k,none⟩)) (ah rfl) (by simp[execOp,go_sem,E3,E34,h1,underlying53,hk8]) rfl
      ·refine bD rfl ?_;intro ρ y W hw hn hb hd;have E35:=hw 35 2 rfl;have h2:y 2 = .pointer (some ⟨w.heap.size+2,k,none⟩):=hd 2 rfl;refine aj (.slice xa t'[k].length xc) (ah rfl) (by simp[execOp,go_sem,E35,h2,(((ho2.ext hb).cell k).trans hv'.out),underlying51]) rfl
      ·refine bD rfl ?_;intro ρ y W hw hn hb hd;have E4:ρ (.tmp 4) = .int .i64 k:=(hn (.tmp 4) rfl).trans rfl;refine aj (.int .i64 k) (ah rfl) (run_move (.inl rfl) E4) rfl
      ·refine bD rfl ?_;intro ρ y W hw hn hb hd;have E37:=hw 37 4 rfl;have h4:y 4 = .int .i64 k:=hd 4 rfl;have EC:∀v,ρ (.const v)=v:=fun v=>hn (.const v) trivial;refine aj (.int .i64 (8*(k:Int))) (ah rfl) (by simp[execOp,go_sem,E37,h4,EC,hmul]) rfl
      ·refine bD rfl ?_;intro ρ y W hw hn hb hd;have E7:ρ (.tmp 7) = .int .i64 j:=(hn (.tmp 7) rfl).trans rfl;refine aj (.int .i64 j) (ah rfl) (run_move (.inl rfl) E7) rfl
      ·refine bD rfl ?_;intro ρ y W hw hn hb hd;have E38:=hw 38 5 rfl;have h5:y 5 = .int .i64 (8*(k:Int)):=hd 5 rfl;have E39:=hw 39 6 rfl;have h6:y 6 = .int .i64 j:=hd 6 rfl;refine aj (.int .i64 (8*(k:Int)+(j:Int))) (ah rfl) (by simp[execOp,go_sem,E38,h5,E39,h6,hadd]) rfl
      ·refine bD rfl ?_;intro ρ y W hw hn hb hd;have E1:ρ (.tmp 1) = .pointer (some ⟨w.heap.size,0,none⟩):=(hn (.tmp 1) rfl).trans rfl;have E40:=hw 40 7 rfl;have h7:y 7 = .int .i64 (8*(k:Int)+(j:Int)):=hd 7 rfl;refine aj (.pointer (some ⟨w.heap.size,(8*k+j)*3,none⟩)) (ah rfl) (by simp[execOp,go_sem,E1,E40,h7,underlying90,hm1,hm0,hnn]) rfl
      ·refine bD rfl ?_;intro ρ y W hw hn hb hd;have E41:=hw 41 8 rfl;have h8:y 8 = .pointer (some ⟨w.heap.size,(8*k+j)*3,none⟩):=hd 8 rfl;refine aj (.agg (jk E)) (ah rfl) (bB rfl (E41.trans h8) (vs:=kP E) (hrE.below hb) underlying89 rfl entry_size) rfl
      ·refine bD rfl ?_;intro ρ y W hw hn hb hd;have E42:=hw 42 9 rfl;have h9:y 9 = .agg (jk E):=hd 9 rfl;refine jL (.slice (some ⟨W.heap.size,0,none⟩) 1 1) (ah rfl) (by simp[execOp,go_sem,E42,h9,jk]) ((Below.refl _ _).alloc (ay _) (.cells (jk E) 89)) ?_;exact⟨_,_,rfl,ay _,by unfold maxLen;omega,fun e=>(by cases e),dN.new _ _ _⟩
      intro ρ y WA o ho hw hn hV hbWA hRWA;cases ho;have hy0:y 0 = .int .i64 k:=hV 0 _ rfl;have hy1:y 1 = .int .i64 k:=hRWA 1 (by decide);have hy2:y 2 = .pointer (some ⟨w.heap.size+2,k,none⟩):=hRWA 2 (by decide);have hy3:y 3 = .slice xa t'[k].length xc:=hRWA 3 (by decide);have hy4:y 4 = .int .i64 k:=hRWA 4 (by decide);have hy5:y 5 = .int .i64 (8*(k:Int)):=hRWA 5 (by decide);have hy6:y 6 = .int .i64 j:=hRWA 6 (by decide);have hy7:y 7 = .int .i64 (8*(k:Int)+(j:Int)):=hRWA 7 (by decide);have hy8:y 8 = .pointer (some ⟨w.heap.size,(8*k+j)*3,none⟩):=hRWA 8 (by decide);have hy9:y 9 = .agg (jk E):=hRWA 9 (by decide);obtain⟨ya10,yc10,hy10,yle10,ymx10,ynil10,yrd10⟩:=hRWA 10 (by decide);have E36:=hw 36 3 rfl;rw[hy3] at E36;have E43:=hw 43 10 rfl;rw[hy10] at E43;have EC:∀v,ρ (.const v)=v:=fun v=>hn (.const v) trivial;have EF:∀f,ρ (.func f) = .func (.func f) #[] #[]:=fun f=>hn (.func f) trivial;refine II (ah rfl) (pz (.tmp 36) (.tmp 43) 51 rfl w.heap.size 89 _ 3 24 underlying51 entry_info rfl (by decide) _ _ _ E36 (hown.below hbWA) ya10 1 yc10 (kP E) E43 ynil10 yle10 rfl yrd10 (Ad E) (by unfold maxLen;omega) (by omega) (aX hbr2.size hbWA.size)) ?_;rintro v2 w4 ⟨hown4,hgr4,hcase4⟩;clear hRWA hw hn hV;simp only[lay,Nat.reduceAdd,Nat.reduceLT,Nat.reduceEqDiff,reduceIte,decide_true,decide_false,if_true,uR,if_false,Cj,qw,ve,zC,BS,zZ,hy0,hy1,hy2,hy3,hy4,hy5,hy6,hy7,hy8,hy9,hy10];clear hy0 hy1 hy2 hy3 hy4 hy5 hy6 hy7 hy8 hy9 hy10;have hbelA:=ae hbr2 hbWA;have hownA:=hown.below hbWA;have ho4:=jY (ho2.ext hbWA) hownA (by decide) hgr4;have hx4:=jY (hx2.ext hbWA) hownA (by decide) hgr4;have hres4:=jY (hres2.ext hbWA) hownA (by decide) hgr4;have hbel4:=hbelA.grown hgr4 hbelA.size (fun k hk=>hownA.ge k hk);have hown5:Own w4 w.heap.size 89 3 v2 (t'[k]++[E]).length ((t'[k]++[E]).flatMap kP):=by rw[jG,eT];simpa using hown4
      have hO4:=(hO2.below hbWA).app hlt hv'.out hown5 hgr4 hcase4;have hT3:Hid (EL l k ((l.drop (8*k)).take (j+1)) (t'.set k (t'[k]++[E]))):=Lib.hid (by
       have:=hT2.out.set (h2:=(l.drop (8*k)).take (j+1)) hlt;have e:t'[k]++[E]=(l.drop (8*k)).take (j+1):=by rw[hP'.out,hT2.out.at' hlt]
       rw[e];exact this)
      have hsz2:=hO2.sz;have hone2:∀u∈[v2],u.oneCell' = true:=by obtain⟨_,_,rfl,_⟩:=hown4.rd;intro u hu;cases bq.1 hu;rfl
      have hcv2:(v2.cells.toList:List Value)=[v2]:=by obtain⟨_,_,rfl,_⟩:=hown4.rd;rfl
      clear hbelA hownA hown4 hown5 hcase4 hgr4 hbWA hx2 hres2 ho2 hO2 hT2 hown hrE hbr2 yrd10
      go_wp2_with (refine aA rfl _ (.tmp 45) (.tmp 44) rfl (w.heap.size+2) k _ [v2] rfl rfl hcv2 _ _ ho4 (by rw[hsz2];exact hlt) slent_size hone2 ?_)
      intro w5 ho5 hgr5;rw[Pw.putAt_one] at ho5;have hO5:=hO4.keep ho4 (by decide) hgr5;have hx5:=bu hx4 ho4 (by decide) hgr5;have hres5:aC w5 (w.heap.size+1) _ _:=hres4.grown hgr5 (fun e=>by have:=aJ e;omega);have hbel5:=hbel4.grown hgr5 hbel4.size (fun k hk=>by cases hk;omega);clear ho4 hx4 hres4 hbel4 hO4 hgr5;go_wp2;go_roundw
      case rel=>exact⟨j+1,_,_,by omega,by go_num,hbel5,hx5,hres5,ho5,hO5,hT3⟩
      case measure=>simp[intOf];omega
     obtain rfl:j=8:=by omega
     have hTn:Hid (EL l (k+1) [] t'):=Lib.hid (EL.next (by rw[hhalf.out];exact hT2.out) hlt);go_wp2;go_roundw
     case rel=>exact⟨k+1,ca',t',by omega,by go_num,hbr2,hx2,hres2,ho2,hO2,hTn⟩
     case measure=>simp[intOf];omega
  obtain rfl:k=8:=by omega
  have hfin:=hT.out.fin;have hone:=hO.rd.one;have hsz:=hO.sz;rw[hfin] at hO;clear hfin
  go_wp2_with (first | (refine fQ rfl 53 (.tmp 3) rfl (w.heap.size+2) 0 rfl ca.toList ho.rd _ underlying53 tab_agg (by rw[iC,hsz];exact tab_size) ?_) | (refine az rfl _ (.tmp 2) (.tmp 47) rfl (w.heap.size+1) ca rfl rfl _ _ hres (by rw[hsz];rfl) (by rw[hsz];exact tab_size) hone ?_))
  intro w5 hr5 hgr5;have hO5:=hO.keep hres (by decide) hgr5;have hbel5:Below w.heap.size w w5:=hbr.grown hgr5 hbr.size (fun k hk=>by cases hk;omega);go_wp2;refine bodyPost_ret (v:=.agg ca) (eu results36 _ _ (w.heap.size+1) _ _ _ rfl hr5 underlying53 rfl (by rw[hsz];exact tab_size)) rfl ?_;exact⟨_,rfl,hO5,hbel5⟩
theorem He (t e:TypeId) (z:Value) (size bytes:Nat) (ht:P.underlying t=some (.slice e)) (h2:(P.info? e).map (fun i=>(i.zero,i.size,i.bytes))=some (some z,size,bytes)) (kl kc:IntKind) (n:Nat) (b2:bytes*n≤281474976710656) (b3:n≤9223372036854775807) (w:World) :
  (Instr.makeSlice t (.int kl (n:Int)) (.int kc (n:Int))).run P w = .ok (.slice (some ⟨w.heap.size,0,none⟩) n n) (w.alloc (.cells (madeCells z.cells (n*size)) e)):=by
 obtain⟨i,hi,hzz,hs,hb⟩:=info_parts h2;have hb' : (i.bytes:Int)*(n:Int)≤281474976710656:=by
  have h:((i.bytes*n:Nat):Int)≤281474976710656:=by rw[hb];omega
  rwa [Int.natCast_mul] at h
 have hr:=run_make (P:=P) w t e i z ht hi hzz kl kc n n (by omega) (rM _) hb' (by omega);simp only[bU,hs] at hr;exact hr
theorem Cm {α:Type} (enc:α→List Value) (x:α) (hsz:∀x,(enc x).length=sz) (hp:0<sz) (hz:z.toList=enc x) (hn:n≤maxLen) (hB:B≤g) (hk:aC w g (madeCells z (n*sz)) e) :
  Own w B e sz (.slice (some ⟨g,0,none⟩) n n) n ((List.replicate n x).flatMap enc):=
 ⟨by rw[Pw.flat_len enc sz hsz,jy],.inr ⟨g,0,n,_,rfl,hB,hk,ay _,hn,by simp[size_madeCells],fun j u hj=>by rw[ed,←tO,FC enc sz hsz hp z x hz n];exact hj⟩⟩
theorem TV (h:aC w g (madeCells z (n*8)) e) (h' : aC w g' (madeCells z (n' * 8)) e') (hne:Value.slice (some ⟨g,0,none⟩) n n ≠ .slice (some ⟨g',0,none⟩) n' n'):g≠g':=by
 intro e0;subst e0;have h2:some (Obj.cells (madeCells z (n*8)) e (0,0))=some (Obj.cells (madeCells z (n' * 8)) e' (0,0)):=h.symm.trans h';have h3:madeCells z (n*8)=madeCells z (n' * 8):=by injection h2 with h2;injection h2
 have h4:=congrArg Array.size h3;rw[size_madeCells,size_madeCells] at h4;obtain rfl:n=n':=by omega
 exact hne rfl
structure JM (W0:World) (B f s ct:Nat) (zf zs zp:Array Value) (L:Nat→Bool) (y:Nat→Value) (W:World):Prop where
 be:Below W0.heap.size W0 W
 k2:L 2=true→∃g,y 2 = .slice (some ⟨g,0,none⟩) f f∧B≤g∧aC W g (madeCells zf (f*13)) 81
 k5:L 5=true→∃g,y 5 = .slice (some ⟨g,0,none⟩) s s∧B≤g∧aC W g (madeCells zs (s*1)) 3
 k7:L 7=true→∃g,y 7 = .slice (some ⟨g,0,none⟩) s s∧B≤g∧aC W g (madeCells zp (s*8)) 79
 k10:L 10=true→∃g,y 10 = .slice (some ⟨g,0,none⟩) ct ct∧B≤g∧aC W g (madeCells zp (ct*8)) 79
 ne:L 7=true→L 10=true→y 7≠y 10
 k3:L 3=true→L 2=true∧y 3 = .agg #[y 2,.int .i64 0]
 k8:L 8=true→L 7=true∧y 8 = .agg #[y 7,.slice none 0 0]
 k11:L 11=true→L 10=true∧y 11 = .agg #[y 10,.slice none 0 0]
 k14:L 14=true→(L 3=true∧L 5=true∧L 8=true∧L 11=true)∧y 14 = .agg #[y 2,.int .i64 0,y 5,y 7,.slice none 0 0,y 10,.slice none 0 0,.slice none 0 0,.int .i64 ct,.slice none 0 0,.slice none 0 0]
theorem sG :∀L y W W',Below W.heap.size W W'→JM W0 B f s ct zf zs zp L y W→JM W0 B f s ct zf zs zp L y W':=fun _ _ _ _ hb h=>
 ⟨ae h.be hb,fun e=>by obtain⟨g,a,b,c⟩:=h.k2 e;exact⟨g,a,b,c.ext hb⟩,fun e=>by obtain⟨g,a,b,c⟩:=h.k5 e;exact⟨g,a,b,c.ext hb⟩,fun e=>by obtain⟨g,a,b,c⟩:=h.k7 e;exact⟨g,a,b,c.ext hb⟩,fun e=>by obtain⟨g,a,b,c⟩:=h.k10 e;exact⟨g,a,b,c.ext hb⟩,h.ne,h.k3,h.k8,h.k11,h.k14⟩
theorem VZ (y:Nat→Value):JM W0 B f s ct zf zs zp (fun _=>false) y W0:=
 ⟨Below.refl _ _,fun e=>(by cases e),fun e=>(by cases e),fun e=>(by cases e),fun e=>(by cases e),fun e=>(by cases e),fun e=>(by cases e),fun e=>(by cases e),fun e=>(by cases e),fun e=>(by cases e)⟩
theorem yE (hi:i≠2∧i≠5∧i≠7∧i≠10∧i≠3∧i≠8∧i≠11∧i≠14) (h:JM W0 B f s ct zf zs zp L y W):JM W0 B f s ct zf zs zp (cO L i) (dH y i v) W:=by
 have e:∀k,k≠i→cO L i k=L k∧dH y i v k=y k:=fun k hk=>⟨by unfold cO;rw[if_neg hk],by unfold dH;rw[if_neg hk]⟩;have e2:=e 2 (by omega);have e5:=e 5 (by omega);have e7:=e 7 (by omega);have e10:=e 10 (by omega);have e3:=e 3 (by omega);have e8:=e 8 (by omega);have e11:=e 11 (by omega);have e14:=e 14 (by omega);refine⟨h.be,?_,?_,?_,?_,?_,?_,?_,?_,?_⟩
 ·rw[e2.1,e2.2];exact h.k2
 ·rw[e5.1,e5.2];exact h.k5
 ·rw[e7.1,e7.2];exact h.k7
 ·rw[e10.1,e10.2];exact h.k10
 ·rw[e7.1,e7.2,e10.1,e10.2];exact h.ne
 ·rw[e3.1,e3.2,e2.1,e2.2];exact h.k3
 ·rw[e8.1,e8.2,e7.1,e7.2];exact h.k8
 ·rw[e11.1,e11.2,e10.1,e10.2];exact h.k11
 ·rw[e14.1,e14.2,e3.1,e5.1,e8.1,e11.1,e2.2,e5.2,e7.2,e10.2];exact h.k14
theorem nG {p:Prop} (h:L i=false) (h' : L i=true):p:=by rw[h] at h'; cases h'
theorem Wd (hi:L 2=false) (hB:B≤W0.heap.size) (h0:JM W0 B f s ct zf zs zp L y W):JM W0 B f s ct zf zs zp (cO L 2) (dH y 2 (.slice (some ⟨W.heap.size,0,none⟩) f f)) (W.alloc (.cells (madeCells zf (f*13)) 81)):=by
 have h:=sG _ _ _ _ ((Below.refl W.heap.size W).alloc (ay _) (.cells (madeCells zf (f*13)) 81)) h0;exact⟨h.be,fun _=>⟨_,rfl,aX hB h0.be.size,aC.new _ _ _⟩,h.k5,h.k7,h.k10,h.ne,fun e=>nG hi (h.k3 e).1,h.k8,h.k11,fun e=>nG hi (h.k3 (h.k14 e).1.1).1⟩
theorem We (hi:L 5=false) (hB:B≤W0.heap.size) (h0:JM W0 B f s ct zf zs zp L y W):JM W0 B f s ct zf zs zp (cO L 5) (dH y 5 (.slice (some ⟨W.heap.size,0,none⟩) s s)) (W.alloc (.cells (madeCells zs (s*1)) 3)):=by
 have h:=sG _ _ _ _ ((Below.refl W.heap.size W).alloc (ay _) (.cells (madeCells zs (s*1)) 3)) h0;exact⟨h.be,h.k2,fun _=>⟨_,rfl,aX hB h0.be.size,aC.new _ _ _⟩,h.k7,h.k10,h.ne,h.k3,h.k8,h.k11,fun e=>nG hi (h.k14 e).1.2.1⟩
theorem Wm (hi:L 7=false) (hB:B≤W0.heap.size) (h0:JM W0 B f s ct zf zs zp L y W):JM W0 B f s ct zf zs zp (cO L 7) (dH y 7 (.slice (some ⟨W.heap.size,0,none⟩) s s)) (W.alloc (.cells (madeCells zp (s*8)) 79)):=by
 have h:=sG _ _ _ _ ((Below.refl W.heap.size W).alloc (ay _) (.cells (madeCells zp (s*8)) 79)) h0;refine⟨h.be,h.k2,h.k5,fun _=>⟨_,rfl,aX hB h0.be.size,aC.new _ _ _⟩,h.k10,fun _ e => ?_,h.k3,fun e=>nG hi (h.k8 e).1,h.k11,fun e=>nG hi (h.k8 (h.k14 e).1.2.2.1).1⟩;obtain⟨g,e1,_,e2⟩:=h0.k10 e;show Value.slice _ s s≠y 10;rw[e1];intro e3;simp only[lY,iM,vC] at e3;have:=e2.lt;omega
theorem Vy (hi:L 10=false) (hB:B≤W0.heap.size) (h0:JM W0 B f s ct zf zs zp L y W):JM W0 B f s ct zf zs zp (cO L 10) (dH y 10 (.slice (some ⟨W.heap.size,0,none⟩) ct ct)) (W.alloc (.cells (madeCells zp (ct*8)) 79)):=by
 have h:=sG _ _ _ _ ((Below.refl W.heap.size W).alloc (ay _) (.cells (madeCells zp (ct*8)) 79)) h0;refine⟨h.be,h.k2,h.k5,h.k7,fun _=>⟨_,rfl,aX hB h0.be.size,aC.new _ _ _⟩,fun e _ => ?_,h.k3,h.k8,fun e=>nG hi (h.k11 e).1,fun e=>nG hi (h.k11 (h.k14 e).1.2.2.2).1⟩;obtain⟨g,e1,_,e2⟩:=h0.k7 e;show y 7≠Value.slice _ ct ct;rw[e1];intro e3;simp only[lY,iM,vC] at e3;have:=e2.lt;omega
theorem Wn (hi:L 3=false) (hd:L 2=true) (h:JM W0 B f s ct zf zs zp L y W):JM W0 B f s ct zf zs zp (cO L 3) (dH y 3 (.agg #[y 2,.int .i64 0])) W:=
 ⟨h.be,h.k2,h.k5,h.k7,h.k10,h.ne,fun _=>⟨hd,rfl⟩,h.k8,h.k11,fun e=>nG hi (h.k14 e).1.1⟩
theorem Wp (hi:L 8=false) (hd:L 7=true) (h:JM W0 B f s ct zf zs zp L y W):JM W0 B f s ct zf zs zp (cO L 8) (dH y 8 (.agg #[y 7,.slice none 0 0])) W:=
 ⟨h.be,h.k2,h.k5,h.k7,h.k10,h.ne,h.k3,fun _=>⟨hd,rfl⟩,h.k11,fun e=>nG hi (h.k14 e).1.2.2.1⟩
theorem Vx (hi:L 11=false) (hd:L 10=true) (h:JM W0 B f s ct zf zs zp L y W):JM W0 B f s ct zf zs zp (cO L 11) (dH y 11 (.agg #[y 10,.slice none 0 0])) W:=
 ⟨h.be,h.k2,h.k5,h.k7,h.k10,h.ne,h.k3,h.k8,fun _=>⟨hd,rfl⟩,fun e=>nG hi (h.k14 e).1.2.2.2⟩
theorem VQ (h3:L 3=true) (h5:L 5=true) (h8:L 8=true) (h11:L 11=true) (h:JM W0 B f s ct zf zs zp L y W) :
  JM W0 B f s ct zf zs zp (cO L 14) (dH y 14 (.agg #[y 2,.int .i64 0,y 5,y 7,.slice none 0 0,y 10,.slice none 0 0,.slice none 0 0,.int .i64 ct,.slice none 0 0,.slice none 0 0])) W:=
 ⟨h.be,h.k2,h.k5,h.k7,h.k10,h.ne,h.k3,h.k8,h.k11,fun _=>⟨⟨h3,h5,h8,h11⟩,rfl⟩⟩
def Um (gf gs gw gd f s ct:Nat):MH:=⟨some ⟨gf,0,none⟩,f,⟨List.replicate f fr0,0⟩,some ⟨gs,0,none⟩,s,List.replicate s 0,some ⟨gw,0,none⟩,s,none,0,⟨List.replicate s zPg,[]⟩,some ⟨gd,0,none⟩,ct,none,0,⟨List.replicate ct zPg,[]⟩,none,0,[],ct,none,0,[],none,0,[]⟩
theorem Tw {l:List UInt8} (hr:ui w al cl l.length (l.map BP)) (ha:∀a,al=some a→l.map BP≠[]→a.block<B) (hB:B≤b) (hk:aC w b (iQ ⟨al,cl,l,Um gf gs gw gd f s ct,none,0,[]⟩) 77)
 (hf:f≤40) (hs:s≤60) (hc:ct≤80) (b1:B≤gf) (b2:B≤gs) (b3:B≤gw) (b4:B≤gd) (hne:gw≠gd) (ef:zf.toList=pO fr0) (es:zs.toList=[fM 0]) (ep:zp.toList=yL zPg)
 (k1:aC w gf (madeCells zf (f*13)) 81) (k2:aC w gs (madeCells zs (s*1)) 3) (k3:aC w gw (madeCells zp (s*8)) 79) (k4:aC w gd (madeCells zp (ct*8)) 79):dW w B b ⟨al,cl,l,Um gf gs gw gd f s ct,none,0,[]⟩:=by
 have m:maxLen=maxLen:=rfl;have o1:=Cm pO fr0 (n:=f) eZ (by decide) ef (by unfold maxLen;omega) b1 k1;have o2:=Cm (fun x=>[fM x]) (0:Int) (n:=s) (fun _=>rfl) (by decide) es (by unfold maxLen;omega) b2 k2;have o3:=Cm yL zPg (n:=s) jJ (by decide) ep (by unfold maxLen;omega) b3 k3;have o4:=Cm yL zPg (n:=ct) jJ (by decide) ep (by unfold maxLen;omega) b4 k4;refine⟨hk,hB,⟨?_,?_,⟨?_,Own.nil _ _ _ _⟩,⟨?_,Own.nil _ _ _ _⟩,nM.nil _ _,Own.nil _ _ _ _,Own.nil _ _ _ _,fun p hp=>(by cases hp),by show (-9223372036854775808:Int)≤(ct:Int)∧(ct:Int)≤9223372036854775807;omega⟩,Own.nil _ _ _ _,hr,ha,?_,fun p hp=>(by cases hp),rfl⟩
 ·show Own w B _ 13 (.slice (some ⟨gf,0,none⟩) (List.replicate f fr0).length f) (List.replicate f fr0).length _;rw[jy];exact o1
 ·show Own w B _ 1 (.slice (some ⟨gs,0,none⟩) (List.replicate s (0:Int)).length s) (List.replicate s (0:Int)).length ((List.replicate s (0:Int)).map fM);rw[jy,←iR];exact o2
 ·show Own w B _ 8 (.slice (some ⟨gw,0,none⟩) (List.replicate s zPg).length s) (List.replicate s zPg).length _;rw[jy];exact o3
 ·show Own w B _ 8 (.slice (some ⟨gd,0,none⟩) (List.replicate ct zPg).length ct) (List.replicate ct zPg).length _;rw[jy];exact o4
 intro x hx hd;have e1:gw=x:=by simpa[Um,oB,Value.ownBlock] using hx
 have e2:gd=x:=by simpa[Um,oB,Value.ownBlock] using hd
 exact hne (e1.trans e2.symm)
def Av (f q:Nat):List Fr:=List.replicate q frZ++List.replicate (f-q) fr0
theorem Gg (h:q≤f):(Av f q).length=f:=by unfold Av;simp;omega
theorem Tn (h:q<f) (hl:q<(Av f q).length):(Av f q)[q]=fr0:=by
 have:(Av f q)[q]?=some fr0:=by unfold Av;rw[kI (by simp),jy,sS,ny,if_pos (by omega)]
 rw[aG hl] at this;exact aJ this
theorem TB (h:q<f):(Av f q).set q frZ=Av f (q+1):=by
 unfold Av;rw[List.set_append,if_neg (by simp),jy,sS];obtain⟨d,hd⟩:∃d,f-q=d+1:=⟨f-q-1,by omega⟩;rw[hd,show f-(q+1)=d by omega,List.replicate_succ,qw,List.replicate_succ',jC];rfl
theorem Tg (f:Nat):Av f f=List.replicate f frZ:=by unfold Av;simp
theorem Uj {o:Nat} (hfit:o+13≤cur.size) (hc:∀j u,(pO fr0)[j]?=some u→cur[o+j]?=some u):bA cur (o+11) [.int .i64 (-1)]=bA cur o (pO frZ):=
 FL (xs:=pO fr0) rfl hfit hc (by decide) (fun i hi=>by
  obtain rfl:i=0:=by simpa using hi
  rfl) (fun i hi=>by
  by_cases h13:i<13
  ·match i,h13,hi with
   | 0,_,_=>rfl
   | 1,_,_=>rfl
   | 2,_,_=>rfl
   | 3,_,_=>rfl
   | 4,_,_=>rfl
   | 5,_,_=>rfl
   | 6,_,_=>rfl
   | 7,_,_=>rfl
   | 8,_,_=>rfl
   | 9,_,_=>rfl
   | 10,_,_=>rfl
   | 11,_,h=>exact absurd h (by simp)
   | 12,_,_=>rfl
  ·rw[dI (by rw[eZ];omega),dI (by rw[eZ];omega)])
structure GX (f s ct:Nat) (as0:Option Addr) (fi0:List PF) (bl:List Page) (q:List (Int × Page)) (S:MW):Prop where
 m:S.H.m=⟨List.replicate f frZ,0⟩
 asl:S.H.asl=as0
 sl:S.H.sl=List.replicate s 0
 sw:S.H.sw=⟨List.replicate s zPg,[]⟩
 dk:S.H.dk=⟨bl,q⟩
 fi:S.H.fi=fi0
 ct:S.H.ct=ct
 ca:S.H.ca=[]
 sp:S.H.sp=[]
 T:S.T=[]
theorem GX.ma {q:List (Int × Page)} (h:GX f s ct as0 fi0 bl q S):S.H.ma=Ai f s ct bl q (fi0.map PF.fi):=by
 unfold MH.ma Ai bZ;rw[h.m,h.sl,h.sw,h.dk,h.fi,h.ct,h.ca,h.sp];rfl
theorem GX.lst {q:List (Int × Page)} (h:GX f s ct as0 fi0 bl q S) (a:Option Addr) (c:Nat) (l:List UInt8):GX f s ct as0 fi0 bl q (S.lst a c l):=⟨h.m,h.asl,h.sl,h.sw,h.dk,h.fi,h.ct,h.ca,h.sp,h.T⟩
theorem dW.kb_int (h:dW w B b S) {x:Nat} (hk:aC w x cs 3) (hx:oB S.H.asl≠some x):¬mE b S x:=by
 have own:∀ {e:TypeId} {sz n c:Nat} {a:Option Addr} {xs:List Value},3≠e→Own w B e sz (.slice a n c) n xs→oB a=some x→False:=fun ht ho hx=>by obtain⟨_,cs',h2⟩:=iK ho hx;exact lJ hk h2 ht rfl
 intro hx';rcases hx' with hx' | hx'
 ·subst hx'; exact lJ hk h.blk (by decide) rfl
 simp only[gV,bY,fI,or_false] at hx';rcases hx' with hx' | hx' | hx' | hx' | hx' | hx' | hx' | hx' | hx'
 ·exact own (by decide) h.ma.fr hx'.symm
 ·exact hx hx'.symm
 ·exact own (by decide) h.ma.sw.b hx'.symm
 ·exact own (by decide) h.ma.dk.b hx'.symm
 ·exact own (by decide) h.ma.dk.q hx'.symm
 ·exact own (by decide) h.ma.st.own hx'.symm
 ·exact own (by decide) h.ma.ca hx'.symm
 ·exact own (by decide) h.ma.sp hx'.symm
 ·exact own (by decide) h.tt hx'.symm
theorem dW.locI (h:dW w B b S) (hk:aC w g cs 3) (hn:¬mE b S g) (hfi:∀p∈S.H.fi,oB p.a≠some g) (hgB:B≤g) (hg:w.grownBy w' (some g)):dW w' B b S:=by
 have hne:∀ {a:Option Addr},oB a∈gV S→∀n c g',(Value.slice a n c).ownBlock=some g'→some g≠some g':=fun hm n c g' he e=>by cases e;rw[lI] at he;exact hn (.inr (by rw[←he];exact hm))
 exact⟨h.blk.grown hg (fun e=>hn (.inl (aJ e))),h.ge,⟨h.ma.fr.grown hg (hne (by simp[gV]) _ _),h.ma.sl.grown hg (hne (by simp[gV]) _ _),⟨h.ma.sw.b.grown hg (hne (by simp[gV]) _ _),h.ma.sw.q.grown hg (fun g' he=>by rw[h.n3] at he;cases he)⟩,⟨h.ma.dk.b.grown hg (hne (by simp[gV]) _ _),h.ma.dk.q.grown hg (hne (by simp[gV]) _ _)⟩,
  ⟨h.ma.st.own.grown hg (hne (by simp[gV]) _ _),fun i p hp=>(h.ma.st.each i p hp).grown hg (fun g' he e=>by cases e;unfold mP at he;rw[lI] at he;exact hfi p (bQ hp) he),h.ma.st.apart⟩,h.ma.ca.grown hg (hne (by simp[gV]) _ _),h.ma.sp.grown hg (hne (by simp[gV]) _ _),fun p hp=>⟨ak (h.ma.ps p hp).1 hk (by decide) hg,(h.ma.ps p hp).2.keep hk (by decide) hg⟩,h.ma.c64⟩,
  h.tt.grown hg (hne (by simp[gV]) _ _),h.rd.keep h.ra h.bs hg hgB,h.ra,h.n1,h.n2,h.n3⟩
theorem dW.setTb (h:dW w B b S) {P:PS} (hP:S.H.sp[p]?=some P) :
  ∃g off cur,S.H.ap=some ⟨g,off,none⟩∧B≤g∧aC w g cur 55∧off+p*10+2+8≤cur.size ∧
   ∀(w' : World) (v:Vector Value 8) (t:Tb),qD w B (ng v) t→aC w' g (bA cur (off+p*10+2) (ng v).toList) 55→w.grownBy w' (some g)→dW w' B b { S with H:={ S.H with sp:=S.H.sp.set p { P with ts:=v,tb:=t } } }:=by
 have hp:=(bW.1 hP).1;have hPe:=(bW.1 hP).2;obtain⟨g,off,cap,cur,hv,hB,hblk,hfit,hset⟩:=kW rQ (by decide) rfl h.ma.sp p hp;simp only[lY] at hv;obtain⟨hap,_,hcp⟩:=hv;have hsp:=h.ma.sp;rw[hap] at hsp;have hcell:=Ah hsp hblk;have hat:∀j u,(tF P)[j]?=some u→cur[off+p*10+j]?=some u:=fun j u hj=>by rw[mU];exact hcell _ _ (flat_get tF 10 rQ S.H.sp p hp j u (by rw[hPe];exact hj))
 refine⟨g,off,cur,hap,hB,hblk,by omega,fun w' v t ht hb hg => ?_⟩;have e1:bA cur (off+p*10) (tF { P with ts:=v,tb:=t })=bA cur (off+p*10+2) (ng v).toList:=by show bA cur (off+p*10) (.bool P.lv :: .slice P.aa P.ar.length P.ac::(ng v).toList)=_;rw[vv _ (by simpa using hat 0 _ rfl),vv _ (hat 1 _ rfl)]
 rw[←e1] at hb;have hlen:(S.H.sp.set p { P with ts:=v,tb:=t }).length=S.H.sp.length:=bI;refine h.putP hblk hB hg hlen (by rw[hlen];exact hset w' _ hb) fun q hq => ?_;rcases mM hq with hq|rfl
 ·exact h.ma.ps q hq
 ·exact⟨(h.ma.ps P (bQ hP)).1,ht⟩
def Eh (S:MW) (B b:Nat) (w:World) (ks:List (Nat × Array Value × TypeId)) (p q:Nat) (e:TypeId) (sz n:Nat) (v0:Value) (old xs:List Value):(Nat→Bool)→(Nat→Value)→World→Prop:=fun L y W=>
 (aC W b (iQ S) 77∧∀t∈ks,aC W t.1 t.2.1 t.2.2)∧(L p=false→dW W B b S∧MS w b S W S)∧(L q=true→L p=false→∃a c,y q = .slice a 1 c∧ui W a c 1 xs) ∧
 (L p=true→∃w1,dW w1 B b S∧MS w b S w1 S∧w1.grownBy W v0.ownBlock∧Own W B e sz (y p) (n+1) (old++xs)∧oN w1 v0 (y p))
theorem eO {ks:List (Nat × Array Value × TypeId)} :∀L y W W',Below W.heap.size W W'→Eh S B b w ks p q e sz n v0 old xs L y W→Eh S B b w ks p q e sz n v0 old xs L y W':=
 fun _ _ _ _ hb ⟨h1,h2,h3,h4⟩=>⟨⟨h1.1.ext hb,fun t ht=>(h1.2 t ht).ext hb⟩,fun e=>⟨(h2 e).1.below hb,(h2 e).2.below hb⟩,fun e1 e2=>by
  obtain⟨a,e,k1,k2⟩:=h3 e1 e2;exact⟨a,e,k1,k2.below hb⟩,fun e=>by
  obtain⟨w1,k1,k2,k3,k4,k5⟩:=h4 e;exact⟨w1,k1,k2,IP k3 hb,k4.below hb,k5⟩⟩
theorem fD {ks:List (Nat × Array Value × TypeId)} (hi:i≠q∧i≠p) (h:Eh S B b w ks p q e sz n v0 old xs L y W):Eh S B b w ks p q e sz n v0 old xs (cO L i) (dH y i v) W:=by
 obtain⟨h1,h2,h3,h4⟩:=h;have e15:cO L i q=L q:=by unfold cO;rw[if_neg (fun e=>hi.1 e.symm)]
 have e16:cO L i p=L p:=by unfold cO;rw[if_neg (fun e=>hi.2 e.symm)]
 have y15:dH y i v q=y q:=by unfold dH;rw[if_neg (fun e=>hi.1 e.symm)]
 have y16:dH y i v p=y p:=by unfold dH;rw[if_neg (fun e=>hi.2 e.symm)]
 exact⟨h1,by rw[e16];exact h2,by rw[e15,e16,y15];exact h3,by rw[e16,y16];exact h4⟩
theorem Sw {ks:List (Nat × Array Value × TypeId)} (hpq:p≠q) (hb:Below W.heap.size W W') (h:Eh S B b w ks p q e sz n v0 old xs L y W) (hr:ui W' a c 1 xs) :
  Eh S B b w ks p q e sz n v0 old xs (cO L q) (dH y q (.slice a 1 c)) W':=by
 obtain⟨h1,h2,h3,h4⟩:=eO _ _ _ _ hb h;have e16:cO L q p=L p:=by unfold cO;rw[if_neg hpq]
 have y16:dH y q (.slice a 1 c) p=y p:=by unfold dH;rw[if_neg hpq]
 exact⟨h1,by rw[e16];exact h2,fun _ _=>⟨a,c,by unfold dH;rw[if_pos rfl],hr⟩,by rw[e16,y16];exact h4⟩
theorem RS {ks:List (Nat × Array Value × TypeId)} (hp:L p=false) (h:Eh S B b w ks p q e sz n v0 old xs L y W) (hg:W.grownBy W' v0.ownBlock)
 (hnb:∀g,v0.ownBlock=some g→g≠b∧∀t∈ks,t.1≠g) (ho:Own W' B e sz v (n+1) (old++xs)) (hs:oN W v0 v):Eh S B b w ks p q e sz n v0 old xs (cO L p) (dH y p v) W':=by
 obtain⟨h1,h2,h3,h4⟩:=h;refine⟨⟨h1.1.grown hg (fun e=>(hnb b e).1 rfl),fun t ht=>(h1.2 t ht).grown hg (fun e=>(hnb _ e).2 t ht rfl)⟩,fun e => ?_,fun _ e => ?_,fun _=>⟨W,(h2 hp).1,(h2 hp).2,hg,by unfold dH;rw[if_pos rfl];exact ho,by unfold dH;rw[if_pos rfl];exact hs⟩⟩<;>· unfold cO at e;rw[if_pos rfl] at e;cases e
theorem Sk {ks:List (Nat × Array Value × TypeId)} (h:dW w B b S) (hk:∀t∈ks,aC w t.1 t.2.1 t.2.2) (y:Nat→Value):Eh S B b w ks p q e sz n v0 old xs (fun _=>false) y w:=
 ⟨⟨h.blk,hk⟩,fun _=>⟨h,MS.refl _ _ _⟩,fun e=>(by cases e),fun e=>(by cases e)⟩
def ED (S:MW) (B b:Nat) (w:World) (gf:Nat) (F:PF):(Nat→Bool)→(Nat→Value)→World→Prop:=fun L y W=>
 (∃a c l,dW W B b (S.lst a c l)∧MS w b S W (S.lst a c l))∧aC W gf (pE F) 67∧Own W B 3 1 (mP F) F.l.length (F.l.map fM) ∧
 (L 4=true→L 11=false→∃g,y 4 = .slice (some ⟨g,0,none⟩) 0 0∧Own W w.heap.size 67 2 (.slice (some ⟨g,0,none⟩) 0 0) 0 []) ∧
 (L 11=true→L 14=false→Own W w.heap.size 67 2 (y 11) S.H.fi.length (S.H.fi.flatMap pY)) ∧
 (L 13=true→L 14=false→Own W w.heap.size 67 2 (y 13) 1 (pY F)) ∧
 (L 14=true→Own W w.heap.size 67 2 (y 14) (S.H.fi.length+1) (S.H.fi.flatMap pY++pY F))∧w.heap.size≤W.heap.size∧(L 15=true→L 14=true∧y 15 = .agg #[y 14,.int .i64 0])
theorem dK :∀L y W W',Below W.heap.size W W'→ED S B b w gf F L y W→ED S B b w gf F L y W':=
 fun _ _ _ _ hb ⟨⟨a,c,l,h1,h2⟩,h3,h4,h5,h6,h7,h8,h9,h10⟩=>⟨⟨a,c,l,h1.below hb,h2.below hb⟩,h3.ext hb,h4.below hb,fun e1 e2=>by obtain⟨g,k1,k2⟩:=h5 e1 e2;exact⟨g,k1,k2.below hb⟩,fun e1 e2=>(h6 e1 e2).below hb,fun e1 e2=>(h7 e1 e2).below hb,fun e1=>(h8 e1).below hb,aX h9 hb.size,h10⟩
theorem UB (h:dW w B b S) (hk:aC w gf (pE F) 67) (ho:Own w B 3 1 (mP F) F.l.length (F.l.map fM)) (y:Nat→Value):ED S B b w gf F (fun _=>false) y w:=
 ⟨⟨S.al,S.cl,S.l,h,MS.refl _ _ _⟩,hk,ho,fun e=>(by cases e),fun e=>(by cases e),fun e=>(by cases e),fun e=>(by cases e),ay _,fun e=>(by cases e)⟩
theorem eG (hi:i≠4∧i≠11∧i≠13∧i≠14∧i≠15) (h:ED S B b w gf F L y W):ED S B b w gf F (cO L i) (dH y i v) W:=by
 have e:∀k,k=4∨k=11∨k=13∨k=14∨k=15→cO L i k=L k∧dH y i v k=y k:=fun k hk=>⟨by unfold cO;rw[if_neg (by omega)],by unfold dH;rw[if_neg (by omega)]⟩;have e4:=e 4 (by decide);have e11:=e 11 (by decide);have e13:=e 13 (by decide);have e14:=e 14 (by decide);have e15:=e 15 (by decide);unfold ED;rw[e4.1,e4.2,e11.1,e11.2,e13.1,e13.2,e14.1,e14.2,e15.1,e15.2];exact h
theorem VU (h:ED S B b w gf F L y W):ED S B b w gf F (cO L 4) (dH y 4 (.slice (some ⟨W.heap.size,0,none⟩) 0 0)) (W.alloc (.cells #[] 67)):=by
 obtain⟨h1,h3,h4,h5,h6,h7,h8,h9,h10⟩:=dK _ _ _ _ ((Below.refl _ _).alloc (ay _) (.cells #[] 67)) h;exact⟨h1,h3,h4,fun _ _=>⟨_,rfl,Own.empty _ _ h.2.2.2.2.2.2.2.1⟩,h6,h7,h8,h9,h10⟩
theorem Vs (h:ED S B b w gf F L y W) (hb:Below W.heap.size W W') (ho:Own W' w.heap.size 67 2 v S.H.fi.length (S.H.fi.flatMap pY)):ED S B b w gf F (cO L 11) (dH y 11 v) W':=by
 obtain⟨h1,h3,h4,h5,h6,h7,h8,h9,h10⟩:=dK _ _ _ _ hb h;exact⟨h1,h3,h4,fun _ e=>(by cases e),fun _ _=>ho,h7,h8,h9,h10⟩
theorem UI (h:ED S B b w gf F L y W) (hb:Below W.heap.size W W') (ho:Own W' w.heap.size 67 2 v 1 (pY F)):ED S B b w gf F (cO L 13) (dH y 13 v) W':=by
 obtain⟨h1,h3,h4,h5,h6,h7,h8,h9,h10⟩:=dK _ _ _ _ hb h;exact⟨h1,h3,h4,h5,h6,fun _ _=>ho,h8,h9,h10⟩
theorem Nh (h:dW w B b S) {l:List UInt8} {x:Nat} (hx:w.heap.size≤x):¬mE b (S.lst a c l) x:=fun hk=>h.new hx hk
theorem Ve (h0:dW w B b S) (hgf:gf<w.heap.size) (h:ED S B b w gf F L y W) (h11:L 11=true) (h14:L 14=false) (hg:W.grownBy W' (y 11).ownBlock) (ho:Own W' w.heap.size 67 2 v (S.H.fi.length+1) (S.H.fi.flatMap pY++pY F)) :
  ED S B b w gf F (cO L 14) (dH y 14 v) W':=by
 obtain⟨⟨a,c,l,h1,h2⟩,h3,h4,h5,h6,h7,h8,h9,h10⟩:=h;have o11:=h6 h11 h14;have hst:∀k,(y 11).ownBlock=some k→w.heap.size≤k:=fun k hk=>o11.ge k hk;refine⟨⟨a,c,l,?_,?_⟩,h3.grown hg (fun e=>by have:=hst _ e;omega),?_,fun _ e=>(by rw[show cO L 14 11=L 11 from rfl,h11] at e;cases e),fun _ e=>(by cases e),fun _ e=>(by cases e),fun _=>ho,aX h9 hg.size,fun e=>nG h14 (h10 e).1⟩
 ·cases hk:(y 11).ownBlock with
  | none=>rw[hk] at hg;exact h1.below (jW hg)
  | some g=>
   rw[hk] at hg;obtain⟨cs,hkb⟩:=kM o11 g hk;exact h1.locT hkb (by decide) (Nh h0 (hst g hk)) (aX h0.bs (hst g hk)) hg
 ·cases hk:(y 11).ownBlock with
  | none=>rw[hk] at hg;exact h2.below (jW hg)
  | some g=>rw[hk] at hg;exact h2.loc hg (hst g hk)
 cases hk:(y 11).ownBlock with
 | none=>rw[hk] at hg;exact h4.below (jW hg)
 | some g=>
  rw[hk] at hg;obtain⟨cs,hkb⟩:=kM o11 g hk;exact ak h4 hkb (by decide) hg
theorem QY (hi:i≠4∧i≠11∧i≠13∧i≠14∧i≠15) (h0:dW w B b S) (hgf:¬mE b S gf) (hxa:∀x,(mP F).ownBlock=some x→¬mE b S x) (n:Int) (hn : -9223372036854775808≤n∧n≤9223372036854775807) (h:ED S B b w gf F L y W) {R:Value→World→Prop} (hR:∀x:Int,0≤x→x<256→∀W',R (.int .i64 x) W') :
  Calls Tryz.prog 30 #[.pointer (some ⟨b,0,none⟩),.int .i64 n] W fun e W' => ∃v,e = .returned v∧ED S B b w gf F (cO L i) (dH y i v) W'∧R v W':=by
 obtain⟨⟨a,c,l,h1,h2⟩,h3,h4,h5,h6,h7,h8,h9,h10⟩:=h;refine (fo _ n B b W h1 hn).mono ?_;rintro r W' ⟨x,a',c',l',rfl,k1,k2,k3,_⟩;have hfr:∀ {e:TypeId} {sz n:Nat} {v:Value} {xs:List Value},Own W w.heap.size e sz v n xs→Own W' w.heap.size e sz v n xs:=fun ho=>k2.ownN ho fun x hx=>Nh h0 (ho.ge x hx);refine⟨_,rfl,eG hi ⟨⟨a',c',l',k1,h2.trans k2⟩,k2.blkN h3 hgf,k2.ownN h4 hxa,fun e1 e2 => ?_,fun e1 e2=>hfr (h6 e1 e2),fun e1 e2=>hfr (h7 e1 e2),fun e1=>hfr (h8 e1),aX h9 k2.size,h10⟩,hR x k3.1 k3.2.1 W'⟩;obtain⟨g,e3,e4⟩:=h5 e1 e2;exact⟨g,e3,hfr e4⟩
theorem Vg (hd:L 14=true) (h:ED S B b w gf F L y W):ED S B b w gf F (cO L 15) (dH y 15 (.agg #[y 14,.int .i64 0])) W:=by
 obtain⟨h1,h3,h4,h5,h6,h7,h8,h9,h10⟩:=h;exact⟨h1,h3,h4,h5,h6,h7,h8,h9,fun _=>⟨hd,rfl⟩⟩
theorem TI (hB:B≤w.heap.size) (F:PF):Own (w.alloc (.cells (pE F) 67)) B 67 2 (.slice (some ⟨w.heap.size,0,none⟩) 1 1) 1 (pY F):=
 ⟨rfl,.inr ⟨w.heap.size,0,1,_,rfl,hB,aC.new _ _ _,ay _,by unfold maxLen;omega,ay _,fun j u hj=>by rw[ed,←tO];exact hj⟩⟩
theorem MZ (h:ED S B b w gf F L y W) (h14:L 14=true):∃a c,y 14 = .slice a (S.H.fi++[F]).length c∧Ll W a c (S.H.fi++[F]):=by
 obtain⟨⟨a,c,l,h1,h2⟩,h3,h4,h5,h6,h7,h8,h9,h10⟩:=h;obtain⟨a',c',e,k1,k2,k3,k4⟩:=(h8 h14).rd;have hl:(S.H.fi++[F]).length=S.H.fi.length+1:=by simp
 refine⟨a',c',by rw[hl];exact e,by rw[hl];exact k1,k2,k3,by rw[eT];simpa using k4,fun p hp => ?_⟩;rcases fJ.1 hp with hp|hp
 ·exact h1.ma.rd.st.good p hp
 rw[bq.1 hp];obtain⟨a9,c9,e9,q1,q2,q3,q4⟩:=h4.rd;unfold mP at e9;injection e9 with e9 e10 e11;subst e9;subst e11;exact⟨q1,q2,q3,q4⟩
theorem VR {t:List En} (h:t.length=64):tL t=t.flatMap kP:=by
 have e:(List.range 64).map (fun i=>t.getD i zEn)=t:=by
  apply mK;intro i;rw[jM]
  by_cases hi:i<64
  ·rw[sJ hi,aG (by omega)];show some (t.getD i zEn)=_;rw[aW,aG (by omega)];rfl
  ·rw[dI (by rw[BQ];omega),dI (by omega)];rfl
 unfold tL;rw[←Cg (f:=fun i=>t.getD i zEn) (g:=kP),e]
end Go.Proofs.YtjkkoeijlhfneaaGreat