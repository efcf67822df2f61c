import Derived.Test.YtjkkoeijlhfneaaGreatW5
set_option linter.unusedSimpArgs false
set_option linter.unusedVariables false
set_option maxHeartbeats 4000000
set_option maxRecDepth 100000
namespace Go.Proofs.YtjkkoeijlhfneaaGreat
open _root_.Go.Proofs.Tryz
open Go.RowKit Go.Maps Pw
variable {B B' b c c' cl ct f g g' gd gf gs gw gx i k n n' off p q s sz:Nat} {E:En} {F:PF} {L L':Nat → Bool} {P:Program} {Q:Exit → Act → World → Prop} {S S' S0:MW} {T e e':TypeId} {W W' W0 w w' w0 w1 w2:World} {a a' al as0:Option Addr} {bl:List Page} {cs cur z zf zp zs:Array Value} {fi0:List PF} {m:Ma} {o:Oper} {old vs xs ys:List Value} {ops:Array Oper} {rest:List Oper} {sp:List PS} {v v' v0:Value} {x:Operand} {y:Nat → Value} {ρ:Operand → Value}
theorem ents_size:(Tryz.prog.info? 90).map (·.size)=some 192:=by kernel_rfl
theorem Hu {o d:Nat} (hlen:ys.length=xs.length) (hfit:o+xs.length≤cur.size) (hc:∀j u,xs[j]?=some u→cur[o+j]?=some u) (hd:d+vs.length≤xs.length)
 (hin:∀i,i<vs.length→ys[d+i]?=vs[i]?) (hout:∀i,(i<d∨d+vs.length≤i)→ys[i]?=xs[i]?):bD cur (o+d) vs=bD cur o ys:=by
 apply mr;intro m
 by_cases h1:o≤m∧m<o+xs.length
 ·obtain⟨e,rfl⟩:∃e,m=o+e:=⟨m-o,by omega⟩;obtain⟨u,hu⟩:∃u,ys[e]?=some u:=⟨_,aI (by omega)⟩;rw[putAt_in _ _ _ _ u (by omega) hu]
  by_cases h2:d≤e∧e<d+vs.length
  ·obtain⟨i,rfl⟩:∃i,e=d+i:=⟨e-d,by omega⟩;rw[hin i (by omega)] at hu;rw[←mY];exact putAt_in _ _ _ _ u (by omega) hu
  rw[hout e (by omega)] at hu;rw[putAt_out _ _ _ _ (by omega)];exact hc _ _ hu
 ·rw[putAt_out _ _ _ _ (by omega),putAt_out _ _ _ _ (by omega)]
theorem Kk {o:Nat} {X:Fr} (hfit:o+13≤cur.size) (hc:∀j u,(qz X)[j]?=some u→cur[o+j]?=some u):bD cur (o+8) [.int .i64 (X.r+1)]=bD cur o (qz (iG X)):=
 Hu (xs:=qz X) rfl hfit hc (by show 8+1≤13;omega) (fun i hi=>by
  obtain rfl:i=0:=by simpa using hi
  rfl) (fun i hi=>by
  match i,hi with
  | 0,_=>rfl
  | 1,_=>rfl
  | 2,_=>rfl
  | 3,_=>rfl
  | 4,_=>rfl
  | 5,_=>rfl
  | 6,_=>rfl
  | 7,_=>rfl
  | 8,h=>exact absurd h (by show ¬(8<8∨8+1≤8);omega)
  | 9,_=>rfl
  | 10,_=>rfl
  | 11,_=>rfl
  | 12,_=>rfl
  | n+13,_=>rfl)
def VR (S:MW) (p n:Nat) (B b:Nat) (w:World) (r:Ending) (w' : World):Prop:=∃S',r = .returned (.tuple #[])∧eD w' B b S'∧MS w b S w' S'∧JL S S'∧Bd S'.H.ma S'.T∧∀q j,¬(q=p∧j=n)→fq S'.T q j=fq S.T q j
theorem LU (S:MW) (p n:Nat) (g:Pg) (B b:Nat) (w:World) (h:eD w B b S) (hd:Bd S.H.ma S.T) (hp:p<S.H.sp.length) (hn:n<64) (h0:(fq S.T p n).k=0) (hg:onA (fH S.H.ma p).ar n=some g) (hfi:g.fi<S.H.fi.length) (hpg:0≤g.pg) (hsh:g.sh=true→0≤g.fi) :
  Calls Tryz.prog 65 #[.pointer (some ⟨b,0,none⟩),.int .i64 p,.int .i64 n,.agg #[.bool true,.bool g.rd,.bool g.wr,.bool g.sh,.int .i64 g.fi,.int .i64 g.pg]] w (VR S p n B b w):=by
 obtain⟨grd,gwr,gsh,gfi,gpg⟩:=g;dsimp only at hfi hpg hsh ⊢;obtain⟨I,rfl⟩:=fO hpg;have hm:=Lib.hid hd;have kL:=Lib.hid hg;have kS:=Lib.hid h0;have gY:=Lib.hid h.bs;clear hd hg h0 hpg;go_enter func65,ntmps65;go_upto_region 1 with (fail);refine gF (fun W=>Code.wp _ _ _ _ W) fun w1 kO bx1 gx => ?_;have h1:=h.below kO;have s1:=(MS.refl w b S).below kO;have hT:=Lib.hid (h.new (az _));clear h kO gx
 go_wp2_with fail
 refine (fD _ 4 B b _ h1 (by omega)).mono ?_;rintro r w2 ⟨x,a2,c2,l2,rfl,h2,s2,hx,_⟩;have bx2:=s2.blkN bx1 hT.out;have s2:=s1.trans s2;clear h1 s1 bx1;have hG:=bx2.cell;go_upto_region 5 with (fail)
 by_cases hx0:x=0
 ·subst hx0;go_wp2;refine bodyPost_ret (v:=.tuple #[]) (by simp[results,go_sem,results65]) rfl ?_;exact⟨_,rfl,h2,s2,⟨rfl,rfl,rfl,rfl,rfl,rfl⟩,hm.out,fun _ _ _=>rfl⟩
 have gP:(x==0)=false:=by simp[hx0]
 go_upto_region 6 with (fail)
 go_cut [44] (fun s44 wx=>s44 = .bool (decide (0≤gfi∧(gsh=true∨x=1)))∧wx=w2)
 case first=>
  by_cases hf:0≤gfi
  ·cases gsh with
   | true=>
    go_wp2;go_meet
    case rel=>exact⟨by simp[hf],rfl⟩
   | false=>
    by_cases hx1:x=1
    ·have k5:(x==1)=true:=by simp[hx1]
     have k6:=Lib.hid hx1;clear hx1;go_wp2;go_meet
     case rel=>exact⟨by rw[decide_eq_true ⟨hf,.inr k6.out⟩],rfl⟩
    have k5:(x==1)=false:=by simp[hx1]
    go_wp2;go_meet
    case rel=>exact⟨by rw[decide_eq_false (by rintro⟨_,h | h⟩;cases h;exact hx1 h)],rfl⟩
  go_wp2;go_meet
  case rel=>exact⟨by rw[decide_eq_false (fun h=>by have:=h.1;omega)],rfl⟩
 case rest=>
  obtain⟨rfl,gt⟩:=hcut;subst wc
  by_cases hF:0≤gfi∧(gsh=true∨x=1)
  ·rw[decide_eq_true hF];obtain⟨F,rfl⟩:=fO hF.1;have kr:F<S.H.fi.length:=by omega
   obtain⟨p0,kE⟩:∃p0,S.H.fi[F]?=some p0:=⟨_,aI kr⟩;have gA:Hid (aM S.H.ma.st (F:Int)=p0.fi):=Lib.hid (mW (by show (S.H.fi.map PF.fi)[F]?=_;rw[iU,kE];rfl));obtain⟨bf,of,hY,kn⟩:=jH jF (by decide) h2.ma.rd.st.rd F kr;have hY:S.H.ai=some ⟨bf,of,none⟩:=hY;have kn:dI w2 (some ⟨bf,of+F*2,none⟩) (qF p0):=by rw[←(dn.1 kE).2];exact kn
   have rc1:∀W,Below w2.heap.size w2 W→W.cell? ⟨bf,of+F*2+1,none⟩=some (.slice p0.a p0.l.length p0.c):=fun W hb=>by obtain⟨b',o',e,gC⟩:=(kn.below hb) 1 _ rfl;cases e;exact gC
   have gV:=Lib.hid hfi;clear kE kn hfi;go_upto_region 7 with (fail)
   by_cases hge:(p0.l.length:Int)≤(I:Int)
   ·skip;refine aK 15 [_,_,_,_,_,_,_,_,_,_,_,_,_,_,_] (Gf w.heap.size 5 rfl rfl (Gl bx2 rfl rfl rfl rfl rfl (Gk rfl (Gk rfl (Gf b 1 rfl rfl (Gf b 8 rfl rfl (Gf b 8 rfl rfl (Gl h2.blk (V:=.slice (some ⟨bf,of,none⟩) S.H.fi.length S.H.ci) (by simp[ja,MW.lst,hY]) rfl rfl rfl rfl (Gf w.heap.size 4 rfl rfl (Gl bx2 rfl rfl rfl rfl rfl (Gr (.pointer (some ⟨bf,of+F*2,none⟩)) (fun ρ y W hb hq=>(bG rfl (aC rfl hq) (aC rfl hq) kr underlying35 file_size)) rfl rfl (Gf bf (of+F*2+1) rfl rfl (Gc (.slice p0.a p0.l.length p0.c) (fun W hb=>by simp[rc1 _ hb]) rfl rfl rfl rfl (Gn rfl rfl rfl rfl (Gb (.bool true) (by simp[go_sem,hge]) rfl rfl rfl rfl rfl (aB)))))))))))))))) (fun _=>rfl) rfl ?_;intro y W3 hE _;have h3:=h2.below hE;have s3:=s2.below hE;have bx3:=bx2.ext hE;clear h2 s2 bx2 hG hE rc1 hY;have hG:=bx3.cell;go_wp2;refine bodyPost_ret (v:=.tuple #[]) (by simp[results,go_sem,results65]) rfl ?_;exact⟨_,rfl,h3,s3,⟨rfl,rfl,rfl,rfl,rfl,rfl⟩,hm.out,fun _ _ _=>rfl⟩
   skip;refine aK 15 [_,_,_,_,_,_,_,_,_,_,_,_,_,_,_] (Gf w.heap.size 5 rfl rfl (Gl bx2 rfl rfl rfl rfl rfl (Gk rfl (Gk rfl (Gf b 1 rfl rfl (Gf b 8 rfl rfl (Gf b 8 rfl rfl (Gl h2.blk (V:=.slice (some ⟨bf,of,none⟩) S.H.fi.length S.H.ci) (by simp[ja,MW.lst,hY]) rfl rfl rfl rfl (Gf w.heap.size 4 rfl rfl (Gl bx2 rfl rfl rfl rfl rfl (Gr (.pointer (some ⟨bf,of+F*2,none⟩)) (fun ρ y W hb hq=>(bG rfl (aC rfl hq) (aC rfl hq) kr underlying35 file_size)) rfl rfl (Gf bf (of+F*2+1) rfl rfl (Gc (.slice p0.a p0.l.length p0.c) (fun W hb=>by simp[rc1 _ hb]) rfl rfl rfl rfl (Gn rfl rfl rfl rfl (Gb (.bool false) (by simp[go_sem,hge]) rfl rfl rfl rfl rfl (aB)))))))))))))))) (fun _=>rfl) rfl ?_;intro y W3 hE _;have h3:=h2.below hE;have s3:=s2.below hE;have bx3:=bx2.ext hE;clear h2 s2 bx2 hG hE rc1 hY;have hG:=bx3.cell
   go_wp2_with fail
   refine (KE _ F I B b _ h3 hm.out ⟨⟨by omega,by simp[MH.ma,cZ,MW.lst];omega⟩,by omega,by show (I:Int)<(aM S.H.ma.st (F:Int)).b.length;rw[gA.out];show (I:Int)<p0.l.length;omega⟩).mono ?_;rintro r w4 ⟨x3,S3,rfl,h4,s4,k4,t4,bd4,gr⟩;have bx4:=s4.blkN bx3 hT.out;have ga:=Lib.hid (s4.not bx3.lt hT.out);have s4:=s3.trans s4;clear h3 s3 bx3 hG;have hG:=bx4.cell;rcases gr with rfl|⟨c,hcm,hcf,hci,rfl⟩
   ·go_wp2;refine bodyPost_ret (v:=.tuple #[]) (by simp[results,go_sem,results65]) rfl ?_;exact⟨S3,rfl,h4,s4,⟨k4.sp,k4.fi,k4.ct,k4.dk,k4.fl,k4.sl⟩,bd4,fun _ _ _=>by rw[t4];rfl⟩
   have gb:=bd4.rt.ca.lt c hcm;obtain⟨f,kM⟩:=fO gb.1;have gc:f<S3.H.m.fs.length:=by have e:((dV S3.H.ma S3.T).m.fs.length:Nat)=S3.H.m.fs.length:=rfl;omega
   have kA:=Lib.hid (And.intro hcm (And.intro hcf hci));have gd:=Lib.hid kM;rw[kM];clear gb hcm hcf hci kM;obtain⟨gf,off,cap,cur,hv,kI,hN,ko,hU,hW⟩:=h4.ma.fr.put eZ (by decide) f gc;have kQ:S3.H.af=some ⟨gf,off,none⟩:=(nJ hv).1;have hX:Hid (aR S3.H.ma f=S3.H.m.fs[f]):=Lib.hid (by unfold aR;show S3.H.m.fs.getD f fr0=_;rw[aV,aI (by omega)];rfl);have k9:=bd4.rt.fewR (f:=f) gc;have gy:0≤(S3.H.m.fs[f]).r∧(S3.H.m.fs[f]).r≤257:=by rw[←hX.out];exact k9
   have c8:w4.cell? ⟨gf,off+f*13+8,none⟩=some (.int .i64 (S3.H.m.fs[f]).r):=hU 8 _ rfl;have hV:=Lib.hid hW;have kd:=Lib.hid hU;clear hv hW hU k9;generalize S3.H.m.fs[f]=X at c8 hX gy kd;have hc:=h4.blk.cell;unfold ja at hc;rw[kQ] at hc;have gW:IntKind.i64.wrap (X.r+1)=X.r+1:=bO _ (by omega);have gU:(f:Int)<(S3.H.m.fs.length:Int):=by omega
   go_wp2_with (refine aD rfl _ _ _ rfl gf (off+f*13+8) _ [.int .i64 (X.r+1)] rfl rfl rfl _ _ hN (by show off+f*13+8+1≤cur.size;omega) (by kernel_rfl) (fun u hu=>by cases bv.1 hu;rfl) ?_)
   intro w5 kN kp;rw[Kk (by omega) (fun j u hj=>by rw[←hN.cell];exact kd.out j u hj)] at kN;have h5:eD w5 B b (S3.frs (S3.H.m.fs.set f (iG X))):=h4.putF hN kI kp (fs:=S3.H.m.fs.set f (iG X)) (by simp) (by simpa using hV.out _ _ kN);have kw:mR b S3 gf:=.inr (by simp only[iA,kQ];exact ik);have s5:=s4.put (H':=S3.frs (S3.H.m.fs.set f (iG X))) kp kw (fun x hx => .inl hx);have bx5:=bx4.grown kp (fun e=>ga.out (by rw[←aJ e];exact kw));have hM:Hid (¬mR b (S3.frs (S3.H.m.fs.set f (iG X))) w.heap.size):=ga;have kq:S3.T.length=S.H.sp.length:=by have:=bd4.ok.len;rw[this];show (S3.H.sp.map PS.sp).length=_;rw[eH,k4.sp];rfl
   have hD:p<S3.T.length:=by omega
   have gh:∀(S' : MW),S'.T=S3.T→(eY S'.T p).length=64:=fun S' e=>by rw[e];exact bd4.ok.l64 (by rw[←bd4.ok.len];exact hD)
   have kv:fH S3.H.ma p=fH S.H.ma p:=by show (S3.H.sp.map PS.sp).getD p zSp=(S.H.sp.map PS.sp).getD p zSp;rw[k4.sp];rfl
   have kD:p<S3.H.ma.sp.length:=by show p<(S3.H.sp.map PS.sp).length;rw[eH,k4.sp];exact hp
   have hH:Hid (∀u:Bool,(u=true→gsh=true∧gwr=true)→Bd (S3.frs (S3.H.m.fs.set f (iG X))).H.ma (setL (S3.frs (S3.H.m.fs.set f (iG X))).T p n ⟨1,f,u⟩)):=Lib.hid fun u hu=>by have h9:=bd4.cachedE (w:=u) kD hn (by rw[t4];exact kS.out) kA.out.1 (by rw[kv];exact kL.out) kA.out.2 hu;rw[gd.out,bX,hX.out] at h9;exact h9
   have i:Hid (JL S (S3.frs (S3.H.m.fs.set f (iG X)))):=Lib.hid ⟨k4.sp,k4.fi,k4.ct,k4.dk,by show (S3.H.m.fs.set f (iG X)).length=_;rw[bP];exact k4.fl,k4.sl⟩;have hA:Hid (∀x q j,¬(q=p∧j=n)→fq (setL (S3.frs (S3.H.m.fs.set f (iG X))).T p n x) q j=fq S.T q j):=Lib.hid fun x q j kb=>by show fq (setL S3.T p n x) q j=_;rw[wO bd4.ok kD hn,if_neg kb,t4];rfl
   have o:Hid (p<(S3.frs (S3.H.m.fs.set f (iG X))).T.length):=Lib.hid hD;have hI:Hid (∀S' : MW,S'.T=(S3.frs (S3.H.m.fs.set f (iG X))).T→(eY S'.T p).length=64):=Lib.hid gh;generalize S3.frs (S3.H.m.fs.set f (iG X))=S5 at *
   obtain⟨gT,oT,_,hl,_⟩:=eD.ent (S:=S5) h5 (p:=p) (n:=n) o.out hn (hI.out _ rfl);clear kv kD hD gh kq;clear h4 s4 bx4 hG hc c8 kN kp hN kd hV ko kQ;go_upto_region 11 with (fail);cases gsh with
   | true=>cases gwr with
    | true=>
     skip;refine ib 20 [_,_,_,.v (.slice (some ⟨gT,oT,none⟩) S5.T.length S5.cb),_,.v (.int .i64 (n:Int)),_,_,.v (.bool true),_,_,.v (.bool true),_,_,_,.r 15 ((cB fun v => ∃x:Int,v = .int .i64 x∧0≤x)),.r 16 ((cB fun v => ∃u,v = .bool u)),.r 17 ((cB fun v => ∃u,(u=true→true=true)∧v = .bool u)),.r 18 ((cB fun v => ∃u,(u=true→true=true)∧v = .agg #[.int .i64 1,.int .i64 (f:Int),.bool u])),_] (Np S5 B b w5 [(w.heap.size,#[.bool true,.bool grd,.bool true,.bool true,.int .i64 (F:Int),.int .i64 (I:Int)],109)]) aG (fun _=>⟨S5.al,S5.cl,S5.l,h5,MS.refl _ _ _,by simpa using ⟨bx5,hM.out⟩⟩) (Qk aG rfl (Qk aG rfl (Qf aG b 12 rfl rfl (ag ?_ (Qk aG rfl (Qk aG rfl (Qk aG rfl (Qf aG w.heap.size 3 rfl rfl (ag ?_ (Qk aG rfl (Qf aG w.heap.size 2 rfl rfl (ag ?_ (Qk aG rfl (Qk aG rfl (Qk aG rfl (ag ?_ (ag ?_ (ag ?_ (ag ?_ (Qr aG (.pointer (some ⟨gT,oT+p*192,none⟩)) (fun ρ y W hq=>(bG rfl (aC rfl hq) (aC rfl hq) o.out underlying75 ents_size)) rfl rfl (aB))))))))))))))))))))) (fun _=>rfl) rfl ?_
     ·intro ρ y W L hw hn s z hb hd;refine ed aG (fun _ _ h=>h) hb ?_;have kk:=hw 94 2 rfl;have h2:y 2=_:=hd 2 rfl;obtain⟨a,c,l,m1,m2,m3⟩:=hb;refine aj (.slice (some ⟨gT,oT,none⟩) S5.T.length S5.cb) (ah rfl) (by simp[execOp,go_sem,kk,h2,m1.blk.cell,ja,MW.lst,hl]) rfl
     ·intro ρ y W L hw hn s z hb hd;refine ed aG (fun _ _ h=>h) hb ?_;have ki:=hw 99 7 rfl;have h7:y 7=_:=hd 7 rfl;obtain⟨a,c,l,m1,m2,m3⟩:=hb;have m3:=(m3 _ (bv.2 rfl)).1;refine aj (.bool true) (ah rfl) (by simp[execOp,go_sem,ki,h7,m3.cell]) rfl
     ·intro ρ y W L hw hn s z hb hd;refine ed aG (fun _ _ h=>h) hb ?_;have km:=hw 102 10 rfl;have kh:y 10=_:=hd 10 rfl;obtain⟨a,c,l,m1,m2,m3⟩:=hb;have m3:=(m3 _ (bv.2 rfl)).1;refine aj (.bool true) (aT 9 101 true true rfl rfl ((hw 101 9 rfl).trans (hd 9 rfl))) (by simp[execOp,go_sem,km,kh,m3.cell]) rfl
     ·intro ρ y W L hw hn s z hb hd;have gn:=hw 106 14 rfl;have gH:y 14=_:=hd 14 rfl;have EC:∀v,ρ (.const v)=v:=fun v=>hn (.const v) trivial;have EF:∀f,ρ (.func f) = .func (.func f) #[] #[]:=fun f=>hn (.func f) trivial;refine ig _ _ (aT 13 105 true true rfl rfl ((hw 105 13 rfl).trans (hd 13 rfl))) (aO rfl (EF _) func30 (by kernel_rfl) (by kernel_rfl) (by simp only[bH,bA,bB,gn,gH,EC,EF];rfl)) ?_;exact zP 2 (by omega) hb fun x h1 _ _ _=>⟨x,rfl,h1⟩
     ·intro ρ y W L hw hn s z hb hd;refine ed aG (fun _ _ h=>h) hb ?_;have gm:=hw 107 15 rfl;have gG:=hd 15 rfl;obtain⟨x,hx,_⟩:=gG;refine aj _ (aT 13 105 true true rfl rfl ((hw 105 13 rfl).trans (hd 13 rfl))) (pU rfl (gm.trans hx) (hn (.const _) trivial) (by simp[go_sem];rfl)) ⟨_,rfl⟩
     ·intro ρ y W L hw hn s z hb hd;refine ed aG (fun _ _ h=>h) hb ?_;have hR:=hw 105 13 rfl;have hJ:y 13=_:=hd 13 rfl;have kl:=hw 108 16 rfl;have kR:=hd 16 rfl;obtain⟨u,hu⟩:=kR;refine aj (.bool u) (ah rfl) (qh rfl (hR.trans hJ) (by simpa using kl.trans hu)) ⟨_,fun _=>rfl,rfl⟩
     ·intro ρ y W L hw hn s z hb hd;refine ed aG (fun _ _ h=>h) hb ?_;have kj:=hw 98 6 rfl;have h6:y 6=_:=hd 6 rfl;have hQ:=hw 109 17 rfl;have kg:=hd 17 rfl;obtain⟨u,hr,hu⟩:=kg;have EC:∀v,ρ (.const v)=v:=fun v=>hn (.const v) trivial;refine aj (.agg #[.int .i64 1,.int .i64 (f:Int),.bool u]) (ah rfl) (by simp[execOp,go_sem,kj,h6,hQ,EC,hu]) ⟨u,hr,rfl⟩
     intro y W6 hB d;have gM:((cB fun v => ∃x:Int,v = .int .i64 x∧0≤x)).r (y 15) W6:=d 15 (by decide);have gL:((cB fun v => ∃u,v = .bool u)).r (y 16) W6:=d 16 (by decide);have ks:((cB fun v => ∃u,(u=true→true=true)∧v = .bool u)).r (y 17) W6:=d 17 (by decide);have hK:((cB fun v => ∃u,(u=true→true=true)∧v = .agg #[.int .i64 1,.int .i64 (f:Int),.bool u])).r (y 18) W6:=d 18 (by decide);clear d;obtain⟨a6,c6,l6,h6,s6,_⟩:=hB;obtain⟨u,hr,hu⟩:=hK;rw[hu];clear hu;obtain⟨gT',oT',curT,hk,hO,hy,hs,_,ha⟩:=eD.ent (S:=S5.lst a6 c6 l6) h6 (p:=p) (n:=n) o.out hn (hI.out _ rfl);have e9:(some (⟨gT',oT',none⟩:Addr))=some ⟨gT,oT,none⟩:=hk.symm.trans hl;cases e9;have hL:(p:Int)<(S5.T.length:Int):=by have:=o.out;omega
     have ka:(n:Int)<64:=by omega
     have hh:=Lib.hid ha;have s6:=s5.trans s6;clear ha hk h5 s5
     go_wp2_with (refine aD rfl _ _ _ rfl gT (oT+p*192+n*3) _ (kX ⟨1,f,u⟩) rfl rfl rfl _ _ hy (by rw[fA];exact hs) (by kernel_rfl) (bV (iT _)) ?_)
     intro w7 hC hi;have h7:=hh.out w7 ⟨1,f,u⟩ hC hi;have s7:=s6.put (H':={ S5.lst a6 c6 l6 with T:=setL (S5.lst a6 c6 l6).T p n ⟨1,f,u⟩ }) hi (.inr (by simp only[iA,MW.lst,hl];simp[oB];right;right;right;right;right;right;right;right;rfl)) (fun x hx => .inl hx);clear hy hC hi h6 s6;go_wp2;refine bodyPost_ret (v:=.tuple #[]) (by simp[results,go_sem,results65]) rfl ?_;exact⟨_,rfl,h7,s7,⟨i.out.sp,i.out.fi,i.out.ct,i.out.dk,i.out.fl,i.out.sl⟩,hH.out u (fun h=>by first | exact trivial | exact⟨rfl,rfl⟩ | exact absurd (hr h) (by decide) | simp),hA.out _⟩
    | false=>
     skip;refine ib 20 [_,_,_,.v (.slice (some ⟨gT,oT,none⟩) S5.T.length S5.cb),_,.v (.int .i64 (n:Int)),_,_,.v (.bool true),_,_,.v (.bool false),_,_,_,_,_,.r 17 ((cB fun v => ∃u,(u=true→false=true)∧v = .bool u)),.r 18 ((cB fun v => ∃u,(u=true→false=true)∧v = .agg #[.int .i64 1,.int .i64 (f:Int),.bool u])),_] (Np S5 B b w5 [(w.heap.size,#[.bool true,.bool grd,.bool false,.bool true,.int .i64 (F:Int),.int .i64 (I:Int)],109)]) aG (fun _=>⟨S5.al,S5.cl,S5.l,h5,MS.refl _ _ _,by simpa using ⟨bx5,hM.out⟩⟩) (Qk aG rfl (Qk aG rfl (Qf aG b 12 rfl rfl (ag ?_ (Qk aG rfl (Qk aG rfl (Qk aG rfl (Qf aG w.heap.size 3 rfl rfl (ag ?_ (Qk aG rfl (Qf aG w.heap.size 2 rfl rfl (ag ?_ (Qk aG rfl (Qk aG rfl (Qk aG rfl (Qk aG rfl (Qk aG rfl (ag ?_ (ag ?_ (Qr aG (.pointer (some ⟨gT,oT+p*192,none⟩)) (fun ρ y W hq=>(bG rfl (aC rfl hq) (aC rfl hq) o.out underlying75 ents_size)) rfl rfl (aB))))))))))))))))))))) (fun _=>rfl) rfl ?_
     ·intro ρ y W L hw hn s z hb hd;refine ed aG (fun _ _ h=>h) hb ?_;have kk:=hw 94 2 rfl;have h2:y 2=_:=hd 2 rfl;obtain⟨a,c,l,m1,m2,m3⟩:=hb;refine aj (.slice (some ⟨gT,oT,none⟩) S5.T.length S5.cb) (ah rfl) (by simp[execOp,go_sem,kk,h2,m1.blk.cell,ja,MW.lst,hl]) rfl
     ·intro ρ y W L hw hn s z hb hd;refine ed aG (fun _ _ h=>h) hb ?_;have ki:=hw 99 7 rfl;have h7:y 7=_:=hd 7 rfl;obtain⟨a,c,l,m1,m2,m3⟩:=hb;have m3:=(m3 _ (bv.2 rfl)).1;refine aj (.bool true) (ah rfl) (by simp[execOp,go_sem,ki,h7,m3.cell]) rfl
     ·intro ρ y W L hw hn s z hb hd;refine ed aG (fun _ _ h=>h) hb ?_;have km:=hw 102 10 rfl;have kh:y 10=_:=hd 10 rfl;obtain⟨a,c,l,m1,m2,m3⟩:=hb;have m3:=(m3 _ (bv.2 rfl)).1;refine aj (.bool false) (aT 9 101 true true rfl rfl ((hw 101 9 rfl).trans (hd 9 rfl))) (by simp[execOp,go_sem,km,kh,m3.cell]) rfl
     ·intro ρ y W L hw hn s z hb hd;refine ed aG (fun _ _ h=>h) hb ?_;have hR:=hw 105 13 rfl;have hJ:y 13=_:=hd 13 rfl;have kl:=hw 108 16 rfl;have kR:y 16=_:=hd 16 rfl;refine aj (.bool false) (ah rfl) (qh rfl (hR.trans hJ) (by exact (hn (.const _) trivial).trans rfl)) ⟨false,fun h=>(by cases h),rfl⟩
     ·intro ρ y W L hw hn s z hb hd;refine ed aG (fun _ _ h=>h) hb ?_;have kj:=hw 98 6 rfl;have h6:y 6=_:=hd 6 rfl;have hQ:=hw 109 17 rfl;have kg:=hd 17 rfl;obtain⟨u,hr,hu⟩:=kg;have EC:∀v,ρ (.const v)=v:=fun v=>hn (.const v) trivial;refine aj (.agg #[.int .i64 1,.int .i64 (f:Int),.bool u]) (ah rfl) (by simp[execOp,go_sem,kj,h6,hQ,EC,hu]) ⟨u,hr,rfl⟩
     intro y W6 hB d;have ks:((cB fun v => ∃u,(u=true→false=true)∧v = .bool u)).r (y 17) W6:=d 17 (by decide);have hK:((cB fun v => ∃u,(u=true→false=true)∧v = .agg #[.int .i64 1,.int .i64 (f:Int),.bool u])).r (y 18) W6:=d 18 (by decide);clear d;obtain⟨a6,c6,l6,h6,s6,_⟩:=hB;obtain⟨u,hr,hu⟩:=hK;rw[hu];clear hu;obtain⟨gT',oT',curT,hk,hO,hy,hs,_,ha⟩:=eD.ent (S:=S5.lst a6 c6 l6) h6 (p:=p) (n:=n) o.out hn (hI.out _ rfl);have e9:(some (⟨gT',oT',none⟩:Addr))=some ⟨gT,oT,none⟩:=hk.symm.trans hl;cases e9;have hL:(p:Int)<(S5.T.length:Int):=by have:=o.out;omega
     have ka:(n:Int)<64:=by omega
     have hh:=Lib.hid ha;have s6:=s5.trans s6;clear ha hk h5 s5
     go_wp2_with (refine aD rfl _ _ _ rfl gT (oT+p*192+n*3) _ (kX ⟨1,f,u⟩) rfl rfl rfl _ _ hy (by rw[fA];exact hs) (by kernel_rfl) (bV (iT _)) ?_)
     intro w7 hC hi;have h7:=hh.out w7 ⟨1,f,u⟩ hC hi;have s7:=s6.put (H':={ S5.lst a6 c6 l6 with T:=setL (S5.lst a6 c6 l6).T p n ⟨1,f,u⟩ }) hi (.inr (by simp only[iA,MW.lst,hl];simp[oB];right;right;right;right;right;right;right;right;rfl)) (fun x hx => .inl hx);clear hy hC hi h6 s6;go_wp2;refine bodyPost_ret (v:=.tuple #[]) (by simp[results,go_sem,results65]) rfl ?_;exact⟨_,rfl,h7,s7,⟨i.out.sp,i.out.fi,i.out.ct,i.out.dk,i.out.fl,i.out.sl⟩,hH.out u (fun h=>by first | exact trivial | exact⟨rfl,rfl⟩ | exact absurd (hr h) (by decide) | simp),hA.out _⟩
   | false=>
    skip;refine ib 20 [_,_,_,.v (.slice (some ⟨gT,oT,none⟩) S5.T.length S5.cb),_,.v (.int .i64 (n:Int)),_,_,.v (.bool false),_,_,_,_,_,_,_,_,.r 17 ((cB fun v => ∃u,(u=true→false=true)∧v = .bool u)),.r 18 ((cB fun v => ∃u,(u=true→false=true)∧v = .agg #[.int .i64 1,.int .i64 (f:Int),.bool u])),_] (Np S5 B b w5 [(w.heap.size,#[.bool true,.bool grd,.bool gwr,.bool false,.int .i64 (F:Int),.int .i64 (I:Int)],109)]) aG (fun _=>⟨S5.al,S5.cl,S5.l,h5,MS.refl _ _ _,by simpa using ⟨bx5,hM.out⟩⟩) (Qk aG rfl (Qk aG rfl (Qf aG b 12 rfl rfl (ag ?_ (Qk aG rfl (Qk aG rfl (Qk aG rfl (Qf aG w.heap.size 3 rfl rfl (ag ?_ (Qk aG rfl (Qk aG rfl (Qk aG rfl (Qk aG rfl (Qk aG rfl (Qk aG rfl (Qk aG rfl (Qk aG rfl (ag ?_ (ag ?_ (Qr aG (.pointer (some ⟨gT,oT+p*192,none⟩)) (fun ρ y W hq=>(bG rfl (aC rfl hq) (aC rfl hq) o.out underlying75 ents_size)) rfl rfl (aB))))))))))))))))))))) (fun _=>rfl) rfl ?_
    ·intro ρ y W L hw hn s z hb hd;refine ed aG (fun _ _ h=>h) hb ?_;have kk:=hw 94 2 rfl;have h2:y 2=_:=hd 2 rfl;obtain⟨a,c,l,m1,m2,m3⟩:=hb;refine aj (.slice (some ⟨gT,oT,none⟩) S5.T.length S5.cb) (ah rfl) (by simp[execOp,go_sem,kk,h2,m1.blk.cell,ja,MW.lst,hl]) rfl
    ·intro ρ y W L hw hn s z hb hd;refine ed aG (fun _ _ h=>h) hb ?_;have ki:=hw 99 7 rfl;have h7:y 7=_:=hd 7 rfl;obtain⟨a,c,l,m1,m2,m3⟩:=hb;have m3:=(m3 _ (bv.2 rfl)).1;refine aj (.bool false) (ah rfl) (by simp[execOp,go_sem,ki,h7,m3.cell]) rfl
    ·intro ρ y W L hw hn s z hb hd;refine ed aG (fun _ _ h=>h) hb ?_;have hR:=hw 105 13 rfl;have hJ:y 13=_:=hd 13 rfl;have kl:=hw 108 16 rfl;have kR:y 16=_:=hd 16 rfl;refine aj (.bool false) (ah rfl) (qh rfl (hR.trans hJ) (by exact (hn (.const _) trivial).trans rfl)) ⟨false,fun h=>(by cases h),rfl⟩
    ·intro ρ y W L hw hn s z hb hd;refine ed aG (fun _ _ h=>h) hb ?_;have kj:=hw 98 6 rfl;have h6:y 6=_:=hd 6 rfl;have hQ:=hw 109 17 rfl;have kg:=hd 17 rfl;obtain⟨u,hr,hu⟩:=kg;have EC:∀v,ρ (.const v)=v:=fun v=>hn (.const v) trivial;refine aj (.agg #[.int .i64 1,.int .i64 (f:Int),.bool u]) (ah rfl) (by simp[execOp,go_sem,kj,h6,hQ,EC,hu]) ⟨u,hr,rfl⟩
    intro y W6 hB d;have ks:((cB fun v => ∃u,(u=true→false=true)∧v = .bool u)).r (y 17) W6:=d 17 (by decide);have hK:((cB fun v => ∃u,(u=true→false=true)∧v = .agg #[.int .i64 1,.int .i64 (f:Int),.bool u])).r (y 18) W6:=d 18 (by decide);clear d;obtain⟨a6,c6,l6,h6,s6,_⟩:=hB;obtain⟨u,hr,hu⟩:=hK;rw[hu];clear hu;obtain⟨gT',oT',curT,hk,hO,hy,hs,_,ha⟩:=eD.ent (S:=S5.lst a6 c6 l6) h6 (p:=p) (n:=n) o.out hn (hI.out _ rfl);have e9:(some (⟨gT',oT',none⟩:Addr))=some ⟨gT,oT,none⟩:=hk.symm.trans hl;cases e9;have hL:(p:Int)<(S5.T.length:Int):=by have:=o.out;omega
    have ka:(n:Int)<64:=by omega
    have hh:=Lib.hid ha;have s6:=s5.trans s6;clear ha hk h5 s5
    go_wp2_with (refine aD rfl _ _ _ rfl gT (oT+p*192+n*3) _ (kX ⟨1,f,u⟩) rfl rfl rfl _ _ hy (by rw[fA];exact hs) (by kernel_rfl) (bV (iT _)) ?_)
    intro w7 hC hi;have h7:=hh.out w7 ⟨1,f,u⟩ hC hi;have s7:=s6.put (H':={ S5.lst a6 c6 l6 with T:=setL (S5.lst a6 c6 l6).T p n ⟨1,f,u⟩ }) hi (.inr (by simp only[iA,MW.lst,hl];simp[oB];right;right;right;right;right;right;right;right;rfl)) (fun x hx => .inl hx);clear hy hC hi h6 s6;go_wp2;refine bodyPost_ret (v:=.tuple #[]) (by simp[results,go_sem,results65]) rfl ?_;exact⟨_,rfl,h7,s7,⟨i.out.sp,i.out.fi,i.out.ct,i.out.dk,i.out.fl,i.out.sl⟩,hH.out u (fun h=>by first | exact trivial | exact⟨rfl,rfl⟩ | exact absurd (hr h) (by decide) | simp),hA.out _⟩
  rw[decide_eq_false hF];obtain rfl:gsh=false:=by
   cases gsh with
   | false=>rfl
   | true=>exact absurd ⟨hsh rfl,.inl rfl⟩ hF
  have ke:=Lib.hid hm.out.few;have gu:S.H.sl.length≤60:=ke.out.2.1;have hc:=h2.blk.cell;unfold ja at hc;dsimp only[MW.lst] at hc;clear hF hsh;go_upto_region 12 with (fail)
  go_cut [113] (fun s113 wx=>s113 = .bool (decide (x=2∧0<S.H.sl.length))∧wx=w2)
  case first=>
   by_cases hx2:x=2
   ·have k2:(x==2)=true:=by simp[hx2]
    have k3:=Lib.hid hx2;clear hx2
    by_cases hsl:0<S.H.sl.length
    ·have k8:(0:Int)<(S.H.sl.length:Int):=by omega
     go_wp2;go_meet
     case rel=>exact⟨by rw[decide_eq_true ⟨k3.out,hsl⟩],rfl⟩
    have k8:¬(0:Int)<(S.H.sl.length:Int):=by omega
    go_wp2;go_meet
    case rel=>exact⟨by rw[decide_eq_false (fun h=>hsl h.2)],rfl⟩
   have k2:(x==2)=false:=by simp[hx2]
   go_wp2;go_meet
   case rel=>exact⟨by rw[decide_eq_false (fun h=>hx2 h.1)],rfl⟩
  case rest=>
   obtain⟨rfl,gt⟩:=hcut;subst wc
   by_cases hS:x=2∧0<S.H.sl.length
   ·rw[decide_eq_true hS];have hsl:=hS.2;clear hS
    go_wp2_with fail
    refine (fD _ _ B b _ h2 (by omega)).mono ?_;rintro r w3 ⟨y3,a3,c3,l3,rfl,h3,s3,k0,_⟩;rw[oq] at h3 s3;have s3:=s2.trans s3;obtain⟨s0,rfl⟩:=fO k0.1;have kB:s0<S.H.sl.length:=by omega
    have gR:(s0:Int)<(S.H.sl.length:Int):=by omega
    clear h2 s2 bx2 hG hc k0;have hc:=h3.blk.cell;unfold ja at hc;dsimp only[MW.lst] at hc;obtain⟨gs,off,cap,cur,hv,kI,hN,ko,hU,hW⟩:=Own.put (enc:=fun x=>[gB x]) (sz:=1) (l:=S.H.sl) (fun _=>rfl) Nat.one_pos (by rw[ji];exact h3.ma.sl) s0 kB;have kP:S.H.asl=some ⟨gs,off,none⟩:=(nJ hv).1;rw[kP] at hc;rw[qI] at ko hU hW;have c0:w3.cell? ⟨gs,off+s0,none⟩=some (.int .i64 S.H.sl[s0]):=hU 0 _ rfl;have kZ:Hid (pu S.H.ma s0=S.H.sl[s0]):=Lib.hid (by unfold pu;show S.H.sl.getD s0 0=_;rw[aV,aI kB];rfl);have hV:=Lib.hid hW;clear hv hW hU;generalize S.H.sl[s0]=v0 at c0 kZ
    by_cases hz:v0=0
    ·subst hz
     go_wp2_with (refine aD rfl _ _ _ rfl gs (off+s0) _ [.int .i64 1] rfl rfl rfl _ _ hN (by show off+s0+1≤cur.size;omega) (by kernel_rfl) (fun u hu=>by cases bv.1 hu;rfl) ?_)
     intro w4 gg kK;have kH:oB (S.lst a3 c3 l3).H.asl=some gs:=by show oB S.H.asl=some gs;rw[kP];rfl
     have h4:eD w4 B b { S.lst a3 c3 l3 with H:={ S.H with sl:=S.H.sl.set s0 1 } }:=h3.putS hN kI kH kK (sl:=S.H.sl.set s0 1) (by simp[MW.lst]) (by have:=hV.out w4 1 gg;rw[ji] at this;simpa[MW.lst] using this);have s4:=s3.put (H':={ S.lst a3 c3 l3 with H:={ S.H with sl:=S.H.sl.set s0 1 } }) kK (.inr (by simp[iA,kH])) (fun x hx => .inl hx);have gQ:S.H.sw.blocks.length=S.H.sl.length:=ke.out.2.2.2.2.2.2.2;have gD:Hid (JL S { S.lst a3 c3 l3 with H:={ S.H with sl:=S.H.sl.set s0 1 } }):=Lib.hid ⟨rfl,rfl,rfl,rfl,rfl,bP⟩;have kq:S.T.length=S.H.sp.length:=by have:=hm.out.ok.len;rw[this];exact eH _
     have hD:p<S.T.length:=by omega
     have gE:(eY S.T p).length=64:=hm.out.ok.l64 (by rw[←hm.out.ok.len];exact hD);have hH:Hid (∀P,Bd { S.H.ma with sl:=S.H.sl.set s0 1,sw:=⟨S.H.sw.blocks.set s0 P,S.H.sw.queue⟩ } (setL S.T p n ⟨2,s0,false⟩)):=Lib.hid fun P=>
      hm.out.slotE (P:=P) (by rw[←hm.out.ok.len];exact hD) hn kS.out kB kZ.out kL.out rfl
     have hA:Hid (∀x q j,¬(q=p∧j=n)→fq (setL S.T p n x) q j=fq S.T q j):=Lib.hid fun x q j kb=>by rw[wO hm.out.ok (by rw[←hm.out.ok.len];exact hD) hn,if_neg kb]
     obtain⟨gw,ow,capw,curw,k7,gS,_,_,_,_⟩:=h4.ma.sw.b.put kC (by decide) s0 (by show s0<S.H.sw.blocks.length;omega);have kf:S.H.wb=some ⟨gw,ow,none⟩:=(nJ k7).1;generalize hS4:({ S.lst a3 c3 l3 with H:={ S.H with sl:=S.H.sl.set s0 1 } }:MW)=S4 at h4 s4 gD;have kf:S4.H.wb=some ⟨gw,ow,none⟩:=by rw[←hS4];exact kf
     have ku:S4.H.sw=S.H.sw:=by rw[←hS4]
     clear h3 s3 gg kK hN ko c0 hc kP kH k7;go_upto_region 16 with (fail);refine ib 9 [_,_,_,_,_,.v (.slice (some ⟨gw,ow,none⟩) S4.H.sw.blocks.length S4.H.cwb),.v (.int .i64 (s0:Int)),_,.r 8 ((cB fun v => ∃P,v = .agg (fQ P)))] (Np S4 B b w4 []) aG (fun _=>⟨S4.al,S4.cl,S4.l,h4,MS.refl _ _ _,fun t ht=>(by cases ht)⟩) (Qk aG rfl (Qk aG rfl (Qf aG b 1 rfl rfl (Qf aG b 4 rfl rfl (Qf aG b 4 rfl rfl (ag ?_ (Qk aG rfl (Qk aG rfl (ag ?_ (aB)))))))))) (fun _=>rfl) rfl ?_
     ·intro ρ y W L hw hn s z hb hd;refine ed aG (fun _ _ h=>h) hb ?_;have gl:=hw 153 4 rfl;have h4:y 4=_:=hd 4 rfl;obtain⟨a,c,l,m1,m2,m3⟩:=hb;refine aj (.slice (some ⟨gw,ow,none⟩) S4.H.sw.blocks.length S4.H.cwb) (ah rfl) (by simp[execOp,go_sem,gl,h4,m1.blk.cell,ja,MW.lst,kf]) rfl
     ·intro ρ y W L hw hn s z hb hd;have gk:=hw 156 7 rfl;have h7:y 7=_:=hd 7 rfl;have EF:∀f,ρ (.func f) = .func (.func f) #[] #[]:=fun f=>hn (.func f) trivial;refine ig _ _ (ah rfl) (aO rfl (EF _) func33 (by kernel_rfl) (by kernel_rfl) (by simp only[bH,bA,bB,gk,h7,EF];rfl)) ?_;exact RA hb fun P _=>⟨P,rfl⟩
     intro y W6 hB d;have gp:((cB fun v => ∃P,v = .agg (fQ P))).r (y 8) W6:=d 8 (by decide);clear d;obtain⟨a6,c6,l6,h6,s6,_⟩:=hB;obtain⟨P,hP⟩:=gp;rw[hP];clear hP;have s6:=s4.trans s6;obtain⟨gw',ow',capw',curw',kt,kG,kc,ky,_,kx⟩:=h6.ma.sw.b.put kC (by decide) s0 (by show s0<S4.H.sw.blocks.length;rw[ku];omega);have e9:(some (⟨gw',ow',none⟩:Addr))=some ⟨gw,ow,none⟩:=(nJ kt).1.symm.trans kf;cases e9;have gv:(s0:Int)<(S4.H.sw.blocks.length:Int):=by rw[ku];omega
     have kF:=Lib.hid kx;clear kt kx h4 s4
     go_wp2_with (refine aD rfl _ _ _ rfl gw (ow+s0*8) _ (BC P) rfl rfl rfl _ _ kc (by rw[kC];exact ky) (by kernel_rfl) (bV (fT P)) ?_)
     intro w7 hC hi;have kz:oB (S4.lst a6 c6 l6).H.wb=some gw:=by show oB S4.H.wb=some gw;rw[kf];rfl
     have h7:eD w7 B b { S4.lst a6 c6 l6 with H:={ S4.H with sw:=⟨S4.H.sw.blocks.set s0 P,S4.H.sw.queue⟩ } }:=h6.putW kc kG kz hi (l:=S4.H.sw.blocks.set s0 P) (by simp[MW.lst]) (by simpa[MW.lst] using kF.out w7 P hC);have s7:=s6.put (H':={ S4.lst a6 c6 l6 with H:={ S4.H with sw:=⟨S4.H.sw.blocks.set s0 P,S4.H.sw.queue⟩ } }) hi (.inr (by simp[iA,kz])) (fun x hx => .inl hx);clear h6 s6 kc hC hi ky gv;subst hS4;dsimp only[MW.lst] at h7 s7;obtain⟨gT,oT,curT,hl,hO,hy,hs,_,ha⟩:=eD.ent h7 (p:=p) (n:=n) hD hn gE;have hl:S.ab=some ⟨gT,oT,none⟩:=hl;have hc:=h7.blk.cell;unfold ja at hc;dsimp only at hc;rw[hl] at hc;have hL:(p:Int)<(S.T.length:Int):=by omega
     have ka:(n:Int)<64:=by omega
     have hh:=Lib.hid ha;clear ha
     go_wp2_with (refine aD rfl _ _ _ rfl gT (oT+p*192+n*3) _ (kX ⟨2,s0,false⟩) rfl rfl rfl _ _ hy (by rw[fA];exact hs) (by kernel_rfl) (bV (iT _)) ?_)
     intro w8 ge kJ;have h8:=hh.out w8 ⟨2,s0,false⟩ ge kJ;have s8:=s7.put kJ (.inr (by simp only[iA,hl];simp[oB];right;right;right;right;right;right;right;right;rfl)) (fun x hx => .inl hx) (H':=_);clear h7 s7 hc ge kJ hy;go_wp2;refine bodyPost_ret (v:=.tuple #[]) (by simp[results,go_sem,results65]) rfl ?_;exact⟨_,rfl,h8,s8.same rfl,⟨rfl,rfl,rfl,rfl,rfl,bP⟩,hH.out P,hA.out _⟩
    go_wp2;refine bodyPost_ret (v:=.tuple #[]) (by simp[results,go_sem,results65]) rfl ?_;exact⟨_,rfl,h3,s3,⟨rfl,rfl,rfl,rfl,rfl,rfl⟩,hm.out,fun _ _ _=>rfl⟩
   rw[decide_eq_false hS];clear hS hc
   go_wp2_with fail
   refine (xI _ B b _ h2).mono ?_;rintro r w3 ⟨P,a3,c3,l3,rfl,h3,s3⟩;rw[oq] at h3 s3;have bx3:=s3.blkN bx2 hT.out;have s3:=s2.trans s3;clear h2 s2 bx2 hG;have hG:=bx3.cell;unfold fQ
   go_wp2_with fail
   refine (fD _ 2 B b _ h3 (by omega)).mono ?_;rintro r w4 ⟨y3,a4,c4,l4,rfl,h4,s4,_,_⟩;rw[oq] at h4 s4;have bx4:=s4.blkN bx3 hT.out;have s4:=s3.trans s4;clear h3 s3 bx3 hG;have hG:=bx4.cell
   go_wp2_with fail
   refine (DK _ ⟨P,1,y3==1,false,-1,0⟩ B b _ h4 (by have:=ke.out.1;show S.H.m.fs.length≤1000;have e:S.H.ma.m.fs.length=S.H.m.fs.length:=rfl;omega)).mono ?_;rintro r w5 ⟨xf,a5,c5,l5,fs,rfl,h5,s5,gq⟩;rw[oq] at h5 s5;have bx5:=s5.blkN bx4 hT.out;have hM:=Lib.hid (s5.not bx4.lt hT.out);have s5:=s4.trans s5;clear h4 s4 bx4 hG;rcases gq with ⟨rfl,rfl⟩|⟨f,rfl,hj,hjr,rfl⟩
   ·go_wp2;refine bodyPost_ret (v:=.tuple #[]) (by simp[results,go_sem,results65]) rfl ?_;exact⟨_,rfl,h5,s5,⟨rfl,rfl,rfl,rfl,rfl,rfl⟩,hm.out,fun _ _ _=>rfl⟩
   have gz:f<S.H.m.fs.length:=hj;have kq:S.T.length=S.H.sp.length:=by have:=hm.out.ok.len;rw[this];exact eH _
   have hD:p<S.T.length:=by omega
   have hH:Hid (∀u:Bool,(u=true→gwr=true)→Bd ((S.lst a5 c5 l5).frs (S.H.m.fs.set f ⟨P,1,y3==1,false,-1,0⟩)).H.ma (setL ((S.lst a5 c5 l5).frs (S.H.m.fs.set f ⟨P,1,y3==1,false,-1,0⟩)).T p n ⟨1,f,u⟩)):=Lib.hid fun u hu=>
    hm.out.anonE (X:=⟨P,1,y3==1,false,-1,0⟩) (w:=u) (by rw[←hm.out.ok.len];exact hD) hn kS.out gz hjr ⟨rfl,rfl,rfl,rfl⟩ kL.out rfl hu
   have i:Hid (JL S ((S.lst a5 c5 l5).frs (S.H.m.fs.set f ⟨P,1,y3==1,false,-1,0⟩))):=Lib.hid ⟨rfl,rfl,rfl,rfl,bP,rfl⟩;have hA:Hid (∀x q j,¬(q=p∧j=n)→fq (setL ((S.lst a5 c5 l5).frs (S.H.m.fs.set f ⟨P,1,y3==1,false,-1,0⟩)).T p n x) q j=fq S.T q j):=Lib.hid fun x q j kb=>by show fq (setL S.T p n x) q j=_;rw[wO hm.out.ok (by rw[←hm.out.ok.len];exact hD) hn,if_neg kb]
   have o:Hid (p<((S.lst a5 c5 l5).frs (S.H.m.fs.set f ⟨P,1,y3==1,false,-1,0⟩)).T.length):=Lib.hid hD;have hI:Hid (∀S' : MW,S'.T=((S.lst a5 c5 l5).frs (S.H.m.fs.set f ⟨P,1,y3==1,false,-1,0⟩)).T→(eY S'.T p).length=64):=Lib.hid fun S' e=>by rw[e];exact hm.out.ok.l64 (by rw[←hm.out.ok.len];exact hD)
   have h5:eD w5 B b ((S.lst a5 c5 l5).frs (S.H.m.fs.set f ⟨P,1,y3==1,false,-1,0⟩)):=h5;have s5:MS w b S w5 ((S.lst a5 c5 l5).frs (S.H.m.fs.set f ⟨P,1,y3==1,false,-1,0⟩)):=s5;have hM:Hid (¬mR b ((S.lst a5 c5 l5).frs (S.H.m.fs.set f ⟨P,1,y3==1,false,-1,0⟩)) w.heap.size):=hM;have gX:(0:Int)≤(f:Int):=by omega
   clear hj hjr hD kq;generalize (S.lst a5 c5 l5).frs (S.H.m.fs.set f ⟨P,1,y3==1,false,-1,0⟩)=S5 at *
   obtain⟨gT,oT,_,hl,_⟩:=eD.ent (S:=S5) h5 (p:=p) (n:=n) o.out hn (hI.out _ rfl);go_upto_region 4 with (fail);cases gwr with
   | true=>
    skip;refine ib 16 [_,_,_,.v (.slice (some ⟨gT,oT,none⟩) S5.T.length S5.cb),_,.v (.int .i64 (n:Int)),_,_,.v (.bool true),_,_,.r 11 ((cB fun v => ∃x:Int,v = .int .i64 x∧0≤x)),.r 12 ((cB fun v => ∃u,v = .bool u)),.r 13 ((cB fun v => ∃u,(u=true→true=true)∧v = .bool u)),.r 14 ((cB fun v => ∃u,(u=true→true=true)∧v = .agg #[.int .i64 1,.int .i64 (f:Int),.bool u])),_] (Np S5 B b w5 [(w.heap.size,#[.bool true,.bool grd,.bool true,.bool false,.int .i64 gfi,.int .i64 (I:Int)],109)]) aG (fun _=>⟨S5.al,S5.cl,S5.l,h5,MS.refl _ _ _,by simpa using ⟨bx5,hM.out⟩⟩) (Qk aG rfl (Qk aG rfl (Qf aG b 12 rfl rfl (ag ?_ (Qk aG rfl (Qk aG rfl (Qk aG rfl (Qf aG w.heap.size 2 rfl rfl (ag ?_ (Qk aG rfl (Qk aG rfl (ag ?_ (ag ?_ (ag ?_ (ag ?_ (Qr aG (.pointer (some ⟨gT,oT+p*192,none⟩)) (fun ρ y W hq=>(bG rfl (aC rfl hq) (aC rfl hq) o.out underlying75 ents_size)) rfl rfl (aB))))))))))))))))) (fun _=>rfl) rfl ?_
    ·intro ρ y W L hw hn s z hb hd;refine ed aG (fun _ _ h=>h) hb ?_;have kY:=hw 26 2 rfl;have h2:y 2=_:=hd 2 rfl;obtain⟨a,c,l,m1,m2,m3⟩:=hb;refine aj (.slice (some ⟨gT,oT,none⟩) S5.T.length S5.cb) (ah rfl) (by simp[execOp,go_sem,kY,h2,m1.blk.cell,ja,MW.lst,hl]) rfl
    ·intro ρ y W L hw hn s z hb hd;refine ed aG (fun _ _ h=>h) hb ?_;have kV:=hw 31 7 rfl;have h7:y 7=_:=hd 7 rfl;obtain⟨a,c,l,m1,m2,m3⟩:=hb;have m3:=(m3 _ (bv.2 rfl)).1;refine aj (.bool true) (ah rfl) (by simp[execOp,go_sem,kV,h7,m3.cell]) rfl
    ·intro ρ y W L hw hn s z hb hd;have gK:=hw 34 10 rfl;have kh:y 10=_:=hd 10 rfl;have EC:∀v,ρ (.const v)=v:=fun v=>hn (.const v) trivial;have EF:∀f,ρ (.func f) = .func (.func f) #[] #[]:=fun f=>hn (.func f) trivial;refine ig _ _ (aT 9 33 true true rfl rfl ((hw 33 9 rfl).trans (hd 9 rfl))) (aO rfl (EF _) func30 (by kernel_rfl) (by kernel_rfl) (by simp only[bH,bA,bB,gK,kh,EC,EF];rfl)) ?_;exact zP 2 (by omega) hb fun x h1 _ _ _=>⟨x,rfl,h1⟩
    ·intro ρ y W L hw hn s z hb hd;refine ed aG (fun _ _ h=>h) hb ?_;have gJ:=hw 35 11 rfl;have gI:=hd 11 rfl;obtain⟨x,hx,_⟩:=gI;refine aj _ (aT 9 33 true true rfl rfl ((hw 33 9 rfl).trans (hd 9 rfl))) (pU rfl (gJ.trans hx) (hn (.const _) trivial) (by simp[go_sem];rfl)) ⟨_,rfl⟩
    ·intro ρ y W L hw hn s z hb hd;refine ed aG (fun _ _ h=>h) hb ?_;have kU:=hw 33 9 rfl;have h9:y 9=_:=hd 9 rfl;have gj:=hw 36 12 rfl;have gi:=hd 12 rfl;obtain⟨u,hu⟩:=gi;refine aj (.bool u) (ah rfl) (qh rfl (kU.trans h9) (by simpa using gj.trans hu)) ⟨_,fun _=>rfl,rfl⟩
    ·intro ρ y W L hw hn s z hb hd;refine ed aG (fun _ _ h=>h) hb ?_;have kW:=hw 30 6 rfl;have h6:y 6=_:=hd 6 rfl;have kT:=hw 37 13 rfl;have hJ:=hd 13 rfl;obtain⟨u,hr,hu⟩:=hJ;have EC:∀v,ρ (.const v)=v:=fun v=>hn (.const v) trivial;refine aj (.agg #[.int .i64 1,.int .i64 (f:Int),.bool u]) (ah rfl) (by simp[execOp,go_sem,kW,h6,kT,EC,hu]) ⟨u,hr,rfl⟩
    intro y W6 hB d;have gO:((cB fun v => ∃x:Int,v = .int .i64 x∧0≤x)).r (y 11) W6:=d 11 (by decide);have gN:((cB fun v => ∃u,v = .bool u)).r (y 12) W6:=d 12 (by decide);have k1:((cB fun v => ∃u,(u=true→true=true)∧v = .bool u)).r (y 13) W6:=d 13 (by decide);have hZ:((cB fun v => ∃u,(u=true→true=true)∧v = .agg #[.int .i64 1,.int .i64 (f:Int),.bool u])).r (y 14) W6:=d 14 (by decide);clear d;obtain⟨a6,c6,l6,h6,s6,_⟩:=hB;obtain⟨u,hr,hu⟩:=hZ;rw[hu];clear hu;obtain⟨gT',oT',curT,hk,hO,hy,hs,_,ha⟩:=eD.ent (S:=S5.lst a6 c6 l6) h6 (p:=p) (n:=n) o.out hn (hI.out _ rfl);have e9:(some (⟨gT',oT',none⟩:Addr))=some ⟨gT,oT,none⟩:=hk.symm.trans hl;cases e9;have hL:(p:Int)<(S5.T.length:Int):=by have:=o.out;omega
    have ka:(n:Int)<64:=by omega
    have hh:=Lib.hid ha;have s6:=s5.trans s6;clear ha hk h5 s5
    go_wp2_with (refine aD rfl _ _ _ rfl gT (oT+p*192+n*3) _ (kX ⟨1,f,u⟩) rfl rfl rfl _ _ hy (by rw[fA];exact hs) (by kernel_rfl) (bV (iT _)) ?_)
    intro w7 hC hi;have h7:=hh.out w7 ⟨1,f,u⟩ hC hi;have s7:=s6.put (H':={ S5.lst a6 c6 l6 with T:=setL (S5.lst a6 c6 l6).T p n ⟨1,f,u⟩ }) hi (.inr (by simp only[iA,MW.lst,hl];simp[oB];right;right;right;right;right;right;right;right;rfl)) (fun x hx => .inl hx);clear hy hC hi h6 s6;go_wp2;refine bodyPost_ret (v:=.tuple #[]) (by simp[results,go_sem,results65]) rfl ?_;exact⟨_,rfl,h7,s7,⟨i.out.sp,i.out.fi,i.out.ct,i.out.dk,i.out.fl,i.out.sl⟩,hH.out u (fun h=>by first | exact trivial | exact⟨rfl,rfl⟩ | exact absurd (hr h) (by decide) | simp),hA.out _⟩
   | false=>
    skip;refine ib 16 [_,_,_,.v (.slice (some ⟨gT,oT,none⟩) S5.T.length S5.cb),_,.v (.int .i64 (n:Int)),_,_,.v (.bool false),_,_,_,_,.r 13 ((cB fun v => ∃u,(u=true→false=true)∧v = .bool u)),.r 14 ((cB fun v => ∃u,(u=true→false=true)∧v = .agg #[.int .i64 1,.int .i64 (f:Int),.bool u])),_] (Np S5 B b w5 [(w.heap.size,#[.bool true,.bool grd,.bool false,.bool false,.int .i64 gfi,.int .i64 (I:Int)],109)]) aG (fun _=>⟨S5.al,S5.cl,S5.l,h5,MS.refl _ _ _,by simpa using ⟨bx5,hM.out⟩⟩) (Qk aG rfl (Qk aG rfl (Qf aG b 12 rfl rfl (ag ?_ (Qk aG rfl (Qk aG rfl (Qk aG rfl (Qf aG w.heap.size 2 rfl rfl (ag ?_ (Qk aG rfl (Qk aG rfl (Qk aG rfl (Qk aG rfl (ag ?_ (ag ?_ (Qr aG (.pointer (some ⟨gT,oT+p*192,none⟩)) (fun ρ y W hq=>(bG rfl (aC rfl hq) (aC rfl hq) o.out underlying75 ents_size)) rfl rfl (aB))))))))))))))))) (fun _=>rfl) rfl ?_
    ·intro ρ y W L hw hn s z hb hd;refine ed aG (fun _ _ h=>h) hb ?_;have kY:=hw 26 2 rfl;have h2:y 2=_:=hd 2 rfl;obtain⟨a,c,l,m1,m2,m3⟩:=hb;refine aj (.slice (some ⟨gT,oT,none⟩) S5.T.length S5.cb) (ah rfl) (by simp[execOp,go_sem,kY,h2,m1.blk.cell,ja,MW.lst,hl]) rfl
    ·intro ρ y W L hw hn s z hb hd;refine ed aG (fun _ _ h=>h) hb ?_;have kV:=hw 31 7 rfl;have h7:y 7=_:=hd 7 rfl;obtain⟨a,c,l,m1,m2,m3⟩:=hb;have m3:=(m3 _ (bv.2 rfl)).1;refine aj (.bool false) (ah rfl) (by simp[execOp,go_sem,kV,h7,m3.cell]) rfl
    ·intro ρ y W L hw hn s z hb hd;refine ed aG (fun _ _ h=>h) hb ?_;have kU:=hw 33 9 rfl;have h9:y 9=_:=hd 9 rfl;have gj:=hw 36 12 rfl;have gi:y 12=_:=hd 12 rfl;refine aj (.bool false) (ah rfl) (qh rfl (kU.trans h9) (by exact (hn (.const _) trivial).trans rfl)) ⟨false,fun h=>(by cases h),rfl⟩
    ·intro ρ y W L hw hn s z hb hd;refine ed aG (fun _ _ h=>h) hb ?_;have kW:=hw 30 6 rfl;have h6:y 6=_:=hd 6 rfl;have kT:=hw 37 13 rfl;have hJ:=hd 13 rfl;obtain⟨u,hr,hu⟩:=hJ;have EC:∀v,ρ (.const v)=v:=fun v=>hn (.const v) trivial;refine aj (.agg #[.int .i64 1,.int .i64 (f:Int),.bool u]) (ah rfl) (by simp[execOp,go_sem,kW,h6,kT,EC,hu]) ⟨u,hr,rfl⟩
    intro y W6 hB d;have k1:((cB fun v => ∃u,(u=true→false=true)∧v = .bool u)).r (y 13) W6:=d 13 (by decide);have hZ:((cB fun v => ∃u,(u=true→false=true)∧v = .agg #[.int .i64 1,.int .i64 (f:Int),.bool u])).r (y 14) W6:=d 14 (by decide);clear d;obtain⟨a6,c6,l6,h6,s6,_⟩:=hB;obtain⟨u,hr,hu⟩:=hZ;rw[hu];clear hu;obtain⟨gT',oT',curT,hk,hO,hy,hs,_,ha⟩:=eD.ent (S:=S5.lst a6 c6 l6) h6 (p:=p) (n:=n) o.out hn (hI.out _ rfl);have e9:(some (⟨gT',oT',none⟩:Addr))=some ⟨gT,oT,none⟩:=hk.symm.trans hl;cases e9;have hL:(p:Int)<(S5.T.length:Int):=by have:=o.out;omega
    have ka:(n:Int)<64:=by omega
    have hh:=Lib.hid ha;have s6:=s5.trans s6;clear ha hk h5 s5
    go_wp2_with (refine aD rfl _ _ _ rfl gT (oT+p*192+n*3) _ (kX ⟨1,f,u⟩) rfl rfl rfl _ _ hy (by rw[fA];exact hs) (by kernel_rfl) (bV (iT _)) ?_)
    intro w7 hC hi;have h7:=hh.out w7 ⟨1,f,u⟩ hC hi;have s7:=s6.put (H':={ S5.lst a6 c6 l6 with T:=setL (S5.lst a6 c6 l6).T p n ⟨1,f,u⟩ }) hi (.inr (by simp only[iA,MW.lst,hl];simp[oB];right;right;right;right;right;right;right;right;rfl)) (fun x hx => .inl hx);clear hy hC hi h6 s6;go_wp2;refine bodyPost_ret (v:=.tuple #[]) (by simp[results,go_sem,results65]) rfl ?_;exact⟨_,rfl,h7,s7,⟨i.out.sp,i.out.fi,i.out.ct,i.out.dk,i.out.fl,i.out.sl⟩,hH.out u (fun h=>by first | exact trivial | exact⟨rfl,rfl⟩ | exact absurd (hr h) (by decide) | simp),hA.out _⟩
def PK (B:Nat):lT:=⟨fun v w => ∃g,v = .pointer (some ⟨g,0,none⟩)∧aA w g (fC f0) 110∧B≤g,fun _ _ _ hb ⟨g,h1,h2,h3⟩=>⟨g,h1,h2.ext hb,h3⟩⟩
theorem Oh {l:List lT} (hp:l.getD q anyR=PK B) (hq:l.getD p anyR=PK B):Gm (rl l) p q i (.pointer (some ⟨w.heap.size,0,none⟩)) w:=by
 refine JR (fun u hu => ?_) (fun u hu => ?_)
 ·unfold rl at hu;rw[hp] at hu;obtain⟨g,h1,h2,_⟩:=hu;exact⟨g,_,_,h1,h2⟩
 unfold rl at hu;rw[hq] at hu;obtain⟨g,h1,h2,_⟩:=hu;exact⟨g,_,_,h1,h2⟩
theorem DU {l:List lT} (v:Value) (hw:Region.wanted o (gN ρ ops)=true) (hrun:(execOp ρ o).run P w = .ok (.value v) w') (hb:Below w.heap.size w w') (hR:rl l i v w') (hN:Gm (rl l) p q i v w) :
  if Region.wanted o (gN ρ ops)=true then dP P o ρ w (fun v w'=>(Below w.heap.size w w'∧rl l i v w')∧Gm (rl l) p q i v w) else rl l i undef w∧i≠p∧i≠q:=by
 rw[if_pos hw];unfold dP;rw[hrun];exact⟨⟨hb,hR⟩,hN⟩
theorem RL (l:List Ar) (x:Ar) (a:Option Addr) (c:Nat) (w:World) (h:WI w a c l) :
  Calls Tryz.prog 64 #[.slice a l.length c,.agg (oz x)] w fun r w' => ∃v,r = .returned (.tuple #[v,.int .i64 (BK l x)])∧Own w' w.heap.size 99 7 v (zn l x).length ((zn l x).flatMap mP)∧Below w.heap.size w w':=by
 go_enter func64,ntmps64;go_upto_region 1 with (fail);refine gF (fun W=>Code.wp _ _ _ _ W) fun W0 hT h5 km => ?_;clear km
 go_wp2_with fail
 refine (Fx l a c _ (h.below hT)).mono ?_;rintro r w1 ⟨rfl,ha⟩;have hs:=ae hT ha;have h4:=h5.ext ha;clear hT h5 ha;unfold Ka
 go_wp2_with (refine aF rfl _ _ _ rfl #[.int .i64 (bJ l).1,.int .i64 (bJ l).2] rfl rfl rfl fau_size (mO _ _) ?_)
 intro w2 hS hv;have b:=ae hs hS;have hL:=h4.ext hS;clear hs h4 hS
 by_cases hw:(bJ l).1=0
 ·have ht:=iL.1 hw;have hM:=Lib.hid hw;have hc:=lD ht.2;rw[hw] at hv;have ka:=hv.cell;clear hw
  go_wp2_with (refine ax _ _ rfl _ 0 rfl rfl _ hL.rd _ underlying99 rfl area_size ?_)
  refine (GR x _).mono ?_;rintro r w3 ⟨rfl,hR⟩;have b:=ae b hR;have hZ:=hL.ext hR;clear ka hv hL hR
  by_cases he:aS x=0
  ·have o:=Lib.hid he;rw[he];clear he;go_upto_region 7 with (fail);refine SF 7 5 6 [ve (.slice a l.length c),ve (.agg (fC (bZ l))),ve (.agg (oz x)),(Xt x),ve (.agg (fC (bZ [x]))),(PK w.heap.size),(PK w.heap.size)] (by kernel_rfl) (by decide) (by decide) (by decide) _ rfl (by kernel_rfl) (by kernel_rfl) (by decide) _ rfl (by kernel_rfl) (ag (uO (by decide) (by decide) (XP (XM rfl) (XJ rfl (XR rfl rfl) rfl))) (ag ?_ (ag ?_ (ag ?_ (ag ?_ (ag ?_ (ag ?_ (aB)))))))) ?_
   ·refine uO (by decide) (by decide) ?_;intro ρ y W hw hn hb hd;have ku:=hw 23 0 rfl;have h0:y 0=_:=hd 0 rfl;have EF:∀f,ρ (.func f) = .func (.func f) #[] #[]:=fun f=>hn (.func f) trivial;refine aL _ _ (ah rfl) (aO rfl (EF _) func49 (by kernel_rfl) (by kernel_rfl) (by simp only[bH,bA,bB,ku,h0,EF];rfl)) ?_;refine (nL l a c W (h.below (ae b hb)).rd (by omega) (fun x hx=>(srtF_ok hc x hx).1)).mono ?_;rintro r w1 ⟨rfl,ha⟩;exact⟨_,rfl,ha,rfl⟩
   ·refine uO (by decide) (by decide) ?_;intro ρ y W hw hn hb hd;have E3:ρ (.tmp 3) = .pointer (some ⟨w.heap.size,0,none⟩):=(hn (.tmp 3) rfl).trans rfl;refine aj (.agg (oz x)) (ah rfl) (bn rfl E3 (hZ.ext hb) underlying99 rfl area_size) rfl
   ·refine uO (by decide) (by decide) ?_;intro ρ y W hw hn hb hd;have kt:=hw 25 2 rfl;have h2:y 2=_:=hd 2 rfl;refine jT (.slice (some ⟨W.heap.size,0,none⟩) 1 1) (ah rfl) (by simp[execOp,go_sem,dm,kt,h2,oz]) ((Below.refl _ _).alloc (az _) (.cells (oz x) 99)) ?_;exact⟨_,rfl,aA.new _ _ _⟩
   ·refine uO (by decide) (by decide) ?_;intro ρ y W hw hn hb hd;have ks:=hw 26 3 rfl;have h3:=hd 3 rfl;have EF:∀f,ρ (.func f) = .func (.func f) #[] #[]:=fun f=>hn (.func f) trivial;obtain⟨gq,kp,kn⟩:=h3;refine aL _ _ (ah rfl) (aO rfl (EF _) func49 (by kernel_rfl) (by kernel_rfl) (by simp only[bH,bA,bB,ks,EF,kp];rfl)) ?_;refine (nL [x] _ 1 W (fun j u hj=>kn.rd j u (by simpa[mP] using hj)) (by simp) (fun z hz=>by rw[bv.1 hz];exact o.out)).mono ?_;rintro r w1 ⟨rfl,ha⟩;exact⟨_,rfl,ha,rfl⟩
   ·intro ρ y W hw hn hb hd;refine DU (.pointer (some ⟨W.heap.size,0,none⟩)) (ah rfl) (w':=W.alloc (.cells (fC f0) 110)) ?_ ((Below.refl _ _).alloc (az _) _) ⟨_,rfl,aA.new _ _ _,(ae b hb).size⟩ (Oh rfl rfl);simp[execOp,go_sem,dm,dm];rfl
   ·intro ρ y W hw hn hb hd;refine DU (.pointer (some ⟨W.heap.size,0,none⟩)) (ah rfl) (w':=W.alloc (.cells (fC f0) 110)) ?_ ((Below.refl _ _).alloc (az _) _) ⟨_,rfl,aA.new _ _ _,(ae b hb).size⟩ (Oh rfl rfl);simp[execOp,go_sem,dm,dm];rfl
   intro y WA hH d hB;have hW:y 1=_:=d 1 (by decide);have hV:y 4=_:=d 4 (by decide);have kl:=d 3 (by decide);have kk:((PK w.heap.size)).r (y 5) WA:=d 5 (by decide);have kj:((PK w.heap.size)).r (y 6) WA:=d 6 (by decide);clear d;simp only[lay,cz,dm,bA,bB,Nat.reduceAdd,Nat.reduceLT,decide_true,decide_false,if_true,vK,if_false,CU,qO,vE,Aw,De,Al,hW,hV];clear hW hV;obtain⟨gX,hK,kc,h9⟩:∃g,y 5 = .pointer (some ⟨g,0,none⟩)∧aA WA g (fC f0) 110∧w.heap.size≤g:=kk;obtain⟨gY,hJ,kb,kq⟩:∃g,y 6 = .pointer (some ⟨g,0,none⟩)∧aA WA g (fC f0) 110∧w.heap.size≤g:=kj;have hU:gX≠gY:=fun e=>hB (by rw[hK,hJ,e]);simp only[hK,hJ];have s:=ae b hH;clear kl hK hJ hB b hZ hH;go_upto_region 8 with (refine ay rfl _ _ _ rfl gX (fC (bZ l)) rfl rfl _ _ kc (by rw[jy,jy]) (by rw[jy];exact ones_size) (zF _) ?_);intro W5 ki hm;have t:=s.grown hm s.size (fun k hk=>by cases hk;exact h9);have kf:aA W5 gY (fC f0) 110:=kb.grown hm (fun e=>hU (aJ e));clear s kc kb hm;go_upto_region 8 with (refine ay rfl _ _ _ rfl gY (fC (bZ [x])) rfl rfl _ _ kf (by rw[jy,jy]) (by rw[jy];exact ones_size) (zF _) ?_);intro W6 ke hl;have hr:=t.grown hl t.size (fun k hk=>by cases hk;exact kq);have kh:aA W6 gX (fC (bZ l)) 110:=ki.grown hl (fun e=>hU (aJ e).symm);clear t ki kf hl;go_upto_region 9 with (fail)
   go_loopw [28] (fun i wr => ∃n:Nat,n≤64∧i = .int .i64 n∧Below w.heap.size w wr∧aA wr gX (fC (uy x n (bZ l))) 110∧aA wr gY (fC (bZ [x])) 110∧∀i:Nat,i<n→¬(oI (i:Int) x=true∧onA l i≠none)) (fun i _=>64-(intOf i).toNat)
   case atStart=>exact⟨0,by omega,rfl,hr,by rw[Mx];exact kh,ke,fun i hi=>absurd hi (eG _)⟩
   case round=>
    clear hr kh ke;obtain⟨n,hn,rfl,m,hX,hY,hE⟩:=hrel;have hO:=Lib.hid hE;clear hE
    by_cases hlt:n<64
    ·have kv:(n:Int)<64:=by omega
     have dX:wr.cell? ⟨gX,n*6,none⟩=some (.bool (onA l n).isSome):=by rw[hX.cell];exact zV (uy x n (bZ l)) n 0 hlt _ (by rw[Vs,nS hc];rfl) (by decide)
     have dY:wr.cell? ⟨gY,n*6,none⟩=some (.bool (bZ [x] n).isSome):=by rw[hY.cell];exact zV (bZ [x]) n 0 hlt _ rfl (by decide)
     rw[TI] at dY
     by_cases hin:oI (n:Int) x=true
     ·rw[if_pos hin] at dY;cases hon:onA l (n:Int) with
      | some p=>
       rw[hon] at dX;simp only[Option.isSome] at dX dY;have q0:Hid _:=Lib.hid (Jp (l:=l) (x:=x) (e:=6) (by unfold BK;rw[if_neg (by rw[hM.out];simp),if_neg (by rw[o.out];simp),if_pos (SH hin (by rw[hon];simp))]) (by decide));have b:=m;clear hin hon;go_wp2;go_ret2;have q:=q0.out;exact⟨.slice none 0 0,by first | (rw[q.1];done) | (rw[q.1];rfl),by rw[q.2];exact Own.nil _ _ _ _,b⟩
      | none=>
       rw[hon] at dX;simp only[Option.isSome] at dX dY;have hC:Hid (bD (fC (uy x n (bZ l))) (n*6) (qp (some (ko x n)))=fC (uy x (n+1) (bZ l))):=Lib.hid (by rw[Rl _ n hlt,Tu hin]);have hD:dI wr (some ⟨gY,n*6,none⟩) (qp (some (ko x n))):=fun j u hj=>⟨gY,n*6,rfl,by
        rw[hY.cell];exact zV (bZ [x]) n j hlt u (by rw[TI,if_pos hin];exact hj) (by have:=(dn.1 hj).1;rwa [nQ] at this)⟩
       have hu:Hid (∀i:Nat,i<n+1→¬(oI (i:Int) x=true∧onA l i≠none)):=Lib.hid (fun i hi hq=>by
        by_cases c:i=n
        ·subst c;exact hq.2 hon
        ·exact hO.out i (by omega) hq)
       have hF:Hid (n*6+6≤(fC (uy x n (bZ l))).size):=Lib.hid (by rw[jy];omega);clear hin hon;go_upto_region 15 with (first | (refine ax _ _ rfl _ (n*6) rfl rfl _ hD _ underlying109 rfl one_size ?_) | (refine gZ rfl _ _ _ rfl gX (n*6) (oC (some (ko x n))) rfl rfl _ _ hX hF.out one_size (Lf _) ?_));intro W7 kg hh;have hy:aA W7 gX (fC (uy x (n+1) (bZ l))) 110:=by rw[←hC.out];exact kg
       have hQ:=m.grown hh m.size (fun k hk=>by cases hk;exact h9);have kr:aA W7 gY (fC (bZ [x])) 110:=hY.grown hh (fun e=>hU (aJ e));clear hX hY m kg hh dX dY hD hC hF;go_wp2;go_roundw
       case rel=>exact⟨n+1,by omega,by go_num,hQ,hy,kr,hu.out⟩
       case measure=>simp[intOf];omega
     rw[if_neg hin] at dY;simp only[Option.isSome] at dY;have hu:Hid (∀i:Nat,i<n+1→¬(oI (i:Int) x=true∧onA l i≠none)):=Lib.hid (fun i hi hq=>by
      by_cases c:i=n
      ·subst c;exact hin hq.1
      ·exact hO.out i (by omega) hq)
     have hy:aA wr gX (fC (uy x (n+1) (bZ l))) 110:=by rw[Qv hin];exact hX
     clear hin hX;cases hsX:(onA l (n:Int)).isSome
     ·rw[hsX] at dX;clear hsX;go_wp2;go_roundw
      case rel=>exact⟨n+1,by omega,by go_num,m,hy,hY,hu.out⟩
      case measure=>simp[intOf];omega
     rw[hsX] at dX;clear hsX;go_wp2;go_roundw
     case rel=>exact⟨n+1,by omega,by go_num,m,hy,hY,hu.out⟩
     case measure=>simp[intOf];omega
    have h6:n=64:=by omega
    subst h6;have hI:=UY ht.2 o.out hO.out;have h7:∀z∈l,qw x z=false:=fun z hz=>by have:=tZ.1 hI z hz;simpa using this
    have hg:=EM o.out hc (bI o.out).1.2.1.1 h7;rw[←Dx] at hg;have hG:Hid (BK l x=Fp (tV (Ea l x)).length):=Lib.hid (by unfold BK;rw[if_neg (by rw[hM.out];simp),if_neg (by rw[o.out];simp),if_neg (by rw[hI];simp)];rfl);have h8:Hid (zn l x=if 16<(tV (Ea l x)).length then [] else tV (Ea l x)):=Lib.hid (by
     unfold zn;rw[hG.out];unfold Fp
     by_cases h16:16<(tV (Ea l x)).length
     ·rw[if_pos h16,if_pos h16];rfl
     ·rw[if_neg h16,if_neg h16];rfl)
    have hN:Hid ((fC (uy x 64 (bZ l))).size=384):=Lib.hid (jy _);clear hlt
    go_wp2_with (refine ax _ _ rfl _ 0 rfl rfl _ hX.rd _ underlying110 rfl (by rw[iO,hN.out];exact ones_size) ?_)
    refine (UT (uy x 64 (bZ l)) (tV (Ea l x)) (Ig hg) (fun i hi => ?_) (fun i p hp => ?_) _).mono ?_
    ·rw[Js hg,Dx,Jq o.out _ hc h7];unfold uy;rw[nS hc]
     by_cases c:oI (i:Int) x=true
     ·rw[if_pos ⟨c,hi⟩,if_pos c]
     ·rw[if_neg (fun q=>c q.1),if_neg c]
    ·unfold uy at hp;split at hp
     ·rename_i hq;cases hp;have h1:=OH o.out hq.1;refine⟨h1.2.2.1,?_⟩
      by_cases hf:(ko x i).fi<0
      ·rw[(h1.2.2.2.1 hf).1];decide
      ·have:=h1.2.2.2.2 (by omega);omega
     ·exact La hc i p hp
    rintro r w9 ⟨v9,rfl,hA,kd⟩;have hP:=ae m kd;replace hA:=hA.mono m.size;rw[←h8.out] at hA;rw[←hG.out];clear m hX hY kd h8;go_wp2;go_ret2;exact⟨v9,rfl,hA,hP⟩
  have q0:Hid _:=Lib.hid (Jp (l:=l) (x:=x) (e:=aS x) (by unfold BK;rw[if_neg (by rw[hM.out];simp),if_pos he]) he);have kx : (aS x != 0)=true:=by simpa using he
  clear he ht;go_wp2;go_ret2;have q:=q0.out;exact⟨.slice none 0 0,by first | (rw[q.1];done) | (rw[q.1];rfl),by rw[q.2];exact Own.nil _ _ _ _,b⟩
 have q0:Hid _:=Lib.hid (Jp (l:=l) (x:=x) (e:=(bJ l).1) (by unfold BK;rw[if_pos hw]) hw);have kw : ((bJ l).1 != 0)=true:=by simpa using hw
 have ka:=hv.cell;clear hw;go_upto_region 3 with (fail);go_quiet (fail);rename_i nq;have b:=below_drewN b nq;go_wp2;go_ret2;have q:=q0.out;exact⟨.slice none 0 0,by first | (rw[q.1];done) | (rw[q.1];rfl),by rw[q.2];exact Own.nil _ _ _ _,b⟩
theorem Qm {l:List Ar} {x:Ar} (h:BK l x=0):(l.length≤16∧okF none l)∧aS x=0∧(∀a∈l,qw x a=false)∧(tV (Ea l x)).length≤16∧zn l x=tV (Ea l x):=by
 have h0:=h;unfold BK at h
 by_cases hw:(bJ l).1=0
 ·rw[if_neg (by omega)] at h
  by_cases he:aS x=0
  ·rw[if_neg (by omega)] at h;cases hm:l.any (qw x)
   ·rw[hm,if_neg (by simp)] at h;refine⟨iL.1 hw,he,fun a ha => ?_,?_,?_⟩
    ·have:=tZ.1 hm a ha;simpa using this
    ·split at h
     ·omega
     ·omega
    ·unfold zn;rw[if_neg (by omega)]
   ·rw[hm,if_pos rfl] at h;omega
  ·rw[if_pos he] at h;exact absurd h he
 ·rw[if_pos hw] at h;exact absurd h hw
theorem LF {l:List Ar} {x:Ar} (h:BK l x=0):(zn l x).length≤16∧okF none (zn l x)∧∀n,onA (zn l x) n=if oI n x then some (ko x n) else onA l n:=by
 obtain⟨⟨h1,h2⟩,h3,h4,h5,h6⟩:=Qm h;have hs:=lD h2;have hx:=(bI h3).1.2.1.1;have hi:=EM h3 hs hx h4;rw[h6];rw[Dx] at h5 ⊢;exact⟨h5,Ig hi,fun n=>by rw[Js hi,Jq h3 n hs h4]⟩
def NY (S:MW):Prop:=∀p∈S.H.sp,∀n g,onA p.ar n=some g→g.fi<S.H.fi.length
structure More (S S' : MW):Prop where
 bd:Bd S'.H.ma S'.T
 fm:NY S'
 fi:S'.H.fi=S.H.fi
 ct:S'.H.ct=S.H.ct
 dk:S'.H.dk=S.H.dk
 sp:S'.H.sp.length=S.H.sp.length+1
 fs:S'.H.m.fs.length=S.H.m.fs.length
def SpaceR (S:MW) (B b:Nat) (w:World) (r:Ending) (w' : World):Prop:=∃S',r = .returned (.tuple #[])∧eD w' B b S'∧MS w b S w' S'∧More S S' ∧
 (S.l=[]→S'.l=[]∧S'.H.ma = { S.H.ma with sp:=S.H.ma.sp++[⟨true,[],zTb⟩] }∧S'.T=S.T++[List.replicate 64 zEn])
theorem eD.kb_ne (h:eD w B b S) {x:Nat} (hk:aA w x cs T)
 (hT:T≠77∧T≠81∧T≠3∧T≠79∧T≠86∧T≠67∧T≠106∧T≠55∧T≠90):¬mR b S x:=by
 obtain⟨t1,t2,t3,t4,t5,t6,t7,t8,t9⟩:=hT;have own:∀ {e:TypeId} {sz n c:Nat} {a:Option Addr} {xs:List Value},T≠e→Own w B e sz (.slice a n c) n xs→oB a=some x→False:=fun ht ho hx=>by obtain⟨_,cs',h2⟩:=iV ho hx;exact mo hk h2 ht rfl
 intro hx;rcases hx with hx|hx
 ·subst hx;exact mo hk h.blk t1 rfl
 simp only[iA,bU,fZ,or_false] at hx;rcases hx with hx|hx|hx|hx|hx|hx|hx|hx|hx
 ·exact own t2 h.ma.fr hx.symm
 ·exact own t3 h.ma.sl hx.symm
 ·exact own t4 h.ma.sw.b hx.symm
 ·exact own t4 h.ma.dk.b hx.symm
 ·exact own t5 h.ma.dk.q hx.symm
 ·exact own t6 h.ma.st.own hx.symm
 ·exact own t7 h.ma.ca hx.symm
 ·exact own t8 h.ma.sp hx.symm
 ·exact own t9 h.tt hx.symm
theorem eD.own_not (h:eD w B b S) (ho:Own w B' e sz (.slice a n c) n xs)
 (hT:e≠77∧e≠81∧e≠3∧e≠79∧e≠86∧e≠67∧e≠106∧e≠55∧e≠90):∀x,(Value.slice a n c).ownBlock=some x→¬mR b S x:=fun x hx=>by
 obtain⟨cs,hk⟩:=kW ho x hx;exact h.kb_ne hk hT
theorem eD.locA (h:eD w B b S) (hk:aA w g cs 99) (hn:¬mR b S g) (hsp:∀p∈S.H.sp,oB p.aa≠some g) (hgB:B≤g) (hg:w.grownBy w' (some g)):eD w' B b S:=by
 have d:∀ {a:Option Addr},oB a∈iA S→∀n c g',(Value.slice a n c).ownBlock=some g'→some g≠some g':=fun hm n c g' he e=>by cases e;rw[lM] at he;exact hn (.inr (by rw[←he];exact hm))
 exact⟨h.blk.grown hg (fun e=>hn (.inl (aJ e))),h.ge,⟨h.ma.fr.grown hg (d (by simp[iA]) _ _),h.ma.sl.grown hg (d (by simp[iA]) _ _),⟨h.ma.sw.b.grown hg (d (by simp[iA]) _ _),h.ma.sw.q.grown hg (fun g' he=>by rw[h.n3] at he;cases he)⟩,⟨h.ma.dk.b.grown hg (d (by simp[iA]) _ _),h.ma.dk.q.grown hg (d (by simp[iA]) _ _)⟩,
  ⟨h.ma.st.own.grown hg (d (by simp[iA]) _ _),fun i p hp=>ak (h.ma.st.each i p hp) hk (by decide) hg,h.ma.st.apart⟩,h.ma.ca.grown hg (d (by simp[iA]) _ _),h.ma.sp.grown hg (d (by simp[iA]) _ _),fun p hp=>⟨(h.ma.ps p hp).1.grown hg (fun g' he e=>by cases e;rw[lM] at he;exact hsp p hp he),(h.ma.ps p hp).2.keep hk (by decide) hg⟩,h.ma.c64⟩,
  h.tt.grown hg (d (by simp[iA]) _ _),h.rd.keep h.ra h.bs hg hgB,h.ra,h.n1,h.n2,h.n3⟩
theorem eD.newA (h:eD w B b S) {x:Nat} (hx:w.heap.size≤x):∀p∈S.H.sp,oB p.aa≠some x:=fun p hp he=>by
 have:=(iV (h.ma.ps p hp).1 he).2.choose_spec.lt;omega
def Mj (S:MW) (B b:Nat) (w:World) (i:Nat) (cs:Array Value) (T:TypeId):(Nat→Bool)→(Nat→Value)→World→Prop:=fun L y W=>
 Np S B b w [] L y W∧(L i=true→∃g,y i = .pointer (some ⟨g,0,none⟩)∧aA W g cs T∧¬mR b S g∧w.heap.size≤g)
theorem jB :∀L y W W',Below W.heap.size W W'→Mj S B b w i cs T L y W→Mj S B b w i cs T L y W':=
 fun _ _ _ _ hb ⟨h1,h2⟩=>⟨aG _ _ _ _ hb h1,fun hL=>by obtain⟨g,e1,e2,e3⟩:=h2 hL;exact⟨g,e1,e2.ext hb,e3⟩⟩
theorem TH (h0:eD w B b S) (h:Mj S B b w i cs T L y W):Mj S B b w i cs T (bY L i) (dB y i (.pointer (some ⟨W.heap.size,0,none⟩))) (W.alloc (.cells cs T)):=by
 have hs:w.heap.size≤W.heap.size:=by obtain⟨⟨a,c,l,h1,h2,h3⟩,_⟩:=h;exact h2.size
 exact⟨aG _ _ _ _ ((Below.refl _ _).alloc (az _) _) h.1,fun _=>⟨W.heap.size,by unfold dB;rw[if_pos rfl],aA.new _ _ _,h0.new hs,hs⟩⟩
theorem xA {y' : Value→Nat→Value} (hL:L' i=L i) (hy:∀v,y' v i=y i) (n:Int) (hn : -9223372036854775808≤n∧n≤9223372036854775807) (h:Mj S B b w i cs T L y W) {R:Value→World→Prop} (hR:∀x:Int,0≤x→x<256→(x<n∨x=0)→∀W',R (.int .i64 x) W') :
  Calls Tryz.prog 30 #[.pointer (some ⟨b,0,none⟩),.int .i64 n] W fun e W' => ∃v,e = .returned v∧Mj S B b w i cs T L' (y' v) W'∧R v W':=by
 obtain⟨⟨a,c,l,h1,h2,h3⟩,h4⟩:=h;refine (fD _ n B b W h1 hn).mono ?_;rintro r W' ⟨x,a',c',l',rfl,k1,k2,k3,_⟩;exact⟨_,rfl,⟨⟨a',c',l',k1,h2.trans k2,fun t ht=>(by cases ht)⟩,fun hl=>by obtain⟨g,e1,e2,e3,e4⟩:=h4 (by rw[←hL];exact hl);exact⟨g,by rw[hy];exact e1,k2.blkN e2 e3,e3,e4⟩⟩,hR x k3.1 k3.2.1 k3.2.2 W'⟩
theorem rG (ho:Own w B e sz (.slice a n c) n xs) (hg:w.grownBy w' (Value.slice a n c).ownBlock):Below w.heap.size w w'∨∃g cs,aA w g cs e∧oB a=some g∧w.grownBy w' (some g):=by
 cases h:(Value.slice a n c).ownBlock with
 | none=>rw[h] at hg;exact .inl (ku hg)
 | some g=>
  rw[h] at hg;obtain⟨cs,hk⟩:=kW ho g h;exact .inr ⟨g,cs,hk,by rw[←lM a n c];exact h,hg⟩
theorem eD.appP (h:eD w B b S) (hg:w.grownBy w1 (Value.slice S.H.ap S.H.sp.length S.H.cp).ownBlock) {l:List PS} (ho:Own w1 B 55 10 (.slice a l.length c) l.length (l.flatMap uj))
 (hp:∀p∈l,Own w1 B 99 7 (.slice p.aa p.ar.length p.ac) p.ar.length (p.ar.flatMap mP)∧qZ w1 B (nG p.ts) p.tb) (hb:aA w2 b (bD (ja S) 11 [.slice a l.length c]) 77) (hg2:w1.grownBy w2 (some b)) :
  eD w2 B b { S with H:={ S.H with ap:=a,cp:=c,sp:=l } }:=by
 have key:aA w1 b (ja S) 77∧Own w1 B 81 13 (.slice S.H.af S.H.m.fs.length S.H.cf) S.H.m.fs.length (S.H.m.fs.flatMap qz)∧Own w1 B 3 1 (.slice S.H.asl S.H.sl.length S.H.csl) S.H.sl.length (S.H.sl.map gB) ∧
   iE w1 B (.slice S.H.wb S.H.sw.blocks.length S.H.cwb) (.slice S.H.wq S.H.sw.queue.length S.H.cwq) S.H.sw∧iE w1 B (.slice S.H.db S.H.dk.blocks.length S.H.cdb) (.slice S.H.dq S.H.dk.queue.length S.H.cdq) S.H.dk∧nM w1 B (.slice S.H.ai S.H.fi.length S.H.ci) S.H.fi ∧
   Own w1 B 106 3 (.slice S.H.ac S.H.ca.length S.H.cc) S.H.ca.length (S.H.ca.flatMap mE)∧Own w1 B 90 192 (.slice S.ab S.T.length S.cb) S.T.length (S.T.flatMap tL)∧ui w1 S.al S.cl S.l.length (S.l.map mQ):=by
  rcases rG h.ma.sp hg with hb0|⟨g,cs,hk,hga,hg'⟩
  ·have h1:=h.below hb0;exact⟨h1.blk,h1.ma.fr,h1.ma.sl,h1.ma.sw,h1.ma.dk,h1.ma.st,h1.ma.ca,h1.tt,h1.rd⟩
  ·exact⟨bu h.blk hk (by decide) hg',ak h.ma.fr hk (by decide) hg',ak h.ma.sl hk (by decide) hg',h.ma.sw.keep hk (by decide) (by decide) hg',h.ma.dk.keep hk (by decide) (by decide) hg',h.ma.st.keep hk (by decide) (by decide) hg',ak h.ma.ca hk (by decide) hg',ak h.tt hk (by decide) hg',h.rd.keep h.ra h.bs hg' (iV h.ma.sp hga).1⟩
 obtain⟨k0,k1,k2,k3,k4,k5,k6,k7,k8⟩:=key;exact⟨hb,h.ge,⟨ak k1 k0 (by decide) hg2,ak k2 k0 (by decide) hg2,k3.keep k0 (by decide) (by decide) hg2,k4.keep k0 (by decide) (by decide) hg2,k5.keep k0 (by decide) (by decide) hg2,ak k6 k0 (by decide) hg2,ak ho k0 (by decide) hg2,fun p d=>⟨ak (hp p d).1 k0 (by decide) hg2,(hp p d).2.keep k0 (by decide) hg2⟩,h.ma.c64⟩,
  ak k7 k0 (by decide) hg2,k8.keep h.ra (aY h.ge (qH k0.lt)) hg2 h.ge,h.ra,h.n1,h.n2,h.n3⟩
theorem eD.appT (h:eD w B b S) (hg:w.grownBy w1 (Value.slice S.ab S.T.length S.cb).ownBlock) {T:List (List En)} (ho:Own w1 B 90 192 (.slice a T.length c) T.length (T.flatMap tL))
 (hb:aA w2 b (bD (ja S) 12 [.slice a T.length c]) 77) (hg2:w1.grownBy w2 (some b)):eD w2 B b { S with ab:=a,cb:=c,T:=T }:=by
 have key:aA w1 b (ja S) 77∧uz w1 B S.H∧ui w1 S.al S.cl S.l.length (S.l.map mQ):=by
  rcases rG h.tt hg with hb0|⟨g,cs,hk,hga,hg'⟩
  ·have h1:=h.below hb0;exact⟨h1.blk,h1.ma,h1.rd⟩
  ·exact⟨bu h.blk hk (by decide) hg',h.ma.keep hk (by decide) hg',h.rd.keep h.ra h.bs hg' (iV h.tt hga).1⟩
 obtain⟨k0,k1,k2⟩:=key;exact⟨hb,h.ge,k1.keep k0 (by decide) hg2,ak ho k0 (by decide) hg2,k2.keep h.ra (aY h.ge (qH k0.lt)) hg2 h.ge,h.ra,h.n1,h.n2,h.n3⟩
theorem MS.app (h:MS w0 b S0 w S) (hm:eD w B b S) (ho:Own w B' e sz (.slice a n c) n xs) (hk:oB a∈iA S) (hg:w.grownBy w1 (Value.slice a n c).ownBlock) (hg2:w1.grownBy w2 (some b)) (hbn:pE w (.slice a n c) (.slice a' n' c'))
 (hn:∀x,mR b S' x→mR b S x∨oB a' = some x):MS w0 b S0 w2 S':=by
 have h1:MS w0 b S0 w1 S:=by
  rcases rG ho hg with hb0|⟨g,cs,_,hga,hg'⟩
  ·exact h.below hb0
  ·exact h.put hg' (.inr (by rw[←hga];exact hk)) (fun x hx => .inl hx)
 refine h1.put hg2 (.inl rfl) fun x hx => ?_;rcases hn x hx with hx|hx
 ·exact .inl hx
 rcases hbn with e1|e1
 ·rw[lM,lM] at e1;exact .inl (.inr (by rw[←hx,e1];exact hk))
 ·exact .inr (aY h.size (e1 x (by rw[lM];exact hx)))
theorem ents_info:(Tryz.prog.info? 90).map (fun i=>(i.zero,i.size,i.bytes))=some (some (.agg (tL (List.replicate 64 zEn)).toArray),192,1536):=by kernel_rfl
theorem Cj {a:Act} (hg:o.guard=none) (s x:Operand)
 (hop:o.op=Op.call { callee:=Callee.builtin Builtin.append,args:=#[s,x],argTypes:=#[75,75] }) (hcs:cs=(tL (List.replicate 64 zEn)).toArray)
 (B:Nat) (v:Value) (n:Nat) (xs:List Value) (hs:a.eval s=v) (hown:Own w B 90 192 v n xs) (hx:a.eval x = .slice (some ⟨w.heap.size,0,none⟩) 1 1) (hn:n≤100) (hB:B≤w.heap.size)
 (hK:∀v' w',Own w' B 90 192 v' (n+1) (xs++tL (List.replicate 64 zEn))→(w.alloc (.cells (tL (List.replicate 64 zEn)).toArray 90)).grownBy w' v.ownBlock→pE (w.alloc (.cells (tL (List.replicate 64 zEn)).toArray 90)) v v'→wpList Tryz.prog ops Q rest (a.put o.dst v') w') :
  wpList Tryz.prog ops Q (o::rest) a (w.alloc (.cells cs 90)):=by
 subst hcs;exact iY hg s x 75 hop B 90 _ 192 1536 underlying75 ents_info rfl (by decide) v n xs hs (hown.alloc _) (some ⟨w.heap.size,0,none⟩) 1 1 (tL (List.replicate 64 zEn)) hx (fun h=>(by cases h)) (az _) (yS _) (by simpa using dI.new w (tL (List.replicate 64 zEn)).toArray 90) (by decide +kernel) (by unfold maxLen;omega) (by omega) (cK hB _) hK
theorem Eo (S:MW) (B b:Nat) (w:World) (h:eD w B b S) (hd:Bd S.H.ma S.T) (hf:NY S) (hl4:S.H.sp.length<4) :
  Calls Tryz.prog 35 #[.pointer (some ⟨b,0,none⟩)] w (SpaceR S B b w):=by
 have kI:=Lib.hid hd;have gl:=Lib.hid hf;have gX:=Lib.hid h.bs;have gO:S.H.fi.length≤5:=by have:=(kZ.1 hd.few.2.2.2.2.1).1.1;simpa[MH.ma,cZ] using this
 clear hd hf;go_enter func35,ntmps35
 go_wp2_with fail
 refine (fD _ 4 B b _ h (by omega)).mono ?_;rintro r w1 ⟨n1,a1,c1,l1,rfl,h1,s1,kU,kR⟩;obtain⟨N,rfl⟩:=fO kU.1;have gW:N<4:=by omega
 have kQ:=Lib.hid kR;clear h kU kR;have ge:IntKind.i64.wrap ((S.H.fi.length:Int)+1)=(S.H.fi.length:Int)+1:=bO _ (by omega);go_upto_region 2 with (fail)
 go_loopw [11,2] (fun i u wr => ∃(k:Nat) (A:List Ar) (a:Option Addr) (c:Nat) (al:Option Addr) (cl:Nat) (ll:List UInt8),k≤N∧i = .int .i64 k∧u = .slice a A.length c∧Own wr B 99 7 (.slice a A.length c) A.length (A.flatMap mP)∧eD wr B b (S.lst al cl ll)∧MS w b S wr (S.lst al cl ll) ∧
  Hid ((bJ A).1=0∧(∀n g,onA A n=some g→g.fi<S.H.fi.length)∧(k=0→A=[]∧ll=l1))) (fun i _ _=>N-(intOf i).toNat)
 case atStart=>exact⟨0,[],none,0,a1,c1,l1,aW _,rfl,rfl,by simpa using Own.nil _ _ _ _,h1,s1,Lib.hid ⟨by decide,fun n g h=>(by cases h),fun _=>⟨rfl,rfl⟩⟩⟩
 case round=>
  clear h1 s1;obtain⟨k,A,a,c,al,cl,ll,hk,rfl,rfl,hi,hm,hs,hA⟩:=hrel;have kl:=Lib.hid (hm.own_not hi (by decide))
  by_cases hkN:k<N
  ·have gj:(k:Int)<(N:Int):=by omega
   go_upto_region 3 with (fail);refine ib 21 [_,.r 1 ((cB fun v => ∃x:Int,v = .int .i64 x∧0≤x∧x<12)),_,.r 3 ((cB fun v => ∃x:Int,v = .int .i64 x)),.r 4 ((cB fun v => ∃u,v = .bool u)),_,.r 6 ((cB fun v => ∃x:Int,v = .int .i64 x)),.r 7 ((cB fun v => ∃u,v = .bool u)),_,_,_,_,_,_,.v (.slice S.H.ai S.H.fi.length S.H.ci),_,_,.r 17 ((cB fun v => ∃x:Int,v = .int .i64 x∧0≤x∧x<(S.H.fi.length:Int)+1)),.r 18 ((cB fun v => ∃x:Int,v = .int .i64 x∧-1≤x∧x<S.H.fi.length)),.r 19 ((cB fun v => ∃fr rd wr fi,v = .agg (oz ⟨fr,0,rd,wr,false,fi,0⟩)∧0≤fr∧fr<12∧-1≤fi∧fi<S.H.fi.length)),.r 20 ((cB fun _=>True))] (Mj (S.lst al cl ll) B b wr 20 (oz ⟨0,0,false,false,false,0,0⟩) 99) jB (fun _=>⟨⟨al,cl,ll,hm,MS.refl _ _ _,fun t ht=>(by cases ht)⟩,fun e=>(by cases e)⟩) (Qk jB rfl (ag ?_ (Qk jB rfl (ag ?_ (ag ?_ (Qk jB rfl (ag ?_ (ag ?_ (Qk jB rfl (Qk jB rfl (Qk jB rfl (Qf jB b 1 rfl rfl (Qf jB b 8 rfl rfl (Qf jB b 8 rfl rfl (ag ?_ (Qn jB rfl rfl rfl rfl (Qb jB (.int .i64 ((S.H.fi.length:Int)+1)) (by simp[go_sem,ge]) rfl rfl rfl rfl rfl (ag ?_ (ag ?_ (ag ?_ (ag ?_ (aB)))))))))))))))))))))) (fun _=>rfl) rfl ?_
   ·intro ρ y W L hw hn q z hb hd;have gL:=hw 13 0 rfl;have h0:y 0=_:=hd 0 rfl;have EC:∀v,ρ (.const v)=v:=fun v=>hn (.const v) trivial;have EF:∀f,ρ (.func f) = .func (.func f) #[] #[]:=fun f=>hn (.func f) trivial;refine ig _ _ (ah rfl) (aO rfl (EF _) func30 (by kernel_rfl) (by kernel_rfl) (by simp only[bH,bA,bB,gL,h0,EC,EF];rfl)) ?_;exact xA rfl (fun _=>rfl) 12 (by omega) hb fun x h1 h2 h3 _=>⟨x,rfl,h1,by omega⟩
   ·intro ρ y W L hw hn q z hb hd;have gJ:=hw 15 2 rfl;have h2:y 2=_:=hd 2 rfl;have EC:∀v,ρ (.const v)=v:=fun v=>hn (.const v) trivial;have EF:∀f,ρ (.func f) = .func (.func f) #[] #[]:=fun f=>hn (.func f) trivial;refine ig _ _ (ah rfl) (aO rfl (EF _) func30 (by kernel_rfl) (by kernel_rfl) (by simp only[bH,bA,bB,gJ,h2,EC,EF];rfl)) ?_;exact xA rfl (fun _=>rfl) 4 (by omega) hb fun x h1 h2 h3 _=>⟨x,rfl⟩
   ·intro ρ y W L hw hn q z hb hd;refine ed jB (fun _ _ h=>h) hb ?_;have gI:=hw 16 3 rfl;have h3:=hd 3 rfl;obtain⟨x,hx⟩:=h3;refine aj _ (ah rfl) (pU rfl (gI.trans hx) (hn (.const _) trivial) (by simp[go_sem];rfl)) ⟨_,rfl⟩
   ·intro ρ y W L hw hn q z hb hd;have gG:=hw 18 5 rfl;have h5:y 5=_:=hd 5 rfl;have EC:∀v,ρ (.const v)=v:=fun v=>hn (.const v) trivial;have EF:∀f,ρ (.func f) = .func (.func f) #[] #[]:=fun f=>hn (.func f) trivial;refine ig _ _ (ah rfl) (aO rfl (EF _) func30 (by kernel_rfl) (by kernel_rfl) (by simp only[bH,bA,bB,gG,h5,EC,EF];rfl)) ?_;exact xA rfl (fun _=>rfl) 3 (by omega) hb fun x h1 h2 h3 _=>⟨x,rfl⟩
   ·intro ρ y W L hw hn q z hb hd;refine ed jB (fun _ _ h=>h) hb ?_;have gE:=hw 19 6 rfl;have h6:=hd 6 rfl;obtain⟨x,hx⟩:=h6;refine aj _ (ah rfl) (pU rfl (gE.trans hx) (hn (.const _) trivial) (by simp[go_sem];rfl)) ⟨_,rfl⟩
   ·intro ρ y W L hw hn q z hb hd;refine ed jB (fun _ _ h=>h) hb ?_;have gB:=hw 26 13 rfl;have gs:y 13=_:=hd 13 rfl;obtain⟨⟨a0,c0,l0,m1,m2,m3⟩,_⟩:=hb;refine aj (.slice S.H.ai S.H.fi.length S.H.ci) (ah rfl) (by simp[execOp,go_sem,gB,gs,m1.blk.cell,ja,MW.lst]) rfl
   ·intro ρ y W L hw hn q z hb hd;have gC:=hw 21 8 rfl;have h8:y 8=_:=hd 8 rfl;have gA:=hw 29 16 rfl;have gr:y 16=_:=hd 16 rfl;have EF:∀f,ρ (.func f) = .func (.func f) #[] #[]:=fun f=>hn (.func f) trivial;refine ig _ _ (ah rfl) (aO rfl (EF _) func30 (by kernel_rfl) (by kernel_rfl) (by simp only[bH,bA,bB,gC,h8,gA,gr,EF];rfl)) ?_;exact xA rfl (fun _=>rfl) _ (by omega) hb fun x h1 h2 h3 _=>⟨x,rfl,h1,by omega⟩
   ·intro ρ y W L hw hn q z hb hd;refine ed jB (fun _ _ h=>h) hb ?_;have gz:=hw 30 17 rfl;have gq:=hd 17 rfl;obtain⟨x,hx,k1,k2⟩:=gq;have kD:IntKind.i64.wrap (x-1)=x-1:=bO _ (by omega);refine aj (.int .i64 (x-1)) (ah rfl) (pU rfl (gz.trans hx) (hn (.const _) trivial) (by simp[go_sem,kD])) ⟨_,rfl,by omega,by omega⟩
   ·intro ρ y W L hw hn q z hb hd;refine ed jB (fun _ _ h=>h) hb ?_;have gK:=hw 14 1 rfl;have h1:=hd 1 rfl;have gH:=hw 17 4 rfl;have h4:=hd 4 rfl;have gD:=hw 20 7 rfl;have h7:=hd 7 rfl;have gy:=hw 31 18 rfl;have gp:=hd 18 rfl;obtain⟨x1,hB,k1,k2⟩:=h1;obtain⟨x2,gd⟩:=h4;obtain⟨x3,gc⟩:=h7;obtain⟨x4,gb,k3,k4⟩:=gp;refine aj (.agg (oz ⟨x1,0,x2,x3,false,x4,0⟩)) (ah rfl) (by simp[execOp,go_sem,gK,gH,gD,gy,hB,gd,gc,gb,oz]) ⟨x1,x2,x3,x4,rfl,k1,k2,k3,k4⟩
   ·intro ρ y W L hw hn q z hb hd;refine eu (.pointer (some ⟨W.heap.size,0,none⟩)) (ah rfl) ?_ (TH hm hb) trivial;simp[execOp,go_sem,oz]
   intro y W2 k0 m;have gS:((cB fun v => ∃x:Int,v = .int .i64 x∧0≤x∧x<12)).r (y 1) W2:=m 1 (by decide);have gR:((cB fun v => ∃x:Int,v = .int .i64 x)).r (y 3) W2:=m 3 (by decide);have ga:((cB fun v => ∃u,v = .bool u)).r (y 4) W2:=m 4 (by decide);have gQ:((cB fun v => ∃x:Int,v = .int .i64 x)).r (y 6) W2:=m 6 (by decide);have gP:((cB fun v => ∃u,v = .bool u)).r (y 7) W2:=m 7 (by decide);have gN:((cB fun v => ∃x:Int,v = .int .i64 x∧0≤x∧x<(S.H.fi.length:Int)+1)).r (y 17) W2:=m 17 (by decide);have gM:((cB fun v => ∃x:Int,v = .int .i64 x∧-1≤x∧x<S.H.fi.length)).r (y 18) W2:=m 18 (by decide);have kM:((cB fun v => ∃fr rd wr fi,v = .agg (oz ⟨fr,0,rd,wr,false,fi,0⟩)∧0≤fr∧fr<12∧-1≤fi∧fi<S.H.fi.length)).r (y 19) W2:=m 19 (by decide);clear m;obtain⟨⟨a2,c2,l2,h2,s2,_⟩,kA⟩:=k0;obtain⟨gx,kW,axz,hh,hI⟩:=kA rfl;obtain⟨fr,rd,wr2,fi,hv,hz,gV,kL,k6⟩:=kM;rw[hv,kW];clear hv kW kA;rw[oq] at h2 s2;have ha:=s2.ownN hi kl.out;have hJ:Hid (∀x,(Value.slice a A.length c).ownBlock=some x→¬mR b S x):=kl;have kc:=Lib.hid (hm.newA hI);have hU:Hid (∀x,(Value.slice a A.length c).ownBlock=some x→some gx≠some x):=Lib.hid fun x hx e=>by have:=CF hi x hx;cases e;omega
   have hS:=Lib.hid (aY hs.size hI);have hT:B≤gx:=aY hm.bs hI;have hh:=Lib.hid hh;have s2:=hs.trans s2;clear hm hs hi hI
   go_wp2_with (refine ay rfl _ _ _ rfl gx (oz ⟨fr,0,rd,wr2,false,fi,0⟩) rfl rfl _ _ axz rfl area_size (Ux _) ?_)
   intro w3 ax3 hy;have h3:=h2.locA axz hh.out kc.out hT hy;have s3:=s2.loc hy hS.out;have hZ:=ha.grown hy hU.out;clear h2 s2 ha hy axz;have kN:IntKind.i64.wrap (fr+1)=fr+1:=bO _ (by omega);go_upto_region 4 with (fail);refine ib 7 [_,.v (.int .i64 fr),_,_,.r 4 ((cB fun v => ∃x:Int,v = .int .i64 x∧0≤x∧x<4)),.r 5 ((cB fun v => ∃x:Int,v = .int .i64 x∧fr<x∧x≤fr+4)),_] (Np (S.lst a2 c2 l2) B b w3 [(gx,oz ⟨fr,0,rd,wr2,false,fi,0⟩,99)]) aG (fun _=>⟨a2,c2,l2,h3,MS.refl _ _ _,by simpa using ⟨ax3,hh.out⟩⟩) (Qf aG gx 0 rfl rfl (ag ?_ (Qb aG (.int .i64 (fr+1)) (by simp[go_sem,kN]) rfl rfl rfl rfl rfl (Qk aG rfl (ag ?_ (ag ?_ (Qf aG gx 1 rfl rfl (aB)))))))) (fun _=>rfl) rfl ?_
   ·intro ρ y W L hw hn q z hb hd;refine ed aG (fun _ _ h=>h) hb ?_;have gw:=hw 33 0 rfl;have h0:y 0=_:=hd 0 rfl;obtain⟨a0,c0,l0,m1,m2,m3⟩:=hb;have m3:=(m3 _ (bv.2 rfl)).1;refine aj (.int .i64 fr) (ah rfl) (by simp[execOp,go_sem,gw,h0,m3.cell,oz]) rfl
   ·intro ρ y W L hw hn q z hb hd;have gu:=hw 36 3 rfl;have h3:y 3=_:=hd 3 rfl;have EC:∀v,ρ (.const v)=v:=fun v=>hn (.const v) trivial;have EF:∀f,ρ (.func f) = .func (.func f) #[] #[]:=fun f=>hn (.func f) trivial;refine ig _ _ (ah rfl) (aO rfl (EF _) func30 (by kernel_rfl) (by kernel_rfl) (by simp only[bH,bA,bB,gu,h3,EC,EF];rfl)) ?_;exact zP 4 (by omega) hb fun x h1 h2 h3 _=>⟨x,rfl,h1,by omega⟩
   ·intro ρ y W L hw hn q z hb hd;refine ed aG (fun _ _ h=>h) hb ?_;have gv:=hw 35 2 rfl;have h2:y 2=_:=hd 2 rfl;have gt:=hw 37 4 rfl;have h4:=hd 4 rfl;obtain⟨x,hx,k1,k2⟩:=h4;have kD:IntKind.i64.wrap (fr+1+x)=fr+1+x:=bO _ (by omega);refine aj (.int .i64 (fr+1+x)) (ah rfl) (pU rfl (gv.trans h2) (gt.trans hx) (by simp[go_sem,kD])) ⟨_,rfl,by omega,by omega⟩
   intro y W4 kY kh;have ga:((cB fun v => ∃x:Int,v = .int .i64 x∧0≤x∧x<4)).r (y 4) W4:=kh 4 (by decide);have k9:((cB fun v => ∃x:Int,v = .int .i64 x∧fr<x∧x≤fr+4)).r (y 5) W4:=kh 5 (by decide);clear kh;obtain⟨a4,c4,l4,h4,s4,kV⟩:=kY;have ax4:=(kV _ (bv.2 rfl)).1;rw[oq] at h4 s4;have hY:=s4.ownN hZ hJ.out;have s4:=s3.trans s4;obtain⟨en,hv,gU,gT⟩:=k9;rw[hv];clear hv kV h3 s3 hZ ax3 kN
   go_wp2_with (refine aD rfl _ _ _ rfl gx 1 _ [.int .i64 en] rfl rfl rfl _ _ ax4 (by show 1+1≤7;omega) (by kernel_rfl) (fun u hu=>by cases bv.1 hu;rfl) ?_)
   intro w5 ax5 hr;rw[show bD (oz ⟨fr,0,rd,wr2,false,fi,0⟩) 1 [.int .i64 en]=oz ⟨fr,en,rd,wr2,false,fi,0⟩ from rfl] at ax5;have h5:=h4.locA ax4 hh.out kc.out hT hr;have s5:=s4.loc hr hS.out;have hq:=hY.grown hr hU.out;clear h4 s4 hY ax4 hr;have hR:=ax5.cell;unfold oz at hR;go_upto_if 42 with (fail)
   go_cut [2] (fun s2 wx=>s2 = .slice a A.length c∧∃(X:Ar) (a:Option Addr) (cl:Nat) (l:List UInt8),aA wx gx (oz X) 99∧eD wx B b (S.lst a cl l)∧MS w b S wx (S.lst a cl l)∧Own wx B 99 7 s2 A.length (A.flatMap mP)∧Hid (X.fi<S.H.fi.length))
   case first=>
    by_cases hfi0:0≤fi
    ·go_wp2_with fail
     refine (fD _ 2 B b _ h5 (by omega)).mono ?_;rintro r w6 ⟨x6,a6,c6,l6,rfl,h6,s6,_,_⟩;rw[oq] at h6 s6;have ax6:=s6.blkN ax5 hh.out;have own6:=s6.ownN hq hJ.out;have s6:=s5.trans s6;clear h5 s5 hq hR ax5
     go_wp2_with fail
     refine (fD _ 4 B b _ h6 (by omega)).mono ?_;rintro r w7 ⟨x7,a7,c7,l7,rfl,h7,s7,_,_⟩;rw[oq] at h7 s7;have ax7:=s7.blkN ax6 hh.out;have own7:=s7.ownN own6 hJ.out;have s7:=s6.trans s7;clear h6 s6 own6 ax6
     go_wp2_with (refine aD rfl _ _ _ rfl gx 4 _ [.bool (x6==1)] rfl rfl rfl _ _ ax7 (by show 4+1≤7;omega) (by kernel_rfl) (fun u hu=>by cases bv.1 hu;rfl) ?_)
     intro w8 ax8 ko;rw[show bD (oz ⟨fr,en,rd,wr2,false,fi,0⟩) 4 [.bool (x6==1)]=oz ⟨fr,en,rd,wr2,x6==1,fi,0⟩ from rfl] at ax8;have h8:=h7.locA ax7 hh.out kc.out hT ko;have s8:=s7.loc ko hS.out;have own8:=own7.grown ko hU.out;clear h7 s7 own7 ax7 ko
     go_wp2_with (refine aD rfl _ _ _ rfl gx 6 _ [.int .i64 x7] rfl rfl rfl _ _ ax8 (by show 6+1≤7;omega) (by kernel_rfl) (fun u hu=>by cases bv.1 hu;rfl) ?_)
     intro w9 ax9 kn;rw[show bD (oz ⟨fr,en,rd,wr2,x6==1,fi,0⟩) 6 [.int .i64 x7]=oz ⟨fr,en,rd,wr2,x6==1,fi,x7⟩ from rfl] at ax9;have h9:=h8.locA ax8 hh.out kc.out hT kn;have s9:=s8.loc kn hS.out;have own9:=own8.grown kn hU.out;clear h8 s8 own8 ax8 kn;go_wp2;go_meet
     case rel=>exact⟨rfl,_,a7,c7,l7,ax9,h9,s9,own9,Lib.hid k6⟩
    go_wp2;go_meet
    case rel=>exact⟨rfl,_,a4,c4,l4,ax5,h5,s5,hq,Lib.hid k6⟩
   case rest=>
    obtain⟨rfl,X,a6,c6,l6,ax6,h6,s6,own6,gm⟩:=hcut;clear h5 s5 hq ax5 hR
    go_wp2_with (refine ax _ _ rfl gx 0 rfl rfl _ ax6.rd _ underlying99 rfl area_size ?_)
    refine (RL A X a c _ (have h9:=uE own6;⟨h9.le,h9.mx,h9.nl,h9.rd⟩)).mono ?_;rintro r w7 ⟨v7,rfl,own7,kq⟩;obtain⟨a7,c7,rfl,_⟩:=own7.rd;have own7:=own7.mono h6.bs;have h7:=h6.below kq;have s7:=s6.below kq;have own6:=own6.below kq;clear h6 s6 ax6 kq kl hJ hU hh kc hS hT
    by_cases hme:BK A X=0
    ·have km:=LF hme;have kb:Hid ((bJ (zn A X)).1=0∧(∀n g,onA (zn A X) n=some g→g.fi<S.H.fi.length)∧(k+1=0→zn A X=[]∧l6=l1)):=Lib.hid ⟨iL.2 ⟨km.1,km.2.1⟩,fun n g hg=>by
      rw[km.2.2] at hg;split at hg
      ·cases hg;exact gm.out
      ·exact hA.out.2.1 n g hg,fun e=>by omega⟩
     clear km;rw[hme];go_wp2;go_roundw
     case rel=>exact⟨k+1,zn A X,a7,c7,a6,c6,l6,by omega,by go_num,rfl,own7,h7,s7,kb⟩
     case measure=>simp[intOf];omega
    have kb:Hid ((bJ A).1=0∧(∀n g,onA A n=some g→g.fi<S.H.fi.length)∧(k+1=0→A=[]∧l6=l1)):=Lib.hid ⟨hA.out.1,hA.out.2.1,fun e=>by omega⟩;go_wp2;go_roundw
    case rel=>exact⟨k+1,A,a,c,a6,c6,l6,by omega,by go_num,rfl,own6,h7,s7,kb⟩
    case measure=>simp[intOf];omega
  have gj:¬(k:Int)<(N:Int):=by omega
  obtain rfl:k=N:=by omega
  have gY:A.length≤16:=(iL.1 hA.out.1).1;have hc:=hm.blk.cell;unfold ja at hc;dsimp only[MW.lst] at hc;have hD:=hm.ma.sp;dsimp only[MW.lst] at hD
  go_wp2_with (at_builtin;go_must (refine iY rfl _ _ 39 rfl B 55 _ 10 224 underlying39 space_info rfl (by decide) _ S.H.sp.length (S.H.sp.flatMap uj) rfl (hD.alloc _) (some ⟨wr.heap.size,0,none⟩) 1 1 (uj ⟨true,a,c,A,nTs,zTb⟩) rfl (fun h=>(by cases h)) (az _) rfl (dI.new _ (uM ⟨true,a,c,A,nTs,zTb⟩) _) (bV (by simp[uM,nTs,Value.oneCell'])) (by unfold maxLen;omega) (by omega) (cK hm.bs _) ?_))
  intro v2 w2 own2 hH kv;have kr:=(Below.refl wr.heap.size wr).alloc (az _) (.cells (uM (⟨true,a,c,A,nTs,zTb⟩:PS)) 55);have o:=hm.below kr;have hP:=hs.below kr;have ka:=hi.below kr;have d:Own (wr.alloc (.cells (uM (⟨true,a,c,A,nTs,zTb⟩:PS)) 55)) B 55 10 (.slice S.H.ap S.H.sp.length S.H.cp) S.H.sp.length (S.H.sp.flatMap uj):=o.ma.sp;have ha:=iP d hH ka (by decide);have kC:=AR d hH o.blk (by decide);have kx:∀p∈S.H.sp++[(⟨true,a,c,A,nTs,zTb⟩:PS)],Own w2 B 99 7 (.slice p.aa p.ar.length p.ac) p.ar.length (p.ar.flatMap mP)∧qZ w2 B (nG p.ts) p.tb:=fun p hp=>by
   rcases fV.1 hp with hp|hp
   ·exact⟨iP d hH (o.ma.ps p hp).1 (by decide),CR d hH (o.ma.ps p hp).2⟩
   rw[bv.1 hp];exact⟨ha,zN _ _⟩
  obtain⟨a2,c2,rfl,_⟩:=own2.rd;have hG:(S.H.sp++[(⟨true,a,c,A,nTs,zTb⟩:PS)]).length=S.H.sp.length+1:=by simp
  have own2' : Own w2 B 55 10 (.slice a2 (S.H.sp++[(⟨true,a,c,A,nTs,zTb⟩:PS)]).length c2) (S.H.sp++[(⟨true,a,c,A,nTs,zTb⟩:PS)]).length ((S.H.sp++[(⟨true,a,c,A,nTs,zTb⟩:PS)]).flatMap uj):=by rw[hG,fu];simpa using own2
  clear hc hm hs hi ka hD own2 kl
  go_wp2_with (refine aD rfl _ _ _ rfl b 11 _ [.slice a2 (S.H.sp.length+1) c2] rfl rfl rfl _ _ kC (by show 11+1≤13;omega) (by kernel_rfl) (fun u hu=>by cases bv.1 hu;rfl) ?_)
  intro w3 kL hy;have h3:eD w3 B b { S.lst al cl ll with H:={ S.H with ap:=a2,cp:=c2,sp:=S.H.sp++[(⟨true,a,c,A,nTs,zTb⟩:PS)] } }:=o.appP hH own2' kx (by rw[hG];exact kL) hy;have s3:MS w b S w3 { S.lst al cl ll with H:={ S.H with ap:=a2,cp:=c2,sp:=S.H.sp++[(⟨true,a,c,A,nTs,zTb⟩:PS)] } }:=hP.app o d (by simp[iA,MW.lst]) hH hy kv (fun x hx=>by
   rcases hx with hx|hx
   ·exact .inl (.inl hx)
   simp only[iA,MW.lst,bU,fZ,or_false] at hx;rcases hx with hx|hx|hx|hx|hx|hx|hx|hx|hx<;>first|exact .inr hx.symm|exact .inl (.inr (by simp[iA,MW.lst,hx])))
  have kg:S.T.length≤100:=by have h9:=kI.out.ok.len;have h8:S.H.ma.sp.length=S.H.sp.length:=eH _;omega
  clear o hP d kC kx own2' kL hy kv hH kr ha;have hc:=h3.blk.cell;unfold ja at hc;dsimp only[MW.lst] at hc;have hC:Own w3 B 90 192 (.slice S.ab S.T.length S.cb) S.T.length (S.T.flatMap tL):=h3.tt
  go_wp2_with (at_builtin;go_must (refine Cj rfl _ _ rfl (by kernel_rfl) B (.slice S.ab S.T.length S.cb) S.T.length (S.T.flatMap tL) rfl hC rfl kg h3.bs ?_))
  intro v4 w4 own4 kp ku;have hO:=(Below.refl w3.heap.size w3).alloc (az _) (.cells (tL (List.replicate 64 zEn)).toArray 90);have ki:=h3.below hO;have s3a:=s3.below hO;have hl:=hC.below hO;have kB:aA w4 b (ja { S.lst al cl ll with H:={ S.H with ap:=a2,cp:=c2,sp:=S.H.sp++[(⟨true,a,c,A,nTs,zTb⟩:PS)] } }) 77:=by
   rcases rG hl kp with hb0|⟨g,cs,hk,_,hg'⟩
   ·exact ki.blk.ext hb0
   ·exact bu ki.blk hk (by decide) hg'
  obtain⟨a4,c4,rfl,_⟩:=own4.rd;have hF:(S.T++[List.replicate 64 zEn]).length=S.T.length+1:=by simp
  have own4' : Own w4 B 90 192 (.slice a4 (S.T++[List.replicate 64 zEn]).length c4) (S.T++[List.replicate 64 zEn]).length ((S.T++[List.replicate 64 zEn]).flatMap tL):=by rw[hF,fu];simpa using own4
  clear hc h3 s3 hC own4 hO
  go_wp2_with (refine aD rfl _ _ _ rfl b 12 _ [.slice a4 (S.T.length+1) c4] rfl rfl rfl _ _ kB (by show 12+1≤13;omega) (by kernel_rfl) (fun u hu=>by cases bv.1 hu;rfl) ?_)
  intro w5 k5 hr;have h5:eD w5 B b { S.lst al cl ll with H:={ S.H with ap:=a2,cp:=c2,sp:=S.H.sp++[(⟨true,a,c,A,nTs,zTb⟩:PS)] },ab:=a4,cb:=c4,T:=S.T++[List.replicate 64 zEn] }:=ki.appT kp own4' (by rw[hF];exact k5) hr;have s5:MS w b S w5 { S.lst al cl ll with H:={ S.H with ap:=a2,cp:=c2,sp:=S.H.sp++[(⟨true,a,c,A,nTs,zTb⟩:PS)] },ab:=a4,cb:=c4,T:=S.T++[List.replicate 64 zEn] }:=s3a.app ki hl (by simp[iA,MW.lst]) kp hr ku (fun x hx=>by
   rcases hx with hx|hx
   ·exact .inl (.inl hx)
   simp only[iA,MW.lst,bU,fZ,or_false] at hx;rcases hx with hx|hx|hx|hx|hx|hx|hx|hx|hx<;>first|exact .inr hx.symm|exact .inl (.inr (by simp[iA,MW.lst,hx])))
  clear ki s3a hl kB own4' k5 hr ku kp;have hL:({ S.lst al cl ll with H:={ S.H with ap:=a2,cp:=c2,sp:=S.H.sp++[(⟨true,a,c,A,nTs,zTb⟩:PS)] },ab:=a4,cb:=c4,T:=S.T++[List.replicate 64 zEn] }:MW).H.ma = { S.H.ma with sp:=S.H.ma.sp++[⟨true,A,zTb⟩] }:=by simp[MH.ma,PS.sp]
  have kf:Bd ({ S.lst al cl ll with H:={ S.H with ap:=a2,cp:=c2,sp:=S.H.sp++[(⟨true,a,c,A,nTs,zTb⟩:PS)] },ab:=a4,cb:=c4,T:=S.T++[List.replicate 64 zEn] }:MW).H.ma ({ S.lst al cl ll with H:={ S.H with ap:=a2,cp:=c2,sp:=S.H.sp++[(⟨true,a,c,A,nTs,zTb⟩:PS)] },ab:=a4,cb:=c4,T:=S.T++[List.replicate 64 zEn] }:MW).T:=by rw[hL];exact kI.out.more (s:=⟨true,A,zTb⟩) (by show (S.H.sp.map PS.sp).length<4;rw[eH];exact hl4) rfl hA.out.1
  have hE:Hid (More S { S.lst al cl ll with H:={ S.H with ap:=a2,cp:=c2,sp:=S.H.sp++[(⟨true,a,c,A,nTs,zTb⟩:PS)] },ab:=a4,cb:=c4,T:=S.T++[List.replicate 64 zEn] }):=Lib.hid ⟨kf,fun p hp n g hg=>by
   rcases fV.1 hp with hp|hp
   ·exact gl.out p hp n g hg
   rw[bv.1 hp] at hg;exact hA.out.2.1 n g hg,rfl,rfl,rfl,by simp,rfl⟩
  have k8:S.T.length=S.H.sp.length:=by have h9:=kI.out.ok.len;have h8:S.H.ma.sp.length=S.H.sp.length:=eH _;omega
  have kH:Hid (∀j:Nat,(fq ({ S.lst al cl ll with H:={ S.H with ap:=a2,cp:=c2,sp:=S.H.sp++[(⟨true,a,c,A,nTs,zTb⟩:PS)] },ab:=a4,cb:=c4,T:=S.T++[List.replicate 64 zEn] }:MW).T S.H.sp.length j).k=0):=Lib.hid fun j=>by unfold fq eY;rw[aV (l:=S.T++_),kT (by omega),←k8,uh];show ((List.replicate 64 zEn).getD j zEn).k=0;rw[aV,oK];split<;>rfl
  have kE:Hid (fH ({ S.lst al cl ll with H:={ S.H with ap:=a2,cp:=c2,sp:=S.H.sp++[(⟨true,a,c,A,nTs,zTb⟩:PS)] },ab:=a4,cb:=c4,T:=S.T++[List.replicate 64 zEn] }:MW).H.ma S.H.sp.length=⟨true,A,zTb⟩):=Lib.hid (by rw[hL];unfold fH;have h8:S.H.ma.sp.length=S.H.sp.length:=eH _;rw[aV,kT (by omega),h8,uh];rfl);have hX:∀W,eD W B b { S.lst al cl ll with H:={ S.H with ap:=a2,cp:=c2,sp:=S.H.sp++[(⟨true,a,c,A,nTs,zTb⟩:PS)] },ab:=a4,cb:=c4,T:=S.T++[List.replicate 64 zEn] }→dI W a (A.flatMap mP):=fun W hW=>(uE (hW.ma.ps (⟨true,a,c,A,nTs,zTb⟩:PS) (uB _ (bv.2 rfl))).1).rd;have kF:Hid (({ S.lst al cl ll with H:={ S.H with ap:=a2,cp:=c2,sp:=S.H.sp++[(⟨true,a,c,A,nTs,zTb⟩:PS)] },ab:=a4,cb:=c4,T:=S.T++[List.replicate 64 zEn] }:MW).H.sp.length=S.H.sp.length+1):=Lib.hid (by simp);have gh:Hid (S.l=[]→A=[]∧({ S.lst al cl ll with H:={ S.H with ap:=a2,cp:=c2,sp:=S.H.sp++[(⟨true,a,c,A,nTs,zTb⟩:PS)] },ab:=a4,cb:=c4,T:=S.T++[List.replicate 64 zEn] }:MW).l=[]∧({ S.lst al cl ll with H:={ S.H with ap:=a2,cp:=c2,sp:=S.H.sp++[(⟨true,a,c,A,nTs,zTb⟩:PS)] },ab:=a4,cb:=c4,T:=S.T++[List.replicate 64 zEn] }:MW).H.ma = { S.H.ma with sp:=S.H.ma.sp++[⟨true,[],zTb⟩] }∧({ S.lst al cl ll with H:={ S.H with ap:=a2,cp:=c2,sp:=S.H.sp++[(⟨true,a,c,A,nTs,zTb⟩:PS)] },ab:=a4,cb:=c4,T:=S.T++[List.replicate 64 zEn] }:MW).T=S.T++[List.replicate 64 zEn]):=Lib.hid fun e=>by
   have h9:=kQ.out e;have gk:k=0:=by omega
   have h8:=hA.out.2.2 gk;refine⟨h8.1,by show ll=[];rw[h8.2];exact h9.2,?_,rfl⟩;rw[hL,h8.1]
  have kw:=hX _ h5;have ks:∀S9:MW,S9.H.sp=S.H.sp++[(⟨true,a,c,A,nTs,zTb⟩:PS)]→S9.H.sp.length=S.H.sp.length+1:=fun S9 e=>by rw[e];simp
  have kt:({ S.lst al cl ll with H:={ S.H with ap:=a2,cp:=c2,sp:=S.H.sp++[(⟨true,a,c,A,nTs,zTb⟩:PS)] },ab:=a4,cb:=c4,T:=S.T++[List.replicate 64 zEn] }:MW).H.sp=S.H.sp++[(⟨true,a,c,A,nTs,zTb⟩:PS)]:=rfl;clear hL hX k8;generalize ({ S.lst al cl ll with H:={ S.H with ap:=a2,cp:=c2,sp:=S.H.sp++[(⟨true,a,c,A,nTs,zTb⟩:PS)] },ab:=a4,cb:=c4,T:=S.T++[List.replicate 64 zEn] }:MW)=S5 at *
  have kd:=ks S5 kt;have kX:S5.H.fi=S.H.fi:=hE.out.fi;have kO:srtF 0 A:=lD (iL.1 hA.out.1).2;have hV:=Lib.hid kO;have hc:=h5.blk.cell;unfold ja at hc;rw[kd] at hc;have gf:IntKind.i64.wrap (((S.H.sp.length+1:Nat):Int)-1)=(S.H.sp.length:Int):=by rw[bO _ (by omega)];omega
  have kJ:=Lib.hid kf;clear kf kO ks kd kX kt kg hF hG
  go_wp2_with fail
  refine (nL A a c _ kw (by omega) (fun x hx=>(srtF_ok hV.out x hx).1)).mono ?_;rintro r w6 ⟨rfl,kK⟩;have h6:=h5.below kK;have s6:=s5.below kK;have kj:=Lib.hid kF;clear h5 s5 hc kw gf kK;go_upto_region 15 with (fail)
  go_loopw [92] (fun i wr => ∃(n:Nat) (Sn:MW),n≤64∧i = .int .i64 n∧eD wr B b Sn∧MS w b S wr Sn∧Hid (JL S5 Sn∧Bd Sn.H.ma Sn.T∧(∀j:Nat,n≤j→(fq Sn.T S.H.sp.length j).k=0)∧(A=[]→Sn=S5))) (fun i _=>64-(intOf i).toNat)
  case atStart=>exact⟨0,S5,aW _,rfl,h6,s6,Lib.hid ⟨.refl _,kJ.out,fun j _=>kH.out j,fun _=>rfl⟩⟩
  case round=>
   clear h6 s6;obtain⟨n,Sn,hn,rfl,hm,hs,hN⟩:=hrel
   by_cases hn64:n<64
   ·have gi:(n:Int)<64:=by omega
    cases hfk:bZ A n with
    | none=>
     have hQ:=yA (bZ A) n hn64 none hfk;unfold oC oR oW oH oF oP at hQ;have kz:=Lib.hid hfk;clear hfk;go_upto_region 17 with (fail);refine gF (fun W=>Code.wp _ _ _ _ W) fun W1 hz hB hP => ?_;have hR:=hB.cell;have o:=hm.below hz;have kk:=hs.below hz;clear hP hz hm hs hQ;go_wp2;go_roundw
     case rel=>exact⟨n+1,Sn,by omega,by go_num,o,kk,Lib.hid ⟨hN.out.1,hN.out.2.1,fun j hj=>hN.out.2.2.1 j (by omega),hN.out.2.2.2⟩⟩
     case measure=>simp[intOf];omega
    | some g=>
     have hQ:=yA (bZ A) n hn64 (some g) hfk;unfold oC oR oW oH oF oP at hQ;dsimp only[Option.isSome] at hQ;have kz:=Lib.hid hfk;clear hfk;go_upto_region 17 with (fail);refine gF (fun W=>Code.wp _ _ _ _ W) fun W1 hz hB hP => ?_;have hR:=hB.cell;have o:=hm.below hz;have kk:=hs.below hz;clear hP hz hm hs hQ;have kG:onA A n=some g:=by rw[←nS hV.out];exact kz.out
     have kS:=pg_in hV.out kG;have ke:=Lib.hid kG;have ky:=Lib.hid kS;have kP:Hid (fH Sn.H.ma S.H.sp.length=⟨true,A,zTb⟩):=Lib.hid (by rw[←kE.out];show (Sn.H.sp.map PS.sp).getD _ zSp=(S5.H.sp.map PS.sp).getD _ zSp;rw[hN.out.1.sp]);clear kG kS
     go_wp2_with (refine ax _ _ rfl wr.heap.size 0 rfl rfl _ hB.rd _ underlying109 rfl one_size ?_)
     refine (LU Sn S.H.sp.length n g B b _ o hN.out.2.1 (by rw[hN.out.1.sp,kj.out.out];omega) hn64 (hN.out.2.2.1 n (az _)) (by rw[kP.out];exact ke.out) (by rw[hN.out.1.fi,hE.out.fi];exact hA.out.2.1 _ _ ke.out) ky.out.1 (fun h=>by
      rcases Int.lt_or_le g.fi 0 with h9|h9
      ·have:=(ky.out.2.2.2.2.1 h9).1;rw[h] at this;simp at this
      ·exact h9)).mono ?_
     rintro r w7 ⟨S7,rfl,h7,s7,k7,bd7,ent7⟩;have gg:=kk.trans s7;have gn:Hid (JL S5 S7∧Bd S7.H.ma S7.T∧(∀j:Nat,n+1≤j→(fq S7.T S.H.sp.length j).k=0)∧(A=[]→S7=S5)):=Lib.hid ⟨hN.out.1.trans k7,bd7,fun j hj=>by rw[ent7 _ _ (by omega)];exact hN.out.2.2.1 j (by omega),fun e=>by have h9:=ke.out;rw[e] at h9;cases h9⟩;clear o kk s7 k7 bd7 ent7 hB hR;go_wp2;go_roundw
     case rel=>exact⟨n+1,S7,by omega,by go_num,h7,gg,gn⟩
     case measure=>simp[intOf];omega
   have gi:¬(n:Int)<64:=by omega
   go_wp2;refine bodyPost_ret (v:=.tuple #[]) (by simp[results,go_sem,results35]) rfl ?_;have hK:=hN.out.1;have hM:=hE.out;refine⟨Sn,rfl,hm,hs,⟨hN.out.2.1,fun p hp n g hg => ?_,hK.fi.trans hM.fi,hK.ct.trans hM.ct,hK.dk.trans hM.dk,by rw[hK.sp];exact hM.sp,hK.fl.trans hM.fs⟩,fun e => ?_⟩
   ·rw[hK.sp] at hp;rw[hK.fi];exact hM.fm p hp n g hg
   have h9:=gh.out e;rw[hN.out.2.2.2 h9.1];exact h9.2
theorem eD.putD (h:eD w B b S) (hk:aA w g cs 79) (hgB:B≤g) (hga:oB S.H.db=some g) (hg:w.grownBy w' (some g)) {l:List Page} (hl:l.length=S.H.dk.blocks.length) (ho:Own w' B 79 8 (.slice S.H.db l.length S.H.cdb) l.length (l.flatMap BC)) :
    eD w' B b { S with H:={ S.H with dk:=⟨l,S.H.dk.queue⟩ } }:=
  ⟨by
    have h1:=bu h.blk hk (by decide) hg;have e:ja { S with H:={ S.H with dk:=⟨l,S.H.dk.queue⟩ } }=ja S:=by unfold ja;rw[show ({ S.H with dk:=⟨l,S.H.dk.queue⟩ }:MH).dk.blocks.length=S.H.dk.blocks.length from hl]
    rw[e];exact h1,h.ge,
   ⟨ak h.ma.fr hk (by decide) hg,ak h.ma.sl hk (by decide) hg,⟨h.ma.sw.b.grown hg (fun g' hg' e=>by cases e;rw[lM] at hg';exact h.n1 _ hg' hga),ak h.ma.sw.q hk (by decide) hg⟩,⟨ho,ak h.ma.dk.q hk (by decide) hg⟩,h.ma.st.keep hk (by decide) (by decide) hg,ak h.ma.ca hk (by decide) hg,ak h.ma.sp hk (by decide) hg,fun p hp=>⟨ak (h.ma.ps p hp).1 hk (by decide) hg,(h.ma.ps p hp).2.keep hk (by decide) hg⟩,h.ma.c64⟩,
   ak h.tt hk (by decide) hg,h.rd.keep h.ra h.bs hg hgB,h.ra,h.n1,h.n2,h.n3⟩
theorem eD.appQ (h:eD w B b S) (hg:w.grownBy w1 (Value.slice S.H.dq S.H.dk.queue.length S.H.cdq).ownBlock) {l:List (Int × Page)} (ho:Own w1 B 86 9 (.slice a l.length c) l.length (l.flatMap zw))
 (hb:aA w2 b (bD (ja S) 7 [.slice a l.length c]) 77) (hg2:w1.grownBy w2 (some b)) :
  eD w2 B b { S with H:={ S.H with dq:=a,cdq:=c,dk:=⟨S.H.dk.blocks,l⟩ } }:=by
 have d:Own w B 86 9 (.slice S.H.wq S.H.sw.queue.length S.H.cwq) S.H.sw.queue.length (S.H.sw.queue.flatMap zw):=h.ma.sw.q;have key:aA w1 b (ja S) 77∧Own w1 B 81 13 (.slice S.H.af S.H.m.fs.length S.H.cf) S.H.m.fs.length (S.H.m.fs.flatMap qz)∧Own w1 B 3 1 (.slice S.H.asl S.H.sl.length S.H.csl) S.H.sl.length (S.H.sl.map gB) ∧
   iE w1 B (.slice S.H.wb S.H.sw.blocks.length S.H.cwb) (.slice S.H.wq S.H.sw.queue.length S.H.cwq) S.H.sw∧Own w1 B 79 8 (.slice S.H.db S.H.dk.blocks.length S.H.cdb) S.H.dk.blocks.length (S.H.dk.blocks.flatMap BC)∧nM w1 B (.slice S.H.ai S.H.fi.length S.H.ci) S.H.fi ∧
   Own w1 B 106 3 (.slice S.H.ac S.H.ca.length S.H.cc) S.H.ca.length (S.H.ca.flatMap mE)∧Own w1 B 55 10 (.slice S.H.ap S.H.sp.length S.H.cp) S.H.sp.length (S.H.sp.flatMap uj) ∧
   (∀p∈S.H.sp,Own w1 B 99 7 (.slice p.aa p.ar.length p.ac) p.ar.length (p.ar.flatMap mP)∧qZ w1 B (nG p.ts) p.tb)∧Own w1 B 90 192 (.slice S.ab S.T.length S.cb) S.T.length (S.T.flatMap tL)∧ui w1 S.al S.cl S.l.length (S.l.map mQ):=by
  rcases rG h.ma.dk.q hg with hb0|⟨g,cs,hk,hga,hg'⟩
  ·have h1:=h.below hb0;exact⟨h1.blk,h1.ma.fr,h1.ma.sl,h1.ma.sw,h1.ma.dk.b,h1.ma.st,h1.ma.ca,h1.ma.sp,h1.ma.ps,h1.tt,h1.rd⟩
  ·exact⟨bu h.blk hk (by decide) hg',ak h.ma.fr hk (by decide) hg',ak h.ma.sl hk (by decide) hg',⟨ak h.ma.sw.b hk (by decide) hg',d.grown hg' (fun g' he=>by rw[h.n3] at he;cases he)⟩,ak h.ma.dk.b hk (by decide) hg',h.ma.st.keep hk (by decide) (by decide) hg',ak h.ma.ca hk (by decide) hg',ak h.ma.sp hk (by decide) hg',fun p hp=>⟨ak (h.ma.ps p hp).1 hk (by decide) hg',(h.ma.ps p hp).2.keep hk (by decide) hg'⟩,ak h.tt hk (by decide) hg',h.rd.keep h.ra h.bs hg' (iV h.ma.dk.q hga).1⟩
 obtain⟨k0,k1,k2,k3,k4,k5,k6,k7,k8,k9,k10⟩:=key;exact⟨hb,h.ge,⟨ak k1 k0 (by decide) hg2,ak k2 k0 (by decide) hg2,k3.keep k0 (by decide) (by decide) hg2,⟨ak k4 k0 (by decide) hg2,ak ho k0 (by decide) hg2⟩,k5.keep k0 (by decide) (by decide) hg2,ak k6 k0 (by decide) hg2,ak k7 k0 (by decide) hg2,fun p hp=>⟨ak (k8 p hp).1 k0 (by decide) hg2,(k8 p hp).2.keep k0 (by decide) hg2⟩,h.ma.c64⟩,
  ak k9 k0 (by decide) hg2,k10.keep h.ra (aY h.ge (qH k0.lt)) hg2 h.ge,h.ra,h.n1,h.n2,h.n3⟩
theorem eD.appFi (h:eD w B b S) {p:PF} (hp:Own w B 3 1 (ng p) p.l.length (p.l.map gB)) (hap:∀(i:Nat) q,S.H.fi[i]?=some q→Apart (ng q) (ng p)) (hasl:∀x,oB p.a=some x→oB S.H.asl≠some x)
 (hg:w.grownBy w1 (Value.slice S.H.ai S.H.fi.length S.H.ci).ownBlock) (ho:Own w1 B 67 2 (.slice a (S.H.fi++[p]).length c) (S.H.fi.length+1) (S.H.fi.flatMap qF++qF p))
 (hb:aA w2 b (bD (ja S) 8 [.slice a (S.H.fi++[p]).length c]) 77) (hg2:w1.grownBy w2 (some b)):eD w2 B b { S with H:={ S.H with ai:=a,ci:=c,fi:=S.H.fi++[p] } }:=by
 have hF:nM w1 B (.slice a (S.H.fi++[p]).length c) (S.H.fi++[p]):=h.ma.st.app ho hp hg hap;have key:aA w1 b (ja S) 77∧Own w1 B 81 13 (.slice S.H.af S.H.m.fs.length S.H.cf) S.H.m.fs.length (S.H.m.fs.flatMap qz)∧Own w1 B 3 1 (.slice S.H.asl S.H.sl.length S.H.csl) S.H.sl.length (S.H.sl.map gB) ∧
   iE w1 B (.slice S.H.wb S.H.sw.blocks.length S.H.cwb) (.slice S.H.wq S.H.sw.queue.length S.H.cwq) S.H.sw∧iE w1 B (.slice S.H.db S.H.dk.blocks.length S.H.cdb) (.slice S.H.dq S.H.dk.queue.length S.H.cdq) S.H.dk ∧
   Own w1 B 106 3 (.slice S.H.ac S.H.ca.length S.H.cc) S.H.ca.length (S.H.ca.flatMap mE)∧Own w1 B 55 10 (.slice S.H.ap S.H.sp.length S.H.cp) S.H.sp.length (S.H.sp.flatMap uj) ∧
   (∀p∈S.H.sp,Own w1 B 99 7 (.slice p.aa p.ar.length p.ac) p.ar.length (p.ar.flatMap mP)∧qZ w1 B (nG p.ts) p.tb)∧Own w1 B 90 192 (.slice S.ab S.T.length S.cb) S.T.length (S.T.flatMap tL)∧ui w1 S.al S.cl S.l.length (S.l.map mQ):=by
  rcases rG h.ma.st.own hg with hb0|⟨g,cs,hk,hga,hg'⟩
  ·have h1:=h.below hb0;exact⟨h1.blk,h1.ma.fr,h1.ma.sl,h1.ma.sw,h1.ma.dk,h1.ma.ca,h1.ma.sp,h1.ma.ps,h1.tt,h1.rd⟩
  ·exact⟨bu h.blk hk (by decide) hg',ak h.ma.fr hk (by decide) hg',ak h.ma.sl hk (by decide) hg',h.ma.sw.keep hk (by decide) (by decide) hg',h.ma.dk.keep hk (by decide) (by decide) hg',ak h.ma.ca hk (by decide) hg',ak h.ma.sp hk (by decide) hg',fun p hp=>⟨ak (h.ma.ps p hp).1 hk (by decide) hg',(h.ma.ps p hp).2.keep hk (by decide) hg'⟩,ak h.tt hk (by decide) hg',h.rd.keep h.ra h.bs hg' (iV h.ma.st.own hga).1⟩
 obtain⟨k0,k1,k2,k3,k4,k6,k7,k8,k9,k10⟩:=key;exact⟨hb,h.ge,⟨ak k1 k0 (by decide) hg2,ak k2 k0 (by decide) hg2,k3.keep k0 (by decide) (by decide) hg2,k4.keep k0 (by decide) (by decide) hg2,hF.keep k0 (by decide) (by decide) hg2,ak k6 k0 (by decide) hg2,ak k7 k0 (by decide) hg2,fun p hp=>⟨ak (k8 p hp).1 k0 (by decide) hg2,(k8 p hp).2.keep k0 (by decide) hg2⟩,h.ma.c64⟩,
  ak k9 k0 (by decide) hg2,k10.keep h.ra (aY h.ge (qH k0.lt)) hg2 h.ge,h.ra,h.n1,fun q hq x hx=>by
   rcases fV.1 hq with hq|hq
   ·exact h.n2 q hq x hx
   rw[bv.1 hq] at hx;exact hasl x hx,h.n3⟩
theorem eD.putP (h:eD w B b S) (hk:aA w g cs 55) (hgB:B≤g) (hg:w.grownBy w' (some g)) (hl:sp.length=S.H.sp.length) (ho:Own w' B 55 10 (.slice S.H.ap sp.length S.H.cp) sp.length (sp.flatMap uj))
 (hps:∀p∈sp,Own w B 99 7 (.slice p.aa p.ar.length p.ac) p.ar.length (p.ar.flatMap mP)∧qZ w B (nG p.ts) p.tb):eD w' B b { S with H:={ S.H with sp:=sp } }:=
  ⟨by
    have h1:=bu h.blk hk (by decide) hg;have e:ja { S with H:={ S.H with sp:=sp } }=ja S:=by unfold ja;rw[show ({ S.H with sp:=sp }:MH).sp.length=S.H.sp.length from hl]
    rw[e];exact h1,h.ge,
   ⟨ak h.ma.fr hk (by decide) hg,ak h.ma.sl hk (by decide) hg,h.ma.sw.keep hk (by decide) (by decide) hg,h.ma.dk.keep hk (by decide) (by decide) hg,h.ma.st.keep hk (by decide) (by decide) hg,ak h.ma.ca hk (by decide) hg,ho,fun p hp=>⟨ak (hps p hp).1 hk (by decide) hg,(hps p hp).2.keep hk (by decide) hg⟩,h.ma.c64⟩,
   ak h.tt hk (by decide) hg,h.rd.keep h.ra h.bs hg hgB,h.ra,h.n1,h.n2,h.n3⟩
theorem eD.setH (h:eD w B b S) {x:Int} (hb:aA w' b (bD (ja S) 2 [.int .i64 x]) 77) (hg:w.grownBy w' (some b)):eD w' B b { S with H:={ S.H with m:=⟨S.H.m.fs,x⟩ } }:=
  ⟨hb,h.ge,
   have k:=h.ma.keep h.blk (by decide) hg
   ⟨k.fr,k.sl,k.sw,k.dk,k.st,k.ca,k.sp,k.ps,k.c64⟩,ak h.tt h.blk (by decide) hg,h.rd.keep h.ra h.bs hg h.ge,h.ra,h.n1,h.n2,h.n3⟩
def FQ (S:MW) (B b:Nat) (w:World) (P:PS):(Nat→Bool)→(Nat→Value)→World→Prop:=fun L y W=>
 (∀k,10≤k→k<16→L (k+1)=true→L k=true)∧(L 16=true→L 5=true) ∧
 (L 16=false→eD W B b S∧MS w b S W S) ∧
 (L 15=true→L 16=false→∃a e,y 15 = .slice a 1 e∧ui W a e 1 (uj P)) ∧
 (L 16=true→∃w1,eD w1 B b S∧MS w b S w1 S∧w1.grownBy W (Value.slice S.H.ap S.H.sp.length S.H.cp).ownBlock∧Own W B 55 10 (y 16) (S.H.sp.length+1) (S.H.sp.flatMap uj++uj P)∧pE w1 (.slice S.H.ap S.H.sp.length S.H.cp) (y 16))
theorem Lx {row:Option Nat} (hg:w.grownBy w1 row) (hb:Below w1.heap.size w1 w2):w.grownBy w2 row:=
 ⟨hb.os.trans hg.os,hb.tape.trans hg.tape,hb.output.trans hg.output,aY hg.size hb.size,fun k hk hn=>(hb.block k (qi hk hg.size)).trans (hg.block k hk hn)⟩
theorem iK {P:PS}:∀L y W W',Below W.heap.size W W'→FQ S B b w P L y W→FQ S B b w P L y W':=
 fun _ _ _ _ hb ⟨h1,h2,h3,h4,h5⟩=>⟨h1,h2,fun e=>⟨(h3 e).1.below hb,(h3 e).2.below hb⟩,fun e1 e2=>by
  obtain⟨a,e,k1,k2⟩:=h4 e1 e2;exact⟨a,e,k1,k2.below hb⟩,fun e=>by
  obtain⟨w1,k1,k2,k3,k4,k5⟩:=h5 e;exact⟨w1,k1,k2,Lx k3 hb,k4.below hb,k5⟩⟩
theorem jl {P:PS} (hi:i≠15∧i≠16) (hd:∀k,10≤k→k<16→k+1=i→L k=true) (h:FQ S B b w P L y W):FQ S B b w P (bY L i) (dB y i v) W:=by
 obtain⟨h1,h2,h3,h4,h5⟩:=h;have e15:bY L i 15=L 15:=by unfold bY;rw[if_neg (fun e=>hi.1 e.symm)]
 have e16:bY L i 16=L 16:=by unfold bY;rw[if_neg (fun e=>hi.2 e.symm)]
 have y15:dB y i v 15=y 15:=by unfold dB;rw[if_neg (fun e=>hi.1 e.symm)]
 have y16:dB y i v 16=y 16:=by unfold dB;rw[if_neg (fun e=>hi.2 e.symm)]
 have up:∀k,L k=true→bY L i k=true:=fun k hk=>by unfold bY;split<;>simp[hk]
 refine⟨fun k k1 k2 k3 => ?_,fun e=>up 5 (h2 (by rw[←e16];exact e)),by rw[e16];exact h3,by rw[e15,e16,y15];exact h4,by rw[e16,y16];exact h5⟩
 by_cases e:k+1=i
 ·exact up k (hd k k1 k2 e)
 refine up k (h1 k k1 k2 ?_);unfold bY at k3;rw[if_neg e] at k3;exact k3
theorem Vt {P:PS} {e:Nat} (hb:Below W.heap.size W W') (h14:L 14=true) (h:FQ S B b w P L y W) (hr:ui W' a e 1 (uj P)):FQ S B b w P (bY L 15) (dB y 15 (.slice a 1 e)) W':=by
 obtain⟨h1,h2,h3,h4,h5⟩:=iK _ _ _ _ hb h;have up:∀k,L k=true→bY L 15 k=true:=fun k hk=>by unfold bY;split<;>simp[hk]
 refine⟨fun k k1 k2 k3 => ?_,fun e=>h2 e,h3,fun _ _=>⟨a,e,rfl,hr⟩,h5⟩
 by_cases e:k+1=15
 ·obtain rfl:k=14:=by omega
  exact up 14 h14
 refine up k (h1 k k1 k2 ?_);unfold bY at k3;rw[if_neg e] at k3;exact k3
theorem Us {P:PS} (h15:L 15=true) (h5' : L 5=true) (h16:L 16=false) (h:FQ S B b w P L y W) (hg:W.grownBy W' (Value.slice S.H.ap S.H.sp.length S.H.cp).ownBlock)
 (ho:Own W' B 55 10 v (S.H.sp.length+1) (S.H.sp.flatMap uj++uj P)) (hs:pE W (.slice S.H.ap S.H.sp.length S.H.cp) v):FQ S B b w P (bY L 16) (dB y 16 v) W':=by
 obtain⟨h1,h2,h3,h4,h5⟩:=h;have up:∀k,L k=true→bY L 16 k=true:=fun k hk=>by unfold bY;split<;>simp[hk]
 refine⟨fun k k1 k2 k3 => ?_,fun _=>h5',fun e=>(by cases e),fun _ e=>(by cases e),fun _=>⟨W,(h3 h16).1,(h3 h16).2,hg,ho,hs⟩⟩
 by_cases e:k+1=16
 ·obtain rfl:k=15:=by omega
  exact up 15 h15
 refine up k (h1 k k1 k2 ?_);unfold bY at k3;rw[if_neg e] at k3;exact k3
theorem Dm {P:PS} (h:FQ S B b w P L y W) (hi:L i=false) (hk:i=5∨(10≤i∧i≤16)):eD W B b S∧MS w b S W S:=by
 refine h.2.2.1 ?_;cases e:L 16 with
 | false=>rfl
 | true=>
  exfalso;rcases hk with rfl|⟨k1,k2⟩
  ·rw[h.2.1 e] at hi;cases hi
  have:∀d,d≤6→L (16-d)=true:=by
   intro d
   induction d with
   | zero=>intro _;exact e
   | succ d ih=>intro hd;exact h.1 (16-(d+1)) (by omega) (by omega) (by rw[show 16-(d+1)+1=16-d by omega];exact ih (by omega))
  have h9:=this (16-i) (by omega);rw[show 16-(16-i)=i by omega,hi] at h9;cases h9
def Xo (S:MW) (B b:Nat) (w:World) (r:Ending) (w' : World):Prop:=∃S',r = .returned (.tuple #[])∧eD w' B b S'∧MS w b S w' S'∧More S S'
theorem Vr (t:List En) (k:Nat) (hk:k<64):(tL t).toArray.extract (k*3) (k*3+3)=jq (t.getD k zEn):=by
 apply mr;intro j;rw[Array.getElem?_extract];have hs:(tL t).toArray.size=192:=by simp[yS]
 by_cases hj:j<3
 ·rw[if_pos (by omega)];have:=Ou t k j hk hj;simpa[kX] using this
 ·rw[if_neg (by omega),lF (by show 3≤j;omega)]
theorem entry_size3:(Tryz.prog.info? 89).map (·.size)=some 3:=by kernel_rfl
theorem CW (t:List En) (k:Nat) (hk:k<64) (e:En) (he:t.getD k zEn=e) (w:World):(Instr.index 90 (.agg (tL t).toArray) (.int .i64 k)).run Tryz.prog w = .ok (.agg (jq e)) w:=
 xu underlying90 underlying89 rfl entry_size3 _ k _ hk (by rw[←he];exact Vr t k hk) _ w
def MC (S0 S S' : MW) (B b:Nat) (w:World) (gx gf:Nat) (e:En) (F:Array Value):(Nat→Bool)→(Nat→Value)→World→Prop:=fun L _ W=>
 (aA W gx (jq e) 89∧aA W gf F 110)∧(L 14=false→eD W B b S∧MS w b S0 W S)∧(L 14=true→eD W B b S'∧MS w b S0 W S')
theorem aZ {e:En} {F:Array Value}:∀L y W W',Below W.heap.size W W'→MC S0 S S' B b w gx gf e F L y W→MC S0 S S' B b w gx gf e F L y W':=
 fun _ _ _ _ hb ⟨h1,h2,h3⟩=>⟨⟨h1.1.ext hb,h1.2.ext hb⟩,fun e=>⟨(h2 e).1.below hb,(h2 e).2.below hb⟩,fun e=>⟨(h3 e).1.below hb,(h3 e).2.below hb⟩⟩
theorem Dy {e:En} {F:Array Value} (h:MC S0 S S' B b w gx gf e F L y W) (hk:(ja S')[12]?=(ja S)[12]?):W.cell? ⟨b,12,none⟩=(ja S)[12]?:=by
 cases hL:L 14 with
 | false=>exact (h.2.1 hL).1.blk.cell 12
 | true=>rw[←hk];exact (h.2.2 hL).1.blk.cell 12
theorem tK {T:List (List En)} (ok:Bg m T) (hl:m.sp.length=2) {x:En} (hn:n<64) (hx:eT x=0) (q j:Nat) (hj:j≠n):fq (setL (setL T 0 n x) 1 n x) q j=fq T q j:=by
 rw[wO (ok.set (p:=0) (by omega) hx) (by omega) hn,if_neg (fun h=>hj h.2),wO ok (by omega) hn,if_neg (fun h=>hj h.2)]
theorem JZ {y:Operand} {k:IntKind} (ho:o.op = .indexAddr 30 x y) (hx:ρ x = .slice (some ⟨b,off,none⟩) n c) (hy:ρ y = .int k (i:Int)) (hi:i<n) :
  (execOp ρ o).run Tryz.prog w = .ok (.value (.pointer (some ⟨b,off+i,none⟩))) w:=by
 have:=bG (P:=Tryz.prog) (w:=w) ho hx hy hi underlying30 (show (Tryz.prog.info? 3).map (·.size)=some 1 by kernel_rfl);rw[this,qI]
theorem eD.locE (h:eD w B b S) (hk:aA w g cs 89) (hn:¬mR b S g) (hsp:∀p∈S.H.sp,∀k v,k<8→(nG p.ts)[k]?=some v→v.ownBlock≠some g) (hgB:B≤g) (hg:w.grownBy w' (some g)):eD w' B b S:=by
 have d:∀ {a:Option Addr},oB a∈iA S→∀n c g',(Value.slice a n c).ownBlock=some g'→some g≠some g':=fun hm n c g' he e=>by cases e;rw[lM] at he;exact hn (.inr (by rw[←he];exact hm))
 exact⟨h.blk.grown hg (fun e=>hn (.inl (aJ e))),h.ge,⟨h.ma.fr.grown hg (d (by simp[iA]) _ _),h.ma.sl.grown hg (d (by simp[iA]) _ _),⟨h.ma.sw.b.grown hg (d (by simp[iA]) _ _),h.ma.sw.q.grown hg (fun g' he=>by rw[h.n3] at he;cases he)⟩,⟨h.ma.dk.b.grown hg (d (by simp[iA]) _ _),h.ma.dk.q.grown hg (d (by simp[iA]) _ _)⟩,
  ⟨h.ma.st.own.grown hg (d (by simp[iA]) _ _),fun i p hp=>ak (h.ma.st.each i p hp) hk (by decide) hg,h.ma.st.apart⟩,h.ma.ca.grown hg (d (by simp[iA]) _ _),h.ma.sp.grown hg (d (by simp[iA]) _ _),fun p hp=>⟨ak (h.ma.ps p hp).1 hk (by decide) hg,⟨(h.ma.ps p hp).2.sz,fun k f=>by obtain⟨v,h1,h2⟩:=(h.ma.ps p hp).2.own k f;exact⟨v,h1,h2.grown hg (fun g' he e=>by cases e;exact hsp p hp k v f h1 he)⟩,(h.ma.ps p hp).2.apart⟩⟩,h.ma.c64⟩,
  h.tt.grown hg (d (by simp[iA]) _ _),h.rd.keep h.ra h.bs hg hgB,h.ra,h.n1,h.n2,h.n3⟩
theorem eD.newE (h:eD w B b S) {x:Nat} (hx:w.heap.size≤x):∀p∈S.H.sp,∀k v,k<8→(nG p.ts)[k]?=some v→v.ownBlock≠some x:=fun p hp k v hk hv he=>by
 obtain⟨v',h1,h2⟩:=(h.ma.ps p hp).2.own k hk;rw[hv] at h1;cases h1;have:=CF h2 x he;omega
theorem Qd (S:MW) (B b:Nat) (w:World) (h:eD w B b S) (hd:Bd S.H.ma S.T) (hf:NY S) (hl:S.H.sp.length=1) :
  Calls Tryz.prog 34 #[.pointer (some ⟨b,0,none⟩)] w (Xo S B b w):=by
 obtain⟨p0,gL⟩:=List.length_eq_one_iff.1 hl;have gP:=Lib.hid hd;have qk:=Lib.hid hf;have qF:=Lib.hid h.bs;have kc:=Lib.hid gL;obtain⟨gp,op,cap,cur,hv,gh,hP,gg,kg,kj⟩:=h.ma.sp.put tT (by decide) 0 (by rw[hl];decide);have kY:S.H.ap=some ⟨gp,op,none⟩:=(nJ hv).1;have kV:∀W,eD W B b S→W.cell? ⟨gp,op+1,none⟩=some (.slice p0.aa p0.ar.length p0.ac):=fun W hW=>by
  obtain⟨g2,o2,_,_,k7,_,_,_,qm,_⟩:=hW.ma.sp.put tT (by decide) 0 (by rw[hl];decide);have e9:(some (⟨g2,o2,none⟩:Addr))=some ⟨gp,op,none⟩:=(nJ k7).1.symm.trans kY;cases e9;have e0:S.H.sp[0]'(by rw[hl];decide)=p0:=by simp[gL]
  rw[e0] at qm;have:=qm 1 _ rfl;simpa using this
 clear hd hf gL hv hP gg kg kj;go_enter func34,ntmps34;go_upto_region 0 with (fail);refine ib 20 [_,_,_,_,_,.v (.slice (some ⟨gp,op,none⟩) 1 S.H.cp),_,_,_,_,.v (.slice (some ⟨gp,op,none⟩) 1 S.H.cp),_,_,.v (.slice p0.aa p0.ar.length p0.ac),.v (.agg (uM ⟨true,p0.aa,p0.ac,p0.ar,nTs,zTb⟩)),.r 15 ((cB fun _=>True)),.r 16 ((cB fun _=>True)),_,_,_] (FQ S B b w ⟨true,p0.aa,p0.ac,p0.ar,nTs,zTb⟩) iK (fun _=>⟨fun k _ _ e=>(by cases e),fun e=>(by cases e),fun _=>⟨h,MS.refl _ _ _⟩,fun e=>(by cases e),fun e=>(by cases e)⟩) (Qk iK rfl (Qk iK rfl (Qk iK rfl (Qf iK b 1 rfl rfl (Qf iK b 11 rfl rfl (ag ?_ (Qk iK rfl (Qk iK rfl (Qf iK b 1 rfl rfl (Qf iK b 11 rfl rfl (ag ?_ (Qr iK (.pointer (some ⟨gp,op,none⟩)) (fun ρ y W o=>(bG (i:=0) rfl (aC rfl o) (aC rfl o) (by decide) underlying39 space_size)) rfl rfl (Qf iK gp (op+1) rfl rfl (ag ?_ (ag ?_ (ag ?_ (ag ?_ (Qk iK rfl (Qf iK b 1 rfl rfl (Qf iK b 11 rfl rfl (aB) (fun _ _ _ _ c h=>jl (by decide) (by intro k h1 h2 e;first | omega | (obtain rfl:=kM e;exact c _ rfl)) h)) (fun _ _ _ _ c h=>jl (by decide) (by intro k h1 h2 e;first | omega | (obtain rfl:=kM e;exact c _ rfl)) h)) (fun _ _ _ _ c h=>jl (by decide) (by intro k h1 h2 e;first | omega | (obtain rfl:=kM e;exact c _ rfl)) h)))))) (fun _ _ _ _ c h=>jl (by decide) (by intro k h1 h2 e;first | omega | (obtain rfl:=kM e;exact c _ rfl)) h)) (fun _ _ _ _ c h=>jl (by decide) (by intro k h1 h2 e;first | omega | (obtain rfl:=kM e;exact c _ rfl)) h))) (fun _ _ _ _ c h=>jl (by decide) (by intro k h1 h2 e;first | omega | (obtain rfl:=kM e;exact c _ rfl)) h)) (fun _ _ _ _ c h=>jl (by decide) (by intro k h1 h2 e;first | omega | (obtain rfl:=kM e;exact c _ rfl)) h)) (fun _ _ _ _ c h=>jl (by decide) (by intro k h1 h2 e;first | omega | (obtain rfl:=kM e;exact c _ rfl)) h)) (fun _ _ _ _ c h=>jl (by decide) (by intro k h1 h2 e;first | omega | (obtain rfl:=kM e;exact c _ rfl)) h))) (fun _ _ _ _ c h=>jl (by decide) (by intro k h1 h2 e;first | omega | (obtain rfl:=kM e;exact c _ rfl)) h)) (fun _ _ _ _ c h=>jl (by decide) (by intro k h1 h2 e;first | omega | (obtain rfl:=kM e;exact c _ rfl)) h)) (fun _ _ _ _ c h=>jl (by decide) (by intro k h1 h2 e;first | omega | (obtain rfl:=kM e;exact c _ rfl)) h)) (fun _ _ _ _ c h=>jl (by decide) (by intro k h1 h2 e;first | omega | (obtain rfl:=kM e;exact c _ rfl)) h)) (fun _ _ _ _ c h=>jl (by decide) (by intro k h1 h2 e;first | omega | (obtain rfl:=kM e;exact c _ rfl)) h)) (fun _=>rfl) rfl ?_
 ·intro ρ y W L hw hn t c hb hd;refine ed iK (fun _ _ h=>jl (by decide) (by intro k h1 h2 e;first | omega | (obtain rfl:=kM e;exact c _ rfl)) h) hb ?_;have E9:=hw 9 4 rfl;have h4:y 4=_:=hd 4 rfl;have hm:=(Dm hb t (by decide)).1;refine aj (.slice (some ⟨gp,op,none⟩) 1 S.H.cp) (ah rfl) (by simp[execOp,go_sem,E9,h4,hm.blk.cell,ja,kY,hl]) rfl
 ·intro ρ y W L hw hn t c hb hd;refine ed iK (fun _ _ h=>jl (by decide) (by intro k h1 h2 e;first | omega | (obtain rfl:=kM e;exact c _ rfl)) h) hb ?_;have qM:=hw 14 9 rfl;have h9:y 9=_:=hd 9 rfl;have hm:=(Dm hb t (by decide)).1;refine aj (.slice (some ⟨gp,op,none⟩) 1 S.H.cp) (ah rfl) (by simp[execOp,go_sem,qM,h9,hm.blk.cell,ja,kY,hl]) rfl
 ·intro ρ y W L hw hn t c hb hd;refine ed iK (fun _ _ h=>jl (by decide) (by intro k h1 h2 e;first | omega | (obtain rfl:=kM e;exact c _ rfl)) h) hb ?_;have qL:=hw 17 12 rfl;have hA:y 12=_:=hd 12 rfl;have hm:=(Dm hb t (by decide)).1;refine aj (.slice p0.aa p0.ar.length p0.ac) (ah rfl) (by simp[execOp,go_sem,qL,hA,kV W hm]) rfl
 ·intro ρ y W L hw hn t c hb hd;refine ed iK (fun _ _ h=>jl (by decide) (by intro k h1 h2 e;first | omega | (obtain rfl:=kM e;exact c _ rfl)) h) hb ?_;have qK:=hw 18 13 rfl;have kC:y 13=_:=hd 13 rfl;have EC:∀v,ρ (.const v)=v:=fun v=>hn (.const v) trivial;refine aj (.agg (uM ⟨true,p0.aa,p0.ac,p0.ar,nTs,zTb⟩)) (ah rfl) (by simp[execOp,go_sem,qK,kC,EC,uM,nTs]) rfl
 ·intro ρ y W L hw hn t c hb hd;have qJ:=hw 19 14 rfl;have qG:y 14=_:=hd 14 rfl;refine eu (.slice (some ⟨W.heap.size,0,none⟩) 1 1) (ah rfl) ?_ (Vt (W':=W.alloc (.cells (uM ⟨true,p0.aa,p0.ac,p0.ar,nTs,zTb⟩) 55)) ((Below.refl _ _).alloc (az _) _) (c 14 rfl) hb ⟨az _,by unfold maxLen;omega,fun e=>(by cases e),dI.new _ _ _⟩) trivial;simp[execOp,go_sem,qJ.trans qG,uM]
 ·intro ρ y W L hw hn t c hb hd;have qN:=hw 10 5 rfl;have h5:y 5=_:=hd 5 rfl;have qH:=hw 20 15 rfl;have gn:=hd 15 rfl;have hm:=(Dm hb t (by decide)).1;obtain⟨a,e,qu,gJ⟩:=hb.2.2.2.1 (c 15 rfl) t;have qx:Own W B 55 10 (.slice S.H.ap S.H.sp.length S.H.cp) S.H.sp.length (S.H.sp.flatMap uj):=hm.ma.sp;refine jJ (ah rfl) (mM _ _ _ rfl B 55 _ 10 224 underlying39 space_info rfl (by decide) (.slice S.H.ap S.H.sp.length S.H.cp) S.H.sp.length _ (by rw[hl,kY];exact qN.trans h5) qx a 1 e _ (qH.trans qu) gJ.nl gJ.le rfl gJ.rd (bV (by simp[uM,nTs,Value.oneCell'])) (by unfold maxLen;omega) (by omega) hm.bs) (fun v W1 h=>Us (c 15 rfl) (c 5 rfl) t hb h.2.1 h.1 h.2.2) (fun _ _ _=>trivial)
 intro y W1 gE qr;clear qr;obtain⟨w1,hq,k9,kx,own2,kJ⟩:=gE.2.2.2.2 rfl;clear gE h;have hC:Own w1 B 55 10 (.slice S.H.ap S.H.sp.length S.H.cp) S.H.sp.length (S.H.sp.flatMap uj):=hq.ma.sp;have kN:p0∈S.H.sp:=by rw[kc.out];exact bv.2 rfl
 have gD:=AR hC kx hq.blk (by decide);have gu:∀p∈S.H.sp++[(⟨true,p0.aa,p0.ac,p0.ar,nTs,zTb⟩:PS)],Own W1 B 99 7 (.slice p.aa p.ar.length p.ac) p.ar.length (p.ar.flatMap mP)∧qZ W1 B (nG p.ts) p.tb:=fun p hp=>by
  rcases fV.1 hp with hp|hp
  ·exact⟨iP hC kx (hq.ma.ps p hp).1 (by decide),CR hC kx (hq.ma.ps p hp).2⟩
  rw[bv.1 hp];exact⟨iP hC kx (hq.ma.ps p0 kN).1 (by decide),zN _ _⟩
 obtain⟨a2,c2,k7,_⟩:=own2.rd;rw[k7] at own2 kJ ⊢;clear k7;have kf:(S.H.sp++[(⟨true,p0.aa,p0.ac,p0.ar,nTs,zTb⟩:PS)]).length=S.H.sp.length+1:=by simp
 have own2' : Own W1 B 55 10 (.slice a2 (S.H.sp++[(⟨true,p0.aa,p0.ac,p0.ar,nTs,zTb⟩:PS)]).length c2) (S.H.sp++[(⟨true,p0.aa,p0.ac,p0.ar,nTs,zTb⟩:PS)]).length ((S.H.sp++[(⟨true,p0.aa,p0.ac,p0.ar,nTs,zTb⟩:PS)]).flatMap uj):=by rw[kf,fu];simpa using own2
 clear own2
 go_wp2_with (refine aD rfl _ _ _ rfl b 11 _ [.slice a2 (S.H.sp.length+1) c2] rfl rfl rfl _ _ gD (by show 11+1≤13;omega) (by kernel_rfl) (fun u hu=>by cases bv.1 hu;rfl) ?_)
 intro w3 qo kF;have h3:eD w3 B b { S with H:={ S.H with ap:=a2,cp:=c2,sp:=S.H.sp++[(⟨true,p0.aa,p0.ac,p0.ar,nTs,zTb⟩:PS)] } }:=hq.appP kx own2' gu (by rw[kf,hl];exact qo) kF;have s3:MS w b S w3 { S with H:={ S.H with ap:=a2,cp:=c2,sp:=S.H.sp++[(⟨true,p0.aa,p0.ac,p0.ar,nTs,zTb⟩:PS)] } }:=k9.app hq hC (by simp[iA]) kx kF kJ (fun x hx=>by
  rcases hx with hx|hx
  ·exact .inl (.inl hx)
  simp only[iA,bU,fZ,or_false] at hx;rcases hx with hx|hx|hx|hx|hx|hx|hx|hx|hx<;>first|exact .inr hx.symm|exact .inl (.inr (by simp[iA,hx])))
 clear hq k9 hC gD gu own2' qo kF kJ kx kV kY
 -- process 0's areas
 obtain⟨g3,o3,_,_,qv,_,_,_,ql,_⟩:=h3.ma.sp.put tT (by decide) 0 (by simp);have qp:a2=some ⟨g3,o3,none⟩:=(nJ qv).1;have c31:w3.cell? ⟨g3,o3+1,none⟩=some (.slice p0.aa p0.ar.length p0.ac):=by
  have e0:(S.H.sp++[(⟨true,p0.aa,p0.ac,p0.ar,nTs,zTb⟩:PS)])[0]'(by simp)=p0:=by simp[kc.out]
  rw[e0] at ql;have:=ql 1 _ rfl;simpa using this
 have hc:=h3.blk.cell;unfold ja at hc;dsimp only at hc;rw[qp,kf] at hc;have qt:=(h3.ma.ps p0 (oV _ kN)).1;have k6:Hid ((bJ p0.ar).1=0):=Lib.hid (gP.out.rt.pt.ar ⟨p0.lv,p0.ar,gG (eY S.T 0)⟩ (by
  show _∈(List.range (S.H.sp.map PS.sp).length).map fun p=>({ fH S.H.ma p with tb:=gG (eY S.T p) }:Sp);rw[fP];refine⟨0,by rw[eH,hl];decide,?_⟩;have e1:fH S.H.ma 0=p0.sp:=by show (S.H.sp.map PS.sp).getD 0 zSp=_;rw[kc.out];rfl
  rw[e1];rfl))
 have qS:p0.ar.length≤16:=(iL.1 k6.out).1;have g7:=Lib.hid (lD (iL.1 k6.out).2)
 go_wp2_with fail
 refine (nL p0.ar p0.aa p0.ac _ (uE qt).rd (by omega) (fun x hx=>(srtF_ok g7.out x hx).1)).mono ?_;rintro r w4 ⟨rfl,gV⟩;have h4:=h3.below gV;have s4:=s3.below gV;have kr:=Lib.hid (jy (bZ p0.ar));clear h3 s3 hc c31 qp gV qt
 go_wp2_with (refine aF rfl _ _ _ rfl (fC (bZ p0.ar)) rfl rfl (by rw[kr.out];rfl) (by rw[kr.out];exact ones_size) (zF _) ?_)
 intro w5 gU fx5;have h5:=h4.below gU;have s5:=s4.below gU;have gc:=Lib.hid (h4.new (az _));have qB:=Lib.hid s4.size;clear h4 s4 gU;generalize w4.heap.size=gf at *
 have qq:S.T.length=1:=by have h9:=gP.out.ok.len;have h8:S.H.ma.sp.length=S.H.sp.length:=eH _;omega
 have k0:=Lib.hid qq;have gM:=Lib.hid hl;clear qq hl;have hc:=h5.blk.cell;unfold ja at hc;dsimp only at hc;have ks:Own w5 B 90 192 (.slice S.ab S.T.length S.cb) S.T.length (S.T.flatMap tL):=h5.tt
 go_wp2_with (at_builtin;go_must (refine Cj rfl _ _ rfl (by kernel_rfl) B (.slice S.ab S.T.length S.cb) S.T.length (S.T.flatMap tL) rfl ks rfl (by have:=k0.out;omega) h5.bs ?_))
 intro v6 w6 own6 gj kI;have kk:=(Below.refl w5.heap.size w5).alloc (az _) (.cells (tL (List.replicate 64 zEn)).toArray 90);have gm:=h5.below kk;have s5a:=s5.below kk;have hS:=ks.below kk;have gk:=fx5.ext kk;have kv:∀ {x:Nat} {cs:Array Value} {T:TypeId},aA (w5.alloc (.cells (tL (List.replicate 64 zEn)).toArray 90)) x cs T→T≠90→aA w6 x cs T:=fun ge hT=>by
  rcases rG hS gj with hb0|⟨g,cs,hk,_,hg'⟩
  ·exact ge.ext hb0
  ·exact bu ge hk (fun e=>hT e.symm) hg'
 have gC:=kv gm.blk (by decide);have fx6:=kv gk (by decide);have qD:∀x,v6.ownBlock=some x→x≠gf:=fun x hx e=>by
  rcases kI with e1|e1
  ·rw[e1] at hx;obtain⟨cs,hk⟩:=kW hS x hx;rw[e] at hk;exact mo hk gk (by decide) rfl
  have h9:=e1 x hx;rw[e] at h9;exact Nat.lt_irrefl _ (qi gk.lt h9)
 obtain⟨a4,c4,rfl,_⟩:=own6.rd;have qc:some gf=oB a4→False:=fun e=>qD gf (by rw[lM];exact e.symm) rfl;have ke:(S.T++[List.replicate 64 zEn]).length=S.T.length+1:=by simp
 have own6' : Own w6 B 90 192 (.slice a4 (S.T++[List.replicate 64 zEn]).length c4) (S.T++[List.replicate 64 zEn]).length ((S.T++[List.replicate 64 zEn]).flatMap tL):=by rw[ke,fu];simpa using own6
 clear hc h5 s5 ks own6 kk kv gk fx5
 go_wp2_with (refine aD rfl _ _ _ rfl b 12 _ [.slice a4 (S.T.length+1) c4] rfl rfl rfl _ _ gC (by show 12+1≤13;omega) (by kernel_rfl) (fun u hu=>by cases bv.1 hu;rfl) ?_)
 intro w7 qn gi;have h7:eD w7 B b { S with H:={ S.H with ap:=some ⟨g3,o3,none⟩,cp:=c2,sp:=S.H.sp++[(⟨true,p0.aa,p0.ac,p0.ar,nTs,zTb⟩:PS)] },ab:=a4,cb:=c4,T:=S.T++[List.replicate 64 zEn] }:=gm.appT gj own6' (by rw[ke];exact qn) gi;have s7:MS w b S w7 { S with H:={ S.H with ap:=some ⟨g3,o3,none⟩,cp:=c2,sp:=S.H.sp++[(⟨true,p0.aa,p0.ac,p0.ar,nTs,zTb⟩:PS)] },ab:=a4,cb:=c4,T:=S.T++[List.replicate 64 zEn] }:=s5a.app gm hS (by simp[iA]) gj gi kI (fun x hx=>by
  rcases hx with hx|hx
  ·exact .inl (.inl hx)
  simp only[iA,bU,fZ,or_false] at hx;rcases hx with hx|hx|hx|hx|hx|hx|hx|hx|hx<;>first|exact .inr hx.symm|exact .inl (.inr (by simp[iA,hx])))
 have qb:gf≠b:=fun e=>gc.out (.inl e);have gv:Hid (¬mR b ({ S with H:={ S.H with ap:=some ⟨g3,o3,none⟩,cp:=c2,sp:=S.H.sp++[(⟨true,p0.aa,p0.ac,p0.ar,nTs,zTb⟩:PS)] },ab:=a4,cb:=c4,T:=S.T++[List.replicate 64 zEn] }:MW) gf):=Lib.hid fun hk=>by
  rcases hk with hk|hk
  ·exact gc.out (.inl hk)
  simp only[iA,bU,fZ,or_false] at hk;have qR:gf<w6.heap.size:=fx6.lt;rcases hk with hk|hk|hk|hk|hk|hk|hk|hk|hk
  all_goals first
   | exact qc hk
   | exact gc.out (.inr (by simp[iA,hk]))
 have fx7:=fx6.grown gi (fun e=>qb (aJ e).symm);clear gm s5a hS gC own6' qn gi kI gj fx6;have kD:({ S with H:={ S.H with ap:=some ⟨g3,o3,none⟩,cp:=c2,sp:=S.H.sp++[(⟨true,p0.aa,p0.ac,p0.ar,nTs,zTb⟩:PS)] },ab:=a4,cb:=c4,T:=S.T++[List.replicate 64 zEn] }:MW).H.ma = { S.H.ma with sp:=S.H.ma.sp++[⟨true,p0.ar,zTb⟩] }:=by simp[MH.ma,PS.sp]
 have ku:Hid (More S { S with H:={ S.H with ap:=some ⟨g3,o3,none⟩,cp:=c2,sp:=S.H.sp++[(⟨true,p0.aa,p0.ac,p0.ar,nTs,zTb⟩:PS)] },ab:=a4,cb:=c4,T:=S.T++[List.replicate 64 zEn] }):=Lib.hid ⟨by
  rw[kD];exact gP.out.more (s:=⟨true,p0.ar,zTb⟩) (by show (S.H.sp.map PS.sp).length<4;rw[eH,gM.out];decide) rfl k6.out,fun p hp n g hg=>by
  rcases fV.1 hp with hp|hp
  ·exact qk.out p hp n g hg
  rw[bv.1 hp] at hg;exact qk.out p0 kN n g hg,rfl,rfl,rfl,by simp,rfl⟩
 have qP:Hid (({ S with H:={ S.H with ap:=some ⟨g3,o3,none⟩,cp:=c2,sp:=S.H.sp++[(⟨true,p0.aa,p0.ac,p0.ar,nTs,zTb⟩:PS)] },ab:=a4,cb:=c4,T:=S.T++[List.replicate 64 zEn] }:MW).H.ma.sp.length=2):=Lib.hid (by rw[kD,jP];show (S.H.sp.map PS.sp).length+1=2;rw[eH,gM.out]);have qQ:Hid ((fH ({ S with H:={ S.H with ap:=some ⟨g3,o3,none⟩,cp:=c2,sp:=S.H.sp++[(⟨true,p0.aa,p0.ac,p0.ar,nTs,zTb⟩:PS)] },ab:=a4,cb:=c4,T:=S.T++[List.replicate 64 zEn] }:MW).H.ma 0).ar=p0.ar∧(fH ({ S with H:={ S.H with ap:=some ⟨g3,o3,none⟩,cp:=c2,sp:=S.H.sp++[(⟨true,p0.aa,p0.ac,p0.ar,nTs,zTb⟩:PS)] },ab:=a4,cb:=c4,T:=S.T++[List.replicate 64 zEn] }:MW).H.ma 1).ar=p0.ar):=Lib.hid (by
  rw[kD];have e:S.H.ma.sp=[p0.sp]:=by show S.H.sp.map PS.sp=_;rw[kc.out];rfl
  unfold fH;simp only[e];exact⟨rfl,rfl⟩)
 obtain⟨t0,k8⟩:=List.length_eq_one_iff.1 k0.out;have gA:Hid ((∀j:Nat,fq ({ S with H:={ S.H with ap:=some ⟨g3,o3,none⟩,cp:=c2,sp:=S.H.sp++[(⟨true,p0.aa,p0.ac,p0.ar,nTs,zTb⟩:PS)] },ab:=a4,cb:=c4,T:=S.T++[List.replicate 64 zEn] }:MW).T 0 j=t0.getD j zEn)∧∀j:Nat,(fq ({ S with H:={ S.H with ap:=some ⟨g3,o3,none⟩,cp:=c2,sp:=S.H.sp++[(⟨true,p0.aa,p0.ac,p0.ar,nTs,zTb⟩:PS)] },ab:=a4,cb:=c4,T:=S.T++[List.replicate 64 zEn] }:MW).T 1 j).k=0):=Lib.hid (by unfold fq eY;simp only[k8];refine⟨fun j=>rfl,fun j => ?_⟩;show ((List.replicate 64 zEn).getD j zEn).k=0;rw[aV,oK];split<;>rfl);obtain⟨gT,oT,_,_,g6,_,_,_,gS,_⟩:=h7.tt.put yS (by decide) 0 (by simp);have qC:a4=some ⟨gT,oT,none⟩:=(nJ g6).1;have gt:dI w7 (some ⟨gT,oT,none⟩) (tL t0):=fun j u hj=>⟨gT,oT,rfl,by
  have e0:(S.T++[List.replicate 64 zEn])[0]'(by simp)=t0:=by simp[k8]
  rw[e0] at gS;simpa using gS j u hj⟩
 have kB:(S.T++[List.replicate 64 zEn]).length=2:=by rw[ke,k0.out]
 have hc:=h7.blk.cell;unfold ja at hc;dsimp only at hc;rw[qC,kB] at hc;have qO:=Lib.hid k8;clear kD k8 g6 gS;have gr:(Tryz.prog.info? 90).map (·.size)=some (tL t0).length:=by rw[yS];exact ents_size
 have kH:=Lib.hid gr;clear gr;go_upto_region 3 with (fail);clear qb ke kf qF gc qB kr k6;go_upto_region 4 with (refine ax _ _ rfl gT oT rfl rfl (tL t0) gt _ underlying90 rfl kH.out ?_);have h7:eD w7 B b { S with H:={ S.H with ap:=some ⟨g3,o3,none⟩,cp:=c2,sp:=S.H.sp++[(⟨true,p0.aa,p0.ac,p0.ar,nTs,zTb⟩:PS)] },ab:=a4,cb:=c4,T:=S.T++[List.replicate 64 zEn] }:=h7;have qA:Hid (({ S with H:={ S.H with ap:=some ⟨g3,o3,none⟩,cp:=c2,sp:=S.H.sp++[(⟨true,p0.aa,p0.ac,p0.ar,nTs,zTb⟩:PS)] },ab:=a4,cb:=c4,T:=S.T++[List.replicate 64 zEn] }:MW).T.length=2):=Lib.hid kB;clear hc gt kH kB;have gH:Hid (({ S with H:={ S.H with ap:=some ⟨g3,o3,none⟩,cp:=c2,sp:=S.H.sp++[(⟨true,p0.aa,p0.ac,p0.ar,nTs,zTb⟩:PS)] },ab:=a4,cb:=c4,T:=S.T++[List.replicate 64 zEn] }:MW).H.sp=S.H.sp++[(⟨true,p0.aa,p0.ac,p0.ar,nTs,zTb⟩:PS)]):=Lib.hid rfl;have qE:Hid (({ S with H:={ S.H with ap:=some ⟨g3,o3,none⟩,cp:=c2,sp:=S.H.sp++[(⟨true,p0.aa,p0.ac,p0.ar,nTs,zTb⟩:PS)] },ab:=a4,cb:=c4,T:=S.T++[List.replicate 64 zEn] }:MW).T=S.T++[List.replicate 64 zEn]):=Lib.hid rfl;generalize ({ S with H:={ S.H with ap:=some ⟨g3,o3,none⟩,cp:=c2,sp:=S.H.sp++[(⟨true,p0.aa,p0.ac,p0.ar,nTs,zTb⟩:PS)] },ab:=a4,cb:=c4,T:=S.T++[List.replicate 64 zEn] }:MW)=S5 at *
 go_loopw [50] (fun i wr => ∃(n:Nat) (Sn:MW),n≤64∧i = .int .i64 n∧eD wr B b Sn∧MS w b S wr Sn∧aA wr gf (fC (bZ p0.ar)) 110∧Hid (¬mR b Sn gf)∧Hid (JL S5 Sn∧Bd Sn.H.ma Sn.T∧∀j:Nat,n≤j→fq Sn.T 0 j=t0.getD j zEn∧(fq Sn.T 1 j).k=0)) (fun i _=>64-(intOf i).toNat)
 case atStart=>exact⟨0,S5,aW _,rfl,h7,s7,fx7,gv,Lib.hid ⟨.refl _,ku.out.bd,fun j _=>by rw[qE.out];exact⟨gA.out.1 j,gA.out.2 j⟩⟩⟩
 case round=>
  clear h7 s7 fx7 gv;obtain⟨n,Sn,hn,rfl,hm,hs,fx,gd,hN⟩:=hrel
  by_cases hn64:n<64
  ·have qy:(n:Int)<64:=by omega
   obtain⟨e,he⟩:∃e,t0.getD n zEn=e:=⟨_,rfl⟩;have qd:=CW t0 n hn64 e he;unfold jq at qd;have gO:=Lib.hid he;clear he;have hO:Sn.T.length=2:=by have h9:=hN.out.2.1.ok.len;rw[h9];show (Sn.H.sp.map PS.sp).length=2;rw[eH,hN.out.1.sp,ku.out.sp,gM.out]
   have ko:Hid (∀p,p<2→(eY Sn.T p).length=64):=Lib.hid fun p hp=>hN.out.2.1.ok.l64 (by rw[←hN.out.2.1.ok.len,hO];exact hp);go_upto_region 6 with (fail);refine gF (fun W=>Code.wp _ _ _ _ W) fun W1 gl bx1 k9 => ?_;have hq:=hm.below gl;have sm1:=hs.below gl;have fx1:=fx.ext gl;have z:=Lib.hid (hm.new (az _));have qj:=Lib.hid (hm.newE (az _));have qf:B≤wr.heap.size:=hm.bs;have qe:=Lib.hid hs.size;have qg:gf≠wr.heap.size:=fun e9=>by have:=fx.lt;omega
   have ky:=bx1.cell;clear k9 gl hm hs fx qd;generalize wr.heap.size=gx at *
   by_cases hk1:e.k=1
   ·have hK:=hN.out.1;have hB:=hN.out.2.1;have hL:Sn.H.ma.sp.length=2:=by rw[←hB.ok.len];exact hO
    have hh:fq Sn.T 0 n=e:=by rw[(hN.out.2.2 n (az _)).1];exact gO.out
    have hE:=za hB.ok (p:=0) (n:=n) (by omega) hn64;rw[hh] at hE;have kh:=lH hB.ok (p:=0) (n:=n) (by omega) hn64;rw[hh] at kh;obtain⟨g,hI,hY⟩:=hB.rt.en 0 n (by rw[kh,hk1];decide);rw[kh] at hY;have kO:0≤e.n:=by rcases (cO _).1 hE with h9 | h9 | h9<;>omega
    obtain⟨f,kU⟩:=fO kO;have kT:f<Sn.H.m.fs.length:=by have h9:=hY.lt hk1;have e1:((dV Sn.H.ma Sn.T).m.fs.length:Nat)=Sn.H.m.fs.length:=rfl;omega
    rw[nN (by omega)] at hI;have ki:(fH Sn.H.ma 1).ar=(fH Sn.H.ma 0).ar∧(fH Sn.H.ma 0).ar=p0.ar:=by
     have e1:Sn.H.ma.sp=[p0.sp,⟨true,p0.ar,zTb⟩]:=by show Sn.H.sp.map PS.sp=_;rw[hK.sp,gH.out,kc.out];rfl
     unfold fH;rw[e1];exact⟨rfl,rfl⟩
    have gb:bZ p0.ar n=some g:=by rw[nS g7.out,←ki.2];exact hI
    obtain⟨ga,off,cap,cur,hv,gh,hP,gg,kg,kj⟩:=hq.ma.fr.put eZ (by decide) f kT;have gX:Sn.H.af=some ⟨ga,off,none⟩:=(nJ hv).1;have hX:aR Sn.H.ma f=Sn.H.m.fs[f]:=by unfold aR;show Sn.H.m.fs.getD f fr0=_;rw[aV,aI kT];rfl
    have g9:=hB.rt.fewR (f:=f) kT;have qw:0≤(Sn.H.m.fs[f]).r∧(Sn.H.m.fs[f]).r≤257:=by rw[←hX];exact g9
    have gY:=Lib.hid hX;have kS:=Lib.hid kj;have gy : Hid (∀j u,(qz Sn.H.m.fs[f])[j]?=some u→cur[off+f*13+j]?=some u):=Lib.hid fun j u hj=>by rw[←hP.cell];exact kg j u hj
    have kA:∀W,Below W1.heap.size W1 W→W.cell? ⟨ga,off+f*13+8,none⟩=some (.int .i64 (Sn.H.m.fs[f]).r):=fun W hb=>by rw[(hP.ext hb).cell,←hP.cell];exact kg 8 _ rfl
    have kZ:=Lib.hid (And.intro hI (And.intro hL (And.intro ki (And.intro hE (And.intro hh gb)))));clear hX kj kg g9 hv hI hY hE kh hK hB hL kO ki hh gb;generalize Sn.H.m.fs[f]=X at kA qw gY gy;have gK:IntKind.i64.wrap (X.r+1)=X.r+1:=bO _ (by omega);go_upto_region 7 with (fail);refine aK 14 [_,_,_,_,_,_,_,_,_,_,_,_,_,_] (Gk rfl (Gk rfl (Gf b 1 rfl rfl (Gf b 1 rfl rfl (Gf b 1 rfl rfl (Gl hq.blk (V:=.slice (some ⟨ga,off,none⟩) Sn.H.m.fs.length Sn.H.cf) (by simp[ja,gX]) rfl rfl rfl rfl (Gf gx 1 rfl rfl (Gl bx1 (V:=.int .i64 (f:Int)) (by simp[jq,kU]) rfl rfl rfl rfl (Gr (.pointer (some ⟨ga,off+f*13,none⟩)) (fun ρ y W hb o=>(bG rfl (aC rfl o) (aC rfl o) kT underlying26 frame_size)) rfl rfl (Gf ga (off+f*13+8) rfl rfl (Gc (.int .i64 X.r) (fun W hb=>by simp[kA _ hb]) rfl rfl rfl rfl (Gb (.int .i64 (X.r+1)) (by simp[go_sem,gK]) rfl rfl rfl rfl rfl (Gr (.pointer (some ⟨ga,off+f*13,none⟩)) (fun ρ y W hb o=>(bG rfl (aC rfl o) (aC rfl o) kT underlying26 frame_size)) rfl rfl (Gf ga (off+f*13+8) rfl rfl (aB))))))))))))))) (fun _=>rfl) rfl ?_;intro y W8 hi _;have hr:=hP.ext hi;have kQ:=hq.below hi;have sm8:=sm1.below hi;have bx8:=bx1.ext hi;have fx8:=fx1.ext hi;clear hq sm1 bx1 fx1 hP ky kA hi
    go_wp2_with (refine aD rfl _ _ _ rfl ga (off+f*13+8) _ [.int .i64 (X.r+1)] rfl rfl rfl _ _ hr (by show off+f*13+8+1≤cur.size;omega) (by kernel_rfl) (fun u hu=>by cases bv.1 hu;rfl) ?_)
    intro w9 kG hV;rw[Kk (by omega) (fun j u hj=>gy.out j u hj)] at kG;have k5:eD w9 B b (Sn.frs (Sn.H.m.fs.set f (iG X))):=kQ.putF hr gh hV (fs:=Sn.H.m.fs.set f (iG X)) (by simp) (by simpa using kS.out _ _ kG);have gw:mR b Sn ga:=.inr (by simp only[iA,gX];exact ik);have sx0:MS w b S w9 (Sn.frs (Sn.H.m.fs.set f (iG X))):=sm8.put hV gw (fun x hx => .inl hx);have bx9:=bu bx8 hr (by decide) hV;have fx9:=bu fx8 hr (by decide) hV;have kF:w9.cell? ⟨gf,n*6+3,none⟩=some (.bool g.sh):=by rw[fx9.cell];exact zV (bZ p0.ar) n 3 hn64 _ (by rw[kZ.out.2.2.2.2.2];rfl) (by decide)
    have ky:=bx9.cell;clear kQ sm8 bx8 fx8 hr kG hV gX gw;unfold jq at ky;cases hsh:g.sh
    case' true=>
     rw[hsh] at kF;have hx:=k5;have sx:=sx0;have bx:=bx9;have fx1:=fx9;have hF:Hid (¬mR b (Sn.frs (Sn.H.m.fs.set f (iG X))) gf):=gd;have z:Hid (¬mR b (Sn.frs (Sn.H.m.fs.set f (iG X))) gx):=z;have hG:(Sn.frs (Sn.H.m.fs.set f (iG X))).T.length=2:=hO;have ha:(eY (Sn.frs (Sn.H.m.fs.set f (iG X))).T 0).length=64:=ko.out 0 (by decide);have hz:(eY (Sn.frs (Sn.H.m.fs.set f (iG X))).T 1).length=64:=ko.out 1 (by decide);have hy:Hid (JL S5 { (Sn.frs (Sn.H.m.fs.set f (iG X))) with T:=setL (setL (Sn.frs (Sn.H.m.fs.set f (iG X))).T 0 n e) 1 n e }∧Bd (Sn.frs (Sn.H.m.fs.set f (iG X))).H.ma (setL (setL (Sn.frs (Sn.H.m.fs.set f (iG X))).T 0 n e) 1 n e)∧∀j:Nat,n+1≤j→fq (setL (setL (Sn.frs (Sn.H.m.fs.set f (iG X))).T 0 n e) 1 n e) 0 j=t0.getD j zEn∧(fq (setL (setL (Sn.frs (Sn.H.m.fs.set f (iG X))).T 0 n e) 1 n e) 1 j).k=0):=Lib.hid (by
      have hK:=hN.out.1;have hB:=hN.out.2.1;obtain⟨hI,hL,ki,hE,hh,gb⟩:=kZ.out;have hA:=hB.share1 (w:=e.w) hL hn64 ki.1 (by rw[hh];exact hk1) (hN.out.2.2 n (az _)).2 hI (by rw[hh];exact kU) (by rw[hh,hsh];rfl);rw[gY.out,show (⟨1,(f:Int),e.w⟩:En)=e from by rw[←kU,←hk1]] at hA;have k1:eT e=0:=by
       rw[cO] at hE ⊢;rcases hE with h9|h9|h9
       ·omega
       ·first
        | exact .inr (.inl ⟨h9.1,h9.2⟩)
        | exact .inr (.inl ⟨rfl,by show (0:Int)≤f;omega,by show (f:Int)<40;omega⟩)
       ·omega
      exact⟨⟨hK.sp,hK.fi,hK.ct,hK.dk,by show (Sn.H.m.fs.set f (iG X)).length=_;rw[bP];exact hK.fl,hK.sl⟩,hA,fun j hj=>by show fq (setL (setL Sn.T 0 n e) 1 n e) 0 j=_∧(fq (setL (setL Sn.T 0 n e) 1 n e) 1 j).k=0;rw[tK hB.ok hL hn64 k1 _ _ (by omega),tK hB.ok hL hn64 k1 _ _ (by omega)];exact hN.out.2.2 j (by omega)⟩)
     generalize hSx:(Sn.frs (Sn.H.m.fs.set f (iG X)))=Sx at hx sx hF z hG ha hz hy;clear k5 sx0 bx9 fx9;obtain⟨gT2,oT2,_,d,kw,kR,_⟩:=hx.ent (p:=0) (n:=n) (by omega) hn64 ha;have kd:gx≠gT2:=fun e9=>z.out (.inr (by rw[e9];simp[iA,d,oB];right;right;right;right;right;right;right;right;rfl));have hD:gf≠gT2:=fun e9=>hF.out (.inr (by rw[e9];simp[iA,d,oB];right;right;right;right;right;right;right;right;rfl));go_upto_region 12 with (fail);refine nD 17 [_,_,_,.v (.slice (some ⟨gT2,oT2,none⟩) 2 Sx.cb),_,_,_,_,.v (.slice (some ⟨gT2,oT2,none⟩) 2 Sx.cb),_,.v (.agg (jq e)),.v (.agg (jq e)),_,.v (.pointer (some ⟨gT2,oT2+n*3,none⟩)),.r 14 ((cB fun _=>True)),_,.v (.pointer (some ⟨gT2,oT2+192+n*3,none⟩))] (MC S Sx { Sx with T:=setL Sx.T 0 n e } B b w gx gf e (fC (bZ p0.ar))) aZ (fun _=>⟨⟨bx,fx1⟩,fun _=>⟨hx,sx⟩,fun h=>(by cases h)⟩) (Qk aZ rfl (Qk aZ rfl (Qf aZ b 12 rfl rfl (ag ?u1_1 (Qk aZ rfl (Qk aZ rfl (Qk aZ rfl (Qf aZ b 12 rfl rfl (ag ?u1_2 (Qk aZ rfl (ag ?u1_3 (ag ?u1_4 (Qr aZ (.pointer (some ⟨gT2,oT2,none⟩)) (fun ρ y W o=>(bG (i:=0) rfl (aC rfl o) (aC rfl o) (by decide) underlying75 ents_size)) rfl rfl (ag ?u1_5 (ag ?u1_6 (Qr aZ (.pointer (some ⟨gT2,oT2+192,none⟩)) (fun ρ y W o=>(bG (i:=1) rfl (aC rfl o) (aC rfl o) (by decide) underlying75 ents_size)) rfl rfl (ag ?u1_7 (aB)))))))))))))))))) (fun _=>rfl) rfl ?u1_8
    case' false=>
     rw[hsh] at kF
     go_wp2_with (refine aD rfl _ _ _ rfl gx 2 _ [.bool false] rfl rfl rfl _ _ bx9 (by show 2+1≤3;omega) (by kernel_rfl) (fun u hu=>by cases bv.1 hu;rfl) ?_)
     intro w10 bx q;have bx:aA w10 gx (jq ⟨1,(f:Int),false⟩) 89:=bx;have hx:eD w10 B b (Sn.frs (Sn.H.m.fs.set f (iG X))):=k5.locE bx9 z.out qj.out qf q;have sx:=sx0.loc q qe.out;have fx1:=fx9.grown q (fun e9=>qg (aJ e9).symm);clear ky;have ky:=bx.cell;unfold jq at ky;have hF:Hid (¬mR b (Sn.frs (Sn.H.m.fs.set f (iG X))) gf):=gd;have z:Hid (¬mR b (Sn.frs (Sn.H.m.fs.set f (iG X))) gx):=z;have hG:(Sn.frs (Sn.H.m.fs.set f (iG X))).T.length=2:=hO;have ha:(eY (Sn.frs (Sn.H.m.fs.set f (iG X))).T 0).length=64:=ko.out 0 (by decide);have hz:(eY (Sn.frs (Sn.H.m.fs.set f (iG X))).T 1).length=64:=ko.out 1 (by decide);have hy:Hid (JL S5 { (Sn.frs (Sn.H.m.fs.set f (iG X))) with T:=setL (setL (Sn.frs (Sn.H.m.fs.set f (iG X))).T 0 n (⟨1,(f:Int),false⟩:En)) 1 n (⟨1,(f:Int),false⟩:En) }∧Bd (Sn.frs (Sn.H.m.fs.set f (iG X))).H.ma (setL (setL (Sn.frs (Sn.H.m.fs.set f (iG X))).T 0 n (⟨1,(f:Int),false⟩:En)) 1 n (⟨1,(f:Int),false⟩:En))∧∀j:Nat,n+1≤j→fq (setL (setL (Sn.frs (Sn.H.m.fs.set f (iG X))).T 0 n (⟨1,(f:Int),false⟩:En)) 1 n (⟨1,(f:Int),false⟩:En)) 0 j=t0.getD j zEn∧(fq (setL (setL (Sn.frs (Sn.H.m.fs.set f (iG X))).T 0 n (⟨1,(f:Int),false⟩:En)) 1 n (⟨1,(f:Int),false⟩:En)) 1 j).k=0):=Lib.hid (by
      have hK:=hN.out.1;have hB:=hN.out.2.1;obtain⟨hI,hL,ki,hE,hh,gb⟩:=kZ.out;have hA:=hB.share1 (w:=false) hL hn64 ki.1 (by rw[hh];exact hk1) (hN.out.2.2 n (az _)).2 hI (by rw[hh];exact kU) (by rw[hh,hsh];rfl);rw[gY.out,show (⟨1,(f:Int),false⟩:En)=(⟨1,(f:Int),false⟩:En) from by rw[←kU,←hk1]] at hA;have k1:eT (⟨1,(f:Int),false⟩:En)=0:=by
       rw[cO] at hE ⊢;rcases hE with h9|h9|h9
       ·omega
       ·first
        | exact .inr (.inl ⟨h9.1,h9.2⟩)
        | exact .inr (.inl ⟨rfl,by show (0:Int)≤f;omega,by show (f:Int)<40;omega⟩)
       ·omega
      exact⟨⟨hK.sp,hK.fi,hK.ct,hK.dk,by show (Sn.H.m.fs.set f (iG X)).length=_;rw[bP];exact hK.fl,hK.sl⟩,hA,fun j hj=>by show fq (setL (setL Sn.T 0 n (⟨1,(f:Int),false⟩:En)) 1 n (⟨1,(f:Int),false⟩:En)) 0 j=_∧(fq (setL (setL Sn.T 0 n (⟨1,(f:Int),false⟩:En)) 1 n (⟨1,(f:Int),false⟩:En)) 1 j).k=0;rw[tK hB.ok hL hn64 k1 _ _ (by omega),tK hB.ok hL hn64 k1 _ _ (by omega)];exact hN.out.2.2 j (by omega)⟩)
     generalize hSx:(Sn.frs (Sn.H.m.fs.set f (iG X)))=Sx at hx sx hF z hG ha hz hy;clear k5 sx0 bx9 fx9 q;obtain⟨gT2,oT2,_,d,kw,kR,_⟩:=hx.ent (p:=0) (n:=n) (by omega) hn64 ha;have kd:gx≠gT2:=fun e9=>z.out (.inr (by rw[e9];simp[iA,d,oB];right;right;right;right;right;right;right;right;rfl));have hD:gf≠gT2:=fun e9=>hF.out (.inr (by rw[e9];simp[iA,d,oB];right;right;right;right;right;right;right;right;rfl));go_upto_region 12 with (fail);refine nD 17 [_,_,_,.v (.slice (some ⟨gT2,oT2,none⟩) 2 Sx.cb),_,_,_,_,.v (.slice (some ⟨gT2,oT2,none⟩) 2 Sx.cb),_,.v (.agg (jq (⟨1,(f:Int),false⟩:En))),.v (.agg (jq (⟨1,(f:Int),false⟩:En))),_,.v (.pointer (some ⟨gT2,oT2+n*3,none⟩)),.r 14 ((cB fun _=>True)),_,.v (.pointer (some ⟨gT2,oT2+192+n*3,none⟩))] (MC S Sx { Sx with T:=setL Sx.T 0 n (⟨1,(f:Int),false⟩:En) } B b w gx gf (⟨1,(f:Int),false⟩:En) (fC (bZ p0.ar))) aZ (fun _=>⟨⟨bx,fx1⟩,fun _=>⟨hx,sx⟩,fun h=>(by cases h)⟩) (Qk aZ rfl (Qk aZ rfl (Qf aZ b 12 rfl rfl (ag ?v1_1 (Qk aZ rfl (Qk aZ rfl (Qk aZ rfl (Qf aZ b 12 rfl rfl (ag ?v1_2 (Qk aZ rfl (ag ?v1_3 (ag ?v1_4 (Qr aZ (.pointer (some ⟨gT2,oT2,none⟩)) (fun ρ y W o=>(bG (i:=0) rfl (aC rfl o) (aC rfl o) (by decide) underlying75 ents_size)) rfl rfl (ag ?v1_5 (ag ?v1_6 (Qr aZ (.pointer (some ⟨gT2,oT2+192,none⟩)) (fun ρ y W o=>(bG (i:=1) rfl (aC rfl o) (aC rfl o) (by decide) underlying75 ents_size)) rfl rfl (ag ?v1_7 (aB)))))))))))))))))) (fun _=>rfl) rfl ?v1_8
    case u1_1|v1_1=>
     intro ρ y W L hw hn t c hb hd;refine ed aZ (fun _ _ h=>h) hb ?_;have g5:=hw 93 2 rfl;have h2:y 2=_:=hd 2 rfl;have kz:=Dy hb (by simp[ja,setL]);refine aj (.slice (some ⟨gT2,oT2,none⟩) 2 Sx.cb) (ah rfl) (by simp[execOp,go_sem,dm,g5,h2,kz,ja,d,hG]) rfl
    case u1_2|v1_2=>
     intro ρ y W L hw hn t c hb hd;refine ed aZ (fun _ _ h=>h) hb ?_;have g1:=hw 98 7 rfl;have h7:y 7=_:=hd 7 rfl;have kz:=Dy hb (by simp[ja,setL]);refine aj (.slice (some ⟨gT2,oT2,none⟩) 2 Sx.cb) (ah rfl) (by simp[execOp,go_sem,dm,g1,h7,kz,ja,d,hG]) rfl
    case u1_5|v1_5=>
     intro ρ y W L hw hn t c hb hd;refine ed aZ (fun _ _ h=>h) hb ?_;have k3:=hw 103 12 rfl;have hA:y 12=_:=hd 12 rfl;have g4:=hw 95 4 rfl;have h4:y 4=_:=hd 4 rfl;have kt:((64:Int)≤(n:Int))=False:=eq_false (by omega);refine aj (.pointer (some ⟨gT2,oT2+n*3,none⟩)) (ah rfl) (by simp[execOp,go_sem,dm,k3,hA,g4,h4,hn64,kt]) rfl
    case u1_7|v1_7=>
     intro ρ y W L hw hn t c hb hd;refine ed aZ (fun _ _ h=>h) hb ?_;have k2:=hw 105 15 rfl;have gn:y 15=_:=hd 15 rfl;have k4:=hw 100 9 rfl;have h9:y 9=_:=hd 9 rfl;have kt:((64:Int)≤(n:Int))=False:=eq_false (by omega);refine aj (.pointer (some ⟨gT2,oT2+192+n*3,none⟩)) (ah rfl) (by simp[execOp,go_sem,dm,k2,gn,k4,h9,hn64,kt]) rfl
    case u1_3=>
     intro ρ y W L hw hn t c hb hd;refine ed aZ (fun _ _ h=>h) hb ?_;have E4:ρ (.tmp 4) = .pointer (some ⟨gx,0,none⟩):=(hn (.tmp 4) rfl).trans rfl;refine aj (.agg (jq e)) (ah rfl) (bn rfl E4 hb.1.1 underlying89 rfl entry_size3) rfl
    case u1_4=>
     intro ρ y W L hw hn t c hb hd;refine ed aZ (fun _ _ h=>h) hb ?_;have E4:ρ (.tmp 4) = .pointer (some ⟨gx,0,none⟩):=(hn (.tmp 4) rfl).trans rfl;refine aj (.agg (jq e)) (ah rfl) (bn rfl E4 hb.1.1 underlying89 rfl entry_size3) rfl
    case u1_6=>
     intro ρ y W L hw hn t c hb hd;have kp:=hw 104 13 rfl;have kC:y 13=_:=hd 13 rfl;have kq:=hw 101 10 rfl;have hJ:y 10=_:=hd 10 rfl;obtain⟨kP,kL⟩:=hb.2.1 t;obtain⟨gQ,oQ,curQ,hQ,qs,kn,km,_,kl⟩:=kP.ent (p:=0) (n:=n) (by omega) hn64 ha;cases (hQ.symm.trans d);rw[xO,iH] at km kl;exact nz (ah rfl) (sU _ _ _ rfl gT2 (oT2+n*3) _ (kX e) (kp.trans kC) (kq.trans hJ) rfl curQ _ kn (by rw[fA];exact km) (by kernel_rfl) (bV (iT _))) ⟨⟨hb.1.1.grown (aH _ _ _ _) (fun e9=>kd (aJ e9).symm),hb.1.2.grown (aH _ _ _ _) (fun e9=>hD (aJ e9).symm)⟩,fun h=>(by cases h),fun _=>⟨kl _ e (kn.setCells _ _) (aH _ _ _ _),kL.put (aH _ _ _ _) (.inr (by simp only[iA,d];simp[oB];right;right;right;right;right;right;right;right;rfl)) (fun x hx => .inl hx)⟩⟩ trivial
    case u1_8=>
     intro y W9 hZ kb;clear kb;simp only[cz,dm,bA,bB];obtain⟨⟨bx9,fx9⟩,_,hU⟩:=hZ;obtain⟨h9,s9⟩:=hU rfl;have gZ:(setL Sx.T 0 n e).length=2:=by unfold setL;rw[bP];exact hG
     obtain⟨gR,oR',curR,hR,g0,ka,h6,_,hH⟩:=h9.ent (p:=1) (n:=n) (by show 1<(setL Sx.T 0 n e).length;omega) hn64 (by show (eY (setL Sx.T 0 n e) 1).length=64;rw[rJ (by omega),if_neg (by decide)];exact hz);have hR:Sx.ab=some ⟨gR,oR',none⟩:=hR;cases (hR.symm.trans d);rw[Au] at h6 hH;have h0:=Lib.hid hH;clear hH hU hx sx bx fx1
     go_wp2_with (refine aD rfl _ _ _ rfl gT2 (oT2+192+n*3) _ (kX e) rfl rfl rfl _ _ ka (by rw[fA];exact h6) (by kernel_rfl) (bV (iT _)) ?_)
     intro w10 ht q;have hJ:=h0.out w10 e ht q;have s10:MS w b S w10 { Sx with T:=setL (setL Sx.T 0 n e) 1 n e }:=s9.put q (.inr (by simp only[iA,d];simp[oB];right;right;right;right;right;right;right;right;rfl)) (fun x hx => .inl hx);have fx10:=fx9.grown q (fun e9=>hD (aJ e9).symm);clear h9 s9 bx9 fx9 ka ht q;go_wp2;go_roundw
     case rel=>exact⟨n+1,_,by omega,by go_num,hJ,s10,fx10,hF,hy⟩
     case measure=>simp[intOf];omega
    case v1_3=>
     intro ρ y W L hw hn t c hb hd;refine ed aZ (fun _ _ h=>h) hb ?_;have E4:ρ (.tmp 4) = .pointer (some ⟨gx,0,none⟩):=(hn (.tmp 4) rfl).trans rfl;refine aj (.agg (jq (⟨1,(f:Int),false⟩:En))) (ah rfl) (bn rfl E4 hb.1.1 underlying89 rfl entry_size3) rfl
    case v1_4=>
     intro ρ y W L hw hn t c hb hd;refine ed aZ (fun _ _ h=>h) hb ?_;have E4:ρ (.tmp 4) = .pointer (some ⟨gx,0,none⟩):=(hn (.tmp 4) rfl).trans rfl;refine aj (.agg (jq (⟨1,(f:Int),false⟩:En))) (ah rfl) (bn rfl E4 hb.1.1 underlying89 rfl entry_size3) rfl
    case v1_6=>
     intro ρ y W L hw hn t c hb hd;have kp:=hw 104 13 rfl;have kC:y 13=_:=hd 13 rfl;have kq:=hw 101 10 rfl;have hJ:y 10=_:=hd 10 rfl;obtain⟨kP,kL⟩:=hb.2.1 t;obtain⟨gQ,oQ,curQ,hQ,qs,kn,km,_,kl⟩:=kP.ent (p:=0) (n:=n) (by omega) hn64 ha;cases (hQ.symm.trans d);rw[xO,iH] at km kl;exact nz (ah rfl) (sU _ _ _ rfl gT2 (oT2+n*3) _ (kX (⟨1,(f:Int),false⟩:En)) (kp.trans kC) (kq.trans hJ) rfl curQ _ kn (by rw[fA];exact km) (by kernel_rfl) (bV (iT _))) ⟨⟨hb.1.1.grown (aH _ _ _ _) (fun e9=>kd (aJ e9).symm),hb.1.2.grown (aH _ _ _ _) (fun e9=>hD (aJ e9).symm)⟩,fun h=>(by cases h),fun _=>⟨kl _ (⟨1,(f:Int),false⟩:En) (kn.setCells _ _) (aH _ _ _ _),kL.put (aH _ _ _ _) (.inr (by simp only[iA,d];simp[oB];right;right;right;right;right;right;right;right;rfl)) (fun x hx => .inl hx)⟩⟩ trivial
    case v1_8=>
     intro y W9 hZ kb;clear kb;simp only[cz,dm,bA,bB];obtain⟨⟨bx9,fx9⟩,_,hU⟩:=hZ;obtain⟨h9,s9⟩:=hU rfl;have gZ:(setL Sx.T 0 n (⟨1,(f:Int),false⟩:En)).length=2:=by unfold setL;rw[bP];exact hG
     obtain⟨gR,oR',curR,hR,g0,ka,h6,_,hH⟩:=h9.ent (p:=1) (n:=n) (by show 1<(setL Sx.T 0 n (⟨1,(f:Int),false⟩:En)).length;omega) hn64 (by show (eY (setL Sx.T 0 n (⟨1,(f:Int),false⟩:En)) 1).length=64;rw[rJ (by omega),if_neg (by decide)];exact hz);have hR:Sx.ab=some ⟨gR,oR',none⟩:=hR;cases (hR.symm.trans d);rw[Au] at h6 hH;have h0:=Lib.hid hH;clear hH hU hx sx bx fx1
     go_wp2_with (refine aD rfl _ _ _ rfl gT2 (oT2+192+n*3) _ (kX (⟨1,(f:Int),false⟩:En)) rfl rfl rfl _ _ ka (by rw[fA];exact h6) (by kernel_rfl) (bV (iT _)) ?_)
     intro w10 ht q;have hJ:=h0.out w10 (⟨1,(f:Int),false⟩:En) ht q;have s10:MS w b S w10 { Sx with T:=setL (setL Sx.T 0 n (⟨1,(f:Int),false⟩:En)) 1 n (⟨1,(f:Int),false⟩:En) }:=s9.put q (.inr (by simp only[iA,d];simp[oB];right;right;right;right;right;right;right;right;rfl)) (fun x hx => .inl hx);have fx10:=fx9.grown q (fun e9=>hD (aJ e9).symm);clear h9 s9 bx9 fx9 ka ht q;go_wp2;go_roundw
     case rel=>exact⟨n+1,_,by omega,by go_num,hJ,s10,fx10,hF,hy⟩
     case measure=>simp[intOf];omega
   by_cases hk2:e.k=2
   case' pos=>
    have hK:=hN.out.1;have hB:=hN.out.2.1;have hL:Sn.H.ma.sp.length=2:=by rw[←hB.ok.len];exact hO
    have hh:fq Sn.T 0 n=e:=by rw[(hN.out.2.2 n (az _)).1];exact gO.out
    have hE:=za hB.ok (p:=0) (n:=n) (by omega) hn64;rw[hh] at hE;have kh:=lH hB.ok (p:=0) (n:=n) (by omega) hn64;rw[hh] at kh;obtain⟨g,hI,hY⟩:=hB.rt.en 0 n (by rw[kh,hk2];decide);rw[kh] at hY;have kO:0≤e.n:=by rcases (cO _).1 hE with h9 | h9 | h9<;>omega
    obtain⟨s0,g8⟩:=fO kO;have kK:s0<Sn.H.sl.length:=by have h9:=(hY.sw hk2).1;have e1:((dV Sn.H.ma Sn.T).sl.length:Nat)=Sn.H.sl.length:=rfl;omega
    obtain⟨gs,off,cap,cur,hv,gh,hP,gg,kg,kj⟩:=Own.put (enc:=fun x=>[gB x]) (sz:=1) (l:=Sn.H.sl) (fun _=>rfl) Nat.one_pos (by rw[ji];exact hq.ma.sl) s0 kK;have gW:Sn.H.asl=some ⟨gs,off,none⟩:=(nJ hv).1;rw[qI] at gg kg kj;have gI:pu Sn.H.ma s0=Sn.H.sl[s0]:=by unfold pu;show Sn.H.sl.getD s0 0=_;rw[aV,aI kK];rfl
    have gz:=hB.rt.fewS (s:=s0) kK;have qh:0≤Sn.H.sl[s0]∧Sn.H.sl[s0]≤256:=by rw[←gI];exact gz
    have kS:=Lib.hid kj;have gq:=Lib.hid gI;have kA:∀W,Below W1.heap.size W1 W→W.cell? ⟨gs,off+s0,none⟩=some (.int .i64 Sn.H.sl[s0]):=fun W hb=>by have h9:=kg 0 _ rfl;rw[iH] at h9;have h8:=(hP.ext hb).cell (off+s0);rw[h8,←hP.cell];exact h9
    have qa:=Lib.hid (And.intro hI hL);clear gI kj kg gz hv hI hY hE kh hK hB hL kO;generalize Sn.H.sl[s0]=v0 at kA qh gq;have gK:IntKind.i64.wrap (v0+1)=v0+1:=bO _ (by omega);have kE:=Lib.hid hh;clear hh;go_upto_region 11 with (fail);refine aK 11 [_,_,_,_,_,_,_,_,_,_,_] (Gk rfl (Gk rfl (Gf b 1 rfl rfl (Gf b 3 rfl rfl (Gl hq.blk (V:=.slice (some ⟨gs,off,none⟩) Sn.H.sl.length Sn.H.csl) (by simp[ja,gW]) rfl rfl rfl rfl (Gf gx 1 rfl rfl (Gl bx1 (V:=.int .i64 (s0:Int)) (by simp[jq,g8]) rfl rfl rfl rfl (Gr (.pointer (some ⟨gs,off+s0,none⟩)) (fun ρ y W hb o=>(JZ rfl (aC rfl o) (aC rfl o) kK)) rfl rfl (Gc (.int .i64 v0) (fun W hb=>by simp[kA _ hb]) rfl rfl rfl rfl (Gb (.int .i64 (v0+1)) (by simp[go_sem,gK]) rfl rfl rfl rfl rfl (Gr (.pointer (some ⟨gs,off+s0,none⟩)) (fun ρ y W hb o=>(JZ rfl (aC rfl o) (aC rfl o) kK)) rfl rfl (aB)))))))))))) (fun _=>rfl) rfl ?_;intro y W8 hi _;have hr:=hP.ext hi;have kQ:=hq.below hi;have sm8:=sm1.below hi;have bx8:=bx1.ext hi;have fx8:=fx1.ext hi;clear hq sm1 bx1 fx1 hP ky kA hi
    go_wp2_with (refine aD rfl _ _ _ rfl gs (off+s0) _ [.int .i64 (v0+1)] rfl rfl rfl _ _ hr (by show off+s0+1≤cur.size;omega) (by kernel_rfl) (fun u hu=>by cases bv.1 hu;rfl) ?_)
    intro w9 kG hV;have gN:oB Sn.H.asl=some gs:=by rw[gW];rfl
    have hx:eD w9 B b { Sn with H:={ Sn.H with sl:=Sn.H.sl.set s0 (v0+1) } }:=kQ.putS hr gh gN hV (sl:=Sn.H.sl.set s0 (v0+1)) (by simp) (by have h9:=kS.out w9 (v0+1) kG;rw[ji] at h9;simpa using h9);have sx:MS w b S w9 { Sn with H:={ Sn.H with sl:=Sn.H.sl.set s0 (v0+1) } }:=sm8.put hV (.inr (by simp[iA,gN])) (fun x hx => .inl hx);have bx:=bu bx8 hr (by decide) hV;have fx1:=bu fx8 hr (by decide) hV;have hF:Hid (¬mR b ({ Sn with H:={ Sn.H with sl:=Sn.H.sl.set s0 (v0+1) } }:MW) gf):=gd;have z:Hid (¬mR b ({ Sn with H:={ Sn.H with sl:=Sn.H.sl.set s0 (v0+1) } }:MW) gx):=z;have hG:({ Sn with H:={ Sn.H with sl:=Sn.H.sl.set s0 (v0+1) } }:MW).T.length=2:=hO;have ha:(eY ({ Sn with H:={ Sn.H with sl:=Sn.H.sl.set s0 (v0+1) } }:MW).T 0).length=64:=ko.out 0 (by decide);have hz:(eY ({ Sn with H:={ Sn.H with sl:=Sn.H.sl.set s0 (v0+1) } }:MW).T 1).length=64:=ko.out 1 (by decide);have hy:Hid (JL S5 { ({ Sn with H:={ Sn.H with sl:=Sn.H.sl.set s0 (v0+1) } }:MW) with T:=setL (setL ({ Sn with H:={ Sn.H with sl:=Sn.H.sl.set s0 (v0+1) } }:MW).T 0 n e) 1 n e }∧Bd ({ Sn with H:={ Sn.H with sl:=Sn.H.sl.set s0 (v0+1) } }:MW).H.ma (setL (setL ({ Sn with H:={ Sn.H with sl:=Sn.H.sl.set s0 (v0+1) } }:MW).T 0 n e) 1 n e)∧∀j:Nat,n+1≤j→fq (setL (setL ({ Sn with H:={ Sn.H with sl:=Sn.H.sl.set s0 (v0+1) } }:MW).T 0 n e) 1 n e) 0 j=t0.getD j zEn∧(fq (setL (setL ({ Sn with H:={ Sn.H with sl:=Sn.H.sl.set s0 (v0+1) } }:MW).T 0 n e) 1 n e) 1 j).k=0):=Lib.hid (by
     have hK:=hN.out.1;have hB:=hN.out.2.1;have hL:=qa.out.2;have hE:=za hB.ok (p:=0) (n:=n) (by omega) hn64;rw[kE.out] at hE;have hI:=qa.out.1;rw[nN (by omega)] at hI;have ki:(fH Sn.H.ma 1).ar=(fH Sn.H.ma 0).ar:=by show ((Sn.H.sp.map PS.sp).getD 1 zSp).ar=((Sn.H.sp.map PS.sp).getD 0 zSp).ar;rw[hK.sp,gH.out,kc.out];rfl
     have hA:=hB.share2 hL hn64 ki (by rw[kE.out];exact hk2) (hN.out.2.2 n (az _)).2 hI (by rw[kE.out];exact g8);rw[kE.out,gq.out] at hA;exact⟨⟨hK.sp,hK.fi,hK.ct,hK.dk,hK.fl,by show (Sn.H.sl.set s0 (v0+1)).length=_;rw[bP];exact hK.sl⟩,hA,fun j hj=>by show fq (setL (setL Sn.T 0 n e) 1 n e) 0 j=_∧(fq (setL (setL Sn.T 0 n e) 1 n e) 1 j).k=0;rw[tK hB.ok hL hn64 hE _ _ (by omega),tK hB.ok hL hn64 hE _ _ (by omega)];exact hN.out.2.2 j (by omega)⟩)
    clear kQ sm8 bx8 fx8 hr kG hV gW gN;generalize hSx:({ Sn with H:={ Sn.H with sl:=Sn.H.sl.set s0 (v0+1) } }:MW)=Sx at hx sx hF z hG ha hz hy;obtain⟨gT2,oT2,_,d,kw,kR,_⟩:=hx.ent (p:=0) (n:=n) (by omega) hn64 ha;have kd:gx≠gT2:=fun e9=>z.out (.inr (by rw[e9];simp[iA,d,oB];right;right;right;right;right;right;right;right;rfl));have hD:gf≠gT2:=fun e9=>hF.out (.inr (by rw[e9];simp[iA,d,oB];right;right;right;right;right;right;right;right;rfl));go_upto_region 12 with (fail);refine nD 17 [_,_,_,.v (.slice (some ⟨gT2,oT2,none⟩) 2 Sx.cb),_,_,_,_,.v (.slice (some ⟨gT2,oT2,none⟩) 2 Sx.cb),_,.v (.agg (jq e)),.v (.agg (jq e)),_,.v (.pointer (some ⟨gT2,oT2+n*3,none⟩)),.r 14 ((cB fun _=>True)),_,.v (.pointer (some ⟨gT2,oT2+192+n*3,none⟩))] (MC S Sx { Sx with T:=setL Sx.T 0 n e } B b w gx gf e (fC (bZ p0.ar))) aZ (fun _=>⟨⟨bx,fx1⟩,fun _=>⟨hx,sx⟩,fun h=>(by cases h)⟩) (Qk aZ rfl (Qk aZ rfl (Qf aZ b 12 rfl rfl (ag ?u2_1 (Qk aZ rfl (Qk aZ rfl (Qk aZ rfl (Qf aZ b 12 rfl rfl (ag ?u2_2 (Qk aZ rfl (ag ?u2_3 (ag ?u2_4 (Qr aZ (.pointer (some ⟨gT2,oT2,none⟩)) (fun ρ y W o=>(bG (i:=0) rfl (aC rfl o) (aC rfl o) (by decide) underlying75 ents_size)) rfl rfl (ag ?u2_5 (ag ?u2_6 (Qr aZ (.pointer (some ⟨gT2,oT2+192,none⟩)) (fun ρ y W o=>(bG (i:=1) rfl (aC rfl o) (aC rfl o) (by decide) underlying75 ents_size)) rfl rfl (ag ?u2_7 (aB)))))))))))))))))) (fun _=>rfl) rfl ?u2_8
   case' neg=>
    have hx:=hq;have sx:=sm1;have bx:=bx1;have hF:=gd;have hG:=hO;have ha:=ko.out 0 (by decide);have hz:=ko.out 1 (by decide);have hy:Hid (JL S5 { Sn with T:=setL (setL Sn.T 0 n e) 1 n e }∧Bd Sn.H.ma (setL (setL Sn.T 0 n e) 1 n e)∧∀j:Nat,n+1≤j→fq (setL (setL Sn.T 0 n e) 1 n e) 0 j=t0.getD j zEn∧(fq (setL (setL Sn.T 0 n e) 1 n e) 1 j).k=0):=Lib.hid (by
     have hK:=hN.out.1;have hB:=hN.out.2.1;have hL:Sn.H.ma.sp.length=2:=by rw[←hB.ok.len];exact hO
     have hh:fq Sn.T 0 n=e:=by rw[(hN.out.2.2 n (az _)).1];exact gO.out
     have hE:=za hB.ok (p:=0) (n:=n) (by omega) hn64;rw[hh] at hE;have ge:e.k=0:=by
      rcases (cO _).1 hE with h9|h9|h9
      ·exact h9.1
      ·exact absurd h9.1 hk1
      ·exact absurd h9.1 hk2
     have hA:=hB.share0 hL hn64 (by rw[hh];exact ge) (hN.out.2.2 n (az _)).2;rw[hh] at hA;exact⟨⟨hK.sp,hK.fi,hK.ct,hK.dk,hK.fl,hK.sl⟩,hA,fun j hj=>by rw[tK hB.ok hL hn64 hE _ _ (by omega),tK hB.ok hL hn64 hE _ _ (by omega)];exact hN.out.2.2 j (by omega)⟩)
    generalize hSx:Sn=Sx at hx sx hF z hG ha hz hy;obtain⟨gT2,oT2,_,d,kw,kR,_⟩:=hx.ent (p:=0) (n:=n) (by omega) hn64 ha;have kd:gx≠gT2:=fun e9=>z.out (.inr (by rw[e9];simp[iA,d,oB];right;right;right;right;right;right;right;right;rfl));have hD:gf≠gT2:=fun e9=>hF.out (.inr (by rw[e9];simp[iA,d,oB];right;right;right;right;right;right;right;right;rfl));go_upto_region 12 with (fail);refine nD 17 [_,_,_,.v (.slice (some ⟨gT2,oT2,none⟩) 2 Sx.cb),_,_,_,_,.v (.slice (some ⟨gT2,oT2,none⟩) 2 Sx.cb),_,.v (.agg (jq e)),.v (.agg (jq e)),_,.v (.pointer (some ⟨gT2,oT2+n*3,none⟩)),.r 14 ((cB fun _=>True)),_,.v (.pointer (some ⟨gT2,oT2+192+n*3,none⟩))] (MC S Sx { Sx with T:=setL Sx.T 0 n e } B b w gx gf e (fC (bZ p0.ar))) aZ (fun _=>⟨⟨bx,fx1⟩,fun _=>⟨hx,sx⟩,fun h=>(by cases h)⟩) (Qk aZ rfl (Qk aZ rfl (Qf aZ b 12 rfl rfl (ag ?v2_1 (Qk aZ rfl (Qk aZ rfl (Qk aZ rfl (Qf aZ b 12 rfl rfl (ag ?v2_2 (Qk aZ rfl (ag ?v2_3 (ag ?v2_4 (Qr aZ (.pointer (some ⟨gT2,oT2,none⟩)) (fun ρ y W o=>(bG (i:=0) rfl (aC rfl o) (aC rfl o) (by decide) underlying75 ents_size)) rfl rfl (ag ?v2_5 (ag ?v2_6 (Qr aZ (.pointer (some ⟨gT2,oT2+192,none⟩)) (fun ρ y W o=>(bG (i:=1) rfl (aC rfl o) (aC rfl o) (by decide) underlying75 ents_size)) rfl rfl (ag ?v2_7 (aB)))))))))))))))))) (fun _=>rfl) rfl ?v2_8
   case u2_1|v2_1=>
    intro ρ y W L hw hn t c hb hd;refine ed aZ (fun _ _ h=>h) hb ?_;have g5:=hw 93 2 rfl;have h2:y 2=_:=hd 2 rfl;have kz:=Dy hb (by simp[ja,setL]);refine aj (.slice (some ⟨gT2,oT2,none⟩) 2 Sx.cb) (ah rfl) (by simp[execOp,go_sem,dm,g5,h2,kz,ja,d,hG]) rfl
   case u2_2|v2_2=>
    intro ρ y W L hw hn t c hb hd;refine ed aZ (fun _ _ h=>h) hb ?_;have g1:=hw 98 7 rfl;have h7:y 7=_:=hd 7 rfl;have kz:=Dy hb (by simp[ja,setL]);refine aj (.slice (some ⟨gT2,oT2,none⟩) 2 Sx.cb) (ah rfl) (by simp[execOp,go_sem,dm,g1,h7,kz,ja,d,hG]) rfl
   case u2_3|v2_3=>
    intro ρ y W L hw hn t c hb hd;refine ed aZ (fun _ _ h=>h) hb ?_;have E4:ρ (.tmp 4) = .pointer (some ⟨gx,0,none⟩):=(hn (.tmp 4) rfl).trans rfl;refine aj (.agg (jq e)) (ah rfl) (bn rfl E4 hb.1.1 underlying89 rfl entry_size3) rfl
   case u2_4|v2_4=>
    intro ρ y W L hw hn t c hb hd;refine ed aZ (fun _ _ h=>h) hb ?_;have E4:ρ (.tmp 4) = .pointer (some ⟨gx,0,none⟩):=(hn (.tmp 4) rfl).trans rfl;refine aj (.agg (jq e)) (ah rfl) (bn rfl E4 hb.1.1 underlying89 rfl entry_size3) rfl
   case u2_5|v2_5=>
    intro ρ y W L hw hn t c hb hd;refine ed aZ (fun _ _ h=>h) hb ?_;have k3:=hw 103 12 rfl;have hA:y 12=_:=hd 12 rfl;have g4:=hw 95 4 rfl;have h4:y 4=_:=hd 4 rfl;have kt:((64:Int)≤(n:Int))=False:=eq_false (by omega);refine aj (.pointer (some ⟨gT2,oT2+n*3,none⟩)) (ah rfl) (by simp[execOp,go_sem,dm,k3,hA,g4,h4,hn64,kt]) rfl
   case u2_6|v2_6=>
    intro ρ y W L hw hn t c hb hd;have kp:=hw 104 13 rfl;have kC:y 13=_:=hd 13 rfl;have kq:=hw 101 10 rfl;have hJ:y 10=_:=hd 10 rfl;obtain⟨kP,kL⟩:=hb.2.1 t;obtain⟨gQ,oQ,curQ,hQ,qs,kn,km,_,kl⟩:=kP.ent (p:=0) (n:=n) (by omega) hn64 ha;cases (hQ.symm.trans d);rw[xO,iH] at km kl;exact nz (ah rfl) (sU _ _ _ rfl gT2 (oT2+n*3) _ (kX e) (kp.trans kC) (kq.trans hJ) rfl curQ _ kn (by rw[fA];exact km) (by kernel_rfl) (bV (iT _))) ⟨⟨hb.1.1.grown (aH _ _ _ _) (fun e9=>kd (aJ e9).symm),hb.1.2.grown (aH _ _ _ _) (fun e9=>hD (aJ e9).symm)⟩,fun h=>(by cases h),fun _=>⟨kl _ e (kn.setCells _ _) (aH _ _ _ _),kL.put (aH _ _ _ _) (.inr (by simp only[iA,d];simp[oB];right;right;right;right;right;right;right;right;rfl)) (fun x hx => .inl hx)⟩⟩ trivial
   case u2_7|v2_7=>
    intro ρ y W L hw hn t c hb hd;refine ed aZ (fun _ _ h=>h) hb ?_;have k2:=hw 105 15 rfl;have gn:y 15=_:=hd 15 rfl;have k4:=hw 100 9 rfl;have h9:y 9=_:=hd 9 rfl;have kt:((64:Int)≤(n:Int))=False:=eq_false (by omega);refine aj (.pointer (some ⟨gT2,oT2+192+n*3,none⟩)) (ah rfl) (by simp[execOp,go_sem,dm,k2,gn,k4,h9,hn64,kt]) rfl
   case u2_8=>
    intro y W9 hZ kb;clear kb;simp only[cz,dm,bA,bB];obtain⟨⟨bx9,fx9⟩,_,hU⟩:=hZ;obtain⟨h9,s9⟩:=hU rfl;have gZ:(setL Sx.T 0 n e).length=2:=by unfold setL;rw[bP];exact hG
    obtain⟨gR,oR',curR,hR,g0,ka,h6,_,hH⟩:=h9.ent (p:=1) (n:=n) (by show 1<(setL Sx.T 0 n e).length;omega) hn64 (by show (eY (setL Sx.T 0 n e) 1).length=64;rw[rJ (by omega),if_neg (by decide)];exact hz);have hR:Sx.ab=some ⟨gR,oR',none⟩:=hR;cases (hR.symm.trans d);rw[Au] at h6 hH;have h0:=Lib.hid hH;clear hH hU hx sx bx fx1
    go_wp2_with (refine aD rfl _ _ _ rfl gT2 (oT2+192+n*3) _ (kX e) rfl rfl rfl _ _ ka (by rw[fA];exact h6) (by kernel_rfl) (bV (iT _)) ?_)
    intro w10 ht q;have hJ:=h0.out w10 e ht q;have s10:MS w b S w10 { Sx with T:=setL (setL Sx.T 0 n e) 1 n e }:=s9.put q (.inr (by simp only[iA,d];simp[oB];right;right;right;right;right;right;right;right;rfl)) (fun x hx => .inl hx);have fx10:=fx9.grown q (fun e9=>hD (aJ e9).symm);clear h9 s9 bx9 fx9 ka ht q;go_wp2;go_roundw
    case rel=>exact⟨n+1,_,by omega,by go_num,hJ,s10,fx10,hF,hy⟩
    case measure=>simp[intOf];omega
   case v2_8=>
    intro y W9 hZ kb;clear kb;simp only[cz,dm,bA,bB];obtain⟨⟨bx9,fx9⟩,_,hU⟩:=hZ;obtain⟨h9,s9⟩:=hU rfl;have gZ:(setL Sx.T 0 n e).length=2:=by unfold setL;rw[bP];exact hG
    obtain⟨gR,oR',curR,hR,g0,ka,h6,_,hH⟩:=h9.ent (p:=1) (n:=n) (by show 1<(setL Sx.T 0 n e).length;omega) hn64 (by show (eY (setL Sx.T 0 n e) 1).length=64;rw[rJ (by omega),if_neg (by decide)];exact hz);have hR:Sx.ab=some ⟨gR,oR',none⟩:=hR;cases (hR.symm.trans d);rw[Au] at h6 hH;have h0:=Lib.hid hH;clear hH hU hx sx bx fx1
    go_wp2_with (refine aD rfl _ _ _ rfl gT2 (oT2+192+n*3) _ (kX e) rfl rfl rfl _ _ ka (by rw[fA];exact h6) (by kernel_rfl) (bV (iT _)) ?_)
    intro w10 ht q;have hJ:=h0.out w10 e ht q;have s10:MS w b S w10 { Sx with T:=setL (setL Sx.T 0 n e) 1 n e }:=s9.put q (.inr (by simp only[iA,d];simp[oB];right;right;right;right;right;right;right;right;rfl)) (fun x hx => .inl hx);have fx10:=fx9.grown q (fun e9=>hD (aJ e9).symm);clear h9 s9 bx9 fx9 ka ht q;go_wp2;go_roundw
    case rel=>exact⟨n+1,_,by omega,by go_num,hJ,s10,fx10,hF,hy⟩
    case measure=>simp[intOf];omega
  have qy:¬(n:Int)<64:=by omega
  go_wp2;refine bodyPost_ret (v:=.tuple #[]) (by simp[results,go_sem,results34]) rfl ?_;have hK:=hN.out.1;have hM:=ku.out;refine⟨Sn,rfl,hm,hs,⟨hN.out.2.1,fun p hp n g hg => ?_,hK.fi.trans hM.fi,hK.ct.trans hM.ct,hK.dk.trans hM.dk,by rw[hK.sp];exact hM.sp,hK.fl.trans hM.fs⟩⟩;rw[hK.sp] at hp;rw[hK.fi];exact hM.fm p hp n g hg
theorem JO (t:Tb) (cs:Array Value) (w:World) (h:FD w cs t):Calls Tryz.prog 86 #[.agg cs] w fun r w'=>r = .returned (.int .i64 (dh t))∧Below w.heap.size w w':=by
  go_enter func86,ntmps86;go_upto_region 1 with (fail);refine gF (fun W=>Code.wp _ _ _ _ W) fun W0 hr hf ht => ?_;clear ht
  go_wp2_with (refine gJ rfl 53 (.tmp 1) rfl w.heap.size 0 rfl cs.toList hf.rd _ underlying53 tab_agg (by rw[iO,h.sz];exact tab_size) ?_)
  clear hf
  go_loopw [9] (fun i wr => ∃k:Nat,k≤8∧i = .int .i64 k∧Below w.heap.size w wr∧∀i (hi:i<8),i<k→lJ t[i]=0) (fun i _=>8-(intOf i).toNat)
  case atStart=>exact⟨0,aW _,rfl,hr,fun i _ h=>absurd h (eG _)⟩
  case round=>
    obtain⟨k,hk,rfl,x,hh⟩:=hrel;have hp:=Lib.hid hh;clear hh hr
    by_cases hlt:k<8
    · obtain⟨a,c,hm,hA,hv,hx,hu⟩:=h.at' k hlt;have hw:=fun W=>Db hlt hm W;have hC:decide ((k:Int)<8)=true:=by simp;omega
      unfold maxLen at hv;clear hm
      by_cases h08:t[k].length=0∨t[k].length=8
      · have H08:=Lib.hid h08;have hB:t[k].length≤8:=by omega
        have q1:((t[k].length:Int) != 0)=true∧((t[k].length:Int) != 8)=false∨((t[k].length:Int) != 0)=false∧((t[k].length:Int) != 8)=true:=by rcases h08 with e|e<;>simp[e]
        clear h08;rcases q1 with ⟨q1,q2⟩|⟨q1,q2⟩
        all_goals
          go_wp2;clear hw
          go_loopw [22,5] (fun i s wr' => ∃j c:Nat,j≤t[k].length∧c≤j∧i = .int .i64 j∧s = .int .i64 c∧Below w.heap.size w wr'∧Hid (c=0↔yD t[k] j=false)∧∀i (hi:i<t[k].length),i<j→eT t[k][i]=0) (fun i _ _=>t[k].length-(intOf i).toNat)
          case atStart=>exact⟨0,0,aW _,az _,rfl,rfl,x,Lib.hid (by simp[Pm]),fun i _ h=>absurd h (eG _)⟩
          case round=>
            obtain⟨j,n,hj,hy,rfl,rfl,q,v,hg⟩:=hrel;have hq:=Lib.hid hg;clear hg x
            by_cases hjl:j<t[k].length
            · obtain⟨b,off,rfl,c0,c1,c2⟩:=GH (hu.below q) j hjl;go_upto_region 10 with (fail);refine gF (fun W=>Code.wp _ _ _ _ W) fun W3 hn hd hs => ?_;have o:=ae q hn;have m:=hd.cell;have d:Hid (eT t[k][j]≠0→dh t=eT t[k][j]):=Lib.hid (fun he=>(rf k hlt hp.out (by rw[zB H08.out j hjl hq.out he];exact he)).trans (zB H08.out j hjl hq.out he));have g:Hid (eT t[k][j]=0→∀i (hi:i<t[k].length),i<j+1→eT t[k][i]=0):=Lib.hid (fun he=>lN hq.out hjl he);have l:Hid (0≤t[k][j].k→((0<t[k][j].k)→(n+1=0↔yD t[k] (j+1)=false))∧(¬0<t[k][j].k→(n=0↔yD t[k] (j+1)=false))):=Lib.hid (Tq hjl v.out);clear q hs c0 c1 c2 hn hd hq hp v;generalize t[k][j]=E at m d g l;go_wp2
              all_goals first
                | (go_ret
                   refine⟨aU ?_,o⟩;clear m g l
                   go_light
                   have he:eT E≠0→dh t=eT E:=d.out;clear d;unfold eT at he
                   simp_all<;>omega)
                | (have he:eT E=0:=by
                     clear m g l d
                     go_light
                     unfold eT
                     simp_all<;>omega
                   have hb:0≤E.k:=by
                     clear m g l d he
                     go_light
                     omega
                   have z:=Lib.hid (g.out he);have u:=Lib.hid (l.out hb);clear l g d he m;have ha:0<E.k:=by
                     go_light
                     omega
                   have hc:=Lib.hid (u.out.1 ha);clear u;go_roundw
                   case rel=>exact⟨j+1,n+1,by omega,by omega,by go_num,by go_num,o,hc,z.out⟩
                   case measure=>simp[intOf];omega)
                | (have he:eT E=0:=by
                     clear m g l d
                     go_light
                     unfold eT
                     simp_all<;>omega
                   have hb:0≤E.k:=by
                     clear m g l d he
                     go_light
                     omega
                   have z:=Lib.hid (g.out he);have u:=Lib.hid (l.out hb);clear l g d he m;have ha:¬0<E.k:=by
                     go_light
                     omega
                   have hc:=Lib.hid (u.out.2 ha);clear u;go_roundw
                   case rel=>exact⟨j+1,n,by omega,by omega,by go_num,rfl,o,hc,z.out⟩
                   case measure=>simp[intOf];omega)
            have y:=Lib.hid (xH H08.out fun i hi=>hq.out i hi (by omega));have p:=KG t[k] j (by omega)
            by_cases hgo:t[k].length=8∧n=0
            · obtain⟨g1,g2⟩:=hgo;have f:=Lib.hid (y.out.trans (if_pos ⟨by omega,by rw[←p];exact v.out.1 g2⟩));have d:=Lib.hid (rf k hlt hp.out (by rw[f.out];decide));have g3:((t[k].length:Int)==8)=true:=by rw[beq_iff_eq];omega
              subst g2;clear p g1;go_wp2;go_ret;exact⟨aU (d.out.trans f.out).symm,q⟩
            have f:=Lib.hid (y.out.trans (if_neg (fun h=>hgo ⟨by have:=H08.out;omega,v.out.2 (p.trans h.2)⟩)));have hl:((t[k].length:Int)==8)=false∨((t[k].length:Int)==8)=true∧((n:Int)==0)=false:=by
              by_cases hz:t[k].length=8
              · exact .inr ⟨by rw[beq_iff_eq];omega,by rw[beq_eq_false_iff_ne];omega⟩
              · exact .inl (by rw[beq_eq_false_iff_ne];omega)
            clear hgo p;rcases hl with g1|⟨g1,g2⟩
            all_goals
              go_wp2;go_roundw
              case rel=>exact⟨k+1,by omega,by go_num,q,lN hp.out hlt f.out⟩
              case measure=>simp[intOf];omega
      have q1:((t[k].length:Int) != 0)=true:=by rw[bne_iff_ne];omega
      have q2:((t[k].length:Int) != 8)=true:=by rw[bne_iff_ne];omega
      have f:=Lib.hid (yO (h:=t[k]) (by omega));have d:=Lib.hid (rf k hlt hp.out (by rw[f.out];decide));go_wp2;go_ret;exact⟨aU (d.out.trans f.out).symm,x⟩
    have d:=Lib.hid (wZ fun i hi=>hp.out i hi (by omega));go_wp2;go_ret;exact⟨aU d.out.symm,x⟩
theorem Xe (f g:En) (b:Bool) (h:(f==g)=b) (W:World):(Op.equalIn 10000 89 (.agg #[.int .i64 f.k,.int .i64 f.n,.bool f.w]) (.agg #[.int .i64 g.k,.int .i64 g.n,.bool g.w])).run Tryz.prog W = .ok b W:=by
 rw[←h,Wd]
 by_cases h1:(f.k==g.k)=true
 ·by_cases h2:(f.n==g.n)=true
  ·by_cases h3:f.w=g.w<;>simp[go_sem,h1,h2,h3]
  ·simp[go_sem,h1,h2]
 ·simp[go_sem,h1]
theorem Pf (t u:Tb) (cs ds:Array Value) (w:World) (h:FD w cs t) (h' : FD w ds u):Calls Tryz.prog 47 #[.agg cs,.agg ds] w fun r w'=>r = .returned (.bool (Ga t u))∧Below w.heap.size w w':=by
 go_enter func47,ntmps47;go_upto_region 1 with (fail);refine qQ (fun W=>Code.wp _ _ _ _ W) fun W0 hd v q hg => ?_;clear hg;go_wp2
 go_loopw [7] (fun i wr => ∃k:Nat,k≤8∧i = .int .i64 k∧Below w.heap.size w wr∧aA wr w.heap.size cs 53∧aA wr (w.heap.size+1) ds 53∧∀i (hi:i<8),i<k→t[i]=u[i]) (fun i _=>8-(intOf i).toNat)
 case atStart=>exact⟨0,aW _,rfl,hd,v,q,fun i _ h=>absurd h (eG _)⟩
 case round=>
  obtain⟨k,hk,rfl,d,hx,hy,z⟩:=hrel;have hp:=Lib.hid z;clear z hd v q
  by_cases hlt:k<8
  ·obtain⟨a,c,o,hv,hr,ht,hh⟩:=h.at' k hlt;obtain⟨a',c',n,hu,ha,hm,x⟩:=h'.at' k hlt;have hz:decide ((k:Int)<8)=true:=by simp;omega
   have hw:(k:Int)<8:=by omega
   unfold maxLen at hr ha;have HC:=Lib.hid o;have HD:=Lib.hid n;have hc:=(hx.cell k).trans o;have hb:=(hy.cell k).trans n;clear o n
   by_cases hl:t[k].length=u[k].length
   ·have g:=Lib.hid hl;have hn:((t[k].length:Int) != (u[k].length:Int))=false:=by simp[hl]
    clear hl
    go_wp2_with fail
    go_quiet (fail);go_wp2;clear hc hb;generalize hW1:wr.drewN _=w1;have m:Below w.heap.size w w1:=by rw[←hW1];exact below_drewN d _
    have s:aA w1 w.heap.size cs 53:=by rw[←hW1];exact hx.drewN _
    have p:aA w1 (w.heap.size+1) ds 53:=by rw[←hW1];exact hy.drewN _
    clear hW1 d hx hy
    go_loopw [23] (fun i wr => ∃j:Nat,j≤t[k].length∧i = .int .i64 j∧Below w.heap.size w wr∧aA wr w.heap.size cs 53∧aA wr (w.heap.size+1) ds 53∧∀i (hi:i<t[k].length),i<j→t[k][i]=u[k][i]'(by have:=g.out;omega)) (fun i _=>t[k].length-(intOf i).toNat)
    case atStart=>exact⟨0,aW _,rfl,m,s,p,fun i _ h=>absurd h (eG _)⟩
    case round=>
     obtain⟨j,hj,rfl,d,hx,hy,y⟩:=hrel;have hq:=Lib.hid y;clear y m s p;have hc:=(hx.cell k).trans HC.out;have hb:=(hy.cell k).trans HD.out
     by_cases hjl:j<t[k].length
     ·have l : j<u[k].length:=by have:=g.out;omega
      have k1:(j:Int)<(u[k].length:Int):=by omega
      obtain⟨b,off,rfl,c0,c1,c2⟩:=GH (hh.below d) j hjl;obtain⟨b',off',rfl,d0,d1,d2⟩:=GH (x.below d) j l
      by_cases he:t[k][j]=u[k][j]
      ·have hE:=Xe t[k][j] u[k][j] true (beq_iff_eq.2 he);have hs:=Lib.hid he;clear he
       go_wp2_with fail
       go_quiet (fail);go_wp2;go_roundw
       case rel=>exact⟨j+1,by omega,by go_num,below_drewN d _,hx.drewN _,hy.drewN _,Xc g.out hjl hq.out hs.out⟩
       case measure=>simp[intOf];omega
      have hE:=Xe t[k][j] u[k][j] false (beq_eq_false_iff_ne.2 he);have f:=Lib.hid (Ho k hlt (WV j hjl l he));clear he
      go_wp2_with fail
      go_quiet (fail);go_wp2;go_ret;exact⟨bQ f.out.symm,below_drewN d _⟩
     have hf:=Lib.hid (lN hp.out hlt (Wj g.out j hjl hq.out));go_wp2;go_roundw
     case rel=>exact⟨k+1,by omega,by go_num,d,hx,hy,hf.out⟩
     case measure=>simp[intOf];omega
   have hn:((t[k].length:Int) != (u[k].length:Int))=true:=by rw[bne_iff_ne];omega
   have f:=Lib.hid (Ho k hlt (fun e=>hl (by rw[e])));clear hl
   go_wp2_with fail
   go_quiet (fail);go_wp2;go_ret;exact⟨bQ f.out.symm,below_drewN d _⟩
  have f:=Lib.hid (Hd fun i hi=>hp.out i hi (by omega));go_wp2;go_ret;exact⟨bQ f.out.symm,d⟩
def wX (l:List En):Array Value:=(l.flatMap kX).toArray
theorem uN (l:List En):(wX l).size=l.length*3:=by
 unfold wX;rw[List.size_toArray,tC]
theorem Vh (l:List En) (k:Nat) (hk:k<l.length) (x:En):bD (wX l) (k*3) (kX x)=wX (l.set k x):=by
 apply mr;intro i;have hl:=tC l;have c:=tC (l.set k x);rw[bP] at c
 by_cases hi:i<l.length*3
 ·have hq:i / 3<l.length:=by omega
  have b:i=i / 3*3+i%3:=by omega
  have h2:=jw kX 3 fA (l.set k x) (i / 3) (by simpa using hq) (i%3) (by omega);rw[←b] at h2;have h3:=jw kX 3 fA l (i / 3) hq (i%3) (by omega);rw[←b] at h3;have e2:(wX (l.set k x))[i]?=((l.set k x).flatMap kX)[i]?:=by simp[wX]
  have e3:(wX l)[i]?=(l.flatMap kX)[i]?:=by simp[wX]
  by_cases e:i / 3=k
  ·have d:i=k*3+i%3:=by omega
   have a:i%3<(kX x).length:=by rw[fA];omega
   have h1:=putAt_in (kX x) (wX l) (k*3) (i%3) (kX x)[i%3] (by rw[fA,uN];omega) (aI a);rw[←d] at h1;rw[h1,e2,h2];simp only[e,IQ];exact (aI a).symm
  rw[putAt_out _ _ _ _ (by rw[fA];omega),e2,h2,e3,h3];congr 2;rw[AU (fun h=>e h.symm)]
 ·rw[lF (by rw[size_putAt,uN];omega),lF (by rw[uN,bP];omega)]
theorem arr64_size:(Tryz.prog.info? 90).map (·.size)=some 192:=by kernel_rfl
theorem Vu (h:aA w b (bD cur 0 (kX E)) T) (hc:cur.size=3):aA w b (jq E) T:=by
 have:bD cur 0 (jq E).toList=jq E:=iF cur (jq E) (by rw[hc];rfl);have h2:aA w b (bD cur 0 (jq E).toList) T:=h;rwa [this] at h2
theorem BO (t:Tb) (cs:Array Value) (w:World) (h:FD w cs t) (h0:dh t=0):Calls Tryz.prog 50 #[.agg cs] w fun r w'=>r = .returned (.agg (wX (dA t)))∧Below w.heap.size w w':=by
 have H0:=Lib.hid h0;clear h0;go_enter func50,ntmps50;go_upto_region 2 with (fail);refine Nf (fun W=>Code.wp _ _ _ _ W) fun W0 hx hq f ha hy => ?_;clear hy;replace ha:aA W0 (w.heap.size+2) (wX (List.replicate 64 zEn)) 90:=ha;replace f:aA W0 (w.heap.size+1) (wX (List.replicate 64 zEn)) 90:=f
 go_wp2_with (refine gJ rfl 53 (.tmp 1) rfl w.heap.size 0 rfl cs.toList hq.rd _ underlying53 tab_agg (by rw[iO,h.sz];exact tab_size) ?_)
 have hn:Hid (LB t (8*0) (List.replicate 64 zEn)):=Lib.hid LB.start;clear hq;have hh:=hn;rw[Nat.mul_zero] at hn
 go_loopw [9] (fun i wr => ∃(k:Nat) (l:List En),k≤8∧i = .int .i64 k∧Below w.heap.size w wr∧aA wr (w.heap.size+2) (wX l) 90∧aA wr (w.heap.size+1) (wX (List.replicate 64 zEn)) 90∧Hid (LB t (8*k) l)) (fun i _=>8-(intOf i).toNat)
 case atStart=>exact⟨0,_,aW _,rfl,hx,ha,f,hh⟩
 case round=>
  obtain⟨k,l,hk,rfl,hb,ho,y,hF⟩:=hrel;clear hx ha f hn hh
  by_cases hlt:k<8
  ·obtain⟨a,c,hw,hI,hB,hD,hz⟩:=h.at' k hlt;have hC:=fun W=>Db hlt hw W;have hK:decide ((k:Int)<8)=true:=by simp;omega
   have hl:=Lib.hid (oZ (lw H0.out k hlt));have hJ:t[k].length≤8:=by have:=hl.out;omega
   unfold maxLen at hB;clear hw;go_wp2;clear hC
   go_loopw [15] (fun i wr' => ∃(j:Nat) (l' : List En),j≤t[k].length∧i = .int .i64 j∧Below w.heap.size w wr'∧aA wr' (w.heap.size+2) (wX l') 90∧aA wr' (w.heap.size+1) (wX (List.replicate 64 zEn)) 90∧Hid (LB t (8*k+j) l')) (fun i _=>t[k].length-(intOf i).toNat)
   case atStart=>exact⟨0,l,aW _,rfl,hb,ho,y,hF⟩
   case round=>
    obtain⟨j,l',hj,rfl,n,z,m,s⟩:=hrel;clear hb ho y
    by_cases hjl:j<t[k].length
    ·obtain⟨b,off,E,rfl,hE,c0,c1,c2⟩:=Ue (hz.below n) j hjl;have hv:=Lib.hid (Gw hlt (by omega) (by have:=hl.out;omega) hE);have hH:(8:Int)*(k:Int)+(j:Int)<64:=by omega
     have hm:=Lib.hid (s.out.step (by omega) hv.out);have hg:Hid ((8*k+j)*3+3≤(wX l').size):=Lib.hid (by rw[uN,s.out.len];omega);have hd:Hid (bD (wX l') ((8*k+j)*3) (kX E)=wX (l'.set (8*k+j) E)):=Lib.hid (Vh l' _ (by rw[s.out.len];omega) E);clear hE hv s
     go_wp2_with (refine aD rfl _ (.tmp 7) (.tmp 19) rfl wr.heap.size 0 _ (kX E) rfl rfl rfl _ _ (aA.new _ _ _) (az 3) entry_size (Bq E) ?_)
     intro w4 hp q;have hc:=Vu hp rfl;have hG:=z.lt;have ht:aA w4 (w.heap.size+2) _ _:=(z.alloc _).grown q (fun e=>by have:=aJ e;omega);have x:aA w4 (w.heap.size+1) _ _:=(m.alloc _).grown q (fun e=>by have:=aJ e;omega);have p:Below w.heap.size w w4:=(n.alloc n.size _).grown q (cK n.size _) (fun k hk=>by cases hk;exact n.size);clear hp z m n q
     go_wp2_with (first | (refine gJ rfl 89 (.tmp 7) rfl wr.heap.size 0 rfl (kX E) hc.rd _ underlying89 rfl entry_size ?_) | (refine aD rfl _ (.tmp 25) (.tmp 24) rfl (w.heap.size+2) ((8*k+j)*3) _ (kX E) rfl rfl rfl _ _ ht hg.out entry_size (Bq E) ?_))
     intro w5 hs g;rw[hd.out] at hs;have hi:aA w5 (w.heap.size+1) _ _:=x.grown g (fun e=>by have:=aJ e;omega);have o:Below w.heap.size w w5:=p.grown g p.size (fun k hk=>by cases hk;omega);clear ht x p g hd hg hc c0 c1 c2;go_wp2;go_roundw
     case rel=>exact⟨j+1,_,by omega,by go_num,o,hs,hi,hm⟩
     case measure=>simp[intOf];omega
    have hm:Hid (LB t (8*(k+1)) l'):=by
     rcases hl.out with e|e
     ·have e0:j=0:=by omega
      subst e0;exact Lib.hid (LB.skip s.out hlt e)
     have e8:j=8:=by omega
     subst e8;exact s
    go_wp2;go_roundw
    case rel=>exact⟨k+1,l',by omega,by go_num,n,z,m,hm⟩
    case measure=>simp[intOf];omega
  obtain rfl:k=8:=by omega
  obtain rfl:l=dA t:=hF.out.fin;have hf:(dA t).length=64:=by simp[dA]
  have d:Hid ((wX (dA t)).size=192):=Lib.hid (by rw[uN,hf]);have hr:(wX (dA t)).all (·.oneCell')=true:=by rw[←jr,dF];intro u hu;exact BX (dA t) u (by simpa[wX] using hu)
  clear hF hf
  go_wp2_with (first | (refine gJ rfl 90 (.tmp 3) rfl (w.heap.size+2) 0 rfl (wX (dA t)).toList ho.rd _ underlying90 rfl (by rw[iO,d.out];exact arr64_size) ?_) | (refine ay rfl _ (.tmp 2) (.tmp 28) rfl (w.heap.size+1) (wX (dA t)) rfl rfl _ _ y (by rw[d.out];rfl) (by rw[d.out];exact arr64_size) hr ?_))
  intro w5 hA g;have o:Below w.heap.size w w5:=hb.grown g hb.size (fun k hk=>by cases hk;omega);go_wp2;refine bodyPost_ret (v:=.agg (wX (dA t))) (eO results50 _ _ (w.heap.size+1) _ _ _ rfl hA underlying90 rfl (by rw[d.out];exact arr64_size)) rfl ?_;exact⟨rfl,o⟩
theorem qZ.app {t:Tb} (h:qZ w B cs t) (hq:q<8) {l:List En} (hv:cs[q]?=some v) (ho:Own w' B 89 3 v' l.length (l.flatMap kX)) (hgr:w.grownBy w' v.ownBlock)
 (hc:v'.ownBlock=v.ownBlock∨∀g,v'.ownBlock=some g→w.heap.size≤g):qZ w' B (cs.setIfInBounds q v') (t.set q l) where
 sz:=by simp[h.sz]
 own:=fun k hk=>by
  by_cases e:k=q
  ·subst e;exact⟨v',by rw[rH (by rw[h.sz];exact hk)],by simpa using ho⟩
  obtain⟨u,h1,h2⟩:=h.own k hk;refine⟨u,by rw[gu (fun e2=>e e2.symm)];exact h1,?_⟩;rw[xY hq hk (fun e2=>e e2.symm)];refine h2.grown hgr fun g hg he => ?_;rcases wC e with hlt|hlt
  ·exact h.apart k q u v hlt h1 hv g hg he
  ·exact h.apart q k v u hlt hv h1 g he hg
 apart:=fun j k x y f hx hy g b a=>by
  have key:∀j u,j≠q→cs[j]?=some u→v'.ownBlock=some g→u.ownBlock=some g→False:=by
   intro j u d hu hg c;have i:j<8:=by
    rcases fG j 8 with hk|hk
    ·exact hk
    ·rw[lF (by rw[h.sz];exact hk)] at hu;cases hu
   obtain⟨u',h1,h2⟩:=h.own j i;rw[hu] at h1;cases h1;rcases hc with hc|hc
   ·rw[hc] at hg;rcases wC d with hlt|hlt
    ·exact h.apart j q u v hlt hu hv g c hg
    ·exact h.apart q j v u hlt hv hu g hg c
   have h3:=hc g hg;have h4:=Mw h2 g c;omega
  by_cases e:j=q
  ·subst e;rw[rH (by rw[h.sz];exact hq)] at hx;cases hx;rw[gu (by omega)] at hy;exact key k y (by omega) hy b a
  rw[gu (fun e2=>e e2.symm)] at hx
  by_cases e2:k=q
  ·subst e2;rw[rH (by rw[h.sz];exact hq)] at hy;cases hy;exact key j x e hx a b
  rw[gu (fun e3=>e2 e3.symm)] at hy;exact h.apart j k x y f hx hy g b a
theorem TL {l:List En} (h:aA w b (wX l) T) (hE:l[k]?=some E):dI w (some ⟨b,k*3,none⟩) (kX E):=by
 intro i u hi;refine⟨b,k*3,rfl,?_⟩;rw[h.cell];have hk:k<l.length:=(dn.1 hE).1;have hl:l[k]=E:=(dn.1 hE).2;have:=flat_get kX 3 fA l k hk i u (by rw[hl];exact hi);simpa[wX] using this
theorem Mm (l:List En) (w:World) (hl:l.length=64):Calls Tryz.prog 36 #[.agg (wX l)] w fun r w' => ∃cs,r = .returned (.agg cs)∧qZ w' w.heap.size cs (gG l)∧Below w.heap.size w w':=by
 have HLEN:=Lib.hid hl;clear hl;go_enter func36,ntmps36;go_upto_region 2 with (fail);refine Nf (fun W=>Code.wp _ _ _ _ W) fun W0 kg hX hi kc ko => ?_;clear ko;have kj:qZ W0 w.heap.size #[.slice none 0 0,.slice none 0 0,.slice none 0 0,.slice none 0 0,.slice none 0 0,.slice none 0 0,.slice none 0 0,.slice none 0 0] zTb:=zN _ _;have hr:Hid (GG l 0 [] zTb):=Lib.hid GG.start;go_wp2
 go_loopw [8] (fun i wr => ∃(k:Nat) (ca:Array Value) (t:Tb),k≤8∧i = .int .i64 k∧Below w.heap.size w wr∧aA wr w.heap.size (wX l) 90∧aA wr (w.heap.size+1) #[.slice none 0 0,.slice none 0 0,.slice none 0 0,.slice none 0 0,.slice none 0 0,.slice none 0 0,.slice none 0 0,.slice none 0 0] 53∧aA wr (w.heap.size+2) ca 53∧qZ wr w.heap.size ca t∧Hid (GG l k [] t)) (fun i _=>8-(intOf i).toNat)
 case atStart=>exact⟨0,_,_,aW _,rfl,kg,hX,hi,kc,kj,hr⟩
 case round=>
  obtain⟨k,ca,t,hk,rfl,hp,hx,m,ho,hO,hT⟩:=hrel;clear kg hX hi kc kj hr
  by_cases hlt:k<8
  ·have kL:decide ((k:Int)<8)=true:=by simp;omega
   go_wp2
   go_loopw [6,5] (fun i s wr' => ∃(j:Nat),j≤8∧i = .int .i64 j∧s = .bool (yH l k j)∧wr' = wr) (fun i _ _=>8-(intOf i).toNat)
   case atStart=>exact⟨0,aW _,rfl,rfl,rfl⟩
   case round=>
    obtain⟨j,hj,rfl,rfl,rfl⟩:=hrel
    by_cases hjl:j<8
    ·have kt:decide ((j:Int)<8)=true:=by simp;omega
     obtain⟨E,hE,hP⟩:=Kb HLEN.out hlt hjl;have ku:=(TL hx hE) 0 (.int .i64 E.k) rfl;obtain⟨_,_,e1,kw⟩:=ku;simp only[jg,vJ,and_true] at e1;obtain⟨rfl,rfl⟩:=e1;rw[iH] at kw;have ke:(8:Int)*(k:Int)+(j:Int)<64:=by omega
     have h0:Hid (yH l k (j+1)=(yH l k j||decide (0<E.k))):=Lib.hid (by unfold yH;rw[hP,List.any_append];simp[II]);clear hE hP;cases hs:yH l k j
     all_goals
      rw[hs] at h0;go_wp2;go_roundw
      case rel=>exact⟨j+1,by omega,by go_num,by rw[h0.out];first | rfl | (congr 1;rw[mg];simp),trivial⟩
      case measure=>simp[intOf];omega
    obtain rfl:j=8:=by omega
    rw[show ((8:Nat):Int)=8 from rfl];cases hsome:yH l k 8
    ·have p:=Lib.hid (UN hsome);clear hsome;go_wp2
     go_loopw [7] (fun i wr'=>i = .int .i64 0∧wr' = wr) (fun _ _=>0)
     case atStart=>exact⟨rfl,rfl⟩
     case round=>
      obtain⟨rfl,rfl⟩:=hrel;have hH:Hid (GG l (k+1) [] t):=Lib.hid (GG.next (by rw[p.out];exact hT.out) hlt);go_wp2;go_roundw
      case rel=>exact⟨k+1,ca,t,by omega,by go_num,hp,hx,m,ho,hO,hH⟩
      case measure=>simp[intOf];omega
    have p:=Lib.hid (SC hsome);clear hsome;have hr:Hid (GG l k ((l.drop (8*k)).take 0) t):=hT;go_wp2
    go_loopw [7] (fun i wr' => ∃(j:Nat) (ca' : Array Value) (t' : Tb),j≤8∧i = .int .i64 j∧Below w.heap.size w wr'∧aA wr' w.heap.size (wX l) 90∧aA wr' (w.heap.size+1) #[.slice none 0 0,.slice none 0 0,.slice none 0 0,.slice none 0 0,.slice none 0 0,.slice none 0 0,.slice none 0 0,.slice none 0 0] 53∧aA wr' (w.heap.size+2) ca' 53∧qZ wr' w.heap.size ca' t'∧Hid (GG l k ((l.drop (8*k)).take j) t')) (fun i _=>8-(intOf i).toNat)
    case atStart=>exact⟨0,ca,t,aW _,rfl,hp,hx,m,ho,hO,hr⟩
    case round=>
     obtain⟨j,ca',t',hj,rfl,hf,hy,n,hB,ht,hq⟩:=hrel;clear hp hx m ho hO hT hr
     by_cases hjl:j<8
     ·have kt:decide ((j:Int)<8)=true:=by simp;omega
      obtain⟨E,hE,hP⟩:=Kb HLEN.out hlt hjl;have h3:=TL hy hE;have ke:(8:Int)*(k:Int)+(j:Int)<64:=by omega
      have kr:¬(8:Int)*(k:Int)+(j:Int)<0:=by omega
      have ks:(k:Int)<8:=by omega
      have kd:IntKind.i64.wrap (8*(k:Int))=8*(k:Int):=bO _ (by omega);have kh:IntKind.i64.wrap (8*(k:Int)+(j:Int))=8*(k:Int)+(j:Int):=bO _ (by omega);have kq:(8*(k:Int)+(j:Int)).toNat=8*k+j:=by omega
      have ky:=Lib.hid hP;obtain⟨v,hv,ha⟩:=ht.own k hlt;have hY:=Lib.hid hv;have kK:t'[k].length=j:=by rw[hq.out.at' hlt];exact Fu HLEN.out hlt (by omega)
      obtain⟨xa,xc,rfl,kJ,kI,km,kH⟩:=ha.rd;have HE:=Lib.hid hE;clear hE hP hv;go_upto_region 13 with (fail);refine Lc 11 12 [(0,.int .i64 k)] [anyR,ve (.int .i64 k),ve (.pointer (some ⟨w.heap.size+2,k,none⟩)),ve (.slice xa t'[k].length xc),ve (.int .i64 k),ve (.int .i64 (8*(k:Int))),ve (.int .i64 j),ve (.int .i64 (8*(k:Int)+(j:Int))),ve (.pointer (some ⟨w.heap.size,(8*k+j)*3,none⟩)),ve (.agg (jq E)),(XN 1 (kX E))] (by kernel_rfl) (by kernel_rfl) (by kernel_rfl) (by kernel_rfl) (by kernel_rfl) (by kernel_rfl) (by decide) (by decide) _ rfl (by kernel_rfl) (ag ?_ (ag ?_ (ag ?_ (ag ?_ (ag ?_ (ag ?_ (ag ?_ (ag ?_ (ag ?_ (ag ?_ (ag ?_ (aB)))))))))))) (aB) rfl ?_
      ·refine OU rfl ?_;intro ρ y W hw hn hV;have E4:ρ (.tmp 4) = .int .i64 k:=(hn (.tmp 4) rfl).trans rfl;exact⟨(ah rfl),(run_move (.inl rfl) E4)⟩
      ·refine bK rfl ?_;intro ρ y W hw hn hb hd;have E4:ρ (.tmp 4) = .int .i64 k:=(hn (.tmp 4) rfl).trans rfl;refine aj (.int .i64 k) (ah rfl) (run_move (.inl rfl) E4) rfl
      ·refine bK rfl ?_;intro ρ y W hw hn hb hd;have E3:ρ (.tmp 3) = .pointer (some ⟨w.heap.size+2,0,none⟩):=(hn (.tmp 3) rfl).trans rfl;have kG:=hw 34 1 rfl;have h1:y 1 = .int .i64 k:=hd 1 rfl;refine aj (.pointer (some ⟨w.heap.size+2,k,none⟩)) (ah rfl) (by simp[execOp,go_sem,E3,kG,h1,underlying53,ks]) rfl
      ·refine bK rfl ?_;intro ρ y W hw hn hb hd;have kF:=hw 35 2 rfl;have h2:y 2 = .pointer (some ⟨w.heap.size+2,k,none⟩):=hd 2 rfl;refine aj (.slice xa t'[k].length xc) (ah rfl) (by simp[execOp,go_sem,kF,h2,(((hB.ext hb).cell k).trans hY.out),underlying51]) rfl
      ·refine bK rfl ?_;intro ρ y W hw hn hb hd;have E4:ρ (.tmp 4) = .int .i64 k:=(hn (.tmp 4) rfl).trans rfl;refine aj (.int .i64 k) (ah rfl) (run_move (.inl rfl) E4) rfl
      ·refine bK rfl ?_;intro ρ y W hw hn hb hd;have kE:=hw 37 4 rfl;have h4:y 4 = .int .i64 k:=hd 4 rfl;have EC:∀v,ρ (.const v)=v:=fun v=>hn (.const v) trivial;refine aj (.int .i64 (8*(k:Int))) (ah rfl) (by simp[execOp,go_sem,kE,h4,EC,kd]) rfl
      ·refine bK rfl ?_;intro ρ y W hw hn hb hd;have E7:ρ (.tmp 7) = .int .i64 j:=(hn (.tmp 7) rfl).trans rfl;refine aj (.int .i64 j) (ah rfl) (run_move (.inl rfl) E7) rfl
      ·refine bK rfl ?_;intro ρ y W hw hn hb hd;have kD:=hw 38 5 rfl;have h5:y 5 = .int .i64 (8*(k:Int)):=hd 5 rfl;have kC:=hw 39 6 rfl;have h6:y 6 = .int .i64 j:=hd 6 rfl;refine aj (.int .i64 (8*(k:Int)+(j:Int))) (ah rfl) (by simp[execOp,go_sem,kD,h5,kC,h6,kh]) rfl
      ·refine bK rfl ?_;intro ρ y W hw hn hb hd;have E1:ρ (.tmp 1) = .pointer (some ⟨w.heap.size,0,none⟩):=(hn (.tmp 1) rfl).trans rfl;have kB:=hw 40 7 rfl;have h7:y 7 = .int .i64 (8*(k:Int)+(j:Int)):=hd 7 rfl;refine aj (.pointer (some ⟨w.heap.size,(8*k+j)*3,none⟩)) (ah rfl) (by simp[execOp,go_sem,E1,kB,h7,underlying90,ke,kr,kq]) rfl
      ·refine bK rfl ?_;intro ρ y W hw hn hb hd;have kA:=hw 41 8 rfl;have h8:y 8 = .pointer (some ⟨w.heap.size,(8*k+j)*3,none⟩):=hd 8 rfl;refine aj (.agg (jq E)) (ah rfl) (bF rfl (kA.trans h8) (vs:=kX E) (h3.below hb) underlying89 rfl entry_size) rfl
      ·refine bK rfl ?_;intro ρ y W hw hn hb hd;have kz:=hw 42 9 rfl;have h9:y 9 = .agg (jq E):=hd 9 rfl;refine jT (.slice (some ⟨W.heap.size,0,none⟩) 1 1) (ah rfl) (by simp[execOp,go_sem,kz,h9,jq]) ((Below.refl _ _).alloc (az _) (.cells (jq E) 89)) ?_;exact⟨_,_,rfl,az _,by unfold maxLen;omega,fun e=>(by cases e),dI.new _ _ _⟩
      intro ρ y WA o ho hw hn hV b a;cases ho;have hU:y 0 = .int .i64 k:=hV 0 _ rfl;have hS:y 1 = .int .i64 k:=a 1 (by decide);have hR:y 2 = .pointer (some ⟨w.heap.size+2,k,none⟩):=a 2 (by decide);have hD:y 3 = .slice xa t'[k].length xc:=a 3 (by decide);have hQ:y 4 = .int .i64 k:=a 4 (by decide);have hN:y 5 = .int .i64 (8*(k:Int)):=a 5 (by decide);have hM:y 6 = .int .i64 j:=a 6 (by decide);have hL:y 7 = .int .i64 (8*(k:Int)+(j:Int)):=a 7 (by decide);have hK:y 8 = .pointer (some ⟨w.heap.size,(8*k+j)*3,none⟩):=a 8 (by decide);have hJ:y 9 = .agg (jq E):=a 9 (by decide);obtain⟨ya10,yc10,hg,yle10,ymx10,ynil10,yrd10⟩:=a 10 (by decide);have kl:=hw 36 3 rfl;rw[hD] at kl;have kk:=hw 43 10 rfl;rw[hg] at kk;have EC:∀v,ρ (.const v)=v:=fun v=>hn (.const v) trivial;have EF:∀f,ρ (.func f) = .func (.func f) #[] #[]:=fun f=>hn (.func f) trivial;refine IA (ah rfl) (mM (.tmp 36) (.tmp 43) 51 rfl w.heap.size 89 _ 3 24 underlying51 entry_info rfl (by decide) _ _ _ kl (ha.below b) ya10 1 yc10 (kX E) kk ynil10 yle10 rfl yrd10 (Bq E) (by unfold maxLen;omega) (by omega) (aY hf.size b.size)) ?_;rintro v2 w4 ⟨h,g,hc⟩;clear a hw hn hV;simp only[lay,Nat.reduceAdd,Nat.reduceLT,Nat.reduceEqDiff,reduceIte,decide_true,decide_false,if_true,vK,if_false,CU,qO,vE,Aw,De,Al,hU,hS,hR,hD,hQ,hN,hM,hL,hK,hJ,hg];clear hU hS hR hD hQ hN hM hL hK hJ hg;have q:=ae hf b;have d:=ha.below b;have hA:=kv (hB.ext b) d (by decide) g;have hW:=kv (hy.ext b) d (by decide) g;have hh:=kv (n.ext b) d (by decide) g;have z:=q.grown g q.size (fun k hk=>d.ge k hk);have hm:Own w4 w.heap.size 89 3 v2 (t'[k]++[E]).length ((t'[k]++[E]).flatMap kX):=by rw[jP,fu];simpa using h
      have ki:=(ht.below b).app hlt hY.out hm g hc;have kx:Hid (GG l k ((l.drop (8*k)).take (j+1)) (t'.set k (t'[k]++[E]))):=Lib.hid (by
       have:=hq.out.set (h2:=(l.drop (8*k)).take (j+1)) hlt;have e:t'[k]++[E]=(l.drop (8*k)).take (j+1):=by rw[ky.out,hq.out.at' hlt]
       rw[e];exact this)
      have hZ:=ht.sz;have hG:∀u∈[v2],u.oneCell' = true:=by obtain⟨_,_,rfl,_⟩:=h.rd;intro u hu;cases bv.1 hu;rfl
      have kf:(v2.cells.toList:List Value)=[v2]:=by obtain⟨_,_,rfl,_⟩:=h.rd;rfl
      clear q d h hm hc g b hy n hB ht hq ha h3 hf yrd10
      go_wp2_with (refine aD rfl _ (.tmp 45) (.tmp 44) rfl (w.heap.size+2) k _ [v2] rfl rfl kf _ _ hA (by rw[hZ];exact hlt) slent_size hG ?_)
      intro w5 kb c;rw[Pw.putAt_one] at kb;have hI:=ki.keep hA (by decide) c;have kn:=bu hW hA (by decide) c;have hF:aA w5 (w.heap.size+1) _ _:=hh.grown c (fun e=>by have:=aJ e;omega);have x:=z.grown c z.size (fun k hk=>by cases hk;omega);clear hA hW hh z ki c;go_wp2;go_roundw
      case rel=>exact⟨j+1,_,_,by omega,by go_num,x,kn,hF,kb,hI,kx⟩
      case measure=>simp[intOf];omega
     obtain rfl:j=8:=by omega
     have hH:Hid (GG l (k+1) [] t'):=Lib.hid (GG.next (by rw[p.out];exact hq.out) hlt);go_wp2;go_roundw
     case rel=>exact⟨k+1,ca',t',by omega,by go_num,hf,hy,n,hB,ht,hH⟩
     case measure=>simp[intOf];omega
  obtain rfl:k=8:=by omega
  have hC:=hT.out.fin;have ka:=hO.rd.one;have hz:=hO.sz;rw[hC] at hO;clear hC
  go_wp2_with (first | (refine gJ rfl 53 (.tmp 3) rfl (w.heap.size+2) 0 rfl ca.toList ho.rd _ underlying53 tab_agg (by rw[iO,hz];exact tab_size) ?_) | (refine ay rfl _ (.tmp 2) (.tmp 47) rfl (w.heap.size+1) ca rfl rfl _ _ m (by rw[hz];rfl) (by rw[hz];exact tab_size) ka ?_))
  intro w5 kp c;have hI:=hO.keep m (by decide) c;have x:Below w.heap.size w w5:=hp.grown c hp.size (fun k hk=>by cases hk;omega);go_wp2;refine bodyPost_ret (v:=.agg ca) (eO results36 _ _ (w.heap.size+1) _ _ _ rfl kp underlying53 rfl (by rw[hz];exact tab_size)) rfl ?_;exact⟨_,rfl,hI,x⟩
theorem JF (t e:TypeId) (z:Value) (size bytes:Nat) (ht:P.underlying t=some (.slice e)) (h2:(P.info? e).map (fun i=>(i.zero,i.size,i.bytes))=some (some z,size,bytes)) (kl kc:IntKind) (n:Nat) (b2:bytes*n≤281474976710656) (b3:n≤9223372036854775807) (w:World) :
  (Instr.makeSlice t (.int kl (n:Int)) (.int kc (n:Int))).run P w = .ok (.slice (some ⟨w.heap.size,0,none⟩) n n) (w.alloc (.cells (madeCells z.cells (n*size)) e)):=by
 obtain⟨i,hi,a,hs,hb⟩:=info_parts h2;have b : (i.bytes:Int)*(n:Int)≤281474976710656:=by
  have h:((i.bytes*n:Nat):Int)≤281474976710656:=by rw[hb];omega
  rwa [Int.natCast_mul] at h
 have hr:=run_make (P:=P) w t e i z ht hi a kl kc n n (by omega) (tQ _) b (by omega);simp only[bX,hs] at hr;exact hr
theorem CO {α:Type} (enc:α→List Value) (x:α) (hsz:∀x,(enc x).length=sz) (hp:0<sz) (hz:z.toList=enc x) (hn:n≤maxLen) (hB:B≤g) (hk:aA w g (madeCells z (n*sz)) e) :
  Own w B e sz (.slice (some ⟨g,0,none⟩) n n) n ((List.replicate n x).flatMap enc):=
 ⟨by rw[Pw.flat_len enc sz hsz,jN],.inr ⟨g,0,n,_,rfl,hB,hk,az _,hn,by simp[size_madeCells],fun j u hj=>by rw[dZ,←uF,Gp enc sz hsz hp z x hz n];exact hj⟩⟩
theorem Vf (h:aA w g (madeCells z (n*8)) e) (h' : aA w g' (madeCells z (n' * 8)) e') (hne:Value.slice (some ⟨g,0,none⟩) n n ≠ .slice (some ⟨g',0,none⟩) n' n'):g≠g':=by
 intro e0;subst e0;have h2:some (Obj.cells (madeCells z (n*8)) e (0,0))=some (Obj.cells (madeCells z (n' * 8)) e' (0,0)):=h.symm.trans h';have h3:madeCells z (n*8)=madeCells z (n' * 8):=by injection h2 with h2;injection h2
 have h4:=congrArg Array.size h3;rw[size_madeCells,size_madeCells] at h4;obtain rfl:n=n':=by omega
 exact hne rfl
structure JM (W0:World) (B f s ct:Nat) (zf zs zp:Array Value) (L:Nat→Bool) (y:Nat→Value) (W:World):Prop where
 be:Below W0.heap.size W0 W
 k2:L 2=true→∃g,y 2 = .slice (some ⟨g,0,none⟩) f f∧B≤g∧aA W g (madeCells zf (f*13)) 81
 k5:L 5=true→∃g,y 5 = .slice (some ⟨g,0,none⟩) s s∧B≤g∧aA W g (madeCells zs (s*1)) 3
 k7:L 7=true→∃g,y 7 = .slice (some ⟨g,0,none⟩) s s∧B≤g∧aA W g (madeCells zp (s*8)) 79
 k10:L 10=true→∃g,y 10 = .slice (some ⟨g,0,none⟩) ct ct∧B≤g∧aA W g (madeCells zp (ct*8)) 79
 ne:L 7=true→L 10=true→y 7≠y 10
 k3:L 3=true→L 2=true∧y 3 = .agg #[y 2,.int .i64 0]
 k8:L 8=true→L 7=true∧y 8 = .agg #[y 7,.slice none 0 0]
 k11:L 11=true→L 10=true∧y 11 = .agg #[y 10,.slice none 0 0]
 k14:L 14=true→(L 3=true∧L 5=true∧L 8=true∧L 11=true)∧y 14 = .agg #[y 2,.int .i64 0,y 5,y 7,.slice none 0 0,y 10,.slice none 0 0,.slice none 0 0,.int .i64 ct,.slice none 0 0,.slice none 0 0]
theorem tN :∀L y W W',Below W.heap.size W W'→JM W0 B f s ct zf zs zp L y W→JM W0 B f s ct zf zs zp L y W':=fun _ _ _ _ hb h=>
 ⟨ae h.be hb,fun e=>by obtain⟨g,a,b,c⟩:=h.k2 e;exact⟨g,a,b,c.ext hb⟩,fun e=>by obtain⟨g,a,b,c⟩:=h.k5 e;exact⟨g,a,b,c.ext hb⟩,fun e=>by obtain⟨g,a,b,c⟩:=h.k7 e;exact⟨g,a,b,c.ext hb⟩,fun e=>by obtain⟨g,a,b,c⟩:=h.k10 e;exact⟨g,a,b,c.ext hb⟩,h.ne,h.k3,h.k8,h.k11,h.k14⟩
theorem Xz (y:Nat→Value):JM W0 B f s ct zf zs zp (fun _=>false) y W0:=
 ⟨Below.refl _ _,fun e=>(by cases e),fun e=>(by cases e),fun e=>(by cases e),fun e=>(by cases e),fun e=>(by cases e),fun e=>(by cases e),fun e=>(by cases e),fun e=>(by cases e),fun e=>(by cases e)⟩
theorem zO (hi:i≠2∧i≠5∧i≠7∧i≠10∧i≠3∧i≠8∧i≠11∧i≠14) (h:JM W0 B f s ct zf zs zp L y W):JM W0 B f s ct zf zs zp (bY L i) (dB y i v) W:=by
 have e:∀k,k≠i→bY L i k=L k∧dB y i v k=y k:=fun k hk=>⟨by unfold bY;rw[if_neg hk],by unfold dB;rw[if_neg hk]⟩;have e2:=e 2 (by omega);have e5:=e 5 (by omega);have e7:=e 7 (by omega);have e10:=e 10 (by omega);have e3:=e 3 (by omega);have e8:=e 8 (by omega);have e11:=e 11 (by omega);have e14:=e 14 (by omega);refine⟨h.be,?_,?_,?_,?_,?_,?_,?_,?_,?_⟩
 ·rw[e2.1,e2.2];exact h.k2
 ·rw[e5.1,e5.2];exact h.k5
 ·rw[e7.1,e7.2];exact h.k7
 ·rw[e10.1,e10.2];exact h.k10
 ·rw[e7.1,e7.2,e10.1,e10.2];exact h.ne
 ·rw[e3.1,e3.2,e2.1,e2.2];exact h.k3
 ·rw[e8.1,e8.2,e7.1,e7.2];exact h.k8
 ·rw[e11.1,e11.2,e10.1,e10.2];exact h.k11
 ·rw[e14.1,e14.2,e3.1,e5.1,e8.1,e11.1,e2.2,e5.2,e7.2,e10.2];exact h.k14
theorem oo {p:Prop} (h:L i=false) (h' : L i=true):p:=by rw[h] at h'; cases h'
theorem XC (hi:L 2=false) (hB:B≤W0.heap.size) (h0:JM W0 B f s ct zf zs zp L y W):JM W0 B f s ct zf zs zp (bY L 2) (dB y 2 (.slice (some ⟨W.heap.size,0,none⟩) f f)) (W.alloc (.cells (madeCells zf (f*13)) 81)):=by
 have h:=tN _ _ _ _ ((Below.refl W.heap.size W).alloc (az _) (.cells (madeCells zf (f*13)) 81)) h0;exact⟨h.be,fun _=>⟨_,rfl,aY hB h0.be.size,aA.new _ _ _⟩,h.k5,h.k7,h.k10,h.ne,fun e=>oo hi (h.k3 e).1,h.k8,h.k11,fun e=>oo hi (h.k3 (h.k14 e).1.1).1⟩
theorem XE (hi:L 5=false) (hB:B≤W0.heap.size) (h0:JM W0 B f s ct zf zs zp L y W):JM W0 B f s ct zf zs zp (bY L 5) (dB y 5 (.slice (some ⟨W.heap.size,0,none⟩) s s)) (W.alloc (.cells (madeCells zs (s*1)) 3)):=by
 have h:=tN _ _ _ _ ((Below.refl W.heap.size W).alloc (az _) (.cells (madeCells zs (s*1)) 3)) h0;exact⟨h.be,h.k2,fun _=>⟨_,rfl,aY hB h0.be.size,aA.new _ _ _⟩,h.k7,h.k10,h.ne,h.k3,h.k8,h.k11,fun e=>oo hi (h.k14 e).1.2.1⟩
theorem Xu (hi:L 7=false) (hB:B≤W0.heap.size) (h0:JM W0 B f s ct zf zs zp L y W):JM W0 B f s ct zf zs zp (bY L 7) (dB y 7 (.slice (some ⟨W.heap.size,0,none⟩) s s)) (W.alloc (.cells (madeCells zp (s*8)) 79)):=by
 have h:=tN _ _ _ _ ((Below.refl W.heap.size W).alloc (az _) (.cells (madeCells zp (s*8)) 79)) h0;refine⟨h.be,h.k2,h.k5,fun _=>⟨_,rfl,aY hB h0.be.size,aA.new _ _ _⟩,h.k10,fun _ e => ?_,h.k3,fun e=>oo hi (h.k8 e).1,h.k11,fun e=>oo hi (h.k8 (h.k14 e).1.2.2.1).1⟩;obtain⟨g,e1,_,e2⟩:=h0.k10 e;show Value.slice _ s s≠y 10;rw[e1];intro e3;simp only[mi,jg,vJ] at e3;have:=e2.lt;omega
theorem Xk (hi:L 10=false) (hB:B≤W0.heap.size) (h0:JM W0 B f s ct zf zs zp L y W):JM W0 B f s ct zf zs zp (bY L 10) (dB y 10 (.slice (some ⟨W.heap.size,0,none⟩) ct ct)) (W.alloc (.cells (madeCells zp (ct*8)) 79)):=by
 have h:=tN _ _ _ _ ((Below.refl W.heap.size W).alloc (az _) (.cells (madeCells zp (ct*8)) 79)) h0;refine⟨h.be,h.k2,h.k5,h.k7,fun _=>⟨_,rfl,aY hB h0.be.size,aA.new _ _ _⟩,fun e _ => ?_,h.k3,h.k8,fun e=>oo hi (h.k11 e).1,fun e=>oo hi (h.k11 (h.k14 e).1.2.2.2).1⟩;obtain⟨g,e1,_,e2⟩:=h0.k7 e;show y 7≠Value.slice _ ct ct;rw[e1];intro e3;simp only[mi,jg,vJ] at e3;have:=e2.lt;omega
theorem XG (hi:L 3=false) (hd:L 2=true) (h:JM W0 B f s ct zf zs zp L y W):JM W0 B f s ct zf zs zp (bY L 3) (dB y 3 (.agg #[y 2,.int .i64 0])) W:=
 ⟨h.be,h.k2,h.k5,h.k7,h.k10,h.ne,fun _=>⟨hd,rfl⟩,h.k8,h.k11,fun e=>oo hi (h.k14 e).1.1⟩
theorem Xx (hi:L 8=false) (hd:L 7=true) (h:JM W0 B f s ct zf zs zp L y W):JM W0 B f s ct zf zs zp (bY L 8) (dB y 8 (.agg #[y 7,.slice none 0 0])) W:=
 ⟨h.be,h.k2,h.k5,h.k7,h.k10,h.ne,h.k3,fun _=>⟨hd,rfl⟩,h.k11,fun e=>oo hi (h.k14 e).1.2.2.1⟩
theorem Xp (hi:L 11=false) (hd:L 10=true) (h:JM W0 B f s ct zf zs zp L y W):JM W0 B f s ct zf zs zp (bY L 11) (dB y 11 (.agg #[y 10,.slice none 0 0])) W:=
 ⟨h.be,h.k2,h.k5,h.k7,h.k10,h.ne,h.k3,h.k8,fun _=>⟨hd,rfl⟩,fun e=>oo hi (h.k14 e).1.2.2.2⟩
theorem Xg (h3:L 3=true) (h5:L 5=true) (h8:L 8=true) (h11:L 11=true) (h:JM W0 B f s ct zf zs zp L y W) :
  JM W0 B f s ct zf zs zp (bY L 14) (dB y 14 (.agg #[y 2,.int .i64 0,y 5,y 7,.slice none 0 0,y 10,.slice none 0 0,.slice none 0 0,.int .i64 ct,.slice none 0 0,.slice none 0 0])) W:=
 ⟨h.be,h.k2,h.k5,h.k7,h.k10,h.ne,h.k3,h.k8,h.k11,fun _=>⟨⟨h3,h5,h8,h11⟩,rfl⟩⟩
def Vw (gf gs gw gd f s ct:Nat):MH:=⟨some ⟨gf,0,none⟩,f,⟨List.replicate f fr0,0⟩,some ⟨gs,0,none⟩,s,List.replicate s 0,some ⟨gw,0,none⟩,s,none,0,⟨List.replicate s zPg,[]⟩,some ⟨gd,0,none⟩,ct,none,0,⟨List.replicate ct zPg,[]⟩,none,0,[],ct,none,0,[],none,0,[]⟩
theorem Ut {l:List UInt8} (hr:ui w al cl l.length (l.map mQ)) (ha:∀a,al=some a→l.map mQ≠[]→a.block<B) (hB:B≤b) (hk:aA w b (ja ⟨al,cl,l,Vw gf gs gw gd f s ct,none,0,[]⟩) 77)
 (hf:f≤40) (hs:s≤60) (hc:ct≤80) (b1:B≤gf) (b2:B≤gs) (b3:B≤gw) (b4:B≤gd) (hne:gw≠gd) (ef:zf.toList=qz fr0) (es:zs.toList=[gB 0]) (ep:zp.toList=BC zPg)
 (k1:aA w gf (madeCells zf (f*13)) 81) (k2:aA w gs (madeCells zs (s*1)) 3) (k3:aA w gw (madeCells zp (s*8)) 79) (k4:aA w gd (madeCells zp (ct*8)) 79):eD w B b ⟨al,cl,l,Vw gf gs gw gd f s ct,none,0,[]⟩:=by
 have m:maxLen=maxLen:=rfl;have o1:=CO qz fr0 (n:=f) eZ (by decide) ef (by unfold maxLen;omega) b1 k1;have o2:=CO (fun x=>[gB x]) (0:Int) (n:=s) (fun _=>rfl) (by decide) es (by unfold maxLen;omega) b2 k2;have o3:=CO BC zPg (n:=s) kC (by decide) ep (by unfold maxLen;omega) b3 k3;have o4:=CO BC zPg (n:=ct) kC (by decide) ep (by unfold maxLen;omega) b4 k4;refine⟨hk,hB,⟨?_,?_,⟨?_,Own.nil _ _ _ _⟩,⟨?_,Own.nil _ _ _ _⟩,nM.nil _ _,Own.nil _ _ _ _,Own.nil _ _ _ _,fun p hp=>(by cases hp),by show (-9223372036854775808:Int)≤(ct:Int)∧(ct:Int)≤9223372036854775807;omega⟩,Own.nil _ _ _ _,hr,ha,?_,fun p hp=>(by cases hp),rfl⟩
 ·show Own w B _ 13 (.slice (some ⟨gf,0,none⟩) (List.replicate f fr0).length f) (List.replicate f fr0).length _;rw[jN];exact o1
 ·show Own w B _ 1 (.slice (some ⟨gs,0,none⟩) (List.replicate s (0:Int)).length s) (List.replicate s (0:Int)).length ((List.replicate s (0:Int)).map gB);rw[jN,←ji];exact o2
 ·show Own w B _ 8 (.slice (some ⟨gw,0,none⟩) (List.replicate s zPg).length s) (List.replicate s zPg).length _;rw[jN];exact o3
 ·show Own w B _ 8 (.slice (some ⟨gd,0,none⟩) (List.replicate ct zPg).length ct) (List.replicate ct zPg).length _;rw[jN];exact o4
 intro x hx hd;have e1:gw=x:=by simpa[Vw,oB,Value.ownBlock] using hx
 have e2:gd=x:=by simpa[Vw,oB,Value.ownBlock] using hd
 exact hne (e1.trans e2.symm)
def Bv (f q:Nat):List Fr:=List.replicate q frZ++List.replicate (f-q) fr0
theorem JH (h:q≤f):(Bv f q).length=f:=by unfold Bv;simp;omega
theorem UJ (h:q<f) (hl:q<(Bv f q).length):(Bv f q)[q]=fr0:=by
 have:(Bv f q)[q]?=some fr0:=by unfold Bv;rw[kT (by simp),jN,uh,oK,if_pos (by omega)]
 rw[aI hl] at this;exact aJ this
theorem Vq (h:q<f):(Bv f q).set q frZ=Bv f (q+1):=by
 unfold Bv;rw[List.set_append,if_neg (by simp),jN,uh];obtain⟨d,hd⟩:∃d,f-q=d+1:=⟨f-q-1,by omega⟩;rw[hd,show f-(q+1)=d by omega,List.replicate_succ,qO,List.replicate_succ',iw];rfl
theorem Vx (f:Nat):Bv f f=List.replicate f frZ:=by unfold Bv;simp
theorem UW {o:Nat} (hfit:o+13≤cur.size) (hc:∀j u,(qz fr0)[j]?=some u→cur[o+j]?=some u):bD cur (o+11) [.int .i64 (-1)]=bD cur o (qz frZ):=
 Hu (xs:=qz fr0) rfl hfit hc (by decide) (fun i hi=>by
  obtain rfl:i=0:=by simpa using hi
  rfl) (fun i hi=>by
  by_cases h13:i<13
  ·match i,h13,hi with
   | 0,_,_=>rfl
   | 1,_,_=>rfl
   | 2,_,_=>rfl
   | 3,_,_=>rfl
   | 4,_,_=>rfl
   | 5,_,_=>rfl
   | 6,_,_=>rfl
   | 7,_,_=>rfl
   | 8,_,_=>rfl
   | 9,_,_=>rfl
   | 10,_,_=>rfl
   | 11,_,h=>exact absurd h (by simp)
   | 12,_,_=>rfl
  ·rw[dJ (by rw[eZ];omega),dJ (by rw[eZ];omega)])
structure Jf (f s ct:Nat) (as0:Option Addr) (fi0:List PF) (bl:List Page) (q:List (Int × Page)) (S:MW):Prop where
 m:S.H.m=⟨List.replicate f frZ,0⟩
 asl:S.H.asl=as0
 sl:S.H.sl=List.replicate s 0
 sw:S.H.sw=⟨List.replicate s zPg,[]⟩
 dk:S.H.dk=⟨bl,q⟩
 fi:S.H.fi=fi0
 ct:S.H.ct=ct
 ca:S.H.ca=[]
 sp:S.H.sp=[]
 T:S.T=[]
theorem Jf.ma {q:List (Int × Page)} (h:Jf f s ct as0 fi0 bl q S):S.H.ma=BQ f s ct bl q (fi0.map PF.fi):=by
 unfold MH.ma BQ cZ;rw[h.m,h.sl,h.sw,h.dk,h.fi,h.ct,h.ca,h.sp];rfl
theorem Jf.lst {q:List (Int × Page)} (h:Jf f s ct as0 fi0 bl q S) (a:Option Addr) (c:Nat) (l:List UInt8):Jf f s ct as0 fi0 bl q (S.lst a c l):=⟨h.m,h.asl,h.sl,h.sw,h.dk,h.fi,h.ct,h.ca,h.sp,h.T⟩
theorem eD.kb_int (h:eD w B b S) {x:Nat} (hk:aA w x cs 3) (hx:oB S.H.asl≠some x):¬mR b S x:=by
 have own:∀ {e:TypeId} {sz n c:Nat} {a:Option Addr} {xs:List Value},3≠e→Own w B e sz (.slice a n c) n xs→oB a=some x→False:=fun ht ho hx=>by obtain⟨_,cs',h2⟩:=iV ho hx;exact mo hk h2 ht rfl
 intro hx';rcases hx' with hx' | hx'
 ·subst hx'; exact mo hk h.blk (by decide) rfl
 simp only[iA,bU,fZ,or_false] at hx';rcases hx' with hx' | hx' | hx' | hx' | hx' | hx' | hx' | hx' | hx'
 ·exact own (by decide) h.ma.fr hx'.symm
 ·exact hx hx'.symm
 ·exact own (by decide) h.ma.sw.b hx'.symm
 ·exact own (by decide) h.ma.dk.b hx'.symm
 ·exact own (by decide) h.ma.dk.q hx'.symm
 ·exact own (by decide) h.ma.st.own hx'.symm
 ·exact own (by decide) h.ma.ca hx'.symm
 ·exact own (by decide) h.ma.sp hx'.symm
 ·exact own (by decide) h.tt hx'.symm
theorem eD.locI (h:eD w B b S) (hk:aA w g cs 3) (hn:¬mR b S g) (hfi:∀p∈S.H.fi,oB p.a≠some g) (hgB:B≤g) (hg:w.grownBy w' (some g)):eD w' B b S:=by
 have d:∀ {a:Option Addr},oB a∈iA S→∀n c g',(Value.slice a n c).ownBlock=some g'→some g≠some g':=fun hm n c g' he e=>by cases e;rw[lM] at he;exact hn (.inr (by rw[←he];exact hm))
 exact⟨h.blk.grown hg (fun e=>hn (.inl (aJ e))),h.ge,⟨h.ma.fr.grown hg (d (by simp[iA]) _ _),h.ma.sl.grown hg (d (by simp[iA]) _ _),⟨h.ma.sw.b.grown hg (d (by simp[iA]) _ _),h.ma.sw.q.grown hg (fun g' he=>by rw[h.n3] at he;cases he)⟩,⟨h.ma.dk.b.grown hg (d (by simp[iA]) _ _),h.ma.dk.q.grown hg (d (by simp[iA]) _ _)⟩,
  ⟨h.ma.st.own.grown hg (d (by simp[iA]) _ _),fun i p hp=>(h.ma.st.each i p hp).grown hg (fun g' he e=>by cases e;unfold ng at he;rw[lM] at he;exact hfi p (bN hp) he),h.ma.st.apart⟩,h.ma.ca.grown hg (d (by simp[iA]) _ _),h.ma.sp.grown hg (d (by simp[iA]) _ _),fun p hp=>⟨ak (h.ma.ps p hp).1 hk (by decide) hg,(h.ma.ps p hp).2.keep hk (by decide) hg⟩,h.ma.c64⟩,
  h.tt.grown hg (d (by simp[iA]) _ _),h.rd.keep h.ra h.bs hg hgB,h.ra,h.n1,h.n2,h.n3⟩
theorem eD.setTb (h:eD w B b S) {P:PS} (hP:S.H.sp[p]?=some P) :
  ∃g off cur,S.H.ap=some ⟨g,off,none⟩∧B≤g∧aA w g cur 55∧off+p*10+2+8≤cur.size ∧
   ∀(w' : World) (v:Vector Value 8) (t:Tb),qZ w B (nG v) t→aA w' g (bD cur (off+p*10+2) (nG v).toList) 55→w.grownBy w' (some g)→eD w' B b { S with H:={ S.H with sp:=S.H.sp.set p { P with ts:=v,tb:=t } } }:=by
 have hp:=(dn.1 hP).1;have l:=(dn.1 hP).2;obtain⟨g,off,cap,cur,hv,hB,a,m,f⟩:=mF tT (by decide) rfl h.ma.sp p hp;simp only[mi] at hv;obtain⟨k,_,n⟩:=hv;have e:=h.ma.sp;rw[k] at e;have d:=BL e a;have i:∀j u,(uj P)[j]?=some u→cur[off+p*10+j]?=some u:=fun j u hj=>by rw[mY];exact d _ _ (flat_get uj 10 tT S.H.sp p hp j u (by rw[l];exact hj))
 refine⟨g,off,cur,k,hB,a,by omega,fun w' v t ht hb hg => ?_⟩;have e1:bD cur (off+p*10) (uj { P with ts:=v,tb:=t })=bD cur (off+p*10+2) (nG v).toList:=by show bD cur (off+p*10) (.bool P.lv :: .slice P.aa P.ar.length P.ac::(nG v).toList)=_;rw[vH _ (by simpa using i 0 _ rfl),vH _ (i 1 _ rfl)]
 rw[←e1] at hb;have c:(S.H.sp.set p { P with ts:=v,tb:=t }).length=S.H.sp.length:=bP;refine h.putP a hB hg c (by rw[c];exact f w' _ hb) fun q hq => ?_;rcases nu hq with hq|rfl
 ·exact h.ma.ps q hq
 ·exact⟨(h.ma.ps P (bN hP)).1,ht⟩
def Eg (S:MW) (B b:Nat) (w:World) (ks:List (Nat × Array Value × TypeId)) (p q:Nat) (e:TypeId) (sz n:Nat) (v0:Value) (old xs:List Value):(Nat→Bool)→(Nat→Value)→World→Prop:=fun L y W=>
 (aA W b (ja S) 77∧∀t∈ks,aA W t.1 t.2.1 t.2.2)∧(L p=false→eD W B b S∧MS w b S W S)∧(L q=true→L p=false→∃a c,y q = .slice a 1 c∧ui W a c 1 xs) ∧
 (L p=true→∃w1,eD w1 B b S∧MS w b S w1 S∧w1.grownBy W v0.ownBlock∧Own W B e sz (y p) (n+1) (old++xs)∧pE w1 v0 (y p))
theorem eX {ks:List (Nat × Array Value × TypeId)} :∀L y W W',Below W.heap.size W W'→Eg S B b w ks p q e sz n v0 old xs L y W→Eg S B b w ks p q e sz n v0 old xs L y W':=
 fun _ _ _ _ hb ⟨h1,h2,h3,h4⟩=>⟨⟨h1.1.ext hb,fun t ht=>(h1.2 t ht).ext hb⟩,fun e=>⟨(h2 e).1.below hb,(h2 e).2.below hb⟩,fun e1 e2=>by
  obtain⟨a,e,k1,k2⟩:=h3 e1 e2;exact⟨a,e,k1,k2.below hb⟩,fun e=>by
  obtain⟨w1,k1,k2,k3,k4,k5⟩:=h4 e;exact⟨w1,k1,k2,Lx k3 hb,k4.below hb,k5⟩⟩
theorem fK {ks:List (Nat × Array Value × TypeId)} (hi:i≠q∧i≠p) (h:Eg S B b w ks p q e sz n v0 old xs L y W):Eg S B b w ks p q e sz n v0 old xs (bY L i) (dB y i v) W:=by
 obtain⟨h1,h2,h3,h4⟩:=h;have e15:bY L i q=L q:=by unfold bY;rw[if_neg (fun e=>hi.1 e.symm)]
 have e16:bY L i p=L p:=by unfold bY;rw[if_neg (fun e=>hi.2 e.symm)]
 have y15:dB y i v q=y q:=by unfold dB;rw[if_neg (fun e=>hi.1 e.symm)]
 have y16:dB y i v p=y p:=by unfold dB;rw[if_neg (fun e=>hi.2 e.symm)]
 exact⟨h1,by rw[e16];exact h2,by rw[e15,e16,y15];exact h3,by rw[e16,y16];exact h4⟩
theorem RO {ks:List (Nat × Array Value × TypeId)} (hpq:p≠q) (hb:Below W.heap.size W W') (h:Eg S B b w ks p q e sz n v0 old xs L y W) (hr:ui W' a c 1 xs) :
  Eg S B b w ks p q e sz n v0 old xs (bY L q) (dB y q (.slice a 1 c)) W':=by
 obtain⟨h1,h2,h3,h4⟩:=eX _ _ _ _ hb h;have e16:bY L q p=L p:=by unfold bY;rw[if_neg hpq]
 have y16:dB y q (.slice a 1 c) p=y p:=by unfold dB;rw[if_neg hpq]
 exact⟨h1,by rw[e16];exact h2,fun _ _=>⟨a,c,by unfold dB;rw[if_pos rfl],hr⟩,by rw[e16,y16];exact h4⟩
theorem Sq {ks:List (Nat × Array Value × TypeId)} (hp:L p=false) (h:Eg S B b w ks p q e sz n v0 old xs L y W) (hg:W.grownBy W' v0.ownBlock)
 (hnb:∀g,v0.ownBlock=some g→g≠b∧∀t∈ks,t.1≠g) (ho:Own W' B e sz v (n+1) (old++xs)) (hs:pE W v0 v):Eg S B b w ks p q e sz n v0 old xs (bY L p) (dB y p v) W':=by
 obtain⟨h1,h2,h3,h4⟩:=h;refine⟨⟨h1.1.grown hg (fun e=>(hnb b e).1 rfl),fun t ht=>(h1.2 t ht).grown hg (fun e=>(hnb _ e).2 t ht rfl)⟩,fun e => ?_,fun _ e => ?_,fun _=>⟨W,(h2 hp).1,(h2 hp).2,hg,by unfold dB;rw[if_pos rfl];exact ho,by unfold dB;rw[if_pos rfl];exact hs⟩⟩<;>· unfold bY at e;rw[if_pos rfl] at e;cases e
theorem Ry {ks:List (Nat × Array Value × TypeId)} (h:eD w B b S) (hk:∀t∈ks,aA w t.1 t.2.1 t.2.2) (y:Nat→Value):Eg S B b w ks p q e sz n v0 old xs (fun _=>false) y w:=
 ⟨⟨h.blk,hk⟩,fun _=>⟨h,MS.refl _ _ _⟩,fun e=>(by cases e),fun e=>(by cases e)⟩
def FP (S:MW) (B b:Nat) (w:World) (gf:Nat) (F:PF):(Nat→Bool)→(Nat→Value)→World→Prop:=fun L y W=>
 (∃a c l,eD W B b (S.lst a c l)∧MS w b S W (S.lst a c l))∧aA W gf (pX F) 67∧Own W B 3 1 (ng F) F.l.length (F.l.map gB) ∧
 (L 4=true→L 11=false→∃g,y 4 = .slice (some ⟨g,0,none⟩) 0 0∧Own W w.heap.size 67 2 (.slice (some ⟨g,0,none⟩) 0 0) 0 []) ∧
 (L 11=true→L 14=false→Own W w.heap.size 67 2 (y 11) S.H.fi.length (S.H.fi.flatMap qF)) ∧
 (L 13=true→L 14=false→Own W w.heap.size 67 2 (y 13) 1 (qF F)) ∧
 (L 14=true→Own W w.heap.size 67 2 (y 14) (S.H.fi.length+1) (S.H.fi.flatMap qF++qF F))∧w.heap.size≤W.heap.size∧(L 15=true→L 14=true∧y 15 = .agg #[y 14,.int .i64 0])
theorem dN :∀L y W W',Below W.heap.size W W'→FP S B b w gf F L y W→FP S B b w gf F L y W':=
 fun _ _ _ _ hb ⟨⟨a,c,l,h1,h2⟩,h3,h4,h5,h6,h7,h8,h9,h10⟩=>⟨⟨a,c,l,h1.below hb,h2.below hb⟩,h3.ext hb,h4.below hb,fun e1 e2=>by obtain⟨g,k1,k2⟩:=h5 e1 e2;exact⟨g,k1,k2.below hb⟩,fun e1 e2=>(h6 e1 e2).below hb,fun e1 e2=>(h7 e1 e2).below hb,fun e1=>(h8 e1).below hb,aY h9 hb.size,h10⟩
theorem VB (h:eD w B b S) (hk:aA w gf (pX F) 67) (ho:Own w B 3 1 (ng F) F.l.length (F.l.map gB)) (y:Nat→Value):FP S B b w gf F (fun _=>false) y w:=
 ⟨⟨S.al,S.cl,S.l,h,MS.refl _ _ _⟩,hk,ho,fun e=>(by cases e),fun e=>(by cases e),fun e=>(by cases e),fun e=>(by cases e),az _,fun e=>(by cases e)⟩
theorem eP (hi:i≠4∧i≠11∧i≠13∧i≠14∧i≠15) (h:FP S B b w gf F L y W):FP S B b w gf F (bY L i) (dB y i v) W:=by
 have e:∀k,k=4∨k=11∨k=13∨k=14∨k=15→bY L i k=L k∧dB y i v k=y k:=fun k hk=>⟨by unfold bY;rw[if_neg (by omega)],by unfold dB;rw[if_neg (by omega)]⟩;have e4:=e 4 (by decide);have e11:=e 11 (by decide);have e13:=e 13 (by decide);have e14:=e 14 (by decide);have e15:=e 15 (by decide);unfold FP;rw[e4.1,e4.2,e11.1,e11.2,e13.1,e13.2,e14.1,e14.2,e15.1,e15.2];exact h
theorem Xm (h:FP S B b w gf F L y W):FP S B b w gf F (bY L 4) (dB y 4 (.slice (some ⟨W.heap.size,0,none⟩) 0 0)) (W.alloc (.cells #[] 67)):=by
 obtain⟨h1,h3,h4,h5,h6,h7,h8,h9,a⟩:=dN _ _ _ _ ((Below.refl _ _).alloc (az _) (.cells #[] 67)) h;exact⟨h1,h3,h4,fun _ _=>⟨_,rfl,Own.empty _ _ h.2.2.2.2.2.2.2.1⟩,h6,h7,h8,h9,a⟩
theorem Wx (h:FP S B b w gf F L y W) (hb:Below W.heap.size W W') (ho:Own W' w.heap.size 67 2 v S.H.fi.length (S.H.fi.flatMap qF)):FP S B b w gf F (bY L 11) (dB y 11 v) W':=by
 obtain⟨h1,h3,h4,h5,h6,h7,h8,h9,a⟩:=dN _ _ _ _ hb h;exact⟨h1,h3,h4,fun _ e=>(by cases e),fun _ _=>ho,h7,h8,h9,a⟩
theorem VL (h:FP S B b w gf F L y W) (hb:Below W.heap.size W W') (ho:Own W' w.heap.size 67 2 v 1 (qF F)):FP S B b w gf F (bY L 13) (dB y 13 v) W':=by
 obtain⟨h1,h3,h4,h5,h6,h7,h8,h9,a⟩:=dN _ _ _ _ hb h;exact⟨h1,h3,h4,h5,h6,fun _ _=>ho,h8,h9,a⟩
theorem OM (h:eD w B b S) {l:List UInt8} {x:Nat} (hx:w.heap.size≤x):¬mR b (S.lst a c l) x:=fun hk=>h.new hx hk
theorem Wl (h0:eD w B b S) (hgf:gf<w.heap.size) (h:FP S B b w gf F L y W) (h11:L 11=true) (h14:L 14=false) (hg:W.grownBy W' (y 11).ownBlock) (ho:Own W' w.heap.size 67 2 v (S.H.fi.length+1) (S.H.fi.flatMap qF++qF F)) :
  FP S B b w gf F (bY L 14) (dB y 14 v) W':=by
 obtain⟨⟨a,c,l,h1,h2⟩,h3,h4,h5,h6,h7,h8,h9,i⟩:=h;have o11:=h6 h11 h14;have d:∀k,(y 11).ownBlock=some k→w.heap.size≤k:=fun k hk=>o11.ge k hk;refine⟨⟨a,c,l,?_,?_⟩,h3.grown hg (fun e=>by have:=d _ e;omega),?_,fun _ e=>(by rw[show bY L 14 11=L 11 from rfl,h11] at e;cases e),fun _ e=>(by cases e),fun _ e=>(by cases e),fun _=>ho,aY h9 hg.size,fun e=>oo h14 (i e).1⟩
 ·cases hk:(y 11).ownBlock with
  | none=>rw[hk] at hg;exact h1.below (ku hg)
  | some g=>
   rw[hk] at hg;obtain⟨cs,f⟩:=kW o11 g hk;exact h1.locT f (by decide) (OM h0 (d g hk)) (aY h0.bs (d g hk)) hg
 ·cases hk:(y 11).ownBlock with
  | none=>rw[hk] at hg;exact h2.below (ku hg)
  | some g=>rw[hk] at hg;exact h2.loc hg (d g hk)
 cases hk:(y 11).ownBlock with
 | none=>rw[hk] at hg;exact h4.below (ku hg)
 | some g=>
  rw[hk] at hg;obtain⟨cs,f⟩:=kW o11 g hk;exact ak h4 f (by decide) hg
theorem Sd (hi:i≠4∧i≠11∧i≠13∧i≠14∧i≠15) (h0:eD w B b S) (hgf:¬mR b S gf) (hxa:∀x,(ng F).ownBlock=some x→¬mR b S x) (n:Int) (hn : -9223372036854775808≤n∧n≤9223372036854775807) (h:FP S B b w gf F L y W) {R:Value→World→Prop} (hR:∀x:Int,0≤x→x<256→∀W',R (.int .i64 x) W') :
  Calls Tryz.prog 30 #[.pointer (some ⟨b,0,none⟩),.int .i64 n] W fun e W' => ∃v,e = .returned v∧FP S B b w gf F (bY L i) (dB y i v) W'∧R v W':=by
 obtain⟨⟨a,c,l,h1,h2⟩,h3,h4,h5,h6,h7,h8,h9,f⟩:=h;refine (fD _ n B b W h1 hn).mono ?_;rintro r W' ⟨x,a',c',l',rfl,k1,k2,k3,_⟩;have d:∀ {e:TypeId} {sz n:Nat} {v:Value} {xs:List Value},Own W w.heap.size e sz v n xs→Own W' w.heap.size e sz v n xs:=fun ho=>k2.ownN ho fun x hx=>OM h0 (ho.ge x hx);refine⟨_,rfl,eP hi ⟨⟨a',c',l',k1,h2.trans k2⟩,k2.blkN h3 hgf,k2.ownN h4 hxa,fun e1 e2 => ?_,fun e1 e2=>d (h6 e1 e2),fun e1 e2=>d (h7 e1 e2),fun e1=>d (h8 e1),aY h9 k2.size,f⟩,hR x k3.1 k3.2.1 W'⟩;obtain⟨g,e3,e4⟩:=h5 e1 e2;exact⟨g,e3,d e4⟩
theorem VT (hd:L 14=true) (h:FP S B b w gf F L y W):FP S B b w gf F (bY L 15) (dB y 15 (.agg #[y 14,.int .i64 0])) W:=by
 obtain⟨h1,h3,h4,h5,h6,h7,h8,h9,a⟩:=h;exact⟨h1,h3,h4,h5,h6,h7,h8,h9,fun _=>⟨hd,rfl⟩⟩
theorem UG (hB:B≤w.heap.size) (F:PF):Own (w.alloc (.cells (pX F) 67)) B 67 2 (.slice (some ⟨w.heap.size,0,none⟩) 1 1) 1 (qF F):=
 ⟨rfl,.inr ⟨w.heap.size,0,1,_,rfl,hB,aA.new _ _ _,az _,by unfold maxLen;omega,az _,fun j u hj=>by rw[dZ,←uF];exact hj⟩⟩
theorem NS (h:FP S B b w gf F L y W) (h14:L 14=true):∃a c,y 14 = .slice a (S.H.fi++[F]).length c∧Mh W a c (S.H.fi++[F]):=by
 obtain⟨⟨a,c,l,h1,h2⟩,h3,h4,h5,h6,h7,h8,h9,d⟩:=h;obtain⟨a',c',e,k1,k2,k3,k4⟩:=(h8 h14).rd;have hl:(S.H.fi++[F]).length=S.H.fi.length+1:=by simp
 refine⟨a',c',by rw[hl];exact e,by rw[hl];exact k1,k2,k3,by rw[fu];simpa using k4,fun p hp => ?_⟩;rcases fV.1 hp with hp|hp
 ·exact h1.ma.rd.st.good p hp
 rw[bv.1 hp];obtain⟨a9,c9,e9,q1,q2,q3,q4⟩:=h4.rd;unfold ng at e9;injection e9 with e9 e10 e11;subst e9;subst e11;exact⟨q1,q2,q3,q4⟩
theorem Xj {t:List En} (h:t.length=64):tL t=t.flatMap kX:=by
 have e:(List.range 64).map (fun i=>t.getD i zEn)=t:=by
  apply lU;intro i;rw[iU]
  by_cases hi:i<64
  ·rw[sQ hi,aI (by omega)];show some (t.getD i zEn)=_;rw[aV,aI (by omega)];rfl
  ·rw[dJ (by rw[CK];omega),dJ (by omega)];rfl
 unfold tL;rw[←CX (f:=fun i=>t.getD i zEn) (g:=kX),e]
end Go.Proofs.YtjkkoeijlhfneaaGreat