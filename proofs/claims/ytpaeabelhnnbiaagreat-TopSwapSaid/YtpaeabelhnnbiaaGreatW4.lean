import Derived.Test.YtpaeabelhnnbiaaGreatW3
import Derived.BigRegion
import Derived.Deep.LoopGhost
set_option linter.unusedSimpArgs false
set_option linter.unusedVariables false
set_option maxHeartbeats 4000000
set_option maxRecDepth 100000
namespace Go.Proofs.YtpaeabelhnnbiaaGreat
open _root_.Go.Proofs.Tryz
open Go.RowKit Go.Maps Pw
variable {B F b c f g j p q:Nat} {H H' H0:MH} {M m m' m1:Ma} {a:Option Addr} {cs cur:Array Value} {d:sK} {kd n:Int} {ps:List PF} {s s':St} {v:Value} {vs:List Value} {w w' w0 w1:World} {z:Fr}
theorem jf.frame {e:Int} (h:jf w B b H e) (hf:f<H.m.fs.length) :
  ∃g off cur,H.af=some ⟨g,off,none⟩∧B≤g∧aJ w g cur 132∧off+f*13+13≤cur.size∧eB w (some ⟨g,off+f*13,none⟩) (oH (aD H.ma f))∧(∀j u,(oH (aD H.ma f))[j]?=some u→cur[off+f*13+j]?=some u)∧b≠g ∧
   ∀(w' : World) (x:Fr),aJ w' g (dF cur (off+f*13) (oH x)) 132→w.grownBy w' (some g)→jf w' B b { H with m:=⟨H.m.fs.set f x,H.m.hand⟩ } e:=by
 have r:H.m.fs[f]=aD H.ma f:=by have:H.m.fs[f]?=some (aD H.ma f):=rZ (m:=H.ma) (f:=f) hf;rw[aN hf] at this;exact aS this
 obtain⟨g,off,cap,cur,hv,hB,a,l,i⟩:=oM iO (by decide) rfl h.ma.fr f hf;simp only[lH] at hv;obtain⟨p,_,s⟩:=hv;have k:=h.ma.fr;rw[p] at k;have d:=zJ k a;have o:∀j u,(oH (aD H.ma f))[j]?=some u→cur[off+f*13+j]?=some u:=fun j u hj=>by rw[oQ];exact d _ _ (flat_get oH 13 iO H.m.fs f hf j u (by rw[r];exact hj))
 have n:b≠g:=fun e=>by have h1:=h.blk;subst e;unfold aJ at h1 a;rw[h1] at a;simp only[gY,pM] at a;exact absurd a.2.1 (by decide)
 refine⟨g,off,cur,p,hB,a,l,fun j u hj=>⟨g,_,rfl,by rw[a.cell];exact o j u hj⟩,o,n,fun w' x hb hg => ?_⟩;have c:(H.m.fs.set f x).length=H.m.fs.length:=dM;refine⟨?_,h.ge,⟨?_,ay h.ma.sl a (by decide) hg,h.ma.sw.keep a (by decide) (by decide) hg,h.ma.dk.keep a (by decide) (by decide) hg,h.ma.st.keep a (by decide) (by decide) hg,ay h.ma.ca a (by decide) hg,ay h.ma.sp a (by decide) hg,fun q hq=>⟨ay (h.ma.ps q hq).1 a (by decide) hg,(h.ma.ps q hq).2.keep a (by decide) hg⟩,h.ma.c64⟩,h.tz⟩
 ·have:nC { H with m:=⟨H.m.fs.set f x,H.m.hand⟩ } e=nC H e:=by unfold nC;simp only[c]
  rw[this];exact h.blk.grown hg (fun e=>n (aS e).symm)
 simp only[c];exact i w' _ hb
theorem putAt_one {o:Nat}:∀ {vs:List Value} {j:Nat} {v:Value},(∀i u,vs[i]?=some u→cur[o+i]?=some u)→j<vs.length→dF cur o (vs.set j v)=cur.setIfInBounds (o+j) v:=by
 intro vs j v b hj;apply oO;intro i;rw[za];have a:∀k,k<vs.length→o+k<cur.size:=fun k hk=>(gN.1 (b k _ (aN hk))).1
 by_cases h1:i<o∨o+vs.length≤i
 ·rw[putAt_out _ _ _ _ (by rw[dM];omega),if_neg (by omega)]
 have hi:i-o<vs.length:=by omega
 have:=putAt_in (vs.set j v) cur o (i-o) ((vs.set j v)[i-o]'(by rw[dM];exact hi)) (by rw[dM];have:=a (vs.length-1) (by omega);omega) (aN _);rw[show o+(i-o)=i by omega] at this;rw[this,BG]
 by_cases e:j=i-o
 ·rw[if_pos e,if_pos (by omega),if_pos (by have:=a j hj;omega)]
 rw[if_neg e,if_neg (by omega)];have:=b (i-o) _ (aN hi);rw[show o+(i-o)=i by omega] at this;exact this.symm
theorem Hm (s:St) (f i:Int):(dL s f i).count=s.count∨(dL s f i).count=0:=by
 unfold dL;split
 ·exact .inr rfl
 split
 ·exact .inl rfl
 ·exact .inl rfl
theorem Rh {o:Nat} (m:World→Prop) (h:∀W,w.grownBy W (some b)→(∀ {cur T},aJ w b cur T→aJ W b (dF cur o vs) T)→m W):m (w.setCells b o vs).drew:=by
 have h1:=aA w b o vs;exact h _ ⟨h1.os,h1.tape,h1.output,h1.size,h1.block⟩ fun hb=>hb.setCells vs o
theorem uR : (Tryz.prog.info? 4).map (·.size)=some 1:=by kernel_rfl
def Ov (B:Nat) (S:St) (N E:Int):nG:=⟨fun v w => ∃u ps k,v = .tuple #[.agg #[u,.int .i64 k],.int .i64 N,.int .i64 E]∧oz w B u ps∧bJ ps k=S,fun _ _ _ hb ⟨u,ps,k,h1,h2,h3⟩=>⟨u,ps,k,h1,h2.below hb,h3⟩⟩
def AU (B:Nat) (d:sK) (E:Int):nG:=⟨fun v w => ∃a b,v = .tuple #[.agg #[a,b],.int .i64 E]∧kw w B a b d,fun _ _ _ hb ⟨a,b,h1,h2⟩=>⟨a,b,h1,h2.below hb⟩⟩
theorem Ld (H:MH) (e:Int) (f:Nat) (B b:Nat) (w:World) (h:jf w B b H e) (hf:f<H.m.fs.length) :
  Calls Tryz.prog 129 #[.pointer (some ⟨b,0,none⟩),.int .i64 f] w fun r w'=>r = .returned (.bool (ja H.ma f))∧KR w B b H w' (jB ⟨H.ma,e⟩ f):=by
 obtain⟨g,off,cur,h2,gc,hi,kW,kx,hG,gb,kh⟩:=h.frame hf;generalize hx:aD H.ma f=x at *
 have hg:=ae hx;clear hx kh;have hc:=h.blk.cell;unfold nC at hc;rw[h2] at hc;have ga:(f:Int)<(H.m.fs.length:Int):=by omega
 have q10:cur[off+f*13+10]?=some (.bool x.d):=hG 10 _ rfl;have q11:cur[off+f*13+11]?=some (.int .i64 x.f):=hG 11 _ rfl;have q12:cur[off+f*13+12]?=some (.int .i64 x.i):=hG 12 _ rfl;have kC:=hi.cell;have kA:=hi.free;have kY:=ae hG;clear hG;go_enter func129,ntmps129
 by_cases h1:x.f<0
 ·have hq:Hid (jB ⟨H.ma,e⟩ f=⟨H.ma,e⟩):=ae (by unfold jB;simp only[hg.out];rw[if_pos (.inl h1)]);have hl:Hid (ja H.ma f=true):=ae (by unfold ja;rw[hg.out];simp[h1]);have hh:=ae h;clear h;go_wp2;go_ret;rw[hq.out,hl.out];exact⟨rfl,_,_,hh.out,KS.refl _ _ _,rfl⟩
 cases hd:x.d with
 | false=>
  have hq:Hid (jB ⟨H.ma,e⟩ f=⟨H.ma,e⟩):=ae (by unfold jB;simp only[hg.out];rw[if_pos (.inr (.inl hd))]);have hl:Hid (ja H.ma f=true):=ae (by unfold ja;rw[hg.out,hd];simp);rw[hd] at q10;have hh:=ae h;clear h;go_wp2;go_ret;rw[hq.out,hl.out];exact⟨rfl,_,_,hh.out,KS.refl _ _ _,rfl⟩
 | true=>
  rw[hd] at q10;go_upto_region 4 with (fail);have hm:=ae h;refine gH 22 [_,_,_,_,_,_,_,_,_,_,_,_,_,.r 13 ((Ov w.heap.size (dL H.ma.st x.f x.i) (dR H.ma.st x.f x.i) (bZ H.ma.st x.f x.i))),.r 14 ((Ov w.heap.size (dL H.ma.st x.f x.i) (dR H.ma.st x.f x.i) (bZ H.ma.st x.f x.i))),.r 15 ((Lt w.heap.size (dL H.ma.st x.f x.i))),.v (.int .i64 (dR H.ma.st x.f x.i)),.v (.int .i64 (bZ H.ma.st x.f x.i)),.r 18 ((eO w.heap.size 40 2)),.y 19 ((IJ 18 w.heap.size 40 (Lt w.heap.size (dL H.ma.st x.f x.i)))),.v (.int .i64 (dR H.ma.st x.f x.i)),.v (.int .i64 (bZ H.ma.st x.f x.i))] (fun W=>Below w.heap.size w W) bA (Below.refl _ _) (Yk bA rfl (Yk bA rfl (Yf bA b 0 rfl rfl (Yf bA b 7 rfl rfl (Yr bA (.agg #[.slice H.ai H.fi.length H.ci,.int .i64 H.ct]) (fun ρ y W hb hH=>(bG rfl (aU rfl hH) (h.below hb).rdS underlying40 rfl store_size)) rfl rfl (Yk bA rfl (Yk bA rfl (Yf bA g (off+f*13+11) rfl rfl (Yc bA (.int .i64 x.f) (fun W hb=>by simp[(hi.ext hb).cell,q11]) rfl rfl rfl rfl (Yk bA rfl (Yk bA rfl (Yf bA g (off+f*13+12) rfl rfl (Yc bA (.int .i64 x.i) (fun W hb=>by simp[(hi.ext hb).cell,q12]) rfl rfl rfl rfl (aj ?_ (aj ?_ (aj ?_ (aj ?_ (aj ?_ (aj ?_ (aj ?_ (Yk bA rfl (Yk bA rfl (aF))))))))))))))))))))))) (fun _=>rfl) rfl ?_
  ·intro ρ y W hw hn hb hd;refine eP bA hb ((Ov w.heap.size (dL H.ma.st x.f x.i) (dR H.ma.st x.f x.i) (bZ H.ma.st x.f x.i))) (fun _ _ h=>h) ?_;have kT:=hw 35 4 rfl;have h4:y 4 = .agg #[.slice H.ai H.fi.length H.ci,.int .i64 H.ct]:=hd 4 rfl;have kS:=hw 39 8 rfl;have h8:y 8 = .int .i64 x.f:=hd 8 rfl;have kR:=hw 43 12 rfl;have h3:y 12 = .int .i64 x.i:=hd 12 rfl;have EF:∀f,ρ (.func f) = .func (.func f) #[] #[]:=fun f=>hn (.func f) trivial;refine aK _ _ (ag rfl) (aQ rfl (EF _) func177 (by kernel_rfl) (by kernel_rfl) (by simp only[bT,bF,bI,kT,h4,kS,h8,kR,h3,EF];rfl)) ?_;refine (Kq H.fi H.ct x.f x.i H.ai H.ci W (h.below hb).ma.rd.st h.ma.c64).mono ?_;rintro r W2 ⟨u,ps,k,rfl,ho,hB,kF⟩;exact⟨_,rfl,kF,u,ps,k,rfl,ho.mono hb.size,hB⟩
  ·intro ρ y W hw hn hb hd;refine eP bA hb ((Ov w.heap.size (dL H.ma.st x.f x.i) (dR H.ma.st x.f x.i) (bZ H.ma.st x.f x.i))) (fun _ _ h=>h) ?_;have kQ:=hw 44 13 rfl;have kI:=hd 13 rfl;refine ak _ (ag rfl) (run_move (.inl rfl) kQ) ?_;exact kI
  ·intro ρ y W hw hn hb hd;refine eP bA hb ((Lt w.heap.size (dL H.ma.st x.f x.i))) (fun _ _ h=>h) ?_;have hI:=hw 30 14 rfl;have hp:=hd 14 rfl;obtain⟨u,ps,k,hu,ho,hB⟩:=hp;refine ak (.agg #[u,.int .i64 k]) (ag rfl) (by simp[execOp,go_sem,bu,hI,hu]) ?_;exact⟨u,ps,k,rfl,ho,hB⟩
  ·intro ρ y W hw hn hb hd;refine eP bA hb (gI (.int .i64 (dR H.ma.st x.f x.i))) (fun _ _ h=>h) ?_;have hI:=hw 30 14 rfl;have hp:=hd 14 rfl;obtain⟨u,ps,k,hu,ho,hB⟩:=hp;refine ak (.int .i64 (dR H.ma.st x.f x.i)) (ag rfl) (by simp[execOp,go_sem,bu,hI,hu]) rfl
  ·intro ρ y W hw hn hb hd;refine eP bA hb (gI (.int .i64 (bZ H.ma.st x.f x.i))) (fun _ _ h=>h) ?_;have hI:=hw 30 14 rfl;have hp:=hd 14 rfl;obtain⟨u,ps,k,hu,ho,hB⟩:=hp;refine ak (.int .i64 (bZ H.ma.st x.f x.i)) (ag rfl) (by simp[execOp,go_sem,bu,hI,hu]) rfl
  ·intro ρ y W hw hn hb hd;refine eP bA hb ((eO w.heap.size 40 2)) (fun _ _ h=>h) ?_;refine gz (.pointer (some ⟨W.heap.size,0,none⟩)) (ag rfl) (by simp[execOp,go_sem,bu]) ((Below.refl _ _).alloc (az _) (.cells #[.slice none 0 0,.int .i64 0] 40)) ?_;exact⟨_,_,rfl,hb.size,aJ.new _ _ _,rfl⟩
  ·intro ρ y W hw hn hb hd;have E6:=hw 6 18 rfl;have kG:=hd 18 rfl;have kP:=hw 45 15 rfl;have kH:=hd 15 rfl;obtain⟨u,ps,k,e7,ht,kg⟩:=kH;obtain⟨g3,cur3,e9,hF,l,hC⟩:=kG;obtain⟨au,cu,rfl,_⟩:=ht.rd;refine iZ (ag rfl) _ _ _ rfl g3 0 (.agg #[.slice au ps.length cu,.int .i64 k]) [.slice au ps.length cu,.int .i64 k] (E6.trans e9) (kP.trans e7) rfl cur3 _ l (by rw[hC];exact az _) store_size (gG (mE _ _ _ _)) ?_;intro w1 hj a;rw[show [Value.slice au ps.length cu,Value.int .i64 k]=(#[Value.slice au ps.length cu,Value.int .i64 k]:Array Value).toList from rfl,dU cur3 _ (by rw[hC];rfl)] at hj;refine⟨hb.grown a hb.size (fun k hk=>by cases hk;exact hF),⟨g3,_,e9,hF,hj,⟨_,ps,k,rfl,ht.keep l (by decide) (by decide) a,kg⟩⟩,?_⟩;intro k hk hX
   match k,hk,hX with
   | 0,_,_=>exact fun h=>h
   | 1,_,_=>exact fun h=>h
   | 2,_,_=>exact fun h=>h
   | 3,_,_=>exact fun h=>h
   | 4,_,_=>exact fun h=>h
   | 5,_,_=>exact fun h=>h
   | 6,_,_=>exact fun h=>h
   | 7,_,_=>exact fun h=>h
   | 8,_,_=>exact fun h=>h
   | 9,_,_=>exact fun h=>h
   | 10,_,_=>exact fun h=>h
   | 11,_,_=>exact fun h=>h
   | 12,_,_=>exact fun h=>h
   | 13,_,_=>exact fun⟨c,q0,q1,q2,q3,q4⟩=>⟨c,q0,q1,q2,q3.keep l (by decide) (by decide) a,q4⟩
   | 14,_,_=>exact fun⟨c,q0,q1,q2,q3,q4⟩=>⟨c,q0,q1,q2,q3.keep l (by decide) (by decide) a,q4⟩
   | 15,_,_=>exact fun⟨c,q0,q1,q2,q3,q4⟩=>⟨c,q0,q1,q2,q3.keep l (by decide) (by decide) a,q4⟩
   | 16,_,_=>exact fun h=>h
   | 17,_,_=>exact fun h=>h
   | 18,_,_=>exact fun q=>iy q hj (fun _=>rfl) ⟨_,l⟩ a
   | 19,_,h=>exact absurd rfl h
   | 20,_,_=>exact fun h=>h
   | 21,_,_=>exact fun h=>h
   | n+22,h,_=>exact absurd h (by omega)
  intro y W2 t ha;replace t:Below w.heap.size w W2:=t;have kc:((Ov w.heap.size (dL H.ma.st x.f x.i) (dR H.ma.st x.f x.i) (bZ H.ma.st x.f x.i))).r (y 13) W2:=ha 13 (by decide);have hA:((Ov w.heap.size (dL H.ma.st x.f x.i) (dR H.ma.st x.f x.i) (bZ H.ma.st x.f x.i))).r (y 14) W2:=ha 14 (by decide);have hz:((Lt w.heap.size (dL H.ma.st x.f x.i))).r (y 15) W2:=ha 15 (by decide);have kb:((eO w.heap.size 40 2)).r (y 18) W2:=ha 18 (by decide);have ka:=ha 19 (by decide);clear ha;simp only[dE,bu,bF,bI];obtain⟨gs,cs,k1,kk,ko,us,ps,ks,hL,hW,hN⟩:=ka;simp only[wW] at hL;subst hL;obtain⟨au,cu,rfl,_⟩:=hW.rd;have k2:=h.below t;have s2:=(KS.refl w b H).below t;have h0:=hi.ext t;have hD:=kx.below t;have kV:=ae kk;clear kc hA hz kb hc kC kA kk
  by_cases hE:bZ H.ma.st x.f x.i=0
  ·have hq:Hid (jB ⟨H.ma,e⟩ f=⟨setFr { H.ma with st:=dL H.ma.st x.f x.i,dk:=dz H.dk (dR H.ma.st x.f x.i) x.p } f { x with d:=false },iF e (aI H.dk (dR H.ma.st x.f x.i))⟩):=ae (by
    unfold jB;simp only[hg.out];rw[if_neg]
    ·rfl
    rintro (q|q|q)
    ·exact h1 q
    ·rw[hd] at q;cases q
    ·exact q hE)
   have hl:Hid (ja H.ma f=true):=ae (by unfold ja;rw[hg.out,hE];simp);rw[hE];clear hE;have kZ:Hid (bZ H.ma.st x.f x.i=bZ H.ma.st x.f x.i):=ae rfl;generalize dR H.ma.st x.f x.i=N at *
   go_upto_region 7 with (fail);refine gH 17 [_,_,_,_,_,_,_,_,_,_,.r 10 ((AU W2.heap.size (dz H.dk N x.p) (aI H.dk N))),.r 11 ((AU W2.heap.size (dz H.dk N x.p) (aI H.dk N))),.r 12 ((xn W2.heap.size (dz H.dk N x.p))),.v (.int .i64 (aI H.dk N)),.r 14 ((eO W2.heap.size 37 2)),.y 15 ((IJ 14 W2.heap.size 37 (xn W2.heap.size (dz H.dk N x.p)))),.v (.int .i64 (aI H.dk N))] (fun W=>Below W2.heap.size W2 W) bA (Below.refl _ _) (Yk bA rfl (Yk bA rfl (Yf bA b 0 rfl rfl (Yf bA b 5 rfl rfl (Yr bA (.agg #[.slice H.db H.dk.blocks.length H.cdb,.slice H.dq H.dk.queue.length H.cdq]) (fun ρ y W hb hH=>(bG rfl (aU rfl hH) (k2.below hb).rdD underlying37 rfl disk_size)) rfl rfl (Yk bA rfl (Yk bA rfl (Yk bA rfl (Yf bA g (off+f*13) rfl rfl (Yr bA (.agg (gQ x.p)) (fun ρ y W hb hH=>(bG rfl (aU rfl hH) (mW (hD.below hb) 0 8) underlying100 rfl psize)) rfl rfl (aj ?_ (aj ?_ (aj ?_ (aj ?_ (aj ?_ (aj ?_ (Yk bA rfl (aF)))))))))))))))))) (fun _=>rfl) rfl ?_
   ·intro ρ y W hw hn hb hd;refine eP bA hb ((AU W2.heap.size (dz H.dk N x.p) (aI H.dk N))) (fun _ _ h=>h) ?_;have kO:=hw 55 4 rfl;have h4:y 4 = .agg #[.slice H.db H.dk.blocks.length H.cdb,.slice H.dq H.dk.queue.length H.cdq]:=hd 4 rfl;have kN:=hw 56 5 rfl;have h5:y 5 = .int .i64 N:=hd 5 rfl;have kM:=hw 60 9 rfl;have h9:y 9 = .agg (gQ x.p):=hd 9 rfl;have EF:∀f,ρ (.func f) = .func (.func f) #[] #[]:=fun f=>hn (.func f) trivial;refine aK _ _ (ag rfl) (aQ rfl (EF _) func178 (by kernel_rfl) (by kernel_rfl) (by simp only[bT,bF,bI,kO,h4,kN,h5,kM,h9,EF];rfl)) ?_;refine (Cv H.dk N x.p H.db H.cdb H.dq H.cdq W (k2.below hb).ma.rd.dk).mono ?_;rintro r W3 ⟨vb,vq,rfl,ho,kE⟩;exact⟨_,rfl,kE,vb,vq,rfl,ho.mono hb.size⟩
   ·intro ρ y W hw hn hb hd;refine eP bA hb ((AU W2.heap.size (dz H.dk N x.p) (aI H.dk N))) (fun _ _ h=>h) ?_;have kL:=hw 61 10 rfl;have kJ:=hd 10 rfl;refine ak _ (ag rfl) (run_move (.inl rfl) kL) ?_;exact kJ
   ·intro ρ y W hw hn hb hd;refine eP bA hb ((xn W2.heap.size (dz H.dk N x.p))) (fun _ _ h=>h) ?_;have h7:=hw 50 11 rfl;have h6:=hd 11 rfl;obtain⟨vb,vq,hu,ho⟩:=h6;refine ak (.agg #[vb,vq]) (ag rfl) (by simp[execOp,go_sem,bu,h7,hu]) ?_;exact⟨vb,vq,rfl,ho⟩
   ·intro ρ y W hw hn hb hd;refine eP bA hb (gI (.int .i64 (aI H.dk N))) (fun _ _ h=>h) ?_;have h7:=hw 50 11 rfl;have h6:=hd 11 rfl;obtain⟨vb,vq,hu,ho⟩:=h6;refine ak (.int .i64 (aI H.dk N)) (ag rfl) (by simp[execOp,go_sem,bu,h7,hu]) rfl
   ·intro ρ y W hw hn hb hd;refine eP bA hb ((eO W2.heap.size 37 2)) (fun _ _ h=>h) ?_;refine gz (.pointer (some ⟨W.heap.size,0,none⟩)) (ag rfl) (by simp[execOp,go_sem,bu]) ((Below.refl _ _).alloc (az _) (.cells #[.slice none 0 0,.slice none 0 0] 37)) ?_;exact⟨_,_,rfl,hb.size,aJ.new _ _ _,rfl⟩
   ·intro ρ y W hw hn hb hd;have E9:=hw 9 14 rfl;have hp:=hd 14 rfl;have kK:=hw 62 12 rfl;have h3:=hd 12 rfl;obtain⟨vb,vq,e7,ht⟩:=h3;obtain⟨g3,cur3,e9,hF,l,hC⟩:=hp;obtain⟨ab,cb,rfl,_⟩:=ht.b.rd;obtain⟨aq,cq,rfl,_⟩:=ht.q.rd;refine iZ (ag rfl) _ _ _ rfl g3 0 (.agg #[.slice ab _ cb,.slice aq _ cq]) [.slice ab _ cb,.slice aq _ cq] (E9.trans e9) (kK.trans e7) rfl cur3 _ l (by rw[hC];exact az _) disk_size (gG (pE _ _ _ _ _ _)) ?_;intro w1 hj a;rw[show ∀(p q:Value),[p,q]=(#[p,q]:Array Value).toList from fun _ _=>rfl,dU cur3 _ (by rw[hC];rfl)] at hj;refine⟨hb.grown a hb.size (fun k hk=>by cases hk;exact hF),⟨g3,_,e9,hF,hj,⟨_,_,rfl,ht.keep l (by decide) (by decide) a⟩⟩,?_⟩;intro k hk hX
    match k,hk,hX with
    | 0,_,_=>exact fun h=>h
    | 1,_,_=>exact fun h=>h
    | 2,_,_=>exact fun h=>h
    | 3,_,_=>exact fun h=>h
    | 4,_,_=>exact fun h=>h
    | 5,_,_=>exact fun h=>h
    | 6,_,_=>exact fun h=>h
    | 7,_,_=>exact fun h=>h
    | 8,_,_=>exact fun h=>h
    | 9,_,_=>exact fun h=>h
    | 10,_,_=>exact fun⟨c,q0,q1,q2⟩=>⟨c,q0,q1,q2.keep l (by decide) (by decide) a⟩
    | 11,_,_=>exact fun⟨c,q0,q1,q2⟩=>⟨c,q0,q1,q2.keep l (by decide) (by decide) a⟩
    | 12,_,_=>exact fun⟨c,q0,q1,q2⟩=>⟨c,q0,q1,q2.keep l (by decide) (by decide) a⟩
    | 13,_,_=>exact fun h=>h
    | 14,_,_=>exact fun q=>iy q hj (fun _=>rfl) ⟨_,l⟩ a
    | 15,_,h=>exact absurd rfl h
    | 16,_,_=>exact fun h=>h
    | n+17,h,_=>exact absurd h (by omega)
   intro y W3 s z;replace s:Below W2.heap.size W2 W3:=s;have kf:((AU W2.heap.size (dz H.dk N x.p) (aI H.dk N))).r (y 10) W3:=z 10 (by decide);have ke:((AU W2.heap.size (dz H.dk N x.p) (aI H.dk N))).r (y 11) W3:=z 11 (by decide);have kd:((xn W2.heap.size (dz H.dk N x.p))).r (y 12) W3:=z 12 (by decide);have hA:((eO W2.heap.size 37 2)).r (y 14) W3:=z 14 (by decide);have hz:=z 15 (by decide);clear z;simp only[dE,bu,bF,bI];obtain⟨gd,cd,k7,k9,kp,vb,vq,hM,hJ⟩:=hz;simp only[wW] at hM;subst hM;obtain⟨ab,cb,rfl,_⟩:=hJ.b.rd;obtain⟨aq,cq,rfl,_⟩:=hJ.q.rd;have k3:=k2.below s;have s3:=s2.below s;have hS:=ko.ext s;have hR:=hW.below s;have kw:=ae s2.size;have ki:=hD.below s;clear kf ke kd hA k2 s2 h0 ko hW s hD
   go_wp2_with fail
   refine (qK _ e (aI H.dk N) _ _ _ k3).mono ?_;rintro r w4 ⟨rfl,k4,hv⟩;have s4:=s3.putB hv rfl rfl rfl;have hP:=hJ.keep k3.blk (by decide) (by decide) hv;have hQ:=hR.keep k3.blk (by decide) (by decide) hv;have hr:=aG hS k3.blk (by decide) hv;have hs:=aG kp k3.blk (by decide) hv;clear k3 s3 hJ hR hS kp hv ki;have kn:=k4.blk.cell;have kB:=k4.blk.free;unfold nC at kn;have hL:=hr.cell;have hM:=hs.cell;have n1:=vw k4.blk hr (by decide);have n2:=vw k4.blk hs (by decide);have n3:=vw hr hs (by decide);go_upto_region 9 with (fail)
   go_region
   refine Rh (w:=w4.setCells b 7 [.slice au ps.length cu,.int .i64 ks]) (b:=b) (o:=5) (vs:=[.slice ab (dz H.dk N x.p).blocks.length cb,.slice aq (dz H.dk N x.p).queue.length cq]) (fun W=>Exit.then _ _ _ _ W) fun w6 hY kr => ?_;have km : -9223372036854775808≤ks∧ks≤9223372036854775807:=by
    have e1:ks=(dL H.ma.st x.f x.i).count:=by rw[←hN];rfl
    have e2:=h.ma.c64;have e3:H.ma.st.count=H.ct:=rfl;rcases Hm H.ma.st x.f x.i with e4|e4<;>rw[e1,e4]<;>omega
   have hK:=aA w4 b 7 [.slice au ps.length cu,.int .i64 ks];have kt:=k4.blk.setCells [.slice au ps.length cu,.int .i64 ks] 7;have k5:=k4.setS (hQ.mono h.bs) km kt hK;have s5:=s4.putB (H':={ H with ai:=au,ci:=cu,fi:=ps,ct:=ks }) hK rfl rfl rfl;have hO:=hP.keep k4.blk (by decide) (by decide) hK;have hT:=kr k5.blk;have k6:=k5.setD (hO.mono (aV h.bs kw.out)) hT hY;have s6:=s5.putB (H':={ H with ai:=au,ci:=cu,fi:=ps,ct:=ks,db:=ab,cdb:=cb,dq:=aq,cdq:=cq,dk:=dz H.dk N x.p }) hY rfl rfl rfl;clear kr hT hY k5 s5 hO kt hK km k4 s4 hP hQ kn kB hL hM hr hs;obtain⟨g7,off7,cur7,ku,k0,hZ,kz,kU,hU,kX,hV⟩:=k6.frame hf;have ky:g7=g∧off7=off:=by have:H.af=some ⟨g7,off7,none⟩:=ku;rw[h2] at this;simp only[gY,sI,and_true] at this;exact⟨this.1.symm,this.2.symm⟩
   obtain⟨rfl,rfl⟩:=ky;have kv:aD (MH.ma { H with ai:=au,ci:=cu,fi:=ps,ct:=ks,db:=ab,cdb:=cb,dq:=aq,cdq:=cq,dk:=dz H.dk N x.p }) f=x:=hg.out;rw[kv] at hU;have kj:=putAt_one (v:=.bool false) (j:=10) hU (by rw[iO];decide)
   go_wp2_with (refine bz rfl _ _ _ rfl g7 (off7+f*13+10) _ [.bool false] rfl rfl rfl _ _ hZ (by simp;omega) uR (fun u hu=>by cases bN.1 hu;rfl) ?_)
   intro w8 kD kl;have kq : aJ w8 g7 (dF cur7 (off7+f*13) (oH { x with d:=false })) 132:=by have e1:oH { x with d:=false }=(oH x).set 10 (.bool false):=rfl;rw[e1,kj];exact kD
   have k8:=hV w8 { x with d:=false } kq kl;have s8:=s6.put (H':={ H with ai:=au,ci:=cu,fi:=ps,ct:=ks,db:=ab,cdb:=cb,dq:=aq,cdq:=cq,dk:=dz H.dk N x.p,m:=⟨H.m.fs.set f { x with d:=false },H.m.hand⟩ }) kl (.inr (.inl (by show oB H.af=_;rw[h2];rfl))) fun y hy => .inl (zl rfl rfl rfl hy);go_wp2;go_ret;rw[hq.out,hl.out];refine⟨rfl,_,_,k8,s8,?_⟩;unfold MH.ma setFr;simp only[hN];rfl
  have hq:Hid (jB ⟨H.ma,e⟩ f=⟨H.ma,e⟩):=ae (by unfold jB;simp only[hg.out];rw[if_pos (.inr (.inr hE))]);have hl:Hid (ja H.ma f=false):=ae (by unfold ja;rw[hg.out];simp only[FN,decide_eq_false_iff_not,Bool.not_eq_false'];exact⟨⟨h1,hd⟩,hE⟩);go_wp2;go_ret;rw[hq.out,hl.out];exact⟨rfl,_,_,k2,s2,rfl⟩
def mK (s:St) (f i:Int):Prop:=(0≤f∧f<s.fs.length)∧0≤i∧i<(aH s f).b.length
theorem jV {x:Fi} (h:s.fs[F]?=some x):aH s F=x:=by
 unfold aH;rw[if_pos (by omega),bD,bM,h];rfl
theorem wm {f:Int} (h:0≤f∧f<s.fs.length):s.fs[f.toNat]?=some (aH s f):=by
 unfold aH;rw[if_pos h.1,bM,aN (by omega)];rfl
theorem nL {f i:Int} (h:mK s f i):(aH s f).b[i.toNat]?=some (bn s f i):=by
 unfold bn;rw[bM,aN (by have:=h.2;omega)];rfl
theorem tO {f i:Int} (h:mK s f i):bn s f i∈ig s:=
 ji.2 ⟨_,dm (wm h.1),dm (nL h)⟩
theorem Jp {x:Int} (h:x∈ig s):∃f i,mK s f i∧bn s f i=x:=by
 obtain⟨fi,h1,h2⟩:=ji.1 h;obtain⟨F,hF,rfl⟩:=jC.1 h1;obtain⟨I,hI,rfl⟩:=jC.1 h2;have hf:aH s F=s.fs[F]:=jV (aN hF);have a:mK s F I:=⟨by omega,by omega,by rw[hf];omega⟩;refine⟨F,I,a,?_⟩;have:=nL a;rw[hf,bD,aN hI] at this;exact (aS this).symm
theorem posB_inj:∀ {l:List Int} {I J:Nat} {v:Int},(kQ l).Nodup→l[I]?=some v→l[J]?=some v→0≤v→I=J
 | [],_,_,_,_,h,_,_=>by simp at h
 | a::l,0,0,_,_,_,_,_=>rfl
 | a::l,0,J+1,v,hn,h1,h2,h0=>by simp only[qa,gY] at h1;subst h1;rw[FW h0] at hn;exact ((rf.1 hn).1 (iJ.2 ⟨dm (by simpa using h2:l[J]?=some a),h0⟩)).elim
 | a::l,I+1,0,v,hn,h1,h2,h0=>by simp only[qa,gY] at h2;subst h2;rw[FW h0] at hn;exact ((rf.1 hn).1 (iJ.2 ⟨dm (by simpa using h1:l[I]?=some a),h0⟩)).elim
 | a::l,I+1,J+1,v,hn,h1,h2,h0=>by
  have:(kQ l).Nodup:=by have hs:(kQ l).Sublist (kQ (a::l)):=(List.sublist_cons_self a l).filter _;exact hn.sublist hs
  have h3:=posB_inj (I:=I) (J:=J) this (by simpa using h1) (by simpa using h2) h0;omega
theorem flat_inj:∀ {fs:List Fi} {F G I J:Nat} {x y:Fi} {v:Int},(kQ (fs.flatMap Fi.b)).Nodup→fs[F]?=some x→fs[G]?=some y→x.b[I]?=some v→y.b[J]?=some v→0≤v→F=G∧I=J
 | [],_,_,_,_,_,_,_,_,h,_,_,_,_=>by simp at h
 | a::fs,F,G,I,J,x,y,v,hn,hF,hG,hI,hJ,h0=>by
  rw[oV,yn,xg] at hn;obtain⟨n1,n2,n3⟩:=hn;cases F with
  | zero=>
   simp only[qa,gY] at hF;subst hF;cases G with
   | zero=>
    simp only[qa,gY] at hG;subst hG;exact⟨rfl,posB_inj n1 hI hJ h0⟩
   | succ G=>
    exact absurd rfl (n3 v (iJ.2 ⟨dm hI,h0⟩) v (iJ.2 ⟨ji.2 ⟨y,dm (by simpa using hG),dm hJ⟩,h0⟩))
  | succ F=>
   cases G with
   | zero=>
    simp only[qa,gY] at hG;subst hG;exact absurd rfl (n3 v (iJ.2 ⟨dm hJ,h0⟩) v (iJ.2 ⟨ji.2 ⟨x,dm (by simpa using hF),dm hI⟩,h0⟩))
   | succ G=>
    obtain⟨e1,e2⟩:=flat_inj n2 (by simpa using hF) (by simpa using hG) hI hJ h0;exact⟨by omega,e2⟩
theorem LX (h:aO s=0) {f i g j:Int} (h1:mK s f i) (h2:mK s g j) (h0:0≤bn s f i) (he:bn s f i=bn s g j):f=g∧i=j:=by
 have hn:=(kP.1 h).2.2;obtain⟨e1,e2⟩:=flat_inj hn (wm h1.1) (wm h2.1) (nL h1) (by rw[he];exact nL h2) h0;have:=h1.1;have:=h1.2;have:=h2.1;have:=h2.2;omega
theorem lU (h:aO s=0) {f:Int} (hf:0≤f∧f<s.fs.length):DW s.count (aH s f):=(kP.1 h).2.1 _ (dm (wm hf))
theorem block_lt (h:aO s=0) {f i:Int} (hi:mK s f i) : -1≤bn s f i∧bn s f i<s.count:=
 (lU h hi.1).2.2.2 _ (dm (nL hi))
theorem zI (h:aO s=0) {f i:Int} (hi:mK s f i):f<5∧i<12∧i*8<(aH s f).n∧(aH s f).n≤96:=by
 have h1:=(kP.1 h).1;obtain⟨a1,a2,a3,_⟩:=lU h hi.1;have h2:=hi.1;have h3:=hi.2;rw[a3] at h3;unfold gu at h3;split at h3<;>omega
structure Blocked (s s' : St) (f i b:Int):Prop where
 right:aO s' = 0
 count:s'.count=s.count
 len:s'.fs.length=s.fs.length
 size:∀g,(aH s' g).n=(aH s g).n
 lenb:∀g,(aH s' g).b.length=(aH s g).b.length
 at_:bn s' f i=b
 other:∀g j,0≤j→¬(g=f∧j=i)→bn s' g j=bn s g j
 b0:0≤b
 bc:b<s.count
 used:∀x,0≤x→(x∈ig s'↔x=b∨x∈ig s)
 was:(bn s f i=b∧s' = s)∨(bn s f i<0∧b ∉ ig s∧qG s' = qG s-1)
theorem mK.same {f i:Int} (h:mK s f i) (h1:s'.fs.length=s.fs.length) (h2:∀g,(aH s' g).b.length=(aH s g).b.length):mK s' f i:=⟨by rw[h1];exact h.1,by rw[h2];exact h.2⟩
theorem NL (h:aO s=0) {f i:Int} (hi:mK s f i) (hb:0≤bn s f i∨0≤eY s):bZ s f i=0:=by
 unfold bZ;have h1:=hi.1;have h2:=hi.2;rw[if_neg (by rw[h];simp),if_neg (by omega),if_neg (by omega),if_neg (by omega)]
theorem blocked {f i:Int} (h:bZ s f i=0):mK s f i∧Blocked s (dL s f i) f i (dR s f i):=by
 have ha:=JJ h;obtain⟨hw,F,I,x,v,rfl,rfl,hf,hv,t,m,hc⟩:=Az h;have hF:=(dx.1 hf).1;have hI:=(dx.1 hv).1;have r:mK s F I:=⟨by omega,by omega,by rw[t];omega⟩;refine⟨r,?_⟩;have hb:=block_lt hw r;rcases hc with ⟨h0,hS,hN⟩|⟨hn,h0,hN,hS⟩
 ·rw[hS,hN];rw[m] at hb;exact⟨hw,rfl,rfl,fun _=>rfl,fun _=>rfl,m,fun _ _ _ _=>rfl,h0,hb.2,fun y _=>⟨.inr,fun h=>h.elim (fun e=>by rw[e,←m];exact tO r) id⟩,.inl ⟨m,rfl⟩⟩
 obtain⟨z,hu⟩:=EJ h0;have w:=MW hu;have a:=ha.2.2.2.2;rw[m] at a;have a:qG (dL s F I)=qG s-1:=by
  rcases a with ⟨e,_⟩|⟨_,_,e⟩
  ·omega
  ·exact e
 have o:=ha.1;rw[hS] at o a;rw[hS,hN];generalize hs' : (⟨s.fs.set F ⟨x.n,x.b.set I (eY s)⟩,s.count⟩:St)=s' at *
 have k:∀g,aH s' g=if g=F then ⟨x.n,x.b.set I (eY s)⟩ else aH s g:=by
  intro g;rw[←hs'];unfold aH;simp only
  by_cases g0:0≤g
  ·rw[if_pos g0,if_pos g0,bM,qL]
   by_cases e:g=F
   ·rw[if_pos e,if_pos (by omega),if_pos (by omega)];rfl
   ·rw[if_neg e,if_neg (by omega),bM]
  ·rw[if_neg g0,if_neg g0,if_neg (by omega)]
 have p:s'.fs.length=s.fs.length:=by rw[←hs'];exact dM
 have d:∀g,(aH s' g).b.length=(aH s g).b.length:=by
  intro g;rw[k]
  by_cases e:g=F
  ·rw[if_pos e,e,t];exact dM
  ·rw[if_neg e]
 have u:bn s' F I=eY s:=by unfold bn;rw[k,if_pos rfl,bD,bM,uU hI];rfl
 have q:∀g j,0≤j→¬(g=(F:Int)∧j=(I:Int))→bn s' g j=bn s g j:=by
  intro g j hj hd;unfold bn;rw[k]
  by_cases e:g=F
  ·rw[if_pos e,e,t];simp only;rw[bM,uo (by omega),bM]
  ·rw[if_neg e]
 refine⟨o,by rw[←hs'],p,fun g => ?_,d,u,q,h0,z,fun y hy => ?_,.inr ⟨by rw[m];exact hn,w,a⟩⟩
 ·rw[k]
  by_cases e:g=F
  ·rw[if_pos e,e,t]
  ·rw[if_neg e]
 constructor
 ·intro hm;obtain⟨g,j,c,l⟩:=Jp hm
  by_cases e:g=(F:Int)∧j=(I:Int)
  ·rw[e.1,e.2,u] at l;exact .inl l.symm
  rw[q g j c.2.1 e] at l;refine .inr ?_;rw[←l];exact tO ⟨by rw[←p];exact c.1,by rw[←d];exact c.2⟩
 rintro (e|hm)
 ·rw[e,←u];exact tO (r.same p d)
 obtain⟨g,j,c,l⟩:=Jp hm;have e:¬(g=(F:Int)∧j=(I:Int)):=by rintro⟨e1,e2⟩;rw[e1,e2,m] at l;omega
 rw[←l,←q g j c.2.1 e];exact tO (c.same p d)
def fD (m:Ma) (p:Nat) (n:Int):Option Pg:=onA (bX m p).ar n
def BQ (a b:Cc):Prop:=a.f<b.f∨a.f=b.f∧a.i<b.i
def KX (x:Fr) (g:Pg) (w:Bool):Prop:=
 (0≤x.f→x.f=g.fi∧x.i=g.pg)∧(g.sh=true→0≤x.f)∧(w=true→g.wr=true)∧(w=true→0≤x.f→g.sh=true)∧(w=true→x.f<0→x.r≤1)
structure TK (m:Ma) (g:Pg) (e:En):Prop where
 sw:e.k=2→e.n<m.sl.length∧g.sh=false
 lt:e.k=1→e.n<m.m.fs.length
 fr:e.k=1→KX (aD m e.n.toNat) g e.w
structure sV (m:Ma):Prop where
 file:∀c∈m.ca,mK m.st c.f c.i
 lt:∀c∈m.ca,0≤c.k∧c.k<m.m.fs.length
 fr:∀c∈m.ca,1≤(aD m c.k.toNat).r∧(aD m c.k.toNat).f=c.f∧(aD m c.k.toNat).i=c.i
 srt:m.ca.Pairwise BQ
def vk (m:Ma) (i:Int):Nat:=m.ca.countP fun c=>decide (c.k=i)
structure Rt (m:Ma):Prop where
 pt:Pt m
 trim:(∀b:Int,0≤b→b<m.dk.blocks.length→b∈ig m.st∨m.dk.blocks.getD b.toNat zPg=zPg)∧∀q∈m.dk.queue,q.1∈ig m.st
 live:∀p,(bX m p).lv=false→(bX m p).ar=[]∧∀n,(aL m p n).k=0
 ca:sV m
 en:∀p n,(aL m p n).k≠0→∃g,fD m p n=some g∧TK m g (aL m p n)
 cf:∀i:Nat,i<m.m.fs.length→(aD m i).r=vk m i+bU m 1 i
 fc:∀i:Nat,i<m.m.fs.length→0≤(aD m i).f→∃c∈m.ca,c.k=i
 cs:∀s:Nat,s<m.sl.length→lC m s=bU m 2 s
structure Co (m:Ma):Prop where
 tail:∀c∈m.ca,cO (aD m c.k.toNat).p ((aH m.st c.f).n-c.i*8)=(aD m c.k.toNat).p
 clean:∀c∈m.ca,(aD m c.k.toNat).d=false→(aD m c.k.toNat).p=dJ m c.f c.i
 anon:∀i:Nat,i<m.m.fs.length→(aD m i).d=true→0≤(aD m i).f
def iM (m:Ma) (p:Nat) (n:Int):Page × Bool × Int:=
 match fD m p n with
 | none=>(zPg,false,5)
 | some g=>
  if (aL m p n).k=1 then ((gP m (aL m p n).n).p,decide ((gP m (aL m p n).n).f<0),0)
  else if (aL m p n).k=2 then (dN m.sw (aL m p n).n,true,aI m.sw (aL m p n).n)
  else if g.fi<0 then (zPg,false,0)
  else if (m.st.fs.length:Int)≤g.fi∨nU m.st g.fi g.pg=true then (zPg,false,9)
  else (aR m g.fi g.pg,false,0)
structure Ei (m m' : Ma):Prop where
 sk:gZ m m'
 files:m'.st.fs.length=m.st.fs.length
 size:∀f,(aH m'.st f).n=(aH m.st f).n
 lenb:∀f,(aH m'.st f).b.length=(aH m.st f).b.length
 see:∀p n,iM m' p n=iM m p n
 con:∀f i,mK m.st f i→aR m' f i=aR m f i
theorem Ei.refl (m:Ma):Ei m m:=⟨.refl m,rfl,fun _=>rfl,fun _=>rfl,fun _ _=>rfl,fun _ _ _=>rfl⟩
theorem Ei.trans {a b c:Ma} (h:Ei a b) (k:Ei b c):Ei a c:=
 ⟨h.sk.trans k.sk,k.files.trans h.files,fun f=>(k.size f).trans (h.size f),fun f=>(k.lenb f).trans (h.lenb f),fun p n=>(k.see p n).trans (h.see p n),fun f i hi=>(k.con f i (hi.same h.files h.lenb)).trans (h.con f i hi)⟩
theorem Gu (a:Cc):¬BQ a a:=fun h=>by unfold BQ at h;omega
theorem srt_eq:∀ {l:List Cc},l.Pairwise BQ→∀ {a b:Cc},a∈l→b∈l→a.f=b.f→a.i=b.i→a=b
 | [],_,_,_,h,_,_,_=>by cases h
 | c::l,hs,a,b,ha,hb,e1,e2=>by
  obtain⟨h1,h2⟩:=rD.1 hs;rcases fE.1 ha with e|ha<;>rcases fE.1 hb with e' | hb
  ·rw[e,e']
  ·have:=h1 b hb;rw[e] at e1 e2;unfold BQ at this;omega
  ·have:=h1 a ha;rw[e'] at e1 e2;unfold BQ at this;omega
  ·exact srt_eq h2 ha hb e1 e2
theorem sV.uniq (h:sV m) {a b:Cc} (ha:a∈m.ca) (hb:b∈m.ca) (hk:a.k=b.k):a=b:=by
 have h1:=h.fr a ha;have h2:=h.fr b hb;rw[hk] at h1;exact srt_eq h.srt ha hb (h1.2.1.symm.trans h2.2.1) (h1.2.2.symm.trans h2.2.2)
theorem zB {k:Int}:∀ {l:List Cc},l.Pairwise BQ→(∀a∈l,∀b∈l,a.k=b.k→a=b)→l.countP (fun c=>decide (c.k=k))≤1
 | [],_,_=>bB _
 | c::l,hs,hu=>by
  obtain⟨h1,h2⟩:=rD.1 hs;have ih:=zB (k:=k) h2 (fun a ha b hb=>hu a (jM _ ha) b (jM _ hb));rw[pU]
  by_cases hc:c.k=k
  ·rw[if_pos (by simpa using hc)];have:l.countP (fun c=>decide (c.k=k))=0:=by rw[uz];intro d hd hdk;have e:=hu c kv d (jM _ hd) (by rw[hc];exact (of_decide_eq_true hdk).symm);have:=h1 d hd;rw[←e] at this;exact Gu _ this
   omega
  ·rw[if_neg (by simpa using hc)];omega
theorem sV.one (h:sV m) {c:Cc} (hc:c∈m.ca):vk m c.k=1:=by
 have h1:=zB (k:=c.k) h.srt (fun a ha b hb=>h.uniq ha hb);have h2:0<m.ca.countP (fun d=>decide (d.k=c.k)):=wz.2 ⟨c,hc,by simp⟩;unfold vk;omega
theorem sV.none {i:Int} (h:∀c∈m.ca,c.k≠i):vk m i=0:=by
 unfold vk;rw[uz];intro c hc hk;exact h c hc (of_decide_eq_true hk)
theorem zm {f i:Int} {c:Cc}:Eu f i c=true↔f<c.f∨c.f=f∧i≤c.i:=by unfold Eu;simp
theorem Ee (l:List Cc) (f i:Int):sJ l f i≤l.length:=by
 unfold sJ;cases h:l.findIdx? (Eu f i) with
 | none=>exact az _
 | some k=>exact wI (sF.1 h).1
theorem Gh {l:List Cc} (hs:l.Pairwise BQ) {f i:Int}:FX l f i=true↔∃c∈l,c.f=f∧c.i=i:=by
 unfold FX;constructor
 ·intro h;cases hc:l[sJ l f i]? with
  | none=>rw[hc] at h;cases h
  | some c=>
   rw[hc] at h;simp only[dh,decide_eq_true_eq] at h;exact⟨c,dm hc,h⟩
 rintro⟨c,hc,h1,h2⟩;obtain⟨j,hj,rfl⟩:=jC.1 hc;unfold sJ;cases h:l.findIdx? (Eu f i) with
 | none=>
  have:=xh.1 h _ hc;rw[FY] at this;exact absurd (zm.2 (.inr ⟨h1,by omega⟩)) this
 | some k=>
  obtain⟨hk,hg,b⟩:=sF.1 h;have d:¬j<k:=fun a=>b j a (zm.2 (.inr ⟨h1,by omega⟩));have hg:=zm.1 hg;have:k=j:=by
   rcases fM k j with a|hge
   ·have:=BP.1 hs k j hk hj a;unfold BQ at this;omega
   ·omega
  subst this;simp only[rQ,aN hk,h1,h2,decide_true,Bool.and_self]
theorem Dm {l:List Cc} {f i:Int} (h:FX l f i=true):∃c,l[sJ l f i]?=some c∧c.f=f∧c.i=i:=by
 unfold FX at h;cases hc:l[sJ l f i]? with
 | none=>rw[hc] at h;cases h
 | some c=>
  rw[hc] at h;simp only[dh,decide_eq_true_eq] at h;exact⟨c,rfl,h⟩
def nD (m:Ma) (f i:Int):Option Cc:=m.ca.find? fun c=>decide (c.f=f)&&decide (c.i=i)
theorem OL (h:sV m) {c:Cc} (hc:c∈m.ca):nD m c.f c.i=some c:=by
 cases hl:nD m c.f c.i with
 | none=>
  have:=qz.1 hl c hc;simp at this
 | some d=>
  have h1:=rF hl;simp only[dh,decide_eq_true_eq] at h1;rw[srt_eq h.srt (pV hl) hc h1.1 h1.2]
theorem Oi {f i:Int} (h:∀c∈m.ca,¬(c.f=f∧c.i=i)):nD m f i=none:=by
 unfold nD;rw[qz];intro c hc hk;simp only[dh,decide_eq_true_eq] at hk;exact h c hc hk
theorem ko (m:Ma) (f i:Int):(∃c,nD m f i=some c∧c∈m.ca∧c.f=f∧c.i=i)∨(nD m f i=none∧∀c∈m.ca,¬(c.f=f∧c.i=i)):=by
 cases hl:nD m f i with
 | none=>
  refine .inr ⟨rfl,fun c hc hk => ?_⟩;have:=qz.1 hl c hc;simp only[dh,decide_eq_true_eq] at this;exact this hk
 | some d=>
  have h1:=rF hl;simp only[dh,decide_eq_true_eq] at h1;exact .inl ⟨d,rfl,pV hl,h1⟩
theorem jA (m:Ma) (f i:Int):aR m f i=match nD m f i with
  | some c=>(gP m c.k).p
  | none=>dJ m f i:=rfl
theorem ed (h:sV m) {c:Cc} (hc:c∈m.ca):aR m c.f c.i=(aD m c.k.toNat).p:=by
 rw[jA,OL h hc];rfl
theorem dY {f i:Int} (h:∀c∈m.ca,¬(c.f=f∧c.i=i)):aR m f i=dJ m f i:=by
 rw[jA,Oi h]
theorem vP (k:Nat):gP m (k:Int)=aD m k:=rfl
theorem Cf {l:List Ar} (h:0≤fB l n):onA l n=some (uZ (l.getD (fB l n).toNat zAr) n)∧uW n (l.getD (fB l n).toNat zAr)=true:=by
 induction l with
 | nil=>unfold fB idx at h;simp at h
 | cons a r ih=>
  rw[jb]
  by_cases ha:uW n a=true
  ·have h0:fB (a::r) n=0:=by unfold fB idx;rw[yG,if_pos ha];rfl
   rw[h0,if_pos ha];exact⟨rfl,ha⟩
  have h1:fB (a::r) n=if 0≤fB r n then fB r n+1 else -1:=by
   unfold fB idx;rw[yG,if_neg ha];cases r.findIdx? (uW n) with
   | none=>rfl
   | some k=>
    simp only[wT];rw[if_pos (by omega)];rfl
  rw[if_neg ha]
  by_cases h2:0≤fB r n
  ·rw[h1,if_pos h2];have e:(fB r n+1).toNat=(fB r n).toNat+1:=by omega
   rw[e];exact ih h2
  rw[h1,if_neg h2] at h;omega
def sM (m:Ma) (g:Pg) (e:En):Page × Bool × Int:=
 if e.k=1 then ((gP m e.n).p,decide ((gP m e.n).f<0),0)
 else if e.k=2 then (dN m.sw e.n,true,aI m.sw e.n)
 else if g.fi<0 then (zPg,false,0)
 else if (m.st.fs.length:Int)≤g.fi∨nU m.st g.fi g.pg=true then (zPg,false,9)
 else (aR m g.fi g.pg,false,0)
theorem iE {g:Pg} (h:fD m p n=some g):iM m p n=sM m g (aL m p n):=by
 unfold iM;rw[h];rfl
theorem oh (h:fD m p n=none):iM m p n=(zPg,false,5):=by
 unfold iM;rw[h]
theorem pg_in:∀ {l:List Ar} {lo:Int} {n:Int} {g:Pg},srtF lo l→onA l n=some g→0≤g.pg∧g.pg<12∧-1≤g.fi∧g.fi<5∧(g.fi<0→g.sh=false∧g.pg=0)∧0≤n∧n<64
 | [],_,_,_,_,h=>by cases h
 | a::r,lo,n,g,hs,h=>by
  rw[jb] at h
  by_cases ha:uW n a=true
  ·rw[if_pos ha] at h;have h1:=mR.1 ha;have h2:=hs.1;unfold cZ at h2;split at h2
   ·cases h2
   split at h2
   ·cases h2
   rename_i h3 h4;cases h;unfold uZ;simp only;have h5:¬(a.fi<0∧(a.ba≠0∨a.sh=true)):=fun h=>h4 (.inl h);have h6:¬(0≤a.fi∧12-(a.en-a.fr)<a.ba):=fun h=>h4 (.inr h);refine⟨?_,?_,by omega,by omega,fun h7=>⟨?_,if_neg (by omega)⟩,by omega,by omega⟩
   ·split<;>omega
   ·split<;>omega
   cases hsh:a.sh with
   | false=>rfl
   | true=>exact absurd ⟨h7,.inr hsh⟩ h5
  rw[if_neg ha] at h;exact pg_in hs.2.2 h
theorem Pt.pg (h:Pt m) {g:Pg} (hg:fD m p n=some g):0≤g.pg∧g.pg<12∧-1≤g.fi∧g.fi<5∧(g.fi<0→g.sh=false∧g.pg=0)∧0≤n∧n<64:=
 pg_in (Cq (qQ.1 (h.arN p)).2) hg
theorem BL (h:aO s=0) {f i:Int} (hf:0≤f) (hi:0≤i) (hn:¬((s.fs.length:Int)≤f∨nU s f i=true)):mK s f i:=by
 have h1:¬(s.fs.length:Int)≤f:=fun h=>hn (.inl h);have h2:¬nU s f i=true:=fun h=>hn (.inr h);have h3:=(lU h (f:=f) (by omega)).2.2.1;refine⟨by omega,hi,?_⟩;rw[h3];unfold nU at h2;simpa using h2
theorem nV (h:aO s=0) {f i:Int} (hi:mK s f i):¬((s.fs.length:Int)≤f∨nU s f i=true):=by
 have h3:=(lU h hi.1).2.2.1;have h4:=hi.1;have h5:=hi.2;rintro (h|h)
 ·omega
 unfold nU at h;have:=of_decide_eq_true h;omega
structure kY (s s' : St):Prop where
 len:s'.fs.length=s.fs.length
 size:∀f,(aH s' f).n=(aH s f).n
 lenb:∀f,(aH s' f).b.length=(aH s f).b.length
theorem kY.refl (s:St):kY s s:=⟨rfl,fun _=>rfl,fun _=>rfl⟩
theorem kY.of (h:s' = s):kY s s':=by subst h;exact .refl _
theorem Ot (h:kY s s') (f i:Int):nU s' f i=nU s f i:=by unfold nU;rw[h.size]
theorem oK {g:Pg} {e:En} (hw:aO m.st=0) (hg:0≤g.pg) (hf:kY m.st m'.st) (hc:∀f i,mK m.st f i→aR m' f i=aR m f i)
 (h1:e.k=1→(gP m' e.n).p=(gP m e.n).p∧(gP m' e.n).f=(gP m e.n).f) (h2:e.k=2→dN m'.sw e.n=dN m.sw e.n∧aI m'.sw e.n=aI m.sw e.n):sM m' g e=sM m g e:=by
 unfold sM
 by_cases k1:e.k=1
 ·rw[if_pos k1,if_pos k1,(h1 k1).1,(h1 k1).2]
 rw[if_neg k1,if_neg k1]
 by_cases k2:e.k=2
 ·rw[if_pos k2,if_pos k2,(h2 k2).1,(h2 k2).2]
 rw[if_neg k2,if_neg k2,hf.len,Ot hf]
 by_cases g0:g.fi<0
 ·rw[if_pos g0,if_pos g0]
 rw[if_neg g0,if_neg g0]
 by_cases he:(m.st.fs.length:Int)≤g.fi∨nU m.st g.fi g.pg=true
 ·rw[if_pos he,if_pos he]
 ·rw[if_neg he,if_neg he,hc _ _ (BL hw (by omega) hg he)]
theorem Da (h:Pt m) (sk:gZ m m') (hf:kY m.st m'.st) (hc:∀f i,mK m.st f i→aR m' f i=aR m f i)
 (hs:∀p n g,fD m p n=some g→sM m' g (aL m' p n)=sM m g (aL m p n)):Ei m m':=by
 refine⟨sk,hf.len,hf.size,hf.lenb,fun p n => ?_,hc⟩;have hp:fD m' p n=fD m p n:=by unfold fD;rw[sk.ar]
 cases hg:fD m p n with
 | none=>rw[oh hg,oh (hp.trans hg)]
 | some g=>rw[iE hg,iE (hp.trans hg)];exact hs p n g hg
theorem Pv {x:Fr} (h:bO x=0):bO { x with d:=false }=0:=by
 rw[dC] at h ⊢;exact⟨h.1,fun h0=>⟨(h.2.1 h0).1,rfl,(h.2.1 h0).2.2.1,(h.2.1 h0).2.2.2⟩,h.2.2⟩
theorem Ra {x:Int × Page} {b:Int} (h0:0≤b) (hq:∀q∈d.queue,q.1≠b∧0≤q.1):(iV d x).blocks.getD b.toNat zPg=d.blocks.getD b.toNat zPg:=by
 unfold iV;cases hd:d.queue with
 | nil=>rfl
 | cons q r=>
  simp only;split
  ·have:=hq q (by rw[hd];exact kv);rw[bM,uo (by omega),bM]
  ·rfl
theorem Sc {x q:Int × Page} (h:q∈(iV d x).queue):q∈d.queue∨q=x:=by
 unfold iV at h;cases hd:d.queue with
 | nil=>rw[hd] at h;simp at h;exact .inr h
 | cons a r=>
  rw[hd] at h;simp only at h;split at h
  ·rcases jK.1 h with h|h
   ·exact .inl (jM _ h)
   ·exact .inr (bN.1 h)
  rcases jK.1 h with h|h
  ·exact .inl h
  ·exact .inr (bN.1 h)
def gM (m:Ma) (f:Nat):Ma:=
 let x:=aD m f
 setFr { m with st:=dL m.st x.f x.i,dk:=iV m.dk (dR m.st x.f x.i,x.p) } f { x with d:=false }
theorem Io {k:Kp} (h:Rt k.m) (hf:f<k.m.m.fs.length):jB k f=if (aD k.m f).f<0∨(aD k.m f).d=false∨bZ k.m.st (aD k.m f).f (aD k.m f).i≠0 then k else ⟨gM k.m f,k.e⟩:=by
 unfold jB
 by_cases hc:(aD k.m f).f<0∨(aD k.m f).d=false∨bZ k.m.st (aD k.m f).f (aD k.m f).i≠0
 ·simp only[if_pos hc]
 have hb:bZ k.m.st (aD k.m f).f (aD k.m f).i=0:=by
  by_cases e:bZ k.m.st (aD k.m f).f (aD k.m f).i=0
  ·exact e
  ·exact absurd (.inr (.inr e)) hc
 have hB:=(blocked hb).2;have a:aI k.m.dk (dR k.m.st (aD k.m f).f (aD k.m f).i)=0:=iQ.2 ⟨h.pt.dk,hB.b0,by rw[h.pt.dkl];exact hB.bc⟩;simp only[if_neg hc];unfold gM dz;rw[a];simp only[iF,if_true];congr 1;split<;>simp_all
structure Cleaned (m m' : Ma) (f:Nat):Prop where
 rt:Rt m'
 co:Co m'
 vis:Ei m m'
 sl:m'.sl=m.sl
 sw:m'.sw=m.sw
 ca:m'.ca=m.ca
 sp:m'.sp=m.sp
 fs:m'.m=(setFr m f { aD m f with d:=false }).m
theorem EM (h:Rt m) (hc:Co m) (hf:f<m.m.fs.length) (h0:0≤(aD m f).f) (hb:bZ m.st (aD m f).f (aD m f).i=0):Cleaned m (gM m f) f:=by
 obtain⟨hF,hB⟩:=blocked hb;obtain⟨c,v,hp⟩:=h.fc f hf h0;have l:=h.ca.fr c v;rw[hp,bD] at l;have hD:aI m.dk (dR m.st (aD m f).f (aD m f).i)=0:=iQ.2 ⟨h.pt.dk,hB.b0,by rw[h.pt.dkl];exact hB.bc⟩;have z:dR m.st (aD m f).f (aD m f).i<m.dk.blocks.length:=by rw[h.pt.dkl];exact hB.bc
 have hj:∀g,aD (gM m f) g=if g=f then { aD m f with d:=false } else aD m g:=fun g=>fJ (m:={ m with st:=dL m.st (aD m f).f (aD m f).i,dk:=iV m.dk (dR m.st (aD m f).f (aD m f).i,(aD m f).p) }) (x:={ aD m f with d:=false }) hf g;have a:∀g,(aD (gM m f) g).p=(aD m g).p∧(aD (gM m f) g).f=(aD m g).f∧(aD (gM m f) g).i=(aD m g).i∧(aD (gM m f) g).r=(aD m g).r:=by
  intro g;rw[hj]
  by_cases e:g=f
  ·rw[if_pos e,e];exact⟨rfl,rfl,rfl,rfl⟩
  ·rw[if_neg e];exact⟨rfl,rfl,rfl,rfl⟩
 have o:(gM m f).m.fs.length=m.m.fs.length:=dM;have s:kY m.st (gM m f).st:=⟨hB.len,hB.size,hB.lenb⟩;have w:∀p n,aL (gM m f) p n=aL m p n:=fun _ _=>rfl;have hz:∀g j,mK m.st g j→¬(g=(aD m f).f∧j=(aD m f).i)→dJ (gM m f) g j=dJ m g j:=by
  intro g j t hx;have hs:bn (gM m f).st g j=bn m.st g j:=hB.other g j t.2.1 hx;unfold dJ;rw[hs,hB.size g |> (fun e=>show (aH (gM m f).st g).n=(aH m.st g).n from e)]
  by_cases hb0:0≤bn m.st g j
  ·rw[if_pos hb0,if_pos hb0];congr 1;show dN (iV m.dk _) _=_;rw[xm h.pt.dk hB.b0 z,if_neg];rintro⟨_,e⟩;simp only at e;rcases hB.was with ⟨hw,_⟩|⟨_,hn,_⟩
   ·exact hx (LX h.pt.st t hF (by omega) (by omega))
   ·exact hn (by rw[e];exact tO t)
  ·rw[if_neg hb0,if_neg hb0]
 have hv:dJ (gM m f) (aD m f).f (aD m f).i=(aD m f).p:=by have hs:bn (gM m f).st (aD m f).f (aD m f).i=dR m.st (aD m f).f (aD m f).i:=hB.at_;have ht:=hc.tail c v;rw[hp,bD,←l.2.1,←l.2.2] at ht;unfold dJ;rw[hs,if_pos hB.b0,show (aH (gM m f).st (aD m f).f).n=(aH m.st (aD m f).f).n from hB.size _];show cO (dN (iV m.dk _) _) _=_;rw[xm h.pt.dk hB.b0 z,if_pos ⟨hD,rfl⟩];exact ht
 have y:∀g j,mK m.st g j→aR (gM m f) g j=aR m g j:=by
  intro g j t;have hl:nD (gM m f) g j=nD m g j:=rfl;rw[jA,jA,hl];rcases ko m g j with ⟨d,hd,hdm,_⟩|⟨hd,hno⟩
  ·rw[hd];exact (a d.k.toNat).1
  rw[hd];exact hz g j t fun e=>hno c v ⟨by rw[e.1];exact l.2.1.symm,by rw[e.2];exact l.2.2.symm⟩
 have hE:Pt (gM m f):=by have hd:cB (iV m.dk (dR m.st (aD m f).f (aD m f).i,(aD m f).p))=0:=xH h.pt.dk hB.b0 z;exact { fr:=Hz h.pt.fr (Pv (h.pt.frE hf)),sl:=h.pt.sl,sw:=h.pt.sw,dk:=hd,st:=hB.right,swl:=h.pt.swl,dkl:=by show ((iV m.dk _).blocks.length:Int)=_;rw[vo,h.pt.dkl];exact hB.count.symm,spl:=h.pt.spl,ar:=h.pt.ar,tb:=h.pt.tb }
 have hr:sV (gM m f):=⟨fun d hd=>(h.ca.file d hd).same hB.len hB.lenb,fun d hd=>by rw[o];exact h.ca.lt d hd,fun d hd=>by have:=a d.k.toNat;rw[this.2.1,this.2.2.1,this.2.2.2];exact h.ca.fr d hd,h.ca.srt⟩;refine⟨⟨hE,⟨fun b hb0 hG => ?_,fun q hq => ?_⟩,h.live,hr,fun p n hk => ?_,fun i hi => ?_,fun i hi hy => ?_,h.cs⟩,⟨fun d hd => ?_,fun d hd hA => ?_,fun i hi hh => ?_⟩,?_,rfl,rfl,rfl,rfl,rfl⟩
 ·have hC : b<m.dk.blocks.length:=by have:((gM m f).dk.blocks.length)=m.dk.blocks.length:=vo _ _;omega
  by_cases hu:b∈ig m.st
  ·exact .inl ((hB.used b hb0).2 (.inr hu))
  by_cases e:b=dR m.st (aD m f).f (aD m f).i
  ·exact .inl ((hB.used b hb0).2 (.inl e))
  refine .inr ?_;show (iV m.dk _).blocks.getD b.toNat zPg=zPg;rw[Ra hb0 (fun q hq=>⟨fun e=>hu (by rw[←e];exact h.trim.2 q hq),((jY _).1 h.pt.dk).2.2 q hq |>.1⟩)];exact (h.trim.1 b hb0 hC).resolve_left hu
 ·rcases Sc hq with hq|rfl
  ·exact (hB.used _ (((jY _).1 h.pt.dk).2.2 q hq).1).2 (.inr (h.trim.2 q hq))
  ·exact (hB.used _ hB.b0).2 (.inl rfl)
 ·obtain⟨g,hg,u⟩:=h.en p n hk;refine⟨g,hg,u.sw,fun ha=>by rw[o];exact u.lt ha,fun ha => ?_⟩;have h1:=u.fr ha;have h2:=a (aL m p n).n.toNat;unfold KX at h1 ⊢;rw[w,h2.2.1,h2.2.2.1,h2.2.2.2];exact h1
 ·rw[(a i).2.2.2];exact h.cf i (by rw[←o];exact hi)
 ·rw[(a i).2.1] at hy;exact h.fc i (by rw[←o];exact hi) hy
 ·rw[(a d.k.toNat).1,show (aH (gM m f).st d.f).n=(aH m.st d.f).n from hB.size _];exact hc.tail d hd
 ·by_cases e:d.k.toNat=f
  ·have hm:d=c:=h.ca.uniq hd v (by have:=h.ca.lt d hd;omega);subst hm;rw[(a d.k.toNat).1,e];rw[←l.2.1,←l.2.2];exact hv.symm
  rw[hj,if_neg e] at hA;rw[(a d.k.toNat).1,hc.clean d hd hA];refine (hz d.f d.i (h.ca.file d hd) fun e2=>e ?_).symm;have hm:d=c:=srt_eq h.ca.srt hd v (by rw[e2.1];exact l.2.1) (by rw[e2.2];exact l.2.2);rw[hm,hp];exact bD f
 ·rw[(a i).2.1];rw[hj] at hh
  by_cases e:i=f
  ·rw[e];exact h0
  ·rw[if_neg e] at hh;exact hc.anon i (by rw[←o];exact hi) hh
 refine Da h.pt (gZ.of rfl) s y fun p n g hg => ?_;rw[w];exact oK h.pt.st (h.pt.pg hg).1 s y (fun _=>⟨(a _).1,(a _).2.1⟩) (fun _=>⟨rfl,rfl⟩)
theorem yF (n:Int):dB zTb n=zEn:=by
 by_cases h:0≤n∧n<64
 ·obtain⟨q,r,hq,hr,rfl,_,_⟩:=wJ h;exact Fs hq hr (by simp[zTb])
 ·exact qx (by omega)
theorem uH (h:m'.m=m.m) (g:Nat):aD m' g=aD m g:=by unfold aD;rw[h]
theorem lW (h:(aL m p n).k≠0):p<m.sp.length∧0≤n∧n<64:=by
 refine⟨?_,?_⟩
 ·rcases fM p m.sp.length with hp|hp
  ·exact hp
  refine absurd ?_ h;unfold aL;rw[qd hp,show zSp.tb=zTb from rfl,yF];rfl
 by_cases hn:n<0∨64≤n
 ·exact absurd (by rw[Nt p hn];rfl) h
 ·omega
theorem Kg (k:Kp) (u:Nat × Int) (h1:(aL k.m u.1 u.2).k=1) (h2:(aL k.m u.1 u.2).n=f):iU k u.1 u.2=Ub f zEn k u:=by
 unfold iU Ub;have b : (dB (bX k.m u.1).tb u.2).k=1:=h1;have a : (dB (bX k.m u.1).tb u.2).n=f:=h2;simp only[b,a,if_true]
theorem OQ {k:Kp} (h:Rt k.m) (hc:Co k.m) (hf:f<k.m.m.fs.length) (h0:0≤(aD k.m f).f) (hb:ja k.m f=true):∃m1,jB k f=⟨m1,k.e⟩∧Cleaned k.m m1 f:=by
 rw[Io h hf]
 by_cases hd:(aD k.m f).d=false
 ·rw[if_pos (.inr (.inl hd))];refine⟨k.m,rfl,h,hc,.refl _,rfl,rfl,rfl,rfl,?_⟩;have:({ aD k.m f with d:=false }:Fr)=aD k.m f:=by rw[←hd]
  rw[this,De hf]
 have a:bZ k.m.st (aD k.m f).f (aD k.m f).i=0:=by
  unfold ja at hb;simp only[qJ,decide_eq_true_eq,pJ] at hb;rcases hb with (h1|h1)|h1
  ·omega
  ·exact absurd h1 hd
  ·exact h1
 rw[if_neg]
 ·exact⟨_,rfl,EM h hc hf h0 a⟩
 rintro (h1|h1|h1)
 ·omega
 ·exact hd h1
 ·exact h1 a
structure uE (m m' : Ma) (f:Nat):Prop where
 rt:Rt m'
 co:Co m'
 vis:Ei m m'
 len:m'.m.fs.length=m.m.fs.length
 hand:m'.m.hand=m.m.hand
 free:aD m' f=frZ
 oth:∀g,g≠f→aD m' g=aD m g
 sll:m'.sl.length=m.sl.length
 ents:∀p n,¬((aL m p n).k=1∧(aL m p n).n=f)→aL m' p n=aL m p n
 cas:∀c,c∈m'.ca↔c∈m.ca∧c.k≠f
 std:(m'.st=m.st∧m'.dk=m.dk)∨(0≤(aD m f).f∧(aD m f).d=true∧bZ m.st (aD m f).f (aD m f).i=0∧m'.st=(gM m f).st∧m'.dk=(gM m f).dk)
theorem Py {l:List Cc} (hs:l.Pairwise BQ) {c:Cc} (hj:l[j]?=some c) (d:Cc):d∈l.eraseIdx j↔d∈l∧¬(d.f=c.f∧d.i=c.i):=by
 have b:=(dx.1 hj).1;have a:=(dx.1 hj).2;rw[List.mem_eraseIdx_iff_getElem];constructor
 ·rintro⟨i,hi,hne,rfl⟩;refine⟨eZ _,fun e => ?_⟩;have:=srt_eq hs (eZ hi) (dm hj) e.1 e.2;rcases yw hne with h1|h1
  ·have h2:=BP.1 hs i j hi b h1;rw[a,this] at h2;exact Gu _ h2
  have h2:=BP.1 hs j i b hi h1;rw[a,this] at h2;exact Gu _ h2
 rintro⟨hd,hne⟩;obtain⟨i,hi,rfl⟩:=jC.1 hd;exact⟨i,hi,fun e=>hne (by subst e;rw[a];exact⟨rfl,rfl⟩),rfl⟩
theorem yX {α:Type} (q:α→Bool):∀(l:List α) (j:Nat) (h:j<l.length),(l.eraseIdx j).countP q+ut (q l[j])=l.countP q
 | a::l,0,_=>by simp only[List.eraseIdx_cons_zero,Bv,pU,ut]
 | a::l,j+1,h=>by have:=yX q l j (by simpa using h);simp only[List.eraseIdx_cons_succ,Bi,pU];omega
structure Xo (m M:Ma) (j:Nat) (d:Cc):Prop where
 rt:Rt M
 co:Co M
 sk:gZ m M
 len:M.m.fs.length=m.m.fs.length
 hand:M.m.hand=m.m.hand
 sl:M.sl=m.sl
 sw:M.sw=m.sw
 dk:M.dk=m.dk
 st:M.st=m.st
 ca:M.ca=m.ca.eraseIdx j
 fr:∀g,aD M g=if g=d.k.toNat then frZ else aD m g
 cas:∀e,e∈M.ca↔e∈m.ca∧¬(e.f=d.f∧e.i=d.i)
 cak:∀e,e∈M.ca→e∈m.ca∧e.k.toNat≠d.k.toNat
 ents:∀p n,aL M p n=if (aL m p n).k=1∧(aL m p n).n=d.k then zEn else aL m p n
theorem VR {k:Kp} (h:Rt k.m) (hc:Co k.m) {d:Cc} (hd:k.m.ca[j]?=some d):∃M,zh k j=⟨M,k.e⟩∧Xo k.m M j d:=by
 have hb:=dm hd;have hR:=h.ca.lt d hb;obtain⟨f,hk⟩:∃f:Nat,d.k=f:=⟨d.k.toNat,by omega⟩;have hf:f<k.m.m.fs.length:=by omega
 have hP:=h.ca.fr d hb;rw[hk,bD] at hP;have hq:vk k.m f=1:=by rw[←hk];exact h.ca.one hb
 have hr:=h.cf f hf;rw[hq,←sW] at hr;have hv:=Ce (f:=f) (e':=zEn) (by decide) (fun k u=>iU k u.1 u.2) Kg (aX k.m f) k h.pt (Db k.m f) hf (by omega);obtain⟨r1,r2,r3,r4,r5,r6,r7⟩:=hv;have hG:(aX k.m f).foldl (fun k u=>iU k u.1 u.2) k=kI k (aX k.m f):=rfl;rw[hG] at r1 r2 r3 r4 r5 r6 r7;generalize hk2:kI k (aX k.m f)=k2 at r1 r2 r3 r4 r5 r6 r7;have hy:gD (aD k.m f) (-((aX k.m f).length:Int)) = { aD k.m f with r:=1 }:=by unfold gD;rw[if_neg (by omega)];congr 1;omega
 simp only[hy] at r5;have hQ:vQ k.m j=d:=by unfold vQ;rw[bM,hd];rfl
 have hO:zh k j=fV ⟨{ k2.m with ca:=k2.m.ca.eraseIdx j },k2.e⟩ f (-1):=by unfold zh;simp only[hQ,hk,hk2]
 have hE:f<k2.m.m.fs.length:=by rw[r5,dG];exact hf
 have hj:aD k2.m f = { aD k.m f with r:=1 }:=by have:aD k2.m f=aD (setFr k.m f { aD k.m f with r:=1 }) f:=uH r5 f;rw[this,fJ hf,if_pos rfl]
 have hw:∀g,g≠f→aD k2.m g=aD k.m g:=by intro g hg;have:aD k2.m g=aD (setFr k.m f { aD k.m f with r:=1 }) g:=uH r5 g;rw[this,fJ hf,if_neg hg]
 have hC:Pt { k2.m with ca:=k2.m.ca.eraseIdx j }:={ fr:=r2.fr,sl:=r2.sl,sw:=r2.sw,dk:=r2.dk,st:=r2.st,swl:=r2.swl,dkl:=r2.dkl,spl:=r2.spl,ar:=r2.ar,tb:=r2.tb };obtain⟨e3,p3⟩:=xZ (k:=⟨{ k2.m with ca:=k2.m.ca.eraseIdx j },k2.e⟩) (f:=f) (n:=-1) hC hE (by show (aD k2.m f).r≠0;rw[hj];show (1:Int)≠0;decide) (by show -(aD k2.m f).r≤-1;rw[hj];show -(1:Int)≤-1;decide) (by show -1≤1000-(aD k2.m f).r;rw[hj];show -1≤(1000:Int)-1;decide);have hz:gD (aD { k2.m with ca:=k2.m.ca.eraseIdx j } f) (-1)=frZ:=by show gD (aD k2.m f) (-1)=frZ;rw[hj];rfl
 rw[hz] at e3 p3;refine⟨_,hO.trans (e3.trans (by rw[r1])),?_⟩;generalize hM:setFr { k2.m with ca:=k2.m.ca.eraseIdx j } f frZ=M at p3 ⊢;have y:∀g,aD M g=if g=f then frZ else aD k.m g:=by
  intro g;rw[←hM,fJ (m:={ k2.m with ca:=k2.m.ca.eraseIdx j }) hE]
  by_cases e:g=f
  ·rw[if_pos e,if_pos e]
  ·rw[if_neg e,if_neg e,←hw g e];rfl
 have b:M.m.fs.length=k.m.m.fs.length:=by rw[←hM,dG];show k2.m.m.fs.length=_;rw[r5,dG]
 have v:M.sl=k.m.sl:=by rw[←hM];exact r3.sl
 have hI:M.sw=k.m.sw:=by rw[←hM];exact r3.sw
 have w:M.dk=k.m.dk:=by rw[←hM];exact r3.dk
 have o:M.st=k.m.st:=by rw[←hM];exact r3.st
 have x:M.ca=k.m.ca.eraseIdx j:=by rw[←hM];show k2.m.ca.eraseIdx j=_;rw[r3.ca]
 have hL:=(dx.1 hd).1;have hl:gZ k.m M:=by rw[←hM];exact r4.trans (gZ.of rfl)
 have hx:∀p n,(p,n)∈aX k.m f↔(aL k.m p n).k=1∧(aL k.m p n).n=f:=by
  intro p n;rw[tK];constructor
  ·rintro⟨_,_,h3⟩;exact h3
  intro h3;have h4:=lW (m:=k.m) (p:=p) (n:=n) (by rw[h3.1];decide);exact⟨h4.1,h4.2,h3⟩
 have q:∀p n,aL M p n=if (aL k.m p n).k=1∧(aL k.m p n).n=f then zEn else aL k.m p n:=fun p n=>by
  have:aL M p n=if (p,n)∈aX k.m f then zEn else aL k.m p n:=by rw[←hM];exact r6 p n
  rw[this];simp only[hx]
 have t:∀kd i,bU M kd i+(if kd=1∧i=f then (aX k.m f).length else 0)=bU k.m kd i+(if kd=zEn.k∧i=zEn.n then (aX k.m f).length else 0):=fun kd i=>by rw[←hM];exact r7 kd i
 have hh:∀e,e∈M.ca↔e∈k.m.ca∧¬(e.f=d.f∧e.i=d.i):=fun e=>by rw[x];exact Py h.ca.srt hd e
 have a:∀e,e∈M.ca→e∈k.m.ca∧e.k.toNat≠f:=fun e he=>by have h1:=(hh e).1 he;refine⟨h1.1,fun h2=>h1.2 ?_⟩;have h3:=h.ca.uniq h1.1 hb (by have:=h.ca.lt e h1.1;omega);rw[h3];exact⟨rfl,rfl⟩
 have l:∀g,g≠f→aD M g=aD k.m g:=fun g hg=>by rw[y,if_neg hg]
 have hB:sV M:=⟨fun e he=>by rw[o];exact h.ca.file e (a e he).1,fun e he=>by rw[b];exact h.ca.lt e (a e he).1,
  fun e he=>by rw[l _ (a e he).2];exact h.ca.fr e (a e he).1,by rw[x];exact h.ca.srt.sublist (List.eraseIdx_sublist _ _)⟩
 have hA:∀g i,dJ M g i=dJ k.m g i:=fun g i=>by unfold dJ;rw[o,w]
 refine⟨⟨p3,⟨?_,?_⟩,fun p hp => ?_,hB,fun p n z => ?_,fun i hi => ?_,fun i hi hn => ?_,fun s hs => ?_⟩,⟨fun e he => ?_,fun e he hF => ?_,fun i hi hm => ?_⟩,hl,b,?_,v,hI,w,o,x,by rw[hk,bD];exact y,hh,by rw[hk,bD];exact a,by rw[hk];exact q⟩
 ·rw[w,o];exact h.trim.1
 ·rw[w,o];exact h.trim.2
 ·rw[hl.lv] at hp;have h1:=h.live p hp;rw[hl.ar];refine⟨h1.1,fun n => ?_⟩;rw[q]
  by_cases hu:(aL k.m p n).k=1∧(aL k.m p n).n=f
  ·rw[if_pos hu];rfl
  ·rw[if_neg hu];exact h1.2 n
 ·rw[q] at z ⊢
  by_cases hu:(aL k.m p n).k=1∧(aL k.m p n).n=f
  ·rw[if_pos hu] at z; exact absurd rfl z
  rw[if_neg hu] at z ⊢;obtain⟨g,hg,ha⟩:=h.en p n z;refine⟨g,by unfold fD;rw[hl.ar];exact hg,by rw[v];exact ha.sw,by rw[b];exact ha.lt,fun hD => ?_⟩;have hK:(aL k.m p n).n.toNat≠f:=by intro e;have h5:=((dS _).1 (mo h.pt p n));exact hu ⟨hD,by omega⟩
  rw[y,if_neg hK];exact ha.fr hD
 ·have a1:=t 1 i;have hJ:¬((1:Int)=zEn.k∧(i:Int)=zEn.n):=fun e=>by cases e.1
  rw[if_neg hJ] at a1;have a2:=yX (fun c=>decide (c.k=(i:Int))) k.m.ca j hL;have hN:=(dx.1 hd).2;rw[hN] at a2;have a3:vk M i=(k.m.ca.eraseIdx j).countP (fun c=>decide (c.k=(i:Int))):=by unfold vk;rw[x]
  by_cases e:i=f
  ·subst e;rw[if_pos ⟨rfl,rfl⟩] at a1;have a4:ut (decide (d.k=(i:Int)))=1:=by rw[hk];simp[ut]
   have a5:k.m.ca.countP (fun c=>decide (c.k=(i:Int)))=1:=hq;rw[sW] at a1;rw[y,if_pos rfl,a3];show (0:Int)=_;omega
  rw[if_neg (fun h'=>e (by have:=h'.2;omega))] at a1;have a4:ut (decide (d.k=(i:Int)))=0:=by unfold ut;rw[if_neg];simp only[decide_eq_true_eq,hk];omega
  have a5:=h.cf i (by rw[←b];exact hi);have a6:vk k.m i=k.m.ca.countP (fun c=>decide (c.k=(i:Int))):=rfl;rw[l i e,a3];omega
 ·by_cases e:i=f
  ·subst e;rw[y,if_pos rfl] at hn;exact absurd hn (by decide)
  rw[l i e] at hn;obtain⟨c',hH,ht⟩:=h.fc i (by rw[←b];exact hi) hn;refine⟨c',(hh c').2 ⟨hH,fun h2 => ?_⟩,ht⟩;have:=srt_eq h.ca.srt hH hb h2.1 h2.2;rw[this,hk] at ht;omega
 ·have a1:=t 2 s;rw[if_neg (fun e=>by cases e.1),if_neg (fun e=>by cases e.1)] at a1;have a2:=h.cs s (by rw[←v];exact hs);have a3:lC M s=lC k.m s:=by unfold lC;rw[v]
  rw[a3,a2];omega
 ·have h1:=a e he;rw[l _ h1.2,o];exact hc.tail e h1.1
 ·have h1:=a e he;rw[l _ h1.2] at hF ⊢;rw[hA];exact hc.clean e h1.1 hF
 ·by_cases e:i=f
  ·rw[y,if_pos e] at hm;cases hm
  rw[l i e] at hm ⊢;exact hc.anon i (by rw[←b];exact hi) hm
 rw[←hM];show k2.m.m.hand=_;rw[r5];rfl
theorem Xo.con {d:Cc} (h:Rt m) (U:Xo m M j d) {g i:Int} (hn:¬(g=d.f∧i=d.i)):aR M g i=aR m g i:=by
 rcases ko m g i with ⟨e,he,hem,hef,hei⟩|⟨he,hno⟩
 ·subst hef;subst hei;have a:=(U.cas e).2 ⟨hem,hn⟩;rw[ed h.ca hem,ed U.rt.ca a,U.fr,if_neg (U.cak e a).2]
 rw[dY hno,dY (fun e' b=>hno e' ((U.cas e').1 b).1)];unfold dJ;rw[U.st,U.dk]
theorem KO {k:Kp} (h:Rt k.m) (hc:Co k.m) (hf:f<k.m.m.fs.length) (h0:0≤(aD k.m f).f) (hb:ja k.m f=true) :
  (fF k f).e=k.e∧uE k.m (fF k f).m f:=by
 obtain⟨m1,hi,hC⟩:=OQ h hc hf h0 hb;have hq:aX k.m f=aX m1 f:=by unfold aX bX;rw[hC.sp]
 have q:aD m1 f = { aD k.m f with d:=false }:=by have:aD m1 f=aD (setFr k.m f { aD k.m f with d:=false }) f:=uH hC.fs f;rw[this,fJ hf,if_pos rfl]
 have w:∀g,g≠f→aD m1 g=aD k.m g:=by intro g hg;have:aD m1 g=aD (setFr k.m f { aD k.m f with d:=false }) g:=uH hC.fs g;rw[this,fJ hf,if_neg hg]
 have hh:m1.m.fs.length=k.m.m.fs.length:=by rw[hC.fs];exact dG
 have y:f<m1.m.fs.length:=by rw[hh];exact hf
 obtain⟨c,a,b⟩:=hC.rt.fc f y (by rw[q];exact h0);have j:=hC.rt.ca.fr c a;rw[b,bD] at j;have o : (aD k.m f).f=c.f∧(aD k.m f).i=c.i:=by rw[←j.2.1,←j.2.2,q];exact⟨rfl,rfl⟩
 obtain⟨d,hd,hy,hx⟩:=Dm ((Gh hC.rt.ca.srt).2 ⟨c,a,o.1.symm,o.2.symm⟩:FX m1.ca (aD k.m f).f (aD k.m f).i=true);have hz:d=c:=srt_eq hC.rt.ca.srt (dm hd) a (hy.trans o.1) (hx.trans o.2);subst hz;obtain⟨M,hM,U⟩:=VR (k:=⟨m1,k.e⟩) hC.rt hC.co hd;have hp:(kI ⟨m1,k.e⟩ (aX m1 f)).m.ca=m1.ca:=by have:=Ce (f:=f) (e':=zEn) (by decide) (fun k u=>iU k u.1 u.2) Kg (aX m1 f) ⟨m1,k.e⟩ hC.rt.pt (Db m1 f) y (by have hr:=hC.rt.cf f y;rw[←sW] at hr;show _≤(aD m1 f).r;omega);exact this.2.2.1.ca
 have hv:fF k f=⟨M,k.e⟩:=by
  rw[←hM];unfold fF zh;simp only;have hA:vQ m1 (sJ m1.ca (aD k.m f).f (aD k.m f).i)=d:=by unfold vQ;rw[bM,hd];rfl
  rw[if_pos h0,if_neg (by rw[hb];decide),hi,hq,hA,b];simp only[hp];rw[if_pos ((Gh hC.rt.ca.srt).2 ⟨d,a,o.1.symm,o.2.symm⟩)]
 rw[hv];refine⟨rfl,?_⟩;change uE k.m M f;have hs:d.k.toNat=f:=by omega
 have hm:∀g,aD M g=if g=f then frZ else aD k.m g:=fun g=>by
  rw[U.fr,hs]
  by_cases e:g=f
  ·rw[if_pos e,if_pos e]
  ·rw[if_neg e,if_neg e];exact w g e
 have ha:gZ k.m m1:=hC.vis.sk;have hB:gZ k.m M:=ha.trans U.sk;have z:∀p n,aL m1 p n=aL k.m p n:=fun p n=>by unfold aL bX;rw[hC.sp]
 have l:kY m1.st M.st:=kY.of U.st;have t:∀g i,mK m1.st g i→aR M g i=aR m1 g i:=by
  intro g i _
  by_cases hed:g=d.f∧i=d.i
  ·rw[hed.1,hed.2,ed hC.rt.ca a,dY (fun e' hw=>((U.cas e').1 hw).2)];rw[show dJ M d.f d.i=dJ m1 d.f d.i by unfold dJ;rw[U.st,U.dk]];exact (hC.co.clean d a (by rw[b,bD,q])).symm
  ·exact U.con hC.rt hed
 have v:Ei m1 M:=by
  refine Da hC.rt.pt U.sk l t fun p n g hg => ?_;rw[U.ents]
  by_cases hu:(aL m1 p n).k=1∧(aL m1 p n).n=d.k
  ·rw[if_pos hu];obtain⟨g',hj,hn⟩:=hC.rt.en p n (by rw[hu.1];decide);rw[hg] at hj;cases hj;have h2:=hn.fr hu.1;rw[hu.2,b,bD] at h2;have h3:=h2.1 (by rw[q];exact h0);have x:mK m1.st g.fi g.pg:=by rw[←h3.1,←h3.2,j.2.1,j.2.2];exact hC.rt.ca.file d a
   have ht:¬g.fi<0:=by have:=x.1;omega
   have s:¬((M.st.fs.length:Int)≤g.fi∨nU M.st g.fi g.pg=true):=by rw[U.st];exact nV hC.rt.pt.st x
   have hl:sM m1 g (aL m1 p n)=((aD m1 f).p,false,0):=by unfold sM;rw[if_pos hu.1,hu.2,b,vP,q];simp only[GK,true_and,and_true];exact decide_eq_false (by omega)
   rw[hl];unfold sM;rw[if_neg (by decide),if_neg (by decide),if_neg ht,if_neg s,t _ _ x];have:g.fi=d.f∧g.pg=d.i:=⟨by rw[←h3.1,j.2.1],by rw[←h3.2,j.2.2]⟩;rw[this.1,this.2,ed hC.rt.ca a,b,bD]
  rw[if_neg hu];refine oK hC.rt.pt.st (hC.rt.pt.pg hg).1 l t (fun hk => ?_) (fun hk=>by rw[U.sw];exact⟨rfl,rfl⟩);have s:(aL m1 p n).n.toNat≠d.k.toNat:=by intro e;have h5:=((dS _).1 (mo hC.rt.pt p n));exact hu ⟨hk,by omega⟩
  have:aD M (aL m1 p n).n.toNat=aD m1 (aL m1 p n).n.toNat:=by rw[U.fr,if_neg s]
  exact⟨congrArg Fr.p this,congrArg Fr.f this⟩
 refine⟨U.rt,U.co,hC.vis.trans v,U.len.trans hh,?_,by rw[hm,if_pos rfl],fun g hg=>by rw[hm,if_neg hg],by rw[U.sl,hC.sl],fun p n s=>by rw[U.ents,z,b,if_neg s],fun e => ?_,?_⟩
 ·rw[U.hand,hC.fs];rfl
 ·rw[U.cas,hC.ca];constructor
  ·rintro⟨h1,h2⟩;refine⟨h1,fun h3=>h2 ?_⟩;rw[h.ca.uniq h1 (by rw[←hC.ca];exact a) (by rw[h3,b])];exact⟨rfl,rfl⟩
  rintro⟨h1,h2⟩;refine⟨h1,fun h3=>h2 ?_⟩;rw[srt_eq h.ca.srt h1 (by rw[←hC.ca];exact a) h3.1 h3.2,b]
 rw[U.st,U.dk];have h1:=Io h hf;rw[hi] at h1
 by_cases hcd:(aD k.m f).f<0∨(aD k.m f).d=false∨bZ k.m.st (aD k.m f).f (aD k.m f).i≠0
 ·rw[if_pos hcd] at h1;have h2:m1=k.m:=congrArg Kp.m h1;rw[h2];exact .inl ⟨rfl,rfl⟩
 rw[if_neg hcd] at h1;have h2:m1=gM k.m f:=congrArg Kp.m h1;rw[h2];refine .inr ⟨h0,?_,?_,rfl,rfl⟩
 ·cases e:(aD k.m f).d with
  | true=>rfl
  | false=>exact absurd (.inr (.inl e)) hcd
 by_cases e:bZ k.m.st (aD k.m f).f (aD k.m f).i=0
 ·exact e
 ·exact absurd (.inr (.inr e)) hcd
def MF (m:Ma) (f i:Int) (P:Page):Prop:=∃c∈m.ca,c.f=f∧c.i=i∧(aD m c.k.toNat).d=true∧(aD m c.k.toNat).p=P
structure RH (m m' : Ma):Prop where
 st:m'.st=m.st
 dk:m'.dk=m.dk
 di:∀f i P,MF m' f i P→MF m f i P
structure Xd (P:Ma→Prop):Prop where
 cl:∀m f,Rt m→Co m→P m→f<m.m.fs.length→0≤(aD m f).f→(aD m f).d=true→bZ m.st (aD m f).f (aD m f).i=0→P (gM m f)
 sub:∀m m',Rt m→Co m→P m→Rt m'→Co m'→RH m m'→P m'
def Inv (m m' : Ma):Prop:=∀P,Xd P→P m→P m'
theorem Inv.refl (m:Ma):Inv m m:=fun _ _ h=>h
theorem Inv.trans {a b c:Ma} (h:Inv a b) (k:Inv b c):Inv a c:=fun P hp ha=>k P hp (h P hp ha)
theorem RH.inv (h:RH m m') (h1:Rt m) (h2:Co m) (h3:Rt m') (h4:Co m'):Inv m m':=fun P hp hm=>hp.sub m m' h1 h2 hm h3 h4 h
theorem RH.of (st:m'.st=m.st) (dk:m'.dk=m.dk) (hc:∀c∈m'.ca,(aD m' c.k.toNat).d=true→c∈m.ca∧(aD m' c.k.toNat).d=(aD m c.k.toNat).d∧(aD m' c.k.toNat).p=(aD m c.k.toNat).p):RH m m':=
 ⟨st,dk,fun f i P ⟨c,a1,a2,a3,a4,a5⟩=>have ⟨b1,b2,b3⟩:=hc c a1 a4;⟨c,b1,a2,a3,by rw[←b2];exact a4,by rw[←b3];exact a5⟩⟩
theorem uE.inv (h:Rt m) (hc:Co m) (hf:f<m.m.fs.length) (E:uE m m' f):Inv m m':=by
 have b:∀c∈m'.ca,c∈m.ca∧c.k.toNat≠f:=fun c a=>by have h1:=(E.cas c).1 a;have h2:=h.ca.lt c h1.1;exact⟨h1.1,fun e=>h1.2 (by omega)⟩
 rcases E.std with ⟨h1,h2⟩|⟨h0,hd,hb,h1,h2⟩
 ·refine RH.inv (.of h1 h2 fun c a _ => ?_) h hc E.rt E.co;rw[E.oth _ (b c a).2];exact⟨(b c a).1,rfl,rfl⟩
 have hC:=EM h hc hf h0 hb;refine Inv.trans (fun P hp hm=>hp.cl m f h hc hm hf h0 hd hb) (RH.inv (.of h1 h2 fun c a _ => ?_) hC.rt hC.co E.rt E.co);have h3:aD (gM m f) c.k.toNat=aD m c.k.toNat:=by rw[uH hC.fs,fJ hf,if_neg (b c a).2]
 rw[E.oth _ (b c a).2,h3];exact⟨(b c a).1,rfl,rfl⟩
theorem Cb {α:Type} {q:α→Bool} {l:List α} (h:0≤idx q l):∃k:Nat,idx q l=k∧∃hk:k<l.length,q l[k]=true:=by
 unfold idx at h ⊢;cases hf:l.findIdx? q with
 | none=>rw[hf] at h;simp at h
 | some k=>
  obtain⟨hk,hq,_⟩:=sF.1 hf;exact⟨k,rfl,hk,hq⟩
theorem Ng {α:Type} {q:α→Bool} {l:List α} (h:idx q l<0):∀x∈l,q x=false:=by
 unfold idx at h;cases hf:l.findIdx? q with
 | none=>exact xh.1 hf
 | some k=>rw[hf] at h;simp at h;omega
theorem Sm (h:Pt m) (h1:1≤n) (h2:n≤1000) :
  (gT m.sl n=0∧∃s:Nat,s<m.sl.length∧lC m s=0∧jD m.sl n=s∧lF m.sl n=m.sl.set s n)∨(gT m.sl n=10∧∀s:Nat,s<m.sl.length→lC m s≠0):=by
 by_cases hi:idx Gy m.sl<0
 ·refine .inr ⟨?_,fun s hs he => ?_⟩
  ·unfold gT;rw[if_neg (by rw[h.sl];simp),if_neg (by omega),if_pos hi]
  have:=Ng hi _ (dm (LK hs));rw[he] at this;simp[Gy] at this
 obtain⟨k,hk,a,hz⟩:=Cb (by omega:0≤idx Gy m.sl);have hE:gT m.sl n=0:=by unfold gT;rw[if_neg (by rw[h.sl];simp),if_neg (by omega),if_neg hi]
 refine .inl ⟨hE,k,a,?_,?_,?_⟩
 ·have h3:=LK a;rw[aN a] at h3;rw[←aS h3];simpa[Gy] using hz
 ·unfold jD;rw[if_pos hE,hk]
 ·unfold lF;rw[if_pos hE,hk,bD]
theorem zD (h:Rt m) (hf:f<m.m.fs.length) (h0:(aD m f).f<0):vk m f=0∧(aD m f).r=(aX m f).length:=by
 have hc:vk m f=0:=sV.none (m:=m) (i:=f) fun c hc hk=>by have h1:=(h.ca.fr c hc).2.1;have h2:=(h.ca.file c hc).1;rw[hk,bD] at h1;omega
 refine⟨hc,?_⟩;have:=h.cf f hf;rw[hc,←sW] at this;omega
theorem LG {k:Kp} (h:Rt k.m) (hc:Co k.m) (hf:f<k.m.m.fs.length) (h0:(aD k.m f).f<0) (hr:(aD k.m f).r≠0) (hb:gT k.m.sl (aX k.m f).length=0) :
  (fF k f).e=k.e∧uE k.m (fF k f).m f:=by
 obtain⟨hS,hV⟩:=zD h hf h0;have h7:=((dC _).1 (h.pt.frE hf)).1;obtain⟨_,s,hs,hZ,z,hU⟩:=(Sm h.pt (n:=(aX k.m f).length) (by omega) (by omega)).resolve_right (fun e=>by rw[hb] at e;cases e.1);have hY:s<60:=by have:=mf h.pt.sl;omega
 have q:(s:Int)<k.m.sw.blocks.length:=by rw[h.pt.swl];omega
 have hC:aI k.m.sw (s:Int)=0:=iQ.2 ⟨h.pt.sw,by omega,q⟩;have hl:∃L:Nat,L=(aX k.m f).length:=⟨_,rfl⟩;obtain⟨L,hL⟩:=hl;generalize hm1:({ k.m with sl:=k.m.sl.set s (L:Int),sw:=iV k.m.sw ((s:Int),(aD k.m f).p) }:Ma)=m1;have hX:fF k f=qw ⟨m1,k.e⟩ f s (aX k.m f):=by
  unfold fF;simp only;rw[if_neg (by omega),if_neg (by rw[hb];simp),z,hC,hU];have hw:dz k.m.sw (s:Int) (aD k.m f).p=iV k.m.sw ((s:Int),(aD k.m f).p):=by unfold dz;rw[if_pos hC]
  have he:iF k.e 0=k.e:=by unfold iF;split<;>simp_all
  rw[hw,he,←hm1,hL]
 have o:m1.m=k.m.m:=by rw[←hm1]
 have a:m1.sp=k.m.sp:=by rw[←hm1]
 have hh:m1.sl=k.m.sl.set s (L:Int):=by rw[←hm1]
 have ha:m1.sw=iV k.m.sw ((s:Int),(aD k.m f).p):=by rw[←hm1]
 have hm:m1.dk=k.m.dk:=by rw[←hm1]
 have hd:m1.st=k.m.st:=by rw[←hm1]
 have hI:m1.ca=k.m.ca:=by rw[←hm1]
 have hM:Pt m1:={ fr:=by rw[o];exact h.pt.fr,sl:=by rw[hh];exact Eb s _ h.pt.sl (by omega) (by omega),sw:=by rw[ha];exact xH h.pt.sw (by show (0:Int)≤s;omega) q,dk:=by rw[hm];exact h.pt.dk,st:=by rw[hd];exact h.pt.st,swl:=by rw[ha,hh,vo,dM];exact h.pt.swl,dkl:=by rw[hm,hd];exact h.pt.dkl,spl:=by rw[a];exact h.pt.spl,ar:=by rw[a];exact h.pt.ar,tb:=by rw[a];exact h.pt.tb };have hJ:∀p n,aL m1 p n=aL k.m p n:=fun p n=>by unfold aL bX;rw[a]
 have hT:aX k.m f=aX m1 f:=by unfold aX bX;rw[a]
 have ht:∀g,aD m1 g=aD k.m g:=fun g=>uH o g;have hH:=Ce (f:=f) (e':=⟨2,s,false⟩) ((dS _).2 (.inr (.inr ⟨rfl,by show (0:Int)≤s;omega,by show (s:Int)<60;omega,rfl⟩))) (Fg f s) (fun _ _ _ _=>rfl) (aX k.m f) ⟨m1,k.e⟩ hM (by rw[hT];exact Db m1 f) (by show f<m1.m.fs.length;rw[o];exact hf) (by show _≤(aD m1 f).r;rw[ht];omega);obtain⟨r1,r2,r3,r4,r5,r6,r7⟩:=hH;have hR:(aX k.m f).foldl (Fg f s) ⟨m1,k.e⟩=qw ⟨m1,k.e⟩ f s (aX k.m f):=rfl;rw[hR,←hX] at r1 r2 r3 r4 r5 r6 r7;refine⟨r1,?_⟩;generalize fF k f=k2 at *
 obtain⟨M,eM⟩:=k2;change uE k.m M f;simp only at r1 r2 r3 r4 r5 r6 r7;have hz:gD (aD m1 f) (-((aX k.m f).length:Int))=frZ:=by unfold gD;rw[if_pos (by rw[ht];omega)]
 rw[hz] at r5;have hv:∀g,aD M g=if g=f then frZ else aD k.m g:=by intro g;rw[uH r5 g,fJ (by rw[o];exact hf),ht]
 have d:∀g,g≠f→aD M g=aD k.m g:=fun g hg=>by rw[hv,if_neg hg]
 have t:M.m.fs.length=k.m.m.fs.length:=by rw[r5,dG,o]
 have y:M.sl=k.m.sl.set s (L:Int):=r3.sl.trans hh;have hG:M.sw=iV k.m.sw ((s:Int),(aD k.m f).p):=r3.sw.trans ha;have hB:M.dk=k.m.dk:=r3.dk.trans hm;have u:M.st=k.m.st:=r3.st.trans hd;have b:M.ca=k.m.ca:=r3.ca.trans hI;have z:gZ k.m M:=(gZ.of a).trans r4;have v:∀p n,aL M p n=if (p,n)∈aX k.m f then ⟨2,s,false⟩ else aL k.m p n:=fun p n=>by rw[r6,hJ]
 have l:∀p n,(p,n)∈aX k.m f↔(aL k.m p n).k=1∧(aL k.m p n).n=f:=by
  intro p n;rw[tK];constructor
  ·rintro⟨_,_,h3⟩;exact h3
  intro h3;have h4:=lW (m:=k.m) (p:=p) (n:=n) (by rw[h3.1];decide);exact⟨h4.1,h4.2,h3⟩
 have hn:kY k.m.st M.st:=kY.of u;have hx:∀g i,dJ M g i=dJ k.m g i:=fun g i=>by unfold dJ;rw[u,hB]
 have hy:∀c∈k.m.ca,c.k.toNat≠f:=fun c hc e=>by have h1:=(h.ca.fr c hc).2.1;have h2:=(h.ca.file c hc).1;rw[e] at h1;omega
 have hA:sV M:=⟨by rw[b,u];exact h.ca.file,by rw[b,t];exact h.ca.lt,fun c hc=>by rw[b] at hc;rw[d _ (hy c hc)];exact h.ca.fr c hc,by rw[b];exact h.ca.srt⟩;have hF:∀g i,mK k.m.st g i→aR M g i=aR k.m g i:=by
  intro g i h6;rcases ko k.m g i with ⟨e,he,hem,hef,hei⟩|⟨he,hno⟩
  ·subst hef;subst hei;rw[ed h.ca hem,ed hA (by rw[b];exact hem),d _ (hy e hem)]
  ·rw[dY hno,dY (by rw[b];exact hno),hx]
 have hN:∀p n,(aL k.m p n).k=2→(aL k.m p n).n≠s:=by intro p n hO he;have h3:=lW (m:=k.m) (p:=p) (n:=n) (by rw[hO];decide);have h4:=(kC (m:=k.m) (kd:=2) (i:=s) (by decide)).2 ⟨p,n,h3.1,h3.2,hO,he⟩;have h5:=h.cs s hs;omega
 have hK:Ei k.m M:=by
  refine Da h.pt z hn hF fun p n g hg => ?_;rw[v]
  by_cases hu:(p,n)∈aX k.m f
  ·rw[if_pos hu];have h1:=(l p n).1 hu;unfold sM;rw[if_neg (show ¬(2:Int)=1 by decide),if_pos rfl,if_pos h1.1,h1.2,vP,hG];rw[xm h.pt.sw (by show (0:Int)≤s;omega) q,if_pos ⟨hC,rfl⟩,GX h.pt.sw (by show (0:Int)≤s;omega) q,hC,decide_eq_true h0]
  rw[if_neg hu];refine oK h.pt.st (h.pt.pg hg).1 hn hF (fun hk => ?_) (fun hk => ?_)
  ·have hq:(aL k.m p n).n.toNat≠f:=by intro e;have h5:=((dS _).1 (mo h.pt p n));exact hu ((l p n).2 ⟨hk,by omega⟩)
   have:=d _ hq;exact⟨congrArg Fr.p this,congrArg Fr.f this⟩
  rw[hG,xm h.pt.sw (by show (0:Int)≤s;omega) q,if_neg (fun e=>hN p n hk e.2.symm),GX h.pt.sw (by show (0:Int)≤s;omega) q];exact⟨rfl,rfl⟩
 refine⟨⟨r2,by rw[hB,u];exact h.trim,fun p hp => ?_,hA,fun p n hk => ?_,fun i hi => ?_,fun i hi hE => ?_,fun j hj => ?_⟩,⟨fun e he => ?_,fun e he hQ => ?_,fun i hi hD => ?_⟩,hK,t,?_,by rw[hv,if_pos rfl],d,by rw[y,dM],fun p n hq=>by rw[v,if_neg (fun hu=>hq ((l p n).1 hu))],fun e => ?_,.inl ⟨u,hB⟩⟩
 ·rw[z.lv] at hp;have h1:=h.live p hp;rw[z.ar];refine⟨h1.1,fun n => ?_⟩;rw[v,if_neg]
  ·exact h1.2 n
  intro hu;have:=(l p n).1 hu;rw[h1.2 n] at this;exact absurd this.1 (by decide)
 ·rw[v] at hk ⊢
  by_cases hu:(p,n)∈aX k.m f
  ·rw[if_pos hu];have h1:=(l p n).1 hu;obtain⟨g,hg,w⟩:=h.en p n (by rw[h1.1];decide);refine⟨g,by unfold fD;rw[z.ar];exact hg,fun _=>⟨by rw[y,dM];show (s:Int)<_;omega,?_⟩,fun (e:(2:Int)=1)=>absurd e (by decide),fun (e:(2:Int)=1)=>absurd e (by decide)⟩;have h2:=w.fr h1.1;rw[h1.2,bD] at h2;cases hsh:g.sh with
   | false=>rfl
   | true=>have:=h2.2.1 hsh;omega
  rw[if_neg hu] at hk ⊢;obtain⟨g,hg,w⟩:=h.en p n hk;refine⟨g,by unfold fD;rw[z.ar];exact hg,by rw[y,dM];exact w.sw,by rw[t];exact w.lt,fun hP => ?_⟩;have hq:(aL k.m p n).n.toNat≠f:=by intro e;have h5:=((dS _).1 (mo h.pt p n));exact hu ((l p n).2 ⟨hP,by omega⟩)
  rw[d _ hq];exact w.fr hP
 ·have a1:=r7 1 i;rw[if_neg (fun e=>by cases e.1:¬((1:Int)=(⟨2,s,false⟩:En).k∧(i:Int)=(⟨2,s,false⟩:En).n))] at a1;have a2:bU m1 1 i=bU k.m 1 i:=by unfold bU;rw[a]
  have a3:vk M i=vk k.m i:=by unfold vk;rw[b]
  by_cases e:i=f
  ·subst e;rw[if_pos ⟨rfl,rfl⟩] at a1;rw[sW] at a1;rw[hv,if_pos rfl,a3,hS];show (0:Int)=_;omega
  rw[if_neg (fun h'=>e (by have:=h'.2;omega))] at a1;have a5:=h.cf i (by rw[←t];exact hi);rw[d i e,a3];omega
 ·by_cases e:i=f
  ·subst e;rw[hv,if_pos rfl] at hE;exact absurd hE (by decide)
  rw[d i e] at hE;rw[b];exact h.fc i (by rw[←t];exact hi) hE
 ·have a1:=r7 2 j;rw[if_neg (fun e=>by cases e.1)] at a1;have a2:bU m1 2 j=bU k.m 2 j:=by unfold bU;rw[a]
  have hW : j<k.m.sl.length:=by rw[y,dM] at hj;exact hj
  have a3:lC M j=if j=s then (L:Int) else lC k.m j:=by have:=Nc (m:=k.m) (x:=(L:Int)) hs j;rw[←this];unfold lC setSl;rw[y]
  have a4:=h.cs j hW;rw[a3]
  by_cases e:j=s
  ·subst e;rw[if_pos ⟨rfl,rfl⟩] at a1;rw[if_pos rfl];omega
  rw[if_neg (fun h'=>e (by have h2:(j:Int)=(s:Int):=h'.2;omega))] at a1;rw[if_neg e];omega
 ·rw[b] at he;rw[d _ (hy e he),u];exact hc.tail e he
 ·rw[b] at he;rw[d _ (hy e he)] at hQ ⊢;rw[hx];exact hc.clean e he hQ
 ·by_cases e:i=f
  ·rw[hv,if_pos e] at hD;cases hD
  rw[d i e] at hD ⊢;exact hc.anon i (by rw[←t];exact hi) hD
 ·rw[r5];show m1.m.hand=_;rw[o]
 rw[b];constructor
 ·intro h1;exact⟨h1,fun h2=>hy e h1 (by rw[h2];exact bD f)⟩
 ·exact fun h1=>h1.1
theorem SF {k:Kp} (h:Rt k.m) (hc:Co k.m) (hf:f<k.m.m.fs.length) (hr:(aD k.m f).r≠0) :
  if jg k.m f=true then (fF k f).e=k.e∧uE k.m (fF k f).m f else fF k f=k:=by
 unfold jg
 by_cases h0:0≤(aD k.m f).f
 ·rw[if_pos h0]
  by_cases hb:ja k.m f=true
  ·rw[if_pos hb];exact KO h hc hf h0 hb
  rw[if_neg hb];unfold fF;simp only;rw[if_pos h0,if_pos (by simpa using hb)]
 rw[if_neg h0]
 by_cases hb:gT k.m.sl (aX k.m f).length=0
 ·rw[if_pos (by simpa using hb)];exact LG h hc hf (by omega) hr hb
 rw[if_neg (by simpa using hb)];unfold fF;simp only;rw[if_neg h0,if_pos hb]
def xB (x y:Fr):Prop:=y.p=x.p∧y.r=x.r∧y.d=x.d∧y.f=x.f∧y.i=x.i
theorem xB.refl (x:Fr):xB x x:=⟨rfl,rfl,rfl,rfl,rfl⟩
theorem xB.trans {x y:Fr} (h:xB x y) (k:xB y z):xB x z:=⟨k.1.trans h.1,k.2.1.trans h.2.1,k.2.2.1.trans h.2.2.1,k.2.2.2.1.trans h.2.2.2.1,k.2.2.2.2.trans h.2.2.2.2⟩
theorem Rw (h:Rt m) (hc:Co m) (hr:Rest m m') (hs:m'.sp=m.sp) (hw:bC m'.m=0) (hl:m'.m.fs.length=m.m.fs.length) (hf:∀g,xB (aD m g) (aD m' g)):Rt m'∧Co m'∧Ei m m':=by
 have e:∀p n,aL m' p n=aL m p n:=fun p n=>by unfold aL bX;rw[hs]
 have u:∀p n,fD m' p n=fD m p n:=fun p n=>by unfold fD bX;rw[hs]
 have w:∀i,vk m' i=vk m i:=fun i=>by unfold vk;rw[hr.ca]
 have q:∀kd i,bU m' kd i=bU m kd i:=fun kd i=>by unfold bU;rw[hs]
 have j:∀f i,dJ m' f i=dJ m f i:=fun f i=>by unfold dJ;rw[hr.st,hr.dk]
 have t:Pt m':={ fr:=hw,sl:=by rw[hr.sl];exact h.pt.sl,sw:=by rw[hr.sw];exact h.pt.sw,dk:=by rw[hr.dk];exact h.pt.dk,st:=by rw[hr.st];exact h.pt.st,swl:=by rw[hr.sw,hr.sl];exact h.pt.swl,dkl:=by rw[hr.dk,hr.st];exact h.pt.dkl,spl:=by rw[hs];exact h.pt.spl,ar:=by rw[hs];exact h.pt.ar,tb:=by rw[hs];exact h.pt.tb };have o:sV m':=⟨by rw[hr.ca,hr.st];exact h.ca.file,by rw[hr.ca,hl];exact h.ca.lt,fun c a=>by rw[hr.ca] at a;have h1:=hf c.k.toNat;rw[h1.2.1,h1.2.2.2.1,h1.2.2.2.2];exact h.ca.fr c a,by rw[hr.ca];exact h.ca.srt⟩;have l:∀f i,aR m' f i=aR m f i:=by
  intro f i;have hl:nD m' f i=nD m f i:=by unfold nD;rw[hr.ca]
  rw[jA,jA,hl];cases nD m f i with
  | none=>exact j f i
  | some c=>exact (hf c.k.toNat).1
 have b:kY m.st m'.st:=kY.of hr.st;refine⟨⟨t,by rw[hr.dk,hr.st];exact h.trim,fun p hp => ?_,o,fun p n hk => ?_,fun i hi => ?_,fun i hi h0 => ?_,fun s r => ?_⟩,⟨fun c a => ?_,fun c a hd => ?_,fun i hi hd => ?_⟩,?_⟩
 ·have:bX m' p=bX m p:=by unfold bX;rw[hs]
  rw[this] at hp ⊢;exact⟨(h.live p hp).1,fun n=>by rw[e];exact (h.live p hp).2 n⟩
 ·rw[e] at hk ⊢;obtain⟨g,hg,d⟩:=h.en p n hk;refine⟨g,by rw[u];exact hg,by rw[hr.sl];exact d.sw,by rw[hl];exact d.lt,fun v => ?_⟩;have h1:=d.fr v;have h2:=hf (aL m p n).n.toNat;unfold KX at h1 ⊢;rw[h2.2.1,h2.2.2.2.1,h2.2.2.2.2];exact h1
 ·rw[(hf i).2.1,w,q];exact h.cf i (by rw[←hl];exact hi)
 ·rw[(hf i).2.2.2.1] at h0;rw[hr.ca];exact h.fc i (by rw[←hl];exact hi) h0
 ·rw[q];have:lC m' s=lC m s:=by unfold lC;rw[hr.sl]
  rw[this];exact h.cs s (by rw[←hr.sl];exact r)
 ·rw[hr.ca] at a;rw[(hf c.k.toNat).1,hr.st];exact hc.tail c a
 ·rw[hr.ca] at a;rw[(hf c.k.toNat).2.2.1] at hd;rw[(hf c.k.toNat).1,j];exact hc.clean c a hd
 ·rw[(hf i).2.2.1] at hd;rw[(hf i).2.2.2.1];exact hc.anon i (by rw[←hl];exact hi) hd
 refine Da h.pt (gZ.of hs) b (fun f i _=>l f i) fun p n g hg => ?_;rw[e];exact oK h.pt.st (h.pt.pg hg).1 b (fun f i _=>l f i) (fun _=>⟨(hf _).1,(hf _).2.2.2.1⟩) (fun _=>by rw[hr.sw];exact⟨rfl,rfl⟩)
def mG (m:Ma) (x:Mem):Ma:={ m with m:=x }
theorem ER (hw:bC m.m=0) (hk:0≤ic m.m):(ic m.m).toNat<m.m.fs.length∧(aD m (ic m.m).toNat).r≠0∧bC (fu m.m)=0∧(fu m.m).fs.length=m.m.fs.length∧∀g,xB (aD m g) (aD (mG m (fu m.m)) g):=by
 have hf:fe m.m.fs≠m.m.fs.length:=fun e=>by unfold ic at hk;rw[if_neg (by rw[hw];simp),if_pos e] at hk;omega
 obtain⟨h,b,f⟩:=Sk m.m hw hf;have hM:fu m.m=⟨mP m.m (ib m.m),(iR m.m (ib m.m+1):Nat)⟩:=by unfold fu;rw[if_neg (by rw[hw];simp),if_neg hf]
 have hK:ic m.m=(iR m.m (ib m.m):Nat):=by unfold ic;rw[if_neg (by rw[hw];simp),if_neg hf]
 have a:0<m.m.fs.length:=by
  rcases wY m.m.fs.length with h0|h0
  ·exact absurd (by have:=CU m.m.fs;omega) hf
  ·exact h0
 have c:=nW a (ib m.m);have d:=nW a (ib m.m+1);obtain⟨w1,w2,w3,w4⟩:=(dZ _).1 hw;rw[hK,hM,bD];refine⟨c,?_,(dZ _).2 ⟨by simp only;rw[iL];exact w1,fun x hx => ?_,by simp only;omega,by simp only;rw[iL];omega⟩,iL _ _,fun g => ?_⟩
 ·unfold vG at b;simp only[dh,decide_eq_true_eq] at b;have h1:(aD m (iR m.m (ib m.m))).r=(m.m.fs.getD (iR m.m (ib m.m)) fr0).r:=rfl;rw[h1];omega
 ·obtain⟨i,hi,rfl⟩:=jC.1 hx;simp only at hi ⊢;rw[iL] at hi;rw[uK m.m _ i hi];have h3:=w2 m.m.fs[i] (eZ hi);split
  ·rw[dC] at h3 ⊢;exact⟨h3.1,fun e=>⟨rfl,(h3.2.1 e).2.1,(h3.2.1 e).2.2.1,(h3.2.1 e).2.2.2⟩,h3.2.2⟩
  ·exact h3
 rcases fM g m.m.fs.length with hg|hg
 ·have e1:aD (mG m ⟨mP m.m (ib m.m),(iR m.m (ib m.m+1):Nat)⟩) g=(mP m.m (ib m.m))[g]'(by rw[iL];exact hg):=by show (mP m.m (ib m.m)).getD g fr0=_;rw[bM,aN (by rw[iL];exact hg)];rfl
  have e2:aD m g=m.m.fs[g]:=by have:=rZ hg;rw[aN hg] at this;exact (aS this).symm
  rw[e1,e2,uK m.m _ g hg];split
  ·exact⟨rfl,rfl,rfl,rfl,rfl⟩
  ·exact .refl _
 have e1:aD (mG m ⟨mP m.m (ib m.m),(iR m.m (ib m.m+1):Nat)⟩) g=fr0:=Gs (m:=mG m ⟨mP m.m (ib m.m),(iR m.m (ib m.m+1):Nat)⟩) (by show (mP m.m (ib m.m)).length≤g;rw[iL];exact hg);rw[e1,Gs hg];exact .refl _
structure yS (m m' : Ma) (o:Option Nat):Prop where
 rt:Rt m'
 co:Co m'
 vis:Ei m m'
 len:m'.m.fs.length=m.m.fs.length
 sll:m'.sl.length=m.sl.length
 fr:∀g,o≠some g→xB (aD m g) (aD m' g)
 free:∀f,o=some f→f<m.m.fs.length∧aD m' f=frZ∧(aD m f).r≠0
 ents:∀p n,((aL m p n).k=1→o≠some (aL m p n).n.toNat)→aL m' p n=aL m p n
 cas:∀c,c∈m'.ca↔c∈m.ca∧o≠some c.k.toNat
 inv:Inv m m'
theorem yS.refl (h:Rt m) (hc:Co m):yS m m none:=⟨h,hc,.refl m,rfl,rfl,fun _ _ => .refl _,(fun _ e=>by cases e),fun _ _ _=>rfl,fun c=>⟨fun h=>⟨h,by simp⟩,fun h=>h.1⟩,.refl m⟩
theorem reclaimN_ok:∀(t:Nat) (k:Kp),Rt k.m→Co k.m→(reclaimN t k).1.e=k.e∧∃o,yS k.m (reclaimN t k).1.m o∧((reclaimN t k).2=true↔o≠none)
 | 0,k,h,hc=>⟨rfl,none,yS.refl h hc,by simp[reclaimN]⟩
 | t+1,k,h,hc=>by
  have hw:=h.pt.fr;have hmust:iF k.e (bC k.m.m)=k.e:=by rw[hw];unfold iF;split<;>simp_all
  by_cases hn:ic k.m.m<0
  ·have hd:reclaimN (t+1) k=(k,false):=by unfold reclaimN;rw[if_pos (.inr hn),hmust]
   rw[hd];exact⟨rfl,none,yS.refl h hc,by simp⟩
  obtain⟨n1,n2,n3,n4,n5⟩:=ER hw (by omega:0≤ic k.m.m);have hd:reclaimN (t+1) k=if jg (mG k.m (fu k.m.m)) (ic k.m.m).toNat=true then (fF ⟨mG k.m (fu k.m.m),k.e⟩ (ic k.m.m).toNat,true) else reclaimN t (fF ⟨mG k.m (fu k.m.m),k.e⟩ (ic k.m.m).toNat):=by
   conv=>lhs;unfold reclaimN
   rw[if_neg (by rintro (e | e);exact e hw;exact hn e)];rfl
  generalize hF:(ic k.m.m).toNat=F at *
  obtain⟨hr1,hc1,hv1⟩:=Rw (m:=k.m) (m':=mG k.m (fu k.m.m)) h hc ⟨rfl,rfl,rfl,rfl,rfl⟩ rfl n3 n4 n5;have hi1:Inv k.m (mG k.m (fu k.m.m)):=RH.inv (.of rfl rfl fun c hcm _=>⟨hcm,(n5 _).2.2.1,(n5 _).1⟩) h hc hr1 hc1;have hF1:F<(mG k.m (fu k.m.m)).m.fs.length:=by show F<(fu k.m.m).fs.length;rw[n4];exact n1
  have hfr1:(aD (mG k.m (fu k.m.m)) F).r≠0:=by rw[(n5 F).2.1];exact n2
  have hev:=SF (k:=⟨mG k.m (fu k.m.m),k.e⟩) hr1 hc1 hF1 hfr1;rw[hd]
  by_cases hb:jg (mG k.m (fu k.m.m)) F=true
  ·rw[if_pos hb] at hev;obtain⟨he,hE⟩:=hev;rw[if_pos hb];refine⟨he,some F,⟨hE.rt,hE.co,hv1.trans hE.vis,hE.len.trans n4,hE.sll,fun g hg => ?_,fun f e => ?_,fun p n hne => ?_,fun c => ?_,hi1.trans (hE.inv hr1 hc1 hF1)⟩,by simp⟩
   ·have hne:g≠F:=fun e=>hg (by rw[e]);exact (n5 g).trans (by rw[hE.oth g hne];exact .refl _)
   ·cases e;exact⟨n1,hE.free,n2⟩
   ·exact hE.ents p n (fun e=>by have h2:((aL k.m p n).n:Int)=F:=e.2;exact hne e.1 (by rw[h2,bD]))
   refine (hE.cas c).trans ⟨fun h1=>⟨h1.1,fun e=>h1.2 ?_⟩,fun h1=>⟨h1.1,fun e=>h1.2 (by rw[e,bD])⟩⟩;have:=(h.ca.lt c h1.1).1;simp only[gY] at e;omega
  rw[if_neg hb] at hev;rw[if_neg hb,hev];obtain⟨i1,o,hI,i2⟩:=reclaimN_ok t ⟨mG k.m (fu k.m.m),k.e⟩ hr1 hc1;refine⟨i1,o,⟨hI.rt,hI.co,hv1.trans hI.vis,hI.len.trans n4,hI.sll,fun g hg=>(n5 g).trans (hI.fr g hg),fun f e => ?_,hI.ents,hI.cas,hi1.trans hI.inv⟩,i2⟩;obtain⟨a1,a2,a3⟩:=hI.free f e;refine⟨?_,a2,?_⟩
  ·have a1:f<(mG k.m (fu k.m.m)).m.fs.length:=a1;have:(mG k.m (fu k.m.m)).m.fs.length=k.m.m.fs.length:=n4;omega
  ·rw[(n5 f).2.1] at a3;exact a3
theorem Dg {k:Kp} (h:Rt k.m) (hc:Co k.m):(dX k).1.e=k.e∧∃o,yS k.m (dX k).1.m o∧((dX k).2=true↔o≠none):=reclaimN_ok _ k h hc
theorem yV {k:Kp} {p:Page} {f i:Int} (hw:bC k.m.m=0) (hx:bO (aZ p f i)=0) :
  (∃g:Nat,g<k.m.m.fs.length∧(aD k.m g).r=0∧jW k p f i=(Kp.mk (setFr k.m g (aZ p f i)) k.e,(g:Int)))∨(jW k p f i=(k,-1)∧fe k.m.m.fs=0):=by
 by_cases hE:gF k.m.m p f i=0
 ·obtain⟨_,_,g,hg,hr,hK,hM⟩:=Uw hE;refine .inl ⟨g,hg,?_,?_⟩
  ·have:=rZ hg;rw[aN hg] at this;rw[←aS this];exact hr
  unfold jW;rw[if_neg (by rw[hE];simp),hK,hM];rfl
 refine .inr ⟨by unfold jW;rw[if_pos hE],?_⟩;refine Ow (p:=p) (file:=f) (index:=i) ?_;unfold gF at hE ⊢;rw[if_neg (by rw[hw];simp),if_neg (by rw[hx];simp)] at hE ⊢
 by_cases hn:uX k.m.m.fs=none
 ·rw[if_pos hn]
 ·rw[if_neg hn] at hE;exact absurd rfl hE
theorem tV (h:fe m.m.fs=0) (hg:g<m.m.fs.length):(aD m g).r≠0:=by
 intro hr;unfold fe at h;have:=List.length_eq_zero_iff.1 h;have h2:aD m g∈m.m.fs.filter (fun f=>decide (f.r=0)):=rU.2 ⟨MS hg,by simpa using hr⟩;rw[this] at h2;cases h2
theorem NE (h:fe m.m.fs≠0):∃g,g<m.m.fs.length∧(aD m g).r=0:=by
 unfold fe at h;obtain⟨x,hx⟩:=List.exists_mem_of_length_pos (Nat.pos_of_ne_zero h);obtain⟨h1,h2⟩:=rU.1 hx;obtain⟨i,hi,rfl⟩:=jC.1 h1;refine⟨i,hi,?_⟩;have:=rZ (m:=m) hi;rw[aN hi] at this;rw[←aS this];simpa using h2
theorem zb {k:Kp} {p:Page} {f i:Int} (h:Rt k.m) (hc:Co k.m) (hx:bO (aZ p f i)=0) :
  (∃(g:Nat) (m1:Ma) (o:Option Nat),yS k.m m1 o∧g<m1.m.fs.length∧aD m1 g=frZ∧eu k p f i=(Kp.mk (setFr m1 g (aZ p f i)) k.e,(g:Int))) ∨
  (∃m1,yS k.m m1 none∧eu k p f i=(Kp.mk m1 k.e,-1)∧fe k.m.m.fs=0):=by
 have hz:∀(m:Ma) (g:Nat),Pt m→g<m.m.fs.length→(aD m g).r=0→aD m g=frZ:=fun m g hp hg hr=>MM (hp.frE hg) hr;unfold eu
 by_cases h0:fe k.m.m.fs=0
 ·rw[if_pos h0];obtain⟨he,o,hF,hb⟩:=Dg h hc
  by_cases hbt:(dX k).2=true
  ·rw[if_pos hbt];obtain⟨f',a⟩:∃f',o=some f':=by
    cases o with
    | none=>exact absurd rfl (hb.1 hbt)
    | some f'=>exact⟨f',rfl⟩
   obtain⟨a1,a2,_⟩:=hF.free f' a;rcases yV (k:=(dX k).1) (p:=p) (f:=f) (i:=i) hF.rt.pt.fr hx with ⟨g,g1,g2,g3⟩|⟨_,g2⟩
   ·exact .inl ⟨g,(dX k).1.m,o,hF,g1,hz _ g hF.rt.pt g1 g2,by rw[g3,he]⟩
   ·exact absurd (by rw[a2];rfl) (tV g2 (g:=f') (by rw[hF.len];exact a1))
  rw[if_neg hbt];have ho:o=none:=by
   cases o with
   | none=>rfl
   | some f'=>exact absurd (hb.2 (by simp)) hbt
  subst ho;refine .inr ⟨(dX k).1.m,hF,?_,h0⟩;rw[←he]
 rw[if_neg h0];rcases yV (k:=k) (p:=p) (f:=f) (i:=i) h.pt.fr hx with ⟨g,g1,g2,g3⟩|⟨_,g2⟩
 ·exact .inl ⟨g,k.m,none,yS.refl h hc,g1,hz _ g h.pt g1 g2,g3⟩
 ·exact absurd g2 h0
theorem Qt {x:Fr} (h:bO x=0) (hr:x.r≠0):bO (jT x)=0:=by
 rw[dC] at h ⊢;exact⟨h.1,fun e=>absurd e hr,h.2.2⟩
theorem Nh (h:Rt m) (hc:Co m) (hg:g<m.m.fs.length) (hr:(aD m g).r≠0):Rt (setFr m g (jT (aD m g)))∧Co (setFr m g (jT (aD m g)))∧Ei m (setFr m g (jT (aD m g))):=
 Rw h hc ⟨rfl,rfl,rfl,rfl,rfl⟩ rfl (Hz h.pt.fr (Qt (h.pt.frE hg) hr)) dG fun x=>by
  rw[fJ hg]
  by_cases e:x=g
  ·rw[if_pos e,e];exact⟨rfl,rfl,rfl,rfl,rfl⟩
  ·rw[if_neg e];exact .refl _
theorem UQ (p:Page) (n:Int):cO (cO p n) n=cO p n:=by
 apply BU;intro i hi;simp only[cO,ni];split<;>rfl
theorem Qp (n:Int):cO zPg n=zPg:=by
 apply BU;intro i hi;simp only[cO,ni];have hz:zPg[i]=0:=by
  match i,hi with
  | 0,_=>rfl
  | 1,_=>rfl
  | 2,_=>rfl
  | 3,_=>rfl
  | 4,_=>rfl
  | 5,_=>rfl
  | 6,_=>rfl
  | 7,_=>rfl
  | n+8,h=>omega
 split<;>rw[hz]
theorem FH (m:Ma) (f i:Int):cO (dJ m f i) ((aH m.st f).n-i*8)=dJ m f i:=by
 unfold dJ;split
 ·exact UQ _ _
 ·exact Qp _
theorem DI {f i k:Int}:∀ {l:List Cc},l.Pairwise BQ→(∀c∈l,¬(c.f=f∧c.i=i))→(l.insertIdx (sJ l f i) ⟨f,i,k⟩).Pairwise BQ
 | [],_,_=>by simp[sJ]
 | c::l,hs,hno=>by
  obtain⟨h1,h2⟩:=rD.1 hs;have hnc:=hno c kv
  by_cases hg:Eu f i c=true
  ·have:sJ (c::l) f i=0:=by unfold sJ;rw[yG,if_pos hg];rfl
   rw[this,List.insertIdx_zero];have hlt:BQ ⟨f,i,k⟩ c:=by have:=zm.1 hg;unfold BQ;simp only;omega
   refine rD.2 ⟨fun d hd => ?_,hs⟩;rcases fE.1 hd with rfl|hd
   ·exact hlt
   have:=h1 d hd;unfold BQ at this hlt ⊢;omega
  have:sJ (c::l) f i=sJ l f i+1:=by unfold sJ;rw[yG,if_neg hg];cases l.findIdx? (Eu f i)<;>rfl
  rw[this,GN];refine rD.2 ⟨fun d hd => ?_,DI h2 fun d hd=>hno d (jM _ hd)⟩;rcases (BJ (Ee l f i)).1 hd with rfl|hd
  ·have:¬(f<c.f∨c.f=f∧i≤c.i):=fun h=>hg (zm.2 h);unfold BQ;simp only;omega
  ·exact h1 d hd
theorem xy {α:Type} (q:α→Bool) (x:α):∀(l:List α) (j:Nat),j≤l.length→(l.insertIdx j x).countP q=l.countP q+ut (q x)
 | l,0,_=>by rw[List.insertIdx_zero,pU];rfl
 | [],j+1,h=>by simp at h
 | a::l,j+1,h=>by rw[GN,pU,pU,xy q x l j (by simpa using h)];omega
def pF (m1:Ma) (g:Nat) (p:Page) (f i:Int):Ma:={ setFr m1 g (aZ p f i) with ca:=m1.ca.insertIdx (sJ m1.ca f i) ⟨f,i,g⟩ }
theorem Te {f i:Int} (h:Rt m1) (hc:Co m1) (hg:g<m1.m.fs.length) (hz:aD m1 g=frZ) (hin:mK m1.st f i) (hno:∀c∈m1.ca,¬(c.f=f∧c.i=i)) :
  Rt (pF m1 g (dJ m1 f i) f i)∧Co (pF m1 g (dJ m1 f i) f i)∧Ei m1 (pF m1 g (dJ m1 f i) f i):=by
 have v:=zI h.pt.st hin;have hb:bO (aZ (dJ m1 f i) f i)=0:=by rw[dC];have h1:=hin.1;have h2:=hin.2;exact⟨⟨by show (0:Int)≤1;decide,by show (1:Int)≤1000;decide,by show -1≤f;omega,v.1,h2.1,v.2.1⟩,fun (e:(1:Int)=0)=>absurd e (by decide),fun (e:f<0)=>by omega⟩
 have j:∀x,aD (pF m1 g (dJ m1 f i) f i) x=if x=g then aZ (dJ m1 f i) f i else aD m1 x:=fun x=>fJ hg x;have b:∀x,x≠g→aD (pF m1 g (dJ m1 f i) f i) x=aD m1 x:=fun x hx=>by rw[j,if_neg hx]
 have d:(pF m1 g (dJ m1 f i) f i).m.fs.length=m1.m.fs.length:=dG;have a:∀c,c∈(pF m1 g (dJ m1 f i) f i).ca↔c=⟨f,i,g⟩∨c∈m1.ca:=fun c=>BJ (Ee _ _ _);have u:∀c∈m1.ca,c.k.toNat≠g:=fun c hcm e=>by have:=(h.ca.fr c hcm).1;rw[e,hz] at this;exact absurd this (by decide)
 have l:∀f' i',dJ (pF m1 g (dJ m1 f i) f i) f' i' = dJ m1 f' i':=fun _ _=>rfl;have q:bU m1 1 g=0∧vk m1 g=0:=by have:=h.cf g hg;rw[hz] at this;have e:frZ.r=0:=rfl;omega
 have hf:Pt (pF m1 g (dJ m1 f i) f i):={ fr:=Hz h.pt.fr hb,sl:=h.pt.sl,sw:=h.pt.sw,dk:=h.pt.dk,st:=h.pt.st,swl:=h.pt.swl,dkl:=h.pt.dkl,spl:=h.pt.spl,ar:=h.pt.ar,tb:=h.pt.tb };have o:sV (pF m1 g (dJ m1 f i) f i):=by
  refine⟨fun c hcm => ?_,fun c hcm => ?_,fun c hcm => ?_,DI h.ca.srt hno⟩
  ·rcases (a c).1 hcm with rfl|hcm
   ·exact hin
   ·exact h.ca.file c hcm
  ·rw[d];rcases (a c).1 hcm with rfl|hcm
   ·show 0≤(g:Int)∧(g:Int)<_;omega
   ·exact h.ca.lt c hcm
  rcases (a c).1 hcm with rfl|hcm
  ·rw[j,if_pos (bD g)];exact⟨by show (1:Int)≤1;decide,rfl,rfl⟩
  ·rw[b _ (u c hcm)];exact h.ca.fr c hcm
 have z:∀f' i',aR (pF m1 g (dJ m1 f i) f i) f' i' = aR m1 f' i':=by
  intro f' i'
  by_cases e:f' = f∧i' = i
  ·rw[e.1,e.2];have h1:=ed o ((a ⟨f,i,g⟩).2 (.inl rfl));rw[show (⟨f,i,(g:Int)⟩:Cc).f=f from rfl,show (⟨f,i,(g:Int)⟩:Cc).i=i from rfl] at h1;rw[h1,j,if_pos (bD g),dY hno];rfl
  rcases ko m1 f' i' with ⟨c,hl,hcm,hcf,hci⟩|⟨hl,hno'⟩
  ·subst hcf;subst hci;rw[ed h.ca hcm,ed o ((a c).2 (.inr hcm)),b _ (u c hcm)]
  rw[dY hno',dY (fun c hcm => ?_),l];rcases (a c).1 hcm with rfl|hcm
  ·exact fun e'=>e ⟨e'.1.symm,e'.2.symm⟩
  ·exact hno' c hcm
 have w:∀p n,aL (pF m1 g (dJ m1 f i) f i) p n=aL m1 p n:=fun _ _=>rfl;have t:∀p n,(aL m1 p n).k=1→(aL m1 p n).n.toNat≠g:=by intro p n hk e;have h3:=lW (m:=m1) (p:=p) (n:=n) (by rw[hk];decide);have h5:=(dS _).1 (mo h.pt p n);have h4:=(kC (m:=m1) (kd:=1) (i:=g) (by decide)).2 ⟨p,n,h3.1,h3.2,hk,by omega⟩;omega
 refine⟨⟨hf,h.trim,h.live,o,fun p n hk => ?_,fun x hx => ?_,fun x hx h0 => ?_,h.cs⟩,⟨fun c hcm => ?_,fun c hcm hd => ?_,fun x hx hd => ?_⟩,?_⟩
 ·rw[w] at hk ⊢;obtain⟨y,hy,s⟩:=h.en p n hk;exact⟨y,hy,s.sw,by rw[d];exact s.lt,fun ha=>by rw[b _ (t p n ha)];exact s.fr ha⟩
 ·have a1:vk (pF m1 g (dJ m1 f i) f i) x=vk m1 x+ut (decide ((g:Int)=x)):=xy _ _ _ _ (Ee _ _ _);have a2:bU (pF m1 g (dJ m1 f i) f i) 1 x=bU m1 1 x:=rfl;rw[j,a1,a2]
  by_cases e:x=g
  ·subst e;rw[if_pos rfl,q.1,q.2];have:ut (decide ((x:Int)=(x:Int)))=1:=by simp[ut]
   rw[this];rfl
  rw[if_neg e];have:ut (decide ((g:Int)=(x:Int)))=0:=by unfold ut;rw[if_neg];simp only[decide_eq_true_eq];omega
  rw[this];exact h.cf x (by rw[←d];exact hx)
 ·by_cases e:x=g
  ·exact⟨⟨f,i,g⟩,(a _).2 (.inl rfl),by rw[e]⟩
  rw[b x e] at h0;obtain⟨c,hcm,hh⟩:=h.fc x (by rw[←d];exact hx) h0;exact⟨c,(a c).2 (.inr hcm),hh⟩
 ·rcases (a c).1 hcm with rfl|hcm
  ·rw[j,if_pos (bD g)];exact FH m1 f i
  ·rw[b _ (u c hcm)];exact hc.tail c hcm
 ·rcases (a c).1 hcm with rfl|hcm
  ·rw[j,if_pos (bD g),l];rfl
  rw[b _ (u c hcm)] at hd ⊢;rw[l];exact hc.clean c hcm hd
 ·by_cases e:x=g
  ·rw[j,if_pos e] at hd;cases hd
  ·rw[b x e] at hd ⊢; exact hc.anon x (by rw[←d];exact hx) hd
 refine Da h.pt (gZ.of rfl) (kY.refl _) (fun f' i' _=>z f' i') fun p n y hy => ?_;rw[w];refine oK h.pt.st (h.pt.pg hy).1 (kY.refl _) (fun f' i' _=>z f' i') (fun hk => ?_) (fun _=>⟨rfl,rfl⟩);have:=b _ (t p n hk);exact⟨congrArg Fr.p this,congrArg Fr.f this⟩
structure UK (m m' : Ma) (f i r:Int):Prop where
 rt:Rt m'
 co:Co m'
 vis:Ei m m'
 len:m'.m.fs.length=m.m.fs.length
 sll:m'.sl.length=m.sl.length
 ents:∀p n,(aL m p n).k≠1→aL m' p n=aL m p n
 no:r<0→fe m.m.fs=0
 yes:0≤r→⟨f,i,r⟩∈m'.ca
 inv:Inv m m'
theorem EK {k:Kp} {f i:Int} (h:Rt k.m) (hc:Co k.m) (hin:mK k.m.st f i):(eQ k f i).1.e=k.e∧UK k.m (eQ k f i).1.m f i (eQ k f i).2:=by
 unfold eQ
 by_cases his:FX k.m.ca f i=true
 ·rw[if_pos his];obtain⟨c,r,hh,hf⟩:=Dm his;have a:=dm r;have hi:vQ k.m (sJ k.m.ca f i)=c:=by unfold vQ;rw[bM,r];rfl
  have hj:=h.ca.lt c a;have s:=h.ca.fr c a;obtain⟨a1,a2,a3⟩:=Nh h hc (g:=c.k.toNat) (by omega) (by omega);simp only[hi];have y:c.k.toNat<k.m.m.fs.length:=by omega
  refine⟨trivial,a1,a2,a3,dG,rfl,fun _ _ _=>rfl,fun h0=>by omega,fun _ => ?_,RH.inv (.of rfl rfl fun d hd _=>⟨hd,?_⟩) h hc a1 a2⟩
  rotate_left
  ·rw[fJ y]
   by_cases e:d.k.toNat=c.k.toNat
   ·rw[if_pos e,e];exact⟨rfl,rfl⟩
   ·rw[if_neg e];exact⟨rfl,rfl⟩
  have:(⟨f,i,c.k⟩:Cc)=c:=by rw[←hh,←hf]
  rw[this];exact a
 rw[if_neg his];have t:∀c∈k.m.ca,¬(c.f=f∧c.i=i):=fun c a e=>his ((Gh h.ca.srt).2 ⟨c,a,e⟩);have ha:CY k f i=k.e:=by
  unfold CY
  by_cases hb:0≤bn k.m.st f i
  ·rw[if_pos hb];have:aI k.m.dk (bn k.m.st f i)=0:=iQ.2 ⟨h.pt.dk,hb,by rw[h.pt.dkl];exact (block_lt h.pt.st hin).2⟩;rw[this];unfold iF;split<;>simp_all
  ·rw[if_neg hb]
 rw[ha];have q:=zI h.pt.st hin;have w:bO (aZ (dJ k.m f i) f i)=0:=by rw[dC];have h1:=hin.1;have h2:=hin.2;exact⟨⟨by show (0:Int)≤1;decide,by show (1:Int)≤1000;decide,by show -1≤f;omega,q.1,h2.1,q.2.1⟩,fun (e:(1:Int)=0)=>absurd e (by decide),fun (e:f<0)=>by omega⟩
 rcases zb (k:=⟨k.m,k.e⟩) (p:=dJ k.m f i) (f:=f) (i:=i) h hc w with ⟨g,m1,o,hF,hg,hz,ht⟩|⟨m1,hF,ht,h0⟩
 ·simp only[ht];rw[if_neg (by omega)];have l:∀c∈m1.ca,¬(c.f=f∧c.i=i):=fun c a=>t c ((hF.cas c).1 a).1;have v:mK m1.st f i:=hin.same hF.vis.files hF.vis.lenb;have hd:dJ k.m f i=dJ m1 f i:=by rw[←dY t,←dY l];exact (hF.vis.con f i hin).symm
  rw[hd];obtain⟨b1,b2,b3⟩:=Te hF.rt hF.co hg hz v l;refine⟨rfl,b1,b2,hF.vis.trans b3,dG.trans hF.len,hF.sll,fun p n hk => ?_,fun h0=>by simp only at h0;omega,fun _=>(BJ (Ee _ _ _)).2 (.inl rfl),hF.inv.trans (RH.inv (.of rfl rfl fun d hd z => ?_) hF.rt hF.co b1 b2)⟩
  rotate_left
  ·have s:∀x,aD (pF m1 g (dJ m1 f i) f i) x=if x=g then aZ (dJ m1 f i) f i else aD m1 x:=fun x=>fJ hg x;have j : (aD (pF m1 g (dJ m1 f i) f i) d.k.toNat).d=true:=z;rw[s] at j;have u:d.k.toNat≠g:=fun e=>by rw[if_pos e] at j; cases j
   have b:=s d.k.toNat;rw[if_neg u] at b;rcases (BJ (Ee _ _ _)).1 hd with rfl|hd'
   ·exact absurd (bD g) u
   ·exact⟨hd',congrArg Fr.d b,congrArg Fr.p b⟩
  exact hF.ents p n (fun e=>absurd e hk)
 simp only[ht];rw[if_pos (by decide)];exact⟨rfl,hF.rt,hF.co,hF.vis,hF.len,hF.sll,fun p n hk=>hF.ents p n (fun e=>absurd e hk),fun _=>h0,fun (e:(0:Int)≤-1)=>absurd e (by decide),hF.inv⟩
theorem Pb (k:Kp) (p:Nat) (n:Int) (x:En):(dK k p n x).m.sp.length=k.m.sp.length:=by
 unfold dK;split
 ·exact tL
 ·rfl
theorem NH (k:Kp) (p:Nat) (n:Int) (x:En):(dK k p n x).m.ca=k.m.ca:=by unfold dK;split<;>rfl
theorem Oz (k:Kp) (p:Nat) (n:Int) (x:En):(dK k p n x).m.m=k.m.m:=by unfold dK;split<;>rfl
theorem NN (k:Kp) (f n:Int):(fV k f n).m.sp=k.m.sp:=by unfold fV;split<;>rfl
theorem Px (k:Kp) (f n:Int):(fV k f n).m.ca=k.m.ca:=by unfold fV;split<;>rfl
theorem NM (k:Kp) (f n:Int):(fV k f n).m.m.fs.length=k.m.m.fs.length:=by
 unfold fV;split
 ·rename_i h;show (lw k.m.m f n).fs.length=_;unfold lw;rw[if_pos h];exact dM
 ·rfl
theorem NZ (k:Kp) (f n:Int):(lY k f n).m.sp=k.m.sp:=by unfold lY;split<;>rfl
theorem Oa (k:Kp) (f n:Int):(lY k f n).m.ca=k.m.ca:=by unfold lY;split<;>rfl
theorem PM (k:Kp) (f n:Int):(lY k f n).m.m=k.m.m:=by unfold lY;split<;>rfl
structure jh (k k' : Kp):Prop where
 sp:k'.m.sp.length=k.m.sp.length
 ca:k'.m.ca=k.m.ca
 fs:k'.m.m.fs.length=k.m.m.fs.length
theorem jh.refl (k:Kp):jh k k:=⟨rfl,rfl,rfl⟩
theorem jh.trans {a b c:Kp} (h:jh a b) (k:jh b c):jh a c:=⟨k.sp.trans h.sp,k.ca.trans h.ca,k.fs.trans h.fs⟩
theorem jh.enter (k:Kp) (p:Nat) (n:Int) (x:En):jh k (dK k p n x):=⟨Pb k p n x,NH k p n x,by rw[Oz]⟩
theorem jh.hold (k:Kp) (f n:Int):jh k (fV k f n):=⟨by rw[NN],Px k f n,NM k f n⟩
theorem jh.shold (k:Kp) (f n:Int):jh k (lY k f n):=⟨by rw[NZ],Oa k f n,by rw[PM]⟩
theorem jh.drop (k:Kp) (p:Nat) (n:Int):jh k (iU k p n):=by
 unfold iU;simp only;split
 ·exact (jh.hold _ _ _).trans (jh.enter _ _ _ _)
 split
 ·exact (jh.shold _ _ _).trans (jh.enter _ _ _ _)
 ·exact .refl _
theorem jh.drops:∀(l:List (Nat × Int)) (k:Kp),jh k (kI k l)
 | [],k => .refl k
 | u::l,k=>(jh.drop k u.1 u.2).trans (jh.drops l _)
theorem jh.swap (f n:Int) (k:Kp) (u:Nat × Int):jh k (Fg f n k u):=(jh.hold _ _ _).trans (jh.enter _ _ _ _)
theorem jh.swaps (f n:Int):∀(l:List (Nat × Int)) (k:Kp),jh k (qw k f n l)
 | [],k => .refl k
 | u::l,k=>(jh.swap f n k u).trans (jh.swaps f n l _)
theorem jh.clean (k:Kp) (f:Nat):jh k (jB k f):=by
 unfold jB;simp only;split
 ·exact .refl _
 ·exact⟨rfl,rfl,dM⟩
theorem Me (k:Kp) (l:List (Nat × Int)) (j:Nat) (h:j<l.length):kI k (l.take (j+1))=iU (kI k (l.take j)) l[j].1 l[j].2:=by
 unfold kI;rw[nT,aN h,BM];rfl
theorem KY (k:Kp) (f n:Int) (l:List (Nat × Int)) (j:Nat) (h:j<l.length):qw k f n (l.take (j+1))=Fg f n (qw k f n (l.take j)) l[j]:=by
 unfold qw;rw[nT,aN h,BM];rfl
theorem oz.stay (h:oz w B v ps) (hg:w.grownBy w' none):oz w' B v ps:=⟨jr h.own hg,fun k p hp=>jr (h.each k p hp) hg,h.apart⟩
theorem wR.stay {t:Tb} (h:wR w B cs t) (hg:w.grownBy w' none):wR w' B cs t:=
 ⟨h.sz,fun k hk=>by obtain⟨v,h1,h2⟩:=h.own k hk;exact⟨v,h1,jr h2 hg⟩,h.apart⟩
theorem jf.cache {e:Int} (h:jf w B b H e) (s:KS w0 b H0 w H) (hg:w.grownBy w1 (oB H.ac)) {l:List Cc} (ho:Own w1 B 124 3 (.slice a l.length c) l.length (l.flatMap jG)) (hsn:oB a=oB H.ac∨∀g,oB a=some g→w0.heap.size≤g) :
  aJ w1 b (nC H e) 192∧∀w2,aJ w2 b (dF (nC H e) 9 [.slice a l.length c]) 192→w1.grownBy w2 (some b)→jf w2 B b { H with ac:=a,cc:=c,ca:=l } e∧KS w0 b H0 w2 { H with ac:=a,cc:=c,ca:=l }:=by
 have hK:aJ w1 b (nC H e) 192:=by refine h.blk.grown hg fun e => ?_;obtain⟨_,cs,hb⟩:=nR h.ma.ca e;exact vw h.blk hb (by decide) rfl
 have hm:qc w1 B { H with ac:=a,cc:=c,ca:=l }:=by
  cases hac:oB H.ac with
  | none=>
   rw[hac] at hg;exact⟨jr h.ma.fr hg,jr h.ma.sl hg,⟨jr h.ma.sw.b hg,jr h.ma.sw.q hg⟩,⟨jr h.ma.dk.b hg,jr h.ma.dk.q hg⟩,h.ma.st.stay hg,ho,jr h.ma.sp hg,fun q hq=>⟨jr (h.ma.ps q hq).1 hg,(h.ma.ps q hq).2.stay hg⟩,h.ma.c64⟩
  | some g=>
   rw[hac] at hg;obtain⟨_,cs,hb⟩:=nR h.ma.ca hac;exact⟨ay h.ma.fr hb (by decide) hg,ay h.ma.sl hb (by decide) hg,h.ma.sw.keep hb (by decide) (by decide) hg,h.ma.dk.keep hb (by decide) (by decide) hg,h.ma.st.keep hb (by decide) (by decide) hg,ho,ay h.ma.sp hb (by decide) hg,fun q hq=>⟨ay (h.ma.ps q hq).1 hb (by decide) hg,(h.ma.ps q hq).2.keep hb (by decide) hg⟩,h.ma.c64⟩
 have s1:KS w0 b H0 w1 H:=by
  cases hac:oB H.ac with
  | none=>
   rw[hac] at hg;exact⟨hg.os.trans s.os,hg.tape.trans s.tape,hg.output.trans s.output,aV s.size hg.size,fun x hx hn=>(hg.block x (nM hx s.size) (by simp)).trans (s.keep x hx hn),s.sn⟩
  | some g=>rw[hac] at hg;exact s.put hg (.inr (.inr (.inl hac))) fun x hx => .inl hx
 refine⟨hK,fun w2 hb d=>⟨⟨hb,h.ge,?_,h.tz⟩,s1.put d (.inl rfl) fun x hx => ?_⟩⟩
 ·exact⟨ay hm.fr hK (by decide) d,ay hm.sl hK (by decide) d,hm.sw.keep hK (by decide) (by decide) d,hm.dk.keep hK (by decide) (by decide) d,hm.st.keep hK (by decide) (by decide) d,ay hm.ca hK (by decide) d,ay hm.sp hK (by decide) d,fun q hq=>⟨ay (hm.ps q hq).1 hK (by decide) d,(hm.ps q hq).2.keep hK (by decide) d⟩,hm.c64⟩
 rcases hx with hx|hx|hx|hx
 ·exact .inl (.inl hx)
 ·exact .inl (.inr (.inl hx))
 ·rcases hsn with e|e
  ·exact .inl (.inr (.inr (.inl (by rw[←e];exact hx))))
  ·exact .inr (e x hx)
 ·exact .inl (.inr (.inr (.inr hx)))
theorem Om {k:Kp} (h:ja k.m f=false):jB k f=k:=by
 unfold ja at h;simp only[FN,decide_eq_false_iff_not] at h;unfold jB;simp only;rw[if_pos (.inr (.inr h.2))]
theorem Nf (u:Nat × Int):(uC u).all (·.oneCell')=true:=by simp[uC,Value.oneCell']
theorem slca_size:(Tryz.prog.info? 41).map (·.size)=some 1:=by kernel_rfl
theorem Vf {l:List (Nat × Int)} (h:eB w a (l.flatMap uL)) (k:Nat) (hk:k<l.length):∃b off,a=some ⟨b,off,none⟩∧eB w (some ⟨b,off+k*2,none⟩) [.int .i64 l[k].1,.int .i64 l[k].2]:=pG VN (by decide) h k hk
theorem LZ (H:MH) (e:Int) (f:Nat) (B b:Nat) (w:World) (h:jf w B b H e) (hf:f<H.m.fs.length) (hz:H.sp.length≤1000) (hz2:H.ca.length≤1000) :
  Calls Tryz.prog 183 #[.pointer (some ⟨b,0,none⟩),.int .i64 f] w fun r w'=>r = .returned (.bool (jg H.ma f))∧KR w B b H w' (fF ⟨H.ma,e⟩ f):=by
 obtain⟨g,off,cur,k2,gs,kZ,kV,kK,gr,gq,kH⟩:=h.frame hf;generalize hx:aD H.ma f=x at *
 have hR:=ae hx;clear hx kH gr;have hc:=h.blk.cell;unfold nC at hc;rw[k2] at hc;have gL:(f:Int)<(H.m.fs.length:Int):=by omega
 go_enter func183,ntmps183
 go_wp2_with (first | (refine aC _ _ rfl g (off+f*13) rfl rfl _ kK _ underlying132 rfl frame_size ?_) | (refine aT rfl _ _ _ rfl (xV x) rfl rfl rfl frame_size (uf x) ?_))
 intro w1 ky kn;have h1:=h.below ky;have s1:=(KS.refl w b H).below ky;have hp:¬kb b H w.heap.size:=fun hk=>by obtain⟨cs,T,hb,_⟩:=h.kb_T hk;have:=hb.lt;omega
 have ga:=ae h.bs;clear hc kK kZ kV ky gs gq k2 h
 go_wp2_with fail
 refine (KM H e f B b _ h1 hz).mono ?_;rintro r w2 ⟨v2,rfl,hL,hX⟩;obtain⟨a2,c2,rfl,_⟩:=hL.rd;have h2:=h1.below hX;have s2:=s1.below hX;have hs:=kn.ext hX;have gF:=kn.lt;clear h1 s1 kn hX;have hB:=hs.cell;unfold xV at hB
 by_cases hxf:0≤x.f
 ·go_wp2_with fail
  refine (Ld H e f B b _ h2 hf).mono ?_;rintro r w3 ⟨rfl,H3,e3,h3,s3,q3⟩;have hy:=s3.own h2 (hL.mono (bB _)) (by decide);have hN:¬kb b H w.heap.size:=hp;have km:=s3.blkN hs hN;have ki:¬kb b H3 w.heap.size:=fun hk=>(s3.sn _ hk).elim hN (fun hh=>by have:=hs.lt;omega);have s03:=s2.trans s3;have kQ:H3.sp.length=H.sp.length∧H3.ca=H.ca∧H3.m.fs.length=H.m.fs.length:=by have hq:=jh.clean ⟨H.ma,e⟩ f;rw[←q3] at hq;exact⟨by have:=hq.sp;simp only[tQ] at this;exact this,hq.ca,hq.fs⟩
  have gf:=hs.lt;clear hB hs hL h2 s2 s3 hp hN;cases hcb:ja H.ma f with
  | false=>
   have hq:Hid (fF ⟨H.ma,e⟩ f=⟨H.ma,e⟩∧jg H.ma f=false):=ae (by unfold fF jg;simp only[hR.out];rw[if_pos hxf,if_pos hcb,if_pos hxf];exact⟨rfl,hcb⟩);rw[Om (k:=⟨H.ma,e⟩) hcb] at q3;have gi:=ae q3;clear q3 km;go_wp2;go_ret;rw[hq.out.1,hq.out.2];exact⟨rfl,_,_,h3,s03,gi.out⟩
  | true=>
   have hu:Hid (aX H.ma f=aX H.ma f):=ae rfl;have gk:(aX H.ma f).length≤64000:=by
    have:=Bg H.ma f H.sp.length;have e1:qV H.ma f H.sp.length=aX H.ma f:=by unfold qV aX;rw[tQ]
    rw[e1] at this;omega
   obtain⟨k3,kv⟩:∃k,k=jB ⟨H.ma,e⟩ f:=⟨_,rfl⟩;rw[←kv] at q3;have hI:∀u∈aX H.ma f,u.1<H.sp.length:=fun u hu=>by have:=(tK.1 hu).1;rw[tQ] at this;exact this
   have hq:Hid (jg H.ma f=true∧fF ⟨H.ma,e⟩ f=if FX (kI k3 (aX H.ma f)).m.ca x.f x.i=true then fV ⟨{ (kI k3 (aX H.ma f)).m with ca:=(kI k3 (aX H.ma f)).m.ca.eraseIdx (sJ (kI k3 (aX H.ma f)).m.ca x.f x.i) },(kI k3 (aX H.ma f)).e⟩ f (-1) else kI k3 (aX H.ma f)):=ae (by unfold fF jg;simp only[hR.out];rw[if_pos hxf,if_pos hxf,if_neg (by rw[hcb];decide),kv];exact⟨hcb,rfl⟩);generalize aX H.ma f=l at *
   have q3':=ae q3;have hH:=ae hI;clear q3 hcb kv hu hI;go_upto_region 7 with (fail)
   go_loopw [38] (fun s38 wr => ∃(j:Nat) (Hj:MH) (ej:Int),j≤l.length∧s38 = .int .i64 j∧jf wr B b Hj ej∧KS w b H wr Hj∧Hid (Kp.mk Hj.ma ej=kI k3 (l.take j))∧Own wr 0 226 2 (.slice a2 l.length c2) l.length (l.flatMap uL)∧aJ wr w.heap.size (xV x) 132∧¬kb b Hj w.heap.size∧Hj.sp.length=H.sp.length∧Hj.ca=H.ca) (fun s38 _=>l.length-(intOf s38).toNat)
   case atStart=>exact⟨0,H3,e3,bB _,rfl,h3,s03,ae (by rw[q3'.out];rfl),hy,km,ki,kQ.1,kQ.2.1⟩
   case round=>
    clear hy km ki h3 s03;obtain⟨j,Hj,ej,hj,rfl,ha,sj3,qj,z,hQ,kh,hM,kx⟩:=hrel
    by_cases hjl:j<l.length
    ·have kw:(j:Int)<(l.length:Int):=by omega
     obtain⟨_,_,e9,_,_,_,hG⟩:=z.rd;cases e9;obtain⟨bl,ol,rfl,hF⟩:=Vf hG j hjl;have ko:l[j].1<H.sp.length:=hH.out _ (eZ hjl)
     go_wp2_with (first | (refine aC _ _ rfl bl (ol+j*2) rfl rfl _ hF _ underlying226 rfl us_size ?_) | (refine aT rfl _ _ _ rfl (uC l[j]) rfl rfl rfl us_size (Nf _) ?_))
     intro w5 hl kG;have h5:=ha.below hl;have s5:=sj3.below hl;have hJ:=z.below hl;have hD:=hQ.ext hl;have gC:=hD.lt;clear ha sj3 z hQ hG hF hl;have kY:=kG.cell;unfold uC at kY
     go_wp2_with fail
     refine (zW Hj ej l[j].2 l[j].1 B b _ h5 (by rw[hM];exact ko)).mono ?_;rintro r w6 ⟨rfl,H6,e6,h6,s6,q6⟩;have s:=s6.own h5 hJ (by decide);have ge:=s6.blkN hD kh;have kS:¬kb b H6 w.heap.size:=fun hk=>(s6.sn _ hk).elim kh (fun hh=>by omega);have s06:=s5.trans s6;have hU:H6.sp.length=H.sp.length∧H6.ca=H.ca:=by have hq:=jh.drop ⟨Hj.ma,ej⟩ l[j].1 l[j].2;rw[←q6] at hq;exact⟨by have:=hq.sp;simp only[tQ] at this;rw[this,hM],by have:=hq.ca;exact Eq.trans this kx⟩
     have ks:Hid (Kp.mk H6.ma e6=kI k3 (l.take (j+1))):=ae (by rw[Me k3 l j hjl,←qj.out];exact q6);clear q6 h5 s5 hJ hD kY kG s6;go_wp2;go_roundw
     case rel=>exact⟨j+1,H6,e6,by omega,by go_num,h6,s06,ks,s,ge,kS,hU.1,hU.2⟩
     case measure=>simp[intOf];omega
    have kw:¬(j:Int)<(l.length:Int):=by omega
    rw[ou (by omega)] at qj;clear z;generalize hkd:kI k3 l=kd at *
    clear hkd;have hB:=hQ.cell;unfold xV at hB;have kL:=ae (show kd.m.ca=Hj.ca by rw[←qj.out];rfl);have gp:Hj.ca.length≤1000:=by rw[kx];exact hz2
    clear kx hM
    go_wp2_with fail
    refine (Be Hj ej x.f x.i B b _ ha).mono ?_;rintro r w5 ⟨rfl,hl⟩;have h5:=ha.below hl;have s5:=sj3.below hl;clear ha sj3 hl hB hQ;cases hi:FX Hj.ca x.f x.i with
    | false=>
     have kt:Hid (fF ⟨H.ma,e⟩ f=kd):=ae (by rw[hq.out.2,kL.out,hi];rfl);generalize sJ Hj.ca x.f x.i=k at *
     go_wp2;go_ret;rw[hq.out.1,kt.out];exact⟨rfl,_,_,h5,s5,qj.out⟩
    | true=>
     have kt:Hid (fF ⟨H.ma,e⟩ f=fV ⟨{ kd.m with ca:=Hj.ca.eraseIdx (sJ Hj.ca x.f x.i) },kd.e⟩ f (-1)):=ae (by rw[hq.out.2,kL.out,hi,if_pos rfl]);obtain⟨c,hc,_,_⟩:=Dm hi;have kR:=(dx.1 hc).1;clear hc hi;generalize sJ Hj.ca x.f x.i=k at *
     have kW:=h5.blk.cell;unfold nC at kW;have gJ:(k:Int)+1≤1000:=by omega
     have hS:IntKind.i64.wrap ((k:Int)+1)=(k:Int)+1:=bP _ (by omega)
     go_wp2_with fail
     refine (IA Hj.ca k kR Hj.ac Hj.cc B _ h5.ma.ca gp).mono ?_;rintro r w6 ⟨rfl,s,hg⟩;have kg:(Hj.ca.eraseIdx k).length=Hj.ca.length-1:=yo kR;rw[←kg] at s;obtain⟨hK,kp⟩:=h5.cache s5 hg (a:=Hj.ac) (c:=Hj.cc) (l:=Hj.ca.eraseIdx k) s (.inl rfl);rw[kg] at kp;clear kW h5 s5 s hg
     go_wp2_with (refine bz rfl _ _ _ rfl b 9 _ [.slice Hj.ac (Hj.ca.length-1) Hj.cc] rfl rfl rfl _ _ hK (by show 9+1≤12;decide) slca_size (fun u hu=>by cases bN.1 hu;rfl) ?_)
     intro w7 hP hr;obtain⟨h7,s7⟩:=kp w7 hP hr;clear kp hK hP hr
     go_wp2_with fail
     refine (wQ _ ej f (-1) B b _ h7).mono ?_;rintro r w8 ⟨rfl,gm⟩;go_wp2;go_ret;rw[hq.out.1,kt.out,←qj.out];exact⟨rfl,KR.trans s7 gm⟩
 have kj:=h2.blk.cell;unfold nC at kj;have hm:=h2.ma.rd.sl;have gk:(aX H.ma f).length≤64000:=by
  have:=Bg H.ma f H.sp.length;have e1:qV H.ma f H.sp.length=aX H.ma f:=by unfold qV aX;rw[tQ]
  rw[e1] at this;omega
 have hI:∀u∈aX H.ma f,u.1<H.sp.length:=fun u hu=>by have:=(tK.1 hu).1;rw[tQ] at this;exact this
 have kr:Hid (jg H.ma f=decide (gT H.sl (aX H.ma f).length=0)):=ae (by unfold jg;rw[hR.out,if_neg hxf];rfl);have kq:Hid (fF ⟨H.ma,e⟩ f=if gT H.sl (aX H.ma f).length≠0 then ⟨H.ma,e⟩ else qw ⟨{ H.ma with sl:=lF H.sl (aX H.ma f).length,sw:=dz H.sw (jD H.sl (aX H.ma f).length) x.p },iF e (aI H.sw (jD H.sl (aX H.ma f).length))⟩ f (jD H.sl (aX H.ma f).length) (aX H.ma f)):=ae (by unfold fF;simp only[hR.out];rw[if_neg hxf];rfl);generalize aX H.ma f=l at *
 have hH:=ae hI;clear hI
 go_wp2_with fail
 refine (Mg H.sl H.asl H.csl (l.length:Int) _ hm.le hm.nl hm.rd (by have:=hm.le;have:=hm.mx;unfold maxLen at this;omega)).mono ?_;rintro r w3 ⟨v3,rfl,hy,hv⟩;obtain⟨a3,c3,rfl,_⟩:=hy.rd;have k3:=h2.below hv;have s3:=s2.below hv;have kx3:=hs.ext hv;have kf:=hL.below hv;have gg:=ae s2.size;clear hB kj h2 s2 hs hL hv hm
 by_cases hE:gT H.sl l.length=0
 ·have hq:Hid (jg H.ma f=true∧fF ⟨H.ma,e⟩ f=qw ⟨{ H.ma with sl:=lF H.sl l.length,sw:=dz H.sw (jD H.sl l.length) x.p },iF e (aI H.sw (jD H.sl l.length))⟩ f (jD H.sl l.length) l):=ae (by rw[kr.out,kq.out,hE];exact⟨rfl,rfl⟩);rw[hE];clear hE kr kq;generalize jD H.sl l.length=N at *
  go_upto_region 19 with (fail);refine gH 15 [_,_,_,_,_,_,_,_,.r 8 ((AU w3.heap.size (dz H.sw N x.p) (aI H.sw N))),.r 9 ((AU w3.heap.size (dz H.sw N x.p) (aI H.sw N))),.r 10 ((xn w3.heap.size (dz H.sw N x.p))),.v (.int .i64 (aI H.sw N)),.r 12 ((eO w3.heap.size 37 2)),.y 13 ((IJ 12 w3.heap.size 37 (xn w3.heap.size (dz H.sw N x.p)))),.v (.int .i64 (aI H.sw N))] (fun W=>Below w3.heap.size w3 W) bA (Below.refl _ _) (Yk bA rfl (Yk bA rfl (Yf bA b 0 rfl rfl (Yf bA b 3 rfl rfl (Yr bA (.agg #[.slice H.wb H.sw.blocks.length H.cwb,.slice H.wq H.sw.queue.length H.cwq]) (fun ρ y W hb kz=>(bG rfl (aU rfl kz) (k3.below hb).rdW underlying37 rfl disk_size)) rfl rfl (Yk bA rfl (Yf bA w.heap.size 0 rfl rfl (Yr bA (.agg (gQ x.p)) (fun ρ y W hb kz=>(bG rfl (aU rfl kz) (cz (kx3.ext hb) 0 8) underlying100 rfl psize)) rfl rfl (aj ?_ (aj ?_ (aj ?_ (aj ?_ (aj ?_ (aj ?_ (Yk bA rfl (aF)))))))))))))))) (fun _=>rfl) rfl ?_
  ·intro ρ y W hw hn hb hd;refine eP bA hb ((AU w3.heap.size (dz H.sw N x.p) (aI H.sw N))) (fun _ _ h=>h) ?_;have gA:=hw 94 4 rfl;have h4:y 4 = .agg #[.slice H.wb H.sw.blocks.length H.cwb,.slice H.wq H.sw.queue.length H.cwq]:=hd 4 rfl;have gy:=hw 95 5 rfl;have h5:y 5 = .int .i64 N:=hd 5 rfl;have gx:=hw 97 7 rfl;have h7:y 7 = .agg (gQ x.p):=hd 7 rfl;have EF:∀f,ρ (.func f) = .func (.func f) #[] #[]:=fun f=>hn (.func f) trivial;refine aK _ _ (ag rfl) (aQ rfl (EF _) func178 (by kernel_rfl) (by kernel_rfl) (by simp only[bT,bF,bI,gA,h4,gy,h5,gx,h7,EF];rfl)) ?_;refine (Cv H.sw N x.p H.wb H.cwb H.wq H.cwq W (k3.below hb).ma.rd.sw).mono ?_;rintro r W3 ⟨vb,vq,rfl,ho,hv⟩;exact⟨_,rfl,hv,vb,vq,rfl,ho.mono hb.size⟩
  ·intro ρ y W hw hn hb hd;refine eP bA hb ((AU w3.heap.size (dz H.sw N x.p) (aI H.sw N))) (fun _ _ h=>h) ?_;have gw:=hw 98 8 rfl;have h8:=hd 8 rfl;refine ak _ (ag rfl) (run_move (.inl rfl) gw) ?_;exact h8
  ·intro ρ y W hw hn hb hd;refine eP bA hb ((xn w3.heap.size (dz H.sw N x.p))) (fun _ _ h=>h) ?_;have kA:=hw 89 9 rfl;have h9:=hd 9 rfl;obtain⟨vb,vq,hu,ho⟩:=h9;refine ak (.agg #[vb,vq]) (ag rfl) (by simp[execOp,go_sem,bu,kA,hu]) ?_;exact⟨vb,vq,rfl,ho⟩
  ·intro ρ y W hw hn hb hd;refine eP bA hb (gI (.int .i64 (aI H.sw N))) (fun _ _ h=>h) ?_;have kA:=hw 89 9 rfl;have h9:=hd 9 rfl;obtain⟨vb,vq,hu,ho⟩:=h9;refine ak (.int .i64 (aI H.sw N)) (ag rfl) (by simp[execOp,go_sem,bu,kA,hu]) rfl
  ·intro ρ y W hw hn hb hd;refine eP bA hb ((eO w3.heap.size 37 2)) (fun _ _ h=>h) ?_;refine gz (.pointer (some ⟨W.heap.size,0,none⟩)) (ag rfl) (by simp[execOp,go_sem,bu]) ((Below.refl _ _).alloc (az _) (.cells #[.slice none 0 0,.slice none 0 0] 37)) ?_;exact⟨_,_,rfl,hb.size,aJ.new _ _ _,rfl⟩
  ·intro ρ y W hw hn hb hd;have gB:=hw 14 12 rfl;have gt:=hd 12 rfl;have gv:=hw 99 10 rfl;have gu:=hd 10 rfl;obtain⟨vb,vq,e7,ku⟩:=gu;obtain⟨g3,cur3,e9,kU,hC,kJ⟩:=gt;obtain⟨ab,cb,rfl,_⟩:=ku.b.rd;obtain⟨aq,cq,rfl,_⟩:=ku.q.rd;refine iZ (ag rfl) _ _ _ rfl g3 0 (.agg #[.slice ab _ cb,.slice aq _ cq]) [.slice ab _ cb,.slice aq _ cq] (gB.trans e9) (gv.trans e7) rfl cur3 _ hC (by rw[kJ];exact az _) disk_size (gG (pE _ _ _ _ _ _)) ?_;intro w1 hS hA;rw[show ∀(p q:Value),[p,q]=(#[p,q]:Array Value).toList from fun _ _=>rfl,dU cur3 _ (by rw[kJ];rfl)] at hS;refine⟨hb.grown hA hb.size (fun k hk=>by cases hk;exact kU),⟨g3,_,e9,kU,hS,⟨_,_,rfl,ku.keep hC (by decide) (by decide) hA⟩⟩,?_⟩;intro k hk gj
   match k,hk,gj with
   | 0,_,_=>exact fun h=>h
   | 1,_,_=>exact fun h=>h
   | 2,_,_=>exact fun h=>h
   | 3,_,_=>exact fun h=>h
   | 4,_,_=>exact fun h=>h
   | 5,_,_=>exact fun h=>h
   | 6,_,_=>exact fun h=>h
   | 7,_,_=>exact fun h=>h
   | 8,_,_=>exact fun⟨c,q0,q1,q2⟩=>⟨c,q0,q1,q2.keep hC (by decide) (by decide) hA⟩
   | 9,_,_=>exact fun⟨c,q0,q1,q2⟩=>⟨c,q0,q1,q2.keep hC (by decide) (by decide) hA⟩
   | 10,_,_=>exact fun⟨c,q0,q1,q2⟩=>⟨c,q0,q1,q2.keep hC (by decide) (by decide) hA⟩
   | 11,_,_=>exact fun h=>h
   | 12,_,_=>exact fun q=>iy q hS (fun _=>rfl) ⟨_,hC⟩ hA
   | 13,_,h=>exact absurd rfl h
   | 14,_,_=>exact fun h=>h
   | n+15,h,_=>exact absurd h (by omega)
  intro y W4 d t;replace d:Below w3.heap.size w3 W4:=d;have gc:((AU w3.heap.size (dz H.sw N x.p) (aI H.sw N))).r (y 8) W4:=t 8 (by decide);have gb:((AU w3.heap.size (dz H.sw N x.p) (aI H.sw N))).r (y 9) W4:=t 9 (by decide);have kD:((xn w3.heap.size (dz H.sw N x.p))).r (y 10) W4:=t 10 (by decide);have kC:((eO w3.heap.size 37 2)).r (y 12) W4:=t 12 (by decide);have kB:=t 13 (by decide);clear t;simp only[dE,bu,bF,bI];obtain⟨gd,cd,gE,gK,k0,vb,vq,hV,hT⟩:=kB;simp only[wW] at hV;subst hV;obtain⟨ab,cb,rfl,_⟩:=hT.b.rd;obtain⟨aq,cq,rfl,_⟩:=hT.q.rd;have k4:=k3.below d;have s4:=s3.below d;have kx4:=kx3.ext d;have ke:=kf.below d;have hZ:=hy.below d;have gh:=ae s3.size;have gD:=kx4.lt;clear gc gb kD kC k3 s3 kx3 kf hy d
  go_wp2_with fail
  refine (qK _ e (aI H.sw N) _ _ _ k4).mono ?_;rintro r w5 ⟨rfl,k5,ht⟩;have s5:=s4.putB ht rfl rfl rfl;have kx5:aJ w5 w.heap.size (xV x) 132:=kx4.grown ht (fun e=>hp (.inl (aS e).symm));have kc:=ay ke k4.blk (by decide) ht;have hY:=ay hZ k4.blk (by decide) ht;have hJ:=hT.keep k4.blk (by decide) (by decide) ht;have hO:=aG k0 k4.blk (by decide) ht;clear k4 s4 kx4 ke hZ hT k0 ht;have hcb:=k5.blk.cell;have gn:=k5.blk.free;unfold nC at hcb;have hV:=hO.cell;have n2:=vw k5.blk hO (by decide);go_upto_region 21 with (fail)
  go_region
  refine Rh (w:=w5.setCells b 2 [.slice a3 (lF H.sl l.length).length c3]) (b:=b) (o:=3) (vs:=[.slice ab (dz H.sw N x.p).blocks.length cb,.slice aq (dz H.sw N x.p).queue.length cq]) (fun W=>Exit.then _ _ _ _ W) fun w7 hr hP => ?_;have hg:=aA w5 b 2 [.slice a3 (lF H.sl l.length).length c3];have k1:=k5.blk.setCells [.slice a3 (lF H.sl l.length).length c3] 2;have k6:=k5.setL (hY.mono (aV ga.out gg.out)) k1 hg;have s6:=s5.putB (H':={ H with asl:=a3,csl:=c3,sl:=lF H.sl l.length }) hg rfl rfl rfl;have s:=hJ.keep k5.blk (by decide) (by decide) hg;have ka:=ay kc k5.blk (by decide) hg;have kx6:=kx5.grown hg (fun e=>hp (.inl (aS e).symm));have kl:=hP k6.blk;have k7:=k6.setW (s.mono (aV ga.out gh.out)) kl hr;have s7:=s6.putB (H':={ H with asl:=a3,csl:=c3,sl:=lF H.sl l.length,wb:=ab,cwb:=cb,wq:=aq,cwq:=cq,sw:=dz H.sw N x.p }) hr rfl rfl rfl;have h0:=(ay ka k6.blk (by decide) hr).mono (bB _);have kx7:=kx6.grown hr (fun e=>hp (.inl (aS e).symm));clear hP kl hr k6 s6 s ka kx6 k1 hg k5 s5 kx5 kc hY hJ hO hcb gn hV;generalize hH7:({ H with asl:=a3,csl:=c3,sl:=lF H.sl l.length,wb:=ab,cwb:=cb,wq:=aq,cwq:=cq,sw:=dz H.sw N x.p }:MH)=H7 at k7 s7;have kO:Hid (Kp.mk H7.ma (iF e (aI H.sw N))=⟨{ H.ma with sl:=lF H.sl l.length,sw:=dz H.sw N x.p },iF e (aI H.sw N)⟩):=ae (by rw[←hH7];rfl);have gl:H7.sp.length=H.sp.length:=by rw[←hH7]
  rw[←kO.out] at hq;clear hH7 kO;generalize iF e (aI H.sw N)=e7 at *
  generalize hk7:Kp.mk H7.ma e7=kk at *
  have kT:=ae hk7;clear hk7;go_upto_region 23 with (fail)
  go_loopw [116] (fun s116 wr => ∃(j:Nat) (Hj:MH) (ej:Int),j≤l.length∧s116 = .int .i64 j∧jf wr B b Hj ej∧KS w b H wr Hj∧Hid (Kp.mk Hj.ma ej=qw kk f N (l.take j))∧Own wr 0 226 2 (.slice a2 l.length c2) l.length (l.flatMap uL)∧Hj.sp.length=H.sp.length) (fun s116 _=>l.length-(intOf s116).toNat)
  case atStart=>exact⟨0,H7,e7,bB _,rfl,k7,s7,ae (by rw[kT.out];rfl),h0,gl⟩
  case round=>
   clear k7 s7 h0 kx7;obtain⟨j,Hj,ej,hj,rfl,ha,sj3,qj,z,hM⟩:=hrel
   by_cases hjl:j<l.length
   ·have kw:(j:Int)<(l.length:Int):=by omega
    obtain⟨_,_,e9,_,_,_,hG⟩:=z.rd;cases e9;obtain⟨bl,ol,rfl,hF⟩:=Vf hG j hjl;have ko:l[j].1<H.sp.length:=hH.out _ (eZ hjl)
    go_wp2_with (first | (refine aC _ _ rfl bl (ol+j*2) rfl rfl _ hF _ underlying226 rfl us_size ?_) | (refine aT rfl _ _ _ rfl (uC l[j]) rfl rfl rfl us_size (Nf _) ?_))
    intro w8 hW kF;have k8:=ha.below hW;have s8:=sj3.below hW;have kN:=z.below hW;clear ha sj3 z hG hF hW
    go_wp2_with fail
    refine (wQ Hj ej f (-1) B b _ k8).mono ?_;rintro r w9 ⟨rfl,H9,e9,k9,s9,q9⟩;have kM:=s9.own k8 kN (by decide);have kE:=s9.blk k8 kF (by decide);have s09:=s8.trans s9;have kP:H9.sp.length=H.sp.length:=by have hq:=jh.hold ⟨Hj.ma,ej⟩ f (-1);rw[←q9] at hq;have:=hq.sp;simp only[tQ] at this;rw[this,hM]
    have q9':=ae q9;clear k8 s8 kN kF s9 q9;have kX:=kE.cell;unfold uC at kX
    go_wp2_with fail
    refine (iH H9 e9 l[j].2 l[j].1 ⟨2,N,false⟩ B b _ k9 (by rw[kP];exact ko)).mono ?_;rintro r w6 ⟨rfl,H6,e6,h6,s6,q6⟩;have s:=s6.own k9 kM (by decide);have s06:=s09.trans s6;have ks:Hid (Kp.mk H6.ma e6=qw kk f N (l.take (j+1))):=ae (by rw[KY kk f N l j hjl,←qj.out];unfold Fg;rw[←q9'.out];exact q6);have hU:H6.sp.length=H.sp.length:=by have hq:=jh.enter ⟨H9.ma,e9⟩ l[j].1 l[j].2 ⟨2,N,false⟩;rw[←q6] at hq;have:=hq.sp;simp only[tQ] at this;rw[this,kP]
    clear q6 k9 s09 kM kX kE s6;go_wp2;go_roundw
    case rel=>exact⟨j+1,H6,e6,by omega,by go_num,h6,s06,ks,s,hU⟩
    case measure=>simp[intOf];omega
   have kw:¬(j:Int)<(l.length:Int):=by omega
   rw[ou (by omega)] at qj;clear z;go_wp2;go_ret;rw[hq.out.1,hq.out.2];exact⟨rfl,_,_,ha,sj3,qj.out⟩
 have hq:Hid (jg H.ma f=false∧fF ⟨H.ma,e⟩ f=⟨H.ma,e⟩):=ae (by rw[kr.out,kq.out,if_pos hE];exact⟨decide_eq_false hE,rfl⟩);go_wp2;go_ret;rw[hq.out.1,hq.out.2];exact⟨rfl,_,_,k3,s3,rfl⟩
structure pK (k k' : Kp):Prop where
 sp:k'.m.sp.length=k.m.sp.length
 ca:k'.m.ca.length≤k.m.ca.length
 fs:k'.m.m.fs.length=k.m.m.fs.length
theorem pK.refl (k:Kp):pK k k:=⟨rfl,az _,rfl⟩
theorem pK.trans {a b c:Kp} (h:pK a b) (k:pK b c):pK a c:=⟨k.sp.trans h.sp,aV k.ca h.ca,k.fs.trans h.fs⟩
theorem jh.l {a b:Kp} (h:jh a b):pK a b:=⟨h.sp,by rw[h.ca];exact az _,h.fs⟩
theorem pK.evict (k:Kp) (f:Nat):pK k (fF k f):=by
 unfold fF;simp only;split
 ·split
  ·exact .refl _
  have h1:=(jh.clean k f).trans (jh.drops (aX k.m f) (jB k f));split
  ·refine (pK.trans ?_ (jh.hold _ f (-1)).l);exact⟨h1.sp,by show (List.eraseIdx _ _).length≤_;rw[h1.ca];exact List.length_eraseIdx_le _ _,h1.fs⟩
  ·exact h1.l
 split
 ·exact .refl _
 refine pK.trans ?_ (jh.swaps _ _ _ _).l;exact⟨rfl,az _,rfl⟩
theorem EG {m:Mem} (h:bC m=0):(fu m).fs.length=m.fs.length:=by
 unfold fu;rw[if_neg (by rw[h];simp)];split
 ·rfl
 ·exact iL _ _
theorem RG {m:Mem} (h:bC m=0) (hk:¬ic m<0):(ic m).toNat<m.fs.length∧ic m=(((ic m).toNat:Nat):Int):=by
 unfold ic at hk ⊢;rw[if_neg (by rw[h];simp)] at hk ⊢;split at hk
 ·omega
 rename_i hne;rw[if_neg hne];have a:0<m.fs.length:=by
  rcases wY m.fs.length with h0|h0
  ·have:=CU m.fs;omega
  ·exact h0
 rw[bD];exact⟨nW a _,rfl⟩
theorem pK.reclaim:∀(t:Nat) (k:Kp),pK k (reclaimN t k).1
 | 0,k => .refl k
 | t+1,k=>by
  unfold reclaimN;simp only;split
  ·exact⟨rfl,az _,rfl⟩
  rename_i hc;have hw:bC k.m.m=0:=by
   by_cases e:bC k.m.m=0
   ·exact e
   ·exact absurd (.inl e) hc
  have h1:pK k ⟨{ k.m with m:=fu k.m.m },k.e⟩:=⟨rfl,az _,EG hw⟩;split
  ·exact h1.trans (.evict _ _)
  ·exact (h1.trans (.evict _ _)).trans (pK.reclaim t _)
theorem pK.took (k:Kp) (p:Page) (f i:Int):pK k (eu k p f i).1:=by
 have ht:∀k:Kp,pK k (jW k p f i).1:=fun k=>by
  unfold jW;split
  ·exact .refl _
  rename_i h;refine⟨rfl,az _,?_⟩;show (eG k.m.m p f i).fs.length=_;unfold eG;rw[if_pos (by simpa using h)];exact dM
 unfold eu;split
 ·split
  ·exact (pK.reclaim _ k).trans (ht _)
  ·exact pK.reclaim _ k
 ·exact ht k
theorem Xg {k:Kp} {e:Int} (q:Kp.mk H.ma e=k):H.sp.length=k.m.sp.length∧H.ca=k.m.ca∧H.m=k.m.m:=by
 subst q;exact⟨(tQ H).symm,rfl,rfl⟩
theorem FZ (H:MH) (e:Int) (B b:Nat) (w:World) (h:jf w B b H e) (hz:H.sp.length≤1000) (hz2:H.ca.length≤1000) (hz3:H.m.fs.length≤1000) :
  Calls Tryz.prog 132 #[.pointer (some ⟨b,0,none⟩)] w fun r w'=>r = .returned (.bool (dX ⟨H.ma,e⟩).2)∧KR w B b H w' (dX ⟨H.ma,e⟩).1:=by
 have hc:=h.blk.cell;unfold nC at hc;have hw:=ae h.bs;go_enter func132,ntmps132;have hp:IntKind.i64.wrap (2*(H.m.fs.length:Int))=2*(H.m.fs.length:Int):=bP _ (by omega);have hn:IntKind.i64.wrap (2*(H.m.fs.length:Int)+1)=2*(H.m.fs.length:Int)+1:=bP _ (by omega);go_upto_region 2 with (fail);have hN:Hid (dX ⟨H.ma,e⟩=reclaimN (2*H.m.fs.length+1) ⟨H.ma,e⟩):=ae rfl;have h':=ae h;generalize hNN:2*H.m.fs.length+1=N at hN;have hi:(2*(H.m.fs.length:Int)+1)=(N:Int):=by omega
 have hu:N≤2001:=by omega
 clear h hc hp hn;rw[hi];clear hi hNN
 go_loopw [15] (fun s15 wr => ∃(j:Nat) (Hj:MH) (ej:Int),j≤N∧s15 = .int .i64 j∧jf wr B b Hj ej∧KS w b H wr Hj∧Hid (reclaimN N ⟨H.ma,e⟩=reclaimN (N-j) ⟨Hj.ma,ej⟩)∧Hid (Hj.sp.length=H.sp.length∧Hj.ca.length≤H.ca.length∧Hj.m.fs.length=H.m.fs.length)) (fun s15 _=>N-(intOf s15).toNat)
 case atStart=>exact⟨0,H,e,bB _,rfl,h'.out,.refl _ _ _,ae rfl,ae ⟨rfl,az _,rfl⟩⟩
 case round=>
  clear h';obtain⟨j,Hj,ej,hj,rfl,d,sj3,qj,hl⟩:=hrel
  by_cases hjl:j<N
  ·have hs:(j:Int)<(N:Int):=by omega
   go_wp2_with (refine aC _ _ rfl b 0 rfl rfl _ d.rdM _ underlying31 rfl mem_size ?_)
   refine (NV Hj.m _ _ _ d.ma.rd.fr).mono ?_;rintro r w1 ⟨vb,rfl,ho,u⟩;obtain⟨a1,c1,rfl,_⟩:=yj ho;have h1:=d.below u;have s1:=sj3.below u;have ht:=ae d.bs;have hm:=ae sj3.size;clear d sj3 u
   go_wp2_with (refine aT rfl _ _ _ rfl #[.slice a1 (fu Hj.m).fs.length c1,.int .i64 (fu Hj.m).hand] rfl rfl rfl mem_size (fI _ _ _ _) ?_)
   intro w2 l v;have h2:=h1.below l;have s2:=s1.below l;have x:=ho.below l;clear h1 s1 ho l
   go_wp2_with fail
   refine (qK _ ej (bC Hj.m) _ _ _ h2).mono ?_;rintro r w3 ⟨rfl,h3,k⟩;have s3:=s2.putB k rfl rfl rfl;have q:=ay x h2.blk (by decide) k;have p:=aG v h2.blk (by decide) k;clear h2 s2 x v k;have c:Hid (reclaimN N ⟨H.ma,e⟩=reclaimN (N-(j+1)+1) ⟨Hj.ma,ej⟩):=ae (by rw[qj.out,show N-(j+1)+1=N-j by omega]);clear qj
   by_cases h0:bC Hj.m=0
   ·rw[h0,mi] at h3
    by_cases hk:ic Hj.m<0
    ·have hq:Hid (dX ⟨H.ma,e⟩=(⟨Hj.ma,ej⟩,false)):=ae (by rw[hN.out,c.out];unfold reclaimN;rw[if_pos (.inr hk)];show (Kp.mk Hj.ma (iF ej (bC Hj.m)),false)=_;rw[h0,mi]);rw[h0];go_wp2;go_ret;rw[hq.out];exact⟨rfl,_,_,h3,s3,rfl⟩
    obtain⟨y,f⟩:=RG h0 hk;have hr:=ae (EG h0);have o:=ae f;generalize hF:(ic Hj.m).toNat=F at y f o;have hv:¬(F:Int)<0:=by omega
    rw[f] at hk;rw[h0,f];clear f hk;have hx:=p.cell
    go_wp2_with (first | (refine aC _ _ rfl _ 0 rfl rfl [.slice a1 (fu Hj.m).fs.length c1,.int .i64 (fu Hj.m).hand] (cz p 0 2) _ underlying31 rfl mem_size ?_) | (refine gy rfl _ _ _ rfl b 0 _ rfl rfl _ _ h3.blk (by show 0+2≤12;decide) mem_size (fI _ _ _ _) ?_))
    intro w4 hh t;have h4:=h3.setM (q.mono ht.out) hh t;have s4:KS w b H w4 { Hj with af:=a1,cf:=c1,m:=fu Hj.m }:=s3.putF t (q.mono hm.out) (az _) rfl rfl;clear h3 s3 q p hx hh t;have g:Hid (reclaimN N ⟨H.ma,e⟩=if jg (MH.ma { Hj with af:=a1,cf:=c1,m:=fu Hj.m }) F=true then (fF ⟨MH.ma { Hj with af:=a1,cf:=c1,m:=fu Hj.m },ej⟩ F,true) else reclaimN (N-(j+1)) (fF ⟨MH.ma { Hj with af:=a1,cf:=c1,m:=fu Hj.m },ej⟩ F)):=ae (by
     rw[c.out]
     conv=>lhs;unfold reclaimN
     have hc:¬(bC (Kp.m ⟨Hj.ma,ej⟩).m≠0∨ic (Kp.m ⟨Hj.ma,ej⟩).m<0):=by
      rintro (e|e)
      ·exact e h0
      have:ic Hj.m<0:=e;rw[o.out] at this;omega
     rw[if_neg hc];rw[show (ic (Kp.m ⟨Hj.ma,ej⟩).m).toNat=F from hF];rfl)
    obtain⟨hg,hf,s⟩:=hl.out;have hd:(MH.sp { Hj with af:=a1,cf:=c1,m:=fu Hj.m }).length=H.sp.length∧(MH.ca { Hj with af:=a1,cf:=c1,m:=fu Hj.m }).length≤H.ca.length∧(MH.m { Hj with af:=a1,cf:=c1,m:=fu Hj.m }).fs.length=H.m.fs.length:=⟨hg,hf,hr.out.trans s⟩;have n:=y;rw[s] at n;have a:=ae hd;clear hd hg hf s;generalize ({ Hj with af:=a1,cf:=c1,m:=fu Hj.m }:MH)=H4 at h4 s4 g a
    go_wp2_with fail
    refine (LZ H4 ej F B b _ h4 (by rw[a.out.2.2];exact n) (by rw[a.out.1];exact hz) (aV a.out.2.1 hz2)).mono ?_;rintro r w5 ⟨rfl,H5,e5,h5,s5,q5⟩;have s05:=s4.trans s5;have i:=pK.evict ⟨H4.ma,ej⟩ F;obtain⟨m1,m2,m3⟩:=Xg q5;have ha:H5.sp.length=H.sp.length∧H5.ca.length≤H.ca.length∧H5.m.fs.length=H.m.fs.length:=by have a1:=i.sp;have a2:=i.ca;have a3:=i.fs;rw[show (Kp.m ⟨H4.ma,ej⟩).sp.length=H4.sp.length from tQ H4] at a1;exact⟨by rw[m1,a1];exact a.out.1,by rw[m2];exact aV a2 a.out.2.1,by rw[m3];exact a3.trans a.out.2.2⟩
    have q5':=ae q5;have z:=ae ha;clear h4 s4 s5 q5 i m1 m2 m3 ha;cases hb:jg H4.ma F with
    | true=>
     have hq:Hid (dX ⟨H.ma,e⟩=(⟨H5.ma,e5⟩,true)):=ae (by rw[hN.out,g.out,hb,if_pos rfl,q5'.out]);go_wp2;go_ret;rw[hq.out];exact⟨rfl,_,_,h5,s05,rfl⟩
    | false=>
     have hq:Hid (reclaimN N ⟨H.ma,e⟩=reclaimN (N-(j+1)) ⟨H5.ma,e5⟩):=ae (by rw[g.out,hb,if_neg (by decide),q5'.out]);clear g c;go_wp2;go_roundw
     case rel=>exact⟨j+1,H5,e5,by omega,by go_num,h5,s05,hq,z⟩
     case measure=>simp[intOf];omega
   have hq:Hid (dX ⟨H.ma,e⟩=(⟨Hj.ma,iF ej (bC Hj.m)⟩,false)):=ae (by rw[hN.out,c.out];unfold reclaimN;rw[if_pos (.inl h0)];rfl);go_wp2;go_ret;rw[hq.out];exact⟨rfl,_,_,h3,s3,rfl⟩
  have hs:¬(j:Int)<(N:Int):=by omega
  have hq:Hid (dX ⟨H.ma,e⟩=(⟨Hj.ma,ej⟩,false)):=ae (by rw[hN.out,qj.out,show N-j=0 by omega];rfl);clear qj;go_wp2;go_ret;rw[hq.out];exact⟨rfl,_,_,d,sj3,rfl⟩
def PW (B:Nat) (m:Mem) (K E:Int):nG:=⟨fun v w => ∃u,v = .tuple #[.agg #[u,.int .i64 m.hand],.int .i64 K,.int .i64 E]∧Own w B 132 13 u m.fs.length (m.fs.flatMap oH),fun _ _ _ hb ⟨u,h1,h2⟩=>⟨u,h1,h2.below hb⟩⟩
theorem qi (H:MH) (e f i:Int) (p:Page) (B b:Nat) (w:World) (h:jf w B b H e) (hz:H.sp.length≤1000) (hz2:H.ca.length≤1000) (hz3:H.m.fs.length≤1000) :
  Calls Tryz.prog 172 #[.pointer (some ⟨b,0,none⟩),.agg (gQ p),.int .i64 f,.int .i64 i] w fun r w'=>r = .returned (.int .i64 (eu ⟨H.ma,e⟩ p f i).2)∧KR w B b H w' (eu ⟨H.ma,e⟩ p f i).1:=by
 have hL:=ae h.bs;go_enter func172,ntmps172;rw[GG];go_upto_region 1 with (fail);refine jl (fun W=>Code.wp _ _ _ _ W) fun w1 hC px1 hN => ?_;have k1:=h.below hC;have s1:=(KS.refl w b H).below hC;generalize w.heap.size=gp at px1 ⊢;clear h hC hN
 go_wp2_with (refine aC _ _ rfl b 0 rfl rfl _ k1.rdM _ underlying31 rfl mem_size ?_)
 refine (zV H.m _ _ _ k1.ma.rd.fr).mono ?_;rintro r w2 ⟨rfl,hp⟩;have k2:=k1.below hp;have s2:=s1.below hp;have px2:aJ w2 gp (gQ p) 100:=px1.ext hp;clear k1 s1 px1 hp
 by_cases h0:fe H.m.fs=0
 ·have hs:((fe H.m.fs:Nat):Int)=0:=by omega
  have hr:Hid (eu ⟨H.ma,e⟩ p f i=if (dX ⟨H.ma,e⟩).2=true then jW (dX ⟨H.ma,e⟩).1 p f i else ((dX ⟨H.ma,e⟩).1,-1)):=ae (by unfold eu;exact if_pos h0);rw[hs];clear hs h0
  go_wp2_with fail
  refine (FZ H e B b _ k2 hz hz2 hz3).mono ?_;rintro r w3 ⟨rfl,H3,e3,k3,s3,q3⟩;have px3:=s3.blkN px2 (fun hk => ?_)
  ·have s03:=s2.trans s3;have q3':=ae q3;clear k2 s2 s3 px2 q3;cases hb:(dX ⟨H.ma,e⟩).2 with
   | true=>
    have hR:Hid (eu ⟨H.ma,e⟩ p f i=jW ⟨H3.ma,e3⟩ p f i):=ae (by rw[hr.out,hb,if_pos rfl,q3'.out]);clear hb hr q3';go_upto_region 3 with (fail);have hP:=ae (rfl:eG H3.m p f i=eG H3.m p f i);refine gH 17 [_,_,_,_,_,_,_,_,.r 8 ((PW w3.heap.size (eG H3.m p f i) (gJ H3.m p f i) (gF H3.m p f i))),.r 9 ((PW w3.heap.size (eG H3.m p f i) (gJ H3.m p f i) (gF H3.m p f i))),.r 10 ((CW w3.heap.size (eG H3.m p f i))),.v (.int .i64 (gJ H3.m p f i:Nat)),.v (.int .i64 (gF H3.m p f i)),.r 13 ((eO w3.heap.size 31 2)),.y 14 ((IJ 13 w3.heap.size 31 (CW w3.heap.size (eG H3.m p f i)))),.v (.int .i64 (gJ H3.m p f i:Nat)),.v (.int .i64 (gF H3.m p f i))] (fun W=>Below w3.heap.size w3 W) bA (Below.refl _ _) (Yk bA rfl (Yk bA rfl (Yf bA b 0 rfl rfl (Yf bA b 0 rfl rfl (Yr bA (.agg #[.slice H3.af H3.m.fs.length H3.cf,.int .i64 H3.m.hand]) (fun ρ y W hb t=>(bG rfl (aU rfl t) (cz (k3.below hb).blk 0 2) underlying31 rfl (by kernel_rfl))) rfl rfl (Yr bA (.agg #[.int .u8 p[0].toNat,.int .u8 p[1].toNat,.int .u8 p[2].toNat,.int .u8 p[3].toNat,.int .u8 p[4].toNat,.int .u8 p[5].toNat,.int .u8 p[6].toNat,.int .u8 p[7].toNat]) (fun ρ y W hb t=>(bG rfl (aU rfl t) (cz (px3.ext hb) 0 8) underlying100 rfl (by kernel_rfl))) rfl rfl (Yk bA rfl (Yk bA rfl (aj ?_ (aj ?_ (aj ?_ (aj ?_ (aj ?_ (aj ?_ (aj ?_ (Yk bA rfl (Yk bA rfl (aF)))))))))))))))))) (fun _=>rfl) rfl ?_
    ·intro ρ y W hw hn hb hd;refine eP bA hb ((PW w3.heap.size (eG H3.m p f i) (gJ H3.m p f i) (gF H3.m p f i))) (fun _ _ h=>h) ?_;have hK:=hw 29 4 rfl;have h4:y 4 = .agg #[.slice H3.af H3.m.fs.length H3.cf,.int .i64 H3.m.hand]:=hd 4 rfl;have hJ:=hw 30 5 rfl;have h5:y 5 = .agg #[.int .u8 p[0].toNat,.int .u8 p[1].toNat,.int .u8 p[2].toNat,.int .u8 p[3].toNat,.int .u8 p[4].toNat,.int .u8 p[5].toNat,.int .u8 p[6].toNat,.int .u8 p[7].toNat]:=hd 5 rfl;have hI:=hw 31 6 rfl;have h6:y 6 = .int .i64 f:=hd 6 rfl;have hH:=hw 32 7 rfl;have h7:y 7 = .int .i64 i:=hd 7 rfl;have EF:∀f,ρ (.func f) = .func (.func f) #[] #[]:=fun f=>hn (.func f) trivial;refine aK _ _ (ag rfl) (aQ rfl (EF _) func195 (by kernel_rfl) (by kernel_rfl) (by simp only[bT,bF,bI,hK,h4,hJ,h5,hI,h6,hH,h7,EF];rfl)) ?_;refine (Fu H3.m p f i H3.af H3.cf W (k3.below hb).ma.rd.fr).mono ?_;rintro r W3 ⟨u,rfl,ho,hB⟩;exact⟨_,rfl,hB,u,rfl,ho.mono hb.size⟩
    ·intro ρ y W hw hn hb hd;refine eP bA hb ((PW w3.heap.size (eG H3.m p f i) (gJ H3.m p f i) (gF H3.m p f i))) (fun _ _ h=>h) ?_;have hG:=hw 33 8 rfl;have h8:=hd 8 rfl;refine ak _ (ag rfl) (run_move (.inl rfl) hG) ?_;exact h8
    ·intro ρ y W hw hn hb hd;refine eP bA hb ((CW w3.heap.size (eG H3.m p f i))) (fun _ _ h=>h) ?_;have l:=hw 24 9 rfl;have h9:=hd 9 rfl;obtain⟨u,hu,ho⟩:=h9;refine ak (.agg #[u,.int .i64 (eG H3.m p f i).hand]) (ag rfl) (by simp[execOp,go_sem,bu,l,hu]) ?_;exact⟨u,rfl,ho⟩
    ·intro ρ y W hw hn hb hd;refine eP bA hb (gI (.int .i64 (gJ H3.m p f i:Nat))) (fun _ _ h=>h) ?_;have l:=hw 24 9 rfl;have h9:=hd 9 rfl;obtain⟨u,hu,ho⟩:=h9;refine ak (.int .i64 (gJ H3.m p f i:Nat)) (ag rfl) (by simp[execOp,go_sem,bu,l,hu]) rfl
    ·intro ρ y W hw hn hb hd;refine eP bA hb (gI (.int .i64 (gF H3.m p f i))) (fun _ _ h=>h) ?_;have l:=hw 24 9 rfl;have h9:=hd 9 rfl;obtain⟨u,hu,ho⟩:=h9;refine ak (.int .i64 (gF H3.m p f i)) (ag rfl) (by simp[execOp,go_sem,bu,l,hu]) rfl
    ·intro ρ y W hw hn hb hd;refine eP bA hb ((eO w3.heap.size 31 2)) (fun _ _ h=>h) ?_;refine gz (.pointer (some ⟨W.heap.size,0,none⟩)) (ag rfl) (by simp[execOp,go_sem,bu]) ((Below.refl _ _).alloc (az _) (.cells #[.slice none 0 0,.int .i64 0] 31)) ?_;exact⟨_,_,rfl,hb.size,aJ.new _ _ _,rfl⟩
    ·intro ρ y W hw hn hb hd;have E9:=hw 9 13 rfl;have hD:=hd 13 rfl;have hF:=hw 34 10 rfl;have hE:=hd 10 rfl;obtain⟨u,e7,hh⟩:=hE;obtain⟨g3,cur3,e9,hi,j,hg⟩:=hD;refine iZ (ag rfl) _ _ _ rfl g3 0 (.agg #[u,.int .i64 (eG H3.m p f i).hand]) [u,.int .i64 (eG H3.m p f i).hand] (E9.trans e9) (hF.trans e7) rfl cur3 _ j (by rw[hg];exact az _) mem_size (by obtain⟨a1,c1,rfl,_⟩:=hh.rd;exact gG (fI _ _ _ _)) ?_;intro w1 o g;rw[show ∀(x y:Value),[x,y]=(#[x,y]:Array Value).toList from fun _ _=>rfl,dU cur3 _ (by rw[hg];rfl)] at o;refine⟨hb.grown g hb.size (fun k hk=>by cases hk;exact hi),⟨g3,_,e9,hi,o,⟨_,rfl,ay hh j (by decide) g⟩⟩,?_⟩;intro k hk hy
     match k,hk,hy with
     | 0,_,_=>exact fun h=>h
     | 1,_,_=>exact fun h=>h
     | 2,_,_=>exact fun h=>h
     | 3,_,_=>exact fun h=>h
     | 4,_,_=>exact fun h=>h
     | 5,_,_=>exact fun h=>h
     | 6,_,_=>exact fun h=>h
     | 7,_,_=>exact fun h=>h
     | 8,_,_=>exact fun⟨c,q1,q2⟩=>⟨c,q1,ay q2 j (by decide) g⟩
     | 9,_,_=>exact fun⟨c,q1,q2⟩=>⟨c,q1,ay q2 j (by decide) g⟩
     | 10,_,_=>exact fun⟨c,q1,q2⟩=>⟨c,q1,ay q2 j (by decide) g⟩
     | 11,_,_=>exact fun h=>h
     | 12,_,_=>exact fun h=>h
     | 13,_,_=>exact fun q=>iy q o (fun _=>rfl) ⟨_,j⟩ g
     | 14,_,h=>exact absurd rfl h
     | 15,_,_=>exact fun h=>h
     | 16,_,_=>exact fun h=>h
     | n+17,h,_=>exact absurd h (by omega)
    intro y W3 d a;replace d:Below w3.heap.size w3 W3:=d;have hv:((PW w3.heap.size (eG H3.m p f i) (gJ H3.m p f i) (gF H3.m p f i))).r (y 8) W3:=a 8 (by decide);have ht:((PW w3.heap.size (eG H3.m p f i) (gJ H3.m p f i) (gF H3.m p f i))).r (y 9) W3:=a 9 (by decide);have hc:((CW w3.heap.size (eG H3.m p f i))).r (y 10) W3:=a 10 (by decide);have ha:((eO w3.heap.size 31 2)).r (y 13) W3:=a 13 (by decide);have z:=a 14 (by decide);clear a;simp only[dE,bu,bF,bI];obtain⟨gd,cd,hM,hO,hm,u,hl,s⟩:=z;simp only[wW] at hl;subst hl;obtain⟨a1,c1,rfl,_⟩:=s.rd;have k4:=k3.below d;have s4:=s03.below d;have hf:=ae s03.size;clear hv ht hc ha k3 s03 px3 d
    by_cases h0:gF H3.m p f i=0
    ·have hq:Hid (jW ⟨H3.ma,e3⟩ p f i=(Kp.mk { H3.ma with m:=eG H3.m p f i } e3,((gJ H3.m p f i:Nat):Int))):=ae (by unfold jW;exact if_neg (fun h'=>h' h0));have hx:=hm.cell;rw[h0];generalize eG H3.m p f i=M at *
     generalize gJ H3.m p f i=K at *
     go_wp2_with (first | (refine aC _ _ rfl _ 0 rfl rfl [.slice a1 M.fs.length c1,.int .i64 M.hand] (cz hm 0 2) _ underlying31 rfl mem_size ?_) | (refine gy rfl _ _ _ rfl b 0 _ rfl rfl _ _ k4.blk (by show 0+2≤12;decide) mem_size (fI _ _ _ _) ?_))
     intro w5 hA hj;have k5:=k4.setM (s.mono (aV hL.out hf.out)) hA hj;go_wp2;go_ret;rw[hR.out,hq.out];exact⟨rfl,_,_,k5,s4.putF hj (s.mono hf.out) (az _) rfl rfl,rfl⟩
    have hq:Hid (jW ⟨H3.ma,e3⟩ p f i=(⟨H3.ma,e3⟩,-1)):=ae (by unfold jW;exact if_pos h0);go_wp2;go_ret;rw[hR.out,hq.out];exact⟨rfl,_,_,k4,s4,rfl⟩
   | false=>
    have hR:Hid (eu ⟨H.ma,e⟩ p f i=(⟨H3.ma,e3⟩,-1)):=ae (by rw[hr.out,hb,if_neg (by decide),q3'.out]);clear hb hr q3';go_wp2;go_ret;rw[hR.out];exact⟨rfl,_,_,k3,s03,rfl⟩
  obtain⟨cs,T,hb,hT⟩:=k2.kb_T hk;exact absurd rfl (vw px2 hb (by rcases hT with rfl | rfl | rfl | rfl<;>decide))
 have hs:¬((fe H.m.fs:Nat):Int)=0:=by omega
 have hR:Hid (eu ⟨H.ma,e⟩ p f i=jW ⟨H.ma,e⟩ p f i):=ae (by unfold eu;exact if_neg h0);clear h0;have hQ:fe H.m.fs=fe H.m.fs:=rfl;generalize fe H.m.fs=N at hs;go_upto_region 3 with (fail);have hP:=ae (rfl:eG H.m p f i=eG H.m p f i);refine gH 17 [_,_,_,_,_,_,_,_,.r 8 ((PW w2.heap.size (eG H.m p f i) (gJ H.m p f i) (gF H.m p f i))),.r 9 ((PW w2.heap.size (eG H.m p f i) (gJ H.m p f i) (gF H.m p f i))),.r 10 ((CW w2.heap.size (eG H.m p f i))),.v (.int .i64 (gJ H.m p f i:Nat)),.v (.int .i64 (gF H.m p f i)),.r 13 ((eO w2.heap.size 31 2)),.y 14 ((IJ 13 w2.heap.size 31 (CW w2.heap.size (eG H.m p f i)))),.v (.int .i64 (gJ H.m p f i:Nat)),.v (.int .i64 (gF H.m p f i))] (fun W=>Below w2.heap.size w2 W) bA (Below.refl _ _) (Yk bA rfl (Yk bA rfl (Yf bA b 0 rfl rfl (Yf bA b 0 rfl rfl (Yr bA (.agg #[.slice H.af H.m.fs.length H.cf,.int .i64 H.m.hand]) (fun ρ y W hb t=>(bG rfl (aU rfl t) (cz (k2.below hb).blk 0 2) underlying31 rfl (by kernel_rfl))) rfl rfl (Yr bA (.agg #[.int .u8 p[0].toNat,.int .u8 p[1].toNat,.int .u8 p[2].toNat,.int .u8 p[3].toNat,.int .u8 p[4].toNat,.int .u8 p[5].toNat,.int .u8 p[6].toNat,.int .u8 p[7].toNat]) (fun ρ y W hb t=>(bG rfl (aU rfl t) (cz (px2.ext hb) 0 8) underlying100 rfl (by kernel_rfl))) rfl rfl (Yk bA rfl (Yk bA rfl (aj ?_ (aj ?_ (aj ?_ (aj ?_ (aj ?_ (aj ?_ (aj ?_ (Yk bA rfl (Yk bA rfl (aF)))))))))))))))))) (fun _=>rfl) rfl ?_
 ·intro ρ y W hw hn hb hd;refine eP bA hb ((PW w2.heap.size (eG H.m p f i) (gJ H.m p f i) (gF H.m p f i))) (fun _ _ h=>h) ?_;have hK:=hw 29 4 rfl;have h4:y 4 = .agg #[.slice H.af H.m.fs.length H.cf,.int .i64 H.m.hand]:=hd 4 rfl;have hJ:=hw 30 5 rfl;have h5:y 5 = .agg #[.int .u8 p[0].toNat,.int .u8 p[1].toNat,.int .u8 p[2].toNat,.int .u8 p[3].toNat,.int .u8 p[4].toNat,.int .u8 p[5].toNat,.int .u8 p[6].toNat,.int .u8 p[7].toNat]:=hd 5 rfl;have hI:=hw 31 6 rfl;have h6:y 6 = .int .i64 f:=hd 6 rfl;have hH:=hw 32 7 rfl;have h7:y 7 = .int .i64 i:=hd 7 rfl;have EF:∀f,ρ (.func f) = .func (.func f) #[] #[]:=fun f=>hn (.func f) trivial;refine aK _ _ (ag rfl) (aQ rfl (EF _) func195 (by kernel_rfl) (by kernel_rfl) (by simp only[bT,bF,bI,hK,h4,hJ,h5,hI,h6,hH,h7,EF];rfl)) ?_;refine (Fu H.m p f i H.af H.cf W (k2.below hb).ma.rd.fr).mono ?_;rintro r W3 ⟨u,rfl,ho,hB⟩;exact⟨_,rfl,hB,u,rfl,ho.mono hb.size⟩
 ·intro ρ y W hw hn hb hd;refine eP bA hb ((PW w2.heap.size (eG H.m p f i) (gJ H.m p f i) (gF H.m p f i))) (fun _ _ h=>h) ?_;have hG:=hw 33 8 rfl;have h8:=hd 8 rfl;refine ak _ (ag rfl) (run_move (.inl rfl) hG) ?_;exact h8
 ·intro ρ y W hw hn hb hd;refine eP bA hb ((CW w2.heap.size (eG H.m p f i))) (fun _ _ h=>h) ?_;have l:=hw 24 9 rfl;have h9:=hd 9 rfl;obtain⟨u,hu,ho⟩:=h9;refine ak (.agg #[u,.int .i64 (eG H.m p f i).hand]) (ag rfl) (by simp[execOp,go_sem,bu,l,hu]) ?_;exact⟨u,rfl,ho⟩
 ·intro ρ y W hw hn hb hd;refine eP bA hb (gI (.int .i64 (gJ H.m p f i:Nat))) (fun _ _ h=>h) ?_;have l:=hw 24 9 rfl;have h9:=hd 9 rfl;obtain⟨u,hu,ho⟩:=h9;refine ak (.int .i64 (gJ H.m p f i:Nat)) (ag rfl) (by simp[execOp,go_sem,bu,l,hu]) rfl
 ·intro ρ y W hw hn hb hd;refine eP bA hb (gI (.int .i64 (gF H.m p f i))) (fun _ _ h=>h) ?_;have l:=hw 24 9 rfl;have h9:=hd 9 rfl;obtain⟨u,hu,ho⟩:=h9;refine ak (.int .i64 (gF H.m p f i)) (ag rfl) (by simp[execOp,go_sem,bu,l,hu]) rfl
 ·intro ρ y W hw hn hb hd;refine eP bA hb ((eO w2.heap.size 31 2)) (fun _ _ h=>h) ?_;refine gz (.pointer (some ⟨W.heap.size,0,none⟩)) (ag rfl) (by simp[execOp,go_sem,bu]) ((Below.refl _ _).alloc (az _) (.cells #[.slice none 0 0,.int .i64 0] 31)) ?_;exact⟨_,_,rfl,hb.size,aJ.new _ _ _,rfl⟩
 ·intro ρ y W hw hn hb hd;have E9:=hw 9 13 rfl;have hD:=hd 13 rfl;have hF:=hw 34 10 rfl;have hE:=hd 10 rfl;obtain⟨u,e7,hh⟩:=hE;obtain⟨g3,cur3,e9,hi,j,hg⟩:=hD;refine iZ (ag rfl) _ _ _ rfl g3 0 (.agg #[u,.int .i64 (eG H.m p f i).hand]) [u,.int .i64 (eG H.m p f i).hand] (E9.trans e9) (hF.trans e7) rfl cur3 _ j (by rw[hg];exact az _) mem_size (by obtain⟨a1,c1,rfl,_⟩:=hh.rd;exact gG (fI _ _ _ _)) ?_;intro w1 o g;rw[show ∀(x y:Value),[x,y]=(#[x,y]:Array Value).toList from fun _ _=>rfl,dU cur3 _ (by rw[hg];rfl)] at o;refine⟨hb.grown g hb.size (fun k hk=>by cases hk;exact hi),⟨g3,_,e9,hi,o,⟨_,rfl,ay hh j (by decide) g⟩⟩,?_⟩;intro k hk hy
  match k,hk,hy with
  | 0,_,_=>exact fun h=>h
  | 1,_,_=>exact fun h=>h
  | 2,_,_=>exact fun h=>h
  | 3,_,_=>exact fun h=>h
  | 4,_,_=>exact fun h=>h
  | 5,_,_=>exact fun h=>h
  | 6,_,_=>exact fun h=>h
  | 7,_,_=>exact fun h=>h
  | 8,_,_=>exact fun⟨c,q1,q2⟩=>⟨c,q1,ay q2 j (by decide) g⟩
  | 9,_,_=>exact fun⟨c,q1,q2⟩=>⟨c,q1,ay q2 j (by decide) g⟩
  | 10,_,_=>exact fun⟨c,q1,q2⟩=>⟨c,q1,ay q2 j (by decide) g⟩
  | 11,_,_=>exact fun h=>h
  | 12,_,_=>exact fun h=>h
  | 13,_,_=>exact fun q=>iy q o (fun _=>rfl) ⟨_,j⟩ g
  | 14,_,h=>exact absurd rfl h
  | 15,_,_=>exact fun h=>h
  | 16,_,_=>exact fun h=>h
  | n+17,h,_=>exact absurd h (by omega)
 intro y W3 d a;replace d:Below w2.heap.size w2 W3:=d;have hv:((PW w2.heap.size (eG H.m p f i) (gJ H.m p f i) (gF H.m p f i))).r (y 8) W3:=a 8 (by decide);have ht:((PW w2.heap.size (eG H.m p f i) (gJ H.m p f i) (gF H.m p f i))).r (y 9) W3:=a 9 (by decide);have hc:((CW w2.heap.size (eG H.m p f i))).r (y 10) W3:=a 10 (by decide);have ha:((eO w2.heap.size 31 2)).r (y 13) W3:=a 13 (by decide);have z:=a 14 (by decide);clear a;simp only[dE,bu,bF,bI];obtain⟨gd,cd,hM,hO,hm,u,hl,s⟩:=z;simp only[wW] at hl;subst hl;obtain⟨a1,c1,rfl,_⟩:=s.rd;have k4:=k2.below d;have s4:=s2.below d;have hf:=ae s2.size;clear hv ht hc ha k2 s2 px2 d
 by_cases h0:gF H.m p f i=0
 ·have hq:Hid (jW ⟨H.ma,e⟩ p f i=(Kp.mk { H.ma with m:=eG H.m p f i } e,((gJ H.m p f i:Nat):Int))):=ae (by unfold jW;exact if_neg (fun h'=>h' h0));have hx:=hm.cell;rw[h0];generalize eG H.m p f i=M at *
  generalize gJ H.m p f i=K at *
  go_wp2_with (first | (refine aC _ _ rfl _ 0 rfl rfl [.slice a1 M.fs.length c1,.int .i64 M.hand] (cz hm 0 2) _ underlying31 rfl mem_size ?_) | (refine gy rfl _ _ _ rfl b 0 _ rfl rfl _ _ k4.blk (by show 0+2≤12;decide) mem_size (fI _ _ _ _) ?_))
  intro w5 hA hj;have k5:=k4.setM (s.mono (aV hL.out hf.out)) hA hj;go_wp2;go_ret;rw[hR.out,hq.out];exact⟨rfl,_,_,k5,s4.putF hj (s.mono hf.out) (az _) rfl rfl,rfl⟩
 have hq:Hid (jW ⟨H.ma,e⟩ p f i=(⟨H.ma,e⟩,-1)):=ae (by unfold jW;exact if_pos h0);go_wp2;go_ret;rw[hR.out,hq.out];exact⟨rfl,_,_,k4,s4,rfl⟩
theorem Aq (l:List Cc) (x:Cc) (k:Nat) (hk:k≤l.length) (v:Value) (B g:Nat) (w:World) (hown:Own w B 124 3 v l.length (l.flatMap jG)) (hB:B≤w.heap.size) (hl:l.length≤1000) (hg:aJ w g (zU x) 124) (hne:k<l.length→∀b,v.ownBlock=some b→g≠b) :
  Calls Tryz.prog 173 #[v,.int .i64 k,.slice (some ⟨g,0,none⟩) 1 1] w fun e w' => ∃v',e = .returned v'∧Own w' B 124 3 v' (l.length+1) ((l.take k++x::l.drop k).flatMap jG)∧w.grownBy w' v.ownBlock∧EY w v v':=by
 obtain⟨a0,c0,hs,hJ,z,hD,_⟩:=hown.rd;unfold maxLen at z
 by_cases hkl:k=l.length
 ·subst hkl;have ha:(l.take l.length++x::l.drop l.length).flatMap jG=l.flatMap jG++jG x:=by simp[gK]
  have hi:=ae ha;clear ha;subst hs;go_enter func173,ntmps173
  go_wp2_with (at_builtin;refine qZ rfl _ _ 41 rfl B 124 _ 3 24 underlying41 cached_info rfl (by decide) _ l.length (l.flatMap jG) rfl hown (some ⟨g,0,none⟩) 1 1 (jG x) rfl (fun h=>(by cases h)) (az _) rfl hg.rd (fun u hu=>yJ [x] u (by simpa using hu)) (by unfold maxLen;omega) (by omega) hB ?_)
  all_goals
   intro v' w' hh h6 hY;go_wp2;go_ret;exact⟨_,rfl,by rw[hi.out];exact hh,by cases a0<;>exact h6,by cases a0<;>exact hY⟩
 have h3:k<l.length:=by omega
 rcases hown with ⟨hlen,⟨_,hz⟩|⟨b,off,c,cur,rfl,hBb,hb,hnc,hmx,hsz,hcell⟩⟩
 ·omega
 have hM:g≠b:=hne h3 b rfl;clear hs hJ z hD;have ko:=hb.lt;have kl:=hg.lt;have kf:¬((k:Int)=(l.length:Int)):=by omega
 have kk:(k:Int)≤(l.length:Int):=by omega
 have hI:=hmx;unfold maxLen at hI;have kh:IntKind.i64.wrap ((k:Int)+1)=(k:Int)+1:=bP _ (by omega);have kg:IntKind.i64.wrap ((l.length:Int)+1)=(l.length:Int)+1:=bP _ (by omega);have ki:((k:Int)+1).toNat=k+1:=by omega
 have hN:((l.drop k).flatMap jG).length=(l.length-k)*3:=by rw[jJ,uJ]
 have kn:¬(c=k):=by omega
 have hO:=Aj hk hcell;have hw:=vO (k:=k) hcell
 by_cases hroom:l.length+1≤c
 ·have hZ:¬((c:Int)<(l.length:Int)+1):=by omega
  have hT:¬(c=k+1):=by omega
  have h4:(0:Int)≤(k:Int)+1:=by omega
  have h8:(k:Int)≤(l.length:Int)+1:=by omega
  have hC:∀lb cb W,W=w→(callFunc 196 #[.slice (some ⟨g,0,none⟩) 1 1,.slice (some ⟨b,off+(k+1)*3,none⟩) lb cb]).run Tryz.prog W = .ok (.value (.bool false)) W:=by
   intro lb cb W hW;subst hW;have hy:∀w,(Go.sizeOf 124).run Tryz.prog w = .ok 3 w:=by
    intro w;cases hq:Tryz.prog.info? 124 with
    | none=>have:=cached_size;simp[hq] at this
    | some i=>
     have hz:i.size=3:=by have:=cached_size;simpa[hq] using this
     simp[Go.sizeOf,typeInfo,run_program,hq,hz]
   rw[run_callFunc_extern func196 (by kernel_rfl) (by kernel_rfl) (by kernel_rfl) (e:=Extern.SlicesOverlaps.overlaps #[41,41] #[4]) (by kernel_rfl),
    Lib.run_overlaps_apart W 41 4 124 underlying41 3 hy ⟨g,0,none⟩ ⟨b,off+(k+1)*3,none⟩ 1 1 lb cb hM 124 124 3 cur.size (by unfold aJ at hg;simp[World.shape?,hg,zU]) (by unfold aJ at hb;simp[World.shape?,hb]) (by omega) (hg.free _) (hg.free _)]
   rfl
  have hS:∀W ty dc sc,aJ W b cur 124→(Builtin.copy_ #[41,41] ty #[.slice (some ⟨b,off+(k+1)*3,none⟩) (l.length-k) dc,.slice (some ⟨b,off+k*3,none⟩) (l.length+1-k) sc]).run Tryz.prog W = .ok (goInt (l.length-k:Nat)) (W.setCells b (off+(k+1)*3) ((l.drop k).flatMap jG)):=fun W ty dc sc hW=>
   jR W _ _ ty 124 3 b (off+(k+1)*3) (l.length-k) dc ⟨b,off+k*3,none⟩ (l.length+1-k) sc (l.length-k) _ cur _ underlying41 cached_size (by simp only[ru];split<;>omega) hN hW (fun j v hj=>by rw[mr,hW.cell];exact hO j v hj) (by omega) (fun v hv=>yJ _ v hv)
  have hR:∀W ty dc,aJ W b (dF cur (off+(k+1)*3) ((l.drop k).flatMap jG)) 124→aJ W g (zU x) 124→(Builtin.copy_ #[41,41] ty #[.slice (some ⟨b,off+k*3,none⟩) (l.length+1-k) dc,.slice (some ⟨g,0,none⟩) 1 1]).run Tryz.prog W = .ok (goInt (1:Nat)) (W.setCells b (off+k*3) (jG x)):=fun W ty dc hW hp=>
   jR W _ _ ty 124 3 b (off+k*3) (l.length+1-k) dc ⟨g,0,none⟩ 1 1 1 _ _ _ underlying41 cached_size (by simp only[ru];split<;>omega) rfl hW (fun j v hj=>by rw[mr,hp.cell,dA];simpa[jG] using hj) (by rw[size_putAt,jH];omega) (fun v hv=>Ht x v hv)
  have hA:=fun lb cb=>hC lb cb w rfl;clear hC;go_enter func173,ntmps173
  go_wp2_with (simp only[hA])
  go_region_law (refine yI rfl _ _ 41 41 rfl (.slice (some ⟨b,off+(k+1)*3,none⟩) (l.length-k) (c-(k+1))) (.slice (some ⟨b,off+k*3,none⟩) (l.length+1-k) (c-k)) (by simp[Act.eval,Act.put]) (by simp[Act.eval,Act.put]) (hS _ _ _ _ hb.drew) ?_)
  have p:=(hb.drew).setCells ((l.drop k).flatMap jG) (off+(k+1)*3);have hm:aJ (w.drew.setCells b (off+(k+1)*3) ((l.drop k).flatMap jG)) g (zU x) 124:=hg.drew.grown (aA _ _ _ _) (fun e=>hM (aS e).symm);have d:w.grownBy (w.drew.setCells b (off+(k+1)*3) ((l.drop k).flatMap jG)) (some b):=jw (a:=w) (b:=w.drew) (row:=some b) ⟨rfl,rfl,rfl,az _,fun _ _ _=>rfl⟩ (aA w.drew _ _ _);generalize w.drew.setCells b (off+(k+1)*3) ((l.drop k).flatMap jG)=W1 at *
  go_wp2_with (at_builtin;refine Sj _ rfl _ _ 41 41 rfl _ _ rfl rfl (hR _ _ _ p hm) ?_)
  have hn:=p.setCells (jG x) (off+k*3);have o:w.grownBy (W1.setCells b (off+k*3) (jG x)) (some b):=jw d (aA _ _ _ _);go_wp2;go_ret;refine⟨_,rfl,⟨by rw[zQ];simp only[iK,jJ,jH,fq,uJ];omega,.inr ⟨b,off,c,_,rfl,hBb,hn,hroom,hmx,by rw[size_putAt,size_putAt];exact hsz,Dl hk ?_ ?_ ?_⟩⟩,o,.inl rfl⟩
  ·intro j u hj;have s:j<k*3:=by have:=(dx.1 hj).1;rw[jJ,fq] at this;omega
   rw[putAt_out _ _ _ _ (by omega),putAt_out _ _ _ _ (by omega)];exact hw j u hj
  ·intro j u hj;exact putAt_in _ _ _ j u (by rw[size_putAt,jH];omega) hj
  intro j u hj;rw[putAt_out _ _ _ _ (by rw[jH];omega)];exact putAt_in _ _ _ j u (by omega) hj
 have hc:c=l.length:=by omega
 subst hc;obtain⟨i0,h5,hV,hU,hr⟩:=info_parts cached_info;have hZ:(l.length:Int)<(l.length:Int)+1:=by omega
 have kd:¬((l.length:Int)+1≤(l.length:Int)):=by omega
 have hT:k+1≤l.length:=by omega
 have kj:IntKind.i64.wrap ((l.length:Int)+1-(k:Int))=((l.length+1-k:Nat):Int):=by rw[bP _ (by omega)];omega
 have kc : (l.length:Int)+1-(k:Int)=((l.length+1-k:Nat):Int):=by omega
 have hK:k+(l.length+1-k)=l.length+1:=by omega
 have ht:((l.take k).flatMap jG).length=k*3:=by rw[jJ,fq,qN hk]
 have y:(Builtin.firstCells i0.size k (.slice (some ⟨b,off,none⟩) k l.length)).run Tryz.prog w.drew = .ok ((l.take k).flatMap jG).toArray w.drew:=by rw[hU];exact run_firstCells_some w.drew 3 k ⟨b,off,none⟩ k l.length _ ht (fun j v hj=>by rw[mr,hb.drew.cell];exact hw j v hj)
 have r:∀ty,(Builtin.append_ #[41,3] ty #[.slice (some ⟨b,off,none⟩) k l.length,.int .i64 ((l.length+1-k:Nat):Int)]).run Tryz.prog w =
   .ok (.slice (some ⟨w.heap.size,0,none⟩) (l.length+1) (grownCap w (l.length+1) l.length 124)) (w.drew.alloc (.cells (((l.take k).flatMap jG).toArray++Builtin.zeroCells (zU zCc) (l.length+1-k)++Builtin.zeroCells (zU zCc) (grownCap w (l.length+1) l.length 124-(l.length+1))) 124)):=fun ty=>by
  have h:=Lib.run_append_grow_zeros w 41 3 ty 124 i0 _ .i64 .i64 underlying41 underlying3 h5 hV (some ⟨b,off,none⟩) k l.length ((l.take k).flatMap jG) y (l.length+1-k) (by omega) (by omega) (by omega) (by omega) (by rw[hr];omega) (by rw[hr,hK];exact growslice_fits (by omega) (by omega));rw[hK] at h;exact h
 obtain⟨G,hG⟩:∃G,G=grownCap w (l.length+1) l.length 124:=⟨_,rfl⟩;have kb:l.length+1≤G:=by rw[hG];exact grownCap_ge w _ _ _
 have hd:G≤maxLen:=by rw[hG];exact grownCap_le_maxLen w _ _ _ (by unfold maxLen;omega)
 obtain⟨ROW,m⟩:∃ROW:Array Value,ROW=((l.take k).flatMap jG).toArray++Builtin.zeroCells (zU zCc) (l.length+1-k)++Builtin.zeroCells (zU zCc) (G-(l.length+1)):=⟨_,rfl⟩;rw[←hG,←m] at r;have kp:ROW.size=G*3:=by rw[m];simp[Builtin.zeroCells,zU,ht];omega
 have ka:∀(j:Nat) (u:Value),((l.take k).flatMap jG)[j]?=some u→ROW[j]?=some u:=by intro j u hj;have s:=(dx.1 hj).1;rw[m,Array.append_assoc,Array.getElem?_append_left (by simpa using s)];simpa using hj
 clear y m hG;obtain⟨W1,n⟩:∃W1,W1=w.drew.alloc (.cells ROW 124):=⟨_,rfl⟩;rw[←n] at r;have hF:aJ W1 w.heap.size ROW 124:=by rw[n];exact aJ.new w.drew ROW _
 have d:w.grownBy W1 (some b):=by rw[n];exact jw (a:=w) (b:=w.drew) (row:=some b) ⟨rfl,rfl,rfl,az _,fun _ _ _=>rfl⟩ (World.grownBy_alloc _ _ _)
 have p:aJ W1 b cur 124:=by rw[n];exact hb.drew.alloc _
 have hm:aJ W1 g (zU x) 124:=by rw[n];exact hg.drew.alloc _
 clear n;have h7:w.heap.size≠b:=by omega
 have km:w.heap.size≠g:=by omega
 have hQ:∀W ty dc,aJ W w.heap.size ROW 124→aJ W g (zU x) 124→(Builtin.copy_ #[41,41] ty #[.slice (some ⟨w.heap.size,k*3,none⟩) (l.length+1-k) dc,.slice (some ⟨g,0,none⟩) 1 1]).run Tryz.prog W = .ok (goInt (1:Nat)) (W.setCells w.heap.size (k*3) (jG x)):=fun W ty dc hW hp=>
  jR W _ _ ty 124 3 w.heap.size (k*3) (l.length+1-k) dc ⟨g,0,none⟩ 1 1 1 _ _ _ underlying41 cached_size (by simp only[ru];split<;>omega) rfl hW (fun j v hj=>by rw[mr,hp.cell,dA];simpa[jG] using hj) (by rw[jH];omega) (fun v hv=>Ht x v hv)
 have hP:∀W ty dc sc,aJ W w.heap.size (dF ROW (k*3) (jG x)) 124→aJ W b cur 124→(Builtin.copy_ #[41,41] ty #[.slice (some ⟨w.heap.size,(k+1)*3,none⟩) (l.length-k) dc,.slice (some ⟨b,off+k*3,none⟩) (l.length-k) sc]).run Tryz.prog W = .ok (goInt (l.length-k:Nat)) (W.setCells w.heap.size ((k+1)*3) ((l.drop k).flatMap jG)):=fun W ty dc sc hW h9=>
  jR W _ _ ty 124 3 w.heap.size ((k+1)*3) (l.length-k) dc ⟨b,off+k*3,none⟩ (l.length-k) sc (l.length-k) _ _ _ underlying41 cached_size (by simp only[ru];split<;>omega) hN hW (fun j v hj=>by rw[mr,h9.cell];exact hO j v hj) (by rw[size_putAt];omega) (fun v hv=>yJ _ v hv)
 have kq:¬(G=k):=by omega
 have ke:¬(G=k+1):=by omega
 have h4:(0:Int)≤(k:Int)+1:=by omega
 have h8:(k:Int)≤(l.length:Int)+1:=by omega
 have hH:=hd;unfold maxLen at hH;go_enter func173,ntmps173
 go_wp2_with (at_builtin;refine Lib.wpList_append_run _ rfl _ _ _ _ rfl _ _ rfl rfl _ _ (r _) ?_)
 have hE:=hF.setCells (jG x) (k*3);have hn:aJ (W1.setCells w.heap.size (k*3) (jG x)) b cur 124:=p.grown (aA _ _ _ _) (fun e=>h7 (aS e));have o:∀q,q<w.heap.size→q≠b→(W1.setCells w.heap.size (k*3) (jG x)).heap[q]?=w.heap[q]?:=fun q hq hf=>
  ((aA W1 w.heap.size (k*3) (jG x)).block q (nM hq d.size) (fun e=>by have:=aS e;omega)).trans (d.block q hq (fun e=>hf (aS e)))
 have h1:=(aA W1 w.heap.size (k*3) (jG x)).os.trans d.os;have hX:=(aA W1 w.heap.size (k*3) (jG x)).tape.trans d.tape;have h0:=(aA W1 w.heap.size (k*3) (jG x)).output.trans d.output;have t:=aV d.size (aA W1 w.heap.size (k*3) (jG x)).size;generalize W1.setCells w.heap.size (k*3) (jG x)=W2 at *
 clear hF hm p r hQ
 go_region_law (refine yI rfl _ _ 41 41 rfl (.slice (some ⟨w.heap.size,(k+1)*3,none⟩) (l.length-k) (G-(k+1))) (.slice (some ⟨b,off+k*3,none⟩) (l.length-k) (l.length-k)) (by simp[Act.eval,Act.put]) (by simp[Act.eval,Act.put]) (hP _ _ _ _ hE.drew hn.drew) ?_)
 have h2:=hE.drew.setCells ((l.drop k).flatMap jG) ((k+1)*3);have f:=aA W2.drew w.heap.size ((k+1)*3) ((l.drop k).flatMap jG);have hL:w.grownBy (W2.drew.setCells w.heap.size ((k+1)*3) ((l.drop k).flatMap jG)) (some b):=
  ⟨f.os.trans h1,f.tape.trans hX,f.output.trans h0,aV t f.size,fun q hq hf=>(f.block q (nM hq t) (fun e=>by have:=aS e;omega)).trans (o q hq (fun e=>hf (by rw[e])))⟩
 go_wp2;go_ret;refine⟨_,rfl,⟨by rw[zQ];simp only[iK,jJ,jH,fq,uJ];omega,.inr ⟨w.heap.size,0,G,_,rfl,hB,h2,kb,hd,by rw[size_putAt,size_putAt];omega,Dl hk ?_ ?_ ?_⟩⟩,hL,.inr (fun x hx=>by cases hx;exact az _)⟩
 ·intro j u hj;have s:j<k*3:=by have:=(dx.1 hj).1;rw[jJ,fq] at this;omega
  rw[dA,putAt_out _ _ _ _ (by omega),putAt_out _ _ _ _ (by omega)];exact ka j u hj
 ·intro j u hj;have s:j<3:=by have:=(dx.1 hj).1;rwa [jH] at this
  rw[dA,putAt_out _ _ _ _ (by omega)];exact putAt_in _ _ _ j u (by rw[jH];omega) hj
 intro j u hj;rw[dA];exact putAt_in _ _ _ j u (by rw[size_putAt];omega) hj
theorem xG (cur:Array Value) (s o n:Nat) (ys xs vs:List Value) (hat:∀j u,ys[j]?=some u→cur[s+j]?=some u) (hx:xs=ys.take o++vs++ys.drop (o+n)) (hn:vs.length=n) (ho:o+n≤ys.length) (hs:s+ys.length≤cur.size):dF cur s xs=dF cur (s+o) vs:=by
 have hl:xs.length=ys.length:=by rw[hx];simp;omega
 apply oO;intro i
 by_cases hi:i<s∨s+ys.length≤i
 ·rw[putAt_out _ _ _ _ (by rw[hl];exact hi),putAt_out _ _ _ _ (by omega)]
 have h1:i-s<xs.length:=by omega
 have e2:=putAt_in xs cur s (i-s) (xs[i-s]'h1) (by omega) (aN h1);rw[show s+(i-s)=i by omega] at e2;rw[e2,←aN h1,hx]
 by_cases hi2:i<s+o∨s+o+n≤i
 ·rw[putAt_out _ _ _ _ (by omega)];have h2:i-s<ys.length:=by omega
  have e4:=hat (i-s) (ys[i-s]'h2) (aN h2);rw[show s+(i-s)=i by omega] at e4;rw[e4,←aN h2];rcases hi2 with hi2|hi2
  ·rw[mQ,il (by rw[fq];omega),jN,if_pos (by omega)]
  rw[iN (by rw[iK,fq];omega),nK];congr 1;rw[iK,fq];omega
 have h3:i-(s+o)<vs.length:=by omega
 have e5:=putAt_in vs cur (s+o) (i-(s+o)) (vs[i-(s+o)]'h3) (by omega) (aN h3);rw[show s+o+(i-(s+o))=i by omega] at e5;rw[e5,mQ,iN (by rw[fq];omega),fq];have h4:i-s-min o ys.length=i-(s+o):=by omega
 rw[h4,il h3];exact aN h3
theorem jf.frPut {e:Int} (h:jf w B b H e) (hf:f<H.m.fs.length) :
  ∃g off cur,H.af=some ⟨g,off,none⟩∧aJ w g cur 132∧off+f*13+13≤cur.size∧eB w (some ⟨g,off+f*13,none⟩) (oH (aD H.ma f)) ∧
   ∀(o n:Nat) (vs:List Value) (x:Fr) (w' : World),vs.length=n→o+n≤13→oH x=(oH (aD H.ma f)).take o++vs++(oH (aD H.ma f)).drop (o+n)→aJ w' g (dF cur (off+f*13+o) vs) 132→w.grownBy w' (some g) →
    jf w' B b { H with m:=⟨H.m.fs.set f x,H.m.hand⟩ } e∧∀w0 H0,KS w0 b H0 w H→KS w0 b H0 w' { H with m:=⟨H.m.fs.set f x,H.m.hand⟩ }:=by
 obtain⟨g,off,cur,i,p,d,c,j,k,l,a⟩:=h.frame hf;refine⟨g,off,cur,i,d,c,j,fun o n vs x w' hn ho hx hb hg=>⟨a w' x ?_ hg,fun w0 H0 s=>s.put hg (.inr (.inl (by rw[i];rfl))) fun y hy => .inl (zl rfl rfl rfl hy)⟩⟩;have hl:=iO (aD H.ma f);generalize oH (aD H.ma f)=ys at *
 generalize oH x=xs at *
 rw[xG cur (off+f*13) o n ys xs vs k hx hn (by omega) (by omega)];exact hb
theorem vz {α:Type} (x:α):∀(l:List α) (k:Nat),k≤l.length→l.insertIdx k x=l.take k++x::l.drop k
 | l,0,_=>by simp
 | [],k+1,h=>by simp at h
 | a::l,k+1,h=>by rw[GN,vz x l k (by simpa using h)];simp
theorem cac_size:(Tryz.prog.info? 41).map (·.size)=some 1:=by kernel_rfl
theorem JO (H:MH) (e:Int) (F I:Nat) (P:PF) (v:Int) (B b:Nat) (w:World) (h:jf w B b H e) (hP:H.fi[F]?=some P) (hv:P.l[I]?=some v) (hn:0≤P.n∧P.n≤1000) (hI:I≤1000) (hck:∀c∈H.ca,0≤c.k∧c.k<H.m.fs.length) (hwo:0≤v→aI H.dk v=0)
 (hz:H.sp.length≤1000) (hz2:H.ca.length≤1000) (hz3:H.m.fs.length≤1000) :
  Calls Tryz.prog 124 #[.pointer (some ⟨b,0,none⟩),.int .i64 F,.int .i64 I] w fun r w'=>r = .returned (.int .i64 (eQ ⟨H.ma,e⟩ F I).2)∧KR w B b H w' (eQ ⟨H.ma,e⟩ F I).1:=by
 go_enter func124,ntmps124
 go_wp2_with fail
 refine (Be H e F I B b _ h).mono ?_;rintro r w1 ⟨rfl,hJ⟩;have k1:=h.below hJ;have s1:=(KS.refl w b H).below hJ;clear h hJ;cases hi:FX H.ca F I with
 | true=>
  have s:Hid (eQ ⟨H.ma,e⟩ F I=(⟨setFr H.ma (vQ H.ma (sJ H.ca F I)).k.toNat (jT (aD H.ma (vQ H.ma (sJ H.ca F I)).k.toNat)),e⟩,(vQ H.ma (sJ H.ca F I)).k)):=ae (by unfold eQ;exact if_pos hi);obtain⟨c,hc,_,_⟩:=Dm hi;have kg:=(dx.1 hc).1;have h8:vQ H.ma (sJ H.ca F I)=c:=by unfold vQ;show H.ca.getD _ _=c;rw[bM,hc];rfl
  have h7:=hck c (dm hc);rw[h8] at s;clear h8 hi;generalize sJ H.ca F I=k at *
  obtain⟨K,hK⟩:∃K:Nat,c.k=K:=⟨c.k.toNat,by omega⟩;rw[hK,bD] at s;have kl:K<H.m.fs.length:=by omega
  obtain⟨bc,oc,c',kj,h9,_,_,hX⟩:=QA k1.ma.rd.ca.rd k kg;rw[hc] at h9;cases h9;rw[hK] at hX;have kr:(K:Int)<(H.m.fs.length:Int):=by omega
  obtain⟨g,off,cur,ki,ka,kp,kf,hZ⟩:=k1.frPut kl;have i:=k1.blk.cell;unfold nC at i;rw[kj,ki] at i;clear hc h7 hck hP hv kf
  go_wp2_with (refine bz rfl _ _ _ rfl g (off+K*13+9) _ [.bool true] rfl rfl rfl _ _ ka (by simp;omega) uR (fun u hu=>by cases bN.1 hu;rfl) ?_)
  intro w2 hp kh;obtain⟨k2,s2⟩:=hZ 9 1 [.bool true] (jT (aD H.ma K)) w2 rfl (by decide) rfl hp kh;have s2:=s2 _ _ s1;go_wp2;go_ret;rw[s.out];exact⟨rfl,_,_,k2,s2,rfl⟩
 | false=>
  have s:Hid (eQ ⟨H.ma,e⟩ F I=(let r:=eu ⟨H.ma,CY ⟨H.ma,e⟩ F I⟩ (dJ H.ma F I) F I
   if r.2<0 then (r.1,-1) else (⟨{ r.1.m with ca:=r.1.m.ca.insertIdx (sJ r.1.m.ca F I) ⟨F,I,r.2⟩ },r.1.e⟩,r.2))):=ae (by unfold eQ;exact if_neg (by show ¬FX H.ca F I=true;rw[hi];decide))
  clear hi hck;have ku:=ae k1.bs;have hY:bn H.ma.st F I=v:=by unfold bn;rw[jV (x:=P.fi) (by show (H.fi.map PF.fi)[F]?=_;rw[iY,hP];rfl),bD,bM];show (P.l[I]?).getD 0=v;rw[hv];rfl
  have h4:(aH H.ma.st F).n=P.n:=by rw[jV (x:=P.fi) (by show (H.fi.map PF.fi)[F]?=_;rw[iY,hP];rfl)];rfl
  have hl:Hid (CY ⟨H.ma,e⟩ F I=if 0≤v then iF e (aI H.dk v) else e):=ae (by unfold CY;rw[hY];rfl);have hy:Hid (dJ H.ma F I=if 0≤v then cO (dN H.dk v) (P.n-I*8) else zPg):=ae (by unfold dJ;rw[hY,h4];rfl);clear hY h4;generalize sJ H.ca F I=k0 at *
  go_upto_region 7 with (fail);refine jl (fun W=>Code.wp _ _ _ _ W) fun w2 hp pg2 ke => ?_;have k2:=k1.below hp;have s2:=s1.below hp;have hO:=(dx.1 hP).1;obtain⟨bf,of,P',hA,hf,hW,hV⟩:=yY k2.ma.rd.st.rd F hO;rw[hP] at hf;cases hf;have hg:=k2.ma.rd.st.good P (dm hP);have ks:=(dx.1 hv).1;obtain⟨bb,ob,kk,h5⟩:∃bb ob,P.a=some ⟨bb,ob,none⟩∧w2.cell? ⟨bb,ob+I,none⟩=some (.int .i64 v):=by obtain⟨bb,ob,h1,h2⟩:=hg.rd I (iI v) (by rw[iY,hv];rfl);exact⟨bb,ob,h1,h2⟩
  rw[kk] at hV;have i:=k2.blk.cell;unfold nC at i;rw[hA] at i;have kt:(F:Int)<(H.fi.length:Int):=by omega
  have kb:(I:Int)<(P.l.length:Int):=by omega
  by_cases h0:0≤v
  ·have hw:=hwo h0;rw[if_pos h0] at hl hy;rw[hw,mi] at hl;go_upto_region 9 with (fail);clear i hV h5 hg kb
   go_wp2_with (refine aC _ _ rfl b 5 rfl rfl _ k2.rdD _ underlying37 rfl disk_size ?_)
   refine (Fq H.dk v _ _ _ _ _ k2.ma.rd.dk).mono ?_;rintro r w3 ⟨rfl,hG⟩;rw[hw];have k3:=k2.below hG;have s3:=s2.below hG;have pg3:=pg2.ext hG;have hT:=ah hp hG
   go_wp2_with (refine aT rfl _ _ _ rfl (gQ (dN H.dk v)) rfl rfl rfl psize (qf _) ?_)
   intro w4 hF x4;have k4:=k3.below hF;have pg4:=pg3.ext hF;have s4:=s3.below hF;have hS:=ah hT hF
   go_wp2_with fail
   refine (qK _ e 0 _ _ _ k4).mono ?_;rintro r w5 ⟨rfl,k5,ht⟩;rw[mi] at k5;have q:Below w4.heap.size w4 w5:=⟨ht.os,ht.tape,ht.output,ht.size,fun x hx=>by
    by_cases e' : x=b
    ·subst e'; exact k5.blk.trans k4.blk.symm
    ·exact ht.block x hx (fun e''=>e' (aS e''))⟩
   clear k5 ht;have k5:=k4.below q;have s5:=s4.below q;have x5:=x4.ext q;have pg5:=pg4.ext q;have hH:=ah hS q;have kq:=pg5.lt;clear k2 s2 hp k3 s3 pg3 hG hT k4 s4 pg4 hF hS q x4 pg2 hA hW;obtain⟨bf,of,P',hA,hf,hW,_⟩:=yY k5.ma.rd.st.rd F hO;rw[hP] at hf;cases hf;have hQ:∀W,Below w5.heap.size w5 W→W.cell? ⟨bf,of+F*2,none⟩=some (.int .i64 P.n):=fun W hb=>by obtain⟨bf',of',P',hU,hf,h6,_⟩:=yY (k5.below hb).ma.rd.st.rd F hO;rw[hP] at hf;cases hf;rw[hA] at hU;cases hU;exact h6
   have kd:IntKind.i64.wrap ((I:Int)*8)=(I:Int)*8:=bP _ (by omega);have kc:IntKind.i64.wrap (P.n-(I:Int)*8)=P.n-(I:Int)*8:=bP _ (by omega);go_upto_region 11 with (fail);refine aP 15 [_,_,_,_,_,_,_,_,_,_,_,_,_,_,.v (.agg (gQ (cO (dN H.dk v) (P.n-(I:Int)*8))))] (Gr (.agg (gQ (dN H.dk v))) (fun ρ y W hb hN=>(bY rfl (aU rfl hN) (x5.ext hb) underlying100 rfl psize)) rfl rfl (Gk rfl (Gk rfl (Gf b 0 rfl rfl (Gf b 7 rfl rfl (Gf b 7 rfl rfl (Gc (.slice (some ⟨bf,of,none⟩) H.fi.length H.ci) (fun W hb=>by simp[(k5.below hb).blk.cell,nC,hA]) rfl rfl rfl rfl (Gk rfl (Gr (.pointer (some ⟨bf,of+F*2,none⟩)) (fun ρ y W hb hN=>(eX rfl (aU rfl hN) (aU rfl hN) hO underlying38 file_size)) rfl rfl (Gf bf (of+F*2) rfl rfl (Gc (.int .i64 P.n) (fun W hb=>by simp[hQ W hb]) rfl rfl rfl rfl (Gk rfl (Gb (.int .i64 ((I:Int)*8)) (by simp[go_sem,kd]) rfl rfl rfl rfl rfl (Gb (.int .i64 (P.n-(I:Int)*8)) (by simp[go_sem,kc]) rfl rfl rfl rfl rfl (aj ?_ (aF)))))))))))))))) (fun _=>rfl) rfl ?_
   ·intro ρ y W hw hn hb hd;have ko:=hw 72 0 rfl;have h0:y 0=_:=hd 0 rfl;have kn:=hw 85 13 rfl;have km:y 13=_:=hd 13 rfl;have EF:∀f,ρ (.func f) = .func (.func f) #[] #[]:=fun f=>hn (.func f) trivial;refine aK _ _ (ag rfl) (aQ rfl (EF _) func171 (by kernel_rfl) (by kernel_rfl) (by simp only[bT,bF,bI,ko,h0,kn,km,EF];rfl)) ?_;refine (Um _ _ _).mono ?_;rintro r w1 ⟨rfl,hJ⟩;exact⟨_,rfl,hJ,rfl⟩
   intro y W6 hs _
   go_wp2_with (refine gy rfl _ _ _ rfl w1.heap.size 0 (gQ (cO (dN H.dk v) (P.n-(I:Int)*8))) rfl rfl _ _ (pg5.ext hs) (by show 0+8≤8;decide) psize (qf _) ?_)
   intro w7 hM h3;have hM:aJ w7 w1.heap.size (gQ (cO (dN H.dk v) (P.n-(I:Int)*8))) 100:=by rw[←dU (gQ zPg) (gQ (cO (dN H.dk v) (P.n-(I:Int)*8))) rfl];exact hM
   have hR:Below w1.heap.size w1 w7:=(ah hH hs).grown h3 (aV hH.size hs.size) (fun k hk=>by cases hk;exact az _);have k7:=k1.below hR;have s7:=s1.below hR;clear k5 s5 x5 pg5 hH hs h3 hQ hW hA k1 s1;have hj:Hid (eQ ⟨H.ma,e⟩ F I=if (eu ⟨H.ma,e⟩ (cO (dN H.dk v) (P.n-(I:Int)*8)) F I).2<0 then ((eu ⟨H.ma,e⟩ (cO (dN H.dk v) (P.n-(I:Int)*8)) F I).1,-1) else (⟨{ (eu ⟨H.ma,e⟩ (cO (dN H.dk v) (P.n-(I:Int)*8)) F I).1.m with ca:=(eu ⟨H.ma,e⟩ (cO (dN H.dk v) (P.n-(I:Int)*8)) F I).1.m.ca.insertIdx (sJ (eu ⟨H.ma,e⟩ (cO (dN H.dk v) (P.n-(I:Int)*8)) F I).1.m.ca F I) ⟨F,I,(eu ⟨H.ma,e⟩ (cO (dN H.dk v) (P.n-(I:Int)*8)) F I).2⟩ },(eu ⟨H.ma,e⟩ (cO (dN H.dk v) (P.n-(I:Int)*8)) F I).1.e⟩,(eu ⟨H.ma,e⟩ (cO (dN H.dk v) (P.n-(I:Int)*8)) F I).2)):=ae (by rw[s.out,hl.out,hy.out]);clear s hl hy;generalize cO (dN H.dk v) (P.n-(I:Int)*8)=Q at *
   generalize w1.heap.size=gp at *
   go_upto_region 12 with (fail)
   go_wp2_with (refine aC _ _ rfl gp 0 rfl rfl (gQ Q).toList hM.rd _ underlying100 rfl psize ?_)
   refine (qi H e F I Q B b _ k7 hz hz2 hz3).mono ?_;rintro r w8 ⟨rfl,H8,e8,k8,s8,q8⟩;have s08:=s7.trans s8;have hD:=pK.took ⟨H.ma,e⟩ Q F I;obtain⟨m1,m2,m3⟩:=Xg q8;have hE:H8.ca.length≤1000:=by rw[m2];exact aV hD.ca hz2
   have q8':=ae q8;clear k7 s7 hM s8 q8 hD m1 m2 m3;generalize hK2:(eu ⟨H.ma,e⟩ Q F I).2=K2
   by_cases h2:K2<0
   ·have hq:Hid (eQ ⟨H.ma,e⟩ F I=(⟨H8.ma,e8⟩,-1)):=ae (by rw[hj.out,hK2,if_pos h2,q8'.out]);go_wp2;go_ret;rw[hq.out];exact⟨rfl,_,_,k8,s08,rfl⟩
   have hq:Hid (eQ ⟨H.ma,e⟩ F I=(⟨{ H8.ma with ca:=H8.ca.insertIdx (sJ H8.ca F I) ⟨F,I,K2⟩ },e8⟩,K2)):=ae (by rw[hj.out,hK2,if_neg h2,←q8'.out];rfl);clear hK2 hj q8'
   go_wp2_with fail
   refine (Be H8 e8 F I B b _ k8).mono ?_;rintro r w9 ⟨rfl,hm⟩;have k9:=k8.below hm;have s9:=s08.below hm;clear k8 s08 hm;have hr:=Ee H8.ca F I;generalize sJ H8.ca F I=k0 at *
   generalize FX H8.ca F I=ok0 at *
   have i:=k9.blk.cell;unfold nC at i
   go_wp2_with fail
   refine jl (fun W=>Calls _ _ _ W _) fun w10 p x10 hB => ?_;have k10:=k9.below p;have s10:=s9.below p;have hC:∀g,(Value.slice H8.ac H8.ca.length H8.cc).ownBlock=some g→w9.heap.size≠g:=fun g hg e=>by rw[vI] at hg;obtain⟨_,cs,hb⟩:=nR k9.ma.ca hg;have:=hb.lt;omega
   refine (Aq H8.ca ⟨F,I,K2⟩ k0 hr _ B _ _ k10.ma.ca k10.bs hE x10 (fun _=>hC)).mono ?_;rintro r w11 ⟨v11,rfl,d,o,j⟩;obtain⟨a11,c11,rfl,_⟩:=d.rd;rw[←vz _ _ _ hr] at d;have t:(H8.ca.insertIdx k0 ⟨F,I,K2⟩).length=H8.ca.length+1:=by rw[List.length_insertIdx,if_pos hr]
   rw[←t] at d;rw[vI] at o;obtain⟨hL,hh⟩:=k10.cache s10 o (a:=a11) (c:=c11) (l:=H8.ca.insertIdx k0 ⟨F,I,K2⟩) d (by
    rcases j with e' | e'
    ·rw[vI,vI] at e'; exact .inl e'
    refine .inr fun g hg => ?_;have:=e' g (by rw[vI];exact hg);exact aV s10.size this)
   rw[t] at hh;clear k9 s9 k10 s10 x10 p hB hC d o j i
   go_wp2_with (refine bz rfl _ _ _ rfl b 9 _ [.slice a11 (H8.ca.length+1) c11] rfl rfl rfl _ _ hL (by show 9+1≤12;decide) cac_size (fun u hu=>by cases bN.1 hu;rfl) ?_)
   intro w12 ha z;obtain⟨k12,s12⟩:=hh w12 ha z;clear hh hL ha z;go_wp2;go_ret;rw[hq.out];exact⟨rfl,_,_,k12,s12,rfl⟩
  have pg2' : aJ w2 w1.heap.size (gQ zPg) 100:=pg2;rw[if_neg h0] at hl hy;go_upto_region 12 with (fail);have hj:Hid (eQ ⟨H.ma,e⟩ F I=if (eu ⟨H.ma,e⟩ zPg F I).2<0 then ((eu ⟨H.ma,e⟩ zPg F I).1,-1) else (⟨{ (eu ⟨H.ma,e⟩ zPg F I).1.m with ca:=(eu ⟨H.ma,e⟩ zPg F I).1.m.ca.insertIdx (sJ (eu ⟨H.ma,e⟩ zPg F I).1.m.ca F I) ⟨F,I,(eu ⟨H.ma,e⟩ zPg F I).2⟩ },(eu ⟨H.ma,e⟩ zPg F I).1.e⟩,(eu ⟨H.ma,e⟩ zPg F I).2)):=ae (by rw[s.out,hl.out,hy.out]);clear s hl hy k1 s1 hp pg2 i hV h5 hg kb ke;generalize zPg=Q at *
  generalize w1.heap.size=gp at *
  go_upto_region 12 with (fail)
  go_wp2_with (refine aC _ _ rfl gp 0 rfl rfl (gQ Q).toList pg2'.rd _ underlying100 rfl psize ?_)
  refine (qi H e F I Q B b _ k2 hz hz2 hz3).mono ?_;rintro r w8 ⟨rfl,H8,e8,k8,s8,q8⟩;have s08:=s2.trans s8;have hD:=pK.took ⟨H.ma,e⟩ Q F I;obtain⟨m1,m2,m3⟩:=Xg q8;have hE:H8.ca.length≤1000:=by rw[m2];exact aV hD.ca hz2
  have q8':=ae q8;clear k2 s2 pg2' s8 q8 hD m1 m2 m3;generalize hK2:(eu ⟨H.ma,e⟩ Q F I).2=K2
  by_cases h2:K2<0
  ·have hq:Hid (eQ ⟨H.ma,e⟩ F I=(⟨H8.ma,e8⟩,-1)):=ae (by rw[hj.out,hK2,if_pos h2,q8'.out]);go_wp2;go_ret;rw[hq.out];exact⟨rfl,_,_,k8,s08,rfl⟩
  have hq:Hid (eQ ⟨H.ma,e⟩ F I=(⟨{ H8.ma with ca:=H8.ca.insertIdx (sJ H8.ca F I) ⟨F,I,K2⟩ },e8⟩,K2)):=ae (by rw[hj.out,hK2,if_neg h2,←q8'.out];rfl);clear hK2 hj q8'
  go_wp2_with fail
  refine (Be H8 e8 F I B b _ k8).mono ?_;rintro r w9 ⟨rfl,hm⟩;have k9:=k8.below hm;have s9:=s08.below hm;clear k8 s08 hm;have hr:=Ee H8.ca F I;generalize sJ H8.ca F I=k0 at *
  generalize FX H8.ca F I=ok0 at *
  have i:=k9.blk.cell;unfold nC at i
  go_wp2_with fail
  refine jl (fun W=>Calls _ _ _ W _) fun w10 p x10 hB => ?_;have k10:=k9.below p;have s10:=s9.below p;have hC:∀g,(Value.slice H8.ac H8.ca.length H8.cc).ownBlock=some g→w9.heap.size≠g:=fun g hg e=>by rw[vI] at hg;obtain⟨_,cs,hb⟩:=nR k9.ma.ca hg;have:=hb.lt;omega
  refine (Aq H8.ca ⟨F,I,K2⟩ k0 hr _ B _ _ k10.ma.ca k10.bs hE x10 (fun _=>hC)).mono ?_;rintro r w11 ⟨v11,rfl,d,o,j⟩;obtain⟨a11,c11,rfl,_⟩:=d.rd;rw[←vz _ _ _ hr] at d;have t:(H8.ca.insertIdx k0 ⟨F,I,K2⟩).length=H8.ca.length+1:=by rw[List.length_insertIdx,if_pos hr]
  rw[←t] at d;rw[vI] at o;obtain⟨hL,hh⟩:=k10.cache s10 o (a:=a11) (c:=c11) (l:=H8.ca.insertIdx k0 ⟨F,I,K2⟩) d (by
   rcases j with e' | e'
   ·rw[vI,vI] at e'; exact .inl e'
   refine .inr fun g hg => ?_;have:=e' g (by rw[vI];exact hg);exact aV s10.size this)
  rw[t] at hh;clear k9 s9 k10 s10 x10 p hB hC d o j i
  go_wp2_with (refine bz rfl _ _ _ rfl b 9 _ [.slice a11 (H8.ca.length+1) c11] rfl rfl rfl _ _ hL (by show 9+1≤12;decide) cac_size (fun u hu=>by cases bN.1 hu;rfl) ?_)
  intro w12 ha z;obtain⟨k12,s12⟩:=hh w12 ha z;clear hh hL ha z;go_wp2;go_ret;rw[hq.out];exact⟨rfl,_,_,k12,s12,rfl⟩
theorem firstE_zero:∀ {l:List Int},firstE l=0↔∀x∈l,x=0
 | []=>by simp[firstE]
 | x::l=>by
  unfold firstE
  by_cases hx:x=0
  ·rw[if_pos hx,firstE_zero];constructor
   ·intro h y hy;rcases fE.1 hy with e|hy
    ·rw[e,hx]
    ·exact h y hy
   ·exact fun h y hy=>h y (jM _ hy)
  rw[if_neg hx];exact⟨fun h=>absurd h hx,fun h=>absurd (h x kv) hx⟩
theorem lV {p:Prop} [Decidable p] {a b:Int} (ha:a≠0):(if p then a else b)=0↔¬p∧b=0:=by
 by_cases h:p
 ·rw[if_pos h];exact⟨fun h'=>absurd h' ha,fun h'=>absurd h h'.1⟩
 ·rw[if_neg h];exact⟨fun h'=>⟨h,h'⟩,fun h'=>h'.2⟩
theorem lM {a b:Int}:(if a≠0 then a else b)=0↔a=0∧b=0:=by
 by_cases h:a=0
 ·rw[if_neg (fun h'=>h' h)];exact⟨fun h'=>⟨h,h'⟩,fun h'=>h'.2⟩
 ·rw[if_pos h];exact⟨fun h'=>absurd h' h,fun h'=>absurd h'.1 h⟩
theorem Ai {s:Sp}:jv s=0↔(dH s.ar).1=0∧dO s.tb=0∧(s.lv=false→s.ar=[]∧∀n,(dB s.tb n).k=0):=by
 unfold jv;rw[lM,lM,lV (by decide)];refine and_congr_right fun _=>and_congr_right fun _ => ?_;constructor
 ·rintro⟨h,_⟩ hl;have h1:s.ar.length+(aM s.tb).length=0:=by
   rcases wY (s.ar.length+(aM s.tb).length) with h0|h0
   ·exact h0
   ·exact absurd ⟨hl,h0⟩ h
  refine⟨jX (by omega),fun n => ?_⟩
  by_cases hn:0≤n∧n<64
  ·have h2:aM s.tb=[]:=jX (by omega)
   by_cases hk:(dB s.tb n).k=0
   ·exact hk
   have:=oo.2 ⟨hn,hk⟩;rw[h2] at this;cases this
  ·rw[qx (by omega)];rfl
 refine fun h=>⟨?_,rfl⟩;rintro⟨hl,h0⟩;obtain⟨h1,h2⟩:=h hl;have h3:aM s.tb=[]:=by rw[List.eq_nil_iff_forall_not_mem];intro n hn;exact (oo.1 hn).2 (h2 n)
 rw[h1,h3] at h0;exact absurd h0 (by simp)
theorem EQ :trimB m=true↔(∀b:Int,0≤b→b<m.dk.blocks.length→b∈ig m.st∨m.dk.blocks.getD b.toNat zPg=zPg)∧∀q∈m.dk.queue,q.1∈ig m.st:=by
 unfold trimB;rw[dh,cK,cK];refine and_congr ⟨fun h b h0 hb => ?_,fun h b hb => ?_⟩ ⟨fun h q hq=>by simpa using h q hq,fun h q hq=>by simpa using h q hq⟩
 ·have:=h b.toNat (bV.2 (by omega));rw[BI h0] at this;simpa using this
 have:=h (b:Int) (by omega) (by have:=bV.1 hb;omega);simpa using this
theorem vE :gW m=0↔Pt m∧trimB m=true∧∀s∈m.sp,s.lv=false→s.ar=[]∧∀n,(dB s.tb n).k=0:=by
 unfold gW;rw[lM,lM,lM,lM,lM,lV (by decide),lV (by decide),firstE_zero];constructor
 ·rintro⟨h1,h2,h3,h4,h5,h6,h7,h8⟩;have h9:∀s∈m.sp,_:=fun s hs=>Ai.1 (h8 _ (Bn hs));refine⟨⟨h1,h2,h3,h4,h5,?_,?_,by omega,fun s hs=>(h9 s hs).1,fun s hs=>(h9 s hs).2.1⟩,?_,fun s hs=>(h9 s hs).2.2⟩
  ·exact rC fun h=>h6 (.inl h)
  ·exact rC fun h=>h6 (.inr (.inl h))
  cases h:trimB m with
  | true=>rfl
  | false=>exact absurd (.inr (.inr h)) h6
 rintro⟨h,ht,hl⟩;refine⟨h.fr,h.sl,h.sw,h.dk,h.st,?_,by have:=h.spl;omega,?_⟩
 ·rintro (h1|h1|h1)
  ·exact h1 h.swl
  ·exact h1 h.dkl
  ·rw[ht] at h1;cases h1
 intro x hx;obtain⟨s,hs,rfl⟩:=eD.1 hx;exact Ai.2 ⟨h.ar s hs,h.tb s hs,hl s hs⟩
theorem vW {p:Option Cc} {c:Cc}:sG m p c=0↔(mK m.st c.f c.i∧0≤c.k∧c.k<m.m.fs.length)∧(1≤(aD m c.k.toNat).r∧(aD m c.k.toNat).f=c.f∧(aD m c.k.toNat).i=c.i)∧∀q,p=some q→BQ q c:=by
 have a:gP m c.k=aD m c.k.toNat:=rfl;unfold sG;rw[lV (by decide),lV (by decide),a];refine and_congr ⟨fun h=>⟨⟨by omega,by omega⟩,by omega⟩,fun h=>by obtain⟨⟨_,_⟩,_⟩:=h;omega⟩ (and_congr ⟨fun h=>by omega,fun h=>by omega⟩ ?_);cases p with
 | none=>simp
 | some q=>
  simp only[gY,forall_eq'];rw[lV (by decide)];unfold BQ;omega
theorem Hd {l:List Cc} (h:∀k (hk:k+1<l.length),BQ (l[k]'(by omega)) l[k+1]):l.Pairwise BQ:=by
 induction l with
 | nil=>exact List.Pairwise.nil
 | cons a l ih=>
  have ih:=ih fun k hk=>h (k+1) (by simpa using hk);refine rD.2 ⟨?_,ih⟩;cases l with
  | nil=>simp
  | cons b l=>
   have h0:BQ a b:=h 0 (by simp);intro c hc;rcases fE.1 hc with e|hc
   ·rw[e];exact h0
   have h1:=(rD.1 ih).1 c hc;unfold BQ at *; omega
theorem zo :gU m=0↔sV m:=by
 unfold gU;rw[firstE_zero];constructor
 ·intro h;have h1:∀k (hk:k<m.ca.length),sG m (xD m.ca k) m.ca[k]=0:=fun k hk=>by have:=h _ (Bn (bV.2 hk));rw[bM,aN hk] at this;exact this
  have h2:∀c∈m.ca,(mK m.st c.f c.i∧0≤c.k∧c.k<m.m.fs.length)∧(1≤(aD m c.k.toNat).r∧(aD m c.k.toNat).f=c.f∧(aD m c.k.toNat).i=c.i):=fun c hc=>by obtain⟨k,hk,rfl⟩:=jC.1 hc;have:=vW.1 (h1 k hk);exact⟨this.1,this.2.1⟩
  refine⟨fun c hc=>(h2 c hc).1.1,fun c hc=>(h2 c hc).1.2,fun c hc=>(h2 c hc).2,Hd fun k hk => ?_⟩;refine (vW.1 (h1 (k+1) hk)).2.2 _ ?_;unfold xD;rw[if_neg (by omega),Nat.add_sub_cancel,aN]
 intro h x hx;obtain⟨k,hk,rfl⟩:=eD.1 hx;have hk:=bV.1 hk;rw[bM,aN hk,rQ];have hm:m.ca[k]∈m.ca:=eZ hk;refine vW.2 ⟨⟨h.file _ hm,h.lt _ hm⟩,h.fr _ hm,fun q hq => ?_⟩;unfold xD at hq;split at hq
 ·cases hq
 rw[aN (by omega)] at hq;rw[←aS hq];exact BP.1 h.srt _ _ (by omega) hk (by omega)
theorem CJ (hp:Pt m) (hk:(aL m p n).k≠0):bQ m (bX m p) n=0↔∃g,fD m p n=some g∧TK m g (aL m p n):=by
 have hE:=(dS _).1 (mo hp p n);unfold bQ;rw[lV (by decide)];have j:=BF (bX m p).ar n;constructor
 ·rintro⟨h1,h2⟩;obtain⟨h3,h4⟩:=Cf (l:=(bX m p).ar) (n:=n) (by omega);refine⟨_,h3,?_⟩;generalize (bX m p).ar.getD (fB (bX m p).ar n).toNat zAr=a at *
  have he:dB (bX m p).tb n=aL m p n:=rfl;rw[he] at h2;generalize aL m p n=e at *
  simp only at h2
  by_cases h5:e.k=2
  ·rw[if_pos h5,lV (by decide)] at h2;refine⟨fun _=>⟨by omega,?_⟩,fun h=>by omega,fun h=>by omega⟩;show a.sh=false;cases hs:a.sh with
   | false=>rfl
   | true=>exact absurd (.inr hs) h2.1
  rw[if_neg h5,lV (by decide),lV (by decide),lV (by decide)] at h2;have c:gP m e.n=aD m e.n.toNat:=rfl;rw[c] at h2;obtain⟨h6,h7,h8,_⟩:=h2;refine⟨fun h=>absurd h h5,fun _=>by omega,fun _ => ?_⟩;show KX (aD m e.n.toNat) (uZ a n) e.w;generalize aD m e.n.toNat=f at *
  have b:0≤f.f→(0≤a.fi∧f.f=a.fi∧f.i=a.ba+n-a.fr):=fun h0=>by refine rC fun hn=>h7 (.inl ⟨h0,?_⟩);rw[FY];simp only[ne_eq,dh,decide_eq_true_eq];exact fun h=>hn ⟨h.1.1,h.1.2,h.2⟩
  refine⟨fun h0 => ?_,fun hs => ?_,fun hw => ?_,fun hw h0 => ?_,fun hw h0 => ?_⟩
  ·obtain⟨k1,k2,k3⟩:=b h0;refine⟨k2,?_⟩;unfold uZ;simp only;rw[if_pos k1];exact k3
  ·refine rC fun hn=>h7 (.inr (.inl ⟨hs,?_⟩));rw[FY];simp only[ne_eq,dh,decide_eq_true_eq];exact fun h=>by omega
  ·show a.wr=true;cases hs:a.wr with
   | true=>rfl
   | false=>exact absurd (.inr (.inr (.inr ⟨hw,hs⟩))) h7
  ·show a.sh=true;cases hs:a.sh with
   | true=>rfl
   | false=>
    refine absurd (.inr (.inr (.inl ⟨hs,?_,hw⟩))) h7;have:=b h0;simp only[dh,decide_eq_true_eq];exact⟨⟨this.1,this.2.1⟩,this.2.2⟩
  ·exact rC fun hn=>h8 ⟨h0,hw,by omega⟩
 rintro⟨g,hg,hf⟩;have o:onA (bX m p).ar n≠none:=by have:fD m p n=onA (bX m p).ar n:=rfl;rw[←this,hg];exact fun h=>by cases h
 have h1:=j.2 o;refine⟨by omega,?_⟩;obtain⟨h3,h4⟩:=Cf (l:=(bX m p).ar) (n:=n) h1;have q : g=uZ ((bX m p).ar.getD (fB (bX m p).ar n).toNat zAr) n:=by have:fD m p n=onA (bX m p).ar n:=rfl;rw[this,h3] at hg;exact (aS hg).symm
 subst q;generalize (bX m p).ar.getD (fB (bX m p).ar n).toNat zAr=a at *
 have he:dB (bX m p).tb n=aL m p n:=rfl;rw[he];generalize aL m p n=e at *
 simp only
 by_cases h5:e.k=2
 ·obtain⟨k1,k2⟩:=hf.sw h5;have k2:a.sh=false:=k2;rw[if_pos h5,lV (by decide)];refine⟨?_,rfl⟩;rintro (h|h)
  ·omega
  ·rw[k2] at h;cases h
 have h1:e.k=1:=by omega
 have k1:=hf.lt h1;obtain⟨f1,f2,f3,f4,f5⟩:=hf.fr h1;have c:gP m e.n=aD m e.n.toNat:=rfl;rw[if_neg h5,lV (by decide),lV (by decide),lV (by decide),c];generalize aD m e.n.toNat=f at *
 have f2:a.sh=true→0≤f.f:=f2;have f3:e.w=true→a.wr=true:=f3;have f4:e.w=true→0≤f.f→a.sh=true:=f4;have b:0≤f.f→(decide (0≤a.fi)&&decide (f.f=a.fi)&&decide (f.i=a.ba+n-a.fr))=true:=fun h0=>by obtain⟨k2,k3⟩:=f1 h0;have k2:f.f=a.fi:=k2;unfold uZ at k3;simp only at k3;rw[if_pos (by omega)] at k3;simp only[dh,decide_eq_true_eq];exact⟨⟨by omega,k2⟩,k3⟩
 have d : (decide (0≤a.fi)&&decide (f.f=a.fi)&&decide (f.i=a.ba+n-a.fr))=true→0≤f.f:=fun h=>by simp only[dh,decide_eq_true_eq] at h;omega
 generalize (decide (0≤a.fi)&&decide (f.f=a.fi)&&decide (f.i=a.ba+n-a.fr))=of at *
 refine⟨by omega,?_,?_,rfl⟩
 ·rintro (⟨k2,k3⟩|⟨k2,k3⟩|⟨k2,k3,k4⟩|⟨k2,k3⟩)
  ·rw[b k2] at k3;cases k3
  ·rw[b (f2 k2)] at k3;cases k3
  ·rw[f4 k4 (d k3)] at k2;cases k2
  ·rw[f3 k2] at k3;cases k3
 rintro⟨k2,k3,k4⟩;have:=f5 k3 k2;omega
theorem xX (hp:Pt m):lN m=0↔∀p n,(aL m p n).k≠0→∃g,fD m p n=some g∧TK m g (aL m p n):=by
 unfold lN;rw[firstE_zero];constructor
 ·intro h p n hk;have a : p<m.sp.length:=rC fun hn=>hk (by unfold aL;rw[qd (by omega)];have:dB zSp.tb n=zEn:=yF n;rw[this];rfl);have hn:0≤n∧n<64:=rC fun hn=>hk (by rw[Nt p (by omega)];rfl);refine (CJ hp hk).1 (h _ (ji.2 ⟨bX m p,Cg a,Bn (oo.2 ⟨hn,hk⟩)⟩))
 intro h x hx;obtain⟨s,hs,hx⟩:=ji.1 hx;obtain⟨n,hn,rfl⟩:=eD.1 hx;obtain⟨p,a,rfl⟩:=Ns hs;have hk:=(oo.1 hn).2;exact (CJ hp hk).2 (h p n hk)
theorem Su (t:Tb) (i:Int):cnt (mY t (aM t)) i=(fU t).countP (uV 1 i):=by
 rw[←CX (show (1:Int)≠0 by decide)];unfold cnt mY nA oU;rw[ww,Ho,←Gg];congr 1;funext n;simp only[GJ,BK];rw[nP];simp only[dh,pJ,decide_eq_false_iff_not,qO,decide_eq_true_eq];exact and_comm
theorem Ql {t:Tb} (h:dO t=0) (i:Int):cnt (swapT t (aM t)) i=(fU t).countP (uV 2 i):=by
 rw[←CX (show (2:Int)≠0 by decide)];unfold cnt swapT nA oU;rw[ww,Ho,←Gg];refine List.countP_congr fun n hn => ?_;have hE:=(dS _).1 (vT h n);have hk:=(oo.1 hn).2;simp only[GJ,BK,dh,pJ,decide_eq_false_iff_not,qO,decide_eq_true_eq];constructor
 ·rintro⟨h1,h2⟩;exact⟨by omega,h1⟩
 ·rintro⟨h1,h2⟩;exact⟨h2,by omega⟩
theorem yT (l r:List Int) (i:Int):cnt (l++r) i=cnt l i+cnt r i:=by unfold cnt;rw[BA]
theorem CZ {α:Type} (g:α→List Int) (i:Int):∀l:List α,cnt (l.flatMap g) i=(l.map fun s=>cnt (g s) i).sum
 | []=>rfl
 | a::l=>by rw[oV,yT,CZ g i l,bF,yh]
theorem JN (m:Ma) (i:Int):cnt (qD m) i=vk m i+bU m 1 i:=by
 unfold qD;rw[yT,CZ];congr 1
 ·unfold cnt vk;rw[ww];rfl
 unfold bU;congr 1;exact yg fun s _=>Su s.tb i
theorem Fe (hp:Pt m) (i:Int):cnt (oF m) i=bU m 2 i:=by
 unfold oF bU;rw[CZ];congr 1;exact yg fun s hs=>Ql (hp.tb s hs) i
theorem Dq (hp:Pt m):countB m=true↔(∀i:Nat,i<m.m.fs.length→(aD m i).r=vk m i+bU m 1 i)∧(∀i:Nat,i<m.m.fs.length→0≤(aD m i).f→∃c∈m.ca,c.k=i)∧∀s:Nat,s<m.sl.length→lC m s=bU m 2 s:=by
 unfold countB;rw[dh,cK,decide_eq_true_eq];constructor
 ·rintro⟨h1,h2⟩;have h1:∀i:Nat,i<m.m.fs.length→_:=fun i hi=>h1 i (bV.2 hi);simp only[dh,decide_eq_true_eq,qJ,jO,JN,vP] at h1;refine⟨fun i hi=>by rw[(h1 i hi).1];omega,fun i hi h0 => ?_,fun s hs => ?_⟩
  ·rcases (h1 i hi).2 with h|⟨c,hc,hk⟩
   ·have h:(aD m i).f<0:=of_decide_eq_true h;omega
   ·exact⟨c,hc,hk⟩
  have:lC m s=(ku m.sl.length (oF m)).getD s 0:=by rw[←h2];rfl
  rw[this];unfold ku;rw[bM,iY,rJ hs];show ((cnt (oF m) s:Nat):Int)=_;rw[Fe hp]
 rintro⟨h1,h2,h3⟩;refine⟨fun i hi => ?_,?_⟩
 ·have hi:=bV.1 hi;simp only[dh,decide_eq_true_eq,qJ,jO,JN,vP];refine⟨by rw[h1 i hi];omega,?_⟩
  by_cases h0:0≤(aD m i).f
  ·obtain⟨c,hc,hk⟩:=h2 i hi h0;exact .inr ⟨c,hc,hk⟩
  ·exact .inl (decide_eq_true (show (aD m i).f<0 by omega))
 apply qH
 ·unfold ku;simp
 intro s k1 k2;have:=h3 s k1;have e2:(ku m.sl.length (oF m))[s]'k2=((cnt (oF m) (s:Int):Nat):Int):=by simp[ku]
 rw[e2,Fe hp,←this];unfold lC;rw[bM,aN k1];rfl
theorem GH :je m=0↔Rt m:=by
 unfold je;rw[lM,lM,lM,vE,zo];constructor
 ·rintro⟨⟨hp,ht,hl⟩,hc,he,hb⟩;have hb:countB m=true:=by
   cases h:countB m with
   | true=>rfl
   | false=>rw[h] at hb;exact absurd hb (by decide)
  obtain⟨b1,b2,b3⟩:=(Dq hp).1 hb;refine⟨hp,EQ.1 ht,fun p a => ?_,hc,(xX hp).1 he,b1,b2,b3⟩;rcases fM p m.sp.length with h|h
  ·exact hl _ (Cg h) a
  rw[qd h];refine⟨rfl,fun n => ?_⟩;unfold aL;rw[qd h];have:dB zSp.tb n=zEn:=yF n;rw[this];rfl
 intro h;refine⟨⟨h.pt,EQ.2 h.trim,fun s hs b => ?_⟩,h.ca,(xX h.pt).2 h.en,?_⟩
 ·obtain⟨p,hp,rfl⟩:=Ns hs;exact h.live p b
 ·rw[if_pos ((Dq h.pt).2 ⟨h.cf,h.fc,h.cs⟩)]
def bE (m:Ma) (p:Nat) (n:Int) (x:En):Ma:=setTb m p (setT (bX m p).tb n x)
theorem yD {i:Int} {e:En} (h:e.k=0) (hk:kd≠0):ut (uV kd i e)=0:=by
 unfold ut uV;rw[if_neg];simp only[dh,decide_eq_true_eq];intro h'; omega
theorem uB {i:Int} {e:En}:ut (uV kd i e)=if e.k=kd∧e.n=i then 1 else 0:=by
 unfold ut uV
 by_cases h:e.k=kd∧e.n=i
 ·rw[if_pos h,if_pos (by simp[h.1,h.2])]
 rw[if_neg h,if_neg];simp only[dh,decide_eq_true_eq];exact h
theorem Bq (h:Rt m) {j:Int} (hk:(aL m q j).k=1) (he:(aL m q j).n.toNat=f):0<bU m 1 f∧f<m.m.fs.length:=by
 have h3:=lW (m:=m) (p:=q) (n:=j) (by rw[hk];decide);have h5:=(dS _).1 (mo h.pt q j);have h4:=(kC (m:=m) (kd:=1) (i:=f) (by decide)).2 ⟨q,j,h3.1,h3.2,hk,by omega⟩;obtain⟨g,_,hg⟩:=h.en q j (by rw[hk];decide);have:=hg.lt hk;exact⟨h4,by omega⟩
theorem Dv (h:Rt m) (hc:Co m) {X:Fr} {x:En} {g:Pg} (hp:p<m.sp.length) (hn:0≤n∧n<64) (h0:(aL m p n).k=0) (hf:f<m.m.fs.length)
 (hxk:x.k=1) (hxn:x.n=f) (hX:bO X=0) (hr:X.r=(aD m f).r+1)
 (hold:(aD m f).r≠0→X.f=(aD m f).f∧X.i=(aD m f).i∧X.p=(aD m f).p∧X.d=(aD m f).d)
 (hnew:(aD m f).r=0→X.f<0∧X.d=false)
 (hw:X.f<0→∀q j,(aL m q j).k=1→(aL m q j).n.toNat=f→(aL m q j).w=false)
 (hg:fD m p n=some g) (hfit:KX X g x.w):Rt (bE (setFr m f X) p n x)∧Co (bE (setFr m f X) p n x):=by
 have hm:Pt (setFr m f X):=h.pt.setFr hX;have hu:gV x=0:=(dS x).2 (.inr (.inl ⟨hxk,by have:=((dZ _).1 h.pt.fr).1;omega⟩));obtain⟨hl,_,hx⟩:=iX (k:=⟨setFr m f X,0⟩) (p:=p) (n:=n) (x:=x) hm hn hu;have ht:p<(setFr m f X).sp.length:=hp;have z:∀q j,aL (bE (setFr m f X) p n x) q j=if q=p∧j=n then x else aL m q j:=fun q j=>pX ht hl q j;have l:∀y,aD (bE (setFr m f X) p n x) y=if y=f then X else aD m y:=fun y=>fJ hf y;have b:(bE (setFr m f X) p n x).m.fs.length=m.m.fs.length:=dG;have ha:∀kd i,kd≠0→bU (bE (setFr m f X) p n x) kd i=bU m kd i+ut (uV kd i x):=fun kd i hk=>by have h1:=sS ht hl kd i;have h2:ut (uV kd i (aL (setFr m f X) p n))=0:=yD (e:=aL (setFr m f X) p n) h0 hk;have h3:bU (setFr m f X) kd i=bU m kd i:=rfl;unfold bE;omega
 have hj:gZ m (setFr m f X):=gZ.of rfl;have hb:gZ m (bE (setFr m f X) p n x):=hj.trans (gZ.setTb (m:=setFr m f X) (p:=p) (t:=setT (bX (setFr m f X) p).tb n x));have hA:sV (bE (setFr m f X) p n x):=by
  refine⟨h.ca.file,fun c a => ?_,fun c a => ?_,h.ca.srt⟩
  ·rw[b];exact h.ca.lt c a
  have h1:=h.ca.fr c a;rw[l]
  by_cases e:c.k.toNat=f
  ·rw[if_pos e];rw[e] at h1;obtain⟨k1,k2,_⟩:=hold (by omega);exact⟨by omega,by omega,by omega⟩
  ·rw[if_neg e];exact h1
 refine⟨⟨hx,h.trim,fun q hq => ?_,hA,fun q j hk => ?_,fun i hi => ?_,fun i hi v => ?_,fun s hs => ?_⟩,⟨fun c a => ?_,fun c a hd => ?_,fun i hi hd => ?_⟩⟩
 ·rw[hb.lv] at hq;obtain⟨a1,a2⟩:=h.live q hq;refine⟨by rw[hb.ar];exact a1,fun j => ?_⟩;rw[z,if_neg]
  ·exact a2 j
  rintro⟨rfl,rfl⟩;have:fD m q j=onA (bX m q).ar j:=rfl;rw[this,a1] at hg;cases hg
 ·have hz:fD (bE (setFr m f X) p n x) q j=fD m q j:=by unfold fD;rw[hb.ar]
  rw[hz];rw[z] at hk ⊢
  by_cases e:q=p∧j=n
  ·rw[if_pos e] at hk ⊢;rw[e.1,e.2];refine⟨g,hg,fun hB=>by omega,fun _=>by rw[b];omega,fun _ => ?_⟩;rw[l,if_pos (by omega)];exact hfit
  rw[if_neg e] at hk ⊢;obtain⟨y,hy,o⟩:=h.en q j hk;refine⟨y,hy,o.sw,by rw[b];exact o.lt,fun u => ?_⟩;rw[l]
  by_cases e2:(aL m q j).n.toNat=f
  ·rw[if_pos e2];have h1:=o.fr u;rw[e2] at h1;have h2:=Bq h u e2;have h3:=h.cf f hf;obtain⟨k1,k2,_,_⟩:=hold (by omega);obtain⟨f1,f2,f3,f4,f5⟩:=h1;refine⟨by rw[k1,k2];exact f1,by rw[k1];exact f2,f3,by rw[k1];exact f4,fun hh hv => ?_⟩;rw[hw hv q j u e2] at hh;cases hh
  ·rw[if_neg e2];exact o.fr u
 ·have a1:vk (bE (setFr m f X) p n x) i=vk m i:=rfl;rw[l,a1,ha 1 i (by decide),uB];have h3:=h.cf i (by rw[←b];exact hi)
  by_cases e:i=f
  ·subst e;rw[if_pos rfl,if_pos ⟨hxk,hxn⟩,hr];omega
  ·rw[if_neg e,if_neg (fun h'=>e (by omega))];omega
 ·rw[l] at v
  by_cases e:i=f
  ·subst e;rw[if_pos rfl] at v
   by_cases hr0:(aD m i).r=0
   ·have:=(hnew hr0).1;omega
   obtain⟨k1,_⟩:=hold hr0;exact h.fc i hf (by omega)
  rw[if_neg e] at v;exact h.fc i (by rw[←b];exact hi) v
 ·rw[ha 2 s (by decide),uB,if_neg (fun h'=>by omega)];exact h.cs s hs
 ·have h1:=h.ca.fr c a;rw[l]
  by_cases e:c.k.toNat=f
  ·rw[if_pos e];rw[e] at h1;obtain⟨_,_,k3,_⟩:=hold (by omega);rw[k3,←e];exact hc.tail c a
  ·rw[if_neg e];exact hc.tail c a
 ·have h1:=h.ca.fr c a;rw[l] at hd ⊢
  by_cases e:c.k.toNat=f
  ·rw[if_pos e] at hd ⊢;rw[e] at h1;obtain⟨_,_,k3,k4⟩:=hold (by omega);rw[k3,←e];exact hc.clean c a (by rw[e,←k4];exact hd)
  ·rw[if_neg e] at hd ⊢; exact hc.clean c a hd
 rw[l] at hd ⊢
 by_cases e:i=f
 ·subst e;rw[if_pos rfl] at hd ⊢
  by_cases hr0:(aD m i).r=0
  ·rw[(hnew hr0).2] at hd;cases hd
  obtain⟨k1,_,_,k4⟩:=hold hr0;rw[k1];exact hc.anon i hf (by rw[←k4];exact hd)
 ·rw[if_neg e] at hd ⊢; exact hc.anon i (by rw[←b];exact hi) hd
theorem KG (h:Rt m) (hc:Co m) {s:Sp} (hl:m.sp.length<4) (hv:s.lv=true) (ha:(dH s.ar).1=0) (ht:s.tb=zTb):Rt { m with sp:=m.sp++[s] }∧Co { m with sp:=m.sp++[s] }:=by
 have a:∀q,bX { m with sp:=m.sp++[s] } q=if q=m.sp.length then s else bX m q:=fun q=>by
  unfold bX;show (m.sp++[s]).getD q zSp=_;rw[bM,List.getElem?_append]
  by_cases e:q<m.sp.length
  ·rw[if_pos e,if_neg (by omega),bM]
  rw[if_neg e]
  by_cases e2:q=m.sp.length
  ·rw[if_pos e2,e2,Bl];rfl
  ·rw[if_neg e2,bM,fo (by simp;omega),fo (by omega)]
 have b:∀q j,aL { m with sp:=m.sp++[s] } q j=aL m q j:=fun q j=>by
  unfold aL;rw[a]
  by_cases e:q=m.sp.length
  ·rw[if_pos e,qd (by omega),ht];rfl
  ·rw[if_neg e]
 have c:∀kd i,kd≠0→bU { m with sp:=m.sp++[s] } kd i=bU m kd i:=fun kd i hk=>by
  unfold bU;show ((m.sp++[s]).map _).sum=_;rw[gX,List.sum_append];have:([s].map fun s=>(fU s.tb).countP (uV kd i)).sum=0:=by rw[List.map_singleton,List.sum_singleton,ht,uz];intro e he;unfold fU at he;obtain⟨j,_,rfl⟩:=eD.1 he;rw[yF];unfold uV;simp only[dh,decide_eq_true_eq];rintro⟨h1,_⟩;exact hk h1.symm
  omega
 refine⟨⟨{ h.pt with spl:=by simp;omega,ar:=fun y hy => ?_,tb:=fun y hy => ?_ },h.trim,fun q hq => ?_,⟨h.ca.file,h.ca.lt,h.ca.fr,h.ca.srt⟩,fun q j hk => ?_,fun i hi=>by rw[c 1 i (by decide)];exact h.cf i hi,h.fc,fun i hi=>by rw[c 2 i (by decide)];exact h.cs i hi⟩,⟨hc.tail,hc.clean,hc.anon⟩⟩
 ·rcases jK.1 hy with hy|hy
  ·exact h.pt.ar y hy
  ·rw[bN.1 hy];exact ha
 ·rcases jK.1 hy with hy|hy
  ·exact h.pt.tb y hy
  ·rw[bN.1 hy,ht];decide
 ·rw[a] at hq ⊢
  by_cases e:q=m.sp.length
  ·rw[if_pos e,hv] at hq;cases hq
  rw[if_neg e] at hq ⊢;refine⟨(h.live q hq).1,fun j=>by rw[b];exact (h.live q hq).2 j⟩
 rw[b] at hk ⊢;obtain⟨y,hy,d⟩:=h.en q j hk;have hq:=lW hk;refine⟨y,?_,d.sw,d.lt,d.fr⟩;unfold fD at hy ⊢;rw[a,if_neg (by omega)];exact hy
def Oy (T:List (List En)) (p:Nat):List En:=T.getD p []
def sP (m:Ma) (T:List (List En)):Ma:={ m with sp:=(List.range m.sp.length).map fun p => { bX m p with tb:=qP (Oy T p) } }
structure VX (m:Ma) (T:List (List En)):Prop where
 len:T.length=m.sp.length
 ln:∀t∈T,t.length=64
 en:∀t∈T,∀x∈t,gV x=0
theorem PQ {T:List (List En)}:(sP m T).sp.length=m.sp.length:=by unfold sP;simp
def setL (T:List (List En)) (p n:Nat) (x:En):List (List En):=T.set p ((Oy T p).set n x)
theorem Lu {T:List (List En)} (h:VX m T) (s:Sp):sP { m with sp:=m.sp++[s] } (T++[List.replicate 64 zEn]) = { sP m T with sp:=(sP m T).sp++[{ s with tb:=zTb }] }:=by
 have hz:qP (List.replicate 64 zEn)=zTb:=by decide +kernel
 unfold sP;simp only[Ma.mk.injEq,true_and,iK,Bt];rw[qB,gX];congr 1
 ·apply yg;intro p hp;have a:=bV.1 hp;unfold bX Oy;simp only[bM];rw[il a,il (by rw[h.len];exact a)]
 unfold bX Oy;simp only[bF,bI,bM];rw[iN (az _),Bl,←h.len,iN (az _),Bl];simp only[qa,rQ];rw[hz]
theorem VX.more {T:List (List En)} (h:VX m T) (s:Sp):VX { m with sp:=m.sp++[s] } (T++[List.replicate 64 zEn]):=by
 refine⟨by simp[h.len],fun t ht => ?_,fun t ht x hx => ?_⟩
 ·rcases jK.1 ht with ht|ht
  ·exact h.ln t ht
  ·rw[bN.1 ht,pQ]
 rcases jK.1 ht with ht|ht
 ·exact h.en t ht x hx
 rw[bN.1 ht] at hx;rw[(BN.1 hx).2];decide
theorem RX {α:Type} (g:α→Nat) (c:Nat) (h:∀x,g x≤c):∀l:List α,(l.map g).sum≤c*l.length
 | []=>by simp
 | x::l=>by have h1:=RX g c h l;have h2:=h x;rw[bF,yh,nz,Nat.mul_succ];omega
theorem Pp (t:Tb):(fU t).length=64:=by unfold fU;simp
theorem JK (m:Ma) (kd i:Int):bU m kd i≤64*m.sp.length:=RX _ 64 (fun s=>by rw[←Pp s.tb];exact wG) _
theorem QV (h:sV m) (i:Int):vk m i≤1:=zB h.srt fun a ha b hb e=>h.uniq ha hb e
theorem Rt.fewR (h:Rt m) (hf:f<m.m.fs.length):0≤(aD m f).r∧(aD m f).r≤257:=by
 have h1:=h.cf f hf;have h2:=JK m 1 f;have h3:=QV h.ca f;have h4:=h.pt.spl;omega
theorem Rt.fewS (h:Rt m) {s:Nat} (hs:s<m.sl.length):0≤lC m s∧lC m s≤256:=by
 have h1:=h.cs s hs;have h2:=JK m 2 s;have h4:=h.pt.spl;omega
theorem JA (h:Pt m) {i:Int} (hk:kd≠0) {j:Int} (h1:(aL m p n).k=kd∧(aL m p n).n=i) (h2:(aL m q j).k=kd∧(aL m q j).n=i) (hne:¬(q=p∧j=n)):2≤bU m kd i:=by
 have e1:=lW (m:=m) (p:=p) (n:=n) (by omega);have e2:=lW (m:=m) (p:=q) (n:=j) (by omega);obtain⟨a,_,_⟩:=iX (k:=⟨m,0⟩) (p:=p) (n:=n) (x:=zEn) h e1.2 (by decide);have a1:=sS e1.1 a kd i;have a2:ut (uV kd i (aL m p n))=1:=by rw[uB,if_pos h1]
 have a3:ut (uV kd i zEn)=0:=yD rfl hk;have a4:0<bU (setTb m p (setT (bX m p).tb n zEn)) kd i:=by refine (kC hk).2 ⟨q,j,by rw[tL];exact e2.1,e2.2,?_⟩;rw[pX e1.1 a,if_neg hne];exact h2
 have a5:bU ({ m:=m,e:=0 }:Kp).m kd i=bU m kd i:=rfl;omega
def mD (x:Fr):Fr:={ x with r:=x.r+1 }
theorem TM {x:Fr} (h:bO x=0) (hr:x.r≠0) (h1:x.r<1000):bO (mD x)=0:=by
 rw[dC] at h ⊢;obtain⟨⟨a,b,c⟩,d,e⟩:=h;refine⟨⟨?_,?_,c⟩,fun h0 => ?_,e⟩
 ·show 0≤x.r+1;omega
 ·show x.r+1≤1000;omega
 have:x.r+1=0:=h0;omega
theorem iG (h:Rt m) (hk:(aL m p n).k=1):∃f:Nat,(aL m p n).n=f∧f<m.m.fs.length∧(aD m f).r≠0∧p<m.sp.length∧(0≤n∧n<64)∧∃g,fD m p n=some g∧KX (aD m f) g (aL m p n).w:=by
 have h1:=lW (m:=m) (p:=p) (n:=n) (by rw[hk];decide);have h2:=(dS _).1 (mo h.pt p n);obtain⟨g,hg,hf⟩:=h.en p n (by rw[hk];decide);have h3:=hf.lt hk;have h4:=Bq h hk rfl;refine⟨(aL m p n).n.toNat,by omega,h4.2,?_,h1.1,h1.2,g,hg,hf.fr hk⟩;have:=h.cf _ h4.2;omega
structure Bd (m:Ma) (T:List (List En)):Prop where
 ok:VX m T
 rt:Rt (sP m T)
 co:Co (sP m T)
theorem Bd.of {T:List (List En)} (ok:VX m T) (h:Rt (sP m T)∧Co (sP m T)):Bd m T:=⟨ok,h.1,h.2⟩
theorem Bd.more {T:List (List En)} (h:Bd m T) {s:Sp} (hl:m.sp.length<4) (hv:s.lv=true) (ha:(dH s.ar).1=0):Bd { m with sp:=m.sp++[s] } (T++[List.replicate 64 zEn]):=by
 refine .of (h.ok.more s) ?_;rw[Lu h.ok];exact KG h.rt h.co (s:={ s with tb:=zTb }) (by rw[PQ];exact hl) hv ha rfl
structure yf (X:Nat→Int→Prop) (m m' : Ma):Prop where
 sk:gZ m m'
 files:m'.st.fs.length=m.st.fs.length
 size:∀f,(aH m'.st f).n=(aH m.st f).n
 lenb:∀f,(aH m'.st f).b.length=(aH m.st f).b.length
 see:∀p n,¬X p n→iM m' p n=iM m p n
 con:∀f i,mK m.st f i→aR m' f i=aR m f i
theorem yf.trans {X:Nat→Int→Prop} {a b c:Ma} (h:yf X a b) (k:yf X b c):yf X a c:=
 ⟨h.sk.trans k.sk,k.files.trans h.files,fun f=>(k.size f).trans (h.size f),fun f=>(k.lenb f).trans (h.lenb f),fun p n hx=>(k.see p n hx).trans (h.see p n hx),fun f i hi=>(k.con f i (hi.same h.files h.lenb)).trans (h.con f i hi)⟩
theorem yf.refl (X:Nat→Int→Prop) (m:Ma):yf X m m:=⟨.refl m,rfl,fun _=>rfl,fun _=>rfl,fun _ _ _=>rfl,fun _ _ _=>rfl⟩
theorem Ei.x (h:Ei m m') (X:Nat→Int→Prop):yf X m m':=⟨h.sk,h.files,h.size,h.lenb,fun p n _=>h.see p n,h.con⟩
theorem GM {X:Nat→Int→Prop} (sk:gZ m m') (hf:kY m.st m'.st) (hc:∀f i,mK m.st f i→aR m' f i=aR m f i)
 (hs:∀p n g,¬X p n→fD m p n=some g→sM m' g (aL m' p n)=sM m g (aL m p n)):yf X m m':=by
 refine⟨sk,hf.len,hf.size,hf.lenb,fun p n hx => ?_,hc⟩;have hp:fD m' p n=fD m p n:=by unfold fD;rw[sk.ar]
 cases hg:fD m p n with
 | none=>rw[oh hg,oh (hp.trans hg)]
 | some g=>rw[iE hg,iE (hp.trans hg)];exact hs p n g hx hg
def WP (p:Nat) (n:Int) (q:Nat) (j:Int):Prop:=q=p∧j=n
structure Less (m m' : Ma) (p:Nat) (n:Int):Prop where
 rt:Rt m'
 co:Co m'
 vis:yf (WP p n) m m'
 st:m'.st=m.st
 dk:m'.dk=m.dk
 sw:m'.sw=m.sw
 ca:m'.ca=m.ca
 len:m'.m.fs.length=m.m.fs.length
 sll:m'.sl.length=m.sl.length
 ents:∀q j,aL m' q j=if q=p∧j=n then zEn else aL m q j
 fr:∀g,(aD m' g).r≠0→(aD m' g).p=(aD m g).p∧(aD m' g).u=(aD m g).u∧(aD m' g).d=(aD m g).d∧(aD m' g).f=(aD m g).f∧(aD m' g).i=(aD m g).i
theorem TS (x:Fr) (n:Int):(gD x n).r=x.r+n:=by
 unfold gD
 by_cases h:x.r+n=0
 ·rw[if_pos h,h];rfl
 ·rw[if_neg h]
theorem Kr {x:Fr} (h:x.r+n≠0):gD x n = { x with r:=x.r+n }:=by unfold gD;rw[if_neg h]
theorem Mf (h:Rt m) (hc:Co m) (hk:(aL m p n).k=1) (hn:(aL m p n).n=f):Less m (bE (setFr m f (gD (aD m f) (-1))) p n zEn) p n:=by
 obtain⟨f',e1,hf,hr,hp,hJ,g0,hR,hM⟩:=iG h hk;have:f' = f:=by omega
 subst this;have hP:=h.fewR hf;have hA:bO (gD (aD m f') (-1))=0:=Ic (h.pt.frE hf) hr (by omega) (by omega);have hO:=TS (aD m f') (-1);have l:(aD m f').r≠1→gD (aD m f') (-1) = { aD m f' with r:=(aD m f').r + -1 }:=fun h1=>Kr (by omega);generalize hX:gD (aD m f') (-1)=X at *
 have hD:Pt (setFr m f' X):=h.pt.setFr hA;obtain⟨hC,_,hH⟩:=iX (k:=⟨setFr m f' X,0⟩) (p:=p) (n:=n) (x:=zEn) hD hJ (by decide);have hE:p<(setFr m f' X).sp.length:=hp;have w:∀q j,aL (bE (setFr m f' X) p n zEn) q j=if q=p∧j=n then zEn else aL m q j:=fun q j=>pX hE hC q j;have v:∀y,aD (bE (setFr m f' X) p n zEn) y=if y=f' then X else aD m y:=fun y=>fJ hf y;have o:(bE (setFr m f' X) p n zEn).m.fs.length=m.m.fs.length:=dG;have hz:∀kd i,kd≠0→bU (bE (setFr m f' X) p n zEn) kd i+ut (uV kd i (aL m p n))=bU m kd i:=fun kd i hL=>by have h1:=sS hE hC kd i;have h2:ut (uV kd i zEn)=0:=yD rfl hL;have h3:bU (setFr m f' X) kd i=bU m kd i:=rfl;have h4:aL (setFr m f' X) p n=aL m p n:=rfl;rw[h4] at h1;unfold bE;omega
 have hB:gZ m (setFr m f' X):=gZ.of rfl;have hu:gZ m (bE (setFr m f' X) p n zEn):=hB.trans (gZ.setTb (m:=setFr m f' X) (p:=p) (t:=setT (bX (setFr m f' X) p).tb n zEn));have hF:∀c∈m.ca,c.k.toNat=f'→(aD m f').r≠1:=fun c g e hg=>by
  have h1:=h.cf f' hf;have h2:=h.ca.one g;have h3:=h.ca.lt c g;have h4:=Bq (f:=f') h hk (by omega);have:c.k=(f' : Int):=by omega
  rw[this] at h2;omega
 have z:∀c∈m.ca,(aD (bE (setFr m f' X) p n zEn) c.k.toNat).p=(aD m c.k.toNat).p∧(aD (bE (setFr m f' X) p n zEn) c.k.toNat).d=(aD m c.k.toNat).d∧(aD (bE (setFr m f' X) p n zEn) c.k.toNat).f=(aD m c.k.toNat).f∧(aD (bE (setFr m f' X) p n zEn) c.k.toNat).i=(aD m c.k.toNat).i∧1≤(aD (bE (setFr m f' X) p n zEn) c.k.toNat).r:=fun c g=>by
  have h1:=h.ca.fr c g;rw[v]
  by_cases e:c.k.toNat=f'
  ·rw[if_pos e];have h2:=hF c g e;rw[e] at h1 ⊢;rw[l h2];exact⟨rfl,rfl,rfl,rfl,by show 1≤(aD m f').r + -1;omega⟩
  ·rw[if_neg e];exact⟨rfl,rfl,rfl,rfl,h1.1⟩
 have hv:∀q j,¬(q=p∧j=n)→(aL m q j).k=1→(aL m q j).n.toNat=f'→(aD m f').r≠1:=fun q j hK u hQ hg=>by
  obtain⟨f2,b1,b2,b3,b4,b5,g2,b6,b7⟩:=iG h u;have hN:f2=f':=by omega
  subst hN;have h2:=JA h.pt (kd:=1) (i:=f2) (by decide) ⟨hk,hn⟩ ⟨u,b1⟩ hK;have h3:=h.cf f2 hf;omega
 have hm:sV (bE (setFr m f' X) p n zEn):=by
  refine⟨h.ca.file,fun c g => ?_,fun c g => ?_,h.ca.srt⟩
  ·rw[o];exact h.ca.lt c g
  have h1:=h.ca.fr c g;obtain⟨a1,a2,a3,a4,a5⟩:=z c g;exact⟨a5,a3.trans h1.2.1,a4.trans h1.2.2⟩
 have hj:∀a b,dJ (bE (setFr m f' X) p n zEn) a b=dJ m a b:=fun _ _=>rfl;have hw:∀a b,aR (bE (setFr m f' X) p n zEn) a b=aR m a b:=by
  intro a b;rcases ko m a b with ⟨c,hl,g,hcf,hci⟩|⟨hl,hno⟩
  ·subst hcf;subst hci;rw[ed h.ca g,ed (m:=bE (setFr m f' X) p n zEn) hm g,(z c g).1]
  ·rw[dY hno,dY (m:=bE (setFr m f' X) p n zEn) hno,hj]
 refine⟨⟨hH,h.trim,fun q hq => ?_,hm,fun q j hh => ?_,fun i hi => ?_,fun i hi ha => ?_,fun s hs => ?_⟩,⟨fun c g => ?_,fun c g hd => ?_,fun i hi hd => ?_⟩,?_,rfl,rfl,rfl,rfl,o,rfl,w,fun y hy => ?_⟩
 ·rw[hu.lv] at hq;obtain⟨a1,a2⟩:=h.live q hq;refine⟨by rw[hu.ar];exact a1,fun j => ?_⟩;rw[w];split
  ·rfl
  ·exact a2 j
 ·have hI:fD (bE (setFr m f' X) p n zEn) q j=fD m q j:=by unfold fD;rw[hu.ar]
  rw[hI];rw[w] at hh ⊢
  by_cases e:q=p∧j=n
  ·rw[if_pos e] at hh; exact absurd rfl hh
  rw[if_neg e] at hh ⊢;obtain⟨y,hy,ht⟩:=h.en q j hh;refine⟨y,hy,ht.sw,by rw[o];exact ht.lt,fun u => ?_⟩;rw[v]
  by_cases e2:(aL m q j).n.toNat=f'
  ·rw[if_pos e2];have h1:=ht.fr u;rw[e2] at h1;rw[l (hv q j e u e2)];obtain⟨f1,f2,f3,f4,f5⟩:=h1;refine⟨f1,f2,f3,f4,fun hG hb => ?_⟩;have:=f5 hG hb;show (aD m f').r + -1≤1;omega
  ·rw[if_neg e2];exact ht.fr u
 ·have a1:vk (bE (setFr m f' X) p n zEn) i=vk m i:=rfl;have h1:=hz 1 i (by decide);rw[uB] at h1;rw[v,a1];have h3:=h.cf i (by rw[←o];exact hi)
  by_cases e:i=f'
  ·subst e;rw[if_pos ⟨hk,hn⟩] at h1;rw[if_pos rfl,hO];omega
  rw[if_neg (fun h'=>e (by omega))] at h1;rw[if_neg e];omega
 ·rw[v] at ha
  by_cases e:i=f'
  ·subst e;rw[if_pos rfl] at ha
   by_cases hg:(aD m i).r=1
   ·have hb:X.r=0:=by omega
    have:=((dC _).1 hA).2.1 hb;omega
   rw[l hg] at ha;exact h.fc i hf ha
  rw[if_neg e] at ha;exact h.fc i (by rw[←o];exact hi) ha
 ·have h1:=hz 2 s (by decide);rw[uB,if_neg (fun h'=>by omega)] at h1;have:=h.cs s hs;show lC m s=_;omega
 ·obtain⟨a1,a2,a3,a4,a5⟩:=z c g;rw[a1];exact hc.tail c g
 ·obtain⟨a1,a2,a3,a4,a5⟩:=z c g;rw[a2] at hd;rw[a1,hj];exact hc.clean c g hd
 ·rw[v] at hd ⊢
  by_cases e:i=f'
  ·subst e;rw[if_pos rfl] at hd ⊢
   by_cases hg:(aD m i).r=1
   ·have hb:X.r=0:=by omega
    have:=(((dC _).1 hA).2.1 hb).2.1;rw[this] at hd;cases hd
   rw[l hg] at hd ⊢;exact hc.anon i hf hd
  ·rw[if_neg e] at hd ⊢; exact hc.anon i (by rw[←o];exact hi) hd
 ·refine GM hu (kY.refl _) (fun a b _=>hw a b) fun q j y hx hy => ?_;rw[w,if_neg (show ¬(q=p∧j=n) from hx)];refine oK h.pt.st (h.pt.pg hy).1 (kY.refl _) (fun a b _=>hw a b) (fun u => ?_) (fun _=>⟨rfl,rfl⟩);show (aD (bE (setFr m f' X) p n zEn) (aL m q j).n.toNat).p=(aD m (aL m q j).n.toNat).p∧(aD (bE (setFr m f' X) p n zEn) (aL m q j).n.toNat).f=(aD m (aL m q j).n.toNat).f;rw[v]
  by_cases e2:(aL m q j).n.toNat=f'
  ·rw[if_pos e2,e2,l (hv q j hx u e2)];exact⟨rfl,rfl⟩
  ·rw[if_neg e2];exact⟨rfl,rfl⟩
 rw[v] at hy ⊢
 by_cases e:y=f'
 ·rw[if_pos e] at hy ⊢;rw[e,l (by omega)];exact⟨rfl,rfl,rfl,rfl,rfl⟩
 ·rw[if_neg e];exact⟨rfl,rfl,rfl,rfl,rfl⟩
theorem EH (h:Rt m) (hc:Co m) {s:Nat} (hk:(aL m p n).k=2) (hn:(aL m p n).n=s):Less m (bE (setSl m s (lC m s + -1)) p n zEn) p n:=by
 have l:=lW (m:=m) (p:=p) (n:=n) (by rw[hk];decide);obtain⟨g0,hj,u⟩:=h.en p n (by rw[hk];decide);have hs:s<m.sl.length:=by have:=u.sw hk;omega
 have hh:=h.fewS hs;have hg:0<bU m 2 s:=(kC (by decide)).2 ⟨p,n,l.1,l.2,hk,hn⟩;have hl:=h.cs s hs;have z:Pt (setSl m s (lC m s + -1)):=h.pt.setSl (by omega) (by omega);obtain⟨w,_,hb⟩:=iX (k:=⟨setSl m s (lC m s + -1),0⟩) (p:=p) (n:=n) (x:=zEn) z l.2 (by decide);have ha:p<(setSl m s (lC m s + -1)).sp.length:=l.1;have c:∀q j,aL (bE (setSl m s (lC m s + -1)) p n zEn) q j=if q=p∧j=n then zEn else aL m q j:=fun q j=>pX ha w q j;have o:∀kd i,kd≠0→bU (bE (setSl m s (lC m s + -1)) p n zEn) kd i+ut (uV kd i (aL m p n))=bU m kd i:=fun kd i hf=>by have h1:=sS ha w kd i;have h2:ut (uV kd i zEn)=0:=yD rfl hf;have h3:bU (setSl m s (lC m s + -1)) kd i=bU m kd i:=rfl;have h4:aL (setSl m s (lC m s + -1)) p n=aL m p n:=rfl;rw[h4] at h1;unfold bE;omega
 have v:gZ m (setSl m s (lC m s + -1)):=gZ.of rfl;have g:gZ m (bE (setSl m s (lC m s + -1)) p n zEn):=v.trans (gZ.setTb (m:=setSl m s (lC m s + -1)) (p:=p) (t:=setT (bX (setSl m s (lC m s + -1)) p).tb n zEn));have d:(bE (setSl m s (lC m s + -1)) p n zEn).sl.length=m.sl.length:=dM;refine⟨⟨hb,h.trim,fun q hq => ?_,⟨h.ca.file,h.ca.lt,h.ca.fr,h.ca.srt⟩,fun q j f => ?_,fun i hi => ?_,h.fc,fun i hi => ?_⟩,⟨hc.tail,hc.clean,hc.anon⟩,?_,rfl,rfl,rfl,rfl,rfl,d,c,fun y hy=>⟨rfl,rfl,rfl,rfl,rfl⟩⟩
 ·rw[g.lv] at hq;obtain⟨a1,a2⟩:=h.live q hq;refine⟨by rw[g.ar];exact a1,fun j => ?_⟩;rw[c];split
  ·rfl
  ·exact a2 j
 ·have hd:fD (bE (setSl m s (lC m s + -1)) p n zEn) q j=fD m q j:=by unfold fD;rw[g.ar]
  rw[hd];rw[c] at f ⊢
  by_cases e:q=p∧j=n
  ·rw[if_pos e] at f; exact absurd rfl f
  rw[if_neg e] at f ⊢;obtain⟨y,hy,r⟩:=h.en q j f;exact⟨y,hy,by rw[d];exact r.sw,r.lt,r.fr⟩
 ·have h1:=o 1 i (by decide);rw[uB,if_neg (fun h'=>by omega)] at h1;have h2:=h.cf i hi;have a1:vk (bE (setSl m s (lC m s + -1)) p n zEn) i=vk m i:=rfl;have a2:aD (bE (setSl m s (lC m s + -1)) p n zEn) i=aD m i:=rfl;rw[a1,a2];omega
 ·rw[d] at hi;have h1:=o 2 i (by decide);rw[uB] at h1;have h2:=h.cs i hi;have a2:lC (bE (setSl m s (lC m s + -1)) p n zEn) i=lC (setSl m s (lC m s + -1)) i:=rfl;rw[a2,Nc hs]
  by_cases e:i=s
  ·subst e;rw[if_pos ⟨hk,hn⟩] at h1;rw[if_pos rfl];omega
  rw[if_neg (fun h'=>e (by omega))] at h1;rw[if_neg e];omega
 refine GM g (kY.refl _) (fun a b _=>rfl) fun q j y hx hy => ?_;rw[c,if_neg (show ¬(q=p∧j=n) from hx)];exact oK h.pt.st (h.pt.pg hy).1 (kY.refl _) (fun a b _=>rfl) (fun _=>⟨rfl,rfl⟩) (fun _=>⟨rfl,rfl⟩)
theorem Ue {k:Kp} (h:Rt k.m) (hc:Co k.m) (p:Nat) (n:Int):((aL k.m p n).k=0∧iU k p n=k)∨∃m',iU k p n=⟨m',k.e⟩∧Less k.m m' p n:=by
 have h2:=(dS _).1 (mo h.pt p n);have hg:dB (bX k.m p).tb n=aL k.m p n:=rfl;rcases h2 with h2|h2|h2
 ·refine .inl ⟨h2.1,?_⟩;unfold iU;rw[hg,if_neg (by omega),if_neg (by omega)]
 ·right
  obtain⟨f,e1,hf,hr,hp,d,g0,g,a⟩:=iG h h2.1;have c:=h.fewR hf;obtain⟨a1,a2⟩:=xZ (k:=k) (f:=f) (n:=-1) h.pt hf hr (by omega) (by omega);obtain⟨s0,b1,b2⟩:=iX (k:=⟨setFr k.m f (gD (aD k.m f) (-1)),k.e⟩) (p:=p) (n:=n) (x:=zEn) a2 d (by decide);refine⟨_,?_,Mf h hc h2.1 e1⟩;unfold iU;simp only;rw[hg,if_pos h2.1,e1,a1,b1];rfl
 right
 have b:=lW (m:=k.m) (p:=p) (n:=n) (by omega);obtain⟨g0,g,a⟩:=h.en p n (by omega);have hs:(aL k.m p n).n.toNat<k.m.sl.length:=by have:=a.sw h2.1;omega
 have c:=h.fewS hs;have i:0<bU k.m 2 ((aL k.m p n).n.toNat:Nat):=(kC (by decide)).2 ⟨p,n,b.1,b.2,h2.1,by omega⟩;have j:=h.cs _ hs;obtain⟨a1,a2⟩:=PH (k:=k) (s:=(aL k.m p n).n.toNat) (n:=-1) h.pt hs (by omega) (by omega) (by omega);obtain⟨s0,b1,b2⟩:=iX (k:=⟨setSl k.m (aL k.m p n).n.toNat (lC k.m (aL k.m p n).n.toNat + -1),k.e⟩) (p:=p) (n:=n) (x:=zEn) a2 b.2 (by decide);refine⟨_,?_,EH h hc h2.1 (s:=(aL k.m p n).n.toNat) (by omega)⟩;unfold iU;simp only;rw[hg,if_neg (by omega),if_pos h2.1];rw[show (aL k.m p n).n=(((aL k.m p n).n.toNat:Nat):Int) by omega,a1,b1];rfl
theorem vV (h:Rt m) (hc:Co m) (h' : Rt m') (hc' : Co m') (st:m'.st=m.st) (dk:m'.dk=m.dk) (ca:m'.ca=m.ca) (hf:∀c∈m.ca,(aD m' c.k.toNat).d=(aD m c.k.toNat).d∧(aD m' c.k.toNat).p=(aD m c.k.toNat).p):Inv m m':=
 RH.inv (.of st dk fun c hcm _=>⟨by rw[←ca];exact hcm,hf c (by rw[←ca];exact hcm)⟩) h hc h' hc'
theorem Less.inv (h:Rt m) (hc:Co m) (k:Less m m' p n):Inv m m':=
 vV h hc k.rt k.co k.st k.dk k.ca fun c hcm=>by have:=k.rt.ca.fr c (by rw[k.ca];exact hcm);have:=k.fr c.k.toNat (by omega);exact⟨this.2.2.1,this.1⟩
def JM (m:Ma) (q:Nat) (s:Sp):Ma:={ m with sp:=m.sp.set q s }
def XJ (l:List Ar) (n:Int):Bool:=(l.getD (fB l n).toNat zAr).sh
def VS (k:Kp) (p q:Nat) (n:Int):Kp:=
 let e:=aL k.m p n
 if e.k=2 then
  if bS k.m.sl e.n 1≠0 then ⟨k.m,bS k.m.sl e.n 1⟩ else dK ⟨{ k.m with sl:=bL k.m.sl e.n 1 },k.e⟩ q n e
 else
  let k1:=fV k e.n 1
  if XJ (bX k.m p).ar n=true then dK k1 q n e else dK (dK k1 p n ⟨e.k,e.n,false⟩) q n ⟨e.k,e.n,false⟩
def VY (m:Ma) (p q:Nat):Ma:=if q=m.sp.length then { m with sp:=m.sp++[⟨true,(bX m p).ar,zTb⟩] } else JM m q ⟨true,(bX m p).ar,zTb⟩
def TA (k:Kp) (p q:Nat) (l:List Int):Kp:=l.foldl (fun k n=>VS k p q n) k
def SB (m:Ma) (p q:Nat):Kp:=TA ⟨VY m p q,0⟩ p q (aM (bX m p).tb)
def Rl (m:Ma):Int:=idx (fun s:Sp => !s.lv) m.sp
def Au (m:Ma):Int:=if Rl m<0 then m.sp.length else Rl m
def XE (a n i:Int):Bool:=decide (a≤i)&&decide (i-a<n)
def TC (k:Kp) (p:Nat) (a n:Int) (l:List Int):Kp:=l.foldl (fun k i=>if XE a n i=true then iU k p i else k) k
def Qv (k:Kp) (p:Nat) (a n:Int):Kp:=TC k p a n (aM (bX k.m p).tb)
def DL (m:Ma) (p:Nat):Kp:=let k:=Qv ⟨m,0⟩ p 0 64;⟨JM k.m p zSp,k.e⟩
def WO (x y:Fr):Prop:=y.p=x.p∧y.u=x.u∧y.d=x.d∧y.f=x.f∧y.i=x.i∧(y.r=0↔x.r=0)
def alike (a b:En):Prop:=b.k=a.k∧b.n=a.n
theorem Uu (h:H'.ma.sp.length=H.ma.sp.length):H'.sp.length=H.sp.length:=by rw[tQ,tQ] at h;exact h
theorem entTy:129≠192∧129≠132∧129≠124∧129≠114:=by decide
theorem srt_len:∀ {l:List Nat} {a n:Nat},l.Pairwise (· < ·)→(∀x∈l,a≤x∧x<n)→l.length≤n-a
 | [],_,_,_,_=>by simp
 | x::l,a,n,hs,h=>by obtain⟨h1,h2⟩:=rD.1 hs;have hx:=h x kv;have:=srt_len (a:=x+1) (n:=n) h2 fun y hy=>⟨h1 y hy,(h y (jM _ hy)).2⟩;rw[nz];omega
theorem VM (h:sV m) (hs:aO m.st=0):m.ca.length≤60:=by
 have hl:∀c∈m.ca,0≤c.f∧c.f<5∧0≤c.i∧c.i<12:=fun c hc=>by have h1:=h.file c hc;have h2:=zI hs h1;have h3:=h1.1;have h4:=h1.2;omega
 have key:=srt_len (l:=m.ca.map fun c=>(12*c.f+c.i).toNat) (a:=0) (n:=60) ?_ fun x hx => ?_
 ·simpa using key
 ·rw[List.pairwise_map];refine List.Pairwise.imp_of_mem ?_ h.srt;intro a b ha hb d;have h1:=hl a ha;have h2:=hl b hb;unfold BQ at d;show (12*a.f+a.i).toNat<(12*b.f+b.i).toNat;omega
 obtain⟨c,hc,rfl⟩:=eD.1 hx;have h1:=hl c hc;show 0≤(12*c.f+c.i).toNat∧(12*c.f+c.i).toNat<60;omega
theorem OD (hs:aO s=0):∀f∈s.fs,f.b.length≤12:=fun f hf=>by
 obtain⟨k,hk,rfl⟩:=jC.1 hf;have h1:=lU hs (f:=(k:Int)) ⟨by omega,by omega⟩;have hfa:aH s (k:Int)=s.fs[k]:=jV (aN hk);rw[hfa] at h1;obtain⟨a1,a2,a3,_⟩:=h1;have e:(s.fs[k].b.length:Int)≤12:=by rw[a3];unfold gu;split<;>omega
 omega
structure Forked (m m' : Ma) (p q:Nat):Prop where
 rt:Rt m'
 co:Co m'
 st:m'.st=m.st
 dk:m'.dk=m.dk
 sw:m'.sw=m.sw
 ca:m'.ca=m.ca
 len:m'.m.fs.length=m.m.fs.length
 sll:m'.sl.length=m.sl.length
 fr:∀g,WO (aD m g) (aD m' g)
 sl:∀s,lC m' s=0↔lC m s=0
 spl:m'.sp.length=max m.sp.length (q+1)
 spq:(bX m' q).lv=true∧(bX m' q).ar=(bX m p).ar
 spo:∀a,a≠q→(bX m' a).lv=(bX m a).lv∧(bX m' a).ar=(bX m a).ar
 oth:∀a j,a≠q→alike (aL m a j) (aL m' a j)
 chd:∀j,alike (aL m p j) (aL m' q j)
theorem zM (hst:m'.st=m.st) (hdk:m'.dk=m.dk) (hsw:m'.sw=m.sw) (hca:m'.ca=m.ca) (hfr:∀g,(aD m' g).p=(aD m g).p∧(aD m' g).f=(aD m g).f) (har:(bX m' q).ar=(bX m p).ar) (he:alike (aL m p n) (aL m' q n)):iM m' q n=iM m p n:=by
 have d:∀a b,aR m' a b=aR m a b:=fun a b=>by
  unfold aR;rw[hca,hst,hdk];cases m.ca.find? fun c=>decide (c.f=a)&&decide (c.i=b) with
  | none=>rfl
  | some c=>exact (hfr c.k.toNat).1
 have hp:fD m' q n=fD m p n:=by unfold fD;rw[har]
 cases hg:fD m p n with
 | none=>rw[oh hg,oh (hp.trans hg)]
 | some g=>
  rw[iE hg,iE (hp.trans hg)];unfold sM;rw[he.1,he.2,hsw,hst,d];have h1:=(hfr (aL m p n).n.toNat).1;have h2:=(hfr (aL m p n).n.toNat).2;have h : (gP m' (aL m p n).n).p=(gP m (aL m p n).n).p:=h1;have e : (gP m' (aL m p n).n).f=(gP m (aL m p n).n).f:=h2;rw[h,e]
theorem Fv (hst:m'.st=m.st) (hdk:m'.dk=m.dk) (hca:m'.ca=m.ca) (hfr:∀g,(aD m' g).p=(aD m g).p) (a b:Int):aR m' a b=aR m a b:=by
 unfold aR;rw[hca,hst,hdk];cases m.ca.find? fun c=>decide (c.f=a)&&decide (c.i=b) with
 | none=>rfl
 | some c=>exact hfr c.k.toNat
theorem Less.zero (h:Rt m) (hc:Co m) (h0:(aL m p n).k=0):Less m m p n:=by
 refine⟨h,hc,.refl _ _,rfl,rfl,rfl,rfl,rfl,rfl,fun q j => ?_,fun _ _=>⟨rfl,rfl,rfl,rfl,rfl⟩⟩
 by_cases e:q=p∧j=n
 ·rw[if_pos e,e.1,e.2];have hE:=(dS _).1 (mo h.pt p n);rcases hE with hE|hE|hE
  ·show aL m p n=⟨0,0,false⟩;cases hx:aL m p n;rw[hx] at hE;simp only at hE;rw[hE.1,hE.2.1,hE.2.2]
  ·omega
  ·omega
 ·rw[if_neg e]
theorem EU {k:Kp} (h:Rt k.m) (hc:Co k.m) (p:Nat) (n:Int):∃m',iU k p n=⟨m',k.e⟩∧Less k.m m' p n:=by
 rcases Ue h hc p n with ⟨h0,e⟩|h'
 ·exact⟨k.m,e,.zero h hc h0⟩
 ·exact h'
structure Gone (m m' : Ma) (p:Nat):Prop where
 rt:Rt m'
 co:Co m'
 st:m'.st=m.st
 dk:m'.dk=m.dk
 sw:m'.sw=m.sw
 ca:m'.ca=m.ca
 len:m'.m.fs.length=m.m.fs.length
 sll:m'.sl.length=m.sl.length
 spl:m'.sp.length=m.sp.length
 sp:∀a,a=p→bX m' a=zSp
 spo:∀a,a≠p→(bX m' a).lv=(bX m a).lv∧(bX m' a).ar=(bX m a).ar∧∀n,aL m' a n=aL m a n
 see:∀a n,a≠p→iM m' a n=iM m a n
 con:∀f i,mK m.st f i→aR m' f i=aR m f i
 fr:∀g,(aD m' g).r≠0→(aD m' g).p=(aD m g).p∧(aD m' g).u=(aD m g).u∧(aD m' g).d=(aD m g).d∧(aD m' g).f=(aD m g).f∧(aD m' g).i=(aD m g).i
def jF (x:Fr) (P:Page) (d:Bool):Fr:={ x with p:=P,d:=d }
theorem Re (h:Rt m) (hc:Co m) {P:Page} {d:Bool} (hg:g<m.m.fs.length) (hr:(aD m g).r≠0) (ht:∀c∈m.ca,c.k.toNat=g→cO P ((aH m.st c.f).n-c.i*8)=P∧(d=true∨P=dJ m c.f c.i)) (hd:d=true→0≤(aD m g).f) :
  Rt (setFr m g (jF (aD m g) P d))∧Co (setFr m g (jF (aD m g) P d)):=by
 have q:bO (jF (aD m g) P d)=0:=by have h1:=(dC _).1 (h.pt.frE hg);rw[dC];exact⟨h1.1,fun e=>absurd e hr,h1.2.2⟩
 have o:∀x,aD (setFr m g (jF (aD m g) P d)) x=if x=g then jF (aD m g) P d else aD m x:=fun x=>fJ hg x;have j:∀x,(aD (setFr m g (jF (aD m g) P d)) x).r=(aD m x).r∧(aD (setFr m g (jF (aD m g) P d)) x).f=(aD m x).f∧(aD (setFr m g (jF (aD m g) P d)) x).i=(aD m x).i:=fun x=>by
  rw[o]
  by_cases e:x=g
  ·rw[if_pos e,e];exact⟨rfl,rfl,rfl⟩
  ·rw[if_neg e];exact⟨rfl,rfl,rfl⟩
 have l:(setFr m g (jF (aD m g) P d)).m.fs.length=m.m.fs.length:=dG;refine⟨⟨h.pt.setFr q,h.trim,h.live,⟨h.ca.file,fun c b=>by rw[l];exact h.ca.lt c b,fun c b => ?_,h.ca.srt⟩,fun p n hk => ?_,fun i hi => ?_,fun i hi h0 => ?_,h.cs⟩,⟨fun c b => ?_,fun c b a => ?_,fun i hi a => ?_⟩⟩
 ·rw[(j _).1,(j _).2.1,(j _).2.2];exact h.ca.fr c b
 ·obtain⟨y,hy,hf⟩:=h.en p n hk;refine⟨y,hy,hf.sw,by rw[l];exact hf.lt,fun s => ?_⟩;have h1:=hf.fr s;unfold KX at h1 ⊢;have e:aL (setFr m g (jF (aD m g) P d)) p n=aL m p n:=rfl;rw[e,(j _).1,(j _).2.1,(j _).2.2];exact h1
 ·rw[(j _).1];exact h.cf i (by rw[←l];exact hi)
 ·rw[(j _).2.1] at h0;exact h.fc i (by rw[←l];exact hi) h0
 ·rw[o]
  by_cases e:c.k.toNat=g
  ·rw[if_pos e];exact (ht c b e).1
  ·rw[if_neg e];exact hc.tail c b
 ·rw[o] at a ⊢
  by_cases e:c.k.toNat=g
  ·rw[if_pos e] at a ⊢;rcases (ht c b e).2 with h1|h1
   ·have h2:d=false:=a;rw[h1] at h2;cases h2
   ·exact h1
  ·rw[if_neg e] at a ⊢; exact hc.clean c b a
 rw[o] at a ⊢
 by_cases e:i=g
 ·rw[if_pos e] at a ⊢;exact hd a
 ·rw[if_neg e] at a ⊢; exact hc.anon i (by rw[←l];exact hi) a
theorem RZ (h:Rt m) (hc:Co m) (hg:g<m.m.fs.length) (hr:(aD m g).r≠0) (hf:0≤(aD m g).f):Rt (setFr m g (jF (aD m g) (aD m g).p true))∧Co (setFr m g (jF (aD m g) (aD m g).p true))∧Ei m (setFr m g (jF (aD m g) (aD m g).p true)):=by
 have h1:=Re (P:=(aD m g).p) (d:=true) h hc hg hr (fun c b e=>⟨by have:=hc.tail c b;rw[e] at this;exact this,.inl rfl⟩) (fun _=>hf);have a:∀x,(aD (setFr m g (jF (aD m g) (aD m g).p true)) x).p=(aD m x).p∧(aD (setFr m g (jF (aD m g) (aD m g).p true)) x).f=(aD m x).f:=fun x=>by
  rw[fJ hg]
  by_cases e:x=g
  ·rw[if_pos e,e];exact⟨rfl,rfl⟩
  ·rw[if_neg e];exact⟨rfl,rfl⟩
 exact⟨h1.1,h1.2,⟨gZ.of rfl,rfl,fun _=>rfl,fun _=>rfl,fun p n=>zM rfl rfl rfl rfl a rfl ⟨rfl,rfl⟩,fun f i _=>Fv (m:=m) (m':=setFr m g (jF (aD m g) (aD m g).p true)) rfl rfl rfl (fun x=>(a x).1) f i⟩⟩
theorem LH (h:Rt m) (hc:Co m) {g:Pg} (hk:(aL m p n).k=1) (hn:(aL m p n).n=f) (hg:fD m p n=some g) (hw:g.wr=true) (hs:g.sh=true∨(aD m f).f<0∧(aD m f).r=1) :
  Rt (bE m p n ⟨1,f,true⟩)∧Co (bE m p n ⟨1,f,true⟩)∧Ei m (bE m p n ⟨1,f,true⟩):=by
 obtain⟨f',e1,hf,hr,hp,hb,g0,u,l⟩:=iG h hk;rw[hg] at u;cases u;have:f' = f:=by omega
 subst this;have w:gV ⟨1,f',true⟩=0:=(dS _).2 (.inr (.inl ⟨rfl,by show (0:Int)≤f'; omega,by have:=((dZ _).1 h.pt.fr).1;show (f' : Int)<40;omega⟩));obtain⟨o,_,z⟩:=iX (k:=⟨m,0⟩) (p:=p) (n:=n) (x:=⟨1,f',true⟩) h.pt hb w;have b:∀q j,aL (bE m p n ⟨1,f',true⟩) q j=if q=p∧j=n then ⟨1,f',true⟩ else aL m q j:=fun q j=>pX hp o q j;have v:∀q j,alike (aL m q j) (aL (bE m p n ⟨1,f',true⟩) q j):=fun q j=>by
  rw[b]
  by_cases e:q=p∧j=n
  ·rw[if_pos e,e.1,e.2];exact⟨hk.symm,hn.symm⟩
  ·rw[if_neg e];exact⟨rfl,rfl⟩
 have c:∀kd i,bU (bE m p n ⟨1,f',true⟩) kd i=bU m kd i:=fun kd i=>by
  have h1:=sS hp o kd i;have h2:ut (uV kd i (aL m p n))=ut (uV kd i ⟨1,f',true⟩):=by rw[uB,uB,hk,hn]
  unfold bE;have h3:bU ({ m:=m,e:=0 }:Kp).m kd i=bU m kd i:=rfl;have h4:aL ({ m:=m,e:=0 }:Kp).m p n=aL m p n:=rfl;rw[h4,h2] at h1;omega
 have a:gZ m (bE m p n ⟨1,f',true⟩):=gZ.setTb;refine⟨⟨z,h.trim,fun q hq => ?_,⟨h.ca.file,h.ca.lt,h.ca.fr,h.ca.srt⟩,fun q j t => ?_,fun i hi=>by rw[c];exact h.cf i hi,h.fc,fun s hs=>by rw[c];exact h.cs s hs⟩,⟨hc.tail,hc.clean,hc.anon⟩,⟨a,rfl,fun _=>rfl,fun _=>rfl,fun q j=>zM rfl rfl rfl rfl (fun _=>⟨rfl,rfl⟩) (a.ar q) (v q j),fun _ _ _=>rfl⟩⟩
 ·rw[a.lv] at hq;obtain⟨a1,a2⟩:=h.live q hq;refine⟨by rw[a.ar];exact a1,fun j=>by rw[(v q j).1];exact a2 j⟩
 have ha:fD (bE m p n ⟨1,f',true⟩) q j=fD m q j:=by unfold fD;rw[a.ar]
 rw[ha]
 by_cases e:q=p∧j=n
 ·rw[b,if_pos e,e.1,e.2];refine⟨g,hg,fun h'=>absurd (show (1:Int)=2 from h') (by decide),fun _=>by show (f' : Int)<(m.m.fs.length:Int);omega,fun _ => ?_⟩;obtain⟨f1,f2,f3,f4,f5⟩:=l;refine⟨f1,f2,fun _=>hw,fun _ h0 => ?_,fun _ h0 => ?_⟩
  ·rcases hs with hs|hs
   ·exact hs
   have:(aD m f').f<0:=hs.1;have:0≤(aD m f').f:=h0;omega
  rcases hs with hs|hs
  ·have:=f2 hs;have:(aD m f').f<0:=h0;omega
  show (aD m f').r≤1;omega
 rw[b,if_neg e] at t ⊢;obtain⟨y,hy,d⟩:=h.en q j t;exact⟨y,hy,d.sw,d.lt,d.fr⟩
theorem VG {t u:Tb} (ht:dO t=0) (hu:dO u=0) (h:∀n,dB t n=dB u n):t=u:=by
 rw[←DU ht,←DU hu];unfold fU;congr 1;exact yg fun n _=>h n
theorem Ky (h:Pt m) {x y:En} (hp:p<m.sp.length) (hn:0≤n∧n<64) (hx:gV x=0) (hy:gV y=0):bE (bE m p n y) p n x=bE m p n x:=by
 have h1:=Bz (h.tbN p) hn hy;have h2:=Bz (h.tbN p) hn hx;have h3:=Bz (qR h1) hn hx;unfold bE;have e1:bX (setTb m p (setT (bX m p).tb n y)) p = { bX m p with tb:=setT (bX m p).tb n y }:=by rw[zS hp,if_pos rfl]
 rw[e1];have e2:setT (setT (bX m p).tb n y) n x=setT (bX m p).tb n x:=VG (qR h3) (qR h2) fun j=>by
  rw[yx h3,yx h2,yx h1]
  by_cases e:j=n
  ·rw[if_pos e,if_pos e]
  ·rw[if_neg e,if_neg e,if_neg e]
 show setTb (setTb m p (setT (bX m p).tb n y)) p (setT (setT (bX m p).tb n y) n x)=_;rw[e2];unfold setTb;simp only[GL];have e3:bX ({ m with sp:=m.sp.set p { bX m p with tb:=setT (bX m p).tb n y } }:Ma) p = { bX m p with tb:=setT (bX m p).tb n y }:=e1;rw[e3]
def jc (m:Ma) (p:Nat) (n:Int):Ar:=(bX m p).ar.getD (fB (bX m p).ar n).toNat zAr
def mJ (m:Ma) (p:Nat) (n:Int) (w:Bool):Int:=if fB (bX m p).ar n<0 then 5 else if (w=true∧(jc m p n).wr=false)∨(w=false∧(jc m p n).rd=false) then 8 else 0
def VB (r:Kp × Int) (p:Nat) (n:Int) (w:Bool):Kp × Int:=if r.2<0 then r else (dK r.1 p n ⟨1,r.2,w⟩,r.2)
def fQ (k:Kp) (p:Nat) (n:Int) (a:Ar):Kp × Int:=
 let e:=aL k.m p n
 if e.k=1 then (k,e.n)
 else if e.k=2 then
  if aI k.m.sw e.n≠0 then (k,-1) else
  let r:=eu k (dN k.m.sw e.n) (-1) 0
  if r.2<0 then (r.1,-1) else
  if bS r.1.m.sl e.n (-1)≠0 then (r.1,-1) else (dK ⟨{ r.1.m with sl:=bL r.1.m.sl e.n (-1) },r.1.e⟩ p n ⟨1,r.2,a.wr⟩,r.2)
 else if a.fi<0 then VB (eu k zPg (-1) 0) p n a.wr
 else
  let r:=eQ k a.fi (a.ba+n-a.fr)
  if r.2<0 then r else (dK (fV r.1 r.2 1) p n ⟨1,r.2,a.sh&&a.wr⟩,r.2)
def uG (k:Kp) (p:Nat) (n:Int) (f:Int) (a:Ar):Kp × Int:=
 let x:=gP k.m f
 if a.sh=true∨x.f<0∧x.r=1 then (dK k p n ⟨1,f,true⟩,f) else
 let r:=eu (iU k p n) x.p (-1) 0
 if r.2<0 then (r.1,-1) else (dK r.1 p n ⟨1,r.2,true⟩,r.2)
def kK (m:Ma) (p:Nat) (n:Int) (w:Bool):Kp × Int:=
 let r:=fQ ⟨m,0⟩ p n (jc m p n)
 if 0≤r.2∧w=true∧(aL r.1.m p n).w=false then uG r.1 p n r.2 (jc m p n) else r
def Fh (k:Kp) (f:Int) (d:Bool):Kp:=let m1:=setFr k.m f.toNat (jT (aD k.m f.toNat));⟨if d=true then setFr m1 f.toNat (jF (aD m1 f.toNat) (aD m1 f.toNat).p true) else m1,k.e⟩
def copied (m:Ma) (p:Nat) (n:Int):Bool:=decide ((aL m p n).k=2)||(decide ((aL m p n).k=1)&&decide ((gP m (aL m p n).n).f<0))
def lS (m:Ma) (p n:Int) (w:Bool):Int:=
 if je m≠0 then je m else if p<0∨(m.sp.length:Int)≤p∨(bX m p.toNat).lv=false then 5 else if mJ m p.toNat n w≠0 then mJ m p.toNat n w
 else if 0≤(jc m p.toNat n).fi∧copied m p.toNat n=false∧nU m.st (jc m p.toNat n).fi ((jc m p.toNat n).ba+n-(jc m p.toNat n).fr)=true then 9
 else if (kK m p.toNat n w).2<0 then 10 else (kK m p.toNat n w).1.e
def oW (m:Ma) (p n:Int) (w:Bool):Ma:=(Fh (kK m p.toNat n w).1 (kK m p.toNat n w).2 (w&&(jc m p.toNat n).sh)).m
def tC (m:Ma) (p n:Int) (w:Bool):Int:=(kK m p.toNat n w).2
theorem uD {g:Pg} (hg:fD m p n=some g):g=uZ (jc m p n) n∧0≤fB (bX m p).ar n∧(jc m p n).sh=g.sh∧(jc m p n).wr=g.wr∧(jc m p n).rd=g.rd∧(jc m p n).fi=g.fi∧(0≤g.fi→(jc m p n).ba+n-(jc m p n).fr=g.pg):=by
 have h1:0≤fB (bX m p).ar n:=(BF _ _).2 (by unfold fD at hg;rw[hg];simp);have h2:=(Cf h1).1;unfold fD at hg;rw[hg] at h2;have h3:=aS h2;refine⟨h3,h1,by rw[h3];rfl,by rw[h3];rfl,by rw[h3];rfl,by rw[h3];rfl,fun h0 => ?_⟩;rw[h3] at h0 ⊢;have a : 0≤(jc m p n).fi:=h0;show _=if 0≤(jc m p n).fi then _ else _;rw[if_pos a];rfl
end Go.Proofs.YtpaeabelhnnbiaaGreat