import Derived.Test.YtpaeabelhnnbiaaGreatV3
import Derived.BigRegion
import Derived.Deep.LoopGhost
set_option linter.unusedSimpArgs false
set_option linter.unusedVariables false
set_option maxHeartbeats 4000000
set_option maxRecDepth 100000
namespace Go.Proofs.YtpaeabelhnnbiaaGreat
open _root_.Go.Proofs.Tryz
open Go.RowKit Go.Maps Pw
variable {B F b c f j p q:Nat} {D E:List Int} {H H0:MH} {M m m' m1:Ma} {a:Option Addr} {cs cur:Array Value} {d:tZ} {g:Pg} {kd n:Int} {ps:List PF} {s s':St} {v:Value} {vs:List Value} {w w' w0 w1:World} {z:Fr}
theorem iJ.frame {e:Int} (h:iJ w B b H e) (hf:f<H.m.fs.length) :
  ∃g off cur,H.af=some ⟨g,off,none⟩∧B≤g∧aJ w g cur 132∧off+f*13+13≤cur.size∧dV w (some ⟨g,off+f*13,none⟩) (oO (aD H.ma f))∧(∀j u,(oO (aD H.ma f))[j]?=some u→cur[off+f*13+j]?=some u)∧b≠g ∧
   ∀(w' : World) (x:Fr),aJ w' g (dE cur (off+f*13) (oO x)) 132→w.grownBy w' (some g)→iJ w' B b { H with m:=⟨H.m.fs.set f x,H.m.hand⟩ } e:=by
 have r:H.m.fs[f]=aD H.ma f:=by have:H.m.fs[f]?=some (aD H.ma f):=tF (m:=H.ma) (f:=f) hf;rw[aN hf] at this;exact aT this
 obtain⟨g,off,cap,cur,hv,hB,a,l,i⟩:=pq iR (by decide) rfl h.ma.fr f hf;simp only[lV] at hv;obtain⟨p,_,s⟩:=hv;have k:=h.ma.fr;rw[p] at k;have d:=AC k a;have o:∀j u,(oO (aD H.ma f))[j]?=some u→cur[off+f*13+j]?=some u:=fun j u hj=>by rw[pX];exact d _ _ (flat_get oO 13 iR H.m.fs f hf j u (by rw[r];exact hj))
 have n:b≠g:=fun e=>by have h1:=h.blk;subst e;unfold aJ at h1 a;rw[h1] at a;simp only[iq,qx] at a;exact absurd a.2.1 (by decide)
 refine⟨g,off,cur,p,hB,a,l,fun j u hj=>⟨g,_,rfl,by rw[a.cell];exact o j u hj⟩,o,n,fun w' x hb hg => ?_⟩;have c:(H.m.fs.set f x).length=H.m.fs.length:=cO;refine⟨?_,h.ge,⟨?_,ay h.ma.sl a (by decide) hg,h.ma.sw.keep a (by decide) (by decide) hg,h.ma.dk.keep a (by decide) (by decide) hg,h.ma.st.keep a (by decide) (by decide) hg,ay h.ma.ca a (by decide) hg,ay h.ma.sp a (by decide) hg,fun q hq=>⟨ay (h.ma.ps q hq).1 a (by decide) hg,(h.ma.ps q hq).2.keep a (by decide) hg⟩,h.ma.c64⟩,h.tz⟩
 ·have:lG { H with m:=⟨H.m.fs.set f x,H.m.hand⟩ } e=lG H e:=by unfold lG;simp only[c]
  rw[this];exact h.blk.grown hg (fun e=>n (aT e).symm)
 simp only[c];exact i w' _ hb
theorem putAt_one {o:Nat}:∀ {vs:List Value} {j:Nat} {v:Value},(∀i u,vs[i]?=some u→cur[o+i]?=some u)→j<vs.length→dE cur o (vs.set j v)=cur.setIfInBounds (o+j) v:=by
 intro vs j v b hj;apply pJ;intro i;rw[zz];have a:∀k,k<vs.length→o+k<cur.size:=fun k hk=>(gU.1 (b k _ (aN hk))).1
 by_cases h1:i<o∨o+vs.length≤i
 ·rw[putAt_out _ _ _ _ (by rw[cO];omega),if_neg (by omega)]
 have hi:i-o<vs.length:=by omega
 have:=putAt_in (vs.set j v) cur o (i-o) ((vs.set j v)[i-o]'(by rw[cO];exact hi)) (by rw[cO];have:=a (vs.length-1) (by omega);omega) (aN _);rw[show o+(i-o)=i by omega] at this;rw[this,BV]
 by_cases e:j=i-o
 ·rw[if_pos e,if_pos (by omega),if_pos (by have:=a j hj;omega)]
 rw[if_neg e,if_neg (by omega)];have:=b (i-o) _ (aN hi);rw[show o+(i-o)=i by omega] at this;exact this.symm
theorem Ip (s:St) (f i:Int):(dO s f i).count=s.count∨(dO s f i).count=0:=by
 unfold dO;split
 ·exact .inr rfl
 split
 ·exact .inl rfl
 ·exact .inl rfl
theorem TG {o:Nat} (m:World→Prop) (h:∀W,w.grownBy W (some b)→(∀ {cur T},aJ w b cur T→aJ W b (dE cur o vs) T)→m W):m (w.setCells b o vs).drew:=by
 have h1:=aB w b o vs;exact h _ ⟨h1.os,h1.tape,h1.output,h1.size,h1.block⟩ fun hb=>hb.setCells vs o
theorem vg : (Tryz.prog.info? 4).map (·.size)=some 1:=by kernel_rfl
def OZ (B:Nat) (S:St) (N E:Int):nR:=⟨fun v w => ∃u ps k,v = .tuple #[.agg #[u,.int .i64 k],.int .i64 N,.int .i64 E]∧oD w B u ps∧bQ ps k=S,fun _ _ _ hb ⟨u,ps,k,h1,h2,h3⟩=>⟨u,ps,k,h1,h2.below hb,h3⟩⟩
def BI (B:Nat) (d:tZ) (E:Int):nR:=⟨fun v w => ∃a b,v = .tuple #[.agg #[a,b],.int .i64 E]∧jZ w B a b d,fun _ _ _ hb ⟨a,b,h1,h2⟩=>⟨a,b,h1,h2.below hb⟩⟩
theorem ML (H:MH) (e:Int) (f:Nat) (B b:Nat) (w:World) (h:iJ w B b H e) (hf:f<H.m.fs.length) :
  Calls Tryz.prog 129 #[.pointer (some ⟨b,0,none⟩),.int .i64 f] w fun r w'=>r = .returned (.bool (iZ H.ma f))∧KR w B b H w' (jM ⟨H.ma,e⟩ f):=by
 obtain⟨g,off,cur,h2,gc,hi,kW,kx,hG,gb,kh⟩:=h.frame hf;generalize hx:aD H.ma f=x at *
 have hg:=ae hx;clear hx kh;have hc:=h.blk.cell;unfold lG at hc;rw[h2] at hc;have ga:(f:Int)<(H.m.fs.length:Int):=by omega
 have q10:cur[off+f*13+10]?=some (.bool x.d):=hG 10 _ rfl;have q11:cur[off+f*13+11]?=some (.int .i64 x.f):=hG 11 _ rfl;have q12:cur[off+f*13+12]?=some (.int .i64 x.i):=hG 12 _ rfl;have kC:=hi.cell;have kA:=hi.free;have kY:=ae hG;clear hG;go_enter func129,ntmps129
 by_cases h1:x.f<0
 ·have hq:Hid (jM ⟨H.ma,e⟩ f=⟨H.ma,e⟩):=ae (by unfold jM;simp only[hg.out];rw[if_pos (.inl h1)]);have hl:Hid (iZ H.ma f=true):=ae (by unfold iZ;rw[hg.out];simp[h1]);have hh:=ae h;clear h;go_wp2;go_ret;rw[hq.out,hl.out];exact⟨rfl,_,_,hh.out,KS.refl _ _ _,rfl⟩
 cases hd:x.d with
 | false=>
  have hq:Hid (jM ⟨H.ma,e⟩ f=⟨H.ma,e⟩):=ae (by unfold jM;simp only[hg.out];rw[if_pos (.inr (.inl hd))]);have hl:Hid (iZ H.ma f=true):=ae (by unfold iZ;rw[hg.out,hd];simp);rw[hd] at q10;have hh:=ae h;clear h;go_wp2;go_ret;rw[hq.out,hl.out];exact⟨rfl,_,_,hh.out,KS.refl _ _ _,rfl⟩
 | true=>
  rw[hd] at q10;go_upto_region 4 with (fail);have hm:=ae h;refine gI 22 [_,_,_,_,_,_,_,_,_,_,_,_,_,.r 13 ((OZ w.heap.size (dO H.ma.st x.f x.i) (dW H.ma.st x.f x.i) (cB H.ma.st x.f x.i))),.r 14 ((OZ w.heap.size (dO H.ma.st x.f x.i) (dW H.ma.st x.f x.i) (cB H.ma.st x.f x.i))),.r 15 ((MK w.heap.size (dO H.ma.st x.f x.i))),.v (.int .i64 (dW H.ma.st x.f x.i)),.v (.int .i64 (cB H.ma.st x.f x.i)),.r 18 ((fe w.heap.size 40 2)),.y 19 ((Jj 18 w.heap.size 40 (MK w.heap.size (dO H.ma.st x.f x.i)))),.v (.int .i64 (dW H.ma.st x.f x.i)),.v (.int .i64 (cB H.ma.st x.f x.i))] (fun W=>Below w.heap.size w W) bn (Below.refl _ _) (Yk bn rfl (Yk bn rfl (Yf bn b 0 rfl rfl (Yf bn b 7 rfl rfl (Yr bn (.agg #[.slice H.ai H.fi.length H.ci,.int .i64 H.ct]) (fun ρ y W hb hH=>(bM rfl (aV rfl hH) (h.below hb).rdS underlying40 rfl store_size)) rfl rfl (Yk bn rfl (Yk bn rfl (Yf bn g (off+f*13+11) rfl rfl (Yc bn (.int .i64 x.f) (fun W hb=>by simp[(hi.ext hb).cell,q11]) rfl rfl rfl rfl (Yk bn rfl (Yk bn rfl (Yf bn g (off+f*13+12) rfl rfl (Yc bn (.int .i64 x.i) (fun W hb=>by simp[(hi.ext hb).cell,q12]) rfl rfl rfl rfl (aj ?_ (aj ?_ (aj ?_ (aj ?_ (aj ?_ (aj ?_ (aj ?_ (Yk bn rfl (Yk bn rfl (aG))))))))))))))))))))))) (fun _=>rfl) rfl ?_
  ·intro ρ y W hw hn hb hd;refine eH bn hb ((OZ w.heap.size (dO H.ma.st x.f x.i) (dW H.ma.st x.f x.i) (cB H.ma.st x.f x.i))) (fun _ _ h=>h) ?_;have kT:=hw 35 4 rfl;have h4:y 4 = .agg #[.slice H.ai H.fi.length H.ci,.int .i64 H.ct]:=hd 4 rfl;have kS:=hw 39 8 rfl;have h8:y 8 = .int .i64 x.f:=hd 8 rfl;have kR:=hw 43 12 rfl;have h3:y 12 = .int .i64 x.i:=hd 12 rfl;have EF:∀f,ρ (.func f) = .func (.func f) #[] #[]:=fun f=>hn (.func f) trivial;refine aL _ _ (ag rfl) (aS rfl (EF _) func177 (by kernel_rfl) (by kernel_rfl) (by simp only[bT,bH,bL,kT,h4,kS,h8,kR,h3,EF];rfl)) ?_;refine (Lv H.fi H.ct x.f x.i H.ai H.ci W (h.below hb).ma.rd.st h.ma.c64).mono ?_;rintro r W2 ⟨u,ps,k,rfl,ho,hB,kF⟩;exact⟨_,rfl,kF,u,ps,k,rfl,ho.mono hb.size,hB⟩
  ·intro ρ y W hw hn hb hd;refine eH bn hb ((OZ w.heap.size (dO H.ma.st x.f x.i) (dW H.ma.st x.f x.i) (cB H.ma.st x.f x.i))) (fun _ _ h=>h) ?_;have kQ:=hw 44 13 rfl;have kI:=hd 13 rfl;refine ak _ (ag rfl) (run_move (.inl rfl) kQ) ?_;exact kI
  ·intro ρ y W hw hn hb hd;refine eH bn hb ((MK w.heap.size (dO H.ma.st x.f x.i))) (fun _ _ h=>h) ?_;have hI:=hw 30 14 rfl;have hp:=hd 14 rfl;obtain⟨u,ps,k,hu,ho,hB⟩:=hp;refine ak (.agg #[u,.int .i64 k]) (ag rfl) (by simp[execOp,go_sem,bu,hI,hu]) ?_;exact⟨u,ps,k,rfl,ho,hB⟩
  ·intro ρ y W hw hn hb hd;refine eH bn hb (gX (.int .i64 (dW H.ma.st x.f x.i))) (fun _ _ h=>h) ?_;have hI:=hw 30 14 rfl;have hp:=hd 14 rfl;obtain⟨u,ps,k,hu,ho,hB⟩:=hp;refine ak (.int .i64 (dW H.ma.st x.f x.i)) (ag rfl) (by simp[execOp,go_sem,bu,hI,hu]) rfl
  ·intro ρ y W hw hn hb hd;refine eH bn hb (gX (.int .i64 (cB H.ma.st x.f x.i))) (fun _ _ h=>h) ?_;have hI:=hw 30 14 rfl;have hp:=hd 14 rfl;obtain⟨u,ps,k,hu,ho,hB⟩:=hp;refine ak (.int .i64 (cB H.ma.st x.f x.i)) (ag rfl) (by simp[execOp,go_sem,bu,hI,hu]) rfl
  ·intro ρ y W hw hn hb hd;refine eH bn hb ((fe w.heap.size 40 2)) (fun _ _ h=>h) ?_;refine gH (.pointer (some ⟨W.heap.size,0,none⟩)) (ag rfl) (by simp[execOp,go_sem,bu]) ((Below.refl _ _).alloc (az _) (.cells #[.slice none 0 0,.int .i64 0] 40)) ?_;exact⟨_,_,rfl,hb.size,aJ.new _ _ _,rfl⟩
  ·intro ρ y W hw hn hb hd;have E6:=hw 6 18 rfl;have kG:=hd 18 rfl;have kP:=hw 45 15 rfl;have kH:=hd 15 rfl;obtain⟨u,ps,k,e7,ht,kg⟩:=kH;obtain⟨g3,cur3,e9,hF,l,hC⟩:=kG;obtain⟨au,cu,rfl,_⟩:=ht.rd;refine jc (ag rfl) _ _ _ rfl g3 0 (.agg #[.slice au ps.length cu,.int .i64 k]) [.slice au ps.length cu,.int .i64 k] (E6.trans e9) (kP.trans e7) rfl cur3 _ l (by rw[hC];exact az _) store_size (fP (mU _ _ _ _)) ?_;intro w1 hj a;rw[show [Value.slice au ps.length cu,Value.int .i64 k]=(#[Value.slice au ps.length cu,Value.int .i64 k]:Array Value).toList from rfl,eB cur3 _ (by rw[hC];rfl)] at hj;refine⟨hb.grown a hb.size (fun k hk=>by cases hk;exact hF),⟨g3,_,e9,hF,hj,⟨_,ps,k,rfl,ht.keep l (by decide) (by decide) a,kg⟩⟩,?_⟩;intro k hk hX
   match k,hk,hX with
   | 0,_,_=>exact fun h=>h
   | 1,_,_=>exact fun h=>h
   | 2,_,_=>exact fun h=>h
   | 3,_,_=>exact fun h=>h
   | 4,_,_=>exact fun h=>h
   | 5,_,_=>exact fun h=>h
   | 6,_,_=>exact fun h=>h
   | 7,_,_=>exact fun h=>h
   | 8,_,_=>exact fun h=>h
   | 9,_,_=>exact fun h=>h
   | 10,_,_=>exact fun h=>h
   | 11,_,_=>exact fun h=>h
   | 12,_,_=>exact fun h=>h
   | 13,_,_=>exact fun⟨c,q0,q1,q2,q3,q4⟩=>⟨c,q0,q1,q2,q3.keep l (by decide) (by decide) a,q4⟩
   | 14,_,_=>exact fun⟨c,q0,q1,q2,q3,q4⟩=>⟨c,q0,q1,q2,q3.keep l (by decide) (by decide) a,q4⟩
   | 15,_,_=>exact fun⟨c,q0,q1,q2,q3,q4⟩=>⟨c,q0,q1,q2,q3.keep l (by decide) (by decide) a,q4⟩
   | 16,_,_=>exact fun h=>h
   | 17,_,_=>exact fun h=>h
   | 18,_,_=>exact fun q=>iB q hj (fun _=>rfl) ⟨_,l⟩ a
   | 19,_,h=>exact absurd rfl h
   | 20,_,_=>exact fun h=>h
   | 21,_,_=>exact fun h=>h
   | n+22,h,_=>exact absurd h (by omega)
  intro y W2 t ha;replace t:Below w.heap.size w W2:=t;have kc:((OZ w.heap.size (dO H.ma.st x.f x.i) (dW H.ma.st x.f x.i) (cB H.ma.st x.f x.i))).r (y 13) W2:=ha 13 (by decide);have hA:((OZ w.heap.size (dO H.ma.st x.f x.i) (dW H.ma.st x.f x.i) (cB H.ma.st x.f x.i))).r (y 14) W2:=ha 14 (by decide);have hz:((MK w.heap.size (dO H.ma.st x.f x.i))).r (y 15) W2:=ha 15 (by decide);have kb:((fe w.heap.size 40 2)).r (y 18) W2:=ha 18 (by decide);have ka:=ha 19 (by decide);clear ha;simp only[dD,bu,bH,bL];obtain⟨gs,cs,k1,kk,ko,us,ps,ks,hL,hW,hN⟩:=ka;simp only[wY] at hL;subst hL;obtain⟨au,cu,rfl,_⟩:=hW.rd;have k2:=h.below t;have s2:=(KS.refl w b H).below t;have h0:=hi.ext t;have hD:=kx.below t;have kV:=ae kk;clear kc hA hz kb hc kC kA kk
  by_cases hE:cB H.ma.st x.f x.i=0
  ·have hq:Hid (jM ⟨H.ma,e⟩ f=⟨setFr { H.ma with st:=dO H.ma.st x.f x.i,dk:=dG H.dk (dW H.ma.st x.f x.i) x.p } f { x with d:=false },iK e (aK H.dk (dW H.ma.st x.f x.i))⟩):=ae (by
    unfold jM;simp only[hg.out];rw[if_neg]
    ·rfl
    rintro (q|q|q)
    ·exact h1 q
    ·rw[hd] at q;cases q
    ·exact q hE)
   have hl:Hid (iZ H.ma f=true):=ae (by unfold iZ;rw[hg.out,hE];simp);rw[hE];clear hE;have kZ:Hid (cB H.ma.st x.f x.i=cB H.ma.st x.f x.i):=ae rfl;generalize dW H.ma.st x.f x.i=N at *
   go_upto_region 7 with (fail);refine gI 17 [_,_,_,_,_,_,_,_,_,_,.r 10 ((BI W2.heap.size (dG H.dk N x.p) (aK H.dk N))),.r 11 ((BI W2.heap.size (dG H.dk N x.p) (aK H.dk N))),.r 12 ((xU W2.heap.size (dG H.dk N x.p))),.v (.int .i64 (aK H.dk N)),.r 14 ((fe W2.heap.size 37 2)),.y 15 ((Jj 14 W2.heap.size 37 (xU W2.heap.size (dG H.dk N x.p)))),.v (.int .i64 (aK H.dk N))] (fun W=>Below W2.heap.size W2 W) bn (Below.refl _ _) (Yk bn rfl (Yk bn rfl (Yf bn b 0 rfl rfl (Yf bn b 5 rfl rfl (Yr bn (.agg #[.slice H.db H.dk.blocks.length H.cdb,.slice H.dq H.dk.queue.length H.cdq]) (fun ρ y W hb hH=>(bM rfl (aV rfl hH) (k2.below hb).rdD underlying37 rfl disk_size)) rfl rfl (Yk bn rfl (Yk bn rfl (Yk bn rfl (Yf bn g (off+f*13) rfl rfl (Yr bn (.agg (gZ x.p)) (fun ρ y W hb hH=>(bM rfl (aV rfl hH) (nu (hD.below hb) 0 8) underlying100 rfl psize)) rfl rfl (aj ?_ (aj ?_ (aj ?_ (aj ?_ (aj ?_ (aj ?_ (Yk bn rfl (aG)))))))))))))))))) (fun _=>rfl) rfl ?_
   ·intro ρ y W hw hn hb hd;refine eH bn hb ((BI W2.heap.size (dG H.dk N x.p) (aK H.dk N))) (fun _ _ h=>h) ?_;have kO:=hw 55 4 rfl;have h4:y 4 = .agg #[.slice H.db H.dk.blocks.length H.cdb,.slice H.dq H.dk.queue.length H.cdq]:=hd 4 rfl;have kN:=hw 56 5 rfl;have h5:y 5 = .int .i64 N:=hd 5 rfl;have kM:=hw 60 9 rfl;have h9:y 9 = .agg (gZ x.p):=hd 9 rfl;have EF:∀f,ρ (.func f) = .func (.func f) #[] #[]:=fun f=>hn (.func f) trivial;refine aL _ _ (ag rfl) (aS rfl (EF _) func178 (by kernel_rfl) (by kernel_rfl) (by simp only[bT,bH,bL,kO,h4,kN,h5,kM,h9,EF];rfl)) ?_;refine (DD H.dk N x.p H.db H.cdb H.dq H.cdq W (k2.below hb).ma.rd.dk).mono ?_;rintro r W3 ⟨vb,vq,rfl,ho,kE⟩;exact⟨_,rfl,kE,vb,vq,rfl,ho.mono hb.size⟩
   ·intro ρ y W hw hn hb hd;refine eH bn hb ((BI W2.heap.size (dG H.dk N x.p) (aK H.dk N))) (fun _ _ h=>h) ?_;have kL:=hw 61 10 rfl;have kJ:=hd 10 rfl;refine ak _ (ag rfl) (run_move (.inl rfl) kL) ?_;exact kJ
   ·intro ρ y W hw hn hb hd;refine eH bn hb ((xU W2.heap.size (dG H.dk N x.p))) (fun _ _ h=>h) ?_;have h7:=hw 50 11 rfl;have h6:=hd 11 rfl;obtain⟨vb,vq,hu,ho⟩:=h6;refine ak (.agg #[vb,vq]) (ag rfl) (by simp[execOp,go_sem,bu,h7,hu]) ?_;exact⟨vb,vq,rfl,ho⟩
   ·intro ρ y W hw hn hb hd;refine eH bn hb (gX (.int .i64 (aK H.dk N))) (fun _ _ h=>h) ?_;have h7:=hw 50 11 rfl;have h6:=hd 11 rfl;obtain⟨vb,vq,hu,ho⟩:=h6;refine ak (.int .i64 (aK H.dk N)) (ag rfl) (by simp[execOp,go_sem,bu,h7,hu]) rfl
   ·intro ρ y W hw hn hb hd;refine eH bn hb ((fe W2.heap.size 37 2)) (fun _ _ h=>h) ?_;refine gH (.pointer (some ⟨W.heap.size,0,none⟩)) (ag rfl) (by simp[execOp,go_sem,bu]) ((Below.refl _ _).alloc (az _) (.cells #[.slice none 0 0,.slice none 0 0] 37)) ?_;exact⟨_,_,rfl,hb.size,aJ.new _ _ _,rfl⟩
   ·intro ρ y W hw hn hb hd;have E9:=hw 9 14 rfl;have hp:=hd 14 rfl;have kK:=hw 62 12 rfl;have h3:=hd 12 rfl;obtain⟨vb,vq,e7,ht⟩:=h3;obtain⟨g3,cur3,e9,hF,l,hC⟩:=hp;obtain⟨ab,cb,rfl,_⟩:=ht.b.rd;obtain⟨aq,cq,rfl,_⟩:=ht.q.rd;refine jc (ag rfl) _ _ _ rfl g3 0 (.agg #[.slice ab _ cb,.slice aq _ cq]) [.slice ab _ cb,.slice aq _ cq] (E9.trans e9) (kK.trans e7) rfl cur3 _ l (by rw[hC];exact az _) disk_size (fP (pU _ _ _ _ _ _)) ?_;intro w1 hj a;rw[show ∀(p q:Value),[p,q]=(#[p,q]:Array Value).toList from fun _ _=>rfl,eB cur3 _ (by rw[hC];rfl)] at hj;refine⟨hb.grown a hb.size (fun k hk=>by cases hk;exact hF),⟨g3,_,e9,hF,hj,⟨_,_,rfl,ht.keep l (by decide) (by decide) a⟩⟩,?_⟩;intro k hk hX
    match k,hk,hX with
    | 0,_,_=>exact fun h=>h
    | 1,_,_=>exact fun h=>h
    | 2,_,_=>exact fun h=>h
    | 3,_,_=>exact fun h=>h
    | 4,_,_=>exact fun h=>h
    | 5,_,_=>exact fun h=>h
    | 6,_,_=>exact fun h=>h
    | 7,_,_=>exact fun h=>h
    | 8,_,_=>exact fun h=>h
    | 9,_,_=>exact fun h=>h
    | 10,_,_=>exact fun⟨c,q0,q1,q2⟩=>⟨c,q0,q1,q2.keep l (by decide) (by decide) a⟩
    | 11,_,_=>exact fun⟨c,q0,q1,q2⟩=>⟨c,q0,q1,q2.keep l (by decide) (by decide) a⟩
    | 12,_,_=>exact fun⟨c,q0,q1,q2⟩=>⟨c,q0,q1,q2.keep l (by decide) (by decide) a⟩
    | 13,_,_=>exact fun h=>h
    | 14,_,_=>exact fun q=>iB q hj (fun _=>rfl) ⟨_,l⟩ a
    | 15,_,h=>exact absurd rfl h
    | 16,_,_=>exact fun h=>h
    | n+17,h,_=>exact absurd h (by omega)
   intro y W3 s z;replace s:Below W2.heap.size W2 W3:=s;have kf:((BI W2.heap.size (dG H.dk N x.p) (aK H.dk N))).r (y 10) W3:=z 10 (by decide);have ke:((BI W2.heap.size (dG H.dk N x.p) (aK H.dk N))).r (y 11) W3:=z 11 (by decide);have kd:((xU W2.heap.size (dG H.dk N x.p))).r (y 12) W3:=z 12 (by decide);have hA:((fe W2.heap.size 37 2)).r (y 14) W3:=z 14 (by decide);have hz:=z 15 (by decide);clear z;simp only[dD,bu,bH,bL];obtain⟨gd,cd,k7,k9,kp,vb,vq,hM,hJ⟩:=hz;simp only[wY] at hM;subst hM;obtain⟨ab,cb,rfl,_⟩:=hJ.b.rd;obtain⟨aq,cq,rfl,_⟩:=hJ.q.rd;have k3:=k2.below s;have s3:=s2.below s;have hS:=ko.ext s;have hR:=hW.below s;have kw:=ae s2.size;have ki:=hD.below s;clear kf ke kd hA k2 s2 h0 ko hW s hD
   go_wp2_with fail
   refine (qV _ e (aK H.dk N) _ _ _ k3).mono ?_;rintro r w4 ⟨rfl,k4,hv⟩;have s4:=s3.putB hv rfl rfl rfl;have hP:=hJ.keep k3.blk (by decide) (by decide) hv;have hQ:=hR.keep k3.blk (by decide) (by decide) hv;have hr:=aH hS k3.blk (by decide) hv;have hs:=aH kp k3.blk (by decide) hv;clear k3 s3 hJ hR hS kp hv ki;have kn:=k4.blk.cell;have kB:=k4.blk.free;unfold lG at kn;have hL:=hr.cell;have hM:=hs.cell;have n1:=wh k4.blk hr (by decide);have n2:=wh k4.blk hs (by decide);have n3:=wh hr hs (by decide);go_upto_region 9 with (fail)
   go_region
   refine TG (w:=w4.setCells b 7 [.slice au ps.length cu,.int .i64 ks]) (b:=b) (o:=5) (vs:=[.slice ab (dG H.dk N x.p).blocks.length cb,.slice aq (dG H.dk N x.p).queue.length cq]) (fun W=>Exit.then _ _ _ _ W) fun w6 hY kr => ?_;have km : -9223372036854775808≤ks∧ks≤9223372036854775807:=by
    have e1:ks=(dO H.ma.st x.f x.i).count:=by rw[←hN];rfl
    have e2:=h.ma.c64;have e3:H.ma.st.count=H.ct:=rfl;rcases Ip H.ma.st x.f x.i with e4|e4<;>rw[e1,e4]<;>omega
   have hK:=aB w4 b 7 [.slice au ps.length cu,.int .i64 ks];have kt:=k4.blk.setCells [.slice au ps.length cu,.int .i64 ks] 7;have k5:=k4.setS (hQ.mono h.bs) km kt hK;have s5:=s4.putB (H':={ H with ai:=au,ci:=cu,fi:=ps,ct:=ks }) hK rfl rfl rfl;have hO:=hP.keep k4.blk (by decide) (by decide) hK;have hT:=kr k5.blk;have k6:=k5.setD (hO.mono (aY h.bs kw.out)) hT hY;have s6:=s5.putB (H':={ H with ai:=au,ci:=cu,fi:=ps,ct:=ks,db:=ab,cdb:=cb,dq:=aq,cdq:=cq,dk:=dG H.dk N x.p }) hY rfl rfl rfl;clear kr hT hY k5 s5 hO kt hK km k4 s4 hP hQ kn kB hL hM hr hs;obtain⟨g7,off7,cur7,ku,k0,hZ,kz,kU,hU,kX,hV⟩:=k6.frame hf;have ky:g7=g∧off7=off:=by have:H.af=some ⟨g7,off7,none⟩:=ku;rw[h2] at this;simp only[iq,tK,and_true] at this;exact⟨this.1.symm,this.2.symm⟩
   obtain⟨rfl,rfl⟩:=ky;have kv:aD (MH.ma { H with ai:=au,ci:=cu,fi:=ps,ct:=ks,db:=ab,cdb:=cb,dq:=aq,cdq:=cq,dk:=dG H.dk N x.p }) f=x:=hg.out;rw[kv] at hU;have kj:=putAt_one (v:=.bool false) (j:=10) hU (by rw[iR];decide)
   go_wp2_with (refine aX rfl _ _ _ rfl g7 (off7+f*13+10) _ [.bool false] rfl rfl rfl _ _ hZ (by simp;omega) vg (fun u hu=>by cases bF.1 hu;rfl) ?_)
   intro w8 kD kl;have kq : aJ w8 g7 (dE cur7 (off7+f*13) (oO { x with d:=false })) 132:=by have e1:oO { x with d:=false }=(oO x).set 10 (.bool false):=rfl;rw[e1,kj];exact kD
   have k8:=hV w8 { x with d:=false } kq kl;have s8:=s6.put (H':={ H with ai:=au,ci:=cu,fi:=ps,ct:=ks,db:=ab,cdb:=cb,dq:=aq,cdq:=cq,dk:=dG H.dk N x.p,m:=⟨H.m.fs.set f { x with d:=false },H.m.hand⟩ }) kl (.inr (.inl (by show oB H.af=_;rw[h2];rfl))) fun y hy => .inl (zR rfl rfl rfl hy);go_wp2;go_ret;rw[hq.out,hl.out];refine⟨rfl,_,_,k8,s8,?_⟩;unfold MH.ma setFr;simp only[hN];rfl
  have hq:Hid (jM ⟨H.ma,e⟩ f=⟨H.ma,e⟩):=ae (by unfold jM;simp only[hg.out];rw[if_pos (.inr (.inr hE))]);have hl:Hid (iZ H.ma f=false):=ae (by unfold iZ;rw[hg.out];simp only[CG,decide_eq_false_iff_not,Bool.not_eq_false'];exact⟨⟨h1,hd⟩,hE⟩);go_wp2;go_ret;rw[hq.out,hl.out];exact⟨rfl,_,_,k2,s2,rfl⟩
def ni (s:St) (f i:Int):Prop:=(0≤f∧f<s.fs.length)∧0≤i∧i<(aI s f).b.length
theorem kH {x:Fi} (h:s.fs[F]?=some x):aI s F=x:=by
 unfold aI;rw[if_pos (by omega),bG,bJ,h];rfl
theorem wC {f:Int} (h:0≤f∧f<s.fs.length):s.fs[f.toNat]?=some (aI s f):=by
 unfold aI;rw[if_pos h.1,bJ,aN (by omega)];rfl
theorem oG {f i:Int} (h:ni s f i):(aI s f).b[i.toNat]?=some (bD s f i):=by
 unfold bD;rw[bJ,aN (by have:=h.2;omega)];rfl
theorem ug {f i:Int} (h:ni s f i):bD s f i∈iA s:=
 jq.2 ⟨_,dn (wC h.1),dn (oG h)⟩
theorem Js {x:Int} (h:x∈iA s):∃f i,ni s f i∧bD s f i=x:=by
 obtain⟨fi,h1,h2⟩:=jq.1 h;obtain⟨F,hF,rfl⟩:=jG.1 h1;obtain⟨I,hI,rfl⟩:=jG.1 h2;have hf:aI s F=s.fs[F]:=kH (aN hF);have a:ni s F I:=⟨by omega,by omega,by rw[hf];omega⟩;refine⟨F,I,a,?_⟩;have:=oG a;rw[hf,bG,aN hI] at this;exact (aT this).symm
theorem posB_inj:∀ {l:List Int} {I J:Nat} {v:Int},(lH l).Nodup→l[I]?=some v→l[J]?=some v→0≤v→I=J
 | [],_,_,_,_,h,_,_=>by simp at h
 | a::l,0,0,_,_,_,_,_=>rfl
 | a::l,0,J+1,v,hn,h1,h2,h0=>by simp only[qG,iq] at h1;subst h1;rw[GU h0] at hn;exact ((qK.1 hn).1 (iQ.2 ⟨dn (by simpa using h2:l[J]?=some a),h0⟩)).elim
 | a::l,I+1,0,v,hn,h1,h2,h0=>by simp only[qG,iq] at h2;subst h2;rw[GU h0] at hn;exact ((qK.1 hn).1 (iQ.2 ⟨dn (by simpa using h1:l[I]?=some a),h0⟩)).elim
 | a::l,I+1,J+1,v,hn,h1,h2,h0=>by
  have:(lH l).Nodup:=by have hs:(lH l).Sublist (lH (a::l)):=(List.sublist_cons_self a l).filter _;exact hn.sublist hs
  have h3:=posB_inj (I:=I) (J:=J) this (by simpa using h1) (by simpa using h2) h0;omega
theorem flat_inj:∀ {fs:List Fi} {F G I J:Nat} {x y:Fi} {v:Int},(lH (fs.flatMap Fi.b)).Nodup→fs[F]?=some x→fs[G]?=some y→x.b[I]?=some v→y.b[J]?=some v→0≤v→F=G∧I=J
 | [],_,_,_,_,_,_,_,_,h,_,_,_,_=>by simp at h
 | a::fs,F,G,I,J,x,y,v,hn,hF,hG,hI,hJ,h0=>by
  rw[pO,yX,xy] at hn;obtain⟨n1,n2,n3⟩:=hn;cases F with
  | zero=>
   simp only[qG,iq] at hF;subst hF;cases G with
   | zero=>
    simp only[qG,iq] at hG;subst hG;exact⟨rfl,posB_inj n1 hI hJ h0⟩
   | succ G=>
    exact absurd rfl (n3 v (iQ.2 ⟨dn hI,h0⟩) v (iQ.2 ⟨jq.2 ⟨y,dn (by simpa using hG),dn hJ⟩,h0⟩))
  | succ F=>
   cases G with
   | zero=>
    simp only[qG,iq] at hG;subst hG;exact absurd rfl (n3 v (iQ.2 ⟨dn hJ,h0⟩) v (iQ.2 ⟨jq.2 ⟨x,dn (by simpa using hF),dn hI⟩,h0⟩))
   | succ G=>
    obtain⟨e1,e2⟩:=flat_inj n2 (by simpa using hF) (by simpa using hG) hI hJ h0;exact⟨by omega,e2⟩
theorem LQ (h:aQ s=0) {f i g j:Int} (h1:ni s f i) (h2:ni s g j) (h0:0≤bD s f i) (he:bD s f i=bD s g j):f=g∧i=j:=by
 have hn:=(kZ.1 h).2.2;obtain⟨e1,e2⟩:=flat_inj hn (wC h1.1) (wC h2.1) (oG h1) (by rw[he];exact oG h2) h0;have:=h1.1;have:=h1.2;have:=h2.1;have:=h2.2;omega
theorem mE (h:aQ s=0) {f:Int} (hf:0≤f∧f<s.fs.length):Em s.count (aI s f):=(kZ.1 h).2.1 _ (dn (wC hf))
theorem block_lt (h:aQ s=0) {f i:Int} (hi:ni s f i) : -1≤bD s f i∧bD s f i<s.count:=
 (mE h hi.1).2.2.2 _ (dn (oG hi))
theorem AA (h:aQ s=0) {f i:Int} (hi:ni s f i):f<5∧i<12∧i*8<(aI s f).n∧(aI s f).n≤96:=by
 have h1:=(kZ.1 h).1;obtain⟨a1,a2,a3,_⟩:=mE h hi.1;have h2:=hi.1;have h3:=hi.2;rw[a3] at h3;unfold gG at h3;split at h3<;>omega
structure Blocked (s s' : St) (f i b:Int):Prop where
 right:aQ s' = 0
 count:s'.count=s.count
 len:s'.fs.length=s.fs.length
 size:∀g,(aI s' g).n=(aI s g).n
 lenb:∀g,(aI s' g).b.length=(aI s g).b.length
 at_:bD s' f i=b
 other:∀g j,0≤j→¬(g=f∧j=i)→bD s' g j=bD s g j
 b0:0≤b
 bc:b<s.count
 used:∀x,0≤x→(x∈iA s'↔x=b∨x∈iA s)
 was:(bD s f i=b∧s' = s)∨(bD s f i<0∧b ∉ iA s∧rP s' = rP s-1)
theorem ni.same {f i:Int} (h:ni s f i) (h1:s'.fs.length=s.fs.length) (h2:∀g,(aI s' g).b.length=(aI s g).b.length):ni s' f i:=⟨by rw[h1];exact h.1,by rw[h2];exact h.2⟩
theorem PG (h:aQ s=0) {f i:Int} (hi:ni s f i) (hb:0≤bD s f i∨0≤fA s):cB s f i=0:=by
 unfold cB;have h1:=hi.1;have h2:=hi.2;rw[if_neg (by rw[h];simp),if_neg (by omega),if_neg (by omega),if_neg (by omega)]
theorem blocked {f i:Int} (h:cB s f i=0):ni s f i∧Blocked s (dO s f i) f i (dW s f i):=by
 have ha:=Ka h;obtain⟨hw,F,I,x,v,rfl,rfl,hf,hv,t,m,hc⟩:=Bi h;have hF:=(dC.1 hf).1;have hI:=(dC.1 hv).1;have r:ni s F I:=⟨by omega,by omega,by rw[t];omega⟩;refine⟨r,?_⟩;have hb:=block_lt hw r;rcases hc with ⟨h0,hS,hN⟩|⟨hn,h0,hN,hS⟩
 ·rw[hS,hN];rw[m] at hb;exact⟨hw,rfl,rfl,fun _=>rfl,fun _=>rfl,m,fun _ _ _ _=>rfl,h0,hb.2,fun y _=>⟨.inr,fun h=>h.elim (fun e=>by rw[e,←m];exact ug r) id⟩,.inl ⟨m,rfl⟩⟩
 obtain⟨z,hu⟩:=EY h0;have w:=NU hu;have a:=ha.2.2.2.2;rw[m] at a;have a:rP (dO s F I)=rP s-1:=by
  rcases a with ⟨e,_⟩|⟨_,_,e⟩
  ·omega
  ·exact e
 have o:=ha.1;rw[hS] at o a;rw[hS,hN];generalize hs' : (⟨s.fs.set F ⟨x.n,x.b.set I (fA s)⟩,s.count⟩:St)=s' at *
 have k:∀g,aI s' g=if g=F then ⟨x.n,x.b.set I (fA s)⟩ else aI s g:=by
  intro g;rw[←hs'];unfold aI;simp only
  by_cases g0:0≤g
  ·rw[if_pos g0,if_pos g0,bJ,oh]
   by_cases e:g=F
   ·rw[if_pos e,if_pos (by omega),if_pos (by omega)];rfl
   ·rw[if_neg e,if_neg (by omega),bJ]
  ·rw[if_neg g0,if_neg g0,if_neg (by omega)]
 have p:s'.fs.length=s.fs.length:=by rw[←hs'];exact cO
 have d:∀g,(aI s' g).b.length=(aI s g).b.length:=by
  intro g;rw[k]
  by_cases e:g=F
  ·rw[if_pos e,e,t];exact cO
  ·rw[if_neg e]
 have u:bD s' F I=fA s:=by unfold bD;rw[k,if_pos rfl,bG,bJ,uZ hI];rfl
 have q:∀g j,0≤j→¬(g=(F:Int)∧j=(I:Int))→bD s' g j=bD s g j:=by
  intro g j hj hd;unfold bD;rw[k]
  by_cases e:g=F
  ·rw[if_pos e,e,t];simp only;rw[bJ,sG (by omega),bJ]
  ·rw[if_neg e]
 refine⟨o,by rw[←hs'],p,fun g => ?_,d,u,q,h0,z,fun y hy => ?_,.inr ⟨by rw[m];exact hn,w,a⟩⟩
 ·rw[k]
  by_cases e:g=F
  ·rw[if_pos e,e,t]
  ·rw[if_neg e]
 constructor
 ·intro hm;obtain⟨g,j,c,l⟩:=Js hm
  by_cases e:g=(F:Int)∧j=(I:Int)
  ·rw[e.1,e.2,u] at l;exact .inl l.symm
  rw[q g j c.2.1 e] at l;refine .inr ?_;rw[←l];exact ug ⟨by rw[←p];exact c.1,by rw[←d];exact c.2⟩
 rintro (e|hm)
 ·rw[e,←u];exact ug (r.same p d)
 obtain⟨g,j,c,l⟩:=Js hm;have e:¬(g=(F:Int)∧j=(I:Int)):=by rintro⟨e1,e2⟩;rw[e1,e2,m] at l;omega
 rw[←l,←q g j c.2.1 e];exact ug (c.same p d)
def dQ (m:Ma) (p:Nat) (n:Int):Option Pg:=onA (bE m p).ar n
def CL (a b:Cc):Prop:=a.f<b.f∨a.f=b.f∧a.i<b.i
def MC (x:Fr) (g:Pg) (w:Bool):Prop:=
 (0≤x.f→x.f=g.fi∧x.i=g.pg)∧(g.sh=true→0≤x.f)∧(w=true→g.wr=true)∧(w=true→0≤x.f→g.sh=true)∧(w=true→x.f<0→x.r≤1)
structure UU (m:Ma) (g:Pg) (e:En):Prop where
 sw:e.k=2→e.n<m.sl.length∧g.sh=false
 lt:e.k=1→e.n<m.m.fs.length
 fr:e.k=1→MC (aD m e.n.toNat) g e.w
structure uu (m:Ma):Prop where
 file:∀c∈m.ca,ni m.st c.f c.i
 lt:∀c∈m.ca,0≤c.k∧c.k<m.m.fs.length
 fr:∀c∈m.ca,1≤(aD m c.k.toNat).r∧(aD m c.k.toNat).f=c.f∧(aD m c.k.toNat).i=c.i
 srt:m.ca.Pairwise CL
def tO (m:Ma) (i:Int):Nat:=m.ca.countP fun c=>decide (c.k=i)
structure Rt (m:Ma):Prop where
 pt:Pt m
 trim:(∀b:Int,0≤b→b<m.dk.blocks.length→b∈iA m.st∨m.dk.blocks.getD b.toNat zPg=zPg)∧∀q∈m.dk.queue,q.1∈iA m.st
 live:∀p,(bE m p).lv=false→(bE m p).ar=[]∧∀n,(aF m p n).k=0
 ca:uu m
 en:∀p n,(aF m p n).k≠0→∃g,dQ m p n=some g∧UU m g (aF m p n)
 cf:∀i:Nat,i<m.m.fs.length→(aD m i).r=tO m i+bN m 1 i
 fc:∀i:Nat,i<m.m.fs.length→0≤(aD m i).f→∃c∈m.ca,c.k=i
 cs:∀s:Nat,s<m.sl.length→iI m s=bN m 2 s
structure Co (m:Ma):Prop where
 tail:∀c∈m.ca,dm (aD m c.k.toNat).p ((aI m.st c.f).n-c.i*8)=(aD m c.k.toNat).p
 clean:∀c∈m.ca,(aD m c.k.toNat).d=false→(aD m c.k.toNat).p=dF m c.f c.i
 anon:∀i:Nat,i<m.m.fs.length→(aD m i).d=true→0≤(aD m i).f
def iO (m:Ma) (p:Nat) (n:Int):Page × Bool × Int:=
 match dQ m p n with
 | none=>(zPg,false,5)
 | some g=>
  if (aF m p n).k=1 then ((gL m (aF m p n).n).p,decide ((gL m (aF m p n).n).f<0),0)
  else if (aF m p n).k=2 then (dP m.sw (aF m p n).n,true,aK m.sw (aF m p n).n)
  else if g.fi<0 then (zPg,false,0)
  else if (m.st.fs.length:Int)≤g.fi∨nZ m.st g.fi g.pg=true then (zPg,false,9)
  else (aR m g.fi g.pg,false,0)
structure EG (m m' : Ma):Prop where
 sk:fE m m'
 files:m'.st.fs.length=m.st.fs.length
 size:∀f,(aI m'.st f).n=(aI m.st f).n
 lenb:∀f,(aI m'.st f).b.length=(aI m.st f).b.length
 see:∀p n,iO m' p n=iO m p n
 con:∀f i,ni m.st f i→aR m' f i=aR m f i
theorem EG.refl (m:Ma):EG m m:=⟨.refl m,rfl,fun _=>rfl,fun _=>rfl,fun _ _=>rfl,fun _ _ _=>rfl⟩
theorem EG.trans {a b c:Ma} (h:EG a b) (k:EG b c):EG a c:=
 ⟨h.sk.trans k.sk,k.files.trans h.files,fun f=>(k.size f).trans (h.size f),fun f=>(k.lenb f).trans (h.lenb f),fun p n=>(k.see p n).trans (h.see p n),fun f i hi=>(k.con f i (hi.same h.files h.lenb)).trans (h.con f i hi)⟩
theorem Gs (a:Cc):¬CL a a:=fun h=>by unfold CL at h;omega
theorem srt_eq:∀ {l:List Cc},l.Pairwise CL→∀ {a b:Cc},a∈l→b∈l→a.f=b.f→a.i=b.i→a=b
 | [],_,_,_,h,_,_,_=>by cases h
 | c::l,hs,a,b,ha,hb,e1,e2=>by
  obtain⟨h1,h2⟩:=sJ.1 hs;rcases eT.1 ha with e|ha<;>rcases eT.1 hb with e' | hb
  ·rw[e,e']
  ·have:=h1 b hb;rw[e] at e1 e2;unfold CL at this;omega
  ·have:=h1 a ha;rw[e'] at e1 e2;unfold CL at this;omega
  ·exact srt_eq h2 ha hb e1 e2
theorem uu.uniq (h:uu m) {a b:Cc} (ha:a∈m.ca) (hb:b∈m.ca) (hk:a.k=b.k):a=b:=by
 have h1:=h.fr a ha;have h2:=h.fr b hb;rw[hk] at h1;exact srt_eq h.srt ha hb (h1.2.1.symm.trans h2.2.1) (h1.2.2.symm.trans h2.2.2)
theorem Aj {k:Int}:∀ {l:List Cc},l.Pairwise CL→(∀a∈l,∀b∈l,a.k=b.k→a=b)→l.countP (fun c=>decide (c.k=k))≤1
 | [],_,_=>bK _
 | c::l,hs,hu=>by
  obtain⟨h1,h2⟩:=sJ.1 hs;have ih:=Aj (k:=k) h2 (fun a ha b hb=>hu a (iM _ ha) b (iM _ hb));rw[qg]
  by_cases hc:c.k=k
  ·rw[if_pos (by simpa using hc)];have:l.countP (fun c=>decide (c.k=k))=0:=by rw[rY];intro d hd hdk;have e:=hu c jh d (iM _ hd) (by rw[hc];exact (of_decide_eq_true hdk).symm);have:=h1 d hd;rw[←e] at this;exact Gs _ this
   omega
  ·rw[if_neg (by simpa using hc)];omega
theorem uu.one (h:uu m) {c:Cc} (hc:c∈m.ca):tO m c.k=1:=by
 have h1:=Aj (k:=c.k) h.srt (fun a ha b hb=>h.uniq ha hb);have h2:0<m.ca.countP (fun d=>decide (d.k=c.k)):=xI.2 ⟨c,hc,by simp⟩;unfold tO;omega
theorem uu.none {i:Int} (h:∀c∈m.ca,c.k≠i):tO m i=0:=by
 unfold tO;rw[rY];intro c hc hk;exact h c hc (of_decide_eq_true hk)
theorem yK {f i:Int} {c:Cc}:EN f i c=true↔f<c.f∨c.f=f∧i≤c.i:=by unfold EN;simp
theorem CV (l:List Cc) (f i:Int):tQ l f i≤l.length:=by
 unfold tQ;cases h:l.findIdx? (EN f i) with
 | none=>exact az _
 | some k=>exact xh (tL.1 h).1
theorem Gv {l:List Cc} (hs:l.Pairwise CL) {f i:Int}:Gq l f i=true↔∃c∈l,c.f=f∧c.i=i:=by
 unfold Gq;constructor
 ·intro h;cases hc:l[tQ l f i]? with
  | none=>rw[hc] at h;cases h
  | some c=>
   rw[hc] at h;simp only[dA,decide_eq_true_eq] at h;exact⟨c,dn hc,h⟩
 rintro⟨c,hc,h1,h2⟩;obtain⟨j,hj,rfl⟩:=jG.1 hc;unfold tQ;cases h:l.findIdx? (EN f i) with
 | none=>
  have:=wZ.1 h _ hc;rw[FZ] at this;exact absurd (yK.2 (.inr ⟨h1,by omega⟩)) this
 | some k=>
  obtain⟨hk,hg,b⟩:=tL.1 h;have d:¬j<k:=fun a=>b j a (yK.2 (.inr ⟨h1,by omega⟩));have hg:=yK.1 hg;have:k=j:=by
   rcases fM k j with a|hge
   ·have:=BN.1 hs k j hk hj a;unfold CL at this;omega
   ·omega
  subst this;simp only[rZ,aN hk,h1,h2,decide_true,Bool.and_self]
theorem EB {l:List Cc} {f i:Int} (h:Gq l f i=true):∃c,l[tQ l f i]?=some c∧c.f=f∧c.i=i:=by
 unfold Gq at h;cases hc:l[tQ l f i]? with
 | none=>rw[hc] at h;cases h
 | some c=>
  rw[hc] at h;simp only[dA,decide_eq_true_eq] at h;exact⟨c,rfl,h⟩
def nV (m:Ma) (f i:Int):Option Cc:=m.ca.find? fun c=>decide (c.f=f)&&decide (c.i=i)
theorem Pq (h:uu m) {c:Cc} (hc:c∈m.ca):nV m c.f c.i=some c:=by
 cases hl:nV m c.f c.i with
 | none=>
  have:=pW.1 hl c hc;simp at this
 | some d=>
  have h1:=rX hl;simp only[dA,decide_eq_true_eq] at h1;rw[srt_eq h.srt (uG hl) hc h1.1 h1.2]
theorem OG {f i:Int} (h:∀c∈m.ca,¬(c.f=f∧c.i=i)):nV m f i=none:=by
 unfold nV;rw[pW];intro c hc hk;simp only[dA,decide_eq_true_eq] at hk;exact h c hc hk
theorem kL (m:Ma) (f i:Int):(∃c,nV m f i=some c∧c∈m.ca∧c.f=f∧c.i=i)∨(nV m f i=none∧∀c∈m.ca,¬(c.f=f∧c.i=i)):=by
 cases hl:nV m f i with
 | none=>
  refine .inr ⟨rfl,fun c hc hk => ?_⟩;have:=pW.1 hl c hc;simp only[dA,decide_eq_true_eq] at this;exact this hk
 | some d=>
  have h1:=rX hl;simp only[dA,decide_eq_true_eq] at h1;exact .inl ⟨d,rfl,uG hl,h1⟩
theorem jF (m:Ma) (f i:Int):aR m f i=match nV m f i with
  | some c=>(gL m c.k).p
  | none=>dF m f i:=rfl
theorem eG (h:uu m) {c:Cc} (hc:c∈m.ca):aR m c.f c.i=(aD m c.k.toNat).p:=by
 rw[jF,Pq h hc];rfl
theorem eu {f i:Int} (h:∀c∈m.ca,¬(c.f=f∧c.i=i)):aR m f i=dF m f i:=by
 rw[jF,OG h]
theorem vW (k:Nat):gL m (k:Int)=aD m k:=rfl
theorem zQ {l:List Ar} (h:0≤eQ l n):onA l n=some (vQ (l.getD (eQ l n).toNat zAr) n)∧uT n (l.getD (eQ l n).toNat zAr)=true:=by
 induction l with
 | nil=>unfold eQ idx at h;simp at h
 | cons a r ih=>
  rw[jD]
  by_cases ha:uT n a=true
  ·have h0:eQ (a::r) n=0:=by unfold eQ idx;rw[zM,if_pos ha];rfl
   rw[h0,if_pos ha];exact⟨rfl,ha⟩
  have h1:eQ (a::r) n=if 0≤eQ r n then eQ r n+1 else -1:=by
   unfold eQ idx;rw[zM,if_neg ha];cases r.findIdx? (uT n) with
   | none=>rfl
   | some k=>
    simp only[xk];rw[if_pos (by omega)];rfl
  rw[if_neg ha]
  by_cases h2:0≤eQ r n
  ·rw[h1,if_pos h2];have e:(eQ r n+1).toNat=(eQ r n).toNat+1:=by omega
   rw[e];exact ih h2
  rw[h1,if_neg h2] at h;omega
def uo (m:Ma) (g:Pg) (e:En):Page × Bool × Int:=
 if e.k=1 then ((gL m e.n).p,decide ((gL m e.n).f<0),0)
 else if e.k=2 then (dP m.sw e.n,true,aK m.sw e.n)
 else if g.fi<0 then (zPg,false,0)
 else if (m.st.fs.length:Int)≤g.fi∨nZ m.st g.fi g.pg=true then (zPg,false,9)
 else (aR m g.fi g.pg,false,0)
theorem iL (h:dQ m p n=some g):iO m p n=uo m g (aF m p n):=by
 unfold iO;rw[h];rfl
theorem oM (h:dQ m p n=none):iO m p n=(zPg,false,5):=by
 unfold iO;rw[h]
theorem pg_in:∀ {l:List Ar} {lo:Int} {n:Int} {g:Pg},srtF lo l→onA l n=some g→0≤g.pg∧g.pg<12∧-1≤g.fi∧g.fi<5∧(g.fi<0→g.sh=false∧g.pg=0)∧0≤n∧n<64
 | [],_,_,_,_,h=>by cases h
 | a::r,lo,n,g,hs,h=>by
  rw[jD] at h
  by_cases ha:uT n a=true
  ·rw[if_pos ha] at h;have h1:=qI.1 ha;have h2:=hs.1;unfold dx at h2;split at h2
   ·cases h2
   split at h2
   ·cases h2
   rename_i h3 h4;cases h;unfold vQ;simp only;have h5:¬(a.fi<0∧(a.ba≠0∨a.sh=true)):=fun h=>h4 (.inl h);have h6:¬(0≤a.fi∧12-(a.en-a.fr)<a.ba):=fun h=>h4 (.inr h);refine⟨?_,?_,by omega,by omega,fun h7=>⟨?_,if_neg (by omega)⟩,by omega,by omega⟩
   ·split<;>omega
   ·split<;>omega
   cases hsh:a.sh with
   | false=>rfl
   | true=>exact absurd ⟨h7,.inr hsh⟩ h5
  rw[if_neg ha] at h;exact pg_in hs.2.2 h
theorem Pt.pg (h:Pt m) (hg:dQ m p n=some g):0≤g.pg∧g.pg<12∧-1≤g.fi∧g.fi<5∧(g.fi<0→g.sh=false∧g.pg=0)∧0≤n∧n<64:=
 pg_in (Ee (ou.1 (h.arN p)).2) hg
theorem CK (h:aQ s=0) {f i:Int} (hf:0≤f) (hi:0≤i) (hn:¬((s.fs.length:Int)≤f∨nZ s f i=true)):ni s f i:=by
 have h1:¬(s.fs.length:Int)≤f:=fun h=>hn (.inl h);have h2:¬nZ s f i=true:=fun h=>hn (.inr h);have h3:=(mE h (f:=f) (by omega)).2.2.1;refine⟨by omega,hi,?_⟩;rw[h3];unfold nZ at h2;simpa using h2
theorem oF (h:aQ s=0) {f i:Int} (hi:ni s f i):¬((s.fs.length:Int)≤f∨nZ s f i=true):=by
 have h3:=(mE h hi.1).2.2.1;have h4:=hi.1;have h5:=hi.2;rintro (h|h)
 ·omega
 unfold nZ at h;have:=of_decide_eq_true h;omega
structure lm (s s' : St):Prop where
 len:s'.fs.length=s.fs.length
 size:∀f,(aI s' f).n=(aI s f).n
 lenb:∀f,(aI s' f).b.length=(aI s f).b.length
theorem lm.refl (s:St):lm s s:=⟨rfl,fun _=>rfl,fun _=>rfl⟩
theorem lm.of (h:s' = s):lm s s':=by subst h;exact .refl _
theorem Pb (h:lm s s') (f i:Int):nZ s' f i=nZ s f i:=by unfold nZ;rw[h.size]
theorem oW {e:En} (hw:aQ m.st=0) (hg:0≤g.pg) (hf:lm m.st m'.st) (hc:∀f i,ni m.st f i→aR m' f i=aR m f i)
 (h1:e.k=1→(gL m' e.n).p=(gL m e.n).p∧(gL m' e.n).f=(gL m e.n).f) (h2:e.k=2→dP m'.sw e.n=dP m.sw e.n∧aK m'.sw e.n=aK m.sw e.n):uo m' g e=uo m g e:=by
 unfold uo
 by_cases k1:e.k=1
 ·rw[if_pos k1,if_pos k1,(h1 k1).1,(h1 k1).2]
 rw[if_neg k1,if_neg k1]
 by_cases k2:e.k=2
 ·rw[if_pos k2,if_pos k2,(h2 k2).1,(h2 k2).2]
 rw[if_neg k2,if_neg k2,hf.len,Pb hf]
 by_cases g0:g.fi<0
 ·rw[if_pos g0,if_pos g0]
 rw[if_neg g0,if_neg g0]
 by_cases he:(m.st.fs.length:Int)≤g.fi∨nZ m.st g.fi g.pg=true
 ·rw[if_pos he,if_pos he]
 ·rw[if_neg he,if_neg he,hc _ _ (CK hw (by omega) hg he)]
theorem CS (h:Pt m) (sk:fE m m') (hf:lm m.st m'.st) (hc:∀f i,ni m.st f i→aR m' f i=aR m f i)
 (hs:∀p n g,dQ m p n=some g→uo m' g (aF m' p n)=uo m g (aF m p n)):EG m m':=by
 refine⟨sk,hf.len,hf.size,hf.lenb,fun p n => ?_,hc⟩;have hp:dQ m' p n=dQ m p n:=by unfold dQ;rw[sk.ar]
 cases hg:dQ m p n with
 | none=>rw[oM hg,oM (hp.trans hg)]
 | some g=>rw[iL hg,iL (hp.trans hg)];exact hs p n g hg
theorem OQ {x:Fr} (h:bU x=0):bU { x with d:=false }=0:=by
 rw[dJ] at h ⊢;exact⟨h.1,fun h0=>⟨(h.2.1 h0).1,rfl,(h.2.1 h0).2.2.1,(h.2.1 h0).2.2.2⟩,h.2.2⟩
theorem Td {x:Int × Page} {b:Int} (h0:0≤b) (hq:∀q∈d.queue,q.1≠b∧0≤q.1):(ja d x).blocks.getD b.toNat zPg=d.blocks.getD b.toNat zPg:=by
 unfold ja;cases hd:d.queue with
 | nil=>rfl
 | cons q r=>
  simp only;split
  ·have:=hq q (by rw[hd];exact jh);rw[bJ,sG (by omega),bJ]
  ·rfl
theorem TE {x q:Int × Page} (h:q∈(ja d x).queue):q∈d.queue∨q=x:=by
 unfold ja at h;cases hd:d.queue with
 | nil=>rw[hd] at h;simp at h;exact .inr h
 | cons a r=>
  rw[hd] at h;simp only at h;split at h
  ·rcases iN.1 h with h|h
   ·exact .inl (iM _ h)
   ·exact .inr (bF.1 h)
  rcases iN.1 h with h|h
  ·exact .inl h
  ·exact .inr (bF.1 h)
def ib (m:Ma) (f:Nat):Ma:=
 let x:=aD m f
 setFr { m with st:=dO m.st x.f x.i,dk:=ja m.dk (dW m.st x.f x.i,x.p) } f { x with d:=false }
theorem IZ {k:Kp} (h:Rt k.m) (hf:f<k.m.m.fs.length):jM k f=if (aD k.m f).f<0∨(aD k.m f).d=false∨cB k.m.st (aD k.m f).f (aD k.m f).i≠0 then k else ⟨ib k.m f,k.e⟩:=by
 unfold jM
 by_cases hc:(aD k.m f).f<0∨(aD k.m f).d=false∨cB k.m.st (aD k.m f).f (aD k.m f).i≠0
 ·simp only[if_pos hc]
 have hb:cB k.m.st (aD k.m f).f (aD k.m f).i=0:=by
  by_cases e:cB k.m.st (aD k.m f).f (aD k.m f).i=0
  ·exact e
  ·exact absurd (.inr (.inr e)) hc
 have hB:=(blocked hb).2;have a:aK k.m.dk (dW k.m.st (aD k.m f).f (aD k.m f).i)=0:=iV.2 ⟨h.pt.dk,hB.b0,by rw[h.pt.dkl];exact hB.bc⟩;simp only[if_neg hc];unfold ib dG;rw[a];simp only[iK,if_true];congr 1;split<;>simp_all
structure Cleaned (m m' : Ma) (f:Nat):Prop where
 rt:Rt m'
 co:Co m'
 vis:EG m m'
 sl:m'.sl=m.sl
 sw:m'.sw=m.sw
 ca:m'.ca=m.ca
 sp:m'.sp=m.sp
 fs:m'.m=(setFr m f { aD m f with d:=false }).m
theorem EZ (h:Rt m) (hc:Co m) (hf:f<m.m.fs.length) (h0:0≤(aD m f).f) (hb:cB m.st (aD m f).f (aD m f).i=0):Cleaned m (ib m f) f:=by
 obtain⟨hF,hB⟩:=blocked hb;obtain⟨c,v,hp⟩:=h.fc f hf h0;have l:=h.ca.fr c v;rw[hp,bG] at l;have hD:aK m.dk (dW m.st (aD m f).f (aD m f).i)=0:=iV.2 ⟨h.pt.dk,hB.b0,by rw[h.pt.dkl];exact hB.bc⟩;have z:dW m.st (aD m f).f (aD m f).i<m.dk.blocks.length:=by rw[h.pt.dkl];exact hB.bc
 have hj:∀g,aD (ib m f) g=if g=f then { aD m f with d:=false } else aD m g:=fun g=>fK (m:={ m with st:=dO m.st (aD m f).f (aD m f).i,dk:=ja m.dk (dW m.st (aD m f).f (aD m f).i,(aD m f).p) }) (x:={ aD m f with d:=false }) hf g;have a:∀g,(aD (ib m f) g).p=(aD m g).p∧(aD (ib m f) g).f=(aD m g).f∧(aD (ib m f) g).i=(aD m g).i∧(aD (ib m f) g).r=(aD m g).r:=by
  intro g;rw[hj]
  by_cases e:g=f
  ·rw[if_pos e,e];exact⟨rfl,rfl,rfl,rfl⟩
  ·rw[if_neg e];exact⟨rfl,rfl,rfl,rfl⟩
 have o:(ib m f).m.fs.length=m.m.fs.length:=cO;have s:lm m.st (ib m f).st:=⟨hB.len,hB.size,hB.lenb⟩;have w:∀p n,aF (ib m f) p n=aF m p n:=fun _ _=>rfl;have hz:∀g j,ni m.st g j→¬(g=(aD m f).f∧j=(aD m f).i)→dF (ib m f) g j=dF m g j:=by
  intro g j t hx;have hs:bD (ib m f).st g j=bD m.st g j:=hB.other g j t.2.1 hx;unfold dF;rw[hs,hB.size g |> (fun e=>show (aI (ib m f).st g).n=(aI m.st g).n from e)]
  by_cases hb0:0≤bD m.st g j
  ·rw[if_pos hb0,if_pos hb0];congr 1;show dP (ja m.dk _) _=_;rw[wV h.pt.dk hB.b0 z,if_neg];rintro⟨_,e⟩;simp only at e;rcases hB.was with ⟨hw,_⟩|⟨_,hn,_⟩
   ·exact hx (LQ h.pt.st t hF (by omega) (by omega))
   ·exact hn (by rw[e];exact ug t)
  ·rw[if_neg hb0,if_neg hb0]
 have hv:dF (ib m f) (aD m f).f (aD m f).i=(aD m f).p:=by have hs:bD (ib m f).st (aD m f).f (aD m f).i=dW m.st (aD m f).f (aD m f).i:=hB.at_;have ht:=hc.tail c v;rw[hp,bG,←l.2.1,←l.2.2] at ht;unfold dF;rw[hs,if_pos hB.b0,show (aI (ib m f).st (aD m f).f).n=(aI m.st (aD m f).f).n from hB.size _];show dm (dP (ja m.dk _) _) _=_;rw[wV h.pt.dk hB.b0 z,if_pos ⟨hD,rfl⟩];exact ht
 have y:∀g j,ni m.st g j→aR (ib m f) g j=aR m g j:=by
  intro g j t;have hl:nV (ib m f) g j=nV m g j:=rfl;rw[jF,jF,hl];rcases kL m g j with ⟨d,hd,hdm,_⟩|⟨hd,hno⟩
  ·rw[hd];exact (a d.k.toNat).1
  rw[hd];exact hz g j t fun e=>hno c v ⟨by rw[e.1];exact l.2.1.symm,by rw[e.2];exact l.2.2.symm⟩
 have hE:Pt (ib m f):=by have hd:cK (ja m.dk (dW m.st (aD m f).f (aD m f).i,(aD m f).p))=0:=yx h.pt.dk hB.b0 z;exact { fr:=Ij h.pt.fr (OQ (h.pt.frE hf)),sl:=h.pt.sl,sw:=h.pt.sw,dk:=hd,st:=hB.right,swl:=h.pt.swl,dkl:=by show ((ja m.dk _).blocks.length:Int)=_;rw[wU,h.pt.dkl];exact hB.count.symm,spl:=h.pt.spl,ar:=h.pt.ar,tb:=h.pt.tb }
 have hr:uu (ib m f):=⟨fun d hd=>(h.ca.file d hd).same hB.len hB.lenb,fun d hd=>by rw[o];exact h.ca.lt d hd,fun d hd=>by have:=a d.k.toNat;rw[this.2.1,this.2.2.1,this.2.2.2];exact h.ca.fr d hd,h.ca.srt⟩;refine⟨⟨hE,⟨fun b hb0 hG => ?_,fun q hq => ?_⟩,h.live,hr,fun p n hk => ?_,fun i hi => ?_,fun i hi hy => ?_,h.cs⟩,⟨fun d hd => ?_,fun d hd hA => ?_,fun i hi hh => ?_⟩,?_,rfl,rfl,rfl,rfl,rfl⟩
 ·have hC : b<m.dk.blocks.length:=by have:((ib m f).dk.blocks.length)=m.dk.blocks.length:=wU _ _;omega
  by_cases hu:b∈iA m.st
  ·exact .inl ((hB.used b hb0).2 (.inr hu))
  by_cases e:b=dW m.st (aD m f).f (aD m f).i
  ·exact .inl ((hB.used b hb0).2 (.inl e))
  refine .inr ?_;show (ja m.dk _).blocks.getD b.toNat zPg=zPg;rw[Td hb0 (fun q hq=>⟨fun e=>hu (by rw[←e];exact h.trim.2 q hq),((kz _).1 h.pt.dk).2.2 q hq |>.1⟩)];exact (h.trim.1 b hb0 hC).resolve_left hu
 ·rcases TE hq with hq|rfl
  ·exact (hB.used _ (((kz _).1 h.pt.dk).2.2 q hq).1).2 (.inr (h.trim.2 q hq))
  ·exact (hB.used _ hB.b0).2 (.inl rfl)
 ·obtain⟨g,hg,u⟩:=h.en p n hk;refine⟨g,hg,u.sw,fun ha=>by rw[o];exact u.lt ha,fun ha => ?_⟩;have h1:=u.fr ha;have h2:=a (aF m p n).n.toNat;unfold MC at h1 ⊢;rw[w,h2.2.1,h2.2.2.1,h2.2.2.2];exact h1
 ·rw[(a i).2.2.2];exact h.cf i (by rw[←o];exact hi)
 ·rw[(a i).2.1] at hy;exact h.fc i (by rw[←o];exact hi) hy
 ·rw[(a d.k.toNat).1,show (aI (ib m f).st d.f).n=(aI m.st d.f).n from hB.size _];exact hc.tail d hd
 ·by_cases e:d.k.toNat=f
  ·have hm:d=c:=h.ca.uniq hd v (by have:=h.ca.lt d hd;omega);subst hm;rw[(a d.k.toNat).1,e];rw[←l.2.1,←l.2.2];exact hv.symm
  rw[hj,if_neg e] at hA;rw[(a d.k.toNat).1,hc.clean d hd hA];refine (hz d.f d.i (h.ca.file d hd) fun e2=>e ?_).symm;have hm:d=c:=srt_eq h.ca.srt hd v (by rw[e2.1];exact l.2.1) (by rw[e2.2];exact l.2.2);rw[hm,hp];exact bG f
 ·rw[(a i).2.1];rw[hj] at hh
  by_cases e:i=f
  ·rw[e];exact h0
  ·rw[if_neg e] at hh;exact hc.anon i (by rw[←o];exact hi) hh
 refine CS h.pt (fE.of rfl) s y fun p n g hg => ?_;rw[w];exact oW h.pt.st (h.pt.pg hg).1 s y (fun _=>⟨(a _).1,(a _).2.1⟩) (fun _=>⟨rfl,rfl⟩)
theorem qm (n:Int):dB zTb n=zEn:=by
 by_cases h:0≤n∧n<64
 ·obtain⟨q,r,hq,hr,rfl,_,_⟩:=xD h;exact FJ hq hr (by simp[zTb])
 ·exact rF (by omega)
theorem tu (h:m'.m=m.m) (g:Nat):aD m' g=aD m g:=by unfold aD;rw[h]
theorem kE (h:(aF m p n).k≠0):p<m.sp.length∧0≤n∧n<64:=by
 refine⟨?_,?_⟩
 ·rcases fM p m.sp.length with hp|hp
  ·exact hp
  refine absurd ?_ h;unfold aF;rw[qo hp,show zSp.tb=zTb from rfl,qm];rfl
 by_cases hn:n<0∨64≤n
 ·exact absurd (by rw[zS p hn];rfl) h
 ·omega
theorem JA (k:Kp) (u:Nat × Int) (h1:(aF k.m u.1 u.2).k=1) (h2:(aF k.m u.1 u.2).n=f):iG k u.1 u.2=Uv f zEn k u:=by
 unfold iG Uv;have b : (dB (bE k.m u.1).tb u.2).k=1:=h1;have a : (dB (bE k.m u.1).tb u.2).n=f:=h2;simp only[b,a,if_true]
theorem Pj {k:Kp} (h:Rt k.m) (hc:Co k.m) (hf:f<k.m.m.fs.length) (h0:0≤(aD k.m f).f) (hb:iZ k.m f=true):∃m1,jM k f=⟨m1,k.e⟩∧Cleaned k.m m1 f:=by
 rw[IZ h hf]
 by_cases hd:(aD k.m f).d=false
 ·rw[if_pos (.inr (.inl hd))];refine⟨k.m,rfl,h,hc,.refl _,rfl,rfl,rfl,rfl,?_⟩;have:({ aD k.m f with d:=false }:Fr)=aD k.m f:=by rw[←hd]
  rw[this,Dq hf]
 have a:cB k.m.st (aD k.m f).f (aD k.m f).i=0:=by
  unfold iZ at hb;simp only[qY,decide_eq_true_eq,qh] at hb;rcases hb with (h1|h1)|h1
  ·omega
  ·exact absurd h1 hd
  ·exact h1
 rw[if_neg]
 ·exact⟨_,rfl,EZ h hc hf h0 a⟩
 rintro (h1|h1|h1)
 ·omega
 ·exact hd h1
 ·exact h1 a
structure uV (m m' : Ma) (f:Nat):Prop where
 rt:Rt m'
 co:Co m'
 vis:EG m m'
 len:m'.m.fs.length=m.m.fs.length
 hand:m'.m.hand=m.m.hand
 free:aD m' f=frZ
 oth:∀g,g≠f→aD m' g=aD m g
 sll:m'.sl.length=m.sl.length
 ents:∀p n,¬((aF m p n).k=1∧(aF m p n).n=f)→aF m' p n=aF m p n
 cas:∀c,c∈m'.ca↔c∈m.ca∧c.k≠f
 std:(m'.st=m.st∧m'.dk=m.dk)∨(0≤(aD m f).f∧(aD m f).d=true∧cB m.st (aD m f).f (aD m f).i=0∧m'.st=(ib m f).st∧m'.dk=(ib m f).dk)
theorem Qi {l:List Cc} (hs:l.Pairwise CL) {c:Cc} (hj:l[j]?=some c) (d:Cc):d∈l.eraseIdx j↔d∈l∧¬(d.f=c.f∧d.i=c.i):=by
 have b:=(dC.1 hj).1;have a:=(dC.1 hj).2;rw[List.mem_eraseIdx_iff_getElem];constructor
 ·rintro⟨i,hi,hne,rfl⟩;refine⟨eX _,fun e => ?_⟩;have:=srt_eq hs (eX hi) (dn hj) e.1 e.2;rcases zO hne with h1|h1
  ·have h2:=BN.1 hs i j hi b h1;rw[a,this] at h2;exact Gs _ h2
  have h2:=BN.1 hs j i b hi h1;rw[a,this] at h2;exact Gs _ h2
 rintro⟨hd,hne⟩;obtain⟨i,hi,rfl⟩:=jG.1 hd;exact⟨i,hi,fun e=>hne (by subst e;rw[a];exact⟨rfl,rfl⟩),rfl⟩
theorem yP {α:Type} (q:α→Bool):∀(l:List α) (j:Nat) (h:j<l.length),(l.eraseIdx j).countP q+sU (q l[j])=l.countP q
 | a::l,0,_=>by simp only[List.eraseIdx_cons_zero,Ck,qg,sU]
 | a::l,j+1,h=>by have:=yP q l j (by simpa using h);simp only[List.eraseIdx_cons_succ,Cj,qg];omega
structure XE (m M:Ma) (j:Nat) (d:Cc):Prop where
 rt:Rt M
 co:Co M
 sk:fE m M
 len:M.m.fs.length=m.m.fs.length
 hand:M.m.hand=m.m.hand
 sl:M.sl=m.sl
 sw:M.sw=m.sw
 dk:M.dk=m.dk
 st:M.st=m.st
 ca:M.ca=m.ca.eraseIdx j
 fr:∀g,aD M g=if g=d.k.toNat then frZ else aD m g
 cas:∀e,e∈M.ca↔e∈m.ca∧¬(e.f=d.f∧e.i=d.i)
 cak:∀e,e∈M.ca→e∈m.ca∧e.k.toNat≠d.k.toNat
 ents:∀p n,aF M p n=if (aF m p n).k=1∧(aF m p n).n=d.k then zEn else aF m p n
theorem Wl {k:Kp} (h:Rt k.m) (hc:Co k.m) {d:Cc} (hd:k.m.ca[j]?=some d):∃M,yM k j=⟨M,k.e⟩∧XE k.m M j d:=by
 have hb:=dn hd;have hR:=h.ca.lt d hb;obtain⟨f,hk⟩:∃f:Nat,d.k=f:=⟨d.k.toNat,by omega⟩;have hf:f<k.m.m.fs.length:=by omega
 have hP:=h.ca.fr d hb;rw[hk,bG] at hP;have hq:tO k.m f=1:=by rw[←hk];exact h.ca.one hb
 have hr:=h.cf f hf;rw[hq,←tY] at hr;have hv:=CE (f:=f) (e':=zEn) (by decide) (fun k u=>iG k u.1 u.2) JA (aZ k.m f) k h.pt (De k.m f) hf (by omega);obtain⟨r1,r2,r3,r4,r5,r6,r7⟩:=hv;have hG:(aZ k.m f).foldl (fun k u=>iG k u.1 u.2) k=kV k (aZ k.m f):=rfl;rw[hG] at r1 r2 r3 r4 r5 r6 r7;generalize hk2:kV k (aZ k.m f)=k2 at r1 r2 r3 r4 r5 r6 r7;have hy:gF (aD k.m f) (-((aZ k.m f).length:Int)) = { aD k.m f with r:=1 }:=by unfold gF;rw[if_neg (by omega)];congr 1;omega
 simp only[hy] at r5;have hQ:wz k.m j=d:=by unfold wz;rw[bJ,hd];rfl
 have hO:yM k j=dK ⟨{ k2.m with ca:=k2.m.ca.eraseIdx j },k2.e⟩ f (-1):=by unfold yM;simp only[hQ,hk,hk2]
 have hE:f<k2.m.m.fs.length:=by rw[r5,dw];exact hf
 have hj:aD k2.m f = { aD k.m f with r:=1 }:=by have:aD k2.m f=aD (setFr k.m f { aD k.m f with r:=1 }) f:=tu r5 f;rw[this,fK hf,if_pos rfl]
 have hw:∀g,g≠f→aD k2.m g=aD k.m g:=by intro g hg;have:aD k2.m g=aD (setFr k.m f { aD k.m f with r:=1 }) g:=tu r5 g;rw[this,fK hf,if_neg hg]
 have hC:Pt { k2.m with ca:=k2.m.ca.eraseIdx j }:={ fr:=r2.fr,sl:=r2.sl,sw:=r2.sw,dk:=r2.dk,st:=r2.st,swl:=r2.swl,dkl:=r2.dkl,spl:=r2.spl,ar:=r2.ar,tb:=r2.tb };obtain⟨e3,p3⟩:=wu (k:=⟨{ k2.m with ca:=k2.m.ca.eraseIdx j },k2.e⟩) (f:=f) (n:=-1) hC hE (by show (aD k2.m f).r≠0;rw[hj];show (1:Int)≠0;decide) (by show -(aD k2.m f).r≤-1;rw[hj];show -(1:Int)≤-1;decide) (by show -1≤1000-(aD k2.m f).r;rw[hj];show -1≤(1000:Int)-1;decide);have hz:gF (aD { k2.m with ca:=k2.m.ca.eraseIdx j } f) (-1)=frZ:=by show gF (aD k2.m f) (-1)=frZ;rw[hj];rfl
 rw[hz] at e3 p3;refine⟨_,hO.trans (e3.trans (by rw[r1])),?_⟩;generalize hM:setFr { k2.m with ca:=k2.m.ca.eraseIdx j } f frZ=M at p3 ⊢;have y:∀g,aD M g=if g=f then frZ else aD k.m g:=by
  intro g;rw[←hM,fK (m:={ k2.m with ca:=k2.m.ca.eraseIdx j }) hE]
  by_cases e:g=f
  ·rw[if_pos e,if_pos e]
  ·rw[if_neg e,if_neg e,←hw g e];rfl
 have b:M.m.fs.length=k.m.m.fs.length:=by rw[←hM,dw];show k2.m.m.fs.length=_;rw[r5,dw]
 have v:M.sl=k.m.sl:=by rw[←hM];exact r3.sl
 have hI:M.sw=k.m.sw:=by rw[←hM];exact r3.sw
 have w:M.dk=k.m.dk:=by rw[←hM];exact r3.dk
 have o:M.st=k.m.st:=by rw[←hM];exact r3.st
 have x:M.ca=k.m.ca.eraseIdx j:=by rw[←hM];show k2.m.ca.eraseIdx j=_;rw[r3.ca]
 have hL:=(dC.1 hd).1;have hl:fE k.m M:=by rw[←hM];exact r4.trans (fE.of rfl)
 have hx:∀p n,(p,n)∈aZ k.m f↔(aF k.m p n).k=1∧(aF k.m p n).n=f:=by
  intro p n;rw[um];constructor
  ·rintro⟨_,_,h3⟩;exact h3
  intro h3;have h4:=kE (m:=k.m) (p:=p) (n:=n) (by rw[h3.1];decide);exact⟨h4.1,h4.2,h3⟩
 have q:∀p n,aF M p n=if (aF k.m p n).k=1∧(aF k.m p n).n=f then zEn else aF k.m p n:=fun p n=>by
  have:aF M p n=if (p,n)∈aZ k.m f then zEn else aF k.m p n:=by rw[←hM];exact r6 p n
  rw[this];simp only[hx]
 have t:∀kd i,bN M kd i+(if kd=1∧i=f then (aZ k.m f).length else 0)=bN k.m kd i+(if kd=zEn.k∧i=zEn.n then (aZ k.m f).length else 0):=fun kd i=>by rw[←hM];exact r7 kd i
 have hh:∀e,e∈M.ca↔e∈k.m.ca∧¬(e.f=d.f∧e.i=d.i):=fun e=>by rw[x];exact Qi h.ca.srt hd e
 have a:∀e,e∈M.ca→e∈k.m.ca∧e.k.toNat≠f:=fun e he=>by have h1:=(hh e).1 he;refine⟨h1.1,fun h2=>h1.2 ?_⟩;have h3:=h.ca.uniq h1.1 hb (by have:=h.ca.lt e h1.1;omega);rw[h3];exact⟨rfl,rfl⟩
 have l:∀g,g≠f→aD M g=aD k.m g:=fun g hg=>by rw[y,if_neg hg]
 have hB:uu M:=⟨fun e he=>by rw[o];exact h.ca.file e (a e he).1,fun e he=>by rw[b];exact h.ca.lt e (a e he).1,
  fun e he=>by rw[l _ (a e he).2];exact h.ca.fr e (a e he).1,by rw[x];exact h.ca.srt.sublist (List.eraseIdx_sublist _ _)⟩
 have hA:∀g i,dF M g i=dF k.m g i:=fun g i=>by unfold dF;rw[o,w]
 refine⟨⟨p3,⟨?_,?_⟩,fun p hp => ?_,hB,fun p n z => ?_,fun i hi => ?_,fun i hi hn => ?_,fun s hs => ?_⟩,⟨fun e he => ?_,fun e he hF => ?_,fun i hi hm => ?_⟩,hl,b,?_,v,hI,w,o,x,by rw[hk,bG];exact y,hh,by rw[hk,bG];exact a,by rw[hk];exact q⟩
 ·rw[w,o];exact h.trim.1
 ·rw[w,o];exact h.trim.2
 ·rw[hl.lv] at hp;have h1:=h.live p hp;rw[hl.ar];refine⟨h1.1,fun n => ?_⟩;rw[q]
  by_cases hu:(aF k.m p n).k=1∧(aF k.m p n).n=f
  ·rw[if_pos hu];rfl
  ·rw[if_neg hu];exact h1.2 n
 ·rw[q] at z ⊢
  by_cases hu:(aF k.m p n).k=1∧(aF k.m p n).n=f
  ·rw[if_pos hu] at z; exact absurd rfl z
  rw[if_neg hu] at z ⊢;obtain⟨g,hg,ha⟩:=h.en p n z;refine⟨g,by unfold dQ;rw[hl.ar];exact hg,by rw[v];exact ha.sw,by rw[b];exact ha.lt,fun hD => ?_⟩;have hK:(aF k.m p n).n.toNat≠f:=by intro e;have h5:=((cz _).1 (jL h.pt p n));exact hu ⟨hD,by omega⟩
  rw[y,if_neg hK];exact ha.fr hD
 ·have a1:=t 1 i;have hJ:¬((1:Int)=zEn.k∧(i:Int)=zEn.n):=fun e=>by cases e.1
  rw[if_neg hJ] at a1;have a2:=yP (fun c=>decide (c.k=(i:Int))) k.m.ca j hL;have hN:=(dC.1 hd).2;rw[hN] at a2;have a3:tO M i=(k.m.ca.eraseIdx j).countP (fun c=>decide (c.k=(i:Int))):=by unfold tO;rw[x]
  by_cases e:i=f
  ·subst e;rw[if_pos ⟨rfl,rfl⟩] at a1;have a4:sU (decide (d.k=(i:Int)))=1:=by rw[hk];simp[sU]
   have a5:k.m.ca.countP (fun c=>decide (c.k=(i:Int)))=1:=hq;rw[tY] at a1;rw[y,if_pos rfl,a3];show (0:Int)=_;omega
  rw[if_neg (fun h'=>e (by have:=h'.2;omega))] at a1;have a4:sU (decide (d.k=(i:Int)))=0:=by unfold sU;rw[if_neg];simp only[decide_eq_true_eq,hk];omega
  have a5:=h.cf i (by rw[←b];exact hi);have a6:tO k.m i=k.m.ca.countP (fun c=>decide (c.k=(i:Int))):=rfl;rw[l i e,a3];omega
 ·by_cases e:i=f
  ·subst e;rw[y,if_pos rfl] at hn;exact absurd hn (by decide)
  rw[l i e] at hn;obtain⟨c',hH,ht⟩:=h.fc i (by rw[←b];exact hi) hn;refine⟨c',(hh c').2 ⟨hH,fun h2 => ?_⟩,ht⟩;have:=srt_eq h.ca.srt hH hb h2.1 h2.2;rw[this,hk] at ht;omega
 ·have a1:=t 2 s;rw[if_neg (fun e=>by cases e.1),if_neg (fun e=>by cases e.1)] at a1;have a2:=h.cs s (by rw[←v];exact hs);have a3:iI M s=iI k.m s:=by unfold iI;rw[v]
  rw[a3,a2];omega
 ·have h1:=a e he;rw[l _ h1.2,o];exact hc.tail e h1.1
 ·have h1:=a e he;rw[l _ h1.2] at hF ⊢;rw[hA];exact hc.clean e h1.1 hF
 ·by_cases e:i=f
  ·rw[y,if_pos e] at hm;cases hm
  rw[l i e] at hm ⊢;exact hc.anon i (by rw[←b];exact hi) hm
 rw[←hM];show k2.m.m.hand=_;rw[r5];rfl
theorem XE.con {d:Cc} (h:Rt m) (U:XE m M j d) {g i:Int} (hn:¬(g=d.f∧i=d.i)):aR M g i=aR m g i:=by
 rcases kL m g i with ⟨e,he,hem,hef,hei⟩|⟨he,hno⟩
 ·subst hef;subst hei;have a:=(U.cas e).2 ⟨hem,hn⟩;rw[eG h.ca hem,eG U.rt.ca a,U.fr,if_neg (U.cak e a).2]
 rw[eu hno,eu (fun e' b=>hno e' ((U.cas e').1 b).1)];unfold dF;rw[U.st,U.dk]
theorem Lx {k:Kp} (h:Rt k.m) (hc:Co k.m) (hf:f<k.m.m.fs.length) (h0:0≤(aD k.m f).f) (hb:iZ k.m f=true) :
  (fU k f).e=k.e∧uV k.m (fU k f).m f:=by
 obtain⟨m1,hi,hC⟩:=Pj h hc hf h0 hb;have hq:aZ k.m f=aZ m1 f:=by unfold aZ bE;rw[hC.sp]
 have q:aD m1 f = { aD k.m f with d:=false }:=by have:aD m1 f=aD (setFr k.m f { aD k.m f with d:=false }) f:=tu hC.fs f;rw[this,fK hf,if_pos rfl]
 have w:∀g,g≠f→aD m1 g=aD k.m g:=by intro g hg;have:aD m1 g=aD (setFr k.m f { aD k.m f with d:=false }) g:=tu hC.fs g;rw[this,fK hf,if_neg hg]
 have hh:m1.m.fs.length=k.m.m.fs.length:=by rw[hC.fs];exact dw
 have y:f<m1.m.fs.length:=by rw[hh];exact hf
 obtain⟨c,a,b⟩:=hC.rt.fc f y (by rw[q];exact h0);have j:=hC.rt.ca.fr c a;rw[b,bG] at j;have o : (aD k.m f).f=c.f∧(aD k.m f).i=c.i:=by rw[←j.2.1,←j.2.2,q];exact⟨rfl,rfl⟩
 obtain⟨d,hd,hy,hx⟩:=EB ((Gv hC.rt.ca.srt).2 ⟨c,a,o.1.symm,o.2.symm⟩:Gq m1.ca (aD k.m f).f (aD k.m f).i=true);have hz:d=c:=srt_eq hC.rt.ca.srt (dn hd) a (hy.trans o.1) (hx.trans o.2);subst hz;obtain⟨M,hM,U⟩:=Wl (k:=⟨m1,k.e⟩) hC.rt hC.co hd;have hp:(kV ⟨m1,k.e⟩ (aZ m1 f)).m.ca=m1.ca:=by have:=CE (f:=f) (e':=zEn) (by decide) (fun k u=>iG k u.1 u.2) JA (aZ m1 f) ⟨m1,k.e⟩ hC.rt.pt (De m1 f) y (by have hr:=hC.rt.cf f y;rw[←tY] at hr;show _≤(aD m1 f).r;omega);exact this.2.2.1.ca
 have hv:fU k f=⟨M,k.e⟩:=by
  rw[←hM];unfold fU yM;simp only;have hA:wz m1 (tQ m1.ca (aD k.m f).f (aD k.m f).i)=d:=by unfold wz;rw[bJ,hd];rfl
  rw[if_pos h0,if_neg (by rw[hb];decide),hi,hq,hA,b];simp only[hp];rw[if_pos ((Gv hC.rt.ca.srt).2 ⟨d,a,o.1.symm,o.2.symm⟩)]
 rw[hv];refine⟨rfl,?_⟩;change uV k.m M f;have hs:d.k.toNat=f:=by omega
 have hm:∀g,aD M g=if g=f then frZ else aD k.m g:=fun g=>by
  rw[U.fr,hs]
  by_cases e:g=f
  ·rw[if_pos e,if_pos e]
  ·rw[if_neg e,if_neg e];exact w g e
 have ha:fE k.m m1:=hC.vis.sk;have hB:fE k.m M:=ha.trans U.sk;have z:∀p n,aF m1 p n=aF k.m p n:=fun p n=>by unfold aF bE;rw[hC.sp]
 have l:lm m1.st M.st:=lm.of U.st;have t:∀g i,ni m1.st g i→aR M g i=aR m1 g i:=by
  intro g i _
  by_cases hed:g=d.f∧i=d.i
  ·rw[hed.1,hed.2,eG hC.rt.ca a,eu (fun e' hw=>((U.cas e').1 hw).2)];rw[show dF M d.f d.i=dF m1 d.f d.i by unfold dF;rw[U.st,U.dk]];exact (hC.co.clean d a (by rw[b,bG,q])).symm
  ·exact U.con hC.rt hed
 have v:EG m1 M:=by
  refine CS hC.rt.pt U.sk l t fun p n g hg => ?_;rw[U.ents]
  by_cases hu:(aF m1 p n).k=1∧(aF m1 p n).n=d.k
  ·rw[if_pos hu];obtain⟨g',hj,hn⟩:=hC.rt.en p n (by rw[hu.1];decide);rw[hg] at hj;cases hj;have h2:=hn.fr hu.1;rw[hu.2,b,bG] at h2;have h3:=h2.1 (by rw[q];exact h0);have x:ni m1.st g.fi g.pg:=by rw[←h3.1,←h3.2,j.2.1,j.2.2];exact hC.rt.ca.file d a
   have ht:¬g.fi<0:=by have:=x.1;omega
   have s:¬((M.st.fs.length:Int)≤g.fi∨nZ M.st g.fi g.pg=true):=by rw[U.st];exact oF hC.rt.pt.st x
   have hl:uo m1 g (aF m1 p n)=((aD m1 f).p,false,0):=by unfold uo;rw[if_pos hu.1,hu.2,b,vW,q];simp only[GD,true_and,and_true];exact decide_eq_false (by omega)
   rw[hl];unfold uo;rw[if_neg (by decide),if_neg (by decide),if_neg ht,if_neg s,t _ _ x];have:g.fi=d.f∧g.pg=d.i:=⟨by rw[←h3.1,j.2.1],by rw[←h3.2,j.2.2]⟩;rw[this.1,this.2,eG hC.rt.ca a,b,bG]
  rw[if_neg hu];refine oW hC.rt.pt.st (hC.rt.pt.pg hg).1 l t (fun hk => ?_) (fun hk=>by rw[U.sw];exact⟨rfl,rfl⟩);have s:(aF m1 p n).n.toNat≠d.k.toNat:=by intro e;have h5:=((cz _).1 (jL hC.rt.pt p n));exact hu ⟨hk,by omega⟩
  have:aD M (aF m1 p n).n.toNat=aD m1 (aF m1 p n).n.toNat:=by rw[U.fr,if_neg s]
  exact⟨congrArg Fr.p this,congrArg Fr.f this⟩
 refine⟨U.rt,U.co,hC.vis.trans v,U.len.trans hh,?_,by rw[hm,if_pos rfl],fun g hg=>by rw[hm,if_neg hg],by rw[U.sl,hC.sl],fun p n s=>by rw[U.ents,z,b,if_neg s],fun e => ?_,?_⟩
 ·rw[U.hand,hC.fs];rfl
 ·rw[U.cas,hC.ca];constructor
  ·rintro⟨h1,h2⟩;refine⟨h1,fun h3=>h2 ?_⟩;rw[h.ca.uniq h1 (by rw[←hC.ca];exact a) (by rw[h3,b])];exact⟨rfl,rfl⟩
  rintro⟨h1,h2⟩;refine⟨h1,fun h3=>h2 ?_⟩;rw[srt_eq h.ca.srt h1 (by rw[←hC.ca];exact a) h3.1 h3.2,b]
 rw[U.st,U.dk];have h1:=IZ h hf;rw[hi] at h1
 by_cases hcd:(aD k.m f).f<0∨(aD k.m f).d=false∨cB k.m.st (aD k.m f).f (aD k.m f).i≠0
 ·rw[if_pos hcd] at h1;have h2:m1=k.m:=congrArg Kp.m h1;rw[h2];exact .inl ⟨rfl,rfl⟩
 rw[if_neg hcd] at h1;have h2:m1=ib k.m f:=congrArg Kp.m h1;rw[h2];refine .inr ⟨h0,?_,?_,rfl,rfl⟩
 ·cases e:(aD k.m f).d with
  | true=>rfl
  | false=>exact absurd (.inr (.inl e)) hcd
 by_cases e:cB k.m.st (aD k.m f).f (aD k.m f).i=0
 ·exact e
 ·exact absurd (.inr (.inr e)) hcd
def Nv (m:Ma) (f i:Int) (P:Page):Prop:=∃c∈m.ca,c.f=f∧c.i=i∧(aD m c.k.toNat).d=true∧(aD m c.k.toNat).p=P
structure Rz (m m' : Ma):Prop where
 st:m'.st=m.st
 dk:m'.dk=m.dk
 di:∀f i P,Nv m' f i P→Nv m f i P
structure XQ (P:Ma→Prop):Prop where
 cl:∀m f,Rt m→Co m→P m→f<m.m.fs.length→0≤(aD m f).f→(aD m f).d=true→cB m.st (aD m f).f (aD m f).i=0→P (ib m f)
 sub:∀m m',Rt m→Co m→P m→Rt m'→Co m'→Rz m m'→P m'
def Inv (m m' : Ma):Prop:=∀P,XQ P→P m→P m'
theorem Inv.refl (m:Ma):Inv m m:=fun _ _ h=>h
theorem Inv.trans {a b c:Ma} (h:Inv a b) (k:Inv b c):Inv a c:=fun P hp ha=>k P hp (h P hp ha)
theorem Rz.inv (h:Rz m m') (h1:Rt m) (h2:Co m) (h3:Rt m') (h4:Co m'):Inv m m':=fun P hp hm=>hp.sub m m' h1 h2 hm h3 h4 h
theorem Rz.of (st:m'.st=m.st) (dk:m'.dk=m.dk) (hc:∀c∈m'.ca,(aD m' c.k.toNat).d=true→c∈m.ca∧(aD m' c.k.toNat).d=(aD m c.k.toNat).d∧(aD m' c.k.toNat).p=(aD m c.k.toNat).p):Rz m m':=
 ⟨st,dk,fun f i P ⟨c,a1,a2,a3,a4,a5⟩=>have ⟨b1,b2,b3⟩:=hc c a1 a4;⟨c,b1,a2,a3,by rw[←b2];exact a4,by rw[←b3];exact a5⟩⟩
theorem uV.inv (h:Rt m) (hc:Co m) (hf:f<m.m.fs.length) (E:uV m m' f):Inv m m':=by
 have b:∀c∈m'.ca,c∈m.ca∧c.k.toNat≠f:=fun c a=>by have h1:=(E.cas c).1 a;have h2:=h.ca.lt c h1.1;exact⟨h1.1,fun e=>h1.2 (by omega)⟩
 rcases E.std with ⟨h1,h2⟩|⟨h0,hd,hb,h1,h2⟩
 ·refine Rz.inv (.of h1 h2 fun c a _ => ?_) h hc E.rt E.co;rw[E.oth _ (b c a).2];exact⟨(b c a).1,rfl,rfl⟩
 have hC:=EZ h hc hf h0 hb;refine Inv.trans (fun P hp hm=>hp.cl m f h hc hm hf h0 hd hb) (Rz.inv (.of h1 h2 fun c a _ => ?_) hC.rt hC.co E.rt E.co);have h3:aD (ib m f) c.k.toNat=aD m c.k.toNat:=by rw[tu hC.fs,fK hf,if_neg (b c a).2]
 rw[E.oth _ (b c a).2,h3];exact⟨(b c a).1,rfl,rfl⟩
theorem uK {α:Type} {q:α→Bool} {l:List α} (h:0≤idx q l):∃k:Nat,idx q l=k∧∃hk:k<l.length,q l[k]=true:=by
 unfold idx at h ⊢;cases hf:l.findIdx? q with
 | none=>rw[hf] at h;simp at h
 | some k=>
  obtain⟨hk,hq,_⟩:=tL.1 hf;exact⟨k,rfl,hk,hq⟩
theorem Nk {α:Type} {q:α→Bool} {l:List α} (h:idx q l<0):∀x∈l,q x=false:=by
 unfold idx at h;cases hf:l.findIdx? q with
 | none=>exact wZ.1 hf
 | some k=>rw[hf] at h;simp at h;omega
theorem RN (h:Pt m) (h1:1≤n) (h2:n≤1000) :
  (ic m.sl n=0∧∃s:Nat,s<m.sl.length∧iI m s=0∧jN m.sl n=s∧lS m.sl n=m.sl.set s n)∨(ic m.sl n=10∧∀s:Nat,s<m.sl.length→iI m s≠0):=by
 by_cases hi:idx Ib m.sl<0
 ·refine .inr ⟨?_,fun s hs he => ?_⟩
  ·unfold ic;rw[if_neg (by rw[h.sl];simp),if_neg (by omega),if_pos hi]
  have:=Nk hi _ (dn (Ii hs));rw[he] at this;simp[Ib] at this
 obtain⟨k,hk,a,hz⟩:=uK (by omega:0≤idx Ib m.sl);have hE:ic m.sl n=0:=by unfold ic;rw[if_neg (by rw[h.sl];simp),if_neg (by omega),if_neg hi]
 refine .inl ⟨hE,k,a,?_,?_,?_⟩
 ·have h3:=Ii a;rw[aN a] at h3;rw[←aT h3];simpa[Ib] using hz
 ·unfold jN;rw[if_pos hE,hk]
 ·unfold lS;rw[if_pos hE,hk,bG]
theorem AZ (h:Rt m) (hf:f<m.m.fs.length) (h0:(aD m f).f<0):tO m f=0∧(aD m f).r=(aZ m f).length:=by
 have hc:tO m f=0:=uu.none (m:=m) (i:=f) fun c hc hk=>by have h1:=(h.ca.fr c hc).2.1;have h2:=(h.ca.file c hc).1;rw[hk,bG] at h1;omega
 refine⟨hc,?_⟩;have:=h.cf f hf;rw[hc,←tY] at this;omega
theorem Lh {k:Kp} (h:Rt k.m) (hc:Co k.m) (hf:f<k.m.m.fs.length) (h0:(aD k.m f).f<0) (hr:(aD k.m f).r≠0) (hb:ic k.m.sl (aZ k.m f).length=0) :
  (fU k f).e=k.e∧uV k.m (fU k f).m f:=by
 obtain⟨hS,hV⟩:=AZ h hf h0;have h7:=((dJ _).1 (h.pt.frE hf)).1;obtain⟨_,s,hs,hZ,z,hU⟩:=(RN h.pt (n:=(aZ k.m f).length) (by omega) (by omega)).resolve_right (fun e=>by rw[hb] at e;cases e.1);have hY:s<60:=by have:=kM h.pt.sl;omega
 have q:(s:Int)<k.m.sw.blocks.length:=by rw[h.pt.swl];omega
 have hC:aK k.m.sw (s:Int)=0:=iV.2 ⟨h.pt.sw,by omega,q⟩;have hl:∃L:Nat,L=(aZ k.m f).length:=⟨_,rfl⟩;obtain⟨L,hL⟩:=hl;generalize hm1:({ k.m with sl:=k.m.sl.set s (L:Int),sw:=ja k.m.sw ((s:Int),(aD k.m f).p) }:Ma)=m1;have hX:fU k f=rf ⟨m1,k.e⟩ f s (aZ k.m f):=by
  unfold fU;simp only;rw[if_neg (by omega),if_neg (by rw[hb];simp),z,hC,hU];have hw:dG k.m.sw (s:Int) (aD k.m f).p=ja k.m.sw ((s:Int),(aD k.m f).p):=by unfold dG;rw[if_pos hC]
  have he:iK k.e 0=k.e:=by unfold iK;split<;>simp_all
  rw[hw,he,←hm1,hL]
 have o:m1.m=k.m.m:=by rw[←hm1]
 have a:m1.sp=k.m.sp:=by rw[←hm1]
 have hh:m1.sl=k.m.sl.set s (L:Int):=by rw[←hm1]
 have ha:m1.sw=ja k.m.sw ((s:Int),(aD k.m f).p):=by rw[←hm1]
 have hm:m1.dk=k.m.dk:=by rw[←hm1]
 have hd:m1.st=k.m.st:=by rw[←hm1]
 have hI:m1.ca=k.m.ca:=by rw[←hm1]
 have hM:Pt m1:={ fr:=by rw[o];exact h.pt.fr,sl:=by rw[hh];exact CR s _ h.pt.sl (by omega) (by omega),sw:=by rw[ha];exact yx h.pt.sw (by show (0:Int)≤s;omega) q,dk:=by rw[hm];exact h.pt.dk,st:=by rw[hd];exact h.pt.st,swl:=by rw[ha,hh,wU,cO];exact h.pt.swl,dkl:=by rw[hm,hd];exact h.pt.dkl,spl:=by rw[a];exact h.pt.spl,ar:=by rw[a];exact h.pt.ar,tb:=by rw[a];exact h.pt.tb };have hJ:∀p n,aF m1 p n=aF k.m p n:=fun p n=>by unfold aF bE;rw[a]
 have hT:aZ k.m f=aZ m1 f:=by unfold aZ bE;rw[a]
 have ht:∀g,aD m1 g=aD k.m g:=fun g=>tu o g;have hH:=CE (f:=f) (e':=⟨2,s,false⟩) ((cz _).2 (.inr (.inr ⟨rfl,by show (0:Int)≤s;omega,by show (s:Int)<60;omega,rfl⟩))) (FI f s) (fun _ _ _ _=>rfl) (aZ k.m f) ⟨m1,k.e⟩ hM (by rw[hT];exact De m1 f) (by show f<m1.m.fs.length;rw[o];exact hf) (by show _≤(aD m1 f).r;rw[ht];omega);obtain⟨r1,r2,r3,r4,r5,r6,r7⟩:=hH;have hR:(aZ k.m f).foldl (FI f s) ⟨m1,k.e⟩=rf ⟨m1,k.e⟩ f s (aZ k.m f):=rfl;rw[hR,←hX] at r1 r2 r3 r4 r5 r6 r7;refine⟨r1,?_⟩;generalize fU k f=k2 at *
 obtain⟨M,eM⟩:=k2;change uV k.m M f;simp only at r1 r2 r3 r4 r5 r6 r7;have hz:gF (aD m1 f) (-((aZ k.m f).length:Int))=frZ:=by unfold gF;rw[if_pos (by rw[ht];omega)]
 rw[hz] at r5;have hv:∀g,aD M g=if g=f then frZ else aD k.m g:=by intro g;rw[tu r5 g,fK (by rw[o];exact hf),ht]
 have d:∀g,g≠f→aD M g=aD k.m g:=fun g hg=>by rw[hv,if_neg hg]
 have t:M.m.fs.length=k.m.m.fs.length:=by rw[r5,dw,o]
 have y:M.sl=k.m.sl.set s (L:Int):=r3.sl.trans hh;have hG:M.sw=ja k.m.sw ((s:Int),(aD k.m f).p):=r3.sw.trans ha;have hB:M.dk=k.m.dk:=r3.dk.trans hm;have u:M.st=k.m.st:=r3.st.trans hd;have b:M.ca=k.m.ca:=r3.ca.trans hI;have z:fE k.m M:=(fE.of a).trans r4;have v:∀p n,aF M p n=if (p,n)∈aZ k.m f then ⟨2,s,false⟩ else aF k.m p n:=fun p n=>by rw[r6,hJ]
 have l:∀p n,(p,n)∈aZ k.m f↔(aF k.m p n).k=1∧(aF k.m p n).n=f:=by
  intro p n;rw[um];constructor
  ·rintro⟨_,_,h3⟩;exact h3
  intro h3;have h4:=kE (m:=k.m) (p:=p) (n:=n) (by rw[h3.1];decide);exact⟨h4.1,h4.2,h3⟩
 have hn:lm k.m.st M.st:=lm.of u;have hx:∀g i,dF M g i=dF k.m g i:=fun g i=>by unfold dF;rw[u,hB]
 have hy:∀c∈k.m.ca,c.k.toNat≠f:=fun c hc e=>by have h1:=(h.ca.fr c hc).2.1;have h2:=(h.ca.file c hc).1;rw[e] at h1;omega
 have hA:uu M:=⟨by rw[b,u];exact h.ca.file,by rw[b,t];exact h.ca.lt,fun c hc=>by rw[b] at hc;rw[d _ (hy c hc)];exact h.ca.fr c hc,by rw[b];exact h.ca.srt⟩;have hF:∀g i,ni k.m.st g i→aR M g i=aR k.m g i:=by
  intro g i h6;rcases kL k.m g i with ⟨e,he,hem,hef,hei⟩|⟨he,hno⟩
  ·subst hef;subst hei;rw[eG h.ca hem,eG hA (by rw[b];exact hem),d _ (hy e hem)]
  ·rw[eu hno,eu (by rw[b];exact hno),hx]
 have hN:∀p n,(aF k.m p n).k=2→(aF k.m p n).n≠s:=by intro p n hO he;have h3:=kE (m:=k.m) (p:=p) (n:=n) (by rw[hO];decide);have h4:=(ji (m:=k.m) (kd:=2) (i:=s) (by decide)).2 ⟨p,n,h3.1,h3.2,hO,he⟩;have h5:=h.cs s hs;omega
 have hK:EG k.m M:=by
  refine CS h.pt z hn hF fun p n g hg => ?_;rw[v]
  by_cases hu:(p,n)∈aZ k.m f
  ·rw[if_pos hu];have h1:=(l p n).1 hu;unfold uo;rw[if_neg (show ¬(2:Int)=1 by decide),if_pos rfl,if_pos h1.1,h1.2,vW,hG];rw[wV h.pt.sw (by show (0:Int)≤s;omega) q,if_pos ⟨hC,rfl⟩,GN h.pt.sw (by show (0:Int)≤s;omega) q,hC,decide_eq_true h0]
  rw[if_neg hu];refine oW h.pt.st (h.pt.pg hg).1 hn hF (fun hk => ?_) (fun hk => ?_)
  ·have hq:(aF k.m p n).n.toNat≠f:=by intro e;have h5:=((cz _).1 (jL h.pt p n));exact hu ((l p n).2 ⟨hk,by omega⟩)
   have:=d _ hq;exact⟨congrArg Fr.p this,congrArg Fr.f this⟩
  rw[hG,wV h.pt.sw (by show (0:Int)≤s;omega) q,if_neg (fun e=>hN p n hk e.2.symm),GN h.pt.sw (by show (0:Int)≤s;omega) q];exact⟨rfl,rfl⟩
 refine⟨⟨r2,by rw[hB,u];exact h.trim,fun p hp => ?_,hA,fun p n hk => ?_,fun i hi => ?_,fun i hi hE => ?_,fun j hj => ?_⟩,⟨fun e he => ?_,fun e he hQ => ?_,fun i hi hD => ?_⟩,hK,t,?_,by rw[hv,if_pos rfl],d,by rw[y,cO],fun p n hq=>by rw[v,if_neg (fun hu=>hq ((l p n).1 hu))],fun e => ?_,.inl ⟨u,hB⟩⟩
 ·rw[z.lv] at hp;have h1:=h.live p hp;rw[z.ar];refine⟨h1.1,fun n => ?_⟩;rw[v,if_neg]
  ·exact h1.2 n
  intro hu;have:=(l p n).1 hu;rw[h1.2 n] at this;exact absurd this.1 (by decide)
 ·rw[v] at hk ⊢
  by_cases hu:(p,n)∈aZ k.m f
  ·rw[if_pos hu];have h1:=(l p n).1 hu;obtain⟨g,hg,w⟩:=h.en p n (by rw[h1.1];decide);refine⟨g,by unfold dQ;rw[z.ar];exact hg,fun _=>⟨by rw[y,cO];show (s:Int)<_;omega,?_⟩,fun (e:(2:Int)=1)=>absurd e (by decide),fun (e:(2:Int)=1)=>absurd e (by decide)⟩;have h2:=w.fr h1.1;rw[h1.2,bG] at h2;cases hsh:g.sh with
   | false=>rfl
   | true=>have:=h2.2.1 hsh;omega
  rw[if_neg hu] at hk ⊢;obtain⟨g,hg,w⟩:=h.en p n hk;refine⟨g,by unfold dQ;rw[z.ar];exact hg,by rw[y,cO];exact w.sw,by rw[t];exact w.lt,fun hP => ?_⟩;have hq:(aF k.m p n).n.toNat≠f:=by intro e;have h5:=((cz _).1 (jL h.pt p n));exact hu ((l p n).2 ⟨hP,by omega⟩)
  rw[d _ hq];exact w.fr hP
 ·have a1:=r7 1 i;rw[if_neg (fun e=>by cases e.1:¬((1:Int)=(⟨2,s,false⟩:En).k∧(i:Int)=(⟨2,s,false⟩:En).n))] at a1;have a2:bN m1 1 i=bN k.m 1 i:=by unfold bN;rw[a]
  have a3:tO M i=tO k.m i:=by unfold tO;rw[b]
  by_cases e:i=f
  ·subst e;rw[if_pos ⟨rfl,rfl⟩] at a1;rw[tY] at a1;rw[hv,if_pos rfl,a3,hS];show (0:Int)=_;omega
  rw[if_neg (fun h'=>e (by have:=h'.2;omega))] at a1;have a5:=h.cf i (by rw[←t];exact hi);rw[d i e,a3];omega
 ·by_cases e:i=f
  ·subst e;rw[hv,if_pos rfl] at hE;exact absurd hE (by decide)
  rw[d i e] at hE;rw[b];exact h.fc i (by rw[←t];exact hi) hE
 ·have a1:=r7 2 j;rw[if_neg (fun e=>by cases e.1)] at a1;have a2:bN m1 2 j=bN k.m 2 j:=by unfold bN;rw[a]
  have hW : j<k.m.sl.length:=by rw[y,cO] at hj;exact hj
  have a3:iI M j=if j=s then (L:Int) else iI k.m j:=by have:=Cy (m:=k.m) (x:=(L:Int)) hs j;rw[←this];unfold iI setSl;rw[y]
  have a4:=h.cs j hW;rw[a3]
  by_cases e:j=s
  ·subst e;rw[if_pos ⟨rfl,rfl⟩] at a1;rw[if_pos rfl];omega
  rw[if_neg (fun h'=>e (by have h2:(j:Int)=(s:Int):=h'.2;omega))] at a1;rw[if_neg e];omega
 ·rw[b] at he;rw[d _ (hy e he),u];exact hc.tail e he
 ·rw[b] at he;rw[d _ (hy e he)] at hQ ⊢;rw[hx];exact hc.clean e he hQ
 ·by_cases e:i=f
  ·rw[hv,if_pos e] at hD;cases hD
  rw[d i e] at hD ⊢;exact hc.anon i (by rw[←t];exact hi) hD
 ·rw[r5];show m1.m.hand=_;rw[o]
 rw[b];constructor
 ·intro h1;exact⟨h1,fun h2=>hy e h1 (by rw[h2];exact bG f)⟩
 ·exact fun h1=>h1.1
theorem RP {k:Kp} (h:Rt k.m) (hc:Co k.m) (hf:f<k.m.m.fs.length) (hr:(aD k.m f).r≠0) :
  if jr k.m f=true then (fU k f).e=k.e∧uV k.m (fU k f).m f else fU k f=k:=by
 unfold jr
 by_cases h0:0≤(aD k.m f).f
 ·rw[if_pos h0]
  by_cases hb:iZ k.m f=true
  ·rw[if_pos hb];exact Lx h hc hf h0 hb
  rw[if_neg hb];unfold fU;simp only;rw[if_pos h0,if_pos (by simpa using hb)]
 rw[if_neg h0]
 by_cases hb:ic k.m.sl (aZ k.m f).length=0
 ·rw[if_pos (by simpa using hb)];exact Lh h hc hf (by omega) hr hb
 rw[if_neg (by simpa using hb)];unfold fU;simp only;rw[if_neg h0,if_pos hb]
def yh (x y:Fr):Prop:=y.p=x.p∧y.r=x.r∧y.d=x.d∧y.f=x.f∧y.i=x.i
theorem yh.refl (x:Fr):yh x x:=⟨rfl,rfl,rfl,rfl,rfl⟩
theorem yh.trans {x y:Fr} (h:yh x y) (k:yh y z):yh x z:=⟨k.1.trans h.1,k.2.1.trans h.2.1,k.2.2.1.trans h.2.2.1,k.2.2.2.1.trans h.2.2.2.1,k.2.2.2.2.trans h.2.2.2.2⟩
theorem Ti (h:Rt m) (hc:Co m) (hr:Rest m m') (hs:m'.sp=m.sp) (hw:bI m'.m=0) (hl:m'.m.fs.length=m.m.fs.length) (hf:∀g,yh (aD m g) (aD m' g)):Rt m'∧Co m'∧EG m m':=by
 have e:∀p n,aF m' p n=aF m p n:=fun p n=>by unfold aF bE;rw[hs]
 have u:∀p n,dQ m' p n=dQ m p n:=fun p n=>by unfold dQ bE;rw[hs]
 have w:∀i,tO m' i=tO m i:=fun i=>by unfold tO;rw[hr.ca]
 have q:∀kd i,bN m' kd i=bN m kd i:=fun kd i=>by unfold bN;rw[hs]
 have j:∀f i,dF m' f i=dF m f i:=fun f i=>by unfold dF;rw[hr.st,hr.dk]
 have t:Pt m':={ fr:=hw,sl:=by rw[hr.sl];exact h.pt.sl,sw:=by rw[hr.sw];exact h.pt.sw,dk:=by rw[hr.dk];exact h.pt.dk,st:=by rw[hr.st];exact h.pt.st,swl:=by rw[hr.sw,hr.sl];exact h.pt.swl,dkl:=by rw[hr.dk,hr.st];exact h.pt.dkl,spl:=by rw[hs];exact h.pt.spl,ar:=by rw[hs];exact h.pt.ar,tb:=by rw[hs];exact h.pt.tb };have o:uu m':=⟨by rw[hr.ca,hr.st];exact h.ca.file,by rw[hr.ca,hl];exact h.ca.lt,fun c a=>by rw[hr.ca] at a;have h1:=hf c.k.toNat;rw[h1.2.1,h1.2.2.2.1,h1.2.2.2.2];exact h.ca.fr c a,by rw[hr.ca];exact h.ca.srt⟩;have l:∀f i,aR m' f i=aR m f i:=by
  intro f i;have hl:nV m' f i=nV m f i:=by unfold nV;rw[hr.ca]
  rw[jF,jF,hl];cases nV m f i with
  | none=>exact j f i
  | some c=>exact (hf c.k.toNat).1
 have b:lm m.st m'.st:=lm.of hr.st;refine⟨⟨t,by rw[hr.dk,hr.st];exact h.trim,fun p hp => ?_,o,fun p n hk => ?_,fun i hi => ?_,fun i hi h0 => ?_,fun s r => ?_⟩,⟨fun c a => ?_,fun c a hd => ?_,fun i hi hd => ?_⟩,?_⟩
 ·have:bE m' p=bE m p:=by unfold bE;rw[hs]
  rw[this] at hp ⊢;exact⟨(h.live p hp).1,fun n=>by rw[e];exact (h.live p hp).2 n⟩
 ·rw[e] at hk ⊢;obtain⟨g,hg,d⟩:=h.en p n hk;refine⟨g,by rw[u];exact hg,by rw[hr.sl];exact d.sw,by rw[hl];exact d.lt,fun v => ?_⟩;have h1:=d.fr v;have h2:=hf (aF m p n).n.toNat;unfold MC at h1 ⊢;rw[h2.2.1,h2.2.2.2.1,h2.2.2.2.2];exact h1
 ·rw[(hf i).2.1,w,q];exact h.cf i (by rw[←hl];exact hi)
 ·rw[(hf i).2.2.2.1] at h0;rw[hr.ca];exact h.fc i (by rw[←hl];exact hi) h0
 ·rw[q];have:iI m' s=iI m s:=by unfold iI;rw[hr.sl]
  rw[this];exact h.cs s (by rw[←hr.sl];exact r)
 ·rw[hr.ca] at a;rw[(hf c.k.toNat).1,hr.st];exact hc.tail c a
 ·rw[hr.ca] at a;rw[(hf c.k.toNat).2.2.1] at hd;rw[(hf c.k.toNat).1,j];exact hc.clean c a hd
 ·rw[(hf i).2.2.1] at hd;rw[(hf i).2.2.2.1];exact hc.anon i (by rw[←hl];exact hi) hd
 refine CS h.pt (fE.of hs) b (fun f i _=>l f i) fun p n g hg => ?_;rw[e];exact oW h.pt.st (h.pt.pg hg).1 b (fun f i _=>l f i) (fun _=>⟨(hf _).1,(hf _).2.2.2.1⟩) (fun _=>by rw[hr.sw];exact⟨rfl,rfl⟩)
def mZ (m:Ma) (x:Mem):Ma:={ m with m:=x }
theorem FD (hw:bI m.m=0) (hk:0≤iy m.m):(iy m.m).toNat<m.m.fs.length∧(aD m (iy m.m).toNat).r≠0∧bI (fH m.m)=0∧(fH m.m).fs.length=m.m.fs.length∧∀g,yh (aD m g) (aD (mZ m (fH m.m)) g):=by
 have hf:fB m.m.fs≠m.m.fs.length:=fun e=>by unfold iy at hk;rw[if_neg (by rw[hw];simp),if_pos e] at hk;omega
 obtain⟨h,b,f⟩:=Sc m.m hw hf;have hM:fH m.m=⟨nI m.m (iw m.m),(iW m.m (iw m.m+1):Nat)⟩:=by unfold fH;rw[if_neg (by rw[hw];simp),if_neg hf]
 have hK:iy m.m=(iW m.m (iw m.m):Nat):=by unfold iy;rw[if_neg (by rw[hw];simp),if_neg hf]
 have a:0<m.m.fs.length:=by
  rcases wW m.m.fs.length with h0|h0
  ·exact absurd (by have:=Dy m.m.fs;omega) hf
  ·exact h0
 have c:=oq a (iw m.m);have d:=oq a (iw m.m+1);obtain⟨w1,w2,w3,w4⟩:=(dN _).1 hw;rw[hK,hM,bG];refine⟨c,?_,(dN _).2 ⟨by simp only;rw[iU];exact w1,fun x hx => ?_,by simp only;omega,by simp only;rw[iU];omega⟩,iU _ _,fun g => ?_⟩
 ·unfold vS at b;simp only[dA,decide_eq_true_eq] at b;have h1:(aD m (iW m.m (iw m.m))).r=(m.m.fs.getD (iW m.m (iw m.m)) fr0).r:=rfl;rw[h1];omega
 ·obtain⟨i,hi,rfl⟩:=jG.1 hx;simp only at hi ⊢;rw[iU] at hi;rw[vv m.m _ i hi];have h3:=w2 m.m.fs[i] (eX hi);split
  ·rw[dJ] at h3 ⊢;exact⟨h3.1,fun e=>⟨rfl,(h3.2.1 e).2.1,(h3.2.1 e).2.2.1,(h3.2.1 e).2.2.2⟩,h3.2.2⟩
  ·exact h3
 rcases fM g m.m.fs.length with hg|hg
 ·have e1:aD (mZ m ⟨nI m.m (iw m.m),(iW m.m (iw m.m+1):Nat)⟩) g=(nI m.m (iw m.m))[g]'(by rw[iU];exact hg):=by show (nI m.m (iw m.m)).getD g fr0=_;rw[bJ,aN (by rw[iU];exact hg)];rfl
  have e2:aD m g=m.m.fs[g]:=by have:=tF hg;rw[aN hg] at this;exact (aT this).symm
  rw[e1,e2,vv m.m _ g hg];split
  ·exact⟨rfl,rfl,rfl,rfl,rfl⟩
  ·exact .refl _
 have e1:aD (mZ m ⟨nI m.m (iw m.m),(iW m.m (iw m.m+1):Nat)⟩) g=fr0:=Cu (m:=mZ m ⟨nI m.m (iw m.m),(iW m.m (iw m.m+1):Nat)⟩) (by show (nI m.m (iw m.m)).length≤g;rw[iU];exact hg);rw[e1,Cu hg];exact .refl _
structure zb (m m' : Ma) (o:Option Nat):Prop where
 rt:Rt m'
 co:Co m'
 vis:EG m m'
 len:m'.m.fs.length=m.m.fs.length
 sll:m'.sl.length=m.sl.length
 fr:∀g,o≠some g→yh (aD m g) (aD m' g)
 free:∀f,o=some f→f<m.m.fs.length∧aD m' f=frZ∧(aD m f).r≠0
 ents:∀p n,((aF m p n).k=1→o≠some (aF m p n).n.toNat)→aF m' p n=aF m p n
 cas:∀c,c∈m'.ca↔c∈m.ca∧o≠some c.k.toNat
 inv:Inv m m'
theorem zb.refl (h:Rt m) (hc:Co m):zb m m none:=⟨h,hc,.refl m,rfl,rfl,fun _ _ => .refl _,(fun _ e=>by cases e),fun _ _ _=>rfl,fun c=>⟨fun h=>⟨h,by simp⟩,fun h=>h.1⟩,.refl m⟩
theorem reclaimN_ok:∀(t:Nat) (k:Kp),Rt k.m→Co k.m→(reclaimN t k).1.e=k.e∧∃o,zb k.m (reclaimN t k).1.m o∧((reclaimN t k).2=true↔o≠none)
 | 0,k,h,hc=>⟨rfl,none,zb.refl h hc,by simp[reclaimN]⟩
 | t+1,k,h,hc=>by
  have hw:=h.pt.fr;have hmust:iK k.e (bI k.m.m)=k.e:=by rw[hw];unfold iK;split<;>simp_all
  by_cases hn:iy k.m.m<0
  ·have hd:reclaimN (t+1) k=(k,false):=by unfold reclaimN;rw[if_pos (.inr hn),hmust]
   rw[hd];exact⟨rfl,none,zb.refl h hc,by simp⟩
  obtain⟨n1,n2,n3,n4,n5⟩:=FD hw (by omega:0≤iy k.m.m);have hd:reclaimN (t+1) k=if jr (mZ k.m (fH k.m.m)) (iy k.m.m).toNat=true then (fU ⟨mZ k.m (fH k.m.m),k.e⟩ (iy k.m.m).toNat,true) else reclaimN t (fU ⟨mZ k.m (fH k.m.m),k.e⟩ (iy k.m.m).toNat):=by
   conv=>lhs;unfold reclaimN
   rw[if_neg (by rintro (e | e);exact e hw;exact hn e)];rfl
  generalize hF:(iy k.m.m).toNat=F at *
  obtain⟨hr1,hc1,hv1⟩:=Ti (m:=k.m) (m':=mZ k.m (fH k.m.m)) h hc ⟨rfl,rfl,rfl,rfl,rfl⟩ rfl n3 n4 n5;have hi1:Inv k.m (mZ k.m (fH k.m.m)):=Rz.inv (.of rfl rfl fun c hcm _=>⟨hcm,(n5 _).2.2.1,(n5 _).1⟩) h hc hr1 hc1;have hF1:F<(mZ k.m (fH k.m.m)).m.fs.length:=by show F<(fH k.m.m).fs.length;rw[n4];exact n1
  have hfr1:(aD (mZ k.m (fH k.m.m)) F).r≠0:=by rw[(n5 F).2.1];exact n2
  have hev:=RP (k:=⟨mZ k.m (fH k.m.m),k.e⟩) hr1 hc1 hF1 hfr1;rw[hd]
  by_cases hb:jr (mZ k.m (fH k.m.m)) F=true
  ·rw[if_pos hb] at hev;obtain⟨he,hE⟩:=hev;rw[if_pos hb];refine⟨he,some F,⟨hE.rt,hE.co,hv1.trans hE.vis,hE.len.trans n4,hE.sll,fun g hg => ?_,fun f e => ?_,fun p n hne => ?_,fun c => ?_,hi1.trans (hE.inv hr1 hc1 hF1)⟩,by simp⟩
   ·have hne:g≠F:=fun e=>hg (by rw[e]);exact (n5 g).trans (by rw[hE.oth g hne];exact .refl _)
   ·cases e;exact⟨n1,hE.free,n2⟩
   ·exact hE.ents p n (fun e=>by have h2:((aF k.m p n).n:Int)=F:=e.2;exact hne e.1 (by rw[h2,bG]))
   refine (hE.cas c).trans ⟨fun h1=>⟨h1.1,fun e=>h1.2 ?_⟩,fun h1=>⟨h1.1,fun e=>h1.2 (by rw[e,bG])⟩⟩;have:=(h.ca.lt c h1.1).1;simp only[iq] at e;omega
  rw[if_neg hb] at hev;rw[if_neg hb,hev];obtain⟨i1,o,hI,i2⟩:=reclaimN_ok t ⟨mZ k.m (fH k.m.m),k.e⟩ hr1 hc1;refine⟨i1,o,⟨hI.rt,hI.co,hv1.trans hI.vis,hI.len.trans n4,hI.sll,fun g hg=>(n5 g).trans (hI.fr g hg),fun f e => ?_,hI.ents,hI.cas,hi1.trans hI.inv⟩,i2⟩;obtain⟨a1,a2,a3⟩:=hI.free f e;refine⟨?_,a2,?_⟩
  ·have a1:f<(mZ k.m (fH k.m.m)).m.fs.length:=a1;have:(mZ k.m (fH k.m.m)).m.fs.length=k.m.m.fs.length:=n4;omega
  ·rw[(n5 f).2.1] at a3;exact a3
theorem Es {k:Kp} (h:Rt k.m) (hc:Co k.m):(dY k).1.e=k.e∧∃o,zb k.m (dY k).1.m o∧((dY k).2=true↔o≠none):=reclaimN_ok _ k h hc
theorem zC {k:Kp} {p:Page} {f i:Int} (hw:bI k.m.m=0) (hx:bU (bz p f i)=0) :
  (∃g:Nat,g<k.m.m.fs.length∧(aD k.m g).r=0∧kG k p f i=(Kp.mk (setFr k.m g (bz p f i)) k.e,(g:Int)))∨(kG k p f i=(k,-1)∧fB k.m.m.fs=0):=by
 by_cases hE:gN k.m.m p f i=0
 ·obtain⟨_,_,g,hg,hr,hK,hM⟩:=Vl hE;refine .inl ⟨g,hg,?_,?_⟩
  ·have:=tF hg;rw[aN hg] at this;rw[←aT this];exact hr
  unfold kG;rw[if_neg (by rw[hE];simp),hK,hM];rfl
 refine .inr ⟨by unfold kG;rw[if_pos hE],?_⟩;refine Pp (p:=p) (file:=f) (index:=i) ?_;unfold gN at hE ⊢;rw[if_neg (by rw[hw];simp),if_neg (by rw[hx];simp)] at hE ⊢
 by_cases hn:vL k.m.m.fs=none
 ·rw[if_pos hn]
 ·rw[if_neg hn] at hE;exact absurd rfl hE
theorem uB (h:fB m.m.fs=0) {g:Nat} (hg:g<m.m.fs.length):(aD m g).r≠0:=by
 intro hr;unfold fB at h;have:=List.length_eq_zero_iff.1 h;have h2:aD m g∈m.m.fs.filter (fun f=>decide (f.r=0)):=qw.2 ⟨NN hg,by simpa using hr⟩;rw[this] at h2;cases h2
theorem OA (h:fB m.m.fs≠0):∃g,g<m.m.fs.length∧(aD m g).r=0:=by
 unfold fB at h;obtain⟨x,hx⟩:=List.exists_mem_of_length_pos (Nat.pos_of_ne_zero h);obtain⟨h1,h2⟩:=qw.1 hx;obtain⟨i,hi,rfl⟩:=jG.1 h1;refine⟨i,hi,?_⟩;have:=tF (m:=m) hi;rw[aN hi] at this;rw[←aT this];simpa using h2
theorem zJ {k:Kp} {p:Page} {f i:Int} (h:Rt k.m) (hc:Co k.m) (hx:bU (bz p f i)=0) :
  (∃(g:Nat) (m1:Ma) (o:Option Nat),zb k.m m1 o∧g<m1.m.fs.length∧aD m1 g=frZ∧eP k p f i=(Kp.mk (setFr m1 g (bz p f i)) k.e,(g:Int))) ∨
  (∃m1,zb k.m m1 none∧eP k p f i=(Kp.mk m1 k.e,-1)∧fB k.m.m.fs=0):=by
 have hz:∀(m:Ma) (g:Nat),Pt m→g<m.m.fs.length→(aD m g).r=0→aD m g=frZ:=fun m g hp hg hr=>NC (hp.frE hg) hr;unfold eP
 by_cases h0:fB k.m.m.fs=0
 ·rw[if_pos h0];obtain⟨he,o,hF,hb⟩:=Es h hc
  by_cases hbt:(dY k).2=true
  ·rw[if_pos hbt];obtain⟨f',a⟩:∃f',o=some f':=by
    cases o with
    | none=>exact absurd rfl (hb.1 hbt)
    | some f'=>exact⟨f',rfl⟩
   obtain⟨a1,a2,_⟩:=hF.free f' a;rcases zC (k:=(dY k).1) (p:=p) (f:=f) (i:=i) hF.rt.pt.fr hx with ⟨g,g1,g2,g3⟩|⟨_,g2⟩
   ·exact .inl ⟨g,(dY k).1.m,o,hF,g1,hz _ g hF.rt.pt g1 g2,by rw[g3,he]⟩
   ·exact absurd (by rw[a2];rfl) (uB g2 (g:=f') (by rw[hF.len];exact a1))
  rw[if_neg hbt];have ho:o=none:=by
   cases o with
   | none=>rfl
   | some f'=>exact absurd (hb.2 (by simp)) hbt
  subst ho;refine .inr ⟨(dY k).1.m,hF,?_,h0⟩;rw[←he]
 rw[if_neg h0];rcases zC (k:=k) (p:=p) (f:=f) (i:=i) h.pt.fr hx with ⟨g,g1,g2,g3⟩|⟨_,g2⟩
 ·exact .inl ⟨g,k.m,none,zb.refl h hc,g1,hz _ g h.pt g1 g2,g3⟩
 ·exact absurd g2 h0
theorem RD {x:Fr} (h:bU x=0) (hr:x.r≠0):bU (kC x)=0:=by
 rw[dJ] at h ⊢;exact⟨h.1,fun e=>absurd e hr,h.2.2⟩
theorem Nq (h:Rt m) (hc:Co m) {g:Nat} (hg:g<m.m.fs.length) (hr:(aD m g).r≠0):Rt (setFr m g (kC (aD m g)))∧Co (setFr m g (kC (aD m g)))∧EG m (setFr m g (kC (aD m g))):=
 Ti h hc ⟨rfl,rfl,rfl,rfl,rfl⟩ rfl (Ij h.pt.fr (RD (h.pt.frE hg) hr)) dw fun x=>by
  rw[fK hg]
  by_cases e:x=g
  ·rw[if_pos e,e];exact⟨rfl,rfl,rfl,rfl,rfl⟩
  ·rw[if_neg e];exact .refl _
theorem Ua (p:Page) (n:Int):dm (dm p n) n=dm p n:=by
 apply BL;intro i hi;simp only[dm,nH];split<;>rfl
theorem SQ (n:Int):dm zPg n=zPg:=by
 apply BL;intro i hi;simp only[dm,nH];have hz:zPg[i]=0:=by
  match i,hi with
  | 0,_=>rfl
  | 1,_=>rfl
  | 2,_=>rfl
  | 3,_=>rfl
  | 4,_=>rfl
  | 5,_=>rfl
  | 6,_=>rfl
  | 7,_=>rfl
  | n+8,h=>omega
 split<;>rw[hz]
theorem Fs (m:Ma) (f i:Int):dm (dF m f i) ((aI m.st f).n-i*8)=dF m f i:=by
 unfold dF;split
 ·exact Ua _ _
 ·exact SQ _
theorem CX {f i k:Int}:∀ {l:List Cc},l.Pairwise CL→(∀c∈l,¬(c.f=f∧c.i=i))→(l.insertIdx (tQ l f i) ⟨f,i,k⟩).Pairwise CL
 | [],_,_=>by simp[tQ]
 | c::l,hs,hno=>by
  obtain⟨h1,h2⟩:=sJ.1 hs;have hnc:=hno c jh
  by_cases hg:EN f i c=true
  ·have:tQ (c::l) f i=0:=by unfold tQ;rw[zM,if_pos hg];rfl
   rw[this,List.insertIdx_zero];have hlt:CL ⟨f,i,k⟩ c:=by have:=yK.1 hg;unfold CL;simp only;omega
   refine sJ.2 ⟨fun d hd => ?_,hs⟩;rcases eT.1 hd with rfl|hd
   ·exact hlt
   have:=h1 d hd;unfold CL at this hlt ⊢;omega
  have:tQ (c::l) f i=tQ l f i+1:=by unfold tQ;rw[zM,if_neg hg];cases l.findIdx? (EN f i)<;>rfl
  rw[this,GA];refine sJ.2 ⟨fun d hd => ?_,CX h2 fun d hd=>hno d (iM _ hd)⟩;rcases (Cz (CV l f i)).1 hd with rfl|hd
  ·have:¬(f<c.f∨c.f=f∧i≤c.i):=fun h=>hg (yK.2 h);unfold CL;simp only;omega
  ·exact h1 d hd
theorem xX {α:Type} (q:α→Bool) (x:α):∀(l:List α) (j:Nat),j≤l.length→(l.insertIdx j x).countP q=l.countP q+sU (q x)
 | l,0,_=>by rw[List.insertIdx_zero,qg];rfl
 | [],j+1,h=>by simp at h
 | a::l,j+1,h=>by rw[GA,qg,qg,xX q x l j (by simpa using h)];omega
def qd (m1:Ma) (g:Nat) (p:Page) (f i:Int):Ma:={ setFr m1 g (bz p f i) with ca:=m1.ca.insertIdx (tQ m1.ca f i) ⟨f,i,g⟩ }
theorem Vb {g:Nat} {f i:Int} (h:Rt m1) (hc:Co m1) (hg:g<m1.m.fs.length) (hz:aD m1 g=frZ) (hin:ni m1.st f i) (hno:∀c∈m1.ca,¬(c.f=f∧c.i=i)) :
  Rt (qd m1 g (dF m1 f i) f i)∧Co (qd m1 g (dF m1 f i) f i)∧EG m1 (qd m1 g (dF m1 f i) f i):=by
 have v:=AA h.pt.st hin;have hb:bU (bz (dF m1 f i) f i)=0:=by rw[dJ];have h1:=hin.1;have h2:=hin.2;exact⟨⟨by show (0:Int)≤1;decide,by show (1:Int)≤1000;decide,by show -1≤f;omega,v.1,h2.1,v.2.1⟩,fun (e:(1:Int)=0)=>absurd e (by decide),fun (e:f<0)=>by omega⟩
 have j:∀x,aD (qd m1 g (dF m1 f i) f i) x=if x=g then bz (dF m1 f i) f i else aD m1 x:=fun x=>fK hg x;have b:∀x,x≠g→aD (qd m1 g (dF m1 f i) f i) x=aD m1 x:=fun x hx=>by rw[j,if_neg hx]
 have d:(qd m1 g (dF m1 f i) f i).m.fs.length=m1.m.fs.length:=dw;have a:∀c,c∈(qd m1 g (dF m1 f i) f i).ca↔c=⟨f,i,g⟩∨c∈m1.ca:=fun c=>Cz (CV _ _ _);have u:∀c∈m1.ca,c.k.toNat≠g:=fun c hcm e=>by have:=(h.ca.fr c hcm).1;rw[e,hz] at this;exact absurd this (by decide)
 have l:∀f' i',dF (qd m1 g (dF m1 f i) f i) f' i' = dF m1 f' i':=fun _ _=>rfl;have q:bN m1 1 g=0∧tO m1 g=0:=by have:=h.cf g hg;rw[hz] at this;have e:frZ.r=0:=rfl;omega
 have hf:Pt (qd m1 g (dF m1 f i) f i):={ fr:=Ij h.pt.fr hb,sl:=h.pt.sl,sw:=h.pt.sw,dk:=h.pt.dk,st:=h.pt.st,swl:=h.pt.swl,dkl:=h.pt.dkl,spl:=h.pt.spl,ar:=h.pt.ar,tb:=h.pt.tb };have o:uu (qd m1 g (dF m1 f i) f i):=by
  refine⟨fun c hcm => ?_,fun c hcm => ?_,fun c hcm => ?_,CX h.ca.srt hno⟩
  ·rcases (a c).1 hcm with rfl|hcm
   ·exact hin
   ·exact h.ca.file c hcm
  ·rw[d];rcases (a c).1 hcm with rfl|hcm
   ·show 0≤(g:Int)∧(g:Int)<_;omega
   ·exact h.ca.lt c hcm
  rcases (a c).1 hcm with rfl|hcm
  ·rw[j,if_pos (bG g)];exact⟨by show (1:Int)≤1;decide,rfl,rfl⟩
  ·rw[b _ (u c hcm)];exact h.ca.fr c hcm
 have z:∀f' i',aR (qd m1 g (dF m1 f i) f i) f' i' = aR m1 f' i':=by
  intro f' i'
  by_cases e:f' = f∧i' = i
  ·rw[e.1,e.2];have h1:=eG o ((a ⟨f,i,g⟩).2 (.inl rfl));rw[show (⟨f,i,(g:Int)⟩:Cc).f=f from rfl,show (⟨f,i,(g:Int)⟩:Cc).i=i from rfl] at h1;rw[h1,j,if_pos (bG g),eu hno];rfl
  rcases kL m1 f' i' with ⟨c,hl,hcm,hcf,hci⟩|⟨hl,hno'⟩
  ·subst hcf;subst hci;rw[eG h.ca hcm,eG o ((a c).2 (.inr hcm)),b _ (u c hcm)]
  rw[eu hno',eu (fun c hcm => ?_),l];rcases (a c).1 hcm with rfl|hcm
  ·exact fun e'=>e ⟨e'.1.symm,e'.2.symm⟩
  ·exact hno' c hcm
 have w:∀p n,aF (qd m1 g (dF m1 f i) f i) p n=aF m1 p n:=fun _ _=>rfl;have t:∀p n,(aF m1 p n).k=1→(aF m1 p n).n.toNat≠g:=by intro p n hk e;have h3:=kE (m:=m1) (p:=p) (n:=n) (by rw[hk];decide);have h5:=(cz _).1 (jL h.pt p n);have h4:=(ji (m:=m1) (kd:=1) (i:=g) (by decide)).2 ⟨p,n,h3.1,h3.2,hk,by omega⟩;omega
 refine⟨⟨hf,h.trim,h.live,o,fun p n hk => ?_,fun x hx => ?_,fun x hx h0 => ?_,h.cs⟩,⟨fun c hcm => ?_,fun c hcm hd => ?_,fun x hx hd => ?_⟩,?_⟩
 ·rw[w] at hk ⊢;obtain⟨y,hy,s⟩:=h.en p n hk;exact⟨y,hy,s.sw,by rw[d];exact s.lt,fun ha=>by rw[b _ (t p n ha)];exact s.fr ha⟩
 ·have a1:tO (qd m1 g (dF m1 f i) f i) x=tO m1 x+sU (decide ((g:Int)=x)):=xX _ _ _ _ (CV _ _ _);have a2:bN (qd m1 g (dF m1 f i) f i) 1 x=bN m1 1 x:=rfl;rw[j,a1,a2]
  by_cases e:x=g
  ·subst e;rw[if_pos rfl,q.1,q.2];have:sU (decide ((x:Int)=(x:Int)))=1:=by simp[sU]
   rw[this];rfl
  rw[if_neg e];have:sU (decide ((g:Int)=(x:Int)))=0:=by unfold sU;rw[if_neg];simp only[decide_eq_true_eq];omega
  rw[this];exact h.cf x (by rw[←d];exact hx)
 ·by_cases e:x=g
  ·exact⟨⟨f,i,g⟩,(a _).2 (.inl rfl),by rw[e]⟩
  rw[b x e] at h0;obtain⟨c,hcm,hh⟩:=h.fc x (by rw[←d];exact hx) h0;exact⟨c,(a c).2 (.inr hcm),hh⟩
 ·rcases (a c).1 hcm with rfl|hcm
  ·rw[j,if_pos (bG g)];exact Fs m1 f i
  ·rw[b _ (u c hcm)];exact hc.tail c hcm
 ·rcases (a c).1 hcm with rfl|hcm
  ·rw[j,if_pos (bG g),l];rfl
  rw[b _ (u c hcm)] at hd ⊢;rw[l];exact hc.clean c hcm hd
 ·by_cases e:x=g
  ·rw[j,if_pos e] at hd;cases hd
  ·rw[b x e] at hd ⊢; exact hc.anon x (by rw[←d];exact hx) hd
 refine CS h.pt (fE.of rfl) (lm.refl _) (fun f' i' _=>z f' i') fun p n y hy => ?_;rw[w];refine oW h.pt.st (h.pt.pg hy).1 (lm.refl _) (fun f' i' _=>z f' i') (fun hk => ?_) (fun _=>⟨rfl,rfl⟩);have:=b _ (t p n hk);exact⟨congrArg Fr.p this,congrArg Fr.f this⟩
structure Vx (m m' : Ma) (f i r:Int):Prop where
 rt:Rt m'
 co:Co m'
 vis:EG m m'
 len:m'.m.fs.length=m.m.fs.length
 sll:m'.sl.length=m.sl.length
 ents:∀p n,(aF m p n).k≠1→aF m' p n=aF m p n
 no:r<0→fB m.m.fs=0
 yes:0≤r→⟨f,i,r⟩∈m'.ca
 inv:Inv m m'
theorem FV {k:Kp} {f i:Int} (h:Rt k.m) (hc:Co k.m) (hin:ni k.m.st f i):(fw k f i).1.e=k.e∧Vx k.m (fw k f i).1.m f i (fw k f i).2:=by
 unfold fw
 by_cases his:Gq k.m.ca f i=true
 ·rw[if_pos his];obtain⟨c,r,hh,hf⟩:=EB his;have a:=dn r;have hi:wz k.m (tQ k.m.ca f i)=c:=by unfold wz;rw[bJ,r];rfl
  have hj:=h.ca.lt c a;have s:=h.ca.fr c a;obtain⟨a1,a2,a3⟩:=Nq h hc (g:=c.k.toNat) (by omega) (by omega);simp only[hi];have y:c.k.toNat<k.m.m.fs.length:=by omega
  refine⟨trivial,a1,a2,a3,dw,rfl,fun _ _ _=>rfl,fun h0=>by omega,fun _ => ?_,Rz.inv (.of rfl rfl fun d hd _=>⟨hd,?_⟩) h hc a1 a2⟩
  rotate_left
  ·rw[fK y]
   by_cases e:d.k.toNat=c.k.toNat
   ·rw[if_pos e,e];exact⟨rfl,rfl⟩
   ·rw[if_neg e];exact⟨rfl,rfl⟩
  have:(⟨f,i,c.k⟩:Cc)=c:=by rw[←hh,←hf]
  rw[this];exact a
 rw[if_neg his];have t:∀c∈k.m.ca,¬(c.f=f∧c.i=i):=fun c a e=>his ((Gv h.ca.srt).2 ⟨c,a,e⟩);have ha:Ef k f i=k.e:=by
  unfold Ef
  by_cases hb:0≤bD k.m.st f i
  ·rw[if_pos hb];have:aK k.m.dk (bD k.m.st f i)=0:=iV.2 ⟨h.pt.dk,hb,by rw[h.pt.dkl];exact (block_lt h.pt.st hin).2⟩;rw[this];unfold iK;split<;>simp_all
  ·rw[if_neg hb]
 rw[ha];have q:=AA h.pt.st hin;have w:bU (bz (dF k.m f i) f i)=0:=by rw[dJ];have h1:=hin.1;have h2:=hin.2;exact⟨⟨by show (0:Int)≤1;decide,by show (1:Int)≤1000;decide,by show -1≤f;omega,q.1,h2.1,q.2.1⟩,fun (e:(1:Int)=0)=>absurd e (by decide),fun (e:f<0)=>by omega⟩
 rcases zJ (k:=⟨k.m,k.e⟩) (p:=dF k.m f i) (f:=f) (i:=i) h hc w with ⟨g,m1,o,hF,hg,hz,ht⟩|⟨m1,hF,ht,h0⟩
 ·simp only[ht];rw[if_neg (by omega)];have l:∀c∈m1.ca,¬(c.f=f∧c.i=i):=fun c a=>t c ((hF.cas c).1 a).1;have v:ni m1.st f i:=hin.same hF.vis.files hF.vis.lenb;have hd:dF k.m f i=dF m1 f i:=by rw[←eu t,←eu l];exact (hF.vis.con f i hin).symm
  rw[hd];obtain⟨b1,b2,b3⟩:=Vb hF.rt hF.co hg hz v l;refine⟨rfl,b1,b2,hF.vis.trans b3,dw.trans hF.len,hF.sll,fun p n hk => ?_,fun h0=>by simp only at h0;omega,fun _=>(Cz (CV _ _ _)).2 (.inl rfl),hF.inv.trans (Rz.inv (.of rfl rfl fun d hd z => ?_) hF.rt hF.co b1 b2)⟩
  rotate_left
  ·have s:∀x,aD (qd m1 g (dF m1 f i) f i) x=if x=g then bz (dF m1 f i) f i else aD m1 x:=fun x=>fK hg x;have j : (aD (qd m1 g (dF m1 f i) f i) d.k.toNat).d=true:=z;rw[s] at j;have u:d.k.toNat≠g:=fun e=>by rw[if_pos e] at j; cases j
   have b:=s d.k.toNat;rw[if_neg u] at b;rcases (Cz (CV _ _ _)).1 hd with rfl|hd'
   ·exact absurd (bG g) u
   ·exact⟨hd',congrArg Fr.d b,congrArg Fr.p b⟩
  exact hF.ents p n (fun e=>absurd e hk)
 simp only[ht];rw[if_pos (by decide)];exact⟨rfl,hF.rt,hF.co,hF.vis,hF.len,hF.sll,fun p n hk=>hF.ents p n (fun e=>absurd e hk),fun _=>h0,fun (e:(0:Int)≤-1)=>absurd e (by decide),hF.inv⟩
theorem Qp (k:Kp) (p:Nat) (n:Int) (x:En):(cZ k p n x).m.sp.length=k.m.sp.length:=by
 unfold cZ;split
 ·exact qQ
 ·rfl
theorem NV (k:Kp) (p:Nat) (n:Int) (x:En):(cZ k p n x).m.ca=k.m.ca:=by unfold cZ;split<;>rfl
theorem PM (k:Kp) (p:Nat) (n:Int) (x:En):(cZ k p n x).m.m=k.m.m:=by unfold cZ;split<;>rfl
theorem OI (k:Kp) (f n:Int):(dK k f n).m.sp=k.m.sp:=by unfold dK;split<;>rfl
theorem Pz (k:Kp) (f n:Int):(dK k f n).m.ca=k.m.ca:=by unfold dK;split<;>rfl
theorem Px (k:Kp) (f n:Int):(dK k f n).m.m.fs.length=k.m.m.fs.length:=by
 unfold dK;split
 ·rename_i h;show (lQ k.m.m f n).fs.length=_;unfold lQ;rw[if_pos h];exact cO
 ·rfl
theorem OJ (k:Kp) (f n:Int):(lY k f n).m.sp=k.m.sp:=by unfold lY;split<;>rfl
theorem Oi (k:Kp) (f n:Int):(lY k f n).m.ca=k.m.ca:=by unfold lY;split<;>rfl
theorem PK (k:Kp) (f n:Int):(lY k f n).m.m=k.m.m:=by unfold lY;split<;>rfl
structure jv (k k' : Kp):Prop where
 sp:k'.m.sp.length=k.m.sp.length
 ca:k'.m.ca=k.m.ca
 fs:k'.m.m.fs.length=k.m.m.fs.length
theorem jv.refl (k:Kp):jv k k:=⟨rfl,rfl,rfl⟩
theorem jv.trans {a b c:Kp} (h:jv a b) (k:jv b c):jv a c:=⟨k.sp.trans h.sp,k.ca.trans h.ca,k.fs.trans h.fs⟩
theorem jv.enter (k:Kp) (p:Nat) (n:Int) (x:En):jv k (cZ k p n x):=⟨Qp k p n x,NV k p n x,by rw[PM]⟩
theorem jv.hold (k:Kp) (f n:Int):jv k (dK k f n):=⟨by rw[OI],Pz k f n,Px k f n⟩
theorem jv.shold (k:Kp) (f n:Int):jv k (lY k f n):=⟨by rw[OJ],Oi k f n,by rw[PK]⟩
theorem jv.drop (k:Kp) (p:Nat) (n:Int):jv k (iG k p n):=by
 unfold iG;simp only;split
 ·exact (jv.hold _ _ _).trans (jv.enter _ _ _ _)
 split
 ·exact (jv.shold _ _ _).trans (jv.enter _ _ _ _)
 ·exact .refl _
theorem jv.drops:∀(l:List (Nat × Int)) (k:Kp),jv k (kV k l)
 | [],k => .refl k
 | u::l,k=>(jv.drop k u.1 u.2).trans (jv.drops l _)
theorem jv.swap (f n:Int) (k:Kp) (u:Nat × Int):jv k (FI f n k u):=(jv.hold _ _ _).trans (jv.enter _ _ _ _)
theorem jv.swaps (f n:Int):∀(l:List (Nat × Int)) (k:Kp),jv k (rf k f n l)
 | [],k => .refl k
 | u::l,k=>(jv.swap f n k u).trans (jv.swaps f n l _)
theorem jv.clean (k:Kp) (f:Nat):jv k (jM k f):=by
 unfold jM;simp only;split
 ·exact .refl _
 ·exact⟨rfl,rfl,cO⟩
theorem Mq (k:Kp) (l:List (Nat × Int)) (j:Nat) (h:j<l.length):kV k (l.take (j+1))=iG (kV k (l.take j)) l[j].1 l[j].2:=by
 unfold kV;rw[mI,aN h,xG];rfl
theorem LC (k:Kp) (f n:Int) (l:List (Nat × Int)) (j:Nat) (h:j<l.length):rf k f n (l.take (j+1))=FI f n (rf k f n (l.take j)) l[j]:=by
 unfold rf;rw[mI,aN h,xG];rfl
theorem oD.stay (h:oD w B v ps) (hg:w.grownBy w' none):oD w' B v ps:=⟨jA h.own hg,fun k p hp=>jA (h.each k p hp) hg,h.apart⟩
theorem uM.stay {t:Tb} (h:uM w B cs t) (hg:w.grownBy w' none):uM w' B cs t:=
 ⟨h.sz,fun k hk=>by obtain⟨v,h1,h2⟩:=h.own k hk;exact⟨v,h1,jA h2 hg⟩,h.apart⟩
theorem iJ.cache {e:Int} (h:iJ w B b H e) (s:KS w0 b H0 w H) (hg:w.grownBy w1 (oB H.ac)) {l:List Cc} (ho:Own w1 B 124 3 (.slice a l.length c) l.length (l.flatMap jO)) (hsn:oB a=oB H.ac∨∀g,oB a=some g→w0.heap.size≤g) :
  aJ w1 b (lG H e) 192∧∀w2,aJ w2 b (dE (lG H e) 9 [.slice a l.length c]) 192→w1.grownBy w2 (some b)→iJ w2 B b { H with ac:=a,cc:=c,ca:=l } e∧KS w0 b H0 w2 { H with ac:=a,cc:=c,ca:=l }:=by
 have hK:aJ w1 b (lG H e) 192:=by refine h.blk.grown hg fun e => ?_;obtain⟨_,cs,hb⟩:=oC h.ma.ca e;exact wh h.blk hb (by decide) rfl
 have hm:qf w1 B { H with ac:=a,cc:=c,ca:=l }:=by
  cases hac:oB H.ac with
  | none=>
   rw[hac] at hg;exact⟨jA h.ma.fr hg,jA h.ma.sl hg,⟨jA h.ma.sw.b hg,jA h.ma.sw.q hg⟩,⟨jA h.ma.dk.b hg,jA h.ma.dk.q hg⟩,h.ma.st.stay hg,ho,jA h.ma.sp hg,fun q hq=>⟨jA (h.ma.ps q hq).1 hg,(h.ma.ps q hq).2.stay hg⟩,h.ma.c64⟩
  | some g=>
   rw[hac] at hg;obtain⟨_,cs,hb⟩:=oC h.ma.ca hac;exact⟨ay h.ma.fr hb (by decide) hg,ay h.ma.sl hb (by decide) hg,h.ma.sw.keep hb (by decide) (by decide) hg,h.ma.dk.keep hb (by decide) (by decide) hg,h.ma.st.keep hb (by decide) (by decide) hg,ho,ay h.ma.sp hb (by decide) hg,fun q hq=>⟨ay (h.ma.ps q hq).1 hb (by decide) hg,(h.ma.ps q hq).2.keep hb (by decide) hg⟩,h.ma.c64⟩
 have s1:KS w0 b H0 w1 H:=by
  cases hac:oB H.ac with
  | none=>
   rw[hac] at hg;exact⟨hg.os.trans s.os,hg.tape.trans s.tape,hg.output.trans s.output,aY s.size hg.size,fun x hx hn=>(hg.block x (nO hx s.size) (by simp)).trans (s.keep x hx hn),s.sn⟩
  | some g=>rw[hac] at hg;exact s.put hg (.inr (.inr (.inl hac))) fun x hx => .inl hx
 refine⟨hK,fun w2 hb d=>⟨⟨hb,h.ge,?_,h.tz⟩,s1.put d (.inl rfl) fun x hx => ?_⟩⟩
 ·exact⟨ay hm.fr hK (by decide) d,ay hm.sl hK (by decide) d,hm.sw.keep hK (by decide) (by decide) d,hm.dk.keep hK (by decide) (by decide) d,hm.st.keep hK (by decide) (by decide) d,ay hm.ca hK (by decide) d,ay hm.sp hK (by decide) d,fun q hq=>⟨ay (hm.ps q hq).1 hK (by decide) d,(hm.ps q hq).2.keep hK (by decide) d⟩,hm.c64⟩
 rcases hx with hx|hx|hx|hx
 ·exact .inl (.inl hx)
 ·exact .inl (.inr (.inl hx))
 ·rcases hsn with e|e
  ·exact .inl (.inr (.inr (.inl (by rw[←e];exact hx))))
  ·exact .inr (e x hx)
 ·exact .inl (.inr (.inr (.inr hx)))
theorem Ol {k:Kp} (h:iZ k.m f=false):jM k f=k:=by
 unfold iZ at h;simp only[CG,decide_eq_false_iff_not] at h;unfold jM;simp only;rw[if_pos (.inr (.inr h.2))]
theorem Nh (u:Nat × Int):(uC u).all (·.oneCell')=true:=by simp[uC,Value.oneCell']
theorem slca_size:(Tryz.prog.info? 41).map (·.size)=some 1:=by kernel_rfl
theorem VA {l:List (Nat × Int)} (h:dV w a (l.flatMap uL)) (k:Nat) (hk:k<l.length):∃b off,a=some ⟨b,off,none⟩∧dV w (some ⟨b,off+k*2,none⟩) [.int .i64 l[k].1,.int .i64 l[k].2]:=nU Ww (by decide) h k hk
theorem LY (H:MH) (e:Int) (f:Nat) (B b:Nat) (w:World) (h:iJ w B b H e) (hf:f<H.m.fs.length) (hz:H.sp.length≤1000) (hz2:H.ca.length≤1000) :
  Calls Tryz.prog 183 #[.pointer (some ⟨b,0,none⟩),.int .i64 f] w fun r w'=>r = .returned (.bool (jr H.ma f))∧KR w B b H w' (fU ⟨H.ma,e⟩ f):=by
 obtain⟨g,off,cur,k2,gs,kZ,kU,kJ,gr,gq,kH⟩:=h.frame hf;generalize hx:aD H.ma f=x at *
 have hR:=ae hx;clear hx kH gr;have hc:=h.blk.cell;unfold lG at hc;rw[k2] at hc;have gJ:(f:Int)<(H.m.fs.length:Int):=by omega
 go_enter func183,ntmps183
 go_wp2_with (first | (refine aA _ _ rfl g (off+f*13) rfl rfl _ kJ _ underlying132 rfl frame_size ?_) | (refine aW rfl _ _ _ rfl (yG x) rfl rfl rfl frame_size (uW x) ?_))
 intro w1 ky kn;have h1:=h.below ky;have s1:=(KS.refl w b H).below ky;have hp:¬kb b H w.heap.size:=fun hk=>by obtain⟨cs,T,hb,_⟩:=h.kb_T hk;have:=hb.lt;omega
 have ga:=ae h.bs;clear hc kJ kZ kU ky gs gq k2 h
 go_wp2_with fail
 refine (KT H e f B b _ h1 hz).mono ?_;rintro r w2 ⟨v2,rfl,hL,hX⟩;obtain⟨a2,c2,rfl,_⟩:=hL.rd;have h2:=h1.below hX;have s2:=s1.below hX;have hs:=kn.ext hX;have gE:=kn.lt;clear h1 s1 kn hX;have hB:=hs.cell;unfold yG at hB
 by_cases hxf:0≤x.f
 ·go_wp2_with fail
  refine (ML H e f B b _ h2 hf).mono ?_;rintro r w3 ⟨rfl,H3,e3,h3,s3,q3⟩;have hy:=s3.own h2 (hL.mono (bK _)) (by decide);have hN:¬kb b H w.heap.size:=hp;have km:=s3.blkN hs hN;have ki:¬kb b H3 w.heap.size:=fun hk=>(s3.sn _ hk).elim hN (fun hh=>by have:=hs.lt;omega);have s03:=s2.trans s3;have kP:H3.sp.length=H.sp.length∧H3.ca=H.ca∧H3.m.fs.length=H.m.fs.length:=by have hq:=jv.clean ⟨H.ma,e⟩ f;rw[←q3] at hq;exact⟨by have:=hq.sp;simp only[pI] at this;exact this,hq.ca,hq.fs⟩
  have gf:=hs.lt;clear hB hs hL h2 s2 s3 hp hN;cases hcb:iZ H.ma f with
  | false=>
   have hq:Hid (fU ⟨H.ma,e⟩ f=⟨H.ma,e⟩∧jr H.ma f=false):=ae (by unfold fU jr;simp only[hR.out];rw[if_pos hxf,if_pos hcb,if_pos hxf];exact⟨rfl,hcb⟩);rw[Ol (k:=⟨H.ma,e⟩) hcb] at q3;have gi:=ae q3;clear q3 km;go_wp2;go_ret;rw[hq.out.1,hq.out.2];exact⟨rfl,_,_,h3,s03,gi.out⟩
  | true=>
   have hu:Hid (aZ H.ma f=aZ H.ma f):=ae rfl;have gk:(aZ H.ma f).length≤64000:=by
    have:=BX H.ma f H.sp.length;have e1:rV H.ma f H.sp.length=aZ H.ma f:=by unfold rV aZ;rw[pI]
    rw[e1] at this;omega
   obtain⟨k3,kv⟩:∃k,k=jM ⟨H.ma,e⟩ f:=⟨_,rfl⟩;rw[←kv] at q3;have hI:∀u∈aZ H.ma f,u.1<H.sp.length:=fun u hu=>by have:=(um.1 hu).1;rw[pI] at this;exact this
   have hq:Hid (jr H.ma f=true∧fU ⟨H.ma,e⟩ f=if Gq (kV k3 (aZ H.ma f)).m.ca x.f x.i=true then dK ⟨{ (kV k3 (aZ H.ma f)).m with ca:=(kV k3 (aZ H.ma f)).m.ca.eraseIdx (tQ (kV k3 (aZ H.ma f)).m.ca x.f x.i) },(kV k3 (aZ H.ma f)).e⟩ f (-1) else kV k3 (aZ H.ma f)):=ae (by unfold fU jr;simp only[hR.out];rw[if_pos hxf,if_pos hxf,if_neg (by rw[hcb];decide),kv];exact⟨hcb,rfl⟩);generalize aZ H.ma f=l at *
   have q3':=ae q3;have hH:=ae hI;clear q3 hcb kv hu hI;go_upto_region 7 with (fail)
   go_loopw [38] (fun s38 wr => ∃(j:Nat) (Hj:MH) (ej:Int),j≤l.length∧s38 = .int .i64 j∧iJ wr B b Hj ej∧KS w b H wr Hj∧Hid (Kp.mk Hj.ma ej=kV k3 (l.take j))∧Own wr 0 226 2 (.slice a2 l.length c2) l.length (l.flatMap uL)∧aJ wr w.heap.size (yG x) 132∧¬kb b Hj w.heap.size∧Hj.sp.length=H.sp.length∧Hj.ca=H.ca) (fun s38 _=>l.length-(intOf s38).toNat)
   case atStart=>exact⟨0,H3,e3,bK _,rfl,h3,s03,ae (by rw[q3'.out];rfl),hy,km,ki,kP.1,kP.2.1⟩
   case round=>
    clear hy km ki h3 s03;obtain⟨j,Hj,ej,hj,rfl,ha,sj3,qj,z,hQ,kh,hM,kx⟩:=hrel
    by_cases hjl:j<l.length
    ·have kw:(j:Int)<(l.length:Int):=by omega
     obtain⟨_,_,e9,_,_,_,hG⟩:=z.rd;cases e9;obtain⟨bl,ol,rfl,hF⟩:=VA hG j hjl;have ko:l[j].1<H.sp.length:=hH.out _ (eX hjl)
     go_wp2_with (first | (refine aA _ _ rfl bl (ol+j*2) rfl rfl _ hF _ underlying226 rfl us_size ?_) | (refine aW rfl _ _ _ rfl (uC l[j]) rfl rfl rfl us_size (Nh _) ?_))
     intro w5 hl kG;have h5:=ha.below hl;have s5:=sj3.below hl;have hJ:=z.below hl;have hD:=hQ.ext hl;have gB:=hD.lt;clear ha sj3 z hQ hG hF hl;have kY:=kG.cell;unfold uC at kY
     go_wp2_with fail
     refine (xu Hj ej l[j].2 l[j].1 B b _ h5 (by rw[hM];exact ko)).mono ?_;rintro r w6 ⟨rfl,H6,e6,h6,s6,q6⟩;have s:=s6.own h5 hJ (by decide);have ge:=s6.blkN hD kh;have kR:¬kb b H6 w.heap.size:=fun hk=>(s6.sn _ hk).elim kh (fun hh=>by omega);have s06:=s5.trans s6;have hU:H6.sp.length=H.sp.length∧H6.ca=H.ca:=by have hq:=jv.drop ⟨Hj.ma,ej⟩ l[j].1 l[j].2;rw[←q6] at hq;exact⟨by have:=hq.sp;simp only[pI] at this;rw[this,hM],by have:=hq.ca;exact Eq.trans this kx⟩
     have ks:Hid (Kp.mk H6.ma e6=kV k3 (l.take (j+1))):=ae (by rw[Mq k3 l j hjl,←qj.out];exact q6);clear q6 h5 s5 hJ hD kY kG s6;go_wp2;go_roundw
     case rel=>exact⟨j+1,H6,e6,by omega,by go_num,h6,s06,ks,s,ge,kR,hU.1,hU.2⟩
     case measure=>simp[intOf];omega
    have kw:¬(j:Int)<(l.length:Int):=by omega
    rw[mK (by omega)] at qj;clear z;generalize hkd:kV k3 l=kd at *
    clear hkd;have hB:=hQ.cell;unfold yG at hB;have kK:=ae (show kd.m.ca=Hj.ca by rw[←qj.out];rfl);have gp:Hj.ca.length≤1000:=by rw[kx];exact hz2
    clear kx hM
    go_wp2_with fail
    refine (Ce Hj ej x.f x.i B b _ ha).mono ?_;rintro r w5 ⟨rfl,hl⟩;have h5:=ha.below hl;have s5:=sj3.below hl;clear ha sj3 hl hB hQ;cases hi:Gq Hj.ca x.f x.i with
    | false=>
     have kt:Hid (fU ⟨H.ma,e⟩ f=kd):=ae (by rw[hq.out.2,kK.out,hi];rfl);generalize tQ Hj.ca x.f x.i=k at *
     go_wp2;go_ret;rw[hq.out.1,kt.out];exact⟨rfl,_,_,h5,s5,qj.out⟩
    | true=>
     have kt:Hid (fU ⟨H.ma,e⟩ f=dK ⟨{ kd.m with ca:=Hj.ca.eraseIdx (tQ Hj.ca x.f x.i) },kd.e⟩ f (-1)):=ae (by rw[hq.out.2,kK.out,hi,if_pos rfl]);obtain⟨c,hc,_,_⟩:=EB hi;have kQ:=(dC.1 hc).1;clear hc hi;generalize tQ Hj.ca x.f x.i=k at *
     have kW:=h5.blk.cell;unfold lG at kW;have gF:(k:Int)+1≤1000:=by omega
     have hS:IntKind.i64.wrap ((k:Int)+1)=(k:Int)+1:=dS _ (by omega)
     go_wp2_with fail
     refine (KG Hj.ca k kQ Hj.ac Hj.cc B _ h5.ma.ca gp).mono ?_;rintro r w6 ⟨rfl,s,hg⟩;have kg:(Hj.ca.eraseIdx k).length=Hj.ca.length-1:=ze kQ;rw[←kg] at s;obtain⟨hK,kp⟩:=h5.cache s5 hg (a:=Hj.ac) (c:=Hj.cc) (l:=Hj.ca.eraseIdx k) s (.inl rfl);rw[kg] at kp;clear kW h5 s5 s hg
     go_wp2_with (refine aX rfl _ _ _ rfl b 9 _ [.slice Hj.ac (Hj.ca.length-1) Hj.cc] rfl rfl rfl _ _ hK (by show 9+1≤12;decide) slca_size (fun u hu=>by cases bF.1 hu;rfl) ?_)
     intro w7 hP hr;obtain⟨h7,s7⟩:=kp w7 hP hr;clear kp hK hP hr
     go_wp2_with fail
     refine (xm _ ej f (-1) B b _ h7).mono ?_;rintro r w8 ⟨rfl,gm⟩;go_wp2;go_ret;rw[hq.out.1,kt.out,←qj.out];exact⟨rfl,KR.trans s7 gm⟩
 have kj:=h2.blk.cell;unfold lG at kj;have hm:=h2.ma.rd.sl;have gk:(aZ H.ma f).length≤64000:=by
  have:=BX H.ma f H.sp.length;have e1:rV H.ma f H.sp.length=aZ H.ma f:=by unfold rV aZ;rw[pI]
  rw[e1] at this;omega
 have hI:∀u∈aZ H.ma f,u.1<H.sp.length:=fun u hu=>by have:=(um.1 hu).1;rw[pI] at this;exact this
 have kr:Hid (jr H.ma f=decide (ic H.sl (aZ H.ma f).length=0)):=ae (by unfold jr;rw[hR.out,if_neg hxf];rfl);have kq:Hid (fU ⟨H.ma,e⟩ f=if ic H.sl (aZ H.ma f).length≠0 then ⟨H.ma,e⟩ else rf ⟨{ H.ma with sl:=lS H.sl (aZ H.ma f).length,sw:=dG H.sw (jN H.sl (aZ H.ma f).length) x.p },iK e (aK H.sw (jN H.sl (aZ H.ma f).length))⟩ f (jN H.sl (aZ H.ma f).length) (aZ H.ma f)):=ae (by unfold fU;simp only[hR.out];rw[if_neg hxf];rfl);generalize aZ H.ma f=l at *
 have hH:=ae hI;clear hI
 go_wp2_with fail
 refine (LV H.sl H.asl H.csl (l.length:Int) _ hm.le hm.nl hm.rd (by have:=hm.le;have:=hm.mx;unfold maxLen at this;omega)).mono ?_;rintro r w3 ⟨v3,rfl,hy,hv⟩;obtain⟨a3,c3,rfl,_⟩:=hy.rd;have k3:=h2.below hv;have s3:=s2.below hv;have kx3:=hs.ext hv;have kf:=hL.below hv;have gg:=ae s2.size;clear hB kj h2 s2 hs hL hv hm
 by_cases hE:ic H.sl l.length=0
 ·have hq:Hid (jr H.ma f=true∧fU ⟨H.ma,e⟩ f=rf ⟨{ H.ma with sl:=lS H.sl l.length,sw:=dG H.sw (jN H.sl l.length) x.p },iK e (aK H.sw (jN H.sl l.length))⟩ f (jN H.sl l.length) l):=ae (by rw[kr.out,kq.out,hE];exact⟨rfl,rfl⟩);rw[hE];clear hE kr kq;generalize jN H.sl l.length=N at *
  go_upto_region 19 with (fail);refine gI 15 [_,_,_,_,_,_,_,_,.r 8 ((BI w3.heap.size (dG H.sw N x.p) (aK H.sw N))),.r 9 ((BI w3.heap.size (dG H.sw N x.p) (aK H.sw N))),.r 10 ((xU w3.heap.size (dG H.sw N x.p))),.v (.int .i64 (aK H.sw N)),.r 12 ((fe w3.heap.size 37 2)),.y 13 ((Jj 12 w3.heap.size 37 (xU w3.heap.size (dG H.sw N x.p)))),.v (.int .i64 (aK H.sw N))] (fun W=>Below w3.heap.size w3 W) bn (Below.refl _ _) (Yk bn rfl (Yk bn rfl (Yf bn b 0 rfl rfl (Yf bn b 3 rfl rfl (Yr bn (.agg #[.slice H.wb H.sw.blocks.length H.cwb,.slice H.wq H.sw.queue.length H.cwq]) (fun ρ y W hb kz=>(bM rfl (aV rfl kz) (k3.below hb).rdW underlying37 rfl disk_size)) rfl rfl (Yk bn rfl (Yf bn w.heap.size 0 rfl rfl (Yr bn (.agg (gZ x.p)) (fun ρ y W hb kz=>(bM rfl (aV rfl kz) (bW (kx3.ext hb) 0 8) underlying100 rfl psize)) rfl rfl (aj ?_ (aj ?_ (aj ?_ (aj ?_ (aj ?_ (aj ?_ (Yk bn rfl (aG)))))))))))))))) (fun _=>rfl) rfl ?_
  ·intro ρ y W hw hn hb hd;refine eH bn hb ((BI w3.heap.size (dG H.sw N x.p) (aK H.sw N))) (fun _ _ h=>h) ?_;have gz:=hw 94 4 rfl;have h4:y 4 = .agg #[.slice H.wb H.sw.blocks.length H.cwb,.slice H.wq H.sw.queue.length H.cwq]:=hd 4 rfl;have gy:=hw 95 5 rfl;have h5:y 5 = .int .i64 N:=hd 5 rfl;have gx:=hw 97 7 rfl;have h7:y 7 = .agg (gZ x.p):=hd 7 rfl;have EF:∀f,ρ (.func f) = .func (.func f) #[] #[]:=fun f=>hn (.func f) trivial;refine aL _ _ (ag rfl) (aS rfl (EF _) func178 (by kernel_rfl) (by kernel_rfl) (by simp only[bT,bH,bL,gz,h4,gy,h5,gx,h7,EF];rfl)) ?_;refine (DD H.sw N x.p H.wb H.cwb H.wq H.cwq W (k3.below hb).ma.rd.sw).mono ?_;rintro r W3 ⟨vb,vq,rfl,ho,hv⟩;exact⟨_,rfl,hv,vb,vq,rfl,ho.mono hb.size⟩
  ·intro ρ y W hw hn hb hd;refine eH bn hb ((BI w3.heap.size (dG H.sw N x.p) (aK H.sw N))) (fun _ _ h=>h) ?_;have gw:=hw 98 8 rfl;have h8:=hd 8 rfl;refine ak _ (ag rfl) (run_move (.inl rfl) gw) ?_;exact h8
  ·intro ρ y W hw hn hb hd;refine eH bn hb ((xU w3.heap.size (dG H.sw N x.p))) (fun _ _ h=>h) ?_;have kA:=hw 89 9 rfl;have h9:=hd 9 rfl;obtain⟨vb,vq,hu,ho⟩:=h9;refine ak (.agg #[vb,vq]) (ag rfl) (by simp[execOp,go_sem,bu,kA,hu]) ?_;exact⟨vb,vq,rfl,ho⟩
  ·intro ρ y W hw hn hb hd;refine eH bn hb (gX (.int .i64 (aK H.sw N))) (fun _ _ h=>h) ?_;have kA:=hw 89 9 rfl;have h9:=hd 9 rfl;obtain⟨vb,vq,hu,ho⟩:=h9;refine ak (.int .i64 (aK H.sw N)) (ag rfl) (by simp[execOp,go_sem,bu,kA,hu]) rfl
  ·intro ρ y W hw hn hb hd;refine eH bn hb ((fe w3.heap.size 37 2)) (fun _ _ h=>h) ?_;refine gH (.pointer (some ⟨W.heap.size,0,none⟩)) (ag rfl) (by simp[execOp,go_sem,bu]) ((Below.refl _ _).alloc (az _) (.cells #[.slice none 0 0,.slice none 0 0] 37)) ?_;exact⟨_,_,rfl,hb.size,aJ.new _ _ _,rfl⟩
  ·intro ρ y W hw hn hb hd;have gA:=hw 14 12 rfl;have gt:=hd 12 rfl;have gv:=hw 99 10 rfl;have gu:=hd 10 rfl;obtain⟨vb,vq,e7,ku⟩:=gu;obtain⟨g3,cur3,e9,kT,hC,kI⟩:=gt;obtain⟨ab,cb,rfl,_⟩:=ku.b.rd;obtain⟨aq,cq,rfl,_⟩:=ku.q.rd;refine jc (ag rfl) _ _ _ rfl g3 0 (.agg #[.slice ab _ cb,.slice aq _ cq]) [.slice ab _ cb,.slice aq _ cq] (gA.trans e9) (gv.trans e7) rfl cur3 _ hC (by rw[kI];exact az _) disk_size (fP (pU _ _ _ _ _ _)) ?_;intro w1 hS hA;rw[show ∀(p q:Value),[p,q]=(#[p,q]:Array Value).toList from fun _ _=>rfl,eB cur3 _ (by rw[kI];rfl)] at hS;refine⟨hb.grown hA hb.size (fun k hk=>by cases hk;exact kT),⟨g3,_,e9,kT,hS,⟨_,_,rfl,ku.keep hC (by decide) (by decide) hA⟩⟩,?_⟩;intro k hk gj
   match k,hk,gj with
   | 0,_,_=>exact fun h=>h
   | 1,_,_=>exact fun h=>h
   | 2,_,_=>exact fun h=>h
   | 3,_,_=>exact fun h=>h
   | 4,_,_=>exact fun h=>h
   | 5,_,_=>exact fun h=>h
   | 6,_,_=>exact fun h=>h
   | 7,_,_=>exact fun h=>h
   | 8,_,_=>exact fun⟨c,q0,q1,q2⟩=>⟨c,q0,q1,q2.keep hC (by decide) (by decide) hA⟩
   | 9,_,_=>exact fun⟨c,q0,q1,q2⟩=>⟨c,q0,q1,q2.keep hC (by decide) (by decide) hA⟩
   | 10,_,_=>exact fun⟨c,q0,q1,q2⟩=>⟨c,q0,q1,q2.keep hC (by decide) (by decide) hA⟩
   | 11,_,_=>exact fun h=>h
   | 12,_,_=>exact fun q=>iB q hS (fun _=>rfl) ⟨_,hC⟩ hA
   | 13,_,h=>exact absurd rfl h
   | 14,_,_=>exact fun h=>h
   | n+15,h,_=>exact absurd h (by omega)
  intro y W4 d t;replace d:Below w3.heap.size w3 W4:=d;have gc:((BI w3.heap.size (dG H.sw N x.p) (aK H.sw N))).r (y 8) W4:=t 8 (by decide);have gb:((BI w3.heap.size (dG H.sw N x.p) (aK H.sw N))).r (y 9) W4:=t 9 (by decide);have kD:((xU w3.heap.size (dG H.sw N x.p))).r (y 10) W4:=t 10 (by decide);have kC:((fe w3.heap.size 37 2)).r (y 12) W4:=t 12 (by decide);have kB:=t 13 (by decide);clear t;simp only[dD,bu,bH,bL];obtain⟨gd,cd,gD,gG,k0,vb,vq,hV,hT⟩:=kB;simp only[wY] at hV;subst hV;obtain⟨ab,cb,rfl,_⟩:=hT.b.rd;obtain⟨aq,cq,rfl,_⟩:=hT.q.rd;have k4:=k3.below d;have s4:=s3.below d;have kx4:=kx3.ext d;have ke:=kf.below d;have hZ:=hy.below d;have gh:=ae s3.size;have gC:=kx4.lt;clear gc gb kD kC k3 s3 kx3 kf hy d
  go_wp2_with fail
  refine (qV _ e (aK H.sw N) _ _ _ k4).mono ?_;rintro r w5 ⟨rfl,k5,ht⟩;have s5:=s4.putB ht rfl rfl rfl;have kx5:aJ w5 w.heap.size (yG x) 132:=kx4.grown ht (fun e=>hp (.inl (aT e).symm));have kc:=ay ke k4.blk (by decide) ht;have hY:=ay hZ k4.blk (by decide) ht;have hJ:=hT.keep k4.blk (by decide) (by decide) ht;have hO:=aH k0 k4.blk (by decide) ht;clear k4 s4 kx4 ke hZ hT k0 ht;have hcb:=k5.blk.cell;have gn:=k5.blk.free;unfold lG at hcb;have hV:=hO.cell;have n2:=wh k5.blk hO (by decide);go_upto_region 21 with (fail)
  go_region
  refine TG (w:=w5.setCells b 2 [.slice a3 (lS H.sl l.length).length c3]) (b:=b) (o:=3) (vs:=[.slice ab (dG H.sw N x.p).blocks.length cb,.slice aq (dG H.sw N x.p).queue.length cq]) (fun W=>Exit.then _ _ _ _ W) fun w7 hr hP => ?_;have hg:=aB w5 b 2 [.slice a3 (lS H.sl l.length).length c3];have k1:=k5.blk.setCells [.slice a3 (lS H.sl l.length).length c3] 2;have k6:=k5.setL (hY.mono (aY ga.out gg.out)) k1 hg;have s6:=s5.putB (H':={ H with asl:=a3,csl:=c3,sl:=lS H.sl l.length }) hg rfl rfl rfl;have s:=hJ.keep k5.blk (by decide) (by decide) hg;have ka:=ay kc k5.blk (by decide) hg;have kx6:=kx5.grown hg (fun e=>hp (.inl (aT e).symm));have kl:=hP k6.blk;have k7:=k6.setW (s.mono (aY ga.out gh.out)) kl hr;have s7:=s6.putB (H':={ H with asl:=a3,csl:=c3,sl:=lS H.sl l.length,wb:=ab,cwb:=cb,wq:=aq,cwq:=cq,sw:=dG H.sw N x.p }) hr rfl rfl rfl;have h0:=(ay ka k6.blk (by decide) hr).mono (bK _);have kx7:=kx6.grown hr (fun e=>hp (.inl (aT e).symm));clear hP kl hr k6 s6 s ka kx6 k1 hg k5 s5 kx5 kc hY hJ hO hcb gn hV;generalize hH7:({ H with asl:=a3,csl:=c3,sl:=lS H.sl l.length,wb:=ab,cwb:=cb,wq:=aq,cwq:=cq,sw:=dG H.sw N x.p }:MH)=H7 at k7 s7;have kN:Hid (Kp.mk H7.ma (iK e (aK H.sw N))=⟨{ H.ma with sl:=lS H.sl l.length,sw:=dG H.sw N x.p },iK e (aK H.sw N)⟩):=ae (by rw[←hH7];rfl);have gl:H7.sp.length=H.sp.length:=by rw[←hH7]
  rw[←kN.out] at hq;clear hH7 kN;generalize iK e (aK H.sw N)=e7 at *
  generalize hk7:Kp.mk H7.ma e7=kk at *
  have kS:=ae hk7;clear hk7;go_upto_region 23 with (fail)
  go_loopw [116] (fun s116 wr => ∃(j:Nat) (Hj:MH) (ej:Int),j≤l.length∧s116 = .int .i64 j∧iJ wr B b Hj ej∧KS w b H wr Hj∧Hid (Kp.mk Hj.ma ej=rf kk f N (l.take j))∧Own wr 0 226 2 (.slice a2 l.length c2) l.length (l.flatMap uL)∧Hj.sp.length=H.sp.length) (fun s116 _=>l.length-(intOf s116).toNat)
  case atStart=>exact⟨0,H7,e7,bK _,rfl,k7,s7,ae (by rw[kS.out];rfl),h0,gl⟩
  case round=>
   clear k7 s7 h0 kx7;obtain⟨j,Hj,ej,hj,rfl,ha,sj3,qj,z,hM⟩:=hrel
   by_cases hjl:j<l.length
   ·have kw:(j:Int)<(l.length:Int):=by omega
    obtain⟨_,_,e9,_,_,_,hG⟩:=z.rd;cases e9;obtain⟨bl,ol,rfl,hF⟩:=VA hG j hjl;have ko:l[j].1<H.sp.length:=hH.out _ (eX hjl)
    go_wp2_with (first | (refine aA _ _ rfl bl (ol+j*2) rfl rfl _ hF _ underlying226 rfl us_size ?_) | (refine aW rfl _ _ _ rfl (uC l[j]) rfl rfl rfl us_size (Nh _) ?_))
    intro w8 hW kF;have k8:=ha.below hW;have s8:=sj3.below hW;have kM:=z.below hW;clear ha sj3 z hG hF hW
    go_wp2_with fail
    refine (xm Hj ej f (-1) B b _ k8).mono ?_;rintro r w9 ⟨rfl,H9,e9,k9,s9,q9⟩;have kL:=s9.own k8 kM (by decide);have kE:=s9.blk k8 kF (by decide);have s09:=s8.trans s9;have kO:H9.sp.length=H.sp.length:=by have hq:=jv.hold ⟨Hj.ma,ej⟩ f (-1);rw[←q9] at hq;have:=hq.sp;simp only[pI] at this;rw[this,hM]
    have q9':=ae q9;clear k8 s8 kM kF s9 q9;have kX:=kE.cell;unfold uC at kX
    go_wp2_with fail
    refine (fT H9 e9 l[j].2 l[j].1 ⟨2,N,false⟩ B b _ k9 (by rw[kO];exact ko)).mono ?_;rintro r w6 ⟨rfl,H6,e6,h6,s6,q6⟩;have s:=s6.own k9 kL (by decide);have s06:=s09.trans s6;have ks:Hid (Kp.mk H6.ma e6=rf kk f N (l.take (j+1))):=ae (by rw[LC kk f N l j hjl,←qj.out];unfold FI;rw[←q9'.out];exact q6);have hU:H6.sp.length=H.sp.length:=by have hq:=jv.enter ⟨H9.ma,e9⟩ l[j].1 l[j].2 ⟨2,N,false⟩;rw[←q6] at hq;have:=hq.sp;simp only[pI] at this;rw[this,kO]
    clear q6 k9 s09 kL kX kE s6;go_wp2;go_roundw
    case rel=>exact⟨j+1,H6,e6,by omega,by go_num,h6,s06,ks,s,hU⟩
    case measure=>simp[intOf];omega
   have kw:¬(j:Int)<(l.length:Int):=by omega
   rw[mK (by omega)] at qj;clear z;go_wp2;go_ret;rw[hq.out.1,hq.out.2];exact⟨rfl,_,_,ha,sj3,qj.out⟩
 have hq:Hid (jr H.ma f=false∧fU ⟨H.ma,e⟩ f=⟨H.ma,e⟩):=ae (by rw[kr.out,kq.out,if_pos hE];exact⟨decide_eq_false hE,rfl⟩);go_wp2;go_ret;rw[hq.out.1,hq.out.2];exact⟨rfl,_,_,k3,s3,rfl⟩
structure qD (k k' : Kp):Prop where
 sp:k'.m.sp.length=k.m.sp.length
 ca:k'.m.ca.length≤k.m.ca.length
 fs:k'.m.m.fs.length=k.m.m.fs.length
theorem qD.refl (k:Kp):qD k k:=⟨rfl,az _,rfl⟩
theorem qD.trans {a b c:Kp} (h:qD a b) (k:qD b c):qD a c:=⟨k.sp.trans h.sp,aY k.ca h.ca,k.fs.trans h.fs⟩
theorem jv.l {a b:Kp} (h:jv a b):qD a b:=⟨h.sp,by rw[h.ca];exact az _,h.fs⟩
theorem qD.evict (k:Kp) (f:Nat):qD k (fU k f):=by
 unfold fU;simp only;split
 ·split
  ·exact .refl _
  have h1:=(jv.clean k f).trans (jv.drops (aZ k.m f) (jM k f));split
  ·refine (qD.trans ?_ (jv.hold _ f (-1)).l);exact⟨h1.sp,by show (List.eraseIdx _ _).length≤_;rw[h1.ca];exact List.length_eraseIdx_le _ _,h1.fs⟩
  ·exact h1.l
 split
 ·exact .refl _
 refine qD.trans ?_ (jv.swaps _ _ _ _).l;exact⟨rfl,az _,rfl⟩
theorem FH {m:Mem} (h:bI m=0):(fH m).fs.length=m.fs.length:=by
 unfold fH;rw[if_neg (by rw[h];simp)];split
 ·rfl
 ·exact iU _ _
theorem Rc {m:Mem} (h:bI m=0) (hk:¬iy m<0):(iy m).toNat<m.fs.length∧iy m=(((iy m).toNat:Nat):Int):=by
 unfold iy at hk ⊢;rw[if_neg (by rw[h];simp)] at hk ⊢;split at hk
 ·omega
 rename_i hne;rw[if_neg hne];have a:0<m.fs.length:=by
  rcases wW m.fs.length with h0|h0
  ·have:=Dy m.fs;omega
  ·exact h0
 rw[bG];exact⟨oq a _,rfl⟩
theorem qD.reclaim:∀(t:Nat) (k:Kp),qD k (reclaimN t k).1
 | 0,k => .refl k
 | t+1,k=>by
  unfold reclaimN;simp only;split
  ·exact⟨rfl,az _,rfl⟩
  rename_i hc;have hw:bI k.m.m=0:=by
   by_cases e:bI k.m.m=0
   ·exact e
   ·exact absurd (.inl e) hc
  have h1:qD k ⟨{ k.m with m:=fH k.m.m },k.e⟩:=⟨rfl,az _,FH hw⟩;split
  ·exact h1.trans (.evict _ _)
  ·exact (h1.trans (.evict _ _)).trans (qD.reclaim t _)
theorem qD.took (k:Kp) (p:Page) (f i:Int):qD k (eP k p f i).1:=by
 have ht:∀k:Kp,qD k (kG k p f i).1:=fun k=>by
  unfold kG;split
  ·exact .refl _
  rename_i h;refine⟨rfl,az _,?_⟩;show (eZ k.m.m p f i).fs.length=_;unfold eZ;rw[if_pos (by simpa using h)];exact cO
 unfold eP;split
 ·split
  ·exact (qD.reclaim _ k).trans (ht _)
  ·exact qD.reclaim _ k
 ·exact ht k
theorem XI {k:Kp} {e:Int} (q:Kp.mk H.ma e=k):H.sp.length=k.m.sp.length∧H.ca=k.m.ca∧H.m=k.m.m:=by
 subst q;exact⟨(pI H).symm,rfl,rfl⟩
theorem Gz (H:MH) (e:Int) (B b:Nat) (w:World) (h:iJ w B b H e) (hz:H.sp.length≤1000) (hz2:H.ca.length≤1000) (hz3:H.m.fs.length≤1000) :
  Calls Tryz.prog 132 #[.pointer (some ⟨b,0,none⟩)] w fun r w'=>r = .returned (.bool (dY ⟨H.ma,e⟩).2)∧KR w B b H w' (dY ⟨H.ma,e⟩).1:=by
 have hc:=h.blk.cell;unfold lG at hc;have hw:=ae h.bs;go_enter func132,ntmps132;have hp:IntKind.i64.wrap (2*(H.m.fs.length:Int))=2*(H.m.fs.length:Int):=dS _ (by omega);have hn:IntKind.i64.wrap (2*(H.m.fs.length:Int)+1)=2*(H.m.fs.length:Int)+1:=dS _ (by omega);go_upto_region 2 with (fail);have hN:Hid (dY ⟨H.ma,e⟩=reclaimN (2*H.m.fs.length+1) ⟨H.ma,e⟩):=ae rfl;have h':=ae h;generalize hNN:2*H.m.fs.length+1=N at hN;have hi:(2*(H.m.fs.length:Int)+1)=(N:Int):=by omega
 have hu:N≤2001:=by omega
 clear h hc hp hn;rw[hi];clear hi hNN
 go_loopw [15] (fun s15 wr => ∃(j:Nat) (Hj:MH) (ej:Int),j≤N∧s15 = .int .i64 j∧iJ wr B b Hj ej∧KS w b H wr Hj∧Hid (reclaimN N ⟨H.ma,e⟩=reclaimN (N-j) ⟨Hj.ma,ej⟩)∧Hid (Hj.sp.length=H.sp.length∧Hj.ca.length≤H.ca.length∧Hj.m.fs.length=H.m.fs.length)) (fun s15 _=>N-(intOf s15).toNat)
 case atStart=>exact⟨0,H,e,bK _,rfl,h'.out,.refl _ _ _,ae rfl,ae ⟨rfl,az _,rfl⟩⟩
 case round=>
  clear h';obtain⟨j,Hj,ej,hj,rfl,d,sj3,qj,hl⟩:=hrel
  by_cases hjl:j<N
  ·have hs:(j:Int)<(N:Int):=by omega
   go_wp2_with (refine aA _ _ rfl b 0 rfl rfl _ d.rdM _ underlying31 rfl mem_size ?_)
   refine (Ql Hj.m _ _ _ d.ma.rd.fr).mono ?_;rintro r w1 ⟨vb,rfl,ho,u⟩;obtain⟨a1,c1,rfl,_⟩:=zP ho;have h1:=d.below u;have s1:=sj3.below u;have ht:=ae d.bs;have hm:=ae sj3.size;clear d sj3 u
   go_wp2_with (refine aW rfl _ _ _ rfl #[.slice a1 (fH Hj.m).fs.length c1,.int .i64 (fH Hj.m).hand] rfl rfl rfl mem_size (fZ _ _ _ _) ?_)
   intro w2 l v;have h2:=h1.below l;have s2:=s1.below l;have x:=ho.below l;clear h1 s1 ho l
   go_wp2_with fail
   refine (qV _ ej (bI Hj.m) _ _ _ h2).mono ?_;rintro r w3 ⟨rfl,h3,k⟩;have s3:=s2.putB k rfl rfl rfl;have q:=ay x h2.blk (by decide) k;have p:=aH v h2.blk (by decide) k;clear h2 s2 x v k;have c:Hid (reclaimN N ⟨H.ma,e⟩=reclaimN (N-(j+1)+1) ⟨Hj.ma,ej⟩):=ae (by rw[qj.out,show N-(j+1)+1=N-j by omega]);clear qj
   by_cases h0:bI Hj.m=0
   ·rw[h0,mP] at h3
    by_cases hk:iy Hj.m<0
    ·have hq:Hid (dY ⟨H.ma,e⟩=(⟨Hj.ma,ej⟩,false)):=ae (by rw[hN.out,c.out];unfold reclaimN;rw[if_pos (.inr hk)];show (Kp.mk Hj.ma (iK ej (bI Hj.m)),false)=_;rw[h0,mP]);rw[h0];go_wp2;go_ret;rw[hq.out];exact⟨rfl,_,_,h3,s3,rfl⟩
    obtain⟨y,f⟩:=Rc h0 hk;have hr:=ae (FH h0);have o:=ae f;generalize hF:(iy Hj.m).toNat=F at y f o;have hv:¬(F:Int)<0:=by omega
    rw[f] at hk;rw[h0,f];clear f hk;have hx:=p.cell
    go_wp2_with (first | (refine aA _ _ rfl _ 0 rfl rfl [.slice a1 (fH Hj.m).fs.length c1,.int .i64 (fH Hj.m).hand] (bW p 0 2) _ underlying31 rfl mem_size ?_) | (refine fI rfl _ _ _ rfl b 0 _ rfl rfl _ _ h3.blk (by show 0+2≤12;decide) mem_size (fZ _ _ _ _) ?_))
    intro w4 hh t;have h4:=h3.setM (q.mono ht.out) hh t;have s4:KS w b H w4 { Hj with af:=a1,cf:=c1,m:=fH Hj.m }:=s3.putF t (q.mono hm.out) (az _) rfl rfl;clear h3 s3 q p hx hh t;have g:Hid (reclaimN N ⟨H.ma,e⟩=if jr (MH.ma { Hj with af:=a1,cf:=c1,m:=fH Hj.m }) F=true then (fU ⟨MH.ma { Hj with af:=a1,cf:=c1,m:=fH Hj.m },ej⟩ F,true) else reclaimN (N-(j+1)) (fU ⟨MH.ma { Hj with af:=a1,cf:=c1,m:=fH Hj.m },ej⟩ F)):=ae (by
     rw[c.out]
     conv=>lhs;unfold reclaimN
     have hc:¬(bI (Kp.m ⟨Hj.ma,ej⟩).m≠0∨iy (Kp.m ⟨Hj.ma,ej⟩).m<0):=by
      rintro (e|e)
      ·exact e h0
      have:iy Hj.m<0:=e;rw[o.out] at this;omega
     rw[if_neg hc];rw[show (iy (Kp.m ⟨Hj.ma,ej⟩).m).toNat=F from hF];rfl)
    obtain⟨hg,hf,s⟩:=hl.out;have hd:(MH.sp { Hj with af:=a1,cf:=c1,m:=fH Hj.m }).length=H.sp.length∧(MH.ca { Hj with af:=a1,cf:=c1,m:=fH Hj.m }).length≤H.ca.length∧(MH.m { Hj with af:=a1,cf:=c1,m:=fH Hj.m }).fs.length=H.m.fs.length:=⟨hg,hf,hr.out.trans s⟩;have n:=y;rw[s] at n;have a:=ae hd;clear hd hg hf s;generalize ({ Hj with af:=a1,cf:=c1,m:=fH Hj.m }:MH)=H4 at h4 s4 g a
    go_wp2_with fail
    refine (LY H4 ej F B b _ h4 (by rw[a.out.2.2];exact n) (by rw[a.out.1];exact hz) (aY a.out.2.1 hz2)).mono ?_;rintro r w5 ⟨rfl,H5,e5,h5,s5,q5⟩;have s05:=s4.trans s5;have i:=qD.evict ⟨H4.ma,ej⟩ F;obtain⟨m1,m2,m3⟩:=XI q5;have ha:H5.sp.length=H.sp.length∧H5.ca.length≤H.ca.length∧H5.m.fs.length=H.m.fs.length:=by have a1:=i.sp;have a2:=i.ca;have a3:=i.fs;rw[show (Kp.m ⟨H4.ma,ej⟩).sp.length=H4.sp.length from pI H4] at a1;exact⟨by rw[m1,a1];exact a.out.1,by rw[m2];exact aY a2 a.out.2.1,by rw[m3];exact a3.trans a.out.2.2⟩
    have q5':=ae q5;have z:=ae ha;clear h4 s4 s5 q5 i m1 m2 m3 ha;cases hb:jr H4.ma F with
    | true=>
     have hq:Hid (dY ⟨H.ma,e⟩=(⟨H5.ma,e5⟩,true)):=ae (by rw[hN.out,g.out,hb,if_pos rfl,q5'.out]);go_wp2;go_ret;rw[hq.out];exact⟨rfl,_,_,h5,s05,rfl⟩
    | false=>
     have hq:Hid (reclaimN N ⟨H.ma,e⟩=reclaimN (N-(j+1)) ⟨H5.ma,e5⟩):=ae (by rw[g.out,hb,if_neg (by decide),q5'.out]);clear g c;go_wp2;go_roundw
     case rel=>exact⟨j+1,H5,e5,by omega,by go_num,h5,s05,hq,z⟩
     case measure=>simp[intOf];omega
   have hq:Hid (dY ⟨H.ma,e⟩=(⟨Hj.ma,iK ej (bI Hj.m)⟩,false)):=ae (by rw[hN.out,c.out];unfold reclaimN;rw[if_pos (.inl h0)];rfl);go_wp2;go_ret;rw[hq.out];exact⟨rfl,_,_,h3,s3,rfl⟩
  have hs:¬(j:Int)<(N:Int):=by omega
  have hq:Hid (dY ⟨H.ma,e⟩=(⟨Hj.ma,ej⟩,false)):=ae (by rw[hN.out,qj.out,show N-j=0 by omega];rfl);clear qj;go_wp2;go_ret;rw[hq.out];exact⟨rfl,_,_,d,sj3,rfl⟩
def QA (B:Nat) (m:Mem) (K E:Int):nR:=⟨fun v w => ∃u,v = .tuple #[.agg #[u,.int .i64 m.hand],.int .i64 K,.int .i64 E]∧Own w B 132 13 u m.fs.length (m.fs.flatMap oO),fun _ _ _ hb ⟨u,h1,h2⟩=>⟨u,h1,h2.below hb⟩⟩
theorem qN (H:MH) (e f i:Int) (p:Page) (B b:Nat) (w:World) (h:iJ w B b H e) (hz:H.sp.length≤1000) (hz2:H.ca.length≤1000) (hz3:H.m.fs.length≤1000) :
  Calls Tryz.prog 172 #[.pointer (some ⟨b,0,none⟩),.agg (gZ p),.int .i64 f,.int .i64 i] w fun r w'=>r = .returned (.int .i64 (eP ⟨H.ma,e⟩ p f i).2)∧KR w B b H w' (eP ⟨H.ma,e⟩ p f i).1:=by
 have hL:=ae h.bs;go_enter func172,ntmps172;rw[GK];go_upto_region 1 with (fail);refine je (fun W=>Code.wp _ _ _ _ W) fun w1 hC px1 hN => ?_;have k1:=h.below hC;have s1:=(KS.refl w b H).below hC;generalize w.heap.size=gp at px1 ⊢;clear h hC hN
 go_wp2_with (refine aA _ _ rfl b 0 rfl rfl _ k1.rdM _ underlying31 rfl mem_size ?_)
 refine (Ak H.m _ _ _ k1.ma.rd.fr).mono ?_;rintro r w2 ⟨rfl,hp⟩;have k2:=k1.below hp;have s2:=s1.below hp;have px2:aJ w2 gp (gZ p) 100:=px1.ext hp;clear k1 s1 px1 hp
 by_cases h0:fB H.m.fs=0
 ·have hs:((fB H.m.fs:Nat):Int)=0:=by omega
  have hr:Hid (eP ⟨H.ma,e⟩ p f i=if (dY ⟨H.ma,e⟩).2=true then kG (dY ⟨H.ma,e⟩).1 p f i else ((dY ⟨H.ma,e⟩).1,-1)):=ae (by unfold eP;exact if_pos h0);rw[hs];clear hs h0
  go_wp2_with fail
  refine (Gz H e B b _ k2 hz hz2 hz3).mono ?_;rintro r w3 ⟨rfl,H3,e3,k3,s3,q3⟩;have px3:=s3.blkN px2 (fun hk => ?_)
  ·have s03:=s2.trans s3;have q3':=ae q3;clear k2 s2 s3 px2 q3;cases hb:(dY ⟨H.ma,e⟩).2 with
   | true=>
    have hR:Hid (eP ⟨H.ma,e⟩ p f i=kG ⟨H3.ma,e3⟩ p f i):=ae (by rw[hr.out,hb,if_pos rfl,q3'.out]);clear hb hr q3';go_upto_region 3 with (fail);have hP:=ae (rfl:eZ H3.m p f i=eZ H3.m p f i);refine gI 17 [_,_,_,_,_,_,_,_,.r 8 ((QA w3.heap.size (eZ H3.m p f i) (gY H3.m p f i) (gN H3.m p f i))),.r 9 ((QA w3.heap.size (eZ H3.m p f i) (gY H3.m p f i) (gN H3.m p f i))),.r 10 ((Eu w3.heap.size (eZ H3.m p f i))),.v (.int .i64 (gY H3.m p f i:Nat)),.v (.int .i64 (gN H3.m p f i)),.r 13 ((fe w3.heap.size 31 2)),.y 14 ((Jj 13 w3.heap.size 31 (Eu w3.heap.size (eZ H3.m p f i)))),.v (.int .i64 (gY H3.m p f i:Nat)),.v (.int .i64 (gN H3.m p f i))] (fun W=>Below w3.heap.size w3 W) bn (Below.refl _ _) (Yk bn rfl (Yk bn rfl (Yf bn b 0 rfl rfl (Yf bn b 0 rfl rfl (Yr bn (.agg #[.slice H3.af H3.m.fs.length H3.cf,.int .i64 H3.m.hand]) (fun ρ y W hb t=>(bM rfl (aV rfl t) (bW (k3.below hb).blk 0 2) underlying31 rfl (by kernel_rfl))) rfl rfl (Yr bn (.agg #[.int .u8 p[0].toNat,.int .u8 p[1].toNat,.int .u8 p[2].toNat,.int .u8 p[3].toNat,.int .u8 p[4].toNat,.int .u8 p[5].toNat,.int .u8 p[6].toNat,.int .u8 p[7].toNat]) (fun ρ y W hb t=>(bM rfl (aV rfl t) (bW (px3.ext hb) 0 8) underlying100 rfl (by kernel_rfl))) rfl rfl (Yk bn rfl (Yk bn rfl (aj ?_ (aj ?_ (aj ?_ (aj ?_ (aj ?_ (aj ?_ (aj ?_ (Yk bn rfl (Yk bn rfl (aG)))))))))))))))))) (fun _=>rfl) rfl ?_
    ·intro ρ y W hw hn hb hd;refine eH bn hb ((QA w3.heap.size (eZ H3.m p f i) (gY H3.m p f i) (gN H3.m p f i))) (fun _ _ h=>h) ?_;have hK:=hw 29 4 rfl;have h4:y 4 = .agg #[.slice H3.af H3.m.fs.length H3.cf,.int .i64 H3.m.hand]:=hd 4 rfl;have hJ:=hw 30 5 rfl;have h5:y 5 = .agg #[.int .u8 p[0].toNat,.int .u8 p[1].toNat,.int .u8 p[2].toNat,.int .u8 p[3].toNat,.int .u8 p[4].toNat,.int .u8 p[5].toNat,.int .u8 p[6].toNat,.int .u8 p[7].toNat]:=hd 5 rfl;have hI:=hw 31 6 rfl;have h6:y 6 = .int .i64 f:=hd 6 rfl;have hH:=hw 32 7 rfl;have h7:y 7 = .int .i64 i:=hd 7 rfl;have EF:∀f,ρ (.func f) = .func (.func f) #[] #[]:=fun f=>hn (.func f) trivial;refine aL _ _ (ag rfl) (aS rfl (EF _) func195 (by kernel_rfl) (by kernel_rfl) (by simp only[bT,bH,bL,hK,h4,hJ,h5,hI,h6,hH,h7,EF];rfl)) ?_;refine (FO H3.m p f i H3.af H3.cf W (k3.below hb).ma.rd.fr).mono ?_;rintro r W3 ⟨u,rfl,ho,hB⟩;exact⟨_,rfl,hB,u,rfl,ho.mono hb.size⟩
    ·intro ρ y W hw hn hb hd;refine eH bn hb ((QA w3.heap.size (eZ H3.m p f i) (gY H3.m p f i) (gN H3.m p f i))) (fun _ _ h=>h) ?_;have hG:=hw 33 8 rfl;have h8:=hd 8 rfl;refine ak _ (ag rfl) (run_move (.inl rfl) hG) ?_;exact h8
    ·intro ρ y W hw hn hb hd;refine eH bn hb ((Eu w3.heap.size (eZ H3.m p f i))) (fun _ _ h=>h) ?_;have l:=hw 24 9 rfl;have h9:=hd 9 rfl;obtain⟨u,hu,ho⟩:=h9;refine ak (.agg #[u,.int .i64 (eZ H3.m p f i).hand]) (ag rfl) (by simp[execOp,go_sem,bu,l,hu]) ?_;exact⟨u,rfl,ho⟩
    ·intro ρ y W hw hn hb hd;refine eH bn hb (gX (.int .i64 (gY H3.m p f i:Nat))) (fun _ _ h=>h) ?_;have l:=hw 24 9 rfl;have h9:=hd 9 rfl;obtain⟨u,hu,ho⟩:=h9;refine ak (.int .i64 (gY H3.m p f i:Nat)) (ag rfl) (by simp[execOp,go_sem,bu,l,hu]) rfl
    ·intro ρ y W hw hn hb hd;refine eH bn hb (gX (.int .i64 (gN H3.m p f i))) (fun _ _ h=>h) ?_;have l:=hw 24 9 rfl;have h9:=hd 9 rfl;obtain⟨u,hu,ho⟩:=h9;refine ak (.int .i64 (gN H3.m p f i)) (ag rfl) (by simp[execOp,go_sem,bu,l,hu]) rfl
    ·intro ρ y W hw hn hb hd;refine eH bn hb ((fe w3.heap.size 31 2)) (fun _ _ h=>h) ?_;refine gH (.pointer (some ⟨W.heap.size,0,none⟩)) (ag rfl) (by simp[execOp,go_sem,bu]) ((Below.refl _ _).alloc (az _) (.cells #[.slice none 0 0,.int .i64 0] 31)) ?_;exact⟨_,_,rfl,hb.size,aJ.new _ _ _,rfl⟩
    ·intro ρ y W hw hn hb hd;have E9:=hw 9 13 rfl;have hD:=hd 13 rfl;have hF:=hw 34 10 rfl;have hE:=hd 10 rfl;obtain⟨u,e7,hh⟩:=hE;obtain⟨g3,cur3,e9,hi,j,hg⟩:=hD;refine jc (ag rfl) _ _ _ rfl g3 0 (.agg #[u,.int .i64 (eZ H3.m p f i).hand]) [u,.int .i64 (eZ H3.m p f i).hand] (E9.trans e9) (hF.trans e7) rfl cur3 _ j (by rw[hg];exact az _) mem_size (by obtain⟨a1,c1,rfl,_⟩:=hh.rd;exact fP (fZ _ _ _ _)) ?_;intro w1 o g;rw[show ∀(x y:Value),[x,y]=(#[x,y]:Array Value).toList from fun _ _=>rfl,eB cur3 _ (by rw[hg];rfl)] at o;refine⟨hb.grown g hb.size (fun k hk=>by cases hk;exact hi),⟨g3,_,e9,hi,o,⟨_,rfl,ay hh j (by decide) g⟩⟩,?_⟩;intro k hk hy
     match k,hk,hy with
     | 0,_,_=>exact fun h=>h
     | 1,_,_=>exact fun h=>h
     | 2,_,_=>exact fun h=>h
     | 3,_,_=>exact fun h=>h
     | 4,_,_=>exact fun h=>h
     | 5,_,_=>exact fun h=>h
     | 6,_,_=>exact fun h=>h
     | 7,_,_=>exact fun h=>h
     | 8,_,_=>exact fun⟨c,q1,q2⟩=>⟨c,q1,ay q2 j (by decide) g⟩
     | 9,_,_=>exact fun⟨c,q1,q2⟩=>⟨c,q1,ay q2 j (by decide) g⟩
     | 10,_,_=>exact fun⟨c,q1,q2⟩=>⟨c,q1,ay q2 j (by decide) g⟩
     | 11,_,_=>exact fun h=>h
     | 12,_,_=>exact fun h=>h
     | 13,_,_=>exact fun q=>iB q o (fun _=>rfl) ⟨_,j⟩ g
     | 14,_,h=>exact absurd rfl h
     | 15,_,_=>exact fun h=>h
     | 16,_,_=>exact fun h=>h
     | n+17,h,_=>exact absurd h (by omega)
    intro y W3 d a;replace d:Below w3.heap.size w3 W3:=d;have hv:((QA w3.heap.size (eZ H3.m p f i) (gY H3.m p f i) (gN H3.m p f i))).r (y 8) W3:=a 8 (by decide);have ht:((QA w3.heap.size (eZ H3.m p f i) (gY H3.m p f i) (gN H3.m p f i))).r (y 9) W3:=a 9 (by decide);have hc:((Eu w3.heap.size (eZ H3.m p f i))).r (y 10) W3:=a 10 (by decide);have ha:((fe w3.heap.size 31 2)).r (y 13) W3:=a 13 (by decide);have z:=a 14 (by decide);clear a;simp only[dD,bu,bH,bL];obtain⟨gd,cd,hM,hO,hm,u,hl,s⟩:=z;simp only[wY] at hl;subst hl;obtain⟨a1,c1,rfl,_⟩:=s.rd;have k4:=k3.below d;have s4:=s03.below d;have hf:=ae s03.size;clear hv ht hc ha k3 s03 px3 d
    by_cases h0:gN H3.m p f i=0
    ·have hq:Hid (kG ⟨H3.ma,e3⟩ p f i=(Kp.mk { H3.ma with m:=eZ H3.m p f i } e3,((gY H3.m p f i:Nat):Int))):=ae (by unfold kG;exact if_neg (fun h'=>h' h0));have hx:=hm.cell;rw[h0];generalize eZ H3.m p f i=M at *
     generalize gY H3.m p f i=K at *
     go_wp2_with (first | (refine aA _ _ rfl _ 0 rfl rfl [.slice a1 M.fs.length c1,.int .i64 M.hand] (bW hm 0 2) _ underlying31 rfl mem_size ?_) | (refine fI rfl _ _ _ rfl b 0 _ rfl rfl _ _ k4.blk (by show 0+2≤12;decide) mem_size (fZ _ _ _ _) ?_))
     intro w5 hA hj;have k5:=k4.setM (s.mono (aY hL.out hf.out)) hA hj;go_wp2;go_ret;rw[hR.out,hq.out];exact⟨rfl,_,_,k5,s4.putF hj (s.mono hf.out) (az _) rfl rfl,rfl⟩
    have hq:Hid (kG ⟨H3.ma,e3⟩ p f i=(⟨H3.ma,e3⟩,-1)):=ae (by unfold kG;exact if_pos h0);go_wp2;go_ret;rw[hR.out,hq.out];exact⟨rfl,_,_,k4,s4,rfl⟩
   | false=>
    have hR:Hid (eP ⟨H.ma,e⟩ p f i=(⟨H3.ma,e3⟩,-1)):=ae (by rw[hr.out,hb,if_neg (by decide),q3'.out]);clear hb hr q3';go_wp2;go_ret;rw[hR.out];exact⟨rfl,_,_,k3,s03,rfl⟩
  obtain⟨cs,T,hb,hT⟩:=k2.kb_T hk;exact absurd rfl (wh px2 hb (by rcases hT with rfl | rfl | rfl | rfl<;>decide))
 have hs:¬((fB H.m.fs:Nat):Int)=0:=by omega
 have hR:Hid (eP ⟨H.ma,e⟩ p f i=kG ⟨H.ma,e⟩ p f i):=ae (by unfold eP;exact if_neg h0);clear h0;have hQ:fB H.m.fs=fB H.m.fs:=rfl;generalize fB H.m.fs=N at hs;go_upto_region 3 with (fail);have hP:=ae (rfl:eZ H.m p f i=eZ H.m p f i);refine gI 17 [_,_,_,_,_,_,_,_,.r 8 ((QA w2.heap.size (eZ H.m p f i) (gY H.m p f i) (gN H.m p f i))),.r 9 ((QA w2.heap.size (eZ H.m p f i) (gY H.m p f i) (gN H.m p f i))),.r 10 ((Eu w2.heap.size (eZ H.m p f i))),.v (.int .i64 (gY H.m p f i:Nat)),.v (.int .i64 (gN H.m p f i)),.r 13 ((fe w2.heap.size 31 2)),.y 14 ((Jj 13 w2.heap.size 31 (Eu w2.heap.size (eZ H.m p f i)))),.v (.int .i64 (gY H.m p f i:Nat)),.v (.int .i64 (gN H.m p f i))] (fun W=>Below w2.heap.size w2 W) bn (Below.refl _ _) (Yk bn rfl (Yk bn rfl (Yf bn b 0 rfl rfl (Yf bn b 0 rfl rfl (Yr bn (.agg #[.slice H.af H.m.fs.length H.cf,.int .i64 H.m.hand]) (fun ρ y W hb t=>(bM rfl (aV rfl t) (bW (k2.below hb).blk 0 2) underlying31 rfl (by kernel_rfl))) rfl rfl (Yr bn (.agg #[.int .u8 p[0].toNat,.int .u8 p[1].toNat,.int .u8 p[2].toNat,.int .u8 p[3].toNat,.int .u8 p[4].toNat,.int .u8 p[5].toNat,.int .u8 p[6].toNat,.int .u8 p[7].toNat]) (fun ρ y W hb t=>(bM rfl (aV rfl t) (bW (px2.ext hb) 0 8) underlying100 rfl (by kernel_rfl))) rfl rfl (Yk bn rfl (Yk bn rfl (aj ?_ (aj ?_ (aj ?_ (aj ?_ (aj ?_ (aj ?_ (aj ?_ (Yk bn rfl (Yk bn rfl (aG)))))))))))))))))) (fun _=>rfl) rfl ?_
 ·intro ρ y W hw hn hb hd;refine eH bn hb ((QA w2.heap.size (eZ H.m p f i) (gY H.m p f i) (gN H.m p f i))) (fun _ _ h=>h) ?_;have hK:=hw 29 4 rfl;have h4:y 4 = .agg #[.slice H.af H.m.fs.length H.cf,.int .i64 H.m.hand]:=hd 4 rfl;have hJ:=hw 30 5 rfl;have h5:y 5 = .agg #[.int .u8 p[0].toNat,.int .u8 p[1].toNat,.int .u8 p[2].toNat,.int .u8 p[3].toNat,.int .u8 p[4].toNat,.int .u8 p[5].toNat,.int .u8 p[6].toNat,.int .u8 p[7].toNat]:=hd 5 rfl;have hI:=hw 31 6 rfl;have h6:y 6 = .int .i64 f:=hd 6 rfl;have hH:=hw 32 7 rfl;have h7:y 7 = .int .i64 i:=hd 7 rfl;have EF:∀f,ρ (.func f) = .func (.func f) #[] #[]:=fun f=>hn (.func f) trivial;refine aL _ _ (ag rfl) (aS rfl (EF _) func195 (by kernel_rfl) (by kernel_rfl) (by simp only[bT,bH,bL,hK,h4,hJ,h5,hI,h6,hH,h7,EF];rfl)) ?_;refine (FO H.m p f i H.af H.cf W (k2.below hb).ma.rd.fr).mono ?_;rintro r W3 ⟨u,rfl,ho,hB⟩;exact⟨_,rfl,hB,u,rfl,ho.mono hb.size⟩
 ·intro ρ y W hw hn hb hd;refine eH bn hb ((QA w2.heap.size (eZ H.m p f i) (gY H.m p f i) (gN H.m p f i))) (fun _ _ h=>h) ?_;have hG:=hw 33 8 rfl;have h8:=hd 8 rfl;refine ak _ (ag rfl) (run_move (.inl rfl) hG) ?_;exact h8
 ·intro ρ y W hw hn hb hd;refine eH bn hb ((Eu w2.heap.size (eZ H.m p f i))) (fun _ _ h=>h) ?_;have l:=hw 24 9 rfl;have h9:=hd 9 rfl;obtain⟨u,hu,ho⟩:=h9;refine ak (.agg #[u,.int .i64 (eZ H.m p f i).hand]) (ag rfl) (by simp[execOp,go_sem,bu,l,hu]) ?_;exact⟨u,rfl,ho⟩
 ·intro ρ y W hw hn hb hd;refine eH bn hb (gX (.int .i64 (gY H.m p f i:Nat))) (fun _ _ h=>h) ?_;have l:=hw 24 9 rfl;have h9:=hd 9 rfl;obtain⟨u,hu,ho⟩:=h9;refine ak (.int .i64 (gY H.m p f i:Nat)) (ag rfl) (by simp[execOp,go_sem,bu,l,hu]) rfl
 ·intro ρ y W hw hn hb hd;refine eH bn hb (gX (.int .i64 (gN H.m p f i))) (fun _ _ h=>h) ?_;have l:=hw 24 9 rfl;have h9:=hd 9 rfl;obtain⟨u,hu,ho⟩:=h9;refine ak (.int .i64 (gN H.m p f i)) (ag rfl) (by simp[execOp,go_sem,bu,l,hu]) rfl
 ·intro ρ y W hw hn hb hd;refine eH bn hb ((fe w2.heap.size 31 2)) (fun _ _ h=>h) ?_;refine gH (.pointer (some ⟨W.heap.size,0,none⟩)) (ag rfl) (by simp[execOp,go_sem,bu]) ((Below.refl _ _).alloc (az _) (.cells #[.slice none 0 0,.int .i64 0] 31)) ?_;exact⟨_,_,rfl,hb.size,aJ.new _ _ _,rfl⟩
 ·intro ρ y W hw hn hb hd;have E9:=hw 9 13 rfl;have hD:=hd 13 rfl;have hF:=hw 34 10 rfl;have hE:=hd 10 rfl;obtain⟨u,e7,hh⟩:=hE;obtain⟨g3,cur3,e9,hi,j,hg⟩:=hD;refine jc (ag rfl) _ _ _ rfl g3 0 (.agg #[u,.int .i64 (eZ H.m p f i).hand]) [u,.int .i64 (eZ H.m p f i).hand] (E9.trans e9) (hF.trans e7) rfl cur3 _ j (by rw[hg];exact az _) mem_size (by obtain⟨a1,c1,rfl,_⟩:=hh.rd;exact fP (fZ _ _ _ _)) ?_;intro w1 o g;rw[show ∀(x y:Value),[x,y]=(#[x,y]:Array Value).toList from fun _ _=>rfl,eB cur3 _ (by rw[hg];rfl)] at o;refine⟨hb.grown g hb.size (fun k hk=>by cases hk;exact hi),⟨g3,_,e9,hi,o,⟨_,rfl,ay hh j (by decide) g⟩⟩,?_⟩;intro k hk hy
  match k,hk,hy with
  | 0,_,_=>exact fun h=>h
  | 1,_,_=>exact fun h=>h
  | 2,_,_=>exact fun h=>h
  | 3,_,_=>exact fun h=>h
  | 4,_,_=>exact fun h=>h
  | 5,_,_=>exact fun h=>h
  | 6,_,_=>exact fun h=>h
  | 7,_,_=>exact fun h=>h
  | 8,_,_=>exact fun⟨c,q1,q2⟩=>⟨c,q1,ay q2 j (by decide) g⟩
  | 9,_,_=>exact fun⟨c,q1,q2⟩=>⟨c,q1,ay q2 j (by decide) g⟩
  | 10,_,_=>exact fun⟨c,q1,q2⟩=>⟨c,q1,ay q2 j (by decide) g⟩
  | 11,_,_=>exact fun h=>h
  | 12,_,_=>exact fun h=>h
  | 13,_,_=>exact fun q=>iB q o (fun _=>rfl) ⟨_,j⟩ g
  | 14,_,h=>exact absurd rfl h
  | 15,_,_=>exact fun h=>h
  | 16,_,_=>exact fun h=>h
  | n+17,h,_=>exact absurd h (by omega)
 intro y W3 d a;replace d:Below w2.heap.size w2 W3:=d;have hv:((QA w2.heap.size (eZ H.m p f i) (gY H.m p f i) (gN H.m p f i))).r (y 8) W3:=a 8 (by decide);have ht:((QA w2.heap.size (eZ H.m p f i) (gY H.m p f i) (gN H.m p f i))).r (y 9) W3:=a 9 (by decide);have hc:((Eu w2.heap.size (eZ H.m p f i))).r (y 10) W3:=a 10 (by decide);have ha:((fe w2.heap.size 31 2)).r (y 13) W3:=a 13 (by decide);have z:=a 14 (by decide);clear a;simp only[dD,bu,bH,bL];obtain⟨gd,cd,hM,hO,hm,u,hl,s⟩:=z;simp only[wY] at hl;subst hl;obtain⟨a1,c1,rfl,_⟩:=s.rd;have k4:=k2.below d;have s4:=s2.below d;have hf:=ae s2.size;clear hv ht hc ha k2 s2 px2 d
 by_cases h0:gN H.m p f i=0
 ·have hq:Hid (kG ⟨H.ma,e⟩ p f i=(Kp.mk { H.ma with m:=eZ H.m p f i } e,((gY H.m p f i:Nat):Int))):=ae (by unfold kG;exact if_neg (fun h'=>h' h0));have hx:=hm.cell;rw[h0];generalize eZ H.m p f i=M at *
  generalize gY H.m p f i=K at *
  go_wp2_with (first | (refine aA _ _ rfl _ 0 rfl rfl [.slice a1 M.fs.length c1,.int .i64 M.hand] (bW hm 0 2) _ underlying31 rfl mem_size ?_) | (refine fI rfl _ _ _ rfl b 0 _ rfl rfl _ _ k4.blk (by show 0+2≤12;decide) mem_size (fZ _ _ _ _) ?_))
  intro w5 hA hj;have k5:=k4.setM (s.mono (aY hL.out hf.out)) hA hj;go_wp2;go_ret;rw[hR.out,hq.out];exact⟨rfl,_,_,k5,s4.putF hj (s.mono hf.out) (az _) rfl rfl,rfl⟩
 have hq:Hid (kG ⟨H.ma,e⟩ p f i=(⟨H.ma,e⟩,-1)):=ae (by unfold kG;exact if_pos h0);go_wp2;go_ret;rw[hR.out,hq.out];exact⟨rfl,_,_,k4,s4,rfl⟩
theorem Bg (l:List Cc) (x:Cc) (k:Nat) (hk:k≤l.length) (v:Value) (B g:Nat) (w:World) (hown:Own w B 124 3 v l.length (l.flatMap jO)) (hB:B≤w.heap.size) (hl:l.length≤1000) (hg:aJ w g (AJ x) 124) (hne:k<l.length→∀b,v.ownBlock=some b→g≠b) :
  Calls Tryz.prog 173 #[v,.int .i64 k,.slice (some ⟨g,0,none⟩) 1 1] w fun e w' => ∃v',e = .returned v'∧Own w' B 124 3 v' (l.length+1) ((l.take k++x::l.drop k).flatMap jO)∧w.grownBy w' v.ownBlock∧ES w v v':=by
 obtain⟨a0,c0,hs,hJ,z,hD,_⟩:=hown.rd;unfold maxLen at z
 by_cases hkl:k=l.length
 ·subst hkl;have ha:(l.take l.length++x::l.drop l.length).flatMap jO=l.flatMap jO++jO x:=by simp[gW]
  have hi:=ae ha;clear ha;subst hs;go_enter func173,ntmps173
  go_wp2_with (at_builtin;refine pu rfl _ _ 41 rfl B 124 _ 3 24 underlying41 cached_info rfl (by decide) _ l.length (l.flatMap jO) rfl hown (some ⟨g,0,none⟩) 1 1 (jO x) rfl (fun h=>(by cases h)) (az _) rfl hg.rd (fun u hu=>zL [x] u (by simpa using hu)) (by unfold maxLen;omega) (by omega) hB ?_)
  all_goals
   intro v' w' hh h6 hY;go_wp2;go_ret;exact⟨_,rfl,by rw[hi.out];exact hh,by cases a0<;>exact h6,by cases a0<;>exact hY⟩
 have h3:k<l.length:=by omega
 rcases hown with ⟨hlen,⟨_,hz⟩|⟨b,off,c,cur,rfl,hBb,hb,hnc,hmx,hsz,hcell⟩⟩
 ·omega
 have hM:g≠b:=hne h3 b rfl;clear hs hJ z hD;have ko:=hb.lt;have kl:=hg.lt;have kf:¬((k:Int)=(l.length:Int)):=by omega
 have kk:(k:Int)≤(l.length:Int):=by omega
 have hI:=hmx;unfold maxLen at hI;have kh:IntKind.i64.wrap ((k:Int)+1)=(k:Int)+1:=dS _ (by omega);have kg:IntKind.i64.wrap ((l.length:Int)+1)=(l.length:Int)+1:=dS _ (by omega);have ki:((k:Int)+1).toNat=k+1:=by omega
 have hN:((l.drop k).flatMap jO).length=(l.length-k)*3:=by rw[jT,uU]
 have kn:¬(c=k):=by omega
 have hO:=Br hk hcell;have hw:=wK (k:=k) hcell
 by_cases hroom:l.length+1≤c
 ·have hZ:¬((c:Int)<(l.length:Int)+1):=by omega
  have hT:¬(c=k+1):=by omega
  have h4:(0:Int)≤(k:Int)+1:=by omega
  have h8:(k:Int)≤(l.length:Int)+1:=by omega
  have hC:∀lb cb W,W=w→(callFunc 196 #[.slice (some ⟨g,0,none⟩) 1 1,.slice (some ⟨b,off+(k+1)*3,none⟩) lb cb]).run Tryz.prog W = .ok (.value (.bool false)) W:=by
   intro lb cb W hW;subst hW;have hy:∀w,(Go.sizeOf 124).run Tryz.prog w = .ok 3 w:=by
    intro w;cases hq:Tryz.prog.info? 124 with
    | none=>have:=cached_size;simp[hq] at this
    | some i=>
     have hz:i.size=3:=by have:=cached_size;simpa[hq] using this
     simp[Go.sizeOf,typeInfo,run_program,hq,hz]
   rw[run_callFunc_extern func196 (by kernel_rfl) (by kernel_rfl) (by kernel_rfl) (e:=Extern.SlicesOverlaps.overlaps #[41,41] #[4]) (by kernel_rfl),
    Lib.run_overlaps_apart W 41 4 124 underlying41 3 hy ⟨g,0,none⟩ ⟨b,off+(k+1)*3,none⟩ 1 1 lb cb hM 124 124 3 cur.size (by unfold aJ at hg;simp[World.shape?,hg,AJ]) (by unfold aJ at hb;simp[World.shape?,hb]) (by omega) (hg.free _) (hg.free _)]
   rfl
  have hS:∀W ty dc sc,aJ W b cur 124→(Builtin.copy_ #[41,41] ty #[.slice (some ⟨b,off+(k+1)*3,none⟩) (l.length-k) dc,.slice (some ⟨b,off+k*3,none⟩) (l.length+1-k) sc]).run Tryz.prog W = .ok (goInt (l.length-k:Nat)) (W.setCells b (off+(k+1)*3) ((l.drop k).flatMap jO)):=fun W ty dc sc hW=>
   ky W _ _ ty 124 3 b (off+(k+1)*3) (l.length-k) dc ⟨b,off+k*3,none⟩ (l.length+1-k) sc (l.length-k) _ cur _ underlying41 cached_size (by simp only[sO];split<;>omega) hN hW (fun j v hj=>by rw[mH,hW.cell];exact hO j v hj) (by omega) (fun v hv=>zL _ v hv)
  have hR:∀W ty dc,aJ W b (dE cur (off+(k+1)*3) ((l.drop k).flatMap jO)) 124→aJ W g (AJ x) 124→(Builtin.copy_ #[41,41] ty #[.slice (some ⟨b,off+k*3,none⟩) (l.length+1-k) dc,.slice (some ⟨g,0,none⟩) 1 1]).run Tryz.prog W = .ok (goInt (1:Nat)) (W.setCells b (off+k*3) (jO x)):=fun W ty dc hW hp=>
   ky W _ _ ty 124 3 b (off+k*3) (l.length+1-k) dc ⟨g,0,none⟩ 1 1 1 _ _ _ underlying41 cached_size (by simp only[sO];split<;>omega) rfl hW (fun j v hj=>by rw[mH,hp.cell,dM];simpa[jO] using hj) (by rw[size_putAt,jQ];omega) (fun v hv=>GM x v hv)
  have hA:=fun lb cb=>hC lb cb w rfl;clear hC;go_enter func173,ntmps173
  go_wp2_with (simp only[hA])
  go_region_law (refine zB rfl _ _ 41 41 rfl (.slice (some ⟨b,off+(k+1)*3,none⟩) (l.length-k) (c-(k+1))) (.slice (some ⟨b,off+k*3,none⟩) (l.length+1-k) (c-k)) (by simp[Act.eval,Act.put]) (by simp[Act.eval,Act.put]) (hS _ _ _ _ hb.drew) ?_)
  have p:=(hb.drew).setCells ((l.drop k).flatMap jO) (off+(k+1)*3);have hm:aJ (w.drew.setCells b (off+(k+1)*3) ((l.drop k).flatMap jO)) g (AJ x) 124:=hg.drew.grown (aB _ _ _ _) (fun e=>hM (aT e).symm);have d:w.grownBy (w.drew.setCells b (off+(k+1)*3) ((l.drop k).flatMap jO)) (some b):=jI (a:=w) (b:=w.drew) (row:=some b) ⟨rfl,rfl,rfl,az _,fun _ _ _=>rfl⟩ (aB w.drew _ _ _);generalize w.drew.setCells b (off+(k+1)*3) ((l.drop k).flatMap jO)=W1 at *
  go_wp2_with (at_builtin;refine QB _ rfl _ _ 41 41 rfl _ _ rfl rfl (hR _ _ _ p hm) ?_)
  have hn:=p.setCells (jO x) (off+k*3);have o:w.grownBy (W1.setCells b (off+k*3) (jO x)) (some b):=jI d (aB _ _ _ _);go_wp2;go_ret;refine⟨_,rfl,⟨by rw[AL];simp only[jb,jT,jQ,fG,uU];omega,.inr ⟨b,off,c,_,rfl,hBb,hn,hroom,hmx,by rw[size_putAt,size_putAt];exact hsz,Eb hk ?_ ?_ ?_⟩⟩,o,.inl rfl⟩
  ·intro j u hj;have s:j<k*3:=by have:=(dC.1 hj).1;rw[jT,fG] at this;omega
   rw[putAt_out _ _ _ _ (by omega),putAt_out _ _ _ _ (by omega)];exact hw j u hj
  ·intro j u hj;exact putAt_in _ _ _ j u (by rw[size_putAt,jQ];omega) hj
  intro j u hj;rw[putAt_out _ _ _ _ (by rw[jQ];omega)];exact putAt_in _ _ _ j u (by omega) hj
 have hc:c=l.length:=by omega
 subst hc;obtain⟨i0,h5,hV,hU,hr⟩:=info_parts cached_info;have hZ:(l.length:Int)<(l.length:Int)+1:=by omega
 have kd:¬((l.length:Int)+1≤(l.length:Int)):=by omega
 have hT:k+1≤l.length:=by omega
 have kj:IntKind.i64.wrap ((l.length:Int)+1-(k:Int))=((l.length+1-k:Nat):Int):=by rw[dS _ (by omega)];omega
 have kc : (l.length:Int)+1-(k:Int)=((l.length+1-k:Nat):Int):=by omega
 have hK:k+(l.length+1-k)=l.length+1:=by omega
 have ht:((l.take k).flatMap jO).length=k*3:=by rw[jT,fG,rD hk]
 have y:(Builtin.firstCells i0.size k (.slice (some ⟨b,off,none⟩) k l.length)).run Tryz.prog w.drew = .ok ((l.take k).flatMap jO).toArray w.drew:=by rw[hU];exact run_firstCells_some w.drew 3 k ⟨b,off,none⟩ k l.length _ ht (fun j v hj=>by rw[mH,hb.drew.cell];exact hw j v hj)
 have r:∀ty,(Builtin.append_ #[41,3] ty #[.slice (some ⟨b,off,none⟩) k l.length,.int .i64 ((l.length+1-k:Nat):Int)]).run Tryz.prog w =
   .ok (.slice (some ⟨w.heap.size,0,none⟩) (l.length+1) (grownCap w (l.length+1) l.length 124)) (w.drew.alloc (.cells (((l.take k).flatMap jO).toArray++Builtin.zeroCells (AJ zCc) (l.length+1-k)++Builtin.zeroCells (AJ zCc) (grownCap w (l.length+1) l.length 124-(l.length+1))) 124)):=fun ty=>by
  have h:=Lib.run_append_grow_zeros w 41 3 ty 124 i0 _ .i64 .i64 underlying41 underlying3 h5 hV (some ⟨b,off,none⟩) k l.length ((l.take k).flatMap jO) y (l.length+1-k) (by omega) (by omega) (by omega) (by omega) (by rw[hr];omega) (by rw[hr,hK];exact growslice_fits (by omega) (by omega));rw[hK] at h;exact h
 obtain⟨G,hG⟩:∃G,G=grownCap w (l.length+1) l.length 124:=⟨_,rfl⟩;have kb:l.length+1≤G:=by rw[hG];exact grownCap_ge w _ _ _
 have hd:G≤maxLen:=by rw[hG];exact grownCap_le_maxLen w _ _ _ (by unfold maxLen;omega)
 obtain⟨ROW,m⟩:∃ROW:Array Value,ROW=((l.take k).flatMap jO).toArray++Builtin.zeroCells (AJ zCc) (l.length+1-k)++Builtin.zeroCells (AJ zCc) (G-(l.length+1)):=⟨_,rfl⟩;rw[←hG,←m] at r;have kp:ROW.size=G*3:=by rw[m];simp[Builtin.zeroCells,AJ,ht];omega
 have ka:∀(j:Nat) (u:Value),((l.take k).flatMap jO)[j]?=some u→ROW[j]?=some u:=by intro j u hj;have s:=(dC.1 hj).1;rw[m,Array.append_assoc,Array.getElem?_append_left (by simpa using s)];simpa using hj
 clear y m hG;obtain⟨W1,n⟩:∃W1,W1=w.drew.alloc (.cells ROW 124):=⟨_,rfl⟩;rw[←n] at r;have hF:aJ W1 w.heap.size ROW 124:=by rw[n];exact aJ.new w.drew ROW _
 have d:w.grownBy W1 (some b):=by rw[n];exact jI (a:=w) (b:=w.drew) (row:=some b) ⟨rfl,rfl,rfl,az _,fun _ _ _=>rfl⟩ (World.grownBy_alloc _ _ _)
 have p:aJ W1 b cur 124:=by rw[n];exact hb.drew.alloc _
 have hm:aJ W1 g (AJ x) 124:=by rw[n];exact hg.drew.alloc _
 clear n;have h7:w.heap.size≠b:=by omega
 have km:w.heap.size≠g:=by omega
 have hQ:∀W ty dc,aJ W w.heap.size ROW 124→aJ W g (AJ x) 124→(Builtin.copy_ #[41,41] ty #[.slice (some ⟨w.heap.size,k*3,none⟩) (l.length+1-k) dc,.slice (some ⟨g,0,none⟩) 1 1]).run Tryz.prog W = .ok (goInt (1:Nat)) (W.setCells w.heap.size (k*3) (jO x)):=fun W ty dc hW hp=>
  ky W _ _ ty 124 3 w.heap.size (k*3) (l.length+1-k) dc ⟨g,0,none⟩ 1 1 1 _ _ _ underlying41 cached_size (by simp only[sO];split<;>omega) rfl hW (fun j v hj=>by rw[mH,hp.cell,dM];simpa[jO] using hj) (by rw[jQ];omega) (fun v hv=>GM x v hv)
 have hP:∀W ty dc sc,aJ W w.heap.size (dE ROW (k*3) (jO x)) 124→aJ W b cur 124→(Builtin.copy_ #[41,41] ty #[.slice (some ⟨w.heap.size,(k+1)*3,none⟩) (l.length-k) dc,.slice (some ⟨b,off+k*3,none⟩) (l.length-k) sc]).run Tryz.prog W = .ok (goInt (l.length-k:Nat)) (W.setCells w.heap.size ((k+1)*3) ((l.drop k).flatMap jO)):=fun W ty dc sc hW h9=>
  ky W _ _ ty 124 3 w.heap.size ((k+1)*3) (l.length-k) dc ⟨b,off+k*3,none⟩ (l.length-k) sc (l.length-k) _ _ _ underlying41 cached_size (by simp only[sO];split<;>omega) hN hW (fun j v hj=>by rw[mH,h9.cell];exact hO j v hj) (by rw[size_putAt];omega) (fun v hv=>zL _ v hv)
 have kq:¬(G=k):=by omega
 have ke:¬(G=k+1):=by omega
 have h4:(0:Int)≤(k:Int)+1:=by omega
 have h8:(k:Int)≤(l.length:Int)+1:=by omega
 have hH:=hd;unfold maxLen at hH;go_enter func173,ntmps173
 go_wp2_with (at_builtin;refine Lib.wpList_append_run _ rfl _ _ _ _ rfl _ _ rfl rfl _ _ (r _) ?_)
 have hE:=hF.setCells (jO x) (k*3);have hn:aJ (W1.setCells w.heap.size (k*3) (jO x)) b cur 124:=p.grown (aB _ _ _ _) (fun e=>h7 (aT e));have o:∀q,q<w.heap.size→q≠b→(W1.setCells w.heap.size (k*3) (jO x)).heap[q]?=w.heap[q]?:=fun q hq hf=>
  ((aB W1 w.heap.size (k*3) (jO x)).block q (nO hq d.size) (fun e=>by have:=aT e;omega)).trans (d.block q hq (fun e=>hf (aT e)))
 have h1:=(aB W1 w.heap.size (k*3) (jO x)).os.trans d.os;have hX:=(aB W1 w.heap.size (k*3) (jO x)).tape.trans d.tape;have h0:=(aB W1 w.heap.size (k*3) (jO x)).output.trans d.output;have t:=aY d.size (aB W1 w.heap.size (k*3) (jO x)).size;generalize W1.setCells w.heap.size (k*3) (jO x)=W2 at *
 clear hF hm p r hQ
 go_region_law (refine zB rfl _ _ 41 41 rfl (.slice (some ⟨w.heap.size,(k+1)*3,none⟩) (l.length-k) (G-(k+1))) (.slice (some ⟨b,off+k*3,none⟩) (l.length-k) (l.length-k)) (by simp[Act.eval,Act.put]) (by simp[Act.eval,Act.put]) (hP _ _ _ _ hE.drew hn.drew) ?_)
 have h2:=hE.drew.setCells ((l.drop k).flatMap jO) ((k+1)*3);have f:=aB W2.drew w.heap.size ((k+1)*3) ((l.drop k).flatMap jO);have hL:w.grownBy (W2.drew.setCells w.heap.size ((k+1)*3) ((l.drop k).flatMap jO)) (some b):=
  ⟨f.os.trans h1,f.tape.trans hX,f.output.trans h0,aY t f.size,fun q hq hf=>(f.block q (nO hq t) (fun e=>by have:=aT e;omega)).trans (o q hq (fun e=>hf (by rw[e])))⟩
 go_wp2;go_ret;refine⟨_,rfl,⟨by rw[AL];simp only[jb,jT,jQ,fG,uU];omega,.inr ⟨w.heap.size,0,G,_,rfl,hB,h2,kb,hd,by rw[size_putAt,size_putAt];omega,Eb hk ?_ ?_ ?_⟩⟩,hL,.inr (fun x hx=>by cases hx;exact az _)⟩
 ·intro j u hj;have s:j<k*3:=by have:=(dC.1 hj).1;rw[jT,fG] at this;omega
  rw[dM,putAt_out _ _ _ _ (by omega),putAt_out _ _ _ _ (by omega)];exact ka j u hj
 ·intro j u hj;have s:j<3:=by have:=(dC.1 hj).1;rwa [jQ] at this
  rw[dM,putAt_out _ _ _ _ (by omega)];exact putAt_in _ _ _ j u (by rw[jQ];omega) hj
 intro j u hj;rw[dM];exact putAt_in _ _ _ j u (by rw[size_putAt];omega) hj
theorem yE (cur:Array Value) (s o n:Nat) (ys xs vs:List Value) (hat:∀j u,ys[j]?=some u→cur[s+j]?=some u) (hx:xs=ys.take o++vs++ys.drop (o+n)) (hn:vs.length=n) (ho:o+n≤ys.length) (hs:s+ys.length≤cur.size):dE cur s xs=dE cur (s+o) vs:=by
 have hl:xs.length=ys.length:=by rw[hx];simp;omega
 apply pJ;intro i
 by_cases hi:i<s∨s+ys.length≤i
 ·rw[putAt_out _ _ _ _ (by rw[hl];exact hi),putAt_out _ _ _ _ (by omega)]
 have h1:i-s<xs.length:=by omega
 have e2:=putAt_in xs cur s (i-s) (xs[i-s]'h1) (by omega) (aN h1);rw[show s+(i-s)=i by omega] at e2;rw[e2,←aN h1,hx]
 by_cases hi2:i<s+o∨s+o+n≤i
 ·rw[putAt_out _ _ _ _ (by omega)];have h2:i-s<ys.length:=by omega
  have e4:=hat (i-s) (ys[i-s]'h2) (aN h2);rw[show s+(i-s)=i by omega] at e4;rw[e4,←aN h2];rcases hi2 with hi2|hi2
  ·rw[nM,iD (by rw[fG];omega),kF,if_pos (by omega)]
  rw[jg (by rw[jb,fG];omega),pQ];congr 1;rw[jb,fG];omega
 have h3:i-(s+o)<vs.length:=by omega
 have e5:=putAt_in vs cur (s+o) (i-(s+o)) (vs[i-(s+o)]'h3) (by omega) (aN h3);rw[show s+o+(i-(s+o))=i by omega] at e5;rw[e5,nM,jg (by rw[fG];omega),fG];have h4:i-s-min o ys.length=i-(s+o):=by omega
 rw[h4,iD h3];exact aN h3
theorem iJ.frPut {e:Int} (h:iJ w B b H e) (hf:f<H.m.fs.length) :
  ∃g off cur,H.af=some ⟨g,off,none⟩∧aJ w g cur 132∧off+f*13+13≤cur.size∧dV w (some ⟨g,off+f*13,none⟩) (oO (aD H.ma f)) ∧
   ∀(o n:Nat) (vs:List Value) (x:Fr) (w' : World),vs.length=n→o+n≤13→oO x=(oO (aD H.ma f)).take o++vs++(oO (aD H.ma f)).drop (o+n)→aJ w' g (dE cur (off+f*13+o) vs) 132→w.grownBy w' (some g) →
    iJ w' B b { H with m:=⟨H.m.fs.set f x,H.m.hand⟩ } e∧∀w0 H0,KS w0 b H0 w H→KS w0 b H0 w' { H with m:=⟨H.m.fs.set f x,H.m.hand⟩ }:=by
 obtain⟨g,off,cur,i,p,d,c,j,k,l,a⟩:=h.frame hf;refine⟨g,off,cur,i,d,c,j,fun o n vs x w' hn ho hx hb hg=>⟨a w' x ?_ hg,fun w0 H0 s=>s.put hg (.inr (.inl (by rw[i];rfl))) fun y hy => .inl (zR rfl rfl rfl hy)⟩⟩;have hl:=iR (aD H.ma f);generalize oO (aD H.ma f)=ys at *
 generalize oO x=xs at *
 rw[yE cur (off+f*13) o n ys xs vs k hx hn (by omega) (by omega)];exact hb
theorem wo {α:Type} (x:α):∀(l:List α) (k:Nat),k≤l.length→l.insertIdx k x=l.take k++x::l.drop k
 | l,0,_=>by simp
 | [],k+1,h=>by simp at h
 | a::l,k+1,h=>by rw[GA,wo x l k (by simpa using h)];simp
theorem cac_size:(Tryz.prog.info? 41).map (·.size)=some 1:=by kernel_rfl
theorem Ke (H:MH) (e:Int) (F I:Nat) (P:PF) (v:Int) (B b:Nat) (w:World) (h:iJ w B b H e) (hP:H.fi[F]?=some P) (hv:P.l[I]?=some v) (hn:0≤P.n∧P.n≤1000) (hI:I≤1000) (hck:∀c∈H.ca,0≤c.k∧c.k<H.m.fs.length) (hwo:0≤v→aK H.dk v=0)
 (hz:H.sp.length≤1000) (hz2:H.ca.length≤1000) (hz3:H.m.fs.length≤1000) :
  Calls Tryz.prog 124 #[.pointer (some ⟨b,0,none⟩),.int .i64 F,.int .i64 I] w fun r w'=>r = .returned (.int .i64 (fw ⟨H.ma,e⟩ F I).2)∧KR w B b H w' (fw ⟨H.ma,e⟩ F I).1:=by
 go_enter func124,ntmps124
 go_wp2_with fail
 refine (Ce H e F I B b _ h).mono ?_;rintro r w1 ⟨rfl,hJ⟩;have k1:=h.below hJ;have s1:=(KS.refl w b H).below hJ;clear h hJ;cases hi:Gq H.ca F I with
 | true=>
  have s:Hid (fw ⟨H.ma,e⟩ F I=(⟨setFr H.ma (wz H.ma (tQ H.ca F I)).k.toNat (kC (aD H.ma (wz H.ma (tQ H.ca F I)).k.toNat)),e⟩,(wz H.ma (tQ H.ca F I)).k)):=ae (by unfold fw;exact if_pos hi);obtain⟨c,hc,_,_⟩:=EB hi;have kg:=(dC.1 hc).1;have h8:wz H.ma (tQ H.ca F I)=c:=by unfold wz;show H.ca.getD _ _=c;rw[bJ,hc];rfl
  have h7:=hck c (dn hc);rw[h8] at s;clear h8 hi;generalize tQ H.ca F I=k at *
  obtain⟨K,hK⟩:∃K:Nat,c.k=K:=⟨c.k.toNat,by omega⟩;rw[hK,bG] at s;have kl:K<H.m.fs.length:=by omega
  obtain⟨bc,oc,c',kj,h9,_,_,hX⟩:=Sv k1.ma.rd.ca.rd k kg;rw[hc] at h9;cases h9;rw[hK] at hX;have kr:(K:Int)<(H.m.fs.length:Int):=by omega
  obtain⟨g,off,cur,ki,ka,kp,kf,hZ⟩:=k1.frPut kl;have i:=k1.blk.cell;unfold lG at i;rw[kj,ki] at i;clear hc h7 hck hP hv kf
  go_wp2_with (refine aX rfl _ _ _ rfl g (off+K*13+9) _ [.bool true] rfl rfl rfl _ _ ka (by simp;omega) vg (fun u hu=>by cases bF.1 hu;rfl) ?_)
  intro w2 hp kh;obtain⟨k2,s2⟩:=hZ 9 1 [.bool true] (kC (aD H.ma K)) w2 rfl (by decide) rfl hp kh;have s2:=s2 _ _ s1;go_wp2;go_ret;rw[s.out];exact⟨rfl,_,_,k2,s2,rfl⟩
 | false=>
  have s:Hid (fw ⟨H.ma,e⟩ F I=(let r:=eP ⟨H.ma,Ef ⟨H.ma,e⟩ F I⟩ (dF H.ma F I) F I
   if r.2<0 then (r.1,-1) else (⟨{ r.1.m with ca:=r.1.m.ca.insertIdx (tQ r.1.m.ca F I) ⟨F,I,r.2⟩ },r.1.e⟩,r.2))):=ae (by unfold fw;exact if_neg (by show ¬Gq H.ca F I=true;rw[hi];decide))
  clear hi hck;have ku:=ae k1.bs;have hY:bD H.ma.st F I=v:=by unfold bD;rw[kH (x:=P.fi) (by show (H.fi.map PF.fi)[F]?=_;rw[jd,hP];rfl),bG,bJ];show (P.l[I]?).getD 0=v;rw[hv];rfl
  have h4:(aI H.ma.st F).n=P.n:=by rw[kH (x:=P.fi) (by show (H.fi.map PF.fi)[F]?=_;rw[jd,hP];rfl)];rfl
  have hl:Hid (Ef ⟨H.ma,e⟩ F I=if 0≤v then iK e (aK H.dk v) else e):=ae (by unfold Ef;rw[hY];rfl);have hy:Hid (dF H.ma F I=if 0≤v then dm (dP H.dk v) (P.n-I*8) else zPg):=ae (by unfold dF;rw[hY,h4];rfl);clear hY h4;generalize tQ H.ca F I=k0 at *
  go_upto_region 7 with (fail);refine je (fun W=>Code.wp _ _ _ _ W) fun w2 hp pg2 ke => ?_;have k2:=k1.below hp;have s2:=s1.below hp;have hO:=(dC.1 hP).1;obtain⟨bf,of,P',hA,hf,hW,hV⟩:=yR k2.ma.rd.st.rd F hO;rw[hP] at hf;cases hf;have hg:=k2.ma.rd.st.good P (dn hP);have ks:=(dC.1 hv).1;obtain⟨bb,ob,kk,h5⟩:∃bb ob,P.a=some ⟨bb,ob,none⟩∧w2.cell? ⟨bb,ob+I,none⟩=some (.int .i64 v):=by obtain⟨bb,ob,h1,h2⟩:=hg.rd I (gQ v) (by rw[jd,hv];rfl);exact⟨bb,ob,h1,h2⟩
  rw[kk] at hV;have i:=k2.blk.cell;unfold lG at i;rw[hA] at i;have kt:(F:Int)<(H.fi.length:Int):=by omega
  have kb:(I:Int)<(P.l.length:Int):=by omega
  by_cases h0:0≤v
  ·have hw:=hwo h0;rw[if_pos h0] at hl hy;rw[hw,mP] at hl;go_upto_region 9 with (fail);clear i hV h5 hg kb
   go_wp2_with (refine aA _ _ rfl b 5 rfl rfl _ k2.rdD _ underlying37 rfl disk_size ?_)
   refine (FP H.dk v _ _ _ _ _ k2.ma.rd.dk).mono ?_;rintro r w3 ⟨rfl,hG⟩;rw[hw];have k3:=k2.below hG;have s3:=s2.below hG;have pg3:=pg2.ext hG;have hT:=ah hp hG
   go_wp2_with (refine aW rfl _ _ _ rfl (gZ (dP H.dk v)) rfl rfl rfl psize (qB _) ?_)
   intro w4 hF x4;have k4:=k3.below hF;have pg4:=pg3.ext hF;have s4:=s3.below hF;have hS:=ah hT hF
   go_wp2_with fail
   refine (qV _ e 0 _ _ _ k4).mono ?_;rintro r w5 ⟨rfl,k5,ht⟩;rw[mP] at k5;have q:Below w4.heap.size w4 w5:=⟨ht.os,ht.tape,ht.output,ht.size,fun x hx=>by
    by_cases e' : x=b
    ·subst e'; exact k5.blk.trans k4.blk.symm
    ·exact ht.block x hx (fun e''=>e' (aT e''))⟩
   clear k5 ht;have k5:=k4.below q;have s5:=s4.below q;have x5:=x4.ext q;have pg5:=pg4.ext q;have hH:=ah hS q;have kq:=pg5.lt;clear k2 s2 hp k3 s3 pg3 hG hT k4 s4 pg4 hF hS q x4 pg2 hA hW;obtain⟨bf,of,P',hA,hf,hW,_⟩:=yR k5.ma.rd.st.rd F hO;rw[hP] at hf;cases hf;have hQ:∀W,Below w5.heap.size w5 W→W.cell? ⟨bf,of+F*2,none⟩=some (.int .i64 P.n):=fun W hb=>by obtain⟨bf',of',P',hU,hf,h6,_⟩:=yR (k5.below hb).ma.rd.st.rd F hO;rw[hP] at hf;cases hf;rw[hA] at hU;cases hU;exact h6
   have kd:IntKind.i64.wrap ((I:Int)*8)=(I:Int)*8:=dS _ (by omega);have kc:IntKind.i64.wrap (P.n-(I:Int)*8)=P.n-(I:Int)*8:=dS _ (by omega);go_upto_region 11 with (fail);refine aP 15 [_,_,_,_,_,_,_,_,_,_,_,_,_,_,.v (.agg (gZ (dm (dP H.dk v) (P.n-(I:Int)*8))))] (Gr (.agg (gZ (dP H.dk v))) (fun ρ y W hb hN=>(bZ rfl (aV rfl hN) (x5.ext hb) underlying100 rfl psize)) rfl rfl (Gk rfl (Gk rfl (Gf b 0 rfl rfl (Gf b 7 rfl rfl (Gf b 7 rfl rfl (Gc (.slice (some ⟨bf,of,none⟩) H.fi.length H.ci) (fun W hb=>by simp[(k5.below hb).blk.cell,lG,hA]) rfl rfl rfl rfl (Gk rfl (Gr (.pointer (some ⟨bf,of+F*2,none⟩)) (fun ρ y W hb hN=>(eO rfl (aV rfl hN) (aV rfl hN) hO underlying38 file_size)) rfl rfl (Gf bf (of+F*2) rfl rfl (Gc (.int .i64 P.n) (fun W hb=>by simp[hQ W hb]) rfl rfl rfl rfl (Gk rfl (Gb (.int .i64 ((I:Int)*8)) (by simp[go_sem,kd]) rfl rfl rfl rfl rfl (Gb (.int .i64 (P.n-(I:Int)*8)) (by simp[go_sem,kc]) rfl rfl rfl rfl rfl (aj ?_ (aG)))))))))))))))) (fun _=>rfl) rfl ?_
   ·intro ρ y W hw hn hb hd;have ko:=hw 72 0 rfl;have h0:y 0=_:=hd 0 rfl;have kn:=hw 85 13 rfl;have km:y 13=_:=hd 13 rfl;have EF:∀f,ρ (.func f) = .func (.func f) #[] #[]:=fun f=>hn (.func f) trivial;refine aL _ _ (ag rfl) (aS rfl (EF _) func171 (by kernel_rfl) (by kernel_rfl) (by simp only[bT,bH,bL,ko,h0,kn,km,EF];rfl)) ?_;refine (Ur _ _ _).mono ?_;rintro r w1 ⟨rfl,hJ⟩;exact⟨_,rfl,hJ,rfl⟩
   intro y W6 hs _
   go_wp2_with (refine fI rfl _ _ _ rfl w1.heap.size 0 (gZ (dm (dP H.dk v) (P.n-(I:Int)*8))) rfl rfl _ _ (pg5.ext hs) (by show 0+8≤8;decide) psize (qB _) ?_)
   intro w7 hM h3;have hM:aJ w7 w1.heap.size (gZ (dm (dP H.dk v) (P.n-(I:Int)*8))) 100:=by rw[←eB (gZ zPg) (gZ (dm (dP H.dk v) (P.n-(I:Int)*8))) rfl];exact hM
   have hR:Below w1.heap.size w1 w7:=(ah hH hs).grown h3 (aY hH.size hs.size) (fun k hk=>by cases hk;exact az _);have k7:=k1.below hR;have s7:=s1.below hR;clear k5 s5 x5 pg5 hH hs h3 hQ hW hA k1 s1;have hj:Hid (fw ⟨H.ma,e⟩ F I=if (eP ⟨H.ma,e⟩ (dm (dP H.dk v) (P.n-(I:Int)*8)) F I).2<0 then ((eP ⟨H.ma,e⟩ (dm (dP H.dk v) (P.n-(I:Int)*8)) F I).1,-1) else (⟨{ (eP ⟨H.ma,e⟩ (dm (dP H.dk v) (P.n-(I:Int)*8)) F I).1.m with ca:=(eP ⟨H.ma,e⟩ (dm (dP H.dk v) (P.n-(I:Int)*8)) F I).1.m.ca.insertIdx (tQ (eP ⟨H.ma,e⟩ (dm (dP H.dk v) (P.n-(I:Int)*8)) F I).1.m.ca F I) ⟨F,I,(eP ⟨H.ma,e⟩ (dm (dP H.dk v) (P.n-(I:Int)*8)) F I).2⟩ },(eP ⟨H.ma,e⟩ (dm (dP H.dk v) (P.n-(I:Int)*8)) F I).1.e⟩,(eP ⟨H.ma,e⟩ (dm (dP H.dk v) (P.n-(I:Int)*8)) F I).2)):=ae (by rw[s.out,hl.out,hy.out]);clear s hl hy;generalize dm (dP H.dk v) (P.n-(I:Int)*8)=Q at *
   generalize w1.heap.size=gp at *
   go_upto_region 12 with (fail)
   go_wp2_with (refine aA _ _ rfl gp 0 rfl rfl (gZ Q).toList hM.rd _ underlying100 rfl psize ?_)
   refine (qN H e F I Q B b _ k7 hz hz2 hz3).mono ?_;rintro r w8 ⟨rfl,H8,e8,k8,s8,q8⟩;have s08:=s7.trans s8;have hD:=qD.took ⟨H.ma,e⟩ Q F I;obtain⟨m1,m2,m3⟩:=XI q8;have hE:H8.ca.length≤1000:=by rw[m2];exact aY hD.ca hz2
   have q8':=ae q8;clear k7 s7 hM s8 q8 hD m1 m2 m3;generalize hK2:(eP ⟨H.ma,e⟩ Q F I).2=K2
   by_cases h2:K2<0
   ·have hq:Hid (fw ⟨H.ma,e⟩ F I=(⟨H8.ma,e8⟩,-1)):=ae (by rw[hj.out,hK2,if_pos h2,q8'.out]);go_wp2;go_ret;rw[hq.out];exact⟨rfl,_,_,k8,s08,rfl⟩
   have hq:Hid (fw ⟨H.ma,e⟩ F I=(⟨{ H8.ma with ca:=H8.ca.insertIdx (tQ H8.ca F I) ⟨F,I,K2⟩ },e8⟩,K2)):=ae (by rw[hj.out,hK2,if_neg h2,←q8'.out];rfl);clear hK2 hj q8'
   go_wp2_with fail
   refine (Ce H8 e8 F I B b _ k8).mono ?_;rintro r w9 ⟨rfl,hm⟩;have k9:=k8.below hm;have s9:=s08.below hm;clear k8 s08 hm;have hr:=CV H8.ca F I;generalize tQ H8.ca F I=k0 at *
   generalize Gq H8.ca F I=ok0 at *
   have i:=k9.blk.cell;unfold lG at i
   go_wp2_with fail
   refine je (fun W=>Calls _ _ _ W _) fun w10 p x10 hB => ?_;have k10:=k9.below p;have s10:=s9.below p;have hC:∀g,(Value.slice H8.ac H8.ca.length H8.cc).ownBlock=some g→w9.heap.size≠g:=fun g hg e=>by rw[wE] at hg;obtain⟨_,cs,hb⟩:=oC k9.ma.ca hg;have:=hb.lt;omega
   refine (Bg H8.ca ⟨F,I,K2⟩ k0 hr _ B _ _ k10.ma.ca k10.bs hE x10 (fun _=>hC)).mono ?_;rintro r w11 ⟨v11,rfl,d,o,j⟩;obtain⟨a11,c11,rfl,_⟩:=d.rd;rw[←wo _ _ _ hr] at d;have t:(H8.ca.insertIdx k0 ⟨F,I,K2⟩).length=H8.ca.length+1:=by rw[List.length_insertIdx,if_pos hr]
   rw[←t] at d;rw[wE] at o;obtain⟨hL,hh⟩:=k10.cache s10 o (a:=a11) (c:=c11) (l:=H8.ca.insertIdx k0 ⟨F,I,K2⟩) d (by
    rcases j with e' | e'
    ·rw[wE,wE] at e'; exact .inl e'
    refine .inr fun g hg => ?_;have:=e' g (by rw[wE];exact hg);exact aY s10.size this)
   rw[t] at hh;clear k9 s9 k10 s10 x10 p hB hC d o j i
   go_wp2_with (refine aX rfl _ _ _ rfl b 9 _ [.slice a11 (H8.ca.length+1) c11] rfl rfl rfl _ _ hL (by show 9+1≤12;decide) cac_size (fun u hu=>by cases bF.1 hu;rfl) ?_)
   intro w12 ha z;obtain⟨k12,s12⟩:=hh w12 ha z;clear hh hL ha z;go_wp2;go_ret;rw[hq.out];exact⟨rfl,_,_,k12,s12,rfl⟩
  have pg2' : aJ w2 w1.heap.size (gZ zPg) 100:=pg2;rw[if_neg h0] at hl hy;go_upto_region 12 with (fail);have hj:Hid (fw ⟨H.ma,e⟩ F I=if (eP ⟨H.ma,e⟩ zPg F I).2<0 then ((eP ⟨H.ma,e⟩ zPg F I).1,-1) else (⟨{ (eP ⟨H.ma,e⟩ zPg F I).1.m with ca:=(eP ⟨H.ma,e⟩ zPg F I).1.m.ca.insertIdx (tQ (eP ⟨H.ma,e⟩ zPg F I).1.m.ca F I) ⟨F,I,(eP ⟨H.ma,e⟩ zPg F I).2⟩ },(eP ⟨H.ma,e⟩ zPg F I).1.e⟩,(eP ⟨H.ma,e⟩ zPg F I).2)):=ae (by rw[s.out,hl.out,hy.out]);clear s hl hy k1 s1 hp pg2 i hV h5 hg kb ke;generalize zPg=Q at *
  generalize w1.heap.size=gp at *
  go_upto_region 12 with (fail)
  go_wp2_with (refine aA _ _ rfl gp 0 rfl rfl (gZ Q).toList pg2'.rd _ underlying100 rfl psize ?_)
  refine (qN H e F I Q B b _ k2 hz hz2 hz3).mono ?_;rintro r w8 ⟨rfl,H8,e8,k8,s8,q8⟩;have s08:=s2.trans s8;have hD:=qD.took ⟨H.ma,e⟩ Q F I;obtain⟨m1,m2,m3⟩:=XI q8;have hE:H8.ca.length≤1000:=by rw[m2];exact aY hD.ca hz2
  have q8':=ae q8;clear k2 s2 pg2' s8 q8 hD m1 m2 m3;generalize hK2:(eP ⟨H.ma,e⟩ Q F I).2=K2
  by_cases h2:K2<0
  ·have hq:Hid (fw ⟨H.ma,e⟩ F I=(⟨H8.ma,e8⟩,-1)):=ae (by rw[hj.out,hK2,if_pos h2,q8'.out]);go_wp2;go_ret;rw[hq.out];exact⟨rfl,_,_,k8,s08,rfl⟩
  have hq:Hid (fw ⟨H.ma,e⟩ F I=(⟨{ H8.ma with ca:=H8.ca.insertIdx (tQ H8.ca F I) ⟨F,I,K2⟩ },e8⟩,K2)):=ae (by rw[hj.out,hK2,if_neg h2,←q8'.out];rfl);clear hK2 hj q8'
  go_wp2_with fail
  refine (Ce H8 e8 F I B b _ k8).mono ?_;rintro r w9 ⟨rfl,hm⟩;have k9:=k8.below hm;have s9:=s08.below hm;clear k8 s08 hm;have hr:=CV H8.ca F I;generalize tQ H8.ca F I=k0 at *
  generalize Gq H8.ca F I=ok0 at *
  have i:=k9.blk.cell;unfold lG at i
  go_wp2_with fail
  refine je (fun W=>Calls _ _ _ W _) fun w10 p x10 hB => ?_;have k10:=k9.below p;have s10:=s9.below p;have hC:∀g,(Value.slice H8.ac H8.ca.length H8.cc).ownBlock=some g→w9.heap.size≠g:=fun g hg e=>by rw[wE] at hg;obtain⟨_,cs,hb⟩:=oC k9.ma.ca hg;have:=hb.lt;omega
  refine (Bg H8.ca ⟨F,I,K2⟩ k0 hr _ B _ _ k10.ma.ca k10.bs hE x10 (fun _=>hC)).mono ?_;rintro r w11 ⟨v11,rfl,d,o,j⟩;obtain⟨a11,c11,rfl,_⟩:=d.rd;rw[←wo _ _ _ hr] at d;have t:(H8.ca.insertIdx k0 ⟨F,I,K2⟩).length=H8.ca.length+1:=by rw[List.length_insertIdx,if_pos hr]
  rw[←t] at d;rw[wE] at o;obtain⟨hL,hh⟩:=k10.cache s10 o (a:=a11) (c:=c11) (l:=H8.ca.insertIdx k0 ⟨F,I,K2⟩) d (by
   rcases j with e' | e'
   ·rw[wE,wE] at e'; exact .inl e'
   refine .inr fun g hg => ?_;have:=e' g (by rw[wE];exact hg);exact aY s10.size this)
  rw[t] at hh;clear k9 s9 k10 s10 x10 p hB hC d o j i
  go_wp2_with (refine aX rfl _ _ _ rfl b 9 _ [.slice a11 (H8.ca.length+1) c11] rfl rfl rfl _ _ hL (by show 9+1≤12;decide) cac_size (fun u hu=>by cases bF.1 hu;rfl) ?_)
  intro w12 ha z;obtain⟨k12,s12⟩:=hh w12 ha z;clear hh hL ha z;go_wp2;go_ret;rw[hq.out];exact⟨rfl,_,_,k12,s12,rfl⟩
theorem firstE_zero:∀ {l:List Int},firstE l=0↔∀x∈l,x=0
 | []=>by simp[firstE]
 | x::l=>by
  unfold firstE
  by_cases hx:x=0
  ·rw[if_pos hx,firstE_zero];constructor
   ·intro h y hy;rcases eT.1 hy with e|hy
    ·rw[e,hx]
    ·exact h y hy
   ·exact fun h y hy=>h y (iM _ hy)
  rw[if_neg hx];exact⟨fun h=>absurd h hx,fun h=>absurd (h x jh) hx⟩
theorem mO {p:Prop} [Decidable p] {a b:Int} (ha:a≠0):(if p then a else b)=0↔¬p∧b=0:=by
 by_cases h:p
 ·rw[if_pos h];exact⟨fun h'=>absurd h' ha,fun h'=>absurd h h'.1⟩
 ·rw[if_neg h];exact⟨fun h'=>⟨h,h'⟩,fun h'=>h'.2⟩
theorem mr {a b:Int}:(if a≠0 then a else b)=0↔a=0∧b=0:=by
 by_cases h:a=0
 ·rw[if_neg (fun h'=>h' h)];exact⟨fun h'=>⟨h,h'⟩,fun h'=>h'.2⟩
 ·rw[if_pos h];exact⟨fun h'=>absurd h' h,fun h'=>absurd h'.1 h⟩
theorem Bv {s:Sp}:jK s=0↔(dI s.ar).1=0∧dR s.tb=0∧(s.lv=false→s.ar=[]∧∀n,(dB s.tb n).k=0):=by
 unfold jK;rw[mr,mr,mO (by decide)];refine and_congr_right fun _=>and_congr_right fun _ => ?_;constructor
 ·rintro⟨h,_⟩ hl;have h1:s.ar.length+(aM s.tb).length=0:=by
   rcases wW (s.ar.length+(aM s.tb).length) with h0|h0
   ·exact h0
   ·exact absurd ⟨hl,h0⟩ h
  refine⟨kJ (by omega),fun n => ?_⟩
  by_cases hn:0≤n∧n<64
  ·have h2:aM s.tb=[]:=kJ (by omega)
   by_cases hk:(dB s.tb n).k=0
   ·exact hk
   have:=jX.2 ⟨hn,hk⟩;rw[h2] at this;cases this
  ·rw[rF (by omega)];rfl
 refine fun h=>⟨?_,rfl⟩;rintro⟨hl,h0⟩;obtain⟨h1,h2⟩:=h hl;have h3:aM s.tb=[]:=by rw[List.eq_nil_iff_forall_not_mem];intro n hn;exact (jX.1 hn).2 (h2 n)
 rw[h1,h3] at h0;exact absurd h0 (by simp)
theorem FW :trimB m=true↔(∀b:Int,0≤b→b<m.dk.blocks.length→b∈iA m.st∨m.dk.blocks.getD b.toNat zPg=zPg)∧∀q∈m.dk.queue,q.1∈iA m.st:=by
 unfold trimB;rw[dA,dh,dh];refine and_congr ⟨fun h b h0 hb => ?_,fun h b hb => ?_⟩ ⟨fun h q hq=>by simpa using h q hq,fun h q hq=>by simpa using h q hq⟩
 ·have:=h b.toNat (bX.2 (by omega));rw[Cf h0] at this;simpa using this
 have:=h (b:Int) (by omega) (by have:=bX.1 hb;omega);simpa using this
theorem wm :il m=0↔Pt m∧trimB m=true∧∀s∈m.sp,s.lv=false→s.ar=[]∧∀n,(dB s.tb n).k=0:=by
 unfold il;rw[mr,mr,mr,mr,mr,mO (by decide),mO (by decide),firstE_zero];constructor
 ·rintro⟨h1,h2,h3,h4,h5,h6,h7,h8⟩;have h9:∀s∈m.sp,_:=fun s hs=>Bv.1 (h8 _ (Cx hs));refine⟨⟨h1,h2,h3,h4,h5,?_,?_,by omega,fun s hs=>(h9 s hs).1,fun s hs=>(h9 s hs).2.1⟩,?_,fun s hs=>(h9 s hs).2.2⟩
  ·exact sF fun h=>h6 (.inl h)
  ·exact sF fun h=>h6 (.inr (.inl h))
  cases h:trimB m with
  | true=>rfl
  | false=>exact absurd (.inr (.inr h)) h6
 rintro⟨h,ht,hl⟩;refine⟨h.fr,h.sl,h.sw,h.dk,h.st,?_,by have:=h.spl;omega,?_⟩
 ·rintro (h1|h1|h1)
  ·exact h1 h.swl
  ·exact h1 h.dkl
  ·rw[ht] at h1;cases h1
 intro x hx;obtain⟨s,hs,rfl⟩:=fF.1 hx;exact Bv.2 ⟨h.ar s hs,h.tb s hs,hl s hs⟩
theorem wR {p:Option Cc} {c:Cc}:tN m p c=0↔(ni m.st c.f c.i∧0≤c.k∧c.k<m.m.fs.length)∧(1≤(aD m c.k.toNat).r∧(aD m c.k.toNat).f=c.f∧(aD m c.k.toNat).i=c.i)∧∀q,p=some q→CL q c:=by
 have a:gL m c.k=aD m c.k.toNat:=rfl;unfold tN;rw[mO (by decide),mO (by decide),a];refine and_congr ⟨fun h=>⟨⟨by omega,by omega⟩,by omega⟩,fun h=>by obtain⟨⟨_,_⟩,_⟩:=h;omega⟩ (and_congr ⟨fun h=>by omega,fun h=>by omega⟩ ?_);cases p with
 | none=>simp
 | some q=>
  simp only[iq,forall_eq'];rw[mO (by decide)];unfold CL;omega
theorem Gg {l:List Cc} (h:∀k (hk:k+1<l.length),CL (l[k]'(by omega)) l[k+1]):l.Pairwise CL:=by
 induction l with
 | nil=>exact List.Pairwise.nil
 | cons a l ih=>
  have ih:=ih fun k hk=>h (k+1) (by simpa using hk);refine sJ.2 ⟨?_,ih⟩;cases l with
  | nil=>simp
  | cons b l=>
   have h0:CL a b:=h 0 (by simp);intro c hc;rcases eT.1 hc with e|hc
   ·rw[e];exact h0
   have h1:=(sJ.1 ih).1 c hc;unfold CL at *; omega
theorem zt :ig m=0↔uu m:=by
 unfold ig;rw[firstE_zero];constructor
 ·intro h;have h1:∀k (hk:k<m.ca.length),tN m (xZ m.ca k) m.ca[k]=0:=fun k hk=>by have:=h _ (Cx (bX.2 hk));rw[bJ,aN hk] at this;exact this
  have h2:∀c∈m.ca,(ni m.st c.f c.i∧0≤c.k∧c.k<m.m.fs.length)∧(1≤(aD m c.k.toNat).r∧(aD m c.k.toNat).f=c.f∧(aD m c.k.toNat).i=c.i):=fun c hc=>by obtain⟨k,hk,rfl⟩:=jG.1 hc;have:=wR.1 (h1 k hk);exact⟨this.1,this.2.1⟩
  refine⟨fun c hc=>(h2 c hc).1.1,fun c hc=>(h2 c hc).1.2,fun c hc=>(h2 c hc).2,Gg fun k hk => ?_⟩;refine (wR.1 (h1 (k+1) hk)).2.2 _ ?_;unfold xZ;rw[if_neg (by omega),Nat.add_sub_cancel,aN]
 intro h x hx;obtain⟨k,hk,rfl⟩:=fF.1 hx;have hk:=bX.1 hk;rw[bJ,aN hk,rZ];have hm:m.ca[k]∈m.ca:=eX hk;refine wR.2 ⟨⟨h.file _ hm,h.lt _ hm⟩,h.fr _ hm,fun q hq => ?_⟩;unfold xZ at hq;split at hq
 ·cases hq
 rw[aN (by omega)] at hq;rw[←aT hq];exact BN.1 h.srt _ _ (by omega) hk (by omega)
theorem Dn (hp:Pt m) (hk:(aF m p n).k≠0):bV m (bE m p) n=0↔∃g,dQ m p n=some g∧UU m g (aF m p n):=by
 have hE:=(cz _).1 (jL hp p n);unfold bV;rw[mO (by decide)];have j:=yQ (bE m p).ar n;constructor
 ·rintro⟨h1,h2⟩;obtain⟨h3,h4⟩:=zQ (l:=(bE m p).ar) (n:=n) (by omega);refine⟨_,h3,?_⟩;generalize (bE m p).ar.getD (eQ (bE m p).ar n).toNat zAr=a at *
  have he:dB (bE m p).tb n=aF m p n:=rfl;rw[he] at h2;generalize aF m p n=e at *
  simp only at h2
  by_cases h5:e.k=2
  ·rw[if_pos h5,mO (by decide)] at h2;refine⟨fun _=>⟨by omega,?_⟩,fun h=>by omega,fun h=>by omega⟩;show a.sh=false;cases hs:a.sh with
   | false=>rfl
   | true=>exact absurd (.inr hs) h2.1
  rw[if_neg h5,mO (by decide),mO (by decide),mO (by decide)] at h2;have c:gL m e.n=aD m e.n.toNat:=rfl;rw[c] at h2;obtain⟨h6,h7,h8,_⟩:=h2;refine⟨fun h=>absurd h h5,fun _=>by omega,fun _ => ?_⟩;show MC (aD m e.n.toNat) (vQ a n) e.w;generalize aD m e.n.toNat=f at *
  have b:0≤f.f→(0≤a.fi∧f.f=a.fi∧f.i=a.ba+n-a.fr):=fun h0=>by refine sF fun hn=>h7 (.inl ⟨h0,?_⟩);rw[FZ];simp only[ne_eq,dA,decide_eq_true_eq];exact fun h=>hn ⟨h.1.1,h.1.2,h.2⟩
  refine⟨fun h0 => ?_,fun hs => ?_,fun hw => ?_,fun hw h0 => ?_,fun hw h0 => ?_⟩
  ·obtain⟨k1,k2,k3⟩:=b h0;refine⟨k2,?_⟩;unfold vQ;simp only;rw[if_pos k1];exact k3
  ·refine sF fun hn=>h7 (.inr (.inl ⟨hs,?_⟩));rw[FZ];simp only[ne_eq,dA,decide_eq_true_eq];exact fun h=>by omega
  ·show a.wr=true;cases hs:a.wr with
   | true=>rfl
   | false=>exact absurd (.inr (.inr (.inr ⟨hw,hs⟩))) h7
  ·show a.sh=true;cases hs:a.sh with
   | true=>rfl
   | false=>
    refine absurd (.inr (.inr (.inl ⟨hs,?_,hw⟩))) h7;have:=b h0;simp only[dA,decide_eq_true_eq];exact⟨⟨this.1,this.2.1⟩,this.2.2⟩
  ·exact sF fun hn=>h8 ⟨h0,hw,by omega⟩
 rintro⟨g,hg,hf⟩;have o:onA (bE m p).ar n≠none:=by have:dQ m p n=onA (bE m p).ar n:=rfl;rw[←this,hg];exact fun h=>by cases h
 have h1:=j.2 o;refine⟨by omega,?_⟩;obtain⟨h3,h4⟩:=zQ (l:=(bE m p).ar) (n:=n) h1;have q : g=vQ ((bE m p).ar.getD (eQ (bE m p).ar n).toNat zAr) n:=by have:dQ m p n=onA (bE m p).ar n:=rfl;rw[this,h3] at hg;exact (aT hg).symm
 subst q;generalize (bE m p).ar.getD (eQ (bE m p).ar n).toNat zAr=a at *
 have he:dB (bE m p).tb n=aF m p n:=rfl;rw[he];generalize aF m p n=e at *
 simp only
 by_cases h5:e.k=2
 ·obtain⟨k1,k2⟩:=hf.sw h5;have k2:a.sh=false:=k2;rw[if_pos h5,mO (by decide)];refine⟨?_,rfl⟩;rintro (h|h)
  ·omega
  ·rw[k2] at h;cases h
 have h1:e.k=1:=by omega
 have k1:=hf.lt h1;obtain⟨f1,f2,f3,f4,f5⟩:=hf.fr h1;have c:gL m e.n=aD m e.n.toNat:=rfl;rw[if_neg h5,mO (by decide),mO (by decide),mO (by decide),c];generalize aD m e.n.toNat=f at *
 have f2:a.sh=true→0≤f.f:=f2;have f3:e.w=true→a.wr=true:=f3;have f4:e.w=true→0≤f.f→a.sh=true:=f4;have b:0≤f.f→(decide (0≤a.fi)&&decide (f.f=a.fi)&&decide (f.i=a.ba+n-a.fr))=true:=fun h0=>by obtain⟨k2,k3⟩:=f1 h0;have k2:f.f=a.fi:=k2;unfold vQ at k3;simp only at k3;rw[if_pos (by omega)] at k3;simp only[dA,decide_eq_true_eq];exact⟨⟨by omega,k2⟩,k3⟩
 have d : (decide (0≤a.fi)&&decide (f.f=a.fi)&&decide (f.i=a.ba+n-a.fr))=true→0≤f.f:=fun h=>by simp only[dA,decide_eq_true_eq] at h;omega
 generalize (decide (0≤a.fi)&&decide (f.f=a.fi)&&decide (f.i=a.ba+n-a.fr))=of at *
 refine⟨by omega,?_,?_,rfl⟩
 ·rintro (⟨k2,k3⟩|⟨k2,k3⟩|⟨k2,k3,k4⟩|⟨k2,k3⟩)
  ·rw[b k2] at k3;cases k3
  ·rw[b (f2 k2)] at k3;cases k3
  ·rw[f4 k4 (d k3)] at k2;cases k2
  ·rw[f3 k2] at k3;cases k3
 rintro⟨k2,k3,k4⟩;have:=f5 k3 k2;omega
theorem zk (hp:Pt m):mh m=0↔∀p n,(aF m p n).k≠0→∃g,dQ m p n=some g∧UU m g (aF m p n):=by
 unfold mh;rw[firstE_zero];constructor
 ·intro h p n hk;have a : p<m.sp.length:=sF fun hn=>hk (by unfold aF;rw[qo (by omega)];have:dB zSp.tb n=zEn:=qm n;rw[this];rfl);have hn:0≤n∧n<64:=sF fun hn=>hk (by rw[zS p (by omega)];rfl);refine (Dn hp hk).1 (h _ (jq.2 ⟨bE m p,zA a,Cx (jX.2 ⟨hn,hk⟩)⟩))
 intro h x hx;obtain⟨s,hs,hx⟩:=jq.1 hx;obtain⟨n,hn,rfl⟩:=fF.1 hx;obtain⟨p,a,rfl⟩:=NR hs;have hk:=(jX.1 hn).2;exact (Dn hp hk).2 (h p n hk)
theorem Tz (t:Tb) (i:Int):cnt (nN t (aM t)) i=(fC t).countP (qM 1 i):=by
 rw[←El (show (1:Int)≠0 by decide)];unfold cnt nN nX qc;rw[xH,Hy,←Il];congr 1;funext n;simp only[Hw,CB];rw[oJ];simp only[dA,qh,decide_eq_false_iff_not,qU,decide_eq_true_eq];exact and_comm
theorem Rk {t:Tb} (h:dR t=0) (i:Int):cnt (swapT t (aM t)) i=(fC t).countP (qM 2 i):=by
 rw[←El (show (2:Int)≠0 by decide)];unfold cnt swapT nX qc;rw[xH,Hy,←Il];refine List.countP_congr fun n hn => ?_;have hE:=(cz _).1 (wB h n);have hk:=(jX.1 hn).2;simp only[Hw,CB,dA,qh,decide_eq_false_iff_not,qU,decide_eq_true_eq];constructor
 ·rintro⟨h1,h2⟩;exact⟨by omega,h1⟩
 ·rintro⟨h1,h2⟩;exact⟨h2,by omega⟩
theorem zI (l r:List Int) (i:Int):cnt (l++r) i=cnt l i+cnt r i:=by unfold cnt;rw[Ci]
theorem Ex {α:Type} (g:α→List Int) (i:Int):∀l:List α,cnt (l.flatMap g) i=(l.map fun s=>cnt (g s) i).sum
 | []=>rfl
 | a::l=>by rw[pO,zI,Ex g i l,bH,zg]
theorem JX (m:Ma) (i:Int):cnt (rM m) i=tO m i+bN m 1 i:=by
 unfold rM;rw[zI,Ex];congr 1
 ·unfold cnt tO;rw[xH];rfl
 unfold bN;congr 1;exact yY fun s _=>Tz s.tb i
theorem FC (hp:Pt m) (i:Int):cnt (oV m) i=bN m 2 i:=by
 unfold oV bN;rw[Ex];congr 1;exact yY fun s hs=>Rk (hp.tb s hs) i
theorem Eh (hp:Pt m):countB m=true↔(∀i:Nat,i<m.m.fs.length→(aD m i).r=tO m i+bN m 1 i)∧(∀i:Nat,i<m.m.fs.length→0≤(aD m i).f→∃c∈m.ca,c.k=i)∧∀s:Nat,s<m.sl.length→iI m s=bN m 2 s:=by
 unfold countB;rw[dA,dh,decide_eq_true_eq];constructor
 ·rintro⟨h1,h2⟩;have h1:∀i:Nat,i<m.m.fs.length→_:=fun i hi=>h1 i (bX.2 hi);simp only[dA,decide_eq_true_eq,qY,jU,JX,vW] at h1;refine⟨fun i hi=>by rw[(h1 i hi).1];omega,fun i hi h0 => ?_,fun s hs => ?_⟩
  ·rcases (h1 i hi).2 with h|⟨c,hc,hk⟩
   ·have h:(aD m i).f<0:=of_decide_eq_true h;omega
   ·exact⟨c,hc,hk⟩
  have:iI m s=(kD m.sl.length (oV m)).getD s 0:=by rw[←h2];rfl
  rw[this];unfold kD;rw[bJ,jd,wX hs];show ((cnt (oV m) s:Nat):Int)=_;rw[FC hp]
 rintro⟨h1,h2,h3⟩;refine⟨fun i hi => ?_,?_⟩
 ·have hi:=bX.1 hi;simp only[dA,decide_eq_true_eq,qY,jU,JX,vW];refine⟨by rw[h1 i hi];omega,?_⟩
  by_cases h0:0≤(aD m i).f
  ·obtain⟨c,hc,hk⟩:=h2 i hi h0;exact .inr ⟨c,hc,hk⟩
  ·exact .inl (decide_eq_true (show (aD m i).f<0 by omega))
 apply rA
 ·unfold kD;simp
 intro s k1 k2;have:=h3 s k1;have e2:(kD m.sl.length (oV m))[s]'k2=((cnt (oV m) (s:Int):Nat):Int):=by simp[kD]
 rw[e2,FC hp,←this];unfold iI;rw[bJ,aN k1];rfl
theorem Aa :jl m=0↔Rt m:=by
 unfold jl;rw[mr,mr,mr,wm,zt];constructor
 ·rintro⟨⟨hp,ht,hl⟩,hc,he,hb⟩;have hb:countB m=true:=by
   cases h:countB m with
   | true=>rfl
   | false=>rw[h] at hb;exact absurd hb (by decide)
  obtain⟨b1,b2,b3⟩:=(Eh hp).1 hb;refine⟨hp,FW.1 ht,fun p a => ?_,hc,(zk hp).1 he,b1,b2,b3⟩;rcases fM p m.sp.length with h|h
  ·exact hl _ (zA h) a
  rw[qo h];refine⟨rfl,fun n => ?_⟩;unfold aF;rw[qo h];have:dB zSp.tb n=zEn:=qm n;rw[this];rfl
 intro h;refine⟨⟨h.pt,FW.2 h.trim,fun s hs b => ?_⟩,h.ca,(zk h.pt).2 h.en,?_⟩
 ·obtain⟨p,hp,rfl⟩:=NR hs;exact h.live p b
 ·rw[if_pos ((Eh h.pt).2 ⟨h.cf,h.fc,h.cs⟩)]
def aO (m:Ma) (p:Nat) (n:Int) (x:En):Ma:=setTb m p (setT (bE m p).tb n x)
theorem wT {i:Int} {e:En} (h:e.k=0) (hk:kd≠0):sU (qM kd i e)=0:=by
 unfold sU qM;rw[if_neg];simp only[dA,decide_eq_true_eq];intro h'; omega
theorem nY {i:Int} {e:En}:sU (qM kd i e)=if e.k=kd∧e.n=i then 1 else 0:=by
 unfold sU qM
 by_cases h:e.k=kd∧e.n=i
 ·rw[if_pos h,if_pos (by simp[h.1,h.2])]
 rw[if_neg h,if_neg];simp only[dA,decide_eq_true_eq];exact h
theorem Cn (h:Rt m) {j:Int} (hk:(aF m q j).k=1) (he:(aF m q j).n.toNat=f):0<bN m 1 f∧f<m.m.fs.length:=by
 have h3:=kE (m:=m) (p:=q) (n:=j) (by rw[hk];decide);have h5:=(cz _).1 (jL h.pt q j);have h4:=(ji (m:=m) (kd:=1) (i:=f) (by decide)).2 ⟨q,j,h3.1,h3.2,hk,by omega⟩;obtain⟨g,_,hg⟩:=h.en q j (by rw[hk];decide);have:=hg.lt hk;exact⟨h4,by omega⟩
theorem yC (h:Rt m) (hc:Co m) {X:Fr} {x:En} (hp:p<m.sp.length) (hn:0≤n∧n<64) (h0:(aF m p n).k=0) (hf:f<m.m.fs.length)
 (hxk:x.k=1) (hxn:x.n=f) (hX:bU X=0) (hr:X.r=(aD m f).r+1)
 (hold:(aD m f).r≠0→X.f=(aD m f).f∧X.i=(aD m f).i∧X.p=(aD m f).p∧X.d=(aD m f).d)
 (hnew:(aD m f).r=0→X.f<0∧X.d=false)
 (hw:X.f<0→∀q j,(aF m q j).k=1→(aF m q j).n.toNat=f→(aF m q j).w=false)
 (hg:dQ m p n=some g) (hfit:MC X g x.w):Rt (aO (setFr m f X) p n x)∧Co (aO (setFr m f X) p n x):=by
 have hm:Pt (setFr m f X):=h.pt.setFr hX;have hu:gV x=0:=(cz x).2 (.inr (.inl ⟨hxk,by have:=((dN _).1 h.pt.fr).1;omega⟩));obtain⟨hl,_,hx⟩:=fO (k:=⟨setFr m f X,0⟩) (p:=p) (n:=n) (x:=x) hm hn hu;have ht:p<(setFr m f X).sp.length:=hp;have z:∀q j,aF (aO (setFr m f X) p n x) q j=if q=p∧j=n then x else aF m q j:=fun q j=>jS ht hl q j;have l:∀y,aD (aO (setFr m f X) p n x) y=if y=f then X else aD m y:=fun y=>fK hf y;have b:(aO (setFr m f X) p n x).m.fs.length=m.m.fs.length:=dw;have ha:∀kd i,kd≠0→bN (aO (setFr m f X) p n x) kd i=bN m kd i+sU (qM kd i x):=fun kd i hk=>by have h1:=pF ht hl kd i;have h2:sU (qM kd i (aF (setFr m f X) p n))=0:=wT (e:=aF (setFr m f X) p n) h0 hk;have h3:bN (setFr m f X) kd i=bN m kd i:=rfl;unfold aO;omega
 have hj:fE m (setFr m f X):=fE.of rfl;have hb:fE m (aO (setFr m f X) p n x):=hj.trans (fE.setTb (m:=setFr m f X) (p:=p) (t:=setT (bE (setFr m f X) p).tb n x));have hA:uu (aO (setFr m f X) p n x):=by
  refine⟨h.ca.file,fun c a => ?_,fun c a => ?_,h.ca.srt⟩
  ·rw[b];exact h.ca.lt c a
  have h1:=h.ca.fr c a;rw[l]
  by_cases e:c.k.toNat=f
  ·rw[if_pos e];rw[e] at h1;obtain⟨k1,k2,_⟩:=hold (by omega);exact⟨by omega,by omega,by omega⟩
  ·rw[if_neg e];exact h1
 refine⟨⟨hx,h.trim,fun q hq => ?_,hA,fun q j hk => ?_,fun i hi => ?_,fun i hi v => ?_,fun s hs => ?_⟩,⟨fun c a => ?_,fun c a hd => ?_,fun i hi hd => ?_⟩⟩
 ·rw[hb.lv] at hq;obtain⟨a1,a2⟩:=h.live q hq;refine⟨by rw[hb.ar];exact a1,fun j => ?_⟩;rw[z,if_neg]
  ·exact a2 j
  rintro⟨rfl,rfl⟩;have:dQ m q j=onA (bE m q).ar j:=rfl;rw[this,a1] at hg;cases hg
 ·have hz:dQ (aO (setFr m f X) p n x) q j=dQ m q j:=by unfold dQ;rw[hb.ar]
  rw[hz];rw[z] at hk ⊢
  by_cases e:q=p∧j=n
  ·rw[if_pos e] at hk ⊢;rw[e.1,e.2];refine⟨g,hg,fun hB=>by omega,fun _=>by rw[b];omega,fun _ => ?_⟩;rw[l,if_pos (by omega)];exact hfit
  rw[if_neg e] at hk ⊢;obtain⟨y,hy,o⟩:=h.en q j hk;refine⟨y,hy,o.sw,by rw[b];exact o.lt,fun u => ?_⟩;rw[l]
  by_cases e2:(aF m q j).n.toNat=f
  ·rw[if_pos e2];have h1:=o.fr u;rw[e2] at h1;have h2:=Cn h u e2;have h3:=h.cf f hf;obtain⟨k1,k2,_,_⟩:=hold (by omega);obtain⟨f1,f2,f3,f4,f5⟩:=h1;refine⟨by rw[k1,k2];exact f1,by rw[k1];exact f2,f3,by rw[k1];exact f4,fun hh hv => ?_⟩;rw[hw hv q j u e2] at hh;cases hh
  ·rw[if_neg e2];exact o.fr u
 ·have a1:tO (aO (setFr m f X) p n x) i=tO m i:=rfl;rw[l,a1,ha 1 i (by decide),nY];have h3:=h.cf i (by rw[←b];exact hi)
  by_cases e:i=f
  ·subst e;rw[if_pos rfl,if_pos ⟨hxk,hxn⟩,hr];omega
  ·rw[if_neg e,if_neg (fun h'=>e (by omega))];omega
 ·rw[l] at v
  by_cases e:i=f
  ·subst e;rw[if_pos rfl] at v
   by_cases hr0:(aD m i).r=0
   ·have:=(hnew hr0).1;omega
   obtain⟨k1,_⟩:=hold hr0;exact h.fc i hf (by omega)
  rw[if_neg e] at v;exact h.fc i (by rw[←b];exact hi) v
 ·rw[ha 2 s (by decide),nY,if_neg (fun h'=>by omega)];exact h.cs s hs
 ·have h1:=h.ca.fr c a;rw[l]
  by_cases e:c.k.toNat=f
  ·rw[if_pos e];rw[e] at h1;obtain⟨_,_,k3,_⟩:=hold (by omega);rw[k3,←e];exact hc.tail c a
  ·rw[if_neg e];exact hc.tail c a
 ·have h1:=h.ca.fr c a;rw[l] at hd ⊢
  by_cases e:c.k.toNat=f
  ·rw[if_pos e] at hd ⊢;rw[e] at h1;obtain⟨_,_,k3,k4⟩:=hold (by omega);rw[k3,←e];exact hc.clean c a (by rw[e,←k4];exact hd)
  ·rw[if_neg e] at hd ⊢; exact hc.clean c a hd
 rw[l] at hd ⊢
 by_cases e:i=f
 ·subst e;rw[if_pos rfl] at hd ⊢
  by_cases hr0:(aD m i).r=0
  ·rw[(hnew hr0).2] at hd;cases hd
  obtain⟨k1,_,_,k4⟩:=hold hr0;rw[k1];exact hc.anon i hf (by rw[←k4];exact hd)
 ·rw[if_neg e] at hd ⊢; exact hc.anon i (by rw[←b];exact hi) hd
theorem PQ (h:Rt m) (hc:Co m) {s:Nat} {x:En} (hp:p<m.sp.length) (hn:0≤n∧n<64) (h0:(aF m p n).k=0) (hs:s<m.sl.length)
 (hxk:x.k=2) (hxn:x.n=s) (hxw:x.w=false) (h1k:iI m s+1≤1000) (hd:cK d=0) (hdl:d.blocks.length=m.sw.blocks.length) (hg:dQ m p n=some g) (hsh:g.sh=false) :
  Rt (aO { setSl m s (iI m s+1) with sw:=d } p n x)∧Co (aO { setSl m s (iI m s+1) with sw:=d } p n x):=by
 have hb:=h.pt.slB s;have ha:Pt (setSl m s (iI m s+1)):=h.pt.setSl (by omega) h1k;have hz:Pt { setSl m s (iI m s+1) with sw:=d }:={ ha with sw:=hd,swl:=by show d.blocks.length=_;rw[hdl];exact ha.swl };have hE:gV x=0:=(cz x).2 (.inr (.inr ⟨hxk,by have:=kM h.pt.sl;omega,by have:=kM h.pt.sl;omega,hxw⟩));obtain⟨hx,_,hG⟩:=fO (k:=⟨{ setSl m s (iI m s+1) with sw:=d },0⟩) (p:=p) (n:=n) (x:=x) hz hn hE;have hA:p<({ setSl m s (iI m s+1) with sw:=d }:Ma).sp.length:=hp;generalize hm1:({ setSl m s (iI m s+1) with sw:=d }:Ma)=m1 at *
 have hr:m1.sp=m.sp:=by rw[←hm1];rfl
 have hm:m1.m=m.m:=by rw[←hm1];rfl
 have hD:m1.ca=m.ca:=by rw[←hm1];rfl
 have hw:m1.st=m.st:=by rw[←hm1];rfl
 have hC:m1.dk=m.dk:=by rw[←hm1];rfl
 have u:m1.sl=m.sl.set s (iI m s+1):=by rw[←hm1];rfl
 have v:∀q j,aF m1 q j=aF m q j:=fun q j=>by unfold aF bE;rw[hr]
 have hf:∀q j,aF (aO m1 p n x) q j=if q=p∧j=n then x else aF m q j:=fun q j=>by rw[←v];exact jS hA hx q j
 have o:∀y,aD (aO m1 p n x) y=aD m y:=fun y=>by unfold aD aO setTb;simp only;rw[hm]
 have l:(aO m1 p n x).m.fs.length=m.m.fs.length:=by unfold aO setTb;simp only;rw[hm]
 have hj:∀kd i,kd≠0→bN (aO m1 p n x) kd i=bN m kd i+sU (qM kd i x):=fun kd i hk=>by
  have h1:=pF hA hx kd i;have h2:sU (qM kd i (aF m1 p n))=0:=wT (by rw[v];exact h0) hk;have h3:bN m1 kd i=bN m kd i:=by unfold bN;rw[hr]
  unfold aO;omega
 have ht:fE m (aO m1 p n x):=(fE.of hr).trans fE.setTb;have f:(aO m1 p n x).ca=m.ca:=hD;have t:(aO m1 p n x).st=m.st:=hw;have hh:(aO m1 p n x).dk=m.dk:=hC;have hv:∀a b,dF (aO m1 p n x) a b=dF m a b:=fun a b=>by unfold dF;rw[t,hh]
 refine⟨⟨hG,by rw[hh,t];exact h.trim,fun q hq => ?_,⟨by rw[f,t];exact h.ca.file,by rw[f,l];exact h.ca.lt,fun c r=>by rw[o];exact h.ca.fr c (by rw[←f];exact r),by rw[f];exact h.ca.srt⟩,fun q j hk => ?_,fun i hi => ?_,fun i hi hB => ?_,fun i hi => ?_⟩,⟨fun c r => ?_,fun c r hd => ?_,fun i hi hd => ?_⟩⟩
 ·rw[ht.lv] at hq;obtain⟨a1,a2⟩:=h.live q hq;refine⟨by rw[ht.ar];exact a1,fun j => ?_⟩;rw[hf,if_neg]
  ·exact a2 j
  rintro⟨rfl,rfl⟩;have:dQ m q j=onA (bE m q).ar j:=rfl;rw[this,a1] at hg;cases hg
 ·have hH:dQ (aO m1 p n x) q j=dQ m q j:=by unfold dQ;rw[ht.ar]
  have z:(aO m1 p n x).sl.length=m.sl.length:=by show m1.sl.length=_;rw[u,cO]
  rw[hH];rw[hf] at hk ⊢
  by_cases e:q=p∧j=n
  ·rw[if_pos e] at hk ⊢;rw[e.1,e.2];exact⟨g,hg,fun _=>⟨by rw[z];omega,hsh⟩,fun hu=>by omega,fun hu=>by omega⟩
  rw[if_neg e] at hk ⊢;obtain⟨y,hy,hl⟩:=h.en q j hk;exact⟨y,hy,by rw[z];exact hl.sw,by rw[l];exact hl.lt,fun hu=>by rw[o];exact hl.fr hu⟩
 ·have a1:tO (aO m1 p n x) i=tO m i:=by unfold tO;rw[f]
  rw[o,a1,hj 1 i (by decide),nY,if_neg (fun h'=>by omega)];exact h.cf i (by rw[←l];exact hi)
 ·rw[f];rw[o] at hB;exact h.fc i (by rw[←l];exact hi) hB
 ·have hI : i<m.sl.length:=by have:(aO m1 p n x).sl=m1.sl:=rfl;rw[this,u,cO] at hi;exact hi
  have hF:iI (aO m1 p n x) i=if i=s then iI m s+1 else iI m i:=by
   have h1:=Cy (x:=iI m s+1) hs i;have h2:iI (aO m1 p n x) i=iI (setSl m s (iI m s+1)) i:=by unfold iI;show m1.sl.getD i 0=_;rw[u];rfl
   rw[h2,h1]
  rw[hF,hj 2 i (by decide),nY];have h3:=h.cs i hI
  by_cases e:i=s
  ·subst e;rw[if_pos rfl,if_pos ⟨hxk,hxn⟩];omega
  ·rw[if_neg e,if_neg (fun h'=>e (by omega))];omega
 ·rw[o,t];rw[f] at r;exact hc.tail c r
 ·rw[f] at r;rw[o] at hd ⊢; rw[hv];exact hc.clean c r hd
 ·rw[o] at hd ⊢; exact hc.anon i (by rw[←l];exact hi) hd
theorem Mr (h:Rt m) (hc:Co m) (hk:(aF m p n).k=1):Rt (aO m p n ⟨1,(aF m p n).n,false⟩)∧Co (aO m p n ⟨1,(aF m p n).n,false⟩):=by
 have l:=kE (m:=m) (p:=p) (n:=n) (by rw[hk];decide);have hE:=(cz _).1 (jL h.pt p n);have u:gV ⟨1,(aF m p n).n,false⟩=0:=(cz _).2 (.inr (.inl ⟨rfl,by show 0≤(aF m p n).n;omega,by show (aF m p n).n<40;omega⟩));generalize hx:(⟨1,(aF m p n).n,false⟩:En)=x at *
 have t:x.k=1:=by rw[←hx]
 have f:x.n=(aF m p n).n:=by rw[←hx]
 have r:x.w=false:=by rw[←hx]
 obtain⟨o,_,v⟩:=fO (k:=⟨m,0⟩) (p:=p) (n:=n) (x:=x) h.pt l.2 u;have c:∀q j,aF (aO m p n x) q j=if q=p∧j=n then x else aF m q j:=fun q j=>jS l.1 o q j;have d:∀kd i,bN (aO m p n x) kd i=bN m kd i:=fun kd i=>by
  have h1:=pF l.1 o kd i;have h2:sU (qM kd i (aF m p n))=sU (qM kd i x):=by rw[nY,nY,t,f,hk]
  unfold aO;omega
 have g:fE m (aO m p n x):=fE.setTb;refine⟨⟨v,h.trim,fun q hq => ?_,⟨h.ca.file,h.ca.lt,h.ca.fr,h.ca.srt⟩,fun q j b => ?_,fun i hi=>by rw[d];exact h.cf i hi,h.fc,fun s hs=>by rw[d];exact h.cs s hs⟩,⟨hc.tail,hc.clean,hc.anon⟩⟩
 ·rw[g.lv] at hq;obtain⟨a1,a2⟩:=h.live q hq;refine⟨by rw[g.ar];exact a1,fun j => ?_⟩;rw[c,if_neg]
  ·exact a2 j
  rintro⟨rfl,rfl⟩;have:=a2 j;omega
 have z:dQ (aO m p n x) q j=dQ m q j:=by unfold dQ;rw[g.ar]
 rw[z];rw[c] at b ⊢
 by_cases e:q=p∧j=n
 ·rw[if_pos e] at b ⊢;rw[e.1,e.2];obtain⟨y,hy,a⟩:=h.en p n (by rw[hk];decide);have h1:=a.lt hk;obtain⟨f1,f2,f3,f4,f5⟩:=a.fr hk;refine⟨y,hy,fun ha=>by omega,fun _=>by rw[f];exact h1,fun _ => ?_⟩;rw[f,r];exact⟨f1,f2,fun h=>(by cases h),fun h=>(by cases h),fun h=>(by cases h)⟩
 rw[if_neg e] at b ⊢;obtain⟨y,hy,a⟩:=h.en q j b;exact⟨y,hy,a.sw,a.lt,a.fr⟩
theorem CU (h:Rt m) (hc:Co m) {s:Sp} (hl:m.sp.length<4) (hv:s.lv=true) (ha:(dI s.ar).1=0) (ht:s.tb=zTb):Rt { m with sp:=m.sp++[s] }∧Co { m with sp:=m.sp++[s] }:=by
 have a:∀q,bE { m with sp:=m.sp++[s] } q=if q=m.sp.length then s else bE m q:=fun q=>by
  unfold bE;show (m.sp++[s]).getD q zSp=_;rw[bJ,List.getElem?_append]
  by_cases e:q<m.sp.length
  ·rw[if_pos e,if_neg (by omega),bJ]
  rw[if_neg e]
  by_cases e2:q=m.sp.length
  ·rw[if_pos e2,e2,BO];rfl
  ·rw[if_neg e2,bJ,eU (by simp;omega),eU (by omega)]
 have b:∀q j,aF { m with sp:=m.sp++[s] } q j=aF m q j:=fun q j=>by
  unfold aF;rw[a]
  by_cases e:q=m.sp.length
  ·rw[if_pos e,qo (by omega),ht];rfl
  ·rw[if_neg e]
 have c:∀kd i,kd≠0→bN { m with sp:=m.sp++[s] } kd i=bN m kd i:=fun kd i hk=>by
  unfold bN;show ((m.sp++[s]).map _).sum=_;rw[jJ,List.sum_append];have:([s].map fun s=>(fC s.tb).countP (qM kd i)).sum=0:=by rw[List.map_singleton,List.sum_singleton,ht,rY];intro e he;unfold fC at he;obtain⟨j,_,rfl⟩:=fF.1 he;rw[qm];unfold qM;simp only[dA,decide_eq_true_eq];rintro⟨h1,_⟩;exact hk h1.symm
  omega
 refine⟨⟨{ h.pt with spl:=by simp;omega,ar:=fun y hy => ?_,tb:=fun y hy => ?_ },h.trim,fun q hq => ?_,⟨h.ca.file,h.ca.lt,h.ca.fr,h.ca.srt⟩,fun q j hk => ?_,fun i hi=>by rw[c 1 i (by decide)];exact h.cf i hi,h.fc,fun i hi=>by rw[c 2 i (by decide)];exact h.cs i hi⟩,⟨hc.tail,hc.clean,hc.anon⟩⟩
 ·rcases iN.1 hy with hy|hy
  ·exact h.pt.ar y hy
  ·rw[bF.1 hy];exact ha
 ·rcases iN.1 hy with hy|hy
  ·exact h.pt.tb y hy
  ·rw[bF.1 hy,ht];decide
 ·rw[a] at hq ⊢
  by_cases e:q=m.sp.length
  ·rw[if_pos e,hv] at hq;cases hq
  rw[if_neg e] at hq ⊢;refine⟨(h.live q hq).1,fun j=>by rw[b];exact (h.live q hq).2 j⟩
 rw[b] at hk ⊢;obtain⟨y,hy,d⟩:=h.en q j hk;have hq:=kE hk;refine⟨y,?_,d.sw,d.lt,d.fr⟩;unfold dQ at hy ⊢;rw[a,if_neg (by omega)];exact hy
def Ps (T:List (List En)) (p:Nat):List En:=T.getD p []
def ut (m:Ma) (T:List (List En)):Ma:={ m with sp:=(List.range m.sp.length).map fun p => { bE m p with tb:=rJ (Ps T p) } }
structure WL (m:Ma) (T:List (List En)):Prop where
 len:T.length=m.sp.length
 ln:∀t∈T,t.length=64
 en:∀t∈T,∀x∈t,gV x=0
theorem Og {T:List (List En)}:(ut m T).sp.length=m.sp.length:=by unfold ut;simp
def setL (T:List (List En)) (p n:Nat) (x:En):List (List En):=T.set p ((Ps T p).set n x)
theorem LG {T:List (List En)} (h:WL m T) (s:Sp):ut { m with sp:=m.sp++[s] } (T++[List.replicate 64 zEn]) = { ut m T with sp:=(ut m T).sp++[{ s with tb:=zTb }] }:=by
 have hz:rJ (List.replicate 64 zEn)=zTb:=by decide +kernel
 unfold ut;simp only[Ma.mk.injEq,true_and,jb,List.length_singleton];rw[yO,jJ];congr 1
 ·apply yY;intro p hp;have a:=bX.1 hp;unfold bE Ps;simp only[bJ];rw[iD a,iD (by rw[h.len];exact a)]
 unfold bE Ps;simp only[bH,bL,bJ];rw[jg (az _),BO,←h.len,jg (az _),BO];simp only[qG,rZ];rw[hz]
theorem WL.more {T:List (List En)} (h:WL m T) (s:Sp):WL { m with sp:=m.sp++[s] } (T++[List.replicate 64 zEn]):=by
 refine⟨by simp[h.len],fun t ht => ?_,fun t ht x hx => ?_⟩
 ·rcases iN.1 ht with ht|ht
  ·exact h.ln t ht
  ·rw[bF.1 ht,lX]
 rcases iN.1 ht with ht|ht
 ·exact h.en t ht x hx
 rw[bF.1 ht] at hx;rw[(BQ.1 hx).2];decide
theorem RL {α:Type} (g:α→Nat) (c:Nat) (h:∀x,g x≤c):∀l:List α,(l.map g).sum≤c*l.length
 | []=>by simp
 | x::l=>by have h1:=RL g c h l;have h2:=h x;rw[bH,zg,mR,Nat.mul_succ];omega
theorem OY (t:Tb):(fC t).length=64:=by unfold fC;simp
theorem JM (m:Ma) (kd i:Int):bN m kd i≤64*m.sp.length:=RL _ 64 (fun s=>by rw[←OY s.tb];exact xA) _
theorem QV (h:uu m) (i:Int):tO m i≤1:=Aj h.srt fun a ha b hb e=>h.uniq ha hb e
theorem Rt.fewR (h:Rt m) (hf:f<m.m.fs.length):0≤(aD m f).r∧(aD m f).r≤257:=by
 have h1:=h.cf f hf;have h2:=JM m 1 f;have h3:=QV h.ca f;have h4:=h.pt.spl;omega
theorem Rt.fewS (h:Rt m) {s:Nat} (hs:s<m.sl.length):0≤iI m s∧iI m s≤256:=by
 have h1:=h.cs s hs;have h2:=JM m 2 s;have h4:=h.pt.spl;omega
theorem Ec (h:Pt m) {i:Int} (hk:kd≠0) {j:Int} (h1:(aF m p n).k=kd∧(aF m p n).n=i) (h2:(aF m q j).k=kd∧(aF m q j).n=i) (hne:¬(q=p∧j=n)):2≤bN m kd i:=by
 have e1:=kE (m:=m) (p:=p) (n:=n) (by omega);have e2:=kE (m:=m) (p:=q) (n:=j) (by omega);obtain⟨a,_,_⟩:=fO (k:=⟨m,0⟩) (p:=p) (n:=n) (x:=zEn) h e1.2 (by decide);have a1:=pF e1.1 a kd i;have a2:sU (qM kd i (aF m p n))=1:=by rw[nY,if_pos h1]
 have a3:sU (qM kd i zEn)=0:=wT rfl hk;have a4:0<bN (setTb m p (setT (bE m p).tb n zEn)) kd i:=by refine (ji hk).2 ⟨q,j,by rw[qQ];exact e2.1,e2.2,?_⟩;rw[jS e1.1 a,if_neg hne];exact h2
 have a5:bN ({ m:=m,e:=0 }:Kp).m kd i=bN m kd i:=rfl;omega
def iY (x:Fr):Fr:={ x with r:=x.r+1 }
theorem NM {x:Fr} (h:bU x=0) (hr:x.r≠0) (h1:x.r<1000):bU (iY x)=0:=by
 rw[dJ] at h ⊢;obtain⟨⟨a,b,c⟩,d,e⟩:=h;refine⟨⟨?_,?_,c⟩,fun h0 => ?_,e⟩
 ·show 0≤x.r+1;omega
 ·show x.r+1≤1000;omega
 have:x.r+1=0:=h0;omega
theorem gy (h:Rt m) (hk:(aF m p n).k=1):∃f:Nat,(aF m p n).n=f∧f<m.m.fs.length∧(aD m f).r≠0∧p<m.sp.length∧(0≤n∧n<64)∧∃g,dQ m p n=some g∧MC (aD m f) g (aF m p n).w:=by
 have h1:=kE (m:=m) (p:=p) (n:=n) (by rw[hk];decide);have h2:=(cz _).1 (jL h.pt p n);obtain⟨g,hg,hf⟩:=h.en p n (by rw[hk];decide);have h3:=hf.lt hk;have h4:=Cn h hk rfl;refine⟨(aF m p n).n.toNat,by omega,h4.2,?_,h1.1,h1.2,g,hg,hf.fr hk⟩;have:=h.cf _ h4.2;omega
theorem Et (h:Rt m) (hc:Co m) (hk:(aF m p n).k=1) (hn:(aF m p n).n=f) (hq:q<m.sp.length) (h0:(aF m q n).k=0) (hg:dQ m p n=some g) (hgq:dQ m q n=some g) (hw:(aF m p n).w=true→g.sh=true)
 (hany:(aD m f).f<0→∀a j,(aF m a j).k=1→(aF m a j).n.toNat=f→(aF m a j).w=false) :
  Rt (aO (setFr m f (iY (aD m f))) q n (aF m p n))∧Co (aO (setFr m f (iY (aD m f))) q n (aF m p n)):=by
 obtain⟨f',e1,e2,e3,e4,e5,g',e6,e7⟩:=gy h hk;have:f' = f:=by omega
 subst this;rw[hg] at e6;cases e6;have hr:=h.fewR e2;refine yC (g:=g) h hc hq e5 h0 e2 hk hn (NM (h.pt.frE e2) e3 (by omega)) rfl (fun _=>⟨rfl,rfl,rfl,rfl⟩) (fun h=>absurd h e3) hany hgq ?_;obtain⟨f1,f2,f3,f4,f5⟩:=e7;refine⟨f1,f2,f3,f4,fun b hx => ?_⟩;have:=f2 (hw b);have c : (aD m f').f<0:=hx;omega
theorem KO (h:Rt m) (hc:Co m) (hpq:p≠q) (hk:(aF m p n).k=1) (hn:(aF m p n).n=f) (hq:q<m.sp.length) (h0:(aF m q n).k=0) (hg:dQ m p n=some g) (hgq:dQ m q n=some g) :
  Rt (aO (aO (setFr m f (iY (aD m f))) p n ⟨1,f,false⟩) q n ⟨1,f,false⟩)∧Co (aO (aO (setFr m f (iY (aD m f))) p n ⟨1,f,false⟩) q n ⟨1,f,false⟩):=by
 obtain⟨f',e1,e2,e3,e4,e5,g',e6,e7⟩:=gy h hk;have:f' = f:=by omega
 subst this;obtain⟨a1,a2⟩:=Mr h hc hk;rw[hn] at a1 a2;obtain⟨r,_,_⟩:=fO (k:=⟨m,0⟩) (p:=p) (n:=n) (x:=⟨1,f',false⟩) h.pt e5 ((cz _).2 (.inr (.inl ⟨rfl,by show (0:Int)≤f'; omega,by have:=((dN _).1 h.pt.fr).1;show (f' : Int)<40;omega⟩)));have b:∀a j,aF (aO m p n ⟨1,f',false⟩) a j=if a=p∧j=n then ⟨1,f',false⟩ else aF m a j:=fun a j=>jS e4 r a j;have hp:aF (aO m p n ⟨1,f',false⟩) p n=⟨1,f',false⟩:=by rw[b,if_pos ⟨rfl,rfl⟩]
 have d:fE m (aO m p n ⟨1,f',false⟩):=fE.setTb;have l:∀a,dQ (aO m p n ⟨1,f',false⟩) a n=dQ m a n:=fun a=>by unfold dQ;rw[d.ar]
 have:=Et (p:=p) (q:=q) (n:=n) (f:=f') (g:=g) a1 a2 (by rw[hp]) (by rw[hp]) (by rw[d.len];exact hq) (by rw[b,if_neg (fun h'=>hpq h'.1.symm)];exact h0) (by rw[l];exact hg) (by rw[l];exact hgq) (fun h'=>by rw[hp] at h'; cases h') (fun hx a j c o => ?_)
 ·rw[hp] at this;exact this
 rw[b] at c o ⊢
 by_cases e:a=p∧j=n
 ·rw[if_pos e]
 rw[if_neg e] at c o ⊢;obtain⟨f2,b1,b2,b3,b4,b5,g2,b6,b7⟩:=gy h c;have s:f2=f':=by omega
 subst s;have h2:=Ec h.pt (kd:=1) (i:=f2) (by decide) ⟨hk,hn⟩ ⟨c,b1⟩ e;have h3:=h.cf f2 e2;obtain⟨c1,c2,c3,c4,c5⟩:=b7;cases hw:(aF m a j).w with
 | false=>rfl
 | true=>
  have:=c5 hw hx;omega
theorem MJ (h:Rt m) (hc:Co m) {s:Nat} (hk:(aF m p n).k=2) (hn:(aF m p n).n=s) (hq:q<m.sp.length) (h0:(aF m q n).k=0) (hg:dQ m p n=some g) (hgq:dQ m q n=some g) :
  Rt (aO (setSl m s (iI m s+1)) q n (aF m p n))∧Co (aO (setSl m s (iI m s+1)) q n (aF m p n)):=by
 have h1:=kE (m:=m) (p:=p) (n:=n) (by rw[hk];decide);have h2:=(cz _).1 (jL h.pt p n);obtain⟨g',a,hf⟩:=h.en p n (by rw[hk];decide);rw[hg] at a;cases a;have h3:=hf.sw hk;have hs:s<m.sl.length:=by omega
 have h4:=h.fewS hs;exact PQ (d:=m.sw) (g:=g) h hc hq h1.2 h0 hs hk hn ((h2.resolve_left (fun h'=>by omega)).resolve_left (fun h'=>by omega)).2.2.2 (by omega) h.pt.sw rfl hgq h3.2
structure Bd (m:Ma) (T:List (List En)):Prop where
 ok:WL m T
 rt:Rt (ut m T)
 co:Co (ut m T)
theorem Bd.of {T:List (List En)} (ok:WL m T) (h:Rt (ut m T)∧Co (ut m T)):Bd m T:=⟨ok,h.1,h.2⟩
theorem Bd.more {T:List (List En)} (h:Bd m T) {s:Sp} (hl:m.sp.length<4) (hv:s.lv=true) (ha:(dI s.ar).1=0):Bd { m with sp:=m.sp++[s] } (T++[List.replicate 64 zEn]):=by
 refine .of (h.ok.more s) ?_;rw[LG h.ok];exact CU h.rt h.co (s:={ s with tb:=zTb }) (by rw[Og];exact hl) hv ha rfl
structure vP (X:Nat→Int→Prop) (m m' : Ma):Prop where
 sk:fE m m'
 files:m'.st.fs.length=m.st.fs.length
 size:∀f,(aI m'.st f).n=(aI m.st f).n
 lenb:∀f,(aI m'.st f).b.length=(aI m.st f).b.length
 see:∀p n,¬X p n→iO m' p n=iO m p n
 con:∀f i,ni m.st f i→aR m' f i=aR m f i
theorem vP.trans {X:Nat→Int→Prop} {a b c:Ma} (h:vP X a b) (k:vP X b c):vP X a c:=
 ⟨h.sk.trans k.sk,k.files.trans h.files,fun f=>(k.size f).trans (h.size f),fun f=>(k.lenb f).trans (h.lenb f),fun p n hx=>(k.see p n hx).trans (h.see p n hx),fun f i hi=>(k.con f i (hi.same h.files h.lenb)).trans (h.con f i hi)⟩
theorem vP.refl (X:Nat→Int→Prop) (m:Ma):vP X m m:=⟨.refl m,rfl,fun _=>rfl,fun _=>rfl,fun _ _ _=>rfl,fun _ _ _=>rfl⟩
theorem EG.x (h:EG m m') (X:Nat→Int→Prop):vP X m m':=⟨h.sk,h.files,h.size,h.lenb,fun p n _=>h.see p n,h.con⟩
theorem vP.mono {X Y:Nat→Int→Prop} (h:vP X m m') (hx:∀p n,X p n→Y p n):vP Y m m':=⟨h.sk,h.files,h.size,h.lenb,fun p n hn=>h.see p n fun h'=>hn (hx p n h'),h.con⟩
theorem Hu {X:Nat→Int→Prop} (sk:fE m m') (hf:lm m.st m'.st) (hc:∀f i,ni m.st f i→aR m' f i=aR m f i)
 (hs:∀p n g,¬X p n→dQ m p n=some g→uo m' g (aF m' p n)=uo m g (aF m p n)):vP X m m':=by
 refine⟨sk,hf.len,hf.size,hf.lenb,fun p n hx => ?_,hc⟩;have hp:dQ m' p n=dQ m p n:=by unfold dQ;rw[sk.ar]
 cases hg:dQ m p n with
 | none=>rw[oM hg,oM (hp.trans hg)]
 | some g=>rw[iL hg,iL (hp.trans hg)];exact hs p n g hx hg
def Xn (p:Nat) (n:Int) (q:Nat) (j:Int):Prop:=q=p∧j=n
structure Less (m m' : Ma) (p:Nat) (n:Int):Prop where
 rt:Rt m'
 co:Co m'
 vis:vP (Xn p n) m m'
 st:m'.st=m.st
 dk:m'.dk=m.dk
 sw:m'.sw=m.sw
 ca:m'.ca=m.ca
 len:m'.m.fs.length=m.m.fs.length
 sll:m'.sl.length=m.sl.length
 ents:∀q j,aF m' q j=if q=p∧j=n then zEn else aF m q j
 fr:∀g,(aD m' g).r≠0→(aD m' g).p=(aD m g).p∧(aD m' g).u=(aD m g).u∧(aD m' g).d=(aD m g).d∧(aD m' g).f=(aD m g).f∧(aD m' g).i=(aD m g).i
theorem Ul (x:Fr) (n:Int):(gF x n).r=x.r+n:=by
 unfold gF
 by_cases h:x.r+n=0
 ·rw[if_pos h,h];rfl
 ·rw[if_neg h]
theorem Mh {x:Fr} (h:x.r+n≠0):gF x n = { x with r:=x.r+n }:=by unfold gF;rw[if_neg h]
theorem Mj (h:Rt m) (hc:Co m) (hk:(aF m p n).k=1) (hn:(aF m p n).n=f):Less m (aO (setFr m f (gF (aD m f) (-1))) p n zEn) p n:=by
 obtain⟨f',e1,hf,hr,hp,hJ,g0,hR,hM⟩:=gy h hk;have:f' = f:=by omega
 subst this;have hP:=h.fewR hf;have hA:bU (gF (aD m f') (-1))=0:=IR (h.pt.frE hf) hr (by omega) (by omega);have hO:=Ul (aD m f') (-1);have l:(aD m f').r≠1→gF (aD m f') (-1) = { aD m f' with r:=(aD m f').r + -1 }:=fun h1=>Mh (by omega);generalize hX:gF (aD m f') (-1)=X at *
 have hD:Pt (setFr m f' X):=h.pt.setFr hA;obtain⟨hC,_,hH⟩:=fO (k:=⟨setFr m f' X,0⟩) (p:=p) (n:=n) (x:=zEn) hD hJ (by decide);have hE:p<(setFr m f' X).sp.length:=hp;have w:∀q j,aF (aO (setFr m f' X) p n zEn) q j=if q=p∧j=n then zEn else aF m q j:=fun q j=>jS hE hC q j;have v:∀y,aD (aO (setFr m f' X) p n zEn) y=if y=f' then X else aD m y:=fun y=>fK hf y;have o:(aO (setFr m f' X) p n zEn).m.fs.length=m.m.fs.length:=dw;have hz:∀kd i,kd≠0→bN (aO (setFr m f' X) p n zEn) kd i+sU (qM kd i (aF m p n))=bN m kd i:=fun kd i hL=>by have h1:=pF hE hC kd i;have h2:sU (qM kd i zEn)=0:=wT rfl hL;have h3:bN (setFr m f' X) kd i=bN m kd i:=rfl;have h4:aF (setFr m f' X) p n=aF m p n:=rfl;rw[h4] at h1;unfold aO;omega
 have hB:fE m (setFr m f' X):=fE.of rfl;have hu:fE m (aO (setFr m f' X) p n zEn):=hB.trans (fE.setTb (m:=setFr m f' X) (p:=p) (t:=setT (bE (setFr m f' X) p).tb n zEn));have hF:∀c∈m.ca,c.k.toNat=f'→(aD m f').r≠1:=fun c g e hg=>by
  have h1:=h.cf f' hf;have h2:=h.ca.one g;have h3:=h.ca.lt c g;have h4:=Cn (f:=f') h hk (by omega);have:c.k=(f' : Int):=by omega
  rw[this] at h2;omega
 have z:∀c∈m.ca,(aD (aO (setFr m f' X) p n zEn) c.k.toNat).p=(aD m c.k.toNat).p∧(aD (aO (setFr m f' X) p n zEn) c.k.toNat).d=(aD m c.k.toNat).d∧(aD (aO (setFr m f' X) p n zEn) c.k.toNat).f=(aD m c.k.toNat).f∧(aD (aO (setFr m f' X) p n zEn) c.k.toNat).i=(aD m c.k.toNat).i∧1≤(aD (aO (setFr m f' X) p n zEn) c.k.toNat).r:=fun c g=>by
  have h1:=h.ca.fr c g;rw[v]
  by_cases e:c.k.toNat=f'
  ·rw[if_pos e];have h2:=hF c g e;rw[e] at h1 ⊢;rw[l h2];exact⟨rfl,rfl,rfl,rfl,by show 1≤(aD m f').r + -1;omega⟩
  ·rw[if_neg e];exact⟨rfl,rfl,rfl,rfl,h1.1⟩
 have hv:∀q j,¬(q=p∧j=n)→(aF m q j).k=1→(aF m q j).n.toNat=f'→(aD m f').r≠1:=fun q j hK u hQ hg=>by
  obtain⟨f2,b1,b2,b3,b4,b5,g2,b6,b7⟩:=gy h u;have hN:f2=f':=by omega
  subst hN;have h2:=Ec h.pt (kd:=1) (i:=f2) (by decide) ⟨hk,hn⟩ ⟨u,b1⟩ hK;have h3:=h.cf f2 hf;omega
 have hm:uu (aO (setFr m f' X) p n zEn):=by
  refine⟨h.ca.file,fun c g => ?_,fun c g => ?_,h.ca.srt⟩
  ·rw[o];exact h.ca.lt c g
  have h1:=h.ca.fr c g;obtain⟨a1,a2,a3,a4,a5⟩:=z c g;exact⟨a5,a3.trans h1.2.1,a4.trans h1.2.2⟩
 have hj:∀a b,dF (aO (setFr m f' X) p n zEn) a b=dF m a b:=fun _ _=>rfl;have hw:∀a b,aR (aO (setFr m f' X) p n zEn) a b=aR m a b:=by
  intro a b;rcases kL m a b with ⟨c,hl,g,hcf,hci⟩|⟨hl,hno⟩
  ·subst hcf;subst hci;rw[eG h.ca g,eG (m:=aO (setFr m f' X) p n zEn) hm g,(z c g).1]
  ·rw[eu hno,eu (m:=aO (setFr m f' X) p n zEn) hno,hj]
 refine⟨⟨hH,h.trim,fun q hq => ?_,hm,fun q j hh => ?_,fun i hi => ?_,fun i hi ha => ?_,fun s hs => ?_⟩,⟨fun c g => ?_,fun c g hd => ?_,fun i hi hd => ?_⟩,?_,rfl,rfl,rfl,rfl,o,rfl,w,fun y hy => ?_⟩
 ·rw[hu.lv] at hq;obtain⟨a1,a2⟩:=h.live q hq;refine⟨by rw[hu.ar];exact a1,fun j => ?_⟩;rw[w];split
  ·rfl
  ·exact a2 j
 ·have hI:dQ (aO (setFr m f' X) p n zEn) q j=dQ m q j:=by unfold dQ;rw[hu.ar]
  rw[hI];rw[w] at hh ⊢
  by_cases e:q=p∧j=n
  ·rw[if_pos e] at hh; exact absurd rfl hh
  rw[if_neg e] at hh ⊢;obtain⟨y,hy,ht⟩:=h.en q j hh;refine⟨y,hy,ht.sw,by rw[o];exact ht.lt,fun u => ?_⟩;rw[v]
  by_cases e2:(aF m q j).n.toNat=f'
  ·rw[if_pos e2];have h1:=ht.fr u;rw[e2] at h1;rw[l (hv q j e u e2)];obtain⟨f1,f2,f3,f4,f5⟩:=h1;refine⟨f1,f2,f3,f4,fun hG hb => ?_⟩;have:=f5 hG hb;show (aD m f').r + -1≤1;omega
  ·rw[if_neg e2];exact ht.fr u
 ·have a1:tO (aO (setFr m f' X) p n zEn) i=tO m i:=rfl;have h1:=hz 1 i (by decide);rw[nY] at h1;rw[v,a1];have h3:=h.cf i (by rw[←o];exact hi)
  by_cases e:i=f'
  ·subst e;rw[if_pos ⟨hk,hn⟩] at h1;rw[if_pos rfl,hO];omega
  rw[if_neg (fun h'=>e (by omega))] at h1;rw[if_neg e];omega
 ·rw[v] at ha
  by_cases e:i=f'
  ·subst e;rw[if_pos rfl] at ha
   by_cases hg:(aD m i).r=1
   ·have hb:X.r=0:=by omega
    have:=((dJ _).1 hA).2.1 hb;omega
   rw[l hg] at ha;exact h.fc i hf ha
  rw[if_neg e] at ha;exact h.fc i (by rw[←o];exact hi) ha
 ·have h1:=hz 2 s (by decide);rw[nY,if_neg (fun h'=>by omega)] at h1;have:=h.cs s hs;show iI m s=_;omega
 ·obtain⟨a1,a2,a3,a4,a5⟩:=z c g;rw[a1];exact hc.tail c g
 ·obtain⟨a1,a2,a3,a4,a5⟩:=z c g;rw[a2] at hd;rw[a1,hj];exact hc.clean c g hd
 ·rw[v] at hd ⊢
  by_cases e:i=f'
  ·subst e;rw[if_pos rfl] at hd ⊢
   by_cases hg:(aD m i).r=1
   ·have hb:X.r=0:=by omega
    have:=(((dJ _).1 hA).2.1 hb).2.1;rw[this] at hd;cases hd
   rw[l hg] at hd ⊢;exact hc.anon i hf hd
  ·rw[if_neg e] at hd ⊢; exact hc.anon i (by rw[←o];exact hi) hd
 ·refine Hu hu (lm.refl _) (fun a b _=>hw a b) fun q j y hx hy => ?_;rw[w,if_neg (show ¬(q=p∧j=n) from hx)];refine oW h.pt.st (h.pt.pg hy).1 (lm.refl _) (fun a b _=>hw a b) (fun u => ?_) (fun _=>⟨rfl,rfl⟩);show (aD (aO (setFr m f' X) p n zEn) (aF m q j).n.toNat).p=(aD m (aF m q j).n.toNat).p∧(aD (aO (setFr m f' X) p n zEn) (aF m q j).n.toNat).f=(aD m (aF m q j).n.toNat).f;rw[v]
  by_cases e2:(aF m q j).n.toNat=f'
  ·rw[if_pos e2,e2,l (hv q j hx u e2)];exact⟨rfl,rfl⟩
  ·rw[if_neg e2];exact⟨rfl,rfl⟩
 rw[v] at hy ⊢
 by_cases e:y=f'
 ·rw[if_pos e] at hy ⊢;rw[e,l (by omega)];exact⟨rfl,rfl,rfl,rfl,rfl⟩
 ·rw[if_neg e];exact⟨rfl,rfl,rfl,rfl,rfl⟩
theorem FT (h:Rt m) (hc:Co m) {s:Nat} (hk:(aF m p n).k=2) (hn:(aF m p n).n=s):Less m (aO (setSl m s (iI m s + -1)) p n zEn) p n:=by
 have l:=kE (m:=m) (p:=p) (n:=n) (by rw[hk];decide);obtain⟨g0,hj,u⟩:=h.en p n (by rw[hk];decide);have hs:s<m.sl.length:=by have:=u.sw hk;omega
 have hh:=h.fewS hs;have hg:0<bN m 2 s:=(ji (by decide)).2 ⟨p,n,l.1,l.2,hk,hn⟩;have hl:=h.cs s hs;have z:Pt (setSl m s (iI m s + -1)):=h.pt.setSl (by omega) (by omega);obtain⟨w,_,hb⟩:=fO (k:=⟨setSl m s (iI m s + -1),0⟩) (p:=p) (n:=n) (x:=zEn) z l.2 (by decide);have ha:p<(setSl m s (iI m s + -1)).sp.length:=l.1;have c:∀q j,aF (aO (setSl m s (iI m s + -1)) p n zEn) q j=if q=p∧j=n then zEn else aF m q j:=fun q j=>jS ha w q j;have o:∀kd i,kd≠0→bN (aO (setSl m s (iI m s + -1)) p n zEn) kd i+sU (qM kd i (aF m p n))=bN m kd i:=fun kd i hf=>by have h1:=pF ha w kd i;have h2:sU (qM kd i zEn)=0:=wT rfl hf;have h3:bN (setSl m s (iI m s + -1)) kd i=bN m kd i:=rfl;have h4:aF (setSl m s (iI m s + -1)) p n=aF m p n:=rfl;rw[h4] at h1;unfold aO;omega
 have v:fE m (setSl m s (iI m s + -1)):=fE.of rfl;have g:fE m (aO (setSl m s (iI m s + -1)) p n zEn):=v.trans (fE.setTb (m:=setSl m s (iI m s + -1)) (p:=p) (t:=setT (bE (setSl m s (iI m s + -1)) p).tb n zEn));have d:(aO (setSl m s (iI m s + -1)) p n zEn).sl.length=m.sl.length:=cO;refine⟨⟨hb,h.trim,fun q hq => ?_,⟨h.ca.file,h.ca.lt,h.ca.fr,h.ca.srt⟩,fun q j f => ?_,fun i hi => ?_,h.fc,fun i hi => ?_⟩,⟨hc.tail,hc.clean,hc.anon⟩,?_,rfl,rfl,rfl,rfl,rfl,d,c,fun y hy=>⟨rfl,rfl,rfl,rfl,rfl⟩⟩
 ·rw[g.lv] at hq;obtain⟨a1,a2⟩:=h.live q hq;refine⟨by rw[g.ar];exact a1,fun j => ?_⟩;rw[c];split
  ·rfl
  ·exact a2 j
 ·have hd:dQ (aO (setSl m s (iI m s + -1)) p n zEn) q j=dQ m q j:=by unfold dQ;rw[g.ar]
  rw[hd];rw[c] at f ⊢
  by_cases e:q=p∧j=n
  ·rw[if_pos e] at f; exact absurd rfl f
  rw[if_neg e] at f ⊢;obtain⟨y,hy,r⟩:=h.en q j f;exact⟨y,hy,by rw[d];exact r.sw,r.lt,r.fr⟩
 ·have h1:=o 1 i (by decide);rw[nY,if_neg (fun h'=>by omega)] at h1;have h2:=h.cf i hi;have a1:tO (aO (setSl m s (iI m s + -1)) p n zEn) i=tO m i:=rfl;have a2:aD (aO (setSl m s (iI m s + -1)) p n zEn) i=aD m i:=rfl;rw[a1,a2];omega
 ·rw[d] at hi;have h1:=o 2 i (by decide);rw[nY] at h1;have h2:=h.cs i hi;have a2:iI (aO (setSl m s (iI m s + -1)) p n zEn) i=iI (setSl m s (iI m s + -1)) i:=rfl;rw[a2,Cy hs]
  by_cases e:i=s
  ·subst e;rw[if_pos ⟨hk,hn⟩] at h1;rw[if_pos rfl];omega
  rw[if_neg (fun h'=>e (by omega))] at h1;rw[if_neg e];omega
 refine Hu g (lm.refl _) (fun a b _=>rfl) fun q j y hx hy => ?_;rw[c,if_neg (show ¬(q=p∧j=n) from hx)];exact oW h.pt.st (h.pt.pg hy).1 (lm.refl _) (fun a b _=>rfl) (fun _=>⟨rfl,rfl⟩) (fun _=>⟨rfl,rfl⟩)
theorem Vj {k:Kp} (h:Rt k.m) (hc:Co k.m) (p:Nat) (n:Int):((aF k.m p n).k=0∧iG k p n=k)∨∃m',iG k p n=⟨m',k.e⟩∧Less k.m m' p n:=by
 have h2:=(cz _).1 (jL h.pt p n);have hg:dB (bE k.m p).tb n=aF k.m p n:=rfl;rcases h2 with h2|h2|h2
 ·refine .inl ⟨h2.1,?_⟩;unfold iG;rw[hg,if_neg (by omega),if_neg (by omega)]
 ·right
  obtain⟨f,e1,hf,hr,hp,d,g0,g,a⟩:=gy h h2.1;have c:=h.fewR hf;obtain⟨a1,a2⟩:=wu (k:=k) (f:=f) (n:=-1) h.pt hf hr (by omega) (by omega);obtain⟨s0,b1,b2⟩:=fO (k:=⟨setFr k.m f (gF (aD k.m f) (-1)),k.e⟩) (p:=p) (n:=n) (x:=zEn) a2 d (by decide);refine⟨_,?_,Mj h hc h2.1 e1⟩;unfold iG;simp only;rw[hg,if_pos h2.1,e1,a1,b1];rfl
 right
 have b:=kE (m:=k.m) (p:=p) (n:=n) (by omega);obtain⟨g0,g,a⟩:=h.en p n (by omega);have hs:(aF k.m p n).n.toNat<k.m.sl.length:=by have:=a.sw h2.1;omega
 have c:=h.fewS hs;have i:0<bN k.m 2 ((aF k.m p n).n.toNat:Nat):=(ji (by decide)).2 ⟨p,n,b.1,b.2,h2.1,by omega⟩;have j:=h.cs _ hs;obtain⟨a1,a2⟩:=PL (k:=k) (s:=(aF k.m p n).n.toNat) (n:=-1) h.pt hs (by omega) (by omega) (by omega);obtain⟨s0,b1,b2⟩:=fO (k:=⟨setSl k.m (aF k.m p n).n.toNat (iI k.m (aF k.m p n).n.toNat + -1),k.e⟩) (p:=p) (n:=n) (x:=zEn) a2 b.2 (by decide);refine⟨_,?_,FT h hc h2.1 (s:=(aF k.m p n).n.toNat) (by omega)⟩;unfold iG;simp only;rw[hg,if_neg (by omega),if_pos h2.1];rw[show (aF k.m p n).n=(((aF k.m p n).n.toNat:Nat):Int) by omega,a1,b1];rfl
theorem wO (h:Rt m) (hc:Co m) (h' : Rt m') (hc' : Co m') (st:m'.st=m.st) (dk:m'.dk=m.dk) (ca:m'.ca=m.ca) (hf:∀c∈m.ca,(aD m' c.k.toNat).d=(aD m c.k.toNat).d∧(aD m' c.k.toNat).p=(aD m c.k.toNat).p):Inv m m':=
 Rz.inv (.of st dk fun c hcm _=>⟨by rw[←ca];exact hcm,hf c (by rw[←ca];exact hcm)⟩) h hc h' hc'
theorem Less.inv (h:Rt m) (hc:Co m) (k:Less m m' p n):Inv m m':=
 wO h hc k.rt k.co k.st k.dk k.ca fun c hcm=>by have:=k.rt.ca.fr c (by rw[k.ca];exact hcm);have:=k.fr c.k.toNat (by omega);exact⟨this.2.2.1,this.1⟩
def lD (m:Ma) (q:Nat) (s:Sp):Ma:={ m with sp:=m.sp.set q s }
theorem mV {s:Sp} (hq:q<m.sp.length) (p:Nat):bE (lD m q s) p=if p=q then s else bE m p:=by
 unfold bE lD;simp only;rw[bJ,oh]
 by_cases e:p=q
 ·subst e;rw[if_pos rfl,if_pos hq,if_pos rfl];rfl
 ·rw[if_neg (fun h=>e h.symm),if_neg e,bJ]
theorem ET {t:Tb} {i:Int} (hk:kd≠0) (h:∀n,(dB t n).k=0):(fC t).countP (qM kd i)=0:=by
 rw[rY];intro e he;unfold fC at he;obtain⟨j,_,rfl⟩:=fF.1 he;unfold qM;simp only[dA,decide_eq_true_eq];rintro⟨h1,_⟩;have:=h j;omega
theorem Fz (h:Rt m) (hc:Co m) {s:Sp} (hq:q<m.sp.length) (h0:∀n,(aF m q n).k=0) (ha:(dI s.ar).1=0) (hv:s.lv=false→s.ar=[]) (ht:s.tb=zTb):Rt (lD m q s)∧Co (lD m q s):=by
 have d:∀p j,(aF (lD m q s) p j).k≠0→p≠q:=fun p j hk e=>by unfold aF at hk;rw[mV hq,if_pos e,ht,qm] at hk;exact hk rfl
 have a:∀p j,p≠q→aF (lD m q s) p j=aF m p j:=fun p j e=>by unfold aF;rw[mV hq,if_neg e]
 have b:∀kd i,kd≠0→bN (lD m q s) kd i=bN m kd i:=fun kd i hk=>by
  unfold bN lD;simp only;have e1:=sum_set (m.sp.map fun s=>(fC s.tb).countP (qM kd i)) q (by simpa using hq) ((fC s.tb).countP (qM kd i));have e2:(fC s.tb).countP (qM kd i)=0:=ET hk fun n=>by rw[ht,qm];rfl
  have e3:(fC (bE m q).tb).countP (qM kd i)=0:=ET hk fun n=>h0 n;rw[qi] at e1;have e4:m.sp[q]=bE m q:=by have:=uR hq;rw[aN hq] at this;exact aT this
  rw[e4,e3,e2] at e1;rw[xn,e2];omega
 refine⟨⟨{ h.pt with spl:=by show (m.sp.set q s).length≤4;rw[cO];exact h.pt.spl,ar:=fun y hy => ?_,tb:=fun y hy => ?_ },h.trim,fun p hp => ?_,⟨h.ca.file,h.ca.lt,h.ca.fr,h.ca.srt⟩,fun p j hk => ?_,fun i hi=>by rw[b 1 i (by decide)];exact h.cf i hi,h.fc,fun i hi=>by rw[b 2 i (by decide)];exact h.cs i hi⟩,⟨hc.tail,hc.clean,hc.anon⟩⟩
 ·rcases lF hy with hy|rfl
  ·exact h.pt.ar y hy
  ·exact ha
 ·rcases lF hy with hy|rfl
  ·exact h.pt.tb y hy
  ·rw[ht];decide
 ·by_cases e:p=q
  ·rw[mV hq,if_pos e] at hp ⊢;refine⟨hv hp,fun n => ?_⟩;unfold aF;rw[mV hq,if_pos e,ht,qm];rfl
  rw[mV hq,if_neg e] at hp ⊢;exact⟨(h.live p hp).1,fun n=>by rw[a p n e];exact (h.live p hp).2 n⟩
 have e:=d p j hk;rw[a p j e] at hk ⊢;obtain⟨y,hy,c⟩:=h.en p j hk;refine⟨y,?_,c.sw,c.lt,c.fr⟩;unfold dQ at hy ⊢;rw[mV hq,if_neg e];exact hy
def WS (l:List Ar) (n:Int):Bool:=(l.getD (eQ l n).toNat zAr).sh
def kI (k:Kp) (p q:Nat) (n:Int):Kp:=
 let e:=aF k.m p n
 if e.k=2 then
  if bA k.m.sl e.n 1≠0 then ⟨k.m,bA k.m.sl e.n 1⟩ else cZ ⟨{ k.m with sl:=aU k.m.sl e.n 1 },k.e⟩ q n e
 else
  let k1:=dK k e.n 1
  if WS (bE k.m p).ar n=true then cZ k1 q n e else cZ (cZ k1 p n ⟨e.k,e.n,false⟩) q n ⟨e.k,e.n,false⟩
def gP (m:Ma) (p q:Nat):Ma:=if q=m.sp.length then { m with sp:=m.sp++[⟨true,(bE m p).ar,zTb⟩] } else lD m q ⟨true,(bE m p).ar,zTb⟩
def mF (k:Kp) (p q:Nat) (l:List Int):Kp:=l.foldl (fun k n=>kI k p q n) k
def Dl (m:Ma) (p q:Nat):Kp:=mF ⟨gP m p q,0⟩ p q (aM (bE m p).tb)
def ww (m:Ma):Int:=idx (fun s:Sp => !s.lv) m.sp
def mD (m:Ma):Int:=if ww m<0 then m.sp.length else ww m
def TH (a n i:Int):Bool:=decide (a≤i)&&decide (i-a<n)
def jy (k:Kp) (p:Nat) (a n:Int) (l:List Int):Kp:=l.foldl (fun k i=>if TH a n i=true then iG k p i else k) k
def zZ (k:Kp) (p:Nat) (a n:Int):Kp:=jy k p a n (aM (bE k.m p).tb)
def vM (m:Ma) (p:Nat):Kp:=let k:=zZ ⟨m,0⟩ p 0 64;⟨lD k.m p zSp,k.e⟩
theorem RQ (hg:dQ m p n=some g):WS (bE m p).ar n=g.sh∧0≤eQ (bE m p).ar n:=by
 have h1:0≤eQ (bE m p).ar n:=(yQ _ _).2 (by unfold dQ at hg;rw[hg];simp);have h2:=(zQ h1).1;unfold dQ at hg;rw[hg] at h2;have h3:=aT h2;refine⟨?_,h1⟩;unfold WS;rw[h3];rfl
def wF (x y:Fr):Prop:=y.p=x.p∧y.u=x.u∧y.d=x.d∧y.f=x.f∧y.i=x.i∧(y.r=0↔x.r=0)
theorem wF.refl (x:Fr):wF x x:=⟨rfl,rfl,rfl,rfl,rfl,zN⟩
theorem wF.trans {x y:Fr} (h:wF x y) (k:wF y z):wF x z:=⟨k.1.trans h.1,k.2.1.trans h.2.1,k.2.2.1.trans h.2.2.1,k.2.2.2.1.trans h.2.2.2.1,k.2.2.2.2.1.trans h.2.2.2.2.1,k.2.2.2.2.2.trans h.2.2.2.2.2⟩
theorem wF.up {x:Fr} (h:x.r≠0) (h0:0≤x.r):wF x (iY x):=⟨rfl,rfl,rfl,rfl,rfl,⟨fun (e:x.r+1=0)=>by omega,fun e=>absurd e h⟩⟩
def alike (a b:En):Prop:=b.k=a.k∧b.n=a.n
structure Shared (m m' : Ma) (p q:Nat) (D:List Int):Prop where
 rt:Rt m'
 co:Co m'
 sk:fE m m'
 st:m'.st=m.st
 dk:m'.dk=m.dk
 sw:m'.sw=m.sw
 ca:m'.ca=m.ca
 len:m'.m.fs.length=m.m.fs.length
 sll:m'.sl.length=m.sl.length
 fr:∀g,wF (aD m g) (aD m' g)
 sl:∀s,iI m' s=0↔iI m s=0
 oth:∀a j,a≠q→alike (aF m a j) (aF m' a j)
 chd:∀j,j∈D→alike (aF m p j) (aF m' q j)
 chn:∀j,¬j∈D→aF m' q j=aF m q j
theorem LH {k:Kp} (h:Rt k.m) (hc:Co k.m) (hpq:p≠q) (hq:q<k.m.sp.length) (har:(bE k.m q).ar=(bE k.m p).ar) (hk:(aF k.m p n).k≠0) (h0:(aF k.m q n).k=0) :
  ∃m',kI k p q n=⟨m',k.e⟩∧Shared k.m m' p q [n]:=by
 obtain⟨g,hg,hi⟩:=h.en p n hk;have v:dQ k.m q n=some g:=by unfold dQ at hg ⊢; rw[har];exact hg
 have hE:=(cz _).1 (jL h.pt p n);have u:=kE hk;obtain⟨hb,hv⟩:=RQ hg
 by_cases k2:(aF k.m p n).k=2
 ·have hs:(aF k.m p n).n.toNat<k.m.sl.length:=by have:=hi.sw k2;omega
  have r:=h.fewS hs;have ht:0<bN k.m 2 ((aF k.m p n).n.toNat:Nat):=(ji (by decide)).2 ⟨p,n,u.1,u.2,k2,by omega⟩;have hw:=h.cs _ hs;have hn:(aF k.m p n).n=(((aF k.m p n).n.toNat:Nat):Int):=by omega
  have hl:bA k.m.sl (((aF k.m p n).n.toNat:Nat):Int) 1=0:=by have e1:Dg k.m.sl (((aF k.m p n).n.toNat:Nat):Int)=iI k.m (aF k.m p n).n.toNat:=rfl;unfold bA;rw[if_neg (by rw[h.pt.sl];simp),if_neg (by rw[e1];omega),if_neg (by rw[e1];omega)]
  obtain⟨a1,a2⟩:=MJ h hc k2 hn hq h0 hg v;have hd:Pt (setSl k.m (aF k.m p n).n.toNat (iI k.m (aF k.m p n).n.toNat+1)):=h.pt.setSl (by omega) (by omega);obtain⟨s0,b1,b2⟩:=fO (k:=⟨setSl k.m (aF k.m p n).n.toNat (iI k.m (aF k.m p n).n.toNat+1),k.e⟩) (p:=q) (n:=n) (x:=aF k.m p n) hd u.2 (jL h.pt p n);have b:=fun a j=>jS (m:=setSl k.m (aF k.m p n).n.toNat (iI k.m (aF k.m p n).n.toNat+1)) (p:=q) hq s0 a j;refine⟨_,?_,a1,a2,?_,rfl,rfl,rfl,rfl,rfl,cO,fun _ => .refl _,fun s => ?_,fun a j ha => ?_,fun j hj => ?_,fun j hj => ?_⟩
  ·unfold kI;simp only;rw[if_pos k2,if_neg (by rw[hn];rw[hl];simp)];have:aU k.m.sl (aF k.m p n).n 1=(setSl k.m (aF k.m p n).n.toNat (iI k.m (aF k.m p n).n.toNat+1)).sl:=by unfold aU;rw[if_pos (by rw[hn];exact hl)];rfl
   rw[this];exact b1
  ·have d:fE k.m (setSl k.m (aF k.m p n).n.toNat (iI k.m (aF k.m p n).n.toNat+1)):=fE.of rfl;exact d.trans fE.setTb
  ·have e1:iI (aO (setSl k.m (aF k.m p n).n.toNat (iI k.m (aF k.m p n).n.toNat+1)) q n (aF k.m p n)) s=iI (setSl k.m (aF k.m p n).n.toNat (iI k.m (aF k.m p n).n.toNat+1)) s:=rfl;rw[e1,Cy hs]
   by_cases e:s=(aF k.m p n).n.toNat
   ·subst e;rw[if_pos rfl];omega
   ·rw[if_neg e]
  ·have:aF (aO (setSl k.m (aF k.m p n).n.toNat (iI k.m (aF k.m p n).n.toNat+1)) q n (aF k.m p n)) a j=aF k.m a j:=by have:=b a j;rw[if_neg (fun h'=>ha h'.1)] at this;exact this
   rw[this];exact⟨rfl,rfl⟩
  ·have i:=bF.1 hj;subst i;have:=b q j;rw[if_pos ⟨rfl,rfl⟩] at this;exact⟨congrArg En.k this,congrArg En.n this⟩
  have:=b q j;rw[if_neg (fun h'=>hj (bF.2 h'.2))] at this;exact this
 have k1:(aF k.m p n).k=1:=by omega
 obtain⟨f,e1,hf,hr,hp,t,g0,hh,w⟩:=gy h k1;rw[hg] at hh;cases hh;have r:=h.fewR hf;obtain⟨a1,a2⟩:=wu (k:=k) (f:=f) (n:=1) h.pt hf hr (by omega) (by omega);have hm:gF (aD k.m f) 1=iY (aD k.m f):=by unfold gF;rw[if_neg (by omega)];rfl
 rw[hm] at a1 a2;have o:∀y,wF (aD k.m y) (aD (setFr k.m f (iY (aD k.m f))) y):=fun y=>by
  rw[fK hf]
  by_cases e:y=f
  ·subst e;rw[if_pos rfl];exact .up hr r.1
  ·rw[if_neg e];exact .refl _
 have d:fE k.m (setFr k.m f (iY (aD k.m f))):=fE.of rfl;have hu : (1:Int)=(aF k.m p n).k:=k1.symm
 by_cases hs:g.sh=true
 ·obtain⟨s0,b1,b2⟩:=fO (k:=⟨setFr k.m f (iY (aD k.m f)),k.e⟩) (p:=q) (n:=n) (x:=aF k.m p n) a2 t (jL h.pt p n);have b:=fun a j=>jS (m:=setFr k.m f (iY (aD k.m f))) (p:=q) hq s0 a j;obtain⟨c1,c2⟩:=Et h hc k1 e1 hq h0 hg v (fun _=>hs) (fun hx=>by have:=w.2.1 hs;omega);refine⟨_,?_,c1,c2,d.trans fE.setTb,rfl,rfl,rfl,rfl,dw,rfl,o,fun _=>zN,fun a j ha => ?_,fun j hj => ?_,fun j hj => ?_⟩
  ·unfold kI;simp only;rw[if_neg k2,hb,if_pos hs];rw[show dK k (aF k.m p n).n 1=dK k (f:Int) 1 by rw[e1],a1,b1];rfl
  ·have:=b a j;rw[if_neg (fun h'=>ha h'.1)] at this;exact⟨congrArg En.k this,congrArg En.n this⟩
  ·have i:=bF.1 hj;subst i;have:=b q j;rw[if_pos ⟨rfl,rfl⟩] at this;exact⟨congrArg En.k this,congrArg En.n this⟩
  have:=b q j;rw[if_neg (fun h'=>hj (bF.2 h'.2))] at this;exact this
 have z:gV ⟨1,f,false⟩=0:=(cz _).2 (.inr (.inl ⟨rfl,by show (0:Int)≤f;omega,by have:=((dN _).1 h.pt.fr).1;show (f:Int)<40;omega⟩));obtain⟨s0,b1,b2⟩:=fO (k:=⟨setFr k.m f (iY (aD k.m f)),k.e⟩) (p:=p) (n:=n) (x:=⟨1,f,false⟩) a2 t z;obtain⟨t0,d1,d2⟩:=fO (k:=⟨setTb (setFr k.m f (iY (aD k.m f))) p (setT (bE (setFr k.m f (iY (aD k.m f))) p).tb n ⟨1,f,false⟩),k.e⟩) (p:=q) (n:=n) (x:=⟨1,f,false⟩) b2 t z;have l:=fun a j=>jS (m:=setFr k.m f (iY (aD k.m f))) (p:=p) hp s0 a j;have c:=fun a j=>jS (m:=aO (setFr k.m f (iY (aD k.m f))) p n ⟨1,f,false⟩) (p:=q) (by show q<(setTb _ _ _).sp.length;rw[qQ];exact hq) t0 a j;obtain⟨c1,c2⟩:=KO h hc hpq k1 e1 hq h0 hg v;refine⟨_,?_,c1,c2,(d.trans fE.setTb).trans fE.setTb,rfl,rfl,rfl,rfl,dw,rfl,o,fun _=>zN,fun a j ha => ?_,fun j hj => ?_,fun j hj => ?_⟩
 ·unfold kI;simp only;rw[if_neg k2,hb,if_neg hs,k1];rw[show dK k (aF k.m p n).n 1=dK k (f:Int) 1 by rw[e1],a1,e1,b1,d1];rfl
 ·have h2:=c a j;rw[if_neg (fun h'=>ha h'.1)] at h2;have h1:=l a j;have h3:aF (aO (aO (setFr k.m f (iY (aD k.m f))) p n ⟨1,f,false⟩) q n ⟨1,f,false⟩) a j=if a=p∧j=n then ⟨1,f,false⟩ else aF k.m a j:=h2.trans h1;rw[h3]
  by_cases e:a=p∧j=n
  ·rw[if_pos e,e.1,e.2];exact⟨k1.symm,e1.symm⟩
  ·rw[if_neg e];exact⟨rfl,rfl⟩
 ·have i:=bF.1 hj;subst i;have h2:=c q j;rw[if_pos ⟨rfl,rfl⟩] at h2;have h3:aF (aO (aO (setFr k.m f (iY (aD k.m f))) p j ⟨1,f,false⟩) q j ⟨1,f,false⟩) q j=⟨1,f,false⟩:=h2;rw[h3];exact⟨k1.symm,e1.symm⟩
 have h2:=c q j;rw[if_neg (fun h'=>hj (bF.2 h'.2))] at h2;have h1:=l q j;rw[if_neg (fun h'=>hpq h'.1.symm)] at h1;exact h2.trans h1
theorem Shared.refl (h:Rt m) (hc:Co m) (p q:Nat):Shared m m p q []:=⟨h,hc,.refl _,rfl,rfl,rfl,rfl,rfl,rfl,fun _ => .refl _,fun _=>zN,fun _ _ _=>⟨rfl,rfl⟩,fun j hj=>(by cases hj),fun _ _=>rfl⟩
theorem Shared.trans {a b c:Ma} (hpq:p≠q) (h:Shared a b p q D) (k:Shared b c p q E) (hde:∀j∈D,¬j∈E):Shared a c p q (D++E):=by
 refine⟨k.rt,k.co,h.sk.trans k.sk,k.st.trans h.st,k.dk.trans h.dk,k.sw.trans h.sw,k.ca.trans h.ca,k.len.trans h.len,k.sll.trans h.sll,fun g=>(h.fr g).trans (k.fr g),fun s=>(k.sl s).trans (h.sl s),fun x j hx => ?_,fun j hj => ?_,fun j hj => ?_⟩
 ·have h1:=h.oth x j hx;have h2:=k.oth x j hx;exact⟨h2.1.trans h1.1,h2.2.trans h1.2⟩
 ·rcases iN.1 hj with hj|hj
  ·rw[k.chn j (hde j hj)];exact h.chd j hj
  have h1:=k.chd j hj;have h2:=h.oth p j hpq;exact⟨h1.1.trans h2.1,h1.2.trans h2.2⟩
 ·rw[k.chn j (fun h'=>hj (iN.2 (.inr h'))),h.chn j (fun h'=>hj (iN.2 (.inl h')))]
theorem FL {p q:Nat} (hpq:p≠q):∀(l:List Int) (k:Kp),Rt k.m→Co k.m→q<k.m.sp.length→(bE k.m q).ar=(bE k.m p).ar→l.Nodup→(∀n∈l,(aF k.m p n).k≠0∧(aF k.m q n).k=0) →
  ∃m',mF k p q l=⟨m',k.e⟩∧Shared k.m m' p q l
 | [],k,h,hc,_,_,_,_=>⟨k.m,rfl,.refl h hc p q⟩
 | n::l,k,h,hc,hq,har,hnd,hl=>by obtain⟨m1,e1,h1⟩:=LH h hc hpq hq har (hl n jh).1 (hl n jh).2;have hnd':=qK.1 hnd;obtain⟨m2,e2,h2⟩:=FL hpq l ⟨m1,k.e⟩ h1.rt h1.co (by show q<m1.sp.length;rw[h1.sk.len];exact hq) (by show (bE m1 q).ar=(bE m1 p).ar;rw[h1.sk.ar,h1.sk.ar];exact har) hnd'.2 (fun j hj=>by have hne:j≠n:=fun e=>hnd'.1 (e▸hj);have a1:=h1.oth p j hpq;have a2:=h1.chn j (fun h'=>hne (bF.1 h'));have a3:=hl j (iM _ hj);exact⟨by show (aF m1 p j).k≠0;rw[a1.1];exact a3.1,by show (aF m1 q j).k=0;rw[a2];exact a3.2⟩);refine⟨m2,?_,h1.trans hpq h2 (fun j hj h'=>hnd'.1 (bF.1 hj▸h'))⟩;unfold mF at e2 ⊢;rw[sH,e1,e2]
end Go.Proofs.YtpaeabelhnnbiaaGreat