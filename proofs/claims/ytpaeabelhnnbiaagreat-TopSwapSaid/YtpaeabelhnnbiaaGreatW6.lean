import Derived.Test.YtpaeabelhnnbiaaGreatW5
import Derived.Deep.QuietTactic
import Derived.BigQuiet
set_option linter.unusedSimpArgs false
set_option linter.unusedVariables false
set_option maxHeartbeats 4000000
set_option maxRecDepth 100000
namespace Go.Proofs.YtpaeabelhnnbiaaGreat
open _root_.Go.Proofs.Tryz
open Go.RowKit Go.Maps Pw
variable {B B' F I b cap cl ct f g gc gl gp i j k p:Nat} {H:MH} {M m m':Ma} {P:Program} {PP:PS} {T:TypeId} {a al:Option Addr} {cs:Array Value} {n:Int} {s:St} {u:Value} {vs:List Value} {w w' w1 w2:World}
theorem uP (H:MH) (w:World) (h:Ga w H) (hz:SN H.ma) :
  Calls Tryz.prog 33 #[.agg (bW H)] w fun r w' => ∃H' : MH,r = .returned (.agg (bW H'))∧qc w' w.heap.size H'∧H'.ma=H.ma∧(∀p∈H'.fi,∀x,oB p.a=some x→oB H'.asl≠some x)∧Below w.heap.size w w':=by
 have z1:H.m.fs.length≤1000:=hz.fs;have z2:H.sl.length≤1000:=hz.sl;have z3:H.sw.blocks.length≤1000:=hz.swb;have z4:H.sw.queue.length≤1000:=hz.swq;have z5:H.dk.blocks.length≤1000:=hz.dkb;have z6:H.dk.queue.length≤1000:=hz.dkq;have z7:H.ca.length≤1000:=hz.ca;have z8:H.sp.length≤1000:=by have:=hz.sp.1;rw[tQ] at this;exact this
 have zf:=hz.fsz;go_enter func33,ntmps33;go_upto_region 1 with (fail);refine vg (fun W=>Code.wp _ _ _ _ W) fun w1 s bx1 rx1 k1 => ?_;have ki:=h.below s;clear k1;refine gH 7 [_,_,.r 2 ((CW w1.heap.size H.m)),_,_,.r 5 ((iw w1.heap.size 3 1 H.sl.length (H.sl.map iI))),_] (fun W=>Below w1.heap.size w1 W) bA (Below.refl _ _) (Yf bA w.heap.size 0 rfl rfl (Yr bA (.agg #[.slice H.af H.m.fs.length H.cf,.int .i64 H.m.hand]) (fun ρ y W hb hy=>(bG rfl (aU rfl hy) (cz (bx1.ext hb) 0 2) underlying31 rfl (by kernel_rfl))) rfl rfl (aj ?_ (Yf bA w.heap.size 2 rfl rfl (Yc bA (.slice H.asl H.sl.length H.csl) (fun W hb=>by simp[(bx1.ext hb).cell,bW]) rfl rfl rfl rfl (aj ?_ (Yf bA w.heap.size 0 rfl rfl (aF)))))))) (fun _=>rfl) rfl ?_
 ·intro ρ y W hw hn hb hd;refine eP bA hb ((CW w1.heap.size H.m)) (fun _ _ h=>h) ?_;have E7:=hw 7 1 rfl;have h1:y 1 = .agg #[.slice H.af H.m.fs.length H.cf,.int .i64 H.m.hand]:=hd 1 rfl;have EF:∀f,ρ (.func f) = .func (.func f) #[] #[]:=fun f=>hn (.func f) trivial;refine aK _ _ (ag rfl) (aQ rfl (EF _) func57 (by kernel_rfl) (by kernel_rfl) (by simp only[bT,bF,bI,E7,h1,EF];rfl)) ?_;refine (yH H.m _ _ W (ki.below hb).fr (by omega)).mono ?_;rintro r w3 ⟨u,rfl,ho,s⟩;exact⟨_,rfl,s,u,rfl,ho.mono hb.size⟩
 ·intro ρ y W hw hn hb hd;refine eP bA hb ((iw w1.heap.size 3 1 H.sl.length (H.sl.map iI))) (fun _ _ h=>h) ?_;have gq:=hw 10 4 rfl;have h4:y 4 = .slice H.asl H.sl.length H.csl:=hd 4 rfl;have EF:∀f,ρ (.func f) = .func (.func f) #[] #[]:=fun f=>hn (.func f) trivial;refine aK _ _ (ag rfl) (aQ rfl (EF _) func58 (by kernel_rfl) (by kernel_rfl) (by simp only[bT,bF,bI,gq,h4,EF];rfl)) ?_;have hs:=(ki.below hb).sl;refine (vH H.sl _ _ W hs.le hs.nl hs.rd (by omega)).mono ?_;rintro r w3 ⟨u,rfl,ho,s⟩;exact⟨_,rfl,s,ho.mono hb.size⟩
 intro y w2 ha ka;replace ha:Below w1.heap.size w1 w2:=ha;have hF:((CW w1.heap.size H.m)).r (y 2) w2:=ka 2 (by decide);have hH:((iw w1.heap.size 3 1 H.sl.length (H.sl.map iI))).r (y 5) w2:=ka 5 (by decide);clear ka;simp only[dE,bu,bF,bI];obtain⟨u1,kP,kv⟩:=hF;have kf:Own w2 w1.heap.size 3 1 (y 5) H.sl.length (H.sl.map iI):=hH;obtain⟨a1,c1,rfl,_⟩:=kv.rd;obtain⟨a2,c2,kr,_⟩:=Own.rd kf;rw[kr] at kf;rw[kP,kr];have bx2:=bx1.ext ha;have rx2:=rx1.ext ha;have h0:=ah s ha;have k5:=ki.below ha;have kL:=ae s.size;have gr:=rx2.lt;clear ha bx1 rx1 ki kP kr hH
 go_wp2_with (refine gy rfl _ _ _ rfl w.heap.size 0 #[.slice a1 H.m.fs.length c1,.int .i64 H.m.hand] rfl rfl _ _ bx2 (by show 0+2≤11;decide) mem_size (fI _ _ _ _) ?_)
 intro w3 bx3 hR;have ko:=ay kv bx2 (by decide) hR;have kl:=ay kf bx2 (by decide) hR;have hZ:=h0.grown hR h0.size (fun k hk=>by cases hk;exact az _);have rx3:=rx2.grown hR (fun e=>by have:=aS e;omega);have bx3' : aJ w3 w.heap.size (bW { H with af:=a1,cf:=c1 }) 44:=bx3;clear kv kf bx2 rx2 k5 hR bx3 h0
 go_wp2_with (refine bz rfl _ _ _ rfl w.heap.size 2 _ [.slice a2 H.sl.length c2] rfl rfl rfl _ _ bx3' (by show 2+1≤11;decide) slots_size (fun u hu=>by cases bN.1 hu;rfl) ?_)
 intro w4 bx4 hQ;have kn:=ay ko bx3' (by decide) hQ;have hN:=ay kl bx3' (by decide) hQ;have hD:=hZ.grown hQ hZ.size (fun k hk=>by cases hk;exact az _);have rx4:=rx3.grown hQ (fun e=>by have:=aS e;omega);have bx4' : aJ w4 w.heap.size (bW { H with af:=a1,cf:=c1,asl:=a2,csl:=c2 }) 44:=bx4;have kh:=h.below hD;clear ko kl bx3' rx3 hQ bx4 hZ;obtain⟨H4,gw⟩:∃H4:MH,Hid (H4 = { H with af:=a1,cf:=c1,asl:=a2,csl:=c2 }):=⟨_,ae rfl⟩;go_upto_region 2 with (fail);refine gH 10 [_,_,.r 2 ((xn w4.heap.size H.sw)),_,_,.r 5 ((xn w4.heap.size H.dk)),_,_,.r 8 ((Lt w4.heap.size (bJ H.fi H.ct))),_] (fun W=>Below w4.heap.size w4 W) bA (Below.refl _ _) (Yf bA w.heap.size 3 rfl rfl (Yr bA (.agg #[.slice H.wb H.sw.blocks.length H.cwb,.slice H.wq H.sw.queue.length H.cwq]) (fun ρ y W hb hy=>(bG rfl (aU rfl hy) (cz (bx4'.ext hb) 3 2) underlying37 rfl (by kernel_rfl))) rfl rfl (aj ?_ (Yf bA w.heap.size 5 rfl rfl (Yr bA (.agg #[.slice H.db H.dk.blocks.length H.cdb,.slice H.dq H.dk.queue.length H.cdq]) (fun ρ y W hb hy=>(bG rfl (aU rfl hy) (cz (bx4'.ext hb) 5 2) underlying37 rfl (by kernel_rfl))) rfl rfl (aj ?_ (Yf bA w.heap.size 7 rfl rfl (Yr bA (.agg #[.slice H.ai H.fi.length H.ci,.int .i64 H.ct]) (fun ρ y W hb hy=>(bG rfl (aU rfl hy) (cz (bx4'.ext hb) 7 2) underlying40 rfl (by kernel_rfl))) rfl rfl (aj ?_ (Yf bA w.heap.size 3 rfl rfl (aF))))))))))) (fun _=>rfl) rfl ?_
 ·intro ρ y W hw hn hb hd;refine eP bA hb ((xn w4.heap.size H.sw)) (fun _ _ h=>h) ?_;have gp:=hw 15 1 rfl;have h1:y 1 = .agg #[.slice H.wb H.sw.blocks.length H.cwb,.slice H.wq H.sw.queue.length H.cwq]:=hd 1 rfl;have EF:∀f,ρ (.func f) = .func (.func f) #[] #[]:=fun f=>hn (.func f) trivial;refine aK _ _ (ag rfl) (aQ rfl (EF _) func59 (by kernel_rfl) (by kernel_rfl) (by simp only[bT,bF,bI,gp,h1,EF];rfl)) ?_;refine (DR H.sw _ _ _ _ W (kh.below hb).sw (by omega) (by omega)).mono ?_;rintro r w3 ⟨u,v,rfl,ho,s⟩;exact⟨_,rfl,s,u,v,rfl,ho.mono hb.size⟩
 ·intro ρ y W hw hn hb hd;refine eP bA hb ((xn w4.heap.size H.dk)) (fun _ _ h=>h) ?_;have gn:=hw 18 4 rfl;have h4:y 4 = .agg #[.slice H.db H.dk.blocks.length H.cdb,.slice H.dq H.dk.queue.length H.cdq]:=hd 4 rfl;have EF:∀f,ρ (.func f) = .func (.func f) #[] #[]:=fun f=>hn (.func f) trivial;refine aK _ _ (ag rfl) (aQ rfl (EF _) func59 (by kernel_rfl) (by kernel_rfl) (by simp only[bT,bF,bI,gn,h4,EF];rfl)) ?_;refine (DR H.dk _ _ _ _ W (kh.below hb).dk (by omega) (by omega)).mono ?_;rintro r w3 ⟨u,v,rfl,ho,s⟩;exact⟨_,rfl,s,u,v,rfl,ho.mono hb.size⟩
 ·intro ρ y W hw hn hb hd;refine eP bA hb ((Lt w4.heap.size (bJ H.fi H.ct))) (fun _ _ h=>h) ?_;have gm:=hw 21 7 rfl;have h7:y 7 = .agg #[.slice H.ai H.fi.length H.ci,.int .i64 H.ct]:=hd 7 rfl;have EF:∀f,ρ (.func f) = .func (.func f) #[] #[]:=fun f=>hn (.func f) trivial;refine aK _ _ (ag rfl) (aQ rfl (EF _) func60 (by kernel_rfl) (by kernel_rfl) (by simp only[bT,bF,bI,gm,h7,EF];rfl)) ?_;refine (Ct H.fi H.ct _ _ W (kh.below hb).st zf).mono ?_;rintro r w3 ⟨u,ps,rfl,ho,he,s⟩;exact⟨_,rfl,s,u,ps,_,rfl,ho.mono hb.size,by unfold bJ;rw[he]⟩
 intro y w5 z hE;replace z:Below w4.heap.size w4 w5:=z;have hF:((xn w4.heap.size H.sw)).r (y 2) w5:=hE 2 (by decide);have hH:((xn w4.heap.size H.dk)).r (y 5) w5:=hE 5 (by decide);have kE:((Lt w4.heap.size (bJ H.fi H.ct))).r (y 8) w5:=hE 8 (by decide);clear hE;simp only[dE,bu,bF,bI];obtain⟨ub,uq,kO,ke⟩:=hF;obtain⟨vb,vq,kN,kd⟩:=hH;obtain⟨us,ps,ks,kM,kc,kQ⟩:=kE;have k6 : -9223372036854775808≤ks∧ks≤9223372036854775807:=by have e:ks=H.ct:=congrArg St.count kQ;rw[e];exact h.c64
 obtain⟨ab,cb,rfl,_⟩:=ke.b.rd;obtain⟨aq,cq,rfl,_⟩:=ke.q.rd;obtain⟨db,eb,rfl,_⟩:=kd.b.rd;obtain⟨dq,eq,rfl,_⟩:=kd.q.rd;obtain⟨as_,cs,rfl,_⟩:=kc.rd;rw[kO,kN,kM];have k3:Hid (∀p∈ps,∀x,oB p.a=some x→oB a2≠some x):=ae (fun p hp x hx e=>by have h1:=(nR hN e).2.choose_spec.lt;obtain⟨i,hi,rfl⟩:=jC.1 hp;have h2:=(nR (kc.each i _ (aN hi)) hx).1;omega);have bx5:=bx4'.ext z;have rx5:=rx4.ext z;have hY:=ah hD z;have km:=kn.below z;have kk:=hN.below z;have hI:=ae hD.size;clear z bx4' rx4 kh kO kN kM kn hN hD
 go_wp2_with (refine gy rfl _ _ _ rfl w.heap.size 3 #[.slice ab H.sw.blocks.length cb,.slice aq H.sw.queue.length cq] rfl rfl _ _ bx5 (by show 3+2≤11;decide) disk_size (pE _ _ _ _ _ _) ?_)
 intro w6 bx6 hl;have hX:=hY.grown hl hY.size (fun k hk=>by cases hk;exact az _);have rx6:=rx5.grown hl (fun e=>by have:=aS e;omega);have p1:=ay km bx5 (by decide) hl;have p2:=ay kk bx5 (by decide) hl;have p3:=ke.keep bx5 (by decide) (by decide) hl;have p4:=kd.keep bx5 (by decide) (by decide) hl;have p5:=kc.keep bx5 (by decide) (by decide) hl;clear bx5 rx5 hl km kk ke kd kc hY
 go_wp2_with (refine gy rfl _ _ _ rfl w.heap.size 5 #[.slice db H.dk.blocks.length eb,.slice dq H.dk.queue.length eq] rfl rfl _ _ bx6 (by show 5+2≤11;decide) disk_size (pE _ _ _ _ _ _) ?_)
 intro w7 bx7 hj;have hW:=hX.grown hj hX.size (fun k hk=>by cases hk;exact az _);have rx7:=rx6.grown hj (fun e=>by have:=aS e;omega);have q1:=ay p1 bx6 (by decide) hj;have q2:=ay p2 bx6 (by decide) hj;have q3:=p3.keep bx6 (by decide) (by decide) hj;have q4:=p4.keep bx6 (by decide) (by decide) hj;have q5:=p5.keep bx6 (by decide) (by decide) hj;clear bx6 rx6 hj p1 p2 p3 p4 p5 hX
 go_wp2_with (refine gy rfl _ _ _ rfl w.heap.size 7 #[.slice as_ ps.length cs,.int .i64 ks] rfl rfl _ _ bx7 (by show 7+2≤11;decide) store_size (mE _ _ _ _) ?_)
 intro w8 bx8 hh;have hC:=hW.grown hh hW.size (fun k hk=>by cases hk;exact az _);have rx8:=rx7.grown hh (fun e=>by have:=aS e;omega);have p1:=ay q1 bx7 (by decide) hh;have p2:=ay q2 bx7 (by decide) hh;have p3:=q3.keep bx7 (by decide) (by decide) hh;have p4:=q4.keep bx7 (by decide) (by decide) hh;have p5:=q5.keep bx7 (by decide) (by decide) hh;obtain⟨H8,kC⟩:∃H8:MH,Hid (H8 = { H with af:=a1,cf:=c1,asl:=a2,csl:=c2,wb:=ab,cwb:=cb,wq:=aq,cwq:=cq,db:=db,cdb:=eb,dq:=dq,cdq:=eq,ai:=as_,ci:=cs,fi:=ps,ct:=ks }):=⟨_,ae rfl⟩;have bx8' : aJ w8 w.heap.size (bW H8) 44:=by rw[kC.out];exact bx8
 have kg:=h.below hC;clear bx7 rx7 hh bx8 q1 q2 q3 q4 q5 hW;have ky:w8.cell? ⟨w.heap.size,9,none⟩=some (.slice H.ac H.ca.length H.cc):=by rw[bx8'.cell,kC.out];rfl
 go_wp2_with fail
 refine (GZ H.ca H.ac H.cc _ kg.ca.le kg.ca.nl kg.ca.rd (by omega)).mono ?_;rintro r w9 ⟨v9,rfl,ku,hf⟩;obtain⟨a6,c6,rfl,_⟩:=ku.rd;have bx9:=bx8'.ext hf;have rx9:=rx8.ext hf;have hU:=ah hC hf;have q1:=p1.below hf;have q2:=p2.below hf;have q3:=p3.below hf;have q4:=p4.below hf;have q5:=p5.below hf;have kZ:=ae hC.size;clear ky bx8' rx8 kg p1 p2 p3 p4 p5 hf hC
 go_wp2_with (refine bz rfl _ _ _ rfl w.heap.size 9 _ [.slice a6 H.ca.length c6] rfl rfl rfl _ _ bx9 (by show 9+1≤11;decide) caO_size (fun u hu=>by cases bN.1 hu;rfl) ?_)
 intro w10 bx10 g;have ht:=hU.grown g hU.size (fun k hk=>by cases hk;exact az _);have rx10:=rx9.grown g (fun e=>by have:=aS e;omega);have p1:=(ay q1 bx9 (by decide) g).mono kL.out;have p2:=(ay q2 bx9 (by decide) g).mono kL.out;have p3:=(q3.keep bx9 (by decide) (by decide) g).mono hI.out;have p4:=(q4.keep bx9 (by decide) (by decide) g).mono hI.out;have p5:=(q5.keep bx9 (by decide) (by decide) g).mono hI.out;have p6:=(ay ku bx9 (by decide) g).mono kZ.out;obtain⟨G,hG⟩:∃G:MH,Hid (G = { H with af:=a1,cf:=c1,asl:=a2,csl:=c2,wb:=ab,cwb:=cb,wq:=aq,cwq:=cq,db:=db,cdb:=eb,dq:=dq,cdq:=eq,ai:=as_,ci:=cs,fi:=ps,ct:=ks,ac:=a6,cc:=c6 }):=⟨_,ae rfl⟩;have bxG:aJ w10 w.heap.size (bW G) 44:=by rw[hG.out];rw[kC.out] at bx10;exact bx10
 clear bx9 rx9 g bx10 q1 q2 q3 q4 q5 ku hU;have gs:Hid (G.ap=H.ap∧G.sp=H.sp∧G.cp=H.cp):=ae (by rw[hG.out];exact⟨rfl,rfl,rfl⟩);have ky:w10.cell? ⟨w.heap.size,10,none⟩=some (.slice H.ap H.sp.length H.cp):=by rw[bxG.cell,hG.out];rfl
 have kX:=h.below ht;have kW:Own w10 w.heap.size 114 10 (.slice none 0 0) ([]:List PS).length (([]:List PS).flatMap zw):=by simpa using Own.nil _ _ _ _
 go_upto_region 6 with (fail);clear ky kX
 go_loopw [3,33] (fun s3 i wr => ∃(q:Nat) (qs:List PS) (av:Option Addr) (cv:Nat),q≤H.sp.length∧i = .int .i64 q∧s3 = .slice av qs.length cv∧Below w.heap.size w wr∧aJ wr w.heap.size (bW G) 44∧aJ wr (w.heap.size+1) _ 44 ∧
  Own wr w.heap.size 132 13 (.slice a1 H.m.fs.length c1) H.m.fs.length (H.m.fs.flatMap oH)∧Own wr w.heap.size 3 1 (.slice a2 H.sl.length c2) H.sl.length (H.sl.map iI)∧kw wr w.heap.size (.slice ab H.sw.blocks.length cb) (.slice aq H.sw.queue.length cq) H.sw∧kw wr w.heap.size (.slice db H.dk.blocks.length eb) (.slice dq H.dk.queue.length eq) H.dk ∧
  oz wr w.heap.size (.slice as_ ps.length cs) ps∧Own wr w.heap.size 124 3 (.slice a6 H.ca.length c6) H.ca.length (H.ca.flatMap jG)∧Own wr w.heap.size 114 10 (.slice av qs.length cv) qs.length (qs.flatMap zw)∧(∀p∈qs,ul wr w.heap.size p p.sp∧Dw p.tb)∧Hid (qs.map PS.sp=(H.sp.take q).map PS.sp)) (fun _ i _=>H.sp.length-(intOf i).toNat)
 case atStart=>exact⟨0,[],none,0,bB _,rfl,rfl,ht,bxG,rx10,p1,p2,p3,p4,p5,p6,kW,fun p hp=>(by simp at hp),ae rfl⟩
 case round=>
  clear ht bxG rx10 p1 p2 p3 p4 p5 p6 kW;obtain⟨q,qs,av,cv,hq,rfl,rfl,hv,bx,rx,p1,p2,p3,p4,p5,p6,ho,hL,kb⟩:=hrel;have gv:qs.length≤q:=by have:=congrArg List.length kb.out;rw[fP,fP,fq] at this;omega
  by_cases hql2:q<H.sp.length
  ·obtain⟨bs,os,P,k8,hP,kR⟩:=xz (h.below hv).sp.rd q hql2;have hr:=yt (h.below hv) hP;have k9:=dm hP;obtain⟨gt,kD⟩:=hz.spz k9;have k2:(q:Int)<(H.sp.length:Int):=by omega
   have kT:Hid (qs.map PS.sp++[P.sp]=(H.sp.take (q+1)).map PS.sp):=ae (by rw[take_at hP,gX,kb.out];rfl);rw[k8];have kj:(Et P).all (·.oneCell')=true:=by rw[←iA,cK];exact hr.one
   go_wp2_with (first | (refine aC _ _ rfl bs (os+q*10) rfl rfl _ kR _ underlying114 rfl space_size ?_) | (refine aT rfl _ _ _ rfl (Et P) rfl rfl rfl space_size kj ?_))
   intro w11 l fx;have hc:=ah hv l;have d:=hr.below l;have bx11:=bx.ext l;have rx11:=rx.ext l;have q1:=p1.below l;have q2:=p2.below l;have q3:=p3.below l;have q4:=p4.below l;have q5:=p5.below l;have q6:=p6.below l;have hO:=ho.below l;have hm:∀p∈qs,ul w11 w.heap.size p p.sp∧Dw p.tb:=fun p hp=>⟨(hL p hp).1.below l,(hL p hp).2⟩;have kx:=ae hc.size;clear hv hr bx rx p1 p2 p3 p4 p5 p6 ho hL l kR kj hP;go_upto_region 8 with (fail);refine TD 0 3 (.slice av qs.length cv) (by kernel_rfl) (by kernel_rfl) rfl fun ops0 hM => ?_;simp only[freedL,Ao] at hM;subst hM;refine EO 11 12 [] [gI (.slice av qs.length cv),gI (.pointer (some ⟨wr.heap.size,0,none⟩)),gI (.bool P.lv),gI (.pointer (some ⟨wr.heap.size,1,none⟩)),gI (.slice P.aa P.ar.length P.ac),(iw w11.heap.size 143 7 P.ar.length (P.ar.flatMap fA)),gI (.pointer (some ⟨wr.heap.size,2,none⟩)),gI (.agg (tX P.ts)),(Ml w11.heap.size P.tb),(Vq w11.heap.size P.sp),(Wh w11.heap.size P.sp)] (by kernel_rfl) (by kernel_rfl) (by kernel_rfl) (by kernel_rfl) (by kernel_rfl) (by decide) (Nat.le_of_ble_eq_true (by kernel_rfl)) _ rfl (by kernel_rfl) (aj ?_ (aj ?_ (aj ?_ (aj ?_ (aj ?_ (aj ?_ (aj ?_ (aj ?_ (aj ?_ (aj ?_ (aj ?_ (aF)))))))))))) (aF) rfl ?_
   ·refine aB rfl ?_;intro ρ y W hw hn hb hd;refine ak (.slice av qs.length cv) (ag rfl) (run_move (.inl rfl) (hn (.const _) trivial)) rfl
   ·refine aB rfl ?_;intro ρ y W hw hn hb hd;have E5:ρ (.tmp 5) = .pointer (some ⟨wr.heap.size,0,none⟩):=(hn (.tmp 5) rfl).trans rfl;refine ak (.pointer (some ⟨wr.heap.size,0,none⟩)) (ag rfl) (by simp[execOp,go_sem,E5]) rfl
   ·refine aB rfl ?_;intro ρ y W hw hn hb hd;have gl:=hw 38 1 rfl;have h1:y 1 = .pointer (some ⟨wr.heap.size,0,none⟩):=hd 1 rfl;refine ak (.bool P.lv) (ag rfl) (by simp[execOp,go_sem,gl,h1,(fx.ext hb).cell,Et]) rfl
   ·refine aB rfl ?_;intro ρ y W hw hn hb hd;have E5:ρ (.tmp 5) = .pointer (some ⟨wr.heap.size,0,none⟩):=(hn (.tmp 5) rfl).trans rfl;refine ak (.pointer (some ⟨wr.heap.size,1,none⟩)) (ag rfl) (by simp[execOp,go_sem,E5]) rfl
   ·refine aB rfl ?_;intro ρ y W hw hn hb hd;have gj:=hw 40 3 rfl;have h3:y 3 = .pointer (some ⟨wr.heap.size,1,none⟩):=hd 3 rfl;refine ak (.slice P.aa P.ar.length P.ac) (ag rfl) (by simp[execOp,go_sem,gj,h3,(fx.ext hb).cell,Et]) rfl
   ·refine aB rfl ?_;intro ρ y W hw hn hb hd;have gi:=hw 41 4 rfl;have h4:y 4 = .slice P.aa P.ar.length P.ac:=hd 4 rfl;have EF:∀f,ρ (.func f) = .func (.func f) #[] #[]:=fun f=>hn (.func f) trivial;refine aK _ _ (ag rfl) (aQ rfl (EF _) func62 (by kernel_rfl) (by kernel_rfl) (by simp only[bT,bF,bI,gi,h4,EF];rfl)) ?_;have hA:=(d.below hb).ars;refine (vF P.ar P.aa P.ac W hA.le hA.nl hA.rd (by omega)).mono ?_;rintro e w1 ⟨u,rfl,ho,s⟩;exact⟨u,rfl,s,ho.mono hb.size⟩
   ·refine aB rfl ?_;intro ρ y W hw hn hb hd;have E5:ρ (.tmp 5) = .pointer (some ⟨wr.heap.size,0,none⟩):=(hn (.tmp 5) rfl).trans rfl;refine ak (.pointer (some ⟨wr.heap.size,2,none⟩)) (ag rfl) (by simp[execOp,go_sem,E5]) rfl
   ·refine aB rfl ?_;intro ρ y W hw hn hb hd;have gg:=hw 43 6 rfl;have h6:y 6 = .pointer (some ⟨wr.heap.size,2,none⟩):=hd 6 rfl;refine ak (.agg (tX P.ts)) (ag rfl) (bG rfl (gg.trans h6) (cz (fx.ext hb) 2 8) underlying112 tab_agg tab_size) rfl
   ·refine aB rfl ?_;intro ρ y W hw hn hb hd;have gf:=hw 44 7 rfl;have h7:y 7 = .agg (tX P.ts):=hd 7 rfl;have EF:∀f,ρ (.func f) = .func (.func f) #[] #[]:=fun f=>hn (.func f) trivial;refine aK _ _ (ag rfl) (aQ rfl (EF _) func63 (by kernel_rfl) (by kernel_rfl) (by simp only[bT,bF,bI,gf,h7,EF];rfl)) ?_;refine (Ig P.tb (tX P.ts) W (d.below hb).tb kD).mono ?_;rintro e w1 ⟨u,rfl,ho,s⟩;exact⟨_,rfl,s,u,rfl,ho.mono hb.size⟩
   ·refine aB rfl ?_;intro ρ y W hw hn hb hd;have gk:=hw 39 2 rfl;have h2:y 2 = .bool P.lv:=hd 2 rfl;have gh:=hw 42 5 rfl;have h5:((iw w11.heap.size 143 7 P.ar.length (P.ar.flatMap fA))).r (y 5) W:=hd 5 rfl;have gd:=hw 45 8 rfl;have h8:((Ml w11.heap.size P.tb)).r (y 8) W:=hd 8 rfl;obtain⟨x5,c5,e5,_⟩:=Own.rd h5;obtain⟨cs8,e8,kV⟩:=h8;obtain⟨v8,rfl⟩:=UY kV.sz;have ga:Own W w11.heap.size 143 7 (.slice x5 P.ar.length c5) P.ar.length (P.ar.flatMap fA):=by rw[←e5];exact h5
    refine ak (.agg (Et ⟨P.lv,x5,c5,P.ar,v8,P.tb⟩)) (ag rfl) (by simp[execOp,go_sem,gk.trans h2,gh,e5,gd,e8,tX,Et]) ?_;exact⟨⟨P.lv,x5,c5,P.ar,v8,P.tb⟩,rfl,rfl,ga,kV⟩
   ·refine aB rfl ?_;intro ρ y W hw hn hb hd;have gc:=hw 46 9 rfl;have h9:((Vq w11.heap.size P.sp)).r (y 9) W:=hd 9 rfl;obtain⟨p9,e9,k7⟩:=h9;refine gz (.slice (some ⟨W.heap.size,0,none⟩) 1 1) (ag rfl) (by simp[execOp,go_sem,gc,e9,Et]) ((Below.refl _ _).alloc (az _) (.cells (Et p9) 114)) ?_;exact⟨_,p9,rfl,eB.new _ _ _,k7.below ((Below.refl _ _).alloc (az _) _)⟩
   intro ρ y WA o ho hw hn hV j n;cases ho;have kq:y 0 = .slice av qs.length cv:=n 0 (by decide);have kK:y 1 = .pointer (some ⟨wr.heap.size,0,none⟩):=n 1 (by decide);have hF:y 2 = .bool P.lv:=n 2 (by decide);have kI:y 3 = .pointer (some ⟨wr.heap.size,1,none⟩):=n 3 (by decide);have kH:y 4 = .slice P.aa P.ar.length P.ac:=n 4 (by decide);have hH:((iw w11.heap.size 143 7 P.ar.length (P.ar.flatMap fA))).r (y 5) WA:=n 5 (by decide);have kG:y 6 = .pointer (some ⟨wr.heap.size,2,none⟩):=n 6 (by decide);have kF:y 7 = .agg (tX P.ts):=n 7 (by decide);have kE:((Ml w11.heap.size P.tb)).r (y 8) WA:=n 8 (by decide);have gu:((Vq w11.heap.size P.sp)).r (y 9) WA:=n 9 (by decide);have kJ:((Wh w11.heap.size P.sp)).r (y 10) WA:=n 10 (by decide);have kY:=hw 37 0 rfl;rw[kq] at kY;have gb:=hw 47 10 rfl;have EC:∀v,ρ (.const v)=v:=fun v=>hn (.const v) trivial;have EF:∀f,ρ (.func f) = .func (.func f) #[] #[]:=fun f=>hn (.func f) trivial;obtain⟨g10,p10,e10,hJ,g⟩:=kJ;refine Nb (ag rfl) (FP (.tmp 37) (.tmp 47) 42 rfl w.heap.size 114 _ 10 224 underlying42 space_info rfl (by decide) _ _ _ kY (hO.below j) _ 1 1 (zw p10) (gb.trans e10) (fun e=>by cases e) (az _) rfl hJ (RB g) (by unfold maxLen;omega) (by omega) (aV kx.out j.size)) ?_;rintro v2 w13 ⟨hB,c,hS⟩;clear n hw hn hV;simp only[lay,Nat.reduceAdd,Nat.reduceLT,Nat.reduceEqDiff,reduceIte,decide_true,decide_false,if_true,pq,if_false,rR,sj,rW,qY,rE,rH,kq,kK,hF,kI,kH,kG,kF];clear kq kK hF kI kH kG kF;have t:=hO.below j;have hT:=ah hc j;have kA:Below w.heap.size w w13:=hT.grown c hT.size (fun k hk=>t.ge k hk);have hg : Own w13 w.heap.size 114 10 v2 (qs++[p10]).length ((qs++[p10]).flatMap zw):=by rw[iK,gK];simpa using hB
   obtain⟨a13,c13,rfl,_⟩:=hg.rd;have r1:=kz t c (q1.below j) (by decide);have r2:=kz t c (q2.below j) (by decide);have r3:kw w13 w.heap.size _ _ H.sw:=⟨kz t c (q3.below j).b (by decide),kz t c (q3.below j).q (by decide)⟩;have r4:kw w13 w.heap.size _ _ H.dk:=⟨kz t c (q4.below j).b (by decide),kz t c (q4.below j).q (by decide)⟩;have r5:=Tx t c (q5.below j);have r6:=kz t c (q6.below j) (by decide);have bx13:=JE t c (bx11.ext j) (by decide);have rx13:=JE t c (rx11.ext j) (by decide);have kt:∀p∈qs++[p10],ul w13 w.heap.size p p.sp∧Dw p.tb:=fun p hp=>by
    rcases jK.1 hp with hp|hp
    ·have h1:=(hm p hp).1.below j;exact⟨⟨rfl,kz t c h1.2.1 (by decide),Nu t c h1.2.2⟩,(hm p hp).2⟩
    rw[bN.1 hp];refine⟨⟨rfl,(kz t c g.2.1 (by decide)).mono kx.out,(Nu t c g.2.2).mono kx.out⟩,?_⟩;have e:p10.tb=P.tb:=congrArg Sp.tb g.1;rw[e];exact kD
   have kS:Hid ((qs++[p10]).map PS.sp=(H.sp.take (q+1)).map PS.sp):=ae (by rw[gX,←kT.out,←g.1];rfl);clear hO t hT j hB c hS g hJ fx d bx11 rx11 q1 q2 q3 q4 q5 q6 hm;go_wp2;go_roundw
   case rel=>exact⟨q+1,_,_,_,by omega,by go_num,rfl,kA,bx13,rx13,r1,r2,r3,r4,r5,r6,hg,kt,kS⟩
   case measure=>simp[intOf];omega
  have k2:¬(q:Int)<(H.sp.length:Int):=by omega
  rw[ou (by omega)] at kb
  go_wp2_with (refine bz rfl _ _ _ rfl w.heap.size 10 _ [.slice av qs.length cv] rfl rfl rfl _ _ bx (by show 10+1≤11;decide) slsp_size (fun u hu=>by cases bN.1 hu;rfl) ?_)
  intro w11 bx11 d;have hc:=hv.grown d hv.size (fun k hk=>by cases hk;exact az _);have rx11:=rx.grown d (fun e=>by have:=aS e;omega);obtain⟨K,hK⟩:∃K:MH,Hid (K = { G with ap:=av,cp:=cv,sp:=qs }):=⟨_,ae rfl⟩;have bxK:aJ w11 w.heap.size (bW K) 44:=by rw[hK.out];exact bx11
  have kU:qc w11 w.heap.size K:=by rw[hK.out,hG.out];exact⟨ay p1 bx (by decide) d,ay p2 bx (by decide) d,p3.keep bx (by decide) (by decide) d,p4.keep bx (by decide) (by decide) d,p5.keep bx (by decide) (by decide) d,ay p6 bx (by decide) d,ay ho bx (by decide) d,fun p hp=>⟨ay (hL p hp).1.2.1 bx (by decide) d,(hL p hp).1.2.2.keep bx (by decide) d⟩,k6⟩
  have k4:K.ma=H.ma:=by rw[hK.out,hG.out];unfold MH.ma;simp only;rw[kb.out,kQ]
  have k0:∀p∈K.fi,∀x,oB p.a=some x→oB K.asl≠some x:=by rw[hK.out,hG.out];exact k3.out
  clear hv bx rx d bx11 p1 p2 p3 p4 p5 p6 ho
  go_wp2_with (first | (refine aC _ _ rfl w.heap.size 0 rfl rfl (bW K).toList bxK.rd _ underlying44 rfl mach_size ?_) | (refine ax rfl _ _ _ rfl (w.heap.size+1) (bW K) rfl rfl _ _ rx11 rfl mach_size (eU K) ?_))
  intro w12 rx12 kp;have kB:=hc.grown kp hc.size (fun k hk=>by cases hk;omega);go_wp2;refine bodyPost_ret (v:=.agg (bW K)) (aY results33 _ _ (w.heap.size+1) _ _ _ rfl rx12 underlying44 rfl mach_size) rfl ?_;exact⟨K,rfl,kU.keep rx11 (by decide) kp,k4,k0,kB⟩
theorem jf.putP {e:Int} (h:jf w B b H e) (hp:p<H.sp.length) :
  ∃g off cur,H.ap=some ⟨g,off,none⟩∧B≤g∧aJ w g cur 114∧off+p*10+10≤cur.size ∧
   ∀(w' : World) (P:PS),Own w B 143 7 (.slice P.aa P.ar.length P.ac) P.ar.length (P.ar.flatMap fA)→wR w B (tX P.ts) P.tb→Dw P.tb→aJ w' g (dF cur (off+p*10) (zw P)) 114→w.grownBy w' (some g)→jf w' B b { H with sp:=H.sp.set p P } e:=by
 obtain⟨g,off,cap,cur,hv,hB,a,k,d⟩:=oM wX (by decide) rfl h.ma.sp p hp;simp only[lH] at hv;obtain⟨j,_,l⟩:=hv;refine⟨g,off,cur,j,hB,a,by omega,fun w' P ha ht f hb hg => ?_⟩;have c:(H.sp.set p P).length=H.sp.length:=dM;have i:b≠g:=fun e=>by have h1:=h.blk;subst e;unfold aJ at h1 a;rw[h1] at a;simp only[gY,pM] at a;exact absurd a.2.1 (by decide)
 refine⟨?_,h.ge,⟨ay h.ma.fr a (by decide) hg,ay h.ma.sl a (by decide) hg,h.ma.sw.keep a (by decide) (by decide) hg,h.ma.dk.keep a (by decide) (by decide) hg,h.ma.st.keep a (by decide) (by decide) hg,ay h.ma.ca a (by decide) hg,?_,fun q hq => ?_,h.ma.c64⟩,fun q hq => ?_⟩
 ·have:nC { H with sp:=H.sp.set p P } e=nC H e:=by unfold nC;simp only[c]
  rw[this];exact h.blk.grown hg (fun e=>i (aS e).symm)
 ·simp only[c];exact d w' _ hb
 ·rcases lZ hq with hq|rfl
  ·exact⟨ay (h.ma.ps q hq).1 a (by decide) hg,(h.ma.ps q hq).2.keep a (by decide) hg⟩
  ·exact⟨ay ha a (by decide) hg,ht.keep a (by decide) hg⟩
 rcases lZ hq with hq|rfl
 ·exact h.tz q hq
 ·exact f
theorem TT (H:MH) (p:Nat) (P:PS):MH.ma { H with sp:=H.sp.set p P }=JM H.ma p P.sp:=by
 unfold JM MH.ma;simp only[yE]
theorem fC (h:Below B w w1) (k:Below B w1 w2):Below B w w2:=
 ⟨k.os.trans h.os,k.tape.trans h.tape,k.output.trans h.output,aV h.size k.size,fun i hi=>(k.block i hi).trans (h.block i hi)⟩
theorem machT:44≠192∧44≠132∧44≠124∧44≠114:=by decide
def Lh (H:MH) (p:Int):Prop:=p<0∨(H.sp.length:Int)≤p∨(bX H.ma p.toNat).lv=false
def Wo (H:MH) (p:Int) (w:World) (r:Ending) (w' : World):Prop:=
 Below w.heap.size w w'∧((Lh H p∧r = .returned (.tuple #[.agg (bW noH),.int .i64 5]))∨(¬Lh H p∧∃H' : MH,r = .returned (.tuple #[.agg (bW H'),.int .i64 0])∧qc w' w.heap.size H'∧Gone H.ma H'.ma p.toNat∧H'.ma=(DL H.ma p.toNat).m))
def Xi (H:MH) (p:Nat) (n:Int) (wr:Bool) (w:World) (r:Ending) (w' : World):Prop:=
 Below w.heap.size w w'∧((lS H.ma p n wr≠0∧r = .returned (.tuple #[.agg (bW noH),.int .i64 0,.int .i64 (lS H.ma p n wr)])) ∨
  (lS H.ma p n wr=0∧∃H' : MH,r = .returned (.tuple #[.agg (bW H'),.int .i64 (tC H.ma p n wr),.int .i64 0])∧qc w' w.heap.size H'∧H'.ma=oW H.ma p n wr))
def Oc (m:Ma):Prop:=∀p,∀a∈(bX m p).ar,a.fi<m.st.fs.length
theorem Oc.at (h:Oc m) (hf:0≤fB (bX m p).ar n):(jc m p n).fi<m.st.fs.length:=by
 obtain⟨k,hk,a,_⟩:=Cb (q:=uW n) (l:=(bX m p).ar) hf;have b : fB (bX m p).ar n=k:=hk;unfold jc;rw[b,bD,bM,aN a];exact h p _ (eZ a)
theorem Ih (hR:Rt m) {w:Bool} (hp:p<m.sp.length) (hv:(bX m p).lv=true):lS m p n w=if mJ m p n w≠0 then mJ m p n w
  else if 0≤(jc m p n).fi∧copied m p n=false∧nU m.st (jc m p n).fi ((jc m p n).ba+n-(jc m p n).fr)=true then 9
  else if (kK m p n w).2<0 then 10 else (kK m p n w).1.e:=by
 unfold lS;rw[if_neg (by rw[GH.2 hR];simp),if_neg (by rw[bD,hv];simp;omega),bD]
theorem WI (E:En) (W:World):(Instr.field 129 (.agg #[.int .i64 E.k,.int .i64 E.n,.bool E.w]) 2).run Tryz.prog W = .ok (.bool E.w) W:=by
 simp[Instr.field,go_sem];rfl
theorem Jw (H:MH) (p:Nat) (n:Int) (wr:Bool) (w:World) (h:Ga w H) (hR:Rt H.ma) (hC:Co H.ma) (hF:Oc H.ma) (hp:p<H.sp.length) (hv:(bX H.ma p).lv=true) :
  Calls Tryz.prog 116 #[.agg (bW H),.int .i64 p,.int .i64 n,.bool wr] w (Xi H p n wr w):=by
 have kT:p<H.ma.sp.length:=by rw[tQ];exact hp
 have hu:=ae (Ih (n:=n) (w:=wr) hR kT hv);have gY:=ae hF;have gN:=ae hv;clear hF hv;have o:=ae hR;have k3:=ae hC;have gc:=ae (zz hR);clear hR hC;go_enter func116,ntmps116;go_upto_region 1 with (fail);refine vg (fun W=>Code.wp _ _ _ _ W) fun w1 kx bx1 rx1 gR => ?_;have bx1:aJ w1 w.heap.size (bW H) 44:=bx1;have rx1:aJ w1 (w.heap.size+1) (bW noH) 44:=rx1;have h1:=h.below kx;clear h
 go_wp2_with (refine aC _ _ rfl w.heap.size 0 rfl rfl _ bx1.rd _ underlying44 rfl machine_size ?_)
 refine (xC H _ h1).mono ?_;rintro r w2 ⟨rfl,ka⟩;rw[GH.2 o.out];have h2:=h1.below ka;have bx2:=bx1.ext ka;have rx2:=rx1.ext ka;have ko:=ah kx ka;clear h1 bx1 rx1 kx ka gR;obtain⟨Q,hQ⟩:∃Q,H.sp[p]?=some Q:=⟨_,aN hp⟩;have kS:=ae (wh hQ);have g4:(p:Int)<(H.sp.length:Int):=by omega
 have g6:decide ((p:Int)<0)=false:=decide_eq_false (by omega);have g5:decide ((H.sp.length:Int)≤(p:Int))=false:=decide_eq_false (by omega);have hc:=bx2.cell;unfold bW at hc;obtain⟨gs,os,Q',ks,kt,ha⟩:=xz h2.sp.rd p hp;rw[hQ] at kt;cases kt;rw[ks] at hc;have gV:w2.cell? ⟨gs,os+p*10,none⟩=some (.bool true):=by
  obtain⟨b',o',e',kw⟩:=ha 0 _ rfl;cases e';have:Q.lv=true:=by have:=gN.out;rw[kS.out] at this;exact this
  rw[this] at kw;exact kw
 go_wp2_with (refine aC _ _ rfl w.heap.size 0 rfl rfl _ bx2.rd _ underlying44 rfl machine_size ?_)
 refine (uP H _ h2 gc.out).mono ?_;rintro r w3 ⟨H3,rfl,gl,hN,_,hJ⟩;have hr:=ae hN;have gM:Hid (SN H3.ma):=ae (by rw[hN];exact gc.out);have rx3:=rx2.ext hJ;have bx3:=bx2.ext hJ;have h3:=h2.below hJ;have kn:=ah ko hJ;have gk:p<H3.sp.length:=by rw[Uu (show H3.ma.sp.length=H.ma.sp.length by rw[hN])];exact hp
 clear bx2 rx2 h2 hN hc gV ha ks;unfold bW;go_upto_region 7 with (fail);refine jl (fun W=>Code.wp _ _ _ _ W) fun w4 h9 kx4 gQ => ?_;have k4:jf w4 w.heap.size w3.heap.size H3 0:=⟨kx4,kn.size,(gl.mono ko.size).below h9,fun q hq=>(SN.spz (H:=H3) gM.out hq).2⟩;have rx4:=rx3.ext h9;have bx4:=bx3.ext h9;have h4:=h3.below h9;have kI:=ah kn h9;clear hJ h9 gl ko kx4 gQ rx3 bx3 h3 kn;generalize w3.heap.size=b at k4
 go_wp2_with fail
 refine (QR H3 0 n p wr _ b _ k4 gk).mono ?_;rintro r w5 ⟨rfl,hZ⟩;rw[hr.out];have k5:=k4.below hZ;have rx5:=rx4.ext hZ;have bx5:=bx4.ext hZ;have h5:=h4.below hZ;have kH:=ah kI hZ;clear k4 rx4 bx4 h4 hZ kI
 go_wp2_with (refine aT rfl _ _ _ rfl (kE (Ev H.ma p n wr)) rfl rfl rfl jE (vJ _) ?_)
 intro w6 hY ax6;have k6:=k5.below hY;have rx6:=rx5.ext hY;have bx6:=bx5.ext hY;have h6:=h5.below hY;have hV:=ah kH hY;clear k5 rx5 bx5 h5 hY kH;generalize w5.heap.size=ga at *
 by_cases h0:mJ H.ma p n wr≠0
 ·have hl:Hid (lS H.ma p n wr=mJ H.ma p n wr):=ae (by rw[hu.out];exact if_pos h0);generalize hE:mJ H.ma p n wr=E at *
  clear k6 bx6 h6 ax6 hu
  go_wp2_with (refine ax rfl _ _ _ rfl (w.heap.size+1) (bW noH) rfl rfl _ _ rx6 rfl mach_size (eU noH) ?_)
  intro we kb a;have c:=hV.grown a hV.size (fun k hk=>by cases hk;omega);go_wp2;refine bodyPost_ret (v:=.tuple #[.agg (bW noH),.int .i64 0,.int .i64 E]) (dn results116 _ _ (w.heap.size+1) _ _ _ _ _ rfl rfl rfl kb underlying44 rfl mach_size) rfl ?_;exact⟨c,.inl ⟨by rw[hl.out];exact h0,by rw[hl.out]⟩⟩
 replace h0:=qO.1 h0;have gJ:Ev H.ma p n wr=jc H.ma p n:=by unfold Ev;rw[h0];exact if_neg (by simp)
 rw[gJ] at ax6;rw[h0];have kg:0≤fB (bX H.ma p).ar n:=by
  by_cases e:fB (bX H.ma p).ar n<0
  ·unfold mJ at h0;rw[if_pos e] at h0;cases h0
  ·omega
 have hW:Hid (lS H.ma p n wr=if 0≤(jc H.ma p n).fi∧copied H.ma p n=false∧nU H.ma.st (jc H.ma p n).fi ((jc H.ma p n).ba+n-(jc H.ma p n).fr)=true then 9 else if (kK H.ma p n wr).2<0 then 10 else (kK H.ma p n wr).1.e):=ae (by rw[hu.out,if_neg (by rw[h0];simp)]);obtain⟨g,hg⟩:∃g,fD H.ma p n=some g:=by
  have:=(BF _ _).1 kg;unfold fD;cases e:onA (bX H.ma p).ar n with
  | none=>rw[e] at this;simp at this
  | some g=>exact⟨g,rfl⟩
 have kv:=ae hg;have ki:=ae (gY.out.at kg);have kj:=ae (SG o.out.pt p n);have gU:=ae (o.out.pt.pg hg);have gE:=ae (uD hg);have gn:=ae ((BH (w:=wr) hg).1 h0);have hs:Hid (copied H.ma p n=(decide ((dB Q.tb n).k=2)||(decide ((dB Q.tb n).k=1)&&decide ((gP H.ma (dB Q.tb n).n).f<0)))):=ae (by unfold copied aL;rw[kS.out];rfl);clear gJ h0 kg hg hu;have hc:=bx6.cell;unfold bW at hc;obtain⟨gs,os,Q',ks,kt,ha⟩:=xz h6.sp.rd p hp;rw[hQ] at kt;cases kt;rw[ks] at hc;have kf:=yt h6 hQ
 go_wp2_with (refine aC _ _ rfl gs (os+p*10+2) rfl rfl _ (mW ha 2 8) _ underlying112 tab_agg tab_size ?_)
 refine (wo Q.tb (tX Q.ts) n _ kf.tb).mono ?_;rintro r w7 ⟨rfl,hI⟩;have a:Hid (aL H.ma p n=dB Q.tb n):=ae (by unfold aL;rw[kS.out];rfl);generalize hx:dB Q.tb n=x at *
 have k7:=k6.below hI;have rx7:=rx6.ext hI;have bx7:=bx6.ext hI;have ax7:=ax6.ext hI;have h7:=h6.below hI;have kG:=ah hV hI;clear k6 rx6 bx6 ax6 h6 hI hV hc ha ks kf hx
 go_wp2_with (refine aT rfl _ _ _ rfl (nI x) rfl rfl rfl entry_size (by simp[nI,Value.oneCell']) ?_)
 intro w8 hH ex8;have k8:=k7.below hH;have rx8:=rx7.ext hH;have bx8:=bx7.ext hH;have ax8:=ax7.ext hH;have h8:=h7.below hH;have kF:=ah kG hH;clear k7 rx7 bx7 ax7 h7 hH kG;generalize w7.heap.size=gx at ex8;go_upto_region 11 with (fail)
 go_cut [16] (fun s16 wx=>s16 = .bool (copied H.ma p n)∧Below w8.heap.size w8 wx)
 case first=>
  have kW:=ex8.cell;unfold nI at kW
  by_cases c2:x.k=2
  ·have hG:Hid (copied H.ma p n=true):=ae (by rw[hs.out,decide_eq_true c2];rfl);rw[c2] at kW;go_wp2;go_meet
   case rel=>exact⟨by rw[hG.out],Below.refl _ _⟩
  by_cases c1:x.k=1
  ·obtain⟨f,e1,hf,_⟩:=iG o.out (show (aL H.ma p n).k=1 by rw[a.out];exact c1);rw[a.out] at e1;obtain⟨gf,of,hz,gS⟩:=pG iO (by decide) h8.fr.rd f (show f<H.m.fs.length from hf);have g8:w8.cell? ⟨gf,of+f*13+11,none⟩=some (.int .i64 (H.m.fs[f]'hf).f):=by obtain⟨b',o',e',kw⟩:=gS 11 _ rfl;cases e';exact kw
   have gr:Hid (gP H.ma x.n=H.m.fs[f]'hf):=ae (by rw[e1];exact TG (m:=H.ma) hf);have gt:(f:Int)<(H.m.fs.length:Int):=by have:f<H.m.fs.length:=hf;omega
   generalize H.m.fs[f]'hf=X at *
   have hc:=bx8.cell;unfold bW at hc;rw[hz] at hc;clear hz;rw[c1,e1] at kW
   by_cases c3:X.f<0
   ·have hG:Hid (copied H.ma p n=true):=ae (by rw[hs.out,gr.out,decide_eq_true c1,decide_eq_true c3,decide_eq_false c2];rfl);go_wp2;go_meet
    case rel=>exact⟨by rw[hG.out],Below.refl _ _⟩
   have hG:Hid (copied H.ma p n=false):=ae (by rw[hs.out,gr.out,decide_eq_true c1,decide_eq_false c3,decide_eq_false c2];rfl);go_wp2;go_meet
   case rel=>exact⟨by rw[hG.out],Below.refl _ _⟩
  have hG:Hid (copied H.ma p n=false):=ae (by rw[hs.out,decide_eq_false c1,decide_eq_false c2];rfl);have ka:(x.k==2)=false:=by simp[c2]
  have kx:(x.k==1)=false:=by simp[c1]
  go_wp2;go_meet
  case rel=>exact⟨by rw[hG.out],Below.refl _ _⟩
 case rest=>
  obtain⟨rfl,kr⟩:=hcut;have k9:=k8.below kr;have rx9:=rx8.ext kr;have ax9:=ax8.ext kr;have kD:=ah kF kr;clear k8 rx8 bx8 ax8 h8 kr kF ex8 hs;obtain⟨A,hA⟩:∃A,Hid (A=jc H.ma p n):=⟨_,ae rfl⟩;rw[←hA.out] at ax9 hW ki kj gE;have gu:=kj.out;have gm:=gU.out;unfold qU at gu;have ge:IntKind.i64.wrap (A.ba+n)=A.ba+n:=bP _ (by omega);have gd:IntKind.i64.wrap (A.ba+n-A.fr)=A.ba+n-A.fr:=bP _ (by omega);clear gu gm;obtain⟨cp,hs⟩:∃cp,Hid (cp=copied H.ma p n):=⟨_,ae rfl⟩;rw[←hs.out] at hW ⊢;obtain⟨hM,z⟩:∃hM:Bool,Hid (hM=(decide (0≤A.fi)&&!cp&&nU H.ma.st A.fi (A.ba+n-A.fr))):=⟨_,ae rfl⟩;go_upto_region 12 with (fail)
  go_cut [109] (fun s109 wx=>s109 = .bool hM∧Below wc.heap.size wc wx)
  case first=>
   have hX:=ax9.cell;unfold kE at hX
   by_cases c1:0≤A.fi
   ·cases cp with
    | true=>
     have hD:decide (0≤A.fi)=true:=decide_eq_true c1;have hE:Hid (hM=false):=ae (by rw[z.out,hD];rfl);go_quiet (fail);go_wp2;go_meet
     case rel=>exact⟨by rw[hE.out],below_drewN (Below.refl _ _) _⟩
    | false=>
     have kR:Hid (bJ H3.fi H3.ct=H.ma.st):=ae (congrArg Ma.st hr.out);have hE:Hid (hM=nU (bJ H3.fi H3.ct) A.fi (A.ba+n-A.fr)):=ae (by rw[z.out,kR.out,decide_eq_true c1];rfl);have gt:A.fi<(H3.fi.length:Int):=by have h1:=ki.out;rw[←kR.out] at h1;have e1:(bJ H3.fi H3.ct).fs.length=H3.fi.length:=fP _;rw[e1] at h1;exact h1
     have gO:(aH (bJ H3.fi H3.ct) A.fi).n≤9223372036854775807:=by have h1:=(lU o.out.pt.st (f:=A.fi) ⟨c1,by have:=ki.out;omega⟩).2.1;rw[←kR.out] at h1;have h2:(aH (bJ H3.fi H3.ct) A.fi).n≤96:=h1;omega
     refine aP 24 [_,_,_,_,_,_,_,_,_,_,_,_,_,_,_,_,_,_,_,_,_,_,.v (.bool (nU (bJ H3.fi H3.ct) A.fi (A.ba+n-A.fr))),.v (.bool (nU (bJ H3.fi H3.ct) A.fi (A.ba+n-A.fr)))] (Gf ga 5 rfl rfl (Gl ax9 (V:=.int .i64 A.fi) (by simp[kE]) rfl rfl rfl rfl (Gb (.bool true) (by simp[go_sem,c1]) rfl rfl rfl rfl rfl (Gk rfl (Gk rfl (Gk rfl (Gk rfl (Gk rfl (Gk rfl (Gk rfl (Gf b 0 rfl rfl (Gf b 7 rfl rfl (Gr (.agg #[.slice H3.ai H3.fi.length H3.ci,.int .i64 H3.ct]) (fun ρ y W hb gX=>(bG rfl (aU rfl gX) (k9.below hb).rdS underlying40 rfl store_size)) rfl rfl (Gf ga 5 rfl rfl (Gl ax9 (V:=.int .i64 A.fi) (by simp[kE]) rfl rfl rfl rfl (Gf ga 6 rfl rfl (Gl ax9 (V:=.int .i64 A.ba) (by simp[kE]) rfl rfl rfl rfl (Gk rfl (Gb (.int .i64 (A.ba+n)) (by simp[go_sem,ge]) rfl rfl rfl rfl rfl (Gf ga 0 rfl rfl (Gl ax9 (V:=.int .i64 A.fr) (by simp[kE]) rfl rfl rfl rfl (Gb (.int .i64 (A.ba+n-A.fr)) (by simp[go_sem,gd]) rfl rfl rfl rfl rfl (aj ?_ (Gk rfl (aF))))))))))))))))))))))))) (fun _=>rfl) rfl ?_
     ·intro ρ y W hw hn hb hd;have g3:=hw 98 12 rfl;have g1:y 12=_:=hd 12 rfl;have gL:=hw 100 14 rfl;have g0:y 14=_:=hd 14 rfl;have gK:=hw 107 21 rfl;have gZ:y 21=_:=hd 21 rfl;have EF:∀f,ρ (.func f) = .func (.func f) #[] #[]:=fun f=>hn (.func f) trivial;refine aK _ _ (gB 7 93 true true rfl rfl ((hw 93 7 rfl).trans (hd 7 rfl))) (aQ rfl (EF _) func164 (by kernel_rfl) (by kernel_rfl) (by simp only[bT,bF,bI,g3,g1,gL,g0,gK,gZ,EF];rfl)) ?_;refine (Sr H3.fi H3.ct A.fi (A.ba+n-A.fr) H3.ai H3.ci W (k9.below hb).ma.rd.st ⟨c1,gt⟩ gO).mono ?_;rintro r W3 ⟨rfl,hJ⟩;exact⟨_,rfl,hJ,rfl⟩
     intro y W10 k2 _;go_wp2;go_meet
     case rel=>exact⟨by rw[hE.out],k2⟩
   have hD:decide (0≤A.fi)=false:=decide_eq_false c1;have hE:Hid (hM=false):=ae (by rw[z.out,hD];rfl);go_quiet (fail);go_wp2;go_meet
   case rel=>exact⟨by rw[hE.out],below_drewN (Below.refl _ _) _⟩
  case rest=>
   obtain⟨rfl,hy⟩:=hcut;have k10:=k9.below hy;have rx10:=rx9.ext hy;have ax10:=ax9.ext hy;have hi:=ah kD hy;clear k9 rx9 ax9 hy kD ge gd;cases hM with
   | true=>
    have hl:Hid (lS H.ma p n wr=9):=ae (by have h1:=z.out.symm;simp only[dh,decide_eq_true_eq,pJ] at h1;rw[hW.out,if_pos ⟨h1.1.1,h1.1.2,h1.2⟩]);clear k10 ax10 hW
    go_wp2_with (refine ax rfl _ _ _ rfl (w.heap.size+1) (bW noH) rfl rfl _ _ rx10 rfl mach_size (eU noH) ?_)
    intro we kb a;have c:=hi.grown a hi.size (fun k hk=>by cases hk;omega);go_wp2;refine bodyPost_ret (v:=.tuple #[.agg (bW noH),.int .i64 0,.int .i64 9]) (dn results116 _ _ (w.heap.size+1) _ _ _ _ _ rfl rfl rfl kb underlying44 rfl mach_size) rfl ?_;exact⟨c,.inl ⟨by rw[hl.out];decide,by rw[hl.out]⟩⟩
   | false=>
    have kU:Hid (¬(0≤A.fi∧cp=false∧nU H.ma.st A.fi (A.ba+n-A.fr)=true)):=ae (by rintro⟨h1,h2,h3⟩;have h4:=z.out;rw[decide_eq_true h1,h2,h3] at h4;cases h4);have gg:Hid (lS H.ma p n wr=if (kK H.ma p n wr).2<0 then 10 else (kK H.ma p n wr).1.e):=ae (by rw[hW.out,if_neg kU.out]);have hO:Hid (0≤g.fi→(aL H.ma p n).k=0→mK H.ma.st g.fi g.pg):=ae (fun h1 h2=>by
     obtain⟨a1,a2,a3,a4,a5,a6,a7⟩:=gE.out;refine BL o.out.pt.st h1 (o.out.pt.pg kv.out).1 (fun h3 => ?_);have h4:cp=false:=by rw[hs.out];unfold copied;rw[h2];rfl
     rcases h3 with h3|h3
     ·have:=ki.out;rw[a6] at this;omega
     ·exact kU.out ⟨by rw[a6];exact h1,h4,by rw[a6,a7 h1];exact h3⟩)
    have k0:=yB (k:=⟨H.ma,0⟩) o.out k3.out (p:=p) (n:=n) kT kv.out hO.out;obtain⟨gD,gC⟩:=KA o.out k3.out (w:=wr) kT kv.out (fun e=>gn.out.1 e) hO.out;have km:Hid (kK H.ma p n wr=if 0≤(fQ ⟨H.ma,0⟩ p n A).2∧wr=true∧(aL (fQ ⟨H.ma,0⟩ p n A).1.m p n).w=false then uG (fQ ⟨H.ma,0⟩ p n A).1 p n (fQ ⟨H.ma,0⟩ p n A).2 A else fQ ⟨H.ma,0⟩ p n A):=ae (by rw[hA.out];rfl);simp only[show jc (Kp.m ⟨H.ma,0⟩) p n=A from hA.out.symm] at k0;have i:=ae k0;have kM:=ae gD;have gA:=ae gC;have gF:Rt H3.ma:=by rw[hr.out];exact o.out
    have gI:Co H3.ma:=by rw[hr.out];exact k3.out
    have gb:jc H3.ma p n=A:=by rw[hr.out];exact hA.out.symm
    have gq:fD H3.ma p n=some g:=by rw[hr.out];exact kv.out
    have kA:0≤g.fi→(aL H3.ma p n).k=0→mK H3.ma.st g.fi g.pg:=by rw[hr.out];exact hO.out
    rw[←gb] at ax10;clear k0 gD gC hW hO z kU ki kj
    go_wp2_with fail
    refine (KN H3 0 n p g ga w.heap.size b _ k10 gF gI ax10 gk gq kA).mono ?_;rintro r w11 ⟨rfl,H11,e11,k11,s11,q11⟩;rw[gb] at ax10 q11 ⊢;rw[hr.out] at q11 ⊢;have rx11:=s11.blk k10 rx10 machT;have ax11:=s11.blk k10 ax10 areaT;have kq:=fC hi (s11.to k10 (az _));obtain⟨r1,gi⟩:∃r1,Hid (r1=fQ ⟨H.ma,0⟩ p n A):=⟨_,ae rfl⟩;rw[←gi.out] at q11 km i ⊢;have gz:e11=0:=(congrArg Kp.e q11).trans i.out.1;subst gz;have s:=ae (congrArg Kp.m q11);have gj:=ae q11;clear q11 s11 k10 rx10 ax10 hi gF gI gb gq kA gi;generalize hk2:r1.2=K at *
    obtain⟨hL,t⟩:∃hL:Bool,Hid (hL=(decide (0≤K)&&wr&&!(aL r1.1.m p n).w)):=⟨_,ae rfl⟩;go_upto_region 15 with (fail)
    go_cut [134] (fun s134 wx=>s134 = .bool hL∧Below w11.heap.size w11 wx)
    case first=>
     by_cases c1:0≤K
     ·have hD:decide (0≤K)=true:=decide_eq_true c1;cases wr with
      | false=>
       have l:Hid (hL=false):=ae (by rw[t.out,kZ];rfl);go_wp2;go_meet
       case rel=>exact⟨by rw[l.out],Below.refl _ _⟩
      | true=>
       have kc:p<H11.sp.length:=by have e1:H11.ma.sp.length=r1.1.m.sp.length:=congrArg (fun m:Ma=>m.sp.length) s.out;rw[tQ,i.out.2.vis.sk.len,tQ] at e1;rw[e1];exact hp
       obtain⟨Q2,gG⟩:∃Q2,H11.sp[p]?=some Q2:=⟨_,aN kc⟩;have gW:Hid (aL r1.1.m p n=dB Q2.tb n):=ae (by rw[←s.out];show dB (bX H11.ma p).tb n=_;rw[wh gG];rfl);obtain⟨g2,off2,kN,gh,ky,hP⟩:=k11.at gG;have hc:=k11.blk.cell;unfold nC at hc;rw[kN] at hc;have gT:(p:Int)<(H11.sp.length:Int):=by omega
       clear kN
       go_wp2_with (refine aC _ _ rfl g2 (off2+p*10+2) rfl rfl _ ky _ underlying112 tab_agg tab_size ?_)
       refine (wo Q2.tb (tX Q2.ts) n _ hP.tb).mono ?_;rintro r w12 ⟨rfl,j⟩;generalize dB Q2.tb n=y at *
       have g7:=WI y;have l:Hid (hL = !y.w):=ae (by rw[t.out,hD,gW.out];rfl);clear hc gh ky hP;go_wp2;go_meet
       case rel=>exact⟨by rw[l.out],j⟩
     have hD:decide (0≤K)=false:=decide_eq_false c1;have l:Hid (hL=false):=ae (by rw[t.out,hD];rfl);go_wp2;go_meet
     case rel=>exact⟨by rw[l.out],Below.refl _ _⟩
    case rest=>
     obtain⟨rfl,j⟩:=hcut;have k12:=k11.below j;have rx12:=rx11.ext j;have ax12:=ax11.ext j;have hh:=ah kq j;clear k11 rx11 ax11 j kq;go_upto_if 134 with (fail)
     go_cut [17] (fun s17 wx => ∃(HX:MH),s17 = .int .i64 (kK H.ma p n wr).2∧jf wx w.heap.size b HX 0∧aJ wx (w.heap.size+1) (bW noH) 44∧aJ wx ga (kE A) 143∧Below w.heap.size w wx∧Hid (HX.ma=(kK H.ma p n wr).1.m))
     case first=>
      cases hL with
      | false=>
       have l:Hid (kK H.ma p n wr=r1):=ae (by rw[km.out,if_neg];rintro⟨h1,h2,h3⟩;have h4:=t.out;rw[decide_eq_true h1,h2,h3] at h4;cases h4);go_wp2;go_meet
       case rel=>exact⟨H11,by rw[l.out,hk2],k12,rx12,ax12,hh,ae (by rw[l.out];exact s.out)⟩
      | true=>
       have kk:0≤K∧wr=true∧(aL r1.1.m p n).w=false:=by have h1:=t.out.symm;simp only[dh,decide_eq_true_eq,pJ] at h1;exact⟨h1.1.1,h1.1.2,h1.2⟩
       have l:Hid (kK H.ma p n wr=uG r1.1 p n K A):=ae (by rw[km.out,if_pos kk]);obtain⟨y1,y2,_⟩:=i.out.2.yes kk.1;obtain⟨f,f1,hf,_⟩:=iG i.out.2.rt y1;have ku:K=(f:Int):=by rw[←y2,f1]
       have kc:p<H11.sp.length:=by have e1:H11.ma.sp.length=r1.1.m.sp.length:=congrArg (fun m:Ma=>m.sp.length) s.out;rw[tQ,i.out.2.vis.sk.len,tQ] at e1;rw[e1];exact hp
       have gw:f<H11.m.fs.length:=by have e1:H11.m.fs.length=r1.1.m.m.fs.length:=congrArg (fun m:Ma=>m.m.fs.length) s.out;rw[e1];exact hf
       have hj:=zz i.out.2.rt;rw[←s.out] at hj;have kO:H11.sp.length≤1000∧H11.ca.length≤1000∧H11.m.fs.length≤1000:=⟨by have:=hj.sp.1;rwa [show (Kp.m ⟨H11.ma,0⟩).sp.length=H11.sp.length from tQ H11] at this,hj.ca,hj.fs⟩;clear kk hj y1 y2 f1 hf t;subst ku
       go_wp2_with fail
       refine (RQ H11 0 n p f A ga w.heap.size b _ k12 ax12 kc gw kO.1 kO.2.1 kO.2.2).mono ?_;rintro r w13 ⟨rfl,H13,e13,k13,s13,q13⟩;rw[gj.out] at q13 ⊢;have rx13:=s13.blk k12 rx12 machT;have ax13:=s13.blk k12 ax12 areaT;have kY:=fC hh (s13.to k12 (az _));rw[←l.out] at q13 ⊢;have gy:e13=0:=(congrArg Kp.e q13).trans kM.out;subst gy;have gp:=ae (congrArg Kp.m q13);clear q13 s13 k12 rx12 ax12 hh;go_wp2;go_meet
       case rel=>exact⟨H13,rfl,k13,rx13,ax13,kY,gp⟩
     case rest=>
      clear k12 rx12 ax12 hh;obtain⟨HX,rfl,kX,rxX,axX,hT,kV⟩:=hcut;generalize hK:(kK H.ma p n wr).2=K2
      by_cases c1:K2<0
      ·have hl:Hid (lS H.ma p n wr=10):=ae (by rw[gg.out,hK,if_pos c1]);clear kX axX
       go_wp2_with (refine ax rfl _ _ _ rfl (w.heap.size+1) (bW noH) rfl rfl _ _ rxX rfl mach_size (eU noH) ?_)
       intro we kb a;have c:=hT.grown a hT.size (fun k hk=>by cases hk;omega);go_wp2;refine bodyPost_ret (v:=.tuple #[.agg (bW noH),.int .i64 0,.int .i64 10]) (dn results116 _ _ (w.heap.size+1) _ _ _ _ _ rfl rfl rfl kb underlying44 rfl mach_size) rfl ?_;exact⟨c,.inl ⟨by rw[hl.out];decide,by rw[hl.out]⟩⟩
      have kQ:Hid (lS H.ma p n wr=0):=ae (by rw[gg.out,hK,if_neg c1];exact kM.out);have hU:=gA.out.1 (by rw[hK];omega);obtain⟨F,f1,hf,_⟩:=iG hU.rt hU.k1;have ku:K2=(F:Int):=by rw[←hK,←hU.en,f1]
      have gv:F<HX.m.fs.length:=by have e1:HX.m.fs.length=(kK H.ma p n wr).1.m.m.fs.length:=congrArg (fun m:Ma=>m.m.fs.length) kV.out;rw[e1];exact hf
      have kP:Hid (tC H.ma p n wr=(F:Int)):=ae (by rw[←ku,←hK];unfold tC;rw[bD]);have hB:Hid (oW H.ma p n wr=(if (wr&&A.sh)=true then setFr (setFr HX.ma F (jT (aD HX.ma F))) F (jF (aD (setFr HX.ma F (jT (aD HX.ma F))) F) (aD (setFr HX.ma F (jT (aD HX.ma F))) F).p true) else setFr HX.ma F (jT (aD HX.ma F)))):=ae (by unfold oW Fh;simp only[bD];rw[hK,ku,bD,←hA.out,kV.out]);have gH:(F:Int)<(HX.m.fs.length:Int):=by omega
      subst ku;clear hK hU f1 hf;obtain⟨gf,of,cur,hz,ht,kh,ha,hm⟩:=kX.frPut gv;have hc:=kX.blk.cell;unfold nC at hc;rw[hz] at hc;clear hz ha
      go_wp2_with (refine bz rfl _ _ _ rfl gf (of+F*13+9) _ [.bool true] rfl rfl rfl _ _ ht (by simp;omega) uR (fun u hu=>by cases bN.1 hu;rfl) ?_)
      intro w14 kL kC;obtain⟨k14,s14⟩:=hm 9 1 [.bool true] (jT (aD HX.ma F)) w14 rfl (by decide) rfl kL kC;have s14:=s14 _ _ (KS.refl _ _ _);have rx14:=s14.blk kX rxX machT;have ax14:=s14.blk kX axX areaT;have d:=fC hT (s14.to kX (az _));have kz:Hid (MH.ma { HX with m:=⟨HX.m.fs.set F (jT (aD HX.ma F)),HX.m.hand⟩ }=setFr HX.ma F (jT (aD HX.ma F))):=ae rfl;rw[←kz.out] at hB;have hS:F<(HX.m.fs.set F (jT (aD HX.ma F))).length:=by rw[dM];exact gv
      clear hc s14 kX rxX axX hT ht kh hm kL kC;generalize hH14:({ HX with m:=⟨HX.m.fs.set F (jT (aD HX.ma F)),HX.m.hand⟩ }:MH)=H14 at *
      have hS:F<H14.m.fs.length:=by rw[←hH14];exact hS
      clear hH14 kz kV;have hX:=ax14.cell;unfold kE at hX;cases wr with
      | false=>
       have kd:H14.ma=oW H.ma p n false:=by rw[hB.out];exact (if_neg (by simp)).symm
       have kl:=k14.blk.cell;unfold nC at kl
       go_wp2_with (first | (refine aC _ _ rfl b 0 rfl rfl (bW H14).toList (cz k14.blk 0 11) _ underlying44 rfl machine_size ?_) | (refine ax rfl _ _ _ rfl (w.heap.size+1) (bW H14) rfl rfl _ _ rx14 rfl mach_size (eU _) ?_))
       intro we rxe a;have c:=d.grown a d.size (fun k hk=>by cases hk;omega);have ke:=k14.ma.keep rx14 (by decide) a;go_wp2;refine bodyPost_ret (v:=.tuple #[.agg (bW H14),.int .i64 F,.int .i64 0]) (dn results116 _ _ (w.heap.size+1) _ _ _ _ _ rfl rfl rfl rxe underlying44 rfl mach_size) rfl ?_;exact⟨c,.inr ⟨kQ.out,_,by rw[kP.out],ke,kd⟩⟩
      | true=>
       cases hsh:A.sh with
       | false=>
        rw[hsh] at hX hB;have kd:H14.ma=oW H.ma p n true:=by rw[hB.out];exact (if_neg (by simp)).symm
        have kl:=k14.blk.cell;unfold nC at kl
        go_wp2_with (first | (refine aC _ _ rfl b 0 rfl rfl (bW H14).toList (cz k14.blk 0 11) _ underlying44 rfl machine_size ?_) | (refine ax rfl _ _ _ rfl (w.heap.size+1) (bW H14) rfl rfl _ _ rx14 rfl mach_size (eU _) ?_))
        intro we rxe a;have c:=d.grown a d.size (fun k hk=>by cases hk;omega);have ke:=k14.ma.keep rx14 (by decide) a;go_wp2;refine bodyPost_ret (v:=.tuple #[.agg (bW H14),.int .i64 F,.int .i64 0]) (dn results116 _ _ (w.heap.size+1) _ _ _ _ _ rfl rfl rfl rxe underlying44 rfl mach_size) rfl ?_;exact⟨c,.inr ⟨kQ.out,_,by rw[kP.out],ke,kd⟩⟩
       | true=>
        rw[hsh] at hX hB;obtain⟨gf,of,cur,hz,ht,kh,ha,hm⟩:=k14.frPut hS;have hc:=k14.blk.cell;unfold nC at hc;rw[hz] at hc;have gH:(F:Int)<(H14.m.fs.length:Int):=by omega
        clear hz ha
        go_wp2_with (refine bz rfl _ _ _ rfl gf (of+F*13+10) _ [.bool true] rfl rfl rfl _ _ ht (by simp;omega) uR (fun u hu=>by cases bN.1 hu;rfl) ?_)
        intro w15 kJ kB;obtain⟨k15,s15⟩:=hm 10 1 [.bool true] (jF (aD H14.ma F) (aD H14.ma F).p true) w15 rfl (by decide) rfl kJ kB;have s15:=s15 _ _ (KS.refl _ _ _);have rx15:=s15.blk k14 rx14 machT;have kp:=fC d (s15.to k14 (az _));have kd:Hid (MH.ma { H14 with m:=⟨H14.m.fs.set F (jF (aD H14.ma F) (aD H14.ma F).p true),H14.m.hand⟩ }=oW H.ma p n true):=ae (by rw[hB.out];exact (if_pos (by simp)).symm);clear hc s15 k14 rx14 ax14 d ht kh hm kJ kB hX hB hS gH;generalize ({ H14 with m:=⟨H14.m.fs.set F (jF (aD H14.ma F) (aD H14.ma F).p true),H14.m.hand⟩ }:MH)=H15 at *
        have kl:=k15.blk.cell;unfold nC at kl
        go_wp2_with (first | (refine aC _ _ rfl b 0 rfl rfl (bW H15).toList (cz k15.blk 0 11) _ underlying44 rfl machine_size ?_) | (refine ax rfl _ _ _ rfl (w.heap.size+1) (bW H15) rfl rfl _ _ rx15 rfl mach_size (eU _) ?_))
        intro we rxe a;have c:=kp.grown a kp.size (fun k hk=>by cases hk;omega);have ke:=k15.ma.keep rx15 (by decide) a;go_wp2;refine bodyPost_ret (v:=.tuple #[.agg (bW H15),.int .i64 F,.int .i64 0]) (dn results116 _ _ (w.heap.size+1) _ _ _ _ _ rfl rfl rfl rxe underlying44 rfl mach_size) rfl ?_;exact⟨c,.inr ⟨kQ.out,_,by rw[kP.out],ke,kd.out⟩⟩
structure Cl where
 k:Int
 p:Int
 a:Int
 n:Int
 f:Int
 b:Int
 rd:Bool
 wr:Bool
 sh:Bool
 da:List UInt8
structure An where
 e:Int
 n:Int
 da:List UInt8
 deriving DecidableEq
def kJ (e:Int):An:=⟨e,0,[]⟩
def setAr (m:Ma) (p:Nat) (l:List Ar):Ma:={ m with sp:=m.sp.set p { bX m p with ar:=l } }
def TN (r:Kp × Int):Int:=if r.2=0 then r.1.e else r.2
def Wp (m:Ma) (r:Kp × Int) (n:Int) (d:List UInt8):Ma × An:=if TN r=0 then (r.1.m,⟨0,n,d⟩) else (m,kJ (TN r))
def LC (ar:List Ar) (c:Cl):Int:=if c.a<0 then qE ar c.n else c.a
def rX (m:Ma) (p:Nat) (c:Cl):Ma × An:=
 let ar:=(bX m p).ar;let a:=LC ar c
 if a<0∨64≤a∨c.n<1∨64-a<c.n∨c.f < -1 then (m,kJ 3)
 else if (m.st.fs.length:Int)≤c.f then (m,kJ 5)
 else
  let x:Ar:=⟨a,a+c.n,c.rd,c.wr,c.sh,c.f,c.b⟩
  if lK ar x≠0 then (m,kJ (lK ar x)) else (setAr m p (iD ar x),⟨0,a,[]⟩)
def UI (m:Ma) (p:Nat) (c:Cl):Ma × An:=
 let ar:=(bX m p).ar
 if QL ar c.a c.n≠0 then (m,kJ (QL ar c.a c.n))
 else
  let k:=Qv ⟨m,0⟩ p c.a c.n
  Wp m (⟨setAr k.m p (We ar c.a c.n),k.e⟩,0) 0 []
def Ve (k:Kp) (p:Nat) (wr:Bool) (a:Int):Nat→Kp
 | 0=>k
 | j+1=>
  let k:=Ve k p wr a j;let e:=aL k.m p (a+j)
  if e.w=true∧wr=false then dK k p (a+j) ⟨e.k,e.n,false⟩ else k
def Tz (m:Ma) (p:Nat) (c:Cl):Ma × An:=
 let ar:=(bX m p).ar
 if Qx ar c.a c.n c.rd c.wr≠0 then (m,kJ (Qx ar c.a c.n c.rd c.wr))
 else Wp m (Ve ⟨setAr m p (Ww ar c.a c.n c.rd c.wr),0⟩ p c.wr c.a c.n.toNat,0) 0 []
def xx (m:Ma) (x:Fr) (e:Int):Bool:=decide (0≤x.f)&&decide ((aH m.st x.f).n<x.i*8+e)
def jU (m:Ma) (c:Cl) (n:Int) (w:Bool):Ma × An:=
 if ny c.a n=false then (m,kJ 2)
 else if lS m c.p (c.a / 8) w≠0 then (m,kJ (lS m c.p (c.a / 8) w))
 else
  let m1:=oW m c.p (c.a / 8) w;let f:=(tC m c.p (c.a / 8) w).toNat;let x:=aD m1 f
  if xx m1 x (c.a%8+n)=true then (m,kJ 9)
  else if w=true then (setFr m1 f { x with p:=dw x.p (c.a%8) c.da },⟨0,n,[]⟩)
  else (m1,⟨0,n,qW x.p (c.a%8) n⟩)
def UT (f:Int) (tq:Int):Nat→Kp→Int→List UInt8→Kp × Int × List UInt8
 | 0,k,_,o=>(k,0,o)
 | t+1,k,at_,o=>
  if tq≤at_ then (k,0,o) else
  let r:=eQ k f (at_ / 8)
  if r.2<0 then (r.1,10,o) else
  let n:=min (8-at_%8) (tq-at_)
  UT f tq t r.1 (at_+n) (o++qW (aD r.1.m r.2.toNat).p (at_%8) n)
def WK (s:Int) (c:Cl):Int:=min c.a s
def toC (s:Int) (c:Cl):Int:=min c.a s+min c.n (s-min c.a s)
def Xt (m:Ma) (c:Cl):Ma × An:=
 if c.a<0∨c.n<0 then (m,kJ 3) else
 let s:=(aH m.st c.f).n;let r:=UT c.f (toC s c) 13 ⟨m,0⟩ (WK s c) []
 Wp m (r.1,r.2.1) r.2.2.length r.2.2
def Wv (f:Int):Nat→Kp→Int→List UInt8→Kp × Int
 | 0,k,_,_=>(k,0)
 | t+1,k,at_,b=>
  if b.length=0 then (k,0) else
  let r:=eQ k f (at_ / 8)
  if r.2<0 then (r.1,10) else
  let n:=min (8-at_%8) b.length;let x:=aD r.1.m r.2.toNat
  Wv f t ⟨setFr r.1.m r.2.toNat (jF x (dw x.p (at_%8) (b.take n.toNat)) true),r.1.e⟩ (at_+n) (b.drop n.toNat)
def Xn (k:Kp) (c:Cl):Kp × Int:=
 let e:=c.a+c.da.length;let r:=if (aH k.m.st c.f).n<e then Vi k c.f e else (k,0)
 if r.2≠0 then r else Wv c.f 13 r.1 c.a c.da
def Xp (m:Ma) (c:Cl):Ma × An:=
 if c.a<0∨96<c.a∨96-c.a<c.da.length then (m,kJ 3)
 else if c.da.length=0 then (m,kJ 0)
 else Wp m (Xn ⟨m,0⟩ c) c.da.length []
def WY (m:Ma) (c:Cl):Ma × An:=if c.n<0∨96<c.n then (m,kJ 3) else Wp m (Vi ⟨m,0⟩ c.f c.n) 0 []
theorem ans_size:(Tryz.prog.info? 52).map (·.size)=some 3:=by kernel_rfl
structure oN (w:World) (B b:Nat) (H:MH):Prop where
 blk:aJ w b (bW H) 92
 ge:B≤b
 ma:qc w B H
theorem oN.below (h:oN w B b H) (hb:Below w.heap.size w w'):oN w' B b H:=⟨h.blk.ext hb,h.ge,h.ma.below hb⟩
theorem oN.bs (h:oN w B b H):B≤w.heap.size:=aV h.ge (wI h.blk.lt)
def fT (e n:Int) (d:Value):Array Value:=#[.int .i64 e,.int .i64 n,d]
def nilV:Value:=.slice none 0 0
theorem bR (e n:Int) (a:Option Addr) (l c:Nat):(fT e n (.slice a l c)).all (·.oneCell')=true:=by simp[fT,Value.oneCell']
theorem Il (h:Below w.heap.size w w1):w.grownBy w1 (some b):=⟨h.os,h.tape,h.output,h.size,fun i hi _=>h.block i hi⟩
theorem eT (h:w.grownBy w1 (some b)) (k:Below w1.heap.size w1 w2):w.grownBy w2 (some b):=
 ⟨k.os.trans h.os,k.tape.trans h.tape,k.output.trans h.output,aV h.size k.size,fun i hi hn=>(k.block i (nM hi h.size)).trans (h.block i hi hn)⟩
theorem fG (h:w.grownBy w1 (some b)) (k:w1.grownBy w2 (some g)) (hg:w.heap.size≤g):w.grownBy w2 (some b):=
 ⟨k.os.trans h.os,k.tape.trans h.tape,k.output.trans h.output,aV h.size k.size,fun i hi hn=>(k.block i (nM hi h.size) (fun e=>by cases e;omega)).trans (h.block i hi hn)⟩
theorem tJ (h:w.grownBy w1 (some b)) (k:w1.grownBy w2 (some b)):w.grownBy w2 (some b):=
 ⟨k.os.trans h.os,k.tape.trans h.tape,k.output.trans h.output,aV h.size k.size,fun i hi hn=>(k.block i (nM hi h.size) hn).trans (h.block i hi hn)⟩
def Xu (w:World) (B b:Nat) (m:Ma) (w' : World):Prop:=w.grownBy w' (some b)∧∃H' : MH,oN w' B b H'∧H'.ma=m
def setM (m:Ma) (x:Ma) (e:Int):Ma:=if e=0 then x else m
theorem yU (H H1:MH) (e:Int) (B b:Nat) (w:World) (h:oN w B b H) (h1:qc w B H1) :
  Calls Tryz.prog 69 #[.pointer (some ⟨b,0,none⟩),.agg (bW H1),.int .i64 e] w fun r w'=>r = .returned (.agg (fT e 0 nilV))∧Xu w B b (setM H.ma H1.ma e) w':=by
 go_enter func69,ntmps69;go_upto_region 1 with (fail);refine vg (fun W=>Code.wp _ _ _ _ W) fun w1 f mx1 ax1 j => ?_;have k1:=h.below f;have m1:=h1.below f;have g:w.grownBy w1 (some b):=Il f;have mx1:aJ w1 w.heap.size (bW H1) 44:=mx1;have l:=h.blk.lt;clear h h1 f j
 by_cases h0:e=0
 ·subst h0;have hq:Hid (setM H.ma H1.ma 0=H1.ma):=ae (if_pos rfl)
  go_wp2_with (first | (refine aC _ _ rfl w.heap.size 0 rfl rfl (bW H1).toList mx1.rd _ underlying44 rfl mach_size ?_) | (refine ax rfl _ _ _ rfl b (bW H1) rfl rfl _ _ k1.blk rfl mach_size (eU _) ?_))
  intro w2 kx2 d;have m2:=m1.keep k1.blk (by decide) d;have ax2:=aG ax1 k1.blk (by decide) d;have i:=tJ g d;have k:=k1.ge;clear k1 m1 ax1 g mx1 d
  go_wp2_with (refine ax rfl _ _ _ rfl (w.heap.size+1) (fT 0 0 nilV) rfl rfl _ _ ax2 rfl ans_size (bR _ _ _ _ _) ?_)
  intro w3 ax3 a;have c:=fG i a (GY _);have k3:oN w3 B b H1:=⟨aG kx2 ax2 (by decide) a,k,m2.keep ax2 (by decide) a⟩;go_wp2;refine bodyPost_ret (v:=.agg (fT 0 0 nilV)) (aY results69 _ _ (w.heap.size+1) _ _ _ rfl ax3 underlying52 rfl ans_size) rfl ?_;exact⟨rfl,c,H1,k3,hq.out.symm⟩
 have hq:Hid (setM H.ma H1.ma e=H.ma):=ae (if_neg h0)
 go_wp2_with (refine ax rfl _ _ _ rfl (w.heap.size+1) (fT e 0 nilV) rfl rfl _ _ ax1 rfl ans_size (bR _ _ _ _ _) ?_)
 intro w3 ax3 a;have c:=fG g a (GY _);have k3:oN w3 B b H:=⟨aG k1.blk ax1 (by decide) a,k1.ge,k1.ma.keep ax1 (by decide) a⟩;go_wp2;refine bodyPost_ret (v:=.agg (fT e 0 nilV)) (aY results69 _ _ (w.heap.size+1) _ _ _ rfl ax3 underlying52 rfl ans_size) rfl ?_;exact⟨rfl,c,H,k3,hq.out.symm⟩
theorem TB {f : FuncId} {fn : Func} (hf : P.funcs[f]? = some fn) (hn : (fn.name == "runtime.NumGoroutine") = false) (hb : fn.body.isNone = false) (args : Array Value) (w : World) : (callFunc f args).run P w = .ok (.enter f args) w := by
 have a : ¬ fn.name = "runtime.NumGoroutine" := by simpa using hn
 have b : ¬fn.body=none:=fun h=>by simp[h] at hb
 unfold callFunc;simp[hf,a,b]
theorem jf.mono {e:Int} (h:jf w B b H e) (hB:B'≤B):jf w B' b H e:=⟨h.blk,aV hB h.ge,h.ma.mono hB,h.tz⟩
def Wj (fid:FuncId) (caps:Array Value) (w:World) (B:Nat) (m:Ma) (R:Kp × Int):Prop:=
 (∀args W,(callFunc fid args).run Tryz.prog W = .ok (.enter fid args) W)∧∀(W:World) (H1:MH) (b1:Nat),Below w.heap.size w W→jf W w.heap.size b1 H1 0→H1.ma=m →
  Calls Tryz.prog fid (#[.pointer (some ⟨b1,0,none⟩)]++caps) W fun r w'=>r = .returned (.int .i64 R.2)∧∃(H2:MH) (e2:Int),jf w' B b1 H2 e2∧KS W b1 H1 w' H2∧Kp.mk H2.ma e2=R.1
theorem ansT:52≠192∧52≠132∧52≠124∧52≠114:=by decide
theorem IL (H:MH) (fid:FuncId) (caps:Array Value) (R:Kp × Int) (B b:Nat) (w:World) (h:oN w B b H) (hz:SN H.ma) (hf:Wj fid caps w B H.ma R) :
  Calls Tryz.prog 107 #[.pointer (some ⟨b,0,none⟩),.func (.func fid) #[] caps] w fun r w'=>r = .returned (.agg (fT (TN R) 0 nilV))∧Xu w B b (setM H.ma R.1.m (TN R)) w':=by
 go_enter func107,ntmps107;go_upto_region 1 with (fail);refine jl (fun W=>Code.wp _ _ _ _ W) fun w1 t ax1 hh => ?_;have k1:=h.below t;have hj:=ae h.bs;have z:=ae hz;have hb:b≠w.heap.size:=by have:=h.blk.lt;omega
 have h':=ae h;clear h hh hz
 go_wp2_with (refine aC _ _ rfl b 0 rfl rfl (bW H).toList k1.blk.rd _ underlying44 rfl mach_size ?_)
 refine (uP H _ k1.ma.rd z.out).mono ?_;rintro r w2 ⟨H2,rfl,ha,u,_,y⟩;have hc:=ae u;have ax2:=ax1.ext y;have p:=ah t y;clear k1 ax1 u;unfold bW;go_upto_region 2 with (fail);refine jl (fun W=>Code.wp _ _ _ _ W) fun w3 s kx3 hg => ?_;have p3:jf w3 w.heap.size w2.heap.size H2 0:=⟨kx3,p.size,(ha.mono t.size).below s,fun q hq=>(SN.spz (H:=H2) (by rw[hc.out];exact z.out) hq).2⟩;have ax3:=ax2.ext s;have o:=ah p s;clear t y s ha p kx3 hg ax2;generalize w2.heap.size=b1 at p3;have l:=hf.2 w3 H2 b1 o p3 hc.out;have hi:=hf.1
 go_wp2_with fail
 refine l.mono ?_;rintro r w4 ⟨rfl,H4,e4,p4,s4,q4⟩;have ax4:=s4.blk p3 ax3 ansT;have n:=fC o (s4.to p3 (az _));have k4:=h'.out.below n;have d:w.grownBy w4 (some b):=Il n;have hd:Hid (H4.ma=R.1.m):=ae (congrArg Kp.m q4);have x:e4=R.1.e:=congrArg Kp.e q4;clear l hi hf p3 s4 q4 ax3 o n
 by_cases h0:R.2=0
 ·have hq:Hid (TN R=e4):=ae (by unfold TN;rw[if_pos h0,x]);rw[h0];clear x h0;have k:=p4.blk.cell;unfold nC at k
  go_wp2_with (refine aC _ _ rfl b1 0 rfl rfl (bW H4).toList (cz p4.blk 0 11) _ underlying44 rfl mach_size ?_)
  refine (yU H H4 e4 B b _ k4 p4.ma).mono ?_;rintro r w5 ⟨rfl,c,H5,k5,g⟩;have f:=ae g;have ax5:=ax4.grown c (fun e=>hb (aS e));have j:=tJ d c;clear p4 k4 ax4 c g k d
  go_wp2_with (refine ax rfl _ _ _ rfl w.heap.size (fT e4 0 nilV) rfl rfl _ _ ax5 rfl ans_size (bR _ _ _ _ _) ?_)
  intro w6 ax6 a;have i:=fG j a (az _);have k6:oN w6 B b H5:=⟨aG k5.blk ax5 (by decide) a,k5.ge,k5.ma.keep ax5 (by decide) a⟩;go_wp2;refine bodyPost_ret (v:=.agg (fT e4 0 nilV)) (aY results107 _ _ w.heap.size _ _ _ rfl ax6 underlying52 rfl ans_size) rfl ?_;exact⟨by rw[hq.out],i,H5,k6,by rw[f.out,hq.out,←hd.out]⟩
 have hq:Hid (TN R=R.2):=ae (by unfold TN;rw[if_neg h0]);clear x;generalize R.2=er at *
 have k:=p4.blk.cell;unfold nC at k
 go_wp2_with (refine aC _ _ rfl b1 0 rfl rfl (bW H4).toList (cz p4.blk 0 11) _ underlying44 rfl mach_size ?_)
 refine (yU H H4 er B b _ k4 p4.ma).mono ?_;rintro r w5 ⟨rfl,c,H5,k5,g⟩;have f:=ae g;have ax5:=ax4.grown c (fun e=>hb (aS e));have j:=tJ d c;clear p4 k4 ax4 c g k d
 go_wp2_with (refine ax rfl _ _ _ rfl w.heap.size (fT er 0 nilV) rfl rfl _ _ ax5 rfl ans_size (bR _ _ _ _ _) ?_)
 intro w6 ax6 a;have i:=fG j a (az _);have k6:oN w6 B b H5:=⟨aG k5.blk ax5 (by decide) a,k5.ge,k5.ma.keep ax5 (by decide) a⟩;go_wp2;refine bodyPost_ret (v:=.agg (fT er 0 nilV)) (aY results107 _ _ w.heap.size _ _ _ rfl ax6 underlying52 rfl ans_size) rfl ?_;exact⟨by rw[hq.out],i,H5,k6,by rw[f.out,hq.out,←hd.out]⟩
def uh (x:Int):Prop:=-9223372036854775808≤x∧x≤9223372036854775807
def mM (c:Cl) (a:Option Addr) (cap:Nat):Array Value:=#[.int .i64 c.k,.int .i64 c.p,.int .i64 c.a,.int .i64 c.n,.int .i64 c.f,.int .i64 c.b,.bool c.rd,.bool c.wr,.bool c.sh,.slice a c.da.length cap]
structure QM (w:World) (B gc gp:Nat) (c:Cl) (a:Option Addr) (cap:Nat):Prop where
 blk:aJ w gc (mM c a cap) 25
 ptr:aJ w gp #[.pointer (some ⟨gc,0,none⟩)] 94
 bs:B≤w.heap.size
 rd:∀W,Below B w W→eB W a (c.da.map oG)
 le:c.da.length≤cap
 mx:cap≤maxLen
 nl:a=none→cap=0
theorem QM.below {c:Cl} (h:QM w B gc gp c a cap) (hb:Below w.heap.size w w'):QM w' B gc gp c a cap:=⟨h.blk.ext hb,h.ptr.ext hb,aV h.bs hb.size,fun W k=>h.rd W (fC (hb.mono h.bs) k),h.le,h.mx,h.nl⟩
theorem Wu (hg:w.grownBy w' (some g)) (hB:B≤g) (hs:B≤w.heap.size):Below B w w':=(Below.refl B w).grown hg hs fun k hk=>by cases hk;exact hB
theorem QM.keep {c:Cl} (h:QM w B gc gp c a cap) (hk:aJ w g cs T) (h1:T≠25) (h2:T≠94) (hB:B≤g) (hg:w.grownBy w' (some g)):QM w' B gc gp c a cap:=
 ⟨aG h.blk hk h1 hg,aG h.ptr hk h2 hg,aV h.bs hg.size,fun W k=>h.rd W (fC (Wu hg hB h.bs) k),h.le,h.mx,h.nl⟩
theorem QM.cell {c:Cl} (h:QM w B gc gp c a cap):∀o,w.cell? ⟨gc,o,none⟩=(mM c a cap)[o]?:=h.blk.cell
def WW (w:World) (B b:Nat) (X:Ma × An) (r:Ending) (w' : World):Prop:=∃d,r = .returned (.agg (fT X.2.e X.2.n d))∧Own w' w.heap.size 5 1 d X.2.da.length (X.2.da.map oG)∧Xu w B b X.1 w'
theorem oN.keepT (h:oN w B b H) (hk:aJ w g cs T) (h1:T≠92)
 (hT:T≠132∧T≠3∧T≠100∧T≠186∧T≠98∧T≠124∧T≠114∧T≠143∧T≠129) (hg:w.grownBy w' (some g)):oN w' B b H:=⟨aG h.blk hk h1 hg,h.ge,h.ma.keep hk hT hg⟩
theorem jf.putA {e:Int} (h:jf w B b H e) {P:PS} (hP:H.sp[p]?=some P) :
  ∃g off cur,H.ap=some ⟨g,off,none⟩∧B≤g∧aJ w g cur 114∧off+p*10+10≤cur.size ∧
   ∀(w' : World) (a:Option Addr) (c:Nat) (l:List Ar),Own w B 143 7 (.slice a l.length c) l.length (l.flatMap fA)→aJ w' g (dF cur (off+p*10+1) [.slice a l.length c]) 114→w.grownBy w' (some g) →
    jf w' B b { H with sp:=H.sp.set p { P with aa:=a,ac:=c,ar:=l } } e∧∀w0 H0,KS w0 b H0 w H→KS w0 b H0 w' { H with sp:=H.sp.set p { P with aa:=a,ac:=c,ar:=l } }:=by
 have hp:=(dx.1 hP).1;obtain⟨g,off,cur,k,hB,f,n,m⟩:=h.putP hp;obtain⟨g',off',i,o,v,q⟩:=h.at hP;rw[k] at i;cases i;have t:∀j u,(zw P)[j]?=some u→cur[off+p*10+j]?=some u:=fun j u hj=>by obtain⟨b',o',e',r⟩:=o j u hj;cases e';rw[←f.cell];exact r
 have d:=dm hP;refine⟨g,off,cur,k,hB,f,n,fun w' a c l ho hb hg=>⟨m w' { P with aa:=a,ac:=c,ar:=l } ho (h.ma.ps P d).2 (h.tz P d) ?_ hg,fun w0 H0 s=>s.put hg (.inr (.inr (.inr (by rw[k];rfl)))) fun y hy => .inl (zl rfl rfl rfl hy)⟩⟩;rw[xG cur (off+p*10) 1 1 (zw P) (zw { P with aa:=a,ac:=c,ar:=l }) [.slice a l.length c] t rfl rfl (by rw[wX];decide) (by rw[wX];omega)];exact hb
theorem TH {P:PS} (hP:H.sp[p]?=some P) (a:Option Addr) (c:Nat) (l:List Ar):MH.ma { H with sp:=H.sp.set p { P with aa:=a,ac:=c,ar:=l } }=setAr H.ma p l:=by
 rw[TT];unfold JM setAr;rw[wh hP];rfl
theorem asl_size:(Tryz.prog.info? 80).map (·.size)=some 1:=by kernel_rfl
theorem Ak : (Tryz.prog.info? 114).map (·.size)=some 10:=by kernel_rfl
structure VW (w:World) (B gl:Nat) (l:List Ar) (al:Option Addr) (cl:Nat):Prop where
 blk:aJ w gl #[.slice al l.length cl] 80
 own:Own w B 143 7 (.slice al l.length cl) l.length (l.flatMap fA)
theorem VW.below {l:List Ar} (h:VW w B gl l al cl) (hb:Below w.heap.size w w'):VW w' B gl l al cl:=⟨h.blk.ext hb,h.own.below hb⟩
theorem Ls (c:Cl) (a:Option Addr) (cap gc gp gl B P:Nat) (l:List Ar) (al:Option Addr) (cl:Nat) (w:World) (hB:B≤w.heap.size) (h:QM w B gc gp c a cap) (hl0:VW w B gl l al cl) (hp:c.p=P) (hpl:P<m.sp.length) :
  Wj 108 #[.pointer (some ⟨gl,0,none⟩),.pointer (some ⟨gp,0,none⟩)] w B m (⟨setAr m P l,0⟩,0):=by
 refine⟨fun args W=>TB func108 (by kernel_rfl) (by kernel_rfl) args W,fun W H1 b1 hb h1 hm => ?_⟩;have hc:=h.below hb;have hl:=hl0.below hb;have h1:=h1.mono hB;have s1:=KS.refl W b1 H1;subst hm;rw[tQ] at hpl;have hv:c.p=(P:Int):=hp;clear h hl0 hb hp;go_enter func108,ntmps108;go_upto_region 1 with (fail);obtain⟨PP,r⟩:∃PP,H1.sp[P]?=some PP:=⟨_,aN hpl⟩;obtain⟨gs,os,cur,hj,_,_,_,_⟩:=h1.putA r;refine vR 12 13 [] [gI (.pointer (some ⟨b1,0,none⟩)),gI (.pointer (some ⟨b1,0,none⟩)),gI (.pointer (some ⟨b1,0,none⟩)),gI (.pointer (some ⟨b1,10,none⟩)),gI (.slice (some ⟨gs,os,none⟩) H1.sp.length H1.cp),gI (.pointer (some ⟨gc,0,none⟩)),gI (.pointer (some ⟨gc,0,none⟩)),gI (.pointer (some ⟨gc,1,none⟩)),gI (.int .i64 (P:Int)),gI (.slice al l.length cl),gI (.pointer (some ⟨gs,os+P*10,none⟩)),gI (.pointer (some ⟨gs,os+P*10+1,none⟩))] (by kernel_rfl) (by kernel_rfl) (by kernel_rfl) (by kernel_rfl) (by kernel_rfl) (by kernel_rfl) (by decide) (by decide) _ rfl (by kernel_rfl) (aj ?_ (aj ?_ (aj ?_ (aj ?_ (aj ?_ (aj ?_ (aj ?_ (aj ?_ (aj ?_ (aj ?_ (aj ?_ (aj ?_ (aF))))))))))))) (aF) rfl ?_
 ·refine aB rfl ?_;intro ρ y W hw hn hb hd;have E0:ρ (.tmp 0) = .pointer (some ⟨b1,0,none⟩):=(hn (.tmp 0) rfl).trans rfl;refine ak (.pointer (some ⟨b1,0,none⟩)) (ag rfl) (run_move (.inl rfl) E0) rfl
 ·refine aB rfl ?_;intro ρ y W hw hn hb hd;have E5:=hw 5 0 rfl;have h0:y 0 = .pointer (some ⟨b1,0,none⟩):=hd 0 rfl;refine ak (.pointer (some ⟨b1,0,none⟩)) (ag rfl) (by simp[execOp,go_sem,E5,h0]) rfl
 ·refine aB rfl ?_;intro ρ y W hw hn hb hd;have E6:=hw 6 1 rfl;have h1:y 1 = .pointer (some ⟨b1,0,none⟩):=hd 1 rfl;refine ak (.pointer (some ⟨b1,0,none⟩)) (ag rfl) (by simp[execOp,go_sem,E6,h1]) rfl
 ·refine aB rfl ?_;intro ρ y W hw hn hb hd;have E7:=hw 7 2 rfl;have h2:y 2 = .pointer (some ⟨b1,0,none⟩):=hd 2 rfl;refine ak (.pointer (some ⟨b1,10,none⟩)) (ag rfl) (by simp[execOp,go_sem,E7,h2]) rfl
 ·refine aB rfl ?_;intro ρ y W hw hn hb hd;have E8:=hw 8 3 rfl;have h3:y 3 = .pointer (some ⟨b1,10,none⟩):=hd 3 rfl;refine ak (.slice (some ⟨gs,os,none⟩) H1.sp.length H1.cp) (ag rfl) (by simp[execOp,go_sem,E8,h3,(h1.below hb).blk.cell,nC,hj]) rfl
 ·refine aB rfl ?_;intro ρ y W hw hn hb hd;have E2:ρ (.tmp 2) = .pointer (some ⟨gp,0,none⟩):=(hn (.tmp 2) rfl).trans rfl;refine ak (.pointer (some ⟨gc,0,none⟩)) (ag rfl) (by simp[execOp,go_sem,E2,(hc.below hb).ptr.cell]) rfl
 ·refine aB rfl ?_;intro ρ y W hw hn hb hd;have hE:=hw 10 5 rfl;have h5:y 5 = .pointer (some ⟨gc,0,none⟩):=hd 5 rfl;refine ak (.pointer (some ⟨gc,0,none⟩)) (ag rfl) (by simp[execOp,go_sem,hE,h5]) rfl
 ·refine aB rfl ?_;intro ρ y W hw hn hb hd;have hD:=hw 11 6 rfl;have h6:y 6 = .pointer (some ⟨gc,0,none⟩):=hd 6 rfl;refine ak (.pointer (some ⟨gc,1,none⟩)) (ag rfl) (by simp[execOp,go_sem,hD,h6]) rfl
 ·refine aB rfl ?_;intro ρ y W hw hn hb hd;have hC:=hw 12 7 rfl;have h7:y 7 = .pointer (some ⟨gc,1,none⟩):=hd 7 rfl;refine ak (.int .i64 (P:Int)) (ag rfl) (by simp[execOp,go_sem,hC,h7,(hc.below hb).cell,mM,hv]) rfl
 ·refine aB rfl ?_;intro ρ y W hw hn hb hd;have E1:ρ (.tmp 1) = .pointer (some ⟨gl,0,none⟩):=(hn (.tmp 1) rfl).trans rfl;refine ak (.slice al l.length cl) (ag rfl) (by simp[execOp,go_sem,E1,(hl.below hb).blk.cell]) rfl
 ·refine aB rfl ?_;intro ρ y W hw hn hb hd;have E9:=hw 9 4 rfl;have h4:y 4 = .slice (some ⟨gs,os,none⟩) H1.sp.length H1.cp:=hd 4 rfl;have hA:=hw 13 8 rfl;have h8:y 8 = .int .i64 (P:Int):=hd 8 rfl;refine ak (.pointer (some ⟨gs,os+P*10,none⟩)) (ag rfl) (eX rfl (E9.trans h4) (hA.trans h8) hpl underlying42 Ak) rfl
 ·refine aB rfl ?_;intro ρ y W hw hn hb hd;have hz:=hw 15 10 rfl;have hy:y 10 = .pointer (some ⟨gs,os+P*10,none⟩):=hd 10 rfl;refine ak (.pointer (some ⟨gs,os+P*10+1,none⟩)) (ag rfl) (by simp[execOp,go_sem,hz,hy]) rfl
 intro ρ y WA o ho hw hn hV d b;cases ho;have hi:y 0 = .pointer (some ⟨b1,0,none⟩):=b 0 (by decide);have hh:y 1 = .pointer (some ⟨b1,0,none⟩):=b 1 (by decide);have hg:y 2 = .pointer (some ⟨b1,0,none⟩):=b 2 (by decide);have hf:y 3 = .pointer (some ⟨b1,10,none⟩):=b 3 (by decide);have ha:y 4 = .slice (some ⟨gs,os,none⟩) H1.sp.length H1.cp:=b 4 (by decide);have z:y 5 = .pointer (some ⟨gc,0,none⟩):=b 5 (by decide);have x:y 6 = .pointer (some ⟨gc,0,none⟩):=b 6 (by decide);have t:y 7 = .pointer (some ⟨gc,1,none⟩):=b 7 (by decide);have s:y 8 = .int .i64 (P:Int):=b 8 (by decide);have n:y 9 = .slice al l.length cl:=b 9 (by decide);have k:y 10 = .pointer (some ⟨gs,os+P*10,none⟩):=b 10 (by decide);have g:y 11 = .pointer (some ⟨gs,os+P*10+1,none⟩):=b 11 (by decide);have hq:=hw 16 11 rfl;rw[g] at hq;have hr:=hw 14 9 rfl;rw[n] at hr;have EC:∀v,ρ (.const v)=v:=fun v=>hn (.const v) trivial;have EF:∀f,ρ (.func f) = .func (.func f) #[] #[]:=fun f=>hn (.func f) trivial;obtain⟨gs2,os2,cur2,i,hk,e,ht,q⟩:=(h1.below d).putA r;rw[hj] at i;simp only[gY,sI,and_true] at i;obtain⟨rfl,rfl⟩:=i;refine LV (ag rfl) _ _ _ rfl gs (os+P*10+1) _ [.slice al l.length cl] hq hr rfl _ _ e (by show os+P*10+1+1≤_;omega) asl_size (fun u hu=>by cases bN.1 hu;rfl) ?_;intro w5 hx j;clear b hw hn hV;simp only[lay,Nat.reduceAdd,Nat.reduceLT,Nat.reduceEqDiff,reduceIte,decide_true,decide_false,if_true,pq,if_false,rR,sj,rW,qY,rE,rH,hi,hh,hg,hf,ha,z,x,t,s,n,k,g];clear hi hh hg hf ha z x t s n k g;obtain⟨k5,s5⟩:=q w5 al cl l (hl.below d).own hx j;have s5:=s5 _ _ (s1.below d);have hs:=ae (TH r al cl l);have hG:QM w5 B gc gp c a cap:=(hc.below d).keep e (by decide) (by decide) hk j;have hF:VW w5 B gl l al cl:=⟨aG (hl.below d).blk e (by decide) j,ay (hl.below d).own e (by decide) j⟩;go_wp2;go_ret;exact⟨rfl,_,_,k5,s5,by rw[hs.out]⟩
def WG (k B:Nat) (T:TypeId) (R:nG):tH:=⟨fun y w => ∃g v,y k = .pointer (some ⟨g,0,none⟩)∧B≤g∧aJ w g #[v] T∧R.r v w,[k],
 fun y w w' hb ⟨g,v,h1,h2,h3,h4⟩=>⟨g,v,h1,h2,h3.ext hb,R.st _ _ _ hb h4⟩,fun y y' w h ⟨g,v,h1,h2⟩=>⟨g,v,by rw[←h k (bN.2 rfl)];exact h1,h2⟩⟩
theorem SY {P:Nat} (hP:H.sp[P]?=some PP):(bX H.ma P).ar=PP.ar:=by rw[wh hP];rfl
theorem Jo (H:MH) (c:Cl) (a:Option Addr) (cap gc B b P:Nat) (w:World) (h:oN w B b H) (hR:Rt H.ma) (hC:Co H.ma) (hc:aJ w gc (mM c a cap) 25) (hrd:∀W,Below B w W→eB W a (c.da.map oG)) (hle:c.da.length≤cap) (hmx:cap≤maxLen) (hnl:a=none→cap=0) (hp:c.p=P) (hpl:P<H.sp.length) (h64:uh c.a∧uh c.n) :
  Calls Tryz.prog 64 #[.pointer (some ⟨b,0,none⟩),.pointer (some ⟨gc,0,none⟩)] w (WW w B b (rX H.ma P c)):=by
 have hz:=ae (zz hR);have kY:=h.blk.lt;obtain⟨PP,hK⟩:∃PP,H.sp[P]?=some PP:=⟨_,aN hpl⟩;have hH:=ae (SY hK);have kc:c.p=(P:Int):=hp;have kb:∀x∈PP.ar,qU x:=fun x hx=>by have h1:=(qm (hR.pt.arN P)).2 x (by rw[hH.out];exact hx);exact (fK h1).1
 have hZ:PP.ar.length≤1000:=by have h1:=(qm (hR.pt.arN P)).1;rw[hH.out] at h1;omega
 have hv:Hid (H.ma.st.fs.length=H.fi.length):=ae (fP _);go_enter func64,ntmps64;go_upto_region 1 with (fail);refine vg (fun W=>Code.wp _ _ _ _ W) fun w1 hl px1 ax1 kp => ?_;have k1:=h.below hl;have c1:QM w1 B gc w.heap.size c a cap:=⟨hc.ext hl,px1,k1.bs,fun W k=>hrd W (fC (hl.mono h.bs) k),hle,hmx,hnl⟩;have kt:=ae h.bs;have d:w.grownBy w1 (some b):=Il hl;have hf:=ae hl.size;have kS:=h64.2;clear h hc hrd kp hp hl hR hC h64;obtain⟨gs,os,PP',kr,hF,hrd⟩:=xz k1.ma.rd.sp.rd P hpl;rw[hK] at hF;cases hF;have j:=yt k1.ma.rd hK;refine aP 11 [_,_,_,_,_,_,_,_,_,_,.v (.pointer (some ⟨gs,os+P*10,none⟩))] (Gk rfl (Gk rfl (Gf b 0 rfl rfl (Gf b 10 rfl rfl (Gc (.slice (some ⟨gs,os,none⟩) H.sp.length H.cp) (fun W hb=>by simp[(k1.below hb).blk.cell,bW,kr]) rfl rfl rfl rfl (Gc (.pointer (some ⟨gc,0,none⟩)) (fun W hb=>by simp[(c1.below hb).ptr.cell]) rfl rfl rfl rfl (Gk rfl (Gf gc 1 rfl rfl (Gc (.int .i64 (P:Int)) (fun W hb=>by simp[(c1.below hb).cell,mM,kc]) rfl rfl rfl rfl (Gr (.pointer (some ⟨gs,os+P*10,none⟩)) (fun ρ y W hb kh=>(eX rfl (aU rfl kh) (aU rfl kh) hpl underlying42 Ak)) rfl rfl (Gk rfl (aF)))))))))))) (fun _=>rfl) rfl ?_;intro y W2 t _;have k1:=k1.below t;have c1:=c1.below t;have ax1:=ax1.ext t;have hrd:=hrd.below t;have j:=j.below t;have d:=eT d t;have hf:=ae (aV hf.out t.size);have hs:=Ji hrd;clear t;obtain⟨A0,hM⟩:∃A0,Hid (A0=LC PP.ar c):=⟨_,ae rfl⟩;have o:Hid (rX H.ma P c=if A0<0∨64≤A0∨c.n<1∨64-A0<c.n∨c.f < -1 then (H.ma,kJ 3) else if (H.fi.length:Int)≤c.f then (H.ma,kJ 5) else if lK PP.ar ⟨A0,A0+c.n,c.rd,c.wr,c.sh,c.f,c.b⟩≠0 then (H.ma,kJ (lK PP.ar ⟨A0,A0+c.n,c.rd,c.wr,c.sh,c.f,c.b⟩)) else (setAr H.ma P (iD PP.ar ⟨A0,A0+c.n,c.rd,c.wr,c.sh,c.f,c.b⟩),⟨0,A0,[]⟩)):=ae (by unfold rX;simp only[hH.out,←hM.out,hv.out]);have hr:=c1.ptr.cell;have hg:=c1.cell;unfold mM at hg;go_upto_if 25 with (fail);clear hr hg
 go_cut [6] (fun s6 wx=>s6 = .int .i64 A0∧0≤A0∧Below W2.heap.size W2 wx)
 case first=>
  by_cases hneg:c.a<0
  ·have hL:Hid (A0=qE PP.ar c.n):=ae (by rw[hM.out];unfold LC; exact if_pos hneg);go_upto_region 4 with (fail);refine aP 10 [_,_,_,.v (.slice PP.aa PP.ar.length PP.ac),_,_,_,_,.v (.int .i64 A0),.v (.int .i64 A0)] (Gk rfl (Gk rfl (Gf gs (os+P*10+1) rfl rfl (aj ?_ (Gc (.pointer (some ⟨gc,0,none⟩)) (fun W hb=>by simp[(c1.below hb).ptr.cell]) rfl rfl rfl rfl (Gk rfl (Gf gc 3 rfl rfl (Gc (.int .i64 c.n) (fun W hb=>by simp[(c1.below hb).blk.cell,mM]) rfl rfl rfl rfl (aj ?_ (Gk rfl (aF))))))))))) (fun _=>rfl) rfl ?_
   ·intro ρ y W hw hn hb hd;have kO:=hw 28 2 rfl;have h2:y 2=_:=hd 2 rfl;have hs:=Ji (hrd.below hb);refine ak (.slice PP.aa PP.ar.length PP.ac) (ag rfl) (by simp[execOp,go_sem,kO,h2,hs]) rfl
   ·intro ρ y W hw hn hb hd;have kN:=hw 29 3 rfl;have h3:y 3=_:=hd 3 rfl;have kM:=hw 33 7 rfl;have h7:y 7=_:=hd 7 rfl;have EF:∀f,ρ (.func f) = .func (.func f) #[] #[]:=fun f=>hn (.func f) trivial;refine aK _ _ (ag rfl) (aQ rfl (EF _) func105 (by kernel_rfl) (by kernel_rfl) (by simp only[bT,bF,bI,kN,h3,kM,h7,EF];rfl)) ?_;refine (Qd PP.ar c.n PP.aa PP.ac W (j.below hb).ars.rd hZ kb).mono ?_;rintro r w3 ⟨rfl,z⟩;rw[←hL.out];exact⟨_,rfl,z,rfl⟩
   intro y W3 hh _
   by_cases hr0:A0<0
   ·have hX:Hid (rX H.ma P c=(H.ma,kJ 3)):=ae (by rw[o.out,if_pos (.inl hr0)]);have k1:=k1.below hh;have ax1:=ax1.ext hh;have d:=eT d hh
    go_wp2_with (refine ax rfl _ _ _ rfl (w.heap.size+1) (fT 3 0 nilV) rfl rfl _ _ ax1 rfl ans_size (bR _ _ _ _ _) ?_)
    intro we axe g;have i:=fG d g (by omega);have ke:oN we B b H:=⟨aG k1.blk ax1 (by decide) g,k1.ge,k1.ma.keep ax1 (by decide) g⟩;go_wp2;refine bodyPost_ret (v:=.agg (fT 3 0 nilV)) (aY results64 _ _ (w.heap.size+1) _ _ _ rfl axe underlying52 rfl ans_size) rfl ?_;rw[hX.out];exact⟨nilV,rfl,Own.nil _ _ _ _,i,H,ke,rfl⟩
   go_wp2;go_meet
   case rel=>exact⟨rfl,by omega,hh⟩
  have hL:A0=c.a:=by rw[hM.out];unfold LC; exact if_neg hneg
  subst hL;have kX:decide (c.a<0)=false:=decide_eq_false hneg;go_wp2;go_meet
  case rel=>exact⟨rfl,by omega,Below.refl _ _⟩
 case rest=>
  obtain⟨rfl,kT,z⟩:=hcut;have k1:=k1.below z;have c1:=c1.below z;have ax1:=ax1.ext z;have hrd:=hrd.below z;have j:=j.below z;have d:=eT d z;have hf:=ae (aV hf.out z.size);clear z hs;have hr:=c1.ptr.cell;have hg:=c1.cell;unfold mM at hg
  by_cases e1:64≤A0
  ·have hX:Hid (rX H.ma P c=(H.ma,kJ 3)):=ae (by rw[o.out,if_pos (.inr (.inl e1))])
   go_wp2_with (refine ax rfl _ _ _ rfl (w.heap.size+1) (fT 3 0 nilV) rfl rfl _ _ ax1 rfl ans_size (bR _ _ _ _ _) ?_)
   intro we axe g;have i:=fG d g (by omega);have ke:oN we B b H:=⟨aG k1.blk ax1 (by decide) g,k1.ge,k1.ma.keep ax1 (by decide) g⟩;go_wp2;refine bodyPost_ret (v:=.agg (fT 3 0 nilV)) (aY results64 _ _ (w.heap.size+1) _ _ _ rfl axe underlying52 rfl ans_size) rfl ?_;rw[hX.out];exact⟨nilV,rfl,Own.nil _ _ _ _,i,H,ke,rfl⟩
  by_cases e2:c.n<1
  ·have hX:Hid (rX H.ma P c=(H.ma,kJ 3)):=ae (by rw[o.out,if_pos (.inr (.inr (.inl e2)))])
   go_wp2_with (refine ax rfl _ _ _ rfl (w.heap.size+1) (fT 3 0 nilV) rfl rfl _ _ ax1 rfl ans_size (bR _ _ _ _ _) ?_)
   intro we axe g;have i:=fG d g (by omega);have ke:oN we B b H:=⟨aG k1.blk ax1 (by decide) g,k1.ge,k1.ma.keep ax1 (by decide) g⟩;go_wp2;refine bodyPost_ret (v:=.agg (fT 3 0 nilV)) (aY results64 _ _ (w.heap.size+1) _ _ _ rfl axe underlying52 rfl ans_size) rfl ?_;rw[hX.out];exact⟨nilV,rfl,Own.nil _ _ _ _,i,H,ke,rfl⟩
  have kU:IntKind.i64.wrap (64-A0)=64-A0:=bP _ (by omega)
  by_cases e3:64-A0<c.n
  ·have hX:Hid (rX H.ma P c=(H.ma,kJ 3)):=ae (by rw[o.out,if_pos (.inr (.inr (.inr (.inl e3))))])
   go_wp2_with (refine ax rfl _ _ _ rfl (w.heap.size+1) (fT 3 0 nilV) rfl rfl _ _ ax1 rfl ans_size (bR _ _ _ _ _) ?_)
   intro we axe g;have i:=fG d g (by omega);have ke:oN we B b H:=⟨aG k1.blk ax1 (by decide) g,k1.ge,k1.ma.keep ax1 (by decide) g⟩;go_wp2;refine bodyPost_ret (v:=.agg (fT 3 0 nilV)) (aY results64 _ _ (w.heap.size+1) _ _ _ rfl axe underlying52 rfl ans_size) rfl ?_;rw[hX.out];exact⟨nilV,rfl,Own.nil _ _ _ _,i,H,ke,rfl⟩
  by_cases e4:c.f < -1
  ·have hX:Hid (rX H.ma P c=(H.ma,kJ 3)):=ae (by rw[o.out,if_pos (.inr (.inr (.inr (.inr e4))))])
   go_wp2_with (refine ax rfl _ _ _ rfl (w.heap.size+1) (fT 3 0 nilV) rfl rfl _ _ ax1 rfl ans_size (bR _ _ _ _ _) ?_)
   intro we axe g;have i:=fG d g (by omega);have ke:oN we B b H:=⟨aG k1.blk ax1 (by decide) g,k1.ge,k1.ma.keep ax1 (by decide) g⟩;go_wp2;refine bodyPost_ret (v:=.agg (fT 3 0 nilV)) (aY results64 _ _ (w.heap.size+1) _ _ _ rfl axe underlying52 rfl ans_size) rfl ?_;rw[hX.out];exact⟨nilV,rfl,Own.nil _ _ _ _,i,H,ke,rfl⟩
  rw[if_neg (by omega)] at o;go_upto_region 9 with (fail);clear hr hg
  by_cases e5:(H.fi.length:Int)≤c.f
  ·have hX:Hid (rX H.ma P c=(H.ma,kJ 5)):=ae (by rw[o.out,if_pos e5]);refine aP 12 [_,_,_,_,_,_,_,_,_,_,_,_] (Gc (.pointer (some ⟨gc,0,none⟩)) (fun W hb=>by simp[(c1.below hb).ptr.cell]) rfl rfl rfl rfl (Gk rfl (Gf gc 4 rfl rfl (Gc (.int .i64 c.f) (fun W hb=>by simp[(c1.below hb).blk.cell,mM]) rfl rfl rfl rfl (Gk rfl (Gk rfl (Gf b 0 rfl rfl (Gf b 7 rfl rfl (Gf b 7 rfl rfl (Gc (.slice H.ai H.fi.length H.ci) (fun W hb=>by simp[(k1.below hb).blk.cell,bW]) rfl rfl rfl rfl (Gn rfl rfl rfl rfl (Gb (.bool true) (by simp[go_sem,e5]) rfl rfl rfl rfl rfl (aF)) (underlying38)))))))))))) (fun _=>rfl) rfl ?_;intro y W4 l _;have k1:=k1.below l;have ax1:=ax1.ext l;have d:=eT d l
   go_wp2_with (refine ax rfl _ _ _ rfl (w.heap.size+1) (fT 5 0 nilV) rfl rfl _ _ ax1 rfl ans_size (bR _ _ _ _ _) ?_)
   intro we axe g;have i:=fG d g (by omega);have ke:oN we B b H:=⟨aG k1.blk ax1 (by decide) g,k1.ge,k1.ma.keep ax1 (by decide) g⟩;go_wp2;refine bodyPost_ret (v:=.agg (fT 5 0 nilV)) (aY results64 _ _ (w.heap.size+1) _ _ _ rfl axe underlying52 rfl ans_size) rfl ?_;rw[hX.out];exact⟨nilV,rfl,Own.nil _ _ _ _,i,H,ke,rfl⟩
  rw[if_neg e5] at o;refine aP 12 [_,_,_,_,_,_,_,_,_,_,_,_] (Gc (.pointer (some ⟨gc,0,none⟩)) (fun W hb=>by simp[(c1.below hb).ptr.cell]) rfl rfl rfl rfl (Gk rfl (Gf gc 4 rfl rfl (Gc (.int .i64 c.f) (fun W hb=>by simp[(c1.below hb).blk.cell,mM]) rfl rfl rfl rfl (Gk rfl (Gk rfl (Gf b 0 rfl rfl (Gf b 7 rfl rfl (Gf b 7 rfl rfl (Gc (.slice H.ai H.fi.length H.ci) (fun W hb=>by simp[(k1.below hb).blk.cell,bW]) rfl rfl rfl rfl (Gn rfl rfl rfl rfl (Gb (.bool false) (by simp[go_sem,e5]) rfl rfl rfl rfl rfl (aF)) (underlying38)))))))))))) (fun _=>rfl) rfl ?_;intro y W4 l _;have k1:=k1.below l;have c1:=c1.below l;have ax1:=ax1.ext l;have hrd:=hrd.below l;have j:=j.below l;have d:=eT d l;have hf:=ae (aV hf.out l.size);clear l;have ko:IntKind.i64.wrap (A0+c.n)=A0+c.n:=bP _ (by omega);obtain⟨X,hJ⟩:∃X:Ar,X=⟨A0,A0+c.n,c.rd,c.wr,c.sh,c.f,c.b⟩:=⟨_,rfl⟩;rw[←hJ] at o;have ks:Hid (kE X=#[.int .i64 A0,.int .i64 (A0+c.n),.bool c.rd,.bool c.wr,.bool c.sh,.int .i64 c.f,.int .i64 c.b]):=ae (by rw[hJ];rfl);clear hJ;go_upto_region 11 with (fail);refine gH 39 [_,_,_,.v (.slice PP.aa PP.ar.length PP.ac),_,_,_,_,_,_,_,_,_,_,_,_,_,_,_,_,_,_,_,_,_,_,_,_,_,_,_,.v (.agg (kE X)),.r 32 ((uY W4.heap.size 143 7 (iD PP.ar X).length ((iD PP.ar X).flatMap fA) (lK PP.ar X))),.r 33 ((uY W4.heap.size 143 7 (iD PP.ar X).length ((iD PP.ar X).flatMap fA) (lK PP.ar X))),.r 34 ((iw W4.heap.size 143 7 (iD PP.ar X).length ((iD PP.ar X).flatMap fA))),.v (.int .i64 (lK PP.ar X)),.r 36 ((eO W4.heap.size 80 1)),.y 37 ((WG 36 W4.heap.size 80 (iw W4.heap.size 143 7 (iD PP.ar X).length ((iD PP.ar X).flatMap fA)))),.v (.int .i64 (lK PP.ar X))] (fun W=>Below W4.heap.size W4 W) bA (Below.refl _ _) (Yk bA rfl (Yk bA rfl (Yf bA gs (os+P*10+1) rfl rfl (aj ?_ (Yk bA rfl (Yk bA rfl (Yc bA (.pointer (some ⟨gc,0,none⟩)) (fun W hb=>by simp[(c1.below hb).ptr.cell]) rfl rfl rfl rfl (Yk bA rfl (Yf bA gc 3 rfl rfl (Yc bA (.int .i64 c.n) (fun W hb=>by simp[(c1.below hb).blk.cell,mM]) rfl rfl rfl rfl (Yb bA (.int .i64 (A0+c.n)) (by simp[go_sem,ko]) rfl rfl rfl rfl rfl (Yc bA (.pointer (some ⟨gc,0,none⟩)) (fun W hb=>by simp[(c1.below hb).ptr.cell]) rfl rfl rfl rfl (Yk bA rfl (Yf bA gc 6 rfl rfl (Yc bA (.bool c.rd) (fun W hb=>by simp[(c1.below hb).blk.cell,mM]) rfl rfl rfl rfl (Yc bA (.pointer (some ⟨gc,0,none⟩)) (fun W hb=>by simp[(c1.below hb).ptr.cell]) rfl rfl rfl rfl (Yk bA rfl (Yf bA gc 7 rfl rfl (Yc bA (.bool c.wr) (fun W hb=>by simp[(c1.below hb).blk.cell,mM]) rfl rfl rfl rfl (Yc bA (.pointer (some ⟨gc,0,none⟩)) (fun W hb=>by simp[(c1.below hb).ptr.cell]) rfl rfl rfl rfl (Yk bA rfl (Yf bA gc 8 rfl rfl (Yc bA (.bool c.sh) (fun W hb=>by simp[(c1.below hb).blk.cell,mM]) rfl rfl rfl rfl (Yc bA (.pointer (some ⟨gc,0,none⟩)) (fun W hb=>by simp[(c1.below hb).ptr.cell]) rfl rfl rfl rfl (Yk bA rfl (Yf bA gc 4 rfl rfl (Yc bA (.int .i64 c.f) (fun W hb=>by simp[(c1.below hb).blk.cell,mM]) rfl rfl rfl rfl (Yc bA (.pointer (some ⟨gc,0,none⟩)) (fun W hb=>by simp[(c1.below hb).ptr.cell]) rfl rfl rfl rfl (Yk bA rfl (Yf bA gc 5 rfl rfl (Yc bA (.int .i64 c.b) (fun W hb=>by simp[(c1.below hb).blk.cell,mM]) rfl rfl rfl rfl (aj ?_ (aj ?_ (aj ?_ (aj ?_ (aj ?_ (aj ?_ (aj ?_ (Yk bA rfl (aF)))))))))))))))))))))))))))))))))))))))) (fun _=>rfl) rfl ?_
  ·intro ρ y W hw hn hb hd;refine eP bA hb (gI (.slice PP.aa PP.ar.length PP.ac)) (fun _ _ h=>h) ?_;have kL:=hw 80 2 rfl;have h2:y 2 = .pointer (some ⟨gs,os+P*10+1,none⟩):=hd 2 rfl;have hs:=Ji (hrd.below hb);refine ak (.slice PP.aa PP.ar.length PP.ac) (ag rfl) (by simp[execOp,go_sem,bu,kL,h2,hs]) rfl
  ·intro ρ y W hw hn hb hd;refine eP bA hb (gI (.agg (kE X))) (fun _ _ h=>h) ?_;have kI:=hw 82 4 rfl;have h4:y 4 = .int .i64 A0:=hd 4 rfl;have kH:=hw 88 10 rfl;have kD:y 10 = .int .i64 (A0+c.n):=hd 10 rfl;have kG:=hw 92 14 rfl;have kC:y 14 = .bool c.rd:=hd 14 rfl;have kF:=hw 96 18 rfl;have kB:y 18 = .bool c.wr:=hd 18 rfl;have kn:=hw 100 22 rfl;have kA:y 22 = .bool c.sh:=hd 22 rfl;have km:=hw 104 26 rfl;have kz:y 26 = .int .i64 c.f:=hd 26 rfl;have kl:=hw 108 30 rfl;have ky:y 30 = .int .i64 c.b:=hd 30 rfl;have kg:=ks.out;refine ak (.agg (kE X)) (ag rfl) (by simp[execOp,go_sem,bu,kI,h4,kH,kD,kG,kC,kF,kB,kn,kA,km,kz,kl,ky,kg]) rfl
  ·intro ρ y W hw hn hb hd;refine eP bA hb ((uY W4.heap.size 143 7 (iD PP.ar X).length ((iD PP.ar X).flatMap fA) (lK PP.ar X))) (fun _ _ h=>h) ?_;have kK:=hw 81 3 rfl;have h3:y 3 = .slice PP.aa PP.ar.length PP.ac:=hd 3 rfl;have kk:=hw 109 31 rfl;have kx:y 31 = .agg (kE X):=hd 31 rfl;have EF:∀f,ρ (.func f) = .func (.func f) #[] #[]:=fun f=>hn (.func f) trivial;refine aK _ _ (ag rfl) (aQ rfl (EF _) func106 (by kernel_rfl) (by kernel_rfl) (by simp only[bT,bF,bI,kK,h3,kk,kx,EF];rfl)) ?_;refine (TF PP.ar X PP.aa PP.ac W (j.below hb).ars).mono ?_;rintro r W3 ⟨u,rfl,ho,z⟩;exact⟨_,rfl,z,u,rfl,ho.mono hb.size⟩
  ·intro ρ y W hw hn hb hd;refine eP bA hb ((uY W4.heap.size 143 7 (iD PP.ar X).length ((iD PP.ar X).flatMap fA) (lK PP.ar X))) (fun _ _ h=>h) ?_;have kj:=hw 110 32 rfl;have kw:=hd 32 rfl;refine ak _ (ag rfl) (run_move (.inl rfl) kj) ?_;exact kw
  ·intro ρ y W hw hn hb hd;refine eP bA hb ((iw W4.heap.size 143 7 (iD PP.ar X).length ((iD PP.ar X).flatMap fA))) (fun _ _ h=>h) ?_;have hO:=hw 77 33 rfl;have hN:=hd 33 rfl;obtain⟨u,hu,ho⟩:=hN;refine ak u (ag rfl) (by simp[execOp,go_sem,bu,hO,hu]) ?_;exact ho
  ·intro ρ y W hw hn hb hd;refine eP bA hb (gI (.int .i64 (lK PP.ar X))) (fun _ _ h=>h) ?_;have hO:=hw 77 33 rfl;have hN:=hd 33 rfl;obtain⟨u,hu,ho⟩:=hN;refine ak (.int .i64 (lK PP.ar X)) (ag rfl) (by simp[execOp,go_sem,bu,hO,hu]) rfl
  ·intro ρ y W hw hn hb hd;refine eP bA hb ((eO W4.heap.size 80 1)) (fun _ _ h=>h) ?_;refine gz (.pointer (some ⟨W.heap.size,0,none⟩)) (ag rfl) (by simp[execOp,go_sem,bu]) ((Below.refl _ _).alloc (az _) (.cells #[.slice none 0 0] 80)) ?_;exact⟨_,_,rfl,hb.size,aJ.new _ _ _,rfl⟩
  ·intro ρ y W hw hn hb hd;have E7:=hw 7 36 rfl;have ku:=hd 36 rfl;have ki:=hw 111 34 rfl;have kv:=hd 34 rfl;have hm:Own W W4.heap.size 143 7 (y 34) _ _:=kv;obtain⟨a3,c3,e3,_⟩:=Own.rd hm;obtain⟨g3,cur3,e9,ka,hj,hU⟩:=ku;refine iZ (ag rfl) _ _ _ rfl g3 0 (.slice a3 (iD PP.ar X).length c3) [.slice a3 (iD PP.ar X).length c3] (E7.trans e9) (ki.trans e3) rfl cur3 _ hj (by rw[hU];exact az _) asl_size (fun u hu=>by cases bN.1 hu;rfl) ?_;intro w2 hG hi;rw[show [Value.slice a3 (iD PP.ar X).length c3]=(#[Value.slice a3 (iD PP.ar X).length c3]:Array Value).toList from rfl,dU cur3 _ (by rw[hU];rfl)] at hG;rw[e3] at hm;refine⟨hb.grown hi hb.size (fun k hk=>by cases hk;exact ka),⟨g3,_,e9,ka,hG,ay hm hj (by decide) hi⟩,?_⟩;intro k hk kq
   match k,hk,kq with
   | 0,_,_=>exact fun h=>h
   | 1,_,_=>exact fun h=>h
   | 2,_,_=>exact fun h=>h
   | 3,_,_=>exact fun h=>h
   | 4,_,_=>exact fun h=>h
   | 5,_,_=>exact fun h=>h
   | 6,_,_=>exact fun h=>h
   | 7,_,_=>exact fun h=>h
   | 8,_,_=>exact fun h=>h
   | 9,_,_=>exact fun h=>h
   | 10,_,_=>exact fun h=>h
   | 11,_,_=>exact fun h=>h
   | 12,_,_=>exact fun h=>h
   | 13,_,_=>exact fun h=>h
   | 14,_,_=>exact fun h=>h
   | 15,_,_=>exact fun h=>h
   | 16,_,_=>exact fun h=>h
   | 17,_,_=>exact fun h=>h
   | 18,_,_=>exact fun h=>h
   | 19,_,_=>exact fun h=>h
   | 20,_,_=>exact fun h=>h
   | 21,_,_=>exact fun h=>h
   | 22,_,_=>exact fun h=>h
   | 23,_,_=>exact fun h=>h
   | 24,_,_=>exact fun h=>h
   | 25,_,_=>exact fun h=>h
   | 26,_,_=>exact fun h=>h
   | 27,_,_=>exact fun h=>h
   | 28,_,_=>exact fun h=>h
   | 29,_,_=>exact fun h=>h
   | 30,_,_=>exact fun h=>h
   | 31,_,_=>exact fun h=>h
   | 32,_,_=>exact fun⟨u,q1,q2⟩=>⟨u,q1,ay q2 hj (by decide) hi⟩
   | 33,_,_=>exact fun⟨u,q1,q2⟩=>⟨u,q1,ay q2 hj (by decide) hi⟩
   | 34,_,_=>exact fun q=>ay q hj (by decide) hi
   | 35,_,_=>exact fun h=>h
   | 36,_,_=>exact fun q=>iy q hG (fun _=>rfl) ⟨_,hj⟩ hi
   | 37,_,h=>exact absurd rfl h
   | 38,_,_=>exact fun h=>h
   | n+39,h,_=>exact absurd h (by omega)
  intro y W5 s ha;replace s:Below W4.heap.size W4 W5:=s;have kR:((uY W4.heap.size 143 7 (iD PP.ar X).length ((iD PP.ar X).flatMap fA) (lK PP.ar X))).r (y 32) W5:=ha 32 (by decide);have kQ:((uY W4.heap.size 143 7 (iD PP.ar X).length ((iD PP.ar X).flatMap fA) (lK PP.ar X))).r (y 33) W5:=ha 33 (by decide);have kP:((iw W4.heap.size 143 7 (iD PP.ar X).length ((iD PP.ar X).flatMap fA))).r (y 34) W5:=ha 34 (by decide);have hS:((eO W4.heap.size 80 1)).r (y 36) W5:=ha 36 (by decide);have hQ:=ha 37 (by decide);clear ha;simp only[dE,bu,bF,bI];obtain⟨gl,vl,h8,h9,hD,hI⟩:=hQ;obtain⟨al,cl,rfl,_⟩:=Own.rd hI;rw[h8];have h5:=ae (aV kt.out hf.out);have k1:=k1.below s;have c1:=c1.below s;have ax1:=ax1.ext s;have l1:VW W5 B gl (iD PP.ar X) al cl:=⟨hD,Own.mono hI h5.out⟩;have d:=eT d s;have hT:=ae (aV hf.out s.size);clear s h8 h9 hD hI hS j hrd;generalize hE:lK PP.ar X=E at *
  by_cases h0:E=0
  ·have hX:Hid (rX H.ma P c=(setAr H.ma P (iD PP.ar X),⟨0,A0,[]⟩)):=ae (by rw[o.out,if_neg (by rw[h0];simp)]);have hV:=Ls (m:=H.ma) c a cap gc w.heap.size gl B P (iD PP.ar X) al cl W5 k1.bs c1 l1 kc (by rw[tQ];exact hpl);rw[h0];clear hE h0 o l1
   go_wp2_with fail
   refine (IL H _ _ _ B b _ k1 hz.out hV).mono ?_;have kd:TN ((⟨setAr H.ma P (iD PP.ar X),0⟩,0):Kp × Int)=0:=rfl;rw[kd];rintro r w6 ⟨rfl,ht,H6,k6,hY⟩;have hW : Hid (H6.ma=setAr H.ma P (iD PP.ar X)):=ae hY;have ax6:=ax1.grown ht (fun e=>by cases e;omega);have hB:=tJ d ht;have kV:=ae (aV hT.out ht.size);have kW:=ax6.lt;clear hV hY ht ax1 k1 d kd c1
   go_wp2_with (refine aT rfl _ _ _ rfl (fT 0 0 nilV) rfl rfl rfl ans_size (bR _ _ _ _ _) ?_)
   intro w7 hy zx7;have k7:=k6.below hy;have ax7:=ax6.ext hy;have hA:=eT hB hy;clear k6 ax6 hB hy;have hP:=zx7.cell;unfold fT at hP
   go_wp2_with (refine bz rfl _ _ _ rfl w6.heap.size 1 _ [.int .i64 A0] rfl rfl rfl _ _ zx7 (by show 1+1≤3;decide) (by kernel_rfl) (fun u hu=>by cases bN.1 hu;rfl) ?_)
   intro w8 kf hq;have zx8:aJ w8 w6.heap.size (fT 0 A0 nilV) 52:=kf;have ax8:=ax7.grown hq (fun e=>by have:=aS e;omega);have k8:oN w8 B b H6:=⟨aG k7.blk zx7 (by decide) hq,k7.ge,k7.ma.keep zx7 (by decide) hq⟩;have h6:=fG hA hq (by omega);clear k7 ax7 zx7 hA hq kf hP
   go_wp2_with (first | (refine aC _ _ rfl w6.heap.size 0 rfl rfl (fT 0 A0 nilV).toList zx8.rd _ underlying52 rfl ans_size ?_) | (refine ax rfl _ _ _ rfl (w.heap.size+1) (fT 0 A0 nilV) rfl rfl _ _ ax8 rfl ans_size (bR _ _ _ _ _) ?_))
   intro we axe g;have i:=fG h6 g (by omega);have ke:oN we B b H6:=⟨aG k8.blk ax8 (by decide) g,k8.ge,k8.ma.keep ax8 (by decide) g⟩;go_wp2;refine bodyPost_ret (v:=.agg (fT 0 A0 nilV)) (aY results64 _ _ (w.heap.size+1) _ _ _ rfl axe underlying52 rfl ans_size) rfl ?_;rw[hX.out];exact⟨nilV,rfl,Own.nil _ _ _ _,i,H6,ke,hW.out⟩
  have hX:Hid (rX H.ma P c=(H.ma,kJ E)):=ae (by rw[o.out,if_pos h0]);clear hE o l1
  go_wp2_with (refine ax rfl _ _ _ rfl (w.heap.size+1) (fT E 0 nilV) rfl rfl _ _ ax1 rfl ans_size (bR _ _ _ _ _) ?_)
  intro we axe g;have i:=fG d g (by omega);have ke:oN we B b H:=⟨aG k1.blk ax1 (by decide) g,k1.ge,k1.ma.keep ax1 (by decide) g⟩;go_wp2;refine bodyPost_ret (v:=.agg (fT E 0 nilV)) (aY results64 _ _ (w.heap.size+1) _ _ _ rfl axe underlying52 rfl ans_size) rfl ?_;rw[hX.out];exact⟨nilV,rfl,Own.nil _ _ _ _,i,H,ke,rfl⟩
theorem GI {o:Nat} (h:eB w (some ⟨b,o,none⟩) vs) (hu:vs[k]?=some u):w.cell? ⟨b,o+k,none⟩=some u:=by
 obtain⟨b',o',e,hc⟩:=h k u hu;cases e;exact hc
theorem NK (h:aO s=0) (hl:qG s≠0):0≤eY s:=by
 by_cases hf:eY s<0
 ·exact absurd (Lx h hf) hl
 ·omega
def Xq (m:Ma) (f:Nat):Bool:=(aD m f).d&&ja m f
def Vu (m:Ma):Option Nat:=(List.range m.m.fs.length).find? (Xq m)
def VD (m:Ma):Ma:=match Vu m with
 | none=>m
 | some f=>(jB ⟨m,0⟩ f).m
def Vw (m:Ma) (bits:Int):Ma:={ iW m.m.fs.length m.sl.length m.st.count with dk:=UV (VL bits) m.dk,st:=m.st }
def UC (m:Ma) (c:Cl):Ma × An:=if c.k=15 then (Vw m c.n,kJ 0) else if c.k=14 then (VD m,kJ 0) else ((dX ⟨m,0⟩).1.m,kJ 0)
def XD (B:Nat) (X:Ma) (e:Int):nG:=⟨fun v w => ∃H',v = .tuple #[.agg (bW H'),.int .i64 e]∧qc w B H'∧H'.ma=X,fun _ _ _ hb ⟨H',h1,h2,h3⟩=>⟨H',h1,h2.below hb,h3⟩⟩
def Ah (B:Nat) (X:Ma):nG:=⟨fun v w => ∃H',v = .agg (bW H')∧qc w B H'∧H'.ma=X,fun _ _ _ hb ⟨H',h1,h2,h3⟩=>⟨H',h1,h2.below hb,h3⟩⟩
def Sa (file:Int) (m:Ma) (f:Nat):Option Ma:=if (aD m f).f=file then (if ja m f=true then some (jB ⟨m,0⟩ f).m else none) else some m
def UX (file:Int) (m:Ma):Nat→Option Ma
 | 0=>some m
 | f+1=>(UX file m f).bind fun m1=>Sa file m1 f
def VA (m:Ma):Ma:={ m with dk:=UV (fun _=>true) m.dk }
def Wm (file:Int) (m:Ma):Option Ma:=(UX file m m.m.fs.length).map VA
theorem VP {s:Nat} (hf:f≤40) (hs:s≤60) (hc:ct≤80):Rt (iW f s ct):=by
 rw[←Sz hf hs hc];have h1:=((Fb.start hc).bd (f:=f) (s:=s) (by decide) hf hs).more (s:=⟨true,[],zTb⟩) (by show 0<4;decide) rfl (by decide);exact h1.rt
theorem KW {f s c:Int} (h:(0≤f∧f≤40)∧(0≤s∧s≤60)∧0≤c∧c≤80):iW f s c=⟨vD f,Cn s,uk s,uk c,⟨[],c⟩,[],[⟨true,[],zTb⟩]⟩:=by
 unfold iW;rw[if_pos h]
def WZ (m:Ma) (f:Int):Ma × An:=match Wm f m with
 | none=>(m,kJ 10)
 | some m'=>(m',kJ 0)
def WT (m:Ma) (c:Cl):Ma × An:=if c.f<0∨(m.st.fs.length:Int)≤c.f then (m,kJ 5) else if c.k=9 then Xt m c else if c.k=10 then Xp m c else if c.k=11 then WY m c else WZ m c.f
theorem qc.frPut (h:qc w B H) (hf:f<H.m.fs.length) :
  ∃g off cur,H.af=some ⟨g,off,none⟩∧B≤g∧aJ w g cur 132∧off+f*13+13≤cur.size∧eB w (some ⟨g,off+f*13,none⟩) (oH (aD H.ma f)) ∧
   ∀(o n:Nat) (vs:List Value) (x:Fr) (w' : World),vs.length=n→o+n≤13→oH x=(oH (aD H.ma f)).take o++vs++(oH (aD H.ma f)).drop (o+n)→aJ w' g (dF cur (off+f*13+o) vs) 132→w.grownBy w' (some g)→qc w' B { H with m:=⟨H.m.fs.set f x,H.m.hand⟩ }:=by
 have p:H.m.fs[f]=aD H.ma f:=by have:H.m.fs[f]?=some (aD H.ma f):=rZ (m:=H.ma) (f:=f) hf;rw[aN hf] at this;exact aS this
 obtain⟨g,off,cap,cur,hv,hB,a,i,c⟩:=oM iO (by decide) rfl h.fr f hf;simp only[lH] at hv;obtain⟨l,_,s⟩:=hv;have e:=h.fr;rw[l] at e;have b:=zJ e a;have k:∀j u,(oH (aD H.ma f))[j]?=some u→cur[off+f*13+j]?=some u:=fun j u hj=>by rw[oQ];exact b _ _ (flat_get oH 13 iO H.m.fs f hf j u (by rw[p];exact hj))
 refine⟨g,off,cur,l,hB,a,i,fun j u hj=>⟨g,_,rfl,by rw[a.cell];exact k j u hj⟩,fun o n vs x w' hn ho hx hb hg => ?_⟩;have r:aJ w' g (dF cur (off+f*13) (oH x)) 132:=by
  have hl:=iO (aD H.ma f);generalize oH (aD H.ma f)=ys at *
  generalize oH x=xs at *
  rw[xG cur (off+f*13) o n ys xs vs k hx hn (by omega) (by omega)];exact hb
 have d:(H.m.fs.set f x).length=H.m.fs.length:=dM;refine⟨?_,ay h.sl a (by decide) hg,h.sw.keep a (by decide) (by decide) hg,h.dk.keep a (by decide) (by decide) hg,h.st.keep a (by decide) (by decide) hg,ay h.ca a (by decide) hg,ay h.sp a (by decide) hg,fun q hq=>⟨ay (h.ps q hq).1 a (by decide) hg,(h.ps q hq).2.keep a (by decide) hg⟩,h.c64⟩;simp only[d];exact c w' _ r
theorem Tm (hR:Rt m) (hC:Co m) (hF:Oc m) {w:Bool} (hp:p<m.sp.length) (hv:(bX m p).lv=true) (hu:lS m p n w=0) :
  ∃g,fD m p n=some g∧Vy m (oW m p n w) p n w g (tC m p n w)∧0≤tC m p n w:=by
 rw[Ih hR hp hv] at hu
 by_cases h1:mJ m p n w=0
 ·rw[if_neg (by simpa using h1)] at hu;have c:0≤fB (bX m p).ar n:=by
   unfold mJ at h1
   by_cases h:fB (bX m p).ar n<0
   ·rw[if_pos h] at h1;cases h1
   ·omega
  obtain⟨g,hg⟩:∃g,fD m p n=some g:=⟨_,(Cf c).1⟩;obtain⟨a1,a2,a3,a4,a5,a6,a7⟩:=uD hg;have a:=(BH hg).1 h1
  by_cases h2:0≤(jc m p n).fi∧copied m p n=false∧nU m.st (jc m p n).fi ((jc m p n).ba+n-(jc m p n).fr)=true
  ·rw[if_pos h2] at hu;cases hu
  rw[if_neg h2] at hu;have b:0≤g.fi→(aL m p n).k=0→mK m.st g.fi g.pg:=fun b1 b2=>by
   refine BL hR.pt.st b1 (hR.pt.pg hg).1 (fun h3 => ?_);rcases h3 with h3|h3
   ·have:=hF.at (p:=p) (n:=n) c;omega
   refine h2 ⟨by omega,?_,by rw[a6,a7 b1];exact h3⟩;unfold copied;rw[b2];rfl
  obtain⟨f,d,_⟩:=KA hR hC (w:=w) hp hg (fun e=>a.1 e) b
  by_cases h3:(kK m p n w).2<0
  ·rw[if_pos h3] at hu;cases hu
  have U:=d (by omega);refine⟨g,hg,?_,by show 0≤(kK m p (n) w).2;omega⟩;have:=U.mark (e:=(kK m p n w).1.e) hg;unfold oW tC;rw[bD,a3];exact this
 rw[if_pos h1] at hu;exact absurd hu h1
def AQ (B:Nat) (X:Ma) (F E:Int):nG:=⟨fun v w => ∃H',v = .tuple #[.agg (bW H'),.int .i64 F,.int .i64 E]∧qc w B H'∧H'.ma=X,fun _ _ _ hb ⟨H',h1,h2,h3⟩=>⟨H',h1,h2.below hb,h3⟩⟩
def Vb (k:Nat) (B:Nat) (X:Ma):tH:=⟨fun y w => ∃g H',y k = .pointer (some ⟨g,0,none⟩)∧B≤g∧aJ w g (bW H') 44∧qc w B H'∧H'.ma=X,[k],
 fun _ _ _ hb ⟨g,H',h1,h2,h3,h4,h5⟩=>⟨g,H',h1,h2,h3.ext hb,h4.below hb,h5⟩,fun y y' w h ⟨g,H',h1,h2⟩=>⟨g,H',by rw[←h k (bN.2 rfl)];exact h1,h2⟩⟩
theorem Ck (H:MH) (c:Cl) (n:Int) (wr:Bool) (a:Option Addr) (cap gc B b:Nat) (w:World) (h:oN w B b H) (hR:Rt H.ma) (hC:Co H.ma) (hFi:Oc H.ma) (hc:aJ w gc (mM c a cap) 25) (hrd:∀W,Below B w W→eB W a (c.da.map oG)) (hle:c.da.length≤cap) (hmx:cap≤maxLen) (hnl:a=none→cap=0) (ha64:uh c.a)
 (P:Nat) (hP:c.p=P) (hpl:P<H.sp.length) (hlv:(bX H.ma P).lv=true) :
  Calls Tryz.prog 67 #[.pointer (some ⟨b,0,none⟩),.pointer (some ⟨gc,0,none⟩),.int .i64 n,.bool wr] w (WW w B b (jU H.ma c n wr)):=by
 have gN:=ae hR;have gO:=ae hC;have gg:=ae hFi;have kV:=ae hlv;have qt:=ae hP;have qZ:=h.blk.lt;clear hR hC hFi hlv hP;go_enter func67,ntmps67;go_upto_region 1 with (fail);refine jl (fun W=>Code.wp _ _ _ _ W) fun w1 hT ax1 qA => ?_;have k1:=h.below hT;have c1:=hc.ext hT;have hD:w.grownBy w1 (some b):=Il hT;have ki:=ae h.bs;have k8:=ae hT;have gs:=ae hrd;clear h hc hT qA hrd;have gF:=c1.cell;unfold mM at gF
 go_wp2_with fail
 refine (Mm c.a n _).mono ?_;rintro r w2 ⟨rfl,rfl⟩;cases hwi:ny c.a n with
 | false=>
  have hX:Hid (jU H.ma c n wr=(H.ma,kJ 2)):=ae (by unfold jU;rw[if_pos hwi])
  go_wp2_with (refine ax rfl _ _ _ rfl w.heap.size (fT 2 0 nilV) rfl rfl _ _ ax1 rfl ans_size (bR _ _ _ _ _) ?_)
  intro we axe l;have s:=fG hD l (by omega);have ke:oN we B b H:=⟨aG k1.blk ax1 (by decide) l,k1.ge,k1.ma.keep ax1 (by decide) l⟩;go_wp2;refine bodyPost_ret (v:=.agg (fT 2 0 nilV)) (aY results67 _ _ w.heap.size _ _ _ rfl axe underlying52 rfl ans_size) rfl ?_;rw[hX.out];exact⟨nilV,rfl,Own.nil _ _ _ _,s,H,ke,rfl⟩
 | true=>
  have qU:0≤c.a∧0≤n∧n≤8∧c.a%8≤8-n:=by unfold ny at hwi;simp only[dh,decide_eq_true_eq] at hwi;omega
  obtain⟨A,hA⟩:∃A:Nat,c.a=A:=⟨c.a.toNat,by omega⟩;have q0:A≤9223372036854775807:=by have:=ha64.2;omega
  have qv:=ae hA;have hX:Hid (jU H.ma c n wr=if lS H.ma P ((A:Int) / 8) wr≠0 then (H.ma,kJ (lS H.ma P ((A:Int) / 8) wr))
    else if xx (oW H.ma P ((A:Int) / 8) wr) (aD (oW H.ma P ((A:Int) / 8) wr) (tC H.ma P ((A:Int) / 8) wr).toNat) ((A:Int)%8+n)=true then (H.ma,kJ 9)
    else if wr=true then (setFr (oW H.ma P ((A:Int) / 8) wr) (tC H.ma P ((A:Int) / 8) wr).toNat { aD (oW H.ma P ((A:Int) / 8) wr) (tC H.ma P ((A:Int) / 8) wr).toNat with p:=dw (aD (oW H.ma P ((A:Int) / 8) wr) (tC H.ma P ((A:Int) / 8) wr).toNat).p ((A:Int)%8) c.da },⟨0,n,[]⟩)
    else (oW H.ma P ((A:Int) / 8) wr,⟨0,n,qW (aD (oW H.ma P ((A:Int) / 8) wr) (tC H.ma P ((A:Int) / 8) wr).toNat).p ((A:Int)%8) n⟩)):=ae (by
   unfold jU;rw[hwi,if_neg (by simp),hA,qt.out])
  rw[hA] at gF;clear hA hwi;have qC:(A:Int).tdiv 8=(A:Int) / 8:=by rw[Int.tdiv_eq_ediv_of_nonneg (by omega)]
  have qD:(A:Int).tmod 8=(A:Int)%8:=by rw[Bu (by omega)]
  have qw:IntKind.i64.wrap ((A:Int) / 8)=(A:Int) / 8:=bP _ (by omega);have qy:IntKind.i64.wrap ((A:Int)%8)=(A:Int)%8:=bP _ (by omega);go_upto_region 3 with (fail);refine gH 12 [_,_,_,_,_,_,_,_,_,_,.v (.int .i64 ((A:Int) / 8)),.v (.int .i64 ((A:Int)%8))] (fun W=>Below w1.heap.size w1 W) bA (Below.refl _ _) (Yk bA rfl (Yk bA rfl (Yf bA gc 2 rfl rfl (Yc bA (.int .i64 (A:Int)) (fun W hb=>by simp[(c1.ext hb).cell,mM,qv.out]) rfl rfl rfl rfl (Yb bA (.int .i64 ((A:Int) / 8)) (by simp[go_sem,qC,qw]) rfl rfl rfl rfl rfl (Yk bA rfl (Yk bA rfl (Yf bA gc 2 rfl rfl (Yc bA (.int .i64 (A:Int)) (fun W hb=>by simp[(c1.ext hb).cell,mM,qv.out]) rfl rfl rfl rfl (Yb bA (.int .i64 ((A:Int)%8)) (by simp[go_sem,qD,qy]) rfl rfl rfl rfl rfl (Yk bA rfl (Yk bA rfl (aF))))))))))))) (fun _=>rfl) rfl ?_;intro y W2 hj qs;replace hj:Below w1.heap.size w1 W2:=hj;clear qs;simp only[dE,bu,bF,bI];have k2:=k1.below hj;have c2:=c1.ext hj;have ax2:=ax1.ext hj;have gt:=eT hD hj;have kL:Hid (w.heap.size≤W2.heap.size):=ae (aV k8.out.size hj.size);have k6 : Hid (Below w.heap.size w W2):=ae (fC k8.out (hj.mono k8.out.size));clear k1 c1 ax1 hD hj gF;obtain⟨X,F,E,gb⟩:∃(X:Ma) (F E:Int),Hid ((E=lS H.ma P ((A:Int) / 8) wr∧(E=0→X=oW H.ma P ((A:Int) / 8) wr∧F=tC H.ma P ((A:Int) / 8) wr))∧∀W,Below W2.heap.size W2 W→Calls Tryz.prog 116 #[.agg (bW H),.int .i64 P,.int .i64 ((A:Int) / 8),.bool wr] W fun r w'=>Below W.heap.size W w'∧∃H',r = .returned (.tuple #[.agg (bW H'),.int .i64 F,.int .i64 E])∧qc w' W.heap.size H'∧H'.ma=X):=by
   by_cases he:lS H.ma P ((A:Int) / 8) wr=0
   ·refine⟨_,_,_,ae ⟨⟨rfl,fun _=>⟨rfl,rfl⟩⟩,fun W hb=>(Jw H P ((A:Int) / 8) wr W (k2.below hb).ma.rd gN.out gO.out gg.out hpl kV.out).mono ?_⟩⟩;rintro r w' ⟨gJ,kr⟩;rcases kr with ⟨h1,_⟩|⟨_,H',rfl,ho,hm⟩
    ·exact absurd he h1
    ·exact⟨gJ,H',by rw[he],ho,hm⟩
   refine⟨zMa,0,_,ae ⟨⟨rfl,fun e=>absurd e he⟩,fun W hb=>(Jw H P ((A:Int) / 8) wr W (k2.below hb).ma.rd gN.out gO.out gg.out hpl kV.out).mono ?_⟩⟩;rintro r w' ⟨gJ,kr⟩;rcases kr with ⟨_,rfl⟩|⟨h1,_⟩
   ·exact⟨gJ,noH,rfl,uT _ _,noH_ma⟩
   ·exact absurd h1 he
  go_upto_region 4 with (fail);refine gH 19 [_,_,_,_,_,_,_,_,_,_,.r 10 ((AQ W2.heap.size X F E)),.r 11 ((AQ W2.heap.size X F E)),.r 12 ((Ah W2.heap.size X)),.v (.int .i64 F),.v (.int .i64 E),.r 15 ((eO W2.heap.size 44 11)),.y 16 ((Vb 15 W2.heap.size X)),.v (.int .i64 F),.v (.int .i64 E)] (fun W=>Below W2.heap.size W2 W) bA (Below.refl _ _) (Yk bA rfl (Yk bA rfl (Yf bA b 0 rfl rfl (Yr bA (.agg (bW H)) (fun ρ y W hb gr=>(bY rfl (aU rfl gr) ((k2.below hb).blk) underlying44 rfl mach_size)) rfl rfl (Yk bA rfl (Yk bA rfl (Yf bA gc 1 rfl rfl (Yc bA (.int .i64 (P:Int)) (fun W hb=>by simp[(c2.ext hb).cell,mM,qt.out]) rfl rfl rfl rfl (Yk bA rfl (Yk bA rfl (aj ?_ (aj ?_ (aj ?_ (aj ?_ (aj ?_ (aj ?_ (aj ?_ (Yk bA rfl (Yk bA rfl (aF)))))))))))))))))))) (fun _=>rfl) rfl ?_
  ·intro ρ y W hw hn hb hd;refine eP bA hb ((AQ W2.heap.size X F E)) (fun _ _ h=>h) ?_;have qP:=hw 37 3 rfl;have h3:y 3 = .agg (bW H):=hd 3 rfl;have qO:=hw 41 7 rfl;have h7:y 7 = .int .i64 (P:Int):=hd 7 rfl;have qN:=hw 42 8 rfl;have h8:y 8 = .int .i64 ((A:Int) / 8):=hd 8 rfl;have qM:=hw 43 9 rfl;have h9:y 9 = .bool wr:=hd 9 rfl;have EF:∀f,ρ (.func f) = .func (.func f) #[] #[]:=fun f=>hn (.func f) trivial;refine aK _ _ (ag rfl) (aQ rfl (EF _) func116 (by kernel_rfl) (by kernel_rfl) (by simp only[bT,bF,bI,qP,h3,qO,h7,qN,h8,qM,h9,EF];rfl)) ?_;refine (gb.out.2 W hb).mono ?_;rintro r w9 ⟨qI,H9,rfl,kn,ko⟩;exact⟨_,rfl,qI,H9,rfl,kn.mono hb.size,ko⟩
  ·intro ρ y W hw hn hb hd;refine eP bA hb ((AQ W2.heap.size X F E)) (fun _ _ h=>h) ?_;have qL:=hw 44 10 rfl;have gj:=hd 10 rfl;refine ak _ (ag rfl) (run_move (.inl rfl) qL) ?_;exact gj
  ·intro ρ y W hw hn hb hd;refine eP bA hb ((Ah W2.heap.size X)) (fun _ _ h=>h) ?_;have gk:=hw 33 11 rfl;have hW:=hd 11 rfl;obtain⟨H9,e9,kn,ko⟩:=hW;refine ak (.agg (bW H9)) (ag rfl) (by simp[execOp,go_sem,bu,gk,e9]) ?_;exact⟨H9,rfl,kn,ko⟩
  ·intro ρ y W hw hn hb hd;refine eP bA hb (gI (.int .i64 F)) (fun _ _ h=>h) ?_;have gk:=hw 33 11 rfl;have hW:=hd 11 rfl;obtain⟨H9,e9,kn,ko⟩:=hW;refine ak (.int .i64 F) (ag rfl) (by simp[execOp,go_sem,bu,gk,e9]) rfl
  ·intro ρ y W hw hn hb hd;refine eP bA hb (gI (.int .i64 E)) (fun _ _ h=>h) ?_;have gk:=hw 33 11 rfl;have hW:=hd 11 rfl;obtain⟨H9,e9,kn,ko⟩:=hW;refine ak (.int .i64 E) (ag rfl) (by simp[execOp,go_sem,bu,gk,e9]) rfl
  ·intro ρ y W hw hn hb hd;refine eP bA hb ((eO W2.heap.size 44 11)) (fun _ _ h=>h) ?_;refine gz (.pointer (some ⟨W.heap.size,0,none⟩)) (ag rfl) (by simp[execOp,go_sem,bu];rfl) ((Below.refl _ _).alloc (az _) (.cells (bW noH) 44)) ?_;exact⟨_,_,rfl,hb.size,aJ.new _ _ _,rfl⟩
  ·intro ρ y W hw hn hb hd;have hY:=hw 11 15 rfl;have gh:=hd 15 rfl;have qK:=hw 45 12 rfl;have gi:=hd 12 rfl;obtain⟨H9,e9,kn,ko⟩:=gi;obtain⟨g3,cur3,e3,qn,kx,qg⟩:=gh;refine iZ (ag rfl) _ _ _ rfl g3 0 (.agg (bW H9)) (bW H9).toList (hY.trans e3) (qK.trans e9) rfl cur3 _ kx (by rw[qg];exact az _) mach_size (fun u hu=>by have:=eU H9;rw[←iA,cK] at this;exact this u hu) ?_;intro w2 kL kw;rw[dU cur3 _ (by rw[qg];rfl)] at kL;refine⟨hb.grown kw hb.size (fun k hk=>by cases hk;exact qn),⟨g3,H9,e3,qn,kL,kn.keep kx (by decide) kw,ko⟩,?_⟩;intro k hk gy
   match k,hk,gy with
   | 0,_,_=>exact fun h=>h
   | 1,_,_=>exact fun h=>h
   | 2,_,_=>exact fun h=>h
   | 3,_,_=>exact fun h=>h
   | 4,_,_=>exact fun h=>h
   | 5,_,_=>exact fun h=>h
   | 6,_,_=>exact fun h=>h
   | 7,_,_=>exact fun h=>h
   | 8,_,_=>exact fun h=>h
   | 9,_,_=>exact fun h=>h
   | 10,_,_=>exact fun⟨H8,q1,q2,q3⟩=>⟨H8,q1,q2.keep kx (by decide) kw,q3⟩
   | 11,_,_=>exact fun⟨H8,q1,q2,q3⟩=>⟨H8,q1,q2.keep kx (by decide) kw,q3⟩
   | 12,_,_=>exact fun⟨H8,q1,q2,q3⟩=>⟨H8,q1,q2.keep kx (by decide) kw,q3⟩
   | 13,_,_=>exact fun h=>h
   | 14,_,_=>exact fun h=>h
   | 15,_,_=>exact fun q=>iy q kL (fun _=>rfl) ⟨_,kx⟩ kw
   | 16,_,h=>exact absurd rfl h
   | 17,_,_=>exact fun h=>h
   | 18,_,_=>exact fun h=>h
   | n+19,h,_=>exact absurd h (by omega)
  intro y W3 hp hN;replace hp:Below W2.heap.size W2 W3:=hp;have ht:((AQ W2.heap.size X F E)).r (y 10) W3:=hN 10 (by decide);have hs:((AQ W2.heap.size X F E)).r (y 11) W3:=hN 11 (by decide);have hr:((Ah W2.heap.size X)).r (y 12) W3:=hN 12 (by decide);have hK:((eO W2.heap.size 44 11)).r (y 15) W3:=hN 15 (by decide);have hg:=hN 16 (by decide);clear hN;simp only[dE,bu,bF,bI];obtain⟨gm,H2,em,ql,mx3,qi,qj⟩:=hg;have hh:=ae qj;have k3:=k2.below hp;have c3:=c2.ext hp;have ax3:=ax2.ext hp;have kW:=eT gt hp;have kS : qc W3 w.heap.size H2:=qi.mono kL.out;have qS:Hid (w.heap.size<gm):=ae (nM ax2.lt ql);have kZ:=ae hp;rw[em];clear k2 c2 ax2 gt qi qj hp ql em hr ht hs
  by_cases hE:E=0
  ·obtain⟨e1,e2⟩:=gb.out.1.2 hE;have gv:lS H.ma P ((A:Int) / 8) wr=0:=by rw[←gb.out.1.1];exact hE
   obtain⟨pg,qV,hU,qJ⟩:=Tm gN.out gO.out gg.out (w:=wr) (n:=(A:Int) / 8) (by rw[tQ];exact hpl) kV.out gv;rw[←e1,←e2] at hU;rw[←e2] at qJ;obtain⟨g,qF⟩:∃g:Nat,F=g:=⟨F.toNat,by omega⟩;have e1':=ae e1;have e2':=ae e2;have qd:=ae gv;clear e1 e2 gv;subst qF;have hQ:g<H2.m.fs.length:=by
    obtain⟨_,_,kY⟩:=hU.rt.en P ((A:Int) / 8) (by rw[hU.k1];decide);have:=kY.lt hU.k1;rw[hU.en] at this;have e:X.m.fs.length=H2.m.fs.length:=by rw[←hh.out];rfl
    omega
   have qX:(g:Int)<(H2.m.fs.length:Int):=by omega
   obtain⟨gf,of,cur,gK,qm,qp,kY,hrd,qe⟩:=kS.frPut hQ;have ha:=ae gK;have qT:=ae qm;have hL:eB W3 (some ⟨gf,of+g*13,none⟩) (oH (aD H2.ma g)):=hrd;clear qm;obtain⟨Fx,ky⟩:∃Fx,Hid (Fx=aD H2.ma g):=⟨_,ae rfl⟩;rw[←ky.out] at hrd;have hl:=mx3.cell;unfold bW at hl;rw[gK] at hl;clear qe qp kY gK;rw[hE];go_upto_region 7 with (fail)
   go_wp2_with (first | (refine aC _ _ rfl gf (of+g*13) rfl rfl _ hrd _ underlying132 rfl frame_size ?_) | (refine aT rfl _ _ _ rfl (xV Fx) rfl rfl rfl frame_size (uf Fx) ?_))
   intro w4 hS fx4;have k4:=k3.below hS;have c4:=c3.ext hS;have ax4:=ax3.ext hS;have kd:=eT kW hS;have mx4:=mx3.ext hS;have kR:=kS.below hS;have qE:Hid (gm<W3.heap.size):=ae mx3.lt;have hM:Hid (Below w.heap.size w w4):=ae (fC (fC k6.out (kZ.out.mono k6.out.size)) (hS.mono (aV k6.out.size kZ.out.size)));have hL:=hL.below hS;clear k3 c3 ax3 kW mx3 kS hS hl hrd;generalize W3.heap.size=gp at fx4 qE;have qh:Hid (xx X Fx ((A:Int)%8+n)=(decide (0≤Fx.f)&&decide ((aH X.st Fx.f).n<Fx.i*8+((A:Int)%8+n)))):=ae rfl;have gL:Hid (aD X g=Fx):=ae (by rw[ky.out,hh.out]);have ga:Hid (jU H.ma c n wr=if xx X Fx ((A:Int)%8+n)=true then (H.ma,kJ 9) else if wr=true then (setFr X g { Fx with p:=dw Fx.p ((A:Int)%8) c.da },⟨0,n,[]⟩) else (X,⟨0,n,qW Fx.p ((A:Int)%8) n⟩)):=ae (by rw[hX.out,if_neg (show ¬lS H.ma P ((A:Int) / 8) wr≠0 from fun e=>e qd.out),←e1'.out,←e2'.out,bD,gL.out]);clear hX
   by_cases hf0:Fx.f<0
   ·have d0:decide (0≤Fx.f)=false:=decide_eq_false (by omega);have kv:Hid (xx X Fx ((A:Int)%8+n)=false):=ae (by rw[qh.out,d0];rfl);go_upto_region 8 with (fail);refine aP 21 [_,_,_,_,_,_,_,_,_,_,_,_,_,_,_,_,_,_,_,_,.v (.bool false)] (Gf gp (8+3) rfl rfl (Gl fx4 (V:=.int .i64 Fx.f) (by simp[xV]) rfl rfl rfl rfl (Gb (.bool false) (by simp[go_sem,d0]) rfl rfl rfl rfl rfl (Gk rfl (Gk rfl (Gk rfl (Gk rfl (Gk rfl (Gk rfl (Gk rfl (Gk rfl (Gk rfl (Gk rfl (Gk rfl (Gk rfl (Gk rfl (Gk rfl (Gk rfl (Gk rfl (Gk rfl (Gk rfl (aF)))))))))))))))))))))) (fun _=>rfl) rfl ?_;intro y W5 j _;have k5:=k4.below j;have c5:=c4.ext j;have ax5:=ax4.ext j;have kc:=eT kd j;have mx5:=mx4.ext j;have kQ:=kR.below j;have kM:=hL.below j;have k9:Hid (jU H.ma c n wr=if wr=true then (setFr X g { Fx with p:=dw Fx.p ((A:Int)%8) c.da },⟨0,n,[]⟩) else (X,⟨0,n,qW Fx.p ((A:Int)%8) n⟩)):=ae (by rw[ga.out,kv.out];rfl);have hH:Hid (Below w.heap.size w W5):=ae (fC hM.out (j.mono hM.out.size));clear ga kv k4 c4 ax4 kd mx4 kR fx4 j hM hL
    go_wp2_with (first | (refine aC _ _ rfl gm 0 rfl rfl (bW H2).toList mx5.rd _ underlying44 rfl mach_size ?_) | (refine ax rfl _ _ _ rfl b (bW H2) rfl rfl _ _ k5.blk rfl mach_size (eU _) ?_))
    intro w6 kx6 hf;have hz:=kQ.keep k5.blk (by decide) hf;have ax6:=aG ax5 k5.blk (by decide) hf;have c6:=aG c5 k5.blk (by decide) hf;have mx6:=aG mx5 k5.blk (by decide) hf;have hi:=tJ kc hf;have kg:=ae k5.ge;have k0:Hid (Below B w w6):=ae ((hH.out.mono ki.out).grown hf (aV ki.out hH.out.size) (fun k hk=>by cases hk;exact k5.ge));clear hf k5 kQ ax5 c5 mx5 kc kM hH;have hl:=mx6.cell;unfold bW at hl;rw[ha.out] at hl;have hG:=c6.cell;unfold mM at hG;have hy:=gs.out w6 k0.out;obtain⟨gf2,of2,cur2,kh,kX,ks,kq,hx,kl⟩:=hz.frPut hQ;have hJ:=kh;rw[ha.out] at hJ;simp only[gY,sI,and_true] at hJ;obtain⟨rfl,rfl⟩:=hJ;rw[←ky.out] at hx;have hO:eB w6 (some ⟨gf,of+g*13,none⟩) (gQ Fx.p).toList:=mW hx 0 8;clear kh kX ks kq kl hx;cases wr with
    | false=>
     have kt:Hid (jU H.ma c n false=(X,⟨0,n,qW Fx.p ((A:Int)%8) n⟩)):=ae (by rw[k9.out];rfl)
     go_wp2_with (refine aC _ _ rfl gf (of+g*13) rfl rfl _ hO _ underlying100 rfl psize ?_)
     refine (MV Fx.p ((A:Int)%8) n _).mono ?_;rintro r w7 ⟨v,rfl,km,z⟩;obtain⟨ad,cd,rfl,_⟩:=km.rd;have ax7:=ax6.ext z;have hB:=eT hi z;have k7:oN w7 B b H2:=⟨kx6.ext z,kg.out,(hz.below z).mono ki.out⟩;have kO:=km.mono k0.out.size;clear kx6 hz ax6 c6 mx6 hi z hl hG hy hO km
     go_wp2_with (refine ax rfl _ _ _ rfl w.heap.size (fT 0 n (.slice ad (qW Fx.p ((A:Int)%8) n).length cd)) rfl rfl _ _ ax7 rfl ans_size (bR _ _ _ _ _) ?_)
     intro we axe l;have s:=fG hB l (az _);have ke:oN we B b H2:=k7.keepT ax7 (by decide) (by decide) l;have gx:=ay kO ax7 (by decide) l;go_wp2;refine bodyPost_ret (v:=.agg (fT 0 n (.slice ad (qW Fx.p ((A:Int)%8) n).length cd))) (aY results67 _ _ w.heap.size _ _ _ rfl axe underlying52 rfl ans_size) rfl ?_;rw[kt.out];exact⟨_,rfl,gx,s,H2,ke,hh.out⟩
    | true=>
     obtain⟨Pn,gd⟩:∃Pn,Hid (Pn=dw Fx.p ((A:Int)%8) c.da):=⟨_,ae rfl⟩;have kt:Hid (jU H.ma c n true=(setFr X g { Fx with p:=Pn },⟨0,n,[]⟩)):=ae (by rw[k9.out,gd.out];rfl);clear hl hG;go_upto_region 12 with (fail);refine vR 19 20 [] [gI (.pointer (some ⟨gm,0,none⟩)),gI (.pointer (some ⟨gm,0,none⟩)),gI (.slice (some ⟨gf,of,none⟩) H2.m.fs.length H2.cf),gI (.int .i64 (g:Int)),gI (.pointer (some ⟨gm,0,none⟩)),gI (.pointer (some ⟨gm,0,none⟩)),gI (.slice (some ⟨gf,of,none⟩) H2.m.fs.length H2.cf),gI (.int .i64 (g:Int)),gI (.pointer (some ⟨gf,of+g*13,none⟩)),gI (.pointer (some ⟨gf,of+g*13,none⟩)),gI (.agg (gQ Fx.p)),gI (.int .i64 ((A:Int)%8)),gI (.pointer (some ⟨gc,0,none⟩)),gI (.pointer (some ⟨gc,0,none⟩)),gI (.pointer (some ⟨gc,9,none⟩)),gI (.slice a c.da.length cap),gI (.agg (gQ Pn)),gI (.pointer (some ⟨gf,of+g*13,none⟩)),gI (.pointer (some ⟨gf,of+g*13,none⟩))] (by kernel_rfl) (by kernel_rfl) (by kernel_rfl) (by kernel_rfl) (by kernel_rfl) (by kernel_rfl) (by decide) (by decide) _ rfl (by kernel_rfl) (aj ?_ (aj ?_ (aj ?_ (aj ?_ (aj ?_ (aj ?_ (aj ?_ (aj ?_ (aj ?_ (aj ?_ (aj ?_ (aj ?_ (aj ?_ (aj ?_ (aj ?_ (aj ?_ (aj ?_ (aj ?_ (aj ?_ (aF)))))))))))))))))))) (aF) rfl ?_
     ·refine aB rfl ?_;intro ρ y W hw hn hb hd;have hY:ρ (.tmp 11) = .pointer (some ⟨gm,0,none⟩):=(hn (.tmp 11) rfl).trans rfl;refine ak (.pointer (some ⟨gm,0,none⟩)) (ag rfl) (by simp[execOp,go_sem,hY]) rfl
     ·refine aB rfl ?_;intro ρ y W hw hn hb hd;have g9:=hw 85 0 rfl;have h0:y 0 = .pointer (some ⟨gm,0,none⟩):=hd 0 rfl;refine ak (.pointer (some ⟨gm,0,none⟩)) (ag rfl) (by simp[execOp,go_sem,g9,h0]) rfl
     ·refine aB rfl ?_;intro ρ y W hw hn hb hd;have g8:=hw 86 1 rfl;have h1:y 1 = .pointer (some ⟨gm,0,none⟩):=hd 1 rfl;refine ak (.slice (some ⟨gf,of,none⟩) H2.m.fs.length H2.cf) (ag rfl) (by simp[execOp,go_sem,g8,h1,(mx6.ext hb).cell,bW,ha.out]) rfl
     ·refine aB rfl ?_;intro ρ y W hw hn hb hd;have ku:ρ (.tmp 12) = .int .i64 (g:Int):=(hn (.tmp 12) rfl).trans rfl;refine ak (.int .i64 (g:Int)) (ag rfl) (run_move (.inl rfl) ku) rfl
     ·refine aB rfl ?_;intro ρ y W hw hn hb hd;have hY:ρ (.tmp 11) = .pointer (some ⟨gm,0,none⟩):=(hn (.tmp 11) rfl).trans rfl;refine ak (.pointer (some ⟨gm,0,none⟩)) (ag rfl) (by simp[execOp,go_sem,hY]) rfl
     ·refine aB rfl ?_;intro ρ y W hw hn hb hd;have g5:=hw 89 4 rfl;have h4:y 4 = .pointer (some ⟨gm,0,none⟩):=hd 4 rfl;refine ak (.pointer (some ⟨gm,0,none⟩)) (ag rfl) (by simp[execOp,go_sem,g5,h4]) rfl
     ·refine aB rfl ?_;intro ρ y W hw hn hb hd;have g4:=hw 90 5 rfl;have h5:y 5 = .pointer (some ⟨gm,0,none⟩):=hd 5 rfl;refine ak (.slice (some ⟨gf,of,none⟩) H2.m.fs.length H2.cf) (ag rfl) (by simp[execOp,go_sem,g4,h5,(mx6.ext hb).cell,bW,ha.out]) rfl
     ·refine aB rfl ?_;intro ρ y W hw hn hb hd;have ku:ρ (.tmp 12) = .int .i64 (g:Int):=(hn (.tmp 12) rfl).trans rfl;refine ak (.int .i64 (g:Int)) (ag rfl) (run_move (.inl rfl) ku) rfl
     ·refine aB rfl ?_;intro ρ y W hw hn hb hd;have g2:=hw 91 6 rfl;have h6:y 6 = .slice (some ⟨gf,of,none⟩) H2.m.fs.length H2.cf:=hd 6 rfl;have g1:=hw 92 7 rfl;have h7:y 7 = .int .i64 (g:Int):=hd 7 rfl;refine ak (.pointer (some ⟨gf,of+g*13,none⟩)) (ag rfl) (eX rfl (g2.trans h6) (g1.trans h7) hQ underlying29 frame_size) rfl
     ·refine aB rfl ?_;intro ρ y W hw hn hb hd;have g0:=hw 93 8 rfl;have h8:y 8 = .pointer (some ⟨gf,of+g*13,none⟩):=hd 8 rfl;refine ak (.pointer (some ⟨gf,of+g*13,none⟩)) (ag rfl) (by simp[execOp,go_sem,g0,h8]) rfl
     ·refine aB rfl ?_;intro ρ y W hw hn hb hd;have gZ:=hw 94 9 rfl;have h9:y 9 = .pointer (some ⟨gf,of+g*13,none⟩):=hd 9 rfl;refine ak (.agg (gQ Fx.p)) (ag rfl) (bG rfl (gZ.trans h9) (hO.below hb) underlying100 rfl psize) rfl
     ·refine aB rfl ?_;intro ρ y W hw hn hb hd;have qa:ρ (.tmp 10) = .int .i64 ((A:Int)%8):=(hn (.tmp 10) rfl).trans rfl;refine ak (.int .i64 ((A:Int)%8)) (ag rfl) (run_move (.inl rfl) qa) rfl
     ·refine aB rfl ?_;intro ρ y W hw hn hb hd;have E1:ρ (.tmp 1) = .pointer (some ⟨gc,0,none⟩):=(hn (.tmp 1) rfl).trans rfl;refine ak (.pointer (some ⟨gc,0,none⟩)) (ag rfl) (run_move (.inl rfl) E1) rfl
     ·refine aB rfl ?_;intro ρ y W hw hn hb hd;have gV:=hw 97 12 rfl;have gi:y 12 = .pointer (some ⟨gc,0,none⟩):=hd 12 rfl;refine ak (.pointer (some ⟨gc,0,none⟩)) (ag rfl) (by simp[execOp,go_sem,gV,gi]) rfl
     ·refine aB rfl ?_;intro ρ y W hw hn hb hd;have gU:=hw 98 13 rfl;have gS:y 13 = .pointer (some ⟨gc,0,none⟩):=hd 13 rfl;refine ak (.pointer (some ⟨gc,9,none⟩)) (ag rfl) (by simp[execOp,go_sem,gU,gS]) rfl
     ·refine aB rfl ?_;intro ρ y W hw hn hb hd;have gT:=hw 99 14 rfl;have gR:y 14 = .pointer (some ⟨gc,9,none⟩):=hd 14 rfl;refine ak (.slice a c.da.length cap) (ag rfl) (by simp[execOp,go_sem,gT,gR,(c6.ext hb).cell,mM]) rfl
     ·refine aB rfl ?_;intro ρ y W hw hn hb hd;have gX:=hw 95 10 rfl;have gj:y 10 = .agg (gQ Fx.p):=hd 10 rfl;have gW:=hw 96 11 rfl;have hW:y 11 = .int .i64 ((A:Int)%8):=hd 11 rfl;have gn:=hw 100 15 rfl;have gh:y 15 = .slice a c.da.length cap:=hd 15 rfl;have EF:∀f,ρ (.func f) = .func (.func f) #[] #[]:=fun f=>hn (.func f) trivial;refine aK _ _ (ag rfl) (aQ rfl (EF _) func117 (by kernel_rfl) (by kernel_rfl) (by simp only[bT,bF,bI,gX,gj,gW,hW,gn,gh,EF];rfl)) ?_;refine (Nw Fx.p ((A:Int)%8) a c.da cap W (hy.below hb)).mono ?_;rintro r w1 ⟨rfl,hT⟩;exact⟨_,rfl,hT,by rw[gd.out];rfl⟩
     ·refine aB rfl ?_;intro ρ y W hw hn hb hd;have g7:=hw 87 2 rfl;have h2:y 2 = .slice (some ⟨gf,of,none⟩) H2.m.fs.length H2.cf:=hd 2 rfl;have g6:=hw 88 3 rfl;have h3:y 3 = .int .i64 (g:Int):=hd 3 rfl;refine ak (.pointer (some ⟨gf,of+g*13,none⟩)) (ag rfl) (eX rfl (g7.trans h2) (g6.trans h3) hQ underlying29 frame_size) rfl
     ·refine aB rfl ?_;intro ρ y W hw hn hb hd;have gl:=hw 102 17 rfl;have gP:y 17 = .pointer (some ⟨gf,of+g*13,none⟩):=hd 17 rfl;refine ak (.pointer (some ⟨gf,of+g*13,none⟩)) (ag rfl) (by simp[execOp,go_sem,gl,gP]) rfl
     intro ρ y WA o ho hw hn hV x d;cases ho;have kK:y 0 = .pointer (some ⟨gm,0,none⟩):=d 0 (by decide);have kI:y 1 = .pointer (some ⟨gm,0,none⟩):=d 1 (by decide);have kH:y 2 = .slice (some ⟨gf,of,none⟩) H2.m.fs.length H2.cf:=d 2 (by decide);have kG:y 3 = .int .i64 (g:Int):=d 3 (by decide);have kE:y 4 = .pointer (some ⟨gm,0,none⟩):=d 4 (by decide);have kD:y 5 = .pointer (some ⟨gm,0,none⟩):=d 5 (by decide);have kC:y 6 = .slice (some ⟨gf,of,none⟩) H2.m.fs.length H2.cf:=d 6 (by decide);have kB:y 7 = .int .i64 (g:Int):=d 7 (by decide);have kA:y 8 = .pointer (some ⟨gf,of+g*13,none⟩):=d 8 (by decide);have kz:y 9 = .pointer (some ⟨gf,of+g*13,none⟩):=d 9 (by decide);have ht:y 10 = .agg (gQ Fx.p):=d 10 (by decide);have hs:y 11 = .int .i64 ((A:Int)%8):=d 11 (by decide);have hr:y 12 = .pointer (some ⟨gc,0,none⟩):=d 12 (by decide);have kb:y 13 = .pointer (some ⟨gc,0,none⟩):=d 13 (by decide);have ka:y 14 = .pointer (some ⟨gc,9,none⟩):=d 14 (by decide);have hK:y 15 = .slice a c.da.length cap:=d 15 (by decide);have hg:y 16 = .agg (gQ Pn):=d 16 (by decide);have hZ:y 17 = .pointer (some ⟨gf,of+g*13,none⟩):=d 17 (by decide);have hq:y 18 = .pointer (some ⟨gf,of+g*13,none⟩):=d 18 (by decide);have kj:=hw 103 18 rfl;rw[hq] at kj;have kk:=hw 101 16 rfl;rw[hg] at kk;have EC:∀v,ρ (.const v)=v:=fun v=>hn (.const v) trivial;have EF:∀f,ρ (.func f) = .func (.func f) #[] #[]:=fun f=>hn (.func f) trivial;obtain⟨gf4,of4,cur4,hI,kf,t,kp,_,hv⟩:=(hz.below x).frPut hQ;rw[ha.out] at hI;simp only[gY,sI,and_true] at hI;obtain⟨rfl,rfl⟩:=hI;refine LV (ag rfl) _ _ _ rfl gf (of+g*13) _ (gQ Pn).toList kj kk rfl _ _ t (by show of+g*13+8≤_;omega) psize (gG (qf _)) ?_;intro w7 z hF;clear d hw hn hV;simp only[lay,Nat.reduceAdd,Nat.reduceLT,Nat.reduceEqDiff,reduceIte,decide_true,decide_false,if_true,pq,if_false,rR,sj,rW,qY,rE,rH,kK,kI,kH,kG,kE,kD,kC,kB,kA,kz,ht,hs,hr,kb,ka,hK,hg,hZ,hq];clear kK kI kH kG kE kD kC kB kA kz ht hs hr kb ka hK hg hZ hq;have kP:=hv 0 8 (gQ Pn).toList { Fx with p:=Pn } w7 rfl (by decide) (by rw[←ky.out];rfl) z hF;have ax7:=aG (ax6.ext x) t (by decide) hF;have hB:=fG (eT hi x) hF kf;have kx7:=aG (kx6.ext x) t (by decide) hF;have kT:bW { H2 with m:=⟨H2.m.fs.set g { Fx with p:=Pn },H2.m.hand⟩ }=bW H2:=by unfold bW;simp only[dM]
     rw[←kT] at kx7;have kU:Hid (MH.ma { H2 with m:=⟨H2.m.fs.set g { Fx with p:=Pn },H2.m.hand⟩ }=setFr X g { Fx with p:=Pn }):=ae (by rw[←hh.out];rfl);clear kT hv t kp z hF x hO kx6 hz ax6 c6 mx6 hi hy kf;generalize ({ H2 with m:=⟨H2.m.fs.set g { Fx with p:=Pn },H2.m.hand⟩ }:MH)=H7 at *
     have k7:oN w7 B b H7:=⟨kx7,kg.out,kP.mono ki.out⟩;clear kx7 kP
     go_wp2_with (refine ax rfl _ _ _ rfl w.heap.size (fT 0 n nilV) rfl rfl _ _ ax7 rfl ans_size (bR _ _ _ _ _) ?_)
     intro we axe l;have s:=fG hB l (az _);have ke:oN we B b H7:=k7.keepT ax7 (by decide) (by decide) l;go_wp2;refine bodyPost_ret (v:=.agg (fT 0 n nilV)) (aY results67 _ _ w.heap.size _ _ _ rfl axe underlying52 rfl ans_size) rfl ?_;rw[kt.out];exact⟨nilV,rfl,Own.nil _ _ _ _,s,H7,ke,kU.out⟩
   have d0:decide (0≤Fx.f)=true:=decide_eq_true (by omega);have gA:Hid (Fx.f.toNat<H2.fi.length∧0≤Fx.f∧0≤Fx.i∧Fx.i<12):=ae (by
    have e9:X.m.fs.length=H2.m.fs.length:=by rw[←hh.out];rfl
    obtain⟨cc,qo,qH⟩:=hU.rt.fc g (by omega) (by rw[gL.out];omega);have gE:=hU.rt.ca.fr cc qo;rw[qH,bD,gL.out] at gE;have gq:=hU.rt.ca.file cc qo;rw[←gE.2.1,←gE.2.2] at gq;have qQ:=zI hU.rt.pt.st gq;have e:X.st.fs.length=H2.fi.length:=by rw[←hh.out];exact fP _
    have h1:=gq.1;have h2:=gq.2;omega)
   obtain⟨f,gD⟩:∃f:Nat,Fx.f=f:=⟨Fx.f.toNat,by omega⟩;obtain⟨i,gB⟩:∃i:Nat,Fx.i=i:=⟨Fx.i.toNat,by have:=gA.out;omega⟩;have gC:f<H2.fi.length:=by have:=gA.out;omega
   have qR:i<12:=by have:=gA.out;omega
   obtain⟨bf,obf,qr,kN⟩:=pG nk (by decide) kR.rd.st.rd f gC;obtain⟨pf,gw⟩:∃pf,H2.fi[f]?=some pf:=⟨_,aN gC⟩;rw[show H2.fi[f]=pf from (dx.1 gw).2] at kN;have qG:Hid ((aH X.st (f:Int)).n=pf.n):=ae (by rw[←hh.out];unfold aH;rw[if_pos (by omega)];show ((H2.fi.map PF.fi).getD f ⟨0,[]⟩).n=pf.n;rw[bM,iY,gw];rfl);have qq:=ae qr;have qB:Hid (∀W,Below w4.heap.size w4 W→W.cell? ⟨bf,obf+f*2,none⟩=some (.int .i64 pf.n)):=ae (fun W hb=>by have:=GI (kN.below hb) (k:=0) (u:=.int .i64 pf.n) rfl;simpa using this);clear qr kN gw;have qb:IntKind.i64.wrap ((i:Int)*8)=(i:Int)*8:=bP _ (by omega);have qz:IntKind.i64.wrap ((i:Int)*8+(A:Int)%8)=(i:Int)*8+(A:Int)%8:=bP _ (by omega);have qx:IntKind.i64.wrap ((i:Int)*8+(A:Int)%8+n)=(i:Int)*8+(A:Int)%8+n:=bP _ (by omega);obtain⟨BB,qu⟩:∃BB,Hid (decide (pf.n<(i:Int)*8+(A:Int)%8+n)=BB):=⟨_,ae rfl⟩;have gu:=ae gD;have qk:=ae gB;have d0' : decide ((0:Int)≤(f:Int))=true:=decide_eq_true (by omega);have kv:Hid (xx X Fx ((A:Int)%8+n)=BB):=ae (by rw[qh.out,d0,gD,qG.out,gB,←qu.out,kF];congr 1;rw[Int.add_assoc]);clear gD gB d0;go_upto_region 8 with (fail);refine aP 21 [_,_,_,_,_,_,_,_,_,_,_,_,_,_,_,_,_,_,_,_,.v (.bool BB)] (Gf gp (8+3) rfl rfl (Gl fx4 (V:=.int .i64 (f:Int)) (by simp[xV,gu.out]) rfl rfl rfl rfl (Gb (.bool true) (by simp[go_sem,d0']) rfl rfl rfl rfl rfl (Gk rfl (Gf gp (8+4) rfl rfl (Gl fx4 (V:=.int .i64 (i:Int)) (by simp[xV,qk.out]) rfl rfl rfl rfl (Gb (.int .i64 ((i:Int)*8)) (by simp[go_sem,qb]) rfl rfl rfl rfl rfl (Gk rfl (Gb (.int .i64 ((i:Int)*8+(A:Int)%8)) (by simp[go_sem,qz]) rfl rfl rfl rfl rfl (Gk rfl (Gb (.int .i64 ((i:Int)*8+(A:Int)%8+n)) (by simp[go_sem,qx]) rfl rfl rfl rfl rfl (Gf gm 7 rfl rfl (Gf gm 7 rfl rfl (Gl mx4 (V:=.slice (some ⟨bf,obf,none⟩) H2.fi.length H2.ci) (by simp[bW,qq.out]) rfl rfl rfl rfl (Gf gp (8+3) rfl rfl (Gl fx4 (V:=.int .i64 (f:Int)) (by simp[xV,gu.out]) rfl rfl rfl rfl (Gr (.pointer (some ⟨bf,obf+f*2,none⟩)) (fun ρ y W hb gr=>(eX rfl (aU rfl gr) (aU rfl gr) gC underlying38 file_size)) rfl rfl (Gf bf (obf+f*2) rfl rfl (Gc (.int .i64 pf.n) (fun W hb=>by simp[qB.out W hb]) rfl rfl rfl rfl (Gb (.bool BB) (by simp[go_sem,qu.out]) rfl rfl rfl rfl rfl (Gk rfl (aF)))))))))))))))))))))) (fun _=>rfl) rfl ?_;intro y W5 j _;cases BB with
   | true=>
    have gM:Hid (jU H.ma c n wr=(H.ma,kJ 9)):=ae (by rw[ga.out,if_pos kv.out]);have k1:=k4.below j;have ax1:=ax4.ext j;have hD:=eT kd j
    go_wp2_with (refine ax rfl _ _ _ rfl w.heap.size (fT 9 0 nilV) rfl rfl _ _ ax1 rfl ans_size (bR _ _ _ _ _) ?_)
    intro we axe l;have s:=fG hD l (by omega);have ke:oN we B b H:=⟨aG k1.blk ax1 (by decide) l,k1.ge,k1.ma.keep ax1 (by decide) l⟩;go_wp2;refine bodyPost_ret (v:=.agg (fT 9 0 nilV)) (aY results67 _ _ w.heap.size _ _ _ rfl axe underlying52 rfl ans_size) rfl ?_;rw[gM.out];exact⟨nilV,rfl,Own.nil _ _ _ _,s,H,ke,rfl⟩
   | false=>
    have k5:=k4.below j;have c5:=c4.ext j;have ax5:=ax4.ext j;have kc:=eT kd j;have mx5:=mx4.ext j;have kQ:=kR.below j;have kM:=hL.below j;have k9:Hid (jU H.ma c n wr=if wr=true then (setFr X g { Fx with p:=dw Fx.p ((A:Int)%8) c.da },⟨0,n,[]⟩) else (X,⟨0,n,qW Fx.p ((A:Int)%8) n⟩)):=ae (by rw[ga.out,kv.out];rfl);have hH:Hid (Below w.heap.size w W5):=ae (fC hM.out (j.mono hM.out.size));clear ga kv k4 c4 ax4 kd mx4 kR fx4 j hM hL
    go_wp2_with (first | (refine aC _ _ rfl gm 0 rfl rfl (bW H2).toList mx5.rd _ underlying44 rfl mach_size ?_) | (refine ax rfl _ _ _ rfl b (bW H2) rfl rfl _ _ k5.blk rfl mach_size (eU _) ?_))
    intro w6 kx6 hf;have hz:=kQ.keep k5.blk (by decide) hf;have ax6:=aG ax5 k5.blk (by decide) hf;have c6:=aG c5 k5.blk (by decide) hf;have mx6:=aG mx5 k5.blk (by decide) hf;have hi:=tJ kc hf;have kg:=ae k5.ge;have k0:Hid (Below B w w6):=ae ((hH.out.mono ki.out).grown hf (aV ki.out hH.out.size) (fun k hk=>by cases hk;exact k5.ge));clear hf k5 kQ ax5 c5 mx5 kc kM hH;have hl:=mx6.cell;unfold bW at hl;rw[ha.out] at hl;have hG:=c6.cell;unfold mM at hG;have hy:=gs.out w6 k0.out;obtain⟨gf2,of2,cur2,kh,kX,ks,kq,hx,kl⟩:=hz.frPut hQ;have hJ:=kh;rw[ha.out] at hJ;simp only[gY,sI,and_true] at hJ;obtain⟨rfl,rfl⟩:=hJ;rw[←ky.out] at hx;have hO:eB w6 (some ⟨gf,of+g*13,none⟩) (gQ Fx.p).toList:=mW hx 0 8;clear kh kX ks kq kl hx;cases wr with
    | false=>
     have kt:Hid (jU H.ma c n false=(X,⟨0,n,qW Fx.p ((A:Int)%8) n⟩)):=ae (by rw[k9.out];rfl)
     go_wp2_with (refine aC _ _ rfl gf (of+g*13) rfl rfl _ hO _ underlying100 rfl psize ?_)
     refine (MV Fx.p ((A:Int)%8) n _).mono ?_;rintro r w7 ⟨v,rfl,km,z⟩;obtain⟨ad,cd,rfl,_⟩:=km.rd;have ax7:=ax6.ext z;have hB:=eT hi z;have k7:oN w7 B b H2:=⟨kx6.ext z,kg.out,(hz.below z).mono ki.out⟩;have kO:=km.mono k0.out.size;clear kx6 hz ax6 c6 mx6 hi z hl hG hy hO km
     go_wp2_with (refine ax rfl _ _ _ rfl w.heap.size (fT 0 n (.slice ad (qW Fx.p ((A:Int)%8) n).length cd)) rfl rfl _ _ ax7 rfl ans_size (bR _ _ _ _ _) ?_)
     intro we axe l;have s:=fG hB l (az _);have ke:oN we B b H2:=k7.keepT ax7 (by decide) (by decide) l;have gx:=ay kO ax7 (by decide) l;go_wp2;refine bodyPost_ret (v:=.agg (fT 0 n (.slice ad (qW Fx.p ((A:Int)%8) n).length cd))) (aY results67 _ _ w.heap.size _ _ _ rfl axe underlying52 rfl ans_size) rfl ?_;rw[kt.out];exact⟨_,rfl,gx,s,H2,ke,hh.out⟩
    | true=>
     obtain⟨Pn,gd⟩:∃Pn,Hid (Pn=dw Fx.p ((A:Int)%8) c.da):=⟨_,ae rfl⟩;have kt:Hid (jU H.ma c n true=(setFr X g { Fx with p:=Pn },⟨0,n,[]⟩)):=ae (by rw[k9.out,gd.out];rfl);clear hl hG;go_upto_region 12 with (fail);refine vR 19 20 [] [gI (.pointer (some ⟨gm,0,none⟩)),gI (.pointer (some ⟨gm,0,none⟩)),gI (.slice (some ⟨gf,of,none⟩) H2.m.fs.length H2.cf),gI (.int .i64 (g:Int)),gI (.pointer (some ⟨gm,0,none⟩)),gI (.pointer (some ⟨gm,0,none⟩)),gI (.slice (some ⟨gf,of,none⟩) H2.m.fs.length H2.cf),gI (.int .i64 (g:Int)),gI (.pointer (some ⟨gf,of+g*13,none⟩)),gI (.pointer (some ⟨gf,of+g*13,none⟩)),gI (.agg (gQ Fx.p)),gI (.int .i64 ((A:Int)%8)),gI (.pointer (some ⟨gc,0,none⟩)),gI (.pointer (some ⟨gc,0,none⟩)),gI (.pointer (some ⟨gc,9,none⟩)),gI (.slice a c.da.length cap),gI (.agg (gQ Pn)),gI (.pointer (some ⟨gf,of+g*13,none⟩)),gI (.pointer (some ⟨gf,of+g*13,none⟩))] (by kernel_rfl) (by kernel_rfl) (by kernel_rfl) (by kernel_rfl) (by kernel_rfl) (by kernel_rfl) (by decide) (by decide) _ rfl (by kernel_rfl) (aj ?_ (aj ?_ (aj ?_ (aj ?_ (aj ?_ (aj ?_ (aj ?_ (aj ?_ (aj ?_ (aj ?_ (aj ?_ (aj ?_ (aj ?_ (aj ?_ (aj ?_ (aj ?_ (aj ?_ (aj ?_ (aj ?_ (aF)))))))))))))))))))) (aF) rfl ?_
     ·refine aB rfl ?_;intro ρ y W hw hn hb hd;have hY:ρ (.tmp 11) = .pointer (some ⟨gm,0,none⟩):=(hn (.tmp 11) rfl).trans rfl;refine ak (.pointer (some ⟨gm,0,none⟩)) (ag rfl) (by simp[execOp,go_sem,hY]) rfl
     ·refine aB rfl ?_;intro ρ y W hw hn hb hd;have g9:=hw 85 0 rfl;have h0:y 0 = .pointer (some ⟨gm,0,none⟩):=hd 0 rfl;refine ak (.pointer (some ⟨gm,0,none⟩)) (ag rfl) (by simp[execOp,go_sem,g9,h0]) rfl
     ·refine aB rfl ?_;intro ρ y W hw hn hb hd;have g8:=hw 86 1 rfl;have h1:y 1 = .pointer (some ⟨gm,0,none⟩):=hd 1 rfl;refine ak (.slice (some ⟨gf,of,none⟩) H2.m.fs.length H2.cf) (ag rfl) (by simp[execOp,go_sem,g8,h1,(mx6.ext hb).cell,bW,ha.out]) rfl
     ·refine aB rfl ?_;intro ρ y W hw hn hb hd;have ku:ρ (.tmp 12) = .int .i64 (g:Int):=(hn (.tmp 12) rfl).trans rfl;refine ak (.int .i64 (g:Int)) (ag rfl) (run_move (.inl rfl) ku) rfl
     ·refine aB rfl ?_;intro ρ y W hw hn hb hd;have hY:ρ (.tmp 11) = .pointer (some ⟨gm,0,none⟩):=(hn (.tmp 11) rfl).trans rfl;refine ak (.pointer (some ⟨gm,0,none⟩)) (ag rfl) (by simp[execOp,go_sem,hY]) rfl
     ·refine aB rfl ?_;intro ρ y W hw hn hb hd;have g5:=hw 89 4 rfl;have h4:y 4 = .pointer (some ⟨gm,0,none⟩):=hd 4 rfl;refine ak (.pointer (some ⟨gm,0,none⟩)) (ag rfl) (by simp[execOp,go_sem,g5,h4]) rfl
     ·refine aB rfl ?_;intro ρ y W hw hn hb hd;have g4:=hw 90 5 rfl;have h5:y 5 = .pointer (some ⟨gm,0,none⟩):=hd 5 rfl;refine ak (.slice (some ⟨gf,of,none⟩) H2.m.fs.length H2.cf) (ag rfl) (by simp[execOp,go_sem,g4,h5,(mx6.ext hb).cell,bW,ha.out]) rfl
     ·refine aB rfl ?_;intro ρ y W hw hn hb hd;have ku:ρ (.tmp 12) = .int .i64 (g:Int):=(hn (.tmp 12) rfl).trans rfl;refine ak (.int .i64 (g:Int)) (ag rfl) (run_move (.inl rfl) ku) rfl
     ·refine aB rfl ?_;intro ρ y W hw hn hb hd;have g2:=hw 91 6 rfl;have h6:y 6 = .slice (some ⟨gf,of,none⟩) H2.m.fs.length H2.cf:=hd 6 rfl;have g1:=hw 92 7 rfl;have h7:y 7 = .int .i64 (g:Int):=hd 7 rfl;refine ak (.pointer (some ⟨gf,of+g*13,none⟩)) (ag rfl) (eX rfl (g2.trans h6) (g1.trans h7) hQ underlying29 frame_size) rfl
     ·refine aB rfl ?_;intro ρ y W hw hn hb hd;have g0:=hw 93 8 rfl;have h8:y 8 = .pointer (some ⟨gf,of+g*13,none⟩):=hd 8 rfl;refine ak (.pointer (some ⟨gf,of+g*13,none⟩)) (ag rfl) (by simp[execOp,go_sem,g0,h8]) rfl
     ·refine aB rfl ?_;intro ρ y W hw hn hb hd;have gZ:=hw 94 9 rfl;have h9:y 9 = .pointer (some ⟨gf,of+g*13,none⟩):=hd 9 rfl;refine ak (.agg (gQ Fx.p)) (ag rfl) (bG rfl (gZ.trans h9) (hO.below hb) underlying100 rfl psize) rfl
     ·refine aB rfl ?_;intro ρ y W hw hn hb hd;have qa:ρ (.tmp 10) = .int .i64 ((A:Int)%8):=(hn (.tmp 10) rfl).trans rfl;refine ak (.int .i64 ((A:Int)%8)) (ag rfl) (run_move (.inl rfl) qa) rfl
     ·refine aB rfl ?_;intro ρ y W hw hn hb hd;have E1:ρ (.tmp 1) = .pointer (some ⟨gc,0,none⟩):=(hn (.tmp 1) rfl).trans rfl;refine ak (.pointer (some ⟨gc,0,none⟩)) (ag rfl) (run_move (.inl rfl) E1) rfl
     ·refine aB rfl ?_;intro ρ y W hw hn hb hd;have gV:=hw 97 12 rfl;have gi:y 12 = .pointer (some ⟨gc,0,none⟩):=hd 12 rfl;refine ak (.pointer (some ⟨gc,0,none⟩)) (ag rfl) (by simp[execOp,go_sem,gV,gi]) rfl
     ·refine aB rfl ?_;intro ρ y W hw hn hb hd;have gU:=hw 98 13 rfl;have gS:y 13 = .pointer (some ⟨gc,0,none⟩):=hd 13 rfl;refine ak (.pointer (some ⟨gc,9,none⟩)) (ag rfl) (by simp[execOp,go_sem,gU,gS]) rfl
     ·refine aB rfl ?_;intro ρ y W hw hn hb hd;have gT:=hw 99 14 rfl;have gR:y 14 = .pointer (some ⟨gc,9,none⟩):=hd 14 rfl;refine ak (.slice a c.da.length cap) (ag rfl) (by simp[execOp,go_sem,gT,gR,(c6.ext hb).cell,mM]) rfl
     ·refine aB rfl ?_;intro ρ y W hw hn hb hd;have gX:=hw 95 10 rfl;have gj:y 10 = .agg (gQ Fx.p):=hd 10 rfl;have gW:=hw 96 11 rfl;have hW:y 11 = .int .i64 ((A:Int)%8):=hd 11 rfl;have gn:=hw 100 15 rfl;have gh:y 15 = .slice a c.da.length cap:=hd 15 rfl;have EF:∀f,ρ (.func f) = .func (.func f) #[] #[]:=fun f=>hn (.func f) trivial;refine aK _ _ (ag rfl) (aQ rfl (EF _) func117 (by kernel_rfl) (by kernel_rfl) (by simp only[bT,bF,bI,gX,gj,gW,hW,gn,gh,EF];rfl)) ?_;refine (Nw Fx.p ((A:Int)%8) a c.da cap W (hy.below hb)).mono ?_;rintro r w1 ⟨rfl,hT⟩;exact⟨_,rfl,hT,by rw[gd.out];rfl⟩
     ·refine aB rfl ?_;intro ρ y W hw hn hb hd;have g7:=hw 87 2 rfl;have h2:y 2 = .slice (some ⟨gf,of,none⟩) H2.m.fs.length H2.cf:=hd 2 rfl;have g6:=hw 88 3 rfl;have h3:y 3 = .int .i64 (g:Int):=hd 3 rfl;refine ak (.pointer (some ⟨gf,of+g*13,none⟩)) (ag rfl) (eX rfl (g7.trans h2) (g6.trans h3) hQ underlying29 frame_size) rfl
     ·refine aB rfl ?_;intro ρ y W hw hn hb hd;have gl:=hw 102 17 rfl;have gP:y 17 = .pointer (some ⟨gf,of+g*13,none⟩):=hd 17 rfl;refine ak (.pointer (some ⟨gf,of+g*13,none⟩)) (ag rfl) (by simp[execOp,go_sem,gl,gP]) rfl
     intro ρ y WA o ho hw hn hV x d;cases ho;have kK:y 0 = .pointer (some ⟨gm,0,none⟩):=d 0 (by decide);have kI:y 1 = .pointer (some ⟨gm,0,none⟩):=d 1 (by decide);have kH:y 2 = .slice (some ⟨gf,of,none⟩) H2.m.fs.length H2.cf:=d 2 (by decide);have kG:y 3 = .int .i64 (g:Int):=d 3 (by decide);have kE:y 4 = .pointer (some ⟨gm,0,none⟩):=d 4 (by decide);have kD:y 5 = .pointer (some ⟨gm,0,none⟩):=d 5 (by decide);have kC:y 6 = .slice (some ⟨gf,of,none⟩) H2.m.fs.length H2.cf:=d 6 (by decide);have kB:y 7 = .int .i64 (g:Int):=d 7 (by decide);have kA:y 8 = .pointer (some ⟨gf,of+g*13,none⟩):=d 8 (by decide);have kz:y 9 = .pointer (some ⟨gf,of+g*13,none⟩):=d 9 (by decide);have ht:y 10 = .agg (gQ Fx.p):=d 10 (by decide);have hs:y 11 = .int .i64 ((A:Int)%8):=d 11 (by decide);have hr:y 12 = .pointer (some ⟨gc,0,none⟩):=d 12 (by decide);have kb:y 13 = .pointer (some ⟨gc,0,none⟩):=d 13 (by decide);have ka:y 14 = .pointer (some ⟨gc,9,none⟩):=d 14 (by decide);have hK:y 15 = .slice a c.da.length cap:=d 15 (by decide);have hg:y 16 = .agg (gQ Pn):=d 16 (by decide);have hZ:y 17 = .pointer (some ⟨gf,of+g*13,none⟩):=d 17 (by decide);have hq:y 18 = .pointer (some ⟨gf,of+g*13,none⟩):=d 18 (by decide);have kj:=hw 103 18 rfl;rw[hq] at kj;have kk:=hw 101 16 rfl;rw[hg] at kk;have EC:∀v,ρ (.const v)=v:=fun v=>hn (.const v) trivial;have EF:∀f,ρ (.func f) = .func (.func f) #[] #[]:=fun f=>hn (.func f) trivial;obtain⟨gf4,of4,cur4,hI,kf,t,kp,_,hv⟩:=(hz.below x).frPut hQ;rw[ha.out] at hI;simp only[gY,sI,and_true] at hI;obtain⟨rfl,rfl⟩:=hI;refine LV (ag rfl) _ _ _ rfl gf (of+g*13) _ (gQ Pn).toList kj kk rfl _ _ t (by show of+g*13+8≤_;omega) psize (gG (qf _)) ?_;intro w7 z hF;clear d hw hn hV;simp only[lay,Nat.reduceAdd,Nat.reduceLT,Nat.reduceEqDiff,reduceIte,decide_true,decide_false,if_true,pq,if_false,rR,sj,rW,qY,rE,rH,kK,kI,kH,kG,kE,kD,kC,kB,kA,kz,ht,hs,hr,kb,ka,hK,hg,hZ,hq];clear kK kI kH kG kE kD kC kB kA kz ht hs hr kb ka hK hg hZ hq;have kP:=hv 0 8 (gQ Pn).toList { Fx with p:=Pn } w7 rfl (by decide) (by rw[←ky.out];rfl) z hF;have ax7:=aG (ax6.ext x) t (by decide) hF;have hB:=fG (eT hi x) hF kf;have kx7:=aG (kx6.ext x) t (by decide) hF;have kT:bW { H2 with m:=⟨H2.m.fs.set g { Fx with p:=Pn },H2.m.hand⟩ }=bW H2:=by unfold bW;simp only[dM]
     rw[←kT] at kx7;have kU:Hid (MH.ma { H2 with m:=⟨H2.m.fs.set g { Fx with p:=Pn },H2.m.hand⟩ }=setFr X g { Fx with p:=Pn }):=ae (by rw[←hh.out];rfl);clear kT hv t kp z hF x hO kx6 hz ax6 c6 mx6 hi hy kf;generalize ({ H2 with m:=⟨H2.m.fs.set g { Fx with p:=Pn },H2.m.hand⟩ }:MH)=H7 at *
     have k7:oN w7 B b H7:=⟨kx7,kg.out,kP.mono ki.out⟩;clear kx7 kP
     go_wp2_with (refine ax rfl _ _ _ rfl w.heap.size (fT 0 n nilV) rfl rfl _ _ ax7 rfl ans_size (bR _ _ _ _ _) ?_)
     intro we axe l;have s:=fG hB l (az _);have ke:oN we B b H7:=k7.keepT ax7 (by decide) (by decide) l;go_wp2;refine bodyPost_ret (v:=.agg (fT 0 n nilV)) (aY results67 _ _ w.heap.size _ _ _ rfl axe underlying52 rfl ans_size) rfl ?_;rw[kt.out];exact⟨nilV,rfl,Own.nil _ _ _ _,s,H7,ke,kU.out⟩
  have gy:lS H.ma P ((A:Int) / 8) wr≠0:=by rw[←gb.out.1.1];exact hE
  have gM:Hid (jU H.ma c n wr=(H.ma,kJ E)):=ae (by rw[hX.out,if_pos gy,←gb.out.1.1]);have k1:=k3;have ax1:=ax3;have hD:=kW;clear hX
  go_wp2_with (refine ax rfl _ _ _ rfl w.heap.size (fT E 0 nilV) rfl rfl _ _ ax1 rfl ans_size (bR _ _ _ _ _) ?_)
  intro we axe l;have s:=fG hD l (by omega);have ke:oN we B b H:=⟨aG k1.blk ax1 (by decide) l,k1.ge,k1.ma.keep ax1 (by decide) l⟩;go_wp2;refine bodyPost_ret (v:=.agg (fT E 0 nilV)) (aY results67 _ _ w.heap.size _ _ _ rfl axe underlying52 rfl ans_size) rfl ?_;rw[gM.out];exact⟨nilV,rfl,Own.nil _ _ _ _,s,H,ke,rfl⟩
structure Fw where
 lv:Bool
 ar:List Ar
 own:Int→Option Page
structure Wd where
 n:Nat
 ps:Nat→Fw
 fl:List (List UInt8)
def zFw:Fw:=⟨false,[],fun _=>none⟩
def xw (m:Ma) (f:Int) (j:Nat):UInt8:=(aR m f (j / 8:Nat))[j%8]'(uj _ (by decide))
def qy (g:Option Pg) (a b:Option Page):Prop:=match g with
 | none=>a=none
 | some g=>if g.fi<0 then a.getD zPg=b.getD zPg else a=b
def Ej (w:Wd) (f:Nat):List UInt8:=w.fl.getD f []
structure zx (m:Ma) (w:Wd):Prop where
 n:w.n=m.sp.length
 lv:∀p,(w.ps p).lv=(bX m p).lv
 ar:∀p,(w.ps p).ar=(bX m p).ar
 own:∀p n,qy (fD m p n) ((w.ps p).own n) (iC m p n)
 nf:w.fl.length=m.st.fs.length
 sz:∀f:Nat,f<m.st.fs.length→((Ej w f).length:Int)=(aH m.st f).n
 bt:∀f j:Nat,f<m.st.fs.length→(j:Int)<(aH m.st f).n→(Ej w f).getD j 0=xw m f j
theorem ME (h:aO s=0) (hf:f<s.fs.length) (hj:(j:Int)<(aH s f).n):mK s f (j / 8:Nat):=by
 have h3:=(lU h (f:=(f:Int)) (by omega)).2.2.1;refine⟨by omega,by omega,?_⟩;rw[h3];unfold gu;rw[if_neg (by omega)];omega
theorem Tp (h:aO s=0) (hi:mK s f i):(8*i:Int)<(aH s f).n:=by
 have h3:=(lU h (f:=(f:Int)) hi.1).2.2.1;have h4:=hi.2.2;rw[h3] at h4;unfold gu at h4;split at h4<;>omega
theorem zi (h:(aL m p n).k=0):iC m p n=none:=by
 unfold iC;rw[if_neg (by omega),if_neg (by omega)]
theorem Js (h:Rt m) (hg:fD m p n=none):iC m p n=none:=by
 refine zi ?_
 by_cases hk:(aL m p n).k=0
 ·exact hk
 obtain⟨g,a,_⟩:=h.en p n hk;rw[hg] at a; cases a
def XI (m:Ma):Prop:=∀p n g,fD m p n=some g→g.fi<m.st.fs.length
structure rT (m:Ma):Prop where
 rt:Rt m
 co:Co m
 fi:XI m
def WU (b:List UInt8) (k:Nat):Page:=Vector.ofFn fun i:Fin 8=>b.getD (k+i.val) 0
def Mw (w:Wd) (p:Nat) (n:Int):Page × Int × Int:=match onA (w.ps p).ar n with
 | none=>(zPg,0,5)
 | some g=>match (w.ps p).own n with
  | some P=>(P,8,0)
  | none=>if g.fi<0 then (zPg,8,0) else
          let b:=Ej w g.fi.toNat
   if (b.length:Int)≤8*g.pg then (zPg,0,9) else (WU b (8*g.pg).toNat,min 8 (b.length-8*g.pg),0)
def putB (b:List UInt8) (k:Nat) (d:List UInt8):List UInt8:=(List.range b.length).map fun j=>if k≤j∧j<k+d.length then d.getD (j-k) 0 else b.getD j 0
def sizedB (b:List UInt8) (n:Nat):List UInt8:=(List.range n).map fun j=>b.getD j 0
def Oo (w:Wd) (f:Nat) (b:List UInt8):Wd:={ w with fl:=w.fl.set f b }
def Gw (w:Wd) (p:Nat) (x:Fw):Wd:={ w with ps:=fun q=>if q=p then x else w.ps q }
def WJ (o:Int→Option Page) (n:Int) (x:Option Page):Int→Option Page:=fun j=>if j=n then x else o j
def Gz (g:Pg) (wr:Bool):Bool:=if wr=true then g.wr else g.rd
def CP (w:Wd) (p:Nat) (c:Cl) (n:Int) (wr:Bool):Wd × An:=
 if ny c.a n=false then (w,kJ 2) else
 match onA (w.ps p).ar (c.a / 8) with
 | none=>(w,kJ 5)
 | some g=>
  if Gz g wr=false then (w,kJ 8) else
  let r:=Mw w p (c.a / 8)
  if r.2.2≠0 then (w,kJ r.2.2) else
  if ¬(g.fi<0∨wr=true∧g.sh=false)∧r.2.1<c.a%8+n then (w,kJ 9) else
  if wr=false then (w,⟨0,n,qW r.1 (c.a%8) n⟩) else
  if g.sh=true then (Oo w g.fi.toNat (putB (Ej w g.fi.toNat) (8*g.pg+c.a%8).toNat c.da),⟨0,n,[]⟩)
  else (Gw w p { w.ps p with own:=WJ (w.ps p).own (c.a / 8) (some (dw r.1 (c.a%8) c.da)) },⟨0,n,[]⟩)
def Pe (w:Wd) (p:Nat) (c:Cl):Wd × An:=
 let ar:=(w.ps p).ar;let a:=LC ar c
 if a<0∨64≤a∨c.n<1∨64-a<c.n∨c.f < -1 then (w,kJ 3)
 else if (w.fl.length:Int)≤c.f then (w,kJ 5)
 else
  let x:Ar:=⟨a,a+c.n,c.rd,c.wr,c.sh,c.f,c.b⟩
  if lK ar x≠0 then (w,kJ (lK ar x)) else (Gw w p { w.ps p with ar:=iD ar x },⟨0,a,[]⟩)
def Xw (w:Wd) (p:Nat) (c:Cl):Wd × An:=
 let ar:=(w.ps p).ar
 if QL ar c.a c.n≠0 then (w,kJ (QL ar c.a c.n))
 else (Gw w p { w.ps p with ar:=We ar c.a c.n,own:=fun n=>if c.a≤n∧n<c.a+c.n then none else (w.ps p).own n },kJ 0)
def WX (w:Wd) (p:Nat) (c:Cl):Wd × An:=
 let ar:=(w.ps p).ar
 if Qx ar c.a c.n c.rd c.wr≠0 then (w,kJ (Qx ar c.a c.n c.rd c.wr))
 else (Gw w p { w.ps p with ar:=Ww ar c.a c.n c.rd c.wr },kJ 0)
def VZ (w:Wd):Nat:=((List.range w.n).find? fun q => !(w.ps q).lv).getD w.n
def Xy (w:Wd) (p:Nat):Wd × An:=
 let q:=VZ w
 if q=4 then (w,kJ 4) else ({ Gw w q { w.ps p with lv:=true } with n:=max w.n (q+1) },⟨0,q,[]⟩)
def Xr (w:Wd) (p:Nat):Wd × An:=(Gw w p zFw,kJ 0)
def Kb (w:Wd) (c:Cl):Wd × An:=
 if c.p<0∨(w.n:Int)≤c.p∨(w.ps c.p.toNat).lv=false then (w,kJ 5) else
 let p:=c.p.toNat
 if c.k=1 then Pe w p c else if c.k=2 then Xw w p c else if c.k=3 then WX w p c
 else if c.k=4 then CP w p c c.n false else if c.k=5 then CP w p c c.da.length true
 else if c.k=6 then Xy w p else Xr w p
def Xj (w:Wd) (c:Cl):Wd × An:=
 if c.a<0∨c.n<0 then (w,kJ 3) else
 let o:=((Ej w c.f.toNat).drop c.a.toNat).take c.n.toNat
 (w,⟨0,o.length,o⟩)
def Xc (w:Wd) (c:Cl):Wd × An:=
 if c.a<0∨96<c.a∨96-c.a<c.da.length then (w,kJ 3)
 else if c.da.length=0 then (w,kJ 0)
 else
  let b:=Ej w c.f.toNat
  (Oo w c.f.toNat (putB (sizedB b (max (c.a.toNat+c.da.length) b.length)) c.a.toNat c.da),⟨0,c.da.length,[]⟩)
def XA (w:Wd) (c:Cl):Wd × An:=if c.n<0∨96<c.n then (w,kJ 3) else (Oo w c.f.toNat (sizedB (Ej w c.f.toNat) c.n.toNat),kJ 0)
def Tn (w:Wd) (c:Cl):Wd × An:=
 if c.f<0∨(w.fl.length:Int)≤c.f then (w,kJ 5) else
 if c.k=9 then Xj w c else if c.k=10 then Xc w c else if c.k=11 then XA w c else (w,kJ 0)
def Xx (w:Wd):Wd × An:=if 5≤w.fl.length then (w,kJ 4) else ({ w with fl:=w.fl++[[]] },⟨0,w.fl.length,[]⟩)
def EE (w:Wd) (c:Cl):Wd × An:=
 if c.k<1∨15<c.k then (w,kJ 1) else if c.k≤7 then Kb w c else if c.k=8 then Xx w else if c.k≤12 then Tn w c else (w,kJ 0)
theorem TQ (b:List UInt8) (k i:Nat) (h:i<8):(WU b k)[i]=b.getD (k+i) 0:=by simp[WU]
theorem zx.page {w:Wd} (h:zx m w) (hR:Rt m) (hC:Co m) (hi:mK m.st f i):WU (Ej w f) (8*i)=aR m f i:=by
 have hf:f<m.st.fs.length:=by have:=hi.1;omega
 ext k hk
 rw[TQ _ _ _ hk]
 by_cases hj:((8*i+k:Nat):Int)<(aH m.st f).n
 ·rw[h.bt f (8*i+k) hf hj];unfold xw;have e1:(8*i+k) / 8=i:=by omega
  have e2:(8*i+k)%8=k:=by omega
  simp only[e1,e2]
 have hz:=h.sz f hf;rw[bM,fo (by omega)];have ht:=RF hR hC f i;have:(cO (aR m f i) ((aH m.st f).n-i*8))[k]=0:=by simp only[cO,ni];rw[if_pos (by omega)]
 rw[ht] at this;rw[this];rfl
theorem Qz (b:List UInt8) (k:Nat) (d:List UInt8):(putB b k d).length=b.length:=by simp[putB]
theorem Ri (b:List UInt8) (k:Nat) (d:List UInt8) (h:j<b.length):(putB b k d).getD j 0=if k≤j∧j<k+d.length then d.getD (j-k) 0 else b.getD j 0:=by
 unfold putB;rw[bM,iY,rJ h];rfl
theorem QI (w:Wd) (f g:Nat) (b:List UInt8) (h:f<w.fl.length):Ej (Oo w f b) g=if g=f then b else Ej w g:=by
 unfold Ej Oo;simp only[bM,qL]
 by_cases e:g=f
 ·rw[if_pos e.symm,if_pos e,if_pos h];rfl
 ·rw[if_neg (kT e),if_neg e]
theorem tN {l:List Ar} (hp:p<m.sp.length) (q:Nat):bX (setAr m p l) q=if q=p then { bX m p with ar:=l } else bX m q:=by
 unfold setAr;show (m.sp.set p _).getD q zSp=_;rw[bM,qL]
 by_cases e:q=p
 ·subst e;rw[if_pos rfl,if_pos hp,if_pos rfl];rfl
 ·rw[if_neg (kT e),if_neg e];unfold bX;rw[bM]
theorem FB {l:List Ar} (hp:p<m.sp.length) (q:Nat) (n:Int):aL (setAr m p l) q n=aL m q n:=by
 unfold aL;rw[tN hp]
 by_cases e:q=p
 ·rw[if_pos e,e]
 ·rw[if_neg e]
theorem Ag {l:List Ar} (hp:p<m.sp.length) (q:Nat) (n:Int):fD (setAr m p l) q n=if q=p then onA l n else fD m q n:=by
 unfold fD;rw[tN hp]
 by_cases e:q=p
 ·rw[if_pos e,if_pos e]
 ·rw[if_neg e,if_neg e]
theorem Oh {l:List Ar} (hp:p<m.sp.length) (q:Nat) (n:Int):iC (setAr m p l) q n=iC m q n:=by
 unfold iC;rw[FB hp];rfl
theorem UD (hl:m'.sp.length=m.sp.length) (ht:∀p,(bX m' p).tb=(bX m p).tb) (kd i:Int):bU m' kd i=bU m kd i:=by
 have e:m'.sp.map Sp.tb=m.sp.map Sp.tb:=by
  apply qH
  ·simpa using hl
  intro j h1 h2;simp only[fP] at h1 h2;simp only[rG];have a1:=xP (m:=m') (p:=j) h1;have a2:=xP (m:=m) (p:=j) h2;rw[aN h1] at a1;rw[aN h2] at a2;rw[aS a1,aS a2];exact ht j
 have k:∀l:List Sp,(l.map fun s:Sp=>(fU s.tb).countP (uV kd i))=(l.map Sp.tb).map fun t=>(fU t).countP (uV kd i):=fun l=>by rw[List.map_map];rfl
 unfold bU;rw[k,k,e]
theorem Rx (h:Rt m) (hc:Co m) (hp:p<m.sp.length) (hv:(bX m p).lv=true) {l:List Ar} (hl:(dH l).1=0)
 (hen:∀n,(aL m p n).k≠0→∃g,onA l n=some g∧TK m g (aL m p n)):Rt (setAr m p l)∧Co (setAr m p l):=by
 have c:=fun q=>tN (l:=l) hp q;have a:=fun q n=>FB (l:=l) hp q n;have d:Pt (setAr m p l):={ h.pt with
  spl:=by show (m.sp.set p _).length≤4;rw[dM];exact h.pt.spl
  ar:=fun s hs=>by
   rcases lZ hs with hs|rfl
   ·exact h.pt.ar s hs
   ·exact hl
  tb:=fun s hs=>by
   rcases lZ hs with hs|rfl
   ·exact h.pt.tb s hs
   ·exact h.pt.tbN p }
 have b:∀kd i,bU (setAr m p l) kd i=bU m kd i:=UD (by show (m.sp.set p _).length=_;rw[dM]) fun q=>by
  rw[c]
  by_cases e:q=p
  ·rw[if_pos e,e]
  ·rw[if_neg e]
 refine⟨⟨d,h.trim,fun q hq => ?_,⟨h.ca.file,h.ca.lt,h.ca.fr,h.ca.srt⟩,fun q j hk => ?_,fun i hi=>by rw[b];exact h.cf i hi,h.fc,fun s hs=>by rw[b];exact h.cs s hs⟩,⟨hc.tail,hc.clean,hc.anon⟩⟩
 ·rw[c] at hq ⊢
  by_cases e:q=p
  ·rw[if_pos e] at hq;have:(bX m p).lv=false:=hq;rw[hv] at this;cases this
  rw[if_neg e] at hq ⊢;exact⟨(h.live q hq).1,fun n=>by rw[a];exact (h.live q hq).2 n⟩
 rw[a] at hk ⊢;rw[Ag hp]
 by_cases e:q=p
 ·rw[if_pos e];subst e;obtain⟨g,h1,h2⟩:=hen j hk;exact⟨g,h1,h2.sw,h2.lt,h2.fr⟩
 rw[if_neg e];obtain⟨g,h1,h2⟩:=h.en q j hk;exact⟨g,h1,h2.sw,h2.lt,h2.fr⟩
theorem zx.setAr {w:Wd} (h:zx m w) (hp:p<m.sp.length) {l:List Ar} {x:Fw} (hlv:x.lv=(bX m p).lv) (har:x.ar=l) (ho:∀n,qy (onA l n) (x.own n) (iC m p n)):zx (Go.Proofs.YtpaeabelhnnbiaaGreat.setAr m p l) (Gw w p x):=by
 refine⟨by show w.n=(m.sp.set p _).length;rw[dM];exact h.n,fun q => ?_,fun q => ?_,fun q n => ?_,h.nf,h.sz,h.bt⟩
 ·rw[tN hp];show (if q=p then x else w.ps q).lv=_
  by_cases e:q=p
  ·rw[if_pos e,if_pos e];exact hlv
  ·rw[if_neg e,if_neg e];exact h.lv q
 ·rw[tN hp];show (if q=p then x else w.ps q).ar=_
  by_cases e:q=p
  ·rw[if_pos e,if_pos e];exact har
  ·rw[if_neg e,if_neg e];exact h.ar q
 rw[Ag hp,Oh hp];show qy _ ((if q=p then x else w.ps q).own n) _
 by_cases e:q=p
 ·rw[if_pos e,if_pos e,e];exact ho n
 ·rw[if_neg e,if_neg e];exact h.own q n
theorem onA_mem:∀ {l:List Ar} {n:Int} {g:Pg},onA l n=some g→∃a∈l,uW n a=true∧g=uZ a n
 | [],_,_,h=>by cases h
 | a::l,n,g,h=>by
  rw[jb] at h
  by_cases e:uW n a=true
  ·rw[if_pos e] at h;exact⟨a,by simp,e,(aS h).symm⟩
  rw[if_neg e] at h;obtain⟨b,h1,h2⟩:=onA_mem h;exact⟨b,by simp[h1],h2⟩
theorem zK {g:Pg} (a:Option Page):qy (some g) a a:=by
 unfold qy
 by_cases h:g.fi<0
 ·simp only[if_pos h]
 ·simp only[if_neg h]
theorem Lr {l:List Ar} {x:Ar} (h:lK l x=0):(iD l x).length≤16∧okF none (iD l x)∧∀n,onA (iD l x) n=if uW n x then some (uZ x n) else onA l n:=by
 obtain⟨⟨h1,h2⟩,h3,h4,h5,h6⟩:=Iy h;have hs:=Cq h2;have a:0≤x.fr:=by
  unfold cZ at h3
  by_cases e:x.fr<0∨x.en≤x.fr∨64<x.en∨x.fi < -1∨5≤x.fi∨x.ba<0
  ·rw[if_pos e] at h3;cases h3
  ·omega
 have hi:=Ir h3 hs a h4;rw[h6];rw[Nk] at h5 ⊢;exact⟨h5,Tc hi,fun n=>by rw[Ur hi,Nl h3 n hs h4]⟩
theorem TL {w:Wd} (hG:rT m) (h:zx m w) (hp:p<m.sp.length) (hv:(bX m p).lv=true) (c:Cl) :
  (rX m p c).2=(Pe w p c).2∧rT (rX m p c).1∧zx (rX m p c).1 (Pe w p c).1:=by
 have r:=h.ar p;unfold rX Pe;simp only[r,h.nf];generalize ha:LC (bX m p).ar c=a
 by_cases h1:a<0∨64≤a∨c.n<1∨64-a<c.n∨c.f < -1
 ·simp only[if_pos h1];exact⟨by first | rfl | trivial,hG,h⟩
 simp only[if_neg h1]
 by_cases h2:(m.st.fs.length:Int)≤c.f
 ·simp only[if_pos h2];exact⟨by first | rfl | trivial,hG,h⟩
 simp only[if_neg h2];generalize hx:(⟨a,a+c.n,c.rd,c.wr,c.sh,c.f,c.b⟩:Ar)=x
 by_cases h3:lK (bX m p).ar x≠0
 ·simp only[if_pos h3];exact⟨by first | rfl | trivial,hG,h⟩
 simp only[if_neg h3];have j : lK (bX m p).ar x=0:=qC h3;obtain⟨z1,z2,z3,z4,z5⟩:=Iy j;obtain⟨r1,r2,r3⟩:=Lr j;have d:∀n g,onA (bX m p).ar n=some g→uW n x=false:=fun n g hg=>by
  obtain⟨b,hb,o,_⟩:=onA_mem hg;have hm:=z3 b hb;cases hi:uW n x with
  | false=>rfl
  | true=>
   rw[mR] at hi o;unfold iP at hm;simp only[Bh,decide_eq_false_iff_not] at hm;omega
 have k:x.fi=c.f:=by rw[←hx]
 obtain⟨q1,q2⟩:=Rx hG.rt hG.co hp hv (l:=iD (bX m p).ar x) (qQ.2 ⟨r1,r2⟩) fun n hk=>by obtain⟨g,hg,i⟩:=hG.rt.en p n hk;have hi:=d n g hg;refine⟨g,?_,i⟩;rw[r3,if_neg (by rw[hi];decide)];exact hg
 refine⟨by first | rfl | trivial,⟨q1,q2,fun q n g hg => ?_⟩,h.setAr hp (h.lv p) rfl fun n => ?_⟩
 ·rw[Ag hp] at hg
  by_cases e:q=p
  ·rw[if_pos e,r3] at hg
   by_cases hi:uW n x=true
   ·rw[if_pos hi] at hg;cases hg;show x.fi<(m.st.fs.length:Int);rw[k];omega
   rw[if_neg hi] at hg;exact hG.fi p n g hg
  rw[if_neg e] at hg;exact hG.fi q n g hg
 rw[r3];have ho:=h.own p n
 by_cases hi:uW n x=true
 ·rw[if_pos hi];have hn:fD m p n=none:=by
   cases hg:fD m p n with
   | none=>rfl
   | some g=>rw[d n g hg] at hi;cases hi
  rw[hn] at ho;show qy _ ((w.ps p).own n) _;rw[Js hG.rt hn,show (w.ps p).own n=none from ho];exact zK _
 ·rw[if_neg hi];exact ho
theorem LQ :copied m p n=false↔iC m p n=none:=by
 unfold copied iC
 by_cases k1:(aL m p n).k=1
 ·have k2:¬(aL m p n).k=2:=by omega
  rw[if_pos k1]
  by_cases h:(gP m (aL m p n).n).f<0
  ·rw[if_pos h];simp[k1,h]
  ·rw[if_neg h];simp[k1,h,k2]
 rw[if_neg k1]
 by_cases k2:(aL m p n).k=2
 ·rw[if_pos k2];simp[k2]
 ·rw[if_neg k2];simp[k1,k2]
theorem FK (hG:rT m) {w:Bool} (hp:p<m.sp.length) (hv:(bX m p).lv=true) :
  (fD m p n=none∧lS m p n w=5)∨∃g,fD m p n=some g∧(Gz g w=false∧lS m p n w=8∨Gz g w=true ∧
   ((0≤g.fi∧iC m p n=none∧¬mK m.st g.fi g.pg)∧lS m p n w=9∨¬(0≤g.fi∧iC m p n=none∧¬mK m.st g.fi g.pg) ∧
    (lS m p n w=10∧(kK m p n w).2<0∨lS m p n w=0∧0≤tC m p n w∧Vy m (oW m p n w) p n w g (tC m p n w)))):=by
 have hR:=hG.rt;have hC:=hG.co;have hu:lS m p n w=if mJ m p n w≠0 then mJ m p n w
  else if 0≤(jc m p n).fi∧copied m p n=false∧nU m.st (jc m p n).fi ((jc m p n).ba+n-(jc m p n).fr)=true then 9
  else if (kK m p n w).2<0 then 10 else (kK m p n w).1.e:=by
  unfold lS;rw[if_neg (by rw[GH.2 hR];simp),if_neg (by rw[bD,hv];simp;omega),bD]
 rw[hu];cases hg:fD m p n with
 | none=>
  left
  have hf:fB (bX m p).ar n<0:=by have h1:¬0≤fB (bX m p).ar n:=fun h2=>(BF (bX m p).ar n).1 h2 hg;omega
  have:mJ m p n w=5:=by unfold mJ;rw[if_pos hf]
  rw[this,if_pos (by decide)];exact⟨rfl,rfl⟩
 | some g=>
  right
  refine⟨g,rfl,?_⟩;obtain⟨a1,a2,a3,a4,a5,a6,a7⟩:=uD hg
  by_cases hm:Gz g w=true
  ·right
   refine⟨hm,?_⟩;have b:(w=true→g.wr=true)∧(w=false→g.rd=true):=by
    unfold Gz at hm;cases w
    ·exact⟨fun e=>(by cases e),fun _=>by simpa using hm⟩
    ·exact⟨fun _=>by simpa using hm,fun e=>(by cases e)⟩
   rw[(BH hg).2 b,if_neg (by decide)];have c:(0≤(jc m p n).fi∧copied m p n=false∧nU m.st (jc m p n).fi ((jc m p n).ba+n-(jc m p n).fr)=true)↔(0≤g.fi∧iC m p n=none∧¬mK m.st g.fi g.pg):=by
    rw[a6,LQ];constructor
    ·rintro⟨b1,b2,b3⟩;rw[a7 b1] at b3;exact⟨b1,b2,fun hi=>nV hR.pt.st hi (.inr b3)⟩
    rintro⟨b1,b2,b3⟩;refine⟨b1,b2,?_⟩;rw[a7 b1];refine qC fun a=>b3 (BL hR.pt.st b1 (hR.pt.pg hg).1 fun h3 => ?_);rcases h3 with h3|h3
    ·have:=hG.fi p n g hg;omega
    ·exact a h3
   by_cases h9:0≤g.fi∧iC m p n=none∧¬mK m.st g.fi g.pg
   ·left
    rw[if_pos (c.2 h9)];exact⟨h9,rfl⟩
   right
   rw[if_neg (fun h=>h9 (c.1 h))];refine⟨h9,?_⟩;have d:0≤g.fi→(aL m p n).k=0→mK m.st g.fi g.pg:=fun b1 b2=>qC fun hn=>h9 ⟨b1,zi b2,hn⟩;obtain⟨j,i,l⟩:=KA hR hC (w:=w) hp hg b.1 d
   by_cases h3:(kK m p n w).2<0
   ·left
    rw[if_pos h3];exact⟨rfl,h3⟩
   right
   rw[if_neg h3,j];have U:=i (by omega);refine⟨rfl,by show 0≤(kK m (p:Int).toNat n w).2;rw[bD];omega,?_⟩;have:=U.mark (e:=(kK m p n w).1.e) hg;unfold oW tC;rw[bD,a3];exact this
  left
  have f : Gz g w=false:=by simpa using hm
  refine⟨f,?_⟩;have a:mJ m p n w≠0:=fun e=>by
   have:=(BH hg).1 e;unfold Gz at hm;cases w
   ·exact hm (by simpa using this.2 rfl)
   ·exact hm (by simpa using this.1 rfl)
  have h8:mJ m p n w=8:=by
   unfold mJ at a ⊢;rw[if_neg (by omega)] at a ⊢;split at a
   ·rename_i h;rw[if_pos h]
   ·exact absurd rfl a
  rw[if_pos a,h8]
theorem OU {w:Bool} (hd:(w&&(jc m p n).sh)=true) (hl:(tC m p n w).toNat<(oW m p n w).m.fs.length):(aD (oW m p n w) (tC m p n w).toNat).d=true:=by
 unfold oW tC at hl ⊢;simp only[bD] at hl ⊢;unfold Fh at hl ⊢;simp only[hd,if_true,dG] at hl ⊢;rw[fJ (by rw[dG];exact hl),if_pos rfl];rfl
theorem PL {g:Pg} {a b:Option Page} (h:qy (some g) a b) (hf:g.fi<0):a.getD zPg=b.getD zPg:=by
 unfold qy at h;simp only[if_pos hf] at h;exact h
theorem FU {g:Pg} {a b:Option Page} (h:qy (some g) a b) (hf:¬g.fi<0):a=b:=by
 unfold qy at h;simp only[if_neg hf] at h;exact h
theorem Nv {g:Pg} {a b:Option Page} (h1:g.fi<0→a.getD zPg=b.getD zPg) (h2:¬g.fi<0→a=b):qy (some g) a b:=by
 unfold qy
 by_cases hf:g.fi<0
 ·simp only[if_pos hf];exact h1 hf
 ·simp only[if_neg hf];exact h2 hf
theorem Ta (h:Rt m) (hc:Co m) {P:Page} (hk:(aL m p n).k=1) (hn:(aL m p n).n=f) (hw:(aL m p n).w=true) (h0:(aD m f).f<0) :
  Rt (setFr m f { aD m f with p:=P })∧Co (setFr m f { aD m f with p:=P })∧(∀q j,iC (setFr m f { aD m f with p:=P }) q j=if q=p∧j=n then some P else iC m q j)∧∀g j,aR (setFr m f { aD m f with p:=P }) g j=aR m g j:=by
 obtain⟨f',e1,hf,hr,hp,ha,g,hg,t⟩:=iG h hk;have:f' = f:=by omega
 subst this;have hd:(aD m f').d=false:=by
  cases hd:(aD m f').d with
  | false=>rfl
  | true=>have:=hc.anon f' hf hd;omega
 have v:∀c∈m.ca,c.k.toNat≠f':=fun c l e=>by have h1:=h.ca.fr c l;have h2:=(h.ca.file c l).1;rw[e] at h1;omega
 have hX:({ aD m f' with p:=P }:Fr)=jF (aD m f') P false:=by unfold jF;rw[←hd]
 rw[hX];obtain⟨q1,q2⟩:=Re (P:=P) (d:=false) h hc hf hr (fun c l e=>absurd e (v c l)) (fun e=>by cases e);have s:∀x,aD (setFr m f' (jF (aD m f') P false)) x=if x=f' then jF (aD m f') P false else aD m x:=fun x=>fJ hf x;have r:∀q j,(aL m q j).k=1→(aL m q j).n=f'→q=p∧j=n:=fun q j k1 k2=>qC fun o=>by have h2:=JA h.pt (by decide) (kd:=1) (i:=(f' : Int)) ⟨hk,hn⟩ ⟨k1,k2⟩ o;have h3:=h.cf f' hf;have h4:=t.2.2.2.2 hw h0;omega
 refine⟨q1,q2,fun q j => ?_,fun a b => ?_⟩
 ·have u:aL (setFr m f' (jF (aD m f') P false)) q j=aL m q j:=rfl;unfold iC;rw[u]
  by_cases k1:(aL m q j).k=1
  ·rw[if_pos k1,if_pos k1];obtain⟨y,hy,z,_⟩:=iG h k1;show (if (aD (setFr m f' (jF (aD m f') P false)) (aL m q j).n.toNat).f<0 then some (aD (setFr m f' (jF (aD m f') P false)) (aL m q j).n.toNat).p else none)=_;rw[s]
   by_cases e:(aL m q j).n.toNat=f'
   ·rw[if_pos e,if_pos (r q j k1 (by omega)),if_pos (show (jF (aD m f') P false).f<0 from h0)];rfl
   have o:¬(q=p∧j=n):=fun h'=>e (by rw[h'.1,h'.2];omega);rw[if_neg e,if_neg o];rfl
  have o:¬(q=p∧j=n):=fun h'=>k1 (by rw[h'.1,h'.2];exact hk);rw[if_neg k1,if_neg k1,if_neg o];rfl
 rcases ko m a b with ⟨c,hl,l,_⟩|⟨hl,hno⟩
 ·rw[jA,jA];have:nD (setFr m f' (jF (aD m f') P false)) a b=nD m a b:=rfl;rw[this,hl];simp only;show (aD (setFr m f' (jF (aD m f') P false)) c.k.toNat).p=(aD m c.k.toNat).p;rw[s,if_neg (v c l)]
 rw[jA,jA];have:nD (setFr m f' (jF (aD m f') P false)) a b=nD m a b:=rfl;rw[this,hl];rfl
theorem rM (p:Page) (a:Int) (b:List UInt8) (h:0≤a∧a<8) (i:Nat) (hi:i<8):(dw p a b)[i]=if a.toNat≤i then b.getD (i-a.toNat) p[i] else p[i]:=by
 unfold dw;simp only[if_pos h,ni]
theorem Uz {P:Page} {a s:Int} {d:List UInt8} (h:0≤a∧a<8) (hP:cO P s=P) (hs:a+d.length≤s∨8≤s):cO (dw P a d) s=dw P a d:=by
 ext i hi
 simp only[cO,ni]
 by_cases h1:s≤(i:Int)
 ·rw[if_pos h1,rM _ _ _ h _ hi];have hz:P[i]=0:=by rw[←hP];simp only[cO,ni];rw[if_pos h1]
  have hl:d.length≤i-a.toNat:=by omega
  rw[bM,fo hl,Option.getD_none,hz];split<;>rfl
 ·rw[if_neg h1]
theorem QF {w:Wd} (hG:rT m) (h:zx m w) {g:Pg} (hg:fD m p n=some g) (hn:¬(0≤g.fi∧iC m p n=none∧¬mK m.st g.fi g.pg)) :
  (Mw w p n).1=(iM m p n).1∧(Mw w p n).2.2=0∧(Mw w p n).2.1=(if 0≤g.fi∧iC m p n=none then min 8 ((aH m.st g.fi).n-8*g.pg) else 8):=by
 have ho:=h.own p n;rw[hg] at ho;have i:=hG.rt.pt.pg hg;have f:onA (w.ps p).ar n=some g:=by rw[h.ar];exact hg
 rw[Hu hG.rt hg];unfold Mw;simp only[f]
 by_cases hf:g.fi<0
 ·have a:=PL ho hf;rw[if_neg (show ¬(0≤g.fi∧iC m p n=none) by omega)];cases h1:(w.ps p).own n with
  | none=>
   rw[h1] at a;cases h2:iC m p n with
   | none=>simp only[if_pos hf];exact⟨trivial,trivial,trivial⟩
   | some P=>rw[h2] at a; simp only[if_pos hf];exact⟨a,trivial,trivial⟩
  | some Q=>
   rw[h1] at a;cases h2:iC m p n with
   | none=>rw[h2] at a; simp only[if_pos hf];exact⟨a,trivial,trivial⟩
   | some P=>rw[h2] at a; exact⟨a,rfl,rfl⟩
 have a:=FU ho hf;rw[a];cases h2:iC m p n with
 | some P=>rw[if_neg (show ¬(0≤g.fi∧some P=none) from fun h'=>by cases h'.2)];exact⟨rfl,rfl,rfl⟩
 | none=>
  have e:mK m.st g.fi g.pg:=qC fun c=>hn ⟨by omega,h2,c⟩;obtain⟨F,hF⟩:∃F:Nat,g.fi=F:=⟨g.fi.toNat,by omega⟩;obtain⟨I,hI⟩:∃I:Nat,g.pg=I:=⟨g.pg.toNat,by omega⟩;have c:=nV hG.rt.pt.st e;have b:=e;rw[hF,hI] at b;have hb:=Tp hG.rt.pt.st b;have hz:=h.sz F (by have:=b.1;omega);have d:=h.page hG.rt hG.co b;have e1:g.fi.toNat=F:=by omega
  have e2:(8*g.pg).toNat=8*I:=by omega
  have e3:¬((Ej w F).length:Int)≤8*g.pg:=by omega
  have e4:0≤g.fi∧True:=⟨by omega,trivial⟩;simp only[if_neg hf,if_neg c,e1,e2,if_neg e3,if_pos e4];rw[d,hz,hF,hI];refine⟨?_,?_,?_⟩
  all_goals first | rfl | trivial
theorem Vt.sim {w:Wd} {P:Page} {a:Nat} {d:List UInt8} (hR:Rt m) (h:zx m w) (hin:mK m.st F I) (S:Vt m M F I P) (ha:a<8) (hd:(8*I+a+d.length:Int)≤(aH m.st F).n) (hd8:a+d.length≤8)
 (hP:P=dw (aR m F I) a d):zx M (Oo w F (putB (Ej w F) (8*I+a) d)):=by
 have hF:F<m.st.fs.length:=by have:=hin.1;omega
 have i:=h.sz F hF;have c:=S.st;have f:=fun g=>QI w F g (putB (Ej w F) (8*I+a) d) (by rw[h.nf];exact hF);refine⟨by rw[S.sk.len];exact h.n,fun q=>by rw[S.sk.lv];exact h.lv q,fun q=>by rw[S.sk.ar];exact h.ar q,fun q j => ?_,?_,fun g hg => ?_,fun g j hg hj => ?_⟩
 ·rw[S.own,show fD M q j=fD m q j by unfold fD;rw[S.sk.ar]];exact h.own q j
 ·rw[c,←h.nf];show (w.fl.set F _).length=_;rw[dM]
 ·rw[f,c];rw[c] at hg
  by_cases e:g=F
  ·rw[if_pos e,Qz,e];exact i
  ·rw[if_neg e];exact h.sz g hg
 rw[c] at hg hj;rw[f];unfold xw;simp only[S.con]
 by_cases e:g=F
 ·subst e;rw[if_pos rfl,Ri _ _ _ (by omega)];have b:=h.bt g j hg hj
  by_cases e2:j / 8=I
  ·have hc:((j / 8:Nat):Int)=I:=by omega
   simp only[hc,true_and,if_true,hP];rw[rM _ _ _ (by omega) _ (uj _ (by decide))];have ea:((a:Nat):Int).toNat=a:=rfl;have hb:(Ej w g).getD j 0=(aR m g I)[j%8]'(uj _ (by decide)):=by rw[b];unfold xw;simp only[hc]
   rw[ea]
   by_cases h1:a≤j%8
   ·rw[if_pos h1]
    by_cases h2:j%8<a+d.length
    ·rw[if_pos (by omega),show j-(8*I+a)=j%8-a by omega,bM,bM,aN (by omega)];rfl
    rw[if_neg (by omega),hb,bM,fo (by omega)];rfl
   ·rw[if_neg h1,if_neg (by omega),hb]
  have hc:¬(((j / 8:Nat):Int)=I):=by omega
  rw[if_neg (by omega),b];unfold xw;simp only[true_and,if_neg hc]
 have hc:¬((g:Int)=F∧((j / 8:Nat):Int)=I):=by omega
 simp only[if_neg hc];rw[if_neg e];have b:=h.bt g j hg hj;unfold xw at b;exact b
theorem Nn {w:Wd} (hG:rT m) (h:zx m w) (hp:p<m.sp.length) (hv:(bX m p).lv=true) (c:Cl) (hcp:c.p=p) (n:Int) (wr:Bool) (hn:wr=true→n=c.da.length) :
  jU m c n wr=(m,kJ 10)∨(jU m c n wr).2=(CP w p c n wr).2∧rT (jU m c n wr).1∧zx (jU m c n wr).1 (CP w p c n wr).1:=by
 unfold jU CP
 by_cases hwi:ny c.a n=false
 ·rw[if_pos hwi,if_pos hwi];exact .inr ⟨rfl,hG,h⟩
 rw[if_neg hwi,if_neg hwi];have hZ : 0≤c.a∧0≤n∧n≤8∧c.a%8≤8-n:=by unfold ny at hwi;simpa[and_assoc] using hwi
 rw[hcp];generalize hN:c.a / 8=N;have hm:onA (w.ps p).ar N=fD m p N:=by rw[h.ar];rfl
 rcases FK hG (n:=N) (w:=wr) hp hv with ⟨u1,u2⟩|⟨g,u1,hcs⟩
 ·rw[hm,u1,u2,if_pos (by decide)];exact .inr ⟨rfl,hG,h⟩
 rw[hm,u1];simp only;rcases hcs with ⟨u2,u3⟩|⟨u2,hcs⟩
 ·rw[u3,if_pos (by decide),if_pos u2];exact .inr ⟨rfl,hG,h⟩
 rw[if_neg (show ¬Gz g wr=false by rw[u2];decide)];have ho:=h.own p N;rw[u1] at ho;have ht:=hG.rt.pt.pg u1;rcases hcs with ⟨⟨b1,b2,b3⟩,u3⟩|⟨hb,hcs⟩
 ·
  have h9:(Mw w p N).2.2=9:=by
   have o:=FU ho (by omega);rw[b2] at o;unfold Mw;have h7:=hG.fi p N g u1;obtain⟨F,hF⟩:∃F:Nat,g.fi=F:=⟨g.fi.toNat,by omega⟩;have hz:=h.sz F (by omega);have hV:=(lU hG.rt.pt.st (f:=(F:Int)) (by omega)).2.2.1;have h3:¬g.pg<(aH m.st F).b.length:=fun hl=>b3 (by rw[hF];exact⟨by omega,ht.1,hl⟩);rw[hV] at h3;have h4:((Ej w g.fi.toNat).length:Int)≤8*g.pg:=by rw[hF,bD,hz];unfold gu at h3;split at h3<;>omega
   rw[hm,u1];simp only[o,if_neg (show ¬g.fi<0 by omega),if_pos h4]
  rw[u3,if_pos (by decide),h9,if_pos (by decide)];exact .inr ⟨rfl,hG,h⟩
 obtain⟨v1,v2,v3⟩:=QF hG h u1 hb;rcases hcs with ⟨u3,_⟩|⟨u3,hF0,U⟩
 ·left
  rw[u3,if_pos (by decide)]
 right
 rw[u3,if_neg (show ¬(0:Int)≠0 by decide),v2,if_neg (show ¬(0:Int)≠0 by decide)];have i:=OU (m:=m) (p:=p) (n:=N) (w:=wr);generalize hr:tC m p N wr=r at U i hF0 ⊢;generalize hm1:oW m p N wr=m1 at U i ⊢;obtain⟨f,hf⟩:∃f:Nat,r=f:=⟨r.toNat,by omega⟩;subst hf;simp only[bD] at i ⊢;have hB:=U.k1;have hM:=U.en;obtain⟨f',e1,hL,h8,_,h5,g1,hK,u⟩:=iG U.rt hB;have x:f' = f:=by omega
 subst x;have s:=U.vis.sk;have hh:∀q j,fD m1 q j=fD m q j:=fun q j=>by unfold fD;rw[s.ar]
 rw[hh,u1] at hK;cases hK;have hq:iM m1 p N=((aD m1 f').p,decide ((aD m1 f').f<0),0):=by rw[qF ((hh p N).trans u1) hB,hM];rfl
 have hP:(aD m1 f').p=(Mw w p N).1:=by rw[v1];have:=U.see;rw[hq] at this;exact congrArg Prod.fst this
 have hD:rT m1:=⟨U.rt,U.co,fun q j g hg=>by rw[U.vis.files];rw[hh] at hg;exact hG.fi q j g hg⟩;have hu:iC m1 p N=if (aD m1 f').f<0 then some (aD m1 f').p else none:=by rw[um U.rt,hq];simp only[decide_eq_true_eq]
 -- what the machine tells that had the page brought
 have hT:(0≤g.fi→((aD m1 f').f<0↔iC m p N≠none))→zx m1 w:=fun l=>by
  refine⟨by rw[s.len];exact h.n,fun q=>by rw[s.lv];exact h.lv q,fun q=>by rw[s.ar];exact h.ar q,fun q j => ?_,by rw[U.vis.files];exact h.nf,fun a ha=>by rw[U.vis.size];exact h.sz a (by rw[←U.vis.files];exact ha),fun a j ha hj => ?_⟩
  ·rw[hh]
   by_cases e:q=p∧j=N
   ·rw[e.1,e.2,u1,hu]
    by_cases x:g.fi<0
    ·have hx:(aD m1 f').f<0:=by
      rcases Int.lt_or_le (aD m1 f').f 0 with h' | h'
      ·exact h'
      ·have:=u.1 h'; omega
     rw[if_pos hx];refine Nv (fun _ => ?_) (fun h'=>absurd x h');show _=(aD m1 f').p;rw[hP];unfold Mw;rw[hm,u1];cases (w.ps p).own N with
     | none=>simp only[if_pos x];rfl
     | some Q=>rfl
    refine Nv (fun h'=>absurd h' x) (fun _ => ?_);have o:=FU ho x;have hi:=l (by omega);cases h2:iC m p N with
    | none=>
     rw[h2] at o hi;rw[o,if_neg (fun h'=>(hi.1 h') rfl)]
    | some Q=>
     rw[h2] at o hi;rw[o,if_pos (hi.2 (by simp)),hP];unfold Mw;rw[hm,u1,o]
   have:iC m1 q j=iC m q j:=by rw[um U.rt,um hG.rt,U.vis.see q j e]
   rw[this];exact h.own q j
  rw[U.vis.files] at ha;rw[U.vis.size] at hj;rw[h.bt a j ha hj];unfold xw;rw[U.vis.con _ _ (ME hG.rt.pt.st ha hj)]
 have hc:(iM m p N).2.1=true↔iC m p N≠none:=by
  rw[Hu hG.rt u1];cases h2:iC m p N with
  | some Q=>simp
  | none=>
   simp only;constructor
   ·intro h';split at h'
    ·cases h'
    ·split at h'<;>cases h'
   ·intro h'; exact absurd rfl h'
 have l:(wr=false∨g.sh=true)→0≤g.fi→((aD m1 f').f<0↔iC m p N≠none):=fun hw h0=>by have:=U.same hw h0;rw[hq] at this;rw[←hc,←this];simp only[decide_eq_true_eq]
 have hd:wr=true→g.sh=false→(aD m1 f').f<0:=fun hw hs=>by have:=U.own hw hs;rw[hq] at this;simpa using this
 -- behind the file's end
 have hk:xx m1 (aD m1 f') (c.a%8+n)=true↔(¬(g.fi<0∨wr=true∧g.sh=false)∧(Mw w p N).2.1<c.a%8+n):=by
  unfold xx;simp only[dh,decide_eq_true_eq];rw[v3,U.vis.size]
  by_cases hx:(aD m1 f').f<0
  ·constructor
   ·intro h'; omega
   rintro⟨k1,k2⟩;have v:0≤g.fi:=by omega
   have hw:wr=false∨g.sh=true:=by
    cases wr
    ·exact .inl rfl
    cases hs:g.sh
    ·exact absurd (.inr ⟨rfl,hs⟩) k1
    ·exact .inr rfl
   have:=(l hw v).1 hx;rw[if_neg (fun h'=>this h'.2)] at k2;omega
  have t:=u.1 (by omega);have v:0≤g.fi:=by omega
  have hw:wr=false∨g.sh=true:=by
   cases hwr:wr
   ·exact .inl rfl
   cases hs:g.sh
   ·exact absurd (hd hwr hs) hx
   ·exact .inr rfl
  have hy:iC m p N=none:=qC fun hU=>hx ((l hw v).2 hU);rw[if_pos ⟨v,hy⟩,t.1,t.2];constructor
  ·rintro⟨_,k2⟩;refine⟨?_,by omega⟩;rintro (k|⟨k3,k4⟩)
   ·omega
   rcases hw with hw|hw
   ·rw[k3] at hw;cases hw
   ·rw[k4] at hw;cases hw
  rintro⟨_,k2⟩;exact⟨v,by omega⟩
 by_cases hpa:xx m1 (aD m1 f') (c.a%8+n)=true
 ·rw[if_pos hpa,if_pos (hk.1 hpa)];exact⟨rfl,hG,h⟩
 rw[if_neg hpa,if_neg (fun h'=>hpa (hk.2 h'))];cases hwr:wr with
 | false=>
  rw[if_neg (by decide),if_pos rfl,hP];exact⟨rfl,hD,hT (l (.inl hwr))⟩
 | true=>
  have h6:=hn hwr;rw[if_pos rfl,if_neg (by decide)];cases hs:g.sh with
  | true=>
   rw[if_pos rfl];have v:0≤g.fi:=by
    rcases Int.lt_or_le g.fi 0 with h' | h'
    ·have:=(ht.2.2.2.2.1 h').1;rw[hs] at this;cases this
    ·exact h'
   have hE:=u.2.1 hs;have t:=u.1 hE;have hS:=hT (l (.inr hs));obtain⟨d1,ka⟩:∃b,b=(aD m1 f').d:=⟨_,rfl⟩;have hW:(aD m1 f').d=true:=by refine i ?_ hL;rw[hwr,(uD u1).2.2.1,hs];rfl
   obtain⟨cc,y,hQ⟩:=U.rt.fc f' hL hE;have hC:=U.rt.ca.fr cc y;rw[hQ,bD] at hC;obtain⟨F,hF⟩:∃F:Nat,g.fi=F:=⟨g.fi.toNat,by omega⟩;obtain⟨I,hI⟩:∃I:Nat,g.pg=I:=⟨g.pg.toNat,by omega⟩;obtain⟨A,hA⟩:∃A:Nat,c.a%8=A:=⟨(c.a%8).toNat,by omega⟩;have hY:(⟨(F:Int),(I:Int),(f' : Int)⟩:Cc)=cc:=by rw[←hF,←hI,←t.1,←t.2,←hQ,hC.2.1,hC.2.2]
   rw[←hY] at y;have hJ:mK m1.st F I:=U.rt.ca.file _ y;have z:=U.co.tail _ y;simp only[bD] at z;have hO:aR m1 F I=(aD m1 f').p:=ed U.rt.ca y;have h1:¬((aH m1.st F).n<I*8+(A+n)):=fun h'=>hpa (by unfold xx;simp only[dh,decide_eq_true_eq];rw[t.1,t.2,hF,hI,hA];exact⟨by omega,h'⟩);have S:=TE (P:=dw (aD m1 f').p (A:Int) c.da) U.rt U.co y (Uz (by omega) z (.inl (by omega)));have hX:({ aD m1 f' with p:=dw (aD m1 f').p (A:Int) c.da }:Fr)=jF (aD m1 f') (dw (aD m1 f').p (A:Int) c.da) true:=by unfold jF;rw[←hW]
   rw[hA,hX,hF,bD,hI,show ((8:Int)*(I:Int)+(A:Int)).toNat=8*I+A by omega];refine⟨rfl,⟨S.rt,S.co,fun q j g hg => ?_⟩,S.sim U.rt hS hJ (by omega) (by omega) (by omega) (by rw[hO])⟩;rw[S.st];exact hD.fi q j g (by unfold fD at hg ⊢; rw[←S.sk.ar];exact hg)
  | false=>
   rw[if_neg (by decide)];have hx:=hd hwr hs;obtain⟨k1,k2,k3,k4⟩:=Ta U.rt U.co (P:=dw (aD m1 f').p (c.a%8) c.da) hB (by rw[hM]) (U.ew hwr) hx;rw[←hP];refine⟨rfl,⟨k1,k2,fun q j g hg=>hD.fi q j g hg⟩,?_⟩;refine⟨by show w.n=m1.sp.length;rw[s.len];exact h.n,fun q => ?_,fun q => ?_,fun q j => ?_,by show w.fl.length=m1.st.fs.length;rw[U.vis.files];exact h.nf,fun a ha => ?_,fun a j ha hj => ?_⟩
   ·show (if q=p then _ else w.ps q).lv=(bX m1 q).lv;rw[s.lv]
    by_cases e:q=p
    ·rw[if_pos e,e];exact h.lv p
    ·rw[if_neg e];exact h.lv q
   ·show (if q=p then _ else w.ps q).ar=(bX m1 q).ar;rw[s.ar]
    by_cases e:q=p
    ·rw[if_pos e,e];exact h.ar p
    ·rw[if_neg e];exact h.ar q
   ·rw[k3];show qy (fD m1 q j) ((if q=p then _ else w.ps q).own j) _;rw[hh]
    by_cases e:q=p
    ·subst e;rw[if_pos rfl];show qy _ (if j=N then _ else (w.ps q).own j) _
     by_cases e2:j=N
     ·rw[if_pos e2,if_pos ⟨rfl,e2⟩,e2,u1];exact zK _
     rw[if_neg e2,if_neg (fun h'=>e2 h'.2)];have:iC m1 q j=iC m q j:=by rw[um U.rt,um hG.rt,U.vis.see q j (fun h'=>e2 h'.2)]
     rw[this];exact h.own q j
    rw[if_neg e,if_neg (fun h'=>e h'.1)];have:iC m1 q j=iC m q j:=by rw[um U.rt,um hG.rt,U.vis.see q j (fun h'=>e h'.1)]
    rw[this];exact h.own q j
   ·show ((Ej w a).length:Int)=(aH m1.st a).n;rw[U.vis.size];exact h.sz a (by rw[←U.vis.files];exact ha)
   have hR : a<m.st.fs.length:=by rw[←U.vis.files];exact ha
   have hH : (j:Int)<(aH m.st a).n:=by rw[←U.vis.size];exact hj
   show (Ej w a).getD j 0=_;rw[h.bt a j hR hH];unfold xw;rw[k4,U.vis.con _ _ (ME hG.rt.pt.st hR hH)]
theorem Tt {f i:Int} (h:bZ s f i=0):(dL s f i).count=s.count:=by
 unfold dL;rw[if_neg (by rw[h];simp)];split<;>rfl
theorem Inv.count (h:Inv m m'):m'.st.count=m.st.count:=
 h (fun x=>x.st.count=m.st.count) ⟨fun x f _ _ hp hf h0 hd hb=>(Tt hb).trans hp,fun x y _ _ hp _ _ hs=>by rw[hs.st];exact hp⟩ rfl
structure yL (m m' : Ma):Prop where
 fr:m'.m.fs.length=m.m.fs.length
 sl:m'.sl.length=m.sl.length
 ct:m'.st.count=m.st.count
theorem yL.refl (m:Ma):yL m m:=⟨rfl,rfl,rfl⟩
theorem yL.trans {a b c:Ma} (h:yL a b) (k:yL b c):yL a c:=⟨k.fr.trans h.fr,k.sl.trans h.sl,k.ct.trans h.ct⟩
theorem Tf {p:Page} {a:Int} (h:0≤a∧0≤n∧a+n≤8):qW p a n=(p.toList.drop a.toNat).take n.toNat:=by
 unfold qW;rw[if_neg (by omega)]
def QZ (m:Ma):Ma × An:=if lh m.st=0 then ({ m with st:=oD m.st },⟨0,jI m.st,[]⟩) else (m,kJ (lh m.st))
def ve (m:Ma) (c:Cl):Prop:=c.p<0∨(m.sp.length:Int)≤c.p∨(bX m c.p.toNat).lv=false
instance (m:Ma) (c:Cl):Decidable (ve m c):=by unfold ve;infer_instance
def PT (m:Ma) (p:Nat):Ma × An:=if Au m=4 then (m,kJ 4) else ((SB m p (Au m).toNat).m,⟨0,Au m,[]⟩)
def VJ (m:Ma) (p:Nat):Ma × An:=((DL m p).m,kJ 0)
def sO (m:Ma) (c:Cl):Ma × An:=
 if ve m c then (m,kJ 5) else
 if c.k=1 then rX m c.p.toNat c else if c.k=2 then UI m c.p.toNat c else if c.k=3 then Tz m c.p.toNat c
 else if c.k=4 then jU m c c.n false else if c.k=5 then jU m c c.da.length true
 else if c.k=6 then PT m c.p.toNat else VJ m c.p.toNat
def tT (m:Ma) (c:Cl):Ma × An:=
 if c.k<1∨15<c.k then (m,kJ 1) else if c.k≤7 then sO m c else if c.k=8 then QZ m else if c.k≤12 then WT m c else UC m c
def Jn (m:Ma):Wd:=⟨m.sp.length,fun p=>⟨(bX m p).lv,(bX m p).ar,iC m p⟩,(List.range m.st.fs.length).map fun f:Nat=>(List.range (aH m.st f).n.toNat).map (xw m f)⟩
theorem Jh (hR:Rt m):zx m (Jn m):=by
 have a:∀f:Nat,f<m.st.fs.length→Ej (Jn m) f=(List.range (aH m.st f).n.toNat).map (xw m f):=fun f hf=>by unfold Ej Jn;simp only;rw[bM,iY,rJ hf];rfl
 refine⟨rfl,fun _=>rfl,fun _=>rfl,fun p n => ?_,by simp[Jn],fun f hf => ?_,fun f j hf hj => ?_⟩
 ·show qy _ (iC m p n) (iC m p n);cases hg:fD m p n with
  | none=>exact Js hR hg
  | some g=>exact zK _
 ·rw[a f hf];simp only[fP,wS];have:=(lU hR.pt.st (f:=(f:Int)) (by omega)).1;omega
 ·rw[a f hf,bM,iY,rJ (by omega)];rfl
def Xf (m:Ma) (q:Nat):Prop:=(q:Int)=Au m∧(q=m.sp.length∧m.sp.length<4∨q<m.sp.length∧(bX m q).lv=false)
def XG (H:MH) (p:Int) (w:World) (r:Ending) (w' : World):Prop:=
 Below w.heap.size w w'∧((Lh H p∧r = .returned (.tuple #[.agg (bW noH),.int .i64 0,.int .i64 5]))∨(¬Lh H p∧Rl H.ma<0∧H.sp.length=4∧r = .returned (.tuple #[.agg (bW noH),.int .i64 0,.int .i64 4])) ∨
  (¬Lh H p∧∃(H' : MH) (q:Nat),Xf H.ma q∧r = .returned (.tuple #[.agg (bW H'),.int .i64 q,.int .i64 0])∧qc w' w.heap.size H'∧Forked H.ma H'.ma p.toNat q∧H'.ma=(SB H.ma p.toNat q).m))
theorem srt_on:∀ {l:List Ar} {lo:Int},srtF lo l→∀a∈l,∃n,onA l n=some (uZ a n)
 | [],_,_,_,h=>by cases h
 | b::l,lo,hs,a,h=>by
  rcases fE.1 h with rfl|h
  ·refine⟨a.fr,?_⟩;rw[jb,if_pos];have:=(fK hs.1).2.1;rw[mR];omega
  obtain⟨n,hn⟩:=srt_on hs.2.2 a h;refine⟨n,?_⟩;rw[jb,if_neg]
  ·exact hn
  intro hi;rw[mR] at hi;rw[on_low hs.2.2 hi.2] at hn;cases hn
theorem rT.fiok (h:rT m):Oc m:=fun p a ha=>by
 obtain⟨n,hn⟩:=srt_on (Cq (qQ.1 (h.rt.pt.arN p)).2) a ha;exact h.fi p n _ hn
def Vz (fn:FuncId) (ar:Value→Value→Array Value) (m:Ma) (c:Cl) (a:Option Addr) (cap:Nat) (X:Ma × An):Prop:=
 ∀(H:MH) (gc B b:Nat) (w:World),H.ma=m→oN w B b H→aJ w gc (mM c a cap) 25→(∀W,Below B w W→eB W a (c.da.map oG))→Calls Tryz.prog fn (ar (.pointer (some ⟨b,0,none⟩)) (.pointer (some ⟨gc,0,none⟩))) w (WW w B b X)
structure Vs (m:Ma) (c:Cl) (a:Option Addr) (cap P:Nat):Prop where
 mp:c.k=1→Vz 64 (fun p q => #[p,q]) m c a cap (rX m P c)
 un:c.k=2→Vz 65 (fun p q => #[p,q]) m c a cap (UI m P c)
 pr:c.k=3→Vz 66 (fun p q => #[p,q]) m c a cap (Tz m P c)
 ld:c.k=4→Vz 67 (fun p q => #[p,q,.int .i64 c.n,.bool false]) m c a cap (jU m c c.n false)
 st:c.k=5→Vz 67 (fun p q => #[p,q,.int .i64 c.da.length,.bool true]) m c a cap (jU m c c.da.length true)
 fk:c.k=6→∀(H:MH) (W:World),H.ma=m→Ga W H→Calls Tryz.prog 68 #[.agg (bW H),.int .i64 P] W (XG H P W)
 ex:¬(c.k=1∨c.k=2∨c.k=3∨c.k=4∨c.k=5∨c.k=6)→∀(H:MH) (W:World),H.ma=m→Ga W H→Calls Tryz.prog 70 #[.agg (bW H),.int .i64 P] W (Wo H P W)
theorem IX (H:MH) (c:Cl) (a:Option Addr) (cap gc B b:Nat) (w:World) (h:oN w B b H) (hG:rT H.ma) (hc:aJ w gc (mM c a cap) 25) (hrd:∀W,Below B w W→eB W a (c.da.map oG)) (hct:∀P:Nat,c.p=P→P<H.ma.sp.length→(bX H.ma P).lv=true→Vs H.ma c a cap P) :
  Calls Tryz.prog 34 #[.pointer (some ⟨b,0,none⟩),.pointer (some ⟨gc,0,none⟩)] w (WW w B b (sO H.ma c)):=by
 have kx:=ae hG.rt;have kG:=ae hG.co;have kF:=h.blk.lt;have hU:Hid (H.ma.sp.length=H.sp.length):=ae (tQ H);clear hG;go_enter func34,ntmps34;go_upto_region 1 with (fail);refine jl (fun W=>Code.wp _ _ _ _ W) fun w1 hR ax1 ku => ?_;have k1:=h.below hR;have c1:=hc.ext hR;have hp:w.grownBy w1 (some b):=Il hR;have hK:=ae h.bs;have hf:=ae hR;have hE:=ae hrd;clear h hc hR ku hrd
 by_cases hlo:c.p<0
 ·have hX:Hid (sO H.ma c=(H.ma,kJ 5)):=ae (by unfold sO;rw[if_pos (show ve H.ma c from Or.inl hlo)]);go_upto_region 1 with (fail);refine aP 33 [_,_,_,_,_,_,_,_,_,_,_,_,_,_,_,_,_,_,_,_,_,_,_,_,_,_,_,_,_,_,_,_,.v (.bool true)] (Gk rfl (Gk rfl (Gf gc 1 rfl rfl (Gl c1 rfl rfl rfl rfl rfl (Gb (.bool true) (by simp[go_sem,hlo]) rfl rfl rfl rfl rfl (Gk rfl (Gk rfl (Gk rfl (Gk rfl (Gk rfl (Gk rfl (Gk rfl (Gk rfl (Gk rfl (Gk rfl (Gk rfl (Gk rfl (Gk rfl (Gk rfl (Gk rfl (Gk rfl (Gk rfl (Gk rfl (Gk rfl (Gk rfl (Gk rfl (Gk rfl (Gk rfl (Gk rfl (Gk rfl (Gk rfl (Gk rfl (Gk rfl (aF)))))))))))))))))))))))))))))))))) (fun _=>rfl) rfl ?_;intro y W2 g _;have k2:=k1.below g;have ax2:=ax1.ext g;have c2:=c1.ext g;have l:=eT hp g;have z:∀W,Below B W2 W→eB W a (c.da.map oG):=fun W hb=>hE.out W (fC ((fC hf.out (g.mono hf.out.size)).mono hK.out) hb);have hl:=ae (aV hf.out.size g.size);clear k1 ax1 c1 hp g;have hv:=c2.cell
  go_wp2_with (refine ax rfl _ _ _ rfl w.heap.size (fT 5 0 nilV) rfl rfl _ _ ax2 rfl ans_size (bR _ _ _ _ _) ?_)
  intro we axe i;have o:=fG l i (az _);have ke:oN we B b H:=k2.keepT ax2 (by decide) (by decide) i;go_wp2;refine bodyPost_ret (v:=.agg (fT 5 0 nilV)) (aY results34 _ _ w.heap.size _ _ _ rfl axe underlying52 rfl ans_size) rfl ?_;rw[hX.out];exact⟨nilV,rfl,Own.nil _ _ _ _,o,H,ke,rfl⟩
 have d1:decide (c.p<0)=false:=decide_eq_false hlo
 by_cases hhi:(H.sp.length:Int)≤c.p
 ·have hX:Hid (sO H.ma c=(H.ma,kJ 5)):=ae (by unfold sO;rw[if_pos (show ve H.ma c from Or.inr (Or.inl (by rw[hU.out];exact hhi)))]);go_upto_region 1 with (fail);refine aP 33 [_,_,_,_,_,_,_,_,_,_,_,_,_,_,_,_,_,_,_,_,_,_,_,_,_,_,_,_,_,_,_,_,.v (.bool true)] (Gk rfl (Gk rfl (Gf gc 1 rfl rfl (Gl c1 rfl rfl rfl rfl rfl (Gb (.bool false) (by simp[go_sem,d1]) rfl rfl rfl rfl rfl (Gk rfl (Gk rfl (Gk rfl (Gf gc 1 rfl rfl (Gl c1 rfl rfl rfl rfl rfl (Gk rfl (Gk rfl (Gf b 0 rfl rfl (Gf b 10 rfl rfl (Gc (.slice H.ap H.sp.length H.cp) (fun W hb=>by simp[(k1.below hb).blk.cell,bW]) rfl rfl rfl rfl (Gn rfl rfl rfl rfl (Gb (.bool true) (by simp[go_sem,hhi]) rfl rfl rfl rfl rfl (Gk rfl (Gk rfl (Gk rfl (Gk rfl (Gk rfl (Gk rfl (Gk rfl (Gk rfl (Gk rfl (Gk rfl (Gk rfl (Gk rfl (Gk rfl (Gk rfl (Gk rfl (Gk rfl (aF)))))))))))))))))) (underlying42))))))))))))))))) (fun _=>rfl) rfl ?_;intro y W2 g _;have k2:=k1.below g;have ax2:=ax1.ext g;have c2:=c1.ext g;have l:=eT hp g;have z:∀W,Below B W2 W→eB W a (c.da.map oG):=fun W hb=>hE.out W (fC ((fC hf.out (g.mono hf.out.size)).mono hK.out) hb);have hl:=ae (aV hf.out.size g.size);clear k1 ax1 c1 hp g;have hv:=c2.cell
  go_wp2_with (refine ax rfl _ _ _ rfl w.heap.size (fT 5 0 nilV) rfl rfl _ _ ax2 rfl ans_size (bR _ _ _ _ _) ?_)
  intro we axe i;have o:=fG l i (az _);have ke:oN we B b H:=k2.keepT ax2 (by decide) (by decide) i;go_wp2;refine bodyPost_ret (v:=.agg (fT 5 0 nilV)) (aY results34 _ _ w.heap.size _ _ _ rfl axe underlying52 rfl ans_size) rfl ?_;rw[hX.out];exact⟨nilV,rfl,Own.nil _ _ _ _,o,H,ke,rfl⟩
 have d2:decide ((H.sp.length:Int)≤c.p)=false:=decide_eq_false hhi;obtain⟨P,hP⟩:∃P:Nat,c.p=P:=⟨c.p.toNat,by omega⟩;have hV:P<H.sp.length:=by omega
 obtain⟨gs,os,Q,kq,hQ,h0⟩:=xz k1.ma.rd.sp.rd P hV;have kj:=ae (wh hQ);have kb:=ae kq;have hB:=ae hP;have hO:Hid (∀W,Below w1.heap.size w1 W→W.cell? ⟨gs,os+P*10,none⟩=some (.bool Q.lv)):=ae (fun W hb=>by have:=GI (h0.below hb) (k:=0) (u:=.bool Q.lv) rfl;simpa using this);clear kq hQ h0 hP;cases hlvQ:Q.lv with
 | false=>
  rw[hlvQ] at hO;have hX:Hid (sO H.ma c=(H.ma,kJ 5)):=ae (by unfold sO;rw[if_pos (show ve H.ma c from Or.inr (Or.inr (by rw[hB.out,bD,kj.out];exact hlvQ)))]);clear hlvQ;go_upto_region 1 with (fail);refine aP 33 [_,_,_,_,_,_,_,_,_,_,_,_,_,_,_,_,_,_,_,_,_,_,_,_,_,_,_,_,_,_,_,_,.v (.bool true)] (Gk rfl (Gk rfl (Gf gc 1 rfl rfl (Gl c1 rfl rfl rfl rfl rfl (Gb (.bool false) (by simp[go_sem,d1]) rfl rfl rfl rfl rfl (Gk rfl (Gk rfl (Gk rfl (Gf gc 1 rfl rfl (Gl c1 rfl rfl rfl rfl rfl (Gk rfl (Gk rfl (Gf b 0 rfl rfl (Gf b 10 rfl rfl (Gc (.slice H.ap H.sp.length H.cp) (fun W hb=>by simp[(k1.below hb).blk.cell,bW]) rfl rfl rfl rfl (Gn rfl rfl rfl rfl (Gb (.bool false) (by simp[go_sem,d2]) rfl rfl rfl rfl rfl (Gk rfl (Gk rfl (Gk rfl (Gk rfl (Gf b 0 rfl rfl (Gf b 10 rfl rfl (Gc (.slice (some ⟨gs,os,none⟩) H.sp.length H.cp) (fun W hb=>by simp[(k1.below hb).blk.cell,bW,kb.out]) rfl rfl rfl rfl (Gk rfl (Gk rfl (Gf gc 1 rfl rfl (Gl c1 (V:=.int .i64 (P:Int)) (by simp[mM,hB.out]) rfl rfl rfl rfl (Gr (.pointer (some ⟨gs,os+P*10,none⟩)) (fun ρ y W hb hz=>(eX rfl (aU rfl hz) (aU rfl hz) hV underlying42 space_size)) rfl rfl (Gf gs (os+P*10) rfl rfl (Gc (.bool false) (fun W hb=>by simp[hO.out W hb]) rfl rfl rfl rfl (Gk rfl (Gk rfl (aF)))))))))))))))))) (underlying42))))))))))))))))) (fun _=>rfl) rfl ?_;intro y W2 g _;have k2:=k1.below g;have ax2:=ax1.ext g;have c2:=c1.ext g;have l:=eT hp g;have z:∀W,Below B W2 W→eB W a (c.da.map oG):=fun W hb=>hE.out W (fC ((fC hf.out (g.mono hf.out.size)).mono hK.out) hb);have hl:=ae (aV hf.out.size g.size);clear k1 ax1 c1 hp g;have hv:=c2.cell
  go_wp2_with (refine ax rfl _ _ _ rfl w.heap.size (fT 5 0 nilV) rfl rfl _ _ ax2 rfl ans_size (bR _ _ _ _ _) ?_)
  intro we axe i;have o:=fG l i (az _);have ke:oN we B b H:=k2.keepT ax2 (by decide) (by decide) i;go_wp2;refine bodyPost_ret (v:=.agg (fT 5 0 nilV)) (aY results34 _ _ w.heap.size _ _ _ rfl axe underlying52 rfl ans_size) rfl ?_;rw[hX.out];exact⟨nilV,rfl,Own.nil _ _ _ _,o,H,ke,rfl⟩
 | true=>
  rw[hlvQ] at hO;have hF:Hid ((bX H.ma P).lv=true):=ae (by rw[kj.out];exact hlvQ);clear hlvQ;have hr:=ae (hct P hB.out (by rw[hU.out];exact hV) hF.out);clear hct;go_upto_region 1 with (fail);refine aP 33 [_,_,_,_,_,_,_,_,_,_,_,_,_,_,_,_,_,_,_,_,_,_,_,_,_,_,_,_,_,_,_,_,.v (.bool false)] (Gk rfl (Gk rfl (Gf gc 1 rfl rfl (Gl c1 rfl rfl rfl rfl rfl (Gb (.bool false) (by simp[go_sem,d1]) rfl rfl rfl rfl rfl (Gk rfl (Gk rfl (Gk rfl (Gf gc 1 rfl rfl (Gl c1 rfl rfl rfl rfl rfl (Gk rfl (Gk rfl (Gf b 0 rfl rfl (Gf b 10 rfl rfl (Gc (.slice H.ap H.sp.length H.cp) (fun W hb=>by simp[(k1.below hb).blk.cell,bW]) rfl rfl rfl rfl (Gn rfl rfl rfl rfl (Gb (.bool false) (by simp[go_sem,d2]) rfl rfl rfl rfl rfl (Gk rfl (Gk rfl (Gk rfl (Gk rfl (Gf b 0 rfl rfl (Gf b 10 rfl rfl (Gc (.slice (some ⟨gs,os,none⟩) H.sp.length H.cp) (fun W hb=>by simp[(k1.below hb).blk.cell,bW,kb.out]) rfl rfl rfl rfl (Gk rfl (Gk rfl (Gf gc 1 rfl rfl (Gl c1 (V:=.int .i64 (P:Int)) (by simp[mM,hB.out]) rfl rfl rfl rfl (Gr (.pointer (some ⟨gs,os+P*10,none⟩)) (fun ρ y W hb hz=>(eX rfl (aU rfl hz) (aU rfl hz) hV underlying42 space_size)) rfl rfl (Gf gs (os+P*10) rfl rfl (Gc (.bool true) (fun W hb=>by simp[hO.out W hb]) rfl rfl rfl rfl (Gk rfl (Gk rfl (aF)))))))))))))))))) (underlying42))))))))))))))))) (fun _=>rfl) rfl ?_;intro y W2 g _;have k2:=k1.below g;have ax2:=ax1.ext g;have c2:=c1.ext g;have l:=eT hp g;have z:∀W,Below B W2 W→eB W a (c.da.map oG):=fun W hb=>hE.out W (fC ((fC hf.out (g.mono hf.out.size)).mono hK.out) hb);have hl:=ae (aV hf.out.size g.size);clear k1 ax1 c1 hp g;have hv:=c2.cell;unfold mM at hv;obtain⟨Y,hY⟩:∃Y,Hid (sO H.ma c=Y):=⟨_,ae rfl⟩;have hD:Hid (Y=if c.k=1 then rX H.ma P c else if c.k=2 then UI H.ma P c else if c.k=3 then Tz H.ma P c else if c.k=4 then jU H.ma c c.n false else if c.k=5 then jU H.ma c c.da.length true else if c.k=6 then PT H.ma P else VJ H.ma P):=ae (by
   rw[←hY.out];unfold sO;have hH:¬ve H.ma c:=by
    rintro (e|e|e)
    ·omega
    ·rw[hU.out] at e;omega
    ·rw[hB.out,bD,hF.out] at e;cases e
   rw[if_neg hH,hB.out,bD])
  clear d1 d2 hO
  by_cases h1:c.k=1
  ·have hq:Hid (rX H.ma P c=Y):=ae (by rw[hD.out,if_pos h1]);have ha:=hr.out.mp h1 H gc B b W2 rfl k2 c2 z;rw[hq.out] at ha;have hm:=ae ha;clear ha z
   go_wp2_with fail
   refine hm.out.mono ?_;rintro r w3 ⟨d,rfl,t,x,H3,k3,hh⟩;obtain⟨ad,cd,rfl,_⟩:=t.rd;have hg:=ae hh;have ax3:=ax2.grown x (fun e=>by cases e;omega);have j:=tJ l x;have s:=t.mono hl.out;clear k2 ax2 l x t hh hv
   go_wp2_with (refine ax rfl _ _ _ rfl w.heap.size (fT Y.2.e Y.2.n (.slice ad Y.2.da.length cd)) rfl rfl _ _ ax3 rfl ans_size (bR _ _ _ _ _) ?_)
   intro we axe i;have o:=fG j i (az _);have ke:oN we B b H3:=k3.keepT ax3 (by decide) (by decide) i;have hy:=ay s ax3 (by decide) i;clear k3 ax3 j i s;go_wp2;refine bodyPost_ret (v:=.agg (fT Y.2.e Y.2.n (.slice ad Y.2.da.length cd))) (aY results34 _ _ w.heap.size _ _ _ rfl axe underlying52 rfl ans_size) rfl ?_;rw[hY.out];exact⟨_,rfl,hy,o,H3,ke,hg.out⟩
  have d1:(c.k==1)=false:=by simpa using h1
  by_cases h2:c.k=2
  ·have hq:Hid (UI H.ma P c=Y):=ae (by rw[hD.out,if_neg h1,if_pos h2]);have ha:=hr.out.un h2 H gc B b W2 rfl k2 c2 z;rw[hq.out] at ha;have hm:=ae ha;clear ha z
   go_wp2_with fail
   refine hm.out.mono ?_;rintro r w3 ⟨d,rfl,t,x,H3,k3,hh⟩;obtain⟨ad,cd,rfl,_⟩:=t.rd;have hg:=ae hh;have ax3:=ax2.grown x (fun e=>by cases e;omega);have j:=tJ l x;have s:=t.mono hl.out;clear k2 ax2 l x t hh hv
   go_wp2_with (refine ax rfl _ _ _ rfl w.heap.size (fT Y.2.e Y.2.n (.slice ad Y.2.da.length cd)) rfl rfl _ _ ax3 rfl ans_size (bR _ _ _ _ _) ?_)
   intro we axe i;have o:=fG j i (az _);have ke:oN we B b H3:=k3.keepT ax3 (by decide) (by decide) i;have hy:=ay s ax3 (by decide) i;clear k3 ax3 j i s;go_wp2;refine bodyPost_ret (v:=.agg (fT Y.2.e Y.2.n (.slice ad Y.2.da.length cd))) (aY results34 _ _ w.heap.size _ _ _ rfl axe underlying52 rfl ans_size) rfl ?_;rw[hY.out];exact⟨_,rfl,hy,o,H3,ke,hg.out⟩
  have d2:(c.k==2)=false:=by simpa using h2
  by_cases h3:c.k=3
  ·have hq:Hid (Tz H.ma P c=Y):=ae (by rw[hD.out,if_neg h1,if_neg h2,if_pos h3]);have ha:=hr.out.pr h3 H gc B b W2 rfl k2 c2 z;rw[hq.out] at ha;have hm:=ae ha;clear ha z
   go_wp2_with fail
   refine hm.out.mono ?_;rintro r w3 ⟨d,rfl,t,x,H3,k3,hh⟩;obtain⟨ad,cd,rfl,_⟩:=t.rd;have hg:=ae hh;have ax3:=ax2.grown x (fun e=>by cases e;omega);have j:=tJ l x;have s:=t.mono hl.out;clear k2 ax2 l x t hh hv
   go_wp2_with (refine ax rfl _ _ _ rfl w.heap.size (fT Y.2.e Y.2.n (.slice ad Y.2.da.length cd)) rfl rfl _ _ ax3 rfl ans_size (bR _ _ _ _ _) ?_)
   intro we axe i;have o:=fG j i (az _);have ke:oN we B b H3:=k3.keepT ax3 (by decide) (by decide) i;have hy:=ay s ax3 (by decide) i;clear k3 ax3 j i s;go_wp2;refine bodyPost_ret (v:=.agg (fT Y.2.e Y.2.n (.slice ad Y.2.da.length cd))) (aY results34 _ _ w.heap.size _ _ _ rfl axe underlying52 rfl ans_size) rfl ?_;rw[hY.out];exact⟨_,rfl,hy,o,H3,ke,hg.out⟩
  have d3:(c.k==3)=false:=by simpa using h3
  by_cases h4:c.k=4
  ·have hq:Hid (jU H.ma c c.n false=Y):=ae (by rw[hD.out,if_neg h1,if_neg h2,if_neg h3,if_pos h4]);have ha:=hr.out.ld h4 H gc B b W2 rfl k2 c2 z;rw[hq.out] at ha;have hm:=ae ha;clear ha z
   go_wp2_with fail
   refine hm.out.mono ?_;rintro r w3 ⟨d,rfl,t,x,H3,k3,hh⟩;obtain⟨ad,cd,rfl,_⟩:=t.rd;have hg:=ae hh;have ax3:=ax2.grown x (fun e=>by cases e;omega);have j:=tJ l x;have s:=t.mono hl.out;clear k2 ax2 l x t hh hv
   go_wp2_with (refine ax rfl _ _ _ rfl w.heap.size (fT Y.2.e Y.2.n (.slice ad Y.2.da.length cd)) rfl rfl _ _ ax3 rfl ans_size (bR _ _ _ _ _) ?_)
   intro we axe i;have o:=fG j i (az _);have ke:oN we B b H3:=k3.keepT ax3 (by decide) (by decide) i;have hy:=ay s ax3 (by decide) i;clear k3 ax3 j i s;go_wp2;refine bodyPost_ret (v:=.agg (fT Y.2.e Y.2.n (.slice ad Y.2.da.length cd))) (aY results34 _ _ w.heap.size _ _ _ rfl axe underlying52 rfl ans_size) rfl ?_;rw[hY.out];exact⟨_,rfl,hy,o,H3,ke,hg.out⟩
  have d4:(c.k==4)=false:=by simpa using h4
  by_cases h5:c.k=5
  ·have hq:Hid (jU H.ma c c.da.length true=Y):=ae (by rw[hD.out,if_neg h1,if_neg h2,if_neg h3,if_neg h4,if_pos h5]);have ha:=hr.out.st h5 H gc B b W2 rfl k2 c2 z;rw[hq.out] at ha;have hm:=ae ha;clear ha z
   go_wp2_with fail
   refine hm.out.mono ?_;rintro r w3 ⟨d,rfl,t,x,H3,k3,hh⟩;obtain⟨ad,cd,rfl,_⟩:=t.rd;have hg:=ae hh;have ax3:=ax2.grown x (fun e=>by cases e;omega);have j:=tJ l x;have s:=t.mono hl.out;clear k2 ax2 l x t hh hv
   go_wp2_with (refine ax rfl _ _ _ rfl w.heap.size (fT Y.2.e Y.2.n (.slice ad Y.2.da.length cd)) rfl rfl _ _ ax3 rfl ans_size (bR _ _ _ _ _) ?_)
   intro we axe i;have o:=fG j i (az _);have ke:oN we B b H3:=k3.keepT ax3 (by decide) (by decide) i;have hy:=ay s ax3 (by decide) i;clear k3 ax3 j i s;go_wp2;refine bodyPost_ret (v:=.agg (fT Y.2.e Y.2.n (.slice ad Y.2.da.length cd))) (aY results34 _ _ w.heap.size _ _ _ rfl axe underlying52 rfl ans_size) rfl ?_;rw[hY.out];exact⟨_,rfl,hy,o,H3,ke,hg.out⟩
  have d5:(c.k==5)=false:=by simpa using h5
  by_cases h6:c.k=6
  ·have hq:Hid (Y=PT H.ma P):=ae (by rw[hD.out,if_neg h1,if_neg h2,if_neg h3,if_neg h4,if_neg h5,if_pos h6]);have hH:Hid (¬Lh H (P:Int)):=ae (by
    rintro (e|e|e)
    ·omega
    ·omega
    ·rw[bD,hF.out] at e;cases e)
   obtain⟨X,F,E,kg⟩:∃(X:Ma) (F E:Int),Hid (PT H.ma P=(setM H.ma X E,⟨E,F,[]⟩)∧∀W,Below W2.heap.size W2 W→Calls Tryz.prog 68 #[.agg (bW H),.int .i64 P] W fun r w'=>Below W.heap.size W w'∧∃H',r = .returned (.tuple #[.agg (bW H'),.int .i64 F,.int .i64 E])∧qc w' W.heap.size H'∧H'.ma=X):=by
    by_cases h4' : Au H.ma=4
    ·refine⟨zMa,0,4,ae ⟨by unfold PT setM;rw[if_pos h4'];rfl,fun W hb=>(hr.out.fk h6 H W rfl (k2.below hb).ma.rd).mono ?_⟩⟩;rintro r w' ⟨kf,hx⟩;rcases hx with ⟨e,_⟩|⟨_,_,_,rfl⟩|⟨_,K,q,hq',rfl,_,_⟩
     ·exact absurd e hH.out
     ·exact⟨kf,noH,rfl,uT _ _,noH_ma⟩
     exfalso;have e1:=hq'.1;have e2:=kx.out.pt.spl;rcases hq'.2 with e|e
     ·omega
     ·omega
    refine⟨(SB H.ma P (Au H.ma).toNat).m,Au H.ma,0,ae ⟨by unfold PT setM;rw[if_neg h4'];rfl,fun W hb=>(hr.out.fk h6 H W rfl (k2.below hb).ma.rd).mono ?_⟩⟩;rintro r w' ⟨kf,hx⟩;rcases hx with ⟨e,_⟩|⟨_,e1,e2,rfl⟩|⟨_,K,q,hq',rfl,ho,_,hfe⟩
    ·exact absurd e hH.out
    ·exfalso;refine h4' ?_;unfold Au;rw[if_pos e1,hU.out,e2];rfl
    refine⟨kf,K,by rw[hq'.1],ho,?_⟩;rw[hfe,←hq'.1,bD,bD]
   go_upto_region 15 with (fail);clear hv;refine gH 17 [_,_,_,_,_,_,_,_,.r 8 ((AQ W2.heap.size X F E)),.r 9 ((AQ W2.heap.size X F E)),.r 10 ((Ah W2.heap.size X)),.v (.int .i64 F),.v (.int .i64 E),.r 13 ((eO W2.heap.size 44 11)),.y 14 ((Vb 13 W2.heap.size X)),.v (.int .i64 F),.v (.int .i64 E)] (fun W=>Below W2.heap.size W2 W) bA (Below.refl _ _) (Yk bA rfl (Yk bA rfl (Yf bA b 0 rfl rfl (Yr bA (.agg (bW H)) (fun ρ y W hb hz=>(bY rfl (aU rfl hz) ((k2.below hb).blk) underlying44 rfl mach_size)) rfl rfl (Yk bA rfl (Yk bA rfl (Yf bA gc 1 rfl rfl (Yc bA (.int .i64 (P:Int)) (fun W hb=>by simp[(c2.ext hb).cell,mM,hB.out]) rfl rfl rfl rfl (aj ?_ (aj ?_ (aj ?_ (aj ?_ (aj ?_ (aj ?_ (aj ?_ (Yk bA rfl (Yk bA rfl (aF)))))))))))))))))) (fun _=>rfl) rfl ?_
   ·intro ρ y W hw hn hb hd;refine eP bA hb ((AQ W2.heap.size X F E)) (fun _ _ h=>h) ?_;have kD:=hw 87 3 rfl;have h3:y 3 = .agg (bW H):=hd 3 rfl;have kC:=hw 91 7 rfl;have h7:y 7 = .int .i64 (P:Int):=hd 7 rfl;have EF:∀f,ρ (.func f) = .func (.func f) #[] #[]:=fun f=>hn (.func f) trivial;refine aK _ _ (ag rfl) (aQ rfl (EF _) func68 (by kernel_rfl) (by kernel_rfl) (by simp only[bT,bF,bI,kD,h3,kC,h7,EF];rfl)) ?_;refine (kg.out.2 W hb).mono ?_;rintro r w9 ⟨kd,H9,rfl,hs,ht⟩;exact⟨_,rfl,kd,H9,rfl,hs.mono hb.size,ht⟩
   ·intro ρ y W hw hn hb hd;refine eP bA hb ((AQ W2.heap.size X F E)) (fun _ _ h=>h) ?_;have kB:=hw 92 8 rfl;have h8:=hd 8 rfl;refine ak _ (ag rfl) (run_move (.inl rfl) kB) ?_;exact h8
   ·intro ρ y W hw hn hb hd;refine eP bA hb ((Ah W2.heap.size X)) (fun _ _ h=>h) ?_;have hS:=hw 83 9 rfl;have h9:=hd 9 rfl;obtain⟨H9,e9,hs,ht⟩:=h9;refine ak (.agg (bW H9)) (ag rfl) (by simp[execOp,go_sem,bu,hS,e9]) ?_;exact⟨H9,rfl,hs,ht⟩
   ·intro ρ y W hw hn hb hd;refine eP bA hb (gI (.int .i64 F)) (fun _ _ h=>h) ?_;have hS:=hw 83 9 rfl;have h9:=hd 9 rfl;obtain⟨H9,e9,hs,ht⟩:=h9;refine ak (.int .i64 F) (ag rfl) (by simp[execOp,go_sem,bu,hS,e9]) rfl
   ·intro ρ y W hw hn hb hd;refine eP bA hb (gI (.int .i64 E)) (fun _ _ h=>h) ?_;have hS:=hw 83 9 rfl;have h9:=hd 9 rfl;obtain⟨H9,e9,hs,ht⟩:=h9;refine ak (.int .i64 E) (ag rfl) (by simp[execOp,go_sem,bu,hS,e9]) rfl
   ·intro ρ y W hw hn hb hd;refine eP bA hb ((eO W2.heap.size 44 11)) (fun _ _ h=>h) ?_;refine gz (.pointer (some ⟨W.heap.size,0,none⟩)) (ag rfl) (by simp[execOp,go_sem,bu];rfl) ((Below.refl _ _).alloc (az _) (.cells (bW noH) 44)) ?_;exact⟨_,_,rfl,hb.size,aJ.new _ _ _,rfl⟩
   ·intro ρ y W hw hn hb hd;have E5:=hw 5 13 rfl;have ky:=hd 13 rfl;have kA:=hw 93 10 rfl;have kz:=hd 10 rfl;obtain⟨H9,e9,hs,ht⟩:=kz;obtain⟨g3,cur3,e3,x,hJ,kk⟩:=ky;refine iZ (ag rfl) _ _ _ rfl g3 0 (.agg (bW H9)) (bW H9).toList (E5.trans e3) (kA.trans e9) rfl cur3 _ hJ (by rw[kk];exact az _) mach_size (fun u hu=>by have:=eU H9;rw[←iA,cK] at this;exact this u hu) ?_;intro w2 hl hI;rw[dU cur3 _ (by rw[kk];rfl)] at hl;refine⟨hb.grown hI hb.size (fun k hk=>by cases hk;exact x),⟨g3,H9,e3,x,hl,hs.keep hJ (by decide) hI,ht⟩,?_⟩;intro k hk kv
    match k,hk,kv with
    | 0,_,_=>exact fun h=>h
    | 1,_,_=>exact fun h=>h
    | 2,_,_=>exact fun h=>h
    | 3,_,_=>exact fun h=>h
    | 4,_,_=>exact fun h=>h
    | 5,_,_=>exact fun h=>h
    | 6,_,_=>exact fun h=>h
    | 7,_,_=>exact fun h=>h
    | 8,_,_=>exact fun⟨H8,q1,q2,q3⟩=>⟨H8,q1,q2.keep hJ (by decide) hI,q3⟩
    | 9,_,_=>exact fun⟨H8,q1,q2,q3⟩=>⟨H8,q1,q2.keep hJ (by decide) hI,q3⟩
    | 10,_,_=>exact fun⟨H8,q1,q2,q3⟩=>⟨H8,q1,q2.keep hJ (by decide) hI,q3⟩
    | 11,_,_=>exact fun h=>h
    | 12,_,_=>exact fun h=>h
    | 13,_,_=>exact fun q=>iy q hl (fun _=>rfl) ⟨_,hJ⟩ hI
    | 14,_,h=>exact absurd rfl h
    | 15,_,_=>exact fun h=>h
    | 16,_,_=>exact fun h=>h
    | n+17,h,_=>exact absurd h (by omega)
   intro y W3 hi hj;replace hi:Below W2.heap.size W2 W3:=hi;have kt:((AQ W2.heap.size X F E)).r (y 8) W3:=hj 8 (by decide);have kh:((AQ W2.heap.size X F E)).r (y 9) W3:=hj 9 (by decide);have hL:((Ah W2.heap.size X)).r (y 10) W3:=hj 10 (by decide);have kE:((eO W2.heap.size 44 11)).r (y 13) W3:=hj 13 (by decide);have ki:=hj 14 (by decide);clear hj;simp only[dE,bu,bF,bI];obtain⟨gm,H2,em,kw,mx3,t,hh⟩:=ki;have hg:=ae hh;have k3:=k2.below hi;have ax3:=ax2.ext hi;have j:=eT l hi;have s : qc W3 B H2:=t.mono (aV hK.out hl.out);rw[em];have hX:Hid (sO H.ma c=(setM H.ma X E,⟨E,F,[]⟩)):=ae (by rw[hY.out,hq.out,kg.out.1]);clear k2 c2 ax2 l t hh hi kw em hL kh kt kg
   go_wp2_with (refine aC _ _ rfl gm 0 rfl rfl (bW H2).toList mx3.rd _ underlying44 rfl mach_size ?_)
   refine (yU H H2 E B b _ k3 s).mono ?_;rintro r w6 ⟨rfl,hC,H6,k6,hN⟩;have hM:=ae hN;have ax6:=ax3.grown hC (fun e=>by cases e;omega);have hA:=tJ j hC;clear k3 ax3 hC hN j s mx3
   go_wp2_with (refine aT rfl _ _ _ rfl (fT E 0 nilV) rfl rfl rfl ans_size (bR _ _ _ _ _) ?_)
   intro w7 hZ bx7;have k7:=k6.below hZ;have ax7:=ax6.ext hZ;have ka:=eT hA hZ;have kc:Hid (w.heap.size<w6.heap.size):=ae ax6.lt;clear k6 ax6 hA hZ;generalize w6.heap.size=gn at bx7 kc
   go_wp2_with (refine bz rfl _ _ _ rfl gn 1 _ [.int .i64 F] rfl rfl rfl _ _ bx7 (by show 1+1≤3;decide) int_size (fun u hu=>by cases bN.1 hu;rfl) ?_)
   intro w8 bx8 hW;have bx8:aJ w8 gn (fT E F nilV) 52:=bx8;have k8:oN w8 B b H6:=k7.keepT bx7 (by decide) (by decide) hW;have ax8:=iT ax7 hW (by have:=kc.out;omega);have kp:=fG ka hW (wI kc.out);clear k7 ax7 ka bx7 hW
   go_wp2_with (first | (refine aC _ _ rfl gn 0 rfl rfl (fT E F nilV).toList bx8.rd _ underlying52 rfl ans_size ?_) | (refine ax rfl _ _ _ rfl w.heap.size (fT E F nilV) rfl rfl _ _ ax8 rfl ans_size (bR _ _ _ _ _) ?_))
   intro we axe i;have o:=fG kp i (az _);have ke:oN we B b H6:=k8.keepT ax8 (by decide) (by decide) i;go_wp2;refine bodyPost_ret (v:=.agg (fT E F nilV)) (aY results34 _ _ w.heap.size _ _ _ rfl axe underlying52 rfl ans_size) rfl ?_;rw[hX.out];exact⟨nilV,rfl,Own.nil _ _ _ _,o,H6,ke,by rw[hM.out,hg.out]⟩
  have d6:(c.k==6)=false:=by simpa using h6
  have hq:Hid (Y=VJ H.ma P):=ae (by rw[hD.out,if_neg h1,if_neg h2,if_neg h3,if_neg h4,if_neg h5,if_neg h6]);go_upto_region 19 with (fail);clear hv;have hH:Hid (¬Lh H (P:Int)):=ae (by
   rintro (e|e|e)
   ·omega
   ·omega
   ·rw[bD,hF.out] at e;cases e)
  refine aP 12 [.v (.pointer (some ⟨b,0,none⟩)),_,_,_,_,_,_,_,_,.r 9 ((XD W2.heap.size (DL H.ma P).m 0)),.r 10 ((Ah W2.heap.size (DL H.ma P).m)),.v (.int .i64 0)] (Gk rfl (Gk rfl (Gk rfl (Gf b 0 rfl rfl (Gr (.agg (bW H)) (fun ρ y W hb hz=>(bY rfl (aU rfl hz) ((k2.below hb).blk) underlying44 rfl mach_size)) rfl rfl (Gk rfl (Gk rfl (Gf gc 1 rfl rfl (Gl c2 (V:=.int .i64 (P:Int)) (by simp[mM,hB.out]) rfl rfl rfl rfl (aj ?_ (aj ?_ (aj ?_ (aF))))))))))))) (fun _=>rfl) rfl ?_
  ·intro ρ y W hw hn hb hd;have ks:=hw 107 4 rfl;have h4:y 4=_:=hd 4 rfl;have kr:=hw 111 8 rfl;have h8:y 8=_:=hd 8 rfl;have EF:∀f,ρ (.func f) = .func (.func f) #[] #[]:=fun f=>hn (.func f) trivial;refine aK _ _ (ag rfl) (aQ rfl (EF _) func70 (by kernel_rfl) (by kernel_rfl) (by simp only[bT,bF,bI,ks,h4,kr,h8,EF];rfl)) ?_;refine (hr.out.ex (by omega) H W rfl (k2.below hb).ma.rd).mono ?_;rintro r w9 ⟨kd,hx⟩;rcases hx with ⟨e,_⟩|⟨_,H9,rfl,hs,_,ht⟩;exact absurd e hH.out;exact⟨_,rfl,kd,H9,rfl,hs.mono hb.size,ht⟩
  ·intro ρ y W hw hn hb hd;have hT:=hw 112 9 rfl;have h9:=hd 9 rfl;obtain⟨H9,e9,hs,ht⟩:=h9;refine ak (.agg (bW H9)) (ag rfl) (by simp[execOp,go_sem,hT,e9]) ?_;exact⟨H9,rfl,hs,ht⟩
  ·intro ρ y W hw hn hb hd;have hT:=hw 112 9 rfl;have h9:=hd 9 rfl;obtain⟨H9,e9,hs,ht⟩:=h9;refine ak (.int .i64 0) (ag rfl) (by simp[execOp,go_sem,hT,e9]) rfl
  intro y W3 hi hj;have kh:((XD W2.heap.size (DL H.ma P).m 0)).r (y 9) W3:=hj 9 (by decide);have hL:((Ah W2.heap.size (DL H.ma P).m)).r (y 10) W3:=hj 10 (by decide);clear hj;have k3:=k2.below hi;have ax3:=ax2.ext hi;have j:=eT l hi;obtain⟨H2,e2,km,ko⟩:=hL;rw[e2];have kn:=ae ko;have kl : qc W3 B H2:=km.mono (aV hK.out hl.out);have hX:Hid (sO H.ma c=((DL H.ma P).m,kJ 0)):=ae (by rw[hY.out,hq.out];rfl);clear k2 c2 ax2 l hi km ko e2
  go_wp2_with fail
  refine (yU H H2 0 B b _ k3 kl).mono ?_;rintro r w6 ⟨rfl,hC,H6,k6,hN⟩;have hM:=ae hN;have ax6:=ax3.grown hC (fun e=>by cases e;omega);have hA:=tJ j hC;clear k3 ax3 hC hN j
  go_wp2_with (refine ax rfl _ _ _ rfl w.heap.size (fT 0 0 nilV) rfl rfl _ _ ax6 rfl ans_size (bR _ _ _ _ _) ?_)
  intro we axe i;have o:=fG hA i (az _);have ke:oN we B b H6:=k6.keepT ax6 (by decide) (by decide) i;clear k6 ax6 hA i;go_wp2;refine bodyPost_ret (v:=.agg (fT 0 0 nilV)) (aY results34 _ _ w.heap.size _ _ _ rfl axe underlying52 rfl ans_size) rfl ?_;rw[hX.out];exact⟨nilV,rfl,Own.nil _ _ _ _,o,H6,ke,by rw[hM.out];exact kn.out⟩
end Go.Proofs.YtpaeabelhnnbiaaGreat