import Derived.Test.YtjkkoeijlhfneaaGreatW4
import Derived.ArgAppend
import Derived.Deep.DeepCutAuto
import Derived.BigRegion
set_option linter.unusedSimpArgs false
set_option linter.unusedVariables false
set_option maxHeartbeats 4000000
set_option maxRecDepth 100000
namespace Go.Proofs.YtjkkoeijlhfneaaGreat
open _root_.Go.Proofs.Tryz
open Go.RowKit Go.Maps Pw
variable {B B' B0 O b c cb cq ct cv f g gd gk i j k n off p q rx s sz:Nat} {D:oD} {H N:MH} {L L':Nat → Bool} {P:Program} {Q:Exit → Act → World → Prop} {T e t:TypeId} {W W' W0 w w' w0 w1 w2:World} {a ab aq av:Option Addr} {bl:List Page} {cs:Array Value} {fs:List Fi} {h x:Operand} {lo:Int} {m m':Ma} {o:Oper} {ops:Array Oper} {ps:List PF} {rest:List Oper} {sl:List Int} {v vb vq:Value} {vs xs ys:List Value} {y:Nat → Value} {ρ:Operand → Value}
theorem vU (H:MH) (w:World) (h:BH w H) (hz:Ra H.ma) :
  Calls Tryz.prog 40 #[.agg (bS H)] w fun r w' => ∃H' : MH,r = .returned (.agg (bS H'))∧uz w' w.heap.size H'∧H'.ma=H.ma∧(∀p∈H'.fi,∀x,oB p.a=some x→oB H'.asl≠some x)∧Below w.heap.size w w':=by
 have z1:H.m.fs.length≤1000:=hz.fs;have z2:H.sl.length≤1000:=hz.sl;have z3:H.sw.blocks.length≤1000:=hz.swb;have z4:H.sw.queue.length≤1000:=hz.swq;have z5:H.dk.blocks.length≤1000:=hz.dkb;have z6:H.dk.queue.length≤1000:=hz.dkq;have z7:H.ca.length≤1000:=hz.ca;have z8:H.sp.length≤1000:=by have:=hz.sp.1;rw[Dq] at this;exact this
 have zf:=hz.fsz;go_enter func40,ntmps40;go_upto_region 1 with (fail);refine qQ (fun W=>Code.wp _ _ _ _ W) fun w1 s bx1 rx1 k1 => ?_;have ki:=h.below s;clear k1;refine nA 7 [_,_,.r 2 ((Wq w1.heap.size H.m)),_,_,.r 5 ((pJ w1.heap.size 3 1 H.sl.length (H.sl.map gB))),_] (fun W=>Below w1.heap.size w1 W) gP (Below.refl _ _) (Yf gP w.heap.size 0 rfl rfl (Yr gP (.agg #[.slice H.af H.m.fs.length H.cf,.int .i64 H.m.hand]) (fun ρ y W hb hy=>(bF rfl (aC rfl hy) (bL (bx1.ext hb) 0 2) underlying28 rfl (by kernel_rfl))) rfl rfl (ag ?_ (Yf gP w.heap.size 2 rfl rfl (Yc gP (.slice H.asl H.sl.length H.csl) (fun W hb=>by simp[(bx1.ext hb).cell,bS]) rfl rfl rfl rfl (ag ?_ (Yf gP w.heap.size 0 rfl rfl (aB)))))))) (fun _=>rfl) rfl ?_
 ·intro ρ y W hw hn hb hd;refine mh gP hb ((Wq w1.heap.size H.m)) (fun _ _ h=>h) ?_;have E7:=hw 7 1 rfl;have h1:y 1 = .agg #[.slice H.af H.m.fs.length H.cf,.int .i64 H.m.hand]:=hd 1 rfl;have EF:∀f,ρ (.func f) = .func (.func f) #[] #[]:=fun f=>hn (.func f) trivial;refine aL _ _ (ah rfl) (aO rfl (EF _) func73 (by kernel_rfl) (by kernel_rfl) (by simp only[bH,bA,bB,E7,h1,EF];rfl)) ?_;refine (Fg H.m _ _ W (ki.below hb).fr (by omega)).mono ?_;rintro r w3 ⟨u,rfl,ho,s⟩;exact⟨_,rfl,s,u,rfl,ho.mono hb.size⟩
 ·intro ρ y W hw hn hb hd;refine mh gP hb ((pJ w1.heap.size 3 1 H.sl.length (H.sl.map gB))) (fun _ _ h=>h) ?_;have gq:=hw 10 4 rfl;have h4:y 4 = .slice H.asl H.sl.length H.csl:=hd 4 rfl;have EF:∀f,ρ (.func f) = .func (.func f) #[] #[]:=fun f=>hn (.func f) trivial;refine aL _ _ (ah rfl) (aO rfl (EF _) func74 (by kernel_rfl) (by kernel_rfl) (by simp only[bH,bA,bB,gq,h4,EF];rfl)) ?_;have hs:=(ki.below hb).sl;refine (xz H.sl _ _ W hs.le hs.nl hs.rd (by omega)).mono ?_;rintro r w3 ⟨u,rfl,ho,s⟩;exact⟨_,rfl,s,ho.mono hb.size⟩
 intro y w2 ha ka;replace ha:Below w1.heap.size w1 w2:=ha;have hF:((Wq w1.heap.size H.m)).r (y 2) w2:=ka 2 (by decide);have hH:((pJ w1.heap.size 3 1 H.sl.length (H.sl.map gB))).r (y 5) w2:=ka 5 (by decide);clear ka;simp only[cz,dm,bA,bB];obtain⟨u1,kO,kv⟩:=hF;have kf:Own w2 w1.heap.size 3 1 (y 5) H.sl.length (H.sl.map gB):=hH;obtain⟨a1,c1,rfl,_⟩:=kv.rd;obtain⟨a2,c2,kr,_⟩:=Own.rd kf;rw[kr] at kf;rw[kO,kr];have bx2:=bx1.ext ha;have rx2:=rx1.ext ha;have h0:=ae s ha;have k5:=ki.below ha;have kJ:=Lib.hid s.size;have gr:=rx2.lt;clear ha bx1 rx1 ki kO kr hH
 go_wp2_with (refine gZ rfl _ _ _ rfl w.heap.size 0 #[.slice a1 H.m.fs.length c1,.int .i64 H.m.hand] rfl rfl _ _ bx2 (by show 0+2≤11;decide) mem_size (jm _ _ _ _) ?_)
 intro w3 bx3 hR;have ko:=ak kv bx2 (by decide) hR;have kl:=ak kf bx2 (by decide) hR;have hZ:=h0.grown hR h0.size (fun k hk=>by cases hk;exact az _);have rx3:=rx2.grown hR (fun e=>by have:=aJ e;omega);have bx3' : aA w3 w.heap.size (bS { H with af:=a1,cf:=c1 }) 41:=bx3;clear kv kf bx2 rx2 k5 hR bx3 h0
 go_wp2_with (refine aD rfl _ _ _ rfl w.heap.size 2 _ [.slice a2 H.sl.length c2] rfl rfl rfl _ _ bx3' (by show 2+1≤11;decide) slots_size (fun u hu=>by cases bv.1 hu;rfl) ?_)
 intro w4 bx4 hQ;have kn:=ak ko bx3' (by decide) hQ;have hN:=ak kl bx3' (by decide) hQ;have hD:=hZ.grown hQ hZ.size (fun k hk=>by cases hk;exact az _);have rx4:=rx3.grown hQ (fun e=>by have:=aJ e;omega);have bx4' : aA w4 w.heap.size (bS { H with af:=a1,cf:=c1,asl:=a2,csl:=c2 }) 41:=bx4;have kh:=h.below hD;clear ko kl bx3' rx3 hQ bx4 hZ;obtain⟨H4,gw⟩:∃H4:MH,Hid (H4 = { H with af:=a1,cf:=c1,asl:=a2,csl:=c2 }):=⟨_,Lib.hid rfl⟩;go_upto_region 2 with (fail);refine nA 10 [_,_,.r 2 ((yC w4.heap.size H.sw)),_,_,.r 5 ((yC w4.heap.size H.dk)),_,_,.r 8 ((LG w4.heap.size (cZ H.fi H.ct))),_] (fun W=>Below w4.heap.size w4 W) gP (Below.refl _ _) (Yf gP w.heap.size 3 rfl rfl (Yr gP (.agg #[.slice H.wb H.sw.blocks.length H.cwb,.slice H.wq H.sw.queue.length H.cwq]) (fun ρ y W hb hy=>(bF rfl (aC rfl hy) (bL (bx4'.ext hb) 3 2) underlying34 rfl (by kernel_rfl))) rfl rfl (ag ?_ (Yf gP w.heap.size 5 rfl rfl (Yr gP (.agg #[.slice H.db H.dk.blocks.length H.cdb,.slice H.dq H.dk.queue.length H.cdq]) (fun ρ y W hb hy=>(bF rfl (aC rfl hy) (bL (bx4'.ext hb) 5 2) underlying34 rfl (by kernel_rfl))) rfl rfl (ag ?_ (Yf gP w.heap.size 7 rfl rfl (Yr gP (.agg #[.slice H.ai H.fi.length H.ci,.int .i64 H.ct]) (fun ρ y W hb hy=>(bF rfl (aC rfl hy) (bL (bx4'.ext hb) 7 2) underlying37 rfl (by kernel_rfl))) rfl rfl (ag ?_ (Yf gP w.heap.size 3 rfl rfl (aB))))))))))) (fun _=>rfl) rfl ?_
 ·intro ρ y W hw hn hb hd;refine mh gP hb ((yC w4.heap.size H.sw)) (fun _ _ h=>h) ?_;have gp:=hw 15 1 rfl;have h1:y 1 = .agg #[.slice H.wb H.sw.blocks.length H.cwb,.slice H.wq H.sw.queue.length H.cwq]:=hd 1 rfl;have EF:∀f,ρ (.func f) = .func (.func f) #[] #[]:=fun f=>hn (.func f) trivial;refine aL _ _ (ah rfl) (aO rfl (EF _) func75 (by kernel_rfl) (by kernel_rfl) (by simp only[bH,bA,bB,gp,h1,EF];rfl)) ?_;refine (EX H.sw _ _ _ _ W (kh.below hb).sw (by omega) (by omega)).mono ?_;rintro r w3 ⟨u,v,rfl,ho,s⟩;exact⟨_,rfl,s,u,v,rfl,ho.mono hb.size⟩
 ·intro ρ y W hw hn hb hd;refine mh gP hb ((yC w4.heap.size H.dk)) (fun _ _ h=>h) ?_;have gn:=hw 18 4 rfl;have h4:y 4 = .agg #[.slice H.db H.dk.blocks.length H.cdb,.slice H.dq H.dk.queue.length H.cdq]:=hd 4 rfl;have EF:∀f,ρ (.func f) = .func (.func f) #[] #[]:=fun f=>hn (.func f) trivial;refine aL _ _ (ah rfl) (aO rfl (EF _) func75 (by kernel_rfl) (by kernel_rfl) (by simp only[bH,bA,bB,gn,h4,EF];rfl)) ?_;refine (EX H.dk _ _ _ _ W (kh.below hb).dk (by omega) (by omega)).mono ?_;rintro r w3 ⟨u,v,rfl,ho,s⟩;exact⟨_,rfl,s,u,v,rfl,ho.mono hb.size⟩
 ·intro ρ y W hw hn hb hd;refine mh gP hb ((LG w4.heap.size (cZ H.fi H.ct))) (fun _ _ h=>h) ?_;have gm:=hw 21 7 rfl;have h7:y 7 = .agg #[.slice H.ai H.fi.length H.ci,.int .i64 H.ct]:=hd 7 rfl;have EF:∀f,ρ (.func f) = .func (.func f) #[] #[]:=fun f=>hn (.func f) trivial;refine aL _ _ (ah rfl) (aO rfl (EF _) func61 (by kernel_rfl) (by kernel_rfl) (by simp only[bH,bA,bB,gm,h7,EF];rfl)) ?_;refine (Fs H.fi H.ct _ _ W (kh.below hb).st zf).mono ?_;rintro r w3 ⟨u,ps,rfl,ho,he,s⟩;exact⟨_,rfl,s,u,ps,_,rfl,ho.mono hb.size,by unfold cZ;rw[he]⟩
 intro y w5 z hE;replace z:Below w4.heap.size w4 w5:=z;have hF:((yC w4.heap.size H.sw)).r (y 2) w5:=hE 2 (by decide);have hH:((yC w4.heap.size H.dk)).r (y 5) w5:=hE 5 (by decide);have kC:((LG w4.heap.size (cZ H.fi H.ct))).r (y 8) w5:=hE 8 (by decide);clear hE;simp only[cz,dm,bA,bB];obtain⟨ub,uq,kN,ke⟩:=hF;obtain⟨vb,vq,kM,kd⟩:=hH;obtain⟨us,ps,ks,kL,kc,kQ⟩:=kC;have k6 : -9223372036854775808≤ks∧ks≤9223372036854775807:=by have e:ks=H.ct:=congrArg St.count kQ;rw[e];exact h.c64
 obtain⟨ab,cb,rfl,_⟩:=ke.b.rd;obtain⟨aq,cq,rfl,_⟩:=ke.q.rd;obtain⟨db,eb,rfl,_⟩:=kd.b.rd;obtain⟨dq,eq,rfl,_⟩:=kd.q.rd;obtain⟨as_,cs,rfl,_⟩:=kc.rd;rw[kN,kM,kL];have k3:Hid (∀p∈ps,∀x,oB p.a=some x→oB a2≠some x):=Lib.hid (fun p hp x hx e=>by have h1:=(iV hN e).2.choose_spec.lt;obtain⟨i,hi,rfl⟩:=jK.1 hp;have h2:=(iV (kc.each i _ (aI hi)) hx).1;omega);have bx5:=bx4'.ext z;have rx5:=rx4.ext z;have hY:=ae hD z;have km:=kn.below z;have kk:=hN.below z;have hI:=Lib.hid hD.size;clear z bx4' rx4 kh kN kM kL kn hN hD
 go_wp2_with (refine gZ rfl _ _ _ rfl w.heap.size 3 #[.slice ab H.sw.blocks.length cb,.slice aq H.sw.queue.length cq] rfl rfl _ _ bx5 (by show 3+2≤11;decide) disk_size (kP _ _ _ _ _ _) ?_)
 intro w6 bx6 hl;have hX:=hY.grown hl hY.size (fun k hk=>by cases hk;exact az _);have rx6:=rx5.grown hl (fun e=>by have:=aJ e;omega);have p1:=ak km bx5 (by decide) hl;have p2:=ak kk bx5 (by decide) hl;have p3:=ke.keep bx5 (by decide) (by decide) hl;have p4:=kd.keep bx5 (by decide) (by decide) hl;have p5:=kc.keep bx5 (by decide) (by decide) hl;clear bx5 rx5 hl km kk ke kd kc hY
 go_wp2_with (refine gZ rfl _ _ _ rfl w.heap.size 5 #[.slice db H.dk.blocks.length eb,.slice dq H.dk.queue.length eq] rfl rfl _ _ bx6 (by show 5+2≤11;decide) disk_size (kP _ _ _ _ _ _) ?_)
 intro w7 bx7 hj;have hW:=hX.grown hj hX.size (fun k hk=>by cases hk;exact az _);have rx7:=rx6.grown hj (fun e=>by have:=aJ e;omega);have q1:=ak p1 bx6 (by decide) hj;have q2:=ak p2 bx6 (by decide) hj;have q3:=p3.keep bx6 (by decide) (by decide) hj;have q4:=p4.keep bx6 (by decide) (by decide) hj;have q5:=p5.keep bx6 (by decide) (by decide) hj;clear bx6 rx6 hj p1 p2 p3 p4 p5 hX
 go_wp2_with (refine gZ rfl _ _ _ rfl w.heap.size 7 #[.slice as_ ps.length cs,.int .i64 ks] rfl rfl _ _ bx7 (by show 7+2≤11;decide) store_size (sK _ _ _ _) ?_)
 intro w8 bx8 hh;have hC:=hW.grown hh hW.size (fun k hk=>by cases hk;exact az _);have rx8:=rx7.grown hh (fun e=>by have:=aJ e;omega);have p1:=ak q1 bx7 (by decide) hh;have p2:=ak q2 bx7 (by decide) hh;have p3:=q3.keep bx7 (by decide) (by decide) hh;have p4:=q4.keep bx7 (by decide) (by decide) hh;have p5:=q5.keep bx7 (by decide) (by decide) hh;obtain⟨H8,kA⟩:∃H8:MH,Hid (H8 = { H with af:=a1,cf:=c1,asl:=a2,csl:=c2,wb:=ab,cwb:=cb,wq:=aq,cwq:=cq,db:=db,cdb:=eb,dq:=dq,cdq:=eq,ai:=as_,ci:=cs,fi:=ps,ct:=ks }):=⟨_,Lib.hid rfl⟩;have bx8' : aA w8 w.heap.size (bS H8) 41:=by rw[kA.out];exact bx8
 have kg:=h.below hC;clear bx7 rx7 hh bx8 q1 q2 q3 q4 q5 hW;have kx:w8.cell? ⟨w.heap.size,9,none⟩=some (.slice H.ac H.ca.length H.cc):=by rw[bx8'.cell,kA.out];rfl
 go_wp2_with fail
 refine (IK H.ca H.ac H.cc _ kg.ca.le kg.ca.nl kg.ca.rd (by omega)).mono ?_;rintro r w9 ⟨v9,rfl,ku,hf⟩;obtain⟨a6,c6,rfl,_⟩:=ku.rd;have bx9:=bx8'.ext hf;have rx9:=rx8.ext hf;have hU:=ae hC hf;have q1:=p1.below hf;have q2:=p2.below hf;have q3:=p3.below hf;have q4:=p4.below hf;have q5:=p5.below hf;have kZ:=Lib.hid hC.size;clear kx bx8' rx8 kg p1 p2 p3 p4 p5 hf hC
 go_wp2_with (refine aD rfl _ _ _ rfl w.heap.size 9 _ [.slice a6 H.ca.length c6] rfl rfl rfl _ _ bx9 (by show 9+1≤11;decide) caO_size (fun u hu=>by cases bv.1 hu;rfl) ?_)
 intro w10 bx10 g;have ht:=hU.grown g hU.size (fun k hk=>by cases hk;exact az _);have rx10:=rx9.grown g (fun e=>by have:=aJ e;omega);have p1:=(ak q1 bx9 (by decide) g).mono kJ.out;have p2:=(ak q2 bx9 (by decide) g).mono kJ.out;have p3:=(q3.keep bx9 (by decide) (by decide) g).mono hI.out;have p4:=(q4.keep bx9 (by decide) (by decide) g).mono hI.out;have p5:=(q5.keep bx9 (by decide) (by decide) g).mono hI.out;have p6:=(ak ku bx9 (by decide) g).mono kZ.out;obtain⟨G,hG⟩:∃G:MH,Hid (G = { H with af:=a1,cf:=c1,asl:=a2,csl:=c2,wb:=ab,cwb:=cb,wq:=aq,cwq:=cq,db:=db,cdb:=eb,dq:=dq,cdq:=eq,ai:=as_,ci:=cs,fi:=ps,ct:=ks,ac:=a6,cc:=c6 }):=⟨_,Lib.hid rfl⟩;have bxG:aA w10 w.heap.size (bS G) 41:=by rw[hG.out];rw[kA.out] at bx10;exact bx10
 clear bx9 rx9 g bx10 q1 q2 q3 q4 q5 ku hU;have gs:Hid (G.ap=H.ap∧G.sp=H.sp∧G.cp=H.cp):=Lib.hid (by rw[hG.out];exact⟨rfl,rfl,rfl⟩);have kx:w10.cell? ⟨w.heap.size,10,none⟩=some (.slice H.ap H.sp.length H.cp):=by rw[bxG.cell,hG.out];rfl
 have kX:=h.below ht;have kW:Own w10 w.heap.size 55 10 (.slice none 0 0) ([]:List PS).length (([]:List PS).flatMap uj):=by simpa using Own.nil _ _ _ _
 go_upto_region 6 with (fail);clear kx kX
 go_loopw [3,33] (fun s3 i wr => ∃(q:Nat) (qs:List PS) (av:Option Addr) (cv:Nat),q≤H.sp.length∧i = .int .i64 q∧s3 = .slice av qs.length cv∧Below w.heap.size w wr∧aA wr w.heap.size (bS G) 41∧aA wr (w.heap.size+1) _ 41 ∧
  Own wr w.heap.size 81 13 (.slice a1 H.m.fs.length c1) H.m.fs.length (H.m.fs.flatMap qz)∧Own wr w.heap.size 3 1 (.slice a2 H.sl.length c2) H.sl.length (H.sl.map gB)∧iE wr w.heap.size (.slice ab H.sw.blocks.length cb) (.slice aq H.sw.queue.length cq) H.sw∧iE wr w.heap.size (.slice db H.dk.blocks.length eb) (.slice dq H.dk.queue.length eq) H.dk ∧
  nM wr w.heap.size (.slice as_ ps.length cs) ps∧Own wr w.heap.size 106 3 (.slice a6 H.ca.length c6) H.ca.length (H.ca.flatMap mE)∧Own wr w.heap.size 55 10 (.slice av qs.length cv) qs.length (qs.flatMap uj)∧(∀p∈qs,vR wr w.heap.size p p.sp∧FC p.tb)∧Hid (qs.map PS.sp=(H.sp.take q).map PS.sp)) (fun _ i _=>H.sp.length-(intOf i).toNat)
 case atStart=>exact⟨0,[],none,0,aW _,rfl,rfl,ht,bxG,rx10,p1,p2,p3,p4,p5,p6,kW,fun p hp=>(by simp at hp),Lib.hid rfl⟩
 case round=>
  clear ht bxG rx10 p1 p2 p3 p4 p5 p6 kW;obtain⟨q,qs,av,cv,hq,rfl,rfl,hv,bx,rx,p1,p2,p3,p4,p5,p6,ho,hL,kb⟩:=hrel;have gv:qs.length≤q:=by have:=congrArg List.length kb.out;rw[eH,eH,kK] at this;omega
  by_cases hql2:q<H.sp.length
  ·obtain⟨bs,os,P,k8,hP,kR⟩:=wN (h.below hv).sp.rd q hql2;have hr:=qU (h.below hv) hP;have k9:=bN hP;obtain⟨gt,kB⟩:=hz.spz k9;have k2:(q:Int)<(H.sp.length:Int):=by omega
   have kT:Hid (qs.map PS.sp++[P.sp]=(H.sp.take (q+1)).map PS.sp):=Lib.hid (by rw[take_at hP,gz,kb.out];rfl);rw[k8];have kj:(uM P).all (·.oneCell')=true:=by rw[←jr,dF];exact hr.one
   go_wp2_with (first | (refine ax _ _ rfl bs (os+q*10) rfl rfl _ kR _ underlying55 rfl space_size ?_) | (refine aF rfl _ _ _ rfl (uM P) rfl rfl rfl space_size kj ?_))
   intro w11 l fx;have hc:=ae hv l;have d:=hr.below l;have bx11:=bx.ext l;have rx11:=rx.ext l;have q1:=p1.below l;have q2:=p2.below l;have q3:=p3.below l;have q4:=p4.below l;have q5:=p5.below l;have q6:=p6.below l;have hO:=ho.below l;have hm:∀p∈qs,vR w11 w.heap.size p p.sp∧FC p.tb:=fun p hp=>⟨(hL p hp).1.below l,(hL p hp).2⟩;have kw:=Lib.hid hc.size;clear hv hr bx rx p1 p2 p3 p4 p5 p6 ho hL l kR kj hP;go_upto_region 8 with (fail);refine Od 0 3 (.slice av qs.length cv) (by kernel_rfl) (by kernel_rfl) rfl fun ops0 hM => ?_;simp only[freedL,Be] at hM;subst hM;refine Hg 11 12 [] [ve (.slice av qs.length cv),ve (.pointer (some ⟨wr.heap.size,0,none⟩)),ve (.bool P.lv),ve (.pointer (some ⟨wr.heap.size,1,none⟩)),ve (.slice P.aa P.ar.length P.ac),(pJ w11.heap.size 99 7 P.ar.length (P.ar.flatMap mP)),ve (.pointer (some ⟨wr.heap.size,2,none⟩)),ve (.agg (nG P.ts)),(Kg w11.heap.size P.tb),(VY w11.heap.size P.sp),(WQ w11.heap.size P.sp)] (by kernel_rfl) (by kernel_rfl) (by kernel_rfl) (by kernel_rfl) (by kernel_rfl) (by decide) (Nat.le_of_ble_eq_true (by kernel_rfl)) _ rfl (by kernel_rfl) (ag ?_ (ag ?_ (ag ?_ (ag ?_ (ag ?_ (ag ?_ (ag ?_ (ag ?_ (ag ?_ (ag ?_ (ag ?_ (aB)))))))))))) (aB) rfl ?_
   ·refine bK rfl ?_;intro ρ y W hw hn hb hd;refine aj (.slice av qs.length cv) (ah rfl) (run_move (.inl rfl) (hn (.const _) trivial)) rfl
   ·refine bK rfl ?_;intro ρ y W hw hn hb hd;have E5:ρ (.tmp 5) = .pointer (some ⟨wr.heap.size,0,none⟩):=(hn (.tmp 5) rfl).trans rfl;refine aj (.pointer (some ⟨wr.heap.size,0,none⟩)) (ah rfl) (by simp[execOp,go_sem,E5]) rfl
   ·refine bK rfl ?_;intro ρ y W hw hn hb hd;have gl:=hw 38 1 rfl;have h1:y 1 = .pointer (some ⟨wr.heap.size,0,none⟩):=hd 1 rfl;refine aj (.bool P.lv) (ah rfl) (by simp[execOp,go_sem,gl,h1,(fx.ext hb).cell,uM]) rfl
   ·refine bK rfl ?_;intro ρ y W hw hn hb hd;have E5:ρ (.tmp 5) = .pointer (some ⟨wr.heap.size,0,none⟩):=(hn (.tmp 5) rfl).trans rfl;refine aj (.pointer (some ⟨wr.heap.size,1,none⟩)) (ah rfl) (by simp[execOp,go_sem,E5]) rfl
   ·refine bK rfl ?_;intro ρ y W hw hn hb hd;have gj:=hw 40 3 rfl;have h3:y 3 = .pointer (some ⟨wr.heap.size,1,none⟩):=hd 3 rfl;refine aj (.slice P.aa P.ar.length P.ac) (ah rfl) (by simp[execOp,go_sem,gj,h3,(fx.ext hb).cell,uM]) rfl
   ·refine bK rfl ?_;intro ρ y W hw hn hb hd;have gi:=hw 41 4 rfl;have h4:y 4 = .slice P.aa P.ar.length P.ac:=hd 4 rfl;have EF:∀f,ρ (.func f) = .func (.func f) #[] #[]:=fun f=>hn (.func f) trivial;refine aL _ _ (ah rfl) (aO rfl (EF _) func41 (by kernel_rfl) (by kernel_rfl) (by simp only[bH,bA,bB,gi,h4,EF];rfl)) ?_;have hA:=(d.below hb).ars;refine (KF P.ar P.aa P.ac W hA.le hA.nl hA.rd (by omega)).mono ?_;rintro e w1 ⟨u,rfl,ho,s⟩;exact⟨u,rfl,s,ho.mono hb.size⟩
   ·refine bK rfl ?_;intro ρ y W hw hn hb hd;have E5:ρ (.tmp 5) = .pointer (some ⟨wr.heap.size,0,none⟩):=(hn (.tmp 5) rfl).trans rfl;refine aj (.pointer (some ⟨wr.heap.size,2,none⟩)) (ah rfl) (by simp[execOp,go_sem,E5]) rfl
   ·refine bK rfl ?_;intro ρ y W hw hn hb hd;have gg:=hw 43 6 rfl;have h6:y 6 = .pointer (some ⟨wr.heap.size,2,none⟩):=hd 6 rfl;refine aj (.agg (nG P.ts)) (ah rfl) (bF rfl (gg.trans h6) (bL (fx.ext hb) 2 8) underlying53 tab_agg tab_size) rfl
   ·refine bK rfl ?_;intro ρ y W hw hn hb hd;have gf:=hw 44 7 rfl;have h7:y 7 = .agg (nG P.ts):=hd 7 rfl;have EF:∀f,ρ (.func f) = .func (.func f) #[] #[]:=fun f=>hn (.func f) trivial;refine aL _ _ (ah rfl) (aO rfl (EF _) func77 (by kernel_rfl) (by kernel_rfl) (by simp only[bH,bA,bB,gf,h7,EF];rfl)) ?_;refine (KN P.tb (nG P.ts) W (d.below hb).tb kB).mono ?_;rintro e w1 ⟨u,rfl,ho,s⟩;exact⟨_,rfl,s,u,rfl,ho.mono hb.size⟩
   ·refine bK rfl ?_;intro ρ y W hw hn hb hd;have gk:=hw 39 2 rfl;have h2:y 2 = .bool P.lv:=hd 2 rfl;have gh:=hw 42 5 rfl;have h5:((pJ w11.heap.size 99 7 P.ar.length (P.ar.flatMap mP))).r (y 5) W:=hd 5 rfl;have gd:=hw 45 8 rfl;have h8:((Kg w11.heap.size P.tb)).r (y 8) W:=hd 8 rfl;obtain⟨x5,c5,e5,_⟩:=Own.rd h5;obtain⟨cs8,e8,kV⟩:=h8;obtain⟨v8,rfl⟩:=Tk kV.sz;have ga:Own W w11.heap.size 99 7 (.slice x5 P.ar.length c5) P.ar.length (P.ar.flatMap mP):=by rw[←e5];exact h5
    refine aj (.agg (uM ⟨P.lv,x5,c5,P.ar,v8,P.tb⟩)) (ah rfl) (by simp[execOp,go_sem,gk.trans h2,gh,e5,gd,e8,nG,uM]) ?_;exact⟨⟨P.lv,x5,c5,P.ar,v8,P.tb⟩,rfl,rfl,ga,kV⟩
   ·refine bK rfl ?_;intro ρ y W hw hn hb hd;have gc:=hw 46 9 rfl;have h9:((VY w11.heap.size P.sp)).r (y 9) W:=hd 9 rfl;obtain⟨p9,e9,k7⟩:=h9;refine jT (.slice (some ⟨W.heap.size,0,none⟩) 1 1) (ah rfl) (by simp[execOp,go_sem,gc,e9,uM]) ((Below.refl _ _).alloc (az _) (.cells (uM p9) 55)) ?_;exact⟨_,p9,rfl,dI.new _ _ _,k7.below ((Below.refl _ _).alloc (az _) _)⟩
   intro ρ y WA o ho hw hn hV j n;cases ho;have kq:y 0 = .slice av qs.length cv:=n 0 (by decide);have kI:y 1 = .pointer (some ⟨wr.heap.size,0,none⟩):=n 1 (by decide);have hF:y 2 = .bool P.lv:=n 2 (by decide);have kG:y 3 = .pointer (some ⟨wr.heap.size,1,none⟩):=n 3 (by decide);have kF:y 4 = .slice P.aa P.ar.length P.ac:=n 4 (by decide);have hH:((pJ w11.heap.size 99 7 P.ar.length (P.ar.flatMap mP))).r (y 5) WA:=n 5 (by decide);have kE:y 6 = .pointer (some ⟨wr.heap.size,2,none⟩):=n 6 (by decide);have kD:y 7 = .agg (nG P.ts):=n 7 (by decide);have kC:((Kg w11.heap.size P.tb)).r (y 8) WA:=n 8 (by decide);have gu:((VY w11.heap.size P.sp)).r (y 9) WA:=n 9 (by decide);have kH:((WQ w11.heap.size P.sp)).r (y 10) WA:=n 10 (by decide);have kY:=hw 37 0 rfl;rw[kq] at kY;have gb:=hw 47 10 rfl;have EC:∀v,ρ (.const v)=v:=fun v=>hn (.const v) trivial;have EF:∀f,ρ (.func f) = .func (.func f) #[] #[]:=fun f=>hn (.func f) trivial;obtain⟨g10,p10,e10,hJ,g⟩:=kH;refine IA (ah rfl) (mM (.tmp 37) (.tmp 47) 39 rfl w.heap.size 55 _ 10 224 underlying39 space_info rfl (by decide) _ _ _ kY (hO.below j) _ 1 1 (uj p10) (gb.trans e10) (fun e=>by cases e) (az _) rfl hJ (Ud g) (by unfold maxLen;omega) (by omega) (aY kw.out j.size)) ?_;rintro v2 w13 ⟨hB,c,hS⟩;clear n hw hn hV;simp only[lay,Nat.reduceAdd,Nat.reduceLT,Nat.reduceEqDiff,reduceIte,decide_true,decide_false,if_true,vK,if_false,CU,qO,vE,Aw,De,Al,kq,kI,hF,kG,kF,kE,kD];clear kq kI hF kG kF kE kD;have t:=hO.below j;have hT:=ae hc j;have ky:Below w.heap.size w w13:=hT.grown c hT.size (fun k hk=>t.ge k hk);have hg : Own w13 w.heap.size 55 10 v2 (qs++[p10]).length ((qs++[p10]).flatMap uj):=by rw[jP,fu];simpa using hB
   obtain⟨a13,c13,rfl,_⟩:=hg.rd;have r1:=iP t c (q1.below j) (by decide);have r2:=iP t c (q2.below j) (by decide);have r3:iE w13 w.heap.size _ _ H.sw:=⟨iP t c (q3.below j).b (by decide),iP t c (q3.below j).q (by decide)⟩;have r4:iE w13 w.heap.size _ _ H.dk:=⟨iP t c (q4.below j).b (by decide),iP t c (q4.below j).q (by decide)⟩;have r5:=UC t c (q5.below j);have r6:=iP t c (q6.below j) (by decide);have bx13:=AR t c (bx11.ext j) (by decide);have rx13:=AR t c (rx11.ext j) (by decide);have kt:∀p∈qs++[p10],vR w13 w.heap.size p p.sp∧FC p.tb:=fun p hp=>by
    rcases fV.1 hp with hp|hp
    ·have h1:=(hm p hp).1.below j;exact⟨⟨rfl,iP t c h1.2.1 (by decide),CR t c h1.2.2⟩,(hm p hp).2⟩
    rw[bv.1 hp];refine⟨⟨rfl,(iP t c g.2.1 (by decide)).mono kw.out,(CR t c g.2.2).mono kw.out⟩,?_⟩;have e:p10.tb=P.tb:=congrArg Sp.tb g.1;rw[e];exact kB
   have kS:Hid ((qs++[p10]).map PS.sp=(H.sp.take (q+1)).map PS.sp):=Lib.hid (by rw[gz,←kT.out,←g.1];rfl);clear hO t hT j hB c hS g hJ fx d bx11 rx11 q1 q2 q3 q4 q5 q6 hm;go_wp2;go_roundw
   case rel=>exact⟨q+1,_,_,_,by omega,by go_num,rfl,ky,bx13,rx13,r1,r2,r3,r4,r5,r6,hg,kt,kS⟩
   case measure=>simp[intOf];omega
  have k2:¬(q:Int)<(H.sp.length:Int):=by omega
  rw[iJ (by omega)] at kb
  go_wp2_with (refine aD rfl _ _ _ rfl w.heap.size 10 _ [.slice av qs.length cv] rfl rfl rfl _ _ bx (by show 10+1≤11;decide) slsp_size (fun u hu=>by cases bv.1 hu;rfl) ?_)
  intro w11 bx11 d;have hc:=hv.grown d hv.size (fun k hk=>by cases hk;exact az _);have rx11:=rx.grown d (fun e=>by have:=aJ e;omega);obtain⟨K,hK⟩:∃K:MH,Hid (K = { G with ap:=av,cp:=cv,sp:=qs }):=⟨_,Lib.hid rfl⟩;have bxK:aA w11 w.heap.size (bS K) 41:=by rw[hK.out];exact bx11
  have kU:uz w11 w.heap.size K:=by rw[hK.out,hG.out];exact⟨ak p1 bx (by decide) d,ak p2 bx (by decide) d,p3.keep bx (by decide) (by decide) d,p4.keep bx (by decide) (by decide) d,p5.keep bx (by decide) (by decide) d,ak p6 bx (by decide) d,ak ho bx (by decide) d,fun p hp=>⟨ak (hL p hp).1.2.1 bx (by decide) d,(hL p hp).1.2.2.keep bx (by decide) d⟩,k6⟩
  have k4:K.ma=H.ma:=by rw[hK.out,hG.out];unfold MH.ma;simp only;rw[kb.out,kQ]
  have k0:∀p∈K.fi,∀x,oB p.a=some x→oB K.asl≠some x:=by rw[hK.out,hG.out];exact k3.out
  clear hv bx rx d bx11 p1 p2 p3 p4 p5 p6 ho
  go_wp2_with (first | (refine ax _ _ rfl w.heap.size 0 rfl rfl (bS K).toList bxK.rd _ underlying41 rfl mach_size ?_) | (refine ay rfl _ _ _ rfl (w.heap.size+1) (bS K) rfl rfl _ _ rx11 rfl mach_size (fI K) ?_))
  intro w12 rx12 kp;have kz:=hc.grown kp hc.size (fun k hk=>by cases hk;omega);go_wp2;refine bodyPost_ret (v:=.agg (bS K)) (eO results40 _ _ (w.heap.size+1) _ _ _ rfl rx12 underlying41 rfl mach_size) rfl ?_;exact⟨K,rfl,kU.keep rx11 (by decide) kp,k4,k0,kz⟩
def qc (f s b:Int):Ma:=if (0≤f∧f≤40)∧(0≤s∧s≤60)∧(0≤b∧b≤80) then ⟨zu f,Ct s,qy s,qy b,⟨[],b⟩,[],[⟨true,[],zTb⟩]⟩ else zMa
def BP (f s b:Int):Int:=if (0≤f∧f≤40)∧(0≤s∧s≤60)∧(0≤b∧b≤80) then 0 else 4
def noH:MH:=⟨none,0,noM,none,0,[],none,0,none,0,⟨[],[]⟩,none,0,none,0,⟨[],[]⟩,none,0,[],0,none,0,[],none,0,[]⟩
theorem JB (w:World) (B:Nat):uz w B noH:=
 ⟨Own.nil _ _ _ _,Own.nil _ _ _ _,iE.nil _ _,iE.nil _ _,⟨Own.nil _ _ _ _,fun i p hp=>by simp[noH] at hp,fun i j p q _ hp=>by simp[noH] at hp⟩,Own.nil _ _ _ _,Own.nil _ _ _ _,fun p hp=>by simp[noH] at hp,by decide⟩
def nTs:Vector Value 8:=⟨#[.slice none 0 0,.slice none 0 0,.slice none 0 0,.slice none 0 0,.slice none 0 0,.slice none 0 0,.slice none 0 0,.slice none 0 0],rfl⟩
def newP:PS:=⟨true,none,0,[],nTs,zTb⟩
theorem Sl (w:World) (B:Nat) (hB:B≤w.heap.size):Own (w.alloc (.cells (uM newP) 55)) B 55 10 (.slice (some ⟨w.heap.size,0,none⟩) 1 1) 1 ([newP].flatMap uj):=
 ⟨rfl,.inr ⟨w.heap.size,0,1,uM newP,rfl,hB,aA.new _ _ _,az _,by decide,by decide,fun j u h=>by rw[dZ,←uF];rw[show [newP].flatMap uj=(uM newP).toList from by rw[lX,Ji,kQ];rfl] at h;exact h⟩⟩
theorem KH (f s b:Int) (w:World) (hb64 : -9223372036854775808≤b∧b≤9223372036854775807) :
  Calls Tryz.prog 59 #[.agg #[.int .i64 f,.int .i64 s,.int .i64 b]] w fun r w' => ∃H' : MH,r = .returned (.tuple #[.agg (bS H'),.int .i64 (BP f s b)])∧uz w' w.heap.size H'∧H'.ma=qc f s b∧Below w.heap.size w w':=by
 go_enter func59,ntmps59;have bx0:=aA.new w #[.int .i64 f,.int .i64 s,.int .i64 b] 23;have h1:Below w.heap.size w (w.alloc (.cells #[.int .i64 f,.int .i64 s,.int .i64 b] 23)):=(Below.refl _ _).alloc (az _) _;have h2:Below (w.alloc (.cells #[.int .i64 f,.int .i64 s,.int .i64 b] 23)).heap.size (w.alloc (.cells #[.int .i64 f,.int .i64 s,.int .i64 b] 23)) ((w.alloc (.cells #[.int .i64 f,.int .i64 s,.int .i64 b] 23)).alloc (.cells (bS noH) 41)):=(Below.refl _ _).alloc (az _) _;have hy:=ae h1 h2;have bx1:=bx0.ext h2;have rx1:=aA.new (w.alloc (.cells #[.int .i64 f,.int .i64 s,.int .i64 b] 23)) (bS noH) 41;rw[show (w.alloc (.cells #[.int .i64 f,.int .i64 s,.int .i64 b] 23)).heap.size=w.heap.size+1 from Aa _] at rx1;clear h1 h2
 go_wp2_with fail
 refine (RZ f _).mono ?_;rintro r w1 ⟨v1,rfl,hB,hn⟩;have bx1:=bx1.ext hn;have rx1:=rx1.ext hn;have hr:=ae hy hn;have c:=aA.new w1 #[.slice none 0 0,.int .i64 0] 28;have a:Below w1.heap.size w1 (w1.alloc (.cells #[.slice none 0 0,.int .i64 0] 28)):=(Below.refl _ _).alloc (az _) _;have bx2:=bx1.ext a;have rx2:=rx1.ext a;have hm:=ae hr a;have p1:=(hB.below a);obtain⟨a1,c1,rfl,_⟩:=p1.rd;have hQ:=rx1.lt;have hC:=hy.size;clear hy hn a hB hr bx1
 go_wp2_with (refine ay rfl _ _ _ rfl w1.heap.size #[.slice a1 (zu f).fs.length c1,.int .i64 0] rfl rfl _ _ c rfl mem_size (jm _ _ _ _) ?_)
 intro w2 mb2 hh;have bx3:=bx2.grown hh (fun e=>by have:=aJ e;omega);have rx3:=rx2.grown hh (fun e=>by have:=aJ e;omega);have hg:=hm.grown hh hm.size (fun k hk=>by cases hk;omega);have q1:=ak p1 c (by decide) hh;have hw:w2.cell? ⟨w.heap.size,1,none⟩=some (.int .i64 s):=by rw[bx3.cell];rfl
 clear bx2 rx2 hm c p1 hh
 by_cases hf:0≤f∧f≤40
 ·have e1:OD f=0:=if_pos hf;rw[e1]
  go_wp2_with fail
  refine (PX s _).mono ?_;rintro r w3 ⟨v3,rfl,hv,hb⟩;have bx4:=bx3.ext hb;have rx4:=rx3.ext hb;have mb4:=mb2.ext hb;have p1:=q1.below hb;have hO:=hb.size;have hP:=mb2.lt;have hd:=ae hg hb;obtain⟨a3,c3,rfl,_⟩:=hv.rd;clear bx3 rx3 mb2 q1 hb hg hw
  by_cases hs:0≤s∧s≤60
  ·have e2:Im s=0:=if_pos hs;rw[e2];have hw:w3.cell? ⟨w.heap.size,1,none⟩=some (.int .i64 s):=by rw[bx4.cell];rfl
   go_wp2_with fail
   refine (Ld s _).mono ?_;rintro r w4 ⟨vb,vq,rfl,hu,u⟩;have a:Below w4.heap.size w4 (w4.alloc (.cells #[.slice none 0 0,.slice none 0 0] 34)):=(Below.refl _ _).alloc (az _) _;have c:=aA.new w4 #[.slice none 0 0,.slice none 0 0] 34;have hN:=u.size;have bx5:=(bx4.ext u).ext a;have rx5:=(rx4.ext u).ext a;have mb5:=(mb4.ext u).ext a;have q1:=(p1.below u).below a;have q3:=(hv.below u).below a;have q4:iE _ _ _ _ _:=⟨hu.b.below a,hu.q.below a⟩;have hl:=ae (ae hd u) a;obtain⟨ab,cb,rfl,_⟩:=q4.b.rd;obtain⟨aq,cq,rfl,_⟩:=q4.q.rd;have hI:=(mb4.ext u).lt;clear bx4 rx4 mb4 p1 hv hu u a hd hw
   go_wp2_with (refine ay rfl _ _ _ rfl w4.heap.size #[.slice ab (qy s).blocks.length cb,.slice aq (qy s).queue.length cq] rfl rfl _ _ c rfl disk_size (kP _ _ _ _ _ _) ?_)
   intro w5 sb5 y;have bx6:=bx5.grown y (fun e=>by have:=aJ e;omega);have rx6:=rx5.grown y (fun e=>by have:=aJ e;omega);have mb6:=mb5.grown y (fun e=>by have:=aJ e;omega);have hq:=hl.grown y hl.size (fun k hk=>by cases hk;omega);have p1:=ak q1 c (by decide) y;have p3:=ak q3 c (by decide) y;have p4:=q4.keep c (by decide) (by decide) y;have hx:w5.cell? ⟨w.heap.size,2,none⟩=some (.int .i64 b):=by rw[bx6.cell];rfl
   clear bx5 rx5 mb5 q1 q3 q4 y c hl
   go_wp2_with fail
   refine (Ld b _).mono ?_;rintro r w6 ⟨vb,vq,rfl,ht,l⟩;have a:Below w6.heap.size w6 (w6.alloc (.cells #[.slice none 0 0,.slice none 0 0] 34)):=(Below.refl _ _).alloc (az _) _;have c:=aA.new w6 #[.slice none 0 0,.slice none 0 0] 34;have hL:=l.size;have hH:=sb5.lt;have hG:=(sb5.ext l).lt;have bx7:=(bx6.ext l).ext a;have rx7:=(rx6.ext l).ext a;have mb7:=(mb6.ext l).ext a;have sb7:=(sb5.ext l).ext a;have q1:=(p1.below l).below a;have q3:=(p3.below l).below a;have q4:iE _ _ _ _ _:=⟨(p4.b.below l).below a,(p4.q.below l).below a⟩;have q6:iE _ _ _ _ _:=⟨ht.b.below a,ht.q.below a⟩;have hj:=ae (ae hq l) a;obtain⟨db,dcb,rfl,_⟩:=q6.b.rd;obtain⟨dq,dcq,rfl,_⟩:=q6.q.rd;clear bx6 rx6 mb6 sb5 p1 p3 p4 ht l a hq hx
   go_wp2_with (refine ay rfl _ _ _ rfl w6.heap.size #[.slice db (qy b).blocks.length dcb,.slice dq (qy b).queue.length dcq] rfl rfl _ _ c rfl disk_size (kP _ _ _ _ _ _) ?_)
   intro w7 db7 o;have bx8:=bx7.grown o (fun e=>by have:=aJ e;omega);have rx8:=rx7.grown o (fun e=>by have:=aJ e;omega);have mb8:=mb7.grown o (fun e=>by have:=aJ e;omega);have sb8:=sb7.grown o (fun e=>by have:=aJ e;omega);have hc:=hj.grown o hj.size (fun k hk=>by cases hk;omega);have p1:=ak q1 c (by decide) o;have p3:=ak q3 c (by decide) o;have p4:=q4.keep c (by decide) (by decide) o;have p6:=q6.keep c (by decide) (by decide) o;have hx:w7.cell? ⟨w.heap.size,2,none⟩=some (.int .i64 b):=by rw[bx8.cell];rfl
   clear bx7 rx7 mb7 sb7 q1 q3 q4 q6 o c hj
   by_cases hk:0≤b∧b≤80
   ·have e3:Oa b=0:=if_pos hk;rw[e3]
    go_wp2_with fail
    refine (Tc b _).mono ?_;rintro r w8 ⟨rfl,d⟩;have e4:UA b=b:=if_neg (by omega);have e5:newE b=0:=if_neg (by omega);rw[e4,e5];have a:Below w8.heap.size w8 (w8.alloc (.cells #[.slice none 0 0,.int .i64 0] 37)):=(Below.refl _ _).alloc (az _) _;have c:=aA.new w8 #[.slice none 0 0,.int .i64 0] 37;have hK:=d.size;have hF:=db7.lt;have hE:=(db7.ext d).lt;have rx9:=(rx8.ext d).ext a;have mb9:=(mb8.ext d).ext a;have sb9:=(sb8.ext d).ext a;have db9:=(db7.ext d).ext a;have q1:=(p1.below d).below a;have q3:=(p3.below d).below a;have q4:iE _ _ _ _ _:=⟨(p4.b.below d).below a,(p4.q.below d).below a⟩;have q6:iE _ _ _ _ _:=⟨(p6.b.below d).below a,(p6.q.below d).below a⟩;have hi:=ae (ae hc d) a;clear bx8 rx8 mb8 sb8 db7 p1 p3 p4 p6 d a hc hx
    go_wp2_with (refine ay rfl _ _ _ rfl w8.heap.size #[.slice none 0 0,.int .i64 b] rfl rfl _ _ c rfl store_size (jm _ _ _ _) ?_)
    intro w9 tb9 n;have rx10:=rx9.grown n (fun e=>by have:=aJ e;omega);have mb10:=mb9.grown n (fun e=>by have:=aJ e;omega);have sb10:=sb9.grown n (fun e=>by have:=aJ e;omega);have db10:=db9.grown n (fun e=>by have:=aJ e;omega);have ha:=hi.grown n hi.size (fun k hk=>by cases hk;omega);have p1:=ak q1 c (by decide) n;have p3:=ak q3 c (by decide) n;have p4:=q4.keep c (by decide) (by decide) n;have p6:=q6.keep c (by decide) (by decide) n;clear rx9 mb9 sb9 db9 q1 q3 q4 q6 n c hi;obtain⟨M,hM⟩:∃M:MH,Hid (M=⟨a1,c1,⟨(zu f).fs,0⟩,a3,c3,Ct s,ab,cb,aq,cq,qy s,db,dcb,dq,dcq,qy b,none,0,[],b,none,0,[],some ⟨w9.heap.size,0,none⟩,1,[newP]⟩):=⟨_,Lib.hid rfl⟩;have t:Below w9.heap.size w9 (w9.alloc (.cells (uM newP) 55)):=(Below.refl _ _).alloc (az _) _;have rx11:=rx10.ext t;have q1:=p1.below t;have q3:=p3.below t;have q4:iE _ _ _ _ _:=⟨p4.b.below t,p4.q.below t⟩;have q6:iE _ _ _ _ _:=⟨p6.b.below t,p6.q.below t⟩;have q7:=Sl w9 w.heap.size ha.size;have z:=ae ha t;have hD:=tb9.lt;have hJ:=rx10.lt;clear p1 p3 p4 p6 t
    go_wp2_with (first | (refine ax _ _ rfl w1.heap.size 0 rfl rfl _ mb10.rd _ underlying28 rfl mem_size ?_) | (refine ax _ _ rfl w4.heap.size 0 rfl rfl _ sb10.rd _ underlying34 rfl disk_size ?_) | (refine ax _ _ rfl w6.heap.size 0 rfl rfl _ db10.rd _ underlying34 rfl disk_size ?_) | (refine ax _ _ rfl w8.heap.size 0 rfl rfl _ tb9.rd _ underlying37 rfl store_size ?_) | (refine ay rfl _ _ _ rfl (w.heap.size+1) #[.slice a1 (zu f).fs.length c1,.int .i64 0,.slice a3 (Ct s).length c3,.slice ab (qy s).blocks.length cb,.slice aq (qy s).queue.length cq,.slice db (qy b).blocks.length dcb,.slice dq (qy b).queue.length dcq,.slice none 0 0,.int .i64 b,.slice none 0 0,.slice (some ⟨w9.heap.size,0,none⟩) 1 1] rfl rfl _ _ rx11 rfl mach_size (by simp[Value.oneCell']) ?_))
    intro we x g;have hz : aA we (w.heap.size+1) (bS M) 41:=by rw[hM.out];exact x
    have m:=z.grown g z.size (fun k hk=>by cases hk;omega);have hA:uz we w.heap.size M:=by
     rw[hM.out];refine⟨(ak q1 rx11 (by decide) g).mono hC,(ak q3 rx11 (by decide) g).mono (by omega),?_,?_,⟨Own.nil _ _ _ _,fun i p hp=>by simp at hp,fun i j p q _ hp=>by simp at hp⟩,Own.nil _ _ _ _,ak q7 rx11 (by decide) g,fun p hp => ?_,hb64⟩
     ·exact (q4.keep rx11 (by decide) (by decide) g).mono (by omega)
     ·exact (q6.keep rx11 (by decide) (by decide) g).mono (by omega)
     rw[bv.1 hp];exact⟨Own.nil _ _ _ _,zN _ _⟩
    clear x rx10 rx11 mb10 sb10 db10 tb9 q1 q3 q4 q6 q7 g ha z;go_wp2;refine bodyPost_ret (v:=.tuple #[.agg (bS M),.int .i64 0]) (fw results59 _ _ (w.heap.size+1) _ _ _ _ rfl rfl hz underlying41 rfl mach_size) rfl ?_;refine⟨M,by rw[show BP f s b=0 from if_pos ⟨hf,hs,hk⟩],hA,?_,m⟩;rw[show qc f s b=_ from if_pos ⟨hf,hs,hk⟩,hM.out];unfold MH.ma;rw[show zu f=⟨List.replicate f.toNat frZ,0⟩ from if_pos hf];rfl
   have e3:Oa b=4:=if_neg hk;rw[e3]
   go_wp2_with (refine ay rfl _ _ _ rfl (w.heap.size+1) (bS noH) rfl rfl _ _ rx8 rfl mach_size (fI noH) ?_)
   intro we x g;have m:=hc.grown g hc.size (fun k hk=>by cases hk;omega);go_wp2;refine bodyPost_ret (v:=.tuple #[.agg (bS noH),.int .i64 4]) (fw results59 _ _ (w.heap.size+1) _ _ _ _ rfl rfl x underlying41 rfl mach_size) rfl ?_;exact⟨noH,by rw[show BP f s b=4 from if_neg (fun h=>hk h.2.2)],JB _ _,by rw[show qc f s b=zMa from if_neg (fun h=>hk h.2.2)];rfl,m⟩
  have e2:Im s=4:=if_neg hs;rw[e2]
  go_wp2_with (refine ay rfl _ _ _ rfl (w.heap.size+1) (bS noH) rfl rfl _ _ rx4 rfl mach_size (fI noH) ?_)
  intro we x g;have m:=hd.grown g hd.size (fun k hk=>by cases hk;omega);go_wp2;refine bodyPost_ret (v:=.tuple #[.agg (bS noH),.int .i64 4]) (fw results59 _ _ (w.heap.size+1) _ _ _ _ rfl rfl x underlying41 rfl mach_size) rfl ?_;exact⟨noH,by rw[show BP f s b=4 from if_neg (fun h=>hs h.2.1)],JB _ _,by rw[show qc f s b=zMa from if_neg (fun h=>hs h.2.1)];rfl,m⟩
 have e1:OD f=4:=if_neg hf;rw[e1]
 go_wp2_with (refine ay rfl _ _ _ rfl (w.heap.size+1) (bS noH) rfl rfl _ _ rx3 rfl mach_size (fI noH) ?_)
 intro we x g;have m:=hg.grown g hg.size (fun k hk=>by cases hk;omega);go_wp2;refine bodyPost_ret (v:=.tuple #[.agg (bS noH),.int .i64 4]) (fw results59 _ _ (w.heap.size+1) _ _ _ _ rfl rfl x underlying41 rfl mach_size) rfl ?_;exact⟨noH,by rw[show BP f s b=4 from if_neg (fun h=>hf h.1)],JB _ _,by rw[show qc f s b=zMa from if_neg (fun h=>hf h.1)];rfl,m⟩
theorem srt_len:∀ {l:List Nat} {a n:Nat},l.Pairwise (· < ·)→(∀x∈l,a≤x∧x<n)→l.length≤n-a
 | [],_,_,_,_=>by simp
 | x::l,a,n,hs,h=>by obtain⟨h1,h2⟩:=tF.1 hs;have hx:=h x ik;have:=srt_len (a:=x+1) (n:=n) h2 fun y hy=>⟨h1 y hy,(h y (jv _ hy)).2⟩;rw[pG];omega
theorem SI (h:vB m) (hs:aP m.st=0):m.ca.length≤60:=by
 have hl:∀c∈m.ca,0≤c.f∧c.f<5∧0≤c.i∧c.i<12:=fun c hc=>by have h1:=h.file c hc;have h2:=JG hs h1;have h3:=h1.1;have h4:=h1.2;omega
 have key:=srt_len (l:=m.ca.map fun c=>(12*c.f+c.i).toNat) (a:=0) (n:=60) ?_ fun x hx => ?_
 ·simpa using key
 ·rw[List.pairwise_map];refine List.Pairwise.imp_of_mem ?_ h.srt;intro a b ha hb d;have h1:=hl a ha;have h2:=hl b hb;unfold CB at d;show (12*a.f+a.i).toNat<(12*b.f+b.i).toNat;omega
 obtain⟨c,hc,rfl⟩:=fP.1 hx;have h1:=hl c hc;show 0≤(12*c.f+c.i).toNat∧(12*c.f+c.i).toNat<60;omega
theorem yo {s:St} (hs:aP s=0):∀f∈s.fs,f.b.length≤12:=fun f hf=>by
 obtain⟨k,hk,rfl⟩:=jK.1 hf;have h1:=Ae hs (f:=(k:Int)) ⟨by omega,by omega⟩;have hfa:aM s (k:Int)=s.fs[k]:=mW (aI hk);rw[hfa] at h1;obtain⟨a1,a2,a3,_⟩:=h1;have e:(s.fs[k].b.length:Int)≤12:=by rw[a3];unfold dW;split<;>omega
 omega
structure Fb (ct:Nat) (bl:List Page) (q:List (Int × Page)) (fs:List Fi) (x:List Int):Prop where
 cl:bl.length=ct∧ct≤80
 ok:∀f∈fs,Ew ct f
 nd:(kE (fs.flatMap Fi.b++x)).Nodup
 xb:∀b∈x,-1≤b∧b<ct
 tr:∀b:Int,0≤b→b<ct→b∈fs.flatMap Fi.b++x∨bl.getD b.toNat zPg=zPg
 qb:∀p∈q,p.1∈fs.flatMap Fi.b++x∧0≤p.1∧p.1<ct
 ql:q.length≤12*fs.length+x.length
theorem Fb.start (h:ct≤80):Fb ct (List.replicate ct zPg) [] [] [] where
 cl:=⟨by simp,h⟩
 ok:=fun f hf=>by cases hf
 nd:=by simp[kE]
 xb:=fun b hb=>by cases hb
 tr:=fun b h0 h1 => .inr (by rw[aV,oK,if_pos (by omega)];rfl)
 qb:=fun p hp=>by cases hp
 ql:=by simp
theorem Fb.none {q:List (Int × Page)} {x:List Int} (h:Fb ct bl q fs x):Fb ct bl q fs (x++[-1]) where
 cl:=h.cl
 ok:=h.ok
 nd:=by
  have e:kE (fs.flatMap Fi.b++(x++[-1]))=kE (fs.flatMap Fi.b++x):=by rw[←iw,uK];simp[kE]
  rw[e];exact h.nd
 xb:=fun b hb=>by
  rcases fV.1 hb with hb|hb
  ·exact h.xb b hb
  ·rw[bv.1 hb];omega
 tr:=fun b h0 h1=>(h.tr b h0 h1).imp (fun hb=>by rw[←iw];exact oV _ hb) id
 qb:=fun p hp=>⟨by rw[←iw];exact oV _ (h.qb p hp).1,(h.qb p hp).2⟩
 ql:=by have:=h.ql;simp;omega
theorem Fb.some {q:List (Int × Page)} {x:List Int} (h:Fb ct bl q fs x) (hn:n<ct) (hu:¬(n:Int)∈fs.flatMap Fi.b++x) (P:Page):Fb ct (bl.set n P) q fs (x++[(n:Int)]) where
 cl:=⟨by rw[bP];exact h.cl.1,h.cl.2⟩
 ok:=h.ok
 nd:=by
  have e:kE (fs.flatMap Fi.b++(x++[(n:Int)]))=kE (fs.flatMap Fi.b++x)++[(n:Int)]:=by rw[←iw,uK];simp[kE]
  rw[e];refine xU.2 ⟨h.nd,by simp,fun a ha b hb e => ?_⟩;rw[bv.1 hb] at e;subst e;exact hu (jd.1 ha).1
 xb:=fun b hb=>by
  rcases fV.1 hb with hb|hb
  ·exact h.xb b hb
  ·rw[bv.1 hb];omega
 tr:=fun b h0 h1=>by
  by_cases e:b=(n:Int)
  ·subst e;exact .inl (by simp)
  rcases h.tr b h0 h1 with hb|hb
  ·exact .inl (by rw[←iw];exact oV _ hb)
  refine .inr ?_;rw[aV,tY (by omega),←aV];exact hb
 qb:=fun p hp=>⟨by rw[←iw];exact oV _ (h.qb p hp).1,(h.qb p hp).2⟩
 ql:=by have:=h.ql;simp;omega
theorem Fb.wait {q:List (Int × Page)} {x:List Int} (h:Fb ct bl q fs x) (hn:n<ct) (hu:¬(n:Int)∈fs.flatMap Fi.b++x) (P:Page):Fb ct (bl.set n P) (q++[((n:Int),P)]) fs (x++[(n:Int)]):=
 have k:=h.some hn hu P
 { k with
  qb:=fun p hp=>by
   rcases fV.1 hp with hp|hp
   ·exact k.qb p hp
   rw[bv.1 hp];exact⟨by simp,by show (0:Int)≤n;omega,by show (n:Int)<ct;omega⟩
  ql:=by have:=h.ql;simp;omega }
theorem Fb.file {q:List (Int × Page)} {x:List Int} (h:Fb ct bl q fs x) {s:Int} (h0:0≤s) (h1:s≤96) (hl:(x.length:Int)=dW s):Fb ct bl q (fs++[⟨s,x⟩]) []:=by
 have e:(fs++[(⟨s,x⟩:Fi)]).flatMap Fi.b++[]=fs.flatMap Fi.b++x:=by simp
 refine⟨h.cl,fun f hf => ?_,by rw[e];exact h.nd,fun b hb=>(by cases hb),by rw[e];exact h.tr,by rw[e];exact h.qb,?_⟩
 ·rcases fV.1 hf with hf|hf
  ·exact h.ok f hf
  ·rw[bv.1 hf];exact⟨h0,h1,hl,h.xb⟩
 have:=h.ql;have e2:dW s≤12:=by unfold dW;split<;>omega
 have e3:(fs++[(⟨s,x⟩:Fi)]).length=fs.length+1:=by simp
 rw[e3];simp only[zK];omega
def BQ (f s ct:Nat) (bl:List Page) (q:List (Int × Page)) (fs:List Fi):Ma:=⟨⟨List.replicate f frZ,0⟩,List.replicate s 0,⟨List.replicate s zPg,[]⟩,⟨bl,q⟩,⟨fs,ct⟩,[],[]⟩
theorem Fb.bd {q:List (Int × Page)} (h:Fb ct bl q fs []) (hl:fs.length≤5) (hf:f≤40) (hs:s≤60):Bd (BQ f s ct bl q fs) []:=by
 have a:∀i,i<f→aR (BQ f s ct bl q fs) i=frZ:=fun i hi=>by unfold aR BQ;rw[aV,oK,if_pos hi];rfl
 have g:∀p n,(ent (BQ f s ct bl q fs) p n).k=0:=fun p n=>by unfold ent;rw[qW (by simp[BQ])];show (dK zTb n).k=0;rw[xC];rfl
 have hw:aP ⟨fs,(ct:Int)⟩=0:=kZ.2 ⟨⟨hl,by show (0:Int)≤ct;omega,by show (ct:Int)≤80;have:=h.cl.2;omega⟩,h.ok,by have:=h.nd;rw[kQ] at this;exact this⟩;have o:bi ⟨bl,q⟩=0:=(gD _).2 ⟨by show bl.length≤80;have:=h.cl;omega,by show q.length≤400;have:=h.ql;simp only[zK] at this;omega,fun x hx=>by have:=(h.qb x hx).2;have e:bl.length=ct:=h.cl.1;show 0≤x.1∧x.1<(bl.length:Int);omega⟩;have j:bi ⟨List.replicate s zPg,[]⟩=0:=(gD _).2 ⟨by simp;omega,by simp,fun x hx=>(by cases hx)⟩;have l:dx (List.replicate s (0:Int))=0:=Gh (by simp;exact hs) fun x hx=>by rw[(Dp.1 hx).2];decide
 have hm:bR ⟨List.replicate f frZ,0⟩=0:=(eQ _).2 ⟨by simp;exact hf,fun x hx=>by rw[(Dp.1 hx).2];decide,tQ _,.inl rfl⟩;have d:dV (BQ f s ct bl q fs) []=BQ f s ct bl q fs:=rfl;have hh:∀kd i,dD (BQ f s ct bl q fs) kd i=0:=fun _ _=>rfl;have hc:∀i,xw (BQ f s ct bl q fs) i=0:=fun _=>rfl;refine⟨⟨rfl,fun t ht=>(by cases ht),fun t ht=>(by cases ht)⟩,?_,?_⟩
 ·rw[d];refine⟨⟨hm,l,j,o,hw,by simp[BQ],by have:=h.cl.1;show (bl.length:Int)=ct;omega,by simp[BQ],fun s hs=>(by cases hs),fun s hs=>(by cases hs)⟩,⟨fun b h0 h1 => ?_,fun p hp => ?_⟩,fun p _=>⟨by rw[qW (by simp[BQ])];rfl,fun n=>g p n⟩,⟨fun c hc=>(by cases hc),fun c hc=>(by cases hc),fun c hc=>(by cases hc),List.Pairwise.nil⟩,fun p n hk=>absurd (g p n) hk,fun i hi => ?_,fun i hi h0 => ?_,fun i hi => ?_⟩
  ·have e:(BQ f s ct bl q fs).dk.blocks.length=ct:=h.cl.1;have:=h.tr b h0 (by omega);rw[kQ] at this;exact this
  ·have:=(h.qb p hp).1;rw[kQ] at this;exact this
  ·rw[a i (by have e:(BQ f s ct bl q fs).m.fs.length=f:=jN;omega),hh,hc];rfl
  ·rw[a i (by have e:(BQ f s ct bl q fs).m.fs.length=f:=jN;omega)] at h0;exact absurd h0 (by decide)
  rw[hh];have e:(BQ f s ct bl q fs).sl.length=s:=jN;unfold pu;show (List.replicate s (0:Int)).getD i 0=_;rw[aV,oK,if_pos (by omega)];rfl
 rw[d];refine⟨fun c hc=>(by cases hc),fun c hc=>(by cases hc),fun i hi hd => ?_⟩;rw[a i (by have e:(BQ f s ct bl q fs).m.fs.length=f:=jN;omega)] at hd;exact absurd hd (by decide)
def tabs (m:Ma) (T:List (List En)):Nat→Ma
 | 0=>m
 | q+1=>setTb (tabs m T q) q (gG (eY T q))
theorem take_set {α:Type} {F O:List α} (hl:F.length=O.length) (hq:q<O.length):(F.take q++O.drop q).set q (F[q]'(by omega))=F.take (q+1)++O.drop (q+1):=by
 have e1:(F.take q).length=q:=by rw[kK];omega
 rw[List.set_append,if_neg (by omega),e1,uh,vG hq,qO,List.take_succ_eq_append_getElem (by omega),iw];rfl
theorem NR {m:Ma} {T:List (List En)}:∀q,q≤m.sp.length→tabs m T q = { m with sp:=(dV m T).sp.take q++m.sp.drop q }
 | 0,_=>by simp[tabs]
 | q+1,h=>by
  have ih:=NR (m:=m) (T:=T) q (by omega);have hF:(dV m T).sp.length=m.sp.length:=kJ;have e1:((dV m T).sp.take q).length=q:=by rw[kK];omega
  have hsp:fH (tabs m T q) q=m.sp[q]'(by omega):=by rw[ih];unfold fH;show ((dV m T).sp.take q++m.sp.drop q).getD q zSp=_;rw[aV,kT (by omega),e1,uh,rX,iH,aI (by omega)];rfl
  have hFq:(dV m T).sp[q]'(by omega) = { m.sp[q]'(by omega) with tb:=gG (eY T q) }:=by
   have h1:=Az (m:=m) (T:=T) (p:=q) (by omega);have h2:fH m q=m.sp[q]'(by omega):=by unfold fH;rw[aV,aI (by omega)];rfl
   have h3:fH (dV m T) q=(dV m T).sp[q]'(by omega):=by unfold fH;rw[aV,aI (by omega)];rfl
   rw[h2,h3] at h1;exact h1
  show setTb (tabs m T q) q (gG (eY T q))=_;unfold setTb;rw[hsp,ih,←hFq];show ({ m with sp:=((dV m T).sp.take q++m.sp.drop q).set q _ }:Ma)=_;rw[take_set hF (by omega)]
theorem TJ {T:List (List En)}:tabs m T m.sp.length=dV m T:=by
 rw[NR _ (az _),List.drop_length,kQ,iJ (by rw[kJ];exact az _)];rfl
theorem Rx (hf:f≤40) (hs:s≤60) (hc:ct≤80):dV { BQ f s ct (List.replicate ct zPg) [] [] with sp:=[⟨true,[],zTb⟩] } [List.replicate 64 zEn]=qc f s ct:=by
 have e1:qc f s ct=⟨zu f,Ct s,qy s,qy ct,⟨[],ct⟩,[],[⟨true,[],zTb⟩]⟩:=if_pos ⟨⟨by omega,by omega⟩,⟨by omega,by omega⟩,by omega,by omega⟩;have hz:gG (List.replicate 64 zEn)=zTb:=by decide +kernel
 rw[e1];unfold zu Ct qy dV BQ;rw[if_pos (by omega),if_pos (by omega),if_pos (by omega),if_pos (by omega)];simp only[bX,pG,zK];have e2:gG (eY [List.replicate 64 zEn] 0)=zTb:=hz;show (⟨⟨List.replicate f frZ,0⟩,List.replicate s 0,⟨List.replicate s zPg,[]⟩,⟨List.replicate ct zPg,[]⟩,⟨[],ct⟩,[],[⟨true,[],gG (eY [List.replicate 64 zEn] 0)⟩]⟩:Ma)=_;rw[e2]
theorem GX (h:Below B w0 w1) (h' : Below B' w1 w2) (hB:B≤B') (hw:B≤w0.heap.size):Below B w0 w2:=
 ⟨h'.os.trans h.os,h'.tape.trans h.tape,h'.output.trans h.output,aY h.size h'.size,fun x hx=>(h'.block x (qi hx hB)).trans (h.block x hx)⟩
theorem kU (h:Rt m):Ra m:=by
 have h1:=h.pt;have hw:=(gD _).1 h1.sw;have hd:=(gD _).1 h1.dk;have a:=(jC h1.st).1;refine⟨by have:=((eQ _).1 h1.fr).1;omega,by have:=jf h1.sl;omega,by omega,by omega,by omega,by omega,⟨by omega,fun f hf=>by have:=yo h1.st f hf;omega⟩,by have:=SI h.ca h1.st;omega,by have:=h1.spl;omega,fun s hs=>⟨?_,fun k hk => ?_⟩⟩
 ·have:=(iL.1 (h1.ar s hs)).1;omega
 ·have:=oZ (lw (h1.tb s hs) k hk);omega
theorem uQ (h:Below B w w1) (k:Below B w1 w2):Below B w w2:=
 ⟨k.os.trans h.os,k.tape.trans h.tape,k.output.trans h.output,aY h.size k.size,fun i hi=>(k.block i hi).trans (h.block i hi)⟩
theorem machT:41≠96∧41≠81∧41≠106∧41≠55:=by decide
def XL (H:MH) (w:World) (r:Ending) (w' : World):Prop:=Below w.heap.size w w'∧∃H' : MH,r = .returned (.tuple #[.agg (bS H'),.bool (eF ⟨H.ma,0⟩).2,.int .i64 0])∧uz w' w.heap.size H'∧H'.ma=(eF ⟨H.ma,0⟩).1.m
theorem EP (H:MH) (w:World) (h:BH w H) (hR:Rt H.ma) (hC:Co H.ma) :
  Calls Tryz.prog 20 #[.agg (bS H)] w (XL H w):=by
 have hT:=Lib.hid (BU hR hC);have hf:=Lib.hid hR;have hg:=Lib.hid hC;have p:=Lib.hid (kU hR);clear hR hC;go_enter func20,ntmps20;go_upto_region 1 with (fail);refine qQ (fun W=>Code.wp _ _ _ _ W) fun w1 o bx1 rx1 y => ?_;have bx1:aA w1 w.heap.size (bS H) 41:=bx1;have rx1:aA w1 (w.heap.size+1) (bS noH) 41:=rx1;have h1:=h.below o;clear h
 go_wp2_with (refine ax _ _ rfl w.heap.size 0 rfl rfl _ bx1.rd _ underlying41 rfl machine_size ?_)
 refine (mI H _ h1).mono ?_;rintro r w2 ⟨rfl,f⟩;rw[Ef.2 hf.out];have h2:=h1.below f;have bx2:=bx1.ext f;have rx2:=rx1.ext f;have d:=ae o f;clear h1 bx1 rx1 o f y
 go_wp2_with (refine ax _ _ rfl w.heap.size 0 rfl rfl _ bx2.rd _ underlying41 rfl machine_size ?_)
 refine (vU H _ h2 p.out).mono ?_;rintro r w3 ⟨H3,rfl,s,a,_,n⟩;have ha:=Lib.hid a;have g:Hid (Ra H3.ma):=Lib.hid (by rw[a];exact p.out);have rx3:=rx2.ext n;have c:=ae d n;clear bx2 rx2 h2 a;unfold bS;go_upto_region 5 with (fail);refine gF (fun W=>Code.wp _ _ _ _ W) fun w4 i kx4 x => ?_;have k4:kY w4 w.heap.size w3.heap.size H3 0:=⟨kx4,c.size,(s.mono d.size).below i,fun q hq=>(Ra.spz (H:=H3) g.out hq).2⟩;have rx4:=rx3.ext i;have l:=ae c i;clear n i s d kx4 x rx3 c;generalize w3.heap.size=b at k4
 go_wp2_with fail
 refine (Je H3 0 w.heap.size b _ k4 (by have:=g.out.sp.1;rwa [Dq] at this) g.out.ca g.out.fs).mono ?_;rintro r w5 ⟨rfl,H5,e5,k5,s5,q5⟩;rw[ha.out] at q5 ⊢;have hc:e5=0:=by have:=congrArg Kp.e q5;exact this.trans hT.out.1
 subst hc;have hb:Hid (H5.ma=(eF ⟨H.ma,0⟩).1.m):=Lib.hid (congrArg Kp.m q5);have rx5:=s5.blk k4 rx4 machT;have j:=uQ l (s5.to k4 (az _));clear q5 s5 k4 rx4 l;generalize hok:(eF ⟨H.ma,0⟩).2=ok;have hok:=Lib.hid hok;have hd:=k5.blk.cell;unfold uD at hd
 go_wp2_with (first | (refine ax _ _ rfl b 0 rfl rfl (bS H5).toList (bL k5.blk 0 11) _ underlying41 rfl machine_size ?_) | (refine ay rfl _ _ _ rfl (w.heap.size+1) (bS H5) rfl rfl _ _ rx5 rfl mach_size (fI _) ?_))
 intro w7 rx7 t;have u:=j.grown t j.size (fun k hk=>by cases hk;omega);have z:=k5.ma.keep rx5 (by decide) t;go_wp2;refine bodyPost_ret (v:=.tuple #[.agg (bS H5),.bool ok,.int .i64 0]) (dL results20 _ _ (w.heap.size+1) _ _ _ _ _ rfl rfl rfl rx7 underlying41 rfl mach_size) rfl ?_;exact⟨u,H5,by rw[hok.out],z,hb.out⟩
theorem Qy (hf:f<m.m.fs.length) (hc:Cw m f=true) (h:∀j,j<f→Cw m j=false):oU m=some f:=by
 unfold oU;rw[IE];exact⟨hc,dG.2 hf,fun j hj=>by rw[h j hj];rfl⟩
theorem Hq (h:∀j,j<m.m.fs.length→Cw m j=false):oU m=none:=by
 unfold oU;rw[pK];intro j hj;rw[h j (dG.1 hj)];decide
def FT (w:World) (B b rx:Nat) (S:MH):(Nat→Bool)→(Nat→Value)→World→Prop:=fun L y W=>
 (Below B w W∧B≤W.heap.size)∧aA W b (uD S 0) 96∧uz W B S∧(L 8=false→aA W rx (bS noH) 41)∧(L 8=true→aA W rx (bS S) 41)
theorem dQ {S:MH}:∀L y W W',Below W.heap.size W W'→FT w B b rx S L y W→FT w B b rx S L y W':=
 fun _ _ _ _ hb ⟨h1,h2,h3,h4,h5⟩=>⟨⟨h1.1.trans (hb.mono h1.2),aY h1.2 hb.size⟩,h2.ext hb,h3.below hb,fun e=>(h4 e).ext hb,fun e=>(h5 e).ext hb⟩
theorem eU {S:MH} (hi:i≠8) (h:FT w B b rx S L y W):FT w B b rx S (bY L i) (dB y i v) W:=by
 unfold FT at h ⊢;have e:bY L i 8=L 8:=by unfold bY;rw[if_neg (fun e=>hi e.symm)]
 rw[e];exact h
theorem NH {S:MH} (hB:B≤rx) (hL:L 8=false) (h:FT w B b rx S L y W) (hk:aA W' rx (bD (bS noH) 0 (bS S).toList) 41) (hg:W.grownBy W' (some rx)):FT w B b rx S (bY L 8) (dB y 8 undef) W':=by
 obtain⟨h1,h2,h3,h4,h5⟩:=h;have r1:=h4 hL;rw[iF (bS noH) (bS S) rfl] at hk;exact⟨⟨h1.1.grown hg h1.2 (fun k hk=>by cases hk;exact hB),aY h1.2 hg.size⟩,bu h2 r1 (by decide) hg,h3.keep r1 (by decide) hg,fun e=>(by cases e),fun _=>hk⟩
def si (m:Ma):Ma:=match oU m with
 | none=>m
 | some f=>(gU ⟨m,0⟩ f).m
def XI (H:MH) (w:World) (r:Ending) (w' : World):Prop:=Below w.heap.size w w'∧∃H' : MH,r = .returned (.tuple #[.agg (bS H'),.bool (oU H.ma).isSome,.int .i64 0])∧uz w' w.heap.size H'∧H'.ma=si H.ma
theorem Em (H:MH) (w:World) (h:BH w H) (hR:Rt H.ma) (hC:Co H.ma) :
  Calls Tryz.prog 22 #[.agg (bS H)] w (XI H w):=by
 have hA:=Lib.hid hR;have hT:=Lib.hid hC;have hF:=Lib.hid (kU hR);clear hR hC;go_enter func22,ntmps22;go_upto_region 1 with (fail);refine qQ (fun W=>Code.wp _ _ _ _ W) fun w1 hz bx1 rx1 hP => ?_;have bx1:aA w1 w.heap.size (bS H) 41:=bx1;have rx1:aA w1 (w.heap.size+1) (bS noH) 41:=rx1;have h1:=h.below hz;clear h
 go_wp2_with (refine ax _ _ rfl w.heap.size 0 rfl rfl _ bx1.rd _ underlying41 rfl machine_size ?_)
 refine (mI H _ h1).mono ?_;rintro r w2 ⟨rfl,hm⟩;rw[Ef.2 hA.out];have h2:=h1.below hm;have bx2:=bx1.ext hm;have rx2:=rx1.ext hm;have hk:=ae hz hm;clear h1 bx1 rx1 hz hm hP
 go_wp2_with (refine ax _ _ rfl w.heap.size 0 rfl rfl _ bx2.rd _ underlying41 rfl machine_size ?_)
 refine (vU H _ h2 hF.out).mono ?_;rintro r w3 ⟨H3,rfl,hH,t,_,hy⟩;have hI:=Lib.hid t;have hE:Hid (Ra H3.ma):=Lib.hid (by rw[t];exact hF.out);have rx3:=rx2.ext hy;have hi:=ae hk hy;clear bx2 rx2 h2 t;unfold bS;go_upto_region 5 with (fail);refine gF (fun W=>Code.wp _ _ _ _ W) fun w4 hs kx4 hO => ?_;have k4:kY w4 w.heap.size w3.heap.size H3 0:=⟨kx4,hi.size,(hH.mono hk.size).below hs,fun q hq=>(Ra.spz (H:=H3) hE.out hq).2⟩;have rx4:=rx3.ext hs;have c:=ae hi hs;clear hy hs hH hk kx4 hO rx3 hi;generalize w3.heap.size=b at k4;have hc:=k4.blk.cell;unfold uD at hc;go_upto_region 6 with (fail);clear hc;obtain⟨N,hN⟩:∃N,Hid (N=H3.m.fs.length):=⟨_,Lib.hid rfl⟩;have h5:N≤1000:=by rw[hN.out];exact hE.out.fs
 rw[←hN.out];have hB:Hid (N=H.ma.m.fs.length):=Lib.hid (by rw[hN.out,←hI.out];rfl)
 go_loopw [26] (fun i wr => ∃(f:Nat) (H' : MH),f≤N∧i = .int .i64 f∧kY wr w.heap.size b H' 0∧Below w.heap.size w wr∧aA wr (w.heap.size+1) (bS noH) 41∧Hid (H'.ma=H.ma)∧Hid (∀j,j<f→Cw H.ma j=false)) (fun i _=>N-(intOf i).toNat)
 case atStart=>exact⟨0,H3,by omega,rfl,k4,c,rx4,hI,Lib.hid (fun j hj=>by omega)⟩
 case round=>
  clear k4 c rx4;obtain⟨f,H4,hf,rfl,k4,c,rx4,x,o⟩:=hrel;have hc:=k4.blk.cell;unfold uD at hc
  by_cases hfN:f<N
  ·have hQ:(f:Int)<(N:Int):=by omega
   have hx:f<H4.m.fs.length:=by have e:H4.m.fs.length=H.ma.m.fs.length:=congrArg (fun m:Ma=>m.m.fs.length) x.out;rw[e,←hB.out];exact hfN
   obtain⟨g,off,hL,ht⟩:=jH eZ (by decide) k4.ma.rd.fr.rd f hx;obtain⟨X,hX⟩:∃X,H4.m.fs[f]=X:=⟨_,rfl⟩;rw[hX] at ht;rw[hL] at hc;clear hL;have hM:Hid (aR H.ma f=X):=Lib.hid (by rw[←x.out];have:=vC (m:=H4.ma) (i:=f) hx;exact this.trans hX);clear hX
   go_wp2_with (first | (refine ax _ _ rfl g (off+f*13) rfl rfl _ ht _ underlying81 rfl frame_size ?_) | (refine aF rfl _ _ _ rfl (vv X) rfl rfl rfl frame_size (nY X) ?_))
   intro w5 hr xx5;have k5:=k4.below hr;have rx5:=rx4.ext hr;have hh:=ae c hr;have h4:Hid (w.heap.size+1<w5.heap.size):=Lib.hid rx5.lt;clear k4 rx4 c hr hc ht;generalize wr.heap.size=gx at xx5;have hG:=xx5.cell;unfold vv at hG;cases hd:X.d with
   | false=>
    have z:Hid (Cw H.ma f=false):=Lib.hid (by unfold Cw;rw[hM.out,hd];rfl);go_wp2;go_roundw
    case rel=>exact⟨f+1,H4,by omega,by go_num,k5,hh,rx5,x,Lib.hid (fun j hj=>by
     rcases Nat.lt_succ_iff_lt_or_eq.1 hj with h|rfl
     ·exact o.out j h
     ·exact z.out)⟩
    case measure=>simp[intOf];omega
   | true=>
    have hS:Hid ((aR H.ma f).d=true):=Lib.hid (by rw[hM.out,hd])
    go_wp2_with fail
    refine (zi H4 0 f _ b _ k5 hx).mono ?_;rintro r w6 ⟨rfl,H6,e6,k6,s6,q6⟩;rw[x.out] at q6 ⊢;have rx6:=s6.blk k5 rx5 machT;have hg:=uQ hh (s6.to k5 (az _));clear s6 k5 rx5 hh xx5 hG hd;have hK:f<H.ma.m.fs.length:=by rw[←hB.out];exact hfN
    cases hcb:iI H.ma f with
    | false=>
     have z:Hid (Cw H.ma f=false):=Lib.hid (by unfold Cw;rw[hcb,lV]);rw[TQ (k:=⟨H.ma,0⟩) hA.out hK hcb] at q6;obtain⟨n,rfl⟩:=Kp.mk.inj q6;have n:=Lib.hid n;clear q6 hcb;go_wp2;go_roundw
     case rel=>exact⟨f+1,H6,by omega,by go_num,k6,hg,rx6,n,Lib.hid (fun j hj=>by
      rcases Nat.lt_succ_iff_lt_or_eq.1 hj with h|rfl
      ·exact o.out j h
      ·exact z.out)⟩
     case measure=>simp[intOf];omega
    | true=>
     have p:Hid (oU H.ma=some f):=Lib.hid (Qy hK (by unfold Cw;rw[hS.out,hcb];rfl) o.out);obtain⟨m1,hJ,_,_⟩:=ET hA.out hT.out p.out;have n:Hid (H6.ma=si H.ma):=Lib.hid (by unfold si;rw[p.out];exact congrArg Kp.m q6);rw[hJ] at q6;obtain⟨_,rfl⟩:=Kp.mk.inj q6;clear q6 hJ hcb;skip;go_upto_region 10 with (fail);have hD:Hid (w.heap.size≤w.heap.size+1):=Lib.hid (yc _);refine nD 11 [_,_,_,.v (.agg #[.slice H6.af H6.m.fs.length H6.cf,.int .i64 H6.m.hand,.slice H6.asl H6.sl.length H6.csl,.slice H6.wb H6.sw.blocks.length H6.cwb,.slice H6.wq H6.sw.queue.length H6.cwq,.slice H6.db H6.dk.blocks.length H6.cdb,.slice H6.dq H6.dk.queue.length H6.cdq,.slice H6.ai H6.fi.length H6.ci,.int .i64 H6.ct,.slice H6.ac H6.ca.length H6.cc,.slice H6.ap H6.sp.length H6.cp]),_,_,_,.v (.int .i64 0),.r 8 ((cB fun _=>True)),.v (.bool true),.v (.int .i64 0)] (FT w w.heap.size b (w.heap.size+1) H6) dQ (fun y=>⟨⟨hg,hg.size⟩,k6.blk,k6.ma,fun _=>rx6,fun e=>(by cases e)⟩) (Qk dQ rfl (Qk dQ rfl (Qf dQ b 0 rfl rfl (ag ?_ (Qk dQ rfl (Qk dQ rfl (Qf dQ b 11 rfl rfl (ag ?_ (ag ?_ (Qk dQ rfl (Qk dQ rfl (aB) (fun _ _ _ _ a h=>eU (by decide) h)) (fun _ _ _ _ a h=>eU (by decide) h)))) (fun _ _ _ _ a h=>eU (by decide) h)) (fun _ _ _ _ a h=>eU (by decide) h)) (fun _ _ _ _ a h=>eU (by decide) h))) (fun _ _ _ _ a h=>eU (by decide) h)) (fun _ _ _ _ a h=>eU (by decide) h)) (fun _ _ _ _ a h=>eU (by decide) h)) (fun _=>rfl) rfl ?_
     ·intro ρ y W L hw hn l a hb hd;refine ed dQ (fun _ _ h=>eU (by decide) h) hb ?_;have h0:=hw 47 2 rfl;have h2:y 2=_:=hd 2 rfl;refine aj (.agg #[.slice H6.af H6.m.fs.length H6.cf,.int .i64 H6.m.hand,.slice H6.asl H6.sl.length H6.csl,.slice H6.wb H6.sw.blocks.length H6.cwb,.slice H6.wq H6.sw.queue.length H6.cwq,.slice H6.db H6.dk.blocks.length H6.cdb,.slice H6.dq H6.dk.queue.length H6.cdq,.slice H6.ai H6.fi.length H6.ci,.int .i64 H6.ct,.slice H6.ac H6.ca.length H6.cc,.slice H6.ap H6.sp.length H6.cp]) (ah rfl) (bF rfl (h0.trans h2) (bL hb.2.1 0 11) underlying41 rfl (by kernel_rfl)) rfl
     ·intro ρ y W L hw hn l a hb hd;refine ed dQ (fun _ _ h=>eU (by decide) h) hb ?_;have hY:=hw 51 6 rfl;have h6:y 6=_:=hd 6 rfl;refine aj (.int .i64 0) (ah rfl) (by simp[execOp,go_sem,dm,hY,h6,hb.2.1.cell,uD]) rfl
     ·intro ρ y W L hw hn l a hb hd;have E2:ρ (.tmp 2) = .pointer (some ⟨w.heap.size+1,0,none⟩):=(hn (.tmp 2) rfl).trans rfl;have hZ:=hw 48 3 rfl;have h3:y 3=_:=hd 3 rfl;have rxW:=hb.2.2.2.1 l;exact nz (ah rfl) (sU _ _ _ rfl (w.heap.size+1) 0 _ (bS H6).toList E2 (hZ.trans h3) rfl _ _ rxW (az _) mach_size (fun u hu=>by have:=fI H6;rw[←jr,dF] at this;exact this u hu)) (NH hD.out l hb (rxW.setCells _ _) (aH _ _ _ _)) trivial
     intro y W7 hl hp;clear hp;simp only[cz,dm,bA,bB];obtain⟨⟨ha,_⟩,_,hv,_,s⟩:=hl;have rx8:=s rfl;go_wp2;refine bodyPost_ret (v:=.tuple #[.agg (bS H6),.bool true,.int .i64 0]) (dL results22 _ _ (w.heap.size+1) _ _ _ _ _ rfl rfl rfl rx8 underlying41 rfl mach_size) rfl ?_;exact⟨ha,H6,by rw[p.out];rfl,hv,n.out⟩
  have hQ:¬(f:Int)<(N:Int):=by omega
  have p:Hid (oU H.ma=none):=Lib.hid (Hq (fun j hj=>o.out j (by have:=hB.out;omega)));have n:Hid (H4.ma=si H.ma):=Lib.hid (by unfold si;rw[p.out];exact x.out);clear hc;skip;go_upto_region 12 with (fail);have hD:Hid (w.heap.size≤w.heap.size+1):=Lib.hid (yc _);refine nD 11 [_,_,_,.v (.agg #[.slice H4.af H4.m.fs.length H4.cf,.int .i64 H4.m.hand,.slice H4.asl H4.sl.length H4.csl,.slice H4.wb H4.sw.blocks.length H4.cwb,.slice H4.wq H4.sw.queue.length H4.cwq,.slice H4.db H4.dk.blocks.length H4.cdb,.slice H4.dq H4.dk.queue.length H4.cdq,.slice H4.ai H4.fi.length H4.ci,.int .i64 H4.ct,.slice H4.ac H4.ca.length H4.cc,.slice H4.ap H4.sp.length H4.cp]),_,_,_,.v (.int .i64 0),.r 8 ((cB fun _=>True)),.v (.bool false),.v (.int .i64 0)] (FT w w.heap.size b (w.heap.size+1) H4) dQ (fun y=>⟨⟨c,c.size⟩,k4.blk,k4.ma,fun _=>rx4,fun e=>(by cases e)⟩) (Qk dQ rfl (Qk dQ rfl (Qf dQ b 0 rfl rfl (ag ?_ (Qk dQ rfl (Qk dQ rfl (Qf dQ b 11 rfl rfl (ag ?_ (ag ?_ (Qk dQ rfl (Qk dQ rfl (aB) (fun _ _ _ _ a h=>eU (by decide) h)) (fun _ _ _ _ a h=>eU (by decide) h)))) (fun _ _ _ _ a h=>eU (by decide) h)) (fun _ _ _ _ a h=>eU (by decide) h)) (fun _ _ _ _ a h=>eU (by decide) h))) (fun _ _ _ _ a h=>eU (by decide) h)) (fun _ _ _ _ a h=>eU (by decide) h)) (fun _ _ _ _ a h=>eU (by decide) h)) (fun _=>rfl) rfl ?_
  ·intro ρ y W L hw hn l a hb hd;refine ed dQ (fun _ _ h=>eU (by decide) h) hb ?_;have hW:=hw 56 2 rfl;have h2:y 2=_:=hd 2 rfl;refine aj (.agg #[.slice H4.af H4.m.fs.length H4.cf,.int .i64 H4.m.hand,.slice H4.asl H4.sl.length H4.csl,.slice H4.wb H4.sw.blocks.length H4.cwb,.slice H4.wq H4.sw.queue.length H4.cwq,.slice H4.db H4.dk.blocks.length H4.cdb,.slice H4.dq H4.dk.queue.length H4.cdq,.slice H4.ai H4.fi.length H4.ci,.int .i64 H4.ct,.slice H4.ac H4.ca.length H4.cc,.slice H4.ap H4.sp.length H4.cp]) (ah rfl) (bF rfl (hW.trans h2) (bL hb.2.1 0 11) underlying41 rfl (by kernel_rfl)) rfl
  ·intro ρ y W L hw hn l a hb hd;refine ed dQ (fun _ _ h=>eU (by decide) h) hb ?_;have hU:=hw 60 6 rfl;have h6:y 6=_:=hd 6 rfl;refine aj (.int .i64 0) (ah rfl) (by simp[execOp,go_sem,dm,hU,h6,hb.2.1.cell,uD]) rfl
  ·intro ρ y W L hw hn l a hb hd;have E2:ρ (.tmp 2) = .pointer (some ⟨w.heap.size+1,0,none⟩):=(hn (.tmp 2) rfl).trans rfl;have hV:=hw 57 3 rfl;have h3:y 3=_:=hd 3 rfl;have rxW:=hb.2.2.2.1 l;exact nz (ah rfl) (sU _ _ _ rfl (w.heap.size+1) 0 _ (bS H4).toList E2 (hV.trans h3) rfl _ _ rxW (az _) mach_size (fun u hu=>by have:=fI H4;rw[←jr,dF] at this;exact this u hu)) (NH hD.out l hb (rxW.setCells _ _) (aH _ _ _ _)) trivial
  intro y W7 hl hp;clear hp;simp only[cz,dm,bA,bB];obtain⟨⟨ha,_⟩,_,hv,_,s⟩:=hl;have rx8:=s rfl;go_wp2;refine bodyPost_ret (v:=.tuple #[.agg (bS H4),.bool false,.int .i64 0]) (dL results22 _ _ (w.heap.size+1) _ _ _ _ _ rfl rfl rfl rx8 underlying41 rfl mach_size) rfl ?_;exact⟨ha,H4,by rw[p.out];rfl,hv,n.out⟩
theorem Md (h:i≠j):bY L i j=L j:=by unfold bY;rw[if_neg (fun e=>h e.symm)]
theorem WG (h:i≠j):dB y i v j=y j:=by unfold dB;rw[if_neg (fun e=>h e.symm)]
def EO (m:Ma) (bits:Int):Ma:={ qc m.m.fs.length m.sl.length m.st.count with dk:=lc (nP bits) m.dk,st:=m.st }
def Un (w:World) (B b gd gk:Nat) (H N:MH) (vb vq:Value) (D:oD):(Nat→Bool)→(Nat→Value)→World→Prop:=fun L y W=>
 (Below B w W∧B≤W.heap.size)∧(aA W b (bS H) 41∧aA W (b+1) (bS noH) 41∧aA W gd #[vb,vq] 34)∧iE W B vb vq D ∧
 (L 3=true→∃av cv ps,y 3 = .agg #[.slice av ps.length cv,.int .i64 H.ct]∧nM W B (.slice av ps.length cv) ps∧ps.map PF.fi=H.fi.map PF.fi) ∧
 ∃S:MH,aA W gk (bS S) 41∧uz W B S∧S.m=N.m∧S.sl=N.sl∧S.sw=N.sw∧S.ca=N.ca∧S.sp=N.sp∧(L 5=true→S.dk=D)∧(L 7=true→S.ct=H.ct∧S.fi.map PF.fi=H.fi.map PF.fi)
theorem zh :∀L y W W',Below W.heap.size W W'→Un w B b gd gk H N vb vq D L y W→Un w B b gd gk H N vb vq D L y W':=
 fun _ _ _ _ hb ⟨h1,h2,h3,h4,S,h5,h6,h7⟩=>⟨⟨h1.1.trans (hb.mono h1.2),aY h1.2 hb.size⟩,⟨h2.1.ext hb,h2.2.1.ext hb,h2.2.2.ext hb⟩,h3.below hb,fun e=>by obtain⟨av,cv,ps,k1,k2,k3⟩:=h4 e;exact⟨av,cv,ps,k1,k2.below hb,k3⟩,S,h5.ext hb,h6.below hb,h7⟩
theorem Fy (hi:i≠3∧i≠5∧i≠7) (h:Un w B b gd gk H N vb vq D L y W):Un w B b gd gk H N vb vq D (bY L i) (dB y i v) W:=by
 unfold Un at h ⊢;rw[Md hi.1,Md hi.2.1,Md hi.2.2,WG hi.1];exact h
theorem Xf (hb:Below W.heap.size W W') (h:Un w B b gd gk H N vb vq D L y W) (ho:nM W' B (.slice av ps.length cv) ps) (hp:ps.map PF.fi=H.fi.map PF.fi) :
  Un w B b gd gk H N vb vq D (bY L 3) (dB y 3 (.agg #[.slice av ps.length cv,.int .i64 H.ct])) W':=by
 obtain⟨h1,h2,h3,h4,h5⟩:=zh _ _ _ _ hb h;exact⟨h1,h2,h3,fun _=>⟨av,cv,ps,rfl,ho,hp⟩,h5⟩
theorem nM.keepT (h:nM w B v ps) (hk:aA w g cs T) (h1:T≠67) (h2:T≠3) (hg:w.grownBy w' (some g)):nM w' B v ps:=
 ⟨ak h.own hk h1 hg,fun i p hp=>ak (h.each i p hp) hk h2 hg,h.apart⟩
theorem Xa (hgk:B≤gk∧gk≠b∧gk≠b+1) {S:MH}
 (h1:(Below B w W∧B≤W.heap.size)∧(aA W b (bS H) 41∧aA W (b+1) (bS noH) 41∧aA W gd #[.slice ab D.blocks.length cb,.slice aq D.queue.length cq] 34)∧iE W B (.slice ab D.blocks.length cb) (.slice aq D.queue.length cq) D ∧
 (L 3=true→∃av cv ps,y 3 = .agg #[.slice av ps.length cv,.int .i64 H.ct]∧nM W B (.slice av ps.length cv) ps∧ps.map PF.fi=H.fi.map PF.fi))
 (hS:aA W gk (bS S) 41∧uz W B S∧S.m=N.m∧S.sl=N.sl∧S.sw=N.sw∧S.ca=N.ca∧S.sp=N.sp∧(L 5=true→S.dk=D)∧(L 7=true→S.ct=H.ct∧S.fi.map PF.fi=H.fi.map PF.fi))
 (hk:aA W' gk (bD (bS S) 5 [.slice ab D.blocks.length cb,.slice aq D.queue.length cq]) 41) (hg:W.grownBy W' (some gk)) :
  Un w B b gd gk H N (.slice ab D.blocks.length cb) (.slice aq D.queue.length cq) D (bY L 5) (dB y 5 undef) W':=by
 obtain⟨⟨k1,k2⟩,⟨k3,k4,k5⟩,k6,k7⟩:=h1;obtain⟨s1,s2,s3,s4,s5,s6,s7,s8,s9⟩:=hS;have hd:iE W' B (.slice ab D.blocks.length cb) (.slice aq D.queue.length cq) D:=k6.keep s1 (by decide) (by decide) hg;refine⟨⟨k1.grown hg k2 (fun k hk=>by cases hk;exact hgk.1),aY k2 hg.size⟩,⟨k3.grown hg (fun e=>hgk.2.1 (aJ e)),k4.grown hg (fun e=>hgk.2.2 (aJ e)),bu k5 s1 (by decide) hg⟩,hd,fun e => ?_,{ S with db:=ab,cdb:=cb,dq:=aq,cdq:=cq,dk:=D },hk,{ s2.keep s1 (by decide) hg with dk:=hd },s3,s4,s5,s6,s7,fun _=>rfl,fun e=>s9 e⟩;obtain⟨av,cv,ps,e1,e2,e3⟩:=k7 e;exact⟨av,cv,ps,e1,e2.keepT s1 (by decide) (by decide) hg,e3⟩
theorem WR (hgk:B≤gk∧gk≠b∧gk≠b+1) {S:MH} 
 (h1:(Below B w W∧B≤W.heap.size)∧(aA W b (bS H) 41∧aA W (b+1) (bS noH) 41∧aA W gd #[vb,vq] 34)∧iE W B vb vq D)
 (hy:y 3 = .agg #[.slice av ps.length cv,.int .i64 H.ct]∧nM W B (.slice av ps.length cv) ps∧ps.map PF.fi=H.fi.map PF.fi) (h64 : -9223372036854775808≤H.ct∧H.ct≤9223372036854775807)
 (hS:aA W gk (bS S) 41∧uz W B S∧S.m=N.m∧S.sl=N.sl∧S.sw=N.sw∧S.ca=N.ca∧S.sp=N.sp∧(L 5=true→S.dk=D)∧(L 7=true→S.ct=H.ct∧S.fi.map PF.fi=H.fi.map PF.fi))
 (hk:aA W' gk (bD (bS S) 7 [.slice av ps.length cv,.int .i64 H.ct]) 41) (hg:W.grownBy W' (some gk)) :
  Un w B b gd gk H N vb vq D (bY L 7) (dB y 7 undef) W':=by
 obtain⟨⟨k1,k2⟩,⟨k3,k4,k5⟩,k6⟩:=h1;obtain⟨e1,e2,e3⟩:=hy;obtain⟨s1,s2,s3,s4,s5,s6,s7,s8,s9⟩:=hS;have hf:nM W' B (.slice av ps.length cv) ps:=e2.keepT s1 (by decide) (by decide) hg;exact⟨⟨k1.grown hg k2 (fun k hk=>by cases hk;exact hgk.1),aY k2 hg.size⟩,⟨k3.grown hg (fun e=>hgk.2.1 (aJ e)),k4.grown hg (fun e=>hgk.2.2 (aJ e)),bu k5 s1 (by decide) hg⟩,k6.keep s1 (by decide) (by decide) hg,fun _=>⟨av,cv,ps,e1,hf,e3⟩,{ S with ai:=av,ci:=cv,fi:=ps,ct:=H.ct },hk,{ s2.keep s1 (by decide) hg with st:=hf,c64:=h64 },s3,s4,s5,s6,s7,fun e=>s8 e,fun _=>⟨rfl,e3⟩⟩
def XQ (H:MH) (bits:Int) (w:World) (r:Ending) (w' : World):Prop:=Below w.heap.size w w'∧∃H' : MH,r = .returned (.tuple #[.agg (bS H'),.int .i64 0])∧uz w' w.heap.size H'∧H'.ma=EO H.ma bits
theorem Uo (h:Rt m):(((0:Int)≤m.m.fs.length∧(m.m.fs.length:Int)≤40)∧((0:Int)≤m.sl.length∧(m.sl.length:Int)≤60)∧0≤m.st.count∧m.st.count≤80):=by
 have h1:=((eQ _).1 h.pt.fr).1;have h2:=jf h.pt.sl;have h3:=(jC h.pt.st).2;omega
theorem Nn (H:MH) (bits:Int) (w:World) (h:BH w H) (hR:Rt H.ma) (hC:Co H.ma) :
  Calls Tryz.prog 26 #[.agg (bS H),.int .i64 bits] w (XQ H bits w):=by
 have hc:=Lib.hid h.st;have p:=Lib.hid hR;have hQ:=Lib.hid hC;have hP:=Lib.hid (kU hR);clear hR hC;go_enter func26,ntmps26;go_upto_region 1 with (fail);refine qQ (fun W=>Code.wp _ _ _ _ W) fun w1 z bx1 rx1 hF => ?_;have bx1:aA w1 w.heap.size (bS H) 41:=bx1;have rx1:aA w1 (w.heap.size+1) (bS noH) 41:=rx1;have h1:=h.below z;clear h
 go_wp2_with (refine ax _ _ rfl w.heap.size 0 rfl rfl _ bx1.rd _ underlying41 rfl machine_size ?_)
 refine (mI H _ h1).mono ?_;rintro r w2 ⟨rfl,o⟩;rw[Ef.2 p.out];have h2:=h1.below o;have bx2:=bx1.ext o;have rx2:=rx1.ext o;have l:=ae z o;clear h1 bx1 rx1 z o hF;have hE:BP H.m.fs.length H.sl.length H.ct=0:=if_pos (Uo p.out);have ha:bi H.dk=0:=p.out.pt.dk;have hj:=bx2.cell;unfold bS at hj
 go_wp2_with fail
 refine (KH H.m.fs.length H.sl.length H.ct _ h2.c64).mono ?_;rintro r w3 ⟨N,rfl,hf,hh,n⟩;rw[hE];have hg:=Lib.hid hh;have h3:=h2.below n;have bx3:=bx2.ext n;have rx3:=rx2.ext n;have j:=ae l n;have hs:=hf.mono l.size;clear h2 bx2 rx2 hj l n hh hf hE
 go_wp2_with (refine aF rfl _ _ _ rfl (bS N) rfl rfl rfl machine_size (fI _) ?_)
 intro w4 d nx4;have h4:=h3.below d;have bx4:=bx3.ext d;have rx4:=rx3.ext d;have i:=ae j d;have hx:=hs.below d;have x:Hid (w.heap.size≤w3.heap.size∧w3.heap.size≠w.heap.size∧w3.heap.size≠w.heap.size+1):=Lib.hid ⟨j.size,by have:=rx3.lt;omega,by have:=rx3.lt;omega⟩;clear h3 bx3 rx3 j d hs;generalize w3.heap.size=gk at nx4 x
 go_wp2_with (refine ax _ _ rfl w.heap.size 5 rfl rfl _ (bL bx4 5 2) _ underlying34 rfl disk_size ?_)
 refine (NA H.dk H.db H.cdb H.dq H.cdq bits _ h4.dk).mono ?_;rintro r w5 ⟨vb,vq,rfl,hD,c⟩;rw[ha];have h5:=h4.below c;have bx5:=bx4.ext c;have rx5:=rx4.ext c;have nx5:=nx4.ext c;have t:=ae i c;have hv:=hx.below c;have s:=hD.mono i.size;clear h4 bx4 rx4 nx4 i c hx hD ha;obtain⟨D,hy⟩:∃D,Hid (D=lc (nP bits) H.dk):=⟨_,Lib.hid rfl⟩;rw[←hy.out] at s;obtain⟨ab,cb,aq,cq,rfl,rfl,_⟩:=s.rd
 go_wp2_with (refine aF rfl _ _ _ rfl #[.slice ab D.blocks.length cb,.slice aq D.queue.length cq] rfl rfl rfl disk_size (by simp[Value.oneCell']) ?_)
 intro w6 a dx6;have h6:=h5.below a;have bx6:=bx5.ext a;have rx6:=rx5.ext a;have nx6:=nx5.ext a;have g:=ae t a;have ht:=hv.below a;have hz:=s.below a;clear h5 bx5 rx5 nx5 t a hv s;generalize w5.heap.size=gd at dx6;have hA:Hid (Uw H.fi):=Lib.hid (Hm (ps:=H.fi) (k:=H.ct) p.out.pt.st);have hI:=Lib.hid h6.c64;go_upto_region 10 with (fail);refine nD 8 [.v (.agg #[.slice ab D.blocks.length cb,.slice aq D.queue.length cq]),_,.v (.agg #[.slice H.ai H.fi.length H.ci,.int .i64 H.ct]),.r 3 ((cB fun _=>True)),_,.r 5 ((cB fun _=>True)),_,.r 7 ((cB fun _=>True))] (Un w w.heap.size w.heap.size gd gk H N (.slice ab D.blocks.length cb) (.slice aq D.queue.length cq) D) zh (fun y=>⟨⟨g,g.size⟩,⟨bx6,rx6,dx6⟩,hz,fun e=>(by cases e),N,nx6,ht,rfl,rfl,rfl,rfl,rfl,fun e=>(by cases e),fun e=>(by cases e)⟩) (ag ?_ (Qf zh w.heap.size 7 rfl rfl (ag ?_ (ag ?_ (Qf zh gk 5 rfl rfl (ag ?_ (Qf zh gk 7 rfl rfl (ag ?_ (aB)) (fun _ _ _ _ b h=>Fy (by decide) h))) (fun _ _ _ _ b h=>Fy (by decide) h)))) (fun _ _ _ _ b h=>Fy (by decide) h))) (fun _=>rfl) rfl ?_
 ·intro ρ y W L hw hn q b hb hd;refine ed zh (fun _ _ h=>Fy (by decide) h) hb ?_;have E9:ρ (.tmp 9) = .pointer (some ⟨gd,0,none⟩):=(hn (.tmp 9) rfl).trans rfl;have dxW:=hb.2.1.2.2;refine aj (.agg #[.slice ab D.blocks.length cb,.slice aq D.queue.length cq]) (ah rfl) (bn rfl E9 dxW underlying34 rfl disk_size) rfl
 ·intro ρ y W L hw hn q b hb hd;refine ed zh (fun _ _ h=>Fy (by decide) h) hb ?_;have hN:=hw 47 1 rfl;have h1:y 1=_:=hd 1 rfl;have bxW:=hb.2.1.1;refine aj (.agg #[.slice H.ai H.fi.length H.ci,.int .i64 H.ct]) (ah rfl) (bF rfl (hN.trans h1) (bL bxW 7 2) underlying37 rfl store_size) rfl
 ·intro ρ y W L hw hn q b hb hd;have hM:=hw 48 2 rfl;have h2:y 2=_:=hd 2 rfl;have EF:∀f,ρ (.func f) = .func (.func f) #[] #[]:=fun f=>hn (.func f) trivial;refine ig _ _ (ah rfl) (aO rfl (EF _) func61 (by kernel_rfl) (by kernel_rfl) (by simp only[bH,bA,bB,hM,h2,EF];rfl)) ?_;have hB:Mh W H.ai H.ci H.fi:=hc.out.below hb.1.1;refine (Fs H.fi H.ct H.ai H.ci W hB hA.out).mono ?_;rintro r w9 ⟨v,ps,rfl,ho,hp,hH⟩;obtain⟨av,cv,rfl,_⟩:=ho.own.rd;exact⟨_,rfl,Xf hH hb (ho.mono hb.1.2) hp,trivial⟩
 ·intro ρ y W L hw hn q b hb hd;have hK:=hw 50 4 rfl;have h4:y 4=_:=hd 4 rfl;have hO:=hw 46 0 rfl;have h0:y 0=_:=hd 0 rfl;obtain⟨j1,j2,j3,j4,S,jS⟩:=hb;exact nz (ah rfl) (sU _ _ _ rfl gk 5 _ [.slice ab D.blocks.length cb,.slice aq D.queue.length cq] (hK.trans h4) (hO.trans h0) rfl _ _ jS.1 (by show 5+2≤11;decide) disk_size (fun u hu=>by simp at hu;rcases hu with rfl | rfl<;>rfl)) (Xa x.out ⟨j1,j2,j3,j4⟩ jS (jS.1.setCells _ _) (aH _ _ _ _)) trivial
 ·intro ρ y W L hw hn q b hb hd;have hJ:=hw 51 6 rfl;have h6:y 6=_:=hd 6 rfl;have hL:=hw 49 3 rfl;have h3:=hd 3 rfl;obtain⟨j1,j2,j3,j4,S,jS⟩:=hb;obtain⟨av,cv,ps,k1,k2,k3⟩:=j4 (b 3 rfl);exact nz (ah rfl) (sU _ _ _ rfl gk 7 _ [.slice av ps.length cv,.int .i64 H.ct] (hJ.trans h6) (hL.trans k1) rfl _ _ jS.1 (by show 7+2≤11;decide) store_size (fun u hu=>by simp at hu;rcases hu with rfl | rfl<;>rfl)) (WR x.out ⟨j1,j2,j3⟩ ⟨k1,k2,k3⟩ hI.out jS (jS.1.setCells _ _) (aH _ _ _ _)) trivial
 intro y W7 hq hr;clear hr;simp only[cz,dm,bA,bB];obtain⟨⟨j1,_⟩,⟨_,rx7,_⟩,_,_,S,nx7,hS,s1,s2,s3,s4,s5,s6,s7⟩:=hq;have hm:Hid (S.ma=EO H.ma bits):=Lib.hid (by have e1:=s6 rfl;obtain⟨e2,e3⟩:=s7 rfl;unfold EO;show (⟨S.m,S.sl,S.sw,S.dk,⟨S.fi.map PF.fi,S.ct⟩,S.ca,S.sp.map PS.sp⟩:Ma)=_;rw[s1,s2,s3,e1,e2,e3,s4,s5,hy.out];have:=hg.out;rw[show qc H.ma.m.fs.length H.ma.sl.length H.ma.st.count=N.ma from this.symm];rfl);clear s1 s2 s3 s4 s5 s6 s7 g bx6 rx6 nx6 dx6 ht hz h6
 go_wp2_with (first | (refine ax _ _ rfl gk 0 rfl rfl _ nx7.rd _ underlying41 rfl machine_size ?_) | (refine ay rfl _ _ _ rfl (w.heap.size+1) (bS S) rfl rfl _ _ rx7 rfl mach_size (fI _) ?_))
 intro w8 rx8 hi;have hl:=j1.grown hi (by have:=j1.size;exact this) (fun k hk=>by cases hk;omega);have hG:=hS.keep rx7 (by decide) hi;go_wp2;refine bodyPost_ret (v:=.tuple #[.agg (bS S),.int .i64 0]) (fw results26 _ _ (w.heap.size+1) _ _ _ _ rfl rfl rx8 underlying41 rfl mach_size) rfl ?_;exact⟨hl,S,rfl,hG,hm.out⟩
def nK (file:Int) (m:Ma) (f:Nat):Option Ma:=if (aR m f).f=file then (if iI m f=true then some (gU ⟨m,0⟩ f).m else none) else some m
def qE (file:Int) (m:Ma):Nat→Option Ma
 | 0=>some m
 | f+1=>(qE file m f).bind fun m1=>nK file m1 f
def rV (m:Ma):Ma:={ m with dk:=lc (fun _=>true) m.dk }
def Ci (file:Int) (m:Ma):Option Ma:=(qE file m m.m.fs.length).map rV
structure wy (m m' : Ma):Prop where
 rt:Rt m'
 co:Co m'
 vis:Fz m m'
 len:m'.m.fs.length=m.m.fs.length
 sl:m'.sl=m.sl
theorem Hw {file:Int} (h:Rt m) (hc:Co m) (h0:0≤file) (hf:f<m.m.fs.length) (e:nK file m f=some m'):wy m m'∧((aR m f).f=file→gU ⟨m,0⟩ f=⟨m',0⟩∧Cleaned m m' f):=by
 unfold nK at e
 by_cases e1:(aR m f).f=file
 ·rw[if_pos e1] at e
  by_cases e2:iI m f=true
  ·rw[if_pos e2] at e;obtain⟨m1,q,hC⟩:=Bi (k:=⟨m,0⟩) h hc hf (by show 0≤(aR m f).f;rw[e1];exact h0) e2;rw[q] at e;cases aJ e;exact⟨⟨hC.rt,hC.co,hC.vis,by rw[hC.fs];exact bP,hC.sl⟩,fun _=>⟨q,hC⟩⟩
  rw[if_neg e2] at e;cases e
 rw[if_neg e1] at e;cases aJ e;exact⟨⟨h,hc,.refl _,rfl,rfl⟩,fun q=>absurd q e1⟩
theorem Jd {file:Int} {m:Ma} (h:Rt m) (hc:Co m) (h0:0≤file):∀(f:Nat) (m' : Ma),f≤m.m.fs.length→qE file m f=some m'→wy m m'
 | 0,m',_,e=>by cases aJ e;exact⟨h,hc,.refl _,rfl,rfl⟩
 | f+1,m',hf,e=>by
  unfold qE at e;cases e1:qE file m f with
  | none=>rw[e1] at e;cases e
  | some m1=>
   rw[e1] at e;have s1:=Jd h hc h0 f m1 (by omega) e1;obtain⟨s2,_⟩:=Hw s1.rt s1.co h0 (by rw[s1.len];omega) e;exact⟨s2.rt,s2.co,s1.vis.trans s2.vis,s2.len.trans s1.len,s2.sl.trans s1.sl⟩
theorem OG {file:Int} {m:Ma} {f:Nat} (e:qE file m f=none):∀n,f≤n→qE file m n=none
 | 0,h=>by rw[←e,Nat.le_zero.1 h]
 | n+1,h=>by
  by_cases q:f=n+1
  ·rw[←q];exact e
  unfold qE;rw[OG e n (by omega)];rfl
def XK (file:Int) (H:MH) (w:World) (r:Ending) (w' : World):Prop:=Below w.heap.size w w'∧(match Ci file H.ma with
 | none=>r = .returned (.tuple #[.agg (bS noH),.int .i64 10])
 | some m' => ∃H' : MH,r = .returned (.tuple #[.agg (bS H'),.int .i64 0])∧uz w' w.heap.size H'∧H'.ma=m')
theorem Pq (H:MH) (file:Int) (w:World) (h:BH w H) (hR:Rt H.ma) (hC:Co H.ma) (hf0:0≤file) (hf1:file<(H.fi.length:Int)) :
  Calls Tryz.prog 23 #[.agg (bS H),.int .i64 file] w (XK file H w):=by
 have hU:=Lib.hid hR;have kd:=Lib.hid hC;have hE:=Lib.hid (kU hR);clear hR hC;go_enter func23,ntmps23;go_upto_region 1 with (fail);refine qQ (fun W=>Code.wp _ _ _ _ W) fun w1 hA bx1 rx1 hZ => ?_;have bx1:aA w1 w.heap.size (bS H) 41:=bx1;have rx1:aA w1 (w.heap.size+1) (bS noH) 41:=rx1;have h1:=h.below hA;clear h
 go_wp2_with (refine ax _ _ rfl w.heap.size 0 rfl rfl _ bx1.rd _ underlying41 rfl machine_size ?_)
 refine (mI H _ h1).mono ?_;rintro r w2 ⟨rfl,z⟩;rw[Ef.2 hU.out];have h2:=h1.below z;have bx2:=bx1.ext z;have rx2:=rx1.ext z;have t:=ae hA z;clear h1 bx1 rx1 hA z hZ;have h8:¬file<0:=by omega
 have h7:¬(H.fi.length:Int)≤file:=by omega
 have hp:=Lib.hid hf0;clear hf0 hf1;have hc:=bx2.cell;unfold bS at hc;go_upto_region 6 with (fail);clear hc h8 h7
 go_wp2_with (refine ax _ _ rfl w.heap.size 0 rfl rfl _ bx2.rd _ underlying41 rfl machine_size ?_)
 refine (vU H _ h2 hE.out).mono ?_;rintro r w3 ⟨H3,rfl,hI,n,_,hz⟩;have hJ:=Lib.hid n;have hB:Hid (Ra H3.ma):=Lib.hid (by rw[n];exact hE.out);have rx3:=rx2.ext hz;have s:=ae t hz;clear bx2 rx2 h2 n;unfold bS;go_upto_region 7 with (fail);refine gF (fun W=>Code.wp _ _ _ _ W) fun w4 hi kx4 hY => ?_;have k4:kY w4 w.heap.size w3.heap.size H3 0:=⟨kx4,s.size,(hI.mono t.size).below hi,fun q hq=>(Ra.spz (H:=H3) hB.out hq).2⟩;have rx4:=rx3.ext hi;have a:=ae s hi;clear hz hi hI t kx4 hY rx3 s;generalize w3.heap.size=b at k4;have hc:=k4.blk.cell;unfold uD at hc;go_upto_region 8 with (fail);clear hc;obtain⟨N,hN⟩:∃N,Hid (N=H3.m.fs.length):=⟨_,Lib.hid rfl⟩;have kl:N≤1000:=by rw[hN.out];exact hB.out.fs
 rw[←hN.out];have hj:Hid (N=H.ma.m.fs.length):=Lib.hid (by rw[hN.out,←hJ.out];rfl)
 go_loopw [39] (fun i wr => ∃(f:Nat) (H' : MH),f≤N∧i = .int .i64 f∧kY wr w.heap.size b H' 0∧Below w.heap.size w wr∧aA wr (w.heap.size+1) (bS noH) 41∧Hid (qE file H.ma f=some H'.ma)) (fun i _=>N-(intOf i).toNat)
 case atStart=>exact⟨0,H3,by omega,rfl,k4,a,rx4,Lib.hid (by rw[hJ.out];rfl)⟩
 case round=>
  clear k4 a rx4;obtain⟨f,H4,hf,rfl,k4,a,rx4,d⟩:=hrel;have ha:Hid (wy H.ma H4.ma):=Lib.hid (Jd hU.out kd.out hp.out f _ (by have:=hj.out;omega) d.out);have hc:=k4.blk.cell;unfold uD at hc
  by_cases hfN:f<N
  ·have kb:(f:Int)<(N:Int):=by omega
   have hM:Hid (H4.m.fs.length=N):=Lib.hid (by rw[hj.out];exact ha.out.len);have hy:f<H4.m.fs.length:=by rw[hM.out];exact hfN
   obtain⟨g,off,cur,hS,kf,hs,kj,h4,hQ,kk,hG⟩:=k4.frame hy;have q11:cur[off+f*13+11]?=some (.int .i64 (aR H4.ma f).f):=hQ 11 _ rfl;have kc:=hs.cell;rw[hS,hM.out] at hc;clear hG hQ h4 hS kf
   by_cases hx:(aR H4.ma f).f=file
   ·have ht:=Lib.hid hx;rw[hx] at q11;clear hx
    go_wp2_with fail
    refine (zi H4 0 f _ b _ k4 hy).mono ?_;rintro r w6 ⟨rfl,H6,e6,k6,s6,q6⟩;have rx6:=s6.blk k4 rx4 machT;have c:=uQ a (s6.to k4 (az _));clear s6 k4 rx4 a hs kc q11 hc;cases hcb:iI H4.ma f with
    | false=>
     have h5:Hid (Ci file H.ma=none):=Lib.hid (by
      have e1:qE file H.ma (f+1)=none:=by unfold qE;rw[d.out];show nK file H4.ma f=none;unfold nK;rw[if_pos ht.out,hcb];rfl
      unfold Ci;rw[OG e1 _ (by have:=hj.out;omega)];rfl)
     clear q6 hcb k6
     go_wp2_with (refine ay rfl _ _ _ rfl (w.heap.size+1) (bS noH) rfl rfl _ _ rx6 rfl mach_size (fI noH) ?_)
     intro we h0 ka;have o:=c.grown ka c.size (fun k hk=>by cases hk;omega);go_wp2;refine bodyPost_ret (v:=.tuple #[.agg (bS noH),.int .i64 10]) (fw results23 _ _ (w.heap.size+1) _ _ _ _ rfl rfl h0 underlying41 rfl mach_size) rfl ?_;exact⟨o,by rw[h5.out]⟩
    | true=>
     have hv:nK file H4.ma f=some (gU ⟨H4.ma,0⟩ f).m:=by unfold nK;rw[if_pos ht.out,hcb];rfl
     obtain⟨_,hk⟩:=Hw ha.out.rt ha.out.co hp.out hy hv;rw[(hk ht.out).1] at q6;obtain⟨hL,rfl⟩:=Kp.mk.inj q6;have l:Hid (qE file H.ma (f+1)=some H6.ma):=Lib.hid (by unfold qE;rw[d.out,hL];exact hv);clear q6 hL hk hv hcb;go_wp2;go_roundw
     case rel=>exact⟨f+1,H6,by omega,by go_num,k6,c,rx6,l⟩
     case measure=>simp[intOf];omega
   have l:Hid (qE file H.ma (f+1)=some H4.ma):=Lib.hid (by unfold qE;rw[d.out];show nK file H4.ma f=_;unfold nK;rw[if_neg hx]);go_wp2;go_roundw
   case rel=>exact⟨f+1,H4,by omega,by go_num,k4,a,rx4,l⟩
   case measure=>simp[intOf];omega
  have kb:¬(f:Int)<(N:Int):=by omega
  have hX:Hid (Ci file H.ma=some (rV H4.ma)):=Lib.hid (by unfold Ci;rw[←hj.out,show N=f by omega,d.out];rfl);have hF:bi H4.dk=0:=ha.out.rt.pt.dk;clear hc d hf hfN
  go_wp2_with (refine ax _ _ rfl b 5 rfl rfl _ k4.rdD _ underlying34 rfl disk_size ?_)
  refine (MM H4.dk H4.db H4.cdb H4.dq H4.cdq _ k4.ma.rd.dk).mono ?_;rintro r w5 ⟨vb,vq,rfl,hD,hh⟩;rw[hF];have k5:=k4.below hh;have rx5:=rx4.ext hh;have p:=uQ a (hh.mono a.size);have hm:=hD.mono a.size;clear k4 rx4 hh hD hF a;obtain⟨D,hV⟩:∃D,Hid (D=lc (fun _=>true) H4.dk):=⟨_,Lib.hid rfl⟩;rw[←hV.out] at hm;obtain⟨ab,cb,aq,cq,rfl,rfl,_⟩:=hm.rd
  go_wp2_with (refine aF rfl _ _ _ rfl #[.slice ab D.blocks.length cb,.slice aq D.queue.length cq] rfl rfl rfl disk_size (by simp[Value.oneCell']) ?_)
  intro w6 x dx6;have k6:=k5.below x;have rx6:=rx5.ext x;have c:=uQ p (x.mono p.size);have hW:=hm.below x;clear k5 rx5 x hm p;generalize w5.heap.size=gd at dx6
  go_wp2_with (first | (refine ax _ _ rfl gd 0 rfl rfl _ dx6.rd _ underlying34 rfl disk_size ?_) | (refine aD rfl _ _ _ rfl b 5 _ [.slice ab D.blocks.length cb,.slice aq D.queue.length cq] rfl rfl rfl _ _ k6.blk (by show 5+2≤12;decide) disk_size (fun u hu=>by simp at hu;rcases hu with rfl | rfl<;>rfl) ?_))
  intro w7 hP hg;have k7:=k6.setD hW hP hg;have rx7:=bu rx6 k6.blk (by decide) hg;have hr:=c.grown hg c.size (fun k hk=>by cases hk;exact k6.ge);have hK:Hid (MH.ma { H4 with db:=ab,cdb:=cb,dq:=aq,cdq:=cq,dk:=D }=rV H4.ma):=Lib.hid (by unfold rV;show _ = { H4.ma with dk:=lc (fun _=>true) H4.dk };rw[←hV.out];rfl);clear k6 rx6 c hW hP hg dx6;generalize ({ H4 with db:=ab,cdb:=cb,dq:=aq,cdq:=cq,dk:=D }:MH)=H7 at k7 hK;skip;go_upto_region 17 with (fail);have ke:Hid (w.heap.size≤w.heap.size+1):=Lib.hid (yc _);refine nD 10 [_,_,_,.v (.agg #[.slice H7.af H7.m.fs.length H7.cf,.int .i64 H7.m.hand,.slice H7.asl H7.sl.length H7.csl,.slice H7.wb H7.sw.blocks.length H7.cwb,.slice H7.wq H7.sw.queue.length H7.cwq,.slice H7.db H7.dk.blocks.length H7.cdb,.slice H7.dq H7.dk.queue.length H7.cdq,.slice H7.ai H7.fi.length H7.ci,.int .i64 H7.ct,.slice H7.ac H7.ca.length H7.cc,.slice H7.ap H7.sp.length H7.cp]),_,_,_,.v (.int .i64 0),.r 8 ((cB fun _=>True)),.v (.int .i64 0)] (FT w w.heap.size b (w.heap.size+1) H7) dQ (fun y=>⟨⟨hr,hr.size⟩,k7.blk,k7.ma,fun _=>rx7,fun e=>(by cases e)⟩) (Qk dQ rfl (Qk dQ rfl (Qf dQ b 0 rfl rfl (ag ?_ (Qk dQ rfl (Qk dQ rfl (Qf dQ b 11 rfl rfl (ag ?_ (ag ?_ (Qk dQ rfl (aB) (fun _ _ _ _ j h=>eU (by decide) h)))) (fun _ _ _ _ j h=>eU (by decide) h)) (fun _ _ _ _ j h=>eU (by decide) h)) (fun _ _ _ _ j h=>eU (by decide) h))) (fun _ _ _ _ j h=>eU (by decide) h)) (fun _ _ _ _ j h=>eU (by decide) h)) (fun _ _ _ _ j h=>eU (by decide) h)) (fun _=>rfl) rfl ?_
  ·intro ρ y W L hw hn hl j hb hd;refine ed dQ (fun _ _ h=>eU (by decide) h) hb ?_;have ki:=hw 82 2 rfl;have h2:y 2=_:=hd 2 rfl;refine aj (.agg #[.slice H7.af H7.m.fs.length H7.cf,.int .i64 H7.m.hand,.slice H7.asl H7.sl.length H7.csl,.slice H7.wb H7.sw.blocks.length H7.cwb,.slice H7.wq H7.sw.queue.length H7.cwq,.slice H7.db H7.dk.blocks.length H7.cdb,.slice H7.dq H7.dk.queue.length H7.cdq,.slice H7.ai H7.fi.length H7.ci,.int .i64 H7.ct,.slice H7.ac H7.ca.length H7.cc,.slice H7.ap H7.sp.length H7.cp]) (ah rfl) (bF rfl (ki.trans h2) (bL hb.2.1 0 11) underlying41 rfl (by kernel_rfl)) rfl
  ·intro ρ y W L hw hn hl j hb hd;refine ed dQ (fun _ _ h=>eU (by decide) h) hb ?_;have kg:=hw 86 6 rfl;have h6:y 6=_:=hd 6 rfl;refine aj (.int .i64 0) (ah rfl) (by simp[execOp,go_sem,dm,kg,h6,hb.2.1.cell,uD]) rfl
  ·intro ρ y W L hw hn hl j hb hd;have E4:ρ (.tmp 4) = .pointer (some ⟨w.heap.size+1,0,none⟩):=(hn (.tmp 4) rfl).trans rfl;have kh:=hw 83 3 rfl;have h3:y 3=_:=hd 3 rfl;have rxW:=hb.2.2.2.1 hl;exact nz (ah rfl) (sU _ _ _ rfl (w.heap.size+1) 0 _ (bS H7).toList E4 (kh.trans h3) rfl _ _ rxW (az _) mach_size (fun u hu=>by have:=fI H7;rw[←jr,dF] at this;exact this u hu)) (NH ke.out hl hb (rxW.setCells _ _) (aH _ _ _ _)) trivial
  intro y W7 hO hT;clear hT;simp only[cz,dm,bA,bB];obtain⟨⟨o,_⟩,_,h9,_,hH⟩:=hO;have rx8:=hH rfl;go_wp2;refine bodyPost_ret (v:=.tuple #[.agg (bS H7),.int .i64 0]) (fw results23 _ _ (w.heap.size+1) _ _ _ _ rfl rfl rx8 underlying41 rfl mach_size) rfl ?_;exact⟨o,by rw[hX.out];exact⟨H7,rfl,h9,hK.out⟩⟩
theorem Ee (hR:Rt m) (f i:Int):ic (rV m) f i=ic m f i:=by
 unfold ic;show (if 0≤bM m.st f i then fJ (jc (lc (fun _=>true) m.dk) (bM m.st f i)) ((aM m.st f).n-i*8) else zPg)=_;rw[Nw hR.pt.dk]
theorem Hr (hR:Rt m) (f i:Int):bC (rV m) f i=bC m f i:=by
 unfold bC;rw[show (rV m).ca=m.ca from rfl];cases m.ca.find? fun c=>decide (c.f=f)&&decide (c.i=i) with
 | some c=>rfl
 | none=>exact Ee hR f i
theorem SQ (hR:Rt m) (hC:Co m):wy m (rV m):=by
 have a:=hR.pt.dk;have d:(rV m).dk=⟨jE (fun _=>true) m.dk.blocks m.dk.queue m.dk.queue.length,[]⟩:=by unfold rV lc;rw[if_pos a]
 refine⟨⟨⟨hR.pt.fr,hR.pt.sl,hR.pt.sw,Ff _ a,hR.pt.st,hR.pt.swl,?_,hR.pt.spl,hR.pt.ar,hR.pt.tb⟩,⟨fun b h0 hb => ?_,fun q hq => ?_⟩,hR.live,⟨hR.ca.file,hR.ca.lt,hR.ca.fr,hR.ca.srt⟩,fun p n h => ?_,hR.cf,hR.fc,hR.cs⟩,⟨hC.tail,fun c hc hd => ?_,hC.anon⟩,⟨.of rfl,rfl,fun _=>rfl,fun _=>rfl,fun p n => ?_,fun f i _=>Hr hR f i⟩,rfl,rfl⟩
 ·rw[d];show ((jE _ _ _ _).length:Int)=m.st.count;rw[kI];exact hR.pt.dkl
 ·by_cases hbm:b∈kF m.st
  ·exact .inl hbm
  right
  rw[d] at hb ⊢;have hb:b<((jE (fun _=>true) m.dk.blocks m.dk.queue m.dk.queue.length).length:Int):=hb;rw[kI] at hb;have hz:m.dk.blocks.getD b.toNat zPg=zPg:=by
   rcases hR.trim.1 b h0 hb with h|h
   ·exact absurd h hbm
   ·exact h
  have e:b.toNat<m.dk.blocks.length:=by omega
  rw[aV] at hz;show (jE (fun _=>true) m.dk.blocks m.dk.queue m.dk.queue.length).getD b.toNat zPg=zPg;rw[aV];rcases TW (fun _=>true) m.dk.blocks m.dk.queue (fun x hx=>(((gD _).1 a).2.2 x hx).1) m.dk.queue.length b.toNat e with h|⟨x,hx,hxi,_⟩
  ·rw[h];rw[aI e] at hz;exact hz
  ·exact absurd (by have:=hR.trim.2 x hx;rwa [hxi,xP h0] at this) hbm
 ·rw[d] at hq;cases hq
 ·obtain⟨g,h1,h2⟩:=hR.en p n h;exact⟨g,h1,h2.sw,h2.lt,h2.fr⟩
 ·exact (hC.clean c hc hd).trans (Ee hR _ _).symm
 unfold qa;rw[show ni (rV m) p n=ni m p n from rfl];cases ni m p n with
 | none=>rfl
 | some g=>
  simp only;rw[Hr hR];rfl
theorem wy.trans {a b c:Ma} (h:wy a b) (k:wy b c):wy a c:=⟨k.rt,k.co,h.vis.trans k.vis,k.len.trans h.len,k.sl.trans h.sl⟩
theorem Sr {file:Int} (h:Rt m) (hc:Co m) (h0:0≤file) (e:Ci file m=some m'):wy m m':=by
 unfold Ci at e;cases e1:qE file m m.m.fs.length with
 | none=>rw[e1] at e;cases e
 | some m1=>
  rw[e1] at e;cases aJ e;have s1:=Jd h hc h0 _ m1 (az _) e1;exact s1.trans (SQ s1.rt s1.co)
theorem wW {α:Type} (q:α→Bool) (l:List α) (j:Nat) (hj:j<l.length):(l.take (j+1)).countP q=(l.take j).countP q+if q l[j]=true then 1 else 0:=by
 rw[mf,aI hj,Dr];simp[ou]
def tL (t:List En):List Value:=(List.range 64).flatMap fun i=>kX (t.getD i zEn)
theorem yS (t:List En):(tL t).length=192:=by
 unfold tL;rw[Pw.flat_len (fun i=>kX (t.getD i zEn)) 3 (fun _=>fA _),CK]
structure MW where
 al:Option Addr
 cl:Nat
 l:List UInt8
 H:MH
 ab:Option Addr
 cb:Nat
 T:List (List En)
def ja (S:MW):Array Value:=#[.slice S.al S.l.length S.cl,.slice S.H.af S.H.m.fs.length S.H.cf,.int .i64 S.H.m.hand,.slice S.H.asl S.H.sl.length S.H.csl,.slice S.H.wb S.H.sw.blocks.length S.H.cwb,.slice S.H.wq S.H.sw.queue.length S.H.cwq,
 .slice S.H.db S.H.dk.blocks.length S.H.cdb,.slice S.H.dq S.H.dk.queue.length S.H.cdq,.slice S.H.ai S.H.fi.length S.H.ci,.int .i64 S.H.ct,.slice S.H.ac S.H.ca.length S.H.cc,.slice S.H.ap S.H.sp.length S.H.cp,.slice S.ab S.T.length S.cb]
def iA (S:MW):List (Option Nat):=[oB S.H.af,oB S.H.asl,oB S.H.wb,oB S.H.db,oB S.H.dq,oB S.H.ai,oB S.H.ac,oB S.H.ap,oB S.ab]
def mR (b:Nat) (S:MW) (x:Nat):Prop:=x=b∨some x∈iA S
structure eD (w:World) (B b:Nat) (S:MW):Prop where
 blk:aA w b (ja S) 77
 ge:B≤b
 ma:uz w B S.H
 tt:Own w B 90 192 (.slice S.ab S.T.length S.cb) S.T.length (S.T.flatMap tL)
 rd:ui w S.al S.cl S.l.length (S.l.map mQ)
 ra:∀a,S.al=some a→S.l.map mQ≠[]→a.block<B
 n1:∀x,oB S.H.wb=some x→oB S.H.db≠some x
 n2:∀p∈S.H.fi,∀x,oB p.a=some x→oB S.H.asl≠some x
 n3:S.H.wq=none
structure MS (w0:World) (b:Nat) (S0:MW) (w:World) (S:MW):Prop where
 os:w.os=w0.os
 tape:w.tape=w0.tape
 output:w.output=w0.output
 size:w0.heap.size≤w.heap.size
 keep:∀x,x<w0.heap.size→¬mR b S0 x→w.heap[x]?=w0.heap[x]?
 sn:∀x,mR b S x→mR b S0 x∨w0.heap.size≤x
theorem MS.refl (w:World) (b:Nat) (S:MW):MS w b S w S:=⟨rfl,rfl,rfl,az _,fun _ _ _=>rfl,fun _ h => .inl h⟩
theorem MS.trans {H0 H1 H2:MW} (h:MS w0 b H0 w1 H1) (k:MS w1 b H1 w2 H2):MS w0 b H0 w2 H2:=
 ⟨k.os.trans h.os,k.tape.trans h.tape,k.output.trans h.output,aY h.size k.size,fun x hx hn=>(k.keep x (qi hx h.size) (fun hk=>(h.sn x hk).elim hn (fun hh=>absurd hx (Dc.2 hh)))).trans (h.keep x hx hn),
  fun x hx=>(k.sn x hx).elim (h.sn x) (fun hh => .inr (aY h.size hh))⟩
theorem MS.below {H0 H:MW} (h:MS w0 b H0 w H) (hb:Below w.heap.size w w'):MS w0 b H0 w' H:=
 ⟨hb.os.trans h.os,hb.tape.trans h.tape,hb.output.trans h.output,aY h.size hb.size,fun x hx hn=>(hb.block x (qi hx h.size)).trans (h.keep x hx hn),h.sn⟩
theorem MS.put {y:Nat} {H0 H H' : MW} (h:MS w0 b H0 w H) (hg:w.grownBy w' (some y)) (hy:mR b H y) (hn:∀x,mR b H' x→mR b H x∨w0.heap.size≤x):MS w0 b H0 w' H':=
 ⟨hg.os.trans h.os,hg.tape.trans h.tape,hg.output.trans h.output,aY h.size hg.size,fun x hx hnx=>(hg.block x (qi hx h.size) (fun e=>by have e' : x=y:=aJ e;rw[←e'] at hy;exact (h.sn x hy).elim hnx (fun hh=>absurd hx (Dc.2 hh)))).trans (h.keep x hx hnx),fun x hx=>(hn x hx).elim (h.sn x) .inr⟩
theorem MS.loc {y:Nat} {H0 H:MW} (h:MS w0 b H0 w H) (hg:w.grownBy w' (some y)) (hy:w0.heap.size≤y):MS w0 b H0 w' H:=
 ⟨hg.os.trans h.os,hg.tape.trans h.tape,hg.output.trans h.output,aY h.size hg.size,fun x hx hnx=>(hg.block x (qi hx h.size) (fun e=>by have e' : x=y:=aJ e;omega)).trans (h.keep x hx hnx),h.sn⟩
theorem MS.same {H0 H H' : MW} (h:MS w0 b H0 w H) (he:iA H' = iA H):MS w0 b H0 w H':=
 { h with sn:=fun x hx=>h.sn x (by unfold mR at hx ⊢; rw[←he];exact hx) }
theorem eD.lt {S:MW} (h:eD w B b S):b<w.heap.size:=h.blk.lt
theorem eD.bs {S:MW} (h:eD w B b S):B≤w.heap.size:=aY h.ge (qH h.lt)
theorem eD.below {S:MW} (h:eD w B b S) (hb:Below w.heap.size w w'):eD w' B b S:=⟨h.blk.ext hb,h.ge,h.ma.below hb,h.tt.below hb,h.rd.below hb,h.ra,h.n1,h.n2,h.n3⟩
theorem eD.kb_own {S:MW} (h:eD w B b S) {x:Nat} (hx:mR b S x):B≤x∧x<w.heap.size:=by
 have own:∀ {e:TypeId} {sz n c:Nat} {a:Option Addr} {xs:List Value},Own w B e sz (.slice a n c) n xs→oB a=some x→B≤x∧x<w.heap.size:=fun ho hx=>by obtain⟨h1,cs,h2⟩:=iV ho hx;exact⟨h1,h2.lt⟩
 rcases hx with hx|hx
 ·rw[hx];exact⟨h.ge,h.lt⟩
 simp only[iA,bU,fZ,or_false] at hx;rcases hx with hx|hx|hx|hx|hx|hx|hx|hx|hx
 ·exact own h.ma.fr hx.symm
 ·exact own h.ma.sl hx.symm
 ·exact own h.ma.sw.b hx.symm
 ·exact own h.ma.dk.b hx.symm
 ·exact own h.ma.dk.q hx.symm
 ·exact own h.ma.st.own hx.symm
 ·exact own h.ma.ca hx.symm
 ·exact own h.ma.sp hx.symm
 ·exact own h.tt hx.symm
theorem MS.to {S0 S:MW} (h:eD w0 B b S0) (hs:MS w0 b S0 w S) (hB:B0≤B):Below B0 w0 w:=
 ⟨hs.os,hs.tape,hs.output,hs.size,fun x hx=>hs.keep x (by have:=h.bs;omega) (fun hk=>by have:=(h.kb_own hk).1;omega)⟩
theorem MS.blkN {x:Nat} {S0 S:MW} (hs:MS w0 b S0 w S) (hk:aA w0 x cs T) (hx:¬mR b S0 x):aA w x cs T:=(hs.keep x hk.lt hx).trans hk
theorem MS.not {x:Nat} {S0 S:MW} (hs:MS w0 b S0 w S) (hl:x<w0.heap.size) (hx:¬mR b S0 x):¬mR b S x:=fun h=>(hs.sn x h).elim hx (fun h=>by omega)
theorem MS.ownN {S0 S:MW} (hs:MS w0 b S0 w S) (ho:Own w0 B' t sz v n xs) (hx:∀x,v.ownBlock=some x→¬mR b S0 x):Own w B' t sz v n xs:=
 ⟨ho.1,ho.2.imp id fun⟨g,off,cap,cur,hv,hB,hk,r⟩=>⟨g,off,cap,cur,hv,hB,hs.blkN hk (hx g (by rw[hv];rfl)),r⟩⟩
theorem eD.new {S:MW} (h:eD w B b S) {x:Nat} (hx:w.heap.size≤x):¬mR b S x:=fun hk=>by have:=(h.kb_own hk).2;omega
theorem ui.keep (h:ui w a c n vs) (ha:∀x,a=some x→vs≠[]→x.block<B) (hB:B≤w.heap.size) (hg:w.grownBy w' (some g)) (hgB:B≤g):ui w' a c n vs:=
 ⟨h.le,h.mx,h.nl,fun i u hi=>by obtain⟨b',o',e,hc⟩:=h.rd i u hi;have hl:b' < B:=ha _ e (fun e0=>by rw[e0] at hi;cases hi);exact⟨b',o',e,hg.cell hc (fun e=>by have h3:b' = g:=aJ e;omega)⟩⟩
theorem eD.putL {S:MW} (h:eD w B b S) {l:List UInt8} (hr:ui w a c l.length (l.map mQ)) (ha:∀x,a=some x→l.map mQ≠[]→x.block<B) (hb:aA w' b (bD (ja S) 0 [.slice a l.length c]) 77) (hg:w.grownBy w' (some b)) :
  eD w' B b { S with al:=a,cl:=c,l:=l }:=
 ⟨hb,h.ge,h.ma.keep h.blk (by decide) hg,ak h.tt h.blk (by decide) hg,hr.keep ha h.bs hg h.ge,ha,h.n1,h.n2,h.n3⟩
theorem uz.putF (h:uz w B H) (hk:aA w g cs 81) (hg:w.grownBy w' (some g)) {m:Mem} (ho:Own w' B 81 13 (.slice H.af m.fs.length H.cf) m.fs.length (m.fs.flatMap qz)):uz w' B { H with m:=m }:=
 ⟨ho,ak h.sl hk (by decide) hg,h.sw.keep hk (by decide) (by decide) hg,h.dk.keep hk (by decide) (by decide) hg,h.st.keep hk (by decide) (by decide) hg,ak h.ca hk (by decide) hg,ak h.sp hk (by decide) hg,fun p hp=>⟨ak (h.ps p hp).1 hk (by decide) hg,(h.ps p hp).2.keep hk (by decide) hg⟩,h.c64⟩
theorem eD.putF {S:MW} (h:eD w B b S) (hk:aA w g cs 81) (hgB:B≤g) (hg:w.grownBy w' (some g)) {fs:List Fr} (hl:fs.length=S.H.m.fs.length) (ho:Own w' B 81 13 (.slice S.H.af fs.length S.H.cf) fs.length (fs.flatMap qz)) :
  eD w' B b { S with H:={ S.H with m:=⟨fs,S.H.m.hand⟩ } }:=
 ⟨by
  have h1:=bu h.blk hk (by decide) hg;have e:ja { S with H:={ S.H with m:=⟨fs,S.H.m.hand⟩ } }=ja S:=by unfold ja;rw[show ({ S.H with m:=⟨fs,S.H.m.hand⟩ }:MH).m.fs.length=S.H.m.fs.length from hl]
  rw[e];exact h1,h.ge,h.ma.putF hk hg (m:=⟨fs,S.H.m.hand⟩) ho,ak h.tt hk (by decide) hg,h.rd.keep h.ra h.bs hg hgB,h.ra,h.n1,h.n2,h.n3⟩
theorem Ou (t:List En) (i r:Nat) (hi:i<64) (hr:r<3):(tL t)[i*3+r]?=(kX (t.getD i zEn))[r]?:=by
 unfold tL;rw[jw (fun i=>kX (t.getD i zEn)) 3 (fun _=>fA _) (List.range 64) i (by rw[CK];exact hi) r hr,JA]
theorem Wy {t:List En} {x:En} (hl:t.length=64) (hn:n<64) (cur:Array Value) (o:Nat) (hs:o+192≤cur.size) (hc:∀j u,(tL t)[j]?=some u→cur[o+j]?=some u) :
  bD cur (o+n*3) (kX x)=bD cur o (tL (t.set n x)):=by
 have b:∀i,i<64→(t.set n x).getD i zEn=if i=n then x else t.getD i zEn:=fun i hi=>by
  rw[aV,kR]
  by_cases e:i=n
  ·subst e;rw[if_pos rfl,if_pos (by omega),if_pos rfl];rfl
  ·rw[if_neg (fun h=>e h.symm),if_neg e,aV]
 apply mr;intro m;have c:(kX x).length=3:=fA x;have a:=yS (t.set n x)
 by_cases h1:o≤m∧m<o+192
 ·obtain⟨d,rfl⟩:∃d,m=o+d:=⟨m-o,by omega⟩;have hd:d<192:=by omega
  obtain⟨i,r,hi,hr,rfl⟩:∃i r,i<64∧r<3∧d=i*3+r:=⟨d / 3,d%3,by omega,by omega,by omega⟩;obtain⟨u,hu⟩:∃u,(tL (t.set n x))[i*3+r]?=some u:=⟨_,aI (by omega)⟩;rw[putAt_in _ _ _ _ u (by rw[a];exact hs) hu];rw[Ou _ i r hi hr,b i hi] at hu
  by_cases e:i=n
  ·subst e;rw[if_pos rfl] at hu;rw[←mY];exact putAt_in _ _ _ _ u (by omega) hu
  rw[if_neg e] at hu;rw[putAt_out _ _ _ _ (by omega)];exact hc _ _ (by rw[Ou _ i r hi hr];exact hu)
 ·rw[putAt_out _ _ _ _ (by omega),putAt_out _ _ _ _ (by omega)]
theorem eD.lst_len {S:MW} (hp:p<S.T.length):eY S.T p=S.T[p]:=by
 unfold eY;rw[aV,aI hp];rfl
theorem eD.ent {S:MW} (h:eD w B b S) (hp:p<S.T.length) (hn:n<64) (h64:(eY S.T p).length=64) :
  ∃g off cur,S.ab=some ⟨g,off,none⟩∧B≤g∧aA w g cur 90∧off+p*192+n*3+3≤cur.size∧(∀j u,(kX (fq S.T p n))[j]?=some u→w.cell? ⟨g,off+p*192+n*3+j,none⟩=some u) ∧
   ∀w' x,aA w' g (bD cur (off+p*192+n*3) (kX x)) 90→w.grownBy w' (some g)→eD w' B b { S with T:=setL S.T p n x }:=by
 obtain⟨g,off,cap,cur,hv,hB,hg,hs,hc,hw⟩:=h.tt.put yS (by decide) p hp;simp only[mi] at hv;obtain⟨hv,_,_⟩:=hv;refine⟨g,off,cur,hv,hB,hg,by omega,fun j u hj => ?_,fun w' x d c => ?_⟩
 ·have i:j<3:=by
   rcases fG j 3 with h|h
   ·exact h
   ·rw[dJ (by rw[fA];exact h)] at hj;cases hj
  have:=hc (n*3+j) u (by rw[Ou _ n j hn i,←eD.lst_len hp];exact hj);rw[←this];congr 2;omega
 have f:∀j u,(tL (eY S.T p))[j]?=some u→cur[off+p*192+j]?=some u:=fun j u hj=>by rw[eD.lst_len hp] at hj;have:=hc j u hj;rw[hg.cell] at this;exact this
 rw[Wy h64 hn cur _ (by omega) f] at d;have ho:=hw w' _ d;have a:({ S with T:=setL S.T p n x }:MW).T.length=S.T.length:=by show (setL S.T p n x).length=_;unfold setL;rw[bP]
 refine⟨?_,h.ge,h.ma.keep hg (by decide) c,?_,h.rd.keep h.ra h.bs c hB,h.ra,h.n1,h.n2,h.n3⟩
 ·have e:ja { S with T:=setL S.T p n x }=ja S:=by unfold ja;rw[a]
  rw[e];exact bu h.blk hg (by decide) c
 ·rw[a];exact ho
theorem eD.putS {S:MW} (h:eD w B b S) (hk:aA w g cs 3) (hgB:B≤g) (hga:oB S.H.asl=some g) (hg:w.grownBy w' (some g)) (hl:sl.length=S.H.sl.length) (ho:Own w' B 3 1 (.slice S.H.asl sl.length S.H.csl) sl.length (sl.map gB)) :
    eD w' B b { S with H:={ S.H with sl:=sl } }:=
  ⟨by
    have h1:=bu h.blk hk (by decide) hg;have e:ja { S with H:={ S.H with sl:=sl } }=ja S:=by unfold ja;rw[show ({ S.H with sl:=sl }:MH).sl.length=S.H.sl.length from hl]
    rw[e];exact h1,h.ge,
   ⟨ak h.ma.fr hk (by decide) hg,ho,h.ma.sw.keep hk (by decide) (by decide) hg,h.ma.dk.keep hk (by decide) (by decide) hg,⟨ak h.ma.st.own hk (by decide) hg,fun i p hp=>(h.ma.st.each i p hp).grown hg (fun g' hg' e=>by cases e;unfold ng at hg';rw[lM] at hg';exact h.n2 p (bN hp) _ hg' hga),h.ma.st.apart⟩,ak h.ma.ca hk (by decide) hg,ak h.ma.sp hk (by decide) hg,fun p hp=>⟨ak (h.ma.ps p hp).1 hk (by decide) hg,(h.ma.ps p hp).2.keep hk (by decide) hg⟩,h.ma.c64⟩,
   ak h.tt hk (by decide) hg,h.rd.keep h.ra h.bs hg hgB,h.ra,h.n1,h.n2,h.n3⟩
theorem eD.putW {S:MW} (h:eD w B b S) (hk:aA w g cs 79) (hgB:B≤g) (hga:oB S.H.wb=some g) (hg:w.grownBy w' (some g)) {l:List Page} (hl:l.length=S.H.sw.blocks.length) (ho:Own w' B 79 8 (.slice S.H.wb l.length S.H.cwb) l.length (l.flatMap BC)) :
    eD w' B b { S with H:={ S.H with sw:=⟨l,S.H.sw.queue⟩ } }:=
  ⟨by
    have h1:=bu h.blk hk (by decide) hg;have e:ja { S with H:={ S.H with sw:=⟨l,S.H.sw.queue⟩ } }=ja S:=by unfold ja;rw[show ({ S.H with sw:=⟨l,S.H.sw.queue⟩ }:MH).sw.blocks.length=S.H.sw.blocks.length from hl]
    rw[e];exact h1,h.ge,
   ⟨ak h.ma.fr hk (by decide) hg,ak h.ma.sl hk (by decide) hg,⟨ho,ak h.ma.sw.q hk (by decide) hg⟩,⟨h.ma.dk.b.grown hg (fun g' hg' e=>by cases e;rw[lM] at hg';exact h.n1 _ hga hg'),ak h.ma.dk.q hk (by decide) hg⟩,h.ma.st.keep hk (by decide) (by decide) hg,ak h.ma.ca hk (by decide) hg,ak h.ma.sp hk (by decide) hg,fun p hp=>⟨ak (h.ma.ps p hp).1 hk (by decide) hg,(h.ma.ps p hp).2.keep hk (by decide) hg⟩,h.ma.c64⟩,
   ak h.tt hk (by decide) hg,h.rd.keep h.ra h.bs hg hgB,h.ra,h.n1,h.n2,h.n3⟩
theorem eD.setC {S:MW} (h:eD w B b S) {l:List Cc} (ho:Own w B 106 3 (.slice a l.length c) l.length (l.flatMap mE)) (hb:aA w' b (bD (ja S) 10 [.slice a l.length c]) 77) (hg:w.grownBy w' (some b)) :
  eD w' B b { S with H:={ S.H with ac:=a,cc:=c,ca:=l } }:=
 ⟨hb,h.ge,{ h.ma.keep h.blk (by decide) hg with ca:=ak ho h.blk (by decide) hg },ak h.tt h.blk (by decide) hg,h.rd.keep h.ra h.bs hg h.ge,h.ra,h.n1,h.n2,h.n3⟩
def MW.lst (S:MW) (a:Option Addr) (c:Nat) (l:List UInt8):MW:={ S with al:=a,cl:=c,l:=l }
theorem oq (S:MW) (a a' : Option Addr) (c c' : Nat) (l l' : List UInt8):(S.lst a c l).lst a' c' l' = S.lst a' c' l':=rfl
theorem PZ {x:UInt8} {l:List UInt8} (h:dI w a ((x::l).map mQ)):∃b o,a=some ⟨b,o,none⟩∧w.cell? ⟨b,o,none⟩=some (mQ x)∧dI w (some ⟨b,o+1,none⟩) (l.map mQ):=by
 obtain⟨b,o,rfl,hc⟩:=h.at (by simp);exact⟨b,o,rfl,hc 0 _ rfl,fun i u hi=>⟨b,o+1,rfl,by
  have:=hc (i+1) u (by simpa using hi);rw[show o+1+i=o+(i+1) by omega];exact this⟩⟩
theorem eD.locT {S:MW} (h:eD w B b S) (hk:aA w g cs T) (hT:T≠3∧T≠99∧T≠89) (hn:¬mR b S g) (hgB:B≤g) (hg:w.grownBy w' (some g)):eD w' B b S:=by
 have d:∀ {a:Option Addr},oB a∈iA S→∀n c g',(Value.slice a n c).ownBlock=some g'→some g≠some g':=fun hm n c g' he e=>by cases e;rw[lM] at he;exact hn (.inr (by rw[←he];exact hm))
 have m:∀ {x:Option Nat} {l:List (Option Nat)},x∈x::l:=ik;refine⟨h.blk.grown hg (fun e=>hn (.inl (aJ e))),h.ge,⟨h.ma.fr.grown hg (d (by simp[iA]) _ _),h.ma.sl.grown hg (d (by simp[iA]) _ _),⟨h.ma.sw.b.grown hg (d (by simp[iA]) _ _),h.ma.sw.q.grown hg (fun g' he=>by rw[h.n3] at he;cases he)⟩,⟨h.ma.dk.b.grown hg (d (by simp[iA]) _ _),h.ma.dk.q.grown hg (d (by simp[iA]) _ _)⟩,
  ⟨h.ma.st.own.grown hg (d (by simp[iA]) _ _),fun i p hp=>ak (h.ma.st.each i p hp) hk hT.1 hg,h.ma.st.apart⟩,h.ma.ca.grown hg (d (by simp[iA]) _ _),h.ma.sp.grown hg (d (by simp[iA]) _ _),fun p hp=>⟨ak (h.ma.ps p hp).1 hk hT.2.1 hg,(h.ma.ps p hp).2.keep hk hT.2.2 hg⟩,h.ma.c64⟩,
  h.tt.grown hg (d (by simp[iA]) _ _),h.rd.keep h.ra h.bs hg hgB,h.ra,h.n1,h.n2,h.n3⟩
def Xd (S:MW) (n:Int) (B b:Nat) (w:World) (r:Ending) (w' : World):Prop:=∃x a c l,r = .returned (.int .i64 x)∧eD w' B b (S.lst a c l)∧MS w b S w' (S.lst a c l)∧(0≤x∧x<256∧(x<n∨x=0))∧(S.l=[]→x=0∧l=[])
theorem fD (S:MW) (n:Int) (B b:Nat) (w:World) (h:eD w B b S) (hn : -9223372036854775808≤n∧n≤9223372036854775807) :
  Calls Tryz.prog 30 #[.pointer (some ⟨b,0,none⟩),.int .i64 n] w (Xd S n B b w):=by
 obtain⟨al,cl,l,H,ab,cb,T⟩:=S;have hr:ui w al cl l.length (l.map mQ):=h.rd;have g:∀a,al=some a→l.map mQ≠[]→a.block<B:=h.ra;have hc:=h.blk.cell;unfold ja at hc;dsimp only at hc;have h':=Lib.hid h;have d:=Lib.hid g;go_enter func30,ntmps30;cases l with
 | nil=>
  clear h hr g;go_wp2;go_ret;exact⟨0,al,cl,[],rfl,h'.out,MS.refl _ _ _,by omega,fun _=>⟨rfl,rfl⟩⟩
 | cons x l=>
  obtain⟨bl,ol,rfl,i,o⟩:=PZ hr.rd;have r:l.length+1≤cl:=by have:=hr.le;simpa using this
  have p:=Lib.hid hr.mx;have m:=Lib.hid o;have f:=h.blk;clear h hr g o;unfold mQ at i
  by_cases hn1:n<1
  ·go_wp2;go_ret;exact⟨0,_,cl,x::l,rfl,h'.out,MS.refl _ _ _,by omega,fun e=>(by cases e)⟩
  have s:(1:Int)≤((l.length+1:Nat):Int):=by omega
  have h1:=Lib.hid x.toNat_lt;have k:Hid ((0:Int)≤(x.toNat:Int)%n∧(x.toNat:Int)%n<256∧((x.toNat:Int)%n<n∨(x.toNat:Int)%n=0)):=Lib.hid (by
   have h3:=Int.emod_nonneg (x.toNat:Int) (show n≠0 by omega);have h4:=Int.emod_lt_of_pos (x.toNat:Int) (show (0:Int)<n by omega);have h6:(x.toNat:Int)%n≤(x.toNat:Int):=by obtain⟨N,rfl⟩:=fO (show 0≤n by omega);rw[←Iy];have:=Nat.mod_le x.toNat N;omega
   have:=h1.out;omega)
  have q:IntKind.i64.wrap (x.toNat:Int)=(x.toNat:Int):=bO _ (by have:=h1.out;omega)
  by_cases hcl:cl=1
  ·subst hcl;obtain rfl:l=[]:=List.length_eq_zero_iff.1 (by omega)
   go_wp2_with (refine aD rfl _ _ _ rfl b 0 _ [.slice (some ⟨bl,ol,none⟩) 0 0] rfl rfl rfl _ _ f (by show 0+1≤13;omega) (by kernel_rfl) (fun u hu=>by cases bv.1 hu;rfl) ?_)
   intro w1 j c;clear hc i;go_wp2;go_ret;have hs:ui w (some ⟨bl,ol,none⟩) 0 0 (([]:List UInt8).map mQ):=⟨az _,aW _,fun e=>(by cases e),dI.nil⟩;exact⟨_,some ⟨bl,ol,none⟩,0,[],rfl,h'.out.putL hs (fun a e _=>by cases e;exact d.out _ rfl (by simp)) j c,(MS.refl w b _).put c (.inl rfl) fun x hx => .inl hx,k.out,fun e=>(by cases e)⟩
  go_wp2_with (refine aD rfl _ _ _ rfl b 0 _ [.slice (some ⟨bl,ol+1,none⟩) l.length (cl-1)] rfl rfl rfl _ _ f (by show 0+1≤13;omega) (by kernel_rfl) (fun u hu=>by cases bv.1 hu;rfl) ?_)
  intro w1 j c;clear hc i;go_wp2;go_ret;have hs:ui w (some ⟨bl,ol+1,none⟩) (cl-1) l.length (l.map mQ):=⟨by omega,by have:=p.out;omega,fun e=>(by cases e),m.out⟩;exact⟨_,some ⟨bl,ol+1,none⟩,cl-1,l,rfl,h'.out.putL hs (fun a e _=>by cases e;exact d.out ⟨bl,ol,none⟩ rfl (by simp)) j c,(MS.refl w b _).put c (.inl rfl) fun x hx => .inl hx,k.out,fun e=>(by cases e)⟩
def WT (S:MW) (B b:Nat) (w:World) (r:Ending) (w' : World):Prop:=∃P a c l,r = .returned (.agg (fQ P))∧eD w' B b (S.lst a c l)∧MS w b S w' (S.lst a c l)
theorem xI (S:MW) (B b:Nat) (w:World) (h:eD w B b S) :
  Calls Tryz.prog 33 #[.pointer (some ⟨b,0,none⟩)] w (WT S B b w):=by
 have o:=Lib.hid h.bs;go_enter func33,ntmps33;go_upto_region 3 with (fail);refine qQ (fun W=>Code.wp _ _ _ _ W) fun w1 i bx1 rx1 s => ?_;have h1:=h.below i;have s1:=(MS.refl w b S).below i;have n:=Lib.hid (h.new (az _));have m:=Lib.hid (h.new (yc _));clear h
 go_loopw [5] (fun k wr => ∃(q:Nat) (P:Page) (a:Option Addr) (c:Nat) (l:List UInt8),q≤8∧k = .int .i64 q∧eD wr B b (S.lst a c l)∧MS w b S wr (S.lst a c l)∧aA wr w.heap.size (fQ zPg) 79∧aA wr (w.heap.size+1) (fQ P) 79) (fun k _=>8-(intOf k).toNat)
 case atStart=>exact⟨0,zPg,S.al,S.cl,S.l,aW _,rfl,h1,s1,bx1,rx1⟩
 case round=>
  clear h1 s1 bx1 rx1 i s;obtain⟨q,P,a,c,l,hq,rfl,hm,hs,bx,rx⟩:=hrel;have hb:w.heap.size+2≤wr.heap.size:=rx.lt
  by_cases hq8:q<8
  ·have t:(q:Int)<8:=by omega
   go_wp2_with fail
   refine (fD _ 4 B b _ hm (by omega)).mono ?_;rintro r w2 ⟨x,a2,c2,l2,rfl,g,f,hx,_⟩;rw[oq] at g f;have bx2:=f.blkN bx n.out;have rx2:=f.blkN rx m.out;have j:=hs.trans f;obtain⟨x,rfl⟩:∃y:UInt8,x=(y.toNat:Int):=⟨UInt8.ofNat x.toNat,by rw[Ic];omega⟩;have ha:((x.toNat:Nat):Int)<256:=hx.2.1;clear hm hs bx rx f hx
   go_wp2_with (refine aD rfl _ _ _ rfl (w.heap.size+1) q _ [.int .u8 x.toNat] rfl rfl rfl _ _ rx2 (by show q+1≤8;omega) (by kernel_rfl) (fun u hu=>by cases bv.1 hu;rfl) ?_)
   intro w3 rx3 d;rw[Pw.putAt_one,Dg _ q hq8] at rx3;have z:=g.locT rx2 (by decide) m.out (by have:=o.out;omega) d;have p:=j.loc d (yc _);have bx3:=bx2.grown d (fun e=>by have:=aJ e;omega);clear g j bx2 rx2 d;go_wp2;go_roundw
   case rel=>exact⟨q+1,_,a2,c2,l2,by omega,by go_num,z,p,bx3,rx3⟩
   case measure=>simp[intOf];omega
  have t:¬(q:Int)<8:=by omega
  go_wp2_with (first | (refine ax _ _ rfl (w.heap.size+1) 0 rfl rfl _ rx.rd _ underlying79 rfl psize ?_) | (refine ay rfl _ _ _ rfl w.heap.size (fQ P) rfl rfl _ _ bx rfl psize (fT _) ?_))
  intro w3 bx3 d;go_wp2;refine bodyPost_ret (v:=.agg (fQ P)) (eO results33 _ _ w.heap.size _ _ _ rfl bx3 underlying79 rfl psize) rfl ?_;exact⟨P,a,c,l,rfl,hm.locT bx (by decide) n.out (by have:=o.out;omega) d,hs.loc d (az _)⟩
def MW.frs (S:MW) (fs:List Fr):MW:={ S with H:={ S.H with m:=⟨fs,S.H.m.hand⟩ } }
def WH (S:MW) (f:Fr) (B b:Nat) (w:World) (r:Ending) (w' : World):Prop:=∃x a c l fs,r = .returned (.int .i64 x)∧eD w' B b ((S.lst a c l).frs fs)∧MS w b S w' ((S.lst a c l).frs fs) ∧
   ((x = -1∧fs=S.H.m.fs)∨∃j:Nat,x=j∧j<S.H.m.fs.length∧(aR S.H.ma j).r=0∧fs=S.H.m.fs.set j f)
theorem DK (S:MW) (f:Fr) (B b:Nat) (w:World) (h:eD w B b S) (hz:S.H.m.fs.length≤1000) :
  Calls Tryz.prog 106 #[.pointer (some ⟨b,0,none⟩),.agg (vv f)] w (WH S f B b w):=by
 go_enter func106,ntmps106;go_upto_region 1 with (fail);refine gF (fun W=>Code.wp _ _ _ _ W) fun w1 hh bx1 hy => ?_;have h1:=h.below hh;have s1:=(MS.refl w b S).below hh;have hl:=Lib.hid (h.new (az _));have hJ:=Lib.hid h.bs;have hc:=h1.blk.cell;unfold ja at hc;clear h hh
 go_wp2_with fail
 refine (fD _ _ B b _ h1 (by omega)).mono ?_;rintro r w2 ⟨x,a2,c2,l2,rfl,c,t,hx,_⟩;have bx2:=t.blkN bx1 hl.out;have s:=s1.trans t;clear h1 s1 hc t bx1 hy;go_upto_region 4 with (fail);generalize hnn:S.H.m.fs.length=n at *
 go_loopw [20] (fun k wr => ∃q:Nat,q≤n∧k = .int .i64 q∧wr=w2) (fun k _=>n-(intOf k).toNat)
 case atStart=>exact⟨0,aW _,rfl,rfl⟩
 case round=>
  obtain⟨q,hq,rfl,rfl⟩:=hrel;have hc:=c.blk.cell;unfold ja at hc;dsimp only[MW.lst] at hc;rw[hnn] at hc
  by_cases hqn:q<n
  ·have hA:(q:Int)<(n:Int):=by omega
   obtain⟨X,rfl⟩:=fO hx.1;have hG:(X:Int)<256:=hx.2.1;obtain⟨j,hC,hj⟩:∃j:Nat,j<n∧((X:Int)+(q:Int))%(n:Int)=j:=⟨(X+q)%n,qR _ (by omega),by rw[←Int.natCast_add,←Iy]⟩;have hI:(j:Int)<(n:Int):=by omega
   obtain⟨g,off,cap,cur,hv,hE,hg,hD,z,hs⟩:=c.ma.fr.put eZ (by decide) j (by show j<S.H.m.fs.length;omega);have l:S.H.af=some ⟨g,off,none⟩:=(nJ hv).1;rw[l] at hc;have c8:wr.cell? ⟨g,off+j*13+8,none⟩=some (.int .i64 (S.H.m.fs[j]'(by omega)).r):=z 8 _ rfl;have ht:Hid (aR S.H.ma j=S.H.m.fs[j]'(by omega)):=Lib.hid (by unfold aR;show S.H.m.fs.getD j fr0=_;rw[aV,aI (by omega)];rfl);clear hv;have hp:=Lib.hid hs;have hF:=Lib.hid z;clear hs z;generalize S.H.m.fs[j]'(by omega)=Y at c8 ht
   by_cases hr:Y.r=0
   ·rw[hr] at c8;have hH:g≠w.heap.size:=fun e=>hl.out (.inr (by rw[←e];simp[iA,l,oB];left;rfl));go_upto_region 8 with (fail);refine aK 9 [_,_,_,_,_,_,.v (.int .i64 (j:Int)),_,_] (Gk rfl (Gk rfl (Gf b 1 rfl rfl (Gf b 1 rfl rfl (Gf b 1 rfl rfl (Gl c.blk (V:=.slice (some ⟨g,off,none⟩) n S.H.cf) (by simp[ja,MW.lst,l,hnn]) rfl rfl rfl rfl (ag ?_ (Gr (.agg #[.int .u8 f.p[0].toNat,.int .u8 f.p[1].toNat,.int .u8 f.p[2].toNat,.int .u8 f.p[3].toNat,.int .u8 f.p[4].toNat,.int .u8 f.p[5].toNat,.int .u8 f.p[6].toNat,.int .u8 f.p[7].toNat,.int .i64 f.r,.bool f.u,.bool f.d,.int .i64 f.f,.int .i64 f.i]) (fun ρ y W hb o=>(bF rfl (aC rfl o) (bL (bx2.ext hb) 0 13) underlying81 rfl (by kernel_rfl))) rfl rfl (Gr (.pointer (some ⟨g,off+j*13,none⟩)) (fun ρ y W hb o=>(bG rfl (aC rfl o) (aC rfl o) hC underlying26 frame_size)) rfl rfl (aB)))))))))) (fun _=>rfl) rfl ?_
    ·intro ρ y W hw hn hb hd;have E8:ρ (.tmp 8) = .int .i64 (j:Int):=(hn (.tmp 8) rfl).trans (by show Value.int IntKind.i64 (((X:Int)+(q:Int))%(n:Int))=_;rw[hj]);refine aj (.int .i64 (j:Int)) (ah rfl) (run_move (.inl rfl) E8) rfl
    intro y W3 a _;have hm:=c.below a;have hf:=hg.ext a;have hi:=s.below a;clear c bx2 s a hg hc c8
    go_wp2_with (refine aD rfl _ _ _ rfl g (off+j*13) _ (qz f) rfl rfl rfl _ _ hf (by rw[eZ];exact hD) (by kernel_rfl) (bV (nY f)) ?_)
    intro w4 h4 ha;have hk:=hp.out _ f h4;have hB:=hm.putF hf hE ha (fs:=S.H.m.fs.set j f) (by simp[MW.lst]) (by simpa[MW.lst] using hk);have hu:=hi.put ha (H':=(S.lst a2 c2 l2).frs (S.H.m.fs.set j f)) (.inr (by simp[iA,MW.lst,l,oB];left;rfl)) (fun x hx => .inl hx);clear hm hi hf ha h4 hk;go_wp2;go_ret;exact⟨j,a2,c2,l2,_,rfl,hB,hu,.inr ⟨j,rfl,by omega,by rw[ht.out];exact hr,rfl⟩⟩
   go_wp2;go_roundw
   case rel=>exact⟨q+1,by omega,by go_num,by first | rfl | trivial⟩
   case measure=>simp[intOf];omega
  have hA:¬(q:Int)<(n:Int):=by omega
  go_wp2;go_ret;exact⟨-1,a2,c2,l2,S.H.m.fs,rfl,c,s,.inl ⟨rfl,rfl⟩⟩
theorem Gd (d:oD) (k:Int) (ab:Option Addr) (cb:Nat) (aq:Option Addr) (cq:Nat) (w:World) (h:LD w ab cb aq cq d) :
  Calls Tryz.prog 87 #[.agg #[.slice ab d.blocks.length cb,.slice aq d.queue.length cq],.int .i64 k] w fun e w'=>e = .returned (.tuple #[.agg (fQ (jc d k)),.int .i64 (aN d k)])∧Below w.heap.size w w':=by
 go_enter func87,ntmps87
 go_wp2_with fail
 refine qQ (fun W=>Calls _ _ _ W _) fun W0 z hb hf hq => ?_;refine (xx d ab cb aq cq _ (h.below z)).mono ?_;rintro e w1 ⟨rfl,t⟩;have a:=ae z t;have v:=hb.ext t;have g:=hf.ext t;have h1:=h.below a;clear hb hf t z hq;have lq:=aY h1.lq h1.mq;unfold maxLen at lq;have hu:=v.cell
 by_cases hw:bi d=0
 ·rw[hw]
  by_cases hk:k<0∨(d.blocks.length:Int)≤k
  ·have q1:aN d k=3:=by unfold aN;rw[if_neg (by omega),if_pos hk]
   have q2:fQ (jc d k)=#[.int .u8 0,.int .u8 0,.int .u8 0,.int .u8 0,.int .u8 0,.int .u8 0,.int .u8 0,.int .u8 0]:=by unfold jc;rw[q1];rfl
   rcases hk with hk|hk
   all_goals
    go_wp2_with (refine ay rfl _ (.tmp 4) (.tmp 25) rfl (w.heap.size+1) #[.int .u8 0,.int .u8 0,.int .u8 0,.int .u8 0,.int .u8 0,.int .u8 0,.int .u8 0,.int .u8 0] rfl rfl _ _ g zz_fit zz_info zz_one ?_)
    all_goals
     intro w2 y l;have f:=a.grown l a.size (fun k hk=>by cases hk;omega);have q:=y.cell;go_wp2;simp[bodyPost,results,go_sem,results87,q,q1,q2];exact f
  obtain⟨k,rfl⟩:=fO (show 0≤k by omega);have hl:k<d.blocks.length:=by omega
  have k1:¬(d.blocks.length:Int)≤(k:Int):=by omega
  have kz:(k:Int)<(d.blocks.length:Int):=by omega
  have q1:aN d k=0:=by unfold aN;rw[if_neg (by omega),if_neg hk]
  have q2:jc d k=over k d.blocks[k] d.queue:=by unfold jc;rw[q1,if_pos rfl];simp[hl]
  have Q:=Lib.hid (And.intro q1 q2);have hy:w.heap.size+2≤w1.heap.size:=by have:=g.lt;omega
  clear hk q1 q2;have hd:decide (d.blocks.length≤k)=false:=by simp;omega
  obtain⟨b,off,rfl,hc⟩:=UK h1.rb k hl;have c0:=hc 0 (by decide);have c1:=hc 1 (by decide);have c2:=hc 2 (by decide);have c3:=hc 3 (by decide);have c4:=hc 4 (by decide);have c5:=hc 5 (by decide);have c6:=hc 6 (by decide);have c7:=hc 7 (by decide);simp only[fQ,vV,qx,yn,iH] at c0 c1 c2 c3 c4 c5 c6 c7;clear hc;go_upto_region 7 with (fail);refine gF (fun W=>Code.wp _ _ _ _ W) fun w2 s hi hn => ?_;have f:=ae a s;have ha:=v.ext s;have o:=g.ext s;have u : aA w2 w1.heap.size (fQ d.blocks[k]) 79:=hi;clear a v g h1 s hi hn hu c0 c1 c2 c3 c4 c5 c6 c7;have ht:=ha.cell;go_wp2;clear ht ha
  go_loopw [34] (fun i wr => ∃j:Nat,j≤d.queue.length∧i = .int .i64 j∧Below w.heap.size w wr∧aA wr (w.heap.size+1) #[.int .u8 0,.int .u8 0,.int .u8 0,.int .u8 0,.int .u8 0,.int .u8 0,.int .u8 0,.int .u8 0] 79∧aA wr w1.heap.size (fQ (over k d.blocks[k] (d.queue.take j))) 79) (fun i _=>d.queue.length-(intOf i).toNat)
  case atStart=>exact⟨0,aW _,rfl,f,o,u⟩
  case round=>
   clear f o u;obtain⟨j,hj,rfl,c,n,hp⟩:=hrel
   by_cases hlt:j<d.queue.length
   ·obtain⟨b',off',rfl,hc⟩:=Ed (h.below c).rq j hlt;have c0:=hc 0 (by decide);have c1:=hc 1 (by decide);have c2:=hc 2 (by decide);have c3:=hc 3 (by decide);have c4:=hc 4 (by decide);have c5:=hc 5 (by decide);have c6:=hc 6 (by decide);have c7:=hc 7 (by decide);have c8:=hc 8 (by decide);simp only[FK,vV,qx,yn,iH] at c0 c1 c2 c3 c4 c5 c6 c7 c8;clear hc;have r:=Lib.hid (Hl (k:Int) d.blocks[k] d.queue j hlt)
    by_cases he:d.queue[j].1=(k:Int)
    ·have p : Hid (over (k:Int) d.blocks[k] (d.queue.take (j+1))=d.queue[j].2):=by have:=r.out;rw[if_pos he] at this;exact this
     rw[he] at c0;clear r he;have hh:=hp.alloc (.cells #[.int .i64 k,.int .u8 d.queue[j].2[0].toNat,.int .u8 d.queue[j].2[1].toNat,.int .u8 d.queue[j].2[2].toNat,.int .u8 d.queue[j].2[3].toNat,.int .u8 d.queue[j].2[4].toNat,.int .u8 d.queue[j].2[5].toNat,.int .u8 d.queue[j].2[6].toNat,.int .u8 d.queue[j].2[7].toNat] 86)
     go_wp2_with (refine ay rfl _ (.tmp 7) (.tmp 43) rfl w1.heap.size (fQ d.queue[j].2) rfl rfl _ _ hh (Vg _ _) (zL _) (fT _) ?_)
     intro w4 hs l;have m:=(c.alloc c.size _).grown l (cK c.size _) (fun k hk=>by cases hk;omega);have x:=(n.alloc _).grown l (fun he=>by have:=aJ he;omega);clear hh hp c n l c0 c1 c2 c3 c4 c5 c6 c7 c8;go_wp2;go_roundw
     case rel=>exact⟨j+1,by omega,by go_num,m,x,by rw[p.out];exact hs⟩
     case measure=>simp[intOf];omega
    have p : Hid (over (k:Int) d.blocks[k] (d.queue.take (j+1))=over (k:Int) d.blocks[k] (d.queue.take j)):=by have:=r.out;rw[if_neg he] at this;exact this
    have hx:(d.queue[j].1==(k:Int))=false:=by simpa using he
    clear r he;go_wp2;go_roundw
    case rel=>exact⟨j+1,by omega,by go_num,c.alloc c.size _,n.alloc _,by rw[p.out];exact hp.alloc _⟩
    case measure=>simp[intOf];omega
   rw[iJ (show d.queue.length≤j by omega)] at hp;have hg:=Q.out.2;rw[←hg] at hp;have hm:=hp.cell;rw[NZ] at hm;clear hg
   go_wp2_with (refine ay rfl _ (.tmp 4) (.tmp 45) rfl (w.heap.size+1) (fQ (jc d k)) rfl rfl _ _ n (VQ _) (zL _) (fT _) ?_)
   intro w4 hr l;have m:=c.grown l c.size (fun k hk=>by cases hk;omega);have q:=hr.cell;obtain⟨e0,e1,e2,e3,e4,e5,e6,e7⟩:=HY (jc d k);clear hm;go_wp2;simp[bodyPost,results,go_sem,results87,q,e0,e1,e2,e3,e4,e5,e6,e7,Q.out.1];exact⟨rfl,m⟩
 have q1:aN d k=bi d:=by unfold aN;rw[if_pos hw]
 have q2:fQ (jc d k)=#[.int .u8 0,.int .u8 0,.int .u8 0,.int .u8 0,.int .u8 0,.int .u8 0,.int .u8 0,.int .u8 0]:=by unfold jc;rw[q1,if_neg hw];rfl
 have hv : (bi d != 0)=true:=by simpa using hw
 go_wp2_with (refine ay rfl _ (.tmp 4) (.tmp 14) rfl (w.heap.size+1) #[.int .u8 0,.int .u8 0,.int .u8 0,.int .u8 0,.int .u8 0,.int .u8 0,.int .u8 0,.int .u8 0] rfl rfl _ _ g zz_fit zz_info zz_one ?_)
 intro w2 y l;have f:=a.grown l a.size (fun k hk=>by cases hk;omega);have q:=y.cell;go_wp2;simp[bodyPost,results,go_sem,results87,q,q1,q2];exact f
theorem TS {o:Nat} (h:dI w (some ⟨b,o,none⟩) (xs++ys)):dI w (some ⟨b,o,none⟩) xs:=fun i u hi=>h i u (by
 rw[lm (dn.1 hi).1];exact hi)
theorem Uj (x:Fr):∃ys,qz x=BC x.p++ys:=⟨_,rfl⟩
theorem Qh {l:List Cc} {c:Cc} {f i:Int} (hc:l[q]?=some c) (hno:∀d∈l.take q,¬(d.f=f∧d.i=i)) (hy:c.f=f∧c.i=i):l.find? (fun c=>decide (c.f=f)&&decide (c.i=i))=some c:=by
 rw[←qN q l,List.find?_append,pK.2 (fun d hd=>by have:=hno d hd;simp only[dU,decide_eq_true_eq];exact this)];rw[vG (dn.1 hc).1,(dn.1 hc).2,List.find?_cons,hy.1,hy.2];simp
theorem Eh {l:List Cc} {f i:Int} (hno:∀d∈l,¬(d.f=f∧d.i=i)):l.find? (fun c=>decide (c.f=f)&&decide (c.i=i))=none:=
 pK.2 (fun d hd=>by have:=hno d hd;simp only[dU,decide_eq_true_eq];exact this)
theorem wD (H:MH) (f i:Int) (w:World) (h:BH w H) (hz:H.ca.length≤1000∧∀f∈H.ma.st.fs,f.b.length≤1000) (hck:∀c∈H.ca,0≤c.k∧c.k<H.m.fs.length) (hf:0≤f∧f<H.fi.length) (hi:0≤i∧i<(aM H.ma.st f).b.length) :
  Calls Tryz.prog 54 #[.agg (bS H),.int .i64 f,.int .i64 i] w fun r w'=>r = .returned (.agg (fQ (bC H.ma f i)))∧Below w.heap.size w w':=by
 have z7:H.ca.length≤1000:=hz.1;go_enter func54,ntmps54;go_upto_region 1 with (fail);refine qQ (fun W=>Code.wp _ _ _ _ W) fun w1 hR bx1 rx1 hW => ?_;clear hW;have hr:=bx1.cell;unfold bS at hr;go_upto_region 2 with (fail);clear hr
 go_loopw [16] (fun k wr => ∃q:Nat,q≤H.ca.length∧k = .int .i64 q∧Below w.heap.size w wr∧aA wr w.heap.size (bS H) 41∧aA wr (w.heap.size+1) (fQ zPg) 79∧Hid (∀d∈H.ca.take q,¬(d.f=f∧d.i=i))) (fun k _=>H.ca.length-(intOf k).toNat)
 case atStart=>exact⟨0,aW _,rfl,hR,bx1,rx1,Lib.hid (by simp)⟩
 case round=>
  clear hR bx1 rx1;obtain⟨q,hq,rfl,g,bx,rx,hv⟩:=hrel
  by_cases hql:q<H.ca.length
  ·obtain⟨bc,oc,h0,t⟩:=Bc (h.below g).ca.rd q hql;obtain⟨c,hc⟩:∃c,H.ca[q]?=some c:=⟨_,aI hql⟩;rw[show H.ca[q]=c from (dn.1 hc).2] at t;have hY:(q:Int)<(H.ca.length:Int):=by omega
   have hC:=hck c (bN hc);have hO:=Lib.hid hc;clear hc;rw[h0]
   go_wp2_with (first | (refine ax _ _ rfl bc (oc+q*3) rfl rfl _ t _ underlying106 rfl cached_size ?_) | (refine aF rfl _ _ _ rfl (Bf c) rfl rfl rfl cached_size (wm c) ?_))
   intro w3 hA cx3;have ha:=ae g hA;have bx3:=bx.ext hA;have rx3:=rx.ext hA;have s:=cx3.cell;have kc:=rx3.lt;clear g bx rx hA t;unfold Bf at s
   by_cases hy:c.f=f∧c.i=i
   ·obtain⟨ht,hD⟩:=hy;obtain⟨k,hk⟩:=fO hC.1;have hL:k<H.m.fs.length:=by have:=hC.2;omega
    obtain⟨bf,of,h3,hg⟩:=jH eZ (by decide) (h.below ha).fr.rd k hL;have hM:(k:Int)<(H.m.fs.length:Int):=by omega
    have o:Hid (bC H.ma f i=(H.m.fs[k]).p):=Lib.hid (by unfold bC;rw[show H.ma.ca.find? (fun c=>decide (c.f=f)&&decide (c.i=i))=some c from Qh hO.out hv.out ⟨ht,hD⟩];show (H.m.fs.getD c.k.toNat fr0).p=_;rw[hk,aV,show ((k:Nat):Int).toNat=k from rfl,aI hL];rfl);generalize H.m.fs[k]=X at hg o;obtain⟨ys,hI⟩:=Uj X;rw[hI] at hg;have hK:=TS hg;have hZ:w3.cell? ⟨w.heap.size,0,none⟩=some (.slice (some ⟨bf,of,none⟩) H.m.fs.length H.cf):=by rw[bx3.cell,←h3];rfl
    rw[ht,hD,hk] at s;clear hg hI
    go_wp2_with (first | (refine ax _ _ rfl bf (of+k*13) rfl rfl _ hK _ underlying79 rfl psize ?_) | (refine ay rfl _ _ _ rfl (w.heap.size+1) (fQ X.p) rfl rfl _ _ rx3 rfl psize (fT X.p) ?_))
    intro w4 rx4 hF;have y:=ha.grown hF ha.size (fun k hk=>by cases hk;omega);clear s hZ;go_wp2;refine bodyPost_ret (v:=.agg (fQ X.p)) (eO results54 _ _ (w.heap.size+1) _ _ _ rfl rx4 underlying79 rfl psize) rfl ?_;exact⟨by rw[o.out],y⟩
   have hB : Hid (∀d∈H.ca.take (q+1),¬(d.f=f∧d.i=i)):=Lib.hid fun d hd=>by
    rw[take_at hO.out] at hd;rcases fV.1 hd with hd|hd
    ·exact hv.out d hd
    ·rw[bv.1 hd];exact hy
   by_cases ht:c.f=f
   ·have hD:¬c.i=i:=fun e=>hy ⟨ht,e⟩;clear hy;go_wp2;go_roundw
    case rel=>exact⟨q+1,by omega,by go_num,ha,bx3,rx3,hB⟩
    case measure=>simp[intOf];omega
   clear hy;go_wp2;go_roundw
   case rel=>exact⟨q+1,by omega,by go_num,ha,bx3,rx3,hB⟩
   case measure=>simp[intOf];omega
  have hY:¬(q:Int)<(H.ca.length:Int):=by omega
  rw[iJ (by omega)] at hv;have s:=bx.cell;unfold bS at s;obtain⟨F,rfl⟩:=fO hf.1;obtain⟨I,rfl⟩:=fO hi.1;have hV:F<H.fi.length:=by omega
  obtain⟨bf,of,hH,t⟩:=jH jF (by decide) h.st.rd F hV;obtain⟨p,hp⟩:∃p,H.fi[F]?=some p:=⟨_,aI hV⟩;rw[show H.fi[F]=p from (dn.1 hp).2] at t;have hJ:=Lib.hid t;have t:=t.below g;have hm:=(h.below g).st.good p (bN hp);have hn:aM H.ma.st (F:Int)=p.fi:=by unfold aM;rw[if_pos (by omega)];show (H.fi.map PF.fi).getD F ⟨0,[]⟩=p.fi;rw[aV,iU,hp];rfl
  rw[hn] at hi;have hU:I<p.l.length:=by have h2:=hi.2;have e:p.fi.b.length=p.l.length:=rfl;omega
  have h9:p.l.length≤1000:=hz.2 p.fi (fP.2 ⟨p,bN hp,rfl⟩);obtain⟨bb,ob,hE,hr⟩:=jD hm.rd I hU;obtain⟨x,hX⟩:∃x,p.l[I]?=some x:=⟨_,aI hU⟩;rw[show p.l[I]=x from (dn.1 hX).2] at hr;have hb:bM H.ma.st (F:Int) (I:Int)=x:=by unfold bM;rw[hn];show p.l.getD I 0=x;rw[aV,hX];rfl
  have rc:∀j u,(qF p)[j]?=some u→wr.cell? ⟨bf,of+F*2+j,none⟩=some u:=fun j u hj=>by obtain⟨b',o',e,hG⟩:=t j u hj;cases e;exact hG
  have rc0:wr.cell? ⟨bf,of+F*2,none⟩=some (.int .i64 p.n):=rc 0 _ rfl;have rc1:wr.cell? ⟨bf,of+F*2+1,none⟩=some (.slice p.a p.l.length p.c):=rc 1 _ rfl;have o:Hid (bC H.ma F I=if 0≤x then fJ (jc H.dk x) (p.n-(I:Int)*8) else zPg):=Lib.hid (by unfold bC;rw[show H.ma.ca.find? (fun c=>decide (c.f=(F:Int))&&decide (c.i=(I:Int)))=none from Eh hv.out,hb,hn];rfl);have ke:(F:Int)<(H.fi.length:Int):=by omega
  have kd:(I:Int)<(p.l.length:Int):=by omega
  rw[hE] at rc1;rw[hH] at s;have h4:=Lib.hid t;have hS:=Lib.hid hH;have h5:=Lib.hid hE;have h6:=Lib.hid hn;clear rc t hH hE hn hp hX hb hi hm
  by_cases hx:x<0
  ·go_wp2_with (refine ay rfl _ _ _ rfl (w.heap.size+1) (fQ zPg) rfl rfl _ _ rx rfl psize (fT _) ?_)
   intro w4 rx4 hF;have y:=g.grown hF g.size (fun k hk=>by cases hk;omega);clear s;go_wp2;refine bodyPost_ret (v:=.agg (fQ zPg)) (eO results54 _ _ (w.heap.size+1) _ _ _ rfl rx4 underlying79 rfl psize) rfl ?_;exact⟨by rw[o.out,if_neg (by omega)],y⟩
  go_wp2_with (refine ax _ _ rfl w.heap.size 5 rfl rfl _ (bL bx 5 2) _ underlying34 rfl disk_size ?_)
  refine (Gd H.dk x _ _ _ _ _ (h.below g).dk).mono ?_;rintro r w4 ⟨rfl,y⟩;have hN:=aA.new w4 (fQ zPg) 79;have hb:Below w4.heap.size w4 (w4.alloc (.cells (fQ zPg) 79)):=(Below.refl _ _).alloc (az _) _;have kb:=y.size;have ka:=rx.lt;have bx5:=(bx.ext y).ext hb;have rx5:=(rx.ext y).ext hb;have hs:=ae (ae g y) hb;clear s hr rc0 rc1 bx rx g
  go_wp2_with (refine ay rfl _ _ _ rfl w4.heap.size (fQ (jc H.dk x)) rfl rfl _ _ hN rfl psize (fT _) ?_)
  intro w5 px6 hw;have hQ:=hs.grown hw hs.size (fun k hk=>by cases hk;omega);have bx6:=bx5.grown hw (fun e=>by have:=aJ e;omega);have rx6:=rx5.grown hw (fun e=>by have:=aJ e;omega);clear hN hb bx5 rx5 hs hw y;generalize jc H.dk x=P at px6 o;generalize hp4:w4.heap.size=p4 at *
  clear hp4;go_upto_region 12 with (fail)
  go_loopw [59] (fun j wr => ∃k:Nat,k≤8∧j = .int .i64 k∧Below w.heap.size w wr∧aA wr w.heap.size (bS H) 41∧aA wr (w.heap.size+1) (fQ zPg) 79∧aA wr p4 (fQ (iX P (p.n-(I:Int)*8) k)) 79) (fun j _=>8-(intOf j).toNat)
  case atStart=>exact⟨0,by omega,rfl,hQ,bx6,rx6,by rw[show iX P (p.n-(I:Int)*8) 0=P from by ext j hj;simp[iX]];exact px6⟩
  case round=>
   clear hQ bx6 rx6 px6;obtain⟨k,hk,rfl,g,bx,rx,px⟩:=hrel
   by_cases hk8:k<8
   ·have hM:(k:Int)<8:=by omega
    have s:=bx.cell;unfold bS at s;rw[hS.out] at s;have rc0:wr.cell? ⟨bf,of+F*2,none⟩=some (.int .i64 p.n):=by obtain⟨b',o',e,hG⟩:=(hJ.out.below g) 0 _ rfl;cases e;exact hG
    have h8:IntKind.i64.wrap (8*(I:Int))=8*(I:Int):=bO _ (by omega);have h7:IntKind.i64.wrap (8*(I:Int)+(k:Int))=8*(I:Int)+(k:Int):=bO _ (by omega)
    by_cases hge:p.n≤8*(I:Int)+k
    ·have z:Hid ((fQ (iX P (p.n-(I:Int)*8) k)).setIfInBounds k (.int .u8 0)=fQ (iX P (p.n-(I:Int)*8) (k+1))):=Lib.hid (by rw[←BI P _ k hk8 (by omega)];exact Dg _ k hk8 0);generalize hT:iX P (p.n-(I:Int)*8) k=T at px z;clear hT
     go_wp2_with (refine aD rfl _ _ _ rfl p4 k _ [.int .u8 0] rfl rfl rfl _ _ px (by show k+1≤8;omega) (by kernel_rfl) (fun u hu=>by cases bv.1 hu;rfl) ?_)
     intro w7 px7 hl;rw[Pw.putAt_one,z.out] at px7;have hP:=g.grown hl g.size (fun k hk=>by cases hk;omega);have bx7:=bx.grown hl (fun e=>by have:=aJ e;omega);have rx7:=rx.grown hl (fun e=>by have:=aJ e;omega);clear g bx rx px hl s rc0;go_wp2;go_roundw
     case rel=>exact⟨k+1,by omega,by go_num,hP,bx7,rx7,px7⟩
     case measure=>simp[intOf];omega
    have z:iX P (p.n-(I:Int)*8) k=iX P (p.n-(I:Int)*8) (k+1):=by
     ext j hj
     simp only[iX,rU]
     by_cases e:p.n-(I:Int)*8≤(j:Int)
     ·rw[if_neg (by omega),if_neg (by omega)]
     ·rw[if_neg (by omega),if_neg (by omega)]
    rw[z] at px;clear z;go_wp2;go_roundw
    case rel=>exact⟨k+1,by omega,by go_num,g,bx,rx,px⟩
    case measure=>simp[intOf];omega
   have hM:¬(k:Int)<8:=by omega
   rw[Bu _ _ k (by omega)] at px;have hh : Hid (bC H.ma F I=fJ P (p.n-(I:Int)*8)):=Lib.hid (by rw[o.out,if_pos (by omega)]);generalize fJ P (p.n-(I:Int)*8)=C at px hh
   go_wp2_with (first | (refine ax _ _ rfl p4 0 rfl rfl _ px.rd _ underlying79 rfl psize ?_) | (refine ay rfl _ _ _ rfl (w.heap.size+1) (fQ C) rfl rfl _ _ rx rfl psize (fT _) ?_))
   intro w7 rx7 hl;have h1:=g.grown hl g.size (fun k hk=>by cases hk;omega);go_wp2;refine bodyPost_ret (v:=.agg (fQ C)) (eO results54 _ _ (w.heap.size+1) _ _ _ rfl rx7 underlying79 rfl psize) rfl ?_;exact⟨by rw[hh.out],h1⟩
theorem Kq (s x:Operand) (t:TypeId) (ho:o.op=Op.call { callee:=Callee.builtin Builtin.append,args:=#[s,x],argTypes:=#[t,t] })
 (B:Nat) (e:TypeId) (z:Value) (size bytes:Nat) (h1:P.underlying t=some (.slice e)) (h2:(P.info? e).map (fun i=>(i.zero,i.size,i.bytes))=some (some z,size,bytes)) (h6:z.cells.size=size) (h7:0<size)
 (g:Nat) (hs:ρ s = .slice (some ⟨g,0,none⟩) 0 0) (hown:Own w B e size (.slice (some ⟨g,0,none⟩) 0 0) 0 [])
 (ao:Option Addr) (m c:Nat) (news:List Value) (hx:ρ x = .slice ao m c) (hnone:ao=none→c=0) (hmc:m≤c) (hn:news.length=m*size) (hrd:dI w ao news)
 (b1:m≤maxLen) (b2:m*bytes≤140737488355328) (hB:B≤w.heap.size) :
  ∃v' w',(execOp ρ o).run P w = .ok (.value v') w'∧Below w.heap.size w w'∧Own w' B e size v' m news:=by
 obtain⟨ii,hi,hz,a,l⟩:=info_parts h2;rcases sS m with h0|h0
 ·subst h0;obtain rfl:news=[]:=jW (by simpa using hn);refine⟨.slice (some ⟨g,0,none⟩) 0 0,w,?_,Below.refl _ _,hown⟩;cases ao with
  | none=>simp[execOp,ho,resolve,invoke,builtin,hs,hx,Builtin.append_,run_underlying h1,Go.sizeOf,typeInfo,hi,Builtin.lenOf,Builtin.firstCells,storeCells,Result.andThen]
  | some ad=>simp[execOp,ho,resolve,invoke,builtin,hs,hx,Builtin.append_,run_underlying h1,Go.sizeOf,typeInfo,hi,Builtin.lenOf,Builtin.firstCells,storeCells,loadCells,loadCellsFrom,Result.andThen]
 obtain⟨b,off,rfl,hc⟩:=hrd.at (by rw[hn];exact Nat.mul_pos h0 h7);obtain⟨v',w',hr,d,k⟩:=run_append_arg_grows (P:=P) w t o.type e ii z size bytes h1 hi hz a l h6 h7 ⟨g,0,none⟩ 0 0 [] (by simp) (fun j u h=>by simp at h) ⟨b,off,none⟩ m c news hn (fun j u hj=>by rw[sO];exact hc j u hj) (by omega) (by omega) (by rw[dZ];exact b2);have f : Own w' B e size v' m news:=by have:=(Own.of_owns d).mono hB;simpa using this
 refine⟨v',w',?_,ku k,f⟩;simp[execOp,ho,resolve,invoke,builtin,hs,hx,hr,Result.andThen]
theorem jJ {l:List lT} {J:(Nat→Bool)→(Nat→Value)→World→Prop} {D:Value→World→Prop} (hw:Region.wanted o (gN ρ ops)=true) (h:∃v' w',(execOp ρ o).run P w = .ok (.value v') w'∧D v' w')
 (hJ:∀v w',D v w'→J (bY L i) (dB y i v) w') (hR:∀v w',D v w'→rl l i v w') :
  if Region.wanted o (gN ρ ops)=true then dP P o ρ w (fun v w'=>J (bY L i) (dB y i v) w'∧rl l i v w') else J (bY L i) (dB y i undef) w∧rl l i undef w:=by
 obtain⟨v,w',h1,h2⟩:=h;exact eu v hw h1 (hJ _ _ h2) (hR _ _ h2)
theorem RX {l:List lT} {D:Value→Prop} (hw:Region.wanted o (gN ρ ops)=true) (h:∃v,(execOp ρ o).run P w = .ok (.value v) w∧D v) (hR:∀v,D v→rl l i v w) :
  if Region.wanted o (gN ρ ops)=true then dP P o ρ w (fun v w'=>Below w.heap.size w w'∧rl l i v w') else rl l i undef w:=by
 obtain⟨v,h1,h2⟩:=h;exact aj v hw h1 (hR _ h2)
theorem GZ {α:Type} (enc:α→List Value) (sz:Nat) (hsz:∀x,(enc x).length=sz):∀(l:List α) (k:Nat),(l.flatMap enc).take (k*sz)=(l.take k).flatMap enc
 | [],k=>by simp
 | x::l,0=>by simp
 | x::l,k+1=>by rw[lX,List.take_succ_cons,lX,Dh,Iw,List.take_append,hsz,iJ (by rw[hsz];omega),AO,GZ enc sz hsz l k]
theorem GA {α:Type} (enc:α→List Value) (sz:Nat) (hsz:∀x,(enc x).length=sz):∀(l:List α) (k:Nat),(l.flatMap enc).drop (k*sz)=(l.drop k).flatMap enc
 | [],k=>by simp
 | x::l,0=>by simp
 | x::l,k+1=>by rw[lX,Aw,Dh,Iw,List.drop_append,hsz,qA (by rw[hsz];omega),Ii,AO,GA enc sz hsz l k]
theorem JX (l:List Cc) (c:Cc) (q:Nat) (hq:q≤l.length):((l.flatMap mE).take (q*3)++mE c)++(l.flatMap mE).drop (q*3)=(l.insertIdx q c).flatMap mE:=by
  rw[GZ mE 3 pR,GA mE 3 pR];have:∀(l:List Cc) (q:Nat),q≤l.length→l.insertIdx q c=l.take q++c::l.drop q:=by
    intro l
    induction l with
    | nil=>intro q hq;obtain rfl:q=0:=by simpa using hq
           rfl
    | cons x l ih=>intro q hq;cases q with
      | zero=>rfl
      | succ q=>rw[Ie,ih q (by simpa using hq)];rfl
  rw[this l q hq];simp[fu]
theorem ui.take (h:ui w a c n vs) (hk:k≤n):ui w a c k (vs.take (k*sz)):=
 ⟨aY hk h.le,h.mx,h.nl,fun j u hj=>h.rd j u (by
  rw[lY] at hj;split at hj
  ·exact hj
  ·cases hj)⟩
theorem Uc {i:Operand} (ho:o.op = .slice t x none (some i) none) (hx:ρ x = .slice a n c) (hy:ρ i = .int .i64 (k:Int)) (hk:k≤n)
 (hu:P.underlying t=some (.slice e)) (hs:(P.info? e).map (·.size)=some sz) (h:ui W0 a c n vs):(execOp ρ o).run P w = .ok (.value (.slice a k c)) w∧ui W0 a c k (vs.take (k*sz)):=by
 obtain⟨inf,f,g⟩:∃inf,P.info? e=some inf∧inf.size=sz:=by
  cases h:P.info? e with
  | none=>rw[h] at hs;cases hs
  | some inf=>rw[h] at hs;exact⟨inf,rfl,by simpa using hs⟩
 have b:(Go.sizeOf e).run P w = .ok sz w:=by simp[Go.sizeOf,typeInfo,f,go_sem,g]
 have m:=h.le;refine⟨?_,aY hk h.le,h.mx,h.nl,fun j u hj=>h.rd j u (by
  rw[lY] at hj;split at hj
  ·exact hj
  ·cases hj)⟩
 have d:(k:Int)≤(c:Int):=by omega
 cases a with
 | none=>
  have l:=h.nl rfl;subst l;obtain rfl:k=0:=by omega
  simp[execOp,go_sem,ho,hx,hy,hu,b,d]
 | some ad=>simp[execOp,go_sem,ho,hx,hy,hu,b,d]
theorem RG {i:Operand} (ho:o.op = .slice t x (some i) none none) (hx:ρ x = .slice a n c) (hy:ρ i = .int .i64 (k:Int)) (hk:k≤n)
 (hu:P.underlying t=some (.slice e)) (hs:(P.info? e).map (·.size)=some sz) (hl:vs.length=n*sz) (h:ui W0 a c n vs):∃v,(execOp ρ o).run P w = .ok (.value v) w∧∃a' c',v = .slice a' (n-k) c'∧ui W0 a' c' (n-k) (vs.drop (k*sz)):=by
 obtain⟨inf,f,g⟩:∃inf,P.info? e=some inf∧inf.size=sz:=by
  cases h:P.info? e with
  | none=>rw[h] at hs;cases hs
  | some inf=>rw[h] at hs;exact⟨inf,rfl,by simpa using hs⟩
 have d:(Go.sizeOf e).run P w = .ok sz w:=by simp[Go.sizeOf,typeInfo,f,go_sem,g]
 have q:=h.le;have p:=h.mx;have l:(k:Int)≤(n:Int):=by omega
 have j:(n:Int)≤(c:Int):=by omega
 cases a with
 | none=>
  have m:=h.nl rfl;subst m;obtain rfl:n=0:=by omega
  obtain rfl:k=0:=by omega
  obtain rfl:vs=[]:=jW (by simpa using hl);exact⟨.slice none 0 0,by simp[execOp,go_sem,ho,hx,hy,hu,d],none,0,rfl,az _,aW _,fun _=>rfl,by rw[Al];exact dI.nil⟩
 | some ad=>
  by_cases hc:k=c
  ·subst hc;obtain rfl:k=n:=by omega
   refine⟨.slice (some ad) 0 0,by simp[execOp,go_sem,ho,hx,hy,hu,d],some ad,0,by rw[uh],by omega,aW _,fun e=>(by cases e),?_⟩;rw[qA (by omega)];exact dI.nil
  refine⟨.slice (some (ad.add (k*sz))) (n-k) (c-k),?_,some (ad.add (k*sz)),c-k,rfl,by omega,by omega,fun e=>(by cases e),?_⟩
  ·have h1:k<c:=by omega
   simp[execOp,go_sem,ho,hx,hy,hu,d,l,j,h1];exact fun e=>absurd e.symm hc
  intro i u hi;rw[rX] at hi;obtain⟨b,off,e1,e2⟩:=h.rd _ _ hi;cases e1;exact⟨b,off+k*sz,by rw[sO],by rw[mY];exact e2⟩
def AA (W0:World) (q:Nat) (l:List Cc) (c:Cc):(Nat→Bool)→(Nat→Value)→World→Prop:=fun L y W=>
 Below W0.heap.size W0 W∧(L 23=true→L 15=true)∧(L 15=true→L 9=true) ∧
 (L 1=true→L 9=false→∃g,y 1 = .slice (some ⟨g,0,none⟩) 0 0∧Own W W0.heap.size 106 3 (.slice (some ⟨g,0,none⟩) 0 0) 0 []) ∧
 (L 9=true→L 15=false→Own W W0.heap.size 106 3 (y 9) q ((l.flatMap mE).take (q*3))) ∧
 (L 14=true→L 15=false→∃a e,y 14 = .slice a 1 e∧ui W a e 1 (mE c)) ∧
 (L 15=true→L 23=false→Own W W0.heap.size 106 3 (y 15) (q+1) ((l.flatMap mE).take (q*3)++mE c)) ∧
 (L 23=true→Own W W0.heap.size 106 3 (y 23) (q+1+(l.length-q)) (((l.flatMap mE).take (q*3)++mE c)++(l.flatMap mE).drop (q*3)))
theorem fM {l:List Cc} {c:Cc}:∀L y W W',Below W.heap.size W W'→AA W0 q l c L y W→AA W0 q l c L y W':=
 fun _ _ _ _ hb ⟨h1,h2,h3,h4,h5,h6,h7,h8⟩=>⟨ae h1 hb,h2,h3,fun a b=>by
  obtain⟨g,e1,e2⟩:=h4 a b;exact⟨g,e1,e2.below hb⟩,fun a b=>(h5 a b).below hb,fun a b=>by
  obtain⟨x,e,e1,e2⟩:=h6 a b;exact⟨x,e,e1,e2.below hb⟩,fun a b=>(h7 a b).below hb,fun a=>(h8 a).below hb⟩
theorem VO {l:List Cc} {c:Cc} (y:Nat→Value):AA W0 q l c (fun _=>false) y W0:=by
 refine⟨Below.refl _ _,?_,?_,?_,?_,?_,?_,?_⟩<;>· intro h;cases h
theorem VM {l:List Cc} {c:Cc} (h:AA W0 q l c L y W):AA W0 q l c (bY L 1) (dB y 1 (.slice (some ⟨W.heap.size,0,none⟩) 0 0)) (W.alloc (.cells #[] 106)):=by
 obtain⟨h1,h2,h3,h4,h5,h6,h7,h8⟩:=fM _ _ _ _ ((Below.refl _ _).alloc (az _) (.cells #[] 106)) h;exact⟨h1,h2,h3,fun _ _=>⟨_,rfl,Own.empty _ _ h.1.size⟩,h5,h6,h7,h8⟩
theorem Wp {l:List Cc} {c:Cc} (h:AA W0 q l c L y W) (hb:Below W.heap.size W W') (ho:Own W' W0.heap.size 106 3 v q ((l.flatMap mE).take (q*3))):AA W0 q l c (bY L 9) (dB y 9 v) W':=by
 obtain⟨h1,h2,h3,h4,h5,h6,h7,h8⟩:=fM _ _ _ _ hb h;exact⟨h1,h2,fun _=>rfl,fun _ e=>(by cases e),fun _ _=>ho,h6,h7,h8⟩
theorem UF {l:List Cc} {c:Cc} {e:Nat} (h:AA W0 q l c L y W) (hb:Below W.heap.size W W') (ho:ui W' a e 1 (mE c)):AA W0 q l c (bY L 14) (dB y 14 (.slice a 1 e)) W':=by
 obtain⟨h1,h2,h3,h4,h5,h6,h7,h8⟩:=fM _ _ _ _ hb h;exact⟨h1,h2,h3,h4,h5,fun _ _=>⟨a,e,rfl,ho⟩,h7,h8⟩
theorem UL {l:List Cc} {c:Cc} (h:AA W0 q l c L y W) (h15:L 15=false) (h9:L 9=true) (hg:W.grownBy W' (y 9).ownBlock) (ho:Own W' W0.heap.size 106 3 v (q+1) ((l.flatMap mE).take (q*3)++mE c)):AA W0 q l c (bY L 15) (dB y 15 v) W':=by
 obtain⟨h1,h2,h3,h4,h5,h6,h7,h8⟩:=h;have a:L 23=true→False:=fun e=>by rw[h2 e] at h15;cases h15
 exact⟨h1.grown hg h1.size (fun k hk=>(h5 h9 h15).ge k hk),fun _=>rfl,fun _=>h9,fun _ e=>(by rw[show bY L 15 9=L 9 from rfl,h9] at e;cases e),fun _ e=>(by cases e),fun _ e=>(by cases e),fun _ _=>ho,fun e=>(a e).elim⟩
theorem UO {l:List Cc} {c:Cc} (h:AA W0 q l c L y W) (h23:L 23=false) (h15:L 15=true) (hg:W.grownBy W' (y 15).ownBlock) (ho:Own W' W0.heap.size 106 3 v (q+1+(l.length-q)) (((l.flatMap mE).take (q*3)++mE c)++(l.flatMap mE).drop (q*3))):AA W0 q l c (bY L 23) (dB y 23 v) W':=by
 obtain⟨h1,h2,h3,h4,h5,h6,h7,h8⟩:=h;exact⟨h1.grown hg h1.size (fun k hk=>(h7 h15 h23).ge k hk),fun _=>h15,h3,fun _ e=>(by rw[show bY L 23 9=L 9 from rfl,h3 h15] at e;cases e),fun _ e=>(by rw[show bY L 23 15=L 15 from rfl,h15] at e;cases e),fun _ e=>(by rw[show bY L 23 15=L 15 from rfl,h15] at e;cases e),fun _ e=>(by cases e),fun _=>ho⟩
structure JL (S S' : MW):Prop where
 sp:S'.H.sp=S.H.sp
 fi:S'.H.fi=S.H.fi
 ct:S'.H.ct=S.H.ct
 dk:S'.H.dk=S.H.dk
 fl:S'.H.m.fs.length=S.H.m.fs.length
 sl:S'.H.sl.length=S.H.sl.length
theorem JL.refl (S:MW):JL S S:=⟨rfl,rfl,rfl,rfl,rfl,rfl⟩
theorem JL.trans {a b c:MW} (h:JL a b) (k:JL b c):JL a c:=⟨k.sp.trans h.sp,k.fi.trans h.fi,k.ct.trans h.ct,k.dk.trans h.dk,k.fl.trans h.fl,k.sl.trans h.sl⟩
theorem eD.rdM {S:MW} (h:eD w B b S):dI w (some ⟨b,1,none⟩) (bS S.H).toList:=bL h.blk 1 11
theorem Bd.cas {T:List (List En)} (h:Bd m T):m.ca.length≤60:=SI (m:=dV m T) h.rt.ca h.rt.pt.st
theorem Bd.fis {T:List (List En)} (h:Bd m T):∀f∈m.st.fs,f.b.length≤12:=yo h.rt.pt.st
def Np (S:MW) (B b:Nat) (w:World) (ks:List (Nat × Array Value × TypeId)):(Nat→Bool)→(Nat→Value)→World→Prop:=fun _ _ W=>
 ∃a c l,eD W B b (S.lst a c l)∧MS w b S W (S.lst a c l)∧∀t∈ks,aA W t.1 t.2.1 t.2.2∧¬mR b S t.1
theorem aG {S:MW} {ks:List (Nat × Array Value × TypeId)}:∀L y W W',Below W.heap.size W W'→Np S B b w ks L y W→Np S B b w ks L y W':=
 fun _ _ _ _ hb ⟨a,c,l,h1,h2,h3⟩=>⟨a,c,l,h1.below hb,h2.below hb,fun t ht=>⟨(h3 t ht).1.ext hb,(h3 t ht).2⟩⟩
theorem zP {S:MW} {ks:List (Nat × Array Value × TypeId)} {y' : Value→Nat→Value} (n:Int) (hn : -9223372036854775808≤n∧n≤9223372036854775807) (h:Np S B b w ks L y W) {R:Value→World→Prop} (hR:∀x:Int,0≤x→x<256→(x<n∨x=0)→∀W',R (.int .i64 x) W') :
  Calls Tryz.prog 30 #[.pointer (some ⟨b,0,none⟩),.int .i64 n] W fun e W' => ∃v,e = .returned v∧Np S B b w ks L' (y' v) W'∧R v W':=by
 obtain⟨a,c,l,h1,h2,h3⟩:=h;refine (fD _ n B b W h1 hn).mono ?_;rintro r W' ⟨x,a',c',l',rfl,k1,k2,k3,_⟩;exact⟨_,rfl,⟨a',c',l',k1,h2.trans k2,fun t ht=>⟨k2.blkN (h3 t ht).1 (h3 t ht).2,(h3 t ht).2⟩⟩,hR x k3.1 k3.2.1 k3.2.2 W'⟩
theorem RA {S:MW} {ks:List (Nat × Array Value × TypeId)} {y' : Value→Nat→Value} (h:Np S B b w ks L y W) {R:Value→World→Prop} (hR:∀P W',R (.agg (fQ P)) W') :
  Calls Tryz.prog 33 #[.pointer (some ⟨b,0,none⟩)] W fun e W' => ∃v,e = .returned v∧Np S B b w ks L' (y' v) W'∧R v W':=by
 obtain⟨a,c,l,h1,h2,h3⟩:=h;refine (xI _ B b W h1).mono ?_;rintro r W' ⟨P,a',c',l',rfl,k1,k2⟩;exact⟨_,rfl,⟨a',c',l',k1,h2.trans k2,fun t ht=>⟨k2.blkN (h3 t ht).1 (h3 t ht).2,(h3 t ht).2⟩⟩,hR P W'⟩
theorem Rz {l:List Cc} {f i:Int} (hq:q≤l.length) (hno:∀d∈l.take q,Bw f i d=false) (hy:q=l.length∨∃c,l[q]?=some c∧Bw f i c=true):zy l f i=q:=by
 unfold zy;rcases hy with rfl|⟨c,hc,hg⟩
 ·rw[iJ (az _)] at hno;rw[Ad.2 fun d hd=>hno d hd];rfl
 obtain⟨hl,rfl⟩:=dn.1 hc;rw[vW.2 ⟨hl,hg,fun j hj=>by have:=hno (l[j]'(by omega)) (List.mem_take_iff_getElem.2 ⟨j,by omega,rfl⟩);rw[this];decide⟩];rfl
def Ur (S:MW) (f i:Int) (B b:Nat) (w:World) (r:Ending) (w' : World):Prop:=∃x S',r = .returned (.int .i64 x)∧eD w' B b S'∧MS w b S w' S'∧JL S S'∧S'.T=S.T∧Bd S'.H.ma S'.T∧(x = -1∨∃c∈S'.H.ca,c.f=f∧c.i=i∧c.k=x)
theorem KE (S:MW) (f i:Int) (B b:Nat) (w:World) (h:eD w B b S) (hd:Bd S.H.ma S.T) (hi:zz S.H.ma.st f i) :
  Calls Tryz.prog 105 #[.pointer (some ⟨b,0,none⟩),.int .i64 f,.int .i64 i] w (Ur S f i B b w):=by
 have z7:S.H.ca.length≤60:=hd.cas;have k4:=Lib.hid h.bs;have gw:=h.lt;obtain⟨F,rfl⟩:=fO hi.1.1;obtain⟨I,rfl⟩:=fO hi.2.1;have kD:F<S.H.fi.length:=by have:=hi.1.2;simp[MH.ma,cZ] at this;omega
 have gx:(F:Int)<(S.H.fi.length:Int):=by omega
 have hO:=JG hd.few.2.2.2.2.1 hi;have gy:(F:Int)<5:=hO.1;have gn:(I:Int)<12:=hO.2.1;obtain⟨N,hN⟩:∃N,(aM S.H.ma.st (F:Int)).n=N:=⟨_,rfl⟩;obtain⟨p,hp⟩:∃p,S.H.fi[F]?=some p:=⟨_,aI kD⟩;have ks:p.n=N:=by rw[←hN];have:aM S.H.ma.st (F:Int)=p.fi:=mW (by show (S.H.fi.map PF.fi)[F]?=_;rw[iU,hp];rfl);rw[this];rfl
 have kX:=Lib.hid hp;have kC:=Lib.hid hN;have kr:=Lib.hid ks;have hA:=Lib.hid hd;have ke:=Lib.hid hi;clear hd hi hp hN ks hO;go_enter func105,ntmps105;have hc:=h.blk.cell;unfold ja at hc;go_upto_region 2 with (fail);clear hc
 go_loopw [20] (fun k wr => ∃q:Nat,q≤S.H.ca.length∧k = .int .i64 q∧Below w.heap.size w wr∧Hid (∀d∈S.H.ca.take q,¬(d.f=(F:Int)∧d.i=(I:Int)))) (fun k _=>S.H.ca.length-(intOf k).toNat)
 case atStart=>exact⟨0,aW _,rfl,Below.refl _ _,Lib.hid (by simp)⟩
 case round=>
  obtain⟨q,hq,rfl,hJ,hX⟩:=hrel
  by_cases hql:q<S.H.ca.length
  ·obtain⟨bc,oc,hh,t⟩:=Bc (h.ma.rd.below hJ).ca.rd q hql;obtain⟨c,hc⟩:∃c,S.H.ca[q]?=some c:=⟨_,aI hql⟩;rw[show S.H.ca[q]=c from (dn.1 hc).2] at t;have hH:(q:Int)<(S.H.ca.length:Int):=by omega
   have ky:=Lib.hid hc;clear hc;rw[hh]
   go_wp2_with (first | (refine ax _ _ rfl bc (oc+q*3) rfl rfl _ t _ underlying106 rfl cached_size ?_) | (refine aF rfl _ _ _ rfl (Bf c) rfl rfl rfl cached_size (wm c) ?_))
   intro w3 hK cx3;have hE:=ae hJ hK;have hD:=cx3.cell;have gu:=cx3.lt;clear hJ hK t;unfold Bf at hD
   by_cases hy:c.f=(F:Int)∧c.i=(I:Int)
   ·obtain⟨hU,kc⟩:=hy;rw[hU,kc] at hD;go_wp2;go_ret;exact⟨c.k,S,rfl,h.below hE,(MS.refl w b S).below hE,.refl _,rfl,hA.out,.inr ⟨c,bN ky.out,hU,kc,rfl⟩⟩
   have h0 : Hid (∀d∈S.H.ca.take (q+1),¬(d.f=(F:Int)∧d.i=(I:Int))):=Lib.hid fun d hd=>by
    rw[take_at ky.out] at hd;rcases fV.1 hd with hd|hd
    ·exact hX.out d hd
    ·rw[bv.1 hd];exact hy
   by_cases hU:c.f=(F:Int)
   ·have kc:¬c.i=(I:Int):=fun e=>hy ⟨hU,e⟩;clear hy;go_wp2;go_roundw
    case rel=>exact⟨q+1,by omega,by go_num,hE,h0⟩
    case measure=>simp[intOf];omega
   clear hy;go_wp2;go_roundw
   case rel=>exact⟨q+1,by omega,by go_num,hE,h0⟩
   case measure=>simp[intOf];omega
  have hH:¬(q:Int)<(S.H.ca.length:Int):=by omega
  rw[iJ (by omega)] at hX;have h1:=h.below hJ;have s1:=(MS.refl w b S).below hJ;have gt:=Lib.hid (h1.new (az _));have hc:=h1.blk.cell;unfold ja at hc
  go_wp2_with (refine ax _ _ rfl b 1 rfl rfl _ h1.rdM _ underlying41 rfl machine_size ?_)
  refine (wD S.H F I _ h1.ma.rd ⟨by omega,fun f hf=>aY (hA.out.fis f hf) (by decide)⟩ (fun c hc=>hA.out.rt.ca.lt c hc) (by have:=ke.out.1;simpa[MH.ma,cZ] using this) ke.out.2).mono ?_;rintro r w2 ⟨rfl,kk⟩;have hP:Hid (fJ (bC S.H.ma F I) (N-(I:Int)*8)=bC S.H.ma F I∧bC S.H.ma F I=ic S.H.ma F I):=Lib.hid (by
   have e:bC S.H.ma F I=ic S.H.ma F I:=by unfold bC ic;rw[show S.H.ma.ca.find? (fun c=>decide (c.f=(F:Int))&&decide (c.i=(I:Int)))=none from Eh hX.out]
   exact⟨by rw[e,←kC.out];exact PG _ _ _,e⟩)
  generalize bC S.H.ma F I=P at hP;have h2:=h1.below kk;have s2:=s1.below kk;clear h1 s1 hc kk h hJ
  go_wp2_with (refine aF rfl _ _ _ rfl (fQ P) rfl rfl rfl psize (fT P) ?_)
  intro w3 hK px3;have h3:=h2.below hK;have s3:=s2.below hK;have hL:=Lib.hid (h2.new (az _));have kd:=Lib.hid s2.size;have kW:w2.heap.size<w3.heap.size:=px3.lt;have kt:B≤w2.heap.size:=aY k4.out kd.out;clear h2 s2 hK;generalize hp4:w2.heap.size=p4 at *
  clear hp4
  go_wp2_with fail
  refine (fD _ 2 B b _ h3 (by omega)).mono ?_;rintro r w4 ⟨x,a4,c4,l4,rfl,h4,s4,hx,_⟩;have px4:=s4.blkN px3 hL.out;have s4:=s3.trans s4;clear h3 s3 px3 hx kW;go_upto_if 46 with (fail)
  go_cut [10] (fun s10 wx => ∃(d:Bool) (a:Option Addr) (c:Nat) (l:List UInt8) (P:Page),s10 = .bool d∧eD wx B b (S.lst a c l)∧MS w b S wx (S.lst a c l)∧aA wx p4 (fQ P) 79∧Hid (fJ P (N-(I:Int)*8)=P∧(d=false→P=ic S.H.ma F I)))
  case first=>
   by_cases hx1:x=1
   ·subst hx1
    go_wp2_with fail
    refine (xI _ B b _ h4).mono ?_;rintro r w5 ⟨P2,a5,c5,l5,rfl,h5,s5⟩;rw[oq] at h5 s5;have px5:=s5.blkN px4 hL.out;have s5:=s4.trans s5;clear h4 s4 px4 hP
    go_wp2_with (refine ay rfl _ _ _ rfl p4 (fQ P2) rfl rfl _ _ px5 rfl psize (fT _) ?_)
    intro w6 px6 kg;have h6:=h5.locT px5 (by decide) hL.out kt kg;have s6:=s5.loc kg kd.out;clear h5 s5 px5 kg;go_upto_region 11 with (fail)
    go_loopw [49] (fun j wr => ∃k:Nat,k≤8∧j = .int .i64 k∧eD wr B b (S.lst a5 c5 l5)∧MS w b S wr (S.lst a5 c5 l5)∧aA wr p4 (fQ (iX P2 (N-(I:Int)*8) k)) 79) (fun j _=>8-(intOf j).toNat)
    case atStart=>exact⟨0,by omega,rfl,h6,s6,by rw[show iX P2 (N-(I:Int)*8) 0=P2 from by ext j hj;simp[iX]];exact px6⟩
    case round=>
     clear h6 s6 px6;obtain⟨k,hk,rfl,hm,hs,px⟩:=hrel
     by_cases hk8:k<8
     ·have kZ:(k:Int)<8:=by omega
      have hD:=hm.blk.cell;unfold ja at hD;dsimp only[MW.lst] at hD;obtain⟨bf,of,kl,t⟩:=jH jF (by decide) hm.ma.rd.st.rd F kD;dsimp only[MW.lst] at kl t;rw[show S.H.fi[F]=p from (dn.1 kX.out).2] at t;rw[kl] at hD;have rc0:wr.cell? ⟨bf,of+F*2,none⟩=some (.int .i64 N):=by rw[←kr.out];obtain⟨b',o',e,hS⟩:=t 0 _ rfl;cases e;exact hS
      clear t kl;have gs:IntKind.i64.wrap (8*(I:Int))=8*(I:Int):=bO _ (by omega);have gr:IntKind.i64.wrap (8*(I:Int)+(k:Int))=8*(I:Int)+(k:Int):=bO _ (by omega)
      by_cases hge:N≤8*(I:Int)+k
      ·have hr:Hid ((fQ (iX P2 (N-(I:Int)*8) k)).setIfInBounds k (.int .u8 0)=fQ (iX P2 (N-(I:Int)*8) (k+1))):=Lib.hid (by rw[←BI P2 _ k hk8 (by omega)];exact Dg _ k hk8 0);generalize hT:iX P2 (N-(I:Int)*8) k=T at px hr;clear hT
       go_wp2_with (refine aD rfl _ _ _ rfl p4 k _ [.int .u8 0] rfl rfl rfl _ _ px (by show k+1≤8;omega) (by kernel_rfl) (fun u hu=>by cases bv.1 hu;rfl) ?_)
       intro w7 px7 kf;rw[Pw.putAt_one,hr.out] at px7;have kY:=hm.locT px (by decide) hL.out kt kf;have kV:=hs.loc kf kd.out;clear hm hs px kf hD rc0;go_wp2;go_roundw
       case rel=>exact⟨k+1,by omega,by go_num,kY,kV,px7⟩
       case measure=>simp[intOf];omega
      have hr:iX P2 (N-(I:Int)*8) k=iX P2 (N-(I:Int)*8) (k+1):=by
       ext j hj
       simp only[iX,rU]
       by_cases e:N-(I:Int)*8≤(j:Int)
       ·rw[if_neg (by omega),if_neg (by omega)]
       ·rw[if_neg (by omega),if_neg (by omega)]
      rw[hr] at px;clear hr;go_wp2;go_roundw
      case rel=>exact⟨k+1,by omega,by go_num,hm,hs,px⟩
      case measure=>simp[intOf];omega
     have kZ:¬(k:Int)<8:=by omega
     rw[Bu _ _ k (by omega)] at px;have hC:Hid (fJ (fJ P2 (N-(I:Int)*8)) (N-(I:Int)*8)=fJ P2 (N-(I:Int)*8)):=Lib.hid (Oo _ _);generalize fJ P2 (N-(I:Int)*8)=C at px hC;go_wp2;go_meet
     case rel=>exact⟨true,a5,c5,l5,C,rfl,hm,hs,px,Lib.hid ⟨hC.out,fun h=>(by cases h)⟩⟩
   go_wp2;go_meet
   case rel=>exact⟨false,a4,c4,l4,P,rfl,h4,s4,px4,Lib.hid ⟨hP.out.1,fun _=>hP.out.2⟩⟩
  case rest=>
   obtain⟨d,a5,c5,l5,P2,rfl,h5,s5,px5,kB⟩:=hcut;clear h4 s4 px4 hP;go_upto_region 16 with (fail);refine ib 9 [.v (.pointer (some ⟨b,0,none⟩)),.v (.agg (fQ P2)),_,.r 3 ((cB fun v => ∃x:Int,v = .int .i64 x∧0≤x)),.r 4 ((cB fun v => ∃u,v = .bool u)),_,_,_,.r 8 ((cB fun v => ∃u,v = .agg (vv ⟨P2,1,u,d,(F:Int),(I:Int)⟩)))] (Np S B b w [(p4,fQ P2,79)]) aG (fun _=>⟨a5,c5,l5,h5,s5,by simpa using ⟨px5,hL.out⟩⟩) (Qk aG rfl (ag ?_ (Qk aG rfl (ag ?_ (ag ?_ (Qk aG rfl (Qk aG rfl (Qk aG rfl (ag ?_ (aB)))))))))) (fun _=>rfl) rfl ?_
   ·intro ρ y W L hw hn o s hb hd;refine ed aG (fun _ _ h=>h) hb ?_;have E9:ρ (.tmp 9) = .pointer (some ⟨p4,0,none⟩):=(hn (.tmp 9) rfl).trans rfl;obtain⟨a,c,l,m1,m2,m3⟩:=hb;have m3:=(m3 _ (bv.2 rfl)).1;refine aj (.agg (fQ P2)) (ah rfl) (bn rfl E9 m3 underlying79 rfl psize) rfl
   ·intro ρ y W L hw hn o s hb hd;have gi:=hw 72 2 rfl;have h2:y 2=_:=hd 2 rfl;have EC:∀v,ρ (.const v)=v:=fun v=>hn (.const v) trivial;have EF:∀f,ρ (.func f) = .func (.func f) #[] #[]:=fun f=>hn (.func f) trivial;refine ig _ _ (ah rfl) (aO rfl (EF _) func30 (by kernel_rfl) (by kernel_rfl) (by simp only[bH,bA,bB,gi,h2,EC,EF];rfl)) ?_;exact zP 2 (by omega) hb fun x h1 _ _ _=>⟨x,rfl,h1⟩
   ·intro ρ y W L hw hn o s hb hd;refine ed aG (fun _ _ h=>h) hb ?_;have gh:=hw 73 3 rfl;have h3:=hd 3 rfl;obtain⟨x,hx,_⟩:=h3;refine aj _ (ah rfl) (pU rfl (gh.trans hx) (hn (.const _) trivial) (by simp[go_sem];rfl)) ⟨_,rfl⟩
   ·intro ρ y W L hw hn o s hb hd;refine ed aG (fun _ _ h=>h) hb ?_;have gj:=hw 71 1 rfl;have h1:y 1=_:=hd 1 rfl;have gg:=hw 74 4 rfl;have h4:=hd 4 rfl;have gf:=hw 75 5 rfl;have h5:y 5=_:=hd 5 rfl;have ge:=hw 76 6 rfl;have h6:y 6=_:=hd 6 rfl;have gd:=hw 77 7 rfl;have h7:y 7=_:=hd 7 rfl;obtain⟨u,hu⟩:=h4;have EC:∀v,ρ (.const v)=v:=fun v=>hn (.const v) trivial;refine aj (.agg (vv ⟨P2,1,u,d,(F:Int),(I:Int)⟩)) (ah rfl) (by simp[execOp,go_sem,gj,h1,gg,gf,h5,ge,h6,gd,h7,EC,hu,fQ,vv]) ⟨_,rfl⟩
   intro y W5 kz hG;have gq:((cB fun v => ∃x:Int,v = .int .i64 x∧0≤x)).r (y 3) W5:=hG 3 (by decide);have gp:((cB fun v => ∃u,v = .bool u)).r (y 4) W5:=hG 4 (by decide);have kT:((cB fun v => ∃u,v = .agg (vv ⟨P2,1,u,d,(F:Int),(I:Int)⟩))).r (y 8) W5:=hG 8 (by decide);clear hG;obtain⟨a6,c6,l6,h6,s6,px6⟩:=kz;have px6:=(px6 _ (bv.2 rfl)).1;obtain⟨u,hu⟩:=kT;rw[hu];clear hu h5 s5 px5
   go_wp2_with fail
   refine (DK _ _ B b _ h6 (by have:=hA.out.few.1;show S.H.m.fs.length≤1000;have e:S.H.ma.m.fs.length=S.H.m.fs.length:=rfl;omega)).mono ?_;rintro r w7 ⟨x7,a7,c7,l7,fs,rfl,h7,s7,kU⟩;rw[oq] at h7 s7;have s7:=s6.trans s7;clear h6 s6 px6;rcases kU with ⟨rfl,rfl⟩|⟨j,rfl,hj,hjr,rfl⟩
   ·go_wp2;go_ret;exact⟨-1,_,rfl,h7,s7,⟨rfl,rfl,rfl,rfl,rfl,rfl⟩,rfl,hA.out,.inl rfl⟩
   have k0 : j<S.H.m.fs.length:=hj;have kw:=Lib.hid hjr;have gv:(0:Int)≤(j:Int):=by omega
   clear hj hjr;go_upto_region 20 with (fail)
   go_loopw [13] (fun k wr => ∃q:Nat,q≤S.H.ca.length∧k = .int .i64 q∧Below w7.heap.size w7 wr∧Hid (∀d∈S.H.ca.take q,Bw F I d=false)) (fun k _=>S.H.ca.length-(intOf k).toNat)
   case atStart=>exact⟨0,aW _,rfl,Below.refl _ _,Lib.hid (by simp)⟩
   case round=>
    obtain⟨q,hq,rfl,kj,hz⟩:=hrel;have ha:=h7.below kj;have kn:IntKind.i64.wrap (100*(F:Int))=100*(F:Int):=bO _ (by omega);have km:IntKind.i64.wrap (100*(F:Int)+(I:Int))=100*(F:Int)+(I:Int):=bO _ (by omega)
    by_cases hql:q<S.H.ca.length
    case' neg=>
     have hH:¬(q:Int)<(S.H.ca.length:Int):=by omega
     go_upto_region 20 with (fail);refine aK 35 [_,_,_,_,_,_,_,_,_,_,_,_,_,_,_,_,_,_,_,_,_,_,_,_,_,_,_,_,_,_,_,_,_,_,.v (.bool false)] (Gk rfl (Gk rfl (Gk rfl (Gf b 1 rfl rfl (Gf b 10 rfl rfl (Gl ha.blk (V:=.slice S.H.ac S.H.ca.length S.H.cc) (by simp[ja,MW.frs,MW.lst]) rfl rfl rfl rfl (Gn rfl rfl rfl rfl (Gb (.bool false) (by simp[go_sem,hH,hql]) rfl rfl rfl rfl rfl (Gk rfl (Gk rfl (Gk rfl (Gk rfl (Gk rfl (Gk rfl (Gk rfl (Gk rfl (Gk rfl (Gk rfl (Gk rfl (Gk rfl (Gk rfl (Gk rfl (Gk rfl (Gk rfl (Gk rfl (Gk rfl (Gk rfl (Gk rfl (Gk rfl (Gk rfl (Gk rfl (Gk rfl (Gk rfl (Gk rfl (Gk rfl (aB)))))))))))))))))))))))))))))))))))) (fun _=>rfl) rfl ?_;intro y W8 hl _;have kA:Hid (zy S.H.ca F I=q):=Lib.hid (Rz hq hz.out (.inl (by omega)))
    case' pos=>
     obtain⟨bc,oc,hh,t⟩:=Bc ha.ma.rd.ca.rd q hql;have hh:S.H.ac=some ⟨bc,oc,none⟩:=hh;obtain⟨c,hc⟩:∃c,S.H.ca[q]?=some c:=⟨_,aI hql⟩;have t:dI wr (some ⟨bc,oc+q*3,none⟩) (mE c):=by rw[←(dn.1 hc).2];exact t
     have hH:(q:Int)<(S.H.ca.length:Int):=by omega
     have kh:=hA.out.rt.ca.file c (bN hc);have gl:=JG hA.out.few.2.2.2.2.1 kh;have gm:0≤c.f∧0≤c.i:=⟨kh.1.1,kh.2.1⟩;have kp:IntKind.i64.wrap (100*c.f)=100*c.f:=bO _ (by omega);have ko:IntKind.i64.wrap (100*c.f+c.i)=100*c.f+c.i:=bO _ (by omega);have hW:∀W,Below wr.heap.size wr W→W.cell? ⟨bc,oc+q*3,none⟩=some (.int .i64 c.f):=fun W hb=>by obtain⟨b',o',e,hS⟩:=(t.below hb) 0 _ rfl;cases e;exact hS
     have hV:∀W,Below wr.heap.size wr W→W.cell? ⟨bc,oc+q*3+1,none⟩=some (.int .i64 c.i):=fun W hb=>by obtain⟨b',o',e,hS⟩:=(t.below hb) 1 _ rfl;cases e;exact hS
     have hY:Hid (Bw F I c=true↔¬100*c.f+c.i<100*(F:Int)+(I:Int)):=Lib.hid (by rw[xW];omega)
     by_cases hlt:100*c.f+c.i<100*(F:Int)+(I:Int)
     case pos=>
      go_upto_region 20 with (fail);refine aK 35 [_,_,_,_,_,_,_,_,_,_,_,_,_,_,_,_,_,_,_,_,_,_,_,_,_,_,_,_,_,_,_,_,_,_,.v (.bool true)] (Gk rfl (Gk rfl (Gk rfl (Gf b 1 rfl rfl (Gf b 10 rfl rfl (Gl ha.blk (V:=.slice S.H.ac S.H.ca.length S.H.cc) (by simp[ja,MW.frs,MW.lst]) rfl rfl rfl rfl (Gn rfl rfl rfl rfl (Gb (.bool true) (by simp[go_sem,hH,hql]) rfl rfl rfl rfl rfl (Gk rfl (Gk rfl (Gk rfl (Gf b 1 rfl rfl (Gf b 10 rfl rfl (Gl ha.blk (V:=.slice (some ⟨bc,oc,none⟩) S.H.ca.length S.H.cc) (by simp[ja,MW.frs,MW.lst,hh]) rfl rfl rfl rfl (Gk rfl (Gr (.pointer (some ⟨bc,oc+q*3,none⟩)) (fun ρ y W hb z=>(bG rfl (aC rfl z) (aC rfl z) hql underlying38 cached_size)) rfl rfl (Gf bc (oc+q*3) rfl rfl (Gc (.int .i64 c.f) (fun W hb=>by simp[hW _ hb]) rfl rfl rfl rfl (Gb (.int .i64 (100*c.f)) (by simp[go_sem,kp]) rfl rfl rfl rfl rfl (Gk rfl (Gk rfl (Gf b 1 rfl rfl (Gf b 10 rfl rfl (Gl ha.blk (V:=.slice (some ⟨bc,oc,none⟩) S.H.ca.length S.H.cc) (by simp[ja,MW.frs,MW.lst,hh]) rfl rfl rfl rfl (Gk rfl (Gr (.pointer (some ⟨bc,oc+q*3,none⟩)) (fun ρ y W hb z=>(bG rfl (aC rfl z) (aC rfl z) hql underlying38 cached_size)) rfl rfl (Gf bc (oc+q*3+1) rfl rfl (Gc (.int .i64 c.i) (fun W hb=>by simp[hV _ hb]) rfl rfl rfl rfl (Gb (.int .i64 (100*c.f+c.i)) (by simp[go_sem,ko]) rfl rfl rfl rfl rfl (Gk rfl (Gb (.int .i64 (100*(F:Int))) (by simp[go_sem,kn]) rfl rfl rfl rfl rfl (Gk rfl (Gb (.int .i64 (100*(F:Int)+(I:Int))) (by simp[go_sem,km]) rfl rfl rfl rfl rfl (Gb (.bool true) (by simp[go_sem,hlt]) rfl rfl rfl rfl rfl (Gk rfl (aB)))))))))))))))))))))))))))))))))))) (fun _=>rfl) rfl ?_;intro y W8 hl _;have ku:Hid (∀d∈S.H.ca.take (q+1),Bw F I d=false):=Lib.hid fun d hd=>by
       rw[take_at hc] at hd;rcases fV.1 hd with hd|hd
       ·exact hz.out d hd
       rw[bv.1 hd];cases hg:Bw F I c with
       | false=>rfl
       | true=>exact absurd hlt (hY.out.1 hg)
      have hZ:=ae kj hl;clear hl hc hh t hW hV hY hz ha;go_wp2;go_roundw
      case rel=>exact⟨q+1,by omega,by go_num,hZ,ku⟩
      case measure=>simp[intOf];omega
     go_upto_region 20 with (fail);refine aK 35 [_,_,_,_,_,_,_,_,_,_,_,_,_,_,_,_,_,_,_,_,_,_,_,_,_,_,_,_,_,_,_,_,_,_,.v (.bool false)] (Gk rfl (Gk rfl (Gk rfl (Gf b 1 rfl rfl (Gf b 10 rfl rfl (Gl ha.blk (V:=.slice S.H.ac S.H.ca.length S.H.cc) (by simp[ja,MW.frs,MW.lst]) rfl rfl rfl rfl (Gn rfl rfl rfl rfl (Gb (.bool true) (by simp[go_sem,hH,hql]) rfl rfl rfl rfl rfl (Gk rfl (Gk rfl (Gk rfl (Gf b 1 rfl rfl (Gf b 10 rfl rfl (Gl ha.blk (V:=.slice (some ⟨bc,oc,none⟩) S.H.ca.length S.H.cc) (by simp[ja,MW.frs,MW.lst,hh]) rfl rfl rfl rfl (Gk rfl (Gr (.pointer (some ⟨bc,oc+q*3,none⟩)) (fun ρ y W hb z=>(bG rfl (aC rfl z) (aC rfl z) hql underlying38 cached_size)) rfl rfl (Gf bc (oc+q*3) rfl rfl (Gc (.int .i64 c.f) (fun W hb=>by simp[hW _ hb]) rfl rfl rfl rfl (Gb (.int .i64 (100*c.f)) (by simp[go_sem,kp]) rfl rfl rfl rfl rfl (Gk rfl (Gk rfl (Gf b 1 rfl rfl (Gf b 10 rfl rfl (Gl ha.blk (V:=.slice (some ⟨bc,oc,none⟩) S.H.ca.length S.H.cc) (by simp[ja,MW.frs,MW.lst,hh]) rfl rfl rfl rfl (Gk rfl (Gr (.pointer (some ⟨bc,oc+q*3,none⟩)) (fun ρ y W hb z=>(bG rfl (aC rfl z) (aC rfl z) hql underlying38 cached_size)) rfl rfl (Gf bc (oc+q*3+1) rfl rfl (Gc (.int .i64 c.i) (fun W hb=>by simp[hV _ hb]) rfl rfl rfl rfl (Gb (.int .i64 (100*c.f+c.i)) (by simp[go_sem,ko]) rfl rfl rfl rfl rfl (Gk rfl (Gb (.int .i64 (100*(F:Int))) (by simp[go_sem,kn]) rfl rfl rfl rfl rfl (Gk rfl (Gb (.int .i64 (100*(F:Int)+(I:Int))) (by simp[go_sem,km]) rfl rfl rfl rfl rfl (Gb (.bool false) (by simp[go_sem,hlt]) rfl rfl rfl rfl rfl (Gk rfl (aB)))))))))))))))))))))))))))))))))))) (fun _=>rfl) rfl ?_;intro y W8 hl _;have kA:Hid (zy S.H.ca F I=q):=Lib.hid (Rz hq hz.out (.inr ⟨c,hc,hY.out.2 hlt⟩));clear hc hh t hW hV hY
    all_goals
     have hZ:=ae kj hl;have hI:=h7.below hZ;have s9:=s7.below hZ;clear hl ha hz;go_upto_region 22 with (fail);have sC:ui W8 S.H.ac S.H.cc S.H.ca.length (S.H.ca.flatMap mE):=hI.ma.rd.ca;have sT:=sC.take (sz:=3) hq;have k3:S.H.ca.length≤60:=z7;have tlen:((S.H.ca.flatMap mE).take (q*3)).length=q*3:=by rw[kK,mU];omega
     have dlen:((S.H.ca.flatMap mE).drop (q*3)).length=(S.H.ca.length-q)*3:=by rw[List.length_drop,mU];omega
     refine ib 27 [_,.r 1 ((cB fun _=>True)),_,_,_,_,.v (.slice S.H.ac S.H.ca.length S.H.cc),_,_,.r 9 ((cB fun _=>True)),_,_,_,.v (.agg #[.int .i64 (F:Int),.int .i64 (I:Int),.int .i64 (j:Int)]),.r 14 ((cB fun _=>True)),.r 15 ((cB fun _=>True)),_,_,_,_,.v (.slice S.H.ac S.H.ca.length S.H.cc),_,.r 22 ((cB fun v => ∃a e,v = .slice a (S.H.ca.length-q) e∧ui W8 a e (S.H.ca.length-q) ((S.H.ca.flatMap mE).drop (q*3)))),.r 23 ((cB fun _=>True)),_,_,_] (AA W8 q S.H.ca ⟨(F:Int),(I:Int),(j:Int)⟩) fM (fun y=>VO y) (Qk fM rfl (ag ?_ (Qk fM rfl (Qk fM rfl (Qf fM b 1 rfl rfl (Qf fM b 10 rfl rfl (ag ?_ (Qk fM rfl (Qr fM (.slice S.H.ac q S.H.cc) (fun ρ y W z=>(Uc (W0:=W8) rfl (aC rfl z) (aC rfl z) hq underlying38 cached_size sC).1) rfl rfl (ag ?_ (Qk fM rfl (Qk fM rfl (Qk fM rfl (ag ?_ (ag ?_ (ag ?_ (Qk fM rfl (Qk fM rfl (Qf fM b 1 rfl rfl (Qf fM b 10 rfl rfl (ag ?_ (Qk fM rfl (ag ?_ (ag ?_ (Qk fM rfl (Qf fM b 1 rfl rfl (Qf fM b 10 rfl rfl (aB)))))))))))))))))))))))))))) (fun _=>rfl) rfl ?_
     ·intro ρ y W L hw hn o s hb hd;refine eu (.slice (some ⟨W.heap.size,0,none⟩) 0 0) (ah rfl) ?_ (VM hb) trivial;simp[execOp,go_sem]
     ·intro ρ y W L hw hn o s hb hd;refine ed fM (fun _ _ h=>h) hb ?_;have kR:=hw 124 5 rfl;have h5:y 5=_:=hd 5 rfl;refine aj (.slice S.H.ac S.H.ca.length S.H.cc) (ah rfl) (by simp[execOp,go_sem,kR,h5,(hI.below hb.1).blk.cell,ja,MW.frs,MW.lst]) rfl
     ·intro ρ y W L hw hn o s hb hd;have kS:=hw 120 1 rfl;have h1:=hd 1 rfl;have kQ:=hw 127 8 rfl;have h8:y 8=_:=hd 8 rfl;obtain⟨g,k2,k1⟩:=hb.2.2.2.1 (s 1 rfl) o;refine jJ (ah rfl) (Kq _ _ _ rfl W8.heap.size 106 (.agg #[.int .i64 0,.int .i64 0,.int .i64 0]) 3 24 underlying38 cached_info rfl (by decide) g (kS.trans k2) k1 S.H.ac q S.H.cc _ (kQ.trans h8) sT.nl sT.le tlen (sT.below hb.1).rd (by unfold maxLen;omega) (by omega) hb.1.size) (fun v W1 h=>Wp hb h.1 h.2) (fun _ _ _=>trivial)
     ·intro ρ y W L hw hn o s hb hd;refine ed fM (fun _ _ h=>h) hb ?_;have kO:=hw 129 10 rfl;have gc:y 10=_:=hd 10 rfl;have kN:=hw 130 11 rfl;have gb:y 11=_:=hd 11 rfl;have kM:=hw 131 12 rfl;have ga:y 12=_:=hd 12 rfl;refine aj (.agg #[.int .i64 (F:Int),.int .i64 (I:Int),.int .i64 (j:Int)]) (ah rfl) (by simp[execOp,go_sem,kO,gc,kN,gb,kM,ga]) rfl
     ·intro ρ y W L hw hn o s hb hd;have kL:=hw 132 13 rfl;have k9:y 13=_:=hd 13 rfl;refine eu (.slice (some ⟨W.heap.size,0,none⟩) 1 1) (ah rfl) ?_ (UF (W':=W.alloc (.cells (Bf ⟨(F:Int),(I:Int),(j:Int)⟩) 106)) hb ((Below.refl _ _).alloc (az _) _) ⟨az _,by unfold maxLen;omega,fun e=>(by cases e),dI.new _ _ _⟩) trivial;simp[execOp,go_sem,kL.trans k9,Bf]
     ·intro ρ y W L hw hn o s hb hd;have kP:=hw 128 9 rfl;have h9:=hd 9 rfl;have kJ:=hw 133 14 rfl;have gA:=hd 14 rfl;obtain⟨a,e,hx1,hB⟩:=hb.2.2.2.2.2.1 (s 14 rfl) o;have hv:=hb.2.2.2.2.1 (s 9 rfl) o;refine jJ (ah rfl) (mM _ _ _ rfl W8.heap.size 106 (.agg #[.int .i64 0,.int .i64 0,.int .i64 0]) 3 24 underlying38 cached_info rfl (by decide) (y 9) q _ kP hv a 1 e _ (kJ.trans hx1) hB.nl hB.le rfl hB.rd (Oz _) (by unfold maxLen;omega) (by omega) hb.1.size) (fun v W1 h=>UL hb o (s 9 rfl) h.2.1 h.1) (fun _ _ _=>trivial)
     ·intro ρ y W L hw hn o s hb hd;refine ed fM (fun _ _ h=>h) hb ?_;have kH:=hw 138 19 rfl;have k8:y 19=_:=hd 19 rfl;refine aj (.slice S.H.ac S.H.ca.length S.H.cc) (ah rfl) (by simp[execOp,go_sem,kH,k8,(hI.below hb.1).blk.cell,ja,MW.frs,MW.lst]) rfl
     ·intro ρ y W L hw hn o s hb hd;refine ed fM (fun _ _ h=>h) hb ?_;have kG:=hw 139 20 rfl;have k7:y 20=_:=hd 20 rfl;have kF:=hw 140 21 rfl;have k6:y 21=_:=hd 21 rfl;exact RX (ah rfl) (RG (W0:=W8) rfl (kG.trans k7) (kF.trans k6) hq underlying38 cached_size (mU _) sC) (fun _ h=>h)
     ·intro ρ y W L hw hn o s hb hd;have kI:=hw 134 15 rfl;have gz:=hd 15 rfl;have kE:=hw 141 22 rfl;have k5:=hd 22 rfl;obtain⟨a,e,hx1,hB⟩:=k5;have hv:=hb.2.2.2.2.2.2.1 (s 15 rfl) o;refine jJ (ah rfl) (mM _ _ _ rfl W8.heap.size 106 (.agg #[.int .i64 0,.int .i64 0,.int .i64 0]) 3 24 underlying38 cached_info rfl (by decide) (y 15) (q+1) _ kI hv a (S.H.ca.length-q) e _ (kE.trans hx1) hB.nl hB.le dlen (hB.below hb.1).rd (fun u hu=>Jm _ u (List.mem_of_mem_drop hu)) (by unfold maxLen;omega) (by omega) hb.1.size) (fun v W1 h=>UO hb o (s 15 rfl) h.2.1 h.1) (fun _ _ _=>trivial)
     intro y W9 hF kb;have gk:((cB fun v => ∃a e,v = .slice a (S.H.ca.length-q) e∧ui W8 a e (S.H.ca.length-q) ((S.H.ca.flatMap mE).drop (q*3)))).r (y 22) W9:=kb 22 (by decide);clear kb;have ht:=hF.2.2.2.2.2.2.2 rfl;have hM:=hI.below hF.1;have s10:=s9.below hF.1;rw[JX _ _ _ hq] at ht;have hQ:Hid ((S.H.ca.insertIdx q (⟨(F:Int),(I:Int),(j:Int)⟩:Cc)).length=q+1+(S.H.ca.length-q)):=Lib.hid (by rw[List.length_insertIdx_of_le_length hq];omega);obtain⟨a9,c9,kq,_⟩:=ht.rd;rw[kq] at ht ⊢;have kx:Hid (∀x,oB a9=some x→w.heap.size≤x):=Lib.hid fun x hx=>aY s9.size (iV ht hx).1;have ht:=ht.mono (aY hI.bs (az _));clear kq hF hI s9 sT sC tlen dlen h7 s7
     go_wp2_with (refine aD rfl _ _ _ rfl b 10 _ [.slice a9 (q+1+(S.H.ca.length-q)) c9] rfl rfl rfl _ _ hM.blk (by show 10+1≤13;omega) (by kernel_rfl) (fun u hu=>by cases bv.1 hu;rfl) ?_)
     intro w11 ka hR;have kv:=hM.setC (l:=S.H.ca.insertIdx q ⟨(F:Int),(I:Int),(j:Int)⟩) (by rw[hQ.out];exact ht) (by rw[hQ.out];exact ka) hR;have s12:=s10.put (H':=_) hR (.inl rfl) (fun x (hx:mR b { ((S.lst a7 c7 l7).frs (S.H.m.fs.set j ⟨P2,1,u,d,(F:Int),(I:Int)⟩)) with H:={ ((S.lst a7 c7 l7).frs (S.H.m.fs.set j ⟨P2,1,u,d,(F:Int),(I:Int)⟩)).H with ac:=a9,cc:=c9,ca:=S.H.ca.insertIdx q ⟨(F:Int),(I:Int),(j:Int)⟩ } } x)=>by
      rcases hx with hx|hx
      ·exact .inl (.inl hx)
      simp only[iA,bU,fZ,or_false] at hx;rcases hx with hx|hx|hx|hx|hx|hx|hx|hx|hx
      ·exact .inl (.inr (by simp only[iA,bU,fZ,or_false];exact .inl hx))
      ·exact .inl (.inr (by simp only[iA,bU,fZ,or_false];exact .inr (.inl hx)))
      ·exact .inl (.inr (by simp only[iA,bU,fZ,or_false];exact .inr (.inr (.inl hx))))
      ·exact .inl (.inr (by simp only[iA,bU,fZ,or_false];exact .inr (.inr (.inr (.inl hx)))))
      ·exact .inl (.inr (by simp only[iA,bU,fZ,or_false];exact .inr (.inr (.inr (.inr (.inl hx))))))
      ·exact .inl (.inr (by simp only[iA,bU,fZ,or_false];exact .inr (.inr (.inr (.inr (.inr (.inl hx)))))))
      ·exact .inr (kx.out x hx.symm)
      ·exact .inl (.inr (by simp only[iA,bU,fZ,or_false];exact .inr (.inr (.inr (.inr (.inr (.inr (.inr (.inl hx)))))))))
      ·exact .inl (.inr (by simp only[iA,bU,fZ,or_false];exact .inr (.inr (.inr (.inr (.inr (.inr (.inr (.inr hx))))))))))
     clear hM s10 ka hR ht;go_wp2;go_ret;have ki:=hA.out.cache (X:=⟨P2,1,u,d,(F:Int),(I:Int)⟩) ke.out hX.out k0 kw.out ⟨rfl,rfl,rfl⟩ (by rw[kC.out];exact kB.out.1) kB.out.2;refine⟨j,_,rfl,kv,s12,⟨rfl,rfl,rfl,rfl,bP,rfl⟩,rfl,?_,.inr ⟨⟨(F:Int),(I:Int),(j:Int)⟩,(JI hq).2 (.inl rfl),rfl,rfl,rfl⟩⟩;unfold zG at ki;rw[show zy S.H.ma.ca F I=q from kA.out] at ki;exact ki
theorem go_on:∀ {r:List Ar} {q:Ar},aS q=0→srtF q.en r→∀n,onA (um q r) n=onA (q::r) n
 | [],q,_,_,n=>rfl
 | a::r,q,hq,h,n=>by
  unfold um;split
  ·rename_i hj;rw[go_on (Cs hq h.1 hj) (by simpa using h.2.2) n,Rv hq h.1 hj]
  ·rw[dw,go_on h.1 h.2.2 n,←dw]
theorem go_ok:∀ {r:List Ar} {q:Ar} {p:Option Ar},aS q=0→srtF q.en r→wI p q=false→okF p (um q r)
 | [],q,p,hq,_,hb=>⟨hq,hb,trivial⟩
 | a::r,q,p,hq,h,hb=>by
  unfold um;split
  ·rename_i hj;refine go_ok (Cs hq h.1 hj) (by simpa using h.2.2) ?_;cases p with
   | none=>rfl
   | some z=>exact hb
  rename_i hj;exact⟨hq,hb,go_ok h.1 h.2.2 (AQ.2 ⟨h.2.1,by simpa using hj⟩)⟩
theorem Js {l:List Ar} (h:srtF lo l) (n:Int):onA (tV l) n=onA l n:=by
 match l,h with
 | [],_=>rfl
 | a::r,h=>rw[yK,go_on h.1 h.2.2]
theorem Ig {l:List Ar} (h:srtF lo l):okF none (tV l):=by
 match l,h with
 | [],_=>trivial
 | a::r,h=>rw[yK];exact go_ok h.1 h.2.2 rfl
def oC (o:Option Pg):Array Value:=#[.bool o.isSome,.bool (oR o),.bool (oW o),.bool (oH o),.int .i64 (oF o),.int .i64 (oP o)]
def qp (o:Option Pg):List Value:=(oC o).toList
theorem nQ (o:Option Pg):(qp o).length=6:=rfl
theorem Kj (o:Option Pg):∀u∈qp o,u.oneCell' = true:=by
 intro u hu;simp only[qp,oC,bU,fZ,or_false] at hu;rcases hu with rfl|rfl|rfl|rfl|rfl|rfl<;>rfl
theorem Lf (o:Option Pg):(oC o).all (·.oneCell')=true:=by simp[oC,Value.oneCell']
def NT (l:List (Option Pg)):Array Value:=(l.flatMap qp).toArray
theorem Ww (l:List (Option Pg)):(l.flatMap qp).length=l.length*6:=Pw.flat_len qp 6 nQ l
theorem Av (l:List (Option Pg)):(NT l).size=l.length*6:=by
 unfold NT;rw[List.size_toArray,Ww]
theorem zF (l:List (Option Pg)):(NT l).all (·.oneCell')=true:=by
 rw[←jr,dF];intro u hu;obtain⟨o,_,h⟩:=jY.1 (show u∈l.flatMap qp by simpa[NT] using hu);exact Kj o u h
theorem Vm (l:List (Option Pg)) (k:Nat) (hk:k<l.length) (x:Option Pg):bD (NT l) (k*6) (qp x)=NT (l.set k x):=by
 apply mr;intro i
 by_cases hi:i<l.length*6
 ·have hq:i / 6<l.length:=by omega
  have b:i=i / 6*6+i%6:=by omega
  have h2:=jw qp 6 nQ (l.set k x) (i / 6) (by simpa using hq) (i%6) (by omega);rw[←b] at h2;have h3:=jw qp 6 nQ l (i / 6) hq (i%6) (by omega);rw[←b] at h3;have e2:(NT (l.set k x))[i]?=((l.set k x).flatMap qp)[i]?:=by simp[NT]
  have e3:(NT l)[i]?=(l.flatMap qp)[i]?:=by simp[NT]
  by_cases e:i / 6=k
  ·have c:i=k*6+i%6:=by omega
   have a:i%6<(qp x).length:=by rw[nQ];omega
   have h1:=putAt_in (qp x) (NT l) (k*6) (i%6) (qp x)[i%6] (by rw[nQ,Av];omega) (aI a);rw[←c] at h1;rw[h1,e2,h2];simp only[e,IQ];exact (aI a).symm
  rw[putAt_out _ _ _ _ (by rw[nQ];omega),e2,h2,e3,h3];congr 2;rw[AU (fun h=>e h.symm)]
 ·rw[lF (by rw[size_putAt,Av];omega),lF (by rw[Av,bP];omega)]
def fC (f:Nat→Option Pg):Array Value:=NT (NW f)
theorem jy (f:Nat→Option Pg):(fC f).size=384:=by unfold fC;rw[Av,yu]
theorem Rl (f:Nat→Option Pg) (k:Nat) (hk:k<64) (x:Option Pg):bD (fC f) (k*6) (qp x)=fC (fun i=>if i=k then x else f i):=by
 unfold fC;rw[Vm _ _ (by rw[yu];exact hk),Va]
theorem TE (cur:Array Value) (o:Nat) (a b c d e x y:Value):bD (bD cur o [a,b,c,d,e,x]) (o+5) [y]=bD cur o [a,b,c,d,e,y]:=by
 simp[bD]
theorem one_size:(Tryz.prog.info? 109).map (·.size)=some 6:=by kernel_rfl
theorem ones_size:(Tryz.prog.info? 110).map (·.size)=some 384:=by kernel_rfl
theorem nL (l:List Ar) (a:Option Addr) (c:Nat) (w:World) (h:dI w a (l.flatMap mP)) (hl:l.length≤1000) (hok:∀x∈l,aS x=0) :
  Calls Tryz.prog 49 #[.slice a l.length c] w fun r w'=>r = .returned (.agg (fC (bZ l)))∧Below w.heap.size w w':=by
 go_enter func49,ntmps49;go_upto_region 2 with (fail);refine qQ (fun W=>Code.wp _ _ _ _ W) fun W0 hy j hc hE => ?_;clear hE;replace hc:aA W0 (w.heap.size+1) (fC f0) 110:=hc;replace j:aA W0 w.heap.size (fC f0) 110:=j;go_upto_region 3 with (fail)
 go_loopw [9] (fun i wr => ∃k:Nat,k≤l.length∧i = .int .i64 k∧Below w.heap.size w wr∧aA wr (w.heap.size+1) (fC (bZ (l.take k))) 110∧aA wr w.heap.size (fC f0) 110) (fun i _=>l.length-(intOf i).toNat)
 case atStart=>exact⟨0,aW _,rfl,hy,hc,j⟩
 case round=>
  clear hy hc j;obtain⟨k,hk,rfl,d,t,hi⟩:=hrel
  by_cases hlt:k<l.length
  ·have hI:=Lib.hid (LQ hlt);have hA:=bI (hok l[k] (dM _));obtain⟨⟨f1,f2,f3⟩,f4,f5,f6,_,_⟩:=hA;generalize hF:bZ (l.take k)=F at *
   obtain⟨b,off,rfl,c0,c1,c2,c3,c4,c5,c6⟩:=Mv (h.below d) k hlt;generalize l[k]=A at *
   go_upto_region 5 with (fail);refine gF (fun W=>Code.wp _ _ _ _ W) fun W1 hd ha hD => ?_;clear hD c0 c1 c2 c3 c4 c5 c6;have y:=ae d hd;have hv:=t.ext hd;have hs:=hi.ext hd;have hK:w.heap.size+1<wr.heap.size:=t.lt;clear d t hi hd;obtain⟨gx,hg⟩:∃g,g=wr.heap.size:=⟨_,rfl⟩;rw[←hg] at ha hK ⊢;clear hg;obtain⟨N,hN⟩:∃N:Nat,A.fr=(N:Int):=⟨A.fr.toNat,by omega⟩;have hf:=Lib.hid hN;clear hN;have n:=ha.cell;go_upto_region 6 with (fail);clear n
   go_loopw [6] (fun i wr => ∃K:Nat,A.fr≤(K:Int)∧(K:Int)≤A.en∧i = .int .i64 K∧Below w.heap.size w wr∧aA wr gx (oz A) 99∧aA wr (w.heap.size+1) (fC (Kz A K F)) 110∧aA wr w.heap.size (fC f0) 110) (fun i _=>(A.en-intOf i).toNat)
   case atStart=>exact⟨N,by have:=hf.out;omega,by have:=hf.out;omega,by rw[hf.out],y,ha,by rw[←hf.out,Px];exact hv,hs⟩
   case round=>
    clear y ha hv hs;obtain⟨K,hM,hQ,rfl,d,hx,ho,hr⟩:=hrel;have n:=hx.cell;unfold oz at n
    by_cases hKe:(K:Int)<A.en
    ·have hB:K<64:=by omega
     have hL:(K:Int)<64:=by omega
     have hh:Hid (K*6+6≤(fC (Kz A K F)).size):=Lib.hid (by rw[jy];omega);have hP:IntKind.i64.wrap (A.ba+(K:Int))=A.ba+(K:Int):=bO _ (by omega);have hO:IntKind.i64.wrap (A.ba+(K:Int)-A.fr)=A.ba+(K:Int)-A.fr:=bO _ (by omega);have s:Hid (∀q:Int,q=(if 0≤A.fi then A.ba+(K:Int)-A.fr else 0)→bD (fC (Kz A K F)) (K*6) [.bool true,.bool A.rd,.bool A.wr,.bool A.sh,.int .i64 A.fi,.int .i64 q]=fC (Kz A ((K:Int)+1) F)):=Lib.hid (fun q hq=>by rw[←Ua hM,←Rl _ K hB,hq];rfl);go_upto_region 9 with (refine gZ rfl _ _ _ rfl (w.heap.size+1) (K*6) #[.bool true,.bool A.rd,.bool A.wr,.bool A.sh,.int .i64 A.fi,.int .i64 0] rfl rfl _ _ ho hh.out one_size (by simp[Value.oneCell']) ?_);intro W2 hb p;have m:Below w.heap.size w W2:=d.grown p d.size (fun k hk=>by cases hk;omega);have z:aA W2 gx (oz A) 99:=hx.grown p (fun e=>by have:=aJ e;omega);have hm:aA W2 w.heap.size (fC f0) 110:=hr.grown p (fun e=>by have:=aJ e;omega);clear d hx ho hr p n;have n:=z.cell;unfold oz at n
     by_cases hfi:0≤A.fi
     ·go_upto_region 7 with (refine aD rfl _ _ _ rfl (w.heap.size+1) (K*6+5) (.int .i64 (A.ba+(K:Int)-A.fr)) [.int .i64 (A.ba+(K:Int)-A.fr)] rfl rfl rfl _ _ hb (by rw[size_putAt];exact hh.out) int_size (by simp[Value.oneCell']) ?_);intro W3 hu o;have hp:Below w.heap.size w W3:=m.grown o m.size (fun k hk=>by cases hk;omega);have hC:aA W3 gx (oz A) 99:=z.grown o (fun e=>by have:=aJ e;omega);have hH:aA W3 w.heap.size (fC f0) 110:=hm.grown o (fun e=>by have:=aJ e;omega);have u:aA W3 (w.heap.size+1) (fC (Kz A ((K:Int)+1) F)) 110:=by rw[←s.out _ (by rw[if_pos hfi]),←TE];exact hu
      clear m z hb hm hu o n s;go_wp2;go_roundw
      case rel=>exact⟨K+1,by omega,by omega,by go_num,hp,hC,u,hH⟩
      case measure=>simp[intOf];omega
     have u:aA W2 (w.heap.size+1) (fC (Kz A ((K:Int)+1) F)) 110:=by rw[←s.out 0 (by rw[if_neg hfi])];exact hb
     clear hb s;go_wp2;go_roundw
     case rel=>exact⟨K+1,by omega,by omega,by go_num,m,z,u,hm⟩
     case measure=>simp[intOf];omega
    have hz:(K:Int)=A.en:=by omega
    have u:aA wr (w.heap.size+1) (fC (bZ (l.take (k+1)))) 110:=by rw[hI.out,←hz];exact ho
    clear ho hz;go_wp2;go_roundw
    case rel=>exact⟨k+1,by omega,by go_num,d,u,hr⟩
    case measure=>simp[intOf];omega
  have hJ:k=l.length:=by omega
  subst hJ;rw[yj] at t;have f:Hid ((fC (bZ l)).size=384):=Lib.hid (jy _);have hj:Hid ((fC f0).size=384):=Lib.hid (jy _);have ht:(fC (bZ l)).all (·.oneCell')=true:=zF _
  go_wp2_with (first | (refine gJ rfl 110 (.tmp 3) rfl (w.heap.size+1) 0 rfl (fC (bZ l)).toList t.rd _ underlying110 rfl (by rw[iO,f.out];exact ones_size) ?_) | (refine ay rfl _ (.tmp 2) (.tmp 46) rfl w.heap.size (fC (bZ l)) rfl rfl _ _ hi (by rw[f.out,hj.out]) (by rw[f.out];exact ones_size) ht ?_))
  intro w5 hG hw;have hn:Below w.heap.size w w5:=d.grown hw d.size (fun k hk=>by cases hk;omega);go_wp2;refine bodyPost_ret (v:=.agg (fC (bZ l))) (eO results49 _ _ w.heap.size _ _ _ rfl hG underlying110 rfl (by rw[f.out];exact ones_size)) rfl ?_;exact⟨rfl,hn⟩
theorem GR (a:Ar) (w:World):Calls Tryz.prog 103 #[.agg (oz a)] w fun r w'=>r = .returned (.int .i64 (aS a))∧Below w.heap.size w w':=by
 unfold oz;go_enter func103,ntmps103;go_upto_region 1 with (fail);refine gF (fun W=>Code.wp _ _ _ _ W) fun W0 b e f => ?_;clear f;have d:=e.cell
 by_cases g1:a.fr<0
 ·have hz:Hid (aS a=3):=Lib.hid (by unfold aS;rw[if_pos (by omega)]);go_wp2;go_ret;exact⟨aU hz.out.symm,b⟩
 by_cases g2:64<a.en
 ·have hz:Hid (aS a=3):=Lib.hid (by unfold aS;rw[if_pos (by omega)]);go_wp2;go_ret;exact⟨aU hz.out.symm,b⟩
 by_cases g3:a.en≤a.fr
 ·have hz:Hid (aS a=3):=Lib.hid (by unfold aS;rw[if_pos (by omega)]);go_wp2;go_ret;exact⟨aU hz.out.symm,b⟩
 by_cases g4:a.fi < -1
 ·have hz:Hid (aS a=3):=Lib.hid (by unfold aS;rw[if_pos (by omega)]);go_wp2;go_ret;exact⟨aU hz.out.symm,b⟩
 by_cases g5:4<a.fi
 ·have hz:Hid (aS a=3):=Lib.hid (by unfold aS;rw[if_pos (by omega)]);go_wp2;go_ret;exact⟨aU hz.out.symm,b⟩
 by_cases g6:a.ba<0
 ·have hz:Hid (aS a=3):=Lib.hid (by unfold aS;rw[if_pos (by omega)]);go_wp2;go_ret;exact⟨aU hz.out.symm,b⟩
 have c:¬(a.fr<0∨a.en≤a.fr∨64<a.en∨a.fi < -1∨5≤a.fi∨a.ba<0):=by omega
 have h:IntKind.i64.wrap (a.en-a.fr)=a.en-a.fr:=bO _ (by omega);have g:IntKind.i64.wrap (12-(a.en-a.fr))=12-(a.en-a.fr):=bO _ (by omega)
 by_cases f1:a.fi = -1
 ·have f1' : (a.fi == -1)=true:=by simpa using f1
  by_cases f2:a.ba=0
  ·have f2' : ¬0<a.ba:=by omega
   cases f3:a.sh
   ·have hz:Hid (aS a=0):=Lib.hid (by unfold aS;rw[if_neg c,if_neg (by rw[f3];simp;omega)]);have f4:¬0≤a.fi:=by omega
    clear c f1 f2;rw[f3] at d;go_wp2;go_ret;exact⟨aU hz.out.symm,b⟩
   have hz:Hid (aS a=7):=Lib.hid (by unfold aS;rw[if_neg c,if_pos (.inl ⟨by omega,.inr f3⟩)]);clear c f1 f2;rw[f3] at d;go_wp2;go_ret;exact⟨aU hz.out.symm,b⟩
  have hz:Hid (aS a=7):=Lib.hid (by unfold aS;rw[if_neg c,if_pos (.inl ⟨by omega,.inl f2⟩)]);have f2' : 0<a.ba:=by omega
  clear c f1 f2;go_wp2;go_ret;exact⟨aU hz.out.symm,b⟩
 have f1' : 0≤a.fi:=by omega
 have f1'' : (a.fi == -1)=false:=by simpa using f1
 by_cases f2:12-(a.en-a.fr)<a.ba
 ·have hz:Hid (aS a=7):=Lib.hid (by unfold aS;rw[if_neg c,if_pos (.inr ⟨f1',f2⟩)]);clear c f1;go_wp2;go_ret;exact⟨aU hz.out.symm,b⟩
 have hz:Hid (aS a=0):=Lib.hid (by unfold aS;rw[if_neg c,if_neg (by omega)]);clear c f1;go_wp2;go_ret;exact⟨aU hz.out.symm,b⟩
theorem Xl (p q:Pg) (b:Bool) (h:(p==q)=b) (W:World):(Op.equalIn 10000 109 (.agg #[.bool true,.bool p.rd,.bool p.wr,.bool p.sh,.int .i64 p.fi,.int .i64 p.pg]) (.agg #[.bool true,.bool q.rd,.bool q.wr,.bool q.sh,.int .i64 q.fi,.int .i64 q.pg])).run Tryz.prog W = .ok b W:=by
 rw[←h,VN]
 by_cases h3:p.rd=q.rd
 ·by_cases h4:p.wr=q.wr
  ·by_cases h5:p.sh=q.sh
   ·by_cases h6:(p.fi==q.fi)=true
    ·by_cases h7:p.pg=q.pg<;>simp[go_sem,h3,h4,h5,h6,h7]
    ·simp[go_sem,h3,h4,h5,h6]
   ·simp[go_sem,h3,h4,h5]
  ·simp[go_sem,h3,h4]
 ·simp[go_sem,h3]
theorem Wh (q:Pg) (x:Int) (W:World):(Op.equalIn 10000 109 (.agg #[.bool false,.bool false,.bool false,.bool false,.int .i64 0,.int .i64 x]) (.agg #[.bool true,.bool q.rd,.bool q.wr,.bool q.sh,.int .i64 q.fi,.int .i64 q.pg])).run Tryz.prog W = .ok false W:=by
 simp[go_sem]
theorem OJ (f:Nat→Option Pg) (k:Nat) (hk:k<64):(fC f).extract (k*6) (k*6+6)=oC (f k):=by
 apply mr;intro i
 by_cases hi:i<6
 ·rw[Array.getElem?_extract,if_pos (by rw[jy];omega)];have:=jw qp 6 nQ (NW f) k (by rw[yu];exact hk) i hi;have e:(fC f)[k*6+i]?=((NW f).flatMap qp)[k*6+i]?:=by simp[fC,NT]
  have e2:(NW f)[k]'(by rw[yu];exact hk)=f k:=by simp[NW]
  rw[e,this,e2];simp[qp]
 ·rw[lF (by simp;omega),lF (by simp[oC];omega)]
theorem zV (f:Nat→Option Pg) (k j:Nat) (hk:k<64) (u:Value) (h:(qp (f k))[j]?=some u) (hj:j<6):(fC f)[k*6+j]?=some u:=by
 have:=jw qp 6 nQ (NW f) k (by rw[yu];exact hk) j hj;have e:(fC f)[k*6+j]?=((NW f).flatMap qp)[k*6+j]?:=by simp[fC,NT]
 have e2:(NW f)[k]'(by rw[yu];exact hk)=f k:=by simp[NW]
 rw[e,this,e2];exact h
theorem yA (f:Nat→Option Pg) (k:Nat) (hk:k<64) (o:Option Pg) (ho:f k=o) (w:World):(Instr.index 110 (.agg (fC f)) (.int .i64 k)).run Tryz.prog w = .ok (.agg (oC o)) w:=
 xu underlying110 underlying109 rfl one_size _ k _ hk (by rw[←ho];exact OJ f k hk) _ w
theorem vz {a:Act} (hg:o.guard=none) (t t' : TypeId) (x y:Operand) (ho:o.op = .binOp .eql t x y t') (vx vy:Value) (hx:a.eval x=vx) (hy:a.eval y=vy) (B:Bool)
 (hr:(do eqGuard .eql t x y vx vy;binOp .eql t vx vy:Sem Value).run P w = .ok (.bool B) w) (h:wpList P ops Q rest (a.put o.dst (.bool B)) w):wpList P ops Q (o::rest) a w:=
 wpList_plain hg fun K hK=>by unfold Oper.wp;rw[pU ho hx hy hr];exact hK _ _ h
theorem Tf (p q:Pg) (b:Bool) (h:(p==q)=b) (x y:Operand) (W:World):(do eqGuard .eql 109 x y (.agg #[.bool true,.bool p.rd,.bool p.wr,.bool p.sh,.int .i64 p.fi,.int .i64 p.pg]) (.agg #[.bool true,.bool q.rd,.bool q.wr,.bool q.sh,.int .i64 q.fi,.int .i64 q.pg]);binOp .eql 109 (.agg #[.bool true,.bool p.rd,.bool p.wr,.bool p.sh,.int .i64 p.fi,.int .i64 p.pg]) (.agg #[.bool true,.bool q.rd,.bool q.wr,.bool q.sh,.int .i64 q.fi,.int .i64 q.pg]):Sem Value).run Tryz.prog W = .ok (.bool b) W:=by
 have hE:=Xl p q b h;simp[go_sem,hE]
theorem OE (q:Pg) (z:Int) (x y:Operand) (W:World):(do eqGuard .eql 109 x y (.agg #[.bool false,.bool false,.bool false,.bool false,.int .i64 0,.int .i64 z]) (.agg #[.bool true,.bool q.rd,.bool q.wr,.bool q.sh,.int .i64 q.fi,.int .i64 q.pg]);binOp .eql 109 (.agg #[.bool false,.bool false,.bool false,.bool false,.int .i64 0,.int .i64 z]) (.agg #[.bool true,.bool q.rd,.bool q.wr,.bool q.sh,.int .i64 q.fi,.int .i64 q.pg]):Sem Value).run Tryz.prog W = .ok (.bool false) W:=by
 have hE:=Wh q z;simp[go_sem,hE]
theorem BR (f:Nat→Option Pg) (w:World) (hf:∀i p,f i=some p→0≤p.pg∧p.pg≤100) :
  Calls Tryz.prog 123 #[.agg (fC f)] w fun r w' => ∃v,r = .returned v∧Own w' w.heap.size 99 7 v (kV f 64).length ((kV f 64).flatMap mP)∧Below w.heap.size w w':=by
 have hM:=Lib.hid (jy f);go_enter func123,ntmps123;go_upto_region 1 with (fail);refine gF (fun W=>Code.wp _ _ _ _ W) fun W0 h7 hJ hv => ?_;clear hv;go_upto_region 3 with (refine ax _ _ rfl _ 0 rfl rfl _ hJ.rd _ underlying110 rfl (by rw[iO,hM.out];exact ones_size) ?_)
 go_loopw [9,3] (fun i u wr => ∃k:Nat,k≤64∧i = .int .i64 k∧Below w.heap.size w wr∧aA wr w.heap.size (fC f) 110∧Own wr w.heap.size 99 7 u (kV f k).length ((kV f k).flatMap mP)) (fun i _ _=>64-(intOf i).toNat)
 case atStart=>exact⟨0,aW _,rfl,h7,hJ,by simpa[kV] using Own.nil _ _ _ _⟩
 case round=>
  clear h7 hJ;obtain⟨k,hk,rfl,a,o,b⟩:=hrel
  by_cases hlt:k<64
  ·have kf:(k:Int)<64:=by omega
   have ki:=Iq f k;cases hfk:f k with
   | none=>
    have hQ:=yA f k hlt none hfk;unfold oC oR oW oH oF oP at hQ;have hb:=Lib.hid (SG hfk);go_upto_region 5 with (fail);refine gF (fun W=>Code.wp _ _ _ _ W) fun W1 hq hn hO => ?_;have hg:=hn.cell;have hW:=ae a hq;have h6:=o.ext hq;have hA:=b.below hq;clear hO hq a o b;rw[←hb.out] at hA;go_wp2;go_roundw
    case rel=>exact⟨k+1,by omega,by go_num,hW,h6,hA⟩
    case measure=>simp[intOf];omega
   | some p=>
    have hQ:=yA f k hlt (some p) hfk;unfold oC oR oW oH oF oP at hQ;go_upto_region 5 with (fail);refine gF (fun W=>Code.wp _ _ _ _ W) fun W1 hq hn hO => ?_;have a:=ae a hq;have o:=o.ext hq;have b:=b.below hq;clear hO hq;obtain⟨gx,h5⟩:∃g,g=wr.heap.size:=⟨_,rfl⟩;rw[←h5] at hn ⊢;clear h5;generalize hacc:kV f k=acc at *
    obtain⟨au,cu,rfl,_⟩:=b.rd;have hg:=hn.cell;have kh:IntKind.i64.wrap ((k:Int)+1)=(k:Int)+1:=bO _ (by omega)
    by_cases hk0:k=0
    ·have hv:lQ f k p=false:=by rw[hk0];rfl
     have hb:Hid (kV f (k+1)=acc++[fE k p]):=Lib.hid (by rw[CP hfk hv,hacc]);have h4:¬(0:Int)<(k:Int):=by omega
     have h3:¬0<k:=by omega
     clear hk0 hv hfk hacc;go_upto_region 14 with (fail)
     go_wp2_with (at_builtin;refine fe rfl _ _ 50 rfl w.heap.size 99 _ 7 40 underlying50 area_info rfl (by decide) _ acc.length (acc.flatMap mP) rfl (b.alloc _) (some ⟨W1.heap.size,0,none⟩) 1 1 (mP (fE k p)) rfl (fun h=>(by cases h)) (az _) rfl (dI.new _ (oz (fE k p)) _) (fun u hu=>ru [fE k p] u (by simpa using hu)) (by unfold maxLen;omega) (by omega) (cK a.size _) ?_)
     intro v W6 d l;have t:Below w.heap.size w W6:=(a.alloc a.size _).grown l (cK a.size _) (b.alloc (.cells (oz (fE k p)) 99)).ge;have x:aA W6 w.heap.size (fC f) 110:=kv (o.alloc (.cells (oz (fE k p)) 99)) (b.alloc (.cells (oz (fE k p)) 99)) (by decide) l;have s:Own W6 w.heap.size 99 7 v (kV f (k+1)).length ((kV f (k+1)).flatMap mP):=by rw[hb.out,fu,jP];simpa using d
     clear d l;go_wp2;go_roundw
     case rel=>exact⟨k+1,by omega,by go_num,t,x,s⟩
     case measure=>simp[intOf];omega
    obtain⟨m,hm⟩:∃m,k=m+1:=⟨k-1,by omega⟩;have h4:(0:Int)<(k:Int):=by omega
    have h3:0<k:=by omega
    have kg:IntKind.i64.wrap ((k:Int)-1)=(m:Int):=by rw[bO _ (by omega)];omega
    have h1:m<64:=by omega
    have kb:(m:Int)<64:=by omega
    have hH:∀z,lQ f k z=(match f m with | some q=>qm z q==z | none=>false):=fun z=>by subst hm;rfl
    have c:∀j u,(qp (f m))[j]?=some u→j<6→W1.cell? ⟨w.heap.size,m*6+j,none⟩=some u:=fun j u h hj=>by rw[o.cell];exact zV f m j h1 u h hj
    have h0:=Lib.hid hm;clear hm hk0;cases hfm:f m with
    | none=>
     have hv:lQ f k p=false:=by rw[hH,hfm]
     have hb:Hid (kV f (k+1)=acc++[fE k p]):=Lib.hid (by rw[CP hfk hv,hacc]);rw[hfm] at c;have d0:=c 0 _ rfl (by decide);have d1:=c 1 _ rfl (by decide);have d2:=c 2 _ rfl (by decide);have d3:=c 3 _ rfl (by decide);have d4:=c 4 _ rfl (by decide);have d5:=c 5 _ rfl (by decide);simp only[iH,Option.isSome,oR,oW,oH,oF,oP] at d0 d1 d2 d3 d4 d5;clear hH c hv hfk hacc;have hZ:IntKind.i64.wrap (0+1)=1:=by rw[bO _ (by omega)];try rfl
     go_upto_region 9 with (fail);refine gF (fun W=>Code.wp _ _ _ _ W) fun W2 hl hc hN => ?_;have a:=ae a hl;have hd:=o.ext hl;have y:=b.below hl;have hh:=hn.ext hl;have hD:gx<W1.heap.size:=hn.lt;have hR:w.heap.size<W1.heap.size:=o.lt;have hS:=a.size;clear hN hl o b hn hg d0 d1 d2 d3 d4 d5;have hg:=hh.cell
     by_cases hfi:0≤p.fi
     ·obtain⟨gy,hs⟩:∃g,g=W1.heap.size:=⟨_,rfl⟩;rw[←hs] at hc hD hR ⊢;clear hs;have hU:=hc.cell;go_upto_region 11 with (refine aD rfl _ _ _ rfl gy 5 (.int .i64 (1)) [.int .i64 (1)] rfl rfl rfl _ _ hc (by simp) int_size (by simp[Value.oneCell']) ?_);intro W3 hy ha;have hx:aA W3 gy #[.bool false,.bool (false),.bool (false),.bool (false),.int .i64 (0),.int .i64 (1)] 109:=hy;have a:=a.grown ha a.size (fun k hk=>by cases hk;omega);have ht:aA W3 w.heap.size (fC f) 110:=hd.grown ha (fun e=>by have:=aJ e;omega);have hz:aA W3 gx #[.bool true,.bool p.rd,.bool p.wr,.bool p.sh,.int .i64 p.fi,.int .i64 p.pg] 109:=hh.grown ha (fun e=>by have:=aJ e;omega);have b:=ak y hc (by decide) ha;have o:=ht;clear hc hy hd hh y ha hg hU ht hS;have hE:=OE p 1;go_upto_region 12 with (first | (refine ax _ _ rfl _ 0 rfl rfl _ hx.rd _ underlying109 rfl one_size ?_) | (refine ax _ _ rfl _ 0 rfl rfl _ hz.rd _ underlying109 rfl one_size ?_) | (refine vz rfl _ _ _ _ rfl _ _ rfl rfl _ (hE _ _ _) ?_));clear hE hx;have hg:=hz.cell;go_upto_region 14 with (fail)
      go_wp2_with (at_builtin;refine fe rfl _ _ 50 rfl w.heap.size 99 _ 7 40 underlying50 area_info rfl (by decide) _ acc.length (acc.flatMap mP) rfl (b.alloc _) (some ⟨W3.heap.size,0,none⟩) 1 1 (mP (fE k p)) rfl (fun h=>(by cases h)) (az _) rfl (dI.new _ (oz (fE k p)) _) (fun u hu=>ru [fE k p] u (by simpa using hu)) (by unfold maxLen;omega) (by omega) (cK a.size _) ?_)
      intro v W6 d l;have t:Below w.heap.size w W6:=(a.alloc a.size _).grown l (cK a.size _) (b.alloc (.cells (oz (fE k p)) 99)).ge;have x:aA W6 w.heap.size (fC f) 110:=kv (o.alloc (.cells (oz (fE k p)) 99)) (b.alloc (.cells (oz (fE k p)) 99)) (by decide) l;have s:Own W6 w.heap.size 99 7 v (kV f (k+1)).length ((kV f (k+1)).flatMap mP):=by rw[hb.out,fu,jP];simpa using d
      clear d l;go_wp2;go_roundw
      case rel=>exact⟨k+1,by omega,by go_num,t,x,s⟩
      case measure=>simp[intOf];omega
     have o:=hd;have b:=y;clear hd y;have hI : ¬0≤p.fi:=hfi;have hE:=OE p 0;go_upto_region 12 with (first | (refine ax _ _ rfl _ 0 rfl rfl _ hc.rd _ underlying109 rfl one_size ?_) | (refine ax _ _ rfl _ 0 rfl rfl _ hh.rd _ underlying109 rfl one_size ?_) | (refine vz rfl _ _ _ _ rfl _ _ rfl rfl _ (hE _ _ _) ?_));clear hE hc;have hg:=hh.cell;go_upto_region 14 with (fail)
     go_wp2_with (at_builtin;refine fe rfl _ _ 50 rfl w.heap.size 99 _ 7 40 underlying50 area_info rfl (by decide) _ acc.length (acc.flatMap mP) rfl (b.alloc _) (some ⟨W2.heap.size,0,none⟩) 1 1 (mP (fE k p)) rfl (fun h=>(by cases h)) (az _) rfl (dI.new _ (oz (fE k p)) _) (fun u hu=>ru [fE k p] u (by simpa using hu)) (by unfold maxLen;omega) (by omega) (cK a.size _) ?_)
     intro v W6 d l;have t:Below w.heap.size w W6:=(a.alloc a.size _).grown l (cK a.size _) (b.alloc (.cells (oz (fE k p)) 99)).ge;have x:aA W6 w.heap.size (fC f) 110:=kv (o.alloc (.cells (oz (fE k p)) 99)) (b.alloc (.cells (oz (fE k p)) 99)) (by decide) l;have s:Own W6 w.heap.size 99 7 v (kV f (k+1)).length ((kV f (k+1)).flatMap mP):=by rw[hb.out,fu,jP];simpa using d
     clear d l;go_wp2;go_roundw
     case rel=>exact⟨k+1,by omega,by go_num,t,x,s⟩
     case measure=>simp[intOf];omega
    | some q=>
     have kj:=hf m q hfm;have hi:=hH p;rw[hfm] at hi c;simp only[] at hi;have d0:=c 0 _ rfl (by decide);have d1:=c 1 _ rfl (by decide);have d2:=c 2 _ rfl (by decide);have d3:=c 3 _ rfl (by decide);have d4:=c 4 _ rfl (by decide);have d5:=c 5 _ rfl (by decide);simp only[iH,Option.isSome,oR,oW,oH,oF,oP] at d0 d1 d2 d3 d4 d5;generalize hBe:(qm p q==p)=B at hi;have hw:=Lib.hid hi;clear hH c hi;have kd:0≤p.fi→((⟨q.rd,q.wr,q.sh,q.fi,q.pg+1⟩:Pg)==p)=B:=fun h=>by rw[←hBe];unfold qm;rw[if_pos h]
     have ke:¬0≤p.fi→(q==p)=B:=fun h=>by rw[←hBe];unfold qm;rw[if_neg h]
     clear hBe;have hZ:IntKind.i64.wrap (q.pg+1)=(q.pg+1):=by rw[bO _ (by omega)];try rfl
     go_upto_region 9 with (fail);refine gF (fun W=>Code.wp _ _ _ _ W) fun W2 hl hc hN => ?_;have a:=ae a hl;have hd:=o.ext hl;have y:=b.below hl;have hh:=hn.ext hl;have hD:gx<W1.heap.size:=hn.lt;have hR:w.heap.size<W1.heap.size:=o.lt;have hS:=a.size;clear hN hl o b hn hg d0 d1 d2 d3 d4 d5;have hg:=hh.cell
     by_cases hfi:0≤p.fi
     ·obtain⟨gy,hs⟩:∃g,g=W1.heap.size:=⟨_,rfl⟩;rw[←hs] at hc hD hR ⊢;clear hs;have hU:=hc.cell;go_upto_region 11 with (refine aD rfl _ _ _ rfl gy 5 (.int .i64 ((q.pg+1))) [.int .i64 ((q.pg+1))] rfl rfl rfl _ _ hc (by simp) int_size (by simp[Value.oneCell']) ?_);intro W3 hy ha;have hx:aA W3 gy #[.bool true,.bool (q.rd),.bool (q.wr),.bool (q.sh),.int .i64 (q.fi),.int .i64 ((q.pg+1))] 109:=hy;have a:=a.grown ha a.size (fun k hk=>by cases hk;omega);have ht:aA W3 w.heap.size (fC f) 110:=hd.grown ha (fun e=>by have:=aJ e;omega);have hz:aA W3 gx #[.bool true,.bool p.rd,.bool p.wr,.bool p.sh,.int .i64 p.fi,.int .i64 p.pg] 109:=hh.grown ha (fun e=>by have:=aJ e;omega);have b:=ak y hc (by decide) ha;have o:=ht;clear hc hy hd hh y ha hg hU ht hS;have hE:=Tf ⟨q.rd,q.wr,q.sh,q.fi,q.pg+1⟩ p B (kd hfi);go_upto_region 12 with (first | (refine ax _ _ rfl _ 0 rfl rfl _ hx.rd _ underlying109 rfl one_size ?_) | (refine ax _ _ rfl _ 0 rfl rfl _ hz.rd _ underlying109 rfl one_size ?_) | (refine vz rfl _ _ _ _ rfl _ _ rfl rfl _ (hE _ _ _) ?_));clear hE hx;have hg:=hz.cell
      by_cases hB:B=true
      ·subst hB;have hb:=Lib.hid (RH hfk hw.out);rw[hacc] at hb;have ka:0<acc.length:=by have:=Re f hfm;rw[←h0.out,hacc] at this;exact this
       obtain⟨n,hC⟩:∃n,acc.length=n+1:=⟨acc.length-1,by omega⟩;have hP:n<acc.length:=by omega
       have hL:Hid (wQ acc ((k:Int)+1)=acc.set n { acc[n] with en:=(k:Int)+1 }):=Lib.hid (KP hC _);have h9:(n:Int)<(acc.length:Int):=by omega
       have h8:IntKind.i64.wrap ((acc.length:Int)-1)=(n:Int):=by rw[bO _ (by omega)];omega
       obtain⟨g,off1,cap1,hK,hX,kc,⟨csg,hp⟩,hF,hT,hr⟩:=xg sV (by decide) rfl b n hP 1 (by decide) (.int .i64 ((k:Int)+1)) { acc[n] with en:=(k:Int)+1 } rfl;cases hK;have hV:=hF 1 _ rfl;have hG:w.heap.size≠g:=by intro e;subst e;unfold aA at o hp;rw[o] at hp;simp at hp
       clear hF hC hfk hacc hfm;go_upto_region 15 with (fail);have t:Below w.heap.size w (W3.setCell ⟨g,off1+n*7+1,none⟩ (.int .i64 ((k:Int)+1))):=a.setCell hX _;have x:aA (W3.setCell ⟨g,off1+n*7+1,none⟩ (.int .i64 ((k:Int)+1))) w.heap.size (fC f) 110:=o.setCell_other _ _ (by simpa using hG);have s:Own (W3.setCell ⟨g,off1+n*7+1,none⟩ (.int .i64 ((k:Int)+1))) w.heap.size 99 7 (.slice (some ⟨g,off1,none⟩) acc.length cu) (kV f (k+1)).length ((kV f (k+1)).flatMap mP):=by rw[hb.out,hL.out,bP];exact hr
       clear hr b a o hT hV hp hg;go_wp2;go_roundw
       case rel=>exact⟨k+1,by omega,by go_num,t,x,s⟩
       case measure=>simp[intOf];omega
      have hY:B=false:=by simpa using hB
      subst hY;have hb:Hid (kV f (k+1)=acc++[fE k p]):=Lib.hid (by rw[CP hfk hw.out,hacc]);clear hfk hacc hfm hB;go_upto_region 14 with (fail)
      go_wp2_with (at_builtin;refine fe rfl _ _ 50 rfl w.heap.size 99 _ 7 40 underlying50 area_info rfl (by decide) _ acc.length (acc.flatMap mP) rfl (b.alloc _) (some ⟨W3.heap.size,0,none⟩) 1 1 (mP (fE k p)) rfl (fun h=>(by cases h)) (az _) rfl (dI.new _ (oz (fE k p)) _) (fun u hu=>ru [fE k p] u (by simpa using hu)) (by unfold maxLen;omega) (by omega) (cK a.size _) ?_)
      intro v W6 d l;have t:Below w.heap.size w W6:=(a.alloc a.size _).grown l (cK a.size _) (b.alloc (.cells (oz (fE k p)) 99)).ge;have x:aA W6 w.heap.size (fC f) 110:=kv (o.alloc (.cells (oz (fE k p)) 99)) (b.alloc (.cells (oz (fE k p)) 99)) (by decide) l;have s:Own W6 w.heap.size 99 7 v (kV f (k+1)).length ((kV f (k+1)).flatMap mP):=by rw[hb.out,fu,jP];simpa using d
      clear d l;go_wp2;go_roundw
      case rel=>exact⟨k+1,by omega,by go_num,t,x,s⟩
      case measure=>simp[intOf];omega
     have o:=hd;have b:=y;clear hd y;have hI : ¬0≤p.fi:=hfi;have hE:=Tf q p B (ke hI);go_upto_region 12 with (first | (refine ax _ _ rfl _ 0 rfl rfl _ hc.rd _ underlying109 rfl one_size ?_) | (refine ax _ _ rfl _ 0 rfl rfl _ hh.rd _ underlying109 rfl one_size ?_) | (refine vz rfl _ _ _ _ rfl _ _ rfl rfl _ (hE _ _ _) ?_));clear hE hc;have hg:=hh.cell
     by_cases hB:B=true
     ·subst hB;have hb:=Lib.hid (RH hfk hw.out);rw[hacc] at hb;have ka:0<acc.length:=by have:=Re f hfm;rw[←h0.out,hacc] at this;exact this
      obtain⟨n,hC⟩:∃n,acc.length=n+1:=⟨acc.length-1,by omega⟩;have hP:n<acc.length:=by omega
      have hL:Hid (wQ acc ((k:Int)+1)=acc.set n { acc[n] with en:=(k:Int)+1 }):=Lib.hid (KP hC _);have h9:(n:Int)<(acc.length:Int):=by omega
      have h8:IntKind.i64.wrap ((acc.length:Int)-1)=(n:Int):=by rw[bO _ (by omega)];omega
      obtain⟨g,off1,cap1,hK,hX,kc,⟨csg,hp⟩,hF,hT,hr⟩:=xg sV (by decide) rfl b n hP 1 (by decide) (.int .i64 ((k:Int)+1)) { acc[n] with en:=(k:Int)+1 } rfl;cases hK;have hV:=hF 1 _ rfl;have hG:w.heap.size≠g:=by intro e;subst e;unfold aA at o hp;rw[o] at hp;simp at hp
      clear hF hC hfk hacc hfm;go_upto_region 15 with (fail);have t:Below w.heap.size w (W2.setCell ⟨g,off1+n*7+1,none⟩ (.int .i64 ((k:Int)+1))):=a.setCell hX _;have x:aA (W2.setCell ⟨g,off1+n*7+1,none⟩ (.int .i64 ((k:Int)+1))) w.heap.size (fC f) 110:=o.setCell_other _ _ (by simpa using hG);have s:Own (W2.setCell ⟨g,off1+n*7+1,none⟩ (.int .i64 ((k:Int)+1))) w.heap.size 99 7 (.slice (some ⟨g,off1,none⟩) acc.length cu) (kV f (k+1)).length ((kV f (k+1)).flatMap mP):=by rw[hb.out,hL.out,bP];exact hr
      clear hr b a o hT hV hp hg;go_wp2;go_roundw
      case rel=>exact⟨k+1,by omega,by go_num,t,x,s⟩
      case measure=>simp[intOf];omega
     have hY:B=false:=by simpa using hB
     subst hY;have hb:Hid (kV f (k+1)=acc++[fE k p]):=Lib.hid (by rw[CP hfk hw.out,hacc]);clear hfk hacc hfm hB;go_upto_region 14 with (fail)
     go_wp2_with (at_builtin;refine fe rfl _ _ 50 rfl w.heap.size 99 _ 7 40 underlying50 area_info rfl (by decide) _ acc.length (acc.flatMap mP) rfl (b.alloc _) (some ⟨W2.heap.size,0,none⟩) 1 1 (mP (fE k p)) rfl (fun h=>(by cases h)) (az _) rfl (dI.new _ (oz (fE k p)) _) (fun u hu=>ru [fE k p] u (by simpa using hu)) (by unfold maxLen;omega) (by omega) (cK a.size _) ?_)
     intro v W6 d l;have t:Below w.heap.size w W6:=(a.alloc a.size _).grown l (cK a.size _) (b.alloc (.cells (oz (fE k p)) 99)).ge;have x:aA W6 w.heap.size (fC f) 110:=kv (o.alloc (.cells (oz (fE k p)) 99)) (b.alloc (.cells (oz (fE k p)) 99)) (by decide) l;have s:Own W6 w.heap.size 99 7 v (kV f (k+1)).length ((kV f (k+1)).flatMap mP):=by rw[hb.out,fu,jP];simpa using d
     clear d l;go_wp2;go_roundw
     case rel=>exact⟨k+1,by omega,by go_num,t,x,s⟩
     case measure=>simp[intOf];omega
  have h2:k=64:=by omega
  subst h2;go_wp2;go_ret;exact⟨_,rfl,b,a⟩
theorem Tm {a b:Ar} (ha:aS a=0) (hb:aS b=0) (h:a.en≤b.fr):(kV (bZ [a,b]) 64).length=if dC a b=true then 1 else 2:=by
 have hs:srtF 0 [a,b]:=⟨ha,(bI ha).1.2.1.1,hb,h,trivial⟩;have e:kV (bZ [a,b]) 64=tV [a,b]:=MI (Ig hs) fun i _=>by rw[nS hs,Js hs]
 rw[e,yK];unfold um;split<;>rfl
theorem UT (f:Nat→Option Pg) (m:List Ar) (hm:okF none m) (hf:∀i:Nat,i<64→f i=onA m i) (hf' : ∀i p,f i=some p→0≤p.pg∧p.pg≤100) (w:World) :
  Calls Tryz.prog 104 #[.agg (fC f)] w fun r w' => ∃v,r = .returned (.tuple #[v,.int .i64 (Fp m.length)])∧Own w' w.heap.size 99 7 v (if 16<m.length then [] else m).length ((if 16<m.length then [] else m).flatMap mP)∧Below w.heap.size w w':=by
 have c:=Lib.hid (jy f);have g:=Iq f 64;rw[MI hm hf] at g;go_enter func104,ntmps104;go_upto_region 1 with (fail);refine gF (fun W=>Code.wp _ _ _ _ W) fun W0 d e k => ?_;clear k
 go_wp2_with (refine ax _ _ rfl _ 0 rfl rfl _ e.rd _ underlying110 rfl (by rw[iO,c.out];exact ones_size) ?_)
 refine (BR f _ hf').mono ?_;rintro r w1 ⟨v1,rfl,a,j⟩;rw[MI hm hf] at a;have b:=ae d j;replace a:=a.mono d.size;obtain⟨a1,c1,rfl,_⟩:=a.rd;clear d e j
 by_cases h:16<m.length
 ·have hi:(16:Int)<(m.length:Int):=by omega
  have hd:Hid (Fp m.length=4):=Lib.hid (by unfold Fp;rw[if_pos h]);go_wp2;go_ret2;exact⟨.slice none 0 0,by first | (rw[hd.out];done) | (rw[hd.out];rfl),by first | exact Own.nil _ _ _ _ | (rw[if_pos h];exact Own.nil _ _ _ _),b⟩
 have hi:¬(16:Int)<(m.length:Int):=by omega
 have hd:Hid (Fp m.length=0):=Lib.hid (by unfold Fp;rw[if_neg h]);go_wp2;go_ret2;exact⟨.slice a1 m.length c1,by first | (rw[hd.out];done) | (rw[hd.out];rfl),by first | exact a | (rw[if_neg h];exact a),b⟩
theorem yG {l:Operand} (ho:o.op = .slice t x (some l) (some h) none) (hx:ρ x = .slice (some ⟨b,off,none⟩) n c) (hl:ρ l = .int .i64 O) (hh:ρ h = .int .i64 ((O:Int)+2))
 (ht:P.underlying t=some (.slice (P.elem t))) (hs:(P.info? (P.elem t)).map (·.size)=some sz) (hO:O+1<n) (hn:n≤c) :
  (execOp ρ o).run P w = .ok (.value (.slice (some ⟨b,off+O*sz,none⟩) 2 (c-O))) w:=by
 have a:(Go.sizeOf (P.elem t)).run P w = .ok sz w:=by
  cases hq:P.info? (P.elem t) with
  | none=>simp[hq] at hs
  | some i=>
   have hz:i.size=sz:=by simpa[hq] using hs
   simp[Go.sizeOf,typeInfo,run_program,hq,hz]
 unfold execOp;simp only[ho,hx,hl,hh,Option.map];rw[jX,run_sliceAt_slice w t _ _ _ _ ht,run_slice_lh w t _ n c ht .i64 .i64 O (O+2) (by omega) (by omega) (by omega),a];have e1:((O:Int)+2).toNat-(O:Int).toNat=2:=by omega
 have e2:((O:Int)+2).toNat-O=2:=by omega
 simp[sliced,e1,e2,Addr.add,show ¬c=O by omega,go_sem]
theorem VV {l:List Ar} (h:dI w (some ⟨b,off,none⟩) (l.flatMap mP)) {m:Nat} (hm:m+1<l.length):dI w (some ⟨b,off+m*7,none⟩) ([l[m],l[m+1]].flatMap mP):=by
 have h1:=Ev h m (by omega);have h2:=Ev h (m+1) hm;intro j u hj;refine⟨b,off+m*7,rfl,?_⟩;simp only[lX,Ji,kQ] at hj
 by_cases c:j<7
 ·rw[lm (by rw[sV];exact c)] at hj;exact h1 j u hj
 rw[kT (by rw[sV];omega),sV] at hj;have:=h2 _ u hj;rwa [show off+(m+1)*7+(j-7)=off+m*7+j by omega] at this
theorem Fx (l:List Ar) (a:Option Addr) (c:Nat) (w:World) (h:WI w a c l) :
  Calls Tryz.prog 85 #[.slice a l.length c] w fun e w'=>e = .returned (.agg (Ka (bJ l)))∧Below w.heap.size w w':=by
 have hV:=h.le;have h2:=aY h.le h.mx;unfold maxLen at h2;have hE:=h.rd;go_enter func85,ntmps85;go_upto_region 1 with (fail);refine gF (fun W=>Code.wp _ _ _ _ W) fun W0 d n h1 => ?_;clear h1
 by_cases h16:16<l.length
 ·have hX : (16:Int)<(l.length:Int):=by omega
  have hz:Hid (bJ l=(4,0)):=Lib.hid (by unfold bJ;rw[if_pos h16])
  go_wp2_with (refine ay rfl _ _ _ rfl w.heap.size #[.int .i64 (4),.int .i64 (0)] rfl rfl _ _ n rfl fau_size (mO _ _) ?_)
  intro w5 ha q;have p:Below w.heap.size w w5:=d.grown q d.size (fun k hk=>by cases hk;exact az _);go_wp2;refine bodyPost_ret (v:=.agg #[.int .i64 (4),.int .i64 (0)]) (eO results85 _ _ w.heap.size _ _ _ rfl ha underlying150 rfl fau_size) rfl ?_;exact⟨by rw[hz.out];rfl,p⟩
 have hX : ¬(16:Int)<(l.length:Int):=by omega
 have h0:Hid (bJ l=jk (qf l 0) 0 (l.drop 0)):=Lib.hid (by unfold bJ;rw[if_neg h16];rfl);go_upto_region 4 with (fail)
 go_loopw [12] (fun i wr => ∃k:Nat,k≤l.length∧i = .int .i64 k∧Below w.heap.size w wr∧aA wr w.heap.size #[.int .i64 0,.int .i64 0] 150∧(∀i (h:i<l.length),i<k→aS l[i]=0)∧Hid (bJ l=jk (qf l k) k (l.drop k))) (fun i _=>l.length-(intOf i).toNat)
 case atStart=>exact⟨0,aW _,rfl,d,n,fun i _ h=>absurd h (eG _),h0⟩
 case round=>
  clear d n h0;obtain⟨k,hk,rfl,d,n,hU,hh⟩:=hrel;have hp:=Lib.hid hU;clear hU
  by_cases hlt:k<l.length
  ·obtain⟨b,off,rfl,c0,c1,c2,c3,c4,c5,c6⟩:=Mv (hE.below d) k hlt;have h6:(k:Int)<(l.length:Int):=by omega
   go_upto_region 6 with (fail);refine gF (fun W=>Code.wp _ _ _ _ W) fun W1 u hA hZ => ?_;have d:=ae d u;have n:=n.ext u;clear hZ u c0 c1 c2 c3 c4 c5 c6;obtain⟨gx,hW⟩:∃g,g=wr.heap.size:=⟨_,rfl⟩;rw[←hW] at hA ⊢;clear hW
   go_wp2_with (refine ax _ _ rfl _ 0 rfl rfl _ hA.rd _ underlying99 rfl area_size ?_)
   refine (GR l[k] _).mono ?_;rintro r w2 ⟨rfl,hB⟩;have j:=ae d hB;have o:=n.ext hB;have hD:=hA.ext hB;clear d n hB hA
   by_cases he:aS l[k]=0
   ·have z:=Lib.hid he;rw[he];clear he;go_upto_region 9 with (fail)
    by_cases hk0:k=0
    ·subst hk0;have h8:decide ((0:Int)<((0:Nat):Int))=false:=rfl;have hG:Hid (bJ l=jk (qf l (0+1)) (0+1) (l.drop (0+1))):=Lib.hid (by rw[hh.out];exact vY hlt z.out rfl);go_quiet (fail);go_wp2;go_roundw
     case rel=>exact⟨0+1,by omega,by go_num,below_drewN j _,o.drewN _,lN hp.out hlt z.out,hG⟩
     case measure=>simp[intOf];omega
    obtain⟨m,rfl⟩:∃m,k=m+1:=⟨k-1,by omega⟩;have hl:IntKind.i64.wrap (((m+1:Nat):Int)-1)=(m:Int):=by rw[bO _ (by omega)];omega
    have hq:m<l.length:=by omega
    have hi:IntKind.i64.wrap (m:Int)=(m:Int):=bO _ (by omega);have hI:IntKind.i64.wrap ((m:Int)+1+1)=(m:Int)+2:=by rw[bO _ (by omega)];omega
    have hH:IntKind.i64.wrap (((m+1:Nat):Int)+1)=(m:Int)+2:=by rw[bO _ (by omega)];omega
    have hJ:=Lib.hid (Kw hlt);have hC:=hp.out m hq (by omega);have h4:=hE.below j;have hK:=Ev h4 m hq;have hT:=VV hE hlt;have hS:∀x∈[l[m],l[m+1]],aS x=0:=fun x hx=>by
     rcases bU.1 hx with rfl|hx
     ·exact hC
     ·rw[bv.1 hx];exact z.out
    have hY:Hid (∀i (h:i<l.length),i<m+1+1→aS l[i]=0):=Lib.hid (lN hp.out hlt z.out);generalize hA1:l[m+1]=A1 at *
    generalize hA0:l[m]=A0 at *
    by_cases hov:A1.fr<A0.en
    ·have hz:Hid (bJ l=(2,((m+1:Nat):Int))):=Lib.hid (by rw[hh.out];exact wh hlt (by rw[hA1];exact z.out) (by rw[hA1,hJ.out,decide_eq_true hov];rfl));have hF:True:=trivial;have hm:True:=trivial;refine aK 25 [_,_,_,_,_,_,.v (.pointer (some ⟨b,off+m*7,none⟩)),_,.v (.int .i64 A0.en),_,.v (.int .i64 A1.fr),_,_,_,_,_,_,_,_,_,_,_,_,_,.v (.bool true)] (Gk rfl (Gb (.bool true) (by simp[go_sem]) rfl rfl rfl rfl rfl (Gk rfl (Gk rfl (Gk rfl (Gb (.int .i64 (m:Int)) (by simp[go_sem,hl,hi]) rfl rfl rfl rfl rfl (ag ?_ (Gf b (off+m*7+1) rfl rfl (ag ?_ (Gf gx 0 rfl rfl (ag ?_ (Gb (.bool true) (by simp[go_sem,hov]) rfl rfl rfl rfl rfl (Gk rfl (Gk rfl (Gk rfl (Gk rfl (Gk rfl (Gk rfl (Gk rfl (Gk rfl (Gk rfl (Gk rfl (Gk rfl (Gk rfl (Gk rfl (aB)))))))))))))))))))))))))) (fun _=>rfl) rfl ?_
     ·intro ρ y W hw hn hb hd;have hy:=hw 27 3 rfl;have h3:y 3=_:=hd 3 rfl;have hv:=hw 29 5 rfl;have h5:y 5=_:=hd 5 rfl;refine aj (.pointer (some ⟨b,off+m*7,none⟩)) (aT 2 26 true true rfl rfl ((hw 26 2 rfl).trans (hd 2 rfl))) (by simp[execOp,go_sem,hy,h3,hv,h5,hq]) rfl
     ·intro ρ y W hw hn hb hd;have hu:=hw 31 7 rfl;have h7:y 7=_:=hd 7 rfl;have s:=(hK.below hb).cells.2.1;refine aj (.int .i64 A0.en) (aT 2 26 true true rfl rfl ((hw 26 2 rfl).trans (hd 2 rfl))) (by simp[execOp,go_sem,hu,h7,s]) rfl
     ·intro ρ y W hw hn hb hd;have ht:=hw 33 9 rfl;have h9:y 9=_:=hd 9 rfl;have s:=(hD.ext hb).cell 0;simp at s;refine aj (.int .i64 A1.fr) (aT 2 26 true true rfl rfl ((hw 26 2 rfl).trans (hd 2 rfl))) (by simp[execOp,go_sem,ht,h9,s]) rfl
     intro y WA t _;have d:=ae j t;have n:=o.ext t;clear j o
     go_wp2_with (refine ay rfl _ _ _ rfl w.heap.size #[.int .i64 (2),.int .i64 (((m+1:Nat):Int))] rfl rfl _ _ n rfl fau_size (mO _ _) ?_)
     intro w5 ha q;have p:Below w.heap.size w w5:=d.grown q d.size (fun k hk=>by cases hk;exact az _);go_wp2;refine bodyPost_ret (v:=.agg #[.int .i64 (2),.int .i64 (((m+1:Nat):Int))]) (eO results85 _ _ w.heap.size _ _ _ rfl ha underlying150 rfl fau_size) rfl ?_;exact⟨by rw[hz.out];rfl,p⟩
    have hs:srtF 0 [A0,A1]:=⟨hC,(bI hC).1.2.1.1,z.out,by omega,trivial⟩;have hF:=La hs;have hg:=Tm hC z.out (by omega:A0.en≤A1.fr);cases hj:dC A0 A1
    ·have hm:(kV (bZ [A0,A1]) 64).length=2:=by rw[hg,hj];rfl
     have hG:Hid (bJ l=jk (qf l (m+1+1)) (m+1+1) (l.drop (m+1+1))):=Lib.hid (by rw[hh.out];exact vY hlt (by rw[hA1];exact z.out) (by rw[hA1,hJ.out,decide_eq_false hov,hj];rfl));clear hg hs;refine aK 25 [_,_,_,_,_,_,.v (.pointer (some ⟨b,off+m*7,none⟩)),_,.v (.int .i64 A0.en),_,.v (.int .i64 A1.fr),_,_,_,_,_,_,_,_,.v (.agg (fC (bZ [A0,A1]))),.r 20 ((pJ w.heap.size 99 7 (kV (bZ [A0,A1]) 64).length ((kV (bZ [A0,A1]) 64).flatMap mP))),.v (.int .i64 (2)),_,_,.v (.bool false)] (Gk rfl (Gb (.bool true) (by simp[go_sem]) rfl rfl rfl rfl rfl (Gk rfl (Gk rfl (Gk rfl (Gb (.int .i64 (m:Int)) (by simp[go_sem,hl,hi]) rfl rfl rfl rfl rfl (ag ?_ (Gf b (off+m*7+1) rfl rfl (ag ?_ (Gf gx 0 rfl rfl (ag ?_ (Gb (.bool false) (by simp[go_sem,hov]) rfl rfl rfl rfl rfl (Gk rfl (Gk rfl (Gk rfl (Gb (.int .i64 (m:Int)) (by simp[go_sem,hl,hi]) rfl rfl rfl rfl rfl (Gk rfl (Gb (.int .i64 ((m:Int)+2)) (by simp[go_sem,hI,hH]) rfl rfl rfl rfl rfl (Gr (.slice (some ⟨b,off+m*7,none⟩) 2 (c-m)) (fun ρ y W hb hf=>(yG rfl (aC rfl hf) (aC rfl hf) (aC rfl hf) underlying50 area_size hlt hV)) rfl rfl (ag ?_ (ag ?_ (ag ?_ (Gb (.bool false) (by simp[go_sem]) rfl rfl rfl rfl rfl (Gk rfl (Gk rfl (aB)))))))))))))))))))))))))) (fun _=>rfl) rfl ?_
     ·intro ρ y W hw hn hb hd;have hy:=hw 27 3 rfl;have h3:y 3=_:=hd 3 rfl;have hv:=hw 29 5 rfl;have h5:y 5=_:=hd 5 rfl;refine aj (.pointer (some ⟨b,off+m*7,none⟩)) (aT 2 26 true true rfl rfl ((hw 26 2 rfl).trans (hd 2 rfl))) (by simp[execOp,go_sem,hy,h3,hv,h5,hq]) rfl
     ·intro ρ y W hw hn hb hd;have hu:=hw 31 7 rfl;have h7:y 7=_:=hd 7 rfl;have s:=(hK.below hb).cells.2.1;refine aj (.int .i64 A0.en) (aT 2 26 true true rfl rfl ((hw 26 2 rfl).trans (hd 2 rfl))) (by simp[execOp,go_sem,hu,h7,s]) rfl
     ·intro ρ y W hw hn hb hd;have ht:=hw 33 9 rfl;have h9:y 9=_:=hd 9 rfl;have s:=(hD.ext hb).cell 0;simp at s;refine aj (.int .i64 A1.fr) (aT 2 26 true true rfl rfl ((hw 26 2 rfl).trans (hd 2 rfl))) (by simp[execOp,go_sem,ht,h9,s]) rfl
     ·intro ρ y W hw hn hb hd;have hQ:=hw 42 18 rfl;have hN:y 18=_:=hd 18 rfl;have EF:∀f,ρ (.func f) = .func (.func f) #[] #[]:=fun f=>hn (.func f) trivial;refine aL _ _ (aT 12 36 false false rfl rfl ((hw 36 12 rfl).trans (hd 12 rfl))) (aO rfl (EF _) func49 (by kernel_rfl) (by kernel_rfl) (by simp only[bH,bA,bB,hQ,hN,EF];rfl)) ?_;refine (nL [A0,A1] _ (c-m) W (hT.below (ae j hb)) (by simp) hS).mono ?_;rintro r w1 ⟨rfl,u⟩;exact⟨_,rfl,u,rfl⟩
     ·intro ρ y W hw hn hb hd;have hP:=hw 43 19 rfl;have hM:y 19=_:=hd 19 rfl;have EF:∀f,ρ (.func f) = .func (.func f) #[] #[]:=fun f=>hn (.func f) trivial;refine aL _ _ (aT 12 36 false false rfl rfl ((hw 36 12 rfl).trans (hd 12 rfl))) (aO rfl (EF _) func123 (by kernel_rfl) (by kernel_rfl) (by simp only[bH,bA,bB,hP,hM,EF];rfl)) ?_;refine (BR (bZ [A0,A1]) W hF).mono ?_;rintro r w1 ⟨v1,rfl,ho,u⟩;exact⟨v1,rfl,u,ho.mono (aY j.size hb.size)⟩
     ·intro ρ y W hw hn hb hd;have hO:=hw 44 20 rfl;have hL:=hd 20 rfl;obtain⟨a20,c20,hr,_⟩:=Own.rd hL;refine aj (.int .i64 (2)) (aT 12 36 false false rfl rfl ((hw 36 12 rfl).trans (hd 12 rfl))) (by simp[execOp,go_sem,hO,hr,hm]) rfl
     intro y WA t hc;have hR:((pJ w.heap.size 99 7 (kV (bZ [A0,A1]) 64).length ((kV (bZ [A0,A1]) 64).flatMap mP))).r (y 20) WA:=hc 20 (by decide);clear hc;have d:=ae j t;have n:=o.ext t;clear j o hl hi hI hH hm;go_wp2;go_roundw
     case rel=>exact⟨m+1+1,by omega,by go_num,d,n,hY.out,hG⟩
     case measure=>simp[intOf];omega
    have hm:(kV (bZ [A0,A1]) 64).length=1:=by rw[hg,hj];rfl
    have hz:Hid (bJ l=(2,((m+1:Nat):Int))):=Lib.hid (by rw[hh.out];exact wh hlt (by rw[hA1];exact z.out) (by rw[hA1,hJ.out,hj,Jo]));clear hg hs;refine aK 25 [_,_,_,_,_,_,.v (.pointer (some ⟨b,off+m*7,none⟩)),_,.v (.int .i64 A0.en),_,.v (.int .i64 A1.fr),_,_,_,_,_,_,_,_,.v (.agg (fC (bZ [A0,A1]))),.r 20 ((pJ w.heap.size 99 7 (kV (bZ [A0,A1]) 64).length ((kV (bZ [A0,A1]) 64).flatMap mP))),.v (.int .i64 (1)),_,_,.v (.bool true)] (Gk rfl (Gb (.bool true) (by simp[go_sem]) rfl rfl rfl rfl rfl (Gk rfl (Gk rfl (Gk rfl (Gb (.int .i64 (m:Int)) (by simp[go_sem,hl,hi]) rfl rfl rfl rfl rfl (ag ?_ (Gf b (off+m*7+1) rfl rfl (ag ?_ (Gf gx 0 rfl rfl (ag ?_ (Gb (.bool false) (by simp[go_sem,hov]) rfl rfl rfl rfl rfl (Gk rfl (Gk rfl (Gk rfl (Gb (.int .i64 (m:Int)) (by simp[go_sem,hl,hi]) rfl rfl rfl rfl rfl (Gk rfl (Gb (.int .i64 ((m:Int)+2)) (by simp[go_sem,hI,hH]) rfl rfl rfl rfl rfl (Gr (.slice (some ⟨b,off+m*7,none⟩) 2 (c-m)) (fun ρ y W hb hf=>(yG rfl (aC rfl hf) (aC rfl hf) (aC rfl hf) underlying50 area_size hlt hV)) rfl rfl (ag ?_ (ag ?_ (ag ?_ (Gb (.bool true) (by simp[go_sem]) rfl rfl rfl rfl rfl (Gk rfl (Gk rfl (aB)))))))))))))))))))))))))) (fun _=>rfl) rfl ?_
    ·intro ρ y W hw hn hb hd;have hy:=hw 27 3 rfl;have h3:y 3=_:=hd 3 rfl;have hv:=hw 29 5 rfl;have h5:y 5=_:=hd 5 rfl;refine aj (.pointer (some ⟨b,off+m*7,none⟩)) (aT 2 26 true true rfl rfl ((hw 26 2 rfl).trans (hd 2 rfl))) (by simp[execOp,go_sem,hy,h3,hv,h5,hq]) rfl
    ·intro ρ y W hw hn hb hd;have hu:=hw 31 7 rfl;have h7:y 7=_:=hd 7 rfl;have s:=(hK.below hb).cells.2.1;refine aj (.int .i64 A0.en) (aT 2 26 true true rfl rfl ((hw 26 2 rfl).trans (hd 2 rfl))) (by simp[execOp,go_sem,hu,h7,s]) rfl
    ·intro ρ y W hw hn hb hd;have ht:=hw 33 9 rfl;have h9:y 9=_:=hd 9 rfl;have s:=(hD.ext hb).cell 0;simp at s;refine aj (.int .i64 A1.fr) (aT 2 26 true true rfl rfl ((hw 26 2 rfl).trans (hd 2 rfl))) (by simp[execOp,go_sem,ht,h9,s]) rfl
    ·intro ρ y W hw hn hb hd;have hQ:=hw 42 18 rfl;have hN:y 18=_:=hd 18 rfl;have EF:∀f,ρ (.func f) = .func (.func f) #[] #[]:=fun f=>hn (.func f) trivial;refine aL _ _ (aT 12 36 false false rfl rfl ((hw 36 12 rfl).trans (hd 12 rfl))) (aO rfl (EF _) func49 (by kernel_rfl) (by kernel_rfl) (by simp only[bH,bA,bB,hQ,hN,EF];rfl)) ?_;refine (nL [A0,A1] _ (c-m) W (hT.below (ae j hb)) (by simp) hS).mono ?_;rintro r w1 ⟨rfl,u⟩;exact⟨_,rfl,u,rfl⟩
    ·intro ρ y W hw hn hb hd;have hP:=hw 43 19 rfl;have hM:y 19=_:=hd 19 rfl;have EF:∀f,ρ (.func f) = .func (.func f) #[] #[]:=fun f=>hn (.func f) trivial;refine aL _ _ (aT 12 36 false false rfl rfl ((hw 36 12 rfl).trans (hd 12 rfl))) (aO rfl (EF _) func123 (by kernel_rfl) (by kernel_rfl) (by simp only[bH,bA,bB,hP,hM,EF];rfl)) ?_;refine (BR (bZ [A0,A1]) W hF).mono ?_;rintro r w1 ⟨v1,rfl,ho,u⟩;exact⟨v1,rfl,u,ho.mono (aY j.size hb.size)⟩
    ·intro ρ y W hw hn hb hd;have hO:=hw 44 20 rfl;have hL:=hd 20 rfl;obtain⟨a20,c20,hr,_⟩:=Own.rd hL;refine aj (.int .i64 (1)) (aT 12 36 false false rfl rfl ((hw 36 12 rfl).trans (hd 12 rfl))) (by simp[execOp,go_sem,hO,hr,hm]) rfl
    intro y WA t hc;have hR:((pJ w.heap.size 99 7 (kV (bZ [A0,A1]) 64).length ((kV (bZ [A0,A1]) 64).flatMap mP))).r (y 20) WA:=hc 20 (by decide);clear hc;have d:=ae j t;have n:=o.ext t;clear j o
    go_wp2_with (refine ay rfl _ _ _ rfl w.heap.size #[.int .i64 (2),.int .i64 (((m+1:Nat):Int))] rfl rfl _ _ n rfl fau_size (mO _ _) ?_)
    intro w5 ha q;have p:Below w.heap.size w w5:=d.grown q d.size (fun k hk=>by cases hk;exact az _);go_wp2;refine bodyPost_ret (v:=.agg #[.int .i64 (2),.int .i64 (((m+1:Nat):Int))]) (eO results85 _ _ w.heap.size _ _ _ rfl ha underlying150 rfl fau_size) rfl ?_;exact⟨by rw[hz.out];rfl,p⟩
   have hz:Hid (bJ l=(aS l[k],(k:Int))):=Lib.hid (by rw[hh.out];exact Gs hlt he);have z : (aS l[k] != 0)=true:=by simpa using he
   have d:=j;have n:=o;clear he j o
   go_wp2_with (refine ay rfl _ _ _ rfl w.heap.size #[.int .i64 (aS l[k]),.int .i64 (k)] rfl rfl _ _ n rfl fau_size (mO _ _) ?_)
   intro w5 ha q;have p:Below w.heap.size w w5:=d.grown q d.size (fun k hk=>by cases hk;exact az _);go_wp2;refine bodyPost_ret (v:=.agg #[.int .i64 (aS l[k]),.int .i64 (k)]) (eO results85 _ _ w.heap.size _ _ _ rfl ha underlying150 rfl fau_size) rfl ?_;exact⟨by rw[hz.out];rfl,p⟩
  have hz:Hid (bJ l=(0,0)):=Lib.hid (by rw[hh.out,qA (by omega)];rfl)
  go_wp2_with (refine ay rfl _ _ _ rfl w.heap.size #[.int .i64 (0),.int .i64 (0)] rfl rfl _ _ n rfl fau_size (mO _ _) ?_)
  intro w5 ha q;have p:Below w.heap.size w w5:=d.grown q d.size (fun k hk=>by cases hk;exact az _);go_wp2;refine bodyPost_ret (v:=.agg #[.int .i64 (0),.int .i64 (0)]) (eO results85 _ _ w.heap.size _ _ _ rfl ha underlying150 rfl fau_size) rfl ?_;exact⟨by rw[hz.out];rfl,p⟩
end Go.Proofs.YtjkkoeijlhfneaaGreat