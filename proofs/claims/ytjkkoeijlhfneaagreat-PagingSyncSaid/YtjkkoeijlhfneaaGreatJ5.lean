import Derived.Test.YtjkkoeijlhfneaaGreatJ4
import Derived.BigRegion
set_option linter.unusedSimpArgs false
set_option linter.unusedVariables false
set_option maxHeartbeats 4000000
set_option maxRecDepth 100000
namespace Go.Proofs.YtjkkoeijlhfneaaGreat
open _root_.Go.Proofs.Tryz
open Go.RowKit Go.Maps Pw
variable {B B' B0 O b c cb cq ct cv f g gd gk i j k n off p q rx s sz:Nat} {D:pR} {E:En} {H N:MH} {L:Nat → Bool} {P:Program} {Q:Exit → Act → World → Prop} {T t:TypeId} {W W' w w' w0 w1 w2:World} {a ab aq av:Option Addr} {bl:List Page} {cs cur:Array Value} {fs:List Fi} {h x:Operand} {m m':Ma} {o:Oper} {ops:Array Oper} {ps:List PF} {rest:List Oper} {sl:List Int} {v v' vb vq:Value} {vs xs ys:List Value} {y:Nat → Value} {ρ:Operand → Value}
theorem vB (H:MH) (w:World) (h:BR w H) (hz:QE H.ma) :
  Calls Tryz.prog 40 #[.agg (dh H)] w fun r w' => ∃H' : MH,r = .returned (.agg (dh H'))∧tu w' w.heap.size H'∧H'.ma=H.ma∧(∀p∈H'.fi,∀x,oB p.a=some x→oB H'.asl≠some x)∧Below w.heap.size w w':=by
 have z1:H.m.fs.length≤1000:=hz.fs;have z2:H.sl.length≤1000:=hz.sl;have z3:H.sw.blocks.length≤1000:=hz.swb;have z4:H.sw.queue.length≤1000:=hz.swq;have z5:H.dk.blocks.length≤1000:=hz.dkb;have z6:H.dk.queue.length≤1000:=hz.dkq;have z7:H.ca.length≤1000:=hz.ca;have z8:H.sp.length≤1000:=by have:=hz.sp.1;rw[ER] at this;exact this
 have zf:=hz.fsz;go_enter func40,ntmps40;go_upto_region 1 with (fail);refine rE (fun W=>Code.wp _ _ _ _ W) fun w1 s bx1 rx1 k0 => ?_;have ki:=h.below s;clear k0;refine nu 7 [_,_,.r 2 ((Vk w1.heap.size H.m)),_,_,.r 5 ((ou w1.heap.size 3 1 H.sl.length (H.sl.map fT))),_] (fun W=>Below w1.heap.size w1 W) gJ (Below.refl _ _) (Yf gJ w.heap.size 0 rfl rfl (Yr gJ (.agg #[.slice H.af H.m.fs.length H.cf,.int .i64 H.m.hand]) (fun ρ y W hb hy=>(bC rfl (aF rfl hy) (bJ (bx1.ext hb) 0 2) underlying28 rfl (by kernel_rfl))) rfl rfl (ag ?_ (Yf gJ w.heap.size 2 rfl rfl (Yc gJ (.slice H.asl H.sl.length H.csl) (fun W hb=>by simp[(bx1.ext hb).cell,dh]) rfl rfl rfl rfl (ag ?_ (Yf gJ w.heap.size 0 rfl rfl (aC)))))))) (fun _=>rfl) rfl ?_
 ·intro ρ y W hw hn hb hd;refine lZ gJ hb ((Vk w1.heap.size H.m)) (fun _ _ h=>h) ?_;have E7:=hw 7 1 rfl;have h1:y 1 = .agg #[.slice H.af H.m.fs.length H.cf,.int .i64 H.m.hand]:=hd 1 rfl;have EF:∀f,ρ (.func f) = .func (.func f) #[] #[]:=fun f=>hn (.func f) trivial;refine aR _ _ (ah rfl) (aU rfl (EF _) func73 (by kernel_rfl) (by kernel_rfl) (by simp only[bV,bP,bT,E7,h1,EF];rfl)) ?_;refine (Ea H.m _ _ W (ki.below hb).fr (by omega)).mono ?_;rintro r w3 ⟨u,rfl,ho,s⟩;exact⟨_,rfl,s,u,rfl,ho.mono hb.size⟩
 ·intro ρ y W hw hn hb hd;refine lZ gJ hb ((ou w1.heap.size 3 1 H.sl.length (H.sl.map fT))) (fun _ _ h=>h) ?_;have gp:=hw 10 4 rfl;have h4:y 4 = .slice H.asl H.sl.length H.csl:=hd 4 rfl;have EF:∀f,ρ (.func f) = .func (.func f) #[] #[]:=fun f=>hn (.func f) trivial;refine aR _ _ (ah rfl) (aU rfl (EF _) func74 (by kernel_rfl) (by kernel_rfl) (by simp only[bV,bP,bT,gp,h4,EF];rfl)) ?_;have hs:=(ki.below hb).sl;refine (wJ H.sl _ _ W hs.le hs.nl hs.rd (by omega)).mono ?_;rintro r w3 ⟨u,rfl,ho,s⟩;exact⟨_,rfl,s,ho.mono hb.size⟩
 intro y w2 ha ka;replace ha:Below w1.heap.size w1 w2:=ha;have hF:((Vk w1.heap.size H.m)).r (y 2) w2:=ka 2 (by decide);have hH:((ou w1.heap.size 3 1 H.sl.length (H.sl.map fT))).r (y 5) w2:=ka 5 (by decide);clear ka;simp only[bU,bX,bP,bT];obtain⟨u1,kO,kv⟩:=hF;have kf:Own w2 w1.heap.size 3 1 (y 5) H.sl.length (H.sl.map fT):=hH;obtain⟨a1,c1,rfl,_⟩:=kv.rd;obtain⟨a2,c2,kr,_⟩:=Own.rd kf;rw[kr] at kf;rw[kO,kr];have bx2:=bx1.ext ha;have rx2:=rx1.ext ha;have h0:=ae s ha;have k4:=ki.below ha;have kJ:=Lib.hid s.size;have gq:=rx2.lt;clear ha bx1 rx1 ki kO kr hH
 go_wp2_with (refine gP rfl _ _ _ rfl w.heap.size 0 #[.slice a1 H.m.fs.length c1,.int .i64 H.m.hand] rfl rfl _ _ bx2 (by show 0+2≤11;decide) mem_size (jf _ _ _ _) ?_)
 intro w3 bx3 hR;have ko:=ak kv bx2 (by decide) hR;have kl:=ak kf bx2 (by decide) hR;have hZ:=h0.grown hR h0.size (fun k hk=>by cases hk;exact ay _);have rx3:=rx2.grown hR (fun e=>by have:=aJ e;omega);have bx3' : aB w3 w.heap.size (dh { H with af:=a1,cf:=c1 }) 41:=bx3;clear kv kf bx2 rx2 k4 hR bx3 h0
 go_wp2_with (refine aA rfl _ _ _ rfl w.heap.size 2 _ [.slice a2 H.sl.length c2] rfl rfl rfl _ _ bx3' (by show 2+1≤11;decide) slots_size (fun u hu=>by cases bv.1 hu;rfl) ?_)
 intro w4 bx4 hQ;have kn:=ak ko bx3' (by decide) hQ;have hN:=ak kl bx3' (by decide) hQ;have hD:=hZ.grown hQ hZ.size (fun k hk=>by cases hk;exact ay _);have rx4:=rx3.grown hQ (fun e=>by have:=aJ e;omega);have bx4' : aB w4 w.heap.size (dh { H with af:=a1,cf:=c1,asl:=a2,csl:=c2 }) 41:=bx4;have kh:=h.below hD;clear ko kl bx3' rx3 hQ bx4 hZ;obtain⟨H4,gv⟩:∃H4:MH,Hid (H4 = { H with af:=a1,cf:=c1,asl:=a2,csl:=c2 }):=⟨_,Lib.hid rfl⟩;go_upto_region 2 with (fail);refine nu 10 [_,_,.r 2 ((xW w4.heap.size H.sw)),_,_,.r 5 ((xW w4.heap.size H.dk)),_,_,.r 8 ((MX w4.heap.size (bY H.fi H.ct))),_] (fun W=>Below w4.heap.size w4 W) gJ (Below.refl _ _) (Yf gJ w.heap.size 3 rfl rfl (Yr gJ (.agg #[.slice H.wb H.sw.blocks.length H.cwb,.slice H.wq H.sw.queue.length H.cwq]) (fun ρ y W hb hy=>(bC rfl (aF rfl hy) (bJ (bx4'.ext hb) 3 2) underlying34 rfl (by kernel_rfl))) rfl rfl (ag ?_ (Yf gJ w.heap.size 5 rfl rfl (Yr gJ (.agg #[.slice H.db H.dk.blocks.length H.cdb,.slice H.dq H.dk.queue.length H.cdq]) (fun ρ y W hb hy=>(bC rfl (aF rfl hy) (bJ (bx4'.ext hb) 5 2) underlying34 rfl (by kernel_rfl))) rfl rfl (ag ?_ (Yf gJ w.heap.size 7 rfl rfl (Yr gJ (.agg #[.slice H.ai H.fi.length H.ci,.int .i64 H.ct]) (fun ρ y W hb hy=>(bC rfl (aF rfl hy) (bJ (bx4'.ext hb) 7 2) underlying37 rfl (by kernel_rfl))) rfl rfl (ag ?_ (Yf gJ w.heap.size 3 rfl rfl (aC))))))))))) (fun _=>rfl) rfl ?_
 ·intro ρ y W hw hn hb hd;refine lZ gJ hb ((xW w4.heap.size H.sw)) (fun _ _ h=>h) ?_;have gn:=hw 15 1 rfl;have h1:y 1 = .agg #[.slice H.wb H.sw.blocks.length H.cwb,.slice H.wq H.sw.queue.length H.cwq]:=hd 1 rfl;have EF:∀f,ρ (.func f) = .func (.func f) #[] #[]:=fun f=>hn (.func f) trivial;refine aR _ _ (ah rfl) (aU rfl (EF _) func75 (by kernel_rfl) (by kernel_rfl) (by simp only[bV,bP,bT,gn,h1,EF];rfl)) ?_;refine (Ez H.sw _ _ _ _ W (kh.below hb).sw (by omega) (by omega)).mono ?_;rintro r w3 ⟨u,v,rfl,ho,s⟩;exact⟨_,rfl,s,u,v,rfl,ho.mono hb.size⟩
 ·intro ρ y W hw hn hb hd;refine lZ gJ hb ((xW w4.heap.size H.dk)) (fun _ _ h=>h) ?_;have gm:=hw 18 4 rfl;have h4:y 4 = .agg #[.slice H.db H.dk.blocks.length H.cdb,.slice H.dq H.dk.queue.length H.cdq]:=hd 4 rfl;have EF:∀f,ρ (.func f) = .func (.func f) #[] #[]:=fun f=>hn (.func f) trivial;refine aR _ _ (ah rfl) (aU rfl (EF _) func75 (by kernel_rfl) (by kernel_rfl) (by simp only[bV,bP,bT,gm,h4,EF];rfl)) ?_;refine (Ez H.dk _ _ _ _ W (kh.below hb).dk (by omega) (by omega)).mono ?_;rintro r w3 ⟨u,v,rfl,ho,s⟩;exact⟨_,rfl,s,u,v,rfl,ho.mono hb.size⟩
 ·intro ρ y W hw hn hb hd;refine lZ gJ hb ((MX w4.heap.size (bY H.fi H.ct))) (fun _ _ h=>h) ?_;have gl:=hw 21 7 rfl;have h7:y 7 = .agg #[.slice H.ai H.fi.length H.ci,.int .i64 H.ct]:=hd 7 rfl;have EF:∀f,ρ (.func f) = .func (.func f) #[] #[]:=fun f=>hn (.func f) trivial;refine aR _ _ (ah rfl) (aU rfl (EF _) func61 (by kernel_rfl) (by kernel_rfl) (by simp only[bV,bP,bT,gl,h7,EF];rfl)) ?_;refine (EL H.fi H.ct _ _ W (kh.below hb).st zf).mono ?_;rintro r w3 ⟨u,ps,rfl,ho,he,s⟩;exact⟨_,rfl,s,u,ps,_,rfl,ho.mono hb.size,by unfold bY;rw[he]⟩
 intro y w5 z hE;replace z:Below w4.heap.size w4 w5:=z;have hF:((xW w4.heap.size H.sw)).r (y 2) w5:=hE 2 (by decide);have hH:((xW w4.heap.size H.dk)).r (y 5) w5:=hE 5 (by decide);have kC:((MX w4.heap.size (bY H.fi H.ct))).r (y 8) w5:=hE 8 (by decide);clear hE;simp only[bU,bX,bP,bT];obtain⟨ub,uq,kM,ke⟩:=hF;obtain⟨vb,vq,kL,kd⟩:=hH;obtain⟨us,ps,ks,kK,kc,kP⟩:=kC;have k5 : -9223372036854775808≤ks∧ks≤9223372036854775807:=by have e:ks=H.ct:=congrArg St.count kP;rw[e];exact h.c64
 obtain⟨ab,cb,rfl,_⟩:=ke.b.rd;obtain⟨aq,cq,rfl,_⟩:=ke.q.rd;obtain⟨db,eb,rfl,_⟩:=kd.b.rd;obtain⟨dq,eq,rfl,_⟩:=kd.q.rd;obtain⟨as_,cs,rfl,_⟩:=kc.rd;rw[kM,kL,kK];have k2:Hid (∀p∈ps,∀x,oB p.a=some x→oB a2≠some x):=Lib.hid (fun p hp x hx e=>by have h1:=(iQ hN e).2.choose_spec.lt;obtain⟨i,hi,rfl⟩:=jC.1 hp;have h2:=(iQ (kc.each i _ (aH hi)) hx).1;omega);have bx5:=bx4'.ext z;have rx5:=rx4.ext z;have hY:=ae hD z;have km:=kn.below z;have kk:=hN.below z;have hI:=Lib.hid hD.size;clear z bx4' rx4 kh kM kL kK kn hN hD
 go_wp2_with (refine gP rfl _ _ _ rfl w.heap.size 3 #[.slice ab H.sw.blocks.length cb,.slice aq H.sw.queue.length cq] rfl rfl _ _ bx5 (by show 3+2≤11;decide) disk_size (kN _ _ _ _ _ _) ?_)
 intro w6 bx6 hl;have hX:=hY.grown hl hY.size (fun k hk=>by cases hk;exact ay _);have rx6:=rx5.grown hl (fun e=>by have:=aJ e;omega);have p1:=ak km bx5 (by decide) hl;have p2:=ak kk bx5 (by decide) hl;have p3:=ke.keep bx5 (by decide) (by decide) hl;have p4:=kd.keep bx5 (by decide) (by decide) hl;have p5:=kc.keep bx5 (by decide) (by decide) hl;clear bx5 rx5 hl km kk ke kd kc hY
 go_wp2_with (refine gP rfl _ _ _ rfl w.heap.size 5 #[.slice db H.dk.blocks.length eb,.slice dq H.dk.queue.length eq] rfl rfl _ _ bx6 (by show 5+2≤11;decide) disk_size (kN _ _ _ _ _ _) ?_)
 intro w7 bx7 hj;have hW:=hX.grown hj hX.size (fun k hk=>by cases hk;exact ay _);have rx7:=rx6.grown hj (fun e=>by have:=aJ e;omega);have q1:=ak p1 bx6 (by decide) hj;have q2:=ak p2 bx6 (by decide) hj;have q3:=p3.keep bx6 (by decide) (by decide) hj;have q4:=p4.keep bx6 (by decide) (by decide) hj;have q5:=p5.keep bx6 (by decide) (by decide) hj;clear bx6 rx6 hj p1 p2 p3 p4 p5 hX
 go_wp2_with (refine gP rfl _ _ _ rfl w.heap.size 7 #[.slice as_ ps.length cs,.int .i64 ks] rfl rfl _ _ bx7 (by show 7+2≤11;decide) store_size (rT _ _ _ _) ?_)
 intro w8 bx8 hh;have hC:=hW.grown hh hW.size (fun k hk=>by cases hk;exact ay _);have rx8:=rx7.grown hh (fun e=>by have:=aJ e;omega);have p1:=ak q1 bx7 (by decide) hh;have p2:=ak q2 bx7 (by decide) hh;have p3:=q3.keep bx7 (by decide) (by decide) hh;have p4:=q4.keep bx7 (by decide) (by decide) hh;have p5:=q5.keep bx7 (by decide) (by decide) hh;obtain⟨H8,kA⟩:∃H8:MH,Hid (H8 = { H with af:=a1,cf:=c1,asl:=a2,csl:=c2,wb:=ab,cwb:=cb,wq:=aq,cwq:=cq,db:=db,cdb:=eb,dq:=dq,cdq:=eq,ai:=as_,ci:=cs,fi:=ps,ct:=ks }):=⟨_,Lib.hid rfl⟩;have bx8' : aB w8 w.heap.size (dh H8) 41:=by rw[kA.out];exact bx8
 have kg:=h.below hC;clear bx7 rx7 hh bx8 q1 q2 q3 q4 q5 hW;have kx:w8.cell? ⟨w.heap.size,9,none⟩=some (.slice H.ac H.ca.length H.cc):=by rw[bx8'.cell,kA.out];rfl
 go_wp2_with fail
 refine (IQ H.ca H.ac H.cc _ kg.ca.le kg.ca.nl kg.ca.rd (by omega)).mono ?_;rintro r w9 ⟨v9,rfl,ku,hf⟩;obtain⟨a6,c6,rfl,_⟩:=ku.rd;have bx9:=bx8'.ext hf;have rx9:=rx8.ext hf;have hU:=ae hC hf;have q1:=p1.below hf;have q2:=p2.below hf;have q3:=p3.below hf;have q4:=p4.below hf;have q5:=p5.below hf;have kY:=Lib.hid hC.size;clear kx bx8' rx8 kg p1 p2 p3 p4 p5 hf hC
 go_wp2_with (refine aA rfl _ _ _ rfl w.heap.size 9 _ [.slice a6 H.ca.length c6] rfl rfl rfl _ _ bx9 (by show 9+1≤11;decide) caO_size (fun u hu=>by cases bv.1 hu;rfl) ?_)
 intro w10 bx10 g;have ht:=hU.grown g hU.size (fun k hk=>by cases hk;exact ay _);have rx10:=rx9.grown g (fun e=>by have:=aJ e;omega);have p1:=(ak q1 bx9 (by decide) g).mono kJ.out;have p2:=(ak q2 bx9 (by decide) g).mono kJ.out;have p3:=(q3.keep bx9 (by decide) (by decide) g).mono hI.out;have p4:=(q4.keep bx9 (by decide) (by decide) g).mono hI.out;have p5:=(q5.keep bx9 (by decide) (by decide) g).mono hI.out;have p6:=(ak ku bx9 (by decide) g).mono kY.out;obtain⟨G,hG⟩:∃G:MH,Hid (G = { H with af:=a1,cf:=c1,asl:=a2,csl:=c2,wb:=ab,cwb:=cb,wq:=aq,cwq:=cq,db:=db,cdb:=eb,dq:=dq,cdq:=eq,ai:=as_,ci:=cs,fi:=ps,ct:=ks,ac:=a6,cc:=c6 }):=⟨_,Lib.hid rfl⟩;have bxG:aB w10 w.heap.size (dh G) 41:=by rw[hG.out];rw[kA.out] at bx10;exact bx10
 clear bx9 rx9 g bx10 q1 q2 q3 q4 q5 ku hU;have gr:Hid (G.ap=H.ap∧G.sp=H.sp∧G.cp=H.cp):=Lib.hid (by rw[hG.out];exact⟨rfl,rfl,rfl⟩);have kx:w10.cell? ⟨w.heap.size,10,none⟩=some (.slice H.ap H.sp.length H.cp):=by rw[bxG.cell,hG.out];rfl
 have kW:=h.below ht;have kV:Own w10 w.heap.size 55 10 (.slice none 0 0) ([]:List PS).length (([]:List PS).flatMap sW):=by simpa using Own.nil _ _ _ _
 go_upto_region 6 with (fail);clear kx kW
 go_loopw [3,33] (fun s3 i wr => ∃(q:Nat) (qs:List PS) (av:Option Addr) (cv:Nat),q≤H.sp.length∧i = .int .i64 q∧s3 = .slice av qs.length cv∧Below w.heap.size w wr∧aB wr w.heap.size (dh G) 41∧aB wr (w.heap.size+1) _ 41 ∧
  Own wr w.heap.size 81 13 (.slice a1 H.m.fs.length c1) H.m.fs.length (H.m.fs.flatMap qf)∧Own wr w.heap.size 3 1 (.slice a2 H.sl.length c2) H.sl.length (H.sl.map fT)∧il wr w.heap.size (.slice ab H.sw.blocks.length cb) (.slice aq H.sw.queue.length cq) H.sw∧il wr w.heap.size (.slice db H.dk.blocks.length eb) (.slice dq H.dk.queue.length eq) H.dk ∧
  nW wr w.heap.size (.slice as_ ps.length cs) ps∧Own wr w.heap.size 106 3 (.slice a6 H.ca.length c6) H.ca.length (H.ca.flatMap mD)∧Own wr w.heap.size 55 10 (.slice av qs.length cv) qs.length (qs.flatMap sW)∧(∀p∈qs,uP wr w.heap.size p p.sp∧Fu p.tb)∧Hid (qs.map PS.sp=(H.sp.take q).map PS.sp)) (fun _ i _=>H.sp.length-(intOf i).toNat)
 case atStart=>exact⟨0,[],none,0,aV _,rfl,rfl,ht,bxG,rx10,p1,p2,p3,p4,p5,p6,kV,fun p hp=>(by simp at hp),Lib.hid rfl⟩
 case round=>
  clear ht bxG rx10 p1 p2 p3 p4 p5 p6 kV;obtain⟨q,qs,av,cv,hq,rfl,rfl,hv,bx,rx,p1,p2,p3,p4,p5,p6,ho,hL,kb⟩:=hrel;have gu:qs.length≤q:=by have:=congrArg List.length kb.out;rw[fo,fo,lC] at this;omega
  by_cases hql2:q<H.sp.length
  ·obtain⟨bs,os,P,k7,hP,kQ⟩:=zy (h.below hv).sp.rd q hql2;have hr:=xE (h.below hv) hP;have k8:=bO hP;obtain⟨gs,kB⟩:=hz.spz k8;have k1:(q:Int)<(H.sp.length:Int):=by omega
   have kS:Hid (qs.map PS.sp++[P.sp]=(H.sp.take (q+1)).map PS.sp):=Lib.hid (by rw[take_at hP,jb,kb.out];rfl);rw[k7];have kj:(vT P).all (·.oneCell')=true:=by rw[←jV,dK];exact hr.one
   go_wp2_with (first | (refine ax _ _ rfl bs (os+q*10) rfl rfl _ kQ _ underlying55 rfl space_size ?_) | (refine aI rfl _ _ _ rfl (vT P) rfl rfl rfl space_size kj ?_))
   intro w11 l fx;have hc:=ae hv l;have d:=hr.below l;have bx11:=bx.ext l;have rx11:=rx.ext l;have q1:=p1.below l;have q2:=p2.below l;have q3:=p3.below l;have q4:=p4.below l;have q5:=p5.below l;have q6:=p6.below l;have hO:=ho.below l;have hm:∀p∈qs,uP w11 w.heap.size p p.sp∧Fu p.tb:=fun p hp=>⟨(hL p hp).1.below l,(hL p hp).2⟩;have kw:=Lib.hid hc.size;clear hv hr bx rx p1 p2 p3 p4 p5 p6 ho hL l kQ kj hP;go_upto_region 8 with (fail);refine Ui 0 3 (.slice av qs.length cv) (by kernel_rfl) (by kernel_rfl) rfl fun ops0 hM => ?_;simp only[freedL,BN] at hM;subst hM;refine GH 11 12 [] [ul (.slice av qs.length cv),ul (.pointer (some ⟨wr.heap.size,0,none⟩)),ul (.bool P.lv),ul (.pointer (some ⟨wr.heap.size,1,none⟩)),ul (.slice P.aa P.ar.length P.ac),(ou w11.heap.size 99 7 P.ar.length (P.ar.flatMap mM)),ul (.pointer (some ⟨wr.heap.size,2,none⟩)),ul (.agg (nP P.ts)),(JU w11.heap.size P.tb),(VH w11.heap.size P.sp),(Wv w11.heap.size P.sp)] (by kernel_rfl) (by kernel_rfl) (by kernel_rfl) (by kernel_rfl) (by kernel_rfl) (by decide) (Nat.le_of_ble_eq_true (by kernel_rfl)) _ rfl (by kernel_rfl) (ag ?_ (ag ?_ (ag ?_ (ag ?_ (ag ?_ (ag ?_ (ag ?_ (ag ?_ (ag ?_ (ag ?_ (ag ?_ (aC)))))))))))) (aC) rfl ?_
   ·refine bG rfl ?_;intro ρ y W hw hn hb hd;refine aj (.slice av qs.length cv) (ah rfl) (run_move (.inl rfl) (hn (.const _) trivial)) rfl
   ·refine bG rfl ?_;intro ρ y W hw hn hb hd;have E5:ρ (.tmp 5) = .pointer (some ⟨wr.heap.size,0,none⟩):=(hn (.tmp 5) rfl).trans rfl;refine aj (.pointer (some ⟨wr.heap.size,0,none⟩)) (ah rfl) (by simp[execOp,go_sem,E5]) rfl
   ·refine bG rfl ?_;intro ρ y W hw hn hb hd;have gk:=hw 38 1 rfl;have h1:y 1 = .pointer (some ⟨wr.heap.size,0,none⟩):=hd 1 rfl;refine aj (.bool P.lv) (ah rfl) (by simp[execOp,go_sem,gk,h1,(fx.ext hb).cell,vT]) rfl
   ·refine bG rfl ?_;intro ρ y W hw hn hb hd;have E5:ρ (.tmp 5) = .pointer (some ⟨wr.heap.size,0,none⟩):=(hn (.tmp 5) rfl).trans rfl;refine aj (.pointer (some ⟨wr.heap.size,1,none⟩)) (ah rfl) (by simp[execOp,go_sem,E5]) rfl
   ·refine bG rfl ?_;intro ρ y W hw hn hb hd;have gi:=hw 40 3 rfl;have h3:y 3 = .pointer (some ⟨wr.heap.size,1,none⟩):=hd 3 rfl;refine aj (.slice P.aa P.ar.length P.ac) (ah rfl) (by simp[execOp,go_sem,gi,h3,(fx.ext hb).cell,vT]) rfl
   ·refine bG rfl ?_;intro ρ y W hw hn hb hd;have gh:=hw 41 4 rfl;have h4:y 4 = .slice P.aa P.ar.length P.ac:=hd 4 rfl;have EF:∀f,ρ (.func f) = .func (.func f) #[] #[]:=fun f=>hn (.func f) trivial;refine aR _ _ (ah rfl) (aU rfl (EF _) func41 (by kernel_rfl) (by kernel_rfl) (by simp only[bV,bP,bT,gh,h4,EF];rfl)) ?_;have hA:=(d.below hb).ars;refine (Js P.ar P.aa P.ac W hA.le hA.nl hA.rd (by omega)).mono ?_;rintro e w1 ⟨u,rfl,ho,s⟩;exact⟨u,rfl,s,ho.mono hb.size⟩
   ·refine bG rfl ?_;intro ρ y W hw hn hb hd;have E5:ρ (.tmp 5) = .pointer (some ⟨wr.heap.size,0,none⟩):=(hn (.tmp 5) rfl).trans rfl;refine aj (.pointer (some ⟨wr.heap.size,2,none⟩)) (ah rfl) (by simp[execOp,go_sem,E5]) rfl
   ·refine bG rfl ?_;intro ρ y W hw hn hb hd;have gf:=hw 43 6 rfl;have h6:y 6 = .pointer (some ⟨wr.heap.size,2,none⟩):=hd 6 rfl;refine aj (.agg (nP P.ts)) (ah rfl) (bC rfl (gf.trans h6) (bJ (fx.ext hb) 2 8) underlying53 tab_agg tab_size) rfl
   ·refine bG rfl ?_;intro ρ y W hw hn hb hd;have gd:=hw 44 7 rfl;have h7:y 7 = .agg (nP P.ts):=hd 7 rfl;have EF:∀f,ρ (.func f) = .func (.func f) #[] #[]:=fun f=>hn (.func f) trivial;refine aR _ _ (ah rfl) (aU rfl (EF _) func77 (by kernel_rfl) (by kernel_rfl) (by simp only[bV,bP,bT,gd,h7,EF];rfl)) ?_;refine (JL P.tb (nP P.ts) W (d.below hb).tb kB).mono ?_;rintro e w1 ⟨u,rfl,ho,s⟩;exact⟨_,rfl,s,u,rfl,ho.mono hb.size⟩
   ·refine bG rfl ?_;intro ρ y W hw hn hb hd;have gj:=hw 39 2 rfl;have h2:y 2 = .bool P.lv:=hd 2 rfl;have gg:=hw 42 5 rfl;have h5:((ou w11.heap.size 99 7 P.ar.length (P.ar.flatMap mM))).r (y 5) W:=hd 5 rfl;have gc:=hw 45 8 rfl;have h8:((JU w11.heap.size P.tb)).r (y 8) W:=hd 8 rfl;obtain⟨x5,c5,e5,_⟩:=Own.rd h5;obtain⟨cs8,e8,kU⟩:=h8;obtain⟨v8,rfl⟩:=QK kU.sz;have k9:Own W w11.heap.size 99 7 (.slice x5 P.ar.length c5) P.ar.length (P.ar.flatMap mM):=by rw[←e5];exact h5
    refine aj (.agg (vT ⟨P.lv,x5,c5,P.ar,v8,P.tb⟩)) (ah rfl) (by simp[execOp,go_sem,gj.trans h2,gg,e5,gc,e8,nP,vT]) ?_;exact⟨⟨P.lv,x5,c5,P.ar,v8,P.tb⟩,rfl,rfl,k9,kU⟩
   ·refine bG rfl ?_;intro ρ y W hw hn hb hd;have gb:=hw 46 9 rfl;have h9:((VH w11.heap.size P.sp)).r (y 9) W:=hd 9 rfl;obtain⟨p9,e9,k6⟩:=h9;refine jU (.slice (some ⟨W.heap.size,0,none⟩) 1 1) (ah rfl) (by simp[execOp,go_sem,gb,e9,vT]) ((Below.refl _ _).alloc (ay _) (.cells (vT p9) 55)) ?_;exact⟨_,p9,rfl,dP.new _ _ _,k6.below ((Below.refl _ _).alloc (ay _) _)⟩
   intro ρ y WA o ho hw hn hV j n;cases ho;have kq:y 0 = .slice av qs.length cv:=n 0 (by decide);have kI:y 1 = .pointer (some ⟨wr.heap.size,0,none⟩):=n 1 (by decide);have hF:y 2 = .bool P.lv:=n 2 (by decide);have kG:y 3 = .pointer (some ⟨wr.heap.size,1,none⟩):=n 3 (by decide);have kF:y 4 = .slice P.aa P.ar.length P.ac:=n 4 (by decide);have hH:((ou w11.heap.size 99 7 P.ar.length (P.ar.flatMap mM))).r (y 5) WA:=n 5 (by decide);have kE:y 6 = .pointer (some ⟨wr.heap.size,2,none⟩):=n 6 (by decide);have kD:y 7 = .agg (nP P.ts):=n 7 (by decide);have kC:((JU w11.heap.size P.tb)).r (y 8) WA:=n 8 (by decide);have gt:((VH w11.heap.size P.sp)).r (y 9) WA:=n 9 (by decide);have kH:((Wv w11.heap.size P.sp)).r (y 10) WA:=n 10 (by decide);have kX:=hw 37 0 rfl;rw[kq] at kX;have ga:=hw 47 10 rfl;have EC:∀v,ρ (.const v)=v:=fun v=>hn (.const v) trivial;have EF:∀f,ρ (.func f) = .func (.func f) #[] #[]:=fun f=>hn (.func f) trivial;obtain⟨g10,p10,e10,hJ,g⟩:=kH;refine Ht (ah rfl) (pG (.tmp 37) (.tmp 47) 39 rfl w.heap.size 55 _ 10 224 underlying39 space_info rfl (by decide) _ _ _ kX (hO.below j) _ 1 1 (sW p10) (ga.trans e10) (fun e=>by cases e) (ay _) rfl hJ (Rs g) (by unfold maxLen;omega) (by omega) (bi kw.out j.size)) ?_;rintro v2 w13 ⟨hB,c,hS⟩;clear n hw hn hV;simp only[lay,Nat.reduceAdd,Nat.reduceLT,Nat.reduceEqDiff,reduceIte,decide_true,decide_false,if_true,uQ,if_false,Cf,qC,uZ,zz,CZ,Ab,kq,kI,hF,kG,kF,kE,kD];clear kq kI hF kG kF kE kD;have t:=hO.below j;have hT:=ae hc j;have ky:Below w.heap.size w w13:=hT.grown c hT.size (fun k hk=>t.ge k hk);have hg : Own w13 w.heap.size 55 10 v2 (qs++[p10]).length ((qs++[p10]).flatMap sW):=by rw[jH,eY];simpa using hB
   obtain⟨a13,c13,rfl,_⟩:=hg.rd;have r1:=iK t c (q1.below j) (by decide);have r2:=iK t c (q2.below j) (by decide);have r3:il w13 w.heap.size _ _ H.sw:=⟨iK t c (q3.below j).b (by decide),iK t c (q3.below j).q (by decide)⟩;have r4:il w13 w.heap.size _ _ H.dk:=⟨iK t c (q4.below j).b (by decide),iK t c (q4.below j).q (by decide)⟩;have r5:=TQ t c (q5.below j);have r6:=iK t c (q6.below j) (by decide);have bx13:=zV t c (bx11.ext j) (by decide);have rx13:=zV t c (rx11.ext j) (by decide);have kt:∀p∈qs++[p10],uP w13 w.heap.size p p.sp∧Fu p.tb:=fun p hp=>by
    rcases fO.1 hp with hp|hp
    ·have h1:=(hm p hp).1.below j;exact⟨⟨rfl,iK t c h1.2.1 (by decide),Da t c h1.2.2⟩,(hm p hp).2⟩
    rw[bv.1 hp];refine⟨⟨rfl,(iK t c g.2.1 (by decide)).mono kw.out,(Da t c g.2.2).mono kw.out⟩,?_⟩;have e:p10.tb=P.tb:=congrArg Sp.tb g.1;rw[e];exact kB
   have kR:Hid ((qs++[p10]).map PS.sp=(H.sp.take (q+1)).map PS.sp):=Lib.hid (by rw[jb,←kS.out,←g.1];rfl);clear hO t hT j hB c hS g hJ fx d bx11 rx11 q1 q2 q3 q4 q5 q6 hm;go_wp2;go_roundw
   case rel=>exact⟨q+1,_,_,_,by omega,by go_num,rfl,ky,bx13,rx13,r1,r2,r3,r4,r5,r6,hg,kt,kR⟩
   case measure=>simp[intOf];omega
  have k1:¬(q:Int)<(H.sp.length:Int):=by omega
  rw[iN (by omega)] at kb
  go_wp2_with (refine aA rfl _ _ _ rfl w.heap.size 10 _ [.slice av qs.length cv] rfl rfl rfl _ _ bx (by show 10+1≤11;decide) slsp_size (fun u hu=>by cases bv.1 hu;rfl) ?_)
  intro w11 bx11 d;have hc:=hv.grown d hv.size (fun k hk=>by cases hk;exact ay _);have rx11:=rx.grown d (fun e=>by have:=aJ e;omega);obtain⟨K,hK⟩:∃K:MH,Hid (K = { G with ap:=av,cp:=cv,sp:=qs }):=⟨_,Lib.hid rfl⟩;have bxK:aB w11 w.heap.size (dh K) 41:=by rw[hK.out];exact bx11
  have kT:tu w11 w.heap.size K:=by rw[hK.out,hG.out];exact⟨ak p1 bx (by decide) d,ak p2 bx (by decide) d,p3.keep bx (by decide) (by decide) d,p4.keep bx (by decide) (by decide) d,p5.keep bx (by decide) (by decide) d,ak p6 bx (by decide) d,ak ho bx (by decide) d,fun p hp=>⟨ak (hL p hp).1.2.1 bx (by decide) d,(hL p hp).1.2.2.keep bx (by decide) d⟩,k5⟩
  have k3:K.ma=H.ma:=by rw[hK.out,hG.out];unfold MH.ma;simp only;rw[kb.out,kP]
  have kZ:∀p∈K.fi,∀x,oB p.a=some x→oB K.asl≠some x:=by rw[hK.out,hG.out];exact k2.out
  clear hv bx rx d bx11 p1 p2 p3 p4 p5 p6 ho
  go_wp2_with (first | (refine ax _ _ rfl w.heap.size 0 rfl rfl (dh K).toList bxK.rd _ underlying41 rfl mach_size ?_) | (refine az rfl _ _ _ rfl (w.heap.size+1) (dh K) rfl rfl _ _ rx11 rfl mach_size (fw K) ?_))
  intro w12 rx12 kp;have kz:=hc.grown kp hc.size (fun k hk=>by cases hk;omega);go_wp2;refine bodyPost_ret (v:=.agg (dh K)) (eF results40 _ _ (w.heap.size+1) _ _ _ rfl rx12 underlying41 rfl mach_size) rfl ?_;exact⟨K,rfl,kT.keep rx11 (by decide) kp,k3,kZ,kz⟩
def kV (f s b:Int):Ma:=if (0≤f∧f≤40)∧(0≤s∧s≤60)∧(0≤b∧b≤80) then ⟨uh f,AJ s,oI s,oI b,⟨[],b⟩,[],[⟨true,[],zTb⟩]⟩ else zMa
def Ay (f s b:Int):Int:=if (0≤f∧f≤40)∧(0≤s∧s≤60)∧(0≤b∧b≤80) then 0 else 4
def noH:MH:=⟨none,0,noM,none,0,[],none,0,none,0,⟨[],[]⟩,none,0,none,0,⟨[],[]⟩,none,0,[],0,none,0,[],none,0,[]⟩
theorem Hf (w:World) (B:Nat):tu w B noH:=
 ⟨Own.nil _ _ _ _,Own.nil _ _ _ _,il.nil _ _,il.nil _ _,⟨Own.nil _ _ _ _,fun i p hp=>by simp[noH] at hp,fun i j p q _ hp=>by simp[noH] at hp⟩,Own.nil _ _ _ _,Own.nil _ _ _ _,fun p hp=>by simp[noH] at hp,by decide⟩
def nTs:Vector Value 8:=⟨#[.slice none 0 0,.slice none 0 0,.slice none 0 0,.slice none 0 0,.slice none 0 0,.slice none 0 0,.slice none 0 0,.slice none 0 0],rfl⟩
def newP:PS:=⟨true,none,0,[],nTs,zTb⟩
theorem QG (w:World) (B:Nat) (hB:B≤w.heap.size):Own (w.alloc (.cells (vT newP) 55)) B 55 10 (.slice (some ⟨w.heap.size,0,none⟩) 1 1) 1 ([newP].flatMap sW):=
 ⟨rfl,.inr ⟨w.heap.size,0,1,vT newP,rfl,hB,aB.new _ _ _,ay _,by decide,by decide,fun j u h=>by rw[eu,←tJ];rw[show [newP].flatMap sW=(vT newP).toList from by rw[lX,HZ,mY];rfl] at h;exact h⟩⟩
theorem KZ (f s b:Int) (w:World) (hb64 : -9223372036854775808≤b∧b≤9223372036854775807) :
  Calls Tryz.prog 59 #[.agg #[.int .i64 f,.int .i64 s,.int .i64 b]] w fun r w' => ∃H' : MH,r = .returned (.tuple #[.agg (dh H'),.int .i64 (Ay f s b)])∧tu w' w.heap.size H'∧H'.ma=kV f s b∧Below w.heap.size w w':=by
 go_enter func59,ntmps59;have bx0:=aB.new w #[.int .i64 f,.int .i64 s,.int .i64 b] 23;have h1:Below w.heap.size w (w.alloc (.cells #[.int .i64 f,.int .i64 s,.int .i64 b] 23)):=(Below.refl _ _).alloc (ay _) _;have h2:Below (w.alloc (.cells #[.int .i64 f,.int .i64 s,.int .i64 b] 23)).heap.size (w.alloc (.cells #[.int .i64 f,.int .i64 s,.int .i64 b] 23)) ((w.alloc (.cells #[.int .i64 f,.int .i64 s,.int .i64 b] 23)).alloc (.cells (dh noH) 41)):=(Below.refl _ _).alloc (ay _) _;have hy:=ae h1 h2;have bx1:=bx0.ext h2;have rx1:=aB.new (w.alloc (.cells #[.int .i64 f,.int .i64 s,.int .i64 b] 23)) (dh noH) 41;rw[show (w.alloc (.cells #[.int .i64 f,.int .i64 s,.int .i64 b] 23)).heap.size=w.heap.size+1 from zk _] at rx1;clear h1 h2
 go_wp2_with fail
 refine (QV f _).mono ?_;rintro r w1 ⟨v1,rfl,hB,hn⟩;have bx1:=bx1.ext hn;have rx1:=rx1.ext hn;have hr:=ae hy hn;have c:=aB.new w1 #[.slice none 0 0,.int .i64 0] 28;have a:Below w1.heap.size w1 (w1.alloc (.cells #[.slice none 0 0,.int .i64 0] 28)):=(Below.refl _ _).alloc (ay _) _;have bx2:=bx1.ext a;have rx2:=rx1.ext a;have hm:=ae hr a;have p1:=(hB.below a);obtain⟨a1,c1,rfl,_⟩:=p1.rd;have hQ:=rx1.lt;have hC:=hy.size;clear hy hn a hB hr bx1
 go_wp2_with (refine az rfl _ _ _ rfl w1.heap.size #[.slice a1 (uh f).fs.length c1,.int .i64 0] rfl rfl _ _ c rfl mem_size (jf _ _ _ _) ?_)
 intro w2 mb2 hh;have bx3:=bx2.grown hh (fun e=>by have:=aJ e;omega);have rx3:=rx2.grown hh (fun e=>by have:=aJ e;omega);have hg:=hm.grown hh hm.size (fun k hk=>by cases hk;omega);have q1:=ak p1 c (by decide) hh;have hw:w2.cell? ⟨w.heap.size,1,none⟩=some (.int .i64 s):=by rw[bx3.cell];rfl
 clear bx2 rx2 hm c p1 hh
 by_cases hf:0≤f∧f≤40
 ·have e1:Og f=0:=if_pos hf;rw[e1]
  go_wp2_with fail
  refine (Ol s _).mono ?_;rintro r w3 ⟨v3,rfl,hv,hb⟩;have bx4:=bx3.ext hb;have rx4:=rx3.ext hb;have mb4:=mb2.ext hb;have p1:=q1.below hb;have hO:=hb.size;have hP:=mb2.lt;have hd:=ae hg hb;obtain⟨a3,c3,rfl,_⟩:=hv.rd;clear bx3 rx3 mb2 q1 hb hg hw
  by_cases hs:0≤s∧s≤60
  ·have e2:Ik s=0:=if_pos hs;rw[e2];have hw:w3.cell? ⟨w.heap.size,1,none⟩=some (.int .i64 s):=by rw[bx4.cell];rfl
   go_wp2_with fail
   refine (Ki s _).mono ?_;rintro r w4 ⟨vb,vq,rfl,hu,u⟩;have a:Below w4.heap.size w4 (w4.alloc (.cells #[.slice none 0 0,.slice none 0 0] 34)):=(Below.refl _ _).alloc (ay _) _;have c:=aB.new w4 #[.slice none 0 0,.slice none 0 0] 34;have hN:=u.size;have bx5:=(bx4.ext u).ext a;have rx5:=(rx4.ext u).ext a;have mb5:=(mb4.ext u).ext a;have q1:=(p1.below u).below a;have q3:=(hv.below u).below a;have q4:il _ _ _ _ _:=⟨hu.b.below a,hu.q.below a⟩;have hl:=ae (ae hd u) a;obtain⟨ab,cb,rfl,_⟩:=q4.b.rd;obtain⟨aq,cq,rfl,_⟩:=q4.q.rd;have hI:=(mb4.ext u).lt;clear bx4 rx4 mb4 p1 hv hu u a hd hw
   go_wp2_with (refine az rfl _ _ _ rfl w4.heap.size #[.slice ab (oI s).blocks.length cb,.slice aq (oI s).queue.length cq] rfl rfl _ _ c rfl disk_size (kN _ _ _ _ _ _) ?_)
   intro w5 sb5 y;have bx6:=bx5.grown y (fun e=>by have:=aJ e;omega);have rx6:=rx5.grown y (fun e=>by have:=aJ e;omega);have mb6:=mb5.grown y (fun e=>by have:=aJ e;omega);have hq:=hl.grown y hl.size (fun k hk=>by cases hk;omega);have p1:=ak q1 c (by decide) y;have p3:=ak q3 c (by decide) y;have p4:=q4.keep c (by decide) (by decide) y;have hx:w5.cell? ⟨w.heap.size,2,none⟩=some (.int .i64 b):=by rw[bx6.cell];rfl
   clear bx5 rx5 mb5 q1 q3 q4 y c hl
   go_wp2_with fail
   refine (Ki b _).mono ?_;rintro r w6 ⟨vb,vq,rfl,ht,l⟩;have a:Below w6.heap.size w6 (w6.alloc (.cells #[.slice none 0 0,.slice none 0 0] 34)):=(Below.refl _ _).alloc (ay _) _;have c:=aB.new w6 #[.slice none 0 0,.slice none 0 0] 34;have hL:=l.size;have hH:=sb5.lt;have hG:=(sb5.ext l).lt;have bx7:=(bx6.ext l).ext a;have rx7:=(rx6.ext l).ext a;have mb7:=(mb6.ext l).ext a;have sb7:=(sb5.ext l).ext a;have q1:=(p1.below l).below a;have q3:=(p3.below l).below a;have q4:il _ _ _ _ _:=⟨(p4.b.below l).below a,(p4.q.below l).below a⟩;have q6:il _ _ _ _ _:=⟨ht.b.below a,ht.q.below a⟩;have hj:=ae (ae hq l) a;obtain⟨db,dcb,rfl,_⟩:=q6.b.rd;obtain⟨dq,dcq,rfl,_⟩:=q6.q.rd;clear bx6 rx6 mb6 sb5 p1 p3 p4 ht l a hq hx
   go_wp2_with (refine az rfl _ _ _ rfl w6.heap.size #[.slice db (oI b).blocks.length dcb,.slice dq (oI b).queue.length dcq] rfl rfl _ _ c rfl disk_size (kN _ _ _ _ _ _) ?_)
   intro w7 db7 o;have bx8:=bx7.grown o (fun e=>by have:=aJ e;omega);have rx8:=rx7.grown o (fun e=>by have:=aJ e;omega);have mb8:=mb7.grown o (fun e=>by have:=aJ e;omega);have sb8:=sb7.grown o (fun e=>by have:=aJ e;omega);have hc:=hj.grown o hj.size (fun k hk=>by cases hk;omega);have p1:=ak q1 c (by decide) o;have p3:=ak q3 c (by decide) o;have p4:=q4.keep c (by decide) (by decide) o;have p6:=q6.keep c (by decide) (by decide) o;have hx:w7.cell? ⟨w.heap.size,2,none⟩=some (.int .i64 b):=by rw[bx8.cell];rfl
   clear bx7 rx7 mb7 sb7 q1 q3 q4 q6 o c hj
   by_cases hk:0≤b∧b≤80
   ·have e3:NK b=0:=if_pos hk;rw[e3]
    go_wp2_with fail
    refine (Rk b _).mono ?_;rintro r w8 ⟨rfl,d⟩;have e4:Ug b=b:=if_neg (by omega);have e5:newE b=0:=if_neg (by omega);rw[e4,e5];have a:Below w8.heap.size w8 (w8.alloc (.cells #[.slice none 0 0,.int .i64 0] 37)):=(Below.refl _ _).alloc (ay _) _;have c:=aB.new w8 #[.slice none 0 0,.int .i64 0] 37;have hK:=d.size;have hF:=db7.lt;have hE:=(db7.ext d).lt;have rx9:=(rx8.ext d).ext a;have mb9:=(mb8.ext d).ext a;have sb9:=(sb8.ext d).ext a;have db9:=(db7.ext d).ext a;have q1:=(p1.below d).below a;have q3:=(p3.below d).below a;have q4:il _ _ _ _ _:=⟨(p4.b.below d).below a,(p4.q.below d).below a⟩;have q6:il _ _ _ _ _:=⟨(p6.b.below d).below a,(p6.q.below d).below a⟩;have hi:=ae (ae hc d) a;clear bx8 rx8 mb8 sb8 db7 p1 p3 p4 p6 d a hc hx
    go_wp2_with (refine az rfl _ _ _ rfl w8.heap.size #[.slice none 0 0,.int .i64 b] rfl rfl _ _ c rfl store_size (jf _ _ _ _) ?_)
    intro w9 tb9 n;have rx10:=rx9.grown n (fun e=>by have:=aJ e;omega);have mb10:=mb9.grown n (fun e=>by have:=aJ e;omega);have sb10:=sb9.grown n (fun e=>by have:=aJ e;omega);have db10:=db9.grown n (fun e=>by have:=aJ e;omega);have ha:=hi.grown n hi.size (fun k hk=>by cases hk;omega);have p1:=ak q1 c (by decide) n;have p3:=ak q3 c (by decide) n;have p4:=q4.keep c (by decide) (by decide) n;have p6:=q6.keep c (by decide) (by decide) n;clear rx9 mb9 sb9 db9 q1 q3 q4 q6 n c hi;obtain⟨M,hM⟩:∃M:MH,Hid (M=⟨a1,c1,⟨(uh f).fs,0⟩,a3,c3,AJ s,ab,cb,aq,cq,oI s,db,dcb,dq,dcq,oI b,none,0,[],b,none,0,[],some ⟨w9.heap.size,0,none⟩,1,[newP]⟩):=⟨_,Lib.hid rfl⟩;have t:Below w9.heap.size w9 (w9.alloc (.cells (vT newP) 55)):=(Below.refl _ _).alloc (ay _) _;have rx11:=rx10.ext t;have q1:=p1.below t;have q3:=p3.below t;have q4:il _ _ _ _ _:=⟨p4.b.below t,p4.q.below t⟩;have q6:il _ _ _ _ _:=⟨p6.b.below t,p6.q.below t⟩;have q7:=QG w9 w.heap.size ha.size;have z:=ae ha t;have hD:=tb9.lt;have hJ:=rx10.lt;clear p1 p3 p4 p6 t
    go_wp2_with (first | (refine ax _ _ rfl w1.heap.size 0 rfl rfl _ mb10.rd _ underlying28 rfl mem_size ?_) | (refine ax _ _ rfl w4.heap.size 0 rfl rfl _ sb10.rd _ underlying34 rfl disk_size ?_) | (refine ax _ _ rfl w6.heap.size 0 rfl rfl _ db10.rd _ underlying34 rfl disk_size ?_) | (refine ax _ _ rfl w8.heap.size 0 rfl rfl _ tb9.rd _ underlying37 rfl store_size ?_) | (refine az rfl _ _ _ rfl (w.heap.size+1) #[.slice a1 (uh f).fs.length c1,.int .i64 0,.slice a3 (AJ s).length c3,.slice ab (oI s).blocks.length cb,.slice aq (oI s).queue.length cq,.slice db (oI b).blocks.length dcb,.slice dq (oI b).queue.length dcq,.slice none 0 0,.int .i64 b,.slice none 0 0,.slice (some ⟨w9.heap.size,0,none⟩) 1 1] rfl rfl _ _ rx11 rfl mach_size (by simp[Value.oneCell']) ?_))
    intro we x g;have hz : aB we (w.heap.size+1) (dh M) 41:=by rw[hM.out];exact x
    have m:=z.grown g z.size (fun k hk=>by cases hk;omega);have hA:tu we w.heap.size M:=by
     rw[hM.out];refine⟨(ak q1 rx11 (by decide) g).mono hC,(ak q3 rx11 (by decide) g).mono (by omega),?_,?_,⟨Own.nil _ _ _ _,fun i p hp=>by simp at hp,fun i j p q _ hp=>by simp at hp⟩,Own.nil _ _ _ _,ak q7 rx11 (by decide) g,fun p hp => ?_,hb64⟩
     ·exact (q4.keep rx11 (by decide) (by decide) g).mono (by omega)
     ·exact (q6.keep rx11 (by decide) (by decide) g).mono (by omega)
     rw[bv.1 hp];exact⟨Own.nil _ _ _ _,yS _ _⟩
    clear x rx10 rx11 mb10 sb10 db10 tb9 q1 q3 q4 q6 q7 g ha z;go_wp2;refine bodyPost_ret (v:=.tuple #[.agg (dh M),.int .i64 0]) (eZ results59 _ _ (w.heap.size+1) _ _ _ _ rfl rfl hz underlying41 rfl mach_size) rfl ?_;refine⟨M,by rw[show Ay f s b=0 from if_pos ⟨hf,hs,hk⟩],hA,?_,m⟩;rw[show kV f s b=_ from if_pos ⟨hf,hs,hk⟩,hM.out];unfold MH.ma;rw[show uh f=⟨List.replicate f.toNat frZ,0⟩ from if_pos hf];rfl
   have e3:NK b=4:=if_neg hk;rw[e3]
   go_wp2_with (refine az rfl _ _ _ rfl (w.heap.size+1) (dh noH) rfl rfl _ _ rx8 rfl mach_size (fw noH) ?_)
   intro we x g;have m:=hc.grown g hc.size (fun k hk=>by cases hk;omega);go_wp2;refine bodyPost_ret (v:=.tuple #[.agg (dh noH),.int .i64 4]) (eZ results59 _ _ (w.heap.size+1) _ _ _ _ rfl rfl x underlying41 rfl mach_size) rfl ?_;exact⟨noH,by rw[show Ay f s b=4 from if_neg (fun h=>hk h.2.2)],Hf _ _,by rw[show kV f s b=zMa from if_neg (fun h=>hk h.2.2)];rfl,m⟩
  have e2:Ik s=4:=if_neg hs;rw[e2]
  go_wp2_with (refine az rfl _ _ _ rfl (w.heap.size+1) (dh noH) rfl rfl _ _ rx4 rfl mach_size (fw noH) ?_)
  intro we x g;have m:=hd.grown g hd.size (fun k hk=>by cases hk;omega);go_wp2;refine bodyPost_ret (v:=.tuple #[.agg (dh noH),.int .i64 4]) (eZ results59 _ _ (w.heap.size+1) _ _ _ _ rfl rfl x underlying41 rfl mach_size) rfl ?_;exact⟨noH,by rw[show Ay f s b=4 from if_neg (fun h=>hs h.2.1)],Hf _ _,by rw[show kV f s b=zMa from if_neg (fun h=>hs h.2.1)];rfl,m⟩
 have e1:Og f=4:=if_neg hf;rw[e1]
 go_wp2_with (refine az rfl _ _ _ rfl (w.heap.size+1) (dh noH) rfl rfl _ _ rx3 rfl mach_size (fw noH) ?_)
 intro we x g;have m:=hg.grown g hg.size (fun k hk=>by cases hk;omega);go_wp2;refine bodyPost_ret (v:=.tuple #[.agg (dh noH),.int .i64 4]) (eZ results59 _ _ (w.heap.size+1) _ _ _ _ rfl rfl x underlying41 rfl mach_size) rfl ?_;exact⟨noH,by rw[show Ay f s b=4 from if_neg (fun h=>hf h.1)],Hf _ _,by rw[show kV f s b=zMa from if_neg (fun h=>hf h.1)];rfl,m⟩
theorem srt_len:∀ {l:List Nat} {a n:Nat},l.Pairwise (· < ·)→(∀x∈l,a≤x∧x<n)→l.length≤n-a
 | [],_,_,_,_=>by simp
 | x::l,a,n,hs,h=>by obtain⟨h1,h2⟩:=su.1 hs;have hx:=h x gV;have:=srt_len (a:=x+1) (n:=n) h2 fun y hy=>⟨h1 y hy,(h y (ji _ hy)).2⟩;rw[pq];omega
theorem Rf (h:vJ m) (hs:aO m.st=0):m.ca.length≤60:=by
 have hl:∀c∈m.ca,0≤c.f∧c.f<5∧0≤c.i∧c.i<12:=fun c hc=>by have h1:=h.file c hc;have h2:=GR hs h1;have h3:=h1.1;have h4:=h1.2;omega
 have key:=srt_len (l:=m.ca.map fun c=>(12*c.f+c.i).toNat) (a:=0) (n:=60) ?_ fun x hx => ?_
 ·simpa using key
 ·rw[List.pairwise_map];refine List.Pairwise.imp_of_mem ?_ h.srt;intro a b ha hb d;have h1:=hl a ha;have h2:=hl b hb;unfold BZ at d;show (12*a.f+a.i).toNat<(12*b.f+b.i).toNat;omega
 obtain⟨c,hc,rfl⟩:=gW.1 hx;have h1:=hl c hc;show 0≤(12*c.f+c.i).toNat∧(12*c.f+c.i).toNat<60;omega
theorem Bc {s:St} (hs:aO s=0):∀f∈s.fs,f.b.length≤12:=fun f hf=>by
 obtain⟨k,hk,rfl⟩:=jC.1 hf;have h1:=zS hs (f:=(k:Int)) ⟨by omega,by omega⟩;have hfa:aK s (k:Int)=s.fs[k]:=oz (aH hk);rw[hfa] at h1;obtain⟨a1,a2,a3,_⟩:=h1;have e:(s.fs[k].b.length:Int)≤12:=by rw[a3];unfold dW;split<;>omega
 omega
structure Fb (ct:Nat) (bl:List Page) (q:List (Int × Page)) (fs:List Fi) (x:List Int):Prop where
 cl:bl.length=ct∧ct≤80
 ok:∀f∈fs,EK ct f
 nd:(ku (fs.flatMap Fi.b++x)).Nodup
 xb:∀b∈x,-1≤b∧b<ct
 tr:∀b:Int,0≤b→b<ct→b∈fs.flatMap Fi.b++x∨bl.getD b.toNat zPg=zPg
 qb:∀p∈q,p.1∈fs.flatMap Fi.b++x∧0≤p.1∧p.1<ct
 ql:q.length≤12*fs.length+x.length
theorem Fb.start (h:ct≤80):Fb ct (List.replicate ct zPg) [] [] [] where
 cl:=⟨by simp,h⟩
 ok:=fun f hf=>by cases hf
 nd:=by simp[ku]
 xb:=fun b hb=>by cases hb
 tr:=fun b h0 h1 => .inr (by rw[aS,nI,if_pos (by omega)];rfl)
 qb:=fun p hp=>by cases hp
 ql:=by simp
theorem Fb.none {q:List (Int × Page)} {x:List Int} (h:Fb ct bl q fs x):Fb ct bl q fs (x++[-1]) where
 cl:=h.cl
 ok:=h.ok
 nd:=by
  have e:ku (fs.flatMap Fi.b++(x++[-1]))=ku (fs.flatMap Fi.b++x):=by rw[←jG,uo];simp[ku]
  rw[e];exact h.nd
 xb:=fun b hb=>by
  rcases fO.1 hb with hb|hb
  ·exact h.xb b hb
  ·rw[bv.1 hb];omega
 tr:=fun b h0 h1=>(h.tr b h0 h1).imp (fun hb=>by rw[←jG];exact oG _ hb) id
 qb:=fun p hp=>⟨by rw[←jG];exact oG _ (h.qb p hp).1,(h.qb p hp).2⟩
 ql:=by have:=h.ql;simp;omega
theorem Fb.some {q:List (Int × Page)} {x:List Int} (h:Fb ct bl q fs x) (hn:n<ct) (hu:¬(n:Int)∈fs.flatMap Fi.b++x) (P:Page):Fb ct (bl.set n P) q fs (x++[(n:Int)]) where
 cl:=⟨by rw[bH];exact h.cl.1,h.cl.2⟩
 ok:=h.ok
 nd:=by
  have e:ku (fs.flatMap Fi.b++(x++[(n:Int)]))=ku (fs.flatMap Fi.b++x)++[(n:Int)]:=by rw[←jG,uo];simp[ku]
  rw[e];refine xm.2 ⟨h.nd,by simp,fun a ha b hb e => ?_⟩;rw[bv.1 hb] at e;subst e;exact hu (iW.1 ha).1
 xb:=fun b hb=>by
  rcases fO.1 hb with hb|hb
  ·exact h.xb b hb
  ·rw[bv.1 hb];omega
 tr:=fun b h0 h1=>by
  by_cases e:b=(n:Int)
  ·subst e;exact .inl (by simp)
  rcases h.tr b h0 h1 with hb|hb
  ·exact .inl (by rw[←jG];exact oG _ hb)
  refine .inr ?_;rw[aS,sQ (by omega),←aS];exact hb
 qb:=fun p hp=>⟨by rw[←jG];exact oG _ (h.qb p hp).1,(h.qb p hp).2⟩
 ql:=by have:=h.ql;simp;omega
theorem Fb.wait {q:List (Int × Page)} {x:List Int} (h:Fb ct bl q fs x) (hn:n<ct) (hu:¬(n:Int)∈fs.flatMap Fi.b++x) (P:Page):Fb ct (bl.set n P) (q++[((n:Int),P)]) fs (x++[(n:Int)]):=
 have k:=h.some hn hu P
 { k with
  qb:=fun p hp=>by
   rcases fO.1 hp with hp|hp
   ·exact k.qb p hp
   rw[bv.1 hp];exact⟨by simp,by show (0:Int)≤n;omega,by show (n:Int)<ct;omega⟩
  ql:=by have:=h.ql;simp;omega }
theorem Fb.file {q:List (Int × Page)} {x:List Int} (h:Fb ct bl q fs x) {s:Int} (h0:0≤s) (h1:s≤96) (hl:(x.length:Int)=dW s):Fb ct bl q (fs++[⟨s,x⟩]) []:=by
 have e:(fs++[(⟨s,x⟩:Fi)]).flatMap Fi.b++[]=fs.flatMap Fi.b++x:=by simp
 refine⟨h.cl,fun f hf => ?_,by rw[e];exact h.nd,fun b hb=>(by cases hb),by rw[e];exact h.tr,by rw[e];exact h.qb,?_⟩
 ·rcases fO.1 hf with hf|hf
  ·exact h.ok f hf
  ·rw[bv.1 hf];exact⟨h0,h1,hl,h.xb⟩
 have:=h.ql;have e2:dW s≤12:=by unfold dW;split<;>omega
 have e3:(fs++[(⟨s,x⟩:Fi)]).length=fs.length+1:=by simp
 rw[e3];simp only[zX];omega
def Bg (f s ct:Nat) (bl:List Page) (q:List (Int × Page)) (fs:List Fi):Ma:=⟨⟨List.replicate f frZ,0⟩,List.replicate s 0,⟨List.replicate s zPg,[]⟩,⟨bl,q⟩,⟨fs,ct⟩,[],[]⟩
theorem Fb.bd {q:List (Int × Page)} (h:Fb ct bl q fs []) (hl:fs.length≤5) (hf:f≤40) (hs:s≤60):Bd (Bg f s ct bl q fs) []:=by
 have a:∀i,i<f→aN (Bg f s ct bl q fs) i=frZ:=fun i hi=>by unfold aN Bg;rw[aS,nI,if_pos hi];rfl
 have g:∀p n,(ent (Bg f s ct bl q fs) p n).k=0:=fun p n=>by unfold ent;rw[nR (by simp[Bg])];show (dH zTb n).k=0;rw[uW];rfl
 have hw:aO ⟨fs,(ct:Int)⟩=0:=kZ.2 ⟨⟨hl,by show (0:Int)≤ct;omega,by show (ct:Int)≤80;have:=h.cl.2;omega⟩,h.ok,by have:=h.nd;rw[mY] at this;exact this⟩;have o:aY ⟨bl,q⟩=0:=(eO _).2 ⟨by show bl.length≤80;have:=h.cl;omega,by show q.length≤400;have:=h.ql;simp only[zX] at this;omega,fun x hx=>by have:=(h.qb x hx).2;have e:bl.length=ct:=h.cl.1;show 0≤x.1∧x.1<(bl.length:Int);omega⟩;have j:aY ⟨List.replicate s zPg,[]⟩=0:=(eO _).2 ⟨by simp;omega,by simp,fun x hx=>(by cases hx)⟩;have l:dn (List.replicate s (0:Int))=0:=FH (by simp;exact hs) fun x hx=>by rw[(Cs.1 hx).2];decide
 have hm:bL ⟨List.replicate f frZ,0⟩=0:=(eH _).2 ⟨by simp;exact hf,fun x hx=>by rw[(Cs.1 hx).2];decide,rZ _,.inl rfl⟩;have d:dU (Bg f s ct bl q fs) []=Bg f s ct bl q fs:=rfl;have hh:∀kd i,dA (Bg f s ct bl q fs) kd i=0:=fun _ _=>rfl;have hc:∀i,vY (Bg f s ct bl q fs) i=0:=fun _=>rfl;refine⟨⟨rfl,fun t ht=>(by cases ht),fun t ht=>(by cases ht)⟩,?_,?_⟩
 ·rw[d];refine⟨⟨hm,l,j,o,hw,by simp[Bg],by have:=h.cl.1;show (bl.length:Int)=ct;omega,by simp[Bg],fun s hs=>(by cases hs),fun s hs=>(by cases hs)⟩,⟨fun b h0 h1 => ?_,fun p hp => ?_⟩,fun p _=>⟨by rw[nR (by simp[Bg])];rfl,fun n=>g p n⟩,⟨fun c hc=>(by cases hc),fun c hc=>(by cases hc),fun c hc=>(by cases hc),List.Pairwise.nil⟩,fun p n hk=>absurd (g p n) hk,fun i hi => ?_,fun i hi h0 => ?_,fun i hi => ?_⟩
  ·have e:(Bg f s ct bl q fs).dk.blocks.length=ct:=h.cl.1;have:=h.tr b h0 (by omega);rw[mY] at this;exact this
  ·have:=(h.qb p hp).1;rw[mY] at this;exact this
  ·rw[a i (by have e:(Bg f s ct bl q fs).m.fs.length=f:=jD;omega),hh,hc];rfl
  ·rw[a i (by have e:(Bg f s ct bl q fs).m.fs.length=f:=jD;omega)] at h0;exact absurd h0 (by decide)
  rw[hh];have e:(Bg f s ct bl q fs).sl.length=s:=jD;unfold oZ;show (List.replicate s (0:Int)).getD i 0=_;rw[aS,nI,if_pos (by omega)];rfl
 rw[d];refine⟨fun c hc=>(by cases hc),fun c hc=>(by cases hc),fun i hi hd => ?_⟩;rw[a i (by have e:(Bg f s ct bl q fs).m.fs.length=f:=jD;omega)] at hd;exact absurd hd (by decide)
def tabs (m:Ma) (T:List (List En)):Nat→Ma
 | 0=>m
 | q+1=>setTb (tabs m T q) q (fU (eU T q))
theorem take_set {α:Type} {F O:List α} (hl:F.length=O.length) (hq:q<O.length):(F.take q++O.drop q).set q (F[q]'(by omega))=F.take (q+1)++O.drop (q+1):=by
 have e1:(F.take q).length=q:=by rw[lC];omega
 rw[List.set_append,if_neg (by omega),e1,tV,vv hq,qC,List.take_succ_eq_append_getElem (by omega),jG];rfl
theorem NU {m:Ma} {T:List (List En)}:∀q,q≤m.sp.length→tabs m T q = { m with sp:=(dU m T).sp.take q++m.sp.drop q }
 | 0,_=>by simp[tabs]
 | q+1,h=>by
  have ih:=NU (m:=m) (T:=T) q (by omega);have hF:(dU m T).sp.length=m.sp.length:=kI;have e1:((dU m T).sp.take q).length=q:=by rw[lC];omega
  have hsp:fF (tabs m T q) q=m.sp[q]'(by omega):=by rw[ih];unfold fF;show ((dU m T).sp.take q++m.sp.drop q).getD q zSp=_;rw[aS,kK (by omega),e1,tV,rO,iq,aH (by omega)];rfl
  have hFq:(dU m T).sp[q]'(by omega) = { m.sp[q]'(by omega) with tb:=fU (eU T q) }:=by
   have h1:=yY (m:=m) (T:=T) (p:=q) (by omega);have h2:fF m q=m.sp[q]'(by omega):=by unfold fF;rw[aS,aH (by omega)];rfl
   have h3:fF (dU m T) q=(dU m T).sp[q]'(by omega):=by unfold fF;rw[aS,aH (by omega)];rfl
   rw[h2,h3] at h1;exact h1
  show setTb (tabs m T q) q (fU (eU T q))=_;unfold setTb;rw[hsp,ih,←hFq];show ({ m with sp:=((dU m T).sp.take q++m.sp.drop q).set q _ }:Ma)=_;rw[take_set hF (by omega)]
theorem RS {T:List (List En)}:tabs m T m.sp.length=dU m T:=by
 rw[NU _ (ay _),List.drop_length,mY,iN (by rw[kI];exact ay _)];rfl
theorem JY (hf:f≤40) (hs:s≤60) (hc:ct≤80):dU { Bg f s ct (List.replicate ct zPg) [] [] with sp:=[⟨true,[],zTb⟩] } [List.replicate 64 zEn]=kV f s ct:=by
 have e1:kV f s ct=⟨uh f,AJ s,oI s,oI ct,⟨[],ct⟩,[],[⟨true,[],zTb⟩]⟩:=if_pos ⟨⟨by omega,by omega⟩,⟨by omega,by omega⟩,by omega,by omega⟩;have hz:fU (List.replicate 64 zEn)=zTb:=by decide +kernel
 rw[e1];unfold uh AJ oI dU Bg;rw[if_pos (by omega),if_pos (by omega),if_pos (by omega),if_pos (by omega)];simp only[bR,pq,zX];have e2:fU (eU [List.replicate 64 zEn] 0)=zTb:=hz;show (⟨⟨List.replicate f frZ,0⟩,List.replicate s 0,⟨List.replicate s zPg,[]⟩,⟨List.replicate ct zPg,[]⟩,⟨[],ct⟩,[],[⟨true,[],fU (eU [List.replicate 64 zEn] 0)⟩]⟩:Ma)=_;rw[e2]
theorem GJ (h:Below B w0 w1) (h' : Below B' w1 w2) (hB:B≤B') (hw:B≤w0.heap.size):Below B w0 w2:=
 ⟨h'.os.trans h.os,h'.tape.trans h.tape,h'.output.trans h.output,bi h.size h'.size,fun x hx=>(h'.block x (pY hx hB)).trans (h.block x hx)⟩
theorem qd (h:Rt m):QE m:=by
 have h1:=h.pt;have hw:=(eO _).1 h1.sw;have hd:=(eO _).1 h1.dk;have a:=(jY h1.st).1;refine⟨by have:=((eH _).1 h1.fr).1;omega,by have:=ja h1.sl;omega,by omega,by omega,by omega,by omega,⟨by omega,fun f hf=>by have:=Bc h1.st f hf;omega⟩,by have:=Rf h.ca h1.st;omega,by have:=h1.spl;omega,fun s hs=>⟨?_,fun k hk => ?_⟩⟩
 ·have:=(jI.1 (h1.ar s hs)).1;omega
 ·have:=oL (lF (h1.tb s hs) k hk);omega
theorem wC (h:Below B w w1) (k:Below B w1 w2):Below B w w2:=
 ⟨k.os.trans h.os,k.tape.trans h.tape,k.output.trans h.output,bi h.size k.size,fun i hi=>(k.block i hi).trans (h.block i hi)⟩
theorem machT:41≠96∧41≠81∧41≠106∧41≠55:=by decide
def Xj (H:MH) (w:World) (r:Ending) (w' : World):Prop:=Below w.heap.size w w'∧∃H' : MH,r = .returned (.tuple #[.agg (dh H'),.bool (eB ⟨H.ma,0⟩).2,.int .i64 0])∧tu w' w.heap.size H'∧H'.ma=(eB ⟨H.ma,0⟩).1.m
theorem Ew (H:MH) (w:World) (h:BR w H) (hR:Rt H.ma) (hC:Co H.ma) :
  Calls Tryz.prog 20 #[.agg (dh H)] w (Xj H w):=by
 have hT:=Lib.hid (Bv hR hC);have hf:=Lib.hid hR;have hg:=Lib.hid hC;have p:=Lib.hid (qd hR);clear hR hC;go_enter func20,ntmps20;go_upto_region 1 with (fail);refine rE (fun W=>Code.wp _ _ _ _ W) fun w1 o bx1 rx1 y => ?_;have bx1:aB w1 w.heap.size (dh H) 41:=bx1;have rx1:aB w1 (w.heap.size+1) (dh noH) 41:=rx1;have h1:=h.below o;clear h
 go_wp2_with (refine ax _ _ rfl w.heap.size 0 rfl rfl _ bx1.rd _ underlying41 rfl machine_size ?_)
 refine (mE H _ h1).mono ?_;rintro r w2 ⟨rfl,f⟩;rw[Db.2 hf.out];have h2:=h1.below f;have bx2:=bx1.ext f;have rx2:=rx1.ext f;have d:=ae o f;clear h1 bx1 rx1 o f y
 go_wp2_with (refine ax _ _ rfl w.heap.size 0 rfl rfl _ bx2.rd _ underlying41 rfl machine_size ?_)
 refine (vB H _ h2 p.out).mono ?_;rintro r w3 ⟨H3,rfl,s,a,_,n⟩;have ha:=Lib.hid a;have g:Hid (QE H3.ma):=Lib.hid (by rw[a];exact p.out);have rx3:=rx2.ext n;have c:=ae d n;clear bx2 rx2 h2 a;unfold dh;go_upto_region 5 with (fail);refine gB (fun W=>Code.wp _ _ _ _ W) fun w4 i kx4 x => ?_;have k4:kT w4 w.heap.size w3.heap.size H3 0:=⟨kx4,c.size,(s.mono d.size).below i,fun q hq=>(QE.spz (H:=H3) g.out hq).2⟩;have rx4:=rx3.ext i;have l:=ae c i;clear n i s d kx4 x rx3 c;generalize w3.heap.size=b at k4
 go_wp2_with fail
 refine (Jd H3 0 w.heap.size b _ k4 (by have:=g.out.sp.1;rwa [ER] at this) g.out.ca g.out.fs).mono ?_;rintro r w5 ⟨rfl,H5,e5,k5,s5,q5⟩;rw[ha.out] at q5 ⊢;have hc:e5=0:=by have:=congrArg Kp.e q5;exact this.trans hT.out.1
 subst hc;have hb:Hid (H5.ma=(eB ⟨H.ma,0⟩).1.m):=Lib.hid (congrArg Kp.m q5);have rx5:=s5.blk k4 rx4 machT;have j:=wC l (s5.to k4 (ay _));clear q5 s5 k4 rx4 l;generalize hok:(eB ⟨H.ma,0⟩).2=ok;have hok:=Lib.hid hok;have hd:=k5.blk.cell;unfold sV at hd
 go_wp2_with (first | (refine ax _ _ rfl b 0 rfl rfl (dh H5).toList (bJ k5.blk 0 11) _ underlying41 rfl machine_size ?_) | (refine az rfl _ _ _ rfl (w.heap.size+1) (dh H5) rfl rfl _ _ rx5 rfl mach_size (fw _) ?_))
 intro w7 rx7 t;have u:=j.grown t j.size (fun k hk=>by cases hk;omega);have z:=k5.ma.keep rx5 (by decide) t;go_wp2;refine bodyPost_ret (v:=.tuple #[.agg (dh H5),.bool ok,.int .i64 0]) (iw results20 _ _ (w.heap.size+1) _ _ _ _ _ rfl rfl rfl rx7 underlying41 rfl mach_size) rfl ?_;exact⟨u,H5,by rw[hok.out],z,hb.out⟩
theorem Oy (hf:f<m.m.fs.length) (hc:BV m f=true) (h:∀j,j<f→BV m j=false):rf m=some f:=by
 unfold rf;rw[IZ];exact⟨hc,dE.2 hf,fun j hj=>by rw[h j hj];rfl⟩
theorem GD (h:∀j,j<m.m.fs.length→BV m j=false):rf m=none:=by
 unfold rf;rw[oC];intro j hj;rw[h j (dE.1 hj)];decide
def EY (w:World) (B b rx:Nat) (S:MH):(Nat→Bool)→(Nat→Value)→World→Prop:=fun L y W=>
 (Below B w W∧B≤W.heap.size)∧aB W b (sV S 0) 96∧tu W B S∧(L 8=false→aB W rx (dh noH) 41)∧(L 8=true→aB W rx (dh S) 41)
theorem dQ {S:MH}:∀L y W W',Below W.heap.size W W'→EY w B b rx S L y W→EY w B b rx S L y W':=
 fun _ _ _ _ hb ⟨h1,h2,h3,h4,h5⟩=>⟨⟨h1.1.trans (hb.mono h1.2),bi h1.2 hb.size⟩,h2.ext hb,h3.below hb,fun e=>(h4 e).ext hb,fun e=>(h5 e).ext hb⟩
theorem eT {S:MH} (hi:i≠8) (h:EY w B b rx S L y W):EY w B b rx S (cO L i) (dG y i v) W:=by
 unfold EY at h ⊢;have e:cO L i 8=L 8:=by unfold cO;rw[if_neg (fun e=>hi e.symm)]
 rw[e];exact h
theorem Mv {S:MH} (hB:B≤rx) (hL:L 8=false) (h:EY w B b rx S L y W) (hk:aB W' rx (bB (dh noH) 0 (dh S).toList) 41) (hg:W.grownBy W' (some rx)):EY w B b rx S (cO L 8) (dG y 8 undef) W':=by
 obtain⟨h1,h2,h3,h4,h5⟩:=h;have r1:=h4 hL;rw[iT (dh noH) (dh S) rfl] at hk;exact⟨⟨h1.1.grown hg h1.2 (fun k hk=>by cases hk;exact hB),bi h1.2 hg.size⟩,bq h2 r1 (by decide) hg,h3.keep r1 (by decide) hg,fun e=>(by cases e),fun _=>hk⟩
def Av (m:Ma):Ma:=match rf m with
 | none=>m
 | some f=>(iG ⟨m,0⟩ f).m
def Xi (H:MH) (w:World) (r:Ending) (w' : World):Prop:=Below w.heap.size w w'∧∃H' : MH,r = .returned (.tuple #[.agg (dh H'),.bool (rf H.ma).isSome,.int .i64 0])∧tu w' w.heap.size H'∧H'.ma=Av H.ma
theorem Lh (H:MH) (w:World) (h:BR w H) (hR:Rt H.ma) (hC:Co H.ma) :
  Calls Tryz.prog 22 #[.agg (dh H)] w (Xi H w):=by
 have hA:=Lib.hid hR;have hT:=Lib.hid hC;have hF:=Lib.hid (qd hR);clear hR hC;go_enter func22,ntmps22;go_upto_region 1 with (fail);refine rE (fun W=>Code.wp _ _ _ _ W) fun w1 hz bx1 rx1 hP => ?_;have bx1:aB w1 w.heap.size (dh H) 41:=bx1;have rx1:aB w1 (w.heap.size+1) (dh noH) 41:=rx1;have h1:=h.below hz;clear h
 go_wp2_with (refine ax _ _ rfl w.heap.size 0 rfl rfl _ bx1.rd _ underlying41 rfl machine_size ?_)
 refine (mE H _ h1).mono ?_;rintro r w2 ⟨rfl,hm⟩;rw[Db.2 hA.out];have h2:=h1.below hm;have bx2:=bx1.ext hm;have rx2:=rx1.ext hm;have hk:=ae hz hm;clear h1 bx1 rx1 hz hm hP
 go_wp2_with (refine ax _ _ rfl w.heap.size 0 rfl rfl _ bx2.rd _ underlying41 rfl machine_size ?_)
 refine (vB H _ h2 hF.out).mono ?_;rintro r w3 ⟨H3,rfl,hH,t,_,hy⟩;have hI:=Lib.hid t;have hE:Hid (QE H3.ma):=Lib.hid (by rw[t];exact hF.out);have rx3:=rx2.ext hy;have hi:=ae hk hy;clear bx2 rx2 h2 t;unfold dh;go_upto_region 5 with (fail);refine gB (fun W=>Code.wp _ _ _ _ W) fun w4 hs kx4 hO => ?_;have k4:kT w4 w.heap.size w3.heap.size H3 0:=⟨kx4,hi.size,(hH.mono hk.size).below hs,fun q hq=>(QE.spz (H:=H3) hE.out hq).2⟩;have rx4:=rx3.ext hs;have c:=ae hi hs;clear hy hs hH hk kx4 hO rx3 hi;generalize w3.heap.size=b at k4;have hc:=k4.blk.cell;unfold sV at hc;go_upto_region 6 with (fail);clear hc;obtain⟨N,hN⟩:∃N,Hid (N=H3.m.fs.length):=⟨_,Lib.hid rfl⟩;have h5:N≤1000:=by rw[hN.out];exact hE.out.fs
 rw[←hN.out];have hB:Hid (N=H.ma.m.fs.length):=Lib.hid (by rw[hN.out,←hI.out];rfl)
 go_loopw [26] (fun i wr => ∃(f:Nat) (H' : MH),f≤N∧i = .int .i64 f∧kT wr w.heap.size b H' 0∧Below w.heap.size w wr∧aB wr (w.heap.size+1) (dh noH) 41∧Hid (H'.ma=H.ma)∧Hid (∀j,j<f→BV H.ma j=false)) (fun i _=>N-(intOf i).toNat)
 case atStart=>exact⟨0,H3,by omega,rfl,k4,c,rx4,hI,Lib.hid (fun j hj=>by omega)⟩
 case round=>
  clear k4 c rx4;obtain⟨f,H4,hf,rfl,k4,c,rx4,x,o⟩:=hrel;have hc:=k4.blk.cell;unfold sV at hc
  by_cases hfN:f<N
  ·have hQ:(f:Int)<(N:Int):=by omega
   have hx:f<H4.m.fs.length:=by have e:H4.m.fs.length=H.ma.m.fs.length:=congrArg (fun m:Ma=>m.m.fs.length) x.out;rw[e,←hB.out];exact hfN
   obtain⟨g,off,hL,ht⟩:=jX fJ (by decide) k4.ma.rd.fr.rd f hx;obtain⟨X,hX⟩:∃X,H4.m.fs[f]=X:=⟨_,rfl⟩;rw[hX] at ht;rw[hL] at hc;clear hL;have hM:Hid (aN H.ma f=X):=Lib.hid (by rw[←x.out];have:=xw (m:=H4.ma) (i:=f) hx;exact this.trans hX);clear hX
   go_wp2_with (first | (refine ax _ _ rfl g (off+f*13) rfl rfl _ ht _ underlying81 rfl frame_size ?_) | (refine aI rfl _ _ _ rfl (vW X) rfl rfl rfl frame_size (qw X) ?_))
   intro w5 hr xx5;have k5:=k4.below hr;have rx5:=rx4.ext hr;have hh:=ae c hr;have h4:Hid (w.heap.size+1<w5.heap.size):=Lib.hid rx5.lt;clear k4 rx4 c hr hc ht;generalize wr.heap.size=gx at xx5;have hG:=xx5.cell;unfold vW at hG;cases hd:X.d with
   | false=>
    have z:Hid (BV H.ma f=false):=Lib.hid (by unfold BV;rw[hM.out,hd];rfl);go_wp2;go_roundw
    case rel=>exact⟨f+1,H4,by omega,by go_num,k5,hh,rx5,x,Lib.hid (fun j hj=>by
     rcases Nat.lt_succ_iff_lt_or_eq.1 hj with h|rfl
     ·exact o.out j h
     ·exact z.out)⟩
    case measure=>simp[intOf];omega
   | true=>
    have hS:Hid ((aN H.ma f).d=true):=Lib.hid (by rw[hM.out,hd])
    go_wp2_with fail
    refine (ym H4 0 f _ b _ k5 hx).mono ?_;rintro r w6 ⟨rfl,H6,e6,k6,s6,q6⟩;rw[x.out] at q6 ⊢;have rx6:=s6.blk k5 rx5 machT;have hg:=wC hh (s6.to k5 (ay _));clear s6 k5 rx5 hh xx5 hG hd;have hK:f<H.ma.m.fs.length:=by rw[←hB.out];exact hfN
    cases hcb:iA H.ma f with
    | false=>
     have z:Hid (BV H.ma f=false):=Lib.hid (by unfold BV;rw[hcb,mi]);rw[Sz (k:=⟨H.ma,0⟩) hA.out hK hcb] at q6;obtain⟨n,rfl⟩:=Kp.mk.inj q6;have n:=Lib.hid n;clear q6 hcb;go_wp2;go_roundw
     case rel=>exact⟨f+1,H6,by omega,by go_num,k6,hg,rx6,n,Lib.hid (fun j hj=>by
      rcases Nat.lt_succ_iff_lt_or_eq.1 hj with h|rfl
      ·exact o.out j h
      ·exact z.out)⟩
     case measure=>simp[intOf];omega
    | true=>
     have p:Hid (rf H.ma=some f):=Lib.hid (Oy hK (by unfold BV;rw[hS.out,hcb];rfl) o.out);obtain⟨m1,hJ,_,_⟩:=Nq hA.out hT.out p.out;have n:Hid (H6.ma=Av H.ma):=Lib.hid (by unfold Av;rw[p.out];exact congrArg Kp.m q6);rw[hJ] at q6;obtain⟨_,rfl⟩:=Kp.mk.inj q6;clear q6 hJ hcb;skip;go_upto_region 10 with (fail);have hD:Hid (w.heap.size≤w.heap.size+1):=Lib.hid (xA _);refine nA 11 [_,_,_,.v (.agg #[.slice H6.af H6.m.fs.length H6.cf,.int .i64 H6.m.hand,.slice H6.asl H6.sl.length H6.csl,.slice H6.wb H6.sw.blocks.length H6.cwb,.slice H6.wq H6.sw.queue.length H6.cwq,.slice H6.db H6.dk.blocks.length H6.cdb,.slice H6.dq H6.dk.queue.length H6.cdq,.slice H6.ai H6.fi.length H6.ci,.int .i64 H6.ct,.slice H6.ac H6.ca.length H6.cc,.slice H6.ap H6.sp.length H6.cp]),_,_,_,.v (.int .i64 0),.r 8 ((bW fun _=>True)),.v (.bool true),.v (.int .i64 0)] (EY w w.heap.size b (w.heap.size+1) H6) dQ (fun y=>⟨⟨hg,hg.size⟩,k6.blk,k6.ma,fun _=>rx6,fun e=>(by cases e)⟩) (Qk dQ rfl (Qk dQ rfl (Qf dQ b 0 rfl rfl (ag ?_ (Qk dQ rfl (Qk dQ rfl (Qf dQ b 11 rfl rfl (ag ?_ (ag ?_ (Qk dQ rfl (Qk dQ rfl (aC) (fun _ _ _ _ a h=>eT (by decide) h)) (fun _ _ _ _ a h=>eT (by decide) h)))) (fun _ _ _ _ a h=>eT (by decide) h)) (fun _ _ _ _ a h=>eT (by decide) h)) (fun _ _ _ _ a h=>eT (by decide) h))) (fun _ _ _ _ a h=>eT (by decide) h)) (fun _ _ _ _ a h=>eT (by decide) h)) (fun _ _ _ _ a h=>eT (by decide) h)) (fun _=>rfl) rfl ?_
     ·intro ρ y W L hw hn l a hb hd;refine eD dQ (fun _ _ h=>eT (by decide) h) hb ?_;have h0:=hw 47 2 rfl;have h2:y 2=_:=hd 2 rfl;refine aj (.agg #[.slice H6.af H6.m.fs.length H6.cf,.int .i64 H6.m.hand,.slice H6.asl H6.sl.length H6.csl,.slice H6.wb H6.sw.blocks.length H6.cwb,.slice H6.wq H6.sw.queue.length H6.cwq,.slice H6.db H6.dk.blocks.length H6.cdb,.slice H6.dq H6.dk.queue.length H6.cdq,.slice H6.ai H6.fi.length H6.ci,.int .i64 H6.ct,.slice H6.ac H6.ca.length H6.cc,.slice H6.ap H6.sp.length H6.cp]) (ah rfl) (bC rfl (h0.trans h2) (bJ hb.2.1 0 11) underlying41 rfl (by kernel_rfl)) rfl
     ·intro ρ y W L hw hn l a hb hd;refine eD dQ (fun _ _ h=>eT (by decide) h) hb ?_;have hY:=hw 51 6 rfl;have h6:y 6=_:=hd 6 rfl;refine aj (.int .i64 0) (ah rfl) (by simp[execOp,go_sem,bX,hY,h6,hb.2.1.cell,sV]) rfl
     ·intro ρ y W L hw hn l a hb hd;have E2:ρ (.tmp 2) = .pointer (some ⟨w.heap.size+1,0,none⟩):=(hn (.tmp 2) rfl).trans rfl;have hZ:=hw 48 3 rfl;have h3:y 3=_:=hd 3 rfl;have rxW:=hb.2.2.2.1 l;exact nC (ah rfl) (sD _ _ _ rfl (w.heap.size+1) 0 _ (dh H6).toList E2 (hZ.trans h3) rfl _ _ rxW (ay _) mach_size (fun u hu=>by have:=fw H6;rw[←jV,dK] at this;exact this u hu)) (Mv hD.out l hb (rxW.setCells _ _) (aG _ _ _ _)) trivial
     intro y W7 hl hp;clear hp;simp only[bU,bX,bP,bT];obtain⟨⟨ha,_⟩,_,hv,_,s⟩:=hl;have rx8:=s rfl;go_wp2;refine bodyPost_ret (v:=.tuple #[.agg (dh H6),.bool true,.int .i64 0]) (iw results22 _ _ (w.heap.size+1) _ _ _ _ _ rfl rfl rfl rx8 underlying41 rfl mach_size) rfl ?_;exact⟨ha,H6,by rw[p.out];rfl,hv,n.out⟩
  have hQ:¬(f:Int)<(N:Int):=by omega
  have p:Hid (rf H.ma=none):=Lib.hid (GD (fun j hj=>o.out j (by have:=hB.out;omega)));have n:Hid (H4.ma=Av H.ma):=Lib.hid (by unfold Av;rw[p.out];exact x.out);clear hc;skip;go_upto_region 12 with (fail);have hD:Hid (w.heap.size≤w.heap.size+1):=Lib.hid (xA _);refine nA 11 [_,_,_,.v (.agg #[.slice H4.af H4.m.fs.length H4.cf,.int .i64 H4.m.hand,.slice H4.asl H4.sl.length H4.csl,.slice H4.wb H4.sw.blocks.length H4.cwb,.slice H4.wq H4.sw.queue.length H4.cwq,.slice H4.db H4.dk.blocks.length H4.cdb,.slice H4.dq H4.dk.queue.length H4.cdq,.slice H4.ai H4.fi.length H4.ci,.int .i64 H4.ct,.slice H4.ac H4.ca.length H4.cc,.slice H4.ap H4.sp.length H4.cp]),_,_,_,.v (.int .i64 0),.r 8 ((bW fun _=>True)),.v (.bool false),.v (.int .i64 0)] (EY w w.heap.size b (w.heap.size+1) H4) dQ (fun y=>⟨⟨c,c.size⟩,k4.blk,k4.ma,fun _=>rx4,fun e=>(by cases e)⟩) (Qk dQ rfl (Qk dQ rfl (Qf dQ b 0 rfl rfl (ag ?_ (Qk dQ rfl (Qk dQ rfl (Qf dQ b 11 rfl rfl (ag ?_ (ag ?_ (Qk dQ rfl (Qk dQ rfl (aC) (fun _ _ _ _ a h=>eT (by decide) h)) (fun _ _ _ _ a h=>eT (by decide) h)))) (fun _ _ _ _ a h=>eT (by decide) h)) (fun _ _ _ _ a h=>eT (by decide) h)) (fun _ _ _ _ a h=>eT (by decide) h))) (fun _ _ _ _ a h=>eT (by decide) h)) (fun _ _ _ _ a h=>eT (by decide) h)) (fun _ _ _ _ a h=>eT (by decide) h)) (fun _=>rfl) rfl ?_
  ·intro ρ y W L hw hn l a hb hd;refine eD dQ (fun _ _ h=>eT (by decide) h) hb ?_;have hW:=hw 56 2 rfl;have h2:y 2=_:=hd 2 rfl;refine aj (.agg #[.slice H4.af H4.m.fs.length H4.cf,.int .i64 H4.m.hand,.slice H4.asl H4.sl.length H4.csl,.slice H4.wb H4.sw.blocks.length H4.cwb,.slice H4.wq H4.sw.queue.length H4.cwq,.slice H4.db H4.dk.blocks.length H4.cdb,.slice H4.dq H4.dk.queue.length H4.cdq,.slice H4.ai H4.fi.length H4.ci,.int .i64 H4.ct,.slice H4.ac H4.ca.length H4.cc,.slice H4.ap H4.sp.length H4.cp]) (ah rfl) (bC rfl (hW.trans h2) (bJ hb.2.1 0 11) underlying41 rfl (by kernel_rfl)) rfl
  ·intro ρ y W L hw hn l a hb hd;refine eD dQ (fun _ _ h=>eT (by decide) h) hb ?_;have hU:=hw 60 6 rfl;have h6:y 6=_:=hd 6 rfl;refine aj (.int .i64 0) (ah rfl) (by simp[execOp,go_sem,bX,hU,h6,hb.2.1.cell,sV]) rfl
  ·intro ρ y W L hw hn l a hb hd;have E2:ρ (.tmp 2) = .pointer (some ⟨w.heap.size+1,0,none⟩):=(hn (.tmp 2) rfl).trans rfl;have hV:=hw 57 3 rfl;have h3:y 3=_:=hd 3 rfl;have rxW:=hb.2.2.2.1 l;exact nC (ah rfl) (sD _ _ _ rfl (w.heap.size+1) 0 _ (dh H4).toList E2 (hV.trans h3) rfl _ _ rxW (ay _) mach_size (fun u hu=>by have:=fw H4;rw[←jV,dK] at this;exact this u hu)) (Mv hD.out l hb (rxW.setCells _ _) (aG _ _ _ _)) trivial
  intro y W7 hl hp;clear hp;simp only[bU,bX,bP,bT];obtain⟨⟨ha,_⟩,_,hv,_,s⟩:=hl;have rx8:=s rfl;go_wp2;refine bodyPost_ret (v:=.tuple #[.agg (dh H4),.bool false,.int .i64 0]) (iw results22 _ _ (w.heap.size+1) _ _ _ _ _ rfl rfl rfl rx8 underlying41 rfl mach_size) rfl ?_;exact⟨ha,H4,by rw[p.out];rfl,hv,n.out⟩
theorem MM (h:i≠j):cO L i j=L j:=by unfold cO;rw[if_neg (fun e=>h e.symm)]
theorem Vn (h:i≠j):dG y i v j=y j:=by unfold dG;rw[if_neg (fun e=>h e.symm)]
def gF (m:Ma) (bits:Int):Ma:={ kV m.m.fs.length m.sl.length m.st.count with dk:=jo (ko bits) m.dk,st:=m.st }
def TD (w:World) (B b gd gk:Nat) (H N:MH) (vb vq:Value) (D:pR):(Nat→Bool)→(Nat→Value)→World→Prop:=fun L y W=>
 (Below B w W∧B≤W.heap.size)∧(aB W b (dh H) 41∧aB W (b+1) (dh noH) 41∧aB W gd #[vb,vq] 34)∧il W B vb vq D ∧
 (L 3=true→∃av cv ps,y 3 = .agg #[.slice av ps.length cv,.int .i64 H.ct]∧nW W B (.slice av ps.length cv) ps∧ps.map PF.fi=H.fi.map PF.fi) ∧
 ∃S:MH,aB W gk (dh S) 41∧tu W B S∧S.m=N.m∧S.sl=N.sl∧S.sw=N.sw∧S.ca=N.ca∧S.sp=N.sp∧(L 5=true→S.dk=D)∧(L 7=true→S.ct=H.ct∧S.fi.map PF.fi=H.fi.map PF.fi)
theorem yf :∀L y W W',Below W.heap.size W W'→TD w B b gd gk H N vb vq D L y W→TD w B b gd gk H N vb vq D L y W':=
 fun _ _ _ _ hb ⟨h1,h2,h3,h4,S,h5,h6,h7⟩=>⟨⟨h1.1.trans (hb.mono h1.2),bi h1.2 hb.size⟩,⟨h2.1.ext hb,h2.2.1.ext hb,h2.2.2.ext hb⟩,h3.below hb,fun e=>by obtain⟨av,cv,ps,k1,k2,k3⟩:=h4 e;exact⟨av,cv,ps,k1,k2.below hb,k3⟩,S,h5.ext hb,h6.below hb,h7⟩
theorem DI (hi:i≠3∧i≠5∧i≠7) (h:TD w B b gd gk H N vb vq D L y W):TD w B b gd gk H N vb vq D (cO L i) (dG y i v) W:=by
 unfold TD at h ⊢;rw[MM hi.1,MM hi.2.1,MM hi.2.2,Vn hi.1];exact h
theorem Wl (hb:Below W.heap.size W W') (h:TD w B b gd gk H N vb vq D L y W) (ho:nW W' B (.slice av ps.length cv) ps) (hp:ps.map PF.fi=H.fi.map PF.fi) :
  TD w B b gd gk H N vb vq D (cO L 3) (dG y 3 (.agg #[.slice av ps.length cv,.int .i64 H.ct])) W':=by
 obtain⟨h1,h2,h3,h4,h5⟩:=yf _ _ _ _ hb h;exact⟨h1,h2,h3,fun _=>⟨av,cv,ps,rfl,ho,hp⟩,h5⟩
theorem nW.keepT (h:nW w B v ps) (hk:aB w g cs T) (h1:T≠67) (h2:T≠3) (hg:w.grownBy w' (some g)):nW w' B v ps:=
 ⟨ak h.own hk h1 hg,fun i p hp=>ak (h.each i p hp) hk h2 hg,h.apart⟩
theorem Wm (hgk:B≤gk∧gk≠b∧gk≠b+1) {S:MH}
 (h1:(Below B w W∧B≤W.heap.size)∧(aB W b (dh H) 41∧aB W (b+1) (dh noH) 41∧aB W gd #[.slice ab D.blocks.length cb,.slice aq D.queue.length cq] 34)∧il W B (.slice ab D.blocks.length cb) (.slice aq D.queue.length cq) D ∧
 (L 3=true→∃av cv ps,y 3 = .agg #[.slice av ps.length cv,.int .i64 H.ct]∧nW W B (.slice av ps.length cv) ps∧ps.map PF.fi=H.fi.map PF.fi))
 (hS:aB W gk (dh S) 41∧tu W B S∧S.m=N.m∧S.sl=N.sl∧S.sw=N.sw∧S.ca=N.ca∧S.sp=N.sp∧(L 5=true→S.dk=D)∧(L 7=true→S.ct=H.ct∧S.fi.map PF.fi=H.fi.map PF.fi))
 (hk:aB W' gk (bB (dh S) 5 [.slice ab D.blocks.length cb,.slice aq D.queue.length cq]) 41) (hg:W.grownBy W' (some gk)) :
  TD w B b gd gk H N (.slice ab D.blocks.length cb) (.slice aq D.queue.length cq) D (cO L 5) (dG y 5 undef) W':=by
 obtain⟨⟨k1,k2⟩,⟨k3,k4,k5⟩,k6,k7⟩:=h1;obtain⟨s1,s2,s3,s4,s5,s6,s7,s8,s9⟩:=hS;have hd:il W' B (.slice ab D.blocks.length cb) (.slice aq D.queue.length cq) D:=k6.keep s1 (by decide) (by decide) hg;refine⟨⟨k1.grown hg k2 (fun k hk=>by cases hk;exact hgk.1),bi k2 hg.size⟩,⟨k3.grown hg (fun e=>hgk.2.1 (aJ e)),k4.grown hg (fun e=>hgk.2.2 (aJ e)),bq k5 s1 (by decide) hg⟩,hd,fun e => ?_,{ S with db:=ab,cdb:=cb,dq:=aq,cdq:=cq,dk:=D },hk,{ s2.keep s1 (by decide) hg with dk:=hd },s3,s4,s5,s6,s7,fun _=>rfl,fun e=>s9 e⟩;obtain⟨av,cv,ps,e1,e2,e3⟩:=k7 e;exact⟨av,cv,ps,e1,e2.keepT s1 (by decide) (by decide) hg,e3⟩
theorem VY (hgk:B≤gk∧gk≠b∧gk≠b+1) {S:MH} 
 (h1:(Below B w W∧B≤W.heap.size)∧(aB W b (dh H) 41∧aB W (b+1) (dh noH) 41∧aB W gd #[vb,vq] 34)∧il W B vb vq D)
 (hy:y 3 = .agg #[.slice av ps.length cv,.int .i64 H.ct]∧nW W B (.slice av ps.length cv) ps∧ps.map PF.fi=H.fi.map PF.fi) (h64 : -9223372036854775808≤H.ct∧H.ct≤9223372036854775807)
 (hS:aB W gk (dh S) 41∧tu W B S∧S.m=N.m∧S.sl=N.sl∧S.sw=N.sw∧S.ca=N.ca∧S.sp=N.sp∧(L 5=true→S.dk=D)∧(L 7=true→S.ct=H.ct∧S.fi.map PF.fi=H.fi.map PF.fi))
 (hk:aB W' gk (bB (dh S) 7 [.slice av ps.length cv,.int .i64 H.ct]) 41) (hg:W.grownBy W' (some gk)) :
  TD w B b gd gk H N vb vq D (cO L 7) (dG y 7 undef) W':=by
 obtain⟨⟨k1,k2⟩,⟨k3,k4,k5⟩,k6⟩:=h1;obtain⟨e1,e2,e3⟩:=hy;obtain⟨s1,s2,s3,s4,s5,s6,s7,s8,s9⟩:=hS;have hf:nW W' B (.slice av ps.length cv) ps:=e2.keepT s1 (by decide) (by decide) hg;exact⟨⟨k1.grown hg k2 (fun k hk=>by cases hk;exact hgk.1),bi k2 hg.size⟩,⟨k3.grown hg (fun e=>hgk.2.1 (aJ e)),k4.grown hg (fun e=>hgk.2.2 (aJ e)),bq k5 s1 (by decide) hg⟩,k6.keep s1 (by decide) (by decide) hg,fun _=>⟨av,cv,ps,e1,hf,e3⟩,{ S with ai:=av,ci:=cv,fi:=ps,ct:=H.ct },hk,{ s2.keep s1 (by decide) hg with st:=hf,c64:=h64 },s3,s4,s5,s6,s7,fun e=>s8 e,fun _=>⟨rfl,e3⟩⟩
def Xb (H:MH) (bits:Int) (w:World) (r:Ending) (w' : World):Prop:=Below w.heap.size w w'∧∃H' : MH,r = .returned (.tuple #[.agg (dh H'),.int .i64 0])∧tu w' w.heap.size H'∧H'.ma=gF H.ma bits
theorem Ie (h:Rt m):(((0:Int)≤m.m.fs.length∧(m.m.fs.length:Int)≤40)∧((0:Int)≤m.sl.length∧(m.sl.length:Int)≤60)∧0≤m.st.count∧m.st.count≤80):=by
 have h1:=((eH _).1 h.pt.fr).1;have h2:=ja h.pt.sl;have h3:=(jY h.pt.st).2;omega
theorem Es (H:MH) (bits:Int) (w:World) (h:BR w H) (hR:Rt H.ma) (hC:Co H.ma) :
  Calls Tryz.prog 26 #[.agg (dh H),.int .i64 bits] w (Xb H bits w):=by
 have hc:=Lib.hid h.st;have p:=Lib.hid hR;have hQ:=Lib.hid hC;have hP:=Lib.hid (qd hR);clear hR hC;go_enter func26,ntmps26;go_upto_region 1 with (fail);refine rE (fun W=>Code.wp _ _ _ _ W) fun w1 z bx1 rx1 hF => ?_;have bx1:aB w1 w.heap.size (dh H) 41:=bx1;have rx1:aB w1 (w.heap.size+1) (dh noH) 41:=rx1;have h1:=h.below z;clear h
 go_wp2_with (refine ax _ _ rfl w.heap.size 0 rfl rfl _ bx1.rd _ underlying41 rfl machine_size ?_)
 refine (mE H _ h1).mono ?_;rintro r w2 ⟨rfl,o⟩;rw[Db.2 p.out];have h2:=h1.below o;have bx2:=bx1.ext o;have rx2:=rx1.ext o;have l:=ae z o;clear h1 bx1 rx1 z o hF;have hE:Ay H.m.fs.length H.sl.length H.ct=0:=if_pos (Ie p.out);have ha:aY H.dk=0:=p.out.pt.dk;have hj:=bx2.cell;unfold dh at hj
 go_wp2_with fail
 refine (KZ H.m.fs.length H.sl.length H.ct _ h2.c64).mono ?_;rintro r w3 ⟨N,rfl,hf,hh,n⟩;rw[hE];have hg:=Lib.hid hh;have h3:=h2.below n;have bx3:=bx2.ext n;have rx3:=rx2.ext n;have j:=ae l n;have hs:=hf.mono l.size;clear h2 bx2 rx2 hj l n hh hf hE
 go_wp2_with (refine aI rfl _ _ _ rfl (dh N) rfl rfl rfl machine_size (fw _) ?_)
 intro w4 d nx4;have h4:=h3.below d;have bx4:=bx3.ext d;have rx4:=rx3.ext d;have i:=ae j d;have hx:=hs.below d;have x:Hid (w.heap.size≤w3.heap.size∧w3.heap.size≠w.heap.size∧w3.heap.size≠w.heap.size+1):=Lib.hid ⟨j.size,by have:=rx3.lt;omega,by have:=rx3.lt;omega⟩;clear h3 bx3 rx3 j d hs;generalize w3.heap.size=gk at nx4 x
 go_wp2_with (refine ax _ _ rfl w.heap.size 5 rfl rfl _ (bJ bx4 5 2) _ underlying34 rfl disk_size ?_)
 refine (LJ H.dk H.db H.cdb H.dq H.cdq bits _ h4.dk).mono ?_;rintro r w5 ⟨vb,vq,rfl,hD,c⟩;rw[ha];have h5:=h4.below c;have bx5:=bx4.ext c;have rx5:=rx4.ext c;have nx5:=nx4.ext c;have t:=ae i c;have hv:=hx.below c;have s:=hD.mono i.size;clear h4 bx4 rx4 nx4 i c hx hD ha;obtain⟨D,hy⟩:∃D,Hid (D=jo (ko bits) H.dk):=⟨_,Lib.hid rfl⟩;rw[←hy.out] at s;obtain⟨ab,cb,aq,cq,rfl,rfl,_⟩:=s.rd
 go_wp2_with (refine aI rfl _ _ _ rfl #[.slice ab D.blocks.length cb,.slice aq D.queue.length cq] rfl rfl rfl disk_size (by simp[Value.oneCell']) ?_)
 intro w6 a dx6;have h6:=h5.below a;have bx6:=bx5.ext a;have rx6:=rx5.ext a;have nx6:=nx5.ext a;have g:=ae t a;have ht:=hv.below a;have hz:=s.below a;clear h5 bx5 rx5 nx5 t a hv s;generalize w5.heap.size=gd at dx6;have hA:Hid (Uy H.fi):=Lib.hid (Gp (ps:=H.fi) (k:=H.ct) p.out.pt.st);have hI:=Lib.hid h6.c64;go_upto_region 10 with (fail);refine nA 8 [.v (.agg #[.slice ab D.blocks.length cb,.slice aq D.queue.length cq]),_,.v (.agg #[.slice H.ai H.fi.length H.ci,.int .i64 H.ct]),.r 3 ((bW fun _=>True)),_,.r 5 ((bW fun _=>True)),_,.r 7 ((bW fun _=>True))] (TD w w.heap.size w.heap.size gd gk H N (.slice ab D.blocks.length cb) (.slice aq D.queue.length cq) D) yf (fun y=>⟨⟨g,g.size⟩,⟨bx6,rx6,dx6⟩,hz,fun e=>(by cases e),N,nx6,ht,rfl,rfl,rfl,rfl,rfl,fun e=>(by cases e),fun e=>(by cases e)⟩) (ag ?_ (Qf yf w.heap.size 7 rfl rfl (ag ?_ (ag ?_ (Qf yf gk 5 rfl rfl (ag ?_ (Qf yf gk 7 rfl rfl (ag ?_ (aC)) (fun _ _ _ _ b h=>DI (by decide) h))) (fun _ _ _ _ b h=>DI (by decide) h)))) (fun _ _ _ _ b h=>DI (by decide) h))) (fun _=>rfl) rfl ?_
 ·intro ρ y W L hw hn q b hb hd;refine eD yf (fun _ _ h=>DI (by decide) h) hb ?_;have E9:ρ (.tmp 9) = .pointer (some ⟨gd,0,none⟩):=(hn (.tmp 9) rfl).trans rfl;have dxW:=hb.2.1.2.2;refine aj (.agg #[.slice ab D.blocks.length cb,.slice aq D.queue.length cq]) (ah rfl) (dL rfl E9 dxW underlying34 rfl disk_size) rfl
 ·intro ρ y W L hw hn q b hb hd;refine eD yf (fun _ _ h=>DI (by decide) h) hb ?_;have hN:=hw 47 1 rfl;have h1:y 1=_:=hd 1 rfl;have bxW:=hb.2.1.1;refine aj (.agg #[.slice H.ai H.fi.length H.ci,.int .i64 H.ct]) (ah rfl) (bC rfl (hN.trans h1) (bJ bxW 7 2) underlying37 rfl store_size) rfl
 ·intro ρ y W L hw hn q b hb hd;have hM:=hw 48 2 rfl;have h2:y 2=_:=hd 2 rfl;have EF:∀f,ρ (.func f) = .func (.func f) #[] #[]:=fun f=>hn (.func f) trivial;refine gU _ _ (ah rfl) (aU rfl (EF _) func61 (by kernel_rfl) (by kernel_rfl) (by simp only[bV,bP,bT,hM,h2,EF];rfl)) ?_;have hB:Mw W H.ai H.ci H.fi:=hc.out.below hb.1.1;refine (EL H.fi H.ct H.ai H.ci W hB hA.out).mono ?_;rintro r w9 ⟨v,ps,rfl,ho,hp,hH⟩;obtain⟨av,cv,rfl,_⟩:=ho.own.rd;exact⟨_,rfl,Wl hH hb (ho.mono hb.1.2) hp,trivial⟩
 ·intro ρ y W L hw hn q b hb hd;have hK:=hw 50 4 rfl;have h4:y 4=_:=hd 4 rfl;have hO:=hw 46 0 rfl;have h0:y 0=_:=hd 0 rfl;obtain⟨j1,j2,j3,j4,S,jS⟩:=hb;exact nC (ah rfl) (sD _ _ _ rfl gk 5 _ [.slice ab D.blocks.length cb,.slice aq D.queue.length cq] (hK.trans h4) (hO.trans h0) rfl _ _ jS.1 (by show 5+2≤11;decide) disk_size (fun u hu=>by simp at hu;rcases hu with rfl | rfl<;>rfl)) (Wm x.out ⟨j1,j2,j3,j4⟩ jS (jS.1.setCells _ _) (aG _ _ _ _)) trivial
 ·intro ρ y W L hw hn q b hb hd;have hJ:=hw 51 6 rfl;have h6:y 6=_:=hd 6 rfl;have hL:=hw 49 3 rfl;have h3:=hd 3 rfl;obtain⟨j1,j2,j3,j4,S,jS⟩:=hb;obtain⟨av,cv,ps,k1,k2,k3⟩:=j4 (b 3 rfl);exact nC (ah rfl) (sD _ _ _ rfl gk 7 _ [.slice av ps.length cv,.int .i64 H.ct] (hJ.trans h6) (hL.trans k1) rfl _ _ jS.1 (by show 7+2≤11;decide) store_size (fun u hu=>by simp at hu;rcases hu with rfl | rfl<;>rfl)) (VY x.out ⟨j1,j2,j3⟩ ⟨k1,k2,k3⟩ hI.out jS (jS.1.setCells _ _) (aG _ _ _ _)) trivial
 intro y W7 hq hr;clear hr;simp only[bU,bX,bP,bT];obtain⟨⟨j1,_⟩,⟨_,rx7,_⟩,_,_,S,nx7,hS,s1,s2,s3,s4,s5,s6,s7⟩:=hq;have hm:Hid (S.ma=gF H.ma bits):=Lib.hid (by have e1:=s6 rfl;obtain⟨e2,e3⟩:=s7 rfl;unfold gF;show (⟨S.m,S.sl,S.sw,S.dk,⟨S.fi.map PF.fi,S.ct⟩,S.ca,S.sp.map PS.sp⟩:Ma)=_;rw[s1,s2,s3,e1,e2,e3,s4,s5,hy.out];have:=hg.out;rw[show kV H.ma.m.fs.length H.ma.sl.length H.ma.st.count=N.ma from this.symm];rfl);clear s1 s2 s3 s4 s5 s6 s7 g bx6 rx6 nx6 dx6 ht hz h6
 go_wp2_with (first | (refine ax _ _ rfl gk 0 rfl rfl _ nx7.rd _ underlying41 rfl machine_size ?_) | (refine az rfl _ _ _ rfl (w.heap.size+1) (dh S) rfl rfl _ _ rx7 rfl mach_size (fw _) ?_))
 intro w8 rx8 hi;have hl:=j1.grown hi (by have:=j1.size;exact this) (fun k hk=>by cases hk;omega);have hG:=hS.keep rx7 (by decide) hi;go_wp2;refine bodyPost_ret (v:=.tuple #[.agg (dh S),.int .i64 0]) (eZ results26 _ _ (w.heap.size+1) _ _ _ _ rfl rfl rx8 underlying41 rfl mach_size) rfl ?_;exact⟨hl,S,rfl,hG,hm.out⟩
def lm (file:Int) (m:Ma) (f:Nat):Option Ma:=if (aN m f).f=file then (if iA m f=true then some (iG ⟨m,0⟩ f).m else none) else some m
def mG (file:Int) (m:Ma):Nat→Option Ma
 | 0=>some m
 | f+1=>(mG file m f).bind fun m1=>lm file m1 f
def oM (m:Ma):Ma:={ m with dk:=jo (fun _=>true) m.dk }
def vO (file:Int) (m:Ma):Option Ma:=(mG file m m.m.fs.length).map oM
structure uJ (m m' : Ma):Prop where
 rt:Rt m'
 co:Co m'
 vis:LB m m'
 len:m'.m.fs.length=m.m.fs.length
 sl:m'.sl=m.sl
theorem Be {file:Int} (h:Rt m) (hc:Co m) (h0:0≤file) (hf:f<m.m.fs.length) (e:lm file m f=some m'):uJ m m'∧((aN m f).f=file→iG ⟨m,0⟩ f=⟨m',0⟩∧Cleaned m m' f):=by
 unfold lm at e
 by_cases e1:(aN m f).f=file
 ·rw[if_pos e1] at e
  by_cases e2:iA m f=true
  ·rw[if_pos e2] at e;obtain⟨m1,q,hC⟩:=Bf (k:=⟨m,0⟩) h hc hf (by show 0≤(aN m f).f;rw[e1];exact h0) e2;rw[q] at e;cases aJ e;exact⟨⟨hC.rt,hC.co,hC.vis,by rw[hC.fs];exact bH,hC.sl⟩,fun _=>⟨q,hC⟩⟩
  rw[if_neg e2] at e;cases e
 rw[if_neg e1] at e;cases aJ e;exact⟨⟨h,hc,.refl _,rfl,rfl⟩,fun q=>absurd q e1⟩
theorem wW {file:Int} {m:Ma} (h:Rt m) (hc:Co m) (h0:0≤file):∀(f:Nat) (m' : Ma),f≤m.m.fs.length→mG file m f=some m'→uJ m m'
 | 0,m',_,e=>by cases aJ e;exact⟨h,hc,.refl _,rfl,rfl⟩
 | f+1,m',hf,e=>by
  unfold mG at e;cases e1:mG file m f with
  | none=>rw[e1] at e;cases e
  | some m1=>
   rw[e1] at e;have s1:=wW h hc h0 f m1 (by omega) e1;obtain⟨s2,_⟩:=Be s1.rt s1.co h0 (by rw[s1.len];omega) e;exact⟨s2.rt,s2.co,s1.vis.trans s2.vis,s2.len.trans s1.len,s2.sl.trans s1.sl⟩
theorem NC {file:Int} {m:Ma} {f:Nat} (e:mG file m f=none):∀n,f≤n→mG file m n=none
 | 0,h=>by rw[←e,Nat.le_zero.1 h]
 | n+1,h=>by
  by_cases q:f=n+1
  ·rw[←q];exact e
  unfold mG;rw[NC e n (by omega)];rfl
def Xd (file:Int) (H:MH) (w:World) (r:Ending) (w' : World):Prop:=Below w.heap.size w w'∧(match vO file H.ma with
 | none=>r = .returned (.tuple #[.agg (dh noH),.int .i64 10])
 | some m' => ∃H' : MH,r = .returned (.tuple #[.agg (dh H'),.int .i64 0])∧tu w' w.heap.size H'∧H'.ma=m')
theorem PU (H:MH) (file:Int) (w:World) (h:BR w H) (hR:Rt H.ma) (hC:Co H.ma) (hf0:0≤file) (hf1:file<(H.fi.length:Int)) :
  Calls Tryz.prog 23 #[.agg (dh H),.int .i64 file] w (Xd file H w):=by
 have hU:=Lib.hid hR;have kd:=Lib.hid hC;have hE:=Lib.hid (qd hR);clear hR hC;go_enter func23,ntmps23;go_upto_region 1 with (fail);refine rE (fun W=>Code.wp _ _ _ _ W) fun w1 hA bx1 rx1 hZ => ?_;have bx1:aB w1 w.heap.size (dh H) 41:=bx1;have rx1:aB w1 (w.heap.size+1) (dh noH) 41:=rx1;have h1:=h.below hA;clear h
 go_wp2_with (refine ax _ _ rfl w.heap.size 0 rfl rfl _ bx1.rd _ underlying41 rfl machine_size ?_)
 refine (mE H _ h1).mono ?_;rintro r w2 ⟨rfl,z⟩;rw[Db.2 hU.out];have h2:=h1.below z;have bx2:=bx1.ext z;have rx2:=rx1.ext z;have t:=ae hA z;clear h1 bx1 rx1 hA z hZ;have h8:¬file<0:=by omega
 have h7:¬(H.fi.length:Int)≤file:=by omega
 have hp:=Lib.hid hf0;clear hf0 hf1;have hc:=bx2.cell;unfold dh at hc;go_upto_region 6 with (fail);clear hc h8 h7
 go_wp2_with (refine ax _ _ rfl w.heap.size 0 rfl rfl _ bx2.rd _ underlying41 rfl machine_size ?_)
 refine (vB H _ h2 hE.out).mono ?_;rintro r w3 ⟨H3,rfl,hI,n,_,hz⟩;have hJ:=Lib.hid n;have hB:Hid (QE H3.ma):=Lib.hid (by rw[n];exact hE.out);have rx3:=rx2.ext hz;have s:=ae t hz;clear bx2 rx2 h2 n;unfold dh;go_upto_region 7 with (fail);refine gB (fun W=>Code.wp _ _ _ _ W) fun w4 hi kx4 hY => ?_;have k4:kT w4 w.heap.size w3.heap.size H3 0:=⟨kx4,s.size,(hI.mono t.size).below hi,fun q hq=>(QE.spz (H:=H3) hB.out hq).2⟩;have rx4:=rx3.ext hi;have a:=ae s hi;clear hz hi hI t kx4 hY rx3 s;generalize w3.heap.size=b at k4;have hc:=k4.blk.cell;unfold sV at hc;go_upto_region 8 with (fail);clear hc;obtain⟨N,hN⟩:∃N,Hid (N=H3.m.fs.length):=⟨_,Lib.hid rfl⟩;have kl:N≤1000:=by rw[hN.out];exact hB.out.fs
 rw[←hN.out];have hj:Hid (N=H.ma.m.fs.length):=Lib.hid (by rw[hN.out,←hJ.out];rfl)
 go_loopw [39] (fun i wr => ∃(f:Nat) (H' : MH),f≤N∧i = .int .i64 f∧kT wr w.heap.size b H' 0∧Below w.heap.size w wr∧aB wr (w.heap.size+1) (dh noH) 41∧Hid (mG file H.ma f=some H'.ma)) (fun i _=>N-(intOf i).toNat)
 case atStart=>exact⟨0,H3,by omega,rfl,k4,a,rx4,Lib.hid (by rw[hJ.out];rfl)⟩
 case round=>
  clear k4 a rx4;obtain⟨f,H4,hf,rfl,k4,a,rx4,d⟩:=hrel;have ha:Hid (uJ H.ma H4.ma):=Lib.hid (wW hU.out kd.out hp.out f _ (by have:=hj.out;omega) d.out);have hc:=k4.blk.cell;unfold sV at hc
  by_cases hfN:f<N
  ·have kb:(f:Int)<(N:Int):=by omega
   have hM:Hid (H4.m.fs.length=N):=Lib.hid (by rw[hj.out];exact ha.out.len);have hy:f<H4.m.fs.length:=by rw[hM.out];exact hfN
   obtain⟨g,off,cur,hS,kf,hs,kj,h4,hQ,kk,hG⟩:=k4.frame hy;have q11:cur[off+f*13+11]?=some (.int .i64 (aN H4.ma f).f):=hQ 11 _ rfl;have kc:=hs.cell;rw[hS,hM.out] at hc;clear hG hQ h4 hS kf
   by_cases hx:(aN H4.ma f).f=file
   ·have ht:=Lib.hid hx;rw[hx] at q11;clear hx
    go_wp2_with fail
    refine (ym H4 0 f _ b _ k4 hy).mono ?_;rintro r w6 ⟨rfl,H6,e6,k6,s6,q6⟩;have rx6:=s6.blk k4 rx4 machT;have c:=wC a (s6.to k4 (ay _));clear s6 k4 rx4 a hs kc q11 hc;cases hcb:iA H4.ma f with
    | false=>
     have h5:Hid (vO file H.ma=none):=Lib.hid (by
      have e1:mG file H.ma (f+1)=none:=by unfold mG;rw[d.out];show lm file H4.ma f=none;unfold lm;rw[if_pos ht.out,hcb];rfl
      unfold vO;rw[NC e1 _ (by have:=hj.out;omega)];rfl)
     clear q6 hcb k6
     go_wp2_with (refine az rfl _ _ _ rfl (w.heap.size+1) (dh noH) rfl rfl _ _ rx6 rfl mach_size (fw noH) ?_)
     intro we h0 ka;have o:=c.grown ka c.size (fun k hk=>by cases hk;omega);go_wp2;refine bodyPost_ret (v:=.tuple #[.agg (dh noH),.int .i64 10]) (eZ results23 _ _ (w.heap.size+1) _ _ _ _ rfl rfl h0 underlying41 rfl mach_size) rfl ?_;exact⟨o,by rw[h5.out]⟩
    | true=>
     have hv:lm file H4.ma f=some (iG ⟨H4.ma,0⟩ f).m:=by unfold lm;rw[if_pos ht.out,hcb];rfl
     obtain⟨_,hk⟩:=Be ha.out.rt ha.out.co hp.out hy hv;rw[(hk ht.out).1] at q6;obtain⟨hL,rfl⟩:=Kp.mk.inj q6;have l:Hid (mG file H.ma (f+1)=some H6.ma):=Lib.hid (by unfold mG;rw[d.out,hL];exact hv);clear q6 hL hk hv hcb;go_wp2;go_roundw
     case rel=>exact⟨f+1,H6,by omega,by go_num,k6,c,rx6,l⟩
     case measure=>simp[intOf];omega
   have l:Hid (mG file H.ma (f+1)=some H4.ma):=Lib.hid (by unfold mG;rw[d.out];show lm file H4.ma f=_;unfold lm;rw[if_neg hx]);go_wp2;go_roundw
   case rel=>exact⟨f+1,H4,by omega,by go_num,k4,a,rx4,l⟩
   case measure=>simp[intOf];omega
  have kb:¬(f:Int)<(N:Int):=by omega
  have hX:Hid (vO file H.ma=some (oM H4.ma)):=Lib.hid (by unfold vO;rw[←hj.out,show N=f by omega,d.out];rfl);have hF:aY H4.dk=0:=ha.out.rt.pt.dk;clear hc d hf hfN
  go_wp2_with (refine ax _ _ rfl b 5 rfl rfl _ k4.rdD _ underlying34 rfl disk_size ?_)
  refine (MN H4.dk H4.db H4.cdb H4.dq H4.cdq _ k4.ma.rd.dk).mono ?_;rintro r w5 ⟨vb,vq,rfl,hD,hh⟩;rw[hF];have k5:=k4.below hh;have rx5:=rx4.ext hh;have p:=wC a (hh.mono a.size);have hm:=hD.mono a.size;clear k4 rx4 hh hD hF a;obtain⟨D,hV⟩:∃D,Hid (D=jo (fun _=>true) H4.dk):=⟨_,Lib.hid rfl⟩;rw[←hV.out] at hm;obtain⟨ab,cb,aq,cq,rfl,rfl,_⟩:=hm.rd
  go_wp2_with (refine aI rfl _ _ _ rfl #[.slice ab D.blocks.length cb,.slice aq D.queue.length cq] rfl rfl rfl disk_size (by simp[Value.oneCell']) ?_)
  intro w6 x dx6;have k6:=k5.below x;have rx6:=rx5.ext x;have c:=wC p (x.mono p.size);have hW:=hm.below x;clear k5 rx5 x hm p;generalize w5.heap.size=gd at dx6
  go_wp2_with (first | (refine ax _ _ rfl gd 0 rfl rfl _ dx6.rd _ underlying34 rfl disk_size ?_) | (refine aA rfl _ _ _ rfl b 5 _ [.slice ab D.blocks.length cb,.slice aq D.queue.length cq] rfl rfl rfl _ _ k6.blk (by show 5+2≤12;decide) disk_size (fun u hu=>by simp at hu;rcases hu with rfl | rfl<;>rfl) ?_))
  intro w7 hP hg;have k7:=k6.setD hW hP hg;have rx7:=bq rx6 k6.blk (by decide) hg;have hr:=c.grown hg c.size (fun k hk=>by cases hk;exact k6.ge);have hK:Hid (MH.ma { H4 with db:=ab,cdb:=cb,dq:=aq,cdq:=cq,dk:=D }=oM H4.ma):=Lib.hid (by unfold oM;show _ = { H4.ma with dk:=jo (fun _=>true) H4.dk };rw[←hV.out];rfl);clear k6 rx6 c hW hP hg dx6;generalize ({ H4 with db:=ab,cdb:=cb,dq:=aq,cdq:=cq,dk:=D }:MH)=H7 at k7 hK;skip;go_upto_region 17 with (fail);have ke:Hid (w.heap.size≤w.heap.size+1):=Lib.hid (xA _);refine nA 10 [_,_,_,.v (.agg #[.slice H7.af H7.m.fs.length H7.cf,.int .i64 H7.m.hand,.slice H7.asl H7.sl.length H7.csl,.slice H7.wb H7.sw.blocks.length H7.cwb,.slice H7.wq H7.sw.queue.length H7.cwq,.slice H7.db H7.dk.blocks.length H7.cdb,.slice H7.dq H7.dk.queue.length H7.cdq,.slice H7.ai H7.fi.length H7.ci,.int .i64 H7.ct,.slice H7.ac H7.ca.length H7.cc,.slice H7.ap H7.sp.length H7.cp]),_,_,_,.v (.int .i64 0),.r 8 ((bW fun _=>True)),.v (.int .i64 0)] (EY w w.heap.size b (w.heap.size+1) H7) dQ (fun y=>⟨⟨hr,hr.size⟩,k7.blk,k7.ma,fun _=>rx7,fun e=>(by cases e)⟩) (Qk dQ rfl (Qk dQ rfl (Qf dQ b 0 rfl rfl (ag ?_ (Qk dQ rfl (Qk dQ rfl (Qf dQ b 11 rfl rfl (ag ?_ (ag ?_ (Qk dQ rfl (aC) (fun _ _ _ _ j h=>eT (by decide) h)))) (fun _ _ _ _ j h=>eT (by decide) h)) (fun _ _ _ _ j h=>eT (by decide) h)) (fun _ _ _ _ j h=>eT (by decide) h))) (fun _ _ _ _ j h=>eT (by decide) h)) (fun _ _ _ _ j h=>eT (by decide) h)) (fun _ _ _ _ j h=>eT (by decide) h)) (fun _=>rfl) rfl ?_
  ·intro ρ y W L hw hn hl j hb hd;refine eD dQ (fun _ _ h=>eT (by decide) h) hb ?_;have ki:=hw 82 2 rfl;have h2:y 2=_:=hd 2 rfl;refine aj (.agg #[.slice H7.af H7.m.fs.length H7.cf,.int .i64 H7.m.hand,.slice H7.asl H7.sl.length H7.csl,.slice H7.wb H7.sw.blocks.length H7.cwb,.slice H7.wq H7.sw.queue.length H7.cwq,.slice H7.db H7.dk.blocks.length H7.cdb,.slice H7.dq H7.dk.queue.length H7.cdq,.slice H7.ai H7.fi.length H7.ci,.int .i64 H7.ct,.slice H7.ac H7.ca.length H7.cc,.slice H7.ap H7.sp.length H7.cp]) (ah rfl) (bC rfl (ki.trans h2) (bJ hb.2.1 0 11) underlying41 rfl (by kernel_rfl)) rfl
  ·intro ρ y W L hw hn hl j hb hd;refine eD dQ (fun _ _ h=>eT (by decide) h) hb ?_;have kg:=hw 86 6 rfl;have h6:y 6=_:=hd 6 rfl;refine aj (.int .i64 0) (ah rfl) (by simp[execOp,go_sem,bX,kg,h6,hb.2.1.cell,sV]) rfl
  ·intro ρ y W L hw hn hl j hb hd;have E4:ρ (.tmp 4) = .pointer (some ⟨w.heap.size+1,0,none⟩):=(hn (.tmp 4) rfl).trans rfl;have kh:=hw 83 3 rfl;have h3:y 3=_:=hd 3 rfl;have rxW:=hb.2.2.2.1 hl;exact nC (ah rfl) (sD _ _ _ rfl (w.heap.size+1) 0 _ (dh H7).toList E4 (kh.trans h3) rfl _ _ rxW (ay _) mach_size (fun u hu=>by have:=fw H7;rw[←jV,dK] at this;exact this u hu)) (Mv ke.out hl hb (rxW.setCells _ _) (aG _ _ _ _)) trivial
  intro y W7 hO hT;clear hT;simp only[bU,bX,bP,bT];obtain⟨⟨o,_⟩,_,h9,_,hH⟩:=hO;have rx8:=hH rfl;go_wp2;refine bodyPost_ret (v:=.tuple #[.agg (dh H7),.int .i64 0]) (eZ results23 _ _ (w.heap.size+1) _ _ _ _ rfl rfl rx8 underlying41 rfl mach_size) rfl ?_;exact⟨o,by rw[hX.out];exact⟨H7,rfl,h9,hK.out⟩⟩
theorem Vt (hf:f≤40) (hs:s≤60) (hc:ct≤80):Rt (kV f s ct):=by
 rw[←JY hf hs hc];have h1:=((Fb.start hc).bd (f:=f) (s:=s) (by decide) hf hs).more (s:=⟨true,[],zTb⟩) (by show 0<4;decide) rfl (by decide);exact h1.rt
theorem SK {f s c:Int} (h:(0≤f∧f≤40)∧(0≤s∧s≤60)∧0≤c∧c≤80):kV f s c=⟨uh f,AJ s,oI s,oI c,⟨[],c⟩,[],[⟨true,[],zTb⟩]⟩:=by
 unfold kV;rw[if_pos h]
theorem FT (h:m.sp=[⟨true,[],zTb⟩]) (p:Nat) (n:Int):ent m p n=zEn:=by
 unfold ent
 match p with
 | 0=>rw[show fF m 0=⟨true,[],zTb⟩ from by unfold fF;rw[h];rfl];exact Nv rfl n
 | p+1=>rw[nR (by rw[h];simp)];exact Nv rfl n
theorem QJ (hR:Rt m) (bits:Int):Rt (gF m bits)∧Co (gF m bits):=by
 have hf:=Ie hR;obtain⟨c,hc⟩:=fE hf.2.2.1;have hN:Rt (kV m.m.fs.length m.sl.length m.st.count):=by rw[hc];exact Vt (by omega) (by omega) (by omega)
 have f:=SK hf;have d:(gF m bits).sp=[⟨true,[],zTb⟩]:=by unfold gF;rw[f]
 have k:(gF m bits).ca=[]:=by unfold gF;rw[f]
 have g:(gF m bits).dk=⟨iF (ko bits) m.dk.blocks m.dk.queue m.dk.queue.length,[]⟩:=by unfold gF jo;rw[if_pos hR.pt.dk]
 have o:(gF m bits).st=m.st:=rfl;have a:∀c,¬c∈(gF m bits).ca:=fun c h=>by rw[k] at h;cases h
 have j:=hR.pt.dk;refine⟨⟨⟨hN.pt.fr,hN.pt.sl,hN.pt.sw,?_,hR.pt.st,hN.pt.swl,?_,hN.pt.spl,hN.pt.ar,hN.pt.tb⟩,⟨fun b h0 hb => ?_,fun q hq => ?_⟩,fun p hp=>⟨?_,fun n=>by rw[FT d];rfl⟩,⟨fun c h=>absurd h (a c),fun c h=>absurd h (a c),fun c h=>absurd h (a c),by rw[k];exact List.Pairwise.nil⟩,fun p n h=>absurd (by rw[FT d];rfl) h,hN.cf,fun i hi h0 => ?_,hN.cs⟩,fun c h=>absurd h (a c),fun c h=>absurd h (a c),fun i hi hd => ?_⟩
 ·exact yE _ j
 ·rw[g];show ((iF _ _ _ _).length:Int)=m.st.count;rw[jk];exact hR.pt.dkl
 ·by_cases hbm:b∈kE m.st
  ·exact .inl hbm
  right
  rw[g] at hb ⊢;have hb:b<((iF (ko bits) m.dk.blocks m.dk.queue m.dk.queue.length).length:Int):=hb;rw[jk] at hb;have hz:m.dk.blocks.getD b.toNat zPg=zPg:=by
   rcases hR.trim.1 b h0 hb with h|h
   ·exact absurd h hbm
   ·exact h
  have l:b.toNat<m.dk.blocks.length:=by omega
  rw[aS] at hz;show (iF (ko bits) m.dk.blocks m.dk.queue m.dk.queue.length).getD b.toNat zPg=zPg;rw[aS];rcases DD (ko bits) m.dk.blocks m.dk.queue (fun x hx=>(((eO _).1 j).2.2 x hx).1) m.dk.queue.length b.toNat l with h|⟨x,hx,hxi,_⟩
  ·rw[h];rw[aH l] at hz;exact hz
  ·exact absurd (by have:=hR.trim.2 x hx;rwa [hxi,xx h0] at this) hbm
 ·rw[g] at hq;cases hq
 ·match p,hp with
  | 0,hp=>
   rw[show fF (gF m bits) 0=⟨true,[],zTb⟩ from by unfold fF;rw[d];rfl] at hp;cases hp
  | p+1,_=>rw[nR (by rw[d];simp)];rfl
 ·exact hN.fc i hi h0
 have e:(gF m bits).m.fs=List.replicate m.m.fs.length frZ:=by show (kV _ _ _).m.fs=_;rw[f];show (uh _).fs=_;unfold uh;rw[if_pos hf.1];simp
 unfold aN at hd;rw[e,aS,nI] at hd;split at hd<;>cases hd
theorem Jn (hR:Rt m) (bits:Int):(gF m bits).sp=[⟨true,[],zTb⟩]∧(gF m bits).ca=[]∧AU (gF m bits).m.fs=m.m.fs.length:=by
 have hf:=Ie hR;have a:=SK hf;refine⟨by unfold gF;rw[a],by unfold gF;rw[a],?_⟩;have e:(gF m bits).m.fs=List.replicate m.m.fs.length frZ:=by show (kV _ _ _).m.fs=_;rw[a];show (uh _).fs=_;unfold uh;rw[if_pos hf.1];simp
 rw[e];unfold AU;rw[Jc];rfl
theorem Df (hR:Rt m) (f i:Int):fV (oM m) f i=fV m f i:=by
 unfold fV;show (if 0≤aX m.st f i then fu (jc (jo (fun _=>true) m.dk) (aX m.st f i)) ((aK m.st f).n-i*8) else zPg)=_;rw[Mo hR.pt.dk]
theorem FK (hR:Rt m) (f i:Int):bA (oM m) f i=bA m f i:=by
 unfold bA;rw[show (oM m).ca=m.ca from rfl];cases m.ca.find? fun c=>decide (c.f=f)&&decide (c.i=i) with
 | some c=>rfl
 | none=>exact Df hR f i
theorem Ri (hR:Rt m) (hC:Co m):uJ m (oM m):=by
 have a:=hR.pt.dk;have d:(oM m).dk=⟨iF (fun _=>true) m.dk.blocks m.dk.queue m.dk.queue.length,[]⟩:=by unfold oM jo;rw[if_pos a]
 refine⟨⟨⟨hR.pt.fr,hR.pt.sl,hR.pt.sw,yE _ a,hR.pt.st,hR.pt.swl,?_,hR.pt.spl,hR.pt.ar,hR.pt.tb⟩,⟨fun b h0 hb => ?_,fun q hq => ?_⟩,hR.live,⟨hR.ca.file,hR.ca.lt,hR.ca.fr,hR.ca.srt⟩,fun p n h => ?_,hR.cf,hR.fc,hR.cs⟩,⟨hC.tail,fun c hc hd => ?_,hC.anon⟩,⟨.of rfl,rfl,fun _=>rfl,fun _=>rfl,fun p n => ?_,fun f i _=>FK hR f i⟩,rfl,rfl⟩
 ·rw[d];show ((iF _ _ _ _).length:Int)=m.st.count;rw[jk];exact hR.pt.dkl
 ·by_cases hbm:b∈kE m.st
  ·exact .inl hbm
  right
  rw[d] at hb ⊢;have hb:b<((iF (fun _=>true) m.dk.blocks m.dk.queue m.dk.queue.length).length:Int):=hb;rw[jk] at hb;have hz:m.dk.blocks.getD b.toNat zPg=zPg:=by
   rcases hR.trim.1 b h0 hb with h|h
   ·exact absurd h hbm
   ·exact h
  have e:b.toNat<m.dk.blocks.length:=by omega
  rw[aS] at hz;show (iF (fun _=>true) m.dk.blocks m.dk.queue m.dk.queue.length).getD b.toNat zPg=zPg;rw[aS];rcases DD (fun _=>true) m.dk.blocks m.dk.queue (fun x hx=>(((eO _).1 a).2.2 x hx).1) m.dk.queue.length b.toNat e with h|⟨x,hx,hxi,_⟩
  ·rw[h];rw[aH e] at hz;exact hz
  ·exact absurd (by have:=hR.trim.2 x hx;rwa [hxi,xx h0] at this) hbm
 ·rw[d] at hq;cases hq
 ·obtain⟨g,h1,h2⟩:=hR.en p n h;exact⟨g,h1,h2.sw,h2.lt,h2.fr⟩
 ·exact (hC.clean c hc hd).trans (Df hR _ _).symm
 unfold MB;rw[show oU (oM m) p n=oU m p n from rfl];cases oU m p n with
 | none=>rfl
 | some g=>
  simp only;rw[FK hR];rfl
theorem uJ.trans {a b c:Ma} (h:uJ a b) (k:uJ b c):uJ a c:=⟨k.rt,k.co,h.vis.trans k.vis,k.len.trans h.len,k.sl.trans h.sl⟩
theorem Dh {file:Int} (h:Rt m) (hc:Co m) (h0:0≤file) (e:vO file m=some m'):uJ m m':=by
 unfold vO at e;cases e1:mG file m m.m.fs.length with
 | none=>rw[e1] at e;cases e
 | some m1=>
  rw[e1] at e;cases aJ e;have s1:=wW h hc h0 _ m1 (ay _) e1;exact s1.trans (Ri s1.rt s1.co)
theorem Pz (d:pR) (k:Int) (ab:Option Addr) (cb:Nat) (aq:Option Addr) (cq:Nat) (w:World) (h:Lb w ab cb aq cq d) :
  Calls Tryz.prog 87 #[.agg #[.slice ab d.blocks.length cb,.slice aq d.queue.length cq],.int .i64 k] w fun e w'=>e = .returned (.tuple #[.agg (iB (jc d k)),.int .i64 (aL d k)])∧Below w.heap.size w w':=by
 go_enter func87,ntmps87
 go_wp2_with fail
 refine rE (fun W=>Calls _ _ _ W _) fun W0 z hb hf hq => ?_;refine (wy d ab cb aq cq _ (h.below z)).mono ?_;rintro e w1 ⟨rfl,t⟩;have a:=ae z t;have v:=hb.ext t;have g:=hf.ext t;have h1:=h.below a;clear hb hf t z hq;have lq:=bi h1.lq h1.mq;unfold maxLen at lq;have hu:=v.cell
 by_cases hw:aY d=0
 ·rw[hw]
  by_cases hk:k<0∨(d.blocks.length:Int)≤k
  ·have q1:aL d k=3:=by unfold aL;rw[if_neg (by omega),if_pos hk]
   have q2:iB (jc d k)=#[.int .u8 0,.int .u8 0,.int .u8 0,.int .u8 0,.int .u8 0,.int .u8 0,.int .u8 0,.int .u8 0]:=by unfold jc;rw[q1];rfl
   rcases hk with hk|hk
   all_goals
    go_wp2_with (refine az rfl _ (.tmp 4) (.tmp 25) rfl (w.heap.size+1) #[.int .u8 0,.int .u8 0,.int .u8 0,.int .u8 0,.int .u8 0,.int .u8 0,.int .u8 0,.int .u8 0] rfl rfl _ _ g zz_fit zz_info zz_one ?_)
    all_goals
     intro w2 y l;have f:=a.grown l a.size (fun k hk=>by cases hk;omega);have q:=y.cell;go_wp2;simp[bodyPost,results,go_sem,results87,q,q1,q2];exact f
  obtain⟨k,rfl⟩:=fE (show 0≤k by omega);have hl:k<d.blocks.length:=by omega
  have k1:¬(d.blocks.length:Int)≤(k:Int):=by omega
  have kz:(k:Int)<(d.blocks.length:Int):=by omega
  have q1:aL d k=0:=by unfold aL;rw[if_neg (by omega),if_neg hk]
  have q2:jc d k=over k d.blocks[k] d.queue:=by unfold jc;rw[q1,if_pos rfl];simp[hl]
  have Q:=Lib.hid (And.intro q1 q2);have hy:w.heap.size+2≤w1.heap.size:=by have:=g.lt;omega
  clear hk q1 q2;have hd:decide (d.blocks.length≤k)=false:=by simp;omega
  obtain⟨b,off,rfl,hc⟩:=UL h1.rb k hl;have c0:=hc 0 (by decide);have c1:=hc 1 (by decide);have c2:=hc 2 (by decide);have c3:=hc 3 (by decide);have c4:=hc 4 (by decide);have c5:=hc 5 (by decide);have c6:=hc 6 (by decide);have c7:=hc 7 (by decide);simp only[iB,wV,pV,xC,iq] at c0 c1 c2 c3 c4 c5 c6 c7;clear hc;go_upto_region 7 with (fail);refine gB (fun W=>Code.wp _ _ _ _ W) fun w2 s hi hn => ?_;have f:=ae a s;have ha:=v.ext s;have o:=g.ext s;have u : aB w2 w1.heap.size (iB d.blocks[k]) 79:=hi;clear a v g h1 s hi hn hu c0 c1 c2 c3 c4 c5 c6 c7;have ht:=ha.cell;go_wp2;clear ht ha
  go_loopw [34] (fun i wr => ∃j:Nat,j≤d.queue.length∧i = .int .i64 j∧Below w.heap.size w wr∧aB wr (w.heap.size+1) #[.int .u8 0,.int .u8 0,.int .u8 0,.int .u8 0,.int .u8 0,.int .u8 0,.int .u8 0,.int .u8 0] 79∧aB wr w1.heap.size (iB (over k d.blocks[k] (d.queue.take j))) 79) (fun i _=>d.queue.length-(intOf i).toNat)
  case atStart=>exact⟨0,aV _,rfl,f,o,u⟩
  case round=>
   clear f o u;obtain⟨j,hj,rfl,c,n,hp⟩:=hrel
   by_cases hlt:j<d.queue.length
   ·obtain⟨b',off',rfl,hc⟩:=Eg (h.below c).rq j hlt;have c0:=hc 0 (by decide);have c1:=hc 1 (by decide);have c2:=hc 2 (by decide);have c3:=hc 3 (by decide);have c4:=hc 4 (by decide);have c5:=hc 5 (by decide);have c6:=hc 6 (by decide);have c7:=hc 7 (by decide);have c8:=hc 8 (by decide);simp only[ES,wV,pV,xC,iq] at c0 c1 c2 c3 c4 c5 c6 c7 c8;clear hc;have r:=Lib.hid (Gy (k:Int) d.blocks[k] d.queue j hlt)
    by_cases he:d.queue[j].1=(k:Int)
    ·have p : Hid (over (k:Int) d.blocks[k] (d.queue.take (j+1))=d.queue[j].2):=by have:=r.out;rw[if_pos he] at this;exact this
     rw[he] at c0;clear r he;have hh:=hp.alloc (.cells #[.int .i64 k,.int .u8 d.queue[j].2[0].toNat,.int .u8 d.queue[j].2[1].toNat,.int .u8 d.queue[j].2[2].toNat,.int .u8 d.queue[j].2[3].toNat,.int .u8 d.queue[j].2[4].toNat,.int .u8 d.queue[j].2[5].toNat,.int .u8 d.queue[j].2[6].toNat,.int .u8 d.queue[j].2[7].toNat] 86)
     go_wp2_with (refine az rfl _ (.tmp 7) (.tmp 43) rfl w1.heap.size (iB d.queue[j].2) rfl rfl _ _ hh (UK _ _) (zn _) (jy _) ?_)
     intro w4 hs l;have m:=(c.alloc c.size _).grown l (cZ c.size _) (fun k hk=>by cases hk;omega);have x:=(n.alloc _).grown l (fun he=>by have:=aJ he;omega);clear hh hp c n l c0 c1 c2 c3 c4 c5 c6 c7 c8;go_wp2;go_roundw
     case rel=>exact⟨j+1,by omega,by go_num,m,x,by rw[p.out];exact hs⟩
     case measure=>simp[intOf];omega
    have p : Hid (over (k:Int) d.blocks[k] (d.queue.take (j+1))=over (k:Int) d.blocks[k] (d.queue.take j)):=by have:=r.out;rw[if_neg he] at this;exact this
    have hx:(d.queue[j].1==(k:Int))=false:=by simpa using he
    clear r he;go_wp2;go_roundw
    case rel=>exact⟨j+1,by omega,by go_num,c.alloc c.size _,n.alloc _,by rw[p.out];exact hp.alloc _⟩
    case measure=>simp[intOf];omega
   rw[iN (show d.queue.length≤j by omega)] at hp;have hg:=Q.out.2;rw[←hg] at hp;have hm:=hp.cell;rw[Nu] at hm;clear hg
   go_wp2_with (refine az rfl _ (.tmp 4) (.tmp 45) rfl (w.heap.size+1) (iB (jc d k)) rfl rfl _ _ n (Vr _) (zn _) (jy _) ?_)
   intro w4 hr l;have m:=c.grown l c.size (fun k hk=>by cases hk;omega);have q:=hr.cell;obtain⟨e0,e1,e2,e3,e4,e5,e6,e7⟩:=Jg (jc d k);clear hm;go_wp2;simp[bodyPost,results,go_sem,results87,q,e0,e1,e2,e3,e4,e5,e6,e7,Q.out.1];exact⟨rfl,m⟩
 have q1:aL d k=aY d:=by unfold aL;rw[if_pos hw]
 have q2:iB (jc d k)=#[.int .u8 0,.int .u8 0,.int .u8 0,.int .u8 0,.int .u8 0,.int .u8 0,.int .u8 0,.int .u8 0]:=by unfold jc;rw[q1,if_neg hw];rfl
 have hv : (aY d != 0)=true:=by simpa using hw
 go_wp2_with (refine az rfl _ (.tmp 4) (.tmp 14) rfl (w.heap.size+1) #[.int .u8 0,.int .u8 0,.int .u8 0,.int .u8 0,.int .u8 0,.int .u8 0,.int .u8 0,.int .u8 0] rfl rfl _ _ g zz_fit zz_info zz_one ?_)
 intro w2 y l;have f:=a.grown l a.size (fun k hk=>by cases hk;omega);have q:=y.cell;go_wp2;simp[bodyPost,results,go_sem,results87,q,q1,q2];exact f
theorem JE (f:Fr) (w:World):Calls Tryz.prog 122 #[.agg (vW f)] w fun e w'=>e = .returned (.int .i64 (dR f))∧Below w.heap.size w w':=by
 have hE:∀W,(Op.equalIn 10000 79 (.agg #[.int .u8 f.p[0].toNat,.int .u8 f.p[1].toNat,.int .u8 f.p[2].toNat,.int .u8 f.p[3].toNat,.int .u8 f.p[4].toNat,.int .u8 f.p[5].toNat,.int .u8 f.p[6].toNat,.int .u8 f.p[7].toNat]) (.agg #[.int .u8 0,.int .u8 0,.int .u8 0,.int .u8 0,.int .u8 0,.int .u8 0,.int .u8 0,.int .u8 0])).run Tryz.prog W = .ok (f.p==zPg) W:=WK f.p zPg;have b:∀W,(Op.equalIn 9999 79 (.agg #[.int .u8 f.p[0].toNat,.int .u8 f.p[1].toNat,.int .u8 f.p[2].toNat,.int .u8 f.p[3].toNat,.int .u8 f.p[4].toNat,.int .u8 f.p[5].toNat,.int .u8 f.p[6].toNat,.int .u8 f.p[7].toNat]) (.agg #[.int .u8 0,.int .u8 0,.int .u8 0,.int .u8 0,.int .u8 0,.int .u8 0,.int .u8 0,.int .u8 0])).run Tryz.prog W = .ok (f.p==zPg) W:=WW f.p zPg;go_enter func122,ntmps122;unfold vW;cases hp:(f.p==zPg)
 all_goals rw[hp] at hE b
 all_goals have a:=Lib.hid hp
 all_goals clear hp
 all_goals go_wp2
 all_goals go_ret
 all_goals refine⟨?_,(Below.refl _ _).alloc (ay _) _⟩
 all_goals have hp:=a.out
 all_goals clear hE b a
 all_goals go_light
 all_goals refine congrArg (fun z=>Ending.returned (.int .i64 z)) ?_
 all_goals simp only[dR,Dt,FI,Bl,tF,dS,decide_eq_true_eq,ne_eq,bne_iff_ne]
 all_goals simp_all
 all_goals omega
theorem Jy (m:Mem) (a:Option Addr) (c:Nat) (w:World) (h:Sj w a c m) :
  Calls Tryz.prog 82 #[.agg #[.slice a m.fs.length c,.int .i64 m.hand]] w fun e w'=>e = .returned (.int .i64 (bL m))∧Below w.heap.size w w':=by
 have hl:=bi h.le h.mx;unfold maxLen at hl;go_enter func82,ntmps82;go_upto_region 1 with (fail);refine gB (fun W=>Code.wp _ _ _ _ W) fun W0 r p v => ?_;clear v;have t:=p.cell
 by_cases h4:40<m.fs.length
 ·have hW:bL m=4:=by unfold bL;rw[if_pos h4]
  have z : (40:Int)<(m.fs.length:Int):=by omega
  go_wp2;go_ret;rw[hW];exact⟨rfl,r⟩
 have z : ¬(40:Int)<(m.fs.length:Int):=by omega
 go_wp2;clear t
 go_loopw [13] (fun i wr => ∃k:Nat,k≤m.fs.length∧i = .int .i64 k∧Below w.heap.size w wr∧aB wr w.heap.size #[.slice a m.fs.length c,.int .i64 m.hand] 28∧∀i (h:i<m.fs.length),i<k→dR m.fs[i]=0) (fun i _=>m.fs.length-(intOf i).toNat)
 case atStart=>exact⟨0,aV _,rfl,r,p,fun i _ h=>absurd h (dV _)⟩
 case round=>
  clear p r;obtain⟨k,hk,rfl,d,hx,s⟩:=hrel;have l:=Lib.hid s;clear s
  by_cases hlt:k<m.fs.length
  ·obtain⟨b,off,rfl,hc⟩:=Jt (h.below d).rd k hlt;obtain⟨c0,c1,c2,c3,c4,c5,c6,c7,c8,c9,ca,cb,cc⟩:=hc;have ha:(k:Int)<(m.fs.length:Int):=by omega
   have hf:=fun w=>JE m.fs[k] w;unfold vW at hf
   by_cases he:dR m.fs[k]=0
   ·have x:=Lib.hid he;rw[he] at hf;clear he;go_upto_region 6 with (fail);refine gB (fun W=>Code.wp _ _ _ _ W) fun w1 g o q => ?_;have f:=ae d g;have u:=hx.ext g;clear q d hx g;have y:=o.cell
    go_wp2_with fail
    refine (hf _).mono ?_;rintro e w2 ⟨rfl,n⟩;go_wp2;go_roundw
    case rel=>exact⟨k+1,by omega,by go_num,ae f n,u.ext n,lN l.out hlt x.out⟩
    case measure=>simp[intOf];omega
   have hW:bL m=dR m.fs[k]:=by have:=firstEf_at _ k hlt l.out he;unfold bL;rw[if_neg h4,this,if_pos he]
   have hn:(dR m.fs[k] != 0)=true:=by simpa using he
   have j:=Lib.hid hW;clear hW;go_upto_region 6 with (fail);refine gB (fun W=>Code.wp _ _ _ _ W) fun w1 g o q => ?_;have f:=ae d g;clear q d hx g;have y:=o.cell
   go_wp2_with fail
   refine (hf _).mono ?_;rintro e w2 ⟨rfl,n⟩;go_wp2;go_ret;rw[j.out];exact⟨rfl,ae f n⟩
  have h0:firstEf m.fs=0:=firstEf_none _ (fun i hi=>l.out i hi (by omega));have hW:bL m=if m.hand<0∨(0<m.hand∧(m.fs.length:Int)≤m.hand) then 3 else 0:=by unfold bL;rw[if_neg h4,h0];rfl
  have j:=Lib.hid hW;have t:=hx.cell;clear hW h0
  by_cases n0:m.hand=0
  ·have nb:(m.hand != 0)=false:=by simp[n0]
   have n0':=Lib.hid n0;clear n0;go_wp2
   all_goals
    go_ret;rw[j.out,if_neg (by have:=n0'.out;omega)];exact⟨rfl,d⟩
  have nb:(m.hand != 0)=true:=by simpa using n0
  by_cases n1:m.hand<0
  ·go_wp2
   all_goals
    go_ret;rw[j.out,if_pos (.inl n1)];exact⟨rfl,d⟩
  by_cases n3:(m.fs.length:Int)≤m.hand
  ·go_wp2
   all_goals
    go_ret;rw[j.out,if_pos (.inr ⟨by omega,n3⟩)];exact⟨rfl,d⟩
  go_wp2
  all_goals
   go_ret;rw[j.out,if_neg (by omega)];exact⟨rfl,d⟩
theorem Ju (t:Tb) (cs:Array Value) (w:World) (h:Fh w cs t):Calls Tryz.prog 86 #[.agg cs] w fun r w'=>r = .returned (.int .i64 (cB t))∧Below w.heap.size w w':=by
  go_enter func86,ntmps86;go_upto_region 1 with (fail);refine gB (fun W=>Code.wp _ _ _ _ W) fun W0 hr hf ht => ?_;clear ht
  go_wp2_with (refine gz rfl 53 (.tmp 1) rfl w.heap.size 0 rfl cs.toList hf.rd _ underlying53 tab_agg (by rw[iI,h.sz];exact tab_size) ?_)
  clear hf
  go_loopw [9] (fun i wr => ∃k:Nat,k≤8∧i = .int .i64 k∧Below w.heap.size w wr∧∀i (hi:i<8),i<k→lI t[i]=0) (fun i _=>8-(intOf i).toNat)
  case atStart=>exact⟨0,aV _,rfl,hr,fun i _ h=>absurd h (dV _)⟩
  case round=>
    obtain⟨k,hk,rfl,x,hh⟩:=hrel;have hp:=Lib.hid hh;clear hh hr
    by_cases hlt:k<8
    · obtain⟨a,c,hm,hA,hv,hx,hu⟩:=h.at' k hlt;have hw:=fun W=>Cw hlt hm W;have hC:decide ((k:Int)<8)=true:=by simp;omega
      unfold maxLen at hv;clear hm
      by_cases h08:t[k].length=0∨t[k].length=8
      · have H08:=Lib.hid h08;have hB:t[k].length≤8:=by omega
        have q1:((t[k].length:Int) != 0)=true∧((t[k].length:Int) != 8)=false∨((t[k].length:Int) != 0)=false∧((t[k].length:Int) != 8)=true:=by rcases h08 with e|e<;>simp[e]
        clear h08;rcases q1 with ⟨q1,q2⟩|⟨q1,q2⟩
        all_goals
          go_wp2;clear hw
          go_loopw [22,5] (fun i s wr' => ∃j c:Nat,j≤t[k].length∧c≤j∧i = .int .i64 j∧s = .int .i64 c∧Below w.heap.size w wr'∧Hid (c=0↔xU t[k] j=false)∧∀i (hi:i<t[k].length),i<j→eX t[k][i]=0) (fun i _ _=>t[k].length-(intOf i).toNat)
          case atStart=>exact⟨0,0,aV _,ay _,rfl,rfl,x,Lib.hid (by simp[Qt]),fun i _ h=>absurd h (dV _)⟩
          case round=>
            obtain⟨j,n,hj,hy,rfl,rfl,q,v,hg⟩:=hrel;have hq:=Lib.hid hg;clear hg x
            by_cases hjl:j<t[k].length
            · obtain⟨b,off,rfl,c0,c1,c2⟩:=GA (hu.below q) j hjl;go_upto_region 10 with (fail);refine gB (fun W=>Code.wp _ _ _ _ W) fun W3 hn hd hs => ?_;have o:=ae q hn;have m:=hd.cell;have d:Hid (eX t[k][j]≠0→cB t=eX t[k][j]):=Lib.hid (fun he=>(qK k hlt hp.out (by rw[zT H08.out j hjl hq.out he];exact he)).trans (zT H08.out j hjl hq.out he));have g:Hid (eX t[k][j]=0→∀i (hi:i<t[k].length),i<j+1→eX t[k][i]=0):=Lib.hid (fun he=>lN hq.out hjl he);have l:Hid (0≤t[k][j].k→((0<t[k][j].k)→(n+1=0↔xU t[k] (j+1)=false))∧(¬0<t[k][j].k→(n=0↔xU t[k] (j+1)=false))):=Lib.hid (Sy hjl v.out);clear q hs c0 c1 c2 hn hd hq hp v;generalize t[k][j]=E at m d g l;go_wp2
              all_goals first
                | (go_ret
                   refine⟨aT ?_,o⟩;clear m g l
                   go_light
                   have he:eX E≠0→cB t=eX E:=d.out;clear d;unfold eX at he
                   simp_all<;>omega)
                | (have he:eX E=0:=by
                     clear m g l d
                     go_light
                     unfold eX
                     simp_all<;>omega
                   have hb:0≤E.k:=by
                     clear m g l d he
                     go_light
                     omega
                   have z:=Lib.hid (g.out he);have u:=Lib.hid (l.out hb);clear l g d he m;have ha:0<E.k:=by
                     go_light
                     omega
                   have hc:=Lib.hid (u.out.1 ha);clear u;go_roundw
                   case rel=>exact⟨j+1,n+1,by omega,by omega,by go_num,by go_num,o,hc,z.out⟩
                   case measure=>simp[intOf];omega)
                | (have he:eX E=0:=by
                     clear m g l d
                     go_light
                     unfold eX
                     simp_all<;>omega
                   have hb:0≤E.k:=by
                     clear m g l d he
                     go_light
                     omega
                   have z:=Lib.hid (g.out he);have u:=Lib.hid (l.out hb);clear l g d he m;have ha:¬0<E.k:=by
                     go_light
                     omega
                   have hc:=Lib.hid (u.out.2 ha);clear u;go_roundw
                   case rel=>exact⟨j+1,n,by omega,by omega,by go_num,rfl,o,hc,z.out⟩
                   case measure=>simp[intOf];omega)
            have y:=Lib.hid (xk H08.out fun i hi=>hq.out i hi (by omega));have p:=JH t[k] j (by omega)
            by_cases hgo:t[k].length=8∧n=0
            · obtain⟨g1,g2⟩:=hgo;have f:=Lib.hid (y.out.trans (if_pos ⟨by omega,by rw[←p];exact v.out.1 g2⟩));have d:=Lib.hid (qK k hlt hp.out (by rw[f.out];decide));have g3:((t[k].length:Int)==8)=true:=by rw[beq_iff_eq];omega
              subst g2;clear p g1;go_wp2;go_ret;exact⟨aT (d.out.trans f.out).symm,q⟩
            have f:=Lib.hid (y.out.trans (if_neg (fun h=>hgo ⟨by have:=H08.out;omega,v.out.2 (p.trans h.2)⟩)));have hl:((t[k].length:Int)==8)=false∨((t[k].length:Int)==8)=true∧((n:Int)==0)=false:=by
              by_cases hz:t[k].length=8
              · exact .inr ⟨by rw[beq_iff_eq];omega,by rw[beq_eq_false_iff_ne];omega⟩
              · exact .inl (by rw[beq_eq_false_iff_ne];omega)
            clear hgo p;rcases hl with g1|⟨g1,g2⟩
            all_goals
              go_wp2;go_roundw
              case rel=>exact⟨k+1,by omega,by go_num,q,lN hp.out hlt f.out⟩
              case measure=>simp[intOf];omega
      have q1:((t[k].length:Int) != 0)=true:=by rw[bne_iff_ne];omega
      have q2:((t[k].length:Int) != 8)=true:=by rw[bne_iff_ne];omega
      have f:=Lib.hid (yh (h:=t[k]) (by omega));have d:=Lib.hid (qK k hlt hp.out (by rw[f.out];decide));go_wp2;go_ret;exact⟨aT (d.out.trans f.out).symm,x⟩
    have d:=Lib.hid (wH fun i hi=>hp.out i hi (by omega));go_wp2;go_ret;exact⟨aT d.out.symm,x⟩
theorem Wj (f g:En) (b:Bool) (h:(f==g)=b) (W:World):(Op.equalIn 10000 89 (.agg #[.int .i64 f.k,.int .i64 f.n,.bool f.w]) (.agg #[.int .i64 g.k,.int .i64 g.n,.bool g.w])).run Tryz.prog W = .ok b W:=by
 rw[←h,Vq]
 by_cases h1:(f.k==g.k)=true
 ·by_cases h2:(f.n==g.n)=true
  ·by_cases h3:f.w=g.w<;>simp[go_sem,h1,h2,h3]
  ·simp[go_sem,h1,h2]
 ·simp[go_sem,h1]
theorem Po (t u:Tb) (cs ds:Array Value) (w:World) (h:Fh w cs t) (h' : Fh w ds u):Calls Tryz.prog 47 #[.agg cs,.agg ds] w fun r w'=>r = .returned (.bool (FQ t u))∧Below w.heap.size w w':=by
 go_enter func47,ntmps47;go_upto_region 1 with (fail);refine rE (fun W=>Code.wp _ _ _ _ W) fun W0 hd v q hg => ?_;clear hg;go_wp2
 go_loopw [7] (fun i wr => ∃k:Nat,k≤8∧i = .int .i64 k∧Below w.heap.size w wr∧aB wr w.heap.size cs 53∧aB wr (w.heap.size+1) ds 53∧∀i (hi:i<8),i<k→t[i]=u[i]) (fun i _=>8-(intOf i).toNat)
 case atStart=>exact⟨0,aV _,rfl,hd,v,q,fun i _ h=>absurd h (dV _)⟩
 case round=>
  obtain⟨k,hk,rfl,d,hx,hy,z⟩:=hrel;have hp:=Lib.hid z;clear z hd v q
  by_cases hlt:k<8
  ·obtain⟨a,c,o,hv,hr,ht,hh⟩:=h.at' k hlt;obtain⟨a',c',n,hu,ha,hm,x⟩:=h'.at' k hlt;have hz:decide ((k:Int)<8)=true:=by simp;omega
   have hw:(k:Int)<8:=by omega
   unfold maxLen at hr ha;have HC:=Lib.hid o;have HD:=Lib.hid n;have hc:=(hx.cell k).trans o;have hb:=(hy.cell k).trans n;clear o n
   by_cases hl:t[k].length=u[k].length
   ·have g:=Lib.hid hl;have hn:((t[k].length:Int) != (u[k].length:Int))=false:=by simp[hl]
    clear hl
    go_wp2_with fail
    go_quiet (fail);go_wp2;clear hc hb;generalize hW1:wr.drewN _=w1;have m:Below w.heap.size w w1:=by rw[←hW1];exact below_drewN d _
    have s:aB w1 w.heap.size cs 53:=by rw[←hW1];exact hx.drewN _
    have p:aB w1 (w.heap.size+1) ds 53:=by rw[←hW1];exact hy.drewN _
    clear hW1 d hx hy
    go_loopw [23] (fun i wr => ∃j:Nat,j≤t[k].length∧i = .int .i64 j∧Below w.heap.size w wr∧aB wr w.heap.size cs 53∧aB wr (w.heap.size+1) ds 53∧∀i (hi:i<t[k].length),i<j→t[k][i]=u[k][i]'(by have:=g.out;omega)) (fun i _=>t[k].length-(intOf i).toNat)
    case atStart=>exact⟨0,aV _,rfl,m,s,p,fun i _ h=>absurd h (dV _)⟩
    case round=>
     obtain⟨j,hj,rfl,d,hx,hy,y⟩:=hrel;have hq:=Lib.hid y;clear y m s p;have hc:=(hx.cell k).trans HC.out;have hb:=(hy.cell k).trans HD.out
     by_cases hjl:j<t[k].length
     ·have l : j<u[k].length:=by have:=g.out;omega
      have k1:(j:Int)<(u[k].length:Int):=by omega
      obtain⟨b,off,rfl,c0,c1,c2⟩:=GA (hh.below d) j hjl;obtain⟨b',off',rfl,d0,d1,d2⟩:=GA (x.below d) j l
      by_cases he:t[k][j]=u[k][j]
      ·have hE:=Wj t[k][j] u[k][j] true (beq_iff_eq.2 he);have hs:=Lib.hid he;clear he
       go_wp2_with fail
       go_quiet (fail);go_wp2;go_roundw
       case rel=>exact⟨j+1,by omega,by go_num,below_drewN d _,hx.drewN _,hy.drewN _,Wx g.out hjl hq.out hs.out⟩
       case measure=>simp[intOf];omega
      have hE:=Wj t[k][j] u[k][j] false (beq_eq_false_iff_ne.2 he);have f:=Lib.hid (FY k hlt (Wn j hjl l he));clear he
      go_wp2_with fail
      go_quiet (fail);go_wp2;go_ret;exact⟨bK f.out.symm,below_drewN d _⟩
     have hf:=Lib.hid (lN hp.out hlt (VL g.out j hjl hq.out));go_wp2;go_roundw
     case rel=>exact⟨k+1,by omega,by go_num,d,hx,hy,hf.out⟩
     case measure=>simp[intOf];omega
   have hn:((t[k].length:Int) != (u[k].length:Int))=true:=by rw[bne_iff_ne];omega
   have f:=Lib.hid (FY k hlt (fun e=>hl (by rw[e])));clear hl
   go_wp2_with fail
   go_quiet (fail);go_wp2;go_ret;exact⟨bK f.out.symm,below_drewN d _⟩
  have f:=Lib.hid (GK fun i hi=>hp.out i hi (by omega));go_wp2;go_ret;exact⟨bK f.out.symm,d⟩
def wB (l:List En):Array Value:=(l.flatMap kS).toArray
theorem uG (l:List En):(wB l).size=l.length*3:=by
 unfold wB;rw[List.size_toArray,sP]
theorem UJ (l:List En) (k:Nat) (hk:k<l.length) (x:En):bB (wB l) (k*3) (kS x)=wB (l.set k x):=by
 apply lS;intro i;have hl:=sP l;have c:=sP (l.set k x);rw[bH] at c
 by_cases hi:i<l.length*3
 ·have hq:i / 3<l.length:=by omega
  have b:i=i / 3*3+i%3:=by omega
  have h2:=jl kS 3 fA (l.set k x) (i / 3) (by simpa using hq) (i%3) (by omega);rw[←b] at h2;have h3:=jl kS 3 fA l (i / 3) hq (i%3) (by omega);rw[←b] at h3;have e2:(wB (l.set k x))[i]?=((l.set k x).flatMap kS)[i]?:=by simp[wB]
  have e3:(wB l)[i]?=(l.flatMap kS)[i]?:=by simp[wB]
  by_cases e:i / 3=k
  ·have d:i=k*3+i%3:=by omega
   have a:i%3<(kS x).length:=by rw[fA];omega
   have h1:=putAt_in (kS x) (wB l) (k*3) (i%3) (kS x)[i%3] (by rw[fA,uG];omega) (aH a);rw[←d] at h1;rw[h1,e2,h2];simp only[e,Jh];exact (aH a).symm
  rw[putAt_out _ _ _ _ (by rw[fA];omega),e2,h2,e3,h3];congr 2;rw[zt (fun h=>e h.symm)]
 ·rw[lg (by rw[size_putAt,uG];omega),lg (by rw[uG,bH];omega)]
theorem arr64_size:(Tryz.prog.info? 90).map (·.size)=some 192:=by kernel_rfl
theorem Ua (h:aB w b (bB cur 0 (kS E)) T) (hc:cur.size=3):aB w b (jw E) T:=by
 have:bB cur 0 (jw E).toList=jw E:=iT cur (jw E) (by rw[hc];rfl);have h2:aB w b (bB cur 0 (jw E).toList) T:=h;rwa [this] at h2
theorem Gq (t:Tb) (cs:Array Value) (w:World) (h:Fh w cs t) (h0:cB t=0):Calls Tryz.prog 50 #[.agg cs] w fun r w'=>r = .returned (.agg (wB (dB t)))∧Below w.heap.size w w':=by
 have H0:=Lib.hid h0;clear h0;go_enter func50,ntmps50;go_upto_region 2 with (fail);refine LD (fun W=>Code.wp _ _ _ _ W) fun W0 hx hq f ha hy => ?_;clear hy;replace ha:aB W0 (w.heap.size+2) (wB (List.replicate 64 zEn)) 90:=ha;replace f:aB W0 (w.heap.size+1) (wB (List.replicate 64 zEn)) 90:=f
 go_wp2_with (refine gz rfl 53 (.tmp 1) rfl w.heap.size 0 rfl cs.toList hq.rd _ underlying53 tab_agg (by rw[iI,h.sz];exact tab_size) ?_)
 have hn:Hid (La t (8*0) (List.replicate 64 zEn)):=Lib.hid La.start;clear hq;have hh:=hn;rw[Nat.mul_zero] at hn
 go_loopw [9] (fun i wr => ∃(k:Nat) (l:List En),k≤8∧i = .int .i64 k∧Below w.heap.size w wr∧aB wr (w.heap.size+2) (wB l) 90∧aB wr (w.heap.size+1) (wB (List.replicate 64 zEn)) 90∧Hid (La t (8*k) l)) (fun i _=>8-(intOf i).toNat)
 case atStart=>exact⟨0,_,aV _,rfl,hx,ha,f,hh⟩
 case round=>
  obtain⟨k,l,hk,rfl,hb,ho,y,hF⟩:=hrel;clear hx ha f hn hh
  by_cases hlt:k<8
  ·obtain⟨a,c,hw,hI,hB,hD,hz⟩:=h.at' k hlt;have hC:=fun W=>Cw hlt hw W;have hK:decide ((k:Int)<8)=true:=by simp;omega
   have hl:=Lib.hid (oL (lF H0.out k hlt));have hJ:t[k].length≤8:=by have:=hl.out;omega
   unfold maxLen at hB;clear hw;go_wp2;clear hC
   go_loopw [15] (fun i wr' => ∃(j:Nat) (l' : List En),j≤t[k].length∧i = .int .i64 j∧Below w.heap.size w wr'∧aB wr' (w.heap.size+2) (wB l') 90∧aB wr' (w.heap.size+1) (wB (List.replicate 64 zEn)) 90∧Hid (La t (8*k+j) l')) (fun i _=>t[k].length-(intOf i).toNat)
   case atStart=>exact⟨0,l,aV _,rfl,hb,ho,y,hF⟩
   case round=>
    obtain⟨j,l',hj,rfl,n,z,m,s⟩:=hrel;clear hb ho y
    by_cases hjl:j<t[k].length
    ·obtain⟨b,off,E,rfl,hE,c0,c1,c2⟩:=Sc (hz.below n) j hjl;have hv:=Lib.hid (FR hlt (by omega) (by have:=hl.out;omega) hE);have hH:(8:Int)*(k:Int)+(j:Int)<64:=by omega
     have hm:=Lib.hid (s.out.step (by omega) hv.out);have hg:Hid ((8*k+j)*3+3≤(wB l').size):=Lib.hid (by rw[uG,s.out.len];omega);have hd:Hid (bB (wB l') ((8*k+j)*3) (kS E)=wB (l'.set (8*k+j) E)):=Lib.hid (UJ l' _ (by rw[s.out.len];omega) E);clear hE hv s
     go_wp2_with (refine aA rfl _ (.tmp 7) (.tmp 19) rfl wr.heap.size 0 _ (kS E) rfl rfl rfl _ _ (aB.new _ _ _) (ay 3) entry_size (Ap E) ?_)
     intro w4 hp q;have hc:=Ua hp rfl;have hG:=z.lt;have ht:aB w4 (w.heap.size+2) _ _:=(z.alloc _).grown q (fun e=>by have:=aJ e;omega);have x:aB w4 (w.heap.size+1) _ _:=(m.alloc _).grown q (fun e=>by have:=aJ e;omega);have p:Below w.heap.size w w4:=(n.alloc n.size _).grown q (cZ n.size _) (fun k hk=>by cases hk;exact n.size);clear hp z m n q
     go_wp2_with (first | (refine gz rfl 89 (.tmp 7) rfl wr.heap.size 0 rfl (kS E) hc.rd _ underlying89 rfl entry_size ?_) | (refine aA rfl _ (.tmp 25) (.tmp 24) rfl (w.heap.size+2) ((8*k+j)*3) _ (kS E) rfl rfl rfl _ _ ht hg.out entry_size (Ap E) ?_))
     intro w5 hs g;rw[hd.out] at hs;have hi:aB w5 (w.heap.size+1) _ _:=x.grown g (fun e=>by have:=aJ e;omega);have o:Below w.heap.size w w5:=p.grown g p.size (fun k hk=>by cases hk;omega);clear ht x p g hd hg hc c0 c1 c2;go_wp2;go_roundw
     case rel=>exact⟨j+1,_,by omega,by go_num,o,hs,hi,hm⟩
     case measure=>simp[intOf];omega
    have hm:Hid (La t (8*(k+1)) l'):=by
     rcases hl.out with e|e
     ·have e0:j=0:=by omega
      subst e0;exact Lib.hid (La.skip s.out hlt e)
     have e8:j=8:=by omega
     subst e8;exact s
    go_wp2;go_roundw
    case rel=>exact⟨k+1,l',by omega,by go_num,n,z,m,hm⟩
    case measure=>simp[intOf];omega
  obtain rfl:k=8:=by omega
  obtain rfl:l=dB t:=hF.out.fin;have hf:(dB t).length=64:=by simp[dB]
  have d:Hid ((wB (dB t)).size=192):=Lib.hid (by rw[uG,hf]);have hr:(wB (dB t)).all (·.oneCell')=true:=by rw[←jV,dK];intro u hu;exact BI (dB t) u (by simpa[wB] using hu)
  clear hF hf
  go_wp2_with (first | (refine gz rfl 90 (.tmp 3) rfl (w.heap.size+2) 0 rfl (wB (dB t)).toList ho.rd _ underlying90 rfl (by rw[iI,d.out];exact arr64_size) ?_) | (refine az rfl _ (.tmp 2) (.tmp 28) rfl (w.heap.size+1) (wB (dB t)) rfl rfl _ _ y (by rw[d.out];rfl) (by rw[d.out];exact arr64_size) hr ?_))
  intro w5 hA g;have o:Below w.heap.size w w5:=hb.grown g hb.size (fun k hk=>by cases hk;omega);go_wp2;refine bodyPost_ret (v:=.agg (wB (dB t))) (eF results50 _ _ (w.heap.size+1) _ _ _ rfl hA underlying90 rfl (by rw[d.out];exact arr64_size)) rfl ?_;exact⟨rfl,o⟩
theorem qG.app {t:Tb} (h:qG w B cs t) (hq:q<8) {l:List En} (hv:cs[q]?=some v) (ho:Own w' B 89 3 v' l.length (l.flatMap kS)) (hgr:w.grownBy w' v.ownBlock)
 (hc:v'.ownBlock=v.ownBlock∨∀g,v'.ownBlock=some g→w.heap.size≤g):qG w' B (cs.setIfInBounds q v') (t.set q l) where
 sz:=by simp[h.sz]
 own:=fun k hk=>by
  by_cases e:k=q
  ·subst e;exact⟨v',by rw[qW (by rw[h.sz];exact hk)],by simpa using ho⟩
  obtain⟨u,h1,h2⟩:=h.own k hk;refine⟨u,by rw[fQ (fun e2=>e e2.symm)];exact h1,?_⟩;rw[wT hq hk (fun e2=>e e2.symm)];refine h2.grown hgr fun g hg he => ?_;rcases vK e with hlt|hlt
  ·exact h.apart k q u v hlt h1 hv g hg he
  ·exact h.apart q k v u hlt hv h1 g he hg
 apart:=fun j k x y f hx hy g b a=>by
  have key:∀j u,j≠q→cs[j]?=some u→v'.ownBlock=some g→u.ownBlock=some g→False:=by
   intro j u d hu hg c;have i:j<8:=by
    rcases fG j 8 with hk|hk
    ·exact hk
    ·rw[lg (by rw[h.sz];exact hk)] at hu;cases hu
   obtain⟨u',h1,h2⟩:=h.own j i;rw[hu] at h1;cases h1;rcases hc with hc|hc
   ·rw[hc] at hg;rcases vK d with hlt|hlt
    ·exact h.apart j q u v hlt hu hv g c hg
    ·exact h.apart q j v u hlt hv hu g hg c
   have h3:=hc g hg;have h4:=LH h2 g c;omega
  by_cases e:j=q
  ·subst e;rw[qW (by rw[h.sz];exact hq)] at hx;cases hx;rw[fQ (by omega)] at hy;exact key k y (by omega) hy b a
  rw[fQ (fun e2=>e e2.symm)] at hx
  by_cases e2:k=q
  ·subst e2;rw[qW (by rw[h.sz];exact hq)] at hy;cases hy;exact key j x e hx a b
  rw[fQ (fun e3=>e2 e3.symm)] at hy;exact h.apart j k x y f hx hy g b a
theorem Tk {l:List En} (h:aB w b (wB l) T) (hE:l[k]?=some E):dP w (some ⟨b,k*3,none⟩) (kS E):=by
 intro i u hi;refine⟨b,k*3,rfl,?_⟩;rw[h.cell];have hk:k<l.length:=(cK.1 hE).1;have hl:l[k]=E:=(cK.1 hE).2;have:=flat_get kS 3 fA l k hk i u (by rw[hl];exact hi);simpa[wB] using this
theorem LG (l:List En) (w:World) (hl:l.length=64):Calls Tryz.prog 36 #[.agg (wB l)] w fun r w' => ∃cs,r = .returned (.agg cs)∧qG w' w.heap.size cs (fU l)∧Below w.heap.size w w':=by
 have HLEN:=Lib.hid hl;clear hl;go_enter func36,ntmps36;go_upto_region 2 with (fail);refine LD (fun W=>Code.wp _ _ _ _ W) fun W0 kg hX hi kc ko => ?_;clear ko;have kj:qG W0 w.heap.size #[.slice none 0 0,.slice none 0 0,.slice none 0 0,.slice none 0 0,.slice none 0 0,.slice none 0 0,.slice none 0 0,.slice none 0 0] zTb:=yS _ _;have hr:Hid (Fw l 0 [] zTb):=Lib.hid Fw.start;go_wp2
 go_loopw [8] (fun i wr => ∃(k:Nat) (ca:Array Value) (t:Tb),k≤8∧i = .int .i64 k∧Below w.heap.size w wr∧aB wr w.heap.size (wB l) 90∧aB wr (w.heap.size+1) #[.slice none 0 0,.slice none 0 0,.slice none 0 0,.slice none 0 0,.slice none 0 0,.slice none 0 0,.slice none 0 0,.slice none 0 0] 53∧aB wr (w.heap.size+2) ca 53∧qG wr w.heap.size ca t∧Hid (Fw l k [] t)) (fun i _=>8-(intOf i).toNat)
 case atStart=>exact⟨0,_,_,aV _,rfl,kg,hX,hi,kc,kj,hr⟩
 case round=>
  obtain⟨k,ca,t,hk,rfl,hp,hx,m,ho,hO,hT⟩:=hrel;clear kg hX hi kc kj hr
  by_cases hlt:k<8
  ·have kL:decide ((k:Int)<8)=true:=by simp;omega
   go_wp2
   go_loopw [6,5] (fun i s wr' => ∃(j:Nat),j≤8∧i = .int .i64 j∧s = .bool (xZ l k j)∧wr' = wr) (fun i _ _=>8-(intOf i).toNat)
   case atStart=>exact⟨0,aV _,rfl,rfl,rfl⟩
   case round=>
    obtain⟨j,hj,rfl,rfl,rfl⟩:=hrel
    by_cases hjl:j<8
    ·have kt:decide ((j:Int)<8)=true:=by simp;omega
     obtain⟨E,hE,hP⟩:=JX HLEN.out hlt hjl;have ku:=(Tk hx hE) 0 (.int .i64 E.k) rfl;obtain⟨_,_,e1,kw⟩:=ku;simp only[iY,vM,and_true] at e1;obtain⟨rfl,rfl⟩:=e1;rw[iq] at kw;have ke:(8:Int)*(k:Int)+(j:Int)<64:=by omega
     have h0:Hid (xZ l k (j+1)=(xZ l k j||decide (0<E.k))):=Lib.hid (by unfold xZ;rw[hP,List.any_append];simp[Hr]);clear hE hP;cases hs:xZ l k j
     all_goals
      rw[hs] at h0;go_wp2;go_roundw
      case rel=>exact⟨j+1,by omega,by go_num,by rw[h0.out];first | rfl | (congr 1;rw[lT];simp),trivial⟩
      case measure=>simp[intOf];omega
    obtain rfl:j=8:=by omega
    rw[show ((8:Nat):Int)=8 from rfl];cases hsome:xZ l k 8
    ·have p:=Lib.hid (Uc hsome);clear hsome;go_wp2
     go_loopw [7] (fun i wr'=>i = .int .i64 0∧wr' = wr) (fun _ _=>0)
     case atStart=>exact⟨rfl,rfl⟩
     case round=>
      obtain⟨rfl,rfl⟩:=hrel;have hH:Hid (Fw l (k+1) [] t):=Lib.hid (Fw.next (by rw[p.out];exact hT.out) hlt);go_wp2;go_roundw
      case rel=>exact⟨k+1,ca,t,by omega,by go_num,hp,hx,m,ho,hO,hH⟩
      case measure=>simp[intOf];omega
    have p:=Lib.hid (QZ hsome);clear hsome;have hr:Hid (Fw l k ((l.drop (8*k)).take 0) t):=hT;go_wp2
    go_loopw [7] (fun i wr' => ∃(j:Nat) (ca' : Array Value) (t' : Tb),j≤8∧i = .int .i64 j∧Below w.heap.size w wr'∧aB wr' w.heap.size (wB l) 90∧aB wr' (w.heap.size+1) #[.slice none 0 0,.slice none 0 0,.slice none 0 0,.slice none 0 0,.slice none 0 0,.slice none 0 0,.slice none 0 0,.slice none 0 0] 53∧aB wr' (w.heap.size+2) ca' 53∧qG wr' w.heap.size ca' t'∧Hid (Fw l k ((l.drop (8*k)).take j) t')) (fun i _=>8-(intOf i).toNat)
    case atStart=>exact⟨0,ca,t,aV _,rfl,hp,hx,m,ho,hO,hr⟩
    case round=>
     obtain⟨j,ca',t',hj,rfl,hf,hy,n,hB,ht,hq⟩:=hrel;clear hp hx m ho hO hT hr
     by_cases hjl:j<8
     ·have kt:decide ((j:Int)<8)=true:=by simp;omega
      obtain⟨E,hE,hP⟩:=JX HLEN.out hlt hjl;have h3:=Tk hy hE;have ke:(8:Int)*(k:Int)+(j:Int)<64:=by omega
      have kr:¬(8:Int)*(k:Int)+(j:Int)<0:=by omega
      have ks:(k:Int)<8:=by omega
      have kd:IntKind.i64.wrap (8*(k:Int))=8*(k:Int):=bM _ (by omega);have kh:IntKind.i64.wrap (8*(k:Int)+(j:Int))=8*(k:Int)+(j:Int):=bM _ (by omega);have kq:(8*(k:Int)+(j:Int)).toNat=8*k+j:=by omega
      have ky:=Lib.hid hP;obtain⟨v,hv,ha⟩:=ht.own k hlt;have hY:=Lib.hid hv;have kK:t'[k].length=j:=by rw[hq.out.at' hlt];exact Dn HLEN.out hlt (by omega)
      obtain⟨xa,xc,rfl,kJ,kI,km,kH⟩:=ha.rd;have HE:=Lib.hid hE;clear hE hP hv;go_upto_region 13 with (fail);refine Kl 11 12 [(0,.int .i64 k)] [anyR,ul (.int .i64 k),ul (.pointer (some ⟨w.heap.size+2,k,none⟩)),ul (.slice xa t'[k].length xc),ul (.int .i64 k),ul (.int .i64 (8*(k:Int))),ul (.int .i64 j),ul (.int .i64 (8*(k:Int)+(j:Int))),ul (.pointer (some ⟨w.heap.size,(8*k+j)*3,none⟩)),ul (.agg (jw E)),(Xh 1 (kS E))] (by kernel_rfl) (by kernel_rfl) (by kernel_rfl) (by kernel_rfl) (by kernel_rfl) (by kernel_rfl) (by decide) (by decide) _ rfl (by kernel_rfl) (ag ?_ (ag ?_ (ag ?_ (ag ?_ (ag ?_ (ag ?_ (ag ?_ (ag ?_ (ag ?_ (ag ?_ (ag ?_ (aC)))))))))))) (aC) rfl ?_
      ·refine Ph rfl ?_;intro ρ y W hw hn hV;have E4:ρ (.tmp 4) = .int .i64 k:=(hn (.tmp 4) rfl).trans rfl;exact⟨(ah rfl),(run_move (.inl rfl) E4)⟩
      ·refine bG rfl ?_;intro ρ y W hw hn hb hd;have E4:ρ (.tmp 4) = .int .i64 k:=(hn (.tmp 4) rfl).trans rfl;refine aj (.int .i64 k) (ah rfl) (run_move (.inl rfl) E4) rfl
      ·refine bG rfl ?_;intro ρ y W hw hn hb hd;have E3:ρ (.tmp 3) = .pointer (some ⟨w.heap.size+2,0,none⟩):=(hn (.tmp 3) rfl).trans rfl;have kG:=hw 34 1 rfl;have h1:y 1 = .int .i64 k:=hd 1 rfl;refine aj (.pointer (some ⟨w.heap.size+2,k,none⟩)) (ah rfl) (by simp[execOp,go_sem,E3,kG,h1,underlying53,ks]) rfl
      ·refine bG rfl ?_;intro ρ y W hw hn hb hd;have kF:=hw 35 2 rfl;have h2:y 2 = .pointer (some ⟨w.heap.size+2,k,none⟩):=hd 2 rfl;refine aj (.slice xa t'[k].length xc) (ah rfl) (by simp[execOp,go_sem,kF,h2,(((hB.ext hb).cell k).trans hY.out),underlying51]) rfl
      ·refine bG rfl ?_;intro ρ y W hw hn hb hd;have E4:ρ (.tmp 4) = .int .i64 k:=(hn (.tmp 4) rfl).trans rfl;refine aj (.int .i64 k) (ah rfl) (run_move (.inl rfl) E4) rfl
      ·refine bG rfl ?_;intro ρ y W hw hn hb hd;have kE:=hw 37 4 rfl;have h4:y 4 = .int .i64 k:=hd 4 rfl;have EC:∀v,ρ (.const v)=v:=fun v=>hn (.const v) trivial;refine aj (.int .i64 (8*(k:Int))) (ah rfl) (by simp[execOp,go_sem,kE,h4,EC,kd]) rfl
      ·refine bG rfl ?_;intro ρ y W hw hn hb hd;have E7:ρ (.tmp 7) = .int .i64 j:=(hn (.tmp 7) rfl).trans rfl;refine aj (.int .i64 j) (ah rfl) (run_move (.inl rfl) E7) rfl
      ·refine bG rfl ?_;intro ρ y W hw hn hb hd;have kD:=hw 38 5 rfl;have h5:y 5 = .int .i64 (8*(k:Int)):=hd 5 rfl;have kC:=hw 39 6 rfl;have h6:y 6 = .int .i64 j:=hd 6 rfl;refine aj (.int .i64 (8*(k:Int)+(j:Int))) (ah rfl) (by simp[execOp,go_sem,kD,h5,kC,h6,kh]) rfl
      ·refine bG rfl ?_;intro ρ y W hw hn hb hd;have E1:ρ (.tmp 1) = .pointer (some ⟨w.heap.size,0,none⟩):=(hn (.tmp 1) rfl).trans rfl;have kB:=hw 40 7 rfl;have h7:y 7 = .int .i64 (8*(k:Int)+(j:Int)):=hd 7 rfl;refine aj (.pointer (some ⟨w.heap.size,(8*k+j)*3,none⟩)) (ah rfl) (by simp[execOp,go_sem,E1,kB,h7,underlying90,ke,kr,kq]) rfl
      ·refine bG rfl ?_;intro ρ y W hw hn hb hd;have kA:=hw 41 8 rfl;have h8:y 8 = .pointer (some ⟨w.heap.size,(8*k+j)*3,none⟩):=hd 8 rfl;refine aj (.agg (jw E)) (ah rfl) (bC rfl (kA.trans h8) (vs:=kS E) (h3.below hb) underlying89 rfl entry_size) rfl
      ·refine bG rfl ?_;intro ρ y W hw hn hb hd;have kz:=hw 42 9 rfl;have h9:y 9 = .agg (jw E):=hd 9 rfl;refine jU (.slice (some ⟨W.heap.size,0,none⟩) 1 1) (ah rfl) (by simp[execOp,go_sem,kz,h9,jw]) ((Below.refl _ _).alloc (ay _) (.cells (jw E) 89)) ?_;exact⟨_,_,rfl,ay _,by unfold maxLen;omega,fun e=>(by cases e),dP.new _ _ _⟩
      intro ρ y WA o ho hw hn hV b a;cases ho;have hU:y 0 = .int .i64 k:=hV 0 _ rfl;have hS:y 1 = .int .i64 k:=a 1 (by decide);have hR:y 2 = .pointer (some ⟨w.heap.size+2,k,none⟩):=a 2 (by decide);have hD:y 3 = .slice xa t'[k].length xc:=a 3 (by decide);have hQ:y 4 = .int .i64 k:=a 4 (by decide);have hN:y 5 = .int .i64 (8*(k:Int)):=a 5 (by decide);have hM:y 6 = .int .i64 j:=a 6 (by decide);have hL:y 7 = .int .i64 (8*(k:Int)+(j:Int)):=a 7 (by decide);have hK:y 8 = .pointer (some ⟨w.heap.size,(8*k+j)*3,none⟩):=a 8 (by decide);have hJ:y 9 = .agg (jw E):=a 9 (by decide);obtain⟨ya10,yc10,hg,yle10,ymx10,ynil10,yrd10⟩:=a 10 (by decide);have kl:=hw 36 3 rfl;rw[hD] at kl;have kk:=hw 43 10 rfl;rw[hg] at kk;have EC:∀v,ρ (.const v)=v:=fun v=>hn (.const v) trivial;have EF:∀f,ρ (.func f) = .func (.func f) #[] #[]:=fun f=>hn (.func f) trivial;refine Ht (ah rfl) (pG (.tmp 36) (.tmp 43) 51 rfl w.heap.size 89 _ 3 24 underlying51 entry_info rfl (by decide) _ _ _ kl (ha.below b) ya10 1 yc10 (kS E) kk ynil10 yle10 rfl yrd10 (Ap E) (by unfold maxLen;omega) (by omega) (bi hf.size b.size)) ?_;rintro v2 w4 ⟨h,g,hc⟩;clear a hw hn hV;simp only[lay,Nat.reduceAdd,Nat.reduceLT,Nat.reduceEqDiff,reduceIte,decide_true,decide_false,if_true,uQ,if_false,Cf,qC,uZ,zz,CZ,Ab,hU,hS,hR,hD,hQ,hN,hM,hL,hK,hJ,hg];clear hU hS hR hD hQ hN hM hL hK hJ hg;have q:=ae hf b;have d:=ha.below b;have hA:=kv (hB.ext b) d (by decide) g;have hW:=kv (hy.ext b) d (by decide) g;have hh:=kv (n.ext b) d (by decide) g;have z:=q.grown g q.size (fun k hk=>d.ge k hk);have hm:Own w4 w.heap.size 89 3 v2 (t'[k]++[E]).length ((t'[k]++[E]).flatMap kS):=by rw[jH,eY];simpa using h
      have ki:=(ht.below b).app hlt hY.out hm g hc;have kx:Hid (Fw l k ((l.drop (8*k)).take (j+1)) (t'.set k (t'[k]++[E]))):=Lib.hid (by
       have:=hq.out.set (h2:=(l.drop (8*k)).take (j+1)) hlt;have e:t'[k]++[E]=(l.drop (8*k)).take (j+1):=by rw[ky.out,hq.out.at' hlt]
       rw[e];exact this)
      have hZ:=ht.sz;have hG:∀u∈[v2],u.oneCell' = true:=by obtain⟨_,_,rfl,_⟩:=h.rd;intro u hu;cases bv.1 hu;rfl
      have kf:(v2.cells.toList:List Value)=[v2]:=by obtain⟨_,_,rfl,_⟩:=h.rd;rfl
      clear q d h hm hc g b hy n hB ht hq ha h3 hf yrd10
      go_wp2_with (refine aA rfl _ (.tmp 45) (.tmp 44) rfl (w.heap.size+2) k _ [v2] rfl rfl kf _ _ hA (by rw[hZ];exact hlt) slent_size hG ?_)
      intro w5 kb c;rw[Pw.putAt_one] at kb;have hI:=ki.keep hA (by decide) c;have kn:=bq hW hA (by decide) c;have hF:aB w5 (w.heap.size+1) _ _:=hh.grown c (fun e=>by have:=aJ e;omega);have x:=z.grown c z.size (fun k hk=>by cases hk;omega);clear hA hW hh z ki c;go_wp2;go_roundw
      case rel=>exact⟨j+1,_,_,by omega,by go_num,x,kn,hF,kb,hI,kx⟩
      case measure=>simp[intOf];omega
     obtain rfl:j=8:=by omega
     have hH:Hid (Fw l (k+1) [] t'):=Lib.hid (Fw.next (by rw[p.out];exact hq.out) hlt);go_wp2;go_roundw
     case rel=>exact⟨k+1,ca',t',by omega,by go_num,hf,hy,n,hB,ht,hH⟩
     case measure=>simp[intOf];omega
  obtain rfl:k=8:=by omega
  have hC:=hT.out.fin;have ka:=hO.rd.one;have hz:=hO.sz;rw[hC] at hO;clear hC
  go_wp2_with (first | (refine gz rfl 53 (.tmp 3) rfl (w.heap.size+2) 0 rfl ca.toList ho.rd _ underlying53 tab_agg (by rw[iI,hz];exact tab_size) ?_) | (refine az rfl _ (.tmp 2) (.tmp 47) rfl (w.heap.size+1) ca rfl rfl _ _ m (by rw[hz];rfl) (by rw[hz];exact tab_size) ka ?_))
  intro w5 kp c;have hI:=hO.keep m (by decide) c;have x:Below w.heap.size w w5:=hp.grown c hp.size (fun k hk=>by cases hk;omega);go_wp2;refine bodyPost_ret (v:=.agg ca) (eF results36 _ _ (w.heap.size+1) _ _ _ rfl kp underlying53 rfl (by rw[hz];exact tab_size)) rfl ?_;exact⟨_,rfl,hI,x⟩
def Uv (b:Bool):List Value:=[.bool b]
theorem IC (b:Bool):(Uv b).length=1:=rfl
theorem bool_info:(Tryz.prog.info? 4).map (fun i=>(i.zero,i.size,i.bytes))=some (some (.bool false),1,1):=by kernel_rfl
theorem bool_sz:(Tryz.prog.info? 4).map (·.size)=some 1:=by kernel_rfl
theorem VM (b:Bool):∀u∈[Value.bool b],u.oneCell' = true:=by intro u hu;cases bv.1 hu;rfl
theorem Wq {l:List Bool} (h:dP w (some ⟨b,off,none⟩) (l.flatMap Uv)) (i:Nat) (x:Bool) (hx:l[i]?=some x):w.cell? ⟨b,off+i,none⟩=some (.bool x):=by
 have hi:=(cK.1 hx).1;obtain⟨b',off',e,hc⟩:=h.elem IC (by decide) i hi;cases e;have:=hc 0 (.bool x) (by rw[(cK.1 hx).2];rfl);simpa using this
theorem KL (ps:List PF) (k:Int) (a:Option Addr) (c:Nat) (w:World) (h:Mw w a c ps) (hk64 : -9223372036854775808≤k∧k≤9223372036854775807) :
  Calls Tryz.prog 84 #[.agg (PE a ps.length c k)] w fun r w'=>r = .returned (.int .i64 (aO (bY ps k)))∧Below w.heap.size w w':=by
 have kr:=bi h.le h.mx;unfold maxLen at kr;unfold PE;go_enter func84,ntmps84;go_upto_region 1 with (fail);refine gB (fun W=>Code.wp _ _ _ _ W) fun W0 hK hl ko => ?_;clear ko
 by_cases h4:5<ps.length∨k<0∨80<k
 ·have d:Hid (aO (bY ps k)=4):=Lib.hid (by unfold aO bY;rw[if_pos (by simpa using h4)]);have hm:=hl.cell;have kv : 5<ps.length∨(¬5<ps.length∧k<0)∨(¬5<ps.length∧¬k<0∧80<k):=by omega
  clear h4;rcases kv with g|⟨g,g2⟩|⟨g,g2,g3⟩
  all_goals
   go_wp2;go_ret;exact⟨aT d.out.symm,hK⟩
 have m:Hid (aO (bY ps k)=nO k (((ps.take 0).map PF.fi).flatMap Fi.b) ((ps.drop 0).map PF.fi)):=Lib.hid (by unfold aO bY;rw[if_neg (by simpa using h4)];rfl);have g1:¬5<ps.length:=by omega
 have g2:¬k<0:=by omega
 have g3:¬80<k:=by omega
 have hm:=hl.cell;clear h4;obtain⟨N,hN⟩:∃N:Nat,k=(N:Int):=⟨k.toNat,by omega⟩;subst hN;have ky:N≤80:=by omega
 go_upto_region 4 with (refine uy _ rfl _ _ _ rfl Uv 4 _ 1 1 false IC (by decide) underlying118 bool_info rfl .i64 .i64 N N N rfl rfl rfl rfl (by omega) (by unfold maxLen;omega) ?_);clear hm;intro W1 ki hQ;have hW:Below W0.heap.size W0 W1:=jZ hQ;have hE:=ae hK hW;have hR:=hl.ext hW;have hG : Own W1 w.heap.size 4 1 (.slice (some ⟨W0.heap.size,0,none⟩) N N) N ((wN N (((ps.take 0).map PF.fi).flatMap Fi.b)).flatMap Uv):=by simp only[List.take_zero,bT,HZ];rw[Rb];exact ki.mono hK.size
 obtain⟨gm,kk⟩:∃g,g=W0.heap.size:=⟨_,rfl⟩;rw[←kk] at hG ⊢;clear kk hK hl hW ki hQ;have hm:=hR.cell;go_upto_region 5 with (fail);clear hm
 go_loopw [28] (fun i wr => ∃(q:Nat),q≤ps.length∧i = .int .i64 q∧Below w.heap.size w wr∧aB wr w.heap.size #[.slice a ps.length c,.int .i64 (N:Int)] 37∧Own wr w.heap.size 4 1 (.slice (some ⟨gm,0,none⟩) N N) N ((wN N (((ps.take q).map PF.fi).flatMap Fi.b)).flatMap Uv)∧Hid (aO (bY ps N)=nO N (((ps.take q).map PF.fi).flatMap Fi.b) ((ps.drop q).map PF.fi))) (fun i _=>ps.length-(intOf i).toNat)
 case atStart=>exact⟨0,aV _,rfl,hE,hR,hG,m⟩
 case round=>
  clear hE hR hG m;obtain⟨q,hq,rfl,o,hx,hM,m⟩:=hrel
  by_cases hlt:q<ps.length
  ·obtain⟨b,off,p,rfl,hp,c0,c1⟩:=DJ (h.below o).rd q hlt;have kb:=h.good p (bO hp);have hv:=kb.below o;have hz:=drop_at hp;have hs:=take_at hp;rw[hz,bP] at m;have hL:=Lib.hid hs;clear hz hs;generalize hseen:((ps.take q).map PF.fi).flatMap Fi.b=seen at hM m;have hg:=Lib.hid hseen;clear hseen hp
   go_wp2_with (refine aI rfl _ _ _ rfl (pK p) rfl rfl rfl file_size (qE _) ?_)
   intro w2 hF ha;have z:=ae o hF;have h2:=hx.ext hF;have kh:=hM.below hF;have hi:=hv.below hF;clear o hx hM hv hF c0 c1;have hU:=ha.cell;have f0:(pK p)[0]?=some (.int .i64 p.n):=rfl;have f1:(pK p)[1]?=some (.slice p.a p.l.length p.c):=rfl
   by_cases hn96:p.n<0∨96<p.n
   ·have d:Hid (aO (bY ps N)=3):=Lib.hid (by rw[m.out,uY,if_pos hn96]);have kp : p.n<0∨(¬p.n<0∧96<p.n):=by omega
    clear hn96;rcases kp with g|⟨g,g2⟩
    all_goals
     go_wp2;go_ret;exact⟨aT d.out.symm,z⟩
   have u:Hid (aO (bY ps N)=if (p.l.length:Int)≠dW p.n then 2 else if gH N seen p.l≠0 then gH N seen p.l else nO N (seen++p.l) ((ps.drop (q+1)).map PF.fi)):=Lib.hid (by rw[m.out,uY,if_neg hn96]);have g4:¬p.n<0:=by omega
   have g5:¬96<p.n:=by omega
   clear hn96 m
   by_cases hcnt:(p.l.length:Int)=dW p.n
   ·have t:Hid (aO (bY ps N)=if gH N seen p.l≠0 then gH N seen p.l else nO N (seen++p.l) ((ps.drop (q+1)).map PF.fi)):=Lib.hid (by rw[u.out,if_neg (fun hh=>hh hcnt)]);have kw:p.l.length≤12:=by have:=wX (n:=p.n) (by omega);omega
    have hV:=Lib.hid hcnt;clear u hcnt;go_upto_region 9 with (fail);refine aM 7 [_,_,_,_,_,.v (.int .i64 (dW p.n)),_] (Gf wr.heap.size 1 rfl rfl (Gl ha (V:=.slice p.a p.l.length p.c) (by simp[f1,underlying29]) rfl rfl rfl rfl (Gn rfl rfl rfl rfl (Gf wr.heap.size 0 rfl rfl (Gl ha (V:=.int .i64 p.n) (by simp[f0]) rfl rfl rfl rfl (ag ?_ (Gb (.bool false) (by simp[go_sem,hV.out]) rfl rfl rfl rfl rfl (aC))))) (underlying29)))) (fun _=>rfl) rfl ?_
    ·intro ρ y W hw hn hb hd;have h0:=hw 44 4 rfl;have h4:y 4=_:=hd 4 rfl;have EF:∀f,ρ (.func f) = .func (.func f) #[] #[]:=fun f=>hn (.func f) trivial;refine aR _ _ (ah rfl) (aU rfl (EF _) func31 (by kernel_rfl) (by kernel_rfl) (by simp only[bV,bP,bT,h0,h4,EF];rfl)) ?_;refine (yF p.n W (by omega)).mono ?_;rintro e w1 ⟨rfl,rfl⟩;exact⟨_,rfl,Below.refl _ _,rfl⟩
    intro y WA s _;have hC:=ae z s;have h1:=h2.ext s;have kf:=kh.below s;have kc:=ha.ext s;have hI:=hi.below s;clear z h2 kh ha hi s hU;have hU:=kc.cell;have km:Hid (gH N seen p.l=gH N (seen++p.l.take 0) (p.l.drop 0)):=Lib.hid (by simp);have kj:Own WA w.heap.size 4 1 (.slice (some ⟨gm,0,none⟩) N N) N ((wN N (seen++p.l.take 0)).flatMap Uv):=by simpa using kf
    have kz:=hI.le;have kq:=hI.mx;have hO:=hI.rd;unfold maxLen at kq;clear kf hI;go_upto_region 12 with (fail);clear hU f0 f1 kc
    go_loopw [50] (fun i wr => ∃(j:Nat),j≤p.l.length∧i = .int .i64 j∧Below w.heap.size w wr∧aB wr w.heap.size #[.slice (some ⟨b,off,none⟩) ps.length c,.int .i64 (N:Int)] 37∧Own wr w.heap.size 4 1 (.slice (some ⟨gm,0,none⟩) N N) N ((wN N (seen++p.l.take j)).flatMap Uv)∧dP wr p.a (p.l.map fT)∧Hid (gH N seen p.l=gH N (seen++p.l.take j) (p.l.drop j))) (fun i _=>p.l.length-(intOf i).toNat)
    case atStart=>exact⟨0,aV _,rfl,hC,h1,kj,hO,km⟩
    case round=>
     clear hC h1 kj hO km;obtain⟨j,hj,rfl,o,hx,hM,hS,hB⟩:=hrel
     by_cases hjl:j<p.l.length
     ·obtain⟨x,hX⟩:∃x,p.l[j]?=some x:=⟨p.l[j],aH hjl⟩;obtain⟨b2,off2,hT,hc⟩:=jv hS j hjl;rw[show p.l[j]=x from (cK.1 hX).2] at hc;have hz:=drop_at hX;have hs:=take_at hX;rw[hz,vk] at hB;rw[hT];generalize hs2:seen++p.l.take j=seen2 at hB hM;have hf:Hid (seen++p.l.take (j+1)=seen2++[x]):=Lib.hid (by rw[hs,←jG,hs2]);have h6:=Lib.hid hS;have hP:=Lib.hid hT;have hm:=hx.cell;clear hX hz hs hs2 hS hT;have ka : (j:Int)<(p.l.length:Int):=by omega
      by_cases hr3:x < -1∨(N:Int)≤x
      ·have d:Hid (aO (bY ps N)=3):=Lib.hid (by rw[t.out,hB.out,if_pos hr3];rfl);have h8 : x < -1∨(¬x < -1∧(N:Int)≤x):=by omega
       clear hr3;rcases h8 with g6|⟨g6,g7⟩
       all_goals
        go_wp2;go_ret;exact⟨aT d.out.symm,o⟩
      have g6:¬x < -1:=by omega
      have g7:¬(N:Int)≤x:=by omega
      have hr:Hid (gH N seen p.l=if 0≤x∧x∈seen2 then 7 else gH N (seen2++[x]) (p.l.drop (j+1))):=Lib.hid (by rw[hB.out,if_neg hr3]);clear hB hr3
      by_cases hl:x<0
      ·have e1:x = -1:=by omega
       have hZ:Hid (gH N seen p.l=gH N (seen++p.l.take (j+1)) (p.l.drop (j+1))):=Lib.hid (by rw[hr.out,if_neg (by omega),hf.out]);have ku:Own wr w.heap.size 4 1 (.slice (some ⟨gm,0,none⟩) N N) N ((wN N (seen++p.l.take (j+1))).flatMap Uv):=by rw[hf.out,SG _ _ _ hl];exact hM
       have h5:dP wr (some ⟨b2,off2,none⟩) (p.l.map fT):=by rw[←hP.out];exact h6.out
       clear hr hM;go_wp2;go_roundw
       case rel=>exact⟨j+1,by omega,by go_num,o,hx,ku,h5,hZ⟩
       case measure=>simp[intOf];omega
      obtain⟨X,ks⟩:∃X:Nat,x=(X:Int):=⟨x.toNat,by omega⟩;subst ks;have hY:X<N:=by omega
      have kx : (X:Int)<(N:Int):=by omega
      obtain⟨_,_,hH,_,_,_,ke⟩:=hM.rd;simp only[lU] at hH;obtain⟨rfl,_,rfl⟩:=hH;have hJ:=Wq ke X (decide ((X:Int)∈seen2)) (Ig N seen2 X hY);rw[eu] at hJ;clear ke
      by_cases h7:(X:Int)∈seen2
      ·have d:Hid (aO (bY ps N)=7):=Lib.hid (by rw[t.out,hr.out,if_pos (show 0≤(X:Int)∧(X:Int)∈seen2 from ⟨by omega,h7⟩)];rfl);rw[decide_eq_true h7] at hJ;clear h7 hr;go_wp2;go_ret;exact⟨aT d.out.symm,o⟩
      have hZ:Hid (gH N seen p.l=gH N (seen++p.l.take (j+1)) (p.l.drop (j+1))):=Lib.hid (by rw[hr.out,if_neg (fun hh=>h7 hh.2),hf.out]);rw[decide_eq_false h7] at hJ;clear h7 hr;obtain⟨g3,off3,cap3,cur3,hH,kl,hA,hy,ht⟩:=mF IC (by decide) (yX N seen2) hM X hY;cases hH
      go_wp2_with (refine aA rfl _ _ _ rfl gm X _ [.bool true] rfl rfl rfl cur3 4 hA (by simpa using hy) bool_sz (VM true) ?_)
      intro w6 kd hu;have kg:=ht w6 true (by rw[eu,sH];exact kd);rw[Rc _ _ _ hY,←hf.out] at kg;have hD:=o.grown hu o.size (fun k hk=>by cases hk;exact kl);have kn:=bq hx hA (by decide) hu;have h3:dP w6 (some ⟨b2,off2,none⟩) (p.l.map fT):=by have h9:=kb.rd.below hD;rw[hP.out] at h9;exact h9
      clear o hx hM hu hm hc ht hA kd hJ hy;go_wp2;go_roundw
      case rel=>exact⟨j+1,by omega,by go_num,hD,kn,kg,h3,hZ⟩
      case measure=>simp[intOf];omega
     have d:Hid (aO (bY ps N)=nO N (((ps.take (q+1)).map PF.fi).flatMap Fi.b) ((ps.drop (q+1)).map PF.fi)):=Lib.hid (by
      have e0:gH N seen p.l=0:=by rw[hB.out,qa (by omega)];rfl
      rw[t.out,if_neg (fun hh=>hh e0),hL.out,jb,eY,hg.out];simp[PF.fi])
     have kt:Own wr w.heap.size 4 1 (.slice (some ⟨gm,0,none⟩) N N) N ((wN N (((ps.take (q+1)).map PF.fi).flatMap Fi.b)).flatMap Uv):=by rw[iN (by omega)] at hM;rw[hL.out,jb,eY,hg.out];simpa[PF.fi] using hM
     have ka : ¬(j:Int)<(p.l.length:Int):=by omega
     clear hM hB t;go_wp2;go_roundw
     case rel=>exact⟨q+1,by omega,by go_num,o,hx,kt,d⟩
     case measure=>simp[intOf];omega
   have d:Hid (aO (bY ps N)=2):=Lib.hid (by rw[u.out,if_pos hcnt]);have hV:((p.l.length:Int) != dW p.n)=true:=by rw[bne_iff_ne];exact hcnt
   clear u hcnt;go_upto_region 9 with (fail);refine aM 7 [_,_,_,_,_,.v (.int .i64 (dW p.n)),_] (Gf wr.heap.size 1 rfl rfl (Gl ha (V:=.slice p.a p.l.length p.c) (by simp[f1,underlying29]) rfl rfl rfl rfl (Gn rfl rfl rfl rfl (Gf wr.heap.size 0 rfl rfl (Gl ha (V:=.int .i64 p.n) (by simp[f0]) rfl rfl rfl rfl (ag ?_ (Gb (.bool true) (by simp[go_sem,hV]) rfl rfl rfl rfl rfl (aC))))) (underlying29)))) (fun _=>rfl) rfl ?_
   ·intro ρ y W hw hn hb hd;have h0:=hw 44 4 rfl;have h4:y 4=_:=hd 4 rfl;have EF:∀f,ρ (.func f) = .func (.func f) #[] #[]:=fun f=>hn (.func f) trivial;refine aR _ _ (ah rfl) (aU rfl (EF _) func31 (by kernel_rfl) (by kernel_rfl) (by simp only[bV,bP,bT,h0,h4,EF];rfl)) ?_;refine (yF p.n W (by omega)).mono ?_;rintro e w1 ⟨rfl,rfl⟩;exact⟨_,rfl,Below.refl _ _,rfl⟩
   intro y WA s _;go_wp2;go_ret;exact⟨aT d.out.symm,ae z s⟩
  have d:Hid (aO (bY ps N)=0):=Lib.hid (by rw[m.out,qa (by omega)];rfl);go_wp2;go_ret;exact⟨aT d.out.symm,o⟩
def xV (o:Option Pg):Array Value:=#[.bool o.isSome,.bool (oR o),.bool (oW o),.bool (oH o),.int .i64 (oF o),.int .i64 (oP o)]
def qc (o:Option Pg):List Value:=(xV o).toList
theorem nK (o:Option Pg):(qc o).length=6:=rfl
theorem QH (o:Option Pg):∀u∈qc o,u.oneCell' = true:=by
 intro u hu;simp only[qc,xV,bZ,fP,or_false] at hu;rcases hu with rfl|rfl|rfl|rfl|rfl|rfl<;>rfl
theorem RN (o:Option Pg):(xV o).all (·.oneCell')=true:=by simp[xV,Value.oneCell']
def NM (l:List (Option Pg)):Array Value:=(l.flatMap qc).toArray
theorem Vu (l:List (Option Pg)):(l.flatMap qc).length=l.length*6:=Pw.flat_len qc 6 nK l
theorem ze (l:List (Option Pg)):(NM l).size=l.length*6:=by
 unfold NM;rw[List.size_toArray,Vu]
theorem zU (l:List (Option Pg)):(NM l).all (·.oneCell')=true:=by
 rw[←jV,dK];intro u hu;obtain⟨o,_,h⟩:=jP.1 (show u∈l.flatMap qc by simpa[NM] using hu);exact QH o u h
theorem TS (l:List (Option Pg)) (k:Nat) (hk:k<l.length) (x:Option Pg):bB (NM l) (k*6) (qc x)=NM (l.set k x):=by
 apply lS;intro i
 by_cases hi:i<l.length*6
 ·have hq:i / 6<l.length:=by omega
  have b:i=i / 6*6+i%6:=by omega
  have h2:=jl qc 6 nK (l.set k x) (i / 6) (by simpa using hq) (i%6) (by omega);rw[←b] at h2;have h3:=jl qc 6 nK l (i / 6) hq (i%6) (by omega);rw[←b] at h3;have e2:(NM (l.set k x))[i]?=((l.set k x).flatMap qc)[i]?:=by simp[NM]
  have e3:(NM l)[i]?=(l.flatMap qc)[i]?:=by simp[NM]
  by_cases e:i / 6=k
  ·have c:i=k*6+i%6:=by omega
   have a:i%6<(qc x).length:=by rw[nK];omega
   have h1:=putAt_in (qc x) (NM l) (k*6) (i%6) (qc x)[i%6] (by rw[nK,ze];omega) (aH a);rw[←c] at h1;rw[h1,e2,h2];simp only[e,Jh];exact (aH a).symm
  rw[putAt_out _ _ _ _ (by rw[nK];omega),e2,h2,e3,h3];congr 2;rw[zt (fun h=>e h.symm)]
 ·rw[lg (by rw[size_putAt,ze];omega),lg (by rw[ze,bH];omega)]
def fC (f:Nat→Option Pg):Array Value:=NM (NF f)
theorem jq (f:Nat→Option Pg):(fC f).size=384:=by unfold fC;rw[ze,xg]
theorem QU (f:Nat→Option Pg) (k:Nat) (hk:k<64) (x:Option Pg):bB (fC f) (k*6) (qc x)=fC (fun i=>if i=k then x else f i):=by
 unfold fC;rw[TS _ _ (by rw[xg];exact hk),Ud]
theorem QX (cur:Array Value) (o:Nat) (a b c d e x y:Value):bB (bB cur o [a,b,c,d,e,x]) (o+5) [y]=bB cur o [a,b,c,d,e,y]:=by
 simp[bB]
theorem one_size:(Tryz.prog.info? 109).map (·.size)=some 6:=by kernel_rfl
theorem ones_size:(Tryz.prog.info? 110).map (·.size)=some 384:=by kernel_rfl
theorem qU (l:List Ar) (a:Option Addr) (c:Nat) (w:World) (h:dP w a (l.flatMap mM)) (hl:l.length≤1000) (hok:∀x∈l,aQ x=0) :
  Calls Tryz.prog 49 #[.slice a l.length c] w fun r w'=>r = .returned (.agg (fC (cz l)))∧Below w.heap.size w w':=by
 go_enter func49,ntmps49;go_upto_region 2 with (fail);refine rE (fun W=>Code.wp _ _ _ _ W) fun W0 hy j hc hE => ?_;clear hE;replace hc:aB W0 (w.heap.size+1) (fC f0) 110:=hc;replace j:aB W0 w.heap.size (fC f0) 110:=j;go_upto_region 3 with (fail)
 go_loopw [9] (fun i wr => ∃k:Nat,k≤l.length∧i = .int .i64 k∧Below w.heap.size w wr∧aB wr (w.heap.size+1) (fC (cz (l.take k))) 110∧aB wr w.heap.size (fC f0) 110) (fun i _=>l.length-(intOf i).toNat)
 case atStart=>exact⟨0,aV _,rfl,hy,hc,j⟩
 case round=>
  clear hy hc j;obtain⟨k,hk,rfl,d,t,hi⟩:=hrel
  by_cases hlt:k<l.length
  ·have hI:=Lib.hid (Ls hlt);have hA:=bD (hok l[k] (dN _));obtain⟨⟨f1,f2,f3⟩,f4,f5,f6,_,_⟩:=hA;generalize hF:cz (l.take k)=F at *
   obtain⟨b,off,rfl,c0,c1,c2,c3,c4,c5,c6⟩:=Nk (h.below d) k hlt;generalize l[k]=A at *
   go_upto_region 5 with (fail);refine gB (fun W=>Code.wp _ _ _ _ W) fun W1 hd ha hD => ?_;clear hD c0 c1 c2 c3 c4 c5 c6;have y:=ae d hd;have hv:=t.ext hd;have hs:=hi.ext hd;have hK:w.heap.size+1<wr.heap.size:=t.lt;clear d t hi hd;obtain⟨gx,hg⟩:∃g,g=wr.heap.size:=⟨_,rfl⟩;rw[←hg] at ha hK ⊢;clear hg;obtain⟨N,hN⟩:∃N:Nat,A.fr=(N:Int):=⟨A.fr.toNat,by omega⟩;have hf:=Lib.hid hN;clear hN;have n:=ha.cell;go_upto_region 6 with (fail);clear n
   go_loopw [6] (fun i wr => ∃K:Nat,A.fr≤(K:Int)∧(K:Int)≤A.en∧i = .int .i64 K∧Below w.heap.size w wr∧aB wr gx (nX A) 99∧aB wr (w.heap.size+1) (fC (JV A K F)) 110∧aB wr w.heap.size (fC f0) 110) (fun i _=>(A.en-intOf i).toNat)
   case atStart=>exact⟨N,by have:=hf.out;omega,by have:=hf.out;omega,by rw[hf.out],y,ha,by rw[←hf.out,OP];exact hv,hs⟩
   case round=>
    clear y ha hv hs;obtain⟨K,hM,hQ,rfl,d,hx,ho,hr⟩:=hrel;have n:=hx.cell;unfold nX at n
    by_cases hKe:(K:Int)<A.en
    ·have hB:K<64:=by omega
     have hL:(K:Int)<64:=by omega
     have hh:Hid (K*6+6≤(fC (JV A K F)).size):=Lib.hid (by rw[jq];omega);have hP:IntKind.i64.wrap (A.ba+(K:Int))=A.ba+(K:Int):=bM _ (by omega);have hO:IntKind.i64.wrap (A.ba+(K:Int)-A.fr)=A.ba+(K:Int)-A.fr:=bM _ (by omega);have s:Hid (∀q:Int,q=(if 0≤A.fi then A.ba+(K:Int)-A.fr else 0)→bB (fC (JV A K F)) (K*6) [.bool true,.bool A.rd,.bool A.wr,.bool A.sh,.int .i64 A.fi,.int .i64 q]=fC (JV A ((K:Int)+1) F)):=Lib.hid (fun q hq=>by rw[←Tv hM,←QU _ K hB,hq];rfl);go_upto_region 9 with (refine gP rfl _ _ _ rfl (w.heap.size+1) (K*6) #[.bool true,.bool A.rd,.bool A.wr,.bool A.sh,.int .i64 A.fi,.int .i64 0] rfl rfl _ _ ho hh.out one_size (by simp[Value.oneCell']) ?_);intro W2 hb p;have m:Below w.heap.size w W2:=d.grown p d.size (fun k hk=>by cases hk;omega);have z:aB W2 gx (nX A) 99:=hx.grown p (fun e=>by have:=aJ e;omega);have hm:aB W2 w.heap.size (fC f0) 110:=hr.grown p (fun e=>by have:=aJ e;omega);clear d hx ho hr p n;have n:=z.cell;unfold nX at n
     by_cases hfi:0≤A.fi
     ·go_upto_region 7 with (refine aA rfl _ _ _ rfl (w.heap.size+1) (K*6+5) (.int .i64 (A.ba+(K:Int)-A.fr)) [.int .i64 (A.ba+(K:Int)-A.fr)] rfl rfl rfl _ _ hb (by rw[size_putAt];exact hh.out) int_size (by simp[Value.oneCell']) ?_);intro W3 hu o;have hp:Below w.heap.size w W3:=m.grown o m.size (fun k hk=>by cases hk;omega);have hC:aB W3 gx (nX A) 99:=z.grown o (fun e=>by have:=aJ e;omega);have hH:aB W3 w.heap.size (fC f0) 110:=hm.grown o (fun e=>by have:=aJ e;omega);have u:aB W3 (w.heap.size+1) (fC (JV A ((K:Int)+1) F)) 110:=by rw[←s.out _ (by rw[if_pos hfi]),←QX];exact hu
      clear m z hb hm hu o n s;go_wp2;go_roundw
      case rel=>exact⟨K+1,by omega,by omega,by go_num,hp,hC,u,hH⟩
      case measure=>simp[intOf];omega
     have u:aB W2 (w.heap.size+1) (fC (JV A ((K:Int)+1) F)) 110:=by rw[←s.out 0 (by rw[if_neg hfi])];exact hb
     clear hb s;go_wp2;go_roundw
     case rel=>exact⟨K+1,by omega,by omega,by go_num,m,z,u,hm⟩
     case measure=>simp[intOf];omega
    have hz:(K:Int)=A.en:=by omega
    have u:aB wr (w.heap.size+1) (fC (cz (l.take (k+1)))) 110:=by rw[hI.out,←hz];exact ho
    clear ho hz;go_wp2;go_roundw
    case rel=>exact⟨k+1,by omega,by go_num,d,u,hr⟩
    case measure=>simp[intOf];omega
  have hJ:k=l.length:=by omega
  subst hJ;rw[xQ] at t;have f:Hid ((fC (cz l)).size=384):=Lib.hid (jq _);have hj:Hid ((fC f0).size=384):=Lib.hid (jq _);have ht:(fC (cz l)).all (·.oneCell')=true:=zU _
  go_wp2_with (first | (refine gz rfl 110 (.tmp 3) rfl (w.heap.size+1) 0 rfl (fC (cz l)).toList t.rd _ underlying110 rfl (by rw[iI,f.out];exact ones_size) ?_) | (refine az rfl _ (.tmp 2) (.tmp 46) rfl w.heap.size (fC (cz l)) rfl rfl _ _ hi (by rw[f.out,hj.out]) (by rw[f.out];exact ones_size) ht ?_))
  intro w5 hG hw;have hn:Below w.heap.size w w5:=d.grown hw d.size (fun k hk=>by cases hk;omega);go_wp2;refine bodyPost_ret (v:=.agg (fC (cz l))) (eF results49 _ _ w.heap.size _ _ _ rfl hG underlying110 rfl (by rw[f.out];exact ones_size)) rfl ?_;exact⟨rfl,hn⟩
theorem Fy (a:Ar) (w:World):Calls Tryz.prog 103 #[.agg (nX a)] w fun r w'=>r = .returned (.int .i64 (aQ a))∧Below w.heap.size w w':=by
 unfold nX;go_enter func103,ntmps103;go_upto_region 1 with (fail);refine gB (fun W=>Code.wp _ _ _ _ W) fun W0 b e f => ?_;clear f;have d:=e.cell
 by_cases g1:a.fr<0
 ·have hz:Hid (aQ a=3):=Lib.hid (by unfold aQ;rw[if_pos (by omega)]);go_wp2;go_ret;exact⟨aT hz.out.symm,b⟩
 by_cases g2:64<a.en
 ·have hz:Hid (aQ a=3):=Lib.hid (by unfold aQ;rw[if_pos (by omega)]);go_wp2;go_ret;exact⟨aT hz.out.symm,b⟩
 by_cases g3:a.en≤a.fr
 ·have hz:Hid (aQ a=3):=Lib.hid (by unfold aQ;rw[if_pos (by omega)]);go_wp2;go_ret;exact⟨aT hz.out.symm,b⟩
 by_cases g4:a.fi < -1
 ·have hz:Hid (aQ a=3):=Lib.hid (by unfold aQ;rw[if_pos (by omega)]);go_wp2;go_ret;exact⟨aT hz.out.symm,b⟩
 by_cases g5:4<a.fi
 ·have hz:Hid (aQ a=3):=Lib.hid (by unfold aQ;rw[if_pos (by omega)]);go_wp2;go_ret;exact⟨aT hz.out.symm,b⟩
 by_cases g6:a.ba<0
 ·have hz:Hid (aQ a=3):=Lib.hid (by unfold aQ;rw[if_pos (by omega)]);go_wp2;go_ret;exact⟨aT hz.out.symm,b⟩
 have c:¬(a.fr<0∨a.en≤a.fr∨64<a.en∨a.fi < -1∨5≤a.fi∨a.ba<0):=by omega
 have h:IntKind.i64.wrap (a.en-a.fr)=a.en-a.fr:=bM _ (by omega);have g:IntKind.i64.wrap (12-(a.en-a.fr))=12-(a.en-a.fr):=bM _ (by omega)
 by_cases f1:a.fi = -1
 ·have f1' : (a.fi == -1)=true:=by simpa using f1
  by_cases f2:a.ba=0
  ·have f2' : ¬0<a.ba:=by omega
   cases f3:a.sh
   ·have hz:Hid (aQ a=0):=Lib.hid (by unfold aQ;rw[if_neg c,if_neg (by rw[f3];simp;omega)]);have f4:¬0≤a.fi:=by omega
    clear c f1 f2;rw[f3] at d;go_wp2;go_ret;exact⟨aT hz.out.symm,b⟩
   have hz:Hid (aQ a=7):=Lib.hid (by unfold aQ;rw[if_neg c,if_pos (.inl ⟨by omega,.inr f3⟩)]);clear c f1 f2;rw[f3] at d;go_wp2;go_ret;exact⟨aT hz.out.symm,b⟩
  have hz:Hid (aQ a=7):=Lib.hid (by unfold aQ;rw[if_neg c,if_pos (.inl ⟨by omega,.inl f2⟩)]);have f2' : 0<a.ba:=by omega
  clear c f1 f2;go_wp2;go_ret;exact⟨aT hz.out.symm,b⟩
 have f1' : 0≤a.fi:=by omega
 have f1'' : (a.fi == -1)=false:=by simpa using f1
 by_cases f2:12-(a.en-a.fr)<a.ba
 ·have hz:Hid (aQ a=7):=Lib.hid (by unfold aQ;rw[if_neg c,if_pos (.inr ⟨f1',f2⟩)]);clear c f1;go_wp2;go_ret;exact⟨aT hz.out.symm,b⟩
 have hz:Hid (aQ a=0):=Lib.hid (by unfold aQ;rw[if_neg c,if_neg (by omega)]);clear c f1;go_wp2;go_ret;exact⟨aT hz.out.symm,b⟩
theorem WC (p q:Pg) (b:Bool) (h:(p==q)=b) (W:World):(Op.equalIn 10000 109 (.agg #[.bool true,.bool p.rd,.bool p.wr,.bool p.sh,.int .i64 p.fi,.int .i64 p.pg]) (.agg #[.bool true,.bool q.rd,.bool q.wr,.bool q.sh,.int .i64 q.fi,.int .i64 q.pg])).run Tryz.prog W = .ok b W:=by
 rw[←h,Vv]
 by_cases h3:p.rd=q.rd
 ·by_cases h4:p.wr=q.wr
  ·by_cases h5:p.sh=q.sh
   ·by_cases h6:(p.fi==q.fi)=true
    ·by_cases h7:p.pg=q.pg<;>simp[go_sem,h3,h4,h5,h6,h7]
    ·simp[go_sem,h3,h4,h5,h6]
   ·simp[go_sem,h3,h4,h5]
  ·simp[go_sem,h3,h4]
 ·simp[go_sem,h3]
theorem VA (q:Pg) (x:Int) (W:World):(Op.equalIn 10000 109 (.agg #[.bool false,.bool false,.bool false,.bool false,.int .i64 0,.int .i64 x]) (.agg #[.bool true,.bool q.rd,.bool q.wr,.bool q.sh,.int .i64 q.fi,.int .i64 q.pg])).run Tryz.prog W = .ok false W:=by
 simp[go_sem]
theorem NQ (f:Nat→Option Pg) (k:Nat) (hk:k<64):(fC f).extract (k*6) (k*6+6)=xV (f k):=by
 apply lS;intro i
 by_cases hi:i<6
 ·rw[Array.getElem?_extract,if_pos (by rw[jq];omega)];have:=jl qc 6 nK (NF f) k (by rw[xg];exact hk) i hi;have e:(fC f)[k*6+i]?=((NF f).flatMap qc)[k*6+i]?:=by simp[fC,NM]
  have e2:(NF f)[k]'(by rw[xg];exact hk)=f k:=by simp[NF]
  rw[e,this,e2];simp[qc]
 ·rw[lg (by simp;omega),lg (by simp[xV];omega)]
theorem zw (f:Nat→Option Pg) (k j:Nat) (hk:k<64) (u:Value) (h:(qc (f k))[j]?=some u) (hj:j<6):(fC f)[k*6+j]?=some u:=by
 have:=jl qc 6 nK (NF f) k (by rw[xg];exact hk) j hj;have e:(fC f)[k*6+j]?=((NF f).flatMap qc)[k*6+j]?:=by simp[fC,NM]
 have e2:(NF f)[k]'(by rw[xg];exact hk)=f k:=by simp[NF]
 rw[e,this,e2];exact h
theorem CO (f:Nat→Option Pg) (k:Nat) (hk:k<64) (o:Option Pg) (ho:f k=o) (w:World):(Instr.index 110 (.agg (fC f)) (.int .i64 k)).run Tryz.prog w = .ok (.agg (xV o)) w:=
 wM underlying110 underlying109 rfl one_size _ k _ hk (by rw[←ho];exact NQ f k hk) _ w
theorem uO {a:Act} (hg:o.guard=none) (t t' : TypeId) (x y:Operand) (ho:o.op = .binOp .eql t x y t') (vx vy:Value) (hx:a.eval x=vx) (hy:a.eval y=vy) (B:Bool)
 (hr:(do eqGuard .eql t x y vx vy;binOp .eql t vx vy:Sem Value).run P w = .ok (.bool B) w) (h:wpList P ops Q rest (a.put o.dst (.bool B)) w):wpList P ops Q (o::rest) a w:=
 wpList_plain hg fun K hK=>by unfold Oper.wp;rw[pF ho hx hy hr];exact hK _ _ h
theorem RF (p q:Pg) (b:Bool) (h:(p==q)=b) (x y:Operand) (W:World):(do eqGuard .eql 109 x y (.agg #[.bool true,.bool p.rd,.bool p.wr,.bool p.sh,.int .i64 p.fi,.int .i64 p.pg]) (.agg #[.bool true,.bool q.rd,.bool q.wr,.bool q.sh,.int .i64 q.fi,.int .i64 q.pg]);binOp .eql 109 (.agg #[.bool true,.bool p.rd,.bool p.wr,.bool p.sh,.int .i64 p.fi,.int .i64 p.pg]) (.agg #[.bool true,.bool q.rd,.bool q.wr,.bool q.sh,.int .i64 q.fi,.int .i64 q.pg]):Sem Value).run Tryz.prog W = .ok (.bool b) W:=by
 have hE:=WC p q b h;simp[go_sem,hE]
theorem Oa (q:Pg) (z:Int) (x y:Operand) (W:World):(do eqGuard .eql 109 x y (.agg #[.bool false,.bool false,.bool false,.bool false,.int .i64 0,.int .i64 z]) (.agg #[.bool true,.bool q.rd,.bool q.wr,.bool q.sh,.int .i64 q.fi,.int .i64 q.pg]);binOp .eql 109 (.agg #[.bool false,.bool false,.bool false,.bool false,.int .i64 0,.int .i64 z]) (.agg #[.bool true,.bool q.rd,.bool q.wr,.bool q.sh,.int .i64 q.fi,.int .i64 q.pg]):Sem Value).run Tryz.prog W = .ok (.bool false) W:=by
 have hE:=VA q z;simp[go_sem,hE]
theorem Au (f:Nat→Option Pg) (w:World) (hf:∀i p,f i=some p→0≤p.pg∧p.pg≤100) :
  Calls Tryz.prog 123 #[.agg (fC f)] w fun r w' => ∃v,r = .returned v∧Own w' w.heap.size 99 7 v (kR f 64).length ((kR f 64).flatMap mM)∧Below w.heap.size w w':=by
 have hM:=Lib.hid (jq f);go_enter func123,ntmps123;go_upto_region 1 with (fail);refine gB (fun W=>Code.wp _ _ _ _ W) fun W0 h7 hJ hv => ?_;clear hv;go_upto_region 3 with (refine ax _ _ rfl _ 0 rfl rfl _ hJ.rd _ underlying110 rfl (by rw[iI,hM.out];exact ones_size) ?_)
 go_loopw [9,3] (fun i u wr => ∃k:Nat,k≤64∧i = .int .i64 k∧Below w.heap.size w wr∧aB wr w.heap.size (fC f) 110∧Own wr w.heap.size 99 7 u (kR f k).length ((kR f k).flatMap mM)) (fun i _ _=>64-(intOf i).toNat)
 case atStart=>exact⟨0,aV _,rfl,h7,hJ,by simpa[kR] using Own.nil _ _ _ _⟩
 case round=>
  clear h7 hJ;obtain⟨k,hk,rfl,a,o,b⟩:=hrel
  by_cases hlt:k<64
  ·have kf:(k:Int)<64:=by omega
   have ki:=IM f k;cases hfk:f k with
   | none=>
    have hQ:=CO f k hlt none hfk;unfold xV oR oW oH oF oP at hQ;have hb:=Lib.hid (Sg hfk);go_upto_region 5 with (fail);refine gB (fun W=>Code.wp _ _ _ _ W) fun W1 hq hn hO => ?_;have hg:=hn.cell;have hW:=ae a hq;have h6:=o.ext hq;have hA:=b.below hq;clear hO hq a o b;rw[←hb.out] at hA;go_wp2;go_roundw
    case rel=>exact⟨k+1,by omega,by go_num,hW,h6,hA⟩
    case measure=>simp[intOf];omega
   | some p=>
    have hQ:=CO f k hlt (some p) hfk;unfold xV oR oW oH oF oP at hQ;go_upto_region 5 with (fail);refine gB (fun W=>Code.wp _ _ _ _ W) fun W1 hq hn hO => ?_;have a:=ae a hq;have o:=o.ext hq;have b:=b.below hq;clear hO hq;obtain⟨gx,h5⟩:∃g,g=wr.heap.size:=⟨_,rfl⟩;rw[←h5] at hn ⊢;clear h5;generalize hacc:kR f k=acc at *
    obtain⟨au,cu,rfl,_⟩:=b.rd;have hg:=hn.cell;have kh:IntKind.i64.wrap ((k:Int)+1)=(k:Int)+1:=bM _ (by omega)
    by_cases hk0:k=0
    ·have hv:lW f k p=false:=by rw[hk0];rfl
     have hb:Hid (kR f (k+1)=acc++[fD k p]):=Lib.hid (by rw[CB hfk hv,hacc]);have h4:¬(0:Int)<(k:Int):=by omega
     have h3:¬0<k:=by omega
     clear hk0 hv hfk hacc;go_upto_region 14 with (fail)
     go_wp2_with (at_builtin;refine fq rfl _ _ 50 rfl w.heap.size 99 _ 7 40 underlying50 area_info rfl (by decide) _ acc.length (acc.flatMap mM) rfl (b.alloc _) (some ⟨W1.heap.size,0,none⟩) 1 1 (mM (fD k p)) rfl (fun h=>(by cases h)) (ay _) rfl (dP.new _ (nX (fD k p)) _) (fun u hu=>qF [fD k p] u (by simpa using hu)) (by unfold maxLen;omega) (by omega) (cZ a.size _) ?_)
     intro v W6 d l;have t:Below w.heap.size w W6:=(a.alloc a.size _).grown l (cZ a.size _) (b.alloc (.cells (nX (fD k p)) 99)).ge;have x:aB W6 w.heap.size (fC f) 110:=kv (o.alloc (.cells (nX (fD k p)) 99)) (b.alloc (.cells (nX (fD k p)) 99)) (by decide) l;have s:Own W6 w.heap.size 99 7 v (kR f (k+1)).length ((kR f (k+1)).flatMap mM):=by rw[hb.out,eY,jH];simpa using d
     clear d l;go_wp2;go_roundw
     case rel=>exact⟨k+1,by omega,by go_num,t,x,s⟩
     case measure=>simp[intOf];omega
    obtain⟨m,hm⟩:∃m,k=m+1:=⟨k-1,by omega⟩;have h4:(0:Int)<(k:Int):=by omega
    have h3:0<k:=by omega
    have kg:IntKind.i64.wrap ((k:Int)-1)=(m:Int):=by rw[bM _ (by omega)];omega
    have h1:m<64:=by omega
    have kb:(m:Int)<64:=by omega
    have hH:∀z,lW f k z=(match f m with | some q=>pU z q==z | none=>false):=fun z=>by subst hm;rfl
    have c:∀j u,(qc (f m))[j]?=some u→j<6→W1.cell? ⟨w.heap.size,m*6+j,none⟩=some u:=fun j u h hj=>by rw[o.cell];exact zw f m j h1 u h hj
    have h0:=Lib.hid hm;clear hm hk0;cases hfm:f m with
    | none=>
     have hv:lW f k p=false:=by rw[hH,hfm]
     have hb:Hid (kR f (k+1)=acc++[fD k p]):=Lib.hid (by rw[CB hfk hv,hacc]);rw[hfm] at c;have d0:=c 0 _ rfl (by decide);have d1:=c 1 _ rfl (by decide);have d2:=c 2 _ rfl (by decide);have d3:=c 3 _ rfl (by decide);have d4:=c 4 _ rfl (by decide);have d5:=c 5 _ rfl (by decide);simp only[iq,Option.isSome,oR,oW,oH,oF,oP] at d0 d1 d2 d3 d4 d5;clear hH c hv hfk hacc;have hZ:IntKind.i64.wrap (0+1)=1:=by rw[bM _ (by omega)];try rfl
     go_upto_region 9 with (fail);refine gB (fun W=>Code.wp _ _ _ _ W) fun W2 hl hc hN => ?_;have a:=ae a hl;have hd:=o.ext hl;have y:=b.below hl;have hh:=hn.ext hl;have hD:gx<W1.heap.size:=hn.lt;have hR:w.heap.size<W1.heap.size:=o.lt;have hS:=a.size;clear hN hl o b hn hg d0 d1 d2 d3 d4 d5;have hg:=hh.cell
     by_cases hfi:0≤p.fi
     ·obtain⟨gy,hs⟩:∃g,g=W1.heap.size:=⟨_,rfl⟩;rw[←hs] at hc hD hR ⊢;clear hs;have hU:=hc.cell;go_upto_region 11 with (refine aA rfl _ _ _ rfl gy 5 (.int .i64 (1)) [.int .i64 (1)] rfl rfl rfl _ _ hc (by simp) int_size (by simp[Value.oneCell']) ?_);intro W3 hy ha;have hx:aB W3 gy #[.bool false,.bool (false),.bool (false),.bool (false),.int .i64 (0),.int .i64 (1)] 109:=hy;have a:=a.grown ha a.size (fun k hk=>by cases hk;omega);have ht:aB W3 w.heap.size (fC f) 110:=hd.grown ha (fun e=>by have:=aJ e;omega);have hz:aB W3 gx #[.bool true,.bool p.rd,.bool p.wr,.bool p.sh,.int .i64 p.fi,.int .i64 p.pg] 109:=hh.grown ha (fun e=>by have:=aJ e;omega);have b:=ak y hc (by decide) ha;have o:=ht;clear hc hy hd hh y ha hg hU ht hS;have hE:=Oa p 1;go_upto_region 12 with (first | (refine ax _ _ rfl _ 0 rfl rfl _ hx.rd _ underlying109 rfl one_size ?_) | (refine ax _ _ rfl _ 0 rfl rfl _ hz.rd _ underlying109 rfl one_size ?_) | (refine uO rfl _ _ _ _ rfl _ _ rfl rfl _ (hE _ _ _) ?_));clear hE hx;have hg:=hz.cell;go_upto_region 14 with (fail)
      go_wp2_with (at_builtin;refine fq rfl _ _ 50 rfl w.heap.size 99 _ 7 40 underlying50 area_info rfl (by decide) _ acc.length (acc.flatMap mM) rfl (b.alloc _) (some ⟨W3.heap.size,0,none⟩) 1 1 (mM (fD k p)) rfl (fun h=>(by cases h)) (ay _) rfl (dP.new _ (nX (fD k p)) _) (fun u hu=>qF [fD k p] u (by simpa using hu)) (by unfold maxLen;omega) (by omega) (cZ a.size _) ?_)
      intro v W6 d l;have t:Below w.heap.size w W6:=(a.alloc a.size _).grown l (cZ a.size _) (b.alloc (.cells (nX (fD k p)) 99)).ge;have x:aB W6 w.heap.size (fC f) 110:=kv (o.alloc (.cells (nX (fD k p)) 99)) (b.alloc (.cells (nX (fD k p)) 99)) (by decide) l;have s:Own W6 w.heap.size 99 7 v (kR f (k+1)).length ((kR f (k+1)).flatMap mM):=by rw[hb.out,eY,jH];simpa using d
      clear d l;go_wp2;go_roundw
      case rel=>exact⟨k+1,by omega,by go_num,t,x,s⟩
      case measure=>simp[intOf];omega
     have o:=hd;have b:=y;clear hd y;have hI : ¬0≤p.fi:=hfi;have hE:=Oa p 0;go_upto_region 12 with (first | (refine ax _ _ rfl _ 0 rfl rfl _ hc.rd _ underlying109 rfl one_size ?_) | (refine ax _ _ rfl _ 0 rfl rfl _ hh.rd _ underlying109 rfl one_size ?_) | (refine uO rfl _ _ _ _ rfl _ _ rfl rfl _ (hE _ _ _) ?_));clear hE hc;have hg:=hh.cell;go_upto_region 14 with (fail)
     go_wp2_with (at_builtin;refine fq rfl _ _ 50 rfl w.heap.size 99 _ 7 40 underlying50 area_info rfl (by decide) _ acc.length (acc.flatMap mM) rfl (b.alloc _) (some ⟨W2.heap.size,0,none⟩) 1 1 (mM (fD k p)) rfl (fun h=>(by cases h)) (ay _) rfl (dP.new _ (nX (fD k p)) _) (fun u hu=>qF [fD k p] u (by simpa using hu)) (by unfold maxLen;omega) (by omega) (cZ a.size _) ?_)
     intro v W6 d l;have t:Below w.heap.size w W6:=(a.alloc a.size _).grown l (cZ a.size _) (b.alloc (.cells (nX (fD k p)) 99)).ge;have x:aB W6 w.heap.size (fC f) 110:=kv (o.alloc (.cells (nX (fD k p)) 99)) (b.alloc (.cells (nX (fD k p)) 99)) (by decide) l;have s:Own W6 w.heap.size 99 7 v (kR f (k+1)).length ((kR f (k+1)).flatMap mM):=by rw[hb.out,eY,jH];simpa using d
     clear d l;go_wp2;go_roundw
     case rel=>exact⟨k+1,by omega,by go_num,t,x,s⟩
     case measure=>simp[intOf];omega
    | some q=>
     have kj:=hf m q hfm;have hi:=hH p;rw[hfm] at hi c;simp only[] at hi;have d0:=c 0 _ rfl (by decide);have d1:=c 1 _ rfl (by decide);have d2:=c 2 _ rfl (by decide);have d3:=c 3 _ rfl (by decide);have d4:=c 4 _ rfl (by decide);have d5:=c 5 _ rfl (by decide);simp only[iq,Option.isSome,oR,oW,oH,oF,oP] at d0 d1 d2 d3 d4 d5;generalize hBe:(pU p q==p)=B at hi;have hw:=Lib.hid hi;clear hH c hi;have kd:0≤p.fi→((⟨q.rd,q.wr,q.sh,q.fi,q.pg+1⟩:Pg)==p)=B:=fun h=>by rw[←hBe];unfold pU;rw[if_pos h]
     have ke:¬0≤p.fi→(q==p)=B:=fun h=>by rw[←hBe];unfold pU;rw[if_neg h]
     clear hBe;have hZ:IntKind.i64.wrap (q.pg+1)=(q.pg+1):=by rw[bM _ (by omega)];try rfl
     go_upto_region 9 with (fail);refine gB (fun W=>Code.wp _ _ _ _ W) fun W2 hl hc hN => ?_;have a:=ae a hl;have hd:=o.ext hl;have y:=b.below hl;have hh:=hn.ext hl;have hD:gx<W1.heap.size:=hn.lt;have hR:w.heap.size<W1.heap.size:=o.lt;have hS:=a.size;clear hN hl o b hn hg d0 d1 d2 d3 d4 d5;have hg:=hh.cell
     by_cases hfi:0≤p.fi
     ·obtain⟨gy,hs⟩:∃g,g=W1.heap.size:=⟨_,rfl⟩;rw[←hs] at hc hD hR ⊢;clear hs;have hU:=hc.cell;go_upto_region 11 with (refine aA rfl _ _ _ rfl gy 5 (.int .i64 ((q.pg+1))) [.int .i64 ((q.pg+1))] rfl rfl rfl _ _ hc (by simp) int_size (by simp[Value.oneCell']) ?_);intro W3 hy ha;have hx:aB W3 gy #[.bool true,.bool (q.rd),.bool (q.wr),.bool (q.sh),.int .i64 (q.fi),.int .i64 ((q.pg+1))] 109:=hy;have a:=a.grown ha a.size (fun k hk=>by cases hk;omega);have ht:aB W3 w.heap.size (fC f) 110:=hd.grown ha (fun e=>by have:=aJ e;omega);have hz:aB W3 gx #[.bool true,.bool p.rd,.bool p.wr,.bool p.sh,.int .i64 p.fi,.int .i64 p.pg] 109:=hh.grown ha (fun e=>by have:=aJ e;omega);have b:=ak y hc (by decide) ha;have o:=ht;clear hc hy hd hh y ha hg hU ht hS;have hE:=RF ⟨q.rd,q.wr,q.sh,q.fi,q.pg+1⟩ p B (kd hfi);go_upto_region 12 with (first | (refine ax _ _ rfl _ 0 rfl rfl _ hx.rd _ underlying109 rfl one_size ?_) | (refine ax _ _ rfl _ 0 rfl rfl _ hz.rd _ underlying109 rfl one_size ?_) | (refine uO rfl _ _ _ _ rfl _ _ rfl rfl _ (hE _ _ _) ?_));clear hE hx;have hg:=hz.cell
      by_cases hB:B=true
      ·subst hB;have hb:=Lib.hid (Rv hfk hw.out);rw[hacc] at hb;have ka:0<acc.length:=by have:=SA f hfm;rw[←h0.out,hacc] at this;exact this
       obtain⟨n,hC⟩:∃n,acc.length=n+1:=⟨acc.length-1,by omega⟩;have hP:n<acc.length:=by omega
       have hL:Hid (vX acc ((k:Int)+1)=acc.set n { acc[n] with en:=(k:Int)+1 }):=Lib.hid (Kg hC _);have h9:(n:Int)<(acc.length:Int):=by omega
       have h8:IntKind.i64.wrap ((acc.length:Int)-1)=(n:Int):=by rw[bM _ (by omega)];omega
       obtain⟨g,off1,cap1,hK,hX,kc,⟨csg,hp⟩,hF,hT,hr⟩:=wu sN (by decide) rfl b n hP 1 (by decide) (.int .i64 ((k:Int)+1)) { acc[n] with en:=(k:Int)+1 } rfl;cases hK;have hV:=hF 1 _ rfl;have hG:w.heap.size≠g:=by intro e;subst e;unfold aB at o hp;rw[o] at hp;simp at hp
       clear hF hC hfk hacc hfm;go_upto_region 15 with (fail);have t:Below w.heap.size w (W3.setCell ⟨g,off1+n*7+1,none⟩ (.int .i64 ((k:Int)+1))):=a.setCell hX _;have x:aB (W3.setCell ⟨g,off1+n*7+1,none⟩ (.int .i64 ((k:Int)+1))) w.heap.size (fC f) 110:=o.setCell_other _ _ (by simpa using hG);have s:Own (W3.setCell ⟨g,off1+n*7+1,none⟩ (.int .i64 ((k:Int)+1))) w.heap.size 99 7 (.slice (some ⟨g,off1,none⟩) acc.length cu) (kR f (k+1)).length ((kR f (k+1)).flatMap mM):=by rw[hb.out,hL.out,bH];exact hr
       clear hr b a o hT hV hp hg;go_wp2;go_roundw
       case rel=>exact⟨k+1,by omega,by go_num,t,x,s⟩
       case measure=>simp[intOf];omega
      have hY:B=false:=by simpa using hB
      subst hY;have hb:Hid (kR f (k+1)=acc++[fD k p]):=Lib.hid (by rw[CB hfk hw.out,hacc]);clear hfk hacc hfm hB;go_upto_region 14 with (fail)
      go_wp2_with (at_builtin;refine fq rfl _ _ 50 rfl w.heap.size 99 _ 7 40 underlying50 area_info rfl (by decide) _ acc.length (acc.flatMap mM) rfl (b.alloc _) (some ⟨W3.heap.size,0,none⟩) 1 1 (mM (fD k p)) rfl (fun h=>(by cases h)) (ay _) rfl (dP.new _ (nX (fD k p)) _) (fun u hu=>qF [fD k p] u (by simpa using hu)) (by unfold maxLen;omega) (by omega) (cZ a.size _) ?_)
      intro v W6 d l;have t:Below w.heap.size w W6:=(a.alloc a.size _).grown l (cZ a.size _) (b.alloc (.cells (nX (fD k p)) 99)).ge;have x:aB W6 w.heap.size (fC f) 110:=kv (o.alloc (.cells (nX (fD k p)) 99)) (b.alloc (.cells (nX (fD k p)) 99)) (by decide) l;have s:Own W6 w.heap.size 99 7 v (kR f (k+1)).length ((kR f (k+1)).flatMap mM):=by rw[hb.out,eY,jH];simpa using d
      clear d l;go_wp2;go_roundw
      case rel=>exact⟨k+1,by omega,by go_num,t,x,s⟩
      case measure=>simp[intOf];omega
     have o:=hd;have b:=y;clear hd y;have hI : ¬0≤p.fi:=hfi;have hE:=RF q p B (ke hI);go_upto_region 12 with (first | (refine ax _ _ rfl _ 0 rfl rfl _ hc.rd _ underlying109 rfl one_size ?_) | (refine ax _ _ rfl _ 0 rfl rfl _ hh.rd _ underlying109 rfl one_size ?_) | (refine uO rfl _ _ _ _ rfl _ _ rfl rfl _ (hE _ _ _) ?_));clear hE hc;have hg:=hh.cell
     by_cases hB:B=true
     ·subst hB;have hb:=Lib.hid (Rv hfk hw.out);rw[hacc] at hb;have ka:0<acc.length:=by have:=SA f hfm;rw[←h0.out,hacc] at this;exact this
      obtain⟨n,hC⟩:∃n,acc.length=n+1:=⟨acc.length-1,by omega⟩;have hP:n<acc.length:=by omega
      have hL:Hid (vX acc ((k:Int)+1)=acc.set n { acc[n] with en:=(k:Int)+1 }):=Lib.hid (Kg hC _);have h9:(n:Int)<(acc.length:Int):=by omega
      have h8:IntKind.i64.wrap ((acc.length:Int)-1)=(n:Int):=by rw[bM _ (by omega)];omega
      obtain⟨g,off1,cap1,hK,hX,kc,⟨csg,hp⟩,hF,hT,hr⟩:=wu sN (by decide) rfl b n hP 1 (by decide) (.int .i64 ((k:Int)+1)) { acc[n] with en:=(k:Int)+1 } rfl;cases hK;have hV:=hF 1 _ rfl;have hG:w.heap.size≠g:=by intro e;subst e;unfold aB at o hp;rw[o] at hp;simp at hp
      clear hF hC hfk hacc hfm;go_upto_region 15 with (fail);have t:Below w.heap.size w (W2.setCell ⟨g,off1+n*7+1,none⟩ (.int .i64 ((k:Int)+1))):=a.setCell hX _;have x:aB (W2.setCell ⟨g,off1+n*7+1,none⟩ (.int .i64 ((k:Int)+1))) w.heap.size (fC f) 110:=o.setCell_other _ _ (by simpa using hG);have s:Own (W2.setCell ⟨g,off1+n*7+1,none⟩ (.int .i64 ((k:Int)+1))) w.heap.size 99 7 (.slice (some ⟨g,off1,none⟩) acc.length cu) (kR f (k+1)).length ((kR f (k+1)).flatMap mM):=by rw[hb.out,hL.out,bH];exact hr
      clear hr b a o hT hV hp hg;go_wp2;go_roundw
      case rel=>exact⟨k+1,by omega,by go_num,t,x,s⟩
      case measure=>simp[intOf];omega
     have hY:B=false:=by simpa using hB
     subst hY;have hb:Hid (kR f (k+1)=acc++[fD k p]):=Lib.hid (by rw[CB hfk hw.out,hacc]);clear hfk hacc hfm hB;go_upto_region 14 with (fail)
     go_wp2_with (at_builtin;refine fq rfl _ _ 50 rfl w.heap.size 99 _ 7 40 underlying50 area_info rfl (by decide) _ acc.length (acc.flatMap mM) rfl (b.alloc _) (some ⟨W2.heap.size,0,none⟩) 1 1 (mM (fD k p)) rfl (fun h=>(by cases h)) (ay _) rfl (dP.new _ (nX (fD k p)) _) (fun u hu=>qF [fD k p] u (by simpa using hu)) (by unfold maxLen;omega) (by omega) (cZ a.size _) ?_)
     intro v W6 d l;have t:Below w.heap.size w W6:=(a.alloc a.size _).grown l (cZ a.size _) (b.alloc (.cells (nX (fD k p)) 99)).ge;have x:aB W6 w.heap.size (fC f) 110:=kv (o.alloc (.cells (nX (fD k p)) 99)) (b.alloc (.cells (nX (fD k p)) 99)) (by decide) l;have s:Own W6 w.heap.size 99 7 v (kR f (k+1)).length ((kR f (k+1)).flatMap mM):=by rw[hb.out,eY,jH];simpa using d
     clear d l;go_wp2;go_roundw
     case rel=>exact⟨k+1,by omega,by go_num,t,x,s⟩
     case measure=>simp[intOf];omega
  have h2:k=64:=by omega
  subst h2;go_wp2;go_ret;exact⟨_,rfl,b,a⟩
theorem Uu (f:Nat→Option Pg) (m:List Ar) (hm:okF none m) (hf:∀i:Nat,i<64→f i=onA m i) (hf' : ∀i p,f i=some p→0≤p.pg∧p.pg≤100) (w:World) :
  Calls Tryz.prog 104 #[.agg (fC f)] w fun r w' => ∃v,r = .returned (.tuple #[v,.int .i64 (Dc m.length)])∧Own w' w.heap.size 99 7 v (if 16<m.length then [] else m).length ((if 16<m.length then [] else m).flatMap mM)∧Below w.heap.size w w':=by
 have c:=Lib.hid (jq f);have g:=IM f 64;rw[Nj hm hf] at g;go_enter func104,ntmps104;go_upto_region 1 with (fail);refine gB (fun W=>Code.wp _ _ _ _ W) fun W0 d e k => ?_;clear k
 go_wp2_with (refine ax _ _ rfl _ 0 rfl rfl _ e.rd _ underlying110 rfl (by rw[iI,c.out];exact ones_size) ?_)
 refine (Au f _ hf').mono ?_;rintro r w1 ⟨v1,rfl,a,j⟩;rw[Nj hm hf] at a;have b:=ae d j;replace a:=a.mono d.size;obtain⟨a1,c1,rfl,_⟩:=a.rd;clear d e j
 by_cases h:16<m.length
 ·have hi:(16:Int)<(m.length:Int):=by omega
  have hd:Hid (Dc m.length=4):=Lib.hid (by unfold Dc;rw[if_pos h]);go_wp2;go_ret2;exact⟨.slice none 0 0,by first | (rw[hd.out];done) | (rw[hd.out];rfl),by first | exact Own.nil _ _ _ _ | (rw[if_pos h];exact Own.nil _ _ _ _),b⟩
 have hi:¬(16:Int)<(m.length:Int):=by omega
 have hd:Hid (Dc m.length=0):=Lib.hid (by unfold Dc;rw[if_neg h]);go_wp2;go_ret2;exact⟨.slice a1 m.length c1,by first | (rw[hd.out];done) | (rw[hd.out];rfl),by first | exact a | (rw[if_neg h];exact a),b⟩
theorem yc {l:Operand} (ho:o.op = .slice t x (some l) (some h) none) (hx:ρ x = .slice (some ⟨b,off,none⟩) n c) (hl:ρ l = .int .i64 O) (hh:ρ h = .int .i64 ((O:Int)+2))
 (ht:P.underlying t=some (.slice (P.elem t))) (hs:(P.info? (P.elem t)).map (·.size)=some sz) (hO:O+1<n) (hn:n≤c) :
  (execOp ρ o).run P w = .ok (.value (.slice (some ⟨b,off+O*sz,none⟩) 2 (c-O))) w:=by
 have a:(Go.sizeOf (P.elem t)).run P w = .ok sz w:=by
  cases hq:P.info? (P.elem t) with
  | none=>simp[hq] at hs
  | some i=>
   have hz:i.size=sz:=by simpa[hq] using hs
   simp[Go.sizeOf,typeInfo,run_program,hq,hz]
 unfold execOp;simp only[ho,hx,hl,hh,Option.map];rw[kC,run_sliceAt_slice w t _ _ _ _ ht,run_slice_lh w t _ n c ht .i64 .i64 O (O+2) (by omega) (by omega) (by omega),a];have e1:((O:Int)+2).toNat-(O:Int).toNat=2:=by omega
 have e2:((O:Int)+2).toNat-O=2:=by omega
 simp[sliced,e1,e2,Addr.add,show ¬c=O by omega,go_sem]
theorem VP {l:List Ar} (h:dP w (some ⟨b,off,none⟩) (l.flatMap mM)) {m:Nat} (hm:m+1<l.length):dP w (some ⟨b,off+m*7,none⟩) ([l[m],l[m+1]].flatMap mM):=by
 have h1:=Ee h m (by omega);have h2:=Ee h (m+1) hm;intro j u hj;refine⟨b,off+m*7,rfl,?_⟩;simp only[lX,HZ,mY] at hj
 by_cases c:j<7
 ·rw[kY (by rw[sN];exact c)] at hj;exact h1 j u hj
 rw[kK (by rw[sN];omega),sN] at hj;have:=h2 _ u hj;rwa [show off+(m+1)*7+(j-7)=off+m*7+j by omega] at this
theorem EM (l:List Ar) (a:Option Addr) (c:Nat) (w:World) (h:VX w a c l) :
  Calls Tryz.prog 85 #[.slice a l.length c] w fun e w'=>e = .returned (.agg (Kr (bI l)))∧Below w.heap.size w w':=by
 have hV:=h.le;have h2:=bi h.le h.mx;unfold maxLen at h2;have hE:=h.rd;go_enter func85,ntmps85;go_upto_region 1 with (fail);refine gB (fun W=>Code.wp _ _ _ _ W) fun W0 d n h1 => ?_;clear h1
 by_cases h16:16<l.length
 ·have hX : (16:Int)<(l.length:Int):=by omega
  have hz:Hid (bI l=(4,0)):=Lib.hid (by unfold bI;rw[if_pos h16])
  go_wp2_with (refine az rfl _ _ _ rfl w.heap.size #[.int .i64 (4),.int .i64 (0)] rfl rfl _ _ n rfl fau_size (mO _ _) ?_)
  intro w5 ha q;have p:Below w.heap.size w w5:=d.grown q d.size (fun k hk=>by cases hk;exact ay _);go_wp2;refine bodyPost_ret (v:=.agg #[.int .i64 (4),.int .i64 (0)]) (eF results85 _ _ w.heap.size _ _ _ rfl ha underlying150 rfl fau_size) rfl ?_;exact⟨by rw[hz.out];rfl,p⟩
 have hX : ¬(16:Int)<(l.length:Int):=by omega
 have h0:Hid (bI l=jd (pO l 0) 0 (l.drop 0)):=Lib.hid (by unfold bI;rw[if_neg h16];rfl);go_upto_region 4 with (fail)
 go_loopw [12] (fun i wr => ∃k:Nat,k≤l.length∧i = .int .i64 k∧Below w.heap.size w wr∧aB wr w.heap.size #[.int .i64 0,.int .i64 0] 150∧(∀i (h:i<l.length),i<k→aQ l[i]=0)∧Hid (bI l=jd (pO l k) k (l.drop k))) (fun i _=>l.length-(intOf i).toNat)
 case atStart=>exact⟨0,aV _,rfl,d,n,fun i _ h=>absurd h (dV _),h0⟩
 case round=>
  clear d n h0;obtain⟨k,hk,rfl,d,n,hU,hh⟩:=hrel;have hp:=Lib.hid hU;clear hU
  by_cases hlt:k<l.length
  ·obtain⟨b,off,rfl,c0,c1,c2,c3,c4,c5,c6⟩:=Nk (hE.below d) k hlt;have h6:(k:Int)<(l.length:Int):=by omega
   go_upto_region 6 with (fail);refine gB (fun W=>Code.wp _ _ _ _ W) fun W1 u hA hZ => ?_;have d:=ae d u;have n:=n.ext u;clear hZ u c0 c1 c2 c3 c4 c5 c6;obtain⟨gx,hW⟩:∃g,g=wr.heap.size:=⟨_,rfl⟩;rw[←hW] at hA ⊢;clear hW
   go_wp2_with (refine ax _ _ rfl _ 0 rfl rfl _ hA.rd _ underlying99 rfl area_size ?_)
   refine (Fy l[k] _).mono ?_;rintro r w2 ⟨rfl,hB⟩;have j:=ae d hB;have o:=n.ext hB;have hD:=hA.ext hB;clear d n hB hA
   by_cases he:aQ l[k]=0
   ·have z:=Lib.hid he;rw[he];clear he;go_upto_region 9 with (fail)
    by_cases hk0:k=0
    ·subst hk0;have h8:decide ((0:Int)<((0:Nat):Int))=false:=rfl;have hG:Hid (bI l=jd (pO l (0+1)) (0+1) (l.drop (0+1))):=Lib.hid (by rw[hh.out];exact uU hlt z.out rfl);go_quiet (fail);go_wp2;go_roundw
     case rel=>exact⟨0+1,by omega,by go_num,below_drewN j _,o.drewN _,lN hp.out hlt z.out,hG⟩
     case measure=>simp[intOf];omega
    obtain⟨m,rfl⟩:∃m,k=m+1:=⟨k-1,by omega⟩;have hl:IntKind.i64.wrap (((m+1:Nat):Int)-1)=(m:Int):=by rw[bM _ (by omega)];omega
    have hq:m<l.length:=by omega
    have hi:IntKind.i64.wrap (m:Int)=(m:Int):=bM _ (by omega);have hI:IntKind.i64.wrap ((m:Int)+1+1)=(m:Int)+2:=by rw[bM _ (by omega)];omega
    have hH:IntKind.i64.wrap (((m+1:Nat):Int)+1)=(m:Int)+2:=by rw[bM _ (by omega)];omega
    have hJ:=Lib.hid (JS hlt);have hC:=hp.out m hq (by omega);have h4:=hE.below j;have hK:=Ee h4 m hq;have hT:=VP hE hlt;have hS:∀x∈[l[m],l[m+1]],aQ x=0:=fun x hx=>by
     rcases bZ.1 hx with rfl|hx
     ·exact hC
     ·rw[bv.1 hx];exact z.out
    have hY:Hid (∀i (h:i<l.length),i<m+1+1→aQ l[i]=0):=Lib.hid (lN hp.out hlt z.out);generalize hA1:l[m+1]=A1 at *
    generalize hA0:l[m]=A0 at *
    by_cases hov:A1.fr<A0.en
    ·have hz:Hid (bI l=(2,((m+1:Nat):Int))):=Lib.hid (by rw[hh.out];exact uR hlt (by rw[hA1];exact z.out) (by rw[hA1,hJ.out,decide_eq_true hov];rfl));have hF:True:=trivial;have hm:True:=trivial;refine aM 25 [_,_,_,_,_,_,.v (.pointer (some ⟨b,off+m*7,none⟩)),_,.v (.int .i64 A0.en),_,.v (.int .i64 A1.fr),_,_,_,_,_,_,_,_,_,_,_,_,_,.v (.bool true)] (Gk rfl (Gb (.bool true) (by simp[go_sem]) rfl rfl rfl rfl rfl (Gk rfl (Gk rfl (Gk rfl (Gb (.int .i64 (m:Int)) (by simp[go_sem,hl,hi]) rfl rfl rfl rfl rfl (ag ?_ (Gf b (off+m*7+1) rfl rfl (ag ?_ (Gf gx 0 rfl rfl (ag ?_ (Gb (.bool true) (by simp[go_sem,hov]) rfl rfl rfl rfl rfl (Gk rfl (Gk rfl (Gk rfl (Gk rfl (Gk rfl (Gk rfl (Gk rfl (Gk rfl (Gk rfl (Gk rfl (Gk rfl (Gk rfl (Gk rfl (aC)))))))))))))))))))))))))) (fun _=>rfl) rfl ?_
     ·intro ρ y W hw hn hb hd;have hy:=hw 27 3 rfl;have h3:y 3=_:=hd 3 rfl;have hv:=hw 29 5 rfl;have h5:y 5=_:=hd 5 rfl;refine aj (.pointer (some ⟨b,off+m*7,none⟩)) (bu 2 26 true true rfl rfl ((hw 26 2 rfl).trans (hd 2 rfl))) (by simp[execOp,go_sem,hy,h3,hv,h5,hq]) rfl
     ·intro ρ y W hw hn hb hd;have hu:=hw 31 7 rfl;have h7:y 7=_:=hd 7 rfl;have s:=(hK.below hb).cells.2.1;refine aj (.int .i64 A0.en) (bu 2 26 true true rfl rfl ((hw 26 2 rfl).trans (hd 2 rfl))) (by simp[execOp,go_sem,hu,h7,s]) rfl
     ·intro ρ y W hw hn hb hd;have ht:=hw 33 9 rfl;have h9:y 9=_:=hd 9 rfl;have s:=(hD.ext hb).cell 0;simp at s;refine aj (.int .i64 A1.fr) (bu 2 26 true true rfl rfl ((hw 26 2 rfl).trans (hd 2 rfl))) (by simp[execOp,go_sem,ht,h9,s]) rfl
     intro y WA t _;have d:=ae j t;have n:=o.ext t;clear j o
     go_wp2_with (refine az rfl _ _ _ rfl w.heap.size #[.int .i64 (2),.int .i64 (((m+1:Nat):Int))] rfl rfl _ _ n rfl fau_size (mO _ _) ?_)
     intro w5 ha q;have p:Below w.heap.size w w5:=d.grown q d.size (fun k hk=>by cases hk;exact ay _);go_wp2;refine bodyPost_ret (v:=.agg #[.int .i64 (2),.int .i64 (((m+1:Nat):Int))]) (eF results85 _ _ w.heap.size _ _ _ rfl ha underlying150 rfl fau_size) rfl ?_;exact⟨by rw[hz.out];rfl,p⟩
    have hs:srtF 0 [A0,A1]:=⟨hC,(bD hC).1.2.1.1,z.out,by omega,trivial⟩;have hF:=JW hs;have hg:=Tp hC z.out (by omega:A0.en≤A1.fr);cases hj:dz A0 A1
    ·have hm:(kR (cz [A0,A1]) 64).length=2:=by rw[hg,hj];rfl
     have hG:Hid (bI l=jd (pO l (m+1+1)) (m+1+1) (l.drop (m+1+1))):=Lib.hid (by rw[hh.out];exact uU hlt (by rw[hA1];exact z.out) (by rw[hA1,hJ.out,decide_eq_false hov,hj];rfl));clear hg hs;refine aM 25 [_,_,_,_,_,_,.v (.pointer (some ⟨b,off+m*7,none⟩)),_,.v (.int .i64 A0.en),_,.v (.int .i64 A1.fr),_,_,_,_,_,_,_,_,.v (.agg (fC (cz [A0,A1]))),.r 20 ((ou w.heap.size 99 7 (kR (cz [A0,A1]) 64).length ((kR (cz [A0,A1]) 64).flatMap mM))),.v (.int .i64 (2)),_,_,.v (.bool false)] (Gk rfl (Gb (.bool true) (by simp[go_sem]) rfl rfl rfl rfl rfl (Gk rfl (Gk rfl (Gk rfl (Gb (.int .i64 (m:Int)) (by simp[go_sem,hl,hi]) rfl rfl rfl rfl rfl (ag ?_ (Gf b (off+m*7+1) rfl rfl (ag ?_ (Gf gx 0 rfl rfl (ag ?_ (Gb (.bool false) (by simp[go_sem,hov]) rfl rfl rfl rfl rfl (Gk rfl (Gk rfl (Gk rfl (Gb (.int .i64 (m:Int)) (by simp[go_sem,hl,hi]) rfl rfl rfl rfl rfl (Gk rfl (Gb (.int .i64 ((m:Int)+2)) (by simp[go_sem,hI,hH]) rfl rfl rfl rfl rfl (Gr (.slice (some ⟨b,off+m*7,none⟩) 2 (c-m)) (fun ρ y W hb hf=>(yc rfl (aF rfl hf) (aF rfl hf) (aF rfl hf) underlying50 area_size hlt hV)) rfl rfl (ag ?_ (ag ?_ (ag ?_ (Gb (.bool false) (by simp[go_sem]) rfl rfl rfl rfl rfl (Gk rfl (Gk rfl (aC)))))))))))))))))))))))))) (fun _=>rfl) rfl ?_
     ·intro ρ y W hw hn hb hd;have hy:=hw 27 3 rfl;have h3:y 3=_:=hd 3 rfl;have hv:=hw 29 5 rfl;have h5:y 5=_:=hd 5 rfl;refine aj (.pointer (some ⟨b,off+m*7,none⟩)) (bu 2 26 true true rfl rfl ((hw 26 2 rfl).trans (hd 2 rfl))) (by simp[execOp,go_sem,hy,h3,hv,h5,hq]) rfl
     ·intro ρ y W hw hn hb hd;have hu:=hw 31 7 rfl;have h7:y 7=_:=hd 7 rfl;have s:=(hK.below hb).cells.2.1;refine aj (.int .i64 A0.en) (bu 2 26 true true rfl rfl ((hw 26 2 rfl).trans (hd 2 rfl))) (by simp[execOp,go_sem,hu,h7,s]) rfl
     ·intro ρ y W hw hn hb hd;have ht:=hw 33 9 rfl;have h9:y 9=_:=hd 9 rfl;have s:=(hD.ext hb).cell 0;simp at s;refine aj (.int .i64 A1.fr) (bu 2 26 true true rfl rfl ((hw 26 2 rfl).trans (hd 2 rfl))) (by simp[execOp,go_sem,ht,h9,s]) rfl
     ·intro ρ y W hw hn hb hd;have hQ:=hw 42 18 rfl;have hN:y 18=_:=hd 18 rfl;have EF:∀f,ρ (.func f) = .func (.func f) #[] #[]:=fun f=>hn (.func f) trivial;refine aR _ _ (bu 12 36 false false rfl rfl ((hw 36 12 rfl).trans (hd 12 rfl))) (aU rfl (EF _) func49 (by kernel_rfl) (by kernel_rfl) (by simp only[bV,bP,bT,hQ,hN,EF];rfl)) ?_;refine (qU [A0,A1] _ (c-m) W (hT.below (ae j hb)) (by simp) hS).mono ?_;rintro r w1 ⟨rfl,u⟩;exact⟨_,rfl,u,rfl⟩
     ·intro ρ y W hw hn hb hd;have hP:=hw 43 19 rfl;have hM:y 19=_:=hd 19 rfl;have EF:∀f,ρ (.func f) = .func (.func f) #[] #[]:=fun f=>hn (.func f) trivial;refine aR _ _ (bu 12 36 false false rfl rfl ((hw 36 12 rfl).trans (hd 12 rfl))) (aU rfl (EF _) func123 (by kernel_rfl) (by kernel_rfl) (by simp only[bV,bP,bT,hP,hM,EF];rfl)) ?_;refine (Au (cz [A0,A1]) W hF).mono ?_;rintro r w1 ⟨v1,rfl,ho,u⟩;exact⟨v1,rfl,u,ho.mono (bi j.size hb.size)⟩
     ·intro ρ y W hw hn hb hd;have hO:=hw 44 20 rfl;have hL:=hd 20 rfl;obtain⟨a20,c20,hr,_⟩:=Own.rd hL;refine aj (.int .i64 (2)) (bu 12 36 false false rfl rfl ((hw 36 12 rfl).trans (hd 12 rfl))) (by simp[execOp,go_sem,hO,hr,hm]) rfl
     intro y WA t hc;have hR:((ou w.heap.size 99 7 (kR (cz [A0,A1]) 64).length ((kR (cz [A0,A1]) 64).flatMap mM))).r (y 20) WA:=hc 20 (by decide);clear hc;have d:=ae j t;have n:=o.ext t;clear j o hl hi hI hH hm;go_wp2;go_roundw
     case rel=>exact⟨m+1+1,by omega,by go_num,d,n,hY.out,hG⟩
     case measure=>simp[intOf];omega
    have hm:(kR (cz [A0,A1]) 64).length=1:=by rw[hg,hj];rfl
    have hz:Hid (bI l=(2,((m+1:Nat):Int))):=Lib.hid (by rw[hh.out];exact uR hlt (by rw[hA1];exact z.out) (by rw[hA1,hJ.out,hj,IP]));clear hg hs;refine aM 25 [_,_,_,_,_,_,.v (.pointer (some ⟨b,off+m*7,none⟩)),_,.v (.int .i64 A0.en),_,.v (.int .i64 A1.fr),_,_,_,_,_,_,_,_,.v (.agg (fC (cz [A0,A1]))),.r 20 ((ou w.heap.size 99 7 (kR (cz [A0,A1]) 64).length ((kR (cz [A0,A1]) 64).flatMap mM))),.v (.int .i64 (1)),_,_,.v (.bool true)] (Gk rfl (Gb (.bool true) (by simp[go_sem]) rfl rfl rfl rfl rfl (Gk rfl (Gk rfl (Gk rfl (Gb (.int .i64 (m:Int)) (by simp[go_sem,hl,hi]) rfl rfl rfl rfl rfl (ag ?_ (Gf b (off+m*7+1) rfl rfl (ag ?_ (Gf gx 0 rfl rfl (ag ?_ (Gb (.bool false) (by simp[go_sem,hov]) rfl rfl rfl rfl rfl (Gk rfl (Gk rfl (Gk rfl (Gb (.int .i64 (m:Int)) (by simp[go_sem,hl,hi]) rfl rfl rfl rfl rfl (Gk rfl (Gb (.int .i64 ((m:Int)+2)) (by simp[go_sem,hI,hH]) rfl rfl rfl rfl rfl (Gr (.slice (some ⟨b,off+m*7,none⟩) 2 (c-m)) (fun ρ y W hb hf=>(yc rfl (aF rfl hf) (aF rfl hf) (aF rfl hf) underlying50 area_size hlt hV)) rfl rfl (ag ?_ (ag ?_ (ag ?_ (Gb (.bool true) (by simp[go_sem]) rfl rfl rfl rfl rfl (Gk rfl (Gk rfl (aC)))))))))))))))))))))))))) (fun _=>rfl) rfl ?_
    ·intro ρ y W hw hn hb hd;have hy:=hw 27 3 rfl;have h3:y 3=_:=hd 3 rfl;have hv:=hw 29 5 rfl;have h5:y 5=_:=hd 5 rfl;refine aj (.pointer (some ⟨b,off+m*7,none⟩)) (bu 2 26 true true rfl rfl ((hw 26 2 rfl).trans (hd 2 rfl))) (by simp[execOp,go_sem,hy,h3,hv,h5,hq]) rfl
    ·intro ρ y W hw hn hb hd;have hu:=hw 31 7 rfl;have h7:y 7=_:=hd 7 rfl;have s:=(hK.below hb).cells.2.1;refine aj (.int .i64 A0.en) (bu 2 26 true true rfl rfl ((hw 26 2 rfl).trans (hd 2 rfl))) (by simp[execOp,go_sem,hu,h7,s]) rfl
    ·intro ρ y W hw hn hb hd;have ht:=hw 33 9 rfl;have h9:y 9=_:=hd 9 rfl;have s:=(hD.ext hb).cell 0;simp at s;refine aj (.int .i64 A1.fr) (bu 2 26 true true rfl rfl ((hw 26 2 rfl).trans (hd 2 rfl))) (by simp[execOp,go_sem,ht,h9,s]) rfl
    ·intro ρ y W hw hn hb hd;have hQ:=hw 42 18 rfl;have hN:y 18=_:=hd 18 rfl;have EF:∀f,ρ (.func f) = .func (.func f) #[] #[]:=fun f=>hn (.func f) trivial;refine aR _ _ (bu 12 36 false false rfl rfl ((hw 36 12 rfl).trans (hd 12 rfl))) (aU rfl (EF _) func49 (by kernel_rfl) (by kernel_rfl) (by simp only[bV,bP,bT,hQ,hN,EF];rfl)) ?_;refine (qU [A0,A1] _ (c-m) W (hT.below (ae j hb)) (by simp) hS).mono ?_;rintro r w1 ⟨rfl,u⟩;exact⟨_,rfl,u,rfl⟩
    ·intro ρ y W hw hn hb hd;have hP:=hw 43 19 rfl;have hM:y 19=_:=hd 19 rfl;have EF:∀f,ρ (.func f) = .func (.func f) #[] #[]:=fun f=>hn (.func f) trivial;refine aR _ _ (bu 12 36 false false rfl rfl ((hw 36 12 rfl).trans (hd 12 rfl))) (aU rfl (EF _) func123 (by kernel_rfl) (by kernel_rfl) (by simp only[bV,bP,bT,hP,hM,EF];rfl)) ?_;refine (Au (cz [A0,A1]) W hF).mono ?_;rintro r w1 ⟨v1,rfl,ho,u⟩;exact⟨v1,rfl,u,ho.mono (bi j.size hb.size)⟩
    ·intro ρ y W hw hn hb hd;have hO:=hw 44 20 rfl;have hL:=hd 20 rfl;obtain⟨a20,c20,hr,_⟩:=Own.rd hL;refine aj (.int .i64 (1)) (bu 12 36 false false rfl rfl ((hw 36 12 rfl).trans (hd 12 rfl))) (by simp[execOp,go_sem,hO,hr,hm]) rfl
    intro y WA t hc;have hR:((ou w.heap.size 99 7 (kR (cz [A0,A1]) 64).length ((kR (cz [A0,A1]) 64).flatMap mM))).r (y 20) WA:=hc 20 (by decide);clear hc;have d:=ae j t;have n:=o.ext t;clear j o
    go_wp2_with (refine az rfl _ _ _ rfl w.heap.size #[.int .i64 (2),.int .i64 (((m+1:Nat):Int))] rfl rfl _ _ n rfl fau_size (mO _ _) ?_)
    intro w5 ha q;have p:Below w.heap.size w w5:=d.grown q d.size (fun k hk=>by cases hk;exact ay _);go_wp2;refine bodyPost_ret (v:=.agg #[.int .i64 (2),.int .i64 (((m+1:Nat):Int))]) (eF results85 _ _ w.heap.size _ _ _ rfl ha underlying150 rfl fau_size) rfl ?_;exact⟨by rw[hz.out];rfl,p⟩
   have hz:Hid (bI l=(aQ l[k],(k:Int))):=Lib.hid (by rw[hh.out];exact Gz hlt he);have z : (aQ l[k] != 0)=true:=by simpa using he
   have d:=j;have n:=o;clear he j o
   go_wp2_with (refine az rfl _ _ _ rfl w.heap.size #[.int .i64 (aQ l[k]),.int .i64 (k)] rfl rfl _ _ n rfl fau_size (mO _ _) ?_)
   intro w5 ha q;have p:Below w.heap.size w w5:=d.grown q d.size (fun k hk=>by cases hk;exact ay _);go_wp2;refine bodyPost_ret (v:=.agg #[.int .i64 (aQ l[k]),.int .i64 (k)]) (eF results85 _ _ w.heap.size _ _ _ rfl ha underlying150 rfl fau_size) rfl ?_;exact⟨by rw[hz.out];rfl,p⟩
  have hz:Hid (bI l=(0,0)):=Lib.hid (by rw[hh.out,qa (by omega)];rfl)
  go_wp2_with (refine az rfl _ _ _ rfl w.heap.size #[.int .i64 (0),.int .i64 (0)] rfl rfl _ _ n rfl fau_size (mO _ _) ?_)
  intro w5 ha q;have p:Below w.heap.size w w5:=d.grown q d.size (fun k hk=>by cases hk;exact ay _);go_wp2;refine bodyPost_ret (v:=.agg #[.int .i64 (0),.int .i64 (0)]) (eF results85 _ _ w.heap.size _ _ _ rfl ha underlying150 rfl fau_size) rfl ?_;exact⟨by rw[hz.out];rfl,p⟩
def tL (t:List En):List Value:=(List.range 64).flatMap fun i=>kS (t.getD i zEn)
theorem yo (t:List En):(tL t).length=192:=by
 unfold tL;rw[Pw.flat_len (fun i=>kS (t.getD i zEn)) 3 (fun _=>fA _),Ct]
structure MW where
 al:Option Addr
 cl:Nat
 l:List UInt8
 H:MH
 ab:Option Addr
 cb:Nat
 T:List (List En)
def iV (S:MW):Array Value:=#[.slice S.al S.l.length S.cl,.slice S.H.af S.H.m.fs.length S.H.cf,.int .i64 S.H.m.hand,.slice S.H.asl S.H.sl.length S.H.csl,.slice S.H.wb S.H.sw.blocks.length S.H.cwb,.slice S.H.wq S.H.sw.queue.length S.H.cwq,
 .slice S.H.db S.H.dk.blocks.length S.H.cdb,.slice S.H.dq S.H.dk.queue.length S.H.cdq,.slice S.H.ai S.H.fi.length S.H.ci,.int .i64 S.H.ct,.slice S.H.ac S.H.ca.length S.H.cc,.slice S.H.ap S.H.sp.length S.H.cp,.slice S.ab S.T.length S.cb]
def gZ (S:MW):List (Option Nat):=[oB S.H.af,oB S.H.asl,oB S.H.wb,oB S.H.db,oB S.H.dq,oB S.H.ai,oB S.H.ac,oB S.H.ap,oB S.ab]
def mP (b:Nat) (S:MW) (x:Nat):Prop:=x=b∨some x∈gZ S
structure ed (w:World) (B b:Nat) (S:MW):Prop where
 blk:aB w b (iV S) 77
 ge:B≤b
 ma:tu w B S.H
 tt:Own w B 90 192 (.slice S.ab S.T.length S.cb) S.T.length (S.T.flatMap tL)
 rd:uk w S.al S.cl S.l.length (S.l.map yO)
 ra:∀a,S.al=some a→S.l.map yO≠[]→a.block<B
 n1:∀x,oB S.H.wb=some x→oB S.H.db≠some x
 n2:∀p∈S.H.fi,∀x,oB p.a=some x→oB S.H.asl≠some x
 n3:S.H.wq=none
structure MS (w0:World) (b:Nat) (S0:MW) (w:World) (S:MW):Prop where
 os:w.os=w0.os
 tape:w.tape=w0.tape
 output:w.output=w0.output
 size:w0.heap.size≤w.heap.size
 keep:∀x,x<w0.heap.size→¬mP b S0 x→w.heap[x]?=w0.heap[x]?
 sn:∀x,mP b S x→mP b S0 x∨w0.heap.size≤x
theorem MS.refl (w:World) (b:Nat) (S:MW):MS w b S w S:=⟨rfl,rfl,rfl,ay _,fun _ _ _=>rfl,fun _ h => .inl h⟩
theorem MS.trans {H0 H1 H2:MW} (h:MS w0 b H0 w1 H1) (k:MS w1 b H1 w2 H2):MS w0 b H0 w2 H2:=
 ⟨k.os.trans h.os,k.tape.trans h.tape,k.output.trans h.output,bi h.size k.size,fun x hx hn=>(k.keep x (pY hx h.size) (fun hk=>(h.sn x hk).elim hn (fun hh=>absurd hx (CV.2 hh)))).trans (h.keep x hx hn),
  fun x hx=>(k.sn x hx).elim (h.sn x) (fun hh => .inr (bi h.size hh))⟩
theorem MS.below {H0 H:MW} (h:MS w0 b H0 w H) (hb:Below w.heap.size w w'):MS w0 b H0 w' H:=
 ⟨hb.os.trans h.os,hb.tape.trans h.tape,hb.output.trans h.output,bi h.size hb.size,fun x hx hn=>(hb.block x (pY hx h.size)).trans (h.keep x hx hn),h.sn⟩
theorem MS.put {y:Nat} {H0 H H' : MW} (h:MS w0 b H0 w H) (hg:w.grownBy w' (some y)) (hy:mP b H y) (hn:∀x,mP b H' x→mP b H x∨w0.heap.size≤x):MS w0 b H0 w' H':=
 ⟨hg.os.trans h.os,hg.tape.trans h.tape,hg.output.trans h.output,bi h.size hg.size,fun x hx hnx=>(hg.block x (pY hx h.size) (fun e=>by have e' : x=y:=aJ e;rw[←e'] at hy;exact (h.sn x hy).elim hnx (fun hh=>absurd hx (CV.2 hh)))).trans (h.keep x hx hnx),fun x hx=>(hn x hx).elim (h.sn x) .inr⟩
theorem MS.loc {y:Nat} {H0 H:MW} (h:MS w0 b H0 w H) (hg:w.grownBy w' (some y)) (hy:w0.heap.size≤y):MS w0 b H0 w' H:=
 ⟨hg.os.trans h.os,hg.tape.trans h.tape,hg.output.trans h.output,bi h.size hg.size,fun x hx hnx=>(hg.block x (pY hx h.size) (fun e=>by have e' : x=y:=aJ e;omega)).trans (h.keep x hx hnx),h.sn⟩
theorem MS.same {H0 H H' : MW} (h:MS w0 b H0 w H) (he:gZ H' = gZ H):MS w0 b H0 w H':=
 { h with sn:=fun x hx=>h.sn x (by unfold mP at hx ⊢; rw[←he];exact hx) }
theorem ed.lt {S:MW} (h:ed w B b S):b<w.heap.size:=h.blk.lt
theorem ed.bs {S:MW} (h:ed w B b S):B≤w.heap.size:=bi h.ge (qz h.lt)
theorem ed.below {S:MW} (h:ed w B b S) (hb:Below w.heap.size w w'):ed w' B b S:=⟨h.blk.ext hb,h.ge,h.ma.below hb,h.tt.below hb,h.rd.below hb,h.ra,h.n1,h.n2,h.n3⟩
theorem ed.kb_own {S:MW} (h:ed w B b S) {x:Nat} (hx:mP b S x):B≤x∧x<w.heap.size:=by
 have own:∀ {e:TypeId} {sz n c:Nat} {a:Option Addr} {xs:List Value},Own w B e sz (.slice a n c) n xs→oB a=some x→B≤x∧x<w.heap.size:=fun ho hx=>by obtain⟨h1,cs,h2⟩:=iQ ho hx;exact⟨h1,h2.lt⟩
 rcases hx with hx|hx
 ·rw[hx];exact⟨h.ge,h.lt⟩
 simp only[gZ,bZ,fP,or_false] at hx;rcases hx with hx|hx|hx|hx|hx|hx|hx|hx|hx
 ·exact own h.ma.fr hx.symm
 ·exact own h.ma.sl hx.symm
 ·exact own h.ma.sw.b hx.symm
 ·exact own h.ma.dk.b hx.symm
 ·exact own h.ma.dk.q hx.symm
 ·exact own h.ma.st.own hx.symm
 ·exact own h.ma.ca hx.symm
 ·exact own h.ma.sp hx.symm
 ·exact own h.tt hx.symm
theorem MS.to {S0 S:MW} (h:ed w0 B b S0) (hs:MS w0 b S0 w S) (hB:B0≤B):Below B0 w0 w:=
 ⟨hs.os,hs.tape,hs.output,hs.size,fun x hx=>hs.keep x (by have:=h.bs;omega) (fun hk=>by have:=(h.kb_own hk).1;omega)⟩
theorem MS.blkN {x:Nat} {S0 S:MW} (hs:MS w0 b S0 w S) (hk:aB w0 x cs T) (hx:¬mP b S0 x):aB w x cs T:=(hs.keep x hk.lt hx).trans hk
theorem MS.not {x:Nat} {S0 S:MW} (hs:MS w0 b S0 w S) (hl:x<w0.heap.size) (hx:¬mP b S0 x):¬mP b S x:=fun h=>(hs.sn x h).elim hx (fun h=>by omega)
theorem MS.ownN {S0 S:MW} (hs:MS w0 b S0 w S) (ho:Own w0 B' t sz v n xs) (hx:∀x,v.ownBlock=some x→¬mP b S0 x):Own w B' t sz v n xs:=
 ⟨ho.1,ho.2.imp id fun⟨g,off,cap,cur,hv,hB,hk,r⟩=>⟨g,off,cap,cur,hv,hB,hs.blkN hk (hx g (by rw[hv];rfl)),r⟩⟩
theorem ed.new {S:MW} (h:ed w B b S) {x:Nat} (hx:w.heap.size≤x):¬mP b S x:=fun hk=>by have:=(h.kb_own hk).2;omega
theorem uk.keep (h:uk w a c n vs) (ha:∀x,a=some x→vs≠[]→x.block<B) (hB:B≤w.heap.size) (hg:w.grownBy w' (some g)) (hgB:B≤g):uk w' a c n vs:=
 ⟨h.le,h.mx,h.nl,fun i u hi=>by obtain⟨b',o',e,hc⟩:=h.rd i u hi;have hl:b' < B:=ha _ e (fun e0=>by rw[e0] at hi;cases hi);exact⟨b',o',e,hg.cell hc (fun e=>by have h3:b' = g:=aJ e;omega)⟩⟩
theorem ed.putL {S:MW} (h:ed w B b S) {l:List UInt8} (hr:uk w a c l.length (l.map yO)) (ha:∀x,a=some x→l.map yO≠[]→x.block<B) (hb:aB w' b (bB (iV S) 0 [.slice a l.length c]) 77) (hg:w.grownBy w' (some b)) :
  ed w' B b { S with al:=a,cl:=c,l:=l }:=
 ⟨hb,h.ge,h.ma.keep h.blk (by decide) hg,ak h.tt h.blk (by decide) hg,hr.keep ha h.bs hg h.ge,ha,h.n1,h.n2,h.n3⟩
theorem tu.putF (h:tu w B H) (hk:aB w g cs 81) (hg:w.grownBy w' (some g)) {m:Mem} (ho:Own w' B 81 13 (.slice H.af m.fs.length H.cf) m.fs.length (m.fs.flatMap qf)):tu w' B { H with m:=m }:=
 ⟨ho,ak h.sl hk (by decide) hg,h.sw.keep hk (by decide) (by decide) hg,h.dk.keep hk (by decide) (by decide) hg,h.st.keep hk (by decide) (by decide) hg,ak h.ca hk (by decide) hg,ak h.sp hk (by decide) hg,fun p hp=>⟨ak (h.ps p hp).1 hk (by decide) hg,(h.ps p hp).2.keep hk (by decide) hg⟩,h.c64⟩
theorem ed.putF {S:MW} (h:ed w B b S) (hk:aB w g cs 81) (hgB:B≤g) (hg:w.grownBy w' (some g)) {fs:List Fr} (hl:fs.length=S.H.m.fs.length) (ho:Own w' B 81 13 (.slice S.H.af fs.length S.H.cf) fs.length (fs.flatMap qf)) :
  ed w' B b { S with H:={ S.H with m:=⟨fs,S.H.m.hand⟩ } }:=
 ⟨by
  have h1:=bq h.blk hk (by decide) hg;have e:iV { S with H:={ S.H with m:=⟨fs,S.H.m.hand⟩ } }=iV S:=by unfold iV;rw[show ({ S.H with m:=⟨fs,S.H.m.hand⟩ }:MH).m.fs.length=S.H.m.fs.length from hl]
  rw[e];exact h1,h.ge,h.ma.putF hk hg (m:=⟨fs,S.H.m.hand⟩) ho,ak h.tt hk (by decide) hg,h.rd.keep h.ra h.bs hg hgB,h.ra,h.n1,h.n2,h.n3⟩
theorem Oe (t:List En) (i r:Nat) (hi:i<64) (hr:r<3):(tL t)[i*3+r]?=(kS (t.getD i zEn))[r]?:=by
 unfold tL;rw[jl (fun i=>kS (t.getD i zEn)) 3 (fun _=>fA _) (List.range 64) i (by rw[Ct];exact hi) r hr,Ha]
theorem VI {t:List En} {x:En} (hl:t.length=64) (hn:n<64) (cur:Array Value) (o:Nat) (hs:o+192≤cur.size) (hc:∀j u,(tL t)[j]?=some u→cur[o+j]?=some u) :
  bB cur (o+n*3) (kS x)=bB cur o (tL (t.set n x)):=by
 have b:∀i,i<64→(t.set n x).getD i zEn=if i=n then x else t.getD i zEn:=fun i hi=>by
  rw[aS,kW]
  by_cases e:i=n
  ·subst e;rw[if_pos rfl,if_pos (by omega),if_pos rfl];rfl
  ·rw[if_neg (fun h=>e h.symm),if_neg e,aS]
 apply lS;intro m;have c:(kS x).length=3:=fA x;have a:=yo (t.set n x)
 by_cases h1:o≤m∧m<o+192
 ·obtain⟨d,rfl⟩:∃d,m=o+d:=⟨m-o,by omega⟩;have hd:d<192:=by omega
  obtain⟨i,r,hi,hr,rfl⟩:∃i r,i<64∧r<3∧d=i*3+r:=⟨d / 3,d%3,by omega,by omega,by omega⟩;obtain⟨u,hu⟩:∃u,(tL (t.set n x))[i*3+r]?=some u:=⟨_,aH (by omega)⟩;rw[putAt_in _ _ _ _ u (by rw[a];exact hs) hu];rw[Oe _ i r hi hr,b i hi] at hu
  by_cases e:i=n
  ·subst e;rw[if_pos rfl] at hu;rw[←mZ];exact putAt_in _ _ _ _ u (by omega) hu
  rw[if_neg e] at hu;rw[putAt_out _ _ _ _ (by omega)];exact hc _ _ (by rw[Oe _ i r hi hr];exact hu)
 ·rw[putAt_out _ _ _ _ (by omega),putAt_out _ _ _ _ (by omega)]
theorem ed.lst_len {S:MW} (hp:p<S.T.length):eU S.T p=S.T[p]:=by
 unfold eU;rw[aS,aH hp];rfl
theorem ed.ent {S:MW} (h:ed w B b S) (hp:p<S.T.length) (hn:n<64) (h64:(eU S.T p).length=64) :
  ∃g off cur,S.ab=some ⟨g,off,none⟩∧B≤g∧aB w g cur 90∧off+p*192+n*3+3≤cur.size∧(∀j u,(kS (fe S.T p n))[j]?=some u→w.cell? ⟨g,off+p*192+n*3+j,none⟩=some u) ∧
   ∀w' x,aB w' g (bB cur (off+p*192+n*3) (kS x)) 90→w.grownBy w' (some g)→ed w' B b { S with T:=setL S.T p n x }:=by
 obtain⟨g,off,cap,cur,hv,hB,hg,hs,hc,hw⟩:=h.tt.put yo (by decide) p hp;simp only[lU] at hv;obtain⟨hv,_,_⟩:=hv;refine⟨g,off,cur,hv,hB,hg,by omega,fun j u hj => ?_,fun w' x d c => ?_⟩
 ·have i:j<3:=by
   rcases fG j 3 with h|h
   ·exact h
   ·rw[dI (by rw[fA];exact h)] at hj;cases hj
  have:=hc (n*3+j) u (by rw[Oe _ n j hn i,←ed.lst_len hp];exact hj);rw[←this];congr 2;omega
 have f:∀j u,(tL (eU S.T p))[j]?=some u→cur[off+p*192+j]?=some u:=fun j u hj=>by rw[ed.lst_len hp] at hj;have:=hc j u hj;rw[hg.cell] at this;exact this
 rw[VI h64 hn cur _ (by omega) f] at d;have ho:=hw w' _ d;have a:({ S with T:=setL S.T p n x }:MW).T.length=S.T.length:=by show (setL S.T p n x).length=_;unfold setL;rw[bH]
 refine⟨?_,h.ge,h.ma.keep hg (by decide) c,?_,h.rd.keep h.ra h.bs c hB,h.ra,h.n1,h.n2,h.n3⟩
 ·have e:iV { S with T:=setL S.T p n x }=iV S:=by unfold iV;rw[a]
  rw[e];exact bq h.blk hg (by decide) c
 ·rw[a];exact ho
theorem ed.putS {S:MW} (h:ed w B b S) (hk:aB w g cs 3) (hgB:B≤g) (hga:oB S.H.asl=some g) (hg:w.grownBy w' (some g)) (hl:sl.length=S.H.sl.length) (ho:Own w' B 3 1 (.slice S.H.asl sl.length S.H.csl) sl.length (sl.map fT)) :
    ed w' B b { S with H:={ S.H with sl:=sl } }:=
  ⟨by
    have h1:=bq h.blk hk (by decide) hg;have e:iV { S with H:={ S.H with sl:=sl } }=iV S:=by unfold iV;rw[show ({ S.H with sl:=sl }:MH).sl.length=S.H.sl.length from hl]
    rw[e];exact h1,h.ge,
   ⟨ak h.ma.fr hk (by decide) hg,ho,h.ma.sw.keep hk (by decide) (by decide) hg,h.ma.dk.keep hk (by decide) (by decide) hg,⟨ak h.ma.st.own hk (by decide) hg,fun i p hp=>(h.ma.st.each i p hp).grown hg (fun g' hg' e=>by cases e;unfold mW at hg';rw[lK] at hg';exact h.n2 p (bO hp) _ hg' hga),h.ma.st.apart⟩,ak h.ma.ca hk (by decide) hg,ak h.ma.sp hk (by decide) hg,fun p hp=>⟨ak (h.ma.ps p hp).1 hk (by decide) hg,(h.ma.ps p hp).2.keep hk (by decide) hg⟩,h.ma.c64⟩,
   ak h.tt hk (by decide) hg,h.rd.keep h.ra h.bs hg hgB,h.ra,h.n1,h.n2,h.n3⟩
theorem ed.putW {S:MW} (h:ed w B b S) (hk:aB w g cs 79) (hgB:B≤g) (hga:oB S.H.wb=some g) (hg:w.grownBy w' (some g)) {l:List Page} (hl:l.length=S.H.sw.blocks.length) (ho:Own w' B 79 8 (.slice S.H.wb l.length S.H.cwb) l.length (l.flatMap Br)) :
    ed w' B b { S with H:={ S.H with sw:=⟨l,S.H.sw.queue⟩ } }:=
  ⟨by
    have h1:=bq h.blk hk (by decide) hg;have e:iV { S with H:={ S.H with sw:=⟨l,S.H.sw.queue⟩ } }=iV S:=by unfold iV;rw[show ({ S.H with sw:=⟨l,S.H.sw.queue⟩ }:MH).sw.blocks.length=S.H.sw.blocks.length from hl]
    rw[e];exact h1,h.ge,
   ⟨ak h.ma.fr hk (by decide) hg,ak h.ma.sl hk (by decide) hg,⟨ho,ak h.ma.sw.q hk (by decide) hg⟩,⟨h.ma.dk.b.grown hg (fun g' hg' e=>by cases e;rw[lK] at hg';exact h.n1 _ hga hg'),ak h.ma.dk.q hk (by decide) hg⟩,h.ma.st.keep hk (by decide) (by decide) hg,ak h.ma.ca hk (by decide) hg,ak h.ma.sp hk (by decide) hg,fun p hp=>⟨ak (h.ma.ps p hp).1 hk (by decide) hg,(h.ma.ps p hp).2.keep hk (by decide) hg⟩,h.ma.c64⟩,
   ak h.tt hk (by decide) hg,h.rd.keep h.ra h.bs hg hgB,h.ra,h.n1,h.n2,h.n3⟩
theorem ed.setC {S:MW} (h:ed w B b S) {l:List Cc} (ho:Own w B 106 3 (.slice a l.length c) l.length (l.flatMap mD)) (hb:aB w' b (bB (iV S) 10 [.slice a l.length c]) 77) (hg:w.grownBy w' (some b)) :
  ed w' B b { S with H:={ S.H with ac:=a,cc:=c,ca:=l } }:=
 ⟨hb,h.ge,{ h.ma.keep h.blk (by decide) hg with ca:=ak ho h.blk (by decide) hg },ak h.tt h.blk (by decide) hg,h.rd.keep h.ra h.bs hg h.ge,h.ra,h.n1,h.n2,h.n3⟩
def MW.lst (S:MW) (a:Option Addr) (c:Nat) (l:List UInt8):MW:={ S with al:=a,cl:=c,l:=l }
theorem nQ (S:MW) (a a' : Option Addr) (c c' : Nat) (l l' : List UInt8):(S.lst a c l).lst a' c' l' = S.lst a' c' l':=rfl
theorem OH {x:UInt8} {l:List UInt8} (h:dP w a ((x::l).map yO)):∃b o,a=some ⟨b,o,none⟩∧w.cell? ⟨b,o,none⟩=some (yO x)∧dP w (some ⟨b,o+1,none⟩) (l.map yO):=by
 obtain⟨b,o,rfl,hc⟩:=h.at (by simp);exact⟨b,o,rfl,hc 0 _ rfl,fun i u hi=>⟨b,o+1,rfl,by
  have:=hc (i+1) u (by simpa using hi);rw[show o+1+i=o+(i+1) by omega];exact this⟩⟩
theorem ed.locT {S:MW} (h:ed w B b S) (hk:aB w g cs T) (hT:T≠3∧T≠99∧T≠89) (hn:¬mP b S g) (hgB:B≤g) (hg:w.grownBy w' (some g)):ed w' B b S:=by
 have d:∀ {a:Option Addr},oB a∈gZ S→∀n c g',(Value.slice a n c).ownBlock=some g'→some g≠some g':=fun hm n c g' he e=>by cases e;rw[lK] at he;exact hn (.inr (by rw[←he];exact hm))
 have m:∀ {x:Option Nat} {l:List (Option Nat)},x∈x::l:=gV;refine⟨h.blk.grown hg (fun e=>hn (.inl (aJ e))),h.ge,⟨h.ma.fr.grown hg (d (by simp[gZ]) _ _),h.ma.sl.grown hg (d (by simp[gZ]) _ _),⟨h.ma.sw.b.grown hg (d (by simp[gZ]) _ _),h.ma.sw.q.grown hg (fun g' he=>by rw[h.n3] at he;cases he)⟩,⟨h.ma.dk.b.grown hg (d (by simp[gZ]) _ _),h.ma.dk.q.grown hg (d (by simp[gZ]) _ _)⟩,
  ⟨h.ma.st.own.grown hg (d (by simp[gZ]) _ _),fun i p hp=>ak (h.ma.st.each i p hp) hk hT.1 hg,h.ma.st.apart⟩,h.ma.ca.grown hg (d (by simp[gZ]) _ _),h.ma.sp.grown hg (d (by simp[gZ]) _ _),fun p hp=>⟨ak (h.ma.ps p hp).1 hk hT.2.1 hg,(h.ma.ps p hp).2.keep hk hT.2.2 hg⟩,h.ma.c64⟩,
  h.tt.grown hg (d (by simp[gZ]) _ _),h.rd.keep h.ra h.bs hg hgB,h.ra,h.n1,h.n2,h.n3⟩
def VZ (S:MW) (n:Int) (B b:Nat) (w:World) (r:Ending) (w' : World):Prop:=∃x a c l,r = .returned (.int .i64 x)∧ed w' B b (S.lst a c l)∧MS w b S w' (S.lst a c l)∧(0≤x∧x<256∧(x<n∨x=0))∧(S.l=[]→x=0∧l=[])
theorem fB (S:MW) (n:Int) (B b:Nat) (w:World) (h:ed w B b S) (hn : -9223372036854775808≤n∧n≤9223372036854775807) :
  Calls Tryz.prog 30 #[.pointer (some ⟨b,0,none⟩),.int .i64 n] w (VZ S n B b w):=by
 obtain⟨al,cl,l,H,ab,cb,T⟩:=S;have hr:uk w al cl l.length (l.map yO):=h.rd;have g:∀a,al=some a→l.map yO≠[]→a.block<B:=h.ra;have hc:=h.blk.cell;unfold iV at hc;dsimp only at hc;have h':=Lib.hid h;have d:=Lib.hid g;go_enter func30,ntmps30;cases l with
 | nil=>
  clear h hr g;go_wp2;go_ret;exact⟨0,al,cl,[],rfl,h'.out,MS.refl _ _ _,by omega,fun _=>⟨rfl,rfl⟩⟩
 | cons x l=>
  obtain⟨bl,ol,rfl,i,o⟩:=OH hr.rd;have r:l.length+1≤cl:=by have:=hr.le;simpa using this
  have p:=Lib.hid hr.mx;have m:=Lib.hid o;have f:=h.blk;clear h hr g o;unfold yO at i
  by_cases hn1:n<1
  ·go_wp2;go_ret;exact⟨0,_,cl,x::l,rfl,h'.out,MS.refl _ _ _,by omega,fun e=>(by cases e)⟩
  have s:(1:Int)≤((l.length+1:Nat):Int):=by omega
  have h1:=Lib.hid x.toNat_lt;have k:Hid ((0:Int)≤(x.toNat:Int)%n∧(x.toNat:Int)%n<256∧((x.toNat:Int)%n<n∨(x.toNat:Int)%n=0)):=Lib.hid (by
   have h3:=Int.emod_nonneg (x.toNat:Int) (show n≠0 by omega);have h4:=Int.emod_lt_of_pos (x.toNat:Int) (show (0:Int)<n by omega);have h6:(x.toNat:Int)%n≤(x.toNat:Int):=by obtain⟨N,rfl⟩:=fE (show 0≤n by omega);rw[←Iz];have:=Nat.mod_le x.toNat N;omega
   have:=h1.out;omega)
  have q:IntKind.i64.wrap (x.toNat:Int)=(x.toNat:Int):=bM _ (by have:=h1.out;omega)
  by_cases hcl:cl=1
  ·subst hcl;obtain rfl:l=[]:=List.length_eq_zero_iff.1 (by omega)
   go_wp2_with (refine aA rfl _ _ _ rfl b 0 _ [.slice (some ⟨bl,ol,none⟩) 0 0] rfl rfl rfl _ _ f (by show 0+1≤13;omega) (by kernel_rfl) (fun u hu=>by cases bv.1 hu;rfl) ?_)
   intro w1 j c;clear hc i;go_wp2;go_ret;have hs:uk w (some ⟨bl,ol,none⟩) 0 0 (([]:List UInt8).map yO):=⟨ay _,aV _,fun e=>(by cases e),dP.nil⟩;exact⟨_,some ⟨bl,ol,none⟩,0,[],rfl,h'.out.putL hs (fun a e _=>by cases e;exact d.out _ rfl (by simp)) j c,(MS.refl w b _).put c (.inl rfl) fun x hx => .inl hx,k.out,fun e=>(by cases e)⟩
  go_wp2_with (refine aA rfl _ _ _ rfl b 0 _ [.slice (some ⟨bl,ol+1,none⟩) l.length (cl-1)] rfl rfl rfl _ _ f (by show 0+1≤13;omega) (by kernel_rfl) (fun u hu=>by cases bv.1 hu;rfl) ?_)
  intro w1 j c;clear hc i;go_wp2;go_ret;have hs:uk w (some ⟨bl,ol+1,none⟩) (cl-1) l.length (l.map yO):=⟨by omega,by have:=p.out;omega,fun e=>(by cases e),m.out⟩;exact⟨_,some ⟨bl,ol+1,none⟩,cl-1,l,rfl,h'.out.putL hs (fun a e _=>by cases e;exact d.out ⟨bl,ol,none⟩ rfl (by simp)) j c,(MS.refl w b _).put c (.inl rfl) fun x hx => .inl hx,k.out,fun e=>(by cases e)⟩
def Wt (S:MW) (B b:Nat) (w:World) (r:Ending) (w' : World):Prop:=∃P a c l,r = .returned (.agg (iB P))∧ed w' B b (S.lst a c l)∧MS w b S w' (S.lst a c l)
theorem xP (S:MW) (B b:Nat) (w:World) (h:ed w B b S) :
  Calls Tryz.prog 33 #[.pointer (some ⟨b,0,none⟩)] w (Wt S B b w):=by
 have o:=Lib.hid h.bs;go_enter func33,ntmps33;go_upto_region 3 with (fail);refine rE (fun W=>Code.wp _ _ _ _ W) fun w1 i bx1 rx1 s => ?_;have h1:=h.below i;have s1:=(MS.refl w b S).below i;have n:=Lib.hid (h.new (ay _));have m:=Lib.hid (h.new (xA _));clear h
 go_loopw [5] (fun k wr => ∃(q:Nat) (P:Page) (a:Option Addr) (c:Nat) (l:List UInt8),q≤8∧k = .int .i64 q∧ed wr B b (S.lst a c l)∧MS w b S wr (S.lst a c l)∧aB wr w.heap.size (iB zPg) 79∧aB wr (w.heap.size+1) (iB P) 79) (fun k _=>8-(intOf k).toNat)
 case atStart=>exact⟨0,zPg,S.al,S.cl,S.l,aV _,rfl,h1,s1,bx1,rx1⟩
 case round=>
  clear h1 s1 bx1 rx1 i s;obtain⟨q,P,a,c,l,hq,rfl,hm,hs,bx,rx⟩:=hrel;have hb:w.heap.size+2≤wr.heap.size:=rx.lt
  by_cases hq8:q<8
  ·have t:(q:Int)<8:=by omega
   go_wp2_with fail
   refine (fB _ 4 B b _ hm (by omega)).mono ?_;rintro r w2 ⟨x,a2,c2,l2,rfl,g,f,hx,_⟩;rw[nQ] at g f;have bx2:=f.blkN bx n.out;have rx2:=f.blkN rx m.out;have j:=hs.trans f;obtain⟨x,rfl⟩:∃y:UInt8,x=(y.toNat:Int):=⟨UInt8.ofNat x.toNat,by rw[UInt8.toNat_ofNat'];omega⟩;have ha:((x.toNat:Nat):Int)<256:=hx.2.1;clear hm hs bx rx f hx
   go_wp2_with (refine aA rfl _ _ _ rfl (w.heap.size+1) q _ [.int .u8 x.toNat] rfl rfl rfl _ _ rx2 (by show q+1≤8;omega) (by kernel_rfl) (fun u hu=>by cases bv.1 hu;rfl) ?_)
   intro w3 rx3 d;rw[Pw.putAt_one,Cx _ q hq8] at rx3;have z:=g.locT rx2 (by decide) m.out (by have:=o.out;omega) d;have p:=j.loc d (xA _);have bx3:=bx2.grown d (fun e=>by have:=aJ e;omega);clear g j bx2 rx2 d;go_wp2;go_roundw
   case rel=>exact⟨q+1,_,a2,c2,l2,by omega,by go_num,z,p,bx3,rx3⟩
   case measure=>simp[intOf];omega
  have t:¬(q:Int)<8:=by omega
  go_wp2_with (first | (refine ax _ _ rfl (w.heap.size+1) 0 rfl rfl _ rx.rd _ underlying79 rfl psize ?_) | (refine az rfl _ _ _ rfl w.heap.size (iB P) rfl rfl _ _ bx rfl psize (jy _) ?_))
  intro w3 bx3 d;go_wp2;refine bodyPost_ret (v:=.agg (iB P)) (eF results33 _ _ w.heap.size _ _ _ rfl bx3 underlying79 rfl psize) rfl ?_;exact⟨P,a,c,l,rfl,hm.locT bx (by decide) n.out (by have:=o.out;omega) d,hs.loc d (ay _)⟩
def MW.frs (S:MW) (fs:List Fr):MW:={ S with H:={ S.H with m:=⟨fs,S.H.m.hand⟩ } }
def Vl (S:MW) (f:Fr) (B b:Nat) (w:World) (r:Ending) (w' : World):Prop:=∃x a c l fs,r = .returned (.int .i64 x)∧ed w' B b ((S.lst a c l).frs fs)∧MS w b S w' ((S.lst a c l).frs fs) ∧
   ((x = -1∧fs=S.H.m.fs)∨∃j:Nat,x=j∧j<S.H.m.fs.length∧(aN S.H.ma j).r=0∧fs=S.H.m.fs.set j f)
theorem DC (S:MW) (f:Fr) (B b:Nat) (w:World) (h:ed w B b S) (hz:S.H.m.fs.length≤1000) :
  Calls Tryz.prog 106 #[.pointer (some ⟨b,0,none⟩),.agg (vW f)] w (Vl S f B b w):=by
 go_enter func106,ntmps106;go_upto_region 1 with (fail);refine gB (fun W=>Code.wp _ _ _ _ W) fun w1 hh bx1 hy => ?_;have h1:=h.below hh;have s1:=(MS.refl w b S).below hh;have hl:=Lib.hid (h.new (ay _));have hJ:=Lib.hid h.bs;have hc:=h1.blk.cell;unfold iV at hc;clear h hh
 go_wp2_with fail
 refine (fB _ _ B b _ h1 (by omega)).mono ?_;rintro r w2 ⟨x,a2,c2,l2,rfl,c,t,hx,_⟩;have bx2:=t.blkN bx1 hl.out;have s:=s1.trans t;clear h1 s1 hc t bx1 hy;go_upto_region 4 with (fail);generalize hnn:S.H.m.fs.length=n at *
 go_loopw [20] (fun k wr => ∃q:Nat,q≤n∧k = .int .i64 q∧wr=w2) (fun k _=>n-(intOf k).toNat)
 case atStart=>exact⟨0,aV _,rfl,rfl⟩
 case round=>
  obtain⟨q,hq,rfl,rfl⟩:=hrel;have hc:=c.blk.cell;unfold iV at hc;dsimp only[MW.lst] at hc;rw[hnn] at hc
  by_cases hqn:q<n
  ·have hA:(q:Int)<(n:Int):=by omega
   obtain⟨X,rfl⟩:=fE hx.1;have hG:(X:Int)<256:=hx.2.1;obtain⟨j,hC,hj⟩:∃j:Nat,j<n∧((X:Int)+(q:Int))%(n:Int)=j:=⟨(X+q)%n,qx _ (by omega),by rw[←Int.natCast_add,←Iz]⟩;have hI:(j:Int)<(n:Int):=by omega
   obtain⟨g,off,cap,cur,hv,hE,hg,hD,z,hs⟩:=c.ma.fr.put fJ (by decide) j (by show j<S.H.m.fs.length;omega);have l:S.H.af=some ⟨g,off,none⟩:=(ng hv).1;rw[l] at hc;have c8:wr.cell? ⟨g,off+j*13+8,none⟩=some (.int .i64 (S.H.m.fs[j]'(by omega)).r):=z 8 _ rfl;have ht:Hid (aN S.H.ma j=S.H.m.fs[j]'(by omega)):=Lib.hid (by unfold aN;show S.H.m.fs.getD j fr0=_;rw[aS,aH (by omega)];rfl);clear hv;have hp:=Lib.hid hs;have hF:=Lib.hid z;clear hs z;generalize S.H.m.fs[j]'(by omega)=Y at c8 ht
   by_cases hr:Y.r=0
   ·rw[hr] at c8;have hH:g≠w.heap.size:=fun e=>hl.out (.inr (by rw[←e];simp[gZ,l,oB];left;rfl));go_upto_region 8 with (fail);refine aM 9 [_,_,_,_,_,_,.v (.int .i64 (j:Int)),_,_] (Gk rfl (Gk rfl (Gf b 1 rfl rfl (Gf b 1 rfl rfl (Gf b 1 rfl rfl (Gl c.blk (V:=.slice (some ⟨g,off,none⟩) n S.H.cf) (by simp[iV,MW.lst,l,hnn]) rfl rfl rfl rfl (ag ?_ (Gr (.agg #[.int .u8 f.p[0].toNat,.int .u8 f.p[1].toNat,.int .u8 f.p[2].toNat,.int .u8 f.p[3].toNat,.int .u8 f.p[4].toNat,.int .u8 f.p[5].toNat,.int .u8 f.p[6].toNat,.int .u8 f.p[7].toNat,.int .i64 f.r,.bool f.u,.bool f.d,.int .i64 f.f,.int .i64 f.i]) (fun ρ y W hb o=>(bC rfl (aF rfl o) (bJ (bx2.ext hb) 0 13) underlying81 rfl (by kernel_rfl))) rfl rfl (Gr (.pointer (some ⟨g,off+j*13,none⟩)) (fun ρ y W hb o=>(bF rfl (aF rfl o) (aF rfl o) hC underlying26 frame_size)) rfl rfl (aC)))))))))) (fun _=>rfl) rfl ?_
    ·intro ρ y W hw hn hb hd;have E8:ρ (.tmp 8) = .int .i64 (j:Int):=(hn (.tmp 8) rfl).trans (by show Value.int IntKind.i64 (((X:Int)+(q:Int))%(n:Int))=_;rw[hj]);refine aj (.int .i64 (j:Int)) (ah rfl) (run_move (.inl rfl) E8) rfl
    intro y W3 a _;have hm:=c.below a;have hf:=hg.ext a;have hi:=s.below a;clear c bx2 s a hg hc c8
    go_wp2_with (refine aA rfl _ _ _ rfl g (off+j*13) _ (qf f) rfl rfl rfl _ _ hf (by rw[fJ];exact hD) (by kernel_rfl) (bS (qw f)) ?_)
    intro w4 h4 ha;have hk:=hp.out _ f h4;have hB:=hm.putF hf hE ha (fs:=S.H.m.fs.set j f) (by simp[MW.lst]) (by simpa[MW.lst] using hk);have hu:=hi.put ha (H':=(S.lst a2 c2 l2).frs (S.H.m.fs.set j f)) (.inr (by simp[gZ,MW.lst,l,oB];left;rfl)) (fun x hx => .inl hx);clear hm hi hf ha h4 hk;go_wp2;go_ret;exact⟨j,a2,c2,l2,_,rfl,hB,hu,.inr ⟨j,rfl,by omega,by rw[ht.out];exact hr,rfl⟩⟩
   go_wp2;go_roundw
   case rel=>exact⟨q+1,by omega,by go_num,by first | rfl | trivial⟩
   case measure=>simp[intOf];omega
  have hA:¬(q:Int)<(n:Int):=by omega
  go_wp2;go_ret;exact⟨-1,a2,c2,l2,S.H.m.fs,rfl,c,s,.inl ⟨rfl,rfl⟩⟩
theorem Tg {o:Nat} (h:dP w (some ⟨b,o,none⟩) (xs++ys)):dP w (some ⟨b,o,none⟩) xs:=fun i u hi=>h i u (by
 rw[kY (cK.1 hi).1];exact hi)
theorem Tt (x:Fr):∃ys,qf x=Br x.p++ys:=⟨_,rfl⟩
theorem Pb {l:List Cc} {c:Cc} {f i:Int} (hc:l[q]?=some c) (hno:∀d∈l.take q,¬(d.f=f∧d.i=i)) (hy:c.f=f∧c.i=i):l.find? (fun c=>decide (c.f=f)&&decide (c.i=i))=some c:=by
 rw[←qp q l,List.find?_append,oC.2 (fun d hd=>by have:=hno d hd;simp only[dS,decide_eq_true_eq];exact this)];rw[vv (cK.1 hc).1,(cK.1 hc).2,List.find?_cons,hy.1,hy.2];simp
theorem Ey {l:List Cc} {f i:Int} (hno:∀d∈l,¬(d.f=f∧d.i=i)):l.find? (fun c=>decide (c.f=f)&&decide (c.i=i))=none:=
 oC.2 (fun d hd=>by have:=hno d hd;simp only[dS,decide_eq_true_eq];exact this)
theorem Ae (H:MH) (f i:Int) (w:World) (h:BR w H) (hz:H.ca.length≤1000∧∀f∈H.ma.st.fs,f.b.length≤1000) (hck:∀c∈H.ca,0≤c.k∧c.k<H.m.fs.length) (hf:0≤f∧f<H.fi.length) (hi:0≤i∧i<(aK H.ma.st f).b.length) :
  Calls Tryz.prog 54 #[.agg (dh H),.int .i64 f,.int .i64 i] w fun r w'=>r = .returned (.agg (iB (bA H.ma f i)))∧Below w.heap.size w w':=by
 have z7:H.ca.length≤1000:=hz.1;go_enter func54,ntmps54;go_upto_region 1 with (fail);refine rE (fun W=>Code.wp _ _ _ _ W) fun w1 hR bx1 rx1 hW => ?_;clear hW;have hr:=bx1.cell;unfold dh at hr;go_upto_region 2 with (fail);clear hr
 go_loopw [16] (fun k wr => ∃q:Nat,q≤H.ca.length∧k = .int .i64 q∧Below w.heap.size w wr∧aB wr w.heap.size (dh H) 41∧aB wr (w.heap.size+1) (iB zPg) 79∧Hid (∀d∈H.ca.take q,¬(d.f=f∧d.i=i))) (fun k _=>H.ca.length-(intOf k).toNat)
 case atStart=>exact⟨0,aV _,rfl,hR,bx1,rx1,Lib.hid (by simp)⟩
 case round=>
  clear hR bx1 rx1;obtain⟨q,hq,rfl,g,bx,rx,hv⟩:=hrel
  by_cases hql:q<H.ca.length
  ·obtain⟨bc,oc,h0,t⟩:=zW (h.below g).ca.rd q hql;obtain⟨c,hc⟩:∃c,H.ca[q]?=some c:=⟨_,aH hql⟩;rw[show H.ca[q]=c from (cK.1 hc).2] at t;have hY:(q:Int)<(H.ca.length:Int):=by omega
   have hC:=hck c (bO hc);have hO:=Lib.hid hc;clear hc;rw[h0]
   go_wp2_with (first | (refine ax _ _ rfl bc (oc+q*3) rfl rfl _ t _ underlying106 rfl cached_size ?_) | (refine aI rfl _ _ _ rfl (Ao c) rfl rfl rfl cached_size (vL c) ?_))
   intro w3 hA cx3;have ha:=ae g hA;have bx3:=bx.ext hA;have rx3:=rx.ext hA;have s:=cx3.cell;have kc:=rx3.lt;clear g bx rx hA t;unfold Ao at s
   by_cases hy:c.f=f∧c.i=i
   ·obtain⟨ht,hD⟩:=hy;obtain⟨k,hk⟩:=fE hC.1;have hL:k<H.m.fs.length:=by have:=hC.2;omega
    obtain⟨bf,of,h3,hg⟩:=jX fJ (by decide) (h.below ha).fr.rd k hL;have hM:(k:Int)<(H.m.fs.length:Int):=by omega
    have o:Hid (bA H.ma f i=(H.m.fs[k]).p):=Lib.hid (by unfold bA;rw[show H.ma.ca.find? (fun c=>decide (c.f=f)&&decide (c.i=i))=some c from Pb hO.out hv.out ⟨ht,hD⟩];show (H.m.fs.getD c.k.toNat fr0).p=_;rw[hk,aS,show ((k:Nat):Int).toNat=k from rfl,aH hL];rfl);generalize H.m.fs[k]=X at hg o;obtain⟨ys,hI⟩:=Tt X;rw[hI] at hg;have hK:=Tg hg;have hZ:w3.cell? ⟨w.heap.size,0,none⟩=some (.slice (some ⟨bf,of,none⟩) H.m.fs.length H.cf):=by rw[bx3.cell,←h3];rfl
    rw[ht,hD,hk] at s;clear hg hI
    go_wp2_with (first | (refine ax _ _ rfl bf (of+k*13) rfl rfl _ hK _ underlying79 rfl psize ?_) | (refine az rfl _ _ _ rfl (w.heap.size+1) (iB X.p) rfl rfl _ _ rx3 rfl psize (jy X.p) ?_))
    intro w4 rx4 hF;have y:=ha.grown hF ha.size (fun k hk=>by cases hk;omega);clear s hZ;go_wp2;refine bodyPost_ret (v:=.agg (iB X.p)) (eF results54 _ _ (w.heap.size+1) _ _ _ rfl rx4 underlying79 rfl psize) rfl ?_;exact⟨by rw[o.out],y⟩
   have hB : Hid (∀d∈H.ca.take (q+1),¬(d.f=f∧d.i=i)):=Lib.hid fun d hd=>by
    rw[take_at hO.out] at hd;rcases fO.1 hd with hd|hd
    ·exact hv.out d hd
    ·rw[bv.1 hd];exact hy
   by_cases ht:c.f=f
   ·have hD:¬c.i=i:=fun e=>hy ⟨ht,e⟩;clear hy;go_wp2;go_roundw
    case rel=>exact⟨q+1,by omega,by go_num,ha,bx3,rx3,hB⟩
    case measure=>simp[intOf];omega
   clear hy;go_wp2;go_roundw
   case rel=>exact⟨q+1,by omega,by go_num,ha,bx3,rx3,hB⟩
   case measure=>simp[intOf];omega
  have hY:¬(q:Int)<(H.ca.length:Int):=by omega
  rw[iN (by omega)] at hv;have s:=bx.cell;unfold dh at s;obtain⟨F,rfl⟩:=fE hf.1;obtain⟨I,rfl⟩:=fE hi.1;have hV:F<H.fi.length:=by omega
  obtain⟨bf,of,hH,t⟩:=jX jL (by decide) h.st.rd F hV;obtain⟨p,hp⟩:∃p,H.fi[F]?=some p:=⟨_,aH hV⟩;rw[show H.fi[F]=p from (cK.1 hp).2] at t;have hJ:=Lib.hid t;have t:=t.below g;have hm:=(h.below g).st.good p (bO hp);have hn:aK H.ma.st (F:Int)=p.fi:=by unfold aK;rw[if_pos (by omega)];show (H.fi.map PF.fi).getD F ⟨0,[]⟩=p.fi;rw[aS,jO,hp];rfl
  rw[hn] at hi;have hU:I<p.l.length:=by have h2:=hi.2;have e:p.fi.b.length=p.l.length:=rfl;omega
  have h9:p.l.length≤1000:=hz.2 p.fi (gW.2 ⟨p,bO hp,rfl⟩);obtain⟨bb,ob,hE,hr⟩:=jv hm.rd I hU;obtain⟨x,hX⟩:∃x,p.l[I]?=some x:=⟨_,aH hU⟩;rw[show p.l[I]=x from (cK.1 hX).2] at hr;have hb:aX H.ma.st (F:Int) (I:Int)=x:=by unfold aX;rw[hn];show p.l.getD I 0=x;rw[aS,hX];rfl
  have rc:∀j u,(qg p)[j]?=some u→wr.cell? ⟨bf,of+F*2+j,none⟩=some u:=fun j u hj=>by obtain⟨b',o',e,hG⟩:=t j u hj;cases e;exact hG
  have rc0:wr.cell? ⟨bf,of+F*2,none⟩=some (.int .i64 p.n):=rc 0 _ rfl;have rc1:wr.cell? ⟨bf,of+F*2+1,none⟩=some (.slice p.a p.l.length p.c):=rc 1 _ rfl;have o:Hid (bA H.ma F I=if 0≤x then fu (jc H.dk x) (p.n-(I:Int)*8) else zPg):=Lib.hid (by unfold bA;rw[show H.ma.ca.find? (fun c=>decide (c.f=(F:Int))&&decide (c.i=(I:Int)))=none from Ey hv.out,hb,hn];rfl);have ke:(F:Int)<(H.fi.length:Int):=by omega
  have kd:(I:Int)<(p.l.length:Int):=by omega
  rw[hE] at rc1;rw[hH] at s;have h4:=Lib.hid t;have hS:=Lib.hid hH;have h5:=Lib.hid hE;have h6:=Lib.hid hn;clear rc t hH hE hn hp hX hb hi hm
  by_cases hx:x<0
  ·go_wp2_with (refine az rfl _ _ _ rfl (w.heap.size+1) (iB zPg) rfl rfl _ _ rx rfl psize (jy _) ?_)
   intro w4 rx4 hF;have y:=g.grown hF g.size (fun k hk=>by cases hk;omega);clear s;go_wp2;refine bodyPost_ret (v:=.agg (iB zPg)) (eF results54 _ _ (w.heap.size+1) _ _ _ rfl rx4 underlying79 rfl psize) rfl ?_;exact⟨by rw[o.out,if_neg (by omega)],y⟩
  go_wp2_with (refine ax _ _ rfl w.heap.size 5 rfl rfl _ (bJ bx 5 2) _ underlying34 rfl disk_size ?_)
  refine (Pz H.dk x _ _ _ _ _ (h.below g).dk).mono ?_;rintro r w4 ⟨rfl,y⟩;have hN:=aB.new w4 (iB zPg) 79;have hb:Below w4.heap.size w4 (w4.alloc (.cells (iB zPg) 79)):=(Below.refl _ _).alloc (ay _) _;have kb:=y.size;have ka:=rx.lt;have bx5:=(bx.ext y).ext hb;have rx5:=(rx.ext y).ext hb;have hs:=ae (ae g y) hb;clear s hr rc0 rc1 bx rx g
  go_wp2_with (refine az rfl _ _ _ rfl w4.heap.size (iB (jc H.dk x)) rfl rfl _ _ hN rfl psize (jy _) ?_)
  intro w5 px6 hw;have hQ:=hs.grown hw hs.size (fun k hk=>by cases hk;omega);have bx6:=bx5.grown hw (fun e=>by have:=aJ e;omega);have rx6:=rx5.grown hw (fun e=>by have:=aJ e;omega);clear hN hb bx5 rx5 hs hw y;generalize jc H.dk x=P at px6 o;generalize hp4:w4.heap.size=p4 at *
  clear hp4;go_upto_region 12 with (fail)
  go_loopw [59] (fun j wr => ∃k:Nat,k≤8∧j = .int .i64 k∧Below w.heap.size w wr∧aB wr w.heap.size (dh H) 41∧aB wr (w.heap.size+1) (iB zPg) 79∧aB wr p4 (iB (iR P (p.n-(I:Int)*8) k)) 79) (fun j _=>8-(intOf j).toNat)
  case atStart=>exact⟨0,by omega,rfl,hQ,bx6,rx6,by rw[show iR P (p.n-(I:Int)*8) 0=P from by ext j hj;simp[iR]];exact px6⟩
  case round=>
   clear hQ bx6 rx6 px6;obtain⟨k,hk,rfl,g,bx,rx,px⟩:=hrel
   by_cases hk8:k<8
   ·have hM:(k:Int)<8:=by omega
    have s:=bx.cell;unfold dh at s;rw[hS.out] at s;have rc0:wr.cell? ⟨bf,of+F*2,none⟩=some (.int .i64 p.n):=by obtain⟨b',o',e,hG⟩:=(hJ.out.below g) 0 _ rfl;cases e;exact hG
    have h8:IntKind.i64.wrap (8*(I:Int))=8*(I:Int):=bM _ (by omega);have h7:IntKind.i64.wrap (8*(I:Int)+(k:Int))=8*(I:Int)+(k:Int):=bM _ (by omega)
    by_cases hge:p.n≤8*(I:Int)+k
    ·have z:Hid ((iB (iR P (p.n-(I:Int)*8) k)).setIfInBounds k (.int .u8 0)=iB (iR P (p.n-(I:Int)*8) (k+1))):=Lib.hid (by rw[←AR P _ k hk8 (by omega)];exact Cx _ k hk8 0);generalize hT:iR P (p.n-(I:Int)*8) k=T at px z;clear hT
     go_wp2_with (refine aA rfl _ _ _ rfl p4 k _ [.int .u8 0] rfl rfl rfl _ _ px (by show k+1≤8;omega) (by kernel_rfl) (fun u hu=>by cases bv.1 hu;rfl) ?_)
     intro w7 px7 hl;rw[Pw.putAt_one,z.out] at px7;have hP:=g.grown hl g.size (fun k hk=>by cases hk;omega);have bx7:=bx.grown hl (fun e=>by have:=aJ e;omega);have rx7:=rx.grown hl (fun e=>by have:=aJ e;omega);clear g bx rx px hl s rc0;go_wp2;go_roundw
     case rel=>exact⟨k+1,by omega,by go_num,hP,bx7,rx7,px7⟩
     case measure=>simp[intOf];omega
    have z:iR P (p.n-(I:Int)*8) k=iR P (p.n-(I:Int)*8) (k+1):=by
     ext j hj
     simp only[iR,rR]
     by_cases e:p.n-(I:Int)*8≤(j:Int)
     ·rw[if_neg (by omega),if_neg (by omega)]
     ·rw[if_neg (by omega),if_neg (by omega)]
    rw[z] at px;clear z;go_wp2;go_roundw
    case rel=>exact⟨k+1,by omega,by go_num,g,bx,rx,px⟩
    case measure=>simp[intOf];omega
   have hM:¬(k:Int)<8:=by omega
   rw[Ba _ _ k (by omega)] at px;have hh : Hid (bA H.ma F I=fu P (p.n-(I:Int)*8)):=Lib.hid (by rw[o.out,if_pos (by omega)]);generalize fu P (p.n-(I:Int)*8)=C at px hh
   go_wp2_with (first | (refine ax _ _ rfl p4 0 rfl rfl _ px.rd _ underlying79 rfl psize ?_) | (refine az rfl _ _ _ rfl (w.heap.size+1) (iB C) rfl rfl _ _ rx rfl psize (jy _) ?_))
   intro w7 rx7 hl;have h1:=g.grown hl g.size (fun k hk=>by cases hk;omega);go_wp2;refine bodyPost_ret (v:=.agg (iB C)) (eF results54 _ _ (w.heap.size+1) _ _ _ rfl rx7 underlying79 rfl psize) rfl ?_;exact⟨by rw[hh.out],h1⟩
end Go.Proofs.YtjkkoeijlhfneaaGreat