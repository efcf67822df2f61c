import Derived.Test.YtjkkoeijlhfneaaGreatV4
import Derived.ArgAppend
import Derived.Deep.DeepCutAuto
import Derived.BigRegion
set_option linter.unusedSimpArgs false
set_option linter.unusedVariables false
set_option maxHeartbeats 4000000
set_option maxRecDepth 100000
namespace Go.Proofs.YtjkkoeijlhfneaaGreat
open _root_.Go.Proofs.Tryz
open Go.RowKit Go.Maps Pw
variable {B B' B0 O b c cb cq ct cv f g gd gk i j k n off p q rx s sz:Nat} {D:mZ} {H N:MH} {L L':Nat → Bool} {P:Program} {Q:Exit → Act → World → Prop} {T e t:TypeId} {W W' W0 w w' w0 w1 w2:World} {a ab aq av:Option Addr} {bl:List Page} {cs:Array Value} {fs:List Fi} {h x:Operand} {l' ps:List PF} {lo:Int} {m:Ma} {o:Oper} {ops:Array Oper} {p':PF} {rest:List Oper} {sl:List Int} {v vb vq:Value} {vs xs ys:List Value} {y:Nat → Value} {ρ:Operand → Value}
theorem zS (H:MH) (w:World) (h:BF w H) (hz:RF H.ma) :
  Calls Tryz.prog 40 #[.agg (dD H)] w fun r w' => ∃H' : MH,r = .returned (.agg (dD H'))∧uj w' w.heap.size H'∧H'.ma=H.ma∧(∀p∈H'.fi,∀x,oB p.a=some x→oB H'.asl≠some x)∧Below w.heap.size w w':=by
 have z1:H.m.fs.length≤1000:=hz.fs;have z2:H.sl.length≤1000:=hz.sl;have z3:H.sw.blocks.length≤1000:=hz.swb;have z4:H.sw.queue.length≤1000:=hz.swq;have z5:H.dk.blocks.length≤1000:=hz.dkb;have z6:H.dk.queue.length≤1000:=hz.dkq;have z7:H.ca.length≤1000:=hz.ca;have z8:H.sp.length≤1000:=by have:=hz.sp.1;rw[CR] at this;exact this
 have zf:=hz.fsz;go_enter func40,ntmps40;go_upto_region 1 with (fail);refine qH (fun W=>Code.wp _ _ _ _ W) fun w1 hb1 bx1 rx1 hs1 => ?_;have hm1:=h.below hb1;clear hs1;refine mW 7 [_,_,.r 2 ((UR w1.heap.size H.m)),_,_,.r 5 ((oq w1.heap.size 3 1 H.sl.length (H.sl.map fM))),_] (fun W=>Below w1.heap.size w1 W) gB (Below.refl _ _) (Yf gB w.heap.size 0 rfl rfl (Yr gB (.agg #[.slice H.af H.m.fs.length H.cf,.int .i64 H.m.hand]) (fun ρ y W hb hKn=>(bB rfl (aD rfl hKn) (bF (bx1.ext hb) 0 2) underlying28 rfl (by kernel_rfl))) rfl rfl (ag ?_ (Yf gB w.heap.size 2 rfl rfl (Yc gB (.slice H.asl H.sl.length H.csl) (fun W hb=>by simp[(bx1.ext hb).cell,dD]) rfl rfl rfl rfl (ag ?_ (Yf gB w.heap.size 0 rfl rfl (aB)))))))) (fun _=>rfl) rfl ?_
 ·intro ρ y W hw hn hb hd;refine lM gB hb ((UR w1.heap.size H.m)) (fun _ _ h=>h) ?_;have E7:=hw 7 1 rfl;have h1:y 1 = .agg #[.slice H.af H.m.fs.length H.cf,.int .i64 H.m.hand]:=hd 1 rfl;have EF:∀f,ρ (.func f) = .func (.func f) #[] #[]:=fun f=>hn (.func f) trivial;refine aO _ _ (ah rfl) (aQ rfl (EF _) func73 (by kernel_rfl) (by kernel_rfl) (by simp only[bP,bM,bN,E7,h1,EF];rfl)) ?_;refine (CQ H.m _ _ W (hm1.below hb).fr (by omega)).mono ?_;rintro r w3 ⟨u,rfl,ho,hb1⟩;exact⟨_,rfl,hb1,u,rfl,ho.mono hb.size⟩
 ·intro ρ y W hw hn hb hd;refine lM gB hb ((oq w1.heap.size 3 1 H.sl.length (H.sl.map fM))) (fun _ _ h=>h) ?_;have E10:=hw 10 4 rfl;have h4:y 4 = .slice H.asl H.sl.length H.csl:=hd 4 rfl;have EF:∀f,ρ (.func f) = .func (.func f) #[] #[]:=fun f=>hn (.func f) trivial;refine aO _ _ (ah rfl) (aQ rfl (EF _) func74 (by kernel_rfl) (by kernel_rfl) (by simp only[bP,bM,bN,E10,h4,EF];rfl)) ?_;have hs:=(hm1.below hb).sl;refine (ww H.sl _ _ W hs.le hs.nl hs.rd (by omega)).mono ?_;rintro r w3 ⟨u,rfl,ho,hb1⟩;exact⟨_,rfl,hb1,ho.mono hb.size⟩
 intro y w2 hbw2 hRw2;replace hbw2:Below w1.heap.size w1 w2:=hbw2;have hy2:((UR w1.heap.size H.m)).r (y 2) w2:=hRw2 2 (by decide);have hy5:((oq w1.heap.size 3 1 H.sl.length (H.sl.map fM))).r (y 5) w2:=hRw2 5 (by decide);clear hRw2;simp only[bT,cZ,bM,bN];obtain⟨u1,hu1,ho1⟩:=hy2;have ho2:Own w2 w1.heap.size 3 1 (y 5) H.sl.length (H.sl.map fM):=hy5;obtain⟨a1,c1,rfl,_⟩:=ho1.rd;obtain⟨a2,c2,hu2,_⟩:=Own.rd ho2;rw[hu2] at ho2;rw[hu1,hu2];have bx2:=bx1.ext hbw2;have rx2:=rx1.ext hbw2;have hbr2:=ae hb1 hbw2;have hm2:=hm1.below hbw2;have hw1:=Lib.hid hb1.size;have hlt2:=rx2.lt;clear hbw2 bx1 rx1 hm1 hu1 hu2 hy5
 go_wp2_with (refine fP rfl _ _ _ rfl w.heap.size 0 #[.slice a1 H.m.fs.length c1,.int .i64 H.m.hand] rfl rfl _ _ bx2 (by show 0+2≤11;decide) mem_size (jc _ _ _ _) ?_)
 intro w3 bx3 hg3;have ho13:=ak ho1 bx2 (by decide) hg3;have ho23:=ak ho2 bx2 (by decide) hg3;have hbr3:=hbr2.grown hg3 hbr2.size (fun k hk=>by cases hk;exact ay _);have rx3:=rx2.grown hg3 (fun e=>by have:=aJ e;omega);have bx3' : aC w3 w.heap.size (dD { H with af:=a1,cf:=c1 }) 41:=bx3;clear ho1 ho2 bx2 rx2 hm2 hg3 bx3 hbr2
 go_wp2_with (refine aA rfl _ _ _ rfl w.heap.size 2 _ [.slice a2 H.sl.length c2] rfl rfl rfl _ _ bx3' (by show 2+1≤11;decide) slots_size (fun u hu=>by cases bq.1 hu;rfl) ?_)
 intro w4 bx4 hg4;have ho14:=ak ho13 bx3' (by decide) hg4;have ho24:=ak ho23 bx3' (by decide) hg4;have hbr4:=hbr3.grown hg4 hbr3.size (fun k hk=>by cases hk;exact ay _);have rx4:=rx3.grown hg4 (fun e=>by have:=aJ e;omega);have bx4' : aC w4 w.heap.size (dD { H with af:=a1,cf:=c1,asl:=a2,csl:=c2 }) 41:=bx4;have hm4:=h.below hbr4;clear ho13 ho23 bx3' rx3 hg4 bx4 hbr3;obtain⟨H4,hH4⟩:∃H4:MH,Hid (H4 = { H with af:=a1,cf:=c1,asl:=a2,csl:=c2 }):=⟨_,Lib.hid rfl⟩;go_upto_region 2 with (fail);refine mW 10 [_,_,.r 2 ((xC w4.heap.size H.sw)),_,_,.r 5 ((xC w4.heap.size H.dk)),_,_,.r 8 ((Le w4.heap.size (bZ H.fi H.ct))),_] (fun W=>Below w4.heap.size w4 W) gB (Below.refl _ _) (Yf gB w.heap.size 3 rfl rfl (Yr gB (.agg #[.slice H.wb H.sw.blocks.length H.cwb,.slice H.wq H.sw.queue.length H.cwq]) (fun ρ y W hb hKn=>(bB rfl (aD rfl hKn) (bF (bx4'.ext hb) 3 2) underlying34 rfl (by kernel_rfl))) rfl rfl (ag ?_ (Yf gB w.heap.size 5 rfl rfl (Yr gB (.agg #[.slice H.db H.dk.blocks.length H.cdb,.slice H.dq H.dk.queue.length H.cdq]) (fun ρ y W hb hKn=>(bB rfl (aD rfl hKn) (bF (bx4'.ext hb) 5 2) underlying34 rfl (by kernel_rfl))) rfl rfl (ag ?_ (Yf gB w.heap.size 7 rfl rfl (Yr gB (.agg #[.slice H.ai H.fi.length H.ci,.int .i64 H.ct]) (fun ρ y W hb hKn=>(bB rfl (aD rfl hKn) (bF (bx4'.ext hb) 7 2) underlying37 rfl (by kernel_rfl))) rfl rfl (ag ?_ (Yf gB w.heap.size 3 rfl rfl (aB))))))))))) (fun _=>rfl) rfl ?_
 ·intro ρ y W hw hn hb hd;refine lM gB hb ((xC w4.heap.size H.sw)) (fun _ _ h=>h) ?_;have E15:=hw 15 1 rfl;have h1:y 1 = .agg #[.slice H.wb H.sw.blocks.length H.cwb,.slice H.wq H.sw.queue.length H.cwq]:=hd 1 rfl;have EF:∀f,ρ (.func f) = .func (.func f) #[] #[]:=fun f=>hn (.func f) trivial;refine aO _ _ (ah rfl) (aQ rfl (EF _) func75 (by kernel_rfl) (by kernel_rfl) (by simp only[bP,bM,bN,E15,h1,EF];rfl)) ?_;refine (DZ H.sw _ _ _ _ W (hm4.below hb).sw (by omega) (by omega)).mono ?_;rintro r w3 ⟨u,v,rfl,ho,hb1⟩;exact⟨_,rfl,hb1,u,v,rfl,ho.mono hb.size⟩
 ·intro ρ y W hw hn hb hd;refine lM gB hb ((xC w4.heap.size H.dk)) (fun _ _ h=>h) ?_;have E18:=hw 18 4 rfl;have h4:y 4 = .agg #[.slice H.db H.dk.blocks.length H.cdb,.slice H.dq H.dk.queue.length H.cdq]:=hd 4 rfl;have EF:∀f,ρ (.func f) = .func (.func f) #[] #[]:=fun f=>hn (.func f) trivial;refine aO _ _ (ah rfl) (aQ rfl (EF _) func75 (by kernel_rfl) (by kernel_rfl) (by simp only[bP,bM,bN,E18,h4,EF];rfl)) ?_;refine (DZ H.dk _ _ _ _ W (hm4.below hb).dk (by omega) (by omega)).mono ?_;rintro r w3 ⟨u,v,rfl,ho,hb1⟩;exact⟨_,rfl,hb1,u,v,rfl,ho.mono hb.size⟩
 ·intro ρ y W hw hn hb hd;refine lM gB hb ((Le w4.heap.size (bZ H.fi H.ct))) (fun _ _ h=>h) ?_;have E21:=hw 21 7 rfl;have h7:y 7 = .agg #[.slice H.ai H.fi.length H.ci,.int .i64 H.ct]:=hd 7 rfl;have EF:∀f,ρ (.func f) = .func (.func f) #[] #[]:=fun f=>hn (.func f) trivial;refine aO _ _ (ah rfl) (aQ rfl (EF _) func61 (by kernel_rfl) (by kernel_rfl) (by simp only[bP,bM,bN,E21,h7,EF];rfl)) ?_;refine (Di H.fi H.ct _ _ W (hm4.below hb).st zf).mono ?_;rintro r w3 ⟨u,ps,rfl,ho,he,hb1⟩;exact⟨_,rfl,hb1,u,ps,_,rfl,ho.mono hb.size,by unfold bZ;rw[he]⟩
 intro y w5 hbw5 hRw5;replace hbw5:Below w4.heap.size w4 w5:=hbw5;have hy2:((xC w4.heap.size H.sw)).r (y 2) w5:=hRw5 2 (by decide);have hy5:((xC w4.heap.size H.dk)).r (y 5) w5:=hRw5 5 (by decide);have hy8:((Le w4.heap.size (bZ H.fi H.ct))).r (y 8) w5:=hRw5 8 (by decide);clear hRw5;simp only[bT,cZ,bM,bN];obtain⟨ub,uq,hu3,ho3⟩:=hy2;obtain⟨vb,vq,hu4,ho4⟩:=hy5;obtain⟨us,ps,ks,hu5,ho5,hst⟩:=hy8;have hks : -9223372036854775808≤ks∧ks≤9223372036854775807:=by have e:ks=H.ct:=congrArg St.count hst;rw[e];exact h.c64
 obtain⟨ab,cb,rfl,_⟩:=ho3.b.rd;obtain⟨aq,cq,rfl,_⟩:=ho3.q.rd;obtain⟨db,eb,rfl,_⟩:=ho4.b.rd;obtain⟨dq,eq,rfl,_⟩:=ho4.q.rd;obtain⟨as_,cs,rfl,_⟩:=ho5.rd;rw[hu3,hu4,hu5];have hn2:Hid (∀p∈ps,∀x,oB p.a=some x→oB a2≠some x):=Lib.hid (fun p hp x hx e=>by have h1:=(iK ho24 e).2.choose_spec.lt;obtain⟨i,hi,rfl⟩:=jE.1 hp;have h2:=(iK (ho5.each i _ (aG hi)) hx).1;omega);have bx5:=bx4'.ext hbw5;have rx5:=rx4.ext hbw5;have hbr5:=ae hbr4 hbw5;have ho15:=ho14.below hbw5;have ho25:=ho24.below hbw5;have hw14:=Lib.hid hbr4.size;clear hbw5 bx4' rx4 hm4 hu3 hu4 hu5 ho14 ho24 hbr4
 go_wp2_with (refine fP rfl _ _ _ rfl w.heap.size 3 #[.slice ab H.sw.blocks.length cb,.slice aq H.sw.queue.length cq] rfl rfl _ _ bx5 (by show 3+2≤11;decide) disk_size (kQ _ _ _ _ _ _) ?_)
 intro w6 bx6 hg6;have hbr6:=hbr5.grown hg6 hbr5.size (fun k hk=>by cases hk;exact ay _);have rx6:=rx5.grown hg6 (fun e=>by have:=aJ e;omega);have p1:=ak ho15 bx5 (by decide) hg6;have p2:=ak ho25 bx5 (by decide) hg6;have p3:=ho3.keep bx5 (by decide) (by decide) hg6;have p4:=ho4.keep bx5 (by decide) (by decide) hg6;have p5:=ho5.keep bx5 (by decide) (by decide) hg6;clear bx5 rx5 hg6 ho15 ho25 ho3 ho4 ho5 hbr5
 go_wp2_with (refine fP rfl _ _ _ rfl w.heap.size 5 #[.slice db H.dk.blocks.length eb,.slice dq H.dk.queue.length eq] rfl rfl _ _ bx6 (by show 5+2≤11;decide) disk_size (kQ _ _ _ _ _ _) ?_)
 intro w7 bx7 hg7;have hbr7:=hbr6.grown hg7 hbr6.size (fun k hk=>by cases hk;exact ay _);have rx7:=rx6.grown hg7 (fun e=>by have:=aJ e;omega);have q1:=ak p1 bx6 (by decide) hg7;have q2:=ak p2 bx6 (by decide) hg7;have q3:=p3.keep bx6 (by decide) (by decide) hg7;have q4:=p4.keep bx6 (by decide) (by decide) hg7;have q5:=p5.keep bx6 (by decide) (by decide) hg7;clear bx6 rx6 hg7 p1 p2 p3 p4 p5 hbr6
 go_wp2_with (refine fP rfl _ _ _ rfl w.heap.size 7 #[.slice as_ ps.length cs,.int .i64 ks] rfl rfl _ _ bx7 (by show 7+2≤11;decide) store_size (qV _ _ _ _) ?_)
 intro w8 bx8 hg8;have hbr8:=hbr7.grown hg8 hbr7.size (fun k hk=>by cases hk;exact ay _);have rx8:=rx7.grown hg8 (fun e=>by have:=aJ e;omega);have p1:=ak q1 bx7 (by decide) hg8;have p2:=ak q2 bx7 (by decide) hg8;have p3:=q3.keep bx7 (by decide) (by decide) hg8;have p4:=q4.keep bx7 (by decide) (by decide) hg8;have p5:=q5.keep bx7 (by decide) (by decide) hg8;obtain⟨H8,hH8⟩:∃H8:MH,Hid (H8 = { H with af:=a1,cf:=c1,asl:=a2,csl:=c2,wb:=ab,cwb:=cb,wq:=aq,cwq:=cq,db:=db,cdb:=eb,dq:=dq,cdq:=eq,ai:=as_,ci:=cs,fi:=ps,ct:=ks }):=⟨_,Lib.hid rfl⟩;have bx8' : aC w8 w.heap.size (dD H8) 41:=by rw[hH8.out];exact bx8
 have hm8:=h.below hbr8;clear bx7 rx7 hg8 bx8 q1 q2 q3 q4 q5 hbr7;have hcb:w8.cell? ⟨w.heap.size,9,none⟩=some (.slice H.ac H.ca.length H.cc):=by rw[bx8'.cell,hH8.out];rfl
 go_wp2_with fail
 refine (Ia H.ca H.ac H.cc _ hm8.ca.le hm8.ca.nl hm8.ca.rd (by omega)).mono ?_;rintro r w9 ⟨v9,rfl,ho9,hb9⟩;obtain⟨a6,c6,rfl,_⟩:=ho9.rd;have bx9:=bx8'.ext hb9;have rx9:=rx8.ext hb9;have hbr9:=ae hbr8 hb9;have q1:=p1.below hb9;have q2:=p2.below hb9;have q3:=p3.below hb9;have q4:=p4.below hb9;have q5:=p5.below hb9;have hw8:=Lib.hid hbr8.size;clear hcb bx8' rx8 hm8 p1 p2 p3 p4 p5 hb9 hbr8
 go_wp2_with (refine aA rfl _ _ _ rfl w.heap.size 9 _ [.slice a6 H.ca.length c6] rfl rfl rfl _ _ bx9 (by show 9+1≤11;decide) caO_size (fun u hu=>by cases bq.1 hu;rfl) ?_)
 intro w10 bx10 hg10;have hbr10:=hbr9.grown hg10 hbr9.size (fun k hk=>by cases hk;exact ay _);have rx10:=rx9.grown hg10 (fun e=>by have:=aJ e;omega);have p1:=(ak q1 bx9 (by decide) hg10).mono hw1.out;have p2:=(ak q2 bx9 (by decide) hg10).mono hw1.out;have p3:=(q3.keep bx9 (by decide) (by decide) hg10).mono hw14.out;have p4:=(q4.keep bx9 (by decide) (by decide) hg10).mono hw14.out;have p5:=(q5.keep bx9 (by decide) (by decide) hg10).mono hw14.out;have p6:=(ak ho9 bx9 (by decide) hg10).mono hw8.out;obtain⟨G,hG⟩:∃G:MH,Hid (G = { H with af:=a1,cf:=c1,asl:=a2,csl:=c2,wb:=ab,cwb:=cb,wq:=aq,cwq:=cq,db:=db,cdb:=eb,dq:=dq,cdq:=eq,ai:=as_,ci:=cs,fi:=ps,ct:=ks,ac:=a6,cc:=c6 }):=⟨_,Lib.hid rfl⟩;have bxG:aC w10 w.heap.size (dD G) 41:=by rw[hG.out];rw[hH8.out] at bx10;exact bx10
 clear bx9 rx9 hg10 bx10 q1 q2 q3 q4 q5 ho9 hbr9;have hGap:Hid (G.ap=H.ap∧G.sp=H.sp∧G.cp=H.cp):=Lib.hid (by rw[hG.out];exact⟨rfl,rfl,rfl⟩);have hcb:w10.cell? ⟨w.heap.size,10,none⟩=some (.slice H.ap H.sp.length H.cp):=by rw[bxG.cell,hG.out];rfl
 have hm10:=h.below hbr10;have ho0:Own w10 w.heap.size 55 10 (.slice none 0 0) ([]:List PS).length (([]:List PS).flatMap tF):=by simpa using Own.nil _ _ _ _
 go_upto_region 6 with (fail);clear hcb hm10
 go_loopw [3,33] (fun s3 i wr => ∃(q:Nat) (qs:List PS) (av:Option Addr) (cv:Nat),q≤H.sp.length∧i = .int .i64 q∧s3 = .slice av qs.length cv∧Below w.heap.size w wr∧aC wr w.heap.size (dD G) 41∧aC wr (w.heap.size+1) _ 41 ∧
  Own wr w.heap.size 81 13 (.slice a1 H.m.fs.length c1) H.m.fs.length (H.m.fs.flatMap pO)∧Own wr w.heap.size 3 1 (.slice a2 H.sl.length c2) H.sl.length (H.sl.map fM)∧ic wr w.heap.size (.slice ab H.sw.blocks.length cb) (.slice aq H.sw.queue.length cq) H.sw∧ic wr w.heap.size (.slice db H.dk.blocks.length eb) (.slice dq H.dk.queue.length eq) H.dk ∧
  nM wr w.heap.size (.slice as_ ps.length cs) ps∧Own wr w.heap.size 106 3 (.slice a6 H.ca.length c6) H.ca.length (H.ca.flatMap mh)∧Own wr w.heap.size 55 10 (.slice av qs.length cv) qs.length (qs.flatMap tF)∧(∀p∈qs,uU wr w.heap.size p p.sp∧Ey p.tb)∧Hid (qs.map PS.sp=(H.sp.take q).map PS.sp)) (fun _ i _=>H.sp.length-(intOf i).toNat)
 case atStart=>exact⟨0,[],none,0,aS _,rfl,rfl,hbr10,bxG,rx10,p1,p2,p3,p4,p5,p6,ho0,fun p hp=>(by simp at hp),Lib.hid rfl⟩
 case round=>
  clear hbr10 bxG rx10 p1 p2 p3 p4 p5 p6 ho0;obtain⟨q,qs,av,cv,hq,rfl,rfl,hbr,bx,rx,p1,p2,p3,p4,p5,p6,ho,hps,hqs⟩:=hrel;have hql:qs.length≤q:=by have:=congrArg List.length hqs.out;rw[fe,fe,kK] at this;omega
  by_cases hql2:q<H.sp.length
  ·obtain⟨bs,os,P,hap,hP,hrd⟩:=xH (h.below hbr).sp.rd q hql2;have hgood:=wJ (h.below hbr) hP;have hPm:=bQ hP;obtain⟨hz1,hz2⟩:=hz.spz hPm;have hqi:(q:Int)<(H.sp.length:Int):=by omega
   have hqs2:Hid (qs.map PS.sp++[P.sp]=(H.sp.take (q+1)).map PS.sp):=Lib.hid (by rw[take_at hP,jf,hqs.out];rfl);rw[hap];have hps1:(vM P).all (·.oneCell')=true:=by rw[←ky,dL];exact hgood.one
   go_wp2_with (first | (refine ax _ _ rfl bs (os+q*10) rfl rfl _ hrd _ underlying55 rfl space_size ?_) | (refine aI rfl _ _ _ rfl (vM P) rfl rfl rfl space_size hps1 ?_))
   intro w11 hb11 fx;have hbr11:=ae hbr hb11;have hg11:=hgood.below hb11;have bx11:=bx.ext hb11;have rx11:=rx.ext hb11;have q1:=p1.below hb11;have q2:=p2.below hb11;have q3:=p3.below hb11;have q4:=p4.below hb11;have q5:=p5.below hb11;have q6:=p6.below hb11;have hO:=ho.below hb11;have hps11:∀p∈qs,uU w11 w.heap.size p p.sp∧Ey p.tb:=fun p hp=>⟨(hps p hp).1.below hb11,(hps p hp).2⟩;have hgw:=Lib.hid hbr11.size;clear hbr hgood bx rx p1 p2 p3 p4 p5 p6 ho hps hb11 hrd hps1 hP;go_upto_region 8 with (fail);refine Ue 0 3 (.slice av qs.length cv) (by kernel_rfl) (by kernel_rfl) rfl fun ops0 hops0 => ?_;simp only[freedL,Bh] at hops0;subst hops0;refine EU 11 12 [] [uy (.slice av qs.length cv),uy (.pointer (some ⟨wr.heap.size,0,none⟩)),uy (.bool P.lv),uy (.pointer (some ⟨wr.heap.size,1,none⟩)),uy (.slice P.aa P.ar.length P.ac),(oq w11.heap.size 99 7 P.ar.length (P.ar.flatMap mF)),uy (.pointer (some ⟨wr.heap.size,2,none⟩)),uy (.agg (ng P.ts)),(Kh w11.heap.size P.tb),(Vj w11.heap.size P.sp),(VH w11.heap.size P.sp)] (by kernel_rfl) (by kernel_rfl) (by kernel_rfl) (by kernel_rfl) (by kernel_rfl) (by decide) (Nat.le_of_ble_eq_true (by kernel_rfl)) _ rfl (by kernel_rfl) (ag ?_ (ag ?_ (ag ?_ (ag ?_ (ag ?_ (ag ?_ (ag ?_ (ag ?_ (ag ?_ (ag ?_ (ag ?_ (aB)))))))))))) (aB) rfl ?_
   ·refine bD rfl ?_;intro ρ y W hw hn hb hd;refine aj (.slice av qs.length cv) (ah rfl) (run_move (.inl rfl) (hn (.const _) trivial)) rfl
   ·refine bD rfl ?_;intro ρ y W hw hn hb hd;have E5:ρ (.tmp 5) = .pointer (some ⟨wr.heap.size,0,none⟩):=(hn (.tmp 5) rfl).trans rfl;refine aj (.pointer (some ⟨wr.heap.size,0,none⟩)) (ah rfl) (by simp[execOp,go_sem,E5]) rfl
   ·refine bD rfl ?_;intro ρ y W hw hn hb hd;have E38:=hw 38 1 rfl;have h1:y 1 = .pointer (some ⟨wr.heap.size,0,none⟩):=hd 1 rfl;refine aj (.bool P.lv) (ah rfl) (by simp[execOp,go_sem,E38,h1,(fx.ext hb).cell,vM]) rfl
   ·refine bD rfl ?_;intro ρ y W hw hn hb hd;have E5:ρ (.tmp 5) = .pointer (some ⟨wr.heap.size,0,none⟩):=(hn (.tmp 5) rfl).trans rfl;refine aj (.pointer (some ⟨wr.heap.size,1,none⟩)) (ah rfl) (by simp[execOp,go_sem,E5]) rfl
   ·refine bD rfl ?_;intro ρ y W hw hn hb hd;have E40:=hw 40 3 rfl;have h3:y 3 = .pointer (some ⟨wr.heap.size,1,none⟩):=hd 3 rfl;refine aj (.slice P.aa P.ar.length P.ac) (ah rfl) (by simp[execOp,go_sem,E40,h3,(fx.ext hb).cell,vM]) rfl
   ·refine bD rfl ?_;intro ρ y W hw hn hb hd;have E41:=hw 41 4 rfl;have h4:y 4 = .slice P.aa P.ar.length P.ac:=hd 4 rfl;have EF:∀f,ρ (.func f) = .func (.func f) #[] #[]:=fun f=>hn (.func f) trivial;refine aO _ _ (ah rfl) (aQ rfl (EF _) func41 (by kernel_rfl) (by kernel_rfl) (by simp only[bP,bM,bN,E41,h4,EF];rfl)) ?_;have hA:=(hg11.below hb).ars;refine (Jd P.ar P.aa P.ac W hA.le hA.nl hA.rd (by omega)).mono ?_;rintro e w1 ⟨u,rfl,ho,hb1⟩;exact⟨u,rfl,hb1,ho.mono hb.size⟩
   ·refine bD rfl ?_;intro ρ y W hw hn hb hd;have E5:ρ (.tmp 5) = .pointer (some ⟨wr.heap.size,0,none⟩):=(hn (.tmp 5) rfl).trans rfl;refine aj (.pointer (some ⟨wr.heap.size,2,none⟩)) (ah rfl) (by simp[execOp,go_sem,E5]) rfl
   ·refine bD rfl ?_;intro ρ y W hw hn hb hd;have E43:=hw 43 6 rfl;have h6:y 6 = .pointer (some ⟨wr.heap.size,2,none⟩):=hd 6 rfl;refine aj (.agg (ng P.ts)) (ah rfl) (bB rfl (E43.trans h6) (bF (fx.ext hb) 2 8) underlying53 tab_agg tab_size) rfl
   ·refine bD rfl ?_;intro ρ y W hw hn hb hd;have E44:=hw 44 7 rfl;have h7:y 7 = .agg (ng P.ts):=hd 7 rfl;have EF:∀f,ρ (.func f) = .func (.func f) #[] #[]:=fun f=>hn (.func f) trivial;refine aO _ _ (ah rfl) (aQ rfl (EF _) func77 (by kernel_rfl) (by kernel_rfl) (by simp only[bP,bM,bN,E44,h7,EF];rfl)) ?_;refine (Jp P.tb (ng P.ts) W (hg11.below hb).tb hz2).mono ?_;rintro e w1 ⟨u,rfl,ho,hb1⟩;exact⟨_,rfl,hb1,u,rfl,ho.mono hb.size⟩
   ·refine bD rfl ?_;intro ρ y W hw hn hb hd;have E39:=hw 39 2 rfl;have h2:y 2 = .bool P.lv:=hd 2 rfl;have E42:=hw 42 5 rfl;have h5:((oq w11.heap.size 99 7 P.ar.length (P.ar.flatMap mF))).r (y 5) W:=hd 5 rfl;have E45:=hw 45 8 rfl;have h8:((Kh w11.heap.size P.tb)).r (y 8) W:=hd 8 rfl;obtain⟨x5,c5,e5,_⟩:=Own.rd h5;obtain⟨cs8,e8,ho8⟩:=h8;obtain⟨v8,rfl⟩:=QD ho8.sz;have hO5:Own W w11.heap.size 99 7 (.slice x5 P.ar.length c5) P.ar.length (P.ar.flatMap mF):=by rw[←e5];exact h5
    refine aj (.agg (vM ⟨P.lv,x5,c5,P.ar,v8,P.tb⟩)) (ah rfl) (by simp[execOp,go_sem,E39.trans h2,E42,e5,E45,e8,ng,vM]) ?_;exact⟨⟨P.lv,x5,c5,P.ar,v8,P.tb⟩,rfl,rfl,hO5,ho8⟩
   ·refine bD rfl ?_;intro ρ y W hw hn hb hd;have E46:=hw 46 9 rfl;have h9:((Vj w11.heap.size P.sp)).r (y 9) W:=hd 9 rfl;obtain⟨p9,e9,hg9⟩:=h9;refine jL (.slice (some ⟨W.heap.size,0,none⟩) 1 1) (ah rfl) (by simp[execOp,go_sem,E46,e9,vM]) ((Below.refl _ _).alloc (ay _) (.cells (vM p9) 55)) ?_;exact⟨_,p9,rfl,dN.new _ _ _,hg9.below ((Below.refl _ _).alloc (ay _) _)⟩
   intro ρ y WA o ho hw hn hV hbWA hRWA;cases ho;have hy0:y 0 = .slice av qs.length cv:=hRWA 0 (by decide);have hy1:y 1 = .pointer (some ⟨wr.heap.size,0,none⟩):=hRWA 1 (by decide);have hy2:y 2 = .bool P.lv:=hRWA 2 (by decide);have hy3:y 3 = .pointer (some ⟨wr.heap.size,1,none⟩):=hRWA 3 (by decide);have hy4:y 4 = .slice P.aa P.ar.length P.ac:=hRWA 4 (by decide);have hy5:((oq w11.heap.size 99 7 P.ar.length (P.ar.flatMap mF))).r (y 5) WA:=hRWA 5 (by decide);have hy6:y 6 = .pointer (some ⟨wr.heap.size,2,none⟩):=hRWA 6 (by decide);have hy7:y 7 = .agg (ng P.ts):=hRWA 7 (by decide);have hy8:((Kh w11.heap.size P.tb)).r (y 8) WA:=hRWA 8 (by decide);have hy9:((Vj w11.heap.size P.sp)).r (y 9) WA:=hRWA 9 (by decide);have hy10:((VH w11.heap.size P.sp)).r (y 10) WA:=hRWA 10 (by decide);have E37:=hw 37 0 rfl;rw[hy0] at E37;have E47:=hw 47 10 rfl;have EC:∀v,ρ (.const v)=v:=fun v=>hn (.const v) trivial;have EF:∀f,ρ (.func f) = .func (.func f) #[] #[]:=fun f=>hn (.func f) trivial;obtain⟨g10,p10,e10,hrd10,hg10⟩:=hy10;refine II (ah rfl) (pz (.tmp 37) (.tmp 47) 39 rfl w.heap.size 55 _ 10 224 underlying39 space_info rfl (by decide) _ _ _ E37 (hO.below hbWA) _ 1 1 (tF p10) (E47.trans e10) (fun e=>by cases e) (ay _) rfl hrd10 (Rs hg10) (by unfold maxLen;omega) (by omega) (aX hgw.out hbWA.size)) ?_;rintro v2 w13 ⟨hown13,hgr13,hcase13⟩;clear hRWA hw hn hV;simp only[lay,Nat.reduceAdd,Nat.reduceLT,Nat.reduceEqDiff,reduceIte,decide_true,decide_false,if_true,uR,if_false,Cj,qw,ve,zC,BS,zZ,hy0,hy1,hy2,hy3,hy4,hy6,hy7];clear hy0 hy1 hy2 hy3 hy4 hy6 hy7;have hOA:=hO.below hbWA;have hbrA:=ae hbr11 hbWA;have hbr13:Below w.heap.size w w13:=hbrA.grown hgr13 hbrA.size (fun k hk=>hOA.ge k hk);have hown13' : Own w13 w.heap.size 55 10 v2 (qs++[p10]).length ((qs++[p10]).flatMap tF):=by rw[jG,eT];simpa using hown13
   obtain⟨a13,c13,rfl,_⟩:=hown13'.rd;have r1:=iG hOA hgr13 (q1.below hbWA) (by decide);have r2:=iG hOA hgr13 (q2.below hbWA) (by decide);have r3:ic w13 w.heap.size _ _ H.sw:=⟨iG hOA hgr13 (q3.below hbWA).b (by decide),iG hOA hgr13 (q3.below hbWA).q (by decide)⟩;have r4:ic w13 w.heap.size _ _ H.dk:=⟨iG hOA hgr13 (q4.below hbWA).b (by decide),iG hOA hgr13 (q4.below hbWA).q (by decide)⟩;have r5:=Tk hOA hgr13 (q5.below hbWA);have r6:=iG hOA hgr13 (q6.below hbWA) (by decide);have bx13:=zi hOA hgr13 (bx11.ext hbWA) (by decide);have rx13:=zi hOA hgr13 (rx11.ext hbWA) (by decide);have hps13:∀p∈qs++[p10],uU w13 w.heap.size p p.sp∧Ey p.tb:=fun p hp=>by
    rcases fJ.1 hp with hp|hp
    ·have h1:=(hps11 p hp).1.below hbWA;exact⟨⟨rfl,iG hOA hgr13 h1.2.1 (by decide),BX hOA hgr13 h1.2.2⟩,(hps11 p hp).2⟩
    rw[bq.1 hp];refine⟨⟨rfl,(iG hOA hgr13 hg10.2.1 (by decide)).mono hgw.out,(BX hOA hgr13 hg10.2.2).mono hgw.out⟩,?_⟩;have e:p10.tb=P.tb:=congrArg Sp.tb hg10.1;rw[e];exact hz2
   have hqs3:Hid ((qs++[p10]).map PS.sp=(H.sp.take (q+1)).map PS.sp):=Lib.hid (by rw[jf,←hqs2.out,←hg10.1];rfl);clear hO hOA hbrA hbWA hown13 hgr13 hcase13 hg10 hrd10 fx hg11 bx11 rx11 q1 q2 q3 q4 q5 q6 hps11;go_wp2;go_roundw
   case rel=>exact⟨q+1,_,_,_,by omega,by go_num,rfl,hbr13,bx13,rx13,r1,r2,r3,r4,r5,r6,hown13',hps13,hqs3⟩
   case measure=>simp[intOf];omega
  have hqi:¬(q:Int)<(H.sp.length:Int):=by omega
  rw[iF (by omega)] at hqs
  go_wp2_with (refine aA rfl _ _ _ rfl w.heap.size 10 _ [.slice av qs.length cv] rfl rfl rfl _ _ bx (by show 10+1≤11;decide) slsp_size (fun u hu=>by cases bq.1 hu;rfl) ?_)
  intro w11 bx11 hg11;have hbr11:=hbr.grown hg11 hbr.size (fun k hk=>by cases hk;exact ay _);have rx11:=rx.grown hg11 (fun e=>by have:=aJ e;omega);obtain⟨K,hK⟩:∃K:MH,Hid (K = { G with ap:=av,cp:=cv,sp:=qs }):=⟨_,Lib.hid rfl⟩;have bxK:aC w11 w.heap.size (dD K) 41:=by rw[hK.out];exact bx11
  have hown:uj w11 w.heap.size K:=by rw[hK.out,hG.out];exact⟨ak p1 bx (by decide) hg11,ak p2 bx (by decide) hg11,p3.keep bx (by decide) (by decide) hg11,p4.keep bx (by decide) (by decide) hg11,p5.keep bx (by decide) (by decide) hg11,ak p6 bx (by decide) hg11,ak ho bx (by decide) hg11,fun p hp=>⟨ak (hps p hp).1.2.1 bx (by decide) hg11,(hps p hp).1.2.2.keep bx (by decide) hg11⟩,hks⟩
  have hma:K.ma=H.ma:=by rw[hK.out,hG.out];unfold MH.ma;simp only;rw[hqs.out,hst]
  have hsz:∀p∈K.fi,∀x,oB p.a=some x→oB K.asl≠some x:=by rw[hK.out,hG.out];exact hn2.out
  clear hbr bx rx hg11 bx11 p1 p2 p3 p4 p5 p6 ho
  go_wp2_with (first | (refine ax _ _ rfl w.heap.size 0 rfl rfl (dD K).toList bxK.rd _ underlying41 rfl mach_size ?_) | (refine az rfl _ _ _ rfl (w.heap.size+1) (dD K) rfl rfl _ _ rx11 rfl mach_size (iB K) ?_))
  intro w12 rx12 hg12;have hbr12:=hbr11.grown hg12 hbr11.size (fun k hk=>by cases hk;omega);go_wp2;refine bodyPost_ret (v:=.agg (dD K)) (eu results40 _ _ (w.heap.size+1) _ _ _ rfl rx12 underlying41 rfl mach_size) rfl ?_;exact⟨K,rfl,hown.keep rx11 (by decide) hg12,hma,hsz,hbr12⟩
def kZ (f s b:Int):Ma:=if (0≤f∧f≤40)∧(0≤s∧s≤60)∧(0≤b∧b≤80) then ⟨tV f,AQ s,oo s,oo b,⟨[],b⟩,[],[⟨true,[],zTb⟩]⟩ else zMa
def AJ (f s b:Int):Int:=if (0≤f∧f≤40)∧(0≤s∧s≤60)∧(0≤b∧b≤80) then 0 else 4
def noH:MH:=⟨none,0,noM,none,0,[],none,0,none,0,⟨[],[]⟩,none,0,none,0,⟨[],[]⟩,none,0,[],0,none,0,[],none,0,[]⟩
theorem Ij (w:World) (B:Nat):uj w B noH:=
 ⟨Own.nil _ _ _ _,Own.nil _ _ _ _,ic.nil _ _,ic.nil _ _,⟨Own.nil _ _ _ _,fun i p hp=>by simp[noH] at hp,fun i j p q _ hp=>by simp[noH] at hp⟩,Own.nil _ _ _ _,Own.nil _ _ _ _,fun p hp=>by simp[noH] at hp,by decide⟩
def nTs:Vector Value 8:=⟨#[.slice none 0 0,.slice none 0 0,.slice none 0 0,.slice none 0 0,.slice none 0 0,.slice none 0 0,.slice none 0 0,.slice none 0 0],rfl⟩
def newP:PS:=⟨true,none,0,[],nTs,zTb⟩
theorem QV (w:World) (B:Nat) (hB:B≤w.heap.size):Own (w.alloc (.cells (vM newP) 55)) B 55 10 (.slice (some ⟨w.heap.size,0,none⟩) 1 1) 1 ([newP].flatMap tF):=
 ⟨rfl,.inr ⟨w.heap.size,0,1,vM newP,rfl,hB,aC.new _ _ _,ay _,by decide,by decide,fun j u h=>by rw[ed,←tO];rw[show [newP].flatMap tF=(vM newP).toList from by rw[lZ,Gw,mO];rfl] at h;exact h⟩⟩
theorem Kk (f s b:Int) (w:World) (hb64 : -9223372036854775808≤b∧b≤9223372036854775807) :
  Calls Tryz.prog 59 #[.agg #[.int .i64 f,.int .i64 s,.int .i64 b]] w fun r w' => ∃H' : MH,r = .returned (.tuple #[.agg (dD H'),.int .i64 (AJ f s b)])∧uj w' w.heap.size H'∧H'.ma=kZ f s b∧Below w.heap.size w w':=by
 go_enter func59,ntmps59;have bx0:=aC.new w #[.int .i64 f,.int .i64 s,.int .i64 b] 23;have h1:Below w.heap.size w (w.alloc (.cells #[.int .i64 f,.int .i64 s,.int .i64 b] 23)):=(Below.refl _ _).alloc (ay _) _;have h2:Below (w.alloc (.cells #[.int .i64 f,.int .i64 s,.int .i64 b] 23)).heap.size (w.alloc (.cells #[.int .i64 f,.int .i64 s,.int .i64 b] 23)) ((w.alloc (.cells #[.int .i64 f,.int .i64 s,.int .i64 b] 23)).alloc (.cells (dD noH) 41)):=(Below.refl _ _).alloc (ay _) _;have hb0:=ae h1 h2;have bx1:=bx0.ext h2;have rx1:=aC.new (w.alloc (.cells #[.int .i64 f,.int .i64 s,.int .i64 b] 23)) (dD noH) 41;rw[show (w.alloc (.cells #[.int .i64 f,.int .i64 s,.int .i64 b] 23)).heap.size=w.heap.size+1 from zO _] at rx1;clear h1 h2
 go_wp2_with fail
 refine (QG f _).mono ?_;rintro r w1 ⟨v1,rfl,ho1,hb1⟩;have bx1:=bx1.ext hb1;have rx1:=rx1.ext hb1;have hbr1:=ae hb0 hb1;have hfr:=aC.new w1 #[.slice none 0 0,.int .i64 0] 28;have hba:Below w1.heap.size w1 (w1.alloc (.cells #[.slice none 0 0,.int .i64 0] 28)):=(Below.refl _ _).alloc (ay _) _;have bx2:=bx1.ext hba;have rx2:=rx1.ext hba;have hbr2:=ae hbr1 hba;have p1:=(ho1.below hba);obtain⟨a1,c1,rfl,_⟩:=p1.rd;have hl1:=rx1.lt;have hl0:=hb0.size;clear hb0 hb1 hba ho1 hbr1 bx1
 go_wp2_with (refine az rfl _ _ _ rfl w1.heap.size #[.slice a1 (tV f).fs.length c1,.int .i64 0] rfl rfl _ _ hfr rfl mem_size (jc _ _ _ _) ?_)
 intro w2 mb2 hg2;have bx3:=bx2.grown hg2 (fun e=>by have:=aJ e;omega);have rx3:=rx2.grown hg2 (fun e=>by have:=aJ e;omega);have hbr3:=hbr2.grown hg2 hbr2.size (fun k hk=>by cases hk;omega);have q1:=ak p1 hfr (by decide) hg2;have hcs:w2.cell? ⟨w.heap.size,1,none⟩=some (.int .i64 s):=by rw[bx3.cell];rfl
 clear bx2 rx2 hbr2 hfr p1 hg2
 by_cases hf:0≤f∧f≤40
 ·have e1:NA f=0:=if_pos hf;rw[e1]
  go_wp2_with fail
  refine (OE s _).mono ?_;rintro r w3 ⟨v3,rfl,ho3,hb3⟩;have bx4:=bx3.ext hb3;have rx4:=rx3.ext hb3;have mb4:=mb2.ext hb3;have p1:=q1.below hb3;have hl3:=hb3.size;have hl2:=mb2.lt;have hbr4:=ae hbr3 hb3;obtain⟨a3,c3,rfl,_⟩:=ho3.rd;clear bx3 rx3 mb2 q1 hb3 hbr3 hcs
  by_cases hs:0≤s∧s≤60
  ·have e2:GY s=0:=if_pos hs;rw[e2];have hcs:w3.cell? ⟨w.heap.size,1,none⟩=some (.int .i64 s):=by rw[bx4.cell];rfl
   go_wp2_with fail
   refine (JI s _).mono ?_;rintro r w4 ⟨vb,vq,rfl,ho4,hb4⟩;have hba:Below w4.heap.size w4 (w4.alloc (.cells #[.slice none 0 0,.slice none 0 0] 34)):=(Below.refl _ _).alloc (ay _) _;have hfr:=aC.new w4 #[.slice none 0 0,.slice none 0 0] 34;have hl4:=hb4.size;have bx5:=(bx4.ext hb4).ext hba;have rx5:=(rx4.ext hb4).ext hba;have mb5:=(mb4.ext hb4).ext hba;have q1:=(p1.below hb4).below hba;have q3:=(ho3.below hb4).below hba;have q4:ic _ _ _ _ _:=⟨ho4.b.below hba,ho4.q.below hba⟩;have hbr5:=ae (ae hbr4 hb4) hba;obtain⟨ab,cb,rfl,_⟩:=q4.b.rd;obtain⟨aq,cq,rfl,_⟩:=q4.q.rd;have hw4:=(mb4.ext hb4).lt;clear bx4 rx4 mb4 p1 ho3 ho4 hb4 hba hbr4 hcs
   go_wp2_with (refine az rfl _ _ _ rfl w4.heap.size #[.slice ab (oo s).blocks.length cb,.slice aq (oo s).queue.length cq] rfl rfl _ _ hfr rfl disk_size (kQ _ _ _ _ _ _) ?_)
   intro w5 sb5 hg5;have bx6:=bx5.grown hg5 (fun e=>by have:=aJ e;omega);have rx6:=rx5.grown hg5 (fun e=>by have:=aJ e;omega);have mb6:=mb5.grown hg5 (fun e=>by have:=aJ e;omega);have hbr6:=hbr5.grown hg5 hbr5.size (fun k hk=>by cases hk;omega);have p1:=ak q1 hfr (by decide) hg5;have p3:=ak q3 hfr (by decide) hg5;have p4:=q4.keep hfr (by decide) (by decide) hg5;have hcb:w5.cell? ⟨w.heap.size,2,none⟩=some (.int .i64 b):=by rw[bx6.cell];rfl
   clear bx5 rx5 mb5 q1 q3 q4 hg5 hfr hbr5
   go_wp2_with fail
   refine (JI b _).mono ?_;rintro r w6 ⟨vb,vq,rfl,ho6,hb6⟩;have hba:Below w6.heap.size w6 (w6.alloc (.cells #[.slice none 0 0,.slice none 0 0] 34)):=(Below.refl _ _).alloc (ay _) _;have hfr:=aC.new w6 #[.slice none 0 0,.slice none 0 0] 34;have hl6:=hb6.size;have hw5:=sb5.lt;have hw6:=(sb5.ext hb6).lt;have bx7:=(bx6.ext hb6).ext hba;have rx7:=(rx6.ext hb6).ext hba;have mb7:=(mb6.ext hb6).ext hba;have sb7:=(sb5.ext hb6).ext hba;have q1:=(p1.below hb6).below hba;have q3:=(p3.below hb6).below hba;have q4:ic _ _ _ _ _:=⟨(p4.b.below hb6).below hba,(p4.q.below hb6).below hba⟩;have q6:ic _ _ _ _ _:=⟨ho6.b.below hba,ho6.q.below hba⟩;have hbr7:=ae (ae hbr6 hb6) hba;obtain⟨db,dcb,rfl,_⟩:=q6.b.rd;obtain⟨dq,dcq,rfl,_⟩:=q6.q.rd;clear bx6 rx6 mb6 sb5 p1 p3 p4 ho6 hb6 hba hbr6 hcb
   go_wp2_with (refine az rfl _ _ _ rfl w6.heap.size #[.slice db (oo b).blocks.length dcb,.slice dq (oo b).queue.length dcq] rfl rfl _ _ hfr rfl disk_size (kQ _ _ _ _ _ _) ?_)
   intro w7 db7 hg7;have bx8:=bx7.grown hg7 (fun e=>by have:=aJ e;omega);have rx8:=rx7.grown hg7 (fun e=>by have:=aJ e;omega);have mb8:=mb7.grown hg7 (fun e=>by have:=aJ e;omega);have sb8:=sb7.grown hg7 (fun e=>by have:=aJ e;omega);have hbr8:=hbr7.grown hg7 hbr7.size (fun k hk=>by cases hk;omega);have p1:=ak q1 hfr (by decide) hg7;have p3:=ak q3 hfr (by decide) hg7;have p4:=q4.keep hfr (by decide) (by decide) hg7;have p6:=q6.keep hfr (by decide) (by decide) hg7;have hcb:w7.cell? ⟨w.heap.size,2,none⟩=some (.int .i64 b):=by rw[bx8.cell];rfl
   clear bx7 rx7 mb7 sb7 q1 q3 q4 q6 hg7 hfr hbr7
   by_cases hk:0≤b∧b≤80
   ·have e3:MR b=0:=if_pos hk;rw[e3]
    go_wp2_with fail
    refine (SL b _).mono ?_;rintro r w8 ⟨rfl,hb8⟩;have e4:Ta b=b:=if_neg (by omega);have e5:newE b=0:=if_neg (by omega);rw[e4,e5];have hba:Below w8.heap.size w8 (w8.alloc (.cells #[.slice none 0 0,.int .i64 0] 37)):=(Below.refl _ _).alloc (ay _) _;have hfr:=aC.new w8 #[.slice none 0 0,.int .i64 0] 37;have hl8:=hb8.size;have hw7:=db7.lt;have hw8:=(db7.ext hb8).lt;have rx9:=(rx8.ext hb8).ext hba;have mb9:=(mb8.ext hb8).ext hba;have sb9:=(sb8.ext hb8).ext hba;have db9:=(db7.ext hb8).ext hba;have q1:=(p1.below hb8).below hba;have q3:=(p3.below hb8).below hba;have q4:ic _ _ _ _ _:=⟨(p4.b.below hb8).below hba,(p4.q.below hb8).below hba⟩;have q6:ic _ _ _ _ _:=⟨(p6.b.below hb8).below hba,(p6.q.below hb8).below hba⟩;have hbr9:=ae (ae hbr8 hb8) hba;clear bx8 rx8 mb8 sb8 db7 p1 p3 p4 p6 hb8 hba hbr8 hcb
    go_wp2_with (refine az rfl _ _ _ rfl w8.heap.size #[.slice none 0 0,.int .i64 b] rfl rfl _ _ hfr rfl store_size (jc _ _ _ _) ?_)
    intro w9 tb9 hg9;have rx10:=rx9.grown hg9 (fun e=>by have:=aJ e;omega);have mb10:=mb9.grown hg9 (fun e=>by have:=aJ e;omega);have sb10:=sb9.grown hg9 (fun e=>by have:=aJ e;omega);have db10:=db9.grown hg9 (fun e=>by have:=aJ e;omega);have hbr10:=hbr9.grown hg9 hbr9.size (fun k hk=>by cases hk;omega);have p1:=ak q1 hfr (by decide) hg9;have p3:=ak q3 hfr (by decide) hg9;have p4:=q4.keep hfr (by decide) (by decide) hg9;have p6:=q6.keep hfr (by decide) (by decide) hg9;clear rx9 mb9 sb9 db9 q1 q3 q4 q6 hg9 hfr hbr9;obtain⟨M,hM⟩:∃M:MH,Hid (M=⟨a1,c1,⟨(tV f).fs,0⟩,a3,c3,AQ s,ab,cb,aq,cq,oo s,db,dcb,dq,dcq,oo b,none,0,[],b,none,0,[],some ⟨w9.heap.size,0,none⟩,1,[newP]⟩):=⟨_,Lib.hid rfl⟩;have hbs:Below w9.heap.size w9 (w9.alloc (.cells (vM newP) 55)):=(Below.refl _ _).alloc (ay _) _;have rx11:=rx10.ext hbs;have q1:=p1.below hbs;have q3:=p3.below hbs;have q4:ic _ _ _ _ _:=⟨p4.b.below hbs,p4.q.below hbs⟩;have q6:ic _ _ _ _ _:=⟨p6.b.below hbs,p6.q.below hbs⟩;have q7:=QV w9 w.heap.size hbr10.size;have hbr11:=ae hbr10 hbs;have hw9:=tb9.lt;have hw0:=rx10.lt;clear p1 p3 p4 p6 hbs
    go_wp2_with (first | (refine ax _ _ rfl w1.heap.size 0 rfl rfl _ mb10.rd _ underlying28 rfl mem_size ?_) | (refine ax _ _ rfl w4.heap.size 0 rfl rfl _ sb10.rd _ underlying34 rfl disk_size ?_) | (refine ax _ _ rfl w6.heap.size 0 rfl rfl _ db10.rd _ underlying34 rfl disk_size ?_) | (refine ax _ _ rfl w8.heap.size 0 rfl rfl _ tb9.rd _ underlying37 rfl store_size ?_) | (refine az rfl _ _ _ rfl (w.heap.size+1) #[.slice a1 (tV f).fs.length c1,.int .i64 0,.slice a3 (AQ s).length c3,.slice ab (oo s).blocks.length cb,.slice aq (oo s).queue.length cq,.slice db (oo b).blocks.length dcb,.slice dq (oo b).queue.length dcq,.slice none 0 0,.int .i64 b,.slice none 0 0,.slice (some ⟨w9.heap.size,0,none⟩) 1 1] rfl rfl _ _ rx11 rfl mach_size (by simp[Value.oneCell']) ?_))
    intro we hre hge;have hre' : aC we (w.heap.size+1) (dD M) 41:=by rw[hM.out];exact hre
    have hbre:=hbr11.grown hge hbr11.size (fun k hk=>by cases hk;omega);have hown:uj we w.heap.size M:=by
     rw[hM.out];refine⟨(ak q1 rx11 (by decide) hge).mono hl0,(ak q3 rx11 (by decide) hge).mono (by omega),?_,?_,⟨Own.nil _ _ _ _,fun i p hp=>by simp at hp,fun i j p q _ hp=>by simp at hp⟩,Own.nil _ _ _ _,ak q7 rx11 (by decide) hge,fun p hp => ?_,hb64⟩
     ·exact (q4.keep rx11 (by decide) (by decide) hge).mono (by omega)
     ·exact (q6.keep rx11 (by decide) (by decide) hge).mono (by omega)
     rw[bq.1 hp];exact⟨Own.nil _ _ _ _,zQ _ _⟩
    clear hre rx10 rx11 mb10 sb10 db10 tb9 q1 q3 q4 q6 q7 hge hbr10 hbr11;go_wp2;refine bodyPost_ret (v:=.tuple #[.agg (dD M),.int .i64 0]) (fH results59 _ _ (w.heap.size+1) _ _ _ _ rfl rfl hre' underlying41 rfl mach_size) rfl ?_;refine⟨M,by rw[show AJ f s b=0 from if_pos ⟨hf,hs,hk⟩],hown,?_,hbre⟩;rw[show kZ f s b=_ from if_pos ⟨hf,hs,hk⟩,hM.out];unfold MH.ma;rw[show tV f=⟨List.replicate f.toNat frZ,0⟩ from if_pos hf];rfl
   have e3:MR b=4:=if_neg hk;rw[e3]
   go_wp2_with (refine az rfl _ _ _ rfl (w.heap.size+1) (dD noH) rfl rfl _ _ rx8 rfl mach_size (iB noH) ?_)
   intro we hre hge;have hbre:=hbr8.grown hge hbr8.size (fun k hk=>by cases hk;omega);go_wp2;refine bodyPost_ret (v:=.tuple #[.agg (dD noH),.int .i64 4]) (fH results59 _ _ (w.heap.size+1) _ _ _ _ rfl rfl hre underlying41 rfl mach_size) rfl ?_;exact⟨noH,by rw[show AJ f s b=4 from if_neg (fun h=>hk h.2.2)],Ij _ _,by rw[show kZ f s b=zMa from if_neg (fun h=>hk h.2.2)];rfl,hbre⟩
  have e2:GY s=4:=if_neg hs;rw[e2]
  go_wp2_with (refine az rfl _ _ _ rfl (w.heap.size+1) (dD noH) rfl rfl _ _ rx4 rfl mach_size (iB noH) ?_)
  intro we hre hge;have hbre:=hbr4.grown hge hbr4.size (fun k hk=>by cases hk;omega);go_wp2;refine bodyPost_ret (v:=.tuple #[.agg (dD noH),.int .i64 4]) (fH results59 _ _ (w.heap.size+1) _ _ _ _ rfl rfl hre underlying41 rfl mach_size) rfl ?_;exact⟨noH,by rw[show AJ f s b=4 from if_neg (fun h=>hs h.2.1)],Ij _ _,by rw[show kZ f s b=zMa from if_neg (fun h=>hs h.2.1)];rfl,hbre⟩
 have e1:NA f=4:=if_neg hf;rw[e1]
 go_wp2_with (refine az rfl _ _ _ rfl (w.heap.size+1) (dD noH) rfl rfl _ _ rx3 rfl mach_size (iB noH) ?_)
 intro we hre hge;have hbre:=hbr3.grown hge hbr3.size (fun k hk=>by cases hk;omega);go_wp2;refine bodyPost_ret (v:=.tuple #[.agg (dD noH),.int .i64 4]) (fH results59 _ _ (w.heap.size+1) _ _ _ _ rfl rfl hre underlying41 rfl mach_size) rfl ?_;exact⟨noH,by rw[show AJ f s b=4 from if_neg (fun h=>hf h.1)],Ij _ _,by rw[show kZ f s b=zMa from if_neg (fun h=>hf h.1)];rfl,hbre⟩
theorem srt_len:∀ {l:List Nat} {a n:Nat},l.Pairwise (· < ·)→(∀x∈l,a≤x∧x<n)→l.length≤n-a
 | [],_,_,_,_=>by simp
 | x::l,a,n,hs,h=>by obtain⟨h1,h2⟩:=rW.1 hs;have hx:=h x gL;have:=srt_len (a:=x+1) (n:=n) h2 fun y hy=>⟨h1 y hy,(h y (jg _ hy)).2⟩;rw[oh];omega
theorem SK (h:vG m) (hs:aM m.st=0):m.ca.length≤60:=by
 have hl:∀c∈m.ca,0≤c.f∧c.f<5∧0≤c.i∧c.i<12:=fun c hc=>by have h1:=h.file c hc;have h2:=Hg hs h1;have h3:=h1.1;have h4:=h1.2;omega
 have key:=srt_len (l:=m.ca.map fun c=>(12*c.f+c.i).toNat) (a:=0) (n:=60) ?_ fun x hx => ?_
 ·simpa using key
 ·rw[List.pairwise_map];refine List.Pairwise.imp_of_mem ?_ h.srt;intro a b ha hb hab;have h1:=hl a ha;have h2:=hl b hb;unfold BB at hab;show (12*a.f+a.i).toNat<(12*b.f+b.i).toNat;omega
 obtain⟨c,hc,rfl⟩:=ib.1 hx;have h1:=hl c hc;show 0≤(12*c.f+c.i).toNat∧(12*c.f+c.i).toNat<60;omega
theorem Ae {s:St} (hs:aM s=0):∀f∈s.fs,f.b.length≤12:=fun f hf=>by
 obtain⟨k,hk,rfl⟩:=jE.1 hf;have h1:=yD hs (f:=(k:Int)) ⟨by omega,by omega⟩;have hfa:aU s (k:Int)=s.fs[k]:=oJ (aG hk);rw[hfa] at h1;obtain⟨a1,a2,a3,_⟩:=h1;have e:(s.fs[k].b.length:Int)≤12:=by rw[a3];unfold dZ;split<;>omega
 omega
structure Fb (ct:Nat) (bl:List Page) (q:List (Int × Page)) (fs:List Fi) (x:List Int):Prop where
 cl:bl.length=ct∧ct≤80
 ok:∀f∈fs,DI ct f
 nd:(jZ (fs.flatMap Fi.b++x)).Nodup
 xb:∀b∈x,-1≤b∧b<ct
 tr:∀b:Int,0≤b→b<ct→b∈fs.flatMap Fi.b++x∨bl.getD b.toNat zPg=zPg
 qb:∀p∈q,p.1∈fs.flatMap Fi.b++x∧0≤p.1∧p.1<ct
 ql:q.length≤12*fs.length+x.length
theorem Fb.start (h:ct≤80):Fb ct (List.replicate ct zPg) [] [] [] where
 cl:=⟨by simp,h⟩
 ok:=fun f hf=>by cases hf
 nd:=by simp[jZ]
 xb:=fun b hb=>by cases hb
 tr:=fun b h0 h1 => .inr (by rw[aW,ny,if_pos (by omega)];rfl)
 qb:=fun p hp=>by cases hp
 ql:=by simp
theorem Fb.none {q:List (Int × Page)} {x:List Int} (h:Fb ct bl q fs x):Fb ct bl q fs (x++[-1]) where
 cl:=h.cl
 ok:=h.ok
 nd:=by
  have e:jZ (fs.flatMap Fi.b++(x++[-1]))=jZ (fs.flatMap Fi.b++x):=by rw[←jC,uB];simp[jZ]
  rw[e];exact h.nd
 xb:=fun b hb=>by
  rcases fJ.1 hb with hb|hb
  ·exact h.xb b hb
  ·rw[bq.1 hb];omega
 tr:=fun b h0 h1=>(h.tr b h0 h1).imp (fun hb=>by rw[←jC];exact oM _ hb) id
 qb:=fun p hp=>⟨by rw[←jC];exact oM _ (h.qb p hp).1,(h.qb p hp).2⟩
 ql:=by have:=h.ql;simp;omega
theorem Fb.some {q:List (Int × Page)} {x:List Int} (h:Fb ct bl q fs x) (hn:n<ct) (hu:¬(n:Int)∈fs.flatMap Fi.b++x) (P:Page):Fb ct (bl.set n P) q fs (x++[(n:Int)]) where
 cl:=⟨by rw[bI];exact h.cl.1,h.cl.2⟩
 ok:=h.ok
 nd:=by
  have e:jZ (fs.flatMap Fi.b++(x++[(n:Int)]))=jZ (fs.flatMap Fi.b++x)++[(n:Int)]:=by rw[←jC,uB];simp[jZ]
  rw[e];refine xx.2 ⟨h.nd,by simp,fun a ha b hb e => ?_⟩;rw[bq.1 hb] at e;subst e;exact hu (iX.1 ha).1
 xb:=fun b hb=>by
  rcases fJ.1 hb with hb|hb
  ·exact h.xb b hb
  ·rw[bq.1 hb];omega
 tr:=fun b h0 h1=>by
  by_cases e:b=(n:Int)
  ·subst e;exact .inl (by simp)
  rcases h.tr b h0 h1 with hb|hb
  ·exact .inl (by rw[←jC];exact oM _ hb)
  refine .inr ?_;rw[aW,sF (by omega),←aW];exact hb
 qb:=fun p hp=>⟨by rw[←jC];exact oM _ (h.qb p hp).1,(h.qb p hp).2⟩
 ql:=by have:=h.ql;simp;omega
theorem Fb.wait {q:List (Int × Page)} {x:List Int} (h:Fb ct bl q fs x) (hn:n<ct) (hu:¬(n:Int)∈fs.flatMap Fi.b++x) (P:Page):Fb ct (bl.set n P) (q++[((n:Int),P)]) fs (x++[(n:Int)]):=
 have k:=h.some hn hu P
 { k with
  qb:=fun p hp=>by
   rcases fJ.1 hp with hp|hp
   ·exact k.qb p hp
   rw[bq.1 hp];exact⟨by simp,by show (0:Int)≤n;omega,by show (n:Int)<ct;omega⟩
  ql:=by have:=h.ql;simp;omega }
theorem Fb.file {q:List (Int × Page)} {x:List Int} (h:Fb ct bl q fs x) {s:Int} (h0:0≤s) (h1:s≤96) (hl:(x.length:Int)=dZ s):Fb ct bl q (fs++[⟨s,x⟩]) []:=by
 have e:(fs++[(⟨s,x⟩:Fi)]).flatMap Fi.b++[]=fs.flatMap Fi.b++x:=by simp
 refine⟨h.cl,fun f hf => ?_,by rw[e];exact h.nd,fun b hb=>(by cases hb),by rw[e];exact h.tr,by rw[e];exact h.qb,?_⟩
 ·rcases fJ.1 hf with hf|hf
  ·exact h.ok f hf
  ·rw[bq.1 hf];exact⟨h0,h1,hl,h.xb⟩
 have:=h.ql;have e2:dZ s≤12:=by unfold dZ;split<;>omega
 have e3:(fs++[(⟨s,x⟩:Fi)]).length=fs.length+1:=by simp
 rw[e3];simp only[BL];omega
def Ai (f s ct:Nat) (bl:List Page) (q:List (Int × Page)) (fs:List Fi):Ma:=⟨⟨List.replicate f frZ,0⟩,List.replicate s 0,⟨List.replicate s zPg,[]⟩,⟨bl,q⟩,⟨fs,ct⟩,[],[]⟩
theorem Fb.bd {q:List (Int × Page)} (h:Fb ct bl q fs []) (hl:fs.length≤5) (hf:f≤40) (hs:s≤60):Bd (Ai f s ct bl q fs) []:=by
 have hfr:∀i,i<f→aT (Ai f s ct bl q fs) i=frZ:=fun i hi=>by unfold aT Ai;rw[aW,ny,if_pos hi];rfl
 have hen:∀p n,(ent (Ai f s ct bl q fs) p n).k=0:=fun p n=>by unfold ent;rw[nE (by simp[Ai])];show (dG zTb n).k=0;rw[vH];rfl
 have hw:aM ⟨fs,(ct:Int)⟩=0:=lh.2 ⟨⟨hl,by show (0:Int)≤ct;omega,by show (ct:Int)≤80;have:=h.cl.2;omega⟩,h.ok,by have:=h.nd;rw[mO] at this;exact this⟩;have hdk:bn ⟨bl,q⟩=0:=(gF _).2 ⟨by show bl.length≤80;have:=h.cl;omega,by show q.length≤400;have:=h.ql;simp only[BL] at this;omega,fun x hx=>by have:=(h.qb x hx).2;have e:bl.length=ct:=h.cl.1;show 0≤x.1∧x.1<(bl.length:Int);omega⟩;have hsw:bn ⟨List.replicate s zPg,[]⟩=0:=(gF _).2 ⟨by simp;omega,by simp,fun x hx=>(by cases hx)⟩;have hsl:dm (List.replicate s (0:Int))=0:=FM (by simp;exact hs) fun x hx=>by rw[(CE.1 hx).2];decide
 have hm:bK ⟨List.replicate f frZ,0⟩=0:=(eD _).2 ⟨by simp;exact hf,fun x hx=>by rw[(CE.1 hx).2];decide,rM _,.inl rfl⟩;have hmm:dU (Ai f s ct bl q fs) []=Ai f s ct bl q fs:=rfl;have hh:∀kd i,dA (Ai f s ct bl q fs) kd i=0:=fun _ _=>rfl;have hc:∀i,wy (Ai f s ct bl q fs) i=0:=fun _=>rfl;refine⟨⟨rfl,fun t ht=>(by cases ht),fun t ht=>(by cases ht)⟩,?_,?_⟩
 ·rw[hmm];refine⟨⟨hm,hsl,hsw,hdk,hw,by simp[Ai],by have:=h.cl.1;show (bl.length:Int)=ct;omega,by simp[Ai],fun s hs=>(by cases hs),fun s hs=>(by cases hs)⟩,⟨fun b h0 h1 => ?_,fun p hp => ?_⟩,fun p _=>⟨by rw[nE (by simp[Ai])];rfl,fun n=>hen p n⟩,⟨fun c hc=>(by cases hc),fun c hc=>(by cases hc),fun c hc=>(by cases hc),List.Pairwise.nil⟩,fun p n hk=>absurd (hen p n) hk,fun i hi => ?_,fun i hi h0 => ?_,fun i hi => ?_⟩
  ·have e:(Ai f s ct bl q fs).dk.blocks.length=ct:=h.cl.1;have:=h.tr b h0 (by omega);rw[mO] at this;exact this
  ·have:=(h.qb p hp).1;rw[mO] at this;exact this
  ·rw[hfr i (by have e:(Ai f s ct bl q fs).m.fs.length=f:=jy;omega),hh,hc];rfl
  ·rw[hfr i (by have e:(Ai f s ct bl q fs).m.fs.length=f:=jy;omega)] at h0;exact absurd h0 (by decide)
  rw[hh];have e:(Ai f s ct bl q fs).sl.length=s:=jy;unfold oG;show (List.replicate s (0:Int)).getD i 0=_;rw[aW,ny,if_pos (by omega)];rfl
 rw[hmm];refine⟨fun c hc=>(by cases hc),fun c hc=>(by cases hc),fun i hi hd => ?_⟩;rw[hfr i (by have e:(Ai f s ct bl q fs).m.fs.length=f:=jy;omega)] at hd;exact absurd hd (by decide)
def tabs (m:Ma) (T:List (List En)):Nat→Ma
 | 0=>m
 | q+1=>setTb (tabs m T q) q (fT (eP T q))
theorem take_set {α:Type} {F O:List α} (hl:F.length=O.length) (hq:q<O.length):(F.take q++O.drop q).set q (F[q]'(by omega))=F.take (q+1)++O.drop (q+1):=by
 have e1:(F.take q).length=q:=by rw[kK];omega
 rw[List.set_append,if_neg (by omega),e1,sS,vk hq,qw,List.take_succ_eq_append_getElem (by omega),jC];rfl
theorem Nl {m:Ma} {T:List (List En)}:∀q,q≤m.sp.length→tabs m T q = { m with sp:=(dU m T).sp.take q++m.sp.drop q }
 | 0,_=>by simp[tabs]
 | q+1,h=>by
  have ih:=Nl (m:=m) (T:=T) q (by omega);have hF:(dU m T).sp.length=m.sp.length:=kF;have e1:((dU m T).sp.take q).length=q:=by rw[kK];omega
  have hsp:fq (tabs m T q) q=m.sp[q]'(by omega):=by rw[ih];unfold fq;show ((dU m T).sp.take q++m.sp.drop q).getD q zSp=_;rw[aW,kI (by omega),e1,sS,qN,gM,aG (by omega)];rfl
  have hFq:(dU m T).sp[q]'(by omega) = { m.sp[q]'(by omega) with tb:=fT (eP T q) }:=by
   have h1:=yC (m:=m) (T:=T) (p:=q) (by omega);have h2:fq m q=m.sp[q]'(by omega):=by unfold fq;rw[aW,aG (by omega)];rfl
   have h3:fq (dU m T) q=(dU m T).sp[q]'(by omega):=by unfold fq;rw[aW,aG (by omega)];rfl
   rw[h2,h3] at h1;exact h1
  show setTb (tabs m T q) q (fT (eP T q))=_;unfold setTb;rw[hsp,ih,←hFq];show ({ m with sp:=((dU m T).sp.take q++m.sp.drop q).set q _ }:Ma)=_;rw[take_set hF (by omega)]
theorem RB {T:List (List En)}:tabs m T m.sp.length=dU m T:=by
 rw[Nl _ (ay _),List.drop_length,mO,iF (by rw[kF];exact ay _)];rfl
theorem IL (hf:f≤40) (hs:s≤60) (hc:ct≤80):dU { Ai f s ct (List.replicate ct zPg) [] [] with sp:=[⟨true,[],zTb⟩] } [List.replicate 64 zEn]=kZ f s ct:=by
 have e1:kZ f s ct=⟨tV f,AQ s,oo s,oo ct,⟨[],ct⟩,[],[⟨true,[],zTb⟩]⟩:=if_pos ⟨⟨by omega,by omega⟩,⟨by omega,by omega⟩,by omega,by omega⟩;have hz:fT (List.replicate 64 zEn)=zTb:=by decide +kernel
 rw[e1];unfold tV AQ oo dU Ai;rw[if_pos (by omega),if_pos (by omega),if_pos (by omega),if_pos (by omega)];simp only[bU,oh,BL];have e2:fT (eP [List.replicate 64 zEn] 0)=zTb:=hz;show (⟨⟨List.replicate f frZ,0⟩,List.replicate s 0,⟨List.replicate s zPg,[]⟩,⟨List.replicate ct zPg,[]⟩,⟨[],ct⟩,[],[⟨true,[],fT (eP [List.replicate 64 zEn] 0)⟩]⟩:Ma)=_;rw[e2]
theorem FP (h:Below B w0 w1) (h' : Below B' w1 w2) (hB:B≤B') (hw:B≤w0.heap.size):Below B w0 w2:=
 ⟨h'.os.trans h.os,h'.tape.trans h.tape,h'.output.trans h.output,aX h.size h'.size,fun x hx=>(h'.block x (pX hx hB)).trans (h.block x hx)⟩
theorem vV (h:Rt m):RF m:=by
 have h1:=h.pt;have hw:=(gF _).1 h1.sw;have hd:=(gF _).1 h1.dk;have hst:=(jv h1.st).1;refine⟨by have:=((eD _).1 h1.fr).1;omega,by have:=iT h1.sl;omega,by omega,by omega,by omega,by omega,⟨by omega,fun f hf=>by have:=Ae h1.st f hf;omega⟩,by have:=SK h.ca h1.st;omega,by have:=h1.spl;omega,fun s hs=>⟨?_,fun k hk => ?_⟩⟩
 ·have:=(jD.1 (h1.ar s hs)).1;omega
 ·have:=oD (kU (h1.tb s hs) k hk);omega
theorem Jb (h:Below B w w1) (k:Below B w1 w2):Below B w w2:=
 ⟨k.os.trans h.os,k.tape.trans h.tape,k.output.trans h.output,aX h.size k.size,fun i hi=>(k.block i hi).trans (h.block i hi)⟩
theorem machT:41≠96∧41≠81∧41≠106∧41≠55:=by decide
def Wv (H:MH) (w:World) (r:Ending) (w' : World):Prop:=Below w.heap.size w w'∧∃H' : MH,r = .returned (.tuple #[.agg (dD H'),.bool (eX ⟨H.ma,0⟩).2,.int .i64 0])∧uj w' w.heap.size H'∧H'.ma=(eX ⟨H.ma,0⟩).1.m
theorem LZ (H:MH) (w:World) (h:BF w H) (hR:Rt H.ma) (hC:Co H.ma) :
  Calls Tryz.prog 20 #[.agg (dD H)] w (Wv H w):=by
 have hT:=Lib.hid (Je hR hC);have hR':=Lib.hid hR;have hC':=Lib.hid hC;have hz0:=Lib.hid (vV hR);clear hR hC;go_enter func20,ntmps20;go_upto_region 1 with (fail);refine qH (fun W=>Code.wp _ _ _ _ W) fun w1 hb1 bx1 rx1 hs1 => ?_;have bx1:aC w1 w.heap.size (dD H) 41:=bx1;have rx1:aC w1 (w.heap.size+1) (dD noH) 41:=rx1;have h1:=h.below hb1;clear h
 go_wp2_with (refine ax _ _ rfl w.heap.size 0 rfl rfl _ bx1.rd _ underlying41 rfl machine_size ?_)
 refine (pu H _ h1).mono ?_;rintro r w2 ⟨rfl,hb2⟩;rw[GH.2 hR'.out];have h2:=h1.below hb2;have bx2:=bx1.ext hb2;have rx2:=rx1.ext hb2;have hbr2:=ae hb1 hb2;clear h1 bx1 rx1 hb1 hb2 hs1
 go_wp2_with (refine ax _ _ rfl w.heap.size 0 rfl rfl _ bx2.rd _ underlying41 rfl machine_size ?_)
 refine (zS H _ h2 hz0.out).mono ?_;rintro r w3 ⟨H3,rfl,ho3,hma3,_,hb3⟩;have hma:=Lib.hid hma3;have hz3:Hid (RF H3.ma):=Lib.hid (by rw[hma3];exact hz0.out);have rx3:=rx2.ext hb3;have hbr3:=ae hbr2 hb3;clear bx2 rx2 h2 hma3;unfold dD;go_upto_region 5 with (fail);refine gI (fun W=>Code.wp _ _ _ _ W) fun w4 hb4 kx4 hs4 => ?_;have k4:kR w4 w.heap.size w3.heap.size H3 0:=⟨kx4,hbr3.size,(ho3.mono hbr2.size).below hb4,fun q hq=>(RF.spz (H:=H3) hz3.out hq).2⟩;have rx4:=rx3.ext hb4;have hbr4:=ae hbr3 hb4;clear hb3 hb4 ho3 hbr2 kx4 hs4 rx3 hbr3;generalize w3.heap.size=b at k4
 go_wp2_with fail
 refine (GG H3 0 w.heap.size b _ k4 (by have:=hz3.out.sp.1;rwa [CR] at this) hz3.out.ca hz3.out.fs).mono ?_;rintro r w5 ⟨rfl,H5,e5,k5,s5,q5⟩;rw[hma.out] at q5 ⊢;have he5:e5=0:=by have:=congrArg Kp.e q5;exact this.trans hT.out.1
 subst he5;have hm5:Hid (H5.ma=(eX ⟨H.ma,0⟩).1.m):=Lib.hid (congrArg Kp.m q5);have rx5:=s5.blk k4 rx4 machT;have hbr5:=Jb hbr4 (s5.to k4 (ay _));clear q5 s5 k4 rx4 hbr4;generalize hok:(eX ⟨H.ma,0⟩).2=ok;have hok:=Lib.hid hok;have hc5:=k5.blk.cell;unfold uE at hc5
 go_wp2_with (first | (refine ax _ _ rfl b 0 rfl rfl (dD H5).toList (bF k5.blk 0 11) _ underlying41 rfl machine_size ?_) | (refine az rfl _ _ _ rfl (w.heap.size+1) (dD H5) rfl rfl _ _ rx5 rfl mach_size (iB _) ?_))
 intro w7 rx7 hg7;have hbre:=hbr5.grown hg7 hbr5.size (fun k hk=>by cases hk;omega);have hme:=k5.ma.keep rx5 (by decide) hg7;go_wp2;refine bodyPost_ret (v:=.tuple #[.agg (dD H5),.bool ok,.int .i64 0]) (ik results20 _ _ (w.heap.size+1) _ _ _ _ _ rfl rfl rfl rx7 underlying41 rfl mach_size) rfl ?_;exact⟨hbre,H5,by rw[hok.out],hme,hm5.out⟩
theorem Oq (hf:f<m.m.fs.length) (hc:BH m f=true) (h:∀j,j<f→BH m j=false):qM m=some f:=by
 unfold qM;rw[GU];exact⟨hc,dE.2 hf,fun j hj=>by rw[h j hj];rfl⟩
theorem Fj (h:∀j,j<m.m.fs.length→BH m j=false):qM m=none:=by
 unfold qM;rw[nX];intro j hj;rw[h j (dE.1 hj)];decide
def Ha (w:World) (B b rx:Nat) (S:MH):(Nat→Bool)→(Nat→Value)→World→Prop:=fun L y W=>
 (Below B w W∧B≤W.heap.size)∧aC W b (uE S 0) 96∧uj W B S∧(L 8=false→aC W rx (dD noH) 41)∧(L 8=true→aC W rx (dD S) 41)
theorem gN {S:MH}:∀L y W W',Below W.heap.size W W'→Ha w B b rx S L y W→Ha w B b rx S L y W':=
 fun _ _ _ _ hb ⟨h1,h2,h3,h4,h5⟩=>⟨⟨h1.1.trans (hb.mono h1.2),aX h1.2 hb.size⟩,h2.ext hb,h3.below hb,fun e=>(h4 e).ext hb,fun e=>(h5 e).ext hb⟩
theorem iA {S:MH} (hi:i≠8) (h:Ha w B b rx S L y W):Ha w B b rx S (cO L i) (dH y i v) W:=by
 unfold Ha at h ⊢;have e:cO L i 8=L 8:=by unfold cO;rw[if_neg (fun e=>hi e.symm)]
 rw[e];exact h
theorem SS {S:MH} (hB:B≤rx) (hL:L 8=false) (h:Ha w B b rx S L y W) (hk:aC W' rx (bA (dD noH) 0 (dD S).toList) 41) (hg:W.grownBy W' (some rx)):Ha w B b rx S (cO L 8) (dH y 8 undef) W':=by
 obtain⟨h1,h2,h3,h4,h5⟩:=h;have r1:=h4 hL;rw[iO (dD noH) (dD S) rfl] at hk;exact⟨⟨h1.1.grown hg h1.2 (fun k hk=>by cases hk;exact hB),aX h1.2 hg.size⟩,bu h2 r1 (by decide) hg,h3.keep r1 (by decide) hg,fun e=>(by cases e),fun _=>hk⟩
def AO (m:Ma):Ma:=match qM m with
 | none=>m
 | some f=>(je ⟨m,0⟩ f).m
def Wx (H:MH) (w:World) (r:Ending) (w' : World):Prop:=Below w.heap.size w w'∧∃H' : MH,r = .returned (.tuple #[.agg (dD H'),.bool (qM H.ma).isSome,.int .i64 0])∧uj w' w.heap.size H'∧H'.ma=AO H.ma
theorem LV (H:MH) (w:World) (h:BF w H) (hR:Rt H.ma) (hC:Co H.ma) :
  Calls Tryz.prog 22 #[.agg (dD H)] w (Wx H w):=by
 have hR':=Lib.hid hR;have hC':=Lib.hid hC;have hz0:=Lib.hid (vV hR);clear hR hC;go_enter func22,ntmps22;go_upto_region 1 with (fail);refine qH (fun W=>Code.wp _ _ _ _ W) fun w1 hb1 bx1 rx1 hs1 => ?_;have bx1:aC w1 w.heap.size (dD H) 41:=bx1;have rx1:aC w1 (w.heap.size+1) (dD noH) 41:=rx1;have h1:=h.below hb1;clear h
 go_wp2_with (refine ax _ _ rfl w.heap.size 0 rfl rfl _ bx1.rd _ underlying41 rfl machine_size ?_)
 refine (pu H _ h1).mono ?_;rintro r w2 ⟨rfl,hb2⟩;rw[GH.2 hR'.out];have h2:=h1.below hb2;have bx2:=bx1.ext hb2;have rx2:=rx1.ext hb2;have hbr2:=ae hb1 hb2;clear h1 bx1 rx1 hb1 hb2 hs1
 go_wp2_with (refine ax _ _ rfl w.heap.size 0 rfl rfl _ bx2.rd _ underlying41 rfl machine_size ?_)
 refine (zS H _ h2 hz0.out).mono ?_;rintro r w3 ⟨H3,rfl,ho3,hma3,_,hb3⟩;have hma:=Lib.hid hma3;have hz3:Hid (RF H3.ma):=Lib.hid (by rw[hma3];exact hz0.out);have rx3:=rx2.ext hb3;have hbr3:=ae hbr2 hb3;clear bx2 rx2 h2 hma3;unfold dD;go_upto_region 5 with (fail);refine gI (fun W=>Code.wp _ _ _ _ W) fun w4 hb4 kx4 hs4 => ?_;have k4:kR w4 w.heap.size w3.heap.size H3 0:=⟨kx4,hbr3.size,(ho3.mono hbr2.size).below hb4,fun q hq=>(RF.spz (H:=H3) hz3.out hq).2⟩;have rx4:=rx3.ext hb4;have hbr4:=ae hbr3 hb4;clear hb3 hb4 ho3 hbr2 kx4 hs4 rx3 hbr3;generalize w3.heap.size=b at k4;have hc:=k4.blk.cell;unfold uE at hc;go_upto_region 6 with (fail);clear hc;obtain⟨N,hN⟩:∃N,Hid (N=H3.m.fs.length):=⟨_,Lib.hid rfl⟩;have hN1:N≤1000:=by rw[hN.out];exact hz3.out.fs
 rw[←hN.out];have hNH:Hid (N=H.ma.m.fs.length):=Lib.hid (by rw[hN.out,←hma.out];rfl)
 go_loopw [26] (fun i wr => ∃(f:Nat) (H' : MH),f≤N∧i = .int .i64 f∧kR wr w.heap.size b H' 0∧Below w.heap.size w wr∧aC wr (w.heap.size+1) (dD noH) 41∧Hid (H'.ma=H.ma)∧Hid (∀j,j<f→BH H.ma j=false)) (fun i _=>N-(intOf i).toNat)
 case atStart=>exact⟨0,H3,by omega,rfl,k4,hbr4,rx4,hma,Lib.hid (fun j hj=>by omega)⟩
 case round=>
  clear k4 hbr4 rx4;obtain⟨f,H4,hf,rfl,k4,hbr4,rx4,hm4,hall⟩:=hrel;have hc:=k4.blk.cell;unfold uE at hc
  by_cases hfN:f<N
  ·have hfi:(f:Int)<(N:Int):=by omega
   have hf4:f<H4.m.fs.length:=by have e:H4.m.fs.length=H.ma.m.fs.length:=congrArg (fun m:Ma=>m.m.fs.length) hm4.out;rw[e,←hNH.out];exact hfN
   obtain⟨g,off,haf,hrd⟩:=jH eZ (by decide) k4.ma.rd.fr.rd f hf4;obtain⟨X,hX⟩:∃X,H4.m.fs[f]=X:=⟨_,rfl⟩;rw[hX] at hrd;rw[haf] at hc;clear haf;have hXf:Hid (aT H.ma f=X):=Lib.hid (by rw[←hm4.out];have:=wN (m:=H4.ma) (i:=f) hf4;exact this.trans hX);clear hX
   go_wp2_with (first | (refine ax _ _ rfl g (off+f*13) rfl rfl _ hrd _ underlying81 rfl frame_size ?_) | (refine aI rfl _ _ _ rfl (vK X) rfl rfl rfl frame_size (oZ X) ?_))
   intro w5 hb5 xx5;have k5:=k4.below hb5;have rx5:=rx4.ext hb5;have hbr5:=ae hbr4 hb5;have hsx5:Hid (w.heap.size+1<w5.heap.size):=Lib.hid rx5.lt;clear k4 rx4 hbr4 hb5 hc hrd;generalize wr.heap.size=gx at xx5;have hxc:=xx5.cell;unfold vK at hxc;cases hd:X.d with
   | false=>
    have hcan:Hid (BH H.ma f=false):=Lib.hid (by unfold BH;rw[hXf.out,hd];rfl);go_wp2;go_roundw
    case rel=>exact⟨f+1,H4,by omega,by go_num,k5,hbr5,rx5,hm4,Lib.hid (fun j hj=>by
     rcases Nat.lt_succ_iff_lt_or_eq.1 hj with h|rfl
     ·exact hall.out j h
     ·exact hcan.out)⟩
    case measure=>simp[intOf];omega
   | true=>
    have hdf:Hid ((aT H.ma f).d=true):=Lib.hid (by rw[hXf.out,hd])
    go_wp2_with fail
    refine (DU H4 0 f _ b _ k5 hf4).mono ?_;rintro r w6 ⟨rfl,H6,e6,k6,s6,q6⟩;rw[hm4.out] at q6 ⊢;have rx6:=s6.blk k5 rx5 machT;have hbr6:=Jb hbr5 (s6.to k5 (ay _));clear s6 k5 rx5 hbr5 xx5 hxc hd;have hfl:f<H.ma.m.fs.length:=by rw[←hNH.out];exact hfN
    cases hcb:iY H.ma f with
    | false=>
     have hcan:Hid (BH H.ma f=false):=Lib.hid (by unfold BH;rw[hcb,lU]);rw[Qm (k:=⟨H.ma,0⟩) hR'.out hfl hcb] at q6;obtain⟨hm6,rfl⟩:=Kp.mk.inj q6;have hm6:=Lib.hid hm6;clear q6 hcb;go_wp2;go_roundw
     case rel=>exact⟨f+1,H6,by omega,by go_num,k6,hbr6,rx6,hm6,Lib.hid (fun j hj=>by
      rcases Nat.lt_succ_iff_lt_or_eq.1 hj with h|rfl
      ·exact hall.out j h
      ·exact hcan.out)⟩
     case measure=>simp[intOf];omega
    | true=>
     have hfc:Hid (qM H.ma=some f):=Lib.hid (Oq hfl (by unfold BH;rw[hdf.out,hcb];rfl) hall.out);obtain⟨m1,hm1,_,_⟩:=LH hR'.out hC'.out hfc.out;have hm6:Hid (H6.ma=AO H.ma):=Lib.hid (by unfold AO;rw[hfc.out];exact congrArg Kp.m q6);rw[hm1] at q6;obtain⟨_,rfl⟩:=Kp.mk.inj q6;clear q6 hm1 hcb;skip;go_upto_region 10 with (fail);have hBr:Hid (w.heap.size≤w.heap.size+1):=Lib.hid (zN _);refine oI 11 [_,_,_,.v (.agg #[.slice H6.af H6.m.fs.length H6.cf,.int .i64 H6.m.hand,.slice H6.asl H6.sl.length H6.csl,.slice H6.wb H6.sw.blocks.length H6.cwb,.slice H6.wq H6.sw.queue.length H6.cwq,.slice H6.db H6.dk.blocks.length H6.cdb,.slice H6.dq H6.dk.queue.length H6.cdq,.slice H6.ai H6.fi.length H6.ci,.int .i64 H6.ct,.slice H6.ac H6.ca.length H6.cc,.slice H6.ap H6.sp.length H6.cp]),_,_,_,.v (.int .i64 0),.r 8 ((bX fun _=>True)),.v (.bool true),.v (.int .i64 0)] (Ha w w.heap.size b (w.heap.size+1) H6) gN (fun y=>⟨⟨hbr6,hbr6.size⟩,k6.blk,k6.ma,fun _=>rx6,fun e=>(by cases e)⟩) (Qk gN rfl (Qk gN rfl (Qf gN b 0 rfl rfl (ag ?_ (Qk gN rfl (Qk gN rfl (Qf gN b 11 rfl rfl (ag ?_ (ag ?_ (Qk gN rfl (Qk gN rfl (aB) (fun _ _ _ _ hLd h=>iA (by decide) h)) (fun _ _ _ _ hLd h=>iA (by decide) h)))) (fun _ _ _ _ hLd h=>iA (by decide) h)) (fun _ _ _ _ hLd h=>iA (by decide) h)) (fun _ _ _ _ hLd h=>iA (by decide) h))) (fun _ _ _ _ hLd h=>iA (by decide) h)) (fun _ _ _ _ hLd h=>iA (by decide) h)) (fun _ _ _ _ hLd h=>iA (by decide) h)) (fun _=>rfl) rfl ?_
     ·intro ρ y W L hw hn hLi hLd hb hd;refine eB gN (fun _ _ h=>iA (by decide) h) hb ?_;have E47:=hw 47 2 rfl;have h2:y 2=_:=hd 2 rfl;refine aj (.agg #[.slice H6.af H6.m.fs.length H6.cf,.int .i64 H6.m.hand,.slice H6.asl H6.sl.length H6.csl,.slice H6.wb H6.sw.blocks.length H6.cwb,.slice H6.wq H6.sw.queue.length H6.cwq,.slice H6.db H6.dk.blocks.length H6.cdb,.slice H6.dq H6.dk.queue.length H6.cdq,.slice H6.ai H6.fi.length H6.ci,.int .i64 H6.ct,.slice H6.ac H6.ca.length H6.cc,.slice H6.ap H6.sp.length H6.cp]) (ah rfl) (bB rfl (E47.trans h2) (bF hb.2.1 0 11) underlying41 rfl (by kernel_rfl)) rfl
     ·intro ρ y W L hw hn hLi hLd hb hd;refine eB gN (fun _ _ h=>iA (by decide) h) hb ?_;have E51:=hw 51 6 rfl;have h6:y 6=_:=hd 6 rfl;refine aj (.int .i64 0) (ah rfl) (by simp[execOp,go_sem,cZ,E51,h6,hb.2.1.cell,uE]) rfl
     ·intro ρ y W L hw hn hLi hLd hb hd;have E2:ρ (.tmp 2) = .pointer (some ⟨w.heap.size+1,0,none⟩):=(hn (.tmp 2) rfl).trans rfl;have E48:=hw 48 3 rfl;have h3:y 3=_:=hd 3 rfl;have rxW:=hb.2.2.2.1 hLi;exact nU (ah rfl) (uV _ _ _ rfl (w.heap.size+1) 0 _ (dD H6).toList E2 (E48.trans h3) rfl _ _ rxW (ay _) mach_size (fun u hu=>by have:=iB H6;rw[←ky,dL] at this;exact this u hu)) (SS hBr.out hLi hb (rxW.setCells _ _) (aH _ _ _ _)) trivial
     intro y W7 hbW7 hRW7;clear hRW7;simp only[bT,cZ,bM,bN];obtain⟨⟨hbre,_⟩,_,hme,_,hrx8⟩:=hbW7;have rx8:=hrx8 rfl;go_wp2;refine bodyPost_ret (v:=.tuple #[.agg (dD H6),.bool true,.int .i64 0]) (ik results22 _ _ (w.heap.size+1) _ _ _ _ _ rfl rfl rfl rx8 underlying41 rfl mach_size) rfl ?_;exact⟨hbre,H6,by rw[hfc.out];rfl,hme,hm6.out⟩
  have hfi:¬(f:Int)<(N:Int):=by omega
  have hfc:Hid (qM H.ma=none):=Lib.hid (Fj (fun j hj=>hall.out j (by have:=hNH.out;omega)));have hm6:Hid (H4.ma=AO H.ma):=Lib.hid (by unfold AO;rw[hfc.out];exact hm4.out);clear hc;skip;go_upto_region 12 with (fail);have hBr:Hid (w.heap.size≤w.heap.size+1):=Lib.hid (zN _);refine oI 11 [_,_,_,.v (.agg #[.slice H4.af H4.m.fs.length H4.cf,.int .i64 H4.m.hand,.slice H4.asl H4.sl.length H4.csl,.slice H4.wb H4.sw.blocks.length H4.cwb,.slice H4.wq H4.sw.queue.length H4.cwq,.slice H4.db H4.dk.blocks.length H4.cdb,.slice H4.dq H4.dk.queue.length H4.cdq,.slice H4.ai H4.fi.length H4.ci,.int .i64 H4.ct,.slice H4.ac H4.ca.length H4.cc,.slice H4.ap H4.sp.length H4.cp]),_,_,_,.v (.int .i64 0),.r 8 ((bX fun _=>True)),.v (.bool false),.v (.int .i64 0)] (Ha w w.heap.size b (w.heap.size+1) H4) gN (fun y=>⟨⟨hbr4,hbr4.size⟩,k4.blk,k4.ma,fun _=>rx4,fun e=>(by cases e)⟩) (Qk gN rfl (Qk gN rfl (Qf gN b 0 rfl rfl (ag ?_ (Qk gN rfl (Qk gN rfl (Qf gN b 11 rfl rfl (ag ?_ (ag ?_ (Qk gN rfl (Qk gN rfl (aB) (fun _ _ _ _ hLd h=>iA (by decide) h)) (fun _ _ _ _ hLd h=>iA (by decide) h)))) (fun _ _ _ _ hLd h=>iA (by decide) h)) (fun _ _ _ _ hLd h=>iA (by decide) h)) (fun _ _ _ _ hLd h=>iA (by decide) h))) (fun _ _ _ _ hLd h=>iA (by decide) h)) (fun _ _ _ _ hLd h=>iA (by decide) h)) (fun _ _ _ _ hLd h=>iA (by decide) h)) (fun _=>rfl) rfl ?_
  ·intro ρ y W L hw hn hLi hLd hb hd;refine eB gN (fun _ _ h=>iA (by decide) h) hb ?_;have E56:=hw 56 2 rfl;have h2:y 2=_:=hd 2 rfl;refine aj (.agg #[.slice H4.af H4.m.fs.length H4.cf,.int .i64 H4.m.hand,.slice H4.asl H4.sl.length H4.csl,.slice H4.wb H4.sw.blocks.length H4.cwb,.slice H4.wq H4.sw.queue.length H4.cwq,.slice H4.db H4.dk.blocks.length H4.cdb,.slice H4.dq H4.dk.queue.length H4.cdq,.slice H4.ai H4.fi.length H4.ci,.int .i64 H4.ct,.slice H4.ac H4.ca.length H4.cc,.slice H4.ap H4.sp.length H4.cp]) (ah rfl) (bB rfl (E56.trans h2) (bF hb.2.1 0 11) underlying41 rfl (by kernel_rfl)) rfl
  ·intro ρ y W L hw hn hLi hLd hb hd;refine eB gN (fun _ _ h=>iA (by decide) h) hb ?_;have E60:=hw 60 6 rfl;have h6:y 6=_:=hd 6 rfl;refine aj (.int .i64 0) (ah rfl) (by simp[execOp,go_sem,cZ,E60,h6,hb.2.1.cell,uE]) rfl
  ·intro ρ y W L hw hn hLi hLd hb hd;have E2:ρ (.tmp 2) = .pointer (some ⟨w.heap.size+1,0,none⟩):=(hn (.tmp 2) rfl).trans rfl;have E57:=hw 57 3 rfl;have h3:y 3=_:=hd 3 rfl;have rxW:=hb.2.2.2.1 hLi;exact nU (ah rfl) (uV _ _ _ rfl (w.heap.size+1) 0 _ (dD H4).toList E2 (E57.trans h3) rfl _ _ rxW (ay _) mach_size (fun u hu=>by have:=iB H4;rw[←ky,dL] at this;exact this u hu)) (SS hBr.out hLi hb (rxW.setCells _ _) (aH _ _ _ _)) trivial
  intro y W7 hbW7 hRW7;clear hRW7;simp only[bT,cZ,bM,bN];obtain⟨⟨hbre,_⟩,_,hme,_,hrx8⟩:=hbW7;have rx8:=hrx8 rfl;go_wp2;refine bodyPost_ret (v:=.tuple #[.agg (dD H4),.bool false,.int .i64 0]) (ik results22 _ _ (w.heap.size+1) _ _ _ _ _ rfl rfl rfl rx8 underlying41 rfl mach_size) rfl ?_;exact⟨hbre,H4,by rw[hfc.out];rfl,hme,hm6.out⟩
theorem Mj (h:i≠j):cO L i j=L j:=by unfold cO;rw[if_neg (fun e=>h e.symm)]
theorem UM (h:i≠j):dH y i v j=y j:=by unfold dH;rw[if_neg (fun e=>h e.symm)]
def iV (m:Ma) (bits:Int):Ma:={ kZ m.m.fs.length m.sl.length m.st.count with dk:=qa (jU bits) m.dk,st:=m.st }
def SV (w:World) (B b gd gk:Nat) (H N:MH) (vb vq:Value) (D:mZ):(Nat→Bool)→(Nat→Value)→World→Prop:=fun L y W=>
 (Below B w W∧B≤W.heap.size)∧(aC W b (dD H) 41∧aC W (b+1) (dD noH) 41∧aC W gd #[vb,vq] 34)∧ic W B vb vq D ∧
 (L 3=true→∃av cv ps,y 3 = .agg #[.slice av ps.length cv,.int .i64 H.ct]∧nM W B (.slice av ps.length cv) ps∧ps.map PF.fi=H.fi.map PF.fi) ∧
 ∃S:MH,aC W gk (dD S) 41∧uj W B S∧S.m=N.m∧S.sl=N.sl∧S.sw=N.sw∧S.ca=N.ca∧S.sp=N.sp∧(L 5=true→S.dk=D)∧(L 7=true→S.ct=H.ct∧S.fi.map PF.fi=H.fi.map PF.fi)
theorem xR :∀L y W W',Below W.heap.size W W'→SV w B b gd gk H N vb vq D L y W→SV w B b gd gk H N vb vq D L y W':=
 fun _ _ _ _ hb ⟨h1,h2,h3,h4,S,h5,h6,h7⟩=>⟨⟨h1.1.trans (hb.mono h1.2),aX h1.2 hb.size⟩,⟨h2.1.ext hb,h2.2.1.ext hb,h2.2.2.ext hb⟩,h3.below hb,fun e=>by obtain⟨av,cv,ps,k1,k2,k3⟩:=h4 e;exact⟨av,cv,ps,k1,k2.below hb,k3⟩,S,h5.ext hb,h6.below hb,h7⟩
theorem DC (hi:i≠3∧i≠5∧i≠7) (h:SV w B b gd gk H N vb vq D L y W):SV w B b gd gk H N vb vq D (cO L i) (dH y i v) W:=by
 unfold SV at h ⊢;rw[Mj hi.1,Mj hi.2.1,Mj hi.2.2,UM hi.1];exact h
theorem VF (hb:Below W.heap.size W W') (h:SV w B b gd gk H N vb vq D L y W) (ho:nM W' B (.slice av ps.length cv) ps) (hp:ps.map PF.fi=H.fi.map PF.fi) :
  SV w B b gd gk H N vb vq D (cO L 3) (dH y 3 (.agg #[.slice av ps.length cv,.int .i64 H.ct])) W':=by
 obtain⟨h1,h2,h3,h4,h5⟩:=xR _ _ _ _ hb h;exact⟨h1,h2,h3,fun _=>⟨av,cv,ps,rfl,ho,hp⟩,h5⟩
theorem nM.keepT (h:nM w B v ps) (hk:aC w g cs T) (h1:T≠67) (h2:T≠3) (hg:w.grownBy w' (some g)):nM w' B v ps:=
 ⟨ak h.own hk h1 hg,fun i p hp=>ak (h.each i p hp) hk h2 hg,h.apart⟩
theorem VW (hgk:B≤gk∧gk≠b∧gk≠b+1) {S:MH}
 (h1:(Below B w W∧B≤W.heap.size)∧(aC W b (dD H) 41∧aC W (b+1) (dD noH) 41∧aC W gd #[.slice ab D.blocks.length cb,.slice aq D.queue.length cq] 34)∧ic W B (.slice ab D.blocks.length cb) (.slice aq D.queue.length cq) D ∧
 (L 3=true→∃av cv ps,y 3 = .agg #[.slice av ps.length cv,.int .i64 H.ct]∧nM W B (.slice av ps.length cv) ps∧ps.map PF.fi=H.fi.map PF.fi))
 (hS:aC W gk (dD S) 41∧uj W B S∧S.m=N.m∧S.sl=N.sl∧S.sw=N.sw∧S.ca=N.ca∧S.sp=N.sp∧(L 5=true→S.dk=D)∧(L 7=true→S.ct=H.ct∧S.fi.map PF.fi=H.fi.map PF.fi))
 (hk:aC W' gk (bA (dD S) 5 [.slice ab D.blocks.length cb,.slice aq D.queue.length cq]) 41) (hg:W.grownBy W' (some gk)) :
  SV w B b gd gk H N (.slice ab D.blocks.length cb) (.slice aq D.queue.length cq) D (cO L 5) (dH y 5 undef) W':=by
 obtain⟨⟨k1,k2⟩,⟨k3,k4,k5⟩,k6,k7⟩:=h1;obtain⟨s1,s2,s3,s4,s5,s6,s7,s8,s9⟩:=hS;have hd:ic W' B (.slice ab D.blocks.length cb) (.slice aq D.queue.length cq) D:=k6.keep s1 (by decide) (by decide) hg;refine⟨⟨k1.grown hg k2 (fun k hk=>by cases hk;exact hgk.1),aX k2 hg.size⟩,⟨k3.grown hg (fun e=>hgk.2.1 (aJ e)),k4.grown hg (fun e=>hgk.2.2 (aJ e)),bu k5 s1 (by decide) hg⟩,hd,fun e => ?_,{ S with db:=ab,cdb:=cb,dq:=aq,cdq:=cq,dk:=D },hk,{ s2.keep s1 (by decide) hg with dk:=hd },s3,s4,s5,s6,s7,fun _=>rfl,fun e=>s9 e⟩;obtain⟨av,cv,ps,e1,e2,e3⟩:=k7 e;exact⟨av,cv,ps,e1,e2.keepT s1 (by decide) (by decide) hg,e3⟩
theorem VP (hgk:B≤gk∧gk≠b∧gk≠b+1) {S:MH} 
 (h1:(Below B w W∧B≤W.heap.size)∧(aC W b (dD H) 41∧aC W (b+1) (dD noH) 41∧aC W gd #[vb,vq] 34)∧ic W B vb vq D)
 (hy:y 3 = .agg #[.slice av ps.length cv,.int .i64 H.ct]∧nM W B (.slice av ps.length cv) ps∧ps.map PF.fi=H.fi.map PF.fi) (h64 : -9223372036854775808≤H.ct∧H.ct≤9223372036854775807)
 (hS:aC W gk (dD S) 41∧uj W B S∧S.m=N.m∧S.sl=N.sl∧S.sw=N.sw∧S.ca=N.ca∧S.sp=N.sp∧(L 5=true→S.dk=D)∧(L 7=true→S.ct=H.ct∧S.fi.map PF.fi=H.fi.map PF.fi))
 (hk:aC W' gk (bA (dD S) 7 [.slice av ps.length cv,.int .i64 H.ct]) 41) (hg:W.grownBy W' (some gk)) :
  SV w B b gd gk H N vb vq D (cO L 7) (dH y 7 undef) W':=by
 obtain⟨⟨k1,k2⟩,⟨k3,k4,k5⟩,k6⟩:=h1;obtain⟨e1,e2,e3⟩:=hy;obtain⟨s1,s2,s3,s4,s5,s6,s7,s8,s9⟩:=hS;have hf:nM W' B (.slice av ps.length cv) ps:=e2.keepT s1 (by decide) (by decide) hg;exact⟨⟨k1.grown hg k2 (fun k hk=>by cases hk;exact hgk.1),aX k2 hg.size⟩,⟨k3.grown hg (fun e=>hgk.2.1 (aJ e)),k4.grown hg (fun e=>hgk.2.2 (aJ e)),bu k5 s1 (by decide) hg⟩,k6.keep s1 (by decide) (by decide) hg,fun _=>⟨av,cv,ps,e1,hf,e3⟩,{ S with ai:=av,ci:=cv,fi:=ps,ct:=H.ct },hk,{ s2.keep s1 (by decide) hg with st:=hf,c64:=h64 },s3,s4,s5,s6,s7,fun e=>s8 e,fun _=>⟨rfl,e3⟩⟩
def Wu (H:MH) (bits:Int) (w:World) (r:Ending) (w' : World):Prop:=Below w.heap.size w w'∧∃H' : MH,r = .returned (.tuple #[.agg (dD H'),.int .i64 0])∧uj w' w.heap.size H'∧H'.ma=iV H.ma bits
theorem Hd (h:Rt m):(((0:Int)≤m.m.fs.length∧(m.m.fs.length:Int)≤40)∧((0:Int)≤m.sl.length∧(m.sl.length:Int)≤60)∧0≤m.st.count∧m.st.count≤80):=by
 have h1:=((eD _).1 h.pt.fr).1;have h2:=iT h.pt.sl;have h3:=(jv h.pt.st).2;omega
theorem Df (H:MH) (bits:Int) (w:World) (h:BF w H) (hR:Rt H.ma) (hC:Co H.ma) :
  Calls Tryz.prog 26 #[.agg (dD H),.int .i64 bits] w (Wu H bits w):=by
 have hst0:=Lib.hid h.st;have hR':=Lib.hid hR;have hC':=Lib.hid hC;have hz0:=Lib.hid (vV hR);clear hR hC;go_enter func26,ntmps26;go_upto_region 1 with (fail);refine qH (fun W=>Code.wp _ _ _ _ W) fun w1 hb1 bx1 rx1 hs1 => ?_;have bx1:aC w1 w.heap.size (dD H) 41:=bx1;have rx1:aC w1 (w.heap.size+1) (dD noH) 41:=rx1;have h1:=h.below hb1;clear h
 go_wp2_with (refine ax _ _ rfl w.heap.size 0 rfl rfl _ bx1.rd _ underlying41 rfl machine_size ?_)
 refine (pu H _ h1).mono ?_;rintro r w2 ⟨rfl,hb2⟩;rw[GH.2 hR'.out];have h2:=h1.below hb2;have bx2:=bx1.ext hb2;have rx2:=rx1.ext hb2;have hbr2:=ae hb1 hb2;clear h1 bx1 rx1 hb1 hb2 hs1;have hE:AJ H.m.fs.length H.sl.length H.ct=0:=if_pos (Hd hR'.out);have hwd:bn H.dk=0:=hR'.out.pt.dk;have hc2:=bx2.cell;unfold dD at hc2
 go_wp2_with fail
 refine (Kk H.m.fs.length H.sl.length H.ct _ h2.c64).mono ?_;rintro r w3 ⟨N,rfl,hoN,hmN,hb3⟩;rw[hE];have hmN':=Lib.hid hmN;have h3:=h2.below hb3;have bx3:=bx2.ext hb3;have rx3:=rx2.ext hb3;have hbr3:=ae hbr2 hb3;have hNB:=hoN.mono hbr2.size;clear h2 bx2 rx2 hc2 hbr2 hb3 hmN hoN hE
 go_wp2_with (refine aI rfl _ _ _ rfl (dD N) rfl rfl rfl machine_size (iB _) ?_)
 intro w4 hb4 nx4;have h4:=h3.below hb4;have bx4:=bx3.ext hb4;have rx4:=rx3.ext hb4;have hbr4:=ae hbr3 hb4;have hN4:=hNB.below hb4;have hgk:Hid (w.heap.size≤w3.heap.size∧w3.heap.size≠w.heap.size∧w3.heap.size≠w.heap.size+1):=Lib.hid ⟨hbr3.size,by have:=rx3.lt;omega,by have:=rx3.lt;omega⟩;clear h3 bx3 rx3 hbr3 hb4 hNB;generalize w3.heap.size=gk at nx4 hgk
 go_wp2_with (refine ax _ _ rfl w.heap.size 5 rfl rfl _ (bF bx4 5 2) _ underlying34 rfl disk_size ?_)
 refine (LA H.dk H.db H.cdb H.dq H.cdq bits _ h4.dk).mono ?_;rintro r w5 ⟨vb,vq,rfl,hD,hb5⟩;rw[hwd];have h5:=h4.below hb5;have bx5:=bx4.ext hb5;have rx5:=rx4.ext hb5;have nx5:=nx4.ext hb5;have hbr5:=ae hbr4 hb5;have hN5:=hN4.below hb5;have hD5:=hD.mono hbr4.size;clear h4 bx4 rx4 nx4 hbr4 hb5 hN4 hD hwd;obtain⟨D,hDD⟩:∃D,Hid (D=qa (jU bits) H.dk):=⟨_,Lib.hid rfl⟩;rw[←hDD.out] at hD5;obtain⟨ab,cb,aq,cq,rfl,rfl,_⟩:=hD5.rd
 go_wp2_with (refine aI rfl _ _ _ rfl #[.slice ab D.blocks.length cb,.slice aq D.queue.length cq] rfl rfl rfl disk_size (by simp[Value.oneCell']) ?_)
 intro w6 hb6 dx6;have h6:=h5.below hb6;have bx6:=bx5.ext hb6;have rx6:=rx5.ext hb6;have nx6:=nx5.ext hb6;have hbr6:=ae hbr5 hb6;have hN6:=hN5.below hb6;have hD6:=hD5.below hb6;clear h5 bx5 rx5 nx5 hbr5 hb6 hN5 hD5;generalize w5.heap.size=gd at dx6;have hsz:Hid (TL H.fi):=Lib.hid (EK (ps:=H.fi) (k:=H.ct) hR'.out.pt.st);have h64:=Lib.hid h6.c64;go_upto_region 10 with (fail);refine oI 8 [.v (.agg #[.slice ab D.blocks.length cb,.slice aq D.queue.length cq]),_,.v (.agg #[.slice H.ai H.fi.length H.ci,.int .i64 H.ct]),.r 3 ((bX fun _=>True)),_,.r 5 ((bX fun _=>True)),_,.r 7 ((bX fun _=>True))] (SV w w.heap.size w.heap.size gd gk H N (.slice ab D.blocks.length cb) (.slice aq D.queue.length cq) D) xR (fun y=>⟨⟨hbr6,hbr6.size⟩,⟨bx6,rx6,dx6⟩,hD6,fun e=>(by cases e),N,nx6,hN6,rfl,rfl,rfl,rfl,rfl,fun e=>(by cases e),fun e=>(by cases e)⟩) (ag ?_ (Qf xR w.heap.size 7 rfl rfl (ag ?_ (ag ?_ (Qf xR gk 5 rfl rfl (ag ?_ (Qf xR gk 7 rfl rfl (ag ?_ (aB)) (fun _ _ _ _ hLd h=>DC (by decide) h))) (fun _ _ _ _ hLd h=>DC (by decide) h)))) (fun _ _ _ _ hLd h=>DC (by decide) h))) (fun _=>rfl) rfl ?_
 ·intro ρ y W L hw hn hLi hLd hb hd;refine eB xR (fun _ _ h=>DC (by decide) h) hb ?_;have E9:ρ (.tmp 9) = .pointer (some ⟨gd,0,none⟩):=(hn (.tmp 9) rfl).trans rfl;have dxW:=hb.2.1.2.2;refine aj (.agg #[.slice ab D.blocks.length cb,.slice aq D.queue.length cq]) (ah rfl) (dx rfl E9 dxW underlying34 rfl disk_size) rfl
 ·intro ρ y W L hw hn hLi hLd hb hd;refine eB xR (fun _ _ h=>DC (by decide) h) hb ?_;have E47:=hw 47 1 rfl;have h1:y 1=_:=hd 1 rfl;have bxW:=hb.2.1.1;refine aj (.agg #[.slice H.ai H.fi.length H.ci,.int .i64 H.ct]) (ah rfl) (bB rfl (E47.trans h1) (bF bxW 7 2) underlying37 rfl store_size) rfl
 ·intro ρ y W L hw hn hLi hLd hb hd;have E48:=hw 48 2 rfl;have h2:y 2=_:=hd 2 rfl;have EF:∀f,ρ (.func f) = .func (.func f) #[] #[]:=fun f=>hn (.func f) trivial;refine gJ _ _ (ah rfl) (aQ rfl (EF _) func61 (by kernel_rfl) (by kernel_rfl) (by simp only[bP,bM,bN,E48,h2,EF];rfl)) ?_;have hst:Ll W H.ai H.ci H.fi:=hst0.out.below hb.1.1;refine (Di H.fi H.ct H.ai H.ci W hst hsz.out).mono ?_;rintro r w9 ⟨v,ps,rfl,ho,hp,hb9⟩;obtain⟨av,cv,rfl,_⟩:=ho.own.rd;exact⟨_,rfl,VF hb9 hb (ho.mono hb.1.2) hp,trivial⟩
 ·intro ρ y W L hw hn hLi hLd hb hd;have E50:=hw 50 4 rfl;have h4:y 4=_:=hd 4 rfl;have E46:=hw 46 0 rfl;have h0:y 0=_:=hd 0 rfl;obtain⟨j1,j2,j3,j4,S,jS⟩:=hb;exact nU (ah rfl) (uV _ _ _ rfl gk 5 _ [.slice ab D.blocks.length cb,.slice aq D.queue.length cq] (E50.trans h4) (E46.trans h0) rfl _ _ jS.1 (by show 5+2≤11;decide) disk_size (fun u hu=>by simp at hu;rcases hu with rfl | rfl<;>rfl)) (VW hgk.out ⟨j1,j2,j3,j4⟩ jS (jS.1.setCells _ _) (aH _ _ _ _)) trivial
 ·intro ρ y W L hw hn hLi hLd hb hd;have E51:=hw 51 6 rfl;have h6:y 6=_:=hd 6 rfl;have E49:=hw 49 3 rfl;have h3:=hd 3 rfl;obtain⟨j1,j2,j3,j4,S,jS⟩:=hb;obtain⟨av,cv,ps,k1,k2,k3⟩:=j4 (hLd 3 rfl);exact nU (ah rfl) (uV _ _ _ rfl gk 7 _ [.slice av ps.length cv,.int .i64 H.ct] (E51.trans h6) (E49.trans k1) rfl _ _ jS.1 (by show 7+2≤11;decide) store_size (fun u hu=>by simp at hu;rcases hu with rfl | rfl<;>rfl)) (VP hgk.out ⟨j1,j2,j3⟩ ⟨k1,k2,k3⟩ h64.out jS (jS.1.setCells _ _) (aH _ _ _ _)) trivial
 intro y W7 hbW7 hRW7;clear hRW7;simp only[bT,cZ,bM,bN];obtain⟨⟨j1,_⟩,⟨_,rx7,_⟩,_,_,S,nx7,hS,s1,s2,s3,s4,s5,s6,s7⟩:=hbW7;have hm:Hid (S.ma=iV H.ma bits):=Lib.hid (by have e1:=s6 rfl;obtain⟨e2,e3⟩:=s7 rfl;unfold iV;show (⟨S.m,S.sl,S.sw,S.dk,⟨S.fi.map PF.fi,S.ct⟩,S.ca,S.sp.map PS.sp⟩:Ma)=_;rw[s1,s2,s3,e1,e2,e3,s4,s5,hDD.out];have:=hmN'.out;rw[show kZ H.ma.m.fs.length H.ma.sl.length H.ma.st.count=N.ma from this.symm];rfl);clear s1 s2 s3 s4 s5 s6 s7 hbr6 bx6 rx6 nx6 dx6 hN6 hD6 h6
 go_wp2_with (first | (refine ax _ _ rfl gk 0 rfl rfl _ nx7.rd _ underlying41 rfl machine_size ?_) | (refine az rfl _ _ _ rfl (w.heap.size+1) (dD S) rfl rfl _ _ rx7 rfl mach_size (iB _) ?_))
 intro w8 rx8 hg8;have hbre:=j1.grown hg8 (by have:=j1.size;exact this) (fun k hk=>by cases hk;omega);have hme:=hS.keep rx7 (by decide) hg8;go_wp2;refine bodyPost_ret (v:=.tuple #[.agg (dD S),.int .i64 0]) (fH results26 _ _ (w.heap.size+1) _ _ _ _ rfl rfl rx8 underlying41 rfl mach_size) rfl ?_;exact⟨hbre,S,rfl,hme,hm.out⟩
theorem UG (hf:f≤40) (hs:s≤60) (hc:ct≤80):Rt (kZ f s ct):=by
 rw[←IL hf hs hc];have h1:=((Fb.start hc).bd (f:=f) (s:=s) (by decide) hf hs).more (s:=⟨true,[],zTb⟩) (by show 0<4;decide) rfl (by decide);exact h1.rt
theorem RL {f s c:Int} (h:(0≤f∧f≤40)∧(0≤s∧s≤60)∧0≤c∧c≤80):kZ f s c=⟨tV f,AQ s,oo s,oo c,⟨[],c⟩,[],[⟨true,[],zTb⟩]⟩:=by
 unfold kZ;rw[if_pos h]
theorem FT (h:m.sp=[⟨true,[],zTb⟩]) (p:Nat) (n:Int):ent m p n=zEn:=by
 unfold ent
 match p with
 | 0=>rw[show fq m 0=⟨true,[],zTb⟩ from by unfold fq;rw[h];rfl];exact Nz rfl n
 | p+1=>rw[nE (by rw[h];simp)];exact Nz rfl n
theorem QW (hR:Rt m) (bits:Int):Rt (iV m bits)∧Co (iV m bits):=by
 have hf:=Hd hR;obtain⟨c,hc⟩:=fE hf.2.2.1;have hN:Rt (kZ m.m.fs.length m.sl.length m.st.count):=by rw[hc];exact UG (by omega) (by omega) (by omega)
 have hi':=RL hf;have hsp:(iV m bits).sp=[⟨true,[],zTb⟩]:=by unfold iV;rw[hi']
 have hca:(iV m bits).ca=[]:=by unfold iV;rw[hi']
 have hdk:(iV m bits).dk=⟨jX (jU bits) m.dk.blocks m.dk.queue m.dk.queue.length,[]⟩:=by unfold iV qa;rw[if_pos hR.pt.dk]
 have hst:(iV m bits).st=m.st:=rfl;have hnoc:∀c,¬c∈(iV m bits).ca:=fun c h=>by rw[hca] at h;cases h
 have hwd:=hR.pt.dk;refine⟨⟨⟨hN.pt.fr,hN.pt.sl,hN.pt.sw,?_,hR.pt.st,hN.pt.swl,?_,hN.pt.spl,hN.pt.ar,hN.pt.tb⟩,⟨fun b h0 hb => ?_,fun q hq => ?_⟩,fun p hp=>⟨?_,fun n=>by rw[FT hsp];rfl⟩,⟨fun c h=>absurd h (hnoc c),fun c h=>absurd h (hnoc c),fun c h=>absurd h (hnoc c),by rw[hca];exact List.Pairwise.nil⟩,fun p n h=>absurd (by rw[FT hsp];rfl) h,hN.cf,fun i hi h0 => ?_,hN.cs⟩,fun c h=>absurd h (hnoc c),fun c h=>absurd h (hnoc c),fun i hi hd => ?_⟩
 ·exact Lr _ hwd
 ·rw[hdk];show ((jX _ _ _ _).length:Int)=m.st.count;rw[lw];exact hR.pt.dkl
 ·by_cases hbm:b∈kE m.st
  ·exact .inl hbm
  right
  rw[hdk] at hb ⊢;have hb:b<((jX (jU bits) m.dk.blocks m.dk.queue m.dk.queue.length).length:Int):=hb;rw[lw] at hb;have hz:m.dk.blocks.getD b.toNat zPg=zPg:=by
   rcases hR.trim.1 b h0 hb with h|h
   ·exact absurd h hbm
   ·exact h
  have hbn:b.toNat<m.dk.blocks.length:=by omega
  rw[aW] at hz;show (jX (jU bits) m.dk.blocks m.dk.queue m.dk.queue.length).getD b.toNat zPg=zPg;rw[aW];rcases PW (jU bits) m.dk.blocks m.dk.queue (fun x hx=>(((gF _).1 hwd).2.2 x hx).1) m.dk.queue.length b.toNat hbn with h|⟨x,hx,hxi,_⟩
  ·rw[h];rw[aG hbn] at hz;exact hz
  ·exact absurd (by have:=hR.trim.2 x hx;rwa [hxi,zz h0] at this) hbm
 ·rw[hdk] at hq;cases hq
 ·match p,hp with
  | 0,hp=>
   rw[show fq (iV m bits) 0=⟨true,[],zTb⟩ from by unfold fq;rw[hsp];rfl] at hp;cases hp
  | p+1,_=>rw[nE (by rw[hsp];simp)];rfl
 ·exact hN.fc i hi h0
 have e:(iV m bits).m.fs=List.replicate m.m.fs.length frZ:=by show (kZ _ _ _).m.fs=_;rw[hi'];show (tV _).fs=_;unfold tV;rw[if_pos hf.1];simp
 unfold aT at hd;rw[e,aW,ny] at hd;split at hd<;>cases hd
theorem Jo (hR:Rt m) (bits:Int):(iV m bits).sp=[⟨true,[],zTb⟩]∧(iV m bits).ca=[]∧uO (iV m bits).m.fs=m.m.fs.length:=by
 have hf:=Hd hR;have hi':=RL hf;refine⟨by unfold iV;rw[hi'],by unfold iV;rw[hi'],?_⟩;have e:(iV m bits).m.fs=List.replicate m.m.fs.length frZ:=by show (kZ _ _ _).m.fs=_;rw[hi'];show (tV _).fs=_;unfold tV;rw[if_pos hf.1];simp
 rw[e];unfold uO;rw[Hz];rfl
theorem Ug {l:List PF} (h:l'.map PF.fi=l.map PF.fi) {p:PF} (hp:l[i]?=some p) (hp' : l'[i]?=some p'):p'.n=p.n∧p'.l=p.l:=by
 have e:=congrArg (fun l:List Fi=>l[i]?) h;simp only[jM,hp,hp',tC,iM] at e;exact⟨congrArg Fi.n e,congrArg Fi.b e⟩
theorem wF {α:Type} (q:α→Bool) (l:List α) (j:Nat) (hj:j<l.length):(l.take (j+1)).countP q=(l.take j).countP q+if q l[j]=true then 1 else 0:=by
 rw[mQ,aG hj,Cb];simp[nP]
def tL (t:List En):List Value:=(List.range 64).flatMap fun i=>kP (t.getD i zEn)
theorem xS (t:List En):(tL t).length=192:=by
 unfold tL;rw[Pw.flat_len (fun i=>kP (t.getD i zEn)) 3 (fun _=>eY _),BQ]
structure MW where
 al:Option Addr
 cl:Nat
 l:List UInt8
 H:MH
 ab:Option Addr
 cb:Nat
 T:List (List En)
def iQ (S:MW):Array Value:=#[.slice S.al S.l.length S.cl,.slice S.H.af S.H.m.fs.length S.H.cf,.int .i64 S.H.m.hand,.slice S.H.asl S.H.sl.length S.H.csl,.slice S.H.wb S.H.sw.blocks.length S.H.cwb,.slice S.H.wq S.H.sw.queue.length S.H.cwq,
 .slice S.H.db S.H.dk.blocks.length S.H.cdb,.slice S.H.dq S.H.dk.queue.length S.H.cdq,.slice S.H.ai S.H.fi.length S.H.ci,.int .i64 S.H.ct,.slice S.H.ac S.H.ca.length S.H.cc,.slice S.H.ap S.H.sp.length S.H.cp,.slice S.ab S.T.length S.cb]
def gV (S:MW):List (Option Nat):=[oB S.H.af,oB S.H.asl,oB S.H.wb,oB S.H.db,oB S.H.dq,oB S.H.ai,oB S.H.ac,oB S.H.ap,oB S.ab]
def mE (b:Nat) (S:MW) (x:Nat):Prop:=x=b∨some x∈gV S
structure dW (w:World) (B b:Nat) (S:MW):Prop where
 blk:aC w b (iQ S) 77
 ge:B≤b
 ma:uj w B S.H
 tt:Own w B 90 192 (.slice S.ab S.T.length S.cb) S.T.length (S.T.flatMap tL)
 rd:ui w S.al S.cl S.l.length (S.l.map BP)
 ra:∀a,S.al=some a→S.l.map BP≠[]→a.block<B
 n1:∀x,oB S.H.wb=some x→oB S.H.db≠some x
 n2:∀p∈S.H.fi,∀x,oB p.a=some x→oB S.H.asl≠some x
 n3:S.H.wq=none
structure MS (w0:World) (b:Nat) (S0:MW) (w:World) (S:MW):Prop where
 os:w.os=w0.os
 tape:w.tape=w0.tape
 output:w.output=w0.output
 size:w0.heap.size≤w.heap.size
 keep:∀x,x<w0.heap.size→¬mE b S0 x→w.heap[x]?=w0.heap[x]?
 sn:∀x,mE b S x→mE b S0 x∨w0.heap.size≤x
theorem MS.refl (w:World) (b:Nat) (S:MW):MS w b S w S:=⟨rfl,rfl,rfl,ay _,fun _ _ _=>rfl,fun _ h => .inl h⟩
theorem MS.trans {H0 H1 H2:MW} (h:MS w0 b H0 w1 H1) (k:MS w1 b H1 w2 H2):MS w0 b H0 w2 H2:=
 ⟨k.os.trans h.os,k.tape.trans h.tape,k.output.trans h.output,aX h.size k.size,fun x hx hn=>(k.keep x (pX hx h.size) (fun hk=>(h.sn x hk).elim hn (fun hh=>absurd hx (BN.2 hh)))).trans (h.keep x hx hn),
  fun x hx=>(k.sn x hx).elim (h.sn x) (fun hh => .inr (aX h.size hh))⟩
theorem MS.below {H0 H:MW} (h:MS w0 b H0 w H) (hb:Below w.heap.size w w'):MS w0 b H0 w' H:=
 ⟨hb.os.trans h.os,hb.tape.trans h.tape,hb.output.trans h.output,aX h.size hb.size,fun x hx hn=>(hb.block x (pX hx h.size)).trans (h.keep x hx hn),h.sn⟩
theorem MS.put {y:Nat} {H0 H H' : MW} (h:MS w0 b H0 w H) (hg:w.grownBy w' (some y)) (hy:mE b H y) (hn:∀x,mE b H' x→mE b H x∨w0.heap.size≤x):MS w0 b H0 w' H':=
 ⟨hg.os.trans h.os,hg.tape.trans h.tape,hg.output.trans h.output,aX h.size hg.size,fun x hx hnx=>(hg.block x (pX hx h.size) (fun e=>by have e' : x=y:=aJ e;rw[←e'] at hy;exact (h.sn x hy).elim hnx (fun hh=>absurd hx (BN.2 hh)))).trans (h.keep x hx hnx),fun x hx=>(hn x hx).elim (h.sn x) .inr⟩
theorem MS.loc {y:Nat} {H0 H:MW} (h:MS w0 b H0 w H) (hg:w.grownBy w' (some y)) (hy:w0.heap.size≤y):MS w0 b H0 w' H:=
 ⟨hg.os.trans h.os,hg.tape.trans h.tape,hg.output.trans h.output,aX h.size hg.size,fun x hx hnx=>(hg.block x (pX hx h.size) (fun e=>by have e' : x=y:=aJ e;omega)).trans (h.keep x hx hnx),h.sn⟩
theorem MS.same {H0 H H' : MW} (h:MS w0 b H0 w H) (he:gV H' = gV H):MS w0 b H0 w H':=
 { h with sn:=fun x hx=>h.sn x (by unfold mE at hx ⊢; rw[←he];exact hx) }
theorem dW.lt {S:MW} (h:dW w B b S):b<w.heap.size:=h.blk.lt
theorem dW.bs {S:MW} (h:dW w B b S):B≤w.heap.size:=aX h.ge (qi h.lt)
theorem dW.below {S:MW} (h:dW w B b S) (hb:Below w.heap.size w w'):dW w' B b S:=⟨h.blk.ext hb,h.ge,h.ma.below hb,h.tt.below hb,h.rd.below hb,h.ra,h.n1,h.n2,h.n3⟩
theorem dW.kb_own {S:MW} (h:dW w B b S) {x:Nat} (hx:mE b S x):B≤x∧x<w.heap.size:=by
 have own:∀ {e:TypeId} {sz n c:Nat} {a:Option Addr} {xs:List Value},Own w B e sz (.slice a n c) n xs→oB a=some x→B≤x∧x<w.heap.size:=fun ho hx=>by obtain⟨h1,cs,h2⟩:=iK ho hx;exact⟨h1,h2.lt⟩
 rcases hx with hx|hx
 ·rw[hx];exact⟨h.ge,h.lt⟩
 simp only[gV,bY,fI,or_false] at hx;rcases hx with hx|hx|hx|hx|hx|hx|hx|hx|hx
 ·exact own h.ma.fr hx.symm
 ·exact own h.ma.sl hx.symm
 ·exact own h.ma.sw.b hx.symm
 ·exact own h.ma.dk.b hx.symm
 ·exact own h.ma.dk.q hx.symm
 ·exact own h.ma.st.own hx.symm
 ·exact own h.ma.ca hx.symm
 ·exact own h.ma.sp hx.symm
 ·exact own h.tt hx.symm
theorem MS.to {S0 S:MW} (h:dW w0 B b S0) (hs:MS w0 b S0 w S) (hB:B0≤B):Below B0 w0 w:=
 ⟨hs.os,hs.tape,hs.output,hs.size,fun x hx=>hs.keep x (by have:=h.bs;omega) (fun hk=>by have:=(h.kb_own hk).1;omega)⟩
theorem MS.blkN {x:Nat} {S0 S:MW} (hs:MS w0 b S0 w S) (hk:aC w0 x cs T) (hx:¬mE b S0 x):aC w x cs T:=(hs.keep x hk.lt hx).trans hk
theorem MS.not {x:Nat} {S0 S:MW} (hs:MS w0 b S0 w S) (hl:x<w0.heap.size) (hx:¬mE b S0 x):¬mE b S x:=fun h=>(hs.sn x h).elim hx (fun h=>by omega)
theorem MS.ownN {S0 S:MW} (hs:MS w0 b S0 w S) (ho:Own w0 B' t sz v n xs) (hx:∀x,v.ownBlock=some x→¬mE b S0 x):Own w B' t sz v n xs:=
 ⟨ho.1,ho.2.imp id fun⟨g,off,cap,cur,hv,hB,hk,r⟩=>⟨g,off,cap,cur,hv,hB,hs.blkN hk (hx g (by rw[hv];rfl)),r⟩⟩
theorem dW.new {S:MW} (h:dW w B b S) {x:Nat} (hx:w.heap.size≤x):¬mE b S x:=fun hk=>by have:=(h.kb_own hk).2;omega
theorem ui.keep (h:ui w a c n vs) (ha:∀x,a=some x→vs≠[]→x.block<B) (hB:B≤w.heap.size) (hg:w.grownBy w' (some g)) (hgB:B≤g):ui w' a c n vs:=
 ⟨h.le,h.mx,h.nl,fun i u hi=>by obtain⟨b',o',e,hc⟩:=h.rd i u hi;have hl:b' < B:=ha _ e (fun e0=>by rw[e0] at hi;cases hi);exact⟨b',o',e,hg.cell hc (fun e=>by have h3:b' = g:=aJ e;omega)⟩⟩
theorem dW.putL {S:MW} (h:dW w B b S) {l:List UInt8} (hr:ui w a c l.length (l.map BP)) (ha:∀x,a=some x→l.map BP≠[]→x.block<B) (hb:aC w' b (bA (iQ S) 0 [.slice a l.length c]) 77) (hg:w.grownBy w' (some b)) :
  dW w' B b { S with al:=a,cl:=c,l:=l }:=
 ⟨hb,h.ge,h.ma.keep h.blk (by decide) hg,ak h.tt h.blk (by decide) hg,hr.keep ha h.bs hg h.ge,ha,h.n1,h.n2,h.n3⟩
theorem uj.putF (h:uj w B H) (hk:aC w g cs 81) (hg:w.grownBy w' (some g)) {m:Mem} (ho:Own w' B 81 13 (.slice H.af m.fs.length H.cf) m.fs.length (m.fs.flatMap pO)):uj w' B { H with m:=m }:=
 ⟨ho,ak h.sl hk (by decide) hg,h.sw.keep hk (by decide) (by decide) hg,h.dk.keep hk (by decide) (by decide) hg,h.st.keep hk (by decide) (by decide) hg,ak h.ca hk (by decide) hg,ak h.sp hk (by decide) hg,fun p hp=>⟨ak (h.ps p hp).1 hk (by decide) hg,(h.ps p hp).2.keep hk (by decide) hg⟩,h.c64⟩
theorem dW.putF {S:MW} (h:dW w B b S) (hk:aC w g cs 81) (hgB:B≤g) (hg:w.grownBy w' (some g)) {fs:List Fr} (hl:fs.length=S.H.m.fs.length) (ho:Own w' B 81 13 (.slice S.H.af fs.length S.H.cf) fs.length (fs.flatMap pO)) :
  dW w' B b { S with H:={ S.H with m:=⟨fs,S.H.m.hand⟩ } }:=
 ⟨by
  have h1:=bu h.blk hk (by decide) hg;have e:iQ { S with H:={ S.H with m:=⟨fs,S.H.m.hand⟩ } }=iQ S:=by unfold iQ;rw[show ({ S.H with m:=⟨fs,S.H.m.hand⟩ }:MH).m.fs.length=S.H.m.fs.length from hl]
  rw[e];exact h1,h.ge,h.ma.putF hk hg (m:=⟨fs,S.H.m.hand⟩) ho,ak h.tt hk (by decide) hg,h.rd.keep h.ra h.bs hg hgB,h.ra,h.n1,h.n2,h.n3⟩
theorem MI (t:List En) (i r:Nat) (hi:i<64) (hr:r<3):(tL t)[i*3+r]?=(kP (t.getD i zEn))[r]?:=by
 unfold tL;rw[ji (fun i=>kP (t.getD i zEn)) 3 (fun _=>eY _) (List.range 64) i (by rw[BQ];exact hi) r hr,Ga]
theorem Vm {t:List En} {x:En} (hl:t.length=64) (hn:n<64) (cur:Array Value) (o:Nat) (hs:o+192≤cur.size) (hc:∀j u,(tL t)[j]?=some u→cur[o+j]?=some u) :
  bA cur (o+n*3) (kP x)=bA cur o (tL (t.set n x)):=by
 have hset:∀i,i<64→(t.set n x).getD i zEn=if i=n then x else t.getD i zEn:=fun i hi=>by
  rw[aW,mf]
  by_cases e:i=n
  ·subst e;rw[if_pos rfl,if_pos (by omega),if_pos rfl];rfl
  ·rw[if_neg (fun h=>e h.symm),if_neg e,aW]
 apply mg;intro m;have hl3:(kP x).length=3:=eY x;have hl192:=xS (t.set n x)
 by_cases h1:o≤m∧m<o+192
 ·obtain⟨d,rfl⟩:∃d,m=o+d:=⟨m-o,by omega⟩;have hd:d<192:=by omega
  obtain⟨i,r,hi,hr,rfl⟩:∃i r,i<64∧r<3∧d=i*3+r:=⟨d / 3,d%3,by omega,by omega,by omega⟩;obtain⟨u,hu⟩:∃u,(tL (t.set n x))[i*3+r]?=some u:=⟨_,aG (by omega)⟩;rw[putAt_in _ _ _ _ u (by rw[hl192];exact hs) hu];rw[MI _ i r hi hr,hset i hi] at hu
  by_cases e:i=n
  ·subst e;rw[if_pos rfl] at hu;rw[←mU];exact putAt_in _ _ _ _ u (by omega) hu
  rw[if_neg e] at hu;rw[putAt_out _ _ _ _ (by omega)];exact hc _ _ (by rw[MI _ i r hi hr];exact hu)
 ·rw[putAt_out _ _ _ _ (by omega),putAt_out _ _ _ _ (by omega)]
theorem dW.lst_len {S:MW} (hp:p<S.T.length):eP S.T p=S.T[p]:=by
 unfold eP;rw[aW,aG hp];rfl
theorem dW.ent {S:MW} (h:dW w B b S) (hp:p<S.T.length) (hn:n<64) (h64:(eP S.T p).length=64) :
  ∃g off cur,S.ab=some ⟨g,off,none⟩∧B≤g∧aC w g cur 90∧off+p*192+n*3+3≤cur.size∧(∀j u,(kP (eU S.T p n))[j]?=some u→w.cell? ⟨g,off+p*192+n*3+j,none⟩=some u) ∧
   ∀w' x,aC w' g (bA cur (off+p*192+n*3) (kP x)) 90→w.grownBy w' (some g)→dW w' B b { S with T:=setL S.T p n x }:=by
 obtain⟨g,off,cap,cur,hv,hB,hg,hs,hc,hw⟩:=h.tt.put xS (by decide) p hp;simp only[lY] at hv;obtain⟨hv,_,_⟩:=hv;refine⟨g,off,cur,hv,hB,hg,by omega,fun j u hj => ?_,fun w' x hw' hgr => ?_⟩
 ·have hj3:j<3:=by
   rcases fA j 3 with h|h
   ·exact h
   ·rw[dI (by rw[eY];exact h)] at hj;cases hj
  have:=hc (n*3+j) u (by rw[MI _ n j hn hj3,←dW.lst_len hp];exact hj);rw[←this];congr 2;omega
 have hcur:∀j u,(tL (eP S.T p))[j]?=some u→cur[off+p*192+j]?=some u:=fun j u hj=>by rw[dW.lst_len hp] at hj;have:=hc j u hj;rw[hg.cell] at this;exact this
 rw[Vm h64 hn cur _ (by omega) hcur] at hw';have ho:=hw w' _ hw';have hlen:({ S with T:=setL S.T p n x }:MW).T.length=S.T.length:=by show (setL S.T p n x).length=_;unfold setL;rw[bI]
 refine⟨?_,h.ge,h.ma.keep hg (by decide) hgr,?_,h.rd.keep h.ra h.bs hgr hB,h.ra,h.n1,h.n2,h.n3⟩
 ·have e:iQ { S with T:=setL S.T p n x }=iQ S:=by unfold iQ;rw[hlen]
  rw[e];exact bu h.blk hg (by decide) hgr
 ·rw[hlen];exact ho
theorem dW.putS {S:MW} (h:dW w B b S) (hk:aC w g cs 3) (hgB:B≤g) (hga:oB S.H.asl=some g) (hg:w.grownBy w' (some g)) (hl:sl.length=S.H.sl.length) (ho:Own w' B 3 1 (.slice S.H.asl sl.length S.H.csl) sl.length (sl.map fM)) :
    dW w' B b { S with H:={ S.H with sl:=sl } }:=
  ⟨by
    have h1:=bu h.blk hk (by decide) hg;have e:iQ { S with H:={ S.H with sl:=sl } }=iQ S:=by unfold iQ;rw[show ({ S.H with sl:=sl }:MH).sl.length=S.H.sl.length from hl]
    rw[e];exact h1,h.ge,
   ⟨ak h.ma.fr hk (by decide) hg,ho,h.ma.sw.keep hk (by decide) (by decide) hg,h.ma.dk.keep hk (by decide) (by decide) hg,⟨ak h.ma.st.own hk (by decide) hg,fun i p hp=>(h.ma.st.each i p hp).grown hg (fun g' hg' e=>by cases e;unfold mP at hg';rw[lI] at hg';exact h.n2 p (bQ hp) _ hg' hga),h.ma.st.apart⟩,ak h.ma.ca hk (by decide) hg,ak h.ma.sp hk (by decide) hg,fun p hp=>⟨ak (h.ma.ps p hp).1 hk (by decide) hg,(h.ma.ps p hp).2.keep hk (by decide) hg⟩,h.ma.c64⟩,
   ak h.tt hk (by decide) hg,h.rd.keep h.ra h.bs hg hgB,h.ra,h.n1,h.n2,h.n3⟩
theorem dW.putW {S:MW} (h:dW w B b S) (hk:aC w g cs 79) (hgB:B≤g) (hga:oB S.H.wb=some g) (hg:w.grownBy w' (some g)) {l:List Page} (hl:l.length=S.H.sw.blocks.length) (ho:Own w' B 79 8 (.slice S.H.wb l.length S.H.cwb) l.length (l.flatMap yL)) :
    dW w' B b { S with H:={ S.H with sw:=⟨l,S.H.sw.queue⟩ } }:=
  ⟨by
    have h1:=bu h.blk hk (by decide) hg;have e:iQ { S with H:={ S.H with sw:=⟨l,S.H.sw.queue⟩ } }=iQ S:=by unfold iQ;rw[show ({ S.H with sw:=⟨l,S.H.sw.queue⟩ }:MH).sw.blocks.length=S.H.sw.blocks.length from hl]
    rw[e];exact h1,h.ge,
   ⟨ak h.ma.fr hk (by decide) hg,ak h.ma.sl hk (by decide) hg,⟨ho,ak h.ma.sw.q hk (by decide) hg⟩,⟨h.ma.dk.b.grown hg (fun g' hg' e=>by cases e;rw[lI] at hg';exact h.n1 _ hga hg'),ak h.ma.dk.q hk (by decide) hg⟩,h.ma.st.keep hk (by decide) (by decide) hg,ak h.ma.ca hk (by decide) hg,ak h.ma.sp hk (by decide) hg,fun p hp=>⟨ak (h.ma.ps p hp).1 hk (by decide) hg,(h.ma.ps p hp).2.keep hk (by decide) hg⟩,h.ma.c64⟩,
   ak h.tt hk (by decide) hg,h.rd.keep h.ra h.bs hg hgB,h.ra,h.n1,h.n2,h.n3⟩
theorem dW.setC {S:MW} (h:dW w B b S) {l:List Cc} (ho:Own w B 106 3 (.slice a l.length c) l.length (l.flatMap mh)) (hb:aC w' b (bA (iQ S) 10 [.slice a l.length c]) 77) (hg:w.grownBy w' (some b)) :
  dW w' B b { S with H:={ S.H with ac:=a,cc:=c,ca:=l } }:=
 ⟨hb,h.ge,{ h.ma.keep h.blk (by decide) hg with ca:=ak ho h.blk (by decide) hg },ak h.tt h.blk (by decide) hg,h.rd.keep h.ra h.bs hg h.ge,h.ra,h.n1,h.n2,h.n3⟩
def MW.lst (S:MW) (a:Option Addr) (c:Nat) (l:List UInt8):MW:={ S with al:=a,cl:=c,l:=l }
theorem nk (S:MW) (a a' : Option Addr) (c c' : Nat) (l l' : List UInt8):(S.lst a c l).lst a' c' l' = S.lst a' c' l':=rfl
theorem OJ {x:UInt8} {l:List UInt8} (h:dN w a ((x::l).map BP)):∃b o,a=some ⟨b,o,none⟩∧w.cell? ⟨b,o,none⟩=some (BP x)∧dN w (some ⟨b,o+1,none⟩) (l.map BP):=by
 obtain⟨b,o,rfl,hc⟩:=h.at (by simp);exact⟨b,o,rfl,hc 0 _ rfl,fun i u hi=>⟨b,o+1,rfl,by
  have:=hc (i+1) u (by simpa using hi);rw[show o+1+i=o+(i+1) by omega];exact this⟩⟩
theorem dW.locT {S:MW} (h:dW w B b S) (hk:aC w g cs T) (hT:T≠3∧T≠99∧T≠89) (hn:¬mE b S g) (hgB:B≤g) (hg:w.grownBy w' (some g)):dW w' B b S:=by
 have hne:∀ {a:Option Addr},oB a∈gV S→∀n c g',(Value.slice a n c).ownBlock=some g'→some g≠some g':=fun hm n c g' he e=>by cases e;rw[lI] at he;exact hn (.inr (by rw[←he];exact hm))
 have m:∀ {x:Option Nat} {l:List (Option Nat)},x∈x::l:=gL;refine⟨h.blk.grown hg (fun e=>hn (.inl (aJ e))),h.ge,⟨h.ma.fr.grown hg (hne (by simp[gV]) _ _),h.ma.sl.grown hg (hne (by simp[gV]) _ _),⟨h.ma.sw.b.grown hg (hne (by simp[gV]) _ _),h.ma.sw.q.grown hg (fun g' he=>by rw[h.n3] at he;cases he)⟩,⟨h.ma.dk.b.grown hg (hne (by simp[gV]) _ _),h.ma.dk.q.grown hg (hne (by simp[gV]) _ _)⟩,
  ⟨h.ma.st.own.grown hg (hne (by simp[gV]) _ _),fun i p hp=>ak (h.ma.st.each i p hp) hk hT.1 hg,h.ma.st.apart⟩,h.ma.ca.grown hg (hne (by simp[gV]) _ _),h.ma.sp.grown hg (hne (by simp[gV]) _ _),fun p hp=>⟨ak (h.ma.ps p hp).1 hk hT.2.1 hg,(h.ma.ps p hp).2.keep hk hT.2.2 hg⟩,h.ma.c64⟩,
  h.tt.grown hg (hne (by simp[gV]) _ _),h.rd.keep h.ra h.bs hg hgB,h.ra,h.n1,h.n2,h.n3⟩
def VN (S:MW) (n:Int) (B b:Nat) (w:World) (r:Ending) (w' : World):Prop:=∃x a c l,r = .returned (.int .i64 x)∧dW w' B b (S.lst a c l)∧MS w b S w' (S.lst a c l)∧(0≤x∧x<256∧(x<n∨x=0))∧(S.l=[]→x=0∧l=[])
theorem fo (S:MW) (n:Int) (B b:Nat) (w:World) (h:dW w B b S) (hn : -9223372036854775808≤n∧n≤9223372036854775807) :
  Calls Tryz.prog 30 #[.pointer (some ⟨b,0,none⟩),.int .i64 n] w (VN S n B b w):=by
 obtain⟨al,cl,l,H,ab,cb,T⟩:=S;have hr:ui w al cl l.length (l.map BP):=h.rd;have hra:∀a,al=some a→l.map BP≠[]→a.block<B:=h.ra;have hc:=h.blk.cell;unfold iQ at hc;dsimp only at hc;have h':=Lib.hid h;have hra':=Lib.hid hra;go_enter func30,ntmps30;cases l with
 | nil=>
  clear h hr hra;go_wp2;go_ret;exact⟨0,al,cl,[],rfl,h'.out,MS.refl _ _ _,by omega,fun _=>⟨rfl,rfl⟩⟩
 | cons x l=>
  obtain⟨bl,ol,rfl,hcb,hrd⟩:=OJ hr.rd;have hrl:l.length+1≤cl:=by have:=hr.le;simpa using this
  have hrm:=Lib.hid hr.mx;have hrd':=Lib.hid hrd;have hblk:=h.blk;clear h hr hra hrd;unfold BP at hcb
  by_cases hn1:n<1
  ·go_wp2;go_ret;exact⟨0,_,cl,x::l,rfl,h'.out,MS.refl _ _ _,by omega,fun e=>(by cases e)⟩
  have hl1:(1:Int)≤((l.length+1:Nat):Int):=by omega
  have h1:=Lib.hid x.toNat_lt;have hx0:Hid ((0:Int)≤(x.toNat:Int)%n∧(x.toNat:Int)%n<256∧((x.toNat:Int)%n<n∨(x.toNat:Int)%n=0)):=Lib.hid (by
   have h3:=Int.emod_nonneg (x.toNat:Int) (show n≠0 by omega);have h4:=Int.emod_lt_of_pos (x.toNat:Int) (show (0:Int)<n by omega);have h6:(x.toNat:Int)%n≤(x.toNat:Int):=by obtain⟨N,rfl⟩:=fE (show 0≤n by omega);rw[←IE];have:=Nat.mod_le x.toNat N;omega
   have:=h1.out;omega)
  have hxw:IntKind.i64.wrap (x.toNat:Int)=(x.toNat:Int):=bJ _ (by have:=h1.out;omega)
  by_cases hcl:cl=1
  ·subst hcl;obtain rfl:l=[]:=List.length_eq_zero_iff.1 (by omega)
   go_wp2_with (refine aA rfl _ _ _ rfl b 0 _ [.slice (some ⟨bl,ol,none⟩) 0 0] rfl rfl rfl _ _ hblk (by show 0+1≤13;omega) (by kernel_rfl) (fun u hu=>by cases bq.1 hu;rfl) ?_)
   intro w1 hb1 hg1;clear hc hcb;go_wp2;go_ret;have hs:ui w (some ⟨bl,ol,none⟩) 0 0 (([]:List UInt8).map BP):=⟨ay _,aS _,fun e=>(by cases e),dN.nil⟩;exact⟨_,some ⟨bl,ol,none⟩,0,[],rfl,h'.out.putL hs (fun a e _=>by cases e;exact hra'.out _ rfl (by simp)) hb1 hg1,(MS.refl w b _).put hg1 (.inl rfl) fun x hx => .inl hx,hx0.out,fun e=>(by cases e)⟩
  go_wp2_with (refine aA rfl _ _ _ rfl b 0 _ [.slice (some ⟨bl,ol+1,none⟩) l.length (cl-1)] rfl rfl rfl _ _ hblk (by show 0+1≤13;omega) (by kernel_rfl) (fun u hu=>by cases bq.1 hu;rfl) ?_)
  intro w1 hb1 hg1;clear hc hcb;go_wp2;go_ret;have hs:ui w (some ⟨bl,ol+1,none⟩) (cl-1) l.length (l.map BP):=⟨by omega,by have:=hrm.out;omega,fun e=>(by cases e),hrd'.out⟩;exact⟨_,some ⟨bl,ol+1,none⟩,cl-1,l,rfl,h'.out.putL hs (fun a e _=>by cases e;exact hra'.out ⟨bl,ol,none⟩ rfl (by simp)) hb1 hg1,(MS.refl w b _).put hg1 (.inl rfl) fun x hx => .inl hx,hx0.out,fun e=>(by cases e)⟩
def VJ (S:MW) (B b:Nat) (w:World) (r:Ending) (w' : World):Prop:=∃P a c l,r = .returned (.agg (iq P))∧dW w' B b (S.lst a c l)∧MS w b S w' (S.lst a c l)
theorem wM (S:MW) (B b:Nat) (w:World) (h:dW w B b S) :
  Calls Tryz.prog 33 #[.pointer (some ⟨b,0,none⟩)] w (VJ S B b w):=by
 have hBs:=Lib.hid h.bs;go_enter func33,ntmps33;go_upto_region 3 with (fail);refine qH (fun W=>Code.wp _ _ _ _ W) fun w1 hb1 bx1 rx1 hs1 => ?_;have h1:=h.below hb1;have s1:=(MS.refl w b S).below hb1;have hn0:=Lib.hid (h.new (ay _));have hn1:=Lib.hid (h.new (zN _));clear h
 go_loopw [5] (fun k wr => ∃(q:Nat) (P:Page) (a:Option Addr) (c:Nat) (l:List UInt8),q≤8∧k = .int .i64 q∧dW wr B b (S.lst a c l)∧MS w b S wr (S.lst a c l)∧aC wr w.heap.size (iq zPg) 79∧aC wr (w.heap.size+1) (iq P) 79) (fun k _=>8-(intOf k).toNat)
 case atStart=>exact⟨0,zPg,S.al,S.cl,S.l,aS _,rfl,h1,s1,bx1,rx1⟩
 case round=>
  clear h1 s1 bx1 rx1 hb1 hs1;obtain⟨q,P,a,c,l,hq,rfl,hm,hs,bx,rx⟩:=hrel;have hsz:w.heap.size+2≤wr.heap.size:=rx.lt
  by_cases hq8:q<8
  ·have hqi:(q:Int)<8:=by omega
   go_wp2_with fail
   refine (fo _ 4 B b _ hm (by omega)).mono ?_;rintro r w2 ⟨x,a2,c2,l2,rfl,hm2,hs2,hx,_⟩;rw[nk] at hm2 hs2;have bx2:=hs2.blkN bx hn0.out;have rx2:=hs2.blkN rx hn1.out;have hst:=hs.trans hs2;obtain⟨x,rfl⟩:∃y:UInt8,x=(y.toNat:Int):=⟨UInt8.ofNat x.toNat,by rw[UInt8.toNat_ofNat'];omega⟩;have hx2:((x.toNat:Nat):Int)<256:=hx.2.1;clear hm hs bx rx hs2 hx
   go_wp2_with (refine aA rfl _ _ _ rfl (w.heap.size+1) q _ [.int .u8 x.toNat] rfl rfl rfl _ _ rx2 (by show q+1≤8;omega) (by kernel_rfl) (fun u hu=>by cases bq.1 hu;rfl) ?_)
   intro w3 rx3 hg3;rw[Pw.putAt_one,BV _ q hq8] at rx3;have hm3:=hm2.locT rx2 (by decide) hn1.out (by have:=hBs.out;omega) hg3;have hs3:=hst.loc hg3 (zN _);have bx3:=bx2.grown hg3 (fun e=>by have:=aJ e;omega);clear hm2 hst bx2 rx2 hg3;go_wp2;go_roundw
   case rel=>exact⟨q+1,_,a2,c2,l2,by omega,by go_num,hm3,hs3,bx3,rx3⟩
   case measure=>simp[intOf];omega
  have hqi:¬(q:Int)<8:=by omega
  go_wp2_with (first | (refine ax _ _ rfl (w.heap.size+1) 0 rfl rfl _ rx.rd _ underlying79 rfl psize ?_) | (refine az rfl _ _ _ rfl w.heap.size (iq P) rfl rfl _ _ bx rfl psize (ja _) ?_))
  intro w3 bx3 hg3;go_wp2;refine bodyPost_ret (v:=.agg (iq P)) (eu results33 _ _ w.heap.size _ _ _ rfl bx3 underlying79 rfl psize) rfl ?_;exact⟨P,a,c,l,rfl,hm.locT bx (by decide) hn0.out (by have:=hBs.out;omega) hg3,hs.loc hg3 (ay _)⟩
def MW.frs (S:MW) (fs:List Fr):MW:={ S with H:={ S.H with m:=⟨fs,S.H.m.hand⟩ } }
def UJ (S:MW) (f:Fr) (B b:Nat) (w:World) (r:Ending) (w' : World):Prop:=∃x a c l fs,r = .returned (.int .i64 x)∧dW w' B b ((S.lst a c l).frs fs)∧MS w b S w' ((S.lst a c l).frs fs) ∧
   ((x = -1∧fs=S.H.m.fs)∨∃j:Nat,x=j∧j<S.H.m.fs.length∧(aT S.H.ma j).r=0∧fs=S.H.m.fs.set j f)
theorem Ei (S:MW) (f:Fr) (B b:Nat) (w:World) (h:dW w B b S) (hz:S.H.m.fs.length≤1000) :
  Calls Tryz.prog 106 #[.pointer (some ⟨b,0,none⟩),.agg (vK f)] w (UJ S f B b w):=by
 go_enter func106,ntmps106;go_upto_region 1 with (fail);refine gI (fun W=>Code.wp _ _ _ _ W) fun w1 hb1 bx1 hs1 => ?_;have h1:=h.below hb1;have s1:=(MS.refl w b S).below hb1;have hn0:=Lib.hid (h.new (ay _));have hBs:=Lib.hid h.bs;have hc:=h1.blk.cell;unfold iQ at hc;clear h hb1
 go_wp2_with fail
 refine (fo _ _ B b _ h1 (by omega)).mono ?_;rintro r w2 ⟨x,a2,c2,l2,rfl,hm2,hs2,hx,_⟩;have bx2:=hs2.blkN bx1 hn0.out;have hst:=s1.trans hs2;clear h1 s1 hc hs2 bx1 hs1;go_upto_region 4 with (fail);generalize hnn:S.H.m.fs.length=n at *
 go_loopw [20] (fun k wr => ∃q:Nat,q≤n∧k = .int .i64 q∧wr=w2) (fun k _=>n-(intOf k).toNat)
 case atStart=>exact⟨0,aS _,rfl,rfl⟩
 case round=>
  obtain⟨q,hq,rfl,rfl⟩:=hrel;have hc:=hm2.blk.cell;unfold iQ at hc;dsimp only[MW.lst] at hc;rw[hnn] at hc
  by_cases hqn:q<n
  ·have hqi:(q:Int)<(n:Int):=by omega
   obtain⟨X,rfl⟩:=fE hx.1;have hx1:(X:Int)<256:=hx.2.1;obtain⟨j,hjn,hj⟩:∃j:Nat,j<n∧((X:Int)+(q:Int))%(n:Int)=j:=⟨(X+q)%n,qf _ (by omega),by rw[←Int.natCast_add,←IE]⟩;have hji:(j:Int)<(n:Int):=by omega
   obtain⟨g,off,cap,cur,hv,hgB,hg,hgs,hgc,hgw⟩:=hm2.ma.fr.put eZ (by decide) j (by show j<S.H.m.fs.length;omega);have haf:S.H.af=some ⟨g,off,none⟩:=(nQ hv).1;rw[haf] at hc;have c8:wr.cell? ⟨g,off+j*13+8,none⟩=some (.int .i64 (S.H.m.fs[j]'(by omega)).r):=hgc 8 _ rfl;have hfj:Hid (aT S.H.ma j=S.H.m.fs[j]'(by omega)):=Lib.hid (by unfold aT;show S.H.m.fs.getD j fr0=_;rw[aW,aG (by omega)];rfl);clear hv;have hgw':=Lib.hid hgw;have hgc':=Lib.hid hgc;clear hgw hgc;generalize S.H.m.fs[j]'(by omega)=Y at c8 hfj
   by_cases hr:Y.r=0
   ·rw[hr] at c8;have hne:g≠w.heap.size:=fun e=>hn0.out (.inr (by rw[←e];simp[gV,haf,oB];left;rfl));go_upto_region 8 with (fail);refine aK 9 [_,_,_,_,_,_,.v (.int .i64 (j:Int)),_,_] (Gk rfl (Gk rfl (Gf b 1 rfl rfl (Gf b 1 rfl rfl (Gf b 1 rfl rfl (Gl hm2.blk (V:=.slice (some ⟨g,off,none⟩) n S.H.cf) (by simp[iQ,MW.lst,haf,hnn]) rfl rfl rfl rfl (ag ?_ (Gr (.agg #[.int .u8 f.p[0].toNat,.int .u8 f.p[1].toNat,.int .u8 f.p[2].toNat,.int .u8 f.p[3].toNat,.int .u8 f.p[4].toNat,.int .u8 f.p[5].toNat,.int .u8 f.p[6].toNat,.int .u8 f.p[7].toNat,.int .i64 f.r,.bool f.u,.bool f.d,.int .i64 f.f,.int .i64 f.i]) (fun ρ y W hb hKn=>(bB rfl (aD rfl hKn) (bF (bx2.ext hb) 0 13) underlying81 rfl (by kernel_rfl))) rfl rfl (Gr (.pointer (some ⟨g,off+j*13,none⟩)) (fun ρ y W hb hKn=>(bv rfl (aD rfl hKn) (aD rfl hKn) hjn underlying26 frame_size)) rfl rfl (aB)))))))))) (fun _=>rfl) rfl ?_
    ·intro ρ y W hw hn hb hd;have E8:ρ (.tmp 8) = .int .i64 (j:Int):=(hn (.tmp 8) rfl).trans (by show Value.int IntKind.i64 (((X:Int)+(q:Int))%(n:Int))=_;rw[hj]);refine aj (.int .i64 (j:Int)) (ah rfl) (run_move (.inl rfl) E8) rfl
    intro y W3 hbW3 _;have hm3:=hm2.below hbW3;have hg3:=hg.ext hbW3;have hs3:=hst.below hbW3;clear hm2 bx2 hst hbW3 hg hc c8
    go_wp2_with (refine aA rfl _ _ _ rfl g (off+j*13) _ (pO f) rfl rfl rfl _ _ hg3 (by rw[eZ];exact hgs) (by kernel_rfl) (bR (oZ f)) ?_)
    intro w4 h4 hg4;have ho4:=hgw'.out _ f h4;have hm4:=hm3.putF hg3 hgB hg4 (fs:=S.H.m.fs.set j f) (by simp[MW.lst]) (by simpa[MW.lst] using ho4);have hs4:=hs3.put hg4 (H':=(S.lst a2 c2 l2).frs (S.H.m.fs.set j f)) (.inr (by simp[gV,MW.lst,haf,oB];left;rfl)) (fun x hx => .inl hx);clear hm3 hs3 hg3 hg4 h4 ho4;go_wp2;go_ret;exact⟨j,a2,c2,l2,_,rfl,hm4,hs4,.inr ⟨j,rfl,by omega,by rw[hfj.out];exact hr,rfl⟩⟩
   go_wp2;go_roundw
   case rel=>exact⟨q+1,by omega,by go_num,by first | rfl | trivial⟩
   case measure=>simp[intOf];omega
  have hqi:¬(q:Int)<(n:Int):=by omega
  go_wp2;go_ret;exact⟨-1,a2,c2,l2,S.H.m.fs,rfl,hm2,hst,.inl ⟨rfl,rfl⟩⟩
theorem Ob (d:mZ) (k:Int) (ab:Option Addr) (cb:Nat) (aq:Option Addr) (cq:Nat) (w:World) (h:JF w ab cb aq cq d) :
  Calls Tryz.prog 87 #[.agg #[.slice ab d.blocks.length cb,.slice aq d.queue.length cq],.int .i64 k] w fun e w'=>e = .returned (.tuple #[.agg (iq (kY d k)),.int .i64 (aL d k)])∧Below w.heap.size w w':=by
 go_enter func87,ntmps87
 go_wp2_with fail
 refine qH (fun W=>Calls _ _ _ W _) fun W0 hb0 hx0 hr0 hs0 => ?_;refine (rX d ab cb aq cq _ (h.below hb0)).mono ?_;rintro e w1 ⟨rfl,hb1⟩;have hbel1:=ae hb0 hb1;have hx1:=hx0.ext hb1;have hres1:=hr0.ext hb1;have h1:=h.below hbel1;clear hx0 hr0 hb1 hb0 hs0;have lq:=aX h1.lq h1.mq;unfold maxLen at lq;have hc1:=hx1.cell
 by_cases hw:bn d=0
 ·rw[hw]
  by_cases hk:k<0∨(d.blocks.length:Int)≤k
  ·have q1:aL d k=3:=by unfold aL;rw[if_neg (by omega),if_pos hk]
   have q2:iq (kY d k)=#[.int .u8 0,.int .u8 0,.int .u8 0,.int .u8 0,.int .u8 0,.int .u8 0,.int .u8 0,.int .u8 0]:=by unfold kY;rw[q1];rfl
   rcases hk with hk|hk
   all_goals
    go_wp2_with (refine az rfl _ (.tmp 4) (.tmp 25) rfl (w.heap.size+1) #[.int .u8 0,.int .u8 0,.int .u8 0,.int .u8 0,.int .u8 0,.int .u8 0,.int .u8 0,.int .u8 0] rfl rfl _ _ hres1 zz_fit zz_info zz_one ?_)
    all_goals
     intro w2 hr2 hgr;have hbel2:=hbel1.grown hgr hbel1.size (fun k hk=>by cases hk;omega);have hcr:=hr2.cell;go_wp2;simp[bodyPost,results,go_sem,results87,hcr,q1,q2];exact hbel2
  obtain⟨k,rfl⟩:=fE (show 0≤k by omega);have hkl:k<d.blocks.length:=by omega
  have k1:¬(d.blocks.length:Int)≤(k:Int):=by omega
  have kz:(k:Int)<(d.blocks.length:Int):=by omega
  have q1:aL d k=0:=by unfold aL;rw[if_neg (by omega),if_neg hk]
  have q2:kY d k=over k d.blocks[k] d.queue:=by unfold kY;rw[q1,if_pos rfl];simp[hkl]
  have Q:=Lib.hid (And.intro q1 q2);have hgx:w.heap.size+2≤w1.heap.size:=by have:=hres1.lt;omega
  clear hk q1 q2;have hd:decide (d.blocks.length≤k)=false:=by simp;omega
  obtain⟨b,off,rfl,hc⟩:=GV h1.rb k hkl;have c0:=hc 0 (by decide);have c1:=hc 1 (by decide);have c2:=hc 2 (by decide);have c3:=hc 3 (by decide);have c4:=hc 4 (by decide);have c5:=hc 5 (by decide);have c6:=hc 6 (by decide);have c7:=hc 7 (by decide);simp only[iq,rJ,mY,rT,gM] at c0 c1 c2 c3 c4 c5 c6 c7;clear hc;go_upto_region 7 with (fail);refine gI (fun W=>Code.wp _ _ _ _ W) fun w2 hb2 hp2 hs2 => ?_;have hbel2:=ae hbel1 hb2;have hx2:=hx1.ext hb2;have hres2:=hres1.ext hb2;have hp2' : aC w2 w1.heap.size (iq d.blocks[k]) 79:=hp2;clear hbel1 hx1 hres1 h1 hb2 hp2 hs2 hc1 c0 c1 c2 c3 c4 c5 c6 c7;have hc2:=hx2.cell;go_wp2;clear hc2 hx2
  go_loopw [34] (fun i wr => ∃j:Nat,j≤d.queue.length∧i = .int .i64 j∧Below w.heap.size w wr∧aC wr (w.heap.size+1) #[.int .u8 0,.int .u8 0,.int .u8 0,.int .u8 0,.int .u8 0,.int .u8 0,.int .u8 0,.int .u8 0] 79∧aC wr w1.heap.size (iq (over k d.blocks[k] (d.queue.take j))) 79) (fun i _=>d.queue.length-(intOf i).toNat)
  case atStart=>exact⟨0,aS _,rfl,hbel2,hres2,hp2'⟩
  case round=>
   clear hbel2 hres2 hp2';obtain⟨j,hj,rfl,hbel,hres,hp⟩:=hrel
   by_cases hlt:j<d.queue.length
   ·obtain⟨b',off',rfl,hc⟩:=yt (h.below hbel).rq j hlt;have c0:=hc 0 (by decide);have c1:=hc 1 (by decide);have c2:=hc 2 (by decide);have c3:=hc 3 (by decide);have c4:=hc 4 (by decide);have c5:=hc 5 (by decide);have c6:=hc 6 (by decide);have c7:=hc 7 (by decide);have c8:=hc 8 (by decide);simp only[Ep,rJ,mY,rT,gM] at c0 c1 c2 c3 c4 c5 c6 c7 c8;clear hc;have hot:=Lib.hid (Pk (k:Int) d.blocks[k] d.queue j hlt)
    by_cases he:d.queue[j].1=(k:Int)
    ·have hot' : Hid (over (k:Int) d.blocks[k] (d.queue.take (j+1))=d.queue[j].2):=by have:=hot.out;rw[if_pos he] at this;exact this
     rw[he] at c0;clear hot he;have hpa:=hp.alloc (.cells #[.int .i64 k,.int .u8 d.queue[j].2[0].toNat,.int .u8 d.queue[j].2[1].toNat,.int .u8 d.queue[j].2[2].toNat,.int .u8 d.queue[j].2[3].toNat,.int .u8 d.queue[j].2[4].toNat,.int .u8 d.queue[j].2[5].toNat,.int .u8 d.queue[j].2[6].toNat,.int .u8 d.queue[j].2[7].toNat] 86)
     go_wp2_with (refine az rfl _ (.tmp 7) (.tmp 43) rfl w1.heap.size (iq d.queue[j].2) rfl rfl _ _ hpa (TA _ _) (wY _) (ja _) ?_)
     intro w4 hp4 hgr;have hbel4:=(hbel.alloc hbel.size _).grown hgr (bV hbel.size _) (fun k hk=>by cases hk;omega);have hres4:=(hres.alloc _).grown hgr (fun he=>by have:=aJ he;omega);clear hpa hp hbel hres hgr c0 c1 c2 c3 c4 c5 c6 c7 c8;go_wp2;go_roundw
     case rel=>exact⟨j+1,by omega,by go_num,hbel4,hres4,by rw[hot'.out];exact hp4⟩
     case measure=>simp[intOf];omega
    have hot' : Hid (over (k:Int) d.blocks[k] (d.queue.take (j+1))=over (k:Int) d.blocks[k] (d.queue.take j)):=by have:=hot.out;rw[if_neg he] at this;exact this
    have hne:(d.queue[j].1==(k:Int))=false:=by simpa using he
    clear hot he;go_wp2;go_roundw
    case rel=>exact⟨j+1,by omega,by go_num,hbel.alloc hbel.size _,hres.alloc _,by rw[hot'.out];exact hp.alloc _⟩
    case measure=>simp[intOf];omega
   rw[iF (show d.queue.length≤j by omega)] at hp;have hq2:=Q.out.2;rw[←hq2] at hp;have hcp:=hp.cell;rw[Nw] at hcp;clear hq2
   go_wp2_with (refine az rfl _ (.tmp 4) (.tmp 45) rfl (w.heap.size+1) (iq (kY d k)) rfl rfl _ _ hres (UL _) (wY _) (ja _) ?_)
   intro w4 hr4 hgr;have hbel4:=hbel.grown hgr hbel.size (fun k hk=>by cases hk;omega);have hcr:=hr4.cell;obtain⟨e0,e1,e2,e3,e4,e5,e6,e7⟩:=HZ (kY d k);clear hcp;go_wp2;simp[bodyPost,results,go_sem,results87,hcr,e0,e1,e2,e3,e4,e5,e6,e7,Q.out.1];exact⟨rfl,hbel4⟩
 have q1:aL d k=bn d:=by unfold aL;rw[if_pos hw]
 have q2:iq (kY d k)=#[.int .u8 0,.int .u8 0,.int .u8 0,.int .u8 0,.int .u8 0,.int .u8 0,.int .u8 0,.int .u8 0]:=by unfold kY;rw[q1,if_neg hw];rfl
 have hw' : (bn d != 0)=true:=by simpa using hw
 go_wp2_with (refine az rfl _ (.tmp 4) (.tmp 14) rfl (w.heap.size+1) #[.int .u8 0,.int .u8 0,.int .u8 0,.int .u8 0,.int .u8 0,.int .u8 0,.int .u8 0,.int .u8 0] rfl rfl _ _ hres1 zz_fit zz_info zz_one ?_)
 intro w2 hr2 hgr;have hbel2:=hbel1.grown hgr hbel1.size (fun k hk=>by cases hk;omega);have hcr:=hr2.cell;go_wp2;simp[bodyPost,results,go_sem,results87,hcr,q1,q2];exact hbel2
theorem OA (d:mZ) (bits:Int) (al:Bool) (ab:Option Addr) (cb:Nat) (aq:Option Addr) (cq:Nat) (w:World) (h:JF w ab cb aq cq d) :
  Calls Tryz.prog 27 #[.agg #[.slice ab d.blocks.length cb,.slice aq d.queue.length cq],.int .i64 bits,.bool al] w fun e w' => ∃vb vq,e = .returned (.tuple #[.agg #[vb,vq],.int .i64 (bn d)])∧ic w' w.heap.size vb vq (qa (BG al bits) d)∧Below w.heap.size w w':=by
 go_enter func27,ntmps27
 go_wp2_with fail
 refine qH (fun W=>Calls _ _ _ W _) fun W0 hb0 hx0 hr0 hs0 => ?_;refine (rX d ab cb aq cq _ (h.below hb0)).mono ?_;rintro e w1 ⟨rfl,hb1⟩;have hbel1:=ae hb0 hb1;have hx1:=hx0.ext hb1;have hres1:=hr0.ext hb1;have h1:=h.below hbel1;clear hx0 hr0 hb1 hb0 hs0
 by_cases hw:bn d=0
 ·obtain⟨l80,l400⟩:=wW hw;have hin:=wS hw;have hin':=Lib.hid hin;have Q:Hid (qa (BG al bits) d=⟨jX (BG al bits) d.blocks d.queue d.queue.length,[]⟩):=by unfold qa;exact if_pos hw
  rw[hw];have hgx:w.heap.size+2≤w1.heap.size:=by have:=hres1.lt;omega
  clear hin;have hcx:=fun o=>(hx1.alloc o).cell
  go_wp2_with (at_builtin;go_must (refine eH rfl _ _ 31 rfl w.heap.size 79 _ 8 8 underlying31 page_info rfl (by decide) _ 0 [] rfl ?own2 ab d.blocks.length cb (d.blocks.flatMap yL) rfl h1.nb h1.lb (FH d.blocks) ?rd2 (FQ d.blocks) (by unfold maxLen;omega) (by omega) ?bb2 ?k2))
  case own2=>exact Own.empty _ _ hbel1.size
  case rd2=>exact h1.rb.below ((Below.refl _ _).alloc (ay _) _)
  case bb2=>exact bV hbel1.size _
  intro vb w2 hob hgr;have hbel2:Below w.heap.size w w2:=(hbel1.alloc hbel1.size _).grown hgr (bV hbel1.size _) (fun k hk=>by cases hk;exact hbel1.size);have hres2:=(hres1.alloc (.cells #[] 79)).grown hgr (fun he=>by have h1:=aJ he;simp at h1;omega);have hx2:=(hx1.alloc (.cells #[] 79)).grown hgr (fun he=>by have h1:=aJ he;simp at h1;omega);have hob2:Own w2 w.heap.size 79 8 vb d.blocks.length (d.blocks.flatMap yL):=by simpa using hob
  clear hob hgr hbel1 hx1 hres1 h1 hcx;obtain⟨xb,cb',rfl,_⟩:=hob2.rd;have lq:=aX h.lq h.mq;unfold maxLen at lq;have hcx:=hx2.cell;go_wp2;clear hcx hx2
  go_loopw [27] (fun i wr => ∃j:Nat,j≤d.queue.length∧i = .int .i64 j∧Below w.heap.size w wr∧aC wr (w.heap.size+1) #[.slice none 0 0,.slice none 0 0] 34∧Own wr w.heap.size 79 8 (.slice xb d.blocks.length cb') d.blocks.length ((jX (BG al bits) d.blocks d.queue j).flatMap yL)) (fun i _=>d.queue.length-(intOf i).toNat)
  case atStart=>exact⟨0,aS _,rfl,hbel2,hres2,hob2⟩
  case round=>
   clear hbel2 hres2 hob2;obtain⟨j,hj,rfl,hbel,hres,hob⟩:=hrel
   by_cases hlt:j<d.queue.length
   ·obtain⟨b',off',rfl,hc⟩:=yt (h.below hbel).rq j hlt;have c0:=hc 0 (by decide);have c1:=hc 1 (by decide);have c2:=hc 2 (by decide);have c3:=hc 3 (by decide);have c4:=hc 4 (by decide);have c5:=hc 5 (by decide);have c6:=hc 6 (by decide);have c7:=hc 7 (by decide);have c8:=hc 8 (by decide);simp only[Ep,rJ,mY,rT,gM] at c0 c1 c2 c3 c4 c5 c6 c7 c8;clear hc;obtain⟨i1,i2⟩:=hin'.out j hlt;obtain⟨i0,hi0⟩:=fE i1;have hi0' : i0<d.blocks.length:=by omega
    rw[hi0] at c0;have hi0h:=Lib.hid hi0;clear i1 i2 hi0;go_upto_region 9 with (fail);refine gI (fun W=>Code.wp _ _ _ _ W) fun w4 hb4 hz4 hs4 => ?_;have hbel4:=ae hbel hb4;have hres4:=hres.ext hb4;have hob4:=hob.below hb4;clear hbel hres hob hb4 hs4 c0 c1 c2 c3 c4 c5 c6 c7 c8;have hjm:j%60<60:=qf _ (by decide);go_wp2
    go_loopw [12,13] (fun s12 s13 wr => ∃s:Nat,s≤j%60∧s13 = .int .i64 s∧s12 = .int .i64 (bits / 2 ^ s)∧w4=wr) (fun _ s13 _=>60-(intOf s13).toNat)
    case atStart=>exact⟨0,aS _,rfl,by simp,rfl⟩
    case round=>
     obtain⟨s,hs,rfl,rfl,rfl⟩:=hrel
     by_cases hsl:s<j%60
     ·have hh:=halves bits s;go_wp2;go_roundw
      case rel=>exact⟨s+1,by omega,by go_num,rfl,trivial⟩
      case measure=>simp[intOf];omega
     have hse:s=j%60:=by omega
     subst hse;clear hsl hs;have hcz:=hz4.cell;cases al with
     | true=>
      have hkn:=Lib.hid (xu (f:=BG true bits) (B:=d.blocks) hlt (by simp[BG]));obtain⟨gb,offb,capb,curb,hvb,hBb,hgb,hfb,hsetb⟩:=kW jJ (by decide) (lw _ d.blocks d.queue j) hob4 i0 hi0';cases hvb;have hi0z:(i0:Int)<(d.blocks.length:Int):=by omega
      go_wp2_with (refine fP rfl _ (.tmp 52) (.tmp 51) rfl gb (offb+i0*8) (iq d.queue[j].2) rfl rfl curb 79 hgb (by rw[zx];omega) (wY _) (ja _) ?_)
      intro w5 hq5 hgr5;have hB5:=hsetb w5 d.queue[j].2 hq5;have hres5:=bu hres4 hgb (by decide) hgr5;have hbel5:Below w.heap.size w w5:=hbel4.grown hgr5 hbel4.size (fun k hk=>by cases hk;exact hBb);clear hq5 hsetb hgb hres4 hob4 hbel4 hcz hz4 hgr5;go_wp2;go_roundw
      case rel=>exact⟨j+1,by omega,by go_num,hbel5,hres5,by rw[hkn.out,hi0h.out,bU];exact hB5⟩
      case measure=>simp[intOf];omega
     | false=>
      cases hcf:jU bits j with
      | true=>
       have hkn:=Lib.hid (xu (f:=BG false bits) (B:=d.blocks) hlt (by simp[BG,hcf]));have hcf' : (Go.bits BinOp.and IntKind.i64 (bits / 2 ^ (j%60)) 1==1)=true:=hcf;clear hcf;obtain⟨gb,offb,capb,curb,hvb,hBb,hgb,hfb,hsetb⟩:=kW jJ (by decide) (lw _ d.blocks d.queue j) hob4 i0 hi0';cases hvb;have hi0z:(i0:Int)<(d.blocks.length:Int):=by omega
       go_wp2_with (refine fP rfl _ (.tmp 52) (.tmp 51) rfl gb (offb+i0*8) (iq d.queue[j].2) rfl rfl curb 79 hgb (by rw[zx];omega) (wY _) (ja _) ?_)
       intro w5 hq5 hgr5;have hB5:=hsetb w5 d.queue[j].2 hq5;have hres5:=bu hres4 hgb (by decide) hgr5;have hbel5:Below w.heap.size w w5:=hbel4.grown hgr5 hbel4.size (fun k hk=>by cases hk;exact hBb);clear hq5 hsetb hgb hres4 hob4 hbel4 hcz hz4 hgr5;go_wp2;go_roundw
       case rel=>exact⟨j+1,by omega,by go_num,hbel5,hres5,by rw[hkn.out,hi0h.out,bU];exact hB5⟩
       case measure=>simp[intOf];omega
      | false=>
       have hkn:=Lib.hid (Al (f:=BG false bits) (B:=d.blocks) hlt (by simp[BG,hcf]));have hcf' : (Go.bits BinOp.and IntKind.i64 (bits / 2 ^ (j%60)) 1==1)=false:=hcf;clear hcf hcz;go_wp2;go_roundw
       case rel=>exact⟨j+1,by omega,by go_num,hbel4,hres4,by rw[hkn.out];exact hob4⟩
       case measure=>simp[intOf];omega
   have htk:j=d.queue.length:=by omega
   have htk':=Lib.hid htk;clear htk
   go_wp2_with (refine az rfl _ (.tmp 6) (.tmp 55) rfl (w.heap.size+1) #[.slice xb d.blocks.length cb',.slice none 0 0] rfl rfl _ _ hres (tZ _ _ _ _) (qz _ _) (kQ _ _ _ _ _ _) ?_)
   intro w8 hr8 hgr8;have hb8:=ak hob hres (by decide) hgr8;have hbel8:=hbel.grown hgr8 hbel.size (fun k hk=>by cases hk;omega);have hcr:=hr8.cell;clear hob hres hbel hgr8;go_wp2;simp[bodyPost,results,go_sem,results27,hcr];refine⟨_,_,⟨⟨rfl,rfl⟩,hw.symm⟩,?_,hbel8⟩;rw[Q.out];rw[htk'.out] at hb8;exact⟨by rw[lw];exact hb8,Own.nil _ _ _ _⟩
 have q2:qa (BG al bits) d=⟨[],[]⟩:=by unfold qa;rw[if_neg hw]
 have hw' : (bn d != 0)=true:=by simpa using hw
 go_wp2_with (refine az rfl _ (.tmp 6) (.tmp 18) rfl (w.heap.size+1) #[.slice none 0 0,.slice none 0 0] rfl rfl _ _ hres1 rfl disk_size (kQ _ _ _ _ _ _) ?_)
 intro w2 hr2 hgr;have hbel2:=hbel1.grown hgr hbel1.size (fun k hk=>by cases hk;omega);have hcr:=hr2.cell;go_wp2;simp[bodyPost,results,go_sem,results27,hcr];exact⟨_,_,⟨rfl,rfl⟩,by rw[q2];exact ic.nil _ _,hbel2⟩
theorem Ru {o:Nat} (h:dN w (some ⟨b,o,none⟩) (xs++ys)):dN w (some ⟨b,o,none⟩) xs:=fun i u hi=>h i u (by
 rw[kV (bW.1 hi).1];exact hi)
theorem QT (x:Fr):∃ys,pO x=yL x.p++ys:=⟨_,rfl⟩
theorem Oe {l:List Cc} {c:Cc} {f i:Int} (hc:l[q]?=some c) (hno:∀d∈l.take q,¬(d.f=f∧d.i=i)) (hy:c.f=f∧c.i=i):l.find? (fun c=>decide (c.f=f)&&decide (c.i=i))=some c:=by
 rw[←qg q l,List.find?_append,nX.2 (fun d hd=>by have:=hno d hd;simp only[dS,decide_eq_true_eq];exact this)];rw[vk (bW.1 hc).1,(bW.1 hc).2,List.find?_cons,hy.1,hy.2];simp
theorem Ec {l:List Cc} {f i:Int} (hno:∀d∈l,¬(d.f=f∧d.i=i)):l.find? (fun c=>decide (c.f=f)&&decide (c.i=i))=none:=
 nX.2 (fun d hd=>by have:=hno d hd;simp only[dS,decide_eq_true_eq];exact this)
theorem Gs (H:MH) (f i:Int) (w:World) (h:BF w H) (hz:H.ca.length≤1000∧∀f∈H.ma.st.fs,f.b.length≤1000) (hck:∀c∈H.ca,0≤c.k∧c.k<H.m.fs.length) (hf:0≤f∧f<H.fi.length) (hi:0≤i∧i<(aU H.ma.st f).b.length) :
  Calls Tryz.prog 54 #[.agg (dD H),.int .i64 f,.int .i64 i] w fun r w'=>r = .returned (.agg (iq (cB H.ma f i)))∧Below w.heap.size w w':=by
 have z7:H.ca.length≤1000:=hz.1;go_enter func54,ntmps54;go_upto_region 1 with (fail);refine qH (fun W=>Code.wp _ _ _ _ W) fun w1 hb0 bx1 rx1 hs1 => ?_;clear hs1;have hcb:=bx1.cell;unfold dD at hcb;go_upto_region 2 with (fail);clear hcb
 go_loopw [16] (fun k wr => ∃q:Nat,q≤H.ca.length∧k = .int .i64 q∧Below w.heap.size w wr∧aC wr w.heap.size (dD H) 41∧aC wr (w.heap.size+1) (iq zPg) 79∧Hid (∀d∈H.ca.take q,¬(d.f=f∧d.i=i))) (fun k _=>H.ca.length-(intOf k).toNat)
 case atStart=>exact⟨0,aS _,rfl,hb0,bx1,rx1,Lib.hid (by simp)⟩
 case round=>
  clear hb0 bx1 rx1;obtain⟨q,hq,rfl,hbr,bx,rx,hno⟩:=hrel
  by_cases hql:q<H.ca.length
  ·obtain⟨bc,oc,hca,hrd⟩:=yO (h.below hbr).ca.rd q hql;obtain⟨c,hc⟩:∃c,H.ca[q]?=some c:=⟨_,aG hql⟩;rw[show H.ca[q]=c from (bW.1 hc).2] at hrd;have hqi:(q:Int)<(H.ca.length:Int):=by omega
   have hck1:=hck c (bQ hc);have hc':=Lib.hid hc;clear hc;rw[hca]
   go_wp2_with (first | (refine ax _ _ rfl bc (oc+q*3) rfl rfl _ hrd _ underlying106 rfl cached_size ?_) | (refine aI rfl _ _ _ rfl (Ab c) rfl rfl rfl cached_size (vB c) ?_))
   intro w3 hb3 cx3;have hbr3:=ae hbr hb3;have bx3:=bx.ext hb3;have rx3:=rx.ext hb3;have hcx:=cx3.cell;have hl3:=rx3.lt;clear hbr bx rx hb3 hrd;unfold Ab at hcx
   by_cases hy:c.f=f∧c.i=i
   ·obtain⟨hy1,hy2⟩:=hy;obtain⟨k,hk⟩:=fE hck1.1;have hkl:k<H.m.fs.length:=by have:=hck1.2;omega
    obtain⟨bf,of,haf,hfrd⟩:=jH eZ (by decide) (h.below hbr3).fr.rd k hkl;have hki:(k:Int)<(H.m.fs.length:Int):=by omega
    have hcont:Hid (cB H.ma f i=(H.m.fs[k]).p):=Lib.hid (by unfold cB;rw[show H.ma.ca.find? (fun c=>decide (c.f=f)&&decide (c.i=i))=some c from Oe hc'.out hno.out ⟨hy1,hy2⟩];show (H.m.fs.getD c.k.toNat fr0).p=_;rw[hk,aW,show ((k:Nat):Int).toNat=k from rfl,aG hkl];rfl);generalize H.m.fs[k]=X at hfrd hcont;obtain⟨ys,hys⟩:=QT X;rw[hys] at hfrd;have hprd:=Ru hfrd;have hcm:w3.cell? ⟨w.heap.size,0,none⟩=some (.slice (some ⟨bf,of,none⟩) H.m.fs.length H.cf):=by rw[bx3.cell,←haf];rfl
    rw[hy1,hy2,hk] at hcx;clear hfrd hys
    go_wp2_with (first | (refine ax _ _ rfl bf (of+k*13) rfl rfl _ hprd _ underlying79 rfl psize ?_) | (refine az rfl _ _ _ rfl (w.heap.size+1) (iq X.p) rfl rfl _ _ rx3 rfl psize (ja X.p) ?_))
    intro w4 rx4 hg4;have hb4:=hbr3.grown hg4 hbr3.size (fun k hk=>by cases hk;omega);clear hcx hcm;go_wp2;refine bodyPost_ret (v:=.agg (iq X.p)) (eu results54 _ _ (w.heap.size+1) _ _ _ rfl rx4 underlying79 rfl psize) rfl ?_;exact⟨by rw[hcont.out],hb4⟩
   have hno' : Hid (∀d∈H.ca.take (q+1),¬(d.f=f∧d.i=i)):=Lib.hid fun d hd=>by
    rw[take_at hc'.out] at hd;rcases fJ.1 hd with hd|hd
    ·exact hno.out d hd
    ·rw[bq.1 hd];exact hy
   by_cases hy1:c.f=f
   ·have hy2:¬c.i=i:=fun e=>hy ⟨hy1,e⟩;clear hy;go_wp2;go_roundw
    case rel=>exact⟨q+1,by omega,by go_num,hbr3,bx3,rx3,hno'⟩
    case measure=>simp[intOf];omega
   clear hy;go_wp2;go_roundw
   case rel=>exact⟨q+1,by omega,by go_num,hbr3,bx3,rx3,hno'⟩
   case measure=>simp[intOf];omega
  have hqi:¬(q:Int)<(H.ca.length:Int):=by omega
  rw[iF (by omega)] at hno;have hcx:=bx.cell;unfold dD at hcx;obtain⟨F,rfl⟩:=fE hf.1;obtain⟨I,rfl⟩:=fE hi.1;have hFl:F<H.fi.length:=by omega
  obtain⟨bf,of,hai,hrd⟩:=jH jq (by decide) h.st.rd F hFl;obtain⟨p,hp⟩:∃p,H.fi[F]?=some p:=⟨_,aG hFl⟩;rw[show H.fi[F]=p from (bW.1 hp).2] at hrd;have hrd0:=Lib.hid hrd;have hrd:=hrd.below hbr;have hgood:=(h.below hbr).st.good p (bQ hp);have hfa:aU H.ma.st (F:Int)=p.fi:=by unfold aU;rw[if_pos (by omega)];show (H.fi.map PF.fi).getD F ⟨0,[]⟩=p.fi;rw[aW,jM,hp];rfl
  rw[hfa] at hi;have hIl:I<p.l.length:=by have h2:=hi.2;have e:p.fi.b.length=p.l.length:=rfl;omega
  have hpz:p.l.length≤1000:=hz.2 p.fi (ib.2 ⟨p,bQ hp,rfl⟩);obtain⟨bb,ob,hpa,hcb⟩:=jl hgood.rd I hIl;obtain⟨x,hX⟩:∃x,p.l[I]?=some x:=⟨_,aG hIl⟩;rw[show p.l[I]=x from (bW.1 hX).2] at hcb;have hba:bL H.ma.st (F:Int) (I:Int)=x:=by unfold bL;rw[hfa];show p.l.getD I 0=x;rw[aW,hX];rfl
  have rc:∀j u,(pY p)[j]?=some u→wr.cell? ⟨bf,of+F*2+j,none⟩=some u:=fun j u hj=>by obtain⟨b',o',e,hcc⟩:=hrd j u hj;cases e;exact hcc
  have rc0:wr.cell? ⟨bf,of+F*2,none⟩=some (.int .i64 p.n):=rc 0 _ rfl;have rc1:wr.cell? ⟨bf,of+F*2+1,none⟩=some (.slice p.a p.l.length p.c):=rc 1 _ rfl;have hcont:Hid (cB H.ma F I=if 0≤x then fF (kY H.dk x) (p.n-(I:Int)*8) else zPg):=Lib.hid (by unfold cB;rw[show H.ma.ca.find? (fun c=>decide (c.f=(F:Int))&&decide (c.i=(I:Int)))=none from Ec hno.out,hba,hfa];rfl);have hFi:(F:Int)<(H.fi.length:Int):=by omega
  have hIi:(I:Int)<(p.l.length:Int):=by omega
  rw[hpa] at rc1;rw[hai] at hcx;have hrd':=Lib.hid hrd;have hai':=Lib.hid hai;have hpa':=Lib.hid hpa;have hfi':=Lib.hid hfa;clear rc hrd hai hpa hfa hp hX hba hi hgood
  by_cases hx:x<0
  ·go_wp2_with (refine az rfl _ _ _ rfl (w.heap.size+1) (iq zPg) rfl rfl _ _ rx rfl psize (ja _) ?_)
   intro w4 rx4 hg4;have hb4:=hbr.grown hg4 hbr.size (fun k hk=>by cases hk;omega);clear hcx;go_wp2;refine bodyPost_ret (v:=.agg (iq zPg)) (eu results54 _ _ (w.heap.size+1) _ _ _ rfl rx4 underlying79 rfl psize) rfl ?_;exact⟨by rw[hcont.out,if_neg (by omega)],hb4⟩
  go_wp2_with (refine ax _ _ rfl w.heap.size 5 rfl rfl _ (bF bx 5 2) _ underlying34 rfl disk_size ?_)
  refine (Ob H.dk x _ _ _ _ _ (h.below hbr).dk).mono ?_;rintro r w4 ⟨rfl,hb4⟩;have hfr:=aC.new w4 (iq zPg) 79;have hba:Below w4.heap.size w4 (w4.alloc (.cells (iq zPg) 79)):=(Below.refl _ _).alloc (ay _) _;have hl4:=hb4.size;have hlr:=rx.lt;have bx5:=(bx.ext hb4).ext hba;have rx5:=(rx.ext hb4).ext hba;have hbr5:=ae (ae hbr hb4) hba;clear hcx hcb rc0 rc1 bx rx hbr
  go_wp2_with (refine az rfl _ _ _ rfl w4.heap.size (iq (kY H.dk x)) rfl rfl _ _ hfr rfl psize (ja _) ?_)
  intro w5 px6 hg5;have hb6:=hbr5.grown hg5 hbr5.size (fun k hk=>by cases hk;omega);have bx6:=bx5.grown hg5 (fun e=>by have:=aJ e;omega);have rx6:=rx5.grown hg5 (fun e=>by have:=aJ e;omega);clear hfr hba bx5 rx5 hbr5 hg5 hb4;generalize kY H.dk x=P at px6 hcont;generalize hp4:w4.heap.size=p4 at *
  clear hp4;go_upto_region 12 with (fail)
  go_loopw [59] (fun j wr => ∃k:Nat,k≤8∧j = .int .i64 k∧Below w.heap.size w wr∧aC wr w.heap.size (dD H) 41∧aC wr (w.heap.size+1) (iq zPg) 79∧aC wr p4 (iq (iN P (p.n-(I:Int)*8) k)) 79) (fun j _=>8-(intOf j).toNat)
  case atStart=>exact⟨0,by omega,rfl,hb6,bx6,rx6,by rw[show iN P (p.n-(I:Int)*8) 0=P from by ext j hj;simp[iN]];exact px6⟩
  case round=>
   clear hb6 bx6 rx6 px6;obtain⟨k,hk,rfl,hbr,bx,rx,px⟩:=hrel
   by_cases hk8:k<8
   ·have hki:(k:Int)<8:=by omega
    have hcx:=bx.cell;unfold dD at hcx;rw[hai'.out] at hcx;have rc0:wr.cell? ⟨bf,of+F*2,none⟩=some (.int .i64 p.n):=by obtain⟨b',o',e,hcc⟩:=(hrd0.out.below hbr) 0 _ rfl;cases e;exact hcc
    have hw1:IntKind.i64.wrap (8*(I:Int))=8*(I:Int):=bJ _ (by omega);have hw2:IntKind.i64.wrap (8*(I:Int)+(k:Int))=8*(I:Int)+(k:Int):=bJ _ (by omega)
    by_cases hge:p.n≤8*(I:Int)+k
    ·have hset:Hid ((iq (iN P (p.n-(I:Int)*8) k)).setIfInBounds k (.int .u8 0)=iq (iN P (p.n-(I:Int)*8) (k+1))):=Lib.hid (by rw[←AC P _ k hk8 (by omega)];exact BV _ k hk8 0);generalize hT:iN P (p.n-(I:Int)*8) k=T at px hset;clear hT
     go_wp2_with (refine aA rfl _ _ _ rfl p4 k _ [.int .u8 0] rfl rfl rfl _ _ px (by show k+1≤8;omega) (by kernel_rfl) (fun u hu=>by cases bq.1 hu;rfl) ?_)
     intro w7 px7 hg7;rw[Pw.putAt_one,hset.out] at px7;have hbr7:=hbr.grown hg7 hbr.size (fun k hk=>by cases hk;omega);have bx7:=bx.grown hg7 (fun e=>by have:=aJ e;omega);have rx7:=rx.grown hg7 (fun e=>by have:=aJ e;omega);clear hbr bx rx px hg7 hcx rc0;go_wp2;go_roundw
     case rel=>exact⟨k+1,by omega,by go_num,hbr7,bx7,rx7,px7⟩
     case measure=>simp[intOf];omega
    have hset:iN P (p.n-(I:Int)*8) k=iN P (p.n-(I:Int)*8) (k+1):=by
     ext j hj
     simp only[iN,ru]
     by_cases e:p.n-(I:Int)*8≤(j:Int)
     ·rw[if_neg (by omega),if_neg (by omega)]
     ·rw[if_neg (by omega),if_neg (by omega)]
    rw[hset] at px;clear hset;go_wp2;go_roundw
    case rel=>exact⟨k+1,by omega,by go_num,hbr,bx,rx,px⟩
    case measure=>simp[intOf];omega
   have hki:¬(k:Int)<8:=by omega
   rw[Aw _ _ k (by omega)] at px;have hcont' : Hid (cB H.ma F I=fF P (p.n-(I:Int)*8)):=Lib.hid (by rw[hcont.out,if_pos (by omega)]);generalize fF P (p.n-(I:Int)*8)=C at px hcont'
   go_wp2_with (first | (refine ax _ _ rfl p4 0 rfl rfl _ px.rd _ underlying79 rfl psize ?_) | (refine az rfl _ _ _ rfl (w.heap.size+1) (iq C) rfl rfl _ _ rx rfl psize (ja _) ?_))
   intro w7 rx7 hg7;have hb7:=hbr.grown hg7 hbr.size (fun k hk=>by cases hk;omega);go_wp2;refine bodyPost_ret (v:=.agg (iq C)) (eu results54 _ _ (w.heap.size+1) _ _ _ rfl rx7 underlying79 rfl psize) rfl ?_;exact⟨by rw[hcont'.out],hb7⟩
theorem JW (s x:Operand) (t:TypeId) (ho:o.op=Op.call { callee:=Callee.builtin Builtin.append,args:=#[s,x],argTypes:=#[t,t] })
 (B:Nat) (e:TypeId) (z:Value) (size bytes:Nat) (h1:P.underlying t=some (.slice e)) (h2:(P.info? e).map (fun i=>(i.zero,i.size,i.bytes))=some (some z,size,bytes)) (h6:z.cells.size=size) (h7:0<size)
 (g:Nat) (hs:ρ s = .slice (some ⟨g,0,none⟩) 0 0) (hown:Own w B e size (.slice (some ⟨g,0,none⟩) 0 0) 0 [])
 (ao:Option Addr) (m c:Nat) (news:List Value) (hx:ρ x = .slice ao m c) (hnone:ao=none→c=0) (hmc:m≤c) (hn:news.length=m*size) (hrd:dN w ao news)
 (b1:m≤maxLen) (b2:m*bytes≤140737488355328) (hB:B≤w.heap.size) :
  ∃v' w',(execOp ρ o).run P w = .ok (.value v') w'∧Below w.heap.size w w'∧Own w' B e size v' m news:=by
 obtain⟨ii,hi,hz,hsz,hby⟩:=info_parts h2;rcases si m with h0|h0
 ·subst h0;obtain rfl:news=[]:=jO (by simpa using hn);refine⟨.slice (some ⟨g,0,none⟩) 0 0,w,?_,Below.refl _ _,hown⟩;cases ao with
  | none=>simp[execOp,ho,resolve,invoke,builtin,hs,hx,Builtin.append_,run_underlying h1,Go.sizeOf,typeInfo,hi,Builtin.lenOf,Builtin.firstCells,storeCells,Result.andThen]
  | some ad=>simp[execOp,ho,resolve,invoke,builtin,hs,hx,Builtin.append_,run_underlying h1,Go.sizeOf,typeInfo,hi,Builtin.lenOf,Builtin.firstCells,storeCells,loadCells,loadCellsFrom,Result.andThen]
 obtain⟨b,off,rfl,hc⟩:=hrd.at (by rw[hn];exact Nat.mul_pos h0 h7);obtain⟨v',w',hr,how,hgr⟩:=run_append_arg_grows (P:=P) w t o.type e ii z size bytes h1 hi hz hsz hby h6 h7 ⟨g,0,none⟩ 0 0 [] (by simp) (fun j u h=>by simp at h) ⟨b,off,none⟩ m c news hn (fun j u hj=>by rw[rV];exact hc j u hj) (by omega) (by omega) (by rw[ed];exact b2);have ho' : Own w' B e size v' m news:=by have:=(Own.of_owns how).mono hB;simpa using this
 refine⟨v',w',?_,jW hgr,ho'⟩;simp[execOp,ho,resolve,invoke,builtin,hs,hx,hr,Result.andThen]
theorem kS {l:List lX} {J:(Nat→Bool)→(Nat→Value)→World→Prop} {D:Value→World→Prop} (hw:Region.wanted o (gz ρ ops)=true) (h:∃v' w',(execOp ρ o).run P w = .ok (.value v') w'∧D v' w')
 (hJ:∀v w',D v w'→J (cO L i) (dH y i v) w') (hR:∀v w',D v w'→rl l i v w') :
  if Region.wanted o (gz ρ ops)=true then dM P o ρ w (fun v w'=>J (cO L i) (dH y i v) w'∧rl l i v w') else J (cO L i) (dH y i undef) w∧rl l i undef w:=by
 obtain⟨v,w',h1,h2⟩:=h;exact eF v hw h1 (hJ _ _ h2) (hR _ _ h2)
theorem Qv {l:List lX} {D:Value→Prop} (hw:Region.wanted o (gz ρ ops)=true) (h:∃v,(execOp ρ o).run P w = .ok (.value v) w∧D v) (hR:∀v,D v→rl l i v w) :
  if Region.wanted o (gz ρ ops)=true then dM P o ρ w (fun v w'=>Below w.heap.size w w'∧rl l i v w') else rl l i undef w:=by
 obtain⟨v,h1,h2⟩:=h;exact aj v hw h1 (hR _ h2)
theorem Fu {α:Type} (enc:α→List Value) (sz:Nat) (hsz:∀x,(enc x).length=sz):∀(l:List α) (k:Nat),(l.flatMap enc).take (k*sz)=(l.take k).flatMap enc
 | [],k=>by simp
 | x::l,0=>by simp
 | x::l,k+1=>by rw[lZ,List.take_succ_cons,lZ,Ca,Gv,List.take_append,hsz,iF (by rw[hsz];omega),zP,Fu enc sz hsz l k]
theorem EJ {α:Type} (enc:α→List Value) (sz:Nat) (hsz:∀x,(enc x).length=sz):∀(l:List α) (k:Nat),(l.flatMap enc).drop (k*sz)=(l.drop k).flatMap enc
 | [],k=>by simp
 | x::l,0=>by simp
 | x::l,k+1=>by rw[lZ,zC,Ca,Gv,List.drop_append,hsz,pV (by rw[hsz];omega),Iu,zP,EJ enc sz hsz l k]
theorem JJ (l:List Cc) (c:Cc) (q:Nat) (hq:q≤l.length):((l.flatMap mh).take (q*3)++mh c)++(l.flatMap mh).drop (q*3)=(l.insertIdx q c).flatMap mh:=by
  rw[Fu mh 3 oV,EJ mh 3 oV];have:∀(l:List Cc) (q:Nat),q≤l.length→l.insertIdx q c=l.take q++c::l.drop q:=by
    intro l
    induction l with
    | nil=>intro q hq;obtain rfl:q=0:=by simpa using hq
           rfl
    | cons x l ih=>intro q hq;cases q with
      | zero=>rfl
      | succ q=>rw[Il,ih q (by simpa using hq)];rfl
  rw[this l q hq];simp[eT]
theorem ui.take (h:ui w a c n vs) (hk:k≤n):ui w a c k (vs.take (k*sz)):=
 ⟨aX hk h.le,h.mx,h.nl,fun j u hj=>h.rd j u (by
  rw[lL] at hj;split at hj
  ·exact hj
  ·cases hj)⟩
theorem SA {i:Operand} (ho:o.op = .slice t x none (some i) none) (hx:ρ x = .slice a n c) (hy:ρ i = .int .i64 (k:Int)) (hk:k≤n)
 (hu:P.underlying t=some (.slice e)) (hs:(P.info? e).map (·.size)=some sz) (h:ui W0 a c n vs):(execOp ρ o).run P w = .ok (.value (.slice a k c)) w∧ui W0 a c k (vs.take (k*sz)):=by
 obtain⟨inf,hinf,hsz⟩:∃inf,P.info? e=some inf∧inf.size=sz:=by
  cases h:P.info? e with
  | none=>rw[h] at hs;cases hs
  | some inf=>rw[h] at hs;exact⟨inf,rfl,by simpa using hs⟩
 have hso:(Go.sizeOf e).run P w = .ok sz w:=by simp[Go.sizeOf,typeInfo,hinf,go_sem,hsz]
 have hle:=h.le;refine⟨?_,aX hk h.le,h.mx,h.nl,fun j u hj=>h.rd j u (by
  rw[lL] at hj;split at hj
  ·exact hj
  ·cases hj)⟩
 have hkc:(k:Int)≤(c:Int):=by omega
 cases a with
 | none=>
  have hc0:=h.nl rfl;subst hc0;obtain rfl:k=0:=by omega
  simp[execOp,go_sem,ho,hx,hy,hu,hso,hkc]
 | some ad=>simp[execOp,go_sem,ho,hx,hy,hu,hso,hkc]
theorem Qj {i:Operand} (ho:o.op = .slice t x (some i) none none) (hx:ρ x = .slice a n c) (hy:ρ i = .int .i64 (k:Int)) (hk:k≤n)
 (hu:P.underlying t=some (.slice e)) (hs:(P.info? e).map (·.size)=some sz) (hl:vs.length=n*sz) (h:ui W0 a c n vs):∃v,(execOp ρ o).run P w = .ok (.value v) w∧∃a' c',v = .slice a' (n-k) c'∧ui W0 a' c' (n-k) (vs.drop (k*sz)):=by
 obtain⟨inf,hinf,hsz⟩:∃inf,P.info? e=some inf∧inf.size=sz:=by
  cases h:P.info? e with
  | none=>rw[h] at hs;cases hs
  | some inf=>rw[h] at hs;exact⟨inf,rfl,by simpa using hs⟩
 have hso:(Go.sizeOf e).run P w = .ok sz w:=by simp[Go.sizeOf,typeInfo,hinf,go_sem,hsz]
 have hle:=h.le;have hmx:=h.mx;have hkn:(k:Int)≤(n:Int):=by omega
 have hnc:(n:Int)≤(c:Int):=by omega
 cases a with
 | none=>
  have hc0:=h.nl rfl;subst hc0;obtain rfl:n=0:=by omega
  obtain rfl:k=0:=by omega
  obtain rfl:vs=[]:=jO (by simpa using hl);exact⟨.slice none 0 0,by simp[execOp,go_sem,ho,hx,hy,hu,hso],none,0,rfl,ay _,aS _,fun _=>rfl,by rw[zZ];exact dN.nil⟩
 | some ad=>
  by_cases hc:k=c
  ·subst hc;obtain rfl:k=n:=by omega
   refine⟨.slice (some ad) 0 0,by simp[execOp,go_sem,ho,hx,hy,hu,hso],some ad,0,by rw[sS],by omega,aS _,fun e=>(by cases e),?_⟩;rw[pV (by omega)];exact dN.nil
  refine⟨.slice (some (ad.add (k*sz))) (n-k) (c-k),?_,some (ad.add (k*sz)),c-k,rfl,by omega,by omega,fun e=>(by cases e),?_⟩
  ·have h1:k<c:=by omega
   simp[execOp,go_sem,ho,hx,hy,hu,hso,hkn,hnc,h1];exact fun e=>absurd e.symm hc
  intro i u hi;rw[qN] at hi;obtain⟨b,off,e1,e2⟩:=h.rd _ _ hi;cases e1;exact⟨b,off+k*sz,by rw[rV],by rw[mU];exact e2⟩
def yI (W0:World) (q:Nat) (l:List Cc) (c:Cc):(Nat→Bool)→(Nat→Value)→World→Prop:=fun L y W=>
 Below W0.heap.size W0 W∧(L 23=true→L 15=true)∧(L 15=true→L 9=true) ∧
 (L 1=true→L 9=false→∃g,y 1 = .slice (some ⟨g,0,none⟩) 0 0∧Own W W0.heap.size 106 3 (.slice (some ⟨g,0,none⟩) 0 0) 0 []) ∧
 (L 9=true→L 15=false→Own W W0.heap.size 106 3 (y 9) q ((l.flatMap mh).take (q*3))) ∧
 (L 14=true→L 15=false→∃a e,y 14 = .slice a 1 e∧ui W a e 1 (mh c)) ∧
 (L 15=true→L 23=false→Own W W0.heap.size 106 3 (y 15) (q+1) ((l.flatMap mh).take (q*3)++mh c)) ∧
 (L 23=true→Own W W0.heap.size 106 3 (y 23) (q+1+(l.length-q)) (((l.flatMap mh).take (q*3)++mh c)++(l.flatMap mh).drop (q*3)))
theorem fB {l:List Cc} {c:Cc}:∀L y W W',Below W.heap.size W W'→yI W0 q l c L y W→yI W0 q l c L y W':=
 fun _ _ _ _ hb ⟨h1,h2,h3,h4,h5,h6,h7,h8⟩=>⟨ae h1 hb,h2,h3,fun a b=>by
  obtain⟨g,e1,e2⟩:=h4 a b;exact⟨g,e1,e2.below hb⟩,fun a b=>(h5 a b).below hb,fun a b=>by
  obtain⟨x,e,e1,e2⟩:=h6 a b;exact⟨x,e,e1,e2.below hb⟩,fun a b=>(h7 a b).below hb,fun a=>(h8 a).below hb⟩
theorem UV {l:List Cc} {c:Cc} (y:Nat→Value):yI W0 q l c (fun _=>false) y W0:=by
 refine⟨Below.refl _ _,?_,?_,?_,?_,?_,?_,?_⟩<;>· intro h;cases h
theorem UY {l:List Cc} {c:Cc} (h:yI W0 q l c L y W):yI W0 q l c (cO L 1) (dH y 1 (.slice (some ⟨W.heap.size,0,none⟩) 0 0)) (W.alloc (.cells #[] 106)):=by
 obtain⟨h1,h2,h3,h4,h5,h6,h7,h8⟩:=fB _ _ _ _ ((Below.refl _ _).alloc (ay _) (.cells #[] 106)) h;exact⟨h1,h2,h3,fun _ _=>⟨_,rfl,Own.empty _ _ h.1.size⟩,h5,h6,h7,h8⟩
theorem UD {l:List Cc} {c:Cc} (h:yI W0 q l c L y W) (hb:Below W.heap.size W W') (ho:Own W' W0.heap.size 106 3 v q ((l.flatMap mh).take (q*3))):yI W0 q l c (cO L 9) (dH y 9 v) W':=by
 obtain⟨h1,h2,h3,h4,h5,h6,h7,h8⟩:=fB _ _ _ _ hb h;exact⟨h1,h2,fun _=>rfl,fun _ e=>(by cases e),fun _ _=>ho,h6,h7,h8⟩
theorem TU {l:List Cc} {c:Cc} {e:Nat} (h:yI W0 q l c L y W) (hb:Below W.heap.size W W') (ho:ui W' a e 1 (mh c)):yI W0 q l c (cO L 14) (dH y 14 (.slice a 1 e)) W':=by
 obtain⟨h1,h2,h3,h4,h5,h6,h7,h8⟩:=fB _ _ _ _ hb h;exact⟨h1,h2,h3,h4,h5,fun _ _=>⟨a,e,rfl,ho⟩,h7,h8⟩
theorem TT {l:List Cc} {c:Cc} (h:yI W0 q l c L y W) (h15:L 15=false) (h9:L 9=true) (hg:W.grownBy W' (y 9).ownBlock) (ho:Own W' W0.heap.size 106 3 v (q+1) ((l.flatMap mh).take (q*3)++mh c)):yI W0 q l c (cO L 15) (dH y 15 v) W':=by
 obtain⟨h1,h2,h3,h4,h5,h6,h7,h8⟩:=h;have h23:L 23=true→False:=fun e=>by rw[h2 e] at h15;cases h15
 exact⟨h1.grown hg h1.size (fun k hk=>(h5 h9 h15).ge k hk),fun _=>rfl,fun _=>h9,fun _ e=>(by rw[show cO L 15 9=L 9 from rfl,h9] at e;cases e),fun _ e=>(by cases e),fun _ e=>(by cases e),fun _ _=>ho,fun e=>(h23 e).elim⟩
theorem TW {l:List Cc} {c:Cc} (h:yI W0 q l c L y W) (h23:L 23=false) (h15:L 15=true) (hg:W.grownBy W' (y 15).ownBlock) (ho:Own W' W0.heap.size 106 3 v (q+1+(l.length-q)) (((l.flatMap mh).take (q*3)++mh c)++(l.flatMap mh).drop (q*3))):yI W0 q l c (cO L 23) (dH y 23 v) W':=by
 obtain⟨h1,h2,h3,h4,h5,h6,h7,h8⟩:=h;exact⟨h1.grown hg h1.size (fun k hk=>(h7 h15 h23).ge k hk),fun _=>h15,h3,fun _ e=>(by rw[show cO L 23 9=L 9 from rfl,h3 h15] at e;cases e),fun _ e=>(by rw[show cO L 23 15=L 15 from rfl,h15] at e;cases e),fun _ e=>(by rw[show cO L 23 15=L 15 from rfl,h15] at e;cases e),fun _ e=>(by cases e),fun _=>ho⟩
structure IK (S S' : MW):Prop where
 sp:S'.H.sp=S.H.sp
 fi:S'.H.fi=S.H.fi
 ct:S'.H.ct=S.H.ct
 dk:S'.H.dk=S.H.dk
 fl:S'.H.m.fs.length=S.H.m.fs.length
 sl:S'.H.sl.length=S.H.sl.length
theorem IK.refl (S:MW):IK S S:=⟨rfl,rfl,rfl,rfl,rfl,rfl⟩
theorem IK.trans {a b c:MW} (h:IK a b) (k:IK b c):IK a c:=⟨k.sp.trans h.sp,k.fi.trans h.fi,k.ct.trans h.ct,k.dk.trans h.dk,k.fl.trans h.fl,k.sl.trans h.sl⟩
theorem dW.rdM {S:MW} (h:dW w B b S):dN w (some ⟨b,1,none⟩) (dD S.H).toList:=bF h.blk 1 11
theorem Bd.cas {T:List (List En)} (h:Bd m T):m.ca.length≤60:=SK (m:=dU m T) h.rt.ca h.rt.pt.st
theorem Bd.fis {T:List (List En)} (h:Bd m T):∀f∈m.st.fs,f.b.length≤12:=Ae h.rt.pt.st
def LF (S:MW) (B b:Nat) (w:World) (ks:List (Nat × Array Value × TypeId)):(Nat→Bool)→(Nat→Value)→World→Prop:=fun _ _ W=>
 ∃a c l,dW W B b (S.lst a c l)∧MS w b S W (S.lst a c l)∧∀t∈ks,aC W t.1 t.2.1 t.2.2∧¬mE b S t.1
theorem aF {S:MW} {ks:List (Nat × Array Value × TypeId)}:∀L y W W',Below W.heap.size W W'→LF S B b w ks L y W→LF S B b w ks L y W':=
 fun _ _ _ _ hb ⟨a,c,l,h1,h2,h3⟩=>⟨a,c,l,h1.below hb,h2.below hb,fun t ht=>⟨(h3 t ht).1.ext hb,(h3 t ht).2⟩⟩
theorem zK {S:MW} {ks:List (Nat × Array Value × TypeId)} {y' : Value→Nat→Value} (n:Int) (hn : -9223372036854775808≤n∧n≤9223372036854775807) (h:LF S B b w ks L y W) {R:Value→World→Prop} (hR:∀x:Int,0≤x→x<256→(x<n∨x=0)→∀W',R (.int .i64 x) W') :
  Calls Tryz.prog 30 #[.pointer (some ⟨b,0,none⟩),.int .i64 n] W fun e W' => ∃v,e = .returned v∧LF S B b w ks L' (y' v) W'∧R v W':=by
 obtain⟨a,c,l,h1,h2,h3⟩:=h;refine (fo _ n B b W h1 hn).mono ?_;rintro r W' ⟨x,a',c',l',rfl,k1,k2,k3,_⟩;exact⟨_,rfl,⟨a',c',l',k1,h2.trans k2,fun t ht=>⟨k2.blkN (h3 t ht).1 (h3 t ht).2,(h3 t ht).2⟩⟩,hR x k3.1 k3.2.1 k3.2.2 W'⟩
theorem QA {S:MW} {ks:List (Nat × Array Value × TypeId)} {y' : Value→Nat→Value} (h:LF S B b w ks L y W) {R:Value→World→Prop} (hR:∀P W',R (.agg (iq P)) W') :
  Calls Tryz.prog 33 #[.pointer (some ⟨b,0,none⟩)] W fun e W' => ∃v,e = .returned v∧LF S B b w ks L' (y' v) W'∧R v W':=by
 obtain⟨a,c,l,h1,h2,h3⟩:=h;refine (wM _ B b W h1).mono ?_;rintro r W' ⟨P,a',c',l',rfl,k1,k2⟩;exact⟨_,rfl,⟨a',c',l',k1,h2.trans k2,fun t ht=>⟨k2.blkN (h3 t ht).1 (h3 t ht).2,(h3 t ht).2⟩⟩,hR P W'⟩
theorem Rm {l:List Cc} {f i:Int} (hq:q≤l.length) (hno:∀d∈l.take q,Ap f i d=false) (hy:q=l.length∨∃c,l[q]?=some c∧Ap f i c=true):yx l f i=q:=by
 unfold yx;rcases hy with rfl|⟨c,hc,hg⟩
 ·rw[iF (ay _)] at hno;rw[zT.2 fun d hd=>hno d hd];rfl
 obtain⟨hl,rfl⟩:=bW.1 hc;rw[uG.2 ⟨hl,hg,fun j hj=>by have:=hno (l[j]'(by omega)) (List.mem_take_iff_getElem.2 ⟨j,by omega,rfl⟩);rw[this];decide⟩];rfl
def Tx (S:MW) (f i:Int) (B b:Nat) (w:World) (r:Ending) (w' : World):Prop:=∃x S',r = .returned (.int .i64 x)∧dW w' B b S'∧MS w b S w' S'∧IK S S'∧S'.T=S.T∧Bd S'.H.ma S'.T∧(x = -1∨∃c∈S'.H.ca,c.f=f∧c.i=i∧c.k=x)
theorem JN (S:MW) (f i:Int) (B b:Nat) (w:World) (h:dW w B b S) (hd:Bd S.H.ma S.T) (hi:zn S.H.ma.st f i) :
  Calls Tryz.prog 105 #[.pointer (some ⟨b,0,none⟩),.int .i64 f,.int .i64 i] w (Tx S f i B b w):=by
 have z7:S.H.ca.length≤60:=hd.cas;have hBs:=Lib.hid h.bs;have hb':=h.lt;obtain⟨F,rfl⟩:=fE hi.1.1;obtain⟨I,rfl⟩:=fE hi.2.1;have hFl:F<S.H.fi.length:=by have:=hi.1.2;simp[MH.ma,bZ] at this;omega
 have hFi:(F:Int)<(S.H.fi.length:Int):=by omega
 have hlim:=Hg hd.few.2.2.2.2.1 hi;have hF5:(F:Int)<5:=hlim.1;have hI12:(I:Int)<12:=hlim.2.1;obtain⟨N,hN⟩:∃N,(aU S.H.ma.st (F:Int)).n=N:=⟨_,rfl⟩;obtain⟨p,hp⟩:∃p,S.H.fi[F]?=some p:=⟨_,aG hFl⟩;have hpn:p.n=N:=by rw[←hN];have:aU S.H.ma.st (F:Int)=p.fi:=oJ (by show (S.H.fi.map PF.fi)[F]?=_;rw[jM,hp];rfl);rw[this];rfl
 have hp':=Lib.hid hp;have hN':=Lib.hid hN;have hpn':=Lib.hid hpn;have hd':=Lib.hid hd;have hi':=Lib.hid hi;clear hd hi hp hN hpn hlim;go_enter func105,ntmps105;have hc:=h.blk.cell;unfold iQ at hc;go_upto_region 2 with (fail);clear hc
 go_loopw [20] (fun k wr => ∃q:Nat,q≤S.H.ca.length∧k = .int .i64 q∧Below w.heap.size w wr∧Hid (∀d∈S.H.ca.take q,¬(d.f=(F:Int)∧d.i=(I:Int)))) (fun k _=>S.H.ca.length-(intOf k).toNat)
 case atStart=>exact⟨0,aS _,rfl,Below.refl _ _,Lib.hid (by simp)⟩
 case round=>
  obtain⟨q,hq,rfl,hbr,hno⟩:=hrel
  by_cases hql:q<S.H.ca.length
  ·obtain⟨bc,oc,hca,hrd⟩:=yO (h.ma.rd.below hbr).ca.rd q hql;obtain⟨c,hc⟩:∃c,S.H.ca[q]?=some c:=⟨_,aG hql⟩;rw[show S.H.ca[q]=c from (bW.1 hc).2] at hrd;have hqi:(q:Int)<(S.H.ca.length:Int):=by omega
   have hc':=Lib.hid hc;clear hc;rw[hca]
   go_wp2_with (first | (refine ax _ _ rfl bc (oc+q*3) rfl rfl _ hrd _ underlying106 rfl cached_size ?_) | (refine aI rfl _ _ _ rfl (Ab c) rfl rfl rfl cached_size (vB c) ?_))
   intro w3 hb3 cx3;have hbr3:=ae hbr hb3;have hcx:=cx3.cell;have hl3:=cx3.lt;clear hbr hb3 hrd;unfold Ab at hcx
   by_cases hy:c.f=(F:Int)∧c.i=(I:Int)
   ·obtain⟨hy1,hy2⟩:=hy;rw[hy1,hy2] at hcx;go_wp2;go_ret;exact⟨c.k,S,rfl,h.below hbr3,(MS.refl w b S).below hbr3,.refl _,rfl,hd'.out,.inr ⟨c,bQ hc'.out,hy1,hy2,rfl⟩⟩
   have hno' : Hid (∀d∈S.H.ca.take (q+1),¬(d.f=(F:Int)∧d.i=(I:Int))):=Lib.hid fun d hd=>by
    rw[take_at hc'.out] at hd;rcases fJ.1 hd with hd|hd
    ·exact hno.out d hd
    ·rw[bq.1 hd];exact hy
   by_cases hy1:c.f=(F:Int)
   ·have hy2:¬c.i=(I:Int):=fun e=>hy ⟨hy1,e⟩;clear hy;go_wp2;go_roundw
    case rel=>exact⟨q+1,by omega,by go_num,hbr3,hno'⟩
    case measure=>simp[intOf];omega
   clear hy;go_wp2;go_roundw
   case rel=>exact⟨q+1,by omega,by go_num,hbr3,hno'⟩
   case measure=>simp[intOf];omega
  have hqi:¬(q:Int)<(S.H.ca.length:Int):=by omega
  rw[iF (by omega)] at hno;have h1:=h.below hbr;have s1:=(MS.refl w b S).below hbr;have hn0:=Lib.hid (h1.new (ay _));have hc:=h1.blk.cell;unfold iQ at hc
  go_wp2_with (refine ax _ _ rfl b 1 rfl rfl _ h1.rdM _ underlying41 rfl machine_size ?_)
  refine (Gs S.H F I _ h1.ma.rd ⟨by omega,fun f hf=>aX (hd'.out.fis f hf) (by decide)⟩ (fun c hc=>hd'.out.rt.ca.lt c hc) (by have:=hi'.out.1;simpa[MH.ma,bZ] using this) hi'.out.2).mono ?_;rintro r w2 ⟨rfl,hb2⟩;have hP:Hid (fF (cB S.H.ma F I) (N-(I:Int)*8)=cB S.H.ma F I∧cB S.H.ma F I=ig S.H.ma F I):=Lib.hid (by
   have e:cB S.H.ma F I=ig S.H.ma F I:=by unfold cB ig;rw[show S.H.ma.ca.find? (fun c=>decide (c.f=(F:Int))&&decide (c.i=(I:Int)))=none from Ec hno.out]
   exact⟨by rw[e,←hN'.out];exact Oy _ _ _,e⟩)
  generalize cB S.H.ma F I=P at hP;have h2:=h1.below hb2;have s2:=s1.below hb2;clear h1 s1 hc hb2 h hbr
  go_wp2_with (refine aI rfl _ _ _ rfl (iq P) rfl rfl rfl psize (ja P) ?_)
  intro w3 hb3 px3;have h3:=h2.below hb3;have s3:=s2.below hb3;have hnp:=Lib.hid (h2.new (ay _));have hp0:=Lib.hid s2.size;have hp1:w2.heap.size<w3.heap.size:=px3.lt;have hpB:B≤w2.heap.size:=aX hBs.out hp0.out;clear h2 s2 hb3;generalize hp4:w2.heap.size=p4 at *
  clear hp4
  go_wp2_with fail
  refine (fo _ 2 B b _ h3 (by omega)).mono ?_;rintro r w4 ⟨x,a4,c4,l4,rfl,h4,s4,hx,_⟩;have px4:=s4.blkN px3 hnp.out;have s4:=s3.trans s4;clear h3 s3 px3 hx hp1;go_upto_if 46 with (fail)
  go_cut [10] (fun s10 wx => ∃(d:Bool) (a:Option Addr) (c:Nat) (l:List UInt8) (P:Page),s10 = .bool d∧dW wx B b (S.lst a c l)∧MS w b S wx (S.lst a c l)∧aC wx p4 (iq P) 79∧Hid (fF P (N-(I:Int)*8)=P∧(d=false→P=ig S.H.ma F I)))
  case first=>
   by_cases hx1:x=1
   ·subst hx1
    go_wp2_with fail
    refine (wM _ B b _ h4).mono ?_;rintro r w5 ⟨P2,a5,c5,l5,rfl,h5,s5⟩;rw[nk] at h5 s5;have px5:=s5.blkN px4 hnp.out;have s5:=s4.trans s5;clear h4 s4 px4 hP
    go_wp2_with (refine az rfl _ _ _ rfl p4 (iq P2) rfl rfl _ _ px5 rfl psize (ja _) ?_)
    intro w6 px6 hg6;have h6:=h5.locT px5 (by decide) hnp.out hpB hg6;have s6:=s5.loc hg6 hp0.out;clear h5 s5 px5 hg6;go_upto_region 11 with (fail)
    go_loopw [49] (fun j wr => ∃k:Nat,k≤8∧j = .int .i64 k∧dW wr B b (S.lst a5 c5 l5)∧MS w b S wr (S.lst a5 c5 l5)∧aC wr p4 (iq (iN P2 (N-(I:Int)*8) k)) 79) (fun j _=>8-(intOf j).toNat)
    case atStart=>exact⟨0,by omega,rfl,h6,s6,by rw[show iN P2 (N-(I:Int)*8) 0=P2 from by ext j hj;simp[iN]];exact px6⟩
    case round=>
     clear h6 s6 px6;obtain⟨k,hk,rfl,hm,hs,px⟩:=hrel
     by_cases hk8:k<8
     ·have hki:(k:Int)<8:=by omega
      have hcx:=hm.blk.cell;unfold iQ at hcx;dsimp only[MW.lst] at hcx;obtain⟨bf,of,hai,hrd⟩:=jH jq (by decide) hm.ma.rd.st.rd F hFl;dsimp only[MW.lst] at hai hrd;rw[show S.H.fi[F]=p from (bW.1 hp'.out).2] at hrd;rw[hai] at hcx;have rc0:wr.cell? ⟨bf,of+F*2,none⟩=some (.int .i64 N):=by rw[←hpn'.out];obtain⟨b',o',e,hcc⟩:=hrd 0 _ rfl;cases e;exact hcc
      clear hrd hai;have hw1:IntKind.i64.wrap (8*(I:Int))=8*(I:Int):=bJ _ (by omega);have hw2:IntKind.i64.wrap (8*(I:Int)+(k:Int))=8*(I:Int)+(k:Int):=bJ _ (by omega)
      by_cases hge:N≤8*(I:Int)+k
      ·have hset:Hid ((iq (iN P2 (N-(I:Int)*8) k)).setIfInBounds k (.int .u8 0)=iq (iN P2 (N-(I:Int)*8) (k+1))):=Lib.hid (by rw[←AC P2 _ k hk8 (by omega)];exact BV _ k hk8 0);generalize hT:iN P2 (N-(I:Int)*8) k=T at px hset;clear hT
       go_wp2_with (refine aA rfl _ _ _ rfl p4 k _ [.int .u8 0] rfl rfl rfl _ _ px (by show k+1≤8;omega) (by kernel_rfl) (fun u hu=>by cases bq.1 hu;rfl) ?_)
       intro w7 px7 hg7;rw[Pw.putAt_one,hset.out] at px7;have hm7:=hm.locT px (by decide) hnp.out hpB hg7;have hs7:=hs.loc hg7 hp0.out;clear hm hs px hg7 hcx rc0;go_wp2;go_roundw
       case rel=>exact⟨k+1,by omega,by go_num,hm7,hs7,px7⟩
       case measure=>simp[intOf];omega
      have hset:iN P2 (N-(I:Int)*8) k=iN P2 (N-(I:Int)*8) (k+1):=by
       ext j hj
       simp only[iN,ru]
       by_cases e:N-(I:Int)*8≤(j:Int)
       ·rw[if_neg (by omega),if_neg (by omega)]
       ·rw[if_neg (by omega),if_neg (by omega)]
      rw[hset] at px;clear hset;go_wp2;go_roundw
      case rel=>exact⟨k+1,by omega,by go_num,hm,hs,px⟩
      case measure=>simp[intOf];omega
     have hki:¬(k:Int)<8:=by omega
     rw[Aw _ _ k (by omega)] at px;have hC:Hid (fF (fF P2 (N-(I:Int)*8)) (N-(I:Int)*8)=fF P2 (N-(I:Int)*8)):=Lib.hid (Nb _ _);generalize fF P2 (N-(I:Int)*8)=C at px hC;go_wp2;go_meet
     case rel=>exact⟨true,a5,c5,l5,C,rfl,hm,hs,px,Lib.hid ⟨hC.out,fun h=>(by cases h)⟩⟩
   go_wp2;go_meet
   case rel=>exact⟨false,a4,c4,l4,P,rfl,h4,s4,px4,Lib.hid ⟨hP.out.1,fun _=>hP.out.2⟩⟩
  case rest=>
   obtain⟨d,a5,c5,l5,P2,rfl,h5,s5,px5,hP2⟩:=hcut;clear h4 s4 px4 hP;go_upto_region 16 with (fail);refine gH 9 [.v (.pointer (some ⟨b,0,none⟩)),.v (.agg (iq P2)),_,.r 3 ((bX fun v => ∃x:Int,v = .int .i64 x∧0≤x)),.r 4 ((bX fun v => ∃u,v = .bool u)),_,_,_,.r 8 ((bX fun v => ∃u,v = .agg (vK ⟨P2,1,u,d,(F:Int),(I:Int)⟩)))] (LF S B b w [(p4,iq P2,79)]) aF (fun _=>⟨a5,c5,l5,h5,s5,by simpa using ⟨px5,hnp.out⟩⟩) (Qk aF rfl (ag ?_ (Qk aF rfl (ag ?_ (ag ?_ (Qk aF rfl (Qk aF rfl (Qk aF rfl (ag ?_ (aB)))))))))) (fun _=>rfl) rfl ?_
   ·intro ρ y W L hw hn hLi hLd hb hd;refine eB aF (fun _ _ h=>h) hb ?_;have E9:ρ (.tmp 9) = .pointer (some ⟨p4,0,none⟩):=(hn (.tmp 9) rfl).trans rfl;obtain⟨a,c,l,m1,m2,m3⟩:=hb;have m3:=(m3 _ (bq.2 rfl)).1;refine aj (.agg (iq P2)) (ah rfl) (dx rfl E9 m3 underlying79 rfl psize) rfl
   ·intro ρ y W L hw hn hLi hLd hb hd;have E72:=hw 72 2 rfl;have h2:y 2=_:=hd 2 rfl;have EC:∀v,ρ (.const v)=v:=fun v=>hn (.const v) trivial;have EF:∀f,ρ (.func f) = .func (.func f) #[] #[]:=fun f=>hn (.func f) trivial;refine gJ _ _ (ah rfl) (aQ rfl (EF _) func30 (by kernel_rfl) (by kernel_rfl) (by simp only[bP,bM,bN,E72,h2,EC,EF];rfl)) ?_;exact zK 2 (by omega) hb fun x h1 _ _ _=>⟨x,rfl,h1⟩
   ·intro ρ y W L hw hn hLi hLd hb hd;refine eB aF (fun _ _ h=>h) hb ?_;have E73:=hw 73 3 rfl;have h3:=hd 3 rfl;obtain⟨x,hx,_⟩:=h3;refine aj _ (ah rfl) (oO rfl (E73.trans hx) (hn (.const _) trivial) (by simp[go_sem];rfl)) ⟨_,rfl⟩
   ·intro ρ y W L hw hn hLi hLd hb hd;refine eB aF (fun _ _ h=>h) hb ?_;have E71:=hw 71 1 rfl;have h1:y 1=_:=hd 1 rfl;have E74:=hw 74 4 rfl;have h4:=hd 4 rfl;have E75:=hw 75 5 rfl;have h5:y 5=_:=hd 5 rfl;have E76:=hw 76 6 rfl;have h6:y 6=_:=hd 6 rfl;have E77:=hw 77 7 rfl;have h7:y 7=_:=hd 7 rfl;obtain⟨u,hu⟩:=h4;have EC:∀v,ρ (.const v)=v:=fun v=>hn (.const v) trivial;refine aj (.agg (vK ⟨P2,1,u,d,(F:Int),(I:Int)⟩)) (ah rfl) (by simp[execOp,go_sem,E71,h1,E74,E75,h5,E76,h6,E77,h7,EC,hu,iq,vK]) ⟨_,rfl⟩
   intro y W5 hbW5 hRW5;have hy3:((bX fun v => ∃x:Int,v = .int .i64 x∧0≤x)).r (y 3) W5:=hRW5 3 (by decide);have hy4:((bX fun v => ∃u,v = .bool u)).r (y 4) W5:=hRW5 4 (by decide);have hy8:((bX fun v => ∃u,v = .agg (vK ⟨P2,1,u,d,(F:Int),(I:Int)⟩))).r (y 8) W5:=hRW5 8 (by decide);clear hRW5;obtain⟨a6,c6,l6,h6,s6,px6⟩:=hbW5;have px6:=(px6 _ (bq.2 rfl)).1;obtain⟨u,hu⟩:=hy8;rw[hu];clear hu h5 s5 px5
   go_wp2_with fail
   refine (Ei _ _ B b _ h6 (by have:=hd'.out.few.1;show S.H.m.fs.length≤1000;have e:S.H.ma.m.fs.length=S.H.m.fs.length:=rfl;omega)).mono ?_;rintro r w7 ⟨x7,a7,c7,l7,fs,rfl,h7,s7,hx7⟩;rw[nk] at h7 s7;have s7:=s6.trans s7;clear h6 s6 px6;rcases hx7 with ⟨rfl,rfl⟩|⟨j,rfl,hj,hjr,rfl⟩
   ·go_wp2;go_ret;exact⟨-1,_,rfl,h7,s7,⟨rfl,rfl,rfl,rfl,rfl,rfl⟩,rfl,hd'.out,.inl rfl⟩
   have hj' : j<S.H.m.fs.length:=hj;have hjr':=Lib.hid hjr;have hj0:(0:Int)≤(j:Int):=by omega
   clear hj hjr;go_upto_region 20 with (fail)
   go_loopw [13] (fun k wr => ∃q:Nat,q≤S.H.ca.length∧k = .int .i64 q∧Below w7.heap.size w7 wr∧Hid (∀d∈S.H.ca.take q,Ap F I d=false)) (fun k _=>S.H.ca.length-(intOf k).toNat)
   case atStart=>exact⟨0,aS _,rfl,Below.refl _ _,Lib.hid (by simp)⟩
   case round=>
    obtain⟨q,hq,rfl,hb7,hno7⟩:=hrel;have hm8:=h7.below hb7;have hwc:IntKind.i64.wrap (100*(F:Int))=100*(F:Int):=bJ _ (by omega);have hwd:IntKind.i64.wrap (100*(F:Int)+(I:Int))=100*(F:Int)+(I:Int):=bJ _ (by omega)
    by_cases hql:q<S.H.ca.length
    case' neg=>
     have hqi:¬(q:Int)<(S.H.ca.length:Int):=by omega
     go_upto_region 20 with (fail);refine aK 35 [_,_,_,_,_,_,_,_,_,_,_,_,_,_,_,_,_,_,_,_,_,_,_,_,_,_,_,_,_,_,_,_,_,_,.v (.bool false)] (Gk rfl (Gk rfl (Gk rfl (Gf b 1 rfl rfl (Gf b 10 rfl rfl (Gl hm8.blk (V:=.slice S.H.ac S.H.ca.length S.H.cc) (by simp[iQ,MW.frs,MW.lst]) rfl rfl rfl rfl (Gn rfl rfl rfl rfl (Gb (.bool false) (by simp[go_sem,hqi,hql]) rfl rfl rfl rfl rfl (Gk rfl (Gk rfl (Gk rfl (Gk rfl (Gk rfl (Gk rfl (Gk rfl (Gk rfl (Gk rfl (Gk rfl (Gk rfl (Gk rfl (Gk rfl (Gk rfl (Gk rfl (Gk rfl (Gk rfl (Gk rfl (Gk rfl (Gk rfl (Gk rfl (Gk rfl (Gk rfl (Gk rfl (Gk rfl (Gk rfl (Gk rfl (aB)))))))))))))))))))))))))))))))))))) (fun _=>rfl) rfl ?_;intro y W8 hbW8 _;have hat:Hid (yx S.H.ca F I=q):=Lib.hid (Rm hq hno7.out (.inl (by omega)))
    case' pos=>
     obtain⟨bc,oc,hca,hrd⟩:=yO hm8.ma.rd.ca.rd q hql;have hca:S.H.ac=some ⟨bc,oc,none⟩:=hca;obtain⟨c,hc⟩:∃c,S.H.ca[q]?=some c:=⟨_,aG hql⟩;have hrd:dN wr (some ⟨bc,oc+q*3,none⟩) (mh c):=by rw[←(bW.1 hc).2];exact hrd
     have hqi:(q:Int)<(S.H.ca.length:Int):=by omega
     have hcl:=hd'.out.rt.ca.file c (bQ hc);have hcl2:=Hg hd'.out.few.2.2.2.2.1 hcl;have hcl1:0≤c.f∧0≤c.i:=⟨hcl.1.1,hcl.2.1⟩;have hwa:IntKind.i64.wrap (100*c.f)=100*c.f:=bJ _ (by omega);have hwb:IntKind.i64.wrap (100*c.f+c.i)=100*c.f+c.i:=bJ _ (by omega);have hq0:∀W,Below wr.heap.size wr W→W.cell? ⟨bc,oc+q*3,none⟩=some (.int .i64 c.f):=fun W hb=>by obtain⟨b',o',e,hcc⟩:=(hrd.below hb) 0 _ rfl;cases e;exact hcc
     have hq1:∀W,Below wr.heap.size wr W→W.cell? ⟨bc,oc+q*3+1,none⟩=some (.int .i64 c.i):=fun W hb=>by obtain⟨b',o',e,hcc⟩:=(hrd.below hb) 1 _ rfl;cases e;exact hcc
     have hgc:Hid (Ap F I c=true↔¬100*c.f+c.i<100*(F:Int)+(I:Int)):=Lib.hid (by rw[wR];omega)
     by_cases hlt:100*c.f+c.i<100*(F:Int)+(I:Int)
     case pos=>
      go_upto_region 20 with (fail);refine aK 35 [_,_,_,_,_,_,_,_,_,_,_,_,_,_,_,_,_,_,_,_,_,_,_,_,_,_,_,_,_,_,_,_,_,_,.v (.bool true)] (Gk rfl (Gk rfl (Gk rfl (Gf b 1 rfl rfl (Gf b 10 rfl rfl (Gl hm8.blk (V:=.slice S.H.ac S.H.ca.length S.H.cc) (by simp[iQ,MW.frs,MW.lst]) rfl rfl rfl rfl (Gn rfl rfl rfl rfl (Gb (.bool true) (by simp[go_sem,hqi,hql]) rfl rfl rfl rfl rfl (Gk rfl (Gk rfl (Gk rfl (Gf b 1 rfl rfl (Gf b 10 rfl rfl (Gl hm8.blk (V:=.slice (some ⟨bc,oc,none⟩) S.H.ca.length S.H.cc) (by simp[iQ,MW.frs,MW.lst,hca]) rfl rfl rfl rfl (Gk rfl (Gr (.pointer (some ⟨bc,oc+q*3,none⟩)) (fun ρ y W hb hKn=>(bv rfl (aD rfl hKn) (aD rfl hKn) hql underlying38 cached_size)) rfl rfl (Gf bc (oc+q*3) rfl rfl (Gc (.int .i64 c.f) (fun W hb=>by simp[hq0 _ hb]) rfl rfl rfl rfl (Gb (.int .i64 (100*c.f)) (by simp[go_sem,hwa]) rfl rfl rfl rfl rfl (Gk rfl (Gk rfl (Gf b 1 rfl rfl (Gf b 10 rfl rfl (Gl hm8.blk (V:=.slice (some ⟨bc,oc,none⟩) S.H.ca.length S.H.cc) (by simp[iQ,MW.frs,MW.lst,hca]) rfl rfl rfl rfl (Gk rfl (Gr (.pointer (some ⟨bc,oc+q*3,none⟩)) (fun ρ y W hb hKn=>(bv rfl (aD rfl hKn) (aD rfl hKn) hql underlying38 cached_size)) rfl rfl (Gf bc (oc+q*3+1) rfl rfl (Gc (.int .i64 c.i) (fun W hb=>by simp[hq1 _ hb]) rfl rfl rfl rfl (Gb (.int .i64 (100*c.f+c.i)) (by simp[go_sem,hwb]) rfl rfl rfl rfl rfl (Gk rfl (Gb (.int .i64 (100*(F:Int))) (by simp[go_sem,hwc]) rfl rfl rfl rfl rfl (Gk rfl (Gb (.int .i64 (100*(F:Int)+(I:Int))) (by simp[go_sem,hwd]) rfl rfl rfl rfl rfl (Gb (.bool true) (by simp[go_sem,hlt]) rfl rfl rfl rfl rfl (Gk rfl (aB)))))))))))))))))))))))))))))))))))) (fun _=>rfl) rfl ?_;intro y W8 hbW8 _;have hno8:Hid (∀d∈S.H.ca.take (q+1),Ap F I d=false):=Lib.hid fun d hd=>by
       rw[take_at hc] at hd;rcases fJ.1 hd with hd|hd
       ·exact hno7.out d hd
       rw[bq.1 hd];cases hg:Ap F I c with
       | false=>rfl
       | true=>exact absurd hlt (hgc.out.1 hg)
      have hb8:=ae hb7 hbW8;clear hbW8 hc hca hrd hq0 hq1 hgc hno7 hm8;go_wp2;go_roundw
      case rel=>exact⟨q+1,by omega,by go_num,hb8,hno8⟩
      case measure=>simp[intOf];omega
     go_upto_region 20 with (fail);refine aK 35 [_,_,_,_,_,_,_,_,_,_,_,_,_,_,_,_,_,_,_,_,_,_,_,_,_,_,_,_,_,_,_,_,_,_,.v (.bool false)] (Gk rfl (Gk rfl (Gk rfl (Gf b 1 rfl rfl (Gf b 10 rfl rfl (Gl hm8.blk (V:=.slice S.H.ac S.H.ca.length S.H.cc) (by simp[iQ,MW.frs,MW.lst]) rfl rfl rfl rfl (Gn rfl rfl rfl rfl (Gb (.bool true) (by simp[go_sem,hqi,hql]) rfl rfl rfl rfl rfl (Gk rfl (Gk rfl (Gk rfl (Gf b 1 rfl rfl (Gf b 10 rfl rfl (Gl hm8.blk (V:=.slice (some ⟨bc,oc,none⟩) S.H.ca.length S.H.cc) (by simp[iQ,MW.frs,MW.lst,hca]) rfl rfl rfl rfl (Gk rfl (Gr (.pointer (some ⟨bc,oc+q*3,none⟩)) (fun ρ y W hb hKn=>(bv rfl (aD rfl hKn) (aD rfl hKn) hql underlying38 cached_size)) rfl rfl (Gf bc (oc+q*3) rfl rfl (Gc (.int .i64 c.f) (fun W hb=>by simp[hq0 _ hb]) rfl rfl rfl rfl (Gb (.int .i64 (100*c.f)) (by simp[go_sem,hwa]) rfl rfl rfl rfl rfl (Gk rfl (Gk rfl (Gf b 1 rfl rfl (Gf b 10 rfl rfl (Gl hm8.blk (V:=.slice (some ⟨bc,oc,none⟩) S.H.ca.length S.H.cc) (by simp[iQ,MW.frs,MW.lst,hca]) rfl rfl rfl rfl (Gk rfl (Gr (.pointer (some ⟨bc,oc+q*3,none⟩)) (fun ρ y W hb hKn=>(bv rfl (aD rfl hKn) (aD rfl hKn) hql underlying38 cached_size)) rfl rfl (Gf bc (oc+q*3+1) rfl rfl (Gc (.int .i64 c.i) (fun W hb=>by simp[hq1 _ hb]) rfl rfl rfl rfl (Gb (.int .i64 (100*c.f+c.i)) (by simp[go_sem,hwb]) rfl rfl rfl rfl rfl (Gk rfl (Gb (.int .i64 (100*(F:Int))) (by simp[go_sem,hwc]) rfl rfl rfl rfl rfl (Gk rfl (Gb (.int .i64 (100*(F:Int)+(I:Int))) (by simp[go_sem,hwd]) rfl rfl rfl rfl rfl (Gb (.bool false) (by simp[go_sem,hlt]) rfl rfl rfl rfl rfl (Gk rfl (aB)))))))))))))))))))))))))))))))))))) (fun _=>rfl) rfl ?_;intro y W8 hbW8 _;have hat:Hid (yx S.H.ca F I=q):=Lib.hid (Rm hq hno7.out (.inr ⟨c,hc,hgc.out.2 hlt⟩));clear hc hca hrd hq0 hq1 hgc
    all_goals
     have hb8:=ae hb7 hbW8;have hm9:=h7.below hb8;have s9:=s7.below hb8;clear hbW8 hm8 hno7;go_upto_region 22 with (fail);have sC:ui W8 S.H.ac S.H.cc S.H.ca.length (S.H.ca.flatMap mh):=hm9.ma.rd.ca;have sT:=sC.take (sz:=3) hq;have hcl60:S.H.ca.length≤60:=z7;have tlen:((S.H.ca.flatMap mh).take (q*3)).length=q*3:=by rw[kK,mH];omega
     have dlen:((S.H.ca.flatMap mh).drop (q*3)).length=(S.H.ca.length-q)*3:=by rw[List.length_drop,mH];omega
     refine gH 27 [_,.r 1 ((bX fun _=>True)),_,_,_,_,.v (.slice S.H.ac S.H.ca.length S.H.cc),_,_,.r 9 ((bX fun _=>True)),_,_,_,.v (.agg #[.int .i64 (F:Int),.int .i64 (I:Int),.int .i64 (j:Int)]),.r 14 ((bX fun _=>True)),.r 15 ((bX fun _=>True)),_,_,_,_,.v (.slice S.H.ac S.H.ca.length S.H.cc),_,.r 22 ((bX fun v => ∃a e,v = .slice a (S.H.ca.length-q) e∧ui W8 a e (S.H.ca.length-q) ((S.H.ca.flatMap mh).drop (q*3)))),.r 23 ((bX fun _=>True)),_,_,_] (yI W8 q S.H.ca ⟨(F:Int),(I:Int),(j:Int)⟩) fB (fun y=>UV y) (Qk fB rfl (ag ?_ (Qk fB rfl (Qk fB rfl (Qf fB b 1 rfl rfl (Qf fB b 10 rfl rfl (ag ?_ (Qk fB rfl (Qr fB (.slice S.H.ac q S.H.cc) (fun ρ y W hKn=>(SA (W0:=W8) rfl (aD rfl hKn) (aD rfl hKn) hq underlying38 cached_size sC).1) rfl rfl (ag ?_ (Qk fB rfl (Qk fB rfl (Qk fB rfl (ag ?_ (ag ?_ (ag ?_ (Qk fB rfl (Qk fB rfl (Qf fB b 1 rfl rfl (Qf fB b 10 rfl rfl (ag ?_ (Qk fB rfl (ag ?_ (ag ?_ (Qk fB rfl (Qf fB b 1 rfl rfl (Qf fB b 10 rfl rfl (aB)))))))))))))))))))))))))))) (fun _=>rfl) rfl ?_
     ·intro ρ y W L hw hn hLi hLd hb hd;refine eF (.slice (some ⟨W.heap.size,0,none⟩) 0 0) (ah rfl) ?_ (UY hb) trivial;simp[execOp,go_sem]
     ·intro ρ y W L hw hn hLi hLd hb hd;refine eB fB (fun _ _ h=>h) hb ?_;have E124:=hw 124 5 rfl;have h5:y 5=_:=hd 5 rfl;refine aj (.slice S.H.ac S.H.ca.length S.H.cc) (ah rfl) (by simp[execOp,go_sem,E124,h5,(hm9.below hb.1).blk.cell,iQ,MW.frs,MW.lst]) rfl
     ·intro ρ y W L hw hn hLi hLd hb hd;have E120:=hw 120 1 rfl;have h1:=hd 1 rfl;have E127:=hw 127 8 rfl;have h8:y 8=_:=hd 8 rfl;obtain⟨g,hg1,hg2⟩:=hb.2.2.2.1 (hLd 1 rfl) hLi;refine kS (ah rfl) (JW _ _ _ rfl W8.heap.size 106 (.agg #[.int .i64 0,.int .i64 0,.int .i64 0]) 3 24 underlying38 cached_info rfl (by decide) g (E120.trans hg1) hg2 S.H.ac q S.H.cc _ (E127.trans h8) sT.nl sT.le tlen (sT.below hb.1).rd (by unfold maxLen;omega) (by omega) hb.1.size) (fun v W1 h=>UD hb h.1 h.2) (fun _ _ _=>trivial)
     ·intro ρ y W L hw hn hLi hLd hb hd;refine eB fB (fun _ _ h=>h) hb ?_;have E129:=hw 129 10 rfl;have h10:y 10=_:=hd 10 rfl;have E130:=hw 130 11 rfl;have h11:y 11=_:=hd 11 rfl;have E131:=hw 131 12 rfl;have h12:y 12=_:=hd 12 rfl;refine aj (.agg #[.int .i64 (F:Int),.int .i64 (I:Int),.int .i64 (j:Int)]) (ah rfl) (by simp[execOp,go_sem,E129,h10,E130,h11,E131,h12]) rfl
     ·intro ρ y W L hw hn hLi hLd hb hd;have E132:=hw 132 13 rfl;have h13:y 13=_:=hd 13 rfl;refine eF (.slice (some ⟨W.heap.size,0,none⟩) 1 1) (ah rfl) ?_ (TU (W':=W.alloc (.cells (Ab ⟨(F:Int),(I:Int),(j:Int)⟩) 106)) hb ((Below.refl _ _).alloc (ay _) _) ⟨ay _,by unfold maxLen;omega,fun e=>(by cases e),dN.new _ _ _⟩) trivial;simp[execOp,go_sem,E132.trans h13,Ab]
     ·intro ρ y W L hw hn hLi hLd hb hd;have E128:=hw 128 9 rfl;have h9:=hd 9 rfl;have E133:=hw 133 14 rfl;have h14:=hd 14 rfl;obtain⟨a,e,hx1,hx2⟩:=hb.2.2.2.2.2.1 (hLd 14 rfl) hLi;have hv:=hb.2.2.2.2.1 (hLd 9 rfl) hLi;refine kS (ah rfl) (pz _ _ _ rfl W8.heap.size 106 (.agg #[.int .i64 0,.int .i64 0,.int .i64 0]) 3 24 underlying38 cached_info rfl (by decide) (y 9) q _ E128 hv a 1 e _ (E133.trans hx1) hx2.nl hx2.le rfl hx2.rd (MK _) (by unfold maxLen;omega) (by omega) hb.1.size) (fun v W1 h=>TT hb hLi (hLd 9 rfl) h.2.1 h.1) (fun _ _ _=>trivial)
     ·intro ρ y W L hw hn hLi hLd hb hd;refine eB fB (fun _ _ h=>h) hb ?_;have E138:=hw 138 19 rfl;have h19:y 19=_:=hd 19 rfl;refine aj (.slice S.H.ac S.H.ca.length S.H.cc) (ah rfl) (by simp[execOp,go_sem,E138,h19,(hm9.below hb.1).blk.cell,iQ,MW.frs,MW.lst]) rfl
     ·intro ρ y W L hw hn hLi hLd hb hd;refine eB fB (fun _ _ h=>h) hb ?_;have E139:=hw 139 20 rfl;have h20:y 20=_:=hd 20 rfl;have E140:=hw 140 21 rfl;have h21:y 21=_:=hd 21 rfl;exact Qv (ah rfl) (Qj (W0:=W8) rfl (E139.trans h20) (E140.trans h21) hq underlying38 cached_size (mH _) sC) (fun _ h=>h)
     ·intro ρ y W L hw hn hLi hLd hb hd;have E134:=hw 134 15 rfl;have h15:=hd 15 rfl;have E141:=hw 141 22 rfl;have h22:=hd 22 rfl;obtain⟨a,e,hx1,hx2⟩:=h22;have hv:=hb.2.2.2.2.2.2.1 (hLd 15 rfl) hLi;refine kS (ah rfl) (pz _ _ _ rfl W8.heap.size 106 (.agg #[.int .i64 0,.int .i64 0,.int .i64 0]) 3 24 underlying38 cached_info rfl (by decide) (y 15) (q+1) _ E134 hv a (S.H.ca.length-q) e _ (E141.trans hx1) hx2.nl hx2.le dlen (hx2.below hb.1).rd (fun u hu=>Gj _ u (List.mem_of_mem_drop hu)) (by unfold maxLen;omega) (by omega) hb.1.size) (fun v W1 h=>TW hb hLi (hLd 15 rfl) h.2.1 h.1) (fun _ _ _=>trivial)
     intro y W9 hbW9 hRW9;have hy22:((bX fun v => ∃a e,v = .slice a (S.H.ca.length-q) e∧ui W8 a e (S.H.ca.length-q) ((S.H.ca.flatMap mh).drop (q*3)))).r (y 22) W9:=hRW9 22 (by decide);clear hRW9;have hoC:=hbW9.2.2.2.2.2.2.2 rfl;have hm10:=hm9.below hbW9.1;have s10:=s9.below hbW9.1;rw[JJ _ _ _ hq] at hoC;have hlenI:Hid ((S.H.ca.insertIdx q (⟨(F:Int),(I:Int),(j:Int)⟩:Cc)).length=q+1+(S.H.ca.length-q)):=Lib.hid (by rw[List.length_insertIdx_of_le_length hq];omega);obtain⟨a9,c9,hv9,_⟩:=hoC.rd;rw[hv9] at hoC ⊢;have hge9:Hid (∀x,oB a9=some x→w.heap.size≤x):=Lib.hid fun x hx=>aX s9.size (iK hoC hx).1;have hoC:=hoC.mono (aX hm9.bs (ay _));clear hv9 hbW9 hm9 s9 sT sC tlen dlen h7 s7
     go_wp2_with (refine aA rfl _ _ _ rfl b 10 _ [.slice a9 (q+1+(S.H.ca.length-q)) c9] rfl rfl rfl _ _ hm10.blk (by show 10+1≤13;omega) (by kernel_rfl) (fun u hu=>by cases bq.1 hu;rfl) ?_)
     intro w11 hb11 hg11;have hm12:=hm10.setC (l:=S.H.ca.insertIdx q ⟨(F:Int),(I:Int),(j:Int)⟩) (by rw[hlenI.out];exact hoC) (by rw[hlenI.out];exact hb11) hg11;have s12:=s10.put (H':=_) hg11 (.inl rfl) (fun x (hx:mE b { ((S.lst a7 c7 l7).frs (S.H.m.fs.set j ⟨P2,1,u,d,(F:Int),(I:Int)⟩)) with H:={ ((S.lst a7 c7 l7).frs (S.H.m.fs.set j ⟨P2,1,u,d,(F:Int),(I:Int)⟩)).H with ac:=a9,cc:=c9,ca:=S.H.ca.insertIdx q ⟨(F:Int),(I:Int),(j:Int)⟩ } } x)=>by
      rcases hx with hx|hx
      ·exact .inl (.inl hx)
      simp only[gV,bY,fI,or_false] at hx;rcases hx with hx|hx|hx|hx|hx|hx|hx|hx|hx
      ·exact .inl (.inr (by simp only[gV,bY,fI,or_false];exact .inl hx))
      ·exact .inl (.inr (by simp only[gV,bY,fI,or_false];exact .inr (.inl hx)))
      ·exact .inl (.inr (by simp only[gV,bY,fI,or_false];exact .inr (.inr (.inl hx))))
      ·exact .inl (.inr (by simp only[gV,bY,fI,or_false];exact .inr (.inr (.inr (.inl hx)))))
      ·exact .inl (.inr (by simp only[gV,bY,fI,or_false];exact .inr (.inr (.inr (.inr (.inl hx))))))
      ·exact .inl (.inr (by simp only[gV,bY,fI,or_false];exact .inr (.inr (.inr (.inr (.inr (.inl hx)))))))
      ·exact .inr (hge9.out x hx.symm)
      ·exact .inl (.inr (by simp only[gV,bY,fI,or_false];exact .inr (.inr (.inr (.inr (.inr (.inr (.inr (.inl hx)))))))))
      ·exact .inl (.inr (by simp only[gV,bY,fI,or_false];exact .inr (.inr (.inr (.inr (.inr (.inr (.inr (.inr hx))))))))))
     clear hm10 s10 hb11 hg11 hoC;go_wp2;go_ret;have hbd:=hd'.out.cache (X:=⟨P2,1,u,d,(F:Int),(I:Int)⟩) hi'.out hno.out hj' hjr'.out ⟨rfl,rfl,rfl⟩ (by rw[hN'.out];exact hP2.out.1) hP2.out.2;refine⟨j,_,rfl,hm12,s12,⟨rfl,rfl,rfl,rfl,bI,rfl⟩,rfl,?_,.inr ⟨⟨(F:Int),(I:Int),(j:Int)⟩,(GM hq).2 (.inl rfl),rfl,rfl,rfl⟩⟩;unfold yZ at hbd;rw[show yx S.H.ma.ca F I=q from hat.out] at hbd;exact hbd
theorem go_on:∀ {r:List Ar} {q:Ar},aP q=0→srtF q.en r→∀n,onA (sZ q r) n=onA (q::r) n
 | [],q,_,_,n=>rfl
 | a::r,q,hq,h,n=>by
  unfold sZ;split
  ·rename_i hj;rw[go_on (Bc hq h.1 hj) (by simpa using h.2.2) n,Rh hq h.1 hj]
  ·rw[dh,go_on h.1 h.2.2 n,←dh]
theorem go_ok:∀ {r:List Ar} {q:Ar} {p:Option Ar},aP q=0→srtF q.en r→vL p q=false→okF p (sZ q r)
 | [],q,p,hq,_,hb=>⟨hq,hb,trivial⟩
 | a::r,q,p,hq,h,hb=>by
  unfold sZ;split
  ·rename_i hj;refine go_ok (Bc hq h.1 hj) (by simpa using h.2.2) ?_;cases p with
   | none=>rfl
   | some z=>exact hb
  rename_i hj;exact⟨hq,hb,go_ok h.1 h.2.2 (yF.2 ⟨h.2.1,by simpa using hj⟩)⟩
theorem Iw {l:List Ar} (h:srtF lo l) (n:Int):onA (sj l) n=onA l n:=by
 match l,h with
 | [],_=>rfl
 | a::r,h=>rw[yw,go_on h.1 h.2.2]
theorem Gm {l:List Ar} (h:srtF lo l):okF none (sj l):=by
 match l,h with
 | [],_=>trivial
 | a::r,h=>rw[yw];exact go_ok h.1 h.2.2 rfl
def xD (o:Option Pg):Array Value:=#[.bool o.isSome,.bool (oR o),.bool (oW o),.bool (oH o),.int .i64 (oF o),.int .i64 (oP o)]
def pQ (o:Option Pg):List Value:=(xD o).toList
theorem nu (o:Option Pg):(pQ o).length=6:=rfl
theorem Sv (o:Option Pg):∀u∈pQ o,u.oneCell' = true:=by
 intro u hu;simp only[pQ,xD,bY,fI,or_false] at hu;rcases hu with rfl|rfl|rfl|rfl|rfl|rfl<;>rfl
theorem QN (o:Option Pg):(xD o).all (·.oneCell')=true:=by simp[xD,Value.oneCell']
def MX (l:List (Option Pg)):Array Value:=(l.flatMap pQ).toArray
theorem Vt (l:List (Option Pg)):(l.flatMap pQ).length=l.length*6:=Pw.flat_len pQ 6 nu l
theorem zo (l:List (Option Pg)):(MX l).size=l.length*6:=by
 unfold MX;rw[List.size_toArray,Vt]
theorem zJ (l:List (Option Pg)):(MX l).all (·.oneCell')=true:=by
 rw[←ky,dL];intro u hu;obtain⟨o,_,h⟩:=jP.1 (show u∈l.flatMap pQ by simpa[MX] using hu);exact Sv o u h
theorem TN (l:List (Option Pg)) (k:Nat) (hk:k<l.length) (x:Option Pg):bA (MX l) (k*6) (pQ x)=MX (l.set k x):=by
 apply mg;intro i
 by_cases hi:i<l.length*6
 ·have hq:i / 6<l.length:=by omega
  have hir:i=i / 6*6+i%6:=by omega
  have h2:=ji pQ 6 nu (l.set k x) (i / 6) (by simpa using hq) (i%6) (by omega);rw[←hir] at h2;have h3:=ji pQ 6 nu l (i / 6) hq (i%6) (by omega);rw[←hir] at h3;have e2:(MX (l.set k x))[i]?=((l.set k x).flatMap pQ)[i]?:=by simp[MX]
  have e3:(MX l)[i]?=(l.flatMap pQ)[i]?:=by simp[MX]
  by_cases e:i / 6=k
  ·have hik:i=k*6+i%6:=by omega
   have hlt:i%6<(pQ x).length:=by rw[nu];omega
   have h1:=putAt_in (pQ x) (MX l) (k*6) (i%6) (pQ x)[i%6] (by rw[nu,zo];omega) (aG hlt);rw[←hik] at h1;rw[h1,e2,h2];simp only[e,GR];exact (aG hlt).symm
  rw[putAt_out _ _ _ _ (by rw[nu];omega),e2,h2,e3,h3];congr 2;rw[Aa (fun h=>e h.symm)]
 ·rw[kX (by rw[size_putAt,zo];omega),kX (by rw[zo,bI];omega)]
def fC (f:Nat→Option Pg):Array Value:=MX (MO f)
theorem jr (f:Nat→Option Pg):(fC f).size=384:=by unfold fC;rw[zo,xz]
theorem Rl (f:Nat→Option Pg) (k:Nat) (hk:k<64) (x:Option Pg):bA (fC f) (k*6) (pQ x)=fC (fun i=>if i=k then x else f i):=by
 unfold fC;rw[TN _ _ (by rw[xz];exact hk),Uo]
theorem Qw (cur:Array Value) (o:Nat) (a b c d e x y:Value):bA (bA cur o [a,b,c,d,e,x]) (o+5) [y]=bA cur o [a,b,c,d,e,y]:=by
 simp[bA]
theorem one_size:(Tryz.prog.info? 109).map (·.size)=some 6:=by kernel_rfl
theorem ones_size:(Tryz.prog.info? 110).map (·.size)=some 384:=by kernel_rfl
theorem qG (l:List Ar) (a:Option Addr) (c:Nat) (w:World) (h:dN w a (l.flatMap mF)) (hl:l.length≤1000) (hok:∀x∈l,aP x=0) :
  Calls Tryz.prog 49 #[.slice a l.length c] w fun r w'=>r = .returned (.agg (fC (cz l)))∧Below w.heap.size w w':=by
 go_enter func49,ntmps49;go_upto_region 2 with (fail);refine qH (fun W=>Code.wp _ _ _ _ W) fun W0 hb0 hres0 ho0 hs0 => ?_;clear hs0;replace ho0:aC W0 (w.heap.size+1) (fC f0) 110:=ho0;replace hres0:aC W0 w.heap.size (fC f0) 110:=hres0;go_upto_region 3 with (fail)
 go_loopw [9] (fun i wr => ∃k:Nat,k≤l.length∧i = .int .i64 k∧Below w.heap.size w wr∧aC wr (w.heap.size+1) (fC (cz (l.take k))) 110∧aC wr w.heap.size (fC f0) 110) (fun i _=>l.length-(intOf i).toNat)
 case atStart=>exact⟨0,aS _,rfl,hb0,ho0,hres0⟩
 case round=>
  clear hb0 ho0 hres0;obtain⟨k,hk,rfl,hbr,hor,hrr⟩:=hrel
  by_cases hlt:k<l.length
  ·have hnx:=Lib.hid (Lm hlt);have hA:=bC (hok l[k] (dP _));obtain⟨⟨f1,f2,f3⟩,f4,f5,f6,_,_⟩:=hA;generalize hF:cz (l.take k)=F at *
   obtain⟨b,off,rfl,c0,c1,c2,c3,c4,c5,c6⟩:=Mf (h.below hbr) k hlt;generalize l[k]=A at *
   go_upto_region 5 with (fail);refine gI (fun W=>Code.wp _ _ _ _ W) fun W1 hb1 hx1 hs1 => ?_;clear hs1 c0 c1 c2 c3 c4 c5 c6;have hbel1:=ae hbr hb1;have ho1:=hor.ext hb1;have hr1:=hrr.ext hb1;have hgx:w.heap.size+1<wr.heap.size:=hor.lt;clear hbr hor hrr hb1;obtain⟨gx,hg⟩:∃g,g=wr.heap.size:=⟨_,rfl⟩;rw[←hg] at hx1 hgx ⊢;clear hg;obtain⟨N,hN⟩:∃N:Nat,A.fr=(N:Int):=⟨A.fr.toNat,by omega⟩;have hN':=Lib.hid hN;clear hN;have hcx:=hx1.cell;go_upto_region 6 with (fail);clear hcx
   go_loopw [6] (fun i wr => ∃K:Nat,A.fr≤(K:Int)∧(K:Int)≤A.en∧i = .int .i64 K∧Below w.heap.size w wr∧aC wr gx (nR A) 99∧aC wr (w.heap.size+1) (fC (Ki A K F)) 110∧aC wr w.heap.size (fC f0) 110) (fun i _=>(A.en-intOf i).toNat)
   case atStart=>exact⟨N,by have:=hN'.out;omega,by have:=hN'.out;omega,by rw[hN'.out],hbel1,hx1,by rw[←hN'.out,Ph];exact ho1,hr1⟩
   case round=>
    clear hbel1 hx1 ho1 hr1;obtain⟨K,hK0,hK1,rfl,hbr,hx,ho,hr⟩:=hrel;have hcx:=hx.cell;unfold nR at hcx
    by_cases hKe:(K:Int)<A.en
    ·have hK64:K<64:=by omega
     have hK64i:(K:Int)<64:=by omega
     have hfit:Hid (K*6+6≤(fC (Ki A K F)).size):=Lib.hid (by rw[jr];omega);have hwa:IntKind.i64.wrap (A.ba+(K:Int))=A.ba+(K:Int):=bJ _ (by omega);have hwb:IntKind.i64.wrap (A.ba+(K:Int)-A.fr)=A.ba+(K:Int)-A.fr:=bJ _ (by omega);have hfin:Hid (∀q:Int,q=(if 0≤A.fi then A.ba+(K:Int)-A.fr else 0)→bA (fC (Ki A K F)) (K*6) [.bool true,.bool A.rd,.bool A.wr,.bool A.sh,.int .i64 A.fi,.int .i64 q]=fC (Ki A ((K:Int)+1) F)):=Lib.hid (fun q hq=>by rw[←SN hK0,←Rl _ K hK64,hq];rfl);go_upto_region 9 with (refine fP rfl _ _ _ rfl (w.heap.size+1) (K*6) #[.bool true,.bool A.rd,.bool A.wr,.bool A.sh,.int .i64 A.fi,.int .i64 0] rfl rfl _ _ ho hfit.out one_size (by simp[Value.oneCell']) ?_);intro W2 ho2 hgr2;have hbel2:Below w.heap.size w W2:=hbr.grown hgr2 hbr.size (fun k hk=>by cases hk;omega);have hx2:aC W2 gx (nR A) 99:=hx.grown hgr2 (fun e=>by have:=aJ e;omega);have hr2:aC W2 w.heap.size (fC f0) 110:=hr.grown hgr2 (fun e=>by have:=aJ e;omega);clear hbr hx ho hr hgr2 hcx;have hcx:=hx2.cell;unfold nR at hcx
     by_cases hfi:0≤A.fi
     ·go_upto_region 7 with (refine aA rfl _ _ _ rfl (w.heap.size+1) (K*6+5) (.int .i64 (A.ba+(K:Int)-A.fr)) [.int .i64 (A.ba+(K:Int)-A.fr)] rfl rfl rfl _ _ ho2 (by rw[size_putAt];exact hfit.out) int_size (by simp[Value.oneCell']) ?_);intro W3 ho3 hgr3;have hbel3:Below w.heap.size w W3:=hbel2.grown hgr3 hbel2.size (fun k hk=>by cases hk;omega);have hx3:aC W3 gx (nR A) 99:=hx2.grown hgr3 (fun e=>by have:=aJ e;omega);have hr3:aC W3 w.heap.size (fC f0) 110:=hr2.grown hgr3 (fun e=>by have:=aJ e;omega);have ho4:aC W3 (w.heap.size+1) (fC (Ki A ((K:Int)+1) F)) 110:=by rw[←hfin.out _ (by rw[if_pos hfi]),←Qw];exact ho3
      clear hbel2 hx2 ho2 hr2 ho3 hgr3 hcx hfin;go_wp2;go_roundw
      case rel=>exact⟨K+1,by omega,by omega,by go_num,hbel3,hx3,ho4,hr3⟩
      case measure=>simp[intOf];omega
     have ho4:aC W2 (w.heap.size+1) (fC (Ki A ((K:Int)+1) F)) 110:=by rw[←hfin.out 0 (by rw[if_neg hfi])];exact ho2
     clear ho2 hfin;go_wp2;go_roundw
     case rel=>exact⟨K+1,by omega,by omega,by go_num,hbel2,hx2,ho4,hr2⟩
     case measure=>simp[intOf];omega
    have hKA:(K:Int)=A.en:=by omega
    have ho4:aC wr (w.heap.size+1) (fC (cz (l.take (k+1)))) 110:=by rw[hnx.out,←hKA];exact ho
    clear ho hKA;go_wp2;go_roundw
    case rel=>exact⟨k+1,by omega,by go_num,hbr,ho4,hr⟩
    case measure=>simp[intOf];omega
  have hkl:k=l.length:=by omega
  subst hkl;rw[yY] at hor;have hs384:Hid ((fC (cz l)).size=384):=Lib.hid (jr _);have hr384:Hid ((fC f0).size=384):=Lib.hid (jr _);have hone:(fC (cz l)).all (·.oneCell')=true:=zJ _
  go_wp2_with (first | (refine fQ rfl 110 (.tmp 3) rfl (w.heap.size+1) 0 rfl (fC (cz l)).toList hor.rd _ underlying110 rfl (by rw[iC,hs384.out];exact ones_size) ?_) | (refine az rfl _ (.tmp 2) (.tmp 46) rfl w.heap.size (fC (cz l)) rfl rfl _ _ hrr (by rw[hs384.out,hr384.out]) (by rw[hs384.out];exact ones_size) hone ?_))
  intro w5 hr5 hgr5;have hbel5:Below w.heap.size w w5:=hbr.grown hgr5 hbr.size (fun k hk=>by cases hk;omega);go_wp2;refine bodyPost_ret (v:=.agg (fC (cz l))) (eu results49 _ _ w.heap.size _ _ _ rfl hr5 underlying110 rfl (by rw[hs384.out];exact ones_size)) rfl ?_;exact⟨rfl,hbel5⟩
theorem EM (a:Ar) (w:World):Calls Tryz.prog 103 #[.agg (nR a)] w fun r w'=>r = .returned (.int .i64 (aP a))∧Below w.heap.size w w':=by
 unfold nR;go_enter func103,ntmps103;go_upto_region 1 with (fail);refine gI (fun W=>Code.wp _ _ _ _ W) fun W0 hb0 hx0 hs0 => ?_;clear hs0;have hcx:=hx0.cell
 by_cases g1:a.fr<0
 ·have hz:Hid (aP a=3):=Lib.hid (by unfold aP;rw[if_pos (by omega)]);go_wp2;go_ret;exact⟨aR hz.out.symm,hb0⟩
 by_cases g2:64<a.en
 ·have hz:Hid (aP a=3):=Lib.hid (by unfold aP;rw[if_pos (by omega)]);go_wp2;go_ret;exact⟨aR hz.out.symm,hb0⟩
 by_cases g3:a.en≤a.fr
 ·have hz:Hid (aP a=3):=Lib.hid (by unfold aP;rw[if_pos (by omega)]);go_wp2;go_ret;exact⟨aR hz.out.symm,hb0⟩
 by_cases g4:a.fi < -1
 ·have hz:Hid (aP a=3):=Lib.hid (by unfold aP;rw[if_pos (by omega)]);go_wp2;go_ret;exact⟨aR hz.out.symm,hb0⟩
 by_cases g5:4<a.fi
 ·have hz:Hid (aP a=3):=Lib.hid (by unfold aP;rw[if_pos (by omega)]);go_wp2;go_ret;exact⟨aR hz.out.symm,hb0⟩
 by_cases g6:a.ba<0
 ·have hz:Hid (aP a=3):=Lib.hid (by unfold aP;rw[if_pos (by omega)]);go_wp2;go_ret;exact⟨aR hz.out.symm,hb0⟩
 have hn1:¬(a.fr<0∨a.en≤a.fr∨64<a.en∨a.fi < -1∨5≤a.fi∨a.ba<0):=by omega
 have hw1:IntKind.i64.wrap (a.en-a.fr)=a.en-a.fr:=bJ _ (by omega);have hw2:IntKind.i64.wrap (12-(a.en-a.fr))=12-(a.en-a.fr):=bJ _ (by omega)
 by_cases f1:a.fi = -1
 ·have f1' : (a.fi == -1)=true:=by simpa using f1
  by_cases f2:a.ba=0
  ·have f2' : ¬0<a.ba:=by omega
   cases f3:a.sh
   ·have hz:Hid (aP a=0):=Lib.hid (by unfold aP;rw[if_neg hn1,if_neg (by rw[f3];simp;omega)]);have f4:¬0≤a.fi:=by omega
    clear hn1 f1 f2;rw[f3] at hcx;go_wp2;go_ret;exact⟨aR hz.out.symm,hb0⟩
   have hz:Hid (aP a=7):=Lib.hid (by unfold aP;rw[if_neg hn1,if_pos (.inl ⟨by omega,.inr f3⟩)]);clear hn1 f1 f2;rw[f3] at hcx;go_wp2;go_ret;exact⟨aR hz.out.symm,hb0⟩
  have hz:Hid (aP a=7):=Lib.hid (by unfold aP;rw[if_neg hn1,if_pos (.inl ⟨by omega,.inl f2⟩)]);have f2' : 0<a.ba:=by omega
  clear hn1 f1 f2;go_wp2;go_ret;exact⟨aR hz.out.symm,hb0⟩
 have f1' : 0≤a.fi:=by omega
 have f1'' : (a.fi == -1)=false:=by simpa using f1
 by_cases f2:12-(a.en-a.fr)<a.ba
 ·have hz:Hid (aP a=7):=Lib.hid (by unfold aP;rw[if_neg hn1,if_pos (.inr ⟨f1',f2⟩)]);clear hn1 f1;go_wp2;go_ret;exact⟨aR hz.out.symm,hb0⟩
 have hz:Hid (aP a=0):=Lib.hid (by unfold aP;rw[if_neg hn1,if_neg (by omega)]);clear hn1 f1;go_wp2;go_ret;exact⟨aR hz.out.symm,hb0⟩
theorem VE (p q:Pg) (b:Bool) (h:(p==q)=b) (W:World):(Op.equalIn 10000 109 (.agg #[.bool true,.bool p.rd,.bool p.wr,.bool p.sh,.int .i64 p.fi,.int .i64 p.pg]) (.agg #[.bool true,.bool q.rd,.bool q.wr,.bool q.sh,.int .i64 q.fi,.int .i64 q.pg])).run Tryz.prog W = .ok b W:=by
 rw[←h,Vn]
 by_cases h3:p.rd=q.rd
 ·by_cases h4:p.wr=q.wr
  ·by_cases h5:p.sh=q.sh
   ·by_cases h6:(p.fi==q.fi)=true
    ·by_cases h7:p.pg=q.pg<;>simp[go_sem,h3,h4,h5,h6,h7]
    ·simp[go_sem,h3,h4,h5,h6]
   ·simp[go_sem,h3,h4,h5]
  ·simp[go_sem,h3,h4]
 ·simp[go_sem,h3]
theorem UZ (q:Pg) (x:Int) (W:World):(Op.equalIn 10000 109 (.agg #[.bool false,.bool false,.bool false,.bool false,.int .i64 0,.int .i64 x]) (.agg #[.bool true,.bool q.rd,.bool q.wr,.bool q.sh,.int .i64 q.fi,.int .i64 q.pg])).run Tryz.prog W = .ok false W:=by
 simp[go_sem]
theorem Ny (f:Nat→Option Pg) (k:Nat) (hk:k<64):(fC f).extract (k*6) (k*6+6)=xD (f k):=by
 apply mg;intro i
 by_cases hi:i<6
 ·rw[Array.getElem?_extract,if_pos (by rw[jr];omega)];have:=ji pQ 6 nu (MO f) k (by rw[xz];exact hk) i hi;have e:(fC f)[k*6+i]?=((MO f).flatMap pQ)[k*6+i]?:=by simp[fC,MX]
  have e2:(MO f)[k]'(by rw[xz];exact hk)=f k:=by simp[MO]
  rw[e,this,e2];simp[pQ]
 ·rw[kX (by simp;omega),kX (by simp[xD];omega)]
theorem zU (f:Nat→Option Pg) (k j:Nat) (hk:k<64) (u:Value) (h:(pQ (f k))[j]?=some u) (hj:j<6):(fC f)[k*6+j]?=some u:=by
 have:=ji pQ 6 nu (MO f) k (by rw[xz];exact hk) j hj;have e:(fC f)[k*6+j]?=((MO f).flatMap pQ)[k*6+j]?:=by simp[fC,MX]
 have e2:(MO f)[k]'(by rw[xz];exact hk)=f k:=by simp[MO]
 rw[e,this,e2];exact h
theorem BO (f:Nat→Option Pg) (k:Nat) (hk:k<64) (o:Option Pg) (ho:f k=o) (w:World):(Instr.index 110 (.agg (fC f)) (.int .i64 k)).run Tryz.prog w = .ok (.agg (xD o)) w:=
 wG underlying110 underlying109 rfl one_size _ k _ hk (by rw[←ho];exact Ny f k hk) _ w
theorem uW {a:Act} (hg:o.guard=none) (t t' : TypeId) (x y:Operand) (ho:o.op = .binOp .eql t x y t') (vx vy:Value) (hx:a.eval x=vx) (hy:a.eval y=vy) (B:Bool)
 (hr:(do eqGuard .eql t x y vx vy;binOp .eql t vx vy:Sem Value).run P w = .ok (.bool B) w) (h:wpList P ops Q rest (a.put o.dst (.bool B)) w):wpList P ops Q (o::rest) a w:=
 wpList_plain hg fun K hK=>by unfold Oper.wp;rw[oO ho hx hy hr];exact hK _ _ h
theorem RO (p q:Pg) (b:Bool) (h:(p==q)=b) (x y:Operand) (W:World):(do eqGuard .eql 109 x y (.agg #[.bool true,.bool p.rd,.bool p.wr,.bool p.sh,.int .i64 p.fi,.int .i64 p.pg]) (.agg #[.bool true,.bool q.rd,.bool q.wr,.bool q.sh,.int .i64 q.fi,.int .i64 q.pg]);binOp .eql 109 (.agg #[.bool true,.bool p.rd,.bool p.wr,.bool p.sh,.int .i64 p.fi,.int .i64 p.pg]) (.agg #[.bool true,.bool q.rd,.bool q.wr,.bool q.sh,.int .i64 q.fi,.int .i64 q.pg]):Sem Value).run Tryz.prog W = .ok (.bool b) W:=by
 have hE:=VE p q b h;simp[go_sem,hE]
theorem MN (q:Pg) (z:Int) (x y:Operand) (W:World):(do eqGuard .eql 109 x y (.agg #[.bool false,.bool false,.bool false,.bool false,.int .i64 0,.int .i64 z]) (.agg #[.bool true,.bool q.rd,.bool q.wr,.bool q.sh,.int .i64 q.fi,.int .i64 q.pg]);binOp .eql 109 (.agg #[.bool false,.bool false,.bool false,.bool false,.int .i64 0,.int .i64 z]) (.agg #[.bool true,.bool q.rd,.bool q.wr,.bool q.sh,.int .i64 q.fi,.int .i64 q.pg]):Sem Value).run Tryz.prog W = .ok (.bool false) W:=by
 have hE:=UZ q z;simp[go_sem,hE]
theorem Ba (f:Nat→Option Pg) (w:World) (hf:∀i p,f i=some p→0≤p.pg∧p.pg≤100) :
  Calls Tryz.prog 123 #[.agg (fC f)] w fun r w' => ∃v,r = .returned v∧Own w' w.heap.size 99 7 v (kN f 64).length ((kN f 64).flatMap mF)∧Below w.heap.size w w':=by
 have hs384:=Lib.hid (jr f);go_enter func123,ntmps123;go_upto_region 1 with (fail);refine gI (fun W=>Code.wp _ _ _ _ W) fun W0 hb0 hx0 hs0 => ?_;clear hs0;go_upto_region 3 with (refine ax _ _ rfl _ 0 rfl rfl _ hx0.rd _ underlying110 rfl (by rw[iC,hs384.out];exact ones_size) ?_)
 go_loopw [9,3] (fun i u wr => ∃k:Nat,k≤64∧i = .int .i64 k∧Below w.heap.size w wr∧aC wr w.heap.size (fC f) 110∧Own wr w.heap.size 99 7 u (kN f k).length ((kN f k).flatMap mF)) (fun i _ _=>64-(intOf i).toNat)
 case atStart=>exact⟨0,aS _,rfl,hb0,hx0,by simpa[kN] using Own.nil _ _ _ _⟩
 case round=>
  clear hb0 hx0;obtain⟨k,hk,rfl,hbel,hbx,hown⟩:=hrel
  by_cases hlt:k<64
  ·have hlti:(k:Int)<64:=by omega
   have htl:=HY f k;cases hfk:f k with
   | none=>
    have hix:=BO f k hlt none hfk;unfold xD oR oW oH oF oP at hix;have hst:=Lib.hid (QQ hfk);go_upto_region 5 with (fail);refine gI (fun W=>Code.wp _ _ _ _ W) fun W1 hb1 hx1 hs1 => ?_;have hcx:=hx1.cell;have hbel1:=ae hbel hb1;have hbx1:=hbx.ext hb1;have hown1:=hown.below hb1;clear hs1 hb1 hbel hbx hown;rw[←hst.out] at hown1;go_wp2;go_roundw
    case rel=>exact⟨k+1,by omega,by go_num,hbel1,hbx1,hown1⟩
    case measure=>simp[intOf];omega
   | some p=>
    have hix:=BO f k hlt (some p) hfk;unfold xD oR oW oH oF oP at hix;go_upto_region 5 with (fail);refine gI (fun W=>Code.wp _ _ _ _ W) fun W1 hb1 hx1 hs1 => ?_;have hbel:=ae hbel hb1;have hbx:=hbx.ext hb1;have hown:=hown.below hb1;clear hs1 hb1;obtain⟨gx,hgx⟩:∃g,g=wr.heap.size:=⟨_,rfl⟩;rw[←hgx] at hx1 ⊢;clear hgx;generalize hacc:kN f k=acc at *
    obtain⟨au,cu,rfl,_⟩:=hown.rd;have hcx:=hx1.cell;have hwk:IntKind.i64.wrap ((k:Int)+1)=(k:Int)+1:=bJ _ (by omega)
    by_cases hk0:k=0
    ·have hs0:lT f k p=false:=by rw[hk0];rfl
     have hst:Hid (kN f (k+1)=acc++[fu k p]):=Lib.hid (by rw[BU hfk hs0,hacc]);have hk0i:¬(0:Int)<(k:Int):=by omega
     have hk0n:¬0<k:=by omega
     clear hk0 hs0 hfk hacc;go_upto_region 14 with (fail)
     go_wp2_with (at_builtin;refine eH rfl _ _ 50 rfl w.heap.size 99 _ 7 40 underlying50 area_info rfl (by decide) _ acc.length (acc.flatMap mF) rfl (hown.alloc _) (some ⟨W1.heap.size,0,none⟩) 1 1 (mF (fu k p)) rfl (fun h=>(by cases h)) (ay _) rfl (dN.new _ (nR (fu k p)) _) (fun u hu=>qA [fu k p] u (by simpa using hu)) (by unfold maxLen;omega) (by omega) (bV hbel.size _) ?_)
     intro v W6 hown6 hgr6;have hbel6:Below w.heap.size w W6:=(hbel.alloc hbel.size _).grown hgr6 (bV hbel.size _) (hown.alloc (.cells (nR (fu k p)) 99)).ge;have hbx6:aC W6 w.heap.size (fC f) 110:=jY (hbx.alloc (.cells (nR (fu k p)) 99)) (hown.alloc (.cells (nR (fu k p)) 99)) (by decide) hgr6;have hown7:Own W6 w.heap.size 99 7 v (kN f (k+1)).length ((kN f (k+1)).flatMap mF):=by rw[hst.out,eT,jG];simpa using hown6
     clear hown6 hgr6;go_wp2;go_roundw
     case rel=>exact⟨k+1,by omega,by go_num,hbel6,hbx6,hown7⟩
     case measure=>simp[intOf];omega
    obtain⟨m,hm⟩:∃m,k=m+1:=⟨k-1,by omega⟩;have hk0i:(0:Int)<(k:Int):=by omega
    have hk0n:0<k:=by omega
    have hwm:IntKind.i64.wrap ((k:Int)-1)=(m:Int):=by rw[bJ _ (by omega)];omega
    have hm64:m<64:=by omega
    have hm64i:(m:Int)<64:=by omega
    have hm1:∀z,lT f k z=(match f m with | some q=>pW z q==z | none=>false):=fun z=>by subst hm;rfl
    have hcell:∀j u,(pQ (f m))[j]?=some u→j<6→W1.cell? ⟨w.heap.size,m*6+j,none⟩=some u:=fun j u h hj=>by rw[hbx.cell];exact zU f m j hm64 u h hj
    have hmm:=Lib.hid hm;clear hm hk0;cases hfm:f m with
    | none=>
     have hs0:lT f k p=false:=by rw[hm1,hfm]
     have hst:Hid (kN f (k+1)=acc++[fu k p]):=Lib.hid (by rw[BU hfk hs0,hacc]);rw[hfm] at hcell;have d0:=hcell 0 _ rfl (by decide);have d1:=hcell 1 _ rfl (by decide);have d2:=hcell 2 _ rfl (by decide);have d3:=hcell 3 _ rfl (by decide);have d4:=hcell 4 _ rfl (by decide);have d5:=hcell 5 _ rfl (by decide);simp only[gM,Option.isSome,oR,oW,oH,oF,oP] at d0 d1 d2 d3 d4 d5;clear hm1 hcell hs0 hfk hacc;have hw1p:IntKind.i64.wrap (0+1)=1:=by rw[bJ _ (by omega)];try rfl
     go_upto_region 9 with (fail);refine gI (fun W=>Code.wp _ _ _ _ W) fun W2 hb2 hy2 hs2 => ?_;have hbel:=ae hbel hb2;have hbx2:=hbx.ext hb2;have hown2:=hown.below hb2;have hx2:=hx1.ext hb2;have hgxy:gx<W1.heap.size:=hx1.lt;have hgy:w.heap.size<W1.heap.size:=hbx.lt;have hgB:=hbel.size;clear hs2 hb2 hbx hown hx1 hcx d0 d1 d2 d3 d4 d5;have hcx:=hx2.cell
     by_cases hfi:0≤p.fi
     ·obtain⟨gy,hgyE⟩:∃g,g=W1.heap.size:=⟨_,rfl⟩;rw[←hgyE] at hy2 hgxy hgy ⊢;clear hgyE;have hcy:=hy2.cell;go_upto_region 11 with (refine aA rfl _ _ _ rfl gy 5 (.int .i64 (1)) [.int .i64 (1)] rfl rfl rfl _ _ hy2 (by simp) int_size (by simp[Value.oneCell']) ?_);intro W3 hy3 hgr3;have hy4:aC W3 gy #[.bool false,.bool (false),.bool (false),.bool (false),.int .i64 (0),.int .i64 (1)] 109:=hy3;have hbel:=hbel.grown hgr3 hbel.size (fun k hk=>by cases hk;omega);have hbx3:aC W3 w.heap.size (fC f) 110:=hbx2.grown hgr3 (fun e=>by have:=aJ e;omega);have hx3:aC W3 gx #[.bool true,.bool p.rd,.bool p.wr,.bool p.sh,.int .i64 p.fi,.int .i64 p.pg] 109:=hx2.grown hgr3 (fun e=>by have:=aJ e;omega);have hown:=ak hown2 hy2 (by decide) hgr3;have hbx:=hbx3;clear hy2 hy3 hbx2 hx2 hown2 hgr3 hcx hcy hbx3 hgB;have hE:=MN p 1;go_upto_region 12 with (first | (refine ax _ _ rfl _ 0 rfl rfl _ hy4.rd _ underlying109 rfl one_size ?_) | (refine ax _ _ rfl _ 0 rfl rfl _ hx3.rd _ underlying109 rfl one_size ?_) | (refine uW rfl _ _ _ _ rfl _ _ rfl rfl _ (hE _ _ _) ?_));clear hE hy4;have hcx:=hx3.cell;go_upto_region 14 with (fail)
      go_wp2_with (at_builtin;refine eH rfl _ _ 50 rfl w.heap.size 99 _ 7 40 underlying50 area_info rfl (by decide) _ acc.length (acc.flatMap mF) rfl (hown.alloc _) (some ⟨W3.heap.size,0,none⟩) 1 1 (mF (fu k p)) rfl (fun h=>(by cases h)) (ay _) rfl (dN.new _ (nR (fu k p)) _) (fun u hu=>qA [fu k p] u (by simpa using hu)) (by unfold maxLen;omega) (by omega) (bV hbel.size _) ?_)
      intro v W6 hown6 hgr6;have hbel6:Below w.heap.size w W6:=(hbel.alloc hbel.size _).grown hgr6 (bV hbel.size _) (hown.alloc (.cells (nR (fu k p)) 99)).ge;have hbx6:aC W6 w.heap.size (fC f) 110:=jY (hbx.alloc (.cells (nR (fu k p)) 99)) (hown.alloc (.cells (nR (fu k p)) 99)) (by decide) hgr6;have hown7:Own W6 w.heap.size 99 7 v (kN f (k+1)).length ((kN f (k+1)).flatMap mF):=by rw[hst.out,eT,jG];simpa using hown6
      clear hown6 hgr6;go_wp2;go_roundw
      case rel=>exact⟨k+1,by omega,by go_num,hbel6,hbx6,hown7⟩
      case measure=>simp[intOf];omega
     have hbx:=hbx2;have hown:=hown2;clear hbx2 hown2;have hfi' : ¬0≤p.fi:=hfi;have hE:=MN p 0;go_upto_region 12 with (first | (refine ax _ _ rfl _ 0 rfl rfl _ hy2.rd _ underlying109 rfl one_size ?_) | (refine ax _ _ rfl _ 0 rfl rfl _ hx2.rd _ underlying109 rfl one_size ?_) | (refine uW rfl _ _ _ _ rfl _ _ rfl rfl _ (hE _ _ _) ?_));clear hE hy2;have hcx:=hx2.cell;go_upto_region 14 with (fail)
     go_wp2_with (at_builtin;refine eH rfl _ _ 50 rfl w.heap.size 99 _ 7 40 underlying50 area_info rfl (by decide) _ acc.length (acc.flatMap mF) rfl (hown.alloc _) (some ⟨W2.heap.size,0,none⟩) 1 1 (mF (fu k p)) rfl (fun h=>(by cases h)) (ay _) rfl (dN.new _ (nR (fu k p)) _) (fun u hu=>qA [fu k p] u (by simpa using hu)) (by unfold maxLen;omega) (by omega) (bV hbel.size _) ?_)
     intro v W6 hown6 hgr6;have hbel6:Below w.heap.size w W6:=(hbel.alloc hbel.size _).grown hgr6 (bV hbel.size _) (hown.alloc (.cells (nR (fu k p)) 99)).ge;have hbx6:aC W6 w.heap.size (fC f) 110:=jY (hbx.alloc (.cells (nR (fu k p)) 99)) (hown.alloc (.cells (nR (fu k p)) 99)) (by decide) hgr6;have hown7:Own W6 w.heap.size 99 7 v (kN f (k+1)).length ((kN f (k+1)).flatMap mF):=by rw[hst.out,eT,jG];simpa using hown6
     clear hown6 hgr6;go_wp2;go_roundw
     case rel=>exact⟨k+1,by omega,by go_num,hbel6,hbx6,hown7⟩
     case measure=>simp[intOf];omega
    | some q=>
     have hqb:=hf m q hfm;have hstp0:=hm1 p;rw[hfm] at hstp0 hcell;simp only[] at hstp0;have d0:=hcell 0 _ rfl (by decide);have d1:=hcell 1 _ rfl (by decide);have d2:=hcell 2 _ rfl (by decide);have d3:=hcell 3 _ rfl (by decide);have d4:=hcell 4 _ rfl (by decide);have d5:=hcell 5 _ rfl (by decide);simp only[gM,Option.isSome,oR,oW,oH,oF,oP] at d0 d1 d2 d3 d4 d5;generalize hBe:(pW p q==p)=B at hstp0;have hstp:=Lib.hid hstp0;clear hm1 hcell hstp0;have hN1:0≤p.fi→((⟨q.rd,q.wr,q.sh,q.fi,q.pg+1⟩:Pg)==p)=B:=fun h=>by rw[←hBe];unfold pW;rw[if_pos h]
     have hN0:¬0≤p.fi→(q==p)=B:=fun h=>by rw[←hBe];unfold pW;rw[if_neg h]
     clear hBe;have hw1p:IntKind.i64.wrap (q.pg+1)=(q.pg+1):=by rw[bJ _ (by omega)];try rfl
     go_upto_region 9 with (fail);refine gI (fun W=>Code.wp _ _ _ _ W) fun W2 hb2 hy2 hs2 => ?_;have hbel:=ae hbel hb2;have hbx2:=hbx.ext hb2;have hown2:=hown.below hb2;have hx2:=hx1.ext hb2;have hgxy:gx<W1.heap.size:=hx1.lt;have hgy:w.heap.size<W1.heap.size:=hbx.lt;have hgB:=hbel.size;clear hs2 hb2 hbx hown hx1 hcx d0 d1 d2 d3 d4 d5;have hcx:=hx2.cell
     by_cases hfi:0≤p.fi
     ·obtain⟨gy,hgyE⟩:∃g,g=W1.heap.size:=⟨_,rfl⟩;rw[←hgyE] at hy2 hgxy hgy ⊢;clear hgyE;have hcy:=hy2.cell;go_upto_region 11 with (refine aA rfl _ _ _ rfl gy 5 (.int .i64 ((q.pg+1))) [.int .i64 ((q.pg+1))] rfl rfl rfl _ _ hy2 (by simp) int_size (by simp[Value.oneCell']) ?_);intro W3 hy3 hgr3;have hy4:aC W3 gy #[.bool true,.bool (q.rd),.bool (q.wr),.bool (q.sh),.int .i64 (q.fi),.int .i64 ((q.pg+1))] 109:=hy3;have hbel:=hbel.grown hgr3 hbel.size (fun k hk=>by cases hk;omega);have hbx3:aC W3 w.heap.size (fC f) 110:=hbx2.grown hgr3 (fun e=>by have:=aJ e;omega);have hx3:aC W3 gx #[.bool true,.bool p.rd,.bool p.wr,.bool p.sh,.int .i64 p.fi,.int .i64 p.pg] 109:=hx2.grown hgr3 (fun e=>by have:=aJ e;omega);have hown:=ak hown2 hy2 (by decide) hgr3;have hbx:=hbx3;clear hy2 hy3 hbx2 hx2 hown2 hgr3 hcx hcy hbx3 hgB;have hE:=RO ⟨q.rd,q.wr,q.sh,q.fi,q.pg+1⟩ p B (hN1 hfi);go_upto_region 12 with (first | (refine ax _ _ rfl _ 0 rfl rfl _ hy4.rd _ underlying109 rfl one_size ?_) | (refine ax _ _ rfl _ 0 rfl rfl _ hx3.rd _ underlying109 rfl one_size ?_) | (refine uW rfl _ _ _ _ rfl _ _ rfl rfl _ (hE _ _ _) ?_));clear hE hy4;have hcx:=hx3.cell
      by_cases hB:B=true
      ·subst hB;have hst:=Lib.hid (Ri hfk hstp.out);rw[hacc] at hst;have hne:0<acc.length:=by have:=PX f hfm;rw[←hmm.out,hacc] at this;exact this
       obtain⟨n,hn0⟩:∃n,acc.length=n+1:=⟨acc.length-1,by omega⟩;have hna:n<acc.length:=by omega
       have hse:Hid (wm acc ((k:Int)+1)=acc.set n { acc[n] with en:=(k:Int)+1 }):=Lib.hid (Km hn0 _);have hni:(n:Int)<(acc.length:Int):=by omega
       have hwn:IntKind.i64.wrap ((acc.length:Int)-1)=(n:Int):=by rw[bJ _ (by omega)];omega
       obtain⟨g,off1,cap1,hv1,hBg,hgl,⟨csg,hgb⟩,hcc,hfz,hset⟩:=wD su (by decide) rfl hown n hna 1 (by decide) (.int .i64 ((k:Int)+1)) { acc[n] with en:=(k:Int)+1 } rfl;cases hv1;have hc1:=hcc 1 _ rfl;have hbxg:w.heap.size≠g:=by intro e;subst e;unfold aC at hbx hgb;rw[hbx] at hgb;simp at hgb
       clear hcc hn0 hfk hacc hfm;go_upto_region 15 with (fail);have hbel6:Below w.heap.size w (W3.setCell ⟨g,off1+n*7+1,none⟩ (.int .i64 ((k:Int)+1))):=hbel.setCell hBg _;have hbx6:aC (W3.setCell ⟨g,off1+n*7+1,none⟩ (.int .i64 ((k:Int)+1))) w.heap.size (fC f) 110:=hbx.setCell_other _ _ (by simpa using hbxg);have hown7:Own (W3.setCell ⟨g,off1+n*7+1,none⟩ (.int .i64 ((k:Int)+1))) w.heap.size 99 7 (.slice (some ⟨g,off1,none⟩) acc.length cu) (kN f (k+1)).length ((kN f (k+1)).flatMap mF):=by rw[hst.out,hse.out,bI];exact hset
       clear hset hown hbel hbx hfz hc1 hgb hcx;go_wp2;go_roundw
       case rel=>exact⟨k+1,by omega,by go_num,hbel6,hbx6,hown7⟩
       case measure=>simp[intOf];omega
      have hBf:B=false:=by simpa using hB
      subst hBf;have hst:Hid (kN f (k+1)=acc++[fu k p]):=Lib.hid (by rw[BU hfk hstp.out,hacc]);clear hfk hacc hfm hB;go_upto_region 14 with (fail)
      go_wp2_with (at_builtin;refine eH rfl _ _ 50 rfl w.heap.size 99 _ 7 40 underlying50 area_info rfl (by decide) _ acc.length (acc.flatMap mF) rfl (hown.alloc _) (some ⟨W3.heap.size,0,none⟩) 1 1 (mF (fu k p)) rfl (fun h=>(by cases h)) (ay _) rfl (dN.new _ (nR (fu k p)) _) (fun u hu=>qA [fu k p] u (by simpa using hu)) (by unfold maxLen;omega) (by omega) (bV hbel.size _) ?_)
      intro v W6 hown6 hgr6;have hbel6:Below w.heap.size w W6:=(hbel.alloc hbel.size _).grown hgr6 (bV hbel.size _) (hown.alloc (.cells (nR (fu k p)) 99)).ge;have hbx6:aC W6 w.heap.size (fC f) 110:=jY (hbx.alloc (.cells (nR (fu k p)) 99)) (hown.alloc (.cells (nR (fu k p)) 99)) (by decide) hgr6;have hown7:Own W6 w.heap.size 99 7 v (kN f (k+1)).length ((kN f (k+1)).flatMap mF):=by rw[hst.out,eT,jG];simpa using hown6
      clear hown6 hgr6;go_wp2;go_roundw
      case rel=>exact⟨k+1,by omega,by go_num,hbel6,hbx6,hown7⟩
      case measure=>simp[intOf];omega
     have hbx:=hbx2;have hown:=hown2;clear hbx2 hown2;have hfi' : ¬0≤p.fi:=hfi;have hE:=RO q p B (hN0 hfi');go_upto_region 12 with (first | (refine ax _ _ rfl _ 0 rfl rfl _ hy2.rd _ underlying109 rfl one_size ?_) | (refine ax _ _ rfl _ 0 rfl rfl _ hx2.rd _ underlying109 rfl one_size ?_) | (refine uW rfl _ _ _ _ rfl _ _ rfl rfl _ (hE _ _ _) ?_));clear hE hy2;have hcx:=hx2.cell
     by_cases hB:B=true
     ·subst hB;have hst:=Lib.hid (Ri hfk hstp.out);rw[hacc] at hst;have hne:0<acc.length:=by have:=PX f hfm;rw[←hmm.out,hacc] at this;exact this
      obtain⟨n,hn0⟩:∃n,acc.length=n+1:=⟨acc.length-1,by omega⟩;have hna:n<acc.length:=by omega
      have hse:Hid (wm acc ((k:Int)+1)=acc.set n { acc[n] with en:=(k:Int)+1 }):=Lib.hid (Km hn0 _);have hni:(n:Int)<(acc.length:Int):=by omega
      have hwn:IntKind.i64.wrap ((acc.length:Int)-1)=(n:Int):=by rw[bJ _ (by omega)];omega
      obtain⟨g,off1,cap1,hv1,hBg,hgl,⟨csg,hgb⟩,hcc,hfz,hset⟩:=wD su (by decide) rfl hown n hna 1 (by decide) (.int .i64 ((k:Int)+1)) { acc[n] with en:=(k:Int)+1 } rfl;cases hv1;have hc1:=hcc 1 _ rfl;have hbxg:w.heap.size≠g:=by intro e;subst e;unfold aC at hbx hgb;rw[hbx] at hgb;simp at hgb
      clear hcc hn0 hfk hacc hfm;go_upto_region 15 with (fail);have hbel6:Below w.heap.size w (W2.setCell ⟨g,off1+n*7+1,none⟩ (.int .i64 ((k:Int)+1))):=hbel.setCell hBg _;have hbx6:aC (W2.setCell ⟨g,off1+n*7+1,none⟩ (.int .i64 ((k:Int)+1))) w.heap.size (fC f) 110:=hbx.setCell_other _ _ (by simpa using hbxg);have hown7:Own (W2.setCell ⟨g,off1+n*7+1,none⟩ (.int .i64 ((k:Int)+1))) w.heap.size 99 7 (.slice (some ⟨g,off1,none⟩) acc.length cu) (kN f (k+1)).length ((kN f (k+1)).flatMap mF):=by rw[hst.out,hse.out,bI];exact hset
      clear hset hown hbel hbx hfz hc1 hgb hcx;go_wp2;go_roundw
      case rel=>exact⟨k+1,by omega,by go_num,hbel6,hbx6,hown7⟩
      case measure=>simp[intOf];omega
     have hBf:B=false:=by simpa using hB
     subst hBf;have hst:Hid (kN f (k+1)=acc++[fu k p]):=Lib.hid (by rw[BU hfk hstp.out,hacc]);clear hfk hacc hfm hB;go_upto_region 14 with (fail)
     go_wp2_with (at_builtin;refine eH rfl _ _ 50 rfl w.heap.size 99 _ 7 40 underlying50 area_info rfl (by decide) _ acc.length (acc.flatMap mF) rfl (hown.alloc _) (some ⟨W2.heap.size,0,none⟩) 1 1 (mF (fu k p)) rfl (fun h=>(by cases h)) (ay _) rfl (dN.new _ (nR (fu k p)) _) (fun u hu=>qA [fu k p] u (by simpa using hu)) (by unfold maxLen;omega) (by omega) (bV hbel.size _) ?_)
     intro v W6 hown6 hgr6;have hbel6:Below w.heap.size w W6:=(hbel.alloc hbel.size _).grown hgr6 (bV hbel.size _) (hown.alloc (.cells (nR (fu k p)) 99)).ge;have hbx6:aC W6 w.heap.size (fC f) 110:=jY (hbx.alloc (.cells (nR (fu k p)) 99)) (hown.alloc (.cells (nR (fu k p)) 99)) (by decide) hgr6;have hown7:Own W6 w.heap.size 99 7 v (kN f (k+1)).length ((kN f (k+1)).flatMap mF):=by rw[hst.out,eT,jG];simpa using hown6
     clear hown6 hgr6;go_wp2;go_roundw
     case rel=>exact⟨k+1,by omega,by go_num,hbel6,hbx6,hown7⟩
     case measure=>simp[intOf];omega
  have hk64:k=64:=by omega
  subst hk64;go_wp2;go_ret;exact⟨_,rfl,hown,hbel⟩
theorem PY {a b:Ar} (ha:aP a=0) (hb:aP b=0) (h:a.en≤b.fr):(kN (cz [a,b]) 64).length=if dz a b=true then 1 else 2:=by
 have hs:srtF 0 [a,b]:=⟨ha,(bC ha).1.2.1.1,hb,h,trivial⟩;have e:kN (cz [a,b]) 64=sj [a,b]:=KC (Gm hs) fun i _=>by rw[qX hs,Iw hs]
 rw[e,yw];unfold sZ;split<;>rfl
theorem TD (f:Nat→Option Pg) (m:List Ar) (hm:okF none m) (hf:∀i:Nat,i<64→f i=onA m i) (hf' : ∀i p,f i=some p→0≤p.pg∧p.pg≤100) (w:World) :
  Calls Tryz.prog 104 #[.agg (fC f)] w fun r w' => ∃v,r = .returned (.tuple #[v,.int .i64 (DL m.length)])∧Own w' w.heap.size 99 7 v (if 16<m.length then [] else m).length ((if 16<m.length then [] else m).flatMap mF)∧Below w.heap.size w w':=by
 have hs384:=Lib.hid (jr f);have hl64:=HY f 64;rw[KC hm hf] at hl64;go_enter func104,ntmps104;go_upto_region 1 with (fail);refine gI (fun W=>Code.wp _ _ _ _ W) fun W0 hb0 hx0 hs0 => ?_;clear hs0
 go_wp2_with (refine ax _ _ rfl _ 0 rfl rfl _ hx0.rd _ underlying110 rfl (by rw[iC,hs384.out];exact ones_size) ?_)
 refine (Ba f _ hf').mono ?_;rintro r w1 ⟨v1,rfl,hO1,hb1⟩;rw[KC hm hf] at hO1;have hbel:=ae hb0 hb1;replace hO1:=hO1.mono hb0.size;obtain⟨a1,c1,rfl,_⟩:=hO1.rd;clear hb0 hx0 hb1
 by_cases h:16<m.length
 ·have hi:(16:Int)<(m.length:Int):=by omega
  have hd:Hid (DL m.length=4):=Lib.hid (by unfold DL;rw[if_pos h]);go_wp2;go_ret2;exact⟨.slice none 0 0,by first | (rw[hd.out];done) | (rw[hd.out];rfl),by first | exact Own.nil _ _ _ _ | (rw[if_pos h];exact Own.nil _ _ _ _),hbel⟩
 have hi:¬(16:Int)<(m.length:Int):=by omega
 have hd:Hid (DL m.length=0):=Lib.hid (by unfold DL;rw[if_neg h]);go_wp2;go_ret2;exact⟨.slice a1 m.length c1,by first | (rw[hd.out];done) | (rw[hd.out];rfl),by first | exact hO1 | (rw[if_neg h];exact hO1),hbel⟩
theorem xG {l:Operand} (ho:o.op = .slice t x (some l) (some h) none) (hx:ρ x = .slice (some ⟨b,off,none⟩) n c) (hl:ρ l = .int .i64 O) (hh:ρ h = .int .i64 ((O:Int)+2))
 (ht:P.underlying t=some (.slice (P.elem t))) (hs:(P.info? (P.elem t)).map (·.size)=some sz) (hO:O+1<n) (hn:n≤c) :
  (execOp ρ o).run P w = .ok (.value (.slice (some ⟨b,off+O*sz,none⟩) 2 (c-O))) w:=by
 have hsz:(Go.sizeOf (P.elem t)).run P w = .ok sz w:=by
  cases hq:P.info? (P.elem t) with
  | none=>simp[hq] at hs
  | some i=>
   have hz:i.size=sz:=by simpa[hq] using hs
   simp[Go.sizeOf,typeInfo,run_program,hq,hz]
 unfold execOp;simp only[ho,hx,hl,hh,Option.map];rw[ko,run_sliceAt_slice w t _ _ _ _ ht,run_slice_lh w t _ n c ht .i64 .i64 O (O+2) (by omega) (by omega) (by omega),hsz];have e1:((O:Int)+2).toNat-(O:Int).toNat=2:=by omega
 have e2:((O:Int)+2).toNat-O=2:=by omega
 simp[sliced,e1,e2,Addr.add,show ¬c=O by omega,go_sem]
theorem Vp {l:List Ar} (h:dN w (some ⟨b,off,none⟩) (l.flatMap mF)) {m:Nat} (hm:m+1<l.length):dN w (some ⟨b,off+m*7,none⟩) ([l[m],l[m+1]].flatMap mF):=by
 have h1:=DX h m (by omega);have h2:=DX h (m+1) hm;intro j u hj;refine⟨b,off+m*7,rfl,?_⟩;simp only[lZ,Gw,mO] at hj
 by_cases c:j<7
 ·rw[kV (by rw[su];exact c)] at hj;exact h1 j u hj
 rw[kI (by rw[su];omega),su] at hj;have:=h2 _ u hj;rwa [show off+(m+1)*7+(j-7)=off+m*7+j by omega] at this
theorem CY (l:List Ar) (a:Option Addr) (c:Nat) (w:World) (h:Vu w a c l) :
  Calls Tryz.prog 85 #[.slice a l.length c] w fun e w'=>e = .returned (.agg (JZ (bG l)))∧Below w.heap.size w w':=by
 have hlc:=h.le;have hlm:=aX h.le h.mx;unfold maxLen at hlm;have hrd:=h.rd;go_enter func85,ntmps85;go_upto_region 1 with (fail);refine gI (fun W=>Code.wp _ _ _ _ W) fun W0 hbel hres hs0 => ?_;clear hs0
 by_cases h16:16<l.length
 ·have h16' : (16:Int)<(l.length:Int):=by omega
  have hz:Hid (bG l=(4,0)):=Lib.hid (by unfold bG;rw[if_pos h16])
  go_wp2_with (refine az rfl _ _ _ rfl w.heap.size #[.int .i64 (4),.int .i64 (0)] rfl rfl _ _ hres rfl fau_size (mG _ _) ?_)
  intro w5 hr5 hgr5;have hbel5:Below w.heap.size w w5:=hbel.grown hgr5 hbel.size (fun k hk=>by cases hk;exact ay _);go_wp2;refine bodyPost_ret (v:=.agg #[.int .i64 (4),.int .i64 (0)]) (eu results85 _ _ w.heap.size _ _ _ rfl hr5 underlying150 rfl fau_size) rfl ?_;exact⟨by rw[hz.out];rfl,hbel5⟩
 have h16' : ¬(16:Int)<(l.length:Int):=by omega
 have h0:Hid (bG l=jb (pI l 0) 0 (l.drop 0)):=Lib.hid (by unfold bG;rw[if_neg h16];rfl);go_upto_region 4 with (fail)
 go_loopw [12] (fun i wr => ∃k:Nat,k≤l.length∧i = .int .i64 k∧Below w.heap.size w wr∧aC wr w.heap.size #[.int .i64 0,.int .i64 0] 150∧(∀i (h:i<l.length),i<k→aP l[i]=0)∧Hid (bG l=jb (pI l k) k (l.drop k))) (fun i _=>l.length-(intOf i).toNat)
 case atStart=>exact⟨0,aS _,rfl,hbel,hres,fun i _ h=>absurd h (dO _),h0⟩
 case round=>
  clear hbel hres h0;obtain⟨k,hk,rfl,hbel,hres,hp0,hst⟩:=hrel;have hp:=Lib.hid hp0;clear hp0
  by_cases hlt:k<l.length
  ·obtain⟨b,off,rfl,c0,c1,c2,c3,c4,c5,c6⟩:=Mf (hrd.below hbel) k hlt;have hki:(k:Int)<(l.length:Int):=by omega
   go_upto_region 6 with (fail);refine gI (fun W=>Code.wp _ _ _ _ W) fun W1 hb1 hx1 hs1 => ?_;have hbel:=ae hbel hb1;have hres:=hres.ext hb1;clear hs1 hb1 c0 c1 c2 c3 c4 c5 c6;obtain⟨gx,hgx⟩:∃g,g=wr.heap.size:=⟨_,rfl⟩;rw[←hgx] at hx1 ⊢;clear hgx
   go_wp2_with (refine ax _ _ rfl _ 0 rfl rfl _ hx1.rd _ underlying99 rfl area_size ?_)
   refine (EM l[k] _).mono ?_;rintro r w2 ⟨rfl,hb2⟩;have hbel2:=ae hbel hb2;have hres2:=hres.ext hb2;have hx2:=hx1.ext hb2;clear hbel hres hb2 hx1
   by_cases he:aP l[k]=0
   ·have he':=Lib.hid he;rw[he];clear he;go_upto_region 9 with (fail)
    by_cases hk0:k=0
    ·subst hk0;have hd0:decide ((0:Int)<((0:Nat):Int))=false:=rfl;have hnx:Hid (bG l=jb (pI l (0+1)) (0+1) (l.drop (0+1))):=Lib.hid (by rw[hst.out];exact uI hlt he'.out rfl);go_quiet (fail);go_wp2;go_roundw
     case rel=>exact⟨0+1,by omega,by go_num,below_drewN hbel2 _,hres2.drewN _,lH hp.out hlt he'.out,hnx⟩
     case measure=>simp[intOf];omega
    obtain⟨m,rfl⟩:∃m,k=m+1:=⟨k-1,by omega⟩;have hm1:IntKind.i64.wrap (((m+1:Nat):Int)-1)=(m:Int):=by rw[bJ _ (by omega)];omega
    have hml:m<l.length:=by omega
    have hm2:IntKind.i64.wrap (m:Int)=(m:Int):=bJ _ (by omega);have hm3:IntKind.i64.wrap ((m:Int)+1+1)=(m:Int)+2:=by rw[bJ _ (by omega)];omega
    have hm4:IntKind.i64.wrap (((m+1:Nat):Int)+1)=(m:Int)+2:=by rw[bJ _ (by omega)];omega
    have hbp:=Lib.hid (JV hlt);have hE0:=hp.out m hml (by omega);have hRd:=hrd.below hbel2;have hPm:=DX hRd m hml;have hT:=Vp hrd hlt;have hpr:∀x∈[l[m],l[m+1]],aP x=0:=fun x hx=>by
     rcases bY.1 hx with rfl|hx
     ·exact hE0
     ·rw[bq.1 hx];exact he'.out
    have hup:Hid (∀i (h:i<l.length),i<m+1+1→aP l[i]=0):=Lib.hid (lH hp.out hlt he'.out);generalize hA1:l[m+1]=A1 at *
    generalize hA0:l[m]=A0 at *
    by_cases hov:A1.fr<A0.en
    ·have hz:Hid (bG l=(2,((m+1:Nat):Int))):=Lib.hid (by rw[hst.out];exact uH hlt (by rw[hA1];exact he'.out) (by rw[hA1,hbp.out,decide_eq_true hov];rfl));have hpo:True:=trivial;have hpl:True:=trivial;refine aK 25 [_,_,_,_,_,_,.v (.pointer (some ⟨b,off+m*7,none⟩)),_,.v (.int .i64 A0.en),_,.v (.int .i64 A1.fr),_,_,_,_,_,_,_,_,_,_,_,_,_,.v (.bool true)] (Gk rfl (Gb (.bool true) (by simp[go_sem]) rfl rfl rfl rfl rfl (Gk rfl (Gk rfl (Gk rfl (Gb (.int .i64 (m:Int)) (by simp[go_sem,hm1,hm2]) rfl rfl rfl rfl rfl (ag ?_ (Gf b (off+m*7+1) rfl rfl (ag ?_ (Gf gx 0 rfl rfl (ag ?_ (Gb (.bool true) (by simp[go_sem,hov]) rfl rfl rfl rfl rfl (Gk rfl (Gk rfl (Gk rfl (Gk rfl (Gk rfl (Gk rfl (Gk rfl (Gk rfl (Gk rfl (Gk rfl (Gk rfl (Gk rfl (Gk rfl (aB)))))))))))))))))))))))))) (fun _=>rfl) rfl ?_
     ·intro ρ y W hw hn hb hd;have E27:=hw 27 3 rfl;have h3:y 3=_:=hd 3 rfl;have E29:=hw 29 5 rfl;have h5:y 5=_:=hd 5 rfl;refine aj (.pointer (some ⟨b,off+m*7,none⟩)) (aY 2 26 true true rfl rfl ((hw 26 2 rfl).trans (hd 2 rfl))) (by simp[execOp,go_sem,E27,h3,E29,h5,hml]) rfl
     ·intro ρ y W hw hn hb hd;have E31:=hw 31 7 rfl;have h7:y 7=_:=hd 7 rfl;have hc0:=(hPm.below hb).cells.2.1;refine aj (.int .i64 A0.en) (aY 2 26 true true rfl rfl ((hw 26 2 rfl).trans (hd 2 rfl))) (by simp[execOp,go_sem,E31,h7,hc0]) rfl
     ·intro ρ y W hw hn hb hd;have E33:=hw 33 9 rfl;have h9:y 9=_:=hd 9 rfl;have hc0:=(hx2.ext hb).cell 0;simp at hc0;refine aj (.int .i64 A1.fr) (aY 2 26 true true rfl rfl ((hw 26 2 rfl).trans (hd 2 rfl))) (by simp[execOp,go_sem,E33,h9,hc0]) rfl
     intro y WA hbWA _;have hbel:=ae hbel2 hbWA;have hres:=hres2.ext hbWA;clear hbel2 hres2
     go_wp2_with (refine az rfl _ _ _ rfl w.heap.size #[.int .i64 (2),.int .i64 (((m+1:Nat):Int))] rfl rfl _ _ hres rfl fau_size (mG _ _) ?_)
     intro w5 hr5 hgr5;have hbel5:Below w.heap.size w w5:=hbel.grown hgr5 hbel.size (fun k hk=>by cases hk;exact ay _);go_wp2;refine bodyPost_ret (v:=.agg #[.int .i64 (2),.int .i64 (((m+1:Nat):Int))]) (eu results85 _ _ w.heap.size _ _ _ rfl hr5 underlying150 rfl fau_size) rfl ?_;exact⟨by rw[hz.out];rfl,hbel5⟩
    have hs:srtF 0 [A0,A1]:=⟨hE0,(bC hE0).1.2.1.1,he'.out,by omega,trivial⟩;have hpo:=JE hs;have hpl0:=PY hE0 he'.out (by omega:A0.en≤A1.fr);cases hj:dz A0 A1
    ·have hpl:(kN (cz [A0,A1]) 64).length=2:=by rw[hpl0,hj];rfl
     have hnx:Hid (bG l=jb (pI l (m+1+1)) (m+1+1) (l.drop (m+1+1))):=Lib.hid (by rw[hst.out];exact uI hlt (by rw[hA1];exact he'.out) (by rw[hA1,hbp.out,decide_eq_false hov,hj];rfl));clear hpl0 hs;refine aK 25 [_,_,_,_,_,_,.v (.pointer (some ⟨b,off+m*7,none⟩)),_,.v (.int .i64 A0.en),_,.v (.int .i64 A1.fr),_,_,_,_,_,_,_,_,.v (.agg (fC (cz [A0,A1]))),.r 20 ((oq w.heap.size 99 7 (kN (cz [A0,A1]) 64).length ((kN (cz [A0,A1]) 64).flatMap mF))),.v (.int .i64 (2)),_,_,.v (.bool false)] (Gk rfl (Gb (.bool true) (by simp[go_sem]) rfl rfl rfl rfl rfl (Gk rfl (Gk rfl (Gk rfl (Gb (.int .i64 (m:Int)) (by simp[go_sem,hm1,hm2]) rfl rfl rfl rfl rfl (ag ?_ (Gf b (off+m*7+1) rfl rfl (ag ?_ (Gf gx 0 rfl rfl (ag ?_ (Gb (.bool false) (by simp[go_sem,hov]) rfl rfl rfl rfl rfl (Gk rfl (Gk rfl (Gk rfl (Gb (.int .i64 (m:Int)) (by simp[go_sem,hm1,hm2]) rfl rfl rfl rfl rfl (Gk rfl (Gb (.int .i64 ((m:Int)+2)) (by simp[go_sem,hm3,hm4]) rfl rfl rfl rfl rfl (Gr (.slice (some ⟨b,off+m*7,none⟩) 2 (c-m)) (fun ρ y W hb hKn=>(xG rfl (aD rfl hKn) (aD rfl hKn) (aD rfl hKn) underlying50 area_size hlt hlc)) rfl rfl (ag ?_ (ag ?_ (ag ?_ (Gb (.bool false) (by simp[go_sem]) rfl rfl rfl rfl rfl (Gk rfl (Gk rfl (aB)))))))))))))))))))))))))) (fun _=>rfl) rfl ?_
     ·intro ρ y W hw hn hb hd;have E27:=hw 27 3 rfl;have h3:y 3=_:=hd 3 rfl;have E29:=hw 29 5 rfl;have h5:y 5=_:=hd 5 rfl;refine aj (.pointer (some ⟨b,off+m*7,none⟩)) (aY 2 26 true true rfl rfl ((hw 26 2 rfl).trans (hd 2 rfl))) (by simp[execOp,go_sem,E27,h3,E29,h5,hml]) rfl
     ·intro ρ y W hw hn hb hd;have E31:=hw 31 7 rfl;have h7:y 7=_:=hd 7 rfl;have hc0:=(hPm.below hb).cells.2.1;refine aj (.int .i64 A0.en) (aY 2 26 true true rfl rfl ((hw 26 2 rfl).trans (hd 2 rfl))) (by simp[execOp,go_sem,E31,h7,hc0]) rfl
     ·intro ρ y W hw hn hb hd;have E33:=hw 33 9 rfl;have h9:y 9=_:=hd 9 rfl;have hc0:=(hx2.ext hb).cell 0;simp at hc0;refine aj (.int .i64 A1.fr) (aY 2 26 true true rfl rfl ((hw 26 2 rfl).trans (hd 2 rfl))) (by simp[execOp,go_sem,E33,h9,hc0]) rfl
     ·intro ρ y W hw hn hb hd;have E42:=hw 42 18 rfl;have h18:y 18=_:=hd 18 rfl;have EF:∀f,ρ (.func f) = .func (.func f) #[] #[]:=fun f=>hn (.func f) trivial;refine aO _ _ (aY 12 36 false false rfl rfl ((hw 36 12 rfl).trans (hd 12 rfl))) (aQ rfl (EF _) func49 (by kernel_rfl) (by kernel_rfl) (by simp only[bP,bM,bN,E42,h18,EF];rfl)) ?_;refine (qG [A0,A1] _ (c-m) W (hT.below (ae hbel2 hb)) (by simp) hpr).mono ?_;rintro r w1 ⟨rfl,hb1⟩;exact⟨_,rfl,hb1,rfl⟩
     ·intro ρ y W hw hn hb hd;have E43:=hw 43 19 rfl;have h19:y 19=_:=hd 19 rfl;have EF:∀f,ρ (.func f) = .func (.func f) #[] #[]:=fun f=>hn (.func f) trivial;refine aO _ _ (aY 12 36 false false rfl rfl ((hw 36 12 rfl).trans (hd 12 rfl))) (aQ rfl (EF _) func123 (by kernel_rfl) (by kernel_rfl) (by simp only[bP,bM,bN,E43,h19,EF];rfl)) ?_;refine (Ba (cz [A0,A1]) W hpo).mono ?_;rintro r w1 ⟨v1,rfl,ho,hb1⟩;exact⟨v1,rfl,hb1,ho.mono (aX hbel2.size hb.size)⟩
     ·intro ρ y W hw hn hb hd;have E44:=hw 44 20 rfl;have h20:=hd 20 rfl;obtain⟨a20,c20,h20v,_⟩:=Own.rd h20;refine aj (.int .i64 (2)) (aY 12 36 false false rfl rfl ((hw 36 12 rfl).trans (hd 12 rfl))) (by simp[execOp,go_sem,E44,h20v,hpl]) rfl
     intro y WA hbWA hRWA;have hy20:((oq w.heap.size 99 7 (kN (cz [A0,A1]) 64).length ((kN (cz [A0,A1]) 64).flatMap mF))).r (y 20) WA:=hRWA 20 (by decide);clear hRWA;have hbel:=ae hbel2 hbWA;have hres:=hres2.ext hbWA;clear hbel2 hres2 hm1 hm2 hm3 hm4 hpl;go_wp2;go_roundw
     case rel=>exact⟨m+1+1,by omega,by go_num,hbel,hres,hup.out,hnx⟩
     case measure=>simp[intOf];omega
    have hpl:(kN (cz [A0,A1]) 64).length=1:=by rw[hpl0,hj];rfl
    have hz:Hid (bG l=(2,((m+1:Nat):Int))):=Lib.hid (by rw[hst.out];exact uH hlt (by rw[hA1];exact he'.out) (by rw[hA1,hbp.out,hj,Ir]));clear hpl0 hs;refine aK 25 [_,_,_,_,_,_,.v (.pointer (some ⟨b,off+m*7,none⟩)),_,.v (.int .i64 A0.en),_,.v (.int .i64 A1.fr),_,_,_,_,_,_,_,_,.v (.agg (fC (cz [A0,A1]))),.r 20 ((oq w.heap.size 99 7 (kN (cz [A0,A1]) 64).length ((kN (cz [A0,A1]) 64).flatMap mF))),.v (.int .i64 (1)),_,_,.v (.bool true)] (Gk rfl (Gb (.bool true) (by simp[go_sem]) rfl rfl rfl rfl rfl (Gk rfl (Gk rfl (Gk rfl (Gb (.int .i64 (m:Int)) (by simp[go_sem,hm1,hm2]) rfl rfl rfl rfl rfl (ag ?_ (Gf b (off+m*7+1) rfl rfl (ag ?_ (Gf gx 0 rfl rfl (ag ?_ (Gb (.bool false) (by simp[go_sem,hov]) rfl rfl rfl rfl rfl (Gk rfl (Gk rfl (Gk rfl (Gb (.int .i64 (m:Int)) (by simp[go_sem,hm1,hm2]) rfl rfl rfl rfl rfl (Gk rfl (Gb (.int .i64 ((m:Int)+2)) (by simp[go_sem,hm3,hm4]) rfl rfl rfl rfl rfl (Gr (.slice (some ⟨b,off+m*7,none⟩) 2 (c-m)) (fun ρ y W hb hKn=>(xG rfl (aD rfl hKn) (aD rfl hKn) (aD rfl hKn) underlying50 area_size hlt hlc)) rfl rfl (ag ?_ (ag ?_ (ag ?_ (Gb (.bool true) (by simp[go_sem]) rfl rfl rfl rfl rfl (Gk rfl (Gk rfl (aB)))))))))))))))))))))))))) (fun _=>rfl) rfl ?_
    ·intro ρ y W hw hn hb hd;have E27:=hw 27 3 rfl;have h3:y 3=_:=hd 3 rfl;have E29:=hw 29 5 rfl;have h5:y 5=_:=hd 5 rfl;refine aj (.pointer (some ⟨b,off+m*7,none⟩)) (aY 2 26 true true rfl rfl ((hw 26 2 rfl).trans (hd 2 rfl))) (by simp[execOp,go_sem,E27,h3,E29,h5,hml]) rfl
    ·intro ρ y W hw hn hb hd;have E31:=hw 31 7 rfl;have h7:y 7=_:=hd 7 rfl;have hc0:=(hPm.below hb).cells.2.1;refine aj (.int .i64 A0.en) (aY 2 26 true true rfl rfl ((hw 26 2 rfl).trans (hd 2 rfl))) (by simp[execOp,go_sem,E31,h7,hc0]) rfl
    ·intro ρ y W hw hn hb hd;have E33:=hw 33 9 rfl;have h9:y 9=_:=hd 9 rfl;have hc0:=(hx2.ext hb).cell 0;simp at hc0;refine aj (.int .i64 A1.fr) (aY 2 26 true true rfl rfl ((hw 26 2 rfl).trans (hd 2 rfl))) (by simp[execOp,go_sem,E33,h9,hc0]) rfl
    ·intro ρ y W hw hn hb hd;have E42:=hw 42 18 rfl;have h18:y 18=_:=hd 18 rfl;have EF:∀f,ρ (.func f) = .func (.func f) #[] #[]:=fun f=>hn (.func f) trivial;refine aO _ _ (aY 12 36 false false rfl rfl ((hw 36 12 rfl).trans (hd 12 rfl))) (aQ rfl (EF _) func49 (by kernel_rfl) (by kernel_rfl) (by simp only[bP,bM,bN,E42,h18,EF];rfl)) ?_;refine (qG [A0,A1] _ (c-m) W (hT.below (ae hbel2 hb)) (by simp) hpr).mono ?_;rintro r w1 ⟨rfl,hb1⟩;exact⟨_,rfl,hb1,rfl⟩
    ·intro ρ y W hw hn hb hd;have E43:=hw 43 19 rfl;have h19:y 19=_:=hd 19 rfl;have EF:∀f,ρ (.func f) = .func (.func f) #[] #[]:=fun f=>hn (.func f) trivial;refine aO _ _ (aY 12 36 false false rfl rfl ((hw 36 12 rfl).trans (hd 12 rfl))) (aQ rfl (EF _) func123 (by kernel_rfl) (by kernel_rfl) (by simp only[bP,bM,bN,E43,h19,EF];rfl)) ?_;refine (Ba (cz [A0,A1]) W hpo).mono ?_;rintro r w1 ⟨v1,rfl,ho,hb1⟩;exact⟨v1,rfl,hb1,ho.mono (aX hbel2.size hb.size)⟩
    ·intro ρ y W hw hn hb hd;have E44:=hw 44 20 rfl;have h20:=hd 20 rfl;obtain⟨a20,c20,h20v,_⟩:=Own.rd h20;refine aj (.int .i64 (1)) (aY 12 36 false false rfl rfl ((hw 36 12 rfl).trans (hd 12 rfl))) (by simp[execOp,go_sem,E44,h20v,hpl]) rfl
    intro y WA hbWA hRWA;have hy20:((oq w.heap.size 99 7 (kN (cz [A0,A1]) 64).length ((kN (cz [A0,A1]) 64).flatMap mF))).r (y 20) WA:=hRWA 20 (by decide);clear hRWA;have hbel:=ae hbel2 hbWA;have hres:=hres2.ext hbWA;clear hbel2 hres2
    go_wp2_with (refine az rfl _ _ _ rfl w.heap.size #[.int .i64 (2),.int .i64 (((m+1:Nat):Int))] rfl rfl _ _ hres rfl fau_size (mG _ _) ?_)
    intro w5 hr5 hgr5;have hbel5:Below w.heap.size w w5:=hbel.grown hgr5 hbel.size (fun k hk=>by cases hk;exact ay _);go_wp2;refine bodyPost_ret (v:=.agg #[.int .i64 (2),.int .i64 (((m+1:Nat):Int))]) (eu results85 _ _ w.heap.size _ _ _ rfl hr5 underlying150 rfl fau_size) rfl ?_;exact⟨by rw[hz.out];rfl,hbel5⟩
   have hz:Hid (bG l=(aP l[k],(k:Int))):=Lib.hid (by rw[hst.out];exact Fw hlt he);have he' : (aP l[k] != 0)=true:=by simpa using he
   have hbel:=hbel2;have hres:=hres2;clear he hbel2 hres2
   go_wp2_with (refine az rfl _ _ _ rfl w.heap.size #[.int .i64 (aP l[k]),.int .i64 (k)] rfl rfl _ _ hres rfl fau_size (mG _ _) ?_)
   intro w5 hr5 hgr5;have hbel5:Below w.heap.size w w5:=hbel.grown hgr5 hbel.size (fun k hk=>by cases hk;exact ay _);go_wp2;refine bodyPost_ret (v:=.agg #[.int .i64 (aP l[k]),.int .i64 (k)]) (eu results85 _ _ w.heap.size _ _ _ rfl hr5 underlying150 rfl fau_size) rfl ?_;exact⟨by rw[hz.out];rfl,hbel5⟩
  have hz:Hid (bG l=(0,0)):=Lib.hid (by rw[hst.out,pV (by omega)];rfl)
  go_wp2_with (refine az rfl _ _ _ rfl w.heap.size #[.int .i64 (0),.int .i64 (0)] rfl rfl _ _ hres rfl fau_size (mG _ _) ?_)
  intro w5 hr5 hgr5;have hbel5:Below w.heap.size w w5:=hbel.grown hgr5 hbel.size (fun k hk=>by cases hk;exact ay _);go_wp2;refine bodyPost_ret (v:=.agg #[.int .i64 (0),.int .i64 (0)]) (eu results85 _ _ w.heap.size _ _ _ rfl hr5 underlying150 rfl fau_size) rfl ?_;exact⟨by rw[hz.out];rfl,hbel5⟩
end Go.Proofs.YtjkkoeijlhfneaaGreat