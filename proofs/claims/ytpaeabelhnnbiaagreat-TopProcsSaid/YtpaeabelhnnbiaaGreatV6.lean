import Derived.Test.YtpaeabelhnnbiaaGreatV5
import Derived.Deep.QuietTactic
import Derived.BigQuiet
set_option linter.unusedSimpArgs false
set_option linter.unusedVariables false
set_option maxHeartbeats 4000000
set_option maxRecDepth 100000
namespace Go.Proofs.YtpaeabelhnnbiaaGreat
open _root_.Go.Proofs.Tryz
open Go.RowKit Go.Maps Pw
variable {B B' F I b c cap cl ct f gc gl gp i j k p q:Nat} {H:MH} {M m m':Ma} {P:Program} {PP:PS} {T:TypeId} {a al:Option Addr} {cs:Array Value} {g:Pg} {n:Int} {s:St} {u:Value} {vs:List Value} {w w' w1 w2:World}
theorem Rn (h:Pt m) (p:Nat) (n:Int):rG (jo m p n):=by
 unfold jo;rw[bJ];cases e:(bE m p).ar[(eQ (bE m p).ar n).toNat]? with
 | none=>show rG zAr;unfold rG;decide
 | some a=>exact (gu ((qO (h.arN p)).2 a (dn e))).1
theorem MN (H:MH) (e n:Int) (p:Nat) (g:Pg) (ga:Nat) (B b:Nat) (w:World) (h:iJ w B b H e) (hR:Rt H.ma) (hC:Co H.ma) (hA:aJ w ga (kQ (jo H.ma p n)) 143) (hp:p<H.sp.length) (hg:dQ H.ma p n=some g) (hin:0≤g.fi→(aF H.ma p n).k=0→ni H.ma.st g.fi g.pg) :
  Calls Tryz.prog 165 #[.pointer (some ⟨b,0,none⟩),.int .i64 p,.int .i64 n,.pointer (some ⟨ga,0,none⟩)] w fun r w'=>r = .returned (.int .i64 (gz ⟨H.ma,e⟩ p n (jo H.ma p n)).2)∧KR w B b H w' (gz ⟨H.ma,e⟩ p n (jo H.ma p n)).1:=by
 have hz:=tC hR;have km:H.sp.length≤1000:=by have:=hz.sp.1;rwa [pI] at this
 have kl:H.ca.length≤1000:=hz.ca;have kk:H.m.fs.length≤1000:=hz.fs;clear hz;obtain⟨g1,g2,g3,g4,g5,g6,g7⟩:=vD hg;have hS:=hR.pt.pg hg;have kH:=ae (Rn hR.pt p n);obtain⟨P,hP⟩:∃P,H.sp[p]?=some P:=⟨_,aN hp⟩;have gb:=ae (nT hP);have k9:Hid ((aF H.ma p n).k=2→aK H.sw (aF H.ma p n).n=0):=ae (fun k2=>by obtain⟨g0,gE,kF⟩:=hR.en p n (by rw[k2];decide);have h1:=(kF.sw k2).1;have h2:=(cz _).1 (jL hR.pt p n);have h3:=hR.pt.swl;exact iV.2 ⟨hR.pt.sw,by omega,by show _<(H.ma.sw.blocks.length:Int);omega⟩);generalize hAA:jo H.ma p n=A at *
 obtain⟨gs,off,gg,gc,kx,hy⟩:=h.at hP;have hc:=h.blk.cell;unfold lG at hc;rw[gg] at hc;have gD:(p:Int)<(H.sp.length:Int):=by omega
 have kG:=ae g6;have gy:=ae g4;have gA:=ae g3;have kJ:=ae g7;have kB:=ae hin;have ky:=ae hS;have kg:=ae hR;have gh:=ae hC;have gF:=ae h.bs;clear g1 g2 g3 g4 g5 g6 g7 hin hS hR hC hg hAA;go_enter func165,ntmps165
 go_wp2_with (refine aA _ _ rfl gs (off+p*10+2) rfl rfl _ kx _ underlying112 tab_agg tab_size ?_)
 refine (tV P.tb (rT P.ts) n _ hy.tb).mono ?_;rintro r w1 ⟨rfl,hB⟩;have h1:=h.below hB;have s1:=(KS.refl w b H).below hB;have kO:=hA.ext hB;clear hc gc kx hy;generalize hx:dB P.tb n=x
 go_wp2_with (refine aW rfl _ _ _ rfl (nk x) rfl rfl rfl entry_size (by simp[nk,Value.oneCell']) ?_)
 intro w2 hJ hl;have h2:=h1.below hJ;have s2:=s1.below hJ;have l:=kO.ext hJ;have gC:=ae (aY hB.size (az w1.heap.size));clear h1 s1 hB hJ h hA kO;have hs:=hl.cell;unfold nk at hs;have kd:Hid (aF H.ma p n=x):=ae (by unfold aF;rw[gb.out];exact hx);have d:=l.cell;unfold kQ at d;clear hx;have t:Hid (gz ⟨H.ma,e⟩ p n A=if x.k=1 then (⟨H.ma,e⟩,x.n) else if x.k=2 then (if aK H.sw x.n≠0 then (⟨H.ma,e⟩,-1) else
   let r:=eP ⟨H.ma,e⟩ (dP H.sw x.n) (-1) 0
   if r.2<0 then (r.1,-1) else
   if bA r.1.m.sl x.n (-1)≠0 then (r.1,-1) else (cZ ⟨{ r.1.m with sl:=aU r.1.m.sl x.n (-1) },r.1.e⟩ p n ⟨1,r.2,A.wr⟩,r.2))
  else if A.fi<0 then WF (eP ⟨H.ma,e⟩ zPg (-1) 0) p n A.wr
  else
   let r:=fw ⟨H.ma,e⟩ A.fi (A.ba+n-A.fr)
   if r.2<0 then r else (cZ (dK r.1 r.2 1) p n ⟨1,r.2,A.sh&&A.wr⟩,r.2)):=ae (by
  unfold gz;simp only[show aF (Kp.m ⟨H.ma,e⟩) p n=x from kd.out];rfl)
 by_cases k1:x.k=1
 ·have hq:Hid (gz ⟨H.ma,e⟩ p n A=(⟨H.ma,e⟩,x.n)):=ae (by rw[t.out,if_pos k1]);rw[k1] at hs;clear t k1;go_wp2;go_ret;rw[hq.out];exact⟨rfl,_,_,h2,s2,rfl⟩
 by_cases k2:x.k=2
 ·have kv:Hid (aK H.sw x.n=0):=ae (by have:=k9.out;rw[kd.out] at this;exact this k2);have hq:Hid (gz ⟨H.ma,e⟩ p n A=(let r:=eP ⟨H.ma,e⟩ (dP H.sw x.n) (-1) 0
   if r.2<0 then (r.1,-1) else
   if bA r.1.m.sl x.n (-1)≠0 then (r.1,-1) else (cZ ⟨{ r.1.m with sl:=aU r.1.m.sl x.n (-1) },r.1.e⟩ p n ⟨1,r.2,A.wr⟩,r.2))):=ae (by rw[t.out,if_neg k1,if_pos k2,if_neg (by rw[kv.out];simp)])
  rw[k2] at hs;clear t k1 k2;obtain⟨Q,hQ⟩:∃Q,Hid (Q=dP H.sw x.n):=⟨_,ae rfl⟩;rw[←hQ.out] at hq;go_upto_region 5 with (fail);refine gI 14 [_,_,_,_,.v (.agg #[.slice H.wb H.sw.blocks.length H.cwb,.slice H.wq H.sw.queue.length H.cwq]),_,_,.v (.tuple #[.agg (gZ Q),.int .i64 0]),_,.v (.agg (gZ Q)),.v (.int .i64 0),.r 11 ((fe w2.heap.size 100 8)),.y 12 ((Jj 11 w2.heap.size 100 (gX (.agg (gZ Q))))),.v (.int .i64 0)] (fun W=>Below w2.heap.size w2 W) bn (Below.refl _ _) (Yk bn rfl (Yk bn rfl (Yf bn b 0 rfl rfl (Yf bn b 3 rfl rfl (aj ?_ (Yf bn w1.heap.size 1 rfl rfl (Yc bn (.int .i64 x.n) (fun W hb=>by simp[(hl.ext hb).cell,nk]) rfl rfl rfl rfl (aj ?_ (Yk bn rfl (aj ?_ (aj ?_ (aj ?_ (aj ?_ (Yk bn rfl (aG))))))))))))))) (fun _=>rfl) rfl ?_
  ·intro ρ y W hw hn hb hd;refine eH bn hb (gX (.agg #[.slice H.wb H.sw.blocks.length H.cwb,.slice H.wq H.sw.queue.length H.cwq])) (fun _ _ h=>h) ?_;have gw:=hw 41 3 rfl;have h3:y 3 = .pointer (some ⟨b,3,none⟩):=hd 3 rfl;refine ak (.agg #[.slice H.wb H.sw.blocks.length H.cwb,.slice H.wq H.sw.queue.length H.cwq]) (ag rfl) (bM rfl (gw.trans h3) (h2.below hb).rdW underlying37 rfl disk_size) rfl
  ·intro ρ y W hw hn hb hd;refine eH bn hb (gX (.tuple #[.agg (gZ Q),.int .i64 0])) (fun _ _ h=>h) ?_;have gv:=hw 42 4 rfl;have h4:y 4 = .agg #[.slice H.wb H.sw.blocks.length H.cwb,.slice H.wq H.sw.queue.length H.cwq]:=hd 4 rfl;have gu:=hw 44 6 rfl;have h6:y 6 = .int .i64 x.n:=hd 6 rfl;have EF:∀f,ρ (.func f) = .func (.func f) #[] #[]:=fun f=>hn (.func f) trivial;refine aL _ _ (ag rfl) (aS rfl (EF _) func170 (by kernel_rfl) (by kernel_rfl) (by simp only[bT,bH,bL,gv,h4,gu,h6,EF];rfl)) ?_;refine (FP H.sw x.n H.wb H.cwb H.wq H.cwq W (h2.below hb).ma.rd.sw).mono ?_;rintro r W3 ⟨rfl,kf⟩;rw[kv.out,←hQ.out];exact⟨_,rfl,kf,rfl⟩
  ·intro ρ y W hw hn hb hd;refine eH bn hb (gX (.agg (gZ Q))) (fun _ _ h=>h) ?_;have kj:=hw 37 8 rfl;have h8:y 8 = .tuple #[.agg (gZ Q),.int .i64 0]:=hd 8 rfl;refine ak (.agg (gZ Q)) (ag rfl) (by simp[execOp,go_sem,bu,kj,h8]) rfl
  ·intro ρ y W hw hn hb hd;refine eH bn hb (gX (.int .i64 0)) (fun _ _ h=>h) ?_;have kj:=hw 37 8 rfl;have h8:y 8 = .tuple #[.agg (gZ Q),.int .i64 0]:=hd 8 rfl;refine ak (.int .i64 0) (ag rfl) (by simp[execOp,go_sem,bu,kj,h8]) rfl
  ·intro ρ y W hw hn hb hd;refine eH bn hb ((fe w2.heap.size 100 8)) (fun _ _ h=>h) ?_;refine gH (.pointer (some ⟨W.heap.size,0,none⟩)) (ag rfl) (by simp[execOp,go_sem,bu]) ((Below.refl _ _).alloc (az _) (.cells #[.int .u8 0,.int .u8 0,.int .u8 0,.int .u8 0,.int .u8 0,.int .u8 0,.int .u8 0,.int .u8 0] 100)) ?_;exact⟨_,_,rfl,hb.size,aJ.new _ _ _,rfl⟩
  ·intro ρ y W hw hn hb hd;have gx:=hw 10 11 rfl;have kh:=hd 11 rfl;have gt:=hw 46 9 rfl;have h9:y 9 = .agg (gZ Q):=hd 9 rfl;obtain⟨g3,cur3,e9,kE,kK,kw⟩:=kh;refine jc (ag rfl) _ _ _ rfl g3 0 (.agg (gZ Q)) (gZ Q).toList (gx.trans e9) (gt.trans h9) rfl cur3 _ kK (by rw[kw];exact az _) psize (fP (qB Q)) ?_;intro w1 hr kC;rw[eB cur3 _ (by rw[kw];rfl)] at hr;refine⟨hb.grown kC hb.size (fun k hk=>by cases hk;exact kE),⟨g3,_,e9,kE,hr,rfl⟩,?_⟩;intro k hk gf
   match k,hk,gf with
   | 0,_,_=>exact fun h=>h
   | 1,_,_=>exact fun h=>h
   | 2,_,_=>exact fun h=>h
   | 3,_,_=>exact fun h=>h
   | 4,_,_=>exact fun h=>h
   | 5,_,_=>exact fun h=>h
   | 6,_,_=>exact fun h=>h
   | 7,_,_=>exact fun h=>h
   | 8,_,_=>exact fun h=>h
   | 9,_,_=>exact fun h=>h
   | 10,_,_=>exact fun h=>h
   | 11,_,_=>exact fun q=>iB q hr (fun _=>rfl) ⟨_,kK⟩ kC
   | 12,_,h=>exact absurd rfl h
   | 13,_,_=>exact fun h=>h
   | n+14,h,_=>exact absurd h (by omega)
  intro y W3 j hD;replace j:Below w2.heap.size w2 W3:=j;have i:((fe w2.heap.size 100 8)).r (y 11) W3:=hD 11 (by decide);have hj:=hD 12 (by decide);clear hD;simp only[dD,bu,bH,bL];obtain⟨ge,cce,hU,gB,kM,hW⟩:=hj;have ke : cce=gZ Q:=by simpa[gX] using hW
  subst ke;rw[hU];have h3:=h2.below j;have s3:=s2.below j;have kt:=hl.ext j;have kN:=l.ext j;clear hs d h2 s2 hl l j hU hW i
  go_wp2_with (refine aA _ _ rfl ge 0 rfl rfl (gZ Q).toList kM.rd _ underlying100 rfl psize ?_)
  refine (qN H e (-1) 0 Q B b _ h3 km kl kk).mono ?_;rintro r w4 ⟨rfl,H4,e4,k4,s4,q4⟩;have ks:=s4.blk h3 kt entTy;have hi:=s4.blk h3 kN areaT;have s04:=s3.trans s4;have z:H4.sp.length=H.sp.length:=by have:=BZ ⟨H.ma,e⟩ Q (-1) 0;rw[←q4] at this;simp only[pI] at this;exact this
  have q4':=ae q4;have hv:p<H4.sp.length:=by rw[z];exact hp
  have kD:=ae k4.bs;clear q4 s3 s4 h3 kt kN z kM;generalize hK:(eP ⟨H.ma,e⟩ Q (-1) 0).2=K
  by_cases h0:K<0
  ·have c:Hid (gz ⟨H.ma,e⟩ p n A=(⟨H4.ma,e4⟩,-1)):=ae (by
    rw[hq.out]
    try simp only
    rw[hK,if_pos h0,q4'.out])
   go_wp2;go_ret;rw[c.out];exact⟨rfl,_,_,k4,s04,rfl⟩
  have c:Hid (gz ⟨H.ma,e⟩ p n A=if bA H4.sl x.n (-1)≠0 then (⟨H4.ma,e4⟩,-1) else (cZ ⟨{ H4.ma with sl:=aU H4.sl x.n (-1) },e4⟩ p n ⟨1,K,A.wr⟩,K)):=ae (by rw[hq.out];simp only;rw[hK,if_neg h0,←q4'.out];rfl);clear hK hq q4';go_upto_region 11 with (fail);refine gI 13 [_,_,_,_,_,_,_,.r 7 ((qC w4.heap.size 3 1 (aU H4.sl x.n (-1)).length ((aU H4.sl x.n (-1)).map gQ) (bA H4.sl x.n (-1)))),.r 8 ((qC w4.heap.size 3 1 (aU H4.sl x.n (-1)).length ((aU H4.sl x.n (-1)).map gQ) (bA H4.sl x.n (-1)))),.r 9 ((gM w4.heap.size 3 1 (aU H4.sl x.n (-1)).length ((aU H4.sl x.n (-1)).map gQ))),.v (.int .i64 (bA H4.sl x.n (-1))),.r 11 ((gM w4.heap.size 3 1 (aU H4.sl x.n (-1)).length ((aU H4.sl x.n (-1)).map gQ))),.v (.int .i64 (bA H4.sl x.n (-1)))] (fun W=>Below w4.heap.size w4 W) bn (Below.refl _ _) (Yk bn rfl (Yk bn rfl (Yf bn b 0 rfl rfl (Yf bn b 2 rfl rfl (Yc bn (.slice H4.asl H4.sl.length H4.csl) (fun W hb=>by simp[(k4.below hb).blk.cell,lG]) rfl rfl rfl rfl (Yf bn w1.heap.size 1 rfl rfl (Yc bn (.int .i64 x.n) (fun W hb=>by simp[(ks.ext hb).cell,nk]) rfl rfl rfl rfl (aj ?_ (aj ?_ (aj ?_ (aj ?_ (aj ?_ (Yk bn rfl (aG)))))))))))))) (fun _=>rfl) rfl ?_
  ·intro ρ y W hw hn hb hd;refine eH bn hb ((qC w4.heap.size 3 1 (aU H4.sl x.n (-1)).length ((aU H4.sl x.n (-1)).map gQ) (bA H4.sl x.n (-1)))) (fun _ _ h=>h) ?_;have gr:=hw 60 4 rfl;have h4:y 4 = .slice H4.asl H4.sl.length H4.csl:=hd 4 rfl;have gq:=hw 62 6 rfl;have h6:y 6 = .int .i64 x.n:=hd 6 rfl;have EC:∀v,ρ (.const v)=v:=fun v=>hn (.const v) trivial;have EF:∀f,ρ (.func f) = .func (.func f) #[] #[]:=fun f=>hn (.func f) trivial;refine aL _ _ (ag rfl) (aS rfl (EF _) func167 (by kernel_rfl) (by kernel_rfl) (by simp only[bT,bH,bL,gr,h4,gq,h6,EC,EF];rfl)) ?_;have hm:=(k4.below hb).ma.rd.sl;refine (yu H4.sl H4.asl H4.csl x.n (-1) W hm.le hm.nl hm.rd (by have:=hm.le;have:=hm.mx;unfold maxLen at this;omega)).mono ?_;rintro r W3 ⟨u,rfl,ho,kf⟩;exact⟨_,rfl,kf,u,rfl,ho.mono hb.size⟩
  ·intro ρ y W hw hn hb hd;refine eH bn hb ((qC w4.heap.size 3 1 (aU H4.sl x.n (-1)).length ((aU H4.sl x.n (-1)).map gQ) (bA H4.sl x.n (-1)))) (fun _ _ h=>h) ?_;have gp:=hw 63 7 rfl;have h7:=hd 7 rfl;refine ak _ (ag rfl) (run_move (.inl rfl) gp) ?_;exact h7
  ·intro ρ y W hw hn hb hd;refine eH bn hb ((gM w4.heap.size 3 1 (aU H4.sl x.n (-1)).length ((aU H4.sl x.n (-1)).map gQ))) (fun _ _ h=>h) ?_;have ki:=hw 55 8 rfl;have h8:=hd 8 rfl;obtain⟨u,hu,ho⟩:=h8;refine ak u (ag rfl) (by simp[execOp,go_sem,bu,ki,hu]) ?_;exact ho
  ·intro ρ y W hw hn hb hd;refine eH bn hb (gX (.int .i64 (bA H4.sl x.n (-1)))) (fun _ _ h=>h) ?_;have ki:=hw 55 8 rfl;have h8:=hd 8 rfl;obtain⟨u,hu,ho⟩:=h8;refine ak (.int .i64 (bA H4.sl x.n (-1))) (ag rfl) (by simp[execOp,go_sem,bu,ki,hu]) rfl
  ·intro ρ y W hw hn hb hd;refine eH bn hb ((gM w4.heap.size 3 1 (aU H4.sl x.n (-1)).length ((aU H4.sl x.n (-1)).map gQ))) (fun _ _ h=>h) ?_;have gn:=hw 64 9 rfl;have h9:=hd 9 rfl;refine ak _ (ag rfl) (run_move (.inr rfl) gn) ?_;exact h9
  intro y W5 s hf;replace s:Below w4.heap.size w4 W5:=s;have hG:((qC w4.heap.size 3 1 (aU H4.sl x.n (-1)).length ((aU H4.sl x.n (-1)).map gQ) (bA H4.sl x.n (-1)))).r (y 7) W5:=hf 7 (by decide);have hF:((qC w4.heap.size 3 1 (aU H4.sl x.n (-1)).length ((aU H4.sl x.n (-1)).map gQ) (bA H4.sl x.n (-1)))).r (y 8) W5:=hf 8 (by decide);have hE:((gM w4.heap.size 3 1 (aU H4.sl x.n (-1)).length ((aU H4.sl x.n (-1)).map gQ))).r (y 9) W5:=hf 9 (by decide);have i:((gM w4.heap.size 3 1 (aU H4.sl x.n (-1)).length ((aU H4.sl x.n (-1)).map gQ))).r (y 11) W5:=hf 11 (by decide);clear hf;simp only[dD,bu,bH,bL];have hH:Own W5 w4.heap.size 3 1 (y 11) (aU H4.sl x.n (-1)).length ((aU H4.sl x.n (-1)).map gQ):=i;obtain⟨a5,c5,e7,_⟩:=Own.rd hH;rw[e7] at hH;simp only[e7];have k5:=k4.below s;have s5:=s04.below s;have hL:=hi.ext s;clear hG hF hE i e7 k4 s04 hi ks s
  by_cases h5:bA H4.sl x.n (-1)=0
  ·rw[h5];have kc:Hid (gz ⟨H.ma,e⟩ p n A=(cZ ⟨{ H4.ma with sl:=aU H4.sl x.n (-1) },e4⟩ p n ⟨1,K,A.wr⟩,K)):=ae (by rw[c.out,if_neg (fun h=>h h5)]);clear h5 c
   go_wp2_with (first | (refine aX rfl _ _ _ rfl b 2 _ [.slice a5 (aU H4.sl x.n (-1)).length c5] rfl rfl rfl _ _ k5.blk (by show 2+1≤12;decide) slots_size (fun u hu=>by cases bF.1 hu;rfl) ?_))
   intro w6 kL hI;have k6:=k5.setL (hH.mono kD.out) kL hI;have s6:KS w b H w6 { H4 with asl:=a5,csl:=c5,sl:=aU H4.sl x.n (-1) }:=s5.putB hI rfl rfl rfl;have gi:=aH hL k5.blk (by decide) hI;clear s5 k5 hH hL kL hI;have d:=gi.cell;unfold kQ at d
   go_wp2_with fail
   refine (fT _ e4 n p ⟨1,K,_⟩ B b _ k6 hv).mono ?_;rintro r w9 ⟨rfl,hh⟩;go_wp2;go_ret;rw[kc.out];exact⟨rfl,KR.trans s6 hh⟩
  have kc:Hid (gz ⟨H.ma,e⟩ p n A=(⟨H4.ma,e4⟩,-1)):=ae (by rw[c.out,if_pos h5]);go_wp2;go_ret;rw[kc.out];exact⟨rfl,_,_,k5,s5,rfl⟩
 by_cases hfi:A.fi<0
 ·have hq:Hid (gz ⟨H.ma,e⟩ p n A=WF (eP ⟨H.ma,e⟩ zPg (-1) 0) p n A.wr):=ae (by rw[t.out,if_neg k1,if_neg k2,if_pos hfi]);clear t;go_upto_region 18 with (fail)
  go_wp2_with fail
  rw[←zPg_cells];refine (qN H e (-1) 0 zPg B b _ h2 km kl kk).mono ?_;rintro r w4 ⟨rfl,H4,e4,k4,s4,q4⟩;have hi:=s4.blk h2 l areaT;have s04:=s2.trans s4;have z:H4.sp.length=H.sp.length:=by have:=BZ ⟨H.ma,e⟩ zPg (-1) 0;rw[←q4] at this;simp only[pI] at this;exact this
  have q4':=ae q4;have hv:p<H4.sp.length:=by rw[z];exact hp
  clear q4 s2 s4 h2 hl l z hs d;generalize hK:(eP ⟨H.ma,e⟩ zPg (-1) 0).2=K;have d:=hi.cell;unfold kQ at d
  by_cases h0:K<0
  ·have c:Hid (gz ⟨H.ma,e⟩ p n A=(⟨H4.ma,e4⟩,K)):=ae (by rw[hq.out];unfold WF;rw[hK,if_pos h0,q4'.out,←hK]);go_wp2;go_ret;rw[c.out];exact⟨rfl,_,_,k4,s04,rfl⟩
  have c:Hid (gz ⟨H.ma,e⟩ p n A=(cZ ⟨H4.ma,e4⟩ p n ⟨1,K,A.wr⟩,K)):=ae (by rw[hq.out];unfold WF;rw[hK,if_neg h0,q4'.out]);clear hK hq q4'
  go_wp2_with fail
  refine (fT H4 e4 n p ⟨1,K,_⟩ B b _ k4 hv).mono ?_;rintro r w9 ⟨rfl,hh⟩;go_wp2;go_ret;rw[c.out];exact⟨rfl,KR.trans s04 hh⟩
 have hq:Hid (gz ⟨H.ma,e⟩ p n A=(let r:=fw ⟨H.ma,e⟩ A.fi (A.ba+n-A.fr)
  if r.2<0 then r else (cZ (dK r.1 r.2 1) p n ⟨1,r.2,A.sh&&A.wr⟩,r.2))):=ae (by rw[t.out,if_neg k1,if_neg k2,if_neg hfi])
 have hT:Hid (ni H.ma.st A.fi (A.ba+n-A.fr)):=ae (by have e1:=kG.out;have e2:=kJ.out (by omega);have h2:=(cz _).1 (jL kg.out.pt p n);rw[e1,e2];refine kB.out (by omega) ?_;rw[kd.out] at h2 ⊢;omega);have kI:=kH.out;have gd:=ky.out;unfold rG at kI;have hr:IntKind.i64.wrap (A.ba+n)=A.ba+n:=dS _ (by omega);have ku:IntKind.i64.wrap (A.ba+n-A.fr)=A.ba+n-A.fr:=dS _ (by omega);clear t kI gd;go_upto_region 22 with (fail);refine wP 16 17 [] [gX (.pointer (some ⟨b,0,none⟩)),gX (.pointer (some ⟨ga,0,none⟩)),gX (.pointer (some ⟨ga,0,none⟩)),gX (.pointer (some ⟨ga,5,none⟩)),gX (.int .i64 A.fi),gX (.pointer (some ⟨ga,0,none⟩)),gX (.pointer (some ⟨ga,0,none⟩)),gX (.pointer (some ⟨ga,6,none⟩)),gX (.int .i64 A.ba),gX (.int .i64 n),gX (.int .i64 (A.ba+n)),gX (.pointer (some ⟨ga,0,none⟩)),gX (.pointer (some ⟨ga,0,none⟩)),gX (.pointer (some ⟨ga,0,none⟩)),gX (.int .i64 A.fr),gX (.int .i64 (A.ba+n-A.fr))] (by kernel_rfl) (by kernel_rfl) (by kernel_rfl) (by kernel_rfl) (by kernel_rfl) (by kernel_rfl) (by decide) (by decide) _ rfl (by kernel_rfl) (aj ?_ (aj ?_ (aj ?_ (aj ?_ (aj ?_ (aj ?_ (aj ?_ (aj ?_ (aj ?_ (aj ?_ (aj ?_ (aj ?_ (aj ?_ (aj ?_ (aj ?_ (aj ?_ (aG))))))))))))))))) (aG) rfl ?_
 ·refine aC rfl ?_;intro ρ y W hw hn hb hd;have E0:ρ (.tmp 0) = .pointer (some ⟨b,0,none⟩):=(hn (.tmp 0) rfl).trans rfl;refine ak (.pointer (some ⟨b,0,none⟩)) (ag rfl) (run_move (.inl rfl) E0) rfl
 ·refine aC rfl ?_;intro ρ y W hw hn hb hd;have E3:ρ (.tmp 3) = .pointer (some ⟨ga,0,none⟩):=(hn (.tmp 3) rfl).trans rfl;refine ak (.pointer (some ⟨ga,0,none⟩)) (ag rfl) (run_move (.inl rfl) E3) rfl
 ·refine aC rfl ?_;intro ρ y W hw hn hb hd;have k8:=hw 107 1 rfl;have h1:y 1 = .pointer (some ⟨ga,0,none⟩):=hd 1 rfl;refine ak (.pointer (some ⟨ga,0,none⟩)) (ag rfl) (by simp[execOp,go_sem,k8,h1]) rfl
 ·refine aC rfl ?_;intro ρ y W hw hn hb hd;have k7:=hw 108 2 rfl;have h2:y 2 = .pointer (some ⟨ga,0,none⟩):=hd 2 rfl;refine ak (.pointer (some ⟨ga,5,none⟩)) (ag rfl) (by simp[execOp,go_sem,k7,h2]) rfl
 ·refine aC rfl ?_;intro ρ y W hw hn hb hd;have k3:=hw 109 3 rfl;have h3:y 3 = .pointer (some ⟨ga,5,none⟩):=hd 3 rfl;refine ak (.int .i64 A.fi) (ag rfl) (by simp[execOp,go_sem,k3,h3,(l.ext hb).cell,kQ]) rfl
 ·refine aC rfl ?_;intro ρ y W hw hn hb hd;have E3:ρ (.tmp 3) = .pointer (some ⟨ga,0,none⟩):=(hn (.tmp 3) rfl).trans rfl;refine ak (.pointer (some ⟨ga,0,none⟩)) (ag rfl) (run_move (.inl rfl) E3) rfl
 ·refine aC rfl ?_;intro ρ y W hw hn hb hd;have k0:=hw 111 5 rfl;have h5:y 5 = .pointer (some ⟨ga,0,none⟩):=hd 5 rfl;refine ak (.pointer (some ⟨ga,0,none⟩)) (ag rfl) (by simp[execOp,go_sem,k0,h5]) rfl
 ·refine aC rfl ?_;intro ρ y W hw hn hb hd;have kZ:=hw 112 6 rfl;have h6:y 6 = .pointer (some ⟨ga,0,none⟩):=hd 6 rfl;refine ak (.pointer (some ⟨ga,6,none⟩)) (ag rfl) (by simp[execOp,go_sem,kZ,h6]) rfl
 ·refine aC rfl ?_;intro ρ y W hw hn hb hd;have kY:=hw 113 7 rfl;have h7:y 7 = .pointer (some ⟨ga,6,none⟩):=hd 7 rfl;refine ak (.int .i64 A.ba) (ag rfl) (by simp[execOp,go_sem,kY,h7,(l.ext hb).cell,kQ]) rfl
 ·refine aC rfl ?_;intro ρ y W hw hn hb hd;have E2:ρ (.tmp 2) = .int .i64 n:=(hn (.tmp 2) rfl).trans rfl;refine ak (.int .i64 n) (ag rfl) (run_move (.inl rfl) E2) rfl
 ·refine aC rfl ?_;intro ρ y W hw hn hb hd;have kX:=hw 114 8 rfl;have h8:y 8 = .int .i64 A.ba:=hd 8 rfl;have kW:=hw 115 9 rfl;have h9:y 9 = .int .i64 n:=hd 9 rfl;refine ak (.int .i64 (A.ba+n)) (ag rfl) (by simp[execOp,go_sem,kX,h8,kW,h9,hr]) rfl
 ·refine aC rfl ?_;intro ρ y W hw hn hb hd;have E3:ρ (.tmp 3) = .pointer (some ⟨ga,0,none⟩):=(hn (.tmp 3) rfl).trans rfl;refine ak (.pointer (some ⟨ga,0,none⟩)) (ag rfl) (run_move (.inl rfl) E3) rfl
 ·refine aC rfl ?_;intro ρ y W hw hn hb hd;have kU:=hw 117 11 rfl;have kh:y 11 = .pointer (some ⟨ga,0,none⟩):=hd 11 rfl;refine ak (.pointer (some ⟨ga,0,none⟩)) (ag rfl) (by simp[execOp,go_sem,kU,kh]) rfl
 ·refine aC rfl ?_;intro ρ y W hw hn hb hd;have kT:=hw 118 12 rfl;have gl:y 12 = .pointer (some ⟨ga,0,none⟩):=hd 12 rfl;refine ak (.pointer (some ⟨ga,0,none⟩)) (ag rfl) (by simp[execOp,go_sem,kT,gl]) rfl
 ·refine aC rfl ?_;intro ρ y W hw hn hb hd;have kS:=hw 119 13 rfl;have gk:y 13 = .pointer (some ⟨ga,0,none⟩):=hd 13 rfl;refine ak (.int .i64 A.fr) (ag rfl) (by simp[execOp,go_sem,kS,gk,(l.ext hb).cell,kQ]) rfl
 ·refine aC rfl ?_;intro ρ y W hw hn hb hd;have kV:=hw 116 10 rfl;have gm:y 10 = .int .i64 (A.ba+n):=hd 10 rfl;have kP:=hw 120 14 rfl;have gj:y 14 = .int .i64 A.fr:=hd 14 rfl;refine ak (.int .i64 (A.ba+n-A.fr)) (ag rfl) (by simp[execOp,go_sem,kV,gm,kP,gj,ku]) rfl
 intro ρ y WA o ho hw hn hV ha a;cases ho;have kb:y 0 = .pointer (some ⟨b,0,none⟩):=a 0 (by decide);have kr:y 1 = .pointer (some ⟨ga,0,none⟩):=a 1 (by decide);have kq:y 2 = .pointer (some ⟨ga,0,none⟩):=a 2 (by decide);have kp:y 3 = .pointer (some ⟨ga,5,none⟩):=a 3 (by decide);have ka:y 4 = .int .i64 A.fi:=a 4 (by decide);have ko:y 5 = .pointer (some ⟨ga,0,none⟩):=a 5 (by decide);have kn:y 6 = .pointer (some ⟨ga,0,none⟩):=a 6 (by decide);have hG:y 7 = .pointer (some ⟨ga,6,none⟩):=a 7 (by decide);have hF:y 8 = .int .i64 A.ba:=a 8 (by decide);have hE:y 9 = .int .i64 n:=a 9 (by decide);have hO:y 10 = .int .i64 (A.ba+n):=a 10 (by decide);have i:y 11 = .pointer (some ⟨ga,0,none⟩):=a 11 (by decide);have hj:y 12 = .pointer (some ⟨ga,0,none⟩):=a 12 (by decide);have hN:y 13 = .pointer (some ⟨ga,0,none⟩):=a 13 (by decide);have hM:y 14 = .int .i64 A.fr:=a 14 (by decide);have ht:y 15 = .int .i64 (A.ba+n-A.fr):=a 15 (by decide);have hZ:=hw 106 0 rfl;rw[kb] at hZ;have hY:=hw 110 4 rfl;rw[ka] at hY;have hX:=hw 121 15 rfl;rw[ht] at hX;have EC:∀v,ρ (.const v)=v:=fun v=>hn (.const v) trivial;have EF:∀f,ρ (.func f) = .func (.func f) #[] #[]:=fun f=>hn (.func f) trivial;refine Dr _ _ (ag rfl) (aS rfl (EF _) func124 (by kernel_rfl) (by kernel_rfl) (by simp only[bT,bH,bL,hZ,hY,hX,EC,EF];rfl)) ?_;refine (MG H e A.fi (A.ba+n-A.fr) B b _ (h2.below ha) kg.out hT.out).mono ?_;rintro r w4 ⟨rfl,H4,e4,k4,s4,q4⟩;refine⟨_,rfl,?_⟩;clear a hw hn hV;simp only[lay,Nat.reduceAdd,Nat.reduceLT,Nat.reduceEqDiff,reduceIte,decide_true,decide_false,if_true,pV,if_false,si,tH,sZ,sD,sj,sK,kb,kr,kq,kp,ka,ko,kn,hG,hF,hE,hO,i,hj,hN,hM,ht];clear kb kr kq kp ka ko kn hG hF hE hO i hj hN hM ht;have hi:=s4.blk (h2.below ha) (l.ext ha) areaT;have s04:=(s2.below ha).trans s4;have z:H4.sp.length=H.sp.length:=by have:=(FV (k:=⟨H.ma,e⟩) kg.out gh.out hT.out).2.vis.sk.len;rw[←q4] at this;simp only[pI] at this;exact this
 have q4':=ae q4;have hv:p<H4.sp.length:=by rw[z];exact hp
 clear q4 s2 s4 h2 hl l z hs d ha hr ku;generalize hK:(fw ⟨H.ma,e⟩ A.fi (A.ba+n-A.fr)).2=K
 by_cases h0:K<0
 ·have c:Hid (gz ⟨H.ma,e⟩ p n A=(⟨H4.ma,e4⟩,K)):=ae (by rw[hq.out];simp only;rw[hK,if_pos h0,q4'.out,←hK]);go_wp2;go_ret;rw[c.out];exact⟨rfl,_,_,k4,s04,rfl⟩
 have c:Hid (gz ⟨H.ma,e⟩ p n A=(cZ (dK ⟨H4.ma,e4⟩ K 1) p n ⟨1,K,A.sh&&A.wr⟩,K)):=ae (by rw[hq.out];simp only;rw[hK,if_neg h0,q4'.out]);clear hK hq q4'
 go_wp2_with fail
 refine (xm H4 e4 K 1 B b _ k4).mono ?_;rintro r w5 ⟨rfl,H5,e5,k5,s5,q5⟩;have hL:=s5.blk k4 hi areaT;have s05:=s04.trans s5;have kA:H5.sp.length=H4.sp.length:=by have:=(jv.hold ⟨H4.ma,e4⟩ K 1).sp;rw[←q5] at this;simp only[pI] at this;exact this
 have kz:p<H5.sp.length:=by rw[kA];exact hv
 rw[←q5] at c;have c:=ae c.out;clear q5 s5 s04 k4 hi kA;have d:=hL.cell;unfold kQ at d;cases hsh:A.sh with
 | false=>
  rw[hsh] at d c;rw[lC] at c
  go_wp2_with fail
  refine (fT H5 e5 n p ⟨1,K,_⟩ B b _ k5 kz).mono ?_;rintro r w9 ⟨rfl,hh⟩;go_wp2;go_ret;rw[c.out];exact⟨rfl,KR.trans s05 hh⟩
 | true=>
  rw[hsh] at d c;rw[kR] at c
  go_wp2_with fail
  refine (fT H5 e5 n p ⟨1,K,_⟩ B b _ k5 kz).mono ?_;rintro r w9 ⟨rfl,hh⟩;go_wp2;go_ret;rw[c.out];exact⟨rfl,KR.trans s05 hh⟩
theorem nA (H:MH) (w:World) (h:EM w H) (hz:Qx H.ma) :
  Calls Tryz.prog 33 #[.agg (bP H)] w fun r w' => ∃H' : MH,r = .returned (.agg (bP H'))∧qf w' w.heap.size H'∧H'.ma=H.ma∧(∀p∈H'.fi,∀x,oB p.a=some x→oB H'.asl≠some x)∧Below w.heap.size w w':=by
 have z1:H.m.fs.length≤1000:=hz.fs;have z2:H.sl.length≤1000:=hz.sl;have z3:H.sw.blocks.length≤1000:=hz.swb;have z4:H.sw.queue.length≤1000:=hz.swq;have z5:H.dk.blocks.length≤1000:=hz.dkb;have z6:H.dk.queue.length≤1000:=hz.dkq;have z7:H.ca.length≤1000:=hz.ca;have z8:H.sp.length≤1000:=by have:=hz.sp.1;rw[pI] at this;exact this
 have zf:=hz.fsz;go_enter func33,ntmps33;go_upto_region 1 with (fail);refine uj (fun W=>Code.wp _ _ _ _ W) fun w1 s bx1 rx1 k0 => ?_;have ki:=h.below s;clear k0;refine gI 7 [_,_,.r 2 ((Eu w1.heap.size H.m)),_,_,.r 5 ((gM w1.heap.size 3 1 H.sl.length (H.sl.map gQ))),_] (fun W=>Below w1.heap.size w1 W) bn (Below.refl _ _) (Yf bn w.heap.size 0 rfl rfl (Yr bn (.agg #[.slice H.af H.m.fs.length H.cf,.int .i64 H.m.hand]) (fun ρ y W hb hy=>(bM rfl (aV rfl hy) (bW (bx1.ext hb) 0 2) underlying31 rfl (by kernel_rfl))) rfl rfl (aj ?_ (Yf bn w.heap.size 2 rfl rfl (Yc bn (.slice H.asl H.sl.length H.csl) (fun W hb=>by simp[(bx1.ext hb).cell,bP]) rfl rfl rfl rfl (aj ?_ (Yf bn w.heap.size 0 rfl rfl (aG)))))))) (fun _=>rfl) rfl ?_
 ·intro ρ y W hw hn hb hd;refine eH bn hb ((Eu w1.heap.size H.m)) (fun _ _ h=>h) ?_;have E7:=hw 7 1 rfl;have h1:y 1 = .agg #[.slice H.af H.m.fs.length H.cf,.int .i64 H.m.hand]:=hd 1 rfl;have EF:∀f,ρ (.func f) = .func (.func f) #[] #[]:=fun f=>hn (.func f) trivial;refine aL _ _ (ag rfl) (aS rfl (EF _) func57 (by kernel_rfl) (by kernel_rfl) (by simp only[bT,bH,bL,E7,h1,EF];rfl)) ?_;refine (yZ H.m _ _ W (ki.below hb).fr (by omega)).mono ?_;rintro r w3 ⟨u,rfl,ho,s⟩;exact⟨_,rfl,s,u,rfl,ho.mono hb.size⟩
 ·intro ρ y W hw hn hb hd;refine eH bn hb ((gM w1.heap.size 3 1 H.sl.length (H.sl.map gQ))) (fun _ _ h=>h) ?_;have gp:=hw 10 4 rfl;have h4:y 4 = .slice H.asl H.sl.length H.csl:=hd 4 rfl;have EF:∀f,ρ (.func f) = .func (.func f) #[] #[]:=fun f=>hn (.func f) trivial;refine aL _ _ (ag rfl) (aS rfl (EF _) func58 (by kernel_rfl) (by kernel_rfl) (by simp only[bT,bH,bL,gp,h4,EF];rfl)) ?_;have hs:=(ki.below hb).sl;refine (wS H.sl _ _ W hs.le hs.nl hs.rd (by omega)).mono ?_;rintro r w3 ⟨u,rfl,ho,s⟩;exact⟨_,rfl,s,ho.mono hb.size⟩
 intro y w2 ha ka;replace ha:Below w1.heap.size w1 w2:=ha;have hF:((Eu w1.heap.size H.m)).r (y 2) w2:=ka 2 (by decide);have hH:((gM w1.heap.size 3 1 H.sl.length (H.sl.map gQ))).r (y 5) w2:=ka 5 (by decide);clear ka;simp only[dD,bu,bH,bL];obtain⟨u1,kO,kw⟩:=hF;have kf:Own w2 w1.heap.size 3 1 (y 5) H.sl.length (H.sl.map gQ):=hH;obtain⟨a1,c1,rfl,_⟩:=kw.rd;obtain⟨a2,c2,kt,_⟩:=Own.rd kf;rw[kt] at kf;rw[kO,kt];have bx2:=bx1.ext ha;have rx2:=rx1.ext ha;have h0:=ah s ha;have k4:=ki.below ha;have kK:=ae s.size;have gq:=rx2.lt;clear ha bx1 rx1 ki kO kt hH
 go_wp2_with (refine fI rfl _ _ _ rfl w.heap.size 0 #[.slice a1 H.m.fs.length c1,.int .i64 H.m.hand] rfl rfl _ _ bx2 (by show 0+2≤11;decide) mem_size (fZ _ _ _ _) ?_)
 intro w3 bx3 hR;have kp:=ay kw bx2 (by decide) hR;have kl:=ay kf bx2 (by decide) hR;have hZ:=h0.grown hR h0.size (fun k hk=>by cases hk;exact az _);have rx3:=rx2.grown hR (fun e=>by have:=aT e;omega);have bx3' : aJ w3 w.heap.size (bP { H with af:=a1,cf:=c1 }) 44:=bx3;clear kw kf bx2 rx2 k4 hR bx3 h0
 go_wp2_with (refine aX rfl _ _ _ rfl w.heap.size 2 _ [.slice a2 H.sl.length c2] rfl rfl rfl _ _ bx3' (by show 2+1≤11;decide) slots_size (fun u hu=>by cases bF.1 hu;rfl) ?_)
 intro w4 bx4 hQ;have kn:=ay kp bx3' (by decide) hQ;have hN:=ay kl bx3' (by decide) hQ;have hD:=hZ.grown hQ hZ.size (fun k hk=>by cases hk;exact az _);have rx4:=rx3.grown hQ (fun e=>by have:=aT e;omega);have bx4' : aJ w4 w.heap.size (bP { H with af:=a1,cf:=c1,asl:=a2,csl:=c2 }) 44:=bx4;have kh:=h.below hD;clear kp kl bx3' rx3 hQ bx4 hZ;obtain⟨H4,gv⟩:∃H4:MH,Hid (H4 = { H with af:=a1,cf:=c1,asl:=a2,csl:=c2 }):=⟨_,ae rfl⟩;go_upto_region 2 with (fail);refine gI 10 [_,_,.r 2 ((xU w4.heap.size H.sw)),_,_,.r 5 ((xU w4.heap.size H.dk)),_,_,.r 8 ((MK w4.heap.size (bQ H.fi H.ct))),_] (fun W=>Below w4.heap.size w4 W) bn (Below.refl _ _) (Yf bn w.heap.size 3 rfl rfl (Yr bn (.agg #[.slice H.wb H.sw.blocks.length H.cwb,.slice H.wq H.sw.queue.length H.cwq]) (fun ρ y W hb hy=>(bM rfl (aV rfl hy) (bW (bx4'.ext hb) 3 2) underlying37 rfl (by kernel_rfl))) rfl rfl (aj ?_ (Yf bn w.heap.size 5 rfl rfl (Yr bn (.agg #[.slice H.db H.dk.blocks.length H.cdb,.slice H.dq H.dk.queue.length H.cdq]) (fun ρ y W hb hy=>(bM rfl (aV rfl hy) (bW (bx4'.ext hb) 5 2) underlying37 rfl (by kernel_rfl))) rfl rfl (aj ?_ (Yf bn w.heap.size 7 rfl rfl (Yr bn (.agg #[.slice H.ai H.fi.length H.ci,.int .i64 H.ct]) (fun ρ y W hb hy=>(bM rfl (aV rfl hy) (bW (bx4'.ext hb) 7 2) underlying40 rfl (by kernel_rfl))) rfl rfl (aj ?_ (Yf bn w.heap.size 3 rfl rfl (aG))))))))))) (fun _=>rfl) rfl ?_
 ·intro ρ y W hw hn hb hd;refine eH bn hb ((xU w4.heap.size H.sw)) (fun _ _ h=>h) ?_;have gn:=hw 15 1 rfl;have h1:y 1 = .agg #[.slice H.wb H.sw.blocks.length H.cwb,.slice H.wq H.sw.queue.length H.cwq]:=hd 1 rfl;have EF:∀f,ρ (.func f) = .func (.func f) #[] #[]:=fun f=>hn (.func f) trivial;refine aL _ _ (ag rfl) (aS rfl (EF _) func59 (by kernel_rfl) (by kernel_rfl) (by simp only[bT,bH,bL,gn,h1,EF];rfl)) ?_;refine (Eg H.sw _ _ _ _ W (kh.below hb).sw (by omega) (by omega)).mono ?_;rintro r w3 ⟨u,v,rfl,ho,s⟩;exact⟨_,rfl,s,u,v,rfl,ho.mono hb.size⟩
 ·intro ρ y W hw hn hb hd;refine eH bn hb ((xU w4.heap.size H.dk)) (fun _ _ h=>h) ?_;have gm:=hw 18 4 rfl;have h4:y 4 = .agg #[.slice H.db H.dk.blocks.length H.cdb,.slice H.dq H.dk.queue.length H.cdq]:=hd 4 rfl;have EF:∀f,ρ (.func f) = .func (.func f) #[] #[]:=fun f=>hn (.func f) trivial;refine aL _ _ (ag rfl) (aS rfl (EF _) func59 (by kernel_rfl) (by kernel_rfl) (by simp only[bT,bH,bL,gm,h4,EF];rfl)) ?_;refine (Eg H.dk _ _ _ _ W (kh.below hb).dk (by omega) (by omega)).mono ?_;rintro r w3 ⟨u,v,rfl,ho,s⟩;exact⟨_,rfl,s,u,v,rfl,ho.mono hb.size⟩
 ·intro ρ y W hw hn hb hd;refine eH bn hb ((MK w4.heap.size (bQ H.fi H.ct))) (fun _ _ h=>h) ?_;have gl:=hw 21 7 rfl;have h7:y 7 = .agg #[.slice H.ai H.fi.length H.ci,.int .i64 H.ct]:=hd 7 rfl;have EF:∀f,ρ (.func f) = .func (.func f) #[] #[]:=fun f=>hn (.func f) trivial;refine aL _ _ (ag rfl) (aS rfl (EF _) func60 (by kernel_rfl) (by kernel_rfl) (by simp only[bT,bH,bL,gl,h7,EF];rfl)) ?_;refine (Ei H.fi H.ct _ _ W (kh.below hb).st zf).mono ?_;rintro r w3 ⟨u,ps,rfl,ho,he,s⟩;exact⟨_,rfl,s,u,ps,_,rfl,ho.mono hb.size,by unfold bQ;rw[he]⟩
 intro y w5 z hE;replace z:Below w4.heap.size w4 w5:=z;have hF:((xU w4.heap.size H.sw)).r (y 2) w5:=hE 2 (by decide);have hH:((xU w4.heap.size H.dk)).r (y 5) w5:=hE 5 (by decide);have kD:((MK w4.heap.size (bQ H.fi H.ct))).r (y 8) w5:=hE 8 (by decide);clear hE;simp only[dD,bu,bH,bL];obtain⟨ub,uq,kN,ke⟩:=hF;obtain⟨vb,vq,kM,kd⟩:=hH;obtain⟨us,ps,ks,kL,kc,kP⟩:=kD;have k5 : -9223372036854775808≤ks∧ks≤9223372036854775807:=by have e:ks=H.ct:=congrArg St.count kP;rw[e];exact h.c64
 obtain⟨ab,cb,rfl,_⟩:=ke.b.rd;obtain⟨aq,cq,rfl,_⟩:=ke.q.rd;obtain⟨db,eb,rfl,_⟩:=kd.b.rd;obtain⟨dq,eq,rfl,_⟩:=kd.q.rd;obtain⟨as_,cs,rfl,_⟩:=kc.rd;rw[kN,kM,kL];have k2:Hid (∀p∈ps,∀x,oB p.a=some x→oB a2≠some x):=ae (fun p hp x hx e=>by have h1:=(oC hN e).2.choose_spec.lt;obtain⟨i,hi,rfl⟩:=jG.1 hp;have h2:=(oC (kc.each i _ (aN hi)) hx).1;omega);have bx5:=bx4'.ext z;have rx5:=rx4.ext z;have hY:=ah hD z;have km:=kn.below z;have kk:=hN.below z;have hI:=ae hD.size;clear z bx4' rx4 kh kN kM kL kn hN hD
 go_wp2_with (refine fI rfl _ _ _ rfl w.heap.size 3 #[.slice ab H.sw.blocks.length cb,.slice aq H.sw.queue.length cq] rfl rfl _ _ bx5 (by show 3+2≤11;decide) disk_size (pU _ _ _ _ _ _) ?_)
 intro w6 bx6 hl;have hX:=hY.grown hl hY.size (fun k hk=>by cases hk;exact az _);have rx6:=rx5.grown hl (fun e=>by have:=aT e;omega);have p1:=ay km bx5 (by decide) hl;have p2:=ay kk bx5 (by decide) hl;have p3:=ke.keep bx5 (by decide) (by decide) hl;have p4:=kd.keep bx5 (by decide) (by decide) hl;have p5:=kc.keep bx5 (by decide) (by decide) hl;clear bx5 rx5 hl km kk ke kd kc hY
 go_wp2_with (refine fI rfl _ _ _ rfl w.heap.size 5 #[.slice db H.dk.blocks.length eb,.slice dq H.dk.queue.length eq] rfl rfl _ _ bx6 (by show 5+2≤11;decide) disk_size (pU _ _ _ _ _ _) ?_)
 intro w7 bx7 hj;have hW:=hX.grown hj hX.size (fun k hk=>by cases hk;exact az _);have rx7:=rx6.grown hj (fun e=>by have:=aT e;omega);have q1:=ay p1 bx6 (by decide) hj;have q2:=ay p2 bx6 (by decide) hj;have q3:=p3.keep bx6 (by decide) (by decide) hj;have q4:=p4.keep bx6 (by decide) (by decide) hj;have q5:=p5.keep bx6 (by decide) (by decide) hj;clear bx6 rx6 hj p1 p2 p3 p4 p5 hX
 go_wp2_with (refine fI rfl _ _ _ rfl w.heap.size 7 #[.slice as_ ps.length cs,.int .i64 ks] rfl rfl _ _ bx7 (by show 7+2≤11;decide) store_size (mU _ _ _ _) ?_)
 intro w8 bx8 hh;have hC:=hW.grown hh hW.size (fun k hk=>by cases hk;exact az _);have rx8:=rx7.grown hh (fun e=>by have:=aT e;omega);have p1:=ay q1 bx7 (by decide) hh;have p2:=ay q2 bx7 (by decide) hh;have p3:=q3.keep bx7 (by decide) (by decide) hh;have p4:=q4.keep bx7 (by decide) (by decide) hh;have p5:=q5.keep bx7 (by decide) (by decide) hh;obtain⟨H8,kB⟩:∃H8:MH,Hid (H8 = { H with af:=a1,cf:=c1,asl:=a2,csl:=c2,wb:=ab,cwb:=cb,wq:=aq,cwq:=cq,db:=db,cdb:=eb,dq:=dq,cdq:=eq,ai:=as_,ci:=cs,fi:=ps,ct:=ks }):=⟨_,ae rfl⟩;have bx8' : aJ w8 w.heap.size (bP H8) 44:=by rw[kB.out];exact bx8
 have kg:=h.below hC;clear bx7 rx7 hh bx8 q1 q2 q3 q4 q5 hW;have ky:w8.cell? ⟨w.heap.size,9,none⟩=some (.slice H.ac H.ca.length H.cc):=by rw[bx8'.cell,kB.out];rfl
 go_wp2_with fail
 refine (Ih H.ca H.ac H.cc _ kg.ca.le kg.ca.nl kg.ca.rd (by omega)).mono ?_;rintro r w9 ⟨v9,rfl,kv,hf⟩;obtain⟨a6,c6,rfl,_⟩:=kv.rd;have bx9:=bx8'.ext hf;have rx9:=rx8.ext hf;have hU:=ah hC hf;have q1:=p1.below hf;have q2:=p2.below hf;have q3:=p3.below hf;have q4:=p4.below hf;have q5:=p5.below hf;have kY:=ae hC.size;clear ky bx8' rx8 kg p1 p2 p3 p4 p5 hf hC
 go_wp2_with (refine aX rfl _ _ _ rfl w.heap.size 9 _ [.slice a6 H.ca.length c6] rfl rfl rfl _ _ bx9 (by show 9+1≤11;decide) caO_size (fun u hu=>by cases bF.1 hu;rfl) ?_)
 intro w10 bx10 g;have ht:=hU.grown g hU.size (fun k hk=>by cases hk;exact az _);have rx10:=rx9.grown g (fun e=>by have:=aT e;omega);have p1:=(ay q1 bx9 (by decide) g).mono kK.out;have p2:=(ay q2 bx9 (by decide) g).mono kK.out;have p3:=(q3.keep bx9 (by decide) (by decide) g).mono hI.out;have p4:=(q4.keep bx9 (by decide) (by decide) g).mono hI.out;have p5:=(q5.keep bx9 (by decide) (by decide) g).mono hI.out;have p6:=(ay kv bx9 (by decide) g).mono kY.out;obtain⟨G,hG⟩:∃G:MH,Hid (G = { H with af:=a1,cf:=c1,asl:=a2,csl:=c2,wb:=ab,cwb:=cb,wq:=aq,cwq:=cq,db:=db,cdb:=eb,dq:=dq,cdq:=eq,ai:=as_,ci:=cs,fi:=ps,ct:=ks,ac:=a6,cc:=c6 }):=⟨_,ae rfl⟩;have bxG:aJ w10 w.heap.size (bP G) 44:=by rw[hG.out];rw[kB.out] at bx10;exact bx10
 clear bx9 rx9 g bx10 q1 q2 q3 q4 q5 kv hU;have gr:Hid (G.ap=H.ap∧G.sp=H.sp∧G.cp=H.cp):=ae (by rw[hG.out];exact⟨rfl,rfl,rfl⟩);have ky:w10.cell? ⟨w.heap.size,10,none⟩=some (.slice H.ap H.sp.length H.cp):=by rw[bxG.cell,hG.out];rfl
 have kW:=h.below ht;have kV:Own w10 w.heap.size 114 10 (.slice none 0 0) ([]:List PS).length (([]:List PS).flatMap vR):=by simpa using Own.nil _ _ _ _
 go_upto_region 6 with (fail);clear ky kW
 go_loopw [3,33] (fun s3 i wr => ∃(q:Nat) (qs:List PS) (av:Option Addr) (cv:Nat),q≤H.sp.length∧i = .int .i64 q∧s3 = .slice av qs.length cv∧Below w.heap.size w wr∧aJ wr w.heap.size (bP G) 44∧aJ wr (w.heap.size+1) _ 44 ∧
  Own wr w.heap.size 132 13 (.slice a1 H.m.fs.length c1) H.m.fs.length (H.m.fs.flatMap oO)∧Own wr w.heap.size 3 1 (.slice a2 H.sl.length c2) H.sl.length (H.sl.map gQ)∧jZ wr w.heap.size (.slice ab H.sw.blocks.length cb) (.slice aq H.sw.queue.length cq) H.sw∧jZ wr w.heap.size (.slice db H.dk.blocks.length eb) (.slice dq H.dk.queue.length eq) H.dk ∧
  oD wr w.heap.size (.slice as_ ps.length cs) ps∧Own wr w.heap.size 124 3 (.slice a6 H.ca.length c6) H.ca.length (H.ca.flatMap jO)∧Own wr w.heap.size 114 10 (.slice av qs.length cv) qs.length (qs.flatMap vR)∧(∀p∈qs,uD wr w.heap.size p p.sp∧Ay p.tb)∧Hid (qs.map PS.sp=(H.sp.take q).map PS.sp)) (fun _ i _=>H.sp.length-(intOf i).toNat)
 case atStart=>exact⟨0,[],none,0,bK _,rfl,rfl,ht,bxG,rx10,p1,p2,p3,p4,p5,p6,kV,fun p hp=>(by simp at hp),ae rfl⟩
 case round=>
  clear ht bxG rx10 p1 p2 p3 p4 p5 p6 kV;obtain⟨q,qs,av,cv,hq,rfl,rfl,hv,bx,rx,p1,p2,p3,p4,p5,p6,ho,hL,kb⟩:=hrel;have gu:qs.length≤q:=by have:=congrArg List.length kb.out;rw[gK,gK,fG] at this;omega
  by_cases hql2:q<H.sp.length
  ·obtain⟨bs,os,P,k7,hP,kQ⟩:=vN (h.below hv).sp.rd q hql2;have hr:=zm (h.below hv) hP;have k8:=dn hP;obtain⟨gs,kC⟩:=hz.spz k8;have k1:(q:Int)<(H.sp.length:Int):=by omega
   have kS:Hid (qs.map PS.sp++[P.sp]=(H.sp.take (q+1)).map PS.sp):=ae (by rw[take_at hP,jJ,kb.out];rfl);rw[k7];have kj:(Ag P).all (·.oneCell')=true:=by rw[←iF,dh];exact hr.one
   go_wp2_with (first | (refine aA _ _ rfl bs (os+q*10) rfl rfl _ kQ _ underlying114 rfl space_size ?_) | (refine aW rfl _ _ _ rfl (Ag P) rfl rfl rfl space_size kj ?_))
   intro w11 l fx;have hc:=ah hv l;have d:=hr.below l;have bx11:=bx.ext l;have rx11:=rx.ext l;have q1:=p1.below l;have q2:=p2.below l;have q3:=p3.below l;have q4:=p4.below l;have q5:=p5.below l;have q6:=p6.below l;have hO:=ho.below l;have hm:∀p∈qs,uD w11 w.heap.size p p.sp∧Ay p.tb:=fun p hp=>⟨(hL p hp).1.below l,(hL p hp).2⟩;have kx:=ae hc.size;clear hv hr bx rx p1 p2 p3 p4 p5 p6 ho hL l kQ kj hP;go_upto_region 8 with (fail);refine UM 0 3 (.slice av qs.length cv) (by kernel_rfl) (by kernel_rfl) rfl fun ops0 hM => ?_;simp only[freedL,Bj] at hM;subst hM;refine Fj 11 12 [] [gX (.slice av qs.length cv),gX (.pointer (some ⟨wr.heap.size,0,none⟩)),gX (.bool P.lv),gX (.pointer (some ⟨wr.heap.size,1,none⟩)),gX (.slice P.aa P.ar.length P.ac),(gM w11.heap.size 143 7 P.ar.length (P.ar.flatMap fD)),gX (.pointer (some ⟨wr.heap.size,2,none⟩)),gX (.agg (rT P.ts)),(KV w11.heap.size P.tb),(VQ w11.heap.size P.sp),(WU w11.heap.size P.sp)] (by kernel_rfl) (by kernel_rfl) (by kernel_rfl) (by kernel_rfl) (by kernel_rfl) (by decide) (Nat.le_of_ble_eq_true (by kernel_rfl)) _ rfl (by kernel_rfl) (aj ?_ (aj ?_ (aj ?_ (aj ?_ (aj ?_ (aj ?_ (aj ?_ (aj ?_ (aj ?_ (aj ?_ (aj ?_ (aG)))))))))))) (aG) rfl ?_
   ·refine aC rfl ?_;intro ρ y W hw hn hb hd;refine ak (.slice av qs.length cv) (ag rfl) (run_move (.inl rfl) (hn (.const _) trivial)) rfl
   ·refine aC rfl ?_;intro ρ y W hw hn hb hd;have E5:ρ (.tmp 5) = .pointer (some ⟨wr.heap.size,0,none⟩):=(hn (.tmp 5) rfl).trans rfl;refine ak (.pointer (some ⟨wr.heap.size,0,none⟩)) (ag rfl) (by simp[execOp,go_sem,E5]) rfl
   ·refine aC rfl ?_;intro ρ y W hw hn hb hd;have gk:=hw 38 1 rfl;have h1:y 1 = .pointer (some ⟨wr.heap.size,0,none⟩):=hd 1 rfl;refine ak (.bool P.lv) (ag rfl) (by simp[execOp,go_sem,gk,h1,(fx.ext hb).cell,Ag]) rfl
   ·refine aC rfl ?_;intro ρ y W hw hn hb hd;have E5:ρ (.tmp 5) = .pointer (some ⟨wr.heap.size,0,none⟩):=(hn (.tmp 5) rfl).trans rfl;refine ak (.pointer (some ⟨wr.heap.size,1,none⟩)) (ag rfl) (by simp[execOp,go_sem,E5]) rfl
   ·refine aC rfl ?_;intro ρ y W hw hn hb hd;have gi:=hw 40 3 rfl;have h3:y 3 = .pointer (some ⟨wr.heap.size,1,none⟩):=hd 3 rfl;refine ak (.slice P.aa P.ar.length P.ac) (ag rfl) (by simp[execOp,go_sem,gi,h3,(fx.ext hb).cell,Ag]) rfl
   ·refine aC rfl ?_;intro ρ y W hw hn hb hd;have gh:=hw 41 4 rfl;have h4:y 4 = .slice P.aa P.ar.length P.ac:=hd 4 rfl;have EF:∀f,ρ (.func f) = .func (.func f) #[] #[]:=fun f=>hn (.func f) trivial;refine aL _ _ (ag rfl) (aS rfl (EF _) func62 (by kernel_rfl) (by kernel_rfl) (by simp only[bT,bH,bL,gh,h4,EF];rfl)) ?_;have hA:=(d.below hb).ars;refine (sN P.ar P.aa P.ac W hA.le hA.nl hA.rd (by omega)).mono ?_;rintro e w1 ⟨u,rfl,ho,s⟩;exact⟨u,rfl,s,ho.mono hb.size⟩
   ·refine aC rfl ?_;intro ρ y W hw hn hb hd;have E5:ρ (.tmp 5) = .pointer (some ⟨wr.heap.size,0,none⟩):=(hn (.tmp 5) rfl).trans rfl;refine ak (.pointer (some ⟨wr.heap.size,2,none⟩)) (ag rfl) (by simp[execOp,go_sem,E5]) rfl
   ·refine aC rfl ?_;intro ρ y W hw hn hb hd;have gf:=hw 43 6 rfl;have h6:y 6 = .pointer (some ⟨wr.heap.size,2,none⟩):=hd 6 rfl;refine ak (.agg (rT P.ts)) (ag rfl) (bM rfl (gf.trans h6) (bW (fx.ext hb) 2 8) underlying112 tab_agg tab_size) rfl
   ·refine aC rfl ?_;intro ρ y W hw hn hb hd;have gd:=hw 44 7 rfl;have h7:y 7 = .agg (rT P.ts):=hd 7 rfl;have EF:∀f,ρ (.func f) = .func (.func f) #[] #[]:=fun f=>hn (.func f) trivial;refine aL _ _ (ag rfl) (aS rfl (EF _) func63 (by kernel_rfl) (by kernel_rfl) (by simp only[bT,bH,bL,gd,h7,EF];rfl)) ?_;refine (Jw P.tb (rT P.ts) W (d.below hb).tb kC).mono ?_;rintro e w1 ⟨u,rfl,ho,s⟩;exact⟨_,rfl,s,u,rfl,ho.mono hb.size⟩
   ·refine aC rfl ?_;intro ρ y W hw hn hb hd;have gj:=hw 39 2 rfl;have h2:y 2 = .bool P.lv:=hd 2 rfl;have gg:=hw 42 5 rfl;have h5:((gM w11.heap.size 143 7 P.ar.length (P.ar.flatMap fD))).r (y 5) W:=hd 5 rfl;have gc:=hw 45 8 rfl;have h8:((KV w11.heap.size P.tb)).r (y 8) W:=hd 8 rfl;obtain⟨x5,c5,e5,_⟩:=Own.rd h5;obtain⟨cs8,e8,kU⟩:=h8;obtain⟨v8,rfl⟩:=VC kU.sz;have k9:Own W w11.heap.size 143 7 (.slice x5 P.ar.length c5) P.ar.length (P.ar.flatMap fD):=by rw[←e5];exact h5
    refine ak (.agg (Ag ⟨P.lv,x5,c5,P.ar,v8,P.tb⟩)) (ag rfl) (by simp[execOp,go_sem,gj.trans h2,gg,e5,gc,e8,rT,Ag]) ?_;exact⟨⟨P.lv,x5,c5,P.ar,v8,P.tb⟩,rfl,rfl,k9,kU⟩
   ·refine aC rfl ?_;intro ρ y W hw hn hb hd;have gb:=hw 46 9 rfl;have h9:((VQ w11.heap.size P.sp)).r (y 9) W:=hd 9 rfl;obtain⟨p9,e9,k6⟩:=h9;refine gH (.slice (some ⟨W.heap.size,0,none⟩) 1 1) (ag rfl) (by simp[execOp,go_sem,gb,e9,Ag]) ((Below.refl _ _).alloc (az _) (.cells (Ag p9) 114)) ?_;exact⟨_,p9,rfl,dV.new _ _ _,k6.below ((Below.refl _ _).alloc (az _) _)⟩
   intro ρ y WA o ho hw hn hV j n;cases ho;have kr:y 0 = .slice av qs.length cv:=n 0 (by decide);have kJ:y 1 = .pointer (some ⟨wr.heap.size,0,none⟩):=n 1 (by decide);have hF:y 2 = .bool P.lv:=n 2 (by decide);have kH:y 3 = .pointer (some ⟨wr.heap.size,1,none⟩):=n 3 (by decide);have kG:y 4 = .slice P.aa P.ar.length P.ac:=n 4 (by decide);have hH:((gM w11.heap.size 143 7 P.ar.length (P.ar.flatMap fD))).r (y 5) WA:=n 5 (by decide);have kF:y 6 = .pointer (some ⟨wr.heap.size,2,none⟩):=n 6 (by decide);have kE:y 7 = .agg (rT P.ts):=n 7 (by decide);have kD:((KV w11.heap.size P.tb)).r (y 8) WA:=n 8 (by decide);have gt:((VQ w11.heap.size P.sp)).r (y 9) WA:=n 9 (by decide);have kI:((WU w11.heap.size P.sp)).r (y 10) WA:=n 10 (by decide);have kX:=hw 37 0 rfl;rw[kr] at kX;have ga:=hw 47 10 rfl;have EC:∀v,ρ (.const v)=v:=fun v=>hn (.const v) trivial;have EF:∀f,ρ (.func f) = .func (.func f) #[] #[]:=fun f=>hn (.func f) trivial;obtain⟨g10,p10,e10,hJ,g⟩:=kI;refine Nz (ag rfl) (Gt (.tmp 37) (.tmp 47) 42 rfl w.heap.size 114 _ 10 224 underlying42 space_info rfl (by decide) _ _ _ kX (hO.below j) _ 1 1 (vR p10) (ga.trans e10) (fun e=>by cases e) (az _) rfl hJ (Sy g) (by unfold maxLen;omega) (by omega) (aY kx.out j.size)) ?_;rintro v2 w13 ⟨hB,c,hS⟩;clear n hw hn hV;simp only[lay,Nat.reduceAdd,Nat.reduceLT,Nat.reduceEqDiff,reduceIte,decide_true,decide_false,if_true,pV,if_false,si,tH,sZ,sD,sj,sK,kr,kJ,hF,kH,kG,kF,kE];clear kr kJ hF kH kG kF kE;have t:=hO.below j;have hT:=ah hc j;have kz:Below w.heap.size w w13:=hT.grown c hT.size (fun k hk=>t.ge k hk);have hg : Own w13 w.heap.size 114 10 v2 (qs++[p10]).length ((qs++[p10]).flatMap vR):=by rw[jb,gW];simpa using hB
   obtain⟨a13,c13,rfl,_⟩:=hg.rd;have r1:=ko t c (q1.below j) (by decide);have r2:=ko t c (q2.below j) (by decide);have r3:jZ w13 w.heap.size _ _ H.sw:=⟨ko t c (q3.below j).b (by decide),ko t c (q3.below j).q (by decide)⟩;have r4:jZ w13 w.heap.size _ _ H.dk:=⟨ko t c (q4.below j).b (by decide),ko t c (q4.below j).q (by decide)⟩;have r5:=UQ t c (q5.below j);have r6:=ko t c (q6.below j) (by decide);have bx13:=zi t c (bx11.ext j) (by decide);have rx13:=zi t c (rx11.ext j) (by decide);have ku:∀p∈qs++[p10],uD w13 w.heap.size p p.sp∧Ay p.tb:=fun p hp=>by
    rcases iN.1 hp with hp|hp
    ·have h1:=(hm p hp).1.below j;exact⟨⟨rfl,ko t c h1.2.1 (by decide),Ga t c h1.2.2⟩,(hm p hp).2⟩
    rw[bF.1 hp];refine⟨⟨rfl,(ko t c g.2.1 (by decide)).mono kx.out,(Ga t c g.2.2).mono kx.out⟩,?_⟩;have e:p10.tb=P.tb:=congrArg Sp.tb g.1;rw[e];exact kC
   have kR:Hid ((qs++[p10]).map PS.sp=(H.sp.take (q+1)).map PS.sp):=ae (by rw[jJ,←kS.out,←g.1];rfl);clear hO t hT j hB c hS g hJ fx d bx11 rx11 q1 q2 q3 q4 q5 q6 hm;go_wp2;go_roundw
   case rel=>exact⟨q+1,_,_,_,by omega,by go_num,rfl,kz,bx13,rx13,r1,r2,r3,r4,r5,r6,hg,ku,kR⟩
   case measure=>simp[intOf];omega
  have k1:¬(q:Int)<(H.sp.length:Int):=by omega
  rw[mK (by omega)] at kb
  go_wp2_with (refine aX rfl _ _ _ rfl w.heap.size 10 _ [.slice av qs.length cv] rfl rfl rfl _ _ bx (by show 10+1≤11;decide) slsp_size (fun u hu=>by cases bF.1 hu;rfl) ?_)
  intro w11 bx11 d;have hc:=hv.grown d hv.size (fun k hk=>by cases hk;exact az _);have rx11:=rx.grown d (fun e=>by have:=aT e;omega);obtain⟨K,hK⟩:∃K:MH,Hid (K = { G with ap:=av,cp:=cv,sp:=qs }):=⟨_,ae rfl⟩;have bxK:aJ w11 w.heap.size (bP K) 44:=by rw[hK.out];exact bx11
  have kT:qf w11 w.heap.size K:=by rw[hK.out,hG.out];exact⟨ay p1 bx (by decide) d,ay p2 bx (by decide) d,p3.keep bx (by decide) (by decide) d,p4.keep bx (by decide) (by decide) d,p5.keep bx (by decide) (by decide) d,ay p6 bx (by decide) d,ay ho bx (by decide) d,fun p hp=>⟨ay (hL p hp).1.2.1 bx (by decide) d,(hL p hp).1.2.2.keep bx (by decide) d⟩,k5⟩
  have k3:K.ma=H.ma:=by rw[hK.out,hG.out];unfold MH.ma;simp only;rw[kb.out,kP]
  have kZ:∀p∈K.fi,∀x,oB p.a=some x→oB K.asl≠some x:=by rw[hK.out,hG.out];exact k2.out
  clear hv bx rx d bx11 p1 p2 p3 p4 p5 p6 ho
  go_wp2_with (first | (refine aA _ _ rfl w.heap.size 0 rfl rfl (bP K).toList bxK.rd _ underlying44 rfl mach_size ?_) | (refine ax rfl _ _ _ rfl (w.heap.size+1) (bP K) rfl rfl _ _ rx11 rfl mach_size (dz K) ?_))
  intro w12 rx12 kq;have kA:=hc.grown kq hc.size (fun k hk=>by cases hk;omega);go_wp2;refine bodyPost_ret (v:=.agg (bP K)) (bB results33 _ _ (w.heap.size+1) _ _ _ rfl rx12 underlying44 rfl mach_size) rfl ?_;exact⟨K,rfl,kT.keep rx11 (by decide) kq,k3,kZ,kA⟩
theorem Nu (k:Kp) (p:Nat) (n:Int):(iG k p n).m.sp.length=k.m.sp.length:=by
 unfold iG;dsimp only;split
 ·rw[(rH _ _ _ _).1,Ja]
 split
 ·rw[(rH _ _ _ _).1];unfold lY;split<;>rfl
 ·rfl
theorem Jm (k:Kp) (p:Nat) (a n:Int) (l:List Int) (j:Nat) (hj:j<l.length):jy k p a n (l.take (j+1))=if TH a n l[j]=true then iG (jy k p a n (l.take j)) p l[j] else jy k p a n (l.take j):=by
 unfold jy;rw[mI,xG,aN hj];rfl
theorem KL (H:MH) (e a n:Int) (p:Nat) (B b:Nat) (w:World) (h:iJ w B b H e) (hp:p<H.sp.length) (ha:0≤a∧a≤64) :
  Calls Tryz.prog 111 #[.pointer (some ⟨b,0,none⟩),.int .i64 p,.int .i64 a,.int .i64 n] w fun r w'=>r = .returned (.tuple #[])∧KR w B b H w' (zZ ⟨H.ma,e⟩ p a n):=by
 obtain⟨P,hP⟩:∃P,H.sp[p]?=some P:=⟨_,aN hp⟩;have hf:Hid (zZ ⟨H.ma,e⟩ p a n=jy ⟨H.ma,e⟩ p a n (aM P.tb)):=ae (by unfold zZ;rw[nT hP];rfl);obtain⟨g,off,hd,hg,y,q⟩:=h.at hP;have hc:=h.blk.cell;unfold lG at hc;rw[hd] at hc;have hk:(p:Int)<(H.sp.length:Int):=by omega
 go_enter func111,ntmps111
 go_wp2_with (refine aA _ _ rfl g (off+p*10+2) rfl rfl _ y _ underlying112 tab_agg tab_size ?_)
 refine (ru P.tb (rT P.ts) _ q.tb).mono ?_;rintro r w1 ⟨v1,rfl,v,x⟩;obtain⟨a2,c2,rfl,hs,hb,z,_⟩:=v.rd;have hr:=ae (IL P.tb);generalize aM P.tb=l at *
 have h1:=h.below x;have s1:=(KS.refl w b H).below x;clear hc hg y q hd h hP hk z x;unfold maxLen at hb;go_wp2
 go_loopw [21] (fun s21 wr => ∃(j:Nat) (Hj:MH) (ej:Int),j≤l.length∧s21 = .int .i64 j∧iJ wr B b Hj ej∧KS w b H wr Hj∧Hid (Kp.mk Hj.ma ej=jy ⟨H.ma,e⟩ p a n (l.take j))∧Own wr w.heap.size 3 1 (.slice a2 l.length c2) l.length (l.map gQ)∧Hj.sp.length=H.sp.length) (fun s21 _=>l.length-(intOf s21).toNat)
 case atStart=>exact⟨0,H,e,bK _,rfl,h1,s1,ae rfl,v,rfl⟩
 case round=>
  clear v h1 s1;obtain⟨j,Hj,ej,hj,rfl,f,sj3,qj,d,t⟩:=hrel
  by_cases hjl:j<l.length
  ·have hn:(j:Int)<(l.length:Int):=by omega
   obtain⟨_,_,e9,_,_,_,s⟩:=d.rd;cases e9;have u:=s j (gQ l[j]) (by rw[jd,aN hjl];rfl);obtain⟨bl,ol,rfl,u⟩:=u;unfold gQ at u;have hi:=hr.out _ (eX hjl);have c:=ae (Jm ⟨H.ma,e⟩ p a n l j hjl);generalize l[j]=i at *
   have hh:p<Hj.sp.length:=by rw[t];exact hp
   by_cases h1:a≤i
   ·by_cases h2:i-a<n
    ·have hq:Hid (jy ⟨H.ma,e⟩ p a n (l.take (j+1))=iG (jy ⟨H.ma,e⟩ p a n (l.take j)) p i):=ae (by rw[c.out];exact if_pos (by unfold TH;simp[h1,h2]))
     go_wp2_with fail
     refine (xu Hj ej i p B b _ f hh).mono ?_;rintro r w6 ⟨rfl,H6,e6,h6,s6,q6⟩;have hl:=s6.own f d (by decide);have s06:=sj3.trans s6;have hm:H6.sp.length=H.sp.length:=by have e1:=congrArg (fun k=>k.m.sp.length) q6;rw[vE (e1.trans (Nu ⟨Hj.ma,ej⟩ p i)),t]
     have o:Hid (Kp.mk H6.ma e6=jy ⟨H.ma,e⟩ p a n (l.take (j+1))):=ae (by rw[hq.out,←qj.out];exact q6);clear q6 s6 f sj3 d qj hq s u;go_wp2;go_roundw
     case rel=>exact⟨j+1,H6,e6,by omega,by go_num,h6,s06,o,hl,hm⟩
     case measure=>simp[intOf];omega
    have o:Hid (Kp.mk Hj.ma ej=jy ⟨H.ma,e⟩ p a n (l.take (j+1))):=ae (by rw[c.out,if_neg (by unfold TH;simp[h2])];exact qj.out);clear qj s;go_wp2;go_roundw
    case rel=>exact⟨j+1,Hj,ej,by omega,by go_num,f,sj3,o,d,t⟩
    case measure=>simp[intOf];omega
   have o:Hid (Kp.mk Hj.ma ej=jy ⟨H.ma,e⟩ p a n (l.take (j+1))):=ae (by rw[c.out,if_neg (by unfold TH;simp[h1])];exact qj.out);clear qj s;go_wp2;go_roundw
   case rel=>exact⟨j+1,Hj,ej,by omega,by go_num,f,sj3,o,d,t⟩
   case measure=>simp[intOf];omega
  have hn:¬(j:Int)<(l.length:Int):=by omega
  rw[mK (by omega)] at qj;clear d;go_wp2;simp[bodyPost,results,go_sem,results111];exact⟨_,_,f,sj3,qj.out.trans hf.out.symm⟩
theorem Om (k:Kp) (p:Nat) (a n:Int) (l:List Int):(jy k p a n l).m.sp.length=k.m.sp.length:=by
 unfold jy
 induction l generalizing k with
 | nil=>rfl
 | cons i l ih=>
  rw[sH,ih];split
  ·exact Nu _ _ _
  ·rfl
def zPS:PS:=⟨false,none,0,[],nTs,zTb⟩
theorem iJ.putP {e:Int} (h:iJ w B b H e) (hp:p<H.sp.length) :
  ∃g off cur,H.ap=some ⟨g,off,none⟩∧B≤g∧aJ w g cur 114∧off+p*10+10≤cur.size ∧
   ∀(w' : World) (P:PS),Own w B 143 7 (.slice P.aa P.ar.length P.ac) P.ar.length (P.ar.flatMap fD)→uM w B (rT P.ts) P.tb→Ay P.tb→aJ w' g (dE cur (off+p*10) (vR P)) 114→w.grownBy w' (some g)→iJ w' B b { H with sp:=H.sp.set p P } e:=by
 obtain⟨g,off,cap,cur,hv,hB,a,k,d⟩:=pq vw (by decide) rfl h.ma.sp p hp;simp only[lV] at hv;obtain⟨j,_,l⟩:=hv;refine⟨g,off,cur,j,hB,a,by omega,fun w' P ha ht f hb hg => ?_⟩;have c:(H.sp.set p P).length=H.sp.length:=cO;have i:b≠g:=fun e=>by have h1:=h.blk;subst e;unfold aJ at h1 a;rw[h1] at a;simp only[iq,qx] at a;exact absurd a.2.1 (by decide)
 refine⟨?_,h.ge,⟨ay h.ma.fr a (by decide) hg,ay h.ma.sl a (by decide) hg,h.ma.sw.keep a (by decide) (by decide) hg,h.ma.dk.keep a (by decide) (by decide) hg,h.ma.st.keep a (by decide) (by decide) hg,ay h.ma.ca a (by decide) hg,?_,fun q hq => ?_,h.ma.c64⟩,fun q hq => ?_⟩
 ·have:lG { H with sp:=H.sp.set p P } e=lG H e:=by unfold lG;simp only[c]
  rw[this];exact h.blk.grown hg (fun e=>i (aT e).symm)
 ·simp only[c];exact d w' _ hb
 ·rcases lF hq with hq|rfl
  ·exact⟨ay (h.ma.ps q hq).1 a (by decide) hg,(h.ma.ps q hq).2.keep a (by decide) hg⟩
  ·exact⟨ay ha a (by decide) hg,ht.keep a (by decide) hg⟩
 rcases lF hq with hq|rfl
 ·exact h.tz q hq
 ·exact f
theorem Cw (H:MH) (p:Nat) (P:PS):MH.ma { H with sp:=H.sp.set p P }=lD H.ma p P.sp:=by
 unfold lD MH.ma;simp only[xn]
theorem fu (h:Below B w w1) (k:Below B w1 w2):Below B w w2:=
 ⟨k.os.trans h.os,k.tape.trans h.tape,k.output.trans h.output,aY h.size k.size,fun i hi=>(k.block i hi).trans (h.block i hi)⟩
theorem machT:44≠192∧44≠132∧44≠124∧44≠114:=by decide
def yl (H:MH) (p:Int):Prop:=p<0∨(H.sp.length:Int)≤p∨(bE H.ma p.toNat).lv=false
def VE (H:MH) (p:Int) (w:World) (r:Ending) (w' : World):Prop:=
 Below w.heap.size w w'∧((yl H p∧r = .returned (.tuple #[.agg (bP noH),.int .i64 5]))∨(¬yl H p∧∃H' : MH,r = .returned (.tuple #[.agg (bP H'),.int .i64 0])∧qf w' w.heap.size H'∧Gone H.ma H'.ma p.toNat∧H'.ma=(vM H.ma p.toNat).m))
theorem Rs (H:MH) (p:Int) (w:World) (h:EM w H) (hR:Rt H.ma) (hC:Co H.ma) :
  Calls Tryz.prog 70 #[.agg (bP H),.int .i64 p] w (VE H p w):=by
 have u:=ae hR;have hI:=ae hC;clear hR hC;go_enter func70,ntmps70;go_upto_region 1 with (fail);refine uj (fun W=>Code.wp _ _ _ _ W) fun w1 hj bx1 rx1 hx => ?_;have rx1:aJ w1 (w.heap.size+1) (bP noH) 44:=rx1;have h1:=h.below hj;clear h
 go_wp2_with (refine aA _ _ rfl w.heap.size 0 rfl rfl _ bx1.rd _ underlying44 rfl machine_size ?_)
 refine (oP H _ h1).mono ?_;rintro r w2 ⟨rfl,n⟩;rw[Aa.2 u.out];have h2:=h1.below n;have bx2:=bx1.ext n;have rx2:=rx1.ext n;have a:=ah hj n;clear h1 bx1 rx1 hj n hx;have hc:=bx2.cell;unfold bP at hc
 by_cases c1:p<0
 ·have c:Hid (yl H p):=ae (.inl c1)
  go_wp2_with (refine ax rfl _ _ _ rfl (w.heap.size+1) (bP noH) rfl rfl _ _ rx2 rfl mach_size (dz noH) ?_)
  intro we d i;have b:=a.grown i a.size (fun k hk=>by cases hk;omega);go_wp2;refine bodyPost_ret (v:=.tuple #[.agg (bP noH),.int .i64 5]) (eF results70 _ _ (w.heap.size+1) _ _ _ _ rfl rfl d underlying44 rfl mach_size) rfl ?_;exact⟨b,.inl ⟨c.out,rfl⟩⟩
 by_cases c2:(H.sp.length:Int)≤p
 ·have c:Hid (yl H p):=ae (.inr (.inl c2))
  go_wp2_with (refine ax rfl _ _ _ rfl (w.heap.size+1) (bP noH) rfl rfl _ _ rx2 rfl mach_size (dz noH) ?_)
  intro we d i;have b:=a.grown i a.size (fun k hk=>by cases hk;omega);go_wp2;refine bodyPost_ret (v:=.tuple #[.agg (bP noH),.int .i64 5]) (eF results70 _ _ (w.heap.size+1) _ _ _ _ rfl rfl d underlying44 rfl mach_size) rfl ?_;exact⟨b,.inl ⟨c.out,rfl⟩⟩
 obtain⟨P,hP⟩:∃P:Nat,p=P:=⟨p.toNat,by omega⟩;subst hP;have o:P<H.sp.length:=by omega
 obtain⟨gs,os,Q,hu,hQ,hm⟩:=vN h2.sp.rd P o;rw[hu] at hc;have hg:w2.cell? ⟨gs,os+P*10,none⟩=some (.bool Q.lv):=by obtain⟨b',o',e',hF⟩:=hm 0 _ rfl;cases e';exact hF
 have hl:=ae (nT hQ);cases hlvQ:Q.lv with
 | false=>
  rw[hlvQ] at hg;have c:Hid (yl H (P:Int)):=ae (.inr (.inr (by rw[bG,hl.out];exact hlvQ)))
  go_wp2_with (refine ax rfl _ _ _ rfl (w.heap.size+1) (bP noH) rfl rfl _ _ rx2 rfl mach_size (dz noH) ?_)
  intro we d i;have b:=a.grown i a.size (fun k hk=>by cases hk;omega);go_wp2;refine bodyPost_ret (v:=.tuple #[.agg (bP noH),.int .i64 5]) (eF results70 _ _ (w.heap.size+1) _ _ _ _ rfl rfl d underlying44 rfl mach_size) rfl ?_;exact⟨b,.inl ⟨c.out,rfl⟩⟩
 | true=>
  rw[hlvQ] at hg;have hz:Hid (¬yl H (P:Int)):=ae (by
   rintro (e|e|e)
   ·exact c1 e
   ·exact c2 e
   ·rw[bG,hl.out] at e;exact absurd (hlvQ.symm.trans e) (by decide))
  go_wp2_with (refine aA _ _ rfl w.heap.size 0 rfl rfl _ bx2.rd _ underlying44 rfl machine_size ?_)
  refine (nA H _ h2 (tC u.out)).mono ?_;rintro r w3 ⟨H3,rfl,hn,f,_,hi⟩;have hr:Hid (H3.sp.length=H.sp.length):=ae (vE (by rw[f]));have hp:=ae f;have rx3:=rx2.ext hi;have hb:=ah a hi;clear bx2 rx2 hc hg hm h2 hu f;unfold bP;go_upto_region 7 with (fail);refine je (fun W=>Code.wp _ _ _ _ W) fun w4 t kx4 hw => ?_;have k4:iJ w4 w.heap.size w3.heap.size H3 0:=⟨kx4,hb.size,(hn.mono a.size).below t,fun q hq=>(Qx.spz (H:=H3) (by rw[hp.out];exact tC u.out) hq).2⟩;have rx4:=rx3.ext t;have ha:=ah hb t;clear hi t hn a kx4 hw rx3
  go_wp2_with fail
  refine (KL H3 0 0 64 P _ _ _ k4 (by rw[hr.out];exact o) (by omega)).mono ?_;rintro r w5 ⟨rfl,H5,e5,k5,s5,q5⟩;have hB:Hid (H5.sp.length=H3.sp.length):=ae (by have e1:=congrArg (fun k=>k.m.sp.length) q5;refine vE (e1.trans ?_);exact Om _ _ _ _ _);obtain⟨m',hf,hG⟩:=NG u.out hI.out (p:=P) (by rw[pI];exact o);have hd:vM H.ma P=⟨lD H5.ma P zSp,e5⟩:=by unfold vM;rw[←hp.out,←q5]
  have hD:Hid ((vM H.ma P).m=lD H5.ma P zSp):=ae (by rw[hd]);rw[hd] at hf;obtain⟨rfl,rfl⟩:=Kp.mk.inj hf;have hH:=ae hG;have rx5:=s5.blk k4 rx4 machT;have j:=fu ha (s5.to k4 (az _));have hy:P<H5.sp.length:=by rw[hB.out,hr.out];exact o
  have hK:(P:Int)<(H5.sp.length:Int):=by omega
  clear hf hd hG q5 s5 k4 rx4 ha;obtain⟨g,off,cur,hv,hJ,l,y,x⟩:=k5.putP hy;have hh:=k5.blk.cell;unfold lG at hh;rw[hv] at hh;have rxl:=rx5.lt
  go_wp2_with (refine fI rfl _ _ _ rfl g (off+P*10) #[.bool false,.slice none 0 0,.slice none 0 0,.slice none 0 0,.slice none 0 0,.slice none 0 0,.slice none 0 0,.slice none 0 0,.slice none 0 0,.slice none 0 0] rfl rfl _ _ l y space_size (by simp[Value.oneCell']) ?_)
  intro w6 ht s;have k6:=x w6 zPS (Own.nil _ _ _ _) (Bf _ _) (vT zTb_right) ht s;have rx6:=aH rx5 l (by decide) s;have z:=j.grown s j.size (fun k hk=>by cases hk;exact hJ);clear hh k5 rx5 j ht s x l y hv;have hE:=k6.blk.cell;unfold lG at hE
  go_wp2_with (first | (refine aA _ _ rfl w3.heap.size 0 rfl rfl (bP { H5 with sp:=H5.sp.set P zPS }).toList (bW k6.blk 0 11) _ underlying44 rfl machine_size ?_) | (refine ax rfl _ _ _ rfl (w.heap.size+1) (bP { H5 with sp:=H5.sp.set P zPS }) rfl rfl _ _ rx6 rfl mach_size (dz _) ?_))
  intro w7 rx7 hs;have b:=z.grown hs z.size (fun k hk=>by cases hk;omega);have hA:=k6.ma.keep rx6 (by decide) hs;go_wp2;refine bodyPost_ret (v:=.tuple #[.agg (bP { H5 with sp:=H5.sp.set P zPS }),.int .i64 0]) (eF results70 _ _ (w.heap.size+1) _ _ _ _ rfl rfl rx7 underlying44 rfl mach_size) rfl ?_;exact⟨b,.inr ⟨hz.out,_,rfl,hA,by rw[Cw];exact hH.out,by rw[Cw];exact hD.out.symm⟩⟩
def XR (H:MH) (p:Nat) (n:Int) (wr:Bool) (w:World) (r:Ending) (w' : World):Prop:=
 Below w.heap.size w w'∧((mg H.ma p n wr≠0∧r = .returned (.tuple #[.agg (bP noH),.int .i64 0,.int .i64 (mg H.ma p n wr)])) ∨
  (mg H.ma p n wr=0∧∃H' : MH,r = .returned (.tuple #[.agg (bP H'),.int .i64 (ui H.ma p n wr),.int .i64 0])∧qf w' w.heap.size H'∧H'.ma=pR H.ma p n wr))
def Py (m:Ma):Prop:=∀p,∀a∈(bE m p).ar,a.fi<m.st.fs.length
theorem Py.at (h:Py m) (hf:0≤eQ (bE m p).ar n):(jo m p n).fi<m.st.fs.length:=by
 obtain⟨k,hk,a,_⟩:=uK (q:=uT n) (l:=(bE m p).ar) hf;have b : eQ (bE m p).ar n=k:=hk;unfold jo;rw[b,bG,bJ,aN a];exact h p _ (eX a)
theorem Ku (hR:Rt m) {w:Bool} (hp:p<m.sp.length) (hv:(bE m p).lv=true):mg m p n w=if ng m p n w≠0 then ng m p n w
  else if 0≤(jo m p n).fi∧copied m p n=false∧nZ m.st (jo m p n).fi ((jo m p n).ba+n-(jo m p n).fr)=true then 9
  else if (kS m p n w).2<0 then 10 else (kS m p n w).1.e:=by
 unfold mg;rw[if_neg (by rw[Aa.2 hR];simp),if_neg (by rw[bG,hv];simp;omega),bG]
theorem Xr (E:En) (W:World):(Instr.field 129 (.agg #[.int .i64 E.k,.int .i64 E.n,.bool E.w]) 2).run Tryz.prog W = .ok (.bool E.w) W:=by
 simp[Instr.field,go_sem];rfl
theorem Kv (H:MH) (p:Nat) (n:Int) (wr:Bool) (w:World) (h:EM w H) (hR:Rt H.ma) (hC:Co H.ma) (hF:Py H.ma) (hp:p<H.sp.length) (hv:(bE H.ma p).lv=true) :
  Calls Tryz.prog 116 #[.agg (bP H),.int .i64 p,.int .i64 n,.bool wr] w (XR H p n wr w):=by
 have kU:p<H.ma.sp.length:=by rw[pI];exact hp
 have hu:=ae (Ku (n:=n) (w:=wr) hR kU hv);have g1:=ae hF;have gR:=ae hv;clear hF hv;have o:=ae hR;have k3:=ae hC;have gc:=ae (tC hR);clear hR hC;go_enter func116,ntmps116;go_upto_region 1 with (fail);refine uj (fun W=>Code.wp _ _ _ _ W) fun w1 kx bx1 rx1 gU => ?_;have bx1:aJ w1 w.heap.size (bP H) 44:=bx1;have rx1:aJ w1 (w.heap.size+1) (bP noH) 44:=rx1;have h1:=h.below kx;clear h
 go_wp2_with (refine aA _ _ rfl w.heap.size 0 rfl rfl _ bx1.rd _ underlying44 rfl machine_size ?_)
 refine (oP H _ h1).mono ?_;rintro r w2 ⟨rfl,ka⟩;rw[Aa.2 o.out];have h2:=h1.below ka;have bx2:=bx1.ext ka;have rx2:=rx1.ext ka;have ko:=ah kx ka;clear h1 bx1 rx1 kx ka gU;obtain⟨Q,hQ⟩:∃Q,H.sp[p]?=some Q:=⟨_,aN hp⟩;have kT:=ae (nT hQ);have g7:(p:Int)<(H.sp.length:Int):=by omega
 have g9:decide ((p:Int)<0)=false:=decide_eq_false (by omega);have g8:decide ((H.sp.length:Int)≤(p:Int))=false:=decide_eq_false (by omega);have hc:=bx2.cell;unfold bP at hc;obtain⟨gs,os,Q',ks,kt,ha⟩:=vN h2.sp.rd p hp;rw[hQ] at kt;cases kt;rw[ks] at hc;have gY:w2.cell? ⟨gs,os+p*10,none⟩=some (.bool true):=by
  obtain⟨b',o',e',kw⟩:=ha 0 _ rfl;cases e';have:Q.lv=true:=by have:=gR.out;rw[kT.out] at this;exact this
  rw[this] at kw;exact kw
 go_wp2_with (refine aA _ _ rfl w.heap.size 0 rfl rfl _ bx2.rd _ underlying44 rfl machine_size ?_)
 refine (nA H _ h2 gc.out).mono ?_;rintro r w3 ⟨H3,rfl,gl,hN,_,hJ⟩;have hr:=ae hN;have gQ:Hid (Qx H3.ma):=ae (by rw[hN];exact gc.out);have rx3:=rx2.ext hJ;have bx3:=bx2.ext hJ;have h3:=h2.below hJ;have kn:=ah ko hJ;have gk:p<H3.sp.length:=by rw[vE (show H3.ma.sp.length=H.ma.sp.length by rw[hN])];exact hp
 clear bx2 rx2 h2 hN hc gY ha ks;unfold bP;go_upto_region 7 with (fail);refine je (fun W=>Code.wp _ _ _ _ W) fun w4 h9 kx4 gT => ?_;have k4:iJ w4 w.heap.size w3.heap.size H3 0:=⟨kx4,kn.size,(gl.mono ko.size).below h9,fun q hq=>(Qx.spz (H:=H3) gQ.out hq).2⟩;have rx4:=rx3.ext h9;have bx4:=bx3.ext h9;have h4:=h3.below h9;have kI:=ah kn h9;clear hJ h9 gl ko kx4 gT rx3 bx3 h3 kn;generalize w3.heap.size=b at k4
 go_wp2_with fail
 refine (Tj H3 0 n p wr _ b _ k4 gk).mono ?_;rintro r w5 ⟨rfl,hZ⟩;rw[hr.out];have k5:=k4.below hZ;have rx5:=rx4.ext hZ;have bx5:=bx4.ext hZ;have h5:=h4.below hZ;have kH:=ah kI hZ;clear k4 rx4 bx4 h4 hZ kI
 go_wp2_with (refine aW rfl _ _ _ rfl (kQ (EI H.ma p n wr)) rfl rfl rfl jH (wD _) ?_)
 intro w6 hY ax6;have k6:=k5.below hY;have rx6:=rx5.ext hY;have bx6:=bx5.ext hY;have h6:=h5.below hY;have hV:=ah kH hY;clear k5 rx5 bx5 h5 hY kH;generalize w5.heap.size=ga at *
 by_cases h0:ng H.ma p n wr≠0
 ·have hl:Hid (mg H.ma p n wr=ng H.ma p n wr):=ae (by rw[hu.out];exact if_pos h0);generalize hE:ng H.ma p n wr=E at *
  clear k6 bx6 h6 ax6 hu
  go_wp2_with (refine ax rfl _ _ _ rfl (w.heap.size+1) (bP noH) rfl rfl _ _ rx6 rfl mach_size (dz noH) ?_)
  intro we kb a;have c:=hV.grown a hV.size (fun k hk=>by cases hk;omega);go_wp2;refine bodyPost_ret (v:=.tuple #[.agg (bP noH),.int .i64 0,.int .i64 E]) (bR results116 _ _ (w.heap.size+1) _ _ _ _ _ rfl rfl rfl kb underlying44 rfl mach_size) rfl ?_;exact⟨c,.inl ⟨by rw[hl.out];exact h0,by rw[hl.out]⟩⟩
 replace h0:=qU.1 h0;have gN:EI H.ma p n wr=jo H.ma p n:=by unfold EI;rw[h0];exact if_neg (by simp)
 rw[gN] at ax6;rw[h0];have kg:0≤eQ (bE H.ma p).ar n:=by
  by_cases e:eQ (bE H.ma p).ar n<0
  ·unfold ng at h0;rw[if_pos e] at h0;cases h0
  ·omega
 have hW:Hid (mg H.ma p n wr=if 0≤(jo H.ma p n).fi∧copied H.ma p n=false∧nZ H.ma.st (jo H.ma p n).fi ((jo H.ma p n).ba+n-(jo H.ma p n).fr)=true then 9 else if (kS H.ma p n wr).2<0 then 10 else (kS H.ma p n wr).1.e):=ae (by rw[hu.out,if_neg (by rw[h0];simp)]);obtain⟨g,hg⟩:∃g,dQ H.ma p n=some g:=by
  have:=(yQ _ _).1 kg;unfold dQ;cases e:onA (bE H.ma p).ar n with
  | none=>rw[e] at this;simp at this
  | some g=>exact⟨g,rfl⟩
 have kv:=ae hg;have ki:=ae (g1.out.at kg);have kj:=ae (Rn o.out.pt p n);have gX:=ae (o.out.pt.pg hg);have gF:=ae (vD hg);have gn:=ae ((Cb (w:=wr) hg).1 h0);have hs:Hid (copied H.ma p n=(decide ((dB Q.tb n).k=2)||(decide ((dB Q.tb n).k=1)&&decide ((gL H.ma (dB Q.tb n).n).f<0)))):=ae (by unfold copied aF;rw[kT.out];rfl);clear gN h0 kg hg hu;have hc:=bx6.cell;unfold bP at hc;obtain⟨gs,os,Q',ks,kt,ha⟩:=vN h6.sp.rd p hp;rw[hQ] at kt;cases kt;rw[ks] at hc;have kf:=zm h6 hQ
 go_wp2_with (refine aA _ _ rfl gs (os+p*10+2) rfl rfl _ (nu ha 2 8) _ underlying112 tab_agg tab_size ?_)
 refine (tV Q.tb (rT Q.ts) n _ kf.tb).mono ?_;rintro r w7 ⟨rfl,hI⟩;have a:Hid (aF H.ma p n=dB Q.tb n):=ae (by unfold aF;rw[kT.out];rfl);generalize hx:dB Q.tb n=x at *
 have k7:=k6.below hI;have rx7:=rx6.ext hI;have bx7:=bx6.ext hI;have ax7:=ax6.ext hI;have h7:=h6.below hI;have kG:=ah hV hI;clear k6 rx6 bx6 ax6 h6 hI hV hc ha ks kf hx
 go_wp2_with (refine aW rfl _ _ _ rfl (nk x) rfl rfl rfl entry_size (by simp[nk,Value.oneCell']) ?_)
 intro w8 hH ex8;have k8:=k7.below hH;have rx8:=rx7.ext hH;have bx8:=bx7.ext hH;have ax8:=ax7.ext hH;have h8:=h7.below hH;have kF:=ah kG hH;clear k7 rx7 bx7 ax7 h7 hH kG;generalize w7.heap.size=gx at ex8;go_upto_region 11 with (fail)
 go_cut [16] (fun s16 wx=>s16 = .bool (copied H.ma p n)∧Below w8.heap.size w8 wx)
 case first=>
  have kY:=ex8.cell;unfold nk at kY
  by_cases c2:x.k=2
  ·have hG:Hid (copied H.ma p n=true):=ae (by rw[hs.out,decide_eq_true c2];rfl);rw[c2] at kY;go_wp2;go_meet
   case rel=>exact⟨by rw[hG.out],Below.refl _ _⟩
  by_cases c1:x.k=1
  ·obtain⟨f,e1,hf,_⟩:=gy o.out (show (aF H.ma p n).k=1 by rw[a.out];exact c1);rw[a.out] at e1;obtain⟨gf,of,hz,gV⟩:=nU iR (by decide) h8.fr.rd f (show f<H.m.fs.length from hf);have qb:w8.cell? ⟨gf,of+f*13+11,none⟩=some (.int .i64 (H.m.fs[f]'hf).f):=by obtain⟨b',o',e',kw⟩:=gV 11 _ rfl;cases e';exact kw
   have gr:Hid (gL H.ma x.n=H.m.fs[f]'hf):=ae (by rw[e1];exact Vt (m:=H.ma) hf);have gt:(f:Int)<(H.m.fs.length:Int):=by have:f<H.m.fs.length:=hf;omega
   generalize H.m.fs[f]'hf=X at *
   have hc:=bx8.cell;unfold bP at hc;rw[hz] at hc;clear hz;rw[c1,e1] at kY
   by_cases c3:X.f<0
   ·have hG:Hid (copied H.ma p n=true):=ae (by rw[hs.out,gr.out,decide_eq_true c1,decide_eq_true c3,decide_eq_false c2];rfl);go_wp2;go_meet
    case rel=>exact⟨by rw[hG.out],Below.refl _ _⟩
   have hG:Hid (copied H.ma p n=false):=ae (by rw[hs.out,gr.out,decide_eq_true c1,decide_eq_false c3,decide_eq_false c2];rfl);go_wp2;go_meet
   case rel=>exact⟨by rw[hG.out],Below.refl _ _⟩
  have hG:Hid (copied H.ma p n=false):=ae (by rw[hs.out,decide_eq_false c1,decide_eq_false c2];rfl);have ka:(x.k==2)=false:=by simp[c2]
  have kx:(x.k==1)=false:=by simp[c1]
  go_wp2;go_meet
  case rel=>exact⟨by rw[hG.out],Below.refl _ _⟩
 case rest=>
  obtain⟨rfl,kr⟩:=hcut;have k9:=k8.below kr;have rx9:=rx8.ext kr;have ax9:=ax8.ext kr;have kE:=ah kF kr;clear k8 rx8 bx8 ax8 h8 kr kF ex8 hs;obtain⟨A,hA⟩:∃A,Hid (A=jo H.ma p n):=⟨_,ae rfl⟩;rw[←hA.out] at ax9 hW ki kj gF;have gu:=kj.out;have gm:=gX.out;unfold rG at gu;have ge:IntKind.i64.wrap (A.ba+n)=A.ba+n:=dS _ (by omega);have gd:IntKind.i64.wrap (A.ba+n-A.fr)=A.ba+n-A.fr:=dS _ (by omega);clear gu gm;obtain⟨cp,hs⟩:∃cp,Hid (cp=copied H.ma p n):=⟨_,ae rfl⟩;rw[←hs.out] at hW ⊢;obtain⟨hM,z⟩:∃hM:Bool,Hid (hM=(decide (0≤A.fi)&&!cp&&nZ H.ma.st A.fi (A.ba+n-A.fr))):=⟨_,ae rfl⟩;go_upto_region 12 with (fail)
  go_cut [109] (fun s109 wx=>s109 = .bool hM∧Below wc.heap.size wc wx)
  case first=>
   have hX:=ax9.cell;unfold kQ at hX
   by_cases c1:0≤A.fi
   ·cases cp with
    | true=>
     have hD:decide (0≤A.fi)=true:=decide_eq_true c1;have hE:Hid (hM=false):=ae (by rw[z.out,hD];rfl);go_quiet (fail);go_wp2;go_meet
     case rel=>exact⟨by rw[hE.out],below_drewN (Below.refl _ _) _⟩
    | false=>
     have kR:Hid (bQ H3.fi H3.ct=H.ma.st):=ae (congrArg Ma.st hr.out);have hE:Hid (hM=nZ (bQ H3.fi H3.ct) A.fi (A.ba+n-A.fr)):=ae (by rw[z.out,kR.out,decide_eq_true c1];rfl);have gt:A.fi<(H3.fi.length:Int):=by have h1:=ki.out;rw[←kR.out] at h1;have e1:(bQ H3.fi H3.ct).fs.length=H3.fi.length:=gK _;rw[e1] at h1;exact h1
     have gS:(aI (bQ H3.fi H3.ct) A.fi).n≤9223372036854775807:=by have h1:=(mE o.out.pt.st (f:=A.fi) ⟨c1,by have:=ki.out;omega⟩).2.1;rw[←kR.out] at h1;have h2:(aI (bQ H3.fi H3.ct) A.fi).n≤96:=h1;omega
     refine aP 24 [_,_,_,_,_,_,_,_,_,_,_,_,_,_,_,_,_,_,_,_,_,_,.v (.bool (nZ (bQ H3.fi H3.ct) A.fi (A.ba+n-A.fr))),.v (.bool (nZ (bQ H3.fi H3.ct) A.fi (A.ba+n-A.fr)))] (Gf ga 5 rfl rfl (Gl ax9 (V:=.int .i64 A.fi) (by simp[kQ]) rfl rfl rfl rfl (Gb (.bool true) (by simp[go_sem,c1]) rfl rfl rfl rfl rfl (Gk rfl (Gk rfl (Gk rfl (Gk rfl (Gk rfl (Gk rfl (Gk rfl (Gf b 0 rfl rfl (Gf b 7 rfl rfl (Gr (.agg #[.slice H3.ai H3.fi.length H3.ci,.int .i64 H3.ct]) (fun ρ y W hb g0=>(bM rfl (aV rfl g0) (k9.below hb).rdS underlying40 rfl store_size)) rfl rfl (Gf ga 5 rfl rfl (Gl ax9 (V:=.int .i64 A.fi) (by simp[kQ]) rfl rfl rfl rfl (Gf ga 6 rfl rfl (Gl ax9 (V:=.int .i64 A.ba) (by simp[kQ]) rfl rfl rfl rfl (Gk rfl (Gb (.int .i64 (A.ba+n)) (by simp[go_sem,ge]) rfl rfl rfl rfl rfl (Gf ga 0 rfl rfl (Gl ax9 (V:=.int .i64 A.fr) (by simp[kQ]) rfl rfl rfl rfl (Gb (.int .i64 (A.ba+n-A.fr)) (by simp[go_sem,gd]) rfl rfl rfl rfl rfl (aj ?_ (Gk rfl (aG))))))))))))))))))))))))) (fun _=>rfl) rfl ?_
     ·intro ρ y W hw hn hb hd;have g6:=hw 98 12 rfl;have g5:y 12=_:=hd 12 rfl;have gP:=hw 100 14 rfl;have g4:y 14=_:=hd 14 rfl;have gO:=hw 107 21 rfl;have g3:y 21=_:=hd 21 rfl;have EF:∀f,ρ (.func f) = .func (.func f) #[] #[]:=fun f=>hn (.func f) trivial;refine aL _ _ (gJ 7 93 true true rfl rfl ((hw 93 7 rfl).trans (hd 7 rfl))) (aS rfl (EF _) func164 (by kernel_rfl) (by kernel_rfl) (by simp only[bT,bH,bL,g6,g5,gP,g4,gO,g3,EF];rfl)) ?_;refine (SB H3.fi H3.ct A.fi (A.ba+n-A.fr) H3.ai H3.ci W (k9.below hb).ma.rd.st ⟨c1,gt⟩ gS).mono ?_;rintro r W3 ⟨rfl,hJ⟩;exact⟨_,rfl,hJ,rfl⟩
     intro y W10 k2 _;go_wp2;go_meet
     case rel=>exact⟨by rw[hE.out],k2⟩
   have hD:decide (0≤A.fi)=false:=decide_eq_false c1;have hE:Hid (hM=false):=ae (by rw[z.out,hD];rfl);go_quiet (fail);go_wp2;go_meet
   case rel=>exact⟨by rw[hE.out],below_drewN (Below.refl _ _) _⟩
  case rest=>
   obtain⟨rfl,hy⟩:=hcut;have k10:=k9.below hy;have rx10:=rx9.ext hy;have ax10:=ax9.ext hy;have hi:=ah kE hy;clear k9 rx9 ax9 hy kE ge gd;cases hM with
   | true=>
    have hl:Hid (mg H.ma p n wr=9):=ae (by have h1:=z.out.symm;simp only[dA,decide_eq_true_eq,qh] at h1;rw[hW.out,if_pos ⟨h1.1.1,h1.1.2,h1.2⟩]);clear k10 ax10 hW
    go_wp2_with (refine ax rfl _ _ _ rfl (w.heap.size+1) (bP noH) rfl rfl _ _ rx10 rfl mach_size (dz noH) ?_)
    intro we kb a;have c:=hi.grown a hi.size (fun k hk=>by cases hk;omega);go_wp2;refine bodyPost_ret (v:=.tuple #[.agg (bP noH),.int .i64 0,.int .i64 9]) (bR results116 _ _ (w.heap.size+1) _ _ _ _ _ rfl rfl rfl kb underlying44 rfl mach_size) rfl ?_;exact⟨c,.inl ⟨by rw[hl.out];decide,by rw[hl.out]⟩⟩
   | false=>
    have kV:Hid (¬(0≤A.fi∧cp=false∧nZ H.ma.st A.fi (A.ba+n-A.fr)=true)):=ae (by rintro⟨h1,h2,h3⟩;have h4:=z.out;rw[decide_eq_true h1,h2,h3] at h4;cases h4);have gg:Hid (mg H.ma p n wr=if (kS H.ma p n wr).2<0 then 10 else (kS H.ma p n wr).1.e):=ae (by rw[hW.out,if_neg kV.out]);have hO:Hid (0≤g.fi→(aF H.ma p n).k=0→ni H.ma.st g.fi g.pg):=ae (fun h1 h2=>by
     obtain⟨a1,a2,a3,a4,a5,a6,a7⟩:=gF.out;refine CK o.out.pt.st h1 (o.out.pt.pg kv.out).1 (fun h3 => ?_);have h4:cp=false:=by rw[hs.out];unfold copied;rw[h2];rfl
     rcases h3 with h3|h3
     ·have:=ki.out;rw[a6] at this;omega
     ·exact kV.out ⟨by rw[a6];exact h1,h4,by rw[a6,a7 h1];exact h3⟩)
    have k0:=za (k:=⟨H.ma,0⟩) o.out k3.out (p:=p) (n:=n) kU kv.out hO.out;obtain⟨gE,gD⟩:=Ls o.out k3.out (w:=wr) kU kv.out (fun e=>gn.out.1 e) hO.out;have km:Hid (kS H.ma p n wr=if 0≤(gz ⟨H.ma,0⟩ p n A).2∧wr=true∧(aF (gz ⟨H.ma,0⟩ p n A).1.m p n).w=false then ve (gz ⟨H.ma,0⟩ p n A).1 p n (gz ⟨H.ma,0⟩ p n A).2 A else gz ⟨H.ma,0⟩ p n A):=ae (by rw[hA.out];rfl);simp only[show jo (Kp.m ⟨H.ma,0⟩) p n=A from hA.out.symm] at k0;have i:=ae k0;have kL:=ae gE;have gC:=ae gD;have gG:Rt H3.ma:=by rw[hr.out];exact o.out
    have gM:Co H3.ma:=by rw[hr.out];exact k3.out
    have gb:jo H3.ma p n=A:=by rw[hr.out];exact hA.out.symm
    have gq:dQ H3.ma p n=some g:=by rw[hr.out];exact kv.out
    have kA:0≤g.fi→(aF H3.ma p n).k=0→ni H3.ma.st g.fi g.pg:=by rw[hr.out];exact hO.out
    rw[←gb] at ax10;clear k0 gE gD hW hO z kV ki kj
    go_wp2_with fail
    refine (MN H3 0 n p g ga w.heap.size b _ k10 gG gM ax10 gk gq kA).mono ?_;rintro r w11 ⟨rfl,H11,e11,k11,s11,q11⟩;rw[gb] at ax10 q11 ⊢;rw[hr.out] at q11 ⊢;have rx11:=s11.blk k10 rx10 machT;have ax11:=s11.blk k10 ax10 areaT;have kq:=fu hi (s11.to k10 (az _));obtain⟨r1,gi⟩:∃r1,Hid (r1=gz ⟨H.ma,0⟩ p n A):=⟨_,ae rfl⟩;rw[←gi.out] at q11 km i ⊢;have gB:e11=0:=(congrArg Kp.e q11).trans i.out.1;subst gB;have s:=ae (congrArg Kp.m q11);have gj:=ae q11;clear q11 s11 k10 rx10 ax10 hi gG gM gb gq kA gi;generalize hk2:r1.2=K at *
    obtain⟨hL,t⟩:∃hL:Bool,Hid (hL=(decide (0≤K)&&wr&&!(aF r1.1.m p n).w)):=⟨_,ae rfl⟩;go_upto_region 15 with (fail)
    go_cut [134] (fun s134 wx=>s134 = .bool hL∧Below w11.heap.size w11 wx)
    case first=>
     by_cases c1:0≤K
     ·have hD:decide (0≤K)=true:=decide_eq_true c1;cases wr with
      | false=>
       have l:Hid (hL=false):=ae (by rw[t.out,lw];rfl);go_wp2;go_meet
       case rel=>exact⟨by rw[l.out],Below.refl _ _⟩
      | true=>
       have kc:p<H11.sp.length:=by have e1:H11.ma.sp.length=r1.1.m.sp.length:=congrArg (fun m:Ma=>m.sp.length) s.out;rw[pI,i.out.2.vis.sk.len,pI] at e1;rw[e1];exact hp
       obtain⟨Q2,gH⟩:∃Q2,H11.sp[p]?=some Q2:=⟨_,aN kc⟩;have gZ:Hid (aF r1.1.m p n=dB Q2.tb n):=ae (by rw[←s.out];show dB (bE H11.ma p).tb n=_;rw[nT gH];rfl);obtain⟨g2,off2,kM,gh,ky,hP⟩:=k11.at gH;have hc:=k11.blk.cell;unfold lG at hc;rw[kM] at hc;have gW:(p:Int)<(H11.sp.length:Int):=by omega
       clear kM
       go_wp2_with (refine aA _ _ rfl g2 (off2+p*10+2) rfl rfl _ ky _ underlying112 tab_agg tab_size ?_)
       refine (tV Q2.tb (rT Q2.ts) n _ hP.tb).mono ?_;rintro r w12 ⟨rfl,j⟩;generalize dB Q2.tb n=y at *
       have qa:=Xr y;have l:Hid (hL = !y.w):=ae (by rw[t.out,hD,gZ.out];rfl);clear hc gh ky hP;go_wp2;go_meet
       case rel=>exact⟨by rw[l.out],j⟩
     have hD:decide (0≤K)=false:=decide_eq_false c1;have l:Hid (hL=false):=ae (by rw[t.out,hD];rfl);go_wp2;go_meet
     case rel=>exact⟨by rw[l.out],Below.refl _ _⟩
    case rest=>
     obtain⟨rfl,j⟩:=hcut;have k12:=k11.below j;have rx12:=rx11.ext j;have ax12:=ax11.ext j;have hh:=ah kq j;clear k11 rx11 ax11 j kq;go_upto_if 134 with (fail)
     go_cut [17] (fun s17 wx => ∃(HX:MH),s17 = .int .i64 (kS H.ma p n wr).2∧iJ wx w.heap.size b HX 0∧aJ wx (w.heap.size+1) (bP noH) 44∧aJ wx ga (kQ A) 143∧Below w.heap.size w wx∧Hid (HX.ma=(kS H.ma p n wr).1.m))
     case first=>
      cases hL with
      | false=>
       have l:Hid (kS H.ma p n wr=r1):=ae (by rw[km.out,if_neg];rintro⟨h1,h2,h3⟩;have h4:=t.out;rw[decide_eq_true h1,h2,h3] at h4;cases h4);go_wp2;go_meet
       case rel=>exact⟨H11,by rw[l.out,hk2],k12,rx12,ax12,hh,ae (by rw[l.out];exact s.out)⟩
      | true=>
       have kk:0≤K∧wr=true∧(aF r1.1.m p n).w=false:=by have h1:=t.out.symm;simp only[dA,decide_eq_true_eq,qh] at h1;exact⟨h1.1.1,h1.1.2,h1.2⟩
       have l:Hid (kS H.ma p n wr=ve r1.1 p n K A):=ae (by rw[km.out,if_pos kk]);obtain⟨y1,y2,_⟩:=i.out.2.yes kk.1;obtain⟨f,f1,hf,_⟩:=gy i.out.2.rt y1;have ku:K=(f:Int):=by rw[←y2,f1]
       have kc:p<H11.sp.length:=by have e1:H11.ma.sp.length=r1.1.m.sp.length:=congrArg (fun m:Ma=>m.sp.length) s.out;rw[pI,i.out.2.vis.sk.len,pI] at e1;rw[e1];exact hp
       have gw:f<H11.m.fs.length:=by have e1:H11.m.fs.length=r1.1.m.m.fs.length:=congrArg (fun m:Ma=>m.m.fs.length) s.out;rw[e1];exact hf
       have hj:=tC i.out.2.rt;rw[←s.out] at hj;have kN:H11.sp.length≤1000∧H11.ca.length≤1000∧H11.m.fs.length≤1000:=⟨by have:=hj.sp.1;rwa [show (Kp.m ⟨H11.ma,0⟩).sp.length=H11.sp.length from pI H11] at this,hj.ca,hj.fs⟩;clear kk hj y1 y2 f1 hf t;subst ku
       go_wp2_with fail
       refine (Ru H11 0 n p f A ga w.heap.size b _ k12 ax12 kc gw kN.1 kN.2.1 kN.2.2).mono ?_;rintro r w13 ⟨rfl,H13,e13,k13,s13,q13⟩;rw[gj.out] at q13 ⊢;have rx13:=s13.blk k12 rx12 machT;have ax13:=s13.blk k12 ax12 areaT;have kZ:=fu hh (s13.to k12 (az _));rw[←l.out] at q13 ⊢;have gA:e13=0:=(congrArg Kp.e q13).trans kL.out;subst gA;have gp:=ae (congrArg Kp.m q13);clear q13 s13 k12 rx12 ax12 hh;go_wp2;go_meet
       case rel=>exact⟨H13,rfl,k13,rx13,ax13,kZ,gp⟩
     case rest=>
      clear k12 rx12 ax12 hh;obtain⟨HX,rfl,kX,rxX,axX,hT,kW⟩:=hcut;generalize hK:(kS H.ma p n wr).2=K2
      by_cases c1:K2<0
      ·have hl:Hid (mg H.ma p n wr=10):=ae (by rw[gg.out,hK,if_pos c1]);clear kX axX
       go_wp2_with (refine ax rfl _ _ _ rfl (w.heap.size+1) (bP noH) rfl rfl _ _ rxX rfl mach_size (dz noH) ?_)
       intro we kb a;have c:=hT.grown a hT.size (fun k hk=>by cases hk;omega);go_wp2;refine bodyPost_ret (v:=.tuple #[.agg (bP noH),.int .i64 0,.int .i64 10]) (bR results116 _ _ (w.heap.size+1) _ _ _ _ _ rfl rfl rfl kb underlying44 rfl mach_size) rfl ?_;exact⟨c,.inl ⟨by rw[hl.out];decide,by rw[hl.out]⟩⟩
      have kP:Hid (mg H.ma p n wr=0):=ae (by rw[gg.out,hK,if_neg c1];exact kL.out);have hU:=gC.out.1 (by rw[hK];omega);obtain⟨F,f1,hf,_⟩:=gy hU.rt hU.k1;have ku:K2=(F:Int):=by rw[←hK,←hU.en,f1]
      have gv:F<HX.m.fs.length:=by have e1:HX.m.fs.length=(kS H.ma p n wr).1.m.m.fs.length:=congrArg (fun m:Ma=>m.m.fs.length) kW.out;rw[e1];exact hf
      have kO:Hid (ui H.ma p n wr=(F:Int)):=ae (by rw[←ku,←hK];unfold ui;rw[bG]);have hB:Hid (pR H.ma p n wr=(if (wr&&A.sh)=true then setFr (setFr HX.ma F (kC (aD HX.ma F))) F (jP (aD (setFr HX.ma F (kC (aD HX.ma F))) F) (aD (setFr HX.ma F (kC (aD HX.ma F))) F).p true) else setFr HX.ma F (kC (aD HX.ma F)))):=ae (by unfold pR Fe;simp only[bG];rw[hK,ku,bG,←hA.out,kW.out]);have gI:(F:Int)<(HX.m.fs.length:Int):=by omega
      subst ku;clear hK hU f1 hf;obtain⟨gf,of,cur,hz,ht,kh,ha,hm⟩:=kX.frPut gv;have hc:=kX.blk.cell;unfold lG at hc;rw[hz] at hc;clear hz ha
      go_wp2_with (refine aX rfl _ _ _ rfl gf (of+F*13+9) _ [.bool true] rfl rfl rfl _ _ ht (by simp;omega) vg (fun u hu=>by cases bF.1 hu;rfl) ?_)
      intro w14 kK kD;obtain⟨k14,s14⟩:=hm 9 1 [.bool true] (kC (aD HX.ma F)) w14 rfl (by decide) rfl kK kD;have s14:=s14 _ _ (KS.refl _ _ _);have rx14:=s14.blk kX rxX machT;have ax14:=s14.blk kX axX areaT;have d:=fu hT (s14.to kX (az _));have kz:Hid (MH.ma { HX with m:=⟨HX.m.fs.set F (kC (aD HX.ma F)),HX.m.hand⟩ }=setFr HX.ma F (kC (aD HX.ma F))):=ae rfl;rw[←kz.out] at hB;have hS:F<(HX.m.fs.set F (kC (aD HX.ma F))).length:=by rw[cO];exact gv
      clear hc s14 kX rxX axX hT ht kh hm kK kD;generalize hH14:({ HX with m:=⟨HX.m.fs.set F (kC (aD HX.ma F)),HX.m.hand⟩ }:MH)=H14 at *
      have hS:F<H14.m.fs.length:=by rw[←hH14];exact hS
      clear hH14 kz kW;have hX:=ax14.cell;unfold kQ at hX;cases wr with
      | false=>
       have kd:H14.ma=pR H.ma p n false:=by rw[hB.out];exact (if_neg (by simp)).symm
       have kl:=k14.blk.cell;unfold lG at kl
       go_wp2_with (first | (refine aA _ _ rfl b 0 rfl rfl (bP H14).toList (bW k14.blk 0 11) _ underlying44 rfl machine_size ?_) | (refine ax rfl _ _ _ rfl (w.heap.size+1) (bP H14) rfl rfl _ _ rx14 rfl mach_size (dz _) ?_))
       intro we rxe a;have c:=d.grown a d.size (fun k hk=>by cases hk;omega);have ke:=k14.ma.keep rx14 (by decide) a;go_wp2;refine bodyPost_ret (v:=.tuple #[.agg (bP H14),.int .i64 F,.int .i64 0]) (bR results116 _ _ (w.heap.size+1) _ _ _ _ _ rfl rfl rfl rxe underlying44 rfl mach_size) rfl ?_;exact⟨c,.inr ⟨kP.out,_,by rw[kO.out],ke,kd⟩⟩
      | true=>
       cases hsh:A.sh with
       | false=>
        rw[hsh] at hX hB;have kd:H14.ma=pR H.ma p n true:=by rw[hB.out];exact (if_neg (by simp)).symm
        have kl:=k14.blk.cell;unfold lG at kl
        go_wp2_with (first | (refine aA _ _ rfl b 0 rfl rfl (bP H14).toList (bW k14.blk 0 11) _ underlying44 rfl machine_size ?_) | (refine ax rfl _ _ _ rfl (w.heap.size+1) (bP H14) rfl rfl _ _ rx14 rfl mach_size (dz _) ?_))
        intro we rxe a;have c:=d.grown a d.size (fun k hk=>by cases hk;omega);have ke:=k14.ma.keep rx14 (by decide) a;go_wp2;refine bodyPost_ret (v:=.tuple #[.agg (bP H14),.int .i64 F,.int .i64 0]) (bR results116 _ _ (w.heap.size+1) _ _ _ _ _ rfl rfl rfl rxe underlying44 rfl mach_size) rfl ?_;exact⟨c,.inr ⟨kP.out,_,by rw[kO.out],ke,kd⟩⟩
       | true=>
        rw[hsh] at hX hB;obtain⟨gf,of,cur,hz,ht,kh,ha,hm⟩:=k14.frPut hS;have hc:=k14.blk.cell;unfold lG at hc;rw[hz] at hc;have gI:(F:Int)<(H14.m.fs.length:Int):=by omega
        clear hz ha
        go_wp2_with (refine aX rfl _ _ _ rfl gf (of+F*13+10) _ [.bool true] rfl rfl rfl _ _ ht (by simp;omega) vg (fun u hu=>by cases bF.1 hu;rfl) ?_)
        intro w15 kJ kB;obtain⟨k15,s15⟩:=hm 10 1 [.bool true] (jP (aD H14.ma F) (aD H14.ma F).p true) w15 rfl (by decide) rfl kJ kB;have s15:=s15 _ _ (KS.refl _ _ _);have rx15:=s15.blk k14 rx14 machT;have kp:=fu d (s15.to k14 (az _));have kd:Hid (MH.ma { H14 with m:=⟨H14.m.fs.set F (jP (aD H14.ma F) (aD H14.ma F).p true),H14.m.hand⟩ }=pR H.ma p n true):=ae (by rw[hB.out];exact (if_pos (by simp)).symm);clear hc s15 k14 rx14 ax14 d ht kh hm kJ kB hX hB hS gI;generalize ({ H14 with m:=⟨H14.m.fs.set F (jP (aD H14.ma F) (aD H14.ma F).p true),H14.m.hand⟩ }:MH)=H15 at *
        have kl:=k15.blk.cell;unfold lG at kl
        go_wp2_with (first | (refine aA _ _ rfl b 0 rfl rfl (bP H15).toList (bW k15.blk 0 11) _ underlying44 rfl machine_size ?_) | (refine ax rfl _ _ _ rfl (w.heap.size+1) (bP H15) rfl rfl _ _ rx15 rfl mach_size (dz _) ?_))
        intro we rxe a;have c:=kp.grown a kp.size (fun k hk=>by cases hk;omega);have ke:=k15.ma.keep rx15 (by decide) a;go_wp2;refine bodyPost_ret (v:=.tuple #[.agg (bP H15),.int .i64 F,.int .i64 0]) (bR results116 _ _ (w.heap.size+1) _ _ _ _ _ rfl rfl rfl rxe underlying44 rfl mach_size) rfl ?_;exact⟨c,.inr ⟨kP.out,_,by rw[kO.out],ke,kd.out⟩⟩
structure Cl where
 k:Int
 p:Int
 a:Int
 n:Int
 f:Int
 b:Int
 rd:Bool
 wr:Bool
 sh:Bool
 da:List UInt8
structure An where
 e:Int
 n:Int
 da:List UInt8
 deriving DecidableEq
def kv (e:Int):An:=⟨e,0,[]⟩
def setAr (m:Ma) (p:Nat) (l:List Ar):Ma:={ m with sp:=m.sp.set p { bE m p with ar:=l } }
def UR (r:Kp × Int):Int:=if r.2=0 then r.1.e else r.2
def WP (m:Ma) (r:Kp × Int) (n:Int) (d:List UInt8):Ma × An:=if UR r=0 then (r.1.m,⟨0,n,d⟩) else (m,kv (UR r))
def Qs (ar:List Ar) (c:Cl):Int:=if c.a<0 then rC ar c.n else c.a
def sQ (m:Ma) (p:Nat) (c:Cl):Ma × An:=
 let ar:=(bE m p).ar;let a:=Qs ar c
 if a<0∨64≤a∨c.n<1∨64-a<c.n∨c.f < -1 then (m,kv 3)
 else if (m.st.fs.length:Int)≤c.f then (m,kv 5)
 else
  let x:Ar:=⟨a,a+c.n,c.rd,c.wr,c.sh,c.f,c.b⟩
  if mQ ar x≠0 then (m,kv (mQ ar x)) else (setAr m p (iP ar x),⟨0,a,[]⟩)
def Vu (m:Ma) (p:Nat) (c:Cl):Ma × An:=
 let ar:=(bE m p).ar
 if Sq ar c.a c.n≠0 then (m,kv (Sq ar c.a c.n))
 else
  let k:=zZ ⟨m,0⟩ p c.a c.n
  WP m (⟨setAr k.m p (WT ar c.a c.n),k.e⟩,0) 0 []
def VN (k:Kp) (p:Nat) (wr:Bool) (a:Int):Nat→Kp
 | 0=>k
 | j+1=>
  let k:=VN k p wr a j;let e:=aF k.m p (a+j)
  if e.w=true∧wr=false then cZ k p (a+j) ⟨e.k,e.n,false⟩ else k
def Ud (m:Ma) (p:Nat) (c:Cl):Ma × An:=
 let ar:=(bE m p).ar
 if Tn ar c.a c.n c.rd c.wr≠0 then (m,kv (Tn ar c.a c.n c.rd c.wr))
 else WP m (VN ⟨setAr m p (Xo ar c.a c.n c.rd c.wr),0⟩ p c.wr c.a c.n.toNat,0) 0 []
def yg (m:Ma) (x:Fr) (e:Int):Bool:=decide (0≤x.f)&&decide ((aI m.st x.f).n<x.i*8+e)
def kN (m:Ma) (c:Cl) (n:Int) (w:Bool):Ma × An:=
 if qy c.a n=false then (m,kv 2)
 else if mg m c.p (c.a / 8) w≠0 then (m,kv (mg m c.p (c.a / 8) w))
 else
  let m1:=pR m c.p (c.a / 8) w;let f:=(ui m c.p (c.a / 8) w).toNat;let x:=aD m1 f
  if yg m1 x (c.a%8+n)=true then (m,kv 9)
  else if w=true then (setFr m1 f { x with p:=eY x.p (c.a%8) c.da },⟨0,n,[]⟩)
  else (m1,⟨0,n,vF x.p (c.a%8) n⟩)
def VL (f:Int) (tq:Int):Nat→Kp→Int→List UInt8→Kp × Int × List UInt8
 | 0,k,_,o=>(k,0,o)
 | t+1,k,at_,o=>
  if tq≤at_ then (k,0,o) else
  let r:=fw k f (at_ / 8)
  if r.2<0 then (r.1,10,o) else
  let n:=min (8-at_%8) (tq-at_)
  VL f tq t r.1 (at_+n) (o++vF (aD r.1.m r.2.toNat).p (at_%8) n)
def Xq (s:Int) (c:Cl):Int:=min c.a s
def toC (s:Int) (c:Cl):Int:=min c.a s+min c.n (s-min c.a s)
def XV (m:Ma) (c:Cl):Ma × An:=
 if c.a<0∨c.n<0 then (m,kv 3) else
 let s:=(aI m.st c.f).n;let r:=VL c.f (toC s c) 13 ⟨m,0⟩ (Xq s c) []
 WP m (r.1,r.2.1) r.2.2.length r.2.2
def WR (f:Int):Nat→Kp→Int→List UInt8→Kp × Int
 | 0,k,_,_=>(k,0)
 | t+1,k,at_,b=>
  if b.length=0 then (k,0) else
  let r:=fw k f (at_ / 8)
  if r.2<0 then (r.1,10) else
  let n:=min (8-at_%8) b.length;let x:=aD r.1.m r.2.toNat
  WR f t ⟨setFr r.1.m r.2.toNat (jP x (eY x.p (at_%8) (b.take n.toNat)) true),r.1.e⟩ (at_+n) (b.drop n.toNat)
def XK (k:Kp) (c:Cl):Kp × Int:=
 let e:=c.a+c.da.length;let r:=if (aI k.m.st c.f).n<e then Vy k c.f e else (k,0)
 if r.2≠0 then r else WR c.f 13 r.1 c.a c.da
def Ya (m:Ma) (c:Cl):Ma × An:=
 if c.a<0∨96<c.a∨96-c.a<c.da.length then (m,kv 3)
 else if c.da.length=0 then (m,kv 0)
 else WP m (XK ⟨m,0⟩ c) c.da.length []
def XX (m:Ma) (c:Cl):Ma × An:=if c.n<0∨96<c.n then (m,kv 3) else WP m (Vy ⟨m,0⟩ c.f c.n) 0 []
theorem ans_size:(Tryz.prog.info? 52).map (·.size)=some 3:=by kernel_rfl
structure pG (w:World) (B b:Nat) (H:MH):Prop where
 blk:aJ w b (bP H) 92
 ge:B≤b
 ma:qf w B H
theorem pG.below (h:pG w B b H) (hb:Below w.heap.size w w'):pG w' B b H:=⟨h.blk.ext hb,h.ge,h.ma.below hb⟩
theorem pG.bs (h:pG w B b H):B≤w.heap.size:=aY h.ge (xh h.blk.lt)
def gD (e n:Int) (d:Value):Array Value:=#[.int .i64 e,.int .i64 n,d]
def nilV:Value:=.slice none 0 0
theorem bY (e n:Int) (a:Option Addr) (l c:Nat):(gD e n (.slice a l c)).all (·.oneCell')=true:=by simp[gD,Value.oneCell']
theorem IP (h:Below w.heap.size w w1):w.grownBy w1 (some b):=⟨h.os,h.tape,h.output,h.size,fun i hi _=>h.block i hi⟩
theorem fq (h:w.grownBy w1 (some b)) (k:Below w1.heap.size w1 w2):w.grownBy w2 (some b):=
 ⟨k.os.trans h.os,k.tape.trans h.tape,k.output.trans h.output,aY h.size k.size,fun i hi hn=>(k.block i (nO hi h.size)).trans (h.block i hi hn)⟩
theorem fV {g:Nat} (h:w.grownBy w1 (some b)) (k:w1.grownBy w2 (some g)) (hg:w.heap.size≤g):w.grownBy w2 (some b):=
 ⟨k.os.trans h.os,k.tape.trans h.tape,k.output.trans h.output,aY h.size k.size,fun i hi hn=>(k.block i (nO hi h.size) (fun e=>by cases e;omega)).trans (h.block i hi hn)⟩
theorem uk (h:w.grownBy w1 (some b)) (k:w1.grownBy w2 (some b)):w.grownBy w2 (some b):=
 ⟨k.os.trans h.os,k.tape.trans h.tape,k.output.trans h.output,aY h.size k.size,fun i hi hn=>(k.block i (nO hi h.size) hn).trans (h.block i hi hn)⟩
def Yg (w:World) (B b:Nat) (m:Ma) (w' : World):Prop:=w.grownBy w' (some b)∧∃H' : MH,pG w' B b H'∧H'.ma=m
def setM (m:Ma) (x:Ma) (e:Int):Ma:=if e=0 then x else m
theorem yJ (H H1:MH) (e:Int) (B b:Nat) (w:World) (h:pG w B b H) (h1:qf w B H1) :
  Calls Tryz.prog 69 #[.pointer (some ⟨b,0,none⟩),.agg (bP H1),.int .i64 e] w fun r w'=>r = .returned (.agg (gD e 0 nilV))∧Yg w B b (setM H.ma H1.ma e) w':=by
 go_enter func69,ntmps69;go_upto_region 1 with (fail);refine uj (fun W=>Code.wp _ _ _ _ W) fun w1 f mx1 ax1 j => ?_;have k1:=h.below f;have m1:=h1.below f;have g:w.grownBy w1 (some b):=IP f;have mx1:aJ w1 w.heap.size (bP H1) 44:=mx1;have l:=h.blk.lt;clear h h1 f j
 by_cases h0:e=0
 ·subst h0;have hq:Hid (setM H.ma H1.ma 0=H1.ma):=ae (if_pos rfl)
  go_wp2_with (first | (refine aA _ _ rfl w.heap.size 0 rfl rfl (bP H1).toList mx1.rd _ underlying44 rfl mach_size ?_) | (refine ax rfl _ _ _ rfl b (bP H1) rfl rfl _ _ k1.blk rfl mach_size (dz _) ?_))
  intro w2 kx2 d;have m2:=m1.keep k1.blk (by decide) d;have ax2:=aH ax1 k1.blk (by decide) d;have i:=uk g d;have k:=k1.ge;clear k1 m1 ax1 g mx1 d
  go_wp2_with (refine ax rfl _ _ _ rfl (w.heap.size+1) (gD 0 0 nilV) rfl rfl _ _ ax2 rfl ans_size (bY _ _ _ _ _) ?_)
  intro w3 ax3 a;have c:=fV i a (Ha _);have k3:pG w3 B b H1:=⟨aH kx2 ax2 (by decide) a,k,m2.keep ax2 (by decide) a⟩;go_wp2;refine bodyPost_ret (v:=.agg (gD 0 0 nilV)) (bB results69 _ _ (w.heap.size+1) _ _ _ rfl ax3 underlying52 rfl ans_size) rfl ?_;exact⟨rfl,c,H1,k3,hq.out.symm⟩
 have hq:Hid (setM H.ma H1.ma e=H.ma):=ae (if_neg h0)
 go_wp2_with (refine ax rfl _ _ _ rfl (w.heap.size+1) (gD e 0 nilV) rfl rfl _ _ ax1 rfl ans_size (bY _ _ _ _ _) ?_)
 intro w3 ax3 a;have c:=fV g a (Ha _);have k3:pG w3 B b H:=⟨aH k1.blk ax1 (by decide) a,k1.ge,k1.ma.keep ax1 (by decide) a⟩;go_wp2;refine bodyPost_ret (v:=.agg (gD e 0 nilV)) (bB results69 _ _ (w.heap.size+1) _ _ _ rfl ax3 underlying52 rfl ans_size) rfl ?_;exact⟨rfl,c,H,k3,hq.out.symm⟩
theorem TL {f : FuncId} {fn : Func} (hf : P.funcs[f]? = some fn) (hn : (fn.name == "runtime.NumGoroutine") = false) (hb : fn.body.isNone = false) (args : Array Value) (w : World) : (callFunc f args).run P w = .ok (.enter f args) w := by
 have a : ¬ fn.name = "runtime.NumGoroutine" := by simpa using hn
 have b : ¬fn.body=none:=fun h=>by simp[h] at hb
 unfold callFunc;simp[hf,a,b]
theorem iJ.mono {e:Int} (h:iJ w B b H e) (hB:B'≤B):iJ w B' b H e:=⟨h.blk,aY hB h.ge,h.ma.mono hB,h.tz⟩
def Xj (fid:FuncId) (caps:Array Value) (w:World) (B:Nat) (m:Ma) (R:Kp × Int):Prop:=
 (∀args W,(callFunc fid args).run Tryz.prog W = .ok (.enter fid args) W)∧∀(W:World) (H1:MH) (b1:Nat),Below w.heap.size w W→iJ W w.heap.size b1 H1 0→H1.ma=m →
  Calls Tryz.prog fid (#[.pointer (some ⟨b1,0,none⟩)]++caps) W fun r w'=>r = .returned (.int .i64 R.2)∧∃(H2:MH) (e2:Int),iJ w' B b1 H2 e2∧KS W b1 H1 w' H2∧Kp.mk H2.ma e2=R.1
theorem ansT:52≠192∧52≠132∧52≠124∧52≠114:=by decide
theorem JJ (H:MH) (fid:FuncId) (caps:Array Value) (R:Kp × Int) (B b:Nat) (w:World) (h:pG w B b H) (hz:Qx H.ma) (hf:Xj fid caps w B H.ma R) :
  Calls Tryz.prog 107 #[.pointer (some ⟨b,0,none⟩),.func (.func fid) #[] caps] w fun r w'=>r = .returned (.agg (gD (UR R) 0 nilV))∧Yg w B b (setM H.ma R.1.m (UR R)) w':=by
 go_enter func107,ntmps107;go_upto_region 1 with (fail);refine je (fun W=>Code.wp _ _ _ _ W) fun w1 t ax1 hh => ?_;have k1:=h.below t;have hj:=ae h.bs;have z:=ae hz;have hb:b≠w.heap.size:=by have:=h.blk.lt;omega
 have h':=ae h;clear h hh hz
 go_wp2_with (refine aA _ _ rfl b 0 rfl rfl (bP H).toList k1.blk.rd _ underlying44 rfl mach_size ?_)
 refine (nA H _ k1.ma.rd z.out).mono ?_;rintro r w2 ⟨H2,rfl,ha,u,_,y⟩;have hc:=ae u;have ax2:=ax1.ext y;have p:=ah t y;clear k1 ax1 u;unfold bP;go_upto_region 2 with (fail);refine je (fun W=>Code.wp _ _ _ _ W) fun w3 s kx3 hg => ?_;have p3:iJ w3 w.heap.size w2.heap.size H2 0:=⟨kx3,p.size,(ha.mono t.size).below s,fun q hq=>(Qx.spz (H:=H2) (by rw[hc.out];exact z.out) hq).2⟩;have ax3:=ax2.ext s;have o:=ah p s;clear t y s ha p kx3 hg ax2;generalize w2.heap.size=b1 at p3;have l:=hf.2 w3 H2 b1 o p3 hc.out;have hi:=hf.1
 go_wp2_with fail
 refine l.mono ?_;rintro r w4 ⟨rfl,H4,e4,p4,s4,q4⟩;have ax4:=s4.blk p3 ax3 ansT;have n:=fu o (s4.to p3 (az _));have k4:=h'.out.below n;have d:w.grownBy w4 (some b):=IP n;have hd:Hid (H4.ma=R.1.m):=ae (congrArg Kp.m q4);have x:e4=R.1.e:=congrArg Kp.e q4;clear l hi hf p3 s4 q4 ax3 o n
 by_cases h0:R.2=0
 ·have hq:Hid (UR R=e4):=ae (by unfold UR;rw[if_pos h0,x]);rw[h0];clear x h0;have k:=p4.blk.cell;unfold lG at k
  go_wp2_with (refine aA _ _ rfl b1 0 rfl rfl (bP H4).toList (bW p4.blk 0 11) _ underlying44 rfl mach_size ?_)
  refine (yJ H H4 e4 B b _ k4 p4.ma).mono ?_;rintro r w5 ⟨rfl,c,H5,k5,g⟩;have f:=ae g;have ax5:=ax4.grown c (fun e=>hb (aT e));have j:=uk d c;clear p4 k4 ax4 c g k d
  go_wp2_with (refine ax rfl _ _ _ rfl w.heap.size (gD e4 0 nilV) rfl rfl _ _ ax5 rfl ans_size (bY _ _ _ _ _) ?_)
  intro w6 ax6 a;have i:=fV j a (az _);have k6:pG w6 B b H5:=⟨aH k5.blk ax5 (by decide) a,k5.ge,k5.ma.keep ax5 (by decide) a⟩;go_wp2;refine bodyPost_ret (v:=.agg (gD e4 0 nilV)) (bB results107 _ _ w.heap.size _ _ _ rfl ax6 underlying52 rfl ans_size) rfl ?_;exact⟨by rw[hq.out],i,H5,k6,by rw[f.out,hq.out,←hd.out]⟩
 have hq:Hid (UR R=R.2):=ae (by unfold UR;rw[if_neg h0]);clear x;generalize R.2=er at *
 have k:=p4.blk.cell;unfold lG at k
 go_wp2_with (refine aA _ _ rfl b1 0 rfl rfl (bP H4).toList (bW p4.blk 0 11) _ underlying44 rfl mach_size ?_)
 refine (yJ H H4 er B b _ k4 p4.ma).mono ?_;rintro r w5 ⟨rfl,c,H5,k5,g⟩;have f:=ae g;have ax5:=ax4.grown c (fun e=>hb (aT e));have j:=uk d c;clear p4 k4 ax4 c g k d
 go_wp2_with (refine ax rfl _ _ _ rfl w.heap.size (gD er 0 nilV) rfl rfl _ _ ax5 rfl ans_size (bY _ _ _ _ _) ?_)
 intro w6 ax6 a;have i:=fV j a (az _);have k6:pG w6 B b H5:=⟨aH k5.blk ax5 (by decide) a,k5.ge,k5.ma.keep ax5 (by decide) a⟩;go_wp2;refine bodyPost_ret (v:=.agg (gD er 0 nilV)) (bB results107 _ _ w.heap.size _ _ _ rfl ax6 underlying52 rfl ans_size) rfl ?_;exact⟨by rw[hq.out],i,H5,k6,by rw[f.out,hq.out,←hd.out]⟩
def nS (x:Int):Prop:=-9223372036854775808≤x∧x≤9223372036854775807
def nQ (c:Cl) (a:Option Addr) (cap:Nat):Array Value:=#[.int .i64 c.k,.int .i64 c.p,.int .i64 c.a,.int .i64 c.n,.int .i64 c.f,.int .i64 c.b,.bool c.rd,.bool c.wr,.bool c.sh,.slice a c.da.length cap]
structure Ra (w:World) (B gc gp:Nat) (c:Cl) (a:Option Addr) (cap:Nat):Prop where
 blk:aJ w gc (nQ c a cap) 25
 ptr:aJ w gp #[.pointer (some ⟨gc,0,none⟩)] 94
 bs:B≤w.heap.size
 rd:∀W,Below B w W→dV W a (c.da.map oZ)
 le:c.da.length≤cap
 mx:cap≤maxLen
 nl:a=none→cap=0
theorem Ra.below {c:Cl} (h:Ra w B gc gp c a cap) (hb:Below w.heap.size w w'):Ra w' B gc gp c a cap:=⟨h.blk.ext hb,h.ptr.ext hb,aY h.bs hb.size,fun W k=>h.rd W (fu (hb.mono h.bs) k),h.le,h.mx,h.nl⟩
theorem Xi {g:Nat} (hg:w.grownBy w' (some g)) (hB:B≤g) (hs:B≤w.heap.size):Below B w w':=(Below.refl B w).grown hg hs fun k hk=>by cases hk;exact hB
theorem Ra.keep {g:Nat} {c:Cl} (h:Ra w B gc gp c a cap) (hk:aJ w g cs T) (h1:T≠25) (h2:T≠94) (hB:B≤g) (hg:w.grownBy w' (some g)):Ra w' B gc gp c a cap:=
 ⟨aH h.blk hk h1 hg,aH h.ptr hk h2 hg,aY h.bs hg.size,fun W k=>h.rd W (fu (Xi hg hB h.bs) k),h.le,h.mx,h.nl⟩
theorem Ra.cell {c:Cl} (h:Ra w B gc gp c a cap):∀o,w.cell? ⟨gc,o,none⟩=(nQ c a cap)[o]?:=h.blk.cell
def Xy (w:World) (B b:Nat) (X:Ma × An) (r:Ending) (w' : World):Prop:=∃d,r = .returned (.agg (gD X.2.e X.2.n d))∧Own w' w.heap.size 5 1 d X.2.da.length (X.2.da.map oZ)∧Yg w B b X.1 w'
theorem pG.keepT {g:Nat} (h:pG w B b H) (hk:aJ w g cs T) (h1:T≠92)
 (hT:T≠132∧T≠3∧T≠100∧T≠186∧T≠98∧T≠124∧T≠114∧T≠143∧T≠129) (hg:w.grownBy w' (some g)):pG w' B b H:=⟨aH h.blk hk h1 hg,h.ge,h.ma.keep hk hT hg⟩
theorem iJ.putA {e:Int} (h:iJ w B b H e) {P:PS} (hP:H.sp[p]?=some P) :
  ∃g off cur,H.ap=some ⟨g,off,none⟩∧B≤g∧aJ w g cur 114∧off+p*10+10≤cur.size ∧
   ∀(w' : World) (a:Option Addr) (c:Nat) (l:List Ar),Own w B 143 7 (.slice a l.length c) l.length (l.flatMap fD)→aJ w' g (dE cur (off+p*10+1) [.slice a l.length c]) 114→w.grownBy w' (some g) →
    iJ w' B b { H with sp:=H.sp.set p { P with aa:=a,ac:=c,ar:=l } } e∧∀w0 H0,KS w0 b H0 w H→KS w0 b H0 w' { H with sp:=H.sp.set p { P with aa:=a,ac:=c,ar:=l } }:=by
 have hp:=(dC.1 hP).1;obtain⟨g,off,cur,k,hB,f,n,m⟩:=h.putP hp;obtain⟨g',off',i,o,v,q⟩:=h.at hP;rw[k] at i;cases i;have t:∀j u,(vR P)[j]?=some u→cur[off+p*10+j]?=some u:=fun j u hj=>by obtain⟨b',o',e',r⟩:=o j u hj;cases e';rw[←f.cell];exact r
 have d:=dn hP;refine⟨g,off,cur,k,hB,f,n,fun w' a c l ho hb hg=>⟨m w' { P with aa:=a,ac:=c,ar:=l } ho (h.ma.ps P d).2 (h.tz P d) ?_ hg,fun w0 H0 s=>s.put hg (.inr (.inr (.inr (by rw[k];rfl)))) fun y hy => .inl (zR rfl rfl rfl hy)⟩⟩;rw[yE cur (off+p*10) 1 1 (vR P) (vR { P with aa:=a,ac:=c,ar:=l }) [.slice a l.length c] t rfl rfl (by rw[vw];decide) (by rw[vw];omega)];exact hb
theorem UX {P:PS} (hP:H.sp[p]?=some P) (a:Option Addr) (c:Nat) (l:List Ar):MH.ma { H with sp:=H.sp.set p { P with aa:=a,ac:=c,ar:=l } }=setAr H.ma p l:=by
 rw[Cw];unfold lD setAr;rw[nT hP];rfl
theorem asl_size:(Tryz.prog.info? 80).map (·.size)=some 1:=by kernel_rfl
theorem Bt : (Tryz.prog.info? 114).map (·.size)=some 10:=by kernel_rfl
structure WN (w:World) (B gl:Nat) (l:List Ar) (al:Option Addr) (cl:Nat):Prop where
 blk:aJ w gl #[.slice al l.length cl] 80
 own:Own w B 143 7 (.slice al l.length cl) l.length (l.flatMap fD)
theorem WN.below {l:List Ar} (h:WN w B gl l al cl) (hb:Below w.heap.size w w'):WN w' B gl l al cl:=⟨h.blk.ext hb,h.own.below hb⟩
theorem LU (c:Cl) (a:Option Addr) (cap gc gp gl B P:Nat) (l:List Ar) (al:Option Addr) (cl:Nat) (w:World) (hB:B≤w.heap.size) (h:Ra w B gc gp c a cap) (hl0:WN w B gl l al cl) (hp:c.p=P) (hpl:P<m.sp.length) :
  Xj 108 #[.pointer (some ⟨gl,0,none⟩),.pointer (some ⟨gp,0,none⟩)] w B m (⟨setAr m P l,0⟩,0):=by
 refine⟨fun args W=>TL func108 (by kernel_rfl) (by kernel_rfl) args W,fun W H1 b1 hb h1 hm => ?_⟩;have hc:=h.below hb;have hl:=hl0.below hb;have h1:=h1.mono hB;have s1:=KS.refl W b1 H1;subst hm;rw[pI] at hpl;have hv:c.p=(P:Int):=hp;clear h hl0 hb hp;go_enter func108,ntmps108;go_upto_region 1 with (fail);obtain⟨PP,r⟩:∃PP,H1.sp[P]?=some PP:=⟨_,aN hpl⟩;obtain⟨gs,os,cur,hj,_,_,_,_⟩:=h1.putA r;refine wP 12 13 [] [gX (.pointer (some ⟨b1,0,none⟩)),gX (.pointer (some ⟨b1,0,none⟩)),gX (.pointer (some ⟨b1,0,none⟩)),gX (.pointer (some ⟨b1,10,none⟩)),gX (.slice (some ⟨gs,os,none⟩) H1.sp.length H1.cp),gX (.pointer (some ⟨gc,0,none⟩)),gX (.pointer (some ⟨gc,0,none⟩)),gX (.pointer (some ⟨gc,1,none⟩)),gX (.int .i64 (P:Int)),gX (.slice al l.length cl),gX (.pointer (some ⟨gs,os+P*10,none⟩)),gX (.pointer (some ⟨gs,os+P*10+1,none⟩))] (by kernel_rfl) (by kernel_rfl) (by kernel_rfl) (by kernel_rfl) (by kernel_rfl) (by kernel_rfl) (by decide) (by decide) _ rfl (by kernel_rfl) (aj ?_ (aj ?_ (aj ?_ (aj ?_ (aj ?_ (aj ?_ (aj ?_ (aj ?_ (aj ?_ (aj ?_ (aj ?_ (aj ?_ (aG))))))))))))) (aG) rfl ?_
 ·refine aC rfl ?_;intro ρ y W hw hn hb hd;have E0:ρ (.tmp 0) = .pointer (some ⟨b1,0,none⟩):=(hn (.tmp 0) rfl).trans rfl;refine ak (.pointer (some ⟨b1,0,none⟩)) (ag rfl) (run_move (.inl rfl) E0) rfl
 ·refine aC rfl ?_;intro ρ y W hw hn hb hd;have E5:=hw 5 0 rfl;have h0:y 0 = .pointer (some ⟨b1,0,none⟩):=hd 0 rfl;refine ak (.pointer (some ⟨b1,0,none⟩)) (ag rfl) (by simp[execOp,go_sem,E5,h0]) rfl
 ·refine aC rfl ?_;intro ρ y W hw hn hb hd;have E6:=hw 6 1 rfl;have h1:y 1 = .pointer (some ⟨b1,0,none⟩):=hd 1 rfl;refine ak (.pointer (some ⟨b1,0,none⟩)) (ag rfl) (by simp[execOp,go_sem,E6,h1]) rfl
 ·refine aC rfl ?_;intro ρ y W hw hn hb hd;have E7:=hw 7 2 rfl;have h2:y 2 = .pointer (some ⟨b1,0,none⟩):=hd 2 rfl;refine ak (.pointer (some ⟨b1,10,none⟩)) (ag rfl) (by simp[execOp,go_sem,E7,h2]) rfl
 ·refine aC rfl ?_;intro ρ y W hw hn hb hd;have E8:=hw 8 3 rfl;have h3:y 3 = .pointer (some ⟨b1,10,none⟩):=hd 3 rfl;refine ak (.slice (some ⟨gs,os,none⟩) H1.sp.length H1.cp) (ag rfl) (by simp[execOp,go_sem,E8,h3,(h1.below hb).blk.cell,lG,hj]) rfl
 ·refine aC rfl ?_;intro ρ y W hw hn hb hd;have E2:ρ (.tmp 2) = .pointer (some ⟨gp,0,none⟩):=(hn (.tmp 2) rfl).trans rfl;refine ak (.pointer (some ⟨gc,0,none⟩)) (ag rfl) (by simp[execOp,go_sem,E2,(hc.below hb).ptr.cell]) rfl
 ·refine aC rfl ?_;intro ρ y W hw hn hb hd;have hE:=hw 10 5 rfl;have h5:y 5 = .pointer (some ⟨gc,0,none⟩):=hd 5 rfl;refine ak (.pointer (some ⟨gc,0,none⟩)) (ag rfl) (by simp[execOp,go_sem,hE,h5]) rfl
 ·refine aC rfl ?_;intro ρ y W hw hn hb hd;have hD:=hw 11 6 rfl;have h6:y 6 = .pointer (some ⟨gc,0,none⟩):=hd 6 rfl;refine ak (.pointer (some ⟨gc,1,none⟩)) (ag rfl) (by simp[execOp,go_sem,hD,h6]) rfl
 ·refine aC rfl ?_;intro ρ y W hw hn hb hd;have hC:=hw 12 7 rfl;have h7:y 7 = .pointer (some ⟨gc,1,none⟩):=hd 7 rfl;refine ak (.int .i64 (P:Int)) (ag rfl) (by simp[execOp,go_sem,hC,h7,(hc.below hb).cell,nQ,hv]) rfl
 ·refine aC rfl ?_;intro ρ y W hw hn hb hd;have E1:ρ (.tmp 1) = .pointer (some ⟨gl,0,none⟩):=(hn (.tmp 1) rfl).trans rfl;refine ak (.slice al l.length cl) (ag rfl) (by simp[execOp,go_sem,E1,(hl.below hb).blk.cell]) rfl
 ·refine aC rfl ?_;intro ρ y W hw hn hb hd;have E9:=hw 9 4 rfl;have h4:y 4 = .slice (some ⟨gs,os,none⟩) H1.sp.length H1.cp:=hd 4 rfl;have hA:=hw 13 8 rfl;have h8:y 8 = .int .i64 (P:Int):=hd 8 rfl;refine ak (.pointer (some ⟨gs,os+P*10,none⟩)) (ag rfl) (eO rfl (E9.trans h4) (hA.trans h8) hpl underlying42 Bt) rfl
 ·refine aC rfl ?_;intro ρ y W hw hn hb hd;have hz:=hw 15 10 rfl;have hy:y 10 = .pointer (some ⟨gs,os+P*10,none⟩):=hd 10 rfl;refine ak (.pointer (some ⟨gs,os+P*10+1,none⟩)) (ag rfl) (by simp[execOp,go_sem,hz,hy]) rfl
 intro ρ y WA o ho hw hn hV d b;cases ho;have hi:y 0 = .pointer (some ⟨b1,0,none⟩):=b 0 (by decide);have hh:y 1 = .pointer (some ⟨b1,0,none⟩):=b 1 (by decide);have hg:y 2 = .pointer (some ⟨b1,0,none⟩):=b 2 (by decide);have hf:y 3 = .pointer (some ⟨b1,10,none⟩):=b 3 (by decide);have ha:y 4 = .slice (some ⟨gs,os,none⟩) H1.sp.length H1.cp:=b 4 (by decide);have z:y 5 = .pointer (some ⟨gc,0,none⟩):=b 5 (by decide);have x:y 6 = .pointer (some ⟨gc,0,none⟩):=b 6 (by decide);have t:y 7 = .pointer (some ⟨gc,1,none⟩):=b 7 (by decide);have s:y 8 = .int .i64 (P:Int):=b 8 (by decide);have n:y 9 = .slice al l.length cl:=b 9 (by decide);have k:y 10 = .pointer (some ⟨gs,os+P*10,none⟩):=b 10 (by decide);have g:y 11 = .pointer (some ⟨gs,os+P*10+1,none⟩):=b 11 (by decide);have hq:=hw 16 11 rfl;rw[g] at hq;have hr:=hw 14 9 rfl;rw[n] at hr;have EC:∀v,ρ (.const v)=v:=fun v=>hn (.const v) trivial;have EF:∀f,ρ (.func f) = .func (.func f) #[] #[]:=fun f=>hn (.func f) trivial;obtain⟨gs2,os2,cur2,i,hk,e,ht,q⟩:=(h1.below d).putA r;rw[hj] at i;simp only[iq,tK,and_true] at i;obtain⟨rfl,rfl⟩:=i;refine LP (ag rfl) _ _ _ rfl gs (os+P*10+1) _ [.slice al l.length cl] hq hr rfl _ _ e (by show os+P*10+1+1≤_;omega) asl_size (fun u hu=>by cases bF.1 hu;rfl) ?_;intro w5 hx j;clear b hw hn hV;simp only[lay,Nat.reduceAdd,Nat.reduceLT,Nat.reduceEqDiff,reduceIte,decide_true,decide_false,if_true,pV,if_false,si,tH,sZ,sD,sj,sK,hi,hh,hg,hf,ha,z,x,t,s,n,k,g];clear hi hh hg hf ha z x t s n k g;obtain⟨k5,s5⟩:=q w5 al cl l (hl.below d).own hx j;have s5:=s5 _ _ (s1.below d);have hs:=ae (UX r al cl l);have hG:Ra w5 B gc gp c a cap:=(hc.below d).keep e (by decide) (by decide) hk j;have hF:WN w5 B gl l al cl:=⟨aH (hl.below d).blk e (by decide) j,ay (hl.below d).own e (by decide) j⟩;go_wp2;go_ret;exact⟨rfl,_,_,k5,s5,by rw[hs.out]⟩
def Xd (k B:Nat) (T:TypeId) (R:nR):uw:=⟨fun y w => ∃g v,y k = .pointer (some ⟨g,0,none⟩)∧B≤g∧aJ w g #[v] T∧R.r v w,[k],
 fun y w w' hb ⟨g,v,h1,h2,h3,h4⟩=>⟨g,v,h1,h2,h3.ext hb,R.st _ _ _ hb h4⟩,fun y y' w h ⟨g,v,h1,h2⟩=>⟨g,v,by rw[←h k (bF.2 rfl)];exact h1,h2⟩⟩
theorem TN {P:Nat} (hP:H.sp[P]?=some PP):(bE H.ma P).ar=PP.ar:=by rw[nT hP];rfl
theorem KE (H:MH) (c:Cl) (a:Option Addr) (cap gc B b P:Nat) (w:World) (h:pG w B b H) (hR:Rt H.ma) (hC:Co H.ma) (hc:aJ w gc (nQ c a cap) 25) (hrd:∀W,Below B w W→dV W a (c.da.map oZ)) (hle:c.da.length≤cap) (hmx:cap≤maxLen) (hnl:a=none→cap=0) (hp:c.p=P) (hpl:P<H.sp.length) (h64:nS c.a∧nS c.n) :
  Calls Tryz.prog 64 #[.pointer (some ⟨b,0,none⟩),.pointer (some ⟨gc,0,none⟩)] w (Xy w B b (sQ H.ma P c)):=by
 have hz:=ae (tC hR);have kY:=h.blk.lt;obtain⟨PP,hK⟩:∃PP,H.sp[P]?=some PP:=⟨_,aN hpl⟩;have hH:=ae (TN hK);have kc:c.p=(P:Int):=hp;have kb:∀x∈PP.ar,rG x:=fun x hx=>by have h1:=(qO (hR.pt.arN P)).2 x (by rw[hH.out];exact hx);exact (gu h1).1
 have hZ:PP.ar.length≤1000:=by have h1:=(qO (hR.pt.arN P)).1;rw[hH.out] at h1;omega
 have hv:Hid (H.ma.st.fs.length=H.fi.length):=ae (gK _);go_enter func64,ntmps64;go_upto_region 1 with (fail);refine uj (fun W=>Code.wp _ _ _ _ W) fun w1 hl px1 ax1 kp => ?_;have k1:=h.below hl;have c1:Ra w1 B gc w.heap.size c a cap:=⟨hc.ext hl,px1,k1.bs,fun W k=>hrd W (fu (hl.mono h.bs) k),hle,hmx,hnl⟩;have kt:=ae h.bs;have d:w.grownBy w1 (some b):=IP hl;have hf:=ae hl.size;have kS:=h64.2;clear h hc hrd kp hp hl hR hC h64;obtain⟨gs,os,PP',kr,hF,hrd⟩:=vN k1.ma.rd.sp.rd P hpl;rw[hK] at hF;cases hF;have j:=zm k1.ma.rd hK;refine aP 11 [_,_,_,_,_,_,_,_,_,_,.v (.pointer (some ⟨gs,os+P*10,none⟩))] (Gk rfl (Gk rfl (Gf b 0 rfl rfl (Gf b 10 rfl rfl (Gc (.slice (some ⟨gs,os,none⟩) H.sp.length H.cp) (fun W hb=>by simp[(k1.below hb).blk.cell,bP,kr]) rfl rfl rfl rfl (Gc (.pointer (some ⟨gc,0,none⟩)) (fun W hb=>by simp[(c1.below hb).ptr.cell]) rfl rfl rfl rfl (Gk rfl (Gf gc 1 rfl rfl (Gc (.int .i64 (P:Int)) (fun W hb=>by simp[(c1.below hb).cell,nQ,kc]) rfl rfl rfl rfl (Gr (.pointer (some ⟨gs,os+P*10,none⟩)) (fun ρ y W hb kh=>(eO rfl (aV rfl kh) (aV rfl kh) hpl underlying42 Bt)) rfl rfl (Gk rfl (aG)))))))))))) (fun _=>rfl) rfl ?_;intro y W2 t _;have k1:=k1.below t;have c1:=c1.below t;have ax1:=ax1.ext t;have hrd:=hrd.below t;have j:=j.below t;have d:=fq d t;have hf:=ae (aY hf.out t.size);have hs:=IG hrd;clear t;obtain⟨A0,hM⟩:∃A0,Hid (A0=Qs PP.ar c):=⟨_,ae rfl⟩;have o:Hid (sQ H.ma P c=if A0<0∨64≤A0∨c.n<1∨64-A0<c.n∨c.f < -1 then (H.ma,kv 3) else if (H.fi.length:Int)≤c.f then (H.ma,kv 5) else if mQ PP.ar ⟨A0,A0+c.n,c.rd,c.wr,c.sh,c.f,c.b⟩≠0 then (H.ma,kv (mQ PP.ar ⟨A0,A0+c.n,c.rd,c.wr,c.sh,c.f,c.b⟩)) else (setAr H.ma P (iP PP.ar ⟨A0,A0+c.n,c.rd,c.wr,c.sh,c.f,c.b⟩),⟨0,A0,[]⟩)):=ae (by unfold sQ;simp only[hH.out,←hM.out,hv.out]);have hr:=c1.ptr.cell;have hg:=c1.cell;unfold nQ at hg;go_upto_if 25 with (fail);clear hr hg
 go_cut [6] (fun s6 wx=>s6 = .int .i64 A0∧0≤A0∧Below W2.heap.size W2 wx)
 case first=>
  by_cases hneg:c.a<0
  ·have hL:Hid (A0=rC PP.ar c.n):=ae (by rw[hM.out];unfold Qs; exact if_pos hneg);go_upto_region 4 with (fail);refine aP 10 [_,_,_,.v (.slice PP.aa PP.ar.length PP.ac),_,_,_,_,.v (.int .i64 A0),.v (.int .i64 A0)] (Gk rfl (Gk rfl (Gf gs (os+P*10+1) rfl rfl (aj ?_ (Gc (.pointer (some ⟨gc,0,none⟩)) (fun W hb=>by simp[(c1.below hb).ptr.cell]) rfl rfl rfl rfl (Gk rfl (Gf gc 3 rfl rfl (Gc (.int .i64 c.n) (fun W hb=>by simp[(c1.below hb).blk.cell,nQ]) rfl rfl rfl rfl (aj ?_ (Gk rfl (aG))))))))))) (fun _=>rfl) rfl ?_
   ·intro ρ y W hw hn hb hd;have kN:=hw 28 2 rfl;have h2:y 2=_:=hd 2 rfl;have hs:=IG (hrd.below hb);refine ak (.slice PP.aa PP.ar.length PP.ac) (ag rfl) (by simp[execOp,go_sem,kN,h2,hs]) rfl
   ·intro ρ y W hw hn hb hd;have kM:=hw 29 3 rfl;have h3:y 3=_:=hd 3 rfl;have kL:=hw 33 7 rfl;have h7:y 7=_:=hd 7 rfl;have EF:∀f,ρ (.func f) = .func (.func f) #[] #[]:=fun f=>hn (.func f) trivial;refine aL _ _ (ag rfl) (aS rfl (EF _) func105 (by kernel_rfl) (by kernel_rfl) (by simp only[bT,bH,bL,kM,h3,kL,h7,EF];rfl)) ?_;refine (SS PP.ar c.n PP.aa PP.ac W (j.below hb).ars.rd hZ kb).mono ?_;rintro r w3 ⟨rfl,z⟩;rw[←hL.out];exact⟨_,rfl,z,rfl⟩
   intro y W3 hh _
   by_cases hr0:A0<0
   ·have hX:Hid (sQ H.ma P c=(H.ma,kv 3)):=ae (by rw[o.out,if_pos (.inl hr0)]);have k1:=k1.below hh;have ax1:=ax1.ext hh;have d:=fq d hh
    go_wp2_with (refine ax rfl _ _ _ rfl (w.heap.size+1) (gD 3 0 nilV) rfl rfl _ _ ax1 rfl ans_size (bY _ _ _ _ _) ?_)
    intro we axe g;have i:=fV d g (by omega);have ke:pG we B b H:=⟨aH k1.blk ax1 (by decide) g,k1.ge,k1.ma.keep ax1 (by decide) g⟩;go_wp2;refine bodyPost_ret (v:=.agg (gD 3 0 nilV)) (bB results64 _ _ (w.heap.size+1) _ _ _ rfl axe underlying52 rfl ans_size) rfl ?_;rw[hX.out];exact⟨nilV,rfl,Own.nil _ _ _ _,i,H,ke,rfl⟩
   go_wp2;go_meet
   case rel=>exact⟨rfl,by omega,hh⟩
  have hL:A0=c.a:=by rw[hM.out];unfold Qs; exact if_neg hneg
  subst hL;have kX:decide (c.a<0)=false:=decide_eq_false hneg;go_wp2;go_meet
  case rel=>exact⟨rfl,by omega,Below.refl _ _⟩
 case rest=>
  obtain⟨rfl,kT,z⟩:=hcut;have k1:=k1.below z;have c1:=c1.below z;have ax1:=ax1.ext z;have hrd:=hrd.below z;have j:=j.below z;have d:=fq d z;have hf:=ae (aY hf.out z.size);clear z hs;have hr:=c1.ptr.cell;have hg:=c1.cell;unfold nQ at hg
  by_cases e1:64≤A0
  ·have hX:Hid (sQ H.ma P c=(H.ma,kv 3)):=ae (by rw[o.out,if_pos (.inr (.inl e1))])
   go_wp2_with (refine ax rfl _ _ _ rfl (w.heap.size+1) (gD 3 0 nilV) rfl rfl _ _ ax1 rfl ans_size (bY _ _ _ _ _) ?_)
   intro we axe g;have i:=fV d g (by omega);have ke:pG we B b H:=⟨aH k1.blk ax1 (by decide) g,k1.ge,k1.ma.keep ax1 (by decide) g⟩;go_wp2;refine bodyPost_ret (v:=.agg (gD 3 0 nilV)) (bB results64 _ _ (w.heap.size+1) _ _ _ rfl axe underlying52 rfl ans_size) rfl ?_;rw[hX.out];exact⟨nilV,rfl,Own.nil _ _ _ _,i,H,ke,rfl⟩
  by_cases e2:c.n<1
  ·have hX:Hid (sQ H.ma P c=(H.ma,kv 3)):=ae (by rw[o.out,if_pos (.inr (.inr (.inl e2)))])
   go_wp2_with (refine ax rfl _ _ _ rfl (w.heap.size+1) (gD 3 0 nilV) rfl rfl _ _ ax1 rfl ans_size (bY _ _ _ _ _) ?_)
   intro we axe g;have i:=fV d g (by omega);have ke:pG we B b H:=⟨aH k1.blk ax1 (by decide) g,k1.ge,k1.ma.keep ax1 (by decide) g⟩;go_wp2;refine bodyPost_ret (v:=.agg (gD 3 0 nilV)) (bB results64 _ _ (w.heap.size+1) _ _ _ rfl axe underlying52 rfl ans_size) rfl ?_;rw[hX.out];exact⟨nilV,rfl,Own.nil _ _ _ _,i,H,ke,rfl⟩
  have kU:IntKind.i64.wrap (64-A0)=64-A0:=dS _ (by omega)
  by_cases e3:64-A0<c.n
  ·have hX:Hid (sQ H.ma P c=(H.ma,kv 3)):=ae (by rw[o.out,if_pos (.inr (.inr (.inr (.inl e3))))])
   go_wp2_with (refine ax rfl _ _ _ rfl (w.heap.size+1) (gD 3 0 nilV) rfl rfl _ _ ax1 rfl ans_size (bY _ _ _ _ _) ?_)
   intro we axe g;have i:=fV d g (by omega);have ke:pG we B b H:=⟨aH k1.blk ax1 (by decide) g,k1.ge,k1.ma.keep ax1 (by decide) g⟩;go_wp2;refine bodyPost_ret (v:=.agg (gD 3 0 nilV)) (bB results64 _ _ (w.heap.size+1) _ _ _ rfl axe underlying52 rfl ans_size) rfl ?_;rw[hX.out];exact⟨nilV,rfl,Own.nil _ _ _ _,i,H,ke,rfl⟩
  by_cases e4:c.f < -1
  ·have hX:Hid (sQ H.ma P c=(H.ma,kv 3)):=ae (by rw[o.out,if_pos (.inr (.inr (.inr (.inr e4))))])
   go_wp2_with (refine ax rfl _ _ _ rfl (w.heap.size+1) (gD 3 0 nilV) rfl rfl _ _ ax1 rfl ans_size (bY _ _ _ _ _) ?_)
   intro we axe g;have i:=fV d g (by omega);have ke:pG we B b H:=⟨aH k1.blk ax1 (by decide) g,k1.ge,k1.ma.keep ax1 (by decide) g⟩;go_wp2;refine bodyPost_ret (v:=.agg (gD 3 0 nilV)) (bB results64 _ _ (w.heap.size+1) _ _ _ rfl axe underlying52 rfl ans_size) rfl ?_;rw[hX.out];exact⟨nilV,rfl,Own.nil _ _ _ _,i,H,ke,rfl⟩
  rw[if_neg (by omega)] at o;go_upto_region 9 with (fail);clear hr hg
  by_cases e5:(H.fi.length:Int)≤c.f
  ·have hX:Hid (sQ H.ma P c=(H.ma,kv 5)):=ae (by rw[o.out,if_pos e5]);refine aP 12 [_,_,_,_,_,_,_,_,_,_,_,_] (Gc (.pointer (some ⟨gc,0,none⟩)) (fun W hb=>by simp[(c1.below hb).ptr.cell]) rfl rfl rfl rfl (Gk rfl (Gf gc 4 rfl rfl (Gc (.int .i64 c.f) (fun W hb=>by simp[(c1.below hb).blk.cell,nQ]) rfl rfl rfl rfl (Gk rfl (Gk rfl (Gf b 0 rfl rfl (Gf b 7 rfl rfl (Gf b 7 rfl rfl (Gc (.slice H.ai H.fi.length H.ci) (fun W hb=>by simp[(k1.below hb).blk.cell,bP]) rfl rfl rfl rfl (Gn rfl rfl rfl rfl (Gb (.bool true) (by simp[go_sem,e5]) rfl rfl rfl rfl rfl (aG)) (underlying38)))))))))))) (fun _=>rfl) rfl ?_;intro y W4 l _;have k1:=k1.below l;have ax1:=ax1.ext l;have d:=fq d l
   go_wp2_with (refine ax rfl _ _ _ rfl (w.heap.size+1) (gD 5 0 nilV) rfl rfl _ _ ax1 rfl ans_size (bY _ _ _ _ _) ?_)
   intro we axe g;have i:=fV d g (by omega);have ke:pG we B b H:=⟨aH k1.blk ax1 (by decide) g,k1.ge,k1.ma.keep ax1 (by decide) g⟩;go_wp2;refine bodyPost_ret (v:=.agg (gD 5 0 nilV)) (bB results64 _ _ (w.heap.size+1) _ _ _ rfl axe underlying52 rfl ans_size) rfl ?_;rw[hX.out];exact⟨nilV,rfl,Own.nil _ _ _ _,i,H,ke,rfl⟩
  rw[if_neg e5] at o;refine aP 12 [_,_,_,_,_,_,_,_,_,_,_,_] (Gc (.pointer (some ⟨gc,0,none⟩)) (fun W hb=>by simp[(c1.below hb).ptr.cell]) rfl rfl rfl rfl (Gk rfl (Gf gc 4 rfl rfl (Gc (.int .i64 c.f) (fun W hb=>by simp[(c1.below hb).blk.cell,nQ]) rfl rfl rfl rfl (Gk rfl (Gk rfl (Gf b 0 rfl rfl (Gf b 7 rfl rfl (Gf b 7 rfl rfl (Gc (.slice H.ai H.fi.length H.ci) (fun W hb=>by simp[(k1.below hb).blk.cell,bP]) rfl rfl rfl rfl (Gn rfl rfl rfl rfl (Gb (.bool false) (by simp[go_sem,e5]) rfl rfl rfl rfl rfl (aG)) (underlying38)))))))))))) (fun _=>rfl) rfl ?_;intro y W4 l _;have k1:=k1.below l;have c1:=c1.below l;have ax1:=ax1.ext l;have hrd:=hrd.below l;have j:=j.below l;have d:=fq d l;have hf:=ae (aY hf.out l.size);clear l;have ko:IntKind.i64.wrap (A0+c.n)=A0+c.n:=dS _ (by omega);obtain⟨X,hJ⟩:∃X:Ar,X=⟨A0,A0+c.n,c.rd,c.wr,c.sh,c.f,c.b⟩:=⟨_,rfl⟩;rw[←hJ] at o;have ks:Hid (kQ X=#[.int .i64 A0,.int .i64 (A0+c.n),.bool c.rd,.bool c.wr,.bool c.sh,.int .i64 c.f,.int .i64 c.b]):=ae (by rw[hJ];rfl);clear hJ;go_upto_region 11 with (fail);refine gI 39 [_,_,_,.v (.slice PP.aa PP.ar.length PP.ac),_,_,_,_,_,_,_,_,_,_,_,_,_,_,_,_,_,_,_,_,_,_,_,_,_,_,_,.v (.agg (kQ X)),.r 32 ((qC W4.heap.size 143 7 (iP PP.ar X).length ((iP PP.ar X).flatMap fD) (mQ PP.ar X))),.r 33 ((qC W4.heap.size 143 7 (iP PP.ar X).length ((iP PP.ar X).flatMap fD) (mQ PP.ar X))),.r 34 ((gM W4.heap.size 143 7 (iP PP.ar X).length ((iP PP.ar X).flatMap fD))),.v (.int .i64 (mQ PP.ar X)),.r 36 ((fe W4.heap.size 80 1)),.y 37 ((Xd 36 W4.heap.size 80 (gM W4.heap.size 143 7 (iP PP.ar X).length ((iP PP.ar X).flatMap fD)))),.v (.int .i64 (mQ PP.ar X))] (fun W=>Below W4.heap.size W4 W) bn (Below.refl _ _) (Yk bn rfl (Yk bn rfl (Yf bn gs (os+P*10+1) rfl rfl (aj ?_ (Yk bn rfl (Yk bn rfl (Yc bn (.pointer (some ⟨gc,0,none⟩)) (fun W hb=>by simp[(c1.below hb).ptr.cell]) rfl rfl rfl rfl (Yk bn rfl (Yf bn gc 3 rfl rfl (Yc bn (.int .i64 c.n) (fun W hb=>by simp[(c1.below hb).blk.cell,nQ]) rfl rfl rfl rfl (Yb bn (.int .i64 (A0+c.n)) (by simp[go_sem,ko]) rfl rfl rfl rfl rfl (Yc bn (.pointer (some ⟨gc,0,none⟩)) (fun W hb=>by simp[(c1.below hb).ptr.cell]) rfl rfl rfl rfl (Yk bn rfl (Yf bn gc 6 rfl rfl (Yc bn (.bool c.rd) (fun W hb=>by simp[(c1.below hb).blk.cell,nQ]) rfl rfl rfl rfl (Yc bn (.pointer (some ⟨gc,0,none⟩)) (fun W hb=>by simp[(c1.below hb).ptr.cell]) rfl rfl rfl rfl (Yk bn rfl (Yf bn gc 7 rfl rfl (Yc bn (.bool c.wr) (fun W hb=>by simp[(c1.below hb).blk.cell,nQ]) rfl rfl rfl rfl (Yc bn (.pointer (some ⟨gc,0,none⟩)) (fun W hb=>by simp[(c1.below hb).ptr.cell]) rfl rfl rfl rfl (Yk bn rfl (Yf bn gc 8 rfl rfl (Yc bn (.bool c.sh) (fun W hb=>by simp[(c1.below hb).blk.cell,nQ]) rfl rfl rfl rfl (Yc bn (.pointer (some ⟨gc,0,none⟩)) (fun W hb=>by simp[(c1.below hb).ptr.cell]) rfl rfl rfl rfl (Yk bn rfl (Yf bn gc 4 rfl rfl (Yc bn (.int .i64 c.f) (fun W hb=>by simp[(c1.below hb).blk.cell,nQ]) rfl rfl rfl rfl (Yc bn (.pointer (some ⟨gc,0,none⟩)) (fun W hb=>by simp[(c1.below hb).ptr.cell]) rfl rfl rfl rfl (Yk bn rfl (Yf bn gc 5 rfl rfl (Yc bn (.int .i64 c.b) (fun W hb=>by simp[(c1.below hb).blk.cell,nQ]) rfl rfl rfl rfl (aj ?_ (aj ?_ (aj ?_ (aj ?_ (aj ?_ (aj ?_ (aj ?_ (Yk bn rfl (aG)))))))))))))))))))))))))))))))))))))))) (fun _=>rfl) rfl ?_
  ·intro ρ y W hw hn hb hd;refine eH bn hb (gX (.slice PP.aa PP.ar.length PP.ac)) (fun _ _ h=>h) ?_;have kK:=hw 80 2 rfl;have h2:y 2 = .pointer (some ⟨gs,os+P*10+1,none⟩):=hd 2 rfl;have hs:=IG (hrd.below hb);refine ak (.slice PP.aa PP.ar.length PP.ac) (ag rfl) (by simp[execOp,go_sem,bu,kK,h2,hs]) rfl
  ·intro ρ y W hw hn hb hd;refine eH bn hb (gX (.agg (kQ X))) (fun _ _ h=>h) ?_;have kI:=hw 82 4 rfl;have h4:y 4 = .int .i64 A0:=hd 4 rfl;have kH:=hw 88 10 rfl;have kE:y 10 = .int .i64 (A0+c.n):=hd 10 rfl;have kG:=hw 92 14 rfl;have kD:y 14 = .bool c.rd:=hd 14 rfl;have kF:=hw 96 18 rfl;have kC:y 18 = .bool c.wr:=hd 18 rfl;have kn:=hw 100 22 rfl;have kB:y 22 = .bool c.sh:=hd 22 rfl;have km:=hw 104 26 rfl;have kA:y 26 = .int .i64 c.f:=hd 26 rfl;have kl:=hw 108 30 rfl;have kz:y 30 = .int .i64 c.b:=hd 30 rfl;have kg:=ks.out;refine ak (.agg (kQ X)) (ag rfl) (by simp[execOp,go_sem,bu,kI,h4,kH,kE,kG,kD,kF,kC,kn,kB,km,kA,kl,kz,kg]) rfl
  ·intro ρ y W hw hn hb hd;refine eH bn hb ((qC W4.heap.size 143 7 (iP PP.ar X).length ((iP PP.ar X).flatMap fD) (mQ PP.ar X))) (fun _ _ h=>h) ?_;have kJ:=hw 81 3 rfl;have h3:y 3 = .slice PP.aa PP.ar.length PP.ac:=hd 3 rfl;have kk:=hw 109 31 rfl;have ky:y 31 = .agg (kQ X):=hd 31 rfl;have EF:∀f,ρ (.func f) = .func (.func f) #[] #[]:=fun f=>hn (.func f) trivial;refine aL _ _ (ag rfl) (aS rfl (EF _) func106 (by kernel_rfl) (by kernel_rfl) (by simp only[bT,bH,bL,kJ,h3,kk,ky,EF];rfl)) ?_;refine (Ve PP.ar X PP.aa PP.ac W (j.below hb).ars).mono ?_;rintro r W3 ⟨u,rfl,ho,z⟩;exact⟨_,rfl,z,u,rfl,ho.mono hb.size⟩
  ·intro ρ y W hw hn hb hd;refine eH bn hb ((qC W4.heap.size 143 7 (iP PP.ar X).length ((iP PP.ar X).flatMap fD) (mQ PP.ar X))) (fun _ _ h=>h) ?_;have kj:=hw 110 32 rfl;have kx:=hd 32 rfl;refine ak _ (ag rfl) (run_move (.inl rfl) kj) ?_;exact kx
  ·intro ρ y W hw hn hb hd;refine eH bn hb ((gM W4.heap.size 143 7 (iP PP.ar X).length ((iP PP.ar X).flatMap fD))) (fun _ _ h=>h) ?_;have hO:=hw 77 33 rfl;have hN:=hd 33 rfl;obtain⟨u,hu,ho⟩:=hN;refine ak u (ag rfl) (by simp[execOp,go_sem,bu,hO,hu]) ?_;exact ho
  ·intro ρ y W hw hn hb hd;refine eH bn hb (gX (.int .i64 (mQ PP.ar X))) (fun _ _ h=>h) ?_;have hO:=hw 77 33 rfl;have hN:=hd 33 rfl;obtain⟨u,hu,ho⟩:=hN;refine ak (.int .i64 (mQ PP.ar X)) (ag rfl) (by simp[execOp,go_sem,bu,hO,hu]) rfl
  ·intro ρ y W hw hn hb hd;refine eH bn hb ((fe W4.heap.size 80 1)) (fun _ _ h=>h) ?_;refine gH (.pointer (some ⟨W.heap.size,0,none⟩)) (ag rfl) (by simp[execOp,go_sem,bu]) ((Below.refl _ _).alloc (az _) (.cells #[.slice none 0 0] 80)) ?_;exact⟨_,_,rfl,hb.size,aJ.new _ _ _,rfl⟩
  ·intro ρ y W hw hn hb hd;have E7:=hw 7 36 rfl;have ku:=hd 36 rfl;have ki:=hw 111 34 rfl;have kw:=hd 34 rfl;have hm:Own W W4.heap.size 143 7 (y 34) _ _:=kw;obtain⟨a3,c3,e3,_⟩:=Own.rd hm;obtain⟨g3,cur3,e9,ka,hj,hU⟩:=ku;refine jc (ag rfl) _ _ _ rfl g3 0 (.slice a3 (iP PP.ar X).length c3) [.slice a3 (iP PP.ar X).length c3] (E7.trans e9) (ki.trans e3) rfl cur3 _ hj (by rw[hU];exact az _) asl_size (fun u hu=>by cases bF.1 hu;rfl) ?_;intro w2 hG hi;rw[show [Value.slice a3 (iP PP.ar X).length c3]=(#[Value.slice a3 (iP PP.ar X).length c3]:Array Value).toList from rfl,eB cur3 _ (by rw[hU];rfl)] at hG;rw[e3] at hm;refine⟨hb.grown hi hb.size (fun k hk=>by cases hk;exact ka),⟨g3,_,e9,ka,hG,ay hm hj (by decide) hi⟩,?_⟩;intro k hk kq
   match k,hk,kq with
   | 0,_,_=>exact fun h=>h
   | 1,_,_=>exact fun h=>h
   | 2,_,_=>exact fun h=>h
   | 3,_,_=>exact fun h=>h
   | 4,_,_=>exact fun h=>h
   | 5,_,_=>exact fun h=>h
   | 6,_,_=>exact fun h=>h
   | 7,_,_=>exact fun h=>h
   | 8,_,_=>exact fun h=>h
   | 9,_,_=>exact fun h=>h
   | 10,_,_=>exact fun h=>h
   | 11,_,_=>exact fun h=>h
   | 12,_,_=>exact fun h=>h
   | 13,_,_=>exact fun h=>h
   | 14,_,_=>exact fun h=>h
   | 15,_,_=>exact fun h=>h
   | 16,_,_=>exact fun h=>h
   | 17,_,_=>exact fun h=>h
   | 18,_,_=>exact fun h=>h
   | 19,_,_=>exact fun h=>h
   | 20,_,_=>exact fun h=>h
   | 21,_,_=>exact fun h=>h
   | 22,_,_=>exact fun h=>h
   | 23,_,_=>exact fun h=>h
   | 24,_,_=>exact fun h=>h
   | 25,_,_=>exact fun h=>h
   | 26,_,_=>exact fun h=>h
   | 27,_,_=>exact fun h=>h
   | 28,_,_=>exact fun h=>h
   | 29,_,_=>exact fun h=>h
   | 30,_,_=>exact fun h=>h
   | 31,_,_=>exact fun h=>h
   | 32,_,_=>exact fun⟨u,q1,q2⟩=>⟨u,q1,ay q2 hj (by decide) hi⟩
   | 33,_,_=>exact fun⟨u,q1,q2⟩=>⟨u,q1,ay q2 hj (by decide) hi⟩
   | 34,_,_=>exact fun q=>ay q hj (by decide) hi
   | 35,_,_=>exact fun h=>h
   | 36,_,_=>exact fun q=>iB q hG (fun _=>rfl) ⟨_,hj⟩ hi
   | 37,_,h=>exact absurd rfl h
   | 38,_,_=>exact fun h=>h
   | n+39,h,_=>exact absurd h (by omega)
  intro y W5 s ha;replace s:Below W4.heap.size W4 W5:=s;have kR:((qC W4.heap.size 143 7 (iP PP.ar X).length ((iP PP.ar X).flatMap fD) (mQ PP.ar X))).r (y 32) W5:=ha 32 (by decide);have kP:((qC W4.heap.size 143 7 (iP PP.ar X).length ((iP PP.ar X).flatMap fD) (mQ PP.ar X))).r (y 33) W5:=ha 33 (by decide);have kO:((gM W4.heap.size 143 7 (iP PP.ar X).length ((iP PP.ar X).flatMap fD))).r (y 34) W5:=ha 34 (by decide);have hS:((fe W4.heap.size 80 1)).r (y 36) W5:=ha 36 (by decide);have hQ:=ha 37 (by decide);clear ha;simp only[dD,bu,bH,bL];obtain⟨gl,vl,h8,h9,hD,hI⟩:=hQ;obtain⟨al,cl,rfl,_⟩:=Own.rd hI;rw[h8];have h5:=ae (aY kt.out hf.out);have k1:=k1.below s;have c1:=c1.below s;have ax1:=ax1.ext s;have l1:WN W5 B gl (iP PP.ar X) al cl:=⟨hD,Own.mono hI h5.out⟩;have d:=fq d s;have hT:=ae (aY hf.out s.size);clear s h8 h9 hD hI hS j hrd;generalize hE:mQ PP.ar X=E at *
  by_cases h0:E=0
  ·have hX:Hid (sQ H.ma P c=(setAr H.ma P (iP PP.ar X),⟨0,A0,[]⟩)):=ae (by rw[o.out,if_neg (by rw[h0];simp)]);have hV:=LU (m:=H.ma) c a cap gc w.heap.size gl B P (iP PP.ar X) al cl W5 k1.bs c1 l1 kc (by rw[pI];exact hpl);rw[h0];clear hE h0 o l1
   go_wp2_with fail
   refine (JJ H _ _ _ B b _ k1 hz.out hV).mono ?_;have kd:UR ((⟨setAr H.ma P (iP PP.ar X),0⟩,0):Kp × Int)=0:=rfl;rw[kd];rintro r w6 ⟨rfl,ht,H6,k6,hY⟩;have hW : Hid (H6.ma=setAr H.ma P (iP PP.ar X)):=ae hY;have ax6:=ax1.grown ht (fun e=>by cases e;omega);have hB:=uk d ht;have kV:=ae (aY hT.out ht.size);have kW:=ax6.lt;clear hV hY ht ax1 k1 d kd c1
   go_wp2_with (refine aW rfl _ _ _ rfl (gD 0 0 nilV) rfl rfl rfl ans_size (bY _ _ _ _ _) ?_)
   intro w7 hy zx7;have k7:=k6.below hy;have ax7:=ax6.ext hy;have hA:=fq hB hy;clear k6 ax6 hB hy;have hP:=zx7.cell;unfold gD at hP
   go_wp2_with (refine aX rfl _ _ _ rfl w6.heap.size 1 _ [.int .i64 A0] rfl rfl rfl _ _ zx7 (by show 1+1≤3;decide) (by kernel_rfl) (fun u hu=>by cases bF.1 hu;rfl) ?_)
   intro w8 kf hq;have zx8:aJ w8 w6.heap.size (gD 0 A0 nilV) 52:=kf;have ax8:=ax7.grown hq (fun e=>by have:=aT e;omega);have k8:pG w8 B b H6:=⟨aH k7.blk zx7 (by decide) hq,k7.ge,k7.ma.keep zx7 (by decide) hq⟩;have h6:=fV hA hq (by omega);clear k7 ax7 zx7 hA hq kf hP
   go_wp2_with (first | (refine aA _ _ rfl w6.heap.size 0 rfl rfl (gD 0 A0 nilV).toList zx8.rd _ underlying52 rfl ans_size ?_) | (refine ax rfl _ _ _ rfl (w.heap.size+1) (gD 0 A0 nilV) rfl rfl _ _ ax8 rfl ans_size (bY _ _ _ _ _) ?_))
   intro we axe g;have i:=fV h6 g (by omega);have ke:pG we B b H6:=⟨aH k8.blk ax8 (by decide) g,k8.ge,k8.ma.keep ax8 (by decide) g⟩;go_wp2;refine bodyPost_ret (v:=.agg (gD 0 A0 nilV)) (bB results64 _ _ (w.heap.size+1) _ _ _ rfl axe underlying52 rfl ans_size) rfl ?_;rw[hX.out];exact⟨nilV,rfl,Own.nil _ _ _ _,i,H6,ke,hW.out⟩
  have hX:Hid (sQ H.ma P c=(H.ma,kv E)):=ae (by rw[o.out,if_pos h0]);clear hE o l1
  go_wp2_with (refine ax rfl _ _ _ rfl (w.heap.size+1) (gD E 0 nilV) rfl rfl _ _ ax1 rfl ans_size (bY _ _ _ _ _) ?_)
  intro we axe g;have i:=fV d g (by omega);have ke:pG we B b H:=⟨aH k1.blk ax1 (by decide) g,k1.ge,k1.ma.keep ax1 (by decide) g⟩;go_wp2;refine bodyPost_ret (v:=.agg (gD E 0 nilV)) (bB results64 _ _ (w.heap.size+1) _ _ _ rfl axe underlying52 rfl ans_size) rfl ?_;rw[hX.out];exact⟨nilV,rfl,Own.nil _ _ _ _,i,H,ke,rfl⟩
theorem uN {o:Nat} (h:dV w (some ⟨b,o,none⟩) vs) (hu:vs[k]?=some u):w.cell? ⟨b,o+k,none⟩=some u:=by
 obtain⟨b',o',e,hc⟩:=h k u hu;cases e;exact hc
theorem OT (h:aQ s=0) (hl:rP s≠0):0≤fA s:=by
 by_cases hf:fA s<0
 ·exact absurd (MM h hf) hl
 ·omega
def XT (m:Ma) (f:Nat):Bool:=(aD m f).d&&iZ m f
def Wy (m:Ma):Option Nat:=(List.range m.m.fs.length).find? (XT m)
def WJ (m:Ma):Ma:=match Wy m with
 | none=>m
 | some f=>(jM ⟨m,0⟩ f).m
def VS (m:Ma) (bits:Int):Ma:={ jf m.m.fs.length m.sl.length m.st.count with dk:=VH (VP bits) m.dk,st:=m.st }
def Ug (m:Ma) (c:Cl):Ma × An:=if c.k=15 then (VS m c.n,kv 0) else if c.k=14 then (WJ m,kv 0) else ((dY ⟨m,0⟩).1.m,kv 0)
def Yl (B:Nat) (X:Ma) (e:Int):nR:=⟨fun v w => ∃H',v = .tuple #[.agg (bP H'),.int .i64 e]∧qf w B H'∧H'.ma=X,fun _ _ _ hb ⟨H',h1,h2,h3⟩=>⟨H',h1,h2.below hb,h3⟩⟩
def Be (B:Nat) (X:Ma):nR:=⟨fun v w => ∃H',v = .agg (bP H')∧qf w B H'∧H'.ma=X,fun _ _ _ hb ⟨H',h1,h2,h3⟩=>⟨H',h1,h2.below hb,h3⟩⟩
def Sw (file:Int) (m:Ma) (f:Nat):Option Ma:=if (aD m f).f=file then (if iZ m f=true then some (jM ⟨m,0⟩ f).m else none) else some m
def VG (file:Int) (m:Ma):Nat→Option Ma
 | 0=>some m
 | f+1=>(VG file m f).bind fun m1=>Sw file m1 f
def Wi (m:Ma):Ma:={ m with dk:=VH (fun _=>true) m.dk }
def Xv (file:Int) (m:Ma):Option Ma:=(VG file m m.m.fs.length).map Wi
theorem WB {s:Nat} (hf:f≤40) (hs:s≤60) (hc:ct≤80):Rt (jf f s ct):=by
 rw[←SN hf hs hc];have h1:=((Fb.start hc).bd (f:=f) (s:=s) (by decide) hf hs).more (s:=⟨true,[],zTb⟩) (by show 0<4;decide) rfl (by decide);exact h1.rt
theorem MQ {f s c:Int} (h:(0≤f∧f≤40)∧(0≤s∧s≤60)∧0≤c∧c≤80):jf f s c=⟨vZ f,Dc s,vJ s,vJ c,⟨[],c⟩,[],[⟨true,[],zTb⟩]⟩:=by
 unfold jf;rw[if_pos h]
def XJ (m:Ma) (f:Int):Ma × An:=match Xv f m with
 | none=>(m,kv 10)
 | some m'=>(m',kv 0)
def Xz (m:Ma) (c:Cl):Ma × An:=if c.f<0∨(m.st.fs.length:Int)≤c.f then (m,kv 5) else if c.k=9 then XV m c else if c.k=10 then Ya m c else if c.k=11 then XX m c else XJ m c.f
theorem qf.frPut (h:qf w B H) (hf:f<H.m.fs.length) :
  ∃g off cur,H.af=some ⟨g,off,none⟩∧B≤g∧aJ w g cur 132∧off+f*13+13≤cur.size∧dV w (some ⟨g,off+f*13,none⟩) (oO (aD H.ma f)) ∧
   ∀(o n:Nat) (vs:List Value) (x:Fr) (w' : World),vs.length=n→o+n≤13→oO x=(oO (aD H.ma f)).take o++vs++(oO (aD H.ma f)).drop (o+n)→aJ w' g (dE cur (off+f*13+o) vs) 132→w.grownBy w' (some g)→qf w' B { H with m:=⟨H.m.fs.set f x,H.m.hand⟩ }:=by
 have p:H.m.fs[f]=aD H.ma f:=by have:H.m.fs[f]?=some (aD H.ma f):=tF (m:=H.ma) (f:=f) hf;rw[aN hf] at this;exact aT this
 obtain⟨g,off,cap,cur,hv,hB,a,i,c⟩:=pq iR (by decide) rfl h.fr f hf;simp only[lV] at hv;obtain⟨l,_,s⟩:=hv;have e:=h.fr;rw[l] at e;have b:=AC e a;have k:∀j u,(oO (aD H.ma f))[j]?=some u→cur[off+f*13+j]?=some u:=fun j u hj=>by rw[pX];exact b _ _ (flat_get oO 13 iR H.m.fs f hf j u (by rw[p];exact hj))
 refine⟨g,off,cur,l,hB,a,i,fun j u hj=>⟨g,_,rfl,by rw[a.cell];exact k j u hj⟩,fun o n vs x w' hn ho hx hb hg => ?_⟩;have r:aJ w' g (dE cur (off+f*13) (oO x)) 132:=by
  have hl:=iR (aD H.ma f);generalize oO (aD H.ma f)=ys at *
  generalize oO x=xs at *
  rw[yE cur (off+f*13) o n ys xs vs k hx hn (by omega) (by omega)];exact hb
 have d:(H.m.fs.set f x).length=H.m.fs.length:=cO;refine⟨?_,ay h.sl a (by decide) hg,h.sw.keep a (by decide) (by decide) hg,h.dk.keep a (by decide) (by decide) hg,h.st.keep a (by decide) (by decide) hg,ay h.ca a (by decide) hg,ay h.sp a (by decide) hg,fun q hq=>⟨ay (h.ps q hq).1 a (by decide) hg,(h.ps q hq).2.keep a (by decide) hg⟩,h.c64⟩;simp only[d];exact c w' _ r
theorem Un (hR:Rt m) (hC:Co m) (hF:Py m) {w:Bool} (hp:p<m.sp.length) (hv:(bE m p).lv=true) (hu:mg m p n w=0) :
  ∃g,dQ m p n=some g∧Wp m (pR m p n w) p n w g (ui m p n w)∧0≤ui m p n w:=by
 rw[Ku hR hp hv] at hu
 by_cases h1:ng m p n w=0
 ·rw[if_neg (by simpa using h1)] at hu;have c:0≤eQ (bE m p).ar n:=by
   unfold ng at h1
   by_cases h:eQ (bE m p).ar n<0
   ·rw[if_pos h] at h1;cases h1
   ·omega
  obtain⟨g,hg⟩:∃g,dQ m p n=some g:=⟨_,(zQ c).1⟩;obtain⟨a1,a2,a3,a4,a5,a6,a7⟩:=vD hg;have a:=(Cb hg).1 h1
  by_cases h2:0≤(jo m p n).fi∧copied m p n=false∧nZ m.st (jo m p n).fi ((jo m p n).ba+n-(jo m p n).fr)=true
  ·rw[if_pos h2] at hu;cases hu
  rw[if_neg h2] at hu;have b:0≤g.fi→(aF m p n).k=0→ni m.st g.fi g.pg:=fun b1 b2=>by
   refine CK hR.pt.st b1 (hR.pt.pg hg).1 (fun h3 => ?_);rcases h3 with h3|h3
   ·have:=hF.at (p:=p) (n:=n) c;omega
   refine h2 ⟨by omega,?_,by rw[a6,a7 b1];exact h3⟩;unfold copied;rw[b2];rfl
  obtain⟨f,d,_⟩:=Ls hR hC (w:=w) hp hg (fun e=>a.1 e) b
  by_cases h3:(kS m p n w).2<0
  ·rw[if_pos h3] at hu;cases hu
  have U:=d (by omega);refine⟨g,hg,?_,by show 0≤(kS m p (n) w).2;omega⟩;have:=U.mark (e:=(kS m p n w).1.e) hg;unfold pR ui;rw[bG,a3];exact this
 rw[if_pos h1] at hu;exact absurd hu h1
def BG (B:Nat) (X:Ma) (F E:Int):nR:=⟨fun v w => ∃H',v = .tuple #[.agg (bP H'),.int .i64 F,.int .i64 E]∧qf w B H'∧H'.ma=X,fun _ _ _ hb ⟨H',h1,h2,h3⟩=>⟨H',h1,h2.below hb,h3⟩⟩
def VF (k:Nat) (B:Nat) (X:Ma):uw:=⟨fun y w => ∃g H',y k = .pointer (some ⟨g,0,none⟩)∧B≤g∧aJ w g (bP H') 44∧qf w B H'∧H'.ma=X,[k],
 fun _ _ _ hb ⟨g,H',h1,h2,h3,h4,h5⟩=>⟨g,H',h1,h2,h3.ext hb,h4.below hb,h5⟩,fun y y' w h ⟨g,H',h1,h2⟩=>⟨g,H',by rw[←h k (bF.2 rfl)];exact h1,h2⟩⟩
theorem DK (H:MH) (c:Cl) (n:Int) (wr:Bool) (a:Option Addr) (cap gc B b:Nat) (w:World) (h:pG w B b H) (hR:Rt H.ma) (hC:Co H.ma) (hFi:Py H.ma) (hc:aJ w gc (nQ c a cap) 25) (hrd:∀W,Below B w W→dV W a (c.da.map oZ)) (hle:c.da.length≤cap) (hmx:cap≤maxLen) (hnl:a=none→cap=0) (ha64:nS c.a)
 (P:Nat) (hP:c.p=P) (hpl:P<H.sp.length) (hlv:(bE H.ma P).lv=true) :
  Calls Tryz.prog 67 #[.pointer (some ⟨b,0,none⟩),.pointer (some ⟨gc,0,none⟩),.int .i64 n,.bool wr] w (Xy w B b (kN H.ma c n wr)):=by
 have gO:=ae hR;have gP:=ae hC;have gh:=ae hFi;have kW:=ae hlv;have qt:=ae hP;have qZ:=h.blk.lt;clear hR hC hFi hlv hP;go_enter func67,ntmps67;go_upto_region 1 with (fail);refine je (fun W=>Code.wp _ _ _ _ W) fun w1 hT ax1 qC => ?_;have k1:=h.below hT;have c1:=hc.ext hT;have hD:w.grownBy w1 (some b):=IP hT;have ki:=ae h.bs;have k9:=ae hT;have gt:=ae hrd;clear h hc hT qC hrd;have gG:=c1.cell;unfold nQ at gG
 go_wp2_with fail
 refine (LJ c.a n _).mono ?_;rintro r w2 ⟨rfl,rfl⟩;cases hwi:qy c.a n with
 | false=>
  have hX:Hid (kN H.ma c n wr=(H.ma,kv 2)):=ae (by unfold kN;rw[if_pos hwi])
  go_wp2_with (refine ax rfl _ _ _ rfl w.heap.size (gD 2 0 nilV) rfl rfl _ _ ax1 rfl ans_size (bY _ _ _ _ _) ?_)
  intro we axe l;have s:=fV hD l (by omega);have ke:pG we B b H:=⟨aH k1.blk ax1 (by decide) l,k1.ge,k1.ma.keep ax1 (by decide) l⟩;go_wp2;refine bodyPost_ret (v:=.agg (gD 2 0 nilV)) (bB results67 _ _ w.heap.size _ _ _ rfl axe underlying52 rfl ans_size) rfl ?_;rw[hX.out];exact⟨nilV,rfl,Own.nil _ _ _ _,s,H,ke,rfl⟩
 | true=>
  have qW:0≤c.a∧0≤n∧n≤8∧c.a%8≤8-n:=by unfold qy at hwi;simp only[dA,decide_eq_true_eq] at hwi;omega
  obtain⟨A,hA⟩:∃A:Nat,c.a=A:=⟨c.a.toNat,by omega⟩;have q0:A≤9223372036854775807:=by have:=ha64.2;omega
  have qv:=ae hA;have hX:Hid (kN H.ma c n wr=if mg H.ma P ((A:Int) / 8) wr≠0 then (H.ma,kv (mg H.ma P ((A:Int) / 8) wr))
    else if yg (pR H.ma P ((A:Int) / 8) wr) (aD (pR H.ma P ((A:Int) / 8) wr) (ui H.ma P ((A:Int) / 8) wr).toNat) ((A:Int)%8+n)=true then (H.ma,kv 9)
    else if wr=true then (setFr (pR H.ma P ((A:Int) / 8) wr) (ui H.ma P ((A:Int) / 8) wr).toNat { aD (pR H.ma P ((A:Int) / 8) wr) (ui H.ma P ((A:Int) / 8) wr).toNat with p:=eY (aD (pR H.ma P ((A:Int) / 8) wr) (ui H.ma P ((A:Int) / 8) wr).toNat).p ((A:Int)%8) c.da },⟨0,n,[]⟩)
    else (pR H.ma P ((A:Int) / 8) wr,⟨0,n,vF (aD (pR H.ma P ((A:Int) / 8) wr) (ui H.ma P ((A:Int) / 8) wr).toNat).p ((A:Int)%8) n⟩)):=ae (by
   unfold kN;rw[hwi,if_neg (by simp),hA,qt.out])
  rw[hA] at gG;clear hA hwi;have qE:(A:Int).tdiv 8=(A:Int) / 8:=by rw[Int.tdiv_eq_ediv_of_nonneg (by omega)]
  have qF:(A:Int).tmod 8=(A:Int)%8:=by rw[Int.tmod_eq_emod_of_nonneg (by omega)]
  have qw:IntKind.i64.wrap ((A:Int) / 8)=(A:Int) / 8:=dS _ (by omega);have qz:IntKind.i64.wrap ((A:Int)%8)=(A:Int)%8:=dS _ (by omega);go_upto_region 3 with (fail);refine gI 12 [_,_,_,_,_,_,_,_,_,_,.v (.int .i64 ((A:Int) / 8)),.v (.int .i64 ((A:Int)%8))] (fun W=>Below w1.heap.size w1 W) bn (Below.refl _ _) (Yk bn rfl (Yk bn rfl (Yf bn gc 2 rfl rfl (Yc bn (.int .i64 (A:Int)) (fun W hb=>by simp[(c1.ext hb).cell,nQ,qv.out]) rfl rfl rfl rfl (Yb bn (.int .i64 ((A:Int) / 8)) (by simp[go_sem,qE,qw]) rfl rfl rfl rfl rfl (Yk bn rfl (Yk bn rfl (Yf bn gc 2 rfl rfl (Yc bn (.int .i64 (A:Int)) (fun W hb=>by simp[(c1.ext hb).cell,nQ,qv.out]) rfl rfl rfl rfl (Yb bn (.int .i64 ((A:Int)%8)) (by simp[go_sem,qF,qz]) rfl rfl rfl rfl rfl (Yk bn rfl (Yk bn rfl (aG))))))))))))) (fun _=>rfl) rfl ?_;intro y W2 hj qs;replace hj:Below w1.heap.size w1 W2:=hj;clear qs;simp only[dD,bu,bH,bL];have k2:=k1.below hj;have c2:=c1.ext hj;have ax2:=ax1.ext hj;have gu:=fq hD hj;have kK:Hid (w.heap.size≤W2.heap.size):=ae (aY k9.out.size hj.size);have k8 : Hid (Below w.heap.size w W2):=ae (fu k9.out (hj.mono k9.out.size));clear k1 c1 ax1 hD hj gG;obtain⟨X,F,E,gd⟩:∃(X:Ma) (F E:Int),Hid ((E=mg H.ma P ((A:Int) / 8) wr∧(E=0→X=pR H.ma P ((A:Int) / 8) wr∧F=ui H.ma P ((A:Int) / 8) wr))∧∀W,Below W2.heap.size W2 W→Calls Tryz.prog 116 #[.agg (bP H),.int .i64 P,.int .i64 ((A:Int) / 8),.bool wr] W fun r w'=>Below W.heap.size W w'∧∃H',r = .returned (.tuple #[.agg (bP H'),.int .i64 F,.int .i64 E])∧qf w' W.heap.size H'∧H'.ma=X):=by
   by_cases he:mg H.ma P ((A:Int) / 8) wr=0
   ·refine⟨_,_,_,ae ⟨⟨rfl,fun _=>⟨rfl,rfl⟩⟩,fun W hb=>(Kv H P ((A:Int) / 8) wr W (k2.below hb).ma.rd gO.out gP.out gh.out hpl kW.out).mono ?_⟩⟩;rintro r w' ⟨gJ,kr⟩;rcases kr with ⟨h1,_⟩|⟨_,H',rfl,ho,hm⟩
    ·exact absurd he h1
    ·exact⟨gJ,H',by rw[he],ho,hm⟩
   refine⟨zMa,0,_,ae ⟨⟨rfl,fun e=>absurd e he⟩,fun W hb=>(Kv H P ((A:Int) / 8) wr W (k2.below hb).ma.rd gO.out gP.out gh.out hpl kW.out).mono ?_⟩⟩;rintro r w' ⟨gJ,kr⟩;rcases kr with ⟨_,rfl⟩|⟨h1,_⟩
   ·exact⟨gJ,noH,rfl,uF _ _,noH_ma⟩
   ·exact absurd h1 he
  go_upto_region 4 with (fail);refine gI 19 [_,_,_,_,_,_,_,_,_,_,.r 10 ((BG W2.heap.size X F E)),.r 11 ((BG W2.heap.size X F E)),.r 12 ((Be W2.heap.size X)),.v (.int .i64 F),.v (.int .i64 E),.r 15 ((fe W2.heap.size 44 11)),.y 16 ((VF 15 W2.heap.size X)),.v (.int .i64 F),.v (.int .i64 E)] (fun W=>Below W2.heap.size W2 W) bn (Below.refl _ _) (Yk bn rfl (Yk bn rfl (Yf bn b 0 rfl rfl (Yr bn (.agg (bP H)) (fun ρ y W hb gs=>(bZ rfl (aV rfl gs) ((k2.below hb).blk) underlying44 rfl mach_size)) rfl rfl (Yk bn rfl (Yk bn rfl (Yf bn gc 1 rfl rfl (Yc bn (.int .i64 (P:Int)) (fun W hb=>by simp[(c2.ext hb).cell,nQ,qt.out]) rfl rfl rfl rfl (Yk bn rfl (Yk bn rfl (aj ?_ (aj ?_ (aj ?_ (aj ?_ (aj ?_ (aj ?_ (aj ?_ (Yk bn rfl (Yk bn rfl (aG)))))))))))))))))))) (fun _=>rfl) rfl ?_
  ·intro ρ y W hw hn hb hd;refine eH bn hb ((BG W2.heap.size X F E)) (fun _ _ h=>h) ?_;have qR:=hw 37 3 rfl;have h3:y 3 = .agg (bP H):=hd 3 rfl;have qQ:=hw 41 7 rfl;have h7:y 7 = .int .i64 (P:Int):=hd 7 rfl;have qP:=hw 42 8 rfl;have h8:y 8 = .int .i64 ((A:Int) / 8):=hd 8 rfl;have qO:=hw 43 9 rfl;have h9:y 9 = .bool wr:=hd 9 rfl;have EF:∀f,ρ (.func f) = .func (.func f) #[] #[]:=fun f=>hn (.func f) trivial;refine aL _ _ (ag rfl) (aS rfl (EF _) func116 (by kernel_rfl) (by kernel_rfl) (by simp only[bT,bH,bL,qR,h3,qQ,h7,qP,h8,qO,h9,EF];rfl)) ?_;refine (gd.out.2 W hb).mono ?_;rintro r w9 ⟨qK,H9,rfl,kn,ko⟩;exact⟨_,rfl,qK,H9,rfl,kn.mono hb.size,ko⟩
  ·intro ρ y W hw hn hb hd;refine eH bn hb ((BG W2.heap.size X F E)) (fun _ _ h=>h) ?_;have qN:=hw 44 10 rfl;have gk:=hd 10 rfl;refine ak _ (ag rfl) (run_move (.inl rfl) qN) ?_;exact gk
  ·intro ρ y W hw hn hb hd;refine eH bn hb ((Be W2.heap.size X)) (fun _ _ h=>h) ?_;have gl:=hw 33 11 rfl;have hW:=hd 11 rfl;obtain⟨H9,e9,kn,ko⟩:=hW;refine ak (.agg (bP H9)) (ag rfl) (by simp[execOp,go_sem,bu,gl,e9]) ?_;exact⟨H9,rfl,kn,ko⟩
  ·intro ρ y W hw hn hb hd;refine eH bn hb (gX (.int .i64 F)) (fun _ _ h=>h) ?_;have gl:=hw 33 11 rfl;have hW:=hd 11 rfl;obtain⟨H9,e9,kn,ko⟩:=hW;refine ak (.int .i64 F) (ag rfl) (by simp[execOp,go_sem,bu,gl,e9]) rfl
  ·intro ρ y W hw hn hb hd;refine eH bn hb (gX (.int .i64 E)) (fun _ _ h=>h) ?_;have gl:=hw 33 11 rfl;have hW:=hd 11 rfl;obtain⟨H9,e9,kn,ko⟩:=hW;refine ak (.int .i64 E) (ag rfl) (by simp[execOp,go_sem,bu,gl,e9]) rfl
  ·intro ρ y W hw hn hb hd;refine eH bn hb ((fe W2.heap.size 44 11)) (fun _ _ h=>h) ?_;refine gH (.pointer (some ⟨W.heap.size,0,none⟩)) (ag rfl) (by simp[execOp,go_sem,bu];rfl) ((Below.refl _ _).alloc (az _) (.cells (bP noH) 44)) ?_;exact⟨_,_,rfl,hb.size,aJ.new _ _ _,rfl⟩
  ·intro ρ y W hw hn hb hd;have hY:=hw 11 15 rfl;have gi:=hd 15 rfl;have qM:=hw 45 12 rfl;have gj:=hd 12 rfl;obtain⟨H9,e9,kn,ko⟩:=gj;obtain⟨g3,cur3,e3,qn,ky,qg⟩:=gi;refine jc (ag rfl) _ _ _ rfl g3 0 (.agg (bP H9)) (bP H9).toList (hY.trans e3) (qM.trans e9) rfl cur3 _ ky (by rw[qg];exact az _) mach_size (fun u hu=>by have:=dz H9;rw[←iF,dh] at this;exact this u hu) ?_;intro w2 kK kx;rw[eB cur3 _ (by rw[qg];rfl)] at kK;refine⟨hb.grown kx hb.size (fun k hk=>by cases hk;exact qn),⟨g3,H9,e3,qn,kK,kn.keep ky (by decide) kx,ko⟩,?_⟩;intro k hk gz
   match k,hk,gz with
   | 0,_,_=>exact fun h=>h
   | 1,_,_=>exact fun h=>h
   | 2,_,_=>exact fun h=>h
   | 3,_,_=>exact fun h=>h
   | 4,_,_=>exact fun h=>h
   | 5,_,_=>exact fun h=>h
   | 6,_,_=>exact fun h=>h
   | 7,_,_=>exact fun h=>h
   | 8,_,_=>exact fun h=>h
   | 9,_,_=>exact fun h=>h
   | 10,_,_=>exact fun⟨H8,q1,q2,q3⟩=>⟨H8,q1,q2.keep ky (by decide) kx,q3⟩
   | 11,_,_=>exact fun⟨H8,q1,q2,q3⟩=>⟨H8,q1,q2.keep ky (by decide) kx,q3⟩
   | 12,_,_=>exact fun⟨H8,q1,q2,q3⟩=>⟨H8,q1,q2.keep ky (by decide) kx,q3⟩
   | 13,_,_=>exact fun h=>h
   | 14,_,_=>exact fun h=>h
   | 15,_,_=>exact fun q=>iB q kK (fun _=>rfl) ⟨_,ky⟩ kx
   | 16,_,h=>exact absurd rfl h
   | 17,_,_=>exact fun h=>h
   | 18,_,_=>exact fun h=>h
   | n+19,h,_=>exact absurd h (by omega)
  intro y W3 hp hN;replace hp:Below W2.heap.size W2 W3:=hp;have ht:((BG W2.heap.size X F E)).r (y 10) W3:=hN 10 (by decide);have hs:((BG W2.heap.size X F E)).r (y 11) W3:=hN 11 (by decide);have hr:((Be W2.heap.size X)).r (y 12) W3:=hN 12 (by decide);have hK:((fe W2.heap.size 44 11)).r (y 15) W3:=hN 15 (by decide);have hg:=hN 16 (by decide);clear hN;simp only[dD,bu,bH,bL];obtain⟨gm,H2,em,ql,mx3,qi,qj⟩:=hg;have hh:=ae qj;have k3:=k2.below hp;have c3:=c2.ext hp;have ax3:=ax2.ext hp;have kX:=fq gu hp;have kT : qf W3 w.heap.size H2:=qi.mono kK.out;have qU:Hid (w.heap.size<gm):=ae (nO ax2.lt ql);have k0:=ae hp;rw[em];clear k2 c2 ax2 gu qi qj hp ql em hr ht hs
  by_cases hE:E=0
  ·obtain⟨e1,e2⟩:=gd.out.1.2 hE;have gw:mg H.ma P ((A:Int) / 8) wr=0:=by rw[←gd.out.1.1];exact hE
   obtain⟨pg,qX,hU,qL⟩:=Un gO.out gP.out gh.out (w:=wr) (n:=(A:Int) / 8) (by rw[pI];exact hpl) kW.out gw;rw[←e1,←e2] at hU;rw[←e2] at qL;obtain⟨g,qH⟩:∃g:Nat,F=g:=⟨F.toNat,by omega⟩;have e1':=ae e1;have e2':=ae e2;have qd:=ae gw;clear e1 e2 gw;subst qH;have hQ:g<H2.m.fs.length:=by
    obtain⟨_,_,kZ⟩:=hU.rt.en P ((A:Int) / 8) (by rw[hU.k1];decide);have:=kZ.lt hU.k1;rw[hU.en] at this;have e:X.m.fs.length=H2.m.fs.length:=by rw[←hh.out];rfl
    omega
   have qY:(g:Int)<(H2.m.fs.length:Int):=by omega
   obtain⟨gf,of,cur,gL,qm,qp,kZ,hrd,qe⟩:=kT.frPut hQ;have ha:=ae gL;have qV:=ae qm;have hL:dV W3 (some ⟨gf,of+g*13,none⟩) (oO (aD H2.ma g)):=hrd;clear qm;obtain⟨Fx,kz⟩:∃Fx,Hid (Fx=aD H2.ma g):=⟨_,ae rfl⟩;rw[←kz.out] at hrd;have hl:=mx3.cell;unfold bP at hl;rw[gL] at hl;clear qe qp kZ gL;rw[hE];go_upto_region 7 with (fail)
   go_wp2_with (first | (refine aA _ _ rfl gf (of+g*13) rfl rfl _ hrd _ underlying132 rfl frame_size ?_) | (refine aW rfl _ _ _ rfl (yG Fx) rfl rfl rfl frame_size (uW Fx) ?_))
   intro w4 hS fx4;have k4:=k3.below hS;have c4:=c3.ext hS;have ax4:=ax3.ext hS;have kd:=fq kX hS;have mx4:=mx3.ext hS;have kS:=kT.below hS;have qG:Hid (gm<W3.heap.size):=ae mx3.lt;have hM:Hid (Below w.heap.size w w4):=ae (fu (fu k8.out (k0.out.mono k8.out.size)) (hS.mono (aY k8.out.size k0.out.size)));have hL:=hL.below hS;clear k3 c3 ax3 kX mx3 kT hS hl hrd;generalize W3.heap.size=gp at fx4 qG;have qh:Hid (yg X Fx ((A:Int)%8+n)=(decide (0≤Fx.f)&&decide ((aI X.st Fx.f).n<Fx.i*8+((A:Int)%8+n)))):=ae rfl;have gM:Hid (aD X g=Fx):=ae (by rw[kz.out,hh.out]);have gb:Hid (kN H.ma c n wr=if yg X Fx ((A:Int)%8+n)=true then (H.ma,kv 9) else if wr=true then (setFr X g { Fx with p:=eY Fx.p ((A:Int)%8) c.da },⟨0,n,[]⟩) else (X,⟨0,n,vF Fx.p ((A:Int)%8) n⟩)):=ae (by rw[hX.out,if_neg (show ¬mg H.ma P ((A:Int) / 8) wr≠0 from fun e=>e qd.out),←e1'.out,←e2'.out,bG,gM.out]);clear hX
   by_cases hf0:Fx.f<0
   ·have d0:decide (0≤Fx.f)=false:=decide_eq_false (by omega);have kw:Hid (yg X Fx ((A:Int)%8+n)=false):=ae (by rw[qh.out,d0];rfl);go_upto_region 8 with (fail);refine aP 21 [_,_,_,_,_,_,_,_,_,_,_,_,_,_,_,_,_,_,_,_,.v (.bool false)] (Gf gp (8+3) rfl rfl (Gl fx4 (V:=.int .i64 Fx.f) (by simp[yG]) rfl rfl rfl rfl (Gb (.bool false) (by simp[go_sem,d0]) rfl rfl rfl rfl rfl (Gk rfl (Gk rfl (Gk rfl (Gk rfl (Gk rfl (Gk rfl (Gk rfl (Gk rfl (Gk rfl (Gk rfl (Gk rfl (Gk rfl (Gk rfl (Gk rfl (Gk rfl (Gk rfl (Gk rfl (Gk rfl (aG)))))))))))))))))))))) (fun _=>rfl) rfl ?_;intro y W5 j _;have k5:=k4.below j;have c5:=c4.ext j;have ax5:=ax4.ext j;have kc:=fq kd j;have mx5:=mx4.ext j;have kQ:=kS.below j;have kL:=hL.below j;have ga:Hid (kN H.ma c n wr=if wr=true then (setFr X g { Fx with p:=eY Fx.p ((A:Int)%8) c.da },⟨0,n,[]⟩) else (X,⟨0,n,vF Fx.p ((A:Int)%8) n⟩)):=ae (by rw[gb.out,kw.out];rfl);have hH:Hid (Below w.heap.size w W5):=ae (fu hM.out (j.mono hM.out.size));clear gb kw k4 c4 ax4 kd mx4 kS fx4 j hM hL
    go_wp2_with (first | (refine aA _ _ rfl gm 0 rfl rfl (bP H2).toList mx5.rd _ underlying44 rfl mach_size ?_) | (refine ax rfl _ _ _ rfl b (bP H2) rfl rfl _ _ k5.blk rfl mach_size (dz _) ?_))
    intro w6 kx6 hf;have hz:=kQ.keep k5.blk (by decide) hf;have ax6:=aH ax5 k5.blk (by decide) hf;have c6:=aH c5 k5.blk (by decide) hf;have mx6:=aH mx5 k5.blk (by decide) hf;have hi:=uk kc hf;have kg:=ae k5.ge;have k6:Hid (Below B w w6):=ae ((hH.out.mono ki.out).grown hf (aY ki.out hH.out.size) (fun k hk=>by cases hk;exact k5.ge));clear hf k5 kQ ax5 c5 mx5 kc kL hH;have hl:=mx6.cell;unfold bP at hl;rw[ha.out] at hl;have hG:=c6.cell;unfold nQ at hG;have hy:=gt.out w6 k6.out;obtain⟨gf2,of2,cur2,kh,kY,ks,kq,hx,kl⟩:=hz.frPut hQ;have hJ:=kh;rw[ha.out] at hJ;simp only[iq,tK,and_true] at hJ;obtain⟨rfl,rfl⟩:=hJ;rw[←kz.out] at hx;have hO:dV w6 (some ⟨gf,of+g*13,none⟩) (gZ Fx.p).toList:=nu hx 0 8;clear kh kY ks kq kl hx;cases wr with
    | false=>
     have kt:Hid (kN H.ma c n false=(X,⟨0,n,vF Fx.p ((A:Int)%8) n⟩)):=ae (by rw[ga.out];rfl)
     go_wp2_with (refine aA _ _ rfl gf (of+g*13) rfl rfl _ hO _ underlying100 rfl psize ?_)
     refine (Nb Fx.p ((A:Int)%8) n _).mono ?_;rintro r w7 ⟨v,rfl,km,z⟩;obtain⟨ad,cd,rfl,_⟩:=km.rd;have ax7:=ax6.ext z;have hB:=fq hi z;have k7:pG w7 B b H2:=⟨kx6.ext z,kg.out,(hz.below z).mono ki.out⟩;have kO:=km.mono k6.out.size;clear kx6 hz ax6 c6 mx6 hi z hl hG hy hO km
     go_wp2_with (refine ax rfl _ _ _ rfl w.heap.size (gD 0 n (.slice ad (vF Fx.p ((A:Int)%8) n).length cd)) rfl rfl _ _ ax7 rfl ans_size (bY _ _ _ _ _) ?_)
     intro we axe l;have s:=fV hB l (az _);have ke:pG we B b H2:=k7.keepT ax7 (by decide) (by decide) l;have gy:=ay kO ax7 (by decide) l;go_wp2;refine bodyPost_ret (v:=.agg (gD 0 n (.slice ad (vF Fx.p ((A:Int)%8) n).length cd))) (bB results67 _ _ w.heap.size _ _ _ rfl axe underlying52 rfl ans_size) rfl ?_;rw[kt.out];exact⟨_,rfl,gy,s,H2,ke,hh.out⟩
    | true=>
     obtain⟨Pn,gg⟩:∃Pn,Hid (Pn=eY Fx.p ((A:Int)%8) c.da):=⟨_,ae rfl⟩;have kt:Hid (kN H.ma c n true=(setFr X g { Fx with p:=Pn },⟨0,n,[]⟩)):=ae (by rw[ga.out,gg.out];rfl);clear hl hG;go_upto_region 12 with (fail);refine wP 19 20 [] [gX (.pointer (some ⟨gm,0,none⟩)),gX (.pointer (some ⟨gm,0,none⟩)),gX (.slice (some ⟨gf,of,none⟩) H2.m.fs.length H2.cf),gX (.int .i64 (g:Int)),gX (.pointer (some ⟨gm,0,none⟩)),gX (.pointer (some ⟨gm,0,none⟩)),gX (.slice (some ⟨gf,of,none⟩) H2.m.fs.length H2.cf),gX (.int .i64 (g:Int)),gX (.pointer (some ⟨gf,of+g*13,none⟩)),gX (.pointer (some ⟨gf,of+g*13,none⟩)),gX (.agg (gZ Fx.p)),gX (.int .i64 ((A:Int)%8)),gX (.pointer (some ⟨gc,0,none⟩)),gX (.pointer (some ⟨gc,0,none⟩)),gX (.pointer (some ⟨gc,9,none⟩)),gX (.slice a c.da.length cap),gX (.agg (gZ Pn)),gX (.pointer (some ⟨gf,of+g*13,none⟩)),gX (.pointer (some ⟨gf,of+g*13,none⟩))] (by kernel_rfl) (by kernel_rfl) (by kernel_rfl) (by kernel_rfl) (by kernel_rfl) (by kernel_rfl) (by decide) (by decide) _ rfl (by kernel_rfl) (aj ?_ (aj ?_ (aj ?_ (aj ?_ (aj ?_ (aj ?_ (aj ?_ (aj ?_ (aj ?_ (aj ?_ (aj ?_ (aj ?_ (aj ?_ (aj ?_ (aj ?_ (aj ?_ (aj ?_ (aj ?_ (aj ?_ (aG)))))))))))))))))))) (aG) rfl ?_
     ·refine aC rfl ?_;intro ρ y W hw hn hb hd;have hY:ρ (.tmp 11) = .pointer (some ⟨gm,0,none⟩):=(hn (.tmp 11) rfl).trans rfl;refine ak (.pointer (some ⟨gm,0,none⟩)) (ag rfl) (by simp[execOp,go_sem,hY]) rfl
     ·refine aC rfl ?_;intro ρ y W hw hn hb hd;have qa:=hw 85 0 rfl;have h0:y 0 = .pointer (some ⟨gm,0,none⟩):=hd 0 rfl;refine ak (.pointer (some ⟨gm,0,none⟩)) (ag rfl) (by simp[execOp,go_sem,qa,h0]) rfl
     ·refine aC rfl ?_;intro ρ y W hw hn hb hd;have g9:=hw 86 1 rfl;have h1:y 1 = .pointer (some ⟨gm,0,none⟩):=hd 1 rfl;refine ak (.slice (some ⟨gf,of,none⟩) H2.m.fs.length H2.cf) (ag rfl) (by simp[execOp,go_sem,g9,h1,(mx6.ext hb).cell,bP,ha.out]) rfl
     ·refine aC rfl ?_;intro ρ y W hw hn hb hd;have ku:ρ (.tmp 12) = .int .i64 (g:Int):=(hn (.tmp 12) rfl).trans rfl;refine ak (.int .i64 (g:Int)) (ag rfl) (run_move (.inl rfl) ku) rfl
     ·refine aC rfl ?_;intro ρ y W hw hn hb hd;have hY:ρ (.tmp 11) = .pointer (some ⟨gm,0,none⟩):=(hn (.tmp 11) rfl).trans rfl;refine ak (.pointer (some ⟨gm,0,none⟩)) (ag rfl) (by simp[execOp,go_sem,hY]) rfl
     ·refine aC rfl ?_;intro ρ y W hw hn hb hd;have g6:=hw 89 4 rfl;have h4:y 4 = .pointer (some ⟨gm,0,none⟩):=hd 4 rfl;refine ak (.pointer (some ⟨gm,0,none⟩)) (ag rfl) (by simp[execOp,go_sem,g6,h4]) rfl
     ·refine aC rfl ?_;intro ρ y W hw hn hb hd;have g5:=hw 90 5 rfl;have h5:y 5 = .pointer (some ⟨gm,0,none⟩):=hd 5 rfl;refine ak (.slice (some ⟨gf,of,none⟩) H2.m.fs.length H2.cf) (ag rfl) (by simp[execOp,go_sem,g5,h5,(mx6.ext hb).cell,bP,ha.out]) rfl
     ·refine aC rfl ?_;intro ρ y W hw hn hb hd;have ku:ρ (.tmp 12) = .int .i64 (g:Int):=(hn (.tmp 12) rfl).trans rfl;refine ak (.int .i64 (g:Int)) (ag rfl) (run_move (.inl rfl) ku) rfl
     ·refine aC rfl ?_;intro ρ y W hw hn hb hd;have g4:=hw 91 6 rfl;have h6:y 6 = .slice (some ⟨gf,of,none⟩) H2.m.fs.length H2.cf:=hd 6 rfl;have g2:=hw 92 7 rfl;have h7:y 7 = .int .i64 (g:Int):=hd 7 rfl;refine ak (.pointer (some ⟨gf,of+g*13,none⟩)) (ag rfl) (eO rfl (g4.trans h6) (g2.trans h7) hQ underlying29 frame_size) rfl
     ·refine aC rfl ?_;intro ρ y W hw hn hb hd;have g1:=hw 93 8 rfl;have h8:y 8 = .pointer (some ⟨gf,of+g*13,none⟩):=hd 8 rfl;refine ak (.pointer (some ⟨gf,of+g*13,none⟩)) (ag rfl) (by simp[execOp,go_sem,g1,h8]) rfl
     ·refine aC rfl ?_;intro ρ y W hw hn hb hd;have g0:=hw 94 9 rfl;have h9:y 9 = .pointer (some ⟨gf,of+g*13,none⟩):=hd 9 rfl;refine ak (.agg (gZ Fx.p)) (ag rfl) (bM rfl (g0.trans h9) (hO.below hb) underlying100 rfl psize) rfl
     ·refine aC rfl ?_;intro ρ y W hw hn hb hd;have qb:ρ (.tmp 10) = .int .i64 ((A:Int)%8):=(hn (.tmp 10) rfl).trans rfl;refine ak (.int .i64 ((A:Int)%8)) (ag rfl) (run_move (.inl rfl) qb) rfl
     ·refine aC rfl ?_;intro ρ y W hw hn hb hd;have E1:ρ (.tmp 1) = .pointer (some ⟨gc,0,none⟩):=(hn (.tmp 1) rfl).trans rfl;refine ak (.pointer (some ⟨gc,0,none⟩)) (ag rfl) (run_move (.inl rfl) E1) rfl
     ·refine aC rfl ?_;intro ρ y W hw hn hb hd;have gV:=hw 97 12 rfl;have gj:y 12 = .pointer (some ⟨gc,0,none⟩):=hd 12 rfl;refine ak (.pointer (some ⟨gc,0,none⟩)) (ag rfl) (by simp[execOp,go_sem,gV,gj]) rfl
     ·refine aC rfl ?_;intro ρ y W hw hn hb hd;have gU:=hw 98 13 rfl;have gS:y 13 = .pointer (some ⟨gc,0,none⟩):=hd 13 rfl;refine ak (.pointer (some ⟨gc,9,none⟩)) (ag rfl) (by simp[execOp,go_sem,gU,gS]) rfl
     ·refine aC rfl ?_;intro ρ y W hw hn hb hd;have gT:=hw 99 14 rfl;have gR:y 14 = .pointer (some ⟨gc,9,none⟩):=hd 14 rfl;refine ak (.slice a c.da.length cap) (ag rfl) (by simp[execOp,go_sem,gT,gR,(c6.ext hb).cell,nQ]) rfl
     ·refine aC rfl ?_;intro ρ y W hw hn hb hd;have gY:=hw 95 10 rfl;have gk:y 10 = .agg (gZ Fx.p):=hd 10 rfl;have gW:=hw 96 11 rfl;have hW:y 11 = .int .i64 ((A:Int)%8):=hd 11 rfl;have gq:=hw 100 15 rfl;have gi:y 15 = .slice a c.da.length cap:=hd 15 rfl;have EF:∀f,ρ (.func f) = .func (.func f) #[] #[]:=fun f=>hn (.func f) trivial;refine aL _ _ (ag rfl) (aS rfl (EF _) func117 (by kernel_rfl) (by kernel_rfl) (by simp only[bT,bH,bL,gY,gk,gW,hW,gq,gi,EF];rfl)) ?_;refine (Nn Fx.p ((A:Int)%8) a c.da cap W (hy.below hb)).mono ?_;rintro r w1 ⟨rfl,hT⟩;exact⟨_,rfl,hT,by rw[gg.out];rfl⟩
     ·refine aC rfl ?_;intro ρ y W hw hn hb hd;have g8:=hw 87 2 rfl;have h2:y 2 = .slice (some ⟨gf,of,none⟩) H2.m.fs.length H2.cf:=hd 2 rfl;have g7:=hw 88 3 rfl;have h3:y 3 = .int .i64 (g:Int):=hd 3 rfl;refine ak (.pointer (some ⟨gf,of+g*13,none⟩)) (ag rfl) (eO rfl (g8.trans h2) (g7.trans h3) hQ underlying29 frame_size) rfl
     ·refine aC rfl ?_;intro ρ y W hw hn hb hd;have gn:=hw 102 17 rfl;have gQ:y 17 = .pointer (some ⟨gf,of+g*13,none⟩):=hd 17 rfl;refine ak (.pointer (some ⟨gf,of+g*13,none⟩)) (ag rfl) (by simp[execOp,go_sem,gn,gQ]) rfl
     intro ρ y WA o ho hw hn hV x d;cases ho;have kJ:y 0 = .pointer (some ⟨gm,0,none⟩):=d 0 (by decide);have kI:y 1 = .pointer (some ⟨gm,0,none⟩):=d 1 (by decide);have kH:y 2 = .slice (some ⟨gf,of,none⟩) H2.m.fs.length H2.cf:=d 2 (by decide);have kG:y 3 = .int .i64 (g:Int):=d 3 (by decide);have kF:y 4 = .pointer (some ⟨gm,0,none⟩):=d 4 (by decide);have kE:y 5 = .pointer (some ⟨gm,0,none⟩):=d 5 (by decide);have kD:y 6 = .slice (some ⟨gf,of,none⟩) H2.m.fs.length H2.cf:=d 6 (by decide);have kC:y 7 = .int .i64 (g:Int):=d 7 (by decide);have kB:y 8 = .pointer (some ⟨gf,of+g*13,none⟩):=d 8 (by decide);have kA:y 9 = .pointer (some ⟨gf,of+g*13,none⟩):=d 9 (by decide);have ht:y 10 = .agg (gZ Fx.p):=d 10 (by decide);have hs:y 11 = .int .i64 ((A:Int)%8):=d 11 (by decide);have hr:y 12 = .pointer (some ⟨gc,0,none⟩):=d 12 (by decide);have kb:y 13 = .pointer (some ⟨gc,0,none⟩):=d 13 (by decide);have ka:y 14 = .pointer (some ⟨gc,9,none⟩):=d 14 (by decide);have hK:y 15 = .slice a c.da.length cap:=d 15 (by decide);have hg:y 16 = .agg (gZ Pn):=d 16 (by decide);have hZ:y 17 = .pointer (some ⟨gf,of+g*13,none⟩):=d 17 (by decide);have hq:y 18 = .pointer (some ⟨gf,of+g*13,none⟩):=d 18 (by decide);have kj:=hw 103 18 rfl;rw[hq] at kj;have kk:=hw 101 16 rfl;rw[hg] at kk;have EC:∀v,ρ (.const v)=v:=fun v=>hn (.const v) trivial;have EF:∀f,ρ (.func f) = .func (.func f) #[] #[]:=fun f=>hn (.func f) trivial;obtain⟨gf4,of4,cur4,hI,kf,t,kp,_,hv⟩:=(hz.below x).frPut hQ;rw[ha.out] at hI;simp only[iq,tK,and_true] at hI;obtain⟨rfl,rfl⟩:=hI;refine LP (ag rfl) _ _ _ rfl gf (of+g*13) _ (gZ Pn).toList kj kk rfl _ _ t (by show of+g*13+8≤_;omega) psize (fP (qB _)) ?_;intro w7 z hF;clear d hw hn hV;simp only[lay,Nat.reduceAdd,Nat.reduceLT,Nat.reduceEqDiff,reduceIte,decide_true,decide_false,if_true,pV,if_false,si,tH,sZ,sD,sj,sK,kJ,kI,kH,kG,kF,kE,kD,kC,kB,kA,ht,hs,hr,kb,ka,hK,hg,hZ,hq];clear kJ kI kH kG kF kE kD kC kB kA ht hs hr kb ka hK hg hZ hq;have kP:=hv 0 8 (gZ Pn).toList { Fx with p:=Pn } w7 rfl (by decide) (by rw[←kz.out];rfl) z hF;have ax7:=aH (ax6.ext x) t (by decide) hF;have hB:=fV (fq hi x) hF kf;have kx7:=aH (kx6.ext x) t (by decide) hF;have kU:bP { H2 with m:=⟨H2.m.fs.set g { Fx with p:=Pn },H2.m.hand⟩ }=bP H2:=by unfold bP;simp only[cO]
     rw[←kU] at kx7;have kV:Hid (MH.ma { H2 with m:=⟨H2.m.fs.set g { Fx with p:=Pn },H2.m.hand⟩ }=setFr X g { Fx with p:=Pn }):=ae (by rw[←hh.out];rfl);clear kU hv t kp z hF x hO kx6 hz ax6 c6 mx6 hi hy kf;generalize ({ H2 with m:=⟨H2.m.fs.set g { Fx with p:=Pn },H2.m.hand⟩ }:MH)=H7 at *
     have k7:pG w7 B b H7:=⟨kx7,kg.out,kP.mono ki.out⟩;clear kx7 kP
     go_wp2_with (refine ax rfl _ _ _ rfl w.heap.size (gD 0 n nilV) rfl rfl _ _ ax7 rfl ans_size (bY _ _ _ _ _) ?_)
     intro we axe l;have s:=fV hB l (az _);have ke:pG we B b H7:=k7.keepT ax7 (by decide) (by decide) l;go_wp2;refine bodyPost_ret (v:=.agg (gD 0 n nilV)) (bB results67 _ _ w.heap.size _ _ _ rfl axe underlying52 rfl ans_size) rfl ?_;rw[kt.out];exact⟨nilV,rfl,Own.nil _ _ _ _,s,H7,ke,kV.out⟩
   have d0:decide (0≤Fx.f)=true:=decide_eq_true (by omega);have gA:Hid (Fx.f.toNat<H2.fi.length∧0≤Fx.f∧0≤Fx.i∧Fx.i<12):=ae (by
    have e9:X.m.fs.length=H2.m.fs.length:=by rw[←hh.out];rfl
    obtain⟨cc,qo,qJ⟩:=hU.rt.fc g (by omega) (by rw[gM.out];omega);have gF:=hU.rt.ca.fr cc qo;rw[qJ,bG,gM.out] at gF;have gr:=hU.rt.ca.file cc qo;rw[←gF.2.1,←gF.2.2] at gr;have qS:=AA hU.rt.pt.st gr;have e:X.st.fs.length=H2.fi.length:=by rw[←hh.out];exact gK _
    have h1:=gr.1;have h2:=gr.2;omega)
   obtain⟨f,gE⟩:∃f:Nat,Fx.f=f:=⟨Fx.f.toNat,by omega⟩;obtain⟨i,gB⟩:∃i:Nat,Fx.i=i:=⟨Fx.i.toNat,by have:=gA.out;omega⟩;have gC:f<H2.fi.length:=by have:=gA.out;omega
   have qT:i<12:=by have:=gA.out;omega
   obtain⟨bf,obf,qr,kM⟩:=nU nP (by decide) kS.rd.st.rd f gC;obtain⟨pf,gx⟩:∃pf,H2.fi[f]?=some pf:=⟨_,aN gC⟩;rw[show H2.fi[f]=pf from (dC.1 gx).2] at kM;have qI:Hid ((aI X.st (f:Int)).n=pf.n):=ae (by rw[←hh.out];unfold aI;rw[if_pos (by omega)];show ((H2.fi.map PF.fi).getD f ⟨0,[]⟩).n=pf.n;rw[bJ,jd,gx];rfl);have qq:=ae qr;have qD:Hid (∀W,Below w4.heap.size w4 W→W.cell? ⟨bf,obf+f*2,none⟩=some (.int .i64 pf.n)):=ae (fun W hb=>by have:=uN (kM.below hb) (k:=0) (u:=.int .i64 pf.n) rfl;simpa using this);clear qr kM gx;have qc:IntKind.i64.wrap ((i:Int)*8)=(i:Int)*8:=dS _ (by omega);have qA:IntKind.i64.wrap ((i:Int)*8+(A:Int)%8)=(i:Int)*8+(A:Int)%8:=dS _ (by omega);have qx:IntKind.i64.wrap ((i:Int)*8+(A:Int)%8+n)=(i:Int)*8+(A:Int)%8+n:=dS _ (by omega);obtain⟨BB,qu⟩:∃BB,Hid (decide (pf.n<(i:Int)*8+(A:Int)%8+n)=BB):=⟨_,ae rfl⟩;have gv:=ae gE;have qk:=ae gB;have d0' : decide ((0:Int)≤(f:Int))=true:=decide_eq_true (by omega);have kw:Hid (yg X Fx ((A:Int)%8+n)=BB):=ae (by rw[qh.out,d0,gE,qI.out,gB,←qu.out,kR];congr 1;rw[Int.add_assoc]);clear gE gB d0;go_upto_region 8 with (fail);refine aP 21 [_,_,_,_,_,_,_,_,_,_,_,_,_,_,_,_,_,_,_,_,.v (.bool BB)] (Gf gp (8+3) rfl rfl (Gl fx4 (V:=.int .i64 (f:Int)) (by simp[yG,gv.out]) rfl rfl rfl rfl (Gb (.bool true) (by simp[go_sem,d0']) rfl rfl rfl rfl rfl (Gk rfl (Gf gp (8+4) rfl rfl (Gl fx4 (V:=.int .i64 (i:Int)) (by simp[yG,qk.out]) rfl rfl rfl rfl (Gb (.int .i64 ((i:Int)*8)) (by simp[go_sem,qc]) rfl rfl rfl rfl rfl (Gk rfl (Gb (.int .i64 ((i:Int)*8+(A:Int)%8)) (by simp[go_sem,qA]) rfl rfl rfl rfl rfl (Gk rfl (Gb (.int .i64 ((i:Int)*8+(A:Int)%8+n)) (by simp[go_sem,qx]) rfl rfl rfl rfl rfl (Gf gm 7 rfl rfl (Gf gm 7 rfl rfl (Gl mx4 (V:=.slice (some ⟨bf,obf,none⟩) H2.fi.length H2.ci) (by simp[bP,qq.out]) rfl rfl rfl rfl (Gf gp (8+3) rfl rfl (Gl fx4 (V:=.int .i64 (f:Int)) (by simp[yG,gv.out]) rfl rfl rfl rfl (Gr (.pointer (some ⟨bf,obf+f*2,none⟩)) (fun ρ y W hb gs=>(eO rfl (aV rfl gs) (aV rfl gs) gC underlying38 file_size)) rfl rfl (Gf bf (obf+f*2) rfl rfl (Gc (.int .i64 pf.n) (fun W hb=>by simp[qD.out W hb]) rfl rfl rfl rfl (Gb (.bool BB) (by simp[go_sem,qu.out]) rfl rfl rfl rfl rfl (Gk rfl (aG)))))))))))))))))))))) (fun _=>rfl) rfl ?_;intro y W5 j _;cases BB with
   | true=>
    have gN:Hid (kN H.ma c n wr=(H.ma,kv 9)):=ae (by rw[gb.out,if_pos kw.out]);have k1:=k4.below j;have ax1:=ax4.ext j;have hD:=fq kd j
    go_wp2_with (refine ax rfl _ _ _ rfl w.heap.size (gD 9 0 nilV) rfl rfl _ _ ax1 rfl ans_size (bY _ _ _ _ _) ?_)
    intro we axe l;have s:=fV hD l (by omega);have ke:pG we B b H:=⟨aH k1.blk ax1 (by decide) l,k1.ge,k1.ma.keep ax1 (by decide) l⟩;go_wp2;refine bodyPost_ret (v:=.agg (gD 9 0 nilV)) (bB results67 _ _ w.heap.size _ _ _ rfl axe underlying52 rfl ans_size) rfl ?_;rw[gN.out];exact⟨nilV,rfl,Own.nil _ _ _ _,s,H,ke,rfl⟩
   | false=>
    have k5:=k4.below j;have c5:=c4.ext j;have ax5:=ax4.ext j;have kc:=fq kd j;have mx5:=mx4.ext j;have kQ:=kS.below j;have kL:=hL.below j;have ga:Hid (kN H.ma c n wr=if wr=true then (setFr X g { Fx with p:=eY Fx.p ((A:Int)%8) c.da },⟨0,n,[]⟩) else (X,⟨0,n,vF Fx.p ((A:Int)%8) n⟩)):=ae (by rw[gb.out,kw.out];rfl);have hH:Hid (Below w.heap.size w W5):=ae (fu hM.out (j.mono hM.out.size));clear gb kw k4 c4 ax4 kd mx4 kS fx4 j hM hL
    go_wp2_with (first | (refine aA _ _ rfl gm 0 rfl rfl (bP H2).toList mx5.rd _ underlying44 rfl mach_size ?_) | (refine ax rfl _ _ _ rfl b (bP H2) rfl rfl _ _ k5.blk rfl mach_size (dz _) ?_))
    intro w6 kx6 hf;have hz:=kQ.keep k5.blk (by decide) hf;have ax6:=aH ax5 k5.blk (by decide) hf;have c6:=aH c5 k5.blk (by decide) hf;have mx6:=aH mx5 k5.blk (by decide) hf;have hi:=uk kc hf;have kg:=ae k5.ge;have k6:Hid (Below B w w6):=ae ((hH.out.mono ki.out).grown hf (aY ki.out hH.out.size) (fun k hk=>by cases hk;exact k5.ge));clear hf k5 kQ ax5 c5 mx5 kc kL hH;have hl:=mx6.cell;unfold bP at hl;rw[ha.out] at hl;have hG:=c6.cell;unfold nQ at hG;have hy:=gt.out w6 k6.out;obtain⟨gf2,of2,cur2,kh,kY,ks,kq,hx,kl⟩:=hz.frPut hQ;have hJ:=kh;rw[ha.out] at hJ;simp only[iq,tK,and_true] at hJ;obtain⟨rfl,rfl⟩:=hJ;rw[←kz.out] at hx;have hO:dV w6 (some ⟨gf,of+g*13,none⟩) (gZ Fx.p).toList:=nu hx 0 8;clear kh kY ks kq kl hx;cases wr with
    | false=>
     have kt:Hid (kN H.ma c n false=(X,⟨0,n,vF Fx.p ((A:Int)%8) n⟩)):=ae (by rw[ga.out];rfl)
     go_wp2_with (refine aA _ _ rfl gf (of+g*13) rfl rfl _ hO _ underlying100 rfl psize ?_)
     refine (Nb Fx.p ((A:Int)%8) n _).mono ?_;rintro r w7 ⟨v,rfl,km,z⟩;obtain⟨ad,cd,rfl,_⟩:=km.rd;have ax7:=ax6.ext z;have hB:=fq hi z;have k7:pG w7 B b H2:=⟨kx6.ext z,kg.out,(hz.below z).mono ki.out⟩;have kO:=km.mono k6.out.size;clear kx6 hz ax6 c6 mx6 hi z hl hG hy hO km
     go_wp2_with (refine ax rfl _ _ _ rfl w.heap.size (gD 0 n (.slice ad (vF Fx.p ((A:Int)%8) n).length cd)) rfl rfl _ _ ax7 rfl ans_size (bY _ _ _ _ _) ?_)
     intro we axe l;have s:=fV hB l (az _);have ke:pG we B b H2:=k7.keepT ax7 (by decide) (by decide) l;have gy:=ay kO ax7 (by decide) l;go_wp2;refine bodyPost_ret (v:=.agg (gD 0 n (.slice ad (vF Fx.p ((A:Int)%8) n).length cd))) (bB results67 _ _ w.heap.size _ _ _ rfl axe underlying52 rfl ans_size) rfl ?_;rw[kt.out];exact⟨_,rfl,gy,s,H2,ke,hh.out⟩
    | true=>
     obtain⟨Pn,gg⟩:∃Pn,Hid (Pn=eY Fx.p ((A:Int)%8) c.da):=⟨_,ae rfl⟩;have kt:Hid (kN H.ma c n true=(setFr X g { Fx with p:=Pn },⟨0,n,[]⟩)):=ae (by rw[ga.out,gg.out];rfl);clear hl hG;go_upto_region 12 with (fail);refine wP 19 20 [] [gX (.pointer (some ⟨gm,0,none⟩)),gX (.pointer (some ⟨gm,0,none⟩)),gX (.slice (some ⟨gf,of,none⟩) H2.m.fs.length H2.cf),gX (.int .i64 (g:Int)),gX (.pointer (some ⟨gm,0,none⟩)),gX (.pointer (some ⟨gm,0,none⟩)),gX (.slice (some ⟨gf,of,none⟩) H2.m.fs.length H2.cf),gX (.int .i64 (g:Int)),gX (.pointer (some ⟨gf,of+g*13,none⟩)),gX (.pointer (some ⟨gf,of+g*13,none⟩)),gX (.agg (gZ Fx.p)),gX (.int .i64 ((A:Int)%8)),gX (.pointer (some ⟨gc,0,none⟩)),gX (.pointer (some ⟨gc,0,none⟩)),gX (.pointer (some ⟨gc,9,none⟩)),gX (.slice a c.da.length cap),gX (.agg (gZ Pn)),gX (.pointer (some ⟨gf,of+g*13,none⟩)),gX (.pointer (some ⟨gf,of+g*13,none⟩))] (by kernel_rfl) (by kernel_rfl) (by kernel_rfl) (by kernel_rfl) (by kernel_rfl) (by kernel_rfl) (by decide) (by decide) _ rfl (by kernel_rfl) (aj ?_ (aj ?_ (aj ?_ (aj ?_ (aj ?_ (aj ?_ (aj ?_ (aj ?_ (aj ?_ (aj ?_ (aj ?_ (aj ?_ (aj ?_ (aj ?_ (aj ?_ (aj ?_ (aj ?_ (aj ?_ (aj ?_ (aG)))))))))))))))))))) (aG) rfl ?_
     ·refine aC rfl ?_;intro ρ y W hw hn hb hd;have hY:ρ (.tmp 11) = .pointer (some ⟨gm,0,none⟩):=(hn (.tmp 11) rfl).trans rfl;refine ak (.pointer (some ⟨gm,0,none⟩)) (ag rfl) (by simp[execOp,go_sem,hY]) rfl
     ·refine aC rfl ?_;intro ρ y W hw hn hb hd;have qa:=hw 85 0 rfl;have h0:y 0 = .pointer (some ⟨gm,0,none⟩):=hd 0 rfl;refine ak (.pointer (some ⟨gm,0,none⟩)) (ag rfl) (by simp[execOp,go_sem,qa,h0]) rfl
     ·refine aC rfl ?_;intro ρ y W hw hn hb hd;have g9:=hw 86 1 rfl;have h1:y 1 = .pointer (some ⟨gm,0,none⟩):=hd 1 rfl;refine ak (.slice (some ⟨gf,of,none⟩) H2.m.fs.length H2.cf) (ag rfl) (by simp[execOp,go_sem,g9,h1,(mx6.ext hb).cell,bP,ha.out]) rfl
     ·refine aC rfl ?_;intro ρ y W hw hn hb hd;have ku:ρ (.tmp 12) = .int .i64 (g:Int):=(hn (.tmp 12) rfl).trans rfl;refine ak (.int .i64 (g:Int)) (ag rfl) (run_move (.inl rfl) ku) rfl
     ·refine aC rfl ?_;intro ρ y W hw hn hb hd;have hY:ρ (.tmp 11) = .pointer (some ⟨gm,0,none⟩):=(hn (.tmp 11) rfl).trans rfl;refine ak (.pointer (some ⟨gm,0,none⟩)) (ag rfl) (by simp[execOp,go_sem,hY]) rfl
     ·refine aC rfl ?_;intro ρ y W hw hn hb hd;have g6:=hw 89 4 rfl;have h4:y 4 = .pointer (some ⟨gm,0,none⟩):=hd 4 rfl;refine ak (.pointer (some ⟨gm,0,none⟩)) (ag rfl) (by simp[execOp,go_sem,g6,h4]) rfl
     ·refine aC rfl ?_;intro ρ y W hw hn hb hd;have g5:=hw 90 5 rfl;have h5:y 5 = .pointer (some ⟨gm,0,none⟩):=hd 5 rfl;refine ak (.slice (some ⟨gf,of,none⟩) H2.m.fs.length H2.cf) (ag rfl) (by simp[execOp,go_sem,g5,h5,(mx6.ext hb).cell,bP,ha.out]) rfl
     ·refine aC rfl ?_;intro ρ y W hw hn hb hd;have ku:ρ (.tmp 12) = .int .i64 (g:Int):=(hn (.tmp 12) rfl).trans rfl;refine ak (.int .i64 (g:Int)) (ag rfl) (run_move (.inl rfl) ku) rfl
     ·refine aC rfl ?_;intro ρ y W hw hn hb hd;have g4:=hw 91 6 rfl;have h6:y 6 = .slice (some ⟨gf,of,none⟩) H2.m.fs.length H2.cf:=hd 6 rfl;have g2:=hw 92 7 rfl;have h7:y 7 = .int .i64 (g:Int):=hd 7 rfl;refine ak (.pointer (some ⟨gf,of+g*13,none⟩)) (ag rfl) (eO rfl (g4.trans h6) (g2.trans h7) hQ underlying29 frame_size) rfl
     ·refine aC rfl ?_;intro ρ y W hw hn hb hd;have g1:=hw 93 8 rfl;have h8:y 8 = .pointer (some ⟨gf,of+g*13,none⟩):=hd 8 rfl;refine ak (.pointer (some ⟨gf,of+g*13,none⟩)) (ag rfl) (by simp[execOp,go_sem,g1,h8]) rfl
     ·refine aC rfl ?_;intro ρ y W hw hn hb hd;have g0:=hw 94 9 rfl;have h9:y 9 = .pointer (some ⟨gf,of+g*13,none⟩):=hd 9 rfl;refine ak (.agg (gZ Fx.p)) (ag rfl) (bM rfl (g0.trans h9) (hO.below hb) underlying100 rfl psize) rfl
     ·refine aC rfl ?_;intro ρ y W hw hn hb hd;have qb:ρ (.tmp 10) = .int .i64 ((A:Int)%8):=(hn (.tmp 10) rfl).trans rfl;refine ak (.int .i64 ((A:Int)%8)) (ag rfl) (run_move (.inl rfl) qb) rfl
     ·refine aC rfl ?_;intro ρ y W hw hn hb hd;have E1:ρ (.tmp 1) = .pointer (some ⟨gc,0,none⟩):=(hn (.tmp 1) rfl).trans rfl;refine ak (.pointer (some ⟨gc,0,none⟩)) (ag rfl) (run_move (.inl rfl) E1) rfl
     ·refine aC rfl ?_;intro ρ y W hw hn hb hd;have gV:=hw 97 12 rfl;have gj:y 12 = .pointer (some ⟨gc,0,none⟩):=hd 12 rfl;refine ak (.pointer (some ⟨gc,0,none⟩)) (ag rfl) (by simp[execOp,go_sem,gV,gj]) rfl
     ·refine aC rfl ?_;intro ρ y W hw hn hb hd;have gU:=hw 98 13 rfl;have gS:y 13 = .pointer (some ⟨gc,0,none⟩):=hd 13 rfl;refine ak (.pointer (some ⟨gc,9,none⟩)) (ag rfl) (by simp[execOp,go_sem,gU,gS]) rfl
     ·refine aC rfl ?_;intro ρ y W hw hn hb hd;have gT:=hw 99 14 rfl;have gR:y 14 = .pointer (some ⟨gc,9,none⟩):=hd 14 rfl;refine ak (.slice a c.da.length cap) (ag rfl) (by simp[execOp,go_sem,gT,gR,(c6.ext hb).cell,nQ]) rfl
     ·refine aC rfl ?_;intro ρ y W hw hn hb hd;have gY:=hw 95 10 rfl;have gk:y 10 = .agg (gZ Fx.p):=hd 10 rfl;have gW:=hw 96 11 rfl;have hW:y 11 = .int .i64 ((A:Int)%8):=hd 11 rfl;have gq:=hw 100 15 rfl;have gi:y 15 = .slice a c.da.length cap:=hd 15 rfl;have EF:∀f,ρ (.func f) = .func (.func f) #[] #[]:=fun f=>hn (.func f) trivial;refine aL _ _ (ag rfl) (aS rfl (EF _) func117 (by kernel_rfl) (by kernel_rfl) (by simp only[bT,bH,bL,gY,gk,gW,hW,gq,gi,EF];rfl)) ?_;refine (Nn Fx.p ((A:Int)%8) a c.da cap W (hy.below hb)).mono ?_;rintro r w1 ⟨rfl,hT⟩;exact⟨_,rfl,hT,by rw[gg.out];rfl⟩
     ·refine aC rfl ?_;intro ρ y W hw hn hb hd;have g8:=hw 87 2 rfl;have h2:y 2 = .slice (some ⟨gf,of,none⟩) H2.m.fs.length H2.cf:=hd 2 rfl;have g7:=hw 88 3 rfl;have h3:y 3 = .int .i64 (g:Int):=hd 3 rfl;refine ak (.pointer (some ⟨gf,of+g*13,none⟩)) (ag rfl) (eO rfl (g8.trans h2) (g7.trans h3) hQ underlying29 frame_size) rfl
     ·refine aC rfl ?_;intro ρ y W hw hn hb hd;have gn:=hw 102 17 rfl;have gQ:y 17 = .pointer (some ⟨gf,of+g*13,none⟩):=hd 17 rfl;refine ak (.pointer (some ⟨gf,of+g*13,none⟩)) (ag rfl) (by simp[execOp,go_sem,gn,gQ]) rfl
     intro ρ y WA o ho hw hn hV x d;cases ho;have kJ:y 0 = .pointer (some ⟨gm,0,none⟩):=d 0 (by decide);have kI:y 1 = .pointer (some ⟨gm,0,none⟩):=d 1 (by decide);have kH:y 2 = .slice (some ⟨gf,of,none⟩) H2.m.fs.length H2.cf:=d 2 (by decide);have kG:y 3 = .int .i64 (g:Int):=d 3 (by decide);have kF:y 4 = .pointer (some ⟨gm,0,none⟩):=d 4 (by decide);have kE:y 5 = .pointer (some ⟨gm,0,none⟩):=d 5 (by decide);have kD:y 6 = .slice (some ⟨gf,of,none⟩) H2.m.fs.length H2.cf:=d 6 (by decide);have kC:y 7 = .int .i64 (g:Int):=d 7 (by decide);have kB:y 8 = .pointer (some ⟨gf,of+g*13,none⟩):=d 8 (by decide);have kA:y 9 = .pointer (some ⟨gf,of+g*13,none⟩):=d 9 (by decide);have ht:y 10 = .agg (gZ Fx.p):=d 10 (by decide);have hs:y 11 = .int .i64 ((A:Int)%8):=d 11 (by decide);have hr:y 12 = .pointer (some ⟨gc,0,none⟩):=d 12 (by decide);have kb:y 13 = .pointer (some ⟨gc,0,none⟩):=d 13 (by decide);have ka:y 14 = .pointer (some ⟨gc,9,none⟩):=d 14 (by decide);have hK:y 15 = .slice a c.da.length cap:=d 15 (by decide);have hg:y 16 = .agg (gZ Pn):=d 16 (by decide);have hZ:y 17 = .pointer (some ⟨gf,of+g*13,none⟩):=d 17 (by decide);have hq:y 18 = .pointer (some ⟨gf,of+g*13,none⟩):=d 18 (by decide);have kj:=hw 103 18 rfl;rw[hq] at kj;have kk:=hw 101 16 rfl;rw[hg] at kk;have EC:∀v,ρ (.const v)=v:=fun v=>hn (.const v) trivial;have EF:∀f,ρ (.func f) = .func (.func f) #[] #[]:=fun f=>hn (.func f) trivial;obtain⟨gf4,of4,cur4,hI,kf,t,kp,_,hv⟩:=(hz.below x).frPut hQ;rw[ha.out] at hI;simp only[iq,tK,and_true] at hI;obtain⟨rfl,rfl⟩:=hI;refine LP (ag rfl) _ _ _ rfl gf (of+g*13) _ (gZ Pn).toList kj kk rfl _ _ t (by show of+g*13+8≤_;omega) psize (fP (qB _)) ?_;intro w7 z hF;clear d hw hn hV;simp only[lay,Nat.reduceAdd,Nat.reduceLT,Nat.reduceEqDiff,reduceIte,decide_true,decide_false,if_true,pV,if_false,si,tH,sZ,sD,sj,sK,kJ,kI,kH,kG,kF,kE,kD,kC,kB,kA,ht,hs,hr,kb,ka,hK,hg,hZ,hq];clear kJ kI kH kG kF kE kD kC kB kA ht hs hr kb ka hK hg hZ hq;have kP:=hv 0 8 (gZ Pn).toList { Fx with p:=Pn } w7 rfl (by decide) (by rw[←kz.out];rfl) z hF;have ax7:=aH (ax6.ext x) t (by decide) hF;have hB:=fV (fq hi x) hF kf;have kx7:=aH (kx6.ext x) t (by decide) hF;have kU:bP { H2 with m:=⟨H2.m.fs.set g { Fx with p:=Pn },H2.m.hand⟩ }=bP H2:=by unfold bP;simp only[cO]
     rw[←kU] at kx7;have kV:Hid (MH.ma { H2 with m:=⟨H2.m.fs.set g { Fx with p:=Pn },H2.m.hand⟩ }=setFr X g { Fx with p:=Pn }):=ae (by rw[←hh.out];rfl);clear kU hv t kp z hF x hO kx6 hz ax6 c6 mx6 hi hy kf;generalize ({ H2 with m:=⟨H2.m.fs.set g { Fx with p:=Pn },H2.m.hand⟩ }:MH)=H7 at *
     have k7:pG w7 B b H7:=⟨kx7,kg.out,kP.mono ki.out⟩;clear kx7 kP
     go_wp2_with (refine ax rfl _ _ _ rfl w.heap.size (gD 0 n nilV) rfl rfl _ _ ax7 rfl ans_size (bY _ _ _ _ _) ?_)
     intro we axe l;have s:=fV hB l (az _);have ke:pG we B b H7:=k7.keepT ax7 (by decide) (by decide) l;go_wp2;refine bodyPost_ret (v:=.agg (gD 0 n nilV)) (bB results67 _ _ w.heap.size _ _ _ rfl axe underlying52 rfl ans_size) rfl ?_;rw[kt.out];exact⟨nilV,rfl,Own.nil _ _ _ _,s,H7,ke,kV.out⟩
  have gz:mg H.ma P ((A:Int) / 8) wr≠0:=by rw[←gd.out.1.1];exact hE
  have gN:Hid (kN H.ma c n wr=(H.ma,kv E)):=ae (by rw[hX.out,if_pos gz,←gd.out.1.1]);have k1:=k3;have ax1:=ax3;have hD:=kX;clear hX
  go_wp2_with (refine ax rfl _ _ _ rfl w.heap.size (gD E 0 nilV) rfl rfl _ _ ax1 rfl ans_size (bY _ _ _ _ _) ?_)
  intro we axe l;have s:=fV hD l (by omega);have ke:pG we B b H:=⟨aH k1.blk ax1 (by decide) l,k1.ge,k1.ma.keep ax1 (by decide) l⟩;go_wp2;refine bodyPost_ret (v:=.agg (gD E 0 nilV)) (bB results67 _ _ w.heap.size _ _ _ rfl axe underlying52 rfl ans_size) rfl ?_;rw[gN.out];exact⟨nilV,rfl,Own.nil _ _ _ _,s,H,ke,rfl⟩
structure Fw where
 lv:Bool
 ar:List Ar
 own:Int→Option Page
structure Wd where
 n:Nat
 ps:Nat→Fw
 fl:List (List UInt8)
def zFw:Fw:=⟨false,[],fun _=>none⟩
def vK (m:Ma) (f:Int) (j:Nat):UInt8:=(aR m f (j / 8:Nat))[j%8]'(uH _ (by decide))
def pz (g:Option Pg) (a b:Option Page):Prop:=match g with
 | none=>a=none
 | some g=>if g.fi<0 then a.getD zPg=b.getD zPg else a=b
def BU (w:Wd) (f:Nat):List UInt8:=w.fl.getD f []
structure xR (m:Ma) (w:Wd):Prop where
 n:w.n=m.sp.length
 lv:∀p,(w.ps p).lv=(bE m p).lv
 ar:∀p,(w.ps p).ar=(bE m p).ar
 own:∀p n,pz (dQ m p n) ((w.ps p).own n) (ik m p n)
 nf:w.fl.length=m.st.fs.length
 sz:∀f:Nat,f<m.st.fs.length→((BU w f).length:Int)=(aI m.st f).n
 bt:∀f j:Nat,f<m.st.fs.length→(j:Int)<(aI m.st f).n→(BU w f).getD j 0=vK m f j
theorem Hl (h:aQ s=0) (hf:f<s.fs.length) (hj:(j:Int)<(aI s f).n):ni s f (j / 8:Nat):=by
 have h3:=(mE h (f:=(f:Int)) (by omega)).2.2.1;refine⟨by omega,by omega,?_⟩;rw[h3];unfold gG;rw[if_neg (by omega)];omega
theorem UA (h:aQ s=0) (hi:ni s f i):(8*i:Int)<(aI s f).n:=by
 have h3:=(mE h (f:=(f:Int)) hi.1).2.2.1;have h4:=hi.2.2;rw[h3] at h4;unfold gG at h4;split at h4<;>omega
theorem zH (h:(aF m p n).k=0):ik m p n=none:=by
 unfold ik;rw[if_neg (by omega),if_neg (by omega)]
theorem Jh (h:Rt m) (hg:dQ m p n=none):ik m p n=none:=by
 refine zH ?_
 by_cases hk:(aF m p n).k=0
 ·exact hk
 obtain⟨g,a,_⟩:=h.en p n hk;rw[hg] at a; cases a
def Yo (m:Ma):Prop:=∀p n g,dQ m p n=some g→g.fi<m.st.fs.length
structure qA (m:Ma):Prop where
 rt:Rt m
 co:Co m
 fi:Yo m
def Xw (b:List UInt8) (k:Nat):Page:=Vector.ofFn fun i:Fin 8=>b.getD (k+i.val) 0
def QF (w:Wd) (p:Nat) (n:Int):Page × Int × Int:=match onA (w.ps p).ar n with
 | none=>(zPg,0,5)
 | some g=>match (w.ps p).own n with
  | some P=>(P,8,0)
  | none=>if g.fi<0 then (zPg,8,0) else
          let b:=BU w g.fi.toNat
   if (b.length:Int)≤8*g.pg then (zPg,0,9) else (Xw b (8*g.pg).toNat,min 8 (b.length-8*g.pg),0)
def putB (b:List UInt8) (k:Nat) (d:List UInt8):List UInt8:=(List.range b.length).map fun j=>if k≤j∧j<k+d.length then d.getD (j-k) 0 else b.getD j 0
def sizedB (b:List UInt8) (n:Nat):List UInt8:=(List.range n).map fun j=>b.getD j 0
def Pk (w:Wd) (f:Nat) (b:List UInt8):Wd:={ w with fl:=w.fl.set f b }
def Lj (w:Wd) (p:Nat) (x:Fw):Wd:={ w with ps:=fun q=>if q=p then x else w.ps q }
def XO (o:Int→Option Page) (n:Int) (x:Option Page):Int→Option Page:=fun j=>if j=n then x else o j
def Iy (g:Pg) (wr:Bool):Bool:=if wr=true then g.wr else g.rd
def Gu (w:Wd) (p:Nat) (c:Cl) (n:Int) (wr:Bool):Wd × An:=
 if qy c.a n=false then (w,kv 2) else
 match onA (w.ps p).ar (c.a / 8) with
 | none=>(w,kv 5)
 | some g=>
  if Iy g wr=false then (w,kv 8) else
  let r:=QF w p (c.a / 8)
  if r.2.2≠0 then (w,kv r.2.2) else
  if ¬(g.fi<0∨wr=true∧g.sh=false)∧r.2.1<c.a%8+n then (w,kv 9) else
  if wr=false then (w,⟨0,n,vF r.1 (c.a%8) n⟩) else
  if g.sh=true then (Pk w g.fi.toNat (putB (BU w g.fi.toNat) (8*g.pg+c.a%8).toNat c.da),⟨0,n,[]⟩)
  else (Lj w p { w.ps p with own:=XO (w.ps p).own (c.a / 8) (some (eY r.1 (c.a%8) c.da)) },⟨0,n,[]⟩)
def QN (w:Wd) (p:Nat) (c:Cl):Wd × An:=
 let ar:=(w.ps p).ar;let a:=Qs ar c
 if a<0∨64≤a∨c.n<1∨64-a<c.n∨c.f < -1 then (w,kv 3)
 else if (w.fl.length:Int)≤c.f then (w,kv 5)
 else
  let x:Ar:=⟨a,a+c.n,c.rd,c.wr,c.sh,c.f,c.b⟩
  if mQ ar x≠0 then (w,kv (mQ ar x)) else (Lj w p { w.ps p with ar:=iP ar x },⟨0,a,[]⟩)
def XN (w:Wd) (p:Nat) (c:Cl):Wd × An:=
 let ar:=(w.ps p).ar
 if Sq ar c.a c.n≠0 then (w,kv (Sq ar c.a c.n))
 else (Lj w p { w.ps p with ar:=WT ar c.a c.n,own:=fun n=>if c.a≤n∧n<c.a+c.n then none else (w.ps p).own n },kv 0)
def XW (w:Wd) (p:Nat) (c:Cl):Wd × An:=
 let ar:=(w.ps p).ar
 if Tn ar c.a c.n c.rd c.wr≠0 then (w,kv (Tn ar c.a c.n c.rd c.wr))
 else (Lj w p { w.ps p with ar:=Xo ar c.a c.n c.rd c.wr },kv 0)
def NB (w:Wd):Nat:=((List.range w.n).find? fun q => !(w.ps q).lv).getD w.n
def PX (w:Wd) (p:Nat):Wd × An:=
 let q:=NB w
 if q=4 then (w,kv 4) else ({ Lj w q { w.ps p with lv:=true } with n:=max w.n (q+1) },⟨0,q,[]⟩)
def Wh (w:Wd) (p:Nat):Wd × An:=(Lj w p zFw,kv 0)
def Ml (w:Wd) (c:Cl):Wd × An:=
 if c.p<0∨(w.n:Int)≤c.p∨(w.ps c.p.toNat).lv=false then (w,kv 5) else
 let p:=c.p.toNat
 if c.k=1 then QN w p c else if c.k=2 then XN w p c else if c.k=3 then XW w p c
 else if c.k=4 then Gu w p c c.n false else if c.k=5 then Gu w p c c.da.length true
 else if c.k=6 then PX w p else Wh w p
def Yd (w:Wd) (c:Cl):Wd × An:=
 if c.a<0∨c.n<0 then (w,kv 3) else
 let o:=((BU w c.f.toNat).drop c.a.toNat).take c.n.toNat
 (w,⟨0,o.length,o⟩)
def XM (w:Wd) (c:Cl):Wd × An:=
 if c.a<0∨96<c.a∨96-c.a<c.da.length then (w,kv 3)
 else if c.da.length=0 then (w,kv 0)
 else
  let b:=BU w c.f.toNat
  (Pk w c.f.toNat (putB (sizedB b (max (c.a.toNat+c.da.length) b.length)) c.a.toNat c.da),⟨0,c.da.length,[]⟩)
def XC (w:Wd) (c:Cl):Wd × An:=if c.n<0∨96<c.n then (w,kv 3) else (Pk w c.f.toNat (sizedB (BU w c.f.toNat) c.n.toNat),kv 0)
def Vo (w:Wd) (c:Cl):Wd × An:=
 if c.f<0∨(w.fl.length:Int)≤c.f then (w,kv 5) else
 if c.k=9 then Yd w c else if c.k=10 then XM w c else if c.k=11 then XC w c else (w,kv 0)
def XH (w:Wd):Wd × An:=if 5≤w.fl.length then (w,kv 4) else ({ w with fl:=w.fl++[[]] },⟨0,w.fl.length,[]⟩)
def Nl (w:Wd) (c:Cl):Wd × An:=
 if c.k<1∨15<c.k then (w,kv 1) else if c.k≤7 then Ml w c else if c.k=8 then XH w else if c.k≤12 then Vo w c else (w,kv 0)
theorem Uc (b:List UInt8) (k i:Nat) (h:i<8):(Xw b k)[i]=b.getD (k+i) 0:=by simp[Xw]
theorem xR.page {w:Wd} (h:xR m w) (hR:Rt m) (hC:Co m) (hi:ni m.st f i):Xw (BU w f) (8*i)=aR m f i:=by
 have hf:f<m.st.fs.length:=by have:=hi.1;omega
 ext k hk
 rw[Uc _ _ _ hk]
 by_cases hj:((8*i+k:Nat):Int)<(aI m.st f).n
 ·rw[h.bt f (8*i+k) hf hj];unfold vK;have e1:(8*i+k) / 8=i:=by omega
  have e2:(8*i+k)%8=k:=by omega
  simp only[e1,e2]
 have hz:=h.sz f hf;rw[bJ,eU (by omega)];have ht:=RX hR hC f i;have:(dm (aR m f i) ((aI m.st f).n-i*8))[k]=0:=by simp only[dm,nH];rw[if_pos (by omega)]
 rw[ht] at this;rw[this];rfl
theorem Sl (b:List UInt8) (k:Nat) (d:List UInt8):(putB b k d).length=b.length:=by simp[putB]
theorem SX (b:List UInt8) (k:Nat) (d:List UInt8) (h:j<b.length):(putB b k d).getD j 0=if k≤j∧j<k+d.length then d.getD (j-k) 0 else b.getD j 0:=by
 unfold putB;rw[bJ,jd,wX h];rfl
theorem QG (w:Wd) (f g:Nat) (b:List UInt8) (h:f<w.fl.length):BU (Pk w f b) g=if g=f then b else BU w g:=by
 unfold BU Pk;simp only[bJ,oh]
 by_cases e:g=f
 ·rw[if_pos e.symm,if_pos e,if_pos h];rfl
 ·rw[if_neg (lI e),if_neg e]
theorem uh {l:List Ar} (hp:p<m.sp.length) (q:Nat):bE (setAr m p l) q=if q=p then { bE m p with ar:=l } else bE m q:=by
 unfold setAr;show (m.sp.set p _).getD q zSp=_;rw[bJ,oh]
 by_cases e:q=p
 ·subst e;rw[if_pos rfl,if_pos hp,if_pos rfl];rfl
 ·rw[if_neg (lI e),if_neg e];unfold bE;rw[bJ]
theorem Fq {l:List Ar} (hp:p<m.sp.length) (q:Nat) (n:Int):aF (setAr m p l) q n=aF m q n:=by
 unfold aF;rw[uh hp]
 by_cases e:q=p
 ·rw[if_pos e,e]
 ·rw[if_neg e]
theorem AU {l:List Ar} (hp:p<m.sp.length) (q:Nat) (n:Int):dQ (setAr m p l) q n=if q=p then onA l n else dQ m q n:=by
 unfold dQ;rw[uh hp]
 by_cases e:q=p
 ·rw[if_pos e,if_pos e]
 ·rw[if_neg e,if_neg e]
theorem OW {l:List Ar} (hp:p<m.sp.length) (q:Nat) (n:Int):ik (setAr m p l) q n=ik m q n:=by
 unfold ik;rw[Fq hp];rfl
theorem Uy (hl:m'.sp.length=m.sp.length) (ht:∀p,(bE m' p).tb=(bE m p).tb) (kd i:Int):bN m' kd i=bN m kd i:=by
 have e:m'.sp.map Sp.tb=m.sp.map Sp.tb:=by
  apply rA
  ·simpa using hl
  intro j h1 h2;simp only[gK] at h1 h2;simp only[qi];have a1:=uR (m:=m') (p:=j) h1;have a2:=uR (m:=m) (p:=j) h2;rw[aN h1] at a1;rw[aN h2] at a2;rw[aT a1,aT a2];exact ht j
 have k:∀l:List Sp,(l.map fun s:Sp=>(fC s.tb).countP (qM kd i))=(l.map Sp.tb).map fun t=>(fC t).countP (qM kd i):=fun l=>by rw[List.map_map];rfl
 unfold bN;rw[k,k,e]
theorem QZ (h:Rt m) (hc:Co m) (hp:p<m.sp.length) (hv:(bE m p).lv=true) {l:List Ar} (hl:(dI l).1=0)
 (hen:∀n,(aF m p n).k≠0→∃g,onA l n=some g∧UU m g (aF m p n)):Rt (setAr m p l)∧Co (setAr m p l):=by
 have c:=fun q=>uh (l:=l) hp q;have a:=fun q n=>Fq (l:=l) hp q n;have d:Pt (setAr m p l):={ h.pt with
  spl:=by show (m.sp.set p _).length≤4;rw[cO];exact h.pt.spl
  ar:=fun s hs=>by
   rcases lF hs with hs|rfl
   ·exact h.pt.ar s hs
   ·exact hl
  tb:=fun s hs=>by
   rcases lF hs with hs|rfl
   ·exact h.pt.tb s hs
   ·exact h.pt.tbN p }
 have b:∀kd i,bN (setAr m p l) kd i=bN m kd i:=Uy (by show (m.sp.set p _).length=_;rw[cO]) fun q=>by
  rw[c]
  by_cases e:q=p
  ·rw[if_pos e,e]
  ·rw[if_neg e]
 refine⟨⟨d,h.trim,fun q hq => ?_,⟨h.ca.file,h.ca.lt,h.ca.fr,h.ca.srt⟩,fun q j hk => ?_,fun i hi=>by rw[b];exact h.cf i hi,h.fc,fun s hs=>by rw[b];exact h.cs s hs⟩,⟨hc.tail,hc.clean,hc.anon⟩⟩
 ·rw[c] at hq ⊢
  by_cases e:q=p
  ·rw[if_pos e] at hq;have:(bE m p).lv=false:=hq;rw[hv] at this;cases this
  rw[if_neg e] at hq ⊢;exact⟨(h.live q hq).1,fun n=>by rw[a];exact (h.live q hq).2 n⟩
 rw[a] at hk ⊢;rw[AU hp]
 by_cases e:q=p
 ·rw[if_pos e];subst e;obtain⟨g,h1,h2⟩:=hen j hk;exact⟨g,h1,h2.sw,h2.lt,h2.fr⟩
 rw[if_neg e];obtain⟨g,h1,h2⟩:=h.en q j hk;exact⟨g,h1,h2.sw,h2.lt,h2.fr⟩
theorem xR.setAr {w:Wd} (h:xR m w) (hp:p<m.sp.length) {l:List Ar} {x:Fw} (hlv:x.lv=(bE m p).lv) (har:x.ar=l) (ho:∀n,pz (onA l n) (x.own n) (ik m p n)):xR (Go.Proofs.YtpaeabelhnnbiaaGreat.setAr m p l) (Lj w p x):=by
 refine⟨by show w.n=(m.sp.set p _).length;rw[cO];exact h.n,fun q => ?_,fun q => ?_,fun q n => ?_,h.nf,h.sz,h.bt⟩
 ·rw[uh hp];show (if q=p then x else w.ps q).lv=_
  by_cases e:q=p
  ·rw[if_pos e,if_pos e];exact hlv
  ·rw[if_neg e,if_neg e];exact h.lv q
 ·rw[uh hp];show (if q=p then x else w.ps q).ar=_
  by_cases e:q=p
  ·rw[if_pos e,if_pos e];exact har
  ·rw[if_neg e,if_neg e];exact h.ar q
 rw[AU hp,OW hp];show pz _ ((if q=p then x else w.ps q).own n) _
 by_cases e:q=p
 ·rw[if_pos e,if_pos e,e];exact ho n
 ·rw[if_neg e,if_neg e];exact h.own q n
theorem onA_mem:∀ {l:List Ar} {n:Int} {g:Pg},onA l n=some g→∃a∈l,uT n a=true∧g=vQ a n
 | [],_,_,h=>by cases h
 | a::l,n,g,h=>by
  rw[jD] at h
  by_cases e:uT n a=true
  ·rw[if_pos e] at h;exact⟨a,by simp,e,(aT h).symm⟩
  rw[if_neg e] at h;obtain⟨b,h1,h2⟩:=onA_mem h;exact⟨b,by simp[h1],h2⟩
theorem Aq (a:Option Page):pz (some g) a a:=by
 unfold pz
 by_cases h:g.fi<0
 ·simp only[if_pos h]
 ·simp only[if_neg h]
theorem LM {l:List Ar} {x:Ar} (h:mQ l x=0):(iP l x).length≤16∧okF none (iP l x)∧∀n,onA (iP l x) n=if uT n x then some (vQ x n) else onA l n:=by
 obtain⟨⟨h1,h2⟩,h3,h4,h5,h6⟩:=JK h;have hs:=Ee h2;have a:0≤x.fr:=by
  unfold dx at h3
  by_cases e:x.fr<0∨x.en≤x.fr∨64<x.en∨x.fi < -1∨5≤x.fi∨x.ba<0
  ·rw[if_pos e] at h3;cases h3
  ·omega
 have hi:=KA h3 hs a h4;rw[h6];rw[NS] at h5 ⊢;exact⟨h5,Uo hi,fun n=>by rw[Uw hi,Np h3 n hs h4]⟩
theorem UC {w:Wd} (hG:qA m) (h:xR m w) (hp:p<m.sp.length) (hv:(bE m p).lv=true) (c:Cl) :
  (sQ m p c).2=(QN w p c).2∧qA (sQ m p c).1∧xR (sQ m p c).1 (QN w p c).1:=by
 have r:=h.ar p;unfold sQ QN;simp only[r,h.nf];generalize ha:Qs (bE m p).ar c=a
 by_cases h1:a<0∨64≤a∨c.n<1∨64-a<c.n∨c.f < -1
 ·simp only[if_pos h1];exact⟨by first | rfl | trivial,hG,h⟩
 simp only[if_neg h1]
 by_cases h2:(m.st.fs.length:Int)≤c.f
 ·simp only[if_pos h2];exact⟨by first | rfl | trivial,hG,h⟩
 simp only[if_neg h2];generalize hx:(⟨a,a+c.n,c.rd,c.wr,c.sh,c.f,c.b⟩:Ar)=x
 by_cases h3:mQ (bE m p).ar x≠0
 ·simp only[if_pos h3];exact⟨by first | rfl | trivial,hG,h⟩
 simp only[if_neg h3];have j : mQ (bE m p).ar x=0:=rE h3;obtain⟨z1,z2,z3,z4,z5⟩:=JK j;obtain⟨r1,r2,r3⟩:=LM j;have d:∀n g,onA (bE m p).ar n=some g→uT n x=false:=fun n g hg=>by
  obtain⟨b,hb,o,_⟩:=onA_mem hg;have hm:=z3 b hb;cases hi:uT n x with
  | false=>rfl
  | true=>
   rw[qI] at hi o;unfold iT at hm;simp only[Ct,decide_eq_false_iff_not] at hm;omega
 have k:x.fi=c.f:=by rw[←hx]
 obtain⟨q1,q2⟩:=QZ hG.rt hG.co hp hv (l:=iP (bE m p).ar x) (ou.2 ⟨r1,r2⟩) fun n hk=>by obtain⟨g,hg,i⟩:=hG.rt.en p n hk;have hi:=d n g hg;refine⟨g,?_,i⟩;rw[r3,if_neg (by rw[hi];decide)];exact hg
 refine⟨by first | rfl | trivial,⟨q1,q2,fun q n g hg => ?_⟩,h.setAr hp (h.lv p) rfl fun n => ?_⟩
 ·rw[AU hp] at hg
  by_cases e:q=p
  ·rw[if_pos e,r3] at hg
   by_cases hi:uT n x=true
   ·rw[if_pos hi] at hg;cases hg;show x.fi<(m.st.fs.length:Int);rw[k];omega
   rw[if_neg hi] at hg;exact hG.fi p n g hg
  rw[if_neg e] at hg;exact hG.fi q n g hg
 rw[r3];have ho:=h.own p n
 by_cases hi:uT n x=true
 ·rw[if_pos hi];have hn:dQ m p n=none:=by
   cases hg:dQ m p n with
   | none=>rfl
   | some g=>rw[d n g hg] at hi;cases hi
  rw[hn] at ho;show pz _ ((w.ps p).own n) _;rw[Jh hG.rt hn,show (w.ps p).own n=none from ho];exact Aq _
 ·rw[if_neg hi];exact ho
theorem LX :copied m p n=false↔ik m p n=none:=by
 unfold copied ik
 by_cases k1:(aF m p n).k=1
 ·have k2:¬(aF m p n).k=2:=by omega
  rw[if_pos k1]
  by_cases h:(gL m (aF m p n).n).f<0
  ·rw[if_pos h];simp[k1,h]
  ·rw[if_neg h];simp[k1,h,k2]
 rw[if_neg k1]
 by_cases k2:(aF m p n).k=2
 ·rw[if_pos k2];simp[k2]
 ·rw[if_neg k2];simp[k1,k2]
theorem Io (hG:qA m) {w:Bool} (hp:p<m.sp.length) (hv:(bE m p).lv=true) :
  (dQ m p n=none∧mg m p n w=5)∨∃g,dQ m p n=some g∧(Iy g w=false∧mg m p n w=8∨Iy g w=true ∧
   ((0≤g.fi∧ik m p n=none∧¬ni m.st g.fi g.pg)∧mg m p n w=9∨¬(0≤g.fi∧ik m p n=none∧¬ni m.st g.fi g.pg) ∧
    (mg m p n w=10∧(kS m p n w).2<0∨mg m p n w=0∧0≤ui m p n w∧Wp m (pR m p n w) p n w g (ui m p n w)))):=by
 have hR:=hG.rt;have hC:=hG.co;have hu:mg m p n w=if ng m p n w≠0 then ng m p n w
  else if 0≤(jo m p n).fi∧copied m p n=false∧nZ m.st (jo m p n).fi ((jo m p n).ba+n-(jo m p n).fr)=true then 9
  else if (kS m p n w).2<0 then 10 else (kS m p n w).1.e:=by
  unfold mg;rw[if_neg (by rw[Aa.2 hR];simp),if_neg (by rw[bG,hv];simp;omega),bG]
 rw[hu];cases hg:dQ m p n with
 | none=>
  left
  have hf:eQ (bE m p).ar n<0:=by have h1:¬0≤eQ (bE m p).ar n:=fun h2=>(yQ (bE m p).ar n).1 h2 hg;omega
  have:ng m p n w=5:=by unfold ng;rw[if_pos hf]
  rw[this,if_pos (by decide)];exact⟨rfl,rfl⟩
 | some g=>
  right
  refine⟨g,rfl,?_⟩;obtain⟨a1,a2,a3,a4,a5,a6,a7⟩:=vD hg
  by_cases hm:Iy g w=true
  ·right
   refine⟨hm,?_⟩;have b:(w=true→g.wr=true)∧(w=false→g.rd=true):=by
    unfold Iy at hm;cases w
    ·exact⟨fun e=>(by cases e),fun _=>by simpa using hm⟩
    ·exact⟨fun _=>by simpa using hm,fun e=>(by cases e)⟩
   rw[(Cb hg).2 b,if_neg (by decide)];have c:(0≤(jo m p n).fi∧copied m p n=false∧nZ m.st (jo m p n).fi ((jo m p n).ba+n-(jo m p n).fr)=true)↔(0≤g.fi∧ik m p n=none∧¬ni m.st g.fi g.pg):=by
    rw[a6,LX];constructor
    ·rintro⟨b1,b2,b3⟩;rw[a7 b1] at b3;exact⟨b1,b2,fun hi=>oF hR.pt.st hi (.inr b3)⟩
    rintro⟨b1,b2,b3⟩;refine⟨b1,b2,?_⟩;rw[a7 b1];refine rE fun a=>b3 (CK hR.pt.st b1 (hR.pt.pg hg).1 fun h3 => ?_);rcases h3 with h3|h3
    ·have:=hG.fi p n g hg;omega
    ·exact a h3
   by_cases h9:0≤g.fi∧ik m p n=none∧¬ni m.st g.fi g.pg
   ·left
    rw[if_pos (c.2 h9)];exact⟨h9,rfl⟩
   right
   rw[if_neg (fun h=>h9 (c.1 h))];refine⟨h9,?_⟩;have d:0≤g.fi→(aF m p n).k=0→ni m.st g.fi g.pg:=fun b1 b2=>rE fun hn=>h9 ⟨b1,zH b2,hn⟩;obtain⟨j,i,l⟩:=Ls hR hC (w:=w) hp hg b.1 d
   by_cases h3:(kS m p n w).2<0
   ·left
    rw[if_pos h3];exact⟨rfl,h3⟩
   right
   rw[if_neg h3,j];have U:=i (by omega);refine⟨rfl,by show 0≤(kS m (p:Int).toNat n w).2;rw[bG];omega,?_⟩;have:=U.mark (e:=(kS m p n w).1.e) hg;unfold pR ui;rw[bG,a3];exact this
  left
  have f : Iy g w=false:=by simpa using hm
  refine⟨f,?_⟩;have a:ng m p n w≠0:=fun e=>by
   have:=(Cb hg).1 e;unfold Iy at hm;cases w
   ·exact hm (by simpa using this.2 rfl)
   ·exact hm (by simpa using this.1 rfl)
  have h8:ng m p n w=8:=by
   unfold ng at a ⊢;rw[if_neg (by omega)] at a ⊢;split at a
   ·rename_i h;rw[if_pos h]
   ·exact absurd rfl a
  rw[if_pos a,h8]
theorem OP {w:Bool} (hd:(w&&(jo m p n).sh)=true) (hl:(ui m p n w).toNat<(pR m p n w).m.fs.length):(aD (pR m p n w) (ui m p n w).toNat).d=true:=by
 unfold pR ui at hl ⊢;simp only[bG] at hl ⊢;unfold Fe at hl ⊢;simp only[hd,if_true,dw] at hl ⊢;rw[fK (by rw[dw];exact hl),if_pos rfl];rfl
theorem Ou {a b:Option Page} (h:pz (some g) a b) (hf:g.fi<0):a.getD zPg=b.getD zPg:=by
 unfold pz at h;simp only[if_pos hf] at h;exact h
theorem He {a b:Option Page} (h:pz (some g) a b) (hf:¬g.fi<0):a=b:=by
 unfold pz at h;simp only[if_neg hf] at h;exact h
theorem Nw {a b:Option Page} (h1:g.fi<0→a.getD zPg=b.getD zPg) (h2:¬g.fi<0→a=b):pz (some g) a b:=by
 unfold pz
 by_cases hf:g.fi<0
 ·simp only[if_pos hf];exact h1 hf
 ·simp only[if_neg hf];exact h2 hf
theorem Uf (h:Rt m) (hc:Co m) {P:Page} (hk:(aF m p n).k=1) (hn:(aF m p n).n=f) (hw:(aF m p n).w=true) (h0:(aD m f).f<0) :
  Rt (setFr m f { aD m f with p:=P })∧Co (setFr m f { aD m f with p:=P })∧(∀q j,ik (setFr m f { aD m f with p:=P }) q j=if q=p∧j=n then some P else ik m q j)∧∀g j,aR (setFr m f { aD m f with p:=P }) g j=aR m g j:=by
 obtain⟨f',e1,hf,hr,hp,ha,g,hg,t⟩:=gy h hk;have:f' = f:=by omega
 subst this;have hd:(aD m f').d=false:=by
  cases hd:(aD m f').d with
  | false=>rfl
  | true=>have:=hc.anon f' hf hd;omega
 have v:∀c∈m.ca,c.k.toNat≠f':=fun c l e=>by have h1:=h.ca.fr c l;have h2:=(h.ca.file c l).1;rw[e] at h1;omega
 have hX:({ aD m f' with p:=P }:Fr)=jP (aD m f') P false:=by unfold jP;rw[←hd]
 rw[hX];obtain⟨q1,q2⟩:=QH (P:=P) (d:=false) h hc hf hr (fun c l e=>absurd e (v c l)) (fun e=>by cases e);have s:∀x,aD (setFr m f' (jP (aD m f') P false)) x=if x=f' then jP (aD m f') P false else aD m x:=fun x=>fK hf x;have r:∀q j,(aF m q j).k=1→(aF m q j).n=f'→q=p∧j=n:=fun q j k1 k2=>rE fun o=>by have h2:=Ec h.pt (by decide) (kd:=1) (i:=(f' : Int)) ⟨hk,hn⟩ ⟨k1,k2⟩ o;have h3:=h.cf f' hf;have h4:=t.2.2.2.2 hw h0;omega
 refine⟨q1,q2,fun q j => ?_,fun a b => ?_⟩
 ·have u:aF (setFr m f' (jP (aD m f') P false)) q j=aF m q j:=rfl;unfold ik;rw[u]
  by_cases k1:(aF m q j).k=1
  ·rw[if_pos k1,if_pos k1];obtain⟨y,hy,z,_⟩:=gy h k1;show (if (aD (setFr m f' (jP (aD m f') P false)) (aF m q j).n.toNat).f<0 then some (aD (setFr m f' (jP (aD m f') P false)) (aF m q j).n.toNat).p else none)=_;rw[s]
   by_cases e:(aF m q j).n.toNat=f'
   ·rw[if_pos e,if_pos (r q j k1 (by omega)),if_pos (show (jP (aD m f') P false).f<0 from h0)];rfl
   have o:¬(q=p∧j=n):=fun h'=>e (by rw[h'.1,h'.2];omega);rw[if_neg e,if_neg o];rfl
  have o:¬(q=p∧j=n):=fun h'=>k1 (by rw[h'.1,h'.2];exact hk);rw[if_neg k1,if_neg k1,if_neg o];rfl
 rcases kL m a b with ⟨c,hl,l,_⟩|⟨hl,hno⟩
 ·rw[jF,jF];have:nV (setFr m f' (jP (aD m f') P false)) a b=nV m a b:=rfl;rw[this,hl];simp only;show (aD (setFr m f' (jP (aD m f') P false)) c.k.toNat).p=(aD m c.k.toNat).p;rw[s,if_neg (v c l)]
 rw[jF,jF];have:nV (setFr m f' (jP (aD m f') P false)) a b=nV m a b:=rfl;rw[this,hl];rfl
theorem wM (p:Page) (a:Int) (b:List UInt8) (h:0≤a∧a<8) (i:Nat) (hi:i<8):(eY p a b)[i]=if a.toNat≤i then b.getD (i-a.toNat) p[i] else p[i]:=by
 unfold eY;simp only[if_pos h,nH]
theorem UV {P:Page} {a s:Int} {d:List UInt8} (h:0≤a∧a<8) (hP:dm P s=P) (hs:a+d.length≤s∨8≤s):dm (eY P a d) s=eY P a d:=by
 ext i hi
 simp only[dm,nH]
 by_cases h1:s≤(i:Int)
 ·rw[if_pos h1,wM _ _ _ h _ hi];have hz:P[i]=0:=by rw[←hP];simp only[dm,nH];rw[if_pos h1]
  have hl:d.length≤i-a.toNat:=by omega
  rw[bJ,eU hl,Option.getD_none,hz];split<;>rfl
 ·rw[if_neg h1]
theorem SK {w:Wd} (hG:qA m) (h:xR m w) (hg:dQ m p n=some g) (hn:¬(0≤g.fi∧ik m p n=none∧¬ni m.st g.fi g.pg)) :
  (QF w p n).1=(iO m p n).1∧(QF w p n).2.2=0∧(QF w p n).2.1=(if 0≤g.fi∧ik m p n=none then min 8 ((aI m.st g.fi).n-8*g.pg) else 8):=by
 have ho:=h.own p n;rw[hg] at ho;have i:=hG.rt.pt.pg hg;have f:onA (w.ps p).ar n=some g:=by rw[h.ar];exact hg
 rw[GQ hG.rt hg];unfold QF;simp only[f]
 by_cases hf:g.fi<0
 ·have a:=Ou ho hf;rw[if_neg (show ¬(0≤g.fi∧ik m p n=none) by omega)];cases h1:(w.ps p).own n with
  | none=>
   rw[h1] at a;cases h2:ik m p n with
   | none=>simp only[if_pos hf];exact⟨trivial,trivial,trivial⟩
   | some P=>rw[h2] at a; simp only[if_pos hf];exact⟨a,trivial,trivial⟩
  | some Q=>
   rw[h1] at a;cases h2:ik m p n with
   | none=>rw[h2] at a; simp only[if_pos hf];exact⟨a,trivial,trivial⟩
   | some P=>rw[h2] at a; exact⟨a,rfl,rfl⟩
 have a:=He ho hf;rw[a];cases h2:ik m p n with
 | some P=>rw[if_neg (show ¬(0≤g.fi∧some P=none) from fun h'=>by cases h'.2)];exact⟨rfl,rfl,rfl⟩
 | none=>
  have e:ni m.st g.fi g.pg:=rE fun c=>hn ⟨by omega,h2,c⟩;obtain⟨F,hF⟩:∃F:Nat,g.fi=F:=⟨g.fi.toNat,by omega⟩;obtain⟨I,hI⟩:∃I:Nat,g.pg=I:=⟨g.pg.toNat,by omega⟩;have c:=oF hG.rt.pt.st e;have b:=e;rw[hF,hI] at b;have hb:=UA hG.rt.pt.st b;have hz:=h.sz F (by have:=b.1;omega);have d:=h.page hG.rt hG.co b;have e1:g.fi.toNat=F:=by omega
  have e2:(8*g.pg).toNat=8*I:=by omega
  have e3:¬((BU w F).length:Int)≤8*g.pg:=by omega
  have e4:0≤g.fi∧True:=⟨by omega,trivial⟩;simp only[if_neg hf,if_neg c,e1,e2,if_neg e3,if_pos e4];rw[d,hz,hF,hI];refine⟨?_,?_,?_⟩
  all_goals first | rfl | trivial
theorem VW.sim {w:Wd} {P:Page} {a:Nat} {d:List UInt8} (hR:Rt m) (h:xR m w) (hin:ni m.st F I) (S:VW m M F I P) (ha:a<8) (hd:(8*I+a+d.length:Int)≤(aI m.st F).n) (hd8:a+d.length≤8)
 (hP:P=eY (aR m F I) a d):xR M (Pk w F (putB (BU w F) (8*I+a) d)):=by
 have hF:F<m.st.fs.length:=by have:=hin.1;omega
 have i:=h.sz F hF;have c:=S.st;have f:=fun g=>QG w F g (putB (BU w F) (8*I+a) d) (by rw[h.nf];exact hF);refine⟨by rw[S.sk.len];exact h.n,fun q=>by rw[S.sk.lv];exact h.lv q,fun q=>by rw[S.sk.ar];exact h.ar q,fun q j => ?_,?_,fun g hg => ?_,fun g j hg hj => ?_⟩
 ·rw[S.own,show dQ M q j=dQ m q j by unfold dQ;rw[S.sk.ar]];exact h.own q j
 ·rw[c,←h.nf];show (w.fl.set F _).length=_;rw[cO]
 ·rw[f,c];rw[c] at hg
  by_cases e:g=F
  ·rw[if_pos e,Sl,e];exact i
  ·rw[if_neg e];exact h.sz g hg
 rw[c] at hg hj;rw[f];unfold vK;simp only[S.con]
 by_cases e:g=F
 ·subst e;rw[if_pos rfl,SX _ _ _ (by omega)];have b:=h.bt g j hg hj
  by_cases e2:j / 8=I
  ·have hc:((j / 8:Nat):Int)=I:=by omega
   simp only[hc,true_and,if_true,hP];rw[wM _ _ _ (by omega) _ (uH _ (by decide))];have ea:((a:Nat):Int).toNat=a:=rfl;have hb:(BU w g).getD j 0=(aR m g I)[j%8]'(uH _ (by decide)):=by rw[b];unfold vK;simp only[hc]
   rw[ea]
   by_cases h1:a≤j%8
   ·rw[if_pos h1]
    by_cases h2:j%8<a+d.length
    ·rw[if_pos (by omega),show j-(8*I+a)=j%8-a by omega,bJ,bJ,aN (by omega)];rfl
    rw[if_neg (by omega),hb,bJ,eU (by omega)];rfl
   ·rw[if_neg h1,if_neg (by omega),hb]
  have hc:¬(((j / 8:Nat):Int)=I):=by omega
  rw[if_neg (by omega),b];unfold vK;simp only[true_and,if_neg hc]
 have hc:¬((g:Int)=F∧((j / 8:Nat):Int)=I):=by omega
 simp only[if_neg hc];rw[if_neg e];have b:=h.bt g j hg hj;unfold vK at b;exact b
theorem Ng {w:Wd} (hG:qA m) (h:xR m w) (hp:p<m.sp.length) (hv:(bE m p).lv=true) (c:Cl) (hcp:c.p=p) (n:Int) (wr:Bool) (hn:wr=true→n=c.da.length) :
  kN m c n wr=(m,kv 10)∨(kN m c n wr).2=(Gu w p c n wr).2∧qA (kN m c n wr).1∧xR (kN m c n wr).1 (Gu w p c n wr).1:=by
 unfold kN Gu
 by_cases hwi:qy c.a n=false
 ·rw[if_pos hwi,if_pos hwi];exact .inr ⟨rfl,hG,h⟩
 rw[if_neg hwi,if_neg hwi];have hZ : 0≤c.a∧0≤n∧n≤8∧c.a%8≤8-n:=by unfold qy at hwi;simpa[and_assoc] using hwi
 rw[hcp];generalize hN:c.a / 8=N;have hm:onA (w.ps p).ar N=dQ m p N:=by rw[h.ar];rfl
 rcases Io hG (n:=N) (w:=wr) hp hv with ⟨u1,u2⟩|⟨g,u1,hcs⟩
 ·rw[hm,u1,u2,if_pos (by decide)];exact .inr ⟨rfl,hG,h⟩
 rw[hm,u1];simp only;rcases hcs with ⟨u2,u3⟩|⟨u2,hcs⟩
 ·rw[u3,if_pos (by decide),if_pos u2];exact .inr ⟨rfl,hG,h⟩
 rw[if_neg (show ¬Iy g wr=false by rw[u2];decide)];have ho:=h.own p N;rw[u1] at ho;have ht:=hG.rt.pt.pg u1;rcases hcs with ⟨⟨b1,b2,b3⟩,u3⟩|⟨hb,hcs⟩
 ·
  have h9:(QF w p N).2.2=9:=by
   have o:=He ho (by omega);rw[b2] at o;unfold QF;have h7:=hG.fi p N g u1;obtain⟨F,hF⟩:∃F:Nat,g.fi=F:=⟨g.fi.toNat,by omega⟩;have hz:=h.sz F (by omega);have hV:=(mE hG.rt.pt.st (f:=(F:Int)) (by omega)).2.2.1;have h3:¬g.pg<(aI m.st F).b.length:=fun hl=>b3 (by rw[hF];exact⟨by omega,ht.1,hl⟩);rw[hV] at h3;have h4:((BU w g.fi.toNat).length:Int)≤8*g.pg:=by rw[hF,bG,hz];unfold gG at h3;split at h3<;>omega
   rw[hm,u1];simp only[o,if_neg (show ¬g.fi<0 by omega),if_pos h4]
  rw[u3,if_pos (by decide),h9,if_pos (by decide)];exact .inr ⟨rfl,hG,h⟩
 obtain⟨v1,v2,v3⟩:=SK hG h u1 hb;rcases hcs with ⟨u3,_⟩|⟨u3,hF0,U⟩
 ·left
  rw[u3,if_pos (by decide)]
 right
 rw[u3,if_neg (show ¬(0:Int)≠0 by decide),v2,if_neg (show ¬(0:Int)≠0 by decide)];have i:=OP (m:=m) (p:=p) (n:=N) (w:=wr);generalize hr:ui m p N wr=r at U i hF0 ⊢;generalize hm1:pR m p N wr=m1 at U i ⊢;obtain⟨f,hf⟩:∃f:Nat,r=f:=⟨r.toNat,by omega⟩;subst hf;simp only[bG] at i ⊢;have hB:=U.k1;have hM:=U.en;obtain⟨f',e1,hL,h8,_,h5,g1,hK,u⟩:=gy U.rt hB;have x:f' = f:=by omega
 subst x;have s:=U.vis.sk;have hh:∀q j,dQ m1 q j=dQ m q j:=fun q j=>by unfold dQ;rw[s.ar]
 rw[hh,u1] at hK;cases hK;have hq:iO m1 p N=((aD m1 f').p,decide ((aD m1 f').f<0),0):=by rw[rQ ((hh p N).trans u1) hB,hM];rfl
 have hP:(aD m1 f').p=(QF w p N).1:=by rw[v1];have:=U.see;rw[hq] at this;exact congrArg Prod.fst this
 have hD:qA m1:=⟨U.rt,U.co,fun q j g hg=>by rw[U.vis.files];rw[hh] at hg;exact hG.fi q j g hg⟩;have hu:ik m1 p N=if (aD m1 f').f<0 then some (aD m1 f').p else none:=by rw[qE U.rt,hq];simp only[decide_eq_true_eq]
 -- what the machine tells that had the page brought
 have hT:(0≤g.fi→((aD m1 f').f<0↔ik m p N≠none))→xR m1 w:=fun l=>by
  refine⟨by rw[s.len];exact h.n,fun q=>by rw[s.lv];exact h.lv q,fun q=>by rw[s.ar];exact h.ar q,fun q j => ?_,by rw[U.vis.files];exact h.nf,fun a ha=>by rw[U.vis.size];exact h.sz a (by rw[←U.vis.files];exact ha),fun a j ha hj => ?_⟩
  ·rw[hh]
   by_cases e:q=p∧j=N
   ·rw[e.1,e.2,u1,hu]
    by_cases x:g.fi<0
    ·have hx:(aD m1 f').f<0:=by
      rcases Int.lt_or_le (aD m1 f').f 0 with h' | h'
      ·exact h'
      ·have:=u.1 h'; omega
     rw[if_pos hx];refine Nw (fun _ => ?_) (fun h'=>absurd x h');show _=(aD m1 f').p;rw[hP];unfold QF;rw[hm,u1];cases (w.ps p).own N with
     | none=>simp only[if_pos x];rfl
     | some Q=>rfl
    refine Nw (fun h'=>absurd h' x) (fun _ => ?_);have o:=He ho x;have hi:=l (by omega);cases h2:ik m p N with
    | none=>
     rw[h2] at o hi;rw[o,if_neg (fun h'=>(hi.1 h') rfl)]
    | some Q=>
     rw[h2] at o hi;rw[o,if_pos (hi.2 (by simp)),hP];unfold QF;rw[hm,u1,o]
   have:ik m1 q j=ik m q j:=by rw[qE U.rt,qE hG.rt,U.vis.see q j e]
   rw[this];exact h.own q j
  rw[U.vis.files] at ha;rw[U.vis.size] at hj;rw[h.bt a j ha hj];unfold vK;rw[U.vis.con _ _ (Hl hG.rt.pt.st ha hj)]
 have hc:(iO m p N).2.1=true↔ik m p N≠none:=by
  rw[GQ hG.rt u1];cases h2:ik m p N with
  | some Q=>simp
  | none=>
   simp only;constructor
   ·intro h';split at h'
    ·cases h'
    ·split at h'<;>cases h'
   ·intro h'; exact absurd rfl h'
 have l:(wr=false∨g.sh=true)→0≤g.fi→((aD m1 f').f<0↔ik m p N≠none):=fun hw h0=>by have:=U.same hw h0;rw[hq] at this;rw[←hc,←this];simp only[decide_eq_true_eq]
 have hd:wr=true→g.sh=false→(aD m1 f').f<0:=fun hw hs=>by have:=U.own hw hs;rw[hq] at this;simpa using this
 -- behind the file's end
 have hk:yg m1 (aD m1 f') (c.a%8+n)=true↔(¬(g.fi<0∨wr=true∧g.sh=false)∧(QF w p N).2.1<c.a%8+n):=by
  unfold yg;simp only[dA,decide_eq_true_eq];rw[v3,U.vis.size]
  by_cases hx:(aD m1 f').f<0
  ·constructor
   ·intro h'; omega
   rintro⟨k1,k2⟩;have v:0≤g.fi:=by omega
   have hw:wr=false∨g.sh=true:=by
    cases wr
    ·exact .inl rfl
    cases hs:g.sh
    ·exact absurd (.inr ⟨rfl,hs⟩) k1
    ·exact .inr rfl
   have:=(l hw v).1 hx;rw[if_neg (fun h'=>this h'.2)] at k2;omega
  have t:=u.1 (by omega);have v:0≤g.fi:=by omega
  have hw:wr=false∨g.sh=true:=by
   cases hwr:wr
   ·exact .inl rfl
   cases hs:g.sh
   ·exact absurd (hd hwr hs) hx
   ·exact .inr rfl
  have hy:ik m p N=none:=rE fun hU=>hx ((l hw v).2 hU);rw[if_pos ⟨v,hy⟩,t.1,t.2];constructor
  ·rintro⟨_,k2⟩;refine⟨?_,by omega⟩;rintro (k|⟨k3,k4⟩)
   ·omega
   rcases hw with hw|hw
   ·rw[k3] at hw;cases hw
   ·rw[k4] at hw;cases hw
  rintro⟨_,k2⟩;exact⟨v,by omega⟩
 by_cases hpa:yg m1 (aD m1 f') (c.a%8+n)=true
 ·rw[if_pos hpa,if_pos (hk.1 hpa)];exact⟨rfl,hG,h⟩
 rw[if_neg hpa,if_neg (fun h'=>hpa (hk.2 h'))];cases hwr:wr with
 | false=>
  rw[if_neg (by decide),if_pos rfl,hP];exact⟨rfl,hD,hT (l (.inl hwr))⟩
 | true=>
  have h6:=hn hwr;rw[if_pos rfl,if_neg (by decide)];cases hs:g.sh with
  | true=>
   rw[if_pos rfl];have v:0≤g.fi:=by
    rcases Int.lt_or_le g.fi 0 with h' | h'
    ·have:=(ht.2.2.2.2.1 h').1;rw[hs] at this;cases this
    ·exact h'
   have hE:=u.2.1 hs;have t:=u.1 hE;have hS:=hT (l (.inr hs));obtain⟨d1,ka⟩:∃b,b=(aD m1 f').d:=⟨_,rfl⟩;have hW:(aD m1 f').d=true:=by refine i ?_ hL;rw[hwr,(vD u1).2.2.1,hs];rfl
   obtain⟨cc,y,hQ⟩:=U.rt.fc f' hL hE;have hC:=U.rt.ca.fr cc y;rw[hQ,bG] at hC;obtain⟨F,hF⟩:∃F:Nat,g.fi=F:=⟨g.fi.toNat,by omega⟩;obtain⟨I,hI⟩:∃I:Nat,g.pg=I:=⟨g.pg.toNat,by omega⟩;obtain⟨A,hA⟩:∃A:Nat,c.a%8=A:=⟨(c.a%8).toNat,by omega⟩;have hY:(⟨(F:Int),(I:Int),(f' : Int)⟩:Cc)=cc:=by rw[←hF,←hI,←t.1,←t.2,←hQ,hC.2.1,hC.2.2]
   rw[←hY] at y;have hJ:ni m1.st F I:=U.rt.ca.file _ y;have z:=U.co.tail _ y;simp only[bG] at z;have hO:aR m1 F I=(aD m1 f').p:=eG U.rt.ca y;have h1:¬((aI m1.st F).n<I*8+(A+n)):=fun h'=>hpa (by unfold yg;simp only[dA,decide_eq_true_eq];rw[t.1,t.2,hF,hI,hA];exact⟨by omega,h'⟩);have S:=UD (P:=eY (aD m1 f').p (A:Int) c.da) U.rt U.co y (UV (by omega) z (.inl (by omega)));have hX:({ aD m1 f' with p:=eY (aD m1 f').p (A:Int) c.da }:Fr)=jP (aD m1 f') (eY (aD m1 f').p (A:Int) c.da) true:=by unfold jP;rw[←hW]
   rw[hA,hX,hF,bG,hI,show ((8:Int)*(I:Int)+(A:Int)).toNat=8*I+A by omega];refine⟨rfl,⟨S.rt,S.co,fun q j g hg => ?_⟩,S.sim U.rt hS hJ (by omega) (by omega) (by omega) (by rw[hO])⟩;rw[S.st];exact hD.fi q j g (by unfold dQ at hg ⊢; rw[←S.sk.ar];exact hg)
  | false=>
   rw[if_neg (by decide)];have hx:=hd hwr hs;obtain⟨k1,k2,k3,k4⟩:=Uf U.rt U.co (P:=eY (aD m1 f').p (c.a%8) c.da) hB (by rw[hM]) (U.ew hwr) hx;rw[←hP];refine⟨rfl,⟨k1,k2,fun q j g hg=>hD.fi q j g hg⟩,?_⟩;refine⟨by show w.n=m1.sp.length;rw[s.len];exact h.n,fun q => ?_,fun q => ?_,fun q j => ?_,by show w.fl.length=m1.st.fs.length;rw[U.vis.files];exact h.nf,fun a ha => ?_,fun a j ha hj => ?_⟩
   ·show (if q=p then _ else w.ps q).lv=(bE m1 q).lv;rw[s.lv]
    by_cases e:q=p
    ·rw[if_pos e,e];exact h.lv p
    ·rw[if_neg e];exact h.lv q
   ·show (if q=p then _ else w.ps q).ar=(bE m1 q).ar;rw[s.ar]
    by_cases e:q=p
    ·rw[if_pos e,e];exact h.ar p
    ·rw[if_neg e];exact h.ar q
   ·rw[k3];show pz (dQ m1 q j) ((if q=p then _ else w.ps q).own j) _;rw[hh]
    by_cases e:q=p
    ·subst e;rw[if_pos rfl];show pz _ (if j=N then _ else (w.ps q).own j) _
     by_cases e2:j=N
     ·rw[if_pos e2,if_pos ⟨rfl,e2⟩,e2,u1];exact Aq _
     rw[if_neg e2,if_neg (fun h'=>e2 h'.2)];have:ik m1 q j=ik m q j:=by rw[qE U.rt,qE hG.rt,U.vis.see q j (fun h'=>e2 h'.2)]
     rw[this];exact h.own q j
    rw[if_neg e,if_neg (fun h'=>e h'.1)];have:ik m1 q j=ik m q j:=by rw[qE U.rt,qE hG.rt,U.vis.see q j (fun h'=>e h'.1)]
    rw[this];exact h.own q j
   ·show ((BU w a).length:Int)=(aI m1.st a).n;rw[U.vis.size];exact h.sz a (by rw[←U.vis.files];exact ha)
   have hR : a<m.st.fs.length:=by rw[←U.vis.files];exact ha
   have hH : (j:Int)<(aI m.st a).n:=by rw[←U.vis.size];exact hj
   show (BU w a).getD j 0=_;rw[h.bt a j hR hH];unfold vK;rw[k4,U.vis.con _ _ (Hl hG.rt.pt.st hR hH)]
theorem TS {f i:Int} (h:cB s f i=0):(dO s f i).count=s.count:=by
 unfold dO;rw[if_neg (by rw[h];simp)];split<;>rfl
theorem Inv.count (h:Inv m m'):m'.st.count=m.st.count:=
 h (fun x=>x.st.count=m.st.count) ⟨fun x f _ _ hp hf h0 hd hb=>(TS hb).trans hp,fun x y _ _ hp _ _ hs=>by rw[hs.st];exact hp⟩ rfl
structure zK (m m' : Ma):Prop where
 fr:m'.m.fs.length=m.m.fs.length
 sl:m'.sl.length=m.sl.length
 ct:m'.st.count=m.st.count
theorem zK.refl (m:Ma):zK m m:=⟨rfl,rfl,rfl⟩
theorem zK.trans {a b c:Ma} (h:zK a b) (k:zK b c):zK a c:=⟨k.fr.trans h.fr,k.sl.trans h.sl,k.ct.trans h.ct⟩
def SA (m:Ma):Ma × An:=if lN m.st=0 then ({ m with st:=oU m.st },⟨0,jR m.st,[]⟩) else (m,kv (lN m.st))
theorem Rw {w:Wd} (h:xR m w):(NB w:Int)=mD m:=by
 unfold NB mD ww;have a:∀i (hi:i<m.sp.length),(w.ps i).lv=m.sp[i].lv:=fun i hi=>by rw[h.lv];have:=uR (m:=m) (p:=i) hi;rw[aN hi] at this;rw[aT this]
 rcases xx (fun s:Sp => !s.lv) m.sp with ⟨e,hall⟩|⟨k,hk,e,hkp,hlo⟩
 ·rw[e,if_pos (by decide)];have:(List.range w.n).find? (fun q => !(w.ps q).lv)=none:=by rw[pW];intro q hq;rw[bX,h.n] at hq;have:=hall q hq;simp only[←a q hq] at this;simp[this]
  rw[this];simp[h.n]
 rw[e,if_neg (by omega)];have:(List.range w.n).find? (fun q => !(w.ps q).lv)=some k:=by rw[Im];refine⟨by rw[a k hk];exact hkp,by rw[bX,h.n];exact hk,fun j hj => ?_⟩;have:=hlo j (by omega) hj;simp only[←a j (by omega)] at this;simp[this]
 rw[this];rfl
theorem JN (hs:m'.sw=m.sw) (hf:∀g,(aD m' g).p=(aD m g).p∧(aD m' g).f=(aD m g).f) (he:alike (aF m p n) (aF m' q n)):ik m' q n=ik m p n:=by
 unfold ik;rw[he.1,he.2,hs];have h1:=hf (aF m p n).n.toNat;have h2:(gL m' (aF m p n).n).f=(gL m (aF m p n).n).f:=h1.2;have h3:(gL m' (aF m p n).n).p=(gL m (aF m p n).n).p:=h1.1;rw[h2,h3]
theorem UT {w:Wd} (hG:qA m) (h:xR m w) (hq:q=NB w) (h4:q≠4) (F:Forked m m' p q):qA m'∧xR m' (PX w p).1∧(PX w p).2=⟨0,q,[]⟩:=by
 unfold PX;rw[←hq,if_neg h4];have b:∀a n,dQ m' a n=if a=q then dQ m p n else dQ m a n:=fun a n=>by
  unfold dQ
  by_cases e:a=q
  ·rw[if_pos e,e,F.spq.2]
  ·rw[if_neg e,(F.spo a e).2]
 refine⟨⟨F.rt,F.co,fun a n g hg => ?_⟩,⟨?_,fun a => ?_,fun a => ?_,fun a n => ?_,by rw[F.st];exact h.nf,by rw[F.st];exact h.sz,fun f j hf hj => ?_⟩,rfl⟩
 ·rw[F.st];rw[b] at hg
  by_cases e:a=q
  ·rw[if_pos e] at hg;exact hG.fi p n g hg
  ·rw[if_neg e] at hg;exact hG.fi a n g hg
 ·show max w.n (q+1)=_;rw[F.spl,h.n]
 ·show (if a=q then ({ w.ps p with lv:=true }:Fw) else w.ps a).lv=_
  by_cases e:a=q
  ·rw[if_pos e,e,F.spq.1]
  ·rw[if_neg e,(F.spo a e).1];exact h.lv a
 ·show (if a=q then ({ w.ps p with lv:=true }:Fw) else w.ps a).ar=_
  by_cases e:a=q
  ·rw[if_pos e,e,F.spq.2];exact h.ar p
  ·rw[if_neg e,(F.spo a e).2];exact h.ar a
 ·show pz _ ((if a=q then ({ w.ps p with lv:=true }:Fw) else w.ps a).own n) _;rw[b]
  by_cases e:a=q
  ·rw[if_pos e,if_pos e,e,JN F.sw (fun g=>⟨(F.fr g).1,(F.fr g).2.2.2.1⟩) (F.chd n)];exact h.own p n
  rw[if_neg e,if_neg e,JN F.sw (fun g=>⟨(F.fr g).1,(F.fr g).2.2.2.1⟩) (F.oth a n e)];exact h.own a n
 rw[F.st] at hf hj;show (BU w f).getD j 0=_;rw[h.bt f j hf hj];unfold vK;rw[AV F.st F.dk F.ca (fun g=>(F.fr g).1)]
theorem Uq {w:Wd} (hG:qA m) (h:xR m w) (G:Gone m m' p):qA m'∧xR m' (Wh w p).1:=by
 have b:∀a n,dQ m' a n=if a=p then none else dQ m a n:=fun a n=>by
  unfold dQ
  by_cases e:a=p
  ·rw[if_pos e,G.sp a e];rfl
  ·rw[if_neg e,(G.spo a e).2.1]
 refine⟨⟨G.rt,G.co,fun a n g hg => ?_⟩,⟨?_,fun a => ?_,fun a => ?_,fun a n => ?_,by rw[G.st];exact h.nf,by rw[G.st];exact h.sz,fun f j hf hj => ?_⟩⟩
 ·rw[G.st];rw[b] at hg
  by_cases e:a=p
  ·rw[if_pos e] at hg;cases hg
  ·rw[if_neg e] at hg;exact hG.fi a n g hg
 ·show w.n=_;rw[G.spl];exact h.n
 ·show (if a=p then zFw else w.ps a).lv=_
  by_cases e:a=p
  ·rw[if_pos e,G.sp a e];rfl
  ·rw[if_neg e,(G.spo a e).1];exact h.lv a
 ·show (if a=p then zFw else w.ps a).ar=_
  by_cases e:a=p
  ·rw[if_pos e,G.sp a e];rfl
  ·rw[if_neg e,(G.spo a e).2.1];exact h.ar a
 ·show pz _ ((if a=p then zFw else w.ps a).own n) _;rw[b]
  by_cases e:a=p
  ·rw[if_pos e,if_pos e];exact (rfl:(none:Option Page)=none)
  rw[if_neg e,if_neg e,qE G.rt,G.see a n e,←qE hG.rt];exact h.own a n
 rw[G.st] at hf hj;show (BU w f).getD j 0=_;rw[h.bt f j hf hj];unfold vK;rw[G.con _ _ (Hl hG.rt.pt.st hf hj)]
def vO (m:Ma) (c:Cl):Prop:=c.p<0∨(m.sp.length:Int)≤c.p∨(bE m c.p.toNat).lv=false
instance (m:Ma) (c:Cl):Decidable (vO m c):=by unfold vO;infer_instance
def Kq (m:Ma) (p:Nat):Ma × An:=if mD m=4 then (m,kv 4) else ((Dl m p (mD m).toNat).m,⟨0,mD m,[]⟩)
def Rl (m:Ma) (p:Nat):Ma × An:=((vM m p).m,kv 0)
def rW (m:Ma) (c:Cl):Ma × An:=
 if vO m c then (m,kv 5) else
 if c.k=1 then sQ m c.p.toNat c else if c.k=2 then Vu m c.p.toNat c else if c.k=3 then Ud m c.p.toNat c
 else if c.k=4 then kN m c c.n false else if c.k=5 then kN m c c.da.length true
 else if c.k=6 then Kq m c.p.toNat else Rl m c.p.toNat
def uz (m:Ma) (c:Cl):Ma × An:=
 if c.k<1∨15<c.k then (m,kv 1) else if c.k≤7 then rW m c else if c.k=8 then SA m else if c.k≤12 then Xz m c else Ug m c
theorem PD (h:Rt m) (h4:mD m≠4):(mD m).toNat=m.sp.length∧m.sp.length<4∨(mD m).toNat<m.sp.length∧(bE m (mD m).toNat).lv=false:=by
 have hl:=h.pt.spl;unfold mD at h4 ⊢
 by_cases h0:ww m<0
 ·rw[if_pos h0] at h4 ⊢
  left
  omega
 rw[if_neg h0] at h4 ⊢
 right
 obtain⟨k,hk,a,b⟩:=uK (q:=fun s:Sp => !s.lv) (l:=m.sp) (by show 0≤ww m;omega);have hd:ww m=k:=hk;rw[hd,bG];refine⟨a,?_⟩;unfold bE;rw[bJ,aN a];simpa using b
def Jc (m:Ma):Wd:=⟨m.sp.length,fun p=>⟨(bE m p).lv,(bE m p).ar,ik m p⟩,(List.range m.st.fs.length).map fun f:Nat=>(List.range (aI m.st f).n.toNat).map (vK m f)⟩
theorem Kk (hR:Rt m):xR m (Jc m):=by
 have a:∀f:Nat,f<m.st.fs.length→BU (Jc m) f=(List.range (aI m.st f).n.toNat).map (vK m f):=fun f hf=>by unfold BU Jc;simp only;rw[bJ,jd,wX hf];rfl
 refine⟨rfl,fun _=>rfl,fun _=>rfl,fun p n => ?_,by simp[Jc],fun f hf => ?_,fun f j hf hj => ?_⟩
 ·show pz _ (ik m p n) (ik m p n);cases hg:dQ m p n with
  | none=>exact Jh hR hg
  | some g=>exact Aq _
 ·rw[a f hf];simp only[gK,yI];have:=(mE hR.pt.st (f:=(f:Int)) (by omega)).1;omega
 ·rw[a f hf,bJ,jd,wX (by omega)];rfl
def Ev (P:PS):Bool:=!P.lv
theorem Ox (P:PS) (w:World):Calls Tryz.prog 120 #[.agg (Ag P)] w fun r w'=>r = .returned (.bool (Ev P))∧Below w.heap.size w w':=by
 go_enter func120,ntmps120;go_upto_region 1 with (fail);refine je (fun W=>Code.wp _ _ _ _ W) fun W0 c a b => ?_;clear b;have d:=a.cell;have q0:(Ag P)[0]?=some (.bool P.lv):=rfl;go_wp2;go_ret;exact⟨rfl,c⟩
theorem TU {l:List PS} (h:dV w a (l.flatMap vR)) (k:Nat) (hk:k<l.length):∃b off,a=some ⟨b,off,none⟩∧dV w (some ⟨b,off+k*10,none⟩) (vR l[k]):=nU vw (by decide) h k hk
theorem JB (l:List PS) (a:Option Addr) (c:Nat) (w:World) (hrd:dV w a (l.flatMap vR)) (hl:l.length≤9223372036854775807) :
  Calls Tryz.prog 119 #[.slice a l.length c,.func (.func 120) #[] #[]] w fun e w'=>e = .returned (.int .i64 (idx Ev l))∧Below w.heap.size w w':=by
 go_enter func119,ntmps119;go_wp2
 go_loopw [8] (fun i wr => ∃k:Nat,k≤l.length∧i = .int .i64 k∧Below w.heap.size w wr∧∀i (h:i<l.length),i<k→Ev l[i]=false) (fun i _=>l.length-(intOf i).toNat)
 case atStart=>exact⟨0,bK _,rfl,Below.refl _ _,fun i _ h=>absurd h (gT _)⟩
 case round=>
  obtain⟨k,hk,rfl,g,m⟩:=hrel;have hp:=ae m;clear m
  by_cases hlt:k<l.length
  ·obtain⟨b,off,rfl,o⟩:=TU (hrd.below g) k hlt
   go_wp2_with (refine aA _ _ rfl b (off+k*10) rfl rfl _ o _ underlying114 rfl space_size ?_)
   refine (Ox l[k] _).mono ?_;rintro e w2 ⟨rfl,n⟩;have f:=ah g n;clear n;cases hpk:Ev l[k]
   ·have j:=ae hpk;clear hpk;go_wp2;go_roundw
    case rel=>exact⟨k+1,by omega,by go_num,f,nz hp.out hlt j.out⟩
    case measure=>simp[intOf];omega
   have d:=ae (oI Ev l k hlt hp.out hpk);clear hpk;go_wp2;go_ret;exact⟨bq d.out.symm,f⟩
  have d:=ae (jW Ev l fun i h=>hp.out i h (by omega));go_wp2;go_ret;exact⟨bq d.out.symm,g⟩
theorem QT (H:MH):idx Ev H.sp=ww H.ma:=by
 unfold ww idx MH.ma;rw[List.findIdx?_map];rfl
theorem iJ.appP {e:Int} (h:iJ w B b H e) (hg:w.grownBy w1 (Value.slice H.ap H.sp.length H.cp).ownBlock) {l:List PS} (ho:Own w1 B 114 10 (.slice a l.length c) l.length (l.flatMap vR))
 (hp:∀p∈l,Own w1 B 143 7 (.slice p.aa p.ar.length p.ac) p.ar.length (p.ar.flatMap fD)∧uM w1 B (rT p.ts) p.tb) (htz:∀p∈l,Ay p.tb) (hb:aJ w2 b (dE (lG H e) 10 [.slice a l.length c]) 192) (hg2:w1.grownBy w2 (some b)) :
  iJ w2 B b { H with ap:=a,cp:=c,sp:=l } e:=by
 have m:=h.ma;have key:aJ w1 b (lG H e) 192∧Own w1 B 132 13 (.slice H.af H.m.fs.length H.cf) H.m.fs.length (H.m.fs.flatMap oO)∧Own w1 B 3 1 (.slice H.asl H.sl.length H.csl) H.sl.length (H.sl.map gQ) ∧
   jZ w1 B (.slice H.wb H.sw.blocks.length H.cwb) (.slice H.wq H.sw.queue.length H.cwq) H.sw∧jZ w1 B (.slice H.db H.dk.blocks.length H.cdb) (.slice H.dq H.dk.queue.length H.cdq) H.dk∧oD w1 B (.slice H.ai H.fi.length H.ci) H.fi ∧
   Own w1 B 124 3 (.slice H.ac H.ca.length H.cc) H.ca.length (H.ca.flatMap jO):=by
  rcases HY m.sp hg with h1|⟨g,cs,hk,_,hg'⟩
  ·have f:=wJ h1;have k:=m.below f;exact⟨h.blk.ext f,k.fr,k.sl,k.sw,k.dk,k.st,k.ca⟩
  ·exact⟨aH h.blk hk (by decide) hg',ay m.fr hk (by decide) hg',ay m.sl hk (by decide) hg',m.sw.keep hk (by decide) (by decide) hg',m.dk.keep hk (by decide) (by decide) hg',m.st.keep hk (by decide) (by decide) hg',ay m.ca hk (by decide) hg'⟩
 obtain⟨k0,k1,k2,k3,k4,k5,k6⟩:=key;exact⟨hb,h.ge,⟨ay k1 k0 (by decide) hg2,ay k2 k0 (by decide) hg2,k3.keep k0 (by decide) (by decide) hg2,k4.keep k0 (by decide) (by decide) hg2,k5.keep k0 (by decide) (by decide) hg2,ay k6 k0 (by decide) hg2,ay ho k0 (by decide) hg2,fun p d=>⟨ay (hp p d).1 k0 (by decide) hg2,(hp p d).2.keep k0 (by decide) hg2⟩,m.c64⟩,htz⟩
theorem Rf (k:Kp) (p q:Nat) (n:Int):(kI k p q n).m.sp.length=k.m.sp.length∧∀j,(bE (kI k p q n).m j).ar=(bE k.m j).ar:=by
 unfold kI;dsimp only;have hh:∀f n,(dK k f n).m.sp.length=k.m.sp.length∧∀j,(bE (dK k f n).m j).ar=(bE k.m j).ar:=fun f n=>by unfold bE;rw[Ja];exact⟨rfl,fun _=>rfl⟩
 split
 ·split
  ·exact⟨rfl,fun _=>rfl⟩
  ·exact rH _ _ _ _
 split
 ·have h1:=rH (dK k (aF k.m p n).n 1) q n (aF k.m p n);have h2:=hh (aF k.m p n).n 1;exact⟨h1.1.trans h2.1,fun j=>(h1.2 j).trans (h2.2 j)⟩
 have h1:=rH (cZ (dK k (aF k.m p n).n 1) p n ⟨(aF k.m p n).k,(aF k.m p n).n,false⟩) q n ⟨(aF k.m p n).k,(aF k.m p n).n,false⟩;have h3:=rH (dK k (aF k.m p n).n 1) p n ⟨(aF k.m p n).k,(aF k.m p n).n,false⟩;have h2:=hh (aF k.m p n).n 1;exact⟨h1.1.trans (h3.1.trans h2.1),fun j=>(h1.2 j).trans ((h3.2 j).trans (h2.2 j))⟩
theorem OO (p q:Nat) (l:List Int) (k:Kp):(mF k p q l).m.sp.length=k.m.sp.length∧∀j,(bE (mF k p q l).m j).ar=(bE k.m j).ar:=by
 unfold mF
 induction l generalizing k with
 | nil=>exact⟨rfl,fun _=>rfl⟩
 | cons i l ih=>
  rw[sH];have h1:=ih (kI k p q i);have h2:=Rf k p q i;exact⟨h1.1.trans h2.1,fun j=>(h1.2 j).trans (h2.2 j)⟩
theorem Je (k:Kp) (p q:Nat) (l:List Int) (j:Nat) (hj:j<l.length):mF k p q (l.take (j+1))=kI (mF k p q (l.take j)) p q l[j]:=by
 unfold mF;rw[mI,xG,aN hj];rfl
def Yh (B:Nat) (l:List Ar):nR:=⟨fun v w => ∃a c,v = .agg #[.bool true,.slice a l.length c,.slice none 0 0,.slice none 0 0,.slice none 0 0,.slice none 0 0,.slice none 0 0,.slice none 0 0,.slice none 0 0,.slice none 0 0]∧Own w B 143 7 (.slice a l.length c) l.length (l.flatMap fD),
 fun _ _ _ hb ⟨a,c,h1,h2⟩=>⟨a,c,h1,h2.below hb⟩⟩
def Xf (m:Ma) (q:Nat):Prop:=(q:Int)=mD m∧(q=m.sp.length∧m.sp.length<4∨q<m.sp.length∧(bE m q).lv=false)
def Yj (H:MH) (p:Int) (w:World) (r:Ending) (w' : World):Prop:=
 Below w.heap.size w w'∧((yl H p∧r = .returned (.tuple #[.agg (bP noH),.int .i64 0,.int .i64 5]))∨(¬yl H p∧ww H.ma<0∧H.sp.length=4∧r = .returned (.tuple #[.agg (bP noH),.int .i64 0,.int .i64 4])) ∨
  (¬yl H p∧∃(H' : MH) (q:Nat),Xf H.ma q∧r = .returned (.tuple #[.agg (bP H'),.int .i64 q,.int .i64 0])∧qf w' w.heap.size H'∧Forked H.ma H'.ma p.toNat q∧H'.ma=(Dl H.ma p.toNat q).m))
theorem RU (H:MH) (p:Int) (w:World) (h:EM w H) (hR:Rt H.ma) (hC:Co H.ma) :
  Calls Tryz.prog 68 #[.agg (bP H),.int .i64 p] w (Yj H p w):=by
 have hx:=ae hR;have gJ:=ae hC;clear hR hC;go_enter func68,ntmps68;go_upto_region 1 with (fail);refine uj (fun W=>Code.wp _ _ _ _ W) fun w1 hX bx1 rx1 gq => ?_;have rx1:aJ w1 (w.heap.size+1) (bP noH) 44:=rx1;have h1:=h.below hX;clear h
 go_wp2_with (refine aA _ _ rfl w.heap.size 0 rfl rfl _ bx1.rd _ underlying44 rfl machine_size ?_)
 refine (oP H _ h1).mono ?_;rintro r w2 ⟨rfl,hW⟩;rw[Aa.2 hx.out];have h2:=h1.below hW;have bx2:=bx1.ext hW;have rx2:=rx1.ext hW;have a:=ah hX hW;clear h1 bx1 rx1 hX hW gq;have hc:=bx2.cell;unfold bP at hc
 by_cases c1:p<0
 ·have hh:Hid (yl H p):=ae (.inl c1)
  go_wp2_with (refine ax rfl _ _ _ rfl (w.heap.size+1) (bP noH) rfl rfl _ _ rx2 rfl mach_size (dz noH) ?_)
  intro we hs x;have o:=a.grown x a.size (fun k hk=>by cases hk;omega);go_wp2;refine bodyPost_ret (v:=.tuple #[.agg (bP noH),.int .i64 0,.int .i64 5]) (bR results68 _ _ (w.heap.size+1) _ _ _ _ _ rfl rfl rfl hs underlying44 rfl mach_size) rfl ?_;exact⟨o,.inl ⟨hh.out,rfl⟩⟩
 by_cases c2:(H.sp.length:Int)≤p
 ·have hh:Hid (yl H p):=ae (.inr (.inl c2))
  go_wp2_with (refine ax rfl _ _ _ rfl (w.heap.size+1) (bP noH) rfl rfl _ _ rx2 rfl mach_size (dz noH) ?_)
  intro we hs x;have o:=a.grown x a.size (fun k hk=>by cases hk;omega);go_wp2;refine bodyPost_ret (v:=.tuple #[.agg (bP noH),.int .i64 0,.int .i64 5]) (bR results68 _ _ (w.heap.size+1) _ _ _ _ _ rfl rfl rfl hs underlying44 rfl mach_size) rfl ?_;exact⟨o,.inl ⟨hh.out,rfl⟩⟩
 obtain⟨P,hP⟩:∃P:Nat,p=P:=⟨p.toNat,by omega⟩;subst hP;have kc:P<H.sp.length:=by omega
 obtain⟨gs,os,Q,kO,hQ,ka⟩:=vN h2.sp.rd P kc;rw[kO] at hc;have kI:w2.cell? ⟨gs,os+P*10,none⟩=some (.bool Q.lv):=by obtain⟨b',o',e',kL⟩:=ka 0 _ rfl;cases e';exact kL
 have h7:=ae (nT hQ);cases hlvQ:Q.lv with
 | false=>
  rw[hlvQ] at kI;have hh:Hid (yl H (P:Int)):=ae (.inr (.inr (by rw[bG,h7.out];exact hlvQ)))
  go_wp2_with (refine ax rfl _ _ _ rfl (w.heap.size+1) (bP noH) rfl rfl _ _ rx2 rfl mach_size (dz noH) ?_)
  intro we hs x;have o:=a.grown x a.size (fun k hk=>by cases hk;omega);go_wp2;refine bodyPost_ret (v:=.tuple #[.agg (bP noH),.int .i64 0,.int .i64 5]) (bR results68 _ _ (w.heap.size+1) _ _ _ _ _ rfl rfl rfl hs underlying44 rfl mach_size) rfl ?_;exact⟨o,.inl ⟨hh.out,rfl⟩⟩
 | true=>
  rw[hlvQ] at kI;have kY:Hid (¬yl H (P:Int)):=ae (by
   rintro (e|e|e)
   ·exact c1 e
   ·exact c2 e
   ·rw[bG,h7.out] at e;exact absurd (hlvQ.symm.trans e) (by decide))
  have kD:=h2.sp;rw[kO] at kD;have h4:Hid (H.sp.length≤4):=ae (by have:=hx.out.pt.spl;rw[pI] at this;exact this)
  go_wp2_with fail
  refine (JB H.sp (some ⟨gs,os,none⟩) H.cp _ kD.rd (by have:=h4.out;omega)).mono ?_;rintro r w2' ⟨rfl,hV⟩;rw[QT];have gl:=h2.below hV;have bx2':=bx2.ext hV;have rx2':=rx2.ext hV;have hg:=ah a hV;clear hc kI ka h2 kO kD bx2 rx2 a hV;have hc:=bx2'.cell;unfold bP at hc;generalize hdI:ww H.ma=d;have hM:=ae hdI;clear hdI
  by_cases d0:d<0∧H.sp.length=4
  ·obtain⟨d1,d2⟩:=d0;have a:=hg;have rx2:=rx2';rw[d2] at hc
   go_wp2_with (refine ax rfl _ _ _ rfl (w.heap.size+1) (bP noH) rfl rfl _ _ rx2 rfl mach_size (dz noH) ?_)
   intro we hs x;have o:=a.grown x a.size (fun k hk=>by cases hk;omega);go_wp2;refine bodyPost_ret (v:=.tuple #[.agg (bP noH),.int .i64 0,.int .i64 4]) (bR results68 _ _ (w.heap.size+1) _ _ _ _ _ rfl rfl rfl hs underlying44 rfl mach_size) rfl ?_;exact⟨o,.inr (.inl ⟨kY.out,by rw[hM.out];exact d1,d2,rfl⟩)⟩
  have ga:Hid (¬(d<0∧H.sp.length=4)):=ae d0;have gE:Hid (0≤d→∃k:Nat,d=k∧k<H.sp.length∧(bE H.ma k).lv=false):=ae (fun gF=>by obtain⟨k,hk,kJ,gy⟩:=uK (q:=fun s:Sp => !s.lv) (l:=H.ma.sp) (by show 0≤ww H.ma;rw[hM.out];exact gF);refine⟨k,hM.out.symm.trans hk,by rw[pI] at kJ;exact kJ,?_⟩;unfold bE;rw[bJ,aN kJ];simpa using gy);go_upto_region 7 with (fail)
  go_cut [47] (fun s47 wx=>s47 = .bool false∧wx=w2')
  case first=>
   by_cases d1:d<0
   ·have hL:¬(H.sp.length:Int)=4:=fun e=>ga.out ⟨d1,by omega⟩;go_wp2;go_meet
    case rel=>exact⟨by simp[hL],rfl⟩
   go_wp2;go_meet
   case rel=>exact⟨rfl,rfl⟩
  case rest=>
   obtain⟨rfl,gn⟩:=hcut;subst gn;clear hc
   go_wp2_with (refine aA _ _ rfl w.heap.size 0 rfl rfl _ bx2'.rd _ underlying44 rfl machine_size ?_)
   refine (nA H _ gl (tC hx.out)).mono ?_;rintro r w3 ⟨H3,rfl,kW,hJ,_,kN⟩;have kf:Hid (H3.sp.length=H.sp.length):=ae (vE (by rw[hJ]));have kG:=ae hJ;have rx3:=rx2'.ext kN;have hO:=ah hg kN;clear bx2' rx2' gl hJ;unfold bP;go_upto_if 54 with (fail);refine je (fun W=>Code.wp _ _ _ _ W) fun w4 kk kx4 gp => ?_;have k4:iJ w4 w.heap.size w3.heap.size H3 0:=⟨kx4,hO.size,(kW.mono hg.size).below kk,fun q hq=>(Qx.spz (H:=H3) (by rw[kG.out];exact tC hx.out) hq).2⟩;have rx4:=rx3.ext kk;have z:=ah hO kk;obtain⟨b,hU⟩:∃b,w3.heap.size=b:=⟨_,rfl⟩;rw[hU] at k4 ⊢;clear kN kk kW hg kx4 gp rx3 hO hU
   go_cut [8] (fun s8 wx => ∃(q:Nat) (HX:MH),s8 = .int .i64 q∧iJ wx w.heap.size b HX 0∧aJ wx (w.heap.size+1) (bP noH) 44∧Below w.heap.size w wx∧Hid (q<HX.sp.length∧HX.sp.length≤4∧P≠q∧(∃Q',HX.sp[P]?=some Q'∧Q'.sp=bE H.ma P)∧lD HX.ma q ⟨true,(bE H.ma P).ar,zTb⟩=gP H.ma P q∧Xf H.ma q))
   case first=>
    by_cases d1:d<0
    ·have hL:Hid (H3.sp.length=H.sp.length∧H.sp.length<4):=ae ⟨kf.out,by
      have:=h4.out;have h5:¬H.sp.length=4:=fun e=>ga.out ⟨d1,e⟩;omega⟩
     have gd:=k4.blk.cell;unfold lG at gd;have hI:=k4.ma.sp
     go_wp2_with (at_builtin;go_must (refine pu rfl _ _ 42 rfl w.heap.size 114 _ 10 224 underlying42 space_info rfl (by decide) _ H3.sp.length (H3.sp.flatMap vR) rfl (hI.alloc _) (some ⟨w4.heap.size,0,none⟩) 1 1 (vR zPS) rfl (fun h=>(by cases h)) (az _) rfl (dV.new _ (Ag zPS) _) (fP (by simp[Ag,zPS,nTs,Value.oneCell'])) (by have:=hL.out;unfold maxLen;omega) (by have:=hL.out;omega) (eD z.size _) ?_))
     intro v2 wa own2 ht kR;have hZ:=(Below.refl w4.heap.size w4).alloc (az _) (.cells (Ag zPS) 114);have k4a:=k4.below hZ;have c:Own (w4.alloc (.cells (Ag zPS) 114)) w.heap.size 114 10 (.slice H3.ap H3.sp.length H3.cp) H3.sp.length (H3.sp.flatMap vR):=k4a.ma.sp;have hT:=zi c ht k4a.blk (by decide);have rxa:=zi c ht (rx4.ext hZ) (by decide);have kq:∀p∈H3.sp++[zPS],Own wa w.heap.size 143 7 (.slice p.aa p.ar.length p.ac) p.ar.length (p.ar.flatMap fD)∧uM wa w.heap.size (rT p.ts) p.tb:=fun p hp=>by
      rcases iN.1 hp with hp|hp
      ·exact⟨ko c ht (k4a.ma.ps p hp).1 (by decide),Ga c ht (k4a.ma.ps p hp).2⟩
      rw[bF.1 hp];exact⟨Own.nil _ _ _ _,Bf _ _⟩
     have kn:∀p∈H3.sp++[zPS],Ay p.tb:=fun p hp=>by
      rcases iN.1 hp with hp|hp
      ·exact k4a.tz p hp
      rw[bF.1 hp];exact vT zTb_right
     have hN:Below w.heap.size w wa:=(ah z hZ).grown ht (ah z hZ).size (fun k hk=>c.ge k hk);obtain⟨a2,c2,rfl,_⟩:=own2.rd;have hK:(H3.sp++[zPS]).length=H3.sp.length+1:=by simp
     have own2' : Own wa w.heap.size 114 10 (.slice a2 (H3.sp++[zPS]).length c2) (H3.sp++[zPS]).length ((H3.sp++[zPS]).flatMap vR):=by rw[hK,gW];simpa using own2
     clear gd hI own2 hZ rx4 z
     go_wp2_with (refine aX rfl _ _ _ rfl b 10 _ [.slice a2 (H3.sp.length+1) c2] rfl rfl rfl _ _ hT (by show 10+1≤12;omega) (by kernel_rfl) (fun u hu=>by cases bF.1 hu;rfl) ?_)
     intro w5 gh kh;have k5:=k4a.appP ht own2' kq kn (by rw[hK];exact gh) kh;have rx5:=aH rxa hT (by decide) kh;have gf:=hN.grown kh hN.size (fun k hk=>by cases hk;exact k4.ge);clear gh kh hT rxa hN kq kn own2' c ht kR k4 k4a;go_wp2;go_meet
     case rel=>
      have hz:=hL.out;have hm:=kG.out;refine⟨H3.sp.length,_,rfl,k5,rx5,gf,ae ⟨by simp,by simp;omega,by omega,?_,?_,⟨by unfold mD;rw[hM.out,if_pos d1,pI];omega,.inl ⟨by rw[pI];omega,by rw[pI];omega⟩⟩⟩⟩
      ·have hD:P<H3.sp.length:=by omega
       refine⟨H3.sp[P],by rw[iD hD];exact aN hD,?_⟩;rw[←hm];exact (nT (aN hD)).symm
      unfold gP;rw[if_pos (by rw[pI];exact hz.1),←hm];unfold lD MH.ma;simp[jJ,List.set_append_right]
    obtain⟨k,rfl,k8,k3⟩:=gE.out (by omega);have gz:=ae (And.intro k8 k3);clear k8 k3;go_wp2;go_meet
    case rel=>
     have hz:=gz.out;have hm:=kG.out;have hD:P<H3.sp.length:=by rw[kf.out];exact kc
     refine⟨k,H3,rfl,k4,rx4,z,ae ⟨by rw[kf.out];exact hz.1,by rw[kf.out];exact h4.out,fun e => ?_,⟨H3.sp[P],aN hD,?_⟩,?_,⟨by unfold mD;rw[hM.out,if_neg (show ¬(k:Int)<0 by omega)],.inr ⟨by rw[pI];exact hz.1,hz.2⟩⟩⟩⟩
     ·have h9:=hz.2;rw[←e,h7.out] at h9;exact absurd (hlvQ.symm.trans h9) (by decide)
     ·rw[←hm];exact (nT (aN hD)).symm
     unfold gP;rw[if_neg (by rw[pI];omega),hm]
   case rest=>
    obtain⟨q,HX,rfl,kx,rx,kj,hf⟩:=hcut;clear k4 rx4 z;obtain⟨kb,gT,gG,⟨Q',h3,gi⟩,hG,kX⟩:=hf.out;clear hf;have kE:=ae hG;have kr:=ae kX;have hr:=ae gi;clear hG kX gi;obtain⟨g,off,cur,hY,gk,ky,kt,kU⟩:=kx.putP kb;have gj:=(dC.1 h3).1;have gS:(P:Int)<(HX.sp.length:Int):=by omega
    have gO:(q:Int)<(HX.sp.length:Int):=by omega
    have gc:∀W,Below wc.heap.size wc W→W.cell? ⟨g,off+P*10+1,none⟩=some (.slice Q'.aa Q'.ar.length Q'.ac):=fun W hb=>by obtain⟨g',off',hl,ka,_,_⟩:=(kx.below hb).at h3;rw[hY] at hl;cases hl;obtain⟨b',o',e',kL⟩:=ka 1 _ rfl;cases e';exact kL
    have hA:=((kx.ma.rd.ps Q' (dn h3))).ars;have kA:Q'.ar.length*40≤140737488355328:=by have h9:=(ou.1 (hx.out.pt.ar _ (zA (m:=H.ma) (p:=P) (by rw[pI];exact kc)))).1;rw[←hr.out] at h9;have:Q'.sp.ar.length=Q'.ar.length:=rfl;omega
    go_upto_region 13 with (fail);refine aP 18 [_,_,_,_,_,_,_,_,_,_,_,_,_,_,_,.r 15 ((gM wc.heap.size 143 7 Q'.ar.length (Q'.ar.flatMap fD))),.r 16 ((Yh wc.heap.size Q'.ar)),_] (Gk rfl (Gk rfl (Gf b 0 rfl rfl (Gf b 10 rfl rfl (Gl kx.blk (V:=.slice (some ⟨g,off,none⟩) HX.sp.length HX.cp) (by simp[lG,hY]) rfl rfl rfl rfl (Gk rfl (Gk rfl (Gk rfl (Gf b 0 rfl rfl (Gf b 10 rfl rfl (Gl kx.blk (V:=.slice (some ⟨g,off,none⟩) HX.sp.length HX.cp) (by simp[lG,hY]) rfl rfl rfl rfl (Gk rfl (Gr (.pointer (some ⟨g,off+P*10,none⟩)) (fun ρ y W hb h6=>(eO rfl (aV rfl h6) (aV rfl h6) gj underlying42 space_size)) rfl rfl (Gf g (off+P*10+1) rfl rfl (Gc (.slice Q'.aa Q'.ar.length Q'.ac) (fun W hb=>by simp[gc _ hb]) rfl rfl rfl rfl (aj ?_ (aj ?_ (Gr (.pointer (some ⟨g,off+q*10,none⟩)) (fun ρ y W hb h6=>(eO rfl (aV rfl h6) (aV rfl h6) kb underlying42 space_size)) rfl rfl (aG))))))))))))))))))) (fun _=>rfl) rfl ?_
    ·intro ρ y W hw hn hb hd;have gN:=hw 87 14 rfl;have gK:y 14=_:=hd 14 rfl;have EF:∀f,ρ (.func f) = .func (.func f) #[] #[]:=fun f=>hn (.func f) trivial;refine aL _ _ (ag rfl) (aS rfl (EF _) func62 (by kernel_rfl) (by kernel_rfl) (by simp only[bT,bH,bL,gN,gK,EF];rfl)) ?_;refine (sN Q'.ar Q'.aa Q'.ac W hA.le hA.nl (hA.below hb).rd kA).mono ?_;rintro e w1 ⟨u,rfl,ho,hX⟩;exact⟨_,rfl,hX,ho.mono hb.size⟩
    ·intro ρ y W hw hn hb hd;have gL:=hw 88 15 rfl;have gm:=hd 15 rfl;obtain⟨ua,uc,hu,_⟩:=Own.rd gm;have kB:Own W wc.heap.size 143 7 (y 15) Q'.ar.length (Q'.ar.flatMap fD):=gm;rw[hu] at kB;refine ak (.agg #[.bool true,.slice ua Q'.ar.length uc,.slice none 0 0,.slice none 0 0,.slice none 0 0,.slice none 0 0,.slice none 0 0,.slice none 0 0,.slice none 0 0,.slice none 0 0]) (ag rfl) (by simp[execOp,go_sem,gL,hu,hn (.const _) trivial,Act.eval]) ?_;exact⟨ua,uc,rfl,kB⟩
    intro y W5 ha h0;have kQ:((gM wc.heap.size 143 7 Q'.ar.length (Q'.ar.flatMap fD))).r (y 15) W5:=h0 15 (by decide);have kP:((Yh wc.heap.size Q'.ar)).r (y 16) W5:=h0 16 (by decide);clear h0;obtain⟨ua,uc,e16,kV⟩:=kP;simp only[e16];clear e16 kQ;have t:=ky.ext ha
    go_wp2_with (refine fI rfl _ _ _ rfl g (off+q*10) #[.bool true,.slice ua Q'.ar.length uc,.slice none 0 0,.slice none 0 0,.slice none 0 0,.slice none 0 0,.slice none 0 0,.slice none 0 0,.slice none 0 0,.slice none 0 0] rfl rfl _ _ t kt space_size (by simp[Value.oneCell']) ?_)
    intro w6 gg kg;obtain⟨g',off',cur',hl,_,hv,_,hH⟩:=(kx.below ha).putP kb;rw[hY] at hl;cases hl;have gb:cur' = cur:=by unfold aJ at hv t;rw[hv] at t;simpa using t
    subst gb;have k6:=hH w6 ⟨true,ua,uc,Q'.ar,nTs,zTb⟩ (kV.mono kj.size) (Bf _ _) (vT zTb_right) gg kg;have rx6:=aH (rx.ext ha) t (by decide) kg;have kw:=(ah kj ha).grown kg (ah kj ha).size (fun k hk=>by cases hk;exact gk);have kl:(HX.sp.set q ⟨true,ua,uc,Q'.ar,nTs,zTb⟩)[P]?=some Q':=by rw[sG (fun e=>gG e.symm)];exact h3
    have kH:Hid (MH.ma { HX with sp:=HX.sp.set q ⟨true,ua,uc,Q'.ar,nTs,zTb⟩ }=gP H.ma P q):=ae (by rw[Cw,←kE.out,←hr.out];rfl);have k2:Hid ((HX.sp.set q ⟨true,ua,uc,Q'.ar,nTs,zTb⟩).length=HX.sp.length):=ae cO;clear gc hY ky kt kU hH hv t gg kg kV kx rx kj ha hA kA h3 gk;have hS:∃HS:MH,HS = { HX with sp:=HX.sp.set q ⟨true,ua,uc,Q'.ar,nTs,zTb⟩ }:=⟨_,rfl⟩;obtain⟨HS,km⟩:=hS;rw[←km] at k6 kH;have kl:HS.sp[P]?=some Q':=by rw[km];exact kl
    have k1:Hid (HS.sp.length=HX.sp.length):=ae (by rw[km];exact k2.out);clear km k2;have gt:q<HS.sp.length:=by rw[k1.out];exact kb
    have gH:P<HS.sp.length:=by rw[k1.out];exact gj
    have gR:(P:Int)<(HS.sp.length:Int):=by omega
    obtain⟨g6,off6,kz,kS,kp,hB⟩:=k6.at kl;have kK:=k6.blk.cell;unfold lG at kK;rw[kz] at kK
    go_wp2_with (refine aA _ _ rfl g6 (off6+P*10+2) rfl rfl _ kp _ underlying112 tab_agg tab_size ?_)
    refine (ru Q'.tb (rT Q'.ts) _ hB.tb).mono ?_;rintro r w7 ⟨v7,rfl,kF,kM⟩;obtain⟨a7,c7,rfl,_,kZ,_,_⟩:=kF.rd;have gB:=ae (fun n (hn:n∈aM Q'.tb)=>(jX.1 hn));have gC:Hid (Dl H.ma P q=mF ⟨gP H.ma P q,0⟩ P q (aM Q'.tb)):=ae (by unfold Dl;rw[←hr.out];rfl);generalize aM Q'.tb=l at *
    have k7:=k6.below kM;have s7:=(KS.refl w6 b HS).below kM;unfold maxLen at kZ;clear kK kS kp hB kz kM;go_wp2
    go_loopw [102] (fun s102 wr => ∃(j:Nat) (Hj:MH) (ej:Int),j≤l.length∧s102 = .int .i64 j∧iJ wr w.heap.size b Hj ej∧KS w6 b HS wr Hj∧Hid (Kp.mk Hj.ma ej=mF ⟨gP H.ma P q,0⟩ P q (l.take j))∧Own wr w6.heap.size 3 1 (.slice a7 l.length c7) l.length (l.map gQ)) (fun s102 _=>l.length-(intOf s102).toNat)
    case atStart=>exact⟨0,HS,0,bK _,rfl,k7,s7,ae (by rw[kH.out];rfl),kF⟩
    case round=>
     clear kF k7 s7;obtain⟨j,Hj,ej,hj,rfl,hE,sj3,qj,kd⟩:=hrel
     by_cases hjl:j<l.length
     ·have gA:(j:Int)<(l.length:Int):=by omega
      obtain⟨_,_,e9,_,_,_,kT⟩:=kd.rd;cases e9;obtain⟨bl,ol,rfl,ki⟩:=kT j (gQ l[j]) (by rw[jd,aN hjl];rfl);unfold gQ at ki;have hi:=gB.out _ (eX hjl);have kC:=ae (Je ⟨gP H.ma P q,0⟩ P q l j hjl);generalize l[j]=i at *
      have hy:=OO P q (l.take j) ⟨gP H.ma P q,0⟩;rw[←qj.out,←kH.out] at hy;have k0:Hj.sp.length=HS.sp.length:=vE hy.1;have k9:0≤eQ (bE Hj.ma P).ar i:=by
       rw[hy.2,nT kl];have gw:(aF H.ma P i).k≠0:=by unfold aF;rw[←hr.out];exact hi.2
       obtain⟨pg,gu,_⟩:=hx.out.en P i gw;have:=(RQ gu).2;rw[←hr.out] at this;exact this
      have ks:=ae k0;clear hy k0
      go_wp2_with fail
      refine (LD Hj ej i P q _ b _ hE (by rw[ks.out];exact gH) (by rw[ks.out];exact gt) k9).mono ?_;rintro r w8 ⟨rfl,H8,e8,h8,s8,q8⟩;have gv:=s8.own hE kd (by decide);have s08:=sj3.trans s8;have gr:Hid (Kp.mk H8.ma e8=mF ⟨gP H.ma P q,0⟩ P q (l.take (j+1))):=ae (by rw[kC.out,←qj.out];exact q8);clear q8 s8 hE sj3 kd qj kT ki k9 hi;go_wp2;go_roundw
      case rel=>exact⟨j+1,H8,e8,by omega,by go_num,h8,s08,gr,gv⟩
      case measure=>simp[intOf];omega
     have gA:¬(j:Int)<(l.length:Int):=by omega
     rw[mK (by omega)] at qj;obtain⟨m',ke,hF⟩:=NQ hx.out gJ.out (p:=P) (q:=q) (by rw[pI];exact kc) (by rw[h7.out];exact hlvQ) kr.out.2;have ku:(Dl H.ma P q).m=m':=by rw[ke]
     rw[gC.out,←qj.out] at ke;obtain⟨rfl,rfl⟩:=Kp.mk.inj ke;have gI:=ae hF;have gD:=ae ku;clear ku;have rxj:=sj3.blk k6 rx6 machT;have kv:=fu kw (sj3.to k6 (az _));have rxl:=rxj.lt;clear kd qj ke hF sj3 k6 rx6 kw;have ki:=hE.blk.cell;unfold lG at ki
     go_wp2_with (first | (refine aA _ _ rfl b 0 rfl rfl (bP Hj).toList (bW hE.blk 0 11) _ underlying44 rfl machine_size ?_) | (refine ax rfl _ _ _ rfl (w.heap.size+1) (bP Hj) rfl rfl _ _ rxj rfl mach_size (dz _) ?_))
     intro we rxe x;have o:=kv.grown x kv.size (fun k hk=>by cases hk;omega);have gx:=hE.ma.keep rxj (by decide) x;go_wp2;refine bodyPost_ret (v:=.tuple #[.agg (bP Hj),.int .i64 q,.int .i64 0]) (bR results68 _ _ (w.heap.size+1) _ _ _ _ _ rfl rfl rfl rxe underlying44 rfl mach_size) rfl ?_;exact⟨o,.inr (.inr ⟨kY.out,Hj,q,kr.out,rfl,gx,gI.out,gD.out.symm⟩)⟩
end Go.Proofs.YtpaeabelhnnbiaaGreat