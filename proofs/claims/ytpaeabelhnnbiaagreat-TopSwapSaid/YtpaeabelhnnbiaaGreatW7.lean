import Derived.Test.YtpaeabelhnnbiaaGreatW6
set_option linter.unusedSimpArgs false
set_option linter.unusedVariables false
set_option maxHeartbeats 4000000
set_option maxRecDepth 100000
namespace Go.Proofs.YtpaeabelhnnbiaaGreat
open _root_.Go.Proofs.Tryz
open Go.RowKit Go.Maps Pw
variable {B B' b bl c cp f fr ga i j p rb rx sl sz sz':Nat} {H S:MH} {L:Nat → Bool} {P:Program} {T T0 ty tz:TypeId} {W W' w w' w1 wa:World} {a ad:Option Addr} {cs:Array Value} {m m':Ma} {n:Int} {s:St} {u v v2:Value} {vs xs ys:List Value} {wr:Bool} {y:Nat → Value}
def Ko (w:World) (B b rx rb ga:Nat) (S:MH) (e n:Int) (v:Value) (l:Nat) (vs:List Value):(Nat→Bool)→(Nat→Value)→World→Prop:=fun L y W=>
 (Below B w W∧B≤W.heap.size)∧aJ W b (bW S) 92∧qc W B S∧aJ W ga (fT e n v) 52∧Own W B 5 1 v l vs ∧
 (L 5=false→aJ W rx (bW noH) 44)∧(L 5=true→aJ W rx (bW S) 44)∧(L 6=false→aJ W rb (fT 0 0 nilV) 52)∧(L 6=true→aJ W rb (fT e n v) 52)
theorem dQ {l:Nat} {e:Int} :∀L y W W',Below W.heap.size W W'→Ko w B b rx rb ga S e n v l vs L y W→Ko w B b rx rb ga S e n v l vs L y W':=
 fun _ _ _ _ hb ⟨h1,h2,h3,h4,h5,h6,h7,h8,h9⟩=>⟨⟨h1.1.trans (hb.mono h1.2),aV h1.2 hb.size⟩,h2.ext hb,h3.below hb,h4.ext hb,h5.below hb,fun e=>(h6 e).ext hb,fun e=>(h7 e).ext hb,fun e=>(h8 e).ext hb,fun e=>(h9 e).ext hb⟩
theorem fH {l:Nat} {e:Int} (hi:i≠5∧i≠6) (h:Ko w B b rx rb ga S e n v l vs L y W):Ko w B b rx rb ga S e n v l vs (oJ L i) (sZ y i u) W:=by
 unfold Ko at h ⊢;have e5:oJ L i 5=L 5:=by unfold oJ;rw[if_neg (fun e=>hi.1 e.symm)]
 have e6:oJ L i 6=L 6:=by unfold oJ;rw[if_neg (fun e=>hi.2 e.symm)]
 rw[e5,e6];exact h
theorem ET {l:Nat} {e:Int} (hB:B≤rx) (hL:L 5=false) (h:Ko w B b rx rb ga S e n v l vs L y W) (hk:aJ W' rx (dF (bW noH) 0 (bW S).toList) 44) (hg:W.grownBy W' (some rx)):Ko w B b rx rb ga S e n v l vs (oJ L 5) (sZ y 5 undef) W':=by
 obtain⟨h1,h2,h3,h4,h5,h6,h7,h8,h9⟩:=h;have r1:=h6 hL;rw[dU (bW noH) (bW S) rfl] at hk;exact⟨⟨h1.1.grown hg h1.2 (fun k hk=>by cases hk;exact hB),aV h1.2 hg.size⟩,aG h2 r1 (by decide) hg,h3.keep r1 (by decide) hg,aG h4 r1 (by decide) hg,ay h5 r1 (by decide) hg,fun e=>(by cases e),fun _=>hk,fun e=>aG (h8 e) r1 (by decide) hg,fun e=>aG (h9 e) r1 (by decide) hg⟩
theorem EX {l:Nat} {e:Int} (hB:B≤rb) (hne:rb≠ga) (hL:L 6=false) (h:Ko w B b rx rb ga S e n v l vs L y W) (hk:aJ W' rb (dF (fT 0 0 nilV) 0 (fT e n v).toList) 52) (hg:W.grownBy W' (some rb)):Ko w B b rx rb ga S e n v l vs (oJ L 6) (sZ y 6 undef) W':=by
 obtain⟨h1,h2,h3,h4,h5,h6,h7,h8,h9⟩:=h;have r1:=h8 hL;rw[dU (fT 0 0 nilV) (fT e n v) rfl] at hk;exact⟨⟨h1.1.grown hg h1.2 (fun k hk=>by cases hk;exact hB),aV h1.2 hg.size⟩,aG h2 r1 (by decide) hg,h3.keep r1 (by decide) hg,iT h4 hg hne,ay h5 r1 (by decide) hg,fun e=>aG (h6 e) r1 (by decide) hg,fun e=>aG (h7 e) r1 (by decide) hg,fun e=>(by cases e),fun _=>hk⟩
theorem lX {fn:Func} {p q:Tmp} (h:fn.results=#[.cell p ty,.cell q tz]) (tmps:Array Value) (w:World) (g g2:Nat) (t t2:TypeId) (cs cs2:Array Value) (d d2:TypeDesc)
 (hp:tmps.getD p undef = .pointer (some ⟨g,0,none⟩)) (hq:tmps.getD q undef = .pointer (some ⟨g2,0,none⟩)) (hg:aJ w g cs t) (hg2:aJ w g2 cs2 t2) (hu:P.underlying ty=some d) (hd:aggB d=true) (hi:(P.info? ty).map (·.size)=some cs.size)
 (hu2:P.underlying tz=some d2) (hd2:aggB d2=true) (hi2:(P.info? tz).map (·.size)=some cs2.size) :
  (results fn tmps).run P w = .ok (.tuple #[.agg cs,.agg cs2]) w:=by
 have b : tmps[p]?.getD undef = .pointer (some ⟨g,0,none⟩):=by simpa using hp
 have a : tmps[q]?.getD undef = .pointer (some ⟨g2,0,none⟩):=by simpa using hq
 have hl:=iq (P:=P) hg.rd hu hd (by rw[kH];exact hi);have c:=iq (P:=P) hg2.rd hu2 hd2 (by rw[kH];exact hi2);simp[results,h,b,a,asAddr,hl,c]
def xA (H:MH) (c:Cl) (w:World) (r:Ending) (w' : World):Prop:=∃(H' : MH) (d:Value),r = .returned (.tuple #[.agg (bW H'),.agg (fT (tT H.ma c).2.e (tT H.ma c).2.n d)])∧Below w.heap.size w w'∧qc w' w.heap.size H'∧H'.ma=(tT H.ma c).1∧Own w' w.heap.size 5 1 d (tT H.ma c).2.da.length ((tT H.ma c).2.da.map oG)
theorem errno_size:(Tryz.prog.info? 46).map (·.size)=some 1:=by kernel_rfl
theorem Uh (H:MH) (c:Cl) (a:Option Addr) (cap:Nat) (w:World) (h:Ga w H) (hG:rT H.ma) (hrd:∀W,Below w.heap.size w W→eB W a (c.da.map oG)) (hct:∀P:Nat,c.k≤7→c.p=P→P<H.ma.sp.length→(bX H.ma P).lv=true→Vs H.ma c a cap P)
 (hcf:8<c.k→c.k≤12→Vz 36 (fun p q => #[p,q]) H.ma c a cap (WT H.ma c)) (hcs:12<c.k→Vz 37 (fun p q => #[p,q]) H.ma c a cap (UC H.ma c)) :
  Calls Tryz.prog 26 #[.agg (bW H),.agg (mM c a cap)] w (xA H c w):=by
 have h6:=ae hG;have kc:=ae hrd;have ke:=ae hct;have kg:=ae hcf;have kf:=ae hcs;clear hG hrd hct hcf hcs;go_enter func26,ntmps26;go_upto_region 1 with (fail);refine Xl (fun W=>Code.wp _ _ _ _ W) fun w1 h0 bx1 cx1 rx1 rb1 kb => ?_;have bx1:aJ w1 w.heap.size (bW H) 44:=bx1;have cx1:aJ w1 (w.heap.size+1) (mM c a cap) 25:=cx1;have rx1:aJ w1 (w.heap.size+2) (bW noH) 44:=rx1;have rb1:aJ w1 (w.heap.size+3) (fT 0 0 nilV) 52:=rb1;have h1:=h.below h0;have kn:=ae kb;clear h kb
 go_wp2_with (refine aC _ _ rfl w.heap.size 0 rfl rfl _ bx1.rd _ underlying44 rfl machine_size ?_)
 refine (xC H _ h1).mono ?_;rintro r w2 ⟨rfl,hH⟩;rw[GH.2 h6.out.rt];have h2:=h1.below hH;have bx2:=bx1.ext hH;have cx2:=cx1.ext hH;have rx2:=rx1.ext hH;have rb2:=rb1.ext hH;have hO:=ah h0 hH;clear h1 bx1 cx1 rx1 rb1 h0 hH
 go_wp2_with (refine aC _ _ rfl w.heap.size 0 rfl rfl _ bx2.rd _ underlying44 rfl machine_size ?_)
 refine (uP H _ h2 (zz h6.out.rt)).mono ?_;rintro r w3 ⟨H3,rfl,kd,hU,_,hP⟩;have hm:=ae hU;have cx3:=cx2.ext hP;have rx3:=rx2.ext hP;have rb3:=rb2.ext hP;have hZ:=ah hO hP;have hT:=kd.mono hO.size;have hL:Hid (w.heap.size+4≤w3.heap.size):=ae rb3.lt;clear h2 bx2 cx2 rx2 rb2 hO hP kd hU;unfold bW;go_upto_region 7 with (fail);refine vg (fun W=>Code.wp _ _ _ _ W) fun w4 hK kx4 ax4 kj => ?_;have kx4:aJ w4 w3.heap.size (bW H3) 92:=kx4;have ax4:aJ w4 (w3.heap.size+1) (fT 0 0 nilV) 52:=ax4;have k4:oN w4 w.heap.size w3.heap.size H3:=⟨kx4,by have:=hL.out;omega,hT.below hK⟩;have c4:=cx3.ext hK;have rx4:=rx3.ext hK;have rb4:=rb3.ext hK;have m:=ah hZ hK;have hV:w.heap.size+4≤w3.heap.size∧w3.heap.size<w3.heap.size+1:=⟨hL.out,Nat.lt_succ_self _⟩;clear cx3 rx3 rb3 hZ hK hT hL kj kx4;generalize w3.heap.size+1=ga at *
 generalize w3.heap.size=b at *
 have i:=ae hV;clear hV;have km:Hid (rT H3.ma):=ae (by rw[hm.out];exact h6.out);have hh:∀W,Below w.heap.size w4 W→eB W a (c.da.map oG):=fun W hb=>kc.out W (fC m hb);have hA:=c4.cell;unfold mM at hA
 by_cases hk1:c.k<1
 ·have hX:Hid (tT H.ma c=(H.ma,kJ 1)):=ae (by unfold tT;rw[if_pos (.inl hk1)])
  go_wp2_with (refine bz rfl _ _ _ rfl ga 0 _ [.int .i64 1] rfl rfl rfl _ _ ax4 (by show 0+1≤3;decide) errno_size (fun u hu=>by cases bN.1 hu;rfl) ?_)
  intro w5 ax5 l;have ax5:aJ w5 ga (fT 1 0 nilV) 52:=ax5;have k5:=k4.keepT ax4 (by decide) (by decide) l;have rx5:=aG rx4 ax4 (by decide) l;have rb5:=iT rb4 l (by have:=i.out;omega);have hc:=ae (m.grown l m.size (fun k hk=>by have:=i.out;cases hk;omega));have j:Own w5 w.heap.size 5 1 nilV ([]:List UInt8).length (([]:List UInt8).map oG):=Own.nil _ _ _ _;have hl:Hid ((fT 1 0 nilV).all (·.oneCell')=true):=ae (bR _ _ _ _ _);have hf:=hm;clear k4 rx4 rb4 m ax4 l c4 hh;go_upto_region 18 with (fail);clear hA;refine nX 7 [_,_,_,.v (.agg (bW H3)),.v (.agg (fT 1 0 nilV)),.r 5 ((yN fun _=>True)),.r 6 ((yN fun _=>True))] (Ko w w.heap.size b (w.heap.size+2) (w.heap.size+3) ga H3 1 0 nilV ([]:List UInt8).length (([]:List UInt8).map oG)) dQ (fun y=>⟨⟨hc.out,hc.out.size⟩,k5.blk,k5.ma,ax5,j,fun _=>rx5,fun e=>(by cases e),fun _=>rb5,fun e=>(by cases e)⟩) (Qk dQ rfl (Qk dQ rfl (Qf dQ b 0 rfl rfl (aj ?_ (aj ?_ (aj ?_ (aj ?_ (aF))))) (fun _ _ _ _ g h=>fH (by decide) h)) (fun _ _ _ _ g h=>fH (by decide) h)) (fun _ _ _ _ g h=>fH (by decide) h)) (fun _=>rfl) rfl ?_
  ·intro ρ y W L hw hn f g hb hd;refine yM dQ (fun _ _ h=>fH (by decide) h) hb ?_;have hv:=hw 74 2 rfl;have h2:y 2=_:=hd 2 rfl;refine ak (.agg (bW H3)) (ag rfl) (bY rfl (hv.trans h2) hb.2.1 underlying44 rfl mach_size) rfl
  ·intro ρ y W L hw hn f g hb hd;refine yM dQ (fun _ _ h=>fH (by decide) h) hb ?_;have E8:ρ (.tmp 8) = .pointer (some ⟨ga,0,none⟩):=(hn (.tmp 8) rfl).trans rfl;refine ak (.agg (fT 1 0 nilV)) (ag rfl) (bY rfl E8 hb.2.2.2.1 underlying52 rfl ans_size) rfl
  ·intro ρ y W L hw hn f g hb hd;have E4:ρ (.tmp 4) = .pointer (some ⟨w.heap.size+2,0,none⟩):=(hn (.tmp 4) rfl).trans rfl;have ht:=hw 75 3 rfl;have h3:y 3=_:=hd 3 rfl;have rxW:=hb.2.2.2.2.2.1 f;exact jk (ag rfl) (ll _ _ _ rfl (w.heap.size+2) 0 _ (bW H3).toList E4 (ht.trans h3) rfl _ _ rxW (az _) mach_size (fun u hu=>by have:=eU H3;rw[←iA,cK] at this;exact this u hu)) (ET (by omega) f hb (rxW.setCells _ _) (aA _ _ _ _)) trivial
  ·intro ρ y W L hw hn f g hb hd;have E5:ρ (.tmp 5) = .pointer (some ⟨w.heap.size+3,0,none⟩):=(hn (.tmp 5) rfl).trans rfl;have hs:=hw 76 4 rfl;have h4:y 4=_:=hd 4 rfl;have rxW:=hb.2.2.2.2.2.2.2.1 f;exact jk (ag rfl) (ll _ _ _ rfl (w.heap.size+3) 0 _ (fT 1 0 nilV).toList E5 (hs.trans h4) rfl _ _ rxW (az _) ans_size (fun u hu=>by have:=hl.out;rw[←iA,cK] at this;exact this u hu)) (EX (by omega) (by have:=i.out;omega) f hb (rxW.setCells _ _) (aA _ _ _ _)) trivial
  intro y W7 z ha;clear ha;simp only[dE,bu,bF,bI];obtain⟨⟨x,_⟩,_,hj,_,hi,_,o,_,s⟩:=z;have rx8:=o rfl;have rb8:=s rfl;go_wp2;refine bodyPost_ret (v:=.tuple #[.agg (bW H3),.agg (fT 1 0 nilV)]) ?_ rfl ?_
  ·exact lX results26 _ _ (w.heap.size+2) (w.heap.size+3) _ _ _ _ _ _ rfl rfl rx8 rb8 underlying44 rfl mach_size underlying52 rfl ans_size
  unfold xA;rw[hX.out];exact⟨H3,_,rfl,x,hj,hf.out,hi⟩
 have d1:decide (c.k<1)=false:=decide_eq_false hk1
 by_cases hk2:15<c.k
 ·have hX:Hid (tT H.ma c=(H.ma,kJ 1)):=ae (by unfold tT;rw[if_pos (.inr hk2)])
  go_wp2_with (refine bz rfl _ _ _ rfl ga 0 _ [.int .i64 1] rfl rfl rfl _ _ ax4 (by show 0+1≤3;decide) errno_size (fun u hu=>by cases bN.1 hu;rfl) ?_)
  intro w5 ax5 l;have ax5:aJ w5 ga (fT 1 0 nilV) 52:=ax5;have k5:=k4.keepT ax4 (by decide) (by decide) l;have rx5:=aG rx4 ax4 (by decide) l;have rb5:=iT rb4 l (by have:=i.out;omega);have hc:=ae (m.grown l m.size (fun k hk=>by have:=i.out;cases hk;omega));have j:Own w5 w.heap.size 5 1 nilV ([]:List UInt8).length (([]:List UInt8).map oG):=Own.nil _ _ _ _;have hl:Hid ((fT 1 0 nilV).all (·.oneCell')=true):=ae (bR _ _ _ _ _);have hf:=hm;clear k4 rx4 rb4 m ax4 l c4 hh;go_upto_region 18 with (fail);clear hA;refine nX 7 [_,_,_,.v (.agg (bW H3)),.v (.agg (fT 1 0 nilV)),.r 5 ((yN fun _=>True)),.r 6 ((yN fun _=>True))] (Ko w w.heap.size b (w.heap.size+2) (w.heap.size+3) ga H3 1 0 nilV ([]:List UInt8).length (([]:List UInt8).map oG)) dQ (fun y=>⟨⟨hc.out,hc.out.size⟩,k5.blk,k5.ma,ax5,j,fun _=>rx5,fun e=>(by cases e),fun _=>rb5,fun e=>(by cases e)⟩) (Qk dQ rfl (Qk dQ rfl (Qf dQ b 0 rfl rfl (aj ?_ (aj ?_ (aj ?_ (aj ?_ (aF))))) (fun _ _ _ _ g h=>fH (by decide) h)) (fun _ _ _ _ g h=>fH (by decide) h)) (fun _ _ _ _ g h=>fH (by decide) h)) (fun _=>rfl) rfl ?_
  ·intro ρ y W L hw hn f g hb hd;refine yM dQ (fun _ _ h=>fH (by decide) h) hb ?_;have hv:=hw 74 2 rfl;have h2:y 2=_:=hd 2 rfl;refine ak (.agg (bW H3)) (ag rfl) (bY rfl (hv.trans h2) hb.2.1 underlying44 rfl mach_size) rfl
  ·intro ρ y W L hw hn f g hb hd;refine yM dQ (fun _ _ h=>fH (by decide) h) hb ?_;have E8:ρ (.tmp 8) = .pointer (some ⟨ga,0,none⟩):=(hn (.tmp 8) rfl).trans rfl;refine ak (.agg (fT 1 0 nilV)) (ag rfl) (bY rfl E8 hb.2.2.2.1 underlying52 rfl ans_size) rfl
  ·intro ρ y W L hw hn f g hb hd;have E4:ρ (.tmp 4) = .pointer (some ⟨w.heap.size+2,0,none⟩):=(hn (.tmp 4) rfl).trans rfl;have ht:=hw 75 3 rfl;have h3:y 3=_:=hd 3 rfl;have rxW:=hb.2.2.2.2.2.1 f;exact jk (ag rfl) (ll _ _ _ rfl (w.heap.size+2) 0 _ (bW H3).toList E4 (ht.trans h3) rfl _ _ rxW (az _) mach_size (fun u hu=>by have:=eU H3;rw[←iA,cK] at this;exact this u hu)) (ET (by omega) f hb (rxW.setCells _ _) (aA _ _ _ _)) trivial
  ·intro ρ y W L hw hn f g hb hd;have E5:ρ (.tmp 5) = .pointer (some ⟨w.heap.size+3,0,none⟩):=(hn (.tmp 5) rfl).trans rfl;have hs:=hw 76 4 rfl;have h4:y 4=_:=hd 4 rfl;have rxW:=hb.2.2.2.2.2.2.2.1 f;exact jk (ag rfl) (ll _ _ _ rfl (w.heap.size+3) 0 _ (fT 1 0 nilV).toList E5 (hs.trans h4) rfl _ _ rxW (az _) ans_size (fun u hu=>by have:=hl.out;rw[←iA,cK] at this;exact this u hu)) (EX (by omega) (by have:=i.out;omega) f hb (rxW.setCells _ _) (aA _ _ _ _)) trivial
  intro y W7 z ha;clear ha;simp only[dE,bu,bF,bI];obtain⟨⟨x,_⟩,_,hj,_,hi,_,o,_,s⟩:=z;have rx8:=o rfl;have rb8:=s rfl;go_wp2;refine bodyPost_ret (v:=.tuple #[.agg (bW H3),.agg (fT 1 0 nilV)]) ?_ rfl ?_
  ·exact lX results26 _ _ (w.heap.size+2) (w.heap.size+3) _ _ _ _ _ _ rfl rfl rx8 rb8 underlying44 rfl mach_size underlying52 rfl ans_size
  unfold xA;rw[hX.out];exact⟨H3,_,rfl,x,hj,hf.out,hi⟩
 have d2:decide (15<c.k)=false:=decide_eq_false hk2;have h1:¬(c.k<1∨15<c.k):=by omega
 obtain⟨Y,hQ⟩:∃Y,Hid ((if c.k≤7 then sO H3.ma c else if c.k=8 then QZ H3.ma else if c.k≤12 then WT H3.ma c else UC H3.ma c)=Y):=⟨_,ae rfl⟩;have hY:Hid (tT H.ma c=Y):=ae (by rw[←hQ.out,hm.out];unfold tT;rw[if_neg h1])
 by_cases h7:c.k≤7
 ·have hq:Hid (sO H3.ma c=Y):=ae (by rw[←hQ.out,if_pos h7]);have hp:=IX H3 c a cap (w.heap.size+1) w.heap.size b w4 k4 km.out c4 hh (fun P e1 e2 e3=>by rw[hm.out] at e2 e3 ⊢; exact ke.out P h7 e1 e2 e3);rw[hq.out] at hp;have hz:=ae hp;clear hp hh
  go_wp2_with fail
  refine hz.out.mono ?_;rintro r w5 ⟨d,rfl,j,l,H5,k5,hf⟩;obtain⟨ad,cd,rfl,_⟩:=j.rd;have hf:=ae hf;have ax5:=ax4.grown l (fun e=>by have:=i.out;cases e;omega);have rx5:=rx4.grown l (fun e=>by have:=i.out;cases e;omega);have rb5:=rb4.grown l (fun e=>by have:=i.out;cases e;omega);have hg:=m.grown l m.size (fun k hk=>by have:=i.out;cases hk;omega);have j:=j.mono m.size;clear k4 ax4 l rx4 rb4 c4
  go_wp2_with (refine ax rfl _ _ _ rfl ga (fT Y.2.e Y.2.n (.slice ad Y.2.da.length cd)) rfl rfl _ _ ax5 rfl ans_size (bR _ _ _ _ _) ?_)
  intro w6 ax6 t;have k6:=k5.keepT ax5 (by decide) (by decide) t;have rx6:=aG rx5 ax5 (by decide) t;have rb6:=iT rb5 t (by have:=i.out;omega);have hy:=ay j ax5 (by decide) t;have hB:=ae (hg.grown t hg.size (fun k hk=>by have:=i.out;cases hk;omega));clear k5 rx5 rb5 j hg ax5 t;have k5:=k6;have rx5:=rx6;have rb5:=rb6;have j:=hy;have hc:=hB;have ax5:=ax6;clear k6 rx6 rb6 hy hB ax6;have hl:Hid ((fT Y.2.e Y.2.n (.slice ad Y.2.da.length cd)).all (·.oneCell')=true):=ae (bR _ _ _ _ _);have hX:Hid (tT H.ma c=(Y.1,⟨Y.2.e,Y.2.n,Y.2.da⟩)):=hY;go_upto_region 18 with (fail);clear hA;refine nX 7 [_,_,_,.v (.agg (bW H5)),.v (.agg (fT Y.2.e Y.2.n (.slice ad Y.2.da.length cd))),.r 5 ((yN fun _=>True)),.r 6 ((yN fun _=>True))] (Ko w w.heap.size b (w.heap.size+2) (w.heap.size+3) ga H5 Y.2.e Y.2.n (.slice ad Y.2.da.length cd) Y.2.da.length (Y.2.da.map oG)) dQ (fun y=>⟨⟨hc.out,hc.out.size⟩,k5.blk,k5.ma,ax5,j,fun _=>rx5,fun e=>(by cases e),fun _=>rb5,fun e=>(by cases e)⟩) (Qk dQ rfl (Qk dQ rfl (Qf dQ b 0 rfl rfl (aj ?_ (aj ?_ (aj ?_ (aj ?_ (aF))))) (fun _ _ _ _ g h=>fH (by decide) h)) (fun _ _ _ _ g h=>fH (by decide) h)) (fun _ _ _ _ g h=>fH (by decide) h)) (fun _=>rfl) rfl ?_
  ·intro ρ y W L hw hn f g hb hd;refine yM dQ (fun _ _ h=>fH (by decide) h) hb ?_;have hv:=hw 74 2 rfl;have h2:y 2=_:=hd 2 rfl;refine ak (.agg (bW H5)) (ag rfl) (bY rfl (hv.trans h2) hb.2.1 underlying44 rfl mach_size) rfl
  ·intro ρ y W L hw hn f g hb hd;refine yM dQ (fun _ _ h=>fH (by decide) h) hb ?_;have E8:ρ (.tmp 8) = .pointer (some ⟨ga,0,none⟩):=(hn (.tmp 8) rfl).trans rfl;refine ak (.agg (fT Y.2.e Y.2.n (.slice ad Y.2.da.length cd))) (ag rfl) (bY rfl E8 hb.2.2.2.1 underlying52 rfl ans_size) rfl
  ·intro ρ y W L hw hn f g hb hd;have E4:ρ (.tmp 4) = .pointer (some ⟨w.heap.size+2,0,none⟩):=(hn (.tmp 4) rfl).trans rfl;have ht:=hw 75 3 rfl;have h3:y 3=_:=hd 3 rfl;have rxW:=hb.2.2.2.2.2.1 f;exact jk (ag rfl) (ll _ _ _ rfl (w.heap.size+2) 0 _ (bW H5).toList E4 (ht.trans h3) rfl _ _ rxW (az _) mach_size (fun u hu=>by have:=eU H5;rw[←iA,cK] at this;exact this u hu)) (ET (by omega) f hb (rxW.setCells _ _) (aA _ _ _ _)) trivial
  ·intro ρ y W L hw hn f g hb hd;have E5:ρ (.tmp 5) = .pointer (some ⟨w.heap.size+3,0,none⟩):=(hn (.tmp 5) rfl).trans rfl;have hs:=hw 76 4 rfl;have h4:y 4=_:=hd 4 rfl;have rxW:=hb.2.2.2.2.2.2.2.1 f;exact jk (ag rfl) (ll _ _ _ rfl (w.heap.size+3) 0 _ (fT Y.2.e Y.2.n (.slice ad Y.2.da.length cd)).toList E5 (hs.trans h4) rfl _ _ rxW (az _) ans_size (fun u hu=>by have:=hl.out;rw[←iA,cK] at this;exact this u hu)) (EX (by omega) (by have:=i.out;omega) f hb (rxW.setCells _ _) (aA _ _ _ _)) trivial
  intro y W7 z ha;clear ha;simp only[dE,bu,bF,bI];obtain⟨⟨x,_⟩,_,hj,_,hi,_,o,_,s⟩:=z;have rx8:=o rfl;have rb8:=s rfl;go_wp2;refine bodyPost_ret (v:=.tuple #[.agg (bW H5),.agg (fT Y.2.e Y.2.n (.slice ad Y.2.da.length cd))]) ?_ rfl ?_
  ·exact lX results26 _ _ (w.heap.size+2) (w.heap.size+3) _ _ _ _ _ _ rfl rfl rx8 rb8 underlying44 rfl mach_size underlying52 rfl ans_size
  unfold xA;rw[hX.out];exact⟨H5,_,rfl,x,hj,hf.out,hi⟩
 by_cases h8:c.k=8
 ·have hq:Hid (QZ H3.ma=Y):=ae (by rw[←hQ.out,if_neg h7,if_pos h8]);have hM:Hid (bJ H3.fi H3.ct=H3.ma.st):=ae rfl;go_upto_region 12 with (fail)
  go_wp2_with (refine aC _ _ rfl b 7 rfl rfl _ (cz k4.blk 7 2) _ underlying40 rfl store_size ?_)
  refine (Ia H3.fi H3.ct H3.ai H3.ci _ k4.ma.rd.st k4.ma.c64).mono ?_;rintro r w5 ⟨v5,qs,ct5,rfl,hR,hS,hJ⟩;obtain⟨a5,c5,rfl,_⟩:=hR.rd;have hC:=ae hS;have k5:=k4.below hJ;have ax5:=ax4.ext hJ;have rx5:=rx4.ext hJ;have rb5:=rb4.ext hJ;have hW:=ah m hJ;have hR:=hR.mono m.size;clear k4 ax4 rx4 rb4 m hJ hS hh c4
  go_wp2_with (refine aT rfl _ _ _ rfl #[.slice a5 qs.length c5,.int .i64 ct5] rfl rfl rfl store_size (mE _ _ _ _) ?_)
  intro w6 hF sx6;have k6:=k5.below hF;have ax6:=ax5.ext hF;have rx6:=rx5.ext hF;have rb6:=rb5.ext hF;have hx:=ah hW hF;have h5:=hR.below hF;have kl:Hid (ga<w5.heap.size):=ae ax5.lt;clear k5 ax5 rx5 rb5 hW hR hF;generalize w5.heap.size=gs at sx6 kl
  by_cases hE:lh H3.ma.st=0
  ·have hI:=hE;rw[←hM.out] at hI;have hX:Hid (tT H.ma c=({ H3.ma with st:=oD H3.ma.st },⟨0,jI (bJ H3.fi H3.ct),[]⟩)):=ae (by rw[hY.out,←hq.out];unfold QZ;rw[if_pos hE];rfl);have hct:Hid (ct5=H3.ct):=ae (by have:=congrArg St.count hC.out;unfold oD at this;rw[if_pos hI] at this;exact this);rw[hI]
   go_wp2_with (first | (refine aC _ _ rfl gs 0 rfl rfl #[.slice a5 qs.length c5,.int .i64 ct5].toList sx6.rd _ underlying40 rfl store_size ?_) | (refine gy rfl _ _ _ rfl b 7 #[.slice a5 qs.length c5,.int .i64 ct5] rfl rfl _ _ k6.blk (by show 7+2≤11;decide) store_size (mE _ _ _ _) ?_))
   intro w7 kx7 hD;have M7:=k6.ma.keep k6.blk (by decide) hD;have kh:=h5.keep k6.blk (by decide) (by decide) hD;have k7:oN w7 w.heap.size b { H3 with ai:=a5,ci:=c5,fi:=qs,ct:=ct5 }:=⟨kx7,k6.ge,⟨M7.fr,M7.sl,M7.sw,M7.dk,kh,M7.ca,M7.sp,M7.ps,by rw[hct.out];exact M7.c64⟩⟩;have ax7:=aG ax6 k6.blk (by decide) hD;have rx7:=aG rx6 k6.blk (by decide) hD;have rb7:=aG rb6 k6.blk (by decide) hD;have ka:=hx.grown hD hx.size (fun k hk=>by have:=i.out;cases hk;omega);have kk:Hid (MH.ma { H3 with ai:=a5,ci:=c5,fi:=qs,ct:=ct5 } = { H3.ma with st:=oD H3.ma.st }):=ae (by have e:bJ qs ct5=oD H3.ma.st:=hC.out;rw[←e];rfl);clear k6 kx7 M7 kh h5 ax6 rx6 rb6 hx hD sx6 hC;generalize ({ H3 with ai:=a5,ci:=c5,fi:=qs,ct:=ct5 }:MH)=H5 at *
   go_wp2_with (refine bz rfl _ _ _ rfl ga 1 _ [.int .i64 (jI (bJ H3.fi H3.ct))] rfl rfl rfl _ _ ax7 (by show 1+1≤3;decide) int_size (fun u hu=>by cases bN.1 hu;rfl) ?_)
   intro w8 ax8 hN;have ax8:aJ w8 ga (fT 0 (jI (bJ H3.fi H3.ct)) nilV) 52:=ax8;have k8:=k7.keepT ax7 (by decide) (by decide) hN;have rx8:=aG rx7 ax7 (by decide) hN;have rb8:=iT rb7 hN (by have:=i.out;omega);have h9:=ka.grown hN ka.size (fun k hk=>by have:=i.out;cases hk;omega);clear k7 rx7 rb7 ka ax7 hN
   go_wp2_with (refine bz rfl _ _ _ rfl ga 0 _ [.int .i64 0] rfl rfl rfl _ _ ax8 (by show 0+1≤3;decide) errno_size (fun u hu=>by cases bN.1 hu;rfl) ?_)
   intro w9 ax9 hr;have ax5:aJ w9 ga (fT 0 (jI (bJ H3.fi H3.ct)) nilV) 52:=ax9;have k5:=k8.keepT ax8 (by decide) (by decide) hr;have rx5:=aG rx8 ax8 (by decide) hr;have rb5:=iT rb8 hr (by have:=i.out;omega);have hc:=ae (h9.grown hr h9.size (fun k hk=>by have:=i.out;cases hk;omega));clear k8 rx8 rb8 h9 ax8 hr ax9;have j:Own w9 w.heap.size 5 1 nilV ([]:List UInt8).length (([]:List UInt8).map oG):=Own.nil _ _ _ _;have hl:Hid ((fT 0 (jI (bJ H3.fi H3.ct)) nilV).all (·.oneCell')=true):=ae (bR _ _ _ _ _);have hf:=kk;go_upto_region 18 with (fail);clear hA;refine nX 7 [_,_,_,.v (.agg (bW H5)),.v (.agg (fT 0 (jI (bJ H3.fi H3.ct)) nilV)),.r 5 ((yN fun _=>True)),.r 6 ((yN fun _=>True))] (Ko w w.heap.size b (w.heap.size+2) (w.heap.size+3) ga H5 0 (jI (bJ H3.fi H3.ct)) nilV ([]:List UInt8).length (([]:List UInt8).map oG)) dQ (fun y=>⟨⟨hc.out,hc.out.size⟩,k5.blk,k5.ma,ax5,j,fun _=>rx5,fun e=>(by cases e),fun _=>rb5,fun e=>(by cases e)⟩) (Qk dQ rfl (Qk dQ rfl (Qf dQ b 0 rfl rfl (aj ?_ (aj ?_ (aj ?_ (aj ?_ (aF))))) (fun _ _ _ _ g h=>fH (by decide) h)) (fun _ _ _ _ g h=>fH (by decide) h)) (fun _ _ _ _ g h=>fH (by decide) h)) (fun _=>rfl) rfl ?_
   ·intro ρ y W L hw hn f g hb hd;refine yM dQ (fun _ _ h=>fH (by decide) h) hb ?_;have hv:=hw 74 2 rfl;have h2:y 2=_:=hd 2 rfl;refine ak (.agg (bW H5)) (ag rfl) (bY rfl (hv.trans h2) hb.2.1 underlying44 rfl mach_size) rfl
   ·intro ρ y W L hw hn f g hb hd;refine yM dQ (fun _ _ h=>fH (by decide) h) hb ?_;have E8:ρ (.tmp 8) = .pointer (some ⟨ga,0,none⟩):=(hn (.tmp 8) rfl).trans rfl;refine ak (.agg (fT 0 (jI (bJ H3.fi H3.ct)) nilV)) (ag rfl) (bY rfl E8 hb.2.2.2.1 underlying52 rfl ans_size) rfl
   ·intro ρ y W L hw hn f g hb hd;have E4:ρ (.tmp 4) = .pointer (some ⟨w.heap.size+2,0,none⟩):=(hn (.tmp 4) rfl).trans rfl;have ht:=hw 75 3 rfl;have h3:y 3=_:=hd 3 rfl;have rxW:=hb.2.2.2.2.2.1 f;exact jk (ag rfl) (ll _ _ _ rfl (w.heap.size+2) 0 _ (bW H5).toList E4 (ht.trans h3) rfl _ _ rxW (az _) mach_size (fun u hu=>by have:=eU H5;rw[←iA,cK] at this;exact this u hu)) (ET (by omega) f hb (rxW.setCells _ _) (aA _ _ _ _)) trivial
   ·intro ρ y W L hw hn f g hb hd;have E5:ρ (.tmp 5) = .pointer (some ⟨w.heap.size+3,0,none⟩):=(hn (.tmp 5) rfl).trans rfl;have hs:=hw 76 4 rfl;have h4:y 4=_:=hd 4 rfl;have rxW:=hb.2.2.2.2.2.2.2.1 f;exact jk (ag rfl) (ll _ _ _ rfl (w.heap.size+3) 0 _ (fT 0 (jI (bJ H3.fi H3.ct)) nilV).toList E5 (hs.trans h4) rfl _ _ rxW (az _) ans_size (fun u hu=>by have:=hl.out;rw[←iA,cK] at this;exact this u hu)) (EX (by omega) (by have:=i.out;omega) f hb (rxW.setCells _ _) (aA _ _ _ _)) trivial
   intro y W7 z ha;clear ha;simp only[dE,bu,bF,bI];obtain⟨⟨x,_⟩,_,hj,_,hi,_,o,_,s⟩:=z;have rx8:=o rfl;have rb8:=s rfl;go_wp2;refine bodyPost_ret (v:=.tuple #[.agg (bW H5),.agg (fT 0 (jI (bJ H3.fi H3.ct)) nilV)]) ?_ rfl ?_
   ·exact lX results26 _ _ (w.heap.size+2) (w.heap.size+3) _ _ _ _ _ _ rfl rfl rx8 rb8 underlying44 rfl mach_size underlying52 rfl ans_size
   unfold xA;rw[hX.out];exact⟨H5,_,rfl,x,hj,hf.out,hi⟩
  have hI:=hE;rw[←hM.out] at hI;obtain⟨E,ki⟩:∃E,Hid (lh (bJ H3.fi H3.ct)=E):=⟨_,ae rfl⟩;have hX:Hid (tT H.ma c=(H.ma,⟨E,0,[]⟩)):=ae (by rw[hY.out,←hq.out];unfold QZ;rw[if_neg hE,←hM.out,ki.out,hm.out];rfl);rw[ki.out] at hI ⊢;have ko:(E==0)=false:=by simpa using hI
  go_wp2_with (refine bz rfl _ _ _ rfl ga 0 _ [.int .i64 E] rfl rfl rfl _ _ ax6 (by show 0+1≤3;decide) errno_size (fun u hu=>by cases bN.1 hu;rfl) ?_)
  intro w9 ax9 hr;have ax5:aJ w9 ga (fT E 0 nilV) 52:=ax9;have k5:=k6.keepT ax6 (by decide) (by decide) hr;have rx5:=aG rx6 ax6 (by decide) hr;have rb5:=iT rb6 hr (by have:=i.out;omega);have hc:=ae (hx.grown hr hx.size (fun k hk=>by have:=i.out;cases hk;omega));clear k6 rx6 rb6 hx ax6 hr ax9 h5 sx6;have j:Own w9 w.heap.size 5 1 nilV ([]:List UInt8).length (([]:List UInt8).map oG):=Own.nil _ _ _ _;have hl:Hid ((fT E 0 nilV).all (·.oneCell')=true):=ae (bR _ _ _ _ _);have hf:=hm;go_upto_region 18 with (fail);clear hA;refine nX 7 [_,_,_,.v (.agg (bW H3)),.v (.agg (fT E 0 nilV)),.r 5 ((yN fun _=>True)),.r 6 ((yN fun _=>True))] (Ko w w.heap.size b (w.heap.size+2) (w.heap.size+3) ga H3 E 0 nilV ([]:List UInt8).length (([]:List UInt8).map oG)) dQ (fun y=>⟨⟨hc.out,hc.out.size⟩,k5.blk,k5.ma,ax5,j,fun _=>rx5,fun e=>(by cases e),fun _=>rb5,fun e=>(by cases e)⟩) (Qk dQ rfl (Qk dQ rfl (Qf dQ b 0 rfl rfl (aj ?_ (aj ?_ (aj ?_ (aj ?_ (aF))))) (fun _ _ _ _ g h=>fH (by decide) h)) (fun _ _ _ _ g h=>fH (by decide) h)) (fun _ _ _ _ g h=>fH (by decide) h)) (fun _=>rfl) rfl ?_
  ·intro ρ y W L hw hn f g hb hd;refine yM dQ (fun _ _ h=>fH (by decide) h) hb ?_;have hv:=hw 74 2 rfl;have h2:y 2=_:=hd 2 rfl;refine ak (.agg (bW H3)) (ag rfl) (bY rfl (hv.trans h2) hb.2.1 underlying44 rfl mach_size) rfl
  ·intro ρ y W L hw hn f g hb hd;refine yM dQ (fun _ _ h=>fH (by decide) h) hb ?_;have E8:ρ (.tmp 8) = .pointer (some ⟨ga,0,none⟩):=(hn (.tmp 8) rfl).trans rfl;refine ak (.agg (fT E 0 nilV)) (ag rfl) (bY rfl E8 hb.2.2.2.1 underlying52 rfl ans_size) rfl
  ·intro ρ y W L hw hn f g hb hd;have E4:ρ (.tmp 4) = .pointer (some ⟨w.heap.size+2,0,none⟩):=(hn (.tmp 4) rfl).trans rfl;have ht:=hw 75 3 rfl;have h3:y 3=_:=hd 3 rfl;have rxW:=hb.2.2.2.2.2.1 f;exact jk (ag rfl) (ll _ _ _ rfl (w.heap.size+2) 0 _ (bW H3).toList E4 (ht.trans h3) rfl _ _ rxW (az _) mach_size (fun u hu=>by have:=eU H3;rw[←iA,cK] at this;exact this u hu)) (ET (by omega) f hb (rxW.setCells _ _) (aA _ _ _ _)) trivial
  ·intro ρ y W L hw hn f g hb hd;have E5:ρ (.tmp 5) = .pointer (some ⟨w.heap.size+3,0,none⟩):=(hn (.tmp 5) rfl).trans rfl;have hs:=hw 76 4 rfl;have h4:y 4=_:=hd 4 rfl;have rxW:=hb.2.2.2.2.2.2.2.1 f;exact jk (ag rfl) (ll _ _ _ rfl (w.heap.size+3) 0 _ (fT E 0 nilV).toList E5 (hs.trans h4) rfl _ _ rxW (az _) ans_size (fun u hu=>by have:=hl.out;rw[←iA,cK] at this;exact this u hu)) (EX (by omega) (by have:=i.out;omega) f hb (rxW.setCells _ _) (aA _ _ _ _)) trivial
  intro y W7 z ha;clear ha;simp only[dE,bu,bF,bI];obtain⟨⟨x,_⟩,_,hj,_,hi,_,o,_,s⟩:=z;have rx8:=o rfl;have rb8:=s rfl;go_wp2;refine bodyPost_ret (v:=.tuple #[.agg (bW H3),.agg (fT E 0 nilV)]) ?_ rfl ?_
  ·exact lX results26 _ _ (w.heap.size+2) (w.heap.size+3) _ _ _ _ _ _ rfl rfl rx8 rb8 underlying44 rfl mach_size underlying52 rfl ans_size
  unfold xA;rw[hX.out];exact⟨H3,_,rfl,x,hj,hf.out,hi⟩
 have d8:(c.k==8)=false:=by simpa using h8
 by_cases h12:c.k≤12
 case' pos=>
  have hq:Hid (WT H.ma c=Y):=ae (by rw[←hQ.out,if_neg h7,if_neg h8,if_pos h12,hm.out]);have hp:=kg.out (by omega) h12 H3 (w.heap.size+1) w.heap.size b w4 hm.out k4 c4 hh;rw[hq.out] at hp;have hz:=ae hp;clear hp hh
  go_wp2_with fail
  refine hz.out.mono ?_;rintro r w5 ⟨d,rfl,j,l,H5,k5,hf⟩;obtain⟨ad,cd,rfl,_⟩:=j.rd;have hf:=ae hf;have ax5:=ax4.grown l (fun e=>by have:=i.out;cases e;omega);have rx5:=rx4.grown l (fun e=>by have:=i.out;cases e;omega);have rb5:=rb4.grown l (fun e=>by have:=i.out;cases e;omega);have hg:=m.grown l m.size (fun k hk=>by have:=i.out;cases hk;omega);have j:=j.mono m.size;clear k4 ax4 l rx4 rb4 c4
  go_wp2_with (refine ax rfl _ _ _ rfl ga (fT Y.2.e Y.2.n (.slice ad Y.2.da.length cd)) rfl rfl _ _ ax5 rfl ans_size (bR _ _ _ _ _) ?_)
  intro w6 ax6 t;have k6:=k5.keepT ax5 (by decide) (by decide) t;have rx6:=aG rx5 ax5 (by decide) t;have rb6:=iT rb5 t (by have:=i.out;omega);have hy:=ay j ax5 (by decide) t;have hB:=ae (hg.grown t hg.size (fun k hk=>by have:=i.out;cases hk;omega));clear k5 rx5 rb5 j hg ax5 t;have k5:=k6;have rx5:=rx6;have rb5:=rb6;have j:=hy;have hc:=hB;have ax5:=ax6;clear k6 rx6 rb6 hy hB ax6;have hl:Hid ((fT Y.2.e Y.2.n (.slice ad Y.2.da.length cd)).all (·.oneCell')=true):=ae (bR _ _ _ _ _);have hX:Hid (tT H.ma c=(Y.1,⟨Y.2.e,Y.2.n,Y.2.da⟩)):=hY;go_upto_region 18 with (fail);clear hA;refine nX 7 [_,_,_,.v (.agg (bW H5)),.v (.agg (fT Y.2.e Y.2.n (.slice ad Y.2.da.length cd))),.r 5 ((yN fun _=>True)),.r 6 ((yN fun _=>True))] (Ko w w.heap.size b (w.heap.size+2) (w.heap.size+3) ga H5 Y.2.e Y.2.n (.slice ad Y.2.da.length cd) Y.2.da.length (Y.2.da.map oG)) dQ (fun y=>⟨⟨hc.out,hc.out.size⟩,k5.blk,k5.ma,ax5,j,fun _=>rx5,fun e=>(by cases e),fun _=>rb5,fun e=>(by cases e)⟩) (Qk dQ rfl (Qk dQ rfl (Qf dQ b 0 rfl rfl (aj ?u1_1 (aj ?u1_2 (aj ?u1_3 (aj ?u1_4 (aF))))) (fun _ _ _ _ g h=>fH (by decide) h)) (fun _ _ _ _ g h=>fH (by decide) h)) (fun _ _ _ _ g h=>fH (by decide) h)) (fun _=>rfl) rfl ?u1_5
 case' neg=>
  have hq:Hid (UC H.ma c=Y):=ae (by rw[←hQ.out,if_neg h7,if_neg h8,if_neg h12,hm.out]);have hp:=kf.out (by omega) H3 (w.heap.size+1) w.heap.size b w4 hm.out k4 c4 hh;rw[hq.out] at hp;have hz:=ae hp;clear hp hh
  go_wp2_with fail
  refine hz.out.mono ?_;rintro r w5 ⟨d,rfl,j,l,H5,k5,hf⟩;obtain⟨ad,cd,rfl,_⟩:=j.rd;have hf:=ae hf;have ax5:=ax4.grown l (fun e=>by have:=i.out;cases e;omega);have rx5:=rx4.grown l (fun e=>by have:=i.out;cases e;omega);have rb5:=rb4.grown l (fun e=>by have:=i.out;cases e;omega);have hg:=m.grown l m.size (fun k hk=>by have:=i.out;cases hk;omega);have j:=j.mono m.size;clear k4 ax4 l rx4 rb4 c4
  go_wp2_with (refine ax rfl _ _ _ rfl ga (fT Y.2.e Y.2.n (.slice ad Y.2.da.length cd)) rfl rfl _ _ ax5 rfl ans_size (bR _ _ _ _ _) ?_)
  intro w6 ax6 t;have k6:=k5.keepT ax5 (by decide) (by decide) t;have rx6:=aG rx5 ax5 (by decide) t;have rb6:=iT rb5 t (by have:=i.out;omega);have hy:=ay j ax5 (by decide) t;have hB:=ae (hg.grown t hg.size (fun k hk=>by have:=i.out;cases hk;omega));clear k5 rx5 rb5 j hg ax5 t;have k5:=k6;have rx5:=rx6;have rb5:=rb6;have j:=hy;have hc:=hB;have ax5:=ax6;clear k6 rx6 rb6 hy hB ax6;have hl:Hid ((fT Y.2.e Y.2.n (.slice ad Y.2.da.length cd)).all (·.oneCell')=true):=ae (bR _ _ _ _ _);have hX:Hid (tT H.ma c=(Y.1,⟨Y.2.e,Y.2.n,Y.2.da⟩)):=hY;go_upto_region 18 with (fail);clear hA;refine nX 7 [_,_,_,.v (.agg (bW H5)),.v (.agg (fT Y.2.e Y.2.n (.slice ad Y.2.da.length cd))),.r 5 ((yN fun _=>True)),.r 6 ((yN fun _=>True))] (Ko w w.heap.size b (w.heap.size+2) (w.heap.size+3) ga H5 Y.2.e Y.2.n (.slice ad Y.2.da.length cd) Y.2.da.length (Y.2.da.map oG)) dQ (fun y=>⟨⟨hc.out,hc.out.size⟩,k5.blk,k5.ma,ax5,j,fun _=>rx5,fun e=>(by cases e),fun _=>rb5,fun e=>(by cases e)⟩) (Qk dQ rfl (Qk dQ rfl (Qf dQ b 0 rfl rfl (aj ?v1_1 (aj ?v1_2 (aj ?v1_3 (aj ?v1_4 (aF))))) (fun _ _ _ _ g h=>fH (by decide) h)) (fun _ _ _ _ g h=>fH (by decide) h)) (fun _ _ _ _ g h=>fH (by decide) h)) (fun _=>rfl) rfl ?v1_5
 case u1_1|v1_1=>
  intro ρ y W L hw hn f g hb hd;refine yM dQ (fun _ _ h=>fH (by decide) h) hb ?_;have hv:=hw 74 2 rfl;have h2:y 2=_:=hd 2 rfl;refine ak (.agg (bW H5)) (ag rfl) (bY rfl (hv.trans h2) hb.2.1 underlying44 rfl mach_size) rfl
 case u1_2|v1_2=>
  intro ρ y W L hw hn f g hb hd;refine yM dQ (fun _ _ h=>fH (by decide) h) hb ?_;have E8:ρ (.tmp 8) = .pointer (some ⟨ga,0,none⟩):=(hn (.tmp 8) rfl).trans rfl;refine ak (.agg (fT Y.2.e Y.2.n (.slice ad Y.2.da.length cd))) (ag rfl) (bY rfl E8 hb.2.2.2.1 underlying52 rfl ans_size) rfl
 case u1_3|v1_3=>
  intro ρ y W L hw hn f g hb hd;have E4:ρ (.tmp 4) = .pointer (some ⟨w.heap.size+2,0,none⟩):=(hn (.tmp 4) rfl).trans rfl;have ht:=hw 75 3 rfl;have h3:y 3=_:=hd 3 rfl;have rxW:=hb.2.2.2.2.2.1 f;exact jk (ag rfl) (ll _ _ _ rfl (w.heap.size+2) 0 _ (bW H5).toList E4 (ht.trans h3) rfl _ _ rxW (az _) mach_size (fun u hu=>by have:=eU H5;rw[←iA,cK] at this;exact this u hu)) (ET (by omega) f hb (rxW.setCells _ _) (aA _ _ _ _)) trivial
 case u1_4|v1_4=>
  intro ρ y W L hw hn f g hb hd;have E5:ρ (.tmp 5) = .pointer (some ⟨w.heap.size+3,0,none⟩):=(hn (.tmp 5) rfl).trans rfl;have hs:=hw 76 4 rfl;have h4:y 4=_:=hd 4 rfl;have rxW:=hb.2.2.2.2.2.2.2.1 f;exact jk (ag rfl) (ll _ _ _ rfl (w.heap.size+3) 0 _ (fT Y.2.e Y.2.n (.slice ad Y.2.da.length cd)).toList E5 (hs.trans h4) rfl _ _ rxW (az _) ans_size (fun u hu=>by have:=hl.out;rw[←iA,cK] at this;exact this u hu)) (EX (by omega) (by have:=i.out;omega) f hb (rxW.setCells _ _) (aA _ _ _ _)) trivial
 case u1_5=>
  intro y W7 z ha;clear ha;simp only[dE,bu,bF,bI];obtain⟨⟨x,_⟩,_,hj,_,hi,_,o,_,s⟩:=z;have rx8:=o rfl;have rb8:=s rfl;go_wp2;refine bodyPost_ret (v:=.tuple #[.agg (bW H5),.agg (fT Y.2.e Y.2.n (.slice ad Y.2.da.length cd))]) ?_ rfl ?_
  ·exact lX results26 _ _ (w.heap.size+2) (w.heap.size+3) _ _ _ _ _ _ rfl rfl rx8 rb8 underlying44 rfl mach_size underlying52 rfl ans_size
  unfold xA;rw[hX.out];exact⟨H5,_,rfl,x,hj,hf.out,hi⟩
 case v1_5=>
  intro y W7 z ha;clear ha;simp only[dE,bu,bF,bI];obtain⟨⟨x,_⟩,_,hj,_,hi,_,o,_,s⟩:=z;have rx8:=o rfl;have rb8:=s rfl;go_wp2;refine bodyPost_ret (v:=.tuple #[.agg (bW H5),.agg (fT Y.2.e Y.2.n (.slice ad Y.2.da.length cd))]) ?_ rfl ?_
  ·exact lX results26 _ _ (w.heap.size+2) (w.heap.size+3) _ _ _ _ _ _ rfl rfl rx8 rb8 underlying44 rfl mach_size underlying52 rfl ans_size
  unfold xA;rw[hX.out];exact⟨H5,_,rfl,x,hj,hf.out,hi⟩
structure Cr where
 c:Cl
 a:Option Addr
 cap:Nat
def UO (x:Cr):List Value:=(mM x.c x.a x.cap).toList
theorem UF (x:Cr):(UO x).length=10:=rfl
structure vU (w:World) (x:Cr):Prop where
 rd:eB w x.a (x.c.da.map oG)
 le:x.c.da.length≤x.cap
 mx:x.cap≤maxLen
 nl:x.a=none→x.cap=0
 b64:uh x.c.a∧uh x.c.n
theorem vU.below {x:Cr} (h:vU w x) (hb:Below w.heap.size w w'):vU w' x:=⟨h.rd.below hb,h.le,h.mx,h.nl,h.b64⟩
structure sU (w:World) (B:Nat) (v:Value) (al:List (An × Value)):Prop where
 own:Own w B 52 3 v al.length (al.flatMap fun x=>(fT x.1.e x.1.n x.2).toList)
 each:∀x∈al,Own w B 5 1 x.2 x.1.da.length (x.1.da.map oG)
theorem sU.below {al:List (An × Value)} (h:sU w B v al) (hb:Below w.heap.size w w'):sU w' B v al:=⟨h.own.below hb,fun x hx=>(h.each x hx).below hb⟩
theorem sU.mono {al:List (An × Value)} (h:sU w B v al) (hB:B'≤B):sU w B' v al:=⟨h.own.mono hB,fun x hx=>(h.each x hx).mono hB⟩
def runC:Ma→List Cl→Ma × List An
 | m,[]=>(m,[])
 | m,c::l=>((runC (tT m c).1 l).1,(tT m c).2::(runC (tT m c).1 l).2)
theorem JL : ∀(l:List Cl) (m:Ma) (c:Cl),runC m (l++[c])=((tT (runC m l).1 c).1,(runC m l).2++[(tT (runC m l).1 c).2])
 | [],m,c=>rfl
 | d::l,m,c=>by rw[BZ];unfold runC;rw[JL l];simp
theorem run_ok:∀(l:List Cl) {m:Ma},rT m→(∀c∈l,∀m,rT m→rT (tT m c).1)→rT (runC m l).1
 | [],m,h,_=>h
 | c::l,m,h,hk=>run_ok l (hk c (by simp) m h) fun d hd=>hk d (by simp[hd])
theorem MU {al:List (An × Value)} (ho:sU w B v al) (hg:w.grownBy w' v.ownBlock) :
  w.grownBy w' none∨∃g cs,aJ w g cs 52∧B≤g∧w.grownBy w' (some g):=by
 cases hr:v.ownBlock with
 | none=>rw[hr] at hg;exact .inl hg
 | some g=>
  rw[hr] at hg;obtain⟨cs,hb⟩:=rO ho.own g hr;exact .inr ⟨g,cs,hb,ho.own.ge g hr,hg⟩
theorem jq {m:Nat} {al:List (An × Value)} (ho:sU w B v al) (hg:w.grownBy w' v.ownBlock) (h:Own w B' T sz u m ys) (hT:T≠52):Own w' B' T sz u m ys:=by
 rcases MU ho hg with h1|⟨g,cs,hb,_,h1⟩
 ·exact jr h h1
 ·exact ay h hb (fun e=>hT e.symm) h1
theorem Jj {al:List (An × Value)} (ho:sU w B v al) (hg:w.grownBy w' v.ownBlock) (h:aJ w b cs T) (hT:T≠52):aJ w' b cs T:=by
 rcases MU ho hg with h1|⟨g,cs',hb,_,h1⟩
 ·exact h.grown h1 (fun e=>by cases e)
 ·exact h.grown h1 (fun e=>vw h hb hT (aS e).symm)
theorem RS {al:List (An × Value)} (ho:sU w B v al) (hg:w.grownBy w' v.ownBlock) (h:qc w B' H):qc w' B' H:=
 ⟨jq ho hg h.fr (by decide),jq ho hg h.sl (by decide),⟨jq ho hg h.sw.b (by decide),jq ho hg h.sw.q (by decide)⟩,⟨jq ho hg h.dk.b (by decide),jq ho hg h.dk.q (by decide)⟩,
  ⟨jq ho hg h.st.own (by decide),fun i p hp=>jq ho hg (h.st.each i p hp) (by decide),h.st.apart⟩,jq ho hg h.ca (by decide),jq ho hg h.sp (by decide),fun p hp=>⟨jq ho hg (h.ps p hp).1 (by decide),⟨(h.ps p hp).2.sz,fun k hk=>by obtain⟨u,h1,h2⟩:=(h.ps p hp).2.own k hk;exact⟨u,h1,jq ho hg h2 (by decide)⟩,(h.ps p hp).2.apart⟩⟩,h.c64⟩
theorem ans_info:(Tryz.prog.info? 52).map (fun i=>(i.zero,i.size,i.bytes))=some (some (.agg #[.int .i64 0,.int .i64 0,.slice none 0 0]),3,40):=by kernel_rfl
theorem cfg_size3:(Tryz.prog.info? 50).map (·.size)=some 3:=by kernel_rfl
theorem call_size:(Tryz.prog.info? 25).map (·.size)=some 10:=by kernel_rfl
theorem wO (c:Cl) (a:Option Addr) (cap:Nat):(mM c a cap).all (·.oneCell')=true:=by simp[mM,Value.oneCell']
theorem MN {f s b:Int} (h:(0≤f∧f≤40)∧(0≤s∧s≤60)∧0≤b∧b≤80):rT (iW f s b):=by
 have hi:=KW h;have hR:Rt (iW f s b):=by obtain⟨F,rfl⟩:∃F:Nat,f=F:=⟨f.toNat,by omega⟩;obtain⟨S,rfl⟩:∃S:Nat,s=S:=⟨s.toNat,by omega⟩;obtain⟨B,rfl⟩:∃B:Nat,b=B:=⟨b.toNat,by omega⟩;exact VP (by omega) (by omega) (by omega)
 have j:(iW f s b).ca=[]:=by rw[hi]
 refine⟨hR,⟨fun c hc=>(by rw[j] at hc;cases hc),fun c hc=>(by rw[j] at hc;cases hc),fun i hl hd => ?_⟩,fun p n g hg => ?_⟩
 ·exfalso;rw[hi] at hd hl;have h2:vD f=⟨List.replicate f.toNat frZ,0⟩:=by unfold vD;rw[if_pos h.1]
  have a : i<(vD f).fs.length:=hl;have e : ((vD f).fs.getD i fr0).d=true:=hd;rw[h2] at a e;simp only[pQ] at a;simp only[bM,rV,if_pos a] at e;cases e
 have k:(bX (iW f s b) p).ar=[]:=by
  rw[hi];unfold bX;cases p with
  | zero=>rfl
  | succ p=>rfl
 unfold fD at hg;rw[k] at hg;cases hg
def Tk (f s b:Int) (l:List Cl) (w:World) (r:Ending) (w' : World):Prop:=Below w.heap.size w w'∧∃(H' : MH) (v:Value) (al:List (An × Value)) (e:Int),r = .returned (.tuple #[.agg (bW H'),v,.int .i64 e])∧qc w' w.heap.size H'∧sU w' w.heap.size v al ∧
 ((¬((0≤f∧f≤40)∧(0≤s∧s≤60)∧0≤b∧b≤80)∨80<l.length)∧H' = noH∧al=[]∧e=4∨((0≤f∧f≤40)∧(0≤s∧s≤60)∧0≤b∧b≤80)∧l.length≤80∧e=0∧H'.ma=(runC (iW f s b) l).1∧al.map Prod.fst=(runC (iW f s b) l).2)
theorem Fz (f s b:Int) (la:Option Addr) (lc:Nat) (l:List Cr) (w:World) (hb64 : -9223372036854775808≤b∧b≤9223372036854775807) (hl:eB w la (l.flatMap UO)) (hx:∀x∈l,vU w x)
 (hd:∀x∈l,∀(H:MH) (w:World),rT H.ma→Ga w H→vU w x→Calls Tryz.prog 26 #[.agg (bW H),.agg (mM x.c x.a x.cap)] w (xA H x.c w)) (hkp:∀x∈l,∀m,rT m→rT (tT m x.c).1) :
  Calls Tryz.prog 17 #[.agg #[.int .i64 f,.int .i64 s,.int .i64 b],.slice la l.length lc] w (Tk f s b (l.map Cr.c) w):=by
 have ko:=ae hd;have h3:=ae hkp;clear hd hkp;go_enter func17,ntmps17;go_upto_region 1 with (fail);refine vg (fun W=>Code.wp _ _ _ _ W) fun w1 hM bx1 rx1 kg => ?_;have bx1:aJ w1 w.heap.size #[.int .i64 f,.int .i64 s,.int .i64 b] 50:=bx1;have rx1:aJ w1 (w.heap.size+1) (bW noH) 44:=rx1;clear kg
 go_wp2_with (refine aC _ _ rfl w.heap.size 0 rfl rfl _ bx1.rd _ underlying50 rfl cfg_size3 ?_)
 refine (Jf f s b _ hb64).mono ?_;rintro r w2 ⟨H2,rfl,hz,hZ,hL⟩;have rx2:=rx1.ext hL;have hG:=ah hM hL;have hz:=hz.mono hM.size;have hE:=ae hZ;clear bx1 rx1 hM hL hZ
 go_wp2_with (refine aT rfl _ _ _ rfl (bW H2) rfl rfl rfl mach_size (eU _) ?_)
 intro w3 hA mx3;have rx3:=rx2.ext hA;have i:=ah hG hA;have hV:=hz.below hA;have hK:Hid (w.heap.size+1<w2.heap.size):=ae rx2.lt;clear rx2 hG hz hA;generalize w2.heap.size=gm at mx3 hK
 by_cases hok:(0≤f∧f≤40)∧(0≤s∧s≤60)∧0≤b∧b≤80
 ·have e0:uM f s b=0:=by unfold uM;rw[if_pos hok]
  rw[e0];have hD:=ae hok;clear hok e0
  by_cases h80:80<l.length
  ·have hv:Hid (¬((0≤f∧f≤40)∧(0≤s∧s≤60)∧0≤b∧b≤80)∨80<(l.map Cr.c).length):=ae (.inr (by rw[fP];exact h80));have kd:(80:Int)<(l.length:Int):=by omega
   go_wp2_with (refine ax rfl _ _ _ rfl (w.heap.size+1) (bW noH) rfl rfl _ _ rx3 rfl mach_size (eU noH) ?_)
   intro we rxe q;have u:=i.grown q i.size (fun k hk=>by cases hk;omega);go_wp2;refine bodyPost_ret (v:=.tuple #[.agg (bW noH),.slice none 0 0,.int .i64 4]) (dn results17 _ _ (w.heap.size+1) _ _ _ _ _ rfl rfl rfl rxe underlying44 rfl mach_size) rfl ?_;exact⟨u,noH,_,[],4,rfl,uT _ _,⟨Own.nil _ _ _ _,fun x hx=>by cases hx⟩,.inl ⟨hv.out,rfl,rfl,rfl⟩⟩
  have kd:¬(80:Int)<(l.length:Int):=by omega
  go_upto_region 8 with (fail);have kr:Hid (rT (iW f s b)):=ae (MN hD.out);have kj:=ae hl;have ke:=ae hx;have h0:Hid (H2.ma=(runC (iW f s b) ((l.take 0).map Cr.c)).1):=ae (by rw[hE.out];rfl);clear hl hx hE
  go_loopw [29,9] (fun s29 s9 wr => ∃(k:Nat) (Hk:MH) (al:List (An × Value)),k≤l.length∧s29 = .int .i64 k∧Below w.heap.size w wr∧aJ wr gm (bW Hk) 44∧aJ wr (w.heap.size+1) (bW noH) 44∧qc wr w.heap.size Hk∧sU wr w.heap.size s9 al∧Hid (Hk.ma=(runC (iW f s b) ((l.take k).map Cr.c)).1∧al.map Prod.fst=(runC (iW f s b) ((l.take k).map Cr.c)).2∧al.length=k)) (fun s29 _ _=>l.length-(intOf s29).toNat)
  case atStart=>exact⟨0,H2,[],bB _,rfl,i,mx3,rx3,hV,⟨Own.nil _ _ _ _,fun x hx=>by cases hx⟩,ae ⟨h0.out,rfl,rfl⟩⟩
  case round=>
   clear mx3 rx3 hV i h0;obtain⟨k,Hk,al,hk,rfl,hi,mx,rx,ho,ha,hm⟩:=hrel;obtain⟨av,cv,rfl,_⟩:=ha.own.rd
   by_cases hkl:k<l.length
   ·have kk:(k:Int)<(l.length:Int):=by omega
    obtain⟨bl,ol,h2,hr⟩:=pG UF (by decide) (kj.out.below hi) k hkl;obtain⟨X,hX⟩:∃X,l[k]=X:=⟨_,rfl⟩;rw[hX] at hr;have ka:Hid (vU w X):=ae (ke.out X (by rw[←hX];exact eZ hkl));have kq:=ae (ko.out X (by rw[←hX];exact eZ hkl));have hH:Hid ((l.take (k+1)).map Cr.c=(l.take k).map Cr.c++[X.c]):=ae (by rw[nT,aN hkl,hX];simp);have h1:=ae h2;clear hX h2;rw[h1.out]
    go_wp2_with (first | (refine aC _ _ rfl bl (ol+k*10) rfl rfl (mM X.c X.a X.cap).toList hr _ underlying25 rfl call_size ?_) | (refine aT rfl _ _ _ rfl (mM X.c X.a X.cap) rfl rfl rfl call_size (wO _ _ _) ?_))
    intro w4 hj cx4;have mx4:=mx.ext hj;have rx4:=rx.ext hj;have hp:=ah hi hj;have hU:=ho.below hj;have h9:=ha.below hj;have kb:Hid (vU w4 X):=ae ((ka.out.below hi).below hj);have kl:Hid (w.heap.size≤wr.heap.size):=ae hi.size;have kc:Hid (rT Hk.ma):=ae (by rw[hm.out.1];exact run_ok _ kr.out fun c hc=>(by obtain⟨x,hx,rfl⟩:=eD.1 hc;exact h3.out x (Bj hx)));clear mx rx hi ho ha hj hr ka;generalize wr.heap.size=gx at cx4 kl
    go_wp2_with (first | (refine aC _ _ rfl gm 0 rfl rfl (bW Hk).toList mx4.rd _ underlying44 rfl mach_size ?_) | (refine aC _ _ rfl gx 0 rfl rfl (mM X.c X.a X.cap).toList cx4.rd _ underlying25 rfl call_size ?_))
    refine (kq.out Hk _ kc.out hU.rd kb.out).mono ?_;rintro r w5 ⟨H5,d,rfl,hw,hy,hJ,hq⟩;obtain⟨ad,cd,rfl,_⟩:=hq.rd;obtain⟨Y,hY⟩:∃Y,Hid (tT Hk.ma X.c=Y):=⟨_,ae rfl⟩;rw[hY.out] at hJ hq ⊢;have mx5:=mx4.ext hw;have rx5:=rx4.ext hw;have hF:=ah hp hw;have hB:=h9.below hw;have hy:=hy.mono hp.size;have hq:=hq.mono hp.size;have hW:=ae hJ;have p:Hid (gm<w5.heap.size∧w.heap.size+1<w5.heap.size):=ae ⟨mx5.lt,rx5.lt⟩;have hC:Hid (∀g,(Value.slice av al.length cv).ownBlock=some g→g<w5.heap.size):=ae (fun g hg=>by obtain⟨cs,hb⟩:=rO hB.own g hg;exact hb.lt);clear mx4 rx4 hp hU h9 kb hw cx4 hJ kc
    go_wp2_with (first | (refine vg (fun W=>wpList _ _ _ _ _ W) fun w6 y nx6 ax6 kf => ?_) | (refine ax rfl _ _ _ rfl w5.heap.size (bW H5) rfl rfl _ _ nx6 rfl mach_size (eU _) ?_))
    intro w7 nx7 o;have ax6:aJ w6 (w5.heap.size+1) (fT 0 0 nilV) 52:=ax6;have mx7:=iT (mx5.ext y) o (by have:=p.out;omega);have rx7:=iT (rx5.ext y) o (by have:=p.out;omega);have ax7:=aG ax6 nx6 (by decide) o;have hu:=ah hF y;have ht:=hu.grown o hu.size (fun k hk=>by have:=p.out;cases hk;omega);have hT:=(hy.below y).keep nx6 (by decide) o;have h7:=ay (hq.below y) nx6 (by decide) o;have hP:sU w7 w.heap.size (.slice av al.length cv) al:=⟨ay (hB.below y).own nx6 (by decide) o,fun x hx=>ay ((hB.below y).each x hx) nx6 (by decide) o⟩;have km:Hid (gm<w5.heap.size∧w.heap.size+1<w5.heap.size):=p;clear mx5 rx5 ax6 hF hu hy hq hB nx6 y o kf p;generalize w5.heap.size=gn at *
    go_wp2_with (refine ax rfl _ _ _ rfl (gn+1) (fT Y.2.e Y.2.n (.slice ad Y.2.da.length cd)) rfl rfl _ _ ax7 rfl ans_size (bR _ _ _ _ _) ?_)
    intro w8 ax8 j;have mx8:=aG mx7 ax7 (by decide) j;have rx8:=aG rx7 ax7 (by decide) j;have nx8:=aG nx7 ax7 (by decide) j;have hs:=ht.grown j ht.size (fun k hk=>by have:=km.out;cases hk;omega);have hS:=hT.keep ax7 (by decide) j;have h6:=ay h7 ax7 (by decide) j;have hO:sU w8 w.heap.size (.slice av al.length cv) al:=⟨hP.own.grown j (fun g hg e=>by have:=hC.out g hg;cases e;omega),fun x hx=>ay (hP.each x hx) ax7 (by decide) j⟩;clear mx7 rx7 nx7 ht hT h7 hP ax7 j hC
    go_wp2_with (first | (refine aC _ _ rfl gn 0 rfl rfl (bW H5).toList nx8.rd _ underlying44 rfl mach_size ?_) | (refine ax rfl _ _ _ rfl gm (bW H5) rfl rfl _ _ mx8 rfl mach_size (eU _) ?_))
    intro w9 mx9 t;have ax9:=aG ax8 mx8 (by decide) t;have rx9:=iT rx8 t (by have:=hK.out;omega);have hn:=hs.grown t hs.size (fun k hk=>by have:=hK.out;cases hk;omega);have hR:=hS.keep mx8 (by decide) t;have h5:=ay h6 mx8 (by decide) t;have hN:sU w9 w.heap.size (.slice av al.length cv) al:=⟨ay hO.own mx8 (by decide) t,fun x hx=>ay (hO.each x hx) mx8 (by decide) t⟩;clear mx8 rx8 nx8 hs hS h6 hO ax8 t;have ks:al.length+1≤80:=by have:=hm.out.2.2;omega
    go_wp2_with (first | (refine aC _ _ rfl (gn+1) 0 rfl rfl [.int .i64 Y.2.e,.int .i64 Y.2.n,.slice ad Y.2.da.length cd] ax9.rd _ underlying52 rfl ans_size ?_) | (at_builtin;go_must (refine qZ rfl _ _ 45 rfl w.heap.size 52 _ 3 40 underlying45 ans_info rfl (by decide) _ al.length _ rfl (hN.own.alloc _) (some ⟨w9.heap.size,0,none⟩) 1 1 [.int .i64 Y.2.e,.int .i64 Y.2.n,.slice ad Y.2.da.length cd] rfl (fun h=>(by cases h)) (az _) rfl (eB.new _ #[.int .i64 Y.2.e,.int .i64 Y.2.n,.slice ad Y.2.da.length cd] _) (gG (bR _ _ _ _ _)) (by unfold maxLen;omega) (by omega) (eF hn.size _) ?_)))
    intro v2 wa own2 hh hQ;have z:=(Below.refl w9.heap.size w9).alloc (az _) (.cells #[.int .i64 Y.2.e,.int .i64 Y.2.n,.slice ad Y.2.da.length cd] 52);have hf:=hN.below z;have mxa:=Jj hf hh (mx9.ext z) (by decide);have rxa:=Jj hf hh (rx9.ext z) (by decide);have ki:=RS hf hh (hR.below z);have h4:=jq hf hh (h5.below z) (by decide);have h8:Below w.heap.size w wa:=(ah hn z).grown hh (ah hn z).size (fun k hk=>hf.own.ge k hk);have kn:sU wa w.heap.size v2 (al++[(Y.2,.slice ad Y.2.da.length cd)]):=⟨by
     rw[iK,gK,yl];exact own2,fun x hx=>by
      rcases jK.1 hx with hx|hx
      ·exact jq hf hh (hf.each x hx) (by decide)
      ·rw[bN.1 hx];exact h4⟩
    have hI:Hid (H5.ma=(runC (iW f s b) ((l.take (k+1)).map Cr.c)).1∧(al++[(Y.2,Value.slice ad Y.2.da.length cd)]).map Prod.fst=(runC (iW f s b) ((l.take (k+1)).map Cr.c)).2∧(al++[(Y.2,Value.slice ad Y.2.da.length cd)]).length=k+1):=ae (by have e1:=hm.out;rw[hH.out,JL,←e1.1,←e1.2.1,hY.out];exact⟨hW.out,by simp,by simp[e1.2.2]⟩);clear mx9 rx9 ax9 hR h5 hN hn z hf hh hQ own2 h4;go_wp2;go_roundw
    case rel=>exact⟨k+1,H5,_,by omega,by go_num,h8,mxa,rxa,ki,kn,hI⟩
    case measure=>simp[intOf];omega
   have kk:¬(k:Int)<(l.length:Int):=by omega
   rw[ou (by omega)] at hm
   go_wp2_with (first | (refine aC _ _ rfl gm 0 rfl rfl (bW Hk).toList mx.rd _ underlying44 rfl mach_size ?_) | (refine ax rfl _ _ _ rfl (w.heap.size+1) (bW Hk) rfl rfl _ _ rx rfl mach_size (eU _) ?_))
   intro we rxe q;have u:=hi.grown q hi.size (fun k hk=>by cases hk;omega);have kh:=ho.keep rx (by decide) q;have kp:sU we w.heap.size (.slice av al.length cv) al:=⟨ay ha.own rx (by decide) q,fun x hx=>ay (ha.each x hx) rx (by decide) q⟩;go_wp2;refine bodyPost_ret (v:=.tuple #[.agg (bW Hk),.slice av al.length cv,.int .i64 0]) (dn results17 _ _ (w.heap.size+1) _ _ _ _ _ rfl rfl rfl rxe underlying44 rfl mach_size) rfl ?_;exact⟨u,Hk,_,al,0,rfl,kh,kp,.inr ⟨hD.out,by rw[fP];omega,rfl,hm.out.1,hm.out.2.1⟩⟩
 have e0:uM f s b=4:=by unfold uM;rw[if_neg hok]
 have hv:Hid (¬((0≤f∧f≤40)∧(0≤s∧s≤60)∧0≤b∧b≤80)∨80<(l.map Cr.c).length):=ae (.inl hok);rw[e0];clear hok e0
 go_wp2_with (refine ax rfl _ _ _ rfl (w.heap.size+1) (bW noH) rfl rfl _ _ rx3 rfl mach_size (eU noH) ?_)
 intro we rxe q;have u:=i.grown q i.size (fun k hk=>by cases hk;omega);go_wp2;refine bodyPost_ret (v:=.tuple #[.agg (bW noH),.slice none 0 0,.int .i64 4]) (dn results17 _ _ (w.heap.size+1) _ _ _ _ _ rfl rfl rfl rxe underlying44 rfl mach_size) rfl ?_;exact⟨u,noH,_,[],4,rfl,uT _ _,⟨Own.nil _ _ _ _,fun x hx=>by cases hx⟩,.inl ⟨hv.out,rfl,rfl,rfl⟩⟩
def MP (l:List Ar) (n:Int):Bool:=match onA l n with
 | some g => !g.sh
 | none=>false
def EN (k:Nat) (ar:Nat→List Ar):List (Nat × Int):=(List.range k).flatMap fun p=>((List.range 64).filter fun n:Nat=>MP (ar p) n).map fun n:Nat=>(p,(n:Int))
def AC (m:Ma):Nat:=(EN m.sp.length fun p=>(bX m p).ar).length
structure Cap (m:Ma):Prop where
 one:1≤m.m.fs.length
 all:AC m+(ig m.st).length<m.m.fs.length+m.sl.length
 blk:((ig m.st).length:Int)≤m.st.count
theorem Nq (h:Rt m) {o:Page} (ho:iC m p n=some o):(p,n)∈EN m.sp.length fun p=>(bX m p).ar:=by
 have hk:(aL m p n).k≠0:=fun e=>by rw[zi e] at ho;cases ho
 have b:=lW hk;obtain⟨g,hg,a⟩:=h.en p n hk;have hs:g.sh=false:=by
  unfold iC at ho
  by_cases k1:(aL m p n).k=1
  ·rw[if_pos k1] at ho
   by_cases hf:(gP m (aL m p n).n).f<0
   ·cases hs:g.sh with
    | false=>rfl
    | true=>
     have:=(a.fr k1).2.1 hs;have h2:(aD m (aL m p n).n.toNat).f<0:=hf;omega
   ·rw[if_neg hf] at ho;cases ho
  rw[if_neg k1] at ho
  by_cases k2:(aL m p n).k=2
  ·exact (a.sw k2).2
  ·rw[if_neg k2] at ho;cases ho
 unfold EN;refine ji.2 ⟨p,bV.2 b.1,eD.2 ⟨n.toNat,rU.2 ⟨bV.2 (by omega),?_⟩,?_⟩⟩
 ·rw[show ((n.toNat:Nat):Int)=n by omega];unfold MP;unfold fD at hg;rw[hg];simp[hs]
 ·rw[show ((n.toNat:Nat):Int)=n by omega]
theorem UH (h:Rt m):((List.range m.m.fs.length).filter fun i=>decide ((aD m i).r≠0∧(aD m i).f<0)).length+((List.range m.sl.length).filter fun s=>decide (lC m s≠0)).length≤AC m:=by
 have key:(((List.range m.m.fs.length).filter fun i=>decide ((aD m i).r≠0∧(aD m i).f<0)).map (fun i:Nat=>((1:Int),(i:Int)))++((List.range m.sl.length).filter fun s=>decide (lC m s≠0)).map (fun i:Nat=>((2:Int),(i:Int)))).length
   ≤ ((EN m.sp.length fun p=>(bX m p).ar).map fun u=>((aL m u.1 u.2).k,(aL m u.1 u.2).n)).length:=by
  refine Bo ?_ ?_
  ·refine xg.2 ⟨?_,?_,?_⟩
   ·exact tF (fun a b e=>FV.1 (congrArg Prod.snd e)) (Bw BC wH)
   ·exact tF (fun a b e=>FV.1 (congrArg Prod.snd e)) (Bw BC wH)
   intro a ha b hb e;obtain⟨i,_,rfl⟩:=eD.1 ha;obtain⟨j,_,rfl⟩:=eD.1 hb;have:=congrArg Prod.fst e;simp at this
  intro x hx;rcases jK.1 hx with hx|hx
  ·obtain⟨i,hi,rfl⟩:=eD.1 hx;simp only[rU,bV,decide_eq_true_eq] at hi;obtain⟨a1,a2⟩:=zD h hi.1 hi.2.2;have h1:=h.cf i hi.1;rw[a1] at h1;obtain⟨p,n,hp,hn,k1,k2⟩:=(kC (m:=m) (kd:=1) (i:=i) (by decide)).1 (by omega);refine eD.2 ⟨(p,n),Nq h (o:=(aD m i).p) ?_,by rw[k1,k2]⟩;unfold iC;rw[if_pos k1,k2];exact if_pos hi.2.2
  obtain⟨i,hi,rfl⟩:=eD.1 hx;simp only[rU,bV,decide_eq_true_eq] at hi;have h1:=h.cs i hi.1;obtain⟨p,n,hp,hn,k1,k2⟩:=(kC (m:=m) (kd:=2) (i:=i) (by decide)).1 (by omega);refine eD.2 ⟨(p,n),Nq h (o:=dN m.sw i) ?_,by rw[k1,k2]⟩;unfold iC;rw[if_neg (by omega),if_pos k1,k2]
 unfold AC;simpa using key
theorem UR {f i:Int} (h:mK s f i):bn s f i∈ig s:=by
 unfold ig;refine ji.2 ⟨aH s f,dm (wm h.1),?_⟩;exact dm (nL h)
theorem Qw (h:Rt m):m.ca.length≤(ig m.st).length:=by
 have key:(m.ca.map fun c=>(c.f,c.i)).length≤((List.range m.st.fs.length).flatMap fun f:Nat=>(List.range (aH m.st f).b.length).map fun i:Nat=>((f:Int),(i:Int))).length:=by
  refine Bo ?_ ?_
  ·unfold List.Nodup;rw[List.pairwise_map];refine List.Pairwise.imp ?_ h.ca.srt;intro a b g e;simp only[GK] at e;unfold BQ at g;omega
  intro x hx;obtain⟨c,hc,rfl⟩:=eD.1 hx;have d:=h.ca.file c hc;have h1:=d.1;have h2:=d.2;refine ji.2 ⟨c.f.toNat,bV.2 (by omega),eD.2 ⟨c.i.toNat,bV.2 (by rw[show ((c.f.toNat:Nat):Int)=c.f by omega];omega),?_⟩⟩;rw[show ((c.f.toNat:Nat):Int)=c.f by omega,show ((c.i.toNat:Nat):Int)=c.i by omega]
 have e:((List.range m.st.fs.length).flatMap fun f:Nat=>(List.range (aH m.st f).b.length).map fun i:Nat=>((f:Int),(i:Int))).length=(ig m.st).length:=by
  unfold ig;rw[Bc,Bc];congr 1;apply qH
  ·simp
  intro i h1 h2;simp only[fP,wS] at h1;have:aH m.st (i:Int)=m.st.fs[i]:=jV (aN h1);simp[this]
 rw[fP,e] at key;exact key
theorem Sb (h:Rt m):((List.range m.m.fs.length).filter fun i=>decide ((aD m i).r≠0∧0≤(aD m i).f)).length≤m.ca.length:=by
 have key:(((List.range m.m.fs.length).filter fun i=>decide ((aD m i).r≠0∧0≤(aD m i).f)).map (fun i:Nat=>(i:Int))).length≤(m.ca.map Cc.k).length:=by
  refine Bo ?_ ?_
  ·exact tF (fun a b e=>FV.1 e) (Bw BC wH)
  intro x hx;obtain⟨i,hi,rfl⟩:=eD.1 hx;simp only[rU,bV,decide_eq_true_eq] at hi;obtain⟨c,hc,hk⟩:=h.fc i hi.1 hi.2.2;exact eD.2 ⟨c,hc,hk⟩
 simpa using key
theorem yP {α:Type} (p q:α→Bool):∀l:List α,(∀x∈l,p x = !q x)→(l.filter p).length+(l.filter q).length=l.length
 | [],_=>rfl
 | a::l,h=>by
  have ih:=yP p q l fun x hx=>h x (by simp[hx]);have ha:=h a (by simp);cases hq:q a with
  | true=>rw[hq] at ha;simp[ha,hq];omega
  | false=>rw[hq] at ha;simp[ha,hq];omega
theorem Po (h:Rt m) (hc:Cap m) (hf:f<m.m.fs.length):ja m f=true:=by
 unfold ja
 by_cases h0:(aD m f).f<0
 ·simp[h0]
 obtain⟨c,d,e⟩:=h.fc f hf (by omega);have b:=h.ca.fr c d;have a:=h.ca.file c d;rw[e,bD] at b;rw[←b.2.1,←b.2.2] at a;have hb:0≤bn m.st (aD m f).f (aD m f).i∨0≤eY m.st:=by
  by_cases hb:0≤bn m.st (aD m f).f (aD m f).i
  ·exact .inl hb
  right
  refine NK h.pt.st ?_;have g:Ud (ig m.st)<(ig m.st).length:=by
   unfold Ud;rcases fM ((ig m.st).filter fun x=>decide (0≤x)).length (ig m.st).length with h1|h1
   ·exact h1
   have h2:=wy (fun x:Int=>decide (0≤x)) (ig m.st);have:=(List.length_filter_eq_length_iff.1 (Nat.le_antisymm h2 h1)) _ (UR a);exact absurd (of_decide_eq_true this) hb
  have:=hc.blk;unfold qG;omega
 rw[NL h.pt.st a hb];simp
theorem NS (h:Rt m) (hc:Cap m) (hz:fe m.m.fs=0) (hf:f<m.m.fs.length):jg m f=true:=by
 have hr:∀i,i<m.m.fs.length→(aD m i).r≠0:=fun i hi=>tV hz hi;unfold jg
 by_cases h0:0≤(aD m f).f
 ·rw[if_pos h0];exact Po h hc hf
 rw[if_neg h0];obtain⟨a1,a2⟩:=zD h hf (by omega);have g:=h.fewR hf;have j:=hr f hf;apply decide_eq_true;obtain⟨s,c,b⟩:∃s,s<m.sl.length∧lC m s=0:=by
  refine rC fun d => ?_;have a:∀s,s<m.sl.length→lC m s≠0:=fun s hs e=>d ⟨s,hs,e⟩;have e1:((List.range m.sl.length).filter fun s=>decide (lC m s≠0)).length=m.sl.length:=by
   rw[FT.2]
   ·simp
   intro s hs;exact decide_eq_true (a s (bV.1 hs))
  have e2:=yP (fun i=>decide ((aD m i).r≠0∧(aD m i).f<0)) (fun i=>decide ((aD m i).r≠0∧0≤(aD m i).f)) (List.range m.m.fs.length) fun i hi=>by
   have:=hr i (bV.1 hi)
   by_cases hx:(aD m i).f<0
   ·rw[decide_eq_true ⟨this,hx⟩,decide_eq_false (by omega)];rfl
   ·rw[decide_eq_false (by omega),decide_eq_true ⟨this,by omega⟩];rfl
  rw[wS] at e2;have e3:=UH h;have e4:=Sb h;have e5:=Qw h;have:=hc.all;omega
 unfold gT;rw[if_neg (by rw[h.pt.sl];simp),if_neg (by omega),if_neg];intro hi;have:=Ng (q:=Gy) (l:=m.sl) hi (lC m s) (dm (LK c));rw[b] at this;cases this
theorem JQ {x:Mem} (hx:∀g,xB (aD m g) (aD (mG m x) g)) (f:Nat):jg (mG m x) f=jg m f:=by
 obtain⟨l1,l2,l3,l4,l5⟩:=hx f;unfold jg ja;rw[l3,l4,l5];rfl
theorem QC (h:Rt m) (hco:Co m) (hc:Cap m) (hz:fe m.m.fs=0) (e:Int):(dX ⟨m,e⟩).2=true:=by
 have hr:∀i,i<m.m.fs.length→(aD m i).r≠0:=fun i hi=>tV hz hi;have b:=hc.one;have hn:0≤ic m.m:=by unfold ic;rw[if_neg (by rw[h.pt.fr];simp),if_neg (by omega)];omega
 obtain⟨n1,n2,n3,n4,n5⟩:=ER h.pt.fr hn;have a:jg (mG m (fu m.m)) (ic m.m).toNat=true:=by rw[JQ n5];exact NS h hc hz n1
 unfold dX reclaimN;simp only;rw[if_neg (by rintro (e | e);exact e h.pt.fr;omega)];rw[show ({ m:=fu m.m,sl:=m.sl,sw:=m.sw,dk:=m.dk,st:=m.st,ca:=m.ca,sp:=m.sp }:Ma)=mG m (fu m.m) from rfl,if_pos a]
theorem wE {k:Kp} {p:Page} {f i:Int} (h:Rt k.m) (hco:Co k.m) (hc:Cap k.m) (hx:bO (aZ p f i)=0):0≤(eu k p f i).2:=by
 unfold eu
 by_cases hz:fe k.m.m.fs=0
 ·have hr:(dX k).2=true:=QC h hco hc hz k.e;rw[if_pos hz,if_pos hr];obtain⟨he,o,a,hb⟩:=Dg h hco;obtain⟨f',b⟩:∃f',o=some f':=by
   cases o with
   | none=>exact absurd rfl (hb.1 hr)
   | some f'=>exact⟨f',rfl⟩
  obtain⟨a1,a2,_⟩:=a.free f' b;rcases yV (k:=(dX k).1) (p:=p) (f:=f) (i:=i) a.rt.pt.fr hx with ⟨g,g1,g2,g3⟩|⟨_,g2⟩
  ·rw[g3];omega
  ·exact absurd (by rw[a2];rfl) (tV g2 (g:=f') (by rw[a.len];exact a1))
 rw[if_neg hz];rcases yV (k:=k) (p:=p) (f:=f) (i:=i) h.pt.fr hx with ⟨g,g1,g2,g3⟩|⟨_,g2⟩
 ·rw[g3];omega
 ·exact absurd g2 hz
theorem DV (s:St):(ig s).length=((List.range s.fs.length).map fun f:Nat=>(aH s f).b.length).sum:=by
 unfold ig;rw[Bc];congr 1;apply qH
 ·simp
 intro i h1 h2;simp only[fP,wS] at h1;have:aH s (i:Int)=s.fs[i]:=jV (aN h1);simp[this]
theorem Cap.of (hc:Cap m) (sk:gZ m m') (fl:m'.st.fs.length=m.st.fs.length) (lb:∀f,(aH m'.st f).b.length=(aH m.st f).b.length) (ct:m'.st.count=m.st.count) (l1:m'.m.fs.length=m.m.fs.length) (l2:m'.sl.length=m.sl.length):Cap m':=by
 have e1:(ig m'.st).length=(ig m.st).length:=by rw[DV,DV,fl];congr 1;exact yg fun f _=>lb f
 have e2:AC m' = AC m:=by unfold AC;rw[sk.len];congr 2;funext p;rw[sk.ar]
 exact⟨by rw[l1];exact hc.one,by rw[e1,e2,l1,l2];exact hc.all,by rw[e1,ct];exact hc.blk⟩
theorem Cap.vis {X:Nat→Int→Prop} (hc:Cap m) (v:yf X m m') (hi:Inv m m') (l1:m'.m.fs.length=m.m.fs.length) (l2:m'.sl.length=m.sl.length):Cap m':=hc.of v.sk v.files v.lenb hi.count l1 l2
theorem JS {k:Kp} {f i:Int} (h:Rt k.m) (hco:Co k.m) (hc:Cap k.m) (hin:mK k.m.st f i):0≤(eQ k f i).2:=by
 unfold eQ
 by_cases his:FX k.m.ca f i=true
 ·rw[if_pos his];obtain⟨c,b,n,l⟩:=Dm his;have g:=dm b;have j:vQ k.m (sJ k.m.ca f i)=c:=by unfold vQ;rw[bM,b];rfl
  simp only[j];exact (h.ca.lt c g).1
 rw[if_neg his];have a:=zI h.pt.st hin;have d:bO (aZ (dJ k.m f i) f i)=0:=by rw[dC];have h1:=hin.1;have h2:=hin.2;exact⟨⟨by show (0:Int)≤1;decide,by show (1:Int)≤1000;decide,by show -1≤f;omega,a.1,h2.1,a.2.1⟩,fun (e:(1:Int)=0)=>absurd e (by decide),fun (e:f<0)=>by omega⟩
 have:=wE (k:=⟨k.m,CY k f i⟩) (p:=dJ k.m f i) (f:=f) (i:=i) h hco hc d;simp only;rw[if_neg (by omega)];exact this
theorem ym (P:Page):bO (aZ P (-1) 0)=0:=by
 rw[dC];exact⟨⟨by show (0:Int)≤1;decide,by show (1:Int)≤1000;decide,by show (-1:Int)≤-1;decide,by show (-1:Int)<5;decide,by show (0:Int)≤0;decide,by show (0:Int)<12;decide⟩,fun (e:(1:Int)=0)=>absurd e (by decide),fun _=>rfl⟩
theorem LU {k:Kp} (h:Rt k.m) (hco:Co k.m) (hc:Cap k.m) {g:Pg} (hp:p<k.m.sp.length) (hg:fD k.m p n=some g) (hf:0≤g.fi→(aL k.m p n).k=0→mK k.m.st g.fi g.pg):0≤(fQ k p n (jc k.m p n)).2:=by
 obtain⟨g1,g2,g3,g4,g5,g6,g7⟩:=uD hg;have hE:=(dS _).1 (mo h.pt p n);unfold fQ;simp only
 by_cases k1:(aL k.m p n).k=1
 ·rw[if_pos k1];show 0≤(aL k.m p n).n;omega
 rw[if_neg k1]
 by_cases k2:(aL k.m p n).k=2
 ·rw[if_pos k2];obtain⟨y,hy,j⟩:=h.en p n (by omega);have u:=j.sw k2;have hs:(aL k.m p n).n.toNat<k.m.sl.length:=by omega
  have q:(aL k.m p n).n=(((aL k.m p n).n.toNat:Nat):Int):=by omega
  have l:aI k.m.sw (aL k.m p n).n=0:=iQ.2 ⟨h.pt.sw,by omega,by rw[h.pt.swl];omega⟩;rw[if_neg (by rw[l];simp)];have a:=wE (k:=k) (p:=dN k.m.sw (aL k.m p n).n) (f:=-1) (i:=0) h hco hc (ym _);rw[if_neg (by omega)];rcases zb (k:=k) (p:=dN k.m.sw (aL k.m p n).n) (f:=-1) (i:=0) h hco (ym _) with ⟨x,m1,o,hF,hx,hz,ht⟩|⟨m1,hF,ht,h0⟩
  ·have b:aL m1 p n=aL k.m p n:=hF.ents p n (fun e=>absurd e k1);have c:(aL k.m p n).n.toNat<m1.sl.length:=by rw[hF.sll];exact hs
   have t:=hF.rt.fewS c;have d:=lW (m:=m1) (p:=p) (n:=n) (by rw[b];omega);have s:0<bU m1 2 ((aL k.m p n).n.toNat:Nat):=(kC (by decide)).2 ⟨p,n,d.1,d.2,by rw[b];exact k2,by rw[b];omega⟩;have v:=hF.rt.cs _ c;have r:bS m1.sl (((aL k.m p n).n.toNat:Nat):Int) (-1)=0:=by have e1:El m1.sl (((aL k.m p n).n.toNat:Nat):Int)=lC m1 (aL k.m p n).n.toNat:=rfl;unfold bS;rw[if_neg (by rw[hF.rt.pt.sl];simp),if_neg (by rw[e1];omega),if_neg (by rw[e1];omega)]
   rw[ht] at a ⊢;have e2:bS (setFr m1 x (aZ (dN k.m.sw (aL k.m p n).n) (-1) 0)).sl (aL k.m p n).n (-1)=0:=by rw[q];exact r
   simp only[e2];exact a
  rw[ht] at a;simp at a
 rw[if_neg k2]
 by_cases hfi:(jc k.m p n).fi<0
 ·rw[if_pos hfi];have:=wE (k:=k) (p:=zPg) (f:=-1) (i:=0) h hco hc (ym _);unfold VB;rw[if_neg (by omega)];exact this
 rw[if_neg hfi];have k0:(aL k.m p n).k=0:=by omega
 rw[g6] at hfi ⊢;rw[g7 (by omega)];have:=JS h hco hc (hf (by omega) k0);rw[if_neg (by omega)];exact this
theorem QH {k:Kp} (h:Rt k.m) (hco:Co k.m) (hc:Cap k.m) {f:Int} (hf:0≤f) (a:Ar):0≤(uG k p n f a).2:=by
 unfold uG;simp only
 by_cases hcs:a.sh=true∨(gP k.m f).f<0∧(gP k.m f).r=1
 ·rw[if_pos hcs];exact hf
 rw[if_neg hcs];obtain⟨m',e,L⟩:=EU h hco p n;rw[e];have:=wE (k:=⟨m',k.e⟩) (p:=(gP k.m f).p) (f:=-1) (i:=0) L.rt L.co (hc.of L.vis.sk L.vis.files L.vis.lenb (by rw[L.st]) L.len L.sll) (ym _);rw[if_neg (by omega)];exact this
theorem Qr (h:Rt m) (hco:Co m) (hc:Cap m) {w:Bool} {g:Pg} (hp:p<m.sp.length) (hg:fD m p n=some g) (hf:0≤g.fi→(aL m p n).k=0→mK m.st g.fi g.pg):0≤(kK m p n w).2:=by
 have hb:=LU (k:=⟨m,0⟩) h hco hc hp hg hf;obtain⟨he,hB⟩:=yB (k:=⟨m,0⟩) h hco hp hg hf;simp only at he hB hb;unfold kK;simp only;split
 ·exact QH hB.rt hB.co (hc.vis hB.vis hB.inv hB.len hB.sll) hb _
 ·exact hb
theorem Ui (hG:rT m) (hc:Cap m) {w:Bool} (hp:p<m.sp.length) (hv:(bX m p).lv=true):lS m p n w≠10:=fun e=>by
 rcases FK hG (n:=n) (w:=w) hp hv with ⟨_,u⟩|⟨g,hg,⟨_,u⟩|⟨_,⟨_,u⟩|⟨hb,⟨_,u⟩|⟨u,_⟩⟩⟩⟩
 ·rw[e] at u;cases u
 ·rw[e] at u;cases u
 ·rw[e] at u;cases u
 ·have:=Qr hG.rt hG.co hc (w:=w) hp hg fun b1 b2=>qC fun hn=>hb ⟨b1,zi b2,hn⟩;omega
 ·rw[e] at u;cases u
theorem SC (hG:rT m) {w:Bool} (hp:p<m.sp.length) (hv:(bX m p).lv=true) (hu:lS m p n w=0):yL m (oW m p n w):=by
 rcases FK hG (n:=n) (w:=w) hp hv with ⟨_,u⟩|⟨g,hg,⟨_,u⟩|⟨hm,⟨_,u⟩|⟨hb,⟨u,_⟩|⟨_,_,U⟩⟩⟩⟩
 ·rw[hu] at u;cases u
 ·rw[hu] at u;cases u
 ·rw[hu] at u;cases u
 ·rw[hu] at u;cases u
 refine⟨U.len,U.sll,?_⟩;have hi:=Tw hG.rt hG.co (w:=w) hp hg (fun e=>by unfold Gz at hm;rw[if_pos e] at hm;exact hm) fun b1 b2=>qC fun hn=>hb ⟨b1,zi b2,hn⟩;have hc:=hi.count;unfold oW;rw[bD];rw[←hc];unfold Fh;simp only;split<;>rfl
def Dt (w:Wd):Nat:=(EN w.n fun p=>(w.ps p).ar).length
def Ac (w:Wd):Nat:=(w.fl.map fun b=>(b.length+7) / 8).sum
structure Fits (fr sl bl:Nat) (w:Wd):Prop where
 one:1≤fr
 all:Dt w+Ac w<fr+sl
 blk:Ac w≤bl
structure Uj (fr sl bl:Nat) (m:Ma):Prop where
 fr:m.m.fs.length=fr
 sl:m.sl.length=sl
 ct:m.st.count=bl
theorem Uj.stay (h:Uj fr sl bl m) (S:yL m m'):Uj fr sl bl m':=⟨S.fr.trans h.fr,S.sl.trans h.sl,S.ct.trans h.ct⟩
theorem zx.cap {w:Wd} (h:zx m w) (hR:Rt m) (hK:Uj fr sl bl m) (hw:Fits fr sl bl w):Cap m:=by
 have e1:AC m=Dt w:=by unfold AC Dt;rw[h.n];congr 2;funext p;rw[h.ar]
 have e2:(ig m.st).length=Ac w:=by
  rw[DV];unfold Ac;congr 1;apply qH
  ·simp[h.nf]
  intro i h1 h2;simp only[fP,wS] at h1;simp only[rG,Ha];have hz:=h.sz i h1;have a:=(lU hR.pt.st (f:=(i:Int)) (by omega));have:Ej w i=w.fl[i]'(by rw[h.nf];exact h1):=by unfold Ej;rw[bM,aN (by rw[h.nf];exact h1)];rfl
  rw[this] at hz;have h3:=a.2.2.1;unfold gu at h3;split at h3<;>omega
 exact⟨by rw[hK.fr];exact hw.one,by rw[e1,e2,hK.fr,hK.sl];exact hw.all,by rw[e2,hK.ct];have:=hw.blk;omega⟩
theorem RP (hG:rT m) (hc:Cap m) (hp:p<m.sp.length) (hv:(bX m p).lv=true) (c:Cl) (hcp:c.p=p) (n:Int) (wr:Bool):jU m c n wr≠(m,kJ 10):=fun e=>by
 have e:(jU m c n wr).2.e=10:=congrArg (fun x:Ma × An=>x.2.e) e;unfold jU at e;rw[hcp] at e;have hu:=Ui hG hc (n:=c.a / 8) (w:=wr) hp hv
 by_cases h1:ny c.a n=false
 ·rw[if_pos h1] at e;cases e
 rw[if_neg h1] at e
 by_cases h2:lS m p (c.a / 8) wr≠0
 ·rw[if_pos h2] at e;exact hu e
 rw[if_neg h2] at e;simp only at e;split at e
 ·cases e
 ·split at e<;>cases e
def JR (c:Cl):Prop:=∀m w,rT m→zx m w→(tT m c).2=(EE w c).2∧rT (tT m c).1∧zx (tT m c).1 (EE w c).1∧yL m (tT m c).1
def Ff (fr sl bl:Nat) (c:Cl):Prop:=∀m w,rT m→zx m w→Uj fr sl bl m→Fits fr sl bl w→(8<c.k→Fits fr sl bl (Tn w c).1)→(tT m c).2=(EE w c).2∧rT (tT m c).1∧zx (tT m c).1 (EE w c).1∧yL m (tT m c).1
theorem JR.fit {c:Cl} (h:JR c) (fr sl bl:Nat):Ff fr sl bl c:=fun m w h1 h2 _ _ _=>h m w h1 h2
def AB (w:Wd) (c:Cl):Prop:=c.p<0∨(w.n:Int)≤c.p∨(w.ps c.p.toNat).lv=false
instance (w:Wd) (c:Cl):Decidable (AB w c):=by unfold AB;infer_instance
theorem Df {w:Wd} {c:Cl} {x:Nat→Ma × An} {y:Nat→Wd × An} (hG:rT m) (h:zx m w) (e1:tT m c=if ve m c then (m,kJ 5) else x c.p.toNat) (e2:EE w c=if AB w c then (w,kJ 5) else y c.p.toNat)
 (hs:∀p:Nat,c.p=p→p<m.sp.length→(bX m p).lv=true→(x p).2=(y p).2∧rT (x p).1∧zx (x p).1 (y p).1∧yL m (x p).1):(tT m c).2=(EE w c).2∧rT (tT m c).1∧zx (tT m c).1 (EE w c).1∧yL m (tT m c).1:=by
 rw[e1,e2];have a:AB w c↔ve m c:=by unfold AB ve;rw[h.n,h.lv]
 by_cases hb:ve m c
 ·rw[if_pos hb,if_pos (a.2 hb)];exact⟨rfl,hG,h,.refl m⟩
 rw[if_neg hb,if_neg (fun e=>hb (a.1 e))];obtain⟨p,d⟩:∃p:Nat,c.p=p:=⟨c.p.toNat,by unfold ve at hb;omega⟩;have b:c.p.toNat=p:=by omega
 unfold ve at hb;rw[b] at hb ⊢;have hv:(bX m p).lv=true:=by
  cases hv:(bX m p).lv with
  | true=>rfl
  | false=>exact absurd (.inr (.inr hv)) hb
 exact hs p d (by omega) hv
theorem vM (m:Ma) {c:Cl} {k:Int} (hk:c.k=k) (h:1≤k∧k≤7):tT m c=sO m c:=by
 unfold tT;rw[if_neg (by omega),if_pos (by omega)]
theorem CR (w:Wd) {c:Cl} {k:Int} (hk:c.k=k) (h:1≤k∧k≤7):EE w c=Kb w c:=by
 unfold EE;rw[if_neg (by omega),if_pos (by omega)]
theorem zg {c:Cl} (hk:c.k=1):JR c:=fun m w hG h=>Df (x:=fun p=>rX m p c) (y:=fun p=>Pe w p c) hG h
 (by rw[vM m hk (by decide)];unfold sO;simp[hk]) (by rw[CR w hk (by decide)];unfold Kb AB;simp[hk]) fun p hp0 hp hv=>by
  obtain⟨a1,a2,a3⟩:=TL hG h hp hv c;refine⟨a1,a2,a3,?_⟩;unfold rX;simp only;split
  ·exact .refl m
  split
  ·exact .refl m
  split
  ·exact .refl m
  ·exact⟨rfl,rfl,rfl⟩
theorem Rk (hG:rT m) (hp:p<m.sp.length) (hv:(bX m p).lv=true) {c:Cl} (hp0:c.p=p) (n:Int) (wr:Bool):yL m (jU m c n wr).1:=by
 unfold jU;split
 ·exact .refl m
 split
 ·exact .refl m
 rename_i hu;have hu:lS m c.p (c.a / 8) wr=0:=qC hu;rw[hp0] at hu ⊢;have S:=SC hG hp hv hu;simp only;split
 ·exact .refl m
 split
 ·exact S.trans ⟨dG,rfl,rfl⟩
 ·exact S
theorem CB {c:Cl} {w:Wd} (hG:rT m) (h:zx m w) (hK:Uj fr sl bl m) (hw:Fits fr sl bl w) (hn:wr=true→n=c.da.length) (hp0:c.p=p) (hp:p<m.sp.length) (hv:(bX m p).lv=true) :
  (jU m c n wr).2=(CP w p c n wr).2∧rT (jU m c n wr).1∧zx (jU m c n wr).1 (CP w p c n wr).1∧yL m (jU m c n wr).1:=by
 rcases Nn hG h hp hv c hp0 n wr hn with e|⟨a1,a2,a3⟩
 ·exact absurd e (RP hG (h.cap hG.rt hK hw) hp hv c hp0 n wr)
 ·exact⟨a1,a2,a3,Rk hG hp hv hp0 n wr⟩
theorem FI {c:Cl} (hk:c.k=4):Ff fr sl bl c:=fun m w hG h hK hw _=>Df (x:=fun p=>jU m c c.n false) (y:=fun p=>CP w p c c.n false) hG h
 (by rw[vM m hk (by decide)];unfold sO;simp[hk]) (by rw[CR w hk (by decide)];unfold Kb AB;simp[hk]) fun p hp0 hp hv=>CB hG h hK hw (fun e=>by cases e) hp0 hp hv
theorem Ch {c:Cl} (hk:c.k=5):Ff fr sl bl c:=fun m w hG h hK hw _=>Df (x:=fun p=>jU m c c.da.length true) (y:=fun p=>CP w p c c.da.length true) hG h
 (by rw[vM m hk (by decide)];unfold sO;simp[hk]) (by rw[CR w hk (by decide)];unfold Kb AB;simp[hk]) fun p hp0 hp hv=>CB hG h hK hw (fun _=>rfl) hp0 hp hv
theorem wD {c:Cl} (hk:c.k=4∨c.k=5) (hG:rT m):rT (tT m c).1:=by
 have hS:=Jh hG.rt;have key:∀n wr,(wr=true→n=(c.da.length:Int))→¬ve m c→rT (jU m c n wr).1:=fun n wr hn hb=>by
  obtain⟨p,b⟩:∃p:Nat,c.p=p:=⟨c.p.toNat,by unfold ve at hb;omega⟩;have a:c.p.toNat=p:=by omega
  unfold ve at hb;rw[a] at hb;have hv:(bX m p).lv=true:=by
   cases hv:(bX m p).lv with
   | true=>rfl
   | false=>exact absurd (.inr (.inr hv)) hb
  rcases Nn hG hS (by omega) hv c b n wr hn with e|⟨_,e,_⟩
  ·rw[e];exact hG
  ·exact e
 rcases hk with hk|hk
 ·rw[vM m hk (by decide)];unfold sO
  by_cases hb:ve m c
  ·rw[if_pos hb];exact hG
  simp only[if_neg hb,hk];exact key _ _ (fun e=>by cases e) hb
 rw[vM m hk (by decide)];unfold sO
 by_cases hb:ve m c
 ·rw[if_pos hb];exact hG
 simp only[if_neg hb,hk];exact key _ _ (fun _=>rfl) hb
theorem JR.okm {c:Cl} (h:JR c) (hG:rT m):rT (tT m c).1:=(h m (Jn m) hG (Jh hG.rt)).2.1
def runW:Wd→List Cl→Wd × List An
 | w,[]=>(w,[])
 | w,c::l=>((runW (EE w c).1 l).1,(EE w c).2::(runW (EE w c).1 l).2)
def Ad (fr sl bl:Nat):Wd→List Cl→Prop
 | w,[]=>True
 | w,c::l=>Fits fr sl bl w∧(8<c.k→Fits fr sl bl (Tn w c).1)∧Ad fr sl bl (EE w c).1 l
theorem runW_app:∀(l r:List Cl) (w:Wd),runW w (l++r)=((runW (runW w l).1 r).1,(runW w l).2++(runW (runW w l).1 r).2)
 | [],r,w=>rfl
 | c::l,r,w=>by simp only[BZ,runW,runW_app l r]
theorem Ad.app :∀ {l r:List Cl} {w:Wd},Ad fr sl bl w l→Ad fr sl bl (runW w l).1 r→Ad fr sl bl w (l++r)
 | [],_,_,_,h=>h
 | c::l,r,w,h1,h2=>⟨h1.1,h1.2.1,Ad.app (l:=l) h1.2.2 h2⟩
theorem JD {fr sl bl:Nat}:∀ {l:List Cl} {m:Ma} {w:Wd},(∀c∈l,Ff fr sl bl c)→rT m→zx m w→Uj fr sl bl m→Ad fr sl bl w l→(runC m l).2=(runW w l).2∧rT (runC m l).1∧zx (runC m l).1 (runW w l).1∧Uj fr sl bl (runC m l).1
 | [],m,w,_,h1,h2,h3,_=>⟨rfl,h1,h2,h3⟩
 | c::l,m,w,h0,h1,h2,h3,h4=>by obtain⟨a1,a2,a3,a4⟩:=h0 c (by simp) m w h1 h2 h3 h4.1 h4.2.1;obtain⟨b1,b2,b3,b4⟩:=JD (l:=l) (fun d hd=>h0 d (by simp[hd])) a2 a3 (h3.stay a4) h4.2.2;unfold runC runW;exact⟨by rw[a1,b1],b2,b3,b4⟩
def begW:Wd:=⟨1,fun p=>if p=0 then ⟨true,[],fun _=>none⟩ else zFw,[]⟩
theorem Ut {f s b:Int} (h:(0≤f∧f≤40)∧(0≤s∧s≤60)∧0≤b∧b≤80):zx (iW f s b) begW:=by
 have hi:=KW h;have c:(iW f s b).sp=[⟨true,[],zTb⟩]:=by rw[hi]
 have a:(iW f s b).st=⟨[],b⟩:=by rw[hi]
 have hN:∀p,(bX (iW f s b) p).lv=(begW.ps p).lv∧(bX (iW f s b) p).ar=[]:=fun p=>by
  unfold bX;rw[c];cases p with
  | zero=>exact⟨rfl,rfl⟩
  | succ p=>exact⟨rfl,rfl⟩
 have hW:∀p,(begW.ps p).ar=[]∧∀n,(begW.ps p).own n=none:=fun p=>by
  show (if p=0 then (⟨true,[],fun _=>none⟩:Fw) else zFw).ar=[]∧∀n,(if p=0 then (⟨true,[],fun _=>none⟩:Fw) else zFw).own n=none
  by_cases e:p=0
  ·rw[if_pos e];exact⟨rfl,fun _=>rfl⟩
  ·rw[if_neg e];exact⟨rfl,fun _=>rfl⟩
 refine⟨by rw[c];rfl,fun p=>(hN p).1.symm,fun p=>by rw[(hW p).1,(hN p).2],fun p n => ?_,by rw[a];rfl,fun f hf => ?_,fun f j hf => ?_⟩
 ·rw[(hW p).2];have:fD (iW f s b) p n=none:=by unfold fD;rw[(hN p).2];rfl
  rw[this];exact (rfl:(none:Option Page)=none)
 ·rw[a] at hf;simp at hf
 ·rw[a] at hf;simp at hf
theorem Tj {s:Nat} (h:f≤40∧s≤60∧b≤80):Uj f s b (iW f s b):=by
 rw[KW (f:=(f:Int)) (s:=(s:Int)) (c:=(b:Int)) (by omega)];refine⟨?_,?_,rfl⟩
 ·show (vD (f:Int)).fs.length=f;unfold vD;rw[if_pos (by omega)];simp
 show (Cn (s:Int)).length=s;unfold Cn;rw[if_pos (by omega)];simp
theorem Ny {s:Nat} (h:f≤40∧s≤60∧b≤80) {l:List Cl} (hs:∀c∈l,Ff f s b c) (hf:Ad f s b begW l):(runC (iW f s b) l).2=(runW begW l).2:=
 (JD hs (MN (by omega)) (Ut (by omega)) (Tj h) hf).1
instance (fr sl bl:Nat) (w:Wd):Decidable (Fits fr sl bl w):=decidable_of_iff (1≤fr∧Dt w+Ac w<fr+sl∧Ac w≤bl) ⟨fun h=>⟨h.1,h.2.1,h.2.2⟩,fun h=>⟨h.1,h.2,h.3⟩⟩
def VF (fr sl bl:Nat):Wd→List Cl→Bool
 | w,[]=>true
 | w,c::l=>decide (Fits fr sl bl w)&&(!decide (8<c.k)||decide (Fits fr sl bl (Tn w c).1))&&VF fr sl bl (EE w c).1 l
theorem Nr {fr sl bl:Nat}:∀ {l:List Cl} {w:Wd},VF fr sl bl w l=true→Ad fr sl bl w l
 | [],_,_=>trivial
 | c::l,w,h=>by unfold VF at h;simp only[dh,qJ,pJ,decide_eq_true_eq,decide_eq_false_iff_not] at h;exact⟨h.1.1,fun h8=>by rcases h.1.2 with h | h;exact absurd h8 h;exact h,Nr h.2⟩
def kG (a n:Int):Cl:=⟨1,0,a,n,-1,0,true,true,false,[]⟩
def pI (p a:Int) (b:UInt8):Cl:=⟨5,p,a,0,0,0,false,false,false,[b]⟩
def oL (p a:Int):Cl:=⟨4,p,a,1,0,0,false,false,false,[]⟩
def aliveL:List Cl:=[kG 0 1,pI 0 3 9,oL 0 3]
theorem alive_fit:Ad 2 2 0 begW aliveL:=Nr (by decide +kernel)
theorem alive_step:∀c∈aliveL,Ff 2 2 0 c:=fun c hc=>by
 have hc:c∈[kG 0 1,pI 0 3 9,oL 0 3]:=hc;simp only[fE,nZ,or_false] at hc;rcases hc with rfl|rfl|rfl
 ·exact (zg rfl).fit 2 2 0
 ·exact Ch rfl
 ·exact FI rfl
theorem alive_run:(runW begW aliveL).2=[⟨0,0,[]⟩,⟨0,1,[]⟩,⟨0,1,[9]⟩]:=by decide +kernel
def Ul (x:Cr):Prop:=∀(H:MH) (w:World),rT H.ma→Ga w H→vU w x→Calls Tryz.prog 26 #[.agg (bW H),.agg (mM x.c x.a x.cap)] w (xA H x.c w)
theorem Gt {x:Cr} (h7:x.c.k≤7) (h:∀(m:Ma) (P:Nat),rT m→x.c.p=P→P<m.sp.length→(bX m P).lv=true→x.c.da.length≤x.cap→x.cap≤maxLen→(x.a=none→x.cap=0)→uh x.c.a∧uh x.c.n→Vs m x.c x.a x.cap P):Ul x:=
 fun H w hG hr hx=>Uh H x.c x.a x.cap w hr hG (fun W hb=>hx.rd.below hb) (fun P _ e1 e2 e3=>h H.ma P hG e1 e2 e3 hx.le hx.mx hx.nl hx.b64) (fun e=>by omega) (fun e=>by omega)
theorem QQ {x:Cr} (hk:x.c.k=1):Ul x:=Gt (by omega) fun m P hG hp hpl hv hle hmx hnl h64=>
 ⟨fun _ H gc B b w e k hc hrd=>by subst e;exact Jo H x.c x.a x.cap gc B b P w k hG.rt hG.co hc hrd hle hmx hnl hp (by rw[←tQ];exact hpl) h64,fun e=>by omega,fun e=>by omega,fun e=>by omega,fun e=>by omega,fun e=>by omega,fun e=>by omega⟩
theorem Ni {x:Cr} (hk:x.c.k=4):Ul x:=Gt (by omega) fun m P hG hp hpl hv hle hmx hnl h64=>
 ⟨fun e=>by omega,fun e=>by omega,fun e=>by omega,fun _ H gc B b w e k hc hrd=>by subst e;exact Ck H x.c x.c.n false x.a x.cap gc B b w k hG.rt hG.co hG.fiok hc hrd hle hmx hnl h64.1 P hp (by rw[←tQ];exact hpl) hv,fun e=>by omega,fun e=>by omega,fun e=>by omega⟩
theorem Jc {x:Cr} (hk:x.c.k=5):Ul x:=Gt (by omega) fun m P hG hp hpl hv hle hmx hnl h64=>
 ⟨fun e=>by omega,fun e=>by omega,fun e=>by omega,fun e=>by omega,fun _ H gc B b w e k hc hrd=>by subst e;exact Ck H x.c x.c.da.length true x.a x.cap gc B b w k hG.rt hG.co hG.fiok hc hrd hle hmx hnl h64.1 P hp (by rw[←tQ];exact hpl) hv,fun e=>by omega,fun e=>by omega⟩
def vN (x:An):UInt8:=if x.e≠0∨x.da.length<1 then 255 else x.da.getD 0 0
theorem Du (a n:Int) (w:World):Calls Tryz.prog 14 #[.int .i64 a,.int .i64 n] w fun r w'=>r = .returned (.agg (mM (kG a n) none 0))∧Below w.heap.size w w':=by
 go_enter func14,ntmps14
 go_wp2_with (refine aT rfl _ _ _ rfl (mM (kG a n) none 0) rfl rfl rfl call_size (wO _ _ _) ?_)
 intro w1 b bx1;go_wp2;refine bodyPost_ret (v:=.agg (mM (kG a n) none 0)) (aY results14 _ _ w.heap.size _ _ _ rfl bx1 underlying25 rfl call_size) rfl ?_;exact⟨rfl,b⟩
theorem EB (p a:Int) (w:World):Calls Tryz.prog 16 #[.int .i64 p,.int .i64 a] w fun r w'=>r = .returned (.agg (mM (oL p a) none 0))∧Below w.heap.size w w':=by
 go_enter func16,ntmps16
 go_wp2_with (refine aT rfl _ _ _ rfl (mM (oL p a) none 0) rfl rfl rfl call_size (wO _ _ _) ?_)
 intro w1 b bx1;go_wp2;refine bodyPost_ret (v:=.agg (mM (oL p a) none 0)) (aY results16 _ _ w.heap.size _ _ _ rfl bx1 underlying25 rfl call_size) rfl ?_;exact⟨rfl,b⟩
theorem Ez (p a:Int) (x:UInt8) (w:World):Calls Tryz.prog 15 #[.int .i64 p,.int .i64 a,.int .u8 x.toNat] w fun r w' => ∃g,r = .returned (.agg (mM (pI p a x) (some ⟨g,0,none⟩) 1))∧Own w' w.heap.size 5 1 (.slice (some ⟨g,0,none⟩) 1 1) 1 [oG x]∧Below w.heap.size w w':=by
 go_enter func15,ntmps15;go_upto_region 1 with (fail);refine jl (fun W=>Code.wp _ _ _ _ W) fun w1 h bx1 l => ?_;clear l;have i:=(Below.refl w1.heap.size w1).alloc (az _) (.cells #[.int .u8 x.toNat] 5);have bx2:=bx1.ext i;have f:=ah h i;have c:Own (w1.alloc (.cells #[.int .u8 x.toNat] 5)) w.heap.size 5 1 (.slice (some ⟨w1.heap.size,0,none⟩) 1 1) 1 [oG x]:=⟨rfl,.inr ⟨w1.heap.size,0,1,_,rfl,h.size,aJ.new _ _ _,az 1,by unfold maxLen;decide,az 1,fun j u hj=>by
  match j with
  | 0=>simpa[oG] using hj
  | j+1=>simp at hj⟩⟩
 have m:w.heap.size<w1.heap.size:=bx1.lt
 go_wp2_with (refine ax rfl _ _ _ rfl w.heap.size (mM (pI p a x) (some ⟨w1.heap.size,0,none⟩) 1) rfl rfl _ _ bx2 rfl call_size (wO _ _ _) ?_)
 intro w2 bx3 d;have b:=ay c bx2 (by decide) d;have e:=f.grown d f.size (fun k hk=>by cases hk;exact az _);go_wp2;refine bodyPost_ret (v:=.agg (mM (pI p a x) (some ⟨w1.heap.size,0,none⟩) 1)) (aY results15 _ _ w.heap.size _ _ _ rfl bx3 underlying25 rfl call_size) rfl ?_;exact⟨_,rfl,b,e⟩
theorem AL (x:An) (ad:Option Addr) (cd:Nat) (w:World) (h:eB w ad (x.da.map oG)) (hl:x.da.length≤cd) :
  Calls Tryz.prog 18 #[.agg (fT x.e x.n (.slice ad x.da.length cd))] w fun r w'=>r = .returned (.int .u8 (vN x).toNat)∧Below w.heap.size w w':=by
 go_enter func18,ntmps18;go_upto_region 1 with (fail);refine jl (fun W=>Code.wp _ _ _ _ W) fun w1 a bx1 c => ?_;clear c;have bx1:aJ w1 w.heap.size (fT x.e x.n (.slice ad x.da.length cd)) 52:=bx1;have d:=h.below a;have hc:=bx1.cell;unfold fT at hc
 by_cases he:x.e=0
 ·have f : (x.e==0)=true:=by simpa using he
  by_cases hd:x.da.length<1
  ·have hX:Hid (vN x=255):=ae (by unfold vN;rw[if_pos (.inr hd)]);have g:(x.da.length:Int)<1:=by omega
   go_wp2;go_ret;exact⟨by rw[hX.out];rfl,a⟩
  have g:¬(x.da.length:Int)<1:=by omega
  obtain⟨u,hu⟩:∃u,x.da[0]?=some u:=⟨_,aN (by omega)⟩;have hX:Hid (vN x=u):=ae (by unfold vN;rw[if_neg (by rintro (e | e);exact e he;exact hd e),bM,hu];rfl);obtain⟨bd,od,i,b⟩:=d 0 (oG u) (by rw[iY,hu];rfl);rw[i] at hc;have b:w1.cell? ⟨bd,od,none⟩=some (.int .u8 u.toNat):=by simpa[oG] using b
  have j:(0:Int)<(x.da.length:Int):=by omega
  go_wp2;go_ret;exact⟨by rw[hX.out];rfl,a⟩
 have hX:Hid (vN x=255):=ae (by unfold vN;rw[if_pos (.inl he)]);have f : (x.e==0)=false:=by simpa using he
 go_wp2;go_ret;exact⟨by rw[hX.out];rfl,a⟩
theorem vU.nil {c:Cl} (hd:c.da=[]) (h:uh c.a∧uh c.n):vU w ⟨c,Option.none,0⟩:=by
 refine⟨?_,by show c.da.length≤0;rw[hd];exact az 0,bB _,fun _=>rfl,h⟩;show eB w Option.none (c.da.map oG);rw[hd];exact fun j u hj=>by simp at hj
theorem vU.own {c:Cl} (ho:Own w B 5 1 (.slice ad c.da.length cp) c.da.length (c.da.map oG)) (h:uh c.a∧uh c.n):vU w ⟨c,ad,cp⟩:=by
 obtain⟨a,c',e,h1,h2,h3,h4⟩:=ho.rd;simp only[lH,true_and] at e;obtain⟨rfl,rfl⟩:=e;exact⟨h4,h1,h2,h3,h⟩
theorem Si {n:Nat} {al:List (An × Value)} (h:sU w B (.slice a n c) al) {x:An × Value} (hi:al[i]?=some x) :
  n=al.length∧∃b o ad cd,a=some ⟨b,o,none⟩∧x.2 = .slice ad x.1.da.length cd∧eB w (some ⟨b,o+i*3,none⟩) [.int .i64 x.1.e,.int .i64 x.1.n,.slice ad x.1.da.length cd]∧eB w ad (x.1.da.map oG)∧x.1.da.length≤cd:=by
 obtain⟨hl,hx⟩:=dx.1 hi;obtain⟨a',c',e,_,_,_,hr⟩:=h.own.rd;simp only[lH] at e;obtain⟨rfl,e2,_⟩:=e;obtain⟨b,o,ha,d⟩:=pG (sz:=3) (enc:=fun x:An × Value=>(fT x.1.e x.1.n x.2).toList) (fun _=>rfl) (by decide) hr i hl;obtain⟨ad,cd,e3,h1,_,_,h4⟩:=(h.each x (by rw[←hx];exact eZ hl)).rd;refine⟨e2,b,o,ad,cd,ha,e3,?_,h4,h1⟩;rw[hx] at d;rw[←e3];exact d
theorem Kh (w:World):Calls Tryz.prog 13 #[] w fun r w'=>r = .returned (.bool true)∧Below w.heap.size w w':=by
 go_enter func13,ntmps13;go_upto_region 1 with (fail)
 go_wp2_with fail
 refine (Du 0 1 _).mono ?_;rintro r w1 ⟨rfl,hk⟩;unfold mM kG;dsimp only
 go_wp2_with fail
 refine (Ez 0 3 9 _).mono ?_;rintro r w2 ⟨g,rfl,hf,hj⟩;unfold mM pI;dsimp only;have n:=ah hk hj
 go_wp2_with fail
 refine (EB 0 3 _).mono ?_;rintro r w3 ⟨rfl,q⟩;unfold mM oL;dsimp only;have k:=ah n q;have hd:=hf.below q;clear hk hj n hf q
 go_wp2_with fail
 have t:=(Below.refl w3.heap.size w3).alloc (az _) (.cells #[.int .i64 1,.int .i64 0,.int .i64 0,.int .i64 1,.int .i64 (-1),.int .i64 0,.bool true,.bool true,.bool false,.slice none 0 0,.int .i64 5,.int .i64 0,.int .i64 3,.int .i64 0,.int .i64 0,.int .i64 0,.bool false,.bool false,.bool false,.slice (some ⟨g,0,none⟩) 1 1,.int .i64 4,.int .i64 0,.int .i64 3,.int .i64 1,.int .i64 0,.int .i64 0,.bool false,.bool false,.bool false,.slice none 0 0] 25);have j:=ah k t;have hc:=hd.below t;have hP:=Fz 2 2 0 (some ⟨w3.heap.size,0,none⟩) 3 [⟨kG 0 1,none,0⟩,⟨pI 0 3 9,some ⟨g,0,none⟩,1⟩,⟨oL 0 3,none,0⟩] _ (by decide) (eB.new w3 _ 25) (fun x hx=>by
  simp only[fE,nZ,or_false] at hx;rcases hx with rfl|rfl|rfl
  ·exact vU.nil rfl (by unfold uh;decide)
  ·exact vU.own hc (by unfold uh;decide)
  ·exact vU.nil rfl (by unfold uh;decide)) (fun x hx=>by
  simp only[fE,nZ,or_false] at hx;rcases hx with rfl|rfl|rfl
  ·exact QQ rfl
  ·exact Jc rfl
  ·exact Ni rfl) (fun x hx=>by
  simp only[fE,nZ,or_false] at hx;rcases hx with rfl|rfl|rfl
  ·exact fun m hG=>(zg rfl).okm hG
  ·exact fun m hG=>wD (.inr rfl) hG
  ·exact fun m hG=>wD (.inl rfl) hG)
 refine hP.mono ?_;rintro r w5 ⟨hi,H5,v,al,e,rfl,hm,u,p⟩;rcases p with ⟨hbad,_⟩|⟨_,_,rfl,hm5,hal5⟩
 ·exfalso;simp only[bF,bI,nz,wu] at hbad;omega
 have d:al.map Prod.fst=[⟨0,0,[]⟩,⟨0,1,[]⟩,⟨0,1,[9]⟩]:=hal5.trans ((Ny (f:=2) (s:=2) (b:=0) (by decide) alive_step alive_fit).trans alive_run);have c:al.length=3:=by have:=congrArg List.length d;simpa using this
 obtain⟨x,hx⟩:∃x,al[2]?=some x:=⟨_,aN (by omega)⟩;have y:x.1=⟨0,1,[9]⟩:=by have:=congrArg (fun l=>l[2]?) d;simp only[iY,hx] at this;simpa using this
 obtain⟨av,cv,rfl,_⟩:=u.own.rd;obtain⟨_,bv,ov,ad,cd,hl,_,o,a,hb⟩:=Si u hx;have i:=ah j hi;rw[y] at o a hb;have hn:=ae c;rw[hl,c];clear hP t j hc hm u hm5 hal5 d hx y hi k hd hl c
 go_wp2_with (refine aT rfl _ _ _ rfl (bW H5) rfl rfl rfl mach_size (eU _) ?_)
 intro w6 h mx6;have ha:=o.below h;have z:=a.below h;have hh:=ah i h;clear o a h i mx6
 go_wp2_with (refine aC _ _ rfl bv (ov+2*3) rfl rfl _ ha _ underlying52 rfl ans_size ?_)
 refine (AL ⟨0,1,[9]⟩ ad cd _ z hb).mono ?_;rintro r w7 ⟨rfl,hp⟩;have hg:=ah hh hp;go_wp2;go_ret;exact⟨rfl,hg⟩
structure nN (w:World) (B:Nat) (v:Value) (l:List Cr):Prop where
 own:Own w B 25 10 v l.length (l.flatMap UO)
 each:∀x∈l,Own w B 5 1 (.slice x.a x.c.da.length x.cap) x.c.da.length (x.c.da.map oG)
 b64:∀x∈l,uh x.c.a∧uh x.c.n
theorem nN.below {l:List Cr} (h:nN w B v l) (hb:Below w.heap.size w w'):nN w' B v l:=⟨h.own.below hb,fun x hx=>(h.each x hx).below hb,h.b64⟩
theorem nN.rd {l:List Cr} (h:nN w B v l):∃a c,v = .slice a l.length c∧eB w a (l.flatMap UO)∧∀x∈l,vU w x:=by
 obtain⟨a,c,e,_,_,_,hr⟩:=h.own.rd;exact⟨a,c,e,hr,fun x hx=>vU.own (h.each x hx) (h.b64 x hx)⟩
theorem call_info:(Tryz.prog.info? 25).map (fun i=>(i.zero,i.size,i.bytes))=some (some (.agg #[.int .i64 0,.int .i64 0,.int .i64 0,.int .i64 0,.int .i64 0,.int .i64 0,.bool false,.bool false,.bool false,.slice none 0 0]),10,80):=by kernel_rfl
theorem QP {n m:Nat} (ho:Own w B T0 sz v n xs) (hg:w.grownBy w' v.ownBlock) (h:Own w B' T sz' u m ys) (hT:T≠T0):Own w' B' T sz' u m ys:=by
 cases hr:v.ownBlock with
 | none=>rw[hr] at hg;exact jr h hg
 | some g=>
  rw[hr] at hg;obtain⟨cs,hb⟩:=rO ho g hr;exact ay h hb (fun e=>hT e.symm) hg
theorem nN.more {l news:List Cr} (h:nN w1 B v l) (hn:∀x∈news,Own w1 B 5 1 (.slice x.a x.c.da.length x.cap) x.c.da.length (x.c.da.map oG)) (hb:∀x∈news,uh x.c.a∧uh x.c.n)
 (hg:w1.grownBy wa v.ownBlock) (own2:Own wa B 25 10 v2 (l.length+news.length) (l.flatMap UO++news.flatMap UO)):nN wa B v2 (l++news):=by
 refine⟨by rw[iK,gK];exact own2,fun x hx => ?_,fun x hx => ?_⟩
 ·rcases jK.1 hx with hx|hx
  ·exact QP h.own hg (h.each x hx) (by decide)
  ·exact QP h.own hg (hn x hx) (by decide)
 rcases jK.1 hx with hx|hx
 ·exact h.b64 x hx
 ·exact hb x hx
theorem Np {n:Nat} {al:List (An × Value)} {L:List An} (h:sU w B (.slice a n c) al) (hL:al.map Prod.fst=L) {x:An} (hi:L[i]?=some x) :
  n=L.length∧∃b o ad cd,a=some ⟨b,o,none⟩∧eB w (some ⟨b,o+i*3,none⟩) [.int .i64 x.e,.int .i64 x.n,.slice ad x.da.length cd]∧eB w ad (x.da.map oG)∧x.da.length≤cd:=by
 subst hL;rw[iY] at hi;cases hx:al[i]? with
 | none=>rw[hx] at hi;cases hi
 | some y=>
  rw[hx] at hi;cases hi;obtain⟨h1,b,o,ad,cd,h2,_,h3,h4,h5⟩:=Si h hx;exact⟨by rw[fP];exact h1,b,o,ad,cd,h2,h3,h4,h5⟩
def lJ (k:Nat):Int:=8*(k:Int)+(k:Int)%8
def DK (v:Nat→UInt8) (n:Nat):List Cl:=(List.range n).map fun k=>pI 0 (lJ k) (v k)
def AX (n:Nat):List Cl:=(List.range n).map fun k=>oL 0 (lJ k)
def oI (n:Nat) (v:Nat→UInt8) (j:Nat):Wd:=⟨1,fun p=>if p=0 then ⟨true,[⟨0,n,true,true,false,-1,0⟩],fun i=>if 0≤i∧i<j then some (dw zPg (i%8) [v i.toNat]) else none⟩ else zFw,[]⟩
theorem DD {n:Nat} {i:Int}:onA [⟨0,n,true,true,false,-1,0⟩] i=if 0≤i∧i<n then some ⟨true,true,false,-1,0⟩ else none:=by
 rw[jb]
 by_cases h:0≤i∧i<n
 ·rw[if_pos h,if_pos (mR.2 h)];rfl
 ·rw[if_neg h,if_neg (fun e=>h (mR.1 e))];rfl
theorem Uk {n:Nat} (v:Nat→UInt8) (h1:1≤n) (h2:n≤22):EE begW (kG 0 n)=(oI n v 0,⟨0,0,[]⟩):=by
 have hm:lK [] ⟨0,n,true,true,false,-1,0⟩=0∧iD [] ⟨0,n,true,true,false,-1,0⟩=[⟨0,n,true,true,false,-1,0⟩]:=by
  have:∀n:Fin 23,1≤n.val→lK [] ⟨0,(n.val:Int),true,true,false,-1,0⟩=0∧iD [] ⟨0,(n.val:Int),true,true,false,-1,0⟩=[⟨0,(n.val:Int),true,true,false,-1,0⟩]:=by decide +kernel
  exact this ⟨n,by omega⟩ h1
 unfold EE kG;simp only;rw[if_neg (by decide),if_pos (by decide)];unfold Kb;rw[if_neg (by show ¬((0:Int)<0∨((1:Nat):Int)≤0∨(begW.ps 0).lv=false);decide)];simp only;rw[if_pos trivial];unfold Pe LC;simp only;rw[if_neg (show ¬(0:Int)<0 by decide)];rw[if_neg (by omega),if_neg (by show ¬((begW.fl.length:Int)≤-1);decide)];have e:(begW.ps (0:Int).toNat).ar=[]:=rfl;rw[e,Int.zero_add,if_neg (by rw[hm.1];simp),hm.2];refine Br ?_ rfl;unfold Gw oI begW;simp only;congr 1;funext q
 by_cases hq:q=0
 ·subst hq;simp only[Int.toNat_zero,if_true];congr 1;funext i;rw[if_neg (by omega)]
 ·rw[if_neg hq,if_neg (by simpa using hq),if_neg hq]
theorem Rj (k:Nat):lJ k / 8=k∧lJ k%8=(k:Int)%8∧ny (lJ k) 1=true:=by
 unfold lJ ny;refine⟨by omega,by omega,?_⟩;simp only[dh,decide_eq_true_eq];omega
theorem Td {n:Nat} (v:Nat→UInt8) (hj:j<n):EE (oI n v j) (pI 0 (lJ j) (v j))=(oI n v (j+1),⟨0,1,[]⟩):=by
 obtain⟨p1,p2,p3⟩:=Rj j;unfold EE pI;simp only;rw[if_neg (by decide),if_pos (by decide)];unfold Kb;rw[if_neg (by show ¬((0:Int)<0∨((1:Nat):Int)≤0∨((oI n v j).ps (0:Int).toNat).lv=false);simp[oI])];simp only;rw[if_neg (by decide),if_neg (by decide),if_neg (by decide),if_neg (by decide),if_pos trivial];unfold CP;simp only[Bt];have e:((oI n v j).ps (0:Int).toNat).ar=[⟨0,n,true,true,false,-1,0⟩]:=rfl;have eo:((oI n v j).ps (0:Int).toNat).own (j:Int)=none:=by show (if 0≤(j:Int)∧(j:Int)<(j:Int) then some (dw zPg ((j:Int)%8) [v (j:Int).toNat]) else none)=none;rw[if_neg (by omega)]
 have epg:Mw (oI n v j) (0:Int).toNat (j:Int)=(zPg,8,0):=by unfold Mw;rw[e,DD,if_pos (by omega),eo];rfl
 rw[if_neg (by rw[show ((1:Nat):Int)=1 from rfl,p3];decide),p1,e,DD,if_pos (by omega),p2,epg];simp only;rw[if_neg (by decide),if_neg (by decide),if_neg (by simp),if_neg (by decide),if_neg (by decide)];refine Br ?_ rfl;unfold Gw WJ oI;simp only;congr 1;funext q
 by_cases hq:q=0
 ·subst hq;simp only[Int.toNat_zero,if_true];congr 1;funext i
  by_cases hi:i=(j:Int)
  ·rw[if_pos hi,if_pos (by omega),hi,bD]
  rw[if_neg hi]
  by_cases h2:0≤i∧i<(j:Int)
  ·rw[if_pos h2,if_pos (by omega)]
  ·rw[if_neg h2,if_neg (by omega)]
 ·rw[if_neg (by simpa using hq),if_neg hq,if_neg hq]
theorem swp_get {n:Nat} (v:Nat→UInt8) (hj:j<n):EE (oI n v n) (oL 0 (lJ j))=(oI n v n,⟨0,1,[v j]⟩):=by
 obtain⟨p1,p2,p3⟩:=Rj j;unfold EE oL;simp only;rw[if_neg (by decide),if_pos (by decide)];unfold Kb;rw[if_neg (by show ¬((0:Int)<0∨((1:Nat):Int)≤0∨((oI n v n).ps (0:Int).toNat).lv=false);simp[oI])];simp only;rw[if_neg (by decide),if_neg (by decide),if_neg (by decide),if_pos trivial];unfold CP;have e:((oI n v n).ps (0:Int).toNat).ar=[⟨0,n,true,true,false,-1,0⟩]:=rfl;have eo:((oI n v n).ps (0:Int).toNat).own (j:Int)=some (dw zPg ((j:Int)%8) [v j]):=by show (if 0≤(j:Int)∧(j:Int)<(n:Int) then some (dw zPg ((j:Int)%8) [v (j:Int).toNat]) else none)=_;rw[if_pos (by omega),bD]
 have epg:Mw (oI n v n) (0:Int).toNat (j:Int)=(dw zPg ((j:Int)%8) [v j],8,0):=by unfold Mw;rw[e,DD,if_pos (by omega),eo]
 rw[if_neg (by rw[p3];decide)];simp only;rw[p1,e,DD,if_pos (by omega),p2,epg];simp only;rw[if_neg (by decide),if_neg (by decide),if_neg (by simp),if_pos trivial];have hg:qW (dw zPg ((j:Int)%8) [v j]) ((j:Int)%8) 1=[v j]:=by
  rw[Tf (by omega)];obtain⟨i,hi⟩:∃i:Nat,(j:Int)%8=i:=⟨((j:Int)%8).toNat,by omega⟩;rw[hi];have b:i<8:=by omega
  apply nO;intro q;rw[jN]
  by_cases hq:q<(1:Int).toNat
  ·have a:q=0:=by have:(1:Int).toNat=1:=rfl;omega
   subst a;rw[if_pos hq,nK,bD,aN (by simp;omega)];simp only[Vector.getElem_toList,kU];rw[rM _ _ _ (by omega) _ b,bD,if_pos (az _),Bl];rfl
  ·rw[if_neg hq,fo (by have:(1:Int).toNat=1:=rfl;simp;omega)]
 rw[hg]
theorem MX {n:Nat} (v:Nat→UInt8) (h1:1≤fr) (h2:n<fr+sl) (hn:n≤64):Fits fr sl 0 (oI n v j):=by
 have hp:Dt (oI n v j)≤n:=by
  unfold Dt EN oI;simp only[List.range_one,yl,fP];have:((List.range 64).filter fun i:Nat=>MP [⟨0,n,true,true,false,-1,0⟩] i).length≤(List.range n).length:=by
   refine Bo (Bw BC wH) fun i hi => ?_;have hi:=(rU.1 hi).2;unfold MP at hi;rw[DD] at hi;rw[bV]
   by_cases h:0≤(i:Int)∧(i:Int)<n
   ·omega
   ·rw[if_neg h] at hi;cases hi
  simpa using this
 exact⟨h1,by show Dt _+0<_;omega,bB _⟩
theorem JG {fr sl n:Nat} (v:Nat→UInt8) (h1:1≤fr) (h2:n<fr+sl) (hn:n≤64):∀j:Nat,j≤n→runW (oI n v 0) (DK v j)=(oI n v j,(List.range j).map fun _=>⟨0,1,[]⟩)∧Ad fr sl 0 (oI n v 0) (DK v j)
 | 0,_=>⟨rfl,trivial⟩
 | j+1,hj=>by
  obtain⟨i1,i2⟩:=JG v h1 h2 hn j (by omega);have e:DK v (j+1)=DK v j++[pI 0 (lJ j) (v j)]:=by unfold DK;rw[qB,gX];rfl
  have hd:=Td v (n:=n) (j:=j) (by omega);rw[e];refine⟨?_,i2.app ⟨by rw[i1];exact MX v h1 h2 hn,fun h8=>absurd h8 (by show ¬(8:Int)<5;decide),trivial⟩⟩;rw[runW_app,i1];unfold runW runW;rw[hd,qB,gX];rfl
theorem IW {fr sl n:Nat} (v:Nat→UInt8) (h1:1≤fr) (h2:n<fr+sl) (hn:n≤64):∀j:Nat,j≤n→runW (oI n v n) (AX j)=(oI n v n,(List.range j).map fun k=>⟨0,1,[v k]⟩)∧Ad fr sl 0 (oI n v n) (AX j)
 | 0,_=>⟨rfl,trivial⟩
 | j+1,hj=>by
  obtain⟨i1,i2⟩:=IW v h1 h2 hn j (by omega);have e:AX (j+1)=AX j++[oL 0 (lJ j)]:=by unfold AX;rw[qB,gX];rfl
  have hd:=swp_get v (n:=n) (j:=j) (by omega);rw[e];refine⟨?_,i2.app ⟨by rw[i1];exact MX v h1 h2 hn,fun h8=>absurd h8 (by show ¬(8:Int)<4;decide),trivial⟩⟩;rw[runW_app,i1];unfold runW runW;rw[hd,qB,gX];rfl
def Vo (n:Nat) (v:Nat→UInt8):List Cl:=kG 0 n::(DK v n++AX n)
theorem TI {n:Nat} (v:Nat→UInt8) (h1:1≤fr) (h2:n<fr+sl) (hn1:1≤n) (hn:n≤22) :
  (runW begW (Vo n v)).2=⟨0,0,[]⟩::((List.range n).map (fun _=>(⟨0,1,[]⟩:An))++(List.range n).map fun k=>⟨0,1,[v k]⟩)∧Ad fr sl 0 begW (Vo n v):=by
 obtain⟨a1,a2⟩:=JG v h1 h2 (by omega:n≤64) n (az n);obtain⟨b1,b2⟩:=IW v h1 h2 (by omega:n≤64) n (az n);have hm:=Uk v hn1 hn;have hf:Fits fr sl 0 begW:=⟨h1,by show 0+0<fr+sl;omega,bB _⟩;unfold Vo;refine⟨?_,hf,fun h8=>absurd h8 (by show ¬(8:Int)<1;decide),?_⟩
 ·unfold runW;rw[hm];simp only;rw[runW_app,a1,b1]
 rw[hm];exact a2.app (by rw[a1];exact b2)
def Ii (seed:Int) (k:Nat):UInt8:=UInt8.ofNat (((k:Int)+seed.tmod 7)%256).toNat
theorem MR (seed:Int) (k:Nat):IntKind.u8.wrap ((k:Int)+seed.tmod 7)=((Ii seed k).toNat:Int):=by
 unfold Ii;have h1:0≤((k:Int)+seed.tmod 7)%256:=Int.emod_nonneg _ (by decide);have h2:((k:Int)+seed.tmod 7)%256<256:=Int.emod_lt_of_pos _ (by decide);have h3:IntKind.u8.wrap ((k:Int)+seed.tmod 7)=((k:Int)+seed.tmod 7)%256:=rfl;rw[h3,UInt8.toNat_ofNat'];have:(((k:Int)+seed.tmod 7)%256).toNat%2 ^ 8=(((k:Int)+seed.tmod 7)%256).toNat:=rY (by omega);rw[this];omega
theorem Qo (fr sl seed:Int) (w:World) (hs64:uh seed):Calls Tryz.prog 3 #[.int .i64 fr,.int .i64 sl,.int .i64 seed] w fun r w'=>r = .returned (.bool true)∧Below w.heap.size w w':=by
 go_enter func3,ntmps3;go_upto_region 1 with (fail)
 go_wp2_with fail
 refine (Kh _).mono ?_;rintro r w1 ⟨rfl,z⟩
 by_cases h1:fr<2
 ·go_wp2;go_ret;exact⟨rfl,z⟩
 by_cases h2:12<fr
 ·go_wp2;go_ret;exact⟨rfl,z⟩
 by_cases h3:sl<0
 ·go_wp2;go_ret;exact⟨rfl,z⟩
 by_cases h4:12<sl
 ·go_wp2;go_ret;exact⟨rfl,z⟩
 have hW:IntKind.i64.wrap (fr+sl)=fr+sl:=bP _ (by omega);have hV:IntKind.i64.wrap (fr+sl-2)=fr+sl-2:=bP _ (by omega)
 by_cases h5:fr+sl-2<1
 ·go_wp2;go_ret;exact⟨rfl,z⟩
 go_upto_region 8 with (fail);have d5:decide (fr+sl-2<1)=false:=decide_eq_false (show ¬fr+sl-2<1 by omega);simp only[decide_eq_false (show ¬fr<2 by omega),decide_eq_false (show ¬12<fr by omega),decide_eq_false (show ¬sl<0 by omega),decide_eq_false (show ¬12<sl by omega),d5,Bool.or_false];obtain⟨n,hn⟩:∃n:Nat,fr+sl-2=n:=⟨(fr+sl-2).toNat,by omega⟩;rw[hn];have hg : Hid (1≤n∧n≤22):=ae (by omega);have hO:Hid ((2≤fr∧fr≤12)∧(0≤sl∧sl≤12)∧fr+sl-2=n):=ae (by omega);clear hn d5 h1 h2 h3 h4 h5 hW hV
 go_wp2_with fail
 refine (Du 0 n _).mono ?_;rintro r w2 ⟨rfl,hT⟩;unfold mM kG;simp only[wu];have hm:=ah z hT;have hr:nN (w2.alloc (.cells (mM (kG 0 n) none 0) 25)) w.heap.size (.slice (some ⟨w2.heap.size,0,none⟩) 1 1) [⟨kG 0 n,none,0⟩]:=⟨⟨rfl,.inr ⟨w2.heap.size,0,1,_,rfl,hm.size,aJ.new _ _ _,az 1,by unfold maxLen;decide,az 10,fun j u hj=>by rw[dA];rw[yl] at hj;simpa[UO] using hj⟩⟩,fun x hx=>by rw[bN.1 hx];exact Own.nil _ _ _ _,fun x hx=>by rw[bN.1 hx];have:=hg.out;exact⟨⟨by show (-9223372036854775808:Int)≤0;decide,by show (0:Int)≤9223372036854775807;decide⟩,by show (-9223372036854775808:Int)≤n;omega,by show (n:Int)≤9223372036854775807;omega⟩⟩;have hw:=ah hm ((Below.refl w2.heap.size w2).alloc (az _) (.cells (mM (kG 0 n) none 0) 25));obtain⟨v,hv⟩:∃v,Hid (v=Ii seed):=⟨_,ae rfl⟩;go_upto_region 10 with (fail)
 go_loopw [41,8] (fun s41 s8 wr => ∃(k:Nat) (L:List Cr),k≤n∧s41 = .int .i64 k∧Below w.heap.size w wr∧nN wr w.heap.size s8 L∧Hid (L.map Cr.c=kG 0 n::DK v k∧L.length=k+1)) (fun s41 _ _=>n-(intOf s41).toNat)
 case atStart=>exact⟨0,_,bB _,rfl,hw,hr,ae ⟨rfl,rfl⟩⟩
 case round=>
  clear hw hr hm z hT;obtain⟨k,L,hk,rfl,a,hc,hL⟩:=hrel;have h7:=hg.out.2;obtain⟨av,cv,rfl,_⟩:=hc.rd
  by_cases hkl:k<n
  ·have ka:(k:Int)<(n:Int):=by omega
   have e1:IntKind.i64.wrap (8*(k:Int))=8*(k:Int):=bP _ (by omega);have e2:(k:Int).tmod 8=(k:Int)%8:=Bu (by omega);have e2' : IntKind.i64.wrap ((k:Int)%8)=(k:Int)%8:=bP _ (by omega);have e3:IntKind.i64.wrap (8*(k:Int)+(k:Int)%8)=8*(k:Int)+(k:Int)%8:=bP _ (by omega);have hH : -7<seed.tmod 7∧seed.tmod 7<7:=by have h1:=Int.tmod_lt_of_pos seed (by decide:(0:Int)<7);have h2:=Int.lt_tmod_of_pos seed (by decide:(0:Int)<7);omega
   have e4:IntKind.i64.wrap (seed.tmod 7)=seed.tmod 7:=bP _ (by omega);have e5:IntKind.i64.wrap ((k:Int)+seed.tmod 7)=(k:Int)+seed.tmod 7:=bP _ (by omega);have e6:=MR seed k
   go_wp2_with fail
   refine (Ez 0 (lJ k) (Ii seed k) _).mono ?_;rintro r w4 ⟨g,rfl,hN,y⟩;unfold mM pI;simp only[Bt];have d:=ah a y;have t:=hc.below y;have ho:=t.own;have h6:L.length≤50:=by have:=hL.out.2;omega
   have hM:=hN.mono a.size;clear hc y hN e1 e2 e2' e3 e4 e5 e6
   go_wp2_with (at_builtin;go_must (refine qZ rfl _ _ 27 rfl w.heap.size 25 _ 10 80 underlying27 call_info rfl (by decide) _ L.length _ rfl (ho.alloc _) (some ⟨w4.heap.size,0,none⟩) 1 1 (UO ⟨pI 0 (lJ k) (Ii seed k),some ⟨g,0,none⟩,1⟩) rfl (fun h=>(by cases h)) (az _) rfl (eB.new _ #[.int .i64 5,.int .i64 0,.int .i64 (lJ k),.int .i64 0,.int .i64 0,.int .i64 0,.bool false,.bool false,.bool false,.slice (some ⟨g,0,none⟩) 1 1] _) (gG (wO _ _ _)) (by unfold maxLen;omega) (by omega) (eF d.size _) ?_))
   intro v2 wa own2 q hf;have l:=(Below.refl w4.heap.size w4).alloc (az _) (.cells #[.int .i64 5,.int .i64 0,.int .i64 (lJ k),.int .i64 0,.int .i64 0,.int .i64 0,.bool false,.bool false,.bool false,.slice (some ⟨g,0,none⟩) 1 1] 25);have hh:=t.below l;have hK:=hM.below l;have hA:nN wa w.heap.size v2 (L++[⟨pI 0 (lJ k) (Ii seed k),some ⟨g,0,none⟩,1⟩]):=by refine hh.more (fun x hx=>by rw[bN.1 hx];exact hK) (fun x hx=>by rw[bN.1 hx];exact⟨⟨by show (-9223372036854775808:Int)≤lJ k;unfold lJ;omega,by show lJ k≤9223372036854775807;unfold lJ;omega⟩,by show (-9223372036854775808:Int)≤0;decide,by show (0:Int)≤9223372036854775807;decide⟩) q ?_;rw[yl];exact own2
   have hl:Below w.heap.size w wa:=(ah d l).grown q (ah d l).size (fun k hk=>ho.ge k hk);have hE:Hid ((L++[(⟨pI 0 (lJ k) (Ii seed k),some ⟨g,0,none⟩,1⟩:Cr)]).map Cr.c=kG 0 n::DK v (k+1)∧(L++[(⟨pI 0 (lJ k) (Ii seed k),some ⟨g,0,none⟩,1⟩:Cr)]).length=k+1+1):=ae ⟨by
    rw[gX,hL.out.1,hv.out];unfold DK;rw[qB,gX];rfl,by rw[iK,hL.out.2];rfl⟩
   clear t ho l hh hK own2 q hf a d hM;go_wp2;go_roundw
   case rel=>exact⟨k+1,_,by omega,by go_num,hl,hA,hE⟩
   case measure=>simp[intOf];omega
  have hY:k=n:=by omega
  subst hY;go_upto_region 15 with (fail)
  go_loopw [60,8] (fun s60 s8 wr => ∃(j:Nat) (L:List Cr),j≤k∧s60 = .int .i64 j∧Below w.heap.size w wr∧nN wr w.heap.size s8 L∧Hid (L.map Cr.c=kG 0 k::(DK v k++AX j)∧L.length=k+1+j)) (fun s60 _ _=>k-(intOf s60).toNat)
  case atStart=>exact⟨0,L,bB _,rfl,a,hc,ae ⟨by rw[hL.out.1];simp[AX],hL.out.2⟩⟩
  case round=>
   clear a hc hL hk hkl;obtain⟨j,L,hj,rfl,a,hc,hL⟩:=hrel;obtain⟨av,cv,rfl,hz,hy⟩:=hc.rd
   by_cases hjl:j<k
   ·have kb:(j:Int)<(k:Int):=by omega
    have e1:IntKind.i64.wrap (8*(j:Int))=8*(j:Int):=bP _ (by omega);have e2:(j:Int).tmod 8=(j:Int)%8:=Bu (by omega);have e2' : IntKind.i64.wrap ((j:Int)%8)=(j:Int)%8:=bP _ (by omega);have e3:IntKind.i64.wrap (8*(j:Int)+(j:Int)%8)=8*(j:Int)+(j:Int)%8:=bP _ (by omega);clear hz hy
    go_wp2_with fail
    refine (EB 0 (lJ j) _).mono ?_;rintro r w4 ⟨rfl,y⟩;unfold mM oL;simp only[wu];have d:=ah a y;have t:=hc.below y;have ho:=t.own;have h6:L.length≤50:=by have:=hL.out.2;omega
    clear hc y e1 e2 e2' e3
    go_wp2_with (at_builtin;go_must (refine qZ rfl _ _ 27 rfl w.heap.size 25 _ 10 80 underlying27 call_info rfl (by decide) _ L.length _ rfl (ho.alloc _) (some ⟨w4.heap.size,0,none⟩) 1 1 (UO ⟨oL 0 (lJ j),none,0⟩) rfl (fun h=>(by cases h)) (az _) rfl (eB.new _ #[.int .i64 4,.int .i64 0,.int .i64 (lJ j),.int .i64 1,.int .i64 0,.int .i64 0,.bool false,.bool false,.bool false,.slice none 0 0] _) (gG (wO _ _ _)) (by unfold maxLen;omega) (by omega) (eF d.size _) ?_))
    intro v2 wa own2 q hf;have l:=(Below.refl w4.heap.size w4).alloc (az _) (.cells #[.int .i64 4,.int .i64 0,.int .i64 (lJ j),.int .i64 1,.int .i64 0,.int .i64 0,.bool false,.bool false,.bool false,.slice none 0 0] 25);have hh:=t.below l;have hA:nN wa w.heap.size v2 (L++[⟨oL 0 (lJ j),none,0⟩]):=by refine hh.more (fun x hx=>by rw[bN.1 hx];exact Own.nil _ _ _ _) (fun x hx=>by rw[bN.1 hx];exact⟨⟨by show (-9223372036854775808:Int)≤lJ j;unfold lJ;omega,by show lJ j≤9223372036854775807;unfold lJ;omega⟩,by show (-9223372036854775808:Int)≤1;decide,by show (1:Int)≤9223372036854775807;decide⟩) q ?_;rw[yl];exact own2
    have hl:Below w.heap.size w wa:=(ah d l).grown q (ah d l).size (fun k hk=>ho.ge k hk);have hE:Hid ((L++[(⟨oL 0 (lJ j),none,0⟩:Cr)]).map Cr.c=kG 0 k::(DK v k++AX (j+1))∧(L++[(⟨oL 0 (lJ j),none,0⟩:Cr)]).length=k+1+(j+1)):=ae ⟨by
     rw[gX,hL.out.1];have:AX (j+1)=AX j++[oL 0 (lJ j)]:=by unfold AX;rw[qB,gX];rfl
     rw[this];simp,by rw[iK,hL.out.2];rfl⟩
    clear t ho l hh own2 q hf a d;go_wp2;go_roundw
    case rel=>exact⟨j+1,_,by omega,by go_num,hl,hA,hE⟩
    case measure=>simp[intOf];omega
   have hZ:j=k:=by omega
   subst hZ;have p:∀x∈L,x.c.k=1∨x.c.k=5∨x.c.k=4:=fun x hx=>by
    have:x.c∈L.map Cr.c:=eD.2 ⟨x,hx,rfl⟩;rw[hL.out.1] at this;rcases fE.1 this with h|h
    ·rw[h];exact .inl rfl
    rcases jK.1 h with h|h
    ·obtain⟨i,_,h⟩:=eD.1 h;rw[←h];exact .inr (.inl rfl)
    obtain⟨i,_,h⟩:=eD.1 h;rw[←h];exact .inr (.inr rfl)
   have hd:=ae p;have hP:=ae (Fz fr sl 0 av cv L _ (by decide) hz hy (fun x hx=>by
    rcases p x hx with h|h|h
    ·exact QQ h
    ·exact Jc h
    ·exact Ni h) (fun x hx m hG=>by
    rcases p x hx with h|h|h
    ·exact (zg h).okm hG
    ·exact wD (.inr h) hG
    ·exact wD (.inl h) hG))
   clear p hz hy;go_upto_region 19 with (fail)
   go_wp2_with fail
   refine hP.out.mono ?_;rintro r w5 ⟨hR,H5,vv,al,e,rfl,hX,hq,hB⟩;rcases hB with ⟨hbad,_⟩|⟨_,_,rfl,hm5,hal5⟩
   ·exfalso;have h1:=hO.out;have h2:=hL.out.2;rw[fP] at hbad;omega
   have hp:Hid (al.map Prod.fst=⟨0,0,[]⟩::((List.range j).map (fun _=>(⟨0,1,[]⟩:An))++(List.range j).map fun i=>⟨0,1,[v i]⟩)):=ae (by
    have hb:=hO.out;obtain⟨F,hF⟩:∃F:Nat,fr=F:=⟨fr.toNat,by omega⟩;obtain⟨S,hS⟩:∃S:Nat,sl=S:=⟨sl.toNat,by omega⟩;obtain⟨r1,r2⟩:=TI (fr:=F) (sl:=S) (n:=j) v (by omega) (by omega) hg.out.1 hg.out.2;rw[hal5,hL.out.1,hF,hS,←r1];refine Ny (f:=F) (s:=S) (b:=0) (by omega) (fun c hc => ?_) r2;have hc:c∈L.map Cr.c:=by rw[hL.out.1];exact hc
    obtain⟨x,hx,rfl⟩:=eD.1 hc;rcases hd.out x hx with h|h|h
    ·exact (zg h).fit _ _ _
    ·exact Ch h
    ·exact FI h)
   have hu:=ah a hR;have hs:Hid (al.length=1+j+j):=ae (by have:=congrArg List.length hp.out;simp at this;omega);obtain⟨av5,cv5,rfl,_⟩:=hq.own.rd;have hq:=hq.mono a.size;clear hP a hc hR hX hm5 hal5 hL hd
   go_wp2_with (refine aT rfl _ _ _ rfl (bW H5) rfl rfl rfl mach_size (eU _) ?_)
   intro w6 hD mx6;have hU:=hq.below hD;have ht:=ah hu hD;clear hq hu hD mx6;go_upto_region 23 with (fail)
   go_loopw [85] (fun s85 wr => ∃i:Nat,i≤j∧s85 = .int .i64 i∧Below w.heap.size w wr∧sU wr w.heap.size (.slice av5 al.length cv5) al) (fun s85 _=>j-(intOf s85).toNat)
   case atStart=>exact⟨0,bB _,rfl,ht,hU⟩
   case round=>
    clear ht hU;obtain⟨i,hi,rfl,a,ha⟩:=hrel
    by_cases hij:i<j
    ·have kc:(i:Int)<(j:Int):=by omega
     have h8:=hg.out.2;obtain⟨i1,hJ⟩:∃i1:Nat,1+i=i1:=⟨_,rfl⟩;obtain⟨i2,hI⟩:∃i2:Nat,1+j+i=i2:=⟨_,rfl⟩;have e1:IntKind.i64.wrap (1+(i:Int))=(i1:Int):=by rw[bP _ (by omega)];omega
     have e2:IntKind.i64.wrap (1+(j:Int))=1+(j:Int):=bP _ (by omega);have e3:IntKind.i64.wrap (1+(j:Int)+(i:Int))=(i2:Int):=by rw[bP _ (by omega)];omega
     have hH : -7<seed.tmod 7∧seed.tmod 7<7:=by have h1:=Int.tmod_lt_of_pos seed (by decide:(0:Int)<7);have h2:=Int.lt_tmod_of_pos seed (by decide:(0:Int)<7);omega
     have e4:IntKind.i64.wrap (seed.tmod 7)=seed.tmod 7:=bP _ (by omega);have e5:IntKind.i64.wrap ((i:Int)+seed.tmod 7)=(i:Int)+seed.tmod 7:=bP _ (by omega);have e6:IntKind.u8.wrap ((i:Int)+seed.tmod 7)=((v i).toNat:Int):=by rw[hv.out];exact MR seed i
     have l1:(i1:Int)<(al.length:Int):=by have:=hs.out;omega
     have l2:(i2:Int)<(al.length:Int):=by have:=hs.out;omega
     obtain⟨-,b,o,ad,cd,hav,hrd,-⟩:=Np (i:=i1) (x:=⟨0,1,[]⟩) ha hp.out (by rw[←hJ,Nat.add_comm,ze,il (by simpa using hij),iY,rJ hij];rfl);obtain⟨-,b',o',ad2,cd2,hav2,hrd2,hrd3,hle2⟩:=Np (i:=i2) (x:=⟨0,1,[v i]⟩) ha hp.out (by rw[←hI,show 1+j+i=(j+i)+1 by omega,ze,iN (by simp),fP,wS,yQ,iY,rJ hij];rfl);rw[hav] at hav2;simp only[gY,sI,and_true] at hav2;obtain⟨rfl,rfl⟩:=hav2;have c0:wr.cell? ⟨b,o+i1*3,none⟩=some (.int .i64 0):=by have:=GI hrd (k:=0) (u:=.int .i64 0) rfl;simpa using this
     clear hrd hJ hI hH;rw[hav] at ha ⊢;clear hav
     go_wp2_with (refine aC _ _ rfl b (o+i2*3) rfl rfl _ hrd2 _ underlying52 rfl ans_size ?_)
     refine (AL ⟨0,1,[v i]⟩ ad2 cd2 _ hrd3 hle2).mono ?_;rintro r w7 ⟨rfl,hC⟩;rw[show vN ⟨0,1,[v i]⟩=v i from rfl];have hQ:=ah a hC;have h0:=ha.below hC;clear a ha hrd2 hrd3 hC c0;go_wp2;go_roundw
     case rel=>exact⟨i+1,by omega,by go_num,hQ,h0⟩
     case measure=>simp[intOf];omega
    have h9 : ¬(i:Int)<(j:Int):=by omega
    go_wp2;go_ret;exact⟨rfl,a⟩
end Go.Proofs.YtpaeabelhnnbiaaGreat