import Derived.Test.YtpaeabelhnnbiaaGreatV6
set_option linter.unusedSimpArgs false
set_option linter.unusedVariables false
set_option maxHeartbeats 4000000
set_option maxRecDepth 100000
namespace Go.Proofs.YtpaeabelhnnbiaaGreat
open _root_.Go.Proofs.Tryz
open Go.RowKit Go.Maps Pw
variable {B B' b bl c cp f fr ga i p rb rx sl sz sz':Nat} {H S:MH} {L:Nat → Bool} {P:Program} {T T0 ty tz:TypeId} {W W' w w' w1 wa:World} {a ad:Option Addr} {cs:Array Value} {g:Pg} {m m':Ma} {n:Int} {s:St} {u v v2:Value} {vs xs ys:List Value} {wr:Bool} {y:Nat → Value}
theorem srt_on:∀ {l:List Ar} {lo:Int},srtF lo l→∀a∈l,∃n,onA l n=some (vQ a n)
 | [],_,_,_,h=>by cases h
 | b::l,lo,hs,a,h=>by
  rcases eT.1 h with rfl|h
  ·refine⟨a.fr,?_⟩;rw[jD,if_pos];have:=(gu hs.1).2.1;rw[qI];omega
  obtain⟨n,hn⟩:=srt_on hs.2.2 a h;refine⟨n,?_⟩;rw[jD,if_neg]
  ·exact hn
  intro hi;rw[qI] at hi;rw[on_low hs.2.2 hi.2] at hn;cases hn
theorem qA.fiok (h:qA m):Py m:=fun p a ha=>by
 obtain⟨n,hn⟩:=srt_on (Ee (ou.1 (h.rt.pt.arN p)).2) a ha;exact h.fi p n _ hn
def WK (fn:FuncId) (ar:Value→Value→Array Value) (m:Ma) (c:Cl) (a:Option Addr) (cap:Nat) (X:Ma × An):Prop:=
 ∀(H:MH) (gc B b:Nat) (w:World),H.ma=m→pG w B b H→aJ w gc (nQ c a cap) 25→(∀W,Below B w W→dV W a (c.da.map oZ))→Calls Tryz.prog fn (ar (.pointer (some ⟨b,0,none⟩)) (.pointer (some ⟨gc,0,none⟩))) w (Xy w B b X)
structure Wx (m:Ma) (c:Cl) (a:Option Addr) (cap P:Nat):Prop where
 mp:c.k=1→WK 64 (fun p q => #[p,q]) m c a cap (sQ m P c)
 un:c.k=2→WK 65 (fun p q => #[p,q]) m c a cap (Vu m P c)
 pr:c.k=3→WK 66 (fun p q => #[p,q]) m c a cap (Ud m P c)
 ld:c.k=4→WK 67 (fun p q => #[p,q,.int .i64 c.n,.bool false]) m c a cap (kN m c c.n false)
 st:c.k=5→WK 67 (fun p q => #[p,q,.int .i64 c.da.length,.bool true]) m c a cap (kN m c c.da.length true)
 fk:c.k=6→∀(H:MH) (W:World),H.ma=m→EM W H→Calls Tryz.prog 68 #[.agg (bP H),.int .i64 P] W (Yj H P W)
 ex:¬(c.k=1∨c.k=2∨c.k=3∨c.k=4∨c.k=5∨c.k=6)→∀(H:MH) (W:World),H.ma=m→EM W H→Calls Tryz.prog 70 #[.agg (bP H),.int .i64 P] W (VE H P W)
theorem Jt (H:MH) (c:Cl) (a:Option Addr) (cap gc B b:Nat) (w:World) (h:pG w B b H) (hG:qA H.ma) (hc:aJ w gc (nQ c a cap) 25) (hrd:∀W,Below B w W→dV W a (c.da.map oZ)) (hct:∀P:Nat,c.p=P→P<H.ma.sp.length→(bE H.ma P).lv=true→Wx H.ma c a cap P) :
  Calls Tryz.prog 34 #[.pointer (some ⟨b,0,none⟩),.pointer (some ⟨gc,0,none⟩)] w (Xy w B b (rW H.ma c)):=by
 have ky:=ae hG.rt;have kH:=ae hG.co;have kG:=h.blk.lt;have hU:Hid (H.ma.sp.length=H.sp.length):=ae (pI H);clear hG;go_enter func34,ntmps34;go_upto_region 1 with (fail);refine je (fun W=>Code.wp _ _ _ _ W) fun w1 hR ax1 ku => ?_;have k1:=h.below hR;have c1:=hc.ext hR;have hp:w.grownBy w1 (some b):=IP hR;have hK:=ae h.bs;have hf:=ae hR;have hE:=ae hrd;clear h hc hR ku hrd
 by_cases hlo:c.p<0
 ·have hX:Hid (rW H.ma c=(H.ma,kv 5)):=ae (by unfold rW;rw[if_pos (show vO H.ma c from Or.inl hlo)]);go_upto_region 1 with (fail);refine aP 33 [_,_,_,_,_,_,_,_,_,_,_,_,_,_,_,_,_,_,_,_,_,_,_,_,_,_,_,_,_,_,_,_,.v (.bool true)] (Gk rfl (Gk rfl (Gf gc 1 rfl rfl (Gl c1 rfl rfl rfl rfl rfl (Gb (.bool true) (by simp[go_sem,hlo]) rfl rfl rfl rfl rfl (Gk rfl (Gk rfl (Gk rfl (Gk rfl (Gk rfl (Gk rfl (Gk rfl (Gk rfl (Gk rfl (Gk rfl (Gk rfl (Gk rfl (Gk rfl (Gk rfl (Gk rfl (Gk rfl (Gk rfl (Gk rfl (Gk rfl (Gk rfl (Gk rfl (Gk rfl (Gk rfl (Gk rfl (Gk rfl (Gk rfl (Gk rfl (Gk rfl (aG)))))))))))))))))))))))))))))))))) (fun _=>rfl) rfl ?_;intro y W2 g _;have k2:=k1.below g;have ax2:=ax1.ext g;have c2:=c1.ext g;have l:=fq hp g;have z:∀W,Below B W2 W→dV W a (c.da.map oZ):=fun W hb=>hE.out W (fu ((fu hf.out (g.mono hf.out.size)).mono hK.out) hb);have hl:=ae (aY hf.out.size g.size);clear k1 ax1 c1 hp g;have hv:=c2.cell
  go_wp2_with (refine ax rfl _ _ _ rfl w.heap.size (gD 5 0 nilV) rfl rfl _ _ ax2 rfl ans_size (bY _ _ _ _ _) ?_)
  intro we axe i;have o:=fV l i (az _);have ke:pG we B b H:=k2.keepT ax2 (by decide) (by decide) i;go_wp2;refine bodyPost_ret (v:=.agg (gD 5 0 nilV)) (bB results34 _ _ w.heap.size _ _ _ rfl axe underlying52 rfl ans_size) rfl ?_;rw[hX.out];exact⟨nilV,rfl,Own.nil _ _ _ _,o,H,ke,rfl⟩
 have d1:decide (c.p<0)=false:=decide_eq_false hlo
 by_cases hhi:(H.sp.length:Int)≤c.p
 ·have hX:Hid (rW H.ma c=(H.ma,kv 5)):=ae (by unfold rW;rw[if_pos (show vO H.ma c from Or.inr (Or.inl (by rw[hU.out];exact hhi)))]);go_upto_region 1 with (fail);refine aP 33 [_,_,_,_,_,_,_,_,_,_,_,_,_,_,_,_,_,_,_,_,_,_,_,_,_,_,_,_,_,_,_,_,.v (.bool true)] (Gk rfl (Gk rfl (Gf gc 1 rfl rfl (Gl c1 rfl rfl rfl rfl rfl (Gb (.bool false) (by simp[go_sem,d1]) rfl rfl rfl rfl rfl (Gk rfl (Gk rfl (Gk rfl (Gf gc 1 rfl rfl (Gl c1 rfl rfl rfl rfl rfl (Gk rfl (Gk rfl (Gf b 0 rfl rfl (Gf b 10 rfl rfl (Gc (.slice H.ap H.sp.length H.cp) (fun W hb=>by simp[(k1.below hb).blk.cell,bP]) rfl rfl rfl rfl (Gn rfl rfl rfl rfl (Gb (.bool true) (by simp[go_sem,hhi]) rfl rfl rfl rfl rfl (Gk rfl (Gk rfl (Gk rfl (Gk rfl (Gk rfl (Gk rfl (Gk rfl (Gk rfl (Gk rfl (Gk rfl (Gk rfl (Gk rfl (Gk rfl (Gk rfl (Gk rfl (Gk rfl (aG)))))))))))))))))) (underlying42))))))))))))))))) (fun _=>rfl) rfl ?_;intro y W2 g _;have k2:=k1.below g;have ax2:=ax1.ext g;have c2:=c1.ext g;have l:=fq hp g;have z:∀W,Below B W2 W→dV W a (c.da.map oZ):=fun W hb=>hE.out W (fu ((fu hf.out (g.mono hf.out.size)).mono hK.out) hb);have hl:=ae (aY hf.out.size g.size);clear k1 ax1 c1 hp g;have hv:=c2.cell
  go_wp2_with (refine ax rfl _ _ _ rfl w.heap.size (gD 5 0 nilV) rfl rfl _ _ ax2 rfl ans_size (bY _ _ _ _ _) ?_)
  intro we axe i;have o:=fV l i (az _);have ke:pG we B b H:=k2.keepT ax2 (by decide) (by decide) i;go_wp2;refine bodyPost_ret (v:=.agg (gD 5 0 nilV)) (bB results34 _ _ w.heap.size _ _ _ rfl axe underlying52 rfl ans_size) rfl ?_;rw[hX.out];exact⟨nilV,rfl,Own.nil _ _ _ _,o,H,ke,rfl⟩
 have d2:decide ((H.sp.length:Int)≤c.p)=false:=decide_eq_false hhi;obtain⟨P,hP⟩:∃P:Nat,c.p=P:=⟨c.p.toNat,by omega⟩;have hV:P<H.sp.length:=by omega
 obtain⟨gs,os,Q,kq,hQ,h0⟩:=vN k1.ma.rd.sp.rd P hV;have kj:=ae (nT hQ);have kb:=ae kq;have hB:=ae hP;have hO:Hid (∀W,Below w1.heap.size w1 W→W.cell? ⟨gs,os+P*10,none⟩=some (.bool Q.lv)):=ae (fun W hb=>by have:=uN (h0.below hb) (k:=0) (u:=.bool Q.lv) rfl;simpa using this);clear kq hQ h0 hP;cases hlvQ:Q.lv with
 | false=>
  rw[hlvQ] at hO;have hX:Hid (rW H.ma c=(H.ma,kv 5)):=ae (by unfold rW;rw[if_pos (show vO H.ma c from Or.inr (Or.inr (by rw[hB.out,bG,kj.out];exact hlvQ)))]);clear hlvQ;go_upto_region 1 with (fail);refine aP 33 [_,_,_,_,_,_,_,_,_,_,_,_,_,_,_,_,_,_,_,_,_,_,_,_,_,_,_,_,_,_,_,_,.v (.bool true)] (Gk rfl (Gk rfl (Gf gc 1 rfl rfl (Gl c1 rfl rfl rfl rfl rfl (Gb (.bool false) (by simp[go_sem,d1]) rfl rfl rfl rfl rfl (Gk rfl (Gk rfl (Gk rfl (Gf gc 1 rfl rfl (Gl c1 rfl rfl rfl rfl rfl (Gk rfl (Gk rfl (Gf b 0 rfl rfl (Gf b 10 rfl rfl (Gc (.slice H.ap H.sp.length H.cp) (fun W hb=>by simp[(k1.below hb).blk.cell,bP]) rfl rfl rfl rfl (Gn rfl rfl rfl rfl (Gb (.bool false) (by simp[go_sem,d2]) rfl rfl rfl rfl rfl (Gk rfl (Gk rfl (Gk rfl (Gk rfl (Gf b 0 rfl rfl (Gf b 10 rfl rfl (Gc (.slice (some ⟨gs,os,none⟩) H.sp.length H.cp) (fun W hb=>by simp[(k1.below hb).blk.cell,bP,kb.out]) rfl rfl rfl rfl (Gk rfl (Gk rfl (Gf gc 1 rfl rfl (Gl c1 (V:=.int .i64 (P:Int)) (by simp[nQ,hB.out]) rfl rfl rfl rfl (Gr (.pointer (some ⟨gs,os+P*10,none⟩)) (fun ρ y W hb hz=>(eO rfl (aV rfl hz) (aV rfl hz) hV underlying42 space_size)) rfl rfl (Gf gs (os+P*10) rfl rfl (Gc (.bool false) (fun W hb=>by simp[hO.out W hb]) rfl rfl rfl rfl (Gk rfl (Gk rfl (aG)))))))))))))))))) (underlying42))))))))))))))))) (fun _=>rfl) rfl ?_;intro y W2 g _;have k2:=k1.below g;have ax2:=ax1.ext g;have c2:=c1.ext g;have l:=fq hp g;have z:∀W,Below B W2 W→dV W a (c.da.map oZ):=fun W hb=>hE.out W (fu ((fu hf.out (g.mono hf.out.size)).mono hK.out) hb);have hl:=ae (aY hf.out.size g.size);clear k1 ax1 c1 hp g;have hv:=c2.cell
  go_wp2_with (refine ax rfl _ _ _ rfl w.heap.size (gD 5 0 nilV) rfl rfl _ _ ax2 rfl ans_size (bY _ _ _ _ _) ?_)
  intro we axe i;have o:=fV l i (az _);have ke:pG we B b H:=k2.keepT ax2 (by decide) (by decide) i;go_wp2;refine bodyPost_ret (v:=.agg (gD 5 0 nilV)) (bB results34 _ _ w.heap.size _ _ _ rfl axe underlying52 rfl ans_size) rfl ?_;rw[hX.out];exact⟨nilV,rfl,Own.nil _ _ _ _,o,H,ke,rfl⟩
 | true=>
  rw[hlvQ] at hO;have hF:Hid ((bE H.ma P).lv=true):=ae (by rw[kj.out];exact hlvQ);clear hlvQ;have hr:=ae (hct P hB.out (by rw[hU.out];exact hV) hF.out);clear hct;go_upto_region 1 with (fail);refine aP 33 [_,_,_,_,_,_,_,_,_,_,_,_,_,_,_,_,_,_,_,_,_,_,_,_,_,_,_,_,_,_,_,_,.v (.bool false)] (Gk rfl (Gk rfl (Gf gc 1 rfl rfl (Gl c1 rfl rfl rfl rfl rfl (Gb (.bool false) (by simp[go_sem,d1]) rfl rfl rfl rfl rfl (Gk rfl (Gk rfl (Gk rfl (Gf gc 1 rfl rfl (Gl c1 rfl rfl rfl rfl rfl (Gk rfl (Gk rfl (Gf b 0 rfl rfl (Gf b 10 rfl rfl (Gc (.slice H.ap H.sp.length H.cp) (fun W hb=>by simp[(k1.below hb).blk.cell,bP]) rfl rfl rfl rfl (Gn rfl rfl rfl rfl (Gb (.bool false) (by simp[go_sem,d2]) rfl rfl rfl rfl rfl (Gk rfl (Gk rfl (Gk rfl (Gk rfl (Gf b 0 rfl rfl (Gf b 10 rfl rfl (Gc (.slice (some ⟨gs,os,none⟩) H.sp.length H.cp) (fun W hb=>by simp[(k1.below hb).blk.cell,bP,kb.out]) rfl rfl rfl rfl (Gk rfl (Gk rfl (Gf gc 1 rfl rfl (Gl c1 (V:=.int .i64 (P:Int)) (by simp[nQ,hB.out]) rfl rfl rfl rfl (Gr (.pointer (some ⟨gs,os+P*10,none⟩)) (fun ρ y W hb hz=>(eO rfl (aV rfl hz) (aV rfl hz) hV underlying42 space_size)) rfl rfl (Gf gs (os+P*10) rfl rfl (Gc (.bool true) (fun W hb=>by simp[hO.out W hb]) rfl rfl rfl rfl (Gk rfl (Gk rfl (aG)))))))))))))))))) (underlying42))))))))))))))))) (fun _=>rfl) rfl ?_;intro y W2 g _;have k2:=k1.below g;have ax2:=ax1.ext g;have c2:=c1.ext g;have l:=fq hp g;have z:∀W,Below B W2 W→dV W a (c.da.map oZ):=fun W hb=>hE.out W (fu ((fu hf.out (g.mono hf.out.size)).mono hK.out) hb);have hl:=ae (aY hf.out.size g.size);clear k1 ax1 c1 hp g;have hv:=c2.cell;unfold nQ at hv;obtain⟨Y,hY⟩:∃Y,Hid (rW H.ma c=Y):=⟨_,ae rfl⟩;have hD:Hid (Y=if c.k=1 then sQ H.ma P c else if c.k=2 then Vu H.ma P c else if c.k=3 then Ud H.ma P c else if c.k=4 then kN H.ma c c.n false else if c.k=5 then kN H.ma c c.da.length true else if c.k=6 then Kq H.ma P else Rl H.ma P):=ae (by
   rw[←hY.out];unfold rW;have hH:¬vO H.ma c:=by
    rintro (e|e|e)
    ·omega
    ·rw[hU.out] at e;omega
    ·rw[hB.out,bG,hF.out] at e;cases e
   rw[if_neg hH,hB.out,bG])
  clear d1 d2 hO
  by_cases h1:c.k=1
  ·have hq:Hid (sQ H.ma P c=Y):=ae (by rw[hD.out,if_pos h1]);have ha:=hr.out.mp h1 H gc B b W2 rfl k2 c2 z;rw[hq.out] at ha;have hm:=ae ha;clear ha z
   go_wp2_with fail
   refine hm.out.mono ?_;rintro r w3 ⟨d,rfl,t,x,H3,k3,hh⟩;obtain⟨ad,cd,rfl,_⟩:=t.rd;have hg:=ae hh;have ax3:=ax2.grown x (fun e=>by cases e;omega);have j:=uk l x;have s:=t.mono hl.out;clear k2 ax2 l x t hh hv
   go_wp2_with (refine ax rfl _ _ _ rfl w.heap.size (gD Y.2.e Y.2.n (.slice ad Y.2.da.length cd)) rfl rfl _ _ ax3 rfl ans_size (bY _ _ _ _ _) ?_)
   intro we axe i;have o:=fV j i (az _);have ke:pG we B b H3:=k3.keepT ax3 (by decide) (by decide) i;have hy:=ay s ax3 (by decide) i;clear k3 ax3 j i s;go_wp2;refine bodyPost_ret (v:=.agg (gD Y.2.e Y.2.n (.slice ad Y.2.da.length cd))) (bB results34 _ _ w.heap.size _ _ _ rfl axe underlying52 rfl ans_size) rfl ?_;rw[hY.out];exact⟨_,rfl,hy,o,H3,ke,hg.out⟩
  have d1:(c.k==1)=false:=by simpa using h1
  by_cases h2:c.k=2
  ·have hq:Hid (Vu H.ma P c=Y):=ae (by rw[hD.out,if_neg h1,if_pos h2]);have ha:=hr.out.un h2 H gc B b W2 rfl k2 c2 z;rw[hq.out] at ha;have hm:=ae ha;clear ha z
   go_wp2_with fail
   refine hm.out.mono ?_;rintro r w3 ⟨d,rfl,t,x,H3,k3,hh⟩;obtain⟨ad,cd,rfl,_⟩:=t.rd;have hg:=ae hh;have ax3:=ax2.grown x (fun e=>by cases e;omega);have j:=uk l x;have s:=t.mono hl.out;clear k2 ax2 l x t hh hv
   go_wp2_with (refine ax rfl _ _ _ rfl w.heap.size (gD Y.2.e Y.2.n (.slice ad Y.2.da.length cd)) rfl rfl _ _ ax3 rfl ans_size (bY _ _ _ _ _) ?_)
   intro we axe i;have o:=fV j i (az _);have ke:pG we B b H3:=k3.keepT ax3 (by decide) (by decide) i;have hy:=ay s ax3 (by decide) i;clear k3 ax3 j i s;go_wp2;refine bodyPost_ret (v:=.agg (gD Y.2.e Y.2.n (.slice ad Y.2.da.length cd))) (bB results34 _ _ w.heap.size _ _ _ rfl axe underlying52 rfl ans_size) rfl ?_;rw[hY.out];exact⟨_,rfl,hy,o,H3,ke,hg.out⟩
  have d2:(c.k==2)=false:=by simpa using h2
  by_cases h3:c.k=3
  ·have hq:Hid (Ud H.ma P c=Y):=ae (by rw[hD.out,if_neg h1,if_neg h2,if_pos h3]);have ha:=hr.out.pr h3 H gc B b W2 rfl k2 c2 z;rw[hq.out] at ha;have hm:=ae ha;clear ha z
   go_wp2_with fail
   refine hm.out.mono ?_;rintro r w3 ⟨d,rfl,t,x,H3,k3,hh⟩;obtain⟨ad,cd,rfl,_⟩:=t.rd;have hg:=ae hh;have ax3:=ax2.grown x (fun e=>by cases e;omega);have j:=uk l x;have s:=t.mono hl.out;clear k2 ax2 l x t hh hv
   go_wp2_with (refine ax rfl _ _ _ rfl w.heap.size (gD Y.2.e Y.2.n (.slice ad Y.2.da.length cd)) rfl rfl _ _ ax3 rfl ans_size (bY _ _ _ _ _) ?_)
   intro we axe i;have o:=fV j i (az _);have ke:pG we B b H3:=k3.keepT ax3 (by decide) (by decide) i;have hy:=ay s ax3 (by decide) i;clear k3 ax3 j i s;go_wp2;refine bodyPost_ret (v:=.agg (gD Y.2.e Y.2.n (.slice ad Y.2.da.length cd))) (bB results34 _ _ w.heap.size _ _ _ rfl axe underlying52 rfl ans_size) rfl ?_;rw[hY.out];exact⟨_,rfl,hy,o,H3,ke,hg.out⟩
  have d3:(c.k==3)=false:=by simpa using h3
  by_cases h4:c.k=4
  ·have hq:Hid (kN H.ma c c.n false=Y):=ae (by rw[hD.out,if_neg h1,if_neg h2,if_neg h3,if_pos h4]);have ha:=hr.out.ld h4 H gc B b W2 rfl k2 c2 z;rw[hq.out] at ha;have hm:=ae ha;clear ha z
   go_wp2_with fail
   refine hm.out.mono ?_;rintro r w3 ⟨d,rfl,t,x,H3,k3,hh⟩;obtain⟨ad,cd,rfl,_⟩:=t.rd;have hg:=ae hh;have ax3:=ax2.grown x (fun e=>by cases e;omega);have j:=uk l x;have s:=t.mono hl.out;clear k2 ax2 l x t hh hv
   go_wp2_with (refine ax rfl _ _ _ rfl w.heap.size (gD Y.2.e Y.2.n (.slice ad Y.2.da.length cd)) rfl rfl _ _ ax3 rfl ans_size (bY _ _ _ _ _) ?_)
   intro we axe i;have o:=fV j i (az _);have ke:pG we B b H3:=k3.keepT ax3 (by decide) (by decide) i;have hy:=ay s ax3 (by decide) i;clear k3 ax3 j i s;go_wp2;refine bodyPost_ret (v:=.agg (gD Y.2.e Y.2.n (.slice ad Y.2.da.length cd))) (bB results34 _ _ w.heap.size _ _ _ rfl axe underlying52 rfl ans_size) rfl ?_;rw[hY.out];exact⟨_,rfl,hy,o,H3,ke,hg.out⟩
  have d4:(c.k==4)=false:=by simpa using h4
  by_cases h5:c.k=5
  ·have hq:Hid (kN H.ma c c.da.length true=Y):=ae (by rw[hD.out,if_neg h1,if_neg h2,if_neg h3,if_neg h4,if_pos h5]);have ha:=hr.out.st h5 H gc B b W2 rfl k2 c2 z;rw[hq.out] at ha;have hm:=ae ha;clear ha z
   go_wp2_with fail
   refine hm.out.mono ?_;rintro r w3 ⟨d,rfl,t,x,H3,k3,hh⟩;obtain⟨ad,cd,rfl,_⟩:=t.rd;have hg:=ae hh;have ax3:=ax2.grown x (fun e=>by cases e;omega);have j:=uk l x;have s:=t.mono hl.out;clear k2 ax2 l x t hh hv
   go_wp2_with (refine ax rfl _ _ _ rfl w.heap.size (gD Y.2.e Y.2.n (.slice ad Y.2.da.length cd)) rfl rfl _ _ ax3 rfl ans_size (bY _ _ _ _ _) ?_)
   intro we axe i;have o:=fV j i (az _);have ke:pG we B b H3:=k3.keepT ax3 (by decide) (by decide) i;have hy:=ay s ax3 (by decide) i;clear k3 ax3 j i s;go_wp2;refine bodyPost_ret (v:=.agg (gD Y.2.e Y.2.n (.slice ad Y.2.da.length cd))) (bB results34 _ _ w.heap.size _ _ _ rfl axe underlying52 rfl ans_size) rfl ?_;rw[hY.out];exact⟨_,rfl,hy,o,H3,ke,hg.out⟩
  have d5:(c.k==5)=false:=by simpa using h5
  by_cases h6:c.k=6
  ·have hq:Hid (Y=Kq H.ma P):=ae (by rw[hD.out,if_neg h1,if_neg h2,if_neg h3,if_neg h4,if_neg h5,if_pos h6]);have hH:Hid (¬yl H (P:Int)):=ae (by
    rintro (e|e|e)
    ·omega
    ·omega
    ·rw[bG,hF.out] at e;cases e)
   obtain⟨X,F,E,kg⟩:∃(X:Ma) (F E:Int),Hid (Kq H.ma P=(setM H.ma X E,⟨E,F,[]⟩)∧∀W,Below W2.heap.size W2 W→Calls Tryz.prog 68 #[.agg (bP H),.int .i64 P] W fun r w'=>Below W.heap.size W w'∧∃H',r = .returned (.tuple #[.agg (bP H'),.int .i64 F,.int .i64 E])∧qf w' W.heap.size H'∧H'.ma=X):=by
    by_cases h4' : mD H.ma=4
    ·refine⟨zMa,0,4,ae ⟨by unfold Kq setM;rw[if_pos h4'];rfl,fun W hb=>(hr.out.fk h6 H W rfl (k2.below hb).ma.rd).mono ?_⟩⟩;rintro r w' ⟨kf,hx⟩;rcases hx with ⟨e,_⟩|⟨_,_,_,rfl⟩|⟨_,K,q,hq',rfl,_,_⟩
     ·exact absurd e hH.out
     ·exact⟨kf,noH,rfl,uF _ _,noH_ma⟩
     exfalso;have e1:=hq'.1;have e2:=ky.out.pt.spl;rcases hq'.2 with e|e
     ·omega
     ·omega
    refine⟨(Dl H.ma P (mD H.ma).toNat).m,mD H.ma,0,ae ⟨by unfold Kq setM;rw[if_neg h4'];rfl,fun W hb=>(hr.out.fk h6 H W rfl (k2.below hb).ma.rd).mono ?_⟩⟩;rintro r w' ⟨kf,hx⟩;rcases hx with ⟨e,_⟩|⟨_,e1,e2,rfl⟩|⟨_,K,q,hq',rfl,ho,_,hfe⟩
    ·exact absurd e hH.out
    ·exfalso;refine h4' ?_;unfold mD;rw[if_pos e1,hU.out,e2];rfl
    refine⟨kf,K,by rw[hq'.1],ho,?_⟩;rw[hfe,←hq'.1,bG,bG]
   go_upto_region 15 with (fail);clear hv;refine gI 17 [_,_,_,_,_,_,_,_,.r 8 ((BG W2.heap.size X F E)),.r 9 ((BG W2.heap.size X F E)),.r 10 ((Be W2.heap.size X)),.v (.int .i64 F),.v (.int .i64 E),.r 13 ((fe W2.heap.size 44 11)),.y 14 ((VF 13 W2.heap.size X)),.v (.int .i64 F),.v (.int .i64 E)] (fun W=>Below W2.heap.size W2 W) bn (Below.refl _ _) (Yk bn rfl (Yk bn rfl (Yf bn b 0 rfl rfl (Yr bn (.agg (bP H)) (fun ρ y W hb hz=>(bZ rfl (aV rfl hz) ((k2.below hb).blk) underlying44 rfl mach_size)) rfl rfl (Yk bn rfl (Yk bn rfl (Yf bn gc 1 rfl rfl (Yc bn (.int .i64 (P:Int)) (fun W hb=>by simp[(c2.ext hb).cell,nQ,hB.out]) rfl rfl rfl rfl (aj ?_ (aj ?_ (aj ?_ (aj ?_ (aj ?_ (aj ?_ (aj ?_ (Yk bn rfl (Yk bn rfl (aG)))))))))))))))))) (fun _=>rfl) rfl ?_
   ·intro ρ y W hw hn hb hd;refine eH bn hb ((BG W2.heap.size X F E)) (fun _ _ h=>h) ?_;have kE:=hw 87 3 rfl;have h3:y 3 = .agg (bP H):=hd 3 rfl;have kD:=hw 91 7 rfl;have h7:y 7 = .int .i64 (P:Int):=hd 7 rfl;have EF:∀f,ρ (.func f) = .func (.func f) #[] #[]:=fun f=>hn (.func f) trivial;refine aL _ _ (ag rfl) (aS rfl (EF _) func68 (by kernel_rfl) (by kernel_rfl) (by simp only[bT,bH,bL,kE,h3,kD,h7,EF];rfl)) ?_;refine (kg.out.2 W hb).mono ?_;rintro r w9 ⟨kd,H9,rfl,hs,ht⟩;exact⟨_,rfl,kd,H9,rfl,hs.mono hb.size,ht⟩
   ·intro ρ y W hw hn hb hd;refine eH bn hb ((BG W2.heap.size X F E)) (fun _ _ h=>h) ?_;have kC:=hw 92 8 rfl;have h8:=hd 8 rfl;refine ak _ (ag rfl) (run_move (.inl rfl) kC) ?_;exact h8
   ·intro ρ y W hw hn hb hd;refine eH bn hb ((Be W2.heap.size X)) (fun _ _ h=>h) ?_;have hS:=hw 83 9 rfl;have h9:=hd 9 rfl;obtain⟨H9,e9,hs,ht⟩:=h9;refine ak (.agg (bP H9)) (ag rfl) (by simp[execOp,go_sem,bu,hS,e9]) ?_;exact⟨H9,rfl,hs,ht⟩
   ·intro ρ y W hw hn hb hd;refine eH bn hb (gX (.int .i64 F)) (fun _ _ h=>h) ?_;have hS:=hw 83 9 rfl;have h9:=hd 9 rfl;obtain⟨H9,e9,hs,ht⟩:=h9;refine ak (.int .i64 F) (ag rfl) (by simp[execOp,go_sem,bu,hS,e9]) rfl
   ·intro ρ y W hw hn hb hd;refine eH bn hb (gX (.int .i64 E)) (fun _ _ h=>h) ?_;have hS:=hw 83 9 rfl;have h9:=hd 9 rfl;obtain⟨H9,e9,hs,ht⟩:=h9;refine ak (.int .i64 E) (ag rfl) (by simp[execOp,go_sem,bu,hS,e9]) rfl
   ·intro ρ y W hw hn hb hd;refine eH bn hb ((fe W2.heap.size 44 11)) (fun _ _ h=>h) ?_;refine gH (.pointer (some ⟨W.heap.size,0,none⟩)) (ag rfl) (by simp[execOp,go_sem,bu];rfl) ((Below.refl _ _).alloc (az _) (.cells (bP noH) 44)) ?_;exact⟨_,_,rfl,hb.size,aJ.new _ _ _,rfl⟩
   ·intro ρ y W hw hn hb hd;have E5:=hw 5 13 rfl;have kz:=hd 13 rfl;have kB:=hw 93 10 rfl;have kA:=hd 10 rfl;obtain⟨H9,e9,hs,ht⟩:=kA;obtain⟨g3,cur3,e3,x,hJ,kk⟩:=kz;refine jc (ag rfl) _ _ _ rfl g3 0 (.agg (bP H9)) (bP H9).toList (E5.trans e3) (kB.trans e9) rfl cur3 _ hJ (by rw[kk];exact az _) mach_size (fun u hu=>by have:=dz H9;rw[←iF,dh] at this;exact this u hu) ?_;intro w2 hl hI;rw[eB cur3 _ (by rw[kk];rfl)] at hl;refine⟨hb.grown hI hb.size (fun k hk=>by cases hk;exact x),⟨g3,H9,e3,x,hl,hs.keep hJ (by decide) hI,ht⟩,?_⟩;intro k hk kw
    match k,hk,kw with
    | 0,_,_=>exact fun h=>h
    | 1,_,_=>exact fun h=>h
    | 2,_,_=>exact fun h=>h
    | 3,_,_=>exact fun h=>h
    | 4,_,_=>exact fun h=>h
    | 5,_,_=>exact fun h=>h
    | 6,_,_=>exact fun h=>h
    | 7,_,_=>exact fun h=>h
    | 8,_,_=>exact fun⟨H8,q1,q2,q3⟩=>⟨H8,q1,q2.keep hJ (by decide) hI,q3⟩
    | 9,_,_=>exact fun⟨H8,q1,q2,q3⟩=>⟨H8,q1,q2.keep hJ (by decide) hI,q3⟩
    | 10,_,_=>exact fun⟨H8,q1,q2,q3⟩=>⟨H8,q1,q2.keep hJ (by decide) hI,q3⟩
    | 11,_,_=>exact fun h=>h
    | 12,_,_=>exact fun h=>h
    | 13,_,_=>exact fun q=>iB q hl (fun _=>rfl) ⟨_,hJ⟩ hI
    | 14,_,h=>exact absurd rfl h
    | 15,_,_=>exact fun h=>h
    | 16,_,_=>exact fun h=>h
    | n+17,h,_=>exact absurd h (by omega)
   intro y W3 hi hj;replace hi:Below W2.heap.size W2 W3:=hi;have kt:((BG W2.heap.size X F E)).r (y 8) W3:=hj 8 (by decide);have kh:((BG W2.heap.size X F E)).r (y 9) W3:=hj 9 (by decide);have hL:((Be W2.heap.size X)).r (y 10) W3:=hj 10 (by decide);have kF:((fe W2.heap.size 44 11)).r (y 13) W3:=hj 13 (by decide);have ki:=hj 14 (by decide);clear hj;simp only[dD,bu,bH,bL];obtain⟨gm,H2,em,kx,mx3,t,hh⟩:=ki;have hg:=ae hh;have k3:=k2.below hi;have ax3:=ax2.ext hi;have j:=fq l hi;have s : qf W3 B H2:=t.mono (aY hK.out hl.out);rw[em];have hX:Hid (rW H.ma c=(setM H.ma X E,⟨E,F,[]⟩)):=ae (by rw[hY.out,hq.out,kg.out.1]);clear k2 c2 ax2 l t hh hi kx em hL kh kt kg
   go_wp2_with (refine aA _ _ rfl gm 0 rfl rfl (bP H2).toList mx3.rd _ underlying44 rfl mach_size ?_)
   refine (yJ H H2 E B b _ k3 s).mono ?_;rintro r w6 ⟨rfl,hC,H6,k6,hN⟩;have hM:=ae hN;have ax6:=ax3.grown hC (fun e=>by cases e;omega);have hA:=uk j hC;clear k3 ax3 hC hN j s mx3
   go_wp2_with (refine aW rfl _ _ _ rfl (gD E 0 nilV) rfl rfl rfl ans_size (bY _ _ _ _ _) ?_)
   intro w7 hZ bx7;have k7:=k6.below hZ;have ax7:=ax6.ext hZ;have ka:=fq hA hZ;have kc:Hid (w.heap.size<w6.heap.size):=ae ax6.lt;clear k6 ax6 hA hZ;generalize w6.heap.size=gn at bx7 kc
   go_wp2_with (refine aX rfl _ _ _ rfl gn 1 _ [.int .i64 F] rfl rfl rfl _ _ bx7 (by show 1+1≤3;decide) int_size (fun u hu=>by cases bF.1 hu;rfl) ?_)
   intro w8 bx8 hW;have bx8:aJ w8 gn (gD E F nilV) 52:=bx8;have k8:pG w8 B b H6:=k7.keepT bx7 (by decide) (by decide) hW;have ax8:=iX ax7 hW (by have:=kc.out;omega);have kp:=fV ka hW (xh kc.out);clear k7 ax7 ka bx7 hW
   go_wp2_with (first | (refine aA _ _ rfl gn 0 rfl rfl (gD E F nilV).toList bx8.rd _ underlying52 rfl ans_size ?_) | (refine ax rfl _ _ _ rfl w.heap.size (gD E F nilV) rfl rfl _ _ ax8 rfl ans_size (bY _ _ _ _ _) ?_))
   intro we axe i;have o:=fV kp i (az _);have ke:pG we B b H6:=k8.keepT ax8 (by decide) (by decide) i;go_wp2;refine bodyPost_ret (v:=.agg (gD E F nilV)) (bB results34 _ _ w.heap.size _ _ _ rfl axe underlying52 rfl ans_size) rfl ?_;rw[hX.out];exact⟨nilV,rfl,Own.nil _ _ _ _,o,H6,ke,by rw[hM.out,hg.out]⟩
  have d6:(c.k==6)=false:=by simpa using h6
  have hq:Hid (Y=Rl H.ma P):=ae (by rw[hD.out,if_neg h1,if_neg h2,if_neg h3,if_neg h4,if_neg h5,if_neg h6]);go_upto_region 19 with (fail);clear hv;have hH:Hid (¬yl H (P:Int)):=ae (by
   rintro (e|e|e)
   ·omega
   ·omega
   ·rw[bG,hF.out] at e;cases e)
  refine aP 12 [.v (.pointer (some ⟨b,0,none⟩)),_,_,_,_,_,_,_,_,.r 9 ((Yl W2.heap.size (vM H.ma P).m 0)),.r 10 ((Be W2.heap.size (vM H.ma P).m)),.v (.int .i64 0)] (Gk rfl (Gk rfl (Gk rfl (Gf b 0 rfl rfl (Gr (.agg (bP H)) (fun ρ y W hb hz=>(bZ rfl (aV rfl hz) ((k2.below hb).blk) underlying44 rfl mach_size)) rfl rfl (Gk rfl (Gk rfl (Gf gc 1 rfl rfl (Gl c2 (V:=.int .i64 (P:Int)) (by simp[nQ,hB.out]) rfl rfl rfl rfl (aj ?_ (aj ?_ (aj ?_ (aG))))))))))))) (fun _=>rfl) rfl ?_
  ·intro ρ y W hw hn hb hd;have ks:=hw 107 4 rfl;have h4:y 4=_:=hd 4 rfl;have kr:=hw 111 8 rfl;have h8:y 8=_:=hd 8 rfl;have EF:∀f,ρ (.func f) = .func (.func f) #[] #[]:=fun f=>hn (.func f) trivial;refine aL _ _ (ag rfl) (aS rfl (EF _) func70 (by kernel_rfl) (by kernel_rfl) (by simp only[bT,bH,bL,ks,h4,kr,h8,EF];rfl)) ?_;refine (hr.out.ex (by omega) H W rfl (k2.below hb).ma.rd).mono ?_;rintro r w9 ⟨kd,hx⟩;rcases hx with ⟨e,_⟩|⟨_,H9,rfl,hs,_,ht⟩;exact absurd e hH.out;exact⟨_,rfl,kd,H9,rfl,hs.mono hb.size,ht⟩
  ·intro ρ y W hw hn hb hd;have hT:=hw 112 9 rfl;have h9:=hd 9 rfl;obtain⟨H9,e9,hs,ht⟩:=h9;refine ak (.agg (bP H9)) (ag rfl) (by simp[execOp,go_sem,hT,e9]) ?_;exact⟨H9,rfl,hs,ht⟩
  ·intro ρ y W hw hn hb hd;have hT:=hw 112 9 rfl;have h9:=hd 9 rfl;obtain⟨H9,e9,hs,ht⟩:=h9;refine ak (.int .i64 0) (ag rfl) (by simp[execOp,go_sem,hT,e9]) rfl
  intro y W3 hi hj;have kh:((Yl W2.heap.size (vM H.ma P).m 0)).r (y 9) W3:=hj 9 (by decide);have hL:((Be W2.heap.size (vM H.ma P).m)).r (y 10) W3:=hj 10 (by decide);clear hj;have k3:=k2.below hi;have ax3:=ax2.ext hi;have j:=fq l hi;obtain⟨H2,e2,km,ko⟩:=hL;rw[e2];have kn:=ae ko;have kl : qf W3 B H2:=km.mono (aY hK.out hl.out);have hX:Hid (rW H.ma c=((vM H.ma P).m,kv 0)):=ae (by rw[hY.out,hq.out];rfl);clear k2 c2 ax2 l hi km ko e2
  go_wp2_with fail
  refine (yJ H H2 0 B b _ k3 kl).mono ?_;rintro r w6 ⟨rfl,hC,H6,k6,hN⟩;have hM:=ae hN;have ax6:=ax3.grown hC (fun e=>by cases e;omega);have hA:=uk j hC;clear k3 ax3 hC hN j
  go_wp2_with (refine ax rfl _ _ _ rfl w.heap.size (gD 0 0 nilV) rfl rfl _ _ ax6 rfl ans_size (bY _ _ _ _ _) ?_)
  intro we axe i;have o:=fV hA i (az _);have ke:pG we B b H6:=k6.keepT ax6 (by decide) (by decide) i;clear k6 ax6 hA i;go_wp2;refine bodyPost_ret (v:=.agg (gD 0 0 nilV)) (bB results34 _ _ w.heap.size _ _ _ rfl axe underlying52 rfl ans_size) rfl ?_;rw[hX.out];exact⟨nilV,rfl,Own.nil _ _ _ _,o,H6,ke,by rw[hM.out];exact kn.out⟩
def KJ (w:World) (B b rx rb ga:Nat) (S:MH) (e n:Int) (v:Value) (l:Nat) (vs:List Value):(Nat→Bool)→(Nat→Value)→World→Prop:=fun L y W=>
 (Below B w W∧B≤W.heap.size)∧aJ W b (bP S) 92∧qf W B S∧aJ W ga (gD e n v) 52∧Own W B 5 1 v l vs ∧
 (L 5=false→aJ W rx (bP noH) 44)∧(L 5=true→aJ W rx (bP S) 44)∧(L 6=false→aJ W rb (gD 0 0 nilV) 52)∧(L 6=true→aJ W rb (gD e n v) 52)
theorem dX {l:Nat} {e:Int} :∀L y W W',Below W.heap.size W W'→KJ w B b rx rb ga S e n v l vs L y W→KJ w B b rx rb ga S e n v l vs L y W':=
 fun _ _ _ _ hb ⟨h1,h2,h3,h4,h5,h6,h7,h8,h9⟩=>⟨⟨h1.1.trans (hb.mono h1.2),aY h1.2 hb.size⟩,h2.ext hb,h3.below hb,h4.ext hb,h5.below hb,fun e=>(h6 e).ext hb,fun e=>(h7 e).ext hb,fun e=>(h8 e).ext hb,fun e=>(h9 e).ext hb⟩
theorem fQ {l:Nat} {e:Int} (hi:i≠5∧i≠6) (h:KJ w B b rx rb ga S e n v l vs L y W):KJ w B b rx rb ga S e n v l vs (pE L i) (uy y i u) W:=by
 unfold KJ at h ⊢;have e5:pE L i 5=L 5:=by unfold pE;rw[if_neg (fun e=>hi.1 e.symm)]
 have e6:pE L i 6=L 6:=by unfold pE;rw[if_neg (fun e=>hi.2 e.symm)]
 rw[e5,e6];exact h
theorem FY {l:Nat} {e:Int} (hB:B≤rx) (hL:L 5=false) (h:KJ w B b rx rb ga S e n v l vs L y W) (hk:aJ W' rx (dE (bP noH) 0 (bP S).toList) 44) (hg:W.grownBy W' (some rx)):KJ w B b rx rb ga S e n v l vs (pE L 5) (uy y 5 undef) W':=by
 obtain⟨h1,h2,h3,h4,h5,h6,h7,h8,h9⟩:=h;have r1:=h6 hL;rw[eB (bP noH) (bP S) rfl] at hk;exact⟨⟨h1.1.grown hg h1.2 (fun k hk=>by cases hk;exact hB),aY h1.2 hg.size⟩,aH h2 r1 (by decide) hg,h3.keep r1 (by decide) hg,aH h4 r1 (by decide) hg,ay h5 r1 (by decide) hg,fun e=>(by cases e),fun _=>hk,fun e=>aH (h8 e) r1 (by decide) hg,fun e=>aH (h9 e) r1 (by decide) hg⟩
theorem FX {l:Nat} {e:Int} (hB:B≤rb) (hne:rb≠ga) (hL:L 6=false) (h:KJ w B b rx rb ga S e n v l vs L y W) (hk:aJ W' rb (dE (gD 0 0 nilV) 0 (gD e n v).toList) 52) (hg:W.grownBy W' (some rb)):KJ w B b rx rb ga S e n v l vs (pE L 6) (uy y 6 undef) W':=by
 obtain⟨h1,h2,h3,h4,h5,h6,h7,h8,h9⟩:=h;have r1:=h8 hL;rw[eB (gD 0 0 nilV) (gD e n v) rfl] at hk;exact⟨⟨h1.1.grown hg h1.2 (fun k hk=>by cases hk;exact hB),aY h1.2 hg.size⟩,aH h2 r1 (by decide) hg,h3.keep r1 (by decide) hg,iX h4 hg hne,ay h5 r1 (by decide) hg,fun e=>aH (h6 e) r1 (by decide) hg,fun e=>aH (h7 e) r1 (by decide) hg,fun e=>(by cases e),fun _=>hk⟩
theorem mJ {fn:Func} {p q:Tmp} (h:fn.results=#[.cell p ty,.cell q tz]) (tmps:Array Value) (w:World) (g g2:Nat) (t t2:TypeId) (cs cs2:Array Value) (d d2:TypeDesc)
 (hp:tmps.getD p undef = .pointer (some ⟨g,0,none⟩)) (hq:tmps.getD q undef = .pointer (some ⟨g2,0,none⟩)) (hg:aJ w g cs t) (hg2:aJ w g2 cs2 t2) (hu:P.underlying ty=some d) (hd:aggB d=true) (hi:(P.info? ty).map (·.size)=some cs.size)
 (hu2:P.underlying tz=some d2) (hd2:aggB d2=true) (hi2:(P.info? tz).map (·.size)=some cs2.size) :
  (results fn tmps).run P w = .ok (.tuple #[.agg cs,.agg cs2]) w:=by
 have b : tmps[p]?.getD undef = .pointer (some ⟨g,0,none⟩):=by simpa using hp
 have a : tmps[q]?.getD undef = .pointer (some ⟨g2,0,none⟩):=by simpa using hq
 have hl:=iE (P:=P) hg.rd hu hd (by rw[kU];exact hi);have c:=iE (P:=P) hg2.rd hu2 hd2 (by rw[kU];exact hi2);simp[results,h,b,a,asAddr,hl,c]
def yc (H:MH) (c:Cl) (w:World) (r:Ending) (w' : World):Prop:=∃(H' : MH) (d:Value),r = .returned (.tuple #[.agg (bP H'),.agg (gD (uz H.ma c).2.e (uz H.ma c).2.n d)])∧Below w.heap.size w w'∧qf w' w.heap.size H'∧H'.ma=(uz H.ma c).1∧Own w' w.heap.size 5 1 d (uz H.ma c).2.da.length ((uz H.ma c).2.da.map oZ)
theorem errno_size:(Tryz.prog.info? 46).map (·.size)=some 1:=by kernel_rfl
theorem Vr (H:MH) (c:Cl) (a:Option Addr) (cap:Nat) (w:World) (h:EM w H) (hG:qA H.ma) (hrd:∀W,Below w.heap.size w W→dV W a (c.da.map oZ)) (hct:∀P:Nat,c.k≤7→c.p=P→P<H.ma.sp.length→(bE H.ma P).lv=true→Wx H.ma c a cap P)
 (hcf:8<c.k→c.k≤12→WK 36 (fun p q => #[p,q]) H.ma c a cap (Xz H.ma c)) (hcs:12<c.k→WK 37 (fun p q => #[p,q]) H.ma c a cap (Ug H.ma c)) :
  Calls Tryz.prog 26 #[.agg (bP H),.agg (nQ c a cap)] w (yc H c w):=by
 have h6:=ae hG;have kc:=ae hrd;have ke:=ae hct;have kg:=ae hcf;have kf:=ae hcs;clear hG hrd hct hcf hcs;go_enter func26,ntmps26;go_upto_region 1 with (fail);refine XD (fun W=>Code.wp _ _ _ _ W) fun w1 h0 bx1 cx1 rx1 rb1 kb => ?_;have bx1:aJ w1 w.heap.size (bP H) 44:=bx1;have cx1:aJ w1 (w.heap.size+1) (nQ c a cap) 25:=cx1;have rx1:aJ w1 (w.heap.size+2) (bP noH) 44:=rx1;have rb1:aJ w1 (w.heap.size+3) (gD 0 0 nilV) 52:=rb1;have h1:=h.below h0;have kn:=ae kb;clear h kb
 go_wp2_with (refine aA _ _ rfl w.heap.size 0 rfl rfl _ bx1.rd _ underlying44 rfl machine_size ?_)
 refine (oP H _ h1).mono ?_;rintro r w2 ⟨rfl,hH⟩;rw[Aa.2 h6.out.rt];have h2:=h1.below hH;have bx2:=bx1.ext hH;have cx2:=cx1.ext hH;have rx2:=rx1.ext hH;have rb2:=rb1.ext hH;have hO:=ah h0 hH;clear h1 bx1 cx1 rx1 rb1 h0 hH
 go_wp2_with (refine aA _ _ rfl w.heap.size 0 rfl rfl _ bx2.rd _ underlying44 rfl machine_size ?_)
 refine (nA H _ h2 (tC h6.out.rt)).mono ?_;rintro r w3 ⟨H3,rfl,kd,hU,_,hP⟩;have hm:=ae hU;have cx3:=cx2.ext hP;have rx3:=rx2.ext hP;have rb3:=rb2.ext hP;have hZ:=ah hO hP;have hT:=kd.mono hO.size;have hL:Hid (w.heap.size+4≤w3.heap.size):=ae rb3.lt;clear h2 bx2 cx2 rx2 rb2 hO hP kd hU;unfold bP;go_upto_region 7 with (fail);refine uj (fun W=>Code.wp _ _ _ _ W) fun w4 hK kx4 ax4 kj => ?_;have kx4:aJ w4 w3.heap.size (bP H3) 92:=kx4;have ax4:aJ w4 (w3.heap.size+1) (gD 0 0 nilV) 52:=ax4;have k4:pG w4 w.heap.size w3.heap.size H3:=⟨kx4,by have:=hL.out;omega,hT.below hK⟩;have c4:=cx3.ext hK;have rx4:=rx3.ext hK;have rb4:=rb3.ext hK;have m:=ah hZ hK;have hV:w.heap.size+4≤w3.heap.size∧w3.heap.size<w3.heap.size+1:=⟨hL.out,Nat.lt_succ_self _⟩;clear cx3 rx3 rb3 hZ hK hT hL kj kx4;generalize w3.heap.size+1=ga at *
 generalize w3.heap.size=b at *
 have i:=ae hV;clear hV;have km:Hid (qA H3.ma):=ae (by rw[hm.out];exact h6.out);have hh:∀W,Below w.heap.size w4 W→dV W a (c.da.map oZ):=fun W hb=>kc.out W (fu m hb);have hA:=c4.cell;unfold nQ at hA
 by_cases hk1:c.k<1
 ·have hX:Hid (uz H.ma c=(H.ma,kv 1)):=ae (by unfold uz;rw[if_pos (.inl hk1)])
  go_wp2_with (refine aX rfl _ _ _ rfl ga 0 _ [.int .i64 1] rfl rfl rfl _ _ ax4 (by show 0+1≤3;decide) errno_size (fun u hu=>by cases bF.1 hu;rfl) ?_)
  intro w5 ax5 l;have ax5:aJ w5 ga (gD 1 0 nilV) 52:=ax5;have k5:=k4.keepT ax4 (by decide) (by decide) l;have rx5:=aH rx4 ax4 (by decide) l;have rb5:=iX rb4 l (by have:=i.out;omega);have hc:=ae (m.grown l m.size (fun k hk=>by have:=i.out;cases hk;omega));have j:Own w5 w.heap.size 5 1 nilV ([]:List UInt8).length (([]:List UInt8).map oZ):=Own.nil _ _ _ _;have hl:Hid ((gD 1 0 nilV).all (·.oneCell')=true):=ae (bY _ _ _ _ _);have hf:=hm;clear k4 rx4 rb4 m ax4 l c4 hh;go_upto_region 18 with (fail);clear hA;refine oo 7 [_,_,_,.v (.agg (bP H3)),.v (.agg (gD 1 0 nilV)),.r 5 ((zW fun _=>True)),.r 6 ((zW fun _=>True))] (KJ w w.heap.size b (w.heap.size+2) (w.heap.size+3) ga H3 1 0 nilV ([]:List UInt8).length (([]:List UInt8).map oZ)) dX (fun y=>⟨⟨hc.out,hc.out.size⟩,k5.blk,k5.ma,ax5,j,fun _=>rx5,fun e=>(by cases e),fun _=>rb5,fun e=>(by cases e)⟩) (Qk dX rfl (Qk dX rfl (Qf dX b 0 rfl rfl (aj ?_ (aj ?_ (aj ?_ (aj ?_ (aG))))) (fun _ _ _ _ g h=>fQ (by decide) h)) (fun _ _ _ _ g h=>fQ (by decide) h)) (fun _ _ _ _ g h=>fQ (by decide) h)) (fun _=>rfl) rfl ?_
  ·intro ρ y W L hw hn f g hb hd;refine zV dX (fun _ _ h=>fQ (by decide) h) hb ?_;have hv:=hw 74 2 rfl;have h2:y 2=_:=hd 2 rfl;refine ak (.agg (bP H3)) (ag rfl) (bZ rfl (hv.trans h2) hb.2.1 underlying44 rfl mach_size) rfl
  ·intro ρ y W L hw hn f g hb hd;refine zV dX (fun _ _ h=>fQ (by decide) h) hb ?_;have E8:ρ (.tmp 8) = .pointer (some ⟨ga,0,none⟩):=(hn (.tmp 8) rfl).trans rfl;refine ak (.agg (gD 1 0 nilV)) (ag rfl) (bZ rfl E8 hb.2.2.2.1 underlying52 rfl ans_size) rfl
  ·intro ρ y W L hw hn f g hb hd;have E4:ρ (.tmp 4) = .pointer (some ⟨w.heap.size+2,0,none⟩):=(hn (.tmp 4) rfl).trans rfl;have ht:=hw 75 3 rfl;have h3:y 3=_:=hd 3 rfl;have rxW:=hb.2.2.2.2.2.1 f;exact jw (ag rfl) (lL _ _ _ rfl (w.heap.size+2) 0 _ (bP H3).toList E4 (ht.trans h3) rfl _ _ rxW (az _) mach_size (fun u hu=>by have:=dz H3;rw[←iF,dh] at this;exact this u hu)) (FY (by omega) f hb (rxW.setCells _ _) (aB _ _ _ _)) trivial
  ·intro ρ y W L hw hn f g hb hd;have E5:ρ (.tmp 5) = .pointer (some ⟨w.heap.size+3,0,none⟩):=(hn (.tmp 5) rfl).trans rfl;have hs:=hw 76 4 rfl;have h4:y 4=_:=hd 4 rfl;have rxW:=hb.2.2.2.2.2.2.2.1 f;exact jw (ag rfl) (lL _ _ _ rfl (w.heap.size+3) 0 _ (gD 1 0 nilV).toList E5 (hs.trans h4) rfl _ _ rxW (az _) ans_size (fun u hu=>by have:=hl.out;rw[←iF,dh] at this;exact this u hu)) (FX (by omega) (by have:=i.out;omega) f hb (rxW.setCells _ _) (aB _ _ _ _)) trivial
  intro y W7 z ha;clear ha;simp only[dD,bu,bH,bL];obtain⟨⟨x,_⟩,_,hj,_,hi,_,o,_,s⟩:=z;have rx8:=o rfl;have rb8:=s rfl;go_wp2;refine bodyPost_ret (v:=.tuple #[.agg (bP H3),.agg (gD 1 0 nilV)]) ?_ rfl ?_
  ·exact mJ results26 _ _ (w.heap.size+2) (w.heap.size+3) _ _ _ _ _ _ rfl rfl rx8 rb8 underlying44 rfl mach_size underlying52 rfl ans_size
  unfold yc;rw[hX.out];exact⟨H3,_,rfl,x,hj,hf.out,hi⟩
 have d1:decide (c.k<1)=false:=decide_eq_false hk1
 by_cases hk2:15<c.k
 ·have hX:Hid (uz H.ma c=(H.ma,kv 1)):=ae (by unfold uz;rw[if_pos (.inr hk2)])
  go_wp2_with (refine aX rfl _ _ _ rfl ga 0 _ [.int .i64 1] rfl rfl rfl _ _ ax4 (by show 0+1≤3;decide) errno_size (fun u hu=>by cases bF.1 hu;rfl) ?_)
  intro w5 ax5 l;have ax5:aJ w5 ga (gD 1 0 nilV) 52:=ax5;have k5:=k4.keepT ax4 (by decide) (by decide) l;have rx5:=aH rx4 ax4 (by decide) l;have rb5:=iX rb4 l (by have:=i.out;omega);have hc:=ae (m.grown l m.size (fun k hk=>by have:=i.out;cases hk;omega));have j:Own w5 w.heap.size 5 1 nilV ([]:List UInt8).length (([]:List UInt8).map oZ):=Own.nil _ _ _ _;have hl:Hid ((gD 1 0 nilV).all (·.oneCell')=true):=ae (bY _ _ _ _ _);have hf:=hm;clear k4 rx4 rb4 m ax4 l c4 hh;go_upto_region 18 with (fail);clear hA;refine oo 7 [_,_,_,.v (.agg (bP H3)),.v (.agg (gD 1 0 nilV)),.r 5 ((zW fun _=>True)),.r 6 ((zW fun _=>True))] (KJ w w.heap.size b (w.heap.size+2) (w.heap.size+3) ga H3 1 0 nilV ([]:List UInt8).length (([]:List UInt8).map oZ)) dX (fun y=>⟨⟨hc.out,hc.out.size⟩,k5.blk,k5.ma,ax5,j,fun _=>rx5,fun e=>(by cases e),fun _=>rb5,fun e=>(by cases e)⟩) (Qk dX rfl (Qk dX rfl (Qf dX b 0 rfl rfl (aj ?_ (aj ?_ (aj ?_ (aj ?_ (aG))))) (fun _ _ _ _ g h=>fQ (by decide) h)) (fun _ _ _ _ g h=>fQ (by decide) h)) (fun _ _ _ _ g h=>fQ (by decide) h)) (fun _=>rfl) rfl ?_
  ·intro ρ y W L hw hn f g hb hd;refine zV dX (fun _ _ h=>fQ (by decide) h) hb ?_;have hv:=hw 74 2 rfl;have h2:y 2=_:=hd 2 rfl;refine ak (.agg (bP H3)) (ag rfl) (bZ rfl (hv.trans h2) hb.2.1 underlying44 rfl mach_size) rfl
  ·intro ρ y W L hw hn f g hb hd;refine zV dX (fun _ _ h=>fQ (by decide) h) hb ?_;have E8:ρ (.tmp 8) = .pointer (some ⟨ga,0,none⟩):=(hn (.tmp 8) rfl).trans rfl;refine ak (.agg (gD 1 0 nilV)) (ag rfl) (bZ rfl E8 hb.2.2.2.1 underlying52 rfl ans_size) rfl
  ·intro ρ y W L hw hn f g hb hd;have E4:ρ (.tmp 4) = .pointer (some ⟨w.heap.size+2,0,none⟩):=(hn (.tmp 4) rfl).trans rfl;have ht:=hw 75 3 rfl;have h3:y 3=_:=hd 3 rfl;have rxW:=hb.2.2.2.2.2.1 f;exact jw (ag rfl) (lL _ _ _ rfl (w.heap.size+2) 0 _ (bP H3).toList E4 (ht.trans h3) rfl _ _ rxW (az _) mach_size (fun u hu=>by have:=dz H3;rw[←iF,dh] at this;exact this u hu)) (FY (by omega) f hb (rxW.setCells _ _) (aB _ _ _ _)) trivial
  ·intro ρ y W L hw hn f g hb hd;have E5:ρ (.tmp 5) = .pointer (some ⟨w.heap.size+3,0,none⟩):=(hn (.tmp 5) rfl).trans rfl;have hs:=hw 76 4 rfl;have h4:y 4=_:=hd 4 rfl;have rxW:=hb.2.2.2.2.2.2.2.1 f;exact jw (ag rfl) (lL _ _ _ rfl (w.heap.size+3) 0 _ (gD 1 0 nilV).toList E5 (hs.trans h4) rfl _ _ rxW (az _) ans_size (fun u hu=>by have:=hl.out;rw[←iF,dh] at this;exact this u hu)) (FX (by omega) (by have:=i.out;omega) f hb (rxW.setCells _ _) (aB _ _ _ _)) trivial
  intro y W7 z ha;clear ha;simp only[dD,bu,bH,bL];obtain⟨⟨x,_⟩,_,hj,_,hi,_,o,_,s⟩:=z;have rx8:=o rfl;have rb8:=s rfl;go_wp2;refine bodyPost_ret (v:=.tuple #[.agg (bP H3),.agg (gD 1 0 nilV)]) ?_ rfl ?_
  ·exact mJ results26 _ _ (w.heap.size+2) (w.heap.size+3) _ _ _ _ _ _ rfl rfl rx8 rb8 underlying44 rfl mach_size underlying52 rfl ans_size
  unfold yc;rw[hX.out];exact⟨H3,_,rfl,x,hj,hf.out,hi⟩
 have d2:decide (15<c.k)=false:=decide_eq_false hk2;have h1:¬(c.k<1∨15<c.k):=by omega
 obtain⟨Y,hQ⟩:∃Y,Hid ((if c.k≤7 then rW H3.ma c else if c.k=8 then SA H3.ma else if c.k≤12 then Xz H3.ma c else Ug H3.ma c)=Y):=⟨_,ae rfl⟩;have hY:Hid (uz H.ma c=Y):=ae (by rw[←hQ.out,hm.out];unfold uz;rw[if_neg h1])
 by_cases h7:c.k≤7
 ·have hq:Hid (rW H3.ma c=Y):=ae (by rw[←hQ.out,if_pos h7]);have hp:=Jt H3 c a cap (w.heap.size+1) w.heap.size b w4 k4 km.out c4 hh (fun P e1 e2 e3=>by rw[hm.out] at e2 e3 ⊢; exact ke.out P h7 e1 e2 e3);rw[hq.out] at hp;have hz:=ae hp;clear hp hh
  go_wp2_with fail
  refine hz.out.mono ?_;rintro r w5 ⟨d,rfl,j,l,H5,k5,hf⟩;obtain⟨ad,cd,rfl,_⟩:=j.rd;have hf:=ae hf;have ax5:=ax4.grown l (fun e=>by have:=i.out;cases e;omega);have rx5:=rx4.grown l (fun e=>by have:=i.out;cases e;omega);have rb5:=rb4.grown l (fun e=>by have:=i.out;cases e;omega);have hg:=m.grown l m.size (fun k hk=>by have:=i.out;cases hk;omega);have j:=j.mono m.size;clear k4 ax4 l rx4 rb4 c4
  go_wp2_with (refine ax rfl _ _ _ rfl ga (gD Y.2.e Y.2.n (.slice ad Y.2.da.length cd)) rfl rfl _ _ ax5 rfl ans_size (bY _ _ _ _ _) ?_)
  intro w6 ax6 t;have k6:=k5.keepT ax5 (by decide) (by decide) t;have rx6:=aH rx5 ax5 (by decide) t;have rb6:=iX rb5 t (by have:=i.out;omega);have hy:=ay j ax5 (by decide) t;have hB:=ae (hg.grown t hg.size (fun k hk=>by have:=i.out;cases hk;omega));clear k5 rx5 rb5 j hg ax5 t;have k5:=k6;have rx5:=rx6;have rb5:=rb6;have j:=hy;have hc:=hB;have ax5:=ax6;clear k6 rx6 rb6 hy hB ax6;have hl:Hid ((gD Y.2.e Y.2.n (.slice ad Y.2.da.length cd)).all (·.oneCell')=true):=ae (bY _ _ _ _ _);have hX:Hid (uz H.ma c=(Y.1,⟨Y.2.e,Y.2.n,Y.2.da⟩)):=hY;go_upto_region 18 with (fail);clear hA;refine oo 7 [_,_,_,.v (.agg (bP H5)),.v (.agg (gD Y.2.e Y.2.n (.slice ad Y.2.da.length cd))),.r 5 ((zW fun _=>True)),.r 6 ((zW fun _=>True))] (KJ w w.heap.size b (w.heap.size+2) (w.heap.size+3) ga H5 Y.2.e Y.2.n (.slice ad Y.2.da.length cd) Y.2.da.length (Y.2.da.map oZ)) dX (fun y=>⟨⟨hc.out,hc.out.size⟩,k5.blk,k5.ma,ax5,j,fun _=>rx5,fun e=>(by cases e),fun _=>rb5,fun e=>(by cases e)⟩) (Qk dX rfl (Qk dX rfl (Qf dX b 0 rfl rfl (aj ?_ (aj ?_ (aj ?_ (aj ?_ (aG))))) (fun _ _ _ _ g h=>fQ (by decide) h)) (fun _ _ _ _ g h=>fQ (by decide) h)) (fun _ _ _ _ g h=>fQ (by decide) h)) (fun _=>rfl) rfl ?_
  ·intro ρ y W L hw hn f g hb hd;refine zV dX (fun _ _ h=>fQ (by decide) h) hb ?_;have hv:=hw 74 2 rfl;have h2:y 2=_:=hd 2 rfl;refine ak (.agg (bP H5)) (ag rfl) (bZ rfl (hv.trans h2) hb.2.1 underlying44 rfl mach_size) rfl
  ·intro ρ y W L hw hn f g hb hd;refine zV dX (fun _ _ h=>fQ (by decide) h) hb ?_;have E8:ρ (.tmp 8) = .pointer (some ⟨ga,0,none⟩):=(hn (.tmp 8) rfl).trans rfl;refine ak (.agg (gD Y.2.e Y.2.n (.slice ad Y.2.da.length cd))) (ag rfl) (bZ rfl E8 hb.2.2.2.1 underlying52 rfl ans_size) rfl
  ·intro ρ y W L hw hn f g hb hd;have E4:ρ (.tmp 4) = .pointer (some ⟨w.heap.size+2,0,none⟩):=(hn (.tmp 4) rfl).trans rfl;have ht:=hw 75 3 rfl;have h3:y 3=_:=hd 3 rfl;have rxW:=hb.2.2.2.2.2.1 f;exact jw (ag rfl) (lL _ _ _ rfl (w.heap.size+2) 0 _ (bP H5).toList E4 (ht.trans h3) rfl _ _ rxW (az _) mach_size (fun u hu=>by have:=dz H5;rw[←iF,dh] at this;exact this u hu)) (FY (by omega) f hb (rxW.setCells _ _) (aB _ _ _ _)) trivial
  ·intro ρ y W L hw hn f g hb hd;have E5:ρ (.tmp 5) = .pointer (some ⟨w.heap.size+3,0,none⟩):=(hn (.tmp 5) rfl).trans rfl;have hs:=hw 76 4 rfl;have h4:y 4=_:=hd 4 rfl;have rxW:=hb.2.2.2.2.2.2.2.1 f;exact jw (ag rfl) (lL _ _ _ rfl (w.heap.size+3) 0 _ (gD Y.2.e Y.2.n (.slice ad Y.2.da.length cd)).toList E5 (hs.trans h4) rfl _ _ rxW (az _) ans_size (fun u hu=>by have:=hl.out;rw[←iF,dh] at this;exact this u hu)) (FX (by omega) (by have:=i.out;omega) f hb (rxW.setCells _ _) (aB _ _ _ _)) trivial
  intro y W7 z ha;clear ha;simp only[dD,bu,bH,bL];obtain⟨⟨x,_⟩,_,hj,_,hi,_,o,_,s⟩:=z;have rx8:=o rfl;have rb8:=s rfl;go_wp2;refine bodyPost_ret (v:=.tuple #[.agg (bP H5),.agg (gD Y.2.e Y.2.n (.slice ad Y.2.da.length cd))]) ?_ rfl ?_
  ·exact mJ results26 _ _ (w.heap.size+2) (w.heap.size+3) _ _ _ _ _ _ rfl rfl rx8 rb8 underlying44 rfl mach_size underlying52 rfl ans_size
  unfold yc;rw[hX.out];exact⟨H5,_,rfl,x,hj,hf.out,hi⟩
 by_cases h8:c.k=8
 ·have hq:Hid (SA H3.ma=Y):=ae (by rw[←hQ.out,if_neg h7,if_pos h8]);have hM:Hid (bQ H3.fi H3.ct=H3.ma.st):=ae rfl;go_upto_region 12 with (fail)
  go_wp2_with (refine aA _ _ rfl b 7 rfl rfl _ (bW k4.blk 7 2) _ underlying40 rfl store_size ?_)
  refine (JZ H3.fi H3.ct H3.ai H3.ci _ k4.ma.rd.st k4.ma.c64).mono ?_;rintro r w5 ⟨v5,qs,ct5,rfl,hR,hS,hJ⟩;obtain⟨a5,c5,rfl,_⟩:=hR.rd;have hC:=ae hS;have k5:=k4.below hJ;have ax5:=ax4.ext hJ;have rx5:=rx4.ext hJ;have rb5:=rb4.ext hJ;have hW:=ah m hJ;have hR:=hR.mono m.size;clear k4 ax4 rx4 rb4 m hJ hS hh c4
  go_wp2_with (refine aW rfl _ _ _ rfl #[.slice a5 qs.length c5,.int .i64 ct5] rfl rfl rfl store_size (mU _ _ _ _) ?_)
  intro w6 hF sx6;have k6:=k5.below hF;have ax6:=ax5.ext hF;have rx6:=rx5.ext hF;have rb6:=rb5.ext hF;have hx:=ah hW hF;have h5:=hR.below hF;have kl:Hid (ga<w5.heap.size):=ae ax5.lt;clear k5 ax5 rx5 rb5 hW hR hF;generalize w5.heap.size=gs at sx6 kl
  by_cases hE:lN H3.ma.st=0
  ·have hI:=hE;rw[←hM.out] at hI;have hX:Hid (uz H.ma c=({ H3.ma with st:=oU H3.ma.st },⟨0,jR (bQ H3.fi H3.ct),[]⟩)):=ae (by rw[hY.out,←hq.out];unfold SA;rw[if_pos hE];rfl);have hct:Hid (ct5=H3.ct):=ae (by have:=congrArg St.count hC.out;unfold oU at this;rw[if_pos hI] at this;exact this);rw[hI]
   go_wp2_with (first | (refine aA _ _ rfl gs 0 rfl rfl #[.slice a5 qs.length c5,.int .i64 ct5].toList sx6.rd _ underlying40 rfl store_size ?_) | (refine fI rfl _ _ _ rfl b 7 #[.slice a5 qs.length c5,.int .i64 ct5] rfl rfl _ _ k6.blk (by show 7+2≤11;decide) store_size (mU _ _ _ _) ?_))
   intro w7 kx7 hD;have M7:=k6.ma.keep k6.blk (by decide) hD;have kh:=h5.keep k6.blk (by decide) (by decide) hD;have k7:pG w7 w.heap.size b { H3 with ai:=a5,ci:=c5,fi:=qs,ct:=ct5 }:=⟨kx7,k6.ge,⟨M7.fr,M7.sl,M7.sw,M7.dk,kh,M7.ca,M7.sp,M7.ps,by rw[hct.out];exact M7.c64⟩⟩;have ax7:=aH ax6 k6.blk (by decide) hD;have rx7:=aH rx6 k6.blk (by decide) hD;have rb7:=aH rb6 k6.blk (by decide) hD;have ka:=hx.grown hD hx.size (fun k hk=>by have:=i.out;cases hk;omega);have kk:Hid (MH.ma { H3 with ai:=a5,ci:=c5,fi:=qs,ct:=ct5 } = { H3.ma with st:=oU H3.ma.st }):=ae (by have e:bQ qs ct5=oU H3.ma.st:=hC.out;rw[←e];rfl);clear k6 kx7 M7 kh h5 ax6 rx6 rb6 hx hD sx6 hC;generalize ({ H3 with ai:=a5,ci:=c5,fi:=qs,ct:=ct5 }:MH)=H5 at *
   go_wp2_with (refine aX rfl _ _ _ rfl ga 1 _ [.int .i64 (jR (bQ H3.fi H3.ct))] rfl rfl rfl _ _ ax7 (by show 1+1≤3;decide) int_size (fun u hu=>by cases bF.1 hu;rfl) ?_)
   intro w8 ax8 hN;have ax8:aJ w8 ga (gD 0 (jR (bQ H3.fi H3.ct)) nilV) 52:=ax8;have k8:=k7.keepT ax7 (by decide) (by decide) hN;have rx8:=aH rx7 ax7 (by decide) hN;have rb8:=iX rb7 hN (by have:=i.out;omega);have h9:=ka.grown hN ka.size (fun k hk=>by have:=i.out;cases hk;omega);clear k7 rx7 rb7 ka ax7 hN
   go_wp2_with (refine aX rfl _ _ _ rfl ga 0 _ [.int .i64 0] rfl rfl rfl _ _ ax8 (by show 0+1≤3;decide) errno_size (fun u hu=>by cases bF.1 hu;rfl) ?_)
   intro w9 ax9 hr;have ax5:aJ w9 ga (gD 0 (jR (bQ H3.fi H3.ct)) nilV) 52:=ax9;have k5:=k8.keepT ax8 (by decide) (by decide) hr;have rx5:=aH rx8 ax8 (by decide) hr;have rb5:=iX rb8 hr (by have:=i.out;omega);have hc:=ae (h9.grown hr h9.size (fun k hk=>by have:=i.out;cases hk;omega));clear k8 rx8 rb8 h9 ax8 hr ax9;have j:Own w9 w.heap.size 5 1 nilV ([]:List UInt8).length (([]:List UInt8).map oZ):=Own.nil _ _ _ _;have hl:Hid ((gD 0 (jR (bQ H3.fi H3.ct)) nilV).all (·.oneCell')=true):=ae (bY _ _ _ _ _);have hf:=kk;go_upto_region 18 with (fail);clear hA;refine oo 7 [_,_,_,.v (.agg (bP H5)),.v (.agg (gD 0 (jR (bQ H3.fi H3.ct)) nilV)),.r 5 ((zW fun _=>True)),.r 6 ((zW fun _=>True))] (KJ w w.heap.size b (w.heap.size+2) (w.heap.size+3) ga H5 0 (jR (bQ H3.fi H3.ct)) nilV ([]:List UInt8).length (([]:List UInt8).map oZ)) dX (fun y=>⟨⟨hc.out,hc.out.size⟩,k5.blk,k5.ma,ax5,j,fun _=>rx5,fun e=>(by cases e),fun _=>rb5,fun e=>(by cases e)⟩) (Qk dX rfl (Qk dX rfl (Qf dX b 0 rfl rfl (aj ?_ (aj ?_ (aj ?_ (aj ?_ (aG))))) (fun _ _ _ _ g h=>fQ (by decide) h)) (fun _ _ _ _ g h=>fQ (by decide) h)) (fun _ _ _ _ g h=>fQ (by decide) h)) (fun _=>rfl) rfl ?_
   ·intro ρ y W L hw hn f g hb hd;refine zV dX (fun _ _ h=>fQ (by decide) h) hb ?_;have hv:=hw 74 2 rfl;have h2:y 2=_:=hd 2 rfl;refine ak (.agg (bP H5)) (ag rfl) (bZ rfl (hv.trans h2) hb.2.1 underlying44 rfl mach_size) rfl
   ·intro ρ y W L hw hn f g hb hd;refine zV dX (fun _ _ h=>fQ (by decide) h) hb ?_;have E8:ρ (.tmp 8) = .pointer (some ⟨ga,0,none⟩):=(hn (.tmp 8) rfl).trans rfl;refine ak (.agg (gD 0 (jR (bQ H3.fi H3.ct)) nilV)) (ag rfl) (bZ rfl E8 hb.2.2.2.1 underlying52 rfl ans_size) rfl
   ·intro ρ y W L hw hn f g hb hd;have E4:ρ (.tmp 4) = .pointer (some ⟨w.heap.size+2,0,none⟩):=(hn (.tmp 4) rfl).trans rfl;have ht:=hw 75 3 rfl;have h3:y 3=_:=hd 3 rfl;have rxW:=hb.2.2.2.2.2.1 f;exact jw (ag rfl) (lL _ _ _ rfl (w.heap.size+2) 0 _ (bP H5).toList E4 (ht.trans h3) rfl _ _ rxW (az _) mach_size (fun u hu=>by have:=dz H5;rw[←iF,dh] at this;exact this u hu)) (FY (by omega) f hb (rxW.setCells _ _) (aB _ _ _ _)) trivial
   ·intro ρ y W L hw hn f g hb hd;have E5:ρ (.tmp 5) = .pointer (some ⟨w.heap.size+3,0,none⟩):=(hn (.tmp 5) rfl).trans rfl;have hs:=hw 76 4 rfl;have h4:y 4=_:=hd 4 rfl;have rxW:=hb.2.2.2.2.2.2.2.1 f;exact jw (ag rfl) (lL _ _ _ rfl (w.heap.size+3) 0 _ (gD 0 (jR (bQ H3.fi H3.ct)) nilV).toList E5 (hs.trans h4) rfl _ _ rxW (az _) ans_size (fun u hu=>by have:=hl.out;rw[←iF,dh] at this;exact this u hu)) (FX (by omega) (by have:=i.out;omega) f hb (rxW.setCells _ _) (aB _ _ _ _)) trivial
   intro y W7 z ha;clear ha;simp only[dD,bu,bH,bL];obtain⟨⟨x,_⟩,_,hj,_,hi,_,o,_,s⟩:=z;have rx8:=o rfl;have rb8:=s rfl;go_wp2;refine bodyPost_ret (v:=.tuple #[.agg (bP H5),.agg (gD 0 (jR (bQ H3.fi H3.ct)) nilV)]) ?_ rfl ?_
   ·exact mJ results26 _ _ (w.heap.size+2) (w.heap.size+3) _ _ _ _ _ _ rfl rfl rx8 rb8 underlying44 rfl mach_size underlying52 rfl ans_size
   unfold yc;rw[hX.out];exact⟨H5,_,rfl,x,hj,hf.out,hi⟩
  have hI:=hE;rw[←hM.out] at hI;obtain⟨E,ki⟩:∃E,Hid (lN (bQ H3.fi H3.ct)=E):=⟨_,ae rfl⟩;have hX:Hid (uz H.ma c=(H.ma,⟨E,0,[]⟩)):=ae (by rw[hY.out,←hq.out];unfold SA;rw[if_neg hE,←hM.out,ki.out,hm.out];rfl);rw[ki.out] at hI ⊢;have ko:(E==0)=false:=by simpa using hI
  go_wp2_with (refine aX rfl _ _ _ rfl ga 0 _ [.int .i64 E] rfl rfl rfl _ _ ax6 (by show 0+1≤3;decide) errno_size (fun u hu=>by cases bF.1 hu;rfl) ?_)
  intro w9 ax9 hr;have ax5:aJ w9 ga (gD E 0 nilV) 52:=ax9;have k5:=k6.keepT ax6 (by decide) (by decide) hr;have rx5:=aH rx6 ax6 (by decide) hr;have rb5:=iX rb6 hr (by have:=i.out;omega);have hc:=ae (hx.grown hr hx.size (fun k hk=>by have:=i.out;cases hk;omega));clear k6 rx6 rb6 hx ax6 hr ax9 h5 sx6;have j:Own w9 w.heap.size 5 1 nilV ([]:List UInt8).length (([]:List UInt8).map oZ):=Own.nil _ _ _ _;have hl:Hid ((gD E 0 nilV).all (·.oneCell')=true):=ae (bY _ _ _ _ _);have hf:=hm;go_upto_region 18 with (fail);clear hA;refine oo 7 [_,_,_,.v (.agg (bP H3)),.v (.agg (gD E 0 nilV)),.r 5 ((zW fun _=>True)),.r 6 ((zW fun _=>True))] (KJ w w.heap.size b (w.heap.size+2) (w.heap.size+3) ga H3 E 0 nilV ([]:List UInt8).length (([]:List UInt8).map oZ)) dX (fun y=>⟨⟨hc.out,hc.out.size⟩,k5.blk,k5.ma,ax5,j,fun _=>rx5,fun e=>(by cases e),fun _=>rb5,fun e=>(by cases e)⟩) (Qk dX rfl (Qk dX rfl (Qf dX b 0 rfl rfl (aj ?_ (aj ?_ (aj ?_ (aj ?_ (aG))))) (fun _ _ _ _ g h=>fQ (by decide) h)) (fun _ _ _ _ g h=>fQ (by decide) h)) (fun _ _ _ _ g h=>fQ (by decide) h)) (fun _=>rfl) rfl ?_
  ·intro ρ y W L hw hn f g hb hd;refine zV dX (fun _ _ h=>fQ (by decide) h) hb ?_;have hv:=hw 74 2 rfl;have h2:y 2=_:=hd 2 rfl;refine ak (.agg (bP H3)) (ag rfl) (bZ rfl (hv.trans h2) hb.2.1 underlying44 rfl mach_size) rfl
  ·intro ρ y W L hw hn f g hb hd;refine zV dX (fun _ _ h=>fQ (by decide) h) hb ?_;have E8:ρ (.tmp 8) = .pointer (some ⟨ga,0,none⟩):=(hn (.tmp 8) rfl).trans rfl;refine ak (.agg (gD E 0 nilV)) (ag rfl) (bZ rfl E8 hb.2.2.2.1 underlying52 rfl ans_size) rfl
  ·intro ρ y W L hw hn f g hb hd;have E4:ρ (.tmp 4) = .pointer (some ⟨w.heap.size+2,0,none⟩):=(hn (.tmp 4) rfl).trans rfl;have ht:=hw 75 3 rfl;have h3:y 3=_:=hd 3 rfl;have rxW:=hb.2.2.2.2.2.1 f;exact jw (ag rfl) (lL _ _ _ rfl (w.heap.size+2) 0 _ (bP H3).toList E4 (ht.trans h3) rfl _ _ rxW (az _) mach_size (fun u hu=>by have:=dz H3;rw[←iF,dh] at this;exact this u hu)) (FY (by omega) f hb (rxW.setCells _ _) (aB _ _ _ _)) trivial
  ·intro ρ y W L hw hn f g hb hd;have E5:ρ (.tmp 5) = .pointer (some ⟨w.heap.size+3,0,none⟩):=(hn (.tmp 5) rfl).trans rfl;have hs:=hw 76 4 rfl;have h4:y 4=_:=hd 4 rfl;have rxW:=hb.2.2.2.2.2.2.2.1 f;exact jw (ag rfl) (lL _ _ _ rfl (w.heap.size+3) 0 _ (gD E 0 nilV).toList E5 (hs.trans h4) rfl _ _ rxW (az _) ans_size (fun u hu=>by have:=hl.out;rw[←iF,dh] at this;exact this u hu)) (FX (by omega) (by have:=i.out;omega) f hb (rxW.setCells _ _) (aB _ _ _ _)) trivial
  intro y W7 z ha;clear ha;simp only[dD,bu,bH,bL];obtain⟨⟨x,_⟩,_,hj,_,hi,_,o,_,s⟩:=z;have rx8:=o rfl;have rb8:=s rfl;go_wp2;refine bodyPost_ret (v:=.tuple #[.agg (bP H3),.agg (gD E 0 nilV)]) ?_ rfl ?_
  ·exact mJ results26 _ _ (w.heap.size+2) (w.heap.size+3) _ _ _ _ _ _ rfl rfl rx8 rb8 underlying44 rfl mach_size underlying52 rfl ans_size
  unfold yc;rw[hX.out];exact⟨H3,_,rfl,x,hj,hf.out,hi⟩
 have d8:(c.k==8)=false:=by simpa using h8
 by_cases h12:c.k≤12
 case' pos=>
  have hq:Hid (Xz H.ma c=Y):=ae (by rw[←hQ.out,if_neg h7,if_neg h8,if_pos h12,hm.out]);have hp:=kg.out (by omega) h12 H3 (w.heap.size+1) w.heap.size b w4 hm.out k4 c4 hh;rw[hq.out] at hp;have hz:=ae hp;clear hp hh
  go_wp2_with fail
  refine hz.out.mono ?_;rintro r w5 ⟨d,rfl,j,l,H5,k5,hf⟩;obtain⟨ad,cd,rfl,_⟩:=j.rd;have hf:=ae hf;have ax5:=ax4.grown l (fun e=>by have:=i.out;cases e;omega);have rx5:=rx4.grown l (fun e=>by have:=i.out;cases e;omega);have rb5:=rb4.grown l (fun e=>by have:=i.out;cases e;omega);have hg:=m.grown l m.size (fun k hk=>by have:=i.out;cases hk;omega);have j:=j.mono m.size;clear k4 ax4 l rx4 rb4 c4
  go_wp2_with (refine ax rfl _ _ _ rfl ga (gD Y.2.e Y.2.n (.slice ad Y.2.da.length cd)) rfl rfl _ _ ax5 rfl ans_size (bY _ _ _ _ _) ?_)
  intro w6 ax6 t;have k6:=k5.keepT ax5 (by decide) (by decide) t;have rx6:=aH rx5 ax5 (by decide) t;have rb6:=iX rb5 t (by have:=i.out;omega);have hy:=ay j ax5 (by decide) t;have hB:=ae (hg.grown t hg.size (fun k hk=>by have:=i.out;cases hk;omega));clear k5 rx5 rb5 j hg ax5 t;have k5:=k6;have rx5:=rx6;have rb5:=rb6;have j:=hy;have hc:=hB;have ax5:=ax6;clear k6 rx6 rb6 hy hB ax6;have hl:Hid ((gD Y.2.e Y.2.n (.slice ad Y.2.da.length cd)).all (·.oneCell')=true):=ae (bY _ _ _ _ _);have hX:Hid (uz H.ma c=(Y.1,⟨Y.2.e,Y.2.n,Y.2.da⟩)):=hY;go_upto_region 18 with (fail);clear hA;refine oo 7 [_,_,_,.v (.agg (bP H5)),.v (.agg (gD Y.2.e Y.2.n (.slice ad Y.2.da.length cd))),.r 5 ((zW fun _=>True)),.r 6 ((zW fun _=>True))] (KJ w w.heap.size b (w.heap.size+2) (w.heap.size+3) ga H5 Y.2.e Y.2.n (.slice ad Y.2.da.length cd) Y.2.da.length (Y.2.da.map oZ)) dX (fun y=>⟨⟨hc.out,hc.out.size⟩,k5.blk,k5.ma,ax5,j,fun _=>rx5,fun e=>(by cases e),fun _=>rb5,fun e=>(by cases e)⟩) (Qk dX rfl (Qk dX rfl (Qf dX b 0 rfl rfl (aj ?u1_1 (aj ?u1_2 (aj ?u1_3 (aj ?u1_4 (aG))))) (fun _ _ _ _ g h=>fQ (by decide) h)) (fun _ _ _ _ g h=>fQ (by decide) h)) (fun _ _ _ _ g h=>fQ (by decide) h)) (fun _=>rfl) rfl ?u1_5
 case' neg=>
  have hq:Hid (Ug H.ma c=Y):=ae (by rw[←hQ.out,if_neg h7,if_neg h8,if_neg h12,hm.out]);have hp:=kf.out (by omega) H3 (w.heap.size+1) w.heap.size b w4 hm.out k4 c4 hh;rw[hq.out] at hp;have hz:=ae hp;clear hp hh
  go_wp2_with fail
  refine hz.out.mono ?_;rintro r w5 ⟨d,rfl,j,l,H5,k5,hf⟩;obtain⟨ad,cd,rfl,_⟩:=j.rd;have hf:=ae hf;have ax5:=ax4.grown l (fun e=>by have:=i.out;cases e;omega);have rx5:=rx4.grown l (fun e=>by have:=i.out;cases e;omega);have rb5:=rb4.grown l (fun e=>by have:=i.out;cases e;omega);have hg:=m.grown l m.size (fun k hk=>by have:=i.out;cases hk;omega);have j:=j.mono m.size;clear k4 ax4 l rx4 rb4 c4
  go_wp2_with (refine ax rfl _ _ _ rfl ga (gD Y.2.e Y.2.n (.slice ad Y.2.da.length cd)) rfl rfl _ _ ax5 rfl ans_size (bY _ _ _ _ _) ?_)
  intro w6 ax6 t;have k6:=k5.keepT ax5 (by decide) (by decide) t;have rx6:=aH rx5 ax5 (by decide) t;have rb6:=iX rb5 t (by have:=i.out;omega);have hy:=ay j ax5 (by decide) t;have hB:=ae (hg.grown t hg.size (fun k hk=>by have:=i.out;cases hk;omega));clear k5 rx5 rb5 j hg ax5 t;have k5:=k6;have rx5:=rx6;have rb5:=rb6;have j:=hy;have hc:=hB;have ax5:=ax6;clear k6 rx6 rb6 hy hB ax6;have hl:Hid ((gD Y.2.e Y.2.n (.slice ad Y.2.da.length cd)).all (·.oneCell')=true):=ae (bY _ _ _ _ _);have hX:Hid (uz H.ma c=(Y.1,⟨Y.2.e,Y.2.n,Y.2.da⟩)):=hY;go_upto_region 18 with (fail);clear hA;refine oo 7 [_,_,_,.v (.agg (bP H5)),.v (.agg (gD Y.2.e Y.2.n (.slice ad Y.2.da.length cd))),.r 5 ((zW fun _=>True)),.r 6 ((zW fun _=>True))] (KJ w w.heap.size b (w.heap.size+2) (w.heap.size+3) ga H5 Y.2.e Y.2.n (.slice ad Y.2.da.length cd) Y.2.da.length (Y.2.da.map oZ)) dX (fun y=>⟨⟨hc.out,hc.out.size⟩,k5.blk,k5.ma,ax5,j,fun _=>rx5,fun e=>(by cases e),fun _=>rb5,fun e=>(by cases e)⟩) (Qk dX rfl (Qk dX rfl (Qf dX b 0 rfl rfl (aj ?v1_1 (aj ?v1_2 (aj ?v1_3 (aj ?v1_4 (aG))))) (fun _ _ _ _ g h=>fQ (by decide) h)) (fun _ _ _ _ g h=>fQ (by decide) h)) (fun _ _ _ _ g h=>fQ (by decide) h)) (fun _=>rfl) rfl ?v1_5
 case u1_1|v1_1=>
  intro ρ y W L hw hn f g hb hd;refine zV dX (fun _ _ h=>fQ (by decide) h) hb ?_;have hv:=hw 74 2 rfl;have h2:y 2=_:=hd 2 rfl;refine ak (.agg (bP H5)) (ag rfl) (bZ rfl (hv.trans h2) hb.2.1 underlying44 rfl mach_size) rfl
 case u1_2|v1_2=>
  intro ρ y W L hw hn f g hb hd;refine zV dX (fun _ _ h=>fQ (by decide) h) hb ?_;have E8:ρ (.tmp 8) = .pointer (some ⟨ga,0,none⟩):=(hn (.tmp 8) rfl).trans rfl;refine ak (.agg (gD Y.2.e Y.2.n (.slice ad Y.2.da.length cd))) (ag rfl) (bZ rfl E8 hb.2.2.2.1 underlying52 rfl ans_size) rfl
 case u1_3|v1_3=>
  intro ρ y W L hw hn f g hb hd;have E4:ρ (.tmp 4) = .pointer (some ⟨w.heap.size+2,0,none⟩):=(hn (.tmp 4) rfl).trans rfl;have ht:=hw 75 3 rfl;have h3:y 3=_:=hd 3 rfl;have rxW:=hb.2.2.2.2.2.1 f;exact jw (ag rfl) (lL _ _ _ rfl (w.heap.size+2) 0 _ (bP H5).toList E4 (ht.trans h3) rfl _ _ rxW (az _) mach_size (fun u hu=>by have:=dz H5;rw[←iF,dh] at this;exact this u hu)) (FY (by omega) f hb (rxW.setCells _ _) (aB _ _ _ _)) trivial
 case u1_4|v1_4=>
  intro ρ y W L hw hn f g hb hd;have E5:ρ (.tmp 5) = .pointer (some ⟨w.heap.size+3,0,none⟩):=(hn (.tmp 5) rfl).trans rfl;have hs:=hw 76 4 rfl;have h4:y 4=_:=hd 4 rfl;have rxW:=hb.2.2.2.2.2.2.2.1 f;exact jw (ag rfl) (lL _ _ _ rfl (w.heap.size+3) 0 _ (gD Y.2.e Y.2.n (.slice ad Y.2.da.length cd)).toList E5 (hs.trans h4) rfl _ _ rxW (az _) ans_size (fun u hu=>by have:=hl.out;rw[←iF,dh] at this;exact this u hu)) (FX (by omega) (by have:=i.out;omega) f hb (rxW.setCells _ _) (aB _ _ _ _)) trivial
 case u1_5=>
  intro y W7 z ha;clear ha;simp only[dD,bu,bH,bL];obtain⟨⟨x,_⟩,_,hj,_,hi,_,o,_,s⟩:=z;have rx8:=o rfl;have rb8:=s rfl;go_wp2;refine bodyPost_ret (v:=.tuple #[.agg (bP H5),.agg (gD Y.2.e Y.2.n (.slice ad Y.2.da.length cd))]) ?_ rfl ?_
  ·exact mJ results26 _ _ (w.heap.size+2) (w.heap.size+3) _ _ _ _ _ _ rfl rfl rx8 rb8 underlying44 rfl mach_size underlying52 rfl ans_size
  unfold yc;rw[hX.out];exact⟨H5,_,rfl,x,hj,hf.out,hi⟩
 case v1_5=>
  intro y W7 z ha;clear ha;simp only[dD,bu,bH,bL];obtain⟨⟨x,_⟩,_,hj,_,hi,_,o,_,s⟩:=z;have rx8:=o rfl;have rb8:=s rfl;go_wp2;refine bodyPost_ret (v:=.tuple #[.agg (bP H5),.agg (gD Y.2.e Y.2.n (.slice ad Y.2.da.length cd))]) ?_ rfl ?_
  ·exact mJ results26 _ _ (w.heap.size+2) (w.heap.size+3) _ _ _ _ _ _ rfl rfl rx8 rb8 underlying44 rfl mach_size underlying52 rfl ans_size
  unfold yc;rw[hX.out];exact⟨H5,_,rfl,x,hj,hf.out,hi⟩
structure Cr where
 c:Cl
 a:Option Addr
 cap:Nat
def UN (x:Cr):List Value:=(nQ x.c x.a x.cap).toList
theorem Vi (x:Cr):(UN x).length=10:=rfl
structure vY (w:World) (x:Cr):Prop where
 rd:dV w x.a (x.c.da.map oZ)
 le:x.c.da.length≤x.cap
 mx:x.cap≤maxLen
 nl:x.a=none→x.cap=0
 b64:nS x.c.a∧nS x.c.n
theorem vY.below {x:Cr} (h:vY w x) (hb:Below w.heap.size w w'):vY w' x:=⟨h.rd.below hb,h.le,h.mx,h.nl,h.b64⟩
structure uf (w:World) (B:Nat) (v:Value) (al:List (An × Value)):Prop where
 own:Own w B 52 3 v al.length (al.flatMap fun x=>(gD x.1.e x.1.n x.2).toList)
 each:∀x∈al,Own w B 5 1 x.2 x.1.da.length (x.1.da.map oZ)
theorem uf.below {al:List (An × Value)} (h:uf w B v al) (hb:Below w.heap.size w w'):uf w' B v al:=⟨h.own.below hb,fun x hx=>(h.each x hx).below hb⟩
theorem uf.mono {al:List (An × Value)} (h:uf w B v al) (hB:B'≤B):uf w B' v al:=⟨h.own.mono hB,fun x hx=>(h.each x hx).mono hB⟩
def runC:Ma→List Cl→Ma × List An
 | m,[]=>(m,[])
 | m,c::l=>((runC (uz m c).1 l).1,(uz m c).2::(runC (uz m c).1 l).2)
theorem Km : ∀(l:List Cl) (m:Ma) (c:Cl),runC m (l++[c])=((uz (runC m l).1 c).1,(runC m l).2++[(uz (runC m l).1 c).2])
 | [],m,c=>rfl
 | d::l,m,c=>by rw[Hq];unfold runC;rw[Km l];simp
theorem run_ok:∀(l:List Cl) {m:Ma},qA m→(∀c∈l,∀m,qA m→qA (uz m c).1)→qA (runC m l).1
 | [],m,h,_=>h
 | c::l,m,h,hk=>run_ok l (hk c (by simp) m h) fun d hd=>hk d (by simp[hd])
theorem Ni {al:List (An × Value)} (ho:uf w B v al) (hg:w.grownBy w' v.ownBlock) :
  w.grownBy w' none∨∃g cs,aJ w g cs 52∧B≤g∧w.grownBy w' (some g):=by
 cases hr:v.ownBlock with
 | none=>rw[hr] at hg;exact .inl hg
 | some g=>
  rw[hr] at hg;obtain⟨cs,hb⟩:=qJ ho.own g hr;exact .inr ⟨g,cs,hb,ho.own.ge g hr,hg⟩
theorem jB {m:Nat} {al:List (An × Value)} (ho:uf w B v al) (hg:w.grownBy w' v.ownBlock) (h:Own w B' T sz u m ys) (hT:T≠52):Own w' B' T sz u m ys:=by
 rcases Ni ho hg with h1|⟨g,cs,hb,_,h1⟩
 ·exact jA h h1
 ·exact ay h hb (fun e=>hT e.symm) h1
theorem Kh {al:List (An × Value)} (ho:uf w B v al) (hg:w.grownBy w' v.ownBlock) (h:aJ w b cs T) (hT:T≠52):aJ w' b cs T:=by
 rcases Ni ho hg with h1|⟨g,cs',hb,_,h1⟩
 ·exact h.grown h1 (fun e=>by cases e)
 ·exact h.grown h1 (fun e=>wh h hb hT (aT e).symm)
theorem RB {al:List (An × Value)} (ho:uf w B v al) (hg:w.grownBy w' v.ownBlock) (h:qf w B' H):qf w' B' H:=
 ⟨jB ho hg h.fr (by decide),jB ho hg h.sl (by decide),⟨jB ho hg h.sw.b (by decide),jB ho hg h.sw.q (by decide)⟩,⟨jB ho hg h.dk.b (by decide),jB ho hg h.dk.q (by decide)⟩,
  ⟨jB ho hg h.st.own (by decide),fun i p hp=>jB ho hg (h.st.each i p hp) (by decide),h.st.apart⟩,jB ho hg h.ca (by decide),jB ho hg h.sp (by decide),fun p hp=>⟨jB ho hg (h.ps p hp).1 (by decide),⟨(h.ps p hp).2.sz,fun k hk=>by obtain⟨u,h1,h2⟩:=(h.ps p hp).2.own k hk;exact⟨u,h1,jB ho hg h2 (by decide)⟩,(h.ps p hp).2.apart⟩⟩,h.c64⟩
theorem ans_info:(Tryz.prog.info? 52).map (fun i=>(i.zero,i.size,i.bytes))=some (some (.agg #[.int .i64 0,.int .i64 0,.slice none 0 0]),3,40):=by kernel_rfl
theorem cfg_size3:(Tryz.prog.info? 50).map (·.size)=some 3:=by kernel_rfl
theorem call_size:(Tryz.prog.info? 25).map (·.size)=some 10:=by kernel_rfl
theorem uS (c:Cl) (a:Option Addr) (cap:Nat):(nQ c a cap).all (·.oneCell')=true:=by simp[nQ,Value.oneCell']
theorem Iq {f s b:Int} (h:(0≤f∧f≤40)∧(0≤s∧s≤60)∧0≤b∧b≤80):qA (jf f s b):=by
 have hi:=MQ h;have hR:Rt (jf f s b):=by obtain⟨F,rfl⟩:∃F:Nat,f=F:=⟨f.toNat,by omega⟩;obtain⟨S,rfl⟩:∃S:Nat,s=S:=⟨s.toNat,by omega⟩;obtain⟨B,rfl⟩:∃B:Nat,b=B:=⟨b.toNat,by omega⟩;exact WB (by omega) (by omega) (by omega)
 have j:(jf f s b).ca=[]:=by rw[hi]
 refine⟨hR,⟨fun c hc=>(by rw[j] at hc;cases hc),fun c hc=>(by rw[j] at hc;cases hc),fun i hl hd => ?_⟩,fun p n g hg => ?_⟩
 ·exfalso;rw[hi] at hd hl;have h2:vZ f=⟨List.replicate f.toNat frZ,0⟩:=by unfold vZ;rw[if_pos h.1]
  have a : i<(vZ f).fs.length:=hl;have e : ((vZ f).fs.getD i fr0).d=true:=hd;rw[h2] at a e;simp only[lX] at a;simp only[bJ,sP,if_pos a] at e;cases e
 have k:(bE (jf f s b) p).ar=[]:=by
  rw[hi];unfold bE;cases p with
  | zero=>rfl
  | succ p=>rfl
 unfold dQ at hg;rw[k] at hg;cases hg
def Uu (f s b:Int) (l:List Cl) (w:World) (r:Ending) (w' : World):Prop:=Below w.heap.size w w'∧∃(H' : MH) (v:Value) (al:List (An × Value)) (e:Int),r = .returned (.tuple #[.agg (bP H'),v,.int .i64 e])∧qf w' w.heap.size H'∧uf w' w.heap.size v al ∧
 ((¬((0≤f∧f≤40)∧(0≤s∧s≤60)∧0≤b∧b≤80)∨80<l.length)∧H' = noH∧al=[]∧e=4∨((0≤f∧f≤40)∧(0≤s∧s≤60)∧0≤b∧b≤80)∧l.length≤80∧e=0∧H'.ma=(runC (jf f s b) l).1∧al.map Prod.fst=(runC (jf f s b) l).2)
theorem Fu (f s b:Int) (la:Option Addr) (lc:Nat) (l:List Cr) (w:World) (hb64 : -9223372036854775808≤b∧b≤9223372036854775807) (hl:dV w la (l.flatMap UN)) (hx:∀x∈l,vY w x)
 (hd:∀x∈l,∀(H:MH) (w:World),qA H.ma→EM w H→vY w x→Calls Tryz.prog 26 #[.agg (bP H),.agg (nQ x.c x.a x.cap)] w (yc H x.c w)) (hkp:∀x∈l,∀m,qA m→qA (uz m x.c).1) :
  Calls Tryz.prog 17 #[.agg #[.int .i64 f,.int .i64 s,.int .i64 b],.slice la l.length lc] w (Uu f s b (l.map Cr.c) w):=by
 have ko:=ae hd;have h3:=ae hkp;clear hd hkp;go_enter func17,ntmps17;go_upto_region 1 with (fail);refine uj (fun W=>Code.wp _ _ _ _ W) fun w1 hM bx1 rx1 kg => ?_;have bx1:aJ w1 w.heap.size #[.int .i64 f,.int .i64 s,.int .i64 b] 50:=bx1;have rx1:aJ w1 (w.heap.size+1) (bP noH) 44:=rx1;clear kg
 go_wp2_with (refine aA _ _ rfl w.heap.size 0 rfl rfl _ bx1.rd _ underlying50 rfl cfg_size3 ?_)
 refine (Kg f s b _ hb64).mono ?_;rintro r w2 ⟨H2,rfl,hz,hZ,hL⟩;have rx2:=rx1.ext hL;have hG:=ah hM hL;have hz:=hz.mono hM.size;have hE:=ae hZ;clear bx1 rx1 hM hL hZ
 go_wp2_with (refine aW rfl _ _ _ rfl (bP H2) rfl rfl rfl mach_size (dz _) ?_)
 intro w3 hA mx3;have rx3:=rx2.ext hA;have i:=ah hG hA;have hV:=hz.below hA;have hK:Hid (w.heap.size+1<w2.heap.size):=ae rx2.lt;clear rx2 hG hz hA;generalize w2.heap.size=gm at mx3 hK
 by_cases hok:(0≤f∧f≤40)∧(0≤s∧s≤60)∧0≤b∧b≤80
 ·have e0:uQ f s b=0:=by unfold uQ;rw[if_pos hok]
  rw[e0];have hD:=ae hok;clear hok e0
  by_cases h80:80<l.length
  ·have hv:Hid (¬((0≤f∧f≤40)∧(0≤s∧s≤60)∧0≤b∧b≤80)∨80<(l.map Cr.c).length):=ae (.inr (by rw[gK];exact h80));have kd:(80:Int)<(l.length:Int):=by omega
   go_wp2_with (refine ax rfl _ _ _ rfl (w.heap.size+1) (bP noH) rfl rfl _ _ rx3 rfl mach_size (dz noH) ?_)
   intro we rxe q;have u:=i.grown q i.size (fun k hk=>by cases hk;omega);go_wp2;refine bodyPost_ret (v:=.tuple #[.agg (bP noH),.slice none 0 0,.int .i64 4]) (bR results17 _ _ (w.heap.size+1) _ _ _ _ _ rfl rfl rfl rxe underlying44 rfl mach_size) rfl ?_;exact⟨u,noH,_,[],4,rfl,uF _ _,⟨Own.nil _ _ _ _,fun x hx=>by cases hx⟩,.inl ⟨hv.out,rfl,rfl,rfl⟩⟩
  have kd:¬(80:Int)<(l.length:Int):=by omega
  go_upto_region 8 with (fail);have kr:Hid (qA (jf f s b)):=ae (Iq hD.out);have kj:=ae hl;have ke:=ae hx;have h0:Hid (H2.ma=(runC (jf f s b) ((l.take 0).map Cr.c)).1):=ae (by rw[hE.out];rfl);clear hl hx hE
  go_loopw [29,9] (fun s29 s9 wr => ∃(k:Nat) (Hk:MH) (al:List (An × Value)),k≤l.length∧s29 = .int .i64 k∧Below w.heap.size w wr∧aJ wr gm (bP Hk) 44∧aJ wr (w.heap.size+1) (bP noH) 44∧qf wr w.heap.size Hk∧uf wr w.heap.size s9 al∧Hid (Hk.ma=(runC (jf f s b) ((l.take k).map Cr.c)).1∧al.map Prod.fst=(runC (jf f s b) ((l.take k).map Cr.c)).2∧al.length=k)) (fun s29 _ _=>l.length-(intOf s29).toNat)
  case atStart=>exact⟨0,H2,[],bK _,rfl,i,mx3,rx3,hV,⟨Own.nil _ _ _ _,fun x hx=>by cases hx⟩,ae ⟨h0.out,rfl,rfl⟩⟩
  case round=>
   clear mx3 rx3 hV i h0;obtain⟨k,Hk,al,hk,rfl,hi,mx,rx,ho,ha,hm⟩:=hrel;obtain⟨av,cv,rfl,_⟩:=ha.own.rd
   by_cases hkl:k<l.length
   ·have kk:(k:Int)<(l.length:Int):=by omega
    obtain⟨bl,ol,h2,hr⟩:=nU Vi (by decide) (kj.out.below hi) k hkl;obtain⟨X,hX⟩:∃X,l[k]=X:=⟨_,rfl⟩;rw[hX] at hr;have ka:Hid (vY w X):=ae (ke.out X (by rw[←hX];exact eX hkl));have kq:=ae (ko.out X (by rw[←hX];exact eX hkl));have hH:Hid ((l.take (k+1)).map Cr.c=(l.take k).map Cr.c++[X.c]):=ae (by rw[mI,aN hkl,hX];simp);have h1:=ae h2;clear hX h2;rw[h1.out]
    go_wp2_with (first | (refine aA _ _ rfl bl (ol+k*10) rfl rfl (nQ X.c X.a X.cap).toList hr _ underlying25 rfl call_size ?_) | (refine aW rfl _ _ _ rfl (nQ X.c X.a X.cap) rfl rfl rfl call_size (uS _ _ _) ?_))
    intro w4 hj cx4;have mx4:=mx.ext hj;have rx4:=rx.ext hj;have hp:=ah hi hj;have hU:=ho.below hj;have h9:=ha.below hj;have kb:Hid (vY w4 X):=ae ((ka.out.below hi).below hj);have kl:Hid (w.heap.size≤wr.heap.size):=ae hi.size;have kc:Hid (qA Hk.ma):=ae (by rw[hm.out.1];exact run_ok _ kr.out fun c hc=>(by obtain⟨x,hx,rfl⟩:=fF.1 hc;exact h3.out x (Cg hx)));clear mx rx hi ho ha hj hr ka;generalize wr.heap.size=gx at cx4 kl
    go_wp2_with (first | (refine aA _ _ rfl gm 0 rfl rfl (bP Hk).toList mx4.rd _ underlying44 rfl mach_size ?_) | (refine aA _ _ rfl gx 0 rfl rfl (nQ X.c X.a X.cap).toList cx4.rd _ underlying25 rfl call_size ?_))
    refine (kq.out Hk _ kc.out hU.rd kb.out).mono ?_;rintro r w5 ⟨H5,d,rfl,hw,hy,hJ,hq⟩;obtain⟨ad,cd,rfl,_⟩:=hq.rd;obtain⟨Y,hY⟩:∃Y,Hid (uz Hk.ma X.c=Y):=⟨_,ae rfl⟩;rw[hY.out] at hJ hq ⊢;have mx5:=mx4.ext hw;have rx5:=rx4.ext hw;have hF:=ah hp hw;have hB:=h9.below hw;have hy:=hy.mono hp.size;have hq:=hq.mono hp.size;have hW:=ae hJ;have p:Hid (gm<w5.heap.size∧w.heap.size+1<w5.heap.size):=ae ⟨mx5.lt,rx5.lt⟩;have hC:Hid (∀g,(Value.slice av al.length cv).ownBlock=some g→g<w5.heap.size):=ae (fun g hg=>by obtain⟨cs,hb⟩:=qJ hB.own g hg;exact hb.lt);clear mx4 rx4 hp hU h9 kb hw cx4 hJ kc
    go_wp2_with (first | (refine uj (fun W=>wpList _ _ _ _ _ W) fun w6 y nx6 ax6 kf => ?_) | (refine ax rfl _ _ _ rfl w5.heap.size (bP H5) rfl rfl _ _ nx6 rfl mach_size (dz _) ?_))
    intro w7 nx7 o;have ax6:aJ w6 (w5.heap.size+1) (gD 0 0 nilV) 52:=ax6;have mx7:=iX (mx5.ext y) o (by have:=p.out;omega);have rx7:=iX (rx5.ext y) o (by have:=p.out;omega);have ax7:=aH ax6 nx6 (by decide) o;have hu:=ah hF y;have ht:=hu.grown o hu.size (fun k hk=>by have:=p.out;cases hk;omega);have hT:=(hy.below y).keep nx6 (by decide) o;have h7:=ay (hq.below y) nx6 (by decide) o;have hP:uf w7 w.heap.size (.slice av al.length cv) al:=⟨ay (hB.below y).own nx6 (by decide) o,fun x hx=>ay ((hB.below y).each x hx) nx6 (by decide) o⟩;have km:Hid (gm<w5.heap.size∧w.heap.size+1<w5.heap.size):=p;clear mx5 rx5 ax6 hF hu hy hq hB nx6 y o kf p;generalize w5.heap.size=gn at *
    go_wp2_with (refine ax rfl _ _ _ rfl (gn+1) (gD Y.2.e Y.2.n (.slice ad Y.2.da.length cd)) rfl rfl _ _ ax7 rfl ans_size (bY _ _ _ _ _) ?_)
    intro w8 ax8 j;have mx8:=aH mx7 ax7 (by decide) j;have rx8:=aH rx7 ax7 (by decide) j;have nx8:=aH nx7 ax7 (by decide) j;have hs:=ht.grown j ht.size (fun k hk=>by have:=km.out;cases hk;omega);have hS:=hT.keep ax7 (by decide) j;have h6:=ay h7 ax7 (by decide) j;have hO:uf w8 w.heap.size (.slice av al.length cv) al:=⟨hP.own.grown j (fun g hg e=>by have:=hC.out g hg;cases e;omega),fun x hx=>ay (hP.each x hx) ax7 (by decide) j⟩;clear mx7 rx7 nx7 ht hT h7 hP ax7 j hC
    go_wp2_with (first | (refine aA _ _ rfl gn 0 rfl rfl (bP H5).toList nx8.rd _ underlying44 rfl mach_size ?_) | (refine ax rfl _ _ _ rfl gm (bP H5) rfl rfl _ _ mx8 rfl mach_size (dz _) ?_))
    intro w9 mx9 t;have ax9:=aH ax8 mx8 (by decide) t;have rx9:=iX rx8 t (by have:=hK.out;omega);have hn:=hs.grown t hs.size (fun k hk=>by have:=hK.out;cases hk;omega);have hR:=hS.keep mx8 (by decide) t;have h5:=ay h6 mx8 (by decide) t;have hN:uf w9 w.heap.size (.slice av al.length cv) al:=⟨ay hO.own mx8 (by decide) t,fun x hx=>ay (hO.each x hx) mx8 (by decide) t⟩;clear mx8 rx8 nx8 hs hS h6 hO ax8 t;have ks:al.length+1≤80:=by have:=hm.out.2.2;omega
    go_wp2_with (first | (refine aA _ _ rfl (gn+1) 0 rfl rfl [.int .i64 Y.2.e,.int .i64 Y.2.n,.slice ad Y.2.da.length cd] ax9.rd _ underlying52 rfl ans_size ?_) | (at_builtin;go_must (refine pu rfl _ _ 45 rfl w.heap.size 52 _ 3 40 underlying45 ans_info rfl (by decide) _ al.length _ rfl (hN.own.alloc _) (some ⟨w9.heap.size,0,none⟩) 1 1 [.int .i64 Y.2.e,.int .i64 Y.2.n,.slice ad Y.2.da.length cd] rfl (fun h=>(by cases h)) (az _) rfl (dV.new _ #[.int .i64 Y.2.e,.int .i64 Y.2.n,.slice ad Y.2.da.length cd] _) (fP (bY _ _ _ _ _)) (by unfold maxLen;omega) (by omega) (eD hn.size _) ?_)))
    intro v2 wa own2 hh hQ;have z:=(Below.refl w9.heap.size w9).alloc (az _) (.cells #[.int .i64 Y.2.e,.int .i64 Y.2.n,.slice ad Y.2.da.length cd] 52);have hf:=hN.below z;have mxa:=Kh hf hh (mx9.ext z) (by decide);have rxa:=Kh hf hh (rx9.ext z) (by decide);have ki:=RB hf hh (hR.below z);have h4:=jB hf hh (h5.below z) (by decide);have h8:Below w.heap.size w wa:=(ah hn z).grown hh (ah hn z).size (fun k hk=>hf.own.ge k hk);have kn:uf wa w.heap.size v2 (al++[(Y.2,.slice ad Y.2.da.length cd)]):=⟨by
     rw[jb,gW,List.flatMap_singleton];exact own2,fun x hx=>by
      rcases iN.1 hx with hx|hx
      ·exact jB hf hh (hf.each x hx) (by decide)
      ·rw[bF.1 hx];exact h4⟩
    have hI:Hid (H5.ma=(runC (jf f s b) ((l.take (k+1)).map Cr.c)).1∧(al++[(Y.2,Value.slice ad Y.2.da.length cd)]).map Prod.fst=(runC (jf f s b) ((l.take (k+1)).map Cr.c)).2∧(al++[(Y.2,Value.slice ad Y.2.da.length cd)]).length=k+1):=ae (by have e1:=hm.out;rw[hH.out,Km,←e1.1,←e1.2.1,hY.out];exact⟨hW.out,by simp,by simp[e1.2.2]⟩);clear mx9 rx9 ax9 hR h5 hN hn z hf hh hQ own2 h4;go_wp2;go_roundw
    case rel=>exact⟨k+1,H5,_,by omega,by go_num,h8,mxa,rxa,ki,kn,hI⟩
    case measure=>simp[intOf];omega
   have kk:¬(k:Int)<(l.length:Int):=by omega
   rw[mK (by omega)] at hm
   go_wp2_with (first | (refine aA _ _ rfl gm 0 rfl rfl (bP Hk).toList mx.rd _ underlying44 rfl mach_size ?_) | (refine ax rfl _ _ _ rfl (w.heap.size+1) (bP Hk) rfl rfl _ _ rx rfl mach_size (dz _) ?_))
   intro we rxe q;have u:=hi.grown q hi.size (fun k hk=>by cases hk;omega);have kh:=ho.keep rx (by decide) q;have kp:uf we w.heap.size (.slice av al.length cv) al:=⟨ay ha.own rx (by decide) q,fun x hx=>ay (ha.each x hx) rx (by decide) q⟩;go_wp2;refine bodyPost_ret (v:=.tuple #[.agg (bP Hk),.slice av al.length cv,.int .i64 0]) (bR results17 _ _ (w.heap.size+1) _ _ _ _ _ rfl rfl rfl rxe underlying44 rfl mach_size) rfl ?_;exact⟨u,Hk,_,al,0,rfl,kh,kp,.inr ⟨hD.out,by rw[gK];omega,rfl,hm.out.1,hm.out.2.1⟩⟩
 have e0:uQ f s b=4:=by unfold uQ;rw[if_neg hok]
 have hv:Hid (¬((0≤f∧f≤40)∧(0≤s∧s≤60)∧0≤b∧b≤80)∨80<(l.map Cr.c).length):=ae (.inl hok);rw[e0];clear hok e0
 go_wp2_with (refine ax rfl _ _ _ rfl (w.heap.size+1) (bP noH) rfl rfl _ _ rx3 rfl mach_size (dz noH) ?_)
 intro we rxe q;have u:=i.grown q i.size (fun k hk=>by cases hk;omega);go_wp2;refine bodyPost_ret (v:=.tuple #[.agg (bP noH),.slice none 0 0,.int .i64 4]) (bR results17 _ _ (w.heap.size+1) _ _ _ _ _ rfl rfl rfl rxe underlying44 rfl mach_size) rfl ?_;exact⟨u,noH,_,[],4,rfl,uF _ _,⟨Own.nil _ _ _ _,fun x hx=>by cases hx⟩,.inl ⟨hv.out,rfl,rfl,rfl⟩⟩
def VO (l:List Ar) (n:Int):Bool:=match onA l n with
 | some g => !g.sh
 | none=>false
def IJ (k:Nat) (ar:Nat→List Ar):List (Nat × Int):=(List.range k).flatMap fun p=>((List.range 64).filter fun n:Nat=>VO (ar p) n).map fun n:Nat=>(p,(n:Int))
def Bl (m:Ma):Nat:=(IJ m.sp.length fun p=>(bE m p).ar).length
structure Cap (m:Ma):Prop where
 one:1≤m.m.fs.length
 all:Bl m+(iA m.st).length<m.m.fs.length+m.sl.length
 blk:((iA m.st).length:Int)≤m.st.count
theorem Ny (h:Rt m) {o:Page} (ho:ik m p n=some o):(p,n)∈IJ m.sp.length fun p=>(bE m p).ar:=by
 have hk:(aF m p n).k≠0:=fun e=>by rw[zH e] at ho;cases ho
 have b:=kE hk;obtain⟨g,hg,a⟩:=h.en p n hk;have hs:g.sh=false:=by
  unfold ik at ho
  by_cases k1:(aF m p n).k=1
  ·rw[if_pos k1] at ho
   by_cases hf:(gL m (aF m p n).n).f<0
   ·cases hs:g.sh with
    | false=>rfl
    | true=>
     have:=(a.fr k1).2.1 hs;have h2:(aD m (aF m p n).n.toNat).f<0:=hf;omega
   ·rw[if_neg hf] at ho;cases ho
  rw[if_neg k1] at ho
  by_cases k2:(aF m p n).k=2
  ·exact (a.sw k2).2
  ·rw[if_neg k2] at ho;cases ho
 unfold IJ;refine jq.2 ⟨p,bX.2 b.1,fF.2 ⟨n.toNat,qw.2 ⟨bX.2 (by omega),?_⟩,?_⟩⟩
 ·rw[show ((n.toNat:Nat):Int)=n by omega];unfold VO;unfold dQ at hg;rw[hg];simp[hs]
 ·rw[show ((n.toNat:Nat):Int)=n by omega]
theorem Ux (h:Rt m):((List.range m.m.fs.length).filter fun i=>decide ((aD m i).r≠0∧(aD m i).f<0)).length+((List.range m.sl.length).filter fun s=>decide (iI m s≠0)).length≤Bl m:=by
 have key:(((List.range m.m.fs.length).filter fun i=>decide ((aD m i).r≠0∧(aD m i).f<0)).map (fun i:Nat=>((1:Int),(i:Int)))++((List.range m.sl.length).filter fun s=>decide (iI m s≠0)).map (fun i:Nat=>((2:Int),(i:Int)))).length
   ≤ ((IJ m.sp.length fun p=>(bE m p).ar).map fun u=>((aF m u.1 u.2).k,(aF m u.1 u.2).n)).length:=by
  refine Iw ?_ ?_
  ·refine xy.2 ⟨?_,?_,?_⟩
   ·exact tT (fun a b e=>Hr.1 (congrArg Prod.snd e)) (Gw GJ zG)
   ·exact tT (fun a b e=>Hr.1 (congrArg Prod.snd e)) (Gw GJ zG)
   intro a ha b hb e;obtain⟨i,_,rfl⟩:=fF.1 ha;obtain⟨j,_,rfl⟩:=fF.1 hb;have:=congrArg Prod.fst e;simp at this
  intro x hx;rcases iN.1 hx with hx|hx
  ·obtain⟨i,hi,rfl⟩:=fF.1 hx;simp only[qw,bX,decide_eq_true_eq] at hi;obtain⟨a1,a2⟩:=AZ h hi.1 hi.2.2;have h1:=h.cf i hi.1;rw[a1] at h1;obtain⟨p,n,hp,hn,k1,k2⟩:=(ji (m:=m) (kd:=1) (i:=i) (by decide)).1 (by omega);refine fF.2 ⟨(p,n),Ny h (o:=(aD m i).p) ?_,by rw[k1,k2]⟩;unfold ik;rw[if_pos k1,k2];exact if_pos hi.2.2
  obtain⟨i,hi,rfl⟩:=fF.1 hx;simp only[qw,bX,decide_eq_true_eq] at hi;have h1:=h.cs i hi.1;obtain⟨p,n,hp,hn,k1,k2⟩:=(ji (m:=m) (kd:=2) (i:=i) (by decide)).1 (by omega);refine fF.2 ⟨(p,n),Ny h (o:=dP m.sw i) ?_,by rw[k1,k2]⟩;unfold ik;rw[if_neg (by omega),if_pos k1,k2]
 unfold Bl;simpa using key
theorem Vk {f i:Int} (h:ni s f i):bD s f i∈iA s:=by
 unfold iA;refine jq.2 ⟨aI s f,dn (wC h.1),?_⟩;exact dn (oG h)
theorem QC (h:Rt m):m.ca.length≤(iA m.st).length:=by
 have key:(m.ca.map fun c=>(c.f,c.i)).length≤((List.range m.st.fs.length).flatMap fun f:Nat=>(List.range (aI m.st f).b.length).map fun i:Nat=>((f:Int),(i:Int))).length:=by
  refine Iw ?_ ?_
  ·unfold List.Nodup;rw[List.pairwise_map];refine List.Pairwise.imp ?_ h.ca.srt;intro a b g e;simp only[GD] at e;unfold CL at g;omega
  intro x hx;obtain⟨c,hc,rfl⟩:=fF.1 hx;have d:=h.ca.file c hc;have h1:=d.1;have h2:=d.2;refine jq.2 ⟨c.f.toNat,bX.2 (by omega),fF.2 ⟨c.i.toNat,bX.2 (by rw[show ((c.f.toNat:Nat):Int)=c.f by omega];omega),?_⟩⟩;rw[show ((c.f.toNat:Nat):Int)=c.f by omega,show ((c.i.toNat:Nat):Int)=c.i by omega]
 have e:((List.range m.st.fs.length).flatMap fun f:Nat=>(List.range (aI m.st f).b.length).map fun i:Nat=>((f:Int),(i:Int))).length=(iA m.st).length:=by
  unfold iA;rw[BK,BK];congr 1;apply rA
  ·simp
  intro i h1 h2;simp only[gK,yI] at h1;have:aI m.st (i:Int)=m.st.fs[i]:=kH (aN h1);simp[this]
 rw[gK,e] at key;exact key
theorem Te (h:Rt m):((List.range m.m.fs.length).filter fun i=>decide ((aD m i).r≠0∧0≤(aD m i).f)).length≤m.ca.length:=by
 have key:(((List.range m.m.fs.length).filter fun i=>decide ((aD m i).r≠0∧0≤(aD m i).f)).map (fun i:Nat=>(i:Int))).length≤(m.ca.map Cc.k).length:=by
  refine Iw ?_ ?_
  ·exact tT (fun a b e=>Hr.1 e) (Gw GJ zG)
  intro x hx;obtain⟨i,hi,rfl⟩:=fF.1 hx;simp only[qw,bX,decide_eq_true_eq] at hi;obtain⟨c,hc,hk⟩:=h.fc i hi.1 hi.2.2;exact fF.2 ⟨c,hc,hk⟩
 simpa using key
theorem zo {α:Type} (p q:α→Bool):∀l:List α,(∀x∈l,p x = !q x)→(l.filter p).length+(l.filter q).length=l.length
 | [],_=>rfl
 | a::l,h=>by
  have ih:=zo p q l fun x hx=>h x (by simp[hx]);have ha:=h a (by simp);cases hq:q a with
  | true=>rw[hq] at ha;simp[ha,hq];omega
  | false=>rw[hq] at ha;simp[ha,hq];omega
theorem Qt (h:Rt m) (hc:Cap m) (hf:f<m.m.fs.length):iZ m f=true:=by
 unfold iZ
 by_cases h0:(aD m f).f<0
 ·simp[h0]
 obtain⟨c,d,e⟩:=h.fc f hf (by omega);have b:=h.ca.fr c d;have a:=h.ca.file c d;rw[e,bG] at b;rw[←b.2.1,←b.2.2] at a;have hb:0≤bD m.st (aD m f).f (aD m f).i∨0≤fA m.st:=by
  by_cases hb:0≤bD m.st (aD m f).f (aD m f).i
  ·exact .inl hb
  right
  refine OT h.pt.st ?_;have g:UW (iA m.st)<(iA m.st).length:=by
   unfold UW;rcases fM ((iA m.st).filter fun x=>decide (0≤x)).length (iA m.st).length with h1|h1
   ·exact h1
   have h2:=xM (fun x:Int=>decide (0≤x)) (iA m.st);have:=(List.length_filter_eq_length_iff.1 (Nat.le_antisymm h2 h1)) _ (Vk a);exact absurd (of_decide_eq_true this) hb
  have:=hc.blk;unfold rP;omega
 rw[PG h.pt.st a hb];simp
theorem NY (h:Rt m) (hc:Cap m) (hz:fB m.m.fs=0) (hf:f<m.m.fs.length):jr m f=true:=by
 have hr:∀i,i<m.m.fs.length→(aD m i).r≠0:=fun i hi=>uB hz hi;unfold jr
 by_cases h0:0≤(aD m f).f
 ·rw[if_pos h0];exact Qt h hc hf
 rw[if_neg h0];obtain⟨a1,a2⟩:=AZ h hf (by omega);have g:=h.fewR hf;have j:=hr f hf;apply decide_eq_true;obtain⟨s,c,b⟩:∃s,s<m.sl.length∧iI m s=0:=by
  refine sF fun d => ?_;have a:∀s,s<m.sl.length→iI m s≠0:=fun s hs e=>d ⟨s,hs,e⟩;have e1:((List.range m.sl.length).filter fun s=>decide (iI m s≠0)).length=m.sl.length:=by
   rw[Iu.2]
   ·simp
   intro s hs;exact decide_eq_true (a s (bX.1 hs))
  have e2:=zo (fun i=>decide ((aD m i).r≠0∧(aD m i).f<0)) (fun i=>decide ((aD m i).r≠0∧0≤(aD m i).f)) (List.range m.m.fs.length) fun i hi=>by
   have:=hr i (bX.1 hi)
   by_cases hx:(aD m i).f<0
   ·rw[decide_eq_true ⟨this,hx⟩,decide_eq_false (by omega)];rfl
   ·rw[decide_eq_false (by omega),decide_eq_true ⟨this,by omega⟩];rfl
  rw[yI] at e2;have e3:=Ux h;have e4:=Te h;have e5:=QC h;have:=hc.all;omega
 unfold ic;rw[if_neg (by rw[h.pt.sl];simp),if_neg (by omega),if_neg];intro hi;have:=Nk (q:=Ib) (l:=m.sl) hi (iI m s) (dn (Ii c));rw[b] at this;cases this
theorem Kj {x:Mem} (hx:∀g,yh (aD m g) (aD (mZ m x) g)) (f:Nat):jr (mZ m x) f=jr m f:=by
 obtain⟨l1,l2,l3,l4,l5⟩:=hx f;unfold jr iZ;rw[l3,l4,l5];rfl
theorem RA (h:Rt m) (hco:Co m) (hc:Cap m) (hz:fB m.m.fs=0) (e:Int):(dY ⟨m,e⟩).2=true:=by
 have hr:∀i,i<m.m.fs.length→(aD m i).r≠0:=fun i hi=>uB hz hi;have b:=hc.one;have hn:0≤iy m.m:=by unfold iy;rw[if_neg (by rw[h.pt.fr];simp),if_neg (by omega)];omega
 obtain⟨n1,n2,n3,n4,n5⟩:=FD h.pt.fr hn;have a:jr (mZ m (fH m.m)) (iy m.m).toNat=true:=by rw[Kj n5];exact NY h hc hz n1
 unfold dY reclaimN;simp only;rw[if_neg (by rintro (e | e);exact e h.pt.fr;omega)];rw[show ({ m:=fH m.m,sl:=m.sl,sw:=m.sw,dk:=m.dk,st:=m.st,ca:=m.ca,sp:=m.sp }:Ma)=mZ m (fH m.m) from rfl,if_pos a]
theorem xC {k:Kp} {p:Page} {f i:Int} (h:Rt k.m) (hco:Co k.m) (hc:Cap k.m) (hx:bU (bz p f i)=0):0≤(eP k p f i).2:=by
 unfold eP
 by_cases hz:fB k.m.m.fs=0
 ·have hr:(dY k).2=true:=RA h hco hc hz k.e;rw[if_pos hz,if_pos hr];obtain⟨he,o,a,hb⟩:=Es h hco;obtain⟨f',b⟩:∃f',o=some f':=by
   cases o with
   | none=>exact absurd rfl (hb.1 hr)
   | some f'=>exact⟨f',rfl⟩
  obtain⟨a1,a2,_⟩:=a.free f' b;rcases zC (k:=(dY k).1) (p:=p) (f:=f) (i:=i) a.rt.pt.fr hx with ⟨g,g1,g2,g3⟩|⟨_,g2⟩
  ·rw[g3];omega
  ·exact absurd (by rw[a2];rfl) (uB g2 (g:=f') (by rw[a.len];exact a1))
 rw[if_neg hz];rcases zC (k:=k) (p:=p) (f:=f) (i:=i) h.pt.fr hx with ⟨g,g1,g2,g3⟩|⟨_,g2⟩
 ·rw[g3];omega
 ·exact absurd g2 hz
theorem CZ (s:St):(iA s).length=((List.range s.fs.length).map fun f:Nat=>(aI s f).b.length).sum:=by
 unfold iA;rw[BK];congr 1;apply rA
 ·simp
 intro i h1 h2;simp only[gK,yI] at h1;have:aI s (i:Int)=s.fs[i]:=kH (aN h1);simp[this]
theorem Cap.of (hc:Cap m) (sk:fE m m') (fl:m'.st.fs.length=m.st.fs.length) (lb:∀f,(aI m'.st f).b.length=(aI m.st f).b.length) (ct:m'.st.count=m.st.count) (l1:m'.m.fs.length=m.m.fs.length) (l2:m'.sl.length=m.sl.length):Cap m':=by
 have e1:(iA m'.st).length=(iA m.st).length:=by rw[CZ,CZ,fl];congr 1;exact yY fun f _=>lb f
 have e2:Bl m' = Bl m:=by unfold Bl;rw[sk.len];congr 2;funext p;rw[sk.ar]
 exact⟨by rw[l1];exact hc.one,by rw[e1,e2,l1,l2];exact hc.all,by rw[e1,ct];exact hc.blk⟩
theorem Cap.vis {X:Nat→Int→Prop} (hc:Cap m) (v:vP X m m') (hi:Inv m m') (l1:m'.m.fs.length=m.m.fs.length) (l2:m'.sl.length=m.sl.length):Cap m':=hc.of v.sk v.files v.lenb hi.count l1 l2
theorem Jr {k:Kp} {f i:Int} (h:Rt k.m) (hco:Co k.m) (hc:Cap k.m) (hin:ni k.m.st f i):0≤(fw k f i).2:=by
 unfold fw
 by_cases his:Gq k.m.ca f i=true
 ·rw[if_pos his];obtain⟨c,b,n,l⟩:=EB his;have g:=dn b;have j:wz k.m (tQ k.m.ca f i)=c:=by unfold wz;rw[bJ,b];rfl
  simp only[j];exact (h.ca.lt c g).1
 rw[if_neg his];have a:=AA h.pt.st hin;have d:bU (bz (dF k.m f i) f i)=0:=by rw[dJ];have h1:=hin.1;have h2:=hin.2;exact⟨⟨by show (0:Int)≤1;decide,by show (1:Int)≤1000;decide,by show -1≤f;omega,a.1,h2.1,a.2.1⟩,fun (e:(1:Int)=0)=>absurd e (by decide),fun (e:f<0)=>by omega⟩
 have:=xC (k:=⟨k.m,Ef k f i⟩) (p:=dF k.m f i) (f:=f) (i:=i) h hco hc d;simp only;rw[if_neg (by omega)];exact this
theorem yS (P:Page):bU (bz P (-1) 0)=0:=by
 rw[dJ];exact⟨⟨by show (0:Int)≤1;decide,by show (1:Int)≤1000;decide,by show (-1:Int)≤-1;decide,by show (-1:Int)<5;decide,by show (0:Int)≤0;decide,by show (0:Int)<12;decide⟩,fun (e:(1:Int)=0)=>absurd e (by decide),fun _=>rfl⟩
theorem KQ {k:Kp} (h:Rt k.m) (hco:Co k.m) (hc:Cap k.m) (hp:p<k.m.sp.length) (hg:dQ k.m p n=some g) (hf:0≤g.fi→(aF k.m p n).k=0→ni k.m.st g.fi g.pg):0≤(gz k p n (jo k.m p n)).2:=by
 obtain⟨g1,g2,g3,g4,g5,g6,g7⟩:=vD hg;have hE:=(cz _).1 (jL h.pt p n);unfold gz;simp only
 by_cases k1:(aF k.m p n).k=1
 ·rw[if_pos k1];show 0≤(aF k.m p n).n;omega
 rw[if_neg k1]
 by_cases k2:(aF k.m p n).k=2
 ·rw[if_pos k2];obtain⟨y,hy,j⟩:=h.en p n (by omega);have u:=j.sw k2;have hs:(aF k.m p n).n.toNat<k.m.sl.length:=by omega
  have q:(aF k.m p n).n=(((aF k.m p n).n.toNat:Nat):Int):=by omega
  have l:aK k.m.sw (aF k.m p n).n=0:=iV.2 ⟨h.pt.sw,by omega,by rw[h.pt.swl];omega⟩;rw[if_neg (by rw[l];simp)];have a:=xC (k:=k) (p:=dP k.m.sw (aF k.m p n).n) (f:=-1) (i:=0) h hco hc (yS _);rw[if_neg (by omega)];rcases zJ (k:=k) (p:=dP k.m.sw (aF k.m p n).n) (f:=-1) (i:=0) h hco (yS _) with ⟨x,m1,o,hF,hx,hz,ht⟩|⟨m1,hF,ht,h0⟩
  ·have b:aF m1 p n=aF k.m p n:=hF.ents p n (fun e=>absurd e k1);have c:(aF k.m p n).n.toNat<m1.sl.length:=by rw[hF.sll];exact hs
   have t:=hF.rt.fewS c;have d:=kE (m:=m1) (p:=p) (n:=n) (by rw[b];omega);have s:0<bN m1 2 ((aF k.m p n).n.toNat:Nat):=(ji (by decide)).2 ⟨p,n,d.1,d.2,by rw[b];exact k2,by rw[b];omega⟩;have v:=hF.rt.cs _ c;have r:bA m1.sl (((aF k.m p n).n.toNat:Nat):Int) (-1)=0:=by have e1:Dg m1.sl (((aF k.m p n).n.toNat:Nat):Int)=iI m1 (aF k.m p n).n.toNat:=rfl;unfold bA;rw[if_neg (by rw[hF.rt.pt.sl];simp),if_neg (by rw[e1];omega),if_neg (by rw[e1];omega)]
   rw[ht] at a ⊢;have e2:bA (setFr m1 x (bz (dP k.m.sw (aF k.m p n).n) (-1) 0)).sl (aF k.m p n).n (-1)=0:=by rw[q];exact r
   simp only[e2];exact a
  rw[ht] at a;simp at a
 rw[if_neg k2]
 by_cases hfi:(jo k.m p n).fi<0
 ·rw[if_pos hfi];have:=xC (k:=k) (p:=zPg) (f:=-1) (i:=0) h hco hc (yS _);unfold WF;rw[if_neg (by omega)];exact this
 rw[if_neg hfi];have k0:(aF k.m p n).k=0:=by omega
 rw[g6] at hfi ⊢;rw[g7 (by omega)];have:=Jr h hco hc (hf (by omega) k0);rw[if_neg (by omega)];exact this
theorem TC {k:Kp} (h:Rt k.m) (hco:Co k.m) (hc:Cap k.m) {f:Int} (hf:0≤f) (a:Ar):0≤(ve k p n f a).2:=by
 unfold ve;simp only
 by_cases hcs:a.sh=true∨(gL k.m f).f<0∧(gL k.m f).r=1
 ·rw[if_pos hcs];exact hf
 rw[if_neg hcs];obtain⟨m',e,L⟩:=Ad h hco p n;rw[e];have:=xC (k:=⟨m',k.e⟩) (p:=(gL k.m f).p) (f:=-1) (i:=0) L.rt L.co (hc.of L.vis.sk L.vis.files L.vis.lenb (by rw[L.st]) L.len L.sll) (yS _);rw[if_neg (by omega)];exact this
theorem RI (h:Rt m) (hco:Co m) (hc:Cap m) {w:Bool} (hp:p<m.sp.length) (hg:dQ m p n=some g) (hf:0≤g.fi→(aF m p n).k=0→ni m.st g.fi g.pg):0≤(kS m p n w).2:=by
 have hb:=KQ (k:=⟨m,0⟩) h hco hc hp hg hf;obtain⟨he,hB⟩:=za (k:=⟨m,0⟩) h hco hp hg hf;simp only at he hB hb;unfold kS;simp only;split
 ·exact TC hB.rt hB.co (hc.vis hB.vis hB.inv hB.len hB.sll) hb _
 ·exact hb
theorem Vh (hG:qA m) (hc:Cap m) {w:Bool} (hp:p<m.sp.length) (hv:(bE m p).lv=true):mg m p n w≠10:=fun e=>by
 rcases Io hG (n:=n) (w:=w) hp hv with ⟨_,u⟩|⟨g,hg,⟨_,u⟩|⟨_,⟨_,u⟩|⟨hb,⟨_,u⟩|⟨u,_⟩⟩⟩⟩
 ·rw[e] at u;cases u
 ·rw[e] at u;cases u
 ·rw[e] at u;cases u
 ·have:=RI hG.rt hG.co hc (w:=w) hp hg fun b1 b2=>rE fun hn=>hb ⟨b1,zH b2,hn⟩;omega
 ·rw[e] at u;cases u
theorem Sn (hG:qA m) {w:Bool} (hp:p<m.sp.length) (hv:(bE m p).lv=true) (hu:mg m p n w=0):zK m (pR m p n w):=by
 rcases Io hG (n:=n) (w:=w) hp hv with ⟨_,u⟩|⟨g,hg,⟨_,u⟩|⟨hm,⟨_,u⟩|⟨hb,⟨u,_⟩|⟨_,_,U⟩⟩⟩⟩
 ·rw[hu] at u;cases u
 ·rw[hu] at u;cases u
 ·rw[hu] at u;cases u
 ·rw[hu] at u;cases u
 refine⟨U.len,U.sll,?_⟩;have hi:=Um hG.rt hG.co (w:=w) hp hg (fun e=>by unfold Iy at hm;rw[if_pos e] at hm;exact hm) fun b1 b2=>rE fun hn=>hb ⟨b1,zH b2,hn⟩;have hc:=hi.count;unfold pR;rw[bG];rw[←hc];unfold Fe;simp only;split<;>rfl
def Nf (w:Wd):Nat:=(IJ w.n fun p=>(w.ps p).ar).length
def Ba (w:Wd):Nat:=(w.fl.map fun b=>(b.length+7) / 8).sum
structure Fits (fr sl bl:Nat) (w:Wd):Prop where
 one:1≤fr
 all:Nf w+Ba w<fr+sl
 blk:Ba w≤bl
structure TP (fr sl bl:Nat) (m:Ma):Prop where
 fr:m.m.fs.length=fr
 sl:m.sl.length=sl
 ct:m.st.count=bl
theorem TP.stay (h:TP fr sl bl m) (S:zK m m'):TP fr sl bl m':=⟨S.fr.trans h.fr,S.sl.trans h.sl,S.ct.trans h.ct⟩
theorem xR.cap {w:Wd} (h:xR m w) (hR:Rt m) (hK:TP fr sl bl m) (hw:Fits fr sl bl w):Cap m:=by
 have e1:Bl m=Nf w:=by unfold Bl Nf;rw[h.n];congr 2;funext p;rw[h.ar]
 have e2:(iA m.st).length=Ba w:=by
  rw[CZ];unfold Ba;congr 1;apply rA
  ·simp[h.nf]
  intro i h1 h2;simp only[gK,yI] at h1;simp only[qi,GG];have hz:=h.sz i h1;have a:=(mE hR.pt.st (f:=(i:Int)) (by omega));have:BU w i=w.fl[i]'(by rw[h.nf];exact h1):=by unfold BU;rw[bJ,aN (by rw[h.nf];exact h1)];rfl
  rw[this] at hz;have h3:=a.2.2.1;unfold gG at h3;split at h3<;>omega
 exact⟨by rw[hK.fr];exact hw.one,by rw[e1,e2,hK.fr,hK.sl];exact hw.all,by rw[e2,hK.ct];have:=hw.blk;omega⟩
theorem QM (hG:qA m) (hc:Cap m) (hp:p<m.sp.length) (hv:(bE m p).lv=true) (c:Cl) (hcp:c.p=p) (n:Int) (wr:Bool):kN m c n wr≠(m,kv 10):=fun e=>by
 have e:(kN m c n wr).2.e=10:=congrArg (fun x:Ma × An=>x.2.e) e;unfold kN at e;rw[hcp] at e;have hu:=Vh hG hc (n:=c.a / 8) (w:=wr) hp hv
 by_cases h1:qy c.a n=false
 ·rw[if_pos h1] at e;cases e
 rw[if_neg h1] at e
 by_cases h2:mg m p (c.a / 8) wr≠0
 ·rw[if_pos h2] at e;exact hu e
 rw[if_neg h2] at e;simp only at e;split at e
 ·cases e
 ·split at e<;>cases e
def Bz (c:Cl):Prop:=∀m w,qA m→xR m w→(uz m c).2=(Nl w c).2∧qA (uz m c).1∧xR (uz m c).1 (Nl w c).1∧zK m (uz m c).1
def Fp (fr sl bl:Nat) (c:Cl):Prop:=∀m w,qA m→xR m w→TP fr sl bl m→Fits fr sl bl w→(8<c.k→Fits fr sl bl (Vo w c).1)→(uz m c).2=(Nl w c).2∧qA (uz m c).1∧xR (uz m c).1 (Nl w c).1∧zK m (uz m c).1
theorem Bz.fit {c:Cl} (h:Bz c) (fr sl bl:Nat):Fp fr sl bl c:=fun m w h1 h2 _ _ _=>h m w h1 h2
def yf (w:Wd) (c:Cl):Prop:=c.p<0∨(w.n:Int)≤c.p∨(w.ps c.p.toNat).lv=false
instance (w:Wd) (c:Cl):Decidable (yf w c):=by unfold yf;infer_instance
theorem wH {w:Wd} {c:Cl} {x:Nat→Ma × An} {y:Nat→Wd × An} (hG:qA m) (h:xR m w) (e1:uz m c=if vO m c then (m,kv 5) else x c.p.toNat) (e2:Nl w c=if yf w c then (w,kv 5) else y c.p.toNat)
 (hs:∀p:Nat,c.p=p→p<m.sp.length→(bE m p).lv=true→(x p).2=(y p).2∧qA (x p).1∧xR (x p).1 (y p).1∧zK m (x p).1):(uz m c).2=(Nl w c).2∧qA (uz m c).1∧xR (uz m c).1 (Nl w c).1∧zK m (uz m c).1:=by
 rw[e1,e2];have a:yf w c↔vO m c:=by unfold yf vO;rw[h.n,h.lv]
 by_cases hb:vO m c
 ·rw[if_pos hb,if_pos (a.2 hb)];exact⟨rfl,hG,h,.refl m⟩
 rw[if_neg hb,if_neg (fun e=>hb (a.1 e))];obtain⟨p,d⟩:∃p:Nat,c.p=p:=⟨c.p.toNat,by unfold vO at hb;omega⟩;have b:c.p.toNat=p:=by omega
 unfold vO at hb;rw[b] at hb ⊢;have hv:(bE m p).lv=true:=by
  cases hv:(bE m p).lv with
  | true=>rfl
  | false=>exact absurd (.inr (.inr hv)) hb
 exact hs p d (by omega) hv
theorem rO (m:Ma) {c:Cl} {k:Int} (hk:c.k=k) (h:1≤k∧k≤7):uz m c=rW m c:=by
 unfold uz;rw[if_neg (by omega),if_pos (by omega)]
theorem wI (w:Wd) {c:Cl} {k:Int} (hk:c.k=k) (h:1≤k∧k≤7):Nl w c=Ml w c:=by
 unfold Nl;rw[if_neg (by omega),if_pos (by omega)]
theorem JE {c:Cl} (hk:c.k=1):Bz c:=fun m w hG h=>wH (x:=fun p=>sQ m p c) (y:=fun p=>QN w p c) hG h
 (by rw[rO m hk (by decide)];unfold rW;simp[hk]) (by rw[wI w hk (by decide)];unfold Ml yf;simp[hk]) fun p hp0 hp hv=>by
  obtain⟨a1,a2,a3⟩:=UC hG h hp hv c;refine⟨a1,a2,a3,?_⟩;unfold sQ;simp only;split
  ·exact .refl m
  split
  ·exact .refl m
  split
  ·exact .refl m
  ·exact⟨rfl,rfl,rfl⟩
theorem Tm (hG:qA m) (hp:p<m.sp.length) (hv:(bE m p).lv=true) {c:Cl} (hp0:c.p=p) (n:Int) (wr:Bool):zK m (kN m c n wr).1:=by
 unfold kN;split
 ·exact .refl m
 split
 ·exact .refl m
 rename_i hu;have hu:mg m c.p (c.a / 8) wr=0:=rE hu;rw[hp0] at hu ⊢;have S:=Sn hG hp hv hu;simp only;split
 ·exact .refl m
 split
 ·exact S.trans ⟨dw,rfl,rfl⟩
 ·exact S
theorem DC {c:Cl} {w:Wd} (hG:qA m) (h:xR m w) (hK:TP fr sl bl m) (hw:Fits fr sl bl w) (hn:wr=true→n=c.da.length) (hp0:c.p=p) (hp:p<m.sp.length) (hv:(bE m p).lv=true) :
  (kN m c n wr).2=(Gu w p c n wr).2∧qA (kN m c n wr).1∧xR (kN m c n wr).1 (Gu w p c n wr).1∧zK m (kN m c n wr).1:=by
 rcases Ng hG h hp hv c hp0 n wr hn with e|⟨a1,a2,a3⟩
 ·exact absurd e (QM hG (h.cap hG.rt hK hw) hp hv c hp0 n wr)
 ·exact⟨a1,a2,a3,Tm hG hp hv hp0 n wr⟩
theorem Oj {c:Cl} (hk:c.k=4):Fp fr sl bl c:=fun m w hG h hK hw _=>wH (x:=fun p=>kN m c c.n false) (y:=fun p=>Gu w p c c.n false) hG h
 (by rw[rO m hk (by decide)];unfold rW;simp[hk]) (by rw[wI w hk (by decide)];unfold Ml yf;simp[hk]) fun p hp0 hp hv=>DC hG h hK hw (fun e=>by cases e) hp0 hp hv
theorem Ms {c:Cl} (hk:c.k=5):Fp fr sl bl c:=fun m w hG h hK hw _=>wH (x:=fun p=>kN m c c.da.length true) (y:=fun p=>Gu w p c c.da.length true) hG h
 (by rw[rO m hk (by decide)];unfold rW;simp[hk]) (by rw[wI w hk (by decide)];unfold Ml yf;simp[hk]) fun p hp0 hp hv=>DC hG h hK hw (fun _=>rfl) hp0 hp hv
theorem FQ {c:Cl} (hk:c.k=6):Bz c:=fun m w hG h=>wH (x:=fun p=>Kq m p) (y:=fun p=>PX w p) hG h
 (by rw[rO m hk (by decide)];unfold rW;simp[hk]) (by rw[wI w hk (by decide)];unfold Ml yf;simp[hk]) fun p hp0 hp hv=>by
  have hq:=Rw h;unfold Kq
  by_cases h4:mD m=4
  ·rw[if_pos h4];unfold PX;simp only;rw[if_pos (by omega)];exact⟨rfl,hG,h,.refl m⟩
  rw[if_neg h4];obtain⟨m',e,F⟩:=NQ hG.rt hG.co hp hv (PD hG.rt h4);rw[e];obtain⟨b1,b2,b3⟩:=UT hG h (q:=(mD m).toNat) (by omega) (by omega) F;refine⟨?_,b1,b2,F.len,F.sll,by rw[F.st]⟩;rw[b3];have:((mD m).toNat:Int)=mD m:=by omega
  rw[this]
theorem step_exit {c:Cl} (hk:c.k=7):Bz c:=fun m w hG h=>wH (x:=fun p=>Rl m p) (y:=fun p=>Wh w p) hG h
 (by rw[rO m hk (by decide)];unfold rW;simp[hk]) (by rw[wI w hk (by decide)];unfold Ml yf;simp[hk]) fun p hp0 hp hv=>by unfold Rl;obtain⟨m',e,G⟩:=NG hG.rt hG.co hp;rw[e];obtain⟨b1,b2⟩:=Uq hG h G;exact⟨rfl,b1,b2,G.len,G.sll,by rw[G.st]⟩
theorem EX {c:Cl} (hk:c.k=4∨c.k=5) (hG:qA m):qA (uz m c).1:=by
 have hS:=Kk hG.rt;have key:∀n wr,(wr=true→n=(c.da.length:Int))→¬vO m c→qA (kN m c n wr).1:=fun n wr hn hb=>by
  obtain⟨p,b⟩:∃p:Nat,c.p=p:=⟨c.p.toNat,by unfold vO at hb;omega⟩;have a:c.p.toNat=p:=by omega
  unfold vO at hb;rw[a] at hb;have hv:(bE m p).lv=true:=by
   cases hv:(bE m p).lv with
   | true=>rfl
   | false=>exact absurd (.inr (.inr hv)) hb
  rcases Ng hG hS (by omega) hv c b n wr hn with e|⟨_,e,_⟩
  ·rw[e];exact hG
  ·exact e
 rcases hk with hk|hk
 ·rw[rO m hk (by decide)];unfold rW
  by_cases hb:vO m c
  ·rw[if_pos hb];exact hG
  simp only[if_neg hb,hk];exact key _ _ (fun e=>by cases e) hb
 rw[rO m hk (by decide)];unfold rW
 by_cases hb:vO m c
 ·rw[if_pos hb];exact hG
 simp only[if_neg hb,hk];exact key _ _ (fun _=>rfl) hb
theorem Bz.okm {c:Cl} (h:Bz c) (hG:qA m):qA (uz m c).1:=(h m (Jc m) hG (Kk hG.rt)).2.1
def runW:Wd→List Cl→Wd × List An
 | w,[]=>(w,[])
 | w,c::l=>((runW (Nl w c).1 l).1,(Nl w c).2::(runW (Nl w c).1 l).2)
def Sr (fr sl bl:Nat):Wd→List Cl→Prop
 | w,[]=>True
 | w,c::l=>Fits fr sl bl w∧(8<c.k→Fits fr sl bl (Vo w c).1)∧Sr fr sl bl (Nl w c).1 l
theorem JO {fr sl bl:Nat}:∀ {l:List Cl} {m:Ma} {w:Wd},(∀c∈l,Fp fr sl bl c)→qA m→xR m w→TP fr sl bl m→Sr fr sl bl w l→(runC m l).2=(runW w l).2∧qA (runC m l).1∧xR (runC m l).1 (runW w l).1∧TP fr sl bl (runC m l).1
 | [],m,w,_,h1,h2,h3,_=>⟨rfl,h1,h2,h3⟩
 | c::l,m,w,h0,h1,h2,h3,h4=>by obtain⟨a1,a2,a3,a4⟩:=h0 c (by simp) m w h1 h2 h3 h4.1 h4.2.1;obtain⟨b1,b2,b3,b4⟩:=JO (l:=l) (fun d hd=>h0 d (by simp[hd])) a2 a3 (h3.stay a4) h4.2.2;unfold runC runW;exact⟨by rw[a1,b1],b2,b3,b4⟩
def begW:Wd:=⟨1,fun p=>if p=0 then ⟨true,[],fun _=>none⟩ else zFw,[]⟩
theorem Ns {f s b:Int} (h:(0≤f∧f≤40)∧(0≤s∧s≤60)∧0≤b∧b≤80):xR (jf f s b) begW:=by
 have hi:=MQ h;have c:(jf f s b).sp=[⟨true,[],zTb⟩]:=by rw[hi]
 have a:(jf f s b).st=⟨[],b⟩:=by rw[hi]
 have hN:∀p,(bE (jf f s b) p).lv=(begW.ps p).lv∧(bE (jf f s b) p).ar=[]:=fun p=>by
  unfold bE;rw[c];cases p with
  | zero=>exact⟨rfl,rfl⟩
  | succ p=>exact⟨rfl,rfl⟩
 have hW:∀p,(begW.ps p).ar=[]∧∀n,(begW.ps p).own n=none:=fun p=>by
  show (if p=0 then (⟨true,[],fun _=>none⟩:Fw) else zFw).ar=[]∧∀n,(if p=0 then (⟨true,[],fun _=>none⟩:Fw) else zFw).own n=none
  by_cases e:p=0
  ·rw[if_pos e];exact⟨rfl,fun _=>rfl⟩
  ·rw[if_neg e];exact⟨rfl,fun _=>rfl⟩
 refine⟨by rw[c];rfl,fun p=>(hN p).1.symm,fun p=>by rw[(hW p).1,(hN p).2],fun p n => ?_,by rw[a];rfl,fun f hf => ?_,fun f j hf => ?_⟩
 ·rw[(hW p).2];have:dQ (jf f s b) p n=none:=by unfold dQ;rw[(hN p).2];rfl
  rw[this];exact (rfl:(none:Option Page)=none)
 ·rw[a] at hf;simp at hf
 ·rw[a] at hf;simp at hf
theorem TQ {s:Nat} (h:f≤40∧s≤60∧b≤80):TP f s b (jf f s b):=by
 rw[MQ (f:=(f:Int)) (s:=(s:Int)) (c:=(b:Int)) (by omega)];refine⟨?_,?_,rfl⟩
 ·show (vZ (f:Int)).fs.length=f;unfold vZ;rw[if_pos (by omega)];simp
 show (Dc (s:Int)).length=s;unfold Dc;rw[if_pos (by omega)];simp
theorem Uj {s:Nat} (h:f≤40∧s≤60∧b≤80) {l:List Cl} (hs:∀c∈l,Fp f s b c) (hf:Sr f s b begW l):(runC (jf f s b) l).2=(runW begW l).2:=
 (JO hs (Iq (by omega)) (Ns (by omega)) (TQ h) hf).1
instance (fr sl bl:Nat) (w:Wd):Decidable (Fits fr sl bl w):=decidable_of_iff (1≤fr∧Nf w+Ba w<fr+sl∧Ba w≤bl) ⟨fun h=>⟨h.1,h.2.1,h.2.2⟩,fun h=>⟨h.1,h.2,h.3⟩⟩
def We (fr sl bl:Nat):Wd→List Cl→Bool
 | w,[]=>true
 | w,c::l=>decide (Fits fr sl bl w)&&(!decide (8<c.k)||decide (Fits fr sl bl (Vo w c).1))&&We fr sl bl (Nl w c).1 l
theorem NA {fr sl bl:Nat}:∀ {l:List Cl} {w:Wd},We fr sl bl w l=true→Sr fr sl bl w l
 | [],_,_=>trivial
 | c::l,w,h=>by unfold We at h;simp only[dA,qY,qh,decide_eq_true_eq,decide_eq_false_iff_not] at h;exact⟨h.1.1,fun h8=>by rcases h.1.2 with h | h;exact absurd h8 h;exact h,NA h.2⟩
def yB (a n:Int):Cl:=⟨1,0,a,n,-1,0,true,true,false,[]⟩
def Ez (p a:Int) (b:UInt8):Cl:=⟨5,p,a,0,0,0,false,false,false,[b]⟩
def Ey (p a:Int):Cl:=⟨4,p,a,1,0,0,false,false,false,[]⟩
def aliveL:List Cl:=[yB 0 1,Ez 0 3 9,Ey 0 3]
theorem alive_fit:Sr 2 2 0 begW aliveL:=NA (by decide +kernel)
theorem alive_step:∀c∈aliveL,Fp 2 2 0 c:=fun c hc=>by
 have hc:c∈[yB 0 1,Ez 0 3 9,Ey 0 3]:=hc;simp only[eT,lu,or_false] at hc;rcases hc with rfl|rfl|rfl
 ·exact (JE rfl).fit 2 2 0
 ·exact Ms rfl
 ·exact Oj rfl
theorem alive_run:(runW begW aliveL).2=[⟨0,0,[]⟩,⟨0,1,[]⟩,⟨0,1,[9]⟩]:=by decide +kernel
def Qo (x:Cr):Prop:=∀(H:MH) (w:World),qA H.ma→EM w H→vY w x→Calls Tryz.prog 26 #[.agg (bP H),.agg (nQ x.c x.a x.cap)] w (yc H x.c w)
theorem zT {x:Cr} (h7:x.c.k≤7) (h:∀(m:Ma) (P:Nat),qA m→x.c.p=P→P<m.sp.length→(bE m P).lv=true→x.c.da.length≤x.cap→x.cap≤maxLen→(x.a=none→x.cap=0)→nS x.c.a∧nS x.c.n→Wx m x.c x.a x.cap P):Qo x:=
 fun H w hG hr hx=>Vr H x.c x.a x.cap w hr hG (fun W hb=>hx.rd.below hb) (fun P _ e1 e2 e3=>h H.ma P hG e1 e2 e3 hx.le hx.mx hx.nl hx.b64) (fun e=>by omega) (fun e=>by omega)
theorem WH {x:Cr} (hk:x.c.k=1):Qo x:=zT (by omega) fun m P hG hp hpl hv hle hmx hnl h64=>
 ⟨fun _ H gc B b w e k hc hrd=>by subst e;exact KE H x.c x.a x.cap gc B b P w k hG.rt hG.co hc hrd hle hmx hnl hp (by rw[←pI];exact hpl) h64,fun e=>by omega,fun e=>by omega,fun e=>by omega,fun e=>by omega,fun e=>by omega,fun e=>by omega⟩
theorem UI {x:Cr} (hk:x.c.k=4):Qo x:=zT (by omega) fun m P hG hp hpl hv hle hmx hnl h64=>
 ⟨fun e=>by omega,fun e=>by omega,fun e=>by omega,fun _ H gc B b w e k hc hrd=>by subst e;exact DK H x.c x.c.n false x.a x.cap gc B b w k hG.rt hG.co hG.fiok hc hrd hle hmx hnl h64.1 P hp (by rw[←pI];exact hpl) hv,fun e=>by omega,fun e=>by omega,fun e=>by omega⟩
theorem TB {x:Cr} (hk:x.c.k=5):Qo x:=zT (by omega) fun m P hG hp hpl hv hle hmx hnl h64=>
 ⟨fun e=>by omega,fun e=>by omega,fun e=>by omega,fun e=>by omega,fun _ H gc B b w e k hc hrd=>by subst e;exact DK H x.c x.c.da.length true x.a x.cap gc B b w k hG.rt hG.co hG.fiok hc hrd hle hmx hnl h64.1 P hp (by rw[←pI];exact hpl) hv,fun e=>by omega,fun e=>by omega⟩
theorem Vn {x:Cr} (hk:x.c.k=6):Qo x:=zT (by omega) fun m P hG hp hpl hv hle hmx hnl h64=>
 ⟨fun e=>by omega,fun e=>by omega,fun e=>by omega,fun e=>by omega,fun e=>by omega,fun _ H W e hr=>by subst e;exact RU H P W hr hG.rt hG.co,fun e=>by omega⟩
theorem UK {x:Cr} (hk:x.c.k=7):Qo x:=zT (by omega) fun m P hG hp hpl hv hle hmx hnl h64=>
 ⟨fun e=>by omega,fun e=>by omega,fun e=>by omega,fun e=>by omega,fun e=>by omega,fun e=>by omega,fun _ H W e hr=>by subst e;exact Rs H P W hr hG.rt hG.co⟩
def yD (x:An):UInt8:=if x.e≠0∨x.da.length<1 then 255 else x.da.getD 0 0
theorem Lr (a n:Int) (w:World):Calls Tryz.prog 14 #[.int .i64 a,.int .i64 n] w fun r w'=>r = .returned (.agg (nQ (yB a n) none 0))∧Below w.heap.size w w':=by
 go_enter func14,ntmps14
 go_wp2_with (refine aW rfl _ _ _ rfl (nQ (yB a n) none 0) rfl rfl rfl call_size (uS _ _ _) ?_)
 intro w1 b bx1;go_wp2;refine bodyPost_ret (v:=.agg (nQ (yB a n) none 0)) (bB results14 _ _ w.heap.size _ _ _ rfl bx1 underlying25 rfl call_size) rfl ?_;exact⟨rfl,b⟩
theorem PE (p a:Int) (w:World):Calls Tryz.prog 16 #[.int .i64 p,.int .i64 a] w fun r w'=>r = .returned (.agg (nQ (Ey p a) none 0))∧Below w.heap.size w w':=by
 go_enter func16,ntmps16
 go_wp2_with (refine aW rfl _ _ _ rfl (nQ (Ey p a) none 0) rfl rfl rfl call_size (uS _ _ _) ?_)
 intro w1 b bx1;go_wp2;refine bodyPost_ret (v:=.agg (nQ (Ey p a) none 0)) (bB results16 _ _ w.heap.size _ _ _ rfl bx1 underlying25 rfl call_size) rfl ?_;exact⟨rfl,b⟩
theorem Qc (p a:Int) (x:UInt8) (w:World):Calls Tryz.prog 15 #[.int .i64 p,.int .i64 a,.int .u8 x.toNat] w fun r w' => ∃g,r = .returned (.agg (nQ (Ez p a x) (some ⟨g,0,none⟩) 1))∧Own w' w.heap.size 5 1 (.slice (some ⟨g,0,none⟩) 1 1) 1 [oZ x]∧Below w.heap.size w w':=by
 go_enter func15,ntmps15;go_upto_region 1 with (fail);refine je (fun W=>Code.wp _ _ _ _ W) fun w1 h bx1 l => ?_;clear l;have i:=(Below.refl w1.heap.size w1).alloc (az _) (.cells #[.int .u8 x.toNat] 5);have bx2:=bx1.ext i;have f:=ah h i;have c:Own (w1.alloc (.cells #[.int .u8 x.toNat] 5)) w.heap.size 5 1 (.slice (some ⟨w1.heap.size,0,none⟩) 1 1) 1 [oZ x]:=⟨rfl,.inr ⟨w1.heap.size,0,1,_,rfl,h.size,aJ.new _ _ _,az 1,by unfold maxLen;decide,az 1,fun j u hj=>by
  match j with
  | 0=>simpa[oZ] using hj
  | j+1=>simp at hj⟩⟩
 have m:w.heap.size<w1.heap.size:=bx1.lt
 go_wp2_with (refine ax rfl _ _ _ rfl w.heap.size (nQ (Ez p a x) (some ⟨w1.heap.size,0,none⟩) 1) rfl rfl _ _ bx2 rfl call_size (uS _ _ _) ?_)
 intro w2 bx3 d;have b:=ay c bx2 (by decide) d;have e:=f.grown d f.size (fun k hk=>by cases hk;exact az _);go_wp2;refine bodyPost_ret (v:=.agg (nQ (Ez p a x) (some ⟨w1.heap.size,0,none⟩) 1)) (bB results15 _ _ w.heap.size _ _ _ rfl bx3 underlying25 rfl call_size) rfl ?_;exact⟨_,rfl,b,e⟩
theorem KD (x:An) (ad:Option Addr) (cd:Nat) (w:World) (h:dV w ad (x.da.map oZ)) (hl:x.da.length≤cd) :
  Calls Tryz.prog 18 #[.agg (gD x.e x.n (.slice ad x.da.length cd))] w fun r w'=>r = .returned (.int .u8 (yD x).toNat)∧Below w.heap.size w w':=by
 go_enter func18,ntmps18;go_upto_region 1 with (fail);refine je (fun W=>Code.wp _ _ _ _ W) fun w1 a bx1 c => ?_;clear c;have bx1:aJ w1 w.heap.size (gD x.e x.n (.slice ad x.da.length cd)) 52:=bx1;have d:=h.below a;have hc:=bx1.cell;unfold gD at hc
 by_cases he:x.e=0
 ·have f : (x.e==0)=true:=by simpa using he
  by_cases hd:x.da.length<1
  ·have hX:Hid (yD x=255):=ae (by unfold yD;rw[if_pos (.inr hd)]);have g:(x.da.length:Int)<1:=by omega
   go_wp2;go_ret;exact⟨by rw[hX.out];rfl,a⟩
  have g:¬(x.da.length:Int)<1:=by omega
  obtain⟨u,hu⟩:∃u,x.da[0]?=some u:=⟨_,aN (by omega)⟩;have hX:Hid (yD x=u):=ae (by unfold yD;rw[if_neg (by rintro (e | e);exact e he;exact hd e),bJ,hu];rfl);obtain⟨bd,od,i,b⟩:=d 0 (oZ u) (by rw[jd,hu];rfl);rw[i] at hc;have b:w1.cell? ⟨bd,od,none⟩=some (.int .u8 u.toNat):=by simpa[oZ] using b
  have j:(0:Int)<(x.da.length:Int):=by omega
  go_wp2;go_ret;exact⟨by rw[hX.out];rfl,a⟩
 have hX:Hid (yD x=255):=ae (by unfold yD;rw[if_pos (.inl he)]);have f : (x.e==0)=false:=by simpa using he
 go_wp2;go_ret;exact⟨by rw[hX.out];rfl,a⟩
theorem vY.nil {c:Cl} (hd:c.da=[]) (h:nS c.a∧nS c.n):vY w ⟨c,Option.none,0⟩:=by
 refine⟨?_,by show c.da.length≤0;rw[hd];exact az 0,bK _,fun _=>rfl,h⟩;show dV w Option.none (c.da.map oZ);rw[hd];exact fun j u hj=>by simp at hj
theorem vY.own {c:Cl} (ho:Own w B 5 1 (.slice ad c.da.length cp) c.da.length (c.da.map oZ)) (h:nS c.a∧nS c.n):vY w ⟨c,ad,cp⟩:=by
 obtain⟨a,c',e,h1,h2,h3,h4⟩:=ho.rd;simp only[lV,true_and] at e;obtain⟨rfl,rfl⟩:=e;exact⟨h4,h1,h2,h3,h⟩
theorem Tw {n:Nat} {al:List (An × Value)} (h:uf w B (.slice a n c) al) {x:An × Value} (hi:al[i]?=some x) :
  n=al.length∧∃b o ad cd,a=some ⟨b,o,none⟩∧x.2 = .slice ad x.1.da.length cd∧dV w (some ⟨b,o+i*3,none⟩) [.int .i64 x.1.e,.int .i64 x.1.n,.slice ad x.1.da.length cd]∧dV w ad (x.1.da.map oZ)∧x.1.da.length≤cd:=by
 obtain⟨hl,hx⟩:=dC.1 hi;obtain⟨a',c',e,_,_,_,hr⟩:=h.own.rd;simp only[lV] at e;obtain⟨rfl,e2,_⟩:=e;obtain⟨b,o,ha,d⟩:=nU (sz:=3) (enc:=fun x:An × Value=>(gD x.1.e x.1.n x.2).toList) (fun _=>rfl) (by decide) hr i hl;obtain⟨ad,cd,e3,h1,_,_,h4⟩:=(h.each x (by rw[←hx];exact eX hl)).rd;refine⟨e2,b,o,ad,cd,ha,e3,?_,h4,h1⟩;rw[hx] at d;rw[←e3];exact d
theorem Jn (w:World):Calls Tryz.prog 13 #[] w fun r w'=>r = .returned (.bool true)∧Below w.heap.size w w':=by
 go_enter func13,ntmps13;go_upto_region 1 with (fail)
 go_wp2_with fail
 refine (Lr 0 1 _).mono ?_;rintro r w1 ⟨rfl,hk⟩;unfold nQ yB;dsimp only
 go_wp2_with fail
 refine (Qc 0 3 9 _).mono ?_;rintro r w2 ⟨g,rfl,hf,hj⟩;unfold nQ Ez;dsimp only;have n:=ah hk hj
 go_wp2_with fail
 refine (PE 0 3 _).mono ?_;rintro r w3 ⟨rfl,q⟩;unfold nQ Ey;dsimp only;have k:=ah n q;have hd:=hf.below q;clear hk hj n hf q
 go_wp2_with fail
 have t:=(Below.refl w3.heap.size w3).alloc (az _) (.cells #[.int .i64 1,.int .i64 0,.int .i64 0,.int .i64 1,.int .i64 (-1),.int .i64 0,.bool true,.bool true,.bool false,.slice none 0 0,.int .i64 5,.int .i64 0,.int .i64 3,.int .i64 0,.int .i64 0,.int .i64 0,.bool false,.bool false,.bool false,.slice (some ⟨g,0,none⟩) 1 1,.int .i64 4,.int .i64 0,.int .i64 3,.int .i64 1,.int .i64 0,.int .i64 0,.bool false,.bool false,.bool false,.slice none 0 0] 25);have j:=ah k t;have hc:=hd.below t;have hP:=Fu 2 2 0 (some ⟨w3.heap.size,0,none⟩) 3 [⟨yB 0 1,none,0⟩,⟨Ez 0 3 9,some ⟨g,0,none⟩,1⟩,⟨Ey 0 3,none,0⟩] _ (by decide) (dV.new w3 _ 25) (fun x hx=>by
  simp only[eT,lu,or_false] at hx;rcases hx with rfl|rfl|rfl
  ·exact vY.nil rfl (by unfold nS;decide)
  ·exact vY.own hc (by unfold nS;decide)
  ·exact vY.nil rfl (by unfold nS;decide)) (fun x hx=>by
  simp only[eT,lu,or_false] at hx;rcases hx with rfl|rfl|rfl
  ·exact WH rfl
  ·exact TB rfl
  ·exact UI rfl) (fun x hx=>by
  simp only[eT,lu,or_false] at hx;rcases hx with rfl|rfl|rfl
  ·exact fun m hG=>(JE rfl).okm hG
  ·exact fun m hG=>EX (.inr rfl) hG
  ·exact fun m hG=>EX (.inl rfl) hG)
 refine hP.mono ?_;rintro r w5 ⟨hi,H5,v,al,e,rfl,hm,u,p⟩;rcases p with ⟨hbad,_⟩|⟨_,_,rfl,hm5,hal5⟩
 ·exfalso;simp only[bH,bL,mR,zD] at hbad;omega
 have d:al.map Prod.fst=[⟨0,0,[]⟩,⟨0,1,[]⟩,⟨0,1,[9]⟩]:=hal5.trans ((Uj (f:=2) (s:=2) (b:=0) (by decide) alive_step alive_fit).trans alive_run);have c:al.length=3:=by have:=congrArg List.length d;simpa using this
 obtain⟨x,hx⟩:∃x,al[2]?=some x:=⟨_,aN (by omega)⟩;have y:x.1=⟨0,1,[9]⟩:=by have:=congrArg (fun l=>l[2]?) d;simp only[jd,hx] at this;simpa using this
 obtain⟨av,cv,rfl,_⟩:=u.own.rd;obtain⟨_,bv,ov,ad,cd,hl,_,o,a,hb⟩:=Tw u hx;have i:=ah j hi;rw[y] at o a hb;have hn:=ae c;rw[hl,c];clear hP t j hc hm u hm5 hal5 d hx y hi k hd hl c
 go_wp2_with (refine aW rfl _ _ _ rfl (bP H5) rfl rfl rfl mach_size (dz _) ?_)
 intro w6 h mx6;have ha:=o.below h;have z:=a.below h;have hh:=ah i h;clear o a h i mx6
 go_wp2_with (refine aA _ _ rfl bv (ov+2*3) rfl rfl _ ha _ underlying52 rfl ans_size ?_)
 refine (KD ⟨0,1,[9]⟩ ad cd _ z hb).mono ?_;rintro r w7 ⟨rfl,hp⟩;have hg:=ah hh hp;go_wp2;go_ret;exact⟨rfl,hg⟩
structure nJ (w:World) (B:Nat) (v:Value) (l:List Cr):Prop where
 own:Own w B 25 10 v l.length (l.flatMap UN)
 each:∀x∈l,Own w B 5 1 (.slice x.a x.c.da.length x.cap) x.c.da.length (x.c.da.map oZ)
 b64:∀x∈l,nS x.c.a∧nS x.c.n
theorem nJ.below {l:List Cr} (h:nJ w B v l) (hb:Below w.heap.size w w'):nJ w' B v l:=⟨h.own.below hb,fun x hx=>(h.each x hx).below hb,h.b64⟩
theorem nJ.nil (w:World) (B:Nat):nJ w B (.slice none 0 0) []:=⟨Own.nil _ _ _ _,fun x hx=>(by cases hx),fun x hx=>(by cases hx)⟩
theorem nJ.rd {l:List Cr} (h:nJ w B v l):∃a c,v = .slice a l.length c∧dV w a (l.flatMap UN)∧∀x∈l,vY w x:=by
 obtain⟨a,c,e,_,_,_,hr⟩:=h.own.rd;exact⟨a,c,e,hr,fun x hx=>vY.own (h.each x hx) (h.b64 x hx)⟩
theorem call_info:(Tryz.prog.info? 25).map (fun i=>(i.zero,i.size,i.bytes))=some (some (.agg #[.int .i64 0,.int .i64 0,.int .i64 0,.int .i64 0,.int .i64 0,.int .i64 0,.bool false,.bool false,.bool false,.slice none 0 0]),10,80):=by kernel_rfl
theorem Ry {n m:Nat} (ho:Own w B T0 sz v n xs) (hg:w.grownBy w' v.ownBlock) (h:Own w B' T sz' u m ys) (hT:T≠T0):Own w' B' T sz' u m ys:=by
 cases hr:v.ownBlock with
 | none=>rw[hr] at hg;exact jA h hg
 | some g=>
  rw[hr] at hg;obtain⟨cs,hb⟩:=qJ ho g hr;exact ay h hb (fun e=>hT e.symm) hg
theorem nJ.more {l news:List Cr} (h:nJ w1 B v l) (hn:∀x∈news,Own w1 B 5 1 (.slice x.a x.c.da.length x.cap) x.c.da.length (x.c.da.map oZ)) (hb:∀x∈news,nS x.c.a∧nS x.c.n)
 (hg:w1.grownBy wa v.ownBlock) (own2:Own wa B 25 10 v2 (l.length+news.length) (l.flatMap UN++news.flatMap UN)):nJ wa B v2 (l++news):=by
 refine⟨by rw[jb,gW];exact own2,fun x hx => ?_,fun x hx => ?_⟩
 ·rcases iN.1 hx with hx|hx
  ·exact Ry h.own hg (h.each x hx) (by decide)
  ·exact Ry h.own hg (hn x hx) (by decide)
 rcases iN.1 hx with hx|hx
 ·exact h.b64 x hx
 ·exact hb x hx
theorem Cm {n:Nat} {al:List (An × Value)} {L:List An} (h:uf w B (.slice a n c) al) (hL:al.map Prod.fst=L) {x:An} (hi:L[i]?=some x) :
  n=L.length∧∃b o ad cd,a=some ⟨b,o,none⟩∧dV w (some ⟨b,o+i*3,none⟩) [.int .i64 x.e,.int .i64 x.n,.slice ad x.da.length cd]∧dV w ad (x.da.map oZ)∧x.da.length≤cd:=by
 subst hL;rw[jd] at hi;cases hx:al[i]? with
 | none=>rw[hx] at hi;cases hi
 | some y=>
  rw[hx] at hi;cases hi;obtain⟨h1,b,o,ad,cd,h2,_,h3,h4,h5⟩:=Tw h hx;exact⟨by rw[gK];exact h1,b,o,ad,cd,h2,h3,h4,h5⟩
theorem run_easy:∀ {l:List Cl} {m:Ma} {w:Wd},qA m→xR m w→(∀c∈l,Bz c)→(runC m l).2=(runW w l).2
 | [],m,w,_,_,_=>rfl
 | c::l,m,w,h1,h2,h3=>by obtain⟨a1,a2,a3,_⟩:=h3 c (by simp) m w h1 h2;unfold runC runW;rw[a1,run_easy a2 a3 fun x hx=>h3 x (by simp[hx])]
def forkCl:Cl:=⟨6,0,0,0,0,0,false,false,false,[]⟩
def Af (p:Int):Cl:=⟨7,p,0,0,0,0,false,false,false,[]⟩
def forkR:Cr:=⟨forkCl,none,0⟩
theorem procs_run:∀g:Int,1≤g→g<4→(runW begW [forkCl,forkCl,forkCl,forkCl,Af g,forkCl]).2=[⟨0,1,[]⟩,⟨0,2,[]⟩,⟨0,3,[]⟩,kv 4,kv 0,⟨0,g,[]⟩]:=fun g h1 h2=>by
 have:g=1∨g=2∨g=3:=by omega
 rcases this with rfl|rfl|rfl
 ·decide +kernel
 ·decide +kernel
 ·decide +kernel
theorem Pd (g:Int) (w:World) (hg64:nS g):Calls Tryz.prog 12 #[.int .i64 g] w fun r w'=>r = .returned (.bool true)∧Below w.heap.size w w':=by
 go_enter func12,ntmps12;go_upto_region 1 with (fail)
 go_wp2_with fail
 refine (Jn _).mono ?_;rintro r w1 ⟨rfl,hd⟩
 by_cases h1:g<1
 ·go_wp2;go_ret;exact⟨rfl,hd⟩
 by_cases h4:4≤g
 ·go_wp2;go_ret;exact⟨rfl,hd⟩
 go_upto_region 7 with (fail)
 go_loopw [16,3] (fun s16 s3 wr => ∃k:Nat,k≤4∧s16 = .int .i64 k∧Below w.heap.size w wr∧nJ wr w.heap.size s3 (List.replicate k forkR)) (fun s16 _ _=>4-(intOf s16).toNat)
 case atStart=>exact⟨0,by omega,rfl,hd,nJ.nil _ _⟩
 case round=>
  clear hd;obtain⟨k,hk,rfl,a,hc⟩:=hrel;obtain⟨av,cv,rfl,_⟩:=hc.rd
  by_cases hkl:k<4
  ·have hA:(k:Int)<4:=by omega
   have ho:=hc.own;simp only[lX] at ho ⊢
   go_wp2_with (at_builtin;go_must (refine pu rfl _ _ 27 rfl w.heap.size 25 _ 10 80 underlying27 call_info rfl (by decide) _ k _ rfl (ho.alloc _) (some ⟨wr.heap.size,0,none⟩) 1 1 (UN forkR) rfl (fun h=>(by cases h)) (az _) rfl (dV.new _ (nQ forkCl none 0) _) (fP (uS _ _ _)) (by unfold maxLen;omega) (by omega) (eD a.size _) ?_))
   intro v2 wa own2 j s;have d:=(Below.refl wr.heap.size wr).alloc (az _) (.cells (nQ forkCl none 0) 25);have l:=hc.below d;simp only[lX] at l;have hb:nJ wa w.heap.size v2 (List.replicate (k+1) forkR):=by rw[List.replicate_succ'];refine l.more (fun x hx=>by rw[bF.1 hx];exact Own.nil _ _ _ _) (fun x hx=>by rw[bF.1 hx];unfold nS;decide) j ?_;rw[lX,List.flatMap_singleton];exact own2
   have f:Below w.heap.size w wa:=(ah a d).grown j (ah a d).size (fun k hk=>ho.ge k hk);clear hc ho d l own2 j s a;go_wp2;go_roundw
   case rel=>exact⟨k+1,by omega,by go_num,f,hb⟩
   case measure=>simp[intOf];omega
  have hB:k=4:=by omega
  subst hB;simp only[lX];have ho:=hc.own;simp only[lX] at ho
  go_wp2_with (at_builtin;go_must (refine pu rfl _ _ 27 rfl w.heap.size 25 _ 10 80 underlying27 call_info rfl (by decide) _ 4 _ rfl (ho.alloc _) (some ⟨wr.heap.size,0,none⟩) 2 2 (UN ⟨Af g,none,0⟩++UN forkR) rfl (fun h=>(by cases h)) (az _) rfl (dV.new _ #[.int .i64 7,.int .i64 g,.int .i64 0,.int .i64 0,.int .i64 0,.int .i64 0,.bool false,.bool false,.bool false,.slice none 0 0,.int .i64 6,.int .i64 0,.int .i64 0,.int .i64 0,.int .i64 0,.int .i64 0,.bool false,.bool false,.bool false,.slice none 0 0] _) (by intro u hu;rcases iN.1 hu with hu | hu;exact fP (uS _ _ _) u hu;exact fP (uS _ _ _) u hu) (by unfold maxLen;omega) (by omega) (eD a.size _) ?_))
  intro v2 wa own2 j s;have d:=(Below.refl wr.heap.size wr).alloc (az _) (.cells #[.int .i64 7,.int .i64 g,.int .i64 0,.int .i64 0,.int .i64 0,.int .i64 0,.bool false,.bool false,.bool false,.slice none 0 0,.int .i64 6,.int .i64 0,.int .i64 0,.int .i64 0,.int .i64 0,.int .i64 0,.bool false,.bool false,.bool false,.slice none 0 0] 25);have l:=hc.below d;simp only[lX] at l;have hb:nJ wa w.heap.size v2 (List.replicate 4 forkR++[⟨Af g,none,0⟩,forkR]):=by
   refine l.more (fun x hx => ?_) (fun x hx => ?_) j ?_
   ·simp only[eT,lu,or_false] at hx;rcases hx with rfl|rfl
    ·exact Own.nil _ _ _ _
    ·exact Own.nil _ _ _ _
   ·simp only[eT,lu,or_false] at hx;rcases hx with rfl|rfl
    ·exact⟨(by unfold nS;decide:nS (0:Int)),(by unfold nS;decide:nS (0:Int))⟩
    ·exact⟨(by unfold nS;decide:nS (0:Int)),(by unfold nS;decide:nS (0:Int))⟩
   ·exact own2
  have f:Below w.heap.size w wa:=(ah a d).grown j (ah a d).size (fun k hk=>ho.ge k hk);clear hc ho d l own2 j s a;obtain⟨a2,c2,rfl,hs,hr⟩:=hb.rd;go_upto_region 11 with (fail)
  go_wp2_with fail
  have hh:∀x∈List.replicate 4 forkR++[⟨Af g,none,0⟩,forkR],x.c.k=6∨x.c.k=7:=fun x hx=>by
   have hx:x∈[forkR,forkR,forkR,forkR,⟨Af g,none,0⟩,forkR]:=hx;simp only[eT,lu,or_false] at hx;rcases hx with rfl|rfl|rfl|rfl|rfl|rfl
   all_goals first | exact .inl rfl | exact .inr rfl
  refine (Fu 0 0 0 a2 c2 _ _ (by decide) hs hr (fun x hx=>(hh x hx).elim Vn UK) (fun x hx m hG=>(hh x hx).elim (fun e=>(FQ e).okm hG) (fun e=>(step_exit e).okm hG))).mono ?_;rintro r w5 ⟨hy,H5,v,al,e,rfl,hz,hq,hl⟩;rcases hl with ⟨hbad,_⟩|⟨_,_,rfl,hm5,hal5⟩
  ·exfalso;simp only[jJ,bH,bL,jb,gK,lX,mR,zD] at hbad;omega
  have z:al.map Prod.fst=[⟨0,1,[]⟩,⟨0,2,[]⟩,⟨0,3,[]⟩,kv 4,kv 0,⟨0,g,[]⟩]:=by
   rw[hal5,←procs_run g (by omega) (by omega)];exact run_easy (Iq (by omega)) (Ns (by omega)) fun c hc=>by
    have hc:c∈[forkCl,forkCl,forkCl,forkCl,Af g,forkCl]:=hc;simp only[eT,lu,or_false] at hc;rcases hc with rfl|rfl|rfl|rfl|rfl|rfl
    all_goals first | exact FQ rfl | exact step_exit rfl
  have hj:=ah f hy;have hm:=ae f.size;obtain⟨av5,cv5,rfl,_⟩:=hq.own.rd;clear f hb hs hr hy hz hm5 hal5
  go_wp2_with (refine aW rfl _ _ _ rfl (bP H5) rfl rfl rfl mach_size (dz _) ?_)
  intro w6 hn mx6;have hp:=(hq.mono hm.out).below hn;have hi:=ah hj hn;clear hq hj hn mx6;have n:=ae z;have ht:al.length=6:=by have:=congrArg List.length z;simpa using this
  rw[ht] at hp ⊢;clear z ht;go_upto_region 15 with (fail)
  go_loopw [38] (fun s38 wr => ∃k:Nat,k≤3∧s38 = .int .i64 k∧Below w.heap.size w wr∧uf wr w.heap.size (.slice av5 6 cv5) al) (fun s38 _=>3-(intOf s38).toNat)
  case atStart=>exact⟨0,by omega,rfl,hi,hp⟩
  case round=>
   clear hi hp;obtain⟨k,hk,rfl,a,ha⟩:=hrel
   by_cases hk3:k<3
   ·have hA:(k:Int)<3:=by omega
    have hC:(k:Int)<6:=by omega
    obtain⟨_,b,o,ad,cd,q,p,_⟩:=Cm (i:=k) (x:=⟨0,((k+1:Nat):Int),[]⟩) ha n.out (by
     have:k=0∨k=1∨k=2:=by omega
     rcases this with rfl|rfl|rfl
     ·rfl
     ·rfl
     ·rfl)
    have c0:wr.cell? ⟨b,o+k*3,none⟩=some (.int .i64 0):=by have:=uN p (k:=0) (u:=.int .i64 0) rfl;simpa using this
    have c1:wr.cell? ⟨b,o+k*3+1,none⟩=some (.int .i64 ((k:Int)+1)):=by have:=uN p (k:=1) (u:=.int .i64 ((k+1:Nat):Int)) rfl;simpa using this
    rw[q] at ha ⊢;clear p q;have hw:IntKind.i64.wrap ((k:Int)+1)=(k:Int)+1:=dS _ (by omega);go_wp2;go_roundw
    case rel=>exact⟨k+1,by omega,by go_num,a,ha⟩
    case measure=>simp[intOf];omega
   have hv : k=3:=by omega
   subst hv;obtain⟨_,b,o,ad,cd,q,p,_⟩:=Cm (i:=3) (x:=kv 4) ha n.out rfl;obtain⟨_,b',o',ad4,cd4,y,hg,_⟩:=Cm (i:=4) (x:=kv 0) ha n.out rfl;obtain⟨_,b'',o'',ad5,cd5,t,hf,_⟩:=Cm (i:=5) (x:=⟨0,g,[]⟩) ha n.out rfl;rw[q] at y t;simp only[iq,tK,and_true] at y t;obtain⟨rfl,rfl⟩:=y;obtain⟨rfl,rfl⟩:=t;have c0:wr.cell? ⟨b,o+9,none⟩=some (.int .i64 4):=by have:=uN p (k:=0) (u:=.int .i64 4) rfl;simpa using this
   have c1:wr.cell? ⟨b,o+12,none⟩=some (.int .i64 0):=by have:=uN hg (k:=0) (u:=.int .i64 0) rfl;simpa using this
   have c2:wr.cell? ⟨b,o+15+1,none⟩=some (.int .i64 g):=by have:=uN hf (k:=1) (u:=.int .i64 g) rfl;simpa using this
   rw[q];clear p hg hf q ha;go_wp2;go_ret;exact⟨rfl,a⟩
end Go.Proofs.YtpaeabelhnnbiaaGreat