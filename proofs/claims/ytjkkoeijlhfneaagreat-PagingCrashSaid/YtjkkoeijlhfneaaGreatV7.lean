import Derived.Test.YtjkkoeijlhfneaaGreatV6
import Derived.BigRegion
set_option linter.unusedSimpArgs false
set_option linter.unusedVariables false
set_option maxHeartbeats 4000000
set_option maxRecDepth 100000
namespace Go.Proofs.YtjkkoeijlhfneaaGreat
open _root_.Go.Proofs.Tryz
open Go.RowKit Go.Maps Pw
variable {P:Program} {T e t:TypeId} {W w:World} {b base base' fuel go i k n off sz:Nat} {held:Bool} {m:Ma} {o:Oper} {spare:Nat → Bool} {u v:Value} {vs:List Value} {x:Operand} {ρ:Operand → Value}
def EB (x:Int) (m:Nat):Nat:=(max (min x m) 0).toNat
theorem LX (x:Int) (m:Nat):EB x m≤m:=by unfold EB;omega
theorem Gy (x:Int) (m:Nat):((EB x m:Nat):Int)=max (min x m) 0:=by unfold EB;omega
def UE (f s b:Int) (l:List UInt8) (w:World) (r:Ending) (w' : World):Prop:=∃H:MH,r = .returned (.agg (dD H))∧uj w' w.heap.size H∧Below w.heap.size w w'∧Rt H.ma∧Co H.ma∧(∀p∈H.sp,∀n g,onA p.ar n=some g→g.fi<H.fi.length) ∧
 H.m.fs.length=EB f 40∧H.dk.blocks.length=EB b 80∧(1≤H.sp.length∧H.sp.length≤2)∧(l=[]→H.ma=kZ (EB f 40) (EB s 60) (EB b 80))
theorem DW (fr sl bl:Int) (al:Option Addr) (cl:Nat) (l:List UInt8) (w:World) (hr:ui w al cl l.length (l.map BP)) :
  Calls Tryz.prog 10 #[.int .i64 fr,.int .i64 sl,.int .i64 bl,.slice al l.length cl] w (UE fr sl bl l w):=by
 have hra:Hid (∀a,al=some a→l.map BP≠[]→a.block<w.heap.size):=Lib.hid fun a ha hl=>by obtain⟨u,hu⟩:∃u,(l.map BP)[0]?=some u:=⟨_,aG (List.length_pos_iff.2 hl)⟩;obtain⟨b',o',e,hc⟩:=hr.rd 0 u hu;rw[ha] at e;cases e;exact Un hc
 go_enter func10,ntmps10;go_upto_region 2 with (fail);refine qH (fun W=>Code.wp _ _ _ _ W) fun w1 hb1 bx1 mx1 hs1 => ?_;have hr1:=hr.below hb1;have mx1:aC w1 (w.heap.size+1) (iQ ⟨al,cl,l,noH,none,0,[]⟩) 77:=mx1;have bx1:aC w1 w.heap.size (dD noH) 41:=bx1;clear hr;go_upto_region 3 with (fail);have e0:(if (if 40<fr then (40:Int) else fr)<0 then 0 else if 40<fr then 40 else fr)=((EB fr 40:Nat):Int):=by rw[Gy];split<;>split<;>omega
 have e1:(if (if 60<sl then (60:Int) else sl)<0 then 0 else if 60<sl then 60 else sl)=((EB sl 60:Nat):Int):=by rw[Gy];split<;>split<;>omega
 have e2:(if (if 80<bl then (80:Int) else bl)<0 then 0 else if 80<bl then 80 else bl)=((EB bl 80:Nat):Int):=by rw[Gy];split<;>split<;>omega
 rw[e0,e1,e2];clear e0 e1 e2;generalize (if 40<fr then (40:Int) else fr)=z0;generalize (if 60<sl then (60:Int) else sl)=z1;generalize (if 80<bl then (80:Int) else bl)=z2;obtain⟨f,hf⟩:∃f,EB fr 40=f:=⟨_,rfl⟩;obtain⟨s,hs⟩:∃s,EB sl 60=s:=⟨_,rfl⟩;obtain⟨ct,hct⟩:∃ct,EB bl 80=ct:=⟨_,rfl⟩;have hf40:f≤40:=by rw[←hf];exact LX _ _
 have hs60:s≤60:=by rw[←hs];exact LX _ _
 have hc80:ct≤80:=by rw[←hct];exact LX _ _
 have hcl:=Lib.hid (And.intro hf (And.intro hs hct));rw[hf,hs,hct];clear hf hs hct;have hb1z:w.heap.size+2≤w1.heap.size:=mx1.lt;have hmkF:∀W:World,(Instr.makeSlice 26 (.int .i64 (f:Int)) (.int .i64 (f:Int))).run Tryz.prog W = .ok (.slice (some ⟨W.heap.size,0,none⟩) f f) (W.alloc (.cells (madeCells (vK fr0) (f*13)) 81)):=
  He 26 81 _ 13 40 underlying26 frame_info .i64 .i64 f (by omega) (by omega)
 have hmkS:∀W:World,(Instr.makeSlice 30 (.int .i64 (s:Int)) (.int .i64 (s:Int))).run Tryz.prog W = .ok (.slice (some ⟨W.heap.size,0,none⟩) s s) (W.alloc (.cells (madeCells #[.int .i64 0] (s*1)) 3)):=
  He 30 3 _ 1 8 underlying30 int_info .i64 .i64 s (by omega) (by omega)
 have hmkW:∀W:World,(Instr.makeSlice 31 (.int .i64 (s:Int)) (.int .i64 (s:Int))).run Tryz.prog W = .ok (.slice (some ⟨W.heap.size,0,none⟩) s s) (W.alloc (.cells (madeCells (iq zPg) (s*8)) 79)):=
  He 31 79 _ 8 8 underlying31 page_info .i64 .i64 s (by omega) (by omega)
 have hmkD:∀W:World,(Instr.makeSlice 31 (.int .i64 (ct:Int)) (.int .i64 (ct:Int))).run Tryz.prog W = .ok (.slice (some ⟨W.heap.size,0,none⟩) ct ct) (W.alloc (.cells (madeCells (iq zPg) (ct*8)) 79)):=
  He 31 79 _ 8 8 underlying31 page_info .i64 .i64 ct (by omega) (by omega)
 have hb2:=Lib.hid hb1;clear hb1;refine gH 17 [_,_,.r 2 ((bX fun _=>True)),.r 3 ((bX fun _=>True)),_,.r 5 ((bX fun _=>True)),_,.r 7 ((bX fun _=>True)),.r 8 ((bX fun _=>True)),_,.r 10 ((bX fun _=>True)),.r 11 ((bX fun _=>True)),_,.v (.agg #[.slice none 0 0,.int .i64 (ct:Int)]),.r 14 ((bX fun _=>True)),_,_] (JM w1 w1.heap.size f s ct (vK fr0) #[.int .i64 0] (iq zPg)) sG (fun y=>VZ y) (Qk sG rfl (Qk sG rfl (ag ?_ (ag ?_ (Qk sG rfl (ag ?_ (Qk sG rfl (ag ?_ (ag ?_ (Qk sG rfl (ag ?_ (ag ?_ (Qk sG rfl (ag ?_ (ag ?_ (Qk sG rfl (Qf sG (w.heap.size+1) 1 rfl rfl (aB) (fun _ _ _ _ hLd h=>yE (by decide) h)) (fun _ _ _ _ hLd h=>yE (by decide) h)))) (fun _ _ _ _ hLd h=>yE (by decide) h)))) (fun _ _ _ _ hLd h=>yE (by decide) h)))) (fun _ _ _ _ hLd h=>yE (by decide) h))) (fun _ _ _ _ hLd h=>yE (by decide) h)))) (fun _ _ _ _ hLd h=>yE (by decide) h)) (fun _ _ _ _ hLd h=>yE (by decide) h)) (fun _=>rfl) rfl ?_
 ·intro ρ y W L hw hn hLi hLd hb hd;have E32:=hw 32 1 rfl;have h1:y 1=_:=hd 1 rfl;refine eF (.slice (some ⟨W.heap.size,0,none⟩) f f) (ah rfl) ?_ (Wd hLi (ay _) hb) trivial;simp[execOp,go_sem,E32,h1,hmkF]
 ·intro ρ y W L hw hn hLi hLd hb hd;have E33:=hw 33 2 rfl;have h2:=hd 2 rfl;obtain⟨g,e2,_,_⟩:=hb.k2 (hLd 2 rfl);refine eF (.agg #[y 2,.int .i64 0]) (ah rfl) ?_ (Wn hLi (hLd 2 rfl) hb) trivial;rw[e2] at E33 ⊢;simp[execOp,go_sem,E33]
 ·intro ρ y W L hw hn hLi hLd hb hd;have E35:=hw 35 4 rfl;have h4:y 4=_:=hd 4 rfl;refine eF (.slice (some ⟨W.heap.size,0,none⟩) s s) (ah rfl) ?_ (We hLi (ay _) hb) trivial;simp[execOp,go_sem,E35,h4,hmkS]
 ·intro ρ y W L hw hn hLi hLd hb hd;have E37:=hw 37 6 rfl;have h6:y 6=_:=hd 6 rfl;refine eF (.slice (some ⟨W.heap.size,0,none⟩) s s) (ah rfl) ?_ (Wm hLi (ay _) hb) trivial;simp[execOp,go_sem,E37,h6,hmkW]
 ·intro ρ y W L hw hn hLi hLd hb hd;have E38:=hw 38 7 rfl;have h7:=hd 7 rfl;obtain⟨g,e2,_,_⟩:=hb.k7 (hLd 7 rfl);refine eF (.agg #[y 7,.slice none 0 0]) (ah rfl) ?_ (Wp hLi (hLd 7 rfl) hb) trivial;rw[e2] at E38 ⊢;simp[execOp,go_sem,E38]
 ·intro ρ y W L hw hn hLi hLd hb hd;have E40:=hw 40 9 rfl;have h9:y 9=_:=hd 9 rfl;refine eF (.slice (some ⟨W.heap.size,0,none⟩) ct ct) (ah rfl) ?_ (Vy hLi (ay _) hb) trivial;simp[execOp,go_sem,E40,h9,hmkD]
 ·intro ρ y W L hw hn hLi hLd hb hd;have E41:=hw 41 10 rfl;have h10:=hd 10 rfl;obtain⟨g,e2,_,_⟩:=hb.k10 (hLd 10 rfl);refine eF (.agg #[y 10,.slice none 0 0]) (ah rfl) ?_ (Vx hLi (hLd 10 rfl) hb) trivial;rw[e2] at E41 ⊢;simp[execOp,go_sem,E41]
 ·intro ρ y W L hw hn hLi hLd hb hd;refine eB sG (fun _ _ h=>yE (by decide) h) hb ?_;have E43:=hw 43 12 rfl;have h12:y 12=_:=hd 12 rfl;refine aj (.agg #[.slice none 0 0,.int .i64 (ct:Int)]) (ah rfl) (by simp[execOp,go_sem,E43,h12]) rfl
 ·intro ρ y W L hw hn hLi hLd hb hd;have E34:=hw 34 3 rfl;have h3:=hd 3 rfl;have E36:=hw 36 5 rfl;have h5:=hd 5 rfl;have E39:=hw 39 8 rfl;have h8:=hd 8 rfl;have E42:=hw 42 11 rfl;have h11:=hd 11 rfl;have E44:=hw 44 13 rfl;have h13:y 13=_:=hd 13 rfl;obtain⟨l2,e3⟩:=hb.k3 (hLd 3 rfl);obtain⟨l7,e8⟩:=hb.k8 (hLd 8 rfl);obtain⟨l10,e11⟩:=hb.k11 (hLd 11 rfl);obtain⟨g2,e2,_,_⟩:=hb.k2 l2;obtain⟨g5,e5,_,_⟩:=hb.k5 (hLd 5 rfl);obtain⟨g7,e7,_,_⟩:=hb.k7 l7;obtain⟨g10,e10,_,_⟩:=hb.k10 l10;refine eF (.agg #[y 2,.int .i64 0,y 5,y 7,.slice none 0 0,y 10,.slice none 0 0,.slice none 0 0,.int .i64 ct,.slice none 0 0,.slice none 0 0]) (ah rfl) ?_ (VQ (hLd 3 rfl) (hLd 5 rfl) (hLd 8 rfl) (hLd 11 rfl) hb) trivial;rw[e3,e2] at E34;rw[e5] at E36;rw[e8,e7] at E39;rw[e11,e10] at E42;rw[e2,e5,e7,e10];simp[execOp,go_sem,E34,E36,E39,E42,E44,h13]
 intro y W3 hbW3 hRW3;clear hRW3;obtain⟨⟨l3,l5,l8,l11⟩,e14⟩:=hbW3.k14 rfl;obtain⟨gf,e2,bf,kf⟩:=hbW3.k2 rfl;obtain⟨gs,e5,bs,ks⟩:=hbW3.k5 rfl;obtain⟨gw,e7,bw,kw⟩:=hbW3.k7 rfl;obtain⟨gd,e10,bd,kd⟩:=hbW3.k10 rfl;have hwd:gw≠gd:=TV kw kd (by rw[←e7,←e10];exact hbW3.ne rfl rfl);have mx3:=mx1.ext hbW3.be;have bx3:=bx1.ext hbW3.be;have hr3:=hr1.below hbW3.be;have hbe3:=Lib.hid (ae hb2.out hbW3.be);rw[e14,e2,e5,e7,e10];clear e14 e2 e5 e7 e10 hbW3 l3 l5 l8 l11 hmkF hmkS hmkW hmkD mx1 bx1 hr1 hb2
 go_wp2_with (refine aA rfl _ _ _ rfl (w.heap.size+1) 1 _ [.slice (some ⟨gf,0,none⟩) f f,.int .i64 0,.slice (some ⟨gs,0,none⟩) s s,.slice (some ⟨gw,0,none⟩) s s,.slice none 0 0,.slice (some ⟨gd,0,none⟩) ct ct,.slice none 0 0,.slice none 0 0,.int .i64 ct,.slice none 0 0,.slice none 0 0] rfl rfl rfl _ _ mx3 (by show 1+11≤13;omega) (by kernel_rfl) (by simp[Value.oneCell']) ?_)
 intro w4 hb4 hg4;have hk4:aC w4 (w.heap.size+1) (iQ ⟨al,cl,l,Um gf gs gw gd f s ct,none,0,[]⟩) 77:=by
  have e:iQ ⟨al,cl,l,Um gf gs gw gd f s ct,none,0,[]⟩=bA (iQ ⟨al,cl,l,noH,none,0,[]⟩) 1 [.slice (some ⟨gf,0,none⟩) f f,.int .i64 0,.slice (some ⟨gs,0,none⟩) s s,.slice (some ⟨gw,0,none⟩) s s,.slice none 0 0,.slice (some ⟨gd,0,none⟩) ct ct,.slice none 0 0,.slice none 0 0,.int .i64 ct,.slice none 0 0,.slice none 0 0]:=by unfold iQ Um noH;dsimp only;rw[jy,jy,jy,jy];kernel_rfl
  rw[e];exact hb4
 have hm4:dW w4 (w.heap.size+1) (w.heap.size+1) ⟨al,cl,l,Um gf gs gw gd f s ct,none,0,[]⟩:=
  Tw (hr3.keep (B:=w.heap.size+1) (fun a ha hl=>Nat.lt_succ_of_lt (hra.out a ha hl)) (qi mx3.lt) hg4 (ay _)) (fun a ha hl=>Nat.lt_succ_of_lt (hra.out a ha hl)) (ay _) hk4 hf40 hs60 hc80 (by omega) (by omega) (by omega) (by omega) hwd (zf:=vK fr0) (zs:=#[.int .i64 0]) (zp:=iq zPg) rfl rfl rfl
   (kf.grown hg4 (fun e=>by have:=aJ e;omega)) (ks.grown hg4 (fun e=>by have:=aJ e;omega)) (kw.grown hg4 (fun e=>by have:=aJ e;omega)) (kd.grown hg4 (fun e=>by have:=aJ e;omega))
 have bx4:aC w4 w.heap.size (dD noH) 41:=bx3.grown hg4 (fun e=>by have:=aJ e;omega);have hbe4:Hid (Below w.heap.size w w4):=Lib.hid (hbe3.out.grown hg4 (aX (by omega) (qi mx3.lt)) (fun k hk=>by cases hk;omega));have hszl4:w.heap.size+2≤w4.heap.size:=hk4.lt;clear kf ks kw kd mx3 bx3 hr3 hbe3 hb4 hg4 hk4 bf bs bw bd hwd hra hb1z;generalize hb' : w.heap.size+1=b at hm4 hszl4 ⊢;have hbb:=Lib.hid hb';clear hb';obtain⟨S3,hS3⟩:∃S3,S3=(⟨al,cl,l,Um gf gs gw gd f s ct,none,0,[]⟩:MW):=⟨_,rfl⟩;have hS3':=Lib.hid hS3;rw[←hS3] at hm4;have hc:=hm4.blk.cell;unfold iQ at hc;have hfl:S3.H.m.fs.length=f:=by rw[hS3];exact jy
 rw[hfl] at hc;clear hfl;have hm4q:dW w4 b b (S3.frs (Av f 0)):=by
  have e:S3.frs (Av f 0)=S3:=by rw[hS3];rfl
  rw[e];exact hm4
 have hs4q:MS w4 b S3 w4 (S3.frs (Av f 0)):=(MS.refl w4 b S3).same rfl;have hnb4:Hid (¬mE b S3 w.heap.size):=Lib.hid (fun hk=>by have h1:=(hm4.kb_own hk).1;have h2:=hbb.out;omega);have hto:Hid (∀w' S',MS w4 b S3 w' S'→Below b w4 w'):=Lib.hid (fun w' S' h=>MS.to hm4 h (ay b));clear hS3 hm4;have bx4':=Lib.hid bx4;clear bx4;go_upto_region 5 with (fail)
 go_loopw [55] (fun k wr => ∃q:Nat,q≤f∧k = .int .i64 q∧dW wr b b (S3.frs (Av f q))∧MS w4 b S3 wr (S3.frs (Av f q))) (fun k _=>f-(intOf k).toNat)
 case atStart=>exact⟨0,aS _,rfl,hm4q,hs4q⟩
 case round=>
  clear hm4q hs4q;obtain⟨q,hq,rfl,hm,hs⟩:=hrel
  by_cases hqf:q<f
  ·have hqi:(q:Int)<(f:Int):=by omega
   have hlq:(Av f q).length=f:=Gg hq;have hc:=hm.blk.cell;unfold iQ at hc;dsimp only[MW.frs] at hc;rw[hlq] at hc;obtain⟨g,off,cap,cur,hv,hgB,hg,hgs,hgc,hgw⟩:=hm.ma.fr.put eZ (by decide) q (by show q<(Av f q).length;omega);have haf:S3.H.af=some ⟨g,off,none⟩:=(nQ hv).1;have hcur:Hid (∀j u,(pO fr0)[j]?=some u→cur[off+q*13+j]?=some u):=Lib.hid fun j u hj=>by have e:(S3.frs (Av f q)).H.m.fs[q]'(by show q<(Av f q).length;omega)=fr0:=Tn hqf (by omega);have:=hgc j u (by rw[e];exact hj);rw[hg.cell] at this;exact this
   rw[haf] at hc;have hgw':=Lib.hid hgw;have hlq':=Lib.hid hlq;have haf':=Lib.hid haf;clear hv hgc hgw hlq haf
   go_wp2_with (refine aA rfl _ _ _ rfl g (off+q*13+11) _ [.int .i64 (-1)] rfl rfl rfl _ _ hg (by show off+q*13+11+1≤cur.size;omega) (by kernel_rfl) (fun u hu=>by cases bq.1 hu;rfl) ?_)
   intro w5 hb5 hg5;rw[Uj hgs hcur.out] at hb5;have ho:=hgw'.out _ _ hb5;have hset:(S3.frs (Av f q)).H.m.fs.set q frZ=Av f (q+1):=TB hqf;have hlen:(Av f (q+1)).length=(Av f q).length:=by rw[Gg (by omega),Gg hq]
   rw[hset] at ho;have hm5:dW w5 b b (S3.frs (Av f (q+1))):=hm.putF hg hgB hg5 (fs:=Av f (q+1)) hlen (by rw[hlen];exact ho);have hs5:MS w4 b S3 w5 (S3.frs (Av f (q+1))):=hs.put hg5 (.inr (by show some g∈gV S3;unfold gV;rw[haf'.out];exact gL)) (fun x hx => .inl hx);clear hm hs hg hgs hb5 hg5 hc ho hset hlen;go_wp2;go_roundw
   case rel=>exact⟨q+1,by omega,by go_num,hm5,hs5⟩
   case measure=>simp[intOf];omega
  have hqi:¬(q:Int)<(f:Int):=by omega
  have hqe:f=q:=by omega
  subst hqe;rw[Tg] at hm hs
  go_wp2_with fail
  refine (fo _ 3 b b _ hm (by omega)).mono ?_;rintro r w5 ⟨N,a5,c5,l5,rfl,hm5,hs5,hN,hN0⟩;have hs5:=hs.trans hs5;have hl5:Hid (l=[]→N=0∧l5=[]):=Lib.hid fun e=>hN0 (by show S3.l=[];rw[hS3'.out];exact e);have hF5:GX f s ct S3.H.asl ((S3.frs (List.replicate f frZ)).lst a5 c5 l5).H.fi (List.replicate ct zPg) [] ((S3.frs (List.replicate f frZ)).lst a5 c5 l5):=by rw[hS3'.out];exact⟨rfl,rfl,rfl,rfl,rfl,rfl,rfl,rfl,rfl,rfl⟩
  have hfi5:((S3.frs (List.replicate f frZ)).lst a5 c5 l5).H.fi=[]:=by rw[hS3'.out];rfl
  have hls5:Hid (l=[]→((S3.frs (List.replicate f frZ)).lst a5 c5 l5).l=[]):=Lib.hid fun e=>(hl5.out e).2;obtain⟨N,rfl⟩:=fE hN.1;have hN2:N≤2:=by omega
  clear hm hs hN hN0 hqf hqi hq;generalize (S3.frs (List.replicate f frZ)).lst a5 c5 l5=S5 at hm5 hs5 hF5 hfi5 hls5;go_upto_region 10 with (fail)
  go_loopw [70] (fun k wr => ∃(q:Nat) (S:MW) (bk:List Page) (qu:List (Int × Page)),q≤N∧k = .int .i64 q∧dW wr b b S∧MS w4 b S3 wr S∧Hid (GX f s ct S3.H.asl S.H.fi bk qu S∧Fb ct bk qu (S.H.fi.map PF.fi) []∧S.H.fi.length=q∧(q=0→bk=List.replicate ct zPg∧qu=[]∧(l=[]→S.l=[])))) (fun k _=>N-(intOf k).toNat)
  case atStart=>exact⟨0,S5,_,_,aS _,rfl,hm5,hs5,Lib.hid ⟨hF5,by rw[hfi5];exact Fb.start hc80,by rw[hfi5];rfl,fun _=>⟨rfl,rfl,hls5.out⟩⟩⟩
  case round=>
   clear hm5 hs5 hF5 hfi5 hls5;obtain⟨q,S,bk,qu,hq,rfl,hm,hs,hI⟩:=hrel;obtain⟨fi0,hfi0⟩:∃fi0,S.H.fi=fi0:=⟨_,rfl⟩;rw[hfi0] at hI;clear hfi0;have hl0q:Hid (fi0.length=q):=Lib.hid hI.out.2.2.1;have hl0:Hid (fi0.length≤2):=Lib.hid (by have:=hI.out.2.2.1;omega)
   by_cases hqN:q<N
   ·have hqi:(q:Int)<(N:Int):=by omega
    go_wp2_with fail
    refine (fo _ 40 b b _ hm (by omega)).mono ?_;rintro r w6 ⟨x,a6,c6,l6,rfl,hm6,hs6,hx,_⟩;have hs6:=hs.trans hs6;have hF6:Hid (GX f s ct S3.H.asl fi0 bk qu (S.lst a6 c6 l6)):=Lib.hid (hI.out.1.lst _ _ _);have hx1:0≤x∧x<40:=by omega
    obtain⟨C,hC⟩:∃C:Nat,dZ x=C:=⟨(dZ x).toNat,by unfold dZ;split<;>omega⟩;have hC5:C≤5:=by unfold dZ at hC;split at hC<;>omega
    have hC':=Lib.hid hC;clear hm hs hx hC;generalize S.lst a6 c6 l6=S6 at hm6 hs6 hF6
    go_wp2_with (refine aI rfl _ _ _ rfl (pE ⟨x,none,[],0⟩) rfl rfl rfl file_size (oU _) ?_)
    intro w7 hb7 fx7;have hm7:=hm6.below hb7;have hs67:=(MS.refl w6 b S6).below hb7;have hnf:Hid (¬mE b S6 w6.heap.size):=Lib.hid (hm6.new (ay _));have hgB:b≤w6.heap.size:=hm6.bs;have hgB':=Lib.hid hgB;clear hm6 hb7;generalize hg60:w6.heap.size=gf0 at hnf hgB fx7 ⊢;have hg6:Hid (w6.heap.size≤gf0):=Lib.hid (Cv hg60);clear hg60;have hcf:=fx7.cell;unfold pE at hcf
    go_wp2_with fail
    refine (xP x _ (by omega)).mono ?_;rintro r w8 ⟨rfl,rfl⟩;rw[hC'.out];clear hcf;have hnp6:∀p∈fi0,True:=fun _ _=>trivial;clear hnp6;go_upto_region 13 with (fail)
    go_loopw [78] (fun k wr => ∃(i:Nat) (S:MW) (bk:List Page) (qu:List (Int × Page)) (xs:List Int) (xa:Option Addr) (xc:Nat),i≤C∧k = .int .i64 i∧dW wr b b S∧MS w6 b S6 wr S∧Hid (¬mE b S gf0)∧Hid (GX f s ct S3.H.asl fi0 bk qu S∧Fb ct bk qu (fi0.map PF.fi) xs∧xs.length=i)∧aC wr gf0 (pE ⟨x,xa,xs,xc⟩) 67 ∧
     Hid (Own wr b 3 1 (mP ⟨x,xa,xs,xc⟩) xs.length (xs.map fM)∧∀g,oB xa=some g→w6.heap.size≤g∧oB S3.H.asl≠some g∧∀p∈fi0,oB p.a≠some g)) (fun k _=>C-(intOf k).toNat)
    case atStart=>exact⟨0,S6,bk,qu,[],none,0,aS _,rfl,hm7,hs67,hnf,Lib.hid ⟨hF6.out,hI.out.2.1,rfl⟩,fx7,Lib.hid ⟨Own.nil _ _ _ _,fun g hg=>(by cases hg)⟩⟩
    case round=>
     clear hm7 fx7 hI hF6 hs67 hnf;obtain⟨i,S,bk,qu,xs,xa,xc,hi,rfl,hm,hs,hkf',hI,fx,ho⟩:=hrel
     by_cases hiC:i<C
     ·have hii:(i:Int)<(C:Int):=by omega
      go_upto_region 16 with (fail);have hkx:∀g,(mP ⟨x,xa,xs,xc⟩).ownBlock=some g→¬mE b S g:=fun g hg=>by obtain⟨cs,hk⟩:=kM ho.out.1 g hg;refine hm.kb_int hk ?_;rw[hI.out.1.asl];exact (ho.out.2 g (by unfold mP at hg;rw[lI] at hg;exact hg)).2.1
      have hkx':=Lib.hid hkx;clear hkx
      go_cut [14] (fun s14 wx => ∃(n:Nat) (a:Option Addr) (c:Nat) (l:List UInt8),s14 = .int .i64 n∧n<256∧dW wx b b (S.lst a c l)∧MS wr b S wx (S.lst a c l)∧aC wx gf0 (pE ⟨x,xa,xs,xc⟩) 67∧Hid (Own wx b 3 1 (mP ⟨x,xa,xs,xc⟩) xs.length (xs.map fM)))
      case first=>
       go_wp2_with fail
       all_goals
        refine (fo S _ b b _ hm (by omega)).mono ?_;rintro r w8 ⟨n,a8,c8,l8,rfl,hm8,hs8,hn,_⟩;obtain⟨n,rfl⟩:=fE hn.1;have hn256:(n:Int)<256:=hn.2.1;have fx8:=hs8.blkN fx hkf'.out;have ho8:Hid (Own w8 b 3 1 (mP ⟨x,xa,xs,xc⟩) xs.length (xs.map fM)):=Lib.hid (hs8.ownN ho.out.1 hkx'.out);clear hm fx hn;go_wp2;go_meet
        case rel=>exact⟨n,a8,c8,l8,rfl,by omega,hm8,hs8,fx8,ho8⟩
      case rest=>
      obtain⟨n,a8,c8,l8,rfl,hn256,hm8,hs8,fx8,ho8'⟩:=hcut;have ho8:Hid (Own wc b 3 1 (mP ⟨x,xa,xs,xc⟩) xs.length (xs.map fM)∧∀g,oB xa=some g→w6.heap.size≤g∧oB S3.H.asl≠some g∧∀p∈fi0,oB p.a≠some g):=Lib.hid ⟨ho8'.out,ho.out.2⟩;clear ho8';have hF8:Hid (GX f s ct S3.H.asl fi0 bk qu (S.lst a8 c8 l8)∧Fb ct bk qu (fi0.map PF.fi) xs∧xs.length=i):=Lib.hid ⟨hI.out.1.lst _ _ _,hI.out.2⟩;have hs8:=hs.trans hs8;have hkf8:Hid (¬mE b (S.lst a8 c8 l8) gf0):=hkf';have hkx8:Hid (∀g,(mP ⟨x,xa,xs,xc⟩).ownBlock=some g→¬mE b (S.lst a8 c8 l8) g):=hkx';clear hm hs hI fx ho hkf' hkx';generalize S.lst a8 c8 l8=S8 at hm8 hs8 hF8 hkf8 hkx8;go_upto_region 17 with (fail)
      go_cut [109] (fun s109 wx => ∃(β:Bool) (a:Option Addr) (c:Nat) (l:List UInt8),s109 = .bool β∧dW wx b b (S8.lst a c l)∧MS wc b S8 wx (S8.lst a c l)∧aC wx gf0 (pE ⟨x,xa,xs,xc⟩) 67∧Hid (Own wx b 3 1 (mP ⟨x,xa,xs,xc⟩) xs.length (xs.map fM))∧Hid (β=true→n<ct∧¬(n:Int)∈(fi0.map PF.fi).flatMap Fi.b++xs))
      case first=>
       have hgf8:gf0<wc.heap.size:=fx8.lt;have hl8:S8.H.fi.length≤5:=by have e1:=hF8.out.1.fi;have e2:=hl0.out;rw[e1];omega
       by_cases hnc:n<ct
       ·have hdn:(n:Int)<(ct:Int):=by omega
        cases hu:gD (bZ (S8.H.fi++[(⟨x,xa,xs,xc⟩:PF)]) 0) (n:Int)
        case' true=>
         refine gH 25 [_,_,_,_,.r 4 ((bX fun _=>True)),_,_,_,_,_,.v (.slice S8.H.ai S8.H.fi.length S8.H.ci),.r 11 ((bX fun _=>True)),.v (.agg (pE ⟨x,xa,xs,xc⟩)),.r 13 ((bX fun _=>True)),.r 14 ((bX fun _=>True)),.r 15 ((bX fun _=>True)),_,.v (.bool true),_,_,_,_,_,_,.v (.bool false)] (ED S8 b b wc gf0 ⟨x,xa,xs,xc⟩) dK (fun y=>UB hm8 fx8 ho8.out.1 y) (Qk dK rfl (Qk dK rfl (Qb dK (.bool true) (by simp[go_sem,hdn]) rfl rfl rfl rfl rfl (Qk dK rfl (ag ?u1_1 (Qk dK rfl (Qk dK rfl (Qf dK b 1 rfl rfl (Qf dK b 8 rfl rfl (Qf dK b 8 rfl rfl (ag ?u1_2 (ag ?u1_3 (ag ?u1_4 (ag ?u1_5 (ag ?u1_6 (ag ?u1_7 (Qk dK rfl (ag ?u1_8 (Qk dK rfl (Qk dK rfl (Qk dK rfl (Qk dK rfl (Qk dK rfl (Qk dK rfl (Qk dK rfl (aB) (fun _ _ _ _ hLd h=>eG (by decide) h)) (fun _ _ _ _ hLd h=>eG (by decide) h)) (fun _ _ _ _ hLd h=>eG (by decide) h)) (fun _ _ _ _ hLd h=>eG (by decide) h)) (fun _ _ _ _ hLd h=>eG (by decide) h)) (fun _ _ _ _ hLd h=>eG (by decide) h)) (fun _ _ _ _ hLd h=>eG (by decide) h))) (fun _ _ _ _ hLd h=>eG (by decide) h)))))))) (fun _ _ _ _ hLd h=>eG (by decide) h)) (fun _ _ _ _ hLd h=>eG (by decide) h)) (fun _ _ _ _ hLd h=>eG (by decide) h)) (fun _ _ _ _ hLd h=>eG (by decide) h)) (fun _ _ _ _ hLd h=>eG (by decide) h))) (fun _ _ _ _ hLd h=>eG (by decide) h)) (fun _ _ _ _ hLd h=>eG (by decide) h)) (fun _ _ _ _ hLd h=>eG (by decide) h)) (fun _ _ _ _ hLd h=>eG (by decide) h)) (fun _=>rfl) rfl ?u1_9
        case' false=>
         refine gH 25 [_,_,_,_,.r 4 ((bX fun _=>True)),_,_,_,_,_,.v (.slice S8.H.ai S8.H.fi.length S8.H.ci),.r 11 ((bX fun _=>True)),.v (.agg (pE ⟨x,xa,xs,xc⟩)),.r 13 ((bX fun _=>True)),.r 14 ((bX fun _=>True)),.r 15 ((bX fun _=>True)),_,.v (.bool false),_,_,_,_,.r 22 ((bX fun v => ∃x:Int,v = .int .i64 x)),.r 23 ((bX fun v => ∃u,v = .bool u)),.r 24 ((bX fun v => ∃u,v = .bool u))] (ED S8 b b wc gf0 ⟨x,xa,xs,xc⟩) dK (fun y=>UB hm8 fx8 ho8.out.1 y) (Qk dK rfl (Qk dK rfl (Qb dK (.bool true) (by simp[go_sem,hdn]) rfl rfl rfl rfl rfl (Qk dK rfl (ag ?v1_1 (Qk dK rfl (Qk dK rfl (Qf dK b 1 rfl rfl (Qf dK b 8 rfl rfl (Qf dK b 8 rfl rfl (ag ?v1_2 (ag ?v1_3 (ag ?v1_4 (ag ?v1_5 (ag ?v1_6 (ag ?v1_7 (Qk dK rfl (ag ?v1_8 (Qk dK rfl (Qk dK rfl (Qk dK rfl (Qk dK rfl (ag ?v1_9 (ag ?v1_10 (ag ?v1_11 (aB)))) (fun _ _ _ _ hLd h=>eG (by decide) h)) (fun _ _ _ _ hLd h=>eG (by decide) h)) (fun _ _ _ _ hLd h=>eG (by decide) h)) (fun _ _ _ _ hLd h=>eG (by decide) h))) (fun _ _ _ _ hLd h=>eG (by decide) h)))))))) (fun _ _ _ _ hLd h=>eG (by decide) h)) (fun _ _ _ _ hLd h=>eG (by decide) h)) (fun _ _ _ _ hLd h=>eG (by decide) h)) (fun _ _ _ _ hLd h=>eG (by decide) h)) (fun _ _ _ _ hLd h=>eG (by decide) h))) (fun _ _ _ _ hLd h=>eG (by decide) h)) (fun _ _ _ _ hLd h=>eG (by decide) h)) (fun _ _ _ _ hLd h=>eG (by decide) h)) (fun _ _ _ _ hLd h=>eG (by decide) h)) (fun _=>rfl) rfl ?v1_12
        case u1_1|v1_1=>
         intro ρ y W L hw hn hLi hLd hb hd;refine eF (.slice (some ⟨W.heap.size,0,none⟩) 0 0) (aY 3 88 true true rfl rfl ((hw 88 3 rfl).trans (hd 3 rfl))) ?_ (VU hb) trivial;simp[execOp,go_sem]
        case u1_2|v1_2=>
         intro ρ y W L hw hn hLi hLd hb hd;refine eB dK (fun _ _ h=>eG (by decide) h) hb ?_;have E94:=hw 94 9 rfl;have h9:y 9=_:=hd 9 rfl;obtain⟨⟨a0,c0,l0,m1,m2⟩,m3⟩:=hb;refine aj (.slice S8.H.ai S8.H.fi.length S8.H.ci) (aY 3 88 true true rfl rfl ((hw 88 3 rfl).trans (hd 3 rfl))) (by simp[execOp,go_sem,E94,h9,m1.blk.cell,iQ,MW.lst]) rfl
        case u1_3|v1_3=>
         intro ρ y W L hw hn hLi hLd hb hd;have E89:=hw 89 4 rfl;have h4:=hd 4 rfl;have E95:=hw 95 10 rfl;have h10:y 10=_:=hd 10 rfl;obtain⟨g,hg1,hg2⟩:=hb.2.2.2.1 (hLd 4 rfl) hLi;have hsz:=hb.2.2.2.2.2.2.2.1;obtain⟨a0,c0,l0,m1,m2⟩:=hb.1;have m3:Ll W S8.H.ai S8.H.ci S8.H.fi:=m1.ma.rd.st;refine kS (aY 3 88 true true rfl rfl ((hw 88 3 rfl).trans (hd 3 rfl))) (JW _ _ _ rfl wc.heap.size 67 _ 2 32 underlying35 file_info rfl (by decide) g (E89.trans hg1) hg2 S8.H.ai S8.H.fi.length S8.H.ci (S8.H.fi.flatMap pY) (E95.trans h10) m3.nl m3.le (by rw[Pw.flat_len pY 2 jq]) m3.rd (by unfold maxLen;omega) (by omega) hsz) (fun v W1 h=>Vs hb h.1 h.2) (fun _ _ _=>trivial)
        case u1_4|v1_4=>
         intro ρ y W L hw hn hLi hLd hb hd;refine eB dK (fun _ _ h=>eG (by decide) h) hb ?_;have E11:ρ (.tmp 11) = .pointer (some ⟨gf0,0,none⟩):=(hn (.tmp 11) rfl).trans rfl;have m3:=hb.2.1;refine aj (.agg (pE ⟨x,xa,xs,xc⟩)) (aY 3 88 true true rfl rfl ((hw 88 3 rfl).trans (hd 3 rfl))) (dx rfl E11 m3 underlying67 rfl file_size) rfl
        case u1_5|v1_5=>
         intro ρ y W L hw hn hLi hLd hb hd;have E97:=hw 97 12 rfl;have h12:y 12=_:=hd 12 rfl;have hsz:=hb.2.2.2.2.2.2.2.1;refine eF (.slice (some ⟨W.heap.size,0,none⟩) 1 1) (aY 3 88 true true rfl rfl ((hw 88 3 rfl).trans (hd 3 rfl))) ?_ (UI (W':=W.alloc (.cells (pE ⟨x,xa,xs,xc⟩) 67)) hb ((Below.refl _ _).alloc (ay _) _) (TI hsz _)) trivial;simp[execOp,go_sem,E97.trans h12,pE]
        case u1_6|v1_6=>
         intro ρ y W L hw hn hLi hLd hb hd;have E96:=hw 96 11 rfl;have h11:=hd 11 rfl;have E98:=hw 98 13 rfl;have h13:=hd 13 rfl;have hsz:=hb.2.2.2.2.2.2.2.1;have hv:=hb.2.2.2.2.1 (hLd 11 rfl) hLi;obtain⟨a,e,hx1,k1,k2,k3,k4⟩:=(hb.2.2.2.2.2.1 (hLd 13 rfl) hLi).rd;refine kS (aY 3 88 true true rfl rfl ((hw 88 3 rfl).trans (hd 3 rfl))) (pz _ _ _ rfl wc.heap.size 67 _ 2 32 underlying35 file_info rfl (by decide) (y 11) S8.H.fi.length _ E96 hv a 1 e (pY ⟨x,xa,xs,xc⟩) (E98.trans hx1) k3 k1 rfl k4 (bR (oU _)) (by unfold maxLen;omega) (by omega) hsz) (fun v W1 h=>Ve hm8 hgf8 hb (hLd 11 rfl) hLi h.2.1 h.1) (fun _ _ _=>trivial)
        case u1_7|v1_7=>
         intro ρ y W L hw hn hLi hLd hb hd;have E99:=hw 99 14 rfl;have h14:=hd 14 rfl;obtain⟨a,c,e14,_⟩:=MZ hb (hLd 14 rfl);refine eF (.agg #[y 14,.int .i64 0]) (aY 3 88 true true rfl rfl ((hw 88 3 rfl).trans (hd 3 rfl))) ?_ (Vg (hLd 14 rfl) hb) trivial;rw[e14] at E99 ⊢;simp[execOp,go_sem,E99]
        case u1_8|v1_8=>
         intro ρ y W L hw hn hLi hLd hb hd;have E100:=hw 100 15 rfl;have h15:=hd 15 rfl;have E101:=hw 101 16 rfl;have h16:y 16=_:=hd 16 rfl;have EF:∀f,ρ (.func f) = .func (.func f) #[] #[]:=fun f=>hn (.func f) trivial;obtain⟨l14,e15⟩:=hb.2.2.2.2.2.2.2.2 (hLd 15 rfl);obtain⟨a,c,e14,hFs⟩:=MZ hb l14;rw[e15,e14] at E100;refine gJ _ _ (aY 3 88 true true rfl rfl ((hw 88 3 rfl).trans (hd 3 rfl))) (aQ rfl (EF _) func32 (by kernel_rfl) (by kernel_rfl) (by simp only[bP,bM,bN,E100,E101,h16,EF];rfl)) ?_;have hus:=Ay (S8.H.fi++[⟨x,xa,xs,xc⟩]) 0 n a c W hFs;unfold Ox at hus;rw[hu] at hus;refine hus.mono ?_;rintro r w1 ⟨hr1,hb1⟩;exact⟨_,hr1,eG (by decide) (dK _ _ _ _ hb1 hb),rfl⟩
        case u1_9=>
         intro y W9 hbW9 hRW9;clear hRW9;have hbJ:=hbW9.1;obtain⟨a9,c9,l9,hm9,hs9⟩:=hbJ;have fx9:=hbW9.2.1;have ho9:=Lib.hid hbW9.2.2.1;clear hbW9 hm8 hs8 fx8 ho8;go_wp2;go_meet
         case rel=>exact⟨false,a9,c9,l9,rfl,hm9,hs9,fx9,ho9,Lib.hid fun e=>(by cases e)⟩
        case v1_9=>
         intro ρ y W L hw hn hLi hLd hb hd;have E106:=hw 106 21 rfl;have h21:y 21=_:=hd 21 rfl;have EC:∀v,ρ (.const v)=v:=fun v=>hn (.const v) trivial;have EF:∀f,ρ (.func f) = .func (.func f) #[] #[]:=fun f=>hn (.func f) trivial;refine gJ _ _ (aY 20 105 true true rfl rfl ((hw 105 20 rfl).trans (hd 20 rfl))) (aQ rfl (EF _) func30 (by kernel_rfl) (by kernel_rfl) (by simp only[bP,bM,bN,E106,h21,EC,EF];rfl)) ?_;exact QY (by decide) hm8 hkf8.out hkx8.out 3 (by omega) hb fun x _ _ _=>⟨x,rfl⟩
        case v1_10=>
         intro ρ y W L hw hn hLi hLd hb hd;refine eB dK (fun _ _ h=>eG (by decide) h) hb ?_;have E107:=hw 107 22 rfl;have h22:=hd 22 rfl;obtain⟨x,hx⟩:=h22;refine aj _ (aY 20 105 true true rfl rfl ((hw 105 20 rfl).trans (hd 20 rfl))) (oO rfl (E107.trans hx) (hn (.const _) trivial) (by simp[go_sem];rfl)) ⟨_,rfl⟩
        case v1_11=>
         intro ρ y W L hw hn hLi hLd hb hd;refine eB dK (fun _ _ h=>eG (by decide) h) hb ?_;have E105:=hw 105 20 rfl;have h20:y 20=_:=hd 20 rfl;have E108:=hw 108 23 rfl;have h23:=hd 23 rfl;obtain⟨u,hu9⟩:=h23;refine aj (.bool u) (ah rfl) (pJ rfl (E105.trans h20) (by simpa using E108.trans hu9)) ⟨_,rfl⟩
        case v1_12=>
         intro y W9 hbW9 hRW9;have hy22:((bX fun v => ∃x:Int,v = .int .i64 x)).r (y 22) W9:=hRW9 22 (by decide);have hy23:((bX fun v => ∃u,v = .bool u)).r (y 23) W9:=hRW9 23 (by decide);have hy24:((bX fun v => ∃u,v = .bool u)).r (y 24) W9:=hRW9 24 (by decide);clear hRW9;have hbJ:=hbW9.1;obtain⟨a9,c9,l9,hm9,hs9⟩:=hbJ;have fx9:=hbW9.2.1;have ho9:=Lib.hid hbW9.2.2.1;obtain⟨β,hβ⟩:=hy24;rw[hβ];clear hbW9 hm8 hs8 fx8 ho8 hβ;have hnu:Hid (n<ct∧¬(n:Int)∈(fi0.map PF.fi).flatMap Fi.b++xs):=Lib.hid ⟨hnc,fun hmem=>by
          have e1:=hF8.out.1.fi;unfold gD at hu;rw[zG,e1] at hu;have h2:¬(n:Int)∈vJ (fi0++[(⟨x,xa,xs,xc⟩:PF)]):=of_decide_eq_false hu;refine h2 ?_;unfold vJ;rw[eT];rcases fJ.1 hmem with h3|h3
          ·rw[Cg] at h3;exact oM _ h3
          ·exact sU _ (by simpa using h3)⟩
         go_wp2;go_meet
         case rel=>exact⟨β,a9,c9,l9,rfl,hm9,hs9,fx9,ho9,Lib.hid fun _=>hnu.out⟩
       have hdn:¬(n:Int)<(ct:Int):=by omega
       refine aK 25 [_,_,_,_,_,_,_,_,_,_,_,_,_,_,_,_,_,_,_,_,_,_,_,_,.v (.bool false)] (Gk rfl (Gk rfl (Gb (.bool false) (by simp[go_sem,hdn]) rfl rfl rfl rfl rfl (Gk rfl (Gk rfl (Gk rfl (Gk rfl (Gk rfl (Gk rfl (Gk rfl (Gk rfl (Gk rfl (Gk rfl (Gk rfl (Gk rfl (Gk rfl (Gk rfl (Gk rfl (Gk rfl (Gk rfl (Gk rfl (Gk rfl (Gk rfl (Gk rfl (Gk rfl (aB)))))))))))))))))))))))))) (fun _=>rfl) rfl ?_;intro y W9 hbW9 _;have hm9:=hm8.below hbW9;have hs9:=(MS.refl wc b S8).below hbW9;have fx9:=fx8.ext hbW9;have ho9:=Lib.hid (ho8.out.1.below hbW9);clear hbW9 hm8 fx8 ho8;go_wp2;go_meet
       case rel=>exact⟨false,S8.al,S8.cl,S8.l,rfl,hm9,hs9,fx9,ho9,Lib.hid fun e=>(by cases e)⟩
      case rest=>
      obtain⟨β,a9,c9,l9,rfl,hm9,hs9,fx9,ho9,hβ⟩:=hcut;have hap:=Lib.hid ho8.out.2;have hs9:=hs8.trans hs9;have hF9:Hid (GX f s ct S3.H.asl fi0 bk qu (S8.lst a9 c9 l9)∧Fb ct bk qu (fi0.map PF.fi) xs∧xs.length=i):=Lib.hid ⟨hF8.out.1.lst _ _ _,hF8.out.2⟩;have hkf9:Hid (¬mE b (S8.lst a9 c9 l9) gf0):=hkf8;have hkx9:Hid (∀g,(mP ⟨x,xa,xs,xc⟩).ownBlock=some g→¬mE b (S8.lst a9 c9 l9) g):=hkx8;clear hm8 hs8 hF8 fx8 ho8 hkf8 hkx8;generalize S8.lst a9 c9 l9=S9 at hm9 hs9 hF9 hkf9 hkx9;go_upto_if 109 with (fail);have hF8l:Hid (xs.length=i):=Lib.hid hF9.out.2.2;have hF10l:Hid (xs.length≤C):=Lib.hid (by have:=hF9.out.2.2;omega)
      go_cut [13] (fun s13 wx => ∃(v:Int) (S:MW) (bk:List Page) (qu:List (Int × Page)),s13 = .int .i64 v∧dW wx b b S∧MS w6 b S6 wx S∧Hid (¬mE b S gf0)∧Hid (GX f s ct S3.H.asl fi0 bk qu S∧Fb ct bk qu (fi0.map PF.fi) (xs++[v]))∧aC wx gf0 (pE ⟨x,xa,xs,xc⟩) 67∧Hid (Own wx b 3 1 (mP ⟨x,xa,xs,xc⟩) xs.length (xs.map fM)))
      case first=>
       cases β with
       | false=>
        go_wp2;go_meet
        case rel=>exact⟨-1,S9,bk,qu,rfl,hm9,hs9,hkf9,Lib.hid ⟨hF9.out.1,hF9.out.2.1.none⟩,fx9,ho9⟩
       | true=>
        have hnn:=Lib.hid (hβ.out rfl);clear hβ
        go_wp2_with fail
        refine (wM S9 b b _ hm9).mono ?_;rintro r w10 ⟨P,a10,c10,l10,rfl,hm10,hs10⟩;have fx10:=hs10.blkN fx9 hkf9.out;have ho10:Hid (Own w10 b 3 1 (mP ⟨x,xa,xs,xc⟩) xs.length (xs.map fM)):=Lib.hid (hs10.ownN ho9.out hkx9.out);have hs10:=hs9.trans hs10;have hF10:Hid (GX f s ct S3.H.asl fi0 bk qu (S9.lst a10 c10 l10)∧Fb ct bk qu (fi0.map PF.fi) xs∧xs.length=i):=Lib.hid ⟨hF9.out.1.lst _ _ _,hF9.out.2⟩;have hkf10:Hid (¬mE b (S9.lst a10 c10 l10) gf0):=hkf9;have hkx10:Hid (∀g,(mP ⟨x,xa,xs,xc⟩).ownBlock=some g→¬mE b (S9.lst a10 c10 l10) g):=hkx9;clear hm9 hs9 hF9 fx9 ho9 hkf9 hkx9;generalize S9.lst a10 c10 l10=S10 at hm10 hs10 hF10 hkf10 hkx10
        go_wp2_with (refine aI rfl _ _ _ rfl (iq P) rfl rfl rfl psize (ja P) ?_)
        intro w11 hb11 px11;have hm11:=hm10.below hb11;have hs11:=hs10.below hb11;have fx11:=fx10.ext hb11;have ho11:Hid (Own w11 b 3 1 (mP ⟨x,xa,xs,xc⟩) xs.length (xs.map fM)):=Lib.hid (ho10.out.below hb11);have hnp:=Lib.hid (hm10.new (ay _));have hp0:=Lib.hid hs10.size;have hpB:b≤w10.heap.size:=hm10.bs;have hpf:Hid (w10.heap.size≠gf0):=Lib.hid (fun e=>by have:=fx10.lt;omega);clear hm10 hs10 fx10 ho10 hb11;generalize w10.heap.size=gp at *
        go_upto_region 21 with (fail)
        go_loopw [113] (fun j wr => ∃k:Nat,k≤8∧j = .int .i64 k∧dW wr b b S10∧MS w6 b S6 wr S10∧aC wr gp (iq (iN P (x-(i:Int)*8) k)) 79∧aC wr gf0 (pE ⟨x,xa,xs,xc⟩) 67∧Hid (Own wr b 3 1 (mP ⟨x,xa,xs,xc⟩) xs.length (xs.map fM))) (fun j _=>8-(intOf j).toNat)
        case atStart=>exact⟨0,by omega,rfl,hm11,hs11,by rw[show iN P (x-(i:Int)*8) 0=P from by ext j hj;simp[iN]];exact px11,fx11,ho11⟩
        case round=>
         clear hm11 hs11 px11 fx11 ho11;obtain⟨k,hk,rfl,hm,hs,px,fx,ho⟩:=hrel
         by_cases hk8:k<8
         ·have hki:(k:Int)<8:=by omega
          have hcf:=fx.cell;unfold pE at hcf;have hw1:IntKind.i64.wrap (8*(i:Int))=8*(i:Int):=bJ _ (by omega);have hw2:IntKind.i64.wrap (8*(i:Int)+(k:Int))=8*(i:Int)+(k:Int):=bJ _ (by omega)
          by_cases hge:x≤8*(i:Int)+k
          ·have hset:Hid ((iq (iN P (x-(i:Int)*8) k)).setIfInBounds k (.int .u8 0)=iq (iN P (x-(i:Int)*8) (k+1))):=Lib.hid (by rw[←AC P _ k hk8 (by omega)];exact BV _ k hk8 0);generalize hT:iN P (x-(i:Int)*8) k=T at px hset;clear hT
           go_wp2_with (refine aA rfl _ _ _ rfl gp k _ [.int .u8 0] rfl rfl rfl _ _ px (by show k+1≤8;omega) (by kernel_rfl) (fun u hu=>by cases bq.1 hu;rfl) ?_)
           intro w12 px12 hg12;rw[Pw.putAt_one,hset.out] at px12;have hm12:=hm.locT px (by decide) hnp.out hpB hg12;have hs12:=hs.loc hg12 hp0.out;have fx12:=fx.grown hg12 (fun e=>hpf.out (by have:=aJ e;omega));have ho12:Hid (Own w12 b 3 1 (mP ⟨x,xa,xs,xc⟩) xs.length (xs.map fM)):=Lib.hid (ak ho.out px (by decide) hg12);clear hm hs px hg12 hcf fx ho;go_wp2;go_roundw
           case rel=>exact⟨k+1,by omega,by go_num,hm12,hs12,px12,fx12,ho12⟩
           case measure=>simp[intOf];omega
          have hset:iN P (x-(i:Int)*8) k=iN P (x-(i:Int)*8) (k+1):=by
           ext j hj
           simp only[iN,ru]
           by_cases e:x-(i:Int)*8≤(j:Int)
           ·rw[if_neg (by omega),if_neg (by omega)]
           ·rw[if_neg (by omega),if_neg (by omega)]
          rw[hset] at px;clear hset;go_wp2;go_roundw
          case rel=>exact⟨k+1,by omega,by go_num,hm,hs,px,fx,ho⟩
          case measure=>simp[intOf];omega
         have hki:¬(k:Int)<8:=by omega
         rw[Aw _ _ k (by omega)] at px;generalize fF P (x-(i:Int)*8)=PC at px;have hncn:n<ct:=hnn.out.1;have hdl:S10.H.dk.blocks.length=ct:=by rw[hF10.out.1.dk];exact hF10.out.2.1.cl.1
         obtain⟨g,off,cap,cur,hv,hgB,hg,hgs,hgc,hgw⟩:=hm.ma.dk.b.put jJ (by decide) n (by rw[hdl];exact hncn);have hdb:S10.H.db=some ⟨g,off,none⟩:=(nQ hv).1;have hgw':=Lib.hid hgw;have hdl':=Lib.hid hdl;have hdb':=Lib.hid hdb;have hpg:Hid (gp≠g):=Lib.hid (fun e=>hnp.out (by rw[e];exact .inr (by simp only[gV,hdb];simp[oB,Value.ownBlock])));have hfg:Hid (gf0≠g):=Lib.hid (fun e=>hkf10.out (by rw[e];exact .inr (by simp only[gV,hdb];simp[oB,Value.ownBlock])));have hkg:Hid (mE b S10 g):=Lib.hid (.inr (by simp only[gV,hdb];simp[oB,Value.ownBlock]));clear hv hgc hgw hdl hdb;go_upto_region 26 with (fail);refine aK 9 [_,_,_,_,_,_,_,_,_] (Gk rfl (Gk rfl (Gf b 1 rfl rfl (Gf b 6 rfl rfl (Gf b 6 rfl rfl (Gl hm.blk (V:=.slice (some ⟨g,off,none⟩) ct S10.H.cdb) (by simp[iQ,hdb'.out,hdl'.out]) rfl rfl rfl rfl (Gk rfl (Gr (.agg #[.int .u8 PC[0].toNat,.int .u8 PC[1].toNat,.int .u8 PC[2].toNat,.int .u8 PC[3].toNat,.int .u8 PC[4].toNat,.int .u8 PC[5].toNat,.int .u8 PC[6].toNat,.int .u8 PC[7].toNat]) (fun ρ y W hb hKn=>(bB rfl (aD rfl hKn) (bF (px.ext hb) 0 8) underlying79 rfl (by kernel_rfl))) rfl rfl (Gr (.pointer (some ⟨g,off+n*8,none⟩)) (fun ρ y W hb hKn=>(bv rfl (aD rfl hKn) (aD rfl hKn) hncn underlying31 psize)) rfl rfl (aB)))))))))) (fun _=>rfl) rfl ?_;intro y W13 hbW13 _;have hm13:=hm.below hbW13;have hs13:=hs.below hbW13;have px13:=px.ext hbW13;have fx13:=fx.ext hbW13;have ho13:=Lib.hid (ho.out.below hbW13);have hg13:=hg.ext hbW13;clear hm hs px fx ho hg hbW13
         go_wp2_with (refine aA rfl _ _ _ rfl g (off+n*8) _ (yL PC) rfl rfl rfl _ _ hg13 (by show off+n*8+8≤cur.size;omega) (by kernel_rfl) (bR (ja PC)) ?_)
         intro w14 hb14 hg14;have hpo:=hgw'.out _ PC hb14;have hm14:dW w14 b b { S10 with H:={ S10.H with dk:=⟨S10.H.dk.blocks.set n PC,S10.H.dk.queue⟩ } }:=hm13.putD hg13 hgB (by rw[hdb'.out];rfl) hg14 (l:=S10.H.dk.blocks.set n PC) (by simp) (by simpa using hpo);have hs14:MS w6 b S6 w14 { S10 with H:={ S10.H with dk:=⟨S10.H.dk.blocks.set n PC,S10.H.dk.queue⟩ } }:=hs13.put hg14 hkg.out (fun x hx => .inl hx);have px14:=px13.grown hg14 (fun e=>hpg.out (aJ e).symm);have fx14:=fx13.grown hg14 (fun e=>hfg.out (aJ e).symm);have ho14:Hid (Own w14 b 3 1 (mP ⟨x,xa,xs,xc⟩) xs.length (xs.map fM)):=Lib.hid (ak ho13.out hg13 (by decide) hg14);have hF14:Hid (GX f s ct S3.H.asl fi0 (bk.set n PC) qu { S10 with H:={ S10.H with dk:=⟨S10.H.dk.blocks.set n PC,S10.H.dk.queue⟩ } }):=Lib.hid (by have h9:=hF10.out.1;exact⟨h9.m,h9.asl,h9.sl,h9.sw,by show (⟨S10.H.dk.blocks.set n PC,S10.H.dk.queue⟩:mZ)=_;rw[h9.dk],h9.fi,h9.ct,h9.ca,h9.sp,h9.T⟩);have hkf14:Hid (¬mE b { S10 with H:={ S10.H with dk:=⟨S10.H.dk.blocks.set n PC,S10.H.dk.queue⟩ } } gf0):=hkf10;have hnp14:Hid (¬mE b { S10 with H:={ S10.H with dk:=⟨S10.H.dk.blocks.set n PC,S10.H.dk.queue⟩ } } gp):=hnp;have hkx14:Hid (∀g,(mP ⟨x,xa,xs,xc⟩).ownBlock=some g→¬mE b { S10 with H:={ S10.H with dk:=⟨S10.H.dk.blocks.set n PC,S10.H.dk.queue⟩ } } g):=hkx10;clear hm13 hs13 px13 fx13 ho13 hg13 hpo hb14 hg14;generalize { S10 with H:={ S10.H with dk:=⟨S10.H.dk.blocks.set n PC,S10.H.dk.queue⟩ } }=S14 at hm14 hs14 hF14 hkf14 hnp14 hkx14
         go_wp2_with fail
         refine (fo S14 2 b b _ hm14 (by omega)).mono ?_;rintro r w15 ⟨z,a15,c15,l15,rfl,hm15,hs15,hz,_⟩;have fx15:=hs15.blkN fx14 hkf14.out;have px15:=hs15.blkN px14 hnp14.out;have ho15:Hid (Own w15 b 3 1 (mP ⟨x,xa,xs,xc⟩) xs.length (xs.map fM)):=Lib.hid (hs15.ownN ho14.out hkx14.out);have hs15:=hs14.trans hs15;have hF15:Hid (GX f s ct S3.H.asl fi0 (bk.set n PC) qu (S14.lst a15 c15 l15)):=Lib.hid (hF14.out.lst _ _ _);have hkf15:Hid (¬mE b (S14.lst a15 c15 l15) gf0):=hkf14;have hnp15:Hid (¬mE b (S14.lst a15 c15 l15) gp):=hnp14;have hkx15:Hid (∀g,(mP ⟨x,xa,xs,xc⟩).ownBlock=some g→¬mE b (S14.lst a15 c15 l15) g):=hkx14;clear hm14 hs14 fx14 px14 ho14 hF14 hkf14 hnp14 hkx14;generalize S14.lst a15 c15 l15=S15 at hm15 hs15 hF15 hkf15 hnp15 hkx15
         by_cases hz1:z=1
         ·subst hz1;have hql:S15.H.dk.queue.length≤100:=by have h1:=hF10.out.2.1.ql;have h2:=hF10.out.2.2;have h3:=hl0.out;rw[hF15.out.dk];rw[fe] at h1;show qu.length≤100;omega
          have hnb:Hid (∀g,(Value.slice S15.H.dq S15.H.dk.queue.length S15.H.cdq).ownBlock=some g→g≠b∧∀t∈[(gp,iq PC,79),(gf0,pE ⟨x,xa,xs,xc⟩,67)],t.1≠g):=Lib.hid (fun g hg=>by
           obtain⟨cs,hk⟩:=kM hm15.ma.dk.q g hg;refine⟨fun e=>lJ hk hm15.blk (by decide) e,fun t ht => ?_⟩;simp only[bY,fI,or_false] at ht;rcases ht with rfl|rfl
           ·exact lJ px15 hk (by decide)
           ·exact lJ fx15 hk (by decide))
          have hks:Hid (∀t∈[(gp,iq PC,79),(gf0,pE ⟨x,xa,xs,xc⟩,67)],aC w15 t.1 t.2.1 t.2.2):=Lib.hid (fun t ht=>by
           simp only[bY,fI,or_false] at ht;rcases ht with rfl|rfl
           ·exact px15
           ·exact fx15)
          go_upto_region 28 with (fail);refine gH 16 [_,_,_,_,_,_,.v (.slice S15.H.dq S15.H.dk.queue.length S15.H.cdq),_,.v (.agg (iq PC)),.v (.agg (Ep ((n:Int),PC))),.r 10 ((bX fun _=>True)),.r 11 ((bX fun _=>True)),_,_,_,_] (Eh S15 b b w15 [(gp,iq PC,79),(gf0,pE ⟨x,xa,xs,xc⟩,67)] 11 10 86 9 S15.H.dk.queue.length (.slice S15.H.dq S15.H.dk.queue.length S15.H.cdq) (S15.H.dk.queue.flatMap yz) (yz ((n:Int),PC))) eO (fun y=>Sk hm15 hks.out y) (Qk eO rfl (Qk eO rfl (Qk eO rfl (Qf eO b 1 rfl rfl (Qf eO b 6 rfl rfl (Qf eO b 7 rfl rfl (ag ?_ (Qk eO rfl (ag ?_ (ag ?_ (ag ?_ (ag ?_ (Qk eO rfl (Qf eO b 1 rfl rfl (Qf eO b 6 rfl rfl (Qf eO b 7 rfl rfl (aB) (fun _ _ _ _ hLd h=>fD (by decide) h)) (fun _ _ _ _ hLd h=>fD (by decide) h)) (fun _ _ _ _ hLd h=>fD (by decide) h)) (fun _ _ _ _ hLd h=>fD (by decide) h)))))) (fun _ _ _ _ hLd h=>fD (by decide) h))) (fun _ _ _ _ hLd h=>fD (by decide) h)) (fun _ _ _ _ hLd h=>fD (by decide) h)) (fun _ _ _ _ hLd h=>fD (by decide) h)) (fun _ _ _ _ hLd h=>fD (by decide) h)) (fun _ _ _ _ hLd h=>fD (by decide) h)) (fun _ _ _ _ hLd h=>fD (by decide) h)) (fun _=>rfl) rfl ?_
          ·intro ρ y W L hw hn hLi hLd hb hd;refine eB eO (fun _ _ h=>fD (by decide) h) hb ?_;have E143:=hw 143 5 rfl;have h5:y 5=_:=hd 5 rfl;have m1:=hb.1.1;refine aj (.slice S15.H.dq S15.H.dk.queue.length S15.H.cdq) (ah rfl) (by simp[execOp,go_sem,E143,h5,m1.cell,iQ]) rfl
          ·intro ρ y W L hw hn hLi hLd hb hd;refine eB eO (fun _ _ h=>fD (by decide) h) hb ?_;have E15:ρ (.tmp 15) = .pointer (some ⟨gp,0,none⟩):=(hn (.tmp 15) rfl).trans rfl;have m3:=hb.1.2 _ gL;refine aj (.agg (iq PC)) (ah rfl) (dx rfl E15 m3 underlying79 rfl psize) rfl
          ·intro ρ y W L hw hn hLi hLd hb hd;refine eB eO (fun _ _ h=>fD (by decide) h) hb ?_;have E145:=hw 145 7 rfl;have h7:y 7=_:=hd 7 rfl;have E146:=hw 146 8 rfl;have h8:y 8=_:=hd 8 rfl;refine aj (.agg (Ep ((n:Int),PC))) (ah rfl) (by simp[execOp,go_sem,E145,h7,E146,h8,iq,Ep]) rfl
          ·intro ρ y W L hw hn hLi hLd hb hd;have E147:=hw 147 9 rfl;have h9:y 9=_:=hd 9 rfl;refine eF (.slice (some ⟨W.heap.size,0,none⟩) 1 1) (ah rfl) ?_ (Sw (W':=W.alloc (.cells (Ep ((n:Int),PC)) 86)) (by decide) ((Below.refl _ _).alloc (ay _) _) hb ⟨ay _,by unfold maxLen;omega,fun e=>(by cases e),dN.new _ _ _⟩) trivial;simp[execOp,go_sem,E147.trans h9,Ep]
          ·intro ρ y W L hw hn hLi hLd hb hd;have E144:=hw 144 6 rfl;have h6:y 6=_:=hd 6 rfl;have E148:=hw 148 10 rfl;have h10:=hd 10 rfl;have hm:=(hb.2.1 hLi).1;obtain⟨a,e,hx1,hx2⟩:=hb.2.2.1 (hLd 10 rfl) hLi;have hpv:Own W b 86 9 (.slice S15.H.dq S15.H.dk.queue.length S15.H.cdq) S15.H.dk.queue.length (S15.H.dk.queue.flatMap yz):=hm.ma.dk.q;refine kS (ah rfl) (pz _ _ _ rfl b 86 _ 9 16 underlying32 put_info rfl (by decide) (.slice S15.H.dq S15.H.dk.queue.length S15.H.cdq) S15.H.dk.queue.length _ (E144.trans h6) hpv a 1 e (yz ((n:Int),PC)) (E148.trans hx1) hx2.nl hx2.le rfl hx2.rd (bR (NB _)) (by unfold maxLen;omega) (by omega) hm.bs) (fun v W1 h=>RS hLi hb h.2.1 hnb.out h.1 h.2.2) (fun _ _ _=>trivial)
          intro y W16 hbW16 hRW16;clear hRW16;obtain⟨wq,hmq,hsq,hgq,hoq,hsnq⟩:=hbW16.2.2.2 rfl;have hbk16:=hbW16.1.1;have fx16:aC W16 gf0 (pE ⟨x,xa,xs,xc⟩) 67:=hbW16.1.2 _ (jg _ gL);have ho16:Hid (Own W16 b 3 1 (mP ⟨x,xa,xs,xc⟩) xs.length (xs.map fM)):=Lib.hid (by
           have h1:=hsq.ownN ho15.out hkx15.out;rcases qI hmq.ma.dk.q hgq with hb0|⟨g,cs,hk,_,hg'⟩
           ·exact h1.below hb0
           ·exact ak h1 hk (by decide) hg')
          have hsq':=Lib.hid hsq;have hs16:=hs15.trans hsq;obtain⟨aq,cq,hyq,_⟩:=hoq.rd;rw[hyq] at hoq hsnq ⊢;clear hyq hbW16 hm15 hs15 px15 fx15 ho15 hsq hks hnb
          go_wp2_with (refine aA rfl _ _ _ rfl b 7 _ [.slice aq (S15.H.dk.queue.length+1) cq] rfl rfl rfl _ _ hbk16 (by show 7+1≤13;omega) (by kernel_rfl) (fun u hu=>by cases bq.1 hu;rfl) ?_)
          intro w17 hb17 hg17;have hlen:(S15.H.dk.queue++[((n:Int),PC)]).length=S15.H.dk.queue.length+1:=by simp
          have hoq' : Own W16 b 86 9 (.slice aq (S15.H.dk.queue++[((n:Int),PC)]).length cq) (S15.H.dk.queue++[((n:Int),PC)]).length ((S15.H.dk.queue++[((n:Int),PC)]).flatMap yz):=by rw[hlen,eT];simpa using hoq
          have hm17:=hmq.appQ hgq hoq' (by rw[hlen];exact hb17) hg17;have hn17:∀x,mE b { S15 with H:={ S15.H with dq:=aq,cdq:=cq,dk:=⟨S15.H.dk.blocks,S15.H.dk.queue++[((n:Int),PC)]⟩ } } x→mE b S15 x∨oB aq=some x:=fun x hx=>by
           rcases hx with hx|hx
           ·exact .inl (.inl hx)
           simp only[gV,bY,fI,or_false] at hx;rcases hx with hx|hx|hx|hx|hx|hx|hx|hx|hx<;>first|exact .inr hx.symm|exact .inl (.inr (by simp[gV,hx]))
          have hs17:=hs16.app hmq hmq.ma.dk.q (by simp[gV]) hgq hg17 hsnq hn17;have hqN:Hid (¬mE b { S15 with H:={ S15.H with dq:=aq,cdq:=cq,dk:=⟨S15.H.dk.blocks,S15.H.dk.queue++[((n:Int),PC)]⟩ } } gf0):=Lib.hid (fun hk=>(hn17 gf0 hk).elim hkf15.out fun e=>lJ (iK hoq' e).2.choose_spec fx16 (by decide) rfl);have fx17:=fx16.grown hg17 (fun e=>hkf15.out (.inl (aJ e).symm));have ho17:Hid (Own w17 b 3 1 (mP ⟨x,xa,xs,xc⟩) xs.length (xs.map fM)):=Lib.hid (ak ho16.out hbk16 (by decide) hg17);have hF17:Hid (GX f s ct S3.H.asl fi0 (bk.set n PC) (qu++[((n:Int),PC)]) { S15 with H:={ S15.H with dq:=aq,cdq:=cq,dk:=⟨S15.H.dk.blocks,S15.H.dk.queue++[((n:Int),PC)]⟩ } }∧Fb ct (bk.set n PC) (qu++[((n:Int),PC)]) (fi0.map PF.fi) (xs++[(n:Int)])):=Lib.hid (by have h9:=hF15.out;exact⟨⟨h9.m,h9.asl,h9.sl,h9.sw,by show (⟨S15.H.dk.blocks,S15.H.dk.queue++[((n:Int),PC)]⟩:mZ)=_;rw[h9.dk],h9.fi,h9.ct,h9.ca,h9.sp,h9.T⟩,hF10.out.2.1.wait hnn.out.1 hnn.out.2 PC⟩);clear hmq hgq hoq hsnq hbk16 fx16 ho16 hs16 hb17 hlen hoq' hg17 hn17;go_wp2;go_meet
          case rel=>exact⟨(n:Int),_,_,_,rfl,hm17,hs17,hqN,hF17,fx17,ho17⟩
         have hF17:Hid (GX f s ct S3.H.asl fi0 (bk.set n PC) qu S15∧Fb ct (bk.set n PC) qu (fi0.map PF.fi) (xs++[(n:Int)])):=Lib.hid ⟨hF15.out,hF10.out.2.1.some hnn.out.1 hnn.out.2 PC⟩;go_wp2;go_meet
         case rel=>exact⟨(n:Int),S15,_,_,rfl,hm15,hs15,hkf15,hF17,fx15,ho15⟩
      case rest=>
      obtain⟨v,S,bk,qu,rfl,hm,hs,hkf,hF,fx,ho⟩:=hcut;clear hm9 hs9 hF9 fx9 ho9 hkf9 hkx9;have hcf:=fx.cell;unfold pE at hcf;have hF':=Lib.hid hF.out.2;have hxl:xs.length≤100:=by have h1:=hF10l.out;omega
      have hlw:=Lib.hid hxl
      go_wp2_with (at_builtin;go_must (refine vW rfl _ _ 29 rfl b 3 (.int .i64 0) 1 8 underlying29 int_info rfl (by decide) (mP ⟨x,xa,xs,xc⟩) xs.length (xs.map fM) rfl (ho.out.alloc _) (some ⟨wc.heap.size,0,none⟩) 1 1 [fM v] rfl (fun h=>(by cases h)) (ay _) rfl (dN.new _ #[fM v] _) (by simp[fM,Value.oneCell']) (by unfold maxLen;omega) (by omega) (bV hm.bs _) ?_))
      intro v2 w2 own2 hg2 hsn2;have hal:=(Below.refl wc.heap.size wc).alloc (ay _) (.cells #[fM v] 3);have hm1:=hm.below hal;have hs1:=hs.below hal;have fx1:=fx.ext hal;have ho1:Own (wc.alloc (.cells #[fM v] 3)) b 3 1 (.slice xa xs.length xc) xs.length (xs.map fM):=ho.out.below hal;obtain⟨a2,c2,hv2,_⟩:=own2.rd;rw[hv2] at own2 hsn2 ⊢;have hge2:Hid (∀g,oB a2=some g→w6.heap.size≤g∧oB S3.H.asl≠some g∧∀p∈fi0,oB p.a≠some g):=Lib.hid (fun g hg=>by
       rcases hsn2 with e1|e1
       ·unfold mP at e1;rw[lI,lI] at e1;exact hap.out g (by rw[←e1];exact hg)
       have h1:=e1 g (by rw[lI];exact hg);refine⟨aX hs1.size h1,fun e => ?_,fun p hp e => ?_⟩
       ·exact absurd h1 (Nat.not_le.2 (iK hm1.ma.sl (by rw[hF.out.1.asl];exact e)).2.choose_spec.lt)
       rw[←hF.out.1.fi] at hp;obtain⟨k,hk,rfl⟩:=jE.1 hp;exact absurd h1 (Nat.not_le.2 (iK (hm1.ma.st.each k _ (aG hk)) e).2.choose_spec.lt))
      have hm2:dW w2 b b S:=by
       rcases qI ho1 hg2 with hb0|⟨g,cs,hk,hga,hg'⟩
       ·exact hm1.below hb0
       ·exact hm1.locI hk (hm1.kb_int hk (by rw[hF.out.1.asl];exact (hap.out g hga).2.1)) (by rw[hF.out.1.fi];exact (hap.out g hga).2.2) (iK ho1 hga).1 hg'
      have hs2:MS w6 b S6 w2 S:=by
       rcases qI ho1 hg2 with hb0|⟨g,cs,hk,hga,hg'⟩
       ·exact hs1.below hb0
       ·exact hs1.loc hg' (hap.out g hga).1
      have fx2:aC w2 gf0 (pE ⟨x,xa,xs,xc⟩) 67:=by
       rcases qI ho1 hg2 with hb0|⟨g,cs,hk,hga,hg'⟩
       ·exact fx1.ext hb0
       ·exact bu fx1 hk (by decide) hg'
      clear hcf hm hs fx hm1 hs1 fx1 ho1 hg2 hsn2 hal ho hv2
      go_wp2_with (refine aA rfl _ _ _ rfl gf0 1 _ [.slice a2 (xs.length+1) c2] rfl rfl rfl _ _ fx2 (by show 1+1≤2;omega) (by kernel_rfl) (fun u hu=>by cases bq.1 hu;rfl) ?_)
      intro w3 hb3 hg3;have hxl1:(xs++[v]).length=xs.length+1:=by simp
      have fx3:aC w3 gf0 (pE ⟨x,a2,xs++[v],c2⟩) 67:=by
       have e:pE ⟨x,a2,xs++[v],c2⟩=bA (pE ⟨x,xa,xs,xc⟩) 1 [.slice a2 (xs.length+1) c2]:=by unfold pE;dsimp only;rw[hxl1];kernel_rfl
       rw[e];exact hb3
      have hm3:=hm2.locT fx2 (by decide) hkf.out hgB hg3;have hs3:=hs2.loc hg3 hg6.out;have ho3:Hid (Own w3 b 3 1 (mP ⟨x,a2,xs++[v],c2⟩) (xs++[v]).length ((xs++[v]).map fM)∧∀g,oB a2=some g→w6.heap.size≤g∧oB S3.H.asl≠some g∧∀p∈fi0,oB p.a≠some g):=Lib.hid ⟨by
       have h1:=ak own2 fx2 (by decide) hg3;unfold mP;dsimp only;rw[hxl1,jf];exact h1,hge2.out⟩
      have hF3:Hid (GX f s ct S3.H.asl fi0 bk qu S∧Fb ct bk qu (fi0.map PF.fi) (xs++[v])∧(xs++[v]).length=i+1):=Lib.hid ⟨hF.out.1,hF.out.2,by rw[hxl1,hF8l.out]⟩;clear hm2 hs2 fx2 own2 hb3 hg3 hxl1 hxl;go_wp2;go_roundw
      case rel=>exact⟨i+1,S,bk,qu,xs++[v],a2,c2,by omega,by go_num,hm3,hs3,hkf,hF3,fx3,ho3⟩
      case measure=>simp[intOf];omega
     have hii:¬(i:Int)<(C:Int):=by omega
     have hiC' : i=C:=by omega
     subst hiC';have hfl5:S.H.fi.length≤5:=by rw[hI.out.1.fi];have:=hl0.out;omega
     have hkaf:∀g,(Value.slice S.H.ai S.H.fi.length S.H.ci).ownBlock=some g→mE b S g:=fun g hg => .inr (by rw[lI] at hg;simp[gV,hg]);have hnb:Hid (∀g,(Value.slice S.H.ai S.H.fi.length S.H.ci).ownBlock=some g→g≠b∧∀t∈[(gf0,pE ⟨x,xa,xs,xc⟩,67)],t.1≠g):=Lib.hid (fun g hg=>by obtain⟨cs,hk⟩:=kM hm.ma.st.own g hg;refine⟨fun e=>lJ hk hm.blk (by decide) e,fun t ht => ?_⟩;rw[bq.1 ht];intro e;exact hkf'.out (by rw[show gf0=g from e];exact hkaf g hg));have hks:Hid (∀t∈[(gf0,pE ⟨x,xa,xs,xc⟩,67)],aC wr t.1 t.2.1 t.2.2):=Lib.hid (fun t ht=>by rw[bq.1 ht];exact fx);go_upto_region 31 with (fail);refine gH 14 [_,_,_,_,_,_,.v (.slice S.H.ai S.H.fi.length S.H.ci),.v (.agg (pE ⟨x,xa,xs,xc⟩)),.r 8 ((bX fun _=>True)),.r 9 ((bX fun _=>True)),_,_,_,_] (Eh S b b wr [(gf0,pE ⟨x,xa,xs,xc⟩,67)] 9 8 67 2 S.H.fi.length (.slice S.H.ai S.H.fi.length S.H.ci) (S.H.fi.flatMap pY) (pY ⟨x,xa,xs,xc⟩)) eO (fun y=>Sk hm hks.out y) (Qk eO rfl (Qk eO rfl (Qk eO rfl (Qf eO b 1 rfl rfl (Qf eO b 8 rfl rfl (Qf eO b 8 rfl rfl (ag ?_ (ag ?_ (ag ?_ (ag ?_ (Qk eO rfl (Qf eO b 1 rfl rfl (Qf eO b 8 rfl rfl (Qf eO b 8 rfl rfl (aB) (fun _ _ _ _ hLd h=>fD (by decide) h)) (fun _ _ _ _ hLd h=>fD (by decide) h)) (fun _ _ _ _ hLd h=>fD (by decide) h)) (fun _ _ _ _ hLd h=>fD (by decide) h)))))) (fun _ _ _ _ hLd h=>fD (by decide) h)) (fun _ _ _ _ hLd h=>fD (by decide) h)) (fun _ _ _ _ hLd h=>fD (by decide) h)) (fun _ _ _ _ hLd h=>fD (by decide) h)) (fun _ _ _ _ hLd h=>fD (by decide) h)) (fun _ _ _ _ hLd h=>fD (by decide) h)) (fun _=>rfl) rfl ?_
     ·intro ρ y W L hw hn hLi hLd hb hd;refine eB eO (fun _ _ h=>fD (by decide) h) hb ?_;have E166:=hw 166 5 rfl;have h5:y 5=_:=hd 5 rfl;have m1:=hb.1.1;refine aj (.slice S.H.ai S.H.fi.length S.H.ci) (ah rfl) (by simp[execOp,go_sem,E166,h5,m1.cell,iQ]) rfl
     ·intro ρ y W L hw hn hLi hLd hb hd;refine eB eO (fun _ _ h=>fD (by decide) h) hb ?_;have E11:ρ (.tmp 11) = .pointer (some ⟨gf0,0,none⟩):=(hn (.tmp 11) rfl).trans rfl;have m3:=hb.1.2 _ gL;refine aj (.agg (pE ⟨x,xa,xs,xc⟩)) (ah rfl) (dx rfl E11 m3 underlying67 rfl file_size) rfl
     ·intro ρ y W L hw hn hLi hLd hb hd;have E168:=hw 168 7 rfl;have h7:y 7=_:=hd 7 rfl;refine eF (.slice (some ⟨W.heap.size,0,none⟩) 1 1) (ah rfl) ?_ (Sw (W':=W.alloc (.cells (pE ⟨x,xa,xs,xc⟩) 67)) (by decide) ((Below.refl _ _).alloc (ay _) _) hb ⟨ay _,by unfold maxLen;omega,fun e=>(by cases e),dN.new _ _ _⟩) trivial;simp[execOp,go_sem,E168.trans h7,pE]
     ·intro ρ y W L hw hn hLi hLd hb hd;have E167:=hw 167 6 rfl;have h6:y 6=_:=hd 6 rfl;have E169:=hw 169 8 rfl;have h8:=hd 8 rfl;have hm:=(hb.2.1 hLi).1;obtain⟨a,e,hx1,hx2⟩:=hb.2.2.1 (hLd 8 rfl) hLi;have hpv:Own W b 67 2 (.slice S.H.ai S.H.fi.length S.H.ci) S.H.fi.length (S.H.fi.flatMap pY):=hm.ma.st.own;refine kS (ah rfl) (pz _ _ _ rfl b 67 _ 2 32 underlying35 file_info rfl (by decide) (.slice S.H.ai S.H.fi.length S.H.ci) S.H.fi.length _ (E167.trans h6) hpv a 1 e (pY ⟨x,xa,xs,xc⟩) (E169.trans hx1) hx2.nl hx2.le rfl hx2.rd (bR (oU _)) (by unfold maxLen;omega) (by omega) hm.bs) (fun v W1 h=>RS hLi hb h.2.1 hnb.out h.1 h.2.2) (fun _ _ _=>trivial)
     intro y W8 hbW8 hRW8;clear hRW8;obtain⟨wq,hmq,hsq,hgq,hoq,hsnq⟩:=hbW8.2.2.2 rfl;have hbk8:=hbW8.1.1;have hoxq:=hsq.ownN ho.out.1 (fun g hg=>by obtain⟨cs,hk⟩:=kM ho.out.1 g hg;refine hm.kb_int hk ?_;rw[hI.out.1.asl];exact (ho.out.2 g (by unfold mP at hg;rw[lI] at hg;exact hg)).2.1);have hs8:=hs.trans hsq;obtain⟨aq,cq,hyq,_⟩:=hoq.rd;rw[hyq] at hoq hsnq ⊢;clear hyq hbW8 hm hs fx hsq hks hnb hkaf
     go_wp2_with (refine aA rfl _ _ _ rfl b 8 _ [.slice aq (S.H.fi.length+1) cq] rfl rfl rfl _ _ hbk8 (by show 8+1≤13;omega) (by kernel_rfl) (fun u hu=>by cases bq.1 hu;rfl) ?_)
     intro w17 hb17 hg17;have hlen:(S.H.fi++[(⟨x,xa,xs,xc⟩:PF)]).length=S.H.fi.length+1:=by simp
     have hm17:dW w17 b b { S with H:={ S.H with ai:=aq,ci:=cq,fi:=S.H.fi++[(⟨x,xa,xs,xc⟩:PF)] } }:=hmq.appFi (p:=⟨x,xa,xs,xc⟩) hoxq (fun k p hp g hg hg'=>by unfold mP at hg hg';rw[lI] at hg hg';exact (ho.out.2 g hg').2.2 p (by rw[←hI.out.1.fi];exact bQ hp) hg) (fun g hg=>by rw[hI.out.1.asl];exact (ho.out.2 g hg).2.1) hgq (by rw[hlen];exact hoq) (by rw[hlen];exact hb17) hg17;have hs17:MS w6 b S6 w17 { S with H:={ S.H with ai:=aq,ci:=cq,fi:=S.H.fi++[(⟨x,xa,xs,xc⟩:PF)] } }:=hs8.app hmq hmq.ma.st.own (by simp[gV]) hgq hg17 hsnq (fun x hx=>by
      rcases hx with hx|hx
      ·exact .inl (.inl hx)
      simp only[gV,bY,fI,or_false] at hx;rcases hx with hx|hx|hx|hx|hx|hx|hx|hx|hx<;>first|exact .inr hx.symm|exact .inl (.inr (by simp[gV,hx])))
     have hs17:=hs6.trans hs17;have hI17:Hid (GX f s ct S3.H.asl (S.H.fi++[(⟨x,xa,xs,xc⟩:PF)]) bk qu { S with H:={ S.H with ai:=aq,ci:=cq,fi:=S.H.fi++[(⟨x,xa,xs,xc⟩:PF)] } }∧Fb ct bk qu ((S.H.fi++[(⟨x,xa,xs,xc⟩:PF)]).map PF.fi) []∧(S.H.fi++[(⟨x,xa,xs,xc⟩:PF)]).length=q+1∧(q+1=0→bk=List.replicate ct zPg∧qu=[]∧(l=[]→S.l=[]))):=Lib.hid (by have h9:=hI.out.1;refine⟨⟨h9.m,h9.asl,h9.sl,h9.sw,h9.dk,rfl,h9.ct,h9.ca,h9.sp,h9.T⟩,?_,by rw[hlen,h9.fi,hl0q.out],fun e=>absurd e (by omega)⟩;rw[jf,h9.fi];exact hI.out.2.1.file (s:=x) (by omega) (by omega) (by rw[hI.out.2.2,hC'.out]));clear hmq hgq hoq hsnq hbk8 hoxq hs8 hb17 hlen hg17;go_wp2;go_roundw
     case rel=>exact⟨q+1,_,bk,qu,by omega,by go_num,hm17,hs17,hI17⟩
     case measure=>simp[intOf];omega
   have hqi:¬(q:Int)<(N:Int):=by omega
   have hbd:Hid (Bd S.H.ma S.T∧Nv S∧S.H.sp.length=0∧S.H.m.fs.length=f∧S.H.dk.blocks.length=ct∧(l=[]→S.l=[]∧S.H.ma=Ai f s ct (List.replicate ct zPg) [] []∧S.T=[])):=Lib.hid (by
    obtain⟨h1,h2,h3,h4⟩:=hI.out;refine⟨by rw[h1.ma,h1.T];exact h2.bd (by rw[fe];omega) hf40 hs60,fun p hp=>(by rw[h1.sp] at hp;cases hp),by rw[h1.sp];rfl,by rw[h1.m];exact jy,by rw[h1.dk];exact h2.cl.1,fun e => ?_⟩;have hN0:=(hl5.out e).1;have hq0:q=0:=by omega
    obtain⟨k1,k2,k3⟩:=h4 hq0;refine⟨k3 e,?_,h1.T⟩;have hf0:fi0=[]:=List.length_eq_zero_iff.1 (by omega);rw[h1.ma,k1,k2,hf0];rfl)
   clear hI
   go_wp2_with fail
   refine (fo S 2 b b _ hm (by omega)).mono ?_;rintro r w6 ⟨z,a6,c6,l6,rfl,hm6,hs6,hz,hz0⟩;have hs6:=hs.trans hs6;have hzw:IntKind.i64.wrap (1+z)=1+z:=bJ _ (by omega);obtain⟨M,hM⟩:∃M:Nat,1+z=(M:Int):=⟨(1+z).toNat,by omega⟩;have hM2:1≤M∧M≤2:=by omega
   have hbd6:Hid (Bd (S.lst a6 c6 l6).H.ma (S.lst a6 c6 l6).T∧Nv (S.lst a6 c6 l6)∧(S.lst a6 c6 l6).H.sp.length=0∧(S.lst a6 c6 l6).H.m.fs.length=f∧(S.lst a6 c6 l6).H.dk.blocks.length=ct∧(l=[]→(S.lst a6 c6 l6).l=[]∧(S.lst a6 c6 l6).H.ma=Ai f s ct (List.replicate ct zPg) [] []∧(S.lst a6 c6 l6).T=[])):=Lib.hid
    ⟨hbd.out.1,hbd.out.2.1,hbd.out.2.2.1,hbd.out.2.2.2.1,hbd.out.2.2.2.2.1,fun e=>⟨(hz0 (hbd.out.2.2.2.2.2 e).1).2,(hbd.out.2.2.2.2.2 e).2⟩⟩
   have hM1:Hid (l=[]→M=1):=Lib.hid (fun e=>by have:=(hz0 (hbd.out.2.2.2.2.2 e).1).1;omega);rw[hM] at hzw;clear hm hs hbd hz hz0;generalize S.lst a6 c6 l6=S6 at hm6 hs6 hbd6;go_upto_region 34 with (fail);clear hM hzw
   go_loopw [179] (fun k wr => ∃(p:Nat) (S:MW),p≤M∧k = .int .i64 p∧dW wr b b S∧MS w4 b S3 wr S∧Hid (Bd S.H.ma S.T∧Nv S∧S.H.sp.length=p∧S.H.m.fs.length=f∧S.H.dk.blocks.length=ct∧(l=[]→S.l=[]∧((p=0→S.H.ma=Ai f s ct (List.replicate ct zPg) [] []∧S.T=[])∧(p=1→S.H.ma = { Ai f s ct (List.replicate ct zPg) [] [] with sp:=[⟨true,[],zTb⟩] }∧S.T=[List.replicate 64 zEn]))))) (fun k _=>M-(intOf k).toNat)
   case atStart=>exact⟨0,S6,aS _,rfl,hm6,hs6,Lib.hid ⟨hbd6.out.1,hbd6.out.2.1,hbd6.out.2.2.1,hbd6.out.2.2.2.1,hbd6.out.2.2.2.2.1,fun e=>⟨(hbd6.out.2.2.2.2.2 e).1,fun _=>(hbd6.out.2.2.2.2.2 e).2,fun h=>(by cases h)⟩⟩⟩
   case round=>
    clear hm6 hs6 hbd6;obtain⟨p,S,hp,rfl,hm,hs,hI⟩:=hrel
    by_cases hpM:p<M
    ·have hpi:(p:Int)<(M:Int):=by omega
     have hmoreR:∀(S' : MW),More S S'→(l=[]→p=0→S'.l=[]∧S'.H.ma = { S.H.ma with sp:=S.H.ma.sp++[⟨true,[],zTb⟩] }∧S'.T=S.T++[List.replicate 64 zEn])→Bd S'.H.ma S'.T∧Nv S'∧S'.H.sp.length=p+1∧S'.H.m.fs.length=f∧S'.H.dk.blocks.length=ct∧(l=[]→S'.l=[]∧((p+1=0→S'.H.ma=Ai f s ct (List.replicate ct zPg) [] []∧S'.T=[])∧(p+1=1→S'.H.ma = { Ai f s ct (List.replicate ct zPg) [] [] with sp:=[⟨true,[],zTb⟩] }∧S'.T=[List.replicate 64 zEn]))):=fun S' hMo hn=>by
      obtain⟨h1,h2,h3,h4,h5,h6⟩:=hI.out;refine⟨hMo.bd,hMo.fm,by rw[hMo.sp,h3],by rw[hMo.fs,h4],by rw[hMo.dk,h5],fun e => ?_⟩;have hp0:p=0:=by have:=hM1.out e;omega
      obtain⟨k1,k2,k3⟩:=hn e hp0;obtain⟨q1,q2⟩:=(h6 e).2.1 hp0;refine⟨k1,fun h=>absurd h (by omega),fun _=>⟨by rw[k2,q1];rfl,by rw[k3,q2];rfl⟩⟩
     have hmoreR':=Lib.hid hmoreR;clear hmoreR
     by_cases hp1:p=1
     ·subst hp1
      go_wp2_with fail
      refine (fo S 2 b b _ hm (by omega)).mono ?_;rintro r w7 ⟨z2,a7,c7,l7,rfl,hm7,hs7,hz2,_⟩;have hs7:=hs.trans hs7;clear hm hs
      by_cases hz1:z2=1
      ·subst hz1
       go_wp2_with fail
       refine (NM (S.lst a7 c7 l7) b b _ hm7 hI.out.1 hI.out.2.1 hI.out.2.2.1).mono ?_;rintro r w8 ⟨S8,rfl,hm8,hs8,hMo⟩;have hs8:=hs7.trans hs8;have hI8:=Lib.hid (hmoreR'.out S8 ⟨hMo.bd,hMo.fm,hMo.fi,hMo.ct,hMo.dk,hMo.sp,hMo.fs⟩ (fun _ h=>absurd h (by decide)));clear hm7 hs7 hMo hI;go_wp2;go_roundw
       case rel=>exact⟨2,S8,by omega,by go_num,hm8,hs8,hI8⟩
       case measure=>simp[intOf];omega
      have hzb:(z2==1)=false:=by simpa using hz1
      go_wp2_with fail
      refine (Eo (S.lst a7 c7 l7) b b _ hm7 hI.out.1 hI.out.2.1 (by have:=hI.out.2.2.1;show S.H.sp.length<4;omega)).mono ?_;rintro r w8 ⟨S8,rfl,hm8,hs8,hMo,_⟩;have hs8:=hs7.trans hs8;have hI8:=Lib.hid (hmoreR'.out S8 ⟨hMo.bd,hMo.fm,hMo.fi,hMo.ct,hMo.dk,hMo.sp,hMo.fs⟩ (fun _ h=>absurd h (by decide)));clear hm7 hs7 hMo hI;go_wp2;go_roundw
      case rel=>exact⟨2,S8,by omega,by go_num,hm8,hs8,hI8⟩
      case measure=>simp[intOf];omega
     have hp0:p=0:=by omega
     subst hp0
     go_wp2_with fail
     refine (Eo S b b _ hm hI.out.1 hI.out.2.1 (by have:=hI.out.2.2.1;omega)).mono ?_;rintro r w8 ⟨S8,rfl,hm8,hs8,hMo,hnil⟩;have hs8:=hs.trans hs8;have hI8:=Lib.hid (hmoreR'.out S8 hMo (fun e _=>hnil (hI.out.2.2.2.2.2 e).1));clear hm hs hMo hI hnil;go_wp2;go_roundw
     case rel=>exact⟨0+1,S8,by omega,by go_num,hm8,hs8,Lib.hid ⟨hI8.out.1,hI8.out.2.1,hI8.out.2.2.1,hI8.out.2.2.2.1,hI8.out.2.2.2.2.1,fun e=>⟨(hI8.out.2.2.2.2.2 e).1,(hI8.out.2.2.2.2.2 e).2.1,fun _=>(hI8.out.2.2.2.2.2 e).2.2 (by first | trivial | rfl)⟩⟩⟩
     case measure=>simp[intOf];omega
    have hpi:¬(p:Int)<(M:Int):=by omega
    have hpe:M=p:=by omega
    subst hpe;have hT6:Hid (Bd S.H.ma S.T∧S.T.length=M∧S.H.ma.sp.length=M):=Lib.hid (by have h1:=hI.out.2.2.1;have h2:S.H.ma.sp.length=S.H.sp.length:=fe _;exact⟨hI.out.1,by rw[hI.out.1.ok.len];omega,by omega⟩);have hI0:Hid (S.H.ma=tabs S.H.ma S.T 0∧S.T=S.T∧S.H.sp.length=M∧Nv S∧S.H.m.fs.length=f∧S.H.dk.blocks.length=ct∧(l=[]→S.l=[])):=Lib.hid ⟨rfl,rfl,hI.out.2.2.1,hI.out.2.1,hI.out.2.2.2.1,hI.out.2.2.2.2.1,fun e=>(hI.out.2.2.2.2.2 e).1⟩;have hnew:Hid (l=[]→dU S.H.ma S.T=kZ f s ct):=Lib.hid (fun e=>by obtain⟨k1,k2⟩:=(hI.out.2.2.2.2.2 e).2.2 (hM1.out e);rw[k1,k2];exact IL hf40 hs60 hc80);obtain⟨m5,hm5⟩:∃m,S.H.ma=m:=⟨_,rfl⟩;obtain⟨T5,hT5⟩:∃T,S.T=T:=⟨_,rfl⟩;have hI1:Hid (S.H.ma=tabs m5 T5 0∧S.T=T5∧S.H.sp.length=M∧Nv S∧S.H.m.fs.length=f∧S.H.dk.blocks.length=ct∧(l=[]→S.l=[])):=Lib.hid (by rw[←hm5,←hT5];exact hI0.out);rw[hm5,hT5] at hT6 hnew;have hspl:S.H.sp.length=M:=hI.out.2.2.1;clear hI hI0 hm5 hT5;have hc:=hm.blk.cell;unfold iQ at hc;rw[hspl] at hc;clear hspl;go_upto_region 41 with (fail);clear hc
    go_loopw [200] (fun k wr => ∃(q:Nat) (S:MW),q≤M∧k = .int .i64 q∧dW wr b b S∧MS w4 b S3 wr S∧Hid (S.H.ma=tabs m5 T5 q∧S.T=T5∧S.H.sp.length=M∧Nv S∧S.H.m.fs.length=f∧S.H.dk.blocks.length=ct∧(l=[]→S.l=[]))) (fun k _=>M-(intOf k).toNat)
    case atStart=>exact⟨0,S,aS _,rfl,hm,hs,hI1⟩
    case round=>
     clear hm hs hI1;obtain⟨q,S,hq,rfl,hm,hs,hI⟩:=hrel
     by_cases hqM:q<M
     ·have hqi:(q:Int)<(M:Int):=by omega
      obtain⟨P,hP⟩:∃P,S.H.sp[q]?=some P:=⟨_,aG (by rw[hI.out.2.2.1];exact hqM)⟩;obtain⟨g,off,cur0,hap,_,_,_,_⟩:=hm.setTb hP;have hTl:S.T.length=M:=by rw[hI.out.2.1];exact hT6.out.2.1
      obtain⟨gt,ot,ct',curt,hvt,_,hgt,hgts,hgtc,_⟩:=hm.tt.put xS (by decide) q (by omega);have hab:S.ab=some ⟨gt,ot,none⟩:=(nQ hvt).1;have h64:(eP T5 q).length=64:=hT6.out.1.ok.l64 (by rw[hT6.out.2.2];exact hqM);have hTq:S.T[q]'(by omega)=eP T5 q:=by rw[←dW.lst_len (by omega),hI.out.2.1]
      have hrdT:∀W,Below wr.heap.size wr W→dN W (some ⟨gt,ot+q*192,none⟩) (wB (eP T5 q)).toList:=fun W hb j u hj=>by refine⟨gt,ot+q*192,rfl,?_⟩;have e1:=hgtc j u (by rw[hTq,VR h64];exact hj);rw[hgt.cell] at e1;rw[(hgt.ext hb).cell];exact e1
      have hsp':=Lib.hid hI.out.2.2.1;have hTl':=Lib.hid hTl;have hap':=Lib.hid hap;have hab':=Lib.hid hab;have h64':=Lib.hid h64;have hsz64:(wB (eP T5 q)).toList.length=192:=by rw[iC,tX,h64]
      have hsz':=Lib.hid hsz64;have hP':=Lib.hid hP;have hrdT':=Lib.hid hrdT;clear hvt hgtc hTq hTl hap hab h64 hsz64 hP hrdT hgt hgts;go_upto_region 43 with (fail);refine aK 16 [_,_,_,_,_,_,_,_,_,_,_,_,_,.r 13 ((Kh b (fT (eP T5 q)))),_,_] (Gk rfl (Gk rfl (Gf b 1 rfl rfl (Gf b 11 rfl rfl (Gl hm.blk (V:=.slice (some ⟨g,off,none⟩) M S.H.cp) (by simp[iQ,hap'.out,hsp'.out]) rfl rfl rfl rfl (Gk rfl (Gk rfl (Gk rfl (Gf b 12 rfl rfl (Gl hm.blk (V:=.slice (some ⟨gt,ot,none⟩) M S.cb) (by simp[iQ,hab'.out,hTl'.out]) rfl rfl rfl rfl (Gk rfl (Gr (.pointer (some ⟨gt,ot+q*192,none⟩)) (fun ρ y W hb hKn=>(bv rfl (aD rfl hKn) (aD rfl hKn) hqM underlying75 arr64_size)) rfl rfl (Gr (.agg (wB (eP T5 q))) (fun ρ y W hb hKn=>(bB rfl (aD rfl hKn) (hrdT'.out W hb) underlying90 rfl (arr64_size.trans (congrArg some hsz'.out.symm)))) rfl rfl (ag ?_ (Gr (.pointer (some ⟨g,off+q*10,none⟩)) (fun ρ y W hb hKn=>(bv rfl (aD rfl hKn) (aD rfl hKn) hqM underlying39 space_size)) rfl rfl (Gf g (off+q*10+2) rfl rfl (aB))))))))))))))))) (fun _=>rfl) rfl ?_
      ·intro ρ y W hw hn hb hd;have E215:=hw 215 12 rfl;have h12:y 12=_:=hd 12 rfl;have EF:∀f,ρ (.func f) = .func (.func f) #[] #[]:=fun f=>hn (.func f) trivial;refine aO _ _ (ah rfl) (aQ rfl (EF _) func36 (by kernel_rfl) (by kernel_rfl) (by simp only[bP,bM,bN,E215,h12,EF];rfl)) ?_;refine (Ky (eP T5 q) W h64'.out).mono ?_;rintro e w1 ⟨ca,rfl,hO,hb1⟩;exact⟨_,rfl,hb1,⟨_,rfl,hO.mono (hm.below hb).bs⟩⟩
      intro y W9 hbW9 hRW9;have hy13:=hRW9 13 (by decide);clear hRW9;obtain⟨cs,hy13e,hTO⟩:∃cs,y 13 = .agg cs∧qD W9 b cs (fT (eP T5 q)):=hy13;obtain⟨v,rfl⟩:=QD hTO.sz;rw[hy13e];have hm9:=hm.below hbW9;have hs9:=hs.below hbW9;clear hm hs hbW9 hy13e;obtain⟨g2,off2,cur,hap2,hgB2,hblk2,hfit2,hset2⟩:=hm9.setTb hP'.out;rw[hap'.out] at hap2;obtain⟨rfl,rfl⟩:g=g2∧off=off2:=by have:=aJ hap2;exact⟨congrArg Addr.block this,congrArg Addr.off this⟩
      have hkb9:mE b S g:=.inr (by simp[gV,hap'.out,oB,Value.ownBlock]);clear hap2
      go_wp2_with (refine aA rfl _ _ _ rfl g (off+q*10+2) _ (ng v).toList rfl rfl rfl _ _ hblk2 (by show off+q*10+2+8≤cur.size;exact hfit2) (by kernel_rfl) (Sc hTO.rd) ?_)
      intro w10 hb10 hg10;have hm10:=hset2 w10 v _ hTO hb10 hg10;have hs10:MS w4 b S3 w10 { S with H:={ S.H with sp:=S.H.sp.set q { P with ts:=v,tb:=fT (eP T5 q) } } }:=hs9.put hg10 hkb9 (fun x hx => .inl hx);have hI10:Hid (({ S with H:={ S.H with sp:=S.H.sp.set q { P with ts:=v,tb:=fT (eP T5 q) } } }:MW).H.ma=tabs m5 T5 (q+1)∧S.T=T5∧(S.H.sp.set q { P with ts:=v,tb:=fT (eP T5 q) }).length=M∧Nv { S with H:={ S.H with sp:=S.H.sp.set q { P with ts:=v,tb:=fT (eP T5 q) } } }∧S.H.m.fs.length=f∧S.H.dk.blocks.length=ct∧(l=[]→S.l=[])):=Lib.hid (by
       obtain⟨q1,q2,q3,q4,q5⟩:=hI.out;refine⟨?_,q2,by rw[bI];exact q3,fun p hp n x hx => ?_,q5⟩
       ·show MH.ma { S.H with sp:=S.H.sp.set q { P with ts:=v,tb:=fT (eP T5 q) } }=_;rw[MV hP'.out,q1];rfl
       rcases mM hp with hp|rfl
       ·exact q4 p hp n x hx
       ·exact q4 P (bQ hP'.out) n x hx)
      clear hm9 hs9 hblk2 hfit2 hset2 hb10 hg10 hTO hI hkb9;go_wp2;go_roundw
      case rel=>exact⟨q+1,_,by omega,by go_num,hm10,hs10,hI10⟩
      case measure=>simp[intOf];omega
     have hqi:¬(q:Int)<(M:Int):=by omega
     have hIm:Hid (S.H.ma=dU m5 T5):=Lib.hid (by
      have e:q=m5.sp.length:=by rw[hT6.out.2.2];omega
      rw[hI.out.1,e];exact RB)
     have hI7:Hid (Rt S.H.ma∧Co S.H.ma∧Nv S∧S.H.m.fs.length=f∧S.H.dk.blocks.length=ct∧(1≤S.H.sp.length∧S.H.sp.length≤2)∧(l=[]→S.H.ma=kZ f s ct∧S.l=[])):=Lib.hid (by obtain⟨q1,q2,q3,q4,q5,q6,q7⟩:=hI.out;exact⟨by rw[hIm.out];exact hT6.out.1.rt,by rw[hIm.out];exact hT6.out.1.co,q4,q5,q6,by omega,fun e=>⟨by rw[hIm.out];exact hnew.out e,q7 e⟩⟩);clear hI hIm
     by_cases hf0:0<f
     ·have hfi:(0:Int)<(f:Int):=by omega
      go_wp2_with fail
      refine (fo S (f:Int) b b _ hm (by omega)).mono ?_;rintro r w11 ⟨x,a11,c11,l11,rfl,hm11,hs11,hx,hx0⟩;have hs11:=hs.trans hs11;clear hm hs
      go_wp2_with (refine aA rfl _ _ _ rfl b 2 _ [.int .i64 x] rfl rfl rfl _ _ hm11.blk (by show 2+1≤13;omega) (by kernel_rfl) (fun u hu=>by cases bq.1 hu;rfl) ?_)
      intro w12 hb12 hg12;have hm:=hm11.setH hb12 hg12;have hs:MS w4 b S3 w12 { (S.lst a11 c11 l11) with H:={ (S.lst a11 c11 l11).H with m:=⟨(S.lst a11 c11 l11).H.m.fs,x⟩ } }:=hs11.put hg12 (.inl rfl) (fun x hx => .inl hx);have hI:Hid (Rt ({ (S.lst a11 c11 l11) with H:={ (S.lst a11 c11 l11).H with m:=⟨(S.lst a11 c11 l11).H.m.fs,x⟩ } }:MW).H.ma∧Co ({ (S.lst a11 c11 l11) with H:={ (S.lst a11 c11 l11).H with m:=⟨(S.lst a11 c11 l11).H.m.fs,x⟩ } }:MW).H.ma∧Nv ({ (S.lst a11 c11 l11) with H:={ (S.lst a11 c11 l11).H with m:=⟨(S.lst a11 c11 l11).H.m.fs,x⟩ } }:MW)∧({ (S.lst a11 c11 l11) with H:={ (S.lst a11 c11 l11).H with m:=⟨(S.lst a11 c11 l11).H.m.fs,x⟩ } }:MW).H.m.fs.length=f∧({ (S.lst a11 c11 l11) with H:={ (S.lst a11 c11 l11).H with m:=⟨(S.lst a11 c11 l11).H.m.fs,x⟩ } }:MW).H.dk.blocks.length=ct∧(1≤({ (S.lst a11 c11 l11) with H:={ (S.lst a11 c11 l11).H with m:=⟨(S.lst a11 c11 l11).H.m.fs,x⟩ } }:MW).H.sp.length∧({ (S.lst a11 c11 l11) with H:={ (S.lst a11 c11 l11).H with m:=⟨(S.lst a11 c11 l11).H.m.fs,x⟩ } }:MW).H.sp.length≤2)∧(l=[]→({ (S.lst a11 c11 l11) with H:={ (S.lst a11 c11 l11).H with m:=⟨(S.lst a11 c11 l11).H.m.fs,x⟩ } }:MW).H.ma=kZ f s ct)):=Lib.hid (by
       obtain⟨q1,q2,q3,q4,q5,q6,q7⟩:=hI7.out;have hwm:=(eD _).1 q1.pt.fr;have hh:=TE q1 q2 (x:=x) ((eD _).2 ⟨hwm.1,hwm.2.1,hx.1,by
        rcases hx.2.2 with h|h
        ·exact .inr (by show x<(S.H.m.fs.length:Int);omega)
        ·exact .inl h⟩)
       refine⟨hh.1,hh.2,q3,q4,q5,q6,fun e => ?_⟩;obtain⟨k1,k2⟩:=q7 e;have hx00:x=0:=(hx0 k2).1;subst hx00;have k3:S.H.m.hand=0:=by
        have:=congrArg (fun m:Ma=>m.m.hand) k1;have e2:(kZ f s ct).m.hand=0:=by unfold kZ tV;rw[if_pos ⟨⟨by omega,by omega⟩,⟨by omega,by omega⟩,by omega,by omega⟩,if_pos (by omega)]
        exact this.trans e2
       rw[←k1];show MH.ma { S.H with m:=⟨S.H.m.fs,0⟩ }=MH.ma S.H;have e3:(⟨S.H.m.fs,0⟩:Mem)=S.H.m:=by rw[←k3]
       rw[e3])
      clear hm11 hs11 hb12 hg12 hI7 hx hx0;generalize { (S.lst a11 c11 l11) with H:={ (S.lst a11 c11 l11).H with m:=⟨(S.lst a11 c11 l11).H.m.fs,x⟩ } }=S13 at hm hs hI;skip;have bz:aC w12 w.heap.size (dD noH) 41:=hs.blkN bx4'.out hnb4.out;have hB9:=Lib.hid (Cv hbb.out)
      go_wp2_with (first | (refine ax _ _ rfl b 1 rfl rfl _ hm.rdM _ underlying41 rfl machine_size ?_) | (refine az rfl _ _ _ rfl w.heap.size (dD S13.H) rfl rfl _ _ bz rfl machine_size (iB _) ?_))
      intro wE bE gE;have hE:Hid (uj wE w.heap.size S13.H∧Below w.heap.size w wE):=Lib.hid ⟨(hm.ma.keep bz (by decide) gE).mono (by have:=hB9.out;omega),(FP hbe4.out (hto.out _ _ hs) (by have:=hB9.out;omega) (ay _)).grown gE (aX (aX (by omega) hszl4) hs.size) (fun k hk=>by cases hk;exact ay _)⟩;clear hm hs bz;go_wp2;refine bodyPost_ret (v:=.agg (dD S13.H)) (eu results10 _ _ w.heap.size _ _ _ rfl bE underlying41 rfl machine_size) rfl ?_;obtain⟨q1,q2,q3,q4,q5,q6,q7⟩:=hI.out;exact⟨S13.H,rfl,hE.out.1,hE.out.2,q1,q2,q3,by rw[hcl.out.1];exact q4,by rw[hcl.out.2.2];exact q5,q6,fun e=>by rw[hcl.out.1,hcl.out.2.1,hcl.out.2.2];exact q7 e⟩
     have hfi:¬(0:Int)<(f:Int):=by omega
     have hI:Hid (Rt S.H.ma∧Co S.H.ma∧Nv S∧S.H.m.fs.length=f∧S.H.dk.blocks.length=ct∧(1≤S.H.sp.length∧S.H.sp.length≤2)∧(l=[]→S.H.ma=kZ f s ct)):=Lib.hid ⟨hI7.out.1,hI7.out.2.1,hI7.out.2.2.1,hI7.out.2.2.2.1,hI7.out.2.2.2.2.1,hI7.out.2.2.2.2.2.1,fun e=>(hI7.out.2.2.2.2.2.2 e).1⟩;clear hI7;skip;have bz:aC wr w.heap.size (dD noH) 41:=hs.blkN bx4'.out hnb4.out;have hB9:=Lib.hid (Cv hbb.out)
     go_wp2_with (first | (refine ax _ _ rfl b 1 rfl rfl _ hm.rdM _ underlying41 rfl machine_size ?_) | (refine az rfl _ _ _ rfl w.heap.size (dD S.H) rfl rfl _ _ bz rfl machine_size (iB _) ?_))
     intro wE bE gE;have hE:Hid (uj wE w.heap.size S.H∧Below w.heap.size w wE):=Lib.hid ⟨(hm.ma.keep bz (by decide) gE).mono (by have:=hB9.out;omega),(FP hbe4.out (hto.out _ _ hs) (by have:=hB9.out;omega) (ay _)).grown gE (aX (aX (by omega) hszl4) hs.size) (fun k hk=>by cases hk;exact ay _)⟩;clear hm hs bz;go_wp2;refine bodyPost_ret (v:=.agg (dD S.H)) (eu results10 _ _ w.heap.size _ _ _ rfl bE underlying41 rfl machine_size) rfl ?_;obtain⟨q1,q2,q3,q4,q5,q6,q7⟩:=hI.out;exact⟨S.H,rfl,hE.out.1,hE.out.2,q1,q2,q3,by rw[hcl.out.1];exact q4,by rw[hcl.out.2.2];exact q5,q6,fun e=>by rw[hcl.out.1,hcl.out.2.1,hcl.out.2.2];exact q7 e⟩
theorem new2:kZ (EB 2 40) (EB 2 60) (EB 2 80)=⟨tV 2,AQ 2,oo 2,oo 2,⟨[],2⟩,[],[⟨true,[],zTb⟩]⟩:=by
 have e:EB 2 40=2∧EB 2 60=2∧EB 2 80=2:=by decide
 rw[e.1,e.2.1,e.2.2];rfl
theorem LQ (H:MH) (f:Int) (w:World) (h:BF w H) (hR:Rt H.ma) (hC:Co H.ma) (hf:f<0∨(H.fi.length:Int)≤f) :
  Calls Tryz.prog 23 #[.agg (dD H),.int .i64 f] w fun r w'=>r = .returned (.tuple #[.agg (dD noH),.int .i64 5])∧Below w.heap.size w w':=by
 have hR':=Lib.hid hR;have hC':=Lib.hid hC;have hz0:=Lib.hid (vV hR);clear hR hC;go_enter func23,ntmps23;go_upto_region 1 with (fail);refine qH (fun W=>Code.wp _ _ _ _ W) fun w1 hb1 bx1 rx1 hs1 => ?_;have bx1:aC w1 w.heap.size (dD H) 41:=bx1;have rx1:aC w1 (w.heap.size+1) (dD noH) 41:=rx1;have h1:=h.below hb1;clear h
 go_wp2_with (refine ax _ _ rfl w.heap.size 0 rfl rfl _ bx1.rd _ underlying41 rfl machine_size ?_)
 refine (pu H _ h1).mono ?_;rintro r w2 ⟨rfl,hb2⟩;rw[GH.2 hR'.out];have h2:=h1.below hb2;have bx2:=bx1.ext hb2;have rx2:=rx1.ext hb2;have hbr2:=ae hb1 hb2;clear h1 bx1 rx1 hb1 hb2 hs1;have hc:=bx2.cell;unfold dD at hc
 by_cases h0:f<0
 ·clear hf
  go_wp2_with (refine az rfl _ _ _ rfl (w.heap.size+1) (dD noH) rfl rfl _ _ rx2 rfl mach_size (iB noH) ?_)
  intro we hre hge;have hbre:=hbr2.grown hge hbr2.size (fun k hk=>by cases hk;omega);go_wp2;refine bodyPost_ret (v:=.tuple #[.agg (dD noH),.int .i64 5]) (fH results23 _ _ (w.heap.size+1) _ _ _ _ rfl rfl hre underlying41 rfl mach_size) rfl ?_;exact⟨rfl,hbre⟩
 have h1:(H.fi.length:Int)≤f:=by omega
 clear hf
 go_wp2_with (refine az rfl _ _ _ rfl (w.heap.size+1) (dD noH) rfl rfl _ _ rx2 rfl mach_size (iB noH) ?_)
 intro we hre hge;have hbre:=hbr2.grown hge hbr2.size (fun k hk=>by cases hk;omega);go_wp2;refine bodyPost_ret (v:=.tuple #[.agg (dD noH),.int .i64 5]) (fH results23 _ _ (w.heap.size+1) _ _ _ _ rfl rfl hre underlying41 rfl mach_size) rfl ?_;exact⟨rfl,hbre⟩
theorem KW (H:MH) (w:World) (h:BF w H) (hz:RF H.ma) :
  Calls Tryz.prog 21 #[.agg (dD H)] w fun r w'=>r = .returned (.int .i64 (uO H.m.fs:Int))∧Below w.heap.size w w':=by
 have hf1:H.m.fs.length≤1000:=hz.fs;go_enter func21,ntmps21;go_upto_region 1 with (fail);refine gI (fun W=>Code.wp _ _ _ _ W) fun w1 hb1 bx1 hs1 => ?_;have bx1:aC w1 w.heap.size (dD H) 41:=bx1;have hh:=Lib.hid h;clear h hs1;have hc:=bx1.cell;unfold dD at hc;go_upto_region 3 with (fail);clear hc
 go_loopw [10,3] (fun i n wr => ∃j:Nat,j≤H.m.fs.length∧i = .int .i64 j∧n = .int .i64 (((H.m.fs.take j).countP fun f=>decide (f.r=0):Nat):Int)∧Below w.heap.size w wr) (fun i _ _=>H.m.fs.length-(intOf i).toNat)
 case atStart=>exact⟨0,aS _,rfl,rfl,hb1⟩
 case round=>
  clear hb1 bx1;obtain⟨j,hj,rfl,rfl,hbr⟩:=hrel
  by_cases hjl:j<H.m.fs.length
  ·have hji:(j:Int)<(H.m.fs.length:Int):=by omega
   obtain⟨bf,of,haf,hel⟩:=jH eZ (by decide) (hh.out.below hbr).fr.rd j hjl;have hct:Hid ((H.m.fs.take (j+1)).countP (fun f=>decide (f.r=0))=(H.m.fs.take j).countP (fun f=>decide (f.r=0))+if decide ((H.m.fs[j]).r=0)=true then 1 else 0):=Lib.hid (wF _ _ _ hjl);have hcl:(H.m.fs.take j).countP (fun f=>decide (f.r=0))≤j:=aX vD (by rw[kK];omega);generalize H.m.fs[j]=F at *
   generalize (H.m.fs.take j).countP (fun f=>decide (f.r=0))=C at *
   rw[haf];clear haf
   go_wp2_with (first | (refine ax _ _ rfl bf (of+j*13) rfl rfl _ hel _ underlying81 rfl frame_size ?_) | (refine aI rfl _ _ _ rfl (vK F) rfl rfl rfl frame_size (oZ _) ?_))
   intro w5 hb5 fx5;have hbr5:=ae hbr hb5;clear hb5 hel hbr;have hf5:=fx5.cell;unfold vK at hf5
   by_cases hr:F.r=0
   ·rw[hr] at hf5;have hct' : Hid ((H.m.fs.take (j+1)).countP (fun f=>decide (f.r=0))=C+1):=Lib.hid (by rw[hct.out];simp[hr]);clear hct hr;go_wp2;go_roundw
    case rel=>exact⟨j+1,by omega,by go_num,by rw[hct'.out];go_num,hbr5⟩
    case measure=>simp[intOf];omega
   have hct' : Hid ((H.m.fs.take (j+1)).countP (fun f=>decide (f.r=0))=C):=Lib.hid (by rw[hct.out];simp[hr]);clear hct;go_wp2;go_roundw
   case rel=>exact⟨j+1,by omega,by go_num,by rw[hct'.out],hbr5⟩
   case measure=>simp[intOf];omega
  have hji:¬(j:Int)<(H.m.fs.length:Int):=by omega
  have hct:Hid ((H.m.fs.take j).countP (fun f=>decide (f.r=0))=uO H.m.fs):=Lib.hid (by rw[iF (by omega)];rfl);rw[hct.out];go_wp2;go_ret;exact⟨rfl,hbr⟩
theorem Qq (hm:m=⟨tV 2,AQ 2,oo 2,oo 2,⟨[],2⟩,[],[⟨true,[],zTb⟩]⟩) (hR:Rt m) (hC:Co m):(eX ⟨m,0⟩).2=false∧(eX ⟨m,0⟩).1.m.m.fs.length=2∧qM m=none∧(iV m 0).dk.blocks.length=2∧(iV m 0).sp.length=1:=by
 have hz:∀f,(aT m f).r=0∧(aT m f).d=false:=fun f=>by
  rw[hm]
  match f with
  | 0=>exact⟨rfl,rfl⟩
  | 1=>exact⟨rfl,rfl⟩
  | f+2=>
   have:aT (⟨tV 2,AQ 2,oo 2,oo 2,⟨[],2⟩,[],[⟨true,[],zTb⟩]⟩:Ma) (f+2)=fr0:=by unfold aT;rw[aW,dI (by show 2≤f+2;omega)];rfl
   rw[this];exact⟨rfl,rfl⟩
 obtain⟨_,o,hF,ho⟩:=DY (k:=⟨m,0⟩) hR hC;have hl:m.m.fs.length=2:=by rw[hm];rfl
 refine⟨?_,by rw[hF.len];exact hl,?_,?_,?_⟩
 ·cases e:(eX ⟨m,0⟩).2 with
  | false=>rfl
  | true=>
   exfalso;cases o with
   | none=>exact (ho.1 e) rfl
   | some f=>exact (hF.free f rfl).2.2 (hz f).1
 ·exact Fj fun j _=>by unfold BH;rw[(hz j).2];rfl
 ·rw[hm];decide +kernel
 ·rw[hm];rfl
theorem Tq (w:World):Calls Tryz.prog 18 #[] w fun r w'=>r = .returned (.bool true)∧Below w.heap.size w w':=by
 go_enter func18,ntmps18
 go_wp2_with fail
 refine (DW 2 2 2 none 0 [] w ⟨ay _,by decide,fun _=>rfl,fun i u h=>(by simp at h)⟩).mono ?_;rintro r w1 ⟨H,rfl,ho,hb1,hRt,hCo,_,_,_,_,hnew⟩;have hma:H.ma=⟨tV 2,AQ 2,oo 2,oo 2,⟨[],2⟩,[],[⟨true,[],zTb⟩]⟩:=(hnew rfl).trans new2;obtain⟨n1,n2,n3,n4,n5⟩:=Qq hma hRt hCo;have hsl:Hid (H.ma.sl.length=2):=Lib.hid (by rw[hma];rfl);have hfl:Hid (H.fi.length=0):=Lib.hid (by
  have e:H.ma.st.fs.length=0:=by rw[hma];rfl
  rwa [show H.ma.st.fs.length=H.fi.length from fe _] at e)
 have hn:=Lib.hid (And.intro n1 (And.intro n2 (And.intro n3 (And.intro n4 n5))));have hR:=Lib.hid hRt;have hC:=Lib.hid hCo;have hr1:=ho.rd;clear hnew hma hRt hCo ho n1 n2 n3 n4 n5
 go_wp2_with (refine aI rfl _ _ _ rfl (dD H) rfl rfl rfl machine_size (iB _) ?_)
 intro w2 hb2 bx2;have hr2:=hr1.below hb2;have hbr2:=ae hb1 hb2;clear hr1 hb1 hb2;generalize w1.heap.size=gm at bx2
 go_wp2_with (refine ax _ _ rfl gm 0 rfl rfl _ bx2.rd _ underlying41 rfl machine_size ?_)
 refine (LZ H _ hr2 hR.out hC.out).mono ?_;rintro r w3 ⟨hb3,K,rfl,hoK,hmK⟩;rw[hn.out.1];have hKl:Hid (K.m.fs.length=2):=Lib.hid (by have:=hn.out.2.1;rw[←hmK] at this;exact this);have hr3:=hr2.below hb3;have bx3:=bx2.ext hb3;have hbr3:=ae hbr2 hb3;clear hr2 bx2 hbr2 hb3 hoK hmK
 go_wp2_with (refine aI rfl _ _ _ rfl (dD K) rfl rfl rfl machine_size (iB _) ?_)
 intro w4 hb4 kx4;have hr4:=hr3.below hb4;have bx4:=bx3.ext hb4;have hbr4:=ae hbr3 hb4;clear hr3 bx3 hbr3 hb4;generalize w3.heap.size=gk at kx4
 go_wp2_with (refine ax _ _ rfl gm 0 rfl rfl _ bx4.rd _ underlying41 rfl machine_size ?_)
 refine (LV H _ hr4 hR.out hC.out).mono ?_;rintro r w5 ⟨hb5,N,rfl,hoN,hmN⟩;have hNl:Hid (N.sl.length=2):=Lib.hid (by
  have e:N.ma.sl.length=2:=by rw[hmN];unfold AO;rw[hn.out.2.2.1];exact hsl.out
  exact e)
 rw[hn.out.2.2.1];have hr5:=hr4.below hb5;have bx5:=bx4.ext hb5;have kx5:=kx4.ext hb5;have hbr5:=ae hbr4 hb5;clear hr4 bx4 kx4 hbr4 hb5 hoN hmN
 go_wp2_with (refine aI rfl _ _ _ rfl (dD N) rfl rfl rfl machine_size (iB _) ?_)
 intro w6 hb6 nx6;have hr6:=hr5.below hb6;have bx6:=bx5.ext hb6;have kx6:=kx5.ext hb6;have hbr6:=ae hbr5 hb6;clear hr5 bx5 kx5 hbr5 hb6;generalize w5.heap.size=gn at nx6
 go_wp2_with (refine ax _ _ rfl gm 0 rfl rfl _ bx6.rd _ underlying41 rfl machine_size ?_)
 refine (Df H 0 _ hr6 hR.out hC.out).mono ?_;rintro r w7 ⟨hb7,X,rfl,hoX,hmX⟩;have hXl:Hid (X.dk.blocks.length=2∧X.sp.length=1):=Lib.hid (by have e1:=hn.out.2.2.2.1;have e2:=hn.out.2.2.2.2;rw[←hmX] at e1 e2;exact⟨e1,by rwa [CR] at e2⟩);have hr7:=hr6.below hb7;have bx7:=bx6.ext hb7;have kx7:=kx6.ext hb7;have nx7:=nx6.ext hb7;have hbr7:=ae hbr6 hb7;clear hr6 bx6 kx6 nx6 hbr6 hb7 hoX hmX
 go_wp2_with (refine aI rfl _ _ _ rfl (dD X) rfl rfl rfl machine_size (iB _) ?_)
 intro w8 hb8 xx8;have hr8:=hr7.below hb8;have bx8:=bx7.ext hb8;have kx8:=kx7.ext hb8;have nx8:=nx7.ext hb8;have hbr8:=ae hbr7 hb8;clear hr7 bx7 kx7 nx7 hbr7 hb8;generalize w7.heap.size=gx at xx8
 go_wp2_with (refine ax _ _ rfl gm 0 rfl rfl _ bx8.rd _ underlying41 rfl machine_size ?_)
 refine (LQ H 0 _ hr8 hR.out hC.out (.inr (by rw[hfl.out];decide))).mono ?_;rintro r w9 ⟨rfl,hb9⟩;have kx9:=kx8.ext hb9;have nx9:=nx8.ext hb9;have xx9:=xx8.ext hb9;have hbr9:=ae hbr8 hb9;clear hr8 bx8 kx8 nx8 xx8 hbr8 hb9
 go_wp2_with (refine aI rfl _ _ _ rfl (dD noH) rfl rfl rfl machine_size (iB _) ?_)
 intro w10 hb10 zx10;have kx10:=kx9.ext hb10;have nx10:=nx9.ext hb10;have xx10:=xx9.ext hb10;have hbr10:=ae hbr9 hb10;clear kx9 nx9 xx9 hbr9 hb10 zx10;have ck:=kx10.cell;have cn:=nx10.cell;have cx:=xx10.cell;unfold dD at ck cn cx;rw[hKl.out] at ck;rw[hNl.out] at cn;rw[hXl.out.1,hXl.out.2] at cx;go_wp2;go_ret;exact⟨rfl,hbr10⟩
theorem Kl (f:Fr) (w:World):Calls Tryz.prog 122 #[.agg (vK f)] w fun e w'=>e = .returned (.int .i64 (dR f))∧Below w.heap.size w w':=by
 have hE:∀W,(Op.equalIn 10000 79 (.agg #[.int .u8 f.p[0].toNat,.int .u8 f.p[1].toNat,.int .u8 f.p[2].toNat,.int .u8 f.p[3].toNat,.int .u8 f.p[4].toNat,.int .u8 f.p[5].toNat,.int .u8 f.p[6].toNat,.int .u8 f.p[7].toNat]) (.agg #[.int .u8 0,.int .u8 0,.int .u8 0,.int .u8 0,.int .u8 0,.int .u8 0,.int .u8 0,.int .u8 0])).run Tryz.prog W = .ok (f.p==zPg) W:=VC f.p zPg;have hE9:∀W,(Op.equalIn 9999 79 (.agg #[.int .u8 f.p[0].toNat,.int .u8 f.p[1].toNat,.int .u8 f.p[2].toNat,.int .u8 f.p[3].toNat,.int .u8 f.p[4].toNat,.int .u8 f.p[5].toNat,.int .u8 f.p[6].toNat,.int .u8 f.p[7].toNat]) (.agg #[.int .u8 0,.int .u8 0,.int .u8 0,.int .u8 0,.int .u8 0,.int .u8 0,.int .u8 0,.int .u8 0])).run Tryz.prog W = .ok (f.p==zPg) W:=VM f.p zPg;go_enter func122,ntmps122;unfold vK;cases hp:(f.p==zPg)
 all_goals rw[hp] at hE hE9
 all_goals have hp':=Lib.hid hp
 all_goals clear hp
 all_goals go_wp2
 all_goals go_ret
 all_goals refine⟨?_,(Below.refl _ _).alloc (ay _) _⟩
 all_goals have hp:=hp'.out
 all_goals clear hE hE9 hp'
 all_goals go_light
 all_goals refine congrArg (fun z=>Ending.returned (.int .i64 z)) ?_
 all_goals simp only[dR,De,Fx,Ak,sP,dS,decide_eq_true_eq,ne_eq,bne_iff_ne]
 all_goals simp_all
 all_goals omega
theorem IQ (m:Mem) (a:Option Addr) (c:Nat) (w:World) (h:QX w a c m) :
  Calls Tryz.prog 82 #[.agg #[.slice a m.fs.length c,.int .i64 m.hand]] w fun e w'=>e = .returned (.int .i64 (bK m))∧Below w.heap.size w w':=by
 have hl:=aX h.le h.mx;unfold maxLen at hl;go_enter func82,ntmps82;go_upto_region 1 with (fail);refine gI (fun W=>Code.wp _ _ _ _ W) fun W0 hb0 hx0 hs0 => ?_;clear hs0;have hcx:=hx0.cell
 by_cases h4:40<m.fs.length
 ·have hW:bK m=4:=by unfold bK;rw[if_pos h4]
  have h4' : (40:Int)<(m.fs.length:Int):=by omega
  go_wp2;go_ret;rw[hW];exact⟨rfl,hb0⟩
 have h4' : ¬(40:Int)<(m.fs.length:Int):=by omega
 go_wp2;clear hcx
 go_loopw [13] (fun i wr => ∃k:Nat,k≤m.fs.length∧i = .int .i64 k∧Below w.heap.size w wr∧aC wr w.heap.size #[.slice a m.fs.length c,.int .i64 m.hand] 28∧∀i (h:i<m.fs.length),i<k→dR m.fs[i]=0) (fun i _=>m.fs.length-(intOf i).toNat)
 case atStart=>exact⟨0,aS _,rfl,hb0,hx0,fun i _ h=>absurd h (dO _)⟩
 case round=>
  clear hx0 hb0;obtain⟨k,hk,rfl,hbel,hx,hno⟩:=hrel;have hno':=Lib.hid hno;clear hno
  by_cases hlt:k<m.fs.length
  ·obtain⟨b,off,rfl,hc⟩:=JP (h.below hbel).rd k hlt;obtain⟨c0,c1,c2,c3,c4,c5,c6,c7,c8,c9,ca,cb,cc⟩:=hc;have hkz:(k:Int)<(m.fs.length:Int):=by omega
   have hf:=fun w=>Kl m.fs[k] w;unfold vK at hf
   by_cases he:dR m.fs[k]=0
   ·have he':=Lib.hid he;rw[he] at hf;clear he;go_upto_region 6 with (fail);refine gI (fun W=>Code.wp _ _ _ _ W) fun w1 hb1 hy1 hs1 => ?_;have hbel1:=ae hbel hb1;have hx1:=hx.ext hb1;clear hs1 hbel hx hb1;have hcy:=hy1.cell
    go_wp2_with fail
    refine (hf _).mono ?_;rintro e w2 ⟨rfl,hb2⟩;go_wp2;go_roundw
    case rel=>exact⟨k+1,by omega,by go_num,ae hbel1 hb2,hx1.ext hb2,lH hno'.out hlt he'.out⟩
    case measure=>simp[intOf];omega
   have hW:bK m=dR m.fs[k]:=by have:=firstEf_at _ k hlt hno'.out he;unfold bK;rw[if_neg h4,this,if_pos he]
   have hn:(dR m.fs[k] != 0)=true:=by simpa using he
   have hW':=Lib.hid hW;clear hW;go_upto_region 6 with (fail);refine gI (fun W=>Code.wp _ _ _ _ W) fun w1 hb1 hy1 hs1 => ?_;have hbel1:=ae hbel hb1;clear hs1 hbel hx hb1;have hcy:=hy1.cell
   go_wp2_with fail
   refine (hf _).mono ?_;rintro e w2 ⟨rfl,hb2⟩;go_wp2;go_ret;rw[hW'.out];exact⟨rfl,ae hbel1 hb2⟩
  have h0:firstEf m.fs=0:=firstEf_none _ (fun i hi=>hno'.out i hi (by omega));have hW:bK m=if m.hand<0∨(0<m.hand∧(m.fs.length:Int)≤m.hand) then 3 else 0:=by unfold bK;rw[if_neg h4,h0];rfl
  have hW':=Lib.hid hW;have hcx:=hx.cell;clear hW h0
  by_cases n0:m.hand=0
  ·have nb:(m.hand != 0)=false:=by simp[n0]
   have n0':=Lib.hid n0;clear n0;go_wp2
   all_goals
    go_ret;rw[hW'.out,if_neg (by have:=n0'.out;omega)];exact⟨rfl,hbel⟩
  have nb:(m.hand != 0)=true:=by simpa using n0
  by_cases n1:m.hand<0
  ·go_wp2
   all_goals
    go_ret;rw[hW'.out,if_pos (.inl n1)];exact⟨rfl,hbel⟩
  by_cases n3:(m.fs.length:Int)≤m.hand
  ·go_wp2
   all_goals
    go_ret;rw[hW'.out,if_pos (.inr ⟨by omega,n3⟩)];exact⟨rfl,hbel⟩
  go_wp2
  all_goals
   go_ret;rw[hW'.out,if_neg (by omega)];exact⟨rfl,hbel⟩
def Uc (b:Bool):List Value:=[.bool b]
theorem FY (b:Bool):(Uc b).length=1:=rfl
theorem bool_info:(Tryz.prog.info? 4).map (fun i=>(i.zero,i.size,i.bytes))=some (some (.bool false),1,1):=by kernel_rfl
theorem bool_sz:(Tryz.prog.info? 4).map (·.size)=some 1:=by kernel_rfl
theorem UU (b:Bool):∀u∈[Value.bool b],u.oneCell' = true:=by intro u hu;cases bq.1 hu;rfl
theorem VT {l:List Bool} (h:dN w (some ⟨b,off,none⟩) (l.flatMap Uc)) (i:Nat) (x:Bool) (hx:l[i]?=some x):w.cell? ⟨b,off+i,none⟩=some (.bool x):=by
 have hi:=(bW.1 hx).1;obtain⟨b',off',e,hc⟩:=h.elem FY (by decide) i hi;cases e;have:=hc 0 (.bool x) (by rw[(bW.1 hx).2];rfl);simpa using this
theorem Jc (ps:List PF) (k:Int) (a:Option Addr) (c:Nat) (w:World) (h:Ll w a c ps) (hk64 : -9223372036854775808≤k∧k≤9223372036854775807) :
  Calls Tryz.prog 84 #[.agg (Ox a ps.length c k)] w fun r w'=>r = .returned (.int .i64 (aM (bZ ps k)))∧Below w.heap.size w w':=by
 have hlc:=aX h.le h.mx;unfold maxLen at hlc;unfold Ox;go_enter func84,ntmps84;go_upto_region 1 with (fail);refine gI (fun W=>Code.wp _ _ _ _ W) fun W0 hb0 hx0 hs0 => ?_;clear hs0
 by_cases h4:5<ps.length∨k<0∨80<k
 ·have hfin:Hid (aM (bZ ps k)=4):=Lib.hid (by unfold aM bZ;rw[if_pos (by simpa using h4)]);have hcx:=hx0.cell;have h4' : 5<ps.length∨(¬5<ps.length∧k<0)∨(¬5<ps.length∧¬k<0∧80<k):=by omega
  clear h4;rcases h4' with g|⟨g,g2⟩|⟨g,g2,g3⟩
  all_goals
   go_wp2;go_ret;exact⟨aR hfin.out.symm,hb0⟩
 have hres:Hid (aM (bZ ps k)=ni k (((ps.take 0).map PF.fi).flatMap Fi.b) ((ps.drop 0).map PF.fi)):=Lib.hid (by unfold aM bZ;rw[if_neg (by simpa using h4)];rfl);have g1:¬5<ps.length:=by omega
 have g2:¬k<0:=by omega
 have g3:¬80<k:=by omega
 have hcx:=hx0.cell;clear h4;obtain⟨N,hN⟩:∃N:Nat,k=(N:Int):=⟨k.toNat,by omega⟩;subst hN;have hN80:N≤80:=by omega
 go_upto_region 4 with (refine uk _ rfl _ _ _ rfl Uc 4 _ 1 1 false FY (by decide) underlying118 bool_info rfl .i64 .i64 N N N rfl rfl rfl rfl (by omega) (by unfold maxLen;omega) ?_);clear hcx;intro W1 hM1 hgr1;have hb1:Below W0.heap.size W0 W1:=jW hgr1;have hbel1:=ae hb0 hb1;have hx1:=hx0.ext hb1;have hM1' : Own W1 w.heap.size 4 1 (.slice (some ⟨W0.heap.size,0,none⟩) N N) N ((wC N (((ps.take 0).map PF.fi).flatMap Fi.b)).flatMap Uc):=by simp only[List.take_zero,bN,Gw];rw[Si];exact hM1.mono hb0.size
 obtain⟨gm,hGM⟩:∃g,g=W0.heap.size:=⟨_,rfl⟩;rw[←hGM] at hM1' ⊢;clear hGM hb0 hx0 hb1 hM1 hgr1;have hcx:=hx1.cell;go_upto_region 5 with (fail);clear hcx
 go_loopw [28] (fun i wr => ∃(q:Nat),q≤ps.length∧i = .int .i64 q∧Below w.heap.size w wr∧aC wr w.heap.size #[.slice a ps.length c,.int .i64 (N:Int)] 37∧Own wr w.heap.size 4 1 (.slice (some ⟨gm,0,none⟩) N N) N ((wC N (((ps.take q).map PF.fi).flatMap Fi.b)).flatMap Uc)∧Hid (aM (bZ ps N)=ni N (((ps.take q).map PF.fi).flatMap Fi.b) ((ps.drop q).map PF.fi))) (fun i _=>ps.length-(intOf i).toNat)
 case atStart=>exact⟨0,aS _,rfl,hbel1,hx1,hM1',hres⟩
 case round=>
  clear hbel1 hx1 hM1' hres;obtain⟨q,hq,rfl,hbr,hx,hM,hres⟩:=hrel
  by_cases hlt:q<ps.length
  ·obtain⟨b,off,p,rfl,hp,c0,c1⟩:=Dk (h.below hbr).rd q hlt;have hgw:=h.good p (bQ hp);have hgood:=hgw.below hbr;have hdr:=drop_at hp;have htk:=take_at hp;rw[hdr,bM] at hres;have htk':=Lib.hid htk;clear hdr htk;generalize hseen:((ps.take q).map PF.fi).flatMap Fi.b=seen at hM hres;have hseen':=Lib.hid hseen;clear hseen hp
   go_wp2_with (refine aI rfl _ _ _ rfl (pE p) rfl rfl rfl file_size (oU _) ?_)
   intro w2 hb2 hf2;have hbel2:=ae hbr hb2;have hx2:=hx.ext hb2;have hM2:=hM.below hb2;have hgood2:=hgood.below hb2;clear hbr hx hM hgood hb2 c0 c1;have hcf:=hf2.cell;have f0:(pE p)[0]?=some (.int .i64 p.n):=rfl;have f1:(pE p)[1]?=some (.slice p.a p.l.length p.c):=rfl
   by_cases hn96:p.n<0∨96<p.n
   ·have hfin:Hid (aM (bZ ps N)=3):=Lib.hid (by rw[hres.out,vg,if_pos hn96]);have hn' : p.n<0∨(¬p.n<0∧96<p.n):=by omega
    clear hn96;rcases hn' with g|⟨g,g2⟩
    all_goals
     go_wp2;go_ret;exact⟨aR hfin.out.symm,hbel2⟩
   have hres2:Hid (aM (bZ ps N)=if (p.l.length:Int)≠dZ p.n then 2 else if gu N seen p.l≠0 then gu N seen p.l else ni N (seen++p.l) ((ps.drop (q+1)).map PF.fi)):=Lib.hid (by rw[hres.out,vg,if_neg hn96]);have g4:¬p.n<0:=by omega
   have g5:¬96<p.n:=by omega
   clear hn96 hres
   by_cases hcnt:(p.l.length:Int)=dZ p.n
   ·have hres3:Hid (aM (bZ ps N)=if gu N seen p.l≠0 then gu N seen p.l else ni N (seen++p.l) ((ps.drop (q+1)).map PF.fi)):=Lib.hid (by rw[hres2.out,if_neg (fun hh=>hh hcnt)]);have hl12:p.l.length≤12:=by have:=xn (n:=p.n) (by omega);omega
    have hcc:=Lib.hid hcnt;clear hres2 hcnt;go_upto_region 9 with (fail);refine aK 7 [_,_,_,_,_,.v (.int .i64 (dZ p.n)),_] (Gf wr.heap.size 1 rfl rfl (Gl hf2 (V:=.slice p.a p.l.length p.c) (by simp[f1,underlying29]) rfl rfl rfl rfl (Gn rfl rfl rfl rfl (Gf wr.heap.size 0 rfl rfl (Gl hf2 (V:=.int .i64 p.n) (by simp[f0]) rfl rfl rfl rfl (ag ?_ (Gb (.bool false) (by simp[go_sem,hcc.out]) rfl rfl rfl rfl rfl (aB))))) (underlying29)))) (fun _=>rfl) rfl ?_
    ·intro ρ y W hw hn hb hd;have E44:=hw 44 4 rfl;have h4:y 4=_:=hd 4 rfl;have EF:∀f,ρ (.func f) = .func (.func f) #[] #[]:=fun f=>hn (.func f) trivial;refine aO _ _ (ah rfl) (aQ rfl (EF _) func31 (by kernel_rfl) (by kernel_rfl) (by simp only[bP,bM,bN,E44,h4,EF];rfl)) ?_;refine (xP p.n W (by omega)).mono ?_;rintro e w1 ⟨rfl,rfl⟩;exact⟨_,rfl,Below.refl _ _,rfl⟩
    intro y WA hbWA _;have hbelA:=ae hbel2 hbWA;have hxA:=hx2.ext hbWA;have hMA:=hM2.below hbWA;have hfA:=hf2.ext hbWA;have hgA:=hgood2.below hbWA;clear hbel2 hx2 hM2 hf2 hgood2 hbWA hcf;have hcf:=hfA.cell;have hB0:Hid (gu N seen p.l=gu N (seen++p.l.take 0) (p.l.drop 0)):=Lib.hid (by simp);have hM0:Own WA w.heap.size 4 1 (.slice (some ⟨gm,0,none⟩) N N) N ((wC N (seen++p.l.take 0)).flatMap Uc):=by simpa using hMA
    have hle:=hgA.le;have hmx:=hgA.mx;have hrdp:=hgA.rd;unfold maxLen at hmx;clear hMA hgA;go_upto_region 12 with (fail);clear hcf f0 f1 hfA
    go_loopw [50] (fun i wr => ∃(j:Nat),j≤p.l.length∧i = .int .i64 j∧Below w.heap.size w wr∧aC wr w.heap.size #[.slice (some ⟨b,off,none⟩) ps.length c,.int .i64 (N:Int)] 37∧Own wr w.heap.size 4 1 (.slice (some ⟨gm,0,none⟩) N N) N ((wC N (seen++p.l.take j)).flatMap Uc)∧dN wr p.a (p.l.map fM)∧Hid (gu N seen p.l=gu N (seen++p.l.take j) (p.l.drop j))) (fun i _=>p.l.length-(intOf i).toNat)
    case atStart=>exact⟨0,aS _,rfl,hbelA,hxA,hM0,hrdp,hB0⟩
    case round=>
     clear hbelA hxA hM0 hrdp hB0;obtain⟨j,hj,rfl,hbr,hx,hM,hrp,hB⟩:=hrel
     by_cases hjl:j<p.l.length
     ·obtain⟨x,hX⟩:∃x,p.l[j]?=some x:=⟨p.l[j],aG hjl⟩;obtain⟨b2,off2,hpa,hc⟩:=jl hrp j hjl;rw[show p.l[j]=x from (bW.1 hX).2] at hc;have hdr:=drop_at hX;have htk:=take_at hX;rw[hdr,uF] at hB;rw[hpa];generalize hs2:seen++p.l.take j=seen2 at hB hM;have htk2:Hid (seen++p.l.take (j+1)=seen2++[x]):=Lib.hid (by rw[htk,←jC,hs2]);have hrp':=Lib.hid hrp;have hpa':=Lib.hid hpa;have hcx:=hx.cell;clear hX hdr htk hs2 hrp hpa;have hjl' : (j:Int)<(p.l.length:Int):=by omega
      by_cases hr3:x < -1∨(N:Int)≤x
      ·have hfin:Hid (aM (bZ ps N)=3):=Lib.hid (by rw[hres3.out,hB.out,if_pos hr3];rfl);have hr3' : x < -1∨(¬x < -1∧(N:Int)≤x):=by omega
       clear hr3;rcases hr3' with g6|⟨g6,g7⟩
       all_goals
        go_wp2;go_ret;exact⟨aR hfin.out.symm,hbr⟩
      have g6:¬x < -1:=by omega
      have g7:¬(N:Int)≤x:=by omega
      have hB2:Hid (gu N seen p.l=if 0≤x∧x∈seen2 then 7 else gu N (seen2++[x]) (p.l.drop (j+1))):=Lib.hid (by rw[hB.out,if_neg hr3]);clear hB hr3
      by_cases hx0:x<0
      ·have e1:x = -1:=by omega
       have hB3:Hid (gu N seen p.l=gu N (seen++p.l.take (j+1)) (p.l.drop (j+1))):=Lib.hid (by rw[hB2.out,if_neg (by omega),htk2.out]);have hM3:Own wr w.heap.size 4 1 (.slice (some ⟨gm,0,none⟩) N N) N ((wC N (seen++p.l.take (j+1))).flatMap Uc):=by rw[htk2.out,Qi _ _ _ hx0];exact hM
       have hrp3:dN wr (some ⟨b2,off2,none⟩) (p.l.map fM):=by rw[←hpa'.out];exact hrp'.out
       clear hB2 hM;go_wp2;go_roundw
       case rel=>exact⟨j+1,by omega,by go_num,hbr,hx,hM3,hrp3,hB3⟩
       case measure=>simp[intOf];omega
      obtain⟨X,hXX⟩:∃X:Nat,x=(X:Int):=⟨x.toNat,by omega⟩;subst hXX;have hXN:X<N:=by omega
      have hXN' : (X:Int)<(N:Int):=by omega
      obtain⟨_,_,hve,_,_,_,hMr⟩:=hM.rd;simp only[lY] at hve;obtain⟨rfl,_,rfl⟩:=hve;have hcb:=VT hMr X (decide ((X:Int)∈seen2)) (Ic N seen2 X hXN);rw[ed] at hcb;clear hMr
      by_cases h7:(X:Int)∈seen2
      ·have hfin:Hid (aM (bZ ps N)=7):=Lib.hid (by rw[hres3.out,hB2.out,if_pos (show 0≤(X:Int)∧(X:Int)∈seen2 from ⟨by omega,h7⟩)];rfl);rw[decide_eq_true h7] at hcb;clear h7 hB2;go_wp2;go_ret;exact⟨aR hfin.out.symm,hbr⟩
      have hB3:Hid (gu N seen p.l=gu N (seen++p.l.take (j+1)) (p.l.drop (j+1))):=Lib.hid (by rw[hB2.out,if_neg (fun hh=>h7 hh.2),htk2.out]);rw[decide_eq_false h7] at hcb;clear h7 hB2;obtain⟨g3,off3,cap3,cur3,hve,hBg3,hbg3,hfit3,hset3⟩:=kW FY (by decide) (zA N seen2) hM X hXN;cases hve
      go_wp2_with (refine aA rfl _ _ _ rfl gm X _ [.bool true] rfl rfl rfl cur3 4 hbg3 (by simpa using hfit3) bool_sz (UU true) ?_)
      intro w6 hb6 hgr6;have hM6:=hset3 w6 true (by rw[ed,rP];exact hb6);rw[RX _ _ _ hXN,←htk2.out] at hM6;have hbel6:=hbr.grown hgr6 hbr.size (fun k hk=>by cases hk;exact hBg3);have hx6:=bu hx hbg3 (by decide) hgr6;have hrp6:dN w6 (some ⟨b2,off2,none⟩) (p.l.map fM):=by have h9:=hgw.rd.below hbel6;rw[hpa'.out] at h9;exact h9
      clear hbr hx hM hgr6 hcx hc hset3 hbg3 hb6 hcb hfit3;go_wp2;go_roundw
      case rel=>exact⟨j+1,by omega,by go_num,hbel6,hx6,hM6,hrp6,hB3⟩
      case measure=>simp[intOf];omega
     have hfin:Hid (aM (bZ ps N)=ni N (((ps.take (q+1)).map PF.fi).flatMap Fi.b) ((ps.drop (q+1)).map PF.fi)):=Lib.hid (by
      have e0:gu N seen p.l=0:=by rw[hB.out,pV (by omega)];rfl
      rw[hres3.out,if_neg (fun hh=>hh e0),htk'.out,jf,eT,hseen'.out];simp[PF.fi])
     have hMq:Own wr w.heap.size 4 1 (.slice (some ⟨gm,0,none⟩) N N) N ((wC N (((ps.take (q+1)).map PF.fi).flatMap Fi.b)).flatMap Uc):=by rw[iF (by omega)] at hM;rw[htk'.out,jf,eT,hseen'.out];simpa[PF.fi] using hM
     have hjl' : ¬(j:Int)<(p.l.length:Int):=by omega
     clear hM hB hres3;go_wp2;go_roundw
     case rel=>exact⟨q+1,by omega,by go_num,hbr,hx,hMq,hfin⟩
     case measure=>simp[intOf];omega
   have hfin:Hid (aM (bZ ps N)=2):=Lib.hid (by rw[hres2.out,if_pos hcnt]);have hcc:((p.l.length:Int) != dZ p.n)=true:=by rw[bne_iff_ne];exact hcnt
   clear hres2 hcnt;go_upto_region 9 with (fail);refine aK 7 [_,_,_,_,_,.v (.int .i64 (dZ p.n)),_] (Gf wr.heap.size 1 rfl rfl (Gl hf2 (V:=.slice p.a p.l.length p.c) (by simp[f1,underlying29]) rfl rfl rfl rfl (Gn rfl rfl rfl rfl (Gf wr.heap.size 0 rfl rfl (Gl hf2 (V:=.int .i64 p.n) (by simp[f0]) rfl rfl rfl rfl (ag ?_ (Gb (.bool true) (by simp[go_sem,hcc]) rfl rfl rfl rfl rfl (aB))))) (underlying29)))) (fun _=>rfl) rfl ?_
   ·intro ρ y W hw hn hb hd;have E44:=hw 44 4 rfl;have h4:y 4=_:=hd 4 rfl;have EF:∀f,ρ (.func f) = .func (.func f) #[] #[]:=fun f=>hn (.func f) trivial;refine aO _ _ (ah rfl) (aQ rfl (EF _) func31 (by kernel_rfl) (by kernel_rfl) (by simp only[bP,bM,bN,E44,h4,EF];rfl)) ?_;refine (xP p.n W (by omega)).mono ?_;rintro e w1 ⟨rfl,rfl⟩;exact⟨_,rfl,Below.refl _ _,rfl⟩
   intro y WA hbWA _;go_wp2;go_ret;exact⟨aR hfin.out.symm,ae hbel2 hbWA⟩
  have hfin:Hid (aM (bZ ps N)=0):=Lib.hid (by rw[hres.out,pV (by omega)];rfl);go_wp2;go_ret;exact⟨aR hfin.out.symm,hbr⟩
theorem Jz {s:St} {b:Int} (h:b∈kE s):gD s b=true:=by
 cases hu:gD s b with
 | true=>rfl
 | false=>exact absurd h (GL hu)
theorem UX {t:Tb} (h:cK t=0) (h0:∀n,(dG t n).k=0):t=zTb:=
 UK h zTb_right fun n=>by
  rw[vH];have h1:=(dw _).1 (qU h n);have h2:=h0 n;rcases h1 with ⟨_,e1,e2⟩|⟨e,_⟩|⟨e,_⟩
  ·generalize dG t n=x at *
   obtain⟨a,b,c⟩:=x;simp only at h2 e1 e2;subst h2;subst e1;subst e2;rfl
  ·omega
  ·omega
theorem OO (H:MH) (w:World) (h:BF w H) (hR:Rt H.ma) :
  Calls Tryz.prog 48 #[.agg (dD H)] w fun r w'=>r = .returned (.int .i64 0)∧Below w.heap.size w w':=by
 have hh:=Lib.hid h;have hR':=Lib.hid hR;have hpt:=Lib.hid hR.pt;have z1:H.dk.blocks.length≤1000:=(vV hR).dkb;have z2:H.dk.queue.length≤1000:=(vV hR).dkq;clear hR;go_enter func48,ntmps48;go_upto_region 1 with (fail);refine gI (fun W=>Code.wp _ _ _ _ W) fun w1 hb1 bx1 hs1 => ?_;have bx1:aC w1 w.heap.size (dD H) 41:=bx1;have h1:=h.below hb1;clear h hs1;have r1:dN w1 (some ⟨w.heap.size,0,none⟩) [.slice H.af H.m.fs.length H.cf,.int .i64 H.m.hand]:=bF bx1 0 2
 go_wp2_with (refine ax _ _ rfl w.heap.size 0 rfl rfl _ r1 _ underlying28 rfl mem_size ?_)
 refine (IQ H.m H.af H.cf _ h1.fr).mono ?_;rintro r w2 ⟨rfl,hb2⟩;rw[show bK H.m=0 from hpt.out.fr];have h2:=h1.below hb2;have bx2:=bx1.ext hb2;have hbr2:=ae hb1 hb2;clear h1 bx1 hb1 hb2 r1;have hc:=bx2.cell;unfold dD at hc
 go_wp2_with fail
 refine (IW H.sl H.asl H.csl _ h2.sl.rd (by have:=h2.sl.le;have:=h2.sl.mx;unfold maxLen at this;omega)).mono ?_;rintro r w2' ⟨rfl,rfl⟩;rw[show dm H.sl=0 from hpt.out.sl];clear hc;have r2:dN w2' (some ⟨w.heap.size,3,none⟩) [.slice H.wb H.sw.blocks.length H.cwb,.slice H.wq H.sw.queue.length H.cwq]:=bF bx2 3 2
 go_wp2_with (refine ax _ _ rfl w.heap.size 3 rfl rfl _ r2 _ underlying34 rfl disk_size ?_)
 refine (rX H.sw H.wb H.cwb H.wq H.cwq _ h2.sw).mono ?_;rintro r w3 ⟨rfl,hb3⟩;rw[show bn H.sw=0 from hpt.out.sw];have h3:=h2.below hb3;have bx3:=bx2.ext hb3;have hbr3:=ae hbr2 hb3;clear h2 bx2 hbr2 hb3 r2;have r3:dN w3 (some ⟨w.heap.size,5,none⟩) [.slice H.db H.dk.blocks.length H.cdb,.slice H.dq H.dk.queue.length H.cdq]:=bF bx3 5 2
 go_wp2_with (refine ax _ _ rfl w.heap.size 5 rfl rfl _ r3 _ underlying34 rfl disk_size ?_)
 refine (rX H.dk H.db H.cdb H.dq H.cdq _ h3.dk).mono ?_;rintro r w4 ⟨rfl,hb4⟩;rw[show bn H.dk=0 from hpt.out.dk];have h4:=h3.below hb4;have bx4:=bx3.ext hb4;have hbr4:=ae hbr3 hb4;clear h3 bx3 hbr3 hb4 r3;have r4:dN w4 (some ⟨w.heap.size,7,none⟩) [.slice H.ai H.fi.length H.ci,.int .i64 H.ct]:=bF bx4 7 2
 go_wp2_with (refine ax _ _ rfl w.heap.size 7 rfl rfl _ r4 _ underlying37 rfl store_size ?_)
 refine (Jc H.fi H.ct H.ai H.ci _ h4.st h4.c64).mono ?_;rintro r w5 ⟨rfl,hb5⟩;rw[show aM (bZ H.fi H.ct)=0 from hpt.out.st];have bx5:=bx4.ext hb5;have hbr5:=ae hbr4 hb5;clear h4 bx4 hbr4 hb5 r4;have l1:Hid (H.sw.blocks.length=H.sl.length):=Lib.hid hpt.out.swl;have l2:Hid ((H.dk.blocks.length:Int)=H.ct):=Lib.hid hpt.out.dkl;have hc:=bx5.cell;unfold dD at hc;rw[←l2.out,l1.out] at hc;go_upto_region 18 with (fail);rw[←l1.out,l2.out] at hc;go_wp2
 go_loopw [68] (fun s68 wr => ∃k:Nat,k≤H.dk.blocks.length∧s68 = .int .i64 k∧Below w.heap.size w wr∧aC wr w.heap.size (dD H) 41) (fun s68 _=>H.dk.blocks.length-(intOf s68).toNat)
 case atStart=>exact⟨0,aS _,rfl,hbr5,bx5⟩
 case round=>
  clear hbr5 bx5 hc;obtain⟨k,hk,rfl,hbr,bx⟩:=hrel;have hM:=hh.out.below hbr
  by_cases hkl:k<H.dk.blocks.length
  ·obtain⟨bd,od,hda,hrd⟩:=jH jJ (by decide) hM.dk.rb k hkl;have hki:(k:Int)<(H.dk.blocks.length:Int):=by omega
   have hor:Hid ((k:Int)∈kE H.ma.st∨H.dk.blocks[k]=zPg):=Lib.hid (by
    have:=hR'.out.trim.1 k (by omega) (by exact_mod_cast hkl);rw[bU] at this;have e:H.ma.dk.blocks.getD k zPg=H.dk.blocks[k]:=by show H.dk.blocks.getD k zPg=_;rw[aW,aG hkl];rfl
    rw[e] at this;exact this)
   generalize H.dk.blocks[k]=P at *
   rw[hda]
   go_wp2_with (first | (refine ax _ _ rfl bd (od+k*8) rfl rfl _ hrd _ underlying79 rfl psize ?_) | (refine aI rfl _ _ _ rfl (iq P) rfl rfl rfl psize (ja _) ?_))
   intro w6 hb6 px6;have hbr6:=ae hbr hb6;have bx6:=bx.ext hb6;have hM6:=hM.below hb6;clear hbr bx hb6 hrd hM;have r6:dN w6 (some ⟨w.heap.size,7,none⟩) [.slice H.ai H.fi.length H.ci,.int .i64 H.ct]:=bF bx6 7 2
   go_wp2_with (refine ax _ _ rfl w.heap.size 7 rfl rfl _ r6 _ underlying37 rfl store_size ?_)
   refine (Ay H.fi H.ct k H.ai H.ci _ hM6.st).mono ?_;rintro r w7 ⟨rfl,hb7⟩;have hbr7:=ae hbr6 hb7;have bx7:=bx6.ext hb7;have px7:=px6.ext hb7;clear hbr6 bx6 hM6 px6 hb7 r6;cases hu:gD (bZ H.fi H.ct) (k:Int) with
   | true=>
    clear px7;go_wp2;go_roundw
    case rel=>exact⟨k+1,by omega,by go_num,hbr7,bx7⟩
    case measure=>simp[intOf];omega
   | false=>
    have hP:P=zPg:=by
     rcases hor.out with e|e
     ·have h9:=Jz e;exact absurd (h9.symm.trans hu) (by decide)
     ·exact e
    subst hP;have hcp:=px7.cell;rw[lit0] at hcp;have hE:∀W,(Op.equalIn 10000 79 (.agg #[.int .u8 0,.int .u8 0,.int .u8 0,.int .u8 0,.int .u8 0,.int .u8 0,.int .u8 0,.int .u8 0]) (.agg #[.int .u8 0,.int .u8 0,.int .u8 0,.int .u8 0,.int .u8 0,.int .u8 0,.int .u8 0,.int .u8 0])).run Tryz.prog W = .ok true W:=fun W=>VC zPg zPg W;go_wp2;go_roundw
    case rel=>exact⟨k+1,by omega,by go_num,hbr7,bx7⟩
    case measure=>simp[intOf];omega
  have hki:¬(k:Int)<(H.dk.blocks.length:Int):=by omega
  have hc:=bx.cell;unfold dD at hc;clear hM;go_wp2
  go_loopw [88] (fun s88 wr => ∃k:Nat,k≤H.dk.queue.length∧s88 = .int .i64 k∧Below w.heap.size w wr∧aC wr w.heap.size (dD H) 41) (fun s88 _=>H.dk.queue.length-(intOf s88).toNat)
  case atStart=>exact⟨0,aS _,rfl,hbr,bx⟩
  case round=>
   clear hbr bx hc hki;obtain⟨k,hk,rfl,hbr,bx⟩:=hrel;have hM:=hh.out.below hbr
   by_cases hkl:k<H.dk.queue.length
   ·obtain⟨bd,od,hda,hrd⟩:=jH uQ (by decide) hM.dk.rq k hkl;have hki:(k:Int)<(H.dk.queue.length:Int):=by omega
    have hus:gD (bZ H.fi H.ct) (H.dk.queue[k]).1=true:=Jz (hR'.out.trim.2 _ (dP hkl));generalize H.dk.queue[k]=X at *
    rw[hda]
    go_wp2_with (first | (refine ax _ _ rfl bd (od+k*9) rfl rfl _ hrd _ underlying86 rfl put_size ?_) | (refine aI rfl _ _ _ rfl (Ep X) rfl rfl rfl put_size (NB _) ?_))
    intro w6 hb6 px6;have hbr6:=ae hbr hb6;have bx6:=bx.ext hb6;have hM6:=hM.below hb6;clear hbr bx hb6 hrd hM;have hcp:=px6.cell;unfold Ep at hcp;have r6:dN w6 (some ⟨w.heap.size,7,none⟩) [.slice H.ai H.fi.length H.ci,.int .i64 H.ct]:=bF bx6 7 2
    go_wp2_with (refine ax _ _ rfl w.heap.size 7 rfl rfl _ r6 _ underlying37 rfl store_size ?_)
    refine (Ay H.fi H.ct X.1 H.ai H.ci _ hM6.st).mono ?_;rintro r w7 ⟨rfl,hb7⟩;have hbr7:=ae hbr6 hb7;have bx7:=bx6.ext hb7;rw[hus];clear hbr6 bx6 hM6 px6 hb7 r6 hcp hus;go_wp2;go_roundw
    case rel=>exact⟨k+1,by omega,by go_num,hbr7,bx7⟩
    case measure=>simp[intOf];omega
   have hki:¬(k:Int)<(H.dk.queue.length:Int):=by omega
   have hc:=bx.cell;unfold dD at hc;have hs4:H.sp.length≤4:=by have:=hpt.out.spl;rw[CR] at this;exact this
   clear hM;go_wp2
   go_loopw [106] (fun s106 wr => ∃k:Nat,k≤H.sp.length∧s106 = .int .i64 k∧Below w.heap.size w wr) (fun s106 _=>H.sp.length-(intOf s106).toNat)
   case atStart=>exact⟨0,aS _,rfl,hbr⟩
   case round=>
    clear hbr bx hc hki;obtain⟨k,hk,rfl,hbr⟩:=hrel;have hM:=hh.out.below hbr
    by_cases hkl:k<H.sp.length
    ·obtain⟨bd,od,P,hda,hP,hrd⟩:=xH hM.sp.rd k hkl;have hki:(k:Int)<(H.sp.length:Int):=by omega
     have hgood:=wJ hM hP;have hsP:P.sp∈H.ma.sp:=by show P.sp∈H.sp.map PS.sp;exact ib.2 ⟨P,bQ hP,rfl⟩
     have hal:(bG P.ar).1=0:=hpt.out.ar P.sp hsP;have htb:cK P.tb=0:=hpt.out.tb P.sp hsP;have hdead:Hid (P.lv=false→P.ar=[]∧P.tb=zTb):=Lib.hid fun hl=>by have h9:=hR'.out.live k (by rw[zD hP];exact hl);rw[zD hP] at h9;exact⟨h9.1,UX htb fun n=>by have:=h9.2 n;unfold ent at this;rw[zD hP] at this;exact this⟩
     rw[hda]
     go_wp2_with (first | (refine ax _ _ rfl bd (od+k*10) rfl rfl _ hrd _ underlying55 rfl space_size ?_) | (refine aI rfl _ _ _ rfl (vM P) rfl rfl rfl space_size (by rw[←ky,dL];exact hgood.one) ?_))
     intro w6 hb6 px6;have hbr6:=ae hbr hb6;have hg6:=hgood.below hb6;have hA:=hg6.ars;have hcp:=px6.cell;unfold vM at hcp;clear hbr hb6 hrd hM hgood
     go_wp2_with fail
     refine (CY P.ar P.aa P.ac _ hA).mono ?_;rintro r w7 ⟨rfl,hb7⟩;rw[show JZ (bG P.ar)=#[.int .i64 0,.int .i64 (bG P.ar).2] from by unfold JZ;rw[hal]];have hbr7:=ae hbr6 hb7;have hg7:=hg6.below hb7;have px7:=px6.ext hb7;clear hcp px6 hbr6 hg6 hb7 hA
     go_wp2_with (refine aI rfl _ _ _ rfl #[.int .i64 0,.int .i64 (bG P.ar).2] rfl rfl rfl fau_size (mG _ _) ?_)
     intro w8 hb8 ux8;have hcu:=ux8.cell;have hbr8:=ae hbr7 hb8;have hg8:=hg7.below hb8;have px8:=px7.ext hb8;clear hbr7 hg7 px7 hb8;have hrt:dN w8 (some ⟨wr.heap.size,2,none⟩) (ng P.ts).toList:=bF px8 2 8
     go_wp2_with (refine ax _ _ rfl wr.heap.size 2 rfl rfl _ hrt _ underlying53 tab_agg tab_size ?_)
     refine (Kg P.tb (ng P.ts) _ hg8.tb).mono ?_;rintro r w9 ⟨rfl,hb9⟩;rw[htb];have hbr9:=ae hbr8 hb9;have hg9:=hg8.below hb9;have px9:=px8.ext hb9;clear hcu ux8 hbr8 hg8 px8 hb9 hrt;have hcp:=px9.cell;unfold vM at hcp;cases hlv:P.lv with
     | true=>
      rw[hlv] at hcp;go_wp2;go_roundw
      case rel=>exact⟨k+1,by omega,by go_num,hbr9⟩
      case measure=>simp[intOf];omega
     | false=>
      obtain⟨e1,e2⟩:=hdead.out hlv;have hl0:P.ar.length=0:=by rw[e1];rfl
      rw[hlv,hl0] at hcp;have hrt:dN w9 (some ⟨wr.heap.size,2,none⟩) (ng P.ts).toList:=bF px9 2 8;have hT:EE w9 (ng P.ts) zTb:=by have:=hg9.tb;rw[e2] at this;exact this
      clear hl0
      go_wp2_with (refine ax _ _ rfl wr.heap.size 2 rfl rfl _ hrt _ underlying53 tab_agg tab_size ?_)
      refine (Oi zTb zTb (ng P.ts) (ng nTs) _ hT (zQ _ 0).rd).mono ?_;rintro r wa ⟨rfl,hba⟩;rw[Kz];have hbra:=ae hbr9 hba;go_wp2;go_roundw
      case rel=>exact⟨k+1,by omega,by go_num,hbra⟩
      case measure=>simp[intOf];omega
    have hki:¬(k:Int)<(H.sp.length:Int):=by omega
    go_wp2;go_ret;exact⟨rfl,hbr⟩
theorem OD (H:MH) (g:Pg) (e:En) (w:World) (h:BF w H) (hR:Rt H.ma) (hf:Ur H.ma g e) (hk:e.k≠0) (he:eQ e=0) :
  Calls Tryz.prog 51 #[.agg (dD H),.agg (xD (some g)),.agg (jk e)] w fun r w'=>r = .returned (.int .i64 0)∧Below w.heap.size w w':=by
 have hR':=Lib.hid hR;have hf':=Lib.hid hf;clear hR hf;go_enter func51,ntmps51;go_upto_region 1 with (fail);refine Ld (fun W=>Code.wp _ _ _ _ W) fun w1 hb1 bx1 ox1 ex1 hs1 => ?_;have bx1:aC w1 w.heap.size (dD H) 41:=bx1;have ox1:aC w1 (w.heap.size+1) #[.bool true,.bool g.rd,.bool g.wr,.bool g.sh,.int .i64 g.fi,.int .i64 g.pg] 109:=ox1;have ex1:aC w1 (w.heap.size+1+1) #[.int .i64 e.k,.int .i64 e.n,.bool e.w] 89:=ex1;have h1:=h.below hb1;clear h hs1;have hc:=bx1.cell;unfold dD at hc;have ho:=ox1.cell;have hx:=ex1.cell;have hcase:=(dw _).1 he
 by_cases k2:e.k=2
 ·obtain⟨q1,q2⟩:=hf'.out.sw k2;have q1' : e.n<(H.sl.length:Int):=q1;rw[k2] at hx;rw[q2] at ho;clear q1 q2 hk hcase he k2;go_wp2;go_ret;exact⟨rfl,hb1⟩
 have k1:e.k=1:=by omega
 have q1' : e.n<(H.m.fs.length:Int):=hf'.out.lt k1;obtain⟨f1,f2,f3,f4,f5⟩:=hf'.out.fr k1;have hn0:0≤e.n:=by omega
 obtain⟨F,hF⟩:∃F:Nat,e.n=F:=⟨e.n.toNat,by omega⟩;have hFl:F<H.m.fs.length:=by omega
 obtain⟨bf,of,haf,hel⟩:=jH eZ (by decide) h1.fr.rd F hFl;have hFe:aT H.ma e.n.toNat=H.m.fs[F]:=by rw[hF,bU];unfold aT;show H.m.fs.getD F fr0=_;rw[aW,aG hFl];rfl
 have hfe:dR H.m.fs[F]=0:=by rw[←hFe,hF,bU];exact hR'.out.pt.frE (m:=H.ma) hFl
 rw[hFe] at f1 f2 f4 f5;have hfm : -1≤(H.m.fs[F]).f:=by
  unfold dR at hfe;split at hfe
  ·exact absurd hfe (by decide)
  rename_i hb;unfold De at hb;simp at hb;omega
 generalize H.m.fs[F]=X at *
 rw[k1,hF] at hx;rw[haf] at hc;have hFi:(F:Int)<(H.m.fs.length:Int):=by omega
 clear hcase he hk k2 hFe q1' hn0
 go_wp2_with (first | (refine ax _ _ rfl bf (of+F*13) rfl rfl _ hel _ underlying81 rfl frame_size ?_) | (refine aI rfl _ _ _ rfl (vK X) rfl rfl rfl frame_size (oZ _) ?_))
 intro w4 hb4 fx4;have hbr4:=ae hb1 hb4;have ho:=(ox1.ext hb4).cell;have hx:=(ex1.ext hb4).cell;rw[k1] at hx;have hfx:=fx4.cell;unfold vK at hfx;clear bx1 ox1 ex1 h1 hc hb1 hb4 hel fx4
 by_cases c1:X.f<0
 ·have hm1:X.f = -1:=by omega
  have hsh:g.sh=false:=by
   cases hs:g.sh with
   | false=>rfl
   | true=>have:=f2 hs;omega
  rw[hm1] at hfx;rw[hsh] at ho;cases hw:e.w with
  | false=>
   rw[hw] at hx
   by_cases c2:0≤g.fi
   ·have c3:¬(-1:Int)=g.fi:=by omega
    clear f1 f2 f3 f4 f5 hm1;go_wp2
    all_goals go_ret
    all_goals exact⟨rfl,hbr4⟩
   clear f1 f2 f3 f4 f5 hm1;go_wp2
   all_goals go_ret
   all_goals exact⟨rfl,hbr4⟩
  | true=>
   rw[hw] at hx;have h3:=f3 hw;have h5:=f5 hw c1;rw[h3] at ho
   by_cases c2:0≤g.fi
   ·have c3:¬(-1:Int)=g.fi:=by omega
    clear f1 f2 f3 f4 f5 hm1;go_wp2
    all_goals go_ret
    all_goals exact⟨rfl,hbr4⟩
   clear f1 f2 f3 f4 f5 hm1;go_wp2
   all_goals go_ret
   all_goals exact⟨rfl,hbr4⟩
 have hx0:0≤X.f:=by omega
 obtain⟨p1,p2⟩:=f1 hx0;rw[←p1,←p2] at ho;have c2:(X.f == -1)=false:=by simp;omega
 clear p1 p2;cases hw:e.w with
 | false=>
  rw[hw] at hx;clear f1 f2 f3 f4 f5;go_wp2
  all_goals go_ret
  all_goals exact⟨rfl,hbr4⟩
 | true=>
  rw[hw] at hx;have h3:=f3 hw;have h4:=f4 hw hx0;rw[h3,h4] at ho;clear f1 f2 f3 f4 f5;go_wp2
  all_goals go_ret
  all_goals exact⟨rfl,hbr4⟩
theorem Nu {l:List En} (h:l.length=64):wB l=(tL l).toArray:=by
 unfold wB tL;congr 1;have e:l=(List.range 64).map fun i=>l.getD i zEn:=by
  apply sN
  ·simp[h]
  intro i h1 h2;simp[aW,aG h1]
 conv=>lhs;rw[e,Cg]
theorem zb (H:MH) (kd k:Int) (w:World) (h:BF w H) (hR:Rt H.ma) :
  Calls Tryz.prog 52 #[.agg (dD H),.int .i64 kd,.int .i64 k] w fun r w'=>r = .returned (.int .i64 (dA H.ma kd k:Int))∧Below w.heap.size w w':=by
 have hpt:=Lib.hid hR.pt;have hh:=Lib.hid h;have hs4:H.sp.length≤4:=by have:=hR.pt.spl;rw[CR] at this;exact this
 clear hR;go_enter func52,ntmps52;go_upto_region 1 with (fail);refine gI (fun W=>Code.wp _ _ _ _ W) fun w1 hb1 bx1 hs1 => ?_;have bx1:aC w1 w.heap.size (dD H) 41:=bx1;clear h hs1;have hc:=bx1.cell;unfold dD at hc;go_wp2
 go_loopw [15,7] (fun s15 s7 wr => ∃p n:Nat,p≤H.sp.length∧s15 = .int .i64 p∧s7 = .int .i64 n∧n≤64*p∧Below w.heap.size w wr∧Hid (n=((H.sp.take p).map fun s=>(dB s.tb).countP (qy kd k)).sum)) (fun s15 _ _=>H.sp.length-(intOf s15).toNat)
 case atStart=>exact⟨0,0,aS _,rfl,rfl,ay _,hb1,Lib.hid (by simp)⟩
 case round=>
  clear hb1 bx1 hc;obtain⟨p,n,hp,rfl,rfl,hn,hbr,hsum⟩:=hrel;have hM:=hh.out.below hbr
  by_cases hpl:p<H.sp.length
  ·obtain⟨bd,od,P,hda,hP,hrd⟩:=xH hM.sp.rd p hpl;have hpi:(p:Int)<(H.sp.length:Int):=by omega
   have hgood:=wJ hM hP;have hsP:P.sp∈H.ma.sp:=by show P.sp∈H.sp.map PS.sp;exact ib.2 ⟨P,bQ hP,rfl⟩
   have htb:cK P.tb=0:=hpt.out.tb P.sp hsP;have htake:Hid (((H.sp.take (p+1)).map fun s=>(dB s.tb).countP (qy kd k)).sum=n+(dB P.tb).countP (qy kd k)):=Lib.hid (by rw[mQ,hP,jf,List.sum_append,←hsum.out];simp);rw[hda]
   go_wp2_with (first | (refine ax _ _ rfl bd (od+p*10) rfl rfl _ hrd _ underlying55 rfl space_size ?_) | (refine aI rfl _ _ _ rfl (vM P) rfl rfl rfl space_size (by rw[←ky,dL];exact hgood.one) ?_))
   intro w6 hb6 px6;have hbr6:=ae hbr hb6;have hg6:=hgood.below hb6;clear hbr hb6 hrd hM hgood;have hrt:dN w6 (some ⟨wr.heap.size,2,none⟩) (ng P.ts).toList:=bF px6 2 8
   go_wp2_with (refine ax _ _ rfl wr.heap.size 2 rfl rfl _ hrt _ underlying53 tab_agg tab_size ?_)
   refine (FN P.tb (ng P.ts) _ hg6.tb htb).mono ?_;rintro r w7 ⟨rfl,hb7⟩;have hbr7:=ae hbr6 hb7;clear hrt px6 hg6 hbr6 hb7;have hfl:=Aj P.tb;generalize dB P.tb=l at *
   rw[Nu hfl];go_wp2
   go_loopw [22,7] (fun s22 s7 wr => ∃i m:Nat,i≤64∧s22 = .int .i64 i∧s7 = .int .i64 m∧m≤64*p+i∧Below w.heap.size w wr∧Hid (m=n+(l.take i).countP (qy kd k))) (fun s22 _ _=>64-(intOf s22).toNat)
   case atStart=>exact⟨0,n,aS _,rfl,rfl,by omega,hbr7,Lib.hid (by simp)⟩
   case round=>
    clear hbr7 hn;obtain⟨i,m,hi,rfl,rfl,hm,hbr,hs⟩:=hrel
    by_cases hil:i<64
    ·have hii:(i:Int)<64:=by omega
     have hil' : i<l.length:=by omega
     have hct:Hid ((l.take (i+1)).countP (qy kd k)=(l.take i).countP (qy kd k)+if qy kd k l[i]=true then 1 else 0):=Lib.hid (wF _ _ _ hil');have hE:l.getD i zEn=l[i]:=by rw[aW,aG hil'];rfl
     generalize l[i]=E at *
     have hix:=GN l i hil E hE;clear hE
     go_wp2_with (refine aI rfl _ _ _ rfl (jk E) rfl rfl rfl entry_size (by simp[jk,Value.oneCell']) ?_)
     intro w8 hb8 ex8;have hbr8:=ae hbr hb8;have hx:=ex8.cell;unfold jk at hx;clear hix hbr hb8 ex8
     by_cases c1:E.k=kd
     ·by_cases c2:E.n=k
      ·have hs' : Hid (m+1=n+(l.take (i+1)).countP (qy kd k)):=Lib.hid (by rw[hct.out,if_pos (by unfold qy;simp[c1,c2]),hs.out];omega);clear hs hct;go_wp2;go_roundw
       case rel=>exact⟨i+1,m+1,by omega,by go_num,by go_num,by omega,hbr8,hs'⟩
       case measure=>simp[intOf];omega
      have hs' : Hid (m=n+(l.take (i+1)).countP (qy kd k)):=Lib.hid (by rw[hct.out,if_neg (by unfold qy;simp[c1,c2]),hs.out];omega);clear hs hct;go_wp2;go_roundw
      case rel=>exact⟨i+1,m,by omega,by go_num,rfl,by omega,hbr8,hs'⟩
      case measure=>simp[intOf];omega
     have hs' : Hid (m=n+(l.take (i+1)).countP (qy kd k)):=Lib.hid (by rw[hct.out,if_neg (by unfold qy;simp[c1]),hs.out];omega);clear hs hct;go_wp2;go_roundw
     case rel=>exact⟨i+1,m,by omega,by go_num,rfl,by omega,hbr8,hs'⟩
     case measure=>simp[intOf];omega
    have hii:¬(i:Int)<64:=by omega
    have hs' : Hid (m=((H.sp.take (p+1)).map fun s=>(dB s.tb).countP (qy kd k)).sum):=Lib.hid (by rw[htake.out,hs.out,iF (by omega)]);clear hs htake;go_wp2;go_roundw
    case rel=>exact⟨p+1,m,by omega,by go_num,rfl,by omega,hbr,hs'⟩
    case measure=>simp[intOf];omega
  have hpi:¬(p:Int)<(H.sp.length:Int):=by omega
  have hend:Hid (n=dA H.ma kd k):=Lib.hid (by rw[hsum.out,iF (by omega)];unfold dA MH.ma;rw[List.map_map];rfl);clear hsum hM;go_wp2;go_ret;exact⟨by rw[←hend.out];rfl,hbr⟩
theorem UQ {t:Tb} (hn:n<64):(dB t).getD n zEn=dG t (n:Int):=by
 unfold dB;rw[aW,jM,sJ hn];rfl
theorem Re {y:Operand} {k:IntKind} (ho:o.op = .indexAddr t x y) (hx:ρ x = .pointer (some ⟨b,off,none⟩)) (hy:ρ y = .int k (i:Int)) (hi:i<n)
 (hu:P.underlying t=some (.array n e)) (hs:(P.info? e).map (·.size)=some sz):(execOp ρ o).run P w = .ok (.value (.pointer (some ⟨b,off+i*sz,none⟩))) w:=by
 obtain⟨inf,hinf,hsz⟩:∃inf,P.info? e=some inf∧inf.size=sz:=by
  cases h:P.info? e with
  | none=>rw[h] at hs;cases hs
  | some inf=>rw[h] at hs;exact⟨inf,rfl,by simpa using hs⟩
 have hso:(Go.sizeOf e).run P w = .ok sz w:=by simp[Go.sizeOf,typeInfo,hinf,go_sem,hsz]
 simp[execOp,go_sem,ho,hx,hy,hu,hso,hi]
theorem Vr {f:Nat→Option Pg} {o:Option Pg} (h:aC w go (fC f) T) (hi:i<64) (ho:f i=o):dN w (some ⟨go,i*6,none⟩) (xD o).toList:=by
 have h1:=bF h (i*6) 6;have h2:=Ny f i hi;rw[ho] at h2;have e:((fC f).toList.drop (i*6)).take 6=(xD o).toList:=by rw[←h2,Array.toList_extract];simp[List.extract_eq_take_drop]
 rwa [e] at h1
theorem Md (H:MH) (w:World) (h:BF w H) (hR:Rt H.ma) :
    Calls Tryz.prog 14 #[.agg (dD H)] w fun r w'=>r = .returned (.int .i64 0)∧Below w.heap.size w w':=by
  have hh:=Lib.hid h;have hR':=Lib.hid hR;have hz:=Lib.hid (vV hR);have z1:H.ca.length≤1000:=hz.out.ca;have z2:H.m.fs.length≤1000:=hz.out.fs;have z3:H.sl.length≤1000:=hz.out.sl;have z4:H.sp.length≤4:=by have:=hR.pt.spl;rw[CR] at this;exact this
  have hfew:=Lib.hid (Ae hR.pt.st);clear hR;go_enter func14,ntmps14;go_upto_region 1 with (fail);refine gI (fun W=>Code.wp _ _ _ _ W) fun w1 hb1 bx1 hs1 => ?_;have bx1:aC w1 w.heap.size (dD H) 41:=bx1;have h1:=h.below hb1;clear h hs1
  go_wp2_with (refine ax _ _ rfl w.heap.size 0 rfl rfl _ bx1.rd _ underlying41 rfl machine_size ?_)
  refine (OO H _ h1 hR'.out).mono ?_;rintro r w2 ⟨rfl,hb2⟩;have bx2:=bx1.ext hb2;have hbr2:=ae hb1 hb2;clear h1 bx1 hb1 hb2;have hc:=bx2.cell;unfold dD at hc;go_wp2
  go_loopw [29] (fun s29 wr => ∃q:Nat,q≤H.ca.length∧s29 = .int .i64 q∧Below w.heap.size w wr∧aC wr w.heap.size (dD H) 41) (fun s29 _=>H.ca.length-(intOf s29).toNat)
  case atStart=>exact⟨0,aS _,rfl,hbr2,bx2⟩
  case round=>
    clear hbr2 bx2 hc;obtain⟨q,hq,rfl,hbr,bx⟩:=hrel;have hM:=hh.out.below hbr
    by_cases hql:q<H.ca.length
    · obtain⟨bc,oc,hac,hel⟩:=jH oV (by decide) hM.ca.rd q hql;have hqi:(q:Int)<(H.ca.length:Int):=by omega
      have hcm:H.ca[q]∈H.ma.ca:=dP hql;obtain⟨⟨f1,f2⟩,f3,f4⟩:=hR'.out.ca.file _ hcm;obtain⟨f5,f6⟩:=hR'.out.ca.lt _ hcm;obtain⟨f7,f8,f9⟩:=hR'.out.ca.fr _ hcm;have hprev:Hid (∀q1:Nat,q=q1+1→∃d:Cc,H.ca[q1]?=some d∧BB d H.ca[q]∧0≤d.f∧d.f<1000∧0≤d.i∧d.i<12):=Lib.hid (fun q1 e=>by
        have h1:q1<H.ca.length:=by omega
        refine⟨H.ca[q1],aG h1,(yN.1 hR'.out.ca.srt) q1 q h1 hql (by omega),?_⟩;obtain⟨⟨g1,g2⟩,g3,g4⟩:=hR'.out.ca.file _ (dP h1:H.ca[q1]∈H.ma.ca);have hm:aU H.ma.st H.ca[q1].f∈H.ma.st.fs:=by unfold aU;rw[if_pos g1,aW,aG (by omega)];exact dP _
        have:=hfew.out _ hm;have hz5:=hz.out.st.1;exact⟨g1,by omega,g3,by omega⟩)
      generalize hcq:H.ca[q]=c at *
      obtain⟨F,hcF⟩:∃F:Nat,c.f=F:=⟨c.f.toNat,by omega⟩;have hFl:F<H.fi.length:=by have:H.ma.st.fs.length=H.fi.length:=fe _;omega
      obtain⟨bf,of,hai,hfl⟩:=jH jq (by decide) hM.st.rd F hFl;have hPl:Hid (aU H.ma.st c.f=(H.fi[F]).fi):=Lib.hid (by rw[hcF];exact oJ (by show (H.fi.map PF.fi)[F]?=_;rw[jM,aG hFl];rfl));have f4' : c.i<((H.fi[F]).l.length:Int):=by rw[hPl.out] at f4;exact f4
      generalize H.fi[F]=P at *
      obtain⟨K,hcK⟩:∃K:Nat,c.k=K:=⟨c.k.toNat,by omega⟩;have hKl:K<H.m.fs.length:=by have:(K:Int)<(H.m.fs.length:Int):=by rw[←hcK];exact f6
                                                                                    omega
      obtain⟨bm,om,ham,hfm⟩:=jH eZ (by decide) hM.fr.rd K hKl;have hKe:aT H.ma c.k.toNat=H.m.fs[K]:=by rw[hcK,bU];unfold aT;show H.m.fs.getD K fr0=_;rw[aW,aG hKl];rfl
      rw[hKe] at f7 f8 f9;generalize H.m.fs[K]=X at *
      have hlt5:Hid (0≤c.f∧c.f<1000∧0≤c.i∧c.i<12):=Lib.hid (by
        have hm:aU H.ma.st c.f∈H.ma.st.fs:=by unfold aU;rw[if_pos f1,aW,aG (by omega)];exact dP _
        have:=hfew.out _ hm;have hz5:=hz.out.st.1;exact⟨f1,by omega,f3,by omega⟩)
      have c1:¬c.f<0:=by omega
      have c2:¬(H.fi.length:Int)≤c.f:=by omega
      have c3:¬c.i<0:=by omega
      have c4:¬(P.l.length:Int)≤c.i:=by omega
      have c5:¬c.k<0:=by omega
      have c6:¬(H.m.fs.length:Int)≤c.k:=by omega
      have hc78:=Lib.hid (And.intro f7 (And.intro f8 f9));clear f1 f2 f3 f4 f4' f5 f6 f7 f8 f9 hKe hPl hcm;rw[hac]
      go_wp2_with (first | (refine ax _ _ rfl bc (oc+q*3) rfl rfl _ hel _ underlying106 rfl cached_size ?_) | (refine aI rfl _ _ _ rfl (Ab c) rfl rfl rfl cached_size (vB _) ?_))
      intro w3 hb3 cx3;have bx3:=bx.ext hb3;have hbr3:=ae hbr hb3;have hcs:∀W,Below w3.heap.size w3 W→W.cell? ⟨bf,of+F*2+1,none⟩=some (.slice P.a P.l.length P.c):=fun W hb=>by obtain⟨b',o',e,hc⟩:=((hfl.below hb3).below hb) 1 _ rfl;cases e;exact hc
      have hfm3:=hfm.below hb3;have hM3:=hM.below hb3;clear hbr bx hb3 hel hfl hfm hM;go_upto_region 7 with (fail);refine aK 45 [_,_,_,_,_,_,_,_,_,_,_,_,_,_,_,_,_,_,_,_,_,_,_,_,_,_,_,_,_,_,_,_,_,_,_,_,_,_,_,_,_,_,_,_,.v (.bool false)] (Gf wr.heap.size 0 rfl rfl (Gl cx3 rfl rfl rfl rfl rfl (Gb (.bool false) (by simp[go_sem,c1]) rfl rfl rfl rfl rfl (Gk rfl (Gf wr.heap.size 0 rfl rfl (Gl cx3 rfl rfl rfl rfl rfl (Gf w.heap.size 7 rfl rfl (Gf w.heap.size 7 rfl rfl (Gl bx3 rfl rfl rfl rfl rfl (Gn rfl rfl rfl rfl (Gb (.bool false) (by simp[go_sem,c2]) rfl rfl rfl rfl rfl (Gk rfl (Gk rfl (Gf wr.heap.size 1 rfl rfl (Gl cx3 rfl rfl rfl rfl rfl (Gb (.bool false) (by simp[go_sem,c3]) rfl rfl rfl rfl rfl (Gk rfl (Gk rfl (Gf wr.heap.size 1 rfl rfl (Gl cx3 rfl rfl rfl rfl rfl (Gf w.heap.size 7 rfl rfl (Gf w.heap.size 7 rfl rfl (Gl bx3 (V:=.slice (some ⟨bf,of,none⟩) H.fi.length H.ci) (by simp[dD,hai]) rfl rfl rfl rfl (Gf wr.heap.size 0 rfl rfl (Gl cx3 (V:=.int .i64 (F:Int)) (by simp[Ab,hcF]) rfl rfl rfl rfl (Gr (.pointer (some ⟨bf,of+F*2,none⟩)) (fun ρ y W hb hKn=>(bv rfl (aD rfl hKn) (aD rfl hKn) hFl underlying35 file_size)) rfl rfl (Gf bf (of+F*2+1) rfl rfl (Gc (.slice P.a P.l.length P.c) (fun W hb=>by simp[hcs _ hb]) rfl rfl rfl rfl (Gn rfl rfl rfl rfl (Gb (.bool false) (by simp[go_sem,c4]) rfl rfl rfl rfl rfl (Gk rfl (Gk rfl (Gf wr.heap.size 2 rfl rfl (Gl cx3 rfl rfl rfl rfl rfl (Gb (.bool false) (by simp[go_sem,c5]) rfl rfl rfl rfl rfl (Gk rfl (Gk rfl (Gf wr.heap.size 2 rfl rfl (Gl cx3 rfl rfl rfl rfl rfl (Gf w.heap.size 0 rfl rfl (Gf w.heap.size 0 rfl rfl (Gl bx3 rfl rfl rfl rfl rfl (Gn rfl rfl rfl rfl (Gb (.bool false) (by simp[go_sem,c6]) rfl rfl rfl rfl rfl (Gk rfl (aB)))))))))))))))))))))))))))))))))))))))))))))) (fun _=>rfl) rfl ?_;intro y W4 hbW4 _;have bx4:=bx3.ext hbW4;have cx4:=cx3.ext hbW4;have hbr4:=ae hbr3 hbW4;have hfm4:=hfm3.below hbW4;have hM4:=hM3.below hbW4;have hc:=bx4.cell;unfold dD at hc;rw[ham] at hc;have hcc:=cx4.cell;unfold Ab at hcc;rw[hcK] at hcc;have hKi:(K:Int)<(H.m.fs.length:Int):=by omega
      clear hcs hbr3 bx3 cx3 hfm3 hM3 hbW4 hai c1 c2 c3 c4 c5 c6
      go_wp2_with (first | (refine ax _ _ rfl bm (om+K*13) rfl rfl _ hfm4 _ underlying81 rfl frame_size ?_) | (refine aI rfl _ _ _ rfl (vK X) rfl rfl rfl frame_size (oZ _) ?_))
      intro w5 hb5 fx5;have bx5:=bx4.ext hb5;have cx5:=cx4.ext hb5;have hbr5:=ae hbr4 hb5;have hM5:=hM4.below hb5;clear hbr4 bx4 cx4 hfm4 hM4 hb5 hc hcc;have hfx:=fx5.cell;unfold vK at hfx;have hcc:=cx5.cell;unfold Ab at hcc;obtain⟨g7,g8,g9⟩:=hc78.out;have d1:¬X.r=0:=by omega
      rw[g8,g9] at hfx;clear g7 g8 g9;go_upto_region 12 with (fail);rcases si q with hq0|hqp
      · subst hq0;refine aK 27 [_,_,_,_,_,_,_,_,_,_,_,_,_,_,_,_,_,_,_,_,_,_,_,_,_,_,.v (.bool false)] (Gk rfl (Gb (.bool false) (by simp[go_sem,]) rfl rfl rfl rfl rfl (Gk rfl (Gk rfl (Gk rfl (Gk rfl (Gk rfl (Gk rfl (Gk rfl (Gk rfl (Gk rfl (Gk rfl (Gk rfl (Gk rfl (Gk rfl (Gk rfl (Gk rfl (Gk rfl (Gk rfl (Gk rfl (Gk rfl (Gk rfl (Gk rfl (Gk rfl (Gk rfl (Gk rfl (Gk rfl (aB)))))))))))))))))))))))))))) (fun _=>rfl) rfl ?_;intro y W6 hbW6 _;have bx6:=bx5.ext hbW6;have hbr6:=ae hbr5 hbW6;clear hM5 hac ham;go_wp2;go_roundw
        case rel=>exact⟨1,by omega,by go_num,hbr6,bx6⟩
        case measure=>simp[intOf];omega
      obtain⟨q1,hq1⟩:∃q1,q=q1+1:=⟨q-1,by omega⟩;obtain⟨d,hd,hlt,g1,g2,g3,g4⟩:=hprev.out q1 hq1;have hq1l:q1<H.ca.length:=by omega
      obtain⟨bc',oc',hac',hel'⟩:=jH oV (by decide) hM5.ca.rd q1 hq1l;rw[hac] at hac';cases hac';have hdq:H.ca[q1]=d:=by have:=aG hq1l;rw[hd] at this;exact (aJ this).symm
      rw[hdq] at hel';have hd0:∀W,Below w5.heap.size w5 W→W.cell? ⟨bc,oc+q1*3,none⟩=some (.int .i64 d.f):=fun W hb=>by obtain⟨b',o',e,hc⟩:=(hel'.below hb) 0 _ rfl;cases e;exact hc
      have hd1:∀W,Below w5.heap.size w5 W→W.cell? ⟨bc,oc+q1*3+1,none⟩=some (.int .i64 d.i):=fun W hb=>by obtain⟨b',o',e,hc⟩:=(hel'.below hb) 1 _ rfl;cases e;exact hc
      obtain⟨e1,e2,e3,e4⟩:=hlt5.out;have m0:IntKind.i64.wrap ((q:Int)-1)=(q1:Int):=(bJ _ (by omega)).trans (by omega);have m1:IntKind.i64.wrap (100*d.f)=100*d.f:=(bJ _ (by omega)).trans (by omega);have m2:IntKind.i64.wrap (100*d.f+d.i)=100*d.f+d.i:=(bJ _ (by omega)).trans (by omega);have m3:IntKind.i64.wrap (100*c.f)=100*c.f:=(bJ _ (by omega)).trans (by omega);have m4:IntKind.i64.wrap (100*c.f+c.i)=100*c.f+c.i:=(bJ _ (by omega)).trans (by omega);have m5:¬100*c.f+c.i≤100*d.f+d.i:=by unfold BB at hlt;omega
      refine aK 27 [_,_,_,_,_,_,_,_,_,_,_,_,_,_,_,_,_,_,_,_,_,_,_,_,_,_,.v (.bool false)] (Gk rfl (Gb (.bool true) (by simp[go_sem,hqp]) rfl rfl rfl rfl rfl (Gk rfl (Gf w.heap.size 9 rfl rfl (Gl bx5 (V:=.slice (some ⟨bc,oc,none⟩) H.ca.length H.cc) (by simp[dD,hac]) rfl rfl rfl rfl (Gk rfl (Gb (.int .i64 (q1:Int)) (by simp[go_sem,m0]) rfl rfl rfl rfl rfl (Gr (.pointer (some ⟨bc,oc+q1*3,none⟩)) (fun ρ y W hb hKn=>(bv rfl (aD rfl hKn) (aD rfl hKn) hq1l underlying38 cached_size)) rfl rfl (Gf bc (oc+q1*3) rfl rfl (Gc (.int .i64 d.f) (fun W hb=>by simp[hd0 _ hb]) rfl rfl rfl rfl (Gb (.int .i64 (100*d.f)) (by simp[go_sem,m1]) rfl rfl rfl rfl rfl (Gf w.heap.size 9 rfl rfl (Gl bx5 (V:=.slice (some ⟨bc,oc,none⟩) H.ca.length H.cc) (by simp[dD,hac]) rfl rfl rfl rfl (Gk rfl (Gb (.int .i64 (q1:Int)) (by simp[go_sem,m0]) rfl rfl rfl rfl rfl (Gr (.pointer (some ⟨bc,oc+q1*3,none⟩)) (fun ρ y W hb hKn=>(bv rfl (aD rfl hKn) (aD rfl hKn) hq1l underlying38 cached_size)) rfl rfl (Gf bc (oc+q1*3+1) rfl rfl (Gc (.int .i64 d.i) (fun W hb=>by simp[hd1 _ hb]) rfl rfl rfl rfl (Gb (.int .i64 (100*d.f+d.i)) (by simp[go_sem,m2]) rfl rfl rfl rfl rfl (Gf wr.heap.size 0 rfl rfl (Gl cx5 rfl rfl rfl rfl rfl (Gb (.int .i64 (100*c.f)) (by simp[go_sem,m3]) rfl rfl rfl rfl rfl (Gf wr.heap.size 1 rfl rfl (Gl cx5 rfl rfl rfl rfl rfl (Gb (.int .i64 (100*c.f+c.i)) (by simp[go_sem,m4]) rfl rfl rfl rfl rfl (Gb (.bool false) (by simp[go_sem,m5]) rfl rfl rfl rfl rfl (Gk rfl (aB)))))))))))))))))))))))))))) (fun _=>rfl) rfl ?_;intro y W6 hbW6 _;have bx6:=bx5.ext hbW6;have hbr6:=ae hbr5 hbW6;clear hM5 hac ham hd0 hd1 m0 m1 m2 m3 m4 m5 hel' hd hlt g1 g2 g3 g4 e1 e2 e3 e4 hdq hq1;go_wp2;go_roundw
      case rel=>exact⟨q+1,by omega,by go_num,hbr6,bx6⟩
      case measure=>simp[intOf];omega
    have hqi:¬(q:Int)<(H.ca.length:Int):=by omega
    have hc:=bx.cell;unfold dD at hc;clear hM;go_wp2
    go_loopw [134] (fun s134 wr => ∃p:Nat,p≤H.sp.length∧s134 = .int .i64 p∧Below w.heap.size w wr∧aC wr w.heap.size (dD H) 41) (fun s134 _=>H.sp.length-(intOf s134).toNat)
    case atStart=>exact⟨0,aS _,rfl,hbr,bx⟩
    case round=>
      clear hbr bx hc hqi;obtain⟨p,hp,rfl,hbr,bx⟩:=hrel;have hM:=hh.out.below hbr
      by_cases hpl:p<H.sp.length
      · obtain⟨bd,od,P,hda,hP,hrd⟩:=xH hM.sp.rd p hpl;have hpi:(p:Int)<(H.sp.length:Int):=by omega
        have hgood:=wJ hM hP;have hsP:P.sp∈H.ma.sp:=by show P.sp∈H.sp.map PS.sp;exact ib.2 ⟨P,bQ hP,rfl⟩
        have hal:(bG P.ar).1=0:=hR'.out.pt.ar P.sp hsP;have htb:Hid (cK P.tb=0):=Lib.hid (hR'.out.pt.tb P.sp hsP);have hsp:=Lib.hid (zD hP);obtain⟨hal16,halE⟩:=AZ hal;have hon:Hid (∀i:Nat,cz P.ar i=pM H.ma p i):=Lib.hid (fun i=>by rw[qX (nI (jD.1 hal).2)];unfold pM;rw[hsp.out];rfl);rw[hda]
        go_wp2_with (first | (refine ax _ _ rfl bd (od+p*10) rfl rfl _ hrd _ underlying55 rfl space_size ?_) | (refine aI rfl _ _ _ rfl (vM P) rfl rfl rfl space_size (by rw[←ky,dL];exact hgood.one) ?_))
        intro w6 hb6 px6;have hbr6:=ae hbr hb6;have bx6:=bx.ext hb6;have hg6:=hgood.below hb6;have hcp:=px6.cell;unfold vM at hcp;clear hbr bx hb6 hrd hM hgood hal
        go_wp2_with fail
        refine (qG P.ar P.aa P.ac _ hg6.ars.rd (by omega) halE).mono ?_;rintro r w7 ⟨rfl,hb7⟩;have hbr7:=ae hbr6 hb7;have bx7:=bx6.ext hb7;have px7:=px6.ext hb7;have hg7:=hg6.below hb7;clear hbr6 bx6 px6 hg6 hb7 hcp
        go_wp2_with (refine aI rfl _ _ _ rfl (fC (cz P.ar)) rfl rfl (by rw[jr];rfl) (by rw[jr];exact ones_size) (zJ _) ?_)
        intro w8 hb8 ox8;have hbr8:=ae hbr7 hb8;have bx8:=bx7.ext hb8;have px8:=px7.ext hb8;have hg8:=hg7.below hb8;clear hbr7 bx7 px7 hg7 hb8;have hrt:dN w8 (some ⟨wr.heap.size,2,none⟩) (ng P.ts).toList:=bF px8 2 8
        go_wp2_with (refine ax _ _ rfl wr.heap.size 2 rfl rfl _ hrt _ underlying53 tab_agg tab_size ?_)
        refine (FN P.tb (ng P.ts) _ hg8.tb htb.out).mono ?_;rintro r w9 ⟨rfl,hb9⟩;rw[Nu (Aj P.tb)];have hE:Hid (∀n:Nat,n<64→(dB P.tb).getD n zEn=ent H.ma p n):=Lib.hid (fun n hn=>by rw[UQ hn];unfold ent;rw[hsp.out];rfl);have hbr9:=ae hbr8 hb9;have bx9:=bx8.ext hb9;have ox9:=ox8.ext hb9;generalize dB P.tb=l at *
        obtain⟨go,hgo⟩:∃go,w7.heap.size=go:=⟨_,rfl⟩;rw[hgo] at ox9 ⊢;clear hbr8 bx8 px8 hg8 hb9 hrt ox8 hgo;go_wp2
        go_loopw [144] (fun s144 wr => ∃i:Nat,i≤64∧s144 = .int .i64 i∧Below w.heap.size w wr∧aC wr w.heap.size (dD H) 41∧aC wr go (fC (cz P.ar)) 110) (fun s144 _=>64-(intOf s144).toNat)
        case atStart=>exact⟨0,by omega,rfl,hbr9,bx9,ox9⟩
        case round=>
          clear hbr9 bx9 ox9;obtain⟨i,hi,rfl,hbr,bx,ox⟩:=hrel
          by_cases hil:i<64
          · have hii:(i:Int)<64:=by omega
            have hix0:=hE.out i hil;generalize heE:ent H.ma p i=E at hix0;have hix:=GN l i hil E hix0;have heE':=Lib.hid heE;clear heE hix0
            go_wp2_with (refine aI rfl _ _ _ rfl (jk E) rfl rfl rfl entry_size (by simp[jk,Value.oneCell']) ?_)
            intro wa hba ea;have hbra:=ae hbr hba;have bxa:=bx.ext hba;have oxa:=ox.ext hba;clear hix hbr bx ox hba;have hx:=ea.cell;unfold jk at hx
            by_cases hk0:E.k=0
            · rw[hk0] at hx;clear hk0;go_wp2;go_roundw
              case rel=>exact⟨i+1,by omega,by go_num,hbra,bxa,oxa⟩
              case measure=>simp[intOf];omega
            obtain⟨g,hg,hf⟩:=hR'.out.en p i (by rw[heE'.out];exact hk0);rw[heE'.out] at hf;have hent:eQ E=0:=by rw[←heE'.out];unfold ent;rw[hsp.out];exact qU htb.out i
            have hog:cz P.ar i=some g:=(hon.out i).trans hg;have hog':=Lib.hid hog;have hfe:=Lib.hid (And.intro hf (And.intro hk0 hent));clear hf hg hent hog;go_upto_region 23 with (fail);refine aK 7 [_,_,_,_,_,.v (.int .i64 0),.v (.int .i64 0)] (Gr (.agg (dD H)) (fun ρ y W hb hKn=>(dx rfl (aD rfl hKn) (bxa.ext hb) underlying41 rfl machine_size)) rfl rfl (Gk rfl (Gr (.pointer (some ⟨go,0+i*6,none⟩)) (fun ρ y W hb hKn=>(Re rfl (aD rfl hKn) (aD rfl hKn) hil underlying110 one_size)) rfl rfl (Gr (.agg (xD (some g))) (fun ρ y W hb hKn=>(bB rfl (aD rfl hKn) (by rw[ed];exact Vr (oxa.ext hb) hil hog'.out) underlying109 rfl one_size)) rfl rfl (Gr (.agg (jk E)) (fun ρ y W hb hKn=>(dx rfl (aD rfl hKn) (ea.ext hb) underlying89 rfl entry_size)) rfl rfl (ag ?_ (Gk rfl (aB)))))))) (fun _=>rfl) rfl ?_
            · intro ρ y W hw hn hb hd;have E151:=hw 151 0 rfl;have h0:y 0=_:=hd 0 rfl;have E154:=hw 154 3 rfl;have h3:y 3=_:=hd 3 rfl;have E155:=hw 155 4 rfl;have h4:y 4=_:=hd 4 rfl;have EF:∀f,ρ (.func f) = .func (.func f) #[] #[]:=fun f=>hn (.func f) trivial;refine aO _ _ (ah rfl) (aQ rfl (EF _) func51 (by kernel_rfl) (by kernel_rfl) (by simp only[bP,bM,bN,E151,h0,E154,h3,E155,h4,EF];rfl)) ?_;refine (OD H g E W (hh.out.below (ae hbra hb)) hR'.out hfe.out.1 hfe.out.2.1 hfe.out.2.2).mono ?_;rintro r wz ⟨rfl,hbz⟩;exact⟨_,rfl,hbz,rfl⟩
            intro y wb hbwb _;have hbrb:=ae hbra hbwb;have bxb:=bxa.ext hbwb;have oxb:=oxa.ext hbwb;clear hbra bxa oxa ea hx hbwb;go_wp2;go_roundw
            case rel=>exact⟨i+1,by omega,by go_num,hbrb,bxb,oxb⟩
            case measure=>simp[intOf];omega
          have hii:¬(i:Int)<64:=by omega
          clear ox;go_wp2;go_roundw
          case rel=>exact⟨p+1,by omega,by go_num,hbr,bx⟩
          case measure=>simp[intOf];omega
      have hpi:¬(p:Int)<(H.sp.length:Int):=by omega
      have hc:=bx.cell;unfold dD at hc;clear hM;go_wp2
      go_loopw [166] (fun s166 wr => ∃k:Nat,k≤H.m.fs.length∧s166 = .int .i64 k∧Below w.heap.size w wr∧aC wr w.heap.size (dD H) 41) (fun s166 _=>H.m.fs.length-(intOf s166).toNat)
      case atStart=>exact⟨0,aS _,rfl,hbr,bx⟩
      case round=>
        clear hbr bx hc hpi;obtain⟨k,hk,rfl,hbr,bx⟩:=hrel;have hM:=hh.out.below hbr
        by_cases hkl:k<H.m.fs.length
        · obtain⟨bm,om,ham,hfm⟩:=jH eZ (by decide) hM.fr.rd k hkl;have hki:(k:Int)<(H.m.fs.length:Int):=by omega
          have hKe:aT H.ma k=H.m.fs[k]:=by unfold aT;show H.m.fs.getD k fr0=_;rw[aW,aG hkl];rfl
          have hcf:=hR'.out.cf k hkl;have hfc:=hR'.out.fc k hkl;rw[hKe] at hcf hfc;have hho:dA H.ma 1 k≤256:=by have h9:=Ej H.ma 1 k;have e9:H.ma.sp.length=H.sp.length:=CR H;omega
          have hcaN:wy H.ma k≤H.ca.length:=vD;generalize H.m.fs[k]=X at *
          have hfc':=Lib.hid hfc;have hcf':=Lib.hid hcf;clear hKe hcf hfc;rw[ham]
          go_wp2_with (first | (refine ax _ _ rfl bm (om+k*13) rfl rfl _ hfm _ underlying81 rfl frame_size ?_) | (refine aI rfl _ _ _ rfl (vK X) rfl rfl rfl frame_size (oZ _) ?_))
          intro w6 hb6 fx6;have hbr6:=ae hbr hb6;have bx6:=bx.ext hb6;have hM6:=hM.below hb6;clear hbr bx hb6 hfm hM ham
          go_wp2_with (refine ax _ _ rfl w.heap.size 0 rfl rfl _ bx6.rd _ underlying41 rfl machine_size ?_)
          refine (zb H 1 k _ hM6 hR'.out).mono ?_;rintro r w7 ⟨rfl,hb7⟩;have hbr7:=ae hbr6 hb7;have bx7:=bx6.ext hb7;have fx7:=fx6.ext hb7;clear hbr6 bx6 hM6 fx6 hb7;obtain⟨gf,hgf⟩:∃gf,wr.heap.size=gf:=⟨_,rfl⟩;rw[hgf] at fx7 ⊢;generalize hhN:dA H.ma 1 k=N at *
          have hhN':=Lib.hid hhN;clear hgf hhN;have hc:=bx7.cell;unfold dD at hc;go_wp2
          go_loopw [177,16] (fun s177 s16 wr => ∃i m:Nat,i≤H.ca.length∧s177 = .int .i64 i∧s16 = .int .i64 m∧m≤i∧Below w.heap.size w wr∧aC wr w.heap.size (dD H) 41∧aC wr gf (vK X) 81∧Hid (m=(H.ca.take i).countP fun c=>decide (c.k=(k:Int)))) (fun s177 _ _=>H.ca.length-(intOf s177).toNat)
          case atStart=>exact⟨0,0,aS _,rfl,rfl,ay _,hbr7,bx7,fx7,Lib.hid (by simp)⟩
          case round=>
            clear hbr7 bx7 fx7 hc;obtain⟨i,m,hi,rfl,rfl,hm,hbr,bx,fx,hcm⟩:=hrel;have hM:=hh.out.below hbr
            by_cases hil:i<H.ca.length
            · obtain⟨bc,oc,hac,hel⟩:=jH oV (by decide) hM.ca.rd i hil;have hii:(i:Int)<(H.ca.length:Int):=by omega
              have hct:Hid ((H.ca.take (i+1)).countP (fun c=>decide (c.k=(k:Int)))=(H.ca.take i).countP (fun c=>decide (c.k=(k:Int)))+if decide ((H.ca[i]).k=(k:Int))=true then 1 else 0):=Lib.hid (wF _ _ _ hil);generalize H.ca[i]=c at *
              rw[hac]
              go_wp2_with (first | (refine ax _ _ rfl bc (oc+i*3) rfl rfl _ hel _ underlying106 rfl cached_size ?_) | (refine aI rfl _ _ _ rfl (Ab c) rfl rfl rfl cached_size (vB _) ?_))
              intro w8 hb8 cx8;have hbr8:=ae hbr hb8;have bx8:=bx.ext hb8;have fx8:=fx.ext hb8;have hcc:=cx8.cell;unfold Ab at hcc;clear hbr bx fx hb8 hel hM cx8 hac
              by_cases hck:c.k=(k:Int)
              · have hcm' : Hid (m+1=(H.ca.take (i+1)).countP fun c=>decide (c.k=(k:Int))):=Lib.hid (by rw[hct.out,←hcm.out];simp[hck]);clear hcm hct;go_wp2;go_roundw
                case rel=>exact⟨i+1,m+1,by omega,by go_num,by go_num,by omega,hbr8,bx8,fx8,hcm'⟩
                case measure=>simp[intOf];omega
              have hcm' : Hid (m=(H.ca.take (i+1)).countP fun c=>decide (c.k=(k:Int))):=Lib.hid (by rw[hct.out,←hcm.out];simp[hck]);clear hcm hct;go_wp2;go_roundw
              case rel=>exact⟨i+1,m,by omega,by go_num,rfl,by omega,hbr8,bx8,fx8,hcm'⟩
              case measure=>simp[intOf];omega
            have hii:¬(i:Int)<(H.ca.length:Int):=by omega
            have hm' : m=wy H.ma k:=by rw[hcm.out,iF (by omega)];rfl
            have hXr:X.r=(m:Int)+(N:Int):=by rw[hcf'.out,hm']
            have hXf:0≤X.f→¬m=0:=fun h0 e=>by obtain⟨c,hc,hck⟩:=hfc'.out h0;have h9:0<wy H.ma k:=wT.2 ⟨c,hc,by simp[hck]⟩;omega
            have hsum:(N:Int)+(m:Int)=X.r:=by omega
            have hfx:=fx.cell;unfold vK at hfx;have hwr:IntKind.i64.wrap ((N:Int)+(m:Int))=X.r:=(bJ _ (by omega)).trans hsum;clear hcm hM hm' hXr hsum hcaN
            by_cases h0:0≤X.f
            · have hm0:¬(m:Int)=0:=by have:=hXf h0;omega
              clear hXf;go_wp2;go_roundw
              case rel=>exact⟨k+1,by omega,by go_num,hbr,bx⟩
              case measure=>simp[intOf];omega
            clear hXf;go_wp2;go_roundw
            case rel=>exact⟨k+1,by omega,by go_num,hbr,bx⟩
            case measure=>simp[intOf];omega
        have hki:¬(k:Int)<(H.m.fs.length:Int):=by omega
        have hc:=bx.cell;unfold dD at hc;clear hM;go_wp2
        go_loopw [207] (fun s207 wr => ∃k:Nat,k≤H.sl.length∧s207 = .int .i64 k∧Below w.heap.size w wr∧aC wr w.heap.size (dD H) 41) (fun s207 _=>H.sl.length-(intOf s207).toNat)
        case atStart=>exact⟨0,aS _,rfl,hbr,bx⟩
        case round=>
          clear hbr bx hc hki;obtain⟨k,hk,rfl,hbr,bx⟩:=hrel;have hM:=hh.out.below hbr
          by_cases hkl:k<H.sl.length
          · have hki:(k:Int)<(H.sl.length:Int):=by omega
            obtain⟨bl,ol,hal,hcj⟩:=hM.sl.rd k (fM H.sl[k]) (by rw[jM,aG hkl];rfl);unfold fM at hcj;have hcs:=hR'.out.cs k hkl;have hse:oG H.ma k=H.sl[k]:=by unfold oG;show H.sl.getD k 0=_;rw[aW,aG hkl];rfl
            rw[hse] at hcs;rw[hcs] at hcj;rw[hal];clear hcs hse
            go_wp2_with (refine ax _ _ rfl w.heap.size 0 rfl rfl _ bx.rd _ underlying41 rfl machine_size ?_)
            refine (zb H 2 k _ hM hR'.out).mono ?_;rintro r w7 ⟨rfl,hb7⟩;have hbr7:=ae hbr hb7;have bx7:=bx.ext hb7;clear hbr bx hM hb7 hcj hal;go_wp2;go_roundw
            case rel=>exact⟨k+1,by omega,by go_num,hbr7,bx7⟩
            case measure=>simp[intOf];omega
          have hki:¬(k:Int)<(H.sl.length:Int):=by omega
          clear hM;go_wp2;go_ret;exact⟨rfl,hbr⟩
theorem Io {o:Nat} (h:dN w (some ⟨b,o,none⟩) vs) (hu:vs[k]?=some u):w.cell? ⟨b,o+k,none⟩=some u:=by
 obtain⟨b',o',e,hc⟩:=h k u hu;cases e;exact hc
theorem Iq (cf cs cb:Int) (l:List UInt8) (al:Option Addr) (cl:Nat) (bits:Int) (w:World) (hr:ui w al cl l.length (l.map BP)) :
  Calls Tryz.prog 8 #[.agg #[.int .i64 cf,.int .i64 cs,.int .i64 cb],.slice al l.length cl,.int .i64 bits] w fun r w'=>r = .returned (.bool true)∧Below w.heap.size w w':=by
 go_enter func8,ntmps8;go_upto_region 1 with (fail);refine gI (fun W=>Code.wp _ _ _ _ W) fun w1 hb1 cx1 hs1 => ?_;have hr1:=hr.below hb1;clear hr
 go_wp2_with fail
 refine (Tq w1).mono ?_;rintro r w2 ⟨rfl,hb2⟩;have hr2:=hr1.below hb2;have cx2:=cx1.ext hb2;have hbr2:=ae hb1 hb2;clear hr1 cx1 hb1 hb2 hs1;have hcc:=cx2.cell
 go_wp2_with fail
 refine (DW cf cs cb al cl l w2 hr2).mono ?_;rintro r w3 ⟨H,rfl,ho,hb3,hRt,hCo,_,_,_,_,_⟩;have hbr3:=ae hbr2 hb3;have hrd3:=ho.rd;have hR:=Lib.hid hRt;have hC:=Lib.hid hCo;have hfl5:H.fi.length≤5:=by have:=(jv hRt.pt.st).1;rwa [show H.ma.st.fs.length=H.fi.length from fe _] at this
 clear hr2 cx2 hcc hbr2 hb3 ho hRt hCo
 go_wp2_with (refine aI rfl _ _ _ rfl (dD H) rfl rfl rfl machine_size (iB _) ?_)
 intro w4 hb4 bx4;have hrd4:=hrd3.below hb4;have hbr4:=ae hbr3 hb4;clear hrd3 hbr3 hb4;generalize w3.heap.size=gm at bx4
 go_wp2_with (refine ax _ _ rfl gm 0 rfl rfl _ bx4.rd _ underlying41 rfl machine_size ?_)
 refine (Df H bits _ hrd4 hR.out hC.out).mono ?_;rintro r w5 ⟨hb5,K,rfl,hoK,hmK⟩;have hrd5:=hrd4.below hb5;have bx5:=bx4.ext hb5;have hbr5:=ae hbr4 hb5;have hrK5:=hoK.rd;have hK:Hid (Rt K.ma):=Lib.hid (by rw[hmK];exact (QW hR.out bits).1);obtain⟨q1,q2,q3⟩:=Jo hR.out bits;rw[←hmK] at q1 q2 q3;have hfi:Hid (K.fi.map PF.fi=H.fi.map PF.fi):=Lib.hid (by
  have e:K.ma.st=H.ma.st:=by rw[hmK];rfl
  exact congrArg St.fs e)
 have hfl:Hid (K.fi.length=H.fi.length):=Lib.hid (by have:=congrArg List.length hfi.out;simpa using this);have hsl:Hid (K.sp.length=1):=Lib.hid (by have:=congrArg List.length q1;rwa [CR] at this);have hca:Hid (K.ca.length=0):=Lib.hid (by have e:K.ca=[]:=q2;rw[e];rfl);have hfr:Hid (uO K.m.fs=H.m.fs.length):=Lib.hid q3;have hdk:Hid (K.dk=qa (BG false bits) H.dk):=Lib.hid (congrArg Ma.dk hmK);have hsp0:Hid (fq K.ma 0=⟨true,[],zTb⟩):=Lib.hid (by unfold fq;rw[q1];rfl);clear hrd4 bx4 hbr4 hb5 hoK hmK q1 q2 q3
 go_wp2_with (refine aI rfl _ _ _ rfl (dD K) rfl rfl rfl machine_size (iB _) ?_)
 intro w6 hb6 kx6;have hrd6:=hrd5.below hb6;have bx6:=bx5.ext hb6;have hbr6:=ae hbr5 hb6;have hrK6:=hrK5.below hb6;clear hrd5 bx5 hbr5 hb6 hrK5;generalize w5.heap.size=gk at kx6;go_upto_region 5 with (fail);have h01:0<K.sp.length:=by rw[hsl.out];decide
 obtain⟨b1,o1,P,haP,hP,hrP⟩:=xH hrK6.sp.rd 0 h01;have hPs:Hid (P.lv=true∧P.ar=[]):=Lib.hid (by have h1:=hsp0.out;rw[zD hP] at h1;exact⟨congrArg Sp.lv h1,congrArg Sp.ar h1⟩);have hP0:Hid (P.ar.length=0):=Lib.hid (by rw[hPs.out.2];rfl);have haPH:=Lib.hid haP;clear haP;clear hP;have hc59:Hid (∀W,Below w6.heap.size w6 W→W.cell? ⟨b1,o1,none⟩=some (.bool true)):=Lib.hid (fun W hb=>by have:=Io (hrP.below hb) (k:=0) (u:=.bool P.lv) rfl;rw[hPs.out.1] at this;simpa using this);refine aK 56 [_,_,_,_,.v (.int .i64 0),_,_,_,_,_,_,_,_,_,_,_,_,_,_,_,_,_,_,_,_,_,_,.v (.pointer (some ⟨b1,o1+0*10,none⟩)),_,_,_,_,_,_,_,.v (.pointer (some ⟨b1,o1+0*10,none⟩)),_,_,_,_,_,_,_,.v (.int .i64 (H.m.fs.length:Int)),_,_,_,_,_,_,_,_,_,_,_,.v (.bool false)] (Gk rfl (Gb (.bool false) (by simp[go_sem]) rfl rfl rfl rfl rfl (Gk rfl (Gr (.agg (dD K)) (fun ρ y W hb hKn=>(dx rfl (aD rfl hKn) (kx6.ext hb) underlying41 rfl machine_size)) rfl rfl (ag ?_ (Gb (.bool false) (by simp[go_sem]) rfl rfl rfl rfl rfl (Gk rfl (Gk rfl (Gf gk 7 rfl rfl (Gf gk 7 rfl rfl (Gl kx6 rfl rfl rfl rfl rfl (Gn rfl rfl rfl rfl (Gf gm 7 rfl rfl (Gf gm 7 rfl rfl (Gl bx6 rfl rfl rfl rfl rfl (Gn rfl rfl rfl rfl (Gb (.bool false) (by simp[go_sem,hfl.out]) rfl rfl rfl rfl rfl (Gk rfl (Gk rfl (Gf gk 10 rfl rfl (Gl kx6 rfl rfl rfl rfl rfl (Gn rfl rfl rfl rfl (Gb (.bool false) (by simp[go_sem,hsl.out]) rfl rfl rfl rfl rfl (Gk rfl (Gk rfl (Gf gk 10 rfl rfl (Gl kx6 (V:=.slice (some ⟨b1,o1,none⟩) K.sp.length K.cp) (by simp[dD,haPH.out]) rfl rfl rfl rfl (ag ?_ (Gf b1 (o1+0*10) rfl rfl (Gc (.bool true) (fun W hb=>by simp[hc59.out W hb]) rfl rfl rfl rfl (Gk rfl (Gk rfl (Gk rfl (Gf gk 10 rfl rfl (Gl kx6 (V:=.slice (some ⟨b1,o1,none⟩) K.sp.length K.cp) (by simp[dD,haPH.out]) rfl rfl rfl rfl (ag ?_ (Gf b1 (o1+0*10+1) rfl rfl (Gc (.slice P.aa P.ar.length P.ac) (fun W hb=>by simp[Io (hrP.below hb) (k:=1) (u:=.slice P.aa P.ar.length P.ac) rfl]) rfl rfl rfl rfl (Gn rfl rfl rfl rfl (Gb (.bool false) (by simp[go_sem,hP0.out]) rfl rfl rfl rfl rfl (Gk rfl (Gk rfl (Gr (.agg (dD K)) (fun ρ y W hb hKn=>(dx rfl (aD rfl hKn) (kx6.ext hb) underlying41 rfl machine_size)) rfl rfl (ag ?_ (Gf gm 0 rfl rfl (Gf gm 0 rfl rfl (Gl bx6 rfl rfl rfl rfl rfl (Gn rfl rfl rfl rfl (Gb (.bool false) (by simp[go_sem]) rfl rfl rfl rfl rfl (Gk rfl (Gk rfl (Gf gk 9 rfl rfl (Gl kx6 rfl rfl rfl rfl rfl (Gn rfl rfl rfl rfl (Gb (.bool false) (by simp[go_sem,hca.out]) rfl rfl rfl rfl rfl (Gk rfl (aB))) (underlying38))))))) (underlying26)))))))))) (underlying50)))))))))))))))))) (underlying39))))))) (underlying35))))) (underlying35))))))))))))) (fun _=>rfl) rfl ?_
 ·intro ρ y W hw hn hb hd;have E33:=hw 33 3 rfl;have h3:y 3=_:=hd 3 rfl;have EF:∀f,ρ (.func f) = .func (.func f) #[] #[]:=fun f=>hn (.func f) trivial;refine aO _ _ (aY 2 32 false false rfl rfl ((hw 32 2 rfl).trans (hd 2 rfl))) (aQ rfl (EF _) func14 (by kernel_rfl) (by kernel_rfl) (by simp only[bP,bM,bN,E33,h3,EF];rfl)) ?_;refine (Md K W (hrK6.below hb) hK.out).mono ?_;rintro r w9 ⟨rfl,hb9⟩;exact⟨_,rfl,hb9,rfl⟩
 ·intro ρ y W hw hn hb hd;have E56:=hw 56 26 rfl;have h26:y 26=_:=hd 26 rfl;refine aj (.pointer (some ⟨b1,o1+0*10,none⟩)) (aY 24 54 false false rfl rfl ((hw 54 24 rfl).trans (hd 24 rfl))) (bv rfl (E56.trans h26) (hn (.const _) trivial) h01 underlying39 space_size) rfl
 ·intro ρ y W hw hn hb hd;have E64:=hw 64 34 rfl;have h34:y 34=_:=hd 34 rfl;refine aj (.pointer (some ⟨b1,o1+0*10,none⟩)) (aY 32 62 false false rfl rfl ((hw 62 32 rfl).trans (hd 32 rfl))) (bv rfl (E64.trans h34) (hn (.const _) trivial) h01 underlying39 space_size) rfl
 ·intro ρ y W hw hn hb hd;have E72:=hw 72 42 rfl;have h42:y 42=_:=hd 42 rfl;have EF:∀f,ρ (.func f) = .func (.func f) #[] #[]:=fun f=>hn (.func f) trivial;refine aO _ _ (aY 41 71 false false rfl rfl ((hw 71 41 rfl).trans (hd 41 rfl))) (aQ rfl (EF _) func21 (by kernel_rfl) (by kernel_rfl) (by simp only[bP,bM,bN,E72,h42,EF];rfl)) ?_;refine (KW K W (hrK6.below hb) (vV hK.out)).mono ?_;rintro r w9 ⟨rfl,hb9⟩;exact⟨_,rfl,hb9,by rw[hfr.out];rfl⟩
 intro y W7 hbW7 _;have bx7:=bx6.ext hbW7;have kx7:=kx6.ext hbW7;have hrd7:=hrd6.below hbW7;have hrK7:=hrK6.below hbW7;have hbr7:=ae hbr6 hbW7;clear bx6 kx6 hrd6 hrK6 hbr6 hbW7 hrP;have hwd:bn H.dk=0:=hR.out.pt.dk
 go_wp2_with (refine ax _ _ rfl gm 5 rfl rfl _ (bF bx7 5 2) _ underlying34 rfl disk_size ?_)
 refine (OA H.dk bits false H.db H.cdb H.dq H.cdq _ hrd7.dk).mono ?_;rintro r w8 ⟨vb,vq,rfl,hD,hb8⟩;rw[hwd];rw[←hdk.out] at hD;have bx8:=bx7.ext hb8;have kx8:=kx7.ext hb8;have hrd8:=hrd7.below hb8;have hrK8:=hrK7.below hb8;have hbr8:=ae hbr7 hb8;clear bx7 kx7 hrd7 hrK7 hbr7 hb8 hwd;obtain⟨ab,cb,aq,cq,rfl,rfl,_⟩:=hD.rd
 go_wp2_with (refine aI rfl _ _ _ rfl #[.slice ab K.dk.blocks.length cb,.slice aq K.dk.queue.length cq] rfl rfl rfl disk_size (by simp[Value.oneCell']) ?_)
 intro w9 hb9 dx9;have bx9:=bx8.ext hb9;have kx9:=kx8.ext hb9;have hrd9:=hrd8.below hb9;have hrK9:=hrK8.below hb9;have hbr9:=ae hbr8 hb9;have hD9:=RN (hD.below hb9);clear bx8 kx8 hrd8 hrK8 hbr8 hb9 hD;generalize w8.heap.size=gd at dx9
 go_wp2_with (first | (refine ax _ _ rfl gk 5 rfl rfl _ (bF kx9 5 2) _ underlying34 rfl disk_size ?_) | (refine ax _ _ rfl gd 0 rfl rfl _ dx9.rd _ underlying34 rfl disk_size ?_))
 refine (OU K.dk K.dk K.db K.cdb K.dq K.cdq ab cb aq cq _ hrK9.dk hD9).mono ?_;rintro r w10 ⟨rfl,hb10⟩;rw[AL.2 rfl];have bx10:=bx9.ext hb10;have kx10:=kx9.ext hb10;have hrd10:=hrd9.below hb10;have hrK10:=hrK9.below hb10;have hbr10:=ae hbr9 hb10;clear bx9 kx9 hrd9 hrK9 hbr9 hb10 hD9 dx9;have hc:=bx10.cell;unfold dD at hc;go_upto_region 11 with (fail);clear hc
 go_loopw [102] (fun i wr => ∃q:Nat,q≤H.fi.length∧i = .int .i64 q∧Below w.heap.size w wr∧aC wr gk (dD K) 41∧BF wr H∧BF wr K) (fun i _=>H.fi.length-(intOf i).toNat)
 case atStart=>exact⟨0,aS _,rfl,hbr10,kx10,hrd10,hrK10⟩
 case round=>
  clear hbr10 kx10 hrd10 hrK10 bx10;obtain⟨q,hq,rfl,hbr,kx,hrd,hrK⟩:=hrel
  by_cases hql:q<H.fi.length
  ·have hqi:(q:Int)<(H.fi.length:Int):=by omega
   have hqK:q<K.fi.length:=by rw[hfl.out];exact hql
   obtain⟨bf,of,hai,hel⟩:=jH jq (by decide) hrd.st.rd q hql;obtain⟨p,hp⟩:∃p,H.fi[q]?=some p:=⟨_,aG hql⟩;rw[show H.fi[q]=p from (bW.1 hp).2] at hel;obtain⟨p',hp'⟩:∃p',K.fi[q]?=some p':=⟨_,aG hqK⟩;obtain⟨bk,ok,hak,hek⟩:=jH jq (by decide) hrK.st.rd q hqK;rw[show K.fi[q]=p' from (bW.1 hp').2] at hek;have hsm:=Lib.hid (Ug hfi.out hp hp');have hsm2:Hid (p'.l.length=p.l.length):=Lib.hid (by rw[hsm.out.2]);have hakH:=Lib.hid hak;clear hak;rw[hai];clear hai hp hp'
   go_wp2_with (first | (refine ax _ _ rfl bf (of+q*2) rfl rfl _ hel _ underlying67 rfl file_size ?_) | (refine aI rfl _ _ _ rfl (pE p) rfl rfl rfl file_size (oU p) ?_))
   intro w11 hb11 px11;have kx11:=kx.ext hb11;have hrd11:=hrd.below hb11;have hrK11:=hrK.below hb11;have hbr11:=ae hbr hb11;have hek11:=hek.below hb11;clear kx hrd hrK hbr hb11 hel hek;generalize wr.heap.size=gp at px11;have hc113:Hid (∀W,Below w11.heap.size w11 W→W.cell? ⟨bk,ok+q*2,none⟩=some (.int .i64 p.n)):=Lib.hid (fun W hb=>by have:=Io (hek11.below hb) (k:=0) (u:=.int .i64 p'.n) rfl;rw[hsm.out.1] at this;simpa using this);go_upto_region 13 with (fail);refine aK 24 [_,_,_,_,_,_,_,_,_,_,_,_,_,_,_,_,_,_,_,_,_,_,_,.v (.bool false)] (Gf gk 7 rfl rfl (Gf gk 7 rfl rfl (Gl kx11 (V:=.slice (some ⟨bk,ok,none⟩) K.fi.length K.ci) (by simp[dD,hakH.out]) rfl rfl rfl rfl (Gk rfl (Gr (.pointer (some ⟨bk,ok+q*2,none⟩)) (fun ρ y W hb hKn=>(bv rfl (aD rfl hKn) (aD rfl hKn) hqK underlying35 file_size)) rfl rfl (Gf bk (ok+q*2) rfl rfl (Gc (.int .i64 p.n) (fun W hb=>by simp[hc113.out W hb]) rfl rfl rfl rfl (Gf gp 0 rfl rfl (Gl px11 rfl rfl rfl rfl rfl (Gb (.bool false) (by simp[go_sem]) rfl rfl rfl rfl rfl (Gk rfl (Gf gk 7 rfl rfl (Gf gk 7 rfl rfl (Gl kx11 (V:=.slice (some ⟨bk,ok,none⟩) K.fi.length K.ci) (by simp[dD,hakH.out]) rfl rfl rfl rfl (Gk rfl (Gr (.pointer (some ⟨bk,ok+q*2,none⟩)) (fun ρ y W hb hKn=>(bv rfl (aD rfl hKn) (aD rfl hKn) hqK underlying35 file_size)) rfl rfl (Gf bk (ok+q*2+1) rfl rfl (Gc (.slice p'.a p'.l.length p'.c) (fun W hb=>by simp[Io (hek11.below hb) (k:=1) (u:=.slice p'.a p'.l.length p'.c) rfl]) rfl rfl rfl rfl (Gn rfl rfl rfl rfl (Gf gp 1 rfl rfl (Gl px11 rfl rfl rfl rfl rfl (Gn rfl rfl rfl rfl (Gb (.bool false) (by simp[go_sem,hsm2.out]) rfl rfl rfl rfl rfl (Gk rfl (aB))) (underlying29)))) (underlying29)))))))))))))))))))) (fun _=>rfl) rfl ?_;intro y W12 hbW12 _;have kx12:=kx11.ext hbW12;have hrd12:=hrd11.below hbW12;have hrK12:=hrK11.below hbW12;have hbr12:=ae hbr11 hbW12;clear kx11 hrd11 hrK11 hbr11 hbW12 hek11 px11;go_wp2;go_roundw
   case rel=>exact⟨q+1,by omega,by go_num,hbr12,kx12,hrd12,hrK12⟩
   case measure=>simp[intOf];omega
  have hqi:¬(q:Int)<(H.fi.length:Int):=by omega
  go_wp2;go_ret;exact⟨rfl,hbr⟩
open Go.ChangeShapes Go.WideShapes Go.ChangeAt
theorem opens_cfg:yg Tryz.prog 23 (fun x:Int × Int × Int=>[.int .i64 x.1,.int .i64 x.2.1,.int .i64 x.2.2]) (fun _ x=>i64 x.1∧i64 x.2.1∧i64 x.2.2):=
 (GJ underlying23 (qR rfl 1 rfl (by kernel_rfl) (AX underlying3).w (qR rfl 2 rfl (by kernel_rfl) (AX underlying3).w (qR rfl 3 rfl (by kernel_rfl) (AX underlying3).w (Et (by kernel_rfl)))))).of (fun x=>(x.1,x.2.1,x.2.2.1)) (fun _=>rfl) (fun _ _ h=>⟨h.1,h.2.1,h.2.2.1⟩)
theorem Lc {H:Type} {en:TypeId × Value→H} {x:DataW H × List MemPlace} (hv:Value.okWide Tryz.prog W .any base 23 v) (h:DataW.trod en Tryz.prog W base' spare held fuel 23 v.cells.toList=some x) :
  ∃f s b:Int,v = .agg #[.int .i64 f,.int .i64 s,.int .i64 b]∧i64 f∧i64 s∧i64 b:=by
 obtain⟨cs,rfl,_⟩:=okWide_struct underlying23 hv;obtain⟨⟨f,s,b⟩,hcs,g1,g2,g3⟩:=opens_cfg _ _ _ _ _ _ _ _ _ h;refine⟨f,s,b,?_,g1,g2,g3⟩;congr 1;apply Array.ext';simpa[Value.cells] using hcs
end Go.Proofs.YtjkkoeijlhfneaaGreat