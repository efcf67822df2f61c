import Derived.Test.YtkjobhcnlppcnaaV5
set_option linter.unusedSimpArgs false
set_option linter.unusedVariables false
set_option maxHeartbeats 4000000
set_option maxRecDepth 100000
namespace Go.Proofs.Ytkjobhcnlppcnaa
open Go.RowKit Go.Maps Pw
def AL (x:Int) (m:Nat):Nat:=(max (min x m) 0).toNat
theorem Ai (x:Int) (m:Nat):AL x m≤m:=by unfold AL;omega
theorem xg (x:Int) (m:Nat):((AL x m:Nat):Int)=max (min x m) 0:=by unfold AL;omega
def Jp (f s b:Int) (l:List UInt8) (w:World) (r:Ending) (w' : World):Prop:=∃H:MH,r = .returned (.agg (bP H))∧sG w' w.heap.size H∧Below w.heap.size w w'∧Rt H.ma∧Co H.ma∧(∀p∈H.sp,∀n g,onA p.ar n=some g→g.fi<H.fi.length) ∧
 H.m.fs.length=AL f 40∧H.dk.blocks.length=AL b 80∧(1≤H.sp.length∧H.sp.length≤2)∧(l=[]→H.ma=jJ (AL f 40) (AL s 60) (AL b 80))
theorem Br (fr sl bl:Int) (al:Option Addr) (cl:Nat) (l:List UInt8) (w:World) (hr:kD w al cl l.length (l.map gW)) :
  Calls Try.prog 9 #[.int .i64 fr,.int .i64 sl,.int .i64 bl,.slice al l.length cl] w (Jp fr sl bl l w):=by
 have hra:Hid (∀a,al=some a→l.map gW≠[]→a.block<w.heap.size):=Lib.hid fun a ha hl=>by
  obtain⟨u,hu⟩:∃u,(l.map gW)[0]?=some u:=⟨_,List.getElem?_eq_getElem (List.length_pos_iff.2 hl)⟩
  obtain⟨b',o',e,hc⟩:=hr.rd 0 u hu
  rw[ha] at e
  cases e
  exact GV hc
 go_enter Try.func9,Try.ntmps9
 go_upto_region 2 with (fail)
 refine pz (fun W=>Code.wp _ _ _ _ W) fun w1 hb1 bx1 mx1 hs1 => ?_
 have hr1:=hr.below hb1
 have mx1:aC w1 (w.heap.size+1) (dR ⟨al,cl,l,noH,none,0,[]⟩) 89:=mx1
 have bx1:aC w1 w.heap.size (bP noH) 40:=bx1
 clear hr
 go_upto_region 3 with (fail)
 have e0:(if (if 40<fr then (40:Int) else fr)<0 then 0 else if 40<fr then 40 else fr)=((AL fr 40:Nat):Int):=by
  rw[xg];split<;>split<;>omega
 have e1:(if (if 60<sl then (60:Int) else sl)<0 then 0 else if 60<sl then 60 else sl)=((AL sl 60:Nat):Int):=by
  rw[xg];split<;>split<;>omega
 have e2:(if (if 80<bl then (80:Int) else bl)<0 then 0 else if 80<bl then 80 else bl)=((AL bl 80:Nat):Int):=by
  rw[xg];split<;>split<;>omega
 rw[e0,e1,e2]
 clear e0 e1 e2
 generalize (if 40<fr then (40:Int) else fr)=z0
 generalize (if 60<sl then (60:Int) else sl)=z1
 generalize (if 80<bl then (80:Int) else bl)=z2
 obtain⟨f,hf⟩:∃f,AL fr 40=f:=⟨_,rfl⟩
 obtain⟨s,hs⟩:∃s,AL sl 60=s:=⟨_,rfl⟩
 obtain⟨ct,hct⟩:∃ct,AL bl 80=ct:=⟨_,rfl⟩
 have hf40:f≤40:=by rw[←hf];exact Ai _ _
 have hs60:s≤60:=by rw[←hs];exact Ai _ _
 have hc80:ct≤80:=by rw[←hct];exact Ai _ _
 have hcl:=Lib.hid (And.intro hf (And.intro hs hct))
 rw[hf,hs,hct]
 clear hf hs hct
 have hb1z:w.heap.size+2≤w1.heap.size:=mx1.lt
 have hmkF:∀W:World,(Instr.makeSlice 25 (.int .i64 (f:Int)) (.int .i64 (f:Int))).run Try.prog W = .ok (.slice (some ⟨W.heap.size,0,none⟩) f f) (W.alloc (.cells (madeCells (pK fr0) (f*13)) 59)):=
  xI 25 59 _ 13 40 Try.underlying25 frame_info .i64 .i64 f (by omega) (by omega)
 have hmkS:∀W:World,(Instr.makeSlice 29 (.int .i64 (s:Int)) (.int .i64 (s:Int))).run Try.prog W = .ok (.slice (some ⟨W.heap.size,0,none⟩) s s) (W.alloc (.cells (madeCells #[.int .i64 0] (s*1)) 3)):=
  xI 29 3 _ 1 8 Try.underlying29 int_info .i64 .i64 s (by omega) (by omega)
 have hmkW:∀W:World,(Instr.makeSlice 30 (.int .i64 (s:Int)) (.int .i64 (s:Int))).run Try.prog W = .ok (.slice (some ⟨W.heap.size,0,none⟩) s s) (W.alloc (.cells (madeCells (dF zPg) (s*8)) 50)):=
  xI 30 50 _ 8 8 Try.underlying30 page_info .i64 .i64 s (by omega) (by omega)
 have hmkD:∀W:World,(Instr.makeSlice 30 (.int .i64 (ct:Int)) (.int .i64 (ct:Int))).run Try.prog W = .ok (.slice (some ⟨W.heap.size,0,none⟩) ct ct) (W.alloc (.cells (madeCells (dF zPg) (ct*8)) 50)):=
  xI 30 50 _ 8 8 Try.underlying30 page_info .i64 .i64 ct (by omega) (by omega)
 have hb2:=Lib.hid hb1
 clear hb1
 refine dA 17 [_,_,.r 2 ((aM fun _=>True)),.r 3 ((aM fun _=>True)),_,.r 5 ((aM fun _=>True)),_,.r 7 ((aM fun _=>True)),.r 8 ((aM fun _=>True)),_,.r 10 ((aM fun _=>True)),.r 11 ((aM fun _=>True)),_,.v (.agg #[.slice none 0 0,.int .i64 (ct:Int)]),.r 14 ((aM fun _=>True)),_,_] (JM w1 w1.heap.size f s ct (pK fr0) #[.int .i64 0] (dF zPg)) kJ (fun y=>KO y) (Qk kJ rfl (Qk kJ rfl (all_cons ?_ (all_cons ?_ (Qk kJ rfl (all_cons ?_ (Qk kJ rfl (all_cons ?_ (all_cons ?_ (Qk kJ rfl (all_cons ?_ (all_cons ?_ (Qk kJ rfl (all_cons ?_ (all_cons ?_ (Qk kJ rfl (Qf kJ (w.heap.size+1) 1 rfl rfl (all_nil) (fun _ _ _ _ hLd h=>qJ (by decide) h)) (fun _ _ _ _ hLd h=>qJ (by decide) h)))) (fun _ _ _ _ hLd h=>qJ (by decide) h)))) (fun _ _ _ _ hLd h=>qJ (by decide) h)))) (fun _ _ _ _ hLd h=>qJ (by decide) h))) (fun _ _ _ _ hLd h=>qJ (by decide) h)))) (fun _ _ _ _ hLd h=>qJ (by decide) h)) (fun _ _ _ _ hLd h=>qJ (by decide) h)) (fun _=>rfl) rfl ?_
 ·intro ρ y W L hw hn hLi hLd hb hd;have E32:=hw 32 1 rfl;have h1:y 1=_:=hd 1 rfl
  refine bi (.slice (some ⟨W.heap.size,0,none⟩) f f) (ah rfl) ?_ (KM hLi (Nat.le_refl _) hb) trivial
  simp[execOp,go_sem,E32,h1,hmkF]
 ·intro ρ y W L hw hn hLi hLd hb hd;have E33:=hw 33 2 rfl;have h2:=hd 2 rfl
  obtain⟨g,e2,_,_⟩:=hb.k2 (hLd 2 rfl)
  refine bi (.agg #[y 2,.int .i64 0]) (ah rfl) ?_ (KR hLi (hLd 2 rfl) hb) trivial
  rw[e2] at E33 ⊢
  simp[execOp,go_sem,E33]
 ·intro ρ y W L hw hn hLi hLd hb hd;have E35:=hw 35 4 rfl;have h4:y 4=_:=hd 4 rfl
  refine bi (.slice (some ⟨W.heap.size,0,none⟩) s s) (ah rfl) ?_ (KT hLi (Nat.le_refl _) hb) trivial
  simp[execOp,go_sem,E35,h4,hmkS]
 ·intro ρ y W L hw hn hLi hLd hb hd;have E37:=hw 37 6 rfl;have h6:y 6=_:=hd 6 rfl
  refine bi (.slice (some ⟨W.heap.size,0,none⟩) s s) (ah rfl) ?_ (KN hLi (Nat.le_refl _) hb) trivial
  simp[execOp,go_sem,E37,h6,hmkW]
 ·intro ρ y W L hw hn hLi hLd hb hd;have E38:=hw 38 7 rfl;have h7:=hd 7 rfl
  obtain⟨g,e2,_,_⟩:=hb.k7 (hLd 7 rfl)
  refine bi (.agg #[y 7,.slice none 0 0]) (ah rfl) ?_ (KS hLi (hLd 7 rfl) hb) trivial
  rw[e2] at E38 ⊢
  simp[execOp,go_sem,E38]
 ·intro ρ y W L hw hn hLi hLd hb hd;have E40:=hw 40 9 rfl;have h9:y 9=_:=hd 9 rfl
  refine bi (.slice (some ⟨W.heap.size,0,none⟩) ct ct) (ah rfl) ?_ (Kh hLi (Nat.le_refl _) hb) trivial
  simp[execOp,go_sem,E40,h9,hmkD]
 ·intro ρ y W L hw hn hLi hLd hb hd;have E41:=hw 41 10 rfl;have h10:=hd 10 rfl
  obtain⟨g,e2,_,_⟩:=hb.k10 (hLd 10 rfl)
  refine bi (.agg #[y 10,.slice none 0 0]) (ah rfl) ?_ (Ku hLi (hLd 10 rfl) hb) trivial
  rw[e2] at E41 ⊢
  simp[execOp,go_sem,E41]
 ·intro ρ y W L hw hn hLi hLd hb hd
  refine bG kJ (fun _ _ h=>qJ (by decide) h) hb ?_
  have E43:=hw 43 12 rfl
  have h12:y 12=_:=hd 12 rfl
  refine aj (.agg #[.slice none 0 0,.int .i64 (ct:Int)]) (ah rfl) (by simp[execOp,go_sem,E43,h12]) rfl
 ·intro ρ y W L hw hn hLi hLd hb hd;have E34:=hw 34 3 rfl;have h3:=hd 3 rfl;have E36:=hw 36 5 rfl;have h5:=hd 5 rfl;have E39:=hw 39 8 rfl;have h8:=hd 8 rfl;have E42:=hw 42 11 rfl;have h11:=hd 11 rfl
  have E44:=hw 44 13 rfl
  have h13:y 13=_:=hd 13 rfl
  obtain⟨l2,e3⟩:=hb.k3 (hLd 3 rfl)
  obtain⟨l7,e8⟩:=hb.k8 (hLd 8 rfl)
  obtain⟨l10,e11⟩:=hb.k11 (hLd 11 rfl)
  obtain⟨g2,e2,_,_⟩:=hb.k2 l2
  obtain⟨g5,e5,_,_⟩:=hb.k5 (hLd 5 rfl)
  obtain⟨g7,e7,_,_⟩:=hb.k7 l7
  obtain⟨g10,e10,_,_⟩:=hb.k10 l10
  refine bi (.agg #[y 2,.int .i64 0,y 5,y 7,.slice none 0 0,y 10,.slice none 0 0,.slice none 0 0,.int .i64 ct,.slice none 0 0,.slice none 0 0]) (ah rfl) ?_ (Ke (hLd 3 rfl) (hLd 5 rfl) (hLd 8 rfl) (hLd 11 rfl) hb) trivial
  rw[e3,e2] at E34
  rw[e5] at E36
  rw[e8,e7] at E39
  rw[e11,e10] at E42
  rw[e2,e5,e7,e10]
  simp[execOp,go_sem,E34,E36,E39,E42,E44,h13]
 intro y W3 hbW3 hRW3
 have hy2:((aM fun _=>True)).r (y 2) W3:=hRW3 2 (by decide)
 have hy3:((aM fun _=>True)).r (y 3) W3:=hRW3 3 (by decide)
 have hy5:((aM fun _=>True)).r (y 5) W3:=hRW3 5 (by decide)
 have hy7:((aM fun _=>True)).r (y 7) W3:=hRW3 7 (by decide)
 have hy8:((aM fun _=>True)).r (y 8) W3:=hRW3 8 (by decide)
 have hy10:((aM fun _=>True)).r (y 10) W3:=hRW3 10 (by decide)
 have hy11:((aM fun _=>True)).r (y 11) W3:=hRW3 11 (by decide)
 have hy14:((aM fun _=>True)).r (y 14) W3:=hRW3 14 (by decide)
 clear hRW3
 obtain⟨⟨l3,l5,l8,l11⟩,e14⟩:=hbW3.k14 rfl
 obtain⟨gf,e2,bf,kf⟩:=hbW3.k2 rfl
 obtain⟨gs,e5,bs,ks⟩:=hbW3.k5 rfl
 obtain⟨gw,e7,bw,kw⟩:=hbW3.k7 rfl
 obtain⟨gd,e10,bd,kd⟩:=hbW3.k10 rfl
 have hwd:gw≠gd:=Ii kw kd (by rw[←e7,←e10];exact hbW3.ne rfl rfl)
 have mx3:=mx1.ext hbW3.be
 have bx3:=bx1.ext hbW3.be
 have hr3:=hr1.below hbW3.be
 have hbe3:=Lib.hid (ag hb2.out hbW3.be)
 rw[e14,e2,e5,e7,e10]
 clear hy2 hy3 hy5 hy7 hy8 hy10 hy11 hy14 e14 e2 e5 e7 e10 hbW3 l3 l5 l8 l11 hmkF hmkS hmkW hmkD mx1 bx1 hr1 hb2
 go_wp2_with (refine aA rfl _ _ _ rfl (w.heap.size+1) 1 _ [.slice (some ⟨gf,0,none⟩) f f,.int .i64 0,.slice (some ⟨gs,0,none⟩) s s,.slice (some ⟨gw,0,none⟩) s s,.slice none 0 0,.slice (some ⟨gd,0,none⟩) ct ct,.slice none 0 0,.slice none 0 0,.int .i64 ct,.slice none 0 0,.slice none 0 0] rfl rfl rfl _ _ mx3 (by show 1+11≤13;omega) (by kernel_rfl) (by simp[Value.oneCell']) ?_)
 intro w4 hb4 hg4
 have hk4:aC w4 (w.heap.size+1) (dR ⟨al,cl,l,Ih gf gs gw gd f s ct,none,0,[]⟩) 89:=by
  have e:dR ⟨al,cl,l,Ih gf gs gw gd f s ct,none,0,[]⟩=putAt (dR ⟨al,cl,l,noH,none,0,[]⟩) 1 [.slice (some ⟨gf,0,none⟩) f f,.int .i64 0,.slice (some ⟨gs,0,none⟩) s s,.slice (some ⟨gw,0,none⟩) s s,.slice none 0 0,.slice (some ⟨gd,0,none⟩) ct ct,.slice none 0 0,.slice none 0 0,.int .i64 ct,.slice none 0 0,.slice none 0 0]:=by
   unfold dR Ih noH
   dsimp only
   rw[List.length_replicate,List.length_replicate,List.length_replicate,List.length_replicate]
   kernel_rfl
  rw[e];exact hb4
 have hm4:bR w4 (w.heap.size+1) (w.heap.size+1) ⟨al,cl,l,Ih gf gs gw gd f s ct,none,0,[]⟩:=
  Ia (hr3.keep (B:=w.heap.size+1) (fun a ha hl=>Nat.lt_succ_of_lt (hra.out a ha hl)) (Nat.le_of_lt mx3.lt) hg4 (Nat.le_refl _)) (fun a ha hl=>Nat.lt_succ_of_lt (hra.out a ha hl)) (Nat.le_refl _) hk4 hf40 hs60 hc80 (by omega) (by omega) (by omega) (by omega) hwd (zf:=pK fr0) (zs:=#[.int .i64 0]) (zp:=dF zPg) rfl rfl rfl
   (kf.grown hg4 (fun e=>by have:=Option.some.inj e;omega)) (ks.grown hg4 (fun e=>by have:=Option.some.inj e;omega)) (kw.grown hg4 (fun e=>by have:=Option.some.inj e;omega)) (kd.grown hg4 (fun e=>by have:=Option.some.inj e;omega))
 have bx4:aC w4 w.heap.size (bP noH) 40:=bx3.grown hg4 (fun e=>by have:=Option.some.inj e;omega)
 have hbe4:Hid (Below w.heap.size w w4):=Lib.hid (hbe3.out.grown hg4 (Nat.le_trans (by omega) (Nat.le_of_lt mx3.lt)) (fun k hk=>by cases hk;omega))
 have hszl4:w.heap.size+2≤w4.heap.size:=hk4.lt
 clear kf ks kw kd mx3 bx3 hr3 hbe3 hb4 hg4 hk4 bf bs bw bd hwd hra hb1z
 generalize hb' : w.heap.size+1=b at hm4 hszl4 ⊢
 have hbb:=Lib.hid hb'
 clear hb'
 obtain⟨S3,hS3⟩:∃S3,S3=(⟨al,cl,l,Ih gf gs gw gd f s ct,none,0,[]⟩:MW):=⟨_,rfl⟩
 have hS3':=Lib.hid hS3
 rw[←hS3] at hm4
 have hc:=hm4.blk.cell
 unfold dR at hc
 have hfl:S3.H.m.fs.length=f:=by rw[hS3];exact List.length_replicate
 rw[hfl] at hc
 clear hfl
 have hm4q:bR w4 b b (S3.frs (ru f 0)):=by
  have e:S3.frs (ru f 0)=S3:=by rw[hS3];rfl
  rw[e];exact hm4
 have hs4q:MS w4 b S3 w4 (S3.frs (ru f 0)):=(MS.refl w4 b S3).same rfl
 have hnb4:Hid (¬gM b S3 w.heap.size):=Lib.hid (fun hk=>by
  have h1:=(hm4.kb_own hk).1
  have h2:=hbb.out
  omega)
 have hto:Hid (∀w' S',MS w4 b S3 w' S'→Below b w4 w'):=Lib.hid (fun w' S' h=>MS.to hm4 h (Nat.le_refl b))
 clear hS3 hm4
 have bx4':=Lib.hid bx4
 clear bx4
 go_upto_region 5 with (fail)
 go_loopw [55] (fun k wr => ∃q:Nat,q≤f∧k = .int .i64 q∧bR wr b b (S3.frs (ru f q))∧MS w4 b S3 wr (S3.frs (ru f q))) (fun k _=>f-(intOf k).toNat)
 case atStart=>exact⟨0,Nat.zero_le _,rfl,hm4q,hs4q⟩
 case round=>
  clear hm4q hs4q
  obtain⟨q,hq,rfl,hm,hs⟩:=hrel
  by_cases hqf:q<f
  ·have hqi:(q:Int)<(f:Int):=by omega
   have hlq:(ru f q).length=f:=wV hq
   have hc:=hm.blk.cell
   unfold dR at hc
   dsimp only[MW.frs] at hc
   rw[hlq] at hc
   obtain⟨g,off,cap,cur,hv,hgB,hg,hgs,hgc,hgw⟩:=hm.ma.fr.put eu (by decide) q (by show q<(ru f q).length;omega)
   have haf:S3.H.af=some ⟨g,off,none⟩:=(Value.slice.inj hv).1
   have hcur:Hid (∀j u,(mD fr0)[j]?=some u→cur[off+q*13+j]?=some u):=Lib.hid fun j u hj=>by
    have e:(S3.frs (ru f q)).H.m.fs[q]'(by show q<(ru f q).length;omega)=fr0:=Iz hqf (by omega)
    have:=hgc j u (by rw[e];exact hj)
    rw[hg.cell] at this
    exact this
   rw[haf] at hc
   have hgw':=Lib.hid hgw
   have hlq':=Lib.hid hlq
   have haf':=Lib.hid haf
   clear hv hgc hgw hlq haf
   go_wp2_with (refine aA rfl _ _ _ rfl g (off+q*13+11) _ [.int .i64 (-1)] rfl rfl rfl _ _ hg (by show off+q*13+11+1≤cur.size;omega) (by kernel_rfl) (fun u hu=>by cases List.mem_singleton.1 hu;rfl) ?_)
   intro w5 hb5 hg5
   rw[Hy hgs hcur.out] at hb5
   have ho:=hgw'.out _ _ hb5
   have hset:(S3.frs (ru f q)).H.m.fs.set q frZ=ru f (q+1):=Hg hqf
   have hlen:(ru f (q+1)).length=(ru f q).length:=by rw[wV (by omega),wV hq]
   rw[hset] at ho
   have hm5:bR w5 b b (S3.frs (ru f (q+1))):=hm.putF hg hgB hg5 (fs:=ru f (q+1)) hlen (by rw[hlen];exact ho)
   have hs5:MS w4 b S3 w5 (S3.frs (ru f (q+1))):=hs.put hg5 (.inr (by show some g∈dH S3;unfold dH;rw[haf'.out];exact List.mem_cons_self)) (fun x hx => .inl hx)
   clear hm hs hg hgs hb5 hg5 hc ho hset hlen
   go_wp2
   go_roundw
   case rel=>exact⟨q+1,by omega,by go_num,hm5,hs5⟩
   case measure=>simp[intOf];omega
  ·have hqi:¬(q:Int)<(f:Int):=by omega
   have hqe:f=q:=by omega
   subst hqe
   rw[Hu] at hm hs
   go_wp2_with fail
   refine (cB _ 3 b b _ hm (by omega)).mono ?_
   rintro r w5 ⟨N,a5,c5,l5,rfl,hm5,hs5,hN,hN0⟩
   have hs5:=hs.trans hs5
   have hl5:Hid (l=[]→N=0∧l5=[]):=Lib.hid fun e=>hN0 (by show S3.l=[];rw[hS3'.out];exact e)
   have hF5:xC f s ct S3.H.asl ((S3.frs (List.replicate f frZ)).lst a5 c5 l5).H.fi (List.replicate ct zPg) [] ((S3.frs (List.replicate f frZ)).lst a5 c5 l5):=by
    rw[hS3'.out]
    exact⟨rfl,rfl,rfl,rfl,rfl,rfl,rfl,rfl,rfl,rfl⟩
   have hfi5:((S3.frs (List.replicate f frZ)).lst a5 c5 l5).H.fi=[]:=by rw[hS3'.out];rfl
   have hls5:Hid (l=[]→((S3.frs (List.replicate f frZ)).lst a5 c5 l5).l=[]):=Lib.hid fun e=>(hl5.out e).2
   obtain⟨N,rfl⟩:=Int.eq_ofNat_of_zero_le hN.1
   have hN2:N≤2:=by omega
   clear hm hs hN hN0 hqf hqi hq
   generalize (S3.frs (List.replicate f frZ)).lst a5 c5 l5=S5 at hm5 hs5 hF5 hfi5 hls5
   go_upto_region 10 with (fail)
   go_loopw [70] (fun k wr => ∃(q:Nat) (S:MW) (bk:List Page) (qu:List (Int × Page)),q≤N∧k = .int .i64 q∧bR wr b b S∧MS w4 b S3 wr S∧Hid (xC f s ct S3.H.asl S.H.fi bk qu S∧Fb ct bk qu (S.H.fi.map PF.fi) []∧S.H.fi.length=q∧(q=0→bk=List.replicate ct zPg∧qu=[]∧(l=[]→S.l=[])))) (fun k _=>N-(intOf k).toNat)
   case atStart=>exact⟨0,S5,_,_,Nat.zero_le _,rfl,hm5,hs5,Lib.hid ⟨hF5,by rw[hfi5];exact Fb.start hc80,by rw[hfi5];rfl,fun _=>⟨rfl,rfl,hls5.out⟩⟩⟩
   case round=>
    clear hm5 hs5 hF5 hfi5 hls5
    obtain⟨q,S,bk,qu,hq,rfl,hm,hs,hI⟩:=hrel
    obtain⟨fi0,hfi0⟩:∃fi0,S.H.fi=fi0:=⟨_,rfl⟩
    rw[hfi0] at hI
    clear hfi0
    have hl0q:Hid (fi0.length=q):=Lib.hid hI.out.2.2.1
    have hl0:Hid (fi0.length≤2):=Lib.hid (by have:=hI.out.2.2.1;omega)
    by_cases hqN:q<N
    ·have hqi:(q:Int)<(N:Int):=by omega
     go_wp2_with fail
     refine (cB _ 40 b b _ hm (by omega)).mono ?_
     rintro r w6 ⟨x,a6,c6,l6,rfl,hm6,hs6,hx,_⟩
     have hs6:=hs.trans hs6
     have hF6:Hid (xC f s ct S3.H.asl fi0 bk qu (S.lst a6 c6 l6)):=Lib.hid (hI.out.1.lst _ _ _)
     have hx1:0≤x∧x<40:=by omega
     obtain⟨C,hC⟩:∃C:Nat,bV x=C:=⟨(bV x).toNat,by unfold bV;split<;>omega⟩
     have hC5:C≤5:=by unfold bV at hC;split at hC<;>omega
     have hC':=Lib.hid hC
     clear hm hs hx hC
     generalize S.lst a6 c6 l6=S6 at hm6 hs6 hF6
     go_wp2_with (refine aD rfl _ _ _ rfl (jd ⟨x,none,[],0⟩) rfl rfl rfl file_size (ji _) ?_)
     intro w7 hb7 fx7
     have hm7:=hm6.below hb7
     have hs67:=(MS.refl w6 b S6).below hb7
     have hnf:Hid (¬gM b S6 w6.heap.size):=Lib.hid (hm6.new (Nat.le_refl _))
     have hgB:b≤w6.heap.size:=hm6.bs
     have hgB':=Lib.hid hgB
     clear hm6 hb7
     generalize hg60:w6.heap.size=gf0 at hnf hgB fx7 ⊢
     have hg6:Hid (w6.heap.size≤gf0):=Lib.hid (Nat.le_of_eq hg60)
     clear hg60
     have hcf:=fx7.cell
     unfold jd at hcf
     go_wp2_with fail
     refine (oD x _ (by omega)).mono ?_
     rintro r w8 ⟨rfl,rfl⟩
     rw[hC'.out]
     clear hcf
     have hnp6:∀p∈fi0,True:=fun _ _=>trivial
     clear hnp6
     go_upto_region 13 with (fail)
     go_loopw [78] (fun k wr => ∃(i:Nat) (S:MW) (bk:List Page) (qu:List (Int × Page)) (xs:List Int) (xa:Option Addr) (xc:Nat),i≤C∧k = .int .i64 i∧bR wr b b S∧MS w6 b S6 wr S∧Hid (¬gM b S gf0)∧Hid (xC f s ct S3.H.asl fi0 bk qu S∧Fb ct bk qu (fi0.map PF.fi) xs∧xs.length=i)∧aC wr gf0 (jd ⟨x,xa,xs,xc⟩) 71 ∧
      Hid (Own wr b 3 1 (kE ⟨x,xa,xs,xc⟩) xs.length (xs.map eU)∧∀g,oB xa=some g→w6.heap.size≤g∧oB S3.H.asl≠some g∧∀p∈fi0,oB p.a≠some g)) (fun k _=>C-(intOf k).toNat)
     case atStart=>exact⟨0,S6,bk,qu,[],none,0,Nat.zero_le _,rfl,hm7,hs67,hnf,Lib.hid ⟨hF6.out,hI.out.2.1,rfl⟩,fx7,Lib.hid ⟨Own.nil _ _ _ _,fun g hg=>(by cases hg)⟩⟩
     case round=>
      clear hm7 fx7 hI hF6 hs67 hnf
      obtain⟨i,S,bk,qu,xs,xa,xc,hi,rfl,hm,hs,hkf',hI,fx,ho⟩:=hrel
      by_cases hiC:i<C
      ·have hii:(i:Int)<(C:Int):=by omega
       go_upto_region 16 with (fail)
       have hkx:∀g,(kE ⟨x,xa,xs,xc⟩).ownBlock=some g→¬gM b S g:=fun g hg=>by
        obtain⟨cs,hk⟩:=fU ho.out.1 g hg
        refine hm.kb_int hk ?_
        rw[hI.out.1.asl]
        exact (ho.out.2 g (by unfold kE at hg;rw[gF] at hg;exact hg)).2.1
       have hkx':=Lib.hid hkx
       clear hkx
       go_cut [14] (fun s14 wx => ∃(n:Nat) (a:Option Addr) (c:Nat) (l:List UInt8),s14 = .int .i64 n∧n<256∧bR wx b b (S.lst a c l)∧MS wr b S wx (S.lst a c l)∧aC wx gf0 (jd ⟨x,xa,xs,xc⟩) 71∧Hid (Own wx b 3 1 (kE ⟨x,xa,xs,xc⟩) xs.length (xs.map eU)))
       case first=>
        go_wp2_with fail
        all_goals
         refine (cB S _ b b _ hm (by omega)).mono ?_
         rintro r w8 ⟨n,a8,c8,l8,rfl,hm8,hs8,hn,_⟩
         obtain⟨n,rfl⟩:=Int.eq_ofNat_of_zero_le hn.1
         have hn256:(n:Int)<256:=hn.2.1
         have fx8:=hs8.blkN fx hkf'.out
         have ho8:Hid (Own w8 b 3 1 (kE ⟨x,xa,xs,xc⟩) xs.length (xs.map eU)):=Lib.hid (hs8.ownN ho.out.1 hkx'.out)
         clear hm fx hn
         go_wp2
         go_meet
         case rel=>exact⟨n,a8,c8,l8,rfl,by omega,hm8,hs8,fx8,ho8⟩
       case rest=>
       obtain⟨n,a8,c8,l8,rfl,hn256,hm8,hs8,fx8,ho8'⟩:=hcut
       have ho8:Hid (Own wc b 3 1 (kE ⟨x,xa,xs,xc⟩) xs.length (xs.map eU)∧∀g,oB xa=some g→w6.heap.size≤g∧oB S3.H.asl≠some g∧∀p∈fi0,oB p.a≠some g):=Lib.hid ⟨ho8'.out,ho.out.2⟩
       clear ho8'
       have hF8:Hid (xC f s ct S3.H.asl fi0 bk qu (S.lst a8 c8 l8)∧Fb ct bk qu (fi0.map PF.fi) xs∧xs.length=i):=Lib.hid ⟨hI.out.1.lst _ _ _,hI.out.2⟩
       have hs8:=hs.trans hs8
       have hkf8:Hid (¬gM b (S.lst a8 c8 l8) gf0):=hkf'
       have hkx8:Hid (∀g,(kE ⟨x,xa,xs,xc⟩).ownBlock=some g→¬gM b (S.lst a8 c8 l8) g):=hkx'
       clear hm hs hI fx ho hkf' hkx'
       generalize S.lst a8 c8 l8=S8 at hm8 hs8 hF8 hkf8 hkx8
       go_upto_region 17 with (fail)
       go_cut [109] (fun s109 wx => ∃(β:Bool) (a:Option Addr) (c:Nat) (l:List UInt8),s109 = .bool β∧bR wx b b (S8.lst a c l)∧MS wc b S8 wx (S8.lst a c l)∧aC wx gf0 (jd ⟨x,xa,xs,xc⟩) 71∧Hid (Own wx b 3 1 (kE ⟨x,xa,xs,xc⟩) xs.length (xs.map eU))∧Hid (β=true→n<ct∧¬(n:Int)∈(fi0.map PF.fi).flatMap Fi.b++xs))
       case first=>
        have hgf8:gf0<wc.heap.size:=fx8.lt
        have hl8:S8.H.fi.length≤5:=by
         have e1:=hF8.out.1.fi
         have e2:=hl0.out
         rw[e1];omega
        by_cases hnc:n<ct
        ·have hdn:(n:Int)<(ct:Int):=by omega
         cases hu:iZ (dP (S8.H.fi++[(⟨x,xa,xs,xc⟩:PF)]) 0) (n:Int) with
         | true=>
          refine dA 25 [_,_,_,_,.r 4 ((aM fun _=>True)),_,_,_,_,_,.v (.slice S8.H.ai S8.H.fi.length S8.H.ci),.r 11 ((aM fun _=>True)),.v (.agg (jd ⟨x,xa,xs,xc⟩)),.r 13 ((aM fun _=>True)),.r 14 ((aM fun _=>True)),.r 15 ((aM fun _=>True)),_,.v (.bool true),_,_,_,_,_,_,.v (.bool false)] (vN S8 b b wc gf0 ⟨x,xa,xs,xc⟩) bC (fun y=>IZ hm8 fx8 ho8.out.1 y) (Qk bC rfl (Qk bC rfl (Qb bC (.bool true) (by simp[go_sem,hdn]) rfl rfl rfl rfl rfl (Qk bC rfl (all_cons ?_ (Qk bC rfl (Qk bC rfl (Qf bC b 1 rfl rfl (Qf bC b 8 rfl rfl (Qf bC b 8 rfl rfl (all_cons ?_ (all_cons ?_ (all_cons ?_ (all_cons ?_ (all_cons ?_ (all_cons ?_ (Qk bC rfl (all_cons ?_ (Qk bC rfl (Qk bC rfl (Qk bC rfl (Qk bC rfl (Qk bC rfl (Qk bC rfl (Qk bC rfl (all_nil) (fun _ _ _ _ hLd h=>bL (by decide) h)) (fun _ _ _ _ hLd h=>bL (by decide) h)) (fun _ _ _ _ hLd h=>bL (by decide) h)) (fun _ _ _ _ hLd h=>bL (by decide) h)) (fun _ _ _ _ hLd h=>bL (by decide) h)) (fun _ _ _ _ hLd h=>bL (by decide) h)) (fun _ _ _ _ hLd h=>bL (by decide) h))) (fun _ _ _ _ hLd h=>bL (by decide) h)))))))) (fun _ _ _ _ hLd h=>bL (by decide) h)) (fun _ _ _ _ hLd h=>bL (by decide) h)) (fun _ _ _ _ hLd h=>bL (by decide) h)) (fun _ _ _ _ hLd h=>bL (by decide) h)) (fun _ _ _ _ hLd h=>bL (by decide) h))) (fun _ _ _ _ hLd h=>bL (by decide) h)) (fun _ _ _ _ hLd h=>bL (by decide) h)) (fun _ _ _ _ hLd h=>bL (by decide) h)) (fun _ _ _ _ hLd h=>bL (by decide) h)) (fun _=>rfl) rfl ?_
          ·intro ρ y W L hw hn hLi hLd hb hd
           refine bi (.slice (some ⟨W.heap.size,0,none⟩) 0 0) (aL 3 88 true true rfl rfl ((hw 88 3 rfl).trans (hd 3 rfl))) ?_ (IW hb) trivial
           simp[execOp,go_sem]
          ·intro ρ y W L hw hn hLi hLd hb hd
           refine bG bC (fun _ _ h=>bL (by decide) h) hb ?_
           have E94:=hw 94 9 rfl
           have h9:y 9=_:=hd 9 rfl
           obtain⟨⟨a0,c0,l0,m1,m2⟩,m3⟩:=hb
           refine aj (.slice S8.H.ai S8.H.fi.length S8.H.ci) (aL 3 88 true true rfl rfl ((hw 88 3 rfl).trans (hd 3 rfl))) (by simp[execOp,go_sem,E94,h9,m1.blk.cell,dR,MW.lst]) rfl
          ·intro ρ y W L hw hn hLi hLd hb hd;have E89:=hw 89 4 rfl;have h4:=hd 4 rfl;have E95:=hw 95 10 rfl;have h10:y 10=_:=hd 10 rfl
           obtain⟨g,hg1,hg2⟩:=hb.2.2.2.1 (hLd 4 rfl) hLi
           have hsz:=hb.2.2.2.2.2.2.2.1
           obtain⟨a0,c0,l0,m1,m2⟩:=hb.1
           have m3:DJ W S8.H.ai S8.H.ci S8.H.fi:=m1.ma.rd.st
           refine dx (aL 3 88 true true rfl rfl ((hw 88 3 rfl).trans (hd 3 rfl))) (pR _ _ _ rfl wc.heap.size 71 _ 2 32 Try.underlying34 file_info rfl (by decide) g (E89.trans hg1) hg2 S8.H.ai S8.H.fi.length S8.H.ci (S8.H.fi.flatMap mZ) (E95.trans h10) m3.nl m3.le (by rw[Pw.flat_len mZ 2 ib]) m3.rd (by unfold maxLen;omega) (by omega) hsz) (fun v W1 h=>Eh hb h.1 h.2) (fun _ _ _=>trivial)
          ·intro ρ y W L hw hn hLi hLd hb hd
           refine bG bC (fun _ _ h=>bL (by decide) h) hb ?_
           have E11:ρ (.tmp 11) = .pointer (some ⟨gf0,0,none⟩):=(hn (.tmp 11) rfl).trans rfl
           have m3:=hb.2.1
           refine aj (.agg (jd ⟨x,xa,xs,xc⟩)) (aL 3 88 true true rfl rfl ((hw 88 3 rfl).trans (hd 3 rfl))) (bI rfl E11 m3 Try.underlying71 rfl file_size) rfl
          ·intro ρ y W L hw hn hLi hLd hb hd;have E97:=hw 97 12 rfl;have h12:y 12=_:=hd 12 rfl
           have hsz:=hb.2.2.2.2.2.2.2.1
           refine bi (.slice (some ⟨W.heap.size,0,none⟩) 1 1) (aL 3 88 true true rfl rfl ((hw 88 3 rfl).trans (hd 3 rfl))) ?_ (Fx (W':=W.alloc (.cells (jd ⟨x,xa,xs,xc⟩) 71)) hb ((Below.refl _ _).alloc (Nat.le_refl _) _) (Cr hsz _)) trivial
           simp[execOp,go_sem,E97.trans h12,jd]
          ·intro ρ y W L hw hn hLi hLd hb hd;have E96:=hw 96 11 rfl;have h11:=hd 11 rfl;have E98:=hw 98 13 rfl;have h13:=hd 13 rfl
           have hsz:=hb.2.2.2.2.2.2.2.1
           have hv:=hb.2.2.2.2.1 (hLd 11 rfl) hLi
           obtain⟨a,e,hx1,k1,k2,k3,k4⟩:=(hb.2.2.2.2.2.1 (hLd 13 rfl) hLi).rd
           refine dx (aL 3 88 true true rfl rfl ((hw 88 3 rfl).trans (hd 3 rfl))) (fH _ _ _ rfl wc.heap.size 71 _ 2 32 Try.underlying34 file_info rfl (by decide) (y 11) S8.H.fi.length _ E96 hv a 1 e (mZ ⟨x,xa,xs,xc⟩) (E98.trans hx1) k3 k1 rfl k4 (aZ (ji _)) (by unfold maxLen;omega) (by omega) hsz) (fun v W1 h=>FJ hm8 hgf8 hb (hLd 11 rfl) hLi h.2.1 h.1) (fun _ _ _=>trivial)
          ·intro ρ y W L hw hn hLi hLd hb hd;have E99:=hw 99 14 rfl;have h14:=hd 14 rfl
           obtain⟨a,c,e14,_⟩:=tH hb (hLd 14 rfl)
           refine bi (.agg #[y 14,.int .i64 0]) (aL 3 88 true true rfl rfl ((hw 88 3 rfl).trans (hd 3 rfl))) ?_ (FZ (hLd 14 rfl) hb) trivial
           rw[e14] at E99 ⊢
           simp[execOp,go_sem,E99]
          ·intro ρ y W L hw hn hLi hLd hb hd;have E100:=hw 100 15 rfl;have h15:=hd 15 rfl;have E101:=hw 101 16 rfl;have h16:y 16=_:=hd 16 rfl
           have EF:∀f,ρ (.func f) = .func (.func f) #[] #[]:=fun f=>hn (.func f) trivial
           obtain⟨l14,e15⟩:=hb.2.2.2.2.2.2.2.2 (hLd 15 rfl)
           obtain⟨a,c,e14,hFs⟩:=tH hb l14
           rw[e15,e14] at E100
           refine dK _ _ (aL 3 88 true true rfl rfl ((hw 88 3 rfl).trans (hd 3 rfl))) (aN rfl (EF _) Try.func30 (by kernel_rfl) (by kernel_rfl) (by simp only[List.map_toArray,List.map_cons,List.map_nil,E100,E101,h16,EF];rfl)) ?_
           have hus:=nL (S8.H.fi++[⟨x,xa,xs,xc⟩]) 0 n a c W hFs
           unfold GL at hus
           rw[hu] at hus
           refine hus.mono ?_
           rintro r w1 ⟨hr1,hb1⟩
           exact⟨_,hr1,bL (by decide) (bC _ _ _ _ hb1 hb),rfl⟩
          intro y W9 hbW9 hRW9
          have hy4:((aM fun _=>True)).r (y 4) W9:=hRW9 4 (by decide)
          have hy11:((aM fun _=>True)).r (y 11) W9:=hRW9 11 (by decide)
          have hy13:((aM fun _=>True)).r (y 13) W9:=hRW9 13 (by decide)
          have hy14:((aM fun _=>True)).r (y 14) W9:=hRW9 14 (by decide)
          have hy15:((aM fun _=>True)).r (y 15) W9:=hRW9 15 (by decide)
          clear hRW9
          have hbJ:=hbW9.1
          obtain⟨a9,c9,l9,hm9,hs9⟩:=hbJ
          have fx9:=hbW9.2.1
          have ho9:=Lib.hid hbW9.2.2.1
          clear hbW9 hm8 hs8 fx8 ho8
          go_wp2
          go_meet
          case rel=>exact⟨false,a9,c9,l9,rfl,hm9,hs9,fx9,ho9,Lib.hid fun e=>(by cases e)⟩
         | false=>
          refine dA 25 [_,_,_,_,.r 4 ((aM fun _=>True)),_,_,_,_,_,.v (.slice S8.H.ai S8.H.fi.length S8.H.ci),.r 11 ((aM fun _=>True)),.v (.agg (jd ⟨x,xa,xs,xc⟩)),.r 13 ((aM fun _=>True)),.r 14 ((aM fun _=>True)),.r 15 ((aM fun _=>True)),_,.v (.bool false),_,_,_,_,.r 22 ((aM fun v => ∃x:Int,v = .int .i64 x)),.r 23 ((aM fun v => ∃u,v = .bool u)),.r 24 ((aM fun v => ∃u,v = .bool u))] (vN S8 b b wc gf0 ⟨x,xa,xs,xc⟩) bC (fun y=>IZ hm8 fx8 ho8.out.1 y) (Qk bC rfl (Qk bC rfl (Qb bC (.bool true) (by simp[go_sem,hdn]) rfl rfl rfl rfl rfl (Qk bC rfl (all_cons ?_ (Qk bC rfl (Qk bC rfl (Qf bC b 1 rfl rfl (Qf bC b 8 rfl rfl (Qf bC b 8 rfl rfl (all_cons ?_ (all_cons ?_ (all_cons ?_ (all_cons ?_ (all_cons ?_ (all_cons ?_ (Qk bC rfl (all_cons ?_ (Qk bC rfl (Qk bC rfl (Qk bC rfl (Qk bC rfl (all_cons ?_ (all_cons ?_ (all_cons ?_ (all_nil)))) (fun _ _ _ _ hLd h=>bL (by decide) h)) (fun _ _ _ _ hLd h=>bL (by decide) h)) (fun _ _ _ _ hLd h=>bL (by decide) h)) (fun _ _ _ _ hLd h=>bL (by decide) h))) (fun _ _ _ _ hLd h=>bL (by decide) h)))))))) (fun _ _ _ _ hLd h=>bL (by decide) h)) (fun _ _ _ _ hLd h=>bL (by decide) h)) (fun _ _ _ _ hLd h=>bL (by decide) h)) (fun _ _ _ _ hLd h=>bL (by decide) h)) (fun _ _ _ _ hLd h=>bL (by decide) h))) (fun _ _ _ _ hLd h=>bL (by decide) h)) (fun _ _ _ _ hLd h=>bL (by decide) h)) (fun _ _ _ _ hLd h=>bL (by decide) h)) (fun _ _ _ _ hLd h=>bL (by decide) h)) (fun _=>rfl) rfl ?_
          ·intro ρ y W L hw hn hLi hLd hb hd
           refine bi (.slice (some ⟨W.heap.size,0,none⟩) 0 0) (aL 3 88 true true rfl rfl ((hw 88 3 rfl).trans (hd 3 rfl))) ?_ (IW hb) trivial
           simp[execOp,go_sem]
          ·intro ρ y W L hw hn hLi hLd hb hd
           refine bG bC (fun _ _ h=>bL (by decide) h) hb ?_
           have E94:=hw 94 9 rfl
           have h9:y 9=_:=hd 9 rfl
           obtain⟨⟨a0,c0,l0,m1,m2⟩,m3⟩:=hb
           refine aj (.slice S8.H.ai S8.H.fi.length S8.H.ci) (aL 3 88 true true rfl rfl ((hw 88 3 rfl).trans (hd 3 rfl))) (by simp[execOp,go_sem,E94,h9,m1.blk.cell,dR,MW.lst]) rfl
          ·intro ρ y W L hw hn hLi hLd hb hd;have E89:=hw 89 4 rfl;have h4:=hd 4 rfl;have E95:=hw 95 10 rfl;have h10:y 10=_:=hd 10 rfl
           obtain⟨g,hg1,hg2⟩:=hb.2.2.2.1 (hLd 4 rfl) hLi
           have hsz:=hb.2.2.2.2.2.2.2.1
           obtain⟨a0,c0,l0,m1,m2⟩:=hb.1
           have m3:DJ W S8.H.ai S8.H.ci S8.H.fi:=m1.ma.rd.st
           refine dx (aL 3 88 true true rfl rfl ((hw 88 3 rfl).trans (hd 3 rfl))) (pR _ _ _ rfl wc.heap.size 71 _ 2 32 Try.underlying34 file_info rfl (by decide) g (E89.trans hg1) hg2 S8.H.ai S8.H.fi.length S8.H.ci (S8.H.fi.flatMap mZ) (E95.trans h10) m3.nl m3.le (by rw[Pw.flat_len mZ 2 ib]) m3.rd (by unfold maxLen;omega) (by omega) hsz) (fun v W1 h=>Eh hb h.1 h.2) (fun _ _ _=>trivial)
          ·intro ρ y W L hw hn hLi hLd hb hd
           refine bG bC (fun _ _ h=>bL (by decide) h) hb ?_
           have E11:ρ (.tmp 11) = .pointer (some ⟨gf0,0,none⟩):=(hn (.tmp 11) rfl).trans rfl
           have m3:=hb.2.1
           refine aj (.agg (jd ⟨x,xa,xs,xc⟩)) (aL 3 88 true true rfl rfl ((hw 88 3 rfl).trans (hd 3 rfl))) (bI rfl E11 m3 Try.underlying71 rfl file_size) rfl
          ·intro ρ y W L hw hn hLi hLd hb hd;have E97:=hw 97 12 rfl;have h12:y 12=_:=hd 12 rfl
           have hsz:=hb.2.2.2.2.2.2.2.1
           refine bi (.slice (some ⟨W.heap.size,0,none⟩) 1 1) (aL 3 88 true true rfl rfl ((hw 88 3 rfl).trans (hd 3 rfl))) ?_ (Fx (W':=W.alloc (.cells (jd ⟨x,xa,xs,xc⟩) 71)) hb ((Below.refl _ _).alloc (Nat.le_refl _) _) (Cr hsz _)) trivial
           simp[execOp,go_sem,E97.trans h12,jd]
          ·intro ρ y W L hw hn hLi hLd hb hd;have E96:=hw 96 11 rfl;have h11:=hd 11 rfl;have E98:=hw 98 13 rfl;have h13:=hd 13 rfl
           have hsz:=hb.2.2.2.2.2.2.2.1
           have hv:=hb.2.2.2.2.1 (hLd 11 rfl) hLi
           obtain⟨a,e,hx1,k1,k2,k3,k4⟩:=(hb.2.2.2.2.2.1 (hLd 13 rfl) hLi).rd
           refine dx (aL 3 88 true true rfl rfl ((hw 88 3 rfl).trans (hd 3 rfl))) (fH _ _ _ rfl wc.heap.size 71 _ 2 32 Try.underlying34 file_info rfl (by decide) (y 11) S8.H.fi.length _ E96 hv a 1 e (mZ ⟨x,xa,xs,xc⟩) (E98.trans hx1) k3 k1 rfl k4 (aZ (ji _)) (by unfold maxLen;omega) (by omega) hsz) (fun v W1 h=>FJ hm8 hgf8 hb (hLd 11 rfl) hLi h.2.1 h.1) (fun _ _ _=>trivial)
          ·intro ρ y W L hw hn hLi hLd hb hd;have E99:=hw 99 14 rfl;have h14:=hd 14 rfl
           obtain⟨a,c,e14,_⟩:=tH hb (hLd 14 rfl)
           refine bi (.agg #[y 14,.int .i64 0]) (aL 3 88 true true rfl rfl ((hw 88 3 rfl).trans (hd 3 rfl))) ?_ (FZ (hLd 14 rfl) hb) trivial
           rw[e14] at E99 ⊢
           simp[execOp,go_sem,E99]
          ·intro ρ y W L hw hn hLi hLd hb hd;have E100:=hw 100 15 rfl;have h15:=hd 15 rfl;have E101:=hw 101 16 rfl;have h16:y 16=_:=hd 16 rfl
           have EF:∀f,ρ (.func f) = .func (.func f) #[] #[]:=fun f=>hn (.func f) trivial
           obtain⟨l14,e15⟩:=hb.2.2.2.2.2.2.2.2 (hLd 15 rfl)
           obtain⟨a,c,e14,hFs⟩:=tH hb l14
           rw[e15,e14] at E100
           refine dK _ _ (aL 3 88 true true rfl rfl ((hw 88 3 rfl).trans (hd 3 rfl))) (aN rfl (EF _) Try.func30 (by kernel_rfl) (by kernel_rfl) (by simp only[List.map_toArray,List.map_cons,List.map_nil,E100,E101,h16,EF];rfl)) ?_
           have hus:=nL (S8.H.fi++[⟨x,xa,xs,xc⟩]) 0 n a c W hFs
           unfold GL at hus
           rw[hu] at hus
           refine hus.mono ?_
           rintro r w1 ⟨hr1,hb1⟩
           exact⟨_,hr1,bL (by decide) (bC _ _ _ _ hb1 hb),rfl⟩
          ·intro ρ y W L hw hn hLi hLd hb hd;have E106:=hw 106 21 rfl;have h21:y 21=_:=hd 21 rfl
           have EC:∀v,ρ (.const v)=v:=fun v=>hn (.const v) trivial
           have EF:∀f,ρ (.func f) = .func (.func f) #[] #[]:=fun f=>hn (.func f) trivial
           refine dK _ _ (aL 20 105 true true rfl rfl ((hw 105 20 rfl).trans (hd 20 rfl))) (aN rfl (EF _) Try.func28 (by kernel_rfl) (by kernel_rfl) (by simp only[List.map_toArray,List.map_cons,List.map_nil,E106,h21,EC,EF];rfl)) ?_
           exact GI (by decide) hm8 hkf8.out hkx8.out 3 (by omega) hb fun x _ _ _=>⟨x,rfl⟩
          ·intro ρ y W L hw hn hLi hLd hb hd
           refine bG bC (fun _ _ h=>bL (by decide) h) hb ?_
           have E107:=hw 107 22 rfl
           have h22:=hd 22 rfl
           obtain⟨x,hx⟩:=h22
           refine aj _ (aL 20 105 true true rfl rfl ((hw 105 20 rfl).trans (hd 20 rfl))) (jo rfl (E107.trans hx) (hn (.const _) trivial) (by simp[go_sem];rfl)) ⟨_,rfl⟩
          ·intro ρ y W L hw hn hLi hLd hb hd
           refine bG bC (fun _ _ h=>bL (by decide) h) hb ?_
           have E105:=hw 105 20 rfl
           have h20:y 20=_:=hd 20 rfl
           have E108:=hw 108 23 rfl
           have h23:=hd 23 rfl
           obtain⟨u,hu9⟩:=h23
           refine aj (.bool u) (ah rfl) (jw rfl (E105.trans h20) (by simpa using E108.trans hu9)) ⟨_,rfl⟩
          intro y W9 hbW9 hRW9
          have hy4:((aM fun _=>True)).r (y 4) W9:=hRW9 4 (by decide)
          have hy11:((aM fun _=>True)).r (y 11) W9:=hRW9 11 (by decide)
          have hy13:((aM fun _=>True)).r (y 13) W9:=hRW9 13 (by decide)
          have hy14:((aM fun _=>True)).r (y 14) W9:=hRW9 14 (by decide)
          have hy15:((aM fun _=>True)).r (y 15) W9:=hRW9 15 (by decide)
          have hy22:((aM fun v => ∃x:Int,v = .int .i64 x)).r (y 22) W9:=hRW9 22 (by decide)
          have hy23:((aM fun v => ∃u,v = .bool u)).r (y 23) W9:=hRW9 23 (by decide)
          have hy24:((aM fun v => ∃u,v = .bool u)).r (y 24) W9:=hRW9 24 (by decide)
          clear hRW9
          have hbJ:=hbW9.1
          obtain⟨a9,c9,l9,hm9,hs9⟩:=hbJ
          have fx9:=hbW9.2.1
          have ho9:=Lib.hid hbW9.2.2.1
          obtain⟨β,hβ⟩:=hy24
          rw[hβ]
          clear hbW9 hm8 hs8 fx8 ho8 hβ
          have hnu:Hid (n<ct∧¬(n:Int)∈(fi0.map PF.fi).flatMap Fi.b++xs):=Lib.hid ⟨hnc,fun hmem=>by
           have e1:=hF8.out.1.fi
           unfold iZ at hu
           rw[sN,e1] at hu
           have h2:¬(n:Int)∈mQ (fi0++[(⟨x,xa,xs,xc⟩:PF)]):=of_decide_eq_false hu
           refine h2 ?_
           unfold mQ
           rw[List.flatMap_append]
           rcases List.mem_append.1 hmem with h3|h3
           ·rw[List.flatMap_map] at h3
            exact List.mem_append_left _ h3
           ·exact List.mem_append_right _ (by simpa using h3)⟩
          go_wp2
          go_meet
          case rel=>exact⟨β,a9,c9,l9,rfl,hm9,hs9,fx9,ho9,Lib.hid fun _=>hnu.out⟩
        ·have hdn:¬(n:Int)<(ct:Int):=by omega
         refine aF 25 [_,_,_,_,_,_,_,_,_,_,_,_,_,_,_,_,_,_,_,_,_,_,_,_,.v (.bool false)] (Gk rfl (Gk rfl (Gb (.bool false) (by simp[go_sem,hdn]) rfl rfl rfl rfl rfl (Gk rfl (Gk rfl (Gk rfl (Gk rfl (Gk rfl (Gk rfl (Gk rfl (Gk rfl (Gk rfl (Gk rfl (Gk rfl (Gk rfl (Gk rfl (Gk rfl (Gk rfl (Gk rfl (Gk rfl (Gk rfl (Gk rfl (Gk rfl (Gk rfl (Gk rfl (all_nil)))))))))))))))))))))))))) (fun _=>rfl) rfl ?_
         intro y W9 hbW9 _
         have hm9:=hm8.below hbW9
         have hs9:=(MS.refl wc b S8).below hbW9
         have fx9:=fx8.ext hbW9
         have ho9:=Lib.hid (ho8.out.1.below hbW9)
         clear hbW9 hm8 fx8 ho8
         go_wp2
         go_meet
         case rel=>exact⟨false,S8.al,S8.cl,S8.l,rfl,hm9,hs9,fx9,ho9,Lib.hid fun e=>(by cases e)⟩
       case rest=>
       obtain⟨β,a9,c9,l9,rfl,hm9,hs9,fx9,ho9,hβ⟩:=hcut
       have hap:=Lib.hid ho8.out.2
       have hs9:=hs8.trans hs9
       have hF9:Hid (xC f s ct S3.H.asl fi0 bk qu (S8.lst a9 c9 l9)∧Fb ct bk qu (fi0.map PF.fi) xs∧xs.length=i):=Lib.hid ⟨hF8.out.1.lst _ _ _,hF8.out.2⟩
       have hkf9:Hid (¬gM b (S8.lst a9 c9 l9) gf0):=hkf8
       have hkx9:Hid (∀g,(kE ⟨x,xa,xs,xc⟩).ownBlock=some g→¬gM b (S8.lst a9 c9 l9) g):=hkx8
       clear hm8 hs8 hF8 fx8 ho8 hkf8 hkx8
       generalize S8.lst a9 c9 l9=S9 at hm9 hs9 hF9 hkf9 hkx9
       go_upto_if 109 with (fail)
       have hF8l:Hid (xs.length=i):=Lib.hid hF9.out.2.2
       have hF10l:Hid (xs.length≤C):=Lib.hid (by have:=hF9.out.2.2;omega)
       go_cut [13] (fun s13 wx => ∃(v:Int) (S:MW) (bk:List Page) (qu:List (Int × Page)),s13 = .int .i64 v∧bR wx b b S∧MS w6 b S6 wx S∧Hid (¬gM b S gf0)∧Hid (xC f s ct S3.H.asl fi0 bk qu S∧Fb ct bk qu (fi0.map PF.fi) (xs++[v]))∧aC wx gf0 (jd ⟨x,xa,xs,xc⟩) 71∧Hid (Own wx b 3 1 (kE ⟨x,xa,xs,xc⟩) xs.length (xs.map eU)))
       case first=>
        cases β with
        | false=>
         go_wp2
         go_meet
         case rel=>exact⟨-1,S9,bk,qu,rfl,hm9,hs9,hkf9,Lib.hid ⟨hF9.out.1,hF9.out.2.1.none⟩,fx9,ho9⟩
        | true=>
         have hnn:=Lib.hid (hβ.out rfl)
         clear hβ
         go_wp2_with fail
         refine (nH S9 b b _ hm9).mono ?_
         rintro r w10 ⟨P,a10,c10,l10,rfl,hm10,hs10⟩
         have fx10:=hs10.blkN fx9 hkf9.out
         have ho10:Hid (Own w10 b 3 1 (kE ⟨x,xa,xs,xc⟩) xs.length (xs.map eU)):=Lib.hid (hs10.ownN ho9.out hkx9.out)
         have hs10:=hs9.trans hs10
         have hF10:Hid (xC f s ct S3.H.asl fi0 bk qu (S9.lst a10 c10 l10)∧Fb ct bk qu (fi0.map PF.fi) xs∧xs.length=i):=Lib.hid ⟨hF9.out.1.lst _ _ _,hF9.out.2⟩
         have hkf10:Hid (¬gM b (S9.lst a10 c10 l10) gf0):=hkf9
         have hkx10:Hid (∀g,(kE ⟨x,xa,xs,xc⟩).ownBlock=some g→¬gM b (S9.lst a10 c10 l10) g):=hkx9
         clear hm9 hs9 hF9 fx9 ho9 hkf9 hkx9
         generalize S9.lst a10 c10 l10=S10 at hm10 hs10 hF10 hkf10 hkx10
         go_wp2_with (refine aD rfl _ _ _ rfl (dF P) rfl rfl rfl psize (dD P) ?_)
         intro w11 hb11 px11
         have hm11:=hm10.below hb11
         have hs11:=hs10.below hb11
         have fx11:=fx10.ext hb11
         have ho11:Hid (Own w11 b 3 1 (kE ⟨x,xa,xs,xc⟩) xs.length (xs.map eU)):=Lib.hid (ho10.out.below hb11)
         have hnp:=Lib.hid (hm10.new (Nat.le_refl _))
         have hp0:=Lib.hid hs10.size
         have hpB:b≤w10.heap.size:=hm10.bs
         have hpf:Hid (w10.heap.size≠gf0):=Lib.hid (fun e=>by have:=fx10.lt;omega)
         clear hm10 hs10 fx10 ho10 hb11
         generalize w10.heap.size=gp at *
         go_upto_region 21 with (fail)
         go_loopw [113] (fun j wr => ∃k:Nat,k≤8∧j = .int .i64 k∧bR wr b b S10∧MS w6 b S6 wr S10∧aC wr gp (dF (eH P (x-(i:Int)*8) k)) 50∧aC wr gf0 (jd ⟨x,xa,xs,xc⟩) 71∧Hid (Own wr b 3 1 (kE ⟨x,xa,xs,xc⟩) xs.length (xs.map eU))) (fun j _=>8-(intOf j).toNat)
         case atStart=>exact⟨0,by omega,rfl,hm11,hs11,by rw[show eH P (x-(i:Int)*8) 0=P from by ext j hj;simp[eH]];exact px11,fx11,ho11⟩
         case round=>
          clear hm11 hs11 px11 fx11 ho11
          obtain⟨k,hk,rfl,hm,hs,px,fx,ho⟩:=hrel
          by_cases hk8:k<8
          ·have hki:(k:Int)<8:=by omega
           have hcf:=fx.cell
           unfold jd at hcf
           have hw1:IntKind.i64.wrap (8*(i:Int))=8*(i:Int):=IntWalk.i64_in _ (by omega)
           have hw2:IntKind.i64.wrap (8*(i:Int)+(k:Int))=8*(i:Int)+(k:Int):=IntWalk.i64_in _ (by omega)
           by_cases hge:x≤8*(i:Int)+k
           ·have hset:Hid ((dF (eH P (x-(i:Int)*8) k)).setIfInBounds k (.int .u8 0)=dF (eH P (x-(i:Int)*8) (k+1))):=Lib.hid (by
             rw[←qQ P _ k hk8 (by omega)];exact tF _ k hk8 0)
            generalize hT:eH P (x-(i:Int)*8) k=T at px hset
            clear hT
            go_wp2_with (refine aA rfl _ _ _ rfl gp k _ [.int .u8 0] rfl rfl rfl _ _ px (by show k+1≤8;omega) (by kernel_rfl) (fun u hu=>by cases List.mem_singleton.1 hu;rfl) ?_)
            intro w12 px12 hg12
            rw[lG,hset.out] at px12
            have hm12:=hm.locT px (by decide) hnp.out hpB hg12
            have hs12:=hs.loc hg12 hp0.out
            have fx12:=fx.grown hg12 (fun e=>hpf.out (by have:=Option.some.inj e;omega))
            have ho12:Hid (Own w12 b 3 1 (kE ⟨x,xa,xs,xc⟩) xs.length (xs.map eU)):=Lib.hid (ak ho.out px (by decide) hg12)
            clear hm hs px hg12 hcf fx ho
            go_wp2
            go_roundw
            case rel=>exact⟨k+1,by omega,by go_num,hm12,hs12,px12,fx12,ho12⟩
            case measure=>simp[intOf];omega
           ·have hset:eH P (x-(i:Int)*8) k=eH P (x-(i:Int)*8) (k+1):=by
             ext j hj
             simp only[eH,Vector.getElem_ofFn]
             by_cases e:x-(i:Int)*8≤(j:Int)
             ·rw[if_neg (by omega),if_neg (by omega)]
             ·rw[if_neg (by omega),if_neg (by omega)]
            rw[hset] at px
            clear hset
            go_wp2
            go_roundw
            case rel=>exact⟨k+1,by omega,by go_num,hm,hs,px,fx,ho⟩
            case measure=>simp[intOf];omega
          ·have hki:¬(k:Int)<8:=by omega
           rw[rM _ _ k (by omega)] at px
           generalize dE P (x-(i:Int)*8)=PC at px
           have hncn:n<ct:=hnn.out.1
           have hdl:S10.H.dk.blocks.length=ct:=by rw[hF10.out.1.dk];exact hF10.out.2.1.cl.1
           obtain⟨g,off,cap,cur,hv,hgB,hg,hgs,hgc,hgw⟩:=hm.ma.dk.b.put ic (by decide) n (by rw[hdl];exact hncn)
           have hdb:S10.H.db=some ⟨g,off,none⟩:=(Value.slice.inj hv).1
           have hgw':=Lib.hid hgw
           have hdl':=Lib.hid hdl
           have hdb':=Lib.hid hdb
           have hpg:Hid (gp≠g):=Lib.hid (fun e=>hnp.out (by rw[e];exact .inr (by simp only[dH,hdb];simp[oB,Value.ownBlock])))
           have hfg:Hid (gf0≠g):=Lib.hid (fun e=>hkf10.out (by rw[e];exact .inr (by simp only[dH,hdb];simp[oB,Value.ownBlock])))
           have hkg:Hid (gM b S10 g):=Lib.hid (.inr (by simp only[dH,hdb];simp[oB,Value.ownBlock]))
           clear hv hgc hgw hdl hdb
           go_upto_region 26 with (fail)
           refine aF 9 [_,_,_,_,_,_,_,_,_] (Gk rfl (Gk rfl (Gf b 1 rfl rfl (Gf b 6 rfl rfl (Gf b 6 rfl rfl (Gl hm.blk (V:=.slice (some ⟨g,off,none⟩) ct S10.H.cdb) (by simp[dR,hdb'.out,hdl'.out]) rfl rfl rfl rfl (Gk rfl (Gr (.agg #[.int .u8 PC[0].toNat,.int .u8 PC[1].toNat,.int .u8 PC[2].toNat,.int .u8 PC[3].toNat,.int .u8 PC[4].toNat,.int .u8 PC[5].toNat,.int .u8 PC[6].toNat,.int .u8 PC[7].toNat]) (fun ρ y W hb hKn=>(bM rfl (az rfl hKn) (bK (px.ext hb) 0 8) Try.underlying50 rfl (by kernel_rfl))) rfl rfl (Gr (.pointer (some ⟨g,off+n*8,none⟩)) (fun ρ y W hb hKn=>(aT rfl (az rfl hKn) (az rfl hKn) hncn Try.underlying30 psize)) rfl rfl (all_nil)))))))))) (fun _=>rfl) rfl ?_
           intro y W13 hbW13 _
           have hm13:=hm.below hbW13
           have hs13:=hs.below hbW13
           have px13:=px.ext hbW13
           have fx13:=fx.ext hbW13
           have ho13:=Lib.hid (ho.out.below hbW13)
           have hg13:=hg.ext hbW13
           clear hm hs px fx ho hg hbW13
           go_wp2_with (refine aA rfl _ _ _ rfl g (off+n*8) _ (sI PC) rfl rfl rfl _ _ hg13 (by show off+n*8+8≤cur.size;omega) (by kernel_rfl) (aZ (dD PC)) ?_)
           intro w14 hb14 hg14
           have hpo:=hgw'.out _ PC hb14
           have hm14:bR w14 b b { S10 with H:={ S10.H with dk:=⟨S10.H.dk.blocks.set n PC,S10.H.dk.queue⟩ } }:=hm13.putD hg13 hgB (by rw[hdb'.out];rfl) hg14 (l:=S10.H.dk.blocks.set n PC) (by simp) (by simpa using hpo)
           have hs14:MS w6 b S6 w14 { S10 with H:={ S10.H with dk:=⟨S10.H.dk.blocks.set n PC,S10.H.dk.queue⟩ } }:=hs13.put hg14 hkg.out (fun x hx => .inl hx)
           have px14:=px13.grown hg14 (fun e=>hpg.out (Option.some.inj e).symm)
           have fx14:=fx13.grown hg14 (fun e=>hfg.out (Option.some.inj e).symm)
           have ho14:Hid (Own w14 b 3 1 (kE ⟨x,xa,xs,xc⟩) xs.length (xs.map eU)):=Lib.hid (ak ho13.out hg13 (by decide) hg14)
           have hF14:Hid (xC f s ct S3.H.asl fi0 (bk.set n PC) qu { S10 with H:={ S10.H with dk:=⟨S10.H.dk.blocks.set n PC,S10.H.dk.queue⟩ } }):=Lib.hid (by
            have h9:=hF10.out.1
            exact⟨h9.m,h9.asl,h9.sl,h9.sw,by show (⟨S10.H.dk.blocks.set n PC,S10.H.dk.queue⟩:qm)=_;rw[h9.dk],h9.fi,h9.ct,h9.ca,h9.sp,h9.T⟩)
           have hkf14:Hid (¬gM b { S10 with H:={ S10.H with dk:=⟨S10.H.dk.blocks.set n PC,S10.H.dk.queue⟩ } } gf0):=hkf10
           have hnp14:Hid (¬gM b { S10 with H:={ S10.H with dk:=⟨S10.H.dk.blocks.set n PC,S10.H.dk.queue⟩ } } gp):=hnp
           have hkx14:Hid (∀g,(kE ⟨x,xa,xs,xc⟩).ownBlock=some g→¬gM b { S10 with H:={ S10.H with dk:=⟨S10.H.dk.blocks.set n PC,S10.H.dk.queue⟩ } } g):=hkx10
           clear hm13 hs13 px13 fx13 ho13 hg13 hpo hb14 hg14
           generalize { S10 with H:={ S10.H with dk:=⟨S10.H.dk.blocks.set n PC,S10.H.dk.queue⟩ } }=S14 at hm14 hs14 hF14 hkf14 hnp14 hkx14
           go_wp2_with fail
           refine (cB S14 2 b b _ hm14 (by omega)).mono ?_
           rintro r w15 ⟨z,a15,c15,l15,rfl,hm15,hs15,hz,_⟩
           have fx15:=hs15.blkN fx14 hkf14.out
           have px15:=hs15.blkN px14 hnp14.out
           have ho15:Hid (Own w15 b 3 1 (kE ⟨x,xa,xs,xc⟩) xs.length (xs.map eU)):=Lib.hid (hs15.ownN ho14.out hkx14.out)
           have hs15:=hs14.trans hs15
           have hF15:Hid (xC f s ct S3.H.asl fi0 (bk.set n PC) qu (S14.lst a15 c15 l15)):=Lib.hid (hF14.out.lst _ _ _)
           have hkf15:Hid (¬gM b (S14.lst a15 c15 l15) gf0):=hkf14
           have hnp15:Hid (¬gM b (S14.lst a15 c15 l15) gp):=hnp14
           have hkx15:Hid (∀g,(kE ⟨x,xa,xs,xc⟩).ownBlock=some g→¬gM b (S14.lst a15 c15 l15) g):=hkx14
           clear hm14 hs14 fx14 px14 ho14 hF14 hkf14 hnp14 hkx14
           generalize S14.lst a15 c15 l15=S15 at hm15 hs15 hF15 hkf15 hnp15 hkx15
           by_cases hz1:z=1
           ·subst hz1
            have hql:S15.H.dk.queue.length≤100:=by
             have h1:=hF10.out.2.1.ql
             have h2:=hF10.out.2.2
             have h3:=hl0.out
             rw[hF15.out.dk]
             rw[List.length_map] at h1
             show qu.length≤100
             omega
            have hnb:Hid (∀g,(Value.slice S15.H.dq S15.H.dk.queue.length S15.H.cdq).ownBlock=some g→g≠b∧∀t∈[(gp,dF PC,50),(gf0,jd ⟨x,xa,xs,xc⟩,71)],t.1≠g):=Lib.hid (fun g hg=>by
             obtain⟨cs,hk⟩:=fU hm15.ma.dk.q g hg
             refine⟨fun e=>ko hk hm15.blk (by decide) e,fun t ht => ?_⟩
             simp only[List.mem_cons,List.not_mem_nil,or_false] at ht
             rcases ht with rfl|rfl
             ·exact ko px15 hk (by decide)
             ·exact ko fx15 hk (by decide))
            have hks:Hid (∀t∈[(gp,dF PC,50),(gf0,jd ⟨x,xa,xs,xc⟩,71)],aC w15 t.1 t.2.1 t.2.2):=Lib.hid (fun t ht=>by
             simp only[List.mem_cons,List.not_mem_nil,or_false] at ht
             rcases ht with rfl|rfl
             ·exact px15
             ·exact fx15)
            go_upto_region 28 with (fail)
            refine dA 16 [_,_,_,_,_,_,.v (.slice S15.H.dq S15.H.dk.queue.length S15.H.cdq),_,.v (.agg (dF PC)),.v (.agg (yS ((n:Int),PC))),.r 10 ((aM fun _=>True)),.r 11 ((aM fun _=>True)),_,_,_,_] (ui S15 b b w15 [(gp,dF PC,50),(gf0,jd ⟨x,xa,xs,xc⟩,71)] 11 10 93 9 S15.H.dk.queue.length (.slice S15.H.dq S15.H.dk.queue.length S15.H.cdq) (S15.H.dk.queue.flatMap rX) (rX ((n:Int),PC))) bX (fun y=>FR hm15 hks.out y) (Qk bX rfl (Qk bX rfl (Qk bX rfl (Qf bX b 1 rfl rfl (Qf bX b 6 rfl rfl (Qf bX b 7 rfl rfl (all_cons ?_ (Qk bX rfl (all_cons ?_ (all_cons ?_ (all_cons ?_ (all_cons ?_ (Qk bX rfl (Qf bX b 1 rfl rfl (Qf bX b 6 rfl rfl (Qf bX b 7 rfl rfl (all_nil) (fun _ _ _ _ hLd h=>dm (by decide) h)) (fun _ _ _ _ hLd h=>dm (by decide) h)) (fun _ _ _ _ hLd h=>dm (by decide) h)) (fun _ _ _ _ hLd h=>dm (by decide) h)))))) (fun _ _ _ _ hLd h=>dm (by decide) h))) (fun _ _ _ _ hLd h=>dm (by decide) h)) (fun _ _ _ _ hLd h=>dm (by decide) h)) (fun _ _ _ _ hLd h=>dm (by decide) h)) (fun _ _ _ _ hLd h=>dm (by decide) h)) (fun _ _ _ _ hLd h=>dm (by decide) h)) (fun _ _ _ _ hLd h=>dm (by decide) h)) (fun _=>rfl) rfl ?_
            ·intro ρ y W L hw hn hLi hLd hb hd
             refine bG bX (fun _ _ h=>dm (by decide) h) hb ?_
             have E143:=hw 143 5 rfl
             have h5:y 5=_:=hd 5 rfl
             have m1:=hb.1.1
             refine aj (.slice S15.H.dq S15.H.dk.queue.length S15.H.cdq) (ah rfl) (by simp[execOp,go_sem,E143,h5,m1.cell,dR]) rfl
            ·intro ρ y W L hw hn hLi hLd hb hd
             refine bG bX (fun _ _ h=>dm (by decide) h) hb ?_
             have E15:ρ (.tmp 15) = .pointer (some ⟨gp,0,none⟩):=(hn (.tmp 15) rfl).trans rfl
             have m3:=hb.1.2 _ List.mem_cons_self
             refine aj (.agg (dF PC)) (ah rfl) (bI rfl E15 m3 Try.underlying50 rfl psize) rfl
            ·intro ρ y W L hw hn hLi hLd hb hd
             refine bG bX (fun _ _ h=>dm (by decide) h) hb ?_
             have E145:=hw 145 7 rfl
             have h7:y 7=_:=hd 7 rfl
             have E146:=hw 146 8 rfl
             have h8:y 8=_:=hd 8 rfl
             refine aj (.agg (yS ((n:Int),PC))) (ah rfl) (by simp[execOp,go_sem,E145,h7,E146,h8,dF,yS]) rfl
            ·intro ρ y W L hw hn hLi hLd hb hd;have E147:=hw 147 9 rfl;have h9:y 9=_:=hd 9 rfl
             refine bi (.slice (some ⟨W.heap.size,0,none⟩) 1 1) (ah rfl) ?_ (Fz (W':=W.alloc (.cells (yS ((n:Int),PC)) 93)) (by decide) ((Below.refl _ _).alloc (Nat.le_refl _) _) hb ⟨Nat.le_refl _,by unfold maxLen;omega,fun e=>(by cases e),bW.new _ _ _⟩) trivial
             simp[execOp,go_sem,E147.trans h9,yS]
            ·intro ρ y W L hw hn hLi hLd hb hd;have E144:=hw 144 6 rfl;have h6:y 6=_:=hd 6 rfl;have E148:=hw 148 10 rfl;have h10:=hd 10 rfl
             have hm:=(hb.2.1 hLi).1
             obtain⟨a,e,hx1,hx2⟩:=hb.2.2.1 (hLd 10 rfl) hLi
             have hpv:Own W b 93 9 (.slice S15.H.dq S15.H.dk.queue.length S15.H.cdq) S15.H.dk.queue.length (S15.H.dk.queue.flatMap rX):=hm.ma.dk.q
             refine dx (ah rfl) (fH _ _ _ rfl b 93 _ 9 16 Try.underlying31 put_info rfl (by decide) (.slice S15.H.dq S15.H.dk.queue.length S15.H.cdq) S15.H.dk.queue.length _ (E144.trans h6) hpv a 1 e (rX ((n:Int),PC)) (E148.trans hx1) hx2.nl hx2.le rfl hx2.rd (aZ (Ca _)) (by unfold maxLen;omega) (by omega) hm.bs) (fun v W1 h=>FT hLi hb h.2.1 hnb.out h.1 h.2.2) (fun _ _ _=>trivial)
            intro y W16 hbW16 hRW16
            have hy10:((aM fun _=>True)).r (y 10) W16:=hRW16 10 (by decide)
            have hy11:((aM fun _=>True)).r (y 11) W16:=hRW16 11 (by decide)
            clear hRW16
            obtain⟨wq,hmq,hsq,hgq,hoq,hsnq⟩:=hbW16.2.2.2 rfl
            have hbk16:=hbW16.1.1
            have fx16:aC W16 gf0 (jd ⟨x,xa,xs,xc⟩) 71:=hbW16.1.2 _ (List.mem_cons_of_mem _ List.mem_cons_self)
            have ho16:Hid (Own W16 b 3 1 (kE ⟨x,xa,xs,xc⟩) xs.length (xs.map eU)):=Lib.hid (by
             have h1:=hsq.ownN ho15.out hkx15.out
             rcases jZ hmq.ma.dk.q hgq with hb0|⟨g,cs,hk,_,hg'⟩
             ·exact h1.below hb0
             ·exact ak h1 hk (by decide) hg')
            have hsq':=Lib.hid hsq
            have hs16:=hs15.trans hsq
            obtain⟨aq,cq,hyq,_⟩:=hoq.rd
            rw[hyq] at hoq hsnq ⊢
            clear hyq hbW16 hm15 hs15 px15 fx15 ho15 hsq hks hnb
            go_wp2_with (refine aA rfl _ _ _ rfl b 7 _ [.slice aq (S15.H.dk.queue.length+1) cq] rfl rfl rfl _ _ hbk16 (by show 7+1≤13;omega) (by kernel_rfl) (fun u hu=>by cases List.mem_singleton.1 hu;rfl) ?_)
            intro w17 hb17 hg17
            have hlen:(S15.H.dk.queue++[((n:Int),PC)]).length=S15.H.dk.queue.length+1:=by simp
            have hoq' : Own W16 b 93 9 (.slice aq (S15.H.dk.queue++[((n:Int),PC)]).length cq) (S15.H.dk.queue++[((n:Int),PC)]).length ((S15.H.dk.queue++[((n:Int),PC)]).flatMap rX):=by
             rw[hlen,List.flatMap_append];simpa using hoq
            have hm17:=hmq.appQ hgq hoq' (by rw[hlen];exact hb17) hg17
            have hn17:∀x,gM b { S15 with H:={ S15.H with dq:=aq,cdq:=cq,dk:=⟨S15.H.dk.blocks,S15.H.dk.queue++[((n:Int),PC)]⟩ } } x→gM b S15 x∨oB aq=some x:=fun x hx=>by
             rcases hx with hx|hx
             ·exact .inl (.inl hx)
             ·simp only[dH,List.mem_cons,List.not_mem_nil,or_false] at hx
              rcases hx with hx|hx|hx|hx|hx|hx|hx|hx|hx<;>first|exact .inr hx.symm|exact .inl (.inr (by simp[dH,hx]))
            have hs17:=hs16.app hmq hmq.ma.dk.q (by simp[dH]) hgq hg17 hsnq hn17
            have hqN:Hid (¬gM b { S15 with H:={ S15.H with dq:=aq,cdq:=cq,dk:=⟨S15.H.dk.blocks,S15.H.dk.queue++[((n:Int),PC)]⟩ } } gf0):=Lib.hid (fun hk=>(hn17 gf0 hk).elim hkf15.out fun e=>ko (gJ hoq' e).2.choose_spec fx16 (by decide) rfl)
            have fx17:=fx16.grown hg17 (fun e=>hkf15.out (.inl (Option.some.inj e).symm))
            have ho17:Hid (Own w17 b 3 1 (kE ⟨x,xa,xs,xc⟩) xs.length (xs.map eU)):=Lib.hid (ak ho16.out hbk16 (by decide) hg17)
            have hF17:Hid (xC f s ct S3.H.asl fi0 (bk.set n PC) (qu++[((n:Int),PC)]) { S15 with H:={ S15.H with dq:=aq,cdq:=cq,dk:=⟨S15.H.dk.blocks,S15.H.dk.queue++[((n:Int),PC)]⟩ } }∧Fb ct (bk.set n PC) (qu++[((n:Int),PC)]) (fi0.map PF.fi) (xs++[(n:Int)])):=Lib.hid (by
             have h9:=hF15.out
             exact⟨⟨h9.m,h9.asl,h9.sl,h9.sw,by show (⟨S15.H.dk.blocks,S15.H.dk.queue++[((n:Int),PC)]⟩:qm)=_;rw[h9.dk],h9.fi,h9.ct,h9.ca,h9.sp,h9.T⟩,hF10.out.2.1.wait hnn.out.1 hnn.out.2 PC⟩)
            clear hmq hgq hoq hsnq hbk16 fx16 ho16 hs16 hb17 hlen hoq' hg17 hn17
            go_wp2
            go_meet
            case rel=>exact⟨(n:Int),_,_,_,rfl,hm17,hs17,hqN,hF17,fx17,ho17⟩
           ·have hF17:Hid (xC f s ct S3.H.asl fi0 (bk.set n PC) qu S15∧Fb ct (bk.set n PC) qu (fi0.map PF.fi) (xs++[(n:Int)])):=Lib.hid ⟨hF15.out,hF10.out.2.1.some hnn.out.1 hnn.out.2 PC⟩
            go_wp2
            go_meet
            case rel=>exact⟨(n:Int),S15,_,_,rfl,hm15,hs15,hkf15,hF17,fx15,ho15⟩
       case rest=>
       obtain⟨v,S,bk,qu,rfl,hm,hs,hkf,hF,fx,ho⟩:=hcut
       clear hm9 hs9 hF9 fx9 ho9 hkf9 hkx9
       have hcf:=fx.cell
       unfold jd at hcf
       have hF':=Lib.hid hF.out.2
       have hxl:xs.length≤100:=by
        have h1:=hF10l.out
        omega
       have hlw:=Lib.hid hxl
       go_wp2_with (at_builtin;go_must (refine eG rfl _ _ 28 rfl b 3 (.int .i64 0) 1 8 Try.underlying28 int_info rfl (by decide) (kE ⟨x,xa,xs,xc⟩) xs.length (xs.map eU) rfl (ho.out.alloc _) (some ⟨wc.heap.size,0,none⟩) 1 1 [eU v] rfl (fun h=>(by cases h)) (Nat.le_refl _) rfl (bW.new _ #[eU v] _) (by simp[eU,Value.oneCell']) (by unfold maxLen;omega) (by omega) (cz hm.bs _) ?_))
       intro v2 w2 own2 hg2 hsn2
       have hal:=(Below.refl wc.heap.size wc).alloc (Nat.le_refl _) (.cells #[eU v] 3)
       have hm1:=hm.below hal
       have hs1:=hs.below hal
       have fx1:=fx.ext hal
       have ho1:Own (wc.alloc (.cells #[eU v] 3)) b 3 1 (.slice xa xs.length xc) xs.length (xs.map eU):=ho.out.below hal
       obtain⟨a2,c2,hv2,_⟩:=own2.rd
       rw[hv2] at own2 hsn2 ⊢
       have hge2:Hid (∀g,oB a2=some g→w6.heap.size≤g∧oB S3.H.asl≠some g∧∀p∈fi0,oB p.a≠some g):=Lib.hid (fun g hg=>by
        rcases hsn2 with e1|e1
        ·unfold kE at e1
         rw[gF,gF] at e1
         exact hap.out g (by rw[←e1];exact hg)
        ·have h1:=e1 g (by rw[gF];exact hg)
         refine⟨Nat.le_trans hs1.size h1,fun e => ?_,fun p hp e => ?_⟩
         ·exact absurd h1 (Nat.not_le.2 (gJ hm1.ma.sl (by rw[hF.out.1.asl];exact e)).2.choose_spec.lt)
         ·rw[←hF.out.1.fi] at hp
          obtain⟨k,hk,rfl⟩:=List.mem_iff_getElem.1 hp
          exact absurd h1 (Nat.not_le.2 (gJ (hm1.ma.st.each k _ (List.getElem?_eq_getElem hk)) e).2.choose_spec.lt))
       have hm2:bR w2 b b S:=by
        rcases jZ ho1 hg2 with hb0|⟨g,cs,hk,hga,hg'⟩
        ·exact hm1.below hb0
        ·exact hm1.locI hk (hm1.kb_int hk (by rw[hF.out.1.asl];exact (hap.out g hga).2.1)) (by rw[hF.out.1.fi];exact (hap.out g hga).2.2) (gJ ho1 hga).1 hg'
       have hs2:MS w6 b S6 w2 S:=by
        rcases jZ ho1 hg2 with hb0|⟨g,cs,hk,hga,hg'⟩
        ·exact hs1.below hb0
        ·exact hs1.loc hg' (hap.out g hga).1
       have fx2:aC w2 gf0 (jd ⟨x,xa,xs,xc⟩) 71:=by
        rcases jZ ho1 hg2 with hb0|⟨g,cs,hk,hga,hg'⟩
        ·exact fx1.ext hb0
        ·exact dB fx1 hk (by decide) hg'
       clear hcf hm hs fx hm1 hs1 fx1 ho1 hg2 hsn2 hal ho hv2
       go_wp2_with (refine aA rfl _ _ _ rfl gf0 1 _ [.slice a2 (xs.length+1) c2] rfl rfl rfl _ _ fx2 (by show 1+1≤2;omega) (by kernel_rfl) (fun u hu=>by cases List.mem_singleton.1 hu;rfl) ?_)
       intro w3 hb3 hg3
       have hxl1:(xs++[v]).length=xs.length+1:=by simp
       have fx3:aC w3 gf0 (jd ⟨x,a2,xs++[v],c2⟩) 71:=by
        have e:jd ⟨x,a2,xs++[v],c2⟩=putAt (jd ⟨x,xa,xs,xc⟩) 1 [.slice a2 (xs.length+1) c2]:=by
         unfold jd
         dsimp only
         rw[hxl1]
         kernel_rfl
        rw[e];exact hb3
       have hm3:=hm2.locT fx2 (by decide) hkf.out hgB hg3
       have hs3:=hs2.loc hg3 hg6.out
       have ho3:Hid (Own w3 b 3 1 (kE ⟨x,a2,xs++[v],c2⟩) (xs++[v]).length ((xs++[v]).map eU)∧∀g,oB a2=some g→w6.heap.size≤g∧oB S3.H.asl≠some g∧∀p∈fi0,oB p.a≠some g):=Lib.hid ⟨by
        have h1:=ak own2 fx2 (by decide) hg3
        unfold kE
        dsimp only
        rw[hxl1,List.map_append]
        exact h1,hge2.out⟩
       have hF3:Hid (xC f s ct S3.H.asl fi0 bk qu S∧Fb ct bk qu (fi0.map PF.fi) (xs++[v])∧(xs++[v]).length=i+1):=Lib.hid ⟨hF.out.1,hF.out.2,by rw[hxl1,hF8l.out]⟩
       clear hm2 hs2 fx2 own2 hb3 hg3 hxl1 hxl
       go_wp2
       go_roundw
       case rel=>exact⟨i+1,S,bk,qu,xs++[v],a2,c2,by omega,by go_num,hm3,hs3,hkf,hF3,fx3,ho3⟩
       case measure=>simp[intOf];omega
      ·have hii:¬(i:Int)<(C:Int):=by omega
       have hiC' : i=C:=by omega
       subst hiC'
       have hfl5:S.H.fi.length≤5:=by rw[hI.out.1.fi];have:=hl0.out;omega
       have hkaf:∀g,(Value.slice S.H.ai S.H.fi.length S.H.ci).ownBlock=some g→gM b S g:=fun g hg => .inr (by rw[gF] at hg;simp[dH,hg])
       have hnb:Hid (∀g,(Value.slice S.H.ai S.H.fi.length S.H.ci).ownBlock=some g→g≠b∧∀t∈[(gf0,jd ⟨x,xa,xs,xc⟩,71)],t.1≠g):=Lib.hid (fun g hg=>by
        obtain⟨cs,hk⟩:=fU hm.ma.st.own g hg
        refine⟨fun e=>ko hk hm.blk (by decide) e,fun t ht => ?_⟩
        rw[List.mem_singleton.1 ht]
        intro e
        exact hkf'.out (by rw[show gf0=g from e];exact hkaf g hg))
       have hks:Hid (∀t∈[(gf0,jd ⟨x,xa,xs,xc⟩,71)],aC wr t.1 t.2.1 t.2.2):=Lib.hid (fun t ht=>by rw[List.mem_singleton.1 ht];exact fx)
       go_upto_region 31 with (fail)
       refine dA 14 [_,_,_,_,_,_,.v (.slice S.H.ai S.H.fi.length S.H.ci),.v (.agg (jd ⟨x,xa,xs,xc⟩)),.r 8 ((aM fun _=>True)),.r 9 ((aM fun _=>True)),_,_,_,_] (ui S b b wr [(gf0,jd ⟨x,xa,xs,xc⟩,71)] 9 8 71 2 S.H.fi.length (.slice S.H.ai S.H.fi.length S.H.ci) (S.H.fi.flatMap mZ) (mZ ⟨x,xa,xs,xc⟩)) bX (fun y=>FR hm hks.out y) (Qk bX rfl (Qk bX rfl (Qk bX rfl (Qf bX b 1 rfl rfl (Qf bX b 8 rfl rfl (Qf bX b 8 rfl rfl (all_cons ?_ (all_cons ?_ (all_cons ?_ (all_cons ?_ (Qk bX rfl (Qf bX b 1 rfl rfl (Qf bX b 8 rfl rfl (Qf bX b 8 rfl rfl (all_nil) (fun _ _ _ _ hLd h=>dm (by decide) h)) (fun _ _ _ _ hLd h=>dm (by decide) h)) (fun _ _ _ _ hLd h=>dm (by decide) h)) (fun _ _ _ _ hLd h=>dm (by decide) h)))))) (fun _ _ _ _ hLd h=>dm (by decide) h)) (fun _ _ _ _ hLd h=>dm (by decide) h)) (fun _ _ _ _ hLd h=>dm (by decide) h)) (fun _ _ _ _ hLd h=>dm (by decide) h)) (fun _ _ _ _ hLd h=>dm (by decide) h)) (fun _ _ _ _ hLd h=>dm (by decide) h)) (fun _=>rfl) rfl ?_
       ·intro ρ y W L hw hn hLi hLd hb hd
        refine bG bX (fun _ _ h=>dm (by decide) h) hb ?_
        have E166:=hw 166 5 rfl
        have h5:y 5=_:=hd 5 rfl
        have m1:=hb.1.1
        refine aj (.slice S.H.ai S.H.fi.length S.H.ci) (ah rfl) (by simp[execOp,go_sem,E166,h5,m1.cell,dR]) rfl
       ·intro ρ y W L hw hn hLi hLd hb hd
        refine bG bX (fun _ _ h=>dm (by decide) h) hb ?_
        have E11:ρ (.tmp 11) = .pointer (some ⟨gf0,0,none⟩):=(hn (.tmp 11) rfl).trans rfl
        have m3:=hb.1.2 _ List.mem_cons_self
        refine aj (.agg (jd ⟨x,xa,xs,xc⟩)) (ah rfl) (bI rfl E11 m3 Try.underlying71 rfl file_size) rfl
       ·intro ρ y W L hw hn hLi hLd hb hd;have E168:=hw 168 7 rfl;have h7:y 7=_:=hd 7 rfl
        refine bi (.slice (some ⟨W.heap.size,0,none⟩) 1 1) (ah rfl) ?_ (Fz (W':=W.alloc (.cells (jd ⟨x,xa,xs,xc⟩) 71)) (by decide) ((Below.refl _ _).alloc (Nat.le_refl _) _) hb ⟨Nat.le_refl _,by unfold maxLen;omega,fun e=>(by cases e),bW.new _ _ _⟩) trivial
        simp[execOp,go_sem,E168.trans h7,jd]
       ·intro ρ y W L hw hn hLi hLd hb hd;have E167:=hw 167 6 rfl;have h6:y 6=_:=hd 6 rfl;have E169:=hw 169 8 rfl;have h8:=hd 8 rfl
        have hm:=(hb.2.1 hLi).1
        obtain⟨a,e,hx1,hx2⟩:=hb.2.2.1 (hLd 8 rfl) hLi
        have hpv:Own W b 71 2 (.slice S.H.ai S.H.fi.length S.H.ci) S.H.fi.length (S.H.fi.flatMap mZ):=hm.ma.st.own
        refine dx (ah rfl) (fH _ _ _ rfl b 71 _ 2 32 Try.underlying34 file_info rfl (by decide) (.slice S.H.ai S.H.fi.length S.H.ci) S.H.fi.length _ (E167.trans h6) hpv a 1 e (mZ ⟨x,xa,xs,xc⟩) (E169.trans hx1) hx2.nl hx2.le rfl hx2.rd (aZ (ji _)) (by unfold maxLen;omega) (by omega) hm.bs) (fun v W1 h=>FT hLi hb h.2.1 hnb.out h.1 h.2.2) (fun _ _ _=>trivial)
       intro y W8 hbW8 hRW8
       have hy8:((aM fun _=>True)).r (y 8) W8:=hRW8 8 (by decide)
       have hy9:((aM fun _=>True)).r (y 9) W8:=hRW8 9 (by decide)
       clear hRW8
       obtain⟨wq,hmq,hsq,hgq,hoq,hsnq⟩:=hbW8.2.2.2 rfl
       have hbk8:=hbW8.1.1
       have hoxq:=hsq.ownN ho.out.1 (fun g hg=>by
        obtain⟨cs,hk⟩:=fU ho.out.1 g hg
        refine hm.kb_int hk ?_
        rw[hI.out.1.asl]
        exact (ho.out.2 g (by unfold kE at hg;rw[gF] at hg;exact hg)).2.1)
       have hs8:=hs.trans hsq
       obtain⟨aq,cq,hyq,_⟩:=hoq.rd
       rw[hyq] at hoq hsnq ⊢
       clear hyq hbW8 hm hs fx hsq hks hnb hkaf
       go_wp2_with (refine aA rfl _ _ _ rfl b 8 _ [.slice aq (S.H.fi.length+1) cq] rfl rfl rfl _ _ hbk8 (by show 8+1≤13;omega) (by kernel_rfl) (fun u hu=>by cases List.mem_singleton.1 hu;rfl) ?_)
       intro w17 hb17 hg17
       have hlen:(S.H.fi++[(⟨x,xa,xs,xc⟩:PF)]).length=S.H.fi.length+1:=by simp
       have hm17:bR w17 b b { S with H:={ S.H with ai:=aq,ci:=cq,fi:=S.H.fi++[(⟨x,xa,xs,xc⟩:PF)] } }:=hmq.appFi (p:=⟨x,xa,xs,xc⟩) hoxq (fun k p hp g hg hg'=>by
         unfold kE at hg hg'
         rw[gF] at hg hg'
         exact (ho.out.2 g hg').2.2 p (by rw[←hI.out.1.fi];exact List.mem_of_getElem? hp) hg) (fun g hg=>by rw[hI.out.1.asl];exact (ho.out.2 g hg).2.1) hgq (by rw[hlen];exact hoq) (by rw[hlen];exact hb17) hg17
       have hs17:MS w6 b S6 w17 { S with H:={ S.H with ai:=aq,ci:=cq,fi:=S.H.fi++[(⟨x,xa,xs,xc⟩:PF)] } }:=hs8.app hmq hmq.ma.st.own (by simp[dH]) hgq hg17 hsnq (fun x hx=>by
        rcases hx with hx|hx
        ·exact .inl (.inl hx)
        ·simp only[dH,List.mem_cons,List.not_mem_nil,or_false] at hx
         rcases hx with hx|hx|hx|hx|hx|hx|hx|hx|hx<;>first|exact .inr hx.symm|exact .inl (.inr (by simp[dH,hx])))
       have hs17:=hs6.trans hs17
       have hI17:Hid (xC f s ct S3.H.asl (S.H.fi++[(⟨x,xa,xs,xc⟩:PF)]) bk qu { S with H:={ S.H with ai:=aq,ci:=cq,fi:=S.H.fi++[(⟨x,xa,xs,xc⟩:PF)] } }∧Fb ct bk qu ((S.H.fi++[(⟨x,xa,xs,xc⟩:PF)]).map PF.fi) []∧(S.H.fi++[(⟨x,xa,xs,xc⟩:PF)]).length=q+1∧(q+1=0→bk=List.replicate ct zPg∧qu=[]∧(l=[]→S.l=[]))):=Lib.hid (by
        have h9:=hI.out.1
        refine⟨⟨h9.m,h9.asl,h9.sl,h9.sw,h9.dk,rfl,h9.ct,h9.ca,h9.sp,h9.T⟩,?_,by rw[hlen,h9.fi,hl0q.out],fun e=>absurd e (by omega)⟩
        rw[List.map_append,h9.fi]
        exact hI.out.2.1.file (s:=x) (by omega) (by omega) (by rw[hI.out.2.2,hC'.out]))
       clear hmq hgq hoq hsnq hbk8 hoxq hs8 hb17 hlen hg17
       go_wp2
       go_roundw
       case rel=>exact⟨q+1,_,bk,qu,by omega,by go_num,hm17,hs17,hI17⟩
       case measure=>simp[intOf];omega
    ·have hqi:¬(q:Int)<(N:Int):=by omega
     have hbd:Hid (Bd S.H.ma S.T∧Cf S∧S.H.sp.length=0∧S.H.m.fs.length=f∧S.H.dk.blocks.length=ct∧(l=[]→S.l=[]∧S.H.ma=rC f s ct (List.replicate ct zPg) [] []∧S.T=[])):=Lib.hid (by
      obtain⟨h1,h2,h3,h4⟩:=hI.out
      refine⟨by rw[h1.ma,h1.T];exact h2.bd (by rw[List.length_map];omega) hf40 hs60,fun p hp=>(by rw[h1.sp] at hp;cases hp),by rw[h1.sp];rfl,by rw[h1.m];exact List.length_replicate,by rw[h1.dk];exact h2.cl.1,fun e => ?_⟩
      have hN0:=(hl5.out e).1
      have hq0:q=0:=by omega
      obtain⟨k1,k2,k3⟩:=h4 hq0
      refine⟨k3 e,?_,h1.T⟩
      have hf0:fi0=[]:=List.length_eq_zero_iff.1 (by omega)
      rw[h1.ma,k1,k2,hf0];rfl)
     clear hI
     go_wp2_with fail
     refine (cB S 2 b b _ hm (by omega)).mono ?_
     rintro r w6 ⟨z,a6,c6,l6,rfl,hm6,hs6,hz,hz0⟩
     have hs6:=hs.trans hs6
     have hzw:IntKind.i64.wrap (1+z)=1+z:=IntWalk.i64_in _ (by omega)
     obtain⟨M,hM⟩:∃M:Nat,1+z=(M:Int):=⟨(1+z).toNat,by omega⟩
     have hM2:1≤M∧M≤2:=by omega
     have hbd6:Hid (Bd (S.lst a6 c6 l6).H.ma (S.lst a6 c6 l6).T∧Cf (S.lst a6 c6 l6)∧(S.lst a6 c6 l6).H.sp.length=0∧(S.lst a6 c6 l6).H.m.fs.length=f∧(S.lst a6 c6 l6).H.dk.blocks.length=ct∧(l=[]→(S.lst a6 c6 l6).l=[]∧(S.lst a6 c6 l6).H.ma=rC f s ct (List.replicate ct zPg) [] []∧(S.lst a6 c6 l6).T=[])):=Lib.hid
      ⟨hbd.out.1,hbd.out.2.1,hbd.out.2.2.1,hbd.out.2.2.2.1,hbd.out.2.2.2.2.1,fun e=>⟨(hz0 (hbd.out.2.2.2.2.2 e).1).2,(hbd.out.2.2.2.2.2 e).2⟩⟩
     have hM1:Hid (l=[]→M=1):=Lib.hid (fun e=>by have:=(hz0 (hbd.out.2.2.2.2.2 e).1).1;omega)
     rw[hM] at hzw
     clear hm hs hbd hz hz0
     generalize S.lst a6 c6 l6=S6 at hm6 hs6 hbd6
     go_upto_region 34 with (fail)
     clear hM hzw
     go_loopw [179] (fun k wr => ∃(p:Nat) (S:MW),p≤M∧k = .int .i64 p∧bR wr b b S∧MS w4 b S3 wr S∧Hid (Bd S.H.ma S.T∧Cf S∧S.H.sp.length=p∧S.H.m.fs.length=f∧S.H.dk.blocks.length=ct∧(l=[]→S.l=[]∧((p=0→S.H.ma=rC f s ct (List.replicate ct zPg) [] []∧S.T=[])∧(p=1→S.H.ma = { rC f s ct (List.replicate ct zPg) [] [] with sp:=[⟨true,[],zTb⟩] }∧S.T=[List.replicate 64 zEn]))))) (fun k _=>M-(intOf k).toNat)
     case atStart=>exact⟨0,S6,Nat.zero_le _,rfl,hm6,hs6,Lib.hid ⟨hbd6.out.1,hbd6.out.2.1,hbd6.out.2.2.1,hbd6.out.2.2.2.1,hbd6.out.2.2.2.2.1,fun e=>⟨(hbd6.out.2.2.2.2.2 e).1,fun _=>(hbd6.out.2.2.2.2.2 e).2,fun h=>(by cases h)⟩⟩⟩
     case round=>
      clear hm6 hs6 hbd6
      obtain⟨p,S,hp,rfl,hm,hs,hI⟩:=hrel
      by_cases hpM:p<M
      ·have hpi:(p:Int)<(M:Int):=by omega
       have hmoreR:∀(S' : MW),More S S'→(l=[]→p=0→S'.l=[]∧S'.H.ma = { S.H.ma with sp:=S.H.ma.sp++[⟨true,[],zTb⟩] }∧S'.T=S.T++[List.replicate 64 zEn])→Bd S'.H.ma S'.T∧Cf S'∧S'.H.sp.length=p+1∧S'.H.m.fs.length=f∧S'.H.dk.blocks.length=ct∧(l=[]→S'.l=[]∧((p+1=0→S'.H.ma=rC f s ct (List.replicate ct zPg) [] []∧S'.T=[])∧(p+1=1→S'.H.ma = { rC f s ct (List.replicate ct zPg) [] [] with sp:=[⟨true,[],zTb⟩] }∧S'.T=[List.replicate 64 zEn]))):=fun S' hMo hn=>by
        obtain⟨h1,h2,h3,h4,h5,h6⟩:=hI.out
        refine⟨hMo.bd,hMo.fm,by rw[hMo.sp,h3],by rw[hMo.fs,h4],by rw[hMo.dk,h5],fun e => ?_⟩
        have hp0:p=0:=by have:=hM1.out e;omega
        obtain⟨k1,k2,k3⟩:=hn e hp0
        obtain⟨q1,q2⟩:=(h6 e).2.1 hp0
        refine⟨k1,fun h=>absurd h (by omega),fun _=>⟨by rw[k2,q1];rfl,by rw[k3,q2];rfl⟩⟩
       have hmoreR':=Lib.hid hmoreR
       clear hmoreR
       by_cases hp1:p=1
       ·subst hp1
        go_wp2_with fail
        refine (cB S 2 b b _ hm (by omega)).mono ?_
        rintro r w7 ⟨z2,a7,c7,l7,rfl,hm7,hs7,hz2,_⟩
        have hs7:=hs.trans hs7
        clear hm hs
        by_cases hz1:z2=1
        ·subst hz1
         go_wp2_with fail
         refine (DF (S.lst a7 c7 l7) b b _ hm7 hI.out.1 hI.out.2.1 hI.out.2.2.1).mono ?_
         rintro r w8 ⟨S8,rfl,hm8,hs8,hMo⟩
         have hs8:=hs7.trans hs8
         have hI8:=Lib.hid (hmoreR'.out S8 ⟨hMo.bd,hMo.fm,hMo.fi,hMo.ct,hMo.dk,hMo.sp,hMo.fs⟩ (fun _ h=>absurd h (by decide)))
         clear hm7 hs7 hMo hI
         go_wp2
         go_roundw
         case rel=>exact⟨2,S8,by omega,by go_num,hm8,hs8,hI8⟩
         case measure=>simp[intOf];omega
        ·have hzb:(z2==1)=false:=by simpa using hz1
         go_wp2_with fail
         refine (uO (S.lst a7 c7 l7) b b _ hm7 hI.out.1 hI.out.2.1 (by have:=hI.out.2.2.1;show S.H.sp.length<4;omega)).mono ?_
         rintro r w8 ⟨S8,rfl,hm8,hs8,hMo,_⟩
         have hs8:=hs7.trans hs8
         have hI8:=Lib.hid (hmoreR'.out S8 ⟨hMo.bd,hMo.fm,hMo.fi,hMo.ct,hMo.dk,hMo.sp,hMo.fs⟩ (fun _ h=>absurd h (by decide)))
         clear hm7 hs7 hMo hI
         go_wp2
         go_roundw
         case rel=>exact⟨2,S8,by omega,by go_num,hm8,hs8,hI8⟩
         case measure=>simp[intOf];omega
       ·have hp0:p=0:=by omega
        subst hp0
        go_wp2_with fail
        refine (uO S b b _ hm hI.out.1 hI.out.2.1 (by have:=hI.out.2.2.1;omega)).mono ?_
        rintro r w8 ⟨S8,rfl,hm8,hs8,hMo,hnil⟩
        have hs8:=hs.trans hs8
        have hI8:=Lib.hid (hmoreR'.out S8 hMo (fun e _=>hnil (hI.out.2.2.2.2.2 e).1))
        clear hm hs hMo hI hnil
        go_wp2
        go_roundw
        case rel=>exact⟨0+1,S8,by omega,by go_num,hm8,hs8,Lib.hid ⟨hI8.out.1,hI8.out.2.1,hI8.out.2.2.1,hI8.out.2.2.2.1,hI8.out.2.2.2.2.1,fun e=>⟨(hI8.out.2.2.2.2.2 e).1,(hI8.out.2.2.2.2.2 e).2.1,fun _=>(hI8.out.2.2.2.2.2 e).2.2 (by first | trivial | rfl)⟩⟩⟩
        case measure=>simp[intOf];omega
      ·have hpi:¬(p:Int)<(M:Int):=by omega
       have hpe:M=p:=by omega
       subst hpe
       have hT6:Hid (Bd S.H.ma S.T∧S.T.length=M∧S.H.ma.sp.length=M):=Lib.hid (by
        have h1:=hI.out.2.2.1
        have h2:S.H.ma.sp.length=S.H.sp.length:=List.length_map _
        exact⟨hI.out.1,by rw[hI.out.1.ok.len];omega,by omega⟩)
       have hI0:Hid (S.H.ma=tabs S.H.ma S.T 0∧S.T=S.T∧S.H.sp.length=M∧Cf S∧S.H.m.fs.length=f∧S.H.dk.blocks.length=ct∧(l=[]→S.l=[])):=Lib.hid ⟨rfl,rfl,hI.out.2.2.1,hI.out.2.1,hI.out.2.2.2.1,hI.out.2.2.2.2.1,fun e=>(hI.out.2.2.2.2.2 e).1⟩
       have hnew:Hid (l=[]→bN S.H.ma S.T=jJ f s ct):=Lib.hid (fun e=>by
        obtain⟨k1,k2⟩:=(hI.out.2.2.2.2.2 e).2.2 (hM1.out e)
        rw[k1,k2];exact zA hf40 hs60 hc80)
       obtain⟨m5,hm5⟩:∃m,S.H.ma=m:=⟨_,rfl⟩
       obtain⟨T5,hT5⟩:∃T,S.T=T:=⟨_,rfl⟩
       have hI1:Hid (S.H.ma=tabs m5 T5 0∧S.T=T5∧S.H.sp.length=M∧Cf S∧S.H.m.fs.length=f∧S.H.dk.blocks.length=ct∧(l=[]→S.l=[])):=Lib.hid (by rw[←hm5,←hT5];exact hI0.out)
       rw[hm5,hT5] at hT6 hnew
       have hspl:S.H.sp.length=M:=hI.out.2.2.1
       clear hI hI0 hm5 hT5
       have hc:=hm.blk.cell
       unfold dR at hc
       rw[hspl] at hc
       clear hspl
       go_upto_region 41 with (fail)
       clear hc
       go_loopw [200] (fun k wr => ∃(q:Nat) (S:MW),q≤M∧k = .int .i64 q∧bR wr b b S∧MS w4 b S3 wr S∧Hid (S.H.ma=tabs m5 T5 q∧S.T=T5∧S.H.sp.length=M∧Cf S∧S.H.m.fs.length=f∧S.H.dk.blocks.length=ct∧(l=[]→S.l=[]))) (fun k _=>M-(intOf k).toNat)
       case atStart=>exact⟨0,S,Nat.zero_le _,rfl,hm,hs,hI1⟩
       case round=>
        clear hm hs hI1
        obtain⟨q,S,hq,rfl,hm,hs,hI⟩:=hrel
        by_cases hqM:q<M
        ·have hqi:(q:Int)<(M:Int):=by omega
         obtain⟨P,hP⟩:∃P,S.H.sp[q]?=some P:=⟨_,List.getElem?_eq_getElem (by rw[hI.out.2.2.1];exact hqM)⟩
         obtain⟨g,off,cur0,hap,_,_,_,_⟩:=hm.setTb hP
         have hTl:S.T.length=M:=by rw[hI.out.2.1];exact hT6.out.2.1
         obtain⟨gt,ot,ct',curt,hvt,_,hgt,hgts,hgtc,_⟩:=hm.tt.put oM (by decide) q (by omega)
         have hab:S.ab=some ⟨gt,ot,none⟩:=(Value.slice.inj hvt).1
         have h64:(bY T5 q).length=64:=hT6.out.1.ok.l64 (by rw[hT6.out.2.2];exact hqM)
         have hTq:S.T[q]'(by omega)=bY T5 q:=by rw[←bR.lst_len (by omega),hI.out.2.1]
         have hrdT:∀W,Below wr.heap.size wr W→bW W (some ⟨gt,ot+q*192,none⟩) (mP (bY T5 q)).toList:=fun W hb j u hj=>by
          refine⟨gt,ot+q*192,rfl,?_⟩
          have e1:=hgtc j u (by rw[hTq,JW h64];exact hj)
          rw[hgt.cell] at e1
          rw[(hgt.ext hb).cell];exact e1
         have hsp':=Lib.hid hI.out.2.2.1
         have hTl':=Lib.hid hTl
         have hap':=Lib.hid hap
         have hab':=Lib.hid hab
         have h64':=Lib.hid h64
         have hsz64:(mP (bY T5 q)).toList.length=192:=by rw[Array.length_toList,lg,h64]
         have hsz':=Lib.hid hsz64
         have hP':=Lib.hid hP
         have hrdT':=Lib.hid hrdT
         clear hvt hgtc hTq hTl hap hab h64 hsz64 hP hrdT hgt hgts
         go_upto_region 43 with (fail)
         refine aF 16 [_,_,_,_,_,_,_,_,_,_,_,_,_,.r 13 ((HZ b (dC (bY T5 q)))),_,_] (Gk rfl (Gk rfl (Gf b 1 rfl rfl (Gf b 11 rfl rfl (Gl hm.blk (V:=.slice (some ⟨g,off,none⟩) M S.H.cp) (by simp[dR,hap'.out,hsp'.out]) rfl rfl rfl rfl (Gk rfl (Gk rfl (Gk rfl (Gf b 12 rfl rfl (Gl hm.blk (V:=.slice (some ⟨gt,ot,none⟩) M S.cb) (by simp[dR,hab'.out,hTl'.out]) rfl rfl rfl rfl (Gk rfl (Gr (.pointer (some ⟨gt,ot+q*192,none⟩)) (fun ρ y W hb hKn=>(aT rfl (az rfl hKn) (az rfl hKn) hqM Try.underlying87 arr64_size)) rfl rfl (Gr (.agg (mP (bY T5 q))) (fun ρ y W hb hKn=>(bM rfl (az rfl hKn) (hrdT'.out W hb) Try.underlying95 rfl (arr64_size.trans (congrArg some hsz'.out.symm)))) rfl rfl (all_cons ?_ (Gr (.pointer (some ⟨g,off+q*10,none⟩)) (fun ρ y W hb hKn=>(aT rfl (az rfl hKn) (az rfl hKn) hqM Try.underlying38 space_size)) rfl rfl (Gf g (off+q*10+2) rfl rfl (all_nil))))))))))))))))) (fun _=>rfl) rfl ?_
         ·intro ρ y W hw hn hb hd;have E215:=hw 215 12 rfl;have h12:y 12=_:=hd 12 rfl
          have EF:∀f,ρ (.func f) = .func (.func f) #[] #[]:=fun f=>hn (.func f) trivial
          refine aP _ _ (ah rfl) (aN rfl (EF _) Try.func34 (by kernel_rfl) (by kernel_rfl) (by simp only[List.map_toArray,List.map_cons,List.map_nil,E215,h12,EF];rfl)) ?_
          refine (AC (bY T5 q) W h64'.out).mono ?_
          rintro e w1 ⟨ca,rfl,hO,hb1⟩
          exact⟨_,rfl,hb1,⟨_,rfl,hO.mono (hm.below hb).bs⟩⟩
         intro y W9 hbW9 hRW9
         have hy13:=hRW9 13 (by decide)
         clear hRW9
         obtain⟨cs,hy13e,hTO⟩:∃cs,y 13 = .agg cs∧nO W9 b cs (dC (bY T5 q)):=hy13
         obtain⟨v,rfl⟩:=IY hTO.sz
         rw[hy13e]
         have hm9:=hm.below hbW9
         have hs9:=hs.below hbW9
         clear hm hs hbW9 hy13e
         obtain⟨g2,off2,cur,hap2,hgB2,hblk2,hfit2,hset2⟩:=hm9.setTb hP'.out
         rw[hap'.out] at hap2
         obtain⟨rfl,rfl⟩:g=g2∧off=off2:=by
          have:=Option.some.inj hap2
          exact⟨congrArg Addr.block this,congrArg Addr.off this⟩
         have hkb9:gM b S g:=.inr (by simp[dH,hap'.out,oB,Value.ownBlock])
         clear hap2
         go_wp2_with (refine aA rfl _ _ _ rfl g (off+q*10+2) _ (jG v).toList rfl rfl rfl _ _ hblk2 (by show off+q*10+2+8≤cur.size;exact hfit2) (by kernel_rfl) (JJ hTO.rd) ?_)
         intro w10 hb10 hg10
         have hm10:=hset2 w10 v _ hTO hb10 hg10
         have hs10:MS w4 b S3 w10 { S with H:={ S.H with sp:=S.H.sp.set q { P with ts:=v,tb:=dC (bY T5 q) } } }:=hs9.put hg10 hkb9 (fun x hx => .inl hx)
         have hI10:Hid (({ S with H:={ S.H with sp:=S.H.sp.set q { P with ts:=v,tb:=dC (bY T5 q) } } }:MW).H.ma=tabs m5 T5 (q+1)∧S.T=T5∧(S.H.sp.set q { P with ts:=v,tb:=dC (bY T5 q) }).length=M∧Cf { S with H:={ S.H with sp:=S.H.sp.set q { P with ts:=v,tb:=dC (bY T5 q) } } }∧S.H.m.fs.length=f∧S.H.dk.blocks.length=ct∧(l=[]→S.l=[])):=Lib.hid (by
          obtain⟨q1,q2,q3,q4,q5⟩:=hI.out
          refine⟨?_,q2,by rw[List.length_set];exact q3,fun p hp n x hx => ?_,q5⟩
          ·show MH.ma { S.H with sp:=S.H.sp.set q { P with ts:=v,tb:=dC (bY T5 q) } }=_
           rw[IK hP'.out,q1];rfl
          ·rcases List.mem_or_eq_of_mem_set hp with hp|rfl
           ·exact q4 p hp n x hx
           ·exact q4 P (List.mem_of_getElem? hP'.out) n x hx)
         clear hm9 hs9 hblk2 hfit2 hset2 hb10 hg10 hTO hI hkb9
         go_wp2
         go_roundw
         case rel=>exact⟨q+1,_,by omega,by go_num,hm10,hs10,hI10⟩
         case measure=>simp[intOf];omega
        ·have hqi:¬(q:Int)<(M:Int):=by omega
         have hIm:Hid (S.H.ma=bN m5 T5):=Lib.hid (by
          have e:q=m5.sp.length:=by rw[hT6.out.2.2];omega
          rw[hI.out.1,e];exact Er)
         have hI7:Hid (Rt S.H.ma∧Co S.H.ma∧Cf S∧S.H.m.fs.length=f∧S.H.dk.blocks.length=ct∧(1≤S.H.sp.length∧S.H.sp.length≤2)∧(l=[]→S.H.ma=jJ f s ct∧S.l=[])):=Lib.hid (by
          obtain⟨q1,q2,q3,q4,q5,q6,q7⟩:=hI.out
          exact⟨by rw[hIm.out];exact hT6.out.1.rt,by rw[hIm.out];exact hT6.out.1.co,q4,q5,q6,by omega,fun e=>⟨by rw[hIm.out];exact hnew.out e,q7 e⟩⟩)
         clear hI hIm
         by_cases hf0:0<f
         ·have hfi:(0:Int)<(f:Int):=by omega
          go_wp2_with fail
          refine (cB S (f:Int) b b _ hm (by omega)).mono ?_
          rintro r w11 ⟨x,a11,c11,l11,rfl,hm11,hs11,hx,hx0⟩
          have hs11:=hs.trans hs11
          clear hm hs
          go_wp2_with (refine aA rfl _ _ _ rfl b 2 _ [.int .i64 x] rfl rfl rfl _ _ hm11.blk (by show 2+1≤13;omega) (by kernel_rfl) (fun u hu=>by cases List.mem_singleton.1 hu;rfl) ?_)
          intro w12 hb12 hg12
          have hm:=hm11.setH hb12 hg12
          have hs:MS w4 b S3 w12 { (S.lst a11 c11 l11) with H:={ (S.lst a11 c11 l11).H with m:=⟨(S.lst a11 c11 l11).H.m.fs,x⟩ } }:=hs11.put hg12 (.inl rfl) (fun x hx => .inl hx)
          have hI:Hid (Rt ({ (S.lst a11 c11 l11) with H:={ (S.lst a11 c11 l11).H with m:=⟨(S.lst a11 c11 l11).H.m.fs,x⟩ } }:MW).H.ma∧Co ({ (S.lst a11 c11 l11) with H:={ (S.lst a11 c11 l11).H with m:=⟨(S.lst a11 c11 l11).H.m.fs,x⟩ } }:MW).H.ma∧Cf ({ (S.lst a11 c11 l11) with H:={ (S.lst a11 c11 l11).H with m:=⟨(S.lst a11 c11 l11).H.m.fs,x⟩ } }:MW)∧({ (S.lst a11 c11 l11) with H:={ (S.lst a11 c11 l11).H with m:=⟨(S.lst a11 c11 l11).H.m.fs,x⟩ } }:MW).H.m.fs.length=f∧({ (S.lst a11 c11 l11) with H:={ (S.lst a11 c11 l11).H with m:=⟨(S.lst a11 c11 l11).H.m.fs,x⟩ } }:MW).H.dk.blocks.length=ct∧(1≤({ (S.lst a11 c11 l11) with H:={ (S.lst a11 c11 l11).H with m:=⟨(S.lst a11 c11 l11).H.m.fs,x⟩ } }:MW).H.sp.length∧({ (S.lst a11 c11 l11) with H:={ (S.lst a11 c11 l11).H with m:=⟨(S.lst a11 c11 l11).H.m.fs,x⟩ } }:MW).H.sp.length≤2)∧(l=[]→({ (S.lst a11 c11 l11) with H:={ (S.lst a11 c11 l11).H with m:=⟨(S.lst a11 c11 l11).H.m.fs,x⟩ } }:MW).H.ma=jJ f s ct)):=Lib.hid (by
           obtain⟨q1,q2,q3,q4,q5,q6,q7⟩:=hI7.out
           have hwm:=(eB _).1 q1.pt.fr
           have hh:=GY q1 q2 (x:=x) ((eB _).2 ⟨hwm.1,hwm.2.1,hx.1,by
            rcases hx.2.2 with h|h
            ·exact .inr (by show x<(S.H.m.fs.length:Int);omega)
            ·exact .inl h⟩)
           refine⟨hh.1,hh.2,q3,q4,q5,q6,fun e => ?_⟩
           obtain⟨k1,k2⟩:=q7 e
           have hx00:x=0:=(hx0 k2).1
           subst hx00
           have k3:S.H.m.hand=0:=by
            have:=congrArg (fun m:Ma=>m.m.hand) k1
            have e2:(jJ f s ct).m.hand=0:=by
             unfold jJ uI
             rw[if_pos ⟨⟨by omega,by omega⟩,⟨by omega,by omega⟩,by omega,by omega⟩,if_pos (by omega)]
            exact this.trans e2
           rw[←k1]
           show MH.ma { S.H with m:=⟨S.H.m.fs,0⟩ }=MH.ma S.H
           have e3:(⟨S.H.m.fs,0⟩:Mem)=S.H.m:=by rw[←k3]
           rw[e3])
          clear hm11 hs11 hb12 hg12 hI7 hx hx0
          generalize { (S.lst a11 c11 l11) with H:={ (S.lst a11 c11 l11).H with m:=⟨(S.lst a11 c11 l11).H.m.fs,x⟩ } }=S13 at hm hs hI
          ·skip
           have bz:aC w12 w.heap.size (bP noH) 40:=hs.blkN bx4'.out hnb4.out
           have hB9:=Lib.hid (Nat.le_of_eq hbb.out)
           go_wp2_with (first | (refine ax _ _ rfl b 1 rfl rfl _ hm.rdM _ Try.underlying40 rfl machine_size ?_) | (refine aB rfl _ _ _ rfl w.heap.size (bP S13.H) rfl rfl _ _ bz rfl machine_size (jN _) ?_))
           intro wE bE gE
           have hE:Hid (sG wE w.heap.size S13.H∧Below w.heap.size w wE):=Lib.hid ⟨(hm.ma.keep bz (by decide) gE).mono (by have:=hB9.out;omega),(vU hbe4.out (hto.out _ _ hs) (by have:=hB9.out;omega) (Nat.le_refl _)).grown gE (Nat.le_trans (Nat.le_trans (by omega) hszl4) hs.size) (fun k hk=>by cases hk;exact Nat.le_refl _)⟩
           clear hm hs bz
           go_wp2
           refine bodyPost_ret (v:=.agg (bP S13.H)) (bU Try.results9 _ _ w.heap.size _ _ _ rfl bE Try.underlying40 rfl machine_size) rfl ?_
           obtain⟨q1,q2,q3,q4,q5,q6,q7⟩:=hI.out
           exact⟨S13.H,rfl,hE.out.1,hE.out.2,q1,q2,q3,by rw[hcl.out.1];exact q4,by rw[hcl.out.2.2];exact q5,q6,fun e=>by rw[hcl.out.1,hcl.out.2.1,hcl.out.2.2];exact q7 e⟩
         ·have hfi:¬(0:Int)<(f:Int):=by omega
          have hI:Hid (Rt S.H.ma∧Co S.H.ma∧Cf S∧S.H.m.fs.length=f∧S.H.dk.blocks.length=ct∧(1≤S.H.sp.length∧S.H.sp.length≤2)∧(l=[]→S.H.ma=jJ f s ct)):=Lib.hid ⟨hI7.out.1,hI7.out.2.1,hI7.out.2.2.1,hI7.out.2.2.2.1,hI7.out.2.2.2.2.1,hI7.out.2.2.2.2.2.1,fun e=>(hI7.out.2.2.2.2.2.2 e).1⟩
          clear hI7
          ·skip
           have bz:aC wr w.heap.size (bP noH) 40:=hs.blkN bx4'.out hnb4.out
           have hB9:=Lib.hid (Nat.le_of_eq hbb.out)
           go_wp2_with (first | (refine ax _ _ rfl b 1 rfl rfl _ hm.rdM _ Try.underlying40 rfl machine_size ?_) | (refine aB rfl _ _ _ rfl w.heap.size (bP S.H) rfl rfl _ _ bz rfl machine_size (jN _) ?_))
           intro wE bE gE
           have hE:Hid (sG wE w.heap.size S.H∧Below w.heap.size w wE):=Lib.hid ⟨(hm.ma.keep bz (by decide) gE).mono (by have:=hB9.out;omega),(vU hbe4.out (hto.out _ _ hs) (by have:=hB9.out;omega) (Nat.le_refl _)).grown gE (Nat.le_trans (Nat.le_trans (by omega) hszl4) hs.size) (fun k hk=>by cases hk;exact Nat.le_refl _)⟩
           clear hm hs bz
           go_wp2
           refine bodyPost_ret (v:=.agg (bP S.H)) (bU Try.results9 _ _ w.heap.size _ _ _ rfl bE Try.underlying40 rfl machine_size) rfl ?_
           obtain⟨q1,q2,q3,q4,q5,q6,q7⟩:=hI.out
           exact⟨S.H,rfl,hE.out.1,hE.out.2,q1,q2,q3,by rw[hcl.out.1];exact q4,by rw[hcl.out.2.2];exact q5,q6,fun e=>by rw[hcl.out.1,hcl.out.2.1,hcl.out.2.2];exact q7 e⟩
theorem Jn {f s ct:Nat} (hf:f≤40) (hs:s≤60) (hc:ct≤80):Rt (jJ f s ct):=by
 rw[←zA hf hs hc]
 have h1:=((Fb.start hc).bd (f:=f) (s:=s) (by decide) hf hs).more (s:=⟨true,[],zTb⟩) (by show 0<4;decide) rfl (by decide)
 exact h1.rt
theorem new_right:dV (jJ 3 2 4)=0:=Ga.2 (Jn (f:=3) (s:=2) (ct:=4) (by decide) (by decide) (by decide))
theorem Dw (H:MH) (p:Nat) (n:Int) (P:PS) (w:World) (h:sV w H) (hw:dV H.ma=0) (hP:H.sp[p]?=some P) (hf:fD P.ar n<0) :
  Calls Try.prog 16 #[.agg (bP H),.int .i64 p,.int .i64 n] w fun r w'=>r = .returned (.tuple #[.agg (dF zPg),.bool false,.int .i64 5])∧Below w.heap.size w w':=by
 go_enter Try.func16,Try.ntmps16
 go_upto_region 1 with (fail)
 refine pz (fun W=>Code.wp _ _ _ _ W) fun w1 hb1 bx1 px1 hs1 => ?_
 have bx1:aC w1 w.heap.size (bP H) 40:=bx1
 have h1:=h.below hb1
 clear h
 go_wp2_with (refine ax _ _ rfl w.heap.size 0 rfl rfl _ bx1.rd _ Try.underlying40 rfl machine_size ?_)
 refine (jh H _ h1).mono ?_
 rintro r w2 ⟨rfl,hb2⟩
 rw[hw]
 have h2:=h1.below hb2
 have bx2:=bx1.ext hb2
 have px2:=px1.ext hb2
 have hbr:=ag hb1 hb2
 clear h1 bx1 px1 hb2 hw
 have hc:=bx2.cell
 unfold bP at hc
 obtain⟨bs,os,P',hap,hP',hrd⟩:=jY h2.sp.rd p (List.getElem?_eq_some_iff.1 hP).1
 obtain rfl:P' = P:=by rw[hP] at hP'; exact (Option.some.inj hP').symm
 have hg:=jm h2 hP
 have hpl:p<H.sp.length:=(List.getElem?_eq_some_iff.1 hP).1
 have hpi:(p:Int)<(H.sp.length:Int):=by omega
 have c1:w2.cell? ⟨bs,os+p*10+1,none⟩=some (.slice P'.aa P'.ar.length P'.ac):=by
  obtain⟨b',o',e,hcc⟩:=hrd 1 _ rfl
  cases e
  exact hcc
 rw[hap] at hc
 have hpb:=Lib.hid hb1
 clear hrd hP' hb1
 go_wp2_with fail
 refine (wN P'.ar n P'.aa P'.ac _ hg.ars.rd (Nat.le_trans (Nat.le_trans hg.ars.le hg.ars.mx) (by decide))).mono ?_
 rintro r w3 ⟨rfl,hb3⟩
 have px3:=px2.ext hb3
 have hbr3:=ag hbr hb3
 clear hc c1 bx2 px2 hbr hb3 h2 hg
 go_wp2_with (refine aB rfl _ _ _ rfl (w.heap.size+1) (dF zPg) rfl rfl _ _ px3 rfl psize (dD _) ?_)
 intro w4 px4 hg4
 have hbr4:=hbr3.grown hg4 hbr3.size (fun k hk=>by cases hk;omega)
 clear px3 hbr3 hg4
 go_wp2
 refine bodyPost_ret (v:=.tuple #[.agg (dF zPg),.bool false,.int .i64 5]) (fG Try.results16 _ _ (w.heap.size+1) _ _ _ _ _ rfl rfl rfl px4 Try.underlying50 rfl psize) rfl ?_
 exact⟨rfl,hbr4⟩
theorem Bc (H:MH) (k:Nat) (w:World) (h:sV w H) (hw:dV H.ma=0) (hk:H.fi.length≤k) :
  Calls Try.prog 14 #[.agg (bP H),.int .i64 k] w fun r w'=>r = .returned (.tuple #[.slice none 0 0,.int .i64 5])∧Below w.heap.size w w':=by
 go_enter Try.func14,Try.ntmps14
 go_upto_region 1 with (fail)
 refine eO (fun W=>Code.wp _ _ _ _ W) fun w1 hb1 bx1 hs1 => ?_
 have bx1:aC w1 w.heap.size (bP H) 40:=bx1
 have h1:=h.below hb1
 clear h
 go_wp2_with (refine ax _ _ rfl w.heap.size 0 rfl rfl _ bx1.rd _ Try.underlying40 rfl machine_size ?_)
 refine (jh H _ h1).mono ?_
 rintro r w2 ⟨rfl,hb2⟩
 rw[hw]
 have bx2:=bx1.ext hb2
 have hbr:=ag hb1 hb2
 clear h1 bx1 hb1 hb2 hw
 have hc:=bx2.cell
 unfold bP at hc
 have hki:(H.fi.length:Int)≤(k:Int):=by omega
 have hk0:¬(k:Int)<0:=by omega
 go_wp2
 go_ret2
 exact⟨rfl,hbr⟩
theorem Jz (w:World):Calls Try.prog 19 #[] w fun r w'=>r = .returned (.bool true)∧Below w.heap.size w w':=by
 go_enter Try.func19,Try.ntmps19
 go_wp2_with fail
 refine (zu 3 2 4 w (by decide)).mono ?_
 rintro r w1 ⟨H,rfl,ho,hma,hb1⟩
 have hE:rO 3 2 4=0:=by decide
 rw[hE]
 have hw:dV H.ma=0:=by rw[hma];exact new_right
 have e1:H.m.fs.length=3:=by
  have:=congrArg (fun m:Ma=>m.m.fs.length) hma
  exact this.trans (by decide)
 have e2:H.sl.length=2:=by
  have:=congrArg (fun m:Ma=>m.sl.length) hma
  exact this.trans (by decide)
 have e3:H.dk.blocks.length=4:=by
  have:=congrArg (fun m:Ma=>m.dk.blocks.length) hma
  exact this.trans (by decide)
 have e4:H.fi.length=0:=by
  have:=congrArg (fun m:Ma=>m.st.fs.length) hma
  have h2:H.ma.st.fs.length=H.fi.length:=List.length_map _
  exact h2.symm.trans (this.trans (by decide))
 have e5:H.sp.map PS.sp=[⟨true,[],zTb⟩]:=by
  have:=congrArg (fun m:Ma=>m.sp) hma
  exact this.trans rfl
 have e6:H.sp.length=1:=by have:=congrArg List.length e5;simpa using this
 obtain⟨P,hP⟩:∃P,H.sp[0]?=some P:=⟨_,List.getElem?_eq_getElem (by omega)⟩
 have hPa:P.ar=[]:=by
  have h1:(H.sp.map PS.sp)[0]?=some P.sp:=by rw[List.getElem?_map,hP];rfl
  rw[e5] at h1
  have h2:=Option.some.inj h1
  exact (congrArg Sp.ar h2).symm
 have hfd:fD P.ar 5<0:=by rw[hPa];decide
 have hr1:=ho.rd
 have hH:=Lib.hid (And.intro hP (And.intro hfd (And.intro hw (And.intro e4 (And.intro e1 (And.intro e2 (And.intro e3 e6)))))))
 clear hma hE hw e1 e2 e3 e4 e5 e6 hP hPa hfd ho
 go_wp2_with (refine aD rfl _ _ _ rfl (bP H) rfl rfl rfl machine_size (jN _) ?_)
 intro w2 hb2 bx2
 have hr2:=hr1.below hb2
 have hbr2:=ag hb1 hb2
 clear hr1 hb1 hb2
 go_wp2_with (refine ax _ _ rfl w1.heap.size 0 rfl rfl _ bx2.rd _ Try.underlying40 rfl machine_size ?_)
 refine (Dw H 0 5 P _ hr2 hH.out.2.2.1 hH.out.1 hH.out.2.1).mono ?_
 rintro r w3 ⟨rfl,hb3⟩
 have hr3:=hr2.below hb3
 have bx3:=bx2.ext hb3
 have hbr3:=ag hbr2 hb3
 clear hr2 bx2 hbr2 hb3
 go_wp2_with (refine aD rfl _ _ _ rfl (dF zPg) rfl rfl rfl psize (dD _) ?_)
 intro w4 hb4 px4
 have hr4:=hr3.below hb4
 have bx4:=bx3.ext hb4
 have hbr4:=ag hbr3 hb4
 clear hr3 bx3 hbr3 hb4 px4
 go_wp2_with (refine ax _ _ rfl w1.heap.size 0 rfl rfl _ bx4.rd _ Try.underlying40 rfl machine_size ?_)
 refine (Bc H 0 _ hr4 hH.out.2.2.1 (by rw[hH.out.2.2.2.1];exact Nat.le_refl _)).mono ?_
 rintro r w5 ⟨rfl,hb5⟩
 have hr5:=hr4.below hb5
 have bx5:=bx4.ext hb5
 have hbr5:=ag hbr4 hb5
 clear hr4 bx4 hbr4 hb5
 go_wp2_with (refine ax _ _ rfl w1.heap.size 0 rfl rfl _ bx5.rd _ Try.underlying40 rfl machine_size ?_)
 refine (jh H _ hr5).mono ?_
 rintro r w6 ⟨rfl,hb6⟩
 rw[hH.out.2.2.1]
 have bx6:=bx5.ext hb6
 have hbr6:=ag hbr5 hb6
 clear hr5 bx5 hbr5 hb6
 have hc:=bx6.cell
 unfold bP at hc
 rw[hH.out.2.2.2.2.1,hH.out.2.2.2.2.2.1,hH.out.2.2.2.2.2.2.1,hH.out.2.2.2.2.2.2.2] at hc
 go_wp2
 go_ret
 exact⟨rfl,hbr6⟩
def zX (e:Int):UInt8:=UInt8.ofNat (e%256).toNat
def jD (m:Ma) (f:Int) (n:Nat):List UInt8:=(List.range n).map fun j=>(dz m f (j / 8:Nat)).toList.getD (j%8) 0
theorem Hr (X:Page) (q:Nat) (hq:q<8):(dF X).getD q (.int .u8 0)=gW (X.toList.getD q 0):=by
 rw[Array.getD_eq_getD_getElem?,sS X q hq,List.getD_eq_getElem?_getD,List.getElem?_eq_getElem (by simpa using hq)]
 simp[gW]
theorem GD (m:Ma) (f:Int) (n:Nat):mJ m f n=(jD m f n).map gW:=by
 unfold mJ jD
 rw[List.map_map]
 exact List.map_congr_left fun j _=>Hr _ _ (Nat.mod_lt _ (by decide))
theorem Af (m:Ma) (f:Int) (n:Nat):(jD m f n).length=n:=by unfold jD;simp
theorem Iy {m:Ma} (h:Rt m) {f:Nat} (hf:f<m.st.fs.length):0≤(fileAt m.st f).n∧(fileAt m.st f).n≤(fileAt m.st f).b.length*8:=by
 have h1:=lH h.pt.st _ (List.mem_of_getElem? (uV (s:=m.st) (f:=f) ⟨by omega,by omega⟩))
 have h2:=h1.2.2.1
 unfold bV at h2
 refine⟨h1.1,?_⟩
 have:=h1.1
 split at h2<;>omega
end Go.Proofs.Ytkjobhcnlppcnaa
namespace Pw
open Go Go.RowKit
theorem Az {P:Program} {ops:Array Oper} {Q:Exit→Act→World→Prop} {t0:Array Value} {df:List Deferred} {w0:World} (m:Nat) (l:List RV) (J:(Nat→Bool)→(Nat→Value)→World→Prop) (hst:∀L y w w',Below w.heap.size w w'→J L y w→J L y w') (hJ0:∀y,J (fun _=>false) y w0)
  (hstep:aK (fV P ops ⟨t0,df⟩ J (rvs l)) 0 (ops.toList.take m)) {tm:(Nat→Value)→List Value} {rest:List Oper} (hf:∀y,nY y l ops.toList t0.toList=some (tm y)) (hd:wr (ops.toList.drop m)=some rest)
  (hend:∀y w,J (fun i=>decide (i<m)) y w→(∀i,i<m→rl (rvs l) i (y i) w)→wpList P ops Q rest ⟨(tm y).toArray,df⟩ w)
  (hfix:Fixed (rvs l):=by repeat (first | exact fix_nil | refine vC (fun _ _ _ h=>h) ?_))
  (hok:eP ops=true:=by kernel_rfl) (ht:dQ ops m=true:=by kernel_rfl) (hmn:m≤ops.size:=by exact Nat.le_of_ble_eq_true (by kernel_rfl)) (hll:l.length=m:=by rfl) (hix:idxOk l 0=true:=by kernel_rfl)
  (hsz:eY ops t0.size=true:=by kernel_rfl):wpAny P .any ops Q ops.size (Array.replicate ops.size false) ⟨t0,df⟩ { w0 with drawn:=w0.drawn+1 }:=by
 refine rP m (rvs l) J hst hJ0 hfix hok ht hmn _ rfl hsz hstep fun y w hb hR => ?_
 have h:=hend y w hb hR
 rw[yP hd]
 have e:=lL (m:=m) (y:=y) (w:=w) l ops.toList 0 t0 hix (by omega) (by simp;omega) fun i hi=>by rw[Nat.zero_add];exact hR i (by omega)
 show wpList P ops Q rest ⟨lay (fun i=>decide (i<m)) y ops.toList 0 t0,df⟩ w
 have e2:=Option.some.inj (e.symm.trans (hf y))
 have e3:lay (fun i=>decide (i<m)) y ops.toList 0 t0=(tm y).toArray:=by rw[←e2]
 rw[e3]
 exact h
end Pw
namespace Go.Proofs.Ytkjobhcnlppcnaa
open Go.RowKit Go.Maps Pw
theorem FN {W W' : World} {B e n:Nat} {ks:List (Nat × Array Value × TypeId)} {v:Value} {xs:List Value} (hks:∀t∈ks,t.2.2≠e) (ho:Own W B e 1 v n xs) (hk:∀t∈ks,aC W t.1 t.2.1 t.2.2) (hg:W.grownBy W' v.ownBlock):∀t∈ks,aC W' t.1 t.2.1 t.2.2:=fun t ht=>(hk t ht).grown hg fun e'=>by
 rcases ho.2 with ⟨e1,_⟩|⟨g2,off,cap,cur,e1,_,hb,_⟩
 ·rw[e1] at e'; cases e'
 ·rw[e1] at e'; cases e'; exact nD hb (hk t ht) (hks t ht)
theorem CU {ρ:Operand→Value} {o:Oper} {w:World} {x:Operand} {b off:Nat} (ho:o.op = .slice 50 x none none none) (hx:ρ x = .pointer (some ⟨b,off,none⟩)) :
  (execOp ρ o).run Try.prog w = .ok (.value (.slice (some ⟨b,off,none⟩) 8 8)) w:=by
 simp[execOp,ho,hx,Instr.sliceAt,run_underlying Try.underlying50,go_sem]
theorem sZ (e:Int):IntKind.u8.wrap e=e%256:=IntKind.wrap_u8 e
theorem Hw (n:Nat):gW (UInt8.ofNat n) = .int .u8 ((n:Int)%256):=by
 unfold gW
 rw[UInt8.toNat_ofNat']
 rfl
theorem tO (e:Int):gW (zX e) = .int .u8 (e%256):=by
 unfold gW zX
 have h1:0≤e%256:=Int.emod_nonneg _ (by decide)
 have h2:e%256<256:=Int.emod_lt_of_pos _ (by decide)
 rw[UInt8.toNat_ofNat',Nat.mod_eq_of_lt (by omega),Int.toNat_of_nonneg h1]
theorem Ki (P:Page):(dF P).toList=P.toList.map gW:=by
 obtain⟨⟨l⟩,h⟩:=P
 match l,h with
 | [a,b,c,d,e,f,g,i],_=>rfl
def yB (b:Bool):UInt8:=if b=true then 121 else 110
def yE (m:Ma) (p n:Nat):List UInt8:=match kC m p n with
 | none=>[]
 | some g=>[UInt8.ofNat n,zX (mf m p n).2.2,zX g.fi,zX g.pg]++(mf m p n).1.toList++[g.rd,g.wr,g.sh,(mf m p n).2.1&&decide (0≤g.fi)].map yB
def mo (m:Ma) (p:Nat):Nat→List UInt8
 | 0=>[]
 | n+1=>mo m p n++yE m p n
def nz (m:Ma):Nat→List UInt8
 | 0=>[]
 | p+1=>nz m p++((112::if (dM m p).lv=true then [108] else [])++mo m p 64)
def jK (m:Ma):Nat→List UInt8
 | 0=>nz m m.sp.length
 | f+1=>jK m f++([102,zX (fileAt m.st f).n]++jD m f (fileAt m.st f).n.toNat)
def Cq (m:Ma):List UInt8:=jK m m.st.fs.length
theorem BK (m:Ma) (p:Nat):nz m (p+1)=nz m p++((112::if (dM m p).lv=true then [108] else [])++mo m p 64):=by rw[nz]
theorem Bb (m:Ma) (f:Nat):jK m (f+1)=jK m f++([102,zX (fileAt m.st f).n]++jD m f (fileAt m.st f).n.toNat):=by rw[jK]
theorem Ak (m:Ma):jK m 0=nz m m.sp.length:=by rw[jK]
theorem jM {W W' : World} {B n b:Nat} {u:Value} {xs:List Value} {cs cs' : Array Value} {T:TypeId} (ho:Own W B 5 1 u n xs) (hg:(W.alloc (.cells cs 5)).grownBy W' u.ownBlock) (hT:T≠5) (h:aC W b cs' T):aC W' b cs' T:=
 (h.alloc (.cells cs 5)).grown hg (fun e=>by
  rcases ho.2 with ⟨e1,_⟩|⟨g2,off,cap,cur,e1,_,hb,_⟩
  ·rw[e1] at e;cases e
  ·rw[e1] at e;cases e;exact nD hb h hT)
theorem EZ {W W' : World} {B n b:Nat} {u:Value} {xs:List Value} {cs' : Array Value} {T:TypeId} (ho:Own W B 5 1 u n xs) (hg:W.grownBy W' u.ownBlock) (hT:T≠5) (h:aC W b cs' T):aC W' b cs' T:=
 h.grown hg (fun e=>by
  rcases ho.2 with ⟨e1,_⟩|⟨g2,off,cap,cur,e1,_,hb,_⟩
  ·rw[e1] at e;cases e
  ·rw[e1] at e;cases e;exact nD hb h hT)
theorem qx {w W W' : World} {n:Nat} {u:Value} {xs:List Value} {cs:Array Value} (hb:Below w.heap.size w W) (ho:Own W w.heap.size 5 1 u n xs) (hg:(W.alloc (.cells cs 5)).grownBy W' u.ownBlock):Below w.heap.size w W':=
 (hb.alloc hb.size _).grown hg (cz hb.size _) (ho.alloc (.cells cs 5)).ge
def zY (i j q nx:Nat) (W0:World) (B:Nat) (ks:List (Nat × Array Value × TypeId)) (u:Value) (k:Nat) (old xs ys:List Value):(Nat→Bool)→(Nat→Value)→World→Prop:=fun L y W=>
 (Below B W0 W∧B≤W.heap.size∧∀t∈ks,aC W t.1 t.2.1 t.2.2)∧(L q=true→L j=true)∧(L j=false→Own W B 5 1 u k old) ∧
 (L i=true→L j=false→∃a c,y i = .slice a nx c∧kD W a c nx xs) ∧
 (L j=true→L q=false→Own W B 5 1 (y j) (k+nx) (old++xs)) ∧
 (L q=true→Own W B 5 1 (y q) (k+nx+8) ((old++xs)++ys))
theorem iI {i j q nx:Nat} {W0:World} {B:Nat} {ks:List (Nat × Array Value × TypeId)} {u:Value} {k:Nat} {old xs ys:List Value}:∀L y W W',Below W.heap.size W W'→zY i j q nx W0 B ks u k old xs ys L y W→zY i j q nx W0 B ks u k old xs ys L y W':=
 fun _ _ _ _ hb ⟨h1,h2,h3,h4,h5,h6⟩=>⟨⟨h1.1.trans (hb.mono h1.2.1),Nat.le_trans h1.2.1 hb.size,fun t ht=>(h1.2.2 t ht).ext hb⟩,h2,fun e=>(h3 e).below hb,fun e1 e2=>by
  obtain⟨a,e,k1,k2⟩:=h4 e1 e2
  exact⟨a,e,k1,k2.below hb⟩,fun a b=>(h5 a b).below hb,fun a=>(h6 a).below hb⟩
theorem Ka {i j q nx:Nat} {W0:World} {B:Nat} {ks:List (Nat × Array Value × TypeId)} {u:Value} {k:Nat} {old xs ys:List Value} (hB:B≤W0.heap.size) (hk:∀t∈ks,aC W0 t.1 t.2.1 t.2.2) (ho:Own W0 B 5 1 u k old) (y:Nat→Value):zY i j q nx W0 B ks u k old xs ys (fun _=>false) y W0:=
 ⟨⟨Below.refl _ _,hB,hk⟩,fun e=>(by cases e),fun _=>ho,fun e=>(by cases e),fun e=>(by cases e),fun e=>(by cases e)⟩
theorem lM {L:Nat→Bool} {i j:Nat} (h:i≠j):bA L i j=L j:=by unfold bA;rw[if_neg (fun e=>h e.symm)]
theorem mh {y:Nat→Value} {i j:Nat} {v:Value} (h:i≠j):bO y i v j=y j:=by unfold bO;rw[if_neg (fun e=>h e.symm)]
theorem xJ {L:Nat→Bool} {i:Nat}:bA L i i=true:=by unfold bA;rw[if_pos rfl]
theorem xX {y:Nat→Value} {i:Nat} {v:Value}:bO y i v i=v:=by unfold bO;rw[if_pos rfl]
theorem jH {i j q nx:Nat} {W0 W:World} {B:Nat} {ks:List (Nat × Array Value × TypeId)} {u:Value} {k:Nat} {old xs ys:List Value} {L:Nat→Bool} {y:Nat→Value} {x:Nat} {v:Value} (hi:x≠i∧x≠j∧x≠q) (h:zY i j q nx W0 B ks u k old xs ys L y W):zY i j q nx W0 B ks u k old xs ys (bA L x) (bO y x v) W:=by
 unfold zY at h ⊢
 rw[lM hi.1,lM hi.2.1,lM hi.2.2,mh hi.1,mh hi.2.1,mh hi.2.2]
 exact h
theorem KD {i j q nx:Nat} {W0 W W' : World} {B:Nat} {ks:List (Nat × Array Value × TypeId)} {u:Value} {k:Nat} {old xs ys:List Value} {L:Nat→Bool} {y:Nat→Value} {a:Option Addr} {c:Nat} (hn:i≠j∧i≠q) (hb:Below W.heap.size W W') (h:zY i j q nx W0 B ks u k old xs ys L y W) (hr:kD W' a c nx xs):zY i j q nx W0 B ks u k old xs ys (bA L i) (bO y i (.slice a nx c)) W':=by
 obtain⟨h1,h2,h3,h4,h5,h6⟩:=iI _ _ _ _ hb h
 unfold zY
 rw[lM hn.1,lM hn.2,mh hn.1,mh hn.2,xJ,xX]
 exact⟨h1,h2,h3,fun _ _=>⟨a,c,rfl,hr⟩,h5,h6⟩
theorem JX {i j q nx:Nat} {W0 W W' : World} {B:Nat} {ks:List (Nat × Array Value × TypeId)} {u:Value} {k:Nat} {old xs ys:List Value} {L:Nat→Bool} {y:Nat→Value} {v:Value} (hn:j≠q) (hks:∀t∈ks,t.2.2≠5) (hi:L j=false) (h:zY i j q nx W0 B ks u k old xs ys L y W) (hg:W.grownBy W' u.ownBlock) (ho:Own W' B 5 1 v (k+nx) (old++xs)):zY i j q nx W0 B ks u k old xs ys (bA L j) (bO y j v) W':=by
 obtain⟨h1,h2,h3,h4,h5,h6⟩:=h
 have h8:L q=false:=by
  cases e:L q with
  | false=>rfl
  | true=>rw[h2 e] at hi;cases hi
 have hu:=h3 hi
 unfold zY
 rw[lM hn,mh hn,xJ,xX]
 exact⟨⟨h1.1.grown hg h1.2.1 hu.ge,Nat.le_trans h1.2.1 hg.size,FN hks hu h1.2.2 hg⟩,fun _=>rfl,fun e=>(by cases e),fun _ e=>(by cases e),fun _ _=>ho,fun e=>(by rw[h8] at e;cases e)⟩
theorem Kz {i j q nx:Nat} {W0 W W' : World} {B:Nat} {ks:List (Nat × Array Value × TypeId)} {u:Value} {k:Nat} {old xs ys:List Value} {L:Nat→Bool} {y:Nat→Value} {v:Value} (hn:q≠j) (hks:∀t∈ks,t.2.2≠5) (hj:L j=true) (hi:L q=false) (h:zY i j q nx W0 B ks u k old xs ys L y W) (hg:W.grownBy W' (y j).ownBlock) (ho:Own W' B 5 1 v (k+nx+8) ((old++xs)++ys)):zY i j q nx W0 B ks u k old xs ys (bA L q) (bO y q v) W':=by
 obtain⟨h1,h2,h3,h4,h5,h6⟩:=h
 have hu:=h5 hj hi
 unfold zY
 rw[lM hn,mh hn,xJ,xX]
 exact⟨⟨h1.1.grown hg h1.2.1 hu.ge,Nat.le_trans h1.2.1 hg.size,FN hks hu h1.2.2 hg⟩,fun _=>hj,fun e=>(by rw[hj] at e;cases e),fun _ e=>(by rw[hj] at e;cases e),fun _ e=>(by cases e),fun _=>ho⟩
theorem vg (H:MH) (w:World) (h:sV w H) (hR:Rt H.ma) :
  Calls Try.prog 20 #[.agg (bP H)] w fun r w'=>r = .returned (.string ⟨(Cq H.ma).toArray⟩)∧Below w.heap.size w w':=by
 have hR':=Lib.hid hR
 clear hR
 have hsp4:H.sp.length≤4:=by have:=hR'.out.pt.spl;rwa [Dv] at this
 go_enter Try.func20,Try.ntmps20
 go_upto_region 1 with (fail)
 refine eO (fun W=>Code.wp _ _ _ _ W) fun w1 hb1 bx1 hs1 => ?_
 have bx1:aC w1 w.heap.size (bP H) 40:=bx1
 clear hs1
 have hc:=bx1.cell
 unfold bP at hc
 go_upto_region 3 with (fail)
 clear hc
 go_loopw [19,3] (fun i u wr => ∃(p:Nat) (k:Nat),p≤H.sp.length∧k≤1100*p∧i = .int .i64 p∧Below w.heap.size w wr∧aC wr w.heap.size (bP H) 40∧Own wr w.heap.size 5 1 u k ((nz H.ma p).map gW)) (fun i _ _=>H.sp.length-(intOf i).toNat)
 case atStart=>exact⟨0,0,by omega,by omega,rfl,hb1,bx1,Own.nil _ _ _ _⟩
 case round=>
  clear hb1 bx1
  obtain⟨p,k,hp,hk,rfl,hbr,bx,hown⟩:=hrel
  by_cases hpl:p<H.sp.length
  ·have hpi:(p:Int)<(H.sp.length:Int):=by omega
   have hM:=h.below hbr
   obtain⟨bd,od,P,hda,hP,hrd⟩:=jY hM.sp.rd p hpl
   have hgood:=jm hM hP
   have hsP:P.sp∈H.ma.sp:=by show P.sp∈H.sp.map PS.sp;exact List.mem_map.2 ⟨P,List.mem_of_getElem? hP,rfl⟩
   have hal:(aR P.ar).1=0:=hR'.out.pt.ar P.sp hsP
   have hsp:=Lib.hid (uL hP)
   obtain⟨hal16,halE⟩:=jO hal
   have hon:Hid (∀i:Nat,aY P.ar i=kC H.ma p i):=Lib.hid (fun i=>by
    rw[iF (fZ (eD.1 hal).2)]
    unfold kC
    rw[hsp.out];rfl)
   have hlvs:Hid ((dM H.ma p).lv=P.lv):=Lib.hid (by rw[hsp.out];rfl)
   rw[hda]
   go_wp2_with (first | (refine ax _ _ rfl bd (od+p*10) rfl rfl _ hrd _ Try.underlying65 rfl space_size ?_) | (refine aD rfl _ _ _ rfl (lu P) rfl rfl rfl space_size (by rw[←Array.all_toList,List.all_eq_true];exact hgood.one) ?_))
   intro w6 hb6 px6
   have hbr6:=ag hbr hb6
   have bx6:=bx.ext hb6
   have hown6:=hown.below hb6
   clear hbr bx hb6 hrd hM hgood hal hsP hsp hown
   generalize wr.heap.size=gp at px6
   obtain⟨old,hold⟩:∃old,Hid (old=(nz H.ma p).map gW):=⟨_,Lib.hid rfl⟩
   rw[←hold.out] at hown6
   ·skip
    go_wp2_with (first | (at_builtin;refine eG rfl _ _ 24 rfl w.heap.size 5 _ 1 1 Try.underlying24 byte_info rfl (by decide) u3 k old rfl (hown6.alloc _) (some ⟨_,0,none⟩) 1 1 [.int .u8 112] rfl (fun h=>(by cases h)) (Nat.le_refl _) rfl (bW.new _ #[.int .u8 112] _) (fun u hu=>by simp at hu;subst hu;rfl) (by unfold maxLen;omega) (by omega) (by have:=hbr6.size;simp;omega) ?_))
    intro v7 w7 hown7 hg7 hso7
    have hbr7:=qx hbr6 hown6 hg7
    have bx7:=jM hown6 hg7 (by decide) bx6
    have px7:=jM hown6 hg7 (by decide) px6
    clear hbr6 bx6 px6 hown6 hg7 hso7
    have hcp:=px7.cell
    unfold lu at hcp
    go_upto_if 28 with (fail)
    clear hcp
    go_cut [3] (fun s3 wx => ∃k' : Nat,k'≤k+2∧Below w.heap.size w wx∧aC wx w.heap.size (bP H) 40∧aC wx gp (lu P) 65∧Own wx w.heap.size 5 1 s3 k' (old++(112::if P.lv=true then [108] else []:List UInt8).map gW))
    case first=>
     cases hl:P.lv with
     | false=>
      go_wp2
      go_meet
      case rel=>exact⟨k+1,by omega,hbr7,bx7,px7,by rw[hl];exact hown7⟩
     | true=>
      ·skip
       go_wp2_with (first | (at_builtin;refine eG rfl _ _ 24 rfl w.heap.size 5 _ 1 1 Try.underlying24 byte_info rfl (by decide) v7 (k+1) (old++[.int .u8 112]) rfl (hown7.alloc _) (some ⟨_,0,none⟩) 1 1 [.int .u8 108] rfl (fun h=>(by cases h)) (Nat.le_refl _) rfl (bW.new _ #[.int .u8 108] _) (fun u hu=>by simp at hu;subst hu;rfl) (by unfold maxLen;omega) (by omega) (by have:=hbr7.size;simp;omega) ?_))
       intro v8 w8 hown8 hg8 hso8
       have hbr8:=qx hbr7 hown7 hg8
       have bx8:=jM hown7 hg8 (by decide) bx7
       have px8:=jM hown7 hg8 (by decide) px7
       go_wp2
       go_meet
       case rel=>exact⟨k+1+1,by omega,hbr8,bx8,px8,by rw[hl];exact hown8⟩
    case rest=>
    obtain⟨k',hk',hbr9,bx9,px9,hown9⟩:=hcut
    clear hbr7 bx7 px7 hown7
    obtain⟨A0,hA0⟩:∃A0:List UInt8,Hid (A0=nz H.ma p++(112::if (dM H.ma p).lv=true then [108] else [])):=⟨_,Lib.hid rfl⟩
    have e9:old++(112::if P.lv=true then [108] else []).map gW=A0.map gW:=by
     rw[hA0.out,hold.out,hlvs.out,List.map_append]
    rw[e9] at hown9
    clear e9
    have hcp:=px9.cell
    unfold lu at hcp
    have hM:=h.below hbr9
    have hgood:=jm hM hP
    clear hM
    go_wp2_with fail
    refine (iQ P.ar P.aa P.ac _ hgood.ars.rd (by omega) halE).mono ?_
    rintro r w10 ⟨rfl,hb10⟩
    have hbr10:=ag hbr9 hb10
    have bx10:=bx9.ext hb10
    have hown10:=hown9.below hb10
    clear hbr9 bx9 px9 hown9 hcp hgood hb10
    generalize hfo:aY P.ar=fo
    rw[hfo] at hon
    clear hfo
    go_upto_region 9 with (fail)
    go_loopw [35,3] (fun i u wr => ∃(n:Nat) (k:Nat),n≤64∧k≤k' + 16*n∧i = .int .i64 n∧Below w.heap.size w wr∧aC wr w.heap.size (bP H) 40∧Own wr w.heap.size 5 1 u k ((A0++mo H.ma p n).map gW)) (fun i _ _=>64-(intOf i).toNat)
    case atStart=>exact⟨0,k',by omega,by omega,rfl,hbr10,bx10,by rw[show A0++mo H.ma p 0=A0 from List.append_nil _];exact hown10⟩
    case round=>
     clear hbr10 bx10 hown10
     obtain⟨n,k1,hn,hk1,rfl,hbr,bx,hown⟩:=hrel
     by_cases hn6:n<64
     ·have hni:(n:Int)<64:=by omega
      obtain⟨o,ho⟩:∃o,Hid (fo n=o):=⟨_,Lib.hid rfl⟩
      have hix:=nI fo n hn6 o ho.out
      have hpg:Hid (kC H.ma p n=o):=Lib.hid ((hon.out n).symm.trans ho.out)
      have hSs:Hid (mo H.ma p (n+1)=mo H.ma p n++yE H.ma p n):=Lib.hid rfl
      go_wp2_with (refine aD rfl _ _ _ rfl (iU o) rfl rfl rfl one_size (by rw[←Array.all_toList,List.all_eq_true];exact yV o) ?_)
      intro w11 hb11 ox11
      have hbr11:=ag hbr hb11
      have bx11:=bx.ext hb11
      have hown11:=hown.below hb11
      clear hbr bx hown hb11 hix
      generalize wr.heap.size=go at ox11
      have hoc:=ox11.cell
      unfold iU at hoc
      cases o with
      | none=>
       have hPn:Hid (mo H.ma p (n+1)=mo H.ma p n):=Lib.hid (by
        rw[hSs.out];unfold yE;rw[hpg.out];exact List.append_nil _)
       clear hSs hpg ho
       go_wp2
       go_roundw
       case rel=>exact⟨n+1,k1,by omega,by omega,by go_num,hbr11,bx11,by rw[hPn.out];exact hown11⟩
       case measure=>simp[intOf];omega
      | some g=>
       have hpb:=Lib.hid hpl
       go_wp2_with (refine ax _ _ rfl w.heap.size 0 rfl rfl _ bx11.rd _ Try.underlying40 rfl machine_size ?_)
       refine (CS H p n _ (h.below hbr11) hR'.out hpl hn6).mono ?_
       rintro r w12 ⟨rfl,hb12⟩
       have hbr12:=ag hbr11 hb12
       have bx12:=bx11.ext hb12
       have ox12:=ox11.ext hb12
       have hown12:=hown11.below hb12
       clear hbr11 bx11 ox11 hown11 hb12 hoc
       obtain⟨S,hS⟩:∃S,Hid (mf H.ma p n=S):=⟨_,Lib.hid rfl⟩
       rw[hS.out]
       obtain⟨X,own,e⟩:=S
       have hSe:Hid (yE H.ma p n=[UInt8.ofNat n,zX e,zX g.fi,zX g.pg]++X.toList++[g.rd,g.wr,g.sh,own&&decide (0≤g.fi)].map yB):=Lib.hid (by unfold yE;rw[hpg.out,hS.out])
       clear hS hpg ho
       go_wp2_with (refine aD rfl _ _ _ rfl (dF X) rfl rfl rfl psize (dD X) ?_)
       intro w13 hb13 xx13
       have hbr13:=ag hbr12 hb13
       have bx13:=bx12.ext hb13
       have ox13:=ox12.ext hb13
       have hown13:=hown12.below hb13
       clear hbr12 bx12 ox12 hown12 hb13
       generalize w12.heap.size=gx at xx13
       have hk0:Hid (k1≤6000):=Lib.hid (by omega)
       obtain⟨old1,hold1⟩:∃o1,Hid (o1=(A0++mo H.ma p n).map gW):=⟨_,Lib.hid rfl⟩
       rw[←hold1.out] at hown13
       have hks:Hid (∀t∈[(w.heap.size,bP H,40),(gx,dF X,50),(go,iU (some g),106)],t.2.2≠5):=Lib.hid fun t ht=>by
        rcases List.mem_cons.1 ht with rfl|ht
        ·show 40≠5;decide
        rcases List.mem_cons.1 ht with rfl|ht
        ·show 50≠5;decide
        ·cases List.mem_singleton.1 ht;show 106≠5;decide
       go_upto_region 13 with (fail)
       refine CF 0 3 (u3) (by kernel_rfl) (by kernel_rfl) rfl fun ops0 hops0 => ?_
       simp only[freedL,qc] at hops0
       subst hops0
       refine Az 15 [_,_,_,_,_,_,.v (.int .i64 g.fi),_,_,.v (.int .i64 g.pg),_,.r 11 ((aM fun _=>True)),.r 12 ((aM fun _=>True)),_,.r 14 ((aM fun _=>True))] (zY 11 12 14 4 w13 w.heap.size [(w.heap.size,bP H,40),(gx,dF X,50),(go,iU (some g),106)] u3 k1 old1 ([UInt8.ofNat n,zX e,zX g.fi,zX g.pg].map gW) (X.toList.map gW)) iI (fun y=>Ka hbr13.size (fun t ht=>by rcases List.mem_cons.1 ht with rfl | ht;exact bx13;rcases List.mem_cons.1 ht with rfl | ht;exact xx13;cases List.mem_singleton.1 ht;exact ox13) hown13 y) (Qk iI rfl (Qk iI rfl (Qr iI (.int .u8 ((n:Int)%256)) (fun ρ y W hKn=>(qB rfl (az rfl hKn) (by simp[convert,go_sem,sZ]))) rfl rfl (Qk iI rfl (Qr iI (.int .u8 (e%256)) (fun ρ y W hKn=>(qB rfl (az rfl hKn) (by simp[convert,go_sem,sZ]))) rfl rfl (Qf iI go 4 rfl rfl (all_cons ?_ (Qr iI (.int .u8 (g.fi%256)) (fun ρ y W hKn=>(qB rfl (az rfl hKn) (by simp[convert,go_sem,sZ]))) rfl rfl (Qf iI go 5 rfl rfl (all_cons ?_ (Qr iI (.int .u8 (g.pg%256)) (fun ρ y W hKn=>(qB rfl (az rfl hKn) (by simp[convert,go_sem,sZ]))) rfl rfl (all_cons ?_ (all_cons ?_ (Qr iI (.slice (some ⟨gx,0,none⟩) 8 8) (fun ρ y W hKn=>(CU rfl (az rfl hKn))) rfl rfl (all_cons ?_ (all_nil)) (fun _ _ _ _ hLd h=>jH (by decide) h)))) (fun _ _ _ _ hLd h=>jH (by decide) h))) (fun _ _ _ _ hLd h=>jH (by decide) h)) (fun _ _ _ _ hLd h=>jH (by decide) h))) (fun _ _ _ _ hLd h=>jH (by decide) h)) (fun _ _ _ _ hLd h=>jH (by decide) h)) (fun _ _ _ _ hLd h=>jH (by decide) h)) (fun _ _ _ _ hLd h=>jH (by decide) h)) (fun _ _ _ _ hLd h=>jH (by decide) h)) (fun _ _ _ _ hLd h=>jH (by decide) h)) (fun _=>rfl) rfl ?_
       ·intro ρ y W L hw hn hLi hLd hb hd
        refine bG iI (fun _ _ h=>jH (by decide) h) hb ?_
        have E55:=hw 55 5 rfl
        have h5:y 5=_:=hd 5 rfl
        have oxW:aC W go (iU (some g)) 106:=hb.1.2.2 _ (.tail _ (.tail _ (.head _)))
        refine aj (.int .i64 g.fi) (ah rfl) (by simp[execOp,go_sem,E55,h5,oxW.cell,iU,oF]) rfl
       ·intro ρ y W L hw hn hLi hLd hb hd
        refine bG iI (fun _ _ h=>jH (by decide) h) hb ?_
        have E58:=hw 58 8 rfl
        have h8:y 8=_:=hd 8 rfl
        have oxW:aC W go (iU (some g)) 106:=hb.1.2.2 _ (.tail _ (.tail _ (.head _)))
        refine aj (.int .i64 g.pg) (ah rfl) (by simp[execOp,go_sem,E58,h8,oxW.cell,iU,oP]) rfl
       ·intro ρ y W L hw hn hLi hLd hb hd;have E52:=hw 52 2 rfl;have h2:y 2=_:=hd 2 rfl;have E54:=hw 54 4 rfl;have h4:y 4=_:=hd 4 rfl;have E57:=hw 57 7 rfl;have h7:y 7=_:=hd 7 rfl;have E60:=hw 60 10 rfl
        have h10:y 10=_:=hd 10 rfl
        refine bi (.slice (some ⟨W.heap.size,0,none⟩) 4 4) (ah rfl) ?_ (KD (W':=W.alloc (.cells #[.int .u8 ((n:Int)%256),.int .u8 (e%256),.int .u8 (g.fi%256),.int .u8 (g.pg%256)] 5)) (by decide) ((Below.refl _ _).alloc (Nat.le_refl _) _) hb ⟨Nat.le_refl _,by unfold maxLen;omega,fun e=>(by cases e),by rw[List.map_cons,List.map_cons,List.map_cons,List.map_cons,List.map_nil,tO,tO,tO,Hw];exact bW.new _ _ _⟩) trivial
        simp[execOp,go_sem,E52.trans h2,E54.trans h4,E57.trans h7,E60.trans h10]
       ·intro ρ y W L hw hn hLi hLd hb hd;have E50:=hw 50 0 rfl;have h0:y 0=_:=hd 0 rfl;have E61:=hw 61 11 rfl;have h11:=hd 11 rfl
        obtain⟨a,c,hx1,hx2⟩:=hb.2.2.2.1 (hLd 11 rfl) hLi
        have hv:=hb.2.2.1 hLi
        refine dx (ah rfl) (fH _ _ _ rfl w.heap.size 5 _ 1 1 Try.underlying24 byte_info rfl (by decide) u3 k1 _ (E50.trans h0) hv a 4 c _ (E61.trans hx1) hx2.nl hx2.le rfl hx2.rd (fun u hu=>by obtain⟨x,_,rfl⟩:=List.mem_map.1 hu;rfl) (by unfold maxLen;have:=hk0.out;omega) (by have:=hk0.out;omega) hb.1.2.1) (fun v W1 h=>JX (by decide) hks.out hLi hb h.2.1 h.1) (fun _ _ _=>trivial)
       ·intro ρ y W L hw hn hLi hLd hb hd;have E62:=hw 62 12 rfl;have h12:=hd 12 rfl;have E63:=hw 63 13 rfl;have h13:y 13=_:=hd 13 rfl
        have hv:=hb.2.2.2.2.1 (hLd 12 rfl) hLi
        refine dx (ah rfl) (fH _ _ _ rfl w.heap.size 5 _ 1 1 Try.underlying24 byte_info rfl (by decide) (y 12) (k1+4) _ E62 hv (some ⟨gx,0,none⟩) 8 8 _ (E63.trans h13) (fun e=>(by cases e)) (Nat.le_refl _) (by simp) (by rw[←Ki];exact (hb.1.2.2 _ (.tail _ (.head _))).rd) (fun u hu=>by obtain⟨x,_,rfl⟩:=List.mem_map.1 hu;rfl) (by unfold maxLen;have:=hk0.out;omega) (by have:=hk0.out;omega) hb.1.2.1) (fun v W1 h=>Kz (by decide) hks.out (hLd 12 rfl) hLi hb h.2.1 h.1) (fun _ _ _=>trivial)
       intro y W5 hbW5 hRW5
       have hy11:((aM fun _=>True)).r (y 11) W5:=hRW5 11 (by decide)
       have hy12:((aM fun _=>True)).r (y 12) W5:=hRW5 12 (by decide)
       have hy14:((aM fun _=>True)).r (y 14) W5:=hRW5 14 (by decide)
       clear hRW5
       obtain⟨⟨hq1,hq2,hq3⟩,_,_,_,_,hq6⟩:=hbW5
       have ho5:=hq6 rfl
       have bx5:aC W5 w.heap.size (bP H) 40:=hq3 _ (.head _)
       have ox5:aC W5 go (iU (some g)) 106:=hq3 _ (.tail _ (.tail _ (.head _)))
       have hbr5:=ET hbr13 hq1
       clear hq1 hq2 hq3 hq6 hbr13 bx13 ox13 xx13 hown13
       generalize y 14=v5 at ho5
       obtain⟨old2,hold2⟩:∃o2,Hid (o2=(old1++[UInt8.ofNat n,zX e,zX g.fi,zX g.pg].map gW)++X.toList.map gW):=⟨_,Lib.hid rfl⟩
       rw[←hold2.out] at ho5
       obtain⟨zs,hzs⟩:∃zs,Hid (zs=[g.rd,g.wr,g.sh,own&&decide (0≤g.fi)]):=⟨_,Lib.hid rfl⟩
       have hoc:=ox5.cell
       unfold iU at hoc
       go_upto_region 14 with (fail)
       go_cut [77,78,79] (fun s77 s78 s79 wx => ∃b0:Nat,s77 = .slice (some ⟨b0,0,none⟩) 4 4∧s78 = .int .i64 4∧s79 = .int .i64 0∧Below w.heap.size w wx∧aC wx w.heap.size (bP H) 40∧Own wx w.heap.size 5 1 v5 (k1+4+8) old2∧aC wx b0 (zs.map .bool).toArray 4)
       case first=>
        cases own with
        | false=>
         go_wp2
         go_meet
         case rel=>exact⟨_,rfl,rfl,rfl,hbr5.alloc hbr5.size _,bx5.alloc _,ho5.alloc _,by rw[hzs.out];exact aC.new _ _ _⟩
        | true=>
         go_wp2
         go_meet
         case rel=>exact⟨_,rfl,rfl,rfl,hbr5.alloc hbr5.size _,bx5.alloc _,ho5.alloc _,by rw[hzs.out];exact aC.new _ _ _⟩
       case rest=>
       obtain⟨b0,rfl,rfl,rfl,hbr6,bx6,hown6,zx6⟩:=hcut
       clear hbr5 bx5 ho5 ox5 hoc
       have hzl:Hid (zs.length=4):=Lib.hid (by rw[hzs.out];rfl)
       go_upto_region 15 with (fail)
       go_loopw [79,3] (fun i u wr => ∃(q:Nat) (k2:Nat),q≤4∧k2≤k1+12+q∧i = .int .i64 q∧Below w.heap.size w wr∧aC wr w.heap.size (bP H) 40∧Own wr w.heap.size 5 1 u k2 (old2++((zs.take q).map yB).map gW)∧aC wr b0 (zs.map .bool).toArray 4) (fun i _ _=>4-(intOf i).toNat)
       case atStart=>exact⟨0,k1+4+8,by omega,by omega,rfl,hbr6,bx6,by rw[List.take_zero,List.map_nil,List.map_nil,List.append_nil];exact hown6,zx6⟩
       case round=>
        clear hbr6 bx6 hown6 zx6
        obtain⟨q,k2,hq,hk2,rfl,hbr,bx,hown,zx⟩:=hrel
        by_cases hq4:q<4
        ·have hqi:(q:Int)<4:=by omega
         obtain⟨z,hz⟩:∃z,zs[q]?=some z:=⟨_,List.getElem?_eq_getElem (by rw[hzl.out];exact hq4)⟩
         have hzc:wr.cell? ⟨b0,q,none⟩=some (.bool z):=by
          rw[zx.cell,List.getElem?_toArray,List.getElem?_map,hz];rfl
         have hold3:Hid (zs.take (q+1)=zs.take q++[z]):=Lib.hid (by rw[List.take_add_one,hz];rfl)
         clear hz
         obtain⟨old3,hold3'⟩:∃o3,Hid (o3=old2++((zs.take q).map yB).map gW):=⟨_,Lib.hid rfl⟩
         rw[←hold3'.out] at hown
         cases z with
         | false=>
          ·skip
           go_wp2_with (first | (at_builtin;refine eG rfl _ _ 24 rfl w.heap.size 5 _ 1 1 Try.underlying24 byte_info rfl (by decide) u3 k2 old3 rfl (hown.alloc _) (some ⟨_,0,none⟩) 1 1 [.int .u8 110] rfl (fun h=>(by cases h)) (Nat.le_refl _) rfl (bW.new _ #[.int .u8 110] _) (fun u hu=>by simp at hu;subst hu;rfl) (by unfold maxLen;omega) (by omega) (by have:=hbr.size;simp;omega) ?_))
           intro v8 w8 hown8 hg8 hso8
           have hbr8:=qx hbr hown hg8
           have bx8:=jM hown hg8 (by decide) bx
           have zx8:=jM hown hg8 (by decide) zx
           clear hbr bx zx hown hzc hg8 hso8
           go_wp2
           go_roundw
           case rel=>exact⟨q+1,k2+1,by omega,by omega,by go_num,hbr8,bx8,by rw[hold3.out,List.map_append,List.map_append,←List.append_assoc,←hold3'.out];exact hown8,zx8⟩
           case measure=>simp[intOf];omega
         | true=>
          ·skip
           go_wp2_with (first | (at_builtin;refine eG rfl _ _ 24 rfl w.heap.size 5 _ 1 1 Try.underlying24 byte_info rfl (by decide) u3 k2 old3 rfl (hown.alloc _) (some ⟨_,0,none⟩) 1 1 [.int .u8 121] rfl (fun h=>(by cases h)) (Nat.le_refl _) rfl (bW.new _ #[.int .u8 121] _) (fun u hu=>by simp at hu;subst hu;rfl) (by unfold maxLen;omega) (by omega) (by have:=hbr.size;simp;omega) ?_))
           intro v8 w8 hown8 hg8 hso8
           have hbr8:=qx hbr hown hg8
           have bx8:=jM hown hg8 (by decide) bx
           have zx8:=jM hown hg8 (by decide) zx
           clear hbr bx zx hown hzc hg8 hso8
           go_wp2
           go_roundw
           case rel=>exact⟨q+1,k2+1,by omega,by omega,by go_num,hbr8,bx8,by rw[hold3.out,List.map_append,List.map_append,←List.append_assoc,←hold3'.out];exact hown8,zx8⟩
           case measure=>simp[intOf];omega
        ·have hq4' : q=4:=by omega
         have hqi:¬(q:Int)<4:=by omega
         have hfin:Hid (old2++((zs.take q).map yB).map gW=(A0++mo H.ma p (n+1)).map gW):=Lib.hid (by
          rw[List.take_of_length_le (by rw[hzl.out];omega),hSs.out,hSe.out,hold2.out,hold1.out,hzs.out]
          simp only[List.map_append,List.append_assoc])
         rw[hfin.out] at hown
         have hk3:k2≤k' + 16*(n+1):=by omega
         clear hfin zx hq4 hq4'
         go_wp2
         go_roundw
         case rel=>exact⟨n+1,k2,by omega,hk3,by go_num,hbr,bx,hown⟩
         case measure=>simp[intOf];omega
     ·have hn64:n=64:=by omega
      have hni:¬(n:Int)<64:=by omega
      have hfin:Hid ((A0++mo H.ma p n).map gW=(nz H.ma (p+1)).map gW):=Lib.hid (by
       rw[hn64,BK,hA0.out,List.append_assoc])
      have hk9:k1≤1100*(p+1):=by omega
      rw[hfin.out] at hown
      clear hn64 hfin hn hk1 hn6
      go_wp2
      go_roundw
      case rel=>exact⟨p+1,k1,by omega,hk9,by go_num,hbr,bx,hown⟩
      case measure=>simp[intOf];omega
  ·have hpi:¬(p:Int)<(H.sp.length:Int):=by omega
   have hpe:p=H.sp.length:=by omega
   have hz0:Hid ((nz H.ma p).map gW=(jK H.ma 0).map gW):=Lib.hid (by rw[Ak,Dv,hpe])
   have hk0:k≤4400:=by omega
   rw[hz0.out] at hown
   clear hz0 hpe hp hk hpl
   have hc:=bx.cell
   unfold bP at hc
   have hfl5:H.fi.length≤5:=by
    have:=(iB hR'.out.pt.st).1
    rwa [show H.ma.st.fs.length=H.fi.length from List.length_map _] at this
   go_upto_region 24 with (fail)
   clear hc hpi
   go_loopw [97,3] (fun i u wr => ∃(f:Nat) (k:Nat),f≤H.fi.length∧k≤4400+98*f∧i = .int .i64 f∧Below w.heap.size w wr∧aC wr w.heap.size (bP H) 40∧Own wr w.heap.size 5 1 u k ((jK H.ma f).map gW)) (fun i _ _=>H.fi.length-(intOf i).toNat)
   case atStart=>exact⟨0,k,by omega,by omega,rfl,hbr,bx,hown⟩
   case round=>
    clear hbr bx hown hk0
    obtain⟨f,k,hf,hk,rfl,hbr,bx,hown⟩:=hrel
    by_cases hfl:f<H.fi.length
    ·have hfi:(f:Int)<(H.fi.length:Int):=by omega
     have hfs:f<H.ma.st.fs.length:=by rw[show H.ma.st.fs.length=H.fi.length from List.length_map _];exact hfl
     have hszH:=Lib.hid (Iy hR'.out hfs)
     have hs96:=(lH hR'.out.pt.st _ (List.mem_of_getElem? (uV (s:=H.ma.st) (f:=f) ⟨by omega,by omega⟩))).2.1
     obtain⟨mm,hmm⟩:∃mm:Nat,Hid ((fileAt H.ma.st f).n=(mm:Int)):=⟨(fileAt H.ma.st f).n.toNat,Lib.hid (by have:=hszH.out.1;omega)⟩
     have hm96:mm≤96:=by rw[hmm.out] at hs96;omega
     have hSs:Hid ((jK H.ma (f+1)).map gW=(jK H.ma f).map gW++[.int .u8 102,.int .u8 (mm:Int)]++(jD H.ma f mm).map gW):=Lib.hid (by
      rw[Bb,hmm.out,Int.toNat_natCast,List.map_append,List.map_append,List.append_assoc]
      simp only[List.map_cons,List.map_nil,tO]
      rw[Int.emod_eq_of_lt (by omega) (by omega)]
      rfl)
     have hM:=h.below hbr
     go_wp2_with (refine ax _ _ rfl w.heap.size 0 rfl rfl _ bx.rd _ Try.underlying40 rfl machine_size ?_)
     refine (AJ H f _ hM hR'.out ⟨(mI hR'.out).ca,(mI hR'.out).st.2⟩ hR'.out.ca.lt hfl hszH.out).mono ?_
     rintro r w9 ⟨v,rfl,hv,hb9⟩
     rw[GD,hmm.out,Int.toNat_natCast] at hv
     have bx9:=bx.ext hb9
     have hbr9:=ag hbr hb9
     have hown9:=hown.below hb9
     have hap:Hid (∀g,u3.ownBlock=some g→v.ownBlock≠some g):=Lib.hid fun g hg e=>by
      have h1:=tC hown g hg
      have h2:=hv.ge g e
      omega
     clear hM bx hbr hown hb9 hfs hs96
     obtain⟨old,hold⟩:∃old,Hid (old=(jK H.ma f).map gW):=⟨_,Lib.hid rfl⟩
     rw[←hold.out] at hown9 hSs
     obtain⟨a1,c1,hv1,k1,k2,k3,k4⟩:=hv.rd
     clear k1 k2 k3 k4
     subst hv1
     go_wp2_with (first | (at_builtin;refine eG rfl _ _ 24 rfl w.heap.size 5 _ 1 1 Try.underlying24 byte_info rfl (by decide) u3 k old rfl (hown9.alloc _) (some ⟨_,0,none⟩) 2 2 [.int .u8 102,.int .u8 (mm:Int)] rfl (fun h=>(by cases h)) (Nat.le_refl _) rfl (bW.new _ #[.int .u8 102,.int .u8 (mm:Int)] _) (fun u hu=>by simp at hu;rcases hu with rfl | rfl<;>rfl) (by unfold maxLen;omega) (by omega) (by have:=hbr9.size;simp;omega) ?_))
     intro v10 w10 hown10 hg10 hso10
     have hbr10:=qx hbr9 hown9 hg10
     have bx10:=jM hown9 hg10 (by decide) bx9
     have hv10:Own w10 wr.heap.size 5 1 (.slice a1 mm c1) mm ((jD H.ma f mm).map gW):=(hv.alloc _).grown hg10 (fun g hg e=>hap.out g e hg)
     clear hbr9 bx9 hown9 hg10 hso10 hv hap
     obtain⟨a2,c2,hv2,k1,k2,k3,k4⟩:=hv10.rd
     cases hv2
     have hlen:(jD H.ma f mm).length=mm:=Af _ _ _
     have hlm:((jD H.ma f mm).map gW).length=mm*1:=by rw[List.length_map,hlen,Nat.mul_one]
     have hb1:Hid (∀u∈(jD H.ma f mm).map gW,u.oneCell' = true):=Lib.hid (fun u hu=>by
      obtain⟨x,_,rfl⟩:=List.mem_map.1 hu;rfl)
     generalize (jD H.ma f mm).map gW=bs at k4 hSs hlm hb1
     clear hlen hv10
     go_wp2_with (first | (at_builtin;refine eG rfl _ _ 24 rfl w.heap.size 5 _ 1 1 Try.underlying24 byte_info rfl (by decide) v10 (k+2) (old++[.int .u8 102,.int .u8 (mm:Int)]) rfl hown10 a1 mm c1 bs rfl k3 k1 hlm k4 hb1.out (by unfold maxLen;omega) (by omega) hbr10.size ?_))
     intro v11 w11 hown11 hg11 hso11
     have hbr11:=hbr10.grown hg11 hbr10.size hown10.ge
     have bx11:=EZ hown10 hg11 (by decide) bx10
     have hown11:Own w11 w.heap.size 5 1 v11 (k+2+mm) ((jK H.ma (f+1)).map gW):=by rw[hSs.out,List.append_assoc];exact hown11
     clear hbr10 bx10 hown10 hg11 hso11 k1 k2 k3 k4 hlm hb1 hSs hszH hmm
     go_wp2
     go_roundw
     case rel=>exact⟨f+1,k+2+mm,by omega,by omega,by go_num,hbr11,bx11,hown11⟩
     case measure=>simp[intOf];omega
    ·have hfi:¬(f:Int)<(H.fi.length:Int):=by omega
     have hss:Hid (jK H.ma f=Cq H.ma):=Lib.hid (by
      unfold Cq
      rw[show H.ma.st.fs.length=H.fi.length from List.length_map _,show f=H.fi.length by omega])
     obtain⟨a,c,rfl,k1,k2,k3,k4⟩:=hown.rd
     have hlen:(jK H.ma f).length=k:=by have:=hown.1;simpa using this
     have e1:=AA Try.underlying24 Try.underlying5 c k4 9 Try.underlying9
     rw[hlen] at e1
     clear k1 k2 k3 k4 hown hlen hf hfl
     generalize jK H.ma f=ss at e1 hss
     go_wp2
     go_ret
     exact⟨by rw[←hss.out];rfl,hbr⟩
def Rm (w:World) (B:Nat) (T:TypeId) (a:Option Addr) (n:Nat):Prop:=n=0∨∃g off cur,a=some ⟨g,off,none⟩∧B≤g∧aC w g cur T∧off+n≤cur.size
theorem Rm.of {w:World} {B:Nat} {e:TypeId} {sz n c:Nat} {a:Option Addr} {xs:List Value} (h:Own w B e sz (.slice a n c) n xs):Rm w B e a (n*sz):=by
 rcases h.2 with ⟨e1,e2⟩|⟨g,off,cap,cur,e1,hB,hk,hc,hm,hs,ht⟩
 ·left;rw[e2,Nat.zero_mul]
 ·right
  simp only[Value.slice.injEq] at e1
  obtain⟨rfl,_,rfl⟩:=e1
  exact⟨g,off,cur,rfl,hB,hk,Nat.le_trans (Nat.add_le_add_left (Nat.mul_le_mul_right _ hc) _) hs⟩
theorem FH {w:World} {b:Nat} {cs cs' : Array Value} {T T' : TypeId} (h:aC w b cs T) (hk:aC w b cs' T'):cs=cs'∧T=T':=by
 unfold aC at h hk
 rw[hk] at h
 simp at h
 exact⟨h.1.symm,h.2.symm⟩
theorem Rm.ext {w w' : World} {B n:Nat} {T:TypeId} {a:Option Addr} (h:Rm w B T a n) (hb:Below w.heap.size w w'):Rm w' B T a n:=
 h.imp id fun⟨g,off,cur,e,hB,hk,hf⟩=>⟨g,off,cur,e,hB,hk.ext hb,hf⟩
theorem Rm.put {w w' : World} {B n:Nat} {T:TypeId} {a:Option Addr} (h:Rm w B T a n) {g0:Nat} {cur cur' : Array Value} {T0:TypeId} (hk:aC w g0 cur T0) (hk' : aC w' g0 cur' T0) (hsz:cur'.size=cur.size) (hg:w.grownBy w' (some g0)):Rm w' B T a n:=by
 rcases h with h|⟨g,off,c,e,hB,hb,hf⟩
 ·exact .inl h
 ·right
  by_cases he:g=g0
  ·subst he
   obtain⟨rfl,rfl⟩:=FH hb hk
   exact⟨g,off,cur',e,hB,hk',by omega⟩
  ·exact⟨g,off,c,e,hB,hb.grown hg (fun e'=>he (by have:=Option.some.inj e'; omega)),hf⟩
theorem Rm.at {w:World} {B n sz:Nat} {T:TypeId} {a:Option Addr} (h:Rm w B T a (n*sz)) (hsz:0<sz) {i:Nat} (hi:i<n):∃g off cur,a=some ⟨g,off,none⟩∧B≤g∧aC w g cur T∧off+i*sz+sz≤cur.size:=by
 rcases h with h|⟨g,off,c,e,hB,hb,hf⟩
 ·rcases Nat.mul_eq_zero.1 h with h|h<;>omega
 ·refine⟨g,off,c,e,hB,hb,?_⟩
  have:i*sz+sz≤n*sz:=by rw[←Nat.succ_mul];exact Nat.mul_le_mul_right _ hi
  omega
structure Kw (w:World) (B:Nat) (wB:World) (gk:Nat) (K:MH):Prop where
 bel:Below B wB w
 sz:B≤w.heap.size
 bx:aC w gk (bP K) 40
 fr:Rm w B 59 K.af (K.m.fs.length*13)
 dk:Rm w B 50 K.db (K.dk.blocks.length*8)
 sw:Rm w B 50 K.wb (K.sw.blocks.length*8)
 sl:Rm w B 3 K.asl (K.sl.length*1)
 sp:Own w B 65 10 (.slice K.ap K.sp.length K.cp) K.sp.length (K.sp.flatMap lS)
 ar:∀p∈K.sp,Rm w B 69 p.aa (p.ar.length*7)
 tb:∀p∈K.sp,∀(k:Nat) (h:k<8),∃a c,(jG p.ts)[k]?=some (.slice a (p.tb[k]).length c)∧(p.tb[k]).length≤maxLen∧Rm w B 67 a ((p.tb[k]).length*3)
 fi:Own w B 71 2 (.slice K.ai K.fi.length K.ci) K.fi.length (K.fi.flatMap mZ)
 bl:∀p∈K.fi,Rm w B 3 p.a (p.l.length*1)
theorem Kw.of {w wB:World} {B gk:Nat} {K:MH} (h:sG w B K) (hb:Below B wB w) (hs:B≤w.heap.size) (hk:aC w gk (bP K) 40):Kw w B wB gk K:=
 ⟨hb,hs,hk,.of h.fr,.of h.dk.b,.of h.sw.b,.of h.sl,h.sp,fun p hp => .of (h.ps p hp).1,fun p hp k hk=>by
  obtain⟨v,h1,h2⟩:=(h.ps p hp).2.own k hk
  obtain⟨a,c,rfl,k1,k2,_⟩:=h2.rd
  exact⟨a,c,h1,Nat.le_trans k1 k2,.of h2⟩,h.st.own,fun p hp=>by
  obtain⟨i,hi⟩:=List.mem_iff_getElem?.1 hp
  exact .of (h.st.each i p hi)⟩
theorem Kw.ext {w w' wB:World} {B gk:Nat} {K:MH} (h:Kw w B wB gk K) (hb:Below w.heap.size w w'):Kw w' B wB gk K:=
 ⟨h.bel.trans (hb.mono h.sz),Nat.le_trans h.sz hb.size,h.bx.ext hb,h.fr.ext hb,h.dk.ext hb,h.sw.ext hb,h.sl.ext hb,h.sp.below hb,fun p hp=>(h.ar p hp).ext hb,
  fun p hp k hk=>by
   obtain⟨a,c,h1,h0,h2⟩:=h.tb p hp k hk
   exact⟨a,c,h1,h0,h2.ext hb⟩,h.fi.below hb,fun p hp=>(h.bl p hp).ext hb⟩
theorem Kw.put {w w' wB:World} {B gk:Nat} {K:MH} (h:Kw w B wB gk K) {g0:Nat} {cur cur' : Array Value} {T0:TypeId} (hT:T0≠40∧T0≠65∧T0≠71) (hB:B≤g0) (hk:aC w g0 cur T0) (hk' : aC w' g0 cur' T0) (hsz:cur'.size=cur.size) (hg:w.grownBy w' (some g0)):Kw w' B wB gk K:=
 ⟨h.bel.grown hg h.sz (fun k hk=>by cases hk;exact hB),Nat.le_trans h.sz hg.size,dB h.bx hk (fun e=>hT.1 (by first | exact e | exact e.symm)) hg,h.fr.put hk hk' hsz hg,h.dk.put hk hk' hsz hg,h.sw.put hk hk' hsz hg,h.sl.put hk hk' hsz hg,ak h.sp hk hT.2.1 hg,fun p hp=>(h.ar p hp).put hk hk' hsz hg,
  fun p hp k hk1=>by
   obtain⟨a,c,h1,h0,h2⟩:=h.tb p hp k hk1
   exact⟨a,c,h1,h0,h2.put hk hk' hsz hg⟩,ak h.fi hk hT.2.2 hg,fun p hp=>(h.bl p hp).put hk hk' hsz hg⟩
theorem enT:67≠40∧67≠65∧67≠71:=by decide
theorem arT:69≠40∧69≠65∧69≠71:=by decide
theorem frT:59≠40∧59≠65∧59≠71:=by decide
theorem pgT:50≠40∧50≠65∧50≠71:=by decide
theorem inT:3≠40∧3≠65∧3≠71:=by decide
theorem BU {w:World} {b o:Nat} {vs:List Value} (h:bW w (some ⟨b,o,none⟩) vs) (k:Nat):bW w (some ⟨b,o+k,none⟩) (vs.drop k):=by
 intro j u hj
 rw[List.getElem?_drop] at hj
 obtain⟨b',o',e,hc⟩:=h _ _ hj
 cases e
 exact⟨b,o+k,rfl,by rw[Nat.add_assoc];exact hc⟩
theorem pQ {w:World} {b o k:Nat} {vs:List Value} {u:Value} (h:bW w (some ⟨b,o,none⟩) vs) (hu:vs[k]?=some u):w.cell? ⟨b,o+k,none⟩=some u:=by
 obtain⟨b',o',e,hc⟩:=h k u hu
 cases e
 exact hc
theorem tbl_size:(Try.prog.info? 63).map (·.size)=some 8:=by kernel_rfl
theorem sle_size:(Try.prog.info? 61).map (·.size)=some 1:=by kernel_rfl
theorem xV (cs:Array Value) (v:Value) (q:Nat) (hq:q<8) (hv:cs[q]?=some v) (hs8:cs.size=8) (hsl:∃a n c,v = .slice a n c) (w:World):(Instr.index 63 (.agg cs) (.int .i64 q)).run Try.prog w = .ok v w:=by
 have ha:¬((q:Int)<0∨(8:Int)≤q):=by omega
 have hs:∃i,Try.prog.info? 61=some i∧i.size=1:=by
  have:=sle_size
  cases h:Try.prog.info? 61 with
  | none=>rw[h] at this;simp at this
  | some i=>rw[h] at this;exact⟨i,rfl,by simpa using this⟩
 obtain⟨i,hi,hs⟩:=hs
 obtain⟨a,n,c,rfl⟩:=hsl
 simp[Instr.index,part,asIntOf,run_underlying Try.underlying63,run_underlying Try.underlying61,Go.sizeOf,typeInfo,hi,hs,ha,go_sem,hv,hq]
theorem wX (cf cs cb:Int) (l:List UInt8) (al:Option Addr) (cl:Nat) (w:World) (hr:kD w al cl l.length (l.map gW)) :
  Calls Try.prog 4 #[.agg #[.int .i64 cf,.int .i64 cs,.int .i64 cb],.slice al l.length cl] w fun r w'=>r = .returned (.bool true)∧Below w.heap.size w w':=by
 go_enter Try.func4,Try.ntmps4
 go_upto_region 1 with (fail)
 refine eO (fun W=>Code.wp _ _ _ _ W) fun w1 hb1 cx1 hs1 => ?_
 have hr1:=hr.below hb1
 clear hr
 go_wp2_with fail
 refine (Jz w1).mono ?_
 rintro r w2 ⟨rfl,hb2⟩
 have hr2:=hr1.below hb2
 have cx2:=cx1.ext hb2
 have hbr2:=ag hb1 hb2
 clear hr1 cx1 hb1 hb2 hs1
 have hcc:=cx2.cell
 go_wp2_with fail
 refine (Br cf cs cb al cl l w2 hr2).mono ?_
 rintro r w3 ⟨H,rfl,ho,hb3,hRt,hCo,_,_,_,_,_⟩
 have hbr3:=ag hbr2 hb3
 have hrd3:=ho.rd
 have hR:=Lib.hid hRt
 clear hr2 cx2 hcc hbr2 hb3 ho hRt hCo
 go_wp2_with (refine aD rfl _ _ _ rfl (bP H) rfl rfl rfl machine_size (jN _) ?_)
 intro w4 hb4 bx4
 have hrd4:=hrd3.below hb4
 have hbr4:=ag hbr3 hb4
 clear hrd3 hbr3 hb4
 generalize w3.heap.size=gm at bx4
 go_wp2_with (refine ax _ _ rfl gm 0 rfl rfl _ bx4.rd _ Try.underlying40 rfl machine_size ?_)
 refine (vg H _ hrd4 hR.out).mono ?_
 rintro r wB ⟨rfl,hb5⟩
 have bx5:=bx4.ext hb5
 have hrd5:=hrd4.below hb5
 have hbr5:=ag hbr4 hb5
 clear bx4 hrd4 hbr4 hb5
 generalize hss:Cq H.ma=ss
 have hss:=Lib.hid hss
 obtain⟨B,hB⟩:∃B,Hid (B=wB.heap.size):=⟨_,Lib.hid rfl⟩
 go_wp2_with (refine ax _ _ rfl gm 0 rfl rfl _ bx5.rd _ Try.underlying40 rfl machine_size ?_)
 refine (xL H _ hrd5 (mI hR.out)).mono ?_
 rintro r w6 ⟨K,rfl,hoK,hma,_,hb6⟩
 have hma':=Lib.hid hma
 have hKR:Hid (Rt K.ma):=Lib.hid (by rw[hma];exact hR.out)
 have hkz:=mI hKR.out
 have z1:K.m.fs.length≤1000:=hkz.fs
 have z2:K.sl.length≤1000:=hkz.sl
 have z3:K.sw.blocks.length≤1000:=hkz.swb
 have z4:K.dk.blocks.length≤1000:=hkz.dkb
 have z5:K.sp.length≤4:=by have:=hKR.out.pt.spl;rwa [Dv] at this
 have z6:K.fi.length≤5:=by
  have:=(iB hKR.out.pt.st).1
  rwa [show K.ma.st.fs.length=K.fi.length from List.length_map _] at this
 clear hma hkz
 rw[←hB.out] at hoK
 go_wp2_with (refine aD rfl _ _ _ rfl (bP K) rfl rfl rfl machine_size (jN _) ?_)
 intro w7 hb7 kx7
 have kw:Kw w7 B wB w6.heap.size K:=.of (hoK.below hb7) (by rw[hB.out];exact ag hb6 hb7) (by rw[hB.out];exact Nat.le_trans hb6.size hb7.size) kx7
 have hrK:sV w7 K:=(hoK.below hb7).rd
 clear hoK hb6 hb7 kx7
 generalize w6.heap.size=gk at kw
 go_wp2_with (refine ax _ _ rfl gk 0 rfl rfl _ kw.bx.rd _ Try.underlying40 rfl machine_size ?_)
 refine (vg K _ hrK hKR.out).mono ?_
 rintro r w8 ⟨rfl,hb8⟩
 rw[hma'.out,hss.out]
 have kw:=kw.ext hb8
 have hc:=kw.bx.cell
 unfold bP at hc
 go_upto_region 9 with (fail)
 clear hc hrK hb8
 go_loopw [41] (fun i wr => ∃n:Nat,n≤K.m.fs.length∧i = .int .i64 n∧Kw wr B wB gk K) (fun i _=>K.m.fs.length-(intOf i).toNat)
 case atStart=>exact⟨0,by omega,rfl,kw⟩
 case round=>
  clear kw
  obtain⟨n,hn,rfl,kw⟩:=hrel
  have hc:=kw.bx.cell
  unfold bP at hc
  by_cases hnl:n<K.m.fs.length
  ·have hni:(n:Int)<(K.m.fs.length:Int):=by omega
   obtain⟨g,off,cur,haf,hBg,hblk,hfit⟩:=kw.fr.at (by decide) hnl
   rw[haf] at hc
   clear haf
   go_wp2_with (refine dW rfl _ _ _ rfl g (off+n*13) #[.int .u8 0,.int .u8 0,.int .u8 0,.int .u8 0,.int .u8 0,.int .u8 0,.int .u8 0,.int .u8 0,.int .i64 0,.bool false,.bool false,.int .i64 0,.int .i64 0] rfl rfl _ _ hblk hfit (by kernel_rfl) (by simp[Value.oneCell']) ?_)
   intro w6 hb6 hg6
   have kw:=kw.put frT hBg hblk hb6 (size_putAt _ _ _) hg6
   clear hc hblk hb6 hg6 hfit
   go_wp2
   go_roundw
   case rel=>exact⟨n+1,by omega,by go_num,kw⟩
   case measure=>simp[intOf];omega
  ·have hni:¬(n:Int)<(K.m.fs.length:Int):=by omega
   clear hnl hn
   go_upto_region 14 with (fail)
   clear hc
   go_loopw [55] (fun i wr => ∃n:Nat,n≤K.dk.blocks.length∧i = .int .i64 n∧Kw wr B wB gk K) (fun i _=>K.dk.blocks.length-(intOf i).toNat)
   case atStart=>exact⟨0,by omega,rfl,kw⟩
   case round=>
    clear kw
    obtain⟨n,hn,rfl,kw⟩:=hrel
    have hc:=kw.bx.cell
    unfold bP at hc
    by_cases hnl:n<K.dk.blocks.length
    ·have hni:(n:Int)<(K.dk.blocks.length:Int):=by omega
     obtain⟨g,off,cur,haf,hBg,hblk,hfit⟩:=kw.dk.at (by decide) hnl
     rw[haf] at hc
     clear haf
     go_wp2_with (refine dW rfl _ _ _ rfl g (off+n*8) #[.int .u8 1,.int .u8 0,.int .u8 0,.int .u8 0,.int .u8 0,.int .u8 0,.int .u8 0,.int .u8 0] rfl rfl _ _ hblk hfit psize (by simp[Value.oneCell']) ?_)
     intro w6 hb6 hg6
     have kw:=kw.put pgT hBg hblk hb6 (size_putAt _ _ _) hg6
     clear hc hblk hb6 hg6 hfit
     go_wp2
     go_roundw
     case rel=>exact⟨n+1,by omega,by go_num,kw⟩
     case measure=>simp[intOf];omega
    ·have hni:¬(n:Int)<(K.dk.blocks.length:Int):=by omega
     clear hnl hn
     go_upto_region 19 with (fail)
     clear hc
     go_loopw [69] (fun i wr => ∃n:Nat,n≤K.sw.blocks.length∧i = .int .i64 n∧Kw wr B wB gk K) (fun i _=>K.sw.blocks.length-(intOf i).toNat)
     case atStart=>exact⟨0,by omega,rfl,kw⟩
     case round=>
      clear kw
      obtain⟨n,hn,rfl,kw⟩:=hrel
      have hc:=kw.bx.cell
      unfold bP at hc
      by_cases hnl:n<K.sw.blocks.length
      ·have hni:(n:Int)<(K.sw.blocks.length:Int):=by omega
       obtain⟨g,off,cur,haf,hBg,hblk,hfit⟩:=kw.sw.at (by decide) hnl
       rw[haf] at hc
       clear haf
       go_wp2_with (refine dW rfl _ _ _ rfl g (off+n*8) #[.int .u8 1,.int .u8 0,.int .u8 0,.int .u8 0,.int .u8 0,.int .u8 0,.int .u8 0,.int .u8 0] rfl rfl _ _ hblk hfit psize (by simp[Value.oneCell']) ?_)
       intro w6 hb6 hg6
       have kw:=kw.put pgT hBg hblk hb6 (size_putAt _ _ _) hg6
       clear hc hblk hb6 hg6 hfit
       go_wp2
       go_roundw
       case rel=>exact⟨n+1,by omega,by go_num,kw⟩
       case measure=>simp[intOf];omega
      ·have hni:¬(n:Int)<(K.sw.blocks.length:Int):=by omega
       clear hnl hn
       go_upto_region 24 with (fail)
       clear hc
       go_loopw [82] (fun i wr => ∃n:Nat,n≤K.sl.length∧i = .int .i64 n∧Kw wr B wB gk K) (fun i _=>K.sl.length-(intOf i).toNat)
       case atStart=>exact⟨0,by omega,rfl,kw⟩
       case round=>
        clear kw
        obtain⟨n,hn,rfl,kw⟩:=hrel
        have hc:=kw.bx.cell
        unfold bP at hc
        by_cases hnl:n<K.sl.length
        ·have hni:(n:Int)<(K.sl.length:Int):=by omega
         obtain⟨g,off,cur,haf,hBg,hblk,hfit⟩:=kw.sl.at (by decide) hnl
         rw[haf] at hc
         clear haf
         go_wp2_with (refine aA rfl _ _ _ rfl g (off+n) _ [.int .i64 9] rfl rfl rfl _ _ hblk (by simp only[List.length_cons,List.length_nil];omega) (by kernel_rfl) (fun u hu=>by cases List.mem_singleton.1 hu;rfl) ?_)
         intro w6 hb6 hg6
         have kw:=kw.put inT hBg hblk hb6 (size_putAt _ _ _) hg6
         clear hc hblk hb6 hg6 hfit
         go_wp2
         go_roundw
         case rel=>exact⟨n+1,by omega,by go_num,kw⟩
         case measure=>simp[intOf];omega
        ·have hni:¬(n:Int)<(K.sl.length:Int):=by omega
         clear hnl hn
         go_upto_region 29 with (fail)
         clear hc
         go_loopw [93] (fun i wr => ∃n:Nat,n≤K.sp.length∧i = .int .i64 n∧Kw wr B wB gk K) (fun i _=>K.sp.length-(intOf i).toNat)
         case atStart=>exact⟨0,by omega,rfl,kw⟩
         case round=>
          clear kw
          obtain⟨i,hi,rfl,kw⟩:=hrel
          have hc:=kw.bx.cell
          unfold bP at hc
          by_cases hil:i<K.sp.length
          ·have hii:(i:Int)<(K.sp.length:Int):=by omega
           obtain⟨bs,os,P,hap,hP,hrd⟩:=jY (gI kw.sp).rd i hil
           have hPm:P∈K.sp:=List.mem_of_getElem? hP
           rw[hap] at hc
           clear hap
           have hrdT:bW wr (some ⟨bs,os+i*10+2,none⟩) (jG P.ts).toList:=BU hrd 2
           go_wp2_with (refine ax _ _ rfl bs (os+i*10+2) rfl rfl _ hrdT _ Try.underlying63 rfl tbl_size ?_)
           clear hc hrd hrdT
           go_upto_region 32 with (fail)
           go_loopw [102] (fun j wr => ∃m:Nat,m≤8∧j = .int .i64 m∧Kw wr B wB gk K) (fun j _=>8-(intOf j).toNat)
           case atStart=>exact⟨0,by omega,rfl,kw⟩
           case round=>
            clear kw
            obtain⟨j,hj,rfl,kw⟩:=hrel
            by_cases hj8:j<8
            ·have hji:(j:Int)<8:=by omega
             obtain⟨ae,ce,hts,hln1,_⟩:=kw.tb P hPm j hj8
             obtain⟨ln,hln⟩:∃ln,Hid (ln=(P.tb[j]).length):=⟨_,Lib.hid rfl⟩
             rw[←hln.out] at hts hln1
             unfold maxLen at hln1
             have hix:=xV (jG P.ts) _ j hj8 hts rfl ⟨_,_,_,rfl⟩
             have hts:=Lib.hid hts
             go_upto_region 35 with (fail)
             clear hix
             go_loopw [108] (fun x wr => ∃m:Nat,m≤ln∧x = .int .i64 m∧Kw wr B wB gk K) (fun x _=>ln-(intOf x).toNat)
             case atStart=>exact⟨0,by omega,rfl,kw⟩
             case round=>
              clear kw
              obtain⟨m,hm,rfl,kw⟩:=hrel
              by_cases hml:m<ln
              ·have hmi:(m:Int)<(ln:Int):=by omega
               have hc:=kw.bx.cell
               unfold bP at hc
               obtain⟨bs2,os2,P2,hap,hP2,hrd⟩:=jY (gI kw.sp).rd i hil
               rw[hP] at hP2
               cases hP2
               rw[hap] at hc
               clear hap
               obtain⟨ae2,ce2,hts2,_,hrm⟩:=kw.tb P hPm j hj8
               rw[←hln.out] at hts2 hrm
               rw[hts.out] at hts2
               cases hts2
               have hce:wr.cell? ⟨bs2,os2+i*10+2+j,none⟩=some (.slice ae ln ce):=pQ (BU hrd 2) (by
                have h9:=hts.out
                rw[←Array.getElem?_toList] at h9
                exact h9)
               obtain⟨g,off,cur,hae,hBg,hblk,hfit⟩:=hrm.at (by decide) hml
               rw[hae] at hce
               clear hae hrd hrm
               go_wp2_with (refine dW rfl _ _ _ rfl g (off+m*3) #[.int .i64 0,.int .i64 0,.bool false] rfl rfl _ _ hblk hfit entry_size (by simp[Value.oneCell']) ?_)
               intro w6 hb6 hg6
               have kw:=kw.put enT hBg hblk hb6 (size_putAt _ _ _) hg6
               clear hc hblk hb6 hg6 hfit hce
               go_wp2
               go_roundw
               case rel=>exact⟨m+1,by omega,by go_num,kw⟩
               case measure=>simp[intOf];omega
              ·have hmi:¬(m:Int)<(ln:Int):=by omega
               clear hml hm
               go_wp2
               go_roundw
               case rel=>exact⟨j+1,by omega,by go_num,kw⟩
               case measure=>simp[intOf];omega
            ·have hji:¬(j:Int)<8:=by omega
             clear hj hj8
             have hc:=kw.bx.cell
             unfold bP at hc
             obtain⟨bs2,os2,P2,hap,hP2,hrd⟩:=jY (gI kw.sp).rd i hil
             rw[hP] at hP2
             cases hP2
             rw[hap] at hc
             clear hap
             have hca:wr.cell? ⟨bs2,os2+i*10+1,none⟩=some (.slice P.aa P.ar.length P.ac):=pQ hrd rfl
             have hal16:P.ar.length≤16:=(jO (hKR.out.pt.ar P.sp (by show P.sp∈K.sp.map PS.sp;exact List.mem_map.2 ⟨P,hPm,rfl⟩))).1
             go_upto_region 41 with (fail)
             clear hc hca hrd hji
             go_loopw [131] (fun x wr => ∃m:Nat,m≤P.ar.length∧x = .int .i64 m∧Kw wr B wB gk K) (fun x _=>P.ar.length-(intOf x).toNat)
             case atStart=>exact⟨0,by omega,rfl,kw⟩
             case round=>
              clear kw
              obtain⟨m,hm,rfl,kw⟩:=hrel
              by_cases hml:m<P.ar.length
              ·have hmi:(m:Int)<(P.ar.length:Int):=by omega
               have hc:=kw.bx.cell
               unfold bP at hc
               obtain⟨bs3,os3,P3,hap,hP3,hrd⟩:=jY (gI kw.sp).rd i hil
               rw[hP] at hP3
               cases hP3
               rw[hap] at hc
               clear hap
               have hca:wr.cell? ⟨bs3,os3+i*10+1,none⟩=some (.slice P.aa P.ar.length P.ac):=pQ hrd rfl
               obtain⟨g,off,cur,hae,hBg,hblk,hfit⟩:=(kw.ar P hPm).at (by decide) hml
               rw[hae] at hca
               clear hae hrd
               go_wp2_with (refine dW rfl _ _ _ rfl g (off+m*7) #[.int .i64 0,.int .i64 0,.bool false,.bool false,.bool false,.int .i64 0,.int .i64 0] rfl rfl _ _ hblk hfit (by kernel_rfl) (by simp[Value.oneCell']) ?_)
               intro w6 hb6 hg6
               have kw:=kw.put arT hBg hblk hb6 (size_putAt _ _ _) hg6
               clear hc hblk hb6 hg6 hfit hca
               go_wp2
               go_roundw
               case rel=>exact⟨m+1,by omega,by go_num,kw⟩
               case measure=>simp[intOf];omega
              ·have hmi:¬(m:Int)<(P.ar.length:Int):=by omega
               clear hml hm
               go_wp2
               go_roundw
               case rel=>exact⟨i+1,by omega,by go_num,kw⟩
               case measure=>simp[intOf];omega
          ·have hii:¬(i:Int)<(K.sp.length:Int):=by omega
           clear hil hi
           go_upto_region 47 with (fail)
           clear hc hii
           go_loopw [149] (fun i wr => ∃n:Nat,n≤K.fi.length∧i = .int .i64 n∧Kw wr B wB gk K) (fun i _=>K.fi.length-(intOf i).toNat)
           case atStart=>exact⟨0,by omega,rfl,kw⟩
           case round=>
            clear kw
            obtain⟨f,hf,rfl,kw⟩:=hrel
            by_cases hfl:f<K.fi.length
            ·have hfi:(f:Int)<(K.fi.length:Int):=by omega
             have hc:=kw.bx.cell
             unfold bP at hc
             obtain⟨p,hp⟩:∃p,K.fi[f]?=some p:=⟨_,List.getElem?_eq_getElem hfl⟩
             have hpg:K.fi[f]=p:=(List.getElem?_eq_some_iff.1 hp).2
             have hpm:p∈K.fi:=List.mem_of_getElem? hp
             have hp12:p.l.length≤12:=lC hKR.out.pt.st p.fi (List.mem_map.2 ⟨p,hpm,rfl⟩)
             obtain⟨bf,of,hai,hrd⟩:=fu ib (by decide) (gI kw.fi).rd f hfl
             rw[hpg] at hrd
             rw[hai] at hc
             clear hai hp
             have hpg:=Lib.hid hpg
             have hcb:wr.cell? ⟨bf,of+f*2+1,none⟩=some (.slice p.a p.l.length p.c):=pQ hrd rfl
             go_upto_region 50 with (fail)
             clear hc hcb hrd
             go_loopw [160] (fun x wr => ∃m:Nat,m≤p.l.length∧x = .int .i64 m∧Kw wr B wB gk K) (fun x _=>p.l.length-(intOf x).toNat)
             case atStart=>exact⟨0,by omega,rfl,kw⟩
             case round=>
              clear kw
              obtain⟨m,hm,rfl,kw⟩:=hrel
              by_cases hml:m<p.l.length
              ·have hmi:(m:Int)<(p.l.length:Int):=by omega
               have hc:=kw.bx.cell
               unfold bP at hc
               obtain⟨bf2,of2,hai,hrd⟩:=fu ib (by decide) (gI kw.fi).rd f hfl
               rw[hpg.out] at hrd
               rw[hai] at hc
               clear hai
               have hcb:wr.cell? ⟨bf2,of2+f*2+1,none⟩=some (.slice p.a p.l.length p.c):=pQ hrd rfl
               obtain⟨g,off,cur,hae,hBg,hblk,hfit⟩:=(kw.bl p hpm).at (by decide) hml
               rw[hae] at hcb
               clear hae hrd
               go_wp2_with (refine aA rfl _ _ _ rfl g (off+m) _ [.int .i64 (-1)] rfl rfl rfl _ _ hblk (by simp only[List.length_cons,List.length_nil];omega) (by kernel_rfl) (fun u hu=>by cases List.mem_singleton.1 hu;rfl) ?_)
               intro w6 hb6 hg6
               have kw:=kw.put inT hBg hblk hb6 (size_putAt _ _ _) hg6
               clear hc hblk hb6 hg6 hfit hcb
               go_wp2
               go_roundw
               case rel=>exact⟨m+1,by omega,by go_num,kw⟩
               case measure=>simp[intOf];omega
              ·have hmi:¬(m:Int)<(p.l.length:Int):=by omega
               clear hml hm
               go_wp2
               go_roundw
               case rel=>exact⟨f+1,by omega,by go_num,kw⟩
               case measure=>simp[intOf];omega
            ·have hfi:¬(f:Int)<(K.fi.length:Int):=by omega
             have hbB:Below wB.heap.size wB wr:=by rw[←hB.out];exact kw.bel
             have bx9:=bx5.ext hbB
             have hrd9:=hrd5.below hbB
             have hbr9:=ag hbr5 hbB
             clear kw hbB bx5 hrd5 hbr5 hf hfl
             go_wp2_with (refine ax _ _ rfl gm 0 rfl rfl _ bx9.rd _ Try.underlying40 rfl machine_size ?_)
             refine (vg H _ hrd9 hR.out).mono ?_
             rintro r w10 ⟨rfl,hb10⟩
             rw[hss.out]
             have bx10:=bx9.ext hb10
             have hrd10:=hrd9.below hb10
             have hbr10:=ag hbr9 hb10
             clear bx9 hrd9 hbr9 hb10
             go_wp2_with (refine ax _ _ rfl gm 0 rfl rfl _ bx10.rd _ Try.underlying40 rfl machine_size ?_)
             refine (jh H _ hrd10).mono ?_
             rintro r w11 ⟨rfl,hb11⟩
             rw[Ga.2 hR.out]
             have hbr11:=ag hbr10 hb11
             go_wp2
             go_ret
             exact⟨rfl,hbr11⟩
open Go.ChangeShapes Go.WideShapes Go.ChangeAt
theorem opens_cfg:pq Try.prog 23 (fun x:Int × Int × Int=>[.int .i64 x.1,.int .i64 x.2.1,.int .i64 x.2.2]) (fun _ x=>i64 x.1∧i64 x.2.1∧i64 x.2.2):=
 (xx Try.underlying23 (jV rfl 1 rfl (by kernel_rfl) (qX Try.underlying3).w (jV rfl 2 rfl (by kernel_rfl) (qX Try.underlying3).w (jV rfl 3 rfl (by kernel_rfl) (qX Try.underlying3).w (vM (by kernel_rfl)))))).of (fun x=>(x.1,x.2.1,x.2.2.1)) (fun _=>rfl) (fun _ _ h=>⟨h.1,h.2.1,h.2.2.1⟩)
theorem BJ {W:World} {base base' : Nat} {H:Type} {en:TypeId × Value→H} {spare:Nat→Bool} {held:Bool} {fuel:Nat} {v:Value} {x:DataW H × List MemPlace} (hv:Value.okWide Try.prog W .any base 23 v) (h:DataW.trod en Try.prog W base' spare held fuel 23 v.cells.toList=some x) :
  ∃f s b:Int,v = .agg #[.int .i64 f,.int .i64 s,.int .i64 b]∧i64 f∧i64 s∧i64 b:=by
 obtain⟨cs,rfl,_⟩:=okWide_struct Try.underlying23 hv
 obtain⟨⟨f,s,b⟩,hcs,g1,g2,g3⟩:=opens_cfg _ _ _ _ _ _ _ _ _ h
 refine⟨f,s,b,?_,g1,g2,g3⟩
 congr 1
 apply Array.ext'
 simpa[Value.cells] using hcs
end Go.Proofs.Ytkjobhcnlppcnaa