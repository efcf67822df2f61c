import Derived.Test.YtjkkoeijlhfneaaGreatW6
import Derived.BigRegion
set_option linter.unusedSimpArgs false
set_option linter.unusedVariables false
set_option maxHeartbeats 4000000
set_option maxRecDepth 100000
namespace Go.Proofs.YtjkkoeijlhfneaaGreat
open _root_.Go.Proofs.Tryz
open Go.RowKit Go.Maps Pw
variable {P:Program} {T T' e t:TypeId} {b f go i n off sz:Nat} {cs cs' cur:Array Value} {m:Ma} {o:Oper} {vs:List Value} {w:World} {x:Operand} {ρ:Operand → Value}
def FR (x:Int) (m:Nat):Nat:=(max (min x m) 0).toNat
theorem MR (x:Int) (m:Nat):FR x m≤m:=by unfold FR;omega
theorem IG (x:Int) (m:Nat):((FR x m:Nat):Int)=max (min x m) 0:=by unfold FR;omega
def Wt (f s b:Int) (l:List UInt8) (w:World) (r:Ending) (w' : World):Prop:=∃H:MH,r = .returned (.agg (bS H))∧uz w' w.heap.size H∧Below w.heap.size w w'∧Rt H.ma∧Co H.ma∧(∀p∈H.sp,∀n g,onA p.ar n=some g→g.fi<H.fi.length) ∧
 H.m.fs.length=FR f 40∧H.dk.blocks.length=FR b 80∧(1≤H.sp.length∧H.sp.length≤2)∧(l=[]→H.ma=qc (FR f 40) (FR s 60) (FR b 80))
theorem EB (fr sl bl:Int) (al:Option Addr) (cl:Nat) (l:List UInt8) (w:World) (hr:ui w al cl l.length (l.map mQ)) :
  Calls Tryz.prog 10 #[.int .i64 fr,.int .i64 sl,.int .i64 bl,.slice al l.length cl] w (Wt fr sl bl l w):=by
 have xf:Hid (∀a,al=some a→l.map mQ≠[]→a.block<w.heap.size):=Lib.hid fun a ha hl=>by obtain⟨u,hu⟩:∃u,(l.map mQ)[0]?=some u:=⟨_,aI (List.length_pos_iff.2 hl)⟩;obtain⟨b',o',e,hc⟩:=hr.rd 0 u hu;rw[ha] at e;cases e;exact UE hc
 go_enter func10,ntmps10;go_upto_region 2 with (fail);refine qQ (fun W=>Code.wp _ _ _ _ W) fun w1 kT bx1 mx1 gy => ?_;have qd:=hr.below kT;have mx1:aA w1 (w.heap.size+1) (ja ⟨al,cl,l,noH,none,0,[]⟩) 77:=mx1;have bx1:aA w1 w.heap.size (bS noH) 41:=bx1;clear hr;go_upto_region 3 with (fail);have e0:(if (if 40<fr then (40:Int) else fr)<0 then 0 else if 40<fr then 40 else fr)=((FR fr 40:Nat):Int):=by rw[IG];split<;>split<;>omega
 have e1:(if (if 60<sl then (60:Int) else sl)<0 then 0 else if 60<sl then 60 else sl)=((FR sl 60:Nat):Int):=by rw[IG];split<;>split<;>omega
 have e2:(if (if 80<bl then (80:Int) else bl)<0 then 0 else if 80<bl then 80 else bl)=((FR bl 80:Nat):Int):=by rw[IG];split<;>split<;>omega
 rw[e0,e1,e2];clear e0 e1 e2;generalize (if 40<fr then (40:Int) else fr)=z0;generalize (if 60<sl then (60:Int) else sl)=z1;generalize (if 80<bl then (80:Int) else bl)=z2;obtain⟨f,hf⟩:∃f,FR fr 40=f:=⟨_,rfl⟩;obtain⟨s,hs⟩:∃s,FR sl 60=s:=⟨_,rfl⟩;obtain⟨ct,qi⟩:∃ct,FR bl 80=ct:=⟨_,rfl⟩;have gU:f≤40:=by rw[←hf];exact MR _ _
 have gv:s≤60:=by rw[←hs];exact MR _ _
 have gX:ct≤80:=by rw[←qi];exact MR _ _
 have kk:=Lib.hid (And.intro hf (And.intro hs qi));rw[hf,hs,qi];clear hf hs qi;have el:w.heap.size+2≤w1.heap.size:=mx1.lt;have qL:∀W:World,(Instr.makeSlice 26 (.int .i64 (f:Int)) (.int .i64 (f:Int))).run Tryz.prog W = .ok (.slice (some ⟨W.heap.size,0,none⟩) f f) (W.alloc (.cells (madeCells (vv fr0) (f*13)) 81)):=
  JF 26 81 _ 13 40 underlying26 frame_info .i64 .i64 f (by omega) (by omega)
 have qJ:∀W:World,(Instr.makeSlice 30 (.int .i64 (s:Int)) (.int .i64 (s:Int))).run Tryz.prog W = .ok (.slice (some ⟨W.heap.size,0,none⟩) s s) (W.alloc (.cells (madeCells #[.int .i64 0] (s*1)) 3)):=
  JF 30 3 _ 1 8 underlying30 int_info .i64 .i64 s (by omega) (by omega)
 have qI:∀W:World,(Instr.makeSlice 31 (.int .i64 (s:Int)) (.int .i64 (s:Int))).run Tryz.prog W = .ok (.slice (some ⟨W.heap.size,0,none⟩) s s) (W.alloc (.cells (madeCells (fQ zPg) (s*8)) 79)):=
  JF 31 79 _ 8 8 underlying31 page_info .i64 .i64 s (by omega) (by omega)
 have qM:∀W:World,(Instr.makeSlice 31 (.int .i64 (ct:Int)) (.int .i64 (ct:Int))).run Tryz.prog W = .ok (.slice (some ⟨W.heap.size,0,none⟩) ct ct) (W.alloc (.cells (madeCells (fQ zPg) (ct*8)) 79)):=
  JF 31 79 _ 8 8 underlying31 page_info .i64 .i64 ct (by omega) (by omega)
 have ek:=Lib.hid kT;clear kT;refine ib 17 [_,_,.r 2 ((cB fun _=>True)),.r 3 ((cB fun _=>True)),_,.r 5 ((cB fun _=>True)),_,.r 7 ((cB fun _=>True)),.r 8 ((cB fun _=>True)),_,.r 10 ((cB fun _=>True)),.r 11 ((cB fun _=>True)),_,.v (.agg #[.slice none 0 0,.int .i64 (ct:Int)]),.r 14 ((cB fun _=>True)),_,_] (JM w1 w1.heap.size f s ct (vv fr0) #[.int .i64 0] (fQ zPg)) tN (fun y=>Xz y) (Qk tN rfl (Qk tN rfl (ag ?_ (ag ?_ (Qk tN rfl (ag ?_ (Qk tN rfl (ag ?_ (ag ?_ (Qk tN rfl (ag ?_ (ag ?_ (Qk tN rfl (ag ?_ (ag ?_ (Qk tN rfl (Qf tN (w.heap.size+1) 1 rfl rfl (aB) (fun _ _ _ _ d h=>zO (by decide) h)) (fun _ _ _ _ d h=>zO (by decide) h)))) (fun _ _ _ _ d h=>zO (by decide) h)))) (fun _ _ _ _ d h=>zO (by decide) h)))) (fun _ _ _ _ d h=>zO (by decide) h))) (fun _ _ _ _ d h=>zO (by decide) h)))) (fun _ _ _ _ d h=>zO (by decide) h)) (fun _ _ _ _ d h=>zO (by decide) h)) (fun _=>rfl) rfl ?_
 ·intro ρ y W L hw hn o d hb hd;have i3:=hw 32 1 rfl;have h1:y 1=_:=hd 1 rfl;refine eu (.slice (some ⟨W.heap.size,0,none⟩) f f) (ah rfl) ?_ (XC o (az _) hb) trivial;simp[execOp,go_sem,i3,h1,qL]
 ·intro ρ y W L hw hn o d hb hd;have eN:=hw 33 2 rfl;have h2:=hd 2 rfl;obtain⟨g,e2,_,_⟩:=hb.k2 (d 2 rfl);refine eu (.agg #[y 2,.int .i64 0]) (ah rfl) ?_ (XG o (d 2 rfl) hb) trivial;rw[e2] at eN ⊢;simp[execOp,go_sem,eN]
 ·intro ρ y W L hw hn o d hb hd;have i2:=hw 35 4 rfl;have h4:y 4=_:=hd 4 rfl;refine eu (.slice (some ⟨W.heap.size,0,none⟩) s s) (ah rfl) ?_ (XE o (az _) hb) trivial;simp[execOp,go_sem,i2,h4,qJ]
 ·intro ρ y W L hw hn o d hb hd;have i1:=hw 37 6 rfl;have h6:y 6=_:=hd 6 rfl;refine eu (.slice (some ⟨W.heap.size,0,none⟩) s s) (ah rfl) ?_ (Xu o (az _) hb) trivial;simp[execOp,go_sem,i1,h6,qI]
 ·intro ρ y W L hw hn o d hb hd;have eK:=hw 38 7 rfl;have h7:=hd 7 rfl;obtain⟨g,e2,_,_⟩:=hb.k7 (d 7 rfl);refine eu (.agg #[y 7,.slice none 0 0]) (ah rfl) ?_ (Xx o (d 7 rfl) hb) trivial;rw[e2] at eK ⊢;simp[execOp,go_sem,eK]
 ·intro ρ y W L hw hn o d hb hd;have i0:=hw 40 9 rfl;have h9:y 9=_:=hd 9 rfl;refine eu (.slice (some ⟨W.heap.size,0,none⟩) ct ct) (ah rfl) ?_ (Xk o (az _) hb) trivial;simp[execOp,go_sem,i0,h9,qM]
 ·intro ρ y W L hw hn o d hb hd;have eI:=hw 41 10 rfl;have xF:=hd 10 rfl;obtain⟨g,e2,_,_⟩:=hb.k10 (d 10 rfl);refine eu (.agg #[y 10,.slice none 0 0]) (ah rfl) ?_ (Xp o (d 10 rfl) hb) trivial;rw[e2] at eI ⊢;simp[execOp,go_sem,eI]
 ·intro ρ y W L hw hn o d hb hd;refine ed tN (fun _ _ h=>zO (by decide) h) hb ?_;have iZ:=hw 43 12 rfl;have qb:y 12=_:=hd 12 rfl;refine aj (.agg #[.slice none 0 0,.int .i64 (ct:Int)]) (ah rfl) (by simp[execOp,go_sem,iZ,qb]) rfl
 ·intro ρ y W L hw hn o d hb hd;have eM:=hw 34 3 rfl;have h3:=hd 3 rfl;have eL:=hw 36 5 rfl;have h5:=hd 5 rfl;have eJ:=hw 39 8 rfl;have h8:=hd 8 rfl;have eG:=hw 42 11 rfl;have iN:=hd 11 rfl;have iW:=hw 44 13 rfl;have eE:y 13=_:=hd 13 rfl;obtain⟨l2,e3⟩:=hb.k3 (d 3 rfl);obtain⟨l7,e8⟩:=hb.k8 (d 8 rfl);obtain⟨l10,e11⟩:=hb.k11 (d 11 rfl);obtain⟨g2,e2,_,_⟩:=hb.k2 l2;obtain⟨g5,e5,_,_⟩:=hb.k5 (d 5 rfl);obtain⟨g7,e7,_,_⟩:=hb.k7 l7;obtain⟨g10,e10,_,_⟩:=hb.k10 l10;refine eu (.agg #[y 2,.int .i64 0,y 5,y 7,.slice none 0 0,y 10,.slice none 0 0,.slice none 0 0,.int .i64 ct,.slice none 0 0,.slice none 0 0]) (ah rfl) ?_ (Xg (d 3 rfl) (d 5 rfl) (d 8 rfl) (d 11 rfl) hb) trivial;rw[e3,e2] at eM;rw[e5] at eL;rw[e8,e7] at eJ;rw[e11,e10] at eG;rw[e2,e5,e7,e10];simp[execOp,go_sem,eM,eL,eJ,eG,iW,eE]
 intro y W3 hH et;clear et;obtain⟨⟨l3,l5,l8,l11⟩,e14⟩:=hH.k14 rfl;obtain⟨gf,e2,bf,kf⟩:=hH.k2 rfl;obtain⟨gs,e5,bs,ks⟩:=hH.k5 rfl;obtain⟨gw,e7,bw,kw⟩:=hH.k7 rfl;obtain⟨gd,e10,bd,kd⟩:=hH.k10 rfl;have xP:gw≠gd:=Vf kw kd (by rw[←e7,←e10];exact hH.ne rfl rfl);have mx3:=mx1.ext hH.be;have bx3:=bx1.ext hH.be;have xX:=qd.below hH.be;have qX:=Lib.hid (ae ek.out hH.be);rw[e14,e2,e5,e7,e10];clear e14 e2 e5 e7 e10 hH l3 l5 l8 l11 qL qJ qI qM mx1 bx1 qd ek
 go_wp2_with (refine aD rfl _ _ _ rfl (w.heap.size+1) 1 _ [.slice (some ⟨gf,0,none⟩) f f,.int .i64 0,.slice (some ⟨gs,0,none⟩) s s,.slice (some ⟨gw,0,none⟩) s s,.slice none 0 0,.slice (some ⟨gd,0,none⟩) ct ct,.slice none 0 0,.slice none 0 0,.int .i64 ct,.slice none 0 0,.slice none 0 0] rfl rfl rfl _ _ mx3 (by show 1+11≤13;omega) (by kernel_rfl) (by simp[Value.oneCell']) ?_)
 intro w4 ei kH;have xn:aA w4 (w.heap.size+1) (ja ⟨al,cl,l,Vw gf gs gw gd f s ct,none,0,[]⟩) 77:=by
  have e:ja ⟨al,cl,l,Vw gf gs gw gd f s ct,none,0,[]⟩=bD (ja ⟨al,cl,l,noH,none,0,[]⟩) 1 [.slice (some ⟨gf,0,none⟩) f f,.int .i64 0,.slice (some ⟨gs,0,none⟩) s s,.slice (some ⟨gw,0,none⟩) s s,.slice none 0 0,.slice (some ⟨gd,0,none⟩) ct ct,.slice none 0 0,.slice none 0 0,.int .i64 ct,.slice none 0 0,.slice none 0 0]:=by unfold ja Vw noH;dsimp only;rw[jN,jN,jN,jN];kernel_rfl
  rw[e];exact ei
 have kP:eD w4 (w.heap.size+1) (w.heap.size+1) ⟨al,cl,l,Vw gf gs gw gd f s ct,none,0,[]⟩:=
  Ut (xX.keep (B:=w.heap.size+1) (fun a ha hl=>Nat.lt_succ_of_lt (xf.out a ha hl)) (qH mx3.lt) kH (az _)) (fun a ha hl=>Nat.lt_succ_of_lt (xf.out a ha hl)) (az _) xn gU gv gX (by omega) (by omega) (by omega) (by omega) xP (zf:=vv fr0) (zs:=#[.int .i64 0]) (zp:=fQ zPg) rfl rfl rfl
   (kf.grown kH (fun e=>by have:=aJ e;omega)) (ks.grown kH (fun e=>by have:=aJ e;omega)) (kw.grown kH (fun e=>by have:=aJ e;omega)) (kd.grown kH (fun e=>by have:=aJ e;omega))
 have bx4:aA w4 w.heap.size (bS noH) 41:=bx3.grown kH (fun e=>by have:=aJ e;omega);have qW:Hid (Below w.heap.size w w4):=Lib.hid (qX.out.grown kH (aY (by omega) (qH mx3.lt)) (fun k hk=>by cases hk;omega));have kM:w.heap.size+2≤w4.heap.size:=xn.lt;clear kf ks kw kd mx3 bx3 xX qX ei kH xn bf bs bw bd xP xf el;generalize hb' : w.heap.size+1=b at kP kM ⊢;have xt:=Lib.hid hb';clear hb';obtain⟨S3,g6⟩:∃S3,S3=(⟨al,cl,l,Vw gf gs gw gd f s ct,none,0,[]⟩:MW):=⟨_,rfl⟩;have g4:=Lib.hid g6;rw[←g6] at kP;have hc:=kP.blk.cell;unfold ja at hc;have ee:S3.H.m.fs.length=f:=by rw[g6];exact jN
 rw[ee] at hc;clear ee;have qN:eD w4 b b (S3.frs (Bv f 0)):=by
  have e:S3.frs (Bv f 0)=S3:=by rw[g6];rfl
  rw[e];exact kP
 have qp:MS w4 b S3 w4 (S3.frs (Bv f 0)):=(MS.refl w4 b S3).same rfl;have qG:Hid (¬mR b S3 w.heap.size):=Lib.hid (fun hk=>by have h1:=(kP.kb_own hk).1;have h2:=xt.out;omega);have xS:Hid (∀w' S',MS w4 b S3 w' S'→Below b w4 w'):=Lib.hid (fun w' S' h=>MS.to kP h (az b));clear g6 kP;have bx4':=Lib.hid bx4;clear bx4;go_upto_region 5 with (fail)
 go_loopw [55] (fun k wr => ∃q:Nat,q≤f∧k = .int .i64 q∧eD wr b b (S3.frs (Bv f q))∧MS w4 b S3 wr (S3.frs (Bv f q))) (fun k _=>f-(intOf k).toNat)
 case atStart=>exact⟨0,aW _,rfl,qN,qp⟩
 case round=>
  clear qN qp;obtain⟨q,hq,rfl,hm,hs⟩:=hrel
  by_cases hqf:q<f
  ·have gg:(q:Int)<(f:Int):=by omega
   have xl:(Bv f q).length=f:=JH hq;have hc:=hm.blk.cell;unfold ja at hc;dsimp only[MW.frs] at hc;rw[xl] at hc;obtain⟨g,off,cap,cur,hv,kR,hg,xp,qe,gR⟩:=hm.ma.fr.put eZ (by decide) q (by show q<(Bv f q).length;omega);have xx:S3.H.af=some ⟨g,off,none⟩:=(nJ hv).1;have eh:Hid (∀j u,(qz fr0)[j]?=some u→cur[off+q*13+j]?=some u):=Lib.hid fun j u hj=>by have e:(S3.frs (Bv f q)).H.m.fs[q]'(by show q<(Bv f q).length;omega)=fr0:=UJ hqf (by omega);have:=qe j u (by rw[e];exact hj);rw[hg.cell] at this;exact this
   rw[xx] at hc;have gQ:=Lib.hid gR;have i8:=Lib.hid xl;have em:=Lib.hid xx;clear hv qe gR xl xx
   go_wp2_with (refine aD rfl _ _ _ rfl g (off+q*13+11) _ [.int .i64 (-1)] rfl rfl rfl _ _ hg (by show off+q*13+11+1≤cur.size;omega) (by kernel_rfl) (fun u hu=>by cases bv.1 hu;rfl) ?_)
   intro w5 xw xq;rw[UW xp eh.out] at xw;have ho:=gQ.out _ _ xw;have hX:(S3.frs (Bv f q)).H.m.fs.set q frZ=Bv f (q+1):=Vq hqf;have hD:(Bv f (q+1)).length=(Bv f q).length:=by rw[JH (by omega),JH hq]
   rw[hX] at ho;have ku:eD w5 b b (S3.frs (Bv f (q+1))):=hm.putF hg kR xq (fs:=Bv f (q+1)) hD (by rw[hD];exact ho);have kN:MS w4 b S3 w5 (S3.frs (Bv f (q+1))):=hs.put xq (.inr (by show some g∈iA S3;unfold iA;rw[em.out];exact ik)) (fun x hx => .inl hx);clear hm hs hg xp xw xq hc ho hX hD;go_wp2;go_roundw
   case rel=>exact⟨q+1,by omega,by go_num,ku,kN⟩
   case measure=>simp[intOf];omega
  have gg:¬(q:Int)<(f:Int):=by omega
  have io:f=q:=by omega
  subst io;rw[Vx] at hm hs
  go_wp2_with fail
  refine (fD _ 3 b b _ hm (by omega)).mono ?_;rintro r w5 ⟨N,a5,c5,l5,rfl,ku,kN,hN,xB⟩;have kN:=hs.trans kN;have x5:Hid (l=[]→N=0∧l5=[]):=Lib.hid fun e=>xB (by show S3.l=[];rw[g4.out];exact e);have xD:Jf f s ct S3.H.asl ((S3.frs (List.replicate f frZ)).lst a5 c5 l5).H.fi (List.replicate ct zPg) [] ((S3.frs (List.replicate f frZ)).lst a5 c5 l5):=by rw[g4.out];exact⟨rfl,rfl,rfl,rfl,rfl,rfl,rfl,rfl,rfl,rfl⟩
  have ga:((S3.frs (List.replicate f frZ)).lst a5 c5 l5).H.fi=[]:=by rw[g4.out];rfl
  have gL:Hid (l=[]→((S3.frs (List.replicate f frZ)).lst a5 c5 l5).l=[]):=Lib.hid fun e=>(x5.out e).2;obtain⟨N,rfl⟩:=fO hN.1;have jk:N≤2:=by omega
  clear hm hs hN xB hqf gg hq;generalize (S3.frs (List.replicate f frZ)).lst a5 c5 l5=S5 at ku kN xD ga gL;go_upto_region 10 with (fail)
  go_loopw [70] (fun k wr => ∃(q:Nat) (S:MW) (bk:List Page) (qu:List (Int × Page)),q≤N∧k = .int .i64 q∧eD wr b b S∧MS w4 b S3 wr S∧Hid (Jf f s ct S3.H.asl S.H.fi bk qu S∧Fb ct bk qu (S.H.fi.map PF.fi) []∧S.H.fi.length=q∧(q=0→bk=List.replicate ct zPg∧qu=[]∧(l=[]→S.l=[])))) (fun k _=>N-(intOf k).toNat)
  case atStart=>exact⟨0,S5,_,_,aW _,rfl,ku,kN,Lib.hid ⟨xD,by rw[ga];exact Fb.start gX,by rw[ga];rfl,fun _=>⟨rfl,rfl,gL.out⟩⟩⟩
  case round=>
   clear ku kN xD ga gL;obtain⟨q,S,bk,qu,hq,rfl,hm,hs,hI⟩:=hrel;obtain⟨fi0,qT⟩:∃fi0,S.H.fi=fi0:=⟨_,rfl⟩;rw[qT] at hI;clear qT;have x6:Hid (fi0.length=q):=Lib.hid hI.out.2.2.1;have xm:Hid (fi0.length≤2):=Lib.hid (by have:=hI.out.2.2.1;omega)
   by_cases hqN:q<N
   ·have gg:(q:Int)<(N:Int):=by omega
    go_wp2_with fail
    refine (fD _ 40 b b _ hm (by omega)).mono ?_;rintro r w6 ⟨x,a6,c6,l6,rfl,kt,kg,hx,_⟩;have kg:=hs.trans kg;have xC:Hid (Jf f s ct S3.H.asl fi0 bk qu (S.lst a6 c6 l6)):=Lib.hid (hI.out.1.lst _ _ _);have gc:0≤x∧x<40:=by omega
    obtain⟨C,hC⟩:∃C:Nat,dW x=C:=⟨(dW x).toNat,by unfold dW;split<;>omega⟩;have jn:C≤5:=by unfold dW at hC;split at hC<;>omega
    have eB:=Lib.hid hC;clear hm hs hx hC;generalize S.lst a6 c6 l6=S6 at kt kg xC
    go_wp2_with (refine aF rfl _ _ _ rfl (pX ⟨x,none,[],0⟩) rfl rfl rfl file_size (qK _) ?_)
    intro w7 xv fx7;have kO:=kt.below xv;have qo:=(MS.refl w6 b S6).below xv;have xj:Hid (¬mR b S6 w6.heap.size):=Lib.hid (kt.new (az _));have kR:b≤w6.heap.size:=kt.bs;have jb:=Lib.hid kR;clear kt xv;generalize hg60:w6.heap.size=gf0 at xj kR fx7 ⊢;have iC:Hid (w6.heap.size≤gf0):=Lib.hid (Dt hg60);clear hg60;have kI:=fx7.cell;unfold pX at kI
    go_wp2_with fail
    refine (yP x _ (by omega)).mono ?_;rintro r w8 ⟨rfl,rfl⟩;rw[eB.out];clear kI;have x1:∀p∈fi0,True:=fun _ _=>trivial;clear x1;go_upto_region 13 with (fail)
    go_loopw [78] (fun k wr => ∃(i:Nat) (S:MW) (bk:List Page) (qu:List (Int × Page)) (xs:List Int) (xa:Option Addr) (xc:Nat),i≤C∧k = .int .i64 i∧eD wr b b S∧MS w6 b S6 wr S∧Hid (¬mR b S gf0)∧Hid (Jf f s ct S3.H.asl fi0 bk qu S∧Fb ct bk qu (fi0.map PF.fi) xs∧xs.length=i)∧aA wr gf0 (pX ⟨x,xa,xs,xc⟩) 67 ∧
     Hid (Own wr b 3 1 (ng ⟨x,xa,xs,xc⟩) xs.length (xs.map gB)∧∀g,oB xa=some g→w6.heap.size≤g∧oB S3.H.asl≠some g∧∀p∈fi0,oB p.a≠some g)) (fun k _=>C-(intOf k).toNat)
    case atStart=>exact⟨0,S6,bk,qu,[],none,0,aW _,rfl,kO,qo,xj,Lib.hid ⟨xC.out,hI.out.2.1,rfl⟩,fx7,Lib.hid ⟨Own.nil _ _ _ _,fun g hg=>(by cases hg)⟩⟩
    case round=>
     clear kO fx7 hI xC qo xj;obtain⟨i,S,bk,qu,xs,xa,xc,hi,rfl,hm,hs,k6,hI,fx,ho⟩:=hrel
     by_cases hiC:i<C
     ·have iB:(i:Int)<(C:Int):=by omega
      go_upto_region 16 with (fail);have x7:∀g,(ng ⟨x,xa,xs,xc⟩).ownBlock=some g→¬mR b S g:=fun g hg=>by obtain⟨cs,hk⟩:=kW ho.out.1 g hg;refine hm.kb_int hk ?_;rw[hI.out.1.asl];exact (ho.out.2 g (by unfold ng at hg;rw[lM] at hg;exact hg)).2.1
      have gO:=Lib.hid x7;clear x7
      go_cut [14] (fun s14 wx => ∃(n:Nat) (a:Option Addr) (c:Nat) (l:List UInt8),s14 = .int .i64 n∧n<256∧eD wx b b (S.lst a c l)∧MS wr b S wx (S.lst a c l)∧aA wx gf0 (pX ⟨x,xa,xs,xc⟩) 67∧Hid (Own wx b 3 1 (ng ⟨x,xa,xs,xc⟩) xs.length (xs.map gB)))
      case first=>
       go_wp2_with fail
       all_goals
        refine (fD S _ b b _ hm (by omega)).mono ?_;rintro r w8 ⟨n,a8,c8,l8,rfl,hG,hA,hn,_⟩;obtain⟨n,rfl⟩:=fO hn.1;have xk:(n:Int)<256:=hn.2.1;have fx8:=hA.blkN fx k6.out;have ki:Hid (Own w8 b 3 1 (ng ⟨x,xa,xs,xc⟩) xs.length (xs.map gB)):=Lib.hid (hA.ownN ho.out.1 gO.out);clear hm fx hn;go_wp2;go_meet
        case rel=>exact⟨n,a8,c8,l8,rfl,by omega,hG,hA,fx8,ki⟩
      case rest=>
      obtain⟨n,a8,c8,l8,rfl,xk,hG,hA,fx8,qv⟩:=hcut;have ki:Hid (Own wc b 3 1 (ng ⟨x,xa,xs,xc⟩) xs.length (xs.map gB)∧∀g,oB xa=some g→w6.heap.size≤g∧oB S3.H.asl≠some g∧∀p∈fi0,oB p.a≠some g):=Lib.hid ⟨qv.out,ho.out.2⟩;clear qv;have gk:Hid (Jf f s ct S3.H.asl fi0 bk qu (S.lst a8 c8 l8)∧Fb ct bk qu (fi0.map PF.fi) xs∧xs.length=i):=Lib.hid ⟨hI.out.1.lst _ _ _,hI.out.2⟩;have hA:=hs.trans hA;have k0:Hid (¬mR b (S.lst a8 c8 l8) gf0):=k6;have kZ:Hid (∀g,(ng ⟨x,xa,xs,xc⟩).ownBlock=some g→¬mR b (S.lst a8 c8 l8) g):=gO;clear hm hs hI fx ho k6 gO;generalize S.lst a8 c8 l8=S8 at hG hA gk k0 kZ;go_upto_region 17 with (fail)
      go_cut [109] (fun s109 wx => ∃(β:Bool) (a:Option Addr) (c:Nat) (l:List UInt8),s109 = .bool β∧eD wx b b (S8.lst a c l)∧MS wc b S8 wx (S8.lst a c l)∧aA wx gf0 (pX ⟨x,xa,xs,xc⟩) 67∧Hid (Own wx b 3 1 (ng ⟨x,xa,xs,xc⟩) xs.length (xs.map gB))∧Hid (β=true→n<ct∧¬(n:Int)∈(fi0.map PF.fi).flatMap Fi.b++xs))
      case first=>
       have eb:gf0<wc.heap.size:=fx8.lt;have jj:S8.H.fi.length≤5:=by have e1:=gk.out.1.fi;have e2:=xm.out;rw[e1];omega
       by_cases hnc:n<ct
       ·have qg:(n:Int)<(ct:Int):=by omega
        cases hu:gW (cZ (S8.H.fi++[(⟨x,xa,xs,xc⟩:PF)]) 0) (n:Int)
        case' true=>
         refine ib 25 [_,_,_,_,.r 4 ((cB fun _=>True)),_,_,_,_,_,.v (.slice S8.H.ai S8.H.fi.length S8.H.ci),.r 11 ((cB fun _=>True)),.v (.agg (pX ⟨x,xa,xs,xc⟩)),.r 13 ((cB fun _=>True)),.r 14 ((cB fun _=>True)),.r 15 ((cB fun _=>True)),_,.v (.bool true),_,_,_,_,_,_,.v (.bool false)] (FP S8 b b wc gf0 ⟨x,xa,xs,xc⟩) dN (fun y=>VB hG fx8 ki.out.1 y) (Qk dN rfl (Qk dN rfl (Qb dN (.bool true) (by simp[go_sem,qg]) rfl rfl rfl rfl rfl (Qk dN rfl (ag ?u1_1 (Qk dN rfl (Qk dN rfl (Qf dN b 1 rfl rfl (Qf dN b 8 rfl rfl (Qf dN b 8 rfl rfl (ag ?u1_2 (ag ?u1_3 (ag ?u1_4 (ag ?u1_5 (ag ?u1_6 (ag ?u1_7 (Qk dN rfl (ag ?u1_8 (Qk dN rfl (Qk dN rfl (Qk dN rfl (Qk dN rfl (Qk dN rfl (Qk dN rfl (Qk dN rfl (aB) (fun _ _ _ _ d h=>eP (by decide) h)) (fun _ _ _ _ d h=>eP (by decide) h)) (fun _ _ _ _ d h=>eP (by decide) h)) (fun _ _ _ _ d h=>eP (by decide) h)) (fun _ _ _ _ d h=>eP (by decide) h)) (fun _ _ _ _ d h=>eP (by decide) h)) (fun _ _ _ _ d h=>eP (by decide) h))) (fun _ _ _ _ d h=>eP (by decide) h)))))))) (fun _ _ _ _ d h=>eP (by decide) h)) (fun _ _ _ _ d h=>eP (by decide) h)) (fun _ _ _ _ d h=>eP (by decide) h)) (fun _ _ _ _ d h=>eP (by decide) h)) (fun _ _ _ _ d h=>eP (by decide) h))) (fun _ _ _ _ d h=>eP (by decide) h)) (fun _ _ _ _ d h=>eP (by decide) h)) (fun _ _ _ _ d h=>eP (by decide) h)) (fun _ _ _ _ d h=>eP (by decide) h)) (fun _=>rfl) rfl ?u1_9
        case' false=>
         refine ib 25 [_,_,_,_,.r 4 ((cB fun _=>True)),_,_,_,_,_,.v (.slice S8.H.ai S8.H.fi.length S8.H.ci),.r 11 ((cB fun _=>True)),.v (.agg (pX ⟨x,xa,xs,xc⟩)),.r 13 ((cB fun _=>True)),.r 14 ((cB fun _=>True)),.r 15 ((cB fun _=>True)),_,.v (.bool false),_,_,_,_,.r 22 ((cB fun v => ∃x:Int,v = .int .i64 x)),.r 23 ((cB fun v => ∃u,v = .bool u)),.r 24 ((cB fun v => ∃u,v = .bool u))] (FP S8 b b wc gf0 ⟨x,xa,xs,xc⟩) dN (fun y=>VB hG fx8 ki.out.1 y) (Qk dN rfl (Qk dN rfl (Qb dN (.bool true) (by simp[go_sem,qg]) rfl rfl rfl rfl rfl (Qk dN rfl (ag ?v1_1 (Qk dN rfl (Qk dN rfl (Qf dN b 1 rfl rfl (Qf dN b 8 rfl rfl (Qf dN b 8 rfl rfl (ag ?v1_2 (ag ?v1_3 (ag ?v1_4 (ag ?v1_5 (ag ?v1_6 (ag ?v1_7 (Qk dN rfl (ag ?v1_8 (Qk dN rfl (Qk dN rfl (Qk dN rfl (Qk dN rfl (ag ?v1_9 (ag ?v1_10 (ag ?v1_11 (aB)))) (fun _ _ _ _ d h=>eP (by decide) h)) (fun _ _ _ _ d h=>eP (by decide) h)) (fun _ _ _ _ d h=>eP (by decide) h)) (fun _ _ _ _ d h=>eP (by decide) h))) (fun _ _ _ _ d h=>eP (by decide) h)))))))) (fun _ _ _ _ d h=>eP (by decide) h)) (fun _ _ _ _ d h=>eP (by decide) h)) (fun _ _ _ _ d h=>eP (by decide) h)) (fun _ _ _ _ d h=>eP (by decide) h)) (fun _ _ _ _ d h=>eP (by decide) h))) (fun _ _ _ _ d h=>eP (by decide) h)) (fun _ _ _ _ d h=>eP (by decide) h)) (fun _ _ _ _ d h=>eP (by decide) h)) (fun _ _ _ _ d h=>eP (by decide) h)) (fun _=>rfl) rfl ?v1_12
        case u1_1|v1_1=>
         intro ρ y W L hw hn o d hb hd;refine eu (.slice (some ⟨W.heap.size,0,none⟩) 0 0) (aT 3 88 true true rfl rfl ((hw 88 3 rfl).trans (hd 3 rfl))) ?_ (Xm hb) trivial;simp[execOp,go_sem]
        case u1_2|v1_2=>
         intro ρ y W L hw hn o d hb hd;refine ed dN (fun _ _ h=>eP (by decide) h) hb ?_;have iT:=hw 94 9 rfl;have h9:y 9=_:=hd 9 rfl;obtain⟨⟨a0,c0,l0,m1,m2⟩,m3⟩:=hb;refine aj (.slice S8.H.ai S8.H.fi.length S8.H.ci) (aT 3 88 true true rfl rfl ((hw 88 3 rfl).trans (hd 3 rfl))) (by simp[execOp,go_sem,iT,h9,m1.blk.cell,ja,MW.lst]) rfl
        case u1_3|v1_3=>
         intro ρ y W L hw hn o d hb hd;have iU:=hw 89 4 rfl;have h4:=hd 4 rfl;have iS:=hw 95 10 rfl;have xF:y 10=_:=hd 10 rfl;obtain⟨g,iD,gj⟩:=hb.2.2.2.1 (d 4 rfl) o;have gq:=hb.2.2.2.2.2.2.2.1;obtain⟨a0,c0,l0,m1,m2⟩:=hb.1;have m3:Mh W S8.H.ai S8.H.ci S8.H.fi:=m1.ma.rd.st;refine jJ (aT 3 88 true true rfl rfl ((hw 88 3 rfl).trans (hd 3 rfl))) (Kq _ _ _ rfl wc.heap.size 67 _ 2 32 underlying35 file_info rfl (by decide) g (iU.trans iD) gj S8.H.ai S8.H.fi.length S8.H.ci (S8.H.fi.flatMap qF) (iS.trans xF) m3.nl m3.le (by rw[Pw.flat_len qF 2 jF]) m3.rd (by unfold maxLen;omega) (by omega) gq) (fun v W1 h=>Wx hb h.1 h.2) (fun _ _ _=>trivial)
        case u1_4|v1_4=>
         intro ρ y W L hw hn o d hb hd;refine ed dN (fun _ _ h=>eP (by decide) h) hb ?_;have xG:ρ (.tmp 11) = .pointer (some ⟨gf0,0,none⟩):=(hn (.tmp 11) rfl).trans rfl;have m3:=hb.2.1;refine aj (.agg (pX ⟨x,xa,xs,xc⟩)) (aT 3 88 true true rfl rfl ((hw 88 3 rfl).trans (hd 3 rfl))) (bn rfl xG m3 underlying67 rfl file_size) rfl
        case u1_5|v1_5=>
         intro ρ y W L hw hn o d hb hd;have iQ:=hw 97 12 rfl;have qb:y 12=_:=hd 12 rfl;have gq:=hb.2.2.2.2.2.2.2.1;refine eu (.slice (some ⟨W.heap.size,0,none⟩) 1 1) (aT 3 88 true true rfl rfl ((hw 88 3 rfl).trans (hd 3 rfl))) ?_ (VL (W':=W.alloc (.cells (pX ⟨x,xa,xs,xc⟩) 67)) hb ((Below.refl _ _).alloc (az _) _) (UG gq _)) trivial;simp[execOp,go_sem,iQ.trans qb,pX]
        case u1_6|v1_6=>
         intro ρ y W L hw hn o d hb hd;have iR:=hw 96 11 rfl;have iN:=hd 11 rfl;have iP:=hw 98 13 rfl;have eE:=hd 13 rfl;have gq:=hb.2.2.2.2.2.2.2.1;have hv:=hb.2.2.2.2.1 (d 11 rfl) o;obtain⟨a,e,gc,k1,k2,k3,k4⟩:=(hb.2.2.2.2.2.1 (d 13 rfl) o).rd;refine jJ (aT 3 88 true true rfl rfl ((hw 88 3 rfl).trans (hd 3 rfl))) (mM _ _ _ rfl wc.heap.size 67 _ 2 32 underlying35 file_info rfl (by decide) (y 11) S8.H.fi.length _ iR hv a 1 e (qF ⟨x,xa,xs,xc⟩) (iP.trans gc) k3 k1 rfl k4 (bV (qK _)) (by unfold maxLen;omega) (by omega) gq) (fun v W1 h=>Wl hG eb hb (d 11 rfl) o h.2.1 h.1) (fun _ _ _=>trivial)
        case u1_7|v1_7=>
         intro ρ y W L hw hn o d hb hd;have eF:=hw 99 14 rfl;have jp:=hd 14 rfl;obtain⟨a,c,e14,_⟩:=NS hb (d 14 rfl);refine eu (.agg #[y 14,.int .i64 0]) (aT 3 88 true true rfl rfl ((hw 88 3 rfl).trans (hd 3 rfl))) ?_ (VT (d 14 rfl) hb) trivial;rw[e14] at eF ⊢;simp[execOp,go_sem,eF]
        case u1_8|v1_8=>
         intro ρ y W L hw hn o d hb hd;have q9:=hw 100 15 rfl;have jo:=hd 15 rfl;have ij:=hw 101 16 rfl;have iM:y 16=_:=hd 16 rfl;have EF:∀f,ρ (.func f) = .func (.func f) #[] #[]:=fun f=>hn (.func f) trivial;obtain⟨l14,e15⟩:=hb.2.2.2.2.2.2.2.2 (d 15 rfl);obtain⟨a,c,e14,iG⟩:=NS hb l14;rw[e15,e14] at q9;refine ig _ _ (aT 3 88 true true rfl rfl ((hw 88 3 rfl).trans (hd 3 rfl))) (aO rfl (EF _) func32 (by kernel_rfl) (by kernel_rfl) (by simp only[bH,bA,bB,q9,ij,iM,EF];rfl)) ?_;have xd:=Bz (S8.H.fi++[⟨x,xa,xs,xc⟩]) 0 n a c W iG;unfold Ql at xd;rw[hu] at xd;refine xd.mono ?_;rintro r w1 ⟨qd,kT⟩;exact⟨_,qd,eP (by decide) (dN _ _ _ _ kT hb),rfl⟩
        case u1_9=>
         intro y W9 hy hW;clear hW;have xu:=hy.1;obtain⟨a9,c9,l9,hR,hJ⟩:=xu;have fx9:=hy.2.1;have kh:=Lib.hid hy.2.2.1;clear hy hG hA fx8 ki;go_wp2;go_meet
         case rel=>exact⟨false,a9,c9,l9,rfl,hR,hJ,fx9,kh,Lib.hid fun e=>(by cases e)⟩
        case v1_9=>
         intro ρ y W L hw hn o d hb hd;have ih:=hw 106 21 rfl;have iK:y 21=_:=hd 21 rfl;have EC:∀v,ρ (.const v)=v:=fun v=>hn (.const v) trivial;have EF:∀f,ρ (.func f) = .func (.func f) #[] #[]:=fun f=>hn (.func f) trivial;refine ig _ _ (aT 20 105 true true rfl rfl ((hw 105 20 rfl).trans (hd 20 rfl))) (aO rfl (EF _) func30 (by kernel_rfl) (by kernel_rfl) (by simp only[bH,bA,bB,ih,iK,EC,EF];rfl)) ?_;exact Sd (by decide) hG k0.out kZ.out 3 (by omega) hb fun x _ _ _=>⟨x,rfl⟩
        case v1_10=>
         intro ρ y W L hw hn o d hb hd;refine ed dN (fun _ _ h=>eP (by decide) h) hb ?_;have ie:=hw 107 22 rfl;have iJ:=hd 22 rfl;obtain⟨x,hx⟩:=iJ;refine aj _ (aT 20 105 true true rfl rfl ((hw 105 20 rfl).trans (hd 20 rfl))) (pU rfl (ie.trans hx) (hn (.const _) trivial) (by simp[go_sem];rfl)) ⟨_,rfl⟩
        case v1_11=>
         intro ρ y W L hw hn o d hb hd;refine ed dN (fun _ _ h=>eP (by decide) h) hb ?_;have ii:=hw 105 20 rfl;have iL:y 20=_:=hd 20 rfl;have id:=hw 108 23 rfl;have iI:=hd 23 rfl;obtain⟨u,il⟩:=iI;refine aj (.bool u) (ah rfl) (qh rfl (ii.trans iL) (by simpa using id.trans il)) ⟨_,rfl⟩
        case v1_12=>
         intro y W9 hy hW;have i6:((cB fun v => ∃x:Int,v = .int .i64 x)).r (y 22) W9:=hW 22 (by decide);have i5:((cB fun v => ∃u,v = .bool u)).r (y 23) W9:=hW 23 (by decide);have xJ:((cB fun v => ∃u,v = .bool u)).r (y 24) W9:=hW 24 (by decide);clear hW;have xu:=hy.1;obtain⟨a9,c9,l9,hR,hJ⟩:=xu;have fx9:=hy.2.1;have kh:=Lib.hid hy.2.2.1;obtain⟨β,hβ⟩:=xJ;rw[hβ];clear hy hG hA fx8 ki hβ;have iw:Hid (n<ct∧¬(n:Int)∈(fi0.map PF.fi).flatMap Fi.b++xs):=Lib.hid ⟨hnc,fun x2=>by
          have e1:=gk.out.1.fi;unfold gW at hu;rw[AB,e1] at hu;have h2:¬(n:Int)∈wJ (fi0++[(⟨x,xa,xs,xc⟩:PF)]):=of_decide_eq_false hu;refine h2 ?_;unfold wJ;rw[fu];rcases fV.1 x2 with h3|h3
          ·rw[CX] at h3;exact oV _ h3
          ·exact uB _ (by simpa using h3)⟩
         go_wp2;go_meet
         case rel=>exact⟨β,a9,c9,l9,rfl,hR,hJ,fx9,kh,Lib.hid fun _=>iw.out⟩
       have qg:¬(n:Int)<(ct:Int):=by omega
       refine aK 25 [_,_,_,_,_,_,_,_,_,_,_,_,_,_,_,_,_,_,_,_,_,_,_,_,.v (.bool false)] (Gk rfl (Gk rfl (Gb (.bool false) (by simp[go_sem,qg]) rfl rfl rfl rfl rfl (Gk rfl (Gk rfl (Gk rfl (Gk rfl (Gk rfl (Gk rfl (Gk rfl (Gk rfl (Gk rfl (Gk rfl (Gk rfl (Gk rfl (Gk rfl (Gk rfl (Gk rfl (Gk rfl (Gk rfl (Gk rfl (Gk rfl (Gk rfl (Gk rfl (Gk rfl (aB)))))))))))))))))))))))))) (fun _=>rfl) rfl ?_;intro y W9 hy _;have hR:=hG.below hy;have hJ:=(MS.refl wc b S8).below hy;have fx9:=fx8.ext hy;have kh:=Lib.hid (ki.out.1.below hy);clear hy hG fx8 ki;go_wp2;go_meet
       case rel=>exact⟨false,S8.al,S8.cl,S8.l,rfl,hR,hJ,fx9,kh,Lib.hid fun e=>(by cases e)⟩
      case rest=>
      obtain⟨β,a9,c9,l9,rfl,hR,hJ,fx9,kh,hβ⟩:=hcut;have kU:=Lib.hid ki.out.2;have hJ:=hA.trans hJ;have kB:Hid (Jf f s ct S3.H.asl fi0 bk qu (S8.lst a9 c9 l9)∧Fb ct bk qu (fi0.map PF.fi) xs∧xs.length=i):=Lib.hid ⟨gk.out.1.lst _ _ _,gk.out.2⟩;have ko:Hid (¬mR b (S8.lst a9 c9 l9) gf0):=k0;have kF:Hid (∀g,(ng ⟨x,xa,xs,xc⟩).ownBlock=some g→¬mR b (S8.lst a9 c9 l9) g):=kZ;clear hG hA gk fx8 ki k0 kZ;generalize S8.lst a9 c9 l9=S9 at hR hJ kB ko kF;go_upto_if 109 with (fail);have eA:Hid (xs.length=i):=Lib.hid kB.out.2.2;have xE:Hid (xs.length≤C):=Lib.hid (by have:=kB.out.2.2;omega)
      go_cut [13] (fun s13 wx => ∃(v:Int) (S:MW) (bk:List Page) (qu:List (Int × Page)),s13 = .int .i64 v∧eD wx b b S∧MS w6 b S6 wx S∧Hid (¬mR b S gf0)∧Hid (Jf f s ct S3.H.asl fi0 bk qu S∧Fb ct bk qu (fi0.map PF.fi) (xs++[v]))∧aA wx gf0 (pX ⟨x,xa,xs,xc⟩) 67∧Hid (Own wx b 3 1 (ng ⟨x,xa,xs,xc⟩) xs.length (xs.map gB)))
      case first=>
       cases β with
       | false=>
        go_wp2;go_meet
        case rel=>exact⟨-1,S9,bk,qu,rfl,hR,hJ,ko,Lib.hid ⟨kB.out.1,kB.out.2.1.none⟩,fx9,kh⟩
       | true=>
        have gF:=Lib.hid (hβ.out rfl);clear hβ
        go_wp2_with fail
        refine (xI S9 b b _ hR).mono ?_;rintro r w10 ⟨P,a10,c10,l10,rfl,ke,hK⟩;have fx10:=hK.blkN fx9 ko.out;have qB:Hid (Own w10 b 3 1 (ng ⟨x,xa,xs,xc⟩) xs.length (xs.map gB)):=Lib.hid (hK.ownN kh.out kF.out);have hK:=hJ.trans hK;have hY:Hid (Jf f s ct S3.H.asl fi0 bk qu (S9.lst a10 c10 l10)∧Fb ct bk qu (fi0.map PF.fi) xs∧xs.length=i):=Lib.hid ⟨kB.out.1.lst _ _ _,kB.out.2⟩;have kQ:Hid (¬mR b (S9.lst a10 c10 l10) gf0):=ko;have gN:Hid (∀g,(ng ⟨x,xa,xs,xc⟩).ownBlock=some g→¬mR b (S9.lst a10 c10 l10) g):=kF;clear hR hJ kB fx9 kh ko kF;generalize S9.lst a10 c10 l10=S10 at ke hK hY kQ gN
        go_wp2_with (refine aF rfl _ _ _ rfl (fQ P) rfl rfl rfl psize (fT P) ?_)
        intro w11 kK px11;have kn:=ke.below kK;have kb:=hK.below kK;have fx11:=fx10.ext kK;have qA:Hid (Own w11 b 3 1 (ng ⟨x,xa,xs,xc⟩) xs.length (xs.map gB)):=Lib.hid (qB.out.below kK);have xi:=Lib.hid (ke.new (az _));have gh:=Lib.hid hK.size;have iu:b≤w10.heap.size:=ke.bs;have is:Hid (w10.heap.size≠gf0):=Lib.hid (fun e=>by have:=fx10.lt;omega);clear ke hK fx10 qB kK;generalize w10.heap.size=gp at *
        go_upto_region 21 with (fail)
        go_loopw [113] (fun j wr => ∃k:Nat,k≤8∧j = .int .i64 k∧eD wr b b S10∧MS w6 b S6 wr S10∧aA wr gp (fQ (iX P (x-(i:Int)*8) k)) 79∧aA wr gf0 (pX ⟨x,xa,xs,xc⟩) 67∧Hid (Own wr b 3 1 (ng ⟨x,xa,xs,xc⟩) xs.length (xs.map gB))) (fun j _=>8-(intOf j).toNat)
        case atStart=>exact⟨0,by omega,rfl,kn,kb,by rw[show iX P (x-(i:Int)*8) 0=P from by ext j hj;simp[iX]];exact px11,fx11,qA⟩
        case round=>
         clear kn kb px11 fx11 qA;obtain⟨k,hk,rfl,hm,hs,px,fx,ho⟩:=hrel
         by_cases hk8:k<8
         ·have iy:(k:Int)<8:=by omega
          have kI:=fx.cell;unfold pX at kI;have jg:IntKind.i64.wrap (8*(i:Int))=8*(i:Int):=bO _ (by omega);have jf:IntKind.i64.wrap (8*(i:Int)+(k:Int))=8*(i:Int)+(k:Int):=bO _ (by omega)
          by_cases hge:x≤8*(i:Int)+k
          ·have hX:Hid ((fQ (iX P (x-(i:Int)*8) k)).setIfInBounds k (.int .u8 0)=fQ (iX P (x-(i:Int)*8) (k+1))):=Lib.hid (by rw[←BI P _ k hk8 (by omega)];exact Dg _ k hk8 0);generalize hT:iX P (x-(i:Int)*8) k=T at px hX;clear hT
           go_wp2_with (refine aD rfl _ _ _ rfl gp k _ [.int .u8 0] rfl rfl rfl _ _ px (by show k+1≤8;omega) (by kernel_rfl) (fun u hu=>by cases bv.1 hu;rfl) ?_)
           intro w12 px12 hU;rw[Pw.putAt_one,hX.out] at px12;have x4:=hm.locT px (by decide) xi.out iu hU;have xW:=hs.loc hU gh.out;have fx12:=fx.grown hU (fun e=>is.out (by have:=aJ e;omega));have x0:Hid (Own w12 b 3 1 (ng ⟨x,xa,xs,xc⟩) xs.length (xs.map gB)):=Lib.hid (ak ho.out px (by decide) hU);clear hm hs px hU kI fx ho;go_wp2;go_roundw
           case rel=>exact⟨k+1,by omega,by go_num,x4,xW,px12,fx12,x0⟩
           case measure=>simp[intOf];omega
          have hX:iX P (x-(i:Int)*8) k=iX P (x-(i:Int)*8) (k+1):=by
           ext j hj
           simp only[iX,rU]
           by_cases e:x-(i:Int)*8≤(j:Int)
           ·rw[if_neg (by omega),if_neg (by omega)]
           ·rw[if_neg (by omega),if_neg (by omega)]
          rw[hX] at px;clear hX;go_wp2;go_roundw
          case rel=>exact⟨k+1,by omega,by go_num,hm,hs,px,fx,ho⟩
          case measure=>simp[intOf];omega
         have iy:¬(k:Int)<8:=by omega
         rw[Bu _ _ k (by omega)] at px;generalize fJ P (x-(i:Int)*8)=PC at px;have qE:n<ct:=gF.out.1;have xr:S10.H.dk.blocks.length=ct:=by rw[hY.out.1.dk];exact hY.out.2.1.cl.1
         obtain⟨g,off,cap,cur,hv,kR,hg,xp,qe,gR⟩:=hm.ma.dk.b.put kC (by decide) n (by rw[xr];exact qE);have gV:S10.H.db=some ⟨g,off,none⟩:=(nJ hv).1;have gQ:=Lib.hid gR;have eg:=Lib.hid xr;have qU:=Lib.hid gV;have ir:Hid (gp≠g):=Lib.hid (fun e=>xi.out (by rw[e];exact .inr (by simp only[iA,gV];simp[oB,Value.ownBlock])));have iF:Hid (gf0≠g):=Lib.hid (fun e=>kQ.out (by rw[e];exact .inr (by simp only[iA,gV];simp[oB,Value.ownBlock])));have iz:Hid (mR b S10 g):=Lib.hid (.inr (by simp only[iA,gV];simp[oB,Value.ownBlock]));clear hv qe gR xr gV;go_upto_region 26 with (fail);refine aK 9 [_,_,_,_,_,_,_,_,_] (Gk rfl (Gk rfl (Gf b 1 rfl rfl (Gf b 6 rfl rfl (Gf b 6 rfl rfl (Gl hm.blk (V:=.slice (some ⟨g,off,none⟩) ct S10.H.cdb) (by simp[ja,qU.out,eg.out]) rfl rfl rfl rfl (Gk rfl (Gr (.agg #[.int .u8 PC[0].toNat,.int .u8 PC[1].toNat,.int .u8 PC[2].toNat,.int .u8 PC[3].toNat,.int .u8 PC[4].toNat,.int .u8 PC[5].toNat,.int .u8 PC[6].toNat,.int .u8 PC[7].toNat]) (fun ρ y W hb hZ=>(bF rfl (aC rfl hZ) (bL (px.ext hb) 0 8) underlying79 rfl (by kernel_rfl))) rfl rfl (Gr (.pointer (some ⟨g,off+n*8,none⟩)) (fun ρ y W hb hZ=>(bG rfl (aC rfl hZ) (aC rfl hZ) qE underlying31 psize)) rfl rfl (aB)))))))))) (fun _=>rfl) rfl ?_;intro y W13 hL _;have qO:=hm.below hL;have qr:=hs.below hL;have px13:=px.ext hL;have fx13:=fx.ext hL;have qy:=Lib.hid (ho.out.below hL);have k9:=hg.ext hL;clear hm hs px fx ho hg hL
         go_wp2_with (refine aD rfl _ _ _ rfl g (off+n*8) _ (BC PC) rfl rfl rfl _ _ k9 (by show off+n*8+8≤cur.size;omega) (by kernel_rfl) (bV (fT PC)) ?_)
         intro w14 qY kp;have xY:=gQ.out _ PC qY;have gK:eD w14 b b { S10 with H:={ S10.H with dk:=⟨S10.H.dk.blocks.set n PC,S10.H.dk.queue⟩ } }:=qO.putD k9 kR (by rw[qU.out];rfl) kp (l:=S10.H.dk.blocks.set n PC) (by simp) (by simpa using xY);have gx:MS w6 b S6 w14 { S10 with H:={ S10.H with dk:=⟨S10.H.dk.blocks.set n PC,S10.H.dk.queue⟩ } }:=qr.put kp iz.out (fun x hx => .inl hx);have px14:=px13.grown kp (fun e=>ir.out (aJ e).symm);have fx14:=fx13.grown kp (fun e=>iF.out (aJ e).symm);have qx:Hid (Own w14 b 3 1 (ng ⟨x,xa,xs,xc⟩) xs.length (xs.map gB)):=Lib.hid (ak qy.out k9 (by decide) kp);have g9:Hid (Jf f s ct S3.H.asl fi0 (bk.set n PC) qu { S10 with H:={ S10.H with dk:=⟨S10.H.dk.blocks.set n PC,S10.H.dk.queue⟩ } }):=Lib.hid (by have h9:=hY.out.1;exact⟨h9.m,h9.asl,h9.sl,h9.sw,by show (⟨S10.H.dk.blocks.set n PC,S10.H.dk.queue⟩:oD)=_;rw[h9.dk],h9.fi,h9.ct,h9.ca,h9.sp,h9.T⟩);have ky:Hid (¬mR b { S10 with H:={ S10.H with dk:=⟨S10.H.dk.blocks.set n PC,S10.H.dk.queue⟩ } } gf0):=kQ;have kr:Hid (¬mR b { S10 with H:={ S10.H with dk:=⟨S10.H.dk.blocks.set n PC,S10.H.dk.queue⟩ } } gp):=xi;have kv:Hid (∀g,(ng ⟨x,xa,xs,xc⟩).ownBlock=some g→¬mR b { S10 with H:={ S10.H with dk:=⟨S10.H.dk.blocks.set n PC,S10.H.dk.queue⟩ } } g):=gN;clear qO qr px13 fx13 qy k9 xY qY kp;generalize { S10 with H:={ S10.H with dk:=⟨S10.H.dk.blocks.set n PC,S10.H.dk.queue⟩ } }=S14 at gK gx g9 ky kr kv
         go_wp2_with fail
         refine (fD S14 2 b b _ gK (by omega)).mono ?_;rintro r w15 ⟨z,a15,c15,l15,rfl,km,hQ,hz,_⟩;have fx15:=hQ.blkN fx14 ky.out;have px15:=hQ.blkN px14 kr.out;have gC:Hid (Own w15 b 3 1 (ng ⟨x,xa,xs,xc⟩) xs.length (xs.map gB)):=Lib.hid (hQ.ownN qx.out kv.out);have hQ:=gx.trans hQ;have gb:Hid (Jf f s ct S3.H.asl fi0 (bk.set n PC) qu (S14.lst a15 c15 l15)):=Lib.hid (g9.out.lst _ _ _);have kx:Hid (¬mR b (S14.lst a15 c15 l15) gf0):=ky;have xh:Hid (¬mR b (S14.lst a15 c15 l15) gp):=kr;have gM:Hid (∀g,(ng ⟨x,xa,xs,xc⟩).ownBlock=some g→¬mR b (S14.lst a15 c15 l15) g):=kv;clear gK gx fx14 px14 qx g9 ky kr kv;generalize S14.lst a15 c15 l15=S15 at km hQ gb kx xh gM
         by_cases hz1:z=1
         ·subst hz1;have jh:S15.H.dk.queue.length≤100:=by have h1:=hY.out.2.1.ql;have h2:=hY.out.2.2;have h3:=xm.out;rw[gb.out.dk];rw[eH] at h1;show qu.length≤100;omega
          have gH:Hid (∀g,(Value.slice S15.H.dq S15.H.dk.queue.length S15.H.cdq).ownBlock=some g→g≠b∧∀t∈[(gp,fQ PC,79),(gf0,pX ⟨x,xa,xs,xc⟩,67)],t.1≠g):=Lib.hid (fun g hg=>by
           obtain⟨cs,hk⟩:=kW km.ma.dk.q g hg;refine⟨fun e=>mo hk km.blk (by decide) e,fun t ht => ?_⟩;simp only[bU,fZ,or_false] at ht;rcases ht with rfl|rfl
           ·exact mo px15 hk (by decide)
           ·exact mo fx15 hk (by decide))
          have gP:Hid (∀t∈[(gp,fQ PC,79),(gf0,pX ⟨x,xa,xs,xc⟩,67)],aA w15 t.1 t.2.1 t.2.2):=Lib.hid (fun t ht=>by
           simp only[bU,fZ,or_false] at ht;rcases ht with rfl|rfl
           ·exact px15
           ·exact fx15)
          go_upto_region 28 with (fail);refine ib 16 [_,_,_,_,_,_,.v (.slice S15.H.dq S15.H.dk.queue.length S15.H.cdq),_,.v (.agg (fQ PC)),.v (.agg (FK ((n:Int),PC))),.r 10 ((cB fun _=>True)),.r 11 ((cB fun _=>True)),_,_,_,_] (Eg S15 b b w15 [(gp,fQ PC,79),(gf0,pX ⟨x,xa,xs,xc⟩,67)] 11 10 86 9 S15.H.dk.queue.length (.slice S15.H.dq S15.H.dk.queue.length S15.H.cdq) (S15.H.dk.queue.flatMap zw) (zw ((n:Int),PC))) eX (fun y=>Ry km gP.out y) (Qk eX rfl (Qk eX rfl (Qk eX rfl (Qf eX b 1 rfl rfl (Qf eX b 6 rfl rfl (Qf eX b 7 rfl rfl (ag ?_ (Qk eX rfl (ag ?_ (ag ?_ (ag ?_ (ag ?_ (Qk eX rfl (Qf eX b 1 rfl rfl (Qf eX b 6 rfl rfl (Qf eX b 7 rfl rfl (aB) (fun _ _ _ _ d h=>fK (by decide) h)) (fun _ _ _ _ d h=>fK (by decide) h)) (fun _ _ _ _ d h=>fK (by decide) h)) (fun _ _ _ _ d h=>fK (by decide) h)))))) (fun _ _ _ _ d h=>fK (by decide) h))) (fun _ _ _ _ d h=>fK (by decide) h)) (fun _ _ _ _ d h=>fK (by decide) h)) (fun _ _ _ _ d h=>fK (by decide) h)) (fun _ _ _ _ d h=>fK (by decide) h)) (fun _ _ _ _ d h=>fK (by decide) h)) (fun _ _ _ _ d h=>fK (by decide) h)) (fun _=>rfl) rfl ?_
          ·intro ρ y W L hw hn o d hb hd;refine ed eX (fun _ _ h=>fK (by decide) h) hb ?_;have ic:=hw 143 5 rfl;have h5:y 5=_:=hd 5 rfl;have m1:=hb.1.1;refine aj (.slice S15.H.dq S15.H.dk.queue.length S15.H.cdq) (ah rfl) (by simp[execOp,go_sem,ic,h5,m1.cell,ja]) rfl
          ·intro ρ y W L hw hn o d hb hd;refine ed eX (fun _ _ h=>fK (by decide) h) hb ?_;have i4:ρ (.tmp 15) = .pointer (some ⟨gp,0,none⟩):=(hn (.tmp 15) rfl).trans rfl;have m3:=hb.1.2 _ ik;refine aj (.agg (fQ PC)) (ah rfl) (bn rfl i4 m3 underlying79 rfl psize) rfl
          ·intro ρ y W L hw hn o d hb hd;refine ed eX (fun _ _ h=>fK (by decide) h) hb ?_;have e9:=hw 145 7 rfl;have h7:y 7=_:=hd 7 rfl;have e6:=hw 146 8 rfl;have h8:y 8=_:=hd 8 rfl;refine aj (.agg (FK ((n:Int),PC))) (ah rfl) (by simp[execOp,go_sem,e9,h7,e6,h8,fQ,FK]) rfl
          ·intro ρ y W L hw hn o d hb hd;have e4:=hw 147 9 rfl;have h9:y 9=_:=hd 9 rfl;refine eu (.slice (some ⟨W.heap.size,0,none⟩) 1 1) (ah rfl) ?_ (RO (W':=W.alloc (.cells (FK ((n:Int),PC)) 86)) (by decide) ((Below.refl _ _).alloc (az _) _) hb ⟨az _,by unfold maxLen;omega,fun e=>(by cases e),dI.new _ _ _⟩) trivial;simp[execOp,go_sem,e4.trans h9,FK]
          ·intro ρ y W L hw hn o d hb hd;have ia:=hw 144 6 rfl;have h6:y 6=_:=hd 6 rfl;have eW:=hw 148 10 rfl;have xF:=hd 10 rfl;have hm:=(hb.2.1 o).1;obtain⟨a,e,gc,kL⟩:=hb.2.2.1 (d 10 rfl) o;have xg:Own W b 86 9 (.slice S15.H.dq S15.H.dk.queue.length S15.H.cdq) S15.H.dk.queue.length (S15.H.dk.queue.flatMap zw):=hm.ma.dk.q;refine jJ (ah rfl) (mM _ _ _ rfl b 86 _ 9 16 underlying32 put_info rfl (by decide) (.slice S15.H.dq S15.H.dk.queue.length S15.H.cdq) S15.H.dk.queue.length _ (ia.trans h6) xg a 1 e (zw ((n:Int),PC)) (eW.trans gc) kL.nl kL.le rfl kL.rd (bV (OL _)) (by unfold maxLen;omega) (by omega) hm.bs) (fun v W1 h=>Sq o hb h.2.1 gH.out h.1 h.2.2) (fun _ _ _=>trivial)
          intro y W16 kA xz;clear xz;obtain⟨wq,kj,kD,kG,kq,ka⟩:=kA.2.2.2 rfl;have kS:=kA.1.1;have fx16:aA W16 gf0 (pX ⟨x,xa,xs,xc⟩) 67:=kA.1.2 _ (jv _ ik);have qw:Hid (Own W16 b 3 1 (ng ⟨x,xa,xs,xc⟩) xs.length (xs.map gB)):=Lib.hid (by
           have h1:=kD.ownN gC.out gM.out;rcases rG kj.ma.dk.q kG with hb0|⟨g,cs,hk,_,hg'⟩
           ·exact h1.below hb0
           ·exact ak h1 hk (by decide) hg')
          have i7:=Lib.hid kD;have qq:=hQ.trans kD;obtain⟨aq,cq,gl,_⟩:=kq.rd;rw[gl] at kq ka ⊢;clear gl kA km hQ px15 fx15 gC kD gP gH
          go_wp2_with (refine aD rfl _ _ _ rfl b 7 _ [.slice aq (S15.H.dk.queue.length+1) cq] rfl rfl rfl _ _ kS (by show 7+1≤13;omega) (by kernel_rfl) (fun u hu=>by cases bv.1 hu;rfl) ?_)
          intro w17 kJ hS;have hD:(S15.H.dk.queue++[((n:Int),PC)]).length=S15.H.dk.queue.length+1:=by simp
          have gA : Own W16 b 86 9 (.slice aq (S15.H.dk.queue++[((n:Int),PC)]).length cq) (S15.H.dk.queue++[((n:Int),PC)]).length ((S15.H.dk.queue++[((n:Int),PC)]).flatMap zw):=by rw[hD,fu];simpa using kq
          have gJ:=kj.appQ kG gA (by rw[hD];exact kJ) hS;have gI:∀x,mR b { S15 with H:={ S15.H with dq:=aq,cdq:=cq,dk:=⟨S15.H.dk.blocks,S15.H.dk.queue++[((n:Int),PC)]⟩ } } x→mR b S15 x∨oB aq=some x:=fun x hx=>by
           rcases hx with hx|hx
           ·exact .inl (.inl hx)
           simp only[iA,bU,fZ,or_false] at hx;rcases hx with hx|hx|hx|hx|hx|hx|hx|hx|hx<;>first|exact .inr hx.symm|exact .inl (.inr (by simp[iA,hx]))
          have kE:=qq.app kj kj.ma.dk.q (by simp[iA]) kG hS ka gI;have hqN:Hid (¬mR b { S15 with H:={ S15.H with dq:=aq,cdq:=cq,dk:=⟨S15.H.dk.blocks,S15.H.dk.queue++[((n:Int),PC)]⟩ } } gf0):=Lib.hid (fun hk=>(gI gf0 hk).elim kx.out fun e=>mo (iV gA e).2.choose_spec fx16 (by decide) rfl);have fx17:=fx16.grown hS (fun e=>kx.out (.inl (aJ e).symm));have xZ:Hid (Own w17 b 3 1 (ng ⟨x,xa,xs,xc⟩) xs.length (xs.map gB)):=Lib.hid (ak qw.out kS (by decide) hS);have g8:Hid (Jf f s ct S3.H.asl fi0 (bk.set n PC) (qu++[((n:Int),PC)]) { S15 with H:={ S15.H with dq:=aq,cdq:=cq,dk:=⟨S15.H.dk.blocks,S15.H.dk.queue++[((n:Int),PC)]⟩ } }∧Fb ct (bk.set n PC) (qu++[((n:Int),PC)]) (fi0.map PF.fi) (xs++[(n:Int)])):=Lib.hid (by have h9:=gb.out;exact⟨⟨h9.m,h9.asl,h9.sl,h9.sw,by show (⟨S15.H.dk.blocks,S15.H.dk.queue++[((n:Int),PC)]⟩:oD)=_;rw[h9.dk],h9.fi,h9.ct,h9.ca,h9.sp,h9.T⟩,hY.out.2.1.wait gF.out.1 gF.out.2 PC⟩);clear kj kG kq ka kS fx16 qw qq kJ hD gA hS gI;go_wp2;go_meet
          case rel=>exact⟨(n:Int),_,_,_,rfl,gJ,kE,hqN,g8,fx17,xZ⟩
         have g8:Hid (Jf f s ct S3.H.asl fi0 (bk.set n PC) qu S15∧Fb ct (bk.set n PC) qu (fi0.map PF.fi) (xs++[(n:Int)])):=Lib.hid ⟨gb.out,hY.out.2.1.some gF.out.1 gF.out.2 PC⟩;go_wp2;go_meet
         case rel=>exact⟨(n:Int),S15,_,_,rfl,km,hQ,kx,g8,fx15,gC⟩
      case rest=>
      obtain⟨v,S,bk,qu,rfl,hm,hs,x8,hF,fx,ho⟩:=hcut;clear hR hJ kB fx9 kh ko kF;have kI:=fx.cell;unfold pX at kI;have jm:=Lib.hid hF.out.2;have xL:xs.length≤100:=by have h1:=xE.out;omega
      have ji:=Lib.hid xL
      go_wp2_with (at_builtin;go_must (refine iY rfl _ _ 29 rfl b 3 (.int .i64 0) 1 8 underlying29 int_info rfl (by decide) (ng ⟨x,xa,xs,xc⟩) xs.length (xs.map gB) rfl (ho.out.alloc _) (some ⟨wc.heap.size,0,none⟩) 1 1 [gB v] rfl (fun h=>(by cases h)) (az _) rfl (dI.new _ #[gB v] _) (by simp[gB,Value.oneCell']) (by unfold maxLen;omega) (by omega) (cK hm.bs _) ?_))
      intro v2 w2 own2 gj gr;have g3:=(Below.refl wc.heap.size wc).alloc (az _) (.cells #[gB v] 3);have gi:=hm.below g3;have gy:=hs.below g3;have fx1:=fx.ext g3;have gD:Own (wc.alloc (.cells #[gB v] 3)) b 3 1 (.slice xa xs.length xc) xs.length (xs.map gB):=ho.out.below g3;obtain⟨a2,c2,xR,_⟩:=own2.rd;rw[xR] at own2 gr ⊢;have ec:Hid (∀g,oB a2=some g→w6.heap.size≤g∧oB S3.H.asl≠some g∧∀p∈fi0,oB p.a≠some g):=Lib.hid (fun g hg=>by
       rcases gr with e1|e1
       ·unfold ng at e1;rw[lM,lM] at e1;exact kU.out g (by rw[←e1];exact hg)
       have h1:=e1 g (by rw[lM];exact hg);refine⟨aY gy.size h1,fun e => ?_,fun p hp e => ?_⟩
       ·exact absurd h1 (Nat.not_le.2 (iV gi.ma.sl (by rw[hF.out.1.asl];exact e)).2.choose_spec.lt)
       rw[←hF.out.1.fi] at hp;obtain⟨k,hk,rfl⟩:=jK.1 hp;exact absurd h1 (Nat.not_le.2 (iV (gi.ma.st.each k _ (aI hk)) e).2.choose_spec.lt))
      have x3:eD w2 b b S:=by
       rcases rG gD gj with hb0|⟨g,cs,hk,hga,hg'⟩
       ·exact gi.below hb0
       ·exact gi.locI hk (gi.kb_int hk (by rw[hF.out.1.asl];exact (kU.out g hga).2.1)) (by rw[hF.out.1.fi];exact (kU.out g hga).2.2) (iV gD hga).1 hg'
      have xV:MS w6 b S6 w2 S:=by
       rcases rG gD gj with hb0|⟨g,cs,hk,hga,hg'⟩
       ·exact gy.below hb0
       ·exact gy.loc hg' (kU.out g hga).1
      have fx2:aA w2 gf0 (pX ⟨x,xa,xs,xc⟩) 67:=by
       rcases rG gD gj with hb0|⟨g,cs,hk,hga,hg'⟩
       ·exact fx1.ext hb0
       ·exact bu fx1 hk (by decide) hg'
      clear kI hm hs fx gi gy fx1 gD gj gr g3 ho xR
      go_wp2_with (refine aD rfl _ _ _ rfl gf0 1 _ [.slice a2 (xs.length+1) c2] rfl rfl rfl _ _ fx2 (by show 1+1≤2;omega) (by kernel_rfl) (fun u hu=>by cases bv.1 hu;rfl) ?_)
      intro w3 ej qf;have kX:(xs++[v]).length=xs.length+1:=by simp
      have fx3:aA w3 gf0 (pX ⟨x,a2,xs++[v],c2⟩) 67:=by
       have e:pX ⟨x,a2,xs++[v],c2⟩=bD (pX ⟨x,xa,xs,xc⟩) 1 [.slice a2 (xs.length+1) c2]:=by unfold pX;dsimp only;rw[kX];kernel_rfl
       rw[e];exact ej
      have ix:=x3.locT fx2 (by decide) x8.out kR qf;have im:=xV.loc qf iC.out;have iv:Hid (Own w3 b 3 1 (ng ⟨x,a2,xs++[v],c2⟩) (xs++[v]).length ((xs++[v]).map gB)∧∀g,oB a2=some g→w6.heap.size≤g∧oB S3.H.asl≠some g∧∀p∈fi0,oB p.a≠some g):=Lib.hid ⟨by
       have h1:=ak own2 fx2 (by decide) qf;unfold ng;dsimp only;rw[kX,gz];exact h1,ec.out⟩
      have iH:Hid (Jf f s ct S3.H.asl fi0 bk qu S∧Fb ct bk qu (fi0.map PF.fi) (xs++[v])∧(xs++[v]).length=i+1):=Lib.hid ⟨hF.out.1,hF.out.2,by rw[kX,eA.out]⟩;clear x3 xV fx2 own2 ej qf kX xL;go_wp2;go_roundw
      case rel=>exact⟨i+1,S,bk,qu,xs++[v],a2,c2,by omega,by go_num,ix,im,x8,iH,fx3,iv⟩
      case measure=>simp[intOf];omega
     have iB:¬(i:Int)<(C:Int):=by omega
     have x9 : i=C:=by omega
     subst x9;have jc:S.H.fi.length≤5:=by rw[hI.out.1.fi];have:=xm.out;omega
     have qR:∀g,(Value.slice S.H.ai S.H.fi.length S.H.ci).ownBlock=some g→mR b S g:=fun g hg => .inr (by rw[lM] at hg;simp[iA,hg]);have gH:Hid (∀g,(Value.slice S.H.ai S.H.fi.length S.H.ci).ownBlock=some g→g≠b∧∀t∈[(gf0,pX ⟨x,xa,xs,xc⟩,67)],t.1≠g):=Lib.hid (fun g hg=>by obtain⟨cs,hk⟩:=kW hm.ma.st.own g hg;refine⟨fun e=>mo hk hm.blk (by decide) e,fun t ht => ?_⟩;rw[bv.1 ht];intro e;exact k6.out (by rw[show gf0=g from e];exact qR g hg));have gP:Hid (∀t∈[(gf0,pX ⟨x,xa,xs,xc⟩,67)],aA wr t.1 t.2.1 t.2.2):=Lib.hid (fun t ht=>by rw[bv.1 ht];exact fx);go_upto_region 31 with (fail);refine ib 14 [_,_,_,_,_,_,.v (.slice S.H.ai S.H.fi.length S.H.ci),.v (.agg (pX ⟨x,xa,xs,xc⟩)),.r 8 ((cB fun _=>True)),.r 9 ((cB fun _=>True)),_,_,_,_] (Eg S b b wr [(gf0,pX ⟨x,xa,xs,xc⟩,67)] 9 8 67 2 S.H.fi.length (.slice S.H.ai S.H.fi.length S.H.ci) (S.H.fi.flatMap qF) (qF ⟨x,xa,xs,xc⟩)) eX (fun y=>Ry hm gP.out y) (Qk eX rfl (Qk eX rfl (Qk eX rfl (Qf eX b 1 rfl rfl (Qf eX b 8 rfl rfl (Qf eX b 8 rfl rfl (ag ?_ (ag ?_ (ag ?_ (ag ?_ (Qk eX rfl (Qf eX b 1 rfl rfl (Qf eX b 8 rfl rfl (Qf eX b 8 rfl rfl (aB) (fun _ _ _ _ d h=>fK (by decide) h)) (fun _ _ _ _ d h=>fK (by decide) h)) (fun _ _ _ _ d h=>fK (by decide) h)) (fun _ _ _ _ d h=>fK (by decide) h)))))) (fun _ _ _ _ d h=>fK (by decide) h)) (fun _ _ _ _ d h=>fK (by decide) h)) (fun _ _ _ _ d h=>fK (by decide) h)) (fun _ _ _ _ d h=>fK (by decide) h)) (fun _ _ _ _ d h=>fK (by decide) h)) (fun _ _ _ _ d h=>fK (by decide) h)) (fun _=>rfl) rfl ?_
     ·intro ρ y W L hw hn o d hb hd;refine ed eX (fun _ _ h=>fK (by decide) h) hb ?_;have eV:=hw 166 5 rfl;have h5:y 5=_:=hd 5 rfl;have m1:=hb.1.1;refine aj (.slice S.H.ai S.H.fi.length S.H.ci) (ah rfl) (by simp[execOp,go_sem,eV,h5,m1.cell,ja]) rfl
     ·intro ρ y W L hw hn o d hb hd;refine ed eX (fun _ _ h=>fK (by decide) h) hb ?_;have xG:ρ (.tmp 11) = .pointer (some ⟨gf0,0,none⟩):=(hn (.tmp 11) rfl).trans rfl;have m3:=hb.1.2 _ ik;refine aj (.agg (pX ⟨x,xa,xs,xc⟩)) (ah rfl) (bn rfl xG m3 underlying67 rfl file_size) rfl
     ·intro ρ y W L hw hn o d hb hd;have eT:=hw 168 7 rfl;have h7:y 7=_:=hd 7 rfl;refine eu (.slice (some ⟨W.heap.size,0,none⟩) 1 1) (ah rfl) ?_ (RO (W':=W.alloc (.cells (pX ⟨x,xa,xs,xc⟩) 67)) (by decide) ((Below.refl _ _).alloc (az _) _) hb ⟨az _,by unfold maxLen;omega,fun e=>(by cases e),dI.new _ _ _⟩) trivial;simp[execOp,go_sem,eT.trans h7,pX]
     ·intro ρ y W L hw hn o d hb hd;have eU:=hw 167 6 rfl;have h6:y 6=_:=hd 6 rfl;have eS:=hw 169 8 rfl;have h8:=hd 8 rfl;have hm:=(hb.2.1 o).1;obtain⟨a,e,gc,kL⟩:=hb.2.2.1 (d 8 rfl) o;have xg:Own W b 67 2 (.slice S.H.ai S.H.fi.length S.H.ci) S.H.fi.length (S.H.fi.flatMap qF):=hm.ma.st.own;refine jJ (ah rfl) (mM _ _ _ rfl b 67 _ 2 32 underlying35 file_info rfl (by decide) (.slice S.H.ai S.H.fi.length S.H.ci) S.H.fi.length _ (eU.trans h6) xg a 1 e (qF ⟨x,xa,xs,xc⟩) (eS.trans gc) kL.nl kL.le rfl kL.rd (bV (qK _)) (by unfold maxLen;omega) (by omega) hm.bs) (fun v W1 h=>Sq o hb h.2.1 gH.out h.1 h.2.2) (fun _ _ _=>trivial)
     intro y W8 gZ es;clear es;obtain⟨wq,kj,kD,kG,kq,ka⟩:=gZ.2.2.2 rfl;have qV:=gZ.1.1;have qt:=kD.ownN ho.out.1 (fun g hg=>by obtain⟨cs,hk⟩:=kW ho.out.1 g hg;refine hm.kb_int hk ?_;rw[hI.out.1.asl];exact (ho.out.2 g (by unfold ng at hg;rw[lM] at hg;exact hg)).2.1);have hA:=hs.trans kD;obtain⟨aq,cq,gl,_⟩:=kq.rd;rw[gl] at kq ka ⊢;clear gl gZ hm hs fx kD gP gH qR
     go_wp2_with (refine aD rfl _ _ _ rfl b 8 _ [.slice aq (S.H.fi.length+1) cq] rfl rfl rfl _ _ qV (by show 8+1≤13;omega) (by kernel_rfl) (fun u hu=>by cases bv.1 hu;rfl) ?_)
     intro w17 kJ hS;have hD:(S.H.fi++[(⟨x,xa,xs,xc⟩:PF)]).length=S.H.fi.length+1:=by simp
     have gJ:eD w17 b b { S with H:={ S.H with ai:=aq,ci:=cq,fi:=S.H.fi++[(⟨x,xa,xs,xc⟩:PF)] } }:=kj.appFi (p:=⟨x,xa,xs,xc⟩) qt (fun k p hp g hg hg'=>by unfold ng at hg hg';rw[lM] at hg hg';exact (ho.out.2 g hg').2.2 p (by rw[←hI.out.1.fi];exact bN hp) hg) (fun g hg=>by rw[hI.out.1.asl];exact (ho.out.2 g hg).2.1) kG (by rw[hD];exact kq) (by rw[hD];exact kJ) hS;have kE:MS w6 b S6 w17 { S with H:={ S.H with ai:=aq,ci:=cq,fi:=S.H.fi++[(⟨x,xa,xs,xc⟩:PF)] } }:=hA.app kj kj.ma.st.own (by simp[iA]) kG hS ka (fun x hx=>by
      rcases hx with hx|hx
      ·exact .inl (.inl hx)
      simp only[iA,bU,fZ,or_false] at hx;rcases hx with hx|hx|hx|hx|hx|hx|hx|hx|hx<;>first|exact .inr hx.symm|exact .inl (.inr (by simp[iA,hx])))
     have kE:=kg.trans kE;have ew:Hid (Jf f s ct S3.H.asl (S.H.fi++[(⟨x,xa,xs,xc⟩:PF)]) bk qu { S with H:={ S.H with ai:=aq,ci:=cq,fi:=S.H.fi++[(⟨x,xa,xs,xc⟩:PF)] } }∧Fb ct bk qu ((S.H.fi++[(⟨x,xa,xs,xc⟩:PF)]).map PF.fi) []∧(S.H.fi++[(⟨x,xa,xs,xc⟩:PF)]).length=q+1∧(q+1=0→bk=List.replicate ct zPg∧qu=[]∧(l=[]→S.l=[]))):=Lib.hid (by have h9:=hI.out.1;refine⟨⟨h9.m,h9.asl,h9.sl,h9.sw,h9.dk,rfl,h9.ct,h9.ca,h9.sp,h9.T⟩,?_,by rw[hD,h9.fi,x6.out],fun e=>absurd e (by omega)⟩;rw[gz,h9.fi];exact hI.out.2.1.file (s:=x) (by omega) (by omega) (by rw[hI.out.2.2,eB.out]));clear kj kG kq ka qV qt hA kJ hD hS;go_wp2;go_roundw
     case rel=>exact⟨q+1,_,bk,qu,by omega,by go_num,gJ,kE,ew⟩
     case measure=>simp[intOf];omega
   have gg:¬(q:Int)<(N:Int):=by omega
   have kz:Hid (Bd S.H.ma S.T∧NY S∧S.H.sp.length=0∧S.H.m.fs.length=f∧S.H.dk.blocks.length=ct∧(l=[]→S.l=[]∧S.H.ma=BQ f s ct (List.replicate ct zPg) [] []∧S.T=[])):=Lib.hid (by
    obtain⟨h1,h2,h3,h4⟩:=hI.out;refine⟨by rw[h1.ma,h1.T];exact h2.bd (by rw[eH];omega) gU gv,fun p hp=>(by rw[h1.sp] at hp;cases hp),by rw[h1.sp];rfl,by rw[h1.m];exact jN,by rw[h1.dk];exact h2.cl.1,fun e => ?_⟩;have xB:=(x5.out e).1;have ip:q=0:=by omega
    obtain⟨k1,k2,k3⟩:=h4 ip;refine⟨k3 e,?_,h1.T⟩;have ef:fi0=[]:=List.length_eq_zero_iff.1 (by omega);rw[h1.ma,k1,k2,ef];rfl)
   clear hI
   go_wp2_with fail
   refine (fD S 2 b b _ hm (by omega)).mono ?_;rintro r w6 ⟨z,a6,c6,l6,rfl,kt,kg,hz,xb⟩;have kg:=hs.trans kg;have xH:IntKind.i64.wrap (1+z)=1+z:=bO _ (by omega);obtain⟨M,hM⟩:∃M:Nat,1+z=(M:Int):=⟨(1+z).toNat,by omega⟩;have jl:1≤M∧M≤2:=by omega
   have hV:Hid (Bd (S.lst a6 c6 l6).H.ma (S.lst a6 c6 l6).T∧NY (S.lst a6 c6 l6)∧(S.lst a6 c6 l6).H.sp.length=0∧(S.lst a6 c6 l6).H.m.fs.length=f∧(S.lst a6 c6 l6).H.dk.blocks.length=ct∧(l=[]→(S.lst a6 c6 l6).l=[]∧(S.lst a6 c6 l6).H.ma=BQ f s ct (List.replicate ct zPg) [] []∧(S.lst a6 c6 l6).T=[])):=Lib.hid
    ⟨kz.out.1,kz.out.2.1,kz.out.2.2.1,kz.out.2.2.2.1,kz.out.2.2.2.2.1,fun e=>⟨(xb (kz.out.2.2.2.2.2 e).1).2,(kz.out.2.2.2.2.2 e).2⟩⟩
   have ev:Hid (l=[]→M=1):=Lib.hid (fun e=>by have:=(xb (kz.out.2.2.2.2.2 e).1).1;omega);rw[hM] at xH;clear hm hs kz hz xb;generalize S.lst a6 c6 l6=S6 at kt kg hV;go_upto_region 34 with (fail);clear hM xH
   go_loopw [179] (fun k wr => ∃(p:Nat) (S:MW),p≤M∧k = .int .i64 p∧eD wr b b S∧MS w4 b S3 wr S∧Hid (Bd S.H.ma S.T∧NY S∧S.H.sp.length=p∧S.H.m.fs.length=f∧S.H.dk.blocks.length=ct∧(l=[]→S.l=[]∧((p=0→S.H.ma=BQ f s ct (List.replicate ct zPg) [] []∧S.T=[])∧(p=1→S.H.ma = { BQ f s ct (List.replicate ct zPg) [] [] with sp:=[⟨true,[],zTb⟩] }∧S.T=[List.replicate 64 zEn]))))) (fun k _=>M-(intOf k).toNat)
   case atStart=>exact⟨0,S6,aW _,rfl,kt,kg,Lib.hid ⟨hV.out.1,hV.out.2.1,hV.out.2.2.1,hV.out.2.2.2.1,hV.out.2.2.2.2.1,fun e=>⟨(hV.out.2.2.2.2.2 e).1,fun _=>(hV.out.2.2.2.2.2 e).2,fun h=>(by cases h)⟩⟩⟩
   case round=>
    clear kt kg hV;obtain⟨p,S,hp,rfl,hm,hs,hI⟩:=hrel
    by_cases hpM:p<M
    ·have iq:(p:Int)<(M:Int):=by omega
     have kY:∀(S' : MW),More S S'→(l=[]→p=0→S'.l=[]∧S'.H.ma = { S.H.ma with sp:=S.H.ma.sp++[⟨true,[],zTb⟩] }∧S'.T=S.T++[List.replicate 64 zEn])→Bd S'.H.ma S'.T∧NY S'∧S'.H.sp.length=p+1∧S'.H.m.fs.length=f∧S'.H.dk.blocks.length=ct∧(l=[]→S'.l=[]∧((p+1=0→S'.H.ma=BQ f s ct (List.replicate ct zPg) [] []∧S'.T=[])∧(p+1=1→S'.H.ma = { BQ f s ct (List.replicate ct zPg) [] [] with sp:=[⟨true,[],zTb⟩] }∧S'.T=[List.replicate 64 zEn]))):=fun S' hB hn=>by
      obtain⟨h1,h2,h3,h4,h5,h6⟩:=hI.out;refine⟨hB.bd,hB.fm,by rw[hB.sp,h3],by rw[hB.fs,h4],by rw[hB.dk,h5],fun e => ?_⟩;have gh:p=0:=by have:=ev.out e;omega
      obtain⟨k1,k2,k3⟩:=hn e gh;obtain⟨q1,q2⟩:=(h6 e).2.1 gh;refine⟨k1,fun h=>absurd h (by omega),fun _=>⟨by rw[k2,q1];rfl,by rw[k3,q2];rfl⟩⟩
     have kc:=Lib.hid kY;clear kY
     by_cases hp1:p=1
     ·subst hp1
      go_wp2_with fail
      refine (fD S 2 b b _ hm (by omega)).mono ?_;rintro r w7 ⟨z2,a7,c7,l7,rfl,kO,ge,je,_⟩;have ge:=hs.trans ge;clear hm hs
      by_cases hz1:z2=1
      ·subst hz1
       go_wp2_with fail
       refine (Qd (S.lst a7 c7 l7) b b _ kO hI.out.1 hI.out.2.1 hI.out.2.2.1).mono ?_;rintro r w8 ⟨S8,rfl,hG,hA,hB⟩;have hA:=ge.trans hA;have h0:=Lib.hid (kc.out S8 ⟨hB.bd,hB.fm,hB.fi,hB.ct,hB.dk,hB.sp,hB.fs⟩ (fun _ h=>absurd h (by decide)));clear kO ge hB hI;go_wp2;go_roundw
       case rel=>exact⟨2,S8,by omega,by go_num,hG,hA,h0⟩
       case measure=>simp[intOf];omega
      have jd:(z2==1)=false:=by simpa using hz1
      go_wp2_with fail
      refine (Eo (S.lst a7 c7 l7) b b _ kO hI.out.1 hI.out.2.1 (by have:=hI.out.2.2.1;show S.H.sp.length<4;omega)).mono ?_;rintro r w8 ⟨S8,rfl,hG,hA,hB,_⟩;have hA:=ge.trans hA;have h0:=Lib.hid (kc.out S8 ⟨hB.bd,hB.fm,hB.fi,hB.ct,hB.dk,hB.sp,hB.fs⟩ (fun _ h=>absurd h (by decide)));clear kO ge hB hI;go_wp2;go_roundw
      case rel=>exact⟨2,S8,by omega,by go_num,hG,hA,h0⟩
      case measure=>simp[intOf];omega
     have gh:p=0:=by omega
     subst gh
     go_wp2_with fail
     refine (Eo S b b _ hm hI.out.1 hI.out.2.1 (by have:=hI.out.2.2.1;omega)).mono ?_;rintro r w8 ⟨S8,rfl,hG,hA,hB,qC⟩;have hA:=hs.trans hA;have h0:=Lib.hid (kc.out S8 hB (fun e _=>qC (hI.out.2.2.2.2.2 e).1));clear hm hs hB hI qC;go_wp2;go_roundw
     case rel=>exact⟨0+1,S8,by omega,by go_num,hG,hA,Lib.hid ⟨h0.out.1,h0.out.2.1,h0.out.2.2.1,h0.out.2.2.2.1,h0.out.2.2.2.2.1,fun e=>⟨(h0.out.2.2.2.2.2 e).1,(h0.out.2.2.2.2.2 e).2.1,fun _=>(h0.out.2.2.2.2.2 e).2.2 (by first | trivial | rfl)⟩⟩⟩
     case measure=>simp[intOf];omega
    have iq:¬(p:Int)<(M:Int):=by omega
    have it:M=p:=by omega
    subst it;have kV:Hid (Bd S.H.ma S.T∧S.T.length=M∧S.H.ma.sp.length=M):=Lib.hid (by have h1:=hI.out.2.2.1;have h2:S.H.ma.sp.length=S.H.sp.length:=eH _;exact⟨hI.out.1,by rw[hI.out.1.ok.len];omega,by omega⟩);have ez:Hid (S.H.ma=tabs S.H.ma S.T 0∧S.T=S.T∧S.H.sp.length=M∧NY S∧S.H.m.fs.length=f∧S.H.dk.blocks.length=ct∧(l=[]→S.l=[])):=Lib.hid ⟨rfl,rfl,hI.out.2.2.1,hI.out.2.1,hI.out.2.2.2.1,hI.out.2.2.2.2.1,fun e=>(hI.out.2.2.2.2.2 e).1⟩;have qD:Hid (l=[]→dV S.H.ma S.T=qc f s ct):=Lib.hid (fun e=>by obtain⟨k1,k2⟩:=(hI.out.2.2.2.2.2 e).2.2 (ev.out e);rw[k1,k2];exact Rx gU gv gX);obtain⟨m5,ku⟩:∃m,S.H.ma=m:=⟨_,rfl⟩;obtain⟨T5,xy⟩:∃T,S.T=T:=⟨_,rfl⟩;have ey:Hid (S.H.ma=tabs m5 T5 0∧S.T=T5∧S.H.sp.length=M∧NY S∧S.H.m.fs.length=f∧S.H.dk.blocks.length=ct∧(l=[]→S.l=[])):=Lib.hid (by rw[←ku,←xy];exact ez.out);rw[ku,xy] at kV qD;have qn:S.H.sp.length=M:=hI.out.2.2.1;clear hI ez ku xy;have hc:=hm.blk.cell;unfold ja at hc;rw[qn] at hc;clear qn;go_upto_region 41 with (fail);clear hc
    go_loopw [200] (fun k wr => ∃(q:Nat) (S:MW),q≤M∧k = .int .i64 q∧eD wr b b S∧MS w4 b S3 wr S∧Hid (S.H.ma=tabs m5 T5 q∧S.T=T5∧S.H.sp.length=M∧NY S∧S.H.m.fs.length=f∧S.H.dk.blocks.length=ct∧(l=[]→S.l=[]))) (fun k _=>M-(intOf k).toNat)
    case atStart=>exact⟨0,S,aW _,rfl,hm,hs,ey⟩
    case round=>
     clear hm hs ey;obtain⟨q,S,hq,rfl,hm,hs,hI⟩:=hrel
     by_cases hqM:q<M
     ·have gg:(q:Int)<(M:Int):=by omega
      obtain⟨P,hP⟩:∃P,S.H.sp[q]?=some P:=⟨_,aI (by rw[hI.out.2.2.1];exact hqM)⟩;obtain⟨g,off,cur0,kU,_,_,_,_⟩:=hm.setTb hP;have er:S.T.length=M:=by rw[hI.out.2.1];exact kV.out.2.1
      obtain⟨gt,ot,ct',curt,xQ,_,xo,ea,qS,_⟩:=hm.tt.put yS (by decide) q (by omega);have eo:S.ab=some ⟨gt,ot,none⟩:=(nJ xQ).1;have qm:(eY T5 q).length=64:=kV.out.1.ok.l64 (by rw[kV.out.2.2];exact hqM);have ep:S.T[q]'(by omega)=eY T5 q:=by rw[←eD.lst_len (by omega),hI.out.2.1]
      have qs:∀W,Below wr.heap.size wr W→dI W (some ⟨gt,ot+q*192,none⟩) (wX (eY T5 q)).toList:=fun W hb j u hj=>by refine⟨gt,ot+q*192,rfl,?_⟩;have e1:=qS j u (by rw[ep,Xj qm];exact hj);rw[xo.cell] at e1;rw[(xo.ext hb).cell];exact e1
      have xU:=Lib.hid hI.out.2.2.1;have eq:=Lib.hid er;have g1:=Lib.hid kU;have en:=Lib.hid eo;have eC:=Lib.hid qm;have gn:(wX (eY T5 q)).toList.length=192:=by rw[iO,uN,qm]
      have xT:=Lib.hid gn;have xA:=Lib.hid hP;have xe:=Lib.hid qs;clear xQ qS ep er kU eo qm gn hP qs xo ea;go_upto_region 43 with (fail);refine aK 16 [_,_,_,_,_,_,_,_,_,_,_,_,_,.r 13 ((Kg b (gG (eY T5 q)))),_,_] (Gk rfl (Gk rfl (Gf b 1 rfl rfl (Gf b 11 rfl rfl (Gl hm.blk (V:=.slice (some ⟨g,off,none⟩) M S.H.cp) (by simp[ja,g1.out,xU.out]) rfl rfl rfl rfl (Gk rfl (Gk rfl (Gk rfl (Gf b 12 rfl rfl (Gl hm.blk (V:=.slice (some ⟨gt,ot,none⟩) M S.cb) (by simp[ja,en.out,eq.out]) rfl rfl rfl rfl (Gk rfl (Gr (.pointer (some ⟨gt,ot+q*192,none⟩)) (fun ρ y W hb hZ=>(bG rfl (aC rfl hZ) (aC rfl hZ) hqM underlying75 arr64_size)) rfl rfl (Gr (.agg (wX (eY T5 q))) (fun ρ y W hb hZ=>(bF rfl (aC rfl hZ) (xe.out W hb) underlying90 rfl (arr64_size.trans (congrArg some xT.out.symm)))) rfl rfl (ag ?_ (Gr (.pointer (some ⟨g,off+q*10,none⟩)) (fun ρ y W hb hZ=>(bG rfl (aC rfl hZ) (aC rfl hZ) hqM underlying39 space_size)) rfl rfl (Gf g (off+q*10+2) rfl rfl (aB))))))))))))))))) (fun _=>rfl) rfl ?_
      ·intro ρ y W hw hn hb hd;have eR:=hw 215 12 rfl;have qb:y 12=_:=hd 12 rfl;have EF:∀f,ρ (.func f) = .func (.func f) #[] #[]:=fun f=>hn (.func f) trivial;refine aL _ _ (ah rfl) (aO rfl (EF _) func36 (by kernel_rfl) (by kernel_rfl) (by simp only[bH,bA,bB,eR,qb,EF];rfl)) ?_;refine (Mm (eY T5 q) W eC.out).mono ?_;rintro e w1 ⟨ca,rfl,hO,kT⟩;exact⟨_,rfl,kT,⟨_,rfl,hO.mono (hm.below hb).bs⟩⟩
      intro y W9 hy hW;have xK:=hW 13 (by decide);clear hW;obtain⟨cs,gm,qj⟩:∃cs,y 13 = .agg cs∧qZ W9 b cs (gG (eY T5 q)):=xK;obtain⟨v,rfl⟩:=Tk qj.sz;rw[gm];have hR:=hm.below hy;have hJ:=hs.below hy;clear hm hs hy gm;obtain⟨g2,off2,cur,g0,i9,gY,gT,gu⟩:=hR.setTb xA.out;rw[g1.out] at g0;obtain⟨rfl,rfl⟩:g=g2∧off=off2:=by have:=aJ g0;exact⟨congrArg Addr.block this,congrArg Addr.off this⟩
      have qP:mR b S g:=.inr (by simp[iA,g1.out,oB,Value.ownBlock]);clear g0
      go_wp2_with (refine aD rfl _ _ _ rfl g (off+q*10+2) _ (nG v).toList rfl rfl rfl _ _ gY (by show off+q*10+2+8≤cur.size;exact gT) (by kernel_rfl) (Tv qj.rd) ?_)
      intro w10 q8 gS;have ke:=gu w10 v _ qj q8 gS;have hK:MS w4 b S3 w10 { S with H:={ S.H with sp:=S.H.sp.set q { P with ts:=v,tb:=gG (eY T5 q) } } }:=hJ.put gS qP (fun x hx => .inl hx);have ex:Hid (({ S with H:={ S.H with sp:=S.H.sp.set q { P with ts:=v,tb:=gG (eY T5 q) } } }:MW).H.ma=tabs m5 T5 (q+1)∧S.T=T5∧(S.H.sp.set q { P with ts:=v,tb:=gG (eY T5 q) }).length=M∧NY { S with H:={ S.H with sp:=S.H.sp.set q { P with ts:=v,tb:=gG (eY T5 q) } } }∧S.H.m.fs.length=f∧S.H.dk.blocks.length=ct∧(l=[]→S.l=[])):=Lib.hid (by
       obtain⟨q1,q2,q3,q4,q5⟩:=hI.out;refine⟨?_,q2,by rw[bP];exact q3,fun p hp n x hx => ?_,q5⟩
       ·show MH.ma { S.H with sp:=S.H.sp.set q { P with ts:=v,tb:=gG (eY T5 q) } }=_;rw[Ox xA.out,q1];rfl
       rcases nu hp with hp|rfl
       ·exact q4 p hp n x hx
       ·exact q4 P (bN xA.out) n x hx)
      clear hR hJ gY gT gu q8 gS qj hI qP;go_wp2;go_roundw
      case rel=>exact⟨q+1,_,by omega,by go_num,ke,hK,ex⟩
      case measure=>simp[intOf];omega
     have gg:¬(q:Int)<(M:Int):=by omega
     have qk:Hid (S.H.ma=dV m5 T5):=Lib.hid (by
      have e:q=m5.sp.length:=by rw[kV.out.2.2];omega
      rw[hI.out.1,e];exact TJ)
     have kl:Hid (Rt S.H.ma∧Co S.H.ma∧NY S∧S.H.m.fs.length=f∧S.H.dk.blocks.length=ct∧(1≤S.H.sp.length∧S.H.sp.length≤2)∧(l=[]→S.H.ma=qc f s ct∧S.l=[])):=Lib.hid (by obtain⟨q1,q2,q3,q4,q5,q6,q7⟩:=hI.out;exact⟨by rw[qk.out];exact kV.out.1.rt,by rw[qk.out];exact kV.out.1.co,q4,q5,q6,by omega,fun e=>⟨by rw[qk.out];exact qD.out e,q7 e⟩⟩);clear hI qk
     by_cases ef:0<f
     ·have iE:(0:Int)<(f:Int):=by omega
      go_wp2_with fail
      refine (fD S (f:Int) b b _ hm (by omega)).mono ?_;rintro r w11 ⟨x,a11,c11,l11,rfl,kn,kb,hx,xN⟩;have kb:=hs.trans kb;clear hm hs
      go_wp2_with (refine aD rfl _ _ _ rfl b 2 _ [.int .i64 x] rfl rfl rfl _ _ kn.blk (by show 2+1≤13;omega) (by kernel_rfl) (fun u hu=>by cases bv.1 hu;rfl) ?_)
      intro w12 q0 hU;have hm:=kn.setH q0 hU;have hs:MS w4 b S3 w12 { (S.lst a11 c11 l11) with H:={ (S.lst a11 c11 l11).H with m:=⟨(S.lst a11 c11 l11).H.m.fs,x⟩ } }:=kb.put hU (.inl rfl) (fun x hx => .inl hx);have hI:Hid (Rt ({ (S.lst a11 c11 l11) with H:={ (S.lst a11 c11 l11).H with m:=⟨(S.lst a11 c11 l11).H.m.fs,x⟩ } }:MW).H.ma∧Co ({ (S.lst a11 c11 l11) with H:={ (S.lst a11 c11 l11).H with m:=⟨(S.lst a11 c11 l11).H.m.fs,x⟩ } }:MW).H.ma∧NY ({ (S.lst a11 c11 l11) with H:={ (S.lst a11 c11 l11).H with m:=⟨(S.lst a11 c11 l11).H.m.fs,x⟩ } }:MW)∧({ (S.lst a11 c11 l11) with H:={ (S.lst a11 c11 l11).H with m:=⟨(S.lst a11 c11 l11).H.m.fs,x⟩ } }:MW).H.m.fs.length=f∧({ (S.lst a11 c11 l11) with H:={ (S.lst a11 c11 l11).H with m:=⟨(S.lst a11 c11 l11).H.m.fs,x⟩ } }:MW).H.dk.blocks.length=ct∧(1≤({ (S.lst a11 c11 l11) with H:={ (S.lst a11 c11 l11).H with m:=⟨(S.lst a11 c11 l11).H.m.fs,x⟩ } }:MW).H.sp.length∧({ (S.lst a11 c11 l11) with H:={ (S.lst a11 c11 l11).H with m:=⟨(S.lst a11 c11 l11).H.m.fs,x⟩ } }:MW).H.sp.length≤2)∧(l=[]→({ (S.lst a11 c11 l11) with H:={ (S.lst a11 c11 l11).H with m:=⟨(S.lst a11 c11 l11).H.m.fs,x⟩ } }:MW).H.ma=qc f s ct)):=Lib.hid (by
       obtain⟨q1,q2,q3,q4,q5,q6,q7⟩:=kl.out;have xO:=(eQ _).1 q1.pt.fr;have hh:=Vp q1 q2 (x:=x) ((eQ _).2 ⟨xO.1,xO.2.1,hx.1,by
        rcases hx.2.2 with h|h
        ·exact .inr (by show x<(S.H.m.fs.length:Int);omega)
        ·exact .inl h⟩)
       refine⟨hh.1,hh.2,q3,q4,q5,q6,fun e => ?_⟩;obtain⟨k1,k2⟩:=q7 e;have xM:x=0:=(xN k2).1;subst xM;have k3:S.H.m.hand=0:=by
        have:=congrArg (fun m:Ma=>m.m.hand) k1;have e2:(qc f s ct).m.hand=0:=by unfold qc zu;rw[if_pos ⟨⟨by omega,by omega⟩,⟨by omega,by omega⟩,by omega,by omega⟩,if_pos (by omega)]
        exact this.trans e2
       rw[←k1];show MH.ma { S.H with m:=⟨S.H.m.fs,0⟩ }=MH.ma S.H;have e3:(⟨S.H.m.fs,0⟩:Mem)=S.H.m:=by rw[←k3]
       rw[e3])
      clear kn kb q0 hU kl hx xN;generalize { (S.lst a11 c11 l11) with H:={ (S.lst a11 c11 l11).H with m:=⟨(S.lst a11 c11 l11).H.m.fs,x⟩ } }=S13 at hm hs hI;skip;have bz:aA w12 w.heap.size (bS noH) 41:=hs.blkN bx4'.out qG.out;have qa:=Lib.hid (Dt xt.out)
      go_wp2_with (first | (refine ax _ _ rfl b 1 rfl rfl _ hm.rdM _ underlying41 rfl machine_size ?_) | (refine ay rfl _ _ _ rfl w.heap.size (bS S13.H) rfl rfl _ _ bz rfl machine_size (fI _) ?_))
      intro wE bE gE;have hE:Hid (uz wE w.heap.size S13.H∧Below w.heap.size w wE):=Lib.hid ⟨(hm.ma.keep bz (by decide) gE).mono (by have:=qa.out;omega),(GX qW.out (xS.out _ _ hs) (by have:=qa.out;omega) (az _)).grown gE (aY (aY (by omega) kM) hs.size) (fun k hk=>by cases hk;exact az _)⟩;clear hm hs bz;go_wp2;refine bodyPost_ret (v:=.agg (bS S13.H)) (eO results10 _ _ w.heap.size _ _ _ rfl bE underlying41 rfl machine_size) rfl ?_;obtain⟨q1,q2,q3,q4,q5,q6,q7⟩:=hI.out;exact⟨S13.H,rfl,hE.out.1,hE.out.2,q1,q2,q3,by rw[kk.out.1];exact q4,by rw[kk.out.2.2];exact q5,q6,fun e=>by rw[kk.out.1,kk.out.2.1,kk.out.2.2];exact q7 e⟩
     have iE:¬(0:Int)<(f:Int):=by omega
     have hI:Hid (Rt S.H.ma∧Co S.H.ma∧NY S∧S.H.m.fs.length=f∧S.H.dk.blocks.length=ct∧(1≤S.H.sp.length∧S.H.sp.length≤2)∧(l=[]→S.H.ma=qc f s ct)):=Lib.hid ⟨kl.out.1,kl.out.2.1,kl.out.2.2.1,kl.out.2.2.2.1,kl.out.2.2.2.2.1,kl.out.2.2.2.2.2.1,fun e=>(kl.out.2.2.2.2.2.2 e).1⟩;clear kl;skip;have bz:aA wr w.heap.size (bS noH) 41:=hs.blkN bx4'.out qG.out;have qa:=Lib.hid (Dt xt.out)
     go_wp2_with (first | (refine ax _ _ rfl b 1 rfl rfl _ hm.rdM _ underlying41 rfl machine_size ?_) | (refine ay rfl _ _ _ rfl w.heap.size (bS S.H) rfl rfl _ _ bz rfl machine_size (fI _) ?_))
     intro wE bE gE;have hE:Hid (uz wE w.heap.size S.H∧Below w.heap.size w wE):=Lib.hid ⟨(hm.ma.keep bz (by decide) gE).mono (by have:=qa.out;omega),(GX qW.out (xS.out _ _ hs) (by have:=qa.out;omega) (az _)).grown gE (aY (aY (by omega) kM) hs.size) (fun k hk=>by cases hk;exact az _)⟩;clear hm hs bz;go_wp2;refine bodyPost_ret (v:=.agg (bS S.H)) (eO results10 _ _ w.heap.size _ _ _ rfl bE underlying41 rfl machine_size) rfl ?_;obtain⟨q1,q2,q3,q4,q5,q6,q7⟩:=hI.out;exact⟨S.H,rfl,hE.out.1,hE.out.2,q1,q2,q3,by rw[kk.out.1];exact q4,by rw[kk.out.2.2];exact q5,q6,fun e=>by rw[kk.out.1,kk.out.2.1,kk.out.2.2];exact q7 e⟩
theorem new2:qc (FR 2 40) (FR 2 60) (FR 2 80)=⟨zu 2,Ct 2,qy 2,qy 2,⟨[],2⟩,[],[⟨true,[],zTb⟩]⟩:=by
 have e:FR 2 40=2∧FR 2 60=2∧FR 2 80=2:=by decide
 rw[e.1,e.2.1,e.2.2];rfl
theorem EN (H:MH) (f:Int) (w:World) (h:BH w H) (hR:Rt H.ma) (hC:Co H.ma) (hf:f<0∨(H.fi.length:Int)≤f) :
  Calls Tryz.prog 23 #[.agg (bS H),.int .i64 f] w fun r w'=>r = .returned (.tuple #[.agg (bS noH),.int .i64 5])∧Below w.heap.size w w':=by
 have j:=Lib.hid hR;have m:=Lib.hid hC;have l:=Lib.hid (kU hR);clear hR hC;go_enter func23,ntmps23;go_upto_region 1 with (fail);refine qQ (fun W=>Code.wp _ _ _ _ W) fun w1 g bx1 rx1 i => ?_;have bx1:aA w1 w.heap.size (bS H) 41:=bx1;have rx1:aA w1 (w.heap.size+1) (bS noH) 41:=rx1;have h1:=h.below g;clear h
 go_wp2_with (refine ax _ _ rfl w.heap.size 0 rfl rfl _ bx1.rd _ underlying41 rfl machine_size ?_)
 refine (mI H _ h1).mono ?_;rintro r w2 ⟨rfl,c⟩;rw[Ef.2 j.out];have h2:=h1.below c;have bx2:=bx1.ext c;have rx2:=rx1.ext c;have a:=ae g c;clear h1 bx1 rx1 g c i;have hc:=bx2.cell;unfold bS at hc
 by_cases h0:f<0
 ·clear hf
  go_wp2_with (refine ay rfl _ _ _ rfl (w.heap.size+1) (bS noH) rfl rfl _ _ rx2 rfl mach_size (fI noH) ?_)
  intro we d e;have b:=a.grown e a.size (fun k hk=>by cases hk;omega);go_wp2;refine bodyPost_ret (v:=.tuple #[.agg (bS noH),.int .i64 5]) (fw results23 _ _ (w.heap.size+1) _ _ _ _ rfl rfl d underlying41 rfl mach_size) rfl ?_;exact⟨rfl,b⟩
 have h1:(H.fi.length:Int)≤f:=by omega
 clear hf
 go_wp2_with (refine ay rfl _ _ _ rfl (w.heap.size+1) (bS noH) rfl rfl _ _ rx2 rfl mach_size (fI noH) ?_)
 intro we d e;have b:=a.grown e a.size (fun k hk=>by cases hk;omega);go_wp2;refine bodyPost_ret (v:=.tuple #[.agg (bS noH),.int .i64 5]) (fw results23 _ _ (w.heap.size+1) _ _ _ _ rfl rfl d underlying41 rfl mach_size) rfl ?_;exact⟨rfl,b⟩
theorem oO (H:MH) (w:World) (h:BH w H) (hz:Ra H.ma) :
  Calls Tryz.prog 21 #[.agg (bS H)] w fun r w'=>r = .returned (.int .i64 (fB H.m.fs:Int))∧Below w.heap.size w w':=by
 have s:H.m.fs.length≤1000:=hz.fs;go_enter func21,ntmps21;go_upto_region 1 with (fail);refine gF (fun W=>Code.wp _ _ _ _ W) fun w1 l bx1 p => ?_;have bx1:aA w1 w.heap.size (bS H) 41:=bx1;have hh:=Lib.hid h;clear h p;have hc:=bx1.cell;unfold bS at hc;go_upto_region 3 with (fail);clear hc
 go_loopw [10,3] (fun i n wr => ∃j:Nat,j≤H.m.fs.length∧i = .int .i64 j∧n = .int .i64 (((H.m.fs.take j).countP fun f=>decide (f.r=0):Nat):Int)∧Below w.heap.size w wr) (fun i _ _=>H.m.fs.length-(intOf i).toNat)
 case atStart=>exact⟨0,aW _,rfl,rfl,l⟩
 case round=>
  clear l bx1;obtain⟨j,hj,rfl,rfl,c⟩:=hrel
  by_cases hjl:j<H.m.fs.length
  ·have q:(j:Int)<(H.m.fs.length:Int):=by omega
   obtain⟨bf,of,o,g⟩:=jH eZ (by decide) (hh.out.below c).fr.rd j hjl;have a:Hid ((H.m.fs.take (j+1)).countP (fun f=>decide (f.r=0))=(H.m.fs.take j).countP (fun f=>decide (f.r=0))+if decide ((H.m.fs[j]).r=0)=true then 1 else 0):=Lib.hid (wW _ _ _ hjl);have t:(H.m.fs.take j).countP (fun f=>decide (f.r=0))≤j:=aY tH (by rw[kK];omega);generalize H.m.fs[j]=F at *
   generalize (H.m.fs.take j).countP (fun f=>decide (f.r=0))=C at *
   rw[o];clear o
   go_wp2_with (first | (refine ax _ _ rfl bf (of+j*13) rfl rfl _ g _ underlying81 rfl frame_size ?_) | (refine aF rfl _ _ _ rfl (vv F) rfl rfl rfl frame_size (nY _) ?_))
   intro w5 k fx5;have d:=ae c k;clear k g c;have e:=fx5.cell;unfold vv at e
   by_cases hr:F.r=0
   ·rw[hr] at e;have b : Hid ((H.m.fs.take (j+1)).countP (fun f=>decide (f.r=0))=C+1):=Lib.hid (by rw[a.out];simp[hr]);clear a hr;go_wp2;go_roundw
    case rel=>exact⟨j+1,by omega,by go_num,by rw[b.out];go_num,d⟩
    case measure=>simp[intOf];omega
   have b : Hid ((H.m.fs.take (j+1)).countP (fun f=>decide (f.r=0))=C):=Lib.hid (by rw[a.out];simp[hr]);clear a;go_wp2;go_roundw
   case rel=>exact⟨j+1,by omega,by go_num,by rw[b.out],d⟩
   case measure=>simp[intOf];omega
  have q:¬(j:Int)<(H.m.fs.length:Int):=by omega
  have a:Hid ((H.m.fs.take j).countP (fun f=>decide (f.r=0))=fB H.m.fs):=Lib.hid (by rw[iJ (by omega)];rfl);rw[a.out];go_wp2;go_ret;exact⟨rfl,c⟩
theorem Sw (hm:m=⟨zu 2,Ct 2,qy 2,qy 2,⟨[],2⟩,[],[⟨true,[],zTb⟩]⟩) (hR:Rt m) (hC:Co m):(eF ⟨m,0⟩).2=false∧(eF ⟨m,0⟩).1.m.m.fs.length=2∧oU m=none∧(EO m 0).dk.blocks.length=2∧(EO m 0).sp.length=1:=by
 have hz:∀f,(aR m f).r=0∧(aR m f).d=false:=fun f=>by
  rw[hm]
  match f with
  | 0=>exact⟨rfl,rfl⟩
  | 1=>exact⟨rfl,rfl⟩
  | f+2=>
   have:aR (⟨zu 2,Ct 2,qy 2,qy 2,⟨[],2⟩,[],[⟨true,[],zTb⟩]⟩:Ma) (f+2)=fr0:=by unfold aR;rw[aV,dJ (by show 2≤f+2;omega)];rfl
   rw[this];exact⟨rfl,rfl⟩
 obtain⟨_,o,hF,ho⟩:=Eu (k:=⟨m,0⟩) hR hC;have hl:m.m.fs.length=2:=by rw[hm];rfl
 refine⟨?_,by rw[hF.len];exact hl,?_,?_,?_⟩
 ·cases e:(eF ⟨m,0⟩).2 with
  | false=>rfl
  | true=>
   exfalso;cases o with
   | none=>exact (ho.1 e) rfl
   | some f=>exact (hF.free f rfl).2.2 (hz f).1
 ·exact Hq fun j _=>by unfold Cw;rw[(hz j).2];rfl
 ·rw[hm];decide +kernel
 ·rw[hm];rfl
theorem Vl (w:World):Calls Tryz.prog 18 #[] w fun r w'=>r = .returned (.bool true)∧Below w.heap.size w w':=by
 go_enter func18,ntmps18
 go_wp2_with fail
 refine (EB 2 2 2 none 0 [] w ⟨az _,by decide,fun _=>rfl,fun i u h=>(by simp at h)⟩).mono ?_;rintro r w1 ⟨H,rfl,ho,hr,hf,hg,_,_,_,_,n⟩;have j:H.ma=⟨zu 2,Ct 2,qy 2,qy 2,⟨[],2⟩,[],[⟨true,[],zTb⟩]⟩:=(n rfl).trans new2;obtain⟨n1,n2,n3,n4,n5⟩:=Sw j hf hg;have ht:Hid (H.ma.sl.length=2):=Lib.hid (by rw[j];rfl);have hx:Hid (H.fi.length=0):=Lib.hid (by
  have e:H.ma.st.fs.length=0:=by rw[j];rfl
  rwa [show H.ma.st.fs.length=H.fi.length from eH _] at e)
 have hn:=Lib.hid (And.intro n1 (And.intro n2 (And.intro n3 (And.intro n4 n5))));have hR:=Lib.hid hf;have hC:=Lib.hid hg;have hl:=ho.rd;clear n j hf hg ho n1 n2 n3 n4 n5
 go_wp2_with (refine aF rfl _ _ _ rfl (bS H) rfl rfl rfl machine_size (fI _) ?_)
 intro w2 hd bx2;have hb:=hl.below hd;have y:=ae hr hd;clear hl hr hd;generalize w1.heap.size=gm at bx2
 go_wp2_with (refine ax _ _ rfl gm 0 rfl rfl _ bx2.rd _ underlying41 rfl machine_size ?_)
 refine (EP H _ hb hR.out hC.out).mono ?_;rintro r w3 ⟨l,K,rfl,hw,hq⟩;rw[hn.out.1];have hz:Hid (K.m.fs.length=2):=Lib.hid (by have:=hn.out.2.1;rw[←hq] at this;exact this);have hk:=hb.below l;have bx3:=bx2.ext l;have x:=ae y l;clear hb bx2 y l hw hq
 go_wp2_with (refine aF rfl _ _ _ rfl (bS K) rfl rfl rfl machine_size (fI _) ?_)
 intro w4 k kx4;have ha:=hk.below k;have bx4:=bx3.ext k;have v:=ae x k;clear hk bx3 x k;generalize w3.heap.size=gk at kx4
 go_wp2_with (refine ax _ _ rfl gm 0 rfl rfl _ bx4.rd _ underlying41 rfl machine_size ?_)
 refine (Em H _ ha hR.out hC.out).mono ?_;rintro r w5 ⟨g,N,rfl,hv,hp⟩;have hy:Hid (N.sl.length=2):=Lib.hid (by
  have e:N.ma.sl.length=2:=by rw[hp];unfold si;rw[hn.out.2.2.1];exact ht.out
  exact e)
 rw[hn.out.2.2.1];have hj:=ha.below g;have bx5:=bx4.ext g;have kx5:=kx4.ext g;have t:=ae v g;clear ha bx4 kx4 v g hv hp
 go_wp2_with (refine aF rfl _ _ _ rfl (bS N) rfl rfl rfl machine_size (fI _) ?_)
 intro w6 f nx6;have z:=hj.below f;have bx6:=bx5.ext f;have kx6:=kx5.ext f;have s:=ae t f;clear hj bx5 kx5 t f;generalize w5.heap.size=gn at nx6
 go_wp2_with (refine ax _ _ rfl gm 0 rfl rfl _ bx6.rd _ underlying41 rfl machine_size ?_)
 refine (Nn H 0 _ z hR.out hC.out).mono ?_;rintro r w7 ⟨c,X,rfl,hu,hm⟩;have hs:Hid (X.dk.blocks.length=2∧X.sp.length=1):=Lib.hid (by have e1:=hn.out.2.2.2.1;have e2:=hn.out.2.2.2.2;rw[←hm] at e1 e2;exact⟨e1,by rwa [Dq] at e2⟩);have hi:=z.below c;have bx7:=bx6.ext c;have kx7:=kx6.ext c;have nx7:=nx6.ext c;have q:=ae s c;clear z bx6 kx6 nx6 s c hu hm
 go_wp2_with (refine aF rfl _ _ _ rfl (bS X) rfl rfl rfl machine_size (fI _) ?_)
 intro w8 b xx8;have hh:=hi.below b;have bx8:=bx7.ext b;have kx8:=kx7.ext b;have nx8:=nx7.ext b;have p:=ae q b;clear hi bx7 kx7 nx7 q b;generalize w7.heap.size=gx at xx8
 go_wp2_with (refine ax _ _ rfl gm 0 rfl rfl _ bx8.rd _ underlying41 rfl machine_size ?_)
 refine (EN H 0 _ hh hR.out hC.out (.inr (by rw[hx.out];decide))).mono ?_;rintro r w9 ⟨rfl,d⟩;have kx9:=kx8.ext d;have nx9:=nx8.ext d;have xx9:=xx8.ext d;have o:=ae p d;clear hh bx8 kx8 nx8 xx8 p d
 go_wp2_with (refine aF rfl _ _ _ rfl (bS noH) rfl rfl rfl machine_size (fI _) ?_)
 intro w10 a zx10;have kx10:=kx9.ext a;have nx10:=nx9.ext a;have xx10:=xx9.ext a;have hc:=ae o a;clear kx9 nx9 xx9 o a zx10;have ck:=kx10.cell;have cn:=nx10.cell;have cx:=xx10.cell;unfold bS at ck cn cx;rw[hz.out] at ck;rw[hy.out] at cn;rw[hs.out.1,hs.out.2] at cx;go_wp2;go_ret;exact⟨rfl,hc⟩
theorem Lg (f:Fr) (w:World):Calls Tryz.prog 122 #[.agg (vv f)] w fun e w'=>e = .returned (.int .i64 (dR f))∧Below w.heap.size w w':=by
 have hE:∀W,(Op.equalIn 10000 79 (.agg #[.int .u8 f.p[0].toNat,.int .u8 f.p[1].toNat,.int .u8 f.p[2].toNat,.int .u8 f.p[3].toNat,.int .u8 f.p[4].toNat,.int .u8 f.p[5].toNat,.int .u8 f.p[6].toNat,.int .u8 f.p[7].toNat]) (.agg #[.int .u8 0,.int .u8 0,.int .u8 0,.int .u8 0,.int .u8 0,.int .u8 0,.int .u8 0,.int .u8 0])).run Tryz.prog W = .ok (f.p==zPg) W:=Xr f.p zPg;have b:∀W,(Op.equalIn 9999 79 (.agg #[.int .u8 f.p[0].toNat,.int .u8 f.p[1].toNat,.int .u8 f.p[2].toNat,.int .u8 f.p[3].toNat,.int .u8 f.p[4].toNat,.int .u8 f.p[5].toNat,.int .u8 f.p[6].toNat,.int .u8 f.p[7].toNat]) (.agg #[.int .u8 0,.int .u8 0,.int .u8 0,.int .u8 0,.int .u8 0,.int .u8 0,.int .u8 0,.int .u8 0])).run Tryz.prog W = .ok (f.p==zPg) W:=XB f.p zPg;go_enter func122,ntmps122;unfold vv;cases hp:(f.p==zPg)
 all_goals rw[hp] at hE b
 all_goals have a:=Lib.hid hp
 all_goals clear hp
 all_goals go_wp2
 all_goals go_ret
 all_goals refine⟨?_,(Below.refl _ _).alloc (az _) _⟩
 all_goals have hp:=a.out
 all_goals clear hE b a
 all_goals go_light
 all_goals refine congrArg (fun z=>Ending.returned (.int .i64 z)) ?_
 all_goals simp only[dR,DJ,Hf,BS,uG,dU,decide_eq_true_eq,ne_eq,bne_iff_ne]
 all_goals simp_all
 all_goals omega
theorem JV (m:Mem) (a:Option Addr) (c:Nat) (w:World) (h:RP w a c m) :
  Calls Tryz.prog 82 #[.agg #[.slice a m.fs.length c,.int .i64 m.hand]] w fun e w'=>e = .returned (.int .i64 (bR m))∧Below w.heap.size w w':=by
 have hl:=aY h.le h.mx;unfold maxLen at hl;go_enter func82,ntmps82;go_upto_region 1 with (fail);refine gF (fun W=>Code.wp _ _ _ _ W) fun W0 r p v => ?_;clear v;have t:=p.cell
 by_cases h4:40<m.fs.length
 ·have hW:bR m=4:=by unfold bR;rw[if_pos h4]
  have z : (40:Int)<(m.fs.length:Int):=by omega
  go_wp2;go_ret;rw[hW];exact⟨rfl,r⟩
 have z : ¬(40:Int)<(m.fs.length:Int):=by omega
 go_wp2;clear t
 go_loopw [13] (fun i wr => ∃k:Nat,k≤m.fs.length∧i = .int .i64 k∧Below w.heap.size w wr∧aA wr w.heap.size #[.slice a m.fs.length c,.int .i64 m.hand] 28∧∀i (h:i<m.fs.length),i<k→dR m.fs[i]=0) (fun i _=>m.fs.length-(intOf i).toNat)
 case atStart=>exact⟨0,aW _,rfl,r,p,fun i _ h=>absurd h (eG _)⟩
 case round=>
  clear p r;obtain⟨k,hk,rfl,d,hx,s⟩:=hrel;have l:=Lib.hid s;clear s
  by_cases hlt:k<m.fs.length
  ·obtain⟨b,off,rfl,hc⟩:=KM (h.below d).rd k hlt;obtain⟨c0,c1,c2,c3,c4,c5,c6,c7,c8,c9,ca,cb,cc⟩:=hc;have ha:(k:Int)<(m.fs.length:Int):=by omega
   have hf:=fun w=>Lg m.fs[k] w;unfold vv at hf
   by_cases he:dR m.fs[k]=0
   ·have x:=Lib.hid he;rw[he] at hf;clear he;go_upto_region 6 with (fail);refine gF (fun W=>Code.wp _ _ _ _ W) fun w1 g o q => ?_;have f:=ae d g;have u:=hx.ext g;clear q d hx g;have y:=o.cell
    go_wp2_with fail
    refine (hf _).mono ?_;rintro e w2 ⟨rfl,n⟩;go_wp2;go_roundw
    case rel=>exact⟨k+1,by omega,by go_num,ae f n,u.ext n,lN l.out hlt x.out⟩
    case measure=>simp[intOf];omega
   have hW:bR m=dR m.fs[k]:=by have:=firstEf_at _ k hlt l.out he;unfold bR;rw[if_neg h4,this,if_pos he]
   have hn:(dR m.fs[k] != 0)=true:=by simpa using he
   have j:=Lib.hid hW;clear hW;go_upto_region 6 with (fail);refine gF (fun W=>Code.wp _ _ _ _ W) fun w1 g o q => ?_;have f:=ae d g;clear q d hx g;have y:=o.cell
   go_wp2_with fail
   refine (hf _).mono ?_;rintro e w2 ⟨rfl,n⟩;go_wp2;go_ret;rw[j.out];exact⟨rfl,ae f n⟩
  have h0:firstEf m.fs=0:=firstEf_none _ (fun i hi=>l.out i hi (by omega));have hW:bR m=if m.hand<0∨(0<m.hand∧(m.fs.length:Int)≤m.hand) then 3 else 0:=by unfold bR;rw[if_neg h4,h0];rfl
  have j:=Lib.hid hW;have t:=hx.cell;clear hW h0
  by_cases n0:m.hand=0
  ·have nb:(m.hand != 0)=false:=by simp[n0]
   have n0':=Lib.hid n0;clear n0;go_wp2
   all_goals
    go_ret;rw[j.out,if_neg (by have:=n0'.out;omega)];exact⟨rfl,d⟩
  have nb:(m.hand != 0)=true:=by simpa using n0
  by_cases n1:m.hand<0
  ·go_wp2
   all_goals
    go_ret;rw[j.out,if_pos (.inl n1)];exact⟨rfl,d⟩
  by_cases n3:(m.fs.length:Int)≤m.hand
  ·go_wp2
   all_goals
    go_ret;rw[j.out,if_pos (.inr ⟨by omega,n3⟩)];exact⟨rfl,d⟩
  go_wp2
  all_goals
   go_ret;rw[j.out,if_neg (by omega)];exact⟨rfl,d⟩
def Vv (b:Bool):List Value:=[.bool b]
theorem Ja (b:Bool):(Vv b).length=1:=rfl
theorem bool_info:(Tryz.prog.info? 4).map (fun i=>(i.zero,i.size,i.bytes))=some (some (.bool false),1,1):=by kernel_rfl
theorem bool_sz:(Tryz.prog.info? 4).map (·.size)=some 1:=by kernel_rfl
theorem VW (b:Bool):∀u∈[Value.bool b],u.oneCell' = true:=by intro u hu;cases bv.1 hu;rfl
theorem WZ {l:List Bool} (h:dI w (some ⟨b,off,none⟩) (l.flatMap Vv)) (i:Nat) (x:Bool) (hx:l[i]?=some x):w.cell? ⟨b,off+i,none⟩=some (.bool x):=by
 have hi:=(dn.1 hx).1;obtain⟨b',off',e,hc⟩:=h.elem Ja (by decide) i hi;cases e;have:=hc 0 (.bool x) (by rw[(dn.1 hx).2];rfl);simpa using this
theorem Kv (ps:List PF) (k:Int) (a:Option Addr) (c:Nat) (w:World) (h:Mh w a c ps) (hk64 : -9223372036854775808≤k∧k≤9223372036854775807) :
  Calls Tryz.prog 84 #[.agg (Ql a ps.length c k)] w fun r w'=>r = .returned (.int .i64 (aP (cZ ps k)))∧Below w.heap.size w w':=by
 have kr:=aY h.le h.mx;unfold maxLen at kr;unfold Ql;go_enter func84,ntmps84;go_upto_region 1 with (fail);refine gF (fun W=>Code.wp _ _ _ _ W) fun W0 hK hl ko => ?_;clear ko
 by_cases h4:5<ps.length∨k<0∨80<k
 ·have d:Hid (aP (cZ ps k)=4):=Lib.hid (by unfold aP cZ;rw[if_pos (by simpa using h4)]);have hm:=hl.cell;have kw : 5<ps.length∨(¬5<ps.length∧k<0)∨(¬5<ps.length∧¬k<0∧80<k):=by omega
  clear h4;rcases kw with g|⟨g,g2⟩|⟨g,g2,g3⟩
  all_goals
   go_wp2;go_ret;exact⟨aU d.out.symm,hK⟩
 have m:Hid (aP (cZ ps k)=nU k (((ps.take 0).map PF.fi).flatMap Fi.b) ((ps.drop 0).map PF.fi)):=Lib.hid (by unfold aP cZ;rw[if_neg (by simpa using h4)];rfl);have g1:¬5<ps.length:=by omega
 have g2:¬k<0:=by omega
 have g3:¬80<k:=by omega
 have hm:=hl.cell;clear h4;obtain⟨N,hN⟩:∃N:Nat,k=(N:Int):=⟨k.toNat,by omega⟩;subst hN;have kz:N≤80:=by omega
 go_upto_region 4 with (refine uY _ rfl _ _ _ rfl Vv 4 _ 1 1 false Ja (by decide) underlying118 bool_info rfl .i64 .i64 N N N rfl rfl rfl rfl (by omega) (by unfold maxLen;omega) ?_);clear hm;intro W1 ki hQ;have hW:Below W0.heap.size W0 W1:=ku hQ;have hE:=ae hK hW;have hR:=hl.ext hW;have hG : Own W1 w.heap.size 4 1 (.slice (some ⟨W0.heap.size,0,none⟩) N N) N ((xm N (((ps.take 0).map PF.fi).flatMap Fi.b)).flatMap Vv):=by simp only[IR,bB,Ji];rw[Tt];exact ki.mono hK.size
 obtain⟨gm,kk⟩:∃g,g=W0.heap.size:=⟨_,rfl⟩;rw[←kk] at hG ⊢;clear kk hK hl hW ki hQ;have hm:=hR.cell;go_upto_region 5 with (fail);clear hm
 go_loopw [28] (fun i wr => ∃(q:Nat),q≤ps.length∧i = .int .i64 q∧Below w.heap.size w wr∧aA wr w.heap.size #[.slice a ps.length c,.int .i64 (N:Int)] 37∧Own wr w.heap.size 4 1 (.slice (some ⟨gm,0,none⟩) N N) N ((xm N (((ps.take q).map PF.fi).flatMap Fi.b)).flatMap Vv)∧Hid (aP (cZ ps N)=nU N (((ps.take q).map PF.fi).flatMap Fi.b) ((ps.drop q).map PF.fi))) (fun i _=>ps.length-(intOf i).toNat)
 case atStart=>exact⟨0,aW _,rfl,hE,hR,hG,m⟩
 case round=>
  clear hE hR hG m;obtain⟨q,hq,rfl,o,hx,hM,m⟩:=hrel
  by_cases hlt:q<ps.length
  ·obtain⟨b,off,p,rfl,hp,c0,c1⟩:=DT (h.below o).rd q hlt;have kb:=h.good p (bN hp);have hv:=kb.below o;have hz:=drop_at hp;have hs:=take_at hp;rw[hz,bA] at m;have hL:=Lib.hid hs;clear hz hs;generalize hseen:((ps.take q).map PF.fi).flatMap Fi.b=seen at hM m;have hg:=Lib.hid hseen;clear hseen hp
   go_wp2_with (refine aF rfl _ _ _ rfl (pX p) rfl rfl rfl file_size (qK _) ?_)
   intro w2 hF ha;have z:=ae o hF;have h2:=hx.ext hF;have kh:=hM.below hF;have hi:=hv.below hF;clear o hx hM hv hF c0 c1;have hU:=ha.cell;have f0:(pX p)[0]?=some (.int .i64 p.n):=rfl;have f1:(pX p)[1]?=some (.slice p.a p.l.length p.c):=rfl
   by_cases hn96:p.n<0∨96<p.n
   ·have d:Hid (aP (cZ ps N)=3):=Lib.hid (by rw[m.out,vS,if_pos hn96]);have kp : p.n<0∨(¬p.n<0∧96<p.n):=by omega
    clear hn96;rcases kp with g|⟨g,g2⟩
    all_goals
     go_wp2;go_ret;exact⟨aU d.out.symm,z⟩
   have u:Hid (aP (cZ ps N)=if (p.l.length:Int)≠dW p.n then 2 else if gL N seen p.l≠0 then gL N seen p.l else nU N (seen++p.l) ((ps.drop (q+1)).map PF.fi)):=Lib.hid (by rw[m.out,vS,if_neg hn96]);have g4:¬p.n<0:=by omega
   have g5:¬96<p.n:=by omega
   clear hn96 m
   by_cases hcnt:(p.l.length:Int)=dW p.n
   ·have t:Hid (aP (cZ ps N)=if gL N seen p.l≠0 then gL N seen p.l else nU N (seen++p.l) ((ps.drop (q+1)).map PF.fi)):=Lib.hid (by rw[u.out,if_neg (fun hh=>hh hcnt)]);have kx:p.l.length≤12:=by have:=yl (n:=p.n) (by omega);omega
    have hV:=Lib.hid hcnt;clear u hcnt;go_upto_region 9 with (fail);refine aK 7 [_,_,_,_,_,.v (.int .i64 (dW p.n)),_] (Gf wr.heap.size 1 rfl rfl (Gl ha (V:=.slice p.a p.l.length p.c) (by simp[f1,underlying29]) rfl rfl rfl rfl (Gn rfl rfl rfl rfl (Gf wr.heap.size 0 rfl rfl (Gl ha (V:=.int .i64 p.n) (by simp[f0]) rfl rfl rfl rfl (ag ?_ (Gb (.bool false) (by simp[go_sem,hV.out]) rfl rfl rfl rfl rfl (aB))))) (underlying29)))) (fun _=>rfl) rfl ?_
    ·intro ρ y W hw hn hb hd;have h0:=hw 44 4 rfl;have h4:y 4=_:=hd 4 rfl;have EF:∀f,ρ (.func f) = .func (.func f) #[] #[]:=fun f=>hn (.func f) trivial;refine aL _ _ (ah rfl) (aO rfl (EF _) func31 (by kernel_rfl) (by kernel_rfl) (by simp only[bH,bA,bB,h0,h4,EF];rfl)) ?_;refine (yP p.n W (by omega)).mono ?_;rintro e w1 ⟨rfl,rfl⟩;exact⟨_,rfl,Below.refl _ _,rfl⟩
    intro y WA s _;have hC:=ae z s;have h1:=h2.ext s;have kf:=kh.below s;have kc:=ha.ext s;have hI:=hi.below s;clear z h2 kh ha hi s hU;have hU:=kc.cell;have km:Hid (gL N seen p.l=gL N (seen++p.l.take 0) (p.l.drop 0)):=Lib.hid (by simp);have kj:Own WA w.heap.size 4 1 (.slice (some ⟨gm,0,none⟩) N N) N ((xm N (seen++p.l.take 0)).flatMap Vv):=by simpa using kf
    have kA:=hI.le;have kq:=hI.mx;have hO:=hI.rd;unfold maxLen at kq;clear kf hI;go_upto_region 12 with (fail);clear hU f0 f1 kc
    go_loopw [50] (fun i wr => ∃(j:Nat),j≤p.l.length∧i = .int .i64 j∧Below w.heap.size w wr∧aA wr w.heap.size #[.slice (some ⟨b,off,none⟩) ps.length c,.int .i64 (N:Int)] 37∧Own wr w.heap.size 4 1 (.slice (some ⟨gm,0,none⟩) N N) N ((xm N (seen++p.l.take j)).flatMap Vv)∧dI wr p.a (p.l.map gB)∧Hid (gL N seen p.l=gL N (seen++p.l.take j) (p.l.drop j))) (fun i _=>p.l.length-(intOf i).toNat)
    case atStart=>exact⟨0,aW _,rfl,hC,h1,kj,hO,km⟩
    case round=>
     clear hC h1 kj hO km;obtain⟨j,hj,rfl,o,hx,hM,hS,hB⟩:=hrel
     by_cases hjl:j<p.l.length
     ·obtain⟨x,hX⟩:∃x,p.l[j]?=some x:=⟨p.l[j],aI hjl⟩;obtain⟨b2,off2,hT,hc⟩:=jD hS j hjl;rw[show p.l[j]=x from (dn.1 hX).2] at hc;have hz:=drop_at hX;have hs:=take_at hX;rw[hz,vZ] at hB;rw[hT];generalize hs2:seen++p.l.take j=seen2 at hB hM;have hf:Hid (seen++p.l.take (j+1)=seen2++[x]):=Lib.hid (by rw[hs,←iw,hs2]);have h6:=Lib.hid hS;have hP:=Lib.hid hT;have hm:=hx.cell;clear hX hz hs hs2 hS hT;have ka : (j:Int)<(p.l.length:Int):=by omega
      by_cases hr3:x < -1∨(N:Int)≤x
      ·have d:Hid (aP (cZ ps N)=3):=Lib.hid (by rw[t.out,hB.out,if_pos hr3];rfl);have h8 : x < -1∨(¬x < -1∧(N:Int)≤x):=by omega
       clear hr3;rcases h8 with g6|⟨g6,g7⟩
       all_goals
        go_wp2;go_ret;exact⟨aU d.out.symm,o⟩
      have g6:¬x < -1:=by omega
      have g7:¬(N:Int)≤x:=by omega
      have hr:Hid (gL N seen p.l=if 0≤x∧x∈seen2 then 7 else gL N (seen2++[x]) (p.l.drop (j+1))):=Lib.hid (by rw[hB.out,if_neg hr3]);clear hB hr3
      by_cases hl:x<0
      ·have e1:x = -1:=by omega
       have hZ:Hid (gL N seen p.l=gL N (seen++p.l.take (j+1)) (p.l.drop (j+1))):=Lib.hid (by rw[hr.out,if_neg (by omega),hf.out]);have kv:Own wr w.heap.size 4 1 (.slice (some ⟨gm,0,none⟩) N N) N ((xm N (seen++p.l.take (j+1))).flatMap Vv):=by rw[hf.out,RF _ _ _ hl];exact hM
       have h5:dI wr (some ⟨b2,off2,none⟩) (p.l.map gB):=by rw[←hP.out];exact h6.out
       clear hr hM;go_wp2;go_roundw
       case rel=>exact⟨j+1,by omega,by go_num,o,hx,kv,h5,hZ⟩
       case measure=>simp[intOf];omega
      obtain⟨X,ks⟩:∃X:Nat,x=(X:Int):=⟨x.toNat,by omega⟩;subst ks;have hY:X<N:=by omega
      have ky : (X:Int)<(N:Int):=by omega
      obtain⟨_,_,hH,_,_,_,ke⟩:=hM.rd;simp only[mi] at hH;obtain⟨rfl,_,rfl⟩:=hH;have hJ:=WZ ke X (decide ((X:Int)∈seen2)) (Jt N seen2 X hY);rw[dZ] at hJ;clear ke
      by_cases h7:(X:Int)∈seen2
      ·have d:Hid (aP (cZ ps N)=7):=Lib.hid (by rw[t.out,hr.out,if_pos (show 0≤(X:Int)∧(X:Int)∈seen2 from ⟨by omega,h7⟩)];rfl);rw[decide_eq_true h7] at hJ;clear h7 hr;go_wp2;go_ret;exact⟨aU d.out.symm,o⟩
      have hZ:Hid (gL N seen p.l=gL N (seen++p.l.take (j+1)) (p.l.drop (j+1))):=Lib.hid (by rw[hr.out,if_neg (fun hh=>h7 hh.2),hf.out]);rw[decide_eq_false h7] at hJ;clear h7 hr;obtain⟨g3,off3,cap3,cur3,hH,kl,hA,hy,ht⟩:=mF Ja (by decide) (zR N seen2) hM X hY;cases hH
      go_wp2_with (refine aD rfl _ _ _ rfl gm X _ [.bool true] rfl rfl rfl cur3 4 hA (by simpa using hy) bool_sz (VW true) ?_)
      intro w6 kd hu;have kg:=ht w6 true (by rw[dZ,qI];exact kd);rw[Tz _ _ _ hY,←hf.out] at kg;have hD:=o.grown hu o.size (fun k hk=>by cases hk;exact kl);have kn:=bu hx hA (by decide) hu;have h3:dI w6 (some ⟨b2,off2,none⟩) (p.l.map gB):=by have h9:=kb.rd.below hD;rw[hP.out] at h9;exact h9
      clear o hx hM hu hm hc ht hA kd hJ hy;go_wp2;go_roundw
      case rel=>exact⟨j+1,by omega,by go_num,hD,kn,kg,h3,hZ⟩
      case measure=>simp[intOf];omega
     have d:Hid (aP (cZ ps N)=nU N (((ps.take (q+1)).map PF.fi).flatMap Fi.b) ((ps.drop (q+1)).map PF.fi)):=Lib.hid (by
      have e0:gL N seen p.l=0:=by rw[hB.out,qA (by omega)];rfl
      rw[t.out,if_neg (fun hh=>hh e0),hL.out,gz,fu,hg.out];simp[PF.fi])
     have kt:Own wr w.heap.size 4 1 (.slice (some ⟨gm,0,none⟩) N N) N ((xm N (((ps.take (q+1)).map PF.fi).flatMap Fi.b)).flatMap Vv):=by rw[iJ (by omega)] at hM;rw[hL.out,gz,fu,hg.out];simpa[PF.fi] using hM
     have ka : ¬(j:Int)<(p.l.length:Int):=by omega
     clear hM hB t;go_wp2;go_roundw
     case rel=>exact⟨q+1,by omega,by go_num,o,hx,kt,d⟩
     case measure=>simp[intOf];omega
   have d:Hid (aP (cZ ps N)=2):=Lib.hid (by rw[u.out,if_pos hcnt]);have hV:((p.l.length:Int) != dW p.n)=true:=by rw[bne_iff_ne];exact hcnt
   clear u hcnt;go_upto_region 9 with (fail);refine aK 7 [_,_,_,_,_,.v (.int .i64 (dW p.n)),_] (Gf wr.heap.size 1 rfl rfl (Gl ha (V:=.slice p.a p.l.length p.c) (by simp[f1,underlying29]) rfl rfl rfl rfl (Gn rfl rfl rfl rfl (Gf wr.heap.size 0 rfl rfl (Gl ha (V:=.int .i64 p.n) (by simp[f0]) rfl rfl rfl rfl (ag ?_ (Gb (.bool true) (by simp[go_sem,hV]) rfl rfl rfl rfl rfl (aB))))) (underlying29)))) (fun _=>rfl) rfl ?_
   ·intro ρ y W hw hn hb hd;have h0:=hw 44 4 rfl;have h4:y 4=_:=hd 4 rfl;have EF:∀f,ρ (.func f) = .func (.func f) #[] #[]:=fun f=>hn (.func f) trivial;refine aL _ _ (ah rfl) (aO rfl (EF _) func31 (by kernel_rfl) (by kernel_rfl) (by simp only[bH,bA,bB,h0,h4,EF];rfl)) ?_;refine (yP p.n W (by omega)).mono ?_;rintro e w1 ⟨rfl,rfl⟩;exact⟨_,rfl,Below.refl _ _,rfl⟩
   intro y WA s _;go_wp2;go_ret;exact⟨aU d.out.symm,ae z s⟩
  have d:Hid (aP (cZ ps N)=0):=Lib.hid (by rw[m.out,qA (by omega)];rfl);go_wp2;go_ret;exact⟨aU d.out.symm,o⟩
theorem Km {s:St} {b:Int} (h:b∈kF s):gW s b=true:=by
 cases hu:gW s b with
 | true=>rfl
 | false=>exact absurd h (Ia hu)
theorem WF {t:Tb} (h:dh t=0) (h0:∀n,(dK t n).k=0):t=zTb:=
 VX h zTb_right fun n=>by
  rw[xC];have h1:=(cO _).1 (pY h n);have h2:=h0 n;rcases h1 with ⟨_,e1,e2⟩|⟨e,_⟩|⟨e,_⟩
  ·generalize dK t n=x at *
   obtain⟨a,b,c⟩:=x;simp only at h2 e1 e2;subst h2;subst e1;subst e2;rfl
  ·omega
  ·omega
theorem PI (H:MH) (w:World) (h:BH w H) (hR:Rt H.ma) :
  Calls Tryz.prog 48 #[.agg (bS H)] w fun r w'=>r = .returned (.int .i64 0)∧Below w.heap.size w w':=by
 have hh:=Lib.hid h;have hq:=Lib.hid hR;have i:=Lib.hid hR.pt;have z1:H.dk.blocks.length≤1000:=(kU hR).dkb;have z2:H.dk.queue.length≤1000:=(kU hR).dkq;clear hR;go_enter func48,ntmps48;go_upto_region 1 with (fail);refine gF (fun W=>Code.wp _ _ _ _ W) fun w1 hp bx1 hy => ?_;have bx1:aA w1 w.heap.size (bS H) 41:=bx1;have h1:=h.below hp;clear h hy;have r1:dI w1 (some ⟨w.heap.size,0,none⟩) [.slice H.af H.m.fs.length H.cf,.int .i64 H.m.hand]:=bL bx1 0 2
 go_wp2_with (refine ax _ _ rfl w.heap.size 0 rfl rfl _ r1 _ underlying28 rfl mem_size ?_)
 refine (JV H.m H.af H.cf _ h1.fr).mono ?_;rintro r w2 ⟨rfl,y⟩;rw[show bR H.m=0 from i.out.fr];have h2:=h1.below y;have bx2:=bx1.ext y;have hg:=ae hp y;clear h1 bx1 hp y r1;have hc:=bx2.cell;unfold bS at hc
 go_wp2_with fail
 refine (Lh H.sl H.asl H.csl _ h2.sl.rd (by have:=h2.sl.le;have:=h2.sl.mx;unfold maxLen at this;omega)).mono ?_;rintro r w2' ⟨rfl,rfl⟩;rw[show dx H.sl=0 from i.out.sl];clear hc;have r2:dI w2' (some ⟨w.heap.size,3,none⟩) [.slice H.wb H.sw.blocks.length H.cwb,.slice H.wq H.sw.queue.length H.cwq]:=bL bx2 3 2
 go_wp2_with (refine ax _ _ rfl w.heap.size 3 rfl rfl _ r2 _ underlying34 rfl disk_size ?_)
 refine (xx H.sw H.wb H.cwb H.wq H.cwq _ h2.sw).mono ?_;rintro r w3 ⟨rfl,x⟩;rw[show bi H.sw=0 from i.out.sw];have h3:=h2.below x;have bx3:=bx2.ext x;have hf:=ae hg x;clear h2 bx2 hg x r2;have r3:dI w3 (some ⟨w.heap.size,5,none⟩) [.slice H.db H.dk.blocks.length H.cdb,.slice H.dq H.dk.queue.length H.cdq]:=bL bx3 5 2
 go_wp2_with (refine ax _ _ rfl w.heap.size 5 rfl rfl _ r3 _ underlying34 rfl disk_size ?_)
 refine (xx H.dk H.db H.cdb H.dq H.cdq _ h3.dk).mono ?_;rintro r w4 ⟨rfl,v⟩;rw[show bi H.dk=0 from i.out.dk];have h4:=h3.below v;have bx4:=bx3.ext v;have hd:=ae hf v;clear h3 bx3 hf v r3;have r4:dI w4 (some ⟨w.heap.size,7,none⟩) [.slice H.ai H.fi.length H.ci,.int .i64 H.ct]:=bL bx4 7 2
 go_wp2_with (refine ax _ _ rfl w.heap.size 7 rfl rfl _ r4 _ underlying37 rfl store_size ?_)
 refine (Kv H.fi H.ct H.ai H.ci _ h4.st h4.c64).mono ?_;rintro r w5 ⟨rfl,hn⟩;rw[show aP (cZ H.fi H.ct)=0 from i.out.st];have bx5:=bx4.ext hn;have hb:=ae hd hn;clear h4 bx4 hd hn r4;have l1:Hid (H.sw.blocks.length=H.sl.length):=Lib.hid i.out.swl;have l2:Hid ((H.dk.blocks.length:Int)=H.ct):=Lib.hid i.out.dkl;have hc:=bx5.cell;unfold bS at hc;rw[←l2.out,l1.out] at hc;go_upto_region 18 with (fail);rw[←l1.out,l2.out] at hc;go_wp2
 go_loopw [68] (fun s68 wr => ∃k:Nat,k≤H.dk.blocks.length∧s68 = .int .i64 k∧Below w.heap.size w wr∧aA wr w.heap.size (bS H) 41) (fun s68 _=>H.dk.blocks.length-(intOf s68).toNat)
 case atStart=>exact⟨0,aW _,rfl,hb,bx5⟩
 case round=>
  clear hb bx5 hc;obtain⟨k,hk,rfl,a,bx⟩:=hrel;have hM:=hh.out.below a
  by_cases hkl:k<H.dk.blocks.length
  ·obtain⟨bd,od,p,j⟩:=jH kC (by decide) hM.dk.rb k hkl;have l:(k:Int)<(H.dk.blocks.length:Int):=by omega
   have hz:Hid ((k:Int)∈kF H.ma.st∨H.dk.blocks[k]=zPg):=Lib.hid (by
    have:=hq.out.trim.1 k (by omega) (by exact_mod_cast hkl);rw[bX] at this;have e:H.ma.dk.blocks.getD k zPg=H.dk.blocks[k]:=by show H.dk.blocks.getD k zPg=_;rw[aV,aI hkl];rfl
    rw[e] at this;exact this)
   generalize H.dk.blocks[k]=P at *
   rw[p]
   go_wp2_with (first | (refine ax _ _ rfl bd (od+k*8) rfl rfl _ j _ underlying79 rfl psize ?_) | (refine aF rfl _ _ _ rfl (fQ P) rfl rfl rfl psize (fT _) ?_))
   intro w6 c px6;have d:=ae a c;have bx6:=bx.ext c;have q:=hM.below c;clear a bx c j hM;have r6:dI w6 (some ⟨w.heap.size,7,none⟩) [.slice H.ai H.fi.length H.ci,.int .i64 H.ct]:=bL bx6 7 2
   go_wp2_with (refine ax _ _ rfl w.heap.size 7 rfl rfl _ r6 _ underlying37 rfl store_size ?_)
   refine (Bz H.fi H.ct k H.ai H.ci _ q.st).mono ?_;rintro r w7 ⟨rfl,b⟩;have g:=ae d b;have bx7:=bx6.ext b;have px7:=px6.ext b;clear d bx6 q px6 b r6;cases hu:gW (cZ H.fi H.ct) (k:Int) with
   | true=>
    clear px7;go_wp2;go_roundw
    case rel=>exact⟨k+1,by omega,by go_num,g,bx7⟩
    case measure=>simp[intOf];omega
   | false=>
    have hP:P=zPg:=by
     rcases hz.out with e|e
     ·have h9:=Km e;exact absurd (h9.symm.trans hu) (by decide)
     ·exact e
    subst hP;have f:=px7.cell;rw[lit0] at f;have hE:∀W,(Op.equalIn 10000 79 (.agg #[.int .u8 0,.int .u8 0,.int .u8 0,.int .u8 0,.int .u8 0,.int .u8 0,.int .u8 0,.int .u8 0]) (.agg #[.int .u8 0,.int .u8 0,.int .u8 0,.int .u8 0,.int .u8 0,.int .u8 0,.int .u8 0,.int .u8 0])).run Tryz.prog W = .ok true W:=fun W=>Xr zPg zPg W;go_wp2;go_roundw
    case rel=>exact⟨k+1,by omega,by go_num,g,bx7⟩
    case measure=>simp[intOf];omega
  have l:¬(k:Int)<(H.dk.blocks.length:Int):=by omega
  have hc:=bx.cell;unfold bS at hc;clear hM;go_wp2
  go_loopw [88] (fun s88 wr => ∃k:Nat,k≤H.dk.queue.length∧s88 = .int .i64 k∧Below w.heap.size w wr∧aA wr w.heap.size (bS H) 41) (fun s88 _=>H.dk.queue.length-(intOf s88).toNat)
  case atStart=>exact⟨0,aW _,rfl,a,bx⟩
  case round=>
   clear a bx hc l;obtain⟨k,hk,rfl,a,bx⟩:=hrel;have hM:=hh.out.below a
   by_cases hkl:k<H.dk.queue.length
   ·obtain⟨bd,od,p,j⟩:=jH wB (by decide) hM.dk.rq k hkl;have l:(k:Int)<(H.dk.queue.length:Int):=by omega
    have hr:gW (cZ H.fi H.ct) (H.dk.queue[k]).1=true:=Km (hq.out.trim.2 _ (dM hkl));generalize H.dk.queue[k]=X at *
    rw[p]
    go_wp2_with (first | (refine ax _ _ rfl bd (od+k*9) rfl rfl _ j _ underlying86 rfl put_size ?_) | (refine aF rfl _ _ _ rfl (FK X) rfl rfl rfl put_size (OL _) ?_))
    intro w6 c px6;have d:=ae a c;have bx6:=bx.ext c;have q:=hM.below c;clear a bx c j hM;have f:=px6.cell;unfold FK at f;have r6:dI w6 (some ⟨w.heap.size,7,none⟩) [.slice H.ai H.fi.length H.ci,.int .i64 H.ct]:=bL bx6 7 2
    go_wp2_with (refine ax _ _ rfl w.heap.size 7 rfl rfl _ r6 _ underlying37 rfl store_size ?_)
    refine (Bz H.fi H.ct X.1 H.ai H.ci _ q.st).mono ?_;rintro r w7 ⟨rfl,b⟩;have g:=ae d b;have bx7:=bx6.ext b;rw[hr];clear d bx6 q px6 b r6 f hr;go_wp2;go_roundw
    case rel=>exact⟨k+1,by omega,by go_num,g,bx7⟩
    case measure=>simp[intOf];omega
   have l:¬(k:Int)<(H.dk.queue.length:Int):=by omega
   have hc:=bx.cell;unfold bS at hc;have hG:H.sp.length≤4:=by have:=i.out.spl;rw[Dq] at this;exact this
   clear hM;go_wp2
   go_loopw [106] (fun s106 wr => ∃k:Nat,k≤H.sp.length∧s106 = .int .i64 k∧Below w.heap.size w wr) (fun s106 _=>H.sp.length-(intOf s106).toNat)
   case atStart=>exact⟨0,aW _,rfl,a⟩
   case round=>
    clear a bx hc l;obtain⟨k,hk,rfl,a⟩:=hrel;have hM:=hh.out.below a
    by_cases hkl:k<H.sp.length
    ·obtain⟨bd,od,P,p,hP,j⟩:=wN hM.sp.rd k hkl;have l:(k:Int)<(H.sp.length:Int):=by omega
     have o:=qU hM hP;have ht:P.sp∈H.ma.sp:=by show P.sp∈H.sp.map PS.sp;exact fP.2 ⟨P,bN hP,rfl⟩
     have hF:(bJ P.ar).1=0:=i.out.ar P.sp ht;have hs:dh P.tb=0:=i.out.tb P.sp ht;have hm:Hid (P.lv=false→P.ar=[]∧P.tb=zTb):=Lib.hid fun hl=>by have h9:=hq.out.live k (by rw[yI hP];exact hl);rw[yI hP] at h9;exact⟨h9.1,WF hs fun n=>by have:=h9.2 n;unfold ent at this;rw[yI hP] at this;exact this⟩
     rw[p]
     go_wp2_with (first | (refine ax _ _ rfl bd (od+k*10) rfl rfl _ j _ underlying55 rfl space_size ?_) | (refine aF rfl _ _ _ rfl (uM P) rfl rfl rfl space_size (by rw[←jr,dF];exact o.one) ?_))
     intro w6 c px6;have d:=ae a c;have hj:=o.below c;have hA:=hj.ars;have f:=px6.cell;unfold uM at f;clear a c j hM o
     go_wp2_with fail
     refine (Fx P.ar P.aa P.ac _ hA).mono ?_;rintro r w7 ⟨rfl,b⟩;rw[show Ka (bJ P.ar)=#[.int .i64 0,.int .i64 (bJ P.ar).2] from by unfold Ka;rw[hF]];have g:=ae d b;have hw:=hj.below b;have px7:=px6.ext b;clear f px6 d hj b hA
     go_wp2_with (refine aF rfl _ _ _ rfl #[.int .i64 0,.int .i64 (bJ P.ar).2] rfl rfl rfl fau_size (mO _ _) ?_)
     intro w8 u ux8;have hC:=ux8.cell;have ha:=ae g u;have hi:=hw.below u;have px8:=px7.ext u;clear g hw px7 u;have s:dI w8 (some ⟨wr.heap.size,2,none⟩) (nG P.ts).toList:=bL px8 2 8
     go_wp2_with (refine ax _ _ rfl wr.heap.size 2 rfl rfl _ s _ underlying53 tab_agg tab_size ?_)
     refine (JO P.tb (nG P.ts) _ hi.tb).mono ?_;rintro r w9 ⟨rfl,t⟩;rw[hs];have z:=ae ha t;have hB:=hi.below t;have px9:=px8.ext t;clear hC ux8 ha hi px8 t s;have f:=px9.cell;unfold uM at f;cases hlv:P.lv with
     | true=>
      rw[hlv] at f;go_wp2;go_roundw
      case rel=>exact⟨k+1,by omega,by go_num,z⟩
      case measure=>simp[intOf];omega
     | false=>
      obtain⟨e1,e2⟩:=hm.out hlv;have hv:P.ar.length=0:=by rw[e1];rfl
      rw[hlv,hv] at f;have s:dI w9 (some ⟨wr.heap.size,2,none⟩) (nG P.ts).toList:=bL px9 2 8;have hT:FD w9 (nG P.ts) zTb:=by have:=hB.tb;rw[e2] at this;exact this
      clear hv
      go_wp2_with (refine ax _ _ rfl wr.heap.size 2 rfl rfl _ s _ underlying53 tab_agg tab_size ?_)
      refine (Pf zTb zTb (nG P.ts) (nG nTs) _ hT (zN _ 0).rd).mono ?_;rintro r wa ⟨rfl,hD⟩;rw[LK];have hx:=ae z hD;go_wp2;go_roundw
      case rel=>exact⟨k+1,by omega,by go_num,hx⟩
      case measure=>simp[intOf];omega
    have l:¬(k:Int)<(H.sp.length:Int):=by omega
    go_wp2;go_ret;exact⟨rfl,a⟩
theorem PO (H:MH) (g:Pg) (e:En) (w:World) (h:BH w H) (hR:Rt H.ma) (hf:Tn H.ma g e) (hk:e.k≠0) (he:eT e=0) :
  Calls Tryz.prog 51 #[.agg (bS H),.agg (oC (some g)),.agg (jq e)] w fun r w'=>r = .returned (.int .i64 0)∧Below w.heap.size w w':=by
 have z:=Lib.hid hR;have l:=Lib.hid hf;clear hR hf;go_enter func51,ntmps51;go_upto_region 1 with (fail);refine Nf (fun W=>Code.wp _ _ _ _ W) fun w1 i bx1 ox1 ex1 v => ?_;have bx1:aA w1 w.heap.size (bS H) 41:=bx1;have ox1:aA w1 (w.heap.size+1) #[.bool true,.bool g.rd,.bool g.wr,.bool g.sh,.int .i64 g.fi,.int .i64 g.pg] 109:=ox1;have ex1:aA w1 (w.heap.size+1+1) #[.int .i64 e.k,.int .i64 e.n,.bool e.w] 89:=ex1;have h1:=h.below i;clear h v;have hc:=bx1.cell;unfold bS at hc;have ho:=ox1.cell;have hx:=ex1.cell;have c:=(cO _).1 he
 by_cases k2:e.k=2
 ·obtain⟨q1,q2⟩:=l.out.sw k2;have q1' : e.n<(H.sl.length:Int):=q1;rw[k2] at hx;rw[q2] at ho;clear q1 q2 hk c he k2;go_wp2;go_ret;exact⟨rfl,i⟩
 have k1:e.k=1:=by omega
 have q1' : e.n<(H.m.fs.length:Int):=l.out.lt k1;obtain⟨f1,f2,f3,f4,f5⟩:=l.out.fr k1;have x:0≤e.n:=by omega
 obtain⟨F,hF⟩:∃F:Nat,e.n=F:=⟨e.n.toNat,by omega⟩;have o:F<H.m.fs.length:=by omega
 obtain⟨bf,of,y,t⟩:=jH eZ (by decide) h1.fr.rd F o;have p:aR H.ma e.n.toNat=H.m.fs[F]:=by rw[hF,bX];unfold aR;show H.m.fs.getD F fr0=_;rw[aV,aI o];rfl
 have j:dR H.m.fs[F]=0:=by rw[←p,hF,bX];exact z.out.pt.frE (m:=H.ma) o
 rw[p] at f1 f2 f4 f5;have ha : -1≤(H.m.fs[F]).f:=by
  unfold dR at j;split at j
  ·exact absurd j (by decide)
  rename_i hb;unfold DJ at hb;simp at hb;omega
 generalize H.m.fs[F]=X at *
 rw[k1,hF] at hx;rw[y] at hc;have hd:(F:Int)<(H.m.fs.length:Int):=by omega
 clear c he hk k2 p q1' x
 go_wp2_with (first | (refine ax _ _ rfl bf (of+F*13) rfl rfl _ t _ underlying81 rfl frame_size ?_) | (refine aF rfl _ _ _ rfl (vv X) rfl rfl rfl frame_size (nY _) ?_))
 intro w4 d fx4;have a:=ae i d;have ho:=(ox1.ext d).cell;have hx:=(ex1.ext d).cell;rw[k1] at hx;have s:=fx4.cell;unfold vv at s;clear bx1 ox1 ex1 h1 hc i d t fx4
 by_cases c1:X.f<0
 ·have b:X.f = -1:=by omega
  have u:g.sh=false:=by
   cases hs:g.sh with
   | false=>rfl
   | true=>have:=f2 hs;omega
  rw[b] at s;rw[u] at ho;cases hw:e.w with
  | false=>
   rw[hw] at hx
   by_cases c2:0≤g.fi
   ·have c3:¬(-1:Int)=g.fi:=by omega
    clear f1 f2 f3 f4 f5 b;go_wp2
    all_goals go_ret
    all_goals exact⟨rfl,a⟩
   clear f1 f2 f3 f4 f5 b;go_wp2
   all_goals go_ret
   all_goals exact⟨rfl,a⟩
  | true=>
   rw[hw] at hx;have h3:=f3 hw;have h5:=f5 hw c1;rw[h3] at ho
   by_cases c2:0≤g.fi
   ·have c3:¬(-1:Int)=g.fi:=by omega
    clear f1 f2 f3 f4 f5 b;go_wp2
    all_goals go_ret
    all_goals exact⟨rfl,a⟩
   clear f1 f2 f3 f4 f5 b;go_wp2
   all_goals go_ret
   all_goals exact⟨rfl,a⟩
 have q:0≤X.f:=by omega
 obtain⟨p1,p2⟩:=f1 q;rw[←p1,←p2] at ho;have c2:(X.f == -1)=false:=by simp;omega
 clear p1 p2;cases hw:e.w with
 | false=>
  rw[hw] at hx;clear f1 f2 f3 f4 f5;go_wp2
  all_goals go_ret
  all_goals exact⟨rfl,a⟩
 | true=>
  rw[hw] at hx;have h3:=f3 hw;have h4:=f4 hw q;rw[h3,h4] at ho;clear f1 f2 f3 f4 f5;go_wp2
  all_goals go_ret
  all_goals exact⟨rfl,a⟩
theorem IW {l:List En} (h:l.length=64):wX l=(tL l).toArray:=by
 unfold wX tL;congr 1;have e:l=(List.range 64).map fun i=>l.getD i zEn:=by
  apply uf
  ·simp[h]
  intro i h1 h2;simp[aV,aI h1]
 conv=>lhs;rw[e,CX]
theorem AZ (H:MH) (kd k:Int) (w:World) (h:BH w H) (hR:Rt H.ma) :
  Calls Tryz.prog 52 #[.agg (bS H),.int .i64 kd,.int .i64 k] w fun r w'=>r = .returned (.int .i64 (dD H.ma kd k:Int))∧Below w.heap.size w w':=by
 have hj:=Lib.hid hR.pt;have hh:=Lib.hid h;have hu:H.sp.length≤4:=by have:=hR.pt.spl;rw[Dq] at this;exact this
 clear hR;go_enter func52,ntmps52;go_upto_region 1 with (fail);refine gF (fun W=>Code.wp _ _ _ _ W) fun w1 hb bx1 hg => ?_;have bx1:aA w1 w.heap.size (bS H) 41:=bx1;clear h hg;have hc:=bx1.cell;unfold bS at hc;go_wp2
 go_loopw [15,7] (fun s15 s7 wr => ∃p n:Nat,p≤H.sp.length∧s15 = .int .i64 p∧s7 = .int .i64 n∧n≤64*p∧Below w.heap.size w wr∧Hid (n=((H.sp.take p).map fun s=>(dA s.tb).countP (rD kd k)).sum)) (fun s15 _ _=>H.sp.length-(intOf s15).toNat)
 case atStart=>exact⟨0,0,aW _,rfl,rfl,az _,hb,Lib.hid (by simp)⟩
 case round=>
  clear hb bx1 hc;obtain⟨p,n,hp,rfl,rfl,hn,a,f⟩:=hrel;have hM:=hh.out.below a
  by_cases hpl:p<H.sp.length
  ·obtain⟨bd,od,P,ht,hP,v⟩:=wN hM.sp.rd p hpl;have hk:(p:Int)<(H.sp.length:Int):=by omega
   have c:=qU hM hP;have hf:P.sp∈H.ma.sp:=by show P.sp∈H.sp.map PS.sp;exact fP.2 ⟨P,bN hP,rfl⟩
   have hd:dh P.tb=0:=hj.out.tb P.sp hf;have e:Hid (((H.sp.take (p+1)).map fun s=>(dA s.tb).countP (rD kd k)).sum=n+(dA P.tb).countP (rD kd k)):=Lib.hid (by rw[mf,hP,gz,List.sum_append,←f.out];simp);rw[ht]
   go_wp2_with (first | (refine ax _ _ rfl bd (od+p*10) rfl rfl _ v _ underlying55 rfl space_size ?_) | (refine aF rfl _ _ _ rfl (uM P) rfl rfl rfl space_size (by rw[←jr,dF];exact c.one) ?_))
   intro w6 t px6;have q:=ae a t;have x:=c.below t;clear a t v hM c;have u:dI w6 (some ⟨wr.heap.size,2,none⟩) (nG P.ts).toList:=bL px6 2 8
   go_wp2_with (refine ax _ _ rfl wr.heap.size 2 rfl rfl _ u _ underlying53 tab_agg tab_size ?_)
   refine (BO P.tb (nG P.ts) _ x.tb hd).mono ?_;rintro r w7 ⟨rfl,ha⟩;have o:=ae q ha;clear u px6 x q ha;have hr:=yg P.tb;generalize dA P.tb=l at *
   rw[IW hr];go_wp2
   go_loopw [22,7] (fun s22 s7 wr => ∃i m:Nat,i≤64∧s22 = .int .i64 i∧s7 = .int .i64 m∧m≤64*p+i∧Below w.heap.size w wr∧Hid (m=n+(l.take i).countP (rD kd k))) (fun s22 _ _=>64-(intOf s22).toNat)
   case atStart=>exact⟨0,n,aW _,rfl,rfl,by omega,o,Lib.hid (by simp)⟩
   case round=>
    clear o hn;obtain⟨i,m,hi,rfl,rfl,hm,a,hs⟩:=hrel
    by_cases hil:i<64
    ·have hq:(i:Int)<64:=by omega
     have j : i<l.length:=by omega
     have d:Hid ((l.take (i+1)).countP (rD kd k)=(l.take i).countP (rD kd k)+if rD kd k l[i]=true then 1 else 0):=Lib.hid (wW _ _ _ j);have hE:l.getD i zEn=l[i]:=by rw[aV,aI j];rfl
     generalize l[i]=E at *
     have hl:=CW l i hil E hE;clear hE
     go_wp2_with (refine aF rfl _ _ _ rfl (jq E) rfl rfl rfl entry_size (by simp[jq,Value.oneCell']) ?_)
     intro w8 z ex8;have g:=ae a z;have hx:=ex8.cell;unfold jq at hx;clear hl a z ex8
     by_cases c1:E.k=kd
     ·by_cases c2:E.n=k
      ·have b : Hid (m+1=n+(l.take (i+1)).countP (rD kd k)):=Lib.hid (by rw[d.out,if_pos (by unfold rD;simp[c1,c2]),hs.out];omega);clear hs d;go_wp2;go_roundw
       case rel=>exact⟨i+1,m+1,by omega,by go_num,by go_num,by omega,g,b⟩
       case measure=>simp[intOf];omega
      have b : Hid (m=n+(l.take (i+1)).countP (rD kd k)):=Lib.hid (by rw[d.out,if_neg (by unfold rD;simp[c1,c2]),hs.out];omega);clear hs d;go_wp2;go_roundw
      case rel=>exact⟨i+1,m,by omega,by go_num,rfl,by omega,g,b⟩
      case measure=>simp[intOf];omega
     have b : Hid (m=n+(l.take (i+1)).countP (rD kd k)):=Lib.hid (by rw[d.out,if_neg (by unfold rD;simp[c1]),hs.out];omega);clear hs d;go_wp2;go_roundw
     case rel=>exact⟨i+1,m,by omega,by go_num,rfl,by omega,g,b⟩
     case measure=>simp[intOf];omega
    have hq:¬(i:Int)<64:=by omega
    have b : Hid (m=((H.sp.take (p+1)).map fun s=>(dA s.tb).countP (rD kd k)).sum):=Lib.hid (by rw[e.out,hs.out,iJ (by omega)]);clear hs e;go_wp2;go_roundw
    case rel=>exact⟨p+1,m,by omega,by go_num,rfl,by omega,a,b⟩
    case measure=>simp[intOf];omega
  have hk:¬(p:Int)<(H.sp.length:Int):=by omega
  have y:Hid (n=dD H.ma kd k):=Lib.hid (by rw[f.out,iJ (by omega)];unfold dD MH.ma;rw[IX];rfl);clear f hM;go_wp2;go_ret;exact⟨by rw[←y.out];rfl,a⟩
theorem Tw {t:Tb} (hn:n<64):(dA t).getD n zEn=dK t (n:Int):=by
 unfold dA;rw[aV,iU,sQ hn];rfl
theorem TK {y:Operand} {k:IntKind} (ho:o.op = .indexAddr t x y) (hx:ρ x = .pointer (some ⟨b,off,none⟩)) (hy:ρ y = .int k (i:Int)) (hi:i<n)
 (hu:P.underlying t=some (.array n e)) (hs:(P.info? e).map (·.size)=some sz):(execOp ρ o).run P w = .ok (.value (.pointer (some ⟨b,off+i*sz,none⟩))) w:=by
 obtain⟨inf,a,c⟩:∃inf,P.info? e=some inf∧inf.size=sz:=by
  cases h:P.info? e with
  | none=>rw[h] at hs;cases hs
  | some inf=>rw[h] at hs;exact⟨inf,rfl,by simpa using hs⟩
 have d:(Go.sizeOf e).run P w = .ok sz w:=by simp[Go.sizeOf,typeInfo,a,go_sem,c]
 simp[execOp,go_sem,ho,hx,hy,hu,d,hi]
theorem Wu {f:Nat→Option Pg} {o:Option Pg} (h:aA w go (fC f) T) (hi:i<64) (ho:f i=o):dI w (some ⟨go,i*6,none⟩) (oC o).toList:=by
 have h1:=bL h (i*6) 6;have h2:=OJ f i hi;rw[ho] at h2;have e:((fC f).toList.drop (i*6)).take 6=(oC o).toList:=by rw[←h2,Array.toList_extract];simp[List.extract_eq_take_drop]
 rwa [e] at h1
theorem wH (H:MH) (w:World) (h:BH w H) (hR:Rt H.ma) :
    Calls Tryz.prog 14 #[.agg (bS H)] w fun r w'=>r = .returned (.int .i64 0)∧Below w.heap.size w w':=by
  have hh:=Lib.hid h;have o:=Lib.hid hR;have hz:=Lib.hid (kU hR);have z1:H.ca.length≤1000:=hz.out.ca;have z2:H.m.fs.length≤1000:=hz.out.fs;have z3:H.sl.length≤1000:=hz.out.sl;have z4:H.sp.length≤4:=by have:=hR.pt.spl;rw[Dq] at this;exact this
  have hZ:=Lib.hid (yo hR.pt.st);clear hR;go_enter func14,ntmps14;go_upto_region 1 with (fail);refine gF (fun W=>Code.wp _ _ _ _ W) fun w1 km bx1 k4 => ?_;have bx1:aA w1 w.heap.size (bS H) 41:=bx1;have h1:=h.below km;clear h k4
  go_wp2_with (refine ax _ _ rfl w.heap.size 0 rfl rfl _ bx1.rd _ underlying41 rfl machine_size ?_)
  refine (PI H _ h1 o.out).mono ?_;rintro r w2 ⟨rfl,kl⟩;have bx2:=bx1.ext kl;have ka:=ae km kl;clear h1 bx1 km kl;have hc:=bx2.cell;unfold bS at hc;go_wp2
  go_loopw [29] (fun s29 wr => ∃q:Nat,q≤H.ca.length∧s29 = .int .i64 q∧Below w.heap.size w wr∧aA wr w.heap.size (bS H) 41) (fun s29 _=>H.ca.length-(intOf s29).toNat)
  case atStart=>exact⟨0,aW _,rfl,ka,bx2⟩
  case round=>
    clear ka bx2 hc;obtain⟨q,hq,rfl,b,bx⟩:=hrel;have hM:=hh.out.below b
    by_cases hql:q<H.ca.length
    · obtain⟨bc,oc,hl,hJ⟩:=jH pR (by decide) hM.ca.rd q hql;have kv:(q:Int)<(H.ca.length:Int):=by omega
      have u:H.ca[q]∈H.ma.ca:=dM hql;obtain⟨⟨f1,f2⟩,f3,f4⟩:=o.out.ca.file _ u;obtain⟨f5,f6⟩:=o.out.ca.lt _ u;obtain⟨f7,f8,f9⟩:=o.out.ca.fr _ u;have kd:Hid (∀q1:Nat,q=q1+1→∃d:Cc,H.ca[q1]?=some d∧CB d H.ca[q]∧0≤d.f∧d.f<1000∧0≤d.i∧d.i<12):=Lib.hid (fun q1 e=>by
        have h1:q1<H.ca.length:=by omega
        refine⟨H.ca[q1],aI h1,(Ai.1 o.out.ca.srt) q1 q h1 hql (by omega),?_⟩;obtain⟨⟨g1,g2⟩,g3,g4⟩:=o.out.ca.file _ (dM h1:H.ca[q1]∈H.ma.ca);have hm:aM H.ma.st H.ca[q1].f∈H.ma.st.fs:=by unfold aM;rw[if_pos g1,aV,aI (by omega)];exact dM _
        have:=hZ.out _ hm;have k3:=hz.out.st.1;exact⟨g1,by omega,g3,by omega⟩)
      generalize hcq:H.ca[q]=c at *
      obtain⟨F,kP⟩:∃F:Nat,c.f=F:=⟨c.f.toNat,by omega⟩;have kp:F<H.fi.length:=by have:H.ma.st.fs.length=H.fi.length:=eH _;omega
      obtain⟨bf,of,kT,kH⟩:=jH jF (by decide) hM.st.rd F kp;have kV:Hid (aM H.ma.st c.f=(H.fi[F]).fi):=Lib.hid (by rw[kP];exact mW (by show (H.fi.map PF.fi)[F]?=_;rw[iU,aI kp];rfl));have f4' : c.i<((H.fi[F]).l.length:Int):=by rw[kV.out] at f4;exact f4
      generalize H.fi[F]=P at *
      obtain⟨K,kk⟩:∃K:Nat,c.k=K:=⟨c.k.toNat,by omega⟩;have kZ:K<H.m.fs.length:=by have:(K:Int)<(H.m.fs.length:Int):=by rw[←kk];exact f6
                                                                                  omega
      obtain⟨bm,om,hF,hI⟩:=jH eZ (by decide) hM.fr.rd K kZ;have hO:aR H.ma c.k.toNat=H.m.fs[K]:=by rw[kk,bX];unfold aR;show H.m.fs.getD K fr0=_;rw[aV,aI kZ];rfl
      rw[hO] at f7 f8 f9;generalize H.m.fs[K]=X at *
      have kB:Hid (0≤c.f∧c.f<1000∧0≤c.i∧c.i<12):=Lib.hid (by
        have hm:aM H.ma.st c.f∈H.ma.st.fs:=by unfold aM;rw[if_pos f1,aV,aI (by omega)];exact dM _
        have:=hZ.out _ hm;have k3:=hz.out.st.1;exact⟨f1,by omega,f3,by omega⟩)
      have c1:¬c.f<0:=by omega
      have c2:¬(H.fi.length:Int)≤c.f:=by omega
      have c3:¬c.i<0:=by omega
      have c4:¬(P.l.length:Int)≤c.i:=by omega
      have c5:¬c.k<0:=by omega
      have c6:¬(H.m.fs.length:Int)≤c.k:=by omega
      have kQ:=Lib.hid (And.intro f7 (And.intro f8 f9));clear f1 f2 f3 f4 f4' f5 f6 f7 f8 f9 hO kV u;rw[hl]
      go_wp2_with (first | (refine ax _ _ rfl bc (oc+q*3) rfl rfl _ hJ _ underlying106 rfl cached_size ?_) | (refine aF rfl _ _ _ rfl (Bf c) rfl rfl rfl cached_size (wm _) ?_))
      intro w3 hD cx3;have bx3:=bx.ext hD;have h8:=ae b hD;have hC:∀W,Below w3.heap.size w3 W→W.cell? ⟨bf,of+F*2+1,none⟩=some (.slice P.a P.l.length P.c):=fun W hb=>by obtain⟨b',o',e,hc⟩:=((kH.below hD).below hb) 1 _ rfl;cases e;exact hc
      have hY:=hI.below hD;have kY:=hM.below hD;clear b bx hD hJ kH hI hM;go_upto_region 7 with (fail);refine aK 45 [_,_,_,_,_,_,_,_,_,_,_,_,_,_,_,_,_,_,_,_,_,_,_,_,_,_,_,_,_,_,_,_,_,_,_,_,_,_,_,_,_,_,_,_,.v (.bool false)] (Gf wr.heap.size 0 rfl rfl (Gl cx3 rfl rfl rfl rfl rfl (Gb (.bool false) (by simp[go_sem,c1]) rfl rfl rfl rfl rfl (Gk rfl (Gf wr.heap.size 0 rfl rfl (Gl cx3 rfl rfl rfl rfl rfl (Gf w.heap.size 7 rfl rfl (Gf w.heap.size 7 rfl rfl (Gl bx3 rfl rfl rfl rfl rfl (Gn rfl rfl rfl rfl (Gb (.bool false) (by simp[go_sem,c2]) rfl rfl rfl rfl rfl (Gk rfl (Gk rfl (Gf wr.heap.size 1 rfl rfl (Gl cx3 rfl rfl rfl rfl rfl (Gb (.bool false) (by simp[go_sem,c3]) rfl rfl rfl rfl rfl (Gk rfl (Gk rfl (Gf wr.heap.size 1 rfl rfl (Gl cx3 rfl rfl rfl rfl rfl (Gf w.heap.size 7 rfl rfl (Gf w.heap.size 7 rfl rfl (Gl bx3 (V:=.slice (some ⟨bf,of,none⟩) H.fi.length H.ci) (by simp[bS,kT]) rfl rfl rfl rfl (Gf wr.heap.size 0 rfl rfl (Gl cx3 (V:=.int .i64 (F:Int)) (by simp[Bf,kP]) rfl rfl rfl rfl (Gr (.pointer (some ⟨bf,of+F*2,none⟩)) (fun ρ y W hb j=>(bG rfl (aC rfl j) (aC rfl j) kp underlying35 file_size)) rfl rfl (Gf bf (of+F*2+1) rfl rfl (Gc (.slice P.a P.l.length P.c) (fun W hb=>by simp[hC _ hb]) rfl rfl rfl rfl (Gn rfl rfl rfl rfl (Gb (.bool false) (by simp[go_sem,c4]) rfl rfl rfl rfl rfl (Gk rfl (Gk rfl (Gf wr.heap.size 2 rfl rfl (Gl cx3 rfl rfl rfl rfl rfl (Gb (.bool false) (by simp[go_sem,c5]) rfl rfl rfl rfl rfl (Gk rfl (Gk rfl (Gf wr.heap.size 2 rfl rfl (Gl cx3 rfl rfl rfl rfl rfl (Gf w.heap.size 0 rfl rfl (Gf w.heap.size 0 rfl rfl (Gl bx3 rfl rfl rfl rfl rfl (Gn rfl rfl rfl rfl (Gb (.bool false) (by simp[go_sem,c6]) rfl rfl rfl rfl rfl (Gk rfl (aB)))))))))))))))))))))))))))))))))))))))))))))) (fun _=>rfl) rfl ?_;intro y W4 ha _;have bx4:=bx3.ext ha;have cx4:=cx3.ext ha;have h7:=ae h8 ha;have hX:=hY.below ha;have kX:=kY.below ha;have hc:=bx4.cell;unfold bS at hc;rw[hF] at hc;have hu:=cx4.cell;unfold Bf at hu;rw[kk] at hu;have gg:(K:Int)<(H.m.fs.length:Int):=by omega
      clear hC h8 bx3 cx3 hY kY ha kT c1 c2 c3 c4 c5 c6
      go_wp2_with (first | (refine ax _ _ rfl bm (om+K*13) rfl rfl _ hX _ underlying81 rfl frame_size ?_) | (refine aF rfl _ _ _ rfl (vv X) rfl rfl rfl frame_size (nY _) ?_))
      intro w5 hN fx5;have bx5:=bx4.ext hN;have cx5:=cx4.ext hN;have h6:=ae h7 hN;have ko:=kX.below hN;clear h7 bx4 cx4 hX kX hN hc hu;have hS:=fx5.cell;unfold vv at hS;have hu:=cx5.cell;unfold Bf at hu;obtain⟨g7,g8,g9⟩:=kQ.out;have d1:¬X.r=0:=by omega
      rw[g8,g9] at hS;clear g7 g8 g9;go_upto_region 12 with (fail);rcases sS q with hq0|hqp
      · subst hq0;refine aK 27 [_,_,_,_,_,_,_,_,_,_,_,_,_,_,_,_,_,_,_,_,_,_,_,_,_,_,.v (.bool false)] (Gk rfl (Gb (.bool false) (by simp[go_sem,]) rfl rfl rfl rfl rfl (Gk rfl (Gk rfl (Gk rfl (Gk rfl (Gk rfl (Gk rfl (Gk rfl (Gk rfl (Gk rfl (Gk rfl (Gk rfl (Gk rfl (Gk rfl (Gk rfl (Gk rfl (Gk rfl (Gk rfl (Gk rfl (Gk rfl (Gk rfl (Gk rfl (Gk rfl (Gk rfl (Gk rfl (Gk rfl (aB)))))))))))))))))))))))))))) (fun _=>rfl) rfl ?_;intro y W6 hs _;have bx6:=bx5.ext hs;have s:=ae h6 hs;clear ko hl hF;go_wp2;go_roundw
        case rel=>exact⟨1,by omega,by go_num,s,bx6⟩
        case measure=>simp[intOf];omega
      obtain⟨q1,kw⟩:∃q1,q=q1+1:=⟨q-1,by omega⟩;obtain⟨d,hd,kC,g1,g2,g3,g4⟩:=kd.out q1 kw;have hv:q1<H.ca.length:=by omega
      obtain⟨bc',oc',kb,hy⟩:=jH pR (by decide) ko.ca.rd q1 hv;rw[hl] at kb;cases kb;have kJ:H.ca[q1]=d:=by have:=aI hv;rw[hd] at this;exact (aJ this).symm
      rw[kJ] at hy;have kL:∀W,Below w5.heap.size w5 W→W.cell? ⟨bc,oc+q1*3,none⟩=some (.int .i64 d.f):=fun W hb=>by obtain⟨b',o',e,hc⟩:=(hy.below hb) 0 _ rfl;cases e;exact hc
      have kK:∀W,Below w5.heap.size w5 W→W.cell? ⟨bc,oc+q1*3+1,none⟩=some (.int .i64 d.i):=fun W hb=>by obtain⟨b',o',e,hc⟩:=(hy.below hb) 1 _ rfl;cases e;exact hc
      obtain⟨e1,e2,e3,e4⟩:=kB.out;have m0:IntKind.i64.wrap ((q:Int)-1)=(q1:Int):=(bO _ (by omega)).trans (by omega);have m1:IntKind.i64.wrap (100*d.f)=100*d.f:=(bO _ (by omega)).trans (by omega);have m2:IntKind.i64.wrap (100*d.f+d.i)=100*d.f+d.i:=(bO _ (by omega)).trans (by omega);have m3:IntKind.i64.wrap (100*c.f)=100*c.f:=(bO _ (by omega)).trans (by omega);have m4:IntKind.i64.wrap (100*c.f+c.i)=100*c.f+c.i:=(bO _ (by omega)).trans (by omega);have m5:¬100*c.f+c.i≤100*d.f+d.i:=by unfold CB at kC;omega
      refine aK 27 [_,_,_,_,_,_,_,_,_,_,_,_,_,_,_,_,_,_,_,_,_,_,_,_,_,_,.v (.bool false)] (Gk rfl (Gb (.bool true) (by simp[go_sem,hqp]) rfl rfl rfl rfl rfl (Gk rfl (Gf w.heap.size 9 rfl rfl (Gl bx5 (V:=.slice (some ⟨bc,oc,none⟩) H.ca.length H.cc) (by simp[bS,hl]) rfl rfl rfl rfl (Gk rfl (Gb (.int .i64 (q1:Int)) (by simp[go_sem,m0]) rfl rfl rfl rfl rfl (Gr (.pointer (some ⟨bc,oc+q1*3,none⟩)) (fun ρ y W hb j=>(bG rfl (aC rfl j) (aC rfl j) hv underlying38 cached_size)) rfl rfl (Gf bc (oc+q1*3) rfl rfl (Gc (.int .i64 d.f) (fun W hb=>by simp[kL _ hb]) rfl rfl rfl rfl (Gb (.int .i64 (100*d.f)) (by simp[go_sem,m1]) rfl rfl rfl rfl rfl (Gf w.heap.size 9 rfl rfl (Gl bx5 (V:=.slice (some ⟨bc,oc,none⟩) H.ca.length H.cc) (by simp[bS,hl]) rfl rfl rfl rfl (Gk rfl (Gb (.int .i64 (q1:Int)) (by simp[go_sem,m0]) rfl rfl rfl rfl rfl (Gr (.pointer (some ⟨bc,oc+q1*3,none⟩)) (fun ρ y W hb j=>(bG rfl (aC rfl j) (aC rfl j) hv underlying38 cached_size)) rfl rfl (Gf bc (oc+q1*3+1) rfl rfl (Gc (.int .i64 d.i) (fun W hb=>by simp[kK _ hb]) rfl rfl rfl rfl (Gb (.int .i64 (100*d.f+d.i)) (by simp[go_sem,m2]) rfl rfl rfl rfl rfl (Gf wr.heap.size 0 rfl rfl (Gl cx5 rfl rfl rfl rfl rfl (Gb (.int .i64 (100*c.f)) (by simp[go_sem,m3]) rfl rfl rfl rfl rfl (Gf wr.heap.size 1 rfl rfl (Gl cx5 rfl rfl rfl rfl rfl (Gb (.int .i64 (100*c.f+c.i)) (by simp[go_sem,m4]) rfl rfl rfl rfl rfl (Gb (.bool false) (by simp[go_sem,m5]) rfl rfl rfl rfl rfl (Gk rfl (aB)))))))))))))))))))))))))))) (fun _=>rfl) rfl ?_;intro y W6 hs _;have bx6:=bx5.ext hs;have s:=ae h6 hs;clear ko hl hF kL kK m0 m1 m2 m3 m4 m5 hy hd kC g1 g2 g3 g4 e1 e2 e3 e4 kJ kw;go_wp2;go_roundw
      case rel=>exact⟨q+1,by omega,by go_num,s,bx6⟩
      case measure=>simp[intOf];omega
    have kv:¬(q:Int)<(H.ca.length:Int):=by omega
    have hc:=bx.cell;unfold bS at hc;clear hM;go_wp2
    go_loopw [134] (fun s134 wr => ∃p:Nat,p≤H.sp.length∧s134 = .int .i64 p∧Below w.heap.size w wr∧aA wr w.heap.size (bS H) 41) (fun s134 _=>H.sp.length-(intOf s134).toNat)
    case atStart=>exact⟨0,aW _,rfl,b,bx⟩
    case round=>
      clear b bx hc kv;obtain⟨p,hp,rfl,b,bx⟩:=hrel;have hM:=hh.out.below b
      by_cases hpl:p<H.sp.length
      · obtain⟨bd,od,P,k7,hP,ku⟩:=wN hM.sp.rd p hpl;have kx:(p:Int)<(H.sp.length:Int):=by omega
        have ht:=qU hM hP;have ks:P.sp∈H.ma.sp:=by show P.sp∈H.sp.map PS.sp;exact fP.2 ⟨P,bN hP,rfl⟩
        have hG:(bJ P.ar).1=0:=o.out.pt.ar P.sp ks;have kq:Hid (dh P.tb=0):=Lib.hid (o.out.pt.tb P.sp ks);have kc:=Lib.hid (yI hP);obtain⟨k9,kS⟩:=vg hG;have k5:Hid (∀i:Nat,bZ P.ar i=ni H.ma p i):=Lib.hid (fun i=>by rw[nS (lD (iL.1 hG).2)];unfold ni;rw[kc.out];rfl);rw[k7]
        go_wp2_with (first | (refine ax _ _ rfl bd (od+p*10) rfl rfl _ ku _ underlying55 rfl space_size ?_) | (refine aF rfl _ _ _ rfl (uM P) rfl rfl rfl space_size (by rw[←jr,dF];exact ht.one) ?_))
        intro w6 hj px6;have s:=ae b hj;have bx6:=bx.ext hj;have kf:=ht.below hj;have kM:=px6.cell;unfold uM at kM;clear b bx hj ku hM ht hG
        go_wp2_with fail
        refine (nL P.ar P.aa P.ac _ kf.ars.rd (by omega) kS).mono ?_;rintro r w7 ⟨rfl,t⟩;have x:=ae s t;have bx7:=bx6.ext t;have px7:=px6.ext t;have kG:=kf.below t;clear s bx6 px6 kf t kM
        go_wp2_with (refine aF rfl _ _ _ rfl (fC (bZ P.ar)) rfl rfl (by rw[jy];rfl) (by rw[jy];exact ones_size) (zF _) ?_)
        intro w8 z ox8;have hr:=ae x z;have bx8:=bx7.ext z;have px8:=px7.ext z;have kF:=kG.below z;clear x bx7 px7 kG z;have kt:dI w8 (some ⟨wr.heap.size,2,none⟩) (nG P.ts).toList:=bL px8 2 8
        go_wp2_with (refine ax _ _ rfl wr.heap.size 2 rfl rfl _ kt _ underlying53 tab_agg tab_size ?_)
        refine (BO P.tb (nG P.ts) _ kF.tb kq.out).mono ?_;rintro r w9 ⟨rfl,hV⟩;rw[IW (yg P.tb)];have hE:Hid (∀n:Nat,n<64→(dA P.tb).getD n zEn=ent H.ma p n):=Lib.hid (fun n hn=>by rw[Tw hn];unfold ent;rw[kc.out];rfl);have h5:=ae hr hV;have bx9:=bx8.ext hV;have ox9:=ox8.ext hV;generalize dA P.tb=l at *
        obtain⟨go,kD⟩:∃go,w7.heap.size=go:=⟨_,rfl⟩;rw[kD] at ox9 ⊢;clear hr bx8 px8 kF hV kt ox8 kD;go_wp2
        go_loopw [144] (fun s144 wr => ∃i:Nat,i≤64∧s144 = .int .i64 i∧Below w.heap.size w wr∧aA wr w.heap.size (bS H) 41∧aA wr go (fC (bZ P.ar)) 110) (fun s144 _=>64-(intOf s144).toNat)
        case atStart=>exact⟨0,by omega,rfl,h5,bx9,ox9⟩
        case round=>
          clear h5 bx9 ox9;obtain⟨i,hi,rfl,b,bx,ox⟩:=hrel
          by_cases hil:i<64
          · have ke:(i:Int)<64:=by omega
            have hH:=hE.out i hil;generalize heE:ent H.ma p i=E at hH;have k6:=CW l i hil E hH;have hK:=Lib.hid heE;clear heE hH
            go_wp2_with (refine aF rfl _ _ _ rfl (jq E) rfl rfl rfl entry_size (by simp[jq,Value.oneCell']) ?_)
            intro wa hU ea;have hB:=ae b hU;have bxa:=bx.ext hU;have oxa:=ox.ext hU;clear k6 b bx ox hU;have hx:=ea.cell;unfold jq at hx
            by_cases hk0:E.k=0
            · rw[hk0] at hx;clear hk0;go_wp2;go_roundw
              case rel=>exact⟨i+1,by omega,by go_num,hB,bxa,oxa⟩
              case measure=>simp[intOf];omega
            obtain⟨g,hg,hf⟩:=o.out.en p i (by rw[hK.out];exact hk0);rw[hK.out] at hf;have h2:eT E=0:=by rw[←hK.out];unfold ent;rw[kc.out];exact pY kq.out i
            have kz:bZ P.ar i=some g:=(k5.out i).trans hg;have ky:=Lib.hid kz;have kg:=Lib.hid (And.intro hf (And.intro hk0 h2));clear hf hg h2 kz;go_upto_region 23 with (fail);refine aK 7 [_,_,_,_,_,.v (.int .i64 0),.v (.int .i64 0)] (Gr (.agg (bS H)) (fun ρ y W hb j=>(bn rfl (aC rfl j) (bxa.ext hb) underlying41 rfl machine_size)) rfl rfl (Gk rfl (Gr (.pointer (some ⟨go,0+i*6,none⟩)) (fun ρ y W hb j=>(TK rfl (aC rfl j) (aC rfl j) hil underlying110 one_size)) rfl rfl (Gr (.agg (oC (some g))) (fun ρ y W hb j=>(bF rfl (aC rfl j) (by rw[dZ];exact Wu (oxa.ext hb) hil ky.out) underlying109 rfl one_size)) rfl rfl (Gr (.agg (jq E)) (fun ρ y W hb j=>(bn rfl (aC rfl j) (ea.ext hb) underlying89 rfl entry_size)) rfl rfl (ag ?_ (Gk rfl (aB)))))))) (fun _=>rfl) rfl ?_
            · intro ρ y W hw hn hb hd;have k2:=hw 151 0 rfl;have h0:y 0=_:=hd 0 rfl;have k1:=hw 154 3 rfl;have h3:y 3=_:=hd 3 rfl;have k0:=hw 155 4 rfl;have h4:y 4=_:=hd 4 rfl;have EF:∀f,ρ (.func f) = .func (.func f) #[] #[]:=fun f=>hn (.func f) trivial;refine aL _ _ (ah rfl) (aO rfl (EF _) func51 (by kernel_rfl) (by kernel_rfl) (by simp only[bH,bA,bB,k2,h0,k1,h3,k0,h4,EF];rfl)) ?_;refine (PO H g E W (hh.out.below (ae hB hb)) o.out kg.out.1 kg.out.2.1 kg.out.2.2).mono ?_;rintro r wz ⟨rfl,k8⟩;exact⟨_,rfl,k8,rfl⟩
            intro y wb hA _;have kR:=ae hB hA;have bxb:=bxa.ext hA;have oxb:=oxa.ext hA;clear hB bxa oxa ea hx hA;go_wp2;go_roundw
            case rel=>exact⟨i+1,by omega,by go_num,kR,bxb,oxb⟩
            case measure=>simp[intOf];omega
          have ke:¬(i:Int)<64:=by omega
          clear ox;go_wp2;go_roundw
          case rel=>exact⟨p+1,by omega,by go_num,b,bx⟩
          case measure=>simp[intOf];omega
      have kx:¬(p:Int)<(H.sp.length:Int):=by omega
      have hc:=bx.cell;unfold bS at hc;clear hM;go_wp2
      go_loopw [166] (fun s166 wr => ∃k:Nat,k≤H.m.fs.length∧s166 = .int .i64 k∧Below w.heap.size w wr∧aA wr w.heap.size (bS H) 41) (fun s166 _=>H.m.fs.length-(intOf s166).toNat)
      case atStart=>exact⟨0,aW _,rfl,b,bx⟩
      case round=>
        clear b bx hc kx;obtain⟨k,hk,rfl,b,bx⟩:=hrel;have hM:=hh.out.below b
        by_cases hkl:k<H.m.fs.length
        · obtain⟨bm,om,hF,hI⟩:=jH eZ (by decide) hM.fr.rd k hkl;have hQ:(k:Int)<(H.m.fs.length:Int):=by omega
          have hO:aR H.ma k=H.m.fs[k]:=by unfold aR;show H.m.fs.getD k fr0=_;rw[aV,aI hkl];rfl
          have kj:=o.out.cf k hkl;have kh:=o.out.fc k hkl;rw[hO] at kj kh;have ge:dD H.ma 1 k≤256:=by have h9:=DY H.ma 1 k;have e9:H.ma.sp.length=H.sp.length:=Dq H;omega
          have kO:xw H.ma k≤H.ca.length:=tH;generalize H.m.fs[k]=X at *
          have kI:=Lib.hid kh;have kN:=Lib.hid kj;clear hO kj kh;rw[hF]
          go_wp2_with (first | (refine ax _ _ rfl bm (om+k*13) rfl rfl _ hI _ underlying81 rfl frame_size ?_) | (refine aF rfl _ _ _ rfl (vv X) rfl rfl rfl frame_size (nY _) ?_))
          intro w6 hj fx6;have s:=ae b hj;have bx6:=bx.ext hj;have kW:=hM.below hj;clear b bx hj hI hM hF
          go_wp2_with (refine ax _ _ rfl w.heap.size 0 rfl rfl _ bx6.rd _ underlying41 rfl machine_size ?_)
          refine (AZ H 1 k _ kW o.out).mono ?_;rintro r w7 ⟨rfl,t⟩;have x:=ae s t;have bx7:=bx6.ext t;have fx7:=fx6.ext t;clear s bx6 kW fx6 t;obtain⟨gf,kE⟩:∃gf,wr.heap.size=gf:=⟨_,rfl⟩;rw[kE] at fx7 ⊢;generalize hhN:dD H.ma 1 k=N at *
          have gb:=Lib.hid hhN;clear kE hhN;have hc:=bx7.cell;unfold bS at hc;go_wp2
          go_loopw [177,16] (fun s177 s16 wr => ∃i m:Nat,i≤H.ca.length∧s177 = .int .i64 i∧s16 = .int .i64 m∧m≤i∧Below w.heap.size w wr∧aA wr w.heap.size (bS H) 41∧aA wr gf (vv X) 81∧Hid (m=(H.ca.take i).countP fun c=>decide (c.k=(k:Int)))) (fun s177 _ _=>H.ca.length-(intOf s177).toNat)
          case atStart=>exact⟨0,0,aW _,rfl,rfl,az _,x,bx7,fx7,Lib.hid (by simp)⟩
          case round=>
            clear x bx7 fx7 hc;obtain⟨i,m,hi,rfl,rfl,hm,b,bx,fx,u⟩:=hrel;have hM:=hh.out.below b
            by_cases hil:i<H.ca.length
            · obtain⟨bc,oc,hl,hJ⟩:=jH pR (by decide) hM.ca.rd i hil;have ke:(i:Int)<(H.ca.length:Int):=by omega
              have hT:Hid ((H.ca.take (i+1)).countP (fun c=>decide (c.k=(k:Int)))=(H.ca.take i).countP (fun c=>decide (c.k=(k:Int)))+if decide ((H.ca[i]).k=(k:Int))=true then 1 else 0):=Lib.hid (wW _ _ _ hil);generalize H.ca[i]=c at *
              rw[hl]
              go_wp2_with (first | (refine ax _ _ rfl bc (oc+i*3) rfl rfl _ hJ _ underlying106 rfl cached_size ?_) | (refine aF rfl _ _ _ rfl (Bf c) rfl rfl rfl cached_size (wm _) ?_))
              intro w8 z cx8;have hr:=ae b z;have bx8:=bx.ext z;have fx8:=fx.ext z;have hu:=cx8.cell;unfold Bf at hu;clear b bx fx z hJ hM cx8 hl
              by_cases hck:c.k=(k:Int)
              · have hL : Hid (m+1=(H.ca.take (i+1)).countP fun c=>decide (c.k=(k:Int))):=Lib.hid (by rw[hT.out,←u.out];simp[hck]);clear u hT;go_wp2;go_roundw
                case rel=>exact⟨i+1,m+1,by omega,by go_num,by go_num,by omega,hr,bx8,fx8,hL⟩
                case measure=>simp[intOf];omega
              have hL : Hid (m=(H.ca.take (i+1)).countP fun c=>decide (c.k=(k:Int))):=Lib.hid (by rw[hT.out,←u.out];simp[hck]);clear u hT;go_wp2;go_roundw
              case rel=>exact⟨i+1,m,by omega,by go_num,rfl,by omega,hr,bx8,fx8,hL⟩
              case measure=>simp[intOf];omega
            have ke:¬(i:Int)<(H.ca.length:Int):=by omega
            have kA : m=xw H.ma k:=by rw[u.out,iJ (by omega)];rfl
            have ga:X.r=(m:Int)+(N:Int):=by rw[kN.out,kA]
            have kn:0≤X.f→¬m=0:=fun h0 e=>by obtain⟨c,hc,hck⟩:=kI.out h0;have h9:0<xw H.ma k:=xM.2 ⟨c,hc,by simp[hck]⟩;omega
            have hW:(N:Int)+(m:Int)=X.r:=by omega
            have hS:=fx.cell;unfold vv at hS;have gc:IntKind.i64.wrap ((N:Int)+(m:Int))=X.r:=(bO _ (by omega)).trans hW;clear u hM kA ga hW kO
            by_cases h0:0≤X.f
            · have gd:¬(m:Int)=0:=by have:=kn h0;omega
              clear kn;go_wp2;go_roundw
              case rel=>exact⟨k+1,by omega,by go_num,b,bx⟩
              case measure=>simp[intOf];omega
            clear kn;go_wp2;go_roundw
            case rel=>exact⟨k+1,by omega,by go_num,b,bx⟩
            case measure=>simp[intOf];omega
        have hQ:¬(k:Int)<(H.m.fs.length:Int):=by omega
        have hc:=bx.cell;unfold bS at hc;clear hM;go_wp2
        go_loopw [207] (fun s207 wr => ∃k:Nat,k≤H.sl.length∧s207 = .int .i64 k∧Below w.heap.size w wr∧aA wr w.heap.size (bS H) 41) (fun s207 _=>H.sl.length-(intOf s207).toNat)
        case atStart=>exact⟨0,aW _,rfl,b,bx⟩
        case round=>
          clear b bx hc hQ;obtain⟨k,hk,rfl,b,bx⟩:=hrel;have hM:=hh.out.below b
          by_cases hkl:k<H.sl.length
          · have hQ:(k:Int)<(H.sl.length:Int):=by omega
            obtain⟨bl,ol,hG,ki⟩:=hM.sl.rd k (gB H.sl[k]) (by rw[iU,aI hkl];rfl);unfold gB at ki;have hC:=o.out.cs k hkl;have kr:pu H.ma k=H.sl[k]:=by unfold pu;show H.sl.getD k 0=_;rw[aV,aI hkl];rfl
            rw[kr] at hC;rw[hC] at ki;rw[hG];clear hC kr
            go_wp2_with (refine ax _ _ rfl w.heap.size 0 rfl rfl _ bx.rd _ underlying41 rfl machine_size ?_)
            refine (AZ H 2 k _ hM o.out).mono ?_;rintro r w7 ⟨rfl,t⟩;have x:=ae b t;have bx7:=bx.ext t;clear b bx hM t ki hG;go_wp2;go_roundw
            case rel=>exact⟨k+1,by omega,by go_num,x,bx7⟩
            case measure=>simp[intOf];omega
          have hQ:¬(k:Int)<(H.sl.length:Int):=by omega
          clear hM;go_wp2;go_ret;exact⟨rfl,b⟩
theorem VS (m:World→Prop) (hb:aA (w.setCells b 0 vs) b cs T) (h:∀W,w.grownBy W (some b)→aA W b cs T→m W):m (w.setCells b 0 vs).drew:=by
 have h1:=aH w b 0 vs;generalize w.setCells b 0 vs=W0 at *
 exact h _ ⟨h1.os,h1.tape,h1.output,h1.size,h1.block⟩ hb
theorem WC {p:Page} (m:World→Prop) (hb:aA w b cur T) (hs:(fQ p).size=cur.size) (h:∀W,w.grownBy W (some b)→aA W b (fQ p) T→m W):m (w.setCells b 0 (fQ p).toList).drew:=
 VS m (by have h2:=hb.setCells (fQ p).toList 0;rw[iF cur (fQ p) hs] at h2;exact h2) h
theorem Pd (H:MH) (p n:Nat) (w:World) (h:BH w H) (hR:Rt H.ma) (hp:p<H.sp.length) (hn:n<64) :
  Calls Tryz.prog 55 #[.agg (bS H),.int .i64 p,.int .i64 n] w fun r w'=>r = .returned (.tuple #[.agg (fQ (qa H.ma p n).1),.bool (qa H.ma p n).2.1,.int .i64 (qa H.ma p n).2.2])∧Below w.heap.size w w':=by
 have hh:=Lib.hid h;have x:=Lib.hid hR;clear hR;go_enter func55,ntmps55;go_upto_region 1 with (fail);refine qQ (fun W=>Code.wp _ _ _ _ W) fun w1 hW bx1 px1 hO => ?_;have bx1:aA w1 w.heap.size (bS H) 41:=bx1;have h1:=h.below hW;clear h hO;have kl:(p:Int)<(H.sp.length:Int):=by omega
 obtain⟨bs,os,P,hX,hP,hQ⟩:=wN h1.sp.rd p hp;have hg:=qU h1 hP;have h2:P.sp∈H.ma.sp:=by show P.sp∈H.sp.map PS.sp;exact fP.2 ⟨P,bN hP,rfl⟩
 have hZ:(bJ P.ar).1=0:=x.out.pt.ar P.sp h2;have h0:Hid (dh P.tb=0):=Lib.hid (x.out.pt.tb P.sp h2);have hN:=Lib.hid (yI hP);have hO:w1.cell? ⟨bs,os+p*10+1,none⟩=some (.slice P.aa P.ar.length P.ac):=by obtain⟨b',o',e,hc⟩:=hQ 1 _ rfl;cases e;exact hc
 have hc:=bx1.cell;unfold bS at hc;rw[hX] at hc;obtain⟨hY,hL⟩:=vg hZ
 go_wp2_with fail
 refine (nL P.ar P.aa P.ac _ hg.ars.rd (by omega) hL).mono ?_;rintro r w2 ⟨rfl,hs⟩;have hK:=ae hW hs;have bx2:=bx1.ext hs;have px2:=px1.ext hs;have hD:=hQ.below hs;have h7:=hg.below hs;clear hc hO hW bx1 px1 hs hQ hg h1 hY;have hS:bZ P.ar n=ni H.ma p n:=by rw[nS (lD (iL.1 hZ).2)];unfold ni;rw[hN.out];rfl
 generalize hog:ni H.ma p n=o at hS;have hT:=yA (bZ P.ar) n hn o hS;have z:=Lib.hid hog;clear hog hS hZ hL
 go_wp2_with (refine aF rfl _ _ _ rfl (oC o) rfl rfl rfl one_size (Lf o) ?_)
 intro w3 hr ox3;have hv:=ae hK hr;have bx3:=bx2.ext hr;have px3:=px2.ext hr;have hC:=hD.below hr;have h6:=h7.below hr;clear hT hK bx2 px2 hr hD h7;cases o with
 | none=>
  have s:Hid (qa H.ma p n=(zPg,false,5)):=Lib.hid (by unfold qa;rw[z.out]);have ho:=ox3.cell;have km:(oC none)[0]?=some (.bool false):=rfl;have d:=hv;have px9:=px3
  go_wp2_with (refine ay rfl _ _ _ rfl (w.heap.size+1) (fQ zPg) rfl rfl _ _ px9 rfl psize (fT _) ?_)
  intro we pxe u;have j:=d.grown u d.size (fun k hk=>by cases hk;omega);go_wp2;refine bodyPost_ret (v:=.tuple #[.agg (fQ zPg),.bool false,.int .i64 5]) (dL results55 _ _ (w.heap.size+1) _ _ _ _ _ rfl rfl rfl pxe underlying79 rfl psize) rfl ?_;rw[s.out];exact⟨rfl,j⟩
 | some g=>
  have ox3:aA w3 w2.heap.size #[.bool true,.bool g.rd,.bool g.wr,.bool g.sh,.int .i64 g.fi,.int .i64 g.pg] 109:=ox3;have ho:=ox3.cell;have h3:=rQ hC 2 8;have hc:=bx3.cell;unfold bS at hc;rw[hX] at hc
  go_wp2_with (refine ax _ _ rfl bs (os+p*10+2) rfl rfl _ h3 _ underlying53 tab_agg tab_size ?_)
  refine (BO P.tb (nG P.ts) _ h6.tb h0.out).mono ?_;rintro r w4 ⟨rfl,hy⟩;rw[IW (yg P.tb)];have hE:(dA P.tb).getD n zEn=ent H.ma p n:=by rw[Tw hn];unfold ent;rw[hN.out];rfl
  generalize heE:ent H.ma p n=E at hE;have hT:=CW (dA P.tb) n hn E hE;have ha:=Lib.hid heE;clear heE hE hc ho h3 hC h6;have hJ:=ae hv hy;have bx4:=bx3.ext hy;have px4:=px3.ext hy;have ox4:=ox3.ext hy;clear hv bx3 px3 hy ox3 hX
  go_wp2_with (refine aF rfl _ _ _ rfl (jq E) rfl rfl rfl entry_size (by simp[jq,Value.oneCell']) ?_)
  intro w5 hw ex5;have t:=ae hJ hw;have bx5:=bx4.ext hw;have px5:=px4.ext hw;have ox5:=ox4.ext hw;clear hT hJ bx4 px4 ox4 hw;have ho:=ox5.cell;have hx:=ex5.cell;unfold jq at hx;have ht:Hid (E.k≠0→Tn H.ma g E):=Lib.hid (fun hk=>by obtain⟨g',h8,hf⟩:=x.out.en p n (by rw[ha.out];exact hk);rw[z.out] at h8;cases h8;rw[ha.out] at hf;exact hf);have hj:=hh.out.below t;have hq:Hid (eT E=0):=Lib.hid (by rw[←ha.out];unfold ent;rw[hN.out];exact pY h0.out n)
  by_cases k1:E.k=1
  ·have hu:=ht.out (by omega);have q1:E.n<(H.m.fs.length:Int):=hu.lt k1;have q0:0≤E.n:=by have:=(cO _).1 hq.out;omega
   obtain⟨F,hF⟩:∃F:Nat,E.n=F:=⟨E.n.toNat,by omega⟩;have hl:F<H.m.fs.length:=by omega
   obtain⟨bf,of,kj,kc⟩:=jH eZ (by decide) hj.fr.rd F hl;have kg:qG H.ma E.n=H.m.fs[F]:=by rw[hF,xy];unfold aR;show H.m.fs.getD F fr0=_;rw[aV,aI hl];rfl
   have i:Hid (qa H.ma p n=((H.m.fs[F]).p,decide ((H.m.fs[F]).f<0),0)):=Lib.hid (by unfold qa;rw[z.out];dsimp only;rw[ha.out,if_pos k1,kg]);generalize H.m.fs[F]=X at *
   have hc:=bx5.cell;unfold bS at hc;rw[kj] at hc;rw[k1,hF] at hx;have kn:(F:Int)<(H.m.fs.length:Int):=by omega
   clear kg hu q1 q0 ho ox5 k1 hF
   go_wp2_with (first | (refine ax _ _ rfl bf (of+F*13) rfl rfl _ kc _ underlying81 rfl frame_size ?_) | (refine aF rfl _ _ _ rfl (vv X) rfl rfl rfl frame_size (nY _) ?_))
   intro w6 hi fx6;have hd:=ae t hi;have px5l:=Lib.hid px5.lt;have px6:=px5.ext hi;clear t px5 bx5 hi kc hc hj hx ex5;go_upto_region 9 with (fail);have ka:=fx6.cell;unfold vv at ka;have kh:=px6.cell;have h5:w.heap.size+1≠w5.heap.size:=by have:=px5l.out;omega
   have h4 : w5.heap.size≠w.heap.size+1:=fun e=>h5 e.symm;have ki:=px6.free
   go_region
   all_goals (refine WC (p:=X.p) (b:=w.heap.size+1) (fun W=>Exit.then _ _ _ _ W) px6 rfl fun we u pxe => ?_)
   all_goals clear ka kh h5 h4 ki fx6 px6
   all_goals (have j:=hd.grown u hd.size (fun k hk=>by cases hk;omega))
   all_goals go_wp2
   all_goals (refine bodyPost_ret (v:=.tuple #[.agg (fQ X.p),.bool (decide (X.f<0)),.int .i64 0]) (dL results55 _ _ (w.heap.size+1) _ _ _ _ _ rfl rfl rfl pxe underlying79 rfl psize) rfl ?_)
   all_goals rw[i.out]
   all_goals exact⟨rfl,j⟩
  by_cases k2:E.k=2
  ·have hu:=ht.out (by omega);obtain⟨q1,q2⟩:=hu.sw k2;have q0:0≤E.n:=by have:=(cO _).1 hq.out;omega
   have hM:aN H.sw E.n=0:=nC.2 ⟨x.out.pt.sw,q0,by have:=x.out.pt.swl;have e:H.ma.sw.blocks.length=H.sw.blocks.length:=rfl;have e2:H.ma.sl.length=H.sl.length:=rfl;omega⟩;have s:Hid (qa H.ma p n=(jc H.sw E.n,true,0)):=Lib.hid (by unfold qa;rw[z.out];dsimp only;rw[ha.out,if_neg k1,if_pos k2,show aN H.ma.sw E.n=0 from hM];rfl);rw[k2] at hx;have r5:dI w5 (some ⟨w.heap.size,3,none⟩) [.slice H.wb H.sw.blocks.length H.cwb,.slice H.wq H.sw.queue.length H.cwq]:=bL bx5 3 2;clear hu q1 q2 q0 ho ox5 k1 k2
   go_wp2_with (refine ax _ _ rfl w.heap.size 3 rfl rfl _ r5 _ underlying34 rfl disk_size ?_)
   refine (Gd H.sw E.n H.wb H.cwb H.wq H.cwq _ hj.sw).mono ?_;rintro r w6 ⟨rfl,hi⟩;rw[hM];have hd:=ae t hi;have px6:=px5.ext hi;clear t px5 bx5 hi r5 hj hx ex5 hM
   go_wp2_with (refine aF rfl _ _ _ rfl (fQ (jc H.sw E.n)) rfl rfl rfl psize (fT _) ?_)
   intro w7 hV gx7;have d:=ae hd hV;have px9:=px6.ext hV;clear hd px6 hV
   go_wp2_with (first | (refine ax _ _ rfl w6.heap.size 0 rfl rfl _ gx7.rd _ underlying79 rfl psize ?_) | (refine ay rfl _ _ _ rfl (w.heap.size+1) (fQ (jc H.sw E.n)) rfl rfl _ _ px9 rfl psize (fT _) ?_))
   intro we pxe u;have j:=d.grown u d.size (fun k hk=>by cases hk;omega);go_wp2;refine bodyPost_ret (v:=.tuple #[.agg (fQ (jc H.sw E.n)),.bool true,.int .i64 0]) (dL results55 _ _ (w.heap.size+1) _ _ _ _ _ rfl rfl rfl pxe underlying79 rfl psize) rfl ?_;rw[s.out];exact⟨rfl,j⟩
  have k0:E.k=0:=by have:=(cO _).1 hq.out;omega
  have i:Hid (qa H.ma p n=if g.fi<0 then (zPg,false,0) else if (H.ma.st.fs.length:Int)≤g.fi∨Ab H.ma.st g.fi g.pg=true then (zPg,false,9) else (bC H.ma g.fi g.pg,false,0)):=Lib.hid (by unfold qa;rw[z.out];dsimp only;rw[ha.out,if_neg k1,if_neg k2]);rw[k0] at hx;clear ht hq k1 k2 k0
  by_cases f0:g.fi<0
  ·have s:Hid (qa H.ma p n=(zPg,false,0)):=Lib.hid (by rw[i.out,if_pos f0]);have d:=t;have px9:=px5;clear i
   go_wp2_with (refine ay rfl _ _ _ rfl (w.heap.size+1) (fQ zPg) rfl rfl _ _ px9 rfl psize (fT _) ?_)
   intro we pxe u;have j:=d.grown u d.size (fun k hk=>by cases hk;omega);go_wp2;refine bodyPost_ret (v:=.tuple #[.agg (fQ zPg),.bool false,.int .i64 0]) (dL results55 _ _ (w.heap.size+1) _ _ _ _ _ rfl rfl rfl pxe underlying79 rfl psize) rfl ?_;rw[s.out];exact⟨rfl,j⟩
  have hA:=Lib.hid (x.out.pt.pg z.out);have hm:Hid (H.ma.st.fs.length=H.fi.length):=Lib.hid (eH _);go_upto_region 15 with (fail)
  by_cases f1:(H.fi.length:Int)≤g.fi
  ·have s:Hid (qa H.ma p n=(zPg,false,9)):=Lib.hid (by rw[i.out,if_neg f0,if_pos (.inl (by have:=hm.out;omega))]);refine aK 21 [_,_,_,_,_,_,_,_,_,_,_,_,_,_,_,_,_,_,_,_,.v (.bool true)] (Gf w2.heap.size 4 rfl rfl (Gl ox5 rfl rfl rfl rfl rfl (Gf w.heap.size 7 rfl rfl (Gf w.heap.size 7 rfl rfl (Gl bx5 rfl rfl rfl rfl rfl (Gn rfl rfl rfl rfl (Gb (.bool true) (by simp[go_sem,f1]) rfl rfl rfl rfl rfl (Gk rfl (Gk rfl (Gk rfl (Gk rfl (Gk rfl (Gk rfl (Gk rfl (Gk rfl (Gk rfl (Gk rfl (Gk rfl (Gk rfl (Gk rfl (Gk rfl (aB)))))))))))))))))))))) (fun _=>rfl) rfl ?_;intro y W8 q _;have d:=ae t q;have px9:=px5.ext q;clear i hA hm
   go_wp2_with (refine ay rfl _ _ _ rfl (w.heap.size+1) (fQ zPg) rfl rfl _ _ px9 rfl psize (fT _) ?_)
   intro we pxe u;have j:=d.grown u d.size (fun k hk=>by cases hk;omega);go_wp2;refine bodyPost_ret (v:=.tuple #[.agg (fQ zPg),.bool false,.int .i64 9]) (dL results55 _ _ (w.heap.size+1) _ _ _ _ _ rfl rfl rfl pxe underlying79 rfl psize) rfl ?_;rw[s.out];exact⟨rfl,j⟩
  obtain⟨F,hF⟩:∃F:Nat,g.fi=F:=⟨g.fi.toNat,by omega⟩;have hl:F<H.fi.length:=by omega
  obtain⟨bf,of,kd,kb⟩:=jH jF (by decide) hj.st.rd F hl;have kk:Hid (aM H.ma.st g.fi=(H.fi[F]).fi):=Lib.hid (by rw[hF];exact mW (by show (H.fi.map PF.fi)[F]?=_;rw[iU,aI hl];rfl));generalize H.fi[F]=Q at *
  have hB:∀W,Below w5.heap.size w5 W→W.cell? ⟨bf,of+F*2+1,none⟩=some (.slice Q.a Q.l.length Q.c):=fun W hb=>by obtain⟨b',o',e,hc⟩:=(kb.below hb) 1 _ rfl;cases e;exact hc
  have hG:Hid ((aM H.ma.st g.fi).b.length=Q.l.length):=Lib.hid (by rw[kk.out];rfl);have kf:=Lib.hid hF;clear hF
  by_cases f2:(Q.l.length:Int)≤g.pg
  ·have s:Hid (qa H.ma p n=(zPg,false,9)):=Lib.hid (by
    rw[i.out,if_neg f0]
    by_cases hin:(H.ma.st.fs.length:Int)≤g.fi∨Ab H.ma.st g.fi g.pg=true
    ·rw[if_pos hin]
    have h9:=OI x.out.pt.st (by omega) hA.out.1 hin;have:=h9.2.2;have:=hG.out;omega)
   refine aK 21 [_,_,_,_,_,_,_,_,_,_,_,_,_,_,_,_,_,_,_,_,.v (.bool true)] (Gf w2.heap.size 4 rfl rfl (Gl ox5 rfl rfl rfl rfl rfl (Gf w.heap.size 7 rfl rfl (Gf w.heap.size 7 rfl rfl (Gl bx5 rfl rfl rfl rfl rfl (Gn rfl rfl rfl rfl (Gb (.bool false) (by simp[go_sem,f1]) rfl rfl rfl rfl rfl (Gk rfl (Gf w2.heap.size 5 rfl rfl (Gl ox5 rfl rfl rfl rfl rfl (Gf w.heap.size 7 rfl rfl (Gf w.heap.size 7 rfl rfl (Gl bx5 (V:=.slice (some ⟨bf,of,none⟩) H.fi.length H.ci) (by simp[bS,kd]) rfl rfl rfl rfl (Gf w2.heap.size 4 rfl rfl (Gl ox5 (V:=.int .i64 (F:Int)) (by simp[kf.out]) rfl rfl rfl rfl (Gr (.pointer (some ⟨bf,of+F*2,none⟩)) (fun ρ y W hb hz=>(bG rfl (aC rfl hz) (aC rfl hz) hl underlying35 file_size)) rfl rfl (Gf bf (of+F*2+1) rfl rfl (Gc (.slice Q.a Q.l.length Q.c) (fun W hb=>by simp[hB _ hb]) rfl rfl rfl rfl (Gn rfl rfl rfl rfl (Gb (.bool true) (by simp[go_sem,f2]) rfl rfl rfl rfl rfl (Gk rfl (aB)))))))))))))))))))))) (fun _=>rfl) rfl ?_;intro y W8 q _;have d:=ae t q;have px9:=px5.ext q;clear i hA hm hB
   go_wp2_with (refine ay rfl _ _ _ rfl (w.heap.size+1) (fQ zPg) rfl rfl _ _ px9 rfl psize (fT _) ?_)
   intro we pxe u;have j:=d.grown u d.size (fun k hk=>by cases hk;omega);go_wp2;refine bodyPost_ret (v:=.tuple #[.agg (fQ zPg),.bool false,.int .i64 9]) (dL results55 _ _ (w.heap.size+1) _ _ _ _ _ rfl rfl rfl pxe underlying79 rfl psize) rfl ?_;rw[s.out];exact⟨rfl,j⟩
  have hH:zz H.ma.st g.fi g.pg:=⟨⟨by omega,by have:=hm.out;omega⟩,hA.out.1,by have:=hG.out;omega⟩;have hin:=Lib.hid hH;clear hH;have s:Hid (qa H.ma p n=(bC H.ma g.fi g.pg,false,0)):=Lib.hid (by rw[i.out,if_neg f0,if_neg (EJ x.out.pt.st hin.out)]);refine aK 21 [_,_,_,_,_,_,_,_,_,_,_,_,_,_,_,_,_,_,_,_,.v (.bool false)] (Gf w2.heap.size 4 rfl rfl (Gl ox5 rfl rfl rfl rfl rfl (Gf w.heap.size 7 rfl rfl (Gf w.heap.size 7 rfl rfl (Gl bx5 rfl rfl rfl rfl rfl (Gn rfl rfl rfl rfl (Gb (.bool false) (by simp[go_sem,f1]) rfl rfl rfl rfl rfl (Gk rfl (Gf w2.heap.size 5 rfl rfl (Gl ox5 rfl rfl rfl rfl rfl (Gf w.heap.size 7 rfl rfl (Gf w.heap.size 7 rfl rfl (Gl bx5 (V:=.slice (some ⟨bf,of,none⟩) H.fi.length H.ci) (by simp[bS,kd]) rfl rfl rfl rfl (Gf w2.heap.size 4 rfl rfl (Gl ox5 (V:=.int .i64 (F:Int)) (by simp[kf.out]) rfl rfl rfl rfl (Gr (.pointer (some ⟨bf,of+F*2,none⟩)) (fun ρ y W hb hz=>(bG rfl (aC rfl hz) (aC rfl hz) hl underlying35 file_size)) rfl rfl (Gf bf (of+F*2+1) rfl rfl (Gc (.slice Q.a Q.l.length Q.c) (fun W hb=>by simp[hB _ hb]) rfl rfl rfl rfl (Gn rfl rfl rfl rfl (Gb (.bool false) (by simp[go_sem,f2]) rfl rfl rfl rfl rfl (Gk rfl (aB)))))))))))))))))))))) (fun _=>rfl) rfl ?_;intro y W8 q _;have hI:=ae t q;have px8:=px5.ext q;have bx8:=bx5.ext q;have ke:=hj.below q;have ho:=(ox5.ext q).cell;clear i hB t px5 bx5 hj ox5 q kb
  go_wp2_with (refine ax _ _ rfl w.heap.size 0 rfl rfl _ bx8.rd _ underlying41 rfl machine_size ?_)
  refine (wD H g.fi g.pg _ ke ⟨(kU x.out).ca,fun f hf=>aY (yo x.out.pt.st f hf) (by decide)⟩ x.out.ca.lt ⟨by omega,by omega⟩ hin.out.2).mono ?_;rintro r w9 ⟨rfl,hU⟩;have d:=ae hI hU;have px9:=px8.ext hU;clear hI px8 bx8 ke ho hU
  go_wp2_with (refine ay rfl _ _ _ rfl (w.heap.size+1) (fQ (bC H.ma g.fi g.pg)) rfl rfl _ _ px9 rfl psize (fT _) ?_)
  intro we pxe u;have j:=d.grown u d.size (fun k hk=>by cases hk;omega);go_wp2;refine bodyPost_ret (v:=.tuple #[.agg (fQ (bC H.ma g.fi g.pg)),.bool false,.int .i64 0]) (dL results55 _ _ (w.heap.size+1) _ _ _ _ _ rfl rfl rfl pxe underlying79 rfl psize) rfl ?_;rw[s.out];exact⟨rfl,j⟩
def OC (m:Ma) (f:Int) (j:Nat):Value:=(fQ (bC m f (j / 8:Nat))).getD (j%8) (.int .u8 0)
def wP (m:Ma) (f:Int) (n:Nat):List Value:=(List.range n).map (OC m f)
theorem Lu (m:Ma) (f:Int) (n:Nat):wP m f (n+1)=wP m f n++[OC m f n]:=by
 unfold wP;rw[xR,gz];rfl
theorem yx (h:aA w b cs T) (hk:aA w b cs' T') (hT:T'≠T):False:=by
 unfold aA at h hk;rw[hk] at h;simp at h;exact hT h.2
theorem u8_size:(Tryz.prog.info? 5).map (·.size)=some 1:=by kernel_rfl
theorem Jr (X:Page) (q:Nat) (hq:q<8) (w:World):(Instr.index 79 (.agg (fQ X)) (.int .i64 q)).run Tryz.prog w = .ok (.int .u8 X[q].toNat) w:=by
 have hg:=CG X q hq;have ha:¬((q:Int)<0∨(8:Int)≤q):=by omega
 have hs:∃i,Tryz.prog.info? 5=some i∧i.size=1:=by
  have:=u8_size;cases h:Tryz.prog.info? 5 with
  | none=>rw[h] at this;simp at this
  | some i=>rw[h] at this;exact⟨i,rfl,by simpa using this⟩
 obtain⟨i,hi,hs⟩:=hs;simp[Instr.index,part,asIntOf,run_underlying underlying79,run_underlying underlying5,Go.sizeOf,typeInfo,hi,hs,ha,go_sem,hg,hq]
theorem LY (H:MH) (f:Nat) (w:World) (h:BH w H) (hR:Rt H.ma) (hz:H.ca.length≤1000∧∀f∈H.ma.st.fs,f.b.length≤1000) (hck:∀c∈H.ca,0≤c.k∧c.k<H.m.fs.length) (hf:f<H.fi.length) (hsz:0≤(aM H.ma.st f).n∧(aM H.ma.st f).n≤(aM H.ma.st f).b.length*8) :
  Calls Tryz.prog 17 #[.agg (bS H),.int .i64 f] w fun r w' => ∃(v:Value),r = .returned (.tuple #[v,.int .i64 0])∧Own w' w.heap.size 5 1 v (aM H.ma.st f).n.toNat (wP H.ma f (aM H.ma.st f).n.toNat)∧Below w.heap.size w w':=by
 have hB:=Lib.hid hR;clear hR;go_enter func17,ntmps17;go_upto_region 1 with (fail);refine gF (fun W=>Code.wp _ _ _ _ W) fun w1 ha bx1 hd => ?_;have bx1:aA w1 w.heap.size (bS H) 41:=bx1;have h1:=h.below ha;clear hd
 go_wp2_with (refine ax _ _ rfl w.heap.size 0 rfl rfl _ bx1.rd _ underlying41 rfl machine_size ?_)
 refine (wH H _ h1 hB.out).mono ?_;rintro r w2 ⟨rfl,z⟩;have bx2:=bx1.ext z;have t:=ae ha z;have hc:=bx2.cell;unfold bS at hc;have ht:(f:Int)<(H.fi.length:Int):=by omega
 have hG:¬(f:Int)<0:=by omega
 have hF:¬(H.fi.length:Int)≤(f:Int):=by omega
 obtain⟨bf,of,hA,hi⟩:=jH jF (by decide) h.st.rd f hf;obtain⟨p,hp⟩:∃p,H.fi[f]?=some p:=⟨_,aI hf⟩;rw[show H.fi[f]=p from (dn.1 hp).2] at hi;have j:aM H.ma.st (f:Int)=p.fi:=by unfold aM;rw[if_pos (by omega)];show (H.fi.map PF.fi).getD f ⟨0,[]⟩=p.fi;rw[aV,iU,hp];rfl
 have hE:p.l.length≤1000:=hz.2 p.fi (fP.2 ⟨p,bN hp,rfl⟩);rw[j] at hsz;have hD:0≤p.n:=hsz.1;have hd:p.n≤p.l.length*8:=hsz.2;have hH:(aM H.ma.st f).n=p.n:=by rw[j];rfl
 have hx:(aM H.ma.st f).b.length=p.l.length:=by rw[j];rfl
 clear hsz j;clear h1 bx1 ha z;go_upto_region 8 with (fail);clear hc
 go_loopw [8,7] (fun i u wr => ∃k:Nat,(k:Int)≤p.n∧i = .int .i64 k∧Below w.heap.size w wr∧aA wr w.heap.size (bS H) 41∧Own wr w.heap.size 5 1 u k (wP H.ma f k)) (fun i _ _=>p.n.toNat-(intOf i).toNat)
 case atStart=>exact⟨0,by omega,rfl,t,bx2,Own.nil _ _ _ _⟩
 case round=>
  clear t bx2;obtain⟨k,hk,rfl,o,bx,s⟩:=hrel;have x:=bx.cell;unfold bS at x;rw[hA] at x;have hh:=hi.below o;have rc0:wr.cell? ⟨bf,of+f*2,none⟩=some (.int .i64 p.n):=by obtain⟨b',o',e,hy⟩:=hh 0 _ rfl;cases e;exact hy
  by_cases hkn:(k:Int)<p.n
  ·have hj:(k:Int) / 8<((aM H.ma.st (f:Int)).b.length:Int):=by rw[hx];omega
   go_wp2_with (refine ax _ _ rfl w.heap.size 0 rfl rfl _ bx.rd _ underlying41 rfl machine_size ?_)
   refine (wD H f ((k:Int) / 8) _ (h.below o) hz hck ⟨by omega,ht⟩ ⟨by omega,hj⟩).mono ?_;rintro r w3 ⟨rfl,y⟩;have d:=ae o y;have bx3:=bx.ext y;have a:=s.below y;obtain⟨X,hX⟩:∃X,X=bC H.ma f ((k:Int) / 8):=⟨_,rfl⟩;rw[←hX];obtain⟨q,hq⟩:∃q,k%8=q:=⟨_,rfl⟩;have hn:q<8:=by omega
   have hg:=CG X q hn;have hv:Hid (OC H.ma f k = .int .u8 X[q].toNat):=Lib.hid (by unfold OC;rw[show ((k / 8:Nat):Int)=(k:Int) / 8 from by omega,←hX,hq];simp[bT,hg]);have e78:((k:Int)%8)=(q:Int):=by omega
   have hr:k+1≤8000:=by omega
   clear hX x rc0 hq hj
   go_wp2_with fail
   rw[e78];have hw:=Jr X q hn
   go_wp2_with fail
   rw[hw]
   go_wp2_with (first | (at_builtin;refine iY rfl _ _ 24 rfl w.heap.size 5 _ 1 1 underlying24 byte_info rfl (by decide) _ k (wP H.ma f k) rfl (a.alloc _) (some ⟨w3.heap.size,0,none⟩) 1 1 [.int .u8 X[q].toNat] rfl (fun h=>(by cases h)) (az _) rfl (dI.new _ #[.int .u8 X[q].toNat] _) (fun u hu=>by simp at hu;subst hu;rfl) (by unfold maxLen;omega) (by omega) (by have:=d.size;simp;omega) ?_))
   intro v w5 g hl hC;have hm:Below w.heap.size w w5:=(d.alloc d.size _).grown hl (cK d.size _) (a.alloc (.cells #[.int .u8 X[q].toNat] 5)).ge;have bx5:aA w5 w.heap.size (bS H) 41:=(bx3.alloc (.cells #[.int .u8 X[q].toNat] 5)).grown hl (fun e=>by
    rcases a.2 with ⟨e1,_⟩|⟨g2,off,cap,cur,e1,_,hb,_⟩
    ·rw[e1] at e;cases e
    ·rw[e1] at e;cases e;exact yx hb bx3 (by decide))
   rw[←hv.out,←Lu] at g;go_wp2;go_roundw
   case rel=>exact⟨v,.int .i64 ((k+1:Nat):Int),_,_,_,_,_,_,_,_,_,_,_,_,_,_,_,_,_,_,_,_,_,_,⟨k+1,by omega,rfl,hm,bx5,g⟩,by
    have e1:decide (H.fi.length≤f)=false:=decide_eq_false (by omega);rw[e1,Bool.or_false];rfl⟩
   case measure=>simp[intOf];omega
  go_wp2;go_ret2;have hs:p.n.toNat=k:=by omega
  exact⟨_,rfl,by rw[hs];exact s,o⟩
def LC (e:Int):UInt8:=UInt8.ofNat (e%256).toNat
def mX (m:Ma) (f:Int) (n:Nat):List UInt8:=(List.range n).map fun j=>(bC m f (j / 8:Nat)).toList.getD (j%8) 0
theorem Uu (X:Page) (q:Nat) (hq:q<8):(fQ X).getD q (.int .u8 0)=mQ (X.toList.getD q 0):=by
 rw[bT,CG X q hq,aV,aI (by simpa using hq)];simp[mQ]
theorem RI (m:Ma) (f:Int) (n:Nat):wP m f n=(mX m f n).map mQ:=by
 unfold wP mX;rw[IX];exact ww fun j _=>Uu _ _ (qR _ (by decide))
theorem MQ (m:Ma) (f:Int) (n:Nat):(mX m f n).length=n:=by unfold mX;simp
theorem Ol (h:Rt m) (hf:f<m.st.fs.length):0≤(aM m.st f).n∧(aM m.st f).n≤(aM m.st f).b.length*8:=by
 have h1:=qJ h.pt.st _ (bN (uX (s:=m.st) (f:=f) ⟨by omega,by omega⟩));have h2:=h1.2.2.1;unfold dW at h2;refine⟨h1.1,?_⟩;have:=h1.1;split at h2<;>omega
end Go.Proofs.YtjkkoeijlhfneaaGreat
namespace Pw
open Go Go.RowKit
variable {P:Program} {Q:Exit → Act → World → Prop} {ops:Array Oper} {rest:List Oper} {t0:Array Value} {w0:World}
theorem Nh {df:List Deferred} (m:Nat) (l:List RV) (J:(Nat→Bool)→(Nat→Value)→World→Prop) (hst:∀L y w w',Below w.heap.size w w'→J L y w→J L y w') (hJ0:∀y,J (fun _=>false) y w0)
 (hstep:aX (lC P ops ⟨t0,df⟩ J (rvs l)) 0 (ops.toList.take m)) {tm:(Nat→Value)→List Value} (hf:∀y,yE y l ops.toList t0.toList=some (tm y)) (hd:wr (ops.toList.drop m)=some rest)
 (hend:∀y w,J (fun i=>decide (i<m)) y w→(∀i,i<m→rl (rvs l) i (y i) w)→wpList P ops Q rest ⟨(tm y).toArray,df⟩ w)
 (hfix:Fixed (rvs l):=by repeat (first | exact fix_nil | refine EA (fun _ _ _ h=>h) ?_))
 (hok:jh ops=true:=by kernel_rfl) (ht:iD ops m=true:=by kernel_rfl) (hmn:m≤ops.size:=by exact Nat.le_of_ble_eq_true (by kernel_rfl)) (hll:l.length=m:=by rfl) (hix:idxOk l 0=true:=by kernel_rfl)
 (hsz:jA ops t0.size=true:=by kernel_rfl):wpAny P .any ops Q ops.size (Array.replicate ops.size false) ⟨t0,df⟩ { w0 with drawn:=w0.drawn+1 }:=by
 refine Br m (rvs l) J hst hJ0 hfix hok ht hmn _ rfl hsz hstep fun y w hb hR => ?_;have h:=hend y w hb hR;rw[Lr hd];have e:=vT (m:=m) (y:=y) (w:=w) l ops.toList 0 t0 hix (by omega) (by simp;omega) fun i hi=>by rw[dZ];exact hR i (by omega)
 show wpList P ops Q rest ⟨lay (fun i=>decide (i<m)) y ops.toList 0 t0,df⟩ w;have e2:=aJ (e.symm.trans (hf y));have e3:lay (fun i=>decide (i<m)) y ops.toList 0 t0=(tm y).toArray:=by rw[←e2]
 rw[e3];exact h
end Pw
namespace Go.Proofs.YtjkkoeijlhfneaaGreat
open _root_.Go.Proofs.Tryz
open Go.RowKit Go.Maps Pw
variable {B b base base' c f fuel i j k n nx off q:Nat} {L spare:Nat → Bool} {T:TypeId} {W W' W0 w:World} {a:Option Addr} {cs cs':Array Value} {held:Bool} {m m' m1:Ma} {o:Oper} {old xs ys:List Value} {u v:Value} {x:Operand} {y:Nat → Value} {ρ:Operand → Value}
theorem SX {e:Nat} {ks:List (Nat × Array Value × TypeId)} (hks:∀t∈ks,t.2.2≠e) (ho:Own W B e 1 v n xs) (hk:∀t∈ks,aA W t.1 t.2.1 t.2.2) (hg:W.grownBy W' v.ownBlock):∀t∈ks,aA W' t.1 t.2.1 t.2.2:=fun t ht=>(hk t ht).grown hg fun e'=>by
 rcases ho.2 with ⟨e1,_⟩|⟨g2,off,cap,cur,e1,_,hb,_⟩
 ·rw[e1] at e'; cases e'
 ·rw[e1] at e'; cases e'; exact yx hb (hk t ht) (hks t ht)
theorem QD (ho:o.op = .slice 79 x none none none) (hx:ρ x = .pointer (some ⟨b,off,none⟩)) :
  (execOp ρ o).run Tryz.prog w = .ok (.value (.slice (some ⟨b,off,none⟩) 8 8)) w:=by
 simp[execOp,ho,hx,Instr.sliceAt,run_underlying underlying79,go_sem]
theorem Dz (e:Int):IntKind.u8.wrap e=e%256:=IntKind.wrap_u8 e
theorem Ve (n:Nat):mQ (UInt8.ofNat n) = .int .u8 ((n:Int)%256):=by
 unfold mQ;rw[Ic];rfl
theorem DC (e:Int):mQ (LC e) = .int .u8 (e%256):=by
 unfold mQ LC;have h1:0≤e%256:=Int.emod_nonneg _ (by decide);have h2:e%256<256:=Int.emod_lt_of_pos _ (by decide);rw[Ic,uH (by omega),xP h1]
theorem WU (P:Page):(fQ P).toList=P.toList.map mQ:=by
 obtain⟨⟨l⟩,h⟩:=P
 match l,h with
 | [a,b,c,d,e,f,g,i],_=>rfl
def yB (b:Bool):UInt8:=if b=true then 121 else 110
def FY (m:Ma) (p n:Nat):List UInt8:=match ni m p n with
 | none=>[]
 | some g=>[UInt8.ofNat n,LC (qa m p n).2.2,LC g.fi,LC g.pg]++(qa m p n).1.toList++[g.rd,g.wr,g.sh,(qa m p n).2.1&&decide (0≤g.fi)].map yB
def sI (m:Ma) (p:Nat):Nat→List UInt8
 | 0=>[]
 | n+1=>sI m p n++FY m p n
def uZ (m:Ma):Nat→List UInt8
 | 0=>[]
 | p+1=>uZ m p++((112::if (fH m p).lv=true then [108] else [])++sI m p 64)
def oG (m:Ma):Nat→List UInt8
 | 0=>uZ m m.sp.length
 | f+1=>oG m f++([102,LC (aM m.st f).n]++mX m f (aM m.st f).n.toNat)
def rZ (m:Ma):List UInt8:=oG m m.st.fs.length
theorem zl (m:Ma) (p:Nat):uZ m (p+1)=uZ m p++((112::if (fH m p).lv=true then [108] else [])++sI m p 64):=by rw[uZ]
theorem zq (m:Ma) (f:Nat):oG m (f+1)=oG m f++([102,LC (aM m.st f).n]++mX m f (aM m.st f).n.toNat):=by rw[oG]
theorem zo (m:Ma):oG m 0=uZ m m.sp.length:=by rw[oG]
theorem qP (ho:Own W B 5 1 u n xs) (hg:(W.alloc (.cells cs 5)).grownBy W' u.ownBlock) (hT:T≠5) (h:aA W b cs' T):aA W' b cs' T:=
 (h.alloc (.cells cs 5)).grown hg (fun e=>by
  rcases ho.2 with ⟨e1,_⟩|⟨g2,off,cap,cur,e1,_,hb,_⟩
  ·rw[e1] at e;cases e
  ·rw[e1] at e;cases e;exact yx hb h hT)
theorem SY (ho:Own W B 5 1 u n xs) (hg:W.grownBy W' u.ownBlock) (hT:T≠5) (h:aA W b cs' T):aA W' b cs' T:=
 h.grown hg (fun e=>by
  rcases ho.2 with ⟨e1,_⟩|⟨g2,off,cap,cur,e1,_,hb,_⟩
  ·rw[e1] at e;cases e
  ·rw[e1] at e;cases e;exact yx hb h hT)
theorem Ao (hb:Below w.heap.size w W) (ho:Own W w.heap.size 5 1 u n xs) (hg:(W.alloc (.cells cs 5)).grownBy W' u.ownBlock):Below w.heap.size w W':=
 (hb.alloc hb.size _).grown hg (cK hb.size _) (ho.alloc (.cells cs 5)).ge
def LA (i j q nx:Nat) (W0:World) (B:Nat) (ks:List (Nat × Array Value × TypeId)) (u:Value) (k:Nat) (old xs ys:List Value):(Nat→Bool)→(Nat→Value)→World→Prop:=fun L y W=>
 (Below B W0 W∧B≤W.heap.size∧∀t∈ks,aA W t.1 t.2.1 t.2.2)∧(L q=true→L j=true)∧(L j=false→Own W B 5 1 u k old) ∧
 (L i=true→L j=false→∃a c,y i = .slice a nx c∧ui W a c nx xs) ∧
 (L j=true→L q=false→Own W B 5 1 (y j) (k+nx) (old++xs)) ∧
 (L q=true→Own W B 5 1 (y q) (k+nx+8) ((old++xs)++ys))
theorem nV {ks:List (Nat × Array Value × TypeId)} :∀L y W W',Below W.heap.size W W'→LA i j q nx W0 B ks u k old xs ys L y W→LA i j q nx W0 B ks u k old xs ys L y W':=
 fun _ _ _ _ hb ⟨h1,h2,h3,h4,h5,h6⟩=>⟨⟨h1.1.trans (hb.mono h1.2.1),aY h1.2.1 hb.size,fun t ht=>(h1.2.2 t ht).ext hb⟩,h2,fun e=>(h3 e).below hb,fun e1 e2=>by obtain⟨a,e,k1,k2⟩:=h4 e1 e2;exact⟨a,e,k1,k2.below hb⟩,fun a b=>(h5 a b).below hb,fun a=>(h6 a).below hb⟩
theorem Xn {ks:List (Nat × Array Value × TypeId)} (hB:B≤W0.heap.size) (hk:∀t∈ks,aA W0 t.1 t.2.1 t.2.2) (ho:Own W0 B 5 1 u k old) (y:Nat→Value):LA i j q nx W0 B ks u k old xs ys (fun _=>false) y W0:=
 ⟨⟨Below.refl _ _,hB,hk⟩,fun e=>(by cases e),fun _=>ho,fun e=>(by cases e),fun e=>(by cases e),fun e=>(by cases e)⟩
theorem vF (h:i≠j):bY L i j=L j:=by unfold bY;rw[if_neg (fun e=>h e.symm)]
theorem wo (h:i≠j):dB y i v j=y j:=by unfold dB;rw[if_neg (fun e=>h e.symm)]
theorem JE :bY L i i=true:=by unfold bY;rw[if_pos rfl]
theorem Ib :dB y i v i=v:=by unfold dB;rw[if_pos rfl]
theorem qo {ks:List (Nat × Array Value × TypeId)} {x:Nat} (hi:x≠i∧x≠j∧x≠q) (h:LA i j q nx W0 B ks u k old xs ys L y W):LA i j q nx W0 B ks u k old xs ys (bY L x) (dB y x v) W:=by
 unfold LA at h ⊢;rw[vF hi.1,vF hi.2.1,vF hi.2.2,wo hi.1,wo hi.2.1,wo hi.2.2];exact h
theorem WK {ks:List (Nat × Array Value × TypeId)} (hn:i≠j∧i≠q) (hb:Below W.heap.size W W') (h:LA i j q nx W0 B ks u k old xs ys L y W) (hr:ui W' a c nx xs):LA i j q nx W0 B ks u k old xs ys (bY L i) (dB y i (.slice a nx c)) W':=by
 obtain⟨h1,h2,h3,h4,h5,h6⟩:=nV _ _ _ _ hb h;unfold LA;rw[vF hn.1,vF hn.2,wo hn.1,wo hn.2,JE,Ib];exact⟨h1,h2,h3,fun _ _=>⟨a,c,rfl,hr⟩,h5,h6⟩
theorem WW {ks:List (Nat × Array Value × TypeId)} (hn:j≠q) (hks:∀t∈ks,t.2.2≠5) (hi:L j=false) (h:LA i j q nx W0 B ks u k old xs ys L y W) (hg:W.grownBy W' u.ownBlock) (ho:Own W' B 5 1 v (k+nx) (old++xs)):LA i j q nx W0 B ks u k old xs ys (bY L j) (dB y j v) W':=by
 obtain⟨h1,h2,h3,h4,h5,h6⟩:=h;have h8:L q=false:=by
  cases e:L q with
  | false=>rfl
  | true=>rw[h2 e] at hi;cases hi
 have hu:=h3 hi;unfold LA;rw[vF hn,wo hn,JE,Ib];exact⟨⟨h1.1.grown hg h1.2.1 hu.ge,aY h1.2.1 hg.size,SX hks hu h1.2.2 hg⟩,fun _=>rfl,fun e=>(by cases e),fun _ e=>(by cases e),fun _ _=>ho,fun e=>(by rw[h8] at e;cases e)⟩
theorem Xb {ks:List (Nat × Array Value × TypeId)} (hn:q≠j) (hks:∀t∈ks,t.2.2≠5) (hj:L j=true) (hi:L q=false) (h:LA i j q nx W0 B ks u k old xs ys L y W) (hg:W.grownBy W' (y j).ownBlock) (ho:Own W' B 5 1 v (k+nx+8) ((old++xs)++ys)):LA i j q nx W0 B ks u k old xs ys (bY L q) (dB y q v) W':=by
 obtain⟨h1,h2,h3,h4,h5,h6⟩:=h;have hu:=h5 hj hi;unfold LA;rw[vF hn,wo hn,JE,Ib];exact⟨⟨h1.1.grown hg h1.2.1 hu.ge,aY h1.2.1 hg.size,SX hks hu h1.2.2 hg⟩,fun _=>hj,fun e=>(by rw[hj] at e;cases e),fun _ e=>(by rw[hj] at e;cases e),fun _ e=>(by cases e),fun _=>ho⟩
theorem AX (H:MH) (w:World) (h:BH w H) (hR:Rt H.ma) :
  Calls Tryz.prog 19 #[.agg (bS H)] w fun r w'=>r = .returned (.string ⟨(rZ H.ma).toArray⟩)∧Below w.heap.size w w':=by
 have hA:=Lib.hid hR;clear hR;have gu:H.sp.length≤4:=by have:=hA.out.pt.spl;rwa [Dq] at this
 go_enter func19,ntmps19;go_upto_region 1 with (fail);refine gF (fun W=>Code.wp _ _ _ _ W) fun w1 h3 bx1 kY => ?_;have bx1:aA w1 w.heap.size (bS H) 41:=bx1;clear kY;have hc:=bx1.cell;unfold bS at hc;go_upto_region 3 with (fail);clear hc
 go_loopw [19,3] (fun i u wr => ∃(p:Nat) (k:Nat),p≤H.sp.length∧k≤1100*p∧i = .int .i64 p∧Below w.heap.size w wr∧aA wr w.heap.size (bS H) 41∧Own wr w.heap.size 5 1 u k ((uZ H.ma p).map mQ)) (fun i _ _=>H.sp.length-(intOf i).toNat)
 case atStart=>exact⟨0,0,by omega,by omega,rfl,h3,bx1,Own.nil _ _ _ _⟩
 case round=>
  clear h3 bx1;obtain⟨p,k,hp,hk,rfl,d,bx,b⟩:=hrel
  by_cases hpl:p<H.sp.length
  ·have kI:(p:Int)<(H.sp.length:Int):=by omega
   have hM:=h.below d;obtain⟨bd,od,P,gb,hP,kE⟩:=wN hM.sp.rd p hpl;have hx:=qU hM hP;have kD:P.sp∈H.ma.sp:=by show P.sp∈H.sp.map PS.sp;exact fP.2 ⟨P,bN hP,rfl⟩
   have kx:(bJ P.ar).1=0:=hA.out.pt.ar P.sp kD;have ks:=Lib.hid (yI hP);obtain⟨gc,kR⟩:=vg kx;have kK:Hid (∀i:Nat,bZ P.ar i=ni H.ma p i):=Lib.hid (fun i=>by rw[nS (lD (iL.1 kx).2)];unfold ni;rw[ks.out];rfl);have kL:Hid ((fH H.ma p).lv=P.lv):=Lib.hid (by rw[ks.out];rfl);rw[gb]
   go_wp2_with (first | (refine ax _ _ rfl bd (od+p*10) rfl rfl _ kE _ underlying55 rfl space_size ?_) | (refine aF rfl _ _ _ rfl (uM P) rfl rfl rfl space_size (by rw[←jr,dF];exact hx.one) ?_))
   intro w6 kn px6;have hB:=ae d kn;have bx6:=bx.ext kn;have l:=b.below kn;clear d bx kn kE hM hx kx kD ks b;generalize wr.heap.size=gp at px6;obtain⟨old,hU⟩:∃old,Hid (old=(uZ H.ma p).map mQ):=⟨_,Lib.hid rfl⟩;rw[←hU.out] at l;skip
   go_wp2_with (first | (at_builtin;refine iY rfl _ _ 24 rfl w.heap.size 5 _ 1 1 underlying24 byte_info rfl (by decide) u3 k old rfl (l.alloc _) (some ⟨_,0,none⟩) 1 1 [.int .u8 112] rfl (fun h=>(by cases h)) (az _) rfl (dI.new _ #[.int .u8 112] _) (fun u hu=>by simp at hu;subst hu;rfl) (by unfold maxLen;omega) (by omega) (by have:=hB.size;simp;omega) ?_))
   intro v7 w7 hj kl kC;have hW:=Ao hB l kl;have bx7:=qP l kl (by decide) bx6;have px7:=qP l kl (by decide) px6;clear hB bx6 px6 l kl kC;have kg:=px7.cell;unfold uM at kg;go_upto_if 28 with (fail);clear kg
   go_cut [3] (fun s3 wx => ∃k' : Nat,k'≤k+2∧Below w.heap.size w wx∧aA wx w.heap.size (bS H) 41∧aA wx gp (uM P) 55∧Own wx w.heap.size 5 1 s3 k' (old++(112::if P.lv=true then [108] else []:List UInt8).map mQ))
   case first=>
    cases hl:P.lv with
    | false=>
     go_wp2;go_meet
     case rel=>exact⟨k+1,by omega,hW,bx7,px7,by rw[hl];exact hj⟩
    | true=>
     ·skip
      go_wp2_with (first | (at_builtin;refine iY rfl _ _ 24 rfl w.heap.size 5 _ 1 1 underlying24 byte_info rfl (by decide) v7 (k+1) (old++[.int .u8 112]) rfl (hj.alloc _) (some ⟨_,0,none⟩) 1 1 [.int .u8 108] rfl (fun h=>(by cases h)) (az _) rfl (dI.new _ #[.int .u8 108] _) (fun u hu=>by simp at hu;subst hu;rfl) (by unfold maxLen;omega) (by omega) (by have:=hW.size;simp;omega) ?_))
      intro v8 w8 hs hm hQ;have hI:=Ao hW hj hm;have bx8:=qP hj hm (by decide) bx7;have px8:=qP hj hm (by decide) px7;go_wp2;go_meet
      case rel=>exact⟨k+1+1,by omega,hI,bx8,px8,by rw[hl];exact hs⟩
   case rest=>
   obtain⟨k',gB,hy,bx9,px9,j⟩:=hcut;clear hW bx7 px7 hj;obtain⟨A0,kT⟩:∃A0:List UInt8,Hid (A0=uZ H.ma p++(112::if (fH H.ma p).lv=true then [108] else [])):=⟨_,Lib.hid rfl⟩;have e9:old++(112::if P.lv=true then [108] else []).map mQ=A0.map mQ:=by rw[kT.out,hU.out,kL.out,gz]
   rw[e9] at j;clear e9;have kg:=px9.cell;unfold uM at kg;have hM:=h.below hy;have hx:=qU hM hP;clear hM
   go_wp2_with fail
   refine (nL P.ar P.aa P.ac _ hx.ars.rd (by omega) kR).mono ?_;rintro r w10 ⟨rfl,hY⟩;have hi:=ae hy hY;have bx10:=bx9.ext hY;have ha:=j.below hY;clear hy bx9 px9 j kg hx hY;generalize hfo:bZ P.ar=fo;rw[hfo] at kK;clear hfo;go_upto_region 9 with (fail)
   go_loopw [35,3] (fun i u wr => ∃(n:Nat) (k:Nat),n≤64∧k≤k' + 16*n∧i = .int .i64 n∧Below w.heap.size w wr∧aA wr w.heap.size (bS H) 41∧Own wr w.heap.size 5 1 u k ((A0++sI H.ma p n).map mQ)) (fun i _ _=>64-(intOf i).toNat)
   case atStart=>exact⟨0,k',by omega,by omega,rfl,hi,bx10,by rw[show A0++sI H.ma p 0=A0 from kQ _];exact ha⟩
   case round=>
    clear hi bx10 ha;obtain⟨n,k1,hn,k8,rfl,d,bx,b⟩:=hrel
    by_cases hn6:n<64
    ·have k5:(n:Int)<64:=by omega
     obtain⟨o,ho⟩:∃o,Hid (fo n=o):=⟨_,Lib.hid rfl⟩;have k9:=yA fo n hn6 o ho.out;have kj:Hid (ni H.ma p n=o):=Lib.hid ((kK.out n).symm.trans ho.out);have hN:Hid (sI H.ma p (n+1)=sI H.ma p n++FY H.ma p n):=Lib.hid rfl
     go_wp2_with (refine aF rfl _ _ _ rfl (oC o) rfl rfl rfl one_size (by rw[←jr,dF];exact Kj o) ?_)
     intro w11 hX ox11;have hr:=ae d hX;have bx11:=bx.ext hX;have m:=b.below hX;clear d bx b hX k9;generalize wr.heap.size=go at ox11;have kd:=ox11.cell;unfold oC at kd;cases o with
     | none=>
      have gf:Hid (sI H.ma p (n+1)=sI H.ma p n):=Lib.hid (by rw[hN.out];unfold FY;rw[kj.out];exact kQ _);clear hN kj ho;go_wp2;go_roundw
      case rel=>exact⟨n+1,k1,by omega,by omega,by go_num,hr,bx11,by rw[gf.out];exact m⟩
      case measure=>simp[intOf];omega
     | some g=>
      have gy:=Lib.hid hpl
      go_wp2_with (refine ax _ _ rfl w.heap.size 0 rfl rfl _ bx11.rd _ underlying41 rfl machine_size ?_)
      refine (Pd H p n _ (h.below hr) hA.out hpl hn6).mono ?_;rintro r w12 ⟨rfl,hL⟩;have kh:=ae hr hL;have bx12:=bx11.ext hL;have ox12:=ox11.ext hL;have hT:=m.below hL;clear hr bx11 ox11 m hL kd;obtain⟨S,hS⟩:∃S,Hid (qa H.ma p n=S):=⟨_,Lib.hid rfl⟩;rw[hS.out];obtain⟨X,own,e⟩:=S;have gd:Hid (FY H.ma p n=[UInt8.ofNat n,LC e,LC g.fi,LC g.pg]++X.toList++[g.rd,g.wr,g.sh,own&&decide (0≤g.fi)].map yB):=Lib.hid (by unfold FY;rw[kj.out,hS.out]);clear hS kj ho
      go_wp2_with (refine aF rfl _ _ _ rfl (fQ X) rfl rfl rfl psize (fT X) ?_)
      intro w13 hK xx13;have hO:=ae kh hK;have bx13:=bx12.ext hK;have ox13:=ox12.ext hK;have hC:=hT.below hK;clear kh bx12 ox12 hT hK;generalize w12.heap.size=gx at xx13;have hZ:Hid (k1≤6000):=Lib.hid (by omega);obtain⟨old1,kc⟩:∃o1,Hid (o1=(A0++sI H.ma p n).map mQ):=⟨_,Lib.hid rfl⟩;rw[←kc.out] at hC;have kM:Hid (∀t∈[(w.heap.size,bS H,41),(gx,fQ X,79),(go,oC (some g),109)],t.2.2≠5):=Lib.hid fun t ht=>by
       rcases bU.1 ht with rfl|ht
       ·show 41≠5;decide
       rcases bU.1 ht with rfl|ht
       ·show 79≠5;decide
       ·cases bv.1 ht;show 109≠5;decide
      go_upto_region 13 with (fail);refine Od 0 3 (u3) (by kernel_rfl) (by kernel_rfl) rfl fun ops0 h9 => ?_;simp only[freedL,Be] at h9;subst h9;refine Nh 15 [_,_,_,_,_,_,.v (.int .i64 g.fi),_,_,.v (.int .i64 g.pg),_,.r 11 ((cB fun _=>True)),.r 12 ((cB fun _=>True)),_,.r 14 ((cB fun _=>True))] (LA 11 12 14 4 w13 w.heap.size [(w.heap.size,bS H,41),(gx,fQ X,79),(go,oC (some g),109)] u3 k1 old1 ([UInt8.ofNat n,LC e,LC g.fi,LC g.pg].map mQ) (X.toList.map mQ)) nV (fun y=>Xn hO.size (fun t ht=>by rcases bU.1 ht with rfl | ht;exact bx13;rcases bU.1 ht with rfl | ht;exact xx13;cases bv.1 ht;exact ox13) hC y) (Qk nV rfl (Qk nV rfl (Qr nV (.int .u8 ((n:Int)%256)) (fun ρ y W hF=>(zQ rfl (aC rfl hF) (by simp[convert,go_sem,Dz]))) rfl rfl (Qk nV rfl (Qr nV (.int .u8 (e%256)) (fun ρ y W hF=>(zQ rfl (aC rfl hF) (by simp[convert,go_sem,Dz]))) rfl rfl (Qf nV go 4 rfl rfl (ag ?_ (Qr nV (.int .u8 (g.fi%256)) (fun ρ y W hF=>(zQ rfl (aC rfl hF) (by simp[convert,go_sem,Dz]))) rfl rfl (Qf nV go 5 rfl rfl (ag ?_ (Qr nV (.int .u8 (g.pg%256)) (fun ρ y W hF=>(zQ rfl (aC rfl hF) (by simp[convert,go_sem,Dz]))) rfl rfl (ag ?_ (ag ?_ (Qr nV (.slice (some ⟨gx,0,none⟩) 8 8) (fun ρ y W hF=>(QD rfl (aC rfl hF))) rfl rfl (ag ?_ (aB)) (fun _ _ _ _ hh h=>qo (by decide) h)))) (fun _ _ _ _ hh h=>qo (by decide) h))) (fun _ _ _ _ hh h=>qo (by decide) h)) (fun _ _ _ _ hh h=>qo (by decide) h))) (fun _ _ _ _ hh h=>qo (by decide) h)) (fun _ _ _ _ hh h=>qo (by decide) h)) (fun _ _ _ _ hh h=>qo (by decide) h)) (fun _ _ _ _ hh h=>qo (by decide) h)) (fun _ _ _ _ hh h=>qo (by decide) h)) (fun _ _ _ _ hh h=>qo (by decide) h)) (fun _=>rfl) rfl ?_
      ·intro ρ y W L hw hn hE hh hb hd;refine ed nV (fun _ _ h=>qo (by decide) h) hb ?_;have gq:=hw 55 5 rfl;have h5:y 5=_:=hd 5 rfl;have oxW:aA W go (oC (some g)) 109:=hb.1.2.2 _ (.tail _ (.tail _ (.head _)));refine aj (.int .i64 g.fi) (ah rfl) (by simp[execOp,go_sem,gq,h5,oxW.cell,oC,oF]) rfl
      ·intro ρ y W L hw hn hE hh hb hd;refine ed nV (fun _ _ h=>qo (by decide) h) hb ?_;have gm:=hw 58 8 rfl;have h8:y 8=_:=hd 8 rfl;have oxW:aA W go (oC (some g)) 109:=hb.1.2.2 _ (.tail _ (.tail _ (.head _)));refine aj (.int .i64 g.pg) (ah rfl) (by simp[execOp,go_sem,gm,h8,oxW.cell,oC,oP]) rfl
      ·intro ρ y W L hw hn hE hh hb hd;have gs:=hw 52 2 rfl;have h2:y 2=_:=hd 2 rfl;have gr:=hw 54 4 rfl;have h4:y 4=_:=hd 4 rfl;have gn:=hw 57 7 rfl;have h7:y 7=_:=hd 7 rfl;have gl:=hw 60 10 rfl;have gh:y 10=_:=hd 10 rfl;refine eu (.slice (some ⟨W.heap.size,0,none⟩) 4 4) (ah rfl) ?_ (WK (W':=W.alloc (.cells #[.int .u8 ((n:Int)%256),.int .u8 (e%256),.int .u8 (g.fi%256),.int .u8 (g.pg%256)] 5)) (by decide) ((Below.refl _ _).alloc (az _) _) hb ⟨az _,by unfold maxLen;omega,fun e=>(by cases e),by rw[bA,bA,bA,bA,bB,DC,DC,DC,Ve];exact dI.new _ _ _⟩) trivial;simp[execOp,go_sem,gs.trans h2,gr.trans h4,gn.trans h7,gl.trans gh]
      ·intro ρ y W L hw hn hE hh hb hd;have gt:=hw 50 0 rfl;have h0:y 0=_:=hd 0 rfl;have gk:=hw 61 11 rfl;have gD:=hd 11 rfl;obtain⟨a,c,kV,kr⟩:=hb.2.2.2.1 (hh 11 rfl) hE;have hv:=hb.2.2.1 hE;refine jJ (ah rfl) (mM _ _ _ rfl w.heap.size 5 _ 1 1 underlying24 byte_info rfl (by decide) u3 k1 _ (gt.trans h0) hv a 4 c _ (gk.trans kV) kr.nl kr.le rfl kr.rd (fun u hu=>by obtain⟨x,_,rfl⟩:=fP.1 hu;rfl) (by unfold maxLen;have:=hZ.out;omega) (by have:=hZ.out;omega) hb.1.2.1) (fun v W1 h=>WW (by decide) kM.out hE hb h.2.1 h.1) (fun _ _ _=>trivial)
      ·intro ρ y W L hw hn hE hh hb hd;have gj:=hw 62 12 rfl;have gC:=hd 12 rfl;have gi:=hw 63 13 rfl;have gg:y 13=_:=hd 13 rfl;have hv:=hb.2.2.2.2.1 (hh 12 rfl) hE;refine jJ (ah rfl) (mM _ _ _ rfl w.heap.size 5 _ 1 1 underlying24 byte_info rfl (by decide) (y 12) (k1+4) _ gj hv (some ⟨gx,0,none⟩) 8 8 _ (gi.trans gg) (fun e=>(by cases e)) (az _) (by simp) (by rw[←WU];exact (hb.1.2.2 _ (.tail _ (.head _))).rd) (fun u hu=>by obtain⟨x,_,rfl⟩:=fP.1 hu;rfl) (by unfold maxLen;have:=hZ.out;omega) (by have:=hZ.out;omega) hb.1.2.1) (fun v W1 h=>Xb (by decide) kM.out (hh 12 rfl) hE hb h.2.1 h.1) (fun _ _ _=>trivial)
      intro y W5 kO kS;clear kS;obtain⟨⟨kH,k0,kv⟩,_,_,_,_,kF⟩:=kO;have ke:=kF rfl;have bx5:aA W5 w.heap.size (bS H) 41:=kv _ (.head _);have ox5:aA W5 go (oC (some g)) 109:=kv _ (.tail _ (.tail _ (.head _)));have hJ:=uQ hO kH;clear kH k0 kv kF hO bx13 ox13 xx13 hC;generalize y 14=v5 at ke;obtain⟨old2,kb⟩:∃o2,Hid (o2=(old1++[UInt8.ofNat n,LC e,LC g.fi,LC g.pg].map mQ)++X.toList.map mQ):=⟨_,Lib.hid rfl⟩;rw[←kb.out] at ke;obtain⟨zs,ki⟩:∃zs,Hid (zs=[g.rd,g.wr,g.sh,own&&decide (0≤g.fi)]):=⟨_,Lib.hid rfl⟩;have kd:=ox5.cell;unfold oC at kd;go_upto_region 14 with (fail)
      go_cut [77,78,79] (fun s77 s78 s79 wx => ∃b0:Nat,s77 = .slice (some ⟨b0,0,none⟩) 4 4∧s78 = .int .i64 4∧s79 = .int .i64 0∧Below w.heap.size w wx∧aA wx w.heap.size (bS H) 41∧Own wx w.heap.size 5 1 v5 (k1+4+8) old2∧aA wx b0 (zs.map .bool).toArray 4)
      case first=>
       cases own with
       | false=>
        go_wp2;go_meet
        case rel=>exact⟨_,rfl,rfl,rfl,hJ.alloc hJ.size _,bx5.alloc _,ke.alloc _,by rw[ki.out];exact aA.new _ _ _⟩
       | true=>
        go_wp2;go_meet
        case rel=>exact⟨_,rfl,rfl,rfl,hJ.alloc hJ.size _,bx5.alloc _,ke.alloc _,by rw[ki.out];exact aA.new _ _ _⟩
      case rest=>
      obtain⟨b0,rfl,rfl,rfl,hB,bx6,l,zx6⟩:=hcut;clear hJ bx5 ke ox5 kd;have ky:Hid (zs.length=4):=Lib.hid (by rw[ki.out];rfl);go_upto_region 15 with (fail)
      go_loopw [79,3] (fun i u wr => ∃(q:Nat) (k2:Nat),q≤4∧k2≤k1+12+q∧i = .int .i64 q∧Below w.heap.size w wr∧aA wr w.heap.size (bS H) 41∧Own wr w.heap.size 5 1 u k2 (old2++((zs.take q).map yB).map mQ)∧aA wr b0 (zs.map .bool).toArray 4) (fun i _ _=>4-(intOf i).toNat)
      case atStart=>exact⟨0,k1+4+8,by omega,by omega,rfl,hB,bx6,by rw[IR,bB,bB,kQ];exact l,zx6⟩
      case round=>
       clear hB bx6 l zx6;obtain⟨q,k2,hq,gA,rfl,d,bx,b,zx⟩:=hrel
       by_cases hq4:q<4
       ·have kZ:(q:Int)<4:=by omega
        obtain⟨z,hz⟩:∃z,zs[q]?=some z:=⟨_,aI (by rw[ky.out];exact hq4)⟩;have kz:wr.cell? ⟨b0,q,none⟩=some (.bool z):=by rw[zx.cell,vV,iU,hz];rfl
        have ka:Hid (zs.take (q+1)=zs.take q++[z]):=Lib.hid (by rw[mf,hz];rfl);clear hz;obtain⟨old3,hD⟩:∃o3,Hid (o3=old2++((zs.take q).map yB).map mQ):=⟨_,Lib.hid rfl⟩;rw[←hD.out] at b;cases z with
        | false=>
         ·skip
          go_wp2_with (first | (at_builtin;refine iY rfl _ _ 24 rfl w.heap.size 5 _ 1 1 underlying24 byte_info rfl (by decide) u3 k2 old3 rfl (b.alloc _) (some ⟨_,0,none⟩) 1 1 [.int .u8 110] rfl (fun h=>(by cases h)) (az _) rfl (dI.new _ #[.int .u8 110] _) (fun u hu=>by simp at hu;subst hu;rfl) (by unfold maxLen;omega) (by omega) (by have:=d.size;simp;omega) ?_))
          intro v8 w8 hs hm hQ;have hI:=Ao d b hm;have bx8:=qP b hm (by decide) bx;have zx8:=qP b hm (by decide) zx;clear d bx zx b kz hm hQ;go_wp2;go_roundw
          case rel=>exact⟨q+1,k2+1,by omega,by omega,by go_num,hI,bx8,by rw[ka.out,gz,gz,←iw,←hD.out];exact hs,zx8⟩
          case measure=>simp[intOf];omega
        | true=>
         ·skip
          go_wp2_with (first | (at_builtin;refine iY rfl _ _ 24 rfl w.heap.size 5 _ 1 1 underlying24 byte_info rfl (by decide) u3 k2 old3 rfl (b.alloc _) (some ⟨_,0,none⟩) 1 1 [.int .u8 121] rfl (fun h=>(by cases h)) (az _) rfl (dI.new _ #[.int .u8 121] _) (fun u hu=>by simp at hu;subst hu;rfl) (by unfold maxLen;omega) (by omega) (by have:=d.size;simp;omega) ?_))
          intro v8 w8 hs hm hQ;have hI:=Ao d b hm;have bx8:=qP b hm (by decide) bx;have zx8:=qP b hm (by decide) zx;clear d bx zx b kz hm hQ;go_wp2;go_roundw
          case rel=>exact⟨q+1,k2+1,by omega,by omega,by go_num,hI,bx8,by rw[ka.out,gz,gz,←iw,←hD.out];exact hs,zx8⟩
          case measure=>simp[intOf];omega
       have kG : q=4:=by omega
       have kZ:¬(q:Int)<4:=by omega
       have hH:Hid (old2++((zs.take q).map yB).map mQ=(A0++sI H.ma p (n+1)).map mQ):=Lib.hid (by rw[iJ (by rw[ky.out];omega),hN.out,gd.out,kb.out,kc.out,ki.out];simp only[gz,iw]);rw[hH.out] at b;have k7:k2≤k' + 16*(n+1):=by omega
       clear hH zx hq4 kG;go_wp2;go_roundw
       case rel=>exact⟨n+1,k2,by omega,k7,by go_num,d,bx,b⟩
       case measure=>simp[intOf];omega
    have kq:n=64:=by omega
    have k5:¬(n:Int)<64:=by omega
    have hH:Hid ((A0++sI H.ma p n).map mQ=(uZ H.ma (p+1)).map mQ):=Lib.hid (by rw[kq,zl,kT.out,iw]);have k6:k1≤1100*(p+1):=by omega
    rw[hH.out] at b;clear kq hH hn k8 hn6;go_wp2;go_roundw
    case rel=>exact⟨p+1,k1,by omega,k6,by go_num,d,bx,b⟩
    case measure=>simp[intOf];omega
  have kI:¬(p:Int)<(H.sp.length:Int):=by omega
  have kJ:p=H.sp.length:=by omega
  have kA:Hid ((uZ H.ma p).map mQ=(oG H.ma 0).map mQ):=Lib.hid (by rw[zo,Dq,kJ]);have hZ:k≤4400:=by omega
  rw[kA.out] at b;clear kA kJ hp hk hpl;have hc:=bx.cell;unfold bS at hc;have gw:H.fi.length≤5:=by have:=(jC hA.out.pt.st).1;rwa [show H.ma.st.fs.length=H.fi.length from eH _] at this
  go_upto_region 24 with (fail);clear hc kI
  go_loopw [97,3] (fun i u wr => ∃(f:Nat) (k:Nat),f≤H.fi.length∧k≤4400+98*f∧i = .int .i64 f∧Below w.heap.size w wr∧aA wr w.heap.size (bS H) 41∧Own wr w.heap.size 5 1 u k ((oG H.ma f).map mQ)) (fun i _ _=>H.fi.length-(intOf i).toNat)
  case atStart=>exact⟨0,k,by omega,by omega,rfl,d,bx,b⟩
  case round=>
   clear d bx b hZ;obtain⟨f,k,hf,hk,rfl,d,bx,b⟩:=hrel
   by_cases hfl:f<H.fi.length
   ·have ga:(f:Int)<(H.fi.length:Int):=by omega
    have kN:f<H.ma.st.fs.length:=by rw[show H.ma.st.fs.length=H.fi.length from eH _];exact hfl
    have h6:=Lib.hid (Ol hA.out kN);have kp:=(qJ hA.out.pt.st _ (bN (uX (s:=H.ma.st) (f:=f) ⟨by omega,by omega⟩))).2.1;obtain⟨mm,kk⟩:∃mm:Nat,Hid ((aM H.ma.st f).n=(mm:Int)):=⟨(aM H.ma.st f).n.toNat,Lib.hid (by have:=h6.out.1;omega)⟩;have gv:mm≤96:=by rw[kk.out] at kp;omega
    have hN:Hid ((oG H.ma (f+1)).map mQ=(oG H.ma f).map mQ++[.int .u8 102,.int .u8 (mm:Int)]++(mX H.ma f mm).map mQ):=Lib.hid (by rw[zq,kk.out,bX,gz,gz,iw];simp only[bA,bB,DC];rw[Int.emod_eq_of_lt (by omega) (by omega)];rfl);have hM:=h.below d
    go_wp2_with (refine ax _ _ rfl w.heap.size 0 rfl rfl _ bx.rd _ underlying41 rfl machine_size ?_)
    refine (LY H f _ hM hA.out ⟨(kU hA.out).ca,(kU hA.out).st.2⟩ hA.out.ca.lt hfl h6.out).mono ?_;rintro r w9 ⟨v,rfl,hv,km⟩;rw[RI,kk.out,bX] at hv;have bx9:=bx.ext km;have hy:=ae d km;have j:=b.below km;have kP:Hid (∀g,u3.ownBlock=some g→v.ownBlock≠some g):=Lib.hid fun g hg e=>by have h1:=CF b g hg;have h2:=hv.ge g e;omega
    clear hM bx d b km kN kp;obtain⟨old,hU⟩:∃old,Hid (old=(oG H.ma f).map mQ):=⟨_,Lib.hid rfl⟩;rw[←hU.out] at j hN;obtain⟨a1,c1,kX,k1,k2,k3,k4⟩:=hv.rd;clear k1 k2 k3 k4;subst kX
    go_wp2_with (first | (at_builtin;refine iY rfl _ _ 24 rfl w.heap.size 5 _ 1 1 underlying24 byte_info rfl (by decide) u3 k old rfl (j.alloc _) (some ⟨_,0,none⟩) 2 2 [.int .u8 102,.int .u8 (mm:Int)] rfl (fun h=>(by cases h)) (az _) rfl (dI.new _ #[.int .u8 102,.int .u8 (mm:Int)] _) (fun u hu=>by simp at hu;rcases hu with rfl | rfl<;>rfl) (by unfold maxLen;omega) (by omega) (by have:=hy.size;simp;omega) ?_))
    intro v10 w10 ha hV ku;have hi:=Ao hy j hV;have bx10:=qP j hV (by decide) bx9;have ko:Own w10 wr.heap.size 5 1 (.slice a1 mm c1) mm ((mX H.ma f mm).map mQ):=(hv.alloc _).grown hV (fun g hg e=>kP.out g e hg);clear hy bx9 j hV ku hv kP;obtain⟨a2,c2,kW,k1,k2,k3,k4⟩:=ko.rd;cases kW;have hG:(mX H.ma f mm).length=mm:=MQ _ _ _;have kw:((mX H.ma f mm).map mQ).length=mm*1:=by rw[eH,hG,qI]
    have h3:Hid (∀u∈(mX H.ma f mm).map mQ,u.oneCell' = true):=Lib.hid (fun u hu=>by obtain⟨x,_,rfl⟩:=fP.1 hu;rfl);generalize (mX H.ma f mm).map mQ=bs at k4 hN kw h3;clear hG ko
    go_wp2_with (first | (at_builtin;refine iY rfl _ _ 24 rfl w.heap.size 5 _ 1 1 underlying24 byte_info rfl (by decide) v10 (k+2) (old++[.int .u8 102,.int .u8 (mm:Int)]) rfl ha a1 mm c1 bs rfl k3 k1 kw k4 h3.out (by unfold maxLen;omega) (by omega) hi.size ?_))
    intro v11 w11 m kf kt;have hr:=hi.grown kf hi.size ha.ge;have bx11:=SY ha kf (by decide) bx10;have m:Own w11 w.heap.size 5 1 v11 (k+2+mm) ((oG H.ma (f+1)).map mQ):=by rw[hN.out,iw];exact m
    clear hi bx10 ha kf kt k1 k2 k3 k4 kw h3 hN h6 kk;go_wp2;go_roundw
    case rel=>exact⟨f+1,k+2+mm,by omega,by omega,by go_num,hr,bx11,m⟩
    case measure=>simp[intOf];omega
   have ga:¬(f:Int)<(H.fi.length:Int):=by omega
   have kB:Hid (oG H.ma f=rZ H.ma):=Lib.hid (by unfold rZ;rw[show H.ma.st.fs.length=H.fi.length from eH _,show f=H.fi.length by omega]);obtain⟨a,c,rfl,k1,k2,k3,k4⟩:=b.rd;have hG:(oG H.ma f).length=k:=by have:=b.1;simpa using this
   have e1:=LV underlying24 underlying5 c k4 9 underlying9;rw[hG] at e1;clear k1 k2 k3 k4 b hG hf hfl;generalize oG H.ma f=ss at e1 kB;go_wp2;go_ret;exact⟨by rw[←kB.out];rfl,d⟩
theorem Gv {m m' : Ma} (h:Fz m m') (p:Nat):∀n,sI m' p n=sI m p n
 | 0=>rfl
 | n+1=>by unfold sI;rw[Gv h p n];unfold FY ni;rw[h.sk.ar,h.see]
theorem GD {m m' : Ma} (h:Fz m m'):∀p,uZ m' p=uZ m p
 | 0=>rfl
 | p+1=>by rw[zl,zl,GD h p,h.sk.lv,Gv h]
theorem QI (hm:Rt m) (h:Fz m m') (hf:f<m.st.fs.length):mX m' f (aM m'.st f).n.toNat=mX m f (aM m.st f).n.toNat:=by
 rw[h.size];obtain⟨h1,h2⟩:=Ol hm hf;unfold mX;refine ww fun j hj => ?_;have a:=dG.1 hj;rw[h.con f ((j / 8:Nat):Int) ⟨⟨by omega,by omega⟩,by omega,by omega⟩]
theorem Gx {m m' : Ma} (hm:Rt m) (h:Fz m m'):∀f,f≤m.st.fs.length→oG m' f=oG m f
 | 0,_=>by rw[zo,zo,h.sk.len,GD h]
 | f+1,hf=>by rw[zq,zq,Gx hm h f (by omega),QI hm h (by omega),h.size]
theorem Fq (hm:Rt m) (h:Fz m m'):rZ m' = rZ m:=by
 unfold rZ;rw[h.files];exact Gx hm h _ (az _)
theorem JQ (l:List Fr):fB l=(l.map Fr.r).countP fun r=>decide (r=0):=by
 unfold fB;rw[sP];rfl
theorem Mo (hf:f<m.m.fs.length) (h:Cleaned m m1 f):fB m1.m.fs=fB m.m.fs:=by
 rw[h.fs,JQ,JQ];show List.countP _ ((m.m.fs.set f { aR m f with d:=false }).map Fr.r)=_;congr 1;apply lU;intro i;rw[iU,iU,kR]
 by_cases q:f=i
 ·subst q;rw[if_pos rfl,if_pos hf,aI hf];show some (aR m f).r=some _;rw[vC hf]
 ·rw[if_neg q]
theorem PT (hR:Rt m) (hC:Co m):Rt (si m)∧Co (si m)∧Fz m (si m)∧fB (si m).m.fs=fB m.m.fs:=by
 unfold si;cases h:oU m with
 | none=>exact⟨hR,hC,.refl _,rfl⟩
 | some f=>
  obtain⟨m1,e,hc,_⟩:=ET hR hC h;show Rt (gU ⟨m,0⟩ f).m∧Co (gU ⟨m,0⟩ f).m∧Fz m (gU ⟨m,0⟩ f).m∧fB (gU ⟨m,0⟩ f).m.m.fs=fB m.m.fs;rw[e];exact⟨hc.rt,hc.co,hc.vis,Mo (Cr h).1 hc⟩
theorem Kr (cf cs cb:Int) (l:List UInt8) (file:Int) (al:Option Addr) (cl:Nat) (w:World) (hr:ui w al cl l.length (l.map mQ)) :
  Calls Tryz.prog 4 #[.agg #[.int .i64 cf,.int .i64 cs,.int .i64 cb],.slice al l.length cl,.int .i64 file] w fun r w'=>r = .returned (.bool true)∧Below w.heap.size w w':=by
 go_enter func4,ntmps4;go_upto_region 1 with (fail);refine gF (fun W=>Code.wp _ _ _ _ W) fun w1 hU cx1 ke => ?_;have h2:=hr.below hU;clear hr
 go_wp2_with fail
 refine (Vl w1).mono ?_;rintro r w2 ⟨rfl,hD⟩;have hZ:=h2.below hD;have cx2:=cx1.ext hD;have hq:=ae hU hD;clear h2 cx1 hU hD ke;have kg:=cx2.cell
 go_wp2_with fail
 refine (EB cf cs cb al cl l w2 hZ).mono ?_;rintro r w3 ⟨H,rfl,ho,h9,ka,kb,_,_,_,_,_⟩;have hP:=ae hq h9;have hG:=ho.mono hq.size;have hR:=Lib.hid ka;have hC:=Lib.hid kb;clear hZ cx2 kg hq h9 ho ka kb
 go_wp2_with (refine aF rfl _ _ _ rfl (bS H) rfl rfl rfl machine_size (fI _) ?_)
 intro w4 hT bx4;have hh:=hG.below hT;have hO:=ae hP hT;clear hG hP hT;generalize w3.heap.size=gm at bx4
 go_wp2_with (refine ax _ _ rfl gm 0 rfl rfl _ bx4.rd _ underlying41 rfl machine_size ?_)
 refine (AX H _ hh.rd hR.out).mono ?_;rintro r w5 ⟨rfl,hB⟩;have hg:=hh.below hB;have bx5:=bx4.ext hB;have hN:=ae hO hB;clear hh bx4 hO hB
 go_wp2_with (refine ax _ _ rfl gm 0 rfl rfl _ bx5.rd _ underlying41 rfl machine_size ?_)
 refine (EP H _ hg.rd hR.out hC.out).mono ?_;rintro r w6 ⟨hA,K,rfl,h4,h5⟩;have hK:Hid (Rt K.ma∧Co K.ma∧rZ K.ma=rZ H.ma∧fB K.m.fs=fB H.m.fs+if (eF ⟨H.ma,0⟩).2=true then 1 else 0):=Lib.hid (by obtain⟨_,k1,k2,k3,k4⟩:=BU hR.out hC.out;rw[←h5] at k1 k2 k3 k4;exact⟨k1,k2,Fq hR.out k3,k4⟩);generalize (eF ⟨H.ma,0⟩).2=ok at hK ⊢;have hF:=hg.below hA;have bx6:=bx5.ext hA;have hp:=ae hN hA;have hH:=h4.rd;clear hg bx5 hN hA h4 h5
 go_wp2_with (refine aF rfl _ _ _ rfl (bS K) rfl rfl rfl machine_size (fI _) ?_)
 intro w7 hv ax7;have q:=hF.below hv;have bx7:=bx6.ext hv;have hm:=ae hp hv;have t:=hH.below hv;have o:Hid (w.heap.size≤w6.heap.size∧gm<w6.heap.size):=Lib.hid ⟨hp.size,bx6.lt⟩;clear hF bx6 hp hv hH;generalize w6.heap.size=ga at ax7 o;have kf:Hid (fB H.m.fs≤1000):=Lib.hid (aY tH (kU hR.out).fs);have kc:Hid (IntKind.i64.wrap ((fB H.m.fs:Int)+1)=(fB H.m.fs:Int)+1):=Lib.hid (bO _ (by have:=kf.out;omega));go_upto_region 6 with (fail)
 go_cut [64] (fun s wx=>s = .bool false∧Below w.heap.size w wx∧aA wx gm (bS H) 41∧aA wx ga (bS K) 41∧uz wx w.heap.size H)
 case first=>
  cases ok
  case' true=>
   have e51:Hid ((fB K.m.fs:Int)=(fB H.m.fs:Int)+1):=Lib.hid (by have:=hK.out.2.2.2;simp at this;omega);refine aK 35 [_,_,_,_,.v (.int .i64 0),_,_,_,_,.v (.string ⟨(rZ H.ma).toArray⟩),_,_,_,_,_,_,_,.v (.int .i64 (fB K.m.fs:Int)),_,.v (.int .i64 (fB H.m.fs:Int)),_,_,_,_,_,_,.v (.bool false),_,_,_,_,_,_,_,.v (.bool false)] (Gk rfl (Gb (.bool false) (by simp[go_sem]) rfl rfl rfl rfl rfl (Gk rfl (Gr (.agg (bS K)) (fun ρ y W hb c=>(bn rfl (aC rfl c) (ax7.ext hb) underlying41 rfl machine_size)) rfl rfl (ag ?u2_1 (Gb (.bool false) (by simp[go_sem]) rfl rfl rfl rfl rfl (Gk rfl (Gk rfl (Gr (.agg (bS K)) (fun ρ y W hb c=>(bn rfl (aC rfl c) (ax7.ext hb) underlying41 rfl machine_size)) rfl rfl (ag ?u2_2 (Gk rfl (Gb (.bool false) (by simp[go_sem]) rfl rfl rfl rfl rfl (Gk rfl (Gk rfl (Gk rfl (Gk rfl (Gr (.agg (bS K)) (fun ρ y W hb c=>(bn rfl (aC rfl c) (ax7.ext hb) underlying41 rfl machine_size)) rfl rfl (ag ?u2_3 (Gr (.agg (bS H)) (fun ρ y W hb c=>(bn rfl (aC rfl c) (bx7.ext hb) underlying41 rfl machine_size)) rfl rfl (ag ?u2_4 (Gb (.int .i64 ((fB H.m.fs:Int)+1)) (by simp[go_sem,kc.out]) rfl rfl rfl rfl rfl (Gb (.bool false) (by simp[go_sem,e51.out]) rfl rfl rfl rfl rfl (Gk rfl (Gk rfl (Gk rfl (Gk rfl (ag ?u2_5 (Gk rfl (Gk rfl (Gk rfl (Gk rfl (Gk rfl (Gk rfl (Gk rfl (Gk rfl (aB)))))))))))))))))))))))))))))))))))) (fun _=>rfl) rfl ?u2_6
  case' false=>
   have e62:Hid ((fB K.m.fs:Int)=(fB H.m.fs:Int)):=Lib.hid (by have:=hK.out.2.2.2;simp at this;omega);refine aK 35 [_,_,_,_,.v (.int .i64 0),_,_,_,_,.v (.string ⟨(rZ H.ma).toArray⟩),_,_,_,_,_,_,_,_,_,_,_,_,_,_,_,_,.v (.bool true),_,_,.v (.int .i64 (fB K.m.fs:Int)),_,.v (.int .i64 (fB H.m.fs:Int)),_,_,.v (.bool false)] (Gk rfl (Gb (.bool false) (by simp[go_sem]) rfl rfl rfl rfl rfl (Gk rfl (Gr (.agg (bS K)) (fun ρ y W hb c=>(bn rfl (aC rfl c) (ax7.ext hb) underlying41 rfl machine_size)) rfl rfl (ag ?v2_1 (Gb (.bool false) (by simp[go_sem]) rfl rfl rfl rfl rfl (Gk rfl (Gk rfl (Gr (.agg (bS K)) (fun ρ y W hb c=>(bn rfl (aC rfl c) (ax7.ext hb) underlying41 rfl machine_size)) rfl rfl (ag ?v2_2 (Gk rfl (Gb (.bool false) (by simp[go_sem]) rfl rfl rfl rfl rfl (Gk rfl (Gk rfl (Gk rfl (Gk rfl (Gk rfl (Gk rfl (Gk rfl (Gk rfl (Gk rfl (Gk rfl (Gk rfl (Gk rfl (Gk rfl (Gk rfl (ag ?v2_3 (Gk rfl (Gr (.agg (bS K)) (fun ρ y W hb c=>(bn rfl (aC rfl c) (ax7.ext hb) underlying41 rfl machine_size)) rfl rfl (ag ?v2_4 (Gr (.agg (bS H)) (fun ρ y W hb c=>(bn rfl (aC rfl c) (bx7.ext hb) underlying41 rfl machine_size)) rfl rfl (ag ?v2_5 (Gb (.bool false) (by simp[go_sem,e62.out]) rfl rfl rfl rfl rfl (Gk rfl (Gk rfl (aB)))))))))))))))))))))))))))))))))))) (fun _=>rfl) rfl ?v2_6
  case u2_1|v2_1=>
   intro ρ y W hw hn hb hd;have ku:=hw 33 3 rfl;have h3:y 3=_:=hd 3 rfl;have EF:∀f,ρ (.func f) = .func (.func f) #[] #[]:=fun f=>hn (.func f) trivial;refine aL _ _ (aT 2 32 false false rfl rfl ((hw 32 2 rfl).trans (hd 2 rfl))) (aO rfl (EF _) func14 (by kernel_rfl) (by kernel_rfl) (by simp only[bH,bA,bB,ku,h3,EF];rfl)) ?_;refine (wH K W (t.below hb) hK.out.1).mono ?_;rintro r w9 ⟨rfl,a⟩;exact⟨_,rfl,a,rfl⟩
  case u2_2|v2_2=>
   intro ρ y W hw hn hb hd;have kt:=hw 38 8 rfl;have h8:y 8=_:=hd 8 rfl;have EF:∀f,ρ (.func f) = .func (.func f) #[] #[]:=fun f=>hn (.func f) trivial;refine aL _ _ (aT 7 37 false false rfl rfl ((hw 37 7 rfl).trans (hd 7 rfl))) (aO rfl (EF _) func19 (by kernel_rfl) (by kernel_rfl) (by simp only[bH,bA,bB,kt,h8,EF];rfl)) ?_;refine (AX K W (t.below hb) hK.out.1).mono ?_;rintro r w9 ⟨rfl,a⟩;exact⟨_,rfl,a,by rw[hK.out.2.2.1];rfl⟩
  case u2_3=>
   intro ρ y W hw hn hb hd;have ks:=hw 46 16 rfl;have hX:y 16=_:=hd 16 rfl;have EF:∀f,ρ (.func f) = .func (.func f) #[] #[]:=fun f=>hn (.func f) trivial;refine aL _ _ (aT 15 45 true true rfl rfl ((hw 45 15 rfl).trans (hd 15 rfl))) (aO rfl (EF _) func21 (by kernel_rfl) (by kernel_rfl) (by simp only[bH,bA,bB,ks,hX,EF];rfl)) ?_;refine (oO K W (t.below hb) (kU hK.out.1)).mono ?_;rintro r w9 ⟨rfl,a⟩;exact⟨_,rfl,a,rfl⟩
  case u2_4=>
   intro ρ y W hw hn hb hd;have kr:=hw 48 18 rfl;have kj:y 18=_:=hd 18 rfl;have EF:∀f,ρ (.func f) = .func (.func f) #[] #[]:=fun f=>hn (.func f) trivial;refine aL _ _ (aT 15 45 true true rfl rfl ((hw 45 15 rfl).trans (hd 15 rfl))) (aO rfl (EF _) func21 (by kernel_rfl) (by kernel_rfl) (by simp only[bH,bA,bB,kr,kj,EF];rfl)) ?_;refine (oO H W (q.below hb).rd (kU hR.out)).mono ?_;rintro r w9 ⟨rfl,a⟩;exact⟨_,rfl,a,rfl⟩
  case u2_5=>
   intro ρ y W hw hn hb hd;have hY:=hw 55 25 rfl;have hW:y 25=_:=hd 25 rfl;refine aj (.bool false) (aT 24 54 false false rfl rfl ((hw 54 24 rfl).trans (hd 24 rfl))) (ym rfl (hY.trans hW)) rfl
  case u2_6=>
   intro y W9 b _;go_wp2;go_meet
   case rel=>exact⟨rfl,ae hm b,bx7.ext b,ax7.ext b,q.below b⟩
  case v2_3=>
   intro ρ y W hw hn hb hd;have hY:=hw 55 25 rfl;have hW:y 25=_:=hd 25 rfl;refine aj (.bool true) (aT 24 54 false false rfl rfl ((hw 54 24 rfl).trans (hd 24 rfl))) (ym rfl (hY.trans hW)) rfl
  case v2_4=>
   intro ρ y W hw hn hb hd;have kq:=hw 58 28 rfl;have ki:y 28=_:=hd 28 rfl;have EF:∀f,ρ (.func f) = .func (.func f) #[] #[]:=fun f=>hn (.func f) trivial;refine aL _ _ (aT 27 57 true true rfl rfl ((hw 57 27 rfl).trans (hd 27 rfl))) (aO rfl (EF _) func21 (by kernel_rfl) (by kernel_rfl) (by simp only[bH,bA,bB,kq,ki,EF];rfl)) ?_;refine (oO K W (t.below hb) (kU hK.out.1)).mono ?_;rintro r w9 ⟨rfl,a⟩;exact⟨_,rfl,a,rfl⟩
  case v2_5=>
   intro ρ y W hw hn hb hd;have kp:=hw 60 30 rfl;have kh:y 30=_:=hd 30 rfl;have EF:∀f,ρ (.func f) = .func (.func f) #[] #[]:=fun f=>hn (.func f) trivial;refine aL _ _ (aT 27 57 true true rfl rfl ((hw 57 27 rfl).trans (hd 27 rfl))) (aO rfl (EF _) func21 (by kernel_rfl) (by kernel_rfl) (by simp only[bH,bA,bB,kp,kh,EF];rfl)) ?_;refine (oO H W (q.below hb).rd (kU hR.out)).mono ?_;rintro r w9 ⟨rfl,a⟩;exact⟨_,rfl,a,rfl⟩
  case v2_6=>
   intro y W9 b _;go_wp2;go_meet
   case rel=>exact⟨rfl,ae hm b,bx7.ext b,ax7.ext b,q.below b⟩
 case rest=>
 clear hm bx7 ax7 q t;obtain⟨rfl,hl,bx8,ax8,hf⟩:=hcut
 go_wp2_with (refine ax _ _ rfl gm 0 rfl rfl _ bx8.rd _ underlying41 rfl machine_size ?_)
 refine (Em H _ hf.rd hR.out hC.out).mono ?_;rintro r w9 ⟨a,K2,rfl,hJ,hM⟩;have hx:Hid (Rt K2.ma∧rZ K2.ma=rZ H.ma∧fB K2.m.fs=fB H.m.fs):=Lib.hid (by obtain⟨k1,_,k3,k4⟩:=PT hR.out hC.out;rw[←hM] at k1 k3 k4;exact⟨k1,Fq hR.out k3,k4⟩);generalize (oU H.ma).isSome=ok2;have hE:=hf.below a;have bx9:=bx8.ext a;have ax9:=ax8.ext a;have hj:=ae hl a;have hI:=hJ.mono hl.size;clear hf bx8 ax8 hl a hJ hM
 go_wp2_with (refine ay rfl _ _ _ rfl ga (bS K2) rfl rfl _ _ ax9 rfl mach_size (fI _) ?_)
 intro wa ax10 u;have bx10:=bx9.grown u (fun e=>by have:=aJ e;have:=o.out.2;omega);have hu:=hj.grown u hj.size (fun k hk=>by cases hk;exact o.out.1);have x:=hE.keep ax9 (by decide) u;have n:=hI.keep ax9 (by decide) u;clear hE bx9 ax9 hj u hI;have e89:Hid ((fB K2.m.fs:Int)=(fB H.m.fs:Int)):=Lib.hid (by rw[hx.out.2.2]);go_upto_region 9 with (fail);refine aK 20 [_,_,_,_,.v (.int .i64 0),_,_,_,_,.v (.string ⟨(rZ H.ma).toArray⟩),_,_,_,_,_,.v (.int .i64 (fB K2.m.fs:Int)),_,.v (.int .i64 (fB H.m.fs:Int)),_,.v (.bool false)] (Gk rfl (Gb (.bool false) (by simp[go_sem]) rfl rfl rfl rfl rfl (Gk rfl (Gr (.agg (bS K2)) (fun ρ y W hb c=>(bn rfl (aC rfl c) (ax10.ext hb) underlying41 rfl machine_size)) rfl rfl (ag ?_ (Gb (.bool false) (by simp[go_sem]) rfl rfl rfl rfl rfl (Gk rfl (Gk rfl (Gr (.agg (bS K2)) (fun ρ y W hb c=>(bn rfl (aC rfl c) (ax10.ext hb) underlying41 rfl machine_size)) rfl rfl (ag ?_ (Gk rfl (Gb (.bool false) (by simp[go_sem]) rfl rfl rfl rfl rfl (Gk rfl (Gk rfl (Gr (.agg (bS K2)) (fun ρ y W hb c=>(bn rfl (aC rfl c) (ax10.ext hb) underlying41 rfl machine_size)) rfl rfl (ag ?_ (Gr (.agg (bS H)) (fun ρ y W hb c=>(bn rfl (aC rfl c) (bx10.ext hb) underlying41 rfl machine_size)) rfl rfl (ag ?_ (Gb (.bool false) (by simp[go_sem,e89.out]) rfl rfl rfl rfl rfl (Gk rfl (aB))))))))))))))))))))) (fun _=>rfl) rfl ?_
 ·intro ρ y W hw hn hb hd;have ko:=hw 74 3 rfl;have h3:y 3=_:=hd 3 rfl;have EF:∀f,ρ (.func f) = .func (.func f) #[] #[]:=fun f=>hn (.func f) trivial;refine aL _ _ (aT 2 73 false false rfl rfl ((hw 73 2 rfl).trans (hd 2 rfl))) (aO rfl (EF _) func14 (by kernel_rfl) (by kernel_rfl) (by simp only[bH,bA,bB,ko,h3,EF];rfl)) ?_;refine (wH K2 W (n.below hb).rd hx.out.1).mono ?_;rintro r w9 ⟨rfl,a⟩;exact⟨_,rfl,a,rfl⟩
 ·intro ρ y W hw hn hb hd;have kn:=hw 79 8 rfl;have h8:y 8=_:=hd 8 rfl;have EF:∀f,ρ (.func f) = .func (.func f) #[] #[]:=fun f=>hn (.func f) trivial;refine aL _ _ (aT 7 78 false false rfl rfl ((hw 78 7 rfl).trans (hd 7 rfl))) (aO rfl (EF _) func19 (by kernel_rfl) (by kernel_rfl) (by simp only[bH,bA,bB,kn,h8,EF];rfl)) ?_;refine (AX K2 W (n.below hb).rd hx.out.1).mono ?_;rintro r w9 ⟨rfl,a⟩;exact⟨_,rfl,a,by rw[hx.out.2.1];rfl⟩
 ·intro ρ y W hw hn hb hd;have km:=hw 85 14 rfl;have kk:y 14=_:=hd 14 rfl;have EF:∀f,ρ (.func f) = .func (.func f) #[] #[]:=fun f=>hn (.func f) trivial;refine aL _ _ (aT 13 84 false false rfl rfl ((hw 84 13 rfl).trans (hd 13 rfl))) (aO rfl (EF _) func21 (by kernel_rfl) (by kernel_rfl) (by simp only[bH,bA,bB,km,kk,EF];rfl)) ?_;refine (oO K2 W (n.below hb).rd (kU hx.out.1)).mono ?_;rintro r w9 ⟨rfl,a⟩;exact⟨_,rfl,a,rfl⟩
 ·intro ρ y W hw hn hb hd;have kl:=hw 87 16 rfl;have hX:y 16=_:=hd 16 rfl;have EF:∀f,ρ (.func f) = .func (.func f) #[] #[]:=fun f=>hn (.func f) trivial;refine aL _ _ (aT 13 84 false false rfl rfl ((hw 84 13 rfl).trans (hd 13 rfl))) (aO rfl (EF _) func21 (by kernel_rfl) (by kernel_rfl) (by simp only[bH,bA,bB,kl,hX,EF];rfl)) ?_;refine (oO H W (x.below hb).rd (kU hR.out)).mono ?_;rintro r w9 ⟨rfl,a⟩;exact⟨_,rfl,a,rfl⟩
 intro y W9 b _;have bx11:=bx10.ext b;have ax11:=ax10.ext b;have j:=x.below b;have i:=ae hu b;clear bx10 ax10 x hu n b
 go_wp2_with (refine ax _ _ rfl gm 0 rfl rfl _ bx11.rd _ underlying41 rfl machine_size ?_)
 by_cases hfa:file<0∨(H.fi.length:Int)≤file
 ·refine (EN H file _ j.rd hR.out hC.out hfa).mono ?_;rintro r wb ⟨rfl,p⟩;have h6:=Lib.hid hfa;clear hfa;have bx12:=bx11.ext p;have ax12:=ax11.ext p;have d:=ae i p;clear bx11 ax11 j i p
  go_wp2_with (refine ay rfl _ _ _ rfl ga (bS noH) rfl rfl _ _ ax12 rfl mach_size (fI _) ?_)
  intro wc ax13 g;have bx13:=bx12.grown g (fun e=>by have:=aJ e;have:=o.out.2;omega);have h:=d.grown g d.size (fun k hk=>by cases hk;exact o.out.1);have hc:=bx13.cell;unfold bS at hc
  by_cases h0:file<0
  ·go_wp2;go_ret;exact⟨rfl,h⟩
  have h1:(H.fi.length:Int)≤file:=by have:=h6.out;omega
  go_wp2;go_ret;exact⟨rfl,h⟩
 have h0:¬file<0:=fun e=>hfa (.inl e);have h1:¬(H.fi.length:Int)≤file:=fun e=>hfa (.inr e);clear hfa;refine (Pq H file _ j.rd hR.out hC.out (by omega) (by omega)).mono ?_;rintro r wb ⟨p,hy⟩;have bx12:=bx11.ext p;have ax12:=ax11.ext p;have d:=ae i p;have kd:=Lib.hid i.size;clear bx11 ax11 j i p;cases hs:Ci file H.ma with
 | none=>
  rw[hs] at hy;cases hy;clear hs
  go_wp2_with (refine ay rfl _ _ _ rfl ga (bS noH) rfl rfl _ _ ax12 rfl mach_size (fI _) ?_)
  intro wc ax13 g;have bx13:=bx12.grown g (fun e=>by have:=aJ e;have:=o.out.2;omega);have h:=d.grown g d.size (fun k hk=>by cases hk;exact o.out.1);have hc:=bx13.cell;unfold bS at hc;go_wp2;go_ret;exact⟨rfl,h⟩
 | some m1=>
  rw[hs] at hy;obtain⟨K3,rfl,ha,hL⟩:=hy;have hS:=Sr hR.out hC.out (by omega) hs;have hV:Hid (Rt K3.ma∧rZ K3.ma=rZ H.ma):=Lib.hid (by rw[hL];exact⟨hS.rt,Fq hR.out hS.vis⟩);have ha:=ha.mono kd.out;clear hs hL hS
  go_wp2_with (refine ay rfl _ _ _ rfl ga (bS K3) rfl rfl _ _ ax12 rfl mach_size (fI _) ?_)
  intro wc ax13 g;have bx13:=bx12.grown g (fun e=>by have:=aJ e;have:=o.out.2;omega);have h:=d.grown g d.size (fun k hk=>by cases hk;exact o.out.1);have z:=ha.keep ax12 (by decide) g;clear bx12 ax12 d g ha;have hc:=bx13.cell;unfold bS at hc;go_upto_region 14 with (fail);clear hc bx13
  go_wp2_with (refine ax _ _ rfl ga 0 rfl rfl _ ax13.rd _ underlying41 rfl machine_size ?_)
  refine (wH K3 _ z.rd hV.out.1).mono ?_;rintro r wd ⟨rfl,hz⟩;have ax14:=ax13.ext hz;have hi:=z.below hz;have ht:=ae h hz;clear ax13 z h hz
  go_wp2_with (refine ax _ _ rfl ga 0 rfl rfl _ ax14.rd _ underlying41 rfl machine_size ?_)
  refine (AX K3 _ hi.rd hV.out.1).mono ?_;rintro r we ⟨rfl,h7⟩;rw[hV.out.2];have hQ:=ae ht h7;clear ax14 hi ht h7;go_wp2;go_ret;exact⟨rfl,hQ⟩
open Go.ChangeShapes Go.WideShapes Go.ChangeAt
theorem opens_cfg:zb Tryz.prog 23 (fun x:Int × Int × Int=>[.int .i64 x.1,.int .i64 x.2.1,.int .i64 x.2.2]) (fun _ x=>i64 x.1∧i64 x.2.1∧i64 x.2.2):=
 (Jz underlying23 (rW rfl 1 rfl (by kernel_rfl) (Bh underlying3).w (rW rfl 2 rfl (by kernel_rfl) (Bh underlying3).w (rW rfl 3 rfl (by kernel_rfl) (Bh underlying3).w (FI (by kernel_rfl)))))).of (fun x=>(x.1,x.2.1,x.2.2.1)) (fun _=>rfl) (fun _ _ h=>⟨h.1,h.2.1,h.2.2.1⟩)
theorem NG {H:Type} {en:TypeId × Value→H} {x:DataW H × List MemPlace} (hv:Value.okWide Tryz.prog W .any base 23 v) (h:DataW.trod en Tryz.prog W base' spare held fuel 23 v.cells.toList=some x) :
  ∃f s b:Int,v = .agg #[.int .i64 f,.int .i64 s,.int .i64 b]∧i64 f∧i64 s∧i64 b:=by
 obtain⟨cs,rfl,_⟩:=okWide_struct underlying23 hv;obtain⟨⟨f,s,b⟩,a,g1,g2,g3⟩:=opens_cfg _ _ _ _ _ _ _ _ _ h;refine⟨f,s,b,?_,g1,g2,g3⟩;congr 1;apply Array.ext';simpa[Value.cells] using a
end Go.Proofs.YtjkkoeijlhfneaaGreat