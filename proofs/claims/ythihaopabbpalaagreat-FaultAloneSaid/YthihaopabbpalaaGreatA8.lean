import Derived.Test.YthihaopabbpalaaGreatA7
set_option linter.unusedSimpArgs false
set_option linter.unusedVariables false
set_option linter.unnecessarySimpa false
set_option maxHeartbeats 4000000
set_option maxRecDepth 100000
namespace Go.Proofs.YthihaopabbpalaaGreat
open _root_.Go.Proofs.Tryz
open Go.RowKit Go.Maps Pw
variable {B b base base' f fuel g gf k of p:Nat} {H K:MH} {T:TypeId} {W w:World} {cur:Array Value} {held wr:Bool} {m m':Ma} {n:Int} {spare:Nat -> Bool} {v:Value}
def Gh(x:Int)(m:Nat):Nat:=(max (min x m) 0).toNat
theorem NF(x:Int)(m:Nat):Gh x m<=m:=by unfold Gh;omega
theorem IP(x:Int)(m:Nat):((Gh x m:Nat):Int)=max (min x m) 0:=by unfold Gh;omega
def Xl(f s b:Int)(l:List UInt8)(w:World)(r:Ending)(w' : World):Prop:=∃H:MH,r = .returned (.agg (dF H))/\tT w' w.heap.size H/\Below w.heap.size w w'/\Rt H.ma/\Co H.ma/\(∀p∈H.sp,∀n g,onA p.ar n=some g->g.fi<H.fi.length) /\
 H.m.fs.length=Gh f 40/\H.dk.blocks.length=Gh b 80/\(1<=H.sp.length/\H.sp.length<=2)/\(l=[]->H.ma=zn (Gh f 40) (Gh s 60) (Gh b 80))
theorem EP(fr sl bl:Int)(al:Option Addr)(cl:Nat)(l:List UInt8)(w:World)(hr:vG w al cl l.length (l.map zS)) :
  Calls Tryz.prog 17 #[.int .i64 fr,.int .i64 sl,.int .i64 bl,.slice al l.length cl] w (Xl fr sl bl l w):=by
 have xd:Hid (∀a,al=some a->l.map zS≠[]->a.block<w.heap.size):=ae λa ha hl=>by obtain⟨u,hu⟩:∃u,(l.map zS)[0]?=some u:=⟨_,aI (List.length_pos_iff.2 hl)⟩;obtain⟨b',o',e,hc⟩:=hr.rd 0 u hu;rw[ha]at e;cases e;exact UL hc
 go_enter func17,ntmps17;go_upto_region 2 with(fail);refine tY (λW=>Code.wp _ _ _ _ W) λw1 kU bx1 mx1 gy => ?_;have qb:=hr.below kU;have mx1:aG w1 (w.heap.size+1) (jI ⟨al,cl,l,noH,none,0,[]⟩) 98:=mx1;have bx1:aG w1 w.heap.size (dF noH) 45:=bx1;clear hr;go_upto_region 3 with(fail);have e0:(if(if 40<fr then(40:Int)else fr)<0 then 0 else if 40<fr then 40 else fr)=((Gh fr 40:Nat):Int):=by rw[IP];split<;>split<;>omega
 have e1:(if(if 60<sl then(60:Int)else sl)<0 then 0 else if 60<sl then 60 else sl)=((Gh sl 60:Nat):Int):=by rw[IP];split<;>split<;>omega
 have e2:(if(if 80<bl then(80:Int)else bl)<0 then 0 else if 80<bl then 80 else bl)=((Gh bl 80:Nat):Int):=by rw[IP];split<;>split<;>omega
 rw[e0,e1,e2];clear e0 e1 e2;generalize (if 40<fr then(40:Int)else fr)=z0;generalize (if 60<sl then(60:Int)else sl)=z1;generalize (if 80<bl then(80:Int)else bl)=z2;obtain⟨f,hf⟩:∃f,Gh fr 40=f:=⟨_,rfl⟩;obtain⟨s,Y⟩:∃s,Gh sl 60=s:=⟨_,rfl⟩;obtain⟨ct,qf⟩:∃ct,Gh bl 80=ct:=⟨_,rfl⟩;have gT:f<=40:=by rw[<-hf];exact NF _ _
 have gv:s<=60:=by rw[<-Y];exact NF _ _
 have gW:ct<=80:=by rw[<-qf];exact NF _ _
 have kk:=ae (And.intro hf (And.intro Y qf));rw[hf,Y,qf];clear hf Y qf;have ej:w.heap.size+2<=w1.heap.size:=mx1.lt;have qH:∀W:World,(Instr.makeSlice 30 (.int .i64 (f:Int)) (.int .i64 (f:Int))).run Tryz.prog W = .ok (.slice (some ⟨W.heap.size,0,none⟩) f f) (W.alloc (.cells (madeCells (tV fr0) (f*13)) 66)):=
  IL 30 66 _ 13 40 underlying30 frame_info .i64 .i64 f
 have qG:∀W:World,(Instr.makeSlice 34 (.int .i64 (s:Int)) (.int .i64 (s:Int))).run Tryz.prog W = .ok (.slice (some ⟨W.heap.size,0,none⟩) s s) (W.alloc (.cells (madeCells #[.int .i64 0] (s*1)) 3)):=
  IL 34 3 _ 1 8 underlying34 int_info .i64 .i64 s
 have qF:∀W:World,(Instr.makeSlice 35 (.int .i64 (s:Int)) (.int .i64 (s:Int))).run Tryz.prog W = .ok (.slice (some ⟨W.heap.size,0,none⟩) s s) (W.alloc (.cells (madeCells (dW zPg) (s*8)) 58)):=
  IL 35 58 _ 8 8 underlying35 page_info .i64 .i64 s
 have qJ:∀W:World,(Instr.makeSlice 35 (.int .i64 (ct:Int)) (.int .i64 (ct:Int))).run Tryz.prog W = .ok (.slice (some ⟨W.heap.size,0,none⟩) ct ct) (W.alloc (.cells (madeCells (dW zPg) (ct*8)) 58)):=
  IL 35 58 _ 8 8 underlying35 page_info .i64 .i64 ct
 have ei:=ae kU;clear kU;refine iH 17 [_,_,.r 2 ((dJ λ_=>True)),.r 3 ((dJ λ_=>True)),_,.r 5 ((dJ λ_=>True)),_,.r 7 ((dJ λ_=>True)),.r 8 ((dJ λ_=>True)),_,.r 10 ((dJ λ_=>True)),.r 11 ((dJ λ_=>True)),_,.v (.agg #[.slice none 0 0,.int .i64 (ct:Int)]),.r 14 ((dJ λ_=>True)),_,_] (JM w1 w1.heap.size f s ct (tV fr0) #[.int .i64 0] (dW zPg)) uk (λy=>Yh y) (Qk uk rfl (Qk uk rfl (ah ?_ (ah ?_ (Qk uk rfl (ah ?_ (Qk uk rfl (ah ?_ (ah ?_ (Qk uk rfl (ah ?_ (ah ?_ (Qk uk rfl (ah ?_ (ah ?_ (Qk uk rfl (Qf uk (w.heap.size+1) 1 rfl rfl (aF) (λ_ _ _ _ d h=>Aq h)) (λ_ _ _ _ d h=>Aq h)))) (λ_ _ _ _ d h=>Aq h)))) (λ_ _ _ _ d h=>Aq h)))) (λ_ _ _ _ d h=>Aq h))) (λ_ _ _ _ d h=>Aq h)))) (λ_ _ _ _ d h=>Aq h)) (λ_ _ _ _ d h=>Aq h)) (λ_=>rfl) rfl ?_
 ·intro ρ y W L D hn o d A E;have iX:=D 32 1 rfl;have h1:y 1=_:=E 1 rfl;refine fJ (.slice (some ⟨W.heap.size,0,none⟩) f f) ?_ (Yo o (az _) A);simp[execOp,go_sem,iX,h1,qH]
 ·intro ρ y W L D hn o d A E;have eK:=D 33 2 rfl;have h2:=E 2 rfl;obtain⟨g,e2,_,_⟩:=A.k2 (d 2 rfl);refine fJ (.agg #[y 2,.int .i64 0]) ?_ (XU o (d 2 rfl) A);rw[e2]at eK ⊢;simp[execOp,go_sem,eK]
 ·intro ρ y W L D hn o d A E;have iW:=D 35 4 rfl;have h4:y 4=_:=E 4 rfl;refine fJ (.slice (some ⟨W.heap.size,0,none⟩) s s) ?_ (Yi o (az _) A);simp[execOp,go_sem,iW,h4,qG]
 ·intro ρ y W L D hn o d A E;have iV:=D 37 6 rfl;have h6:y 6=_:=E 6 rfl;refine fJ (.slice (some ⟨W.heap.size,0,none⟩) s s) ?_ (Yd o (az _) A);simp[execOp,go_sem,iV,h6,qF]
 ·intro ρ y W L D hn o d A E;have eH:=D 38 7 rfl;have h7:=E 7 rfl;obtain⟨g,e2,_,_⟩:=A.k7 (d 7 rfl);refine fJ (.agg #[y 7,.slice none 0 0]) ?_ (Ya o (d 7 rfl) A);rw[e2]at eH ⊢;simp[execOp,go_sem,eH]
 ·intro ρ y W L D hn o d A E;have iU:=D 40 9 rfl;have h9:y 9=_:=E 9 rfl;refine fJ (.slice (some ⟨W.heap.size,0,none⟩) ct ct) ?_ (XI o (az _) A);simp[execOp,go_sem,iU,h9,qJ]
 ·intro ρ y W L D hn o d A E;have eE:=D 41 10 rfl;have xD:=E 10 rfl;obtain⟨g,e2,_,_⟩:=A.k10 (d 10 rfl);refine fJ (.agg #[y 10,.slice none 0 0]) ?_ (Xq o (d 10 rfl) A);rw[e2]at eE ⊢;simp[execOp,go_sem,eE]
 ·intro ρ y W L D hn o d A E;refine fV uk (d:=(λ_ _ h=>Aq h)) A ?_;have iT:=D 43 12 rfl;have qa:y 12=_:=E 12 rfl;refine ak (.agg #[.slice none 0 0,.int .i64 (ct:Int)]) (by simp[execOp,go_sem,iT,qa])
 ·intro ρ y W L D hn o d A E;have eJ:=D 34 3 rfl;have h3:=E 3 rfl;have eI:=D 36 5 rfl;have h5:=E 5 rfl;have eG:=D 39 8 rfl;have h8:=E 8 rfl;have eD:=D 42 11 rfl;have iJ:=E 11 rfl;have iS:=D 44 13 rfl;have eB:y 13=_:=E 13 rfl;obtain⟨l2,e3⟩:=A.k3 (d 3 rfl);obtain⟨l7,e8⟩:=A.k8 (d 8 rfl);obtain⟨l10,e11⟩:=A.k11 (d 11 rfl);obtain⟨g2,e2,_,_⟩:=A.k2 l2;obtain⟨g5,e5,_,_⟩:=A.k5 (d 5 rfl);obtain⟨g7,e7,_,_⟩:=A.k7 l7;obtain⟨g10,e10,_,_⟩:=A.k10 l10;refine fJ (.agg #[y 2,.int .i64 0,y 5,y 7,.slice none 0 0,y 10,.slice none 0 0,.slice none 0 0,.int .i64 ct,.slice none 0 0,.slice none 0 0]) ?_ (XQ (d 3 rfl) (d 5 rfl) (d 8 rfl) (d 11 rfl) A);rw[e3,e2]at eJ;rw[e5]at eI;rw[e8,e7]at eG;rw[e11,e10]at eD;rw[e2,e5,e7,e10];simp[execOp,go_sem,eJ,eI,eG,eD,iS,eB]
 intro y W3 hH er;clear er;obtain⟨⟨l3,l5,l8,G⟩,e14⟩:=hH.k14 rfl;obtain⟨gf,e2,bf,kf⟩:=hH.k2 rfl;obtain⟨gs,e5,bs,ks⟩:=hH.k5 rfl;obtain⟨gw,e7,bw,kw⟩:=hH.k7 rfl;obtain⟨gd,e10,bd,kd⟩:=hH.k10 rfl;have xM:gw≠gd:=VF kw kd (by rw[<-e7,<-e10];exact hH.ne rfl rfl);have mx3:=mx1.ext hH.be;have bx3:=bx1.ext hH.be;have xV:=qb.below hH.be;have qV:=ae (ag ei.out hH.be);rw[e14,e2,e5,e7,e10];clear e14 e2 e5 e7 e10 hH l3 l5 l8 G qH qG qF qJ mx1 bx1 qb ei
 go_wp2_with (refine aC (w.heap.size+1) 1 [.slice (some ⟨gf,0,none⟩) f f,.int .i64 0,.slice (some ⟨gs,0,none⟩) s s,.slice (some ⟨gw,0,none⟩) s s,.slice none 0 0,.slice (some ⟨gd,0,none⟩) ct ct,.slice none 0 0,.slice none 0 0,.int .i64 ct,.slice none 0 0,.slice none 0 0] rfl rfl rfl _ _ mx3 (by show 1+11<=13;omega) (by kernel_rfl) (by simp[Value.oneCell']) ?_)
 intro w4 eg kH;have xl:aG w4 (w.heap.size+1) (jI ⟨al,cl,l,VY gf gs gw gd f s ct,none,0,[]⟩) 98:=by
  have e:jI ⟨al,cl,l,VY gf gs gw gd f s ct,none,0,[]⟩=bH (jI ⟨al,cl,l,noH,none,0,[]⟩) 1 [.slice (some ⟨gf,0,none⟩) f f,.int .i64 0,.slice (some ⟨gs,0,none⟩) s s,.slice (some ⟨gw,0,none⟩) s s,.slice none 0 0,.slice (some ⟨gd,0,none⟩) ct ct,.slice none 0 0,.slice none 0 0,.int .i64 ct,.slice none 0 0,.slice none 0 0]:=by unfold jI VY noH;dsimp only;rw[kQ,kQ,kQ,kQ];kernel_rfl
  rw[e];exact eg
 have kP:fF w4 (w.heap.size+1) (w.heap.size+1) ⟨al,cl,l,VY gf gs gw gd f s ct,none,0,[]⟩:=
  VR (xV.keep (B:=w.heap.size+1) (λa ha hl=>Nat.lt_succ_of_lt (xd.out a ha hl)) (rU mx3.lt) kH (az _)) (λa ha hl=>Nat.lt_succ_of_lt (xd.out a ha hl)) (az _) xl gT gv gW (by omega) (by omega) (by omega) (by omega) xM (zf:=tV fr0) (zs:=#[.int .i64 0]) (zp:=dW zPg) rfl rfl rfl
   (kf.grown kH (λe=>by have:=aM e;omega)) (ks.grown kH (λe=>by have:=aM e;omega)) (kw.grown kH (λe=>by have:=aM e;omega)) (kd.grown kH (λe=>by have:=aM e;omega))
 have bx4:aG w4 w.heap.size (dF noH) 45:=bx3.grown kH (λe=>by have:=aM e;omega);have qU:Hid (Below w.heap.size w w4):=ae (qV.out.grown kH (bi (by omega) (rU mx3.lt)) oG0);have kM:w.heap.size+2<=w4.heap.size:=xl.lt;clear kf ks kw kd mx3 bx3 xV qV eg kH xl bf bs bw bd xM xd ej;generalize hb' : w.heap.size+1=b at kP kM ⊢;have xq:=ae hb';clear hb';obtain⟨Z,g4⟩:∃Z,Z=(⟨al,cl,l,VY gf gs gw gd f s ct,none,0,[]⟩:MW):=⟨_,rfl⟩;have g3:=ae g4;rw[<-g4]at kP;have hc:=kP.blk.cell;unfold jI at hc;have ec:Z.H.m.fs.length=f:=by rw[g4];exact kQ
 rw[ec]at hc;clear ec;have qK:fF w4 b b (Z.frs (Cs f 0)):=by
  have e:Z.frs (Cs f 0)=Z:=by rw[g4];rfl
  rw[e];exact kP
 have qn:MS w4 b Z w4 (Z.frs (Cs f 0)):=(MS.refl w4 b Z).same rfl;have qE:Hid (¬nS b Z w.heap.size):=ae (λhk=>by have h1:=(kP.kb_own hk).1;have h2:=xq.out;omega);have xP:Hid (∀w' S',MS w4 b Z w' S'->Below b w4 w'):=ae (λw' S' h=>MS.to kP h (az b));clear g4 kP;have bx4':=ae bx4;clear bx4;go_upto_region 5 with(fail)
 go_loopw [55] (fun k wr => ∃q:Nat,q<=f/\k = .int .i64 q/\fF wr b b (Z.frs (Cs f q))/\MS w4 b Z wr (Z.frs (Cs f q))) (fun k _=>f-(intOf k).toNat)
 case atStart=>exact⟨0,bq _,rfl,qK,qn⟩
 case round=>
  clear qK qn;obtain⟨q,hq,rfl,F,Y⟩:=hrel
  by_cases hqf:q<f
  ·have gg:(q:Int)<(f:Int):=by omega
   have xj:(Cs f q).length=f:=JI hq;have hc:=F.blk.cell;unfold jI at hc;dsimp only[MW.frs]at hc;rw[xj]at hc;obtain⟨g,off,cap,cur,hv,kS,hg,xn,qc,gQ⟩:=F.ma.fr.put eX (by decide) q (by show q<(Cs f q).length;omega);have xv:Z.H.af=some ⟨g,off,none⟩:=(oO hv).1;have ef:Hid (∀j u,(ni fr0)[j]?=some u->cur[off+q*13+j]?=some u):=ae λj u hj=>by have e:(Z.frs (Cs f q)).H.m.fs[q]'(by show q<(Cs f q).length;omega)=fr0:=VQ hqf (by omega);have:=qc j u (by rw[e];exact hj);rw[hg.cell]at this;exact this
   rw[xv]at hc;have gP:=ae gQ;have i3:=ae xj;have ek:=ae xv;clear hv qc gQ xj xv
   go_wp2_with (refine aC g (off+q*13+11) [.int .i64 (-1)] rfl rfl rfl _ _ hg (by show off+q*13+11+1<=cur.size;omega) (by kernel_rfl) (λu hu=>by cases bC.1 hu;rfl) ?_)
   intro w5 xu xo;rw[VS xn ef.out]at xu;have ho:=gP.out _ _ xu;have hX:(Z.frs (Cs f q)).H.m.fs.set q frZ=Cs f (q+1):=Ve hqf;have hD:(Cs f (q+1)).length=(Cs f q).length:=by rw[JI (by omega),JI hq]
   rw[hX] at ho;have ku:fF w5 b b (Z.frs (Cs f (q+1))):=F.putF hg kS xo (fs:=Cs f (q+1)) hD (by rw[hD];exact ho);have kN:MS w4 b Z w5 (Z.frs (Cs f (q+1))):=Y.put xo (.inr (by show some g∈iZ Z;unfold iZ;rw[ek.out];exact iN)) (λx X => .inl X);clear F Y hg xn xu xo hc ho hX hD;go_wp2;go_roundw
   case rel=>exact⟨q+1,by omega,by go_num,ku,kN⟩
   case measure=>simp[intOf];omega
  have gg:¬(q:Int)<(f:Int):=by omega
  have ig:f=q:=by omega
  subst ig;rw[VG]at F Y
  go_wp2_with fail
  refine(fZ _ 3 b b _ F).mono ?_;rintro r w5 ⟨N,a5,c5,l5,rfl,ku,kN,hN,xz⟩;have kN:=Y.trans kN;have x4:Hid (l=[]->N=0/\l5=[]):=ae λe=>xz (by show Z.l=[];rw[g3.out];exact e);have xB:IG f s ct Z.H.asl ((Z.frs (List.replicate f frZ)).lst a5 c5 l5).H.fi (List.replicate ct zPg) [] ((Z.frs (List.replicate f frZ)).lst a5 c5 l5):=by rw[g3.out];exact⟨rfl,rfl,rfl,rfl,rfl,rfl,rfl,rfl,rfl,rfl⟩
  have ga:((Z.frs (List.replicate f frZ)).lst a5 c5 l5).H.fi=[]:=by rw[g3.out];rfl
  have gJ:Hid (l=[]->((Z.frs (List.replicate f frZ)).lst a5 c5 l5).l=[]):=ae λe=>(x4.out e).2;obtain⟨N,rfl⟩:=iO hN.1;have jh:N<=2:=by omega
  clear F Y hN xz hqf gg hq;generalize (Z.frs (List.replicate f frZ)).lst a5 c5 l5=S5 at ku kN xB ga gJ;go_upto_region 10 with(fail)
  go_loopw [70] (fun k wr => ∃(q:Nat) (S:MW) (bk:List Page) (qu:List (Int × Page)),q<=N/\k = .int .i64 q/\fF wr b b S/\MS w4 b Z wr S/\Hid (IG f s ct Z.H.asl S.H.fi bk qu S/\Fb ct bk qu (S.H.fi.map PF.fi) []/\S.H.fi.length=q/\(q=0->bk=List.replicate ct zPg/\qu=[]/\(l=[]->S.l=[])))) (fun k _=>N-(intOf k).toNat)
  case atStart=>exact⟨0,S5,_,_,bq _,rfl,ku,kN,ae ⟨xB,by rw[ga];exact Fb.start gW,by rw[ga];rfl,λ_=>⟨rfl,rfl,gJ.out⟩⟩⟩
  case round=>
   clear ku kN xB ga gJ;obtain⟨q,S,bk,qu,hq,rfl,F,Y,O⟩:=hrel;obtain⟨I,qR⟩:∃I,S.H.fi=I:=⟨_,rfl⟩;rw[qR]at O;clear qR;have x5:Hid (I.length=q):=ae O.out.2.2.1;have xk:Hid (I.length<=2):=ae (by have:=O.out.2.2.1;omega)
   by_cases hqN:q<N
   ·have gg:(q:Int)<(N:Int):=by omega
    go_wp2_with fail
    refine(fZ _ 40 b b _ F).mono ?_;rintro r w6 ⟨x,a6,c6,l6,rfl,kt,kg,X,_⟩;have kg:=Y.trans kg;have xA:Hid (IG f s ct Z.H.asl I bk qu (S.lst a6 c6 l6)):=ae (O.out.1.lst _ _ _);have gc:0<=x/\x<40:=by omega
    obtain⟨C,hC⟩:∃C:Nat,eY x=C:=⟨(eY x).toNat,by unfold eY;split<;>omega⟩;have jl:C<=5:=by unfold eY at hC;split at hC<;>omega
    have ez:=ae hC;clear F Y X hC;generalize S.lst a6 c6 l6=S6 at kt kg xA
    go_wp2_with (refine aJ rfl rfl (qI ⟨x,none,[],0⟩) rfl rfl rfl file_size (rY _) ?_)
    intro w7 xt fx7;have kO:=kt.below xt;have qm:=(MS.refl w6 b S6).below xt;have xh:Hid (¬nS b S6 w6.heap.size):=ae (kt.new (az _));have kS:b<=w6.heap.size:=kt.bs;have i5:=ae kS;clear kt xt;generalize hg60:w6.heap.size=gf0 at xh kS fx7 ⊢;have iu:Hid (w6.heap.size<=gf0):=ae (DY hg60);clear hg60;have kI:=fx7.cell;unfold qI at kI
    go_wp2_with fail
    refine(zG x _ (by omega)).mono ?_;rintro r w8 ⟨rfl,rfl⟩;rw[ez.out];clear kI;have x0:∀p∈I,True:=λ_ _=>trivial;clear x0;go_upto_region 13 with(fail)
    go_loopw [78] (fun k wr => ∃(i:Nat) (S:MW) (bk:List Page) (qu:List (Int × Page)) (xs:List Int) (J:Option Addr) (U:Nat),i<=C/\k = .int .i64 i/\fF wr b b S/\MS w6 b S6 wr S/\Hid (¬nS b S gf0)/\Hid (IG f s ct Z.H.asl I bk qu S/\Fb ct bk qu (I.map PF.fi) xs/\xs.length=i)/\aG wr gf0 (qI ⟨x,J,xs,U⟩) 101 /\
     Hid (Own wr b 3 1 (ou ⟨x,J,xs,U⟩) xs.length (xs.map gF)/\∀g,oB J=some g->w6.heap.size<=g/\oB Z.H.asl≠some g/\∀p∈I,oB p.a≠some g)) (λk _=>C-(intOf k).toNat)
    case atStart=>exact⟨0,S6,bk,qu,[],none,0,bq _,rfl,kO,qm,xh,ae ⟨xA.out,O.out.2.1,rfl⟩,fx7,ae ⟨Own.nil _ _ _ _,λg hg=>(by cases hg)⟩⟩
    case round=>
     clear kO fx7 O xA qm xh;obtain⟨i,S,bk,qu,xs,J,U,hi,rfl,F,Y,k6,O,fx,ho⟩:=hrel
     by_cases hiC:i<C
     ·have it:(i:Int)<(C:Int):=by omega
      go_upto_region 16 with(fail);have x6:∀g,(ou ⟨x,J,xs,U⟩).ownBlock=some g->¬nS b S g:=λg hg=>by obtain⟨cs,hk⟩:=mQ ho.out.1 g hg;refine F.kb_int hk ?_;rw[O.out.1.asl];exact(ho.out.2 g (by unfold ou at hg;rw[jF]at hg;exact hg)).2.1
      have gN:=ae x6;clear x6
      go_cut [14] (fun s14 wx => ∃(n:Nat) (a:Option Addr) (c:Nat) (l:List UInt8),s14 = .int .i64 n/\n<256/\fF wx b b (S.lst a c l)/\MS wr b S wx (S.lst a c l)/\aG wx gf0 (qI ⟨x,J,xs,U⟩) 101/\Hid (Own wx b 3 1 (ou ⟨x,J,xs,U⟩) xs.length (xs.map gF)))
      case first=>
       go_wp2_with fail
       all_goals
        refine(fZ S _ b b _ F).mono ?_;rintro r w8 ⟨n,a8,c8,l8,rfl,hG,hA,hn,_⟩;obtain⟨n,rfl⟩:=iO hn.1;have xi:(n:Int)<256:=hn.2.1;have fx8:=hA.blkN fx k6.out;have ki:Hid (Own w8 b 3 1 (ou ⟨x,J,xs,U⟩) xs.length (xs.map gF)):=ae (hA.ownN ho.out.1 gN.out);clear F fx hn;go_wp2;go_meet
        case rel=>exact⟨n,a8,c8,l8,rfl,by omega,hG,hA,fx8,ki⟩
      case rest=>
      obtain⟨n,a8,c8,l8,rfl,xi,hG,hA,fx8,qs⟩:=hcut;have ki:Hid (Own wc b 3 1 (ou ⟨x,J,xs,U⟩) xs.length (xs.map gF)/\∀g,oB J=some g->w6.heap.size<=g/\oB Z.H.asl≠some g/\∀p∈I,oB p.a≠some g):=ae ⟨qs.out,ho.out.2⟩;clear qs;have gk:Hid (IG f s ct Z.H.asl I bk qu (S.lst a8 c8 l8)/\Fb ct bk qu (I.map PF.fi) xs/\xs.length=i):=ae ⟨O.out.1.lst _ _ _,O.out.2⟩;have hA:=Y.trans hA;have k0:Hid (¬nS b (S.lst a8 c8 l8) gf0):=k6;have kZ:Hid (∀g,(ou ⟨x,J,xs,U⟩).ownBlock=some g->¬nS b (S.lst a8 c8 l8) g):=gN;clear F Y O fx ho k6 gN;generalize S.lst a8 c8 l8=S8 at hG hA gk k0 kZ;go_upto_region 17 with(fail)
      go_cut [109] (fun s109 wx => ∃(β:Bool) (a:Option Addr) (c:Nat) (l:List UInt8),s109 = .bool β/\fF wx b b (S8.lst a c l)/\MS wc b S8 wx (S8.lst a c l)/\aG wx gf0 (qI ⟨x,J,xs,U⟩) 101/\Hid (Own wx b 3 1 (ou ⟨x,J,xs,U⟩) xs.length (xs.map gF))/\Hid (β=true->n<ct/\¬(n:Int)∈(I.map PF.fi).flatMap Fi.b++xs))
      case first=>
       have ea:gf0<wc.heap.size:=fx8.lt;have jg:S8.H.fi.length<=5:=by have e1:=gk.out.1.fi;have e2:=xk.out;rw[e1];omega
       by_cases hnc:n<ct
       ·have qe:(n:Int)<(ct:Int):=by omega
        cases hu:iE (cZ (S8.H.fi++[(⟨x,J,xs,U⟩:PF)]) 0) (n:Int)
        case' true=>
         refine iH 25 [_,_,_,_,.r 4 ((dJ λ_=>True)),_,_,_,_,_,.v (.slice S8.H.ai S8.H.fi.length S8.H.ci),.r 11 ((dJ λ_=>True)),.v (.agg (qI ⟨x,J,xs,U⟩)),.r 13 ((dJ λ_=>True)),.r 14 ((dJ λ_=>True)),.r 15 ((dJ λ_=>True)),_,.v (.bool true),_,_,_,_,_,_,.v (.bool false)] (Gx S8 b b wc gf0 ⟨x,J,xs,U⟩) eT (λy=>Wi hG fx8 ki.out.1 y) (Qk eT rfl (Qk eT rfl (Qb eT (.bool true) (by simp[go_sem,qe]) rfl rfl rfl rfl rfl (Qk eT rfl (ah ?u1_1 (Qk eT rfl (Qk eT rfl (Qf eT b 1 rfl rfl (Qf eT b 8 rfl rfl (Qf eT b 8 rfl rfl (ah ?u1_2 (ah ?u1_3 (ah ?u1_4 (ah ?u1_5 (ah ?u1_6 (ah ?u1_7 (Qk eT rfl (ah ?u1_8 (Qk eT rfl (Qk eT rfl (Qk eT rfl (Qk eT rfl (Qk eT rfl (Qk eT rfl (Qk eT rfl (aF) (λ_ _ _ _ d h=>fK)) (λ_ _ _ _ d h=>fK)) (λ_ _ _ _ d h=>fK)) (λ_ _ _ _ d h=>fK)) (λ_ _ _ _ d h=>fK)) (λ_ _ _ _ d h=>fK)) (λ_ _ _ _ d h=>fK))) (λ_ _ _ _ d h=>fK)))))))) (λ_ _ _ _ d h=>fK)) (λ_ _ _ _ d h=>fK)) (λ_ _ _ _ d h=>fK)) (λ_ _ _ _ d h=>fK)) (λ_ _ _ _ d h=>fK))) (λ_ _ _ _ d h=>fK)) (λ_ _ _ _ d h=>fK)) (λ_ _ _ _ d h=>fK)) (λ_ _ _ _ d h=>fK)) (λ_=>rfl) rfl ?u1_9
        case' false=>
         refine iH 25 [_,_,_,_,.r 4 ((dJ λ_=>True)),_,_,_,_,_,.v (.slice S8.H.ai S8.H.fi.length S8.H.ci),.r 11 ((dJ λ_=>True)),.v (.agg (qI ⟨x,J,xs,U⟩)),.r 13 ((dJ λ_=>True)),.r 14 ((dJ λ_=>True)),.r 15 ((dJ λ_=>True)),_,.v (.bool false),_,_,_,_,.r 22 ((dJ λv => ∃x:Int,v = .int .i64 x)),.r 23 ((dJ λv => ∃u,v = .bool u)),.r 24 ((dJ λv => ∃u,v = .bool u))] (Gx S8 b b wc gf0 ⟨x,J,xs,U⟩) eT (λy=>Wi hG fx8 ki.out.1 y) (Qk eT rfl (Qk eT rfl (Qb eT (.bool true) (by simp[go_sem,qe]) rfl rfl rfl rfl rfl (Qk eT rfl (ah ?v1_1 (Qk eT rfl (Qk eT rfl (Qf eT b 1 rfl rfl (Qf eT b 8 rfl rfl (Qf eT b 8 rfl rfl (ah ?v1_2 (ah ?v1_3 (ah ?v1_4 (ah ?v1_5 (ah ?v1_6 (ah ?v1_7 (Qk eT rfl (ah ?v1_8 (Qk eT rfl (Qk eT rfl (Qk eT rfl (Qk eT rfl (ah ?v1_9 (ah ?v1_10 (ah ?v1_11 (aF)))) (λ_ _ _ _ d h=>fK)) (λ_ _ _ _ d h=>fK)) (λ_ _ _ _ d h=>fK)) (λ_ _ _ _ d h=>fK))) (λ_ _ _ _ d h=>fK)))))))) (λ_ _ _ _ d h=>fK)) (λ_ _ _ _ d h=>fK)) (λ_ _ _ _ d h=>fK)) (λ_ _ _ _ d h=>fK)) (λ_ _ _ _ d h=>fK))) (λ_ _ _ _ d h=>fK)) (λ_ _ _ _ d h=>fK)) (λ_ _ _ _ d h=>fK)) (λ_ _ _ _ d h=>fK)) (λ_=>rfl) rfl ?v1_12
        case u1_1|v1_1=>
         intro ρ y W L D hn o d A E;refine fJ (.slice (some ⟨W.heap.size,0,none⟩) 0 0) (h:=(bB 3 88 true true ((D 88 3 rfl).trans (E 3 rfl)))) ?_ (Xz A);simp[execOp,go_sem]
        case u1_2|v1_2=>
         intro ρ y W L D hn o d A E;refine fV eT (d:=(λ_ _ h=>fK)) A ?_;have iQ:=D 94 9 rfl;have h9:y 9=_:=E 9 rfl;obtain⟨⟨a0,c0,l0,m1,m2⟩,m3⟩:=A;refine ak (.slice S8.H.ai S8.H.fi.length S8.H.ci) (h:=(bB 3 88 true true ((D 88 3 rfl).trans (E 3 rfl)))) (by simp[execOp,go_sem,iQ,h9,m1.blk.cell,jI,MW.lst])
        case u1_3|v1_3=>
         intro ρ y W L D hn o d A E;have iR:=D 89 4 rfl;have h4:=E 4 rfl;have iP:=D 95 10 rfl;have xD:y 10=_:=E 10 rfl;obtain⟨g,iv,gj⟩:=A.2.2.2.1 (d 4 rfl) o;have gq:=A.2.2.2.2.2.2.2.1;obtain⟨a0,c0,l0,m1,m2⟩:=A.1;have m3:MO W S8.H.ai S8.H.ci S8.H.fi:=m1.ma.rd.st;refine mK (bB 3 88 true true ((D 88 3 rfl).trans (E 3 rfl))) (Ka _ _ _ rfl wc.heap.size 101 _ 2 32 underlying39 file_info rfl (by decide) g (iR.trans iv) gj S8.H.ai S8.H.fi.length S8.H.ci (S8.H.fi.flatMap rG) (iP.trans xD) m3.nl m3.le (by rw[Pw.flat_len rG 2 kE]) m3.rd (by unfold maxLen;omega) (by omega) gq) (λv W1 h=>WK A h.1 h.2)
        case u1_4|v1_4=>
         intro ρ y W L D hn o d A E;refine fV eT (d:=(λ_ _ h=>fK)) A ?_;have xE:ρ (.tmp 11) = .pointer (some ⟨gf0,0,none⟩):=(hn (.tmp 11) rfl).trans rfl;have m3:=A.2.1;refine ak (.agg (qI ⟨x,J,xs,U⟩)) (h:=(bB 3 88 true true ((D 88 3 rfl).trans (E 3 rfl)))) (dG rfl xE m3 underlying101 file_size)
        case u1_5|v1_5=>
         intro ρ y W L D hn o d A E;have iL:=D 97 12 rfl;have qa:y 12=_:=E 12 rfl;have gq:=A.2.2.2.2.2.2.2.1;refine fJ (.slice (some ⟨W.heap.size,0,none⟩) 1 1) (h:=(bB 3 88 true true ((D 88 3 rfl).trans (E 3 rfl)))) ?_ (Xj (W':=W.alloc (.cells (qI ⟨x,J,xs,U⟩) 101)) A ((Below.refl _ _).alloc (az _) _) (Vw gq _));simp[execOp,go_sem,iL.trans qa,qI]
        case u1_6|v1_6=>
         intro ρ y W L D hn o d A E;have iM:=D 96 11 rfl;have iJ:=E 11 rfl;have iK:=D 98 13 rfl;have eB:=E 13 rfl;have gq:=A.2.2.2.2.2.2.2.1;have hv:=A.2.2.2.2.1 (d 11 rfl) o;obtain⟨a,e,gc,k1,k2,k3,k4⟩:=(A.2.2.2.2.2.1 (d 13 rfl) o).rd;refine mK (bB 3 88 true true ((D 88 3 rfl).trans (E 3 rfl))) (qB _ _ _ rfl wc.heap.size 101 _ 2 32 underlying39 file_info rfl (y 11) S8.H.fi.length _ iM hv a 1 e (rG ⟨x,J,xs,U⟩) (iK.trans gc) k3 k1 rfl k4 (bV (rY _)) (by unfold maxLen;omega) gq) (λv W1 h=>WE hG ea A (d 11 rfl) o h.2.1 h.1)
        case u1_7|v1_7=>
         intro ρ y W L D hn o d A E;have eC:=D 99 14 rfl;have jn:=E 14 rfl;obtain⟨a,c,e14,_⟩:=Ow A (d 14 rfl);refine fJ (.agg #[y 14,.int .i64 0]) (h:=(bB 3 88 true true ((D 88 3 rfl).trans (E 3 rfl)))) ?_ (Xn (d 14 rfl) A);rw[e14]at eC ⊢;simp[execOp,go_sem,eC]
        case u1_8|v1_8=>
         intro ρ y W L D hn o d A E;have q0:=D 100 15 rfl;have jm:=E 15 rfl;have ic:=D 101 16 rfl;have iG:y 16=_:=E 16 rfl;have EF:=eF0 hn λ_=>trivial;obtain⟨l14,e15⟩:=A.2.2.2.2.2.2.2.2 (d 15 rfl);obtain⟨a,c,e14,iz⟩:=Ow A l14;rw[e15,e14]at q0;refine je _ _ (bB 3 88 true true ((D 88 3 rfl).trans (E 3 rfl))) (aS rfl (EF _) func34 (by simp only[bU,bS,aZ,q0,ic,iG,EF];rfl)) ?_;have q9:=Cx (S8.H.fi++[⟨x,J,xs,U⟩]) 0 n a c W iz;unfold MF at q9;rw[hu]at q9;refine q9.mono ?_;rintro r w1 ⟨qb,kU⟩;exact⟨_,qb,fK (h:=eT _ _ _ _ kU A),rfl⟩
        case u1_9=>
         intro y W9 hy hW;clear hW;have xr:=hy.1;obtain⟨a9,c9,l9,hR,hJ⟩:=xr;have fx9:=hy.2.1;have kh:=ae hy.2.2.1;clear hy hG hA fx8 ki;go_wp2;go_meet
         case rel=>exact⟨false,a9,c9,l9,rfl,hR,hJ,fx9,kh,ae λe=>(by cases e)⟩
        case v1_9=>
         intro ρ y W L D hn o d A E;have e9:=D 106 21 rfl;have iD:y 21=_:=E 21 rfl;have EC:∀v,ρ (.const v)=v:=λv=>hn (.const v) trivial;have EF:=eF0 hn λ_=>trivial;refine je _ _ (bB 20 105 true true ((D 105 20 rfl).trans (E 20 rfl))) (aS rfl (EF _) func32 (by simp only[bU,bS,aZ,e9,iD,EC,EF];rfl)) ?_;exact SF (by decide) hG k0.out kZ.out 3 (by omega) A λx _ _ _=>⟨x,rfl⟩
        case v1_10=>
         intro ρ y W L D hn o d A E;refine fV eT (d:=(λ_ _ h=>fK)) A ?_;have e6:=D 107 22 rfl;have iC:=E 22 rfl;obtain⟨x,X⟩:=iC;refine ak _ (h:=(bB 20 105 true true ((D 105 20 rfl).trans (E 20 rfl)))) (qC rfl (e6.trans X) (hn (.const _) trivial) (by simp[go_sem];rfl)) (m:=⟨_,rfl⟩)
        case v1_11=>
         intro ρ y W L D hn o d A E;refine fV eT (d:=(λ_ _ h=>fK)) A ?_;have ia:=D 105 20 rfl;have iF:y 20=_:=E 20 rfl;have e4:=D 108 23 rfl;have iB:=E 23 rfl;obtain⟨u,id⟩:=iB;refine ak (.bool u) (qM rfl (ia.trans iF) (by simpa using e4.trans id)) (m:=⟨_,rfl⟩)
        case v1_12=>
         intro y W9 hy hW;have i1:((dJ λv => ∃x:Int,v = .int .i64 x)).r (y 22) W9:=hW 22 (by decide);have i0:((dJ λv => ∃u,v = .bool u)).r (y 23) W9:=hW 23 (by decide);have xG:((dJ λv => ∃u,v = .bool u)).r (y 24) W9:=hW 24 (by decide);clear hW;have xr:=hy.1;obtain⟨a9,c9,l9,hR,hJ⟩:=xr;have fx9:=hy.2.1;have kh:=ae hy.2.2.1;obtain⟨β,hβ⟩:=xG;rw[hβ];clear hy hG hA fx8 ki hβ;have ip:Hid (n<ct/\¬(n:Int)∈(I.map PF.fi).flatMap Fi.b++xs):=ae ⟨hnc,λx1=>by
          have e1:=gk.out.1.fi;unfold iE at hu;rw[Bl,e1]at hu;have h2:¬(n:Int)∈wV (I++[(⟨x,J,xs,U⟩:PF)]):=of_decide_eq_false hu;refine h2 ?_;unfold wV;rw[fM];rcases gV.1 x1 with h3|h3
          ·rw[Dw]at h3;exact qh _ h3
          ·exact uO _ (by simpa using h3)⟩
         go_wp2;go_meet
         case rel=>exact⟨β,a9,c9,l9,rfl,hR,hJ,fx9,kh,ae λ_=>ip.out⟩
       have qe:¬(n:Int)<(ct:Int):=by omega
       refine aO 25 [_,_,_,_,_,_,_,_,_,_,_,_,_,_,_,_,_,_,_,_,_,_,_,_,.v (.bool false)] (Gk rfl (Gk rfl (Gb (.bool false) (by simp[go_sem,qe]) rfl rfl rfl rfl rfl (Gk rfl (Gk rfl (Gk rfl (Gk rfl (Gk rfl (Gk rfl (Gk rfl (Gk rfl (Gk rfl (Gk rfl (Gk rfl (Gk rfl (Gk rfl (Gk rfl (Gk rfl (Gk rfl (Gk rfl (Gk rfl (Gk rfl (Gk rfl (Gk rfl (Gk rfl (aF)))))))))))))))))))))))))) (λ_=>rfl) rfl ?_;intro y W9 hy _;have hR:=hG.below hy;have hJ:=(MS.refl wc b S8).below hy;have fx9:=fx8.ext hy;have kh:=ae (ki.out.1.below hy);clear hy hG fx8 ki;go_wp2;go_meet
       case rel=>exact⟨false,S8.al,S8.cl,S8.l,rfl,hR,hJ,fx9,kh,ae λe=>(by cases e)⟩
      case rest=>
      obtain⟨β,a9,c9,l9,rfl,hR,hJ,fx9,kh,hβ⟩:=hcut;have kV:=ae ki.out.2;have hJ:=hA.trans hJ;have kB:Hid (IG f s ct Z.H.asl I bk qu (S8.lst a9 c9 l9)/\Fb ct bk qu (I.map PF.fi) xs/\xs.length=i):=ae ⟨gk.out.1.lst _ _ _,gk.out.2⟩;have ko:Hid (¬nS b (S8.lst a9 c9 l9) gf0):=k0;have kF:Hid (∀g,(ou ⟨x,J,xs,U⟩).ownBlock=some g->¬nS b (S8.lst a9 c9 l9) g):=kZ;clear hG hA gk fx8 ki k0 kZ;generalize S8.lst a9 c9 l9=S9 at hR hJ kB ko kF;go_upto_if 109 with(fail);have ey:Hid (xs.length=i):=ae kB.out.2.2;have xC:Hid (xs.length<=C):=ae (by have:=kB.out.2.2;omega)
      go_cut [13] (fun s13 wx => ∃(v:Int) (S:MW) (bk:List Page) (qu:List (Int × Page)),s13 = .int .i64 v/\fF wx b b S/\MS w6 b S6 wx S/\Hid (¬nS b S gf0)/\Hid (IG f s ct Z.H.asl I bk qu S/\Fb ct bk qu (I.map PF.fi) (xs++[v]))/\aG wx gf0 (qI ⟨x,J,xs,U⟩) 101/\Hid (Own wx b 3 1 (ou ⟨x,J,xs,U⟩) xs.length (xs.map gF)))
      case first=>
       cases β with
       | false=>
        go_wp2;go_meet
        case rel=>exact⟨-1,S9,bk,qu,rfl,hR,hJ,ko,ae ⟨kB.out.1,kB.out.2.1.none⟩,fx9,kh⟩
       | true=>
        have gC:=ae (hβ.out rfl);clear hβ
        go_wp2_with fail
        refine(yF S9 b b _ hR).mono ?_;rintro r w10 ⟨P,a10,c10,l10,rfl,ke,hK⟩;have fx10:=hK.blkN fx9 ko.out;have qy:Hid (Own w10 b 3 1 (ou ⟨x,J,xs,U⟩) xs.length (xs.map gF)):=ae (hK.ownN kh.out kF.out);have hK:=hJ.trans hK;have hY:Hid (IG f s ct Z.H.asl I bk qu (S9.lst a10 c10 l10)/\Fb ct bk qu (I.map PF.fi) xs/\xs.length=i):=ae ⟨kB.out.1.lst _ _ _,kB.out.2⟩;have kR:Hid (¬nS b (S9.lst a10 c10 l10) gf0):=ko;have gM:Hid (∀g,(ou ⟨x,J,xs,U⟩).ownBlock=some g->¬nS b (S9.lst a10 c10 l10) g):=kF;clear hR hJ kB fx9 kh ko kF;generalize S9.lst a10 c10 l10=S10 at ke hK hY kR gM
        go_wp2_with (refine aJ rfl rfl (dW P) rfl rfl rfl psize (eF P) ?_)
        intro w11 kK px11;have kn:=ke.below kK;have kb:=hK.below kK;have fx11:=fx10.ext kK;have qx:Hid (Own w11 b 3 1 (ou ⟨x,J,xs,U⟩) xs.length (xs.map gF)):=ae (qy.out.below kK);have xg:=ae (ke.new (az _));have gh:=ae hK.size;have im:b<=w10.heap.size:=ke.bs;have ik:Hid (w10.heap.size≠gf0):=ae (λe=>by have:=fx10.lt;omega);clear ke hK fx10 qy kK;generalize w10.heap.size=gp at *
        go_upto_region 21 with(fail)
        go_loopw [113] (fun j wr => ∃k:Nat,k<=8/\j = .int .i64 k/\fF wr b b S10/\MS w6 b S6 wr S10/\aG wr gp (dW (iI P (x-(i:Int)*8) k)) 58/\aG wr gf0 (qI ⟨x,J,xs,U⟩) 101/\Hid (Own wr b 3 1 (ou ⟨x,J,xs,U⟩) xs.length (xs.map gF))) (fun j _=>8-(intOf j).toNat)
        case atStart=>exact⟨0,by omega,rfl,kn,kb,by rw[show iI P (x-(i:Int)*8) 0=P from by ext j hj;simp[iI]];exact px11,fx11,qx⟩
        case round=>
         clear kn kb px11 fx11 qx;obtain⟨k,hk,rfl,F,Y,px,fx,ho⟩:=hrel
         by_cases hk8:k<8
         ·have ir:(k:Int)<8:=by omega
          have kI:=fx.cell;unfold qI at kI;have ja:IntKind.i64.wrap (8*(i:Int))=8*(i:Int):=bK _ (by omega);have i9:IntKind.i64.wrap (8*(i:Int)+(k:Int))=8*(i:Int)+(k:Int):=bK _ (by omega)
          by_cases hge:x<=8*(i:Int)+k
          ·have hX:Hid ((dW (iI P (x-(i:Int)*8) k)).setIfInBounds k (.int .u8 0)=dW (iI P (x-(i:Int)*8) (k+1))):=ae (by rw[<-yj P _ k hk8 (by omega)];exact BB _ k hk8 0);generalize hT:iI P (x-(i:Int)*8) k=T at px hX;clear hT
           go_wp2_with (refine aC gp k [.int .u8 0] rfl rfl rfl _ _ px (by show k+1<=8;omega) (by kernel_rfl) (λu hu=>by cases bC.1 hu;rfl) ?_)
           intro w12 px12 hU;rw[Pw.putAt_one,hX.out] at px12;have x3:=F.locT px (by decide) xg.out im hU;have xU:=Y.loc hU gh.out;have fx12:=fx.grown hU (λe=>ik.out (by have:=aM e;omega));have xZ:Hid (Own w12 b 3 1 (ou ⟨x,J,xs,U⟩) xs.length (xs.map gF)):=ae (ax ho.out px hU);clear F Y px hU kI fx ho;go_wp2;go_roundw
           case rel=>exact⟨k+1,by omega,by go_num,x3,xU,px12,fx12,xZ⟩
           case measure=>simp[intOf];omega
          have hX:iI P (x-(i:Int)*8) k=iI P (x-(i:Int)*8) (k+1):=by
           ext j hj
           simp only[iI,qX]
           by_cases e:x-(i:Int)*8<=(j:Int)
           ·rw[if_neg (by omega),if_neg (by omega)]
           ·rw[if_neg (by omega),if_neg (by omega)]
          rw[hX] at px;clear hX;go_wp2;go_roundw
          case rel=>exact⟨k+1,by omega,by go_num,F,Y,px,fx,ho⟩
          case measure=>simp[intOf];omega
         have ir:¬(k:Int)<8:=by omega
         rw[xW _ _ k]at px;generalize dx P (x-(i:Int)*8)=PC at px;have qD:n<ct:=gC.out.1;have xp:S10.H.dk.blocks.length=ct:=by rw[hY.out.1.dk];exact hY.out.2.1.cl.1
         obtain⟨g,off,cap,cur,hv,kS,hg,xn,qc,gQ⟩:=F.ma.dk.b.put nQ (by decide) n (by rw[xp];exact qD);have gU:S10.H.db=some ⟨g,off,none⟩:=(oO hv).1;have gP:=ae gQ;have ee:=ae xp;have qS:=ae gU;have ij:Hid (gp≠g):=ae (λe=>xg.out (by rw[e];exact .inr (by simp only[iZ,gU];simp[oB,Value.ownBlock])));have iy:Hid (gf0≠g):=ae (λe=>kR.out (by rw[e];exact .inr (by simp only[iZ,gU];simp[oB,Value.ownBlock])));have is:Hid (nS b S10 g):=ae (.inr (by simp only[iZ,gU];simp[oB,Value.ownBlock]));clear hv qc gQ xp gU;go_upto_region 26 with(fail);refine aO 9 [_,_,_,_,_,_,_,_,_] (Gk rfl (Gk rfl (Gf b 1 rfl rfl (Gf b 6 rfl rfl (Gf b 6 rfl rfl (Gl F.blk (V:=.slice (some ⟨g,off,none⟩) ct S10.H.cdb) (by simp[jI,qS.out,ee.out]) rfl rfl rfl rfl (Gk rfl (Gr (.agg #[.int .u8 PC[0].toNat,.int .u8 PC[1].toNat,.int .u8 PC[2].toNat,.int .u8 PC[3].toNat,.int .u8 PC[4].toNat,.int .u8 PC[5].toNat,.int .u8 PC[6].toNat,.int .u8 PC[7].toNat]) (λρ y W A hZ=>(bJ rfl (aH rfl hZ) (bF (px.ext A) 0 8) underlying58)) rfl rfl (Gr (.pointer (some ⟨g,off+n*8,none⟩)) (λρ y W A hZ=>(bN rfl (aH rfl hZ) (aH rfl hZ) qD underlying35 psize)) rfl rfl (aF)))))))))) (λ_=>rfl) rfl ?_;intro y W13 hL _;have qL:=F.below hL;have qp:=Y.below hL;have px13:=px.ext hL;have fx13:=fx.ext hL;have qw:=ae (ho.out.below hL);have k9:=hg.ext hL;clear F Y px fx ho hg hL
         go_wp2_with (refine aC g (off+n*8) (Dv PC) rfl rfl rfl _ _ k9 (by show off+n*8+8<=cur.size;omega) (by kernel_rfl) (bV (eF PC)) ?_)
         intro w14 qW kp;have xX:=gP.out _ PC qW;have gI:fF w14 b b { S10 with H:={ S10.H with dk:=⟨S10.H.dk.blocks.set n PC,S10.H.dk.queue⟩ } }:=qL.putD k9 kS (by rw[qS.out];rfl) kp (l:=S10.H.dk.blocks.set n PC) (by simp) (by simpa using xX);have gx:MS w6 b S6 w14 { S10 with H:={ S10.H with dk:=⟨S10.H.dk.blocks.set n PC,S10.H.dk.queue⟩ } }:=qp.put kp is.out (λx X => .inl X);have px14:=px13.grown kp (λe=>ij.out (aM e).symm);have fx14:=fx13.grown kp (λe=>iy.out (aM e).symm);have qv:Hid (Own w14 b 3 1 (ou ⟨x,J,xs,U⟩) xs.length (xs.map gF)):=ae (ax qw.out k9 kp);have g8:Hid (IG f s ct Z.H.asl I (bk.set n PC) qu { S10 with H:={ S10.H with dk:=⟨S10.H.dk.blocks.set n PC,S10.H.dk.queue⟩ } }):=ae (by have h9:=hY.out.1;exact⟨h9.m,h9.asl,h9.sl,h9.sw,by show(⟨S10.H.dk.blocks.set n PC,S10.H.dk.queue⟩:vW)=_;rw[h9.dk],h9.fi,h9.ct,h9.ca,h9.sp,h9.T⟩);have ky:Hid (¬nS b { S10 with H:={ S10.H with dk:=⟨S10.H.dk.blocks.set n PC,S10.H.dk.queue⟩ } } gf0):=kR;have kr:Hid (¬nS b { S10 with H:={ S10.H with dk:=⟨S10.H.dk.blocks.set n PC,S10.H.dk.queue⟩ } } gp):=xg;have kv:Hid (∀g,(ou ⟨x,J,xs,U⟩).ownBlock=some g->¬nS b { S10 with H:={ S10.H with dk:=⟨S10.H.dk.blocks.set n PC,S10.H.dk.queue⟩ } } g):=gM;clear qL qp px13 fx13 qw k9 xX qW kp;generalize { S10 with H:={ S10.H with dk:=⟨S10.H.dk.blocks.set n PC,S10.H.dk.queue⟩ } }=S14 at gI gx g8 ky kr kv
         go_wp2_with fail
         refine(fZ S14 2 b b _ gI).mono ?_;rintro r w15 ⟨z,a15,c15,l15,rfl,km,hQ,hz,_⟩;have fx15:=hQ.blkN fx14 ky.out;have px15:=hQ.blkN px14 kr.out;have gA:Hid (Own w15 b 3 1 (ou ⟨x,J,xs,U⟩) xs.length (xs.map gF)):=ae (hQ.ownN qv.out kv.out);have hQ:=gx.trans hQ;have gb:Hid (IG f s ct Z.H.asl I (bk.set n PC) qu (S14.lst a15 c15 l15)):=ae (g8.out.lst _ _ _);have kx:Hid (¬nS b (S14.lst a15 c15 l15) gf0):=ky;have xf:Hid (¬nS b (S14.lst a15 c15 l15) gp):=kr;have gK:Hid (∀g,(ou ⟨x,J,xs,U⟩).ownBlock=some g->¬nS b (S14.lst a15 c15 l15) g):=kv;clear gI gx fx14 px14 qv g8 ky kr kv;generalize S14.lst a15 c15 l15=S15 at km hQ gb kx xf gK
         by_cases hz1:z=1
         ·subst hz1;have jb:S15.H.dk.queue.length<=100:=by have h1:=hY.out.2.1.ql;have h2:=hY.out.2.2;have h3:=xk.out;rw[gb.out.dk];rw[eQ]at h1;show qu.length<=100;omega
          have gD:Hid (∀g,(Value.slice S15.H.dq S15.H.dk.queue.length S15.H.cdq).ownBlock=some g->g≠b/\∀t∈[(gp,dW PC,58),(gf0,qI ⟨x,J,xs,U⟩,101)],t.1≠g):=ae (λg hg=>by
           obtain⟨cs,hk⟩:=mQ km.ma.dk.q g hg;refine⟨λe=>mG hk km.blk (by decide) e,λt ht => ?_⟩;simp only[dz,ib,or_false]at ht;rcases ht with rfl|rfl
           ·exact mG px15 hk (by decide)
           ·exact mG fx15 hk (by decide))
          have gO:Hid (∀t∈[(gp,dW PC,58),(gf0,qI ⟨x,J,xs,U⟩,101)],aG w15 t.1 t.2.1 t.2.2):=ae (λt ht=>by
           simp only[dz,ib,or_false]at ht;rcases ht with rfl|rfl
           ·exact px15
           ·exact fx15)
          go_upto_region 28 with(fail);refine iH 16 [_,_,_,_,_,_,.v (.slice S15.H.dq S15.H.dk.queue.length S15.H.cdq),_,.v (.agg (dW PC)),.v (.agg (Ie ((n:Int),PC))),.r 10 ((dJ λ_=>True)),.r 11 ((dJ λ_=>True)),_,_,_,_] (EM S15 b b w15 [(gp,dW PC,58),(gf0,qI ⟨x,J,xs,U⟩,101)] 11 10 105 9 S15.H.dk.queue.length (.slice S15.H.dq S15.H.dk.queue.length S15.H.cdq) (S15.H.dk.queue.flatMap zQ) (zQ ((n:Int),PC))) fO (λy=>Tc km gO.out y) (Qk fO rfl (Qk fO rfl (Qk fO rfl (Qf fO b 1 rfl rfl (Qf fO b 6 rfl rfl (Qf fO b 7 rfl rfl (ah ?_ (Qk fO rfl (ah ?_ (ah ?_ (ah ?_ (ah ?_ (Qk fO rfl (Qf fO b 1 rfl rfl (Qf fO b 6 rfl rfl (Qf fO b 7 rfl rfl (aF) (λ_ _ _ _ d h=>gL (by decide) h)) (λ_ _ _ _ d h=>gL (by decide) h)) (λ_ _ _ _ d h=>gL (by decide) h)) (λ_ _ _ _ d h=>gL (by decide) h)))))) (λ_ _ _ _ d h=>gL (by decide) h))) (λ_ _ _ _ d h=>gL (by decide) h)) (λ_ _ _ _ d h=>gL (by decide) h)) (λ_ _ _ _ d h=>gL (by decide) h)) (λ_ _ _ _ d h=>gL (by decide) h)) (λ_ _ _ _ d h=>gL (by decide) h)) (λ_ _ _ _ d h=>gL (by decide) h)) (λ_=>rfl) rfl ?_
          ·intro ρ y W L D hn o d A E;refine fV fO (d:=(λ_ _ h=>gL (by decide) h)) A ?_;have eZ:=D 143 5 rfl;have h5:y 5=_:=E 5 rfl;have m1:=A.1.1;refine ak (.slice S15.H.dq S15.H.dk.queue.length S15.H.cdq) (by simp[execOp,go_sem,eZ,h5,m1.cell,jI])
          ·intro ρ y W L D hn o d A E;refine fV fO (d:=(λ_ _ h=>gL (by decide) h)) A ?_;have iY:ρ (.tmp 15) = .pointer (some ⟨gp,0,none⟩):=(hn (.tmp 15) rfl).trans rfl;have m3:=A.1.2 _ iN;refine ak (.agg (dW PC)) (dG rfl iY m3 underlying58 psize)
          ·intro ρ y W L D hn o d A E;refine fV fO (d:=(λ_ _ h=>gL (by decide) h)) A ?_;have eV:=D 145 7 rfl;have h7:y 7=_:=E 7 rfl;have eU:=D 146 8 rfl;have h8:y 8=_:=E 8 rfl;refine ak (.agg (Ie ((n:Int),PC))) (by simp[execOp,go_sem,eV,h7,eU,h8,dW,Ie])
          ·intro ρ y W L D hn o d A E;have eS:=D 147 9 rfl;have h9:y 9=_:=E 9 rfl;refine fJ (.slice (some ⟨W.heap.size,0,none⟩) 1 1) ?_ (TU (W':=W.alloc (.cells (Ie ((n:Int),PC)) 105)) (by decide) ((Below.refl _ _).alloc (az _) _) A ⟨az _,by unfold maxLen;omega,λe=>(by cases e),eu.new _ _ _⟩);simp[execOp,go_sem,eS.trans h9,Ie]
          ·intro ρ y W L D hn o d A E;have eW:=D 144 6 rfl;have h6:y 6=_:=E 6 rfl;have eR:=D 148 10 rfl;have xD:=E 10 rfl;have F:=(A.2.1 o).1;obtain⟨a,e,gc,kL⟩:=A.2.2.1 (d 10 rfl) o;have xe:Own W b 105 9 (.slice S15.H.dq S15.H.dk.queue.length S15.H.cdq) S15.H.dk.queue.length (S15.H.dk.queue.flatMap zQ):=F.ma.dk.q;refine mK (aj) (qB _ _ _ rfl b 105 _ 9 16 underlying36 put_info rfl (.slice S15.H.dq S15.H.dk.queue.length S15.H.cdq) S15.H.dk.queue.length _ (eW.trans h6) xe a 1 e (zQ ((n:Int),PC)) (eR.trans gc) kL.nl kL.le rfl kL.rd (bV (OW _)) (by unfold maxLen;omega) F.bs) (λv W1 h=>Uh o A h.2.1 gD.out h.1 h.2.2)
          intro y W16 kA xx;clear xx;obtain⟨wq,kj,kC,kG,kq,ka⟩:=kA.2.2.2 rfl;have kT:=kA.1.1;have fx16:aG W16 gf0 (qI ⟨x,J,xs,U⟩) 101:=kA.1.2 _ (jY _ iN);have qt:Hid (Own W16 b 3 1 (ou ⟨x,J,xs,U⟩) xs.length (xs.map gF)):=ae (by
           have h1:=kC.ownN gA.out gK.out;rcases tJ kj.ma.dk.q kG with hb0|⟨g,cs,hk,_,hg'⟩
           ·exact h1.below hb0
           ·exact ax h1 hk hg')
          have i2:=ae kC;have qo:=hQ.trans kC;obtain⟨aq,cq,gl,_⟩:=kq.rd;rw[gl]at kq ka ⊢;clear gl kA km hQ px15 fx15 gA kC gO gD
          go_wp2_with (refine aC b 7 [.slice aq (S15.H.dk.queue.length+1) cq] rfl rfl rfl _ _ kT (by show 7+1<=13;omega) (by kernel_rfl) (λu hu=>by cases bC.1 hu;rfl) ?_)
          intro w17 kJ hS;have hD:(S15.H.dk.queue++[((n:Int),PC)]).length=S15.H.dk.queue.length+1:=by simp
          have gz : Own W16 b 105 9 (.slice aq (S15.H.dk.queue++[((n:Int),PC)]).length cq) (S15.H.dk.queue++[((n:Int),PC)]).length ((S15.H.dk.queue++[((n:Int),PC)]).flatMap zQ):=by rw[hD,fM];simpa using kq
          have gH:=kj.appQ kG gz (by rw[hD];exact kJ) hS;have gG:∀x,nS b { S15 with H:={ S15.H with dq:=aq,cdq:=cq,dk:=⟨S15.H.dk.blocks,S15.H.dk.queue++[((n:Int),PC)]⟩ } } x->nS b S15 x\/oB aq=some x:=λx X=>by
           rcases X with X|X
           ·exact .inl (.inl X)
           simp only[iZ,dz,ib,or_false]at X;rcases X with X|X|X|X|X|X|X|X|X<;>first|exact .inr X.symm|exact .inl (.inr (by simp[iZ,X]))
          have kD:=qo.app kj kj.ma.dk.q (by simp[iZ]) kG hS ka gG;have hqN:Hid (¬nS b { S15 with H:={ S15.H with dq:=aq,cdq:=cq,dk:=⟨S15.H.dk.blocks,S15.H.dk.queue++[((n:Int),PC)]⟩ } } gf0):=ae (λhk=>(gG gf0 hk).elim kx.out λe=>mG (jf gz e).2.choose_spec fx16 (by decide) rfl);have fx17:=fx16.grown hS (λe=>kx.out (.inl (aM e).symm));have xY:Hid (Own w17 b 3 1 (ou ⟨x,J,xs,U⟩) xs.length (xs.map gF)):=ae (ax qt.out kT hS);have g6:Hid (IG f s ct Z.H.asl I (bk.set n PC) (qu++[((n:Int),PC)]) { S15 with H:={ S15.H with dq:=aq,cdq:=cq,dk:=⟨S15.H.dk.blocks,S15.H.dk.queue++[((n:Int),PC)]⟩ } }/\Fb ct (bk.set n PC) (qu++[((n:Int),PC)]) (I.map PF.fi) (xs++[(n:Int)])):=ae (by have h9:=gb.out;exact⟨⟨h9.m,h9.asl,h9.sl,h9.sw,by show(⟨S15.H.dk.blocks,S15.H.dk.queue++[((n:Int),PC)]⟩:vW)=_;rw[h9.dk],h9.fi,h9.ct,h9.ca,h9.sp,h9.T⟩,hY.out.2.1.wait gC.out.1 gC.out.2 PC⟩);clear kj kG kq ka kT fx16 qt qo kJ hD gz hS gG;go_wp2;go_meet
          case rel=>exact⟨(n:Int),_,_,_,rfl,gH,kD,hqN,g6,fx17,xY⟩
         have g6:Hid (IG f s ct Z.H.asl I (bk.set n PC) qu S15/\Fb ct (bk.set n PC) qu (I.map PF.fi) (xs++[(n:Int)])):=ae ⟨gb.out,hY.out.2.1.some gC.out.1 gC.out.2 PC⟩;go_wp2;go_meet
         case rel=>exact⟨(n:Int),S15,_,_,rfl,km,hQ,kx,g6,fx15,gA⟩
      case rest=>
      obtain⟨v,S,bk,qu,rfl,F,Y,x7,hF,fx,ho⟩:=hcut;clear hR hJ kB fx9 kh ko kF;have kI:=fx.cell;unfold qI at kI;have jj:=ae hF.out.2;have xI:xs.length<=100:=by have h1:=xC.out;omega
      have jd:=ae xI
      go_wp2_with (at_builtin;go_must (refine qO rfl _ _ 33 rfl b 3 (.int .i64 0) 1 8 underlying33 int_info rfl (by decide) (ou ⟨x,J,xs,U⟩) xs.length (xs.map gF) rfl (ho.out.alloc _) (some ⟨wc.heap.size,0,none⟩) 1 1 [gF v] rfl (λh=>(by cases h)) (az _) rfl (eu.new _ #[gF v] _) (by simp[gF,Value.oneCell']) (by unfold maxLen;omega) (by omega) (dE F.bs) ?_))
      intro v2 w2 own2 gj gr;have g1:=(Below.refl wc.heap.size wc).alloc (az _) (.cells #[gF v] 3);have gi:=F.below g1;have gy:=Y.below g1;have fx1:=fx.ext g1;have gB:Own (wc.alloc (.cells #[gF v] 3)) b 3 1 (.slice J xs.length U) xs.length (xs.map gF):=ho.out.below g1;obtain⟨a2,c2,xO,_⟩:=own2.rd;rw[xO]at own2 gr ⊢;have eb:Hid (∀g,oB a2=some g->w6.heap.size<=g/\oB Z.H.asl≠some g/\∀p∈I,oB p.a≠some g):=ae (λg hg=>by
       rcases gr with e1|e1
       ·unfold ou at e1;rw[jF,jF]at e1;exact kV.out g (by rw[<-e1];exact hg)
       have h1:=e1 g (by rw[jF];exact hg);refine⟨bi gy.size h1,λe => ?_,λp hp e => ?_⟩
       ·exact absurd h1 (Nat.not_le.2 (jf gi.ma.sl (by rw[hF.out.1.asl];exact e)).2.choose_spec.lt)
       rw[<-hF.out.1.fi]at hp;obtain⟨k,hk,rfl⟩:=jJ.1 hp;exact absurd h1 (Nat.not_le.2 (jf (gi.ma.st.each k _ (aI hk)) e).2.choose_spec.lt))
      have x2:fF w2 b b S:=by
       rcases tJ gB gj with hb0|⟨g,cs,hk,hga,hg'⟩
       ·exact gi.below hb0
       ·exact gi.locI hk (gi.kb_int hk (by rw[hF.out.1.asl];exact(kV.out g hga).2.1)) (by rw[hF.out.1.fi];exact(kV.out g hga).2.2) (jf gB hga).1 hg'
      have xT:MS w6 b S6 w2 S:=by
       rcases tJ gB gj with hb0|⟨g,cs,hk,hga,hg'⟩
       ·exact gy.below hb0
       ·exact gy.loc hg' (kV.out g hga).1
      have fx2:aG w2 gf0 (qI ⟨x,J,xs,U⟩) 101:=by
       rcases tJ gB gj with hb0|⟨g,cs,hk,hga,hg'⟩
       ·exact fx1.ext hb0
       ·exact cB fx1 hk hg'
      clear kI F Y fx gi gy fx1 gB gj gr g1 ho xO
      go_wp2_with (refine aC gf0 1 [.slice a2 (xs.length+1) c2] rfl rfl rfl _ _ fx2 (by show 1+1<=2;omega) (by kernel_rfl) (λu hu=>by cases bC.1 hu;rfl) ?_)
      intro w3 eh qd;have kX:(xs++[v]).length=xs.length+1:=by simp
      have fx3:aG w3 gf0 (qI ⟨x,a2,xs++[v],c2⟩) 101:=by
       have e:qI ⟨x,a2,xs++[v],c2⟩=bH (qI ⟨x,J,xs,U⟩) 1 [.slice a2 (xs.length+1) c2]:=by unfold qI;dsimp only;rw[kX];kernel_rfl
       rw[e];exact eh
      have iq:=x2.locT fx2 (by decide) x7.out kS qd;have ie:=xT.loc qd iu.out;have io:Hid (Own w3 b 3 1 (ou ⟨x,a2,xs++[v],c2⟩) (xs++[v]).length ((xs++[v]).map gF)/\∀g,oB a2=some g->w6.heap.size<=g/\oB Z.H.asl≠some g/\∀p∈I,oB p.a≠some g):=ae ⟨by
       have h1:=ax own2 fx2 qd;unfold ou;dsimp only;rw[kX,jM];exact h1,eb.out⟩
      have iA:Hid (IG f s ct Z.H.asl I bk qu S/\Fb ct bk qu (I.map PF.fi) (xs++[v])/\(xs++[v]).length=i+1):=ae ⟨hF.out.1,hF.out.2,by rw[kX,ey.out]⟩;clear x2 xT fx2 own2 eh qd kX xI;go_wp2;go_roundw
      case rel=>exact⟨i+1,S,bk,qu,xs++[v],a2,c2,by omega,by go_num,iq,ie,x7,iA,fx3,io⟩
      case measure=>simp[intOf];omega
     have it:¬(i:Int)<(C:Int):=by omega
     have x8 : i=C:=by omega
     subst x8;have i6:S.H.fi.length<=5:=by rw[O.out.1.fi];have:=xk.out;omega
     have qP:∀g,(Value.slice S.H.ai S.H.fi.length S.H.ci).ownBlock=some g->nS b S g:=λg hg => .inr (by rw[jF]at hg;simp[iZ,hg]);have gD:Hid (∀g,(Value.slice S.H.ai S.H.fi.length S.H.ci).ownBlock=some g->g≠b/\∀t∈[(gf0,qI ⟨x,J,xs,U⟩,101)],t.1≠g):=ae (λg hg=>by obtain⟨cs,hk⟩:=mQ F.ma.st.own g hg;refine⟨λe=>mG hk F.blk (by decide) e,λt ht => ?_⟩;rw[bC.1 ht];intro e;exact k6.out (by rw[show gf0=g from e];exact qP g hg));have gO:Hid (∀t∈[(gf0,qI ⟨x,J,xs,U⟩,101)],aG wr t.1 t.2.1 t.2.2):=ae (λt ht=>by rw[bC.1 ht];exact fx);go_upto_region 31 with(fail);refine iH 14 [_,_,_,_,_,_,.v (.slice S.H.ai S.H.fi.length S.H.ci),.v (.agg (qI ⟨x,J,xs,U⟩)),.r 8 ((dJ λ_=>True)),.r 9 ((dJ λ_=>True)),_,_,_,_] (EM S b b wr [(gf0,qI ⟨x,J,xs,U⟩,101)] 9 8 101 2 S.H.fi.length (.slice S.H.ai S.H.fi.length S.H.ci) (S.H.fi.flatMap rG) (rG ⟨x,J,xs,U⟩)) fO (λy=>Tc F gO.out y) (Qk fO rfl (Qk fO rfl (Qk fO rfl (Qf fO b 1 rfl rfl (Qf fO b 8 rfl rfl (Qf fO b 8 rfl rfl (ah ?_ (ah ?_ (ah ?_ (ah ?_ (Qk fO rfl (Qf fO b 1 rfl rfl (Qf fO b 8 rfl rfl (Qf fO b 8 rfl rfl (aF) (λ_ _ _ _ d h=>gL (by decide) h)) (λ_ _ _ _ d h=>gL (by decide) h)) (λ_ _ _ _ d h=>gL (by decide) h)) (λ_ _ _ _ d h=>gL (by decide) h)))))) (λ_ _ _ _ d h=>gL (by decide) h)) (λ_ _ _ _ d h=>gL (by decide) h)) (λ_ _ _ _ d h=>gL (by decide) h)) (λ_ _ _ _ d h=>gL (by decide) h)) (λ_ _ _ _ d h=>gL (by decide) h)) (λ_ _ _ _ d h=>gL (by decide) h)) (λ_=>rfl) rfl ?_
     ·intro ρ y W L D hn o d A E;refine fV fO (d:=(λ_ _ h=>gL (by decide) h)) A ?_;have eP:=D 166 5 rfl;have h5:y 5=_:=E 5 rfl;have m1:=A.1.1;refine ak (.slice S.H.ai S.H.fi.length S.H.ci) (by simp[execOp,go_sem,eP,h5,m1.cell,jI])
     ·intro ρ y W L D hn o d A E;refine fV fO (d:=(λ_ _ h=>gL (by decide) h)) A ?_;have xE:ρ (.tmp 11) = .pointer (some ⟨gf0,0,none⟩):=(hn (.tmp 11) rfl).trans rfl;have m3:=A.1.2 _ iN;refine ak (.agg (qI ⟨x,J,xs,U⟩)) (dG rfl xE m3 underlying101 file_size)
     ·intro ρ y W L D hn o d A E;have eN:=D 168 7 rfl;have h7:y 7=_:=E 7 rfl;refine fJ (.slice (some ⟨W.heap.size,0,none⟩) 1 1) ?_ (TU (W':=W.alloc (.cells (qI ⟨x,J,xs,U⟩) 101)) (by decide) ((Below.refl _ _).alloc (az _) _) A ⟨az _,by unfold maxLen;omega,λe=>(by cases e),eu.new _ _ _⟩);simp[execOp,go_sem,eN.trans h7,qI]
     ·intro ρ y W L D hn o d A E;have eO:=D 167 6 rfl;have h6:y 6=_:=E 6 rfl;have eM:=D 169 8 rfl;have h8:=E 8 rfl;have F:=(A.2.1 o).1;obtain⟨a,e,gc,kL⟩:=A.2.2.1 (d 8 rfl) o;have xe:Own W b 101 2 (.slice S.H.ai S.H.fi.length S.H.ci) S.H.fi.length (S.H.fi.flatMap rG):=F.ma.st.own;refine mK (aj) (qB _ _ _ rfl b 101 _ 2 32 underlying39 file_info rfl (.slice S.H.ai S.H.fi.length S.H.ci) S.H.fi.length _ (eO.trans h6) xe a 1 e (rG ⟨x,J,xs,U⟩) (eM.trans gc) kL.nl kL.le rfl kL.rd (bV (rY _)) (by unfold maxLen;omega) F.bs) (λv W1 h=>Uh o A h.2.1 gD.out h.1 h.2.2)
     intro y W8 gY eq;clear eq;obtain⟨wq,kj,kC,kG,kq,ka⟩:=gY.2.2.2 rfl;have qT:=gY.1.1;have qr:=kC.ownN ho.out.1 (λg hg=>by obtain⟨cs,hk⟩:=mQ ho.out.1 g hg;refine F.kb_int hk ?_;rw[O.out.1.asl];exact(ho.out.2 g (by unfold ou at hg;rw[jF]at hg;exact hg)).2.1);have hA:=Y.trans kC;obtain⟨aq,cq,gl,_⟩:=kq.rd;rw[gl]at kq ka ⊢;clear gl gY F Y fx kC gO gD qP
     go_wp2_with (refine aC b 8 [.slice aq (S.H.fi.length+1) cq] rfl rfl rfl _ _ qT (by show 8+1<=13;omega) (by kernel_rfl) (λu hu=>by cases bC.1 hu;rfl) ?_)
     intro w17 kJ hS;have hD:(S.H.fi++[(⟨x,J,xs,U⟩:PF)]).length=S.H.fi.length+1:=by simp
     have gH:fF w17 b b { S with H:={ S.H with ai:=aq,ci:=cq,fi:=S.H.fi++[(⟨x,J,xs,U⟩:PF)] } }:=kj.appFi (p:=⟨x,J,xs,U⟩) qr (λk p hp g hg hg'=>by unfold ou at hg hg';rw[jF]at hg hg';exact(ho.out.2 g hg').2.2 p (by rw[<-O.out.1.fi];exact bP hp) hg) (λg hg=>by rw[O.out.1.asl];exact(ho.out.2 g hg).2.1) kG (by rw[hD];exact kq) (by rw[hD];exact kJ) hS;have kD:MS w6 b S6 w17 { S with H:={ S.H with ai:=aq,ci:=cq,fi:=S.H.fi++[(⟨x,J,xs,U⟩:PF)] } }:=hA.app kj kj.ma.st.own (by simp[iZ]) kG hS ka (λx X=>by
      rcases X with X|X
      ·exact .inl (.inl X)
      simp only[iZ,dz,ib,or_false]at X;rcases X with X|X|X|X|X|X|X|X|X<;>first|exact .inr X.symm|exact .inl (.inr (by simp[iZ,X])))
     have kD:=kg.trans kD;have et:Hid (IG f s ct Z.H.asl (S.H.fi++[(⟨x,J,xs,U⟩:PF)]) bk qu { S with H:={ S.H with ai:=aq,ci:=cq,fi:=S.H.fi++[(⟨x,J,xs,U⟩:PF)] } }/\Fb ct bk qu ((S.H.fi++[(⟨x,J,xs,U⟩:PF)]).map PF.fi) []/\(S.H.fi++[(⟨x,J,xs,U⟩:PF)]).length=q+1/\(q+1=0->bk=List.replicate ct zPg/\qu=[]/\(l=[]->S.l=[]))):=ae (by have h9:=O.out.1;refine⟨⟨h9.m,h9.asl,h9.sl,h9.sw,h9.dk,rfl,h9.ct,h9.ca,h9.sp,h9.T⟩,?_,by rw[hD,h9.fi,x5.out],λe=>absurd e (by omega)⟩;rw[jM,h9.fi];exact O.out.2.1.file (s:=x) (by omega) (by omega) (by rw[O.out.2.2,ez.out]));clear kj kG kq ka qT qr hA kJ hD hS;go_wp2;go_roundw
     case rel=>exact⟨q+1,_,bk,qu,by omega,by go_num,gH,kD,et⟩
     case measure=>simp[intOf];omega
   have gg:¬(q:Int)<(N:Int):=by omega
   have kz:Hid (Bd S.H.ma S.T/\OI S/\S.H.sp.length=0/\S.H.m.fs.length=f/\S.H.dk.blocks.length=ct/\(l=[]->S.l=[]/\S.H.ma=Cb f s ct (List.replicate ct zPg) [] []/\S.T=[])):=ae (by
    obtain⟨h1,h2,h3,h4⟩:=O.out;refine⟨by rw[h1.ma,h1.T];exact h2.bd (by rw[eQ];omega) gT gv,λp hp=>(by rw[h1.sp]at hp;cases hp),by rw[h1.sp];rfl,by rw[h1.m];exact kQ,by rw[h1.dk];exact h2.cl.1,λe => ?_⟩;have xz:=(x4.out e).1;have ih:q=0:=by omega
    obtain⟨k1,k2,k3⟩:=h4 ih;refine⟨k3 e,?_,h1.T⟩;have ed:I=[]:=Eh.1 (by omega);rw[h1.ma,k1,k2,ed];rfl)
   clear O
   go_wp2_with fail
   refine(fZ S 2 b b _ F).mono ?_;rintro r w6 ⟨z,a6,c6,l6,rfl,kt,kg,hz,q8⟩;have kg:=Y.trans kg;have xF:IntKind.i64.wrap (1+z)=1+z:=bK _ (by omega);obtain⟨M,hM⟩:∃M:Nat,1+z=(M:Int):=⟨(1+z).toNat,by omega⟩;have ji:1<=M/\M<=2:=by omega
   have hV:Hid (Bd (S.lst a6 c6 l6).H.ma (S.lst a6 c6 l6).T/\OI (S.lst a6 c6 l6)/\(S.lst a6 c6 l6).H.sp.length=0/\(S.lst a6 c6 l6).H.m.fs.length=f/\(S.lst a6 c6 l6).H.dk.blocks.length=ct/\(l=[]->(S.lst a6 c6 l6).l=[]/\(S.lst a6 c6 l6).H.ma=Cb f s ct (List.replicate ct zPg) [] []/\(S.lst a6 c6 l6).T=[])):=ae
    ⟨kz.out.1,kz.out.2.1,kz.out.2.2.1,kz.out.2.2.2.1,kz.out.2.2.2.2.1,λe=>⟨(q8 (kz.out.2.2.2.2.2 e).1).2,(kz.out.2.2.2.2.2 e).2⟩⟩
   have es:Hid (l=[]->M=1):=ae (λe=>by have:=(q8 (kz.out.2.2.2.2.2 e).1).1;omega);rw[hM]at xF;clear F Y kz hz q8;generalize S.lst a6 c6 l6=S6 at kt kg hV;go_upto_region 34 with(fail);clear hM xF
   go_loopw [179] (fun k wr => ∃(p:Nat) (S:MW),p<=M/\k = .int .i64 p/\fF wr b b S/\MS w4 b Z wr S/\Hid (Bd S.H.ma S.T/\OI S/\S.H.sp.length=p/\S.H.m.fs.length=f/\S.H.dk.blocks.length=ct/\(l=[]->S.l=[]/\((p=0->S.H.ma=Cb f s ct (List.replicate ct zPg) [] []/\S.T=[])/\(p=1->S.H.ma = { Cb f s ct (List.replicate ct zPg) [] [] with sp:=[⟨true,[],zTb⟩] }/\S.T=[List.replicate 64 zEn]))))) (fun k _=>M-(intOf k).toNat)
   case atStart=>exact⟨0,S6,bq _,rfl,kt,kg,ae ⟨hV.out.1,hV.out.2.1,hV.out.2.2.1,hV.out.2.2.2.1,hV.out.2.2.2.2.1,λe=>⟨(hV.out.2.2.2.2.2 e).1,λ_=>(hV.out.2.2.2.2.2 e).2,λh=>(by cases h)⟩⟩⟩
   case round=>
    clear kt kg hV;obtain⟨p,S,hp,rfl,F,Y,O⟩:=hrel
    by_cases hpM:p<M
    ·have ii:(p:Int)<(M:Int):=by omega
     have kY:∀(S' : MW),More S S'->(l=[]->p=0->S'.l=[]/\S'.H.ma = { S.H.ma with sp:=S.H.ma.sp++[⟨true,[],zTb⟩] }/\S'.T=S.T++[List.replicate 64 zEn])->Bd S'.H.ma S'.T/\OI S'/\S'.H.sp.length=p+1/\S'.H.m.fs.length=f/\S'.H.dk.blocks.length=ct/\(l=[]->S'.l=[]/\((p+1=0->S'.H.ma=Cb f s ct (List.replicate ct zPg) [] []/\S'.T=[])/\(p+1=1->S'.H.ma = { Cb f s ct (List.replicate ct zPg) [] []with sp:=[⟨true,[],zTb⟩] }/\S'.T=[List.replicate 64 zEn]))):=λS' hB hn=>by
      obtain⟨h1,h2,h3,h4,h5,h6⟩:=O.out;refine⟨hB.bd,hB.fm,by rw[hB.sp,h3],by rw[hB.fs,h4],by rw[hB.dk,h5],λe => ?_⟩;have gh:p=0:=by have:=es.out e;omega
      obtain⟨k1,k2,k3⟩:=hn e gh;obtain⟨q1,q2⟩:=(h6 e).2.1 gh;refine⟨k1,λh=>absurd h (by omega),λ_=>⟨by rw[k2,q1];rfl,by rw[k3,q2];rfl⟩⟩
     have kc:=ae kY;clear kY
     by_cases hp1:p=1
     ·subst hp1
      go_wp2_with fail
      refine(fZ S 2 b b _ F).mono ?_;rintro r w7 ⟨z2,a7,c7,l7,rfl,kO,ge,i8,_⟩;have ge:=Y.trans ge;clear F Y
      by_cases hz1:z2=1
      ·subst hz1
       go_wp2_with fail
       refine (QR (S.lst a7 c7 l7) b b _ kO O.out.1 O.out.2.1 O.out.2.2.1).mono ?_;rintro r w8 ⟨S8,rfl,hG,hA,hB⟩;have hA:=ge.trans hA;have h0:=ae (kc.out S8 ⟨hB.bd,hB.fm,hB.fi,hB.ct,hB.dk,hB.sp,hB.fs⟩ (λ_ h=>absurd h (by decide)));clear kO ge hB O;go_wp2;go_roundw
       case rel=>exact⟨2,S8,by omega,by go_num,hG,hA,h0⟩
       case measure=>simp[intOf];omega
      have i7:(z2==1)=false:=by simpa using hz1
      go_wp2_with fail
      refine (Ev (S.lst a7 c7 l7) b b _ kO O.out.1 O.out.2.1 (by have:=O.out.2.2.1;show S.H.sp.length<4;omega)).mono ?_;rintro r w8 ⟨S8,rfl,hG,hA,hB,_⟩;have hA:=ge.trans hA;have h0:=ae (kc.out S8 ⟨hB.bd,hB.fm,hB.fi,hB.ct,hB.dk,hB.sp,hB.fs⟩ (λ_ h=>absurd h (by decide)));clear kO ge hB O;go_wp2;go_roundw
      case rel=>exact⟨2,S8,by omega,by go_num,hG,hA,h0⟩
      case measure=>simp[intOf];omega
     have gh:p=0:=by omega
     subst gh
     go_wp2_with fail
     refine (Ev S b b _ F O.out.1 O.out.2.1 (by have:=O.out.2.2.1;omega)).mono ?_;rintro r w8 ⟨S8,rfl,hG,hA,hB,qz⟩;have hA:=Y.trans hA;have h0:=ae (kc.out S8 hB (λe _=>qz (O.out.2.2.2.2.2 e).1));clear F Y hB O qz;go_wp2;go_roundw
     case rel=>exact⟨0+1,S8,by omega,by go_num,hG,hA,ae ⟨h0.out.1,h0.out.2.1,h0.out.2.2.1,h0.out.2.2.2.1,h0.out.2.2.2.2.1,λe=>⟨(h0.out.2.2.2.2.2 e).1,(h0.out.2.2.2.2.2 e).2.1,λ_=>(h0.out.2.2.2.2.2 e).2.2 (by first | trivial | rfl)⟩⟩⟩
     case measure=>simp[intOf];omega
    have ii:¬(p:Int)<(M:Int):=by omega
    have il:M=p:=by omega
    subst il;have kW:Hid (Bd S.H.ma S.T/\S.T.length=M/\S.H.ma.sp.length=M):=ae (by have h1:=O.out.2.2.1;have h2:S.H.ma.sp.length=S.H.sp.length:=eQ _;exact⟨O.out.1,by rw[O.out.1.ok.len];omega,by omega⟩);have ex:Hid (S.H.ma=tabs S.H.ma S.T 0/\S.T=S.T/\S.H.sp.length=M/\OI S/\S.H.m.fs.length=f/\S.H.dk.blocks.length=ct/\(l=[]->S.l=[])):=ae ⟨rfl,rfl,O.out.2.2.1,O.out.2.1,O.out.2.2.2.1,O.out.2.2.2.2.1,λe=>(O.out.2.2.2.2.2 e).1⟩;have qA:Hid (l=[]->fq S.H.ma S.T=zn f s ct):=ae (λe=>by obtain⟨k1,k2⟩:=(O.out.2.2.2.2.2 e).2.2 (es.out e);rw[k1,k2];exact UB gT gv gW);obtain⟨m5,ku⟩:∃m,S.H.ma=m:=⟨_,rfl⟩;obtain⟨T5,xw⟩:∃T,S.T=T:=⟨_,rfl⟩;have ew:Hid (S.H.ma=tabs m5 T5 0/\S.T=T5/\S.H.sp.length=M/\OI S/\S.H.m.fs.length=f/\S.H.dk.blocks.length=ct/\(l=[]->S.l=[])):=ae (by rw[<-ku,<-xw];exact ex.out);rw[ku,xw]at kW qA;have qk:S.H.sp.length=M:=O.out.2.2.1;clear O ex ku xw;have hc:=F.blk.cell;unfold jI at hc;rw[qk]at hc;clear qk;go_upto_region 41 with(fail);clear hc
    go_loopw [200] (fun k wr => ∃(q:Nat) (S:MW),q<=M/\k = .int .i64 q/\fF wr b b S/\MS w4 b Z wr S/\Hid (S.H.ma=tabs m5 T5 q/\S.T=T5/\S.H.sp.length=M/\OI S/\S.H.m.fs.length=f/\S.H.dk.blocks.length=ct/\(l=[]->S.l=[]))) (fun k _=>M-(intOf k).toNat)
    case atStart=>exact⟨0,S,bq _,rfl,F,Y,ew⟩
    case round=>
     clear F Y ew;obtain⟨q,S,hq,rfl,F,Y,O⟩:=hrel
     by_cases hqM:q<M
     ·have gg:(q:Int)<(M:Int):=by omega
      obtain⟨P,hP⟩:∃P,S.H.sp[q]?=some P:=⟨_,aI (by rw[O.out.2.2.1];exact hqM)⟩;obtain⟨g,off,cur0,kV,_,_,_,_⟩:=F.setTb hP;have ep:S.T.length=M:=by rw[O.out.2.1];exact kW.out.2.1
      obtain⟨gt,ot,ct',curt,xN,_,xm,x9,qQ,_⟩:=F.tt.put zw (by decide) q (by omega);have em:S.ab=some ⟨gt,ot,none⟩:=(oO xN).1;have qj:(fP T5 q).length=64:=kW.out.1.ok.l64 (by rw[kW.out.2.2];exact hqM);have en:S.T[q]'(by omega)=fP T5 q:=by rw[<-fF.lst_len (by omega),O.out.2.1]
      have qq:∀W,Below wr.heap.size wr W->eu W (some ⟨gt,ot+q*192,none⟩) (xR (fP T5 q)).toList:=λW A j u hj=>by refine⟨gt,ot+q*192,rfl,?_⟩;have e1:=qQ j u (by rw[en,XM qj];exact hj);rw[xm.cell]at e1;rw[(xm.ext A).cell];exact e1
      have xS:=ae O.out.2.2.1;have eo:=ae ep;have g0:=ae kV;have el:=ae em;have eA:=ae qj;have gn:(xR (fP T5 q)).toList.length=192:=by rw[jk,vg,qj]
      have xQ:=ae gn;have xy:=ae hP;have xb:=ae qq;clear xN qQ en ep kV em qj gn hP qq xm x9;go_upto_region 43 with(fail);refine aO 16 [_,_,_,_,_,_,_,_,_,_,_,_,_,.r 13 ((KA b (iw (fP T5 q)))),_,_] (Gk rfl (Gk rfl (Gf b 1 rfl rfl (Gf b 11 rfl rfl (Gl F.blk (V:=.slice (some ⟨g,off,none⟩) M S.H.cp) (by simp[jI,g0.out,xS.out]) rfl rfl rfl rfl (Gk rfl (Gk rfl (Gk rfl (Gf b 12 rfl rfl (Gl F.blk (V:=.slice (some ⟨gt,ot,none⟩) M S.cb) (by simp[jI,el.out,eo.out]) rfl rfl rfl rfl (Gk rfl (Gr (.pointer (some ⟨gt,ot+q*192,none⟩)) (λρ y W A hZ=>(bN rfl (aH rfl hZ) (aH rfl hZ) hqM underlying96 arr64_size)) rfl rfl (Gr (.agg (xR (fP T5 q))) (λρ y W A hZ=>(bJ rfl (aH rfl hZ) (xb.out W A) underlying69 (A:=arr64_size.trans (congrArg some xQ.out.symm)))) rfl rfl (ah ?_ (Gr (.pointer (some ⟨g,off+q*10,none⟩)) (λρ y W A hZ=>(bN rfl (aH rfl hZ) (aH rfl hZ) hqM underlying43 space_size)) rfl rfl (Gf g (off+q*10+2) rfl rfl (aF))))))))))))))))) (λ_=>rfl) rfl ?_
      ·intro ρ y W D hn A E;have eL:=D 215 12 rfl;have qa:y 12=_:=E 12 rfl;have EF:=eF0 hn λ_=>trivial;refine aP (aS rfl (EF _) func38 (by simp only[bU,bS,aZ,eL,qa,EF];rfl)) ?_;refine(Nv (fP T5 q) W eA.out).mono ?_;rintro e w1 ⟨ca,rfl,hO,kU⟩;exact⟨_,rfl,kU,⟨_,rfl,hO.mono (F.below A).bs⟩⟩
      intro y W9 hy hW;have xH:=hW 13 (by decide);clear hW;obtain⟨cs,gm,qg⟩:∃cs,y 13 = .agg cs/\sM W9 b cs (iw (fP T5 q)):=xH;obtain⟨v,rfl⟩:=SI qg.sz;rw[gm];have hR:=F.below hy;have hJ:=Y.below hy;clear F Y hy gm;obtain⟨g2,off2,cur,gZ,i4,gX,gS,gu⟩:=hR.setTb xy.out;rw[g0.out]at gZ;obtain⟨rfl,rfl⟩:g=g2/\off=off2:=by have:=aM gZ;exact⟨congrArg Addr.block this,congrArg Addr.off this⟩
      have qN:nS b S g:=.inr (by simp[iZ,g0.out,oB,Value.ownBlock]);clear gZ
      go_wp2_with (refine aC g (off+q*10+2) (nT v).toList rfl rfl rfl _ _ gX (by show off+q*10+2+8<=cur.size;exact gS) (by kernel_rfl) (Ug qg.rd) ?_)
      intro w10 qZ gR;have ke:=gu w10 v _ qg qZ gR;have hK:MS w4 b Z w10 { S with H:={ S.H with sp:=S.H.sp.set q { P with ts:=v,tb:=iw (fP T5 q) } } }:=hJ.put gR qN (λx X => .inl X);have ev:Hid (({ S with H:={ S.H with sp:=S.H.sp.set q { P with ts:=v,tb:=iw (fP T5 q) } } }:MW).H.ma=tabs m5 T5 (q+1)/\S.T=T5/\(S.H.sp.set q { P with ts:=v,tb:=iw (fP T5 q) }).length=M/\OI { S with H:={ S.H with sp:=S.H.sp.set q { P with ts:=v,tb:=iw (fP T5 q) } } }/\S.H.m.fs.length=f/\S.H.dk.blocks.length=ct/\(l=[]->S.l=[])):=ae (by
       obtain⟨q1,q2,q3,q4,q5⟩:=O.out;refine⟨?_,q2,by rw[bI];exact q3,λp hp n x X => ?_,q5⟩
       ·show MH.ma { S.H with sp:=S.H.sp.set q { P with ts:=v,tb:=iw (fP T5 q) } }=_;rw[OL xy.out,q1];rfl
       rcases lS hp with hp|rfl
       ·exact q4 p hp n x X
       ·exact q4 P (bP xy.out) n x X)
      clear hR hJ gX gS gu qZ gR qg O qN;go_wp2;go_roundw
      case rel=>exact⟨q+1,_,by omega,by go_num,ke,hK,ev⟩
      case measure=>simp[intOf];omega
     have gg:¬(q:Int)<(M:Int):=by omega
     have qi:Hid (S.H.ma=fq m5 T5):=ae (by
      have e:q=m5.sp.length:=by rw[kW.out.2.2];omega
      rw[O.out.1,e];exact Tz)
     have kl:Hid (Rt S.H.ma/\Co S.H.ma/\OI S/\S.H.m.fs.length=f/\S.H.dk.blocks.length=ct/\(1<=S.H.sp.length/\S.H.sp.length<=2)/\(l=[]->S.H.ma=zn f s ct/\S.l=[])):=ae (by obtain⟨q1,q2,q3,q4,q5,q6,q7⟩:=O.out;exact⟨by rw[qi.out];exact kW.out.1.rt,by rw[qi.out];exact kW.out.1.co,q4,q5,q6,by omega,λe=>⟨by rw[qi.out];exact qA.out e,q7 e⟩⟩);clear O qi
     by_cases ed:0<f
     ·have ix:(0:Int)<(f:Int):=by omega
      go_wp2_with fail
      refine(fZ S (f:Int) b b _ F).mono ?_;rintro r w11 ⟨x,R,Q,G,rfl,kn,kb,X,xK⟩;have kb:=Y.trans kb;clear F Y
      go_wp2_with (refine aC b 2 [.int .i64 x] rfl rfl rfl _ _ kn.blk (by show 2+1<=13;omega) (by kernel_rfl) (λu hu=>by cases bC.1 hu;rfl) ?_)
      intro w12 qY hU;have F:=kn.setH qY hU;have Y:MS w4 b Z w12 { (S.lst R Q G)with H:={ (S.lst R Q G).H with m:=⟨(S.lst R Q G).H.m.fs,x⟩ } }:=kb.put hU (.inl rfl) (λx X => .inl X);have O:Hid (Rt ({ (S.lst R Q G)with H:={ (S.lst R Q G).H with m:=⟨(S.lst R Q G).H.m.fs,x⟩ } }:MW).H.ma/\Co ({ (S.lst R Q G)with H:={ (S.lst R Q G).H with m:=⟨(S.lst R Q G).H.m.fs,x⟩ } }:MW).H.ma/\OI ({ (S.lst R Q G)with H:={ (S.lst R Q G).H with m:=⟨(S.lst R Q G).H.m.fs,x⟩ } }:MW)/\({ (S.lst R Q G)with H:={ (S.lst R Q G).H with m:=⟨(S.lst R Q G).H.m.fs,x⟩ } }:MW).H.m.fs.length=f/\({ (S.lst R Q G)with H:={ (S.lst R Q G).H with m:=⟨(S.lst R Q G).H.m.fs,x⟩ } }:MW).H.dk.blocks.length=ct/\(1<=({ (S.lst R Q G)with H:={ (S.lst R Q G).H with m:=⟨(S.lst R Q G).H.m.fs,x⟩ } }:MW).H.sp.length/\({ (S.lst R Q G)with H:={ (S.lst R Q G).H with m:=⟨(S.lst R Q G).H.m.fs,x⟩ } }:MW).H.sp.length<=2)/\(l=[]->({ (S.lst R Q G)with H:={ (S.lst R Q G).H with m:=⟨(S.lst R Q G).H.m.fs,x⟩ } }:MW).H.ma=zn f s ct)):=ae (by
       obtain⟨q1,q2,q3,q4,q5,q6,q7⟩:=kl.out;have xL:=(dO _).1 q1.pt.fr;have hh:=VP q1 q2 (x:=x) ((dO _).2 ⟨xL.1,xL.2.1,X.1,by
        rcases X.2.2 with h|h
        ·exact .inr (by show x<(S.H.m.fs.length:Int);omega)
        ·exact .inl h⟩)
       refine⟨hh.1,hh.2,q3,q4,q5,q6,λe => ?_⟩;obtain⟨k1,k2⟩:=q7 e;have xJ:x=0:=(xK k2).1;subst xJ;have k3:S.H.m.hand=0:=by
        have:=congrArg (λm:Ma=>m.m.hand) k1;have e2:(zn f s ct).m.hand=0:=by unfold zn Oj;rw[if_pos ⟨⟨by omega,by omega⟩,⟨by omega,by omega⟩,by omega,by omega⟩,if_pos (by omega)]
        exact this.trans e2
       rw[<-k1];show MH.ma { S.H with m:=⟨S.H.m.fs,0⟩ }=MH.ma S.H;have e3:(⟨S.H.m.fs,0⟩:Mem)=S.H.m:=by rw[<-k3]
       rw[e3])
      clear kn kb qY hU kl X xK;generalize { (S.lst R Q G)with H:={ (S.lst R Q G).H with m:=⟨(S.lst R Q G).H.m.fs,x⟩ } }=S13 at F Y O;skip;have bz:aG w12 w.heap.size (dF noH) 45:=Y.blkN bx4'.out qE.out;have g9:=ae (DY xq.out)
      go_wp2_with (first | (refine ay b 1 _ F.rdM _ underlying45 rfl machine_size ?_) | (refine aA rfl _ _ rfl w.heap.size (dF S13.H) rfl rfl bz rfl machine_size (jc _) ?_))
      intro wE bE gE;have hE:Hid (tT wE w.heap.size S13.H/\Below w.heap.size w wE):=ae ⟨(F.ma.keep bz (by decide) gE).mono (by have:=g9.out;omega),(Im qU.out (xP.out _ _ Y) (by have:=g9.out;omega) (az _)).grown gE (bi (bi (by omega) kM) Y.size) (λk hk=>by cases hk;exact az _)⟩;clear F Y bz;go_wp2;refine bodyPost_ret (v:=.agg (dF S13.H)) (fw results17 w.heap.size bE underlying45 machine_size) rfl ?_;obtain⟨q1,q2,q3,q4,q5,q6,q7⟩:=O.out;exact⟨S13.H,rfl,hE.out.1,hE.out.2,q1,q2,q3,by rw[kk.out.1];exact q4,by rw[kk.out.2.2];exact q5,q6,λe=>by rw[kk.out.1,kk.out.2.1,kk.out.2.2];exact q7 e⟩
     have ix:¬(0:Int)<(f:Int):=by omega
     have O:Hid (Rt S.H.ma/\Co S.H.ma/\OI S/\S.H.m.fs.length=f/\S.H.dk.blocks.length=ct/\(1<=S.H.sp.length/\S.H.sp.length<=2)/\(l=[]->S.H.ma=zn f s ct)):=ae ⟨kl.out.1,kl.out.2.1,kl.out.2.2.1,kl.out.2.2.2.1,kl.out.2.2.2.2.1,kl.out.2.2.2.2.2.1,λe=>(kl.out.2.2.2.2.2.2 e).1⟩;clear kl;skip;have bz:aG wr w.heap.size (dF noH) 45:=Y.blkN bx4'.out qE.out;have g9:=ae (DY xq.out)
     go_wp2_with (first | (refine ay b 1 _ F.rdM _ underlying45 rfl machine_size ?_) | (refine aA rfl _ _ rfl w.heap.size (dF S.H) rfl rfl bz rfl machine_size (jc _) ?_))
     intro wE bE gE;have hE:Hid (tT wE w.heap.size S.H/\Below w.heap.size w wE):=ae ⟨(F.ma.keep bz (by decide) gE).mono (by have:=g9.out;omega),(Im qU.out (xP.out _ _ Y) (by have:=g9.out;omega) (az _)).grown gE (bi (bi (by omega) kM) Y.size) (λk hk=>by cases hk;exact az _)⟩;clear F Y bz;go_wp2;refine bodyPost_ret (v:=.agg (dF S.H)) (fw results17 w.heap.size bE underlying45 machine_size) rfl ?_;obtain⟨q1,q2,q3,q4,q5,q6,q7⟩:=O.out;exact⟨S.H,rfl,hE.out.1,hE.out.2,q1,q2,q3,by rw[kk.out.1];exact q4,by rw[kk.out.2.2];exact q5,q6,λe=>by rw[kk.out.1,kk.out.2.1,kk.out.2.2];exact q7 e⟩
def wT(m:Ma)(f:Int)(n:Nat):List UInt8:=(List.range n).map λj=>(aU m f (j / 8:Nat)).toList.getD (j%8) 0
theorem VC(X:Page)(q:Nat)(a:q<8):(dW X).getD q (.int .u8 0)=zS (X.toList.getD q 0):=by
 rw[cK,Ap X q a,aW,aI (by simpa using a)];simp[zS]
theorem Mc(m:Ma)(f:Int)(n:Nat):xz m f n=(wT m f n).map zS:=by
 unfold xz wT;rw[Ec];exact vS λj _=>VC _ _ (rM _ (by decide))
theorem NM(m:Ma)(f:Int)(n:Nat):(wT m f n).length=n:=by unfold wT;simp
theorem Jl(h:Rt m)(c:f<m.st.fs.length):0<=(aN m.st f).n/\(aN m.st f).n<=(aN m.st f).b.length*8:=by
 have a:=wB h.pt.st _ (bP (xL (s:=m.st) (f:=f) ⟨by omega,by omega⟩));have h2:=a.2.2.1;unfold eY at h2;refine⟨a.1,?_⟩;have:=a.1;split at h2<;>omega
structure KJ (H K:MH) (p n:Int):Prop where
 pg:∀q i:Nat,(eD K.ma q i).1=(eD H.ma q i).1/\(eD K.ma q i).2.2=(eD H.ma q i).2.2/\(¬((q:Int)=p/\(i:Int)=n)->(eD K.ma q i).2.1=(eD H.ma q i).2.1)
 sp:K.sp.length=H.sp.length
 fi:K.fi.length=H.fi.length
 by' : ∀f:Nat,f<H.fi.length->(aN K.ma.st f).n=(aN H.ma.st f).n/\wT K.ma f (aN K.ma.st f).n.toNat=wT H.ma f (aN H.ma.st f).n.toNat
theorem MZ(H K:MH)(p n:Int)(w:World)(h:wI w H)(hk:wI w K)(hR:Rt H.ma)(hK:Rt K.ma)(hl:KJ H K p n) :
  Calls Tryz.prog 23 #[.agg (dF H),.agg (dF K),.int .i64 p,.int .i64 n,.bool true] w λr w'=>r = .returned (.bool true)/\Below w.heap.size w w':=by
 have e:=ae hR;have t:=ae hK;have ha:=ae hl;clear hR hK hl;go_enter func23,ntmps23;go_upto_region 1 with(fail);refine tY (λW=>Code.wp _ _ _ _ W) λw1 hg C D hQ => ?_;have C:aG w1 w.heap.size (dF H) 45:=C;have D:aG w1 (w.heap.size+1) (dF K) 45:=D;have ht:=h.below hg;have hm:=hk.below hg;clear h hk hQ;obtain⟨gm,hd⟩:∃g,w.heap.size=g:=⟨_,rfl⟩;obtain⟨gk,hB⟩:∃g,w.heap.size+1=g:=⟨_,rfl⟩;rw[hB]at D ⊢;rw[hd]at C;have hZ:=ae hd;have h0:=ae hB;rw[hd];clear hB;have hL:=C.cell;unfold dF at hL;go_upto_region 4 with(fail);clear hL;have hP:Hid (H.sp.length<=4):=ae (by have:=e.out.pt.spl;rw[rX]at this;exact this)
 go_loopw [34] (fun k wr => ∃q:Nat,q<=H.sp.length/\k = .int .i64 q/\Below w.heap.size w wr/\aG wr gm (dF H) 45/\aG wr gk (dF K) 45/\wI wr H/\wI wr K) (fun k _=>H.sp.length-(intOf k).toNat)
 case atStart=>exact⟨0,by omega,rfl,hg,C,D,ht,hm⟩
 case round=>
  clear hg C D ht hm hd;obtain⟨q,hq,rfl,b,A,kx,a,c⟩:=hrel;have hG:=hP.out
  by_cases N:q<H.sp.length
  ·have hH:(q:Int)<(H.sp.length:Int):=by omega
   have hS:Hid (q<K.sp.length):=ae (by rw[ha.out.sp];exact N);go_upto_region 7 with(fail)
   go_loopw [37] (fun k wr => ∃i:Nat,i<=64/\k = .int .i64 i/\Below w.heap.size w wr/\aG wr gm (dF H) 45/\aG wr gk (dF K) 45/\wI wr H/\wI wr K) (fun k _=>64-(intOf k).toNat)
   case atStart=>exact⟨0,by omega,rfl,b,A,kx,a,c⟩
   case round=>
    clear b A kx a c;obtain⟨i,hi,rfl,b,A,kx,a,c⟩:=hrel
    by_cases P:i<64
    ·have hV:(i:Int)<64:=by omega
     obtain⟨e1',e2',e3'⟩:=ha.out.pg q i;have e1:=ae e1';have e2:=ae e2';have e3:=ae e3';clear e1' e2' e3'
     go_wp2_with (refine ay gm 0 _ A.rd _ underlying45 rfl machine_size ?_)
     refine(yO H q i _ a e.out N P).mono ?_;rintro r w5 ⟨rfl,s⟩;generalize hX:(eD H.ma q i).1=X at *
     generalize hE:(eD H.ma q i).2.2=E at *
     generalize hO:(eD H.ma q i).2.1=O at *
     have bx5:=A.ext s;have V:=kx.ext s;have hs:=a.below s;have hj:=c.below s;have hy:=ag b s;clear A kx a c b s hX hE hO
     go_wp2_with (refine aJ rfl rfl (dW X) rfl rfl rfl psize (eF _) ?_)
     intro w6 o G;have bx6:=bx5.ext o;have L:=V.ext o;have hr:=hs.below o;have y:=hj.below o;have hx:=ag hy o;clear bx5 V hs hj hy o;generalize w5.heap.size=ga at G
     go_wp2_with (refine ay gk 0 _ L.rd _ underlying45 rfl machine_size ?_)
     refine(yO K q i _ y t.out hS.out P).mono ?_;rintro r w7 ⟨rfl,l⟩;rw[e1.out,e2.out];have bx7:=bx6.ext l;have U:=L.ext l;have S:=G.ext l;have hp:=hr.below l;have hh:=y.below l;have hw:=ag hx l;clear bx6 L G hr y hx l
     go_wp2_with (refine aJ rfl rfl (dW X) rfl rfl rfl psize (eF _) ?_)
     intro w8 j R;have Q:=bx7.ext j;have J:=U.ext j;have px8:=S.ext j;have z:=hp.below j;have x:=hh.below j;have hb:=ag hw j;clear bx7 U S hp hh hw j;generalize w7.heap.size=gb at R;have hY:=XA X X;rw[beq_self_eq_true]at hY;have hU:=px8.cell;have hT:=R.cell;rw[Ai]at hU hT
     by_cases hqp:(q:Int)=p
     ·by_cases hin:(i:Int)=n
      ·generalize (eD K.ma q i).2.1=O2 at *
       cases O<;>cases O2
       all_goals
        go_wp2;go_roundw
        case rel=>exact⟨i+1,by omega,by go_num,hb,Q,J,z,x⟩
        case measure=>simp[intOf];omega
      rw[e3.out (λh=>hin h.2)];go_wp2;go_roundw
      case rel=>exact⟨i+1,by omega,by go_num,hb,Q,J,z,x⟩
      case measure=>simp[intOf];omega
     rw[e3.out (λh=>hqp h.1)];go_wp2;go_roundw
     case rel=>exact⟨i+1,by omega,by go_num,hb,Q,J,z,x⟩
     case measure=>simp[intOf];omega
    have hV:¬(i:Int)<64:=by omega
    clear hi P;go_wp2;go_roundw
    case rel=>exact⟨q+1,by omega,by go_num,b,A,kx,a,c⟩
    case measure=>simp[intOf];omega
  have hH:¬(q:Int)<(H.sp.length:Int):=by omega
  clear hq N hG;have hc:=A.cell;unfold dF at hc;go_upto_region 16 with(fail);clear hc hH
  go_loopw [85] (fun k wr => ∃f:Nat,f<=H.fi.length/\k = .int .i64 f/\Below w.heap.size w wr/\aG wr gm (dF H) 45/\aG wr gk (dF K) 45/\wI wr H/\wI wr K) (fun k _=>H.fi.length-(intOf k).toNat)
  case atStart=>exact⟨0,by omega,rfl,b,A,kx,a,c⟩
  case round=>
   clear b A kx a c;obtain⟨f,hf,rfl,b,A,kx,a,c⟩:=hrel;have h1:H.fi.length<=5:=by have:=(lu e.out.pt.st).1;rwa [show H.ma.st.fs.length=H.fi.length from eQ _]at this
   by_cases F:f<H.fi.length
   ·have hW:(f:Int)<(H.fi.length:Int):=by omega
    have hI:f<H.ma.st.fs.length:=by rw[show H.ma.st.fs.length=H.fi.length from eQ _];exact F
    have hJ:Hid (f<K.fi.length/\f<K.ma.st.fs.length):=ae (by
     have h2:f<K.fi.length:=by rw[ha.out.fi];exact F
     exact⟨h2,by rw[show K.ma.st.fs.length=K.fi.length from eQ _];exact h2⟩)
    have hN:=ae (ha.out.by' f F);have hF:=ae (Jl e.out hI);have hD:=ae (Jl t.out hJ.out.2);clear hI
    go_wp2_with (refine ay gm 0 _ A.rd _ underlying45 rfl machine_size ?_)
    refine(ER H f _ a e.out ⟨(nX e.out).ca,(nX e.out).st.2⟩ e.out.ca.lt F hF.out).mono ?_;rintro r w9 ⟨v,rfl,M,m⟩;rw[Mc]at M;have bx9:=A.ext m;have I:=kx.ext m;have hn:=a.below m;have u:=c.below m;have hu:=ag b m;clear A kx a c b m;obtain⟨a1,c1,rfl,k1,k2,k3,k4⟩:=M.rd;clear M k1 k2 k3
    go_wp2_with (refine ay gk 0 _ I.rd _ underlying45 rfl machine_size ?_)
    refine (ER K f _ u t.out ⟨(nX t.out).ca,(nX t.out).st.2⟩ t.out.ca.lt hJ.out.1 hD.out).mono ?_;rintro r w10 ⟨v,rfl,M,d⟩;rw[Mc,hN.out.2] at M;have bx10:=bx9.ext d;have Y:=I.ext d;have hA:=hn.below d;have hz:=u.below d;have hC:=ag hu d;have Z:=k4.below d;clear bx9 I hn u hu d k4;obtain⟨a2,c2,rfl,k1,k2,k3,k5⟩:=M.rd;clear M k1 k2 k3;have e1:=Fz underlying23 underlying5 c1 Z 9 underlying9;have e2:=Fz underlying23 underlying5 c2 k5 9 underlying9;rw[NM] at e1 e2;rw[hN.out.1];clear Z k5;go_wp2;go_roundw
    case rel=>exact⟨f+1,by omega,by go_num,hC,bx10,Y,hA,hz⟩
    case measure=>simp[intOf];omega
   have hW:¬(f:Int)<(H.fi.length:Int):=by omega
   clear hf F;have hc:=A.cell;have hM:=kx.cell;unfold dF at hc hM;rw[ha.out.sp]at hM;clear A kx;go_wp2;go_ret;exact⟨rfl,b⟩
theorem WY{g:Pg}(U:Rz m m' p n wr g f)(q:Nat)(j:Int):(eD m' q j).1=(eD m q j).1/\(eD m' q j).2.2=(eD m q j).2.2/\(¬(q=p/\j=n)->(eD m' q j).2.1=(eD m q j).2.1):=by
 by_cases e:q=p/\j=n
 ·obtain⟨rfl,rfl⟩:=e;have a:=U.see;have h2:=U.was;rw[a];exact⟨rfl,h2.symm,λh=>absurd ⟨rfl,rfl⟩ h⟩
 rw[U.vis.see q j e];exact⟨rfl,rfl,λ_=>rfl⟩
theorem Qe{g:Pg}(c:Rt m)(U:Rz m m' p n wr g f)(e:k<m.st.fs.length):wT m' k (aN m'.st k).n.toNat=wT m k (aN m.st k).n.toNat:=by
 rw[U.vis.size];obtain⟨h,h2⟩:=Jl c e;unfold wT;refine vS λj d => ?_;have a:=eO.1 d;rw[U.vis.con k ((j / 8:Nat):Int) ⟨⟨by omega,by omega⟩,by omega,by omega⟩]
theorem Et(H:MH):H.ma.st.fs.length=H.fi.length:=eQ _
theorem Tj{g:Pg}(a:Rt H.ma)(U:Rz H.ma K.ma p n wr g f)(o:fI H.ma p n=some g):KJ H K p n:=by
 refine⟨λq i => ?_,?_,?_,λk c => ?_⟩
 ·obtain⟨j,h2,d⟩:=WY U q i;exact⟨j,h2,λh=>d λe=>h ⟨by omega,e.2⟩⟩
 ·rw[<-rX,<-rX];exact U.vis.sk.len
 ·rw[<-Et,<-Et];exact U.vis.files
 ·exact⟨U.vis.size k,Qe a U (by rw[Et];exact c)⟩
theorem wI.frPg(h:wI w H)(d:H.af=some ⟨gf,of,none⟩)(c:f<H.m.fs.length):eu w (some ⟨gf,of+f*13,none⟩) (dW (aB H.ma f).p).toList:=by
 obtain⟨j,i,a,b⟩:=jO eX h.fr.rd f c;rw[d]at a;simp only[jo,rH,and_true]at a;obtain⟨rfl,rfl⟩:=a;have e:aB H.ma f=H.m.fs[f]:=by unfold aB;show H.m.fs.getD f fr0=_;rw[aW,aI c];rfl
 rw[e];exact nJ b 0 8
theorem Px{g:Pg}(U:Rz m m' p n wr g f)(d:fI m p n=some g):(aB m' f).p=(eD m p n).1:=by
 have a : fI m' p n=some g:=by unfold fI at d ⊢; rw[U.vis.sk.ar];exact d
 have e:=nZ a U.k1;have h2:=U.see;rw[e]at h2;have c:=congrArg Prod.fst h2;unfold jw at c;rw[U.en,bv]at c;exact c
theorem Kg{o:Nat}(m:World->Prop)(c:aG w b cur T)(h:∀W,w.grownBy W (some b)->aG W b (cur.setIfInBounds o v) T->m W):m (w.setCell ⟨b,o,none⟩ v):=by
 have a:=aD w b o [v];have h2:aG (w.setCells b o [v]) b (bH cur o [v]) T:=c.setCells [v] o;exact h _ ⟨a.os,a.tape,a.output,a.size,a.block⟩ h2
theorem tT.frPut(h:tT w B H)(z:f<H.m.fs.length) :
  ∃g t cur,H.af=some ⟨g,t,none⟩/\B<=g/\aG w g cur 66/\t+f*13+13<=cur.size/\eu w (some ⟨g,t+f*13,none⟩) (ni (aB H.ma f)) /\
   ∀(o n:Nat) (vs:List Value) (x:Fr) (w' : World),vs.length=n->o+n<=13->ni x=(ni (aB H.ma f)).take o++vs++(ni (aB H.ma f)).drop (o+n)->aG w' g (bH cur (t+f*13+o) vs) 66->w.grownBy w' (some g)->tT w' B { H with m:=⟨H.m.fs.set f x,H.m.hand⟩ }:=by
 have p:H.m.fs[f]=aB H.ma f:=by have:H.m.fs[f]?=some (aB H.ma f):=sQ (m:=H.ma) (f:=f) z;rw[aI z]at this;exact aM this
 obtain⟨g,t,J,cur,C,I,a,i,c⟩:=nP eX rfl h.fr f z;simp only[lU]at C;obtain⟨l,_,s⟩:=C;have e:=h.fr;rw[l]at e;have b:=yY e a;have k:∀j u,(ni (aB H.ma f))[j]?=some u->cur[t+f*13+j]?=some u:=λj u A=>by rw[ng];exact b _ _ (flat_get ni 13 eX H.m.fs f z j u (by rw[p];exact A))
 refine⟨g,t,cur,l,I,a,i,λj u A=>⟨g,_,rfl,by rw[a.cell];exact k j u A⟩,λo n vs x w' F L E G y => ?_⟩;have r:aG w' g (bH cur (t+f*13) (ni x)) 66:=by
  have M:=eX (aB H.ma f);generalize ni (aB H.ma f)=ys at *
  generalize ni x=xs at *
  rw[zJ cur (t+f*13) o n ys xs vs k E F (by omega) (by omega)];exact G
 have d:(H.m.fs.set f x).length=H.m.fs.length:=bI;refine⟨?_,ax h.sl a y,h.sw.keep a (by decide) (by decide) y,h.dk.keep a (by decide) (by decide) y,h.st.keep a (by decide) (by decide) y,ax h.ca a y,ax h.sp a y,λq D=>⟨ax (h.ps q D).1 a y,(h.ps q D).2.keep a (by decide) y⟩,h.c64⟩;simp only[d];exact c w' _ r
theorem tT.putB(h:tT w B H)(s:f<H.m.fs.length)(i:Nat)(y:i<8)(b:UInt8) :
  ∃g o cur,H.af=some ⟨g,o,none⟩/\B<=g/\aG w g cur 66/\o+f*13+13<=cur.size /\
   ∀w' : World,aG w' g (cur.setIfInBounds (o+f*13+i) (.int .u8 b.toNat)) 66->w.grownBy w' (some g)->tT w' B { H with m:=⟨H.m.fs.set f { aB H.ma f with p:=(aB H.ma f).p.set i b },H.m.hand⟩ }:=by
 obtain⟨g,o,cur,j,u,d,c,_,a⟩:=h.frPut s;refine⟨g,o,cur,j,u,d,c,λw' t q => ?_⟩;refine a i 1 [.int .u8 b.toNat] _ w' rfl (by omega) ?_ t q;have e : i=0\/i=1\/i=2\/i=3\/i=4\/i=5\/i=6\/i=7:=by omega
 rcases e with rfl|rfl|rfl|rfl|rfl|rfl|rfl|rfl<;>simp[ni,tV]
theorem tT.putPg(h:tT w B H)(j:f<H.m.fs.length)(X:Page) :
  ∃g e cur,H.af=some ⟨g,e,none⟩/\B<=g/\aG w g cur 66/\e+f*13+13<=cur.size /\
   ∀w' : World,aG w' g (bH cur (e+f*13) (dW X).toList) 66->w.grownBy w' (some g)->tT w' B { H with m:=⟨H.m.fs.set f { aB H.ma f with p:=X },H.m.hand⟩ }:=by
 obtain⟨g,e,cur,d,q,c,b,_,a⟩:=h.frPut j;refine⟨g,e,cur,d,q,c,b,λw' o i => ?_⟩;exact a 0 8 (dW X).toList _ w' rfl (by omega) rfl o i
theorem Kt(H:MH)(f:Nat)(x:Fr):MH.ma { H with m:=⟨H.m.fs.set f x,H.m.hand⟩ }=setFr H.ma f x:=rfl
theorem Ny(a:f<m.m.fs.length)(A:Page):setFr (setFr m f { aB m f with p:=A }) f { aB (setFr m f { aB m f with p:=A }) f with p:=(aB m f).p }=m:=by
 have c:=gB (x:={ aB m f with p:=A }) a f;rw[if_pos rfl]at c;rw[c];have h2:m.m.fs.set f (aB m f)=m.m.fs:=by
  apply oG;intro i;rw[nE]
  by_cases e:f=i
  ·subst e;rw[if_pos rfl,if_pos a,sQ a]
  ·rw[if_neg e]
 show{ m with m:={ m.m with fs:=(m.m.fs.set f _).set f (aB m f) } }=m;rw[Bj,h2]
theorem KJ.ma{L:MH}{p:Int}(h:KJ H K p n)(e:L.ma=K.ma):KJ H L p n:=by
 refine⟨λq i=>by rw[e];exact h.pg q i,?_,?_,λf a=>by rw[e];exact h.by' f a⟩
 ·rw[<-rX,e,rX];exact h.sp
 ·rw[<-Et,e,Et];exact h.fi
def Yq(M:Ma):mP:=⟨λv w => ∃K:MH,v = .agg (dF K)/\wI w K/\K.ma=M,λ_ _ _ hb ⟨K,h1,h2,h3⟩=>⟨K,h1,h2.below hb,h3⟩⟩
theorem byte_u8:(Tryz.prog.info? 5).map (·.size)=some 1:=by kernel_rfl
theorem Xb(a b c d:Bool)(x y:Int)(W:World):(Instr.field 80 (.agg #[.bool a,.bool b,.bool c,.bool d,.int .i64 x,.int .i64 y]) 3).run Tryz.prog W = .ok (.bool d) W:=by
 simp[Instr.field,go_sem];rfl
theorem new29:zn (Gh 2 40) (Gh 2 60) (Gh 2 80)=⟨Oj 2,Pq 2,EZ 2,EZ 2,⟨[],2⟩,[],[⟨true,[],zTb⟩]⟩:=by
 have e:Gh 2 40=2/\Gh 2 60=2/\Gh 2 80=2:=by decide
 rw[e.1,e.2.1,e.2.2];rfl
theorem tT.putA(h:tT w B H){P:PS}(z:H.sp[p]?=some P) :
  ∃g s cur,H.ap=some ⟨g,s,none⟩/\B<=g/\aG w g cur 76/\s+p*10+10<=cur.size /\
   ∀(w' : World) (a:Option Addr) (c:Nat) (l:List Ar),Own w B 94 7 (.slice a l.length c) l.length (l.flatMap mV)->aG w' g (bH cur (s+p*10+1) [.slice a l.length c]) 76->w.grownBy w' (some g) ->
    tT w' B { H with sp:=H.sp.set p { P with aa:=a,ac:=c,ar:=l } }:=by
 have C:=(bZ.1 z).1;obtain⟨g,s,J,cur,A,I,b,r,d⟩:=nP oU rfl h.sp p C;simp only[lU]at A;obtain⟨k,_,_⟩:=A;obtain⟨bs,L,Q,i,D,m⟩:=qN h.rd.sp.rd p C;rw[z]at D;cases D;rw[k]at i;cases i;have o:∀j u,(ug P)[j]?=some u->cur[s+p*10+j]?=some u:=λj u F=>by obtain⟨N,M,e',n⟩:=m j u F;cases e';rw[<-b.cell];exact n
 have e:=bP z;refine⟨g,s,cur,k,I,b,by omega,λw' a c l E G t => ?_⟩;have f:(H.sp.set p { P with aa:=a,ac:=c,ar:=l }).length=H.sp.length:=bI;refine⟨ax h.fr b t,ax h.sl b t,h.sw.keep b (by decide) (by decide) t,h.dk.keep b (by decide) (by decide) t,h.st.keep b (by decide) (by decide) t,ax h.ca b t,?_,λq y => ?_,h.c64⟩
 ·simp only[f];refine d w' _ ?_;rw[zJ cur (s+p*10) 1 1 (ug P) (ug { P with aa:=a,ac:=c,ar:=l }) [.slice a l.length c] o rfl rfl (by rw[oU];decide) (by rw[oU];omega)];exact G
 rcases lS y with y|rfl
 ·exact⟨ax (h.ps q y).1 b t,(h.ps q y).2.keep b (by decide) t⟩
 ·exact⟨ax E b t,(h.ps P e).2.keep b (by decide) t⟩
theorem Tv{P:PS}(d:H.sp[p]?=some P)(a:Option Addr)(c:Nat)(l:List Ar):MH.ma { H with sp:=H.sp.set p { P with aa:=a,ac:=c,ar:=l } }=xh H.ma p l:=by
 rw[UM];unfold Uo xh;rw[qa d];rfl
def ar9:Ar:=⟨3,5,true,true,false,-1,0⟩
theorem Ye(d:m=⟨Oj 2,Pq 2,EZ 2,EZ 2,⟨[],2⟩,[],[⟨true,[],zTb⟩]⟩)(c:VE m):VE (xh m 0 [ar9]):=by
 have h:0<m.sp.length:=by rw[d];decide
 have i:(bQ [ar9]).1=0:=by kernel_rfl
 have s:∀n,fI m 0 n=none:=λn=>by rw[d];rfl
 obtain⟨o,h2⟩:=Tg c.rt c.co h (by rw[d];rfl) i (λn j=>by obtain⟨g,a,_⟩:=c.rt.en 0 n j;rw[s]at a;cases a);refine⟨o,h2,λq n g a => ?_⟩;rw[Cm h]at a
 by_cases e:q=0
 ·rw[if_pos e,dw]at a;split at a
  ·cases a;show(-1:Int)<(m.st.fs.length:Int);omega
  ·cases a
 rw[if_neg e]at a;exact c.fi q n g a
theorem Vq{x:Ar}(c:aG w g (kH x) 94)(a:B<=g):Own w B 94 7 (.slice (some ⟨g,0,none⟩) 1 1) 1 ([x].flatMap mV):=by
 refine⟨rfl,.inr ⟨g,0,1,kH x,rfl,a,c,az _,by decide,?_,λj u h => ?_⟩⟩
 ·show 0+1*7<=7;decide
 rw[eB,<-uQ];simpa[mV]using h
theorem WO(w:World):Calls Tryz.prog 16 #[] w λr w'=>r = .returned (.bool true)/\Below w.heap.size w w':=by
 go_enter func16,ntmps16
 go_wp2_with fail
 refine(EP 2 2 2 none 0 [] w ⟨az _,by decide,λ_=>rfl,λi u h=>(by simp at h)⟩).mono ?_;rintro r w1 ⟨H,rfl,ho,hZ,h3,h5,h4,_,_,_,hv⟩;have j:H.ma=⟨Oj 2,Pq 2,EZ 2,EZ 2,⟨[],2⟩,[],[⟨true,[],zTb⟩]⟩:=(hv rfl).trans new29;have h9:=ae (Ye j (Sw h3 h5 h4));have l:H.sp.length=1:=by rw[<-rX,j];rfl
 have y:Hid (zC H.m.fs=2/\H.m.fs.length=2/\(dI H.ma 0).lv=true):=ae (by
  have e1:zC H.ma.m.fs=2:=by rw[j];rfl
  have e2:H.ma.m.fs.length=2:=by rw[j];rfl
  exact⟨e1,e2,by rw[j];rfl⟩)
 obtain⟨P,hP⟩:∃P,H.sp[0]?=some P:=⟨_,aI (by rw[l];decide)⟩;have Z:=ae hP;have d:=ae l;clear hv j h3 h5 h4
 go_wp2_with (refine aJ rfl rfl (dF H) rfl rfl rfl machine_size (jc _) ?_)
 intro J hL E;have hF:=ho.below hL;have s:=ag hZ hL;clear ho hZ hL;generalize w1.heap.size=gm at E;obtain⟨gs,os,cur,hf,X,a,p,_⟩:=hF.putA hP;clear hP;have hR:0<H.sp.length:=by rw[l];decide
 have hh:=(Below.refl J.heap.size J).alloc (az _) (.cells #[.int .i64 3,.int .i64 5,.bool true,.bool true,.bool false,.int .i64 (-1),.int .i64 0] 94);have hD:=hF.below hh;have I:=E.ext hh;have q:=ag s hh;have hA:=aG.new J #[.int .i64 3,.int .i64 5,.bool true,.bool true,.bool false,.int .i64 (-1),.int .i64 0] 94;have hJ:w.heap.size<=J.heap.size:=s.size;generalize hgo:J.heap.size=gA at hA hJ;clear a p X;obtain⟨gs2,os2,cur,v,X,a,p,hn⟩:=hD.putA Z.out;rw[hf]at v;simp only[jo,rH,and_true]at v;obtain⟨rfl,rfl⟩:=v;have hV:(J.alloc (.cells #[.int .i64 3,.int .i64 5,.bool true,.bool true,.bool false,.int .i64 (-1),.int .i64 0] 94)).cell? ⟨gs,os+1,none⟩=some (.slice P.aa P.ar.length P.ac):=by obtain⟨b',o',Q,h2,hQ,h8⟩:=qN hD.rd.sp.rd 0 hR;rw[Z.out]at hQ;cases hQ;rw[hf]at h2;cases h2;obtain⟨b',o',e',z⟩:=h8 1 _ rfl;cases e';simpa using z
 have hK:=a.free;have L:=E.cell;unfold dF at L;rw[hf,l]at L;clear l;go_upto_region 3 with(fail);refine Kg (λW=>Code.wp _ _ _ _ W) a λw5 x hY => ?_;have hE:=hn w5 (some ⟨gA,0,none⟩) 1 [ar9] (Vq hA hJ) (by simp only[vR,iK];exact hY) x;have D:=I.grown x (λe=>by have:=aM e;subst this;exact sJ I a);have hz:=q.grown x q.size (λk hk=>by cases hk;exact X);clear hV hK L hh hD I q hgo;have b:=Tv Z.out (some ⟨gA,0,none⟩) 1 [ar9];have hI:dF { H with sp:=H.sp.set 0 { P with aa:=some ⟨gA,0,none⟩,ac:=1,ar:=[ar9] } }=dF H:=by unfold dF;simp only[bI]
 have hm:(H.sp.set 0 { P with aa:=some ⟨gA,0,none⟩,ac:=1,ar:=[ar9] }).length=1:=by rw[bI];exact d.out
 clear E s hF hf X a p hn hY x hA hJ hR;obtain⟨C,Y⟩:∃C:MH,C = { H with sp:=H.sp.set 0 { P with aa:=some ⟨gA,0,none⟩,ac:=1,ar:=[ar9] } }:=⟨_,rfl⟩;have h6:C.sp.length=1:=by rw[Y];exact hm
 have h7:C.m=H.m:=by rw[Y]
 rw[<-Y]at hE b hI;rw[<-hI]at D;have hG:=ae (show VE C.ma by rw[b];exact h9.out);have hS:Hid (zC C.m.fs=2/\C.m.fs.length=2):=ae (by rw[h7];exact⟨y.out.1,y.out.2.1⟩);have kb:Hid ((dI C.ma 0).lv=true):=ae (by rw[b,yN (by rw[rX,d.out];decide)];exact y.out.2.2);have o:Hid (∀n,fI C.ma 0 n=onA [ar9] n):=ae (λn=>by rw[b,Cm (by rw[rX,d.out];decide),if_pos rfl]);have ka:Hid (¬Rp C 0):=ae (by
  rintro(e|e|e)
  ·exact absurd e (by decide)
  ·rw[h6]at e;exact absurd e (by decide)
  ·exact absurd (kb.out.symm.trans e) (by decide))
 have hB:=hE.rd;clear hI b Y hm h7 hE y h9 Z d
 go_wp2_with (refine ay gm 0 _ D.rd _ underlying45 rfl machine_size ?_)
 refine(ED C 0 4 true _ hB hG.out).mono ?_;rintro r w6 ⟨hd,c⟩;have hO:=hB.below hd;have V:=D.ext hd;have hy:=ag hz hd;clear hB D hz hd;rcases c with⟨e,_,_,O⟩|⟨P0,K,f,g,e0,_,_,G,_,rfl,R,S,hU⟩
 ·exfalso;have kh:=SQ hG.out O (by have:=hS.out.1;omega);rcases O with⟨_,h|h⟩|⟨_,g,G,h⟩
  ·exact ka.out h
  ·have A:=(o.out 4).symm.trans h;exact absurd A (by decide)
  have A : onA [ar9] 4=some g:=(o.out 4).symm.trans G;have kc:g=⟨true,true,false,-1,0⟩:=by
   have:onA [ar9] 4=some ⟨true,true,false,-1,0⟩:=by rfl
   rw[this]at A;exact(aM A).symm
  subst kc;rcases h with⟨_,h⟩|⟨_,⟨_,h,_⟩|⟨h,_⟩⟩
  ·exact absurd h (by decide)
  ·exact absurd h (by decide)
  ·exact kh h
 obtain rfl:P0=0:=by omega
 have hM:g.sh=false:=by
  have A : onA [ar9] 4=some g:=(o.out 4).symm.trans G;have:onA [ar9] 4=some ⟨true,true,false,-1,0⟩:=by rfl
  rw[this]at A;rw[<-aM A]
 obtain⟨_,ht⟩:=OP hU G hM;have hC:=ae ht;have kf:=ae hU.rt;have kg:K.m.fs.length=2:=by have:=hU.len;exact this.trans hS.out.2
 have hs:=R.rd;clear G hU R e0 hM ht
 go_wp2_with (refine aJ rfl rfl (dF K) rfl rfl rfl machine_size (jc _) ?_)
 intro w7 t F;have hN:=hO.below t;have hr:=hs.below t;have U:=V.ext t;have hx:=ag hy t;clear hO hs V hy t;generalize w6.heap.size=gk at F
 go_wp2_with (refine ay gm 0 _ U.rd _ underlying45 rfl machine_size ?_)
 refine(ED C 0 5 true _ hN hG.out).mono ?_;rintro r w8 ⟨hb,c⟩;have hq:=hr.below hb;have N:=F.ext hb;have hw:=ag hx hb;clear hN hr U F hx hb;have hH:onA [ar9] 5=none:=by rfl
 rcases c with⟨e,rfl,_,O⟩|⟨P1,_,_,g1,e1,_,_,hg1,_⟩
 rotate_left
 ·exfalso;obtain rfl:P1=0:=by omega
  have A:=(o.out 5).symm.trans hg1;rw[hH]at A;cases A
 have kd:e=5:=by
  rcases O with⟨h,_⟩|⟨_,g,G,_⟩
  ·exact h
  have A : onA [ar9] 5=some g:=(o.out 5).symm.trans G;rw[hH]at A;cases A
 subst kd;clear O hH
 go_wp2_with (refine aJ rfl rfl (dF noH) rfl rfl rfl machine_size (jc _) ?_)
 intro w9 ha zx9;have hp:=hq.below ha;have M:=N.ext ha;have hX:=ag hw ha;clear hq N hw ha zx9;obtain⟨gf,of,h0,hT⟩:=jO eX hp.fr.rd f S;have hV:w9.cell? ⟨gf,of+f*13+8,none⟩=some (.int .i64 1):=by
  have e:aB K.ma f=K.m.fs[f]:=by unfold aB;show K.m.fs.getD f fr0=_;rw[aW,aI S];rfl
  have h1:=hC.out;rw[e]at h1;obtain⟨b',o',e',z⟩:=hT 8 _ rfl;cases e';rw[h1]at z;exact z
 have ki:(f:Int)<2:=by omega
 have L:=M.cell;unfold dF at L;rw[h0,kg]at L;clear hT h0
 go_wp2_with (refine ay gk 0 _ M.rd _ underlying45 rfl machine_size ?_)
 refine(zy K _ hp kf.out).mono ?_;rintro r wa ⟨rfl,ke⟩;have hW:=ag hX ke;go_wp2;go_ret;exact⟨rfl,hW⟩
theorem PW(K H:MH)(P N f:Nat)(w:World)(R:wI w K)(hm:wI w H)(hK:Rt K.ma)(hR:Rt H.ma)(hp:P<K.sp.length)(hph:P<H.sp.length)(hN:N<64)(hen:(ent K.ma P N).n=f)(hfl:f<K.m.fs.length) :
  Calls Tryz.prog 26 #[.agg (dF K),.int .i64 P,.int .i64 N,.agg (dF H)] w λr w' => ∃K' : MH,r = .returned (.agg (dF K'))/\tT w' w.heap.size K'/\K'.ma=setFr K.ma f { aB K.ma f with p:=(eD H.ma P N).1 }/\Below w.heap.size w w':=by
 have hI:=ae hK;have h0:=ae hR;have hd:=ae hen;have hr:=ae hph;have hT:=ae hm;clear hK hR hen hph;go_enter func26,ntmps26;go_upto_region 1 with(fail);refine Kz (λW=>Code.wp _ _ _ _ W) λw1 x C F D hL => ?_;have C:aG w1 w.heap.size (dF K) 45:=C;have F:aG w1 (w.heap.size+1) (dF H) 45:=F;have D:aG w1 (w.heap.size+2) (dF noH) 45:=D;have hz:=R.below x;have hy:=hm.below x;clear R hm hL
 go_wp2_with (refine ay w.heap.size 0 _ C.rd _ underlying45 rfl machine_size ?_)
 refine(wN K _ hz (nX hI.out)).mono ?_;rintro r w2 ⟨A,rfl,z,ha,_,d⟩;have g:=ae ha;have hB:f<A.m.fs.length:=by
  have:A.ma.m.fs.length=K.ma.m.fs.length:=by rw[ha]
  exact this▸hfl
 have hO:P<A.sp.length:=by rw[IC (show A.ma.sp.length=K.ma.sp.length by rw[ha])];exact hp
 have h:=C.ext d;have mx2:=F.ext d;have rx2:=D.ext d;have hV:=hy.below d;have s:=ag x d;have z:=z.mono x.size;clear C F D hz hy x d ha
 go_wp2_with (refine aA rfl _ _ rfl w.heap.size (dF A) rfl rfl h rfl mach_size (jc _) ?_)
 intro w3 kx3 l;have mx3:=mx2.grown l (λe=>by have:=aM e;omega);have Z:=rx2.grown l (λe=>by have:=aM e;omega);have q:=s.grown l s.size (λk R=>by cases R;exact az _);have hw:wI w3 H:=hT.out.below q;have hv:=z.keep h (by decide) l;clear h mx2 rx2 hV s z l
 go_wp2_with (refine ay (w.heap.size+1) 0 _ mx3.rd _ underlying45 rfl machine_size ?_)
 refine(yO H P N _ hw h0.out hr.out hN).mono ?_;rintro r w4 ⟨rfl,u⟩;obtain⟨X,hX⟩:∃X,(eD H.ma P N).1=X:=⟨_,rfl⟩;rw[hX];have hZ:=ae hX;clear hX;have kx4:=kx3.ext u;have Y:=Z.ext u;have hu:=hv.below u;have hi:=ag q u;clear kx3 mx3 Z hw u q hv
 go_wp2_with (refine aJ rfl rfl (dW X) rfl rfl rfl psize (eF _) ?_)
 intro w5 t J;have L:=kx4.ext t;have V:=Y.ext t;have y:=hu.below t;have hh:=ag hi t;clear kx4 Y t hi hu;generalize w4.heap.size=gp at J;have hM:(P:Int)<(A.sp.length:Int):=by omega
 obtain⟨bs,os,Q,hG,hQ,hq⟩:=qN y.rd.sp.rd P hO;have i:=qF y.rd hQ;have hl:Q.sp∈A.ma.sp:=by show Q.sp∈A.sp.map PS.sp;exact iA.2 ⟨Q,bP hQ,rfl⟩
 have hJ:Hid (dA Q.tb=0):=ae (hI.out.pt.tb Q.sp (by rw[<-g.out];exact hl));have hj:=ae (qa hQ);have hn:=nJ hq 2 8;have M:=L.cell;unfold dF at M;rw[hG]at M
 go_wp2_with (refine ay bs (os+P*10+2) _ hn _ underlying74 tab_agg tab_size ?_)
 refine(yz Q.tb (nT Q.ts) _ i.tb hJ.out).mono ?_;rintro r w6 ⟨rfl,c⟩;rw[DN (vz Q.tb)];have hE:(dC Q.tb).getD N zEn=ent K.ma P N:=by rw[Oe hN,<-g.out];unfold ent;rw[hj.out];rfl
 generalize hEn:ent K.ma P N=E at hE hd;have hW:=Ba (dC Q.tb) N hN E hE;have kx6:=L.ext c;have U:=V.ext c;have px6:=J.ext c;have ht:=y.below c;have hg:=ag hh c;clear M hn hq i hl hE L V J c hh y hG hQ hj hEn hM
 go_wp2_with (refine aJ rfl rfl (jm E) rfl rfl rfl entry_size (by simp[jm,Value.oneCell']) ?_)
 intro w7 b O;have G:=kx6.ext b;have I:=U.ext b;have px7:=px6.ext b;have hs:=ht.below b;have o:=ag hg b;clear hW kx6 U px6 b hg ht;generalize w6.heap.size=ge at O;obtain⟨gf,of,cur,hH,h1,a,hC,hb⟩:=hs.putPg hB X;have hx:=O.cell;unfold jm at hx;rw[hd.out]at hx;have M:=G.cell;unfold dF at M;rw[hH]at M;have hY:(f:Int)<(A.m.fs.length:Int):=by omega
 go_wp2_with (first | (refine ay gp 0 _ px7.rd _ underlying58 rfl psize ?_) | (refine gD rfl _ _ _ rfl gf (of+f*13) (dW X) rfl rfl _ _ a (by show of+f*13+8<=_;omega) psize (eF _) ?_))
 intro w8 hF j;have hS:=hb w8 hF j;have kx8:=G.grown j (λe=>by have:=aM e;subst this;exact sJ G a);have S:=I.grown j (λe=>by have:=aM e;subst this;exact sJ I a);have hf:=o.grown j o.size (λk R=>by cases R;exact h1);clear hx M hY hH a hb hF j G I px7 O hs o hC;have hU:dF { A with m:=⟨A.m.fs.set f { aB A.ma f with p:=X },A.m.hand⟩ }=dF A:=by unfold dF;simp only[bI]
 go_wp2_with (first | (refine ay w.heap.size 0 _ kx8.rd _ underlying45 rfl machine_size ?_) | (refine aA rfl _ _ rfl (w.heap.size+2) (dF A) rfl rfl S rfl mach_size (jc _) ?_))
 intro w9 rx9 hA;have hD:=hf.grown hA hf.size oG0;have hP:=hS.keep S (by decide) hA;go_wp2;refine bodyPost_ret (v:=.agg (dF A)) (fw results26 (w.heap.size+2) rx9 underlying45 mach_size) rfl ?_;refine⟨{ A with m:=⟨A.m.fs.set f { aB A.ma f with p:=X },A.m.hand⟩ },by rw[hU],hP,?_,hD⟩;rw[Kt,g.out,hZ.out]
theorem Ko(cf cs cb:Int)(l:List UInt8)(p n:Int)(b:UInt8)(al:Option Addr)(cl:Nat)(w:World)(hr:vG w al cl l.length (l.map zS)) :
  Calls Tryz.prog 7 #[.agg #[.int .i64 cf,.int .i64 cs,.int .i64 cb],.slice al l.length cl,.int .i64 p,.int .i64 n,.int .u8 b.toNat] w λr w'=>r = .returned (.bool true)/\Below w.heap.size w w':=by
 go_enter func7,ntmps7;go_upto_region 1 with(fail);refine iC (λW=>Code.wp _ _ _ _ W) λw1 h9 cx1 hT => ?_;have kn:=hr.below h9;clear hr
 go_wp2_with fail
 refine(WO w1).mono ?_;rintro r w2 ⟨rfl,hA⟩;have km:=kn.below hA;have cx2:=cx1.ext hA;have hO:=ag h9 hA;clear kn cx1 h9 hA hT;have kZ:=cx2.cell
 go_wp2_with fail
 refine(EP cf cs cb al cl l w2 km).mono ?_;rintro r w3 ⟨H,rfl,ho,kD,kF,kJ,kI,_,_,_,_⟩;have hM:=ag hO kD;have hE:=ho.rd;have hG:=ae (Sw kF kJ kI);clear km cx2 kZ hO kD ho kF kJ kI
 go_wp2_with (refine aJ rfl rfl (dF H) rfl rfl rfl machine_size (jc _) ?_)
 intro w4 h8 O;have hi:=hE.below h8;have hL:=ag hM h8;clear hE hM h8;generalize w3.heap.size=gm at O
 go_wp2_with (refine ay gm 0 _ O.rd _ underlying45 rfl machine_size ?_)
 refine(ED H p n true _ hi hG.out).mono ?_;rintro r w5 ⟨hz,h4⟩;have t:=hi.below hz;have M:=O.ext hz;have h:=ag hL hz;clear hi O hL hz;rcases h4 with⟨e,rfl,he,_⟩|⟨P,K,f,g,rfl,X,_,hg,_,rfl,hoK,U,hU⟩
 ·clear M t
  go_wp2_with (refine aJ rfl rfl (dF noH) rfl rfl rfl machine_size (jc _) ?_)
  intro w6 c J;have z:=ag h c;clear h c J;go_wp2;go_ret;exact⟨rfl,z⟩
 have kx:=hG.out.rt.pt.pg hg;obtain⟨N,rfl⟩:∃N:Nat,n=N:=⟨n.toNat,by omega⟩;have hN:N<64:=by omega
 have kw:=ae (Tj hG.out.rt hU hg);have a:=ae hU;have hy:=ae hg;have k2:Hid (P<K.sp.length):=ae (by rw[kw.out.sp];exact X);have hH:=hoK.rd;clear kx hU hoK
 go_wp2_with (refine aJ rfl rfl (dF K) rfl rfl rfl machine_size (jc _) ?_)
 intro w6 c J;have s:=t.below c;have hD:=hH.below c;have bx6:=M.ext c;have z:=ag h c;have hY:Hid (gm<w5.heap.size/\w.heap.size<=w5.heap.size):=ae ⟨M.lt,h.size⟩;have h5:=ae t;have kM:=c;clear t hH M h c;have kP:(P:Int)<(H.sp.length:Int):=by omega
 obtain⟨bs,os,Q,kE,hQ,kl⟩:=qN s.sp.rd P X;have hl:=qF s hQ;have ki:Q.sp∈H.ma.sp:=by show Q.sp∈H.sp.map PS.sp;exact iA.2 ⟨Q,bP hQ,rfl⟩
 have kb:(bQ Q.ar).1=0:=hG.out.rt.pt.ar Q.sp ki;have kh:=ae (qa hQ);have hT:w6.cell? ⟨bs,os+P*10+1,none⟩=some (.slice Q.aa Q.ar.length Q.ac):=by obtain⟨b',o',e,L⟩:=kl 1 _ rfl;cases e;exact L
 have L:=bx6.cell;unfold dF at L;rw[kE]at L;obtain⟨ka,hP⟩:=sK kb
 go_wp2_with fail
 refine(pR Q.ar Q.aa Q.ac _ hl.ars.rd (by omega) hP).mono ?_;rintro r w7 ⟨rfl,q⟩;have kp:dm Q.ar N=some g:=by rw[oN (lK (iX.1 kb).2),<-hg];unfold fI;rw[kh.out];rfl
 have hX:∀W,(Instr.index 81 (.agg (fC (dm Q.ar))) (.int .i64 N)).run Tryz.prog W = .ok (.agg #[.bool true,.bool g.rd,.bool g.wr,.bool g.sh,.int .i64 g.fi,.int .i64 g.pg]) W:=yR (dm Q.ar) N hN (some g) kp;have kk:=s.below q;have hC:=hD.below q;have bx7:=bx6.ext q;have R:=J.ext q;have hs:=ag z q;have kg:=ag kM q;clear L hT kl hl ki kb ka hP kp s hD bx6 J z q kE hQ kh hg kP;have h3:=Xb true g.rd g.wr g.sh g.fi g.pg;cases hsh:g.sh with
 | true=>
  rw[hsh]at hX h3;go_wp2;go_ret;exact⟨rfl,hs⟩
 | false=>
 rw[hsh]at hX h3;obtain⟨h0,h1⟩:=OP a.out hy.out hsh;have hF:=ae h0;clear h0 h1;go_upto_region 7 with(fail);clear hX h3
 go_wp2_with (refine ay w5.heap.size 0 _ R.rd _ underlying45 rfl machine_size ?_)
 refine(wN K _ hC (nX a.out.rt)).mono ?_;rintro r w8 ⟨A,rfl,kt,hx,_,ht⟩;have kv:=ae hx;have u:f<A.m.fs.length:=by
  have:A.ma.m.fs.length=K.ma.m.fs.length:=by rw[hx]
  exact this▸U
 have kQ:Hid (P<A.sp.length):=ae (by rw[IC (show A.ma.sp.length=K.ma.sp.length by rw[hx])];exact k2.out);have hj:=R.ext ht;have bx8:=bx7.ext ht;have hq:=ag hs ht;have kf:=ag kg ht;have ks:=kt.mono kg.size;clear R bx7 kk hC hs kM kg ht hx kt
 go_wp2_with (refine aA rfl _ _ rfl w5.heap.size (dF A) rfl rfl hj rfl mach_size (jc _) ?_)
 intro w9 I hm;have Z:=bx8.grown hm (λe=>by have:=aM e;have:=hY.out.1;omega);have hp:=hq.grown hm hq.size (λk S=>by cases S;exact hY.out.2);have ke:=kf.grown hm kf.size (λk S=>by cases S;exact az _);have hV:=ks.keep hj (by decide) hm;clear hj bx8 hq kf ks hm;obtain⟨gf,of,cur,kc,kd,j,kz,hB⟩:=hV.putB u 0 (by decide) b;have kY:w9.cell? ⟨gf,of+f*13,none⟩=some (.int .u8 (aB A.ma f).p[0].toNat):=by obtain⟨b',o',e',k0⟩:=hV.rd.frPg kc u 0 (.int .u8 (aB A.ma f).p[0].toNat) rfl;cases e';exact k0
 have kW:(f:Int)<(A.m.fs.length:Int):=by omega
 have L:=I.cell;unfold dF at L;rw[kc]at L;have hZ:=j.free;go_upto_region 9 with(fail);refine Kg (λW=>Code.wp _ _ _ _ W) j λwa ha kB => ?_;have hv:=hB wa kB ha;have G:=I.grown ha (λe=>by have:=aM e;subst this;exact sJ I j);have bxa:=Z.grown ha (λe=>by have:=aM e;subst this;exact sJ Z j);have hK:=hp.grown ha hp.size (λk S=>by cases S;exact bi hY.out.2 kd);have kL:=ke.grown ha ke.size (λk S=>by cases S;exact kd);clear L kY kW hZ kc kd j kz hB kB ha I Z hp ke hV;have hW:dF { A with m:=⟨A.m.fs.set f { aB A.ma f with p:=(aB A.ma f).p.set 0 b },A.m.hand⟩ }=dF A:=by unfold dF;simp only[bI]
 obtain⟨C,hu⟩:∃C:MH,C = { A with m:=⟨A.m.fs.set f { aB A.ma f with p:=(aB A.ma f).p.set 0 b },A.m.hand⟩ }:=⟨_,rfl⟩;have d:Hid (C.ma=setFr K.ma f { aB K.ma f with p:=(aB K.ma f).p.set 0 b }):=ae (by rw[hu,Kt,kv.out]);have ko:Hid (P<C.sp.length):=ae (by rw[hu];exact kQ.out);have kX:Hid (f<C.m.fs.length):=ae (by rw[hu];simpa using u);rw[<-hu]at hW hv;rw[<-hW]at G;clear hu hW u;obtain⟨r4,_,_,_⟩:=UT (P:=(aB K.ma f).p.set 0 b) a.out.rt a.out.co a.out.k1 a.out.en (a.out.ew rfl) hF.out;have kG:Hid (Rt C.ma):=ae (by rw[d.out];exact r4);clear r4;have hI:Hid ((ent C.ma P N).n=f):=ae (by rw[d.out];exact a.out.en);have kj:Hid (eD C.ma P N=((aB K.ma f).p.set 0 b,true,0)):=ae (by
  have kV:fI C.ma P N=some g:=by have h2:=hy.out;unfold fI at h2 ⊢;rw[d.out,show(dI (setFr K.ma f { aB K.ma f with p:=(aB K.ma f).p.set 0 b }) P).ar=(dI K.ma P).ar from rfl,a.out.vis.sk.ar];exact h2
  have kU:(ent C.ma P N).k=1:=by rw[d.out];exact a.out.k1
  have ky:=gB (x:={ aB K.ma f with p:=(aB K.ma f).p.set 0 b }) (show f<K.ma.m.fs.length from U) f;rw[if_pos rfl]at ky;rw[nZ kV kU,hI.out,ve,d.out,ky];show((aB K.ma f).p.set 0 b,decide ((aB K.ma f).f<0),(0:Int))=_;rw[decide_eq_true hF.out])
 have h6:Hid (setFr C.ma f { aB C.ma f with p:=(eD H.ma P N).1 }=K.ma):=ae (by rw[<-Px a.out hy.out,d.out];exact Ny U _);have kH:Hid ((dW ((aB K.ma f).p.set 0 b))[0]?=some (.int .u8 b.toNat)):=ae (by simp[dW]);generalize (aB K.ma f).p.set 0 b=Y at kj kH d;clear d hy
 go_wp2_with (refine ay w5.heap.size 0 _ G.rd _ underlying45 rfl machine_size ?_)
 refine(yO C P N _ hv.rd kG.out ko.out hN).mono ?_;rintro r wb ⟨rfl,hh⟩;rw[kj.out];have kxb:=G.ext hh;have bxb:=bxa.ext hh;have kr:=hv.below hh;have hJ:=ag hK hh;have kK:=ag kL hh;clear G bxa hv hK kL hh
 go_wp2_with (refine aJ rfl rfl (dW Y) rfl rfl rfl psize (eF _) ?_)
 intro wc hf qxc;have kxc:=kxb.ext hf;have bxc:=bxb.ext hf;have kq:=kr.below hf;have kA:=ag hJ hf;have ku:Hid (wI wc H):=ae (h5.out.below (ag kK hf));clear kxb bxb kr hJ kK hf;generalize wb.heap.size=gq at qxc;have kR:=ae kq.rd;clear kq;go_upto_region 10 with(fail);refine aO 22 [_,_,_,_,_,_,_,_,_,_,_,_,_,_,_,_,_,.r 17 ((Yq K.ma)),_,_,.v (.bool true),.v (.bool true)] (Gk rfl (Gb (.bool true) (by simp[go_sem]) rfl rfl rfl rfl rfl (Gk rfl (Gr (.pointer (some ⟨gq,0,none⟩)) (λρ y W F o=>(KQ (n:=8) (i:=0) (k:=.i64) rfl (aH rfl o) (aH rfl o) (by decide) underlying58 byte_u8)) rfl rfl (Gl qxc (V:=.int .u8 b.toNat) (by simp[kH.out]) rfl rfl rfl rfl (Gk rfl (Gb (.bool true) (by simp[go_sem]) rfl rfl rfl rfl rfl (Gk rfl (Gk rfl (Gk rfl (Gk rfl (Gk rfl (Gr (.agg (dF H)) (λρ y W F o=>(dG rfl (aH rfl o) (bxc.ext F) underlying45 machine_size)) rfl rfl (Gr (.agg (dF C)) (λρ y W F o=>(dG rfl (aH rfl o) (kxc.ext F) underlying45 machine_size)) rfl rfl (Gk rfl (Gk rfl (Gr (.agg (dF H)) (λρ y W F o=>(dG rfl (aH rfl o) (bxc.ext F) underlying45 machine_size)) rfl rfl (ah ?_ (Gk rfl (Gk rfl (ah ?_ (Gk rfl (aF))))))))))))))))))))))) (λ_=>rfl) rfl ?_
 ·intro ρ y W D hn F E;have gi:=D 80 13 rfl;have k9:y 13=_:=E 13 rfl;have gh:=D 81 14 rfl;have k8:y 14=_:=E 14 rfl;have gg:=D 82 15 rfl;have k7:y 15=_:=E 15 rfl;have ge:=D 83 16 rfl;have k6:y 16=_:=E 16 rfl;have EF:=eF0 hn λ_=>trivial;refine aP (m:=(bB 11 78 true true ((D 78 11 rfl).trans (E 11 rfl)))) (aS rfl (EF _) func26 (by simp only[bU,bS,aZ,gi,k9,gh,k8,gg,k7,ge,k6,EF];rfl)) ?_;refine(PW C H P N f W (kR.out.below F) (ku.out.below F) kG.out hG.out.rt ko.out X hN hI.out kX.out).mono ?_;rintro r w9 ⟨K5,rfl,kS,kT,h7⟩;exact⟨_,rfl,h7,K5,rfl,kS.rd,kT.trans h6.out⟩
 ·intro ρ y W D hn F E;have gj:=D 79 12 rfl;have ga:y 12=_:=E 12 rfl;have gd:=D 84 17 rfl;have k5:=E 17 rfl;have gc:=D 85 18 rfl;have k4:y 18=_:=E 18 rfl;have gb:=D 86 19 rfl;have k3:y 19=_:=E 19 rfl;have EC:∀v,ρ (.const v)=v:=λv=>hn (.const v) trivial;have EF:=eF0 hn λ_=>trivial;obtain⟨K5,kN,kO,hS⟩:=k5;refine aP (m:=(bB 11 78 true true ((D 78 11 rfl).trans (E 11 rfl)))) (aS rfl (EF _) func23 (by simp only[bU,bS,aZ,gj,ga,gd,gc,k4,gb,k3,EC,EF,kN];rfl)) ?_;refine(MZ H K5 P N W (ku.out.below F) kO hG.out.rt (by rw[hS];exact a.out.rt) (kw.out.ma hS)).mono ?_;rintro r w9 ⟨rfl,h7⟩;exact⟨_,rfl,h7,rfl⟩
 intro y W9 kC hR;have gk:((Yq K.ma)).r (y 17) W9:=hR 17 (by decide);clear hR;go_wp2;go_ret;exact⟨rfl,ag kA kC⟩
open Go.ChangeShapes Go.WideShapes Go.ChangeAt
theorem opens_cfg:zO Tryz.prog 51 (λx:Int × Int × Int=>[.int .i64 x.1,.int .i64 x.2.1,.int .i64 x.2.2]) (λ_ x=>i64 x.1/\i64 x.2.1/\i64 x.2.2):=
 (JK underlying51 (tQ rfl 1 rfl (BP underlying3).w (tQ rfl 2 rfl (BP underlying3).w (tQ rfl 3 rfl (BP underlying3).w (Gi (by kernel_rfl)))))).of (λx=>(x.1,x.2.1,x.2.2.1)) (λ_=>rfl) (λ_ _ h=>⟨h.1,h.2.1,h.2.2.1⟩)
theorem MC{H:Type}{en:TypeId × Value->H}{x:DataW H × List MemPlace}(c:Value.okWide Tryz.prog W .any base 51 v)(h:DataW.trod en Tryz.prog W base' spare held fuel 51 v.cells.toList=some x) :
  ∃f s b:Int,v = .agg #[.int .i64 f,.int .i64 s,.int .i64 b]/\i64 f/\i64 s/\i64 b:=by
 obtain⟨j,rfl,_⟩:=okWide_struct underlying51 c;obtain⟨⟨f,s,b⟩,a,i,e,d⟩:=opens_cfg _ _ _ _ _ _ _ _ _ h;refine⟨f,s,b,?_,i,e,d⟩;congr 1;apply Array.ext';simpa[Value.cells]using a
end Go.Proofs.YthihaopabbpalaaGreat