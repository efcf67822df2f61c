import Derived.Test.YthihaopabbpalaaGreatR7
import Derived.BigRegion
set_option linter.unusedSimpArgs false
set_option linter.unusedVariables false
set_option maxHeartbeats 4000000
set_option maxRecDepth 100000
namespace Go.Proofs.YthihaopabbpalaaGreat
open _root_.Go.Proofs.Tryz
open Go.RowKit Go.Maps Pw
variable {B b base base' fuel g go i off p sz:Nat} {H:MH} {P:Program} {T T' e t:TypeId} {W w:World} {cs cs':Array Value} {held:Bool} {m:Ma} {o:Oper} {spare:Nat -> Bool} {v:Value} {x:Operand} {ρ:Operand -> Value}
theorem WB {t:Tb} {n:Nat} (a:n<64):(dI t).getD n zEn=dJ t (n:Int):=by
 unfold dI;rw[aX,jv,tJ a];rfl
theorem Rq {y:Operand} {n:Nat} {k:IntKind} (z:o.op = .indexAddr t x y) (s:ρ x = .pointer (some ⟨b,off,none⟩)) (q:ρ y = .int k (i:Int)) (A:i<n)
 (u:P.underlying t=some (.array n e)) (j:(P.info? e).map (·.size)=some sz):(execOp ρ o).run P w = .ok (.value (.pointer (some ⟨b,off+i*sz,none⟩))) w:=by
 obtain⟨f,a,c⟩:∃f,P.info? e=some f/\f.size=sz:=by
  cases h:P.info? e with
  | none=>rw[h] at j;cases j
  | some f=>rw[h] at j;exact⟨f,rfl,by simpa using j⟩
 have d:(Go.sizeOf e).run P w = .ok sz w:=by simp[Go.sizeOf,typeInfo,a,go_sem,c]
 simp[execOp,go_sem,z,s,q,u,d,A]
theorem VM {f:Nat->Option Pg} {o:Option Pg} (h:aG w go (fC f) T) (c:i<64) (a:f i=o):dZ w (some ⟨go,i*6,none⟩) (yK o).toList:=by
 have d:=bH h (i*6) 6;have h2:=Ol f i c;rw[a] at h2;have e:((fC f).toList.drop (i*6)).take 6=(yK o).toList:=by rw[<-h2,Array.toList_extract];simp[List.extract_eq_take_drop]
 rwa [e] at d
theorem LG (H:MH) (w:World) (h:FD w H) (hR:Rt H.ma) :
  Calls Tryz.prog 21 #[.agg (fB H)] w λr w'=>r = .returned (.int .i64 0)/\Below w.heap.size w w':=by
 have hh:=ae h;have o:=ae hR;have hz:=ae (vT hR);have z1:H.ca.length<=1000:=hz.out.ca;have z2:H.m.fs.length<=1000:=hz.out.fs;have z3:H.sl.length<=1000:=hz.out.sl;have z4:H.sp.length<=4:=by have:=hR.pt.spl;rw[ul] at this;exact this
 have hZ:=ae (BI hR.pt.st);clear hR;go_enter func21,ntmps21;go_upto_region 1 with (fail);refine iC (λW=>Code.wp _ _ _ _ W) λw1 km Y k6 => ?_;have Y:aG w1 w.heap.size (fB H) 45:=Y;have h1:=h.below km;clear h k6
 go_wp2_with (refine ay _ _ rfl w.heap.size 0 rfl rfl _ Y.rd _ underlying45 rfl machine_size ?_)
 refine (Pi H _ h1 o.out).mono ?_;rintro r w2 ⟨rfl,kl⟩;have bx2:=Y.ext kl;have ka:=ag km kl;clear h1 Y km kl;have C:=bx2.cell;unfold fB at C;go_wp2
 go_loopw [29] (fun s29 wr => ∃q:Nat,q<=H.ca.length/\s29 = .int .i64 q/\Below w.heap.size w wr/\aG wr w.heap.size (fB H) 45) (fun s29 _=>H.ca.length-(intOf s29).toNat)
 case atStart=>exact⟨0,aZ _,rfl,ka,bx2⟩
 case round=>
  clear ka bx2 C;obtain⟨q,hq,rfl,b,A⟩:=hrel;have D:=hh.out.below b
  by_cases hql:q<H.ca.length
  ·obtain⟨Z,R,hl,hJ⟩:=kM iX (by decide) D.ca.rd q hql;have kv:(q:Int)<(H.ca.length:Int):=by omega
   have u:H.ca[q]∈H.ma.ca:=eO hql;obtain⟨⟨f1,f2⟩,f3,f4⟩:=o.out.ca.file _ u;obtain⟨f5,f6⟩:=o.out.ca.lt _ u;obtain⟨f7,f8,f9⟩:=o.out.ca.fr _ u;have kd:Hid (∀G:Nat,q=G+1->∃d:Cc,H.ca[G]?=some d/\Cy d H.ca[q]/\0<=d.f/\d.f<1000/\0<=d.i/\d.i<12):=ae (λG e=>by
    have h1:G<H.ca.length:=by omega
    refine⟨H.ca[G],aH h1,(zP.1 o.out.ca.srt) G q h1 hql (by omega),?_⟩;obtain⟨⟨g1,g2⟩,g3,g4⟩:=o.out.ca.file _ (eO h1:H.ca[G]∈H.ma.ca);have hm:aS H.ma.st H.ca[G].f∈H.ma.st.fs:=by unfold aS;rw[if_pos g1,aX,aH (by omega)];exact eO _
    have:=hZ.out _ hm;have k5:=hz.out.st.1;exact⟨g1,by omega,g3,by omega⟩)
   generalize hcq:H.ca[q]=c at *
   obtain⟨F,kS⟩:∃F:Nat,c.f=F:=⟨c.f.toNat,by omega⟩;have kp:F<H.fi.length:=by have:H.ma.st.fs.length=H.fi.length:=fH _;omega
   obtain⟨bf,of,kW,kJ⟩:=kM lh (by decide) D.st.rd F kp;have kX:Hid (aS H.ma.st c.f=(H.fi[F]).fi):=ae (by rw[kS];exact kI (by show (H.fi.map PF.fi)[F]?=_;rw[jv,aH kp];rfl));have f4' : c.i<((H.fi[F]).l.length:Int):=by rw[kX.out] at f4;exact f4
   generalize H.fi[F]=P at *
   obtain⟨K,kk⟩:∃K:Nat,c.k=K:=⟨c.k.toNat,by omega⟩;have k1:K<H.m.fs.length:=Int.ofNat_lt.1 (by rw[<-kk];exact f6);obtain⟨bm,om,hF,hI⟩:=kM fJ (by decide) D.fr.rd K k1;have hO:aD H.ma c.k.toNat=H.m.fs[K]:=by rw[kk,bA];unfold aD;show H.m.fs.getD K fr0=_;rw[aX,aH k1];rfl
   rw[hO] at f7 f8 f9;generalize H.m.fs[K]=X at *
   have kC:Hid (0<=c.f/\c.f<1000/\0<=c.i/\c.i<12):=ae (by
    have hm:aS H.ma.st c.f∈H.ma.st.fs:=by unfold aS;rw[if_pos f1,aX,aH (by omega)];exact eO _
    have:=hZ.out _ hm;have k5:=hz.out.st.1;exact⟨f1,by omega,f3,by omega⟩)
   have c1:¬c.f<0:=by omega
   have c2:¬(H.fi.length:Int)<=c.f:=by omega
   have c3:¬c.i<0:=by omega
   have c4:¬(P.l.length:Int)<=c.i:=by omega
   have c5:¬c.k<0:=by omega
   have c6:¬(H.m.fs.length:Int)<=c.k:=by omega
   have kT:=ae (And.intro f7 (And.intro f8 f9));clear f1 f2 f3 f4 f4' f5 f6 f7 f8 f9 hO kX u;rw[hl]
   go_wp2_with (first | (refine ay _ _ rfl Z (R+q*3) rfl rfl _ hJ _ underlying122 rfl cached_size ?_) | (refine aL rfl _ _ _ rfl (vV c) rfl rfl rfl cached_size (wI _) ?_))
   intro w3 hD L;have U:=A.ext hD;have h8:=ag b hD;have hC:∀W,Below w3.heap.size w3 W->W.cell? ⟨bf,of+F*2+1,none⟩=some (.slice P.a P.l.length P.c):=λW I=>by obtain⟨b',o',e,C⟩:=((kJ.below hD).below I) 1 _ rfl;cases e;exact C
   have hY:=hI.below hD;have k0:=D.below hD;clear b A hD hJ kJ hI D;go_upto_region 7 with (fail);refine aN 45 [_,_,_,_,_,_,_,_,_,_,_,_,_,_,_,_,_,_,_,_,_,_,_,_,_,_,_,_,_,_,_,_,_,_,_,_,_,_,_,_,_,_,_,_,.v (.bool false)] (Gf wr.heap.size 0 rfl rfl (Gl L rfl rfl rfl rfl rfl (Gb (.bool false) (by simp[go_sem,c1]) rfl rfl rfl rfl rfl (Gk rfl (Gf wr.heap.size 0 rfl rfl (Gl L rfl rfl rfl rfl rfl (Gf w.heap.size 7 rfl rfl (Gf w.heap.size 7 rfl rfl (Gl U rfl rfl rfl rfl rfl (Gn rfl rfl rfl rfl (Gb (.bool false) (by simp[go_sem,c2]) rfl rfl rfl rfl rfl (Gk rfl (Gk rfl (Gf wr.heap.size 1 rfl rfl (Gl L rfl rfl rfl rfl rfl (Gb (.bool false) (by simp[go_sem,c3]) rfl rfl rfl rfl rfl (Gk rfl (Gk rfl (Gf wr.heap.size 1 rfl rfl (Gl L rfl rfl rfl rfl rfl (Gf w.heap.size 7 rfl rfl (Gf w.heap.size 7 rfl rfl (Gl U (V:=.slice (some ⟨bf,of,none⟩) H.fi.length H.ci) (by simp[fB,kW]) rfl rfl rfl rfl (Gf wr.heap.size 0 rfl rfl (Gl L (V:=.int .i64 (F:Int)) (by simp[vV,kS]) rfl rfl rfl rfl (Gr (.pointer (some ⟨bf,of+F*2,none⟩)) (λρ y W I j=>(bP rfl (aI rfl j) (aI rfl j) kp underlying39 file_size)) rfl rfl (Gf bf (of+F*2+1) rfl rfl (Gc (.slice P.a P.l.length P.c) (λW I=>by simp[hC _ I]) rfl rfl rfl rfl (Gn rfl rfl rfl rfl (Gb (.bool false) (by simp[go_sem,c4]) rfl rfl rfl rfl rfl (Gk rfl (Gk rfl (Gf wr.heap.size 2 rfl rfl (Gl L rfl rfl rfl rfl rfl (Gb (.bool false) (by simp[go_sem,c5]) rfl rfl rfl rfl rfl (Gk rfl (Gk rfl (Gf wr.heap.size 2 rfl rfl (Gl L rfl rfl rfl rfl rfl (Gf w.heap.size 0 rfl rfl (Gf w.heap.size 0 rfl rfl (Gl U rfl rfl rfl rfl rfl (Gn rfl rfl rfl rfl (Gb (.bool false) (by simp[go_sem,c6]) rfl rfl rfl rfl rfl (Gk rfl (aF)))))))))))))))))))))))))))))))))))))))))))))) (λ_=>rfl) rfl ?_;intro y W4 ha _;have bx4:=U.ext ha;have cx4:=L.ext ha;have h7:=ag h8 ha;have hX:=hY.below ha;have kZ:=k0.below ha;have C:=bx4.cell;unfold fB at C;rw[hF] at C;have hu:=cx4.cell;unfold vV at hu;rw[kk] at hu;have gi:(K:Int)<(H.m.fs.length:Int):=by omega
   clear hC h8 U L hY k0 ha kW c1 c2 c3 c4 c5 c6
   go_wp2_with (first | (refine ay _ _ rfl bm (om+K*13) rfl rfl _ hX _ underlying66 rfl frame_size ?_) | (refine aL rfl _ _ _ rfl (sU X) rfl rfl rfl frame_size (oL _) ?_))
   intro w5 hN fx5;have bx5:=bx4.ext hN;have cx5:=cx4.ext hN;have h6:=ag h7 hN;have ko:=kZ.below hN;clear h7 bx4 cx4 hX kZ hN C hu;have hS:=fx5.cell;unfold sU at hS;have hu:=cx5.cell;unfold vV at hu;obtain⟨g7,g8,g9⟩:=kT.out;have d1:¬X.r=0:=by omega
   rw[g8,g9] at hS;clear g7 g8 g9;go_upto_region 12 with (fail);rcases tK q with hq0|hqp
   ·subst hq0;refine aN 27 [_,_,_,_,_,_,_,_,_,_,_,_,_,_,_,_,_,_,_,_,_,_,_,_,_,_,.v (.bool false)] (Gk rfl (Gb (.bool false) (by simp[go_sem,]) rfl rfl rfl rfl rfl (Gk rfl (Gk rfl (Gk rfl (Gk rfl (Gk rfl (Gk rfl (Gk rfl (Gk rfl (Gk rfl (Gk rfl (Gk rfl (Gk rfl (Gk rfl (Gk rfl (Gk rfl (Gk rfl (Gk rfl (Gk rfl (Gk rfl (Gk rfl (Gk rfl (Gk rfl (Gk rfl (Gk rfl (Gk rfl (aF)))))))))))))))))))))))))))) (λ_=>rfl) rfl ?_;intro y W6 hs _;have J:=bx5.ext hs;have s:=ag h6 hs;clear ko hl hF;go_wp2;go_roundw
    case rel=>exact⟨1,by omega,by go_num,s,J⟩
    case measure=>simp[intOf];omega
   obtain⟨G,kw⟩:∃G,q=G+1:=⟨q-1,by omega⟩;obtain⟨d,hd,kD,g1,g2,g3,g4⟩:=kd.out G kw;have hv:G<H.ca.length:=by omega
   obtain⟨bc',oc',kb,hy⟩:=kM iX (by decide) ko.ca.rd G hv;rw[hl] at kb;cases kb;have kL:H.ca[G]=d:=by have:=aH hv;rw[hd] at this;exact (aM this).symm
   rw[kL] at hy;have kO:∀W,Below w5.heap.size w5 W->W.cell? ⟨Z,R+G*3,none⟩=some (.int .i64 d.f):=λW I=>by obtain⟨b',o',e,C⟩:=(hy.below I) 0 _ rfl;cases e;exact C
   have kN:∀W,Below w5.heap.size w5 W->W.cell? ⟨Z,R+G*3+1,none⟩=some (.int .i64 d.i):=λW I=>by obtain⟨b',o',e,C⟩:=(hy.below I) 1 _ rfl;cases e;exact C
   obtain⟨e1,e2,e3,e4⟩:=kC.out;have m0:IntKind.i64.wrap ((q:Int)-1)=(G:Int):=(bG _ (by omega)).trans (by omega);have m1:IntKind.i64.wrap (100*d.f)=100*d.f:=(bG _ (by omega)).trans (by omega);have m2:IntKind.i64.wrap (100*d.f+d.i)=100*d.f+d.i:=(bG _ (by omega)).trans (by omega);have m3:IntKind.i64.wrap (100*c.f)=100*c.f:=(bG _ (by omega)).trans (by omega);have m4:IntKind.i64.wrap (100*c.f+c.i)=100*c.f+c.i:=(bG _ (by omega)).trans (by omega);have m5:¬100*c.f+c.i<=100*d.f+d.i:=by unfold Cy at kD;omega
   refine aN 27 [_,_,_,_,_,_,_,_,_,_,_,_,_,_,_,_,_,_,_,_,_,_,_,_,_,_,.v (.bool false)] (Gk rfl (Gb (.bool true) (by simp[go_sem,hqp]) rfl rfl rfl rfl rfl (Gk rfl (Gf w.heap.size 9 rfl rfl (Gl bx5 (V:=.slice (some ⟨Z,R,none⟩) H.ca.length H.cc) (by simp[fB,hl]) rfl rfl rfl rfl (Gk rfl (Gb (.int .i64 (G:Int)) (by simp[go_sem,m0]) rfl rfl rfl rfl rfl (Gr (.pointer (some ⟨Z,R+G*3,none⟩)) (λρ y W I j=>(bP rfl (aI rfl j) (aI rfl j) hv underlying42 cached_size)) rfl rfl (Gf Z (R+G*3) rfl rfl (Gc (.int .i64 d.f) (λW I=>by simp[kO _ I]) rfl rfl rfl rfl (Gb (.int .i64 (100*d.f)) (by simp[go_sem,m1]) rfl rfl rfl rfl rfl (Gf w.heap.size 9 rfl rfl (Gl bx5 (V:=.slice (some ⟨Z,R,none⟩) H.ca.length H.cc) (by simp[fB,hl]) rfl rfl rfl rfl (Gk rfl (Gb (.int .i64 (G:Int)) (by simp[go_sem,m0]) rfl rfl rfl rfl rfl (Gr (.pointer (some ⟨Z,R+G*3,none⟩)) (λρ y W I j=>(bP rfl (aI rfl j) (aI rfl j) hv underlying42 cached_size)) rfl rfl (Gf Z (R+G*3+1) rfl rfl (Gc (.int .i64 d.i) (λW I=>by simp[kN _ I]) rfl rfl rfl rfl (Gb (.int .i64 (100*d.f+d.i)) (by simp[go_sem,m2]) rfl rfl rfl rfl rfl (Gf wr.heap.size 0 rfl rfl (Gl cx5 rfl rfl rfl rfl rfl (Gb (.int .i64 (100*c.f)) (by simp[go_sem,m3]) rfl rfl rfl rfl rfl (Gf wr.heap.size 1 rfl rfl (Gl cx5 rfl rfl rfl rfl rfl (Gb (.int .i64 (100*c.f+c.i)) (by simp[go_sem,m4]) rfl rfl rfl rfl rfl (Gb (.bool false) (by simp[go_sem,m5]) rfl rfl rfl rfl rfl (Gk rfl (aF)))))))))))))))))))))))))))) (λ_=>rfl) rfl ?_;intro y W6 hs _;have J:=bx5.ext hs;have s:=ag h6 hs;clear ko hl hF kO kN m0 m1 m2 m3 m4 m5 hy hd kD g1 g2 g3 g4 e1 e2 e3 e4 kL kw;go_wp2;go_roundw
   case rel=>exact⟨q+1,by omega,by go_num,s,J⟩
   case measure=>simp[intOf];omega
  have kv:¬(q:Int)<(H.ca.length:Int):=by omega
  have C:=A.cell;unfold fB at C;clear D;go_wp2
  go_loopw [134] (fun s134 wr => ∃p:Nat,p<=H.sp.length/\s134 = .int .i64 p/\Below w.heap.size w wr/\aG wr w.heap.size (fB H) 45) (fun s134 _=>H.sp.length-(intOf s134).toNat)
  case atStart=>exact⟨0,aZ _,rfl,b,A⟩
  case round=>
   clear b A C kv;obtain⟨p,hp,rfl,b,A⟩:=hrel;have D:=hh.out.below b
   by_cases hpl:p<H.sp.length
   ·obtain⟨bd,od,P,k9,hP,ku⟩:=uf D.sp.rd p hpl;have kx:(p:Int)<(H.sp.length:Int):=by omega
    have ht:=wB D hP;have ks:P.sp∈H.ma.sp:=by show P.sp∈H.sp.map PS.sp;exact ja.2 ⟨P,bV hP,rfl⟩
    have hG:(bQ P.ar).1=0:=o.out.pt.ar P.sp ks;have kq:Hid (dA P.tb=0):=ae (o.out.pt.tb P.sp ks);have kc:=ae (sD hP);obtain⟨gb,kV⟩:=yI hG;have k7:Hid (∀i:Nat,dz P.ar i=fM H.ma p i):=ae (λi=>by rw[rX (nG (jM.1 hG).2)];unfold fM;rw[kc.out];rfl);rw[k9]
    go_wp2_with (first | (refine ay _ _ rfl bd (od+p*10) rfl rfl _ ku _ underlying76 rfl space_size ?_) | (refine aL rfl _ _ _ rfl (yM P) rfl rfl rfl space_size (by rw[<-mE,eZ];exact ht.one) ?_))
    intro w6 hj px6;have s:=ag b hj;have J:=A.ext hj;have kf:=ht.below hj;have kP:=px6.cell;unfold yM at kP;clear b A hj ku D ht hG
    go_wp2_with fail
    refine (sG P.ar P.aa P.ac _ kf.ars.rd (by omega) kV).mono ?_;rintro r w7 ⟨rfl,t⟩;have x:=ag s t;have O:=J.ext t;have px7:=px6.ext t;have kH:=kf.below t;clear s J px6 kf t kP
    go_wp2_with (refine aL rfl _ _ _ rfl (fC (dz P.ar)) rfl rfl (by rw[ky];rfl) (by rw[ky];exact ones_size) (zC _) ?_)
    intro w8 z ox8;have hr:=ag x z;have S:=O.ext z;have px8:=px7.ext z;have kG:=kH.below z;clear x O px7 kH z;have kt:dZ w8 (some ⟨wr.heap.size,2,none⟩) (oh P.ts).toList:=bH px8 2 8
    go_wp2_with (refine ay _ _ rfl wr.heap.size 2 rfl rfl _ kt _ underlying74 tab_agg tab_size ?_)
    refine (HZ P.tb (oh P.ts) _ kG.tb kq.out).mono ?_;rintro r w9 ⟨rfl,hV⟩;rw[NU (Cb P.tb)];have hE:Hid (∀n:Nat,n<64->(dI P.tb).getD n zEn=ent H.ma p n):=ae (λn hn=>by rw[WB hn];unfold ent;rw[kc.out];rfl);have h5:=ag hr hV;have bx9:=S.ext hV;have ox9:=ox8.ext hV;generalize dI P.tb=l at *
    obtain⟨go,kE⟩:∃go,w7.heap.size=go:=⟨_,rfl⟩;rw[kE] at ox9 ⊢;clear hr S px8 kG hV kt ox8 kE;go_wp2
    go_loopw [144] (fun s144 wr => ∃i:Nat,i<=64/\s144 = .int .i64 i/\Below w.heap.size w wr/\aG wr w.heap.size (fB H) 45/\aG wr go (fC (dz P.ar)) 81) (fun s144 _=>64-(intOf s144).toNat)
    case atStart=>exact⟨0,by omega,rfl,h5,bx9,ox9⟩
    case round=>
     clear h5 bx9 ox9;obtain⟨i,hi,rfl,b,A,ox⟩:=hrel
     by_cases Q:i<64
     ·have ke:(i:Int)<64:=by omega
      have hH:=hE.out i Q;generalize heE:ent H.ma p i=E at hH;have k8:=Jd l i Q E hH;have hK:=ae heE;clear heE hH
      go_wp2_with (refine aL rfl _ _ _ rfl (jC E) rfl rfl rfl entry_size (by simp[jC,Value.oneCell']) ?_)
      intro wa hU ea;have hB:=ag b hU;have bxa:=A.ext hU;have oxa:=ox.ext hU;clear k8 b A ox hU;have hx:=ea.cell;unfold jC at hx
      by_cases hk0:E.k=0
      ·rw[hk0] at hx;clear hk0;go_wp2;go_roundw
       case rel=>exact⟨i+1,by omega,by go_num,hB,bxa,oxa⟩
       case measure=>simp[intOf];omega
      obtain⟨g,hg,hf⟩:=o.out.en p i (by rw[hK.out];exact hk0);rw[hK.out] at hf;have h2:eF E=0:=by rw[<-hK.out];unfold ent;rw[kc.out];exact sK kq.out i
      have kA:dz P.ar i=some g:=(k7.out i).trans hg;have kz:=ae kA;have kg:=ae (And.intro hf (And.intro hk0 h2));clear hf hg h2 kA;go_upto_region 23 with (fail);refine aN 7 [_,_,_,_,_,.v (.int .i64 0),.v (.int .i64 0)] (Gr (.agg (fB H)) (λρ y W I j=>(dW rfl (aI rfl j) (bxa.ext I) underlying45 rfl machine_size)) rfl rfl (Gk rfl (Gr (.pointer (some ⟨go,0+i*6,none⟩)) (λρ y W I j=>(Rq rfl (aI rfl j) (aI rfl j) Q underlying81 one_size)) rfl rfl (Gr (.agg (yK (some g))) (λρ y W I j=>(bF rfl (aI rfl j) (by rw[dV];exact VM (oxa.ext I) Q kz.out) underlying80 rfl one_size)) rfl rfl (Gr (.agg (jC E)) (λρ y W I j=>(dW rfl (aI rfl j) (ea.ext I) underlying68 rfl entry_size)) rfl rfl (ah ?_ (Gk rfl (aF)))))))) (λ_=>rfl) rfl ?_
      ·intro ρ y W hw hn I hd;have k4:=hw 151 0 rfl;have h0:y 0=_:=hd 0 rfl;have k3:=hw 154 3 rfl;have h3:y 3=_:=hd 3 rfl;have k2:=hw 155 4 rfl;have h4:y 4=_:=hd 4 rfl;have EF:∀f,ρ (.func f) = .func (.func f) #[] #[]:=λf=>hn (.func f) trivial;refine aO _ _ (aj rfl) (aT rfl (EF _) func53 (by kernel_rfl) (by kernel_rfl) (by simp only[bX,bR,aY,k4,h0,k3,h3,k2,h4,EF];rfl)) ?_;refine (PW H g E W (hh.out.below (ag hB I)) o.out kg.out.1 kg.out.2.1 kg.out.2.2).mono ?_;rintro r wz ⟨rfl,ga⟩;exact⟨_,rfl,ga,rfl⟩
      intro y wb hA _;have kU:=ag hB hA;have bxb:=bxa.ext hA;have oxb:=oxa.ext hA;clear hB bxa oxa ea hx hA;go_wp2;go_roundw
      case rel=>exact⟨i+1,by omega,by go_num,kU,bxb,oxb⟩
      case measure=>simp[intOf];omega
     have ke:¬(i:Int)<64:=by omega
     clear ox;go_wp2;go_roundw
     case rel=>exact⟨p+1,by omega,by go_num,b,A⟩
     case measure=>simp[intOf];omega
   have kx:¬(p:Int)<(H.sp.length:Int):=by omega
   have C:=A.cell;unfold fB at C;clear D;go_wp2
   go_loopw [166] (fun s166 wr => ∃k:Nat,k<=H.m.fs.length/\s166 = .int .i64 k/\Below w.heap.size w wr/\aG wr w.heap.size (fB H) 45) (fun s166 _=>H.m.fs.length-(intOf s166).toNat)
   case atStart=>exact⟨0,aZ _,rfl,b,A⟩
   case round=>
    clear b A C kx;obtain⟨k,hk,rfl,b,A⟩:=hrel;have D:=hh.out.below b
    by_cases M:k<H.m.fs.length
    ·obtain⟨bm,om,hF,hI⟩:=kM fJ (by decide) D.fr.rd k M;have hQ:(k:Int)<(H.m.fs.length:Int):=by omega
     have hO:aD H.ma k=H.m.fs[k]:=by unfold aD;show H.m.fs.getD k fr0=_;rw[aX,aH M];rfl
     have kj:=o.out.cf k M;have kh:=o.out.fc k M;rw[hO] at kj kh;have gh:bO H.ma 1 k<=256:=by have h9:=Eo H.ma 1 k;have e9:H.ma.sp.length=H.sp.length:=ul H;omega
     have kR:sZ H.ma k<=H.ca.length:=wD;generalize H.m.fs[k]=X at *
     have kK:=ae kh;have kQ:=ae kj;clear hO kj kh;rw[hF]
     go_wp2_with (first | (refine ay _ _ rfl bm (om+k*13) rfl rfl _ hI _ underlying66 rfl frame_size ?_) | (refine aL rfl _ _ _ rfl (sU X) rfl rfl rfl frame_size (oL _) ?_))
     intro w6 hj fx6;have s:=ag b hj;have J:=A.ext hj;have kY:=D.below hj;clear b A hj hI D hF
     go_wp2_with (refine ay _ _ rfl w.heap.size 0 rfl rfl _ J.rd _ underlying45 rfl machine_size ?_)
     refine (zG H 1 k _ kY o.out).mono ?_;rintro r w7 ⟨rfl,t⟩;have x:=ag s t;have O:=J.ext t;have fx7:=fx6.ext t;clear s J kY fx6 t;obtain⟨gf,kF⟩:∃gf,wr.heap.size=gf:=⟨_,rfl⟩;rw[kF] at fx7 ⊢;generalize hhN:bO H.ma 1 k=N at *
     have gd:=ae hhN;clear kF hhN;have C:=O.cell;unfold fB at C;go_wp2
     go_loopw [177,16] (fun s177 s16 wr => ∃i m:Nat,i<=H.ca.length/\s177 = .int .i64 i/\s16 = .int .i64 m/\m<=i/\Below w.heap.size w wr/\aG wr w.heap.size (fB H) 45/\aG wr gf (sU X) 66/\Hid (m=(H.ca.take i).countP fun c=>decide (c.k=(k:Int)))) (fun s177 _ _=>H.ca.length-(intOf s177).toNat)
     case atStart=>exact⟨0,0,aZ _,rfl,rfl,az _,x,O,fx7,ae (by simp)⟩
     case round=>
      clear x O fx7 C;obtain⟨i,m,hi,rfl,rfl,hm,b,A,fx,u⟩:=hrel;have D:=hh.out.below b
      by_cases Q:i<H.ca.length
      ·obtain⟨Z,R,hl,hJ⟩:=kM iX (by decide) D.ca.rd i Q;have ke:(i:Int)<(H.ca.length:Int):=by omega
       have hT:Hid ((H.ca.take (i+1)).countP (λc=>decide (c.k=(k:Int)))=(H.ca.take i).countP (λc=>decide (c.k=(k:Int)))+if decide ((H.ca[i]).k=(k:Int))=true then 1 else 0):=ae (xB _ _ _ Q);generalize H.ca[i]=c at *
       rw[hl]
       go_wp2_with (first | (refine ay _ _ rfl Z (R+i*3) rfl rfl _ hJ _ underlying122 rfl cached_size ?_) | (refine aL rfl _ _ _ rfl (vV c) rfl rfl rfl cached_size (wI _) ?_))
       intro w8 z cx8;have hr:=ag b z;have S:=A.ext z;have fx8:=fx.ext z;have hu:=cx8.cell;unfold vV at hu;clear b A fx z hJ D cx8 hl
       by_cases hck:c.k=(k:Int)
       ·have hL : Hid (m+1=(H.ca.take (i+1)).countP λc=>decide (c.k=(k:Int))):=ae (by rw[hT.out,<-u.out];simp[hck]);clear u hT;go_wp2;go_roundw
        case rel=>exact⟨i+1,m+1,by omega,by go_num,by go_num,by omega,hr,S,fx8,hL⟩
        case measure=>simp[intOf];omega
       have hL : Hid (m=(H.ca.take (i+1)).countP λc=>decide (c.k=(k:Int))):=ae (by rw[hT.out,<-u.out];simp[hck]);clear u hT;go_wp2;go_roundw
       case rel=>exact⟨i+1,m,by omega,by go_num,rfl,by omega,hr,S,fx8,hL⟩
       case measure=>simp[intOf];omega
      have ke:¬(i:Int)<(H.ca.length:Int):=by omega
      have kB : m=sZ H.ma k:=by rw[u.out,ji (by omega)];rfl
      have gc:X.r=(m:Int)+(N:Int):=by rw[kQ.out,kB]
      have kn:0<=X.f->¬m=0:=λh0 e=>by obtain⟨c,C,hck⟩:=kK.out h0;have h9:0<sZ H.ma k:=yg.2 ⟨c,C,by simp[hck]⟩;omega
      have hW:(N:Int)+(m:Int)=X.r:=by omega
      have hS:=fx.cell;unfold sU at hS;have ge:IntKind.i64.wrap ((N:Int)+(m:Int))=X.r:=(bG _ (by omega)).trans hW;clear u D kB gc hW kR
      by_cases h0:0<=X.f
      ·have gg:¬(m:Int)=0:=by have:=kn h0;omega
       clear kn;go_wp2;go_roundw
       case rel=>exact⟨k+1,by omega,by go_num,b,A⟩
       case measure=>simp[intOf];omega
      clear kn;go_wp2;go_roundw
      case rel=>exact⟨k+1,by omega,by go_num,b,A⟩
      case measure=>simp[intOf];omega
    have hQ:¬(k:Int)<(H.m.fs.length:Int):=by omega
    have C:=A.cell;unfold fB at C;clear D;go_wp2
    go_loopw [207] (fun s207 wr => ∃k:Nat,k<=H.sl.length/\s207 = .int .i64 k/\Below w.heap.size w wr/\aG wr w.heap.size (fB H) 45) (fun s207 _=>H.sl.length-(intOf s207).toNat)
    case atStart=>exact⟨0,aZ _,rfl,b,A⟩
    case round=>
     clear b A C hQ;obtain⟨k,hk,rfl,b,A⟩:=hrel;have D:=hh.out.below b
     by_cases M:k<H.sl.length
     ·have hQ:(k:Int)<(H.sl.length:Int):=by omega
      obtain⟨bl,ol,hG,ki⟩:=D.sl.rd k (fZ H.sl[k]) (by rw[jv,aH M];rfl);unfold fZ at ki;have hC:=o.out.cs k M;have kr:jT H.ma k=H.sl[k]:=by unfold jT;show H.sl.getD k 0=_;rw[aX,aH M];rfl
      rw[kr] at hC;rw[hC] at ki;rw[hG];clear hC kr
      go_wp2_with (refine ay _ _ rfl w.heap.size 0 rfl rfl _ A.rd _ underlying45 rfl machine_size ?_)
      refine (zG H 2 k _ D o.out).mono ?_;rintro r w7 ⟨rfl,t⟩;have x:=ag b t;have O:=A.ext t;clear b A D t ki hG;go_wp2;go_roundw
      case rel=>exact⟨k+1,by omega,by go_num,x,O⟩
      case measure=>simp[intOf];omega
     have hQ:¬(k:Int)<(H.sl.length:Int):=by omega
     clear D;go_wp2;go_ret;exact⟨rfl,b⟩
theorem Qu (h:aG w b cs T) (a:aG w b cs' T') (c:T'≠T):False:=by
 unfold aG at h a;rw[a] at h;simp at h;exact c h.2
theorem new29:yO (FU 2 40) (FU 2 60) (FU 2 80)=⟨MM 2,PV 2,Fz 2,Fz 2,⟨[],2⟩,[],[⟨true,[],zTb⟩]⟩:=by
 have e:FU 2 40=2/\FU 2 60=2/\FU 2 80=2:=by decide
 rw[e.1,e.2.1,e.2.2];rfl
theorem wR.putA (h:wR w B H) {P:PS} (A:H.sp[p]?=some P) :
  ∃g off s,H.ap=some ⟨g,off,none⟩/\B<=g/\aG w g s 76/\off+p*10+10<=s.size /\
   ∀(w' : World) (a:Option Addr) (c:Nat) (l:List Ar),Own w B 94 7 (.slice a l.length c) l.length (l.flatMap mO)->aG w' g (bI s (off+p*10+1) [.slice a l.length c]) 76->w.grownBy w' (some g) ->
    wR w' B { H with sp:=H.sp.set p { P with aa:=a,ac:=c,ar:=l } }:=by
 have D:=(cz.1 A).1;obtain⟨g,off,K,s,C,J,b,r,d⟩:=oO oq (by decide) rfl h.sp p D;simp only[mJ] at C;obtain⟨k,_,_⟩:=C;obtain⟨bs,L,Q,i,E,m⟩:=uf h.rd.sp.rd p D;rw[A] at E;cases E;rw[k] at i;cases i;have o:∀j u,(sV P)[j]?=some u->s[off+p*10+j]?=some u:=λj u G=>by obtain⟨N,M,e',n⟩:=m j u G;cases e';rw[<-b.cell];exact n
 have e:=bV A;refine⟨g,off,s,k,J,b,by omega,λw' a c l F I y => ?_⟩;have f:(H.sp.set p { P with aa:=a,ac:=c,ar:=l }).length=H.sp.length:=bK;refine⟨ax h.fr b (by decide) y,ax h.sl b (by decide) y,h.sw.keep b (by decide) (by decide) y,h.dk.keep b (by decide) (by decide) y,h.st.keep b (by decide) (by decide) y,ax h.ca b (by decide) y,?_,λq z => ?_,h.c64⟩
 ·simp only[f];refine d w' _ ?_;rw[FC s (off+p*10) 1 1 (sV P) (sV { P with aa:=a,ac:=c,ar:=l }) [.slice a l.length c] o rfl rfl (by rw[oq];decide) (by rw[oq];omega)];exact I
 rcases lL z with z|rfl
 ·exact⟨ax (h.ps q z).1 b (by decide) y,(h.ps q z).2.keep b (by decide) y⟩
 ·exact⟨ax F b (by decide) y,(h.ps P e).2.keep b (by decide) y⟩
theorem SA {P:PS} (d:H.sp[p]?=some P) (a:Option Addr) (c:Nat) (l:List Ar):MH.ma { H with sp:=H.sp.set p { P with aa:=a,ac:=c,ar:=l } }=xG H.ma p l:=by
 rw[Ux];unfold QW xG;rw[sD d];rfl
def ar9:Ar:=⟨3,5,true,true,false,-1,0⟩
theorem Xz (d:m=⟨MM 2,PV 2,Fz 2,Fz 2,⟨[],2⟩,[],[⟨true,[],zTb⟩]⟩) (c:UL m):UL (xG m 0 [ar9]):=by
 have f:0<m.sp.length:=by rw[d];decide
 have h:(bQ [ar9]).1=0:=by kernel_rfl
 have s:∀n,fM m 0 n=none:=λn=>by rw[d];rfl
 obtain⟨k,h2⟩:=Sz c.rt c.co f (by rw[d];rfl) h (λn j=>by obtain⟨g,a,_⟩:=c.rt.en 0 n j;rw[s] at a;cases a);refine⟨k,h2,λq n g a => ?_⟩;rw[Bl f] at a
 by_cases e:q=0
 ·rw[if_pos e,dm] at a;split at a
  ·cases a;show (-1:Int)<(m.st.fs.length:Int);omega
  ·cases a
 rw[if_neg e] at a;exact c.fi q n g a
theorem Vx {x:Ar} (c:aG w g (ku x) 94) (a:B<=g):Own w B 94 7 (.slice (some ⟨g,0,none⟩) 1 1) 1 ([x].flatMap mO):=by
 refine⟨rfl,.inr ⟨g,0,1,ku x,rfl,a,c,az _,by decide,?_,λj u h => ?_⟩⟩
 ·show 0+1*7<=7;decide
 rw[dV,<-uz];simpa[mO] using h
theorem VS (w:World):Calls Tryz.prog 16 #[] w λr w'=>r = .returned (.bool true)/\Below w.heap.size w w':=by
 go_enter func16,ntmps16
 go_wp2_with fail
 refine (Fq 2 2 2 none 0 [] w ⟨az _,by decide,λ_=>rfl,λi u h=>(by simp at h)⟩).mono ?_;rintro r w1 ⟨H,rfl,ho,hZ,h3,h5,h4,_,_,_,hv⟩;have j:H.ma=⟨MM 2,PV 2,Fz 2,Fz 2,⟨[],2⟩,[],[⟨true,[],zTb⟩]⟩:=(hv rfl).trans new29;have h9:=ae (Xz j (Tg h3 h5 h4));have l:H.sp.length=1:=by rw[<-ul,j];rfl
 have y:Hid (uJ H.m.fs=2/\H.m.fs.length=2/\(dD H.ma 0).lv=true):=ae (by
  have e1:uJ H.ma.m.fs=2:=by rw[j];rfl
  have e2:H.ma.m.fs.length=2:=by rw[j];rfl
  exact⟨e1,e2,by rw[j];rfl⟩)
 obtain⟨P,hP⟩:∃P,H.sp[0]?=some P:=⟨_,aH (by rw[l];decide)⟩;have Z:=ae hP;have d:=ae l;clear hv j h3 h5 h4
 go_wp2_with (refine aL rfl _ _ _ rfl (fB H) rfl rfl rfl machine_size (jN _) ?_)
 intro J hL E;have hF:=ho.below hL;have s:=ag hZ hL;clear ho hZ hL;generalize w1.heap.size=gm at E;obtain⟨gs,os,cur,hf,X,a,p,_⟩:=hF.putA hP;clear hP;have hR:0<H.sp.length:=by rw[l];decide
 have hh:=(Below.refl J.heap.size J).alloc (az _) (.cells #[.int .i64 3,.int .i64 5,.bool true,.bool true,.bool false,.int .i64 (-1),.int .i64 0] 94);have hD:=hF.below hh;have I:=E.ext hh;have q:=ag s hh;have hA:=aG.new J #[.int .i64 3,.int .i64 5,.bool true,.bool true,.bool false,.int .i64 (-1),.int .i64 0] 94;have hJ:w.heap.size<=J.heap.size:=s.size;generalize hgo:J.heap.size=gA at hA hJ;clear a p X;obtain⟨gs2,os2,cur,v,X,a,p,hn⟩:=hD.putA Z.out;rw[hf] at v;simp only[jr,ui,and_true] at v;obtain⟨rfl,rfl⟩:=v;have hV:(J.alloc (.cells #[.int .i64 3,.int .i64 5,.bool true,.bool true,.bool false,.int .i64 (-1),.int .i64 0] 94)).cell? ⟨gs,os+1,none⟩=some (.slice P.aa P.ar.length P.ac):=by obtain⟨b',o',Q,h2,hQ,h8⟩:=uf hD.rd.sp.rd 0 hR;rw[Z.out] at hQ;cases hQ;rw[hf] at h2;cases h2;obtain⟨b',o',e',z⟩:=h8 1 _ rfl;cases e';simpa using z
 have hK:=a.free;have L:=E.cell;unfold fB at L;rw[hf,l] at L;clear l;go_upto_region 3 with (fail);refine Tw (λW=>Code.wp _ _ _ _ W) a λw5 x hY => ?_;have hE:=hn w5 (some ⟨gA,0,none⟩) 1 [ar9] (Vx hA hJ) (by simp only[vC,iJ];exact hY) x;have D:=I.grown x (λe=>by have:=aM e;subst this;exact Qu I a (by decide));have hz:=q.grown x q.size (λk hk=>by cases hk;exact X);clear hV hK L hh hD I q hgo;have b:=SA Z.out (some ⟨gA,0,none⟩) 1 [ar9];have hI:fB { H with sp:=H.sp.set 0 { P with aa:=some ⟨gA,0,none⟩,ac:=1,ar:=[ar9] } }=fB H:=by unfold fB;simp only[bK]
 have hm:(H.sp.set 0 { P with aa:=some ⟨gA,0,none⟩,ac:=1,ar:=[ar9] }).length=1:=by rw[bK];exact d.out
 clear E s hF hf X a p hn hY x hA hJ hR;obtain⟨C,Y⟩:∃C:MH,C = { H with sp:=H.sp.set 0 { P with aa:=some ⟨gA,0,none⟩,ac:=1,ar:=[ar9] } }:=⟨_,rfl⟩;have h6:C.sp.length=1:=by rw[Y];exact hm
 have h7:C.m=H.m:=by rw[Y]
 rw[<-Y] at hE b hI;rw[<-hI] at D;have hG:=ae (show UL C.ma by rw[b];exact h9.out);have hS:Hid (uJ C.m.fs=2/\C.m.fs.length=2):=ae (by rw[h7];exact⟨y.out.1,y.out.2.1⟩);have kb:Hid ((dD C.ma 0).lv=true):=ae (by rw[b,xN (by rw[ul,d.out];decide)];exact y.out.2.2);have o:Hid (∀n,fM C.ma 0 n=onA [ar9] n):=ae (λn=>by rw[b,Bl (by rw[ul,d.out];decide),if_pos rfl]);have ka:Hid (¬QA C 0):=ae (by
  rintro (e|e|e)
  ·exact absurd e (by decide)
  ·rw[h6] at e;exact absurd e (by decide)
  ·exact absurd (kb.out.symm.trans e) (by decide))
 have hB:=hE.rd;clear hI b Y hm h7 hE y h9 Z d
 go_wp2_with (refine ay _ _ rfl gm 0 rfl rfl _ D.rd _ underlying45 rfl machine_size ?_)
 refine (Ef C 0 4 true _ hB hG.out).mono ?_;rintro r w6 ⟨hd,c⟩;have hO:=hB.below hd;have V:=D.ext hd;have hy:=ag hz hd;clear hB D hz hd;rcases c with ⟨e,_,_,O⟩|⟨P0,K,f,g,e0,_,_,G,_,rfl,R,S,hU⟩
 ·exfalso;have kh:=Ko hG.out O (by have:=hS.out.1;omega);rcases O with ⟨_,h|h⟩|⟨_,g,G,h⟩
  ·exact ka.out h
  ·have A:=(o.out 4).symm.trans h;exact absurd A (by decide)
  have A : onA [ar9] 4=some g:=(o.out 4).symm.trans G;have kc:g=⟨true,true,false,-1,0⟩:=by
   have:onA [ar9] 4=some ⟨true,true,false,-1,0⟩:=by rfl
   rw[this] at A;exact (aM A).symm
  subst kc;rcases h with ⟨_,h⟩|⟨_,⟨_,h,_⟩|⟨h,_⟩⟩
  ·exact absurd h (by decide)
  ·exact absurd h (by decide)
  ·exact kh h
 obtain rfl:P0=0:=by omega
 have hM:g.sh=false:=by
  have A : onA [ar9] 4=some g:=(o.out 4).symm.trans G;have:onA [ar9] 4=some ⟨true,true,false,-1,0⟩:=by rfl
  rw[this] at A;rw[<-aM A]
 obtain⟨_,ht⟩:=UJ hU G hM;have hC:=ae ht;have kf:=ae hU.rt;have kg:K.m.fs.length=2:=by have:=hU.len;exact this.trans hS.out.2
 have hs:=R.rd;clear G hU R e0 hM ht
 go_wp2_with (refine aL rfl _ _ _ rfl (fB K) rfl rfl rfl machine_size (jN _) ?_)
 intro w7 t F;have hN:=hO.below t;have hr:=hs.below t;have U:=V.ext t;have hx:=ag hy t;clear hO hs V hy t;generalize w6.heap.size=gk at F
 go_wp2_with (refine ay _ _ rfl gm 0 rfl rfl _ U.rd _ underlying45 rfl machine_size ?_)
 refine (Ef C 0 5 true _ hN hG.out).mono ?_;rintro r w8 ⟨hb,c⟩;have hq:=hr.below hb;have N:=F.ext hb;have hw:=ag hx hb;clear hN hr U F hx hb;have hH:onA [ar9] 5=none:=by rfl
 rcases c with ⟨e,rfl,_,O⟩|⟨P1,_,_,g1,e1,_,_,hg1,_⟩
 rotate_left
 ·exfalso;obtain rfl:P1=0:=by omega
  have A:=(o.out 5).symm.trans hg1;rw[hH] at A;cases A
 have kd:e=5:=by
  rcases O with ⟨h,_⟩|⟨_,g,G,_⟩
  ·exact h
  have A : onA [ar9] 5=some g:=(o.out 5).symm.trans G;rw[hH] at A;cases A
 subst kd;clear O hH
 go_wp2_with (refine aL rfl _ _ _ rfl (fB noH) rfl rfl rfl machine_size (jN _) ?_)
 intro w9 ha zx9;have hp:=hq.below ha;have M:=N.ext ha;have hX:=ag hw ha;clear hq N hw ha zx9;obtain⟨gf,of,h0,hT⟩:=kM fJ (by decide) hp.fr.rd f S;have hV:w9.cell? ⟨gf,of+f*13+8,none⟩=some (.int .i64 1):=by
  have e:aD K.ma f=K.m.fs[f]:=by unfold aD;show K.m.fs.getD f fr0=_;rw[aX,aH S];rfl
  have h1:=hC.out;rw[e] at h1;obtain⟨b',o',e',z⟩:=hT 8 _ rfl;cases e';rw[h1] at z;exact z
 have ki:(f:Int)<2:=by omega
 have L:=M.cell;unfold fB at L;rw[h0,kg] at L;clear hT h0
 go_wp2_with (refine ay _ _ rfl gk 0 rfl rfl _ M.rd _ underlying45 rfl machine_size ?_)
 refine (LG K _ hp kf.out).mono ?_;rintro r wa ⟨rfl,ke⟩;have hW:=ag hX ke;go_wp2;go_ret;exact⟨rfl,hW⟩
theorem Nn (cf cs cb:Int) (l:List UInt8) (p n:Int) (U:Bool) (al:Option Addr) (cl:Nat) (w:World) (D:ve w al cl l.length (l.map CQ)) :
  Calls Tryz.prog 6 #[.agg #[.int .i64 cf,.int .i64 cs,.int .i64 cb],.slice al l.length cl,.int .i64 p,.int .i64 n,.bool U] w λr w'=>r = .returned (.bool true)/\Below w.heap.size w w':=by
 go_enter func6,ntmps6;go_upto_region 1 with (fail);refine iC (λW=>Code.wp _ _ _ _ W) λw1 O J hv => ?_;have hk:=D.below O;clear D
 go_wp2_with fail
 refine (VS w1).mono ?_;rintro r w2 ⟨rfl,t⟩;have hi:=hk.below t;have I:=J.ext t;have hb:=ag O t;clear hk J O t hv;have hx:=I.cell
 go_wp2_with fail
 refine (Fq cf cs cb al cl l w2 hi).mono ?_;rintro r w3 ⟨H,rfl,ho,hn,Z,X,Y,_,_,_,_⟩;have ha:=ag hb hn;have y:=ho.rd;have R:=ae (Tg Z X Y);clear hi I hx hb hn ho Z X Y
 go_wp2_with (refine aL rfl _ _ _ rfl (fB H) rfl rfl rfl machine_size (jN _) ?_)
 intro w4 Q A;have v:=y.below Q;have z:=ag ha Q;clear y ha Q;generalize w3.heap.size=gm at A;have hz:H.m.fs.length<=1000:=(vT R.out.rt).fs;have hc:=A.cell;unfold fB at hc;go_upto_region 6 with (fail);clear hc
 go_loopw [32,12] (fun i k wr => ∃j:Nat,j<=H.m.fs.length/\i = .int .i64 j/\k = .int .i64 (((H.m.fs.take j).countP fun f=>decide (f.r=0):Nat):Int)/\Below w.heap.size w wr/\aG wr gm (fB H) 45/\FD wr H) (fun i _ _=>H.m.fs.length-(intOf i).toNat)
 case atStart=>exact⟨0,aZ _,rfl,rfl,z,A,v⟩
 case round=>
  clear z A v;obtain⟨j,hj,rfl,rfl,s,M,h⟩:=hrel
  by_cases G:j<H.m.fs.length
  ·have hw:(j:Int)<(H.m.fs.length:Int):=by omega
   obtain⟨bf,of,N,hm⟩:=kM fJ (by decide) h.fr.rd j G;have c:Hid ((H.m.fs.take (j+1)).countP (λf=>decide (f.r=0))=(H.m.fs.take j).countP (λf=>decide (f.r=0))+if decide ((H.m.fs[j]).r=0)=true then 1 else 0):=ae (xB _ _ _ G);have hA:(H.m.fs.take j).countP (λf=>decide (f.r=0))<=j:=bi wD (by rw[iB];omega);generalize H.m.fs[j]=F at *
   generalize (H.m.fs.take j).countP (λf=>decide (f.r=0))=C at *
   have hy:=ae N;rw[N];clear N
   go_wp2_with (first | (refine ay _ _ rfl bf (of+j*13) rfl rfl _ hm _ underlying66 rfl frame_size ?_) | (refine aL rfl _ _ _ rfl (sU F) rfl rfl rfl frame_size (oL _) ?_))
   intro w5 d S;have a:=ag s d;have L:=M.ext d;have u:=h.below d;clear d hm s M h;have hl:=S.cell;unfold sU at hl
   by_cases D:F.r=0
   ·rw[D] at hl;have o : Hid ((H.m.fs.take (j+1)).countP (λf=>decide (f.r=0))=C+1):=ae (by rw[c.out];simp[D]);clear c D;go_wp2;go_roundw
    case rel=>exact⟨j+1,by omega,by go_num,by rw[o.out];go_num,a,L,u⟩
    case measure=>simp[intOf];omega
   have o : Hid ((H.m.fs.take (j+1)).countP (λf=>decide (f.r=0))=C):=ae (by rw[c.out];simp[D]);clear c;go_wp2;go_roundw
   case rel=>exact⟨j+1,by omega,by go_num,by rw[o.out],a,L,u⟩
   case measure=>simp[intOf];omega
  have hw:¬(j:Int)<(H.m.fs.length:Int):=by omega
  have c:Hid ((H.m.fs.take j).countP (λf=>decide (f.r=0))=uJ H.m.fs):=ae (by rw[ji (by omega)];rfl);rw[c.out];clear c
  go_wp2_with (refine ay _ _ rfl gm 0 rfl rfl _ M.rd _ underlying45 rfl machine_size ?_)
  refine (Ef H p n U _ h R.out).mono ?_;rintro r w5 ⟨d,hd⟩;have a:=ag s d;clear s M h d;rcases hd with ⟨e,rfl,_,V⟩|⟨P,K,f,g,_,_,_,_,_,rfl,_,_,_⟩
  ·have ht:=ae V;clear V
   go_wp2_with (refine aL rfl _ _ _ rfl (fB noH) rfl rfl rfl machine_size (jN _) ?_)
   intro w6 q E;have b:=ag a q;clear a q E
   by_cases h2:(uJ H.m.fs:Int)<2
   ·go_wp2;go_ret;exact⟨rfl,b⟩
   have he:¬e=10:=Ko R.out ht.out (by omega);go_wp2;go_ret;exact⟨congrArg (λx=>Ending.returned (.bool x)) (bne_iff_ne.2 he),b⟩
  go_wp2_with (refine aL rfl _ _ _ rfl (fB K) rfl rfl rfl machine_size (jN _) ?_)
  intro w6 q E;have b:=ag a q;clear a q E
  by_cases h2:(uJ H.m.fs:Int)<2
  ·go_wp2;go_ret;exact⟨rfl,b⟩
  go_wp2;go_ret;exact⟨rfl,b⟩
open Go.ChangeShapes Go.WideShapes Go.ChangeAt
theorem opens_cfg:zl Tryz.prog 51 (λx:Int × Int × Int=>[.int .i64 x.1,.int .i64 x.2.1,.int .i64 x.2.2]) (λ_ x=>i64 x.1/\i64 x.2.1/\i64 x.2.2):=
 (Jm underlying51 (sO rfl 1 rfl (by kernel_rfl) (Bi underlying3).w (sO rfl 2 rfl (by kernel_rfl) (Bi underlying3).w (sO rfl 3 rfl (by kernel_rfl) (Bi underlying3).w (FJ (by kernel_rfl)))))).of (λx=>(x.1,x.2.1,x.2.2.1)) (λ_=>rfl) (λ_ _ h=>⟨h.1,h.2.1,h.2.2.1⟩)
theorem NH {H:Type} {en:TypeId × Value->H} {x:DataW H × List MemPlace} (c:Value.okWide Tryz.prog W .any base 51 v) (h:DataW.trod en Tryz.prog W base' spare held fuel 51 v.cells.toList=some x) :
  ∃f s b:Int,v = .agg #[.int .i64 f,.int .i64 s,.int .i64 b]/\i64 f/\i64 s/\i64 b:=by
 obtain⟨cs,rfl,_⟩:=okWide_struct underlying51 c;obtain⟨⟨f,s,b⟩,a,k,j,d⟩:=opens_cfg _ _ _ _ _ _ _ _ _ h;refine⟨f,s,b,?_,k,j,d⟩;congr 1;apply Array.ext';simpa[Value.cells] using a
end Go.Proofs.YthihaopabbpalaaGreat