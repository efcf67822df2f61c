import Derived.Test.YthihaopabbpalaaGreatF7
import Derived.BigRegion
set_option linter.unusedSimpArgs false
set_option linter.unusedVariables false
set_option linter.unnecessarySimpa false
set_option maxHeartbeats 4000000
set_option maxRecDepth 100000
namespace Go.Proofs.YthihaopabbpalaaGreat
open _root_.Go.Proofs.Tryz
open Go.RowKit Go.Maps Pw
variable {B b base base' fuel g go i off p sz:Nat} {H:MH} {P:Program} {T T' e t:TypeId} {W w:World} {cs cs' cur:Array Value} {held:Bool} {m:Ma} {o:Oper} {spare:Nat -> Bool} {v:Value} {vs:List Value} {x:Operand} {ρ:Operand -> Value}
theorem TQ{t:Tb}{n:Nat}(a:n<64):(dE t).getD n zEn=dK t (n:Int):=by
 unfold dE;rw[aY,iV,rT a];rfl
theorem Ui{y:Operand}{n:Nat}{k:IntKind}(z:o.op = .indexAddr t x y)(s:ρ x = .pointer (some ⟨b,off,none⟩))(q:ρ y = .int k (i:Int))(A:i<n)
 (u:P.underlying t=some (.array n e)) (j:(P.info? e).map (·.size)=some sz):(execOp ρ o).run P w = .ok (.value (.pointer (some ⟨b,off+i*sz,none⟩))) w:=by
 obtain⟨f,a,c⟩:∃f,P.info? e=some f/\f.size=sz:=by
  cases h:P.info? e with
  | none=>rw[h]at j;cases j
  | some f=>rw[h]at j;exact⟨f,rfl,by simpa using j⟩
 have d:(Go.sizeOf e).run P w = .ok sz w:=by simp[Go.sizeOf,typeInfo,a,go_sem,c]
 simp[execOp,go_sem,z,s,q,u,d,A]
theorem WF{f:Nat->Option Pg}{o:Option Pg}(h:aG w go (fC f) T)(c:i<64)(a:f i=o):eB w (some ⟨go,i*6,none⟩) (wW o).toList:=by
 have d:=bF h (i*6) 6;have h2:=OC f i c;rw[a]at h2;have e:((fC f).toList.drop (i*6)).take 6=(wW o).toList:=by rw[<-h2,Array.toList_extract];simp[List.extract_eq_take_drop]
 rwa [e]at d
theorem FC(H:MH)(w:World)(h:FK w H)(hR:Rt H.ma) :
  Calls Tryz.prog 21 #[.agg (fF H)] w λr w'=>r = .returned (.int .i64 0)/\Below w.heap.size w w':=by
 have hh:=ae h;have o:=ae hR;have hz:=ae (vX hR);have z1:H.ca.length<=1000:=hz.out.ca;have z2:H.m.fs.length<=1000:=hz.out.fs;have z3:H.sl.length<=1000:=hz.out.sl;have z4:H.sp.length<=4:=by have:=hR.pt.spl;rw[tV]at this;exact this
 have hZ:=ae (yu hR.pt.st);clear hR;go_enter func21,ntmps21;go_upto_region 1 with(fail);refine iG (λW=>Code.wp _ _ _ _ W) λw1 km Y k6 => ?_;have Y:aG w1 w.heap.size (fF H) 45:=Y;have h1:=h.below km;clear h k6
 go_wp2_with (refine ay _ _ rfl w.heap.size 0 rfl rfl _ Y.rd _ underlying45 rfl machine_size ?_)
 refine(PW H _ h1 o.out).mono ?_;rintro r w2 ⟨rfl,kl⟩;have bx2:=Y.ext kl;have ka:=ag km kl;clear h1 Y km kl;have C:=bx2.cell;unfold fF at C;go_wp2
 go_loopw [29] (fun s29 wr => ∃q:Nat,q<=H.ca.length/\s29 = .int .i64 q/\Below w.heap.size w wr/\aG wr w.heap.size (fF H) 45) (fun s29 _=>H.ca.length-(intOf s29).toNat)
 case atStart=>exact⟨0,bq _,rfl,ka,bx2⟩
 case round=>
  clear ka bx2 C;obtain⟨q,hq,rfl,b,A⟩:=hrel;have D:=hh.out.below b
  by_cases hql:q<H.ca.length
  .obtain⟨Z,R,hl,hJ⟩:=kE jc (by decide) D.ca.rd q hql;have kv:(q:Int)<(H.ca.length:Int):=by omega
   have u:H.ca[q]∈H.ma.ca:=eu hql;obtain⟨⟨f1,f2⟩,f3,f4⟩:=o.out.ca.file _ u;obtain⟨f5,f6⟩:=o.out.ca.lt _ u;obtain⟨f7,f8,f9⟩:=o.out.ca.fr _ u;have kd:Hid (∀G:Nat,q=G+1->∃d:Cc,H.ca[G]?=some d/\CK d H.ca[q]/\0<=d.f/\d.f<1000/\0<=d.i/\d.i<12):=ae (λG e=>by
    have h1:G<H.ca.length:=by omega
    refine⟨H.ca[G],aF h1,(Af.1 o.out.ca.srt) G q h1 hql (by omega),?_⟩;obtain⟨⟨g1,g2⟩,g3,g4⟩:=o.out.ca.file _ (eu h1:H.ca[G]∈H.ma.ca);have hm:aN H.ma.st H.ca[G].f∈H.ma.st.fs:=by unfold aN;rw[if_pos g1,aY,aF (by omega)];exact eu _
    have:=hZ.out _ hm;have k5:=hz.out.st.1;exact⟨g1,by omega,g3,by omega⟩)
   generalize hcq:H.ca[q]=c at *
   obtain⟨F,kS⟩:∃F:Nat,c.f=F:=⟨c.f.toNat,by omega⟩;have kp:F<H.fi.length:=by have:H.ma.st.fs.length=H.fi.length:=dV _;omega
   obtain⟨bf,of,kW,kJ⟩:=kE kR (by decide) D.st.rd F kp;have kX:Hid (aN H.ma.st c.f=(H.fi[F]).fi):=ae (by rw[kS];exact iE (by show(H.fi.map PF.fi)[F]?=_;rw[iV,aF kp];rfl));have f4' : c.i<((H.fi[F]).l.length:Int):=by rw[kX.out]at f4;exact f4
   generalize H.fi[F]=P at *
   obtain⟨K,kk⟩:∃K:Nat,c.k=K:=⟨c.k.toNat,by omega⟩;have k1:K<H.m.fs.length:=Int.ofNat_lt.1 (by rw[<-kk];exact f6);obtain⟨bm,om,hF,hI⟩:=kE fQ (by decide) D.fr.rd K k1;have hO:aD H.ma c.k.toNat=H.m.fs[K]:=by rw[kk,bu];unfold aD;show H.m.fs.getD K fr0=_;rw[aY,aF k1];rfl
   rw[hO]at f7 f8 f9;generalize H.m.fs[K]=X at *
   have kB:Hid (0<=c.f/\c.f<1000/\0<=c.i/\c.i<12):=ae (by
    have hm:aN H.ma.st c.f∈H.ma.st.fs:=by unfold aN;rw[if_pos f1,aY,aF (by omega)];exact eu _
    have:=hZ.out _ hm;have k5:=hz.out.st.1;exact⟨f1,by omega,f3,by omega⟩)
   have c1:¬c.f<0:=by omega
   have c2:¬(H.fi.length:Int)<=c.f:=by omega
   have c3:¬c.i<0:=by omega
   have c4:¬(P.l.length:Int)<=c.i:=by omega
   have c5:¬c.k<0:=by omega
   have c6:¬(H.m.fs.length:Int)<=c.k:=by omega
   have kT:=ae (And.intro f7 (And.intro f8 f9));clear f1 f2 f3 f4 f4' f5 f6 f7 f8 f9 hO kX u;rw[hl]
   go_wp2_with (first | (refine ay _ _ rfl Z (R+q*3) rfl rfl _ hJ _ underlying122 rfl cached_size ?_) | (refine aK rfl _ _ _ rfl (xe c) rfl rfl rfl cached_size (wB _) ?_))
   intro w3 hD L;have U:=A.ext hD;have h8:=ag b hD;have hC:∀W,Below w3.heap.size w3 W->W.cell? ⟨bf,of+F*2+1,none⟩=some (.slice P.a P.l.length P.c):=λW I=>by obtain⟨b',o',e,C⟩:=((kJ.below hD).below I) 1 _ rfl;cases e;exact C
   have hY:=hI.below hD;have k0:=D.below hD;clear b A hD hJ kJ hI D;go_upto_region 7 with(fail);refine aV 45 [_,_,_,_,_,_,_,_,_,_,_,_,_,_,_,_,_,_,_,_,_,_,_,_,_,_,_,_,_,_,_,_,_,_,_,_,_,_,_,_,_,_,_,_,.v (.bool false)] (Gf wr.heap.size 0 rfl rfl (Gl L rfl rfl rfl rfl rfl (Gb (.bool false) (by simp[go_sem,c1]) rfl rfl rfl rfl rfl (Gk rfl (Gf wr.heap.size 0 rfl rfl (Gl L rfl rfl rfl rfl rfl (Gf w.heap.size 7 rfl rfl (Gf w.heap.size 7 rfl rfl (Gl U rfl rfl rfl rfl rfl (Gn rfl rfl rfl rfl (Gb (.bool false) (by simp[go_sem,c2]) rfl rfl rfl rfl rfl (Gk rfl (Gk rfl (Gf wr.heap.size 1 rfl rfl (Gl L rfl rfl rfl rfl rfl (Gb (.bool false) (by simp[go_sem,c3]) rfl rfl rfl rfl rfl (Gk rfl (Gk rfl (Gf wr.heap.size 1 rfl rfl (Gl L rfl rfl rfl rfl rfl (Gf w.heap.size 7 rfl rfl (Gf w.heap.size 7 rfl rfl (Gl U (V:=.slice (some ⟨bf,of,none⟩) H.fi.length H.ci) (by simp[fF,kW]) rfl rfl rfl rfl (Gf wr.heap.size 0 rfl rfl (Gl L (V:=.int .i64 (F:Int)) (by simp[xe,kS]) rfl rfl rfl rfl (Gr (.pointer (some ⟨bf,of+F*2,none⟩)) (λρ y W I j=>(cO rfl (aL rfl j) (aL rfl j) kp underlying39 file_size)) rfl rfl (Gf bf (of+F*2+1) rfl rfl (Gc (.slice P.a P.l.length P.c) (λW I=>by simp[hC _ I]) rfl rfl rfl rfl (Gn rfl rfl rfl rfl (Gb (.bool false) (by simp[go_sem,c4]) rfl rfl rfl rfl rfl (Gk rfl (Gk rfl (Gf wr.heap.size 2 rfl rfl (Gl L rfl rfl rfl rfl rfl (Gb (.bool false) (by simp[go_sem,c5]) rfl rfl rfl rfl rfl (Gk rfl (Gk rfl (Gf wr.heap.size 2 rfl rfl (Gl L rfl rfl rfl rfl rfl (Gf w.heap.size 0 rfl rfl (Gf w.heap.size 0 rfl rfl (Gl U rfl rfl rfl rfl rfl (Gn rfl rfl rfl rfl (Gb (.bool false) (by simp[go_sem,c6]) rfl rfl rfl rfl rfl (Gk rfl (aI)))))))))))))))))))))))))))))))))))))))))))))) (λ_=>rfl) rfl ?_;intro y W4 ha _;have bx4:=U.ext ha;have cx4:=L.ext ha;have h7:=ag h8 ha;have hX:=hY.below ha;have kZ:=k0.below ha;have C:=bx4.cell;unfold fF at C;rw[hF]at C;have hu:=cx4.cell;unfold xe at hu;rw[kk]at hu;have gi:(K:Int)<(H.m.fs.length:Int):=by omega
   clear hC h8 U L hY k0 ha kW c1 c2 c3 c4 c5 c6
   go_wp2_with (first | (refine ay _ _ rfl bm (om+K*13) rfl rfl _ hX _ underlying66 rfl frame_size ?_) | (refine aK rfl _ _ _ rfl (tX X) rfl rfl rfl frame_size (oG _) ?_))
   intro w5 hN fx5;have bx5:=bx4.ext hN;have cx5:=cx4.ext hN;have h6:=ag h7 hN;have ko:=kZ.below hN;clear h7 bx4 cx4 hX kZ hN C hu;have hS:=fx5.cell;unfold tX at hS;have hu:=cx5.cell;unfold xe at hu;obtain⟨g7,g8,g9⟩:=kT.out;have d1:¬X.r=0:=by omega
   rw[g8,g9]at hS;clear g7 g8 g9;go_upto_region 12 with(fail);rcases ug q with hq0|hqp
   .subst hq0;refine aV 27 [_,_,_,_,_,_,_,_,_,_,_,_,_,_,_,_,_,_,_,_,_,_,_,_,_,_,.v (.bool false)] (Gk rfl (Gb (.bool false) (by simp[go_sem,]) rfl rfl rfl rfl rfl (Gk rfl (Gk rfl (Gk rfl (Gk rfl (Gk rfl (Gk rfl (Gk rfl (Gk rfl (Gk rfl (Gk rfl (Gk rfl (Gk rfl (Gk rfl (Gk rfl (Gk rfl (Gk rfl (Gk rfl (Gk rfl (Gk rfl (Gk rfl (Gk rfl (Gk rfl (Gk rfl (Gk rfl (Gk rfl (aI)))))))))))))))))))))))))))) (λ_=>rfl) rfl ?_;intro y W6 hs _;have J:=bx5.ext hs;have s:=ag h6 hs;clear ko hl hF;go_wp2;go_roundw
    case rel=>exact⟨1,by omega,by go_num,s,J⟩
    case measure=>simp[intOf];omega
   obtain⟨G,kw⟩:∃G,q=G+1:=⟨q-1,by omega⟩;obtain⟨d,hd,kC,g1,g2,g3,g4⟩:=kd.out G kw;have hv:G<H.ca.length:=by omega
   obtain⟨bc',oc',kb,hy⟩:=kE jc (by decide) ko.ca.rd G hv;rw[hl]at kb;cases kb;have kL:H.ca[G]=d:=by have:=aF hv;rw[hd]at this;exact(aM this).symm
   rw[kL]at hy;have kN:∀W,Below w5.heap.size w5 W->W.cell? ⟨Z,R+G*3,none⟩=some (.int .i64 d.f):=λW I=>by obtain⟨b',o',e,C⟩:=(hy.below I) 0 _ rfl;cases e;exact C
   have kM:∀W,Below w5.heap.size w5 W->W.cell? ⟨Z,R+G*3+1,none⟩=some (.int .i64 d.i):=λW I=>by obtain⟨b',o',e,C⟩:=(hy.below I) 1 _ rfl;cases e;exact C
   obtain⟨e1,e2,e3,e4⟩:=kB.out;have m0:IntKind.i64.wrap ((q:Int)-1)=(G:Int):=(bI _ (by omega)).trans (by omega);have m1:IntKind.i64.wrap (100*d.f)=100*d.f:=(bI _ (by omega)).trans (by omega);have m2:IntKind.i64.wrap (100*d.f+d.i)=100*d.f+d.i:=(bI _ (by omega)).trans (by omega);have m3:IntKind.i64.wrap (100*c.f)=100*c.f:=(bI _ (by omega)).trans (by omega);have m4:IntKind.i64.wrap (100*c.f+c.i)=100*c.f+c.i:=(bI _ (by omega)).trans (by omega);have m5:¬100*c.f+c.i<=100*d.f+d.i:=by unfold CK at kC;omega
   refine aV 27 [_,_,_,_,_,_,_,_,_,_,_,_,_,_,_,_,_,_,_,_,_,_,_,_,_,_,.v (.bool false)] (Gk rfl (Gb (.bool true) (by simp[go_sem,hqp]) rfl rfl rfl rfl rfl (Gk rfl (Gf w.heap.size 9 rfl rfl (Gl bx5 (V:=.slice (some ⟨Z,R,none⟩) H.ca.length H.cc) (by simp[fF,hl]) rfl rfl rfl rfl (Gk rfl (Gb (.int .i64 (G:Int)) (by simp[go_sem,m0]) rfl rfl rfl rfl rfl (Gr (.pointer (some ⟨Z,R+G*3,none⟩)) (λρ y W I j=>(cO rfl (aL rfl j) (aL rfl j) hv underlying42 cached_size)) rfl rfl (Gf Z (R+G*3) rfl rfl (Gc (.int .i64 d.f) (λW I=>by simp[kN _ I]) rfl rfl rfl rfl (Gb (.int .i64 (100*d.f)) (by simp[go_sem,m1]) rfl rfl rfl rfl rfl (Gf w.heap.size 9 rfl rfl (Gl bx5 (V:=.slice (some ⟨Z,R,none⟩) H.ca.length H.cc) (by simp[fF,hl]) rfl rfl rfl rfl (Gk rfl (Gb (.int .i64 (G:Int)) (by simp[go_sem,m0]) rfl rfl rfl rfl rfl (Gr (.pointer (some ⟨Z,R+G*3,none⟩)) (λρ y W I j=>(cO rfl (aL rfl j) (aL rfl j) hv underlying42 cached_size)) rfl rfl (Gf Z (R+G*3+1) rfl rfl (Gc (.int .i64 d.i) (λW I=>by simp[kM _ I]) rfl rfl rfl rfl (Gb (.int .i64 (100*d.f+d.i)) (by simp[go_sem,m2]) rfl rfl rfl rfl rfl (Gf wr.heap.size 0 rfl rfl (Gl cx5 rfl rfl rfl rfl rfl (Gb (.int .i64 (100*c.f)) (by simp[go_sem,m3]) rfl rfl rfl rfl rfl (Gf wr.heap.size 1 rfl rfl (Gl cx5 rfl rfl rfl rfl rfl (Gb (.int .i64 (100*c.f+c.i)) (by simp[go_sem,m4]) rfl rfl rfl rfl rfl (Gb (.bool false) (by simp[go_sem,m5]) rfl rfl rfl rfl rfl (Gk rfl (aI)))))))))))))))))))))))))))) (λ_=>rfl) rfl ?_;intro y W6 hs _;have J:=bx5.ext hs;have s:=ag h6 hs;clear ko hl hF kN kM m0 m1 m2 m3 m4 m5 hy hd kC g1 g2 g3 g4 e1 e2 e3 e4 kL kw;go_wp2;go_roundw
   case rel=>exact⟨q+1,by omega,by go_num,s,J⟩
   case measure=>simp[intOf];omega
  have kv:¬(q:Int)<(H.ca.length:Int):=by omega
  have C:=A.cell;unfold fF at C;clear D;go_wp2
  go_loopw [134] (fun s134 wr => ∃p:Nat,p<=H.sp.length/\s134 = .int .i64 p/\Below w.heap.size w wr/\aG wr w.heap.size (fF H) 45) (fun s134 _=>H.sp.length-(intOf s134).toNat)
  case atStart=>exact⟨0,bq _,rfl,b,A⟩
  case round=>
   clear b A C kv;obtain⟨p,hp,rfl,b,A⟩:=hrel;have D:=hh.out.below b
   by_cases hpl:p<H.sp.length
   .obtain⟨bd,od,P,k9,hP,ku⟩:=rG D.sp.rd p hpl;have kx:(p:Int)<(H.sp.length:Int):=by omega
    have ht:=rM D hP;have ks:P.sp∈H.ma.sp:=by show P.sp∈H.sp.map PS.sp;exact eU.2 ⟨P,bS hP,rfl⟩
    have hG:(bP P.ar).1=0:=o.out.pt.ar P.sp ks;have kq:Hid (dB P.tb=0):=ae (o.out.pt.tb P.sp ks);have kc:=ae (pV hP);obtain⟨gb,kV⟩:=sI hG;have k7:Hid (∀i:Nat,cZ P.ar i=eT H.ma p i):=ae (λi=>by rw[pJ (lI (iZ.1 hG).2)];unfold eT;rw[kc.out];rfl);rw[k9]
    go_wp2_with (first | (refine ay _ _ rfl bd (od+p*10) rfl rfl _ ku _ underlying76 rfl space_size ?_) | (refine aK rfl _ _ _ rfl (yX P) rfl rfl rfl space_size (by rw[<-mO,fA];exact ht.one) ?_))
    intro w6 hj px6;have s:=ag b hj;have J:=A.ext hj;have kf:=ht.below hj;have kO:=px6.cell;unfold yX at kO;clear b A hj ku D ht hG
    go_wp2_with fail
    refine(nJ P.ar P.aa P.ac _ kf.ars.rd (by omega) kV).mono ?_;rintro r w7 ⟨rfl,t⟩;have x:=ag s t;have O:=J.ext t;have px7:=px6.ext t;have kI:=kf.below t;clear s J px6 kf t kO
    go_wp2_with (refine aK rfl _ _ _ rfl (fC (cZ P.ar)) rfl rfl (by rw[kF];rfl) (by rw[kF];exact ones_size) (Bb _) ?_)
    intro w8 z ox8;have hr:=ag x z;have S:=O.ext z;have px8:=px7.ext z;have kH:=kI.below z;clear x O px7 kI z;have kt:eB w8 (some ⟨wr.heap.size,2,none⟩) (nT P.ts).toList:=bF px8 2 8
    go_wp2_with (refine ay _ _ rfl wr.heap.size 2 rfl rfl _ kt _ underlying74 tab_agg tab_size ?_)
    refine(BV P.tb (nT P.ts) _ kH.tb kq.out).mono ?_;rintro r w9 ⟨rfl,hV⟩;rw[IK (yN P.tb)];have hE:Hid (∀n:Nat,n<64->(dE P.tb).getD n zEn=ent H.ma p n):=ae (λn hn=>by rw[TQ hn];unfold ent;rw[kc.out];rfl);have h5:=ag hr hV;have bx9:=S.ext hV;have ox9:=ox8.ext hV;generalize dE P.tb=l at *
    obtain⟨go,kD⟩:∃go,w7.heap.size=go:=⟨_,rfl⟩;rw[kD]at ox9 ⊢;clear hr S px8 kH hV kt ox8 kD;go_wp2
    go_loopw [144] (fun s144 wr => ∃i:Nat,i<=64/\s144 = .int .i64 i/\Below w.heap.size w wr/\aG wr w.heap.size (fF H) 45/\aG wr go (fC (cZ P.ar)) 81) (fun s144 _=>64-(intOf s144).toNat)
    case atStart=>exact⟨0,by omega,rfl,h5,bx9,ox9⟩
    case round=>
     clear h5 bx9 ox9;obtain⟨i,hi,rfl,b,A,ox⟩:=hrel
     by_cases Q:i<64
     .have ke:(i:Int)<64:=by omega
      have hH:=hE.out i Q;generalize heE:ent H.ma p i=E at hH;have k8:=Dp l i Q E hH;have hK:=ae heE;clear heE hH
      go_wp2_with (refine aK rfl _ _ _ rfl (jy E) rfl rfl rfl entry_size (by simp[jy,Value.oneCell']) ?_)
      intro wa hU ea;have hB:=ag b hU;have bxa:=A.ext hU;have oxa:=ox.ext hU;clear k8 b A ox hU;have hx:=ea.cell;unfold jy at hx
      by_cases hk0:E.k=0
      .rw[hk0] at hx;clear hk0;go_wp2;go_roundw
       case rel=>exact⟨i+1,by omega,by go_num,hB,bxa,oxa⟩
       case measure=>simp[intOf];omega
      obtain⟨g,hg,hf⟩:=o.out.en p i (by rw[hK.out];exact hk0);rw[hK.out]at hf;have h2:eF E=0:=by rw[<-hK.out];unfold ent;rw[kc.out];exact qL kq.out i
      have kz:cZ P.ar i=some g:=(k7.out i).trans hg;have ky:=ae kz;have kg:=ae (And.intro hf (And.intro hk0 h2));clear hf hg h2 kz;go_upto_region 23 with(fail);refine aV 7 [_,_,_,_,_,.v (.int .i64 0),.v (.int .i64 0)] (Gr (.agg (fF H)) (λρ y W I j=>(eD rfl (aL rfl j) (bxa.ext I) underlying45 rfl machine_size)) rfl rfl (Gk rfl (Gr (.pointer (some ⟨go,0+i*6,none⟩)) (λρ y W I j=>(Ui rfl (aL rfl j) (aL rfl j) Q underlying81 one_size)) rfl rfl (Gr (.agg (wW (some g))) (λρ y W I j=>(bH rfl (aL rfl j) (by rw[ed];exact WF (oxa.ext I) Q ky.out) underlying80 rfl one_size)) rfl rfl (Gr (.agg (jy E)) (λρ y W I j=>(eD rfl (aL rfl j) (ea.ext I) underlying68 rfl entry_size)) rfl rfl (ah ?_ (Gk rfl (aI)))))))) (λ_=>rfl) rfl ?_
      .intro ρ y W hw hn I hd;have k4:=hw 151 0 rfl;have h0:y 0=_:=hd 0 rfl;have k3:=hw 154 3 rfl;have h3:y 3=_:=hd 3 rfl;have k2:=hw 155 4 rfl;have h4:y 4=_:=hd 4 rfl;have EF:=eF0 hn λ_=>trivial;refine aO _ _ (aj rfl) (aS rfl (EF _) func53 (by kernel_rfl) (by kernel_rfl) (by simp only[bW,bQ,aZ,k4,h0,k3,h3,k2,h4,EF];rfl)) ?_;refine(QS H g E W (hh.out.below (ag hB I)) o.out kg.out.1 kg.out.2.1 kg.out.2.2).mono ?_;rintro r wz ⟨rfl,ga⟩;exact⟨_,rfl,ga,rfl⟩
      intro y wb hA _;have kU:=ag hB hA;have bxb:=bxa.ext hA;have oxb:=oxa.ext hA;clear hB bxa oxa ea hx hA;go_wp2;go_roundw
      case rel=>exact⟨i+1,by omega,by go_num,kU,bxb,oxb⟩
      case measure=>simp[intOf];omega
     have ke:¬(i:Int)<64:=by omega
     clear ox;go_wp2;go_roundw
     case rel=>exact⟨p+1,by omega,by go_num,b,A⟩
     case measure=>simp[intOf];omega
   have kx:¬(p:Int)<(H.sp.length:Int):=by omega
   have C:=A.cell;unfold fF at C;clear D;go_wp2
   go_loopw [166] (fun s166 wr => ∃k:Nat,k<=H.m.fs.length/\s166 = .int .i64 k/\Below w.heap.size w wr/\aG wr w.heap.size (fF H) 45) (fun s166 _=>H.m.fs.length-(intOf s166).toNat)
   case atStart=>exact⟨0,bq _,rfl,b,A⟩
   case round=>
    clear b A C kx;obtain⟨k,hk,rfl,b,A⟩:=hrel;have D:=hh.out.below b
    by_cases M:k<H.m.fs.length
    .obtain⟨bm,om,hF,hI⟩:=kE fQ (by decide) D.fr.rd k M;have hQ:(k:Int)<(H.m.fs.length:Int):=by omega
     have hO:aD H.ma k=H.m.fs[k]:=by unfold aD;show H.m.fs.getD k fr0=_;rw[aY,aF M];rfl
     have kj:=o.out.cf k M;have kh:=o.out.fc k M;rw[hO]at kj kh;have gh:bO H.ma 1 k<=256:=by have h9:=Fq H.ma 1 k;have e9:H.ma.sp.length=H.sp.length:=tV H;omega
     have kQ:tY H.ma k<=H.ca.length:=yG;generalize H.m.fs[k]=X at *
     have kK:=ae kh;have kP:=ae kj;clear hO kj kh;rw[hF]
     go_wp2_with (first | (refine ay _ _ rfl bm (om+k*13) rfl rfl _ hI _ underlying66 rfl frame_size ?_) | (refine aK rfl _ _ _ rfl (tX X) rfl rfl rfl frame_size (oG _) ?_))
     intro w6 hj fx6;have s:=ag b hj;have J:=A.ext hj;have kY:=D.below hj;clear b A hj hI D hF
     go_wp2_with (refine ay _ _ rfl w.heap.size 0 rfl rfl _ J.rd _ underlying45 rfl machine_size ?_)
     refine(zM H 1 k _ kY o.out).mono ?_;rintro r w7 ⟨rfl,t⟩;have x:=ag s t;have O:=J.ext t;have fx7:=fx6.ext t;clear s J kY fx6 t;obtain⟨gf,kG⟩:∃gf,wr.heap.size=gf:=⟨_,rfl⟩;rw[kG]at fx7 ⊢;generalize hhN:bO H.ma 1 k=N at *
     have gd:=ae hhN;clear kG hhN;have C:=O.cell;unfold fF at C;go_wp2
     go_loopw [177,16] (fun s177 s16 wr => ∃i m:Nat,i<=H.ca.length/\s177 = .int .i64 i/\s16 = .int .i64 m/\m<=i/\Below w.heap.size w wr/\aG wr w.heap.size (fF H) 45/\aG wr gf (tX X) 66/\Hid (m=(H.ca.take i).countP fun c=>decide (c.k=(k:Int)))) (fun s177 _ _=>H.ca.length-(intOf s177).toNat)
     case atStart=>exact⟨0,0,bq _,rfl,rfl,az _,x,O,fx7,ae (by simp)⟩
     case round=>
      clear x O fx7 C;obtain⟨i,m,hi,rfl,rfl,hm,b,A,fx,u⟩:=hrel;have D:=hh.out.below b
      by_cases Q:i<H.ca.length
      .obtain⟨Z,R,hl,hJ⟩:=kE jc (by decide) D.ca.rd i Q;have ke:(i:Int)<(H.ca.length:Int):=by omega
       have hT:Hid ((H.ca.take (i+1)).countP (λc=>decide (c.k=(k:Int)))=(H.ca.take i).countP (λc=>decide (c.k=(k:Int)))+if decide ((H.ca[i]).k=(k:Int))=true then 1 else 0):=ae (CQ _ _ _ Q);generalize H.ca[i]=c at *
       rw[hl]
       go_wp2_with (first | (refine ay _ _ rfl Z (R+i*3) rfl rfl _ hJ _ underlying122 rfl cached_size ?_) | (refine aK rfl _ _ _ rfl (xe c) rfl rfl rfl cached_size (wB _) ?_))
       intro w8 z cx8;have hr:=ag b z;have S:=A.ext z;have fx8:=fx.ext z;have hu:=cx8.cell;unfold xe at hu;clear b A fx z hJ D cx8 hl
       by_cases hck:c.k=(k:Int)
       .have hL : Hid (m+1=(H.ca.take (i+1)).countP λc=>decide (c.k=(k:Int))):=ae (by rw[hT.out,<-u.out];simp[hck]);clear u hT;go_wp2;go_roundw
        case rel=>exact⟨i+1,m+1,by omega,by go_num,by go_num,by omega,hr,S,fx8,hL⟩
        case measure=>simp[intOf];omega
       have hL : Hid (m=(H.ca.take (i+1)).countP λc=>decide (c.k=(k:Int))):=ae (by rw[hT.out,<-u.out];simp[hck]);clear u hT;go_wp2;go_roundw
       case rel=>exact⟨i+1,m,by omega,by go_num,rfl,by omega,hr,S,fx8,hL⟩
       case measure=>simp[intOf];omega
      have ke:¬(i:Int)<(H.ca.length:Int):=by omega
      have kA : m=tY H.ma k:=by rw[u.out,jD (by omega)];rfl
      have gc:X.r=(m:Int)+(N:Int):=by rw[kP.out,kA]
      have kn:0<=X.f->¬m=0:=λh0 e=>by obtain⟨c,C,hck⟩:=kK.out h0;have h9:0<tY H.ma k:=xV.2 ⟨c,C,by simp[hck]⟩;omega
      have hW:(N:Int)+(m:Int)=X.r:=by omega
      have hS:=fx.cell;unfold tX at hS;have ge:IntKind.i64.wrap ((N:Int)+(m:Int))=X.r:=(bI _ (by omega)).trans hW;clear u D kA gc hW kQ
      by_cases h0:0<=X.f
      .have gg:¬(m:Int)=0:=by have:=kn h0;omega
       clear kn;go_wp2;go_roundw
       case rel=>exact⟨k+1,by omega,by go_num,b,A⟩
       case measure=>simp[intOf];omega
      clear kn;go_wp2;go_roundw
      case rel=>exact⟨k+1,by omega,by go_num,b,A⟩
      case measure=>simp[intOf];omega
    have hQ:¬(k:Int)<(H.m.fs.length:Int):=by omega
    have C:=A.cell;unfold fF at C;clear D;go_wp2
    go_loopw [207] (fun s207 wr => ∃k:Nat,k<=H.sl.length/\s207 = .int .i64 k/\Below w.heap.size w wr/\aG wr w.heap.size (fF H) 45) (fun s207 _=>H.sl.length-(intOf s207).toNat)
    case atStart=>exact⟨0,bq _,rfl,b,A⟩
    case round=>
     clear b A C hQ;obtain⟨k,hk,rfl,b,A⟩:=hrel;have D:=hh.out.below b
     by_cases M:k<H.sl.length
     .have hQ:(k:Int)<(H.sl.length:Int):=by omega
      obtain⟨bl,ol,hG,ki⟩:=D.sl.rd k (gB H.sl[k]) (by rw[iV,aF M];rfl);unfold gB at ki;have hC:=o.out.cs k M;have kr:jS H.ma k=H.sl[k]:=by unfold jS;show H.sl.getD k 0=_;rw[aY,aF M];rfl
      rw[kr]at hC;rw[hC]at ki;rw[hG];clear hC kr
      go_wp2_with (refine ay _ _ rfl w.heap.size 0 rfl rfl _ A.rd _ underlying45 rfl machine_size ?_)
      refine (zM H 2 k _ D o.out).mono ?_;rintro r w7 ⟨rfl,t⟩;have x:=ag b t;have O:=A.ext t;clear b A D t ki hG;go_wp2;go_roundw
      case rel=>exact⟨k+1,by omega,by go_num,x,O⟩
      case measure=>simp[intOf];omega
     have hQ:¬(k:Int)<(H.sl.length:Int):=by omega
     clear D;go_wp2;go_ret;exact⟨rfl,b⟩
theorem WM(m:World->Prop)(c:aG (w.setCells b 0 vs) b cs T)(h:∀W,w.grownBy W (some b)->aG W b cs T->m W):m (w.setCells b 0 vs).drew:=by
 have a:=aC w b 0 vs;generalize w.setCells b 0 vs=W0 at *
 exact h _ ⟨a.os,a.tape,a.output,a.size,a.block⟩ c
theorem WU{p:Page}(m:World->Prop)(c:aG w b cur T)(a:(eQ p).size=cur.size)(h:∀W,w.grownBy W (some b)->aG W b (eQ p) T->m W):m (w.setCells b 0 (eQ p).toList).drew:=
 WM m (by have h2:=c.setCells (eQ p).toList 0;rw[gK cur (eQ p) a]at h2;exact h2) h
theorem Pi(H:MH)(p n:Nat)(w:World)(h:FK w H)(hR:Rt H.ma)(hp:p<H.sp.length)(hn:n<64) :
  Calls Tryz.prog 39 #[.agg (fF H),.int .i64 p,.int .i64 n] w λr w'=>r = .returned (.tuple #[.agg (eQ (fP H.ma p n).1),.bool (fP H.ma p n).2.1,.int .i64 (fP H.ma p n).2.2])/\Below w.heap.size w w':=by
 have hh:=ae h;have x:=ae hR;clear hR;go_enter func39,ntmps39;go_upto_region 1 with(fail);refine uT (λW=>Code.wp _ _ _ _ W) λw1 hW N px1 hO => ?_;have N:aG w1 w.heap.size (fF H) 45:=N;have h1:=h.below hW;clear h hO;have kl:(p:Int)<(H.sp.length:Int):=by omega
 obtain⟨bs,os,P,hX,hP,hQ⟩:=rG h1.sp.rd p hp;have hg:=rM h1 hP;have h2:P.sp∈H.ma.sp:=by show P.sp∈H.sp.map PS.sp;exact eU.2 ⟨P,bS hP,rfl⟩
 have hZ:(bP P.ar).1=0:=x.out.pt.ar P.sp h2;have h0:Hid (dB P.tb=0):=ae (x.out.pt.tb P.sp h2);have hN:=ae (pV hP);have hO:w1.cell? ⟨bs,os+p*10+1,none⟩=some (.slice P.aa P.ar.length P.ac):=by obtain⟨b',o',e,K⟩:=hQ 1 _ rfl;cases e;exact K
 have K:=N.cell;unfold fF at K;rw[hX]at K;obtain⟨hY,hL⟩:=sI hZ
 go_wp2_with fail
 refine(nJ P.ar P.aa P.ac _ hg.ars.rd (by omega) hL).mono ?_;rintro r R ⟨rfl,hs⟩;have hK:=ag hW hs;have bx2:=N.ext hs;have px2:=px1.ext hs;have hD:=hQ.below hs;have h7:=hg.below hs;clear K hO hW N px1 hs hQ hg h1 hY;have hS:cZ P.ar n=eT H.ma p n:=by rw[pJ (lI (iZ.1 hZ).2)];unfold eT;rw[hN.out];rfl
 generalize hog:eT H.ma p n=o at hS;have hT:=xX (cZ P.ar) n hn o hS;have z:=ae hog;clear hog hS hZ hL
 go_wp2_with (refine aK rfl _ _ _ rfl (wW o) rfl rfl rfl one_size (Fs o) ?_)
 intro w3 hr L;have hv:=ag hK hr;have bx3:=bx2.ext hr;have S:=px2.ext hr;have hC:=hD.below hr;have h6:=h7.below hr;clear hT hK bx2 px2 hr hD h7;cases o with
 | none=>
  have s:Hid (fP H.ma p n=(zPg,false,5)):=ae (by unfold fP;rw[z.out]);have U:=L.cell;have km:(wW none)[0]?=some (.bool false):=rfl;have d:=hv;have D:=S
  go_wp2_with (refine aA rfl _ _ _ rfl (w.heap.size+1) (eQ zPg) rfl rfl _ _ D rfl psize (fM _) ?_)
  intro we A u;have j:=d.grown u d.size oG0;go_wp2;refine bodyPost_ret (v:=.tuple #[.agg (eQ zPg),.bool false,.int .i64 5]) (bZ results39 _ _ (w.heap.size+1) _ _ _ _ _ rfl rfl rfl A underlying58 rfl psize) rfl ?_;rw[s.out];exact⟨rfl,j⟩
 | some g=>
  have L:aG w3 R.heap.size #[.bool true,.bool g.rd,.bool g.wr,.bool g.sh,.int .i64 g.fi,.int .i64 g.pg] 80:=L;have U:=L.cell;have h3:=qG hC 2 8;have K:=bx3.cell;unfold fF at K;rw[hX]at K
  go_wp2_with (refine ay _ _ rfl bs (os+p*10+2) rfl rfl _ h3 _ underlying74 tab_agg tab_size ?_)
  refine(BV P.tb (nT P.ts) _ h6.tb h0.out).mono ?_;rintro r w4 ⟨rfl,hy⟩;rw[IK (yN P.tb)];have hE:(dE P.tb).getD n zEn=ent H.ma p n:=by rw[TQ hn];unfold ent;rw[hN.out];rfl
  generalize heE:ent H.ma p n=E at hE;have hT:=Dp (dE P.tb) n hn E hE;have ha:=ae heE;clear heE hE K U h3 hC h6;have hJ:=ag hv hy;have bx4:=bx3.ext hy;have px4:=S.ext hy;have ox4:=L.ext hy;clear hv bx3 S hy L hX
  go_wp2_with (refine aK rfl _ _ _ rfl (jy E) rfl rfl rfl entry_size (by simp[jy,Value.oneCell']) ?_)
  intro w5 hw ex5;have t:=ag hJ hw;have G:=bx4.ext hw;have I:=px4.ext hw;have C:=ox4.ext hw;clear hT hJ bx4 px4 ox4 hw;have U:=C.cell;have hx:=ex5.cell;unfold jy at hx;have ht:Hid (E.k≠0->Pn H.ma g E):=ae (λhk=>by obtain⟨g',h8,hf⟩:=x.out.en p n (by rw[ha.out];exact hk);rw[z.out]at h8;cases h8;rw[ha.out]at hf;exact hf);have Z:=hh.out.below t;have hq:Hid (eF E=0):=ae (by rw[<-ha.out];unfold ent;rw[hN.out];exact qL h0.out n)
  by_cases k1:E.k=1
  .have hu:=ht.out (by omega);have q1:E.n<(H.m.fs.length:Int):=hu.lt k1;have q0:0<=E.n:=by have:=(bD _).1 hq.out;omega
   obtain⟨F,hF⟩:∃F:Nat,E.n=F:=⟨E.n.toNat,by omega⟩;have Y:F<H.m.fs.length:=by omega
   obtain⟨O,of,kj,kc⟩:=kE fQ (by decide) Z.fr.rd F Y;have kg:jv H.ma E.n=H.m.fs[F]:=by rw[hF,vg];unfold aD;show H.m.fs.getD F fr0=_;rw[aY,aF Y];rfl
   have i:Hid (fP H.ma p n=((H.m.fs[F]).p,decide ((H.m.fs[F]).f<0),0)):=ae (by unfold fP;rw[z.out];dsimp only;rw[ha.out,if_pos k1,kg]);generalize H.m.fs[F]=X at *
   have K:=G.cell;unfold fF at K;rw[kj]at K;rw[k1,hF]at hx;have kn:(F:Int)<(H.m.fs.length:Int):=by omega
   clear kg hu q1 q0 U C k1 hF
   go_wp2_with (first | (refine ay _ _ rfl O (of+F*13) rfl rfl _ kc _ underlying66 rfl frame_size ?_) | (refine aK rfl _ _ _ rfl (tX X) rfl rfl rfl frame_size (oG _) ?_))
   intro w6 hi fx6;have hd:=ag t hi;have px5l:=ae I.lt;have J:=I.ext hi;clear t I G hi kc K Z hx ex5;go_upto_region 9 with(fail);have ka:=fx6.cell;unfold tX at ka;have kh:=J.cell;have h5:w.heap.size+1≠w5.heap.size:=by have:=px5l.out;omega
   have h4 : w5.heap.size≠w.heap.size+1:=λe=>h5 e.symm;have ki:=J.free
   go_region
   all_goals (refine WU (p:=X.p) (b:=w.heap.size+1) (λW=>Exit.then _ _ _ _ W) J rfl λwe u A => ?_)
   all_goals clear ka kh h5 h4 ki fx6 J
   all_goals (have j:=hd.grown u hd.size oG0)
   all_goals go_wp2
   all_goals (refine bodyPost_ret (v:=.tuple #[.agg (eQ X.p),.bool (decide (X.f<0)),.int .i64 0]) (bZ results39 _ _ (w.heap.size+1) _ _ _ _ _ rfl rfl rfl A underlying58 rfl psize) rfl ?_)
   all_goals rw[i.out]
   all_goals exact⟨rfl,j⟩
  by_cases k2:E.k=2
  .have hu:=ht.out (by omega);obtain⟨q1,q2⟩:=hu.sw k2;have q0:0<=E.n:=by have:=(bD _).1 hq.out;omega
   have hM:aJ H.sw E.n=0:=jG.2 ⟨x.out.pt.sw,q0,by have:=x.out.pt.swl;have e:H.ma.sw.blocks.length=H.sw.blocks.length:=rfl;have e2:H.ma.sl.length=H.sl.length:=rfl;omega⟩;have s:Hid (fP H.ma p n=(dA H.sw E.n,true,0)):=ae (by unfold fP;rw[z.out];dsimp only;rw[ha.out,if_neg k1,if_pos k2,show aJ H.ma.sw E.n=0 from hM];rfl);rw[k2]at hx;have r5:eB w5 (some ⟨w.heap.size,3,none⟩) [.slice H.wb H.sw.blocks.length H.cwb,.slice H.wq H.sw.queue.length H.cwq]:=bF G 3 2;clear hu q1 q2 q0 U C k1 k2
   go_wp2_with (refine ay _ _ rfl w.heap.size 3 rfl rfl _ r5 _ underlying38 rfl disk_size ?_)
   refine(GG H.sw E.n H.wb H.cwb H.wq H.cwq _ Z.sw).mono ?_;rintro r w6 ⟨rfl,hi⟩;rw[hM];have hd:=ag t hi;have J:=I.ext hi;clear t I G hi r5 Z hx ex5 hM
   go_wp2_with (refine aK rfl _ _ _ rfl (eQ (dA H.sw E.n)) rfl rfl rfl psize (fM _) ?_)
   intro w7 hV gx7;have d:=ag hd hV;have D:=J.ext hV;clear hd J hV
   go_wp2_with (first | (refine ay _ _ rfl w6.heap.size 0 rfl rfl _ gx7.rd _ underlying58 rfl psize ?_) | (refine aA rfl _ _ _ rfl (w.heap.size+1) (eQ (dA H.sw E.n)) rfl rfl _ _ D rfl psize (fM _) ?_))
   intro we A u;have j:=d.grown u d.size oG0;go_wp2;refine bodyPost_ret (v:=.tuple #[.agg (eQ (dA H.sw E.n)),.bool true,.int .i64 0]) (bZ results39 _ _ (w.heap.size+1) _ _ _ _ _ rfl rfl rfl A underlying58 rfl psize) rfl ?_;rw[s.out];exact⟨rfl,j⟩
  have k0:E.k=0:=by have:=(bD _).1 hq.out;omega
  have i:Hid (fP H.ma p n=if g.fi<0 then(zPg,false,0)else if(H.ma.st.fs.length:Int)<=g.fi\/pq H.ma.st g.fi g.pg=true then(zPg,false,9)else(aW H.ma g.fi g.pg,false,0)):=ae (by unfold fP;rw[z.out];dsimp only;rw[ha.out,if_neg k1,if_neg k2]);rw[k0]at hx;clear ht hq k1 k2 k0
  by_cases f0:g.fi<0
  .have s:Hid (fP H.ma p n=(zPg,false,0)):=ae (by rw[i.out,if_pos f0]);have d:=t;have D:=I;clear i
   go_wp2_with (refine aA rfl _ _ _ rfl (w.heap.size+1) (eQ zPg) rfl rfl _ _ D rfl psize (fM _) ?_)
   intro we A u;have j:=d.grown u d.size oG0;go_wp2;refine bodyPost_ret (v:=.tuple #[.agg (eQ zPg),.bool false,.int .i64 0]) (bZ results39 _ _ (w.heap.size+1) _ _ _ _ _ rfl rfl rfl A underlying58 rfl psize) rfl ?_;rw[s.out];exact⟨rfl,j⟩
  have hA:=ae (x.out.pt.pg z.out);have hm:Hid (H.ma.st.fs.length=H.fi.length):=ae (dV _);go_upto_region 15 with(fail)
  by_cases f1:(H.fi.length:Int)<=g.fi
  .have s:Hid (fP H.ma p n=(zPg,false,9)):=ae (by rw[i.out,if_neg f0,if_pos (.inl (by have:=hm.out;omega))]);refine aV 21 [_,_,_,_,_,_,_,_,_,_,_,_,_,_,_,_,_,_,_,_,.v (.bool true)] (Gf R.heap.size 4 rfl rfl (Gl C rfl rfl rfl rfl rfl (Gf w.heap.size 7 rfl rfl (Gf w.heap.size 7 rfl rfl (Gl G rfl rfl rfl rfl rfl (Gn rfl rfl rfl rfl (Gb (.bool true) (by simp[go_sem,f1]) rfl rfl rfl rfl rfl (Gk rfl (Gk rfl (Gk rfl (Gk rfl (Gk rfl (Gk rfl (Gk rfl (Gk rfl (Gk rfl (Gk rfl (Gk rfl (Gk rfl (Gk rfl (Gk rfl (aI)))))))))))))))))))))) (λ_=>rfl) rfl ?_;intro y W8 q _;have d:=ag t q;have D:=I.ext q;clear i hA hm
   go_wp2_with (refine aA rfl _ _ _ rfl (w.heap.size+1) (eQ zPg) rfl rfl _ _ D rfl psize (fM _) ?_)
   intro we A u;have j:=d.grown u d.size oG0;go_wp2;refine bodyPost_ret (v:=.tuple #[.agg (eQ zPg),.bool false,.int .i64 9]) (bZ results39 _ _ (w.heap.size+1) _ _ _ _ _ rfl rfl rfl A underlying58 rfl psize) rfl ?_;rw[s.out];exact⟨rfl,j⟩
  obtain⟨F,hF⟩:∃F:Nat,g.fi=F:=⟨g.fi.toNat,by omega⟩;have Y:F<H.fi.length:=by omega
  obtain⟨O,of,kd,kb⟩:=kE kR (by decide) Z.st.rd F Y;have kk:Hid (aN H.ma.st g.fi=(H.fi[F]).fi):=ae (by rw[hF];exact iE (by show(H.fi.map PF.fi)[F]?=_;rw[iV,aF Y];rfl));generalize H.fi[F]=Q at *
  have hB:∀W,Below w5.heap.size w5 W->W.cell? ⟨O,of+F*2+1,none⟩=some (.slice Q.a Q.l.length Q.c):=λW hb=>by obtain⟨b',o',e,K⟩:=(kb.below hb) 1 _ rfl;cases e;exact K
  have hG:Hid ((aN H.ma.st g.fi).b.length=Q.l.length):=ae (by rw[kk.out];rfl);have kf:=ae hF;clear hF
  by_cases f2:(Q.l.length:Int)<=g.pg
  .have s:Hid (fP H.ma p n=(zPg,false,9)):=ae (by
    rw[i.out,if_neg f0]
    by_cases M:(H.ma.st.fs.length:Int)<=g.fi\/pq H.ma.st g.fi g.pg=true
    .rw[if_pos M]
    have h9:=zV x.out.pt.st (by omega) hA.out.1 M;have:=h9.2.2;have:=hG.out;omega)
   refine aV 21 [_,_,_,_,_,_,_,_,_,_,_,_,_,_,_,_,_,_,_,_,.v (.bool true)] (Gf R.heap.size 4 rfl rfl (Gl C rfl rfl rfl rfl rfl (Gf w.heap.size 7 rfl rfl (Gf w.heap.size 7 rfl rfl (Gl G rfl rfl rfl rfl rfl (Gn rfl rfl rfl rfl (Gb (.bool false) (by simp[go_sem,f1]) rfl rfl rfl rfl rfl (Gk rfl (Gf R.heap.size 5 rfl rfl (Gl C rfl rfl rfl rfl rfl (Gf w.heap.size 7 rfl rfl (Gf w.heap.size 7 rfl rfl (Gl G (V:=.slice (some ⟨O,of,none⟩) H.fi.length H.ci) (by simp[fF,kd]) rfl rfl rfl rfl (Gf R.heap.size 4 rfl rfl (Gl C (V:=.int .i64 (F:Int)) (by simp[kf.out]) rfl rfl rfl rfl (Gr (.pointer (some ⟨O,of+F*2,none⟩)) (λρ y W hb hz=>(cO rfl (aL rfl hz) (aL rfl hz) Y underlying39 file_size)) rfl rfl (Gf O (of+F*2+1) rfl rfl (Gc (.slice Q.a Q.l.length Q.c) (λW hb=>by simp[hB _ hb]) rfl rfl rfl rfl (Gn rfl rfl rfl rfl (Gb (.bool true) (by simp[go_sem,f2]) rfl rfl rfl rfl rfl (Gk rfl (aI)))))))))))))))))))))) (λ_=>rfl) rfl ?_;intro y W8 q _;have d:=ag t q;have D:=I.ext q;clear i hA hm hB
   go_wp2_with (refine aA rfl _ _ _ rfl (w.heap.size+1) (eQ zPg) rfl rfl _ _ D rfl psize (fM _) ?_)
   intro we A u;have j:=d.grown u d.size oG0;go_wp2;refine bodyPost_ret (v:=.tuple #[.agg (eQ zPg),.bool false,.int .i64 9]) (bZ results39 _ _ (w.heap.size+1) _ _ _ _ _ rfl rfl rfl A underlying58 rfl psize) rfl ?_;rw[s.out];exact⟨rfl,j⟩
  have hH:qK H.ma.st g.fi g.pg:=⟨⟨by omega,by have:=hm.out;omega⟩,hA.out.1,by have:=hG.out;omega⟩;have M:=ae hH;clear hH;have s:Hid (fP H.ma p n=(aW H.ma g.fi g.pg,false,0)):=ae (by rw[i.out,if_neg f0,if_neg (nU x.out.pt.st M.out)]);refine aV 21 [_,_,_,_,_,_,_,_,_,_,_,_,_,_,_,_,_,_,_,_,.v (.bool false)] (Gf R.heap.size 4 rfl rfl (Gl C rfl rfl rfl rfl rfl (Gf w.heap.size 7 rfl rfl (Gf w.heap.size 7 rfl rfl (Gl G rfl rfl rfl rfl rfl (Gn rfl rfl rfl rfl (Gb (.bool false) (by simp[go_sem,f1]) rfl rfl rfl rfl rfl (Gk rfl (Gf R.heap.size 5 rfl rfl (Gl C rfl rfl rfl rfl rfl (Gf w.heap.size 7 rfl rfl (Gf w.heap.size 7 rfl rfl (Gl G (V:=.slice (some ⟨O,of,none⟩) H.fi.length H.ci) (by simp[fF,kd]) rfl rfl rfl rfl (Gf R.heap.size 4 rfl rfl (Gl C (V:=.int .i64 (F:Int)) (by simp[kf.out]) rfl rfl rfl rfl (Gr (.pointer (some ⟨O,of+F*2,none⟩)) (λρ y W hb hz=>(cO rfl (aL rfl hz) (aL rfl hz) Y underlying39 file_size)) rfl rfl (Gf O (of+F*2+1) rfl rfl (Gc (.slice Q.a Q.l.length Q.c) (λW hb=>by simp[hB _ hb]) rfl rfl rfl rfl (Gn rfl rfl rfl rfl (Gb (.bool false) (by simp[go_sem,f2]) rfl rfl rfl rfl rfl (Gk rfl (aI)))))))))))))))))))))) (λ_=>rfl) rfl ?_;intro y W8 q _;have hI:=ag t q;have px8:=I.ext q;have bx8:=G.ext q;have ke:=Z.below q;have U:=(C.ext q).cell;clear i hB t I G Z C q kb
  go_wp2_with (refine ay _ _ rfl w.heap.size 0 rfl rfl _ bx8.rd _ underlying45 rfl machine_size ?_)
  refine(zO H g.fi g.pg _ ke ⟨(vX x.out).ca,λf hf=>bi (yu x.out.pt.st f hf) (by decide)⟩ x.out.ca.lt ⟨by omega,by omega⟩ M.out.2).mono ?_;rintro r w9 ⟨rfl,hU⟩;have d:=ag hI hU;have D:=px8.ext hU;clear hI px8 bx8 ke U hU
  go_wp2_with (refine aA rfl _ _ _ rfl (w.heap.size+1) (eQ (aW H.ma g.fi g.pg)) rfl rfl _ _ D rfl psize (fM _) ?_)
  intro we A u;have j:=d.grown u d.size oG0;go_wp2;refine bodyPost_ret (v:=.tuple #[.agg (eQ (aW H.ma g.fi g.pg)),.bool false,.int .i64 0]) (bZ results39 _ _ (w.heap.size+1) _ _ _ _ _ rfl rfl rfl A underlying58 rfl psize) rfl ?_;rw[s.out];exact⟨rfl,j⟩
theorem QL(H:MH)(p n:Nat)(w:World)(h:FK w H)(C:Rt H.ma)(E:p<H.sp.length)(F:n<64) :
  Calls Tryz.prog 18 #[.agg (fF H),.int .i64 p,.int .i64 n] w λr w'=>r = .returned (.tuple #[.agg (eQ (fP H.ma p n).1),.bool (fP H.ma p n).2.1,.int .i64 (fP H.ma p n).2.2])/\Below w.heap.size w w':=by
 have g:=ae C;clear C;go_enter func18,ntmps18;go_upto_region 1 with(fail);refine uT (λW=>Code.wp _ _ _ _ W) λD e k s i => ?_;have k:aG D w.heap.size (fF H) 45:=k;have A:=h.below e;clear h i
 go_wp2_with (refine ay _ _ rfl w.heap.size 0 rfl rfl _ k.rd _ underlying45 rfl machine_size ?_)
 refine(FC H _ A g.out).mono ?_;rintro r J ⟨rfl,a⟩;have h2:=A.below a;have u:=k.ext a;have q:=s.ext a;have c:=ag e a;clear A k s e a
 go_wp2_with (refine ay _ _ rfl w.heap.size 0 rfl rfl _ u.rd _ underlying45 rfl machine_size ?_)
 refine(Pi H p n _ h2 g.out E F).mono ?_;rintro r I ⟨rfl,d⟩;have z:=q.ext d;have b:=ag c d;clear h2 u q c d
 go_wp2_with (refine aA rfl _ _ _ rfl (w.heap.size+1) (eQ (fP H.ma p n).1) rfl rfl _ _ z rfl psize (fM _) ?_)
 intro G y j;have f:=b.grown j b.size oG0;go_wp2;refine bodyPost_ret (v:=.tuple #[.agg (eQ (fP H.ma p n).1),.bool (fP H.ma p n).2.1,.int .i64 (fP H.ma p n).2.2]) (bZ results18 _ _ (w.heap.size+1) _ _ _ _ _ rfl rfl rfl y underlying58 rfl psize) rfl ?_;exact⟨rfl,f⟩
theorem QG(h:aG w b cs T)(a:aG w b cs' T')(c:T'≠T):False:=by
 unfold aG at h a;rw[a]at h;simp at h;exact c h.2
theorem new29:xz (Bz 2 40) (Bz 2 60) (Bz 2 80)=⟨Np 2,Po 2,Fe 2,Fe 2,⟨[],2⟩,[],[⟨true,[],zTb⟩]⟩:=by
 have e:Bz 2 40=2/\Bz 2 60=2/\Bz 2 80=2:=by decide
 rw[e.1,e.2.1,e.2.2];rfl
theorem wV.putA(h:wV w B H){P:PS}(z:H.sp[p]?=some P) :
  ∃g off cur,H.ap=some ⟨g,off,none⟩/\B<=g/\aG w g cur 76/\off+p*10+10<=cur.size /\
   ∀(w' : World) (a:Option Addr) (c:Nat) (l:List Ar),Own w B 94 7 (.slice a l.length c) l.length (l.flatMap mX)->aG w' g (bJ cur (off+p*10+1) [.slice a l.length c]) 76->w.grownBy w' (some g) ->
    wV w' B { H with sp:=H.sp.set p { P with aa:=a,ac:=c,ar:=l } }:=by
 have C:=(cz.1 z).1;obtain⟨g,off,J,cur,A,I,b,r,d⟩:=oO oV (by decide) rfl h.sp p C;simp only[mK]at A;obtain⟨k,_,_⟩:=A;obtain⟨bs,K,Q,i,D,m⟩:=rG h.rd.sp.rd p C;rw[z]at D;cases D;rw[k]at i;cases i;have o:∀j u,(tQ P)[j]?=some u->cur[off+p*10+j]?=some u:=λj u F=>by obtain⟨M,L,e',n⟩:=m j u F;cases e';rw[<-b.cell];exact n
 have e:=bS z;refine⟨g,off,cur,k,I,b,by omega,λw' a c l E G s => ?_⟩;have f:(H.sp.set p { P with aa:=a,ac:=c,ar:=l }).length=H.sp.length:=bL;refine⟨ax h.fr b (by decide) s,ax h.sl b (by decide) s,h.sw.keep b (by decide) (by decide) s,h.dk.keep b (by decide) (by decide) s,h.st.keep b (by decide) (by decide) s,ax h.ca b (by decide) s,?_,λq y => ?_,h.c64⟩
 .simp only[f];refine d w' _ ?_;rw[Eo cur (off+p*10) 1 1 (tQ P) (tQ { P with aa:=a,ac:=c,ar:=l }) [.slice a l.length c] o rfl rfl (by rw[oV];decide) (by rw[oV];omega)];exact G
 rcases lU y with y|rfl
 .exact⟨ax (h.ps q y).1 b (by decide) s,(h.ps q y).2.keep b (by decide) s⟩
 .exact⟨ax E b (by decide) s,(h.ps P e).2.keep b (by decide) s⟩
theorem Tp{P:PS}(d:H.sp[p]?=some P)(a:Option Addr)(c:Nat)(l:List Ar):MH.ma { H with sp:=H.sp.set p { P with aa:=a,ac:=c,ar:=l } }=xC H.ma p l:=by
 rw[VY];unfold Ua xC;rw[pV d];rfl
def ar9:Ar:=⟨3,5,true,true,false,-1,0⟩
theorem Yi(d:m=⟨Np 2,Po 2,Fe 2,Fe 2,⟨[],2⟩,[],[⟨true,[],zTb⟩]⟩)(c:Tz m):Tz (xC m 0 [ar9]):=by
 have f:0<m.sp.length:=by rw[d];decide
 have h:(bP [ar9]).1=0:=by kernel_rfl
 have s:∀n,eT m 0 n=none:=λn=>by rw[d];rfl
 obtain⟨k,h2⟩:=RF c.rt c.co f (by rw[d];rfl) h (λn j=>by obtain⟨g,a,_⟩:=c.rt.en 0 n j;rw[s]at a;cases a);refine⟨k,h2,λq n g a => ?_⟩;rw[BP f]at a
 by_cases e:q=0
 .rw[if_pos e,dn]at a;split at a
  .cases a;show(-1:Int)<(m.st.fs.length:Int);omega
  .cases a
 rw[if_neg e]at a;exact c.fi q n g a
theorem Wh{x:Ar}(c:aG w g (ky x) 94)(a:B<=g):Own w B 94 7 (.slice (some ⟨g,0,none⟩) 1 1) 1 ([x].flatMap mX):=by
 refine⟨rfl,.inr ⟨g,0,1,ky x,rfl,a,c,az _,by decide,?_,λj u h => ?_⟩⟩
 .show 0+1*7<=7;decide
 rw[ed,<-uZ];simpa[mX]using h
theorem Xi(w:World):Calls Tryz.prog 16 #[] w λr w'=>r = .returned (.bool true)/\Below w.heap.size w w':=by
 go_enter func16,ntmps16
 go_wp2_with fail
 refine(Oi 2 2 2 none 0 [] w ⟨az _,by decide,λ_=>rfl,λi u h=>(by simp at h)⟩).mono ?_;rintro r w1 ⟨H,rfl,ho,hZ,h3,h5,h4,_,_,_,hv⟩;have j:H.ma=⟨Np 2,Po 2,Fe 2,Fe 2,⟨[],2⟩,[],[⟨true,[],zTb⟩]⟩:=(hv rfl).trans new29;have h9:=ae (Yi j (SL h3 h5 h4));have l:H.sp.length=1:=by rw[<-tV,j];rfl
 have y:Hid (pF H.m.fs=2/\H.m.fs.length=2/\(dD H.ma 0).lv=true):=ae (by
  have e1:pF H.ma.m.fs=2:=by rw[j];rfl
  have e2:H.ma.m.fs.length=2:=by rw[j];rfl
  exact⟨e1,e2,by rw[j];rfl⟩)
 obtain⟨P,hP⟩:∃P,H.sp[0]?=some P:=⟨_,aF (by rw[l];decide)⟩;have Z:=ae hP;have d:=ae l;clear hv j h3 h5 h4
 go_wp2_with (refine aK rfl _ _ _ rfl (fF H) rfl rfl rfl machine_size (ku _) ?_)
 intro J hL E;have hF:=ho.below hL;have s:=ag hZ hL;clear ho hZ hL;generalize w1.heap.size=gm at E;obtain⟨gs,os,cur,hf,X,a,p,_⟩:=hF.putA hP;clear hP;have hR:0<H.sp.length:=by rw[l];decide
 have hh:=(Below.refl J.heap.size J).alloc (az _) (.cells #[.int .i64 3,.int .i64 5,.bool true,.bool true,.bool false,.int .i64 (-1),.int .i64 0] 94);have hD:=hF.below hh;have I:=E.ext hh;have q:=ag s hh;have hA:=aG.new J #[.int .i64 3,.int .i64 5,.bool true,.bool true,.bool false,.int .i64 (-1),.int .i64 0] 94;have hJ:w.heap.size<=J.heap.size:=s.size;generalize hgo:J.heap.size=gA at hA hJ;clear a p X;obtain⟨gs2,os2,cur,v,X,a,p,hn⟩:=hD.putA Z.out;rw[hf]at v;simp only[jA,ui,and_true]at v;obtain⟨rfl,rfl⟩:=v;have hV:(J.alloc (.cells #[.int .i64 3,.int .i64 5,.bool true,.bool true,.bool false,.int .i64 (-1),.int .i64 0] 94)).cell? ⟨gs,os+1,none⟩=some (.slice P.aa P.ar.length P.ac):=by obtain⟨b',o',Q,h2,hQ,h8⟩:=rG hD.rd.sp.rd 0 hR;rw[Z.out]at hQ;cases hQ;rw[hf]at h2;cases h2;obtain⟨b',o',e',z⟩:=h8 1 _ rfl;cases e';simpa using z
 have hK:=a.free;have L:=E.cell;unfold fF at L;rw[hf,l]at L;clear l;go_upto_region 3 with(fail);refine Te (λW=>Code.wp _ _ _ _ W) a λw5 x hY => ?_;have hE:=hn w5 (some ⟨gA,0,none⟩) 1 [ar9] (Wh hA hJ) (by simp only[vS,iP];exact hY) x;have D:=I.grown x (λe=>by have:=aM e;subst this;exact QG I a (by decide));have hz:=q.grown x q.size (λk hk=>by cases hk;exact X);clear hV hK L hh hD I q hgo;have b:=Tp Z.out (some ⟨gA,0,none⟩) 1 [ar9];have hI:fF { H with sp:=H.sp.set 0 { P with aa:=some ⟨gA,0,none⟩,ac:=1,ar:=[ar9] } }=fF H:=by unfold fF;simp only[bL]
 have hm:(H.sp.set 0 { P with aa:=some ⟨gA,0,none⟩,ac:=1,ar:=[ar9] }).length=1:=by rw[bL];exact d.out
 clear E s hF hf X a p hn hY x hA hJ hR;obtain⟨C,Y⟩:∃C:MH,C = { H with sp:=H.sp.set 0 { P with aa:=some ⟨gA,0,none⟩,ac:=1,ar:=[ar9] } }:=⟨_,rfl⟩;have h6:C.sp.length=1:=by rw[Y];exact hm
 have h7:C.m=H.m:=by rw[Y]
 rw[<-Y]at hE b hI;rw[<-hI]at D;have hG:=ae (show Tz C.ma by rw[b];exact h9.out);have hS:Hid (pF C.m.fs=2/\C.m.fs.length=2):=ae (by rw[h7];exact⟨y.out.1,y.out.2.1⟩);have kb:Hid ((dD C.ma 0).lv=true):=ae (by rw[b,yU (by rw[tV,d.out];decide)];exact y.out.2.2);have o:Hid (∀n,eT C.ma 0 n=onA [ar9] n):=ae (λn=>by rw[b,BP (by rw[tV,d.out];decide),if_pos rfl]);have ka:Hid (¬zB C 0):=ae (by
  rintro(e|e|e)
  .exact absurd e (by decide)
  .rw[h6]at e;exact absurd e (by decide)
  .exact absurd (kb.out.symm.trans e) (by decide))
 have hB:=hE.rd;clear hI b Y hm h7 hE y h9 Z d
 go_wp2_with (refine ay _ _ rfl gm 0 rfl rfl _ D.rd _ underlying45 rfl machine_size ?_)
 refine(EI C 0 4 true _ hB hG.out).mono ?_;rintro r w6 ⟨hd,c⟩;have hO:=hB.below hd;have V:=D.ext hd;have hy:=ag hz hd;clear hB D hz hd;rcases c with⟨e,_,_,O⟩|⟨P0,K,f,g,e0,_,_,G,_,rfl,R,S,hU⟩
 .exfalso;have kh:=KJ hG.out O (by have:=hS.out.1;omega);rcases O with⟨_,h|h⟩|⟨_,g,G,h⟩
  .exact ka.out h
  .have A:=(o.out 4).symm.trans h;exact absurd A (by decide)
  have A : onA [ar9] 4=some g:=(o.out 4).symm.trans G;have kc:g=⟨true,true,false,-1,0⟩:=by
   have:onA [ar9] 4=some ⟨true,true,false,-1,0⟩:=by rfl
   rw[this]at A;exact(aM A).symm
  subst kc;rcases h with⟨_,h⟩|⟨_,⟨_,h,_⟩|⟨h,_⟩⟩
  .exact absurd h (by decide)
  .exact absurd h (by decide)
  .exact kh h
 obtain rfl:P0=0:=by omega
 have hM:g.sh=false:=by
  have A : onA [ar9] 4=some g:=(o.out 4).symm.trans G;have:onA [ar9] 4=some ⟨true,true,false,-1,0⟩:=by rfl
  rw[this]at A;rw[<-aM A]
 obtain⟨_,ht⟩:=VN hU G hM;have hC:=ae ht;have kf:=ae hU.rt;have kg:K.m.fs.length=2:=by have:=hU.len;exact this.trans hS.out.2
 have hs:=R.rd;clear G hU R e0 hM ht
 go_wp2_with (refine aK rfl _ _ _ rfl (fF K) rfl rfl rfl machine_size (ku _) ?_)
 intro w7 t F;have hN:=hO.below t;have hr:=hs.below t;have U:=V.ext t;have hx:=ag hy t;clear hO hs V hy t;generalize w6.heap.size=gk at F
 go_wp2_with (refine ay _ _ rfl gm 0 rfl rfl _ U.rd _ underlying45 rfl machine_size ?_)
 refine(EI C 0 5 true _ hN hG.out).mono ?_;rintro r w8 ⟨hb,c⟩;have hq:=hr.below hb;have N:=F.ext hb;have hw:=ag hx hb;clear hN hr U F hx hb;have hH:onA [ar9] 5=none:=by rfl
 rcases c with⟨e,rfl,_,O⟩|⟨P1,_,_,g1,e1,_,_,hg1,_⟩
 rotate_left
 .exfalso;obtain rfl:P1=0:=by omega
  have A:=(o.out 5).symm.trans hg1;rw[hH]at A;cases A
 have kd:e=5:=by
  rcases O with⟨h,_⟩|⟨_,g,G,_⟩
  .exact h
  have A : onA [ar9] 5=some g:=(o.out 5).symm.trans G;rw[hH]at A;cases A
 subst kd;clear O hH
 go_wp2_with (refine aK rfl _ _ _ rfl (fF noH) rfl rfl rfl machine_size (ku _) ?_)
 intro w9 ha zx9;have hp:=hq.below ha;have M:=N.ext ha;have hX:=ag hw ha;clear hq N hw ha zx9;obtain⟨gf,of,h0,hT⟩:=kE fQ (by decide) hp.fr.rd f S;have hV:w9.cell? ⟨gf,of+f*13+8,none⟩=some (.int .i64 1):=by
  have e:aD K.ma f=K.m.fs[f]:=by unfold aD;show K.m.fs.getD f fr0=_;rw[aY,aF S];rfl
  have h1:=hC.out;rw[e]at h1;obtain⟨b',o',e',z⟩:=hT 8 _ rfl;cases e';rw[h1]at z;exact z
 have ki:(f:Int)<2:=by omega
 have L:=M.cell;unfold fF at L;rw[h0,kg]at L;clear hT h0
 go_wp2_with (refine ay _ _ rfl gk 0 rfl rfl _ M.rd _ underlying45 rfl machine_size ?_)
 refine(FC K _ hp kf.out).mono ?_;rintro r wa ⟨rfl,ke⟩;have hW:=ag hX ke;go_wp2;go_ret;exact⟨rfl,hW⟩
theorem Kl(a b c d:Bool)(x y:Int)(W:World):(Instr.field 80 (.agg #[.bool a,.bool b,.bool c,.bool d,.int .i64 x,.int .i64 y]) 0).run Tryz.prog W = .ok (.bool a) W:=by
 simp[Instr.field,go_sem];rfl
theorem Gm(cf cs cb:Int)(l:List UInt8)(p n:Int)(A:Bool)(al:Option Addr)(cl:Nat)(w:World)(hr:ve w al cl l.length (l.map CY)) :
  Calls Tryz.prog 5 #[.agg #[.int .i64 cf,.int .i64 cs,.int .i64 cb],.slice al l.length cl,.int .i64 p,.int .i64 n,.bool A] w λr w'=>r = .returned (.bool true)/\Below w.heap.size w w':=by
 go_enter func5,ntmps5;go_upto_region 1 with(fail);refine iG (λW=>Code.wp _ _ _ _ W) λw1 hM cx1 v => ?_;have hY:=hr.below hM;clear hr
 go_wp2_with fail
 refine(Xi w1).mono ?_;rintro r w2 ⟨rfl,hl⟩;have hX:=hY.below hl;have L:=cx1.ext hl;have hF:=ag hM hl;clear hY cx1 hM hl v;have h3:=L.cell
 go_wp2_with fail
 refine(Fa cf cs cb al cl l w2 hX).mono ?_;rintro r w3 ⟨H,rfl,C,hL,hS,h6,hn,h0,_,u,_⟩;have hD:=ag hF hL;have cx3:=L.ext hL;have hx:=C.rd;have J:=ae (SL hS h6 (λp hp=>(hn.1 p hp).1));have hy:Hid (40<=cf->2<=pF H.m.fs):=ae λh=>Sq hS (by rw[h0];unfold Bz;omega) hn.1 hn.2 u.2;have kc:Hid (H.sp.length<=2):=ae u.2;clear hX L h3 hF hL C hS h6 hn h0 u
 go_wp2_with (refine aK rfl _ _ _ rfl (fF H) rfl rfl rfl machine_size (ku _) ?_)
 intro w4 hk G;have x:=hx.below hk;have cx4:=cx3.ext hk;have hC:=ag hD hk;clear hx cx3 hD hk;generalize w3.heap.size=gm at G
 go_wp2_with (refine ay _ _ rfl gm 0 rfl rfl _ G.rd _ underlying45 rfl machine_size ?_)
 refine(EI H p n A _ x J.out).mono ?_;rintro r w5 ⟨S,z⟩;obtain⟨Z,f,e,rfl,hO'⟩:∃(Z:MH) (f e:Int),r = .returned (.tuple #[.agg (fF Z),.int .i64 f,.int .i64 e])/\Out H p n A cf e:=by
  rcases z with⟨e,h,_,hu⟩|⟨P,K,f,g,rfl,_,hnb,hg,hw,h,_,_,hU⟩
  .exact⟨noH,0,e,h,Vm J.out hy.out hu⟩
  .exact⟨K,f,0,h,Xu hnb hg hw hU⟩
 have F:=ae hO';have hv:=x.below S;have bx5:=G.ext S;have cx5:=cx4.ext S;have hB:=ag hC S;clear x G cx4 hC S z hO' hy
 go_wp2_with (refine aK rfl _ _ _ rfl (fF Z) rfl rfl rfl machine_size (ku _) ?_)
 intro w6 U zx6;have q:=hv.below U;have R:=bx5.ext U;have cx6:=cx5.ext U;have a:=ag hB U;clear hv bx5 cx5 hB U zx6;have D:=R.cell;unfold fF at D
 by_cases p0:p<0
 .have c:Hid (zB H p):=ae (.inl p0);have b:e=5:=F.out.1 (by first | exact .inl c.out | exact .inr hnone.out);subst b;go_wp2;go_ret;exact⟨rfl,a⟩
 by_cases p1:(H.sp.length:Int)<=p
 .have c:Hid (zB H p):=ae (.inr (.inl p1));have b:e=5:=F.out.1 (by first | exact .inl c.out | exact .inr hnone.out);subst b;go_wp2;go_ret;exact⟨rfl,a⟩
 by_cases n0:n<0
 .have hnone:Hid (eT H.ma p.toNat n=none):=ae (by
   cases e:eT H.ma p.toNat n with
   | none=>rfl
   | some g=>have:=(J.out.rt.pt.pg e).2.2.2.2.2;omega)
  have b:e=5:=F.out.1 (by first | exact .inl c.out | exact .inr hnone.out);subst b;go_wp2;go_ret;exact⟨rfl,a⟩
 by_cases n1:64<=n
 .have hnone:Hid (eT H.ma p.toNat n=none):=ae (by
   cases e:eT H.ma p.toNat n with
   | none=>rfl
   | some g=>have:=(J.out.rt.pt.pg e).2.2.2.2.2;omega)
  have b:e=5:=F.out.1 (by first | exact .inl c.out | exact .inr hnone.out);subst b;go_wp2;go_ret;exact⟨rfl,a⟩
 obtain⟨P,rfl⟩:∃P:Nat,p=P:=⟨p.toNat,by omega⟩;obtain⟨N,rfl⟩:∃N:Nat,n=N:=⟨n.toNat,by omega⟩;have h4:P<H.sp.length:=by omega
 have hN:N<64:=by omega
 rw[show Out H (P:Int) (N:Int) A cf e=(((zB H P\/eT H.ma P N=none)->e=5)/\∀g,¬zB H P->eT H.ma P N=some g->(wH g A=false->e=8)/\(wH g A=true->((fP H.ma P N).2.2=9->e=9)/\((fP H.ma P N).2.2≠9->e=0\/e=10/\cf<40)))from rfl]at F;have ke:(P:Int)<(H.sp.length:Int):=by omega
 obtain⟨bs,os,Q,hP,hQ,hW⟩:=rG q.sp.rd P h4;have i:=rM q hQ;have hV:Q.sp∈H.ma.sp:=by show Q.sp∈H.sp.map PS.sp;exact eU.2 ⟨Q,bS hQ,rfl⟩
 have hR:(bP Q.ar).1=0:=J.out.rt.pt.ar Q.sp hV;have u:=ae (pV hQ);have v:∀W,Below w6.heap.size w6 W->W.cell? ⟨bs,os+P*10+1,none⟩=some (.slice Q.aa Q.ar.length Q.ac):=λW I=>by obtain⟨b',o',e,D⟩:=(hW.below I) 1 _ rfl;cases e;exact D
 have h9:=v w6 (Below.refl _ _);rw[hP]at D;have hH:=sI hR;have hI:cZ Q.ar N=eT H.ma P N:=by rw[pJ (lI (iZ.1 hR).2)];unfold eT;rw[u.out];rfl
 have j:Hid (eT H.ma P N≠none->¬zB H P):=ae (λh I=>by
  rcases I with I|I|I
  .omega
  .omega
  rw[bu]at I;have h2:=(J.out.rt.live P I).1;apply h;unfold eT;rw[h2];rfl)
 generalize hog:eT H.ma P N=o at hI F j;have kd:=ae hog;have t:=ae hH;clear hV hR hH hog p0 p1 n0 n1 hW hQ u
 go_wp2_with fail
 refine(nJ Q.ar Q.aa Q.ac _ i.ars.rd (by have:=t.out.1;omega) t.out.2).mono ?_;rintro r w7 ⟨rfl,k⟩;have ht:=q.below k;have M:=R.ext k;have cx7:=cx6.ext k;have hZ:=i.below k;have hd:=ag a k;have h8:=v w7 k;have y:=xX (cZ Q.ar) N hN o hI;clear D h9 v i q R cx6 a k hI;cases o with
 | none=>
  have b:e=5:=F.out.1 (.inr rfl);subst b;replace y:∀W,(Instr.index 81 (.agg (fC (cZ Q.ar))) (.int .i64 N)).run Tryz.prog W = .ok (.agg #[.bool false,.bool false,.bool false,.bool false,.int .i64 0,.int .i64 0]) W:=y;have h1:=Kl false false false false 0 0;go_wp2;go_ret;exact⟨rfl,hd⟩
 | some g=>
  have hT:=ae (F.out.2 g (j.out (by simp)) rfl);replace y:∀W,(Instr.index 81 (.agg (fC (cZ Q.ar))) (.int .i64 N)).run Tryz.prog W = .ok (.agg #[.bool true,.bool g.rd,.bool g.wr,.bool g.sh,.int .i64 g.fi,.int .i64 g.pg]) W:=y;have h1:=Kl true g.rd g.wr g.sh g.fi g.pg;clear F j;have D:=M.cell;unfold fF at D;rw[hP]at D
  go_wp2_with fail
  refine(nJ Q.ar Q.aa Q.ac _ hZ.ars.rd (by have:=t.out.1;omega) t.out.2).mono ?_;rintro r w8 ⟨rfl,V⟩;have hs:=ht.below V;have bx8:=M.ext V;have cx8:=cx7.ext V;have hA:=ag hd V;clear D h8 hZ ht M cx7 hd V hP
  go_wp2_with (refine aK rfl _ _ _ rfl #[.bool true,.bool g.rd,.bool g.wr,.bool g.sh,.int .i64 g.fi,.int .i64 g.pg] rfl rfl rfl one_size (Fs (some g)) ?_)
  intro w9 Y ox;have hq:=hs.below Y;have bx9:=bx8.ext Y;have cx9:=cx8.ext Y;have s:=ag hA Y;clear y h1 hs bx8 cx8 hA Y;have C:=ox.cell;generalize w8.heap.size=go at C ox;cases hm:wH g A with
  | false=>
   have kb:e=8:=hT.out.1 hm;subst kb;unfold wH at hm;cases A with
   | false=>
    have d : g.rd=false:=by simpa using hm
    rw[d]at C;go_wp2;go_ret;exact⟨rfl,s⟩
   | true=>
    have d : g.wr=false:=by simpa using hm
    rw[d]at C;go_wp2;go_ret;exact⟨rfl,s⟩
  | true=>
   have h5:=ae (hT.out.2 hm);go_upto_region 8 with(fail)
   go_cut [93] (fun s93 wx=>s93 = .bool false/\wx=w9)
   case first=>
    unfold wH at hm;cases A with
    | false=>
     have d : g.rd=true:=by simpa using hm
     rw[d]at C;go_wp2;go_meet
     case rel=>exact⟨rfl,rfl⟩
    | true=>
     have d : g.wr=true:=by simpa using hm
     rw[d]at C;go_wp2;go_meet
     case rel=>exact⟨rfl,rfl⟩
   case rest=>
   obtain⟨rfl,h7⟩:=hcut;subst h7;clear C ox hm hT
   go_wp2_with (refine ay _ _ rfl gm 0 rfl rfl _ bx9.rd _ underlying45 rfl machine_size ?_)
   refine(QL H P N _ hq J.out.rt h4 hN).mono ?_;rintro r wa ⟨rfl,hK⟩;have cxa:=cx9.ext hK;have hz:=ag s hK;clear hq bx9 cx9 s hK;generalize (fP H.ma P N).1=X at *
   generalize (fP H.ma P N).2.1=O at *
   generalize (fP H.ma P N).2.2=E at *
   go_wp2_with (refine aK rfl _ _ _ rfl (eQ X) rfl rfl rfl psize (fM _) ?_)
   intro wb hJ px;have cxb:=cxa.ext hJ;have ha:=ag hz hJ;clear cxa hz hJ px
   by_cases hE:E=9
   .have ka:e=9:=h5.out.1 hE;subst ka;subst hE;go_wp2;go_ret;exact⟨rfl,ha⟩
   rcases h5.out.2 hE with rfl|⟨rfl,hcf⟩
   .go_wp2;go_ret;exact⟨rfl,ha⟩
   have h3:=cxb.cell;go_wp2;go_ret;exact⟨rfl,ha⟩
open Go.ChangeShapes Go.WideShapes Go.ChangeAt
theorem opens_cfg:zw Tryz.prog 51 (λx:Int × Int × Int=>[.int .i64 x.1,.int .i64 x.2.1,.int .i64 x.2.2]) (λ_ x=>i64 x.1/\i64 x.2.1/\i64 x.2.2):=
 (Jz underlying51 (tJ rfl 1 rfl (by kernel_rfl) (Ck underlying3).w (tJ rfl 2 rfl (by kernel_rfl) (Ck underlying3).w (tJ rfl 3 rfl (by kernel_rfl) (Ck underlying3).w (Ga (by kernel_rfl)))))).of (λx=>(x.1,x.2.1,x.2.2.1)) (λ_=>rfl) (λ_ _ h=>⟨h.1,h.2.1,h.2.2.1⟩)
theorem NS{H:Type}{en:TypeId × Value->H}{x:DataW H × List MemPlace}(c:Value.okWide Tryz.prog W .any base 51 v)(h:DataW.trod en Tryz.prog W base' spare held fuel 51 v.cells.toList=some x) :
  ∃f s b:Int,v = .agg #[.int .i64 f,.int .i64 s,.int .i64 b]/\i64 f/\i64 s/\i64 b:=by
 obtain⟨cs,rfl,_⟩:=okWide_struct underlying51 c;obtain⟨⟨f,s,b⟩,a,k,j,d⟩:=opens_cfg _ _ _ _ _ _ _ _ _ h;refine⟨f,s,b,?_,k,j,d⟩;congr 1;apply Array.ext';simpa[Value.cells]using a
end Go.Proofs.YthihaopabbpalaaGreat