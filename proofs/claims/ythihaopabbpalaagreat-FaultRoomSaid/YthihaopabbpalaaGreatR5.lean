import Derived.Test.YthihaopabbpalaaGreatR4
import Derived.BigQuiet
import Derived.Deep.OwnRows
import Derived.Deep.DeepCutAuto
import Derived.BigRegion
import Derived.Deep.QuietTactic
set_option linter.unusedSimpArgs false
set_option linter.unusedVariables false
set_option maxHeartbeats 4000000
set_option maxRecDepth 100000
namespace Go.Proofs.YthihaopabbpalaaGreat
open _root_.Go.Proofs.Tryz
open Go.RowKit Go.Maps Pw
variable {P:Program} {b c g i j k p:Nat} {e t:TypeId} {l:List Int} {m:Ma} {n:Int} {o:Oper} {w:World} {x:Operand} {ρ:Operand -> Value}
def Jl (m:Ma):List Int:=[bu m.m,dF m.sl,bW m.sw,bW m.dk,aR m.st]
theorem Qo (C:k<5) (h:∀j,j<k->(Jl m).getD j 0=0) (d:(Jl m).getD k 0≠0):iR m=(Jl m).getD k 0:=by
 unfold iR;have y:0<k->bu m.m=0:=λu=>h 0 u;have z:1<k->dF m.sl=0:=λu=>h 1 u;have A:2<k->bW m.sw=0:=λu=>h 2 u;have D:3<k->bW m.dk=0:=λu=>h 3 u
 match k,C with
 | 0,_=>rw[if_pos (show bu m.m≠0 from d)];rfl
 | 1,_=>rw[if_neg (by rw[y (by omega)];simp),if_pos (show dF m.sl≠0 from d)];rfl
 | 2,_=>rw[if_neg (by rw[y (by omega)];simp),if_neg (by rw[z (by omega)];simp),if_pos (show bW m.sw≠0 from d)];rfl
 | 3,_=>rw[if_neg (by rw[y (by omega)];simp),if_neg (by rw[z (by omega)];simp),if_neg (by rw[A (by omega)];simp),if_pos (show bW m.dk≠0 from d)];rfl
 | 4,_=>rw[if_neg (by rw[y (by omega)];simp),if_neg (by rw[z (by omega)];simp),if_neg (by rw[A (by omega)];simp),if_neg (by rw[D (by omega)];simp),if_pos (show aR m.st≠0 from d)];rfl
 | n+5,u=>omega
def WR (B:Nat) (H:MH):mQ:=⟨λv w => ∃g,v = .slice (some ⟨g,0,none⟩) 5 5/\aG w g #[.int .i64 (bu H.m),.int .i64 (dF H.sl),.int .i64 (bW H.sw),.int .i64 (bW H.dk),.int .i64 (aR (cK H.fi H.ct))] 47,λ_ _ _ hb ⟨g,h1,h2⟩=>⟨g,h1,h2.ext hb⟩⟩
theorem Qy (H:MH) (b:Nat) (w:World) (J:aG w b (fB H) 45) (h:FD w H) :
  Calls Tryz.prog 81 #[.pointer (some ⟨b,0,none⟩)] w λr w'=>r = .returned (.int .i64 (iR H.ma))/\Below w.heap.size w w':=by
 go_enter func81,ntmps81;go_upto_region 1 with (fail);refine aN 28 [_,_,_,_,.v (.int .i64 (bu H.m)),_,_,_,_,.v (.int .i64 (dF H.sl)),_,_,_,_,.v (.int .i64 (bW H.sw)),_,_,_,_,.v (.int .i64 (bW H.dk)),_,_,_,_,.v (.int .i64 (aR (cK H.fi H.ct))),.r 25 ((WR w.heap.size H)),.v (.int .i64 5),_] (Gk rfl (Gk rfl (Gf b 0 rfl rfl (Gr (.agg #[.slice H.af H.m.fs.length H.cf,.int .i64 H.m.hand]) (λρ y W C g=>(bF rfl (aI rfl g) (bH (J.ext C) 0 2) underlying32 rfl (by kernel_rfl))) rfl rfl (ah ?_ (Gk rfl (Gk rfl (Gf b 2 rfl rfl (Gl J rfl rfl rfl rfl rfl (ah ?_ (Gk rfl (Gk rfl (Gf b 3 rfl rfl (Gr (.agg #[.slice H.wb H.sw.blocks.length H.cwb,.slice H.wq H.sw.queue.length H.cwq]) (λρ y W C g=>(bF rfl (aI rfl g) (bH (J.ext C) 3 2) underlying38 rfl (by kernel_rfl))) rfl rfl (ah ?_ (Gk rfl (Gk rfl (Gf b 5 rfl rfl (Gr (.agg #[.slice H.db H.dk.blocks.length H.cdb,.slice H.dq H.dk.queue.length H.cdq]) (λρ y W C g=>(bF rfl (aI rfl g) (bH (J.ext C) 5 2) underlying38 rfl (by kernel_rfl))) rfl rfl (ah ?_ (Gk rfl (Gk rfl (Gf b 7 rfl rfl (Gr (.agg #[.slice H.ai H.fi.length H.ci,.int .i64 H.ct]) (λρ y W C g=>(bF rfl (aI rfl g) (bH (J.ext C) 7 2) underlying41 rfl (by kernel_rfl))) rfl rfl (ah ?_ (ah ?_ (ah ?_ (Gr (.int .i64 0) (λρ y W C g=>(run_move (.inl rfl) (aI rfl g))) rfl rfl (aF))))))))))))))))))))))))))))) (λ_=>rfl) rfl ?_
 ·intro ρ y W D I C A;have kw:=D 12 3 rfl;have h3:y 3=_:=A 3 rfl;have F:∀f,ρ (.func f) = .func (.func f) #[] #[]:=λf=>I (.func f) trivial;refine aO _ _ (aj rfl) (aT rfl (F _) func125 (by kernel_rfl) (by kernel_rfl) (by simp only[bX,bR,aY,kw,h3,F];rfl)) ?_;refine (vS H.m _ _ W (h.below C).fr).mono ?_;rintro r w1 ⟨rfl,p⟩;exact⟨_,rfl,p,rfl⟩
 ·intro ρ y W D I C A;have ku:=D 17 8 rfl;have h8:y 8=_:=A 8 rfl;have F:∀f,ρ (.func f) = .func (.func f) #[] #[]:=λf=>I (.func f) trivial;refine aO _ _ (aj rfl) (aT rfl (F _) func126 (by kernel_rfl) (by kernel_rfl) (by simp only[bX,bR,aY,ku,h8,F];rfl)) ?_;refine (xx H.sl _ _ W (h.below C).sl.rd (by have:=h.sl.le;have:=h.sl.mx;unfold maxLen at this;omega)).mono ?_;rintro r w1 ⟨rfl,rfl⟩;exact⟨_,rfl,Below.refl _ _,rfl⟩
 ·intro ρ y W D I C A;have ks:=D 22 13 rfl;have kk:y 13=_:=A 13 rfl;have F:∀f,ρ (.func f) = .func (.func f) #[] #[]:=λf=>I (.func f) trivial;refine aO _ _ (aj rfl) (aT rfl (F _) func127 (by kernel_rfl) (by kernel_rfl) (by simp only[bX,bR,aY,ks,kk,F];rfl)) ?_;refine (vR H.sw _ _ _ _ W (h.below C).sw).mono ?_;rintro r w1 ⟨rfl,p⟩;exact⟨_,rfl,p,rfl⟩
 ·intro ρ y W D I C A;have kq:=D 27 18 rfl;have ki:y 18=_:=A 18 rfl;have F:∀f,ρ (.func f) = .func (.func f) #[] #[]:=λf=>I (.func f) trivial;refine aO _ _ (aj rfl) (aT rfl (F _) func127 (by kernel_rfl) (by kernel_rfl) (by simp only[bX,bR,aY,kq,ki,F];rfl)) ?_;refine (vR H.dk _ _ _ _ W (h.below C).dk).mono ?_;rintro r w1 ⟨rfl,p⟩;exact⟨_,rfl,p,rfl⟩
 ·intro ρ y W D I C A;have ko:=D 32 23 rfl;have kg:y 23=_:=A 23 rfl;have F:∀f,ρ (.func f) = .func (.func f) #[] #[]:=λf=>I (.func f) trivial;refine aO _ _ (aj rfl) (aT rfl (F _) func113 (by kernel_rfl) (by kernel_rfl) (by simp only[bX,bR,aY,ko,kg,F];rfl)) ?_;refine (Em H.fi H.ct _ _ W (h.below C).st h.c64).mono ?_;rintro r w1 ⟨rfl,p⟩;exact⟨_,rfl,p,rfl⟩
 ·intro ρ y W D I C A;have kv:=D 13 4 rfl;have h4:y 4=_:=A 4 rfl;have kt:=D 18 9 rfl;have h9:y 9=_:=A 9 rfl;have kr:=D 23 14 rfl;have kj:y 14=_:=A 14 rfl;have kp:=D 28 19 rfl;have kh:y 19=_:=A 19 rfl;have kn:=D 33 24 rfl;have kf:y 24=_:=A 24 rfl;refine jc (.slice (some ⟨W.heap.size,0,none⟩) 5 5) (aj rfl) (by simp[execOp,go_sem,kv.trans h4,kt.trans h9,kr.trans kj,kp.trans kh,kn.trans kf]) ((Below.refl _ _).alloc (az _) (.cells #[.int .i64 (bu H.m),.int .i64 (dF H.sl),.int .i64 (bW H.sw),.int .i64 (bW H.dk),.int .i64 (aR (cK H.fi H.ct))] 47)) ?_;exact⟨_,rfl,aG.new _ _ _⟩
 ·intro ρ y W D I C A;have km:=D 34 25 rfl;have ke:=A 25 rfl;obtain⟨ge,hu,_⟩:=ke;refine ak (.int .i64 5) (aj rfl) (by simp[execOp,go_sem,km,hu]) rfl
 intro y W1 hG hI;have hV:((WR w.heap.size H)).r (y 25) W1:=hI 25 (by decide);clear hI;obtain⟨ge,hu,hW⟩:=hV;have hh:Below w.heap.size w W1:=hG;rw[hu];clear hu hG;go_upto_region 2 with (fail)
 go_loopw [36] (fun i wr => ∃(k:Nat),k<=5/\i = .int .i64 k/\Below w.heap.size w wr/\aG wr ge #[.int .i64 (bu H.m),.int .i64 (dF H.sl),.int .i64 (bW H.sw),.int .i64 (bW H.dk),.int .i64 (aR (cK H.fi H.ct))] 47/\Hid (∀j,j<k->(Jl H.ma).getD j 0=0)) (fun i _=>5-(intOf i).toNat)
 case atStart=>exact⟨0,aZ _,rfl,hh,hW,ae λj U=>absurd U (fe _)⟩
 case round=>
  clear hh hW;obtain⟨k,hk,rfl,d,hx,G⟩:=hrel
  by_cases K:k<5
  ·have hM:(k:Int)<5:=by omega
   have kb:wr.cell? ⟨ge,k,none⟩=some (.int .i64 ((Jl H.ma).getD k 0)):=by
    rw[hx.cell]
    match k,K with
    | 0,_=>rfl
    | 1,_=>rfl
    | 2,_=>rfl
    | 3,_=>rfl
    | 4,_=>rfl
    | n+5,h'=>omega
   by_cases Z:(Jl H.ma).getD k 0=0
   ·have hm:Hid (∀j,j<k+1->(Jl H.ma).getD j 0=0):=ae λj U=>by
     by_cases e:j=k
     ·rw[e];exact Z
     ·exact G.out j (by omega)
    rw[Z] at kb;clear Z G;go_wp2;go_roundw
    case rel=>exact⟨k+1,by omega,by go_num,d,hx,hm⟩
    case measure=>simp[intOf];omega
   have O:Hid (iR H.ma=(Jl H.ma).getD k 0):=ae (Qo K G.out Z);generalize (Jl H.ma).getD k 0=E at *
   clear G;go_wp2;go_ret;rw[O.out];exact⟨rfl,d⟩
  have hM:¬(k:Int)<5:=by omega
  have hU:=G.out 0 (by omega);have hT:=G.out 1 (by omega);have hm:=G.out 2 (by omega);have hS:=G.out 3 (by omega);have hR:=G.out 4 (by omega);have e0:=ae (show bu H.m=0 from hU);have e1:=ae (show dF H.sl=0 from hT);have e2:=ae (show bW H.sw=0 from hm);have e3:=ae (show bW H.dk=0 from hS);have e4:=ae (show aR (cK H.fi H.ct)=0 from hR);clear hU hT hm hS hR G hx;have a:=J.ext d;have hr:=h.below d;have X:Hid (iR H.ma=if H.sw.blocks.length≠H.sl.length\/(H.dk.blocks.length:Int)≠H.ct\/trimB H.ma=false then 7 else if 4<H.sp.length then 4 else firstE (H.ma.sp.map kH)):=ae (by unfold iR;rw[if_neg (by rw[show bu H.ma.m=0 from e0.out];simp),if_neg (by rw[show dF H.ma.sl=0 from e1.out];simp),if_neg (by rw[show bW H.ma.sw=0 from e2.out];simp),if_neg (by rw[show bW H.ma.dk=0 from e3.out];simp),if_neg (by rw[show aR H.ma.st=0 from e4.out];simp),ul];rfl);go_upto_region 7 with (fail);have hf:=a.cell;unfold fB at hf
  by_cases S:H.sw.blocks.length=H.sl.length
  ·by_cases R:(H.dk.blocks.length:Int)=H.ct
   ·have M:(H.sw.blocks.length:Int)=(H.sl.length:Int):=by omega
    have hL:Hid (iR H.ma=if trimB H.ma=false then 7 else if 4<H.sp.length then 4 else firstE (H.ma.sp.map kH)):=ae (by
     rw[X.out]
     by_cases ct:trimB H.ma=false
     ·rw[if_pos (.inr (.inr ct)),if_pos ct]
     ·rw[if_neg (by rintro (h | h | h);exact h S;exact h R;exact ct h),if_neg ct])
    refine aN 31 [_,_,_,_,_,_,_,_,_,_,_,_,_,_,_,_,_,_,_,_,_,_,_,_,_,_,_,_,.v (.bool (trimB H.ma)),_,.v (.bool (!trimB H.ma))] (Gk rfl (Gk rfl (Gf b 3 rfl rfl (Gf b 3 rfl rfl (Gl a rfl rfl rfl rfl rfl (Gn rfl rfl rfl rfl (Gk rfl (Gk rfl (Gf b 2 rfl rfl (Gl a rfl rfl rfl rfl rfl (Gn rfl rfl rfl rfl (Gb (.bool false) (by simp[go_sem,S]) rfl rfl rfl rfl rfl (Gk rfl (Gk rfl (Gk rfl (Gf b 5 rfl rfl (Gf b 5 rfl rfl (Gl a rfl rfl rfl rfl rfl (Gn rfl rfl rfl rfl (Gk rfl (Gk rfl (Gf b 7 rfl rfl (Gf b 8 rfl rfl (Gl a rfl rfl rfl rfl rfl (Gb (.bool false) (by simp[go_sem,R]) rfl rfl rfl rfl rfl (Gk rfl (Gk rfl (Gk rfl (ah ?_ (Gr (.bool (!trimB H.ma)) (λρ y W C g=>CJ rfl (aI rfl g)) rfl rfl (Gk rfl (aF)))))))))))))))))))))))))))))))) (λ_=>rfl) rfl ?_
    ·intro ρ y W D I C A;have kl:=D 71 27 rfl;have kd:y 27=_:=A 27 rfl;have F:∀f,ρ (.func f) = .func (.func f) #[] #[]:=λf=>I (.func f) trivial;refine aO _ _ (bD 26 70 false false rfl rfl ((D 70 26 rfl).trans (A 26 rfl))) (aT rfl (F _) func128 (by kernel_rfl) (by kernel_rfl) (by simp only[bX,bR,aY,kl,kd,F];rfl)) ?_;refine (JP H b W (a.ext C) (hr.below C) e4.out e3.out).mono ?_;rintro r w1 ⟨rfl,p⟩;exact⟨_,rfl,p,rfl⟩
    intro y W2 l _;have c:=ag d l;clear l;cases ht:trimB H.ma with
    | false=>
     have ha:Hid (iR H.ma=7):=ae (by rw[hL.out,if_pos ht]);clear S R M;go_wp2;go_ret;rw[ha.out];exact⟨rfl,c⟩
    | true=>
     have hK:Hid (iR H.ma=if 4<H.sp.length then 4 else firstE (H.ma.sp.map kH)):=ae (by rw[hL.out,if_neg (by rw[ht];decide)]);clear S R M hf ht;have h6:=h.below c;have hf:=(J.ext c).cell;unfold fB at hf;clear hr a X hL d
     by_cases c4:4<H.sp.length
     ·have hs:Hid (iR H.ma=4):=ae (by rw[hK.out,if_pos c4]);have c4i:(4:Int)<(H.sp.length:Int):=by omega
      clear c4;go_wp2;go_ret;rw[hs.out];exact⟨rfl,c⟩
     have hs:Hid (iR H.ma=firstE (H.ma.sp.map kH)):=ae (by rw[hK.out,if_neg c4]);have c4i:¬(4:Int)<(H.sp.length:Int):=by omega
     have hC:Hid ((H.ma.sp.map kH).length=H.sp.length):=ae (by rw[fH,ul]);clear c4 hK;go_upto_region 12 with (fail);clear hf h6
     go_loopw [86] (fun i wr => ∃(k:Nat),k<=H.sp.length/\i = .int .i64 k/\Below w.heap.size w wr/\Hid (∀j (U:j<(H.ma.sp.map kH).length),j<k->(H.ma.sp.map kH)[j]=0)) (fun i _=>H.sp.length-(intOf i).toNat)
     case atStart=>exact⟨0,aZ _,rfl,c,ae λj _ U=>absurd U (fe _)⟩
     case round=>
      clear c;obtain⟨k,hk,rfl,d,G⟩:=hrel
      by_cases K:k<H.sp.length
      ·obtain⟨bs,os,P,kc,X,hX⟩:=uf (h.below d).sp.rd k K;have t:=wB (h.below d) X;have hM:(k:Int)<(H.sp.length:Int):=by omega
       have hZ:k<(H.ma.sp.map kH).length:=by rw[hC.out];exact K
       have hE:Hid ((H.ma.sp.map kH)[k]=kH P.sp):=ae (by
        rw[wy];congr 1;have:H.ma.sp[k]?=some P.sp:=by show (H.sp.map PS.sp)[k]?=_;rw[jv,X];rfl
        exact (cz.1 this).2)
       have hc:Hid (kH P.sp≠0->iR H.ma=kH P.sp):=ae λh7=>by rw[hs.out,xP k hZ G.out (by rw[hE.out];exact h7),hE.out]
       have hY:Hid (kH P.sp=0->∀j (U:j<(H.ma.sp.map kH).length),j<k+1->(H.ma.sp.map kH)[j]=0):=ae λZ j U kz=>by
        by_cases e:j=k
        ·subst e;rw[hE.out];exact Z
        ·exact G.out j U (by omega)
       have o:Hid (kH P.sp=if (bQ P.ar).1≠0 then (bQ P.ar).1 else if dA P.tb≠0 then dA P.tb else if P.lv=false/\0<P.ar.length+(aU P.tb).length then 7 else 0):=ae rfl;rw[kc];clear G X hE hZ;have hB:(yM P).all (·.oneCell')=true:=by rw[<-mE,eZ];exact t.one
       go_wp2_with (first | (refine ay _ _ rfl bs (os+k*10) rfl rfl _ hX _ underlying76 rfl space_size ?_) | (refine aL rfl _ _ _ rfl (yM P) rfl rfl rfl space_size hB ?_))
       intro w3 hQ L;have hF:=ag d hQ;have hN:=t.below hQ;have ka:=L.lt;generalize wr.heap.size=gs at L ka ⊢;clear d hQ hX t hB;have h1:=L.cell;unfold yM at h1;have hA:=hN.ars
       go_wp2_with fail
       refine (LW P.ar P.aa P.ac _ hA.rd (by have:=hA.le;have:=hA.mx;unfold maxLen at this;omega)).mono ?_;rintro r w3' ⟨rfl,z⟩;have Y:=L.ext z;have hg:=ag hF z;have hD:=hN.below z;clear h1 L hF hN z hA
       go_wp2_with (refine aL rfl _ _ _ rfl (Lr (bQ P.ar)) rfl rfl rfl fau_size (by simp[Lr,Value.oneCell']) ?_)
       intro w4 hy ux;have N:=Y.ext hy;have q:=ag hg hy;have u:=hD.below hy;clear Y hg hD hy;have hO:=ux.cell;unfold Lr at hO
       by_cases c5:(bQ P.ar).1=0
       ·rw[if_neg (by rw[c5];simp)] at o;rw[c5] at hO;have kA:=(yI c5).1;have ky:(aU P.tb).length<=64:=su P.tb 64;have hp:IntKind.i64.wrap ((P.ar.length:Int)+((aU P.tb).length:Int))=(P.ar.length:Int)+((aU P.tb).length:Int):=bG _ (by omega);go_upto_region 17 with (fail);clear hO ux c5
        go_wp2_with (refine ay _ _ rfl gs 2 rfl rfl _ (bH N 2 8) _ underlying74 tab_agg tab_size ?_)
        refine (Ep P.tb (oh P.ts) _ u.tb).mono ?_;rintro r w6 ⟨rfl,hv⟩;replace N:=N.ext hv;replace q:=ag q hv;replace u:=u.below hv;clear hv
        by_cases c6:dA P.tb=0
        ·rw[if_neg (by rw[c6];simp)] at o;rw[c6];go_upto_region 20 with (fail);cases hlv:P.lv with
         | true=>
          have hJ:Hid (kH P.sp=0):=ae (by rw[o.out,if_neg (by rw[hlv];simp)]);refine aN 14 [_,_,_,_,_,_,_,_,_,_,_,_,_,.v (.bool false)] (Gf gs 0 rfl rfl (Gl N (V:=.bool true) (by simp[yM,hlv]) rfl rfl rfl rfl (Gk rfl (Gk rfl (Gk rfl (Gk rfl (Gk rfl (Gk rfl (Gk rfl (Gk rfl (Gk rfl (Gk rfl (Gk rfl (Gk rfl (aF))))))))))))))) (λ_=>rfl) rfl ?_;intro y W5 s _;have x:=ag q s;clear s;have hl:=ae (hY.out hJ.out);clear hp N u;go_wp2;go_roundw
          case rel=>exact⟨k+1,by omega,by go_num,x,hl⟩
          case measure=>simp[intOf];omega
         | false=>
          refine aN 14 [_,_,_,_,_,_,_,_,_,.r 9 ((nz w6.heap.size 3 1 (aU P.tb).length ((aU P.tb).map fZ))),.v (.int .i64 (aU P.tb).length),_,_,.v (.bool (decide (0<(P.ar.length:Int)+((aU P.tb).length:Int))))] (Gf gs 0 rfl rfl (Gl N (V:=.bool false) (by simp[yM,hlv]) rfl rfl rfl rfl (Gk rfl (Gk rfl (Gf gs 1 rfl rfl (Gl N rfl rfl rfl rfl rfl (Gn rfl rfl rfl rfl (Gf gs 2 rfl rfl (Gr (.agg (oh P.ts)) (λρ y W C g=>(bF rfl (aI rfl g) (bH (N.ext C) 2 8) underlying74 tab_agg tab_size)) rfl rfl (ah ?_ (ah ?_ (Gb (.int .i64 ((P.ar.length:Int)+((aU P.tb).length:Int))) (by simp[go_sem,hp]) rfl rfl rfl rfl rfl (Gb (.bool (decide (0<(P.ar.length:Int)+((aU P.tb).length:Int)))) (by simp[go_sem]) rfl rfl rfl rfl rfl (Gk rfl (aF))))))))))))))) (λ_=>rfl) rfl ?_
          ·intro ρ y W D I C A;have h5:=D 112 8 rfl;have h8:y 8=_:=A 8 rfl;have F:∀f,ρ (.func f) = .func (.func f) #[] #[]:=λf=>I (.func f) trivial;refine aO _ _ (bD 3 107 true true rfl rfl ((D 107 3 rfl).trans (A 3 rfl))) (aT rfl (F _) func67 (by kernel_rfl) (by kernel_rfl) (by simp only[bX,bR,aY,h5,h8,F];rfl)) ?_;refine (yV P.tb (oh P.ts) W (u.below C).tb).mono ?_;rintro r w1 ⟨v,rfl,ho,p⟩;exact⟨_,rfl,p,ho.mono C.size⟩
          ·intro ρ y W D I C A;have h2:=D 113 9 rfl;have h9:=A 9 rfl;obtain⟨a9,c9,e9,_⟩:=Own.rd h9;refine ak (.int .i64 (aU P.tb).length) (bD 3 107 true true rfl rfl ((D 107 3 rfl).trans (A 3 rfl))) (Lf rfl (h2.trans e9) rfl) rfl
          intro y W5 s hH;have kx:((nz w6.heap.size 3 1 (aU P.tb).length ((aU P.tb).map fZ))).r (y 9) W5:=hH 9 (by decide);clear hH;have x:=ag q s;clear s
          by_cases c7:0<P.ar.length+(aU P.tb).length
          ·have O:Hid (iR H.ma=7):=ae (by rw[hc.out (by rw[o.out,if_pos ⟨hlv,c7⟩];decide),o.out,if_pos ⟨hlv,c7⟩]);have A:decide (0<(P.ar.length:Int)+((aU P.tb).length:Int))=true:=decide_eq_true (by omega);rw[A];clear hp N u A c7;go_wp2;go_ret;rw[O.out];exact⟨rfl,x⟩
          have hJ:Hid (kH P.sp=0):=ae (by rw[o.out,if_neg (λh'=>c7 h'.2)]);have hl:=ae (hY.out hJ.out);have A:decide (0<(P.ar.length:Int)+((aU P.tb).length:Int))=false:=decide_eq_false (by omega);rw[A];clear hp N u A c7;go_wp2;go_roundw
          case rel=>exact⟨k+1,by omega,by go_num,x,hl⟩
          case measure=>simp[intOf];omega
        rw[if_pos c6] at o;have O:Hid (iR H.ma=dA P.tb):=ae (by rw[hc.out (by rw[o.out];exact c6),o.out]);generalize dA P.tb=E at *
        go_wp2;go_ret;rw[O.out];exact⟨rfl,q⟩
       rw[if_pos c5] at o;have O:Hid (iR H.ma=(bQ P.ar).1):=ae (by rw[hc.out (by rw[o.out];exact c5),o.out]);generalize (bQ P.ar).1=E at *
       go_wp2;go_ret;rw[O.out];exact⟨rfl,q⟩
      have hM:¬(k:Int)<(H.sp.length:Int):=by omega
      have O:Hid (iR H.ma=0):=ae (by rw[hs.out,tH λi hi=>G.out i hi (by rw[hC.out] at hi;omega)]);clear G;go_wp2;go_ret;rw[O.out];exact⟨rfl,d⟩
   have ha:Hid (iR H.ma=7):=ae (by rw[X.out,if_pos (.inr (.inl R))]);refine aN 31 [_,_,_,_,_,_,_,_,_,_,_,_,_,_,_,_,_,_,_,_,_,_,_,_,_,_,_,_,_,_,.v (.bool true)] (Gk rfl (Gk rfl (Gf b 3 rfl rfl (Gf b 3 rfl rfl (Gl a rfl rfl rfl rfl rfl (Gn rfl rfl rfl rfl (Gk rfl (Gk rfl (Gf b 2 rfl rfl (Gl a rfl rfl rfl rfl rfl (Gn rfl rfl rfl rfl (Gb (.bool false) (by simp[go_sem,S]) rfl rfl rfl rfl rfl (Gk rfl (Gk rfl (Gk rfl (Gf b 5 rfl rfl (Gf b 5 rfl rfl (Gl a rfl rfl rfl rfl rfl (Gn rfl rfl rfl rfl (Gk rfl (Gk rfl (Gf b 7 rfl rfl (Gf b 8 rfl rfl (Gl a rfl rfl rfl rfl rfl (Gb (.bool true) (by simp[go_sem,R]) rfl rfl rfl rfl rfl (Gk rfl (Gk rfl (Gk rfl (Gk rfl (Gk rfl (Gk rfl (aF)))))))))))))))))))))))))))))))) (λ_=>rfl) rfl ?_;intro y W2 l _;have c:=ag d l;clear l;clear S R;go_wp2;go_ret;rw[ha.out];exact⟨rfl,c⟩
  have ha:Hid (iR H.ma=7):=ae (by rw[X.out,if_pos (.inl S)]);have M:¬((H.sw.blocks.length:Int)=(H.sl.length:Int)):=by omega
  have R:=S;refine aN 31 [_,_,_,_,_,_,_,_,_,_,_,_,_,_,_,_,_,_,_,_,_,_,_,_,_,_,_,_,_,_,.v (.bool true)] (Gk rfl (Gk rfl (Gf b 3 rfl rfl (Gf b 3 rfl rfl (Gl a rfl rfl rfl rfl rfl (Gn rfl rfl rfl rfl (Gk rfl (Gk rfl (Gf b 2 rfl rfl (Gl a rfl rfl rfl rfl rfl (Gn rfl rfl rfl rfl (Gb (.bool true) (by simp[go_sem,M]) rfl rfl rfl rfl rfl (Gk rfl (Gk rfl (Gk rfl (Gk rfl (Gk rfl (Gk rfl (Gk rfl (Gk rfl (Gk rfl (Gk rfl (Gk rfl (Gk rfl (Gk rfl (Gk rfl (Gk rfl (Gk rfl (Gk rfl (Gk rfl (Gk rfl (aF)))))))))))))))))))))))))))))))) (λ_=>rfl) rfl ?_;intro y W2 l _;have c:=ag d l;clear l;clear S M R;go_wp2;go_ret;rw[ha.out];exact⟨rfl,c⟩
theorem vw {p:Option Cc} {c:Cc} (h:c.f<0\/(m.st.fs.length:Int)<=c.f\/c.i<0\/((aS m.st c.f).b.length:Int)<=c.i\/c.k<0\/(m.m.fs.length:Int)<=c.k):uR m p c=3:=by
 unfold uR;rw[if_pos h]
theorem Ml (H:MH) (b:Nat) (w:World) (hbk:aG w b (fB H) 45) (h:FD w H) :
  Calls Tryz.prog 82 #[.pointer (some ⟨b,0,none⟩)] w λr w'=>r = .returned (.int .i64 (cachedE H.ma))/\Below w.heap.size w w':=by
 have ku:=h.ca.le;have kp:=h.ca.mx;unfold maxLen at kp;go_enter func82,ntmps82;have kf:=hbk.cell;unfold fB at kf;obtain⟨L,hL⟩:∃L,L=(List.range H.ca.length).map λk=>uR H.ma (yQ H.ca k) (H.ca.getD k zCc):=⟨_,rfl⟩;have kl:Hid (L.length=H.ca.length):=ae (by rw[hL];simp);have km:Hid (cachedE H.ma=firstE L):=ae (by rw[hL];rfl);have ks:Hid (∀k (hk:k<L.length),L[k]=uR H.ma (yQ H.ca k) (H.ca.getD k zCc)):=ae λk hk=>by simp[hL]
 clear hL;go_upto_region 2 with (fail);clear kf
 go_loopw [11] (fun i wr => ∃(k:Nat),k<=H.ca.length/\i = .int .i64 k/\Below w.heap.size w wr/\Hid (∀j (hj:j<L.length),j<k->L[j]=0)) (fun i _=>H.ca.length-(intOf i).toNat)
 case atStart=>exact⟨0,aZ _,rfl,Below.refl _ _,ae λj _ hj=>absurd hj (fe _)⟩
 case round=>
  obtain⟨k,hk,rfl,hN,hz⟩:=hrel
  by_cases hkl:k<H.ca.length
  ·obtain⟨E,D,Y,h4⟩:=kM iX (by decide) (h.below hN).ca.rd k hkl;have kq:(k:Int)<(H.ca.length:Int):=by omega
   have hX:k<L.length:=by rw[kl.out];exact hkl
   have hE:Hid (L[k]=uR H.ma (yQ H.ca k) H.ca[k]):=ae (by rw[ks.out k hX,aX,aH hkl];rfl);have Z:Hid (L[k]≠0->cachedE H.ma=L[k]):=ae λko=>by rw[km.out,xP k hX hz.out ko]
   have hW:Hid (L[k]=0->∀j (hj:j<L.length),j<k+1->L[j]=0):=ae λh0 j hj kv=>by
    by_cases e:j=k
    ·subst e;exact h0
    ·exact hz.out j hj (by omega)
   generalize hLk:L[k]=Lk at *
   have h6:Hid (yQ H.ca k=if k=0 then none else H.ca[k-1]?):=ae rfl;generalize hc:H.ca[k]=c at *
   rw[Y];clear hz hX hLk hc
   go_wp2_with (first | (refine ay _ _ rfl E (D+k*3) rfl rfl _ h4 _ underlying122 rfl cached_size ?_) | (refine aL rfl _ _ _ rfl (vV c) rfl rfl rfl cached_size (wI c) ?_))
   intro w3 kj C;have ht:=ag hN kj;have z:=hbk.ext ht;have hV:=h.below ht;generalize wr.heap.size=gc at C ⊢;clear kj h4 hN;go_upto_region 4 with (fail);obtain⟨N,of,F,P,O,J,X,S⟩:∃(N of F:Nat) (P:PF),(0<=c.f->c.f<H.fi.length->H.ai=some ⟨N,of,none⟩)/\(0<=c.f->c.f<H.fi.length->F<H.fi.length)/\(0<=c.f->c.f<H.fi.length->c.f=(F:Int)/\aS H.ma.st c.f=P.fi)/\(0<=c.f->c.f<H.fi.length->∀W,Below w3.heap.size w3 W->W.cell? ⟨N,of+F*2+1,none⟩=some (.slice P.a P.l.length P.c)):=by
    by_cases hc0:0<=c.f/\c.f<H.fi.length
    ·have J:c.f.toNat<H.fi.length:=by omega
     obtain⟨N,of,P,O,hP,kw,S⟩:=xH hV.st.rd c.f.toNat J;refine⟨N,of,c.f.toNat,P,λ_ _=>O,λ_ _=>J,λ_ _=>⟨by omega,?_⟩,λ_ _ W A => ?_⟩
     ·have:(H.fi.map PF.fi)[c.f.toNat]?=some P.fi:=by rw[jv,hP];rfl
      have h2:=kI (s:=H.ma.st) (F:=c.f.toNat) this;rw[<-h2];congr 1;omega
     obtain⟨bf',of',P',hS,kk,kt,kd⟩:=xH (hV.below A).st.rd c.f.toNat J;rw[hP] at kk;cases kk;rw[O] at hS;cases hS;exact kd
    ·exact⟨0,0,0,⟨0,none,[],0⟩,λh1 h2=>absurd ⟨h1,h2⟩ hc0,λh1 h2=>absurd ⟨h1,h2⟩ hc0,λh1 h2=>absurd ⟨h1,h2⟩ hc0,λh1 h2=>absurd ⟨h1,h2⟩ hc0⟩
   by_cases c1:c.f<0
   ·have t:Hid (c.f<0\/(H.ma.st.fs.length:Int)<=c.f\/c.i<0\/((aS H.ma.st c.f).b.length:Int)<=c.i\/c.k<0\/(H.ma.m.fs.length:Int)<=c.k):=ae (.inl c1);refine aN 51 [_,_,_,_,_,_,_,_,_,_,_,_,_,_,_,_,_,_,_,_,_,_,_,_,_,_,_,_,_,_,_,_,_,_,_,_,_,_,_,_,_,_,_,_,_,_,_,_,_,_,.v (.bool true)] (Gf gc 0 rfl rfl (Gl C rfl rfl rfl rfl rfl (Gb (.bool true) (by simp[go_sem,c1]) rfl rfl rfl rfl rfl (Gk rfl (Gk rfl (Gk rfl (Gk rfl (Gk rfl (Gk rfl (Gk rfl (Gk rfl (Gk rfl (Gk rfl (Gk rfl (Gk rfl (Gk rfl (Gk rfl (Gk rfl (Gk rfl (Gk rfl (Gk rfl (Gk rfl (Gk rfl (Gk rfl (Gk rfl (Gk rfl (Gk rfl (Gk rfl (Gk rfl (Gk rfl (Gk rfl (Gk rfl (Gk rfl (Gk rfl (Gk rfl (Gk rfl (Gk rfl (Gk rfl (Gk rfl (Gk rfl (Gk rfl (Gk rfl (Gk rfl (Gk rfl (Gk rfl (Gk rfl (Gk rfl (Gk rfl (Gk rfl (Gk rfl (Gk rfl (aF)))))))))))))))))))))))))))))))))))))))))))))))))))) (λ_=>rfl) rfl ?_;intro y W4 g _;have p:=ag ht g;replace C:=C.ext g;clear g;have M:Hid (Lk=3):=ae (by rw[hE.out];exact vw t.out);have I:Hid (cachedE H.ma=3):=ae (by rw[Z.out (by rw[M.out];decide),M.out]);clear O J X S;go_wp2;go_ret;rw[I.out];exact⟨rfl,p⟩
   have hY:Hid (H.ma.st.fs.length=H.fi.length):=ae (fH _)
   by_cases c2:(H.fi.length:Int)<=c.f
   ·have t:Hid (c.f<0\/(H.ma.st.fs.length:Int)<=c.f\/c.i<0\/((aS H.ma.st c.f).b.length:Int)<=c.i\/c.k<0\/(H.ma.m.fs.length:Int)<=c.k):=ae (.inr (.inl (by rw[hY.out];exact c2)));refine aN 51 [_,_,_,_,_,_,_,_,_,_,_,_,_,_,_,_,_,_,_,_,_,_,_,_,_,_,_,_,_,_,_,_,_,_,_,_,_,_,_,_,_,_,_,_,_,_,_,_,_,_,.v (.bool true)] (Gf gc 0 rfl rfl (Gl C rfl rfl rfl rfl rfl (Gb (.bool false) (by simp[go_sem,c1]) rfl rfl rfl rfl rfl (Gk rfl (Gf gc 0 rfl rfl (Gl C rfl rfl rfl rfl rfl (Gk rfl (Gk rfl (Gf b 7 rfl rfl (Gf b 7 rfl rfl (Gl z rfl rfl rfl rfl rfl (Gn rfl rfl rfl rfl (Gb (.bool true) (by simp[go_sem,c2]) rfl rfl rfl rfl rfl (Gk rfl (Gk rfl (Gk rfl (Gk rfl (Gk rfl (Gk rfl (Gk rfl (Gk rfl (Gk rfl (Gk rfl (Gk rfl (Gk rfl (Gk rfl (Gk rfl (Gk rfl (Gk rfl (Gk rfl (Gk rfl (Gk rfl (Gk rfl (Gk rfl (Gk rfl (Gk rfl (Gk rfl (Gk rfl (Gk rfl (Gk rfl (Gk rfl (Gk rfl (Gk rfl (Gk rfl (Gk rfl (Gk rfl (Gk rfl (Gk rfl (Gk rfl (Gk rfl (Gk rfl (aF)))))))))))))))))))))))))))))))))))))))))))))))))))) (λ_=>rfl) rfl ?_;intro y W4 g _;have p:=ag ht g;replace C:=C.ext g;clear g;have M:Hid (Lk=3):=ae (by rw[hE.out];exact vw t.out);have I:Hid (cachedE H.ma=3):=ae (by rw[Z.out (by rw[M.out];decide),M.out]);clear O J X S;go_wp2;go_ret;rw[I.out];exact⟨rfl,p⟩
   replace O:=O (by omega) (by omega);replace J:=J (by omega) (by omega);obtain⟨X,kb⟩:=X (by omega) (by omega);replace S:=S (by omega) (by omega);have hG:=ae kb;clear kb
   by_cases c3:c.i<0
   ·have t:Hid (c.f<0\/(H.ma.st.fs.length:Int)<=c.f\/c.i<0\/((aS H.ma.st c.f).b.length:Int)<=c.i\/c.k<0\/(H.ma.m.fs.length:Int)<=c.k):=ae (.inr (.inr (.inl c3)));refine aN 51 [_,_,_,_,_,_,_,_,_,_,_,_,_,_,_,_,_,_,_,_,_,_,_,_,_,_,_,_,_,_,_,_,_,_,_,_,_,_,_,_,_,_,_,_,_,_,_,_,_,_,.v (.bool true)] (Gf gc 0 rfl rfl (Gl C rfl rfl rfl rfl rfl (Gb (.bool false) (by simp[go_sem,c1]) rfl rfl rfl rfl rfl (Gk rfl (Gf gc 0 rfl rfl (Gl C rfl rfl rfl rfl rfl (Gk rfl (Gk rfl (Gf b 7 rfl rfl (Gf b 7 rfl rfl (Gl z rfl rfl rfl rfl rfl (Gn rfl rfl rfl rfl (Gb (.bool false) (by simp[go_sem,c2]) rfl rfl rfl rfl rfl (Gk rfl (Gk rfl (Gf gc 1 rfl rfl (Gl C rfl rfl rfl rfl rfl (Gb (.bool true) (by simp[go_sem,c3]) rfl rfl rfl rfl rfl (Gk rfl (Gk rfl (Gk rfl (Gk rfl (Gk rfl (Gk rfl (Gk rfl (Gk rfl (Gk rfl (Gk rfl (Gk rfl (Gk rfl (Gk rfl (Gk rfl (Gk rfl (Gk rfl (Gk rfl (Gk rfl (Gk rfl (Gk rfl (Gk rfl (Gk rfl (Gk rfl (Gk rfl (Gk rfl (Gk rfl (Gk rfl (Gk rfl (Gk rfl (Gk rfl (Gk rfl (Gk rfl (Gk rfl (aF)))))))))))))))))))))))))))))))))))))))))))))))))))) (λ_=>rfl) rfl ?_;intro y W4 g _;have p:=ag ht g;replace C:=C.ext g;clear g;have M:Hid (Lk=3):=ae (by rw[hE.out];exact vw t.out);have I:Hid (cachedE H.ma=3):=ae (by rw[Z.out (by rw[M.out];decide),M.out]);clear O J X S;go_wp2;go_ret;rw[I.out];exact⟨rfl,p⟩
   by_cases c4:(P.l.length:Int)<=c.i
   ·have t:Hid (c.f<0\/(H.ma.st.fs.length:Int)<=c.f\/c.i<0\/((aS H.ma.st c.f).b.length:Int)<=c.i\/c.k<0\/(H.ma.m.fs.length:Int)<=c.k):=ae (.inr (.inr (.inr (.inl (by rw[hG.out];exact c4)))));refine aN 51 [_,_,_,_,_,_,_,_,_,_,_,_,_,_,_,_,_,_,_,_,_,_,_,_,_,_,_,_,_,_,_,_,_,_,_,_,_,_,_,_,_,_,_,_,_,_,_,_,_,_,.v (.bool true)] (Gf gc 0 rfl rfl (Gl C rfl rfl rfl rfl rfl (Gb (.bool false) (by simp[go_sem,c1]) rfl rfl rfl rfl rfl (Gk rfl (Gf gc 0 rfl rfl (Gl C rfl rfl rfl rfl rfl (Gk rfl (Gk rfl (Gf b 7 rfl rfl (Gf b 7 rfl rfl (Gl z rfl rfl rfl rfl rfl (Gn rfl rfl rfl rfl (Gb (.bool false) (by simp[go_sem,c2]) rfl rfl rfl rfl rfl (Gk rfl (Gk rfl (Gf gc 1 rfl rfl (Gl C rfl rfl rfl rfl rfl (Gb (.bool false) (by simp[go_sem,c3]) rfl rfl rfl rfl rfl (Gk rfl (Gk rfl (Gf gc 1 rfl rfl (Gl C rfl rfl rfl rfl rfl (Gk rfl (Gk rfl (Gf b 7 rfl rfl (Gf b 7 rfl rfl (Gl z (V:=.slice (some ⟨N,of,none⟩) H.fi.length H.ci) (by simp[fB,O]) rfl rfl rfl rfl (Gf gc 0 rfl rfl (Gl C (V:=.int .i64 (F:Int)) (by simp[vV,X]) rfl rfl rfl rfl (Gr (.pointer (some ⟨N,of+F*2,none⟩)) (λρ y W A d=>(bP rfl (aI rfl d) (aI rfl d) J underlying39 file_size)) rfl rfl (Gf N (of+F*2+1) rfl rfl (Gc (.slice P.a P.l.length P.c) (λW A=>by simp[S _ A]) rfl rfl rfl rfl (Gn rfl rfl rfl rfl (Gb (.bool true) (by simp[go_sem,c4]) rfl rfl rfl rfl rfl (Gk rfl (Gk rfl (Gk rfl (Gk rfl (Gk rfl (Gk rfl (Gk rfl (Gk rfl (Gk rfl (Gk rfl (Gk rfl (Gk rfl (Gk rfl (Gk rfl (Gk rfl (Gk rfl (Gk rfl (aF)))))))))))))))))))))))))))))))))))))))))))))))))))) (λ_=>rfl) rfl ?_;intro y W4 g _;have p:=ag ht g;replace C:=C.ext g;clear g;have M:Hid (Lk=3):=ae (by rw[hE.out];exact vw t.out);have I:Hid (cachedE H.ma=3):=ae (by rw[Z.out (by rw[M.out];decide),M.out]);clear O J X S;go_wp2;go_ret;rw[I.out];exact⟨rfl,p⟩
   by_cases c5:c.k<0
   ·have t:Hid (c.f<0\/(H.ma.st.fs.length:Int)<=c.f\/c.i<0\/((aS H.ma.st c.f).b.length:Int)<=c.i\/c.k<0\/(H.ma.m.fs.length:Int)<=c.k):=ae (.inr (.inr (.inr (.inr (.inl c5)))));refine aN 51 [_,_,_,_,_,_,_,_,_,_,_,_,_,_,_,_,_,_,_,_,_,_,_,_,_,_,_,_,_,_,_,_,_,_,_,_,_,_,_,_,_,_,_,_,_,_,_,_,_,_,.v (.bool true)] (Gf gc 0 rfl rfl (Gl C rfl rfl rfl rfl rfl (Gb (.bool false) (by simp[go_sem,c1]) rfl rfl rfl rfl rfl (Gk rfl (Gf gc 0 rfl rfl (Gl C rfl rfl rfl rfl rfl (Gk rfl (Gk rfl (Gf b 7 rfl rfl (Gf b 7 rfl rfl (Gl z rfl rfl rfl rfl rfl (Gn rfl rfl rfl rfl (Gb (.bool false) (by simp[go_sem,c2]) rfl rfl rfl rfl rfl (Gk rfl (Gk rfl (Gf gc 1 rfl rfl (Gl C rfl rfl rfl rfl rfl (Gb (.bool false) (by simp[go_sem,c3]) rfl rfl rfl rfl rfl (Gk rfl (Gk rfl (Gf gc 1 rfl rfl (Gl C rfl rfl rfl rfl rfl (Gk rfl (Gk rfl (Gf b 7 rfl rfl (Gf b 7 rfl rfl (Gl z (V:=.slice (some ⟨N,of,none⟩) H.fi.length H.ci) (by simp[fB,O]) rfl rfl rfl rfl (Gf gc 0 rfl rfl (Gl C (V:=.int .i64 (F:Int)) (by simp[vV,X]) rfl rfl rfl rfl (Gr (.pointer (some ⟨N,of+F*2,none⟩)) (λρ y W A d=>(bP rfl (aI rfl d) (aI rfl d) J underlying39 file_size)) rfl rfl (Gf N (of+F*2+1) rfl rfl (Gc (.slice P.a P.l.length P.c) (λW A=>by simp[S _ A]) rfl rfl rfl rfl (Gn rfl rfl rfl rfl (Gb (.bool false) (by simp[go_sem,c4]) rfl rfl rfl rfl rfl (Gk rfl (Gk rfl (Gf gc 2 rfl rfl (Gl C rfl rfl rfl rfl rfl (Gb (.bool true) (by simp[go_sem,c5]) rfl rfl rfl rfl rfl (Gk rfl (Gk rfl (Gk rfl (Gk rfl (Gk rfl (Gk rfl (Gk rfl (Gk rfl (Gk rfl (Gk rfl (Gk rfl (Gk rfl (aF)))))))))))))))))))))))))))))))))))))))))))))))))))) (λ_=>rfl) rfl ?_;intro y W4 g _;have p:=ag ht g;replace C:=C.ext g;clear g;have M:Hid (Lk=3):=ae (by rw[hE.out];exact vw t.out);have I:Hid (cachedE H.ma=3):=ae (by rw[Z.out (by rw[M.out];decide),M.out]);clear O J X S;go_wp2;go_ret;rw[I.out];exact⟨rfl,p⟩
   by_cases c6:(H.m.fs.length:Int)<=c.k
   ·have t:Hid (c.f<0\/(H.ma.st.fs.length:Int)<=c.f\/c.i<0\/((aS H.ma.st c.f).b.length:Int)<=c.i\/c.k<0\/(H.ma.m.fs.length:Int)<=c.k):=ae (.inr (.inr (.inr (.inr (.inr c6)))));refine aN 51 [_,_,_,_,_,_,_,_,_,_,_,_,_,_,_,_,_,_,_,_,_,_,_,_,_,_,_,_,_,_,_,_,_,_,_,_,_,_,_,_,_,_,_,_,_,_,_,_,_,_,.v (.bool true)] (Gf gc 0 rfl rfl (Gl C rfl rfl rfl rfl rfl (Gb (.bool false) (by simp[go_sem,c1]) rfl rfl rfl rfl rfl (Gk rfl (Gf gc 0 rfl rfl (Gl C rfl rfl rfl rfl rfl (Gk rfl (Gk rfl (Gf b 7 rfl rfl (Gf b 7 rfl rfl (Gl z rfl rfl rfl rfl rfl (Gn rfl rfl rfl rfl (Gb (.bool false) (by simp[go_sem,c2]) rfl rfl rfl rfl rfl (Gk rfl (Gk rfl (Gf gc 1 rfl rfl (Gl C rfl rfl rfl rfl rfl (Gb (.bool false) (by simp[go_sem,c3]) rfl rfl rfl rfl rfl (Gk rfl (Gk rfl (Gf gc 1 rfl rfl (Gl C rfl rfl rfl rfl rfl (Gk rfl (Gk rfl (Gf b 7 rfl rfl (Gf b 7 rfl rfl (Gl z (V:=.slice (some ⟨N,of,none⟩) H.fi.length H.ci) (by simp[fB,O]) rfl rfl rfl rfl (Gf gc 0 rfl rfl (Gl C (V:=.int .i64 (F:Int)) (by simp[vV,X]) rfl rfl rfl rfl (Gr (.pointer (some ⟨N,of+F*2,none⟩)) (λρ y W A d=>(bP rfl (aI rfl d) (aI rfl d) J underlying39 file_size)) rfl rfl (Gf N (of+F*2+1) rfl rfl (Gc (.slice P.a P.l.length P.c) (λW A=>by simp[S _ A]) rfl rfl rfl rfl (Gn rfl rfl rfl rfl (Gb (.bool false) (by simp[go_sem,c4]) rfl rfl rfl rfl rfl (Gk rfl (Gk rfl (Gf gc 2 rfl rfl (Gl C rfl rfl rfl rfl rfl (Gb (.bool false) (by simp[go_sem,c5]) rfl rfl rfl rfl rfl (Gk rfl (Gk rfl (Gf gc 2 rfl rfl (Gl C rfl rfl rfl rfl rfl (Gk rfl (Gk rfl (Gf b 0 rfl rfl (Gf b 0 rfl rfl (Gl z rfl rfl rfl rfl rfl (Gn rfl rfl rfl rfl (Gb (.bool true) (by simp[go_sem,c6]) rfl rfl rfl rfl rfl (Gk rfl (aF)))))))))))))))))))))))))))))))))))))))))))))))))))) (λ_=>rfl) rfl ?_;intro y W4 g _;have p:=ag ht g;replace C:=C.ext g;clear g;have M:Hid (Lk=3):=ae (by rw[hE.out];exact vw t.out);have I:Hid (cachedE H.ma=3):=ae (by rw[Z.out (by rw[M.out];decide),M.out]);clear O J X S;go_wp2;go_ret;rw[I.out];exact⟨rfl,p⟩
   refine aN 51 [_,_,_,_,_,_,_,_,_,_,_,_,_,_,_,_,_,_,_,_,_,_,_,_,_,_,_,_,_,_,_,_,_,_,_,_,_,_,_,_,_,_,_,_,_,_,_,_,_,_,.v (.bool false)] (Gf gc 0 rfl rfl (Gl C rfl rfl rfl rfl rfl (Gb (.bool false) (by simp[go_sem,c1]) rfl rfl rfl rfl rfl (Gk rfl (Gf gc 0 rfl rfl (Gl C rfl rfl rfl rfl rfl (Gk rfl (Gk rfl (Gf b 7 rfl rfl (Gf b 7 rfl rfl (Gl z rfl rfl rfl rfl rfl (Gn rfl rfl rfl rfl (Gb (.bool false) (by simp[go_sem,c2]) rfl rfl rfl rfl rfl (Gk rfl (Gk rfl (Gf gc 1 rfl rfl (Gl C rfl rfl rfl rfl rfl (Gb (.bool false) (by simp[go_sem,c3]) rfl rfl rfl rfl rfl (Gk rfl (Gk rfl (Gf gc 1 rfl rfl (Gl C rfl rfl rfl rfl rfl (Gk rfl (Gk rfl (Gf b 7 rfl rfl (Gf b 7 rfl rfl (Gl z (V:=.slice (some ⟨N,of,none⟩) H.fi.length H.ci) (by simp[fB,O]) rfl rfl rfl rfl (Gf gc 0 rfl rfl (Gl C (V:=.int .i64 (F:Int)) (by simp[vV,X]) rfl rfl rfl rfl (Gr (.pointer (some ⟨N,of+F*2,none⟩)) (λρ y W A d=>(bP rfl (aI rfl d) (aI rfl d) J underlying39 file_size)) rfl rfl (Gf N (of+F*2+1) rfl rfl (Gc (.slice P.a P.l.length P.c) (λW A=>by simp[S _ A]) rfl rfl rfl rfl (Gn rfl rfl rfl rfl (Gb (.bool false) (by simp[go_sem,c4]) rfl rfl rfl rfl rfl (Gk rfl (Gk rfl (Gf gc 2 rfl rfl (Gl C rfl rfl rfl rfl rfl (Gb (.bool false) (by simp[go_sem,c5]) rfl rfl rfl rfl rfl (Gk rfl (Gk rfl (Gf gc 2 rfl rfl (Gl C rfl rfl rfl rfl rfl (Gk rfl (Gk rfl (Gf b 0 rfl rfl (Gf b 0 rfl rfl (Gl z rfl rfl rfl rfl rfl (Gn rfl rfl rfl rfl (Gb (.bool false) (by simp[go_sem,c6]) rfl rfl rfl rfl rfl (Gk rfl (aF)))))))))))))))))))))))))))))))))))))))))))))))))))) (λ_=>rfl) rfl ?_;intro y W4 g _;have p:=ag ht g;replace C:=C.ext g;clear g;obtain⟨K,kg⟩:∃K:Nat,c.k=K:=⟨c.k.toNat,by omega⟩;have hO:K<H.m.fs.length:=by omega
   have hR:=hbk.ext p;have h5:=h.below p;obtain⟨bg,og,kr,hF⟩:=kM fJ (by decide) h5.fr.rd K hO;have hy:Hid (Lk=if (aD H.ma K).r<1\/(aD H.ma K).f≠c.f\/(aD H.ma K).i≠c.i then 7 else match yQ H.ca k with
    | none=>0
    | some q=>if c.f<q.f\/q.f=c.f/\c.i<=q.i then 2 else 0):=ae (by
    rw[hE.out];unfold uR;rw[if_neg (by rw[hY.out,hG.out];show ¬(c.f<0\/(H.fi.length:Int)<=c.f\/c.i<0\/(P.l.length:Int)<=c.i\/c.k<0\/(H.m.fs.length:Int)<=c.k);omega),kg];rfl)
   have h3:H.m.fs[K]=aD H.ma K:=by have:=wu (m:=H.ma) (f:=K) hO;have h2:H.m.fs[K]?=some (aD H.ma K):=this;rw[aH hO] at h2;exact aM h2
   rw[h3] at hF;generalize aD H.ma K=x at *
   clear h3 O J S hG hY z hV c2 c3 c4 c5 c6 c1 hE X;go_upto_region 6 with (fail);refine aN 10 [_,_,_,_,_,_,_,_,_,.r 9 ((iM W4.heap.size 66 13))] (Gk rfl (Gk rfl (Gf b 0 rfl rfl (Gf b 0 rfl rfl (Gl hR (V:=.slice (some ⟨bg,og,none⟩) H.m.fs.length H.cf) (by simp[fB,kr]) rfl rfl rfl rfl (Gf gc 2 rfl rfl (Gl C (V:=.int .i64 (K:Int)) (by simp[vV,kg]) rfl rfl rfl rfl (Gr (.pointer (some ⟨bg,og+K*13,none⟩)) (λρ y W A d=>(bP rfl (aI rfl d) (aI rfl d) hO underlying30 frame_size)) rfl rfl (Gr (.agg (sU x)) (λρ y W A d=>(bF rfl (aI rfl d) (hF.below A) underlying66 rfl frame_size)) rfl rfl (ah ?_ (aF))))))))))) (λ_=>rfl) rfl ?_
   ·intro ρ y W hw hn A hd;refine jc (.pointer (some ⟨W.heap.size,0,none⟩)) (aj rfl) (by simp[execOp,go_sem]) ((Below.refl _ _).alloc (az _) (.cells #[.int .u8 0,.int .u8 0,.int .u8 0,.int .u8 0,.int .u8 0,.int .u8 0,.int .u8 0,.int .u8 0,.int .i64 0,.bool false,.bool false,.int .i64 0,.int .i64 0] 66)) ?_;exact⟨_,_,rfl,A.size,aG.new _ _ _,rfl⟩
   intro y W5 hI hU;have kn:((iM W4.heap.size 66 13)).r (y 9) W5:=hU 9 (by decide);clear hU;obtain⟨gx,curx,h9,h8,ki,hQ⟩:=kn;rw[h9]
   go_wp2_with (refine gH rfl _ _ _ rfl gx 0 (sU x) rfl rfl _ _ ki (by rw[hQ];exact az _) frame_size (oL x) ?_)
   intro w6 hZ ka;rw[gV _ _ (by rw[hQ];rfl)] at hZ;have hC:Below W4.heap.size W4 w6:=hI.grown ka hI.size (λk hk=>by cases hk;exact h8);have hm:=ag p hC;have G:=C.ext hC;have n:=hbk.ext hm;clear ki hI ka C hR h5 hF hC h9;have kc:=hZ.cell;unfold sU at kc;have ke:=G.cell;unfold vV at ke
   by_cases d1:x.r<1
   ·have hB:Hid (Lk=7):=ae (by rw[hy.out,if_pos (.inl d1)]);have I:Hid (cachedE H.ma=7):=ae (by rw[Z.out (by rw[hB.out];decide),hB.out]);clear n;go_wp2;go_ret;rw[I.out];exact⟨rfl,hm⟩
   by_cases d2:x.f=c.f
   rotate_left
   ·have hB:Hid (Lk=7):=ae (by rw[hy.out,if_pos (.inr (.inl d2))]);have I:Hid (cachedE H.ma=7):=ae (by rw[Z.out (by rw[hB.out];decide),hB.out]);clear n;go_wp2;go_ret;rw[I.out];exact⟨rfl,hm⟩
   by_cases d3:x.i=c.i
   rotate_left
   ·have hB:Hid (Lk=7):=ae (by rw[hy.out,if_pos (.inr (.inr d3))]);have I:Hid (cachedE H.ma=7):=ae (by rw[Z.out (by rw[hB.out];decide),hB.out]);clear n;go_wp2;go_ret;rw[I.out];exact⟨rfl,hm⟩
   rw[if_neg (by rintro (h | h | h);exact d1 h;exact h d2;exact h d3)] at hy;go_upto_region 9 with (fail);clear kc ke hZ d1 d2 d3;obtain⟨k1,q,R,o,U,hx,h7⟩:∃(k1:Nat) (q:Cc),(0<k->IntKind.i64.wrap ((k:Int)-1)=(k1:Int))/\(0<k->k1<H.ca.length)/\(0<k->∀W,Below w6.heap.size w6 W->W.cell? ⟨E,D+k1*3,none⟩=some (.int .i64 q.f))/\(0<k->∀W,Below w6.heap.size w6 W->W.cell? ⟨E,D+k1*3+1,none⟩=some (.int .i64 q.i))/\(0<k->yQ H.ca k=some q):=by
    by_cases h0:0<k
    ·have hD:k-1<H.ca.length:=by omega
     have hH:∀W,Below w6.heap.size w6 W->W.cell? ⟨E,D+(k-1)*3,none⟩=some (.int .i64 H.ca[k-1].f)/\W.cell? ⟨E,D+(k-1)*3+1,none⟩=some (.int .i64 H.ca[k-1].i):=λW A=>by obtain⟨bc',oc',c',hT,kh,e1,e2,_⟩:=Sm (h.below (ag hm A)).ca.rd (k-1) hD;rw[aH hD] at kh;cases kh;rw[Y] at hT;cases hT;exact⟨e1,e2⟩
     refine⟨k-1,H.ca[k-1],λ_ => ?_,λ_=>hD,λ_ W A=>(hH W A).1,λ_ W A=>(hH W A).2,λ_ => ?_⟩
     ·rw[show (k:Int)-1=((k-1:Nat):Int) by omega];exact bG _ (by omega)
     ·rw[h6.out,if_neg (by omega),aH hD]
    ·exact⟨0,zCc,λh'=>absurd h' h0,λh'=>absurd h' h0,λh'=>absurd h' h0,λh'=>absurd h' h0,λh'=>absurd h' h0⟩
   by_cases e1:k=0
   ·have e1i:¬(0:Int)<(k:Int):=by omega
    have hK:Hid (Lk=0):=ae (by rw[hy.out,h6.out,if_pos e1]);refine aN 44 [_,_,_,_,_,_,_,_,_,_,_,_,_,_,_,_,_,_,_,_,_,_,_,_,_,_,_,_,_,_,_,_,_,_,_,_,_,_,_,_,_,_,_,.v (.bool false)] (Gk rfl (Gb (.bool false) (by simp[go_sem,e1]) rfl rfl rfl rfl rfl (Gk rfl (Gk rfl (Gk rfl (Gk rfl (Gk rfl (Gk rfl (Gk rfl (Gk rfl (Gk rfl (Gk rfl (Gk rfl (Gk rfl (Gk rfl (Gk rfl (Gk rfl (Gk rfl (Gk rfl (Gk rfl (Gk rfl (Gk rfl (Gk rfl (Gk rfl (Gk rfl (Gk rfl (Gk rfl (Gk rfl (Gk rfl (Gk rfl (Gk rfl (Gk rfl (Gk rfl (Gk rfl (Gk rfl (Gk rfl (Gk rfl (Gk rfl (Gk rfl (Gk rfl (Gk rfl (Gk rfl (Gk rfl (Gk rfl (aF))))))))))))))))))))))))))))))))))))))))))))) (λ_=>rfl) rfl ?_;intro y W7 u _;have hs:=ag hm u;clear u;have hA:=ae (hW.out hK.out);clear U hx R o G n;go_wp2;go_roundw
    case rel=>exact⟨k+1,by omega,by go_num,hs,hA⟩
    case measure=>simp[intOf];omega
   have e1i:0<k:=by omega
   replace R:=R (by omega);replace o:=o (by omega);replace U:=U (by omega);replace hx:=hx (by omega);have hM:=ae (h7 (by omega));clear h7
   by_cases e2:c.f<q.f
   ·have t:Hid (c.f<q.f\/q.f=c.f/\c.i<=q.i):=ae (.inl e2);refine aN 44 [_,_,_,_,_,_,_,_,_,_,_,_,_,_,_,_,_,_,_,_,_,_,_,_,_,_,_,_,_,_,_,_,_,_,_,_,_,_,_,_,_,_,_,.v (.bool true)] (Gk rfl (Gb (.bool true) (by simp[go_sem,e1i]) rfl rfl rfl rfl rfl (Gk rfl (Gk rfl (Gk rfl (Gf b 9 rfl rfl (Gl n (V:=.slice (some ⟨E,D,none⟩) H.ca.length H.cc) (by simp[fB,Y]) rfl rfl rfl rfl (Gk rfl (Gb (.int .i64 (k1:Int)) (by simp[go_sem,R]) rfl rfl rfl rfl rfl (Gr (.pointer (some ⟨E,D+k1*3,none⟩)) (λρ y W A d=>(bP rfl (aI rfl d) (aI rfl d) o underlying42 cached_size)) rfl rfl (Gf E (D+k1*3) rfl rfl (Gc (.int .i64 q.f) (λW A=>by simp[U _ A]) rfl rfl rfl rfl (Gf gc 0 rfl rfl (Gl G rfl rfl rfl rfl rfl (Gb (.bool true) (by simp[go_sem,e2]) rfl rfl rfl rfl rfl (Gk rfl (Gk rfl (Gk rfl (Gk rfl (Gk rfl (Gk rfl (Gk rfl (Gk rfl (Gk rfl (Gk rfl (Gk rfl (Gk rfl (Gk rfl (Gk rfl (Gk rfl (Gk rfl (Gk rfl (Gk rfl (Gk rfl (Gk rfl (Gk rfl (Gk rfl (Gk rfl (Gk rfl (Gk rfl (Gk rfl (Gk rfl (Gk rfl (Gk rfl (aF))))))))))))))))))))))))))))))))))))))))))))) (λ_=>rfl) rfl ?_;intro y W7 u _;have hs:=ag hm u;clear u;have hJ:Hid (Lk=2):=ae (by rw[hy.out,hM.out];simp only;rw[if_pos t.out]);have I:Hid (cachedE H.ma=2):=ae (by rw[Z.out (by rw[hJ.out];decide),hJ.out]);clear U hx R o G n;go_wp2;go_ret;rw[I.out];exact⟨rfl,hs⟩
   by_cases e3:q.f=c.f
   ·by_cases e4:c.i<=q.i
    ·have t:Hid (c.f<q.f\/q.f=c.f/\c.i<=q.i):=ae (.inr ⟨e3,e4⟩);refine aN 44 [_,_,_,_,_,_,_,_,_,_,_,_,_,_,_,_,_,_,_,_,_,_,_,_,_,_,_,_,_,_,_,_,_,_,_,_,_,_,_,_,_,_,_,.v (.bool true)] (Gk rfl (Gb (.bool true) (by simp[go_sem,e1i]) rfl rfl rfl rfl rfl (Gk rfl (Gk rfl (Gk rfl (Gf b 9 rfl rfl (Gl n (V:=.slice (some ⟨E,D,none⟩) H.ca.length H.cc) (by simp[fB,Y]) rfl rfl rfl rfl (Gk rfl (Gb (.int .i64 (k1:Int)) (by simp[go_sem,R]) rfl rfl rfl rfl rfl (Gr (.pointer (some ⟨E,D+k1*3,none⟩)) (λρ y W A d=>(bP rfl (aI rfl d) (aI rfl d) o underlying42 cached_size)) rfl rfl (Gf E (D+k1*3) rfl rfl (Gc (.int .i64 q.f) (λW A=>by simp[U _ A]) rfl rfl rfl rfl (Gf gc 0 rfl rfl (Gl G rfl rfl rfl rfl rfl (Gb (.bool false) (by simp[go_sem,e2]) rfl rfl rfl rfl rfl (Gk rfl (Gk rfl (Gk rfl (Gf b 9 rfl rfl (Gl n (V:=.slice (some ⟨E,D,none⟩) H.ca.length H.cc) (by simp[fB,Y]) rfl rfl rfl rfl (Gk rfl (Gb (.int .i64 (k1:Int)) (by simp[go_sem,R]) rfl rfl rfl rfl rfl (Gr (.pointer (some ⟨E,D+k1*3,none⟩)) (λρ y W A d=>(bP rfl (aI rfl d) (aI rfl d) o underlying42 cached_size)) rfl rfl (Gf E (D+k1*3) rfl rfl (Gc (.int .i64 q.f) (λW A=>by simp[U _ A]) rfl rfl rfl rfl (Gf gc 0 rfl rfl (Gl G rfl rfl rfl rfl rfl (Gb (.bool true) (by simp[go_sem,e3]) rfl rfl rfl rfl rfl (Gk rfl (Gk rfl (Gk rfl (Gf b 9 rfl rfl (Gl n (V:=.slice (some ⟨E,D,none⟩) H.ca.length H.cc) (by simp[fB,Y]) rfl rfl rfl rfl (Gk rfl (Gb (.int .i64 (k1:Int)) (by simp[go_sem,R]) rfl rfl rfl rfl rfl (Gr (.pointer (some ⟨E,D+k1*3,none⟩)) (λρ y W A d=>(bP rfl (aI rfl d) (aI rfl d) o underlying42 cached_size)) rfl rfl (Gf E (D+k1*3+1) rfl rfl (Gc (.int .i64 q.i) (λW A=>by simp[hx _ A]) rfl rfl rfl rfl (Gf gc 1 rfl rfl (Gl G rfl rfl rfl rfl rfl (Gb (.bool true) (by simp[go_sem,e4]) rfl rfl rfl rfl rfl (Gk rfl (Gk rfl (Gk rfl (aF))))))))))))))))))))))))))))))))))))))))))))) (λ_=>rfl) rfl ?_;intro y W7 u _;have hs:=ag hm u;clear u;have hJ:Hid (Lk=2):=ae (by rw[hy.out,hM.out];simp only;rw[if_pos t.out]);have I:Hid (cachedE H.ma=2):=ae (by rw[Z.out (by rw[hJ.out];decide),hJ.out]);clear U hx R o G n;go_wp2;go_ret;rw[I.out];exact⟨rfl,hs⟩
    have hK:Hid (Lk=0):=ae (by rw[hy.out,hM.out];simp only;rw[if_neg (by omega)]);refine aN 44 [_,_,_,_,_,_,_,_,_,_,_,_,_,_,_,_,_,_,_,_,_,_,_,_,_,_,_,_,_,_,_,_,_,_,_,_,_,_,_,_,_,_,_,.v (.bool false)] (Gk rfl (Gb (.bool true) (by simp[go_sem,e1i]) rfl rfl rfl rfl rfl (Gk rfl (Gk rfl (Gk rfl (Gf b 9 rfl rfl (Gl n (V:=.slice (some ⟨E,D,none⟩) H.ca.length H.cc) (by simp[fB,Y]) rfl rfl rfl rfl (Gk rfl (Gb (.int .i64 (k1:Int)) (by simp[go_sem,R]) rfl rfl rfl rfl rfl (Gr (.pointer (some ⟨E,D+k1*3,none⟩)) (λρ y W A d=>(bP rfl (aI rfl d) (aI rfl d) o underlying42 cached_size)) rfl rfl (Gf E (D+k1*3) rfl rfl (Gc (.int .i64 q.f) (λW A=>by simp[U _ A]) rfl rfl rfl rfl (Gf gc 0 rfl rfl (Gl G rfl rfl rfl rfl rfl (Gb (.bool false) (by simp[go_sem,e2]) rfl rfl rfl rfl rfl (Gk rfl (Gk rfl (Gk rfl (Gf b 9 rfl rfl (Gl n (V:=.slice (some ⟨E,D,none⟩) H.ca.length H.cc) (by simp[fB,Y]) rfl rfl rfl rfl (Gk rfl (Gb (.int .i64 (k1:Int)) (by simp[go_sem,R]) rfl rfl rfl rfl rfl (Gr (.pointer (some ⟨E,D+k1*3,none⟩)) (λρ y W A d=>(bP rfl (aI rfl d) (aI rfl d) o underlying42 cached_size)) rfl rfl (Gf E (D+k1*3) rfl rfl (Gc (.int .i64 q.f) (λW A=>by simp[U _ A]) rfl rfl rfl rfl (Gf gc 0 rfl rfl (Gl G rfl rfl rfl rfl rfl (Gb (.bool true) (by simp[go_sem,e3]) rfl rfl rfl rfl rfl (Gk rfl (Gk rfl (Gk rfl (Gf b 9 rfl rfl (Gl n (V:=.slice (some ⟨E,D,none⟩) H.ca.length H.cc) (by simp[fB,Y]) rfl rfl rfl rfl (Gk rfl (Gb (.int .i64 (k1:Int)) (by simp[go_sem,R]) rfl rfl rfl rfl rfl (Gr (.pointer (some ⟨E,D+k1*3,none⟩)) (λρ y W A d=>(bP rfl (aI rfl d) (aI rfl d) o underlying42 cached_size)) rfl rfl (Gf E (D+k1*3+1) rfl rfl (Gc (.int .i64 q.i) (λW A=>by simp[hx _ A]) rfl rfl rfl rfl (Gf gc 1 rfl rfl (Gl G rfl rfl rfl rfl rfl (Gb (.bool false) (by simp[go_sem,e4]) rfl rfl rfl rfl rfl (Gk rfl (Gk rfl (Gk rfl (aF))))))))))))))))))))))))))))))))))))))))))))) (λ_=>rfl) rfl ?_;intro y W7 u _;have hs:=ag hm u;clear u;have hA:=ae (hW.out hK.out);clear U hx R o G n;go_wp2;go_roundw
    case rel=>exact⟨k+1,by omega,by go_num,hs,hA⟩
    case measure=>simp[intOf];omega
   have hK:Hid (Lk=0):=ae (by rw[hy.out,hM.out];simp only;rw[if_neg (by omega)]);refine aN 44 [_,_,_,_,_,_,_,_,_,_,_,_,_,_,_,_,_,_,_,_,_,_,_,_,_,_,_,_,_,_,_,_,_,_,_,_,_,_,_,_,_,_,_,.v (.bool false)] (Gk rfl (Gb (.bool true) (by simp[go_sem,e1i]) rfl rfl rfl rfl rfl (Gk rfl (Gk rfl (Gk rfl (Gf b 9 rfl rfl (Gl n (V:=.slice (some ⟨E,D,none⟩) H.ca.length H.cc) (by simp[fB,Y]) rfl rfl rfl rfl (Gk rfl (Gb (.int .i64 (k1:Int)) (by simp[go_sem,R]) rfl rfl rfl rfl rfl (Gr (.pointer (some ⟨E,D+k1*3,none⟩)) (λρ y W A d=>(bP rfl (aI rfl d) (aI rfl d) o underlying42 cached_size)) rfl rfl (Gf E (D+k1*3) rfl rfl (Gc (.int .i64 q.f) (λW A=>by simp[U _ A]) rfl rfl rfl rfl (Gf gc 0 rfl rfl (Gl G rfl rfl rfl rfl rfl (Gb (.bool false) (by simp[go_sem,e2]) rfl rfl rfl rfl rfl (Gk rfl (Gk rfl (Gk rfl (Gf b 9 rfl rfl (Gl n (V:=.slice (some ⟨E,D,none⟩) H.ca.length H.cc) (by simp[fB,Y]) rfl rfl rfl rfl (Gk rfl (Gb (.int .i64 (k1:Int)) (by simp[go_sem,R]) rfl rfl rfl rfl rfl (Gr (.pointer (some ⟨E,D+k1*3,none⟩)) (λρ y W A d=>(bP rfl (aI rfl d) (aI rfl d) o underlying42 cached_size)) rfl rfl (Gf E (D+k1*3) rfl rfl (Gc (.int .i64 q.f) (λW A=>by simp[U _ A]) rfl rfl rfl rfl (Gf gc 0 rfl rfl (Gl G rfl rfl rfl rfl rfl (Gb (.bool false) (by simp[go_sem,e3]) rfl rfl rfl rfl rfl (Gk rfl (Gk rfl (Gk rfl (Gk rfl (Gk rfl (Gk rfl (Gk rfl (Gk rfl (Gk rfl (Gk rfl (Gk rfl (Gk rfl (Gk rfl (Gk rfl (Gk rfl (Gk rfl (aF))))))))))))))))))))))))))))))))))))))))))))) (λ_=>rfl) rfl ?_;intro y W7 u _;have hs:=ag hm u;clear u;have hA:=ae (hW.out hK.out);clear U hx R o G n;go_wp2;go_roundw
   case rel=>exact⟨k+1,by omega,by go_num,hs,hA⟩
   case measure=>simp[intOf];omega
  have kq:¬(k:Int)<(H.ca.length:Int):=by omega
  have I:Hid (cachedE H.ma=0):=ae (by rw[km.out,tH λi hi=>hz.out i hi (by rw[kl.out] at hi;omega)]);clear hz;go_wp2;go_ret;rw[I.out];exact⟨rfl,hN⟩
theorem Pp {s:Sp} (h:gU s.ar n<0):cZ m s n=5:=by unfold cZ;exact if_pos h
theorem NL (H:MH) (P:PS) (n:Int) (b bs os:Nat) (w:World) (N:aG w b (fB H) 45) (h:FD w H) (hrd:dZ w (some ⟨bs,os,none⟩) (sV P)) (hg:P.good w) (har:(bQ P.ar).1=0) (htb:dA P.tb=0) (hn:0<=n/\n<64) :
  Calls Tryz.prog 83 #[.pointer (some ⟨b,0,none⟩),.pointer (some ⟨bs,os,none⟩),.int .i64 n] w λr w'=>r = .returned (.int .i64 (cZ H.ma P.sp n))/\Below w.heap.size w w':=by
 have hV:∀W,Below w.heap.size w W->W.cell? ⟨bs,os+1,none⟩=some (.slice P.aa P.ar.length P.ac):=λW A=>by obtain⟨b',o',e,hc⟩:=(hrd.below A) 1 _ rfl;cases e;exact hc
 go_enter func83,ntmps83;have ki:=hV w (Below.refl _ _);have hA:=hg.ars
 go_wp2_with fail
 refine (GU P.ar n P.aa P.ac _ hA.rd (by have:=hA.le;have:=hA.mx;unfold maxLen at this;omega)).mono ?_;rintro r w1 ⟨rfl,hx⟩;have hT:=N.ext hx;have h1:=h.below hx;have hX:=hg.below hx;have hR:=hrd.below hx;clear ki hA
 by_cases hf:gU P.ar n<0
 ·have C:Hid (cZ H.ma P.sp n=5):=ae (Pp hf);clear hT;go_wp2;go_ret;rw[C.out];exact⟨rfl,hx⟩
 have M:Hid (cZ H.ma P.sp n=(let a:=P.ar.getD (gU P.ar n).toNat zAr
  let e:=dJ P.tb n
  if e.k=2 then (if (H.sl.length:Int)<=e.n\/a.sh=true then 7 else 0)
  else if (H.m.fs.length:Int)<=e.n then 3 else
  let f:=jD H.ma e.n;let of:=decide (0<=a.fi)&&decide (f.f=a.fi)&&decide (f.i=a.ba+n-a.fr)
  if 0<=f.f/\of=false\/a.sh=true/\of=false\/a.sh=false/\of=true/\e.w=true\/e.w=true/\a.wr=false then 7
  else if f.f<0/\e.w=true/\1<f.r then 7 else 0)):=ae (by unfold cZ;exact if_neg hf)
 obtain⟨k,hk,hO,_⟩:=Dv (q:=pF n) (l:=P.ar) (by show 0<=gU P.ar n;omega);have hW : gU P.ar n=k:=hk;rw[hW,bA,aX,aH hO] at M;simp only[qc] at M;have ku:¬(k:Int)<0:=by omega
 rw[hW];obtain⟨I,G,kl,hU⟩:=kM rG (by decide) hX.ars.rd k hO;have kg:=(yI har).2 _ (eO hO);have hM:=(bL kg).1;have kt:=(bN _).1 (sK htb n);generalize P.ar[k]=a at *
 generalize hge:dJ P.tb n=e at *
 have ka:=ae hge;clear hk hW hf kg hge;go_upto_region 4 with (fail);refine jZ 15 [_,_,_,_,_,_,_,_,_,_,_,.v (.agg (jC e)),.r 12 ((iM w1.heap.size 68 3)),.v (.pointer (some ⟨I,G+k*7,none⟩)),.y 14 ((KJ 12 w1.heap.size 68 (mV (.agg (jC e)))))] (λW=>Below w1.heap.size w1 W) dR (Below.refl _ _) (Yk dR rfl (Yk dR rfl (Yf dR bs (os+1) rfl rfl (Yc dR (.slice (some ⟨I,G,none⟩) P.ar.length P.ac) (λW A=>by simp[hV _ (ag hx A),kl]) rfl rfl rfl rfl (Yk dR rfl (Yr dR (.pointer (some ⟨I,G+k*7,none⟩)) (λρ y W A hB=>(bP rfl (aI rfl hB) (aI rfl hB) hO underlying71 area_size)) rfl rfl (Yk dR rfl (Yk dR rfl (Yf dR bs (os+2) rfl rfl (Yr dR (.agg (oh P.ts)) (λρ y W A hB=>(bF rfl (aI rfl hB) (sN (hR.below A) 2 8) underlying74 tab_agg tab_size)) rfl rfl (Yk dR rfl (ah ?_ (ah ?_ (Yk dR rfl (ah ?_ (aF)))))))))))))))) (λ_=>rfl) rfl ?_
 ·intro ρ y W hw hn A hd;refine iT dR A (mV (.agg (jC e))) (λ_ _ h=>h) ?_;have kr:=hw 30 9 rfl;have h9:y 9 = .agg (oh P.ts):=hd 9 rfl;have kq:=hw 31 10 rfl;have ko:y 10 = .int .i64 n:=hd 10 rfl;have EF:∀f,ρ (.func f) = .func (.func f) #[] #[]:=λf=>hn (.func f) trivial;refine aO _ _ (aj rfl) (aT rfl (EF _) func42 (by kernel_rfl) (by kernel_rfl) (by simp only[bX,bR,aY,kr,h9,kq,ko,EF];rfl)) ?_;refine (AB P.tb (oh P.ts) n W (hX.below A).tb).mono ?_;rintro r w2 ⟨rfl,kj⟩;rw[ka.out];exact⟨_,rfl,kj,rfl⟩
 ·intro ρ y W hw hn A hd;refine iT dR A ((iM w1.heap.size 68 3)) (λ_ _ h=>h) ?_;refine jc (.pointer (some ⟨W.heap.size,0,none⟩)) (aj rfl) (by simp[execOp,go_sem,bT]) ((Below.refl _ _).alloc (az _) (.cells #[.int .i64 0,.int .i64 0,.bool false] 68)) ?_;exact⟨_,_,rfl,A.size,aG.new _ _ _,rfl⟩
 ·intro ρ y W hw hn A hd;have E9:=hw 9 12 rfl;have km:=hd 12 rfl;have kp:=hw 32 11 rfl;have kn:y 11 = .agg (jC e):=hd 11 rfl;obtain⟨g3,cur3,e9,kb,ke,h7⟩:=km;refine mi (aj rfl) _ _ _ rfl g3 0 (.agg (jC e)) (jC e).toList (E9.trans e9) (kp.trans kn) rfl cur3 _ ke (by rw[h7];exact az _) entry_size (bU (by simp[jC,Value.oneCell'])) ?_;intro w1 hG h8;rw[gV cur3 _ (by rw[h7];rfl)] at hG;refine⟨A.grown h8 A.size (λk hk=>by cases hk;exact kb),⟨g3,_,e9,kb,hG,rfl⟩,?_⟩;intro k hk kh
  match k,hk,kh with
  | 0,_,_=>exact λh=>h
  | 1,_,_=>exact λh=>h
  | 2,_,_=>exact λh=>h
  | 3,_,_=>exact λh=>h
  | 4,_,_=>exact λh=>h
  | 5,_,_=>exact λh=>h
  | 6,_,_=>exact λh=>h
  | 7,_,_=>exact λh=>h
  | 8,_,_=>exact λh=>h
  | 9,_,_=>exact λh=>h
  | 10,_,_=>exact λh=>h
  | 11,_,_=>exact λh=>h
  | 12,_,_=>exact λq=>lc q hG (λ_=>rfl) ⟨_,ke⟩ h8
  | 13,_,_=>exact λh=>h
  | 14,_,h=>exact absurd rfl h
  | n+15,h,_=>exact absurd h (by omega)
 intro y w4 hF hN;replace hF:Below w1.heap.size w1 w4:=hF;have h0:((iM w1.heap.size 68 3)).r (y 12) w4:=hN 12 (by decide);have hZ:=hN 14 (by decide);clear hN;simp only[dh,bT,bR,aY];obtain⟨ge,cce,hS,ks,kf,kc⟩:=hZ;have hY : cce=jC e:=by simpa[mV] using kc
 subst hY;rw[hS];have hz:=hF;have hm:=ag hx hz;have D:=kf;have hs:=N.ext hm;have h4:=h.below hm;have hL:=hU.below hz;clear hF hz hS kf hU hR hT h1 hx hV hX h0;have hH:∀j u,(mO a)[j]?=some u->∀W,Below w4.heap.size w4 W->W.cell? ⟨I,G+k*7+j,none⟩=some u:=λj u hj W A=>by obtain⟨b',o',e',hc⟩:=(hL.below A) j u hj;cases e';exact hc
 have J:=hH 3 _ rfl;have F:=hH 4 _ rfl;have t:=hH 5 _ rfl;have hC:=hH 6 _ rfl;have hD:∀W,Below w4.heap.size w4 W->W.cell? ⟨I,G+k*7,none⟩=some (.int .i64 a.fr):=hH 0 _ rfl;have s:=D.cell;unfold jC at s;clear hH hL
 by_cases X:e.k=2
 ·rw[if_pos X] at M;rw[X] at s;go_upto_region 6 with (fail);clear s X
  by_cases c1:(H.sl.length:Int)<=e.n
  ·have C:Hid (cZ H.ma P.sp n=7):=ae (by rw[M.out,if_pos (.inl c1)]);refine aN 14 [_,_,_,_,_,_,_,_,_,_,_,_,_,.v (.bool true)] (Gf ge 1 rfl rfl (Gl D rfl rfl rfl rfl rfl (Gk rfl (Gk rfl (Gf b 2 rfl rfl (Gl hs rfl rfl rfl rfl rfl (Gn rfl rfl rfl rfl (Gb (.bool true) (by simp[go_sem,c1]) rfl rfl rfl rfl rfl (Gk rfl (Gk rfl (Gk rfl (Gk rfl (Gk rfl (Gk rfl (aF))))))))))))))) (λ_=>rfl) rfl ?_;intro y L o _;have p:=ag hm o;clear o;go_wp2;go_ret;rw[C.out];exact⟨rfl,p⟩
  cases c2:a.sh with
  | true=>
   have C:Hid (cZ H.ma P.sp n=7):=ae (by rw[M.out,if_pos (.inr c2)]);refine aN 14 [_,_,_,_,_,_,_,_,_,_,_,_,_,.v (.bool true)] (Gf ge 1 rfl rfl (Gl D rfl rfl rfl rfl rfl (Gk rfl (Gk rfl (Gf b 2 rfl rfl (Gl hs rfl rfl rfl rfl rfl (Gn rfl rfl rfl rfl (Gb (.bool false) (by simp[go_sem,c1]) rfl rfl rfl rfl rfl (Gk rfl (Gk rfl (Gk rfl (Gf I (G+k*7+4) rfl rfl (Gc (.bool true) (λW A=>by simp[F _ A,c2]) rfl rfl rfl rfl (Gk rfl (aF))))))))))))))) (λ_=>rfl) rfl ?_;intro y L o _;have p:=ag hm o;clear o;go_wp2;go_ret;rw[C.out];exact⟨rfl,p⟩
  | false=>
   have C:Hid (cZ H.ma P.sp n=0):=ae (by rw[M.out,if_neg (by rw[c2];simp;omega)]);refine aN 14 [_,_,_,_,_,_,_,_,_,_,_,_,_,.v (.bool false)] (Gf ge 1 rfl rfl (Gl D rfl rfl rfl rfl rfl (Gk rfl (Gk rfl (Gf b 2 rfl rfl (Gl hs rfl rfl rfl rfl rfl (Gn rfl rfl rfl rfl (Gb (.bool false) (by simp[go_sem,c1]) rfl rfl rfl rfl rfl (Gk rfl (Gk rfl (Gk rfl (Gf I (G+k*7+4) rfl rfl (Gc (.bool false) (λW A=>by simp[F _ A,c2]) rfl rfl rfl rfl (Gk rfl (aF))))))))))))))) (λ_=>rfl) rfl ?_;intro y L o _;have p:=ag hm o;clear o;go_wp2;go_ret;rw[C.out];exact⟨rfl,p⟩
 rw[if_neg X] at M;obtain⟨K,hK⟩:∃K:Nat,e.n=K:=⟨e.n.toNat,by omega⟩;rw[hK] at M;go_upto_region 9 with (fail);clear s
 by_cases c3:(H.m.fs.length:Int)<=(K:Int)
 ·have C:Hid (cZ H.ma P.sp n=3):=ae (by rw[M.out,if_pos c3]);have Z:(H.m.fs.length:Int)<=e.n:=by omega
  refine aN 9 [_,_,_,_,_,_,_,_,_] (Gf ge 1 rfl rfl (Gl D rfl rfl rfl rfl rfl (Gk rfl (Gk rfl (Gf b 0 rfl rfl (Gf b 0 rfl rfl (Gl hs rfl rfl rfl rfl rfl (Gn rfl rfl rfl rfl (Gb (.bool true) (by simp[go_sem,Z]) rfl rfl rfl rfl rfl (aF)))))))))) (λ_=>rfl) rfl ?_;intro y L o _;have p:=ag hm o;clear o hD J F t hC c3 Z;go_wp2;go_ret;rw[C.out];exact⟨rfl,p⟩
 rw[if_neg c3] at M;have Z:¬(H.m.fs.length:Int)<=e.n:=by omega
 refine aN 9 [_,_,_,_,_,_,_,_,_] (Gf ge 1 rfl rfl (Gl D rfl rfl rfl rfl rfl (Gk rfl (Gk rfl (Gf b 0 rfl rfl (Gf b 0 rfl rfl (Gl hs rfl rfl rfl rfl rfl (Gn rfl rfl rfl rfl (Gb (.bool false) (by simp[go_sem,Z]) rfl rfl rfl rfl rfl (aF)))))))))) (λ_=>rfl) rfl ?_;intro y L o _;have p:=ag hm o;have hQ:K<H.m.fs.length:=by omega
 replace D:=D.ext o;have hp:=N.ext p;have h5:=h.below p;have E:∀ {u:Value} {z:Addr},(∀W,Below w4.heap.size w4 W->W.cell? z=some u)->∀W,Below L.heap.size L W->W.cell? z=some u:=λhh W A=>hh W (ag o A);replace hD:=E hD;replace J:=E J;replace F:=E F;replace t:=E t;replace hC:=E hC;obtain⟨bg,U,kk,hr⟩:=kM fJ (by decide) h5.fr.rd K hQ;have h3:H.m.fs[K]=aD H.ma K:=by have:=wu (m:=H.ma) (f:=K) hQ;have h2:H.m.fs[K]?=some (aD H.ma K):=this;rw[aH hQ] at h2;exact aM h2
 rw[h3] at hr;have c:Hid (cZ H.ma P.sp n=(let of:=decide (0<=a.fi)&&decide ((aD H.ma K).f=a.fi)&&decide ((aD H.ma K).i=a.ba+n-a.fr)
  if 0<=(aD H.ma K).f/\of=false\/a.sh=true/\of=false\/a.sh=false/\of=true/\e.w=true\/e.w=true/\a.wr=false then 7
  else if (aD H.ma K).f<0/\e.w=true/\1<(aD H.ma K).r then 7 else 0)):=ae (by rw[M.out];rfl)
 generalize aD H.ma K=x at *
 clear M h3 o hs h4 hm c3 E;go_upto_region 11 with (fail);refine aN 9 [_,_,_,_,_,_,_,_,.v (.pointer (some ⟨bg,U+K*13,none⟩))] (Gk rfl (Gk rfl (Gf b 0 rfl rfl (Gf b 0 rfl rfl (Gl hp (V:=.slice (some ⟨bg,U,none⟩) H.m.fs.length H.cf) (by simp[fB,kk]) rfl rfl rfl rfl (Gf ge 1 rfl rfl (Gl D (V:=.int .i64 (K:Int)) (by simp[jC,hK]) rfl rfl rfl rfl (Gr (.pointer (some ⟨bg,U+K*13,none⟩)) (λρ y W A hB=>(bP rfl (aI rfl hB) (aI rfl hB) hQ underlying30 frame_size)) rfl rfl (Gk rfl (aF)))))))))) (λ_=>rfl) rfl ?_;intro y W7 hv _;have hJ:=ag p hv;have ex7:=D.ext hv;have kd:=N.ext hJ;have E:∀ {u:Value} {z:Addr},(∀W,Below L.heap.size L W->W.cell? z=some u)->∀W,Below W7.heap.size W7 W->W.cell? z=some u:=λhh W A=>hh W (ag hv A);replace hD:=E hD;replace J:=E J;replace F:=E F;replace t:=E t;replace hC:=E hC;have hI:=hr.below hv;clear D hp hv E hr p h5;have hG:IntKind.i64.wrap (a.ba+n)=a.ba+n:=bG _ (by obtain⟨⟨z1,z2⟩,⟨z3,z4⟩,z5,z6⟩:=hM;omega);have h6:IntKind.i64.wrap (a.ba+n-a.fr)=a.ba+n-a.fr:=bG _ (by obtain⟨⟨z1,z2⟩,⟨z3,z4⟩,z5,z6⟩:=hM;omega);go_upto_region 12 with (fail);refine aN 12 [_,_,_,_,_,_,_,_,_,_,_,.v (.int .i64 (a.ba+n-a.fr))] (Gk rfl (Gk rfl (Gf I (G+k*7+6) rfl rfl (Gc (.int .i64 a.ba) (λW A=>by simp[hC _ A]) rfl rfl rfl rfl (Gk rfl (Gb (.int .i64 (a.ba+n)) (by simp[go_sem,hG]) rfl rfl rfl rfl rfl (Gk rfl (Gk rfl (Gf I (G+k*7) rfl rfl (Gc (.int .i64 a.fr) (λW A=>by simp[hD _ A]) rfl rfl rfl rfl (Gb (.int .i64 (a.ba+n-a.fr)) (by simp[go_sem,h6]) rfl rfl rfl rfl rfl (Gk rfl (aF))))))))))))) (λ_=>rfl) rfl ?_;intro y L o _;have p:=ag hJ o;have D:=ex7.ext o;have hp:=N.ext p;have E:∀ {u:Value} {z:Addr},(∀W,Below W7.heap.size W7 W->W.cell? z=some u)->∀W,Below L.heap.size L W->W.cell? z=some u:=λhh W A=>hh W (ag o A);replace J:=E J;replace F:=E F;replace t:=E t;have hr:=hI.below o;clear ex7 kd o E hI hJ hG h6 hD hC;have hP:∀j u,(pG x)[j]?=some u->∀W,Below L.heap.size L W->W.cell? ⟨bg,U+K*13+j,none⟩=some u:=λj u hj W A=>by obtain⟨b',o',e',hc⟩:=(hr.below A) j u hj;cases e';exact hc
 have hy:=hP 8 _ rfl;have O:=hP 11 _ rfl;have ht:=hP 12 _ rfl;clear hP hr;go_upto_region 13 with (fail)
 by_cases g1:0<=a.fi
 ·by_cases g2:x.f=a.fi
  ·by_cases g3:x.i=a.ba+n-a.fr
   ·skip;refine aN 25 [_,_,_,_,_,_,_,_,_,_,_,_,_,_,_,_,_,_,_,_,_,_,_,_,.v (.bool true)] (Gk rfl (Gk rfl (Gf I (G+k*7+5) rfl rfl (Gc (.int .i64 a.fi) (λW A=>by simp[t _ A]) rfl rfl rfl rfl (Gb (.bool true) (by simp[go_sem,g1]) rfl rfl rfl rfl rfl (Gk rfl (Gk rfl (Gk rfl (Gf bg (U+K*13+11) rfl rfl (Gc (.int .i64 x.f) (λW A=>by simp[O _ A]) rfl rfl rfl rfl (Gk rfl (Gk rfl (Gf I (G+k*7+5) rfl rfl (Gc (.int .i64 a.fi) (λW A=>by simp[t _ A]) rfl rfl rfl rfl (Gb (.bool true) (by simp[go_sem,g2]) rfl rfl rfl rfl rfl (Gk rfl (Gk rfl (Gk rfl (Gk rfl (Gf bg (U+K*13+12) rfl rfl (Gc (.int .i64 x.i) (λW A=>by simp[ht _ A]) rfl rfl rfl rfl (Gk rfl (Gb (.bool true) (by simp[go_sem,g3]) rfl rfl rfl rfl rfl (Gk rfl (Gk rfl (aF)))))))))))))))))))))))))) (λ_=>rfl) rfl ?_;intro y W6 d _;have g:=ag p d;have x8:=hy _ d;have x11:=O _ d;have S:=J _ d;have R:=F _ d;have s:=(D.ext d).cell;unfold jC at s;clear d J F t hy O ht D hp;have f1:0<=x.f:=by omega
    have Y:¬x.f<0:=by omega
    replace c:Hid (cZ H.ma P.sp n=if a.sh=false/\e.w=true\/e.w=true/\a.wr=false then 7 else 0):=ae (by rw[c.out,decide_eq_true g1,decide_eq_true g2,decide_eq_true g3];simp[Y]);clear g2 g3;cases f2:a.sh with
    | true=>
     rw[f2] at R;cases f3:e.w with
     | false=>
      rw[f3] at s;have C:Hid (cZ H.ma P.sp n=0):=ae (by rw[c.out];simp[*];try omega);clear c;go_wp2;go_ret;rw[C.out];exact⟨rfl,g⟩
     | true=>
      rw[f3] at s;cases f4:a.wr with
      | false=>
       rw[f4] at S;have C:Hid (cZ H.ma P.sp n=7):=ae (by rw[c.out];simp[*];try omega);clear c;go_wp2;go_ret;rw[C.out];exact⟨rfl,g⟩
      | true=>
       rw[f4] at S;have C:Hid (cZ H.ma P.sp n=0):=ae (by rw[c.out];simp[*];try omega);clear c;go_wp2;go_ret;rw[C.out];exact⟨rfl,g⟩
    | false=>
     rw[f2] at R;cases f3:e.w with
     | true=>
      rw[f3] at s;have C:Hid (cZ H.ma P.sp n=7):=ae (by rw[c.out];simp[*];try omega);clear c;go_wp2;go_ret;rw[C.out];exact⟨rfl,g⟩
     | false=>
      rw[f3] at s;have C:Hid (cZ H.ma P.sp n=0):=ae (by rw[c.out];simp[*];try omega);clear c;go_wp2;go_ret;rw[C.out];exact⟨rfl,g⟩
   skip;refine aN 25 [_,_,_,_,_,_,_,_,_,_,_,_,_,_,_,_,_,_,_,_,_,_,_,_,.v (.bool false)] (Gk rfl (Gk rfl (Gf I (G+k*7+5) rfl rfl (Gc (.int .i64 a.fi) (λW A=>by simp[t _ A]) rfl rfl rfl rfl (Gb (.bool true) (by simp[go_sem,g1]) rfl rfl rfl rfl rfl (Gk rfl (Gk rfl (Gk rfl (Gf bg (U+K*13+11) rfl rfl (Gc (.int .i64 x.f) (λW A=>by simp[O _ A]) rfl rfl rfl rfl (Gk rfl (Gk rfl (Gf I (G+k*7+5) rfl rfl (Gc (.int .i64 a.fi) (λW A=>by simp[t _ A]) rfl rfl rfl rfl (Gb (.bool true) (by simp[go_sem,g2]) rfl rfl rfl rfl rfl (Gk rfl (Gk rfl (Gk rfl (Gk rfl (Gf bg (U+K*13+12) rfl rfl (Gc (.int .i64 x.i) (λW A=>by simp[ht _ A]) rfl rfl rfl rfl (Gk rfl (Gb (.bool false) (by simp[go_sem,g3]) rfl rfl rfl rfl rfl (Gk rfl (Gk rfl (aF)))))))))))))))))))))))))) (λ_=>rfl) rfl ?_;intro y W6 d _;have g:=ag p d;have x8:=hy _ d;have x11:=O _ d;have S:=J _ d;have R:=F _ d;have s:=(D.ext d).cell;unfold jC at s;clear d J F t hy O ht D hp;have hu:(decide (0<=a.fi)&&decide (x.f=a.fi)&&decide (x.i=a.ba+n-a.fr))=false:=by simp[*]
   replace c:Hid (cZ H.ma P.sp n=if 0<=x.f\/a.sh=true\/e.w=true/\a.wr=false then 7 else if x.f<0/\e.w=true/\1<x.r then 7 else 0):=ae (by rw[c.out,hu];simp);clear hu g2 g3
   by_cases f1:0<=x.f
   ·skip;have C:Hid (cZ H.ma P.sp n=7):=ae (by rw[c.out];simp[*];try omega);clear c;go_wp2;go_ret;rw[C.out];exact⟨rfl,g⟩
   have Y:x.f<0:=by omega
   cases f2:a.sh with
   | true=>
    rw[f2] at R;have C:Hid (cZ H.ma P.sp n=7):=ae (by rw[c.out];simp[*];try omega);clear c;go_wp2;go_ret;rw[C.out];exact⟨rfl,g⟩
   | false=>
    rw[f2] at R;cases f3:e.w with
    | false=>
     rw[f3] at s;have C:Hid (cZ H.ma P.sp n=0):=ae (by rw[c.out];simp[*];try omega);clear c;go_wp2;go_ret;rw[C.out];exact⟨rfl,g⟩
    | true=>
     rw[f3] at s;cases f4:a.wr with
     | false=>
      rw[f4] at S;have C:Hid (cZ H.ma P.sp n=7):=ae (by rw[c.out];simp[*];try omega);clear c;go_wp2;go_ret;rw[C.out];exact⟨rfl,g⟩
     | true=>
      rw[f4] at S
      by_cases f5:1<x.r
      ·skip;have C:Hid (cZ H.ma P.sp n=7):=ae (by rw[c.out];simp[*];try omega);clear c;go_wp2;go_ret;rw[C.out];exact⟨rfl,g⟩
      skip;have C:Hid (cZ H.ma P.sp n=0):=ae (by rw[c.out];simp[*];try omega);clear c;go_wp2;go_ret;rw[C.out];exact⟨rfl,g⟩
  skip;refine aN 25 [_,_,_,_,_,_,_,_,_,_,_,_,_,_,_,_,_,_,_,_,_,_,_,_,.v (.bool false)] (Gk rfl (Gk rfl (Gf I (G+k*7+5) rfl rfl (Gc (.int .i64 a.fi) (λW A=>by simp[t _ A]) rfl rfl rfl rfl (Gb (.bool true) (by simp[go_sem,g1]) rfl rfl rfl rfl rfl (Gk rfl (Gk rfl (Gk rfl (Gf bg (U+K*13+11) rfl rfl (Gc (.int .i64 x.f) (λW A=>by simp[O _ A]) rfl rfl rfl rfl (Gk rfl (Gk rfl (Gf I (G+k*7+5) rfl rfl (Gc (.int .i64 a.fi) (λW A=>by simp[t _ A]) rfl rfl rfl rfl (Gb (.bool false) (by simp[go_sem,g2]) rfl rfl rfl rfl rfl (Gk rfl (Gk rfl (Gk rfl (Gk rfl (Gk rfl (Gk rfl (Gk rfl (Gk rfl (Gk rfl (Gk rfl (aF)))))))))))))))))))))))))) (λ_=>rfl) rfl ?_;intro y W6 d _;have g:=ag p d;have x8:=hy _ d;have x11:=O _ d;have S:=J _ d;have R:=F _ d;have s:=(D.ext d).cell;unfold jC at s;clear d J F t hy O ht D hp;have hu:(decide (0<=a.fi)&&decide (x.f=a.fi)&&decide (x.i=a.ba+n-a.fr))=false:=by simp[*]
  replace c:Hid (cZ H.ma P.sp n=if 0<=x.f\/a.sh=true\/e.w=true/\a.wr=false then 7 else if x.f<0/\e.w=true/\1<x.r then 7 else 0):=ae (by rw[c.out,hu];simp);clear hu g2
  by_cases f1:0<=x.f
  ·skip;have C:Hid (cZ H.ma P.sp n=7):=ae (by rw[c.out];simp[*];try omega);clear c;go_wp2;go_ret;rw[C.out];exact⟨rfl,g⟩
  have Y:x.f<0:=by omega
  cases f2:a.sh with
  | true=>
   rw[f2] at R;have C:Hid (cZ H.ma P.sp n=7):=ae (by rw[c.out];simp[*];try omega);clear c;go_wp2;go_ret;rw[C.out];exact⟨rfl,g⟩
  | false=>
   rw[f2] at R;cases f3:e.w with
   | false=>
    rw[f3] at s;have C:Hid (cZ H.ma P.sp n=0):=ae (by rw[c.out];simp[*];try omega);clear c;go_wp2;go_ret;rw[C.out];exact⟨rfl,g⟩
   | true=>
    rw[f3] at s;cases f4:a.wr with
    | false=>
     rw[f4] at S;have C:Hid (cZ H.ma P.sp n=7):=ae (by rw[c.out];simp[*];try omega);clear c;go_wp2;go_ret;rw[C.out];exact⟨rfl,g⟩
    | true=>
     rw[f4] at S
     by_cases f5:1<x.r
     ·skip;have C:Hid (cZ H.ma P.sp n=7):=ae (by rw[c.out];simp[*];try omega);clear c;go_wp2;go_ret;rw[C.out];exact⟨rfl,g⟩
     skip;have C:Hid (cZ H.ma P.sp n=0):=ae (by rw[c.out];simp[*];try omega);clear c;go_wp2;go_ret;rw[C.out];exact⟨rfl,g⟩
 skip;refine aN 25 [_,_,_,_,_,_,_,_,_,_,_,_,_,_,_,_,_,_,_,_,_,_,_,_,.v (.bool false)] (Gk rfl (Gk rfl (Gf I (G+k*7+5) rfl rfl (Gc (.int .i64 a.fi) (λW A=>by simp[t _ A]) rfl rfl rfl rfl (Gb (.bool false) (by simp[go_sem,g1]) rfl rfl rfl rfl rfl (Gk rfl (Gk rfl (Gk rfl (Gk rfl (Gk rfl (Gk rfl (Gk rfl (Gk rfl (Gk rfl (Gk rfl (Gk rfl (Gk rfl (Gk rfl (Gk rfl (Gk rfl (Gk rfl (Gk rfl (Gk rfl (Gk rfl (Gk rfl (aF)))))))))))))))))))))))))) (λ_=>rfl) rfl ?_;intro y W6 d _;have g:=ag p d;have x8:=hy _ d;have x11:=O _ d;have S:=J _ d;have R:=F _ d;have s:=(D.ext d).cell;unfold jC at s;clear d J F t hy O ht D hp;have hu:(decide (0<=a.fi)&&decide (x.f=a.fi)&&decide (x.i=a.ba+n-a.fr))=false:=by simp[*]
 replace c:Hid (cZ H.ma P.sp n=if 0<=x.f\/a.sh=true\/e.w=true/\a.wr=false then 7 else if x.f<0/\e.w=true/\1<x.r then 7 else 0):=ae (by rw[c.out,hu];simp);clear hu g1
 by_cases f1:0<=x.f
 ·skip;have C:Hid (cZ H.ma P.sp n=7):=ae (by rw[c.out];simp[*];try omega);clear c;go_wp2;go_ret;rw[C.out];exact⟨rfl,g⟩
 have Y:x.f<0:=by omega
 cases f2:a.sh with
 | true=>
  rw[f2] at R;have C:Hid (cZ H.ma P.sp n=7):=ae (by rw[c.out];simp[*];try omega);clear c;go_wp2;go_ret;rw[C.out];exact⟨rfl,g⟩
 | false=>
  rw[f2] at R;cases f3:e.w with
  | false=>
   rw[f3] at s;have C:Hid (cZ H.ma P.sp n=0):=ae (by rw[c.out];simp[*];try omega);clear c;go_wp2;go_ret;rw[C.out];exact⟨rfl,g⟩
  | true=>
   rw[f3] at s;cases f4:a.wr with
   | false=>
    rw[f4] at S;have C:Hid (cZ H.ma P.sp n=7):=ae (by rw[c.out];simp[*];try omega);clear c;go_wp2;go_ret;rw[C.out];exact⟨rfl,g⟩
   | true=>
    rw[f4] at S
    by_cases f5:1<x.r
    ·skip;have C:Hid (cZ H.ma P.sp n=7):=ae (by rw[c.out];simp[*];try omega);clear c;go_wp2;go_ret;rw[C.out];exact⟨rfl,g⟩
    skip;have C:Hid (cZ H.ma P.sp n=0):=ae (by rw[c.out];simp[*];try omega);clear c;go_wp2;go_ret;rw[C.out];exact⟨rfl,g⟩
def isK (i:Int) (c:Cc):Bool:=decide (c.k=i)
theorem Nb (c:Cc) (i:Int) (g:Nat) (w:World) (h:aG w g #[.int .i64 i] 3) :
  Calls Tryz.prog 85 #[.agg (vV c),.pointer (some ⟨g,0,none⟩)] w λr w'=>r = .returned (.bool (isK i c))/\Below w.heap.size w w':=by
 go_enter func85,ntmps85;go_upto_region 1 with (fail);refine iC (λW=>Code.wp _ _ _ _ W) λW0 a b d => ?_;clear d;have e:=(h.ext a).cell 0;have f:=b.cell;have u:(vV c)[2]?=some (.int .i64 c.k):=rfl;go_wp2;go_ret;exact⟨bY (by unfold isK;rfl),a⟩
theorem Tx (l:List Cc) (a:Option Addr) (c:Nat) (w:World) (A:dZ w a (l.flatMap iK)) (E:l.length<=9223372036854775807) (g:Nat) (u:Int) (D:aG w g #[.int .i64 u] 3) :
  Calls Tryz.prog 131 #[.slice a l.length c,.func (.func 85) #[] #[.pointer (some ⟨g,0,none⟩)]] w λe w'=>e = .returned (.int .i64 (idx (isK u) l))/\Below w.heap.size w w':=by
 go_enter func131,ntmps131;go_wp2
 go_loopw [8] (fun i wr => ∃k:Nat,k<=l.length/\i = .int .i64 k/\Below w.heap.size w wr/\∀i (h:i<l.length),i<k->(isK u) l[i]=false) (fun i _=>l.length-(intOf i).toNat)
 case atStart=>exact⟨0,aZ _,rfl,Below.refl _ _,λi _ h=>absurd h (fe _)⟩
 case round=>
  obtain⟨k,F,rfl,j,n⟩:=hrel;have C:=ae n;clear n
  by_cases y:k<l.length
  ·obtain⟨b,z,rfl,p⟩:=zy (A.below j) k y
   go_wp2_with (refine ay _ _ rfl b (z+k*3) rfl rfl _ p _ underlying122 rfl cached_size ?_)
   refine (Nb l[k] u g _ (D.ext j)).mono ?_;rintro e w2 ⟨rfl,o⟩;have f:=ag j o;clear o;cases hpk:(isK u) l[k]
   ·have m:=ae hpk;clear hpk;go_wp2;go_roundw
    case rel=>exact⟨k+1,by omega,by go_num,f,mG C.out y m.out⟩
    case measure=>simp[intOf];omega
   have d:=ae (uG (isK u) l k y C.out hpk);clear hpk;go_wp2;go_ret;exact⟨aW d.out.symm,f⟩
  have d:=ae (lY (isK u) l λi h=>C.out i h (by omega));go_wp2;go_ret;exact⟨aW d.out.symm,j⟩
theorem Rj (l:List Cc) (a:Option Addr) (c:Nat) (w:World) (h:dZ w a (l.flatMap iK)) (u:l.length<=9223372036854775807) (g:Nat) (d:Int) (y:aG w g #[.int .i64 d] 3) :
  Calls Tryz.prog 84 #[.slice a l.length c,.func (.func 85) #[] #[.pointer (some ⟨g,0,none⟩)]] w λe w'=>e = .returned (.bool (l.any (isK d)))/\Below w.heap.size w w':=by
 go_enter func84,ntmps84
 go_wp2_with fail
 refine (Tx l a c _ h u g d y).mono ?_;rintro e w2 ⟨rfl,b⟩;go_wp2;go_ret;exact⟨bY (pu _ _),b⟩
theorem KO (l m:List Int) (a a' : Option Addr) (c c' : Nat) (w:World) (A:dZ w a (l.map fZ)) (hrd' : dZ w a' (m.map fZ)) (G:l.length<=9223372036854775807) (hl' : m.length<=9223372036854775807) :
  Calls Tryz.prog 86 #[.slice a l.length c,.slice a' m.length c'] w λe w'=>e = .returned (.bool (l==m))/\Below w.heap.size w w':=by
 go_enter func86,ntmps86
 by_cases y:l.length=m.length
 ·have f:((l.length:Int) != (m.length:Int))=false:=by simp[y]
  go_wp2
  go_loopw [13] (fun i wr => ∃k:Nat,k<=l.length/\i = .int .i64 k/\Below w.heap.size w wr/\∀i (h:i<l.length),i<k->l[i]=m[i]'(by omega)) (fun i _=>l.length-(intOf i).toNat)
  case atStart=>exact⟨0,aZ _,rfl,Below.refl _ _,λi _ h=>absurd h (fe _)⟩
  case round=>
   obtain⟨k,I,rfl,d,D⟩:=hrel
   by_cases u:k<l.length
   ·obtain⟨b,E,rfl,J⟩:=kD (A.below d) k u;obtain⟨K,C,rfl,g⟩:=kD (hrd'.below d) k (by omega);have k1:(k:Int)<(m.length:Int):=by omega
    go_wp2_with fail
    go_quiet (fail)
    by_cases z:l[k]=m[k]'(by omega)
    ·have F:(l[k] != m[k]'(by omega))=false:=by simp[z]
     go_wp2;go_roundw
     case rel=>exact⟨k+1,by omega,by go_num,below_drewN d _,upto D u z⟩
     case measure=>simp[intOf];omega
    have F:(l[k] != m[k]'(by omega))=true:=by simp[z]
    go_wp2;go_ret;exact⟨bY (PR k u (by omega) z).symm,below_drewN d _⟩
   go_wp2
   all_goals
    go_ret;exact⟨bY (Qq y λi h=>D i h (by omega)).symm,d⟩
 have f:((l.length:Int) != (m.length:Int))=true:=by simp;omega
 go_wp2;go_ret;refine⟨bY ?_,Below.refl _ _⟩;symm;rw[beq_eq_false_iff_ne];rintro rfl;exact y rfl
theorem nI (n:Nat) (l:List Int):(lu n l).length=n:=by simp[lu]
theorem oC (n:Nat) (l:List Int) (i:Nat) (d:i<n):(lu n l)[i]?=some (cnt l i:Int):=by simp[lu,d]
theorem Kv (l:List Int) (k i:Int):cnt (l++[k]) i=cnt l i+(if k=i then 1 else 0):=by
 rw[zO];congr 1;unfold cnt;rw[uD,List.countP_nil]
 by_cases h:k=i
 ·simp[h]
 ·simp[h]
theorem Fp (n:Nat) (l:List Int) (k:Nat) (d:k<n):(lu n l).set k ((cnt l k:Int)+1)=lu n (l++[(k:Int)]):=by
 apply pE;intro i;rw[nR,nI]
 by_cases e:k=i
 ·subst e;rw[if_pos rfl,if_pos d,oC _ _ _ d,Kv,if_pos rfl];simp
 rw[if_neg e]
 by_cases h:i<n
 ·rw[oC _ _ _ h,oC _ _ _ h,Kv,if_neg (by omega)];rfl
 ·rw[fw (by rw[nI];omega),fw (by rw[nI];omega)]
theorem Ll (n:Nat):lu n []=List.replicate n 0:=by
 unfold lu cnt;apply pE;intro i;rw[jv,pV]
 by_cases d:i<n
 ·rw[tJ d,if_pos d];rfl
 ·rw[if_neg d,fw (by simp;omega)];rfl
theorem Jc (l:List Int) (i:Int):cnt l i<=l.length:=wD
def IB (w:World) (g:Nat) (l:List Int):Prop:=aG w g (l.map fZ).toArray 3
theorem Gq (n:Nat):madeCells #[.int .i64 0] n=((List.replicate n (0:Int)).map fZ).toArray:=by
 apply Array.ext
 ·simp[size_madeCells]
 intro i d h2;simp[madeCells,fZ,Nat.mod_one]
theorem IB.cell (h:IB w g l) {v:Int} (d:l[k]?=some v):w.cell? ⟨g,k,none⟩=some (.int .i64 v):=by
 have:=aG.cell h k;rw[this];simp[d,fZ]
theorem IB.set {v:Int} (d:k<l.length):bI (l.map fZ).toArray k [.int .i64 v]=((l.set k v).map fZ).toArray:=by
 show ((l.map fZ).toArray).setIfInBounds k (.int .i64 v)=_;rw[Be];simp[fZ]
theorem yY {r:List Int} (h:∀x∈l,x=0):firstE (l++r)=firstE r:=by
 induction l with
 | nil=>rfl
 | cons a l ih=>
  have u:=h a iL;rw[Iu];rw[firstE,u];simp only[if_true,ne_eq,not_true_eq_false,if_false];exact ih λx d=>h x (jV _ d)
theorem Qm {x:Int} {r:List Int} (h:x≠0):firstE (x::r)=x:=by
 rw[firstE];simp[h]
theorem Nq {s:Sp} (z:m.sp[p]?=some s) (A:(aU s.tb)[j]?=some n) (C:∀t∈m.sp.take p,∀i∈aU t.tb,cZ m t i=0) (h2:∀i∈(aU s.tb).take j,cZ m s i=0) (h:cZ m s n≠0):nH m=cZ m s n:=by
 unfold nH;have E:m.sp=m.sp.take p++s::m.sp.drop (p+1):=by rw[<-drop_at z,qX]
 have D:aU s.tb=(aU s.tb).take j++n::(aU s.tb).drop (j+1):=by rw[<-drop_at A,qX]
 rw[E,fE,yY (λx d => ?_),nX,D,jS,jG,yY (λx d => ?_),bR,Iu,Qm h]
 ·obtain⟨i,u,rfl⟩:=ja.1 d;exact h2 i u
 obtain⟨t,y,d⟩:=kT.1 d;obtain⟨i,u,rfl⟩:=ja.1 d;exact C t y i u
theorem KH (h:∀t∈m.sp,∀i∈aU t.tb,cZ m t i=0):nH m=0:=by
 unfold nH;rw[<-oV (m.sp.flatMap _),yY (λx d => ?_)]
 ·rfl
 obtain⟨t,u,d⟩:=kT.1 d;obtain⟨i,y,rfl⟩:=ja.1 d;exact h t u i y
theorem Rx {s:Sp} (h:cZ m s n=0):((dJ s.tb n).k=2->(dJ s.tb n).n<m.sl.length)/\((dJ s.tb n).k≠2->(dJ s.tb n).n<m.m.fs.length):=by
 unfold cZ at h;split at h
 ·cases h
 simp only at h;split at h
 ·rename_i h2;split at h
  ·cases h
  rename_i u;exact⟨λ_=>by omega,λd=>absurd h2 d⟩
 rename_i h2;split at h
 ·cases h
 ·exact⟨λd=>absurd d h2,λ_=>by omega⟩
def mP (m:Ma) (p:Nat) (l:List Int):List Int:=m.ca.map Cc.k++(m.sp.take p).flatMap (λs=>pq s.tb (aU s.tb))++l
def kV (m:Ma) (p:Nat) (l:List Int):List Int:=(m.sp.take p).flatMap (λs=>swapT s.tb (aU s.tb))++l
theorem Pd (t:Tb) (l:List Int) (n:Int):pq t (l++[n])=pq t l++(if (dJ t n).k=1 then [(dJ t n).n] else []):=by
 unfold pq;rw[rE,jS];congr 1
 by_cases h:(dJ t n).k=1
 ·simp[h]
 ·simp[h]
theorem Qw (t:Tb) (l:List Int) (n:Int):swapT t (l++[n])=swapT t l++(if (dJ t n).k=1 then [] else [(dJ t n).n]):=by
 unfold swapT;rw[rE,jS];congr 1
 by_cases h:(dJ t n).k=1
 ·simp[h]
 ·simp[h]
theorem NC {s:Sp} (d:m.sp[p]?=some s):mP m p (pq s.tb (aU s.tb))=mP m (p+1) []:=by
 unfold mP;rw[take_at d,fE,oV,jG];simp
theorem KC {s:Sp} (d:m.sp[p]?=some s):kV m p (swapT s.tb (aU s.tb))=kV m (p+1) []:=by
 unfold kV;rw[take_at d,fE,oV];simp
theorem Qg (m:Ma):mP m m.sp.length []=rY m:=by unfold mP rY;rw[yE,oV]
theorem LM (m:Ma):kV m m.sp.length []=qA m:=by unfold kV qA;rw[yE,oV]
theorem MP (m:Ma) (p:Nat) (l:List Int) (k:Int):mP m p (l++[k])=mP m p l++[k]:=by unfold mP;rw[jG,jG,jG]
theorem KF (m:Ma) (p:Nat) (l:List Int) (k:Int):kV m p (l++[k])=kV m p l++[k]:=by unfold kV;rw[jG]
theorem BU (t:Tb) (l:List Int):(pq t l).length<=l.length:=by unfold pq;rw[fH];exact AL _ _
theorem GQ (t:Tb) (l:List Int):(swapT t l).length<=l.length:=by unfold swapT;rw[fH];exact AL _ _
theorem flat_len {α:Type} (g:α->List Int) (c:Nat) (h:∀x,(g x).length<=c):∀l:List α,(l.flatMap g).length<=c*l.length
 | []=>by simp
 | x::l=>by have d:=flat_len g c h l;have h2:=h x;rw[nX,jf,qg,Nat.mul_succ];omega
theorem vG (t:Tb):(aU t).length<=64:=su t 64
theorem QR (m:Ma) (p:Nat) (l:List Int):(mP m p l).length<=m.ca.length+64*m.sp.length+l.length:=by
 unfold mP;have d:=flat_len (λs:Sp=>pq s.tb (aU s.tb)) 64 (λs=>bi (BU _ _) (vG _)) (m.sp.take p);have h2:(m.sp.take p).length<=m.sp.length:=by rw[iB];omega
 simp only[jf,fH];omega
theorem QG (h:uB m) (p:Nat) (l:List Int) (K:Int):cnt (mP m p l) K<=1+64*m.sp.length+l.length:=by
 unfold mP;rw[zO,zO];have A:=flat_len (λs:Sp=>pq s.tb (aU s.tb)) 64 (λs=>bi (BU _ _) (vG _)) (m.sp.take p);have h2:(m.sp.take p).length<=m.sp.length:=by rw[iB];omega
 have z:cnt (m.ca.map Cc.k) K=sZ m K:=by unfold cnt sZ;rw[yH];rfl
 have y:=SI h K;have u:=Jc ((m.sp.take p).flatMap λs=>pq s.tb (aU s.tb)) K;have d:=Jc l K;omega
theorem MZ (m:Ma) (p:Nat) (l:List Int):(kV m p l).length<=64*m.sp.length+l.length:=by
 unfold kV;have d:=flat_len (λs:Sp=>swapT s.tb (aU s.tb)) 64 (λs=>bi (GQ _ _) (vG _)) (m.sp.take p);have h2:(m.sp.take p).length<=m.sp.length:=by rw[iB];omega
 simp only[jf];omega
theorem NW (w:World) (d u:Array Value) (h y:TypeId):Below w.heap.size w ((w.alloc (.cells d h)).alloc (.cells u y)).drew/\aG ((w.alloc (.cells d h)).alloc (.cells u y)).drew w.heap.size d h/\aG ((w.alloc (.cells d h)).alloc (.cells u y)).drew (w.heap.size+1) u y:=by
 have e:(w.alloc (.cells d h)).heap.size=w.heap.size+1:=CZ _;have z:Below w.heap.size w ((w.alloc (.cells d h)).alloc (.cells u y)):=((Below.refl _ _).alloc (az _) _).alloc (by omega) _;have h2:aG ((w.alloc (.cells d h)).alloc (.cells u y)) w.heap.size d h:=(aG.new w d h).ext ((Below.refl _ _).alloc (az _) _);have A:aG ((w.alloc (.cells d h)).alloc (.cells u y)) (w.heap.size+1) u y:=by rw[<-e];exact aG.new _ _ _
 exact⟨⟨z.os,z.tape,z.output,z.size,z.block⟩,h2,A⟩
theorem int_one:(Tryz.prog.info? 3).map (·.size)=some 1:=by kernel_rfl
theorem int_inf:(Tryz.prog.info? 3).map (λi=>(i.zero,i.size,i.bytes))=some (some (.int .i64 0),1,8):=by kernel_rfl
theorem Eg {y:Operand} {n:Nat} {k:IntKind} (A:o.op = .indexAddr t x y) (h:ρ x = .slice (some ⟨b,0,none⟩) n c) (d:ρ y = .int k (i:Int)) (C:i<n)
 (u:P.underlying t=some (.slice e)) (z:(P.info? e).map (·.size)=some 1):(execOp ρ o).run P w = .ok (.value (.pointer (some ⟨b,i,none⟩))) w:=by
 have:=bP (w:=w) A h d C u z;rw[this];simp
def FH (m:Ma) (i:Nat):Bool:=decide ((jD m i).r=cnt (rY m) i)&&(decide ((jD m i).f<0)||m.ca.any λc=>decide (c.k=i))
theorem KL (m:Ma):countB m=((List.range m.m.fs.length).all (FH m)&&decide (m.sl=lu m.sl.length (qA m))):=rfl
theorem Kc (h:countB m=true) (k:Nat) (d:k<m.m.fs.length):FH m k=true:=by
 rw[KL,dU,eZ] at h;exact h.1 k (eG.2 d)
theorem yP (H:MH) (w:World) (h:FD w H) :
  Calls Tryz.prog 40 #[.agg (fB H)] w λr w'=>r = .returned (.int .i64 (jQ H.ma))/\Below w.heap.size w w':=by
 have gS:H.m.fs.length*8<=281474976710656/\H.sl.length*8<=281474976710656\/¬iR H.ma=0:=by
  by_cases e:iR H.ma=0
  ·have hp:=(wW.1 e).1;have h1:=((dH _).1 hp.fr).1;have h2:=kE hp.sl;have qi : H.m.fs.length<=40:=h1;have qh : H.sl.length<=60:=h2;exact .inl ⟨by omega,by omega⟩
  ·exact .inr e
 go_enter func40,ntmps40;go_upto_region 1 with (fail);refine iC (λW=>Code.wp _ _ _ _ W) λw1 kh bx1 gL => ?_;have h1:=h.below kh;have I:aG w1 w.heap.size (fB H) 45:=bx1;clear bx1 gL
 go_wp2_with fail
 refine (Qy H w.heap.size _ I h1).mono ?_;rintro r w2 ⟨rfl,kX⟩;have h5:=ag kh kX;have bx2:=I.ext kX;clear I h1 kh kX
 by_cases e1:iR H.ma=0
 rotate_left
 ·have Z:Hid (jQ H.ma=iR H.ma):=ae (by unfold jQ;rw[if_pos e1]);generalize iR H.ma=E at *
  go_wp2;go_ret;rw[Z.out];exact⟨rfl,h5⟩
 rw[e1]
 go_wp2_with fail
 refine (Ml H w.heap.size _ bx2 (h.below h5)).mono ?_;rintro r w3 ⟨rfl,kW⟩;have hR:=ag h5 kW;have Y:=bx2.ext kW;clear bx2 h5 kW
 by_cases e2:cachedE H.ma=0
 rotate_left
 ·have Z:Hid (jQ H.ma=cachedE H.ma):=ae (by unfold jQ;rw[if_neg (by rw[e1];simp),if_pos e2]);generalize cachedE H.ma=E at *
  go_wp2;go_ret;rw[Z.out];exact⟨rfl,hR⟩
 rw[e2];have kj:=(wW.1 e1).1;have n1:H.m.fs.length<=40:=((dH _).1 kj.fr).1;have n2:H.sl.length<=60:=kE kj.sl;have n3:H.sp.length<=4:=by have:=kj.spl;rw[ul] at this;exact this
 have kA:=ae kj;have kx:=ae (zV.1 e2);have kH:Hid (jQ H.ma=if nH H.ma≠0 then nH H.ma else if countB H.ma=true then 0 else 7):=ae (by unfold jQ;rw[if_neg (by rw[e1];simp),if_neg (by rw[e2];simp)]);clear e1 e2 kj gS;go_upto_region 7 with (fail);have l:=Y.cell;unfold fB at l;have kw:=λob=>(Y.ext ((Below.refl _ _).alloc (az _) ob)).cell;unfold fB at kw;have gd:=run_make_row' (P:=Tryz.prog) 33 3 (.int .i64 0) 8 underlying33 int_inf rfl .i64 .i64 H.m.fs.length (by omega) (by omega);have gc:=run_make_row' (P:=Tryz.prog) 33 3 (.int .i64 0) 8 underlying33 int_inf rfl .i64 .i64 H.sl.length (by omega) (by omega)
 go_cut [5,6] (fun s5 s6 wx => ∃F D,s5 = .slice (some ⟨F,0,none⟩) H.m.fs.length H.m.fs.length/\s6 = .slice (some ⟨D,0,none⟩) H.sl.length H.sl.length/\F≠D/\w3.heap.size<=F/\w3.heap.size<=D/\Below w3.heap.size w3 wx/\aG wx F (madeCells #[.int .i64 0] H.m.fs.length) 3/\aG wx D (madeCells #[.int .i64 0] H.sl.length) 3)
 case first=>
  go_region
  all_goals (go_wp2_with fail;go_meet)
  ·obtain⟨z1,z2,z3⟩:=NW w3 (madeCells #[.int .i64 0] H.m.fs.length) (madeCells #[.int .i64 0] H.sl.length) 3 3;exact⟨_,_,rfl,rfl,by omega,by omega,by omega,z1,z2,z3⟩
  obtain⟨z1,z2,z3⟩:=NW w3 (madeCells #[.int .i64 0] H.sl.length) (madeCells #[.int .i64 0] H.m.fs.length) 3 3;exact⟨_,_,rfl,rfl,by omega,by omega,by omega,z1,z3,z2⟩
 case rest=>
  obtain⟨F,D,rfl,rfl,kN,gn,gk,kU,d,b⟩:=hcut;have ky:=ag hR kU;have bx4:=Y.ext kU;have k2:w.heap.size<=F:=bi hR.size gn;have gJ:w.heap.size<=D:=bi hR.size gk;have gu:w.heap.size≠F:=by have:=Y.lt;omega
  have gX:w.heap.size≠D:=by have:=Y.lt;omega
  have kF:IB wc F (lu H.m.fs.length ((H.ca.take 0).map Cc.k)):=by rw[List.take_zero,aY,Ll];unfold IB;rw[<-Gq];exact d
  have kB:IB wc D (lu H.sl.length []):=by rw[Ll];unfold IB;rw[<-Gq];exact b
  clear l kw gd gc d b kU Y hR gn gk;have l:=bx4.cell;unfold fB at l;go_upto_region 9 with (fail);clear l;have qg:=h.ca.le;have gW:=h.ca.mx;unfold maxLen at gW
  go_loopw [37] (fun i wr => ∃(k:Nat),k<=H.ca.length/\i = .int .i64 k/\Below w.heap.size w wr/\aG wr w.heap.size (fB H) 45/\IB wr F (lu H.m.fs.length ((H.ca.take k).map Cc.k))/\IB wr D (lu H.sl.length [])) (fun i _=>H.ca.length-(intOf i).toNat)
  case atStart=>exact⟨0,aZ _,rfl,ky,bx4,kF,kB⟩
  case round=>
   clear ky bx4 kF kB;obtain⟨k,hk,rfl,o,I,d,b⟩:=hrel
   by_cases A:k<H.ca.length
   ·obtain⟨bc,oc,g0,R⟩:=kM iX (by decide) (h.below o).ca.rd k A;have kP:(k:Int)<(H.ca.length:Int):=by omega
    have g8:0<=H.ca[k].k/\H.ca[k].k<H.m.fs.length:=kx.out.lt _ (eO A);have h7:Hid ((H.ca.take (k+1)).map Cc.k=(H.ca.take k).map Cc.k++[H.ca[k].k]):=ae (by rw[take_at (aH A),jS];rfl);have kO:((H.ca.take k).map Cc.k).length<=k:=by rw[fH,iB];omega
    generalize H.ca[k]=c at *
    obtain⟨K,gt⟩:∃K:Nat,c.k=K:=⟨c.k.toNat,by omega⟩;have hy:K<H.m.fs.length:=by omega
    rw[gt] at h7;rw[g0];generalize (H.ca.take k).map Cc.k=L at *
    go_wp2_with (first | (refine ay _ _ rfl bc (oc+k*3) rfl rfl _ R _ underlying122 rfl cached_size ?_) | (refine aL rfl _ _ _ rfl (vV c) rfl rfl rfl cached_size (wI c) ?_))
    intro w5 s cx;have hI:=ag o s;have bx5:=I.ext s;have hM:IB w5 F (lu H.m.fs.length L):=d.ext s;have hW:IB w5 D (lu H.sl.length []):=b.ext s;clear o I d b R s;have kS:=cx.cell;unfold vV at kS;rw[gt] at kS;have hZ:=hM.cell (oC H.m.fs.length L K hy);have kv:=Jc L K;have ka:IntKind.i64.wrap ((cnt L K:Int)+1)=(cnt L K:Int)+1:=bG _ (by omega);have gy:(K:Int)<(H.m.fs.length:Int):=by omega
    go_wp2_with (refine aB rfl _ _ _ rfl F K _ [.int .i64 ((cnt L K:Int)+1)] rfl rfl rfl _ _ hM (by simp[nI];omega) int_one (λu hu=>by cases bC.1 hu;rfl) ?_)
    intro w6 U hl;rw[IB.set (by rw[nI];exact hy),Fp _ _ _ hy,<-h7.out] at U;have q:=hI.grown hl hI.size (λk hk=>by cases hk;exact k2);have G:=bx5.grown hl (λe=>gu (aM e).symm);have hc:IB w6 D (lu H.sl.length []):=aG.grown hW hl (λe=>kN (aM e));clear hI bx5 hW hM kS hZ cx hl ka;go_wp2;go_roundw
    case rel=>exact⟨k+1,by omega,by go_num,q,G,U,hc⟩
    case measure=>simp[intOf];omega
   have kP:¬(k:Int)<(H.ca.length:Int):=by omega
   rw[ji (by omega)] at d;have kG:IB wr F (lu H.m.fs.length (mP H.ma 0 [])):=by
    have e:mP H.ma 0 []=H.ca.map Cc.k:=by show H.ca.map Cc.k++[]++[]=_;rw[oV,oV]
    rw[e];exact d
   have kC:IB wr D (lu H.sl.length (kV H.ma 0 [])):=b;clear d b;have l:=I.cell;unfold fB at l;go_upto_region 14 with (fail);clear l
   go_loopw [52] (fun i wr => ∃(p:Nat),p<=H.sp.length/\i = .int .i64 p/\Below w.heap.size w wr/\aG wr w.heap.size (fB H) 45/\IB wr F (lu H.m.fs.length (mP H.ma p []))/\IB wr D (lu H.sl.length (kV H.ma p []))/\Hid (∀t∈H.ma.sp.take p,∀i∈aU t.tb,cZ H.ma t i=0)) (fun i _=>H.sp.length-(intOf i).toNat)
   case atStart=>exact⟨0,aZ _,rfl,o,I,kG,kC,ae λt ht=>by simp at ht⟩
   case round=>
    clear o I kG kC;obtain⟨p,hp,rfl,o,I,d,b,hz⟩:=hrel
    by_cases hpl:p<H.sp.length
    ·obtain⟨bs,os,P,kY,hP,R⟩:=uf (h.below o).sp.rd p hpl;have ha:=wB (h.below o) hP;have gQ:(p:Int)<(H.sp.length:Int):=by omega
     have kk:H.ma.sp[p]?=some P.sp:=by show (H.sp.map PS.sp)[p]?=_;rw[jv,hP];rfl
     have gv:(bQ P.ar).1=0:=kA.out.ar P.sp (bV kk);have kn:dA P.tb=0:=kA.out.tb P.sp (bV kk);have hG:=ae kk;have gw:=ae hP;have l:=I.cell;unfold fB at l;rw[kY] at l;clear kk hP
     go_wp2_with (refine ay _ _ rfl bs (os+p*10+2) rfl rfl _ (sN R 2 8) _ underlying74 tab_agg tab_size ?_)
     refine (yV P.tb (oh P.ts) _ ha.tb).mono ?_;rintro r w5 ⟨v5,rfl,kK,s⟩;obtain⟨a5,c5,rfl,g5,g4,_,gN⟩:=kK.rd;have gf:F<wr.heap.size/\D<wr.heap.size:=⟨aG.lt d,aG.lt b⟩;have hI:=ag o s;have bx5:=I.ext s;have hM:IB w5 F (lu H.m.fs.length (mP H.ma p (pq P.tb ((aU P.tb).take 0)))):=d.ext s;have hW:IB w5 D (lu H.sl.length (kV H.ma p (swapT P.tb ((aU P.tb).take 0)))):=b.ext s;have kr:=R.below s;have h9:=ha.below s;have k1:=ae gf;clear l o I d b R ha s gN;have k5:=ae (Ro P.tb);have gO:=vG P.tb;go_upto_region 18 with (fail)
     go_loopw [65] (fun i wr' => ∃(j:Nat),j<=(aU P.tb).length/\i = .int .i64 j/\Below w.heap.size w wr'/\aG wr' w.heap.size (fB H) 45/\IB wr' F (lu H.m.fs.length (mP H.ma p (pq P.tb ((aU P.tb).take j))))/\IB wr' D (lu H.sl.length (kV H.ma p (swapT P.tb ((aU P.tb).take j))))/\Own wr' wr.heap.size 3 1 (.slice a5 (aU P.tb).length c5) (aU P.tb).length ((aU P.tb).map fZ)/\dZ wr' (some ⟨bs,os+p*10,none⟩) (sV P)/\P.good wr'/\Hid (∀i∈(aU P.tb).take j,cZ H.ma P.sp i=0)) (fun i _=>(aU P.tb).length-(intOf i).toNat)
     case atStart=>exact⟨0,aZ _,rfl,hI,bx5,hM,hW,kK,kr,h9,ae λi J=>by simp at J⟩
     case round=>
      clear hI bx5 hM hW kK kr h9;obtain⟨j,hj,rfl,o,I,d,b,ho,R,ha,h6⟩:=hrel;obtain⟨gl,g9⟩:=k1.out
      by_cases hjl:j<(aU P.tb).length
      ·have gT:(j:Int)<((aU P.tb).length:Int):=by omega
       obtain⟨_,_,e9,_,_,_,k4⟩:=ho.rd;cases e9;have kL:(aU P.tb)[j]?=some (aU P.tb)[j]:=aH hjl;have gR:=k5.out _ (eO hjl);have ga:(dJ P.tb (aU P.tb)[j]).k≠0:=(qf.1 (eO hjl)).2;obtain⟨bp,op,k6,gU⟩:=kD k4 j hjl;generalize hN:(aU P.tb)[j]=n at *
       have h7:Hid ((aU P.tb).take (j+1)=(aU P.tb).take j++[n]):=ae (take_at kL);have gb:=ae kL;have ks:=ae k6;have ku:=(bN _).1 (sK kn n);rw[k6];clear kL hN k4
       go_wp2_with fail
       refine (NL H P n w.heap.size bs (os+p*10) _ I (h.below o) R ha gv kn gR).mono ?_;rintro r w6 ⟨rfl,U⟩;have q:=ag o U;have G:=I.ext U;have z:=aG.ext d U;have hc:=aG.ext b U;have k9:=ho.below U;have kc:=R.below U;have hl:=ha.below U;clear o I d b ho R ha U gU
       by_cases hE:cZ H.ma P.sp n=0
       rotate_left
       ·have Z:Hid (jQ H.ma=cZ H.ma P.sp n):=ae (by have:=Nq hG.out gb.out hz.out h6.out hE;rw[kH.out,this,if_pos hE]);generalize cZ H.ma P.sp n=E at *
        go_wp2;go_ret;rw[Z.out];exact⟨rfl,q⟩
       have gg:=Rx hE;have hO:Hid (∀i∈(aU P.tb).take (j+1),cZ H.ma P.sp i=0):=ae λi J=>by
        rw[h7.out] at J;rcases gP.1 J with J|J
        ·exact h6.out i J
        ·rw[bC.1 J];exact hE
       rw[hE];clear h6 hE
       go_wp2_with (refine ay _ _ rfl bs (os+p*10+2) rfl rfl _ (sN kc 2 8) _ underlying74 tab_agg tab_size ?_)
       refine (AB P.tb (oh P.ts) n _ hl.tb).mono ?_;rintro r w7 ⟨rfl,hU⟩;have h4:((dJ P.tb n).k=2->(dJ P.tb n).n<H.sl.length)/\((dJ P.tb n).k≠2->(dJ P.tb n).n<H.m.fs.length):=gg;have k7:pq P.tb ((aU P.tb).take (j+1))=pq P.tb ((aU P.tb).take j)++(if (dJ P.tb n).k=1 then [(dJ P.tb n).n] else []):=by rw[h7.out,Pd]
       have k3:swapT P.tb ((aU P.tb).take (j+1))=swapT P.tb ((aU P.tb).take j)++(if (dJ P.tb n).k=1 then [] else [(dJ P.tb n).n]):=by rw[h7.out,Qw]
       have qe:=QR H.ma p (pq P.tb ((aU P.tb).take j));have g7:=BU P.tb ((aU P.tb).take j);have qd:=MZ H.ma p (swapT P.tb ((aU P.tb).take j));have g6:=GQ P.tb ((aU P.tb).take j);have qc:((aU P.tb).take j).length<=64:=by rw[iB];omega
       have qb:H.ma.ca.length=H.ca.length:=rfl;have qa:H.ma.sp.length=H.sp.length:=ul H;generalize dJ P.tb n=e at *
       generalize pq P.tb ((aU P.tb).take j)=L1 at *
       generalize swapT P.tb ((aU P.tb).take j)=L2 at *
       have kt:=ae k7;have ko:=ae k3;clear gg k7 k3;have hg:=ag q hU;have S:=G.ext hU;have hD:=aG.ext z hU;have hB:=aG.ext hc hU;have k8:=k9.below hU;have kq:=kc.below hU;have gq:=hl.below hU;clear q G z hc k9 kc hl hU
       go_wp2_with (refine aL rfl _ _ _ rfl (jC e) rfl rfl rfl entry_size (by simp[jC,Value.oneCell']) ?_)
       intro w8 hT ex;have hH:=ag hg hT;have bx8:=S.ext hT;have hL:IB w8 F _:=aG.ext hD hT;have hJ:IB w8 D _:=aG.ext hB hT;have h8:=k8.below hT;have kp:=kq.below hT;have gp:=gq.below hT;clear hg S hD hB k8 kq gq hT;have hZ:=ex.cell;unfold jC at hZ
       by_cases O:e.k=1
       ·obtain⟨K,hK⟩:∃K:Nat,e.n=K:=⟨e.n.toNat,by omega⟩;have hy:K<H.m.fs.length:=by have:=h4.2 (by omega);omega
        have hr:=kt.out;have hm:=ko.out;rw[if_pos O,hK] at hr;rw[if_pos O,oV] at hm;rw[O,hK] at hZ;have kR:=hL.cell (oC H.m.fs.length (mP H.ma p L1) K hy);have kv:=QG kx.out p L1 K;have ka:IntKind.i64.wrap ((cnt (mP H.ma p L1) K:Int)+1)=(cnt (mP H.ma p L1) K:Int)+1:=bG _ (by omega);have gy:(K:Int)<(H.m.fs.length:Int):=by omega
        have kd:=ae hr;have kb:=ae hm;clear hr hm h4 O ga ku hK
        go_wp2_with (refine aB rfl _ _ _ rfl F K _ [.int .i64 ((cnt (mP H.ma p L1) K:Int)+1)] rfl rfl rfl _ _ hL (by simp[nI];omega) int_one (λu hu=>by cases bC.1 hu;rfl) ?_)
        intro w9 kg hs;rw[IB.set (by rw[nI];exact hy),Fp _ _ _ hy,<-MP,<-kd.out] at kg;rw[<-kb.out] at hJ;have hQ:=hH.grown hs hH.size (λk hk=>by cases hk;exact k2);have bx9:=bx8.grown hs (λe=>gu (aM e).symm);have gA:IB w9 D _:=aG.grown hJ hs (λe=>kN (aM e));have hY:FD w9 H:=h.below hQ;obtain⟨bs',os',P',hV,h0,hX⟩:=uf hY.sp.rd p hpl;have kZ:P' = P:=by have h2:H.ma.sp[p]?=some P.sp:=hG.out;rw[gw.out] at h0;exact (aM h0).symm
        subst kZ;rw[kY] at hV;cases hV;have ke:=hY.ps P' (bV h0);have kJ:=h8.grown hs (λg hv e=>by have:=h8.ge g hv;have e2:=aM e;omega);clear hH bx8 hJ hL hZ ex hs ka kR h8 kp gp hY;go_wp2;go_roundw
        case rel=>exact⟨j+1,by omega,by go_num,hQ,bx9,kg,gA,by rw[<-ks.out];exact kJ,hX,ke,hO⟩
        case measure=>simp[intOf];omega
       obtain⟨K,hK⟩:∃K:Nat,e.n=K:=⟨e.n.toNat,by omega⟩;have kQ:e.k=2:=by omega
       have hy:K<H.sl.length:=by have:=h4.1 kQ;omega
       have hr:=kt.out;have hm:=ko.out;rw[if_neg O,oV] at hr;rw[if_neg O,hK] at hm;rw[kQ,hK] at hZ;have kR:=hJ.cell (oC H.sl.length (kV H.ma p L2) K hy);have kv:=Jc (kV H.ma p L2) K;have ka:IntKind.i64.wrap ((cnt (kV H.ma p L2) K:Int)+1)=(cnt (kV H.ma p L2) K:Int)+1:=bG _ (by omega);have gy:(K:Int)<(H.sl.length:Int):=by omega
       have kd:=ae hr;have kb:=ae hm;clear hr hm h4 O kQ ga ku hK
       go_wp2_with (refine aB rfl _ _ _ rfl D K _ [.int .i64 ((cnt (kV H.ma p L2) K:Int)+1)] rfl rfl rfl _ _ hJ (by simp[nI];omega) int_one (λu hu=>by cases bC.1 hu;rfl) ?_)
       intro w9 kg hs;rw[IB.set (by rw[nI];exact hy),Fp _ _ _ hy,<-KF,<-kb.out] at kg;rw[<-kd.out] at hL;have hQ:=hH.grown hs hH.size (λk hk=>by cases hk;exact gJ);have bx9:=bx8.grown hs (λe=>gX (aM e).symm);have gC:IB w9 F _:=aG.grown hL hs (λe=>kN (aM e).symm);have hY:FD w9 H:=h.below hQ;obtain⟨bs',os',P',hV,h0,hX⟩:=uf hY.sp.rd p hpl;have kZ:P' = P:=by have h2:H.ma.sp[p]?=some P.sp:=hG.out;rw[gw.out] at h0;exact (aM h0).symm
       subst kZ;rw[kY] at hV;cases hV;have ke:=hY.ps P' (bV h0);have kJ:=h8.grown hs (λg hv e=>by have:=h8.ge g hv;have e2:=aM e;omega);clear hH bx8 hJ hL hZ ex hs ka kR h8 kp gp hY;go_wp2;go_roundw
       case rel=>exact⟨j+1,by omega,by go_num,hQ,bx9,gC,kg,by rw[<-ks.out];exact kJ,hX,ke,hO⟩
       case measure=>simp[intOf];omega
      have gT:¬(j:Int)<((aU P.tb).length:Int):=by omega
      rw[ji (by omega)] at d b h6;have gD:IB wr F (lu H.m.fs.length (mP H.ma (p+1) [])):=by rw[<-NC hG.out];exact d
      have gB:IB wr D (lu H.sl.length (kV H.ma (p+1) [])):=by rw[<-KC hG.out];exact b
      have hO:Hid (∀t∈H.ma.sp.take (p+1),∀i∈aU t.tb,cZ H.ma t i=0):=ae λt ht i J=>by
       rw[take_at hG.out] at ht;rcases gP.1 ht with ht|ht
       ·exact hz.out t ht i J
       rw[bC.1 ht] at J ⊢;exact h6.out i J
      clear d b ho R ha hz h6;go_wp2;go_roundw
      case rel=>
       refine⟨_,_,_,_,_,_,.int .i64 ((p:Int)+1),⟨p+1,by omega,?_,gD,gB,hO⟩,rfl,rfl,rfl,rfl,rfl,rfl,rfl⟩;go_num
      case measure=>simp[intOf];omega
    have gQ:¬(p:Int)<(H.sp.length:Int):=by omega
    have kl:p=H.ma.sp.length:=by rw[ul];omega
    rw[kl,Qg] at d;rw[kl,LM] at b;rw[kl,yE] at hz;have h3:Hid (jQ H.ma=if countB H.ma=true then 0 else 7):=ae (by rw[kH.out,if_neg (by rw[KH hz.out];simp)]);clear hz kH kl;have l:=I.cell;unfold fB at l;go_upto_region 30 with (fail);clear l
    go_loopw [104] (fun i wr => ∃(k:Nat),k<=H.m.fs.length/\i = .int .i64 k/\Below w.heap.size w wr/\aG wr w.heap.size (fB H) 45/\IB wr F (lu H.m.fs.length (rY H.ma))/\IB wr D (lu H.sl.length (qA H.ma))/\Hid (∀i,i<k->FH H.ma i=true)) (fun i _=>H.m.fs.length-(intOf i).toNat)
    case atStart=>exact⟨0,aZ _,rfl,o,I,d,b,ae λi J=>absurd J (fe _)⟩
    case round=>
     clear o I d b;obtain⟨k,hk,rfl,o,I,d,b,hO⟩:=hrel
     by_cases A:k<H.m.fs.length
     ·obtain⟨bg,og,gZ,R⟩:=kM fJ (by decide) (h.below o).fr.rd k A;have kP:(k:Int)<(H.m.fs.length:Int):=by omega
      have k0:H.m.fs[k]=aD H.ma k:=by have:=wu (m:=H.ma) (f:=k) A;have h2:H.m.fs[k]?=some (aD H.ma k):=this;rw[aH A] at h2;exact aM h2
      rw[k0] at R;have km:Hid (FH H.ma k=(decide ((aD H.ma k).r=cnt (rY H.ma) k)&&(decide ((aD H.ma k).f<0)||H.ca.any (isK (k:Int))))):=ae rfl;generalize aD H.ma k=x at *
      rw[gZ];clear k0;obtain⟨gi,gm⟩:∃g,g=wr.heap.size:=⟨_,rfl⟩;go_upto_region 31 with (fail);have gl:F<wr.heap.size/\D<wr.heap.size:=⟨aG.lt d,aG.lt b⟩;have gY:=I.lt;have kT:Below wr.heap.size wr ((wr.alloc (.cells #[.int .i64 0] 3)).alloc (.cells #[.int .u8 0,.int .u8 0,.int .u8 0,.int .u8 0,.int .u8 0,.int .u8 0,.int .u8 0,.int .u8 0,.int .i64 0,.bool false,.bool false,.int .i64 0,.int .i64 0] 66)):=((Below.refl _ _).alloc (az _) _).alloc (by rw[show (wr.alloc (.cells #[.int .i64 0] 3)).heap.size=wr.heap.size+1 from CZ _];omega) _;have e1:(wr.alloc (.cells #[.int .i64 0] 3)).heap.size=wr.heap.size+1:=CZ _;have gF:aG ((wr.alloc (.cells #[.int .i64 0] 3)).alloc (.cells #[.int .u8 0,.int .u8 0,.int .u8 0,.int .u8 0,.int .u8 0,.int .u8 0,.int .u8 0,.int .u8 0,.int .i64 0,.bool false,.bool false,.int .i64 0,.int .i64 0] 66)) wr.heap.size #[.int .i64 0] 3:=(aG.new wr _ _).ext ((Below.refl _ _).alloc (az _) _);have gE:aG ((wr.alloc (.cells #[.int .i64 0] 3)).alloc (.cells #[.int .u8 0,.int .u8 0,.int .u8 0,.int .u8 0,.int .u8 0,.int .u8 0,.int .u8 0,.int .u8 0,.int .i64 0,.bool false,.bool false,.int .i64 0,.int .i64 0] 66)) (wr.heap.size+1) #[.int .u8 0,.int .u8 0,.int .u8 0,.int .u8 0,.int .u8 0,.int .u8 0,.int .u8 0,.int .u8 0,.int .i64 0,.bool false,.bool false,.int .i64 0,.int .i64 0] 66:=by rw[<-e1];exact aG.new _ _ _
      go_wp2_with (first | (refine ay _ _ rfl bg (og+k*13) rfl rfl _ R _ underlying66 rfl frame_size ?_) | (refine aB rfl _ _ _ rfl wr.heap.size 0 _ [.int .i64 (k:Int)] rfl rfl rfl _ _ gF (by show 0+1<=1;decide) int_one (λu hu=>by cases bC.1 hu;rfl) ?_))
      intro w5 s h9;have kz : aG w5 wr.heap.size #[.int .i64 (k:Int)] 3:=s;have gr:=gE.grown h9 (λe=>by have:=aM e;omega);have kf:=kT.grown h9 kT.size (λk hk=>by cases hk;exact az _)
      go_wp2_with (refine gH rfl _ _ _ rfl (wr.heap.size+1) 0 (sU x) rfl rfl _ _ gr (by show 0+13<=13;decide) frame_size (oL x) ?_)
      intro w6 U hl;have M:aG w6 (wr.heap.size+1) (sU x) 66:=by have e2:=gV (#[.int .u8 0,.int .u8 0,.int .u8 0,.int .u8 0,.int .u8 0,.int .u8 0,.int .u8 0,.int .u8 0,.int .i64 0,.bool false,.bool false,.int .i64 0,.int .i64 0]) (sU x) rfl;rw[<-e2];exact U
      have N:aG w6 wr.heap.size #[.int .i64 (k:Int)] 3:=kz.grown hl (λe=>by have:=aM e;omega);have hS:=kf.grown hl kf.size (λk hk=>by cases hk;omega);have q:=ag o hS;have G:=I.ext hS;have z:IB w6 F _:=aG.ext d hS;have hc:IB w6 D _:=aG.ext b hS;obtain⟨gx,gj⟩:∃g,g=wr.heap.size+1:=⟨_,rfl⟩;rw[<-gj] at M ⊢;rw[<-gm] at N ⊢;clear kT kf hS gF gE s kz gr h9 hl U R o I d b e1 gl gY gj gm;go_upto_region 32 with (fail)
      by_cases c1:x.r=cnt (rY H.ma) k
      ·by_cases c2:0<=x.f
       ·skip;refine aN 19 [_,_,_,_,_,_,_,_,_,_,_,_,_,_,.v (.func (.func 85) #[] #[.pointer (some ⟨gi,0,none⟩)]),.v (.bool (H.ca.any (isK (k:Int)))),_,_,.v (.bool (!(H.ca.any (isK (k:Int)))))] (Gf gx 8 rfl rfl (Gl M rfl rfl rfl rfl rfl (Gk rfl (Gl N (V:=.int .i64 (k:Int)) rfl rfl rfl rfl rfl (Gr (.pointer (some ⟨F,k,none⟩)) (λρ y W X hF=>(Eg rfl (aI rfl hF) (aI rfl hF) A underlying33 int_one)) rfl rfl (Gc (.int .i64 (cnt (rY H.ma) k:Int)) (λW X=>by simp[IB.cell (aG.ext z X) (oC H.m.fs.length (rY H.ma) k A)]) rfl rfl rfl rfl (Gb (.bool false) (by simp[go_sem,c1]) rfl rfl rfl rfl rfl (Gk rfl (Gf gx 11 rfl rfl (Gl M rfl rfl rfl rfl rfl (Gb (.bool true) (by simp[go_sem,c2]) rfl rfl rfl rfl rfl (Gk rfl (Gf w.heap.size 9 rfl rfl (Gl G rfl rfl rfl rfl rfl (ah ?_ (ah ?_ (Gr (.bool (!(H.ca.any (isK (k:Int))))) (λρ y W X hF=>CJ rfl (aI rfl hF)) rfl rfl (Gk rfl (Gk rfl (aF)))))))))))))))))))) (λ_=>rfl) rfl ?_
        ·intro ρ y W hw hn X hd;have g3:ρ (.tmp 15) = .pointer (some ⟨gi,0,none⟩):=(hn (.tmp 15) rfl).trans rfl;refine ak (.func (.func 85) #[] #[.pointer (some ⟨gi,0,none⟩)]) (bD 11 120 true true rfl rfl ((hw 120 11 rfl).trans (hd 11 rfl))) (by simp[execOp,go_sem,g3]) rfl
        ·intro ρ y W hw hn X hd;have gI:=hw 122 13 rfl;have g2:y 13=_:=hd 13 rfl;have gG:=hw 123 14 rfl;have g1:y 14=_:=hd 14 rfl;have EF:∀f,ρ (.func f) = .func (.func f) #[] #[]:=λf=>hn (.func f) trivial;refine aO _ _ (bD 11 120 true true rfl rfl ((hw 120 11 rfl).trans (hd 11 rfl))) (aT rfl (EF _) func84 (by kernel_rfl) (by kernel_rfl) (by simp only[bX,bR,aY,gI,g2,gG,g1,EF];rfl)) ?_;refine (Rj H.ca _ _ W ((h.below q).below X).ca.rd (by omega) gi k (N.ext X)).mono ?_;rintro r w1 ⟨rfl,kh⟩;exact⟨_,rfl,kh,rfl⟩
        intro y W7 a _;have hg:=ag q a;have S:=G.ext a;have hD:=aG.ext z a;have hB:=aG.ext hc a;clear a q G z hc N M;cases hA:H.ca.any (isK (k:Int)) with
        | true=>
         have hx:Hid (FH H.ma k=true):=ae (by rw[km.out,decide_eq_true c1,hA];simp);clear c1 c2;have ki:Hid (∀i,i<k+1->FH H.ma i=true):=ae λi J=>by
          by_cases e:i=k
          ·rw[e];exact hx.out
          ·exact hO.out i (by omega)
         go_wp2;go_roundw
         case rel=>exact⟨k+1,by omega,by go_num,hg,S,hD,hB,ki⟩
         case measure=>simp[intOf];omega
        | false=>
         have hx:Hid (FH H.ma k=false):=ae (by rw[km.out,decide_eq_true c1,hA,decide_eq_false (by omega)];rfl);clear c1 c2;have Z:Hid (jQ H.ma=7):=ae (by rw[h3.out,if_neg];intro l;exact absurd (Kc l k A) (by rw[hx.out];decide));go_wp2;go_ret;rw[Z.out];exact⟨rfl,hg⟩
       have hx:Hid (FH H.ma k=true):=ae (by rw[km.out,decide_eq_true c1,decide_eq_true (by omega)];rfl);refine aN 19 [_,_,_,_,_,_,_,_,_,_,_,_,_,_,_,_,_,_,.v (.bool false)] (Gf gx 8 rfl rfl (Gl M rfl rfl rfl rfl rfl (Gk rfl (Gl N (V:=.int .i64 (k:Int)) rfl rfl rfl rfl rfl (Gr (.pointer (some ⟨F,k,none⟩)) (λρ y W X hF=>(Eg rfl (aI rfl hF) (aI rfl hF) A underlying33 int_one)) rfl rfl (Gc (.int .i64 (cnt (rY H.ma) k:Int)) (λW X=>by simp[IB.cell (aG.ext z X) (oC H.m.fs.length (rY H.ma) k A)]) rfl rfl rfl rfl (Gb (.bool false) (by simp[go_sem,c1]) rfl rfl rfl rfl rfl (Gk rfl (Gf gx 11 rfl rfl (Gl M rfl rfl rfl rfl rfl (Gb (.bool false) (by simp[go_sem,c2]) rfl rfl rfl rfl rfl (Gk rfl (Gk rfl (Gk rfl (Gk rfl (Gk rfl (Gk rfl (Gk rfl (Gk rfl (aF)))))))))))))))))))) (λ_=>rfl) rfl ?_;intro y W7 a _;have hg:=ag q a;have S:=G.ext a;have hD:=aG.ext z a;have hB:=aG.ext hc a;clear a q G z hc N M;clear c1 c2;have ki:Hid (∀i,i<k+1->FH H.ma i=true):=ae λi J=>by
        by_cases e:i=k
        ·rw[e];exact hx.out
        ·exact hO.out i (by omega)
       go_wp2;go_roundw
       case rel=>exact⟨k+1,by omega,by go_num,hg,S,hD,hB,ki⟩
       case measure=>simp[intOf];omega
      have hx:Hid (FH H.ma k=false):=ae (by rw[km.out,decide_eq_false c1];rfl);refine aN 19 [_,_,_,_,_,_,_,_,_,_,_,_,_,_,_,_,_,_,.v (.bool true)] (Gf gx 8 rfl rfl (Gl M rfl rfl rfl rfl rfl (Gk rfl (Gl N (V:=.int .i64 (k:Int)) rfl rfl rfl rfl rfl (Gr (.pointer (some ⟨F,k,none⟩)) (λρ y W X hF=>(Eg rfl (aI rfl hF) (aI rfl hF) A underlying33 int_one)) rfl rfl (Gc (.int .i64 (cnt (rY H.ma) k:Int)) (λW X=>by simp[IB.cell (aG.ext z X) (oC H.m.fs.length (rY H.ma) k A)]) rfl rfl rfl rfl (Gb (.bool true) (by simp[go_sem,c1]) rfl rfl rfl rfl rfl (Gk rfl (Gk rfl (Gk rfl (Gk rfl (Gk rfl (Gk rfl (Gk rfl (Gk rfl (Gk rfl (Gk rfl (Gk rfl (Gk rfl (aF)))))))))))))))))))) (λ_=>rfl) rfl ?_;intro y W7 a _;have hg:=ag q a;have S:=G.ext a;have hD:=aG.ext z a;have hB:=aG.ext hc a;clear a q G z hc N M;clear c1;have Z:Hid (jQ H.ma=7):=ae (by rw[h3.out,if_neg];intro l;exact absurd (Kc l k A) (by rw[hx.out];decide));go_wp2;go_ret;rw[Z.out];exact⟨rfl,hg⟩
     have kP:¬(k:Int)<(H.m.fs.length:Int):=by omega
     have gM:=(h.below o).sl;have gz:dZ wr (some ⟨D,0,none⟩) ((lu H.sl.length (qA H.ma)).map fZ):=λi u J=>⟨D,0,rfl,by rw[dV,aG.cell b];simpa using J⟩;have l:=I.cell;unfold fB at l;have kO:=ae (nI H.sl.length (qA H.ma));have Z:Hid (jQ H.ma=if H.sl=lu H.sl.length (qA H.ma) then 0 else 7):=ae (by
      rw[h3.out,KL,eZ.2 (λi J=>hO.out i (by have:=eG.1 J;have e:H.ma.m.fs.length=H.m.fs.length:=rfl;omega)),lM];show (if decide (H.sl=lu H.sl.length (qA H.ma))=true then (0:Int) else 7)=_
      by_cases e:H.sl=lu H.sl.length (qA H.ma)
      ·rw[if_pos e,if_pos (decide_eq_true e)]
      ·rw[if_neg e,if_neg (by simp[e])])
     have gK:=n2;generalize hC:lu H.sl.length (qA H.ma)=C at *
     clear hO h3 hC
     go_wp2_with fail
     rw[show (Value.slice (some ⟨D,0,none⟩) H.sl.length H.sl.length) = .slice (some ⟨D,0,none⟩) C.length H.sl.length from by rw[kO.out]];refine (KO H.sl C H.asl (some ⟨D,0,none⟩) H.csl H.sl.length _ gM.rd gz (by omega) (by rw[kO.out];omega)).mono ?_;rintro r w5 ⟨rfl,s⟩
     by_cases e:H.sl=C
     ·rw[show (H.sl==C)=true from by rw[beq_iff_eq];exact e];have kI:Hid (jQ H.ma=0):=ae (by rw[Z.out,if_pos e]);clear e l;go_wp2;go_ret;rw[kI.out];exact⟨rfl,ag o s⟩
     rw[show (H.sl==C)=false from by rw[beq_eq_false_iff_ne];exact e];have kI:Hid (jQ H.ma=7):=ae (by rw[Z.out,if_neg e]);clear e l;go_wp2;go_ret;rw[kI.out];exact⟨rfl,ag o s⟩
end Go.Proofs.YthihaopabbpalaaGreat
namespace Pw
open Go Go.RowKit
variable {P:Program} {Q:Exit -> Act -> World -> Prop} {a0:Act} {i id:Nat} {o:Oper} {ops:Array Oper} {v:Value} {w w0:World}
theorem wp_mono' {a:Act} {K K' : Act->World->Prop} (h:∀v D w,K (Act.put { a with defers:=D } o.dst v) w->K' (Act.put { a with defers:=D } o.dst v) w)
 (d:o.wp P a w K Q):o.wp P a w K' Q:=by
 unfold Oper.wp at *
 generalize (execOp a.eval o).run P w=r at *
 cases r with
 | ok n w'=>
  cases n<;>simp only[Oper.upon] at d ⊢ <;>
   first
    | exact h _ a.defers _ d
    | exact h _ _ _ d
    | exact xQ d (λe y u=>by cases e<;>first | exact h _ a.defers _ u | exact u)
    | exact Rows.mono d (λ_ _ u=>h _ a.defers _ u)
 | halt x w'=>cases x<;>simp only[Oper.upon] at d ⊢<;>exact d
def Ct (v:Value) (o:Oper):Oper:={ o with op:=.move (.const v) }
def freed (ops:Array Oper) (p:Nat) (v:Value):Array Oper:=ops.modify p (Ct v)
theorem BP (ops:Array Oper) (p:Nat) (v:Value) (i:Nat):(freed ops p v)[i]?=if p=i then (ops[i]?).map (Ct v) else ops[i]?:=by
 unfold freed;rw[Array.getElem?_modify]
theorem Ea (ops:Array Oper) (p:Nat) (v:Value):(freed ops p v).size=ops.size:=by unfold freed;simp
theorem Ce (ops:Array Oper) (p:Nat) (v:Value) (d:Array Bool):Region.ready .any (freed ops p v) d=Region.ready .any ops d:=by
 unfold Region.ready;rw[Ea];apply List.filter_congr;intro i _;congr 1;rw[BP]
 by_cases e:p=i
 ·rw[if_pos e];cases ops[i]?<;>rfl
 ·rw[if_neg e]
theorem FV (ops:Array Oper) (p:Nat) (v:Value) (ts:Array Value):yielded (freed ops p v) ts=yielded ops ts:=by
 funext g;unfold yielded;rw[BP]
 by_cases e:p=g
 ·rw[if_pos e];cases ops[g]?<;>rfl
 ·rw[if_neg e]
def Nk (ops:Array Oper) (p d:Nat):Bool:=
 (match ops[p]? with
  | some o=>(match o.op with
   | .move (.tmp t)=>decide (t=d)&&o.guard.isNone&&decide (o.dst≠some d)
   | _=>false)
  | none=>false) &&
 (List.range ops.size).all λi=>match ops[i]? with
  | none=>true
  | some o=>decide (o.dst≠some d)||o.after.toList.any λe=>decide (e.on=p)&&Region.binds .any e
theorem Li {a:Act} {D:List Deferred} {u:Option Tmp} {d:Nat} (h:u≠some d):(Act.put { a with defers:=D } u v).eval (.tmp d)=a.eval (.tmp d):=by
 cases u with
 | none=>rfl
 | some t=>
  have y:t≠d:=λe=>h (by rw[e]);simp[Act.put,Act.eval,AA,y]
theorem Mr {d:Array Bool} (z:i∈Region.ready .any ops d) (y:ops[i]?=some o):d.getD i false=false/\∀e∈o.after,Region.binds .any e=true->d.getD e.on false=true:=by
 obtain⟨u,A,a,h2⟩:=mem_ready.1 z;rw[y] at a;cases a;refine⟨?_,h2⟩;rw[cO] at u ⊢;cases h:d[i]? with
 | none=>rfl
 | some b=>rw[h] at u;exact u
theorem zz {P:Program} {ops:Array Oper} {Q:Exit->Act->World->Prop} {p d:Nat} {v:Value} (E:Nk ops p d=true):∀(y:Nat) (u:Array Bool) (a:Act) (w:World),(u.getD p false=false->a.eval (.tmp d)=v)->wpAny P .any (freed ops p v) Q y u a w->wpAny P .any ops Q y u a w
 | 0,u,a,w,hI,h=>by unfold wpAny at h ⊢;rw[Ce] at h;exact h
 | y+1,u,a,w,hI,h=>by
  unfold wpAny at h ⊢;rw[Ce] at h;refine⟨h.1,λi Z => ?_⟩;have A:=h.2 i Z;have J:(u.setIfInBounds i true).getD p false=false->u.getD p false=false:=λG=>by
   cases hl:u.getD p false with
   | false=>rfl
   | true=>
    exfalso
    by_cases hs:i<u.size
    ·rw[xS hs p hl] at G; cases G
    have e:u.setIfInBounds i true=u:=by rw[Array.setIfInBounds_eq_of_size_le (by omega)]
    rw[e,hl] at G; cases G
  have K:=E;unfold Nk at K;rw[dU] at K;obtain⟨I,S⟩:=K;unfold wpOp at A ⊢;rw[BP,FV] at A;cases ho:ops[i]? with
  | none=>
   rw[ho] at A;have V : wpAny P .any (freed ops p v) Q y (u.setIfInBounds i true) a w:=by
    by_cases e:p=i
    ·rw[if_pos e] at A;exact A
    ·rw[if_neg e] at A;exact A
   exact zz E y _ a w (λG=>hI (J G)) V
  | some o=>
   rw[ho] at A;have M:i<ops.size:=(iU.1 ho).1;have F:=Mr Z ho
   by_cases e:p=i
   ·subst e;rw[if_pos rfl] at A;simp only[ru] at A;rw[ho] at I;simp only at I;cases hop:o.op with
    | move x=>
     rw[hop] at I;cases x with
     | tmp t=>
      simp only[dU,decide_eq_true_eq] at I;obtain⟨⟨rfl,hg⟩,R⟩:=I;have O:a.eval (.tmp t)=v:=hI F.1;have N:execOp a.eval (Ct v o)=execOp a.eval o:=by unfold execOp Ct;simp only[hop];rw[O];rfl
      have C:∀(v' : Value) (D:List Deferred) (w:World),wpAny P .any (freed ops p v) Q y (u.setIfInBounds p true) (Act.put { a with defers:=D } o.dst v') w->wpAny P .any ops Q y (u.setIfInBounds p true) (Act.put { a with defers:=D } o.dst v') w:=
       λv' D w W=>zz E y _ _ w (λ_=>by rw[Li R];exact O) W
      simp only;have U:Region.wanted (Ct v o) (yielded ops a.tmps)=Region.wanted o (yielded ops a.tmps):=rfl;rw[U] at A;split
      ·rename_i z;rw[if_pos z] at A;rcases A with A|A
       ·refine .inl (wp_mono' C ?_);unfold Oper.wp at A ⊢;rw[<-N];exact A
       refine .inr ⟨?_,A.2⟩;have:=A.1;unfold Oper.asks at this ⊢;rw[<-N];exact this
      rename_i z;rw[if_neg z] at A;exact C undef a.defers w A
     | _=>cases I
    | _=>rw[hop] at I;cases I
   rw[if_neg e] at A;simp only at A ⊢;have L:=eZ.1 S i (eG.2 M);rw[ho] at L;simp only[uN,decide_eq_true_eq] at L;have C:∀(v' : Value) (D:List Deferred) (w:World),wpAny P .any (freed ops p v) Q y (u.setIfInBounds i true) (Act.put { a with defers:=D } o.dst v') w->wpAny P .any ops Q y (u.setIfInBounds i true) (Act.put { a with defers:=D } o.dst v') w:=by
    intro v' D w W;refine zz E y _ _ w (λG => ?_) W;rcases L with h2|h2
    ·rw[Li h2];exact hI (J G)
    rw[jK] at h2;obtain⟨e',X,Y⟩:=h2;rw[dU,decide_eq_true_eq] at Y;have:=F.2 e' (nN.1 X) Y.2;rw[Y.1] at this;rw[J G] at this;cases this
   split
   ·rename_i z;rw[if_pos z] at A;exact A.imp (wp_mono' C) id
   rename_i z;rw[if_neg z] at A;exact C undef a.defers w A
def freedL:List Oper->Nat->Value->List Oper
 | [],_,_=>[]
 | o::r,0,v=>Ct v o::r
 | o::r,k+1,v=>o::freedL r k v
theorem El (v:Value):∀(l:List Oper) (p:Nat),l.modify p (Ct v)=freedL l p v
 | [],p=>by cases p<;>rfl
 | o::r,0=>rfl
 | o::r,k+1=>by rw[List.modify_succ_cons,El v r k];rfl
theorem Pz (l:List Oper) (p:Nat) (v:Value):freed ⟨l⟩ p v=⟨freedL l p v⟩:=by
 unfold freed;rw[<-El];simp
theorem Un {l:List Oper} (p d:Nat) (u:Value) (z:P.follows .mixedOrders=true) (A:Nk ⟨l⟩ p d=true) (y:a0.eval (.tmp d)=u)
 (h:∀ops:Array Oper,ops=(freedL l p u).toArray->wpAny P .any ops Q ops.size (Array.replicate ops.size false) a0 { w0 with drawn:=w0.drawn+1 }) :
  (Code.region id ⟨l⟩ true).wp P Q a0 w0:=by
 have h:=h _ rfl;rw[show (freedL l p u).toArray=freed ⟨l⟩ p u from (Pz l p u).symm,Ea] at h;exact wp_region_any z (zz A _ _ _ _ (λ_=>y) h)
end Pw
namespace Go.Proofs.YthihaopabbpalaaGreat
open _root_.Go.Proofs.Tryz
open Go.RowKit Go.Maps Pw
variable {B B' b c ct f g i p q s sz:Nat} {H:MH} {T:TypeId} {a:Option Addr} {bl:List Page} {cs cur:Array Value} {fs:List Fi} {m m':Ma} {n:Int} {ps:List PF} {v:Value} {w w' w0 w1 w2:World} {wr:Bool} {xs ys:List Value}
theorem IM (l:List Cc) (a:Option Addr) (c:Nat) (w:World) (A:l.length<=c) (y:a=none->c=0) (z:dZ w a (l.flatMap iK)) (F:l.length*24<=140737488355328) :
  Calls Tryz.prog 61 #[.slice a l.length c] w λe w' => ∃v,e = .returned v/\Own w' w.heap.size 122 3 v l.length (l.flatMap iK)/\Below w.heap.size w w':=by
 cases a with
 | none=>
  have G:=y rfl;have D:l=[]:=kS (by omega);subst D;subst G;have C:=λW=>mW (P:=Tryz.prog) W 42 _ none 0 0 0 0 underlying42;go_enter func61,ntmps61;go_wp2;go_ret;exact⟨_,rfl,by simpa using Own.nil _ _ _ _,Below.refl _ _⟩
 | some ad=>
  have C:=λW=>mW (P:=Tryz.prog) W 42 _ (some ad) l.length c 0 0 underlying42;go_enter func61,ntmps61
  go_wp2_with (at_builtin;go_must (refine fK rfl _ _ 42 rfl w.heap.size 122 (.agg #[.int .i64 0,.int .i64 0,.int .i64 0]) 3 24 underlying42 cached_info rfl (by decide) _ 0 [] rfl ?own (some ad) l.length c (l.flatMap iK) rfl (λh=>(by cases h)) A (jy l) ?rd (yz l) (by unfold maxLen;omega) (by simpa using F) ?bb ?k))
  case own=>exact⟨rfl,.inr ⟨w.heap.size,0,0,#[],rfl,az _,aG.new _ _ _,az _,aZ _,by simp,λj u h=>by simp at h⟩⟩
  case rd=>exact z.below ((Below.refl _ _).alloc (az _) _)
  case bb=>exact gK _ _
  intro v w1 b d;go_wp2;go_ret;exact⟨v,rfl,by simpa using b,((Below.refl _ _).alloc (az _) _).grown d (gK _ _) (λk E=>by cases E;exact az _)⟩
theorem VH.fsz (h:VH H.ma):Ws H.fi:=by
 have u:(H.fi.map PF.fi).length<=1000:=h.st.1;rw[fH] at u;refine⟨by omega,λp d => ?_⟩;have:=h.st.2 p.fi (ja.2 ⟨p,d,rfl⟩);have e:p.fi.b.length=p.l.length:=rfl;omega
theorem VH.spz (h:VH H.ma) {p:PS} (d:p∈H.sp):p.ar.length<=1000/\FX p.tb:=by
 obtain⟨y,h2⟩:=h.sp.2 p.sp (ja.2 ⟨p,d,rfl⟩);exact⟨y,λk u=>by have:=h2 k u;have e:p.sp.tb[k].length=p.tb[k].length:=rfl;omega⟩
def wF (w:World) (B:Nat) (p:PS) (s:Sp):Prop:=p.sp=s/\Own w B 94 7 (.slice p.aa p.ar.length p.ac) p.ar.length (p.ar.flatMap mO)/\rJ w B (oh p.ts) p.tb
theorem wF.below {p:PS} {s:Sp} (h:wF w B p s) (d:Below w.heap.size w w'):wF w' B p s:=⟨h.1,h.2.1.below d,h.2.2.below d⟩
def Wh (B:Nat) (s:Sp):mQ:=⟨λv w => ∃p,v = .agg (yM p)/\wF w B p s,λ_ _ _ hb ⟨p,h1,h2⟩=>⟨p,h1,h2.below hb⟩⟩
def Xn (B:Nat) (s:Sp):mQ:=⟨λv w => ∃g p,v = .slice (some ⟨g,0,none⟩) 1 1/\dZ w (some ⟨g,0,none⟩) (sV p)/\wF w B p s,λ_ _ _ hb ⟨g,p,h1,h2,h3⟩=>⟨g,p,h1,h2.below hb,h3.below hb⟩⟩
theorem RX {p:PS} {s:Sp} (h:wF w B p s):∀u∈sV p,u.oneCell' = true:=by
 have y:=h.2.2.rd.one;rw[<-mE,eZ] at y;intro u d;simp only[sV,yM,dw,gN,or_false] at d;simp only[oh,dw,gN,or_false] at y;rcases d with rfl|rfl|d
 ·rfl
 ·rfl
 ·exact y u d
theorem caO_size:(Tryz.prog.info? 42).map (·.size)=some 1:=by kernel_rfl
theorem Oj {n:Nat} (h:Own w B 76 10 (.slice a n c) n xs) (d:w.grownBy w' (Value.slice a n c).ownBlock) :
  w.grownBy w' none\/∃g cs,aG w g cs 76/\B<=g/\w.grownBy w' (some g):=by
 cases hr:(Value.slice a n c).ownBlock with
 | none=>rw[hr] at d;exact .inl d
 | some g=>
  rw[hr] at d;obtain⟨cs,u⟩:=mK h g hr;exact .inr ⟨g,cs,u,h.ge g hr,d⟩
theorem jl {n m:Nat} (u:Own w B 76 10 (.slice a n c) n xs) (y:w.grownBy w' (Value.slice a n c).ownBlock) (h:Own w B' T sz v m ys) (A:T≠76):Own w' B' T sz v m ys:=by
 rcases Oj u y with d|⟨g,cs,z,_,d⟩
 ·exact lH h d
 ·exact ax h z (λe=>A e.symm) d
theorem zQ {n:Nat} (u:Own w B 76 10 (.slice a n c) n xs) (y:w.grownBy w' (Value.slice a n c).ownBlock) (h:aG w b cs T) (A:T≠76):aG w' b cs T:=by
 rcases Oj u y with d|⟨g,C,z,_,d⟩
 ·exact h.grown d (λe=>by cases e)
 ·exact h.grown d (λe=>lX h z A (aM e).symm)
theorem Uj {n:Nat} (d:Own w B 76 10 (.slice a n c) n xs) (u:w.grownBy w' (Value.slice a n c).ownBlock) (h:qC w B' v ps):qC w' B' v ps:=
 ⟨jl d u h.own (by decide),λi p y=>jl d u (h.each i p y) (by decide),h.apart⟩
theorem CU {n:Nat} {t:Tb} (d:Own w B 76 10 (.slice a n c) n xs) (y:w.grownBy w' (Value.slice a n c).ownBlock) (h:rJ w B' cs t):rJ w' B' cs t:=
 ⟨h.sz,λk u=>by obtain⟨v,z,h2⟩:=h.own k u;exact⟨v,z,jl d y h2 (by decide)⟩,h.apart⟩
theorem mach_size:(Tryz.prog.info? 45).map (·.size)=some 11:=by kernel_rfl
theorem slsp_size:(Tryz.prog.info? 43).map (·.size)=some 1:=by kernel_rfl
def yO (f s b:Int):Ma:=if (0<=f/\f<=40)/\(0<=s/\s<=60)/\(0<=b/\b<=80) then ⟨MM f,PV s,Fz s,Fz b,⟨[],b⟩,[],[⟨true,[],zTb⟩]⟩ else zMa
def noH:MH:=⟨none,0,noM,none,0,[],none,0,none,0,⟨[],[]⟩,none,0,none,0,⟨[],[]⟩,none,0,[],0,none,0,[],none,0,[]⟩
def nTs:Vector Value 8:=⟨#[.slice none 0 0,.slice none 0 0,.slice none 0 0,.slice none 0 0,.slice none 0 0,.slice none 0 0,.slice none 0 0,.slice none 0 0],rfl⟩
structure Fb (ct:Nat) (bl:List Page) (q:List (Int × Page)) (fs:List Fi) (x:List Int):Prop where
 cl:bl.length=ct/\ct<=80
 ok:∀f∈fs,EP ct f
 nd:(lm (fs.flatMap Fi.b++x)).Nodup
 xb:∀b∈x,-1<=b/\b<ct
 tr:∀b:Int,0<=b->b<ct->b∈fs.flatMap Fi.b++x\/bl.getD b.toNat zPg=zPg
 qb:∀p∈q,p.1∈fs.flatMap Fi.b++x/\0<=p.1/\p.1<ct
 ql:q.length<=12*fs.length+x.length
theorem Fb.start (h:ct<=80):Fb ct (List.replicate ct zPg) [] [] [] where
 cl:=⟨by simp,h⟩
 ok:=λf u=>by cases u
 nd:=by simp[lm]
 xb:=λb y=>by cases y
 tr:=λb A z => .inr (by rw[aX,pV,if_pos (by omega)];rfl)
 qb:=λp d=>by cases d
 ql:=by simp
theorem Fb.none {q:List (Int × Page)} {x:List Int} (h:Fb ct bl q fs x):Fb ct bl q fs (x++[-1]) where
 cl:=h.cl
 ok:=h.ok
 nd:=by
  have e:lm (fs.flatMap Fi.b++(x++[-1]))=lm (fs.flatMap Fi.b++x):=by rw[<-jG,vo];simp[lm]
  rw[e];exact h.nd
 xb:=λb d=>by
  rcases gP.1 d with d|d
  ·exact h.xb b d
  ·rw[bC.1 d];omega
 tr:=λb z y=>(h.tr b z y).imp (λd=>by rw[<-jG];exact pO _ d) id
 qb:=λp u=>⟨by rw[<-jG];exact pO _ (h.qb p u).1,(h.qb p u).2⟩
 ql:=by have:=h.ql;simp;omega
theorem Fb.some {q:List (Int × Page)} {x:List Int} (h:Fb ct bl q fs x) {n:Nat} (D:n<ct) (y:¬(n:Int)∈fs.flatMap Fi.b++x) (P:Page):Fb ct (bl.set n P) q fs (x++[(n:Int)]) where
 cl:=⟨by rw[bK];exact h.cl.1,h.cl.2⟩
 ok:=h.ok
 nd:=by
  have e:lm (fs.flatMap Fi.b++(x++[(n:Int)]))=lm (fs.flatMap Fi.b++x)++[(n:Int)]:=by rw[<-jG,vo];simp[lm]
  rw[e];refine ym.2 ⟨h.nd,by simp,λa z b d e => ?_⟩;rw[bC.1 d] at e;subst e;exact y (jH.1 z).1
 xb:=λb d=>by
  rcases gP.1 d with d|d
  ·exact h.xb b d
  ·rw[bC.1 d];omega
 tr:=λb C A=>by
  by_cases e:b=(n:Int)
  ·subst e;exact .inl (by simp)
  rcases h.tr b C A with d|d
  ·exact .inl (by rw[<-jG];exact pO _ d)
  refine .inr ?_;rw[aX,um (by omega),<-aX];exact d
 qb:=λp u=>⟨by rw[<-jG];exact pO _ (h.qb p u).1,(h.qb p u).2⟩
 ql:=by have:=h.ql;simp;omega
theorem Fb.wait {q:List (Int × Page)} {x:List Int} (h:Fb ct bl q fs x) {n:Nat} (y:n<ct) (u:¬(n:Int)∈fs.flatMap Fi.b++x) (P:Page):Fb ct (bl.set n P) (q++[((n:Int),P)]) fs (x++[(n:Int)]):=
 have k:=h.some y u P
 { k with
  qb:=λp d=>by
   rcases gP.1 d with d|d
   ·exact k.qb p d
   rw[bC.1 d];exact⟨by simp,by show (0:Int)<=n;omega,by show (n:Int)<ct;omega⟩
  ql:=by have:=h.ql;simp;omega }
theorem Fb.file {q:List (Int × Page)} {x:List Int} (h:Fb ct bl q fs x) {s:Int} (A:0<=s) (z:s<=96) (u:(x.length:Int)=eY s):Fb ct bl q (fs++[⟨s,x⟩]) []:=by
 have e:(fs++[(⟨s,x⟩:Fi)]).flatMap Fi.b++[]=fs.flatMap Fi.b++x:=by simp
 refine⟨h.cl,λf d => ?_,by rw[e];exact h.nd,λb y=>(by cases y),by rw[e];exact h.tr,by rw[e];exact h.qb,?_⟩
 ·rcases gP.1 d with d|d
  ·exact h.ok f d
  ·rw[bC.1 d];exact⟨A,z,u,h.xb⟩
 have:=h.ql;have D:eY s<=12:=by unfold eY;split<;>omega
 have C:(fs++[(⟨s,x⟩:Fi)]).length=fs.length+1:=by simp
 rw[C];simp only[DL];omega
def BD (f s ct:Nat) (bl:List Page) (q:List (Int × Page)) (fs:List Fi):Ma:=⟨⟨List.replicate f frZ,0⟩,List.replicate s 0,⟨List.replicate s zPg,[]⟩,⟨bl,q⟩,⟨fs,ct⟩,[],[]⟩
theorem Fb.bd {q:List (Int × Page)} (h:Fb ct bl q fs []) (K:fs.length<=5) (M:f<=40) (z:s<=60):Bd (BD f s ct bl q fs) []:=by
 have a:∀i,i<f->aD (BD f s ct bl q fs) i=frZ:=λi A=>by unfold aD BD;rw[aX,pV,if_pos A];rfl
 have g:∀p n,(ent (BD f s ct bl q fs) p n).k=0:=λp n=>by unfold ent;rw[qp (by simp[BD])];show (dJ zTb n).k=0;rw[yc];rfl
 have G:aR ⟨fs,(ct:Int)⟩=0:=mF.2 ⟨⟨K,by show (0:Int)<=ct;omega,by show (ct:Int)<=80;have:=h.cl.2;omega⟩,h.ok,by have:=h.nd;rw[oV] at this;exact this⟩;have o:bW ⟨bl,q⟩=0:=(jL _).2 ⟨by show bl.length<=80;have:=h.cl;omega,by show q.length<=400;have:=h.ql;simp only[DL] at this;omega,λx y=>by have:=(h.qb x y).2;have e:bl.length=ct:=h.cl.1;show 0<=x.1/\x.1<(bl.length:Int);omega⟩;have j:bW ⟨List.replicate s zPg,[]⟩=0:=(jL _).2 ⟨by simp;omega,by simp,λx y=>(by cases y)⟩;have l:dF (List.replicate s (0:Int))=0:=Gm (by simp;exact z) λx y=>by rw[(CX.1 y).2];decide
 have J:bu ⟨List.replicate f frZ,0⟩=0:=(dH _).2 ⟨by simp;exact M,λx y=>by rw[(CX.1 y).2];decide,tX _,.inl rfl⟩;have d:eT (BD f s ct bl q fs) []=BD f s ct bl q fs:=rfl;have E:∀kd i,bO (BD f s ct bl q fs) kd i=0:=λ_ _=>rfl;have u:∀i,sZ (BD f s ct bl q fs) i=0:=λ_=>rfl;refine⟨⟨rfl,λt D=>(by cases D),λt D=>(by cases D)⟩,?_,?_⟩
 ·rw[d];refine⟨⟨J,l,j,o,G,by simp[BD],by have:=h.cl.1;show (bl.length:Int)=ct;omega,by simp[BD],λs z=>(by cases z),λs z=>(by cases z)⟩,⟨λb C N => ?_,λp I => ?_⟩,λp _=>⟨by rw[qp (by simp[BD])];rfl,λn=>g p n⟩,⟨λc u=>(by cases u),λc u=>(by cases u),λc u=>(by cases u),List.Pairwise.nil⟩,λp n L=>absurd (g p n) L,λi A => ?_,λi A C => ?_,λi A => ?_⟩
  ·have e:(BD f s ct bl q fs).dk.blocks.length=ct:=h.cl.1;have:=h.tr b C (by omega);rw[oV] at this;exact this
  ·have:=(h.qb p I).1;rw[oV] at this;exact this
  ·rw[a i (by have e:(BD f s ct bl q fs).m.fs.length=f:=kK;omega),E,u];rfl
  ·rw[a i (by have e:(BD f s ct bl q fs).m.fs.length=f:=kK;omega)] at C;exact absurd C (by decide)
  rw[E];have e:(BD f s ct bl q fs).sl.length=s:=kK;unfold jT;show (List.replicate s (0:Int)).getD i 0=_;rw[aX,pV,if_pos (by omega)];rfl
 rw[d];refine⟨λc u=>(by cases u),λc u=>(by cases u),λi A F => ?_⟩;rw[a i (by have e:(BD f s ct bl q fs).m.fs.length=f:=kK;omega)] at F;exact absurd F (by decide)
def tabs (m:Ma) (T:List (List En)):Nat->Ma
 | 0=>m
 | q+1=>setTb (tabs m T q) q (ic (fI T q))
theorem take_set {α:Type} {F O:List α} (u:F.length=O.length) (d:q<O.length):(F.take q++O.drop q).set q (F[q]'(by omega))=F.take (q+1)++O.drop (q+1):=by
 have h:(F.take q).length=q:=by rw[iB];omega
 rw[List.set_append,if_neg (by omega),h,qh,wK d,uF,List.take_succ_eq_append_getElem (by omega),jG];rfl
theorem NR {m:Ma} {T:List (List En)}:∀q,q<=m.sp.length->tabs m T q = { m with sp:=(eT m T).sp.take q++m.sp.drop q }
 | 0,_=>by simp[tabs]
 | q+1,h=>by
  have y:=NR (m:=m) (T:=T) q (by omega);have A:(eT m T).sp.length=m.sp.length:=lI;have D:((eT m T).sp.take q).length=q:=by rw[iB];omega
  have d:dD (tabs m T q) q=m.sp[q]'(by omega):=by rw[y];unfold dD;show ((eT m T).sp.take q++m.sp.drop q).getD q zSp=_;rw[aX,jU (by omega),D,qh,qD,iJ,aH (by omega)];rfl
  have u:(eT m T).sp[q]'(by omega) = { m.sp[q]'(by omega) with tb:=ic (fI T q) }:=by
   have z:=zS (m:=m) (T:=T) (p:=q) (by omega);have h2:dD m q=m.sp[q]'(by omega):=by unfold dD;rw[aX,aH (by omega)];rfl
   have C:dD (eT m T) q=(eT m T).sp[q]'(by omega):=by unfold dD;rw[aX,aH (by omega)];rfl
   rw[h2,C] at z;exact z
  show setTb (tabs m T q) q (ic (fI T q))=_;unfold setTb;rw[d,y,<-u];show ({ m with sp:=((eT m T).sp.take q++m.sp.drop q).set q _ }:Ma)=_;rw[take_set A (by omega)]
theorem Rv {T:List (List En)}:tabs m T m.sp.length=eT m T:=by
 rw[NR _ (az _),List.drop_length,oV,ji (by rw[lI];exact az _)];rfl
theorem TR (z:f<=40) (y:s<=60) (A:ct<=80):eT { BD f s ct (List.replicate ct zPg) [] [] with sp:=[⟨true,[],zTb⟩] } [List.replicate 64 zEn]=yO f s ct:=by
 have u:yO f s ct=⟨MM f,PV s,Fz s,Fz ct,⟨[],ct⟩,[],[⟨true,[],zTb⟩]⟩:=if_pos ⟨⟨by omega,by omega⟩,⟨by omega,by omega⟩,by omega,by omega⟩;have d:ic (List.replicate 64 zEn)=zTb:=by decide +kernel
 rw[u];unfold MM PV Fz eT BD;rw[if_pos (by omega),if_pos (by omega),if_pos (by omega),if_pos (by omega)];simp only[bA,qg,DL];have h:ic (fI [List.replicate 64 zEn] 0)=zTb:=d;show (⟨⟨List.replicate f frZ,0⟩,List.replicate s 0,⟨List.replicate s zPg,[]⟩,⟨List.replicate ct zPg,[]⟩,⟨[],ct⟩,[],[⟨true,[],ic (fI [List.replicate 64 zEn] 0)⟩]⟩:Ma)=_;rw[h]
theorem Gs (h:Below B w0 w1) (h' : Below B' w1 w2) (u:B<=B') (y:B<=w0.heap.size):Below B w0 w2:=
 ⟨h'.os.trans h.os,h'.tape.trans h.tape,h'.output.trans h.output,bi h.size h'.size,λx d=>(h'.block x (oG d u)).trans (h.block x d)⟩
theorem vT (h:Rt m):VH m:=by
 have d:=h.pt;have A:=(jL _).1 d.sw;have C:=(jL _).1 d.dk;have a:=(mr d.st).1;refine⟨by have:=((dH _).1 d.fr).1;omega,by have:=kE d.sl;omega,by omega,by omega,by omega,by omega,⟨by omega,λf z=>by have:=BI d.st f z;omega⟩,by have:=Tz h.ca d.st;omega,by have:=d.spl;omega,λs u=>⟨?_,λk y => ?_⟩⟩
 ·have:=(jM.1 (d.ar s u)).1;omega
 ·have:=pW (mD (d.tb s u) k y);omega
theorem VK {o:Nat} {P:PS} (h:dZ w (some ⟨g,o,none⟩) (sV P)):w.cell? ⟨g,o+1,none⟩=some (.slice P.aa P.ar.length P.ac):=by
 obtain⟨u,d,e',a⟩:=h 1 _ rfl;cases e';exact a
theorem Md (H:MH) (e f i:Int) (B b:Nat) (w:World) (h:lG w B b H e) (y:Rt H.ma) (u:qM H.ma.st f i) :
  Calls Tryz.prog 93 #[.pointer (some ⟨b,0,none⟩),.int .i64 f,.int .i64 i] w λr w'=>r = .returned (.int .i64 (eX ⟨H.ma,e⟩ f i).2)/\KR w B b H w' (eX ⟨H.ma,e⟩ f i).1:=by
 have z:=vT y;obtain⟨F,rfl⟩:∃F:Nat,f=F:=⟨f.toNat,by have:=u.1;omega⟩;obtain⟨I,rfl⟩:∃I:Nat,i=I:=⟨i.toNat,by have:=u.2;omega⟩;have E:F<H.fi.length:=by have:=u.1.2;have J:H.ma.st.fs.length=H.fi.length:=fH _;omega
 obtain⟨P,C⟩:∃P,H.fi[F]?=some P:=⟨_,aH E⟩;have g:aS H.ma.st F=P.fi:=kI (by show (H.fi.map PF.fi)[F]?=_;rw[jv,C];rfl);have A:=rT u;rw[g,bA] at A;have d:=zm y.pt.st u;have a:=wh y.pt.st u.1;rw[g] at d a;have j:=block_lt y.pt.st u;refine KT H e F I P _ B b w h C A ⟨a.1,by have:P.n<=96:=a.2.1;omega⟩ (by omega) (λc D=>y.ca.lt c D) (λG => ?_) (by have:=z.sp.1;rwa [ul] at this) z.ca z.fs;rw[kZ];have:=y.pt.dkl;exact⟨y.pt.dk,G,by show _<(H.ma.dk.blocks.length:Int);omega⟩
theorem TM (ps:List PF) (k:Int) (f i:Int) (a:Option Addr) (c:Nat) (w:World) (h:LZ w a c ps) (E:0<=f/\f<(ps.length:Int)) (y:(aS (cK ps k) f).n<=9223372036854775807) :
  Calls Tryz.prog 43 #[.agg (LV a ps.length c k),.int .i64 f,.int .i64 i] w λr w'=>r = .returned (.bool (qF (cK ps k) f i))/\Below w.heap.size w w':=by
 obtain⟨F,rfl⟩:∃F:Nat,f=F:=⟨f.toNat,by omega⟩;have z:F<ps.length:=by omega
 have b:aS (cK ps k) F=(ps[F]).fi:=kI (by show (ps.map PF.fi)[F]?=_;rw[jv,aH z];rfl);have C:Hid (qF (cK ps k) F i=decide (eY (ps[F]).n<=i)):=ae (by unfold qF;rw[b];rfl);rw[b] at y;unfold LV;go_enter func43,ntmps43;go_upto_region 1 with (fail);refine iC (λW=>Code.wp _ _ _ _ W) λw1 d A e => ?_;obtain⟨I,D,P,rfl,u,g,_⟩:=xH (h.below d).rd F z;rw[aH z] at u;have u:=aM u;rw[u] at C y;have G:=A.cell;have j:(F:Int)<(ps.length:Int):=by omega
 clear b u h
 go_wp2_with fail
 refine (BS P.n _ y).mono ?_;rintro r w2 ⟨rfl,rfl⟩;go_wp2;go_ret;rw[C.out];exact⟨rfl,d⟩
def FP (m:Ma) (p:Nat) (n:Int) (w:Bool):Ar:=if pI m p n w≠0 then zAr else kP m p n
theorem wX (a:Ar):(ku a).all (·.oneCell')=true:=by simp[ku,Value.oneCell']
theorem kL : (Tryz.prog.info? 94).map (·.size)=some 7:=by kernel_rfl
theorem SF (H:MH) (e n:Int) (p:Nat) (wr:Bool) (B b:Nat) (w:World) (h:lG w B b H e) (hp:p<H.sp.length) :
    Calls Tryz.prog 41 #[.pointer (some ⟨b,0,none⟩),.int .i64 p,.int .i64 n,.bool wr] w λr w'=>r = .returned (.tuple #[.agg (ku (FP H.ma p n wr)),.int .i64 (pI H.ma p n wr)])/\Below w.heap.size w w':=by
  obtain⟨P,U⟩:∃P,H.sp[p]?=some P:=⟨_,aH hp⟩;have x:=ae (sD U);have hr:(p:Int)<(H.sp.length:Int):=by omega
  go_enter func41,ntmps41;go_upto_region 1 with (fail);refine iC (λW=>Code.wp _ _ _ _ W) λw1 O K hl => ?_;have k1:=h.below O;clear h;obtain⟨g,L,s,c,y,d⟩:=k1.at U;have C:=k1.blk.cell;unfold qR at C;rw[s] at C;have t:=VK c;have I:=d.ars
  go_wp2_with fail
  refine (GU P.ar n P.aa P.ac _ I.rd (by have:=I.le;have:=I.mx;unfold maxLen at this;omega)).mono ?_;rintro r w2 ⟨rfl,i⟩;have X:=I.below i;have M:=k1.below i;have D:=K.ext i;have j:=ag O i;clear C t c y d s k1 I K O i hl
  by_cases A:gU P.ar n<0
  · have G:Hid (FP H.ma p n wr=zAr/\pI H.ma p n wr=5):=ae (by
      have E:pI H.ma p n wr=5:=by unfold pI;rw[x.out];exact if_pos A
      exact⟨by unfold FP;rw[E];exact if_pos (by decide),E⟩)
    go_wp2_with (refine aA rfl _ _ _ rfl w.heap.size (ku zAr) rfl rfl _ _ D rfl kL (wX zAr) ?_)
    intro V m o;have f:=j.grown o j.size (λk F=>by cases F;exact az _);go_wp2;rw[G.out.1,G.out.2];refine bodyPost_ret (v:=.tuple #[.agg (ku zAr),_]) (lC results41 _ _ w.heap.size _ _ _ _ rfl rfl m underlying94 rfl kL) rfl ?_;exact⟨rfl,f⟩
  obtain⟨k,F,hg,_⟩:=Dv (q:=pF n) (l:=P.ar) (by show 0<=gU P.ar n;omega);have S : gU P.ar n=k:=F;have N:Hid (kP H.ma p n=P.ar[k]):=ae (by unfold kP;rw[x.out];show P.ar.getD (gU P.ar n).toNat zAr=_;rw[S,bA,aX,aH hg];rfl);obtain⟨ba,oa,Y,u⟩:=kM rG (by decide) X.rd k hg;have z:Hid (pI H.ma p n wr=if (wr=true/\(P.ar[k]).wr=false)\/(wr=false/\(P.ar[k]).rd=false) then 8 else 0):=ae (by
    have E:¬gU (dD H.ma p).ar n<0:=by rw[x.out];exact A
    unfold pI;rw[if_neg E,N.out])
  generalize P.ar[k]=a at *
  obtain⟨g,L,s,c,y,d⟩:=M.at U;have C:=M.blk.cell;unfold qR at C;rw[s] at C;have t:=VK c;rw[Y] at t;rw[S] at A ⊢;have hs:(k:Int)<(P.ar.length:Int):=by omega
  clear F S A c y d s X Y
  go_wp2_with (first | (refine ay _ _ rfl ba (oa+k*7) rfl rfl _ u _ underlying94 rfl kL ?_) | (refine aL rfl _ _ _ rfl (ku a) rfl rfl rfl kL (wX a) ?_))
  intro w3 R J;have j:=ag j R;have D:=D.ext R;clear C t u R M;have Z:=J.cell;unfold ku at Z;have hm:dZ w3 (some ⟨w2.heap.size,0,none⟩) (mO a):=bH J 0 7;have hq:Hid ((wr=true/\a.wr=false)\/(wr=false/\a.rd=false)->FP H.ma p n wr=zAr/\pI H.ma p n wr=8):=ae λC=>by
    have E:pI H.ma p n wr=8:=by rw[z.out,if_pos C]
    exact⟨by unfold FP;rw[E];exact if_pos (by decide),E⟩
  have hn:Hid (¬((wr=true/\a.wr=false)\/(wr=false/\a.rd=false))->FP H.ma p n wr=a/\pI H.ma p n wr=0):=ae λC=>by
    have E:pI H.ma p n wr=0:=by rw[z.out,if_neg C]
    exact⟨by unfold FP;rw[E];exact N.out,E⟩
  clear z N;cases wr<;>cases c:a.rd<;>cases hwr:a.wr<;>rw[c,hwr] at Z
  all_goals
    first
      | (have G:=ae (hn.out (by simp[c,hwr]))
         go_wp2_with (first | (refine ay _ _ rfl w2.heap.size 0 rfl rfl _ hm _ underlying94 rfl kL ?_) | (refine aA rfl _ _ _ rfl w.heap.size (ku a) rfl rfl _ _ D rfl kL (wX a) ?_))
         intro V m o;have f:=j.grown o j.size (λk F=>by cases F;exact az _);go_wp2;rw[G.out.1,G.out.2];refine bodyPost_ret (v:=.tuple #[.agg (ku a),_]) (lC results41 _ _ w.heap.size _ _ _ _ rfl rfl m underlying94 rfl kL) rfl ?_;exact⟨rfl,f⟩)
      | (have G:=ae (hq.out (by simp[c,hwr]))
         go_wp2_with (refine aA rfl _ _ _ rfl w.heap.size (ku zAr) rfl rfl _ _ D rfl kL (wX zAr) ?_)
         intro V m o;have f:=j.grown o j.size (λk F=>by cases F;exact az _);go_wp2;rw[G.out.1,G.out.2];refine bodyPost_ret (v:=.tuple #[.agg (ku zAr),_]) (lC results41 _ _ w.heap.size _ _ _ _ rfl rfl m underlying94 rfl kL) rfl ?_;exact⟨rfl,f⟩)
theorem areaT:94≠109/\94≠66/\94≠122/\94≠76:=by decide
theorem Du (k:Kp) (p:Page) (f i:Int):(ed k p f i).1.m.sp.length=k.m.sp.length:=(qY.took k p f i).sp
theorem Ti (H:MH) (e n:Int) (p f:Nat) (A:Ar) (ga:Nat) (B b:Nat) (w:World) (h:lG w B b H e) (hA:aG w ga (ku A) 94) (X:p<H.sp.length) (hf:f<H.m.fs.length) (hz:H.sp.length<=1000) (hz2:H.ca.length<=1000) (hz3:H.m.fs.length<=1000) :
  Calls Tryz.prog 45 #[.pointer (some ⟨b,0,none⟩),.int .i64 p,.int .i64 n,.int .i64 f,.pointer (some ⟨ga,0,none⟩)] w λr w'=>r = .returned (.int .i64 (wS ⟨H.ma,e⟩ p n f A).2)/\KR w B b H w' (wS ⟨H.ma,e⟩ p n f A).1:=by
 obtain⟨g,off,cur,hj,hr,hi,hh,hg,hn,hm,ha⟩:=h.frame hf;generalize hx:aD H.ma f=x at *
 have v:=ae (show jD H.ma f=x from hx);clear hx ha hn;have J:=h.blk.cell;unfold qR at J;rw[hj] at J;have hl:(f:Int)<(H.m.fs.length:Int):=by omega
 go_enter func45,ntmps45
 go_wp2_with (first | (refine ay _ _ rfl g (off+f*13) rfl rfl _ hg _ underlying66 rfl frame_size ?_) | (refine aL rfl _ _ _ rfl (sU x) rfl rfl rfl frame_size (oL x) ?_))
 intro w1 t l;have Y:=h.below t;have W:=(KS.refl w b H).below t;have z:=hA.ext t;have u:¬kb b H w.heap.size:=λhk=>by obtain⟨cs,T,hb,_⟩:=h.kb_T hk;have:=hb.lt;omega
 clear J hg hi hh t hr hm hj h hA hl;have s:=l.cell;unfold sU at s;have q:=z.cell;unfold ku at q;have i:Hid (A.sh=true\/x.f<0/\x.r=1->wS ⟨H.ma,e⟩ p n f A=(eP ⟨H.ma,e⟩ p n ⟨1,f,true⟩,(f:Int))):=ae (λJ=>by unfold wS;simp only[show jD (Kp.m ⟨H.ma,e⟩) f=x from v.out];exact if_pos J);have j:Hid (¬(A.sh=true\/x.f<0/\x.r=1)->wS ⟨H.ma,e⟩ p n f A=if (ed (jR ⟨H.ma,e⟩ p n) x.p (-1) 0).2<0 then ((ed (jR ⟨H.ma,e⟩ p n) x.p (-1) 0).1,-1) else (eP (ed (jR ⟨H.ma,e⟩ p n) x.p (-1) 0).1 p n ⟨1,(ed (jR ⟨H.ma,e⟩ p n) x.p (-1) 0).2,true⟩,(ed (jR ⟨H.ma,e⟩ p n) x.p (-1) 0).2)):=ae (λJ=>by unfold wS;simp only[show jD (Kp.m ⟨H.ma,e⟩) f=x from v.out];exact if_neg J);clear v;cases hsh:A.sh with
 | true=>
  have N:=ae (i.out (.inl hsh));rw[hsh] at q;clear i j hsh
  go_wp2_with fail
  refine (jh H e n p ⟨1,f,true⟩ B b _ Y X).mono ?_;rintro r w6 ⟨rfl,d⟩;go_wp2;go_ret;rw[N.out];exact⟨rfl,KR.trans W d⟩
 | false=>
  rw[hsh] at q
  by_cases hxf:x.f<0
  ·by_cases U:x.r=1
   ·have N:=ae (i.out (.inr ⟨hxf,U⟩));rw[U] at s;clear i j hsh
    go_wp2_with fail
    refine (jh H e n p ⟨1,f,true⟩ B b _ Y X).mono ?_;rintro r w6 ⟨rfl,d⟩;go_wp2;go_ret;rw[N.out];exact⟨rfl,KR.trans W d⟩
   have N:=ae (j.out (λJ=>J.elim (λO=>by rw[hsh] at O; cases O) (λO=>U O.2)));clear i j hsh
   go_wp2_with fail
   refine (BK H e n p B b _ Y X).mono ?_;rintro r w2 ⟨rfl,C,e2,k2,R,S⟩;have k:=R.blkN l u;have E:=W.trans R;have I:=jW.drop ⟨H.ma,e⟩ p n;have G:=ae S;rw[<-S] at I;have a:C.sp.length=H.sp.length/\C.ca.length=H.ca.length/\C.m.fs.length=H.m.fs.length:=⟨by have:=I.sp;simp only[ul] at this;exact this,by rw[show C.ca=H.ca from I.ca],I.fs⟩;clear I S W R Y l s q z
   go_wp2_with (refine ay _ _ rfl w.heap.size 0 rfl rfl (fP x.p).toList (bH k 0 8) _ underlying58 rfl psize ?_)
   refine (rQ C e2 (-1) 0 x.p B b _ k2 (by rw[a.1];exact hz) (by rw[a.2.1];exact hz2) (by rw[a.2.2];exact hz3)).mono ?_;rintro r w3 ⟨rfl,L,V,k3,Z,M⟩;have D:=E.trans Z;have o:L.sp.length=H.sp.length:=by have:=Du ⟨C.ma,e2⟩ x.p (-1) 0;rw[<-M] at this;simp only[ul] at this;rw[this,a.1]
   rw[G.out] at M ⊢;have F:=ae M;have y:p<L.sp.length:=by rw[o];exact X
   clear G M E Z k2 k a o;generalize hK:(ed (jR ⟨H.ma,e⟩ p n) x.p (-1) 0).2=K
   by_cases h0:K<0
   ·have c:Hid (wS ⟨H.ma,e⟩ p n f A=(⟨L.ma,V⟩,-1)):=ae (by rw[N.out,hK,if_pos h0,F.out]);go_wp2;go_ret;rw[c.out];exact⟨rfl,_,_,k3,D,rfl⟩
   have c:Hid (wS ⟨H.ma,e⟩ p n f A=(eP ⟨L.ma,V⟩ p n ⟨1,K,true⟩,K)):=ae (by rw[N.out,hK,if_neg h0,F.out]);clear hK
   go_wp2_with fail
   refine (jh L V n p ⟨1,K,true⟩ B b _ k3 y).mono ?_;rintro r w6 ⟨rfl,d⟩;go_wp2;go_ret;rw[c.out];exact⟨rfl,KR.trans D d⟩
  have N:=ae (j.out (λJ=>J.elim (λO=>by rw[hsh] at O; cases O) (λO=>hxf O.1)));clear i j hsh
  go_wp2_with fail
  refine (BK H e n p B b _ Y X).mono ?_;rintro r w2 ⟨rfl,C,e2,k2,R,S⟩;have k:=R.blkN l u;have E:=W.trans R;have I:=jW.drop ⟨H.ma,e⟩ p n;have G:=ae S;rw[<-S] at I;have a:C.sp.length=H.sp.length/\C.ca.length=H.ca.length/\C.m.fs.length=H.m.fs.length:=⟨by have:=I.sp;simp only[ul] at this;exact this,by rw[show C.ca=H.ca from I.ca],I.fs⟩;clear I S W R Y l s q z
  go_wp2_with (refine ay _ _ rfl w.heap.size 0 rfl rfl (fP x.p).toList (bH k 0 8) _ underlying58 rfl psize ?_)
  refine (rQ C e2 (-1) 0 x.p B b _ k2 (by rw[a.1];exact hz) (by rw[a.2.1];exact hz2) (by rw[a.2.2];exact hz3)).mono ?_;rintro r w3 ⟨rfl,L,V,k3,Z,M⟩;have D:=E.trans Z;have o:L.sp.length=H.sp.length:=by have:=Du ⟨C.ma,e2⟩ x.p (-1) 0;rw[<-M] at this;simp only[ul] at this;rw[this,a.1]
  rw[G.out] at M ⊢;have F:=ae M;have y:p<L.sp.length:=by rw[o];exact X
  clear G M E Z k2 k a o;generalize hK:(ed (jR ⟨H.ma,e⟩ p n) x.p (-1) 0).2=K
  by_cases h0:K<0
  ·have c:Hid (wS ⟨H.ma,e⟩ p n f A=(⟨L.ma,V⟩,-1)):=ae (by rw[N.out,hK,if_pos h0,F.out]);go_wp2;go_ret;rw[c.out];exact⟨rfl,_,_,k3,D,rfl⟩
  have c:Hid (wS ⟨H.ma,e⟩ p n f A=(eP ⟨L.ma,V⟩ p n ⟨1,K,true⟩,K)):=ae (by rw[N.out,hK,if_neg h0,F.out]);clear hK
  go_wp2_with fail
  refine (jh L V n p ⟨1,K,true⟩ B b _ k3 y).mono ?_;rintro r w6 ⟨rfl,d⟩;go_wp2;go_ret;rw[c.out];exact⟨rfl,KR.trans D d⟩
theorem RS (h:Pt m) (p:Nat) (n:Int):uU (kP m p n):=by
 unfold kP;rw[aX];cases e:(dD m p).ar[(gU (dD m p).ar n).toNat]? with
 | none=>show uU zAr;unfold uU;decide
 | some a=>exact (bL ((yI (h.arN p)).2 a (bV e))).1
theorem Mk (H:MH) (e n:Int) (p:Nat) (g:Pg) (G:Nat) (B b:Nat) (w:World) (h:lG w B b H e) (X:Rt H.ma) (hC:Co H.ma) (hA:aG w G (ku (kP H.ma p n)) 94) (hp:p<H.sp.length) (hg:fM H.ma p n=some g) (hin:0<=g.fi->(ent H.ma p n).k=0->qM H.ma.st g.fi g.pg) :
  Calls Tryz.prog 44 #[.pointer (some ⟨b,0,none⟩),.int .i64 p,.int .i64 n,.pointer (some ⟨G,0,none⟩)] w λr w'=>r = .returned (.int .i64 (gL ⟨H.ma,e⟩ p n (kP H.ma p n)).2)/\KR w B b H w' (gL ⟨H.ma,e⟩ p n (kP H.ma p n)).1:=by
 have hz:=vT X;have km:H.sp.length<=1000:=by have:=hz.sp.1;rwa [ul] at this
 have kl:H.ca.length<=1000:=hz.ca;have kk:H.m.fs.length<=1000:=hz.fs;clear hz;obtain⟨g1,g2,g3,g4,g5,g6,g7⟩:=BO hg;have hS:=X.pt.pg hg;have kI:=ae (RS X.pt p n);obtain⟨P,hP⟩:∃P,H.sp[p]?=some P:=⟨_,aH hp⟩;have gc:=ae (sD hP);have gb:Hid ((ent H.ma p n).k=2->aK H.sw (ent H.ma p n).n=0):=ae (λV=>by obtain⟨g0,gF,kG⟩:=X.en p n (by rw[V];decide);have h1:=(kG.sw V).1;have h2:=(bN _).1 (mY X.pt p n);have Z:=X.pt.swl;exact kZ.2 ⟨X.pt.sw,by omega,by show _<(H.ma.sw.blocks.length:Int);omega⟩);generalize hAA:kP H.ma p n=A at *
 obtain⟨gs,off,gh,gd,ky,hy⟩:=h.at hP;have hc:=h.blk.cell;unfold qR at hc;rw[gh] at hc;have gE:(p:Int)<(H.sp.length:Int):=by omega
 have kH:=ae g6;have gz:=ae g4;have gA:=ae g3;have kK:=ae g7;have kC:=ae hin;have kz:=ae hS;have kg:=ae X;have gi:=ae hC;have gG:=ae h.bs;clear g1 g2 g3 g4 g5 g6 g7 hin hS X hC hg hAA;go_enter func44,ntmps44
 go_wp2_with (refine ay _ _ rfl gs (off+p*10+2) rfl rfl _ ky _ underlying74 tab_agg tab_size ?_)
 refine (xy P.tb (oh P.ts) n _ hy.tb).mono ?_;rintro r w1 ⟨rfl,hB⟩;have h1:=h.below hB;have s1:=(KS.refl w b H).below hB;have kQ:=hA.ext hB;clear hc gd ky hy;generalize hx:dJ P.tb n=x
 go_wp2_with (refine aL rfl _ _ _ rfl (jC x) rfl rfl rfl entry_size (by simp[jC,Value.oneCell']) ?_)
 intro w2 hJ hl;have h2:=h1.below hJ;have s2:=s1.below hJ;have l:=kQ.ext hJ;have gD:=ae (bi hB.size (az w1.heap.size));clear h1 s1 hB hJ h hA kQ;have hs:=hl.cell;unfold jC at hs;have kd:Hid (ent H.ma p n=x):=ae (by unfold ent;rw[gc.out];exact hx);have d:=l.cell;unfold ku at d;clear hx;have t:Hid (gL ⟨H.ma,e⟩ p n A=if x.k=1 then (⟨H.ma,e⟩,x.n) else if x.k=2 then (if aK H.sw x.n≠0 then (⟨H.ma,e⟩,-1) else
   let r:=ed ⟨H.ma,e⟩ (dL H.sw x.n) (-1) 0
   if r.2<0 then (r.1,-1) else
   if dB r.1.m.sl x.n (-1)≠0 then (r.1,-1) else (eP ⟨{ r.1.m with sl:=cB r.1.m.sl x.n (-1) },r.1.e⟩ p n ⟨1,r.2,A.wr⟩,r.2))
  else if A.fi<0 then WJ (ed ⟨H.ma,e⟩ zPg (-1) 0) p n A.wr
  else
   let r:=eX ⟨H.ma,e⟩ A.fi (A.ba+n-A.fr)
   if r.2<0 then r else (eP (gB r.1 r.2 1) p n ⟨1,r.2,A.sh&&A.wr⟩,r.2)):=ae (by
  unfold gL;simp only[show ent (Kp.m ⟨H.ma,e⟩) p n=x from kd.out];rfl)
 by_cases k1:x.k=1
 ·have R:Hid (gL ⟨H.ma,e⟩ p n A=(⟨H.ma,e⟩,x.n)):=ae (by rw[t.out,if_pos k1]);rw[k1] at hs;clear t k1;go_wp2;go_ret;rw[R.out];exact⟨rfl,_,_,h2,s2,rfl⟩
 by_cases V:x.k=2
 ·have kw:Hid (aK H.sw x.n=0):=ae (by have:=gb.out;rw[kd.out] at this;exact this V);have R:Hid (gL ⟨H.ma,e⟩ p n A=(let r:=ed ⟨H.ma,e⟩ (dL H.sw x.n) (-1) 0
   if r.2<0 then (r.1,-1) else
   if dB r.1.m.sl x.n (-1)≠0 then (r.1,-1) else (eP ⟨{ r.1.m with sl:=cB r.1.m.sl x.n (-1) },r.1.e⟩ p n ⟨1,r.2,A.wr⟩,r.2))):=ae (by rw[t.out,if_neg k1,if_pos V,if_neg (by rw[kw.out];simp)])
  rw[V] at hs;clear t k1 V;obtain⟨Q,hQ⟩:∃Q,Hid (Q=dL H.sw x.n):=⟨_,ae rfl⟩;rw[<-hQ.out] at R;go_upto_region 5 with (fail);refine jZ 14 [_,_,_,_,.v (.agg #[.slice H.wb H.sw.blocks.length H.cwb,.slice H.wq H.sw.queue.length H.cwq]),_,_,.v (.tuple #[.agg (fP Q),.int .i64 0]),_,.v (.agg (fP Q)),.v (.int .i64 0),.r 11 ((iM w2.heap.size 58 8)),.y 12 ((KJ 11 w2.heap.size 58 (mV (.agg (fP Q))))),.v (.int .i64 0)] (λW=>Below w2.heap.size w2 W) dR (Below.refl _ _) (Yk dR rfl (Yk dR rfl (Yf dR b 0 rfl rfl (Yf dR b 3 rfl rfl (ah ?_ (Yf dR w1.heap.size 1 rfl rfl (Yc dR (.int .i64 x.n) (λW F=>by simp[(hl.ext F).cell,jC]) rfl rfl rfl rfl (ah ?_ (Yk dR rfl (ah ?_ (ah ?_ (ah ?_ (ah ?_ (Yk dR rfl (aF))))))))))))))) (λ_=>rfl) rfl ?_
  ·intro ρ y W D I F E;refine iT dR F (mV (.agg #[.slice H.wb H.sw.blocks.length H.cwb,.slice H.wq H.sw.queue.length H.cwq])) (λ_ _ h=>h) ?_;have gx:=D 41 3 rfl;have Z:y 3 = .pointer (some ⟨b,3,none⟩):=E 3 rfl;refine ak (.agg #[.slice H.wb H.sw.blocks.length H.cwb,.slice H.wq H.sw.queue.length H.cwq]) (aj rfl) (bF rfl (gx.trans Z) (h2.below F).rdW underlying38 rfl disk_size) rfl
  ·intro ρ y W D I F E;refine iT dR F (mV (.tuple #[.agg (fP Q),.int .i64 0])) (λ_ _ h=>h) ?_;have gw:=D 42 4 rfl;have h4:y 4 = .agg #[.slice H.wb H.sw.blocks.length H.cwb,.slice H.wq H.sw.queue.length H.cwq]:=E 4 rfl;have gv:=D 44 6 rfl;have h6:y 6 = .int .i64 x.n:=E 6 rfl;have EF:∀f,ρ (.func f) = .func (.func f) #[] #[]:=λf=>I (.func f) trivial;refine aO _ _ (aj rfl) (aT rfl (EF _) func89 (by kernel_rfl) (by kernel_rfl) (by simp only[bX,bR,aY,gw,h4,gv,h6,EF];rfl)) ?_;refine (Hd H.sw x.n H.wb H.cwb H.wq H.cwq W (h2.below F).ma.rd.sw).mono ?_;rintro r W3 ⟨rfl,kf⟩;rw[kw.out,<-hQ.out];exact⟨_,rfl,kf,rfl⟩
  ·intro ρ y W D I F E;refine iT dR F (mV (.agg (fP Q))) (λ_ _ h=>h) ?_;have kj:=D 37 8 rfl;have Y:y 8 = .tuple #[.agg (fP Q),.int .i64 0]:=E 8 rfl;refine ak (.agg (fP Q)) (aj rfl) (by simp[execOp,go_sem,bT,kj,Y]) rfl
  ·intro ρ y W D I F E;refine iT dR F (mV (.int .i64 0)) (λ_ _ h=>h) ?_;have kj:=D 37 8 rfl;have Y:y 8 = .tuple #[.agg (fP Q),.int .i64 0]:=E 8 rfl;refine ak (.int .i64 0) (aj rfl) (by simp[execOp,go_sem,bT,kj,Y]) rfl
  ·intro ρ y W D I F E;refine iT dR F ((iM w2.heap.size 58 8)) (λ_ _ h=>h) ?_;refine jc (.pointer (some ⟨W.heap.size,0,none⟩)) (aj rfl) (by simp[execOp,go_sem,bT]) ((Below.refl _ _).alloc (az _) (.cells #[.int .u8 0,.int .u8 0,.int .u8 0,.int .u8 0,.int .u8 0,.int .u8 0,.int .u8 0,.int .u8 0] 58)) ?_;exact⟨_,_,rfl,F.size,aG.new _ _ _,rfl⟩
  ·intro ρ y W D I F E;have gy:=D 10 11 rfl;have kh:=E 11 rfl;have gu:=D 46 9 rfl;have h9:y 9 = .agg (fP Q):=E 9 rfl;obtain⟨g3,cur3,e9,kF,kL,kx⟩:=kh;refine mi (aj rfl) _ _ _ rfl g3 0 (.agg (fP Q)) (fP Q).toList (gy.trans e9) (gu.trans h9) rfl cur3 _ kL (by rw[kx];exact az _) psize (bU (je Q)) ?_;intro w1 hr kD;rw[gV cur3 _ (by rw[kx];rfl)] at hr;refine⟨F.grown kD F.size (λk hk=>by cases hk;exact kF),⟨g3,_,e9,kF,hr,rfl⟩,?_⟩;intro k hk gg
   match k,hk,gg with
   | 0,_,_=>exact λh=>h
   | 1,_,_=>exact λh=>h
   | 2,_,_=>exact λh=>h
   | 3,_,_=>exact λh=>h
   | 4,_,_=>exact λh=>h
   | 5,_,_=>exact λh=>h
   | 6,_,_=>exact λh=>h
   | 7,_,_=>exact λh=>h
   | 8,_,_=>exact λh=>h
   | 9,_,_=>exact λh=>h
   | 10,_,_=>exact λh=>h
   | 11,_,_=>exact λq=>lc q hr (λ_=>rfl) ⟨_,kL⟩ kD
   | 12,_,h=>exact absurd rfl h
   | 13,_,_=>exact λh=>h
   | n+14,h,_=>exact absurd h (by omega)
  intro y W3 j hD;replace j:Below w2.heap.size w2 W3:=j;have i:((iM w2.heap.size 58 8)).r (y 11) W3:=hD 11 (by decide);have hj:=hD 12 (by decide);clear hD;simp only[dh,bT,bR,aY];obtain⟨ge,cce,hU,gC,kN,hW⟩:=hj;have ke : cce=fP Q:=by simpa[mV] using hW
  subst ke;rw[hU];have Z:=h2.below j;have s3:=s2.below j;have kt:=hl.ext j;have kO:=l.ext j;clear hs d h2 s2 hl l j hU hW i
  go_wp2_with (refine ay _ _ rfl ge 0 rfl rfl (fP Q).toList kN.rd _ underlying58 rfl psize ?_)
  refine (rQ H e (-1) 0 Q B b _ Z km kl kk).mono ?_;rintro r M ⟨rfl,C,N,O,S,U⟩;have ks:=S.blk Z kt entTy;have hi:=S.blk Z kO areaT;have L:=s3.trans S;have z:C.sp.length=H.sp.length:=by have:=Du ⟨H.ma,e⟩ Q (-1) 0;rw[<-U] at this;simp only[ul] at this;exact this
  have J:=ae U;have hv:p<C.sp.length:=by rw[z];exact hp
  have kE:=ae O.bs;clear U s3 S Z kt kO z kN;generalize hK:(ed ⟨H.ma,e⟩ Q (-1) 0).2=K
  by_cases h0:K<0
  ·have c:Hid (gL ⟨H.ma,e⟩ p n A=(⟨C.ma,N⟩,-1)):=ae (by
    rw[R.out]
    try simp only
    rw[hK,if_pos h0,J.out])
   go_wp2;go_ret;rw[c.out];exact⟨rfl,_,_,O,L,rfl⟩
  have c:Hid (gL ⟨H.ma,e⟩ p n A=if dB C.sl x.n (-1)≠0 then (⟨C.ma,N⟩,-1) else (eP ⟨{ C.ma with sl:=cB C.sl x.n (-1) },N⟩ p n ⟨1,K,A.wr⟩,K)):=ae (by rw[R.out];simp only;rw[hK,if_neg h0,<-J.out];rfl);clear hK R J;go_upto_region 11 with (fail);refine jZ 13 [_,_,_,_,_,_,_,.r 7 ((Cz M.heap.size 3 1 (cB C.sl x.n (-1)).length ((cB C.sl x.n (-1)).map fZ) (dB C.sl x.n (-1)))),.r 8 ((Cz M.heap.size 3 1 (cB C.sl x.n (-1)).length ((cB C.sl x.n (-1)).map fZ) (dB C.sl x.n (-1)))),.r 9 ((nz M.heap.size 3 1 (cB C.sl x.n (-1)).length ((cB C.sl x.n (-1)).map fZ))),.v (.int .i64 (dB C.sl x.n (-1))),.r 11 ((nz M.heap.size 3 1 (cB C.sl x.n (-1)).length ((cB C.sl x.n (-1)).map fZ))),.v (.int .i64 (dB C.sl x.n (-1)))] (λW=>Below M.heap.size M W) dR (Below.refl _ _) (Yk dR rfl (Yk dR rfl (Yf dR b 0 rfl rfl (Yf dR b 2 rfl rfl (Yc dR (.slice C.asl C.sl.length C.csl) (λW F=>by simp[(O.below F).blk.cell,qR]) rfl rfl rfl rfl (Yf dR w1.heap.size 1 rfl rfl (Yc dR (.int .i64 x.n) (λW F=>by simp[(ks.ext F).cell,jC]) rfl rfl rfl rfl (ah ?_ (ah ?_ (ah ?_ (ah ?_ (ah ?_ (Yk dR rfl (aF)))))))))))))) (λ_=>rfl) rfl ?_
  ·intro ρ y W D I F E;refine iT dR F ((Cz M.heap.size 3 1 (cB C.sl x.n (-1)).length ((cB C.sl x.n (-1)).map fZ) (dB C.sl x.n (-1)))) (λ_ _ h=>h) ?_;have gt:=D 60 4 rfl;have h4:y 4 = .slice C.asl C.sl.length C.csl:=E 4 rfl;have gr:=D 62 6 rfl;have h6:y 6 = .int .i64 x.n:=E 6 rfl;have EC:∀v,ρ (.const v)=v:=λv=>I (.const v) trivial;have EF:∀f,ρ (.func f) = .func (.func f) #[] #[]:=λf=>I (.func f) trivial;refine aO _ _ (aj rfl) (aT rfl (EF _) func91 (by kernel_rfl) (by kernel_rfl) (by simp only[bX,bR,aY,gt,h4,gr,h6,EC,EF];rfl)) ?_;have hm:=(O.below F).ma.rd.sl;refine (Fe C.sl C.asl C.csl x.n (-1) W hm.le hm.nl hm.rd (by have:=hm.le;have:=hm.mx;unfold maxLen at this;omega)).mono ?_;rintro r W3 ⟨u,rfl,ho,kf⟩;exact⟨_,rfl,kf,u,rfl,ho.mono F.size⟩
  ·intro ρ y W D I F E;refine iT dR F ((Cz M.heap.size 3 1 (cB C.sl x.n (-1)).length ((cB C.sl x.n (-1)).map fZ) (dB C.sl x.n (-1)))) (λ_ _ h=>h) ?_;have gq:=D 63 7 rfl;have h7:=E 7 rfl;refine ak _ (aj rfl) (run_move (.inl rfl) gq) ?_;exact h7
  ·intro ρ y W D I F E;refine iT dR F ((nz M.heap.size 3 1 (cB C.sl x.n (-1)).length ((cB C.sl x.n (-1)).map fZ))) (λ_ _ h=>h) ?_;have ki:=D 55 8 rfl;have Y:=E 8 rfl;obtain⟨u,hu,ho⟩:=Y;refine ak u (aj rfl) (by simp[execOp,go_sem,bT,ki,hu]) ?_;exact ho
  ·intro ρ y W D I F E;refine iT dR F (mV (.int .i64 (dB C.sl x.n (-1)))) (λ_ _ h=>h) ?_;have ki:=D 55 8 rfl;have Y:=E 8 rfl;obtain⟨u,hu,ho⟩:=Y;refine ak (.int .i64 (dB C.sl x.n (-1))) (aj rfl) (by simp[execOp,go_sem,bT,ki,hu]) rfl
  ·intro ρ y W D I F E;refine iT dR F ((nz M.heap.size 3 1 (cB C.sl x.n (-1)).length ((cB C.sl x.n (-1)).map fZ))) (λ_ _ h=>h) ?_;have gp:=D 64 9 rfl;have h9:=E 9 rfl;refine ak _ (aj rfl) (run_move (.inr rfl) gp) ?_;exact h9
  intro y W5 s hf;replace s:Below M.heap.size M W5:=s;have hG:((Cz M.heap.size 3 1 (cB C.sl x.n (-1)).length ((cB C.sl x.n (-1)).map fZ) (dB C.sl x.n (-1)))).r (y 7) W5:=hf 7 (by decide);have hF:((Cz M.heap.size 3 1 (cB C.sl x.n (-1)).length ((cB C.sl x.n (-1)).map fZ) (dB C.sl x.n (-1)))).r (y 8) W5:=hf 8 (by decide);have hE:((nz M.heap.size 3 1 (cB C.sl x.n (-1)).length ((cB C.sl x.n (-1)).map fZ))).r (y 9) W5:=hf 9 (by decide);have i:((nz M.heap.size 3 1 (cB C.sl x.n (-1)).length ((cB C.sl x.n (-1)).map fZ))).r (y 11) W5:=hf 11 (by decide);clear hf;simp only[dh,bT,bR,aY];have hH:Own W5 M.heap.size 3 1 (y 11) (cB C.sl x.n (-1)).length ((cB C.sl x.n (-1)).map fZ):=i;obtain⟨a5,c5,e7,_⟩:=Own.rd hH;rw[e7] at hH;simp only[e7];have k5:=O.below s;have s5:=L.below s;have hL:=hi.ext s;clear hG hF hE i e7 O L hi ks s
  by_cases h5:dB C.sl x.n (-1)=0
  ·rw[h5];have kc:Hid (gL ⟨H.ma,e⟩ p n A=(eP ⟨{ C.ma with sl:=cB C.sl x.n (-1) },N⟩ p n ⟨1,K,A.wr⟩,K)):=ae (by rw[c.out,if_neg (λh=>h h5)]);clear h5 c
   go_wp2_with (first | (refine aB rfl _ _ _ rfl b 2 _ [.slice a5 (cB C.sl x.n (-1)).length c5] rfl rfl rfl _ _ k5.blk (by show 2+1<=12;decide) slots_size (λu hu=>by cases bC.1 hu;rfl) ?_))
   intro w6 kM hI;have k6:=k5.setL (hH.mono kE.out) kM hI;have s6:KS w b H w6 { C with asl:=a5,csl:=c5,sl:=cB C.sl x.n (-1) }:=s5.putB hI rfl rfl rfl;have gj:=bZ hL k5.blk (by decide) hI;clear s5 k5 hH hL kM hI;have d:=gj.cell;unfold ku at d
   go_wp2_with fail
   refine (jh _ N n p ⟨1,K,_⟩ B b _ k6 hv).mono ?_;rintro r w9 ⟨rfl,hh⟩;go_wp2;go_ret;rw[kc.out];exact⟨rfl,KR.trans s6 hh⟩
  have kc:Hid (gL ⟨H.ma,e⟩ p n A=(⟨C.ma,N⟩,-1)):=ae (by rw[c.out,if_pos h5]);go_wp2;go_ret;rw[kc.out];exact⟨rfl,_,_,k5,s5,rfl⟩
 by_cases hfi:A.fi<0
 ·have R:Hid (gL ⟨H.ma,e⟩ p n A=WJ (ed ⟨H.ma,e⟩ zPg (-1) 0) p n A.wr):=ae (by rw[t.out,if_neg k1,if_neg V,if_pos hfi]);clear t;go_upto_region 18 with (fail)
  go_wp2_with fail
  rw[<-zPg_cells];refine (rQ H e (-1) 0 zPg B b _ h2 km kl kk).mono ?_;rintro r M ⟨rfl,C,N,O,S,U⟩;have hi:=S.blk h2 l areaT;have L:=s2.trans S;have z:C.sp.length=H.sp.length:=by have:=Du ⟨H.ma,e⟩ zPg (-1) 0;rw[<-U] at this;simp only[ul] at this;exact this
  have J:=ae U;have hv:p<C.sp.length:=by rw[z];exact hp
  clear U s2 S h2 hl l z hs d;generalize hK:(ed ⟨H.ma,e⟩ zPg (-1) 0).2=K;have d:=hi.cell;unfold ku at d
  by_cases h0:K<0
  ·have c:Hid (gL ⟨H.ma,e⟩ p n A=(⟨C.ma,N⟩,K)):=ae (by rw[R.out];unfold WJ;rw[hK,if_pos h0,J.out,<-hK]);go_wp2;go_ret;rw[c.out];exact⟨rfl,_,_,O,L,rfl⟩
  have c:Hid (gL ⟨H.ma,e⟩ p n A=(eP ⟨C.ma,N⟩ p n ⟨1,K,A.wr⟩,K)):=ae (by rw[R.out];unfold WJ;rw[hK,if_neg h0,J.out]);clear hK R J
  go_wp2_with fail
  refine (jh C N n p ⟨1,K,_⟩ B b _ O hv).mono ?_;rintro r w9 ⟨rfl,hh⟩;go_wp2;go_ret;rw[c.out];exact⟨rfl,KR.trans L hh⟩
 have R:Hid (gL ⟨H.ma,e⟩ p n A=(let r:=eX ⟨H.ma,e⟩ A.fi (A.ba+n-A.fr)
  if r.2<0 then r else (eP (gB r.1 r.2 1) p n ⟨1,r.2,A.sh&&A.wr⟩,r.2))):=ae (by rw[t.out,if_neg k1,if_neg V,if_neg hfi])
 have hT:Hid (qM H.ma.st A.fi (A.ba+n-A.fr)):=ae (by have e1:=kH.out;have e2:=kK.out (by omega);have h2:=(bN _).1 (mY kg.out.pt p n);rw[e1,e2];refine kC.out (by omega) ?_;rw[kd.out] at h2 ⊢;omega);have kJ:=kI.out;have gf:=kz.out;unfold uU at kJ;have hr:IntKind.i64.wrap (A.ba+n)=A.ba+n:=bG _ (by omega);have kv:IntKind.i64.wrap (A.ba+n-A.fr)=A.ba+n-A.fr:=bG _ (by omega);clear t kJ gf;go_upto_region 22 with (fail);refine EX 16 17 [] [mV (.pointer (some ⟨b,0,none⟩)),mV (.pointer (some ⟨G,0,none⟩)),mV (.pointer (some ⟨G,0,none⟩)),mV (.pointer (some ⟨G,5,none⟩)),mV (.int .i64 A.fi),mV (.pointer (some ⟨G,0,none⟩)),mV (.pointer (some ⟨G,0,none⟩)),mV (.pointer (some ⟨G,6,none⟩)),mV (.int .i64 A.ba),mV (.int .i64 n),mV (.int .i64 (A.ba+n)),mV (.pointer (some ⟨G,0,none⟩)),mV (.pointer (some ⟨G,0,none⟩)),mV (.pointer (some ⟨G,0,none⟩)),mV (.int .i64 A.fr),mV (.int .i64 (A.ba+n-A.fr))] (by kernel_rfl) (by kernel_rfl) (by kernel_rfl) (by kernel_rfl) (by kernel_rfl) (by kernel_rfl) (by decide) (by decide) _ rfl (by kernel_rfl) (ah ?_ (ah ?_ (ah ?_ (ah ?_ (ah ?_ (ah ?_ (ah ?_ (ah ?_ (ah ?_ (ah ?_ (ah ?_ (ah ?_ (ah ?_ (ah ?_ (ah ?_ (ah ?_ (aF))))))))))))))))) (aF) rfl ?_
 ·refine aQ rfl ?_;intro ρ y W D I F E;have E0:ρ (.tmp 0) = .pointer (some ⟨b,0,none⟩):=(I (.tmp 0) rfl).trans rfl;refine ak (.pointer (some ⟨b,0,none⟩)) (aj rfl) (run_move (.inl rfl) E0) rfl
 ·refine aQ rfl ?_;intro ρ y W D I F E;have E3:ρ (.tmp 3) = .pointer (some ⟨G,0,none⟩):=(I (.tmp 3) rfl).trans rfl;refine ak (.pointer (some ⟨G,0,none⟩)) (aj rfl) (run_move (.inl rfl) E3) rfl
 ·refine aQ rfl ?_;intro ρ y W D I F E;have k9:=D 107 1 rfl;have h1:y 1 = .pointer (some ⟨G,0,none⟩):=E 1 rfl;refine ak (.pointer (some ⟨G,0,none⟩)) (aj rfl) (by simp[execOp,go_sem,k9,h1]) rfl
 ·refine aQ rfl ?_;intro ρ y W D I F E;have k8:=D 108 2 rfl;have h2:y 2 = .pointer (some ⟨G,0,none⟩):=E 2 rfl;refine ak (.pointer (some ⟨G,5,none⟩)) (aj rfl) (by simp[execOp,go_sem,k8,h2]) rfl
 ·refine aQ rfl ?_;intro ρ y W D I F E;have k7:=D 109 3 rfl;have Z:y 3 = .pointer (some ⟨G,5,none⟩):=E 3 rfl;refine ak (.int .i64 A.fi) (aj rfl) (by simp[execOp,go_sem,k7,Z,(l.ext F).cell,ku]) rfl
 ·refine aQ rfl ?_;intro ρ y W D I F E;have E3:ρ (.tmp 3) = .pointer (some ⟨G,0,none⟩):=(I (.tmp 3) rfl).trans rfl;refine ak (.pointer (some ⟨G,0,none⟩)) (aj rfl) (run_move (.inl rfl) E3) rfl
 ·refine aQ rfl ?_;intro ρ y W D I F E;have k3:=D 111 5 rfl;have h5:y 5 = .pointer (some ⟨G,0,none⟩):=E 5 rfl;refine ak (.pointer (some ⟨G,0,none⟩)) (aj rfl) (by simp[execOp,go_sem,k3,h5]) rfl
 ·refine aQ rfl ?_;intro ρ y W D I F E;have k0:=D 112 6 rfl;have h6:y 6 = .pointer (some ⟨G,0,none⟩):=E 6 rfl;refine ak (.pointer (some ⟨G,6,none⟩)) (aj rfl) (by simp[execOp,go_sem,k0,h6]) rfl
 ·refine aQ rfl ?_;intro ρ y W D I F E;have kY:=D 113 7 rfl;have h7:y 7 = .pointer (some ⟨G,6,none⟩):=E 7 rfl;refine ak (.int .i64 A.ba) (aj rfl) (by simp[execOp,go_sem,kY,h7,(l.ext F).cell,ku]) rfl
 ·refine aQ rfl ?_;intro ρ y W D I F E;have E2:ρ (.tmp 2) = .int .i64 n:=(I (.tmp 2) rfl).trans rfl;refine ak (.int .i64 n) (aj rfl) (run_move (.inl rfl) E2) rfl
 ·refine aQ rfl ?_;intro ρ y W D I F E;have kX:=D 114 8 rfl;have Y:y 8 = .int .i64 A.ba:=E 8 rfl;have kW:=D 115 9 rfl;have h9:y 9 = .int .i64 n:=E 9 rfl;refine ak (.int .i64 (A.ba+n)) (aj rfl) (by simp[execOp,go_sem,kX,Y,kW,h9,hr]) rfl
 ·refine aQ rfl ?_;intro ρ y W D I F E;have E3:ρ (.tmp 3) = .pointer (some ⟨G,0,none⟩):=(I (.tmp 3) rfl).trans rfl;refine ak (.pointer (some ⟨G,0,none⟩)) (aj rfl) (run_move (.inl rfl) E3) rfl
 ·refine aQ rfl ?_;intro ρ y W D I F E;have kU:=D 117 11 rfl;have kh:y 11 = .pointer (some ⟨G,0,none⟩):=E 11 rfl;refine ak (.pointer (some ⟨G,0,none⟩)) (aj rfl) (by simp[execOp,go_sem,kU,kh]) rfl
 ·refine aQ rfl ?_;intro ρ y W D I F E;have kT:=D 118 12 rfl;have gm:y 12 = .pointer (some ⟨G,0,none⟩):=E 12 rfl;refine ak (.pointer (some ⟨G,0,none⟩)) (aj rfl) (by simp[execOp,go_sem,kT,gm]) rfl
 ·refine aQ rfl ?_;intro ρ y W D I F E;have kS:=D 119 13 rfl;have gl:y 13 = .pointer (some ⟨G,0,none⟩):=E 13 rfl;refine ak (.int .i64 A.fr) (aj rfl) (by simp[execOp,go_sem,kS,gl,(l.ext F).cell,ku]) rfl
 ·refine aQ rfl ?_;intro ρ y W D I F E;have kV:=D 116 10 rfl;have gn:y 10 = .int .i64 (A.ba+n):=E 10 rfl;have kR:=D 120 14 rfl;have gk:y 14 = .int .i64 A.fr:=E 14 rfl;refine ak (.int .i64 (A.ba+n-A.fr)) (aj rfl) (by simp[execOp,go_sem,kV,gn,kR,gk,kv]) rfl
 intro ρ y WA o ho D I hV ha a;cases ho;have kb:y 0 = .pointer (some ⟨b,0,none⟩):=a 0 (by decide);have kr:y 1 = .pointer (some ⟨G,0,none⟩):=a 1 (by decide);have kq:y 2 = .pointer (some ⟨G,0,none⟩):=a 2 (by decide);have kp:y 3 = .pointer (some ⟨G,5,none⟩):=a 3 (by decide);have ka:y 4 = .int .i64 A.fi:=a 4 (by decide);have ko:y 5 = .pointer (some ⟨G,0,none⟩):=a 5 (by decide);have kn:y 6 = .pointer (some ⟨G,0,none⟩):=a 6 (by decide);have hG:y 7 = .pointer (some ⟨G,6,none⟩):=a 7 (by decide);have hF:y 8 = .int .i64 A.ba:=a 8 (by decide);have hE:y 9 = .int .i64 n:=a 9 (by decide);have hO:y 10 = .int .i64 (A.ba+n):=a 10 (by decide);have i:y 11 = .pointer (some ⟨G,0,none⟩):=a 11 (by decide);have hj:y 12 = .pointer (some ⟨G,0,none⟩):=a 12 (by decide);have hN:y 13 = .pointer (some ⟨G,0,none⟩):=a 13 (by decide);have hM:y 14 = .int .i64 A.fr:=a 14 (by decide);have ht:y 15 = .int .i64 (A.ba+n-A.fr):=a 15 (by decide);have hZ:=D 106 0 rfl;rw[kb] at hZ;have hY:=D 110 4 rfl;rw[ka] at hY;have hX:=D 121 15 rfl;rw[ht] at hX;have EC:∀v,ρ (.const v)=v:=λv=>I (.const v) trivial;have EF:∀f,ρ (.func f) = .func (.func f) #[] #[]:=λf=>I (.func f) trivial;refine RF _ _ (aj rfl) (aT rfl (EF _) func93 (by kernel_rfl) (by kernel_rfl) (by simp only[bX,bR,aY,hZ,hY,hX,EC,EF];rfl)) ?_;refine (Md H e A.fi (A.ba+n-A.fr) B b _ (h2.below ha) kg.out hT.out).mono ?_;rintro r M ⟨rfl,C,N,O,S,U⟩;refine⟨_,rfl,?_⟩;clear a D I hV;simp only[lay,Nat.reduceAdd,Nat.reduceLT,Nat.reduceEqDiff,reduceIte,decide_true,decide_false,if_true,tY,if_false,zK,uF,tZ,yt,zL,yC,kb,kr,kq,kp,ka,ko,kn,hG,hF,hE,hO,i,hj,hN,hM,ht];clear kb kr kq kp ka ko kn hG hF hE hO i hj hN hM ht;have hi:=S.blk (h2.below ha) (l.ext ha) areaT;have L:=(s2.below ha).trans S;have z:C.sp.length=H.sp.length:=by have:=(Hw (k:=⟨H.ma,e⟩) kg.out gi.out hT.out).2.vis.sk.len;rw[<-U] at this;simp only[ul] at this;exact this
 have J:=ae U;have hv:p<C.sp.length:=by rw[z];exact hp
 clear U s2 S h2 hl l z hs d ha hr kv;generalize hK:(eX ⟨H.ma,e⟩ A.fi (A.ba+n-A.fr)).2=K
 by_cases h0:K<0
 ·have c:Hid (gL ⟨H.ma,e⟩ p n A=(⟨C.ma,N⟩,K)):=ae (by rw[R.out];simp only;rw[hK,if_pos h0,J.out,<-hK]);go_wp2;go_ret;rw[c.out];exact⟨rfl,_,_,O,L,rfl⟩
 have c:Hid (gL ⟨H.ma,e⟩ p n A=(eP (gB ⟨C.ma,N⟩ K 1) p n ⟨1,K,A.sh&&A.wr⟩,K)):=ae (by rw[R.out];simp only;rw[hK,if_neg h0,J.out]);clear hK R J
 go_wp2_with fail
 refine (yw C N K 1 B b _ O).mono ?_;rintro r w5 ⟨rfl,H5,e5,k5,s5,q5⟩;have hL:=s5.blk O hi areaT;have s05:=L.trans s5;have kB:H5.sp.length=C.sp.length:=by have:=(jW.hold ⟨C.ma,N⟩ K 1).sp;rw[<-q5] at this;simp only[ul] at this;exact this
 have kA:p<H5.sp.length:=by rw[kB];exact hv
 rw[<-q5] at c;have c:=ae c.out;clear q5 s5 L O hi kB;have d:=hL.cell;unfold ku at d;cases hsh:A.sh with
 | false=>
  rw[hsh] at d c;rw[lZ] at c
  go_wp2_with fail
  refine (jh H5 e5 n p ⟨1,K,_⟩ B b _ k5 kA).mono ?_;rintro r w9 ⟨rfl,hh⟩;go_wp2;go_ret;rw[c.out];exact⟨rfl,KR.trans s05 hh⟩
 | true=>
  rw[hsh] at d c;rw[lM] at c
  go_wp2_with fail
  refine (jh H5 e5 n p ⟨1,K,_⟩ B b _ k5 kA).mono ?_;rintro r w9 ⟨rfl,hh⟩;go_wp2;go_ret;rw[c.out];exact⟨rfl,KR.trans s05 hh⟩
theorem IY (H:MH) (w:World) (h:FD w H) (hz:VH H.ma) :
  Calls Tryz.prog 25 #[.agg (fB H)] w λr w' => ∃H' : MH,r = .returned (.agg (fB H'))/\wR w' w.heap.size H'/\H'.ma=H.ma/\(∀p∈H'.fi,∀x,oB p.a=some x->oB H'.asl≠some x)/\Below w.heap.size w w':=by
 have z1:H.m.fs.length<=1000:=hz.fs;have z2:H.sl.length<=1000:=hz.sl;have z3:H.sw.blocks.length<=1000:=hz.swb;have z4:H.sw.queue.length<=1000:=hz.swq;have z5:H.dk.blocks.length<=1000:=hz.dkb;have z6:H.dk.queue.length<=1000:=hz.dkq;have z7:H.ca.length<=1000:=hz.ca;have z8:H.sp.length<=1000:=by have:=hz.sp.1;rw[ul] at this;exact this
 have zf:=hz.fsz;go_enter func25,ntmps25;go_upto_region 1 with (fail);refine wH (λW=>Code.wp _ _ _ _ W) λw1 s bx1 rx1 kZ => ?_;have ki:=h.below s;clear kZ;refine jZ 7 [_,_,.r 2 ((DX w1.heap.size H.m)),_,_,.r 5 ((nz w1.heap.size 3 1 H.sl.length (H.sl.map fZ))),_] (λW=>Below w1.heap.size w1 W) dR (Below.refl _ _) (Yf dR w.heap.size 0 rfl rfl (Yr dR (.agg #[.slice H.af H.m.fs.length H.cf,.int .i64 H.m.hand]) (λρ y W A hy=>(bF rfl (aI rfl hy) (bH (bx1.ext A) 0 2) underlying32 rfl (by kernel_rfl))) rfl rfl (ah ?_ (Yf dR w.heap.size 2 rfl rfl (Yc dR (.slice H.asl H.sl.length H.csl) (λW A=>by simp[(bx1.ext A).cell,fB]) rfl rfl rfl rfl (ah ?_ (Yf dR w.heap.size 0 rfl rfl (aF)))))))) (λ_=>rfl) rfl ?_
 ·intro ρ y W D E A F;refine iT dR A ((DX w1.heap.size H.m)) (λ_ _ h=>h) ?_;have E7:=D 7 1 rfl;have h1:y 1 = .agg #[.slice H.af H.m.fs.length H.cf,.int .i64 H.m.hand]:=F 1 rfl;have I:∀f,ρ (.func f) = .func (.func f) #[] #[]:=λf=>E (.func f) trivial;refine aO _ _ (aj rfl) (aT rfl (I _) func57 (by kernel_rfl) (by kernel_rfl) (by simp only[bX,bR,aY,E7,h1,I];rfl)) ?_;refine (AJ H.m _ _ W (ki.below A).fr (by omega)).mono ?_;rintro r w3 ⟨u,rfl,L,s⟩;exact⟨_,rfl,s,u,rfl,L.mono A.size⟩
 ·intro ρ y W D E A F;refine iT dR A ((nz w1.heap.size 3 1 H.sl.length (H.sl.map fZ))) (λ_ _ h=>h) ?_;have gn:=D 10 4 rfl;have h4:y 4 = .slice H.asl H.sl.length H.csl:=F 4 rfl;have I:∀f,ρ (.func f) = .func (.func f) #[] #[]:=λf=>E (.func f) trivial;refine aO _ _ (aj rfl) (aT rfl (I _) func58 (by kernel_rfl) (by kernel_rfl) (by simp only[bX,bR,aY,gn,h4,I];rfl)) ?_;have hs:=(ki.below A).sl;refine (wT H.sl _ _ W hs.le hs.nl hs.rd (by omega)).mono ?_;rintro r w3 ⟨u,rfl,L,s⟩;exact⟨_,rfl,s,L.mono A.size⟩
 intro y w2 ha ka;replace ha:Below w1.heap.size w1 w2:=ha;have hF:((DX w1.heap.size H.m)).r (y 2) w2:=ka 2 (by decide);have hH:((nz w1.heap.size 3 1 H.sl.length (H.sl.map fZ))).r (y 5) w2:=ka 5 (by decide);clear ka;simp only[dh,bT,bR,aY];obtain⟨u1,kN,kv⟩:=hF;have kf:Own w2 w1.heap.size 3 1 (y 5) H.sl.length (H.sl.map fZ):=hH;obtain⟨a1,c1,rfl,_⟩:=kv.rd;obtain⟨a2,c2,kr,_⟩:=Own.rd kf;rw[kr] at kf;rw[kN,kr];have bx2:=bx1.ext ha;have rx2:=rx1.ext ha;have h0:=ag s ha;have k3:=ki.below ha;have kJ:=ae s.size;have gp:=rx2.lt;clear ha bx1 rx1 ki kN kr hH
 go_wp2_with (refine gH rfl _ _ _ rfl w.heap.size 0 #[.slice a1 H.m.fs.length c1,.int .i64 H.m.hand] rfl rfl _ _ bx2 (by show 0+2<=11;decide) mem_size (iO _ _ _ _) ?_)
 intro w3 bx3 hR;have ko:=ax kv bx2 (by decide) hR;have kl:=ax kf bx2 (by decide) hR;have hZ:=h0.grown hR h0.size (λk N=>by cases N;exact az _);have rx3:=rx2.grown hR (λe=>by have:=aM e;omega);have bx3' : aG w3 w.heap.size (fB { H with af:=a1,cf:=c1 }) 45:=bx3;clear kv kf bx2 rx2 k3 hR bx3 h0
 go_wp2_with (refine aB rfl _ _ _ rfl w.heap.size 2 _ [.slice a2 H.sl.length c2] rfl rfl rfl _ _ bx3' (by show 2+1<=11;decide) slots_size (λu hu=>by cases bC.1 hu;rfl) ?_)
 intro Z bx4 hQ;have kn:=ax ko bx3' (by decide) hQ;have hN:=ax kl bx3' (by decide) hQ;have hD:=hZ.grown hQ hZ.size (λk N=>by cases N;exact az _);have rx4:=rx3.grown hQ (λe=>by have:=aM e;omega);have R : aG Z w.heap.size (fB { H with af:=a1,cf:=c1,asl:=a2,csl:=c2 }) 45:=bx4;have kh:=h.below hD;clear ko kl bx3' rx3 hQ bx4 hZ;obtain⟨H4,gu⟩:∃H4:MH,Hid (H4 = { H with af:=a1,cf:=c1,asl:=a2,csl:=c2 }):=⟨_,ae rfl⟩;go_upto_region 2 with (fail);refine jZ 10 [_,_,.r 2 ((yL Z.heap.size H.sw)),_,_,.r 5 ((yL Z.heap.size H.dk)),_,_,.r 8 ((Nc Z.heap.size (cK H.fi H.ct))),_] (λW=>Below Z.heap.size Z W) dR (Below.refl _ _) (Yf dR w.heap.size 3 rfl rfl (Yr dR (.agg #[.slice H.wb H.sw.blocks.length H.cwb,.slice H.wq H.sw.queue.length H.cwq]) (λρ y W A hy=>(bF rfl (aI rfl hy) (bH (R.ext A) 3 2) underlying38 rfl (by kernel_rfl))) rfl rfl (ah ?_ (Yf dR w.heap.size 5 rfl rfl (Yr dR (.agg #[.slice H.db H.dk.blocks.length H.cdb,.slice H.dq H.dk.queue.length H.cdq]) (λρ y W A hy=>(bF rfl (aI rfl hy) (bH (R.ext A) 5 2) underlying38 rfl (by kernel_rfl))) rfl rfl (ah ?_ (Yf dR w.heap.size 7 rfl rfl (Yr dR (.agg #[.slice H.ai H.fi.length H.ci,.int .i64 H.ct]) (λρ y W A hy=>(bF rfl (aI rfl hy) (bH (R.ext A) 7 2) underlying41 rfl (by kernel_rfl))) rfl rfl (ah ?_ (Yf dR w.heap.size 3 rfl rfl (aF))))))))))) (λ_=>rfl) rfl ?_
 ·intro ρ y W D E A F;refine iT dR A ((yL Z.heap.size H.sw)) (λ_ _ h=>h) ?_;have gm:=D 15 1 rfl;have h1:y 1 = .agg #[.slice H.wb H.sw.blocks.length H.cwb,.slice H.wq H.sw.queue.length H.cwq]:=F 1 rfl;have I:∀f,ρ (.func f) = .func (.func f) #[] #[]:=λf=>E (.func f) trivial;refine aO _ _ (aj rfl) (aT rfl (I _) func59 (by kernel_rfl) (by kernel_rfl) (by simp only[bX,bR,aY,gm,h1,I];rfl)) ?_;refine (Fs H.sw _ _ _ _ W (kh.below A).sw (by omega) (by omega)).mono ?_;rintro r w3 ⟨u,v,rfl,L,s⟩;exact⟨_,rfl,s,u,v,rfl,L.mono A.size⟩
 ·intro ρ y W D E A F;refine iT dR A ((yL Z.heap.size H.dk)) (λ_ _ h=>h) ?_;have gl:=D 18 4 rfl;have h4:y 4 = .agg #[.slice H.db H.dk.blocks.length H.cdb,.slice H.dq H.dk.queue.length H.cdq]:=F 4 rfl;have I:∀f,ρ (.func f) = .func (.func f) #[] #[]:=λf=>E (.func f) trivial;refine aO _ _ (aj rfl) (aT rfl (I _) func59 (by kernel_rfl) (by kernel_rfl) (by simp only[bX,bR,aY,gl,h4,I];rfl)) ?_;refine (Fs H.dk _ _ _ _ W (kh.below A).dk (by omega) (by omega)).mono ?_;rintro r w3 ⟨u,v,rfl,L,s⟩;exact⟨_,rfl,s,u,v,rfl,L.mono A.size⟩
 ·intro ρ y W D E A F;refine iT dR A ((Nc Z.heap.size (cK H.fi H.ct))) (λ_ _ h=>h) ?_;have gk:=D 21 7 rfl;have h7:y 7 = .agg #[.slice H.ai H.fi.length H.ci,.int .i64 H.ct]:=F 7 rfl;have I:∀f,ρ (.func f) = .func (.func f) #[] #[]:=λf=>E (.func f) trivial;refine aO _ _ (aj rfl) (aT rfl (I _) func60 (by kernel_rfl) (by kernel_rfl) (by simp only[bX,bR,aY,gk,h7,I];rfl)) ?_;refine (JN H.fi H.ct _ _ W (kh.below A).st zf).mono ?_;rintro r w3 ⟨u,ps,rfl,L,he,s⟩;exact⟨_,rfl,s,u,ps,_,rfl,L.mono A.size,by unfold cK;rw[he]⟩
 intro y w5 z hE;replace z:Below Z.heap.size Z w5:=z;have hF:((yL Z.heap.size H.sw)).r (y 2) w5:=hE 2 (by decide);have hH:((yL Z.heap.size H.dk)).r (y 5) w5:=hE 5 (by decide);have kC:((Nc Z.heap.size (cK H.fi H.ct))).r (y 8) w5:=hE 8 (by decide);clear hE;simp only[dh,bT,bR,aY];obtain⟨ub,uq,kM,ke⟩:=hF;obtain⟨vb,vq,kL,kd⟩:=hH;obtain⟨us,ps,ks,kK,kc,kO⟩:=kC;have k4 : -9223372036854775808<=ks/\ks<=9223372036854775807:=by have e:ks=H.ct:=congrArg St.count kO;rw[e];exact h.c64
 obtain⟨ab,cb,rfl,_⟩:=ke.b.rd;obtain⟨aq,cq,rfl,_⟩:=ke.q.rd;obtain⟨db,eb,rfl,_⟩:=kd.b.rd;obtain⟨dq,eq,rfl,_⟩:=kd.q.rd;obtain⟨as_,cs,rfl,_⟩:=kc.rd;rw[kM,kL,kK];have k1:Hid (∀p∈ps,∀x,oB p.a=some x->oB a2≠some x):=ae (λp U x hx e=>by have h1:=(iY hN e).2.choose_spec.lt;obtain⟨i,hi,rfl⟩:=jI.1 U;have h2:=(iY (kc.each i _ (aH hi)) hx).1;omega);have Y:=R.ext z;have rx5:=rx4.ext z;have hY:=ag hD z;have km:=kn.below z;have kk:=hN.below z;have hI:=ae hD.size;clear z R rx4 kh kM kL kK kn hN hD
 go_wp2_with (refine gH rfl _ _ _ rfl w.heap.size 3 #[.slice ab H.sw.blocks.length cb,.slice aq H.sw.queue.length cq] rfl rfl _ _ Y (by show 3+2<=11;decide) disk_size (xD _ _ _ _ _ _) ?_)
 intro w6 X hl;have hX:=hY.grown hl hY.size (λk N=>by cases N;exact az _);have rx6:=rx5.grown hl (λe=>by have:=aM e;omega);have p1:=ax km Y (by decide) hl;have p2:=ax kk Y (by decide) hl;have p3:=ke.keep Y (by decide) (by decide) hl;have p4:=kd.keep Y (by decide) (by decide) hl;have p5:=kc.keep Y (by decide) (by decide) hl;clear Y rx5 hl km kk ke kd kc hY
 go_wp2_with (refine gH rfl _ _ _ rfl w.heap.size 5 #[.slice db H.dk.blocks.length eb,.slice dq H.dk.queue.length eq] rfl rfl _ _ X (by show 5+2<=11;decide) disk_size (xD _ _ _ _ _ _) ?_)
 intro w7 V hj;have hW:=hX.grown hj hX.size (λk N=>by cases N;exact az _);have rx7:=rx6.grown hj (λe=>by have:=aM e;omega);have q1:=ax p1 X (by decide) hj;have q2:=ax p2 X (by decide) hj;have q3:=p3.keep X (by decide) (by decide) hj;have q4:=p4.keep X (by decide) (by decide) hj;have q5:=p5.keep X (by decide) (by decide) hj;clear X rx6 hj p1 p2 p3 p4 p5 hX
 go_wp2_with (refine gH rfl _ _ _ rfl w.heap.size 7 #[.slice as_ ps.length cs,.int .i64 ks] rfl rfl _ _ V (by show 7+2<=11;decide) store_size (uX _ _ _ _) ?_)
 intro w8 bx8 hh;have hC:=hW.grown hh hW.size (λk N=>by cases N;exact az _);have rx8:=rx7.grown hh (λe=>by have:=aM e;omega);have p1:=ax q1 V (by decide) hh;have p2:=ax q2 V (by decide) hh;have p3:=q3.keep V (by decide) (by decide) hh;have p4:=q4.keep V (by decide) (by decide) hh;have p5:=q5.keep V (by decide) (by decide) hh;obtain⟨H8,kA⟩:∃H8:MH,Hid (H8 = { H with af:=a1,cf:=c1,asl:=a2,csl:=c2,wb:=ab,cwb:=cb,wq:=aq,cwq:=cq,db:=db,cdb:=eb,dq:=dq,cdq:=eq,ai:=as_,ci:=cs,fi:=ps,ct:=ks }):=⟨_,ae rfl⟩;have bx8' : aG w8 w.heap.size (fB H8) 45:=by rw[kA.out];exact bx8
 have kg:=h.below hC;clear V rx7 hh bx8 q1 q2 q3 q4 q5 hW;have kx:w8.cell? ⟨w.heap.size,9,none⟩=some (.slice H.ac H.ca.length H.cc):=by rw[bx8'.cell,kA.out];rfl
 go_wp2_with fail
 refine (IM H.ca H.ac H.cc _ kg.ca.le kg.ca.nl kg.ca.rd (by omega)).mono ?_;rintro r w9 ⟨v9,rfl,ku,hf⟩;obtain⟨a6,c6,rfl,_⟩:=ku.rd;have O:=bx8'.ext hf;have rx9:=rx8.ext hf;have hU:=ag hC hf;have q1:=p1.below hf;have q2:=p2.below hf;have q3:=p3.below hf;have q4:=p4.below hf;have q5:=p5.below hf;have kX:=ae hC.size;clear kx bx8' rx8 kg p1 p2 p3 p4 p5 hf hC
 go_wp2_with (refine aB rfl _ _ _ rfl w.heap.size 9 _ [.slice a6 H.ca.length c6] rfl rfl rfl _ _ O (by show 9+1<=11;decide) caO_size (λu hu=>by cases bC.1 hu;rfl) ?_)
 intro w10 bx10 g;have ht:=hU.grown g hU.size (λk N=>by cases N;exact az _);have rx10:=rx9.grown g (λe=>by have:=aM e;omega);have p1:=(ax q1 O (by decide) g).mono kJ.out;have p2:=(ax q2 O (by decide) g).mono kJ.out;have p3:=(q3.keep O (by decide) (by decide) g).mono hI.out;have p4:=(q4.keep O (by decide) (by decide) g).mono hI.out;have p5:=(q5.keep O (by decide) (by decide) g).mono hI.out;have p6:=(ax ku O (by decide) g).mono kX.out;obtain⟨G,hG⟩:∃G:MH,Hid (G = { H with af:=a1,cf:=c1,asl:=a2,csl:=c2,wb:=ab,cwb:=cb,wq:=aq,cwq:=cq,db:=db,cdb:=eb,dq:=dq,cdq:=eq,ai:=as_,ci:=cs,fi:=ps,ct:=ks,ac:=a6,cc:=c6 }):=⟨_,ae rfl⟩;have bxG:aG w10 w.heap.size (fB G) 45:=by rw[hG.out];rw[kA.out] at bx10;exact bx10
 clear O rx9 g bx10 q1 q2 q3 q4 q5 ku hU;have gq:Hid (G.ap=H.ap/\G.sp=H.sp/\G.cp=H.cp):=ae (by rw[hG.out];exact⟨rfl,rfl,rfl⟩);have kx:w10.cell? ⟨w.heap.size,10,none⟩=some (.slice H.ap H.sp.length H.cp):=by rw[bxG.cell,hG.out];rfl
 have kV:=h.below ht;have kU:Own w10 w.heap.size 76 10 (.slice none 0 0) ([]:List PS).length (([]:List PS).flatMap sV):=by simpa using Own.nil _ _ _ _
 go_upto_region 6 with (fail);clear kx kV
 go_loopw [3,33] (fun s3 i wr => ∃(q:Nat) (J:List PS) (av:Option Addr) (cv:Nat),q<=H.sp.length/\i = .int .i64 q/\s3 = .slice av J.length cv/\Below w.heap.size w wr/\aG wr w.heap.size (fB G) 45/\aG wr (w.heap.size+1) _ 45 /\
  Own wr w.heap.size 66 13 (.slice a1 H.m.fs.length c1) H.m.fs.length (H.m.fs.flatMap pG)/\Own wr w.heap.size 3 1 (.slice a2 H.sl.length c2) H.sl.length (H.sl.map fZ)/\ng wr w.heap.size (.slice ab H.sw.blocks.length cb) (.slice aq H.sw.queue.length cq) H.sw/\ng wr w.heap.size (.slice db H.dk.blocks.length eb) (.slice dq H.dk.queue.length eq) H.dk /\
  qC wr w.heap.size (.slice as_ ps.length cs) ps/\Own wr w.heap.size 122 3 (.slice a6 H.ca.length c6) H.ca.length (H.ca.flatMap iK)/\Own wr w.heap.size 76 10 (.slice av J.length cv) J.length (J.flatMap sV)/\(∀p∈J,wF wr w.heap.size p p.sp/\FX p.tb)/\Hid (J.map PS.sp=(H.sp.take q).map PS.sp)) (λ_ i _=>H.sp.length-(intOf i).toNat)
 case atStart=>exact⟨0,[],none,0,aZ _,rfl,rfl,ht,bxG,rx10,p1,p2,p3,p4,p5,p6,kU,λp U=>(by simp at U),ae rfl⟩
 case round=>
  clear ht bxG rx10 p1 p2 p3 p4 p5 p6 kU;obtain⟨q,J,av,cv,hq,rfl,rfl,hv,bx,rx,p1,p2,p3,p4,p5,p6,L,hL,kb⟩:=hrel;have gt:J.length<=q:=by have:=congrArg List.length kb.out;rw[fH,fH,iB] at this;omega
  by_cases hql2:q<H.sp.length
  ·obtain⟨bs,os,P,k6,hP,kP⟩:=uf (h.below hv).sp.rd q hql2;have hr:=wB (h.below hv) hP;have k7:=bV hP;obtain⟨gr,kB⟩:=hz.spz k7;have k0:(q:Int)<(H.sp.length:Int):=by omega
   have kR:Hid (J.map PS.sp++[P.sp]=(H.sp.take (q+1)).map PS.sp):=ae (by rw[take_at hP,jS,kb.out];rfl);rw[k6];have kj:(yM P).all (·.oneCell')=true:=by rw[<-mE,eZ];exact hr.one
   go_wp2_with (first | (refine ay _ _ rfl bs (os+q*10) rfl rfl _ kP _ underlying76 rfl space_size ?_) | (refine aL rfl _ _ _ rfl (yM P) rfl rfl rfl space_size kj ?_))
   intro C l fx;have hc:=ag hv l;have d:=hr.below l;have S:=bx.ext l;have M:=rx.ext l;have q1:=p1.below l;have q2:=p2.below l;have q3:=p3.below l;have q4:=p4.below l;have q5:=p5.below l;have q6:=p6.below l;have hO:=L.below l;have hm:∀p∈J,wF C w.heap.size p p.sp/\FX p.tb:=λp U=>⟨(hL p U).1.below l,(hL p U).2⟩;have kw:=ae hc.size;clear hv hr bx rx p1 p2 p3 p4 p5 p6 L hL l kP kj hP;go_upto_region 8 with (fail);refine Un 0 3 (.slice av J.length cv) (by kernel_rfl) (by kernel_rfl) rfl λops0 hM => ?_;simp only[freedL,Ct] at hM;subst hM;refine GJ 11 12 [] [mV (.slice av J.length cv),mV (.pointer (some ⟨wr.heap.size,0,none⟩)),mV (.bool P.lv),mV (.pointer (some ⟨wr.heap.size,1,none⟩)),mV (.slice P.aa P.ar.length P.ac),(nz C.heap.size 94 7 P.ar.length (P.ar.flatMap mO)),mV (.pointer (some ⟨wr.heap.size,2,none⟩)),mV (.agg (oh P.ts)),(JL C.heap.size P.tb),(Wh C.heap.size P.sp),(Xn C.heap.size P.sp)] (by kernel_rfl) (by kernel_rfl) (by kernel_rfl) (by kernel_rfl) (by kernel_rfl) (by decide) (Nat.le_of_ble_eq_true (by kernel_rfl)) _ rfl (by kernel_rfl) (ah ?_ (ah ?_ (ah ?_ (ah ?_ (ah ?_ (ah ?_ (ah ?_ (ah ?_ (ah ?_ (ah ?_ (ah ?_ (aF)))))))))))) (aF) rfl ?_
   ·refine aQ rfl ?_;intro ρ y W D E A F;refine ak (.slice av J.length cv) (aj rfl) (run_move (.inl rfl) (E (.const _) trivial)) rfl
   ·refine aQ rfl ?_;intro ρ y W D E A F;have E5:ρ (.tmp 5) = .pointer (some ⟨wr.heap.size,0,none⟩):=(E (.tmp 5) rfl).trans rfl;refine ak (.pointer (some ⟨wr.heap.size,0,none⟩)) (aj rfl) (by simp[execOp,go_sem,E5]) rfl
   ·refine aQ rfl ?_;intro ρ y W D E A F;have gj:=D 38 1 rfl;have h1:y 1 = .pointer (some ⟨wr.heap.size,0,none⟩):=F 1 rfl;refine ak (.bool P.lv) (aj rfl) (by simp[execOp,go_sem,gj,h1,(fx.ext A).cell,yM]) rfl
   ·refine aQ rfl ?_;intro ρ y W D E A F;have E5:ρ (.tmp 5) = .pointer (some ⟨wr.heap.size,0,none⟩):=(E (.tmp 5) rfl).trans rfl;refine ak (.pointer (some ⟨wr.heap.size,1,none⟩)) (aj rfl) (by simp[execOp,go_sem,E5]) rfl
   ·refine aQ rfl ?_;intro ρ y W D E A F;have gh:=D 40 3 rfl;have h3:y 3 = .pointer (some ⟨wr.heap.size,1,none⟩):=F 3 rfl;refine ak (.slice P.aa P.ar.length P.ac) (aj rfl) (by simp[execOp,go_sem,gh,h3,(fx.ext A).cell,yM]) rfl
   ·refine aQ rfl ?_;intro ρ y W D E A F;have gg:=D 41 4 rfl;have h4:y 4 = .slice P.aa P.ar.length P.ac:=F 4 rfl;have I:∀f,ρ (.func f) = .func (.func f) #[] #[]:=λf=>E (.func f) trivial;refine aO _ _ (aj rfl) (aT rfl (I _) func62 (by kernel_rfl) (by kernel_rfl) (by simp only[bX,bR,aY,gg,h4,I];rfl)) ?_;have hA:=(d.below A).ars;refine (JZ P.ar P.aa P.ac W hA.le hA.nl hA.rd (by omega)).mono ?_;rintro e w1 ⟨u,rfl,L,s⟩;exact⟨u,rfl,s,L.mono A.size⟩
   ·refine aQ rfl ?_;intro ρ y W D E A F;have E5:ρ (.tmp 5) = .pointer (some ⟨wr.heap.size,0,none⟩):=(E (.tmp 5) rfl).trans rfl;refine ak (.pointer (some ⟨wr.heap.size,2,none⟩)) (aj rfl) (by simp[execOp,go_sem,E5]) rfl
   ·refine aQ rfl ?_;intro ρ y W D E A F;have gd:=D 43 6 rfl;have h6:y 6 = .pointer (some ⟨wr.heap.size,2,none⟩):=F 6 rfl;refine ak (.agg (oh P.ts)) (aj rfl) (bF rfl (gd.trans h6) (bH (fx.ext A) 2 8) underlying74 tab_agg tab_size) rfl
   ·refine aQ rfl ?_;intro ρ y W D E A F;have gc:=D 44 7 rfl;have h7:y 7 = .agg (oh P.ts):=F 7 rfl;have I:∀f,ρ (.func f) = .func (.func f) #[] #[]:=λf=>E (.func f) trivial;refine aO _ _ (aj rfl) (aT rfl (I _) func63 (by kernel_rfl) (by kernel_rfl) (by simp only[bX,bR,aY,gc,h7,I];rfl)) ?_;refine (Ke P.tb (oh P.ts) W (d.below A).tb kB).mono ?_;rintro e w1 ⟨u,rfl,L,s⟩;exact⟨_,rfl,s,u,rfl,L.mono A.size⟩
   ·refine aQ rfl ?_;intro ρ y W D E A F;have gi:=D 39 2 rfl;have h2:y 2 = .bool P.lv:=F 2 rfl;have gf:=D 42 5 rfl;have h5:((nz C.heap.size 94 7 P.ar.length (P.ar.flatMap mO))).r (y 5) W:=F 5 rfl;have gb:=D 45 8 rfl;have h8:((JL C.heap.size P.tb)).r (y 8) W:=F 8 rfl;obtain⟨x5,c5,e5,_⟩:=Own.rd h5;obtain⟨cs8,e8,kT⟩:=h8;obtain⟨v8,rfl⟩:=Ri kT.sz;have k8:Own W C.heap.size 94 7 (.slice x5 P.ar.length c5) P.ar.length (P.ar.flatMap mO):=by rw[<-e5];exact h5
    refine ak (.agg (yM ⟨P.lv,x5,c5,P.ar,v8,P.tb⟩)) (aj rfl) (by simp[execOp,go_sem,gi.trans h2,gf,e5,gb,e8,oh,yM]) ?_;exact⟨⟨P.lv,x5,c5,P.ar,v8,P.tb⟩,rfl,rfl,k8,kT⟩
   ·refine aQ rfl ?_;intro ρ y W D E A F;have ga:=D 46 9 rfl;have h9:((Wh C.heap.size P.sp)).r (y 9) W:=F 9 rfl;obtain⟨p9,e9,k5⟩:=h9;refine jc (.slice (some ⟨W.heap.size,0,none⟩) 1 1) (aj rfl) (by simp[execOp,go_sem,ga,e9,yM]) ((Below.refl _ _).alloc (az _) (.cells (yM p9) 76)) ?_;exact⟨_,p9,rfl,dZ.new _ _ _,k5.below ((Below.refl _ _).alloc (az _) _)⟩
   intro ρ y WA o L D E hV j n;cases L;have kq:y 0 = .slice av J.length cv:=n 0 (by decide);have kI:y 1 = .pointer (some ⟨wr.heap.size,0,none⟩):=n 1 (by decide);have hF:y 2 = .bool P.lv:=n 2 (by decide);have kG:y 3 = .pointer (some ⟨wr.heap.size,1,none⟩):=n 3 (by decide);have kF:y 4 = .slice P.aa P.ar.length P.ac:=n 4 (by decide);have hH:((nz C.heap.size 94 7 P.ar.length (P.ar.flatMap mO))).r (y 5) WA:=n 5 (by decide);have kE:y 6 = .pointer (some ⟨wr.heap.size,2,none⟩):=n 6 (by decide);have kD:y 7 = .agg (oh P.ts):=n 7 (by decide);have kC:((JL C.heap.size P.tb)).r (y 8) WA:=n 8 (by decide);have gs:((Wh C.heap.size P.sp)).r (y 9) WA:=n 9 (by decide);have kH:((Xn C.heap.size P.sp)).r (y 10) WA:=n 10 (by decide);have kW:=D 37 0 rfl;rw[kq] at kW;have k9:=D 47 10 rfl;have EC:∀v,ρ (.const v)=v:=λv=>E (.const v) trivial;have I:∀f,ρ (.func f) = .func (.func f) #[] #[]:=λf=>E (.func f) trivial;obtain⟨g10,p10,e10,hJ,g⟩:=kH;refine Ja (aj rfl) (qi (.tmp 37) (.tmp 47) 43 rfl w.heap.size 76 _ 10 224 underlying43 space_info rfl (by decide) _ _ _ kW (hO.below j) _ 1 1 (sV p10) (k9.trans e10) (λe=>by cases e) (az _) rfl hJ (RX g) (by unfold maxLen;omega) (by omega) (bi kw.out j.size)) ?_;rintro v2 w13 ⟨hB,c,hS⟩;clear n D E hV;simp only[lay,Nat.reduceAdd,Nat.reduceLT,Nat.reduceEqDiff,reduceIte,decide_true,decide_false,if_true,tY,if_false,zK,uF,tZ,yt,zL,yC,kq,kI,hF,kG,kF,kE,kD];clear kq kI hF kG kF kE kD;have t:=hO.below j;have hT:=ag hc j;have ky:Below w.heap.size w w13:=hT.grown c hT.size (λk N=>t.ge k N);have hg : Own w13 w.heap.size 76 10 v2 (J++[p10]).length ((J++[p10]).flatMap sV):=by rw[jf,fE];simpa using hB
   obtain⟨a13,c13,rfl,_⟩:=hg.rd;have r1:=jl t c (q1.below j) (by decide);have r2:=jl t c (q2.below j) (by decide);have r3:ng w13 w.heap.size _ _ H.sw:=⟨jl t c (q3.below j).b (by decide),jl t c (q3.below j).q (by decide)⟩;have r4:ng w13 w.heap.size _ _ H.dk:=⟨jl t c (q4.below j).b (by decide),jl t c (q4.below j).q (by decide)⟩;have r5:=Uj t c (q5.below j);have r6:=jl t c (q6.below j) (by decide);have bx13:=zQ t c (S.ext j) (by decide);have rx13:=zQ t c (M.ext j) (by decide);have kt:∀p∈J++[p10],wF w13 w.heap.size p p.sp/\FX p.tb:=λp U=>by
    rcases gP.1 U with U|U
    ·have h1:=(hm p U).1.below j;exact⟨⟨rfl,jl t c h1.2.1 (by decide),CU t c h1.2.2⟩,(hm p U).2⟩
    rw[bC.1 U];refine⟨⟨rfl,(jl t c g.2.1 (by decide)).mono kw.out,(CU t c g.2.2).mono kw.out⟩,?_⟩;have e:p10.tb=P.tb:=congrArg Sp.tb g.1;rw[e];exact kB
   have kQ:Hid ((J++[p10]).map PS.sp=(H.sp.take (q+1)).map PS.sp):=ae (by rw[jS,<-kR.out,<-g.1];rfl);clear hO t hT j hB c hS g hJ fx d S M q1 q2 q3 q4 q5 q6 hm;go_wp2;go_roundw
   case rel=>exact⟨q+1,_,_,_,by omega,by go_num,rfl,ky,bx13,rx13,r1,r2,r3,r4,r5,r6,hg,kt,kQ⟩
   case measure=>simp[intOf];omega
  have k0:¬(q:Int)<(H.sp.length:Int):=by omega
  rw[ji (by omega)] at kb
  go_wp2_with (refine aB rfl _ _ _ rfl w.heap.size 10 _ [.slice av J.length cv] rfl rfl rfl _ _ bx (by show 10+1<=11;decide) slsp_size (λu hu=>by cases bC.1 hu;rfl) ?_)
  intro C S d;have hc:=hv.grown d hv.size (λk N=>by cases N;exact az _);have M:=rx.grown d (λe=>by have:=aM e;omega);obtain⟨K,hK⟩:∃K:MH,Hid (K = { G with ap:=av,cp:=cv,sp:=J }):=⟨_,ae rfl⟩;have bxK:aG C w.heap.size (fB K) 45:=by rw[hK.out];exact S
  have kS:wR C w.heap.size K:=by rw[hK.out,hG.out];exact⟨ax p1 bx (by decide) d,ax p2 bx (by decide) d,p3.keep bx (by decide) (by decide) d,p4.keep bx (by decide) (by decide) d,p5.keep bx (by decide) (by decide) d,ax p6 bx (by decide) d,ax L bx (by decide) d,λp U=>⟨ax (hL p U).1.2.1 bx (by decide) d,(hL p U).1.2.2.keep bx (by decide) d⟩,k4⟩
  have k2:K.ma=H.ma:=by rw[hK.out,hG.out];unfold MH.ma;simp only;rw[kb.out,kO]
  have kY:∀p∈K.fi,∀x,oB p.a=some x->oB K.asl≠some x:=by rw[hK.out,hG.out];exact k1.out
  clear hv bx rx d S p1 p2 p3 p4 p5 p6 L
  go_wp2_with (first | (refine ay _ _ rfl w.heap.size 0 rfl rfl (fB K).toList bxK.rd _ underlying45 rfl mach_size ?_) | (refine aA rfl _ _ _ rfl (w.heap.size+1) (fB K) rfl rfl _ _ M rfl mach_size (jN K) ?_))
  intro w12 rx12 kp;have kz:=hc.grown kp hc.size (λk N=>by cases N;omega);go_wp2;refine bodyPost_ret (v:=.agg (fB K)) (fA results25 _ _ (w.heap.size+1) _ _ _ rfl rx12 underlying45 rfl mach_size) rfl ?_;exact⟨K,rfl,kS.keep M (by decide) kp,k2,kY,kz⟩
theorem Ux (H:MH) (p:Nat) (P:PS):MH.ma { H with sp:=H.sp.set p P }=QW H.ma p P.sp:=by
 unfold QW MH.ma;simp only[Be]
theorem AV (h:Below B w w1) (k:Below B w1 w2):Below B w w2:=
 ⟨k.os.trans h.os,k.tape.trans h.tape,k.output.trans h.output,bi h.size k.size,λi d=>(k.block i d).trans (h.block i d)⟩
theorem machT:45≠109/\45≠66/\45≠122/\45≠76:=by decide
def QA (H:MH) (p:Int):Prop:=p<0\/(H.sp.length:Int)<=p\/(dD H.ma p.toNat).lv=false
def uJ (l:List Fr):Nat:=l.countP λf=>decide (f.r=0)
theorem Uh (h:i<m.m.fs.length):aD m i=m.m.fs[i]:=by unfold aD;rw[aX,aH h];rfl
def XG (H:MH) (p:Nat) (n:Int) (wr:Bool) (w:World) (r:Ending) (w' : World):Prop:=
 Below w.heap.size w w'/\((wO H.ma p n wr≠0/\r = .returned (.tuple #[.agg (fB noH),.int .i64 0,.int .i64 (wO H.ma p n wr)])) \/
  (wO H.ma p n wr=0/\∃H' : MH,r = .returned (.tuple #[.agg (fB H'),.int .i64 (KX H.ma p n wr),.int .i64 0])/\wR w' w.heap.size H'/\H'.ma=Kj H.ma p n wr))
def Uz (m:Ma):Prop:=∀p,∀a∈(dD m p).ar,a.fi<m.st.fs.length
theorem Uz.at (h:Uz m) (u:0<=gU (dD m p).ar n):(kP m p n).fi<m.st.fs.length:=by
 obtain⟨k,d,a,_⟩:=Dv (q:=pF n) (l:=(dD m p).ar) u;have b : gU (dD m p).ar n=k:=d;unfold kP;rw[b,bA,aX,aH a];exact h p _ (eO a)
theorem SV (h:Rt m) {w:Bool} (u:p<m.sp.length) (d:(dD m p).lv=true):wO m p n w=if pI m p n w≠0 then pI m p n w
  else if 0<=(kP m p n).fi/\copied m p n=false/\qF m.st (kP m p n).fi ((kP m p n).ba+n-(kP m p n).fr)=true then 9
  else if (nE m p n w).2<0 then 10 else (nE m p n w).1.e:=by
 unfold wO;rw[if_neg (by rw[Ir.2 h];simp),if_neg (by rw[bA,d];simp;omega),bA]
theorem WO (E:En) (W:World):(Instr.field 68 (.agg #[.int .i64 E.k,.int .i64 E.n,.bool E.w]) 2).run Tryz.prog W = .ok (.bool E.w) W:=by
 simp[Instr.field,go_sem];rfl
theorem Ru (H:MH) (p:Nat) (n:Int) (wr:Bool) (w:World) (h:FD w H) (hR:Rt H.ma) (hC:Co H.ma) (hF:Uz H.ma) (hp:p<H.sp.length) (hv:(dD H.ma p).lv=true) :
  Calls Tryz.prog 19 #[.agg (fB H),.int .i64 p,.int .i64 n,.bool wr] w (XG H p n wr w):=by
 have kV:p<H.ma.sp.length:=by rw[ul];exact hp
 have hu:=ae (SV (n:=n) (w:=wr) hR kV hv);have g0:=ae hF;have gO:=ae hv;clear hF hv;have o:=ae hR;have gb:=ae hC;have gd:=ae (vT hR);clear hR hC;go_enter func19,ntmps19;go_upto_region 1 with (fail);refine wH (λW=>Code.wp _ _ _ _ W) λw1 ky bx1 rx1 gR => ?_;have bx1:aG w1 w.heap.size (fB H) 45:=bx1;have rx1:aG w1 (w.heap.size+1) (fB noH) 45:=rx1;have G:=h.below ky;clear h
 go_wp2_with (refine ay _ _ rfl w.heap.size 0 rfl rfl _ bx1.rd _ underlying45 rfl machine_size ?_)
 refine (yP H _ G).mono ?_;rintro r w2 ⟨rfl,ka⟩;rw[Ir.2 o.out];have h2:=G.below ka;have bx2:=bx1.ext ka;have rx2:=rx1.ext ka;have ko:=ag ky ka;clear G bx1 rx1 ky ka gR;obtain⟨Q,hQ⟩:∃Q,H.sp[p]?=some Q:=⟨_,aH hp⟩;have kU:=ae (sD hQ);have g6:(p:Int)<(H.sp.length:Int):=by omega
 have g8:decide ((p:Int)<0)=false:=decide_eq_false (by omega);have g7:decide ((H.sp.length:Int)<=(p:Int))=false:=decide_eq_false (by omega);have L:=bx2.cell;unfold fB at L;obtain⟨gs,os,Q',ks,kt,ha⟩:=uf h2.sp.rd p hp;rw[hQ] at kt;cases kt;rw[ks] at L;have gW:w2.cell? ⟨gs,os+p*10,none⟩=some (.bool true):=by
  obtain⟨b',o',e',kx⟩:=ha 0 _ rfl;cases e';have:Q.lv=true:=by have:=gO.out;rw[kU.out] at this;exact this
  rw[this] at kx;exact kx
 go_wp2_with (refine ay _ _ rfl w.heap.size 0 rfl rfl _ bx2.rd _ underlying45 rfl machine_size ?_)
 refine (IY H _ h2 gd.out).mono ?_;rintro r w3 ⟨C,rfl,gm,hN,_,hJ⟩;have hr:=ae hN;have gN:Hid (VH C.ma):=ae (by rw[hN];exact gd.out);have rx3:=rx2.ext hJ;have bx3:=bx2.ext hJ;have h3:=h2.below hJ;have kn:=ag ko hJ;have gl:p<C.sp.length:=by rw[Vo (show C.ma.sp.length=H.ma.sp.length by rw[hN])];exact hp
 clear bx2 rx2 h2 hN L gW ha ks;unfold fB;go_upto_region 7 with (fail);refine iC (λW=>Code.wp _ _ _ _ W) λw4 h9 kx4 gQ => ?_;have k4:lG w4 w.heap.size w3.heap.size C 0:=⟨kx4,kn.size,(gm.mono ko.size).below h9,λq hq=>(VH.spz (H:=C) gN.out hq).2⟩;have rx4:=rx3.ext h9;have bx4:=bx3.ext h9;have h4:=h3.below h9;have kI:=ag kn h9;clear hJ h9 gm ko kx4 gQ rx3 bx3 h3 kn;generalize w3.heap.size=b at k4
 go_wp2_with fail
 refine (SF C 0 n p wr _ b _ k4 gl).mono ?_;rintro r w5 ⟨rfl,hZ⟩;rw[hr.out];have k5:=k4.below hZ;have rx5:=rx4.ext hZ;have bx5:=bx4.ext hZ;have h5:=h4.below hZ;have kH:=ag kI hZ;clear k4 rx4 bx4 h4 hZ kI
 go_wp2_with (refine aL rfl _ _ _ rfl (ku (FP H.ma p n wr)) rfl rfl rfl kL (wX _) ?_)
 intro w6 hY ax6;have k6:=k5.below hY;have rx6:=rx5.ext hY;have bx6:=bx5.ext hY;have h6:=h5.below hY;have hV:=ag kH hY;clear k5 rx5 bx5 h5 hY kH;generalize w5.heap.size=ga at *
 by_cases h0:pI H.ma p n wr≠0
 ·have hl:Hid (wO H.ma p n wr=pI H.ma p n wr):=ae (by rw[hu.out];exact if_pos h0);generalize hE:pI H.ma p n wr=E at *
  clear k6 bx6 h6 ax6 hu
  go_wp2_with (refine aA rfl _ _ _ rfl (w.heap.size+1) (fB noH) rfl rfl _ _ rx6 rfl mach_size (jN noH) ?_)
  intro we kb a;have c:=hV.grown a hV.size (λk hk=>by cases hk;omega);go_wp2;refine bodyPost_ret (v:=.tuple #[.agg (fB noH),.int .i64 0,.int .i64 E]) (eQ results19 _ _ (w.heap.size+1) _ _ _ _ _ rfl rfl rfl kb underlying45 rfl mach_size) rfl ?_;exact⟨c,.inl ⟨by rw[hl.out];exact h0,by rw[hl.out]⟩⟩
 replace h0:=qL.1 h0;have gJ:FP H.ma p n wr=kP H.ma p n:=by unfold FP;rw[h0];exact if_neg (by simp)
 rw[gJ] at ax6;rw[h0];have kg:0<=gU (dD H.ma p).ar n:=by
  by_cases e:gU (dD H.ma p).ar n<0
  ·unfold pI at h0;rw[if_pos e] at h0;cases h0
  ·omega
 have hW:Hid (wO H.ma p n wr=if 0<=(kP H.ma p n).fi/\copied H.ma p n=false/\qF H.ma.st (kP H.ma p n).fi ((kP H.ma p n).ba+n-(kP H.ma p n).fr)=true then 9 else if (nE H.ma p n wr).2<0 then 10 else (nE H.ma p n wr).1.e):=ae (by rw[hu.out,if_neg (by rw[h0];simp)]);obtain⟨g,hg⟩:∃g,fM H.ma p n=some g:=by
  have:=(yG _ _).1 kg;unfold fM;cases e:onA (dD H.ma p).ar n with
  | none=>rw[e] at this;simp at this
  | some g=>exact⟨g,rfl⟩
 have kw:=ae hg;have ki:=ae (g0.out.at kg);have kj:=ae (RS o.out.pt p n);have gV:=ae (o.out.pt.pg hg);have gE:=ae (BO hg);have gp:=ae ((Js (w:=wr) hg).1 h0);have hs:Hid (copied H.ma p n=(decide ((dJ Q.tb n).k=2)||(decide ((dJ Q.tb n).k=1)&&decide ((jD H.ma (dJ Q.tb n).n).f<0)))):=ae (by unfold copied ent;rw[kU.out];rfl);clear gJ h0 kg hg hu;have L:=bx6.cell;unfold fB at L;obtain⟨gs,os,Q',ks,kt,ha⟩:=uf h6.sp.rd p hp;rw[hQ] at kt;cases kt;rw[ks] at L;have kf:=wB h6 hQ
 go_wp2_with (refine ay _ _ rfl gs (os+p*10+2) rfl rfl _ (sN ha 2 8) _ underlying74 tab_agg tab_size ?_)
 refine (xy Q.tb (oh Q.ts) n _ kf.tb).mono ?_;rintro r w7 ⟨rfl,hI⟩;have a:Hid (ent H.ma p n=dJ Q.tb n):=ae (by unfold ent;rw[kU.out];rfl);generalize hx:dJ Q.tb n=x at *
 have k7:=k6.below hI;have rx7:=rx6.ext hI;have bx7:=bx6.ext hI;have ax7:=ax6.ext hI;have h7:=h6.below hI;have kG:=ag hV hI;clear k6 rx6 bx6 ax6 h6 hI hV L ha ks kf hx
 go_wp2_with (refine aL rfl _ _ _ rfl (jC x) rfl rfl rfl entry_size (by simp[jC,Value.oneCell']) ?_)
 intro w8 hH ex8;have k8:=k7.below hH;have rx8:=rx7.ext hH;have bx8:=bx7.ext hH;have ax8:=ax7.ext hH;have h8:=h7.below hH;have kF:=ag kG hH;clear k7 rx7 bx7 ax7 h7 hH kG;generalize w7.heap.size=gx at ex8;go_upto_region 11 with (fail)
 go_cut [16] (fun s16 wx=>s16 = .bool (copied H.ma p n)/\Below w8.heap.size w8 wx)
 case first=>
  have kZ:=ex8.cell;unfold jC at kZ
  by_cases c2:x.k=2
  ·have hG:Hid (copied H.ma p n=true):=ae (by rw[hs.out,decide_eq_true c2];rfl);rw[c2] at kZ;go_wp2;go_meet
   case rel=>exact⟨by rw[hG.out],Below.refl _ _⟩
  by_cases O:x.k=1
  ·obtain⟨f,Z,hf,_⟩:=gZ o.out (show (ent H.ma p n).k=1 by rw[a.out];exact O);rw[a.out] at Z;obtain⟨gf,of,hz,gS⟩:=kM fJ (by decide) h8.fr.rd f (show f<H.m.fs.length from hf);have qa:w8.cell? ⟨gf,of+f*13+11,none⟩=some (.int .i64 (H.m.fs[f]'hf).f):=by obtain⟨b',o',e',kx⟩:=gS 11 _ rfl;cases e';exact kx
   have gt:Hid (jD H.ma x.n=H.m.fs[f]'hf):=ae (by rw[Z];exact Uh (m:=H.ma) hf);have gu:(f:Int)<(H.m.fs.length:Int):=by have:f<H.m.fs.length:=hf;omega
   generalize H.m.fs[f]'hf=X at *
   have L:=bx8.cell;unfold fB at L;rw[hz] at L;clear hz;rw[O,Z] at kZ
   by_cases c3:X.f<0
   ·have hG:Hid (copied H.ma p n=true):=ae (by rw[hs.out,gt.out,decide_eq_true O,decide_eq_true c3,decide_eq_false c2];rfl);go_wp2;go_meet
    case rel=>exact⟨by rw[hG.out],Below.refl _ _⟩
   have hG:Hid (copied H.ma p n=false):=ae (by rw[hs.out,gt.out,decide_eq_true O,decide_eq_false c3,decide_eq_false c2];rfl);go_wp2;go_meet
   case rel=>exact⟨by rw[hG.out],Below.refl _ _⟩
  have hG:Hid (copied H.ma p n=false):=ae (by rw[hs.out,decide_eq_false O,decide_eq_false c2];rfl);have ka:(x.k==2)=false:=by simp[c2]
  have ky:(x.k==1)=false:=by simp[O]
  go_wp2;go_meet
  case rel=>exact⟨by rw[hG.out],Below.refl _ _⟩
 case rest=>
  obtain⟨rfl,kr⟩:=hcut;have k9:=k8.below kr;have rx9:=rx8.ext kr;have R:=ax8.ext kr;have kE:=ag kF kr;clear k8 rx8 bx8 ax8 h8 kr kF ex8 hs;obtain⟨A,hA⟩:∃A,Hid (A=kP H.ma p n):=⟨_,ae rfl⟩;rw[<-hA.out] at R hW ki kj gE;have gv:=kj.out;have gn:=gV.out;unfold uU at gv;have gg:IntKind.i64.wrap (A.ba+n)=A.ba+n:=bG _ (by omega);have ge:IntKind.i64.wrap (A.ba+n-A.fr)=A.ba+n-A.fr:=bG _ (by omega);clear gv gn;obtain⟨cp,hs⟩:∃cp,Hid (cp=copied H.ma p n):=⟨_,ae rfl⟩;rw[<-hs.out] at hW ⊢;obtain⟨hM,z⟩:∃hM:Bool,Hid (hM=(decide (0<=A.fi)&&!cp&&qF H.ma.st A.fi (A.ba+n-A.fr))):=⟨_,ae rfl⟩;go_upto_region 12 with (fail)
  go_cut [109] (fun s109 wx=>s109 = .bool hM/\Below wc.heap.size wc wx)
  case first=>
   have hX:=R.cell;unfold ku at hX
   by_cases O:0<=A.fi
   ·cases cp with
    | true=>
     have hD:decide (0<=A.fi)=true:=decide_eq_true O;have hE:Hid (hM=false):=ae (by rw[z.out,hD];rfl);go_quiet (fail);go_wp2;go_meet
     case rel=>exact⟨by rw[hE.out],below_drewN (Below.refl _ _) _⟩
    | false=>
     have kT:Hid (cK C.fi C.ct=H.ma.st):=ae (congrArg Ma.st hr.out);have hE:Hid (hM=qF (cK C.fi C.ct) A.fi (A.ba+n-A.fr)):=ae (by rw[z.out,kT.out,decide_eq_true O];rfl);have gu:A.fi<(C.fi.length:Int):=by have G:=ki.out;rw[<-kT.out] at G;have Z:(cK C.fi C.ct).fs.length=C.fi.length:=fH _;rw[Z] at G;exact G
     have gP:(aS (cK C.fi C.ct) A.fi).n<=9223372036854775807:=by have G:=(wh o.out.pt.st (f:=A.fi) ⟨O,by have:=ki.out;omega⟩).2.1;rw[<-kT.out] at G;have h2:(aS (cK C.fi C.ct) A.fi).n<=96:=G;omega
     refine aN 24 [_,_,_,_,_,_,_,_,_,_,_,_,_,_,_,_,_,_,_,_,_,_,.v (.bool (qF (cK C.fi C.ct) A.fi (A.ba+n-A.fr))),.v (.bool (qF (cK C.fi C.ct) A.fi (A.ba+n-A.fr)))] (Gf ga 5 rfl rfl (Gl R (V:=.int .i64 A.fi) (by simp[ku]) rfl rfl rfl rfl (Gb (.bool true) (by simp[go_sem,O]) rfl rfl rfl rfl rfl (Gk rfl (Gk rfl (Gk rfl (Gk rfl (Gk rfl (Gk rfl (Gk rfl (Gf b 0 rfl rfl (Gf b 7 rfl rfl (Gr (.agg #[.slice C.ai C.fi.length C.ci,.int .i64 C.ct]) (λρ y W hb gY=>(bF rfl (aI rfl gY) (k9.below hb).rdS underlying41 rfl store_size)) rfl rfl (Gf ga 5 rfl rfl (Gl R (V:=.int .i64 A.fi) (by simp[ku]) rfl rfl rfl rfl (Gf ga 6 rfl rfl (Gl R (V:=.int .i64 A.ba) (by simp[ku]) rfl rfl rfl rfl (Gk rfl (Gb (.int .i64 (A.ba+n)) (by simp[go_sem,gg]) rfl rfl rfl rfl rfl (Gf ga 0 rfl rfl (Gl R (V:=.int .i64 A.fr) (by simp[ku]) rfl rfl rfl rfl (Gb (.int .i64 (A.ba+n-A.fr)) (by simp[go_sem,ge]) rfl rfl rfl rfl rfl (ah ?_ (Gk rfl (aF))))))))))))))))))))))))) (λ_=>rfl) rfl ?_
     ·intro ρ y W hw hn hb hd;have g5:=hw 98 12 rfl;have g4:y 12=_:=hd 12 rfl;have gM:=hw 100 14 rfl;have g3:y 14=_:=hd 14 rfl;have gK:=hw 107 21 rfl;have g1:y 21=_:=hd 21 rfl;have EF:∀f,ρ (.func f) = .func (.func f) #[] #[]:=λf=>hn (.func f) trivial;refine aO _ _ (bD 7 93 true true rfl rfl ((hw 93 7 rfl).trans (hd 7 rfl))) (aT rfl (EF _) func43 (by kernel_rfl) (by kernel_rfl) (by simp only[bX,bR,aY,g5,g4,gM,g3,gK,g1,EF];rfl)) ?_;refine (TM C.fi C.ct A.fi (A.ba+n-A.fr) C.ai C.ci W (k9.below hb).ma.rd.st ⟨O,gu⟩ gP).mono ?_;rintro r W3 ⟨rfl,hJ⟩;exact⟨_,rfl,hJ,rfl⟩
     intro y W10 k3 _;go_wp2;go_meet
     case rel=>exact⟨by rw[hE.out],k3⟩
   have hD:decide (0<=A.fi)=false:=decide_eq_false O;have hE:Hid (hM=false):=ae (by rw[z.out,hD];rfl);go_quiet (fail);go_wp2;go_meet
   case rel=>exact⟨by rw[hE.out],below_drewN (Below.refl _ _) _⟩
  case rest=>
   obtain⟨rfl,hy⟩:=hcut;have k10:=k9.below hy;have rx10:=rx9.ext hy;have N:=R.ext hy;have hi:=ag kE hy;clear k9 rx9 R hy kE gg ge;cases hM with
   | true=>
    have hl:Hid (wO H.ma p n wr=9):=ae (by have G:=z.out.symm;simp only[dU,decide_eq_true_eq,tO] at G;rw[hW.out,if_pos ⟨G.1.1,G.1.2,G.2⟩]);clear k10 N hW
    go_wp2_with (refine aA rfl _ _ _ rfl (w.heap.size+1) (fB noH) rfl rfl _ _ rx10 rfl mach_size (jN noH) ?_)
    intro we kb a;have c:=hi.grown a hi.size (λk hk=>by cases hk;omega);go_wp2;refine bodyPost_ret (v:=.tuple #[.agg (fB noH),.int .i64 0,.int .i64 9]) (eQ results19 _ _ (w.heap.size+1) _ _ _ _ _ rfl rfl rfl kb underlying45 rfl mach_size) rfl ?_;exact⟨c,.inl ⟨by rw[hl.out];decide,by rw[hl.out]⟩⟩
   | false=>
    have kW:Hid (¬(0<=A.fi/\cp=false/\qF H.ma.st A.fi (A.ba+n-A.fr)=true)):=ae (by rintro⟨G,h2,h3⟩;have h4:=z.out;rw[decide_eq_true G,h2,h3] at h4;cases h4);have gh:Hid (wO H.ma p n wr=if (nE H.ma p n wr).2<0 then 10 else (nE H.ma p n wr).1.e):=ae (by rw[hW.out,if_neg kW.out]);have hO:Hid (0<=g.fi->(ent H.ma p n).k=0->qM H.ma.st g.fi g.pg):=ae (λG h2=>by
     obtain⟨a1,a2,a3,a4,a5,a6,a7⟩:=gE.out;refine Ie o.out.pt.st G (o.out.pt.pg kw.out).1 (λh3 => ?_);have h4:cp=false:=by rw[hs.out];unfold copied;rw[h2];rfl
     rcases h3 with h3|h3
     ·have:=ki.out;rw[a6] at this;omega
     ·exact kW.out ⟨by rw[a6];exact G,h4,by rw[a6,a7 G];exact h3⟩)
    have k2:=KG (k:=⟨H.ma,0⟩) o.out gb.out (p:=p) (n:=n) kV kw.out hO.out;obtain⟨gD,gC⟩:=MI o.out gb.out (w:=wr) kV kw.out (λe=>gp.out.1 e) hO.out;have km:Hid (nE H.ma p n wr=if 0<=(gL ⟨H.ma,0⟩ p n A).2/\wr=true/\(ent (gL ⟨H.ma,0⟩ p n A).1.m p n).w=false then wS (gL ⟨H.ma,0⟩ p n A).1 p n (gL ⟨H.ma,0⟩ p n A).2 A else gL ⟨H.ma,0⟩ p n A):=ae (by rw[hA.out];rfl);simp only[show kP (Kp.m ⟨H.ma,0⟩) p n=A from hA.out.symm] at k2;have i:=ae k2;have kN:=ae gD;have gB:=ae gC;have gF:Rt C.ma:=by rw[hr.out];exact o.out
    have gI:Co C.ma:=by rw[hr.out];exact gb.out
    have gc:kP C.ma p n=A:=by rw[hr.out];exact hA.out.symm
    have gr:fM C.ma p n=some g:=by rw[hr.out];exact kw.out
    have kB:0<=g.fi->(ent C.ma p n).k=0->qM C.ma.st g.fi g.pg:=by rw[hr.out];exact hO.out
    rw[<-gc] at N;clear k2 gD gC hW hO z kW ki kj
    go_wp2_with fail
    refine (Mk C 0 n p g ga w.heap.size b _ k10 gF gI N gl gr kB).mono ?_;rintro r w11 ⟨rfl,D,e11,k11,s11,U⟩;rw[gc] at N U ⊢;rw[hr.out] at U ⊢;have rx11:=s11.blk k10 rx10 machT;have ax11:=s11.blk k10 N areaT;have kq:=AV hi (s11.to k10 (az _));obtain⟨r1,gj⟩:∃r1,Hid (r1=gL ⟨H.ma,0⟩ p n A):=⟨_,ae rfl⟩;rw[<-gj.out] at U km i ⊢;have gA:e11=0:=(congrArg Kp.e U).trans i.out.1;subst gA;have s:=ae (congrArg Kp.m U);have gk:=ae U;clear U s11 k10 rx10 N hi gF gI gc gr kB gj;generalize hk2:r1.2=K at *
    obtain⟨hL,t⟩:∃hL:Bool,Hid (hL=(decide (0<=K)&&wr&&!(ent r1.1.m p n).w)):=⟨_,ae rfl⟩;go_upto_region 15 with (fail)
    go_cut [134] (fun s134 wx=>s134 = .bool hL/\Below w11.heap.size w11 wx)
    case first=>
     by_cases O:0<=K
     ·have hD:decide (0<=K)=true:=decide_eq_true O;cases wr with
      | false=>
       have l:Hid (hL=false):=ae (by rw[t.out,mZ];rfl);go_wp2;go_meet
       case rel=>exact⟨by rw[l.out],Below.refl _ _⟩
      | true=>
       have kc:p<D.sp.length:=by have Z:D.ma.sp.length=r1.1.m.sp.length:=congrArg (λm:Ma=>m.sp.length) s.out;rw[ul,i.out.2.vis.sk.len,ul] at Z;rw[Z];exact hp
       obtain⟨Q2,gG⟩:∃Q2,D.sp[p]?=some Q2:=⟨_,aH kc⟩;have gX:Hid (ent r1.1.m p n=dJ Q2.tb n):=ae (by rw[<-s.out];show dJ (dD D.ma p).tb n=_;rw[sD gG];rfl);obtain⟨g2,off2,kO,gi,kz,hP⟩:=k11.at gG;have L:=k11.blk.cell;unfold qR at L;rw[kO] at L;have gT:(p:Int)<(D.sp.length:Int):=by omega
       clear kO
       go_wp2_with (refine ay _ _ rfl g2 (off2+p*10+2) rfl rfl _ kz _ underlying74 tab_agg tab_size ?_)
       refine (xy Q2.tb (oh Q2.ts) n _ hP.tb).mono ?_;rintro r w12 ⟨rfl,j⟩;generalize dJ Q2.tb n=y at *
       have g9:=WO y;have l:Hid (hL = !y.w):=ae (by rw[t.out,hD,gX.out];rfl);clear L gi kz hP;go_wp2;go_meet
       case rel=>exact⟨by rw[l.out],j⟩
     have hD:decide (0<=K)=false:=decide_eq_false O;have l:Hid (hL=false):=ae (by rw[t.out,hD];rfl);go_wp2;go_meet
     case rel=>exact⟨by rw[l.out],Below.refl _ _⟩
    case rest=>
     obtain⟨rfl,j⟩:=hcut;have Y:=k11.below j;have rx12:=rx11.ext j;have S:=ax11.ext j;have hh:=ag kq j;clear k11 rx11 ax11 j kq;go_upto_if 134 with (fail)
     go_cut [17] (fun s17 wx => ∃(I:MH),s17 = .int .i64 (nE H.ma p n wr).2/\lG wx w.heap.size b I 0/\aG wx (w.heap.size+1) (fB noH) 45/\aG wx ga (ku A) 94/\Below w.heap.size w wx/\Hid (I.ma=(nE H.ma p n wr).1.m))
     case first=>
      cases hL with
      | false=>
       have l:Hid (nE H.ma p n wr=r1):=ae (by rw[km.out,if_neg];rintro⟨G,h2,h3⟩;have h4:=t.out;rw[decide_eq_true G,h2,h3] at h4;cases h4);go_wp2;go_meet
       case rel=>exact⟨D,by rw[l.out,hk2],Y,rx12,S,hh,ae (by rw[l.out];exact s.out)⟩
      | true=>
       have kk:0<=K/\wr=true/\(ent r1.1.m p n).w=false:=by have G:=t.out.symm;simp only[dU,decide_eq_true_eq,tO] at G;exact⟨G.1.1,G.1.2,G.2⟩
       have l:Hid (nE H.ma p n wr=wS r1.1 p n K A):=ae (by rw[km.out,if_pos kk]);obtain⟨y1,y2,_⟩:=i.out.2.yes kk.1;obtain⟨f,f1,hf,_⟩:=gZ i.out.2.rt y1;have kv:K=(f:Int):=by rw[<-y2,f1]
       have kc:p<D.sp.length:=by have Z:D.ma.sp.length=r1.1.m.sp.length:=congrArg (λm:Ma=>m.sp.length) s.out;rw[ul,i.out.2.vis.sk.len,ul] at Z;rw[Z];exact hp
       have gy:f<D.m.fs.length:=by have Z:D.m.fs.length=r1.1.m.m.fs.length:=congrArg (λm:Ma=>m.m.fs.length) s.out;rw[Z];exact hf
       have hj:=vT i.out.2.rt;rw[<-s.out] at hj;have kQ:D.sp.length<=1000/\D.ca.length<=1000/\D.m.fs.length<=1000:=⟨by have:=hj.sp.1;rwa [show (Kp.m ⟨D.ma,0⟩).sp.length=D.sp.length from ul D] at this,hj.ca,hj.fs⟩;clear kk hj y1 y2 f1 hf t;subst kv
       go_wp2_with fail
       refine (Ti D 0 n p f A ga w.heap.size b _ Y S kc gy kQ.1 kQ.2.1 kQ.2.2).mono ?_;rintro r w13 ⟨rfl,H13,e13,k13,s13,q13⟩;rw[gk.out] at q13 ⊢;have rx13:=s13.blk Y rx12 machT;have ax13:=s13.blk Y S areaT;have k0:=AV hh (s13.to Y (az _));rw[<-l.out] at q13 ⊢;have gz:e13=0:=(congrArg Kp.e q13).trans kN.out;subst gz;have gq:=ae (congrArg Kp.m q13);clear q13 s13 Y rx12 S hh;go_wp2;go_meet
       case rel=>exact⟨H13,rfl,k13,rx13,ax13,k0,gq⟩
     case rest=>
      clear Y rx12 S hh;obtain⟨I,rfl,kX,rxX,axX,hT,kY⟩:=hcut;generalize hK:(nE H.ma p n wr).2=K2
      by_cases O:K2<0
      ·have hl:Hid (wO H.ma p n wr=10):=ae (by rw[gh.out,hK,if_pos O]);clear kX axX
       go_wp2_with (refine aA rfl _ _ _ rfl (w.heap.size+1) (fB noH) rfl rfl _ _ rxX rfl mach_size (jN noH) ?_)
       intro we kb a;have c:=hT.grown a hT.size (λk hk=>by cases hk;omega);go_wp2;refine bodyPost_ret (v:=.tuple #[.agg (fB noH),.int .i64 0,.int .i64 10]) (eQ results19 _ _ (w.heap.size+1) _ _ _ _ _ rfl rfl rfl kb underlying45 rfl mach_size) rfl ?_;exact⟨c,.inl ⟨by rw[hl.out];decide,by rw[hl.out]⟩⟩
      have kS:Hid (wO H.ma p n wr=0):=ae (by rw[gh.out,hK,if_neg O];exact kN.out);have hU:=gB.out.1 (by rw[hK];omega);obtain⟨F,f1,hf,_⟩:=gZ hU.rt hU.k1;have kv:K2=(F:Int):=by rw[<-hK,<-hU.en,f1]
      have gw:F<I.m.fs.length:=by have Z:I.m.fs.length=(nE H.ma p n wr).1.m.m.fs.length:=congrArg (λm:Ma=>m.m.fs.length) kY.out;rw[Z];exact hf
      have kR:Hid (KX H.ma p n wr=(F:Int)):=ae (by rw[<-kv,<-hK];unfold KX;rw[bA]);have hB:Hid (Kj H.ma p n wr=(if (wr&&A.sh)=true then setFr (setFr I.ma F (lF (aD I.ma F))) F (uy (aD (setFr I.ma F (lF (aD I.ma F))) F) (aD (setFr I.ma F (lF (aD I.ma F))) F).p true) else setFr I.ma F (lF (aD I.ma F)))):=ae (by unfold Kj Oc;simp only[bA];rw[hK,kv,bA,<-hA.out,kY.out]);have gH:(F:Int)<(I.m.fs.length:Int):=by omega
      subst kv;clear hK hU f1 hf;obtain⟨gf,of,cur,hz,ht,kh,ha,hm⟩:=kX.frPut gw;have L:=kX.blk.cell;unfold qR at L;rw[hz] at L;clear hz ha
      go_wp2_with (refine aB rfl _ _ _ rfl gf (of+F*13+9) _ [.bool true] rfl rfl rfl _ _ ht (by simp;omega) vX (λu hu=>by cases bC.1 hu;rfl) ?_)
      intro w14 kK kD;obtain⟨J,s14⟩:=hm 9 1 [.bool true] (lF (aD I.ma F)) w14 rfl (by decide) rfl kK kD;have s14:=s14 _ _ (KS.refl _ _ _);have M:=s14.blk kX rxX machT;have ax14:=s14.blk kX axX areaT;have d:=AV hT (s14.to kX (az _));have kA:Hid (MH.ma { I with m:=⟨I.m.fs.set F (lF (aD I.ma F)),I.m.hand⟩ }=setFr I.ma F (lF (aD I.ma F))):=ae rfl;rw[<-kA.out] at hB;have hS:F<(I.m.fs.set F (lF (aD I.ma F))).length:=by rw[bK];exact gw
      clear L s14 kX rxX axX hT ht kh hm kK kD;generalize hH14:({ I with m:=⟨I.m.fs.set F (lF (aD I.ma F)),I.m.hand⟩ }:MH)=H14 at *
      have hS:F<H14.m.fs.length:=by rw[<-hH14];exact hS
      clear hH14 kA kY;have hX:=ax14.cell;unfold ku at hX;cases wr with
      | false=>
       have kd:H14.ma=Kj H.ma p n false:=by rw[hB.out];exact (if_neg (by simp)).symm
       have kl:=J.blk.cell;unfold qR at kl
       go_wp2_with (first | (refine ay _ _ rfl b 0 rfl rfl (fB H14).toList (bH J.blk 0 11) _ underlying45 rfl machine_size ?_) | (refine aA rfl _ _ _ rfl (w.heap.size+1) (fB H14) rfl rfl _ _ M rfl mach_size (jN _) ?_))
       intro we rxe a;have c:=d.grown a d.size (λk hk=>by cases hk;omega);have ke:=J.ma.keep M (by decide) a;go_wp2;refine bodyPost_ret (v:=.tuple #[.agg (fB H14),.int .i64 F,.int .i64 0]) (eQ results19 _ _ (w.heap.size+1) _ _ _ _ _ rfl rfl rfl rxe underlying45 rfl mach_size) rfl ?_;exact⟨c,.inr ⟨kS.out,_,by rw[kR.out],ke,kd⟩⟩
      | true=>
       cases hsh:A.sh with
       | false=>
        rw[hsh] at hX hB;have kd:H14.ma=Kj H.ma p n true:=by rw[hB.out];exact (if_neg (by simp)).symm
        have kl:=J.blk.cell;unfold qR at kl
        go_wp2_with (first | (refine ay _ _ rfl b 0 rfl rfl (fB H14).toList (bH J.blk 0 11) _ underlying45 rfl machine_size ?_) | (refine aA rfl _ _ _ rfl (w.heap.size+1) (fB H14) rfl rfl _ _ M rfl mach_size (jN _) ?_))
        intro we rxe a;have c:=d.grown a d.size (λk hk=>by cases hk;omega);have ke:=J.ma.keep M (by decide) a;go_wp2;refine bodyPost_ret (v:=.tuple #[.agg (fB H14),.int .i64 F,.int .i64 0]) (eQ results19 _ _ (w.heap.size+1) _ _ _ _ _ rfl rfl rfl rxe underlying45 rfl mach_size) rfl ?_;exact⟨c,.inr ⟨kS.out,_,by rw[kR.out],ke,kd⟩⟩
       | true=>
        rw[hsh] at hX hB;obtain⟨gf,of,cur,hz,ht,kh,ha,hm⟩:=J.frPut hS;have L:=J.blk.cell;unfold qR at L;rw[hz] at L;have gH:(F:Int)<(H14.m.fs.length:Int):=by omega
        clear hz ha
        go_wp2_with (refine aB rfl _ _ _ rfl gf (of+F*13+10) _ [.bool true] rfl rfl rfl _ _ ht (by simp;omega) vX (λu hu=>by cases bC.1 hu;rfl) ?_)
        intro w15 kJ kC;obtain⟨k15,s15⟩:=hm 10 1 [.bool true] (uy (aD H14.ma F) (aD H14.ma F).p true) w15 rfl (by decide) rfl kJ kC;have s15:=s15 _ _ (KS.refl _ _ _);have rx15:=s15.blk J M machT;have kp:=AV d (s15.to J (az _));have kd:Hid (MH.ma { H14 with m:=⟨H14.m.fs.set F (uy (aD H14.ma F) (aD H14.ma F).p true),H14.m.hand⟩ }=Kj H.ma p n true):=ae (by rw[hB.out];exact (if_pos (by simp)).symm);clear L s15 J M ax14 d ht kh hm kJ kC hX hB hS gH;generalize ({ H14 with m:=⟨H14.m.fs.set F (uy (aD H14.ma F) (aD H14.ma F).p true),H14.m.hand⟩ }:MH)=H15 at *
        have kl:=k15.blk.cell;unfold qR at kl
        go_wp2_with (first | (refine ay _ _ rfl b 0 rfl rfl (fB H15).toList (bH k15.blk 0 11) _ underlying45 rfl machine_size ?_) | (refine aA rfl _ _ _ rfl (w.heap.size+1) (fB H15) rfl rfl _ _ rx15 rfl mach_size (jN _) ?_))
        intro we rxe a;have c:=kp.grown a kp.size (λk hk=>by cases hk;omega);have ke:=k15.ma.keep rx15 (by decide) a;go_wp2;refine bodyPost_ret (v:=.tuple #[.agg (fB H15),.int .i64 F,.int .i64 0]) (eQ results19 _ _ (w.heap.size+1) _ _ _ _ _ rfl rfl rfl rxe underlying45 rfl mach_size) rfl ?_;exact⟨c,.inr ⟨kS.out,_,by rw[kR.out],ke,kd.out⟩⟩
def Eu (m:Ma) (p:Nat) (n:Int):Option Page:=
 if (ent m p n).k=1 then (if (jD m (ent m p n).n).f<0 then some (jD m (ent m p n).n).p else none)
 else if (ent m p n).k=2 then some (dL m.sw (ent m p n).n) else none
instance (s:St) (f i:Int):Decidable (qM s f i):=by unfold qM;infer_instance
def xG (m:Ma) (p:Nat) (l:List Ar):Ma:={ m with sp:=m.sp.set p { dD m p with ar:=l } }
theorem Oy (h:(ent m p n).k=0):Eu m p n=none:=by
 unfold Eu;rw[if_neg (by omega),if_neg (by omega)]
def XK (m:Ma):Prop:=∀p n g,fM m p n=some g->g.fi<m.st.fs.length
structure UL (m:Ma):Prop where
 rt:Rt m
 co:Co m
 fi:XK m
def putB (b:List UInt8) (k:Nat) (d:List UInt8):List UInt8:=(List.range b.length).map λj=>if k<=j/\j<k+d.length then d.getD (j-k) 0 else b.getD j 0
def Ez (g:Pg) (wr:Bool):Bool:=if wr=true then g.wr else g.rd
theorem xN {l:List Ar} (d:p<m.sp.length) (q:Nat):dD (xG m p l) q=if q=p then { dD m p with ar:=l } else dD m q:=by
 unfold xG;show (m.sp.set p _).getD q zSp=_;rw[aX,nR]
 by_cases e:q=p
 ·subst e;rw[if_pos rfl,if_pos d,if_pos rfl];rfl
 ·rw[if_neg (ou e),if_neg e];unfold dD;rw[aX]
theorem OL {l:List Ar} (d:p<m.sp.length) (q:Nat) (n:Int):ent (xG m p l) q n=ent m q n:=by
 unfold ent;rw[xN d]
 by_cases e:q=p
 ·rw[if_pos e,e]
 ·rw[if_neg e]
theorem Bl {l:List Ar} (d:p<m.sp.length) (q:Nat) (n:Int):fM (xG m p l) q n=if q=p then onA l n else fM m q n:=by
 unfold fM;rw[xN d]
 by_cases e:q=p
 ·rw[if_pos e,if_pos e]
 ·rw[if_neg e,if_neg e]
theorem Ui (z:m'.sp.length=m.sp.length) (y:∀p,(dD m' p).tb=(dD m p).tb) (kd i:Int):bO m' kd i=bO m kd i:=by
 have e:m'.sp.map Sp.tb=m.sp.map Sp.tb:=by
  apply uH
  ·simpa using z
  intro j d h2;simp only[fH] at d h2;simp only[wy];have u:=zt (m:=m') (p:=j) d;have h:=zt (m:=m) (p:=j) h2;rw[aH d] at u;rw[aH h2] at h;rw[aM u,aM h];exact y j
 have k:∀l:List Sp,(l.map λs:Sp=>(dI s.tb).countP (pK kd i))=(l.map Sp.tb).map λt=>(dI t).countP (pK kd i):=λl=>by rw[List.map_map];rfl
 unfold bO;rw[k,k,e]
theorem Sz (h:Rt m) (D:Co m) (z:p<m.sp.length) (F:(dD m p).lv=true) {l:List Ar} (G:(bQ l).1=0)
 (C:∀n,(ent m p n).k≠0->∃g,onA l n=some g/\RO m g (ent m p n)):Rt (xG m p l)/\Co (xG m p l):=by
 have c:=λq=>xN (l:=l) z q;have a:=λq n=>OL (l:=l) z q n;have d:Pt (xG m p l):={ h.pt with
  spl:=by show (m.sp.set p _).length<=4;rw[bK];exact h.pt.spl
  ar:=λs u=>by
   rcases lL u with u|rfl
   ·exact h.pt.ar s u
   ·exact G
  tb:=λs u=>by
   rcases lL u with u|rfl
   ·exact h.pt.tb s u
   ·exact h.pt.tbN p }
 have b:∀kd i,bO (xG m p l) kd i=bO m kd i:=Ui (by show (m.sp.set p _).length=_;rw[bK]) λq=>by
  rw[c]
  by_cases e:q=p
  ·rw[if_pos e,e]
  ·rw[if_neg e]
 refine⟨⟨d,h.trim,λq y => ?_,⟨h.ca.file,h.ca.lt,h.ca.fr,h.ca.srt⟩,λq j A => ?_,λi I=>by rw[b];exact h.cf i I,h.fc,λs u=>by rw[b];exact h.cs s u⟩,⟨D.tail,D.clean,D.anon⟩⟩
 ·rw[c] at y ⊢
  by_cases e:q=p
  ·rw[if_pos e] at y;have:(dD m p).lv=false:=y;rw[F] at this;cases this
  rw[if_neg e] at y ⊢;exact⟨(h.live q y).1,λn=>by rw[a];exact (h.live q y).2 n⟩
 rw[a] at A ⊢;rw[Bl z]
 by_cases e:q=p
 ·rw[if_pos e];subst e;obtain⟨g,E,h2⟩:=C j A;exact⟨g,E,h2.sw,h2.lt,h2.fr⟩
 rw[if_neg e];obtain⟨g,E,h2⟩:=h.en q j A;exact⟨g,E,h2.sw,h2.lt,h2.fr⟩
theorem Nl :copied m p n=false↔Eu m p n=none:=by
 unfold copied Eu
 by_cases k1:(ent m p n).k=1
 ·have d:¬(ent m p n).k=2:=by omega
  rw[if_pos k1]
  by_cases h:(jD m (ent m p n).n).f<0
  ·rw[if_pos h];simp[k1,h]
  ·rw[if_neg h];simp[k1,h,d]
 rw[if_neg k1]
 by_cases d:(ent m p n).k=2
 ·rw[if_pos d];simp[d]
 ·rw[if_neg d];simp[k1,d]
theorem Vw (F:UL m) {w:Bool} (K:p<m.sp.length) (I:(dD m p).lv=true) :
  (fM m p n=none/\wO m p n w=5)\/∃g,fM m p n=some g/\(Ez g w=false/\wO m p n w=8\/Ez g w=true /\
   ((0<=g.fi/\Eu m p n=none/\¬qM m.st g.fi g.pg)/\wO m p n w=9\/¬(0<=g.fi/\Eu m p n=none/\¬qM m.st g.fi g.pg) /\
    (wO m p n w=10/\(nE m p n w).2<0\/wO m p n w=0/\0<=KX m p n w/\VC m (Kj m p n w) p n w g (KX m p n w)))):=by
 have A:=F.rt;have O:=F.co;have J:wO m p n w=if pI m p n w≠0 then pI m p n w
  else if 0<=(kP m p n).fi/\copied m p n=false/\qF m.st (kP m p n).fi ((kP m p n).ba+n-(kP m p n).fr)=true then 9
  else if (nE m p n w).2<0 then 10 else (nE m p n w).1.e:=by
  unfold wO;rw[if_neg (by rw[Ir.2 A];simp),if_neg (by rw[bA,I];simp;omega),bA]
 rw[J];cases hg:fM m p n with
 | none=>
  left
  have N:gU (dD m p).ar n<0:=by have W:¬0<=gU (dD m p).ar n:=λh2=>(yG (dD m p).ar n).1 h2 hg;omega
  have:pI m p n w=5:=by unfold pI;rw[if_pos N]
  rw[this,if_pos (by decide)];exact⟨rfl,rfl⟩
 | some g=>
  right
  refine⟨g,rfl,?_⟩;obtain⟨a1,Z,V,Y,X,S,G⟩:=BO hg
  by_cases u:Ez g w=true
  ·right
   refine⟨u,?_⟩;have b:(w=true->g.wr=true)/\(w=false->g.rd=true):=by
    unfold Ez at u;cases w
    ·exact⟨λe=>(by cases e),λ_=>by simpa using u⟩
    ·exact⟨λ_=>by simpa using u,λe=>(by cases e)⟩
   rw[(Js hg).2 b,if_neg (by decide)];have c:(0<=(kP m p n).fi/\copied m p n=false/\qF m.st (kP m p n).fi ((kP m p n).ba+n-(kP m p n).fr)=true)↔(0<=g.fi/\Eu m p n=none/\¬qM m.st g.fi g.pg):=by
    rw[S,Nl];constructor
    ·rintro⟨z,D,E⟩;rw[G z] at E;exact⟨z,D,λM=>wo A.pt.st M (.inr E)⟩
    rintro⟨z,D,E⟩;refine⟨z,D,?_⟩;rw[G z];refine AO λa=>E (Ie A.pt.st z (A.pt.pg hg).1 λy => ?_);rcases y with y|y
    ·have:=F.fi p n g hg;omega
    ·exact a y
   by_cases C:0<=g.fi/\Eu m p n=none/\¬qM m.st g.fi g.pg
   ·left
    rw[if_pos (c.2 C)];exact⟨C,rfl⟩
   right
   rw[if_neg (λh=>C (c.1 h))];refine⟨C,?_⟩;have d:0<=g.fi->(ent m p n).k=0->qM m.st g.fi g.pg:=λz D=>AO λL=>C ⟨z,Oy D,L⟩;obtain⟨j,i,l⟩:=MI A O (w:=w) K hg b.1 d
   by_cases y:(nE m p n w).2<0
   ·left
    rw[if_pos y];exact⟨rfl,y⟩
   right
   rw[if_neg y,j];have U:=i (by omega);refine⟨rfl,by show 0<=(nE m (p:Int).toNat n w).2;rw[bA];omega,?_⟩;have:=U.mark (e:=(nE m p n w).1.e) hg;unfold Kj KX;rw[bA,V];exact this
  left
  have f : Ez g w=false:=by simpa using u
  refine⟨f,?_⟩;have a:pI m p n w≠0:=λe=>by
   have:=(Js hg).1 e;unfold Ez at u;cases w
   ·exact u (by simpa using this.2 rfl)
   ·exact u (by simpa using this.1 rfl)
  have R:pI m p n w=8:=by
   unfold pI at a ⊢;rw[if_neg (by omega)] at a ⊢;split at a
   ·rename_i h;rw[if_pos h]
   ·exact absurd rfl a
  rw[if_pos a,R]
theorem srt_on9:∀ {l:List Ar} {u:Int},srtF u l->∀a∈l,∃n,onA l n=some (kN a n)
 | [],_,_,_,h=>by cases h
 | b::l,u,hs,a,h=>by
  rcases dw.1 h with rfl|h
  ·refine⟨a.fr,?_⟩;rw[dm,if_pos];have:=(bL hs.1).2.1;rw[dN];omega
  obtain⟨n,d⟩:=srt_on9 hs.2.2 a h;refine⟨n,?_⟩;rw[dm,if_neg]
  ·exact d
  intro y;rw[dN] at y;rw[on_low hs.2.2 y.2] at d;cases d
theorem UL.fi9 (h:UL m):Uz m:=λp a u=>by
 obtain⟨n,d⟩:=srt_on9 (nG (jM.1 (h.rt.pt.arN p)).2) a u;exact h.fi p n _ d
theorem Tg (y:Rt H.ma) (A:Co H.ma) (h:∀p∈H.sp,∀n g,onA p.ar n=some g->g.fi<H.fi.length):UL H.ma:=⟨y,A,λp n g d=>by
 rw[show H.ma.st.fs.length=H.fi.length from fH _]
 by_cases u:p<H.sp.length
 ·have z:H.sp[p]?=some H.sp[p]:=aH u;unfold fM at d;rw[sD z] at d;exact h _ (eO u) n g d
 unfold fM at d;rw[qp (by rw[ul];omega)] at d;cases d⟩
theorem TW (H:MH) (p n:Int) (wr:Bool) (w:World) (h:FD w H) (E:Rt H.ma) (L:Co H.ma) (I:QA H p) :
  Calls Tryz.prog 19 #[.agg (fB H),.int .i64 p,.int .i64 n,.bool wr] w λr w'=>r = .returned (.tuple #[.agg (fB noH),.int .i64 0,.int .i64 5])/\Below w.heap.size w w':=by
 have j:=ae I;clear I;have s:=ae E;have x:=ae L;have t:=ae (vT E);clear E L;go_enter func19,ntmps19;go_upto_region 1 with (fail);refine wH (λW=>Code.wp _ _ _ _ W) λw1 g y z m => ?_;have y:aG w1 w.heap.size (fB H) 45:=y;have z:aG w1 (w.heap.size+1) (fB noH) 45:=z;have D:=h.below g;clear h
 go_wp2_with (refine ay _ _ rfl w.heap.size 0 rfl rfl _ y.rd _ underlying45 rfl machine_size ?_)
 refine (yP H _ D).mono ?_;rintro r w2 ⟨rfl,f⟩;rw[Ir.2 s.out];have h2:=D.below f;have F:=y.ext f;have A:=z.ext f;have a:=ag g f;clear D y z g f m;have J:=F.cell;unfold fB at J
 by_cases U:p<0
 ·skip
  go_wp2_with (refine aA rfl _ _ _ rfl (w.heap.size+1) (fB noH) rfl rfl _ _ A rfl mach_size (jN noH) ?_)
  intro G c d;have b:=a.grown d a.size (λk C=>by cases C;omega);go_wp2;refine bodyPost_ret (v:=.tuple #[.agg (fB noH),.int .i64 0,.int .i64 5]) (eQ results19 _ _ (w.heap.size+1) _ _ _ _ _ rfl rfl rfl c underlying45 rfl mach_size) rfl ?_;exact⟨rfl,b⟩
 by_cases S:(H.sp.length:Int)<=p
 ·skip
  go_wp2_with (refine aA rfl _ _ _ rfl (w.heap.size+1) (fB noH) rfl rfl _ _ A rfl mach_size (jN noH) ?_)
  intro G c d;have b:=a.grown d a.size (λk C=>by cases C;omega);go_wp2;refine bodyPost_ret (v:=.tuple #[.agg (fB noH),.int .i64 0,.int .i64 5]) (eQ results19 _ _ (w.heap.size+1) _ _ _ _ _ rfl rfl rfl c underlying45 rfl mach_size) rfl ?_;exact⟨rfl,b⟩
 obtain⟨P,N⟩:∃P:Nat,p=P:=⟨p.toNat,by omega⟩;subst N;have o:P<H.sp.length:=by omega
 obtain⟨O,M,Q,q,K,i⟩:=uf h2.sp.rd P o;rw[q] at J;have u:w2.cell? ⟨O,M+P*10,none⟩=some (.bool false):=by
  obtain⟨V,R,e',l⟩:=i 0 _ rfl;cases e';have D:Q.lv=false:=by
   rcases j.out with e|e|e
   ·omega
   ·omega
   ·rw[bA,sD K] at e;exact e
  rw[D] at l;exact l
 clear K i j
 go_wp2_with (refine aA rfl _ _ _ rfl (w.heap.size+1) (fB noH) rfl rfl _ _ A rfl mach_size (jN noH) ?_)
 intro G c d;have b:=a.grown d a.size (λk C=>by cases C;omega);go_wp2;refine bodyPost_ret (v:=.tuple #[.agg (fB noH),.int .i64 0,.int .i64 5]) (eQ results19 _ _ (w.heap.size+1) _ _ _ _ _ rfl rfl rfl c underlying45 rfl mach_size) rfl ?_;exact⟨rfl,b⟩
def WE (m:Ma) (b:Prop) (p n:Int) (wr:Bool) (e:Int):Prop:=
 e=5/\(b\/fM m p.toNat n=none)\/¬b/\∃g,fM m p.toNat n=some g/\(e=8/\Ez g wr=false\/Ez g wr=true /\
  (e=9/\(0<=g.fi/\Eu m p.toNat n=none/\¬qM m.st g.fi g.pg)\/e=10/\(nE m p.toNat n wr).2<0/\¬(0<=g.fi/\Eu m p.toNat n=none/\¬qM m.st g.fi g.pg)))
def XA (H:MH) (p n:Int) (wr:Bool) (w:World) (r:Ending) (w' : World):Prop:=
 Below w.heap.size w w'/\((∃e:Int,r = .returned (.tuple #[.agg (fB noH),.int .i64 0,.int .i64 e])/\e≠0/\WE H.ma (QA H p) p n wr e) \/
  ∃(P:Nat) (H' : MH) (f:Nat) (g:Pg),p=P/\P<H.sp.length/\¬QA H p/\fM H.ma P n=some g/\Ez g wr=true/\r = .returned (.tuple #[.agg (fB H'),.int .i64 f,.int .i64 0])/\wR w' w.heap.size H'/\f<H'.m.fs.length/\VC H.ma H'.ma P n wr g f)
theorem Ef (H:MH) (p n:Int) (wr:Bool) (w:World) (h:FD w H) (C:UL H.ma) :
  Calls Tryz.prog 19 #[.agg (fB H),.int .i64 p,.int .i64 n,.bool wr] w (XA H p n wr w):=by
 by_cases z:QA H p
 ·refine (TW H p n wr w h C.rt C.co z).mono ?_;rintro r w' ⟨rfl,c⟩;exact⟨c,.inl ⟨5,rfl,by decide,.inl ⟨rfl,.inl z⟩⟩⟩
 obtain⟨P,rfl,G,K⟩:∃P:Nat,p=P/\P<H.sp.length/\(dD H.ma P).lv=true:=by
  refine⟨p.toNat,?_,?_,?_⟩
  ·have:¬p<0:=λe=>z (.inl e);omega
  ·have y:¬p<0:=λe=>z (.inl e);have h2:¬(H.sp.length:Int)<=p:=λe=>z (.inr (.inl e));omega
  cases e:(dD H.ma p.toNat).lv with
  | true=>rfl
  | false=>exact absurd (.inr (.inr e)) z
 refine (Ru H P n wr w h C.rt C.co C.fi9 G K).mono ?_;rintro r w' ⟨c,b⟩;refine⟨c,?_⟩;have a:=Vw C (n:=n) (w:=wr) (by rw[ul];exact G) K;rcases b with ⟨E,rfl⟩|⟨A,H',rfl,M,I⟩
 ·left
  refine⟨_,rfl,E,?_⟩;unfold WE;rw[bA];rcases a with ⟨y,h2⟩|⟨g,J,y⟩
  ·exact .inl ⟨h2,.inr y⟩
  right
  refine⟨z,g,J,?_⟩;rcases y with ⟨y,h2⟩|⟨y,h2⟩
  ·exact .inl ⟨h2,y⟩
  right
  refine⟨y,?_⟩;rcases h2 with ⟨F,u⟩|⟨F,u⟩
  ·exact .inl ⟨u,F⟩
  right
  rcases u with u|u
  ·exact⟨u.1,u.2,F⟩
  ·exact absurd u.1 E
 right
 rcases a with ⟨y,h2⟩|⟨g,J,y⟩
 ·rw[h2] at A;cases A
 rcases y with ⟨y,h2⟩|⟨y,h2⟩
 ·rw[h2] at A;cases A
 rcases h2 with ⟨F,u⟩|⟨F,u⟩
 ·rw[u] at A;cases A
 rcases u with ⟨u,_⟩|⟨_,O,D⟩
 ·rw[u] at A;cases A
 obtain⟨f,N⟩:∃f:Nat,KX H.ma P n wr=f:=⟨(KX H.ma P n wr).toNat,by omega⟩;rw[N] at D ⊢;rw[<-I] at D;obtain⟨L,R,d,_⟩:=gZ D.rt D.k1;have:L = f:=by have:=D.en;omega
 subst this;exact⟨P,H',L,g,rfl,G,z,J,y,rfl,M,d,D⟩
theorem vY (l:List Fr) (x:Nat) (y:Fr):dQ l<=dQ (l.set x y)+1:=by
 unfold dQ
 induction l generalizing x with
 | nil=>simp
 | cons a l ih=>
  cases x with
  | zero=>
   rw[uF,vD,vD];split<;>split<;>simp<;>omega
  | succ x=>
   have:=ih x;rw[tZ,vD,vD];split<;>simp<;>omega
theorem KD {k:Kp} {P:Page} {f i:Int} (d:dQ k.m.m.fs≠0):∃y:Fr,(ed k P f i).1.m.m.fs=if (ed k P f i).2<0 then k.m.m.fs else k.m.m.fs.set (ed k P f i).2.toNat y:=by
 unfold ed;rw[if_neg d];unfold kR
 by_cases h:ik k.m.m P f i≠0
 ·rw[if_pos h];exact⟨fr0,by simp⟩
 rw[if_neg h];refine⟨bJ P f i,?_⟩;show (fo k.m.m P f i).fs=_;unfold fo;rw[if_pos (qL.1 h),if_neg (by simp)];simp
theorem Po (k:Kp) (f n:Int):∃y:Fr,(gB k f n).m.m.fs=k.m.m.fs.set f.toNat y\/(gB k f n).m.m.fs=k.m.m.fs:=by
 unfold gB;split
 ·rename_i h;refine⟨ig (k.m.m.fs.getD f.toNat fr0) n,Or.inl ?_⟩;show (lT k.m.m f n).fs=_;unfold lT;rw[if_pos h]
 ·exact⟨fr0,.inr rfl⟩
theorem Jt (k:Kp) (p:Nat) (n:Int) (x:En):(eP k p n x).m.m=k.m.m:=by unfold eP;split<;>rfl
theorem Px {k:Kp} {a:Ar} (C:dQ k.m.m.fs≠0):dQ k.m.m.fs<=dQ (gL k p n a).1.m.m.fs+1:=by
 have b:∀(k' : Kp) P f i,k'.m.m=k.m.m->dQ k.m.m.fs<=dQ (ed k' P f i).1.m.m.fs+1:=λk' P f i e=>by
  obtain⟨y,d⟩:=KD (k:=k') (P:=P) (f:=f) (i:=i) (by rw[e];exact C);rw[d];split
  ·rw[e];omega
  ·rw[e];exact vY _ _ _
 unfold gL;dsimp only;split
 ·dsimp only;omega
 split
 ·split
  ·dsimp only;omega
  split
  ·exact b _ _ _ _ rfl
  split
  ·exact b _ _ _ _ rfl
  dsimp only;rw[Jt];exact b _ _ _ _ rfl
 split
 ·unfold WJ;split
  ·exact b _ _ _ _ rfl
  dsimp only;rw[Jt];exact b _ _ _ _ rfl
 have c:(eX k a.fi (a.ba+n-a.fr)).2<0/\dQ k.m.m.fs<=dQ (eX k a.fi (a.ba+n-a.fr)).1.m.m.fs+1\/∃y,(eX k a.fi (a.ba+n-a.fr)).1.m.m.fs=k.m.m.fs.set (eX k a.fi (a.ba+n-a.fr)).2.toNat y:=by
  unfold eX;split
  ·right
   exact⟨_,rfl⟩
  dsimp only;split
  ·left
   exact⟨by show (-1:Int)<0;decide,b _ _ _ _ rfl⟩
  right
  rename_i u;obtain⟨y,d⟩:=KD (k:=⟨k.m,Fu k a.fi (a.ba+n-a.fr)⟩) (P:=dx k.m a.fi (a.ba+n-a.fr)) (f:=a.fi) (i:=a.ba+n-a.fr) C;rw[if_neg u] at d;exact⟨y,d⟩
 split
 ·rename_i u;rcases c with ⟨_,h⟩|⟨y,h⟩
  ·exact h
  ·rw[h];exact vY _ _ _
 rename_i u;dsimp only;rw[Jt];rcases c with ⟨h,_⟩|⟨y,h⟩
 ·exact absurd h u
 obtain⟨z,A|A⟩:=Po (eX k a.fi (a.ba+n-a.fr)).1 (eX k a.fi (a.ba+n-a.fr)).2 1
 ·rw[A,h,Di];exact vY _ _ _
 ·rw[A,h];exact vY _ _ _
theorem SX (h:Rt m) (I:Co m) {w:Bool} {g:Pg} (D:p<m.sp.length) (F:fM m p n=some g) (u:Ez g w=true) (G:¬(0<=g.fi/\Eu m p n=none/\¬qM m.st g.fi g.pg)) (h2:2<=uJ m.m.fs):¬(nE m p n w).2<0:=λy=>by
 have L:uJ m.m.fs=dQ m.m.fs:=by unfold uJ dQ;rw[DI]
 have d : w=true->g.wr=true:=λe=>by unfold Ez at u;rw[e] at u;simpa using u
 obtain⟨_,_,z⟩:=MI h I (w:=w) D F d (λK J=>AO λE=>G ⟨K,Oy J,E⟩);have C:dQ m.m.fs≠0:=by omega
 have A:=Px (k:=⟨m,0⟩) (p:=p) (n:=n) (a:=kP m p n) C;rcases z y with e|e
 ·exact C e
 rw[e] at A;have:dQ m.m.fs<=0+1:=A;omega
theorem Ko {p:Int} {e:Int} (u:UL H.ma) (z:WE H.ma (QA H p) p n wr e) (h2:2<=uJ H.m.fs):e≠10:=by
 rintro rfl;rcases z with ⟨h,_⟩|⟨d,g,A,⟨h,_⟩|⟨y,⟨h,_⟩|⟨_,D,C⟩⟩⟩
 ·cases h
 ·cases h
 ·cases h
 refine SX u.rt u.co ?_ A y C h2 D;rw[ul];have E:¬p<0:=λe=>d (.inl e);have h2:¬(H.sp.length:Int)<=p:=λe=>d (.inr (.inl e));omega
theorem UJ {g:Pg} (U:VC m m' p n true g f) (y:fM m p n=some g) (C:g.sh=false):(aD m' f).f<0/\(aD m' f).r=1:=by
 have b : fM m' p n=some g:=by unfold fM at y ⊢; rw[U.vis.sk.ar];exact y
 obtain⟨A,I,D,E,F,c,G,d,a⟩:=gZ U.rt U.k1;have:A = f:=by have:=U.en;omega
 subst this;have u:=U.own rfl C;rw[sQ b U.k1] at u;have z:(aD m' A).f<0:=by have h:=of_decide_eq_true u;unfold jD at h;rw[U.en,bA] at h;exact h
 have h:=a.2.2.2.2 (U.ew rfl) z;have h2:=((dK _).1 (U.rt.pt.frE D)).1.1;exact⟨z,by omega⟩
theorem Tw {o:Nat} (m:World->Prop) (u:aG w b cur T) (h:∀W,w.grownBy W (some b)->aG W b (cur.setIfInBounds o v) T->m W):m (w.setCell ⟨b,o,none⟩ v):=by
 have d:=aC w b o [v];have h2:aG (w.setCells b o [v]) b (bI cur o [v]) T:=u.setCells [v] o;exact h _ ⟨d.os,d.tape,d.output,d.size,d.block⟩ h2
end Go.Proofs.YthihaopabbpalaaGreat