import Derived.Test.YthihaopabbpalaaGreatA4
import Derived.BigQuiet
import Derived.Deep.OwnRows
import Derived.Deep.DeepCutAuto
import Derived.BigRegion
import Derived.Deep.QuietTactic
set_option linter.unusedSimpArgs false
set_option linter.unusedVariables false
set_option linter.unnecessarySimpa false
set_option maxHeartbeats 4000000
set_option maxRecDepth 100000
namespace Go.Proofs.YthihaopabbpalaaGreat
open _root_.Go.Proofs.Tryz
open Go.RowKit Go.Maps Pw
variable {P:Program} {b c g i j k p:Nat} {e t:TypeId} {l:List Int} {m:Ma} {n:Int} {o:Oper} {w:World} {x:Operand} {ρ:Operand -> Value}
def JB(m:Ma):List Int:=[bu m.m,dL m.sl,bX m.sw,bX m.dk,aT m.st]
theorem Qc(C:k<5)(h:∀j,j<k->(JB m).getD j 0=0)(d:(JB m).getD k 0≠0):iU m=(JB m).getD k 0:=by
 unfold iU;have y:0<k->bu m.m=0:=λu=>h 0 u;have z:1<k->dL m.sl=0:=λu=>h 1 u;have A:2<k->bX m.sw=0:=λu=>h 2 u;have D:3<k->bX m.dk=0:=λu=>h 3 u
 match k,C with
 | 0,_=>rw[if_pos (show bu m.m≠0 from d)];rfl
 | 1,_=>rw[if_neg (by rw[y (by omega)];simp),if_pos (show dL m.sl≠0 from d)];rfl
 | 2,_=>rw[if_neg (by rw[y (by omega)];simp),if_neg (by rw[z (by omega)];simp),if_pos (show bX m.sw≠0 from d)];rfl
 | 3,_=>rw[if_neg (by rw[y (by omega)];simp),if_neg (by rw[z (by omega)];simp),if_neg (by rw[A (by omega)];simp),if_pos (show bX m.dk≠0 from d)];rfl
 | 4,_=>rw[if_neg (by rw[y (by omega)];simp),if_neg (by rw[z (by omega)];simp),if_neg (by rw[A (by omega)];simp),if_neg (by rw[D (by omega)];simp),if_pos (show aT m.st≠0 from d)];rfl
 | n+5,u=>omega
def XB(B:Nat)(H:MH):mP:=⟨λv w => ∃g,v = .slice (some ⟨g,0,none⟩) 5 5/\aG w g #[.int .i64 (bu H.m),.int .i64 (dL H.sl),.int .i64 (bX H.sw),.int .i64 (bX H.dk),.int .i64 (aT (cZ H.fi H.ct))] 47,λ_ _ _ hb ⟨g,h1,h2⟩=>⟨g,h1,h2.ext hb⟩⟩
theorem Rj(H:MH)(b:Nat)(w:World)(J:aG w b (dF H) 45)(h:wI w H) :
  Calls Tryz.prog 81 #[.pointer (some ⟨b,0,none⟩)] w λr w'=>r = .returned (.int .i64 (iU H.ma))/\Below w.heap.size w w':=by
 go_enter func81,ntmps81;go_upto_region 1 with(fail);refine aO 28 [_,_,_,_,.v (.int .i64 (bu H.m)),_,_,_,_,.v (.int .i64 (dL H.sl)),_,_,_,_,.v (.int .i64 (bX H.sw)),_,_,_,_,.v (.int .i64 (bX H.dk)),_,_,_,_,.v (.int .i64 (aT (cZ H.fi H.ct))),.r 25 ((XB w.heap.size H)),.v (.int .i64 5),_] (Gk rfl (Gk rfl (Gf b 0 rfl rfl (Gr (.agg #[.slice H.af H.m.fs.length H.cf,.int .i64 H.m.hand]) (λρ y W C g=>(bJ rfl (aH rfl g) (bF (J.ext C) 0 2) underlying32)) rfl rfl (ah ?_ (Gk rfl (Gk rfl (Gf b 2 rfl rfl (Gl J rfl rfl rfl rfl rfl (ah ?_ (Gk rfl (Gk rfl (Gf b 3 rfl rfl (Gr (.agg #[.slice H.wb H.sw.blocks.length H.cwb,.slice H.wq H.sw.queue.length H.cwq]) (λρ y W C g=>(bJ rfl (aH rfl g) (bF (J.ext C) 3 2) underlying38)) rfl rfl (ah ?_ (Gk rfl (Gk rfl (Gf b 5 rfl rfl (Gr (.agg #[.slice H.db H.dk.blocks.length H.cdb,.slice H.dq H.dk.queue.length H.cdq]) (λρ y W C g=>(bJ rfl (aH rfl g) (bF (J.ext C) 5 2) underlying38)) rfl rfl (ah ?_ (Gk rfl (Gk rfl (Gf b 7 rfl rfl (Gr (.agg #[.slice H.ai H.fi.length H.ci,.int .i64 H.ct]) (λρ y W C g=>(bJ rfl (aH rfl g) (bF (J.ext C) 7 2) underlying41)) rfl rfl (ah ?_ (ah ?_ (ah ?_ (Gr (.int .i64 0) (λρ y W C g=>(run_move (.inl rfl) (aH rfl g))) rfl rfl (aF))))))))))))))))))))))))))))) (λ_=>rfl) rfl ?_
 ·intro ρ y W D I C A;have kw:=D 12 3 rfl;have h3:y 3=_:=A 3 rfl;have F:=eF0 I λ_=>trivial;refine aP (aS rfl (F _) func125 (by simp only[bU,bS,aZ,kw,h3,F];rfl)) ?_;refine(vV H.m _ _ W (h.below C).fr).mono ?_;rintro r w1 ⟨rfl,p⟩;exact⟨_,rfl,p,rfl⟩
 ·intro ρ y W D I C A;have ku:=D 17 8 rfl;have h8:y 8=_:=A 8 rfl;have F:=eF0 I λ_=>trivial;refine aP (aS rfl (F _) func126 (by simp only[bU,bS,aZ,ku,h8,F];rfl)) ?_;refine(xD H.sl _ _ W (h.below C).sl.rd (by have:=h.sl.le;have:=h.sl.mx;unfold maxLen at this;omega)).mono ?_;rintro r w1 ⟨rfl,rfl⟩;exact⟨_,rfl,Below.refl _ _,rfl⟩
 ·intro ρ y W D I C A;have ks:=D 22 13 rfl;have kk:y 13=_:=A 13 rfl;have F:=eF0 I λ_=>trivial;refine aP (aS rfl (F _) func127 (by simp only[bU,bS,aZ,ks,kk,F];rfl)) ?_;refine(vM H.sw _ _ _ _ W (h.below C).sw).mono ?_;rintro r w1 ⟨rfl,p⟩;exact⟨_,rfl,p,rfl⟩
 ·intro ρ y W D I C A;have kq:=D 27 18 rfl;have ki:y 18=_:=A 18 rfl;have F:=eF0 I λ_=>trivial;refine aP (aS rfl (F _) func127 (by simp only[bU,bS,aZ,kq,ki,F];rfl)) ?_;refine(vM H.dk _ _ _ _ W (h.below C).dk).mono ?_;rintro r w1 ⟨rfl,p⟩;exact⟨_,rfl,p,rfl⟩
 ·intro ρ y W D I C A;have ko:=D 32 23 rfl;have kg:y 23=_:=A 23 rfl;have F:=eF0 I λ_=>trivial;refine aP (aS rfl (F _) func113 (by simp only[bU,bS,aZ,ko,kg,F];rfl)) ?_;refine(EI H.fi H.ct _ _ W (h.below C).st h.c64).mono ?_;rintro r w1 ⟨rfl,p⟩;exact⟨_,rfl,p,rfl⟩
 ·intro ρ y W D I C A;have kv:=D 13 4 rfl;have h4:y 4=_:=A 4 rfl;have kt:=D 18 9 rfl;have h9:y 9=_:=A 9 rfl;have kr:=D 23 14 rfl;have kj:y 14=_:=A 14 rfl;have kp:=D 28 19 rfl;have kh:y 19=_:=A 19 rfl;have kn:=D 33 24 rfl;have kf:y 24=_:=A 24 rfl;refine jg (.slice (some ⟨W.heap.size,0,none⟩) 5 5) (aj) (by simp[execOp,go_sem,kv.trans h4,kt.trans h9,kr.trans kj,kp.trans kh,kn.trans kf]) ((Below.refl _ _).alloc (az _) (.cells #[.int .i64 (bu H.m),.int .i64 (dL H.sl),.int .i64 (bX H.sw),.int .i64 (bX H.dk),.int .i64 (aT (cZ H.fi H.ct))] 47)) ?_;exact⟨_,rfl,aG.new _ _ _⟩
 ·intro ρ y W D I C A;have km:=D 34 25 rfl;have ke:=A 25 rfl;obtain⟨ge,hu,_⟩:=ke;refine ak (.int .i64 5) (by simp[execOp,go_sem,km,hu])
 intro y W1 hG hI;have hV:((XB w.heap.size H)).r (y 25) W1:=hI 25 (by decide);clear hI;obtain⟨ge,hu,hW⟩:=hV;have hh:Below w.heap.size w W1:=hG;rw[hu];clear hu hG;go_upto_region 2 with(fail)
 go_loopw [36] (fun i wr => ∃(k:Nat),k<=5/\i = .int .i64 k/\Below w.heap.size w wr/\aG wr ge #[.int .i64 (bu H.m),.int .i64 (dL H.sl),.int .i64 (bX H.sw),.int .i64 (bX H.dk),.int .i64 (aT (cZ H.fi H.ct))] 47/\Hid (∀j,j<k->(JB H.ma).getD j 0=0)) (fun i _=>5-(intOf i).toNat)
 case atStart=>exact⟨0,bq _,rfl,hh,hW,ae λj U=>absurd U (fA _)⟩
 case round=>
  clear hh hW;obtain⟨k,hk,rfl,d,hx,G⟩:=hrel
  by_cases K:k<5
  ·have hM:(k:Int)<5:=by omega
   have kb:wr.cell? ⟨ge,k,none⟩=some (.int .i64 ((JB H.ma).getD k 0)):=by
    rw[hx.cell]
    match k,K with
    | 0,_=>rfl
    | 1,_=>rfl
    | 2,_=>rfl
    | 3,_=>rfl
    | 4,_=>rfl
    | n+5,h'=>omega
   by_cases Z:(JB H.ma).getD k 0=0
   ·have hm:Hid (∀j,j<k+1->(JB H.ma).getD j 0=0):=ae λj U=>by
     by_cases e:j=k
     ·rw[e];exact Z
     ·exact G.out j (by omega)
    rw[Z] at kb;clear Z G;go_wp2;go_roundw
    case rel=>exact⟨k+1,by omega,by go_num,d,hx,hm⟩
    case measure=>simp[intOf];omega
   have O:Hid (iU H.ma=(JB H.ma).getD k 0):=ae (Qc K G.out Z);generalize (JB H.ma).getD k 0=E at *
   clear G;go_wp2;go_ret;rw[O.out];exact⟨rfl,d⟩
  have hM:¬(k:Int)<5:=by omega
  have hU:=G.out 0 (by omega);have hT:=G.out 1 (by omega);have hm:=G.out 2 (by omega);have hS:=G.out 3 (by omega);have hR:=G.out 4 (by omega);have e0:=ae (show bu H.m=0 from hU);have e1:=ae (show dL H.sl=0 from hT);have e2:=ae (show bX H.sw=0 from hm);have e3:=ae (show bX H.dk=0 from hS);have e4:=ae (show aT (cZ H.fi H.ct)=0 from hR);clear hU hT hm hS hR G hx;have a:=J.ext d;have hr:=h.below d;have X:Hid (iU H.ma=if H.sw.blocks.length≠H.sl.length\/(H.dk.blocks.length:Int)≠H.ct\/trimB H.ma=false then 7 else if 4<H.sp.length then 4 else firstE (H.ma.sp.map kR)):=ae (by unfold iU;rw[if_neg (by rw[show bu H.ma.m=0 from e0.out];simp),if_neg (by rw[show dL H.ma.sl=0 from e1.out];simp),if_neg (by rw[show bX H.ma.sw=0 from e2.out];simp),if_neg (by rw[show bX H.ma.dk=0 from e3.out];simp),if_neg (by rw[show aT H.ma.st=0 from e4.out];simp),rX];rfl);go_upto_region 7 with(fail);have hf:=a.cell;unfold dF at hf
  by_cases S:H.sw.blocks.length=H.sl.length
  ·by_cases R:(H.dk.blocks.length:Int)=H.ct
   ·have M:(H.sw.blocks.length:Int)=(H.sl.length:Int):=by omega
    have hL:Hid (iU H.ma=if trimB H.ma=false then 7 else if 4<H.sp.length then 4 else firstE (H.ma.sp.map kR)):=ae (by
     rw[X.out]
     by_cases ct:trimB H.ma=false
     ·rw[if_pos (.inr (.inr ct)),if_pos ct]
     ·rw[if_neg (by rintro(h | h | h);exact h S;exact h R;exact ct h),if_neg ct])
    refine aO 31 [_,_,_,_,_,_,_,_,_,_,_,_,_,_,_,_,_,_,_,_,_,_,_,_,_,_,_,_,.v (.bool (trimB H.ma)),_,.v (.bool (!trimB H.ma))] (Gk rfl (Gk rfl (Gf b 3 rfl rfl (Gf b 3 rfl rfl (Gl a rfl rfl rfl rfl rfl (Gn rfl rfl rfl rfl (Gk rfl (Gk rfl (Gf b 2 rfl rfl (Gl a rfl rfl rfl rfl rfl (Gn rfl rfl rfl rfl (Gb (.bool false) (by simp[go_sem,S]) rfl rfl rfl rfl rfl (Gk rfl (Gk rfl (Gk rfl (Gf b 5 rfl rfl (Gf b 5 rfl rfl (Gl a rfl rfl rfl rfl rfl (Gn rfl rfl rfl rfl (Gk rfl (Gk rfl (Gf b 7 rfl rfl (Gf b 8 rfl rfl (Gl a rfl rfl rfl rfl rfl (Gb (.bool false) (by simp[go_sem,R]) rfl rfl rfl rfl rfl (Gk rfl (Gk rfl (Gk rfl (ah ?_ (Gr (.bool (!trimB H.ma)) (λρ y W C g=>Ee rfl (aH rfl g)) rfl rfl (Gk rfl (aF)))))))))))))))))))))))))))))))) (λ_=>rfl) rfl ?_
    ·intro ρ y W D I C A;have kl:=D 71 27 rfl;have kd:y 27=_:=A 27 rfl;have F:=eF0 I λ_=>trivial;refine aP (m:=(bB 26 70 false false ((D 70 26 rfl).trans (A 26 rfl)))) (aS rfl (F _) func128 (by simp only[bU,bS,aZ,kl,kd,F];rfl)) ?_;refine(LV H b W (a.ext C) (hr.below C) e4.out e3.out).mono ?_;rintro r w1 ⟨rfl,p⟩;exact⟨_,rfl,p,rfl⟩
    intro y W2 l _;have c:=ag d l;clear l;cases ht:trimB H.ma with
    | false=>
     have ha:Hid (iU H.ma=7):=ae (by rw[hL.out,if_pos ht]);clear S R M;go_wp2;go_ret;rw[ha.out];exact⟨rfl,c⟩
    | true=>
     have hK:Hid (iU H.ma=if 4<H.sp.length then 4 else firstE (H.ma.sp.map kR)):=ae (by rw[hL.out,if_neg (by rw[ht];decide)]);clear S R M hf ht;have h6:=h.below c;have hf:=(J.ext c).cell;unfold dF at hf;clear hr a X hL d
     by_cases c4:4<H.sp.length
     ·have hs:Hid (iU H.ma=4):=ae (by rw[hK.out,if_pos c4]);have c4i:(4:Int)<(H.sp.length:Int):=by omega
      clear c4;go_wp2;go_ret;rw[hs.out];exact⟨rfl,c⟩
     have hs:Hid (iU H.ma=firstE (H.ma.sp.map kR)):=ae (by rw[hK.out,if_neg c4]);have c4i:¬(4:Int)<(H.sp.length:Int):=by omega
     have hC:Hid ((H.ma.sp.map kR).length=H.sp.length):=ae (by rw[eQ,rX]);clear c4 hK;go_upto_region 12 with(fail);clear hf h6
     go_loopw [86] (fun i wr => ∃(k:Nat),k<=H.sp.length/\i = .int .i64 k/\Below w.heap.size w wr/\Hid (∀j (U:j<(H.ma.sp.map kR).length),j<k->(H.ma.sp.map kR)[j]=0)) (fun i _=>H.sp.length-(intOf i).toNat)
     case atStart=>exact⟨0,bq _,rfl,c,ae λj _ U=>absurd U (fA _)⟩
     case round=>
      clear c;obtain⟨k,hk,rfl,d,G⟩:=hrel
      by_cases K:k<H.sp.length
      ·obtain⟨bs,os,P,kc,X,hX⟩:=qN (h.below d).sp.rd k K;have t:=qF (h.below d) X;have hM:(k:Int)<(H.sp.length:Int):=by omega
       have hZ:k<(H.ma.sp.map kR).length:=by rw[hC.out];exact K
       have hE:Hid ((H.ma.sp.map kR)[k]=kR P.sp):=ae (by
        rw[wJ];congr 1;have:H.ma.sp[k]?=some P.sp:=by show(H.sp.map PS.sp)[k]?=_;rw[jd,X];rfl
        exact(bZ.1 this).2)
       have hc:Hid (kR P.sp≠0->iU H.ma=kR P.sp):=ae λh7=>by rw[hs.out,yU k hZ G.out (by rw[hE.out];exact h7),hE.out]
       have hY:Hid (kR P.sp=0->∀j (U:j<(H.ma.sp.map kR).length),j<k+1->(H.ma.sp.map kR)[j]=0):=ae λZ j U kz=>by
        by_cases e:j=k
        ·subst e;rw[hE.out];exact Z
        ·exact G.out j U (by omega)
       have o:Hid (kR P.sp=if(bQ P.ar).1≠0 then(bQ P.ar).1 else if dA P.tb≠0 then dA P.tb else if P.lv=false/\0<P.ar.length+(aV P.tb).length then 7 else 0):=ae rfl;rw[kc];clear G X hE hZ;have hB:(ze P).all (·.oneCell')=true:=by rw[<-mD,fD];exact t.one
       go_wp2_with (first | (refine ay bs (os+k*10) _ hX _ underlying76 rfl space_size ?_) | (refine aJ rfl rfl (ze P) rfl rfl rfl space_size hB ?_))
       intro w3 hQ L;have hF:=ag d hQ;have hN:=t.below hQ;have ka:=L.lt;generalize wr.heap.size=gs at L ka ⊢;clear d hQ hX t hB;have h1:=L.cell;unfold ze at h1;have hA:=hN.ars
       go_wp2_with fail
       refine(MP P.ar P.aa P.ac _ hA.rd (by have:=hA.le;have:=hA.mx;unfold maxLen at this;omega)).mono ?_;rintro r w3' ⟨rfl,z⟩;have Y:=L.ext z;have hg:=ag hF z;have hD:=hN.below z;clear h1 L hF hN z hA
       go_wp2_with (refine aJ rfl rfl (Km (bQ P.ar)) rfl rfl rfl fau_size (by simp[Km,Value.oneCell']) ?_)
       intro w4 hy ux;have N:=Y.ext hy;have q:=ag hg hy;have u:=hD.below hy;clear Y hg hD hy;have hO:=ux.cell;unfold Km at hO
       by_cases c5:(bQ P.ar).1=0
       ·rw[if_neg (by rw[c5];simp)]at o;rw[c5]at hO;have kA:=(sK c5).1;have ky:(aV P.tb).length<=64:=tO P.tb 64;have hp:IntKind.i64.wrap ((P.ar.length:Int)+((aV P.tb).length:Int))=(P.ar.length:Int)+((aV P.tb).length:Int):=bK _ (by omega);go_upto_region 17 with(fail);clear hO ux c5
        go_wp2_with (refine ay gs 2 _ (bF N 2 8) _ underlying74 tab_agg tab_size ?_)
        refine(EL P.tb (nT P.ts) _ u.tb).mono ?_;rintro r w6 ⟨rfl,hv⟩;replace N:=N.ext hv;replace q:=ag q hv;replace u:=u.below hv;clear hv
        by_cases c6:dA P.tb=0
        ·rw[if_neg (by rw[c6];simp)]at o;rw[c6];go_upto_region 20 with(fail);cases hlv:P.lv with
         | true=>
          have hJ:Hid (kR P.sp=0):=ae (by rw[o.out,if_neg (by rw[hlv];simp)]);refine aO 14 [_,_,_,_,_,_,_,_,_,_,_,_,_,.v (.bool false)] (Gf gs 0 rfl rfl (Gl N (V:=.bool true) (by simp[ze,hlv]) rfl rfl rfl rfl (Gk rfl (Gk rfl (Gk rfl (Gk rfl (Gk rfl (Gk rfl (Gk rfl (Gk rfl (Gk rfl (Gk rfl (Gk rfl (Gk rfl (aF))))))))))))))) (λ_=>rfl) rfl ?_;intro y W5 s _;have x:=ag q s;clear s;have hl:=ae (hY.out hJ.out);clear hp N u;go_wp2;go_roundw
          case rel=>exact⟨k+1,by omega,by go_num,x,hl⟩
          case measure=>simp[intOf];omega
         | false=>
          refine aO 14 [_,_,_,_,_,_,_,_,_,.r 9 ((nA w6.heap.size 3 1 (aV P.tb).length ((aV P.tb).map gF))),.v (.int .i64 (aV P.tb).length),_,_,.v (.bool (decide (0<(P.ar.length:Int)+((aV P.tb).length:Int))))] (Gf gs 0 rfl rfl (Gl N (V:=.bool false) (by simp[ze,hlv]) rfl rfl rfl rfl (Gk rfl (Gk rfl (Gf gs 1 rfl rfl (Gl N rfl rfl rfl rfl rfl (Gn rfl rfl rfl rfl (Gf gs 2 rfl rfl (Gr (.agg (nT P.ts)) (λρ y W C g=>(bJ rfl (aH rfl g) (bF (N.ext C) 2 8) underlying74 (C:=tab_agg) (A:=tab_size))) rfl rfl (ah ?_ (ah ?_ (Gb (.int .i64 ((P.ar.length:Int)+((aV P.tb).length:Int))) (by simp[go_sem,hp]) rfl rfl rfl rfl rfl (Gb (.bool (decide (0<(P.ar.length:Int)+((aV P.tb).length:Int)))) (by simp[go_sem]) rfl rfl rfl rfl rfl (Gk rfl (aF))))))))))))))) (λ_=>rfl) rfl ?_
          ·intro ρ y W D I C A;have h5:=D 112 8 rfl;have h8:y 8=_:=A 8 rfl;have F:=eF0 I λ_=>trivial;refine aP (m:=(bB 3 107 true true ((D 107 3 rfl).trans (A 3 rfl)))) (aS rfl (F _) func67 (by simp only[bU,bS,aZ,h5,h8,F];rfl)) ?_;refine(zA P.tb (nT P.ts) W (u.below C).tb).mono ?_;rintro r w1 ⟨v,rfl,ho,p⟩;exact⟨_,rfl,p,ho.mono C.size⟩
          ·intro ρ y W D I C A;have h2:=D 113 9 rfl;have h9:=A 9 rfl;obtain⟨a9,c9,e9,_⟩:=Own.rd h9;refine ak (.int .i64 (aV P.tb).length) (h:=(bB 3 107 true true ((D 107 3 rfl).trans (A 3 rfl)))) (KL rfl (h2.trans e9) rfl)
          intro y W5 s hH;have kx:((nA w6.heap.size 3 1 (aV P.tb).length ((aV P.tb).map gF))).r (y 9) W5:=hH 9 (by decide);clear hH;have x:=ag q s;clear s
          by_cases c7:0<P.ar.length+(aV P.tb).length
          ·have O:Hid (iU H.ma=7):=ae (by rw[hc.out (by rw[o.out,if_pos ⟨hlv,c7⟩];decide),o.out,if_pos ⟨hlv,c7⟩]);have A:decide (0<(P.ar.length:Int)+((aV P.tb).length:Int))=true:=decide_eq_true (by omega);rw[A];clear hp N u A c7;go_wp2;go_ret;rw[O.out];exact⟨rfl,x⟩
          have hJ:Hid (kR P.sp=0):=ae (by rw[o.out,if_neg (λh'=>c7 h'.2)]);have hl:=ae (hY.out hJ.out);have A:decide (0<(P.ar.length:Int)+((aV P.tb).length:Int))=false:=decide_eq_false (by omega);rw[A];clear hp N u A c7;go_wp2;go_roundw
          case rel=>exact⟨k+1,by omega,by go_num,x,hl⟩
          case measure=>simp[intOf];omega
        rw[if_pos c6]at o;have O:Hid (iU H.ma=dA P.tb):=ae (by rw[hc.out (by rw[o.out];exact c6),o.out]);generalize dA P.tb=E at *
        go_wp2;go_ret;rw[O.out];exact⟨rfl,q⟩
       rw[if_pos c5]at o;have O:Hid (iU H.ma=(bQ P.ar).1):=ae (by rw[hc.out (by rw[o.out];exact c5),o.out]);generalize (bQ P.ar).1=E at *
       go_wp2;go_ret;rw[O.out];exact⟨rfl,q⟩
      have hM:¬(k:Int)<(H.sp.length:Int):=by omega
      have O:Hid (iU H.ma=0):=ae (by rw[hs.out,ul λi hi=>G.out i hi (by rw[hC.out]at hi;omega)]);clear G;go_wp2;go_ret;rw[O.out];exact⟨rfl,d⟩
   have ha:Hid (iU H.ma=7):=ae (by rw[X.out,if_pos (.inr (.inl R))]);refine aO 31 [_,_,_,_,_,_,_,_,_,_,_,_,_,_,_,_,_,_,_,_,_,_,_,_,_,_,_,_,_,_,.v (.bool true)] (Gk rfl (Gk rfl (Gf b 3 rfl rfl (Gf b 3 rfl rfl (Gl a rfl rfl rfl rfl rfl (Gn rfl rfl rfl rfl (Gk rfl (Gk rfl (Gf b 2 rfl rfl (Gl a rfl rfl rfl rfl rfl (Gn rfl rfl rfl rfl (Gb (.bool false) (by simp[go_sem,S]) rfl rfl rfl rfl rfl (Gk rfl (Gk rfl (Gk rfl (Gf b 5 rfl rfl (Gf b 5 rfl rfl (Gl a rfl rfl rfl rfl rfl (Gn rfl rfl rfl rfl (Gk rfl (Gk rfl (Gf b 7 rfl rfl (Gf b 8 rfl rfl (Gl a rfl rfl rfl rfl rfl (Gb (.bool true) (by simp[go_sem,R]) rfl rfl rfl rfl rfl (Gk rfl (Gk rfl (Gk rfl (Gk rfl (Gk rfl (Gk rfl (aF)))))))))))))))))))))))))))))))) (λ_=>rfl) rfl ?_;intro y W2 l _;have c:=ag d l;clear l;clear S R;go_wp2;go_ret;rw[ha.out];exact⟨rfl,c⟩
  have ha:Hid (iU H.ma=7):=ae (by rw[X.out,if_pos (.inl S)]);have M:¬((H.sw.blocks.length:Int)=(H.sl.length:Int)):=by omega
  have R:=S;refine aO 31 [_,_,_,_,_,_,_,_,_,_,_,_,_,_,_,_,_,_,_,_,_,_,_,_,_,_,_,_,_,_,.v (.bool true)] (Gk rfl (Gk rfl (Gf b 3 rfl rfl (Gf b 3 rfl rfl (Gl a rfl rfl rfl rfl rfl (Gn rfl rfl rfl rfl (Gk rfl (Gk rfl (Gf b 2 rfl rfl (Gl a rfl rfl rfl rfl rfl (Gn rfl rfl rfl rfl (Gb (.bool true) (by simp[go_sem,M]) rfl rfl rfl rfl rfl (Gk rfl (Gk rfl (Gk rfl (Gk rfl (Gk rfl (Gk rfl (Gk rfl (Gk rfl (Gk rfl (Gk rfl (Gk rfl (Gk rfl (Gk rfl (Gk rfl (Gk rfl (Gk rfl (Gk rfl (Gk rfl (Gk rfl (aF)))))))))))))))))))))))))))))))) (λ_=>rfl) rfl ?_;intro y W2 l _;have c:=ag d l;clear l;clear S M R;go_wp2;go_ret;rw[ha.out];exact⟨rfl,c⟩
theorem vF{p:Option Cc}{c:Cc}(h:c.f<0\/(m.st.fs.length:Int)<=c.f\/c.i<0\/((aN m.st c.f).b.length:Int)<=c.i\/c.k<0\/(m.m.fs.length:Int)<=c.k):uX m p c=3:=by
 unfold uX;rw[if_pos h]
theorem Od(H:MH)(b:Nat)(w:World)(hbk:aG w b (dF H) 45)(h:wI w H) :
  Calls Tryz.prog 82 #[.pointer (some ⟨b,0,none⟩)] w λr w'=>r = .returned (.int .i64 (cachedE H.ma))/\Below w.heap.size w w':=by
 have ku:=h.ca.le;have kp:=h.ca.mx;unfold maxLen at kp;go_enter func82,ntmps82;have kf:=hbk.cell;unfold dF at kf;obtain⟨L,hL⟩:∃L,L=(List.range H.ca.length).map λk=>uX H.ma (zm H.ca k) (H.ca.getD k zCc):=⟨_,rfl⟩;have kl:Hid (L.length=H.ca.length):=ae (by rw[hL];simp);have km:Hid (cachedE H.ma=firstE L):=ae (by rw[hL];rfl);have ks:Hid (∀k (hk:k<L.length),L[k]=uX H.ma (zm H.ca k) (H.ca.getD k zCc)):=ae λk hk=>by simp[hL]
 clear hL;go_upto_region 2 with(fail);clear kf
 go_loopw [11] (fun i wr => ∃(k:Nat),k<=H.ca.length/\i = .int .i64 k/\Below w.heap.size w wr/\Hid (∀j (hj:j<L.length),j<k->L[j]=0)) (fun i _=>H.ca.length-(intOf i).toNat)
 case atStart=>exact⟨0,bq _,rfl,Below.refl _ _,ae λj _ hj=>absurd hj (fA _)⟩
 case round=>
  obtain⟨k,hk,rfl,hN,hz⟩:=hrel
  by_cases hkl:k<H.ca.length
  ·obtain⟨E,D,Y,h4⟩:=jO jb (h.below hN).ca.rd k hkl;have kq:(k:Int)<(H.ca.length:Int):=by omega
   have hX:k<L.length:=by rw[kl.out];exact hkl
   have hE:Hid (L[k]=uX H.ma (zm H.ca k) H.ca[k]):=ae (by rw[ks.out k hX,aW,aI hkl];rfl);have Z:Hid (L[k]≠0->cachedE H.ma=L[k]):=ae λko=>by rw[km.out,yU k hX hz.out ko]
   have hW:Hid (L[k]=0->∀j (hj:j<L.length),j<k+1->L[j]=0):=ae λh0 j hj kv=>by
    by_cases e:j=k
    ·subst e;exact h0
    ·exact hz.out j hj (by omega)
   generalize hLk:L[k]=Lk at *
   have h6:Hid (zm H.ca k=if k=0 then none else H.ca[k-1]?):=ae rfl;generalize hc:H.ca[k]=c at *
   rw[Y];clear hz hX hLk hc
   go_wp2_with (first | (refine ay E (D+k*3) _ h4 _ underlying122 rfl cached_size ?_) | (refine aJ rfl rfl (vT c) rfl rfl rfl cached_size (wO c) ?_))
   intro w3 kj C;have ht:=ag hN kj;have z:=hbk.ext ht;have hV:=h.below ht;generalize wr.heap.size=gc at C ⊢;clear kj h4 hN;go_upto_region 4 with(fail);obtain⟨N,of,F,P,O,J,X,S⟩:∃(N of F:Nat) (P:PF),(0<=c.f->c.f<H.fi.length->H.ai=some ⟨N,of,none⟩)/\(0<=c.f->c.f<H.fi.length->F<H.fi.length)/\(0<=c.f->c.f<H.fi.length->c.f=(F:Int)/\aN H.ma.st c.f=P.fi)/\(0<=c.f->c.f<H.fi.length->∀W,Below w3.heap.size w3 W->W.cell? ⟨N,of+F*2+1,none⟩=some (.slice P.a P.l.length P.c)):=by
    by_cases hc0:0<=c.f/\c.f<H.fi.length
    ·have J:c.f.toNat<H.fi.length:=by omega
     obtain⟨N,of,P,O,hP,kw,S⟩:=xy hV.st.rd c.f.toNat J;refine⟨N,of,c.f.toNat,P,λ_ _=>O,λ_ _=>J,λ_ _=>⟨by omega,?_⟩,λ_ _ W A => ?_⟩
     ·have:(H.fi.map PF.fi)[c.f.toNat]?=some P.fi:=by rw[jd,hP];rfl
      have h2:=jN (s:=H.ma.st) (F:=c.f.toNat) this;rw[<-h2];congr 1;omega
     obtain⟨bf',of',P',hS,kk,kt,kd⟩:=xy (hV.below A).st.rd c.f.toNat J;rw[hP]at kk;cases kk;rw[O]at hS;cases hS;exact kd
    ·exact⟨0,0,0,⟨0,none,[],0⟩,λh1 h2=>absurd ⟨h1,h2⟩ hc0,λh1 h2=>absurd ⟨h1,h2⟩ hc0,λh1 h2=>absurd ⟨h1,h2⟩ hc0,λh1 h2=>absurd ⟨h1,h2⟩ hc0⟩
   by_cases c1:c.f<0
   ·have t:Hid (c.f<0\/(H.ma.st.fs.length:Int)<=c.f\/c.i<0\/((aN H.ma.st c.f).b.length:Int)<=c.i\/c.k<0\/(H.ma.m.fs.length:Int)<=c.k):=ae (.inl c1);refine aO 51 [_,_,_,_,_,_,_,_,_,_,_,_,_,_,_,_,_,_,_,_,_,_,_,_,_,_,_,_,_,_,_,_,_,_,_,_,_,_,_,_,_,_,_,_,_,_,_,_,_,_,.v (.bool true)] (Gf gc 0 rfl rfl (Gl C rfl rfl rfl rfl rfl (Gb (.bool true) (by simp[go_sem,c1]) rfl rfl rfl rfl rfl (Gk rfl (Gk rfl (Gk rfl (Gk rfl (Gk rfl (Gk rfl (Gk rfl (Gk rfl (Gk rfl (Gk rfl (Gk rfl (Gk rfl (Gk rfl (Gk rfl (Gk rfl (Gk rfl (Gk rfl (Gk rfl (Gk rfl (Gk rfl (Gk rfl (Gk rfl (Gk rfl (Gk rfl (Gk rfl (Gk rfl (Gk rfl (Gk rfl (Gk rfl (Gk rfl (Gk rfl (Gk rfl (Gk rfl (Gk rfl (Gk rfl (Gk rfl (Gk rfl (Gk rfl (Gk rfl (Gk rfl (Gk rfl (Gk rfl (Gk rfl (Gk rfl (Gk rfl (Gk rfl (Gk rfl (Gk rfl (aF)))))))))))))))))))))))))))))))))))))))))))))))))))) (λ_=>rfl) rfl ?_;intro y W4 g _;have p:=ag ht g;replace C:=C.ext g;clear g;have M:Hid (Lk=3):=ae (by rw[hE.out];exact vF t.out);have I:Hid (cachedE H.ma=3):=ae (by rw[Z.out (by rw[M.out];decide),M.out]);clear O J X S;go_wp2;go_ret;rw[I.out];exact⟨rfl,p⟩
   have hY:Hid (H.ma.st.fs.length=H.fi.length):=ae (eQ _)
   by_cases c2:(H.fi.length:Int)<=c.f
   ·have t:Hid (c.f<0\/(H.ma.st.fs.length:Int)<=c.f\/c.i<0\/((aN H.ma.st c.f).b.length:Int)<=c.i\/c.k<0\/(H.ma.m.fs.length:Int)<=c.k):=ae (.inr (.inl (by rw[hY.out];exact c2)));refine aO 51 [_,_,_,_,_,_,_,_,_,_,_,_,_,_,_,_,_,_,_,_,_,_,_,_,_,_,_,_,_,_,_,_,_,_,_,_,_,_,_,_,_,_,_,_,_,_,_,_,_,_,.v (.bool true)] (Gf gc 0 rfl rfl (Gl C rfl rfl rfl rfl rfl (Gb (.bool false) (by simp[go_sem,c1]) rfl rfl rfl rfl rfl (Gk rfl (Gf gc 0 rfl rfl (Gl C rfl rfl rfl rfl rfl (Gk rfl (Gk rfl (Gf b 7 rfl rfl (Gf b 7 rfl rfl (Gl z rfl rfl rfl rfl rfl (Gn rfl rfl rfl rfl (Gb (.bool true) (by simp[go_sem,c2]) rfl rfl rfl rfl rfl (Gk rfl (Gk rfl (Gk rfl (Gk rfl (Gk rfl (Gk rfl (Gk rfl (Gk rfl (Gk rfl (Gk rfl (Gk rfl (Gk rfl (Gk rfl (Gk rfl (Gk rfl (Gk rfl (Gk rfl (Gk rfl (Gk rfl (Gk rfl (Gk rfl (Gk rfl (Gk rfl (Gk rfl (Gk rfl (Gk rfl (Gk rfl (Gk rfl (Gk rfl (Gk rfl (Gk rfl (Gk rfl (Gk rfl (Gk rfl (Gk rfl (Gk rfl (Gk rfl (Gk rfl (aF)))))))))))))))))))))))))))))))))))))))))))))))))))) (λ_=>rfl) rfl ?_;intro y W4 g _;have p:=ag ht g;replace C:=C.ext g;clear g;have M:Hid (Lk=3):=ae (by rw[hE.out];exact vF t.out);have I:Hid (cachedE H.ma=3):=ae (by rw[Z.out (by rw[M.out];decide),M.out]);clear O J X S;go_wp2;go_ret;rw[I.out];exact⟨rfl,p⟩
   replace O:=O (by omega) (by omega);replace J:=J (by omega) (by omega);obtain⟨X,kb⟩:=X (by omega) (by omega);replace S:=S (by omega) (by omega);have hG:=ae kb;clear kb
   by_cases c3:c.i<0
   ·have t:Hid (c.f<0\/(H.ma.st.fs.length:Int)<=c.f\/c.i<0\/((aN H.ma.st c.f).b.length:Int)<=c.i\/c.k<0\/(H.ma.m.fs.length:Int)<=c.k):=ae (.inr (.inr (.inl c3)));refine aO 51 [_,_,_,_,_,_,_,_,_,_,_,_,_,_,_,_,_,_,_,_,_,_,_,_,_,_,_,_,_,_,_,_,_,_,_,_,_,_,_,_,_,_,_,_,_,_,_,_,_,_,.v (.bool true)] (Gf gc 0 rfl rfl (Gl C rfl rfl rfl rfl rfl (Gb (.bool false) (by simp[go_sem,c1]) rfl rfl rfl rfl rfl (Gk rfl (Gf gc 0 rfl rfl (Gl C rfl rfl rfl rfl rfl (Gk rfl (Gk rfl (Gf b 7 rfl rfl (Gf b 7 rfl rfl (Gl z rfl rfl rfl rfl rfl (Gn rfl rfl rfl rfl (Gb (.bool false) (by simp[go_sem,c2]) rfl rfl rfl rfl rfl (Gk rfl (Gk rfl (Gf gc 1 rfl rfl (Gl C rfl rfl rfl rfl rfl (Gb (.bool true) (by simp[go_sem,c3]) rfl rfl rfl rfl rfl (Gk rfl (Gk rfl (Gk rfl (Gk rfl (Gk rfl (Gk rfl (Gk rfl (Gk rfl (Gk rfl (Gk rfl (Gk rfl (Gk rfl (Gk rfl (Gk rfl (Gk rfl (Gk rfl (Gk rfl (Gk rfl (Gk rfl (Gk rfl (Gk rfl (Gk rfl (Gk rfl (Gk rfl (Gk rfl (Gk rfl (Gk rfl (Gk rfl (Gk rfl (Gk rfl (Gk rfl (Gk rfl (Gk rfl (aF)))))))))))))))))))))))))))))))))))))))))))))))))))) (λ_=>rfl) rfl ?_;intro y W4 g _;have p:=ag ht g;replace C:=C.ext g;clear g;have M:Hid (Lk=3):=ae (by rw[hE.out];exact vF t.out);have I:Hid (cachedE H.ma=3):=ae (by rw[Z.out (by rw[M.out];decide),M.out]);clear O J X S;go_wp2;go_ret;rw[I.out];exact⟨rfl,p⟩
   by_cases c4:(P.l.length:Int)<=c.i
   ·have t:Hid (c.f<0\/(H.ma.st.fs.length:Int)<=c.f\/c.i<0\/((aN H.ma.st c.f).b.length:Int)<=c.i\/c.k<0\/(H.ma.m.fs.length:Int)<=c.k):=ae (.inr (.inr (.inr (.inl (by rw[hG.out];exact c4)))));refine aO 51 [_,_,_,_,_,_,_,_,_,_,_,_,_,_,_,_,_,_,_,_,_,_,_,_,_,_,_,_,_,_,_,_,_,_,_,_,_,_,_,_,_,_,_,_,_,_,_,_,_,_,.v (.bool true)] (Gf gc 0 rfl rfl (Gl C rfl rfl rfl rfl rfl (Gb (.bool false) (by simp[go_sem,c1]) rfl rfl rfl rfl rfl (Gk rfl (Gf gc 0 rfl rfl (Gl C rfl rfl rfl rfl rfl (Gk rfl (Gk rfl (Gf b 7 rfl rfl (Gf b 7 rfl rfl (Gl z rfl rfl rfl rfl rfl (Gn rfl rfl rfl rfl (Gb (.bool false) (by simp[go_sem,c2]) rfl rfl rfl rfl rfl (Gk rfl (Gk rfl (Gf gc 1 rfl rfl (Gl C rfl rfl rfl rfl rfl (Gb (.bool false) (by simp[go_sem,c3]) rfl rfl rfl rfl rfl (Gk rfl (Gk rfl (Gf gc 1 rfl rfl (Gl C rfl rfl rfl rfl rfl (Gk rfl (Gk rfl (Gf b 7 rfl rfl (Gf b 7 rfl rfl (Gl z (V:=.slice (some ⟨N,of,none⟩) H.fi.length H.ci) (by simp[dF,O]) rfl rfl rfl rfl (Gf gc 0 rfl rfl (Gl C (V:=.int .i64 (F:Int)) (by simp[vT,X]) rfl rfl rfl rfl (Gr (.pointer (some ⟨N,of+F*2,none⟩)) (λρ y W A d=>(bN rfl (aH rfl d) (aH rfl d) J underlying39 file_size)) rfl rfl (Gf N (of+F*2+1) rfl rfl (Gc (.slice P.a P.l.length P.c) (λW A=>by simp[S _ A]) rfl rfl rfl rfl (Gn rfl rfl rfl rfl (Gb (.bool true) (by simp[go_sem,c4]) rfl rfl rfl rfl rfl (Gk rfl (Gk rfl (Gk rfl (Gk rfl (Gk rfl (Gk rfl (Gk rfl (Gk rfl (Gk rfl (Gk rfl (Gk rfl (Gk rfl (Gk rfl (Gk rfl (Gk rfl (Gk rfl (Gk rfl (aF)))))))))))))))))))))))))))))))))))))))))))))))))))) (λ_=>rfl) rfl ?_;intro y W4 g _;have p:=ag ht g;replace C:=C.ext g;clear g;have M:Hid (Lk=3):=ae (by rw[hE.out];exact vF t.out);have I:Hid (cachedE H.ma=3):=ae (by rw[Z.out (by rw[M.out];decide),M.out]);clear O J X S;go_wp2;go_ret;rw[I.out];exact⟨rfl,p⟩
   by_cases c5:c.k<0
   ·have t:Hid (c.f<0\/(H.ma.st.fs.length:Int)<=c.f\/c.i<0\/((aN H.ma.st c.f).b.length:Int)<=c.i\/c.k<0\/(H.ma.m.fs.length:Int)<=c.k):=ae (.inr (.inr (.inr (.inr (.inl c5)))));refine aO 51 [_,_,_,_,_,_,_,_,_,_,_,_,_,_,_,_,_,_,_,_,_,_,_,_,_,_,_,_,_,_,_,_,_,_,_,_,_,_,_,_,_,_,_,_,_,_,_,_,_,_,.v (.bool true)] (Gf gc 0 rfl rfl (Gl C rfl rfl rfl rfl rfl (Gb (.bool false) (by simp[go_sem,c1]) rfl rfl rfl rfl rfl (Gk rfl (Gf gc 0 rfl rfl (Gl C rfl rfl rfl rfl rfl (Gk rfl (Gk rfl (Gf b 7 rfl rfl (Gf b 7 rfl rfl (Gl z rfl rfl rfl rfl rfl (Gn rfl rfl rfl rfl (Gb (.bool false) (by simp[go_sem,c2]) rfl rfl rfl rfl rfl (Gk rfl (Gk rfl (Gf gc 1 rfl rfl (Gl C rfl rfl rfl rfl rfl (Gb (.bool false) (by simp[go_sem,c3]) rfl rfl rfl rfl rfl (Gk rfl (Gk rfl (Gf gc 1 rfl rfl (Gl C rfl rfl rfl rfl rfl (Gk rfl (Gk rfl (Gf b 7 rfl rfl (Gf b 7 rfl rfl (Gl z (V:=.slice (some ⟨N,of,none⟩) H.fi.length H.ci) (by simp[dF,O]) rfl rfl rfl rfl (Gf gc 0 rfl rfl (Gl C (V:=.int .i64 (F:Int)) (by simp[vT,X]) rfl rfl rfl rfl (Gr (.pointer (some ⟨N,of+F*2,none⟩)) (λρ y W A d=>(bN rfl (aH rfl d) (aH rfl d) J underlying39 file_size)) rfl rfl (Gf N (of+F*2+1) rfl rfl (Gc (.slice P.a P.l.length P.c) (λW A=>by simp[S _ A]) rfl rfl rfl rfl (Gn rfl rfl rfl rfl (Gb (.bool false) (by simp[go_sem,c4]) rfl rfl rfl rfl rfl (Gk rfl (Gk rfl (Gf gc 2 rfl rfl (Gl C rfl rfl rfl rfl rfl (Gb (.bool true) (by simp[go_sem,c5]) rfl rfl rfl rfl rfl (Gk rfl (Gk rfl (Gk rfl (Gk rfl (Gk rfl (Gk rfl (Gk rfl (Gk rfl (Gk rfl (Gk rfl (Gk rfl (Gk rfl (aF)))))))))))))))))))))))))))))))))))))))))))))))))))) (λ_=>rfl) rfl ?_;intro y W4 g _;have p:=ag ht g;replace C:=C.ext g;clear g;have M:Hid (Lk=3):=ae (by rw[hE.out];exact vF t.out);have I:Hid (cachedE H.ma=3):=ae (by rw[Z.out (by rw[M.out];decide),M.out]);clear O J X S;go_wp2;go_ret;rw[I.out];exact⟨rfl,p⟩
   by_cases c6:(H.m.fs.length:Int)<=c.k
   ·have t:Hid (c.f<0\/(H.ma.st.fs.length:Int)<=c.f\/c.i<0\/((aN H.ma.st c.f).b.length:Int)<=c.i\/c.k<0\/(H.ma.m.fs.length:Int)<=c.k):=ae (.inr (.inr (.inr (.inr (.inr c6)))));refine aO 51 [_,_,_,_,_,_,_,_,_,_,_,_,_,_,_,_,_,_,_,_,_,_,_,_,_,_,_,_,_,_,_,_,_,_,_,_,_,_,_,_,_,_,_,_,_,_,_,_,_,_,.v (.bool true)] (Gf gc 0 rfl rfl (Gl C rfl rfl rfl rfl rfl (Gb (.bool false) (by simp[go_sem,c1]) rfl rfl rfl rfl rfl (Gk rfl (Gf gc 0 rfl rfl (Gl C rfl rfl rfl rfl rfl (Gk rfl (Gk rfl (Gf b 7 rfl rfl (Gf b 7 rfl rfl (Gl z rfl rfl rfl rfl rfl (Gn rfl rfl rfl rfl (Gb (.bool false) (by simp[go_sem,c2]) rfl rfl rfl rfl rfl (Gk rfl (Gk rfl (Gf gc 1 rfl rfl (Gl C rfl rfl rfl rfl rfl (Gb (.bool false) (by simp[go_sem,c3]) rfl rfl rfl rfl rfl (Gk rfl (Gk rfl (Gf gc 1 rfl rfl (Gl C rfl rfl rfl rfl rfl (Gk rfl (Gk rfl (Gf b 7 rfl rfl (Gf b 7 rfl rfl (Gl z (V:=.slice (some ⟨N,of,none⟩) H.fi.length H.ci) (by simp[dF,O]) rfl rfl rfl rfl (Gf gc 0 rfl rfl (Gl C (V:=.int .i64 (F:Int)) (by simp[vT,X]) rfl rfl rfl rfl (Gr (.pointer (some ⟨N,of+F*2,none⟩)) (λρ y W A d=>(bN rfl (aH rfl d) (aH rfl d) J underlying39 file_size)) rfl rfl (Gf N (of+F*2+1) rfl rfl (Gc (.slice P.a P.l.length P.c) (λW A=>by simp[S _ A]) rfl rfl rfl rfl (Gn rfl rfl rfl rfl (Gb (.bool false) (by simp[go_sem,c4]) rfl rfl rfl rfl rfl (Gk rfl (Gk rfl (Gf gc 2 rfl rfl (Gl C rfl rfl rfl rfl rfl (Gb (.bool false) (by simp[go_sem,c5]) rfl rfl rfl rfl rfl (Gk rfl (Gk rfl (Gf gc 2 rfl rfl (Gl C rfl rfl rfl rfl rfl (Gk rfl (Gk rfl (Gf b 0 rfl rfl (Gf b 0 rfl rfl (Gl z rfl rfl rfl rfl rfl (Gn rfl rfl rfl rfl (Gb (.bool true) (by simp[go_sem,c6]) rfl rfl rfl rfl rfl (Gk rfl (aF)))))))))))))))))))))))))))))))))))))))))))))))))))) (λ_=>rfl) rfl ?_;intro y W4 g _;have p:=ag ht g;replace C:=C.ext g;clear g;have M:Hid (Lk=3):=ae (by rw[hE.out];exact vF t.out);have I:Hid (cachedE H.ma=3):=ae (by rw[Z.out (by rw[M.out];decide),M.out]);clear O J X S;go_wp2;go_ret;rw[I.out];exact⟨rfl,p⟩
   refine aO 51 [_,_,_,_,_,_,_,_,_,_,_,_,_,_,_,_,_,_,_,_,_,_,_,_,_,_,_,_,_,_,_,_,_,_,_,_,_,_,_,_,_,_,_,_,_,_,_,_,_,_,.v (.bool false)] (Gf gc 0 rfl rfl (Gl C rfl rfl rfl rfl rfl (Gb (.bool false) (by simp[go_sem,c1]) rfl rfl rfl rfl rfl (Gk rfl (Gf gc 0 rfl rfl (Gl C rfl rfl rfl rfl rfl (Gk rfl (Gk rfl (Gf b 7 rfl rfl (Gf b 7 rfl rfl (Gl z rfl rfl rfl rfl rfl (Gn rfl rfl rfl rfl (Gb (.bool false) (by simp[go_sem,c2]) rfl rfl rfl rfl rfl (Gk rfl (Gk rfl (Gf gc 1 rfl rfl (Gl C rfl rfl rfl rfl rfl (Gb (.bool false) (by simp[go_sem,c3]) rfl rfl rfl rfl rfl (Gk rfl (Gk rfl (Gf gc 1 rfl rfl (Gl C rfl rfl rfl rfl rfl (Gk rfl (Gk rfl (Gf b 7 rfl rfl (Gf b 7 rfl rfl (Gl z (V:=.slice (some ⟨N,of,none⟩) H.fi.length H.ci) (by simp[dF,O]) rfl rfl rfl rfl (Gf gc 0 rfl rfl (Gl C (V:=.int .i64 (F:Int)) (by simp[vT,X]) rfl rfl rfl rfl (Gr (.pointer (some ⟨N,of+F*2,none⟩)) (λρ y W A d=>(bN rfl (aH rfl d) (aH rfl d) J underlying39 file_size)) rfl rfl (Gf N (of+F*2+1) rfl rfl (Gc (.slice P.a P.l.length P.c) (λW A=>by simp[S _ A]) rfl rfl rfl rfl (Gn rfl rfl rfl rfl (Gb (.bool false) (by simp[go_sem,c4]) rfl rfl rfl rfl rfl (Gk rfl (Gk rfl (Gf gc 2 rfl rfl (Gl C rfl rfl rfl rfl rfl (Gb (.bool false) (by simp[go_sem,c5]) rfl rfl rfl rfl rfl (Gk rfl (Gk rfl (Gf gc 2 rfl rfl (Gl C rfl rfl rfl rfl rfl (Gk rfl (Gk rfl (Gf b 0 rfl rfl (Gf b 0 rfl rfl (Gl z rfl rfl rfl rfl rfl (Gn rfl rfl rfl rfl (Gb (.bool false) (by simp[go_sem,c6]) rfl rfl rfl rfl rfl (Gk rfl (aF)))))))))))))))))))))))))))))))))))))))))))))))))))) (λ_=>rfl) rfl ?_;intro y W4 g _;have p:=ag ht g;replace C:=C.ext g;clear g;obtain⟨K,kg⟩:∃K:Nat,c.k=K:=⟨c.k.toNat,by omega⟩;have hO:K<H.m.fs.length:=by omega
   have hR:=hbk.ext p;have h5:=h.below p;obtain⟨bg,og,kr,hF⟩:=jO eX h5.fr.rd K hO;have hy:Hid (Lk=if(aB H.ma K).r<1\/(aB H.ma K).f≠c.f\/(aB H.ma K).i≠c.i then 7 else match zm H.ca k with
    | none=>0
    | some q=>if c.f<q.f\/q.f=c.f/\c.i<=q.i then 2 else 0):=ae (by
    rw[hE.out];unfold uX;rw[if_neg (by rw[hY.out,hG.out];show ¬(c.f<0\/(H.fi.length:Int)<=c.f\/c.i<0\/(P.l.length:Int)<=c.i\/c.k<0\/(H.m.fs.length:Int)<=c.k);omega),kg];rfl)
   have h3:H.m.fs[K]=aB H.ma K:=by have:=sQ (m:=H.ma) (f:=K) hO;have h2:H.m.fs[K]?=some (aB H.ma K):=this;rw[aI hO]at h2;exact aM h2
   rw[h3]at hF;generalize aB H.ma K=x at *
   clear h3 O J S hG hY z hV c2 c3 c4 c5 c6 c1 hE X;go_upto_region 6 with(fail);refine aO 10 [_,_,_,_,_,_,_,_,_,.r 9 ((iP W4.heap.size 66 13))] (Gk rfl (Gk rfl (Gf b 0 rfl rfl (Gf b 0 rfl rfl (Gl hR (V:=.slice (some ⟨bg,og,none⟩) H.m.fs.length H.cf) (by simp[dF,kr]) rfl rfl rfl rfl (Gf gc 2 rfl rfl (Gl C (V:=.int .i64 (K:Int)) (by simp[vT,kg]) rfl rfl rfl rfl (Gr (.pointer (some ⟨bg,og+K*13,none⟩)) (λρ y W A d=>(bN rfl (aH rfl d) (aH rfl d) hO underlying30 frame_size)) rfl rfl (Gr (.agg (tV x)) (λρ y W A d=>(bJ rfl (aH rfl d) (hF.below A) underlying66 (A:=frame_size))) rfl rfl (ah ?_ (aF))))))))))) (λ_=>rfl) rfl ?_
   ·intro ρ y W hw hn A hd;refine jg (.pointer (some ⟨W.heap.size,0,none⟩)) (aj) (by simp[execOp,go_sem]) ((Below.refl _ _).alloc (az _) (.cells #[.int .u8 0,.int .u8 0,.int .u8 0,.int .u8 0,.int .u8 0,.int .u8 0,.int .u8 0,.int .u8 0,.int .i64 0,.bool false,.bool false,.int .i64 0,.int .i64 0] 66)) ?_;exact⟨_,_,rfl,A.size,aG.new _ _ _,rfl⟩
   intro y W5 hI hU;have kn:((iP W4.heap.size 66 13)).r (y 9) W5:=hU 9 (by decide);clear hU;obtain⟨gx,curx,h9,h8,ki,hQ⟩:=kn;rw[h9]
   go_wp2_with (refine gD rfl _ _ _ rfl gx 0 (tV x) rfl rfl _ _ ki (by rw[hQ];exact az _) frame_size (pq x) ?_)
   intro w6 hZ ka;rw[gK _ _ (by rw[hQ];rfl)]at hZ;have hC:Below W4.heap.size W4 w6:=hI.grown ka hI.size (λk hk=>by cases hk;exact h8);have hm:=ag p hC;have G:=C.ext hC;have n:=hbk.ext hm;clear ki hI ka C hR h5 hF hC h9;have kc:=hZ.cell;unfold tV at kc;have ke:=G.cell;unfold vT at ke
   by_cases d1:x.r<1
   ·have hB:Hid (Lk=7):=ae (by rw[hy.out,if_pos (.inl d1)]);have I:Hid (cachedE H.ma=7):=ae (by rw[Z.out (by rw[hB.out];decide),hB.out]);clear n;go_wp2;go_ret;rw[I.out];exact⟨rfl,hm⟩
   by_cases d2:x.f=c.f
   rotate_left
   ·have hB:Hid (Lk=7):=ae (by rw[hy.out,if_pos (.inr (.inl d2))]);have I:Hid (cachedE H.ma=7):=ae (by rw[Z.out (by rw[hB.out];decide),hB.out]);clear n;go_wp2;go_ret;rw[I.out];exact⟨rfl,hm⟩
   by_cases d3:x.i=c.i
   rotate_left
   ·have hB:Hid (Lk=7):=ae (by rw[hy.out,if_pos (.inr (.inr d3))]);have I:Hid (cachedE H.ma=7):=ae (by rw[Z.out (by rw[hB.out];decide),hB.out]);clear n;go_wp2;go_ret;rw[I.out];exact⟨rfl,hm⟩
   rw[if_neg (by rintro(h | h | h);exact d1 h;exact h d2;exact h d3)]at hy;go_upto_region 9 with(fail);clear kc ke hZ d1 d2 d3;obtain⟨k1,q,R,o,U,hx,h7⟩:∃(k1:Nat) (q:Cc),(0<k->IntKind.i64.wrap ((k:Int)-1)=(k1:Int))/\(0<k->k1<H.ca.length)/\(0<k->∀W,Below w6.heap.size w6 W->W.cell? ⟨E,D+k1*3,none⟩=some (.int .i64 q.f))/\(0<k->∀W,Below w6.heap.size w6 W->W.cell? ⟨E,D+k1*3+1,none⟩=some (.int .i64 q.i))/\(0<k->zm H.ca k=some q):=by
    by_cases h0:0<k
    ·have hD:k-1<H.ca.length:=by omega
     have hH:∀W,Below w6.heap.size w6 W->W.cell? ⟨E,D+(k-1)*3,none⟩=some (.int .i64 H.ca[k-1].f)/\W.cell? ⟨E,D+(k-1)*3+1,none⟩=some (.int .i64 H.ca[k-1].i):=λW A=>by obtain⟨bc',oc',c',hT,kh,e1,e2,_⟩:=Uj (h.below (ag hm A)).ca.rd (k-1) hD;rw[aI hD]at kh;cases kh;rw[Y]at hT;cases hT;exact⟨e1,e2⟩
     refine⟨k-1,H.ca[k-1],λ_ => ?_,λ_=>hD,λ_ W A=>(hH W A).1,λ_ W A=>(hH W A).2,λ_ => ?_⟩
     ·rw[show(k:Int)-1=((k-1:Nat):Int) by omega];exact bK _ (by omega)
     ·rw[h6.out,if_neg (by omega),aI hD]
    ·exact⟨0,zCc,λh'=>absurd h' h0,λh'=>absurd h' h0,λh'=>absurd h' h0,λh'=>absurd h' h0,λh'=>absurd h' h0⟩
   by_cases e1:k=0
   ·have e1i:¬(0:Int)<(k:Int):=by omega
    have hK:Hid (Lk=0):=ae (by rw[hy.out,h6.out,if_pos e1]);refine aO 44 [_,_,_,_,_,_,_,_,_,_,_,_,_,_,_,_,_,_,_,_,_,_,_,_,_,_,_,_,_,_,_,_,_,_,_,_,_,_,_,_,_,_,_,.v (.bool false)] (Gk rfl (Gb (.bool false) (by simp[go_sem,e1]) rfl rfl rfl rfl rfl (Gk rfl (Gk rfl (Gk rfl (Gk rfl (Gk rfl (Gk rfl (Gk rfl (Gk rfl (Gk rfl (Gk rfl (Gk rfl (Gk rfl (Gk rfl (Gk rfl (Gk rfl (Gk rfl (Gk rfl (Gk rfl (Gk rfl (Gk rfl (Gk rfl (Gk rfl (Gk rfl (Gk rfl (Gk rfl (Gk rfl (Gk rfl (Gk rfl (Gk rfl (Gk rfl (Gk rfl (Gk rfl (Gk rfl (Gk rfl (Gk rfl (Gk rfl (Gk rfl (Gk rfl (Gk rfl (Gk rfl (Gk rfl (Gk rfl (aF))))))))))))))))))))))))))))))))))))))))))))) (λ_=>rfl) rfl ?_;intro y W7 u _;have hs:=ag hm u;clear u;have hA:=ae (hW.out hK.out);clear U hx R o G n;go_wp2;go_roundw
    case rel=>exact⟨k+1,by omega,by go_num,hs,hA⟩
    case measure=>simp[intOf];omega
   have e1i:0<k:=by omega
   replace R:=R (by omega);replace o:=o (by omega);replace U:=U (by omega);replace hx:=hx (by omega);have hM:=ae (h7 (by omega));clear h7
   by_cases e2:c.f<q.f
   ·have t:Hid (c.f<q.f\/q.f=c.f/\c.i<=q.i):=ae (.inl e2);refine aO 44 [_,_,_,_,_,_,_,_,_,_,_,_,_,_,_,_,_,_,_,_,_,_,_,_,_,_,_,_,_,_,_,_,_,_,_,_,_,_,_,_,_,_,_,.v (.bool true)] (Gk rfl (Gb (.bool true) (by simp[go_sem,e1i]) rfl rfl rfl rfl rfl (Gk rfl (Gk rfl (Gk rfl (Gf b 9 rfl rfl (Gl n (V:=.slice (some ⟨E,D,none⟩) H.ca.length H.cc) (by simp[dF,Y]) rfl rfl rfl rfl (Gk rfl (Gb (.int .i64 (k1:Int)) (by simp[go_sem,R]) rfl rfl rfl rfl rfl (Gr (.pointer (some ⟨E,D+k1*3,none⟩)) (λρ y W A d=>(bN rfl (aH rfl d) (aH rfl d) o underlying42 cached_size)) rfl rfl (Gf E (D+k1*3) rfl rfl (Gc (.int .i64 q.f) (λW A=>by simp[U _ A]) rfl rfl rfl rfl (Gf gc 0 rfl rfl (Gl G rfl rfl rfl rfl rfl (Gb (.bool true) (by simp[go_sem,e2]) rfl rfl rfl rfl rfl (Gk rfl (Gk rfl (Gk rfl (Gk rfl (Gk rfl (Gk rfl (Gk rfl (Gk rfl (Gk rfl (Gk rfl (Gk rfl (Gk rfl (Gk rfl (Gk rfl (Gk rfl (Gk rfl (Gk rfl (Gk rfl (Gk rfl (Gk rfl (Gk rfl (Gk rfl (Gk rfl (Gk rfl (Gk rfl (Gk rfl (Gk rfl (Gk rfl (Gk rfl (aF))))))))))))))))))))))))))))))))))))))))))))) (λ_=>rfl) rfl ?_;intro y W7 u _;have hs:=ag hm u;clear u;have hJ:Hid (Lk=2):=ae (by rw[hy.out,hM.out];simp only;rw[if_pos t.out]);have I:Hid (cachedE H.ma=2):=ae (by rw[Z.out (by rw[hJ.out];decide),hJ.out]);clear U hx R o G n;go_wp2;go_ret;rw[I.out];exact⟨rfl,hs⟩
   by_cases e3:q.f=c.f
   ·by_cases e4:c.i<=q.i
    ·have t:Hid (c.f<q.f\/q.f=c.f/\c.i<=q.i):=ae (.inr ⟨e3,e4⟩);refine aO 44 [_,_,_,_,_,_,_,_,_,_,_,_,_,_,_,_,_,_,_,_,_,_,_,_,_,_,_,_,_,_,_,_,_,_,_,_,_,_,_,_,_,_,_,.v (.bool true)] (Gk rfl (Gb (.bool true) (by simp[go_sem,e1i]) rfl rfl rfl rfl rfl (Gk rfl (Gk rfl (Gk rfl (Gf b 9 rfl rfl (Gl n (V:=.slice (some ⟨E,D,none⟩) H.ca.length H.cc) (by simp[dF,Y]) rfl rfl rfl rfl (Gk rfl (Gb (.int .i64 (k1:Int)) (by simp[go_sem,R]) rfl rfl rfl rfl rfl (Gr (.pointer (some ⟨E,D+k1*3,none⟩)) (λρ y W A d=>(bN rfl (aH rfl d) (aH rfl d) o underlying42 cached_size)) rfl rfl (Gf E (D+k1*3) rfl rfl (Gc (.int .i64 q.f) (λW A=>by simp[U _ A]) rfl rfl rfl rfl (Gf gc 0 rfl rfl (Gl G rfl rfl rfl rfl rfl (Gb (.bool false) (by simp[go_sem,e2]) rfl rfl rfl rfl rfl (Gk rfl (Gk rfl (Gk rfl (Gf b 9 rfl rfl (Gl n (V:=.slice (some ⟨E,D,none⟩) H.ca.length H.cc) (by simp[dF,Y]) rfl rfl rfl rfl (Gk rfl (Gb (.int .i64 (k1:Int)) (by simp[go_sem,R]) rfl rfl rfl rfl rfl (Gr (.pointer (some ⟨E,D+k1*3,none⟩)) (λρ y W A d=>(bN rfl (aH rfl d) (aH rfl d) o underlying42 cached_size)) rfl rfl (Gf E (D+k1*3) rfl rfl (Gc (.int .i64 q.f) (λW A=>by simp[U _ A]) rfl rfl rfl rfl (Gf gc 0 rfl rfl (Gl G rfl rfl rfl rfl rfl (Gb (.bool true) (by simp[go_sem,e3]) rfl rfl rfl rfl rfl (Gk rfl (Gk rfl (Gk rfl (Gf b 9 rfl rfl (Gl n (V:=.slice (some ⟨E,D,none⟩) H.ca.length H.cc) (by simp[dF,Y]) rfl rfl rfl rfl (Gk rfl (Gb (.int .i64 (k1:Int)) (by simp[go_sem,R]) rfl rfl rfl rfl rfl (Gr (.pointer (some ⟨E,D+k1*3,none⟩)) (λρ y W A d=>(bN rfl (aH rfl d) (aH rfl d) o underlying42 cached_size)) rfl rfl (Gf E (D+k1*3+1) rfl rfl (Gc (.int .i64 q.i) (λW A=>by simp[hx _ A]) rfl rfl rfl rfl (Gf gc 1 rfl rfl (Gl G rfl rfl rfl rfl rfl (Gb (.bool true) (by simp[go_sem,e4]) rfl rfl rfl rfl rfl (Gk rfl (Gk rfl (Gk rfl (aF))))))))))))))))))))))))))))))))))))))))))))) (λ_=>rfl) rfl ?_;intro y W7 u _;have hs:=ag hm u;clear u;have hJ:Hid (Lk=2):=ae (by rw[hy.out,hM.out];simp only;rw[if_pos t.out]);have I:Hid (cachedE H.ma=2):=ae (by rw[Z.out (by rw[hJ.out];decide),hJ.out]);clear U hx R o G n;go_wp2;go_ret;rw[I.out];exact⟨rfl,hs⟩
    have hK:Hid (Lk=0):=ae (by rw[hy.out,hM.out];simp only;rw[if_neg (by omega)]);refine aO 44 [_,_,_,_,_,_,_,_,_,_,_,_,_,_,_,_,_,_,_,_,_,_,_,_,_,_,_,_,_,_,_,_,_,_,_,_,_,_,_,_,_,_,_,.v (.bool false)] (Gk rfl (Gb (.bool true) (by simp[go_sem,e1i]) rfl rfl rfl rfl rfl (Gk rfl (Gk rfl (Gk rfl (Gf b 9 rfl rfl (Gl n (V:=.slice (some ⟨E,D,none⟩) H.ca.length H.cc) (by simp[dF,Y]) rfl rfl rfl rfl (Gk rfl (Gb (.int .i64 (k1:Int)) (by simp[go_sem,R]) rfl rfl rfl rfl rfl (Gr (.pointer (some ⟨E,D+k1*3,none⟩)) (λρ y W A d=>(bN rfl (aH rfl d) (aH rfl d) o underlying42 cached_size)) rfl rfl (Gf E (D+k1*3) rfl rfl (Gc (.int .i64 q.f) (λW A=>by simp[U _ A]) rfl rfl rfl rfl (Gf gc 0 rfl rfl (Gl G rfl rfl rfl rfl rfl (Gb (.bool false) (by simp[go_sem,e2]) rfl rfl rfl rfl rfl (Gk rfl (Gk rfl (Gk rfl (Gf b 9 rfl rfl (Gl n (V:=.slice (some ⟨E,D,none⟩) H.ca.length H.cc) (by simp[dF,Y]) rfl rfl rfl rfl (Gk rfl (Gb (.int .i64 (k1:Int)) (by simp[go_sem,R]) rfl rfl rfl rfl rfl (Gr (.pointer (some ⟨E,D+k1*3,none⟩)) (λρ y W A d=>(bN rfl (aH rfl d) (aH rfl d) o underlying42 cached_size)) rfl rfl (Gf E (D+k1*3) rfl rfl (Gc (.int .i64 q.f) (λW A=>by simp[U _ A]) rfl rfl rfl rfl (Gf gc 0 rfl rfl (Gl G rfl rfl rfl rfl rfl (Gb (.bool true) (by simp[go_sem,e3]) rfl rfl rfl rfl rfl (Gk rfl (Gk rfl (Gk rfl (Gf b 9 rfl rfl (Gl n (V:=.slice (some ⟨E,D,none⟩) H.ca.length H.cc) (by simp[dF,Y]) rfl rfl rfl rfl (Gk rfl (Gb (.int .i64 (k1:Int)) (by simp[go_sem,R]) rfl rfl rfl rfl rfl (Gr (.pointer (some ⟨E,D+k1*3,none⟩)) (λρ y W A d=>(bN rfl (aH rfl d) (aH rfl d) o underlying42 cached_size)) rfl rfl (Gf E (D+k1*3+1) rfl rfl (Gc (.int .i64 q.i) (λW A=>by simp[hx _ A]) rfl rfl rfl rfl (Gf gc 1 rfl rfl (Gl G rfl rfl rfl rfl rfl (Gb (.bool false) (by simp[go_sem,e4]) rfl rfl rfl rfl rfl (Gk rfl (Gk rfl (Gk rfl (aF))))))))))))))))))))))))))))))))))))))))))))) (λ_=>rfl) rfl ?_;intro y W7 u _;have hs:=ag hm u;clear u;have hA:=ae (hW.out hK.out);clear U hx R o G n;go_wp2;go_roundw
    case rel=>exact⟨k+1,by omega,by go_num,hs,hA⟩
    case measure=>simp[intOf];omega
   have hK:Hid (Lk=0):=ae (by rw[hy.out,hM.out];simp only;rw[if_neg (by omega)]);refine aO 44 [_,_,_,_,_,_,_,_,_,_,_,_,_,_,_,_,_,_,_,_,_,_,_,_,_,_,_,_,_,_,_,_,_,_,_,_,_,_,_,_,_,_,_,.v (.bool false)] (Gk rfl (Gb (.bool true) (by simp[go_sem,e1i]) rfl rfl rfl rfl rfl (Gk rfl (Gk rfl (Gk rfl (Gf b 9 rfl rfl (Gl n (V:=.slice (some ⟨E,D,none⟩) H.ca.length H.cc) (by simp[dF,Y]) rfl rfl rfl rfl (Gk rfl (Gb (.int .i64 (k1:Int)) (by simp[go_sem,R]) rfl rfl rfl rfl rfl (Gr (.pointer (some ⟨E,D+k1*3,none⟩)) (λρ y W A d=>(bN rfl (aH rfl d) (aH rfl d) o underlying42 cached_size)) rfl rfl (Gf E (D+k1*3) rfl rfl (Gc (.int .i64 q.f) (λW A=>by simp[U _ A]) rfl rfl rfl rfl (Gf gc 0 rfl rfl (Gl G rfl rfl rfl rfl rfl (Gb (.bool false) (by simp[go_sem,e2]) rfl rfl rfl rfl rfl (Gk rfl (Gk rfl (Gk rfl (Gf b 9 rfl rfl (Gl n (V:=.slice (some ⟨E,D,none⟩) H.ca.length H.cc) (by simp[dF,Y]) rfl rfl rfl rfl (Gk rfl (Gb (.int .i64 (k1:Int)) (by simp[go_sem,R]) rfl rfl rfl rfl rfl (Gr (.pointer (some ⟨E,D+k1*3,none⟩)) (λρ y W A d=>(bN rfl (aH rfl d) (aH rfl d) o underlying42 cached_size)) rfl rfl (Gf E (D+k1*3) rfl rfl (Gc (.int .i64 q.f) (λW A=>by simp[U _ A]) rfl rfl rfl rfl (Gf gc 0 rfl rfl (Gl G rfl rfl rfl rfl rfl (Gb (.bool false) (by simp[go_sem,e3]) rfl rfl rfl rfl rfl (Gk rfl (Gk rfl (Gk rfl (Gk rfl (Gk rfl (Gk rfl (Gk rfl (Gk rfl (Gk rfl (Gk rfl (Gk rfl (Gk rfl (Gk rfl (Gk rfl (Gk rfl (Gk rfl (aF))))))))))))))))))))))))))))))))))))))))))))) (λ_=>rfl) rfl ?_;intro y W7 u _;have hs:=ag hm u;clear u;have hA:=ae (hW.out hK.out);clear U hx R o G n;go_wp2;go_roundw
   case rel=>exact⟨k+1,by omega,by go_num,hs,hA⟩
   case measure=>simp[intOf];omega
  have kq:¬(k:Int)<(H.ca.length:Int):=by omega
  have I:Hid (cachedE H.ma=0):=ae (by rw[km.out,ul λi hi=>hz.out i hi (by rw[kl.out]at hi;omega)]);clear hz;go_wp2;go_ret;rw[I.out];exact⟨rfl,hN⟩
theorem QS{s:Sp}(h:ik s.ar n<0):dh m s n=5:=by unfold dh;exact if_pos h
theorem Nz(H:MH)(P:PS)(n:Int)(b bs os:Nat)(w:World)(N:aG w b (dF H) 45)(h:wI w H)(hrd:eu w (some ⟨bs,os,none⟩) (ug P))(hg:P.good w)(har:(bQ P.ar).1=0)(htb:dA P.tb=0)(hn:0<=n/\n<64) :
  Calls Tryz.prog 83 #[.pointer (some ⟨b,0,none⟩),.pointer (some ⟨bs,os,none⟩),.int .i64 n] w λr w'=>r = .returned (.int .i64 (dh H.ma P.sp n))/\Below w.heap.size w w':=by
 have hV:∀W,Below w.heap.size w W->W.cell? ⟨bs,os+1,none⟩=some (.slice P.aa P.ar.length P.ac):=λW A=>by obtain⟨b',o',e,hc⟩:=(hrd.below A) 1 _ rfl;cases e;exact hc
 go_enter func83,ntmps83;have ki:=hV w (Below.refl _ _);have hA:=hg.ars
 go_wp2_with fail
 refine(Ih P.ar n P.aa P.ac _ hA.rd (by have:=hA.le;have:=hA.mx;unfold maxLen at this;omega)).mono ?_;rintro r w1 ⟨rfl,hx⟩;have hT:=N.ext hx;have h1:=h.below hx;have hX:=hg.below hx;have hR:=hrd.below hx;clear ki hA
 by_cases hf:ik P.ar n<0
 ·have C:Hid (dh H.ma P.sp n=5):=ae (QS hf);clear hT;go_wp2;go_ret;rw[C.out];exact⟨rfl,hx⟩
 have M:Hid (dh H.ma P.sp n=(let a:=P.ar.getD (ik P.ar n).toNat zAr
  let e:=dM P.tb n
  if e.k=2 then(if(H.sl.length:Int)<=e.n\/a.sh=true then 7 else 0)
  else if(H.m.fs.length:Int)<=e.n then 3 else
  let f:=jw H.ma e.n;let of:=decide (0<=a.fi)&&decide (f.f=a.fi)&&decide (f.i=a.ba+n-a.fr)
  if 0<=f.f/\of=false\/a.sh=true/\of=false\/a.sh=false/\of=true/\e.w=true\/e.w=true/\a.wr=false then 7
  else if f.f<0/\e.w=true/\1<f.r then 7 else 0)):=ae (by unfold dh;exact if_neg hf)
 obtain⟨k,hk,hO,_⟩:=Ed (q:=pU n) (l:=P.ar) (by show 0<=ik P.ar n;omega);have hW : ik P.ar n=k:=hk;rw[hW,bv,aW,aI hO]at M;simp only[qy]at M;have ku:¬(k:Int)<0:=by omega
 rw[hW];obtain⟨I,G,kl,hU⟩:=jO rZ hX.ars.rd k hO;have kg:=(sK har).2 _ (fe hO);have hM:=(bM kg).1;have kt:=(bG _).1 (qH htb n);generalize P.ar[k]=a at *
 generalize hge:dM P.tb n=e at *
 have ka:=ae hge;clear hk hW hf kg hge;go_upto_region 4 with(fail);refine kv 15 [_,_,_,_,_,_,_,_,_,_,_,.v (.agg (jm e)),.r 12 ((iP w1.heap.size 68 3)),.v (.pointer (some ⟨I,G+k*7,none⟩)),.y 14 ((Kk 12 w1.heap.size 68 (mW (.agg (jm e)))))] (λW=>Below w1.heap.size w1 W) dV (Below.refl _ _) (Yk dV rfl (Yk dV rfl (Yf dV bs (os+1) rfl rfl (Yc dV (.slice (some ⟨I,G,none⟩) P.ar.length P.ac) (λW A=>by simp[hV _ (ag hx A),kl]) rfl rfl rfl rfl (Yk dV rfl (Yr dV (.pointer (some ⟨I,G+k*7,none⟩)) (λρ y W A hB=>(bN rfl (aH rfl hB) (aH rfl hB) hO underlying71 area_size)) rfl rfl (Yk dV rfl (Yk dV rfl (Yf dV bs (os+2) rfl rfl (Yr dV (.agg (nT P.ts)) (λρ y W A hB=>(bJ rfl (aH rfl hB) (nJ (hR.below A) 2 8) underlying74 (C:=tab_agg) (A:=tab_size))) rfl rfl (Yk dV rfl (ah ?_ (ah ?_ (Yk dV rfl (ah ?_ (aF)))))))))))))))) (λ_=>rfl) rfl ?_
 ·intro ρ y W hw hn A hd;refine iW dV A (mW (.agg (jm e))) (λ_ _ h=>h) ?_;have kr:=hw 30 9 rfl;have h9:y 9=_:=hd 9 rfl;have kq:=hw 31 10 rfl;have ko:y 10=_:=hd 10 rfl;have EF:=eF0 hn λ_=>trivial;refine aP (aS rfl (EF _) func42 (by simp only[bU,bS,aZ,kr,h9,kq,ko,EF];rfl)) ?_;refine(Ah P.tb (nT P.ts) n W (hX.below A).tb).mono ?_;rintro r w2 ⟨rfl,kj⟩;rw[ka.out];exact⟨_,rfl,kj,rfl⟩
 ·intro ρ y W hw hn A hd;refine iW dV A ((iP w1.heap.size 68 3)) (λ_ _ h=>h) ?_;refine jg (.pointer (some ⟨W.heap.size,0,none⟩)) (aj) (by simp[execOp,go_sem,bW]) ((Below.refl _ _).alloc (az _) (.cells #[.int .i64 0,.int .i64 0,.bool false] 68)) ?_;exact⟨_,_,rfl,A.size,aG.new _ _ _,rfl⟩
 ·intro ρ y W hw hn A hd;have E9:=hw 9 12 rfl;have km:=hd 12 rfl;have kp:=hw 32 11 rfl;have kn:y 11=_:=hd 11 rfl;obtain⟨g3,cur3,e9,kb,ke,h7⟩:=km;refine mH _ _ _ rfl g3 0 (.agg (jm e)) (jm e).toList (E9.trans e9) (kp.trans kn) rfl cur3 _ ke (by rw[h7];exact az _) entry_size (bV (by simp[jm,Value.oneCell'])) ?_;intro w1 hG h8;rw[gK cur3 _ (by rw[h7];rfl)]at hG;refine⟨A.grown h8 A.size (λk hk=>by cases hk;exact kb),⟨g3,_,e9,kb,hG,rfl⟩,?_⟩;intro k hk kh
  match k,hk,kh with
  | 0,_,_|1,_,_|2,_,_|3,_,_|4,_,_|5,_,_|6,_,_|7,_,_|8,_,_|9,_,_|10,_,_|11,_,_=>exactλh=>h
  | 12,_,_=>exactλq=>lh q hG ⟨_,ke⟩ h8
  | 13,_,_=>exactλh=>h
  | 14,_,h=>exact absurd rfl h
  | n+15,h,_=>exact absurd h (by omega)
 intro y w4 hF hN;replace hF:Below w1.heap.size w1 w4:=hF;have h0:((iP w1.heap.size 68 3)).r (y 12) w4:=hN 12 (by decide);have hZ:=hN 14 (by decide);clear hN;simp only[dn,bW,bS,aZ];obtain⟨ge,cce,hS,ks,kf,kc⟩:=hZ;have hY : cce=jm e:=by simpa[mW]using kc
 subst hY;rw[hS];have hz:=hF;have hm:=ag hx hz;have D:=kf;have hs:=N.ext hm;have h4:=h.below hm;have hL:=hU.below hz;clear hF hz hS kf hU hR hT h1 hx hV hX h0;have hH:∀j u,(mV a)[j]?=some u->∀W,Below w4.heap.size w4 W->W.cell? ⟨I,G+k*7+j,none⟩=some u:=λj u hj W A=>by obtain⟨b',o',e',hc⟩:=(hL.below A) j u hj;cases e';exact hc
 have J:=hH 3 _ rfl;have F:=hH 4 _ rfl;have t:=hH 5 _ rfl;have hC:=hH 6 _ rfl;have hD:∀W,Below w4.heap.size w4 W->W.cell? ⟨I,G+k*7,none⟩=some (.int .i64 a.fr):=hH 0 _ rfl;have s:=D.cell;unfold jm at s;clear hH hL
 by_cases X:e.k=2
 ·rw[if_pos X]at M;rw[X]at s;go_upto_region 6 with(fail);clear s X
  by_cases c1:(H.sl.length:Int)<=e.n
  ·have C:Hid (dh H.ma P.sp n=7):=ae (by rw[M.out,if_pos (.inl c1)]);refine aO 14 [_,_,_,_,_,_,_,_,_,_,_,_,_,.v (.bool true)] (Gf ge 1 rfl rfl (Gl D rfl rfl rfl rfl rfl (Gk rfl (Gk rfl (Gf b 2 rfl rfl (Gl hs rfl rfl rfl rfl rfl (Gn rfl rfl rfl rfl (Gb (.bool true) (by simp[go_sem,c1]) rfl rfl rfl rfl rfl (Gk rfl (Gk rfl (Gk rfl (Gk rfl (Gk rfl (Gk rfl (aF))))))))))))))) (λ_=>rfl) rfl ?_;intro y L o _;have p:=ag hm o;clear o;go_wp2;go_ret;rw[C.out];exact⟨rfl,p⟩
  cases c2:a.sh with
  | true=>
   have C:Hid (dh H.ma P.sp n=7):=ae (by rw[M.out,if_pos (.inr c2)]);refine aO 14 [_,_,_,_,_,_,_,_,_,_,_,_,_,.v (.bool true)] (Gf ge 1 rfl rfl (Gl D rfl rfl rfl rfl rfl (Gk rfl (Gk rfl (Gf b 2 rfl rfl (Gl hs rfl rfl rfl rfl rfl (Gn rfl rfl rfl rfl (Gb (.bool false) (by simp[go_sem,c1]) rfl rfl rfl rfl rfl (Gk rfl (Gk rfl (Gk rfl (Gf I (G+k*7+4) rfl rfl (Gc (.bool true) (λW A=>by simp[F _ A,c2]) rfl rfl rfl rfl (Gk rfl (aF))))))))))))))) (λ_=>rfl) rfl ?_;intro y L o _;have p:=ag hm o;clear o;go_wp2;go_ret;rw[C.out];exact⟨rfl,p⟩
  | false=>
   have C:Hid (dh H.ma P.sp n=0):=ae (by rw[M.out,if_neg (by rw[c2];simp;omega)]);refine aO 14 [_,_,_,_,_,_,_,_,_,_,_,_,_,.v (.bool false)] (Gf ge 1 rfl rfl (Gl D rfl rfl rfl rfl rfl (Gk rfl (Gk rfl (Gf b 2 rfl rfl (Gl hs rfl rfl rfl rfl rfl (Gn rfl rfl rfl rfl (Gb (.bool false) (by simp[go_sem,c1]) rfl rfl rfl rfl rfl (Gk rfl (Gk rfl (Gk rfl (Gf I (G+k*7+4) rfl rfl (Gc (.bool false) (λW A=>by simp[F _ A,c2]) rfl rfl rfl rfl (Gk rfl (aF))))))))))))))) (λ_=>rfl) rfl ?_;intro y L o _;have p:=ag hm o;clear o;go_wp2;go_ret;rw[C.out];exact⟨rfl,p⟩
 rw[if_neg X]at M;obtain⟨K,hK⟩:∃K:Nat,e.n=K:=⟨e.n.toNat,by omega⟩;rw[hK]at M;go_upto_region 9 with(fail);clear s
 by_cases c3:(H.m.fs.length:Int)<=(K:Int)
 ·have C:Hid (dh H.ma P.sp n=3):=ae (by rw[M.out,if_pos c3]);have Z:(H.m.fs.length:Int)<=e.n:=by omega
  refine aO 9 [_,_,_,_,_,_,_,_,_] (Gf ge 1 rfl rfl (Gl D rfl rfl rfl rfl rfl (Gk rfl (Gk rfl (Gf b 0 rfl rfl (Gf b 0 rfl rfl (Gl hs rfl rfl rfl rfl rfl (Gn rfl rfl rfl rfl (Gb (.bool true) (by simp[go_sem,Z]) rfl rfl rfl rfl rfl (aF)))))))))) (λ_=>rfl) rfl ?_;intro y L o _;have p:=ag hm o;clear o hD J F t hC c3 Z;go_wp2;go_ret;rw[C.out];exact⟨rfl,p⟩
 rw[if_neg c3]at M;have Z:¬(H.m.fs.length:Int)<=e.n:=by omega
 refine aO 9 [_,_,_,_,_,_,_,_,_] (Gf ge 1 rfl rfl (Gl D rfl rfl rfl rfl rfl (Gk rfl (Gk rfl (Gf b 0 rfl rfl (Gf b 0 rfl rfl (Gl hs rfl rfl rfl rfl rfl (Gn rfl rfl rfl rfl (Gb (.bool false) (by simp[go_sem,Z]) rfl rfl rfl rfl rfl (aF)))))))))) (λ_=>rfl) rfl ?_;intro y L o _;have p:=ag hm o;have hQ:K<H.m.fs.length:=by omega
 replace D:=D.ext o;have hp:=N.ext p;have h5:=h.below p;have E:∀ {u:Value} {z:Addr},(∀W,Below w4.heap.size w4 W->W.cell? z=some u)->∀W,Below L.heap.size L W->W.cell? z=some u:=λhh W A=>hh W (ag o A);replace hD:=E hD;replace J:=E J;replace F:=E F;replace t:=E t;replace hC:=E hC;obtain⟨bg,U,kk,hr⟩:=jO eX h5.fr.rd K hQ;have h3:H.m.fs[K]=aB H.ma K:=by have:=sQ (m:=H.ma) (f:=K) hQ;have h2:H.m.fs[K]?=some (aB H.ma K):=this;rw[aI hQ]at h2;exact aM h2
 rw[h3]at hr;have c:Hid (dh H.ma P.sp n=(let of:=decide (0<=a.fi)&&decide ((aB H.ma K).f=a.fi)&&decide ((aB H.ma K).i=a.ba+n-a.fr)
  if 0<=(aB H.ma K).f/\of=false\/a.sh=true/\of=false\/a.sh=false/\of=true/\e.w=true\/e.w=true/\a.wr=false then 7
  else if(aB H.ma K).f<0/\e.w=true/\1<(aB H.ma K).r then 7 else 0)):=ae (by rw[M.out];rfl)
 generalize aB H.ma K=x at *
 clear M h3 o hs h4 hm c3 E;go_upto_region 11 with(fail);refine aO 9 [_,_,_,_,_,_,_,_,.v (.pointer (some ⟨bg,U+K*13,none⟩))] (Gk rfl (Gk rfl (Gf b 0 rfl rfl (Gf b 0 rfl rfl (Gl hp (V:=.slice (some ⟨bg,U,none⟩) H.m.fs.length H.cf) (by simp[dF,kk]) rfl rfl rfl rfl (Gf ge 1 rfl rfl (Gl D (V:=.int .i64 (K:Int)) (by simp[jm,hK]) rfl rfl rfl rfl (Gr (.pointer (some ⟨bg,U+K*13,none⟩)) (λρ y W A hB=>(bN rfl (aH rfl hB) (aH rfl hB) hQ underlying30 frame_size)) rfl rfl (Gk rfl (aF)))))))))) (λ_=>rfl) rfl ?_;intro y W7 hv _;have hJ:=ag p hv;have ex7:=D.ext hv;have kd:=N.ext hJ;have E:∀ {u:Value} {z:Addr},(∀W,Below L.heap.size L W->W.cell? z=some u)->∀W,Below W7.heap.size W7 W->W.cell? z=some u:=λhh W A=>hh W (ag hv A);replace hD:=E hD;replace J:=E J;replace F:=E F;replace t:=E t;replace hC:=E hC;have hI:=hr.below hv;clear D hp hv E hr p h5;have hG:IntKind.i64.wrap (a.ba+n)=a.ba+n:=bK _ (by obtain⟨⟨z1,z2⟩,⟨z3,z4⟩,z5,z6⟩:=hM;omega);have h6:IntKind.i64.wrap (a.ba+n-a.fr)=a.ba+n-a.fr:=bK _ (by obtain⟨⟨z1,z2⟩,⟨z3,z4⟩,z5,z6⟩:=hM;omega);go_upto_region 12 with(fail);refine aO 12 [_,_,_,_,_,_,_,_,_,_,_,.v (.int .i64 (a.ba+n-a.fr))] (Gk rfl (Gk rfl (Gf I (G+k*7+6) rfl rfl (Gc (.int .i64 a.ba) (λW A=>by simp[hC _ A]) rfl rfl rfl rfl (Gk rfl (Gb (.int .i64 (a.ba+n)) (by simp[go_sem,hG]) rfl rfl rfl rfl rfl (Gk rfl (Gk rfl (Gf I (G+k*7) rfl rfl (Gc (.int .i64 a.fr) (λW A=>by simp[hD _ A]) rfl rfl rfl rfl (Gb (.int .i64 (a.ba+n-a.fr)) (by simp[go_sem,h6]) rfl rfl rfl rfl rfl (Gk rfl (aF))))))))))))) (λ_=>rfl) rfl ?_;intro y L o _;have p:=ag hJ o;have D:=ex7.ext o;have hp:=N.ext p;have E:∀ {u:Value} {z:Addr},(∀W,Below W7.heap.size W7 W->W.cell? z=some u)->∀W,Below L.heap.size L W->W.cell? z=some u:=λhh W A=>hh W (ag o A);replace J:=E J;replace F:=E F;replace t:=E t;have hr:=hI.below o;clear ex7 kd o E hI hJ hG h6 hD hC;have hP:∀j u,(ni x)[j]?=some u->∀W,Below L.heap.size L W->W.cell? ⟨bg,U+K*13+j,none⟩=some u:=λj u hj W A=>by obtain⟨b',o',e',hc⟩:=(hr.below A) j u hj;cases e';exact hc
 have hy:=hP 8 _ rfl;have O:=hP 11 _ rfl;have ht:=hP 12 _ rfl;clear hP hr;go_upto_region 13 with(fail)
 by_cases g1:0<=a.fi
 ·by_cases g2:x.f=a.fi
  ·by_cases g3:x.i=a.ba+n-a.fr
   ·skip;refine aO 25 [_,_,_,_,_,_,_,_,_,_,_,_,_,_,_,_,_,_,_,_,_,_,_,_,.v (.bool true)] (Gk rfl (Gk rfl (Gf I (G+k*7+5) rfl rfl (Gc (.int .i64 a.fi) (λW A=>by simp[t _ A]) rfl rfl rfl rfl (Gb (.bool true) (by simp[go_sem,g1]) rfl rfl rfl rfl rfl (Gk rfl (Gk rfl (Gk rfl (Gf bg (U+K*13+11) rfl rfl (Gc (.int .i64 x.f) (λW A=>by simp[O _ A]) rfl rfl rfl rfl (Gk rfl (Gk rfl (Gf I (G+k*7+5) rfl rfl (Gc (.int .i64 a.fi) (λW A=>by simp[t _ A]) rfl rfl rfl rfl (Gb (.bool true) (by simp[go_sem,g2]) rfl rfl rfl rfl rfl (Gk rfl (Gk rfl (Gk rfl (Gk rfl (Gf bg (U+K*13+12) rfl rfl (Gc (.int .i64 x.i) (λW A=>by simp[ht _ A]) rfl rfl rfl rfl (Gk rfl (Gb (.bool true) (by simp[go_sem,g3]) rfl rfl rfl rfl rfl (Gk rfl (Gk rfl (aF)))))))))))))))))))))))))) (λ_=>rfl) rfl ?_;intro y W6 d _;have g:=ag p d;have x8:=hy _ d;have x11:=O _ d;have S:=J _ d;have R:=F _ d;have s:=(D.ext d).cell;unfold jm at s;clear d J F t hy O ht D hp;have f1:0<=x.f:=by omega
    have Y:¬x.f<0:=by omega
    replace c:Hid (dh H.ma P.sp n=if a.sh=false/\e.w=true\/e.w=true/\a.wr=false then 7 else 0):=ae (by rw[c.out,decide_eq_true g1,decide_eq_true g2,decide_eq_true g3];simp[Y]);clear g2 g3;cases f2:a.sh with
    | true=>
     rw[f2]at R;cases f3:e.w with
     | false=>
      rw[f3]at s;have C:Hid (dh H.ma P.sp n=0):=ae (by rw[c.out];simp[*];try omega);clear c;go_wp2;go_ret;rw[C.out];exact⟨rfl,g⟩
     | true=>
      rw[f3]at s;cases f4:a.wr with
      | false=>
       rw[f4]at S;have C:Hid (dh H.ma P.sp n=7):=ae (by rw[c.out];simp[*];try omega);clear c;go_wp2;go_ret;rw[C.out];exact⟨rfl,g⟩
      | true=>
       rw[f4]at S;have C:Hid (dh H.ma P.sp n=0):=ae (by rw[c.out];simp[*];try omega);clear c;go_wp2;go_ret;rw[C.out];exact⟨rfl,g⟩
    | false=>
     rw[f2]at R;cases f3:e.w with
     | true=>
      rw[f3]at s;have C:Hid (dh H.ma P.sp n=7):=ae (by rw[c.out];simp[*];try omega);clear c;go_wp2;go_ret;rw[C.out];exact⟨rfl,g⟩
     | false=>
      rw[f3]at s;have C:Hid (dh H.ma P.sp n=0):=ae (by rw[c.out];simp[*];try omega);clear c;go_wp2;go_ret;rw[C.out];exact⟨rfl,g⟩
   skip;refine aO 25 [_,_,_,_,_,_,_,_,_,_,_,_,_,_,_,_,_,_,_,_,_,_,_,_,.v (.bool false)] (Gk rfl (Gk rfl (Gf I (G+k*7+5) rfl rfl (Gc (.int .i64 a.fi) (λW A=>by simp[t _ A]) rfl rfl rfl rfl (Gb (.bool true) (by simp[go_sem,g1]) rfl rfl rfl rfl rfl (Gk rfl (Gk rfl (Gk rfl (Gf bg (U+K*13+11) rfl rfl (Gc (.int .i64 x.f) (λW A=>by simp[O _ A]) rfl rfl rfl rfl (Gk rfl (Gk rfl (Gf I (G+k*7+5) rfl rfl (Gc (.int .i64 a.fi) (λW A=>by simp[t _ A]) rfl rfl rfl rfl (Gb (.bool true) (by simp[go_sem,g2]) rfl rfl rfl rfl rfl (Gk rfl (Gk rfl (Gk rfl (Gk rfl (Gf bg (U+K*13+12) rfl rfl (Gc (.int .i64 x.i) (λW A=>by simp[ht _ A]) rfl rfl rfl rfl (Gk rfl (Gb (.bool false) (by simp[go_sem,g3]) rfl rfl rfl rfl rfl (Gk rfl (Gk rfl (aF)))))))))))))))))))))))))) (λ_=>rfl) rfl ?_;intro y W6 d _;have g:=ag p d;have x8:=hy _ d;have x11:=O _ d;have S:=J _ d;have R:=F _ d;have s:=(D.ext d).cell;unfold jm at s;clear d J F t hy O ht D hp;have hu:(decide (0<=a.fi)&&decide (x.f=a.fi)&&decide (x.i=a.ba+n-a.fr))=false:=by simp[*]
   replace c:Hid (dh H.ma P.sp n=if 0<=x.f\/a.sh=true\/e.w=true/\a.wr=false then 7 else if x.f<0/\e.w=true/\1<x.r then 7 else 0):=ae (by rw[c.out,hu];simp);clear hu g2 g3
   by_cases f1:0<=x.f
   ·skip;have C:Hid (dh H.ma P.sp n=7):=ae (by rw[c.out];simp[*];try omega);clear c;go_wp2;go_ret;rw[C.out];exact⟨rfl,g⟩
   have Y:x.f<0:=by omega
   cases f2:a.sh with
   | true=>
    rw[f2]at R;have C:Hid (dh H.ma P.sp n=7):=ae (by rw[c.out];simp[*];try omega);clear c;go_wp2;go_ret;rw[C.out];exact⟨rfl,g⟩
   | false=>
    rw[f2]at R;cases f3:e.w with
    | false=>
     rw[f3]at s;have C:Hid (dh H.ma P.sp n=0):=ae (by rw[c.out];simp[*];try omega);clear c;go_wp2;go_ret;rw[C.out];exact⟨rfl,g⟩
    | true=>
     rw[f3]at s;cases f4:a.wr with
     | false=>
      rw[f4]at S;have C:Hid (dh H.ma P.sp n=7):=ae (by rw[c.out];simp[*];try omega);clear c;go_wp2;go_ret;rw[C.out];exact⟨rfl,g⟩
     | true=>
      rw[f4]at S
      by_cases f5:1<x.r
      ·skip;have C:Hid (dh H.ma P.sp n=7):=ae (by rw[c.out];simp[*];try omega);clear c;go_wp2;go_ret;rw[C.out];exact⟨rfl,g⟩
      skip;have C:Hid (dh H.ma P.sp n=0):=ae (by rw[c.out];simp[*];try omega);clear c;go_wp2;go_ret;rw[C.out];exact⟨rfl,g⟩
  skip;refine aO 25 [_,_,_,_,_,_,_,_,_,_,_,_,_,_,_,_,_,_,_,_,_,_,_,_,.v (.bool false)] (Gk rfl (Gk rfl (Gf I (G+k*7+5) rfl rfl (Gc (.int .i64 a.fi) (λW A=>by simp[t _ A]) rfl rfl rfl rfl (Gb (.bool true) (by simp[go_sem,g1]) rfl rfl rfl rfl rfl (Gk rfl (Gk rfl (Gk rfl (Gf bg (U+K*13+11) rfl rfl (Gc (.int .i64 x.f) (λW A=>by simp[O _ A]) rfl rfl rfl rfl (Gk rfl (Gk rfl (Gf I (G+k*7+5) rfl rfl (Gc (.int .i64 a.fi) (λW A=>by simp[t _ A]) rfl rfl rfl rfl (Gb (.bool false) (by simp[go_sem,g2]) rfl rfl rfl rfl rfl (Gk rfl (Gk rfl (Gk rfl (Gk rfl (Gk rfl (Gk rfl (Gk rfl (Gk rfl (Gk rfl (Gk rfl (aF)))))))))))))))))))))))))) (λ_=>rfl) rfl ?_;intro y W6 d _;have g:=ag p d;have x8:=hy _ d;have x11:=O _ d;have S:=J _ d;have R:=F _ d;have s:=(D.ext d).cell;unfold jm at s;clear d J F t hy O ht D hp;have hu:(decide (0<=a.fi)&&decide (x.f=a.fi)&&decide (x.i=a.ba+n-a.fr))=false:=by simp[*]
  replace c:Hid (dh H.ma P.sp n=if 0<=x.f\/a.sh=true\/e.w=true/\a.wr=false then 7 else if x.f<0/\e.w=true/\1<x.r then 7 else 0):=ae (by rw[c.out,hu];simp);clear hu g2
  by_cases f1:0<=x.f
  ·skip;have C:Hid (dh H.ma P.sp n=7):=ae (by rw[c.out];simp[*];try omega);clear c;go_wp2;go_ret;rw[C.out];exact⟨rfl,g⟩
  have Y:x.f<0:=by omega
  cases f2:a.sh with
  | true=>
   rw[f2]at R;have C:Hid (dh H.ma P.sp n=7):=ae (by rw[c.out];simp[*];try omega);clear c;go_wp2;go_ret;rw[C.out];exact⟨rfl,g⟩
  | false=>
   rw[f2]at R;cases f3:e.w with
   | false=>
    rw[f3]at s;have C:Hid (dh H.ma P.sp n=0):=ae (by rw[c.out];simp[*];try omega);clear c;go_wp2;go_ret;rw[C.out];exact⟨rfl,g⟩
   | true=>
    rw[f3]at s;cases f4:a.wr with
    | false=>
     rw[f4]at S;have C:Hid (dh H.ma P.sp n=7):=ae (by rw[c.out];simp[*];try omega);clear c;go_wp2;go_ret;rw[C.out];exact⟨rfl,g⟩
    | true=>
     rw[f4]at S
     by_cases f5:1<x.r
     ·skip;have C:Hid (dh H.ma P.sp n=7):=ae (by rw[c.out];simp[*];try omega);clear c;go_wp2;go_ret;rw[C.out];exact⟨rfl,g⟩
     skip;have C:Hid (dh H.ma P.sp n=0):=ae (by rw[c.out];simp[*];try omega);clear c;go_wp2;go_ret;rw[C.out];exact⟨rfl,g⟩
 skip;refine aO 25 [_,_,_,_,_,_,_,_,_,_,_,_,_,_,_,_,_,_,_,_,_,_,_,_,.v (.bool false)] (Gk rfl (Gk rfl (Gf I (G+k*7+5) rfl rfl (Gc (.int .i64 a.fi) (λW A=>by simp[t _ A]) rfl rfl rfl rfl (Gb (.bool false) (by simp[go_sem,g1]) rfl rfl rfl rfl rfl (Gk rfl (Gk rfl (Gk rfl (Gk rfl (Gk rfl (Gk rfl (Gk rfl (Gk rfl (Gk rfl (Gk rfl (Gk rfl (Gk rfl (Gk rfl (Gk rfl (Gk rfl (Gk rfl (Gk rfl (Gk rfl (Gk rfl (Gk rfl (aF)))))))))))))))))))))))))) (λ_=>rfl) rfl ?_;intro y W6 d _;have g:=ag p d;have x8:=hy _ d;have x11:=O _ d;have S:=J _ d;have R:=F _ d;have s:=(D.ext d).cell;unfold jm at s;clear d J F t hy O ht D hp;have hu:(decide (0<=a.fi)&&decide (x.f=a.fi)&&decide (x.i=a.ba+n-a.fr))=false:=by simp[*]
 replace c:Hid (dh H.ma P.sp n=if 0<=x.f\/a.sh=true\/e.w=true/\a.wr=false then 7 else if x.f<0/\e.w=true/\1<x.r then 7 else 0):=ae (by rw[c.out,hu];simp);clear hu g1
 by_cases f1:0<=x.f
 ·skip;have C:Hid (dh H.ma P.sp n=7):=ae (by rw[c.out];simp[*];try omega);clear c;go_wp2;go_ret;rw[C.out];exact⟨rfl,g⟩
 have Y:x.f<0:=by omega
 cases f2:a.sh with
 | true=>
  rw[f2]at R;have C:Hid (dh H.ma P.sp n=7):=ae (by rw[c.out];simp[*];try omega);clear c;go_wp2;go_ret;rw[C.out];exact⟨rfl,g⟩
 | false=>
  rw[f2]at R;cases f3:e.w with
  | false=>
   rw[f3]at s;have C:Hid (dh H.ma P.sp n=0):=ae (by rw[c.out];simp[*];try omega);clear c;go_wp2;go_ret;rw[C.out];exact⟨rfl,g⟩
  | true=>
   rw[f3]at s;cases f4:a.wr with
   | false=>
    rw[f4]at S;have C:Hid (dh H.ma P.sp n=7):=ae (by rw[c.out];simp[*];try omega);clear c;go_wp2;go_ret;rw[C.out];exact⟨rfl,g⟩
   | true=>
    rw[f4]at S
    by_cases f5:1<x.r
    ·skip;have C:Hid (dh H.ma P.sp n=7):=ae (by rw[c.out];simp[*];try omega);clear c;go_wp2;go_ret;rw[C.out];exact⟨rfl,g⟩
    skip;have C:Hid (dh H.ma P.sp n=0):=ae (by rw[c.out];simp[*];try omega);clear c;go_wp2;go_ret;rw[C.out];exact⟨rfl,g⟩
def isK(i:Int)(c:Cc):Bool:=decide (c.k=i)
theorem Nt(c:Cc)(i:Int)(g:Nat)(w:World)(h:aG w g #[.int .i64 i] 3) :
  Calls Tryz.prog 85 #[.agg (vT c),.pointer (some ⟨g,0,none⟩)] w λr w'=>r = .returned (.bool (isK i c))/\Below w.heap.size w w':=by
 go_enter func85,ntmps85;go_upto_region 1 with(fail);refine iC (λW=>Code.wp _ _ _ _ W) λW0 a b d => ?_;clear d;have e:=(h.ext a).cell 0;have f:=b.cell;have u:(vT c)[2]?=some (.int .i64 c.k):=rfl;go_wp2;go_ret;exact⟨bY (by unfold isK;rfl),a⟩
theorem RD(l:List Cc)(a:Option Addr)(c:Nat)(w:World)(A:eu w a (l.flatMap iL))(E:l.length<=9223372036854775807)(g:Nat)(u:Int)(D:aG w g #[.int .i64 u] 3) :
  Calls Tryz.prog 131 #[.slice a l.length c,.func (.func 85) #[] #[.pointer (some ⟨g,0,none⟩)]] w λe w'=>e = .returned (.int .i64 (idx (isK u) l))/\Below w.heap.size w w':=by
 go_enter func131,ntmps131;go_wp2
 go_loopw [8] (fun i wr => ∃k:Nat,k<=l.length/\i = .int .i64 k/\Below w.heap.size w wr/\∀i (h:i<l.length),i<k->(isK u) l[i]=false) (fun i _=>l.length-(intOf i).toNat)
 case atStart=>exact⟨0,bq _,rfl,Below.refl _ _,λi _ h=>absurd h (fA _)⟩
 case round=>
  obtain⟨k,F,rfl,j,n⟩:=hrel;have C:=ae n;clear n
  by_cases y:k<l.length
  ·obtain⟨b,z,rfl,p⟩:=Ag (A.below j) k y
   go_wp2_with (refine ay b (z+k*3) _ p _ underlying122 rfl cached_size ?_)
   refine(Nt l[k] u g _ (D.ext j)).mono ?_;rintro e w2 ⟨rfl,o⟩;have f:=ag j o;clear o;cases hpk:(isK u) l[k]
   ·have m:=ae hpk;clear hpk;go_wp2;go_roundw
    case rel=>exact⟨k+1,by omega,by go_num,f,mJ C.out y m.out⟩
    case measure=>simp[intOf];omega
   have d:=ae (uR (isK u) l k y C.out hpk);clear hpk;go_wp2;go_ret;exact⟨aY d.out.symm,f⟩
  have d:=ae (mo (isK u) l λi h=>C.out i h (by omega));go_wp2;go_ret;exact⟨aY d.out.symm,j⟩
theorem RX(l:List Cc)(a:Option Addr)(c:Nat)(w:World)(h:eu w a (l.flatMap iL))(u:l.length<=9223372036854775807)(g:Nat)(d:Int)(y:aG w g #[.int .i64 d] 3) :
  Calls Tryz.prog 84 #[.slice a l.length c,.func (.func 85) #[] #[.pointer (some ⟨g,0,none⟩)]] w λe w'=>e = .returned (.bool (l.any (isK d)))/\Below w.heap.size w w':=by
 go_enter func84,ntmps84
 go_wp2_with fail
 refine(RD l a c _ h u g d y).mono ?_;rintro e w2 ⟨rfl,b⟩;go_wp2;go_ret;exact⟨bY (pM _ _),b⟩
theorem KH(l m:List Int)(a a' : Option Addr)(c c' : Nat)(w:World)(A:eu w a (l.map gF))(hrd' : eu w a' (m.map gF))(G:l.length<=9223372036854775807)(hl' : m.length<=9223372036854775807) :
  Calls Tryz.prog 86 #[.slice a l.length c,.slice a' m.length c'] w λe w'=>e = .returned (.bool (l==m))/\Below w.heap.size w w':=by
 go_enter func86,ntmps86
 by_cases y:l.length=m.length
 ·have f:((l.length:Int) != (m.length:Int))=false:=by simp[y]
  go_wp2
  go_loopw [13] (fun i wr => ∃k:Nat,k<=l.length/\i = .int .i64 k/\Below w.heap.size w wr/\∀i (h:i<l.length),i<k->l[i]=m[i]'(by omega)) (fun i _=>l.length-(intOf i).toNat)
  case atStart=>exact⟨0,bq _,rfl,Below.refl _ _,λi _ h=>absurd h (fA _)⟩
  case round=>
   obtain⟨k,I,rfl,d,D⟩:=hrel
   by_cases u:k<l.length
   ·obtain⟨b,E,rfl,J⟩:=kC (A.below d) k u;obtain⟨K,C,rfl,g⟩:=kC (hrd'.below d) k (by omega);have k1:(k:Int)<(m.length:Int):=by omega
    go_wp2_with fail
    go_quiet (fail)
    by_cases z:l[k]=m[k]'(by omega)
    ·have F:(l[k] != m[k]'(by omega))=false:=by simp[z]
     go_wp2;go_roundw
     case rel=>exact⟨k+1,by omega,by go_num,below_drewN d _,upto D u z⟩
     case measure=>simp[intOf];omega
    have F:(l[k] != m[k]'(by omega))=true:=by simp[z]
    go_wp2;go_ret;exact⟨bY (PV k u (by omega) z).symm,below_drewN d _⟩
   go_wp2
   all_goals
    go_ret;exact⟨bY (QV y λi h=>D i h (by omega)).symm,d⟩
 have f:((l.length:Int) != (m.length:Int))=true:=by simp;omega
 go_wp2;go_ret;refine⟨bY ?_,Below.refl _ _⟩;symm;rw[beq_eq_false_iff_ne];rintro rfl;exact y rfl
theorem nO(n:Nat)(l:List Int):(lw n l).length=n:=by simp[lw]
theorem oK(n:Nat)(l:List Int)(i:Nat)(d:i<n):(lw n l)[i]?=some (cnt l i:Int):=by simp[lw,d]
theorem Lf(l:List Int)(k i:Int):cnt (l++[k]) i=cnt l i+(if k=i then 1 else 0):=by
 rw[Ae];congr 1;unfold cnt;rw[uU,List.countP_nil]
 by_cases h:k=i
 ·simp[h]
 ·simp[h]
theorem FM(n:Nat)(l:List Int)(k:Nat)(d:k<n):(lw n l).set k ((cnt l k:Int)+1)=lw n (l++[(k:Int)]):=by
 apply oG;intro i;rw[nE,nO]
 by_cases e:k=i
 ·subst e;rw[if_pos rfl,if_pos d,oK _ _ _ d,Lf,if_pos rfl];simp
 rw[if_neg e]
 by_cases h:i<n
 ·rw[oK _ _ _ h,oK _ _ _ h,Lf,if_neg (by omega)];rfl
 ·rw[fH (by rw[nO];omega),fH (by rw[nO];omega)]
theorem Ls(n:Nat):lw n []=List.replicate n 0:=by
 unfold lw cnt;apply oG;intro i;rw[jd,qw]
 by_cases d:i<n
 ·rw[uu d,if_pos d];rfl
 ·rw[if_neg d,fH (by simp;omega)];rfl
theorem Jn(l:List Int)(i:Int):cnt l i<=l.length:=xY
def IB(w:World)(g:Nat)(l:List Int):Prop:=aG w g (l.map gF).toArray 3
theorem Ic(n:Nat):madeCells #[.int .i64 0] n=((List.replicate n (0:Int)).map gF).toArray:=by
 apply Array.ext
 ·simp[size_madeCells]
 intro i d h2;simp[madeCells,gF,Nat.mod_one]
theorem IB.cell(h:IB w g l){v:Int}(d:l[k]?=some v):w.cell? ⟨g,k,none⟩=some (.int .i64 v):=by
 have:=aG.cell h k;rw[this];simp[d,gF]
theorem IB.set{v:Int}(d:k<l.length):bH (l.map gF).toArray k [.int .i64 v]=((l.set k v).map gF).toArray:=by
 show((l.map gF).toArray).setIfInBounds k (.int .i64 v)=_;rw[AB];simp[gF]
theorem zq{r:List Int}(h:∀x∈l,x=0):firstE (l++r)=firstE r:=by
 induction l with
 | nil=>rfl
 | cons a l ih=>
  have u:=h a iN;rw[Jb];rw[firstE,u];simp only[if_true,ne_eq,not_true_eq_false,if_false];exact ih λx d=>h x (jY _ d)
theorem QN{x:Int}{r:List Int}(h:x≠0):firstE (x::r)=x:=by
 rw[firstE];simp[h]
theorem NG{s:Sp}(z:m.sp[p]?=some s)(A:(aV s.tb)[j]?=some n)(C:∀t∈m.sp.take p,∀i∈aV t.tb,dh m t i=0)(h2:∀i∈(aV s.tb).take j,dh m s i=0)(h:dh m s n≠0):nN m=dh m s n:=by
 unfold nN;have E:m.sp=m.sp.take p++s::m.sp.drop (p+1):=by rw[<-drop_at z,rJ]
 have D:aV s.tb=(aV s.tb).take j++n::(aV s.tb).drop (j+1):=by rw[<-drop_at A,rJ]
 rw[E,fM,zq (λx d => ?_),nV,D,jM,jR,zq (λx d => ?_),bS,Jb,QN h]
 ·obtain⟨i,u,rfl⟩:=iA.1 d;exact h2 i u
 obtain⟨t,y,d⟩:=lg.1 d;obtain⟨i,u,rfl⟩:=iA.1 d;exact C t y i u
theorem KI(h:∀t∈m.sp,∀i∈aV t.tb,dh m t i=0):nN m=0:=by
 unfold nN;rw[<-oL (m.sp.flatMap _),zq (λx d => ?_)]
 ·rfl
 obtain⟨t,u,d⟩:=lg.1 d;obtain⟨i,y,rfl⟩:=iA.1 d;exact h t u i y
theorem Un{s:Sp}(h:dh m s n=0):((dM s.tb n).k=2->(dM s.tb n).n<m.sl.length)/\((dM s.tb n).k≠2->(dM s.tb n).n<m.m.fs.length):=by
 unfold dh at h;split at h
 ·cases h
 simp only at h;split at h
 ·rename_i h2;split at h
  ·cases h
  rename_i u;exact⟨λ_=>by omega,λd=>absurd h2 d⟩
 rename_i h2;split at h
 ·cases h
 ·exact⟨λd=>absurd d h2,λ_=>by omega⟩
def mX(m:Ma)(p:Nat)(l:List Int):List Int:=m.ca.map Cc.k++(m.sp.take p).flatMap (λs=>pz s.tb (aV s.tb))++l
def kU(m:Ma)(p:Nat)(l:List Int):List Int:=(m.sp.take p).flatMap (λs=>swapT s.tb (aV s.tb))++l
theorem Qz(t:Tb)(l:List Int)(n:Int):pz t (l++[n])=pz t l++(if(dM t n).k=1 then[(dM t n).n]else[]):=by
 unfold pz;rw[rO,jM];congr 1
 by_cases h:(dM t n).k=1
 ·simp[h]
 ·simp[h]
theorem PY(t:Tb)(l:List Int)(n:Int):swapT t (l++[n])=swapT t l++(if(dM t n).k=1 then[]else[(dM t n).n]):=by
 unfold swapT;rw[rO,jM];congr 1
 by_cases h:(dM t n).k=1
 ·simp[h]
 ·simp[h]
theorem MK{s:Sp}(d:m.sp[p]?=some s):mX m p (pz s.tb (aV s.tb))=mX m (p+1) []:=by
 unfold mX;rw[take_at d,fM,oL,jR];simp
theorem KO{s:Sp}(d:m.sp[p]?=some s):kU m p (swapT s.tb (aV s.tb))=kU m (p+1) []:=by
 unfold kU;rw[take_at d,fM,oL];simp
theorem PU(m:Ma):mX m m.sp.length []=tN m:=by unfold mX tN;rw[yu,oL]
theorem NL(m:Ma):kU m m.sp.length []=qL m:=by unfold kU qL;rw[yu,oL]
theorem Mv(m:Ma)(p:Nat)(l:List Int)(k:Int):mX m p (l++[k])=mX m p l++[k]:=by unfold mX;rw[jR,jR,jR]
theorem LM(m:Ma)(p:Nat)(l:List Int)(k:Int):kU m p (l++[k])=kU m p l++[k]:=by unfold kU;rw[jR]
theorem Ch(t:Tb)(l:List Int):(pz t l).length<=l.length:=by unfold pz;rw[eQ];exact AC _ _
theorem Gy(t:Tb)(l:List Int):(swapT t l).length<=l.length:=by unfold swapT;rw[eQ];exact AC _ _
theorem flat_len{α:Type}(g:α->List Int)(c:Nat)(h:∀x,(g x).length<=c):∀l:List α,(l.flatMap g).length<=c*l.length
 | []=>by simp
 | x::l=>by have d:=flat_len g c h l;have h2:=h x;rw[nV,jq,qz,Nat.mul_succ];omega
theorem wy(t:Tb):(aV t).length<=64:=tO t 64
theorem Ro(m:Ma)(p:Nat)(l:List Int):(mX m p l).length<=m.ca.length+64*m.sp.length+l.length:=by
 unfold mX;have d:=flat_len (λs:Sp=>pz s.tb (aV s.tb)) 64 (λs=>bi (Ch _ _) (wy _)) (m.sp.take p);have h2:(m.sp.take p).length<=m.sp.length:=by rw[iQ];omega
 simp only[jq,eQ];omega
theorem Rn(h:uW m)(p:Nat)(l:List Int)(K:Int):cnt (mX m p l) K<=1+64*m.sp.length+l.length:=by
 unfold mX;rw[Ae,Ae];have A:=flat_len (λs:Sp=>pz s.tb (aV s.tb)) 64 (λs=>bi (Ch _ _) (wy _)) (m.sp.take p);have h2:(m.sp.take p).length<=m.sp.length:=by rw[iQ];omega
 have z:cnt (m.ca.map Cc.k) K=uf m K:=by unfold cnt uf;rw[yh];rfl
 have y:=Uf h K;have u:=Jn ((m.sp.take p).flatMap λs=>pz s.tb (aV s.tb)) K;have d:=Jn l K;omega
theorem Mo(m:Ma)(p:Nat)(l:List Int):(kU m p l).length<=64*m.sp.length+l.length:=by
 unfold kU;have d:=flat_len (λs:Sp=>swapT s.tb (aV s.tb)) 64 (λs=>bi (Gy _ _) (wy _)) (m.sp.take p);have h2:(m.sp.take p).length<=m.sp.length:=by rw[iQ];omega
 simp only[jq];omega
theorem OV(w:World)(d u:Array Value)(h y:TypeId):Below w.heap.size w ((w.alloc (.cells d h)).alloc (.cells u y)).drew/\aG ((w.alloc (.cells d h)).alloc (.cells u y)).drew w.heap.size d h/\aG ((w.alloc (.cells d h)).alloc (.cells u y)).drew (w.heap.size+1) u y:=by
 have e:(w.alloc (.cells d h)).heap.size=w.heap.size+1:=Dh _;have z:Below w.heap.size w ((w.alloc (.cells d h)).alloc (.cells u y)):=((Below.refl _ _).alloc (az _) _).alloc (by omega) _;have h2:aG ((w.alloc (.cells d h)).alloc (.cells u y)) w.heap.size d h:=(aG.new w d h).ext ((Below.refl _ _).alloc (az _) _);have A:aG ((w.alloc (.cells d h)).alloc (.cells u y)) (w.heap.size+1) u y:=by rw[<-e];exact aG.new _ _ _
 exact⟨⟨z.os,z.tape,z.output,z.size,z.block⟩,h2,A⟩
theorem int_one:(Tryz.prog.info? 3).map (·.size)=some 1:=by kernel_rfl
theorem int_inf:(Tryz.prog.info? 3).map (λi=>(i.zero,i.size,i.bytes))=some (some (.int .i64 0),1,8):=by kernel_rfl
theorem FC{y:Operand}{n:Nat}{k:IntKind}(A:o.op = .indexAddr t x y)(h:ρ x = .slice (some ⟨b,0,none⟩) n c)(d:ρ y = .int k (i:Int))(C:i<n)
 (u:P.underlying t=some (.slice e)) (z:(P.info? e).map (·.size)=some 1):(execOp ρ o).run P w = .ok (.value (.pointer (some ⟨b,i,none⟩))) w:=by
 have:=bN (w:=w) A h d C u z;rw[this];simp
def Gd(m:Ma)(i:Nat):Bool:=decide ((jw m i).r=cnt (tN m) i)&&(decide ((jw m i).f<0)||m.ca.any λc=>decide (c.k=i))
theorem LB(m:Ma):countB m=((List.range m.m.fs.length).all (Gd m)&&decide (m.sl=lw m.sl.length (qL m))):=rfl
theorem KP(h:countB m=true)(k:Nat)(d:k<m.m.fs.length):Gd m k=true:=by
 rw[LB,ed,fD]at h;exact h.1 k (eO.2 d)
theorem zl(H:MH)(w:World)(h:wI w H) :
  Calls Tryz.prog 40 #[.agg (dF H)] w λr w'=>r = .returned (.int .i64 (jU H.ma))/\Below w.heap.size w w':=by
 have gS:H.m.fs.length*8<=281474976710656/\H.sl.length*8<=281474976710656\/¬iU H.ma=0:=by
  by_cases e:iU H.ma=0
  ·have hp:=(xw.1 e).1;have h1:=((dO _).1 hp.fr).1;have h2:=kJ hp.sl;have qi : H.m.fs.length<=40:=h1;have qh : H.sl.length<=60:=h2;exact .inl ⟨by omega,by omega⟩
  ·exact .inr e
 go_enter func40,ntmps40;go_upto_region 1 with(fail);refine iC (λW=>Code.wp _ _ _ _ W) λw1 kh bx1 gM => ?_;have h1:=h.below kh;have I:aG w1 w.heap.size (dF H) 45:=bx1;clear bx1 gM
 go_wp2_with fail
 refine(Rj H w.heap.size _ I h1).mono ?_;rintro r w2 ⟨rfl,kW⟩;have h5:=ag kh kW;have bx2:=I.ext kW;clear I h1 kh kW
 by_cases e1:iU H.ma=0
 rotate_left
 ·have Z:Hid (jU H.ma=iU H.ma):=ae (by unfold jU;rw[if_pos e1]);generalize iU H.ma=E at *
  go_wp2;go_ret;rw[Z.out];exact⟨rfl,h5⟩
 rw[e1]
 go_wp2_with fail
 refine(Od H w.heap.size _ bx2 (h.below h5)).mono ?_;rintro r w3 ⟨rfl,kV⟩;have hR:=ag h5 kV;have Y:=bx2.ext kV;clear bx2 h5 kV
 by_cases e2:cachedE H.ma=0
 rotate_left
 ·have Z:Hid (jU H.ma=cachedE H.ma):=ae (by unfold jU;rw[if_neg (by rw[e1];simp),if_pos e2]);generalize cachedE H.ma=E at *
  go_wp2;go_ret;rw[Z.out];exact⟨rfl,hR⟩
 rw[e2];have kj:=(xw.1 e1).1;have n1:H.m.fs.length<=40:=((dO _).1 kj.fr).1;have n2:H.sl.length<=60:=kJ kj.sl;have n3:H.sp.length<=4:=by have:=kj.spl;rw[rX]at this;exact this
 have kA:=ae kj;have kx:=ae (Bt.1 e2);have kG:Hid (jU H.ma=if nN H.ma≠0 then nN H.ma else if countB H.ma=true then 0 else 7):=ae (by unfold jU;rw[if_neg (by rw[e1];simp),if_neg (by rw[e2];simp)]);clear e1 e2 kj gS;go_upto_region 7 with(fail);have l:=Y.cell;unfold dF at l;have kw:=λob=>(Y.ext ((Below.refl _ _).alloc (az _) ob)).cell;unfold dF at kw;have gc:=run_make_row' (P:=Tryz.prog) 33 3 (.int .i64 0) 8 underlying33 int_inf rfl .i64 .i64 H.m.fs.length (by omega) (by omega);have gb:=run_make_row' (P:=Tryz.prog) 33 3 (.int .i64 0) 8 underlying33 int_inf rfl .i64 .i64 H.sl.length (by omega) (by omega)
 go_cut [5,6] (fun s5 s6 wx => ∃F D,s5 = .slice (some ⟨F,0,none⟩) H.m.fs.length H.m.fs.length/\s6 = .slice (some ⟨D,0,none⟩) H.sl.length H.sl.length/\F≠D/\w3.heap.size<=F/\w3.heap.size<=D/\Below w3.heap.size w3 wx/\aG wx F (madeCells #[.int .i64 0] H.m.fs.length) 3/\aG wx D (madeCells #[.int .i64 0] H.sl.length) 3)
 case first=>
  go_region
  all_goals (go_wp2_with fail;go_meet)
  ·obtain⟨z1,z2,z3⟩:=OV w3 (madeCells #[.int .i64 0] H.m.fs.length) (madeCells #[.int .i64 0] H.sl.length) 3 3;exact⟨_,_,rfl,rfl,by omega,by omega,by omega,z1,z2,z3⟩
  obtain⟨z1,z2,z3⟩:=OV w3 (madeCells #[.int .i64 0] H.sl.length) (madeCells #[.int .i64 0] H.m.fs.length) 3 3;exact⟨_,_,rfl,rfl,by omega,by omega,by omega,z1,z3,z2⟩
 case rest=>
  obtain⟨F,D,rfl,rfl,kM,gm,gj,kT,d,b⟩:=hcut;have ky:=ag hR kT;have bx4:=Y.ext kT;have k1:w.heap.size<=F:=bi hR.size gm;have gJ:w.heap.size<=D:=bi hR.size gj;have gt:w.heap.size≠F:=by have:=Y.lt;omega
  have gX:w.heap.size≠D:=by have:=Y.lt;omega
  have kE:IB wc F (lw H.m.fs.length ((H.ca.take 0).map Cc.k)):=by rw[List.take_zero,aZ,Ls];unfold IB;rw[<-Ic];exact d
  have kB:IB wc D (lw H.sl.length []):=by rw[Ls];unfold IB;rw[<-Ic];exact b
  clear l kw gc gb d b kT Y hR gm gj;have l:=bx4.cell;unfold dF at l;go_upto_region 9 with(fail);clear l;have qg:=h.ca.le;have gW:=h.ca.mx;unfold maxLen at gW
  go_loopw [37] (fun i wr => ∃(k:Nat),k<=H.ca.length/\i = .int .i64 k/\Below w.heap.size w wr/\aG wr w.heap.size (dF H) 45/\IB wr F (lw H.m.fs.length ((H.ca.take k).map Cc.k))/\IB wr D (lw H.sl.length [])) (fun i _=>H.ca.length-(intOf i).toNat)
  case atStart=>exact⟨0,bq _,rfl,ky,bx4,kE,kB⟩
  case round=>
   clear ky bx4 kE kB;obtain⟨k,hk,rfl,o,I,d,b⟩:=hrel
   by_cases A:k<H.ca.length
   ·obtain⟨bc,oc,g0,R⟩:=jO jb (h.below o).ca.rd k A;have kO:(k:Int)<(H.ca.length:Int):=by omega
    have g8:0<=H.ca[k].k/\H.ca[k].k<H.m.fs.length:=kx.out.lt _ (fe A);have h7:Hid ((H.ca.take (k+1)).map Cc.k=(H.ca.take k).map Cc.k++[H.ca[k].k]):=ae (by rw[take_at (aI A),jM];rfl);have kN:((H.ca.take k).map Cc.k).length<=k:=by rw[eQ,iQ];omega
    generalize H.ca[k]=c at *
    obtain⟨K,gr⟩:∃K:Nat,c.k=K:=⟨c.k.toNat,by omega⟩;have hy:K<H.m.fs.length:=by omega
    rw[gr]at h7;rw[g0];generalize (H.ca.take k).map Cc.k=L at *
    go_wp2_with (first | (refine ay bc (oc+k*3) _ R _ underlying122 rfl cached_size ?_) | (refine aJ rfl rfl (vT c) rfl rfl rfl cached_size (wO c) ?_))
    intro w5 s cx;have hI:=ag o s;have bx5:=I.ext s;have hM:IB w5 F (lw H.m.fs.length L):=d.ext s;have hW:IB w5 D (lw H.sl.length []):=b.ext s;clear o I d b R s;have kR:=cx.cell;unfold vT at kR;rw[gr]at kR;have hZ:=hM.cell (oK H.m.fs.length L K hy);have kv:=Jn L K;have ka:IntKind.i64.wrap ((cnt L K:Int)+1)=(cnt L K:Int)+1:=bK _ (by omega);have gw:(K:Int)<(H.m.fs.length:Int):=by omega
    go_wp2_with (refine aC F K [.int .i64 ((cnt L K:Int)+1)] rfl rfl rfl _ _ hM (by simp[nO];omega) int_one (λu hu=>by cases bC.1 hu;rfl) ?_)
    intro w6 U hl;rw[IB.set (by rw[nO];exact hy),FM _ _ _ hy,<-h7.out] at U;have q:=hI.grown hl hI.size (λk hk=>by cases hk;exact k1);have G:=bx5.grown hl (λe=>gt (aM e).symm);have hc:IB w6 D (lw H.sl.length []):=aG.grown hW hl (λe=>kM (aM e));clear hI bx5 hW hM kR hZ cx hl ka;go_wp2;go_roundw
    case rel=>exact⟨k+1,by omega,by go_num,q,G,U,hc⟩
    case measure=>simp[intOf];omega
   have kO:¬(k:Int)<(H.ca.length:Int):=by omega
   rw[jD (by omega)]at d;have kF:IB wr F (lw H.m.fs.length (mX H.ma 0 [])):=by
    have e:mX H.ma 0 []=H.ca.map Cc.k:=by show H.ca.map Cc.k++[]++[]=_;rw[oL,oL]
    rw[e];exact d
   have kD:IB wr D (lw H.sl.length (kU H.ma 0 [])):=b;clear d b;have l:=I.cell;unfold dF at l;go_upto_region 14 with(fail);clear l
   go_loopw [52] (fun i wr => ∃(p:Nat),p<=H.sp.length/\i = .int .i64 p/\Below w.heap.size w wr/\aG wr w.heap.size (dF H) 45/\IB wr F (lw H.m.fs.length (mX H.ma p []))/\IB wr D (lw H.sl.length (kU H.ma p []))/\Hid (∀t∈H.ma.sp.take p,∀i∈aV t.tb,dh H.ma t i=0)) (fun i _=>H.sp.length-(intOf i).toNat)
   case atStart=>exact⟨0,bq _,rfl,o,I,kF,kD,ae λt ht=>by simp at ht⟩
   case round=>
    clear o I kF kD;obtain⟨p,hp,rfl,o,I,d,b,hz⟩:=hrel
    by_cases hpl:p<H.sp.length
    ·obtain⟨bs,os,P,kX,hP,R⟩:=qN (h.below o).sp.rd p hpl;have ha:=qF (h.below o) hP;have gQ:(p:Int)<(H.sp.length:Int):=by omega
     have kk:H.ma.sp[p]?=some P.sp:=by show(H.sp.map PS.sp)[p]?=_;rw[jd,hP];rfl
     have gu:(bQ P.ar).1=0:=kA.out.ar P.sp (bP kk);have kn:dA P.tb=0:=kA.out.tb P.sp (bP kk);have hG:=ae kk;have gv:=ae hP;have l:=I.cell;unfold dF at l;rw[kX]at l;clear kk hP
     go_wp2_with (refine ay bs (os+p*10+2) _ (nJ R 2 8) _ underlying74 tab_agg tab_size ?_)
     refine(zA P.tb (nT P.ts) _ ha.tb).mono ?_;rintro r w5 ⟨v5,rfl,kK,s⟩;obtain⟨a5,c5,rfl,g5,g4,_,gO⟩:=kK.rd;have gd:F<wr.heap.size/\D<wr.heap.size:=⟨aG.lt d,aG.lt b⟩;have hI:=ag o s;have bx5:=I.ext s;have hM:IB w5 F (lw H.m.fs.length (mX H.ma p (pz P.tb ((aV P.tb).take 0)))):=d.ext s;have hW:IB w5 D (lw H.sl.length (kU H.ma p (swapT P.tb ((aV P.tb).take 0)))):=b.ext s;have kr:=R.below s;have h9:=ha.below s;have k0:=ae gd;clear l o I d b R ha s gO;have k4:=ae (UD P.tb);have gP:=wy P.tb;go_upto_region 18 with(fail)
     go_loopw [65] (fun i wr' => ∃(j:Nat),j<=(aV P.tb).length/\i = .int .i64 j/\Below w.heap.size w wr'/\aG wr' w.heap.size (dF H) 45/\IB wr' F (lw H.m.fs.length (mX H.ma p (pz P.tb ((aV P.tb).take j))))/\IB wr' D (lw H.sl.length (kU H.ma p (swapT P.tb ((aV P.tb).take j))))/\Own wr' wr.heap.size 3 1 (.slice a5 (aV P.tb).length c5) (aV P.tb).length ((aV P.tb).map gF)/\eu wr' (some ⟨bs,os+p*10,none⟩) (ug P)/\P.good wr'/\Hid (∀i∈(aV P.tb).take j,dh H.ma P.sp i=0)) (fun i _=>(aV P.tb).length-(intOf i).toNat)
     case atStart=>exact⟨0,bq _,rfl,hI,bx5,hM,hW,kK,kr,h9,ae λi J=>by simp at J⟩
     case round=>
      clear hI bx5 hM hW kK kr h9;obtain⟨j,hj,rfl,o,I,d,b,ho,R,ha,h6⟩:=hrel;obtain⟨gk,g9⟩:=k0.out
      by_cases hjl:j<(aV P.tb).length
      ·have gT:(j:Int)<((aV P.tb).length:Int):=by omega
       obtain⟨_,_,e9,_,_,_,k3⟩:=ho.rd;cases e9;have kL:(aV P.tb)[j]?=some (aV P.tb)[j]:=aI hjl;have gR:=k4.out _ (fe hjl);have k9:(dM P.tb (aV P.tb)[j]).k≠0:=(qd.1 (fe hjl)).2;obtain⟨bp,op,k5,gU⟩:=kC k3 j hjl;generalize hN:(aV P.tb)[j]=n at *
       have h7:Hid ((aV P.tb).take (j+1)=(aV P.tb).take j++[n]):=ae (take_at kL);have ga:=ae kL;have ks:=ae k5;have ku:=(bG _).1 (qH kn n);rw[k5];clear kL hN k3
       go_wp2_with fail
       refine(Nz H P n w.heap.size bs (os+p*10) _ I (h.below o) R ha gu kn gR).mono ?_;rintro r w6 ⟨rfl,U⟩;have q:=ag o U;have G:=I.ext U;have z:=aG.ext d U;have hc:=aG.ext b U;have k8:=ho.below U;have kc:=R.below U;have hl:=ha.below U;clear o I d b ho R ha U gU
       by_cases hE:dh H.ma P.sp n=0
       rotate_left
       ·have Z:Hid (jU H.ma=dh H.ma P.sp n):=ae (by have:=NG hG.out ga.out hz.out h6.out hE;rw[kG.out,this,if_pos hE]);generalize dh H.ma P.sp n=E at *
        go_wp2;go_ret;rw[Z.out];exact⟨rfl,q⟩
       have gf:=Un hE;have hO:Hid (∀i∈(aV P.tb).take (j+1),dh H.ma P.sp i=0):=ae λi J=>by
        rw[h7.out]at J;rcases gV.1 J with J|J
        ·exact h6.out i J
        ·rw[bC.1 J];exact hE
       rw[hE];clear h6 hE
       go_wp2_with (refine ay bs (os+p*10+2) _ (nJ kc 2 8) _ underlying74 tab_agg tab_size ?_)
       refine(Ah P.tb (nT P.ts) n _ hl.tb).mono ?_;rintro r w7 ⟨rfl,hU⟩;have h4:((dM P.tb n).k=2->(dM P.tb n).n<H.sl.length)/\((dM P.tb n).k≠2->(dM P.tb n).n<H.m.fs.length):=gf;have k6:pz P.tb ((aV P.tb).take (j+1))=pz P.tb ((aV P.tb).take j)++(if(dM P.tb n).k=1 then[(dM P.tb n).n]else[]):=by rw[h7.out,Qz]
       have k2:swapT P.tb ((aV P.tb).take (j+1))=swapT P.tb ((aV P.tb).take j)++(if(dM P.tb n).k=1 then[]else[(dM P.tb n).n]):=by rw[h7.out,PY]
       have qf:=Ro H.ma p (pz P.tb ((aV P.tb).take j));have g7:=Ch P.tb ((aV P.tb).take j);have qe:=Mo H.ma p (swapT P.tb ((aV P.tb).take j));have g6:=Gy P.tb ((aV P.tb).take j);have qc:((aV P.tb).take j).length<=64:=by rw[iQ];omega
       have qb:H.ma.ca.length=H.ca.length:=rfl;have qa:H.ma.sp.length=H.sp.length:=rX H;generalize dM P.tb n=e at *
       generalize pz P.tb ((aV P.tb).take j)=L1 at *
       generalize swapT P.tb ((aV P.tb).take j)=L2 at *
       have kt:=ae k6;have ko:=ae k2;clear gf k6 k2;have hg:=ag q hU;have S:=G.ext hU;have hD:=aG.ext z hU;have hB:=aG.ext hc hU;have k7:=k8.below hU;have kq:=kc.below hU;have gp:=hl.below hU;clear q G z hc k8 kc hl hU
       go_wp2_with (refine aJ rfl rfl (jm e) rfl rfl rfl entry_size (by simp[jm,Value.oneCell']) ?_)
       intro w8 hT ex;have hH:=ag hg hT;have bx8:=S.ext hT;have hL:IB w8 F _:=aG.ext hD hT;have hJ:IB w8 D _:=aG.ext hB hT;have h8:=k7.below hT;have kp:=kq.below hT;have gn:=gp.below hT;clear hg S hD hB k7 kq gp hT;have hZ:=ex.cell;unfold jm at hZ
       by_cases O:e.k=1
       ·obtain⟨K,hK⟩:∃K:Nat,e.n=K:=⟨e.n.toNat,by omega⟩;have hy:K<H.m.fs.length:=by have:=h4.2 (by omega);omega
        have hr:=kt.out;have hm:=ko.out;rw[if_pos O,hK]at hr;rw[if_pos O,oL]at hm;rw[O,hK]at hZ;have kQ:=hL.cell (oK H.m.fs.length (mX H.ma p L1) K hy);have kv:=Rn kx.out p L1 K;have ka:IntKind.i64.wrap ((cnt (mX H.ma p L1) K:Int)+1)=(cnt (mX H.ma p L1) K:Int)+1:=bK _ (by omega);have gw:(K:Int)<(H.m.fs.length:Int):=by omega
        have kd:=ae hr;have kb:=ae hm;clear hr hm h4 O k9 ku hK
        go_wp2_with (refine aC F K [.int .i64 ((cnt (mX H.ma p L1) K:Int)+1)] rfl rfl rfl _ _ hL (by simp[nO];omega) int_one (λu hu=>by cases bC.1 hu;rfl) ?_)
        intro w9 kg hs;rw[IB.set (by rw[nO];exact hy),FM _ _ _ hy,<-Mv,<-kd.out]at kg;rw[<-kb.out]at hJ;have hQ:=hH.grown hs hH.size (λk hk=>by cases hk;exact k1);have bx9:=bx8.grown hs (λe=>gt (aM e).symm);have gz:IB w9 D _:=aG.grown hJ hs (λe=>kM (aM e));have hY:wI w9 H:=h.below hQ;obtain⟨bs',os',P',hV,h0,hX⟩:=qN hY.sp.rd p hpl;have kY:P' = P:=by have h2:H.ma.sp[p]?=some P.sp:=hG.out;rw[gv.out]at h0;exact(aM h0).symm
        subst kY;rw[kX] at hV;cases hV;have ke:=hY.ps P' (bP h0);have kI:=h8.grown hs (λg hv e=>by have:=h8.ge g hv;have e2:=aM e;omega);clear hH bx8 hJ hL hZ ex hs ka kQ h8 kp gn hY;go_wp2;go_roundw
        case rel=>exact⟨j+1,by omega,by go_num,hQ,bx9,kg,gz,by rw[<-ks.out];exact kI,hX,ke,hO⟩
        case measure=>simp[intOf];omega
       obtain⟨K,hK⟩:∃K:Nat,e.n=K:=⟨e.n.toNat,by omega⟩;have kP:e.k=2:=by omega
       have hy:K<H.sl.length:=by have:=h4.1 kP;omega
       have hr:=kt.out;have hm:=ko.out;rw[if_neg O,oL]at hr;rw[if_neg O,hK]at hm;rw[kP,hK]at hZ;have kQ:=hJ.cell (oK H.sl.length (kU H.ma p L2) K hy);have kv:=Jn (kU H.ma p L2) K;have ka:IntKind.i64.wrap ((cnt (kU H.ma p L2) K:Int)+1)=(cnt (kU H.ma p L2) K:Int)+1:=bK _ (by omega);have gw:(K:Int)<(H.sl.length:Int):=by omega
       have kd:=ae hr;have kb:=ae hm;clear hr hm h4 O kP k9 ku hK
       go_wp2_with (refine aC D K [.int .i64 ((cnt (kU H.ma p L2) K:Int)+1)] rfl rfl rfl _ _ hJ (by simp[nO];omega) int_one (λu hu=>by cases bC.1 hu;rfl) ?_)
       intro w9 kg hs;rw[IB.set (by rw[nO];exact hy),FM _ _ _ hy,<-LM,<-kb.out]at kg;rw[<-kd.out]at hL;have hQ:=hH.grown hs hH.size (λk hk=>by cases hk;exact gJ);have bx9:=bx8.grown hs (λe=>gX (aM e).symm);have gB:IB w9 F _:=aG.grown hL hs (λe=>kM (aM e).symm);have hY:wI w9 H:=h.below hQ;obtain⟨bs',os',P',hV,h0,hX⟩:=qN hY.sp.rd p hpl;have kY:P' = P:=by have h2:H.ma.sp[p]?=some P.sp:=hG.out;rw[gv.out]at h0;exact(aM h0).symm
       subst kY;rw[kX] at hV;cases hV;have ke:=hY.ps P' (bP h0);have kI:=h8.grown hs (λg hv e=>by have:=h8.ge g hv;have e2:=aM e;omega);clear hH bx8 hJ hL hZ ex hs ka kQ h8 kp gn hY;go_wp2;go_roundw
       case rel=>exact⟨j+1,by omega,by go_num,hQ,bx9,gB,kg,by rw[<-ks.out];exact kI,hX,ke,hO⟩
       case measure=>simp[intOf];omega
      have gT:¬(j:Int)<((aV P.tb).length:Int):=by omega
      rw[jD (by omega)]at d b h6;have gC:IB wr F (lw H.m.fs.length (mX H.ma (p+1) [])):=by rw[<-MK hG.out];exact d
      have gA:IB wr D (lw H.sl.length (kU H.ma (p+1) [])):=by rw[<-KO hG.out];exact b
      have hO:Hid (∀t∈H.ma.sp.take (p+1),∀i∈aV t.tb,dh H.ma t i=0):=ae λt ht i J=>by
       rw[take_at hG.out]at ht;rcases gV.1 ht with ht|ht
       ·exact hz.out t ht i J
       rw[bC.1 ht]at J ⊢;exact h6.out i J
      clear d b ho R ha hz h6;go_wp2;go_roundw
      case rel=>
       refine⟨_,_,_,_,_,_,.int .i64 ((p:Int)+1),⟨p+1,by omega,?_,gC,gA,hO⟩,rfl,rfl,rfl,rfl,rfl,rfl,rfl⟩;go_num
      case measure=>simp[intOf];omega
    have gQ:¬(p:Int)<(H.sp.length:Int):=by omega
    have kl:p=H.ma.sp.length:=by rw[rX];omega
    rw[kl,PU]at d;rw[kl,NL]at b;rw[kl,yu]at hz;have h3:Hid (jU H.ma=if countB H.ma=true then 0 else 7):=ae (by rw[kG.out,if_neg (by rw[KI hz.out];simp)]);clear hz kG kl;have l:=I.cell;unfold dF at l;go_upto_region 30 with(fail);clear l
    go_loopw [104] (fun i wr => ∃(k:Nat),k<=H.m.fs.length/\i = .int .i64 k/\Below w.heap.size w wr/\aG wr w.heap.size (dF H) 45/\IB wr F (lw H.m.fs.length (tN H.ma))/\IB wr D (lw H.sl.length (qL H.ma))/\Hid (∀i,i<k->Gd H.ma i=true)) (fun i _=>H.m.fs.length-(intOf i).toNat)
    case atStart=>exact⟨0,bq _,rfl,o,I,d,b,ae λi J=>absurd J (fA _)⟩
    case round=>
     clear o I d b;obtain⟨k,hk,rfl,o,I,d,b,hO⟩:=hrel
     by_cases A:k<H.m.fs.length
     ·obtain⟨bg,og,gZ,R⟩:=jO eX (h.below o).fr.rd k A;have kO:(k:Int)<(H.m.fs.length:Int):=by omega
      have kZ:H.m.fs[k]=aB H.ma k:=by have:=sQ (m:=H.ma) (f:=k) A;have h2:H.m.fs[k]?=some (aB H.ma k):=this;rw[aI A]at h2;exact aM h2
      rw[kZ]at R;have km:Hid (Gd H.ma k=(decide ((aB H.ma k).r=cnt (tN H.ma) k)&&(decide ((aB H.ma k).f<0)||H.ca.any (isK (k:Int))))):=ae rfl;generalize aB H.ma k=x at *
      rw[gZ];clear kZ;obtain⟨gi,gl⟩:∃g,g=wr.heap.size:=⟨_,rfl⟩;go_upto_region 31 with(fail);have gk:F<wr.heap.size/\D<wr.heap.size:=⟨aG.lt d,aG.lt b⟩;have gY:=I.lt;have kS:Below wr.heap.size wr ((wr.alloc (.cells #[.int .i64 0] 3)).alloc (.cells #[.int .u8 0,.int .u8 0,.int .u8 0,.int .u8 0,.int .u8 0,.int .u8 0,.int .u8 0,.int .u8 0,.int .i64 0,.bool false,.bool false,.int .i64 0,.int .i64 0] 66)):=((Below.refl _ _).alloc (az _) _).alloc (by rw[show(wr.alloc (.cells #[.int .i64 0] 3)).heap.size=wr.heap.size+1 from Dh _];omega) _;have e1:(wr.alloc (.cells #[.int .i64 0] 3)).heap.size=wr.heap.size+1:=Dh _;have gG:aG ((wr.alloc (.cells #[.int .i64 0] 3)).alloc (.cells #[.int .u8 0,.int .u8 0,.int .u8 0,.int .u8 0,.int .u8 0,.int .u8 0,.int .u8 0,.int .u8 0,.int .i64 0,.bool false,.bool false,.int .i64 0,.int .i64 0] 66)) wr.heap.size #[.int .i64 0] 3:=(aG.new wr _ _).ext ((Below.refl _ _).alloc (az _) _);have gE:aG ((wr.alloc (.cells #[.int .i64 0] 3)).alloc (.cells #[.int .u8 0,.int .u8 0,.int .u8 0,.int .u8 0,.int .u8 0,.int .u8 0,.int .u8 0,.int .u8 0,.int .i64 0,.bool false,.bool false,.int .i64 0,.int .i64 0] 66)) (wr.heap.size+1) #[.int .u8 0,.int .u8 0,.int .u8 0,.int .u8 0,.int .u8 0,.int .u8 0,.int .u8 0,.int .u8 0,.int .i64 0,.bool false,.bool false,.int .i64 0,.int .i64 0] 66:=by rw[<-e1];exact aG.new _ _ _
      go_wp2_with (first | (refine ay bg (og+k*13) _ R _ underlying66 rfl frame_size ?_) | (refine aC wr.heap.size 0 [.int .i64 (k:Int)] rfl rfl rfl _ _ gG (by show 0+1<=1;decide) int_one (λu hu=>by cases bC.1 hu;rfl) ?_))
      intro w5 s h9;have kz : aG w5 wr.heap.size #[.int .i64 (k:Int)] 3:=s;have gq:=gE.grown h9 (λe=>by have:=aM e;omega);have kf:=kS.grown h9 kS.size (λk hk=>by cases hk;exact az _)
      go_wp2_with (refine gD rfl _ _ _ rfl (wr.heap.size+1) 0 (tV x) rfl rfl _ _ gq (by show 0+13<=13;decide) frame_size (pq x) ?_)
      intro w6 U hl;have M:aG w6 (wr.heap.size+1) (tV x) 66:=by have e2:=gK (#[.int .u8 0,.int .u8 0,.int .u8 0,.int .u8 0,.int .u8 0,.int .u8 0,.int .u8 0,.int .u8 0,.int .i64 0,.bool false,.bool false,.int .i64 0,.int .i64 0]) (tV x) rfl;rw[<-e2];exact U
      have N:aG w6 wr.heap.size #[.int .i64 (k:Int)] 3:=kz.grown hl (λe=>by have:=aM e;omega);have hS:=kf.grown hl kf.size oG0;have q:=ag o hS;have G:=I.ext hS;have z:IB w6 F _:=aG.ext d hS;have hc:IB w6 D _:=aG.ext b hS;obtain⟨gx,gg⟩:∃g,g=wr.heap.size+1:=⟨_,rfl⟩;rw[<-gg]at M ⊢;rw[<-gl]at N ⊢;clear kS kf hS gG gE s kz gq h9 hl U R o I d b e1 gk gY gg gl;go_upto_region 32 with(fail)
      by_cases c1:x.r=cnt (tN H.ma) k
      ·by_cases c2:0<=x.f
       ·skip;refine aO 19 [_,_,_,_,_,_,_,_,_,_,_,_,_,_,.v (.func (.func 85) #[] #[.pointer (some ⟨gi,0,none⟩)]),.v (.bool (H.ca.any (isK (k:Int)))),_,_,.v (.bool (!(H.ca.any (isK (k:Int)))))] (Gf gx 8 rfl rfl (Gl M rfl rfl rfl rfl rfl (Gk rfl (Gl N (V:=.int .i64 (k:Int)) rfl rfl rfl rfl rfl (Gr (.pointer (some ⟨F,k,none⟩)) (λρ y W X hF=>(FC rfl (aH rfl hF) (aH rfl hF) A underlying33 int_one)) rfl rfl (Gc (.int .i64 (cnt (tN H.ma) k:Int)) (λW X=>by simp[IB.cell (aG.ext z X) (oK H.m.fs.length (tN H.ma) k A)]) rfl rfl rfl rfl (Gb (.bool false) (by simp[go_sem,c1]) rfl rfl rfl rfl rfl (Gk rfl (Gf gx 11 rfl rfl (Gl M rfl rfl rfl rfl rfl (Gb (.bool true) (by simp[go_sem,c2]) rfl rfl rfl rfl rfl (Gk rfl (Gf w.heap.size 9 rfl rfl (Gl G rfl rfl rfl rfl rfl (ah ?_ (ah ?_ (Gr (.bool (!(H.ca.any (isK (k:Int))))) (λρ y W X hF=>Ee rfl (aH rfl hF)) rfl rfl (Gk rfl (Gk rfl (aF)))))))))))))))))))) (λ_=>rfl) rfl ?_
        ·intro ρ y W hw hn X hd;have g3:ρ (.tmp 15) = .pointer (some ⟨gi,0,none⟩):=(hn (.tmp 15) rfl).trans rfl;refine ak (.func (.func 85) #[] #[.pointer (some ⟨gi,0,none⟩)]) (h:=(bB 11 120 true true ((hw 120 11 rfl).trans (hd 11 rfl)))) (by simp[execOp,go_sem,g3])
        ·intro ρ y W hw hn X hd;have gI:=hw 122 13 rfl;have g2:y 13=_:=hd 13 rfl;have gH:=hw 123 14 rfl;have g1:y 14=_:=hd 14 rfl;have EF:=eF0 hn λ_=>trivial;refine aP (m:=(bB 11 120 true true ((hw 120 11 rfl).trans (hd 11 rfl)))) (aS rfl (EF _) func84 (by simp only[bU,bS,aZ,gI,g2,gH,g1,EF];rfl)) ?_;refine(RX H.ca _ _ W ((h.below q).below X).ca.rd (by omega) gi k (N.ext X)).mono ?_;rintro r w1 ⟨rfl,kh⟩;exact⟨_,rfl,kh,rfl⟩
        intro y W7 a _;have hg:=ag q a;have S:=G.ext a;have hD:=aG.ext z a;have hB:=aG.ext hc a;clear a q G z hc N M;cases hA:H.ca.any (isK (k:Int))with
        | true=>
         have hx:Hid (Gd H.ma k=true):=ae (by rw[km.out,decide_eq_true c1,hA];simp);clear c1 c2;have ki:Hid (∀i,i<k+1->Gd H.ma i=true):=ae λi J=>by
          by_cases e:i=k
          ·rw[e];exact hx.out
          ·exact hO.out i (by omega)
         go_wp2;go_roundw
         case rel=>exact⟨k+1,by omega,by go_num,hg,S,hD,hB,ki⟩
         case measure=>simp[intOf];omega
        | false=>
         have hx:Hid (Gd H.ma k=false):=ae (by rw[km.out,decide_eq_true c1,hA,decide_eq_false (by omega)];rfl);clear c1 c2;have Z:Hid (jU H.ma=7):=ae (by rw[h3.out,if_neg];intro l;exact absurd (KP l k A) (by rw[hx.out];decide));go_wp2;go_ret;rw[Z.out];exact⟨rfl,hg⟩
       have hx:Hid (Gd H.ma k=true):=ae (by rw[km.out,decide_eq_true c1,decide_eq_true (by omega)];rfl);refine aO 19 [_,_,_,_,_,_,_,_,_,_,_,_,_,_,_,_,_,_,.v (.bool false)] (Gf gx 8 rfl rfl (Gl M rfl rfl rfl rfl rfl (Gk rfl (Gl N (V:=.int .i64 (k:Int)) rfl rfl rfl rfl rfl (Gr (.pointer (some ⟨F,k,none⟩)) (λρ y W X hF=>(FC rfl (aH rfl hF) (aH rfl hF) A underlying33 int_one)) rfl rfl (Gc (.int .i64 (cnt (tN H.ma) k:Int)) (λW X=>by simp[IB.cell (aG.ext z X) (oK H.m.fs.length (tN H.ma) k A)]) rfl rfl rfl rfl (Gb (.bool false) (by simp[go_sem,c1]) rfl rfl rfl rfl rfl (Gk rfl (Gf gx 11 rfl rfl (Gl M rfl rfl rfl rfl rfl (Gb (.bool false) (by simp[go_sem,c2]) rfl rfl rfl rfl rfl (Gk rfl (Gk rfl (Gk rfl (Gk rfl (Gk rfl (Gk rfl (Gk rfl (Gk rfl (aF)))))))))))))))))))) (λ_=>rfl) rfl ?_;intro y W7 a _;have hg:=ag q a;have S:=G.ext a;have hD:=aG.ext z a;have hB:=aG.ext hc a;clear a q G z hc N M;clear c1 c2;have ki:Hid (∀i,i<k+1->Gd H.ma i=true):=ae λi J=>by
        by_cases e:i=k
        ·rw[e];exact hx.out
        ·exact hO.out i (by omega)
       go_wp2;go_roundw
       case rel=>exact⟨k+1,by omega,by go_num,hg,S,hD,hB,ki⟩
       case measure=>simp[intOf];omega
      have hx:Hid (Gd H.ma k=false):=ae (by rw[km.out,decide_eq_false c1];rfl);refine aO 19 [_,_,_,_,_,_,_,_,_,_,_,_,_,_,_,_,_,_,.v (.bool true)] (Gf gx 8 rfl rfl (Gl M rfl rfl rfl rfl rfl (Gk rfl (Gl N (V:=.int .i64 (k:Int)) rfl rfl rfl rfl rfl (Gr (.pointer (some ⟨F,k,none⟩)) (λρ y W X hF=>(FC rfl (aH rfl hF) (aH rfl hF) A underlying33 int_one)) rfl rfl (Gc (.int .i64 (cnt (tN H.ma) k:Int)) (λW X=>by simp[IB.cell (aG.ext z X) (oK H.m.fs.length (tN H.ma) k A)]) rfl rfl rfl rfl (Gb (.bool true) (by simp[go_sem,c1]) rfl rfl rfl rfl rfl (Gk rfl (Gk rfl (Gk rfl (Gk rfl (Gk rfl (Gk rfl (Gk rfl (Gk rfl (Gk rfl (Gk rfl (Gk rfl (Gk rfl (aF)))))))))))))))))))) (λ_=>rfl) rfl ?_;intro y W7 a _;have hg:=ag q a;have S:=G.ext a;have hD:=aG.ext z a;have hB:=aG.ext hc a;clear a q G z hc N M;clear c1;have Z:Hid (jU H.ma=7):=ae (by rw[h3.out,if_neg];intro l;exact absurd (KP l k A) (by rw[hx.out];decide));go_wp2;go_ret;rw[Z.out];exact⟨rfl,hg⟩
     have kO:¬(k:Int)<(H.m.fs.length:Int):=by omega
     have gN:=(h.below o).sl;have gy:eu wr (some ⟨D,0,none⟩) ((lw H.sl.length (qL H.ma)).map gF):=λi u J=>⟨D,0,rfl,by rw[eB,aG.cell b];simpa using J⟩;have l:=I.cell;unfold dF at l;have kN:=ae (nO H.sl.length (qL H.ma));have Z:Hid (jU H.ma=if H.sl=lw H.sl.length (qL H.ma)then 0 else 7):=ae (by
      rw[h3.out,LB,fD.2 (λi J=>hO.out i (by have:=eO.1 J;have e:H.ma.m.fs.length=H.m.fs.length:=rfl;omega)),lV];show(if decide (H.sl=lw H.sl.length (qL H.ma))=true then(0:Int)else 7)=_
      by_cases e:H.sl=lw H.sl.length (qL H.ma)
      ·rw[if_pos e,if_pos (decide_eq_true e)]
      ·rw[if_neg e,if_neg (by simp[e])])
     have gL:=n2;generalize hC:lw H.sl.length (qL H.ma)=C at *
     clear hO h3 hC
     go_wp2_with fail
     rw[show(Value.slice (some ⟨D,0,none⟩) H.sl.length H.sl.length) = .slice (some ⟨D,0,none⟩) C.length H.sl.length from by rw[kN.out]];refine(KH H.sl C H.asl (some ⟨D,0,none⟩) H.csl H.sl.length _ gN.rd gy (by omega) (by rw[kN.out];omega)).mono ?_;rintro r w5 ⟨rfl,s⟩
     by_cases e:H.sl=C
     ·rw[show(H.sl==C)=true from by rw[beq_iff_eq];exact e];have kH:Hid (jU H.ma=0):=ae (by rw[Z.out,if_pos e]);clear e l;go_wp2;go_ret;rw[kH.out];exact⟨rfl,ag o s⟩
     rw[show(H.sl==C)=false from by rw[beq_eq_false_iff_ne];exact e];have kH:Hid (jU H.ma=7):=ae (by rw[Z.out,if_neg e]);clear e l;go_wp2;go_ret;rw[kH.out];exact⟨rfl,ag o s⟩
end Go.Proofs.YthihaopabbpalaaGreat
namespace Pw
open Go Go.RowKit
variable {P:Program} {Q:Exit -> Act -> World -> Prop} {a0:Act} {i id:Nat} {o:Oper} {ops:Array Oper} {v:Value} {w w0:World}
theorem wp_mono'{a:Act}{K K' : Act->World->Prop}(h:∀v D w,K (Act.put { a with defers:=D } o.dst v) w->K' (Act.put { a with defers:=D } o.dst v) w)
 (d:o.wp P a w K Q):o.wp P a w K' Q:=by
 unfold Oper.wp at *
 generalize (execOp a.eval o).run P w=r at *
 cases r with
 | ok n w'=>
  cases n<;>simp only[Oper.upon]at d ⊢ <;>
   first
    | exact h _ a.defers _ d
    | exact h _ _ _ d
    | exact xZ d (λe y u=>by cases e<;>first | exact h _ a.defers _ u | exact u)
    | exact Rows.mono d (λ_ _ u=>h _ a.defers _ u)
 | halt x w'=>cases x<;>simp only[Oper.upon]at d ⊢<;>exact d
def CS(v:Value)(o:Oper):Oper:={ o with op:=.move (.const v) }
def freed(ops:Array Oper)(p:Nat)(v:Value):Array Oper:=ops.modify p (CS v)
theorem Cf(ops:Array Oper)(p:Nat)(v:Value)(i:Nat):(freed ops p v)[i]?=if p=i then(ops[i]?).map (CS v)else ops[i]?:=by
 unfold freed;rw[Array.getElem?_modify]
theorem FJ(ops:Array Oper)(p:Nat)(v:Value):(freed ops p v).size=ops.size:=by unfold freed;simp
theorem CE(ops:Array Oper)(p:Nat)(v:Value)(d:Array Bool):Region.ready .any (freed ops p v) d=Region.ready .any ops d:=by
 unfold Region.ready;rw[FJ];apply List.filter_congr;intro i _;congr 1;rw[Cf]
 by_cases e:p=i
 ·rw[if_pos e];cases ops[i]?<;>rfl
 ·rw[if_neg e]
theorem Ga(ops:Array Oper)(p:Nat)(v:Value)(ts:Array Value):yielded (freed ops p v) ts=yielded ops ts:=by
 funext g;unfold yielded;rw[Cf]
 by_cases e:p=g
 ·rw[if_pos e];cases ops[g]?<;>rfl
 ·rw[if_neg e]
def NN(ops:Array Oper)(p d:Nat):Bool:=
 (match ops[p]? with
  | some o=>(match o.op with
   | .move (.tmp t)=>decide (t=d)&&o.guard.isNone&&decide (o.dst≠some d)
   | _=>false)
  | none=>false) &&
 (List.range ops.size).all λi=>match ops[i]? with
  | none=>true
  | some o=>decide (o.dst≠some d)||o.after.toList.any λe=>decide (e.on=p)&&Region.binds .any e
theorem Kr{a:Act}{D:List Deferred}{u:Option Tmp}{d:Nat}(h:u≠some d):(Act.put { a with defers:=D } u v).eval (.tmp d)=a.eval (.tmp d):=by
 cases u with
 | none=>rfl
 | some t=>
  have y:t≠d:=λe=>h (by rw[e]);simp[Act.put,Act.eval,BC,y]
theorem Nq{d:Array Bool}(z:i∈Region.ready .any ops d)(y:ops[i]?=some o):d.getD i false=false/\∀e∈o.after,Region.binds .any e=true->d.getD e.on false=true:=by
 obtain⟨u,A,a,h2⟩:=mem_ready.1 z;rw[y]at a;cases a;refine⟨?_,h2⟩;rw[cK]at u ⊢;cases h:d[i]? with
 | none=>rfl
 | some b=>rw[h]at u;exact u
theorem Bv{P:Program}{ops:Array Oper}{Q:Exit->Act->World->Prop}{p d:Nat}{v:Value}(E:NN ops p d=true):∀(y:Nat) (u:Array Bool) (a:Act) (w:World),(u.getD p false=false->a.eval (.tmp d)=v)->wpAny P .any (freed ops p v) Q y u a w->wpAny P .any ops Q y u a w
 | 0,u,a,w,hI,h=>by unfold wpAny at h ⊢;rw[CE]at h;exact h
 | y+1,u,a,w,hI,h=>by
  unfold wpAny at h ⊢;rw[CE]at h;refine⟨h.1,λi Z => ?_⟩;have A:=h.2 i Z;have J:(u.setIfInBounds i true).getD p false=false->u.getD p false=false:=λG=>by
   cases hl:u.getD p false with
   | false=>rfl
   | true=>
    exfalso
    by_cases hs:i<u.size
    ·rw[yP hs p hl]at G; cases G
    have e:u.setIfInBounds i true=u:=by rw[Array.setIfInBounds_eq_of_size_le (by omega)]
    rw[e,hl]at G; cases G
  have K:=E;unfold NN at K;rw[ed]at K;obtain⟨I,S⟩:=K;unfold wpOp at A ⊢;rw[Cf,Ga]at A;cases ho:ops[i]? with
  | none=>
   rw[ho]at A;have V : wpAny P .any (freed ops p v) Q y (u.setIfInBounds i true) a w:=by
    by_cases e:p=i
    ·rw[if_pos e]at A;exact A
    ·rw[if_neg e]at A;exact A
   exact Bv E y _ a w (λG=>hI (J G)) V
  | some o=>
   rw[ho]at A;have M:i<ops.size:=(iV.1 ho).1;have F:=Nq Z ho
   by_cases e:p=i
   ·subst e;rw[if_pos rfl]at A;simp only[rT]at A;rw[ho]at I;simp only at I;cases hop:o.op with
    | move x=>
     rw[hop]at I;cases x with
     | tmp t=>
      simp only[ed,decide_eq_true_eq]at I;obtain⟨⟨rfl,hg⟩,R⟩:=I;have O:a.eval (.tmp t)=v:=hI F.1;have N:execOp a.eval (CS v o)=execOp a.eval o:=by unfold execOp CS;simp only[hop];rw[O];rfl
      have C:∀(v' : Value) (D:List Deferred) (w:World),wpAny P .any (freed ops p v) Q y (u.setIfInBounds p true) (Act.put { a with defers:=D } o.dst v') w->wpAny P .any ops Q y (u.setIfInBounds p true) (Act.put { a with defers:=D } o.dst v') w:=
       λv' D w W=>Bv E y _ _ w (λ_=>by rw[Kr R];exact O) W
      simp only;have U:Region.wanted (CS v o) (yielded ops a.tmps)=Region.wanted o (yielded ops a.tmps):=rfl;rw[U]at A;split
      ·rename_i z;rw[if_pos z]at A;rcases A with A|A
       ·refine .inl (wp_mono' C ?_);unfold Oper.wp at A ⊢;rw[<-N];exact A
       refine .inr ⟨?_,A.2⟩;have:=A.1;unfold Oper.asks at this ⊢;rw[<-N];exact this
      rename_i z;rw[if_neg z]at A;exact C undef a.defers w A
     | _=>cases I
    | _=>rw[hop]at I;cases I
   rw[if_neg e]at A;simp only at A ⊢;have L:=fD.1 S i (eO.2 M);rw[ho]at L;simp only[uP,decide_eq_true_eq]at L;have C:∀(v' : Value) (D:List Deferred) (w:World),wpAny P .any (freed ops p v) Q y (u.setIfInBounds i true) (Act.put { a with defers:=D } o.dst v') w->wpAny P .any ops Q y (u.setIfInBounds i true) (Act.put { a with defers:=D } o.dst v') w:=by
    intro v' D w W;refine Bv E y _ _ w (λG => ?_) W;rcases L with h2|h2
    ·rw[Kr h2];exact hI (J G)
    rw[jP]at h2;obtain⟨e',X,Y⟩:=h2;rw[ed,decide_eq_true_eq]at Y;have:=F.2 e' (nW.1 X) Y.2;rw[Y.1]at this;rw[J G]at this;cases this
   split
   ·rename_i z;rw[if_pos z]at A;exact A.imp (wp_mono' C) id
   rename_i z;rw[if_neg z]at A;exact C undef a.defers w A
def freedL:List Oper->Nat->Value->List Oper
 | [],_,_=>[]
 | o::r,0,v=>CS v o::r
 | o::r,k+1,v=>o::freedL r k v
theorem Fp(v:Value):∀(l:List Oper) (p:Nat),l.modify p (CS v)=freedL l p v
 | [],p=>by cases p<;>rfl
 | o::r,0=>rfl
 | o::r,k+1=>by rw[List.modify_succ_cons,Fp v r k];rfl
theorem Qi(l:List Oper)(p:Nat)(v:Value):freed ⟨l⟩ p v=⟨freedL l p v⟩:=by
 unfold freed;rw[<-Fp];simp
theorem Vn{l:List Oper}(p d:Nat)(u:Value)(z:P.follows .mixedOrders=true)(A:NN ⟨l⟩ p d=true)(y:a0.eval (.tmp d)=u)
 (h:∀ops:Array Oper,ops=(freedL l p u).toArray->wpAny P .any ops Q ops.size (Array.replicate ops.size false) a0 { w0 with drawn:=w0.drawn+1 }) :
  (Code.region id ⟨l⟩ true).wp P Q a0 w0:=by
 have h:=h _ rfl;rw[show(freedL l p u).toArray=freed ⟨l⟩ p u from(Qi l p u).symm,FJ]at h;exact wp_region_any z (Bv A _ _ _ _ (λ_=>y) h)
end Pw
namespace Go.Proofs.YthihaopabbpalaaGreat
open _root_.Go.Proofs.Tryz
open Go.RowKit Go.Maps Pw
variable {B B' b c ct f g i p q s sz:Nat} {H:MH} {T:TypeId} {a:Option Addr} {bl:List Page} {cs:Array Value} {fs:List Fi} {m m':Ma} {n:Int} {ps:List PF} {v:Value} {w w' w0 w1 w2:World} {wr:Bool} {xs ys:List Value}
theorem IA(l:List Cc)(a:Option Addr)(c:Nat)(w:World)(A:l.length<=c)(y:a=none->c=0)(z:eu w a (l.flatMap iL))(F:l.length*24<=140737488355328) :
  Calls Tryz.prog 61 #[.slice a l.length c] w λe w' => ∃v,e = .returned v/\Own w' w.heap.size 122 3 v l.length (l.flatMap iL)/\Below w.heap.size w w':=by
 cases a with
 | none=>
  have G:=y rfl;have D:l=[]:=kV (by omega);subst D;subst G;have C:=λW=>mY (P:=Tryz.prog) W 42 _ none 0 0 0 0 underlying42;go_enter func61,ntmps61;go_wp2;go_ret;exact⟨_,rfl,by simpa using Own.nil _ _ _ _,Below.refl _ _⟩
 | some ad=>
  have C:=λW=>mY (P:=Tryz.prog) W 42 _ (some ad) l.length c 0 0 underlying42;go_enter func61,ntmps61
  go_wp2_with (at_builtin;go_must (refine fQ 42 rfl w.heap.size 122 (.agg #[.int .i64 0,.int .i64 0,.int .i64 0]) 3 24 underlying42 cached_info 0 [] rfl ?own (some ad) l.length c (l.flatMap iL) rfl (λh=>(by cases h)) A (jE l) ?rd (yV l) (by unfold maxLen;omega) (by simpa using F) ?bb ?k))
  case own=>exact⟨rfl,.inr ⟨w.heap.size,0,0,#[],rfl,az _,aG.new _ _ _,az _,bq _,by simp,λj u h=>by simp at h⟩⟩
  case rd=>exact z.below ((Below.refl _ _).alloc (az _) _)
  case bb=>exact gU _ _
  intro v w1 b d;go_wp2;go_ret;exact⟨v,rfl,by simpa using b,((Below.refl _ _).alloc (az _) _).grown d (gU _ _) (λk E=>by cases E;exact az _)⟩
theorem Wd.fsz(h:Wd H.ma):Xm H.fi:=by
 have u:(H.fi.map PF.fi).length<=1000:=h.st.1;rw[eQ]at u;refine⟨by omega,λp d => ?_⟩;have:=h.st.2 p.fi (iA.2 ⟨p,d,rfl⟩);have e:p.fi.b.length=p.l.length:=rfl;omega
theorem Wd.spz(h:Wd H.ma){p:PS}(d:p∈H.sp):p.ar.length<=1000/\Gq p.tb:=by
 obtain⟨y,h2⟩:=h.sp.2 p.sp (iA.2 ⟨p,d,rfl⟩);exact⟨y,λk u=>by have:=h2 k u;have e:p.sp.tb[k].length=p.tb[k].length:=rfl;omega⟩
def wS(w:World)(B:Nat)(p:PS)(s:Sp):Prop:=p.sp=s/\Own w B 94 7 (.slice p.aa p.ar.length p.ac) p.ar.length (p.ar.flatMap mV)/\sM w B (nT p.ts) p.tb
theorem wS.below{p:PS}{s:Sp}(h:wS w B p s)(d:Below w.heap.size w w'):wS w' B p s:=⟨h.1,h.2.1.below d,h.2.2.below d⟩
def WH(B:Nat)(s:Sp):mP:=⟨λv w => ∃p,v = .agg (ze p)/\wS w B p s,λ_ _ _ hb ⟨p,h1,h2⟩=>⟨p,h1,h2.below hb⟩⟩
def XF(B:Nat)(s:Sp):mP:=⟨λv w => ∃g p,v = .slice (some ⟨g,0,none⟩) 1 1/\eu w (some ⟨g,0,none⟩) (ug p)/\wS w B p s,λ_ _ _ hb ⟨g,p,h1,h2,h3⟩=>⟨g,p,h1,h2.below hb,h3.below hb⟩⟩
theorem TN{p:PS}{s:Sp}(h:wS w B p s):∀u∈ug p,u.oneCell' = true:=by
 have y:=h.2.2.rd.one;rw[<-mD,fD]at y;intro u d;simp only[ug,ze,dz,ib,or_false]at d;simp only[nT,dz,ib,or_false]at y;rcases d with rfl|rfl|d
 ·rfl
 ·rfl
 ·exact y u d
theorem caO_size:(Tryz.prog.info? 42).map (·.size)=some 1:=by kernel_rfl
theorem OE{n:Nat}(h:Own w B 76 10 (.slice a n c) n xs)(d:w.grownBy w' (Value.slice a n c).ownBlock) :
  w.grownBy w' none\/∃g cs,aG w g cs 76/\B<=g/\w.grownBy w' (some g):=by
 cases hr:(Value.slice a n c).ownBlock with
 | none=>rw[hr]at d;exact .inl d
 | some g=>
  rw[hr]at d;obtain⟨cs,u⟩:=mQ h g hr;exact .inr ⟨g,cs,u,h.ge g hr,d⟩
theorem jA{n m:Nat}(u:Own w B 76 10 (.slice a n c) n xs)(y:w.grownBy w' (Value.slice a n c).ownBlock)(h:Own w B' T sz v m ys)(A:T≠76:=by decide):Own w' B' T sz v m ys:=by
 rcases OE u y with d|⟨g,cs,z,_,d⟩
 ·exact lJ h d
 ·exact ax h z (p:=(λe=>A e.symm)) d
theorem Bp{n:Nat}(u:Own w B 76 10 (.slice a n c) n xs)(y:w.grownBy w' (Value.slice a n c).ownBlock)(h:aG w b cs T)(A:T≠76:=by decide):aG w' b cs T:=by
 rcases OE u y with d|⟨g,C,z,_,d⟩
 ·exact h.grown d (λe=>by cases e)
 ·exact h.grown d (λe=>mG h z A (aM e).symm)
theorem Vu{n:Nat}(d:Own w B 76 10 (.slice a n c) n xs)(u:w.grownBy w' (Value.slice a n c).ownBlock)(h:rC w B' v ps):rC w' B' v ps:=
 ⟨jA d u h.own,λi p y=>jA d u (h.each i p y),h.apart⟩
theorem Ei{n:Nat}{t:Tb}(d:Own w B 76 10 (.slice a n c) n xs)(y:w.grownBy w' (Value.slice a n c).ownBlock)(h:sM w B' cs t):sM w' B' cs t:=
 ⟨h.sz,λk u=>by obtain⟨v,z,h2⟩:=h.own k u;exact⟨v,z,jA d y h2⟩,h.apart⟩
theorem mach_size:(Tryz.prog.info? 45).map (·.size)=some 11:=by kernel_rfl
theorem slsp_size:(Tryz.prog.info? 43).map (·.size)=some 1:=by kernel_rfl
def zn(f s b:Int):Ma:=if(0<=f/\f<=40)/\(0<=s/\s<=60)/\(0<=b/\b<=80)then⟨Oj f,Pq s,EZ s,EZ b,⟨[],b⟩,[],[⟨true,[],zTb⟩]⟩else zMa
def noH:MH:=⟨none,0,noM,none,0,[],none,0,none,0,⟨[],[]⟩,none,0,none,0,⟨[],[]⟩,none,0,[],0,none,0,[],none,0,[]⟩
def nTs:Vector Value 8:=⟨#[.slice none 0 0,.slice none 0 0,.slice none 0 0,.slice none 0 0,.slice none 0 0,.slice none 0 0,.slice none 0 0,.slice none 0 0],rfl⟩
structure Fb (ct:Nat) (bl:List Page) (q:List (Int × Page)) (fs:List Fi) (x:List Int):Prop where
 cl:bl.length=ct/\ct<=80
 ok:∀f∈fs,FD ct f
 nd:(lG (fs.flatMap Fi.b++x)).Nodup
 xb:∀b∈x,-1<=b/\b<ct
 tr:∀b:Int,0<=b->b<ct->b∈fs.flatMap Fi.b++x\/bl.getD b.toNat zPg=zPg
 qb:∀p∈q,p.1∈fs.flatMap Fi.b++x/\0<=p.1/\p.1<ct
 ql:q.length<=12*fs.length+x.length
theorem Fb.start(h:ct<=80):Fb ct (List.replicate ct zPg) [] [] [] where
 cl:=⟨by simp,h⟩
 ok:=λf u=>by cases u
 nd:=by simp[lG]
 xb:=λb y=>by cases y
 tr:=λb A z => .inr (by rw[aW,qw,if_pos (by omega)];rfl)
 qb:=λp d=>by cases d
 ql:=by simp
theorem Fb.none{q:List (Int × Page)}{x:List Int}(h:Fb ct bl q fs x):Fb ct bl q fs (x++[-1]) where
 cl:=h.cl
 ok:=h.ok
 nd:=by
  have e:lG (fs.flatMap Fi.b++(x++[-1]))=lG (fs.flatMap Fi.b++x):=by rw[<-jR,vk];simp[lG]
  rw[e];exact h.nd
 xb:=λb d=>by
  rcases gV.1 d with d|d
  ·exact h.xb b d
  ·rw[bC.1 d];omega
 tr:=λb z y=>(h.tr b z y).imp (λd=>by rw[<-jR];exact qh _ d) id
 qb:=λp u=>⟨by rw[<-jR];exact qh _ (h.qb p u).1,(h.qb p u).2⟩
 ql:=by have:=h.ql;simp;omega
theorem Fb.some{q:List (Int × Page)}{x:List Int}(h:Fb ct bl q fs x){n:Nat}(D:n<ct)(y:¬(n:Int)∈fs.flatMap Fi.b++x)(P:Page):Fb ct (bl.set n P) q fs (x++[(n:Int)]) where
 cl:=⟨by rw[bI];exact h.cl.1,h.cl.2⟩
 ok:=h.ok
 nd:=by
  have e:lG (fs.flatMap Fi.b++(x++[(n:Int)]))=lG (fs.flatMap Fi.b++x)++[(n:Int)]:=by rw[<-jR,vk];simp[lG]
  rw[e];refine yw.2 ⟨h.nd,by simp,λa z b d e => ?_⟩;rw[bC.1 d]at e;subst e;exact y (jL.1 z).1
 xb:=λb d=>by
  rcases gV.1 d with d|d
  ·exact h.xb b d
  ·rw[bC.1 d];omega
 tr:=λb C A=>by
  by_cases e:b=(n:Int)
  ·subst e;exact .inl (by simp)
  rcases h.tr b C A with d|d
  ·exact .inl (by rw[<-jR];exact qh _ d)
  refine .inr ?_;rw[aW,uH (by omega),<-aW];exact d
 qb:=λp u=>⟨by rw[<-jR];exact qh _ (h.qb p u).1,(h.qb p u).2⟩
 ql:=by have:=h.ql;simp;omega
theorem Fb.wait{q:List (Int × Page)}{x:List Int}(h:Fb ct bl q fs x){n:Nat}(y:n<ct)(u:¬(n:Int)∈fs.flatMap Fi.b++x)(P:Page):Fb ct (bl.set n P) (q++[((n:Int),P)]) fs (x++[(n:Int)]):=
 have k:=h.some y u P
 { k with
  qb:=λp d=>by
   rcases gV.1 d with d|d
   ·exact k.qb p d
   rw[bC.1 d];exact⟨by simp,by show(0:Int)<=n;omega,by show(n:Int)<ct;omega⟩
  ql:=by have:=h.ql;simp;omega }
theorem Fb.file{q:List (Int × Page)}{x:List Int}(h:Fb ct bl q fs x){s:Int}(A:0<=s)(z:s<=96)(u:(x.length:Int)=eY s):Fb ct bl q (fs++[⟨s,x⟩]) []:=by
 have e:(fs++[(⟨s,x⟩:Fi)]).flatMap Fi.b++[]=fs.flatMap Fi.b++x:=by simp
 refine⟨h.cl,λf d => ?_,by rw[e];exact h.nd,λb y=>(by cases y),by rw[e];exact h.tr,by rw[e];exact h.qb,?_⟩
 ·rcases gV.1 d with d|d
  ·exact h.ok f d
  ·rw[bC.1 d];exact⟨A,z,u,h.xb⟩
 have:=h.ql;have D:eY s<=12:=by unfold eY;split<;>omega
 have C:(fs++[(⟨s,x⟩:Fi)]).length=fs.length+1:=by simp
 rw[C];simp only[Aw];omega
def Cb(f s ct:Nat)(bl:List Page)(q:List (Int × Page))(fs:List Fi):Ma:=⟨⟨List.replicate f frZ,0⟩,List.replicate s 0,⟨List.replicate s zPg,[]⟩,⟨bl,q⟩,⟨fs,ct⟩,[],[]⟩
theorem Fb.bd{q:List (Int × Page)}(h:Fb ct bl q fs [])(K:fs.length<=5)(M:f<=40)(z:s<=60):Bd (Cb f s ct bl q fs) []:=by
 have a:∀i,i<f->aB (Cb f s ct bl q fs) i=frZ:=λi A=>by unfold aB Cb;rw[aW,qw,if_pos A];rfl
 have g:∀p n,(ent (Cb f s ct bl q fs) p n).k=0:=λp n=>by unfold ent;rw[qA (by simp[Cb])];show(dM zTb n).k=0;rw[yg];rfl
 have G:aT ⟨fs,(ct:Int)⟩=0:=mF.2 ⟨⟨K,by show(0:Int)<=ct;omega,by show(ct:Int)<=80;have:=h.cl.2;omega⟩,h.ok,by have:=h.nd;rw[oL]at this;exact this⟩;have o:bX ⟨bl,q⟩=0:=(jK _).2 ⟨by show bl.length<=80;have:=h.cl;omega,by show q.length<=400;have:=h.ql;simp only[Aw]at this;omega,λx y=>by have:=(h.qb x y).2;have e:bl.length=ct:=h.cl.1;show 0<=x.1/\x.1<(bl.length:Int);omega⟩;have j:bX ⟨List.replicate s zPg,[]⟩=0:=(jK _).2 ⟨by simp;omega,by simp,λx y=>(by cases y)⟩;have l:dL (List.replicate s (0:Int))=0:=Ir (by simp;exact z) λx y=>by rw[(DJ.1 y).2];decide
 have J:bu ⟨List.replicate f frZ,0⟩=0:=(dO _).2 ⟨by simp;exact M,λx y=>by rw[(DJ.1 y).2];decide,uh _,.inl rfl⟩;have d:fq (Cb f s ct bl q fs) []=Cb f s ct bl q fs:=rfl;have E:∀kd i,bR (Cb f s ct bl q fs) kd i=0:=λ_ _=>rfl;have u:∀i,uf (Cb f s ct bl q fs) i=0:=λ_=>rfl;refine⟨⟨rfl,λt D=>(by cases D),λt D=>(by cases D)⟩,?_,?_⟩
 ·rw[d];refine⟨⟨J,l,j,o,G,by simp[Cb],by have:=h.cl.1;show(bl.length:Int)=ct;omega,by simp[Cb],λs z=>(by cases z),λs z=>(by cases z)⟩,⟨λb C N => ?_,λp I => ?_⟩,λp _=>⟨by rw[qA (by simp[Cb])];rfl,λn=>g p n⟩,⟨λc u=>(by cases u),λc u=>(by cases u),λc u=>(by cases u),List.Pairwise.nil⟩,λp n L=>absurd (g p n) L,λi A => ?_,λi A C => ?_,λi A => ?_⟩
  ·have e:(Cb f s ct bl q fs).dk.blocks.length=ct:=h.cl.1;have:=h.tr b C (by omega);rw[oL]at this;exact this
  ·have:=(h.qb p I).1;rw[oL]at this;exact this
  ·rw[a i (by have e:(Cb f s ct bl q fs).m.fs.length=f:=kQ;omega),E,u];rfl
  ·rw[a i (by have e:(Cb f s ct bl q fs).m.fs.length=f:=kQ;omega)]at C;exact absurd C (by decide)
  rw[E];have e:(Cb f s ct bl q fs).sl.length=s:=kQ;unfold jW;show(List.replicate s (0:Int)).getD i 0=_;rw[aW,qw,if_pos (by omega)];rfl
 rw[d];refine⟨λc u=>(by cases u),λc u=>(by cases u),λi A F => ?_⟩;rw[a i (by have e:(Cb f s ct bl q fs).m.fs.length=f:=kQ;omega)]at F;exact absurd F (by decide)
def tabs(m:Ma)(T:List (List En)):Nat->Ma
 | 0=>m
 | q+1=>setTb (tabs m T q) q (iw (fP T q))
theorem take_set{α:Type}{F O:List α}(u:F.length=O.length)(d:q<O.length):(F.take q++O.drop q).set q (F[q]'(by omega))=F.take (q+1)++O.drop (q+1):=by
 have h:(F.take q).length=q:=by rw[iQ];omega
 rw[List.set_append,if_neg (by omega),h,qD,vK d,uT,List.take_succ_eq_append_getElem (by omega),jR];rfl
theorem Oz{m:Ma}{T:List (List En)}:∀q,q<=m.sp.length->tabs m T q = { m with sp:=(fq m T).sp.take q++m.sp.drop q }
 | 0,_=>by simp[tabs]
 | q+1,h=>by
  have y:=Oz (m:=m) (T:=T) q (by omega);have A:(fq m T).sp.length=m.sp.length:=lL;have D:((fq m T).sp.take q).length=q:=by rw[iQ];omega
  have d:dI (tabs m T q) q=m.sp[q]'(by omega):=by rw[y];unfold dI;show((fq m T).sp.take q++m.sp.drop q).getD q zSp=_;rw[aW,jX (by omega),D,qD,qY,iK,aI (by omega)];rfl
  have u:(fq m T).sp[q]'(by omega) = { m.sp[q]'(by omega)with tb:=iw (fP T q) }:=by
   have z:=AZ (m:=m) (T:=T) (p:=q) (by omega);have h2:dI m q=m.sp[q]'(by omega):=by unfold dI;rw[aW,aI (by omega)];rfl
   have C:dI (fq m T) q=(fq m T).sp[q]'(by omega):=by unfold dI;rw[aW,aI (by omega)];rfl
   rw[h2,C]at z;exact z
  show setTb (tabs m T q) q (iw (fP T q))=_;unfold setTb;rw[d,y,<-u];show({ m with sp:=((fq m T).sp.take q++m.sp.drop q).set q _ }:Ma)=_;rw[take_set A (by omega)]
theorem Tz{T:List (List En)}:tabs m T m.sp.length=fq m T:=by
 rw[Oz _ (az _),List.drop_length,oL,jD (by rw[lL];exact az _)];rfl
theorem UB(z:f<=40)(y:s<=60)(A:ct<=80):fq { Cb f s ct (List.replicate ct zPg) [] []with sp:=[⟨true,[],zTb⟩] } [List.replicate 64 zEn]=zn f s ct:=by
 have u:zn f s ct=⟨Oj f,Pq s,EZ s,EZ ct,⟨[],ct⟩,[],[⟨true,[],zTb⟩]⟩:=if_pos ⟨⟨by omega,by omega⟩,⟨by omega,by omega⟩,by omega,by omega⟩;have d:iw (List.replicate 64 zEn)=zTb:=by decide +kernel
 rw[u];unfold Oj Pq EZ fq Cb;rw[if_pos (by omega),if_pos (by omega),if_pos (by omega),if_pos (by omega)];simp only[bv,qz,Aw];have h:iw (fP [List.replicate 64 zEn] 0)=zTb:=d;show(⟨⟨List.replicate f frZ,0⟩,List.replicate s 0,⟨List.replicate s zPg,[]⟩,⟨List.replicate ct zPg,[]⟩,⟨[],ct⟩,[],[⟨true,[],iw (fP [List.replicate 64 zEn] 0)⟩]⟩:Ma)=_;rw[h]
theorem Im(h:Below B w0 w1)(h' : Below B' w1 w2)(u:B<=B')(y:B<=w0.heap.size):Below B w0 w2:=
 ⟨h'.os.trans h.os,h'.tape.trans h.tape,h'.output.trans h.output,bi h.size h'.size,λx d=>(h'.block x (pu d u)).trans (h.block x d)⟩
theorem nX(h:Rt m):Wd m:=by
 have d:=h.pt;have A:=(jK _).1 d.sw;have C:=(jK _).1 d.dk;have a:=(lu d.st).1;refine⟨by have:=((dO _).1 d.fr).1;omega,by have:=kJ d.sl;omega,by omega,by omega,by omega,by omega,⟨by omega,λf z=>by have:=yA d.st f z;omega⟩,by have:=TF h.ca d.st;omega,by have:=d.spl;omega,λs u=>⟨?_,λk y => ?_⟩⟩
 ·have:=(iX.1 (d.ar s u)).1;omega
 ·have:=qm (mi (d.tb s u) k y);omega
theorem Wq{o:Nat}{P:PS}(h:eu w (some ⟨g,o,none⟩) (ug P)):w.cell? ⟨g,o+1,none⟩=some (.slice P.aa P.ar.length P.ac):=by
 obtain⟨u,d,e',a⟩:=h 1 _ rfl;cases e';exact a
theorem ND(H:MH)(e f i:Int)(B b:Nat)(w:World)(h:lD w B b H e)(y:Rt H.ma)(u:qP H.ma.st f i) :
  Calls Tryz.prog 93 #[.pointer (some ⟨b,0,none⟩),.int .i64 f,.int .i64 i] w λr w'=>r = .returned (.int .i64 (fB ⟨H.ma,e⟩ f i).2)/\KR w B b H w' (fB ⟨H.ma,e⟩ f i).1:=by
 have z:=nX y;obtain⟨F,rfl⟩:∃F:Nat,f=F:=⟨f.toNat,by have:=u.1;omega⟩;obtain⟨I,rfl⟩:∃I:Nat,i=I:=⟨i.toNat,by have:=u.2;omega⟩;have E:F<H.fi.length:=by have:=u.1.2;have J:H.ma.st.fs.length=H.fi.length:=eQ _;omega
 obtain⟨P,C⟩:∃P,H.fi[F]?=some P:=⟨_,aI E⟩;have g:aN H.ma.st F=P.fi:=jN (by show(H.fi.map PF.fi)[F]?=_;rw[jd,C];rfl);have A:=su u;rw[g,bv]at A;have d:=zB y.pt.st u;have a:=wP y.pt.st u.1;rw[g]at d a;have j:=block_lt y.pt.st u;refine Lm H e F I P _ B b w h C A ⟨a.1,by have:P.n<=96:=a.2.1;omega⟩ (by omega) (λc D=>y.ca.lt c D) (λG => ?_) (by have:=z.sp.1;rwa [rX]at this) z.ca z.fs;rw[kF];have:=y.pt.dkl;exact⟨y.pt.dk,G,by show _<(H.ma.dk.blocks.length:Int);omega⟩
theorem Ux(ps:List PF)(k:Int)(f i:Int)(a:Option Addr)(c:Nat)(w:World)(h:MO w a c ps)(E:0<=f/\f<(ps.length:Int))(y:(aN (cZ ps k) f).n<=9223372036854775807) :
  Calls Tryz.prog 43 #[.agg (MF a ps.length c k),.int .i64 f,.int .i64 i] w λr w'=>r = .returned (.bool (qx (cZ ps k) f i))/\Below w.heap.size w w':=by
 obtain⟨F,rfl⟩:∃F:Nat,f=F:=⟨f.toNat,by omega⟩;have z:F<ps.length:=by omega
 have b:aN (cZ ps k) F=(ps[F]).fi:=jN (by show(ps.map PF.fi)[F]?=_;rw[jd,aI z];rfl);have C:Hid (qx (cZ ps k) F i=decide (eY (ps[F]).n<=i)):=ae (by unfold qx;rw[b];rfl);rw[b]at y;unfold MF;go_enter func43,ntmps43;go_upto_region 1 with(fail);refine iC (λW=>Code.wp _ _ _ _ W) λw1 d A e => ?_;obtain⟨I,D,P,rfl,u,g,_⟩:=xy (h.below d).rd F z;rw[aI z]at u;have u:=aM u;rw[u]at C y;have G:=A.cell;have j:(F:Int)<(ps.length:Int):=by omega
 clear b u h
 go_wp2_with fail
 refine(BZ P.n _ y).mono ?_;rintro r w2 ⟨rfl,rfl⟩;go_wp2;go_ret;rw[C.out];exact⟨rfl,d⟩
def Gm(m:Ma)(p:Nat)(n:Int)(w:Bool):Ar:=if pV m p n w≠0 then zAr else kT m p n
theorem xH(a:Ar):(kH a).all (·.oneCell')=true:=by simp[kH,Value.oneCell']
theorem kM : (Tryz.prog.info? 94).map (·.size)=some 7:=by kernel_rfl
theorem UA(H:MH)(e n:Int)(p:Nat)(wr:Bool)(B b:Nat)(w:World)(h:lD w B b H e)(hp:p<H.sp.length) :
    Calls Tryz.prog 41 #[.pointer (some ⟨b,0,none⟩),.int .i64 p,.int .i64 n,.bool wr] w λr w'=>r = .returned (.tuple #[.agg (kH (Gm H.ma p n wr)),.int .i64 (pV H.ma p n wr)])/\Below w.heap.size w w':=by
  obtain⟨P,U⟩:∃P,H.sp[p]?=some P:=⟨_,aI hp⟩;have x:=ae (qa U);have hr:(p:Int)<(H.sp.length:Int):=by omega
  go_enter func41,ntmps41;go_upto_region 1 with(fail);refine iC (λW=>Code.wp _ _ _ _ W) λw1 O K hl => ?_;have k1:=h.below O;clear h;obtain⟨g,L,s,c,y,d⟩:=k1.at U;have C:=k1.blk.cell;unfold rD at C;rw[s]at C;have t:=Wq c;have I:=d.ars
  go_wp2_with fail
  refine(Ih P.ar n P.aa P.ac _ I.rd (by have:=I.le;have:=I.mx;unfold maxLen at this;omega)).mono ?_;rintro r w2 ⟨rfl,i⟩;have X:=I.below i;have M:=k1.below i;have D:=K.ext i;have j:=ag O i;clear C t c y d s k1 I K O i hl
  by_cases A:ik P.ar n<0
  · have G:Hid (Gm H.ma p n wr=zAr/\pV H.ma p n wr=5):=ae (by
      have E:pV H.ma p n wr=5:=by unfold pV;rw[x.out];exact if_pos A
      exact⟨by unfold Gm;rw[E];exact if_pos (by decide),E⟩)
    go_wp2_with (refine aA rfl _ _ rfl w.heap.size (kH zAr) rfl rfl D rfl kM (xH zAr) ?_)
    intro V m o;have f:=j.grown o j.size (λk F=>by cases F;exact az _);go_wp2;rw[G.out.1,G.out.2];refine bodyPost_ret (v:=.tuple #[.agg (kH zAr),_]) (lH results41 _ _ w.heap.size _ _ _ _ rfl rfl m underlying94 rfl kM) rfl ?_;exact⟨rfl,f⟩
  obtain⟨k,F,hg,_⟩:=Ed (q:=pU n) (l:=P.ar) (by show 0<=ik P.ar n;omega);have S : ik P.ar n=k:=F;have N:Hid (kT H.ma p n=P.ar[k]):=ae (by unfold kT;rw[x.out];show P.ar.getD (ik P.ar n).toNat zAr=_;rw[S,bv,aW,aI hg];rfl);obtain⟨ba,oa,Y,u⟩:=jO rZ X.rd k hg;have z:Hid (pV H.ma p n wr=if(wr=true/\(P.ar[k]).wr=false)\/(wr=false/\(P.ar[k]).rd=false)then 8 else 0):=ae (by
    have E:¬ik (dI H.ma p).ar n<0:=by rw[x.out];exact A
    unfold pV;rw[if_neg E,N.out])
  generalize P.ar[k]=a at *
  obtain⟨g,L,s,c,y,d⟩:=M.at U;have C:=M.blk.cell;unfold rD at C;rw[s]at C;have t:=Wq c;rw[Y]at t;rw[S]at A ⊢;have hs:(k:Int)<(P.ar.length:Int):=by omega
  clear F S A c y d s X Y
  go_wp2_with (first | (refine ay ba (oa+k*7) _ u _ underlying94 rfl kM ?_) | (refine aJ rfl rfl (kH a) rfl rfl rfl kM (xH a) ?_))
  intro w3 R J;have j:=ag j R;have D:=D.ext R;clear C t u R M;have Z:=J.cell;unfold kH at Z;have hm:eu w3 (some ⟨w2.heap.size,0,none⟩) (mV a):=bF J 0 7;have hq:Hid ((wr=true/\a.wr=false)\/(wr=false/\a.rd=false)->Gm H.ma p n wr=zAr/\pV H.ma p n wr=8):=ae λC=>by
    have E:pV H.ma p n wr=8:=by rw[z.out,if_pos C]
    exact⟨by unfold Gm;rw[E];exact if_pos (by decide),E⟩
  have hn:Hid (¬((wr=true/\a.wr=false)\/(wr=false/\a.rd=false))->Gm H.ma p n wr=a/\pV H.ma p n wr=0):=ae λC=>by
    have E:pV H.ma p n wr=0:=by rw[z.out,if_neg C]
    exact⟨by unfold Gm;rw[E];exact N.out,E⟩
  clear z N;cases wr<;>cases c:a.rd<;>cases hwr:a.wr<;>rw[c,hwr]at Z
  all_goals
    first
      | (have G:=ae (hn.out (by simp[c,hwr]))
         go_wp2_with (first | (refine ay w2.heap.size 0 _ hm _ underlying94 rfl kM ?_) | (refine aA rfl _ _ rfl w.heap.size (kH a) rfl rfl D rfl kM (xH a) ?_))
         intro V m o;have f:=j.grown o j.size (λk F=>by cases F;exact az _);go_wp2;rw[G.out.1,G.out.2];refine bodyPost_ret (v:=.tuple #[.agg (kH a),_]) (lH results41 _ _ w.heap.size _ _ _ _ rfl rfl m underlying94 rfl kM) rfl ?_;exact⟨rfl,f⟩)
      | (have G:=ae (hq.out (by simp[c,hwr]))
         go_wp2_with (refine aA rfl _ _ rfl w.heap.size (kH zAr) rfl rfl D rfl kM (xH zAr) ?_)
         intro V m o;have f:=j.grown o j.size (λk F=>by cases F;exact az _);go_wp2;rw[G.out.1,G.out.2];refine bodyPost_ret (v:=.tuple #[.agg (kH zAr),_]) (lH results41 _ _ w.heap.size _ _ _ _ rfl rfl m underlying94 rfl kM) rfl ?_;exact⟨rfl,f⟩)
theorem areaT:94≠109/\94≠66/\94≠122/\94≠76:=by decide
theorem Dl(k:Kp)(p:Page)(f i:Int):(eG k p f i).1.m.sp.length=k.m.sp.length:=(rQ.took k p f i).sp
theorem SB(H:MH)(e n:Int)(p f:Nat)(A:Ar)(ga:Nat)(B b:Nat)(w:World)(h:lD w B b H e)(hA:aG w ga (kH A) 94)(X:p<H.sp.length)(hf:f<H.m.fs.length)(hz:H.sp.length<=1000)(hz2:H.ca.length<=1000)(hz3:H.m.fs.length<=1000) :
  Calls Tryz.prog 45 #[.pointer (some ⟨b,0,none⟩),.int .i64 p,.int .i64 n,.int .i64 f,.pointer (some ⟨ga,0,none⟩)] w λr w'=>r = .returned (.int .i64 (xO ⟨H.ma,e⟩ p n f A).2)/\KR w B b H w' (xO ⟨H.ma,e⟩ p n f A).1:=by
 obtain⟨g,off,cur,hj,hr,hi,hh,hg,hn,hm,ha⟩:=h.frame hf;generalize hx:aB H.ma f=x at *
 have v:=ae (show jw H.ma f=x from hx);clear hx ha hn;have J:=h.blk.cell;unfold rD at J;rw[hj]at J;have hl:(f:Int)<(H.m.fs.length:Int):=by omega
 go_enter func45,ntmps45
 go_wp2_with (first | (refine ay g (off+f*13) _ hg _ underlying66 rfl frame_size ?_) | (refine aJ rfl rfl (tV x) rfl rfl rfl frame_size (pq x) ?_))
 intro w1 t l;have Y:=h.below t;have W:=(KS.refl w b H).below t;have z:=hA.ext t;have u:¬kb b H w.heap.size:=λhk=>by obtain⟨cs,T,hb,_⟩:=h.kb_T hk;have:=hb.lt;omega
 clear J hg hi hh t hr hm hj h hA hl;have s:=l.cell;unfold tV at s;have q:=z.cell;unfold kH at q;have i:Hid (A.sh=true\/x.f<0/\x.r=1->xO ⟨H.ma,e⟩ p n f A=(fo ⟨H.ma,e⟩ p n ⟨1,f,true⟩,(f:Int))):=ae (λJ=>by unfold xO;simp only[show jw (Kp.m ⟨H.ma,e⟩) f=x from v.out];exact if_pos J);have j:Hid (¬(A.sh=true\/x.f<0/\x.r=1)->xO ⟨H.ma,e⟩ p n f A=if(eG (jV ⟨H.ma,e⟩ p n) x.p (-1) 0).2<0 then((eG (jV ⟨H.ma,e⟩ p n) x.p (-1) 0).1,-1)else(fo (eG (jV ⟨H.ma,e⟩ p n) x.p (-1) 0).1 p n ⟨1,(eG (jV ⟨H.ma,e⟩ p n) x.p (-1) 0).2,true⟩,(eG (jV ⟨H.ma,e⟩ p n) x.p (-1) 0).2)):=ae (λJ=>by unfold xO;simp only[show jw (Kp.m ⟨H.ma,e⟩) f=x from v.out];exact if_neg J);clear v;cases hsh:A.sh with
 | true=>
  have N:=ae (i.out (.inl hsh));rw[hsh]at q;clear i j hsh
  go_wp2_with fail
  refine(jl H e n p ⟨1,f,true⟩ B b _ Y X).mono ?_;rintro r w6 ⟨rfl,d⟩;go_wp2;go_ret;rw[N.out];exact⟨rfl,KR.trans W d⟩
 | false=>
  rw[hsh]at q
  by_cases hxf:x.f<0
  ·by_cases U:x.r=1
   ·have N:=ae (i.out (.inr ⟨hxf,U⟩));rw[U]at s;clear i j hsh
    go_wp2_with fail
    refine(jl H e n p ⟨1,f,true⟩ B b _ Y X).mono ?_;rintro r w6 ⟨rfl,d⟩;go_wp2;go_ret;rw[N.out];exact⟨rfl,KR.trans W d⟩
   have N:=ae (j.out (λJ=>J.elim (λO=>by rw[hsh]at O; cases O) (λO=>U O.2)));clear i j hsh
   go_wp2_with fail
   refine(BR H e n p B b _ Y X).mono ?_;rintro r w2 ⟨rfl,C,e2,k2,R,S⟩;have k:=R.blkN l u;have E:=W.trans R;have I:=jZ.drop ⟨H.ma,e⟩ p n;have G:=ae S;rw[<-S]at I;have a:C.sp.length=H.sp.length/\C.ca.length=H.ca.length/\C.m.fs.length=H.m.fs.length:=⟨by have:=I.sp;simp only[rX]at this;exact this,by rw[show C.ca=H.ca from I.ca],I.fs⟩;clear I S W R Y l s q z
   go_wp2_with (refine ay w.heap.size 0 (dW x.p).toList (bF k 0 8) _ underlying58 rfl psize ?_)
   refine(sI C e2 (-1) 0 x.p B b _ k2 (by rw[a.1];exact hz) (by rw[a.2.1];exact hz2) (by rw[a.2.2];exact hz3)).mono ?_;rintro r w3 ⟨rfl,L,V,k3,Z,M⟩;have D:=E.trans Z;have o:L.sp.length=H.sp.length:=by have:=Dl ⟨C.ma,e2⟩ x.p (-1) 0;rw[<-M]at this;simp only[rX]at this;rw[this,a.1]
   rw[G.out]at M ⊢;have F:=ae M;have y:p<L.sp.length:=by rw[o];exact X
   clear G M E Z k2 k a o;generalize hK:(eG (jV ⟨H.ma,e⟩ p n) x.p (-1) 0).2=K
   by_cases h0:K<0
   ·have c:Hid (xO ⟨H.ma,e⟩ p n f A=(⟨L.ma,V⟩,-1)):=ae (by rw[N.out,hK,if_pos h0,F.out]);go_wp2;go_ret;rw[c.out];exact⟨rfl,_,_,k3,D,rfl⟩
   have c:Hid (xO ⟨H.ma,e⟩ p n f A=(fo ⟨L.ma,V⟩ p n ⟨1,K,true⟩,K)):=ae (by rw[N.out,hK,if_neg h0,F.out]);clear hK
   go_wp2_with fail
   refine(jl L V n p ⟨1,K,true⟩ B b _ k3 y).mono ?_;rintro r w6 ⟨rfl,d⟩;go_wp2;go_ret;rw[c.out];exact⟨rfl,KR.trans D d⟩
  have N:=ae (j.out (λJ=>J.elim (λO=>by rw[hsh]at O; cases O) (λO=>hxf O.1)));clear i j hsh
  go_wp2_with fail
  refine(BR H e n p B b _ Y X).mono ?_;rintro r w2 ⟨rfl,C,e2,k2,R,S⟩;have k:=R.blkN l u;have E:=W.trans R;have I:=jZ.drop ⟨H.ma,e⟩ p n;have G:=ae S;rw[<-S]at I;have a:C.sp.length=H.sp.length/\C.ca.length=H.ca.length/\C.m.fs.length=H.m.fs.length:=⟨by have:=I.sp;simp only[rX]at this;exact this,by rw[show C.ca=H.ca from I.ca],I.fs⟩;clear I S W R Y l s q z
  go_wp2_with (refine ay w.heap.size 0 (dW x.p).toList (bF k 0 8) _ underlying58 rfl psize ?_)
  refine(sI C e2 (-1) 0 x.p B b _ k2 (by rw[a.1];exact hz) (by rw[a.2.1];exact hz2) (by rw[a.2.2];exact hz3)).mono ?_;rintro r w3 ⟨rfl,L,V,k3,Z,M⟩;have D:=E.trans Z;have o:L.sp.length=H.sp.length:=by have:=Dl ⟨C.ma,e2⟩ x.p (-1) 0;rw[<-M]at this;simp only[rX]at this;rw[this,a.1]
  rw[G.out]at M ⊢;have F:=ae M;have y:p<L.sp.length:=by rw[o];exact X
  clear G M E Z k2 k a o;generalize hK:(eG (jV ⟨H.ma,e⟩ p n) x.p (-1) 0).2=K
  by_cases h0:K<0
  ·have c:Hid (xO ⟨H.ma,e⟩ p n f A=(⟨L.ma,V⟩,-1)):=ae (by rw[N.out,hK,if_pos h0,F.out]);go_wp2;go_ret;rw[c.out];exact⟨rfl,_,_,k3,D,rfl⟩
  have c:Hid (xO ⟨H.ma,e⟩ p n f A=(fo ⟨L.ma,V⟩ p n ⟨1,K,true⟩,K)):=ae (by rw[N.out,hK,if_neg h0,F.out]);clear hK
  go_wp2_with fail
  refine(jl L V n p ⟨1,K,true⟩ B b _ k3 y).mono ?_;rintro r w6 ⟨rfl,d⟩;go_wp2;go_ret;rw[c.out];exact⟨rfl,KR.trans D d⟩
theorem RP(h:Pt m)(p:Nat)(n:Int):vo (kT m p n):=by
 unfold kT;rw[aW];cases e:(dI m p).ar[(ik (dI m p).ar n).toNat]? with
 | none=>show vo zAr;unfold vo;decide
 | some a=>exact(bM ((sK (h.arN p)).2 a (bP e))).1
theorem NT(H:MH)(e n:Int)(p:Nat)(g:Pg)(J:Nat)(B b:Nat)(w:World)(h:lD w B b H e)(X:Rt H.ma)(hC:Co H.ma)(hA:aG w J (kH (kT H.ma p n)) 94)(hp:p<H.sp.length)(hg:fI H.ma p n=some g)(hin:0<=g.fi->(ent H.ma p n).k=0->qP H.ma.st g.fi g.pg) :
  Calls Tryz.prog 44 #[.pointer (some ⟨b,0,none⟩),.int .i64 p,.int .i64 n,.pointer (some ⟨J,0,none⟩)] w λr w'=>r = .returned (.int .i64 (gW ⟨H.ma,e⟩ p n (kT H.ma p n)).2)/\KR w B b H w' (gW ⟨H.ma,e⟩ p n (kT H.ma p n)).1:=by
 have hz:=nX X;have km:H.sp.length<=1000:=by have:=hz.sp.1;rwa [rX]at this
 have kl:H.ca.length<=1000:=hz.ca;have kk:H.m.fs.length<=1000:=hz.fs;clear hz;obtain⟨g1,g2,g3,g4,g5,g6,g7⟩:=Cu hg;have hS:=X.pt.pg hg;have kK:=ae (RP X.pt p n);obtain⟨P,hP⟩:∃P,H.sp[p]?=some P:=⟨_,aI hp⟩;have gd:=ae (qa hP);have gc:Hid ((ent H.ma p n).k=2->aL H.sw (ent H.ma p n).n=0):=ae (λV=>by obtain⟨g0,gG,kI⟩:=X.en p n (by rw[V];decide);have h1:=(kI.sw V).1;have h2:=(bG _).1 (nG X.pt p n);have Z:=X.pt.swl;exact kF.2 ⟨X.pt.sw,by omega,by show _<(H.ma.sw.blocks.length:Int);omega⟩);generalize hAA:kT H.ma p n=A at *
 obtain⟨gs,off,gi,gf,ky,hy⟩:=h.at hP;have hc:=h.blk.cell;unfold rD at hc;rw[gi]at hc;have gE:(p:Int)<(H.sp.length:Int):=by omega
 have kJ:=ae g6;have gA:=ae g4;have gB:=ae g3;have kM:=ae g7;have kC:=ae hin;have kz:=ae hS;have kg:=ae X;have gj:=ae hC;have gI:=ae h.bs;clear g1 g2 g3 g4 g5 g6 g7 hin hS X hC hg hAA;go_enter func44,ntmps44
 go_wp2_with (refine ay gs (off+p*10+2) _ ky _ underlying74 tab_agg tab_size ?_)
 refine(xG P.tb (nT P.ts) n _ hy.tb).mono ?_;rintro r w1 ⟨rfl,hB⟩;have h1:=h.below hB;have s1:=(KS.refl w b H).below hB;have kR:=hA.ext hB;clear hc gf ky hy;generalize hx:dM P.tb n=x
 go_wp2_with (refine aJ rfl rfl (jm x) rfl rfl rfl entry_size (by simp[jm,Value.oneCell']) ?_)
 intro w2 hJ hl;have h2:=h1.below hJ;have s2:=s1.below hJ;have l:=kR.ext hJ;have gD:=ae (bi hB.size (az w1.heap.size));clear h1 s1 hB hJ h hA kR;have hs:=hl.cell;unfold jm at hs;have kd:Hid (ent H.ma p n=x):=ae (by unfold ent;rw[gd.out];exact hx);have d:=l.cell;unfold kH at d;clear hx;have t:Hid (gW ⟨H.ma,e⟩ p n A=if x.k=1 then(⟨H.ma,e⟩,x.n)else if x.k=2 then(if aL H.sw x.n≠0 then(⟨H.ma,e⟩,-1)else
   let r:=eG ⟨H.ma,e⟩ (dD H.sw x.n) (-1) 0
   if r.2<0 then(r.1,-1)else
   if dH r.1.m.sl x.n (-1)≠0 then(r.1,-1)else(fo ⟨{ r.1.m with sl:=cO r.1.m.sl x.n (-1) },r.1.e⟩ p n ⟨1,r.2,A.wr⟩,r.2))
  else if A.fi<0 then Xf (eG ⟨H.ma,e⟩ zPg (-1) 0) p n A.wr
  else
   let r:=fB ⟨H.ma,e⟩ A.fi (A.ba+n-A.fr)
   if r.2<0 then r else(fo (gH r.1 r.2 1) p n ⟨1,r.2,A.sh&&A.wr⟩,r.2)):=ae (by
  unfold gW;simp only[show ent (Kp.m ⟨H.ma,e⟩) p n=x from kd.out];rfl)
 by_cases k1:x.k=1
 ·have R:Hid (gW ⟨H.ma,e⟩ p n A=(⟨H.ma,e⟩,x.n)):=ae (by rw[t.out,if_pos k1]);rw[k1]at hs;clear t k1;go_wp2;go_ret;rw[R.out];exact⟨rfl,_,_,h2,s2,rfl⟩
 by_cases V:x.k=2
 ·have kw:Hid (aL H.sw x.n=0):=ae (by have:=gc.out;rw[kd.out]at this;exact this V);have R:Hid (gW ⟨H.ma,e⟩ p n A=(let r:=eG ⟨H.ma,e⟩ (dD H.sw x.n) (-1) 0
   if r.2<0 then(r.1,-1)else
   if dH r.1.m.sl x.n (-1)≠0 then(r.1,-1)else(fo ⟨{ r.1.m with sl:=cO r.1.m.sl x.n (-1) },r.1.e⟩ p n ⟨1,r.2,A.wr⟩,r.2))):=ae (by rw[t.out,if_neg k1,if_pos V,if_neg (by rw[kw.out];simp)])
  rw[V]at hs;clear t k1 V;obtain⟨Q,hQ⟩:∃Q,Hid (Q=dD H.sw x.n):=⟨_,ae rfl⟩;rw[<-hQ.out]at R;go_upto_region 5 with(fail);refine kv 14 [_,_,_,_,.v (.agg #[.slice H.wb H.sw.blocks.length H.cwb,.slice H.wq H.sw.queue.length H.cwq]),_,_,.v (.tuple #[.agg (dW Q),.int .i64 0]),_,.v (.agg (dW Q)),.v (.int .i64 0),.r 11 ((iP w2.heap.size 58 8)),.y 12 ((Kk 11 w2.heap.size 58 (mW (.agg (dW Q))))),.v (.int .i64 0)] (λW=>Below w2.heap.size w2 W) dV (Below.refl _ _) (Yk dV rfl (Yk dV rfl (Yf dV b 0 rfl rfl (Yf dV b 3 rfl rfl (ah ?_ (Yf dV w1.heap.size 1 rfl rfl (Yc dV (.int .i64 x.n) (λW F=>by simp[(hl.ext F).cell,jm]) rfl rfl rfl rfl (ah ?_ (Yk dV rfl (ah ?_ (ah ?_ (ah ?_ (ah ?_ (Yk dV rfl (aF))))))))))))))) (λ_=>rfl) rfl ?_
  ·intro ρ y W D G F E;refine iW dV F (mW (.agg #[.slice H.wb H.sw.blocks.length H.cwb,.slice H.wq H.sw.queue.length H.cwq])) (λ_ _ h=>h) ?_;have gy:=D 41 3 rfl;have Z:y 3=_:=E 3 rfl;refine ak (.agg #[.slice H.wb H.sw.blocks.length H.cwb,.slice H.wq H.sw.queue.length H.cwq]) (bJ rfl (gy.trans Z) (h2.below F).rdW underlying38 (A:=disk_size))
  ·intro ρ y W D G F E;refine iW dV F (mW (.tuple #[.agg (dW Q),.int .i64 0])) (λ_ _ h=>h) ?_;have gx:=D 42 4 rfl;have h4:y 4=_:=E 4 rfl;have gw:=D 44 6 rfl;have h6:y 6=_:=E 6 rfl;have EF:=eF0 G λ_=>trivial;refine aP (aS rfl (EF _) func89 (by simp only[bU,bS,aZ,gx,h4,gw,h6,EF];rfl)) ?_;refine(Hg H.sw x.n H.wb H.cwb H.wq H.cwq W (h2.below F).ma.rd.sw).mono ?_;rintro r W3 ⟨rfl,kf⟩;rw[kw.out,<-hQ.out];exact⟨_,rfl,kf,rfl⟩
  ·intro ρ y W D G F E;refine iW dV F (mW (.agg (dW Q))) (λ_ _ h=>h) ?_;have kj:=D 37 8 rfl;have Y:y 8=_:=E 8 rfl;refine ak (.agg (dW Q)) (by simp[execOp,go_sem,bW,kj,Y])
  ·intro ρ y W D G F E;refine iW dV F (mW (.int .i64 0)) (λ_ _ h=>h) ?_;have kj:=D 37 8 rfl;have Y:y 8=_:=E 8 rfl;refine ak (.int .i64 0) (by simp[execOp,go_sem,bW,kj,Y])
  ·intro ρ y W D G F E;refine iW dV F ((iP w2.heap.size 58 8)) (λ_ _ h=>h) ?_;refine jg (.pointer (some ⟨W.heap.size,0,none⟩)) (aj) (by simp[execOp,go_sem,bW]) ((Below.refl _ _).alloc (az _) (.cells #[.int .u8 0,.int .u8 0,.int .u8 0,.int .u8 0,.int .u8 0,.int .u8 0,.int .u8 0,.int .u8 0] 58)) ?_;exact⟨_,_,rfl,F.size,aG.new _ _ _,rfl⟩
  ·intro ρ y W D G F E;have gz:=D 10 11 rfl;have kh:=E 11 rfl;have gv:=D 46 9 rfl;have h9:y 9=_:=E 9 rfl;obtain⟨g3,cur3,e9,kG,kN,kx⟩:=kh;refine mH _ _ _ rfl g3 0 (.agg (dW Q)) (dW Q).toList (gz.trans e9) (gv.trans h9) rfl cur3 _ kN (by rw[kx];exact az _) psize (bV (eF Q)) ?_;intro w1 hr kD;rw[gK cur3 _ (by rw[kx];rfl)]at hr;refine⟨F.grown kD F.size (λk hk=>by cases hk;exact kG),⟨g3,_,e9,kG,hr,rfl⟩,?_⟩;intro k hk gh
   match k,hk,gh with
   | 0,_,_|1,_,_|2,_,_|3,_,_|4,_,_|5,_,_|6,_,_|7,_,_|8,_,_|9,_,_|10,_,_=>exactλh=>h
   | 11,_,_=>exactλq=>lh q hr ⟨_,kN⟩ kD
   | 12,_,h=>exact absurd rfl h
   | 13,_,_=>exactλh=>h
   | n+14,h,_=>exact absurd h (by omega)
  intro y W3 j hD;replace j:Below w2.heap.size w2 W3:=j;have i:((iP w2.heap.size 58 8)).r (y 11) W3:=hD 11 (by decide);have hj:=hD 12 (by decide);clear hD;simp only[dn,bW,bS,aZ];obtain⟨ge,cce,hU,gC,kP,hW⟩:=hj;have ke : cce=dW Q:=by simpa[mW]using hW
  subst ke;rw[hU];have Z:=h2.below j;have s3:=s2.below j;have kt:=hl.ext j;have kQ:=l.ext j;clear hs d h2 s2 hl l j hU hW i
  go_wp2_with (refine ay ge 0 (dW Q).toList kP.rd _ underlying58 rfl psize ?_)
  refine(sI H e (-1) 0 Q B b _ Z km kl kk).mono ?_;rintro r M ⟨rfl,C,N,O,S,U⟩;have ks:=S.blk Z kt entTy;have hi:=S.blk Z kQ areaT;have L:=s3.trans S;have z:C.sp.length=H.sp.length:=by have:=Dl ⟨H.ma,e⟩ Q (-1) 0;rw[<-U]at this;simp only[rX]at this;exact this
  have I:=ae U;have hv:p<C.sp.length:=by rw[z];exact hp
  have kE:=ae O.bs;clear U s3 S Z kt kQ z kP;generalize hK:(eG ⟨H.ma,e⟩ Q (-1) 0).2=K
  by_cases h0:K<0
  ·have c:Hid (gW ⟨H.ma,e⟩ p n A=(⟨C.ma,N⟩,-1)):=ae (by
    rw[R.out]
    try simp only
    rw[hK,if_pos h0,I.out])
   go_wp2;go_ret;rw[c.out];exact⟨rfl,_,_,O,L,rfl⟩
  have c:Hid (gW ⟨H.ma,e⟩ p n A=if dH C.sl x.n (-1)≠0 then(⟨C.ma,N⟩,-1)else(fo ⟨{ C.ma with sl:=cO C.sl x.n (-1) },N⟩ p n ⟨1,K,A.wr⟩,K)):=ae (by rw[R.out];simp only;rw[hK,if_neg h0,<-I.out];rfl);clear hK R I;go_upto_region 11 with(fail);refine kv 13 [_,_,_,_,_,_,_,.r 7 ((Db M.heap.size 3 1 (cO C.sl x.n (-1)).length ((cO C.sl x.n (-1)).map gF) (dH C.sl x.n (-1)))),.r 8 ((Db M.heap.size 3 1 (cO C.sl x.n (-1)).length ((cO C.sl x.n (-1)).map gF) (dH C.sl x.n (-1)))),.r 9 ((nA M.heap.size 3 1 (cO C.sl x.n (-1)).length ((cO C.sl x.n (-1)).map gF))),.v (.int .i64 (dH C.sl x.n (-1))),.r 11 ((nA M.heap.size 3 1 (cO C.sl x.n (-1)).length ((cO C.sl x.n (-1)).map gF))),.v (.int .i64 (dH C.sl x.n (-1)))] (λW=>Below M.heap.size M W) dV (Below.refl _ _) (Yk dV rfl (Yk dV rfl (Yf dV b 0 rfl rfl (Yf dV b 2 rfl rfl (Yc dV (.slice C.asl C.sl.length C.csl) (λW F=>by simp[(O.below F).blk.cell,rD]) rfl rfl rfl rfl (Yf dV w1.heap.size 1 rfl rfl (Yc dV (.int .i64 x.n) (λW F=>by simp[(ks.ext F).cell,jm]) rfl rfl rfl rfl (ah ?_ (ah ?_ (ah ?_ (ah ?_ (ah ?_ (Yk dV rfl (aF)))))))))))))) (λ_=>rfl) rfl ?_
  ·intro ρ y W D G F E;refine iW dV F ((Db M.heap.size 3 1 (cO C.sl x.n (-1)).length ((cO C.sl x.n (-1)).map gF) (dH C.sl x.n (-1)))) (λ_ _ h=>h) ?_;have gu:=D 60 4 rfl;have h4:y 4=_:=E 4 rfl;have gt:=D 62 6 rfl;have h6:y 6=_:=E 6 rfl;have EC:∀v,ρ (.const v)=v:=λv=>G (.const v) trivial;have EF:=eF0 G λ_=>trivial;refine aP (aS rfl (EF _) func91 (by simp only[bU,bS,aZ,gu,h4,gt,h6,EC,EF];rfl)) ?_;have hm:=(O.below F).ma.rd.sl;refine(Ez C.sl C.asl C.csl x.n (-1) W hm.le hm.nl hm.rd (by have:=hm.le;have:=hm.mx;unfold maxLen at this;omega)).mono ?_;rintro r W3 ⟨u,rfl,ho,kf⟩;exact⟨_,rfl,kf,u,rfl,ho.mono F.size⟩
  ·intro ρ y W D G F E;refine iW dV F ((Db M.heap.size 3 1 (cO C.sl x.n (-1)).length ((cO C.sl x.n (-1)).map gF) (dH C.sl x.n (-1)))) (λ_ _ h=>h) ?_;have gr:=D 63 7 rfl;have h7:=E 7 rfl;refine ak _ (run_move (.inl rfl) gr) (m:=?_);exact h7
  ·intro ρ y W D G F E;refine iW dV F ((nA M.heap.size 3 1 (cO C.sl x.n (-1)).length ((cO C.sl x.n (-1)).map gF))) (λ_ _ h=>h) ?_;have ki:=D 55 8 rfl;have Y:=E 8 rfl;obtain⟨u,hu,ho⟩:=Y;refine ak u (by simp[execOp,go_sem,bW,ki,hu]) (m:=?_);exact ho
  ·intro ρ y W D G F E;refine iW dV F (mW (.int .i64 (dH C.sl x.n (-1)))) (λ_ _ h=>h) ?_;have ki:=D 55 8 rfl;have Y:=E 8 rfl;obtain⟨u,hu,ho⟩:=Y;refine ak (.int .i64 (dH C.sl x.n (-1))) (by simp[execOp,go_sem,bW,ki,hu])
  ·intro ρ y W D G F E;refine iW dV F ((nA M.heap.size 3 1 (cO C.sl x.n (-1)).length ((cO C.sl x.n (-1)).map gF))) (λ_ _ h=>h) ?_;have gq:=D 64 9 rfl;have h9:=E 9 rfl;refine ak _ (run_move (.inr rfl) gq) (m:=?_);exact h9
  intro y W5 s hf;replace s:Below M.heap.size M W5:=s;have hG:((Db M.heap.size 3 1 (cO C.sl x.n (-1)).length ((cO C.sl x.n (-1)).map gF) (dH C.sl x.n (-1)))).r (y 7) W5:=hf 7 (by decide);have hF:((Db M.heap.size 3 1 (cO C.sl x.n (-1)).length ((cO C.sl x.n (-1)).map gF) (dH C.sl x.n (-1)))).r (y 8) W5:=hf 8 (by decide);have hE:((nA M.heap.size 3 1 (cO C.sl x.n (-1)).length ((cO C.sl x.n (-1)).map gF))).r (y 9) W5:=hf 9 (by decide);have i:((nA M.heap.size 3 1 (cO C.sl x.n (-1)).length ((cO C.sl x.n (-1)).map gF))).r (y 11) W5:=hf 11 (by decide);clear hf;simp only[dn,bW,bS,aZ];have hH:Own W5 M.heap.size 3 1 (y 11) (cO C.sl x.n (-1)).length ((cO C.sl x.n (-1)).map gF):=i;obtain⟨a5,c5,e7,_⟩:=Own.rd hH;rw[e7]at hH;simp only[e7];have k5:=O.below s;have s5:=L.below s;have hL:=hi.ext s;clear hG hF hE i e7 O L hi ks s
  by_cases h5:dH C.sl x.n (-1)=0
  ·rw[h5];have kc:Hid (gW ⟨H.ma,e⟩ p n A=(fo ⟨{ C.ma with sl:=cO C.sl x.n (-1) },N⟩ p n ⟨1,K,A.wr⟩,K)):=ae (by rw[c.out,if_neg (λh=>h h5)]);clear h5 c
   go_wp2_with (first | (refine aC b 2 [.slice a5 (cO C.sl x.n (-1)).length c5] rfl rfl rfl _ _ k5.blk (by show 2+1<=12;decide) slots_size (λu hu=>by cases bC.1 hu;rfl) ?_))
   intro w6 kO hI;have k6:=k5.setL (hH.mono kE.out) kO hI;have s6:KS w b H w6 { C with asl:=a5,csl:=c5,sl:=cO C.sl x.n (-1) }:=s5.putB hI rfl rfl rfl;have gk:=cB hL k5.blk hI;clear s5 k5 hH hL kO hI;have d:=gk.cell;unfold kH at d
   go_wp2_with fail
   refine(jl _ N n p ⟨1,K,_⟩ B b _ k6 hv).mono ?_;rintro r w9 ⟨rfl,hh⟩;go_wp2;go_ret;rw[kc.out];exact⟨rfl,KR.trans s6 hh⟩
  have kc:Hid (gW ⟨H.ma,e⟩ p n A=(⟨C.ma,N⟩,-1)):=ae (by rw[c.out,if_pos h5]);go_wp2;go_ret;rw[kc.out];exact⟨rfl,_,_,k5,s5,rfl⟩
 by_cases hfi:A.fi<0
 ·have R:Hid (gW ⟨H.ma,e⟩ p n A=Xf (eG ⟨H.ma,e⟩ zPg (-1) 0) p n A.wr):=ae (by rw[t.out,if_neg k1,if_neg V,if_pos hfi]);clear t;go_upto_region 18 with(fail)
  go_wp2_with fail
  rw[<-zPg_cells];refine(sI H e (-1) 0 zPg B b _ h2 km kl kk).mono ?_;rintro r M ⟨rfl,C,N,O,S,U⟩;have hi:=S.blk h2 l areaT;have L:=s2.trans S;have z:C.sp.length=H.sp.length:=by have:=Dl ⟨H.ma,e⟩ zPg (-1) 0;rw[<-U]at this;simp only[rX]at this;exact this
  have I:=ae U;have hv:p<C.sp.length:=by rw[z];exact hp
  clear U s2 S h2 hl l z hs d;generalize hK:(eG ⟨H.ma,e⟩ zPg (-1) 0).2=K;have d:=hi.cell;unfold kH at d
  by_cases h0:K<0
  ·have c:Hid (gW ⟨H.ma,e⟩ p n A=(⟨C.ma,N⟩,K)):=ae (by rw[R.out];unfold Xf;rw[hK,if_pos h0,I.out,<-hK]);go_wp2;go_ret;rw[c.out];exact⟨rfl,_,_,O,L,rfl⟩
  have c:Hid (gW ⟨H.ma,e⟩ p n A=(fo ⟨C.ma,N⟩ p n ⟨1,K,A.wr⟩,K)):=ae (by rw[R.out];unfold Xf;rw[hK,if_neg h0,I.out]);clear hK R I
  go_wp2_with fail
  refine(jl C N n p ⟨1,K,_⟩ B b _ O hv).mono ?_;rintro r w9 ⟨rfl,hh⟩;go_wp2;go_ret;rw[c.out];exact⟨rfl,KR.trans L hh⟩
 have R:Hid (gW ⟨H.ma,e⟩ p n A=(let r:=fB ⟨H.ma,e⟩ A.fi (A.ba+n-A.fr)
  if r.2<0 then r else(fo (gH r.1 r.2 1) p n ⟨1,r.2,A.sh&&A.wr⟩,r.2))):=ae (by rw[t.out,if_neg k1,if_neg V,if_neg hfi])
 have hT:Hid (qP H.ma.st A.fi (A.ba+n-A.fr)):=ae (by have e1:=kJ.out;have e2:=kM.out (by omega);have h2:=(bG _).1 (nG kg.out.pt p n);rw[e1,e2];refine kC.out (by omega) ?_;rw[kd.out]at h2 ⊢;omega);have kL:=kK.out;have gg:=kz.out;unfold vo at kL;have hr:IntKind.i64.wrap (A.ba+n)=A.ba+n:=bK _ (by omega);have ku:IntKind.i64.wrap (A.ba+n-A.fr)=A.ba+n-A.fr:=bK _ (by omega);clear t kL gg;go_upto_region 22 with(fail);refine Eu 16 17 [] [mW (.pointer (some ⟨b,0,none⟩)),mW (.pointer (some ⟨J,0,none⟩)),mW (.pointer (some ⟨J,0,none⟩)),mW (.pointer (some ⟨J,5,none⟩)),mW (.int .i64 A.fi),mW (.pointer (some ⟨J,0,none⟩)),mW (.pointer (some ⟨J,0,none⟩)),mW (.pointer (some ⟨J,6,none⟩)),mW (.int .i64 A.ba),mW (.int .i64 n),mW (.int .i64 (A.ba+n)),mW (.pointer (some ⟨J,0,none⟩)),mW (.pointer (some ⟨J,0,none⟩)),mW (.pointer (some ⟨J,0,none⟩)),mW (.int .i64 A.fr),mW (.int .i64 (A.ba+n-A.fr))] (by kernel_rfl) (by kernel_rfl) (by kernel_rfl) (by kernel_rfl) (by kernel_rfl) (by kernel_rfl) (by decide) (by decide) _ rfl (by kernel_rfl) (ah ?_ (ah ?_ (ah ?_ (ah ?_ (ah ?_ (ah ?_ (ah ?_ (ah ?_ (ah ?_ (ah ?_ (ah ?_ (ah ?_ (ah ?_ (ah ?_ (ah ?_ (ah ?_ (aF))))))))))))))))) (aF) rfl ?_
 ·refine aR ?_;intro ρ y W D G F E;have E0:ρ (.tmp 0) = .pointer (some ⟨b,0,none⟩):=(G (.tmp 0) rfl).trans rfl;refine ak (.pointer (some ⟨b,0,none⟩)) (run_move (.inl rfl) E0)
 ·refine aR ?_;intro ρ y W D G F E;have E3:ρ (.tmp 3) = .pointer (some ⟨J,0,none⟩):=(G (.tmp 3) rfl).trans rfl;refine ak (.pointer (some ⟨J,0,none⟩)) (run_move (.inl rfl) E3)
 ·refine aR ?_;intro ρ y W D G F E;have gb:=D 107 1 rfl;have h1:y 1=_:=E 1 rfl;refine ak (.pointer (some ⟨J,0,none⟩)) (by simp[execOp,go_sem,gb,h1])
 ·refine aR ?_;intro ρ y W D G F E;have k9:=D 108 2 rfl;have h2:y 2=_:=E 2 rfl;refine ak (.pointer (some ⟨J,5,none⟩)) (by simp[execOp,go_sem,k9,h2])
 ·refine aR ?_;intro ρ y W D G F E;have k8:=D 109 3 rfl;have Z:y 3=_:=E 3 rfl;refine ak (.int .i64 A.fi) (by simp[execOp,go_sem,k8,Z,(l.ext F).cell,kH])
 ·refine aR ?_;intro ρ y W D G F E;have E3:ρ (.tmp 3) = .pointer (some ⟨J,0,none⟩):=(G (.tmp 3) rfl).trans rfl;refine ak (.pointer (some ⟨J,0,none⟩)) (run_move (.inl rfl) E3)
 ·refine aR ?_;intro ρ y W D G F E;have k7:=D 111 5 rfl;have h5:y 5=_:=E 5 rfl;refine ak (.pointer (some ⟨J,0,none⟩)) (by simp[execOp,go_sem,k7,h5])
 ·refine aR ?_;intro ρ y W D G F E;have k3:=D 112 6 rfl;have h6:y 6=_:=E 6 rfl;refine ak (.pointer (some ⟨J,6,none⟩)) (by simp[execOp,go_sem,k3,h6])
 ·refine aR ?_;intro ρ y W D G F E;have k0:=D 113 7 rfl;have h7:y 7=_:=E 7 rfl;refine ak (.int .i64 A.ba) (by simp[execOp,go_sem,k0,h7,(l.ext F).cell,kH])
 ·refine aR ?_;intro ρ y W D G F E;have E2:ρ (.tmp 2) = .int .i64 n:=(G (.tmp 2) rfl).trans rfl;refine ak (.int .i64 n) (run_move (.inl rfl) E2)
 ·refine aR ?_;intro ρ y W D G F E;have kZ:=D 114 8 rfl;have Y:y 8=_:=E 8 rfl;have kY:=D 115 9 rfl;have h9:y 9=_:=E 9 rfl;refine ak (.int .i64 (A.ba+n)) (by simp[execOp,go_sem,kZ,Y,kY,h9,hr])
 ·refine aR ?_;intro ρ y W D G F E;have E3:ρ (.tmp 3) = .pointer (some ⟨J,0,none⟩):=(G (.tmp 3) rfl).trans rfl;refine ak (.pointer (some ⟨J,0,none⟩)) (run_move (.inl rfl) E3)
 ·refine aR ?_;intro ρ y W D G F E;have kW:=D 117 11 rfl;have kh:y 11=_:=E 11 rfl;refine ak (.pointer (some ⟨J,0,none⟩)) (by simp[execOp,go_sem,kW,kh])
 ·refine aR ?_;intro ρ y W D G F E;have kV:=D 118 12 rfl;have gn:y 12=_:=E 12 rfl;refine ak (.pointer (some ⟨J,0,none⟩)) (by simp[execOp,go_sem,kV,gn])
 ·refine aR ?_;intro ρ y W D G F E;have kU:=D 119 13 rfl;have gm:y 13=_:=E 13 rfl;refine ak (.int .i64 A.fr) (by simp[execOp,go_sem,kU,gm,(l.ext F).cell,kH])
 ·refine aR ?_;intro ρ y W D G F E;have kX:=D 116 10 rfl;have gp:y 10=_:=E 10 rfl;have kS:=D 120 14 rfl;have gl:y 14=_:=E 14 rfl;refine ak (.int .i64 (A.ba+n-A.fr)) (by simp[execOp,go_sem,kX,gp,kS,gl,ku])
 intro ρ y WA o ho D G hV ha a;cases ho;have kb:y 0=_:=a 0 (by decide);have kr:y 1=_:=a 1 (by decide);have kq:y 2=_:=a 2 (by decide);have kp:y 3=_:=a 3 (by decide);have ka:y 4=_:=a 4 (by decide);have ko:y 5=_:=a 5 (by decide);have kn:y 6=_:=a 6 (by decide);have hG:y 7=_:=a 7 (by decide);have hF:y 8=_:=a 8 (by decide);have hE:y 9=_:=a 9 (by decide);have hO:y 10=_:=a 10 (by decide);have i:y 11=_:=a 11 (by decide);have hj:y 12=_:=a 12 (by decide);have hN:y 13=_:=a 13 (by decide);have hM:y 14=_:=a 14 (by decide);have ht:y 15=_:=a 15 (by decide);have hZ:=D 106 0 rfl;rw[kb]at hZ;have hY:=D 110 4 rfl;rw[ka]at hY;have hX:=D 121 15 rfl;rw[ht]at hX;have EC:∀v,ρ (.const v)=v:=λv=>G (.const v) trivial;have EF:=eF0 G λ_=>trivial;refine Ty _ _ (aj) (aS rfl (EF _) func93 (by simp only[bU,bS,aZ,hZ,hY,hX,EC,EF];rfl)) ?_;refine(ND H e A.fi (A.ba+n-A.fr) B b _ (h2.below ha) kg.out hT.out).mono ?_;rintro r M ⟨rfl,C,N,O,S,U⟩;refine⟨_,rfl,?_⟩;clear a D G hV;simp only[lay,Nat.reduceAdd,Nat.reduceLT,Nat.reduceEqDiff,reduceIte,decide_true,decide_false,if_true,uA,if_false,zX,uT,uB,yL,AL,yZ,kb,kr,kq,kp,ka,ko,kn,hG,hF,hE,hO,i,hj,hN,hM,ht];clear kb kr kq kp ka ko kn hG hF hE hO i hj hN hM ht;have hi:=S.blk (h2.below ha) (l.ext ha) areaT;have L:=(s2.below ha).trans S;have z:C.sp.length=H.sp.length:=by have:=(Hz (k:=⟨H.ma,e⟩) kg.out gj.out hT.out).2.vis.sk.len;rw[<-U]at this;simp only[rX]at this;exact this
 have I:=ae U;have hv:p<C.sp.length:=by rw[z];exact hp
 clear U s2 S h2 hl l z hs d ha hr ku;generalize hK:(fB ⟨H.ma,e⟩ A.fi (A.ba+n-A.fr)).2=K
 by_cases h0:K<0
 ·have c:Hid (gW ⟨H.ma,e⟩ p n A=(⟨C.ma,N⟩,K)):=ae (by rw[R.out];simp only;rw[hK,if_pos h0,I.out,<-hK]);go_wp2;go_ret;rw[c.out];exact⟨rfl,_,_,O,L,rfl⟩
 have c:Hid (gW ⟨H.ma,e⟩ p n A=(fo (gH ⟨C.ma,N⟩ K 1) p n ⟨1,K,A.sh&&A.wr⟩,K)):=ae (by rw[R.out];simp only;rw[hK,if_neg h0,I.out]);clear hK R I
 go_wp2_with fail
 refine(xX C N K 1 B b _ O).mono ?_;rintro r w5 ⟨rfl,H5,e5,k5,s5,q5⟩;have hL:=s5.blk O hi areaT;have s05:=L.trans s5;have kB:H5.sp.length=C.sp.length:=by have:=(jZ.hold ⟨C.ma,N⟩ K 1).sp;rw[<-q5]at this;simp only[rX]at this;exact this
 have kA:p<H5.sp.length:=by rw[kB];exact hv
 rw[<-q5]at c;have c:=ae c.out;clear q5 s5 L O hi kB;have d:=hL.cell;unfold kH at d;cases hsh:A.sh with
 | false=>
  rw[hsh]at d c;rw[mf]at c
  go_wp2_with fail
  refine(jl H5 e5 n p ⟨1,K,_⟩ B b _ k5 kA).mono ?_;rintro r w9 ⟨rfl,hh⟩;go_wp2;go_ret;rw[c.out];exact⟨rfl,KR.trans s05 hh⟩
 | true=>
  rw[hsh]at d c;rw[lV]at c
  go_wp2_with fail
  refine(jl H5 e5 n p ⟨1,K,_⟩ B b _ k5 kA).mono ?_;rintro r w9 ⟨rfl,hh⟩;go_wp2;go_ret;rw[c.out];exact⟨rfl,KR.trans s05 hh⟩
theorem wN(H:MH)(w:World)(h:wI w H)(hz:Wd H.ma) :
  Calls Tryz.prog 25 #[.agg (dF H)] w λr w' => ∃H' : MH,r = .returned (.agg (dF H'))/\tT w' w.heap.size H'/\H'.ma=H.ma/\(∀p∈H'.fi,∀x,oB p.a=some x->oB H'.asl≠some x)/\Below w.heap.size w w':=by
 have z1:H.m.fs.length<=1000:=hz.fs;have z2:H.sl.length<=1000:=hz.sl;have z3:H.sw.blocks.length<=1000:=hz.swb;have z4:H.sw.queue.length<=1000:=hz.swq;have z5:H.dk.blocks.length<=1000:=hz.dkb;have z6:H.dk.queue.length<=1000:=hz.dkq;have z7:H.ca.length<=1000:=hz.ca;have z8:H.sp.length<=1000:=by have:=hz.sp.1;rw[rX]at this;exact this
 have zf:=hz.fsz;go_enter func25,ntmps25;go_upto_region 1 with(fail);refine tY (λW=>Code.wp _ _ _ _ W) λw1 s bx1 rx1 k0 => ?_;have ki:=h.below s;clear k0;refine kv 7 [_,_,.r 2 ((EO w1.heap.size H.m)),_,_,.r 5 ((nA w1.heap.size 3 1 H.sl.length (H.sl.map gF))),_] (λW=>Below w1.heap.size w1 W) dV (Below.refl _ _) (Yf dV w.heap.size 0 rfl rfl (Yr dV (.agg #[.slice H.af H.m.fs.length H.cf,.int .i64 H.m.hand]) (λρ y W A hy=>(bJ rfl (aH rfl hy) (bF (bx1.ext A) 0 2) underlying32)) rfl rfl (ah ?_ (Yf dV w.heap.size 2 rfl rfl (Yc dV (.slice H.asl H.sl.length H.csl) (λW A=>by simp[(bx1.ext A).cell,dF]) rfl rfl rfl rfl (ah ?_ (Yf dV w.heap.size 0 rfl rfl (aF)))))))) (λ_=>rfl) rfl ?_
 ·intro ρ y W D E A F;refine iW dV A ((EO w1.heap.size H.m)) (λ_ _ h=>h) ?_;have E7:=D 7 1 rfl;have h1:y 1=_:=F 1 rfl;have I:=eF0 E λ_=>trivial;refine aP (aS rfl (I _) func57 (by simp only[bU,bS,aZ,E7,h1,I];rfl)) ?_;refine(Av H.m _ _ W (ki.below A).fr).mono ?_;rintro r w3 ⟨u,rfl,J,s⟩;exact⟨_,rfl,s,u,rfl,J.mono A.size⟩
 ·intro ρ y W D E A F;refine iW dV A ((nA w1.heap.size 3 1 H.sl.length (H.sl.map gF))) (λ_ _ h=>h) ?_;have gp:=D 10 4 rfl;have h4:y 4=_:=F 4 rfl;have I:=eF0 E λ_=>trivial;refine aP (aS rfl (I _) func58 (by simp only[bU,bS,aZ,gp,h4,I];rfl)) ?_;have hs:=(ki.below A).sl;refine(xQ H.sl _ _ W hs.le hs.nl hs.rd (by omega)).mono ?_;rintro r w3 ⟨u,rfl,J,s⟩;exact⟨_,rfl,s,J.mono A.size⟩
 intro y w2 ha ka;replace ha:Below w1.heap.size w1 w2:=ha;have hF:((EO w1.heap.size H.m)).r (y 2) w2:=ka 2 (by decide);have hH:((nA w1.heap.size 3 1 H.sl.length (H.sl.map gF))).r (y 5) w2:=ka 5 (by decide);clear ka;simp only[dn,bW,bS,aZ];obtain⟨u1,kO,kw⟩:=hF;have kf:Own w2 w1.heap.size 3 1 (y 5) H.sl.length (H.sl.map gF):=hH;obtain⟨a1,c1,rfl,_⟩:=kw.rd;obtain⟨a2,c2,kr,_⟩:=Own.rd kf;rw[kr]at kf;rw[kO,kr];have bx2:=bx1.ext ha;have rx2:=rx1.ext ha;have h0:=ag s ha;have k4:=ki.below ha;have kK:=ae s.size;have gq:=rx2.lt;clear ha bx1 rx1 ki kO kr hH
 go_wp2_with (refine gD rfl _ _ _ rfl w.heap.size 0 #[.slice a1 H.m.fs.length c1,.int .i64 H.m.hand] rfl rfl _ _ bx2 (by show 0+2<=11;decide) mem_size (iR _ _ _ _) ?_)
 intro w3 bx3 hR;have ko:=ax kw bx2 hR;have kl:=ax kf bx2 hR;have hZ:=h0.grown hR h0.size (λk U=>by cases U;exact az _);have rx3:=rx2.grown hR (λe=>by have:=aM e;omega);have bx3' : aG w3 w.heap.size (dF { H with af:=a1,cf:=c1 }) 45:=bx3;clear kw kf bx2 rx2 k4 hR bx3 h0
 go_wp2_with (refine aC w.heap.size 2 [.slice a2 H.sl.length c2] rfl rfl rfl _ _ bx3' (by show 2+1<=11;decide) slots_size (λu hu=>by cases bC.1 hu;rfl) ?_)
 intro Z bx4 hQ;have kn:=ax ko bx3' hQ;have hN:=ax kl bx3' hQ;have hD:=hZ.grown hQ hZ.size (λk U=>by cases U;exact az _);have rx4:=rx3.grown hQ (λe=>by have:=aM e;omega);have O : aG Z w.heap.size (dF { H with af:=a1,cf:=c1,asl:=a2,csl:=c2 }) 45:=bx4;have kh:=h.below hD;clear ko kl bx3' rx3 hQ bx4 hZ;obtain⟨H4,gv⟩:∃H4:MH,Hid (H4 = { H with af:=a1,cf:=c1,asl:=a2,csl:=c2 }):=⟨_,ae rfl⟩;go_upto_region 2 with(fail);refine kv 10 [_,_,.r 2 ((zg Z.heap.size H.sw)),_,_,.r 5 ((zg Z.heap.size H.dk)),_,_,.r 8 ((MI Z.heap.size (cZ H.fi H.ct))),_] (λW=>Below Z.heap.size Z W) dV (Below.refl _ _) (Yf dV w.heap.size 3 rfl rfl (Yr dV (.agg #[.slice H.wb H.sw.blocks.length H.cwb,.slice H.wq H.sw.queue.length H.cwq]) (λρ y W A hy=>(bJ rfl (aH rfl hy) (bF (O.ext A) 3 2) underlying38)) rfl rfl (ah ?_ (Yf dV w.heap.size 5 rfl rfl (Yr dV (.agg #[.slice H.db H.dk.blocks.length H.cdb,.slice H.dq H.dk.queue.length H.cdq]) (λρ y W A hy=>(bJ rfl (aH rfl hy) (bF (O.ext A) 5 2) underlying38)) rfl rfl (ah ?_ (Yf dV w.heap.size 7 rfl rfl (Yr dV (.agg #[.slice H.ai H.fi.length H.ci,.int .i64 H.ct]) (λρ y W A hy=>(bJ rfl (aH rfl hy) (bF (O.ext A) 7 2) underlying41)) rfl rfl (ah ?_ (Yf dV w.heap.size 3 rfl rfl (aF))))))))))) (λ_=>rfl) rfl ?_
 ·intro ρ y W D E A F;refine iW dV A ((zg Z.heap.size H.sw)) (λ_ _ h=>h) ?_;have gn:=D 15 1 rfl;have h1:y 1=_:=F 1 rfl;have I:=eF0 E λ_=>trivial;refine aP (aS rfl (I _) func59 (by simp only[bU,bS,aZ,gn,h1,I];rfl)) ?_;refine(FV H.sw _ _ _ _ W (kh.below A).sw (by omega) (by omega)).mono ?_;rintro r w3 ⟨u,v,rfl,J,s⟩;exact⟨_,rfl,s,u,v,rfl,J.mono A.size⟩
 ·intro ρ y W D E A F;refine iW dV A ((zg Z.heap.size H.dk)) (λ_ _ h=>h) ?_;have gm:=D 18 4 rfl;have h4:y 4=_:=F 4 rfl;have I:=eF0 E λ_=>trivial;refine aP (aS rfl (I _) func59 (by simp only[bU,bS,aZ,gm,h4,I];rfl)) ?_;refine(FV H.dk _ _ _ _ W (kh.below A).dk (by omega) (by omega)).mono ?_;rintro r w3 ⟨u,v,rfl,J,s⟩;exact⟨_,rfl,s,u,v,rfl,J.mono A.size⟩
 ·intro ρ y W D E A F;refine iW dV A ((MI Z.heap.size (cZ H.fi H.ct))) (λ_ _ h=>h) ?_;have gl:=D 21 7 rfl;have h7:y 7=_:=F 7 rfl;have I:=eF0 E λ_=>trivial;refine aP (aS rfl (I _) func60 (by simp only[bU,bS,aZ,gl,h7,I];rfl)) ?_;refine(Lg H.fi H.ct _ _ W (kh.below A).st zf).mono ?_;rintro r w3 ⟨u,ps,rfl,J,he,s⟩;exact⟨_,rfl,s,u,ps,_,rfl,J.mono A.size,by unfold cZ;rw[he]⟩
 intro y w5 z hE;replace z:Below Z.heap.size Z w5:=z;have hF:((zg Z.heap.size H.sw)).r (y 2) w5:=hE 2 (by decide);have hH:((zg Z.heap.size H.dk)).r (y 5) w5:=hE 5 (by decide);have kD:((MI Z.heap.size (cZ H.fi H.ct))).r (y 8) w5:=hE 8 (by decide);clear hE;simp only[dn,bW,bS,aZ];obtain⟨ub,uq,kN,ke⟩:=hF;obtain⟨vb,vq,kM,kd⟩:=hH;obtain⟨us,ps,ks,kL,kc,kP⟩:=kD;have k5 : -9223372036854775808<=ks/\ks<=9223372036854775807:=by have e:ks=H.ct:=congrArg St.count kP;rw[e];exact h.c64
 obtain⟨ab,cb,rfl,_⟩:=ke.b.rd;obtain⟨aq,cq,rfl,_⟩:=ke.q.rd;obtain⟨db,eb,rfl,_⟩:=kd.b.rd;obtain⟨dq,eq,rfl,_⟩:=kd.q.rd;obtain⟨as_,cs,rfl,_⟩:=kc.rd;rw[kN,kM,kL];have k2:Hid (∀p∈ps,∀x,oB p.a=some x->oB a2≠some x):=ae (λp S x hx e=>by have h1:=(jf hN e).2.choose_spec.lt;obtain⟨i,hi,rfl⟩:=jJ.1 S;have h2:=(jf (kc.each i _ (aI hi)) hx).1;omega);have Y:=O.ext z;have rx5:=rx4.ext z;have hY:=ag hD z;have km:=kn.below z;have kk:=hN.below z;have hI:=ae hD.size;clear z O rx4 kh kN kM kL kn hN hD
 go_wp2_with (refine gD rfl _ _ _ rfl w.heap.size 3 #[.slice ab H.sw.blocks.length cb,.slice aq H.sw.queue.length cq] rfl rfl _ _ Y (by show 3+2<=11;decide) disk_size (xn _ _ _ _ _ _) ?_)
 intro w6 X hl;have hX:=hY.grown hl hY.size (λk U=>by cases U;exact az _);have rx6:=rx5.grown hl (λe=>by have:=aM e;omega);have p1:=ax km Y hl;have p2:=ax kk Y hl;have p3:=ke.keep Y (by decide) (by decide) hl;have p4:=kd.keep Y (by decide) (by decide) hl;have p5:=kc.keep Y (by decide) (by decide) hl;clear Y rx5 hl km kk ke kd kc hY
 go_wp2_with (refine gD rfl _ _ _ rfl w.heap.size 5 #[.slice db H.dk.blocks.length eb,.slice dq H.dk.queue.length eq] rfl rfl _ _ X (by show 5+2<=11;decide) disk_size (xn _ _ _ _ _ _) ?_)
 intro w7 V hj;have hW:=hX.grown hj hX.size (λk U=>by cases U;exact az _);have rx7:=rx6.grown hj (λe=>by have:=aM e;omega);have q1:=ax p1 X hj;have q2:=ax p2 X hj;have q3:=p3.keep X (by decide) (by decide) hj;have q4:=p4.keep X (by decide) (by decide) hj;have q5:=p5.keep X (by decide) (by decide) hj;clear X rx6 hj p1 p2 p3 p4 p5 hX
 go_wp2_with (refine gD rfl _ _ _ rfl w.heap.size 7 #[.slice as_ ps.length cs,.int .i64 ks] rfl rfl _ _ V (by show 7+2<=11;decide) store_size (vE _ _ _ _) ?_)
 intro w8 bx8 hh;have hC:=hW.grown hh hW.size (λk U=>by cases U;exact az _);have rx8:=rx7.grown hh (λe=>by have:=aM e;omega);have p1:=ax q1 V hh;have p2:=ax q2 V hh;have p3:=q3.keep V (by decide) (by decide) hh;have p4:=q4.keep V (by decide) (by decide) hh;have p5:=q5.keep V (by decide) (by decide) hh;obtain⟨H8,kB⟩:∃H8:MH,Hid (H8 = { H with af:=a1,cf:=c1,asl:=a2,csl:=c2,wb:=ab,cwb:=cb,wq:=aq,cwq:=cq,db:=db,cdb:=eb,dq:=dq,cdq:=eq,ai:=as_,ci:=cs,fi:=ps,ct:=ks }):=⟨_,ae rfl⟩;have bx8' : aG w8 w.heap.size (dF H8) 45:=by rw[kB.out];exact bx8
 have kg:=h.below hC;clear V rx7 hh bx8 q1 q2 q3 q4 q5 hW;have ky:w8.cell? ⟨w.heap.size,9,none⟩=some (.slice H.ac H.ca.length H.cc):=by rw[bx8'.cell,kB.out];rfl
 go_wp2_with fail
 refine(IA H.ca H.ac H.cc _ kg.ca.le kg.ca.nl kg.ca.rd (by omega)).mono ?_;rintro r w9 ⟨v9,rfl,ku,hf⟩;obtain⟨a6,c6,rfl,_⟩:=ku.rd;have N:=bx8'.ext hf;have rx9:=rx8.ext hf;have hU:=ag hC hf;have q1:=p1.below hf;have q2:=p2.below hf;have q3:=p3.below hf;have q4:=p4.below hf;have q5:=p5.below hf;have kY:=ae hC.size;clear ky bx8' rx8 kg p1 p2 p3 p4 p5 hf hC
 go_wp2_with (refine aC w.heap.size 9 [.slice a6 H.ca.length c6] rfl rfl rfl _ _ N (by show 9+1<=11;decide) caO_size (λu hu=>by cases bC.1 hu;rfl) ?_)
 intro w10 bx10 g;have ht:=hU.grown g hU.size (λk U=>by cases U;exact az _);have rx10:=rx9.grown g (λe=>by have:=aM e;omega);have p1:=(ax q1 N g).mono kK.out;have p2:=(ax q2 N g).mono kK.out;have p3:=(q3.keep N (by decide) (by decide) g).mono hI.out;have p4:=(q4.keep N (by decide) (by decide) g).mono hI.out;have p5:=(q5.keep N (by decide) (by decide) g).mono hI.out;have p6:=(ax ku N g).mono kY.out;obtain⟨G,hG⟩:∃G:MH,Hid (G = { H with af:=a1,cf:=c1,asl:=a2,csl:=c2,wb:=ab,cwb:=cb,wq:=aq,cwq:=cq,db:=db,cdb:=eb,dq:=dq,cdq:=eq,ai:=as_,ci:=cs,fi:=ps,ct:=ks,ac:=a6,cc:=c6 }):=⟨_,ae rfl⟩;have bxG:aG w10 w.heap.size (dF G) 45:=by rw[hG.out];rw[kB.out]at bx10;exact bx10
 clear N rx9 g bx10 q1 q2 q3 q4 q5 ku hU;have gr:Hid (G.ap=H.ap/\G.sp=H.sp/\G.cp=H.cp):=ae (by rw[hG.out];exact⟨rfl,rfl,rfl⟩);have ky:w10.cell? ⟨w.heap.size,10,none⟩=some (.slice H.ap H.sp.length H.cp):=by rw[bxG.cell,hG.out];rfl
 have kW:=h.below ht;have kV:Own w10 w.heap.size 76 10 (.slice none 0 0) ([]:List PS).length (([]:List PS).flatMap ug):=by simpa using Own.nil _ _ _ _
 go_upto_region 6 with(fail);clear ky kW
 go_loopw [3,33] (fun s3 i wr => ∃(q:Nat) (L:List PS) (av:Option Addr) (cv:Nat),q<=H.sp.length/\i = .int .i64 q/\s3 = .slice av L.length cv/\Below w.heap.size w wr/\aG wr w.heap.size (dF G) 45/\aG wr (w.heap.size+1) _ 45 /\
  Own wr w.heap.size 66 13 (.slice a1 H.m.fs.length c1) H.m.fs.length (H.m.fs.flatMap ni)/\Own wr w.heap.size 3 1 (.slice a2 H.sl.length c2) H.sl.length (H.sl.map gF)/\mZ wr w.heap.size (.slice ab H.sw.blocks.length cb) (.slice aq H.sw.queue.length cq) H.sw/\mZ wr w.heap.size (.slice db H.dk.blocks.length eb) (.slice dq H.dk.queue.length eq) H.dk /\
  rC wr w.heap.size (.slice as_ ps.length cs) ps/\Own wr w.heap.size 122 3 (.slice a6 H.ca.length c6) H.ca.length (H.ca.flatMap iL)/\Own wr w.heap.size 76 10 (.slice av L.length cv) L.length (L.flatMap ug)/\(∀p∈L,wS wr w.heap.size p p.sp/\Gq p.tb)/\Hid (L.map PS.sp=(H.sp.take q).map PS.sp)) (λ_ i _=>H.sp.length-(intOf i).toNat)
 case atStart=>exact⟨0,[],none,0,bq _,rfl,rfl,ht,bxG,rx10,p1,p2,p3,p4,p5,p6,kV,λp S=>(by simp at S),ae rfl⟩
 case round=>
  clear ht bxG rx10 p1 p2 p3 p4 p5 p6 kV;obtain⟨q,L,av,cv,hq,rfl,rfl,hv,bx,rx,p1,p2,p3,p4,p5,p6,J,hL,kb⟩:=hrel;have gu:L.length<=q:=by have:=congrArg List.length kb.out;rw[eQ,eQ,iQ]at this;omega
  by_cases hql2:q<H.sp.length
  ·obtain⟨bs,os,P,k7,hP,kQ⟩:=qN (h.below hv).sp.rd q hql2;have hr:=qF (h.below hv) hP;have k8:=bP hP;obtain⟨gs,kC⟩:=hz.spz k8;have k1:(q:Int)<(H.sp.length:Int):=by omega
   have kS:Hid (L.map PS.sp++[P.sp]=(H.sp.take (q+1)).map PS.sp):=ae (by rw[take_at hP,jM,kb.out];rfl);rw[k7];have kj:(ze P).all (·.oneCell')=true:=by rw[<-mD,fD];exact hr.one
   go_wp2_with (first | (refine ay bs (os+q*10) _ kQ _ underlying76 rfl space_size ?_) | (refine aJ rfl rfl (ze P) rfl rfl rfl space_size kj ?_))
   intro C l fx;have hc:=ag hv l;have d:=hr.below l;have R:=bx.ext l;have M:=rx.ext l;have q1:=p1.below l;have q2:=p2.below l;have q3:=p3.below l;have q4:=p4.below l;have q5:=p5.below l;have q6:=p6.below l;have hO:=J.below l;have hm:∀p∈L,wS C w.heap.size p p.sp/\Gq p.tb:=λp S=>⟨(hL p S).1.below l,(hL p S).2⟩;have kx:=ae hc.size;clear hv hr bx rx p1 p2 p3 p4 p5 p6 J hL l kQ kj hP;go_upto_region 8 with(fail);refine Vn 0 3 (.slice av L.length cv) (by kernel_rfl) (by kernel_rfl) rfl λops0 hM => ?_;simp only[freedL,CS]at hM;subst hM;refine Iw 11 12 [] [mW (.slice av L.length cv),mW (.pointer (some ⟨wr.heap.size,0,none⟩)),mW (.bool P.lv),mW (.pointer (some ⟨wr.heap.size,1,none⟩)),mW (.slice P.aa P.ar.length P.ac),(nA C.heap.size 94 7 P.ar.length (P.ar.flatMap mV)),mW (.pointer (some ⟨wr.heap.size,2,none⟩)),mW (.agg (nT P.ts)),(KA C.heap.size P.tb),(WH C.heap.size P.sp),(XF C.heap.size P.sp)] (by kernel_rfl) (by kernel_rfl) (by kernel_rfl) (by kernel_rfl) (by kernel_rfl) (by decide) (Nat.le_of_ble_eq_true (by kernel_rfl)) _ rfl (by kernel_rfl) (ah ?_ (ah ?_ (ah ?_ (ah ?_ (ah ?_ (ah ?_ (ah ?_ (ah ?_ (ah ?_ (ah ?_ (ah ?_ (aF)))))))))))) (aF) rfl ?_
   ·refine aR ?_;intro ρ y W D E A F;refine ak (.slice av L.length cv) (run_move (.inl rfl) (E (.const _) trivial))
   ·refine aR ?_;intro ρ y W D E A F;have E5:ρ (.tmp 5) = .pointer (some ⟨wr.heap.size,0,none⟩):=(E (.tmp 5) rfl).trans rfl;refine ak (.pointer (some ⟨wr.heap.size,0,none⟩)) (by simp[execOp,go_sem,E5])
   ·refine aR ?_;intro ρ y W D E A F;have gk:=D 38 1 rfl;have h1:y 1=_:=F 1 rfl;refine ak (.bool P.lv) (by simp[execOp,go_sem,gk,h1,(fx.ext A).cell,ze])
   ·refine aR ?_;intro ρ y W D E A F;have E5:ρ (.tmp 5) = .pointer (some ⟨wr.heap.size,0,none⟩):=(E (.tmp 5) rfl).trans rfl;refine ak (.pointer (some ⟨wr.heap.size,1,none⟩)) (by simp[execOp,go_sem,E5])
   ·refine aR ?_;intro ρ y W D E A F;have gi:=D 40 3 rfl;have h3:y 3=_:=F 3 rfl;refine ak (.slice P.aa P.ar.length P.ac) (by simp[execOp,go_sem,gi,h3,(fx.ext A).cell,ze])
   ·refine aR ?_;intro ρ y W D E A F;have gh:=D 41 4 rfl;have h4:y 4=_:=F 4 rfl;have I:=eF0 E λ_=>trivial;refine aP (aS rfl (I _) func62 (by simp only[bU,bS,aZ,gh,h4,I];rfl)) ?_;have hA:=(d.below A).ars;refine(LP P.ar P.aa P.ac W hA.le hA.nl hA.rd (by omega)).mono ?_;rintro e w1 ⟨u,rfl,J,s⟩;exact⟨u,rfl,s,J.mono A.size⟩
   ·refine aR ?_;intro ρ y W D E A F;have E5:ρ (.tmp 5) = .pointer (some ⟨wr.heap.size,0,none⟩):=(E (.tmp 5) rfl).trans rfl;refine ak (.pointer (some ⟨wr.heap.size,2,none⟩)) (by simp[execOp,go_sem,E5])
   ·refine aR ?_;intro ρ y W D E A F;have gf:=D 43 6 rfl;have h6:y 6=_:=F 6 rfl;refine ak (.agg (nT P.ts)) (bJ rfl (gf.trans h6) (bF (fx.ext A) 2 8) underlying74 (C:=tab_agg) (A:=tab_size))
   ·refine aR ?_;intro ρ y W D E A F;have gd:=D 44 7 rfl;have h7:y 7=_:=F 7 rfl;have I:=eF0 E λ_=>trivial;refine aP (aS rfl (I _) func63 (by simp only[bU,bS,aZ,gd,h7,I];rfl)) ?_;refine(Le P.tb (nT P.ts) W (d.below A).tb kC).mono ?_;rintro e w1 ⟨u,rfl,J,s⟩;exact⟨_,rfl,s,u,rfl,J.mono A.size⟩
   ·refine aR ?_;intro ρ y W D E A F;have gj:=D 39 2 rfl;have h2:y 2=_:=F 2 rfl;have gg:=D 42 5 rfl;have h5:((nA C.heap.size 94 7 P.ar.length (P.ar.flatMap mV))).r (y 5) W:=F 5 rfl;have gc:=D 45 8 rfl;have h8:((KA C.heap.size P.tb)).r (y 8) W:=F 8 rfl;obtain⟨x5,c5,e5,_⟩:=Own.rd h5;obtain⟨cs8,e8,kU⟩:=h8;obtain⟨v8,rfl⟩:=SI kU.sz;have k9:Own W C.heap.size 94 7 (.slice x5 P.ar.length c5) P.ar.length (P.ar.flatMap mV):=by rw[<-e5];exact h5
    refine ak (.agg (ze ⟨P.lv,x5,c5,P.ar,v8,P.tb⟩)) (by simp[execOp,go_sem,gj.trans h2,gg,e5,gc,e8,nT,ze]) (m:=?_);exact⟨⟨P.lv,x5,c5,P.ar,v8,P.tb⟩,rfl,rfl,k9,kU⟩
   ·refine aR ?_;intro ρ y W D E A F;have gb:=D 46 9 rfl;have h9:((WH C.heap.size P.sp)).r (y 9) W:=F 9 rfl;obtain⟨p9,e9,k6⟩:=h9;refine jg (.slice (some ⟨W.heap.size,0,none⟩) 1 1) (aj) (by simp[execOp,go_sem,gb,e9,ze]) ((Below.refl _ _).alloc (az _) (.cells (ze p9) 76)) ?_;exact⟨_,p9,rfl,eu.new _ _ _,k6.below ((Below.refl _ _).alloc (az _) _)⟩
   intro ρ y WA o J D E hV j n;cases J;have kq:y 0=_:=n 0 (by decide);have kJ:y 1=_:=n 1 (by decide);have hF:y 2=_:=n 2 (by decide);have kH:y 3=_:=n 3 (by decide);have kG:y 4=_:=n 4 (by decide);have hH:((nA C.heap.size 94 7 P.ar.length (P.ar.flatMap mV))).r (y 5) WA:=n 5 (by decide);have kF:y 6=_:=n 6 (by decide);have kE:y 7=_:=n 7 (by decide);have kD:((KA C.heap.size P.tb)).r (y 8) WA:=n 8 (by decide);have gt:((WH C.heap.size P.sp)).r (y 9) WA:=n 9 (by decide);have kI:((XF C.heap.size P.sp)).r (y 10) WA:=n 10 (by decide);have kX:=D 37 0 rfl;rw[kq]at kX;have ga:=D 47 10 rfl;have EC:∀v,ρ (.const v)=v:=λv=>E (.const v) trivial;have I:=eF0 E λ_=>trivial;obtain⟨g10,p10,e10,hJ,g⟩:=kI;refine Jc (aj) (qB (.tmp 37) (.tmp 47) 43 rfl w.heap.size 76 _ 10 224 underlying43 space_info rfl _ _ _ kX (hO.below j) _ 1 1 (ug p10) (ga.trans e10) (λe=>by cases e) (az _) rfl hJ (TN g) (by unfold maxLen;omega) (bi kx.out j.size)) ?_;rintro v2 w13 ⟨hB,c,hS⟩;clear n D E hV;simp only[lay,Nat.reduceAdd,Nat.reduceLT,Nat.reduceEqDiff,reduceIte,decide_true,decide_false,if_true,uA,if_false,zX,uT,uB,yL,AL,yZ,kq,kJ,hF,kH,kG,kF,kE];clear kq kJ hF kH kG kF kE;have t:=hO.below j;have hT:=ag hc j;have kz:Below w.heap.size w w13:=hT.grown c hT.size (λk U=>t.ge k U);have hg : Own w13 w.heap.size 76 10 v2 (L++[p10]).length ((L++[p10]).flatMap ug):=by rw[jq,fM];simpa using hB
   obtain⟨a13,c13,rfl,_⟩:=hg.rd;have r1:=jA t c (q1.below j);have r2:=jA t c (q2.below j);have r3:mZ w13 w.heap.size _ _ H.sw:=⟨jA t c (q3.below j).b,jA t c (q3.below j).q⟩;have r4:mZ w13 w.heap.size _ _ H.dk:=⟨jA t c (q4.below j).b,jA t c (q4.below j).q⟩;have r5:=Vu t c (q5.below j);have r6:=jA t c (q6.below j);have bx13:=Bp t c (R.ext j);have rx13:=Bp t c (M.ext j);have kt:∀p∈L++[p10],wS w13 w.heap.size p p.sp/\Gq p.tb:=λp S=>by
    rcases gV.1 S with S|S
    ·have h1:=(hm p S).1.below j;exact⟨⟨rfl,jA t c h1.2.1,Ei t c h1.2.2⟩,(hm p S).2⟩
    rw[bC.1 S];refine⟨⟨rfl,(jA t c g.2.1).mono kx.out,(Ei t c g.2.2).mono kx.out⟩,?_⟩;have e:p10.tb=P.tb:=congrArg Sp.tb g.1;rw[e];exact kC
   have kR:Hid ((L++[p10]).map PS.sp=(H.sp.take (q+1)).map PS.sp):=ae (by rw[jM,<-kS.out,<-g.1];rfl);clear hO t hT j hB c hS g hJ fx d R M q1 q2 q3 q4 q5 q6 hm;go_wp2;go_roundw
   case rel=>exact⟨q+1,_,_,_,by omega,by go_num,rfl,kz,bx13,rx13,r1,r2,r3,r4,r5,r6,hg,kt,kR⟩
   case measure=>simp[intOf];omega
  have k1:¬(q:Int)<(H.sp.length:Int):=by omega
  rw[jD (by omega)]at kb
  go_wp2_with (refine aC w.heap.size 10 [.slice av L.length cv] rfl rfl rfl _ _ bx (by show 10+1<=11;decide) slsp_size (λu hu=>by cases bC.1 hu;rfl) ?_)
  intro C R d;have hc:=hv.grown d hv.size (λk U=>by cases U;exact az _);have M:=rx.grown d (λe=>by have:=aM e;omega);obtain⟨K,hK⟩:∃K:MH,Hid (K = { G with ap:=av,cp:=cv,sp:=L }):=⟨_,ae rfl⟩;have bxK:aG C w.heap.size (dF K) 45:=by rw[hK.out];exact R
  have kT:tT C w.heap.size K:=by rw[hK.out,hG.out];exact⟨ax p1 bx d,ax p2 bx d,p3.keep bx (by decide) (by decide) d,p4.keep bx (by decide) (by decide) d,p5.keep bx (by decide) (by decide) d,ax p6 bx d,ax J bx d,λp S=>⟨ax (hL p S).1.2.1 bx d,(hL p S).1.2.2.keep bx (by decide) d⟩,k5⟩
  have k3:K.ma=H.ma:=by rw[hK.out,hG.out];unfold MH.ma;simp only;rw[kb.out,kP]
  have kZ:∀p∈K.fi,∀x,oB p.a=some x->oB K.asl≠some x:=by rw[hK.out,hG.out];exact k2.out
  clear hv bx rx d R p1 p2 p3 p4 p5 p6 J
  go_wp2_with (first | (refine ay w.heap.size 0 (dF K).toList bxK.rd _ underlying45 rfl mach_size ?_) | (refine aA rfl _ _ rfl (w.heap.size+1) (dF K) rfl rfl M rfl mach_size (jc K) ?_))
  intro w12 rx12 kp;have kA:=hc.grown kp hc.size oG0;go_wp2;refine bodyPost_ret (v:=.agg (dF K)) (fw results25 (w.heap.size+1) rx12 underlying45 mach_size) rfl ?_;exact⟨K,rfl,kT.keep M (by decide) kp,k3,kZ,kA⟩
theorem UM(H:MH)(p:Nat)(P:PS):MH.ma { H with sp:=H.sp.set p P }=Uo H.ma p P.sp:=by
 unfold Uo MH.ma;simp only[AB]
theorem Ao(h:Below B w w1)(k:Below B w1 w2):Below B w w2:=
 ⟨k.os.trans h.os,k.tape.trans h.tape,k.output.trans h.output,bi h.size k.size,λi d=>(k.block i d).trans (h.block i d)⟩
theorem machT:45≠109/\45≠66/\45≠122/\45≠76:=by decide
def Rp(H:MH)(p:Int):Prop:=p<0\/(H.sp.length:Int)<=p\/(dI H.ma p.toNat).lv=false
def zC(l:List Fr):Nat:=l.countP λf=>decide (f.r=0)
theorem Vf(h:i<m.m.fs.length):aB m i=m.m.fs[i]:=by unfold aB;rw[aW,aI h];rfl
def Ym(H:MH)(p:Nat)(n:Int)(wr:Bool)(w:World)(r:Ending)(w' : World):Prop:=
 Below w.heap.size w w'/\((wY H.ma p n wr≠0/\r = .returned (.tuple #[.agg (dF noH),.int .i64 0,.int .i64 (wY H.ma p n wr)])) \/
  (wY H.ma p n wr=0/\∃H' : MH,r = .returned (.tuple #[.agg (dF H'),.int .i64 (Ki H.ma p n wr),.int .i64 0])/\tT w' w.heap.size H'/\H'.ma=La H.ma p n wr))
def UN(m:Ma):Prop:=∀p,∀a∈(dI m p).ar,a.fi<m.st.fs.length
theorem UN.at(h:UN m)(u:0<=ik (dI m p).ar n):(kT m p n).fi<m.st.fs.length:=by
 obtain⟨k,d,a,_⟩:=Ed (q:=pU n) (l:=(dI m p).ar) u;have b : ik (dI m p).ar n=k:=d;unfold kT;rw[b,bv,aW,aI a];exact h p _ (fe a)
theorem Sz(h:Rt m){w:Bool}(u:p<m.sp.length)(d:(dI m p).lv=true):wY m p n w=if pV m p n w≠0 then pV m p n w
  else if 0<=(kT m p n).fi/\copied m p n=false/\qx m.st (kT m p n).fi ((kT m p n).ba+n-(kT m p n).fr)=true then 9
  else if(nL m p n w).2<0 then 10 else(nL m p n w).1.e:=by
 unfold wY;rw[if_neg (by rw[IR.2 h];simp),if_neg (by rw[bv,d];simp;omega),bv]
theorem XH(E:En)(W:World):(Instr.field 68 (.agg #[.int .i64 E.k,.int .i64 E.n,.bool E.w]) 2).run Tryz.prog W = .ok (.bool E.w) W:=by
 simp[Instr.field,go_sem];rfl
theorem Sk(H:MH)(p:Nat)(n:Int)(wr:Bool)(w:World)(h:wI w H)(hR:Rt H.ma)(hC:Co H.ma)(hF:UN H.ma)(hp:p<H.sp.length)(hv:(dI H.ma p).lv=true) :
  Calls Tryz.prog 19 #[.agg (dF H),.int .i64 p,.int .i64 n,.bool wr] w (Ym H p n wr w):=by
 have kU:p<H.ma.sp.length:=by rw[rX];exact hp
 have hu:=ae (Sz (n:=n) (w:=wr) hR kU hv);have gX:=ae hF;have gM:=ae hv;clear hF hv;have o:=ae hR;have k3:=ae hC;have gc:=ae (nX hR);clear hR hC;go_enter func19,ntmps19;go_upto_region 1 with(fail);refine tY (λW=>Code.wp _ _ _ _ W) λw1 kx bx1 rx1 gP => ?_;have bx1:aG w1 w.heap.size (dF H) 45:=bx1;have rx1:aG w1 (w.heap.size+1) (dF noH) 45:=rx1;have G:=h.below kx;clear h
 go_wp2_with (refine ay w.heap.size 0 _ bx1.rd _ underlying45 rfl machine_size ?_)
 refine(zl H _ G).mono ?_;rintro r w2 ⟨rfl,ka⟩;rw[IR.2 o.out];have h2:=G.below ka;have bx2:=bx1.ext ka;have rx2:=rx1.ext ka;have ko:=ag kx ka;clear G bx1 rx1 kx ka gP;obtain⟨Q,hQ⟩:∃Q,H.sp[p]?=some Q:=⟨_,aI hp⟩;have kS:=ae (qa hQ);have g3:(p:Int)<(H.sp.length:Int):=by omega
 have g5:decide ((p:Int)<0)=false:=decide_eq_false (by omega);have g4:decide ((H.sp.length:Int)<=(p:Int))=false:=decide_eq_false (by omega);have L:=bx2.cell;unfold dF at L;obtain⟨gs,os,Q',ks,kt,ha⟩:=qN h2.sp.rd p hp;rw[hQ]at kt;cases kt;rw[ks]at L;have gT:w2.cell? ⟨gs,os+p*10,none⟩=some (.bool true):=by
  obtain⟨b',o',e',kw⟩:=ha 0 _ rfl;cases e';have:Q.lv=true:=by have:=gM.out;rw[kS.out]at this;exact this
  rw[this]at kw;exact kw
 go_wp2_with (refine ay w.heap.size 0 _ bx2.rd _ underlying45 rfl machine_size ?_)
 refine(wN H _ h2 gc.out).mono ?_;rintro r w3 ⟨C,rfl,gl,hN,_,hJ⟩;have hr:=ae hN;have gL:Hid (Wd C.ma):=ae (by rw[hN];exact gc.out);have rx3:=rx2.ext hJ;have bx3:=bx2.ext hJ;have h3:=h2.below hJ;have kn:=ag ko hJ;have gk:p<C.sp.length:=by rw[IC (show C.ma.sp.length=H.ma.sp.length by rw[hN])];exact hp
 clear bx2 rx2 h2 hN L gT ha ks;unfold dF;go_upto_region 7 with(fail);refine iC (λW=>Code.wp _ _ _ _ W) λw4 h9 kx4 gO => ?_;have k4:lD w4 w.heap.size w3.heap.size C 0:=⟨kx4,kn.size,(gl.mono ko.size).below h9,λq hq=>(Wd.spz (H:=C) gL.out hq).2⟩;have rx4:=rx3.ext h9;have bx4:=bx3.ext h9;have h4:=h3.below h9;have kI:=ag kn h9;clear hJ h9 gl ko kx4 gO rx3 bx3 h3 kn;generalize w3.heap.size=b at k4
 go_wp2_with fail
 refine(UA C 0 n p wr _ b _ k4 gk).mono ?_;rintro r w5 ⟨rfl,hZ⟩;rw[hr.out];have k5:=k4.below hZ;have rx5:=rx4.ext hZ;have bx5:=bx4.ext hZ;have h5:=h4.below hZ;have kG:=ag kI hZ;clear k4 rx4 bx4 h4 hZ kI
 go_wp2_with (refine aJ rfl rfl (kH (Gm H.ma p n wr)) rfl rfl rfl kM (xH _) ?_)
 intro w6 hY ax6;have k6:=k5.below hY;have rx6:=rx5.ext hY;have bx6:=bx5.ext hY;have h6:=h5.below hY;have hV:=ag kG hY;clear k5 rx5 bx5 h5 hY kG;generalize w5.heap.size=ga at *
 by_cases h0:pV H.ma p n wr≠0
 ·have hl:Hid (wY H.ma p n wr=pV H.ma p n wr):=ae (by rw[hu.out];exact if_pos h0);generalize hE:pV H.ma p n wr=E at *
  clear k6 bx6 h6 ax6 hu
  go_wp2_with (refine aA rfl _ _ rfl (w.heap.size+1) (dF noH) rfl rfl rx6 rfl mach_size (jc noH) ?_)
  intro we kb a;have c:=hV.grown a hV.size oG0;go_wp2;refine bodyPost_ret (v:=.tuple #[.agg (dF noH),.int .i64 0,.int .i64 E]) (cz results19 (w.heap.size+1) kb underlying45 mach_size) rfl ?_;exact⟨c,.inl ⟨by rw[hl.out];exact h0,by rw[hl.out]⟩⟩
 replace h0:=ru.1 h0;have gI:Gm H.ma p n wr=kT H.ma p n:=by unfold Gm;rw[h0];exact if_neg (by simp)
 rw[gI]at ax6;rw[h0];have kg:0<=ik (dI H.ma p).ar n:=by
  by_cases e:ik (dI H.ma p).ar n<0
  ·unfold pV at h0;rw[if_pos e]at h0;cases h0
  ·omega
 have hW:Hid (wY H.ma p n wr=if 0<=(kT H.ma p n).fi/\copied H.ma p n=false/\qx H.ma.st (kT H.ma p n).fi ((kT H.ma p n).ba+n-(kT H.ma p n).fr)=true then 9 else if(nL H.ma p n wr).2<0 then 10 else(nL H.ma p n wr).1.e):=ae (by rw[hu.out,if_neg (by rw[h0];simp)]);obtain⟨g,hg⟩:∃g,fI H.ma p n=some g:=by
  have:=(yI _ _).1 kg;unfold fI;cases e:onA (dI H.ma p).ar n with
  | none=>rw[e]at this;simp at this
  | some g=>exact⟨g,rfl⟩
 have kv:=ae hg;have ki:=ae (gX.out.at kg);have kj:=ae (RP o.out.pt p n);have gS:=ae (o.out.pt.pg hg);have gD:=ae (Cu hg);have gn:=ae ((Jo (w:=wr) hg).1 h0);have hs:Hid (copied H.ma p n=(decide ((dM Q.tb n).k=2)||(decide ((dM Q.tb n).k=1)&&decide ((jw H.ma (dM Q.tb n).n).f<0)))):=ae (by unfold copied ent;rw[kS.out];rfl);clear gI h0 kg hg hu;have L:=bx6.cell;unfold dF at L;obtain⟨gs,os,Q',ks,kt,ha⟩:=qN h6.sp.rd p hp;rw[hQ]at kt;cases kt;rw[ks]at L;have kf:=qF h6 hQ
 go_wp2_with (refine ay gs (os+p*10+2) _ (nJ ha 2 8) _ underlying74 tab_agg tab_size ?_)
 refine(xG Q.tb (nT Q.ts) n _ kf.tb).mono ?_;rintro r w7 ⟨rfl,hI⟩;have a:Hid (ent H.ma p n=dM Q.tb n):=ae (by unfold ent;rw[kS.out];rfl);generalize hx:dM Q.tb n=x at *
 have k7:=k6.below hI;have rx7:=rx6.ext hI;have bx7:=bx6.ext hI;have ax7:=ax6.ext hI;have h7:=h6.below hI;have kF:=ag hV hI;clear k6 rx6 bx6 ax6 h6 hI hV L ha ks kf hx
 go_wp2_with (refine aJ rfl rfl (jm x) rfl rfl rfl entry_size (by simp[jm,Value.oneCell']) ?_)
 intro w8 hH ex8;have k8:=k7.below hH;have rx8:=rx7.ext hH;have bx8:=bx7.ext hH;have ax8:=ax7.ext hH;have h8:=h7.below hH;have kE:=ag kF hH;clear k7 rx7 bx7 ax7 h7 hH kF;generalize w7.heap.size=gx at ex8;go_upto_region 11 with(fail)
 go_cut [16] (fun s16 wx=>s16 = .bool (copied H.ma p n)/\Below w8.heap.size w8 wx)
 case first=>
  have kY:=ex8.cell;unfold jm at kY
  by_cases c2:x.k=2
  ·have hG:Hid (copied H.ma p n=true):=ae (by rw[hs.out,decide_eq_true c2];rfl);rw[c2]at kY;go_wp2;go_meet
   case rel=>exact⟨by rw[hG.out],Below.refl _ _⟩
  by_cases O:x.k=1
  ·obtain⟨f,Z,hf,_⟩:=fU o.out (show(ent H.ma p n).k=1 by rw[a.out];exact O);rw[a.out]at Z;obtain⟨gf,of,hz,gQ⟩:=jO eX h8.fr.rd f (show f<H.m.fs.length from hf);have g7:w8.cell? ⟨gf,of+f*13+11,none⟩=some (.int .i64 (H.m.fs[f]'hf).f):=by obtain⟨b',o',e',kw⟩:=gQ 11 _ rfl;cases e';exact kw
   have gr:Hid (jw H.ma x.n=H.m.fs[f]'hf):=ae (by rw[Z];exact Vf (m:=H.ma) hf);have gt:(f:Int)<(H.m.fs.length:Int):=by have:f<H.m.fs.length:=hf;omega
   generalize H.m.fs[f]'hf=X at *
   have L:=bx8.cell;unfold dF at L;rw[hz]at L;clear hz;rw[O,Z]at kY
   by_cases c3:X.f<0
   ·have hG:Hid (copied H.ma p n=true):=ae (by rw[hs.out,gr.out,decide_eq_true O,decide_eq_true c3,decide_eq_false c2];rfl);go_wp2;go_meet
    case rel=>exact⟨by rw[hG.out],Below.refl _ _⟩
   have hG:Hid (copied H.ma p n=false):=ae (by rw[hs.out,gr.out,decide_eq_true O,decide_eq_false c3,decide_eq_false c2];rfl);go_wp2;go_meet
   case rel=>exact⟨by rw[hG.out],Below.refl _ _⟩
  have hG:Hid (copied H.ma p n=false):=ae (by rw[hs.out,decide_eq_false O,decide_eq_false c2];rfl);have ka:(x.k==2)=false:=by simp[c2]
  have kx:(x.k==1)=false:=by simp[O]
  go_wp2;go_meet
  case rel=>exact⟨by rw[hG.out],Below.refl _ _⟩
 case rest=>
  obtain⟨rfl,kr⟩:=hcut;have k9:=k8.below kr;have rx9:=rx8.ext kr;have R:=ax8.ext kr;have kD:=ag kE kr;clear k8 rx8 bx8 ax8 h8 kr kE ex8 hs;obtain⟨A,hA⟩:∃A,Hid (A=kT H.ma p n):=⟨_,ae rfl⟩;rw[<-hA.out]at R hW ki kj gD;have gu:=kj.out;have gm:=gS.out;unfold vo at gu;have ge:IntKind.i64.wrap (A.ba+n)=A.ba+n:=bK _ (by omega);have gd:IntKind.i64.wrap (A.ba+n-A.fr)=A.ba+n-A.fr:=bK _ (by omega);clear gu gm;obtain⟨cp,hs⟩:∃cp,Hid (cp=copied H.ma p n):=⟨_,ae rfl⟩;rw[<-hs.out]at hW ⊢;obtain⟨hM,z⟩:∃hM:Bool,Hid (hM=(decide (0<=A.fi)&&!cp&&qx H.ma.st A.fi (A.ba+n-A.fr))):=⟨_,ae rfl⟩;go_upto_region 12 with(fail)
  go_cut [109] (fun s109 wx=>s109 = .bool hM/\Below wc.heap.size wc wx)
  case first=>
   have hX:=R.cell;unfold kH at hX
   by_cases O:0<=A.fi
   ·cases cp with
    | true=>
     have hD:decide (0<=A.fi)=true:=decide_eq_true O;have hE:Hid (hM=false):=ae (by rw[z.out,hD];rfl);go_quiet (fail);go_wp2;go_meet
     case rel=>exact⟨by rw[hE.out],below_drewN (Below.refl _ _) _⟩
    | false=>
     have kR:Hid (cZ C.fi C.ct=H.ma.st):=ae (congrArg Ma.st hr.out);have hE:Hid (hM=qx (cZ C.fi C.ct) A.fi (A.ba+n-A.fr)):=ae (by rw[z.out,kR.out,decide_eq_true O];rfl);have gt:A.fi<(C.fi.length:Int):=by have G:=ki.out;rw[<-kR.out]at G;have Z:(cZ C.fi C.ct).fs.length=C.fi.length:=eQ _;rw[Z]at G;exact G
     have gN:(aN (cZ C.fi C.ct) A.fi).n<=9223372036854775807:=by have G:=(wP o.out.pt.st (f:=A.fi) ⟨O,by have:=ki.out;omega⟩).2.1;rw[<-kR.out]at G;have h2:(aN (cZ C.fi C.ct) A.fi).n<=96:=G;omega
     refine aO 24 [_,_,_,_,_,_,_,_,_,_,_,_,_,_,_,_,_,_,_,_,_,_,.v (.bool (qx (cZ C.fi C.ct) A.fi (A.ba+n-A.fr))),.v (.bool (qx (cZ C.fi C.ct) A.fi (A.ba+n-A.fr)))] (Gf ga 5 rfl rfl (Gl R (V:=.int .i64 A.fi) (by simp[kH]) rfl rfl rfl rfl (Gb (.bool true) (by simp[go_sem,O]) rfl rfl rfl rfl rfl (Gk rfl (Gk rfl (Gk rfl (Gk rfl (Gk rfl (Gk rfl (Gk rfl (Gf b 0 rfl rfl (Gf b 7 rfl rfl (Gr (.agg #[.slice C.ai C.fi.length C.ci,.int .i64 C.ct]) (λρ y W hb gV=>(bJ rfl (aH rfl gV) (k9.below hb).rdS underlying41 (A:=store_size))) rfl rfl (Gf ga 5 rfl rfl (Gl R (V:=.int .i64 A.fi) (by simp[kH]) rfl rfl rfl rfl (Gf ga 6 rfl rfl (Gl R (V:=.int .i64 A.ba) (by simp[kH]) rfl rfl rfl rfl (Gk rfl (Gb (.int .i64 (A.ba+n)) (by simp[go_sem,ge]) rfl rfl rfl rfl rfl (Gf ga 0 rfl rfl (Gl R (V:=.int .i64 A.fr) (by simp[kH]) rfl rfl rfl rfl (Gb (.int .i64 (A.ba+n-A.fr)) (by simp[go_sem,gd]) rfl rfl rfl rfl rfl (ah ?_ (Gk rfl (aF))))))))))))))))))))))))) (λ_=>rfl) rfl ?_
     ·intro ρ y W hw hn hb hd;have g1:=hw 98 12 rfl;have g0:y 12=_:=hd 12 rfl;have gK:=hw 100 14 rfl;have gZ:y 14=_:=hd 14 rfl;have gJ:=hw 107 21 rfl;have gY:y 21=_:=hd 21 rfl;have EF:=eF0 hn λ_=>trivial;refine aP (m:=(bB 7 93 true true ((hw 93 7 rfl).trans (hd 7 rfl)))) (aS rfl (EF _) func43 (by simp only[bU,bS,aZ,g1,g0,gK,gZ,gJ,gY,EF];rfl)) ?_;refine(Ux C.fi C.ct A.fi (A.ba+n-A.fr) C.ai C.ci W (k9.below hb).ma.rd.st ⟨O,gt⟩ gN).mono ?_;rintro r W3 ⟨rfl,hJ⟩;exact⟨_,rfl,hJ,rfl⟩
     intro y W10 k2 _;go_wp2;go_meet
     case rel=>exact⟨by rw[hE.out],k2⟩
   have hD:decide (0<=A.fi)=false:=decide_eq_false O;have hE:Hid (hM=false):=ae (by rw[z.out,hD];rfl);go_quiet (fail);go_wp2;go_meet
   case rel=>exact⟨by rw[hE.out],below_drewN (Below.refl _ _) _⟩
  case rest=>
   obtain⟨rfl,hy⟩:=hcut;have k10:=k9.below hy;have rx10:=rx9.ext hy;have N:=R.ext hy;have hi:=ag kD hy;clear k9 rx9 R hy kD ge gd;cases hM with
   | true=>
    have hl:Hid (wY H.ma p n wr=9):=ae (by have G:=z.out.symm;simp only[ed,decide_eq_true_eq,uG]at G;rw[hW.out,if_pos ⟨G.1.1,G.1.2,G.2⟩]);clear k10 N hW
    go_wp2_with (refine aA rfl _ _ rfl (w.heap.size+1) (dF noH) rfl rfl rx10 rfl mach_size (jc noH) ?_)
    intro we kb a;have c:=hi.grown a hi.size oG0;go_wp2;refine bodyPost_ret (v:=.tuple #[.agg (dF noH),.int .i64 0,.int .i64 9]) (cz results19 (w.heap.size+1) kb underlying45 mach_size) rfl ?_;exact⟨c,.inl ⟨by rw[hl.out];decide,by rw[hl.out]⟩⟩
   | false=>
    have kV:Hid (¬(0<=A.fi/\cp=false/\qx H.ma.st A.fi (A.ba+n-A.fr)=true)):=ae (by rintro⟨G,h2,h3⟩;have h4:=z.out;rw[decide_eq_true G,h2,h3]at h4;cases h4);have gg:Hid (wY H.ma p n wr=if(nL H.ma p n wr).2<0 then 10 else(nL H.ma p n wr).1.e):=ae (by rw[hW.out,if_neg kV.out]);have hO:Hid (0<=g.fi->(ent H.ma p n).k=0->qP H.ma.st g.fi g.pg):=ae (λG h2=>by
     obtain⟨a1,a2,a3,a4,a5,a6,a7⟩:=gD.out;refine Eb o.out.pt.st G (o.out.pt.pg kv.out).1 (λh3 => ?_);have h4:cp=false:=by rw[hs.out];unfold copied;rw[h2];rfl
     rcases h3 with h3|h3
     ·have:=ki.out;rw[a6]at this;omega
     ·exact kV.out ⟨by rw[a6];exact G,h4,by rw[a6,a7 G];exact h3⟩)
    have k0:=Lc (k:=⟨H.ma,0⟩) o.out k3.out (p:=p) (n:=n) kU kv.out hO.out;obtain⟨gC,gB⟩:=NZ o.out k3.out (w:=wr) kU kv.out (λe=>gn.out.1 e) hO.out;have km:Hid (nL H.ma p n wr=if 0<=(gW ⟨H.ma,0⟩ p n A).2/\wr=true/\(ent (gW ⟨H.ma,0⟩ p n A).1.m p n).w=false then xO (gW ⟨H.ma,0⟩ p n A).1 p n (gW ⟨H.ma,0⟩ p n A).2 A else gW ⟨H.ma,0⟩ p n A):=ae (by rw[hA.out];rfl);simp only[show kT (Kp.m ⟨H.ma,0⟩) p n=A from hA.out.symm]at k0;have i:=ae k0;have kL:=ae gC;have gA:=ae gB;have gE:Rt C.ma:=by rw[hr.out];exact o.out
    have gH:Co C.ma:=by rw[hr.out];exact k3.out
    have gb:kT C.ma p n=A:=by rw[hr.out];exact hA.out.symm
    have gq:fI C.ma p n=some g:=by rw[hr.out];exact kv.out
    have kA:0<=g.fi->(ent C.ma p n).k=0->qP C.ma.st g.fi g.pg:=by rw[hr.out];exact hO.out
    rw[<-gb]at N;clear k0 gC gB hW hO z kV ki kj
    go_wp2_with fail
    refine(NT C 0 n p g ga w.heap.size b _ k10 gE gH N gk gq kA).mono ?_;rintro r w11 ⟨rfl,D,e11,k11,s11,U⟩;rw[gb]at N U ⊢;rw[hr.out]at U ⊢;have rx11:=s11.blk k10 rx10 machT;have ax11:=s11.blk k10 N areaT;have kq:=Ao hi (s11.to k10 (az _));obtain⟨r1,gi⟩:∃r1,Hid (r1=gW ⟨H.ma,0⟩ p n A):=⟨_,ae rfl⟩;rw[<-gi.out]at U km i ⊢;have gz:e11=0:=(congrArg Kp.e U).trans i.out.1;subst gz;have s:=ae (congrArg Kp.m U);have gj:=ae U;clear U s11 k10 rx10 N hi gE gH gb gq kA gi;generalize hk2:r1.2=K at *
    obtain⟨hL,t⟩:∃hL:Bool,Hid (hL=(decide (0<=K)&&wr&&!(ent r1.1.m p n).w)):=⟨_,ae rfl⟩;go_upto_region 15 with(fail)
    go_cut [134] (fun s134 wx=>s134 = .bool hL/\Below w11.heap.size w11 wx)
    case first=>
     by_cases O:0<=K
     ·have hD:decide (0<=K)=true:=decide_eq_true O;cases wr with
      | false=>
       have l:Hid (hL=false):=ae (by rw[t.out,nk];rfl);go_wp2;go_meet
       case rel=>exact⟨by rw[l.out],Below.refl _ _⟩
      | true=>
       have kc:p<D.sp.length:=by have Z:D.ma.sp.length=r1.1.m.sp.length:=congrArg (λm:Ma=>m.sp.length) s.out;rw[rX,i.out.2.vis.sk.len,rX]at Z;rw[Z];exact hp
       obtain⟨Q2,gF⟩:∃Q2,D.sp[p]?=some Q2:=⟨_,aI kc⟩;have gU:Hid (ent r1.1.m p n=dM Q2.tb n):=ae (by rw[<-s.out];show dM (dI D.ma p).tb n=_;rw[qa gF];rfl);obtain⟨g2,off2,kN,gh,ky,hP⟩:=k11.at gF;have L:=k11.blk.cell;unfold rD at L;rw[kN]at L;have gR:(p:Int)<(D.sp.length:Int):=by omega
       clear kN
       go_wp2_with (refine ay g2 (off2+p*10+2) _ ky _ underlying74 tab_agg tab_size ?_)
       refine(xG Q2.tb (nT Q2.ts) n _ hP.tb).mono ?_;rintro r w12 ⟨rfl,j⟩;generalize dM Q2.tb n=y at *
       have g6:=XH y;have l:Hid (hL = !y.w):=ae (by rw[t.out,hD,gU.out];rfl);clear L gh ky hP;go_wp2;go_meet
       case rel=>exact⟨by rw[l.out],j⟩
     have hD:decide (0<=K)=false:=decide_eq_false O;have l:Hid (hL=false):=ae (by rw[t.out,hD];rfl);go_wp2;go_meet
     case rel=>exact⟨by rw[l.out],Below.refl _ _⟩
    case rest=>
     obtain⟨rfl,j⟩:=hcut;have Y:=k11.below j;have rx12:=rx11.ext j;have S:=ax11.ext j;have hh:=ag kq j;clear k11 rx11 ax11 j kq;go_upto_if 134 with(fail)
     go_cut [17] (fun s17 wx => ∃(I:MH),s17 = .int .i64 (nL H.ma p n wr).2/\lD wx w.heap.size b I 0/\aG wx (w.heap.size+1) (dF noH) 45/\aG wx ga (kH A) 94/\Below w.heap.size w wx/\Hid (I.ma=(nL H.ma p n wr).1.m))
     case first=>
      cases hL with
      | false=>
       have l:Hid (nL H.ma p n wr=r1):=ae (by rw[km.out,if_neg];rintro⟨G,h2,h3⟩;have h4:=t.out;rw[decide_eq_true G,h2,h3]at h4;cases h4);go_wp2;go_meet
       case rel=>exact⟨D,by rw[l.out,hk2],Y,rx12,S,hh,ae (by rw[l.out];exact s.out)⟩
      | true=>
       have kk:0<=K/\wr=true/\(ent r1.1.m p n).w=false:=by have G:=t.out.symm;simp only[ed,decide_eq_true_eq,uG]at G;exact⟨G.1.1,G.1.2,G.2⟩
       have l:Hid (nL H.ma p n wr=xO r1.1 p n K A):=ae (by rw[km.out,if_pos kk]);obtain⟨y1,y2,_⟩:=i.out.2.yes kk.1;obtain⟨f,f1,hf,_⟩:=fU i.out.2.rt y1;have ku:K=(f:Int):=by rw[<-y2,f1]
       have kc:p<D.sp.length:=by have Z:D.ma.sp.length=r1.1.m.sp.length:=congrArg (λm:Ma=>m.sp.length) s.out;rw[rX,i.out.2.vis.sk.len,rX]at Z;rw[Z];exact hp
       have gw:f<D.m.fs.length:=by have Z:D.m.fs.length=r1.1.m.m.fs.length:=congrArg (λm:Ma=>m.m.fs.length) s.out;rw[Z];exact hf
       have hj:=nX i.out.2.rt;rw[<-s.out]at hj;have kO:D.sp.length<=1000/\D.ca.length<=1000/\D.m.fs.length<=1000:=⟨by have:=hj.sp.1;rwa [show(Kp.m ⟨D.ma,0⟩).sp.length=D.sp.length from rX D]at this,hj.ca,hj.fs⟩;clear kk hj y1 y2 f1 hf t;subst ku
       go_wp2_with fail
       refine(SB D 0 n p f A ga w.heap.size b _ Y S kc gw kO.1 kO.2.1 kO.2.2).mono ?_;rintro r w13 ⟨rfl,H13,e13,k13,s13,q13⟩;rw[gj.out]at q13 ⊢;have rx13:=s13.blk Y rx12 machT;have ax13:=s13.blk Y S areaT;have kZ:=Ao hh (s13.to Y (az _));rw[<-l.out]at q13 ⊢;have gy:e13=0:=(congrArg Kp.e q13).trans kL.out;subst gy;have gp:=ae (congrArg Kp.m q13);clear q13 s13 Y rx12 S hh;go_wp2;go_meet
       case rel=>exact⟨H13,rfl,k13,rx13,ax13,kZ,gp⟩
     case rest=>
      clear Y rx12 S hh;obtain⟨I,rfl,kX,rxX,axX,hT,kW⟩:=hcut;generalize hK:(nL H.ma p n wr).2=K2
      by_cases O:K2<0
      ·have hl:Hid (wY H.ma p n wr=10):=ae (by rw[gg.out,hK,if_pos O]);clear kX axX
       go_wp2_with (refine aA rfl _ _ rfl (w.heap.size+1) (dF noH) rfl rfl rxX rfl mach_size (jc noH) ?_)
       intro we kb a;have c:=hT.grown a hT.size oG0;go_wp2;refine bodyPost_ret (v:=.tuple #[.agg (dF noH),.int .i64 0,.int .i64 10]) (cz results19 (w.heap.size+1) kb underlying45 mach_size) rfl ?_;exact⟨c,.inl ⟨by rw[hl.out];decide,by rw[hl.out]⟩⟩
      have kQ:Hid (wY H.ma p n wr=0):=ae (by rw[gg.out,hK,if_neg O];exact kL.out);have hU:=gA.out.1 (by rw[hK];omega);obtain⟨F,f1,hf,_⟩:=fU hU.rt hU.k1;have ku:K2=(F:Int):=by rw[<-hK,<-hU.en,f1]
      have gv:F<I.m.fs.length:=by have Z:I.m.fs.length=(nL H.ma p n wr).1.m.m.fs.length:=congrArg (λm:Ma=>m.m.fs.length) kW.out;rw[Z];exact hf
      have kP:Hid (Ki H.ma p n wr=(F:Int)):=ae (by rw[<-ku,<-hK];unfold Ki;rw[bv]);have hB:Hid (La H.ma p n wr=(if(wr&&A.sh)=true then setFr (setFr I.ma F (lC (aB I.ma F))) F (nK (aB (setFr I.ma F (lC (aB I.ma F))) F) (aB (setFr I.ma F (lC (aB I.ma F))) F).p true)else setFr I.ma F (lC (aB I.ma F)))):=ae (by unfold La OH;simp only[bv];rw[hK,ku,bv,<-hA.out,kW.out]);have gG:(F:Int)<(I.m.fs.length:Int):=by omega
      subst ku;clear hK hU f1 hf;obtain⟨gf,of,cur,hz,ht,kh,ha,hm⟩:=kX.frPut gv;have L:=kX.blk.cell;unfold rD at L;rw[hz]at L;clear hz ha
      go_wp2_with (refine aC gf (of+F*13+9) [.bool true] rfl rfl rfl _ _ ht (by simp;omega) wm (λu hu=>by cases bC.1 hu;rfl) ?_)
      intro w14 kK kC;obtain⟨J,s14⟩:=hm 9 1 [.bool true] (lC (aB I.ma F)) w14 rfl (by decide) rfl kK kC;have s14:=s14 _ _ (KS.refl _ _ _);have M:=s14.blk kX rxX machT;have ax14:=s14.blk kX axX areaT;have d:=Ao hT (s14.to kX (az _));have kz:Hid (MH.ma { I with m:=⟨I.m.fs.set F (lC (aB I.ma F)),I.m.hand⟩ }=setFr I.ma F (lC (aB I.ma F))):=ae rfl;rw[<-kz.out]at hB;have hS:F<(I.m.fs.set F (lC (aB I.ma F))).length:=by rw[bI];exact gv
      clear L s14 kX rxX axX hT ht kh hm kK kC;generalize hH14:({ I with m:=⟨I.m.fs.set F (lC (aB I.ma F)),I.m.hand⟩ }:MH)=H14 at *
      have hS:F<H14.m.fs.length:=by rw[<-hH14];exact hS
      clear hH14 kz kW;have hX:=ax14.cell;unfold kH at hX;cases wr with
      | false=>
       have kd:H14.ma=La H.ma p n false:=by rw[hB.out];exact(if_neg (by simp)).symm
       have kl:=J.blk.cell;unfold rD at kl
       go_wp2_with (first | (refine ay b 0 (dF H14).toList (bF J.blk 0 11) _ underlying45 rfl machine_size ?_) | (refine aA rfl _ _ rfl (w.heap.size+1) (dF H14) rfl rfl M rfl mach_size (jc _) ?_))
       intro we rxe a;have c:=d.grown a d.size oG0;have ke:=J.ma.keep M (by decide) a;go_wp2;refine bodyPost_ret (v:=.tuple #[.agg (dF H14),.int .i64 F,.int .i64 0]) (cz results19 (w.heap.size+1) rxe underlying45 mach_size) rfl ?_;exact⟨c,.inr ⟨kQ.out,_,by rw[kP.out],ke,kd⟩⟩
      | true=>
       cases hsh:A.sh with
       | false=>
        rw[hsh]at hX hB;have kd:H14.ma=La H.ma p n true:=by rw[hB.out];exact(if_neg (by simp)).symm
        have kl:=J.blk.cell;unfold rD at kl
        go_wp2_with (first | (refine ay b 0 (dF H14).toList (bF J.blk 0 11) _ underlying45 rfl machine_size ?_) | (refine aA rfl _ _ rfl (w.heap.size+1) (dF H14) rfl rfl M rfl mach_size (jc _) ?_))
        intro we rxe a;have c:=d.grown a d.size oG0;have ke:=J.ma.keep M (by decide) a;go_wp2;refine bodyPost_ret (v:=.tuple #[.agg (dF H14),.int .i64 F,.int .i64 0]) (cz results19 (w.heap.size+1) rxe underlying45 mach_size) rfl ?_;exact⟨c,.inr ⟨kQ.out,_,by rw[kP.out],ke,kd⟩⟩
       | true=>
        rw[hsh]at hX hB;obtain⟨gf,of,cur,hz,ht,kh,ha,hm⟩:=J.frPut hS;have L:=J.blk.cell;unfold rD at L;rw[hz]at L;have gG:(F:Int)<(H14.m.fs.length:Int):=by omega
        clear hz ha
        go_wp2_with (refine aC gf (of+F*13+10) [.bool true] rfl rfl rfl _ _ ht (by simp;omega) wm (λu hu=>by cases bC.1 hu;rfl) ?_)
        intro w15 kJ kB;obtain⟨k15,s15⟩:=hm 10 1 [.bool true] (nK (aB H14.ma F) (aB H14.ma F).p true) w15 rfl (by decide) rfl kJ kB;have s15:=s15 _ _ (KS.refl _ _ _);have rx15:=s15.blk J M machT;have kp:=Ao d (s15.to J (az _));have kd:Hid (MH.ma { H14 with m:=⟨H14.m.fs.set F (nK (aB H14.ma F) (aB H14.ma F).p true),H14.m.hand⟩ }=La H.ma p n true):=ae (by rw[hB.out];exact(if_pos (by simp)).symm);clear L s15 J M ax14 d ht kh hm kJ kB hX hB hS gG;generalize ({ H14 with m:=⟨H14.m.fs.set F (nK (aB H14.ma F) (aB H14.ma F).p true),H14.m.hand⟩ }:MH)=H15 at *
        have kl:=k15.blk.cell;unfold rD at kl
        go_wp2_with (first | (refine ay b 0 (dF H15).toList (bF k15.blk 0 11) _ underlying45 rfl machine_size ?_) | (refine aA rfl _ _ rfl (w.heap.size+1) (dF H15) rfl rfl rx15 rfl mach_size (jc _) ?_))
        intro we rxe a;have c:=kp.grown a kp.size oG0;have ke:=k15.ma.keep rx15 (by decide) a;go_wp2;refine bodyPost_ret (v:=.tuple #[.agg (dF H15),.int .i64 F,.int .i64 0]) (cz results19 (w.heap.size+1) rxe underlying45 mach_size) rfl ?_;exact⟨c,.inr ⟨kQ.out,_,by rw[kP.out],ke,kd.out⟩⟩
def Bf(m:Ma)(p:Nat)(n:Int):Option Page:=
 if(ent m p n).k=1 then(if(jw m (ent m p n).n).f<0 then some (jw m (ent m p n).n).p else none)
 else if(ent m p n).k=2 then some (dD m.sw (ent m p n).n)else none
instance (s:St) (f i:Int):Decidable (qP s f i):=by unfold qP;infer_instance
def xh(m:Ma)(p:Nat)(l:List Ar):Ma:={ m with sp:=m.sp.set p { dI m p with ar:=l } }
theorem Ov(h:(ent m p n).k=0):Bf m p n=none:=by
 unfold Bf;rw[if_neg (by omega),if_neg (by omega)]
def Yv(m:Ma):Prop:=∀p n g,fI m p n=some g->g.fi<m.st.fs.length
structure VE (m:Ma):Prop where
 rt:Rt m
 co:Co m
 fi:Yv m
def putB(b:List UInt8)(k:Nat)(d:List UInt8):List UInt8:=(List.range b.length).map λj=>if k<=j/\j<k+d.length then d.getD (j-k) 0 else b.getD j 0
def FB(g:Pg)(wr:Bool):Bool:=if wr=true then g.wr else g.rd
theorem yN{l:List Ar}(d:p<m.sp.length)(q:Nat):dI (xh m p l) q=if q=p then{ dI m p with ar:=l }else dI m q:=by
 unfold xh;show(m.sp.set p _).getD q zSp=_;rw[aW,nE]
 by_cases e:q=p
 ·subst e;rw[if_pos rfl,if_pos d,if_pos rfl];rfl
 ·rw[if_neg (pO e),if_neg e];unfold dI;rw[aW]
theorem PK{l:List Ar}(d:p<m.sp.length)(q:Nat)(n:Int):ent (xh m p l) q n=ent m q n:=by
 unfold ent;rw[yN d]
 by_cases e:q=p
 ·rw[if_pos e,e]
 ·rw[if_neg e]
theorem Cm{l:List Ar}(d:p<m.sp.length)(q:Nat)(n:Int):fI (xh m p l) q n=if q=p then onA l n else fI m q n:=by
 unfold fI;rw[yN d]
 by_cases e:q=p
 ·rw[if_pos e,if_pos e]
 ·rw[if_neg e,if_neg e]
theorem Vp(z:m'.sp.length=m.sp.length)(y:∀p,(dI m' p).tb=(dI m p).tb)(kd i:Int):bR m' kd i=bR m kd i:=by
 have e:m'.sp.map Sp.tb=m.sp.map Sp.tb:=by
  apply uZ
  ·simpa using z
  intro j d h2;simp only[eQ]at d h2;simp only[wJ];have u:=zF (m:=m') (p:=j) d;have h:=zF (m:=m) (p:=j) h2;rw[aI d]at u;rw[aI h2]at h;rw[aM u,aM h];exact y j
 have k:∀l:List Sp,(l.map λs:Sp=>(dC s.tb).countP (pW kd i))=(l.map Sp.tb).map λt=>(dC t).countP (pW kd i):=λl=>by rw[Ec];rfl
 unfold bR;rw[k,k,e]
theorem Tg(h:Rt m)(D:Co m)(z:p<m.sp.length)(F:(dI m p).lv=true){l:List Ar}(G:(bQ l).1=0)
 (C:∀n,(ent m p n).k≠0->∃g,onA l n=some g/\QA m g (ent m p n)):Rt (xh m p l)/\Co (xh m p l):=by
 have c:=λq=>yN (l:=l) z q;have a:=λq n=>PK (l:=l) z q n;have d:Pt (xh m p l):={ h.pt with
  spl:=by show(m.sp.set p _).length<=4;rw[bI];exact h.pt.spl
  ar:=λs u=>by
   rcases lS u with u|rfl
   ·exact h.pt.ar s u
   ·exact G
  tb:=λs u=>by
   rcases lS u with u|rfl
   ·exact h.pt.tb s u
   ·exact h.pt.tbN p }
 have b:∀kd i,bR (xh m p l) kd i=bR m kd i:=Vp (by show(m.sp.set p _).length=_;rw[bI]) λq=>by
  rw[c]
  by_cases e:q=p
  ·rw[if_pos e,e]
  ·rw[if_neg e]
 refine⟨⟨d,h.trim,λq y => ?_,⟨h.ca.file,h.ca.lt,h.ca.fr,h.ca.srt⟩,λq j A => ?_,λi I=>by rw[b];exact h.cf i I,h.fc,λs u=>by rw[b];exact h.cs s u⟩,⟨D.tail,D.clean,D.anon⟩⟩
 ·rw[c]at y ⊢
  by_cases e:q=p
  ·rw[if_pos e]at y;have:(dI m p).lv=false:=y;rw[F]at this;cases this
  rw[if_neg e]at y ⊢;exact⟨(h.live q y).1,λn=>by rw[a];exact(h.live q y).2 n⟩
 rw[a]at A ⊢;rw[Cm z]
 by_cases e:q=p
 ·rw[if_pos e];subst e;obtain⟨g,E,h2⟩:=C j A;exact⟨g,E,h2.sw,h2.lt,h2.fr⟩
 rw[if_neg e];obtain⟨g,E,h2⟩:=h.en q j A;exact⟨g,E,h2.sw,h2.lt,h2.fr⟩
theorem NR :copied m p n=false↔Bf m p n=none:=by
 unfold copied Bf
 by_cases k1:(ent m p n).k=1
 ·have d:¬(ent m p n).k=2:=by omega
  rw[if_pos k1]
  by_cases h:(jw m (ent m p n).n).f<0
  ·rw[if_pos h];simp[k1,h]
  ·rw[if_neg h];simp[k1,h,d]
 rw[if_neg k1]
 by_cases d:(ent m p n).k=2
 ·rw[if_pos d];simp[d]
 ·rw[if_neg d];simp[k1,d]
theorem Vj(F:VE m){w:Bool}(K:p<m.sp.length)(I:(dI m p).lv=true) :
  (fI m p n=none/\wY m p n w=5)\/∃g,fI m p n=some g/\(FB g w=false/\wY m p n w=8\/FB g w=true /\
   ((0<=g.fi/\Bf m p n=none/\¬qP m.st g.fi g.pg)/\wY m p n w=9\/¬(0<=g.fi/\Bf m p n=none/\¬qP m.st g.fi g.pg) /\
    (wY m p n w=10/\(nL m p n w).2<0\/wY m p n w=0/\0<=Ki m p n w/\Rz m (La m p n w) p n w g (Ki m p n w)))):=by
 have A:=F.rt;have O:=F.co;have J:wY m p n w=if pV m p n w≠0 then pV m p n w
  else if 0<=(kT m p n).fi/\copied m p n=false/\qx m.st (kT m p n).fi ((kT m p n).ba+n-(kT m p n).fr)=true then 9
  else if(nL m p n w).2<0 then 10 else(nL m p n w).1.e:=by
  unfold wY;rw[if_neg (by rw[IR.2 A];simp),if_neg (by rw[bv,I];simp;omega),bv]
 rw[J];cases hg:fI m p n with
 | none=>
  left
  have N:ik (dI m p).ar n<0:=by have W:¬0<=ik (dI m p).ar n:=λh2=>(yI (dI m p).ar n).1 h2 hg;omega
  have:pV m p n w=5:=by unfold pV;rw[if_pos N]
  rw[this,if_pos (by decide)];exact⟨rfl,rfl⟩
 | some g=>
  right
  refine⟨g,rfl,?_⟩;obtain⟨a1,Z,V,Y,X,S,G⟩:=Cu hg
  by_cases u:FB g w=true
  ·right
   refine⟨u,?_⟩;have b:(w=true->g.wr=true)/\(w=false->g.rd=true):=by
    unfold FB at u;cases w
    ·exact⟨λe=>(by cases e),λ_=>by simpa using u⟩
    ·exact⟨λ_=>by simpa using u,λe=>(by cases e)⟩
   rw[(Jo hg).2 b,if_neg (by decide)];have c:(0<=(kT m p n).fi/\copied m p n=false/\qx m.st (kT m p n).fi ((kT m p n).ba+n-(kT m p n).fr)=true)↔(0<=g.fi/\Bf m p n=none/\¬qP m.st g.fi g.pg):=by
    rw[S,NR];constructor
    ·rintro⟨z,D,E⟩;rw[G z]at E;exact⟨z,D,λM=>sS A.pt.st M (.inr E)⟩
    rintro⟨z,D,E⟩;refine⟨z,D,?_⟩;rw[G z];refine yD λa=>E (Eb A.pt.st z (A.pt.pg hg).1 λy => ?_);rcases y with y|y
    ·have:=F.fi p n g hg;omega
    ·exact a y
   by_cases C:0<=g.fi/\Bf m p n=none/\¬qP m.st g.fi g.pg
   ·left
    rw[if_pos (c.2 C)];exact⟨C,rfl⟩
   right
   rw[if_neg (λh=>C (c.1 h))];refine⟨C,?_⟩;have d:0<=g.fi->(ent m p n).k=0->qP m.st g.fi g.pg:=λz D=>yD λL=>C ⟨z,Ov D,L⟩;obtain⟨j,i,l⟩:=NZ A O (w:=w) K hg b.1 d
   by_cases y:(nL m p n w).2<0
   ·left
    rw[if_pos y];exact⟨rfl,y⟩
   right
   rw[if_neg y,j];have U:=i (by omega);refine⟨rfl,by show 0<=(nL m (p:Int).toNat n w).2;rw[bv];omega,?_⟩;have:=U.mark (e:=(nL m p n w).1.e) hg;unfold La Ki;rw[bv,V];exact this
  left
  have f : FB g w=false:=by simpa using u
  refine⟨f,?_⟩;have a:pV m p n w≠0:=λe=>by
   have:=(Jo hg).1 e;unfold FB at u;cases w
   ·exact u (by simpa using this.2 rfl)
   ·exact u (by simpa using this.1 rfl)
  have R:pV m p n w=8:=by
   unfold pV at a ⊢;rw[if_neg (by omega)]at a ⊢;split at a
   ·rename_i h;rw[if_pos h]
   ·exact absurd rfl a
  rw[if_pos a,R]
theorem UT(h:Rt m)(I:Co m){P:Page}(F:(ent m p n).k=1)(S:(ent m p n).n=f)(N:(ent m p n).w=true)(J:(aB m f).f<0) :
  Rt (setFr m f { aB m f with p:=P })/\Co (setFr m f { aB m f with p:=P })/\(∀q j,Bf (setFr m f { aB m f with p:=P }) q j=if q=p/\j=n then some P else Bf m q j)/\∀g j,aU (setFr m f { aB m f with p:=P }) g j=aU m g j:=by
 obtain⟨A,e1,D,O,X,Z,g,Y,t⟩:=fU h F;have:A = f:=by omega
 subst this;have G:(aB m A).d=false:=by
  cases G:(aB m A).d with
  | false=>rfl
  | true=>have:=I.anon A D G;omega
 have v:∀c∈m.ca,c.k.toNat≠A:=λc l e=>by have V:=h.ca.fr c l;have h2:=(h.ca.file c l).1;rw[e]at V;omega
 have U:({ aB m A with p:=P }:Fr)=nK (aB m A) P false:=by unfold nK;rw[<-G]
 rw[U];obtain⟨L,K⟩:=Wh (P:=P) (d:=false) h I D O (λc l e=>absurd e (v c l)) (λe=>by cases e);have s:∀x,aB (setFr m A (nK (aB m A) P false)) x=if x=A then nK (aB m A) P false else aB m x:=λx=>gB D x;have r:∀q j,(ent m q j).k=1->(ent m q j).n=A->q=p/\j=n:=λq j k1 M=>yD λo=>by have h2:=FE h.pt (by decide) (kd:=1) (i:=(A : Int)) ⟨F,S⟩ ⟨k1,M⟩ o;have h3:=h.cf A D;have h4:=t.2.2.2.2 N J;omega
 refine⟨L,K,λq j => ?_,λa b => ?_⟩
 ·have u:ent (setFr m A (nK (aB m A) P false)) q j=ent m q j:=rfl;unfold Bf;rw[u]
  by_cases k1:(ent m q j).k=1
  ·rw[if_pos k1,if_pos k1];obtain⟨y,W,z,_⟩:=fU h k1;show(if(aB (setFr m A (nK (aB m A) P false)) (ent m q j).n.toNat).f<0 then some (aB (setFr m A (nK (aB m A) P false)) (ent m q j).n.toNat).p else none)=_;rw[s]
   by_cases e:(ent m q j).n.toNat=A
   ·rw[if_pos e,if_pos (r q j k1 (by omega)),if_pos (show(nK (aB m A) P false).f<0 from J)];rfl
   have o:¬(q=p/\j=n):=λC=>e (by rw[C.1,C.2];omega);rw[if_neg e,if_neg o];rfl
  have o:¬(q=p/\j=n):=λC=>k1 (by rw[C.1,C.2];exact F);rw[if_neg k1,if_neg k1,if_neg o];rfl
 rcases oz m a b with⟨c,E,l,_⟩|⟨E,R⟩
 ·rw[kP,kP];have:pY (setFr m A (nK (aB m A) P false)) a b=pY m a b:=rfl;rw[this,E];simp only;show(aB (setFr m A (nK (aB m A) P false)) c.k.toNat).p=(aB m c.k.toNat).p;rw[s,if_neg (v c l)]
 rw[kP,kP];have:pY (setFr m A (nK (aB m A) P false)) a b=pY m a b:=rfl;rw[this,E];rfl
theorem srt_on9:∀ {l:List Ar} {u:Int},srtF u l->∀a∈l,∃n,onA l n=some (kS a n)
 | [],_,_,_,h=>by cases h
 | b::l,u,hs,a,h=>by
  rcases dz.1 h with rfl|h
  ·refine⟨a.fr,?_⟩;rw[dw,if_pos];have:=(bM hs.1).2.1;rw[dQ];omega
  obtain⟨n,d⟩:=srt_on9 hs.2.2 a h;refine⟨n,?_⟩;rw[dw,if_neg]
  ·exact d
  intro y;rw[dQ]at y;rw[on_low hs.2.2 y.2]at d;cases d
theorem VE.fi9(h:VE m):UN m:=λp a u=>by
 obtain⟨n,d⟩:=srt_on9 (lK (iX.1 (h.rt.pt.arN p)).2) a u;exact h.fi p n _ d
theorem Sw(y:Rt H.ma)(A:Co H.ma)(h:∀p∈H.sp,∀n g,onA p.ar n=some g->g.fi<H.fi.length):VE H.ma:=⟨y,A,λp n g d=>by
 rw[show H.ma.st.fs.length=H.fi.length from eQ _]
 by_cases u:p<H.sp.length
 ·have z:H.sp[p]?=some H.sp[p]:=aI u;unfold fI at d;rw[qa z]at d;exact h _ (fe u) n g d
 unfold fI at d;rw[qA (by rw[rX];omega)]at d;cases d⟩
theorem Sr(H:MH)(p n:Int)(wr:Bool)(w:World)(h:wI w H)(D:Rt H.ma)(K:Co H.ma)(G:Rp H p) :
  Calls Tryz.prog 19 #[.agg (dF H),.int .i64 p,.int .i64 n,.bool wr] w λr w'=>r = .returned (.tuple #[.agg (dF noH),.int .i64 0,.int .i64 5])/\Below w.heap.size w w':=by
 have j:=ae G;clear G;have s:=ae D;have x:=ae K;have t:=ae (nX D);clear D K;go_enter func19,ntmps19;go_upto_region 1 with(fail);refine tY (λW=>Code.wp _ _ _ _ W) λw1 g y z m => ?_;have y:aG w1 w.heap.size (dF H) 45:=y;have z:aG w1 (w.heap.size+1) (dF noH) 45:=z;have C:=h.below g;clear h
 go_wp2_with (refine ay w.heap.size 0 _ y.rd _ underlying45 rfl machine_size ?_)
 refine(zl H _ C).mono ?_;rintro r w2 ⟨rfl,f⟩;rw[IR.2 s.out];have h2:=C.below f;have E:=y.ext f;have A:=z.ext f;have a:=ag g f;clear C y z g f m;have I:=E.cell;unfold dF at I
 by_cases S:p<0
 ·skip
  go_wp2_with (refine aA rfl _ _ rfl (w.heap.size+1) (dF noH) rfl rfl A rfl mach_size (jc noH) ?_)
  intro F c d;have b:=a.grown d a.size oG0;go_wp2;refine bodyPost_ret (v:=.tuple #[.agg (dF noH),.int .i64 0,.int .i64 5]) (cz results19 (w.heap.size+1) c underlying45 mach_size) rfl ?_;exact⟨rfl,b⟩
 by_cases R:(H.sp.length:Int)<=p
 ·skip
  go_wp2_with (refine aA rfl _ _ rfl (w.heap.size+1) (dF noH) rfl rfl A rfl mach_size (jc noH) ?_)
  intro F c d;have b:=a.grown d a.size oG0;go_wp2;refine bodyPost_ret (v:=.tuple #[.agg (dF noH),.int .i64 0,.int .i64 5]) (cz results19 (w.heap.size+1) c underlying45 mach_size) rfl ?_;exact⟨rfl,b⟩
 obtain⟨P,M⟩:∃P:Nat,p=P:=⟨p.toNat,by omega⟩;subst M;have o:P<H.sp.length:=by omega
 obtain⟨N,L,Q,q,J,i⟩:=qN h2.sp.rd P o;rw[q]at I;have u:w2.cell? ⟨N,L+P*10,none⟩=some (.bool false):=by
  obtain⟨U,O,e',l⟩:=i 0 _ rfl;cases e';have C:Q.lv=false:=by
   rcases j.out with e|e|e
   ·omega
   ·omega
   ·rw[bv,qa J]at e;exact e
  rw[C]at l;exact l
 clear J i j
 go_wp2_with (refine aA rfl _ _ rfl (w.heap.size+1) (dF noH) rfl rfl A rfl mach_size (jc noH) ?_)
 intro F c d;have b:=a.grown d a.size oG0;go_wp2;refine bodyPost_ret (v:=.tuple #[.agg (dF noH),.int .i64 0,.int .i64 5]) (cz results19 (w.heap.size+1) c underlying45 mach_size) rfl ?_;exact⟨rfl,b⟩
def Ww(m:Ma)(b:Prop)(p n:Int)(wr:Bool)(e:Int):Prop:=
 e=5/\(b\/fI m p.toNat n=none)\/¬b/\∃g,fI m p.toNat n=some g/\(e=8/\FB g wr=false\/FB g wr=true /\
  (e=9/\(0<=g.fi/\Bf m p.toNat n=none/\¬qP m.st g.fi g.pg)\/e=10/\(nL m p.toNat n wr).2<0/\¬(0<=g.fi/\Bf m p.toNat n=none/\¬qP m.st g.fi g.pg)))
def Yn(H:MH)(p n:Int)(wr:Bool)(w:World)(r:Ending)(w' : World):Prop:=
 Below w.heap.size w w'/\((∃e:Int,r = .returned (.tuple #[.agg (dF noH),.int .i64 0,.int .i64 e])/\e≠0/\Ww H.ma (Rp H p) p n wr e) \/
  ∃(P:Nat) (H' : MH) (f:Nat) (g:Pg),p=P/\P<H.sp.length/\¬Rp H p/\fI H.ma P n=some g/\FB g wr=true/\r = .returned (.tuple #[.agg (dF H'),.int .i64 f,.int .i64 0])/\tT w' w.heap.size H'/\f<H'.m.fs.length/\Rz H.ma H'.ma P n wr g f)
theorem ED(H:MH)(p n:Int)(wr:Bool)(w:World)(h:wI w H)(C:VE H.ma) :
  Calls Tryz.prog 19 #[.agg (dF H),.int .i64 p,.int .i64 n,.bool wr] w (Yn H p n wr w):=by
 by_cases z:Rp H p
 ·refine(Sr H p n wr w h C.rt C.co z).mono ?_;rintro r w' ⟨rfl,c⟩;exact⟨c,.inl ⟨5,rfl,by decide,.inl ⟨rfl,.inl z⟩⟩⟩
 obtain⟨P,rfl,G,K⟩:∃P:Nat,p=P/\P<H.sp.length/\(dI H.ma P).lv=true:=by
  refine⟨p.toNat,?_,?_,?_⟩
  ·have:¬p<0:=λe=>z (.inl e);omega
  ·have y:¬p<0:=λe=>z (.inl e);have h2:¬(H.sp.length:Int)<=p:=λe=>z (.inr (.inl e));omega
  cases e:(dI H.ma p.toNat).lv with
  | true=>rfl
  | false=>exact absurd (.inr (.inr e)) z
 refine(Sk H P n wr w h C.rt C.co C.fi9 G K).mono ?_;rintro r w' ⟨c,b⟩;refine⟨c,?_⟩;have a:=Vj C (n:=n) (w:=wr) (by rw[rX];exact G) K;rcases b with⟨E,rfl⟩|⟨A,H',rfl,M,I⟩
 ·left
  refine⟨_,rfl,E,?_⟩;unfold Ww;rw[bv];rcases a with⟨y,h2⟩|⟨g,J,y⟩
  ·exact .inl ⟨h2,.inr y⟩
  right
  refine⟨z,g,J,?_⟩;rcases y with⟨y,h2⟩|⟨y,h2⟩
  ·exact .inl ⟨h2,y⟩
  right
  refine⟨y,?_⟩;rcases h2 with⟨F,u⟩|⟨F,u⟩
  ·exact .inl ⟨u,F⟩
  right
  rcases u with u|u
  ·exact⟨u.1,u.2,F⟩
  ·exact absurd u.1 E
 right
 rcases a with⟨y,h2⟩|⟨g,J,y⟩
 ·rw[h2]at A;cases A
 rcases y with⟨y,h2⟩|⟨y,h2⟩
 ·rw[h2]at A;cases A
 rcases h2 with⟨F,u⟩|⟨F,u⟩
 ·rw[u]at A;cases A
 rcases u with⟨u,_⟩|⟨_,O,D⟩
 ·rw[u]at A;cases A
 obtain⟨f,N⟩:∃f:Nat,Ki H.ma P n wr=f:=⟨(Ki H.ma P n wr).toNat,by omega⟩;rw[N]at D ⊢;rw[<-I]at D;obtain⟨L,R,d,_⟩:=fU D.rt D.k1;have:L = f:=by have:=D.en;omega
 subst this;exact⟨P,H',L,g,rfl,G,z,J,y,rfl,M,d,D⟩
theorem ww(l:List Fr)(x:Nat)(y:Fr):dU l<=dU (l.set x y)+1:=by
 unfold dU
 induction l generalizing x with
 | nil=>simp
 | cons a l ih=>
  cases x with
  | zero=>
   rw[uT,wR,wR];split<;>split<;>simp<;>omega
  | succ x=>
   have:=ih x;rw[uB,wR,wR];split<;>simp<;>omega
theorem LU{k:Kp}{P:Page}{f i:Int}(d:dU k.m.m.fs≠0):∃y:Fr,(eG k P f i).1.m.m.fs=if(eG k P f i).2<0 then k.m.m.fs else k.m.m.fs.set (eG k P f i).2.toNat y:=by
 unfold eG;rw[if_neg d];unfold kZ
 by_cases h:ig k.m.m P f i≠0
 ·rw[if_pos h];exact⟨fr0,by simp⟩
 rw[if_neg h];refine⟨bL P f i,?_⟩;show(fE k.m.m P f i).fs=_;unfold fE;rw[if_pos (ru.1 h),if_neg (by simp)];simp
theorem Qo(k:Kp)(f n:Int):∃y:Fr,(gH k f n).m.m.fs=k.m.m.fs.set f.toNat y\/(gH k f n).m.m.fs=k.m.m.fs:=by
 unfold gH;split
 ·rename_i h;refine⟨il (k.m.m.fs.getD f.toNat fr0) n,Or.inl ?_⟩;show(lX k.m.m f n).fs=_;unfold lX;rw[if_pos h]
 ·exact⟨fr0,.inr rfl⟩
theorem IX(k:Kp)(p:Nat)(n:Int)(x:En):(fo k p n x).m.m=k.m.m:=by unfold fo;split<;>rfl
theorem Qp{k:Kp}{a:Ar}(C:dU k.m.m.fs≠0):dU k.m.m.fs<=dU (gW k p n a).1.m.m.fs+1:=by
 have b:∀(k' : Kp) P f i,k'.m.m=k.m.m->dU k.m.m.fs<=dU (eG k' P f i).1.m.m.fs+1:=λk' P f i e=>by
  obtain⟨y,d⟩:=LU (k:=k') (P:=P) (f:=f) (i:=i) (by rw[e];exact C);rw[d];split
  ·rw[e];omega
  ·rw[e];exact ww _ _ _
 unfold gW;dsimp only;split
 ·dsimp only;omega
 split
 ·split
  ·dsimp only;omega
  split
  ·exact b _ _ _ _ rfl
  split
  ·exact b _ _ _ _ rfl
  dsimp only;rw[IX];exact b _ _ _ _ rfl
 split
 ·unfold Xf;split
  ·exact b _ _ _ _ rfl
  dsimp only;rw[IX];exact b _ _ _ _ rfl
 have c:(fB k a.fi (a.ba+n-a.fr)).2<0/\dU k.m.m.fs<=dU (fB k a.fi (a.ba+n-a.fr)).1.m.m.fs+1\/∃y,(fB k a.fi (a.ba+n-a.fr)).1.m.m.fs=k.m.m.fs.set (fB k a.fi (a.ba+n-a.fr)).2.toNat y:=by
  unfold fB;split
  ·right
   exact⟨_,rfl⟩
  dsimp only;split
  ·left
   exact⟨by show(-1:Int)<0;decide,b _ _ _ _ rfl⟩
  right
  rename_i u;obtain⟨y,d⟩:=LU (k:=⟨k.m,Fs k a.fi (a.ba+n-a.fr)⟩) (P:=dB k.m a.fi (a.ba+n-a.fr)) (f:=a.fi) (i:=a.ba+n-a.fr) C;rw[if_neg u]at d;exact⟨y,d⟩
 split
 ·rename_i u;rcases c with⟨_,h⟩|⟨y,h⟩
  ·exact h
  ·rw[h];exact ww _ _ _
 rename_i u;dsimp only;rw[IX];rcases c with⟨h,_⟩|⟨y,h⟩
 ·exact absurd h u
 obtain⟨z,A|A⟩:=Qo (fB k a.fi (a.ba+n-a.fr)).1 (fB k a.fi (a.ba+n-a.fr)).2 1
 ·rw[A,h,Bj];exact ww _ _ _
 ·rw[A,h];exact ww _ _ _
theorem Sj(h:Rt m)(I:Co m){w:Bool}{g:Pg}(D:p<m.sp.length)(F:fI m p n=some g)(u:FB g w=true)(G:¬(0<=g.fi/\Bf m p n=none/\¬qP m.st g.fi g.pg))(h2:2<=zC m.m.fs):¬(nL m p n w).2<0:=λy=>by
 have L:zC m.m.fs=dU m.m.fs:=by unfold zC dU;rw[Em]
 have d : w=true->g.wr=true:=λe=>by unfold FB at u;rw[e]at u;simpa using u
 obtain⟨_,_,z⟩:=NZ h I (w:=w) D F d (λK J=>yD λE=>G ⟨K,Ov J,E⟩);have C:dU m.m.fs≠0:=by omega
 have A:=Qp (k:=⟨m,0⟩) (p:=p) (n:=n) (a:=kT m p n) C;rcases z y with e|e
 ·exact C e
 rw[e]at A;have:dU m.m.fs<=0+1:=A;omega
theorem SQ{p:Int}{e:Int}(u:VE H.ma)(z:Ww H.ma (Rp H p) p n wr e)(h2:2<=zC H.m.fs):e≠10:=by
 rintro rfl;rcases z with⟨h,_⟩|⟨d,g,A,⟨h,_⟩|⟨y,⟨h,_⟩|⟨_,D,C⟩⟩⟩
 ·cases h
 ·cases h
 ·cases h
 refine Sj u.rt u.co ?_ A y C h2 D;rw[rX];have E:¬p<0:=λe=>d (.inl e);have h2:¬(H.sp.length:Int)<=p:=λe=>d (.inr (.inl e));omega
theorem OP{g:Pg}(U:Rz m m' p n true g f)(y:fI m p n=some g)(C:g.sh=false):(aB m' f).f<0/\(aB m' f).r=1:=by
 have b : fI m' p n=some g:=by unfold fI at y ⊢; rw[U.vis.sk.ar];exact y
 obtain⟨A,I,D,E,F,c,G,d,a⟩:=fU U.rt U.k1;have:A = f:=by have:=U.en;omega
 subst this;have u:=U.own rfl C;rw[nZ b U.k1]at u;have z:(aB m' A).f<0:=by have h:=of_decide_eq_true u;unfold jw at h;rw[U.en,bv]at h;exact h
 have h:=a.2.2.2.2 (U.ew rfl) z;have h2:=((dN _).1 (U.rt.pt.frE D)).1.1;exact⟨z,by omega⟩
end Go.Proofs.YthihaopabbpalaaGreat