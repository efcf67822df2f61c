import Derived.Test.YtkjobhcnlppcnaaV4
import Derived.BigRegion
set_option linter.unusedSimpArgs false
set_option linter.unusedVariables false
set_option maxHeartbeats 4000000
set_option maxRecDepth 100000
namespace Go.Proofs.Ytkjobhcnlppcnaa
open Go.RowKit Pw
def Dj (B:Nat):ig:=⟨fun v w => ∃g,v = .pointer (some ⟨g,0,none⟩)∧aC w g (fC f0) 107∧B≤g,fun _ _ _ hb ⟨g,h1,h2,h3⟩=>⟨g,h1,h2.ext hb,h3⟩⟩
theorem Cj {l:List ig} {p q i B:Nat} {w:World} (hp:l.getD q anyR=Dj B) (hq:l.getD p anyR=Dj B):uG (rl l) p q i (.pointer (some ⟨w.heap.size,0,none⟩)) w:=by
 refine yN (fun u hu => ?_) (fun u hu => ?_)
 ·unfold rl at hu
  rw[hp] at hu
  obtain⟨g,h1,h2,_⟩:=hu
  exact⟨g,_,_,h1,h2⟩
 ·unfold rl at hu
  rw[hq] at hu
  obtain⟨g,h1,h2,_⟩:=hu
  exact⟨g,_,_,h1,h2⟩
theorem uy {P:Program} {ops:Array Oper} {ρ:Operand→Value} {o:Oper} {w w' : World} {l:List ig} {p q i:Nat} (v:Value) (hw:Region.wanted o (says ρ ops)=true) (hrun:(execOp ρ o).run P w = .ok (.value v) w') (hb:Below w.heap.size w w') (hR:rl l i v w') (hN:uG (rl l) p q i v w) :
  if Region.wanted o (says ρ ops)=true then bJ P o ρ w (fun v w'=>(Below w.heap.size w w'∧rl l i v w')∧uG (rl l) p q i v w) else rl l i undef w∧i≠p∧i≠q:=by
 rw[if_pos hw]
 unfold bJ
 rw[hrun]
 exact⟨⟨hb,hR⟩,hN⟩
theorem EL (l:List Ar) (x:Ar) (a:Option Addr) (c:Nat) (w:World) (h:JL w a c l) :
  Calls Try.prog 75 #[.slice a l.length c,.agg (iT x)] w fun r w' => ∃v,r = .returned (.tuple #[v,.int .i64 (rE l x)])∧Own w' w.heap.size 69 7 v (oI l x).length ((oI l x).flatMap gV)∧Below w.heap.size w w':=by
 go_enter Try.func75,Try.ntmps75
 go_upto_region 1 with (fail)
 refine eO (fun W=>Code.wp _ _ _ _ W) fun W0 hb0 hx0 hs0 => ?_
 clear hs0
 go_wp2_with fail
 refine (tV l a c _ (h.below hb0)).mono ?_
 rintro r w1 ⟨rfl,hb1⟩
 have hbel1:=ag hb0 hb1
 have hx1:=hx0.ext hb1
 clear hb0 hx0 hb1
 unfold zD
 go_wp2_with (refine aD rfl _ _ _ rfl #[.int .i64 (aR l).1,.int .i64 (aR l).2] rfl rfl rfl fau_size (gZ _ _) ?_)
 intro w2 hb2 hf2
 have hbel:=ag hbel1 hb2
 have hx2:=hx1.ext hb2
 clear hbel1 hx1 hb2
 by_cases hw:(aR l).1=0
 ·have hall:=eD.1 hw
  have hw0:=Lib.hid hw
  have hsr:=fZ hall.2
  rw[hw] at hf2
  have hcf:=hf2.cell
  clear hw
  go_wp2_with (refine ax _ _ rfl _ 0 rfl rfl _ hx2.rd _ Try.underlying69 rfl area_size ?_)
  refine (wF x _).mono ?_
  rintro r w3 ⟨rfl,hb3⟩
  have hbel:=ag hbel hb3
  have hx3:=hx2.ext hb3
  clear hcf hf2 hx2 hb3
  by_cases he:aH x=0
  ·have he0:=Lib.hid he
   rw[he]
   clear he
   go_upto_region 7 with (fail)
   refine Gd 7 5 6 [ni (.slice a l.length c),ni (.agg (fC (aY l))),ni (.agg (iT x)),(KL x),ni (.agg (fC (aY [x]))),(Dj w.heap.size),(Dj w.heap.size)] (by kernel_rfl) (by decide) (by decide) (by decide) _ rfl (by kernel_rfl) (by kernel_rfl) (by decide) _ rfl (by kernel_rfl) (all_cons (lc (by decide) (by decide) (La (KZ rfl) (KX rfl (KY rfl rfl) rfl))) (all_cons ?_ (all_cons ?_ (all_cons ?_ (all_cons ?_ (all_cons ?_ (all_cons ?_ (all_nil)))))))) ?_
   ·refine lc (by decide) (by decide) ?_
    intro ρ y W hw hn hb hd
    have E23:=hw 23 0 rfl
    have h0:y 0=_:=hd 0 rfl
    have EF:∀f,ρ (.func f) = .func (.func f) #[] #[]:=fun f=>hn (.func f) trivial
    refine aP _ _ (ah rfl) (aN rfl (EF _) Try.func44 (by kernel_rfl) (by kernel_rfl) (by simp only[List.map_toArray,List.map_cons,List.map_nil,E23,h0,EF];rfl)) ?_
    refine (iQ l a c W (h.below (ag hbel hb)).rd (by omega) (fun x hx=>(srtF_ok hsr x hx).1)).mono ?_
    rintro r w1 ⟨rfl,hb1⟩
    exact⟨_,rfl,hb1,rfl⟩
   ·refine lc (by decide) (by decide) ?_
    intro ρ y W hw hn hb hd
    have E3:ρ (.tmp 3) = .pointer (some ⟨w.heap.size,0,none⟩):=(hn (.tmp 3) rfl).trans rfl
    refine aj (.agg (iT x)) (ah rfl) (bI rfl E3 (hx3.ext hb) Try.underlying69 rfl area_size) rfl
   ·refine lc (by decide) (by decide) ?_
    intro ρ y W hw hn hb hd
    have E25:=hw 25 2 rfl
    have h2:y 2=_:=hd 2 rfl
    refine jb (.slice (some ⟨W.heap.size,0,none⟩) 1 1) (ah rfl) (by simp[execOp,go_sem,dn,E25,h2,iT]) ((Below.refl _ _).alloc (Nat.le_refl _) (.cells (iT x) 69)) ?_
    exact⟨_,rfl,aC.new _ _ _⟩
   ·refine lc (by decide) (by decide) ?_
    intro ρ y W hw hn hb hd
    have E26:=hw 26 3 rfl
    have h3:=hd 3 rfl
    have EF:∀f,ρ (.func f) = .func (.func f) #[] #[]:=fun f=>hn (.func f) trivial
    obtain⟨gq,hq3,hqb⟩:=h3
    refine aP _ _ (ah rfl) (aN rfl (EF _) Try.func44 (by kernel_rfl) (by kernel_rfl) (by simp only[List.map_toArray,List.map_cons,List.map_nil,E26,EF,hq3];rfl)) ?_
    refine (iQ [x] _ 1 W (fun j u hj=>hqb.rd j u (by simpa[gV] using hj)) (by simp) (fun z hz=>by rw[List.mem_singleton.1 hz];exact he0.out)).mono ?_
    rintro r w1 ⟨rfl,hb1⟩
    exact⟨_,rfl,hb1,rfl⟩
   ·intro ρ y W hw hn hb hd
    refine uy (.pointer (some ⟨W.heap.size,0,none⟩)) (ah rfl) (w':=W.alloc (.cells (fC f0) 107)) ?_ ((Below.refl _ _).alloc (Nat.le_refl _) _) ⟨_,rfl,aC.new _ _ _,(ag hbel hb).size⟩ (Cj rfl rfl)
    simp[execOp,go_sem,dn,dn]
    rfl
   ·intro ρ y W hw hn hb hd
    refine uy (.pointer (some ⟨W.heap.size,0,none⟩)) (ah rfl) (w':=W.alloc (.cells (fC f0) 107)) ?_ ((Below.refl _ _).alloc (Nat.le_refl _) _) ⟨_,rfl,aC.new _ _ _,(ag hbel hb).size⟩ (Cj rfl rfl)
    simp[execOp,go_sem,dn,dn]
    rfl
   intro y WA hbWA hRWA hyne
   have hy1:y 1=_:=hRWA 1 (by decide)
   have hy4:y 4=_:=hRWA 4 (by decide)
   have hy3:=hRWA 3 (by decide)
   have hy5:((Dj w.heap.size)).r (y 5) WA:=hRWA 5 (by decide)
   have hy6:((Dj w.heap.size)).r (y 6) WA:=hRWA 6 (by decide)
   clear hRWA
   simp only[lay,strip,dn,List.map_cons,List.map_nil,Nat.reduceAdd,Nat.reduceLT,decide_true,decide_false,if_true,Bool.false_eq_true,if_false,List.setIfInBounds_toArray,List.set_cons_zero,List.set_cons_succ,List.drop_succ_cons,List.drop_zero,List.drop_nil,hy1,hy4]
   clear hy1 hy4
   obtain⟨gX,hyX,hbX,hgX⟩:∃g,y 5 = .pointer (some ⟨g,0,none⟩)∧aC WA g (fC f0) 107∧w.heap.size≤g:=hy5
   obtain⟨gY,hyY,hbY,hgY⟩:∃g,y 6 = .pointer (some ⟨g,0,none⟩)∧aC WA g (fC f0) 107∧w.heap.size≤g:=hy6
   have hXY:gX≠gY:=fun e=>hyne (by rw[hyX,hyY,e])
   simp only[hyX,hyY]
   have hbelA:=ag hbel hbWA
   clear hy3 hyX hyY hyne hbel hx3 hbWA
   go_upto_region 8 with (refine aB rfl _ _ _ rfl gX (fC (aY l)) rfl rfl _ _ hbX (by rw[eX,eX]) (by rw[eX];exact ones_size) (qi _) ?_)
   intro W5 hX5 hgr5
   have hbel5:=hbelA.grown hgr5 hbelA.size (fun k hk=>by cases hk;exact hgX)
   have hY5:aC W5 gY (fC f0) 107:=hbY.grown hgr5 (fun e=>hXY (Option.some.inj e))
   clear hbelA hbX hbY hgr5
   go_upto_region 8 with (refine aB rfl _ _ _ rfl gY (fC (aY [x])) rfl rfl _ _ hY5 (by rw[eX,eX]) (by rw[eX];exact ones_size) (qi _) ?_)
   intro W6 hY6 hgr6
   have hbel6:=hbel5.grown hgr6 hbel5.size (fun k hk=>by cases hk;exact hgY)
   have hX6:aC W6 gX (fC (aY l)) 107:=hX5.grown hgr6 (fun e=>hXY (Option.some.inj e).symm)
   clear hbel5 hX5 hY5 hgr6
   go_upto_region 9 with (fail)
   go_loopw [28] (fun i wr => ∃n:Nat,n≤64∧i = .int .i64 n∧Below w.heap.size w wr∧aC wr gX (fC (kX x n (aY l))) 107∧aC wr gY (fC (aY [x])) 107∧∀i:Nat,i<n→¬(iV (i:Int) x=true∧onA l i≠none)) (fun i _=>64-(intOf i).toNat)
   case atStart=>exact⟨0,by omega,rfl,hbel6,by rw[BL];exact hX6,hY6,fun i hi=>absurd hi (Nat.not_lt_zero _)⟩
   case round=>
    clear hbel6 hX6 hY6
    obtain⟨n,hn,rfl,hbr,hX,hY,hno0⟩:=hrel
    have hno:=Lib.hid hno0
    clear hno0
    by_cases hlt:n<64
    ·have hlti:(n:Int)<64:=by omega
     have dX:wr.cell? ⟨gX,n*6,none⟩=some (.bool (onA l n).isSome):=by
      rw[hX.cell]
      exact qF (kX x n (aY l)) n 0 hlt _ (by rw[Hf,iF hsr];rfl) (by decide)
     have dY:wr.cell? ⟨gY,n*6,none⟩=some (.bool (aY [x] n).isSome):=by
      rw[hY.cell]
      exact qF (aY [x]) n 0 hlt _ rfl (by decide)
     rw[Fj] at dY
     by_cases hin:iV (n:Int) x=true
     ·rw[if_pos hin] at dY
      cases hon:onA l (n:Int) with
      | some p=>
       rw[hon] at dX
       simp only[Option.isSome] at dX dY
       have q0:Hid _:=Lib.hid (xA (l:=l) (x:=x) (e:=6) (by unfold rE;rw[if_neg (by rw[hw0.out];simp),if_neg (by rw[he0.out];simp),if_pos (Fw hin (by rw[hon];simp))]) (by decide))
       have hbel:=hbr
       clear hin hon
       go_wp2
       go_ret2
       have q:=q0.out
       exact⟨.slice none 0 0,by first | (rw[q.1];done) | (rw[q.1];rfl),by rw[q.2];exact Own.nil _ _ _ _,hbel⟩
      | none=>
       rw[hon] at dX
       simp only[Option.isSome] at dX dY
       have hset:Hid (putAt (fC (kX x n (aY l))) (n*6) (jC (some (fF x n)))=fC (kX x (n+1) (aY l))):=Lib.hid (by
        rw[Fs _ n hlt,FQ hin])
       have hrdY:bW wr (some ⟨gY,n*6,none⟩) (jC (some (fF x n))):=fun j u hj=>⟨gY,n*6,rfl,by
        rw[hY.cell]
        exact qF (aY [x]) n j hlt u (by rw[Fj,if_pos hin];exact hj) (by have:=(List.getElem?_eq_some_iff.1 hj).1;rwa [iR] at this)⟩
       have hup:Hid (∀i:Nat,i<n+1→¬(iV (i:Int) x=true∧onA l i≠none)):=Lib.hid (fun i hi hq=>by
        by_cases c:i=n
        ·subst c;exact hq.2 hon
        ·exact hno.out i (by omega) hq)
       have hfit:Hid (n*6+6≤(fC (kX x n (aY l))).size):=Lib.hid (by rw[eX];omega)
       clear hin hon
       go_upto_region 15 with (first | (refine ax _ _ rfl _ (n*6) rfl rfl _ hrdY _ Try.underlying106 rfl one_size ?_) | (refine dW rfl _ _ _ rfl gX (n*6) (iU (some (fF x n))) rfl rfl _ _ hX hfit.out one_size (zN _) ?_))
       intro W7 hX7 hgr7
       have hX8:aC W7 gX (fC (kX x (n+1) (aY l))) 107:=by rw[←hset.out];exact hX7
       have hbel7:=hbr.grown hgr7 hbr.size (fun k hk=>by cases hk;exact hgX)
       have hY7:aC W7 gY (fC (aY [x])) 107:=hY.grown hgr7 (fun e=>hXY (Option.some.inj e))
       clear hX hY hbr hX7 hgr7 dX dY hrdY hset hfit
       go_wp2
       go_roundw
       case rel=>exact⟨n+1,by omega,by go_num,hbel7,hX8,hY7,hup.out⟩
       case measure=>simp[intOf];omega
     ·rw[if_neg hin] at dY
      simp only[Option.isSome] at dY
      have hup:Hid (∀i:Nat,i<n+1→¬(iV (i:Int) x=true∧onA l i≠none)):=Lib.hid (fun i hi hq=>by
       by_cases c:i=n
       ·subst c;exact hin hq.1
       ·exact hno.out i (by omega) hq)
      have hX8:aC wr gX (fC (kX x (n+1) (aY l))) 107:=by rw[Db hin];exact hX
      clear hin hX
      cases hsX:(onA l (n:Int)).isSome
      ·rw[hsX] at dX
       clear hsX
       go_wp2
       go_roundw
       case rel=>exact⟨n+1,by omega,by go_num,hbr,hX8,hY,hup.out⟩
       case measure=>simp[intOf];omega
      ·rw[hsX] at dX
       clear hsX
       go_wp2
       go_roundw
       case rel=>exact⟨n+1,by omega,by go_num,hbr,hX8,hY,hup.out⟩
       case measure=>simp[intOf];omega
    ·have hn64:n=64:=by omega
     subst hn64
     have hany:=Hm hall.2 he0.out hno.out
     have hmt:∀z∈l,jF x z=false:=fun z hz=>by have:=List.any_eq_false.1 hany z hz;simpa using this
     have hins:=uR he0.out hsr (aS he0.out).1.2.1.1 hmt
     rw[←sQ] at hins
     have hfin:Hid (rE l x=ve (kQ (uM l x)).length):=Lib.hid (by unfold rE;rw[if_neg (by rw[hw0.out];simp),if_neg (by rw[he0.out];simp),if_neg (by rw[hany];simp)];rfl)
     have hml:Hid (oI l x=if 16<(kQ (uM l x)).length then [] else kQ (uM l x)):=Lib.hid (by
      unfold oI
      rw[hfin.out]
      unfold ve
      by_cases h16:16<(kQ (uM l x)).length
      ·rw[if_pos h16,if_pos h16];rfl
      ·rw[if_neg h16,if_neg h16];rfl)
     have hs384:Hid ((fC (kX x 64 (aY l))).size=384):=Lib.hid (eX _)
     clear hlt
     go_wp2_with (refine ax _ _ rfl _ 0 rfl rfl _ hX.rd _ Try.underlying107 rfl (by rw[Array.length_toList,hs384.out];exact ones_size) ?_)
     refine (Ic (kX x 64 (aY l)) (kQ (uM l x)) (xD hins) (fun i hi => ?_) (fun i p hp => ?_) _).mono ?_
     ·rw[xm hins,sQ,xw he0.out _ hsr hmt]
      unfold kX
      rw[iF hsr]
      by_cases c:iV (i:Int) x=true
      ·rw[if_pos ⟨c,hi⟩,if_pos c]
      ·rw[if_neg (fun q=>c q.1),if_neg c]
     ·unfold kX at hp
      split at hp
      ·rename_i hq
       cases hp
       have h1:=Ch he0.out hq.1
       refine⟨h1.2.2.1,?_⟩
       by_cases hf:(fF x i).fi<0
       ·rw[(h1.2.2.2.1 hf).1];decide
       ·have:=h1.2.2.2.2 (by omega);omega
      ·exact yZ hsr i p hp
     ·rintro r w9 ⟨v9,rfl,hO9,hb9⟩
      have hbel9:=ag hbr hb9
      replace hO9:=hO9.mono hbr.size
      rw[←hml.out] at hO9
      rw[←hfin.out]
      clear hbr hX hY hb9 hml
      go_wp2
      go_ret2
      exact⟨v9,rfl,hO9,hbel9⟩
  ·have q0:Hid _:=Lib.hid (xA (l:=l) (x:=x) (e:=aH x) (by unfold rE;rw[if_neg (by rw[hw0.out];simp),if_pos he]) he)
   have he' : (aH x != 0)=true:=by simpa using he
   clear he hall
   go_wp2
   go_ret2
   have q:=q0.out
   exact⟨.slice none 0 0,by first | (rw[q.1];done) | (rw[q.1];rfl),by rw[q.2];exact Own.nil _ _ _ _,hbel⟩
 ·have q0:Hid _:=Lib.hid (xA (l:=l) (x:=x) (e:=(aR l).1) (by unfold rE;rw[if_pos hw]) hw)
  have hw' : ((aR l).1 != 0)=true:=by simpa using hw
  have hcf:=hf2.cell
  clear hw
  go_upto_region 3 with (fail)
  go_quiet (fail)
  rename_i nq
  have hbel:=below_drewN hbel nq
  go_wp2
  go_ret2
  have q:=q0.out
  exact⟨.slice none 0 0,by first | (rw[q.1];done) | (rw[q.1];rfl),by rw[q.2];exact Own.nil _ _ _ _,hbel⟩
open Go.Maps
theorem Dy {l:List Ar} {x:Ar} (h:rE l x=0):(l.length≤16∧okF none l)∧aH x=0∧(∀a∈l,jF x a=false)∧(kQ (uM l x)).length≤16∧oI l x=kQ (uM l x):=by
 have h0:=h
 unfold rE at h
 by_cases hw:(aR l).1=0
 ·rw[if_neg (by omega)] at h
  by_cases he:aH x=0
  ·rw[if_neg (by omega)] at h
   cases hm:l.any (jF x)
   ·rw[hm,if_neg (by simp)] at h
    refine⟨eD.1 hw,he,fun a ha => ?_,?_,?_⟩
    ·have:=List.any_eq_false.1 hm a ha
     simpa using this
    ·split at h
     ·omega
     ·omega
    ·unfold oI;rw[if_neg (by omega)]
   ·rw[hm,if_pos rfl] at h;omega
  ·rw[if_pos he] at h;exact absurd h he
 ·rw[if_pos hw] at h;exact absurd h hw
theorem AB {l:List Ar} {x:Ar} (h:rE l x=0):(oI l x).length≤16∧okF none (oI l x)∧∀n,onA (oI l x) n=if iV n x then some (fF x n) else onA l n:=by
 obtain⟨⟨h1,h2⟩,h3,h4,h5,h6⟩:=Dy h
 have hs:=fZ h2
 have hx:=(aS h3).1.2.1.1
 have hi:=uR h3 hs hx h4
 rw[h6]
 rw[sQ] at h5 ⊢
 exact⟨h5,xD hi,fun n=>by rw[xm hi,xw h3 n hs h4]⟩
def Cf (S:MW):Prop:=∀p∈S.H.sp,∀n g,onA p.ar n=some g→g.fi<S.H.fi.length
structure More (S S' : MW):Prop where
 bd:Bd S'.H.ma S'.T
 fm:Cf S'
 fi:S'.H.fi=S.H.fi
 ct:S'.H.ct=S.H.ct
 dk:S'.H.dk=S.H.dk
 sp:S'.H.sp.length=S.H.sp.length+1
 fs:S'.H.m.fs.length=S.H.m.fs.length
def SpaceR (S:MW) (B b:Nat) (w:World) (r:Ending) (w' : World):Prop:=∃S',r = .returned (.tuple #[])∧bR w' B b S'∧MS w b S w' S'∧More S S' ∧
 (S.l=[]→S'.l=[]∧S'.H.ma = { S.H.ma with sp:=S.H.ma.sp++[⟨true,[],zTb⟩] }∧S'.T=S.T++[List.replicate 64 zEn])
theorem bR.kb_ne {w:World} {B b:Nat} {S:MW} (h:bR w B b S) {x:Nat} {cs:Array Value} {T:TypeId} (hk:aC w x cs T)
  (hT:T≠89∧T≠59∧T≠3∧T≠50∧T≠93∧T≠71∧T≠85∧T≠65∧T≠95):¬gM b S x:=by
 obtain⟨t1,t2,t3,t4,t5,t6,t7,t8,t9⟩:=hT
 have own:∀ {e:TypeId} {sz n c:Nat} {a:Option Addr} {xs:List Value},T≠e→Own w B e sz (.slice a n c) n xs→oB a=some x→False:=fun ht ho hx=>by
  obtain⟨_,cs',h2⟩:=gJ ho hx
  exact ko hk h2 ht rfl
 intro hx
 rcases hx with hx|hx
 ·subst hx;exact ko hk h.blk t1 rfl
 ·simp only[dH,List.mem_cons,List.not_mem_nil,or_false] at hx
  rcases hx with hx|hx|hx|hx|hx|hx|hx|hx|hx
  ·exact own t2 h.ma.fr hx.symm
  ·exact own t3 h.ma.sl hx.symm
  ·exact own t4 h.ma.sw.b hx.symm
  ·exact own t4 h.ma.dk.b hx.symm
  ·exact own t5 h.ma.dk.q hx.symm
  ·exact own t6 h.ma.st.own hx.symm
  ·exact own t7 h.ma.ca hx.symm
  ·exact own t8 h.ma.sp hx.symm
  ·exact own t9 h.tt hx.symm
theorem bR.own_not {w:World} {B b B' : Nat} {S:MW} (h:bR w B b S) {e:TypeId} {sz n c:Nat} {a:Option Addr} {xs:List Value} (ho:Own w B' e sz (.slice a n c) n xs)
  (hT:e≠89∧e≠59∧e≠3∧e≠50∧e≠93∧e≠71∧e≠85∧e≠65∧e≠95):∀x,(Value.slice a n c).ownBlock=some x→¬gM b S x:=fun x hx=>by
 obtain⟨cs,hk⟩:=fU ho x hx
 exact h.kb_ne hk hT
theorem bR.locA {w w' : World} {B b:Nat} {S:MW} (h:bR w B b S) {g:Nat} {cs:Array Value} (hk:aC w g cs 69) (hn:¬gM b S g) (hsp:∀p∈S.H.sp,oB p.aa≠some g) (hgB:B≤g) (hg:w.grownBy w' (some g)):bR w' B b S:=by
 have hne:∀ {a:Option Addr},oB a∈dH S→∀n c g',(Value.slice a n c).ownBlock=some g'→some g≠some g':=fun hm n c g' he e=>by
  cases e
  rw[gF] at he
  exact hn (.inr (by rw[←he];exact hm))
 exact⟨h.blk.grown hg (fun e=>hn (.inl (Option.some.inj e))),h.ge,⟨h.ma.fr.grown hg (hne (by simp[dH]) _ _),h.ma.sl.grown hg (hne (by simp[dH]) _ _),⟨h.ma.sw.b.grown hg (hne (by simp[dH]) _ _),h.ma.sw.q.grown hg (fun g' he=>by rw[h.n3] at he;cases he)⟩,⟨h.ma.dk.b.grown hg (hne (by simp[dH]) _ _),h.ma.dk.q.grown hg (hne (by simp[dH]) _ _)⟩,
  ⟨h.ma.st.own.grown hg (hne (by simp[dH]) _ _),fun i p hp=>ak (h.ma.st.each i p hp) hk (by decide) hg,h.ma.st.apart⟩,h.ma.ca.grown hg (hne (by simp[dH]) _ _),h.ma.sp.grown hg (hne (by simp[dH]) _ _),fun p hp=>⟨(h.ma.ps p hp).1.grown hg (fun g' he e=>by
   cases e
   rw[gF] at he
   exact hsp p hp he),(h.ma.ps p hp).2.keep hk (by decide) hg⟩,h.ma.c64⟩,
  h.tt.grown hg (hne (by simp[dH]) _ _),h.rd.keep h.ra h.bs hg hgB,h.ra,h.n1,h.n2,h.n3⟩
theorem bR.newA {w:World} {B b:Nat} {S:MW} (h:bR w B b S) {x:Nat} (hx:w.heap.size≤x):∀p∈S.H.sp,oB p.aa≠some x:=fun p hp he=>by
 have:=(gJ (h.ma.ps p hp).1 he).2.choose_spec.lt
 omega
def Ah (S:MW) (B b:Nat) (w:World) (i:Nat) (cs:Array Value) (T:TypeId):(Nat→Bool)→(Nat→Value)→World→Prop:=fun L y W=>
 Ba S B b w [] L y W∧(L i=true→∃g,y i = .pointer (some ⟨g,0,none⟩)∧aC W g cs T∧¬gM b S g∧w.heap.size≤g)
theorem eZ {S:MW} {B b:Nat} {w:World} {i:Nat} {cs:Array Value} {T:TypeId}:∀L y W W',Below W.heap.size W W'→Ah S B b w i cs T L y W→Ah S B b w i cs T L y W':=
 fun _ _ _ _ hb ⟨h1,h2⟩=>⟨ay _ _ _ _ hb h1,fun hL=>by
  obtain⟨g,e1,e2,e3⟩:=h2 hL
  exact⟨g,e1,e2.ext hb,e3⟩⟩
theorem FC {S:MW} {B b:Nat} {w W:World} {i:Nat} {cs:Array Value} {T:TypeId} {L:Nat→Bool} {y:Nat→Value} (h0:bR w B b S) (h:Ah S B b w i cs T L y W):Ah S B b w i cs T (bA L i) (bO y i (.pointer (some ⟨W.heap.size,0,none⟩))) (W.alloc (.cells cs T)):=by
 have hs:w.heap.size≤W.heap.size:=by
  obtain⟨⟨a,c,l,h1,h2,h3⟩,_⟩:=h
  exact h2.size
 exact⟨ay _ _ _ _ ((Below.refl _ _).alloc (Nat.le_refl _) _) h.1,fun _=>⟨W.heap.size,by unfold bO;rw[if_pos rfl],aC.new _ _ _,h0.new hs,hs⟩⟩
theorem nJ {S:MW} {B b:Nat} {w W:World} {i:Nat} {cs:Array Value} {T:TypeId} {L L' : Nat→Bool} {y:Nat→Value} {y' : Value→Nat→Value} (hL:L' i=L i) (hy:∀v,y' v i=y i) (n:Int) (hn : -9223372036854775808≤n∧n≤9223372036854775807) (h:Ah S B b w i cs T L y W) {R:Value→World→Prop} (hR:∀x:Int,0≤x→x<256→(x<n∨x=0)→∀W',R (.int .i64 x) W') :
  Calls Try.prog 28 #[.pointer (some ⟨b,0,none⟩),.int .i64 n] W fun e W' => ∃v,e = .returned v∧Ah S B b w i cs T L' (y' v) W'∧R v W':=by
 obtain⟨⟨a,c,l,h1,h2,h3⟩,h4⟩:=h
 refine (cB _ n B b W h1 hn).mono ?_
 rintro r W' ⟨x,a',c',l',rfl,k1,k2,k3,_⟩
 exact⟨_,rfl,⟨⟨a',c',l',k1,h2.trans k2,fun t ht=>(by cases ht)⟩,fun hl=>by
  obtain⟨g,e1,e2,e3,e4⟩:=h4 (by rw[←hL];exact hl)
  exact⟨g,by rw[hy];exact e1,k2.blkN e2 e3,e3,e4⟩⟩,hR x k3.1 k3.2.1 k3.2.2 W'⟩
theorem jZ {w w' : World} {B sz n c:Nat} {e:TypeId} {a:Option Addr} {xs:List Value} (ho:Own w B e sz (.slice a n c) n xs) (hg:w.grownBy w' (Value.slice a n c).ownBlock):Below w.heap.size w w'∨∃g cs,aC w g cs e∧oB a=some g∧w.grownBy w' (some g):=by
 cases h:(Value.slice a n c).ownBlock with
 | none=>rw[h] at hg;exact .inl (iy hg)
 | some g=>
  rw[h] at hg
  obtain⟨cs,hk⟩:=fU ho g h
  exact .inr ⟨g,cs,hk,by rw[←gF a n c];exact h,hg⟩
theorem bR.appP {w w1 w2:World} {B b:Nat} {S:MW} (h:bR w B b S) (hg:w.grownBy w1 (Value.slice S.H.ap S.H.sp.length S.H.cp).ownBlock) {a:Option Addr} {c:Nat} {l:List PS} (ho:Own w1 B 65 10 (.slice a l.length c) l.length (l.flatMap lS))
  (hp:∀p∈l,Own w1 B 69 7 (.slice p.aa p.ar.length p.ac) p.ar.length (p.ar.flatMap gV)∧nO w1 B (jG p.ts) p.tb) (hb:aC w2 b (putAt (dR S) 11 [.slice a l.length c]) 89) (hg2:w1.grownBy w2 (some b)) :
  bR w2 B b { S with H:={ S.H with ap:=a,cp:=c,sp:=l } }:=by
 have key:aC w1 b (dR S) 89∧Own w1 B 59 13 (.slice S.H.af S.H.m.fs.length S.H.cf) S.H.m.fs.length (S.H.m.fs.flatMap mD)∧Own w1 B 3 1 (.slice S.H.asl S.H.sl.length S.H.csl) S.H.sl.length (S.H.sl.map eU) ∧
   fJ w1 B (.slice S.H.wb S.H.sw.blocks.length S.H.cwb) (.slice S.H.wq S.H.sw.queue.length S.H.cwq) S.H.sw∧fJ w1 B (.slice S.H.db S.H.dk.blocks.length S.H.cdb) (.slice S.H.dq S.H.dk.queue.length S.H.cdq) S.H.dk∧pV w1 B (.slice S.H.ai S.H.fi.length S.H.ci) S.H.fi ∧
   Own w1 B 85 3 (.slice S.H.ac S.H.ca.length S.H.cc) S.H.ca.length (S.H.ca.flatMap jI)∧Own w1 B 95 192 (.slice S.ab S.T.length S.cb) S.T.length (S.T.flatMap tL)∧kD w1 S.al S.cl S.l.length (S.l.map gW):=by
  rcases jZ h.ma.sp hg with hb0|⟨g,cs,hk,hga,hg'⟩
  ·have h1:=h.below hb0
   exact⟨h1.blk,h1.ma.fr,h1.ma.sl,h1.ma.sw,h1.ma.dk,h1.ma.st,h1.ma.ca,h1.tt,h1.rd⟩
  ·exact⟨dB h.blk hk (by decide) hg',ak h.ma.fr hk (by decide) hg',ak h.ma.sl hk (by decide) hg',h.ma.sw.keep hk (by decide) (by decide) hg',h.ma.dk.keep hk (by decide) (by decide) hg',h.ma.st.keep hk (by decide) (by decide) hg',ak h.ma.ca hk (by decide) hg',ak h.tt hk (by decide) hg',h.rd.keep h.ra h.bs hg' (gJ h.ma.sp hga).1⟩
 obtain⟨k0,k1,k2,k3,k4,k5,k6,k7,k8⟩:=key
 exact⟨hb,h.ge,⟨ak k1 k0 (by decide) hg2,ak k2 k0 (by decide) hg2,k3.keep k0 (by decide) (by decide) hg2,k4.keep k0 (by decide) (by decide) hg2,k5.keep k0 (by decide) (by decide) hg2,ak k6 k0 (by decide) hg2,ak ho k0 (by decide) hg2,fun p hpm=>⟨ak (hp p hpm).1 k0 (by decide) hg2,(hp p hpm).2.keep k0 (by decide) hg2⟩,h.ma.c64⟩,
  ak k7 k0 (by decide) hg2,k8.keep h.ra (Nat.le_trans h.ge (Nat.le_of_lt k0.lt)) hg2 h.ge,h.ra,h.n1,h.n2,h.n3⟩
theorem bR.appT {w w1 w2:World} {B b:Nat} {S:MW} (h:bR w B b S) (hg:w.grownBy w1 (Value.slice S.ab S.T.length S.cb).ownBlock) {a:Option Addr} {c:Nat} {T:List (List En)} (ho:Own w1 B 95 192 (.slice a T.length c) T.length (T.flatMap tL))
  (hb:aC w2 b (putAt (dR S) 12 [.slice a T.length c]) 89) (hg2:w1.grownBy w2 (some b)):bR w2 B b { S with ab:=a,cb:=c,T:=T }:=by
 have key:aC w1 b (dR S) 89∧sG w1 B S.H∧kD w1 S.al S.cl S.l.length (S.l.map gW):=by
  rcases jZ h.tt hg with hb0|⟨g,cs,hk,hga,hg'⟩
  ·have h1:=h.below hb0
   exact⟨h1.blk,h1.ma,h1.rd⟩
  ·exact⟨dB h.blk hk (by decide) hg',h.ma.keep hk (by decide) hg',h.rd.keep h.ra h.bs hg' (gJ h.tt hga).1⟩
 obtain⟨k0,k1,k2⟩:=key
 exact⟨hb,h.ge,k1.keep k0 (by decide) hg2,ak ho k0 (by decide) hg2,k2.keep h.ra (Nat.le_trans h.ge (Nat.le_of_lt k0.lt)) hg2 h.ge,h.ra,h.n1,h.n2,h.n3⟩
theorem MS.app {w0 w w1 w2:World} {B b B' sz n n' c c' : Nat} {S0 S S' : MW} {e:TypeId} {a a' : Option Addr} {xs:List Value} (h:MS w0 b S0 w S) (hm:bR w B b S) (ho:Own w B' e sz (.slice a n c) n xs) (hk:oB a∈dH S) (hg:w.grownBy w1 (Value.slice a n c).ownBlock) (hg2:w1.grownBy w2 (some b)) (hbn:ja w (.slice a n c) (.slice a' n' c'))
  (hn:∀x,gM b S' x→gM b S x∨oB a' = some x):MS w0 b S0 w2 S':=by
 have h1:MS w0 b S0 w1 S:=by
  rcases jZ ho hg with hb0|⟨g,cs,_,hga,hg'⟩
  ·exact h.below hb0
  ·exact h.put hg' (.inr (by rw[←hga];exact hk)) (fun x hx => .inl hx)
 refine h1.put hg2 (.inl rfl) fun x hx => ?_
 rcases hn x hx with hx|hx
 ·exact .inl hx
 ·rcases hbn with e1|e1
  ·rw[gF,gF] at e1
   exact .inl (.inr (by rw[←hx,e1];exact hk))
  ·exact .inr (Nat.le_trans h.size (e1 x (by rw[gF];exact hx)))
theorem ents_info:(Try.prog.info? 95).map (fun i=>(i.zero,i.size,i.bytes))=some (some (.agg (tL (List.replicate 64 zEn)).toArray),192,1536):=by kernel_rfl
theorem rT {w:World} {ops:Array Oper} {rest:List Oper} {o:Oper} {a:Act} {Q:Exit→Act→World→Prop} (hg:o.guard=none) (s x:Operand)
  (hop:o.op=Op.call { callee:=Callee.builtin Builtin.append,args:=#[s,x],argTypes:=#[87,87] }) {cs:Array Value} (hcs:cs=(tL (List.replicate 64 zEn)).toArray)
  (B:Nat) (v:Value) (n:Nat) (xs:List Value) (hs:a.eval s=v) (hown:Own w B 95 192 v n xs) (hx:a.eval x = .slice (some ⟨w.heap.size,0,none⟩) 1 1) (hn:n≤100) (hB:B≤w.heap.size)
  (hK:∀v' w',Own w' B 95 192 v' (n+1) (xs++tL (List.replicate 64 zEn))→(w.alloc (.cells (tL (List.replicate 64 zEn)).toArray 95)).grownBy w' v.ownBlock→ja (w.alloc (.cells (tL (List.replicate 64 zEn)).toArray 95)) v v'→wpList Try.prog ops Q rest (a.put o.dst v') w') :
  wpList Try.prog ops Q (o::rest) a (w.alloc (.cells cs 95)):=by
 subst hcs
 exact eG hg s x 87 hop B 95 _ 192 1536 Try.underlying87 ents_info rfl (by decide) v n xs hs (hown.alloc _) (some ⟨w.heap.size,0,none⟩) 1 1 (tL (List.replicate 64 zEn)) hx (fun h=>(by cases h)) (Nat.le_refl _) (oM _) (by simpa using bW.new w (tL (List.replicate 64 zEn)).toArray 95) (by decide +kernel) (by unfold maxLen;omega) (by omega) (cz hB _) hK
theorem uO (S:MW) (B b:Nat) (w:World) (h:bR w B b S) (hd:Bd S.H.ma S.T) (hf:Cf S) (hl4:S.H.sp.length<4) :
  Calls Try.prog 33 #[.pointer (some ⟨b,0,none⟩)] w (SpaceR S B b w):=by
 have hd':=Lib.hid hd
 have hf':=Lib.hid hf
 have hBs:=Lib.hid h.bs
 have hfl5:S.H.fi.length≤5:=by
  have:=(kK.1 hd.few.2.2.2.2.1).1.1
  simpa[MH.ma,dP] using this
 clear hd hf
 go_enter Try.func33,Try.ntmps33
 go_wp2_with fail
 refine (cB _ 4 B b _ h (by omega)).mono ?_
 rintro r w1 ⟨n1,a1,c1,l1,rfl,h1,s1,hn1,hq1⟩
 obtain⟨N,rfl⟩:=Int.eq_ofNat_of_zero_le hn1.1
 have hN4:N<4:=by omega
 have hq1':=Lib.hid hq1
 clear h hn1 hq1
 have hwl:IntKind.i64.wrap ((S.H.fi.length:Int)+1)=(S.H.fi.length:Int)+1:=IntWalk.i64_in _ (by omega)
 go_upto_region 2 with (fail)
 go_loopw [11,2] (fun i u wr => ∃(k:Nat) (A:List Ar) (a:Option Addr) (c:Nat) (al:Option Addr) (cl:Nat) (ll:List UInt8),k≤N∧i = .int .i64 k∧u = .slice a A.length c∧Own wr B 69 7 (.slice a A.length c) A.length (A.flatMap gV)∧bR wr B b (S.lst al cl ll)∧MS w b S wr (S.lst al cl ll) ∧
  Hid ((aR A).1=0∧(∀n g,onA A n=some g→g.fi<S.H.fi.length)∧(k=0→A=[]∧ll=l1))) (fun i _ _=>N-(intOf i).toNat)
 case atStart=>exact⟨0,[],none,0,a1,c1,l1,Nat.zero_le _,rfl,rfl,by simpa using Own.nil _ _ _ _,h1,s1,Lib.hid ⟨by decide,fun n g h=>(by cases h),fun _=>⟨rfl,rfl⟩⟩⟩
 case round=>
  clear h1 s1
  obtain⟨k,A,a,c,al,cl,ll,hk,rfl,rfl,hown,hm,hs,hA⟩:=hrel
  have hnu:=Lib.hid (hm.own_not hown (by decide))
  by_cases hkN:k<N
  ·have hki:(k:Int)<(N:Int):=by omega
   go_upto_region 3 with (fail)
   refine dA 21 [_,.r 1 ((aM fun v => ∃x:Int,v = .int .i64 x∧0≤x∧x<12)),_,.r 3 ((aM fun v => ∃x:Int,v = .int .i64 x)),.r 4 ((aM fun v => ∃u,v = .bool u)),_,.r 6 ((aM fun v => ∃x:Int,v = .int .i64 x)),.r 7 ((aM fun v => ∃u,v = .bool u)),_,_,_,_,_,_,.v (.slice S.H.ai S.H.fi.length S.H.ci),_,_,.r 17 ((aM fun v => ∃x:Int,v = .int .i64 x∧0≤x∧x<(S.H.fi.length:Int)+1)),.r 18 ((aM fun v => ∃x:Int,v = .int .i64 x∧-1≤x∧x<S.H.fi.length)),.r 19 ((aM fun v => ∃fr rd wr fi,v = .agg (iT ⟨fr,0,rd,wr,false,fi,0⟩)∧0≤fr∧fr<12∧-1≤fi∧fi<S.H.fi.length)),.r 20 ((aM fun _=>True))] (Ah (S.lst al cl ll) B b wr 20 (iT ⟨0,0,false,false,false,0,0⟩) 69) eZ (fun _=>⟨⟨al,cl,ll,hm,MS.refl _ _ _,fun t ht=>(by cases ht)⟩,fun e=>(by cases e)⟩) (Qk eZ rfl (all_cons ?_ (Qk eZ rfl (all_cons ?_ (all_cons ?_ (Qk eZ rfl (all_cons ?_ (all_cons ?_ (Qk eZ rfl (Qk eZ rfl (Qk eZ rfl (Qf eZ b 1 rfl rfl (Qf eZ b 8 rfl rfl (Qf eZ b 8 rfl rfl (all_cons ?_ (Qn eZ rfl rfl rfl rfl (Qb eZ (.int .i64 ((S.H.fi.length:Int)+1)) (by simp[go_sem,hwl]) rfl rfl rfl rfl rfl (all_cons ?_ (all_cons ?_ (all_cons ?_ (all_cons ?_ (all_nil)))))))))))))))))))))) (fun _=>rfl) rfl ?_
   ·intro ρ y W L hw hn hLi hLd hb hd;have E13:=hw 13 0 rfl;have h0:y 0=_:=hd 0 rfl
    have EC:∀v,ρ (.const v)=v:=fun v=>hn (.const v) trivial
    have EF:∀f,ρ (.func f) = .func (.func f) #[] #[]:=fun f=>hn (.func f) trivial
    refine dK _ _ (ah rfl) (aN rfl (EF _) Try.func28 (by kernel_rfl) (by kernel_rfl) (by simp only[List.map_toArray,List.map_cons,List.map_nil,E13,h0,EC,EF];rfl)) ?_
    exact nJ rfl (fun _=>rfl) 12 (by omega) hb fun x h1 h2 h3 _=>⟨x,rfl,h1,by omega⟩
   ·intro ρ y W L hw hn hLi hLd hb hd;have E15:=hw 15 2 rfl;have h2:y 2=_:=hd 2 rfl
    have EC:∀v,ρ (.const v)=v:=fun v=>hn (.const v) trivial
    have EF:∀f,ρ (.func f) = .func (.func f) #[] #[]:=fun f=>hn (.func f) trivial
    refine dK _ _ (ah rfl) (aN rfl (EF _) Try.func28 (by kernel_rfl) (by kernel_rfl) (by simp only[List.map_toArray,List.map_cons,List.map_nil,E15,h2,EC,EF];rfl)) ?_
    exact nJ rfl (fun _=>rfl) 4 (by omega) hb fun x h1 h2 h3 _=>⟨x,rfl⟩
   ·intro ρ y W L hw hn hLi hLd hb hd
    refine bG eZ (fun _ _ h=>h) hb ?_
    have E16:=hw 16 3 rfl
    have h3:=hd 3 rfl
    obtain⟨x,hx⟩:=h3
    refine aj _ (ah rfl) (jo rfl (E16.trans hx) (hn (.const _) trivial) (by simp[go_sem];rfl)) ⟨_,rfl⟩
   ·intro ρ y W L hw hn hLi hLd hb hd;have E18:=hw 18 5 rfl;have h5:y 5=_:=hd 5 rfl
    have EC:∀v,ρ (.const v)=v:=fun v=>hn (.const v) trivial
    have EF:∀f,ρ (.func f) = .func (.func f) #[] #[]:=fun f=>hn (.func f) trivial
    refine dK _ _ (ah rfl) (aN rfl (EF _) Try.func28 (by kernel_rfl) (by kernel_rfl) (by simp only[List.map_toArray,List.map_cons,List.map_nil,E18,h5,EC,EF];rfl)) ?_
    exact nJ rfl (fun _=>rfl) 3 (by omega) hb fun x h1 h2 h3 _=>⟨x,rfl⟩
   ·intro ρ y W L hw hn hLi hLd hb hd
    refine bG eZ (fun _ _ h=>h) hb ?_
    have E19:=hw 19 6 rfl
    have h6:=hd 6 rfl
    obtain⟨x,hx⟩:=h6
    refine aj _ (ah rfl) (jo rfl (E19.trans hx) (hn (.const _) trivial) (by simp[go_sem];rfl)) ⟨_,rfl⟩
   ·intro ρ y W L hw hn hLi hLd hb hd
    refine bG eZ (fun _ _ h=>h) hb ?_
    have E26:=hw 26 13 rfl
    have h13:y 13=_:=hd 13 rfl
    obtain⟨⟨a0,c0,l0,m1,m2,m3⟩,_⟩:=hb
    refine aj (.slice S.H.ai S.H.fi.length S.H.ci) (ah rfl) (by simp[execOp,go_sem,E26,h13,m1.blk.cell,dR,MW.lst]) rfl
   ·intro ρ y W L hw hn hLi hLd hb hd;have E21:=hw 21 8 rfl;have h8:y 8=_:=hd 8 rfl;have E29:=hw 29 16 rfl;have h16:y 16=_:=hd 16 rfl
    have EF:∀f,ρ (.func f) = .func (.func f) #[] #[]:=fun f=>hn (.func f) trivial
    refine dK _ _ (ah rfl) (aN rfl (EF _) Try.func28 (by kernel_rfl) (by kernel_rfl) (by simp only[List.map_toArray,List.map_cons,List.map_nil,E21,h8,E29,h16,EF];rfl)) ?_
    exact nJ rfl (fun _=>rfl) _ (by omega) hb fun x h1 h2 h3 _=>⟨x,rfl,h1,by omega⟩
   ·intro ρ y W L hw hn hLi hLd hb hd
    refine bG eZ (fun _ _ h=>h) hb ?_
    have E30:=hw 30 17 rfl
    have h17:=hd 17 rfl
    obtain⟨x,hx,k1,k2⟩:=h17
    have hw9:IntKind.i64.wrap (x-1)=x-1:=IntWalk.i64_in _ (by omega)
    refine aj (.int .i64 (x-1)) (ah rfl) (jo rfl (E30.trans hx) (hn (.const _) trivial) (by simp[go_sem,hw9])) ⟨_,rfl,by omega,by omega⟩
   ·intro ρ y W L hw hn hLi hLd hb hd
    refine bG eZ (fun _ _ h=>h) hb ?_
    have E14:=hw 14 1 rfl
    have h1:=hd 1 rfl
    have E17:=hw 17 4 rfl
    have h4:=hd 4 rfl
    have E20:=hw 20 7 rfl
    have h7:=hd 7 rfl
    have E31:=hw 31 18 rfl
    have h18:=hd 18 rfl
    obtain⟨x1,hx1,k1,k2⟩:=h1
    obtain⟨x2,hx2⟩:=h4
    obtain⟨x3,hx3⟩:=h7
    obtain⟨x4,hx4,k3,k4⟩:=h18
    refine aj (.agg (iT ⟨x1,0,x2,x3,false,x4,0⟩)) (ah rfl) (by simp[execOp,go_sem,E14,E17,E20,E31,hx1,hx2,hx3,hx4,iT]) ⟨x1,x2,x3,x4,rfl,k1,k2,k3,k4⟩
   ·intro ρ y W L hw hn hLi hLd hb hd
    refine bi (.pointer (some ⟨W.heap.size,0,none⟩)) (ah rfl) ?_ (FC hm hb) trivial
    simp[execOp,go_sem,iT]
   intro y W2 hbW2 hRW2
   have hy1:((aM fun v => ∃x:Int,v = .int .i64 x∧0≤x∧x<12)).r (y 1) W2:=hRW2 1 (by decide)
   have hy3:((aM fun v => ∃x:Int,v = .int .i64 x)).r (y 3) W2:=hRW2 3 (by decide)
   have hy4:((aM fun v => ∃u,v = .bool u)).r (y 4) W2:=hRW2 4 (by decide)
   have hy6:((aM fun v => ∃x:Int,v = .int .i64 x)).r (y 6) W2:=hRW2 6 (by decide)
   have hy7:((aM fun v => ∃u,v = .bool u)).r (y 7) W2:=hRW2 7 (by decide)
   have hy17:((aM fun v => ∃x:Int,v = .int .i64 x∧0≤x∧x<(S.H.fi.length:Int)+1)).r (y 17) W2:=hRW2 17 (by decide)
   have hy18:((aM fun v => ∃x:Int,v = .int .i64 x∧-1≤x∧x<S.H.fi.length)).r (y 18) W2:=hRW2 18 (by decide)
   have hy19:((aM fun v => ∃fr rd wr fi,v = .agg (iT ⟨fr,0,rd,wr,false,fi,0⟩)∧0≤fr∧fr<12∧-1≤fi∧fi<S.H.fi.length)).r (y 19) W2:=hRW2 19 (by decide)
   have hy20:((aM fun _=>True)).r (y 20) W2:=hRW2 20 (by decide)
   clear hRW2
   obtain⟨⟨a2,c2,l2,h2,s2,_⟩,hbox⟩:=hbW2
   obtain⟨gx,hgx,axz,hnx,hxw2⟩:=hbox rfl
   obtain⟨fr,rd,wr2,fi,hv,hb1,hb2,hb3,hb4⟩:=hy19
   rw[hv,hgx]
   clear hv hgx hbox
   rw[iJ] at h2 s2
   have hown2:=s2.ownN hown hnu.out
   have hnu2:Hid (∀x,(Value.slice a A.length c).ownBlock=some x→¬gM b S x):=hnu
   have hna:=Lib.hid (hm.newA hxw2)
   have hux:Hid (∀x,(Value.slice a A.length c).ownBlock=some x→some gx≠some x):=Lib.hid fun x hx e=>by
    have:=tC hown x hx
    cases e
    omega
   have hxw:=Lib.hid (Nat.le_trans hs.size hxw2)
   have hxB:B≤gx:=Nat.le_trans hm.bs hxw2
   have hnx:=Lib.hid hnx
   have s2:=hs.trans s2
   clear hm hs hown hxw2
   go_wp2_with (refine aB rfl _ _ _ rfl gx (iT ⟨fr,0,rd,wr2,false,fi,0⟩) rfl rfl _ _ axz rfl area_size (Iu _) ?_)
   intro w3 ax3 hg3
   have h3:=h2.locA axz hnx.out hna.out hxB hg3
   have s3:=s2.loc hg3 hxw.out
   have hown3:=hown2.grown hg3 hux.out
   clear h2 s2 hown2 hg3 axz
   have hwf:IntKind.i64.wrap (fr+1)=fr+1:=IntWalk.i64_in _ (by omega)
   go_upto_region 4 with (fail)
   refine dA 7 [_,.v (.int .i64 fr),_,_,.r 4 ((aM fun v => ∃x:Int,v = .int .i64 x∧0≤x∧x<4)),.r 5 ((aM fun v => ∃x:Int,v = .int .i64 x∧fr<x∧x≤fr+4)),_] (Ba (S.lst a2 c2 l2) B b w3 [(gx,iT ⟨fr,0,rd,wr2,false,fi,0⟩,69)]) ay (fun _=>⟨a2,c2,l2,h3,MS.refl _ _ _,by simpa using ⟨ax3,hnx.out⟩⟩) (Qf ay gx 0 rfl rfl (all_cons ?_ (Qb ay (.int .i64 (fr+1)) (by simp[go_sem,hwf]) rfl rfl rfl rfl rfl (Qk ay rfl (all_cons ?_ (all_cons ?_ (Qf ay gx 1 rfl rfl (all_nil)))))))) (fun _=>rfl) rfl ?_
   ·intro ρ y W L hw hn hLi hLd hb hd
    refine bG ay (fun _ _ h=>h) hb ?_
    have E33:=hw 33 0 rfl
    have h0:y 0=_:=hd 0 rfl
    obtain⟨a0,c0,l0,m1,m2,m3⟩:=hb
    have m3:=(m3 _ (List.mem_singleton.2 rfl)).1
    refine aj (.int .i64 fr) (ah rfl) (by simp[execOp,go_sem,E33,h0,m3.cell,iT]) rfl
   ·intro ρ y W L hw hn hLi hLd hb hd;have E36:=hw 36 3 rfl;have h3:y 3=_:=hd 3 rfl
    have EC:∀v,ρ (.const v)=v:=fun v=>hn (.const v) trivial
    have EF:∀f,ρ (.func f) = .func (.func f) #[] #[]:=fun f=>hn (.func f) trivial
    refine dK _ _ (ah rfl) (aN rfl (EF _) Try.func28 (by kernel_rfl) (by kernel_rfl) (by simp only[List.map_toArray,List.map_cons,List.map_nil,E36,h3,EC,EF];rfl)) ?_
    exact qC 4 (by omega) hb fun x h1 h2 h3 _=>⟨x,rfl,h1,by omega⟩
   ·intro ρ y W L hw hn hLi hLd hb hd
    refine bG ay (fun _ _ h=>h) hb ?_
    have E35:=hw 35 2 rfl
    have h2:y 2=_:=hd 2 rfl
    have E37:=hw 37 4 rfl
    have h4:=hd 4 rfl
    obtain⟨x,hx,k1,k2⟩:=h4
    have hw9:IntKind.i64.wrap (fr+1+x)=fr+1+x:=IntWalk.i64_in _ (by omega)
    refine aj (.int .i64 (fr+1+x)) (ah rfl) (jo rfl (E35.trans h2) (E37.trans hx) (by simp[go_sem,hw9])) ⟨_,rfl,by omega,by omega⟩
   intro y W4 hbW4 hRW4
   have hy4:((aM fun v => ∃x:Int,v = .int .i64 x∧0≤x∧x<4)).r (y 4) W4:=hRW4 4 (by decide)
   have hy5:((aM fun v => ∃x:Int,v = .int .i64 x∧fr<x∧x≤fr+4)).r (y 5) W4:=hRW4 5 (by decide)
   clear hRW4
   obtain⟨a4,c4,l4,h4,s4,hks⟩:=hbW4
   have ax4:=(hks _ (List.mem_singleton.2 rfl)).1
   rw[iJ] at h4 s4
   have hown4:=s4.ownN hown3 hnu2.out
   have s4:=s3.trans s4
   obtain⟨en,hv,he1,he2⟩:=hy5
   rw[hv]
   clear hv hks h3 s3 hown3 ax3 hwf
   go_wp2_with (refine aA rfl _ _ _ rfl gx 1 _ [.int .i64 en] rfl rfl rfl _ _ ax4 (by show 1+1≤7;omega) (by kernel_rfl) (fun u hu=>by cases List.mem_singleton.1 hu;rfl) ?_)
   intro w5 ax5 hg5
   rw[show putAt (iT ⟨fr,0,rd,wr2,false,fi,0⟩) 1 [.int .i64 en]=iT ⟨fr,en,rd,wr2,false,fi,0⟩ from rfl] at ax5
   have h5:=h4.locA ax4 hnx.out hna.out hxB hg5
   have s5:=s4.loc hg5 hxw.out
   have hown5:=hown4.grown hg5 hux.out
   clear h4 s4 hown4 ax4 hg5
   have hcx:=ax5.cell
   unfold iT at hcx
   go_upto_if 42 with (fail)
   go_cut [2] (fun s2 wx=>s2 = .slice a A.length c∧∃(X:Ar) (a:Option Addr) (cl:Nat) (l:List UInt8),aC wx gx (iT X) 69∧bR wx B b (S.lst a cl l)∧MS w b S wx (S.lst a cl l)∧Own wx B 69 7 s2 A.length (A.flatMap gV)∧Hid (X.fi<S.H.fi.length))
   case first=>
    by_cases hfi0:0≤fi
    ·go_wp2_with fail
     refine (cB _ 2 B b _ h5 (by omega)).mono ?_
     rintro r w6 ⟨x6,a6,c6,l6,rfl,h6,s6,_,_⟩
     rw[iJ] at h6 s6
     have ax6:=s6.blkN ax5 hnx.out
     have own6:=s6.ownN hown5 hnu2.out
     have s6:=s5.trans s6
     clear h5 s5 hown5 hcx ax5
     go_wp2_with fail
     refine (cB _ 4 B b _ h6 (by omega)).mono ?_
     rintro r w7 ⟨x7,a7,c7,l7,rfl,h7,s7,_,_⟩
     rw[iJ] at h7 s7
     have ax7:=s7.blkN ax6 hnx.out
     have own7:=s7.ownN own6 hnu2.out
     have s7:=s6.trans s7
     clear h6 s6 own6 ax6
     go_wp2_with (refine aA rfl _ _ _ rfl gx 4 _ [.bool (x6==1)] rfl rfl rfl _ _ ax7 (by show 4+1≤7;omega) (by kernel_rfl) (fun u hu=>by cases List.mem_singleton.1 hu;rfl) ?_)
     intro w8 ax8 hg8
     rw[show putAt (iT ⟨fr,en,rd,wr2,false,fi,0⟩) 4 [.bool (x6==1)]=iT ⟨fr,en,rd,wr2,x6==1,fi,0⟩ from rfl] at ax8
     have h8:=h7.locA ax7 hnx.out hna.out hxB hg8
     have s8:=s7.loc hg8 hxw.out
     have own8:=own7.grown hg8 hux.out
     clear h7 s7 own7 ax7 hg8
     go_wp2_with (refine aA rfl _ _ _ rfl gx 6 _ [.int .i64 x7] rfl rfl rfl _ _ ax8 (by show 6+1≤7;omega) (by kernel_rfl) (fun u hu=>by cases List.mem_singleton.1 hu;rfl) ?_)
     intro w9 ax9 hg9
     rw[show putAt (iT ⟨fr,en,rd,wr2,x6==1,fi,0⟩) 6 [.int .i64 x7]=iT ⟨fr,en,rd,wr2,x6==1,fi,x7⟩ from rfl] at ax9
     have h9:=h8.locA ax8 hnx.out hna.out hxB hg9
     have s9:=s8.loc hg9 hxw.out
     have own9:=own8.grown hg9 hux.out
     clear h8 s8 own8 ax8 hg9
     go_wp2
     go_meet
     case rel=>exact⟨rfl,_,a7,c7,l7,ax9,h9,s9,own9,Lib.hid hb4⟩
    ·go_wp2
     go_meet
     case rel=>exact⟨rfl,_,a4,c4,l4,ax5,h5,s5,hown5,Lib.hid hb4⟩
   case rest=>
    obtain⟨rfl,X,a6,c6,l6,ax6,h6,s6,own6,hXf⟩:=hcut
    clear h5 s5 hown5 ax5 hcx
    go_wp2_with (refine ax _ _ rfl gx 0 rfl rfl _ ax6.rd _ Try.underlying69 rfl area_size ?_)
    refine (EL A X a c _ (have h9:=gI own6;⟨h9.le,h9.mx,h9.nl,h9.rd⟩)).mono ?_
    rintro r w7 ⟨v7,rfl,own7,hb7⟩
    obtain⟨a7,c7,rfl,_⟩:=own7.rd
    have own7:=own7.mono h6.bs
    have h7:=h6.below hb7
    have s7:=s6.below hb7
    have own6:=own6.below hb7
    clear h6 s6 ax6 hb7 hnu hnu2 hux hnx hna hxw hxB
    by_cases hme:rE A X=0
    ·have hmr:=AB hme
     have hnew:Hid ((aR (oI A X)).1=0∧(∀n g,onA (oI A X) n=some g→g.fi<S.H.fi.length)∧(k+1=0→oI A X=[]∧l6=l1)):=Lib.hid ⟨eD.2 ⟨hmr.1,hmr.2.1⟩,fun n g hg=>by
      rw[hmr.2.2] at hg
      split at hg
      ·cases hg;exact hXf.out
      ·exact hA.out.2.1 n g hg,fun e=>by omega⟩
     clear hmr
     rw[hme]
     go_wp2
     go_roundw
     case rel=>exact⟨k+1,oI A X,a7,c7,a6,c6,l6,by omega,by go_num,rfl,own7,h7,s7,hnew⟩
     case measure=>simp[intOf];omega
    ·have hnew:Hid ((aR A).1=0∧(∀n g,onA A n=some g→g.fi<S.H.fi.length)∧(k+1=0→A=[]∧l6=l1)):=Lib.hid ⟨hA.out.1,hA.out.2.1,fun e=>by omega⟩
     go_wp2
     go_roundw
     case rel=>exact⟨k+1,A,a,c,a6,c6,l6,by omega,by go_num,rfl,own6,h7,s7,hnew⟩
     case measure=>simp[intOf];omega
  ·have hki:¬(k:Int)<(N:Int):=by omega
   obtain rfl:k=N:=by omega
   have hAl:A.length≤16:=(eD.1 hA.out.1).1
   have hc:=hm.blk.cell
   unfold dR at hc
   dsimp only[MW.lst] at hc
   have hownP:=hm.ma.sp
   dsimp only[MW.lst] at hownP
   go_wp2_with (at_builtin;go_must (refine eG rfl _ _ 38 rfl B 65 _ 10 224 Try.underlying38 space_info rfl (by decide) _ S.H.sp.length (S.H.sp.flatMap lS) rfl (hownP.alloc _) (some ⟨wr.heap.size,0,none⟩) 1 1 (lS ⟨true,a,c,A,nTs,zTb⟩) rfl (fun h=>(by cases h)) (Nat.le_refl _) rfl (bW.new _ (lu ⟨true,a,c,A,nTs,zTb⟩) _) (aZ (by simp[lu,nTs,Value.oneCell'])) (by unfold maxLen;omega) (by omega) (cz hm.bs _) ?_))
   intro v2 w2 own2 hg2 hsn2
   have hal:=(Below.refl wr.heap.size wr).alloc (Nat.le_refl _) (.cells (lu (⟨true,a,c,A,nTs,zTb⟩:PS)) 65)
   have hm1:=hm.below hal
   have hs1:=hs.below hal
   have hown1:=hown.below hal
   have hownP1:Own (wr.alloc (.cells (lu (⟨true,a,c,A,nTs,zTb⟩:PS)) 65)) B 65 10 (.slice S.H.ap S.H.sp.length S.H.cp) S.H.sp.length (S.H.sp.flatMap lS):=hm1.ma.sp
   have hown2:=eF hownP1 hg2 hown1 (by decide)
   have hbk2:=qp hownP1 hg2 hm1.blk (by decide)
   have hps2:∀p∈S.H.sp++[(⟨true,a,c,A,nTs,zTb⟩:PS)],Own w2 B 69 7 (.slice p.aa p.ar.length p.ac) p.ar.length (p.ar.flatMap gV)∧nO w2 B (jG p.ts) p.tb:=fun p hp=>by
    rcases List.mem_append.1 hp with hp|hp
    ·exact⟨eF hownP1 hg2 (hm1.ma.ps p hp).1 (by decide),sP hownP1 hg2 (hm1.ma.ps p hp).2⟩
    ·rw[List.mem_singleton.1 hp]
     exact⟨hown2,zR _ _⟩
   obtain⟨a2,c2,rfl,_⟩:=own2.rd
   have hlen2:(S.H.sp++[(⟨true,a,c,A,nTs,zTb⟩:PS)]).length=S.H.sp.length+1:=by simp
   have own2' : Own w2 B 65 10 (.slice a2 (S.H.sp++[(⟨true,a,c,A,nTs,zTb⟩:PS)]).length c2) (S.H.sp++[(⟨true,a,c,A,nTs,zTb⟩:PS)]).length ((S.H.sp++[(⟨true,a,c,A,nTs,zTb⟩:PS)]).flatMap lS):=by
    rw[hlen2,List.flatMap_append]
    simpa using own2
   clear hc hm hs hown hown1 hownP own2 hnu
   go_wp2_with (refine aA rfl _ _ _ rfl b 11 _ [.slice a2 (S.H.sp.length+1) c2] rfl rfl rfl _ _ hbk2 (by show 11+1≤13;omega) (by kernel_rfl) (fun u hu=>by cases List.mem_singleton.1 hu;rfl) ?_)
   intro w3 hb3 hg3
   have h3:bR w3 B b { S.lst al cl ll with H:={ S.H with ap:=a2,cp:=c2,sp:=S.H.sp++[(⟨true,a,c,A,nTs,zTb⟩:PS)] } }:=hm1.appP hg2 own2' hps2 (by rw[hlen2];exact hb3) hg3
   have s3:MS w b S w3 { S.lst al cl ll with H:={ S.H with ap:=a2,cp:=c2,sp:=S.H.sp++[(⟨true,a,c,A,nTs,zTb⟩:PS)] } }:=hs1.app hm1 hownP1 (by simp[dH,MW.lst]) hg2 hg3 hsn2 (fun x hx=>by
    rcases hx with hx|hx
    ·exact .inl (.inl hx)
    ·simp only[dH,MW.lst,List.mem_cons,List.not_mem_nil,or_false] at hx
     rcases hx with hx|hx|hx|hx|hx|hx|hx|hx|hx<;>first|exact .inr hx.symm|exact .inl (.inr (by simp[dH,MW.lst,hx])))
   have hT100:S.T.length≤100:=by
    have h9:=hd'.out.ok.len
    have h8:S.H.ma.sp.length=S.H.sp.length:=List.length_map _
    omega
   clear hm1 hs1 hownP1 hbk2 hps2 own2' hb3 hg3 hsn2 hg2 hal hown2
   have hc:=h3.blk.cell
   unfold dR at hc
   dsimp only[MW.lst] at hc
   have hownT:Own w3 B 95 192 (.slice S.ab S.T.length S.cb) S.T.length (S.T.flatMap tL):=h3.tt
   go_wp2_with (at_builtin;go_must (refine rT rfl _ _ rfl (by kernel_rfl) B (.slice S.ab S.T.length S.cb) S.T.length (S.T.flatMap tL) rfl hownT rfl hT100 h3.bs ?_))
   intro v4 w4 own4 hg4 hsn4
   have hal3:=(Below.refl w3.heap.size w3).alloc (Nat.le_refl _) (.cells (tL (List.replicate 64 zEn)).toArray 95)
   have h3a:=h3.below hal3
   have s3a:=s3.below hal3
   have hownTa:=hownT.below hal3
   have hbk4:aC w4 b (dR { S.lst al cl ll with H:={ S.H with ap:=a2,cp:=c2,sp:=S.H.sp++[(⟨true,a,c,A,nTs,zTb⟩:PS)] } }) 89:=by
    rcases jZ hownTa hg4 with hb0|⟨g,cs,hk,_,hg'⟩
    ·exact h3a.blk.ext hb0
    ·exact dB h3a.blk hk (by decide) hg'
   obtain⟨a4,c4,rfl,_⟩:=own4.rd
   have hlen4:(S.T++[List.replicate 64 zEn]).length=S.T.length+1:=by simp
   have own4' : Own w4 B 95 192 (.slice a4 (S.T++[List.replicate 64 zEn]).length c4) (S.T++[List.replicate 64 zEn]).length ((S.T++[List.replicate 64 zEn]).flatMap tL):=by
    rw[hlen4,List.flatMap_append]
    simpa using own4
   clear hc h3 s3 hownT own4 hal3
   go_wp2_with (refine aA rfl _ _ _ rfl b 12 _ [.slice a4 (S.T.length+1) c4] rfl rfl rfl _ _ hbk4 (by show 12+1≤13;omega) (by kernel_rfl) (fun u hu=>by cases List.mem_singleton.1 hu;rfl) ?_)
   intro w5 hb5 hg5
   have h5:bR w5 B b { S.lst al cl ll with H:={ S.H with ap:=a2,cp:=c2,sp:=S.H.sp++[(⟨true,a,c,A,nTs,zTb⟩:PS)] },ab:=a4,cb:=c4,T:=S.T++[List.replicate 64 zEn] }:=h3a.appT hg4 own4' (by rw[hlen4];exact hb5) hg5
   have s5:MS w b S w5 { S.lst al cl ll with H:={ S.H with ap:=a2,cp:=c2,sp:=S.H.sp++[(⟨true,a,c,A,nTs,zTb⟩:PS)] },ab:=a4,cb:=c4,T:=S.T++[List.replicate 64 zEn] }:=s3a.app h3a hownTa (by simp[dH,MW.lst]) hg4 hg5 hsn4 (fun x hx=>by
    rcases hx with hx|hx
    ·exact .inl (.inl hx)
    ·simp only[dH,MW.lst,List.mem_cons,List.not_mem_nil,or_false] at hx
     rcases hx with hx|hx|hx|hx|hx|hx|hx|hx|hx<;>first|exact .inr hx.symm|exact .inl (.inr (by simp[dH,MW.lst,hx])))
   clear h3a s3a hownTa hbk4 own4' hb5 hg5 hsn4 hg4
   have hma5:({ S.lst al cl ll with H:={ S.H with ap:=a2,cp:=c2,sp:=S.H.sp++[(⟨true,a,c,A,nTs,zTb⟩:PS)] },ab:=a4,cb:=c4,T:=S.T++[List.replicate 64 zEn] }:MW).H.ma = { S.H.ma with sp:=S.H.ma.sp++[⟨true,A,zTb⟩] }:=by simp[MH.ma,PS.sp]
   have hbd5:Bd ({ S.lst al cl ll with H:={ S.H with ap:=a2,cp:=c2,sp:=S.H.sp++[(⟨true,a,c,A,nTs,zTb⟩:PS)] },ab:=a4,cb:=c4,T:=S.T++[List.replicate 64 zEn] }:MW).H.ma ({ S.lst al cl ll with H:={ S.H with ap:=a2,cp:=c2,sp:=S.H.sp++[(⟨true,a,c,A,nTs,zTb⟩:PS)] },ab:=a4,cb:=c4,T:=S.T++[List.replicate 64 zEn] }:MW).T:=by
    rw[hma5]
    exact hd'.out.more (s:=⟨true,A,zTb⟩) (by show (S.H.sp.map PS.sp).length<4;rw[List.length_map];exact hl4) rfl hA.out.1
   have hmore:Hid (More S { S.lst al cl ll with H:={ S.H with ap:=a2,cp:=c2,sp:=S.H.sp++[(⟨true,a,c,A,nTs,zTb⟩:PS)] },ab:=a4,cb:=c4,T:=S.T++[List.replicate 64 zEn] }):=Lib.hid ⟨hbd5,fun p hp n g hg=>by
    rcases List.mem_append.1 hp with hp|hp
    ·exact hf'.out p hp n g hg
    ·rw[List.mem_singleton.1 hp] at hg
     exact hA.out.2.1 n g hg,rfl,rfl,rfl,by simp,rfl⟩
   have hTl:S.T.length=S.H.sp.length:=by
    have h9:=hd'.out.ok.len
    have h8:S.H.ma.sp.length=S.H.sp.length:=List.length_map _
    omega
   have hent5:Hid (∀j:Nat,(bZ ({ S.lst al cl ll with H:={ S.H with ap:=a2,cp:=c2,sp:=S.H.sp++[(⟨true,a,c,A,nTs,zTb⟩:PS)] },ab:=a4,cb:=c4,T:=S.T++[List.replicate 64 zEn] }:MW).T S.H.sp.length j).k=0):=Lib.hid fun j=>by
    unfold bZ bY
    rw[List.getD_eq_getElem?_getD (l:=S.T++_),List.getElem?_append_right (by omega),←hTl,Nat.sub_self]
    show ((List.replicate 64 zEn).getD j zEn).k=0
    rw[List.getD_eq_getElem?_getD,List.getElem?_replicate]
    split<;>rfl
   have hspn5:Hid (dM ({ S.lst al cl ll with H:={ S.H with ap:=a2,cp:=c2,sp:=S.H.sp++[(⟨true,a,c,A,nTs,zTb⟩:PS)] },ab:=a4,cb:=c4,T:=S.T++[List.replicate 64 zEn] }:MW).H.ma S.H.sp.length=⟨true,A,zTb⟩):=Lib.hid (by
    rw[hma5]
    unfold dM
    have h8:S.H.ma.sp.length=S.H.sp.length:=List.length_map _
    rw[List.getD_eq_getElem?_getD,List.getElem?_append_right (by omega),h8,Nat.sub_self];rfl)
   have hpar5:∀W,bR W B b { S.lst al cl ll with H:={ S.H with ap:=a2,cp:=c2,sp:=S.H.sp++[(⟨true,a,c,A,nTs,zTb⟩:PS)] },ab:=a4,cb:=c4,T:=S.T++[List.replicate 64 zEn] }→bW W a (A.flatMap gV):=fun W hW=>(gI (hW.ma.ps (⟨true,a,c,A,nTs,zTb⟩:PS) (List.mem_append_right _ (List.mem_singleton.2 rfl))).1).rd
   have hspl5:Hid (({ S.lst al cl ll with H:={ S.H with ap:=a2,cp:=c2,sp:=S.H.sp++[(⟨true,a,c,A,nTs,zTb⟩:PS)] },ab:=a4,cb:=c4,T:=S.T++[List.replicate 64 zEn] }:MW).H.sp.length=S.H.sp.length+1):=Lib.hid (by simp)
   have hq5:Hid (S.l=[]→A=[]∧({ S.lst al cl ll with H:={ S.H with ap:=a2,cp:=c2,sp:=S.H.sp++[(⟨true,a,c,A,nTs,zTb⟩:PS)] },ab:=a4,cb:=c4,T:=S.T++[List.replicate 64 zEn] }:MW).l=[]∧({ S.lst al cl ll with H:={ S.H with ap:=a2,cp:=c2,sp:=S.H.sp++[(⟨true,a,c,A,nTs,zTb⟩:PS)] },ab:=a4,cb:=c4,T:=S.T++[List.replicate 64 zEn] }:MW).H.ma = { S.H.ma with sp:=S.H.ma.sp++[⟨true,[],zTb⟩] }∧({ S.lst al cl ll with H:={ S.H with ap:=a2,cp:=c2,sp:=S.H.sp++[(⟨true,a,c,A,nTs,zTb⟩:PS)] },ab:=a4,cb:=c4,T:=S.T++[List.replicate 64 zEn] }:MW).T=S.T++[List.replicate 64 zEn]):=Lib.hid fun e=>by
    have h9:=hq1'.out e
    have hk0:k=0:=by omega
    have h8:=hA.out.2.2 hk0
    refine⟨h8.1,by show ll=[];rw[h8.2];exact h9.2,?_,rfl⟩
    rw[hma5,h8.1]
   have hrd5:=hpar5 _ h5
   have hspl:∀S9:MW,S9.H.sp=S.H.sp++[(⟨true,a,c,A,nTs,zTb⟩:PS)]→S9.H.sp.length=S.H.sp.length+1:=fun S9 e=>by rw[e];simp
   have hsp5:({ S.lst al cl ll with H:={ S.H with ap:=a2,cp:=c2,sp:=S.H.sp++[(⟨true,a,c,A,nTs,zTb⟩:PS)] },ab:=a4,cb:=c4,T:=S.T++[List.replicate 64 zEn] }:MW).H.sp=S.H.sp++[(⟨true,a,c,A,nTs,zTb⟩:PS)]:=rfl
   clear hma5 hpar5 hTl
   generalize ({ S.lst al cl ll with H:={ S.H with ap:=a2,cp:=c2,sp:=S.H.sp++[(⟨true,a,c,A,nTs,zTb⟩:PS)] },ab:=a4,cb:=c4,T:=S.T++[List.replicate 64 zEn] }:MW)=S5 at *
   have hlen5:=hspl S5 hsp5
   have hfi5:S5.H.fi=S.H.fi:=hmore.out.fi
   have hsr:srtF 0 A:=fZ (eD.1 hA.out.1).2
   have hsr':=Lib.hid hsr
   have hc:=h5.blk.cell
   unfold dR at hc
   rw[hlen5] at hc
   have hwM:IntKind.i64.wrap (((S.H.sp.length+1:Nat):Int)-1)=(S.H.sp.length:Int):=by rw[IntWalk.i64_in _ (by omega)];omega
   have hbd5':=Lib.hid hbd5
   clear hbd5 hsr hspl hlen5 hfi5 hsp5 hT100 hlen4 hlen2
   go_wp2_with fail
   refine (iQ A a c _ hrd5 (by omega) (fun x hx=>(srtF_ok hsr'.out x hx).1)).mono ?_
   rintro r w6 ⟨rfl,hb6⟩
   have h6:=h5.below hb6
   have s6:=s5.below hb6
   have hspl5':=Lib.hid hspl5
   clear h5 s5 hc hrd5 hwM hb6
   go_upto_region 15 with (fail)
   go_loopw [92] (fun i wr => ∃(n:Nat) (Sn:MW),n≤64∧i = .int .i64 n∧bR wr B b Sn∧MS w b S wr Sn∧Hid (yl S5 Sn∧Bd Sn.H.ma Sn.T∧(∀j:Nat,n≤j→(bZ Sn.T S.H.sp.length j).k=0)∧(A=[]→Sn=S5))) (fun i _=>64-(intOf i).toNat)
   case atStart=>exact⟨0,S5,Nat.zero_le _,rfl,h6,s6,Lib.hid ⟨.refl _,hbd5'.out,fun j _=>hent5.out j,fun _=>rfl⟩⟩
   case round=>
    clear h6 s6
    obtain⟨n,Sn,hn,rfl,hm,hs,hN⟩:=hrel
    by_cases hn64:n<64
    ·have hni:(n:Int)<64:=by omega
     cases hfk:aY A n with
     | none=>
      have hix:=nI (aY A) n hn64 none hfk
      unfold iU oR oW oH oF oP at hix
      have hfk':=Lib.hid hfk
      clear hfk
      go_upto_region 17 with (fail)
      refine eO (fun W=>Code.wp _ _ _ _ W) fun W1 hb1 hx1 hs1 => ?_
      have hcx:=hx1.cell
      have hm1:=hm.below hb1
      have hs2:=hs.below hb1
      clear hs1 hb1 hm hs hix
      go_wp2
      go_roundw
      case rel=>exact⟨n+1,Sn,by omega,by go_num,hm1,hs2,Lib.hid ⟨hN.out.1,hN.out.2.1,fun j hj=>hN.out.2.2.1 j (by omega),hN.out.2.2.2⟩⟩
      case measure=>simp[intOf];omega
     | some g=>
      have hix:=nI (aY A) n hn64 (some g) hfk
      unfold iU oR oW oH oF oP at hix
      dsimp only[Option.isSome] at hix
      have hfk':=Lib.hid hfk
      clear hfk
      go_upto_region 17 with (fail)
      refine eO (fun W=>Code.wp _ _ _ _ W) fun W1 hb1 hx1 hs1 => ?_
      have hcx:=hx1.cell
      have hm1:=hm.below hb1
      have hs2:=hs.below hb1
      clear hs1 hb1 hm hs hix
      have hgA:onA A n=some g:=by rw[←iF hsr'.out];exact hfk'.out
      have hpi:=pg_in hsr'.out hgA
      have hgA':=Lib.hid hgA
      have hpi':=Lib.hid hpi
      have hspS:Hid (dM Sn.H.ma S.H.sp.length=⟨true,A,zTb⟩):=Lib.hid (by
       rw[←hspn5.out]
       show (Sn.H.sp.map PS.sp).getD _ zSp=(S5.H.sp.map PS.sp).getD _ zSp
       rw[hN.out.1.sp])
      clear hgA hpi
      go_wp2_with (refine ax _ _ rfl wr.heap.size 0 rfl rfl _ hx1.rd _ Try.underlying106 rfl one_size ?_)
      refine (AQ Sn S.H.sp.length n g B b _ hm1 hN.out.2.1 (by rw[hN.out.1.sp,hspl5'.out.out];omega) hn64 (hN.out.2.2.1 n (Nat.le_refl _)) (by rw[hspS.out];exact hgA'.out) (by rw[hN.out.1.fi,hmore.out.fi];exact hA.out.2.1 _ _ hgA'.out) hpi'.out.1 (fun h=>by
       rcases Int.lt_or_le g.fi 0 with h9|h9
       ·have:=(hpi'.out.2.2.2.2.1 h9).1
        rw[h] at this;simp at this
       ·exact h9)).mono ?_
      rintro r w7 ⟨S7,rfl,h7,s7,k7,bd7,ent7⟩
      have hs7:=hs2.trans s7
      have hN7:Hid (yl S5 S7∧Bd S7.H.ma S7.T∧(∀j:Nat,n+1≤j→(bZ S7.T S.H.sp.length j).k=0)∧(A=[]→S7=S5)):=Lib.hid ⟨hN.out.1.trans k7,bd7,fun j hj=>by rw[ent7 _ _ (by omega)];exact hN.out.2.2.1 j (by omega),fun e=>by
       have h9:=hgA'.out
       rw[e] at h9;cases h9⟩
      clear hm1 hs2 s7 k7 bd7 ent7 hx1 hcx
      go_wp2
      go_roundw
      case rel=>exact⟨n+1,S7,by omega,by go_num,h7,hs7,hN7⟩
      case measure=>simp[intOf];omega
    ·have hni:¬(n:Int)<64:=by omega
     go_wp2
     refine bodyPost_ret (v:=.tuple #[]) (by simp[results,go_sem,Try.results33]) rfl ?_
     have hK:=hN.out.1
     have hM:=hmore.out
     refine⟨Sn,rfl,hm,hs,⟨hN.out.2.1,fun p hp n g hg => ?_,hK.fi.trans hM.fi,hK.ct.trans hM.ct,hK.dk.trans hM.dk,by rw[hK.sp];exact hM.sp,hK.fl.trans hM.fs⟩,fun e => ?_⟩
     ·rw[hK.sp] at hp
      rw[hK.fi]
      exact hM.fm p hp n g hg
     ·have h9:=hq5.out e
      rw[hN.out.2.2.2 h9.1]
      exact h9.2
theorem bR.putD {w w' : World} {B b : Nat} {S : MW} (h : bR w B b S) {g : Nat} {cs : Array Value} (hk : aC w g cs 50) (hgB : B ≤ g) (hga : oB S.H.db = some g) (hg : w.grownBy w' (some g)) {l : List Page} (hl : l.length = S.H.dk.blocks.length) (ho : Own w' B 50 8 (.slice S.H.db l.length S.H.cdb) l.length (l.flatMap sI)) :
    bR w' B b { S with H := { S.H with dk := ⟨l, S.H.dk.queue⟩ } } :=
  ⟨by
    have h1 := dB h.blk hk (by decide) hg
    have e : dR { S with H := { S.H with dk := ⟨l, S.H.dk.queue⟩ } } = dR S := by unfold dR; rw [show ({ S.H with dk := ⟨l, S.H.dk.queue⟩ } : MH).dk.blocks.length = S.H.dk.blocks.length from hl]
    rw [e]; exact h1, h.ge,
   ⟨ak h.ma.fr hk (by decide) hg, ak h.ma.sl hk (by decide) hg, ⟨h.ma.sw.b.grown hg (fun g' hg' e => by
      cases e
      rw [gF] at hg'
      exact h.n1 _ hg' hga), ak h.ma.sw.q hk (by decide) hg⟩, ⟨ho, ak h.ma.dk.q hk (by decide) hg⟩, h.ma.st.keep hk (by decide) (by decide) hg, ak h.ma.ca hk (by decide) hg, ak h.ma.sp hk (by decide) hg, fun p hp => ⟨ak (h.ma.ps p hp).1 hk (by decide) hg, (h.ma.ps p hp).2.keep hk (by decide) hg⟩, h.ma.c64⟩,
   ak h.tt hk (by decide) hg, h.rd.keep h.ra h.bs hg hgB, h.ra, h.n1, h.n2, h.n3⟩
theorem bR.appQ {w w1 w2:World} {B b:Nat} {S:MW} (h:bR w B b S) (hg:w.grownBy w1 (Value.slice S.H.dq S.H.dk.queue.length S.H.cdq).ownBlock) {a:Option Addr} {c:Nat} {l:List (Int × Page)} (ho:Own w1 B 93 9 (.slice a l.length c) l.length (l.flatMap rX))
  (hb:aC w2 b (putAt (dR S) 7 [.slice a l.length c]) 89) (hg2:w1.grownBy w2 (some b)) :
  bR w2 B b { S with H:={ S.H with dq:=a,cdq:=c,dk:=⟨S.H.dk.blocks,l⟩ } }:=by
 have hq0:Own w B 93 9 (.slice S.H.wq S.H.sw.queue.length S.H.cwq) S.H.sw.queue.length (S.H.sw.queue.flatMap rX):=h.ma.sw.q
 have key:aC w1 b (dR S) 89∧Own w1 B 59 13 (.slice S.H.af S.H.m.fs.length S.H.cf) S.H.m.fs.length (S.H.m.fs.flatMap mD)∧Own w1 B 3 1 (.slice S.H.asl S.H.sl.length S.H.csl) S.H.sl.length (S.H.sl.map eU) ∧
   fJ w1 B (.slice S.H.wb S.H.sw.blocks.length S.H.cwb) (.slice S.H.wq S.H.sw.queue.length S.H.cwq) S.H.sw∧Own w1 B 50 8 (.slice S.H.db S.H.dk.blocks.length S.H.cdb) S.H.dk.blocks.length (S.H.dk.blocks.flatMap sI)∧pV w1 B (.slice S.H.ai S.H.fi.length S.H.ci) S.H.fi ∧
   Own w1 B 85 3 (.slice S.H.ac S.H.ca.length S.H.cc) S.H.ca.length (S.H.ca.flatMap jI)∧Own w1 B 65 10 (.slice S.H.ap S.H.sp.length S.H.cp) S.H.sp.length (S.H.sp.flatMap lS) ∧
   (∀p∈S.H.sp,Own w1 B 69 7 (.slice p.aa p.ar.length p.ac) p.ar.length (p.ar.flatMap gV)∧nO w1 B (jG p.ts) p.tb)∧Own w1 B 95 192 (.slice S.ab S.T.length S.cb) S.T.length (S.T.flatMap tL)∧kD w1 S.al S.cl S.l.length (S.l.map gW):=by
  rcases jZ h.ma.dk.q hg with hb0|⟨g,cs,hk,hga,hg'⟩
  ·have h1:=h.below hb0
   exact⟨h1.blk,h1.ma.fr,h1.ma.sl,h1.ma.sw,h1.ma.dk.b,h1.ma.st,h1.ma.ca,h1.ma.sp,h1.ma.ps,h1.tt,h1.rd⟩
  ·exact⟨dB h.blk hk (by decide) hg',ak h.ma.fr hk (by decide) hg',ak h.ma.sl hk (by decide) hg',⟨ak h.ma.sw.b hk (by decide) hg',hq0.grown hg' (fun g' he=>by rw[h.n3] at he;cases he)⟩,ak h.ma.dk.b hk (by decide) hg',h.ma.st.keep hk (by decide) (by decide) hg',ak h.ma.ca hk (by decide) hg',ak h.ma.sp hk (by decide) hg',fun p hp=>⟨ak (h.ma.ps p hp).1 hk (by decide) hg',(h.ma.ps p hp).2.keep hk (by decide) hg'⟩,ak h.tt hk (by decide) hg',h.rd.keep h.ra h.bs hg' (gJ h.ma.dk.q hga).1⟩
 obtain⟨k0,k1,k2,k3,k4,k5,k6,k7,k8,k9,k10⟩:=key
 exact⟨hb,h.ge,⟨ak k1 k0 (by decide) hg2,ak k2 k0 (by decide) hg2,k3.keep k0 (by decide) (by decide) hg2,⟨ak k4 k0 (by decide) hg2,ak ho k0 (by decide) hg2⟩,k5.keep k0 (by decide) (by decide) hg2,ak k6 k0 (by decide) hg2,ak k7 k0 (by decide) hg2,fun p hp=>⟨ak (k8 p hp).1 k0 (by decide) hg2,(k8 p hp).2.keep k0 (by decide) hg2⟩,h.ma.c64⟩,
  ak k9 k0 (by decide) hg2,k10.keep h.ra (Nat.le_trans h.ge (Nat.le_of_lt k0.lt)) hg2 h.ge,h.ra,h.n1,h.n2,h.n3⟩
theorem bR.appFi {w w1 w2:World} {B b:Nat} {S:MW} (h:bR w B b S) {p:PF} (hp:Own w B 3 1 (kE p) p.l.length (p.l.map eU)) (hap:∀(i:Nat) q,S.H.fi[i]?=some q→Apart (kE q) (kE p)) (hasl:∀x,oB p.a=some x→oB S.H.asl≠some x)
  (hg:w.grownBy w1 (Value.slice S.H.ai S.H.fi.length S.H.ci).ownBlock) {a:Option Addr} {c:Nat} (ho:Own w1 B 71 2 (.slice a (S.H.fi++[p]).length c) (S.H.fi.length+1) (S.H.fi.flatMap mZ++mZ p))
  (hb:aC w2 b (putAt (dR S) 8 [.slice a (S.H.fi++[p]).length c]) 89) (hg2:w1.grownBy w2 (some b)):bR w2 B b { S with H:={ S.H with ai:=a,ci:=c,fi:=S.H.fi++[p] } }:=by
 have hF:pV w1 B (.slice a (S.H.fi++[p]).length c) (S.H.fi++[p]):=h.ma.st.app ho hp hg hap
 have key:aC w1 b (dR S) 89∧Own w1 B 59 13 (.slice S.H.af S.H.m.fs.length S.H.cf) S.H.m.fs.length (S.H.m.fs.flatMap mD)∧Own w1 B 3 1 (.slice S.H.asl S.H.sl.length S.H.csl) S.H.sl.length (S.H.sl.map eU) ∧
   fJ w1 B (.slice S.H.wb S.H.sw.blocks.length S.H.cwb) (.slice S.H.wq S.H.sw.queue.length S.H.cwq) S.H.sw∧fJ w1 B (.slice S.H.db S.H.dk.blocks.length S.H.cdb) (.slice S.H.dq S.H.dk.queue.length S.H.cdq) S.H.dk ∧
   Own w1 B 85 3 (.slice S.H.ac S.H.ca.length S.H.cc) S.H.ca.length (S.H.ca.flatMap jI)∧Own w1 B 65 10 (.slice S.H.ap S.H.sp.length S.H.cp) S.H.sp.length (S.H.sp.flatMap lS) ∧
   (∀p∈S.H.sp,Own w1 B 69 7 (.slice p.aa p.ar.length p.ac) p.ar.length (p.ar.flatMap gV)∧nO w1 B (jG p.ts) p.tb)∧Own w1 B 95 192 (.slice S.ab S.T.length S.cb) S.T.length (S.T.flatMap tL)∧kD w1 S.al S.cl S.l.length (S.l.map gW):=by
  rcases jZ h.ma.st.own hg with hb0|⟨g,cs,hk,hga,hg'⟩
  ·have h1:=h.below hb0
   exact⟨h1.blk,h1.ma.fr,h1.ma.sl,h1.ma.sw,h1.ma.dk,h1.ma.ca,h1.ma.sp,h1.ma.ps,h1.tt,h1.rd⟩
  ·exact⟨dB h.blk hk (by decide) hg',ak h.ma.fr hk (by decide) hg',ak h.ma.sl hk (by decide) hg',h.ma.sw.keep hk (by decide) (by decide) hg',h.ma.dk.keep hk (by decide) (by decide) hg',ak h.ma.ca hk (by decide) hg',ak h.ma.sp hk (by decide) hg',fun p hp=>⟨ak (h.ma.ps p hp).1 hk (by decide) hg',(h.ma.ps p hp).2.keep hk (by decide) hg'⟩,ak h.tt hk (by decide) hg',h.rd.keep h.ra h.bs hg' (gJ h.ma.st.own hga).1⟩
 obtain⟨k0,k1,k2,k3,k4,k6,k7,k8,k9,k10⟩:=key
 exact⟨hb,h.ge,⟨ak k1 k0 (by decide) hg2,ak k2 k0 (by decide) hg2,k3.keep k0 (by decide) (by decide) hg2,k4.keep k0 (by decide) (by decide) hg2,hF.keep k0 (by decide) (by decide) hg2,ak k6 k0 (by decide) hg2,ak k7 k0 (by decide) hg2,fun p hp=>⟨ak (k8 p hp).1 k0 (by decide) hg2,(k8 p hp).2.keep k0 (by decide) hg2⟩,h.ma.c64⟩,
  ak k9 k0 (by decide) hg2,k10.keep h.ra (Nat.le_trans h.ge (Nat.le_of_lt k0.lt)) hg2 h.ge,h.ra,h.n1,fun q hq x hx=>by
   rcases List.mem_append.1 hq with hq|hq
   ·exact h.n2 q hq x hx
   ·rw[List.mem_singleton.1 hq] at hx
    exact hasl x hx,h.n3⟩
theorem bR.putP {w w' : World} {B b : Nat} {S : MW} (h : bR w B b S) {g : Nat} {cs : Array Value} (hk : aC w g cs 65) (hgB : B ≤ g) (hg : w.grownBy w' (some g)) {sp : List PS} (hl : sp.length = S.H.sp.length) (ho : Own w' B 65 10 (.slice S.H.ap sp.length S.H.cp) sp.length (sp.flatMap lS))
    (hps : ∀ p ∈ sp, Own w B 69 7 (.slice p.aa p.ar.length p.ac) p.ar.length (p.ar.flatMap gV) ∧ nO w B (jG p.ts) p.tb) : bR w' B b { S with H := { S.H with sp := sp } } :=
  ⟨by
    have h1 := dB h.blk hk (by decide) hg
    have e : dR { S with H := { S.H with sp := sp } } = dR S := by unfold dR; rw [show ({ S.H with sp := sp } : MH).sp.length = S.H.sp.length from hl]
    rw [e]; exact h1, h.ge,
   ⟨ak h.ma.fr hk (by decide) hg, ak h.ma.sl hk (by decide) hg, h.ma.sw.keep hk (by decide) (by decide) hg, h.ma.dk.keep hk (by decide) (by decide) hg, h.ma.st.keep hk (by decide) (by decide) hg, ak h.ma.ca hk (by decide) hg, ho, fun p hp => ⟨ak (hps p hp).1 hk (by decide) hg, (hps p hp).2.keep hk (by decide) hg⟩, h.ma.c64⟩,
   ak h.tt hk (by decide) hg, h.rd.keep h.ra h.bs hg hgB, h.ra, h.n1, h.n2, h.n3⟩
theorem bR.setH {w w' : World} {B b : Nat} {S : MW} (h : bR w B b S) {x : Int} (hb : aC w' b (putAt (dR S) 2 [.int .i64 x]) 89) (hg : w.grownBy w' (some b)) : bR w' B b { S with H := { S.H with m := ⟨S.H.m.fs, x⟩ } } :=
  ⟨hb, h.ge,
   have k := h.ma.keep h.blk (by decide) hg
   ⟨k.fr, k.sl, k.sw, k.dk, k.st, k.ca, k.sp, k.ps, k.c64⟩, ak h.tt h.blk (by decide) hg, h.rd.keep h.ra h.bs hg h.ge, h.ra, h.n1, h.n2, h.n3⟩
end Go.Proofs.Ytkjobhcnlppcnaa
namespace Pw
open Go Go.RowKit
theorem EE {P:Program} {ops:Array Oper} {Q:Exit→Act→World→Prop} {id:Nat} {a0:Act} {w0:World} (m:Nat) (l:List ig) (J:(Nat→Bool)→(Nat→Value)→World→Prop) (hst:∀L y w w',Below w.heap.size w w'→J L y w→J L y w') (hJ0:∀y,J (fun _=>false) y w0) (hfix:Fixed l) (hm:P.follows .mixedOrders=true) (ops' : Array Oper) (hs:strip ops=ops') (hok:eP ops' = true) (ht:dQ ops' m=true) (hmn:m≤ops'.size)
  (n:Nat) (hn:a0.tmps.size=n) (hsz:eY ops' n=true)
  (hstep:aK (fV P ops' a0 J l) 0 (ops'.toList.take m))
  (hend:∀y w,J (fun i=>decide (i<m)) y w→(∀i,i<m→rl l i (y i) w)→wpList P ops' Q (ops'.toList.drop m) { a0 with tmps:=lay (fun i=>decide (i<m)) y ops'.toList 0 a0.tmps } w) :
  (Code.region id ops true).wp P Q a0 w0:=by
 refine wp_region_any hm (nM _ _ _ _ ?_)
 have h9:=rP m l J hst hJ0 hfix hok ht hmn n hn hsz hstep hend
 subst hs
 rw[lV] at h9
 exact h9
theorem nS {P:Program} {ops:Array Oper} {Q:Exit→Act→World→Prop} {id:Nat} {t0:Array Value} {df:List Deferred} {w0:World} (m:Nat) (l:List RV) (J:(Nat→Bool)→(Nat→Value)→World→Prop) (hst:∀L y w w',Below w.heap.size w w'→J L y w→J L y w') (hJ0:∀y,J (fun _=>false) y w0)
  (hstep:aK (fV P (strip ops) ⟨t0,df⟩ J (rvs l)) 0 ((strip ops).toList.take m)) {tm:(Nat→Value)→List Value} {rest:List Oper} (hf:∀y,nY y l (strip ops).toList t0.toList=some (tm y)) (hd:wr ((strip ops).toList.drop m)=some rest)
  (hend:∀y w,J (fun i=>decide (i<m)) y w→(∀i,i<m→rl (rvs l) i (y i) w)→wpList P (strip ops) Q rest ⟨(tm y).toArray,df⟩ w)
  (hfix:Fixed (rvs l):=by repeat (first | exact fix_nil | refine vC (fun _ _ _ h=>h) ?_))
  (hm:P.follows .mixedOrders=true:=by kernel_rfl) (hok:eP (strip ops)=true:=by kernel_rfl) (ht:dQ (strip ops) m=true:=by kernel_rfl) (hmn:m≤(strip ops).size:=by decide) (hll:l.length=m:=by rfl) (hix:idxOk l 0=true:=by kernel_rfl)
  (hsz:eY (strip ops) t0.size=true:=by kernel_rfl):(Code.region id ops true).wp P Q ⟨t0,df⟩ w0:=by
 refine EE m (rvs l) J hst hJ0 hfix hm (strip ops) rfl hok ht hmn _ rfl hsz hstep fun y w hb hR => ?_
 have h:=hend y w hb hR
 rw[yP hd]
 show wpList P (strip ops) Q rest ⟨lay (fun i=>decide (i<m)) y (strip ops).toList 0 t0,df⟩ w
 rw[Dt hix hll hmn hR (hf y)]
 exact h
end Pw
namespace Go.Proofs.Ytkjobhcnlppcnaa
open Go.RowKit Go.Maps Pw
def vH (S:MW) (B b:Nat) (w:World) (P:PS):(Nat→Bool)→(Nat→Value)→World→Prop:=fun L y W=>
 (∀k,10≤k→k<16→L (k+1)=true→L k=true)∧(L 16=true→L 5=true) ∧
 (L 16=false→bR W B b S∧MS w b S W S) ∧
 (L 15=true→L 16=false→∃a e,y 15 = .slice a 1 e∧kD W a e 1 (lS P)) ∧
 (L 16=true→∃w1,bR w1 B b S∧MS w b S w1 S∧w1.grownBy W (Value.slice S.H.ap S.H.sp.length S.H.cp).ownBlock∧Own W B 65 10 (y 16) (S.H.sp.length+1) (S.H.sp.flatMap lS++lS P)∧ja w1 (.slice S.H.ap S.H.sp.length S.H.cp) (y 16))
theorem zH {w w1 w2:World} {row:Option Nat} (hg:w.grownBy w1 row) (hb:Below w1.heap.size w1 w2):w.grownBy w2 row:=
 ⟨hb.os.trans hg.os,hb.tape.trans hg.tape,hb.output.trans hg.output,Nat.le_trans hg.size hb.size,fun k hk hn=>(hb.block k (Nat.lt_of_lt_of_le hk hg.size)).trans (hg.block k hk hn)⟩
theorem dZ {S:MW} {B b:Nat} {w:World} {P:PS}:∀L y W W',Below W.heap.size W W'→vH S B b w P L y W→vH S B b w P L y W':=
 fun _ _ _ _ hb ⟨h1,h2,h3,h4,h5⟩=>⟨h1,h2,fun e=>⟨(h3 e).1.below hb,(h3 e).2.below hb⟩,fun e1 e2=>by
  obtain⟨a,e,k1,k2⟩:=h4 e1 e2
  exact⟨a,e,k1,k2.below hb⟩,fun e=>by
  obtain⟨w1,k1,k2,k3,k4,k5⟩:=h5 e
  exact⟨w1,k1,k2,zH k3 hb,k4.below hb,k5⟩⟩
theorem eT {S:MW} {B b:Nat} {w W:World} {P:PS} {L:Nat→Bool} {y:Nat→Value} {i:Nat} {v:Value} (hi:i≠15∧i≠16) (hd:∀k,10≤k→k<16→k+1=i→L k=true) (h:vH S B b w P L y W):vH S B b w P (bA L i) (bO y i v) W:=by
 obtain⟨h1,h2,h3,h4,h5⟩:=h
 have e15:bA L i 15=L 15:=by unfold bA;rw[if_neg (fun e=>hi.1 e.symm)]
 have e16:bA L i 16=L 16:=by unfold bA;rw[if_neg (fun e=>hi.2 e.symm)]
 have y15:bO y i v 15=y 15:=by unfold bO;rw[if_neg (fun e=>hi.1 e.symm)]
 have y16:bO y i v 16=y 16:=by unfold bO;rw[if_neg (fun e=>hi.2 e.symm)]
 have up:∀k,L k=true→bA L i k=true:=fun k hk=>by unfold bA;split<;>simp[hk]
 refine⟨fun k k1 k2 k3 => ?_,fun e=>up 5 (h2 (by rw[←e16];exact e)),by rw[e16];exact h3,by rw[e15,e16,y15];exact h4,by rw[e16,y16];exact h5⟩
 by_cases e:k+1=i
 ·exact up k (hd k k1 k2 e)
 ·refine up k (h1 k k1 k2 ?_)
  unfold bA at k3
  rw[if_neg e] at k3
  exact k3
theorem IL {S:MW} {B b:Nat} {w W W' : World} {P:PS} {L:Nat→Bool} {y:Nat→Value} {a:Option Addr} {e:Nat} (hb:Below W.heap.size W W') (h14:L 14=true) (h:vH S B b w P L y W) (hr:kD W' a e 1 (lS P)):vH S B b w P (bA L 15) (bO y 15 (.slice a 1 e)) W':=by
 obtain⟨h1,h2,h3,h4,h5⟩:=dZ _ _ _ _ hb h
 have up:∀k,L k=true→bA L 15 k=true:=fun k hk=>by unfold bA;split<;>simp[hk]
 refine⟨fun k k1 k2 k3 => ?_,fun e=>h2 e,h3,fun _ _=>⟨a,e,rfl,hr⟩,h5⟩
 by_cases e:k+1=15
 ·obtain rfl:k=14:=by omega
  exact up 14 h14
 ·refine up k (h1 k k1 k2 ?_)
  unfold bA at k3
  rw[if_neg e] at k3
  exact k3
theorem Iw {S:MW} {B b:Nat} {w W W' : World} {P:PS} {L:Nat→Bool} {y:Nat→Value} {v:Value} (h15:L 15=true) (h5' : L 5=true) (h16:L 16=false) (h:vH S B b w P L y W) (hg:W.grownBy W' (Value.slice S.H.ap S.H.sp.length S.H.cp).ownBlock)
  (ho:Own W' B 65 10 v (S.H.sp.length+1) (S.H.sp.flatMap lS++lS P)) (hs:ja W (.slice S.H.ap S.H.sp.length S.H.cp) v):vH S B b w P (bA L 16) (bO y 16 v) W':=by
 obtain⟨h1,h2,h3,h4,h5⟩:=h
 have up:∀k,L k=true→bA L 16 k=true:=fun k hk=>by unfold bA;split<;>simp[hk]
 refine⟨fun k k1 k2 k3 => ?_,fun _=>h5',fun e=>(by cases e),fun _ e=>(by cases e),fun _=>⟨W,(h3 h16).1,(h3 h16).2,hg,ho,hs⟩⟩
 by_cases e:k+1=16
 ·obtain rfl:k=15:=by omega
  exact up 15 h15
 ·refine up k (h1 k k1 k2 ?_)
  unfold bA at k3
  rw[if_neg e] at k3
  exact k3
theorem tq {S:MW} {B b:Nat} {w W:World} {P:PS} {L:Nat→Bool} {y:Nat→Value} (h:vH S B b w P L y W) {i:Nat} (hi:L i=false) (hk:i=5∨(10≤i∧i≤16)):bR W B b S∧MS w b S W S:=by
 refine h.2.2.1 ?_
 cases e:L 16 with
 | false=>rfl
 | true=>
  exfalso
  rcases hk with rfl|⟨k1,k2⟩
  ·rw[h.2.1 e] at hi;cases hi
  ·have:∀d,d≤6→L (16-d)=true:=by
    intro d
    induction d with
    | zero=>intro _;exact e
    | succ d ih=>intro hd;exact h.1 (16-(d+1)) (by omega) (by omega) (by rw[show 16-(d+1)+1=16-d by omega];exact ih (by omega))
   have h9:=this (16-i) (by omega)
   rw[show 16-(16-i)=i by omega,hi] at h9
   cases h9
def JP (S:MW) (B b:Nat) (w:World) (r:Ending) (w' : World):Prop:=∃S',r = .returned (.tuple #[])∧bR w' B b S'∧MS w b S w' S'∧More S S'
theorem HY (t:List En) (k:Nat) (hk:k<64):(tL t).toArray.extract (k*3) (k*3+3)=fK (t.getD k zEn):=by
 apply Array.ext_getElem?
 intro j
 rw[Array.getElem?_extract]
 have hs:(tL t).toArray.size=192:=by simp[oM]
 by_cases hj:j<3
 ·rw[if_pos (by omega)]
  have:=Ct t k j hk hj
  simpa[iC] using this
 ·rw[if_neg (by omega),Array.getElem?_eq_none (by show 3≤j;omega)]
theorem entry_size3:(Try.prog.info? 67).map (·.size)=some 3:=by kernel_rfl
theorem tJ (t:List En) (k:Nat) (hk:k<64) (e:En) (he:t.getD k zEn=e) (w:World):(Instr.index 95 (.agg (tL t).toArray) (.int .i64 k)).run Try.prog w = .ok (.agg (fK e)) w:=
 nu Try.underlying95 Try.underlying67 rfl entry_size3 _ k _ hk (by rw[←he];exact HY t k hk) _ w
theorem tQ {P:Program} {ρ:Operand→Value} {w:World} {op:Oper} (ty:TypeId) (x y:Operand) (ho:op.op = .store ty x y)
  (b o:Nat) (v:Value) (cells:List Value) (hx:ρ x = .pointer (some ⟨b,o,none⟩)) (hy:ρ y=v) (hc:v.cells.toList=cells) (cur:Array Value) (T:TypeId) (hg:aC w b cur T)
  (hfit:o+cells.length≤cur.size) (hi:(P.info? ty).map (·.size)=some cells.length) (h1:∀u∈cells,u.oneCell' = true):(execOp ρ op).run P w = .ok .skip (w.setCells b o cells):=by
 have hst:=run_storeCells_cells (P:=P) b o cells 0 w
  (fun j hj=>by rw[Nat.add_zero,hg.cell];simp[show o+j<cur.size by omega]) (fun j hj=>hg.free _) h1
 simp only[Nat.add_zero] at hst
 have hsv:(storeVar ty ⟨b,o,none⟩ v).run P w = .ok () (w.setCells b o cells):=by
  cases hq:P.info? ty with
  | none=>simp[hq] at hi
  | some i=>
   have hs:i.size=cells.length:=by simpa[hq] using hi
   have hv:v.cells.size=cells.length:=by rw[←hc];simp
   simp[storeVar,Go.sizeOf,typeInfo,hq,hs,hv,hc,hst]
 unfold execOp
 simp only[ho,hx,hy,Instr.storeAt,Instr.sureAddr,Sem.run_bind,Sem.run_pure,Result.andThen_ok,hsv]
theorem nV {P:Program} {ops:Array Oper} {ρ:Operand→Value} {o:Oper} {w w' : World} {l:List ig} {i:Nat} {J:(Nat→Bool)→(Nat→Value)→World→Prop} {L:Nat→Bool} {y:Nat→Value} (hw:Region.wanted o (says ρ ops)=true) (hrun:(execOp ρ o).run P w = .ok .skip w')
  (hJ:J (bA L i) (bO y i undef) w') (hR:rl l i undef w') :
  if Region.wanted o (says ρ ops)=true then bJ P o ρ w (fun v w'=>J (bA L i) (bO y i v) w'∧rl l i v w') else J (bA L i) (bO y i undef) w∧rl l i undef w:=by
 rw[if_pos hw]
 unfold bJ
 rw[hrun]
 exact⟨hJ,hR⟩
def Bt (S0 S S' : MW) (B b:Nat) (w:World) (gx gf:Nat) (e:En) (F:Array Value):(Nat→Bool)→(Nat→Value)→World→Prop:=fun L _ W=>
 (aC W gx (fK e) 67∧aC W gf F 107)∧(L 14=false→bR W B b S∧MS w b S0 W S)∧(L 14=true→bR W B b S'∧MS w b S0 W S')
theorem aG {S0 S S' : MW} {B b:Nat} {w:World} {gx gf:Nat} {e:En} {F:Array Value}:∀L y W W',Below W.heap.size W W'→Bt S0 S S' B b w gx gf e F L y W→Bt S0 S S' B b w gx gf e F L y W':=
 fun _ _ _ _ hb ⟨h1,h2,h3⟩=>⟨⟨h1.1.ext hb,h1.2.ext hb⟩,fun e=>⟨(h2 e).1.below hb,(h2 e).2.below hb⟩,fun e=>⟨(h3 e).1.below hb,(h3 e).2.below hb⟩⟩
theorem kP {S0 S S' : MW} {B b:Nat} {w W:World} {gx gf:Nat} {e:En} {F:Array Value} {L:Nat→Bool} {y:Nat→Value} (h:Bt S0 S S' B b w gx gf e F L y W) (hk:(dR S')[12]?=(dR S)[12]?):W.cell? ⟨b,12,none⟩=(dR S)[12]?:=by
 cases hL:L 14 with
 | false=>exact (h.2.1 hL).1.blk.cell 12
 | true=>rw[←hk];exact (h.2.2 hL).1.blk.cell 12
theorem kS {m:Ma} {T:List (List En)} (ok:qM m T) (hl:m.sp.length=2) {n:Nat} {x:En} (hn:n<64) (hx:cO x=0) (q j:Nat) (hj:j≠n):bZ (aW (aW T 0 n x) 1 n x) q j=bZ T q j:=by
 rw[nA (ok.set (p:=0) (by omega) hx) (by omega) hn,if_neg (fun h=>hj h.2),nA ok (by omega) hn,if_neg (fun h=>hj h.2)]
theorem yC {ρ:Operand→Value} {o:Oper} {w:World} {x y:Operand} {b off n c i:Nat} {k:IntKind} (ho:o.op = .indexAddr 29 x y) (hx:ρ x = .slice (some ⟨b,off,none⟩) n c) (hy:ρ y = .int k (i:Int)) (hi:i<n) :
  (execOp ρ o).run Try.prog w = .ok (.value (.pointer (some ⟨b,off+i,none⟩))) w:=by
 have:=aT (P:=Try.prog) (w:=w) ho hx hy hi Try.underlying29 (show (Try.prog.info? 3).map (·.size)=some 1 by kernel_rfl)
 rw[this,Nat.mul_one]
theorem bR.locE {w w' : World} {B b:Nat} {S:MW} (h:bR w B b S) {g:Nat} {cs:Array Value} (hk:aC w g cs 67) (hn:¬gM b S g) (hsp:∀p∈S.H.sp,∀k v,k<8→(jG p.ts)[k]?=some v→v.ownBlock≠some g) (hgB:B≤g) (hg:w.grownBy w' (some g)):bR w' B b S:=by
 have hne:∀ {a:Option Addr},oB a∈dH S→∀n c g',(Value.slice a n c).ownBlock=some g'→some g≠some g':=fun hm n c g' he e=>by
  cases e
  rw[gF] at he
  exact hn (.inr (by rw[←he];exact hm))
 exact⟨h.blk.grown hg (fun e=>hn (.inl (Option.some.inj e))),h.ge,⟨h.ma.fr.grown hg (hne (by simp[dH]) _ _),h.ma.sl.grown hg (hne (by simp[dH]) _ _),⟨h.ma.sw.b.grown hg (hne (by simp[dH]) _ _),h.ma.sw.q.grown hg (fun g' he=>by rw[h.n3] at he;cases he)⟩,⟨h.ma.dk.b.grown hg (hne (by simp[dH]) _ _),h.ma.dk.q.grown hg (hne (by simp[dH]) _ _)⟩,
  ⟨h.ma.st.own.grown hg (hne (by simp[dH]) _ _),fun i p hp=>ak (h.ma.st.each i p hp) hk (by decide) hg,h.ma.st.apart⟩,h.ma.ca.grown hg (hne (by simp[dH]) _ _),h.ma.sp.grown hg (hne (by simp[dH]) _ _),fun p hp=>⟨ak (h.ma.ps p hp).1 hk (by decide) hg,⟨(h.ma.ps p hp).2.sz,fun k hk8=>by
   obtain⟨v,h1,h2⟩:=(h.ma.ps p hp).2.own k hk8
   exact⟨v,h1,h2.grown hg (fun g' he e=>by cases e;exact hsp p hp k v hk8 h1 he)⟩,(h.ma.ps p hp).2.apart⟩⟩,h.ma.c64⟩,
  h.tt.grown hg (hne (by simp[dH]) _ _),h.rd.keep h.ra h.bs hg hgB,h.ra,h.n1,h.n2,h.n3⟩
theorem bR.newE {w:World} {B b:Nat} {S:MW} (h:bR w B b S) {x:Nat} (hx:w.heap.size≤x):∀p∈S.H.sp,∀k v,k<8→(jG p.ts)[k]?=some v→v.ownBlock≠some x:=fun p hp k v hk hv he=>by
 obtain⟨v',h1,h2⟩:=(h.ma.ps p hp).2.own k hk
 rw[hv] at h1
 cases h1
 have:=tC h2 x he
 omega
theorem DF (S:MW) (B b:Nat) (w:World) (h:bR w B b S) (hd:Bd S.H.ma S.T) (hf:Cf S) (hl:S.H.sp.length=1) :
  Calls Try.prog 32 #[.pointer (some ⟨b,0,none⟩)] w (JP S B b w):=by
 obtain⟨p0,hsp⟩:=List.length_eq_one_iff.1 hl
 have hd':=Lib.hid hd
 have hf':=Lib.hid hf
 have hBs:=Lib.hid h.bs
 have hsp':=Lib.hid hsp
 obtain⟨gp,op,cap,cur,hv,hgB,hgk,hgs,hgc,hgw⟩:=h.ma.sp.put nN (by decide) 0 (by rw[hl];decide)
 have hap:S.H.ap=some ⟨gp,op,none⟩:=(Value.slice.inj hv).1
 have hcell:∀W,bR W B b S→W.cell? ⟨gp,op+1,none⟩=some (.slice p0.aa p0.ar.length p0.ac):=fun W hW=>by
  obtain⟨g2,o2,_,_,hv2,_,_,_,hc2,_⟩:=hW.ma.sp.put nN (by decide) 0 (by rw[hl];decide)
  have e9:(some (⟨g2,o2,none⟩:Addr))=some ⟨gp,op,none⟩:=(Value.slice.inj hv2).1.symm.trans hap
  cases e9
  have e0:S.H.sp[0]'(by rw[hl];decide)=p0:=by simp[hsp]
  rw[e0] at hc2
  have:=hc2 1 _ rfl
  simpa using this
 clear hd hf hsp hv hgk hgs hgc hgw
 go_enter Try.func32,Try.ntmps32
 go_upto_region 0 with (fail)
 refine dA 20 [_,_,_,_,_,.v (.slice (some ⟨gp,op,none⟩) 1 S.H.cp),_,_,_,_,.v (.slice (some ⟨gp,op,none⟩) 1 S.H.cp),_,_,.v (.slice p0.aa p0.ar.length p0.ac),.v (.agg (lu ⟨true,p0.aa,p0.ac,p0.ar,nTs,zTb⟩)),.r 15 ((aM fun _=>True)),.r 16 ((aM fun _=>True)),_,_,_] (vH S B b w ⟨true,p0.aa,p0.ac,p0.ar,nTs,zTb⟩) dZ (fun _=>⟨fun k _ _ e=>(by cases e),fun e=>(by cases e),fun _=>⟨h,MS.refl _ _ _⟩,fun e=>(by cases e),fun e=>(by cases e)⟩) (Qk dZ rfl (Qk dZ rfl (Qk dZ rfl (Qf dZ b 1 rfl rfl (Qf dZ b 11 rfl rfl (all_cons ?_ (Qk dZ rfl (Qk dZ rfl (Qf dZ b 1 rfl rfl (Qf dZ b 11 rfl rfl (all_cons ?_ (Qr dZ (.pointer (some ⟨gp,op,none⟩)) (fun ρ y W hKn=>(aT (i:=0) rfl (az rfl hKn) (az rfl hKn) (by decide) Try.underlying38 space_size)) rfl rfl (Qf dZ gp (op+1) rfl rfl (all_cons ?_ (all_cons ?_ (all_cons ?_ (all_cons ?_ (Qk dZ rfl (Qf dZ b 1 rfl rfl (Qf dZ b 11 rfl rfl (all_nil) (fun _ _ _ _ hLd h=>eT (by decide) (by intro k h1 h2 e;first | omega | (obtain rfl:=Nat.succ.inj e;exact hLd _ rfl)) h)) (fun _ _ _ _ hLd h=>eT (by decide) (by intro k h1 h2 e;first | omega | (obtain rfl:=Nat.succ.inj e;exact hLd _ rfl)) h)) (fun _ _ _ _ hLd h=>eT (by decide) (by intro k h1 h2 e;first | omega | (obtain rfl:=Nat.succ.inj e;exact hLd _ rfl)) h)))))) (fun _ _ _ _ hLd h=>eT (by decide) (by intro k h1 h2 e;first | omega | (obtain rfl:=Nat.succ.inj e;exact hLd _ rfl)) h)) (fun _ _ _ _ hLd h=>eT (by decide) (by intro k h1 h2 e;first | omega | (obtain rfl:=Nat.succ.inj e;exact hLd _ rfl)) h))) (fun _ _ _ _ hLd h=>eT (by decide) (by intro k h1 h2 e;first | omega | (obtain rfl:=Nat.succ.inj e;exact hLd _ rfl)) h)) (fun _ _ _ _ hLd h=>eT (by decide) (by intro k h1 h2 e;first | omega | (obtain rfl:=Nat.succ.inj e;exact hLd _ rfl)) h)) (fun _ _ _ _ hLd h=>eT (by decide) (by intro k h1 h2 e;first | omega | (obtain rfl:=Nat.succ.inj e;exact hLd _ rfl)) h)) (fun _ _ _ _ hLd h=>eT (by decide) (by intro k h1 h2 e;first | omega | (obtain rfl:=Nat.succ.inj e;exact hLd _ rfl)) h))) (fun _ _ _ _ hLd h=>eT (by decide) (by intro k h1 h2 e;first | omega | (obtain rfl:=Nat.succ.inj e;exact hLd _ rfl)) h)) (fun _ _ _ _ hLd h=>eT (by decide) (by intro k h1 h2 e;first | omega | (obtain rfl:=Nat.succ.inj e;exact hLd _ rfl)) h)) (fun _ _ _ _ hLd h=>eT (by decide) (by intro k h1 h2 e;first | omega | (obtain rfl:=Nat.succ.inj e;exact hLd _ rfl)) h)) (fun _ _ _ _ hLd h=>eT (by decide) (by intro k h1 h2 e;first | omega | (obtain rfl:=Nat.succ.inj e;exact hLd _ rfl)) h)) (fun _ _ _ _ hLd h=>eT (by decide) (by intro k h1 h2 e;first | omega | (obtain rfl:=Nat.succ.inj e;exact hLd _ rfl)) h)) (fun _=>rfl) rfl ?_
 ·intro ρ y W L hw hn hLi hLd hb hd
  refine bG dZ (fun _ _ h=>eT (by decide) (by intro k h1 h2 e;first | omega | (obtain rfl:=Nat.succ.inj e;exact hLd _ rfl)) h) hb ?_
  have E9:=hw 9 4 rfl
  have h4:y 4=_:=hd 4 rfl
  have hm:=(tq hb hLi (by decide)).1
  refine aj (.slice (some ⟨gp,op,none⟩) 1 S.H.cp) (ah rfl) (by simp[execOp,go_sem,E9,h4,hm.blk.cell,dR,hap,hl]) rfl
 ·intro ρ y W L hw hn hLi hLd hb hd
  refine bG dZ (fun _ _ h=>eT (by decide) (by intro k h1 h2 e;first | omega | (obtain rfl:=Nat.succ.inj e;exact hLd _ rfl)) h) hb ?_
  have E14:=hw 14 9 rfl
  have h9:y 9=_:=hd 9 rfl
  have hm:=(tq hb hLi (by decide)).1
  refine aj (.slice (some ⟨gp,op,none⟩) 1 S.H.cp) (ah rfl) (by simp[execOp,go_sem,E14,h9,hm.blk.cell,dR,hap,hl]) rfl
 ·intro ρ y W L hw hn hLi hLd hb hd
  refine bG dZ (fun _ _ h=>eT (by decide) (by intro k h1 h2 e;first | omega | (obtain rfl:=Nat.succ.inj e;exact hLd _ rfl)) h) hb ?_
  have E17:=hw 17 12 rfl
  have h12:y 12=_:=hd 12 rfl
  have hm:=(tq hb hLi (by decide)).1
  refine aj (.slice p0.aa p0.ar.length p0.ac) (ah rfl) (by simp[execOp,go_sem,E17,h12,hcell W hm]) rfl
 ·intro ρ y W L hw hn hLi hLd hb hd
  refine bG dZ (fun _ _ h=>eT (by decide) (by intro k h1 h2 e;first | omega | (obtain rfl:=Nat.succ.inj e;exact hLd _ rfl)) h) hb ?_
  have E18:=hw 18 13 rfl
  have h13:y 13=_:=hd 13 rfl
  have EC:∀v,ρ (.const v)=v:=fun v=>hn (.const v) trivial
  refine aj (.agg (lu ⟨true,p0.aa,p0.ac,p0.ar,nTs,zTb⟩)) (ah rfl) (by simp[execOp,go_sem,E18,h13,EC,lu,nTs]) rfl
 ·intro ρ y W L hw hn hLi hLd hb hd;have E19:=hw 19 14 rfl;have h14:y 14=_:=hd 14 rfl
  refine bi (.slice (some ⟨W.heap.size,0,none⟩) 1 1) (ah rfl) ?_ (IL (W':=W.alloc (.cells (lu ⟨true,p0.aa,p0.ac,p0.ar,nTs,zTb⟩) 65)) ((Below.refl _ _).alloc (Nat.le_refl _) _) (hLd 14 rfl) hb ⟨Nat.le_refl _,by unfold maxLen;omega,fun e=>(by cases e),bW.new _ _ _⟩) trivial
  simp[execOp,go_sem,E19.trans h14,lu]
 ·intro ρ y W L hw hn hLi hLd hb hd;have E10:=hw 10 5 rfl;have h5:y 5=_:=hd 5 rfl;have E20:=hw 20 15 rfl;have h15:=hd 15 rfl
  have hm:=(tq hb hLi (by decide)).1
  obtain⟨a,e,hx1,hx2⟩:=hb.2.2.2.1 (hLd 15 rfl) hLi
  have hpv:Own W B 65 10 (.slice S.H.ap S.H.sp.length S.H.cp) S.H.sp.length (S.H.sp.flatMap lS):=hm.ma.sp
  refine dx (ah rfl) (fH _ _ _ rfl B 65 _ 10 224 Try.underlying38 space_info rfl (by decide) (.slice S.H.ap S.H.sp.length S.H.cp) S.H.sp.length _ (by rw[hl,hap];exact E10.trans h5) hpv a 1 e _ (E20.trans hx1) hx2.nl hx2.le rfl hx2.rd (aZ (by simp[lu,nTs,Value.oneCell'])) (by unfold maxLen;omega) (by omega) hm.bs) (fun v W1 h=>Iw (hLd 15 rfl) (hLd 5 rfl) hLi hb h.2.1 h.1 h.2.2) (fun _ _ _=>trivial)
 intro y W1 hbW1 hRW1
 have hy15:((aM fun _=>True)).r (y 15) W1:=hRW1 15 (by decide)
 have hy16:((aM fun _=>True)).r (y 16) W1:=hRW1 16 (by decide)
 clear hRW1
 obtain⟨w1,hm1,hs1,hg2,own2,hsn2⟩:=hbW1.2.2.2.2 rfl
 clear hbW1 h
 have hownP1:Own w1 B 65 10 (.slice S.H.ap S.H.sp.length S.H.cp) S.H.sp.length (S.H.sp.flatMap lS):=hm1.ma.sp
 have hp0m:p0∈S.H.sp:=by rw[hsp'.out];exact List.mem_singleton.2 rfl
 have hbk2:=qp hownP1 hg2 hm1.blk (by decide)
 have hps2:∀p∈S.H.sp++[(⟨true,p0.aa,p0.ac,p0.ar,nTs,zTb⟩:PS)],Own W1 B 69 7 (.slice p.aa p.ar.length p.ac) p.ar.length (p.ar.flatMap gV)∧nO W1 B (jG p.ts) p.tb:=fun p hp=>by
  rcases List.mem_append.1 hp with hp|hp
  ·exact⟨eF hownP1 hg2 (hm1.ma.ps p hp).1 (by decide),sP hownP1 hg2 (hm1.ma.ps p hp).2⟩
  ·rw[List.mem_singleton.1 hp]
   exact⟨eF hownP1 hg2 (hm1.ma.ps p0 hp0m).1 (by decide),zR _ _⟩
 obtain⟨a2,c2,hv2,_⟩:=own2.rd
 rw[hv2] at own2 hsn2 ⊢
 clear hv2
 have hlen2:(S.H.sp++[(⟨true,p0.aa,p0.ac,p0.ar,nTs,zTb⟩:PS)]).length=S.H.sp.length+1:=by simp
 have own2' : Own W1 B 65 10 (.slice a2 (S.H.sp++[(⟨true,p0.aa,p0.ac,p0.ar,nTs,zTb⟩:PS)]).length c2) (S.H.sp++[(⟨true,p0.aa,p0.ac,p0.ar,nTs,zTb⟩:PS)]).length ((S.H.sp++[(⟨true,p0.aa,p0.ac,p0.ar,nTs,zTb⟩:PS)]).flatMap lS):=by
  rw[hlen2,List.flatMap_append]
  simpa using own2
 clear own2
 go_wp2_with (refine aA rfl _ _ _ rfl b 11 _ [.slice a2 (S.H.sp.length+1) c2] rfl rfl rfl _ _ hbk2 (by show 11+1≤13;omega) (by kernel_rfl) (fun u hu=>by cases List.mem_singleton.1 hu;rfl) ?_)
 intro w3 hb3 hg3
 have h3:bR w3 B b { S with H:={ S.H with ap:=a2,cp:=c2,sp:=S.H.sp++[(⟨true,p0.aa,p0.ac,p0.ar,nTs,zTb⟩:PS)] } }:=hm1.appP hg2 own2' hps2 (by rw[hlen2,hl];exact hb3) hg3
 have s3:MS w b S w3 { S with H:={ S.H with ap:=a2,cp:=c2,sp:=S.H.sp++[(⟨true,p0.aa,p0.ac,p0.ar,nTs,zTb⟩:PS)] } }:=hs1.app hm1 hownP1 (by simp[dH]) hg2 hg3 hsn2 (fun x hx=>by
  rcases hx with hx|hx
  ·exact .inl (.inl hx)
  ·simp only[dH,List.mem_cons,List.not_mem_nil,or_false] at hx
   rcases hx with hx|hx|hx|hx|hx|hx|hx|hx|hx<;>first|exact .inr hx.symm|exact .inl (.inr (by simp[dH,hx])))
 clear hm1 hs1 hownP1 hbk2 hps2 own2' hb3 hg3 hsn2 hg2 hcell hap
 -- process 0's areas
 obtain⟨g3,o3,_,_,hv3,_,_,_,hc3,_⟩:=h3.ma.sp.put nN (by decide) 0 (by simp)
 have ha3:a2=some ⟨g3,o3,none⟩:=(Value.slice.inj hv3).1
 have c31:w3.cell? ⟨g3,o3+1,none⟩=some (.slice p0.aa p0.ar.length p0.ac):=by
  have e0:(S.H.sp++[(⟨true,p0.aa,p0.ac,p0.ar,nTs,zTb⟩:PS)])[0]'(by simp)=p0:=by simp[hsp'.out]
  rw[e0] at hc3
  have:=hc3 1 _ rfl
  simpa using this
 have hc:=h3.blk.cell
 unfold dR at hc
 dsimp only at hc
 rw[ha3,hlen2] at hc
 have hA0:=(h3.ma.ps p0 (List.mem_append_left _ hp0m)).1
 have hwA:Hid ((aR p0.ar).1=0):=Lib.hid (hd'.out.rt.pt.ar ⟨p0.lv,p0.ar,dC (bY S.T 0)⟩ (by
  show _∈(List.range (S.H.sp.map PS.sp).length).map fun p=>({ dM S.H.ma p with tb:=dC (bY S.T p) }:Sp)
  rw[List.mem_map]
  refine⟨0,by rw[List.length_map,hl];decide,?_⟩
  have e1:dM S.H.ma 0=p0.sp:=by show (S.H.sp.map PS.sp).getD 0 zSp=_;rw[hsp'.out];rfl
  rw[e1];rfl))
 have hAl:p0.ar.length≤16:=(eD.1 hwA.out).1
 have hsr:=Lib.hid (fZ (eD.1 hwA.out).2)
 go_wp2_with fail
 refine (iQ p0.ar p0.aa p0.ac _ (gI hA0).rd (by omega) (fun x hx=>(srtF_ok hsr.out x hx).1)).mono ?_
 rintro r w4 ⟨rfl,hb4⟩
 have h4:=h3.below hb4
 have s4:=s3.below hb4
 have hs384:=Lib.hid (eX (aY p0.ar))
 clear h3 s3 hc c31 ha3 hb4 hA0
 go_wp2_with (refine aD rfl _ _ _ rfl (fC (aY p0.ar)) rfl rfl (by rw[hs384.out];rfl) (by rw[hs384.out];exact ones_size) (qi _) ?_)
 intro w5 hb5 fx5
 have h5:=h4.below hb5
 have s5:=s4.below hb5
 have hnf:=Lib.hid (h4.new (Nat.le_refl _))
 have hfw:=Lib.hid s4.size
 clear h4 s4 hb5
 generalize w4.heap.size=gf at *
 have hT1:S.T.length=1:=by
  have h9:=hd'.out.ok.len
  have h8:S.H.ma.sp.length=S.H.sp.length:=List.length_map _
  omega
 have hT1':=Lib.hid hT1
 have hl':=Lib.hid hl
 clear hT1 hl
 have hc:=h5.blk.cell
 unfold dR at hc
 dsimp only at hc
 have hownT:Own w5 B 95 192 (.slice S.ab S.T.length S.cb) S.T.length (S.T.flatMap tL):=h5.tt
 go_wp2_with (at_builtin;go_must (refine rT rfl _ _ rfl (by kernel_rfl) B (.slice S.ab S.T.length S.cb) S.T.length (S.T.flatMap tL) rfl hownT rfl (by have:=hT1'.out;omega) h5.bs ?_))
 intro v6 w6 own6 hg6 hsn6
 have hal5:=(Below.refl w5.heap.size w5).alloc (Nat.le_refl _) (.cells (tL (List.replicate 64 zEn)).toArray 95)
 have h5a:=h5.below hal5
 have s5a:=s5.below hal5
 have hownTa:=hownT.below hal5
 have hfa:=fx5.ext hal5
 have hkeep:∀ {x:Nat} {cs:Array Value} {T:TypeId},aC (w5.alloc (.cells (tL (List.replicate 64 zEn)).toArray 95)) x cs T→T≠95→aC w6 x cs T:=fun hk0 hT=>by
  rcases jZ hownTa hg6 with hb0|⟨g,cs,hk,_,hg'⟩
  ·exact hk0.ext hb0
  ·exact dB hk0 hk (fun e=>hT e.symm) hg'
 have hbk6:=hkeep h5a.blk (by decide)
 have fx6:=hkeep hfa (by decide)
 have hTf:∀x,v6.ownBlock=some x→x≠gf:=fun x hx e=>by
  rcases hsn6 with e1|e1
  ·rw[e1] at hx
   obtain⟨cs,hk⟩:=fU hownTa x hx
   rw[e] at hk
   exact ko hk hfa (by decide) rfl
  ·have h9:=e1 x hx
   rw[e] at h9
   exact Nat.lt_irrefl _ (Nat.lt_of_lt_of_le hfa.lt h9)
 obtain⟨a4,c4,rfl,_⟩:=own6.rd
 have hkfT:some gf=oB a4→False:=fun e=>hTf gf (by rw[gF];exact e.symm) rfl
 have hlen4:(S.T++[List.replicate 64 zEn]).length=S.T.length+1:=by simp
 have own6' : Own w6 B 95 192 (.slice a4 (S.T++[List.replicate 64 zEn]).length c4) (S.T++[List.replicate 64 zEn]).length ((S.T++[List.replicate 64 zEn]).flatMap tL):=by
  rw[hlen4,List.flatMap_append]
  simpa using own6
 clear hc h5 s5 hownT own6 hal5 hkeep hfa fx5
 go_wp2_with (refine aA rfl _ _ _ rfl b 12 _ [.slice a4 (S.T.length+1) c4] rfl rfl rfl _ _ hbk6 (by show 12+1≤13;omega) (by kernel_rfl) (fun u hu=>by cases List.mem_singleton.1 hu;rfl) ?_)
 intro w7 hb7 hg7
 have h7:bR w7 B b { S with H:={ S.H with ap:=some ⟨g3,o3,none⟩,cp:=c2,sp:=S.H.sp++[(⟨true,p0.aa,p0.ac,p0.ar,nTs,zTb⟩:PS)] },ab:=a4,cb:=c4,T:=S.T++[List.replicate 64 zEn] }:=h5a.appT hg6 own6' (by rw[hlen4];exact hb7) hg7
 have s7:MS w b S w7 { S with H:={ S.H with ap:=some ⟨g3,o3,none⟩,cp:=c2,sp:=S.H.sp++[(⟨true,p0.aa,p0.ac,p0.ar,nTs,zTb⟩:PS)] },ab:=a4,cb:=c4,T:=S.T++[List.replicate 64 zEn] }:=s5a.app h5a hownTa (by simp[dH]) hg6 hg7 hsn6 (fun x hx=>by
  rcases hx with hx|hx
  ·exact .inl (.inl hx)
  ·simp only[dH,List.mem_cons,List.not_mem_nil,or_false] at hx
   rcases hx with hx|hx|hx|hx|hx|hx|hx|hx|hx<;>first|exact .inr hx.symm|exact .inl (.inr (by simp[dH,hx])))
 have hnb:gf≠b:=fun e=>hnf.out (.inl e)
 have hkf7:Hid (¬gM b ({ S with H:={ S.H with ap:=some ⟨g3,o3,none⟩,cp:=c2,sp:=S.H.sp++[(⟨true,p0.aa,p0.ac,p0.ar,nTs,zTb⟩:PS)] },ab:=a4,cb:=c4,T:=S.T++[List.replicate 64 zEn] }:MW) gf):=Lib.hid fun hk=>by
  rcases hk with hk|hk
  ·exact hnf.out (.inl hk)
  ·simp only[dH,List.mem_cons,List.not_mem_nil,or_false] at hk
   have hlt:gf<w6.heap.size:=fx6.lt
   rcases hk with hk|hk|hk|hk|hk|hk|hk|hk|hk
   all_goals first
    | exact hkfT hk
    | exact hnf.out (.inr (by simp[dH,hk]))
 have fx7:=fx6.grown hg7 (fun e=>hnb (Option.some.inj e).symm)
 clear h5a s5a hownTa hbk6 own6' hb7 hg7 hsn6 hg6 fx6
 have hma5:({ S with H:={ S.H with ap:=some ⟨g3,o3,none⟩,cp:=c2,sp:=S.H.sp++[(⟨true,p0.aa,p0.ac,p0.ar,nTs,zTb⟩:PS)] },ab:=a4,cb:=c4,T:=S.T++[List.replicate 64 zEn] }:MW).H.ma = { S.H.ma with sp:=S.H.ma.sp++[⟨true,p0.ar,zTb⟩] }:=by simp[MH.ma,PS.sp]
 have hmore:Hid (More S { S with H:={ S.H with ap:=some ⟨g3,o3,none⟩,cp:=c2,sp:=S.H.sp++[(⟨true,p0.aa,p0.ac,p0.ar,nTs,zTb⟩:PS)] },ab:=a4,cb:=c4,T:=S.T++[List.replicate 64 zEn] }):=Lib.hid ⟨by
  rw[hma5]
  exact hd'.out.more (s:=⟨true,p0.ar,zTb⟩) (by show (S.H.sp.map PS.sp).length<4;rw[List.length_map,hl'.out];decide) rfl hwA.out,fun p hp n g hg=>by
  rcases List.mem_append.1 hp with hp|hp
  ·exact hf'.out p hp n g hg
  ·rw[List.mem_singleton.1 hp] at hg
   exact hf'.out p0 hp0m n g hg,rfl,rfl,rfl,by simp,rfl⟩
 have hspL:Hid (({ S with H:={ S.H with ap:=some ⟨g3,o3,none⟩,cp:=c2,sp:=S.H.sp++[(⟨true,p0.aa,p0.ac,p0.ar,nTs,zTb⟩:PS)] },ab:=a4,cb:=c4,T:=S.T++[List.replicate 64 zEn] }:MW).H.ma.sp.length=2):=Lib.hid (by
  rw[hma5,List.length_append]
  show (S.H.sp.map PS.sp).length+1=2
  rw[List.length_map,hl'.out])
 have hsp0:Hid ((dM ({ S with H:={ S.H with ap:=some ⟨g3,o3,none⟩,cp:=c2,sp:=S.H.sp++[(⟨true,p0.aa,p0.ac,p0.ar,nTs,zTb⟩:PS)] },ab:=a4,cb:=c4,T:=S.T++[List.replicate 64 zEn] }:MW).H.ma 0).ar=p0.ar∧(dM ({ S with H:={ S.H with ap:=some ⟨g3,o3,none⟩,cp:=c2,sp:=S.H.sp++[(⟨true,p0.aa,p0.ac,p0.ar,nTs,zTb⟩:PS)] },ab:=a4,cb:=c4,T:=S.T++[List.replicate 64 zEn] }:MW).H.ma 1).ar=p0.ar):=Lib.hid (by
  rw[hma5]
  have e:S.H.ma.sp=[p0.sp]:=by show S.H.sp.map PS.sp=_;rw[hsp'.out];rfl
  unfold dM
  simp only[e]
  exact⟨rfl,rfl⟩)
 obtain⟨t0,ht0⟩:=List.length_eq_one_iff.1 hT1'.out
 have hent:Hid ((∀j:Nat,bZ ({ S with H:={ S.H with ap:=some ⟨g3,o3,none⟩,cp:=c2,sp:=S.H.sp++[(⟨true,p0.aa,p0.ac,p0.ar,nTs,zTb⟩:PS)] },ab:=a4,cb:=c4,T:=S.T++[List.replicate 64 zEn] }:MW).T 0 j=t0.getD j zEn)∧∀j:Nat,(bZ ({ S with H:={ S.H with ap:=some ⟨g3,o3,none⟩,cp:=c2,sp:=S.H.sp++[(⟨true,p0.aa,p0.ac,p0.ar,nTs,zTb⟩:PS)] },ab:=a4,cb:=c4,T:=S.T++[List.replicate 64 zEn] }:MW).T 1 j).k=0):=Lib.hid (by
  unfold bZ bY
  simp only[ht0]
  refine⟨fun j=>rfl,fun j => ?_⟩
  show ((List.replicate 64 zEn).getD j zEn).k=0
  rw[List.getD_eq_getElem?_getD,List.getElem?_replicate]
  split<;>rfl)
 obtain⟨gT,oT,_,_,hvT,_,_,_,hcT,_⟩:=h7.tt.put oM (by decide) 0 (by simp)
 have haT:a4=some ⟨gT,oT,none⟩:=(Value.slice.inj hvT).1
 have hrdT:bW w7 (some ⟨gT,oT,none⟩) (tL t0):=fun j u hj=>⟨gT,oT,rfl,by
  have e0:(S.T++[List.replicate 64 zEn])[0]'(by simp)=t0:=by simp[ht0]
  rw[e0] at hcT
  simpa using hcT j u hj⟩
 have hTlen:(S.T++[List.replicate 64 zEn]).length=2:=by rw[hlen4,hT1'.out]
 have hc:=h7.blk.cell
 unfold dR at hc
 dsimp only at hc
 rw[haT,hTlen] at hc
 have ht0':=Lib.hid ht0
 clear hma5 ht0 hvT hcT
 have hsz3:(Try.prog.info? 95).map (·.size)=some (tL t0).length:=by rw[oM];exact ents_size
 have hsz3':=Lib.hid hsz3
 clear hsz3
 go_upto_region 3 with (fail)
 clear hnb hlen4 hlen2 hBs hnf hfw hs384 hwA
 go_upto_region 4 with (refine ax _ _ rfl gT oT rfl rfl (tL t0) hrdT _ Try.underlying95 rfl hsz3'.out ?_)
 have h7:bR w7 B b { S with H:={ S.H with ap:=some ⟨g3,o3,none⟩,cp:=c2,sp:=S.H.sp++[(⟨true,p0.aa,p0.ac,p0.ar,nTs,zTb⟩:PS)] },ab:=a4,cb:=c4,T:=S.T++[List.replicate 64 zEn] }:=h7
 have hlen7:Hid (({ S with H:={ S.H with ap:=some ⟨g3,o3,none⟩,cp:=c2,sp:=S.H.sp++[(⟨true,p0.aa,p0.ac,p0.ar,nTs,zTb⟩:PS)] },ab:=a4,cb:=c4,T:=S.T++[List.replicate 64 zEn] }:MW).T.length=2):=Lib.hid hTlen
 clear hc hrdT hsz3' hTlen
 have hSp5:Hid (({ S with H:={ S.H with ap:=some ⟨g3,o3,none⟩,cp:=c2,sp:=S.H.sp++[(⟨true,p0.aa,p0.ac,p0.ar,nTs,zTb⟩:PS)] },ab:=a4,cb:=c4,T:=S.T++[List.replicate 64 zEn] }:MW).H.sp=S.H.sp++[(⟨true,p0.aa,p0.ac,p0.ar,nTs,zTb⟩:PS)]):=Lib.hid rfl
 have hT5:Hid (({ S with H:={ S.H with ap:=some ⟨g3,o3,none⟩,cp:=c2,sp:=S.H.sp++[(⟨true,p0.aa,p0.ac,p0.ar,nTs,zTb⟩:PS)] },ab:=a4,cb:=c4,T:=S.T++[List.replicate 64 zEn] }:MW).T=S.T++[List.replicate 64 zEn]):=Lib.hid rfl
 generalize ({ S with H:={ S.H with ap:=some ⟨g3,o3,none⟩,cp:=c2,sp:=S.H.sp++[(⟨true,p0.aa,p0.ac,p0.ar,nTs,zTb⟩:PS)] },ab:=a4,cb:=c4,T:=S.T++[List.replicate 64 zEn] }:MW)=S5 at *
 go_loopw [50] (fun i wr => ∃(n:Nat) (Sn:MW),n≤64∧i = .int .i64 n∧bR wr B b Sn∧MS w b S wr Sn∧aC wr gf (fC (aY p0.ar)) 107∧Hid (¬gM b Sn gf)∧Hid (yl S5 Sn∧Bd Sn.H.ma Sn.T∧∀j:Nat,n≤j→bZ Sn.T 0 j=t0.getD j zEn∧(bZ Sn.T 1 j).k=0)) (fun i _=>64-(intOf i).toNat)
 case atStart=>exact⟨0,S5,Nat.zero_le _,rfl,h7,s7,fx7,hkf7,Lib.hid ⟨.refl _,hmore.out.bd,fun j _=>by rw[hT5.out];exact⟨hent.out.1 j,hent.out.2 j⟩⟩⟩
 case round=>
  clear h7 s7 fx7 hkf7
  obtain⟨n,Sn,hn,rfl,hm,hs,fx,hkf,hN⟩:=hrel
  by_cases hn64:n<64
  ·have hni:(n:Int)<64:=by omega
   obtain⟨e,he⟩:∃e,t0.getD n zEn=e:=⟨_,rfl⟩
   have hix:=tJ t0 n hn64 e he
   unfold fK at hix
   have he':=Lib.hid he
   clear he
   have hTSn:Sn.T.length=2:=by
    have h9:=hN.out.2.1.ok.len
    rw[h9]
    show (Sn.H.sp.map PS.sp).length=2
    rw[List.length_map,hN.out.1.sp,hmore.out.sp,hl'.out]
   have h64:Hid (∀p,p<2→(bY Sn.T p).length=64):=Lib.hid fun p hp=>hN.out.2.1.ok.l64 (by rw[←hN.out.2.1.ok.len,hTSn];exact hp)
   go_upto_region 6 with (fail)
   refine eO (fun W=>Code.wp _ _ _ _ W) fun W1 hb1 bx1 hs1 => ?_
   have hm1:=hm.below hb1
   have sm1:=hs.below hb1
   have fx1:=fx.ext hb1
   have hkgx:=Lib.hid (hm.new (Nat.le_refl _))
   have hfar:=Lib.hid (hm.newE (Nat.le_refl _))
   have hgxB:B≤wr.heap.size:=hm.bs
   have hgxw:=Lib.hid hs.size
   have hgfx:gf≠wr.heap.size:=fun e9=>by have:=fx.lt;omega
   have hcx:=bx1.cell
   clear hs1 hb1 hm hs fx hix
   generalize wr.heap.size=gx at *
   by_cases hk1:e.k=1
   ·have hK:=hN.out.1
    have hB:=hN.out.2.1
    have hL:Sn.H.ma.sp.length=2:=by rw[←hB.ok.len];exact hTSn
    have he0:bZ Sn.T 0 n=e:=by rw[(hN.out.2.2 n (Nat.le_refl _)).1];exact he'.out
    have hE:=pu hB.ok (p:=0) (n:=n) (by omega) hn64
    rw[he0] at hE
    have hfe:=gB hB.ok (p:=0) (n:=n) (by omega) hn64
    rw[he0] at hfe
    obtain⟨g,hpg,hfit⟩:=hB.rt.en 0 n (by rw[hfe,hk1];decide)
    rw[hfe] at hfit
    have hn0:0≤e.n:=by rcases (bF _).1 hE with h9 | h9 | h9<;>omega
    obtain⟨f,hf0⟩:=Int.eq_ofNat_of_zero_le hn0
    have hfl:f<Sn.H.m.fs.length:=by
     have h9:=hfit.lt hk1
     have e1:((bN Sn.H.ma Sn.T).m.fs.length:Nat)=Sn.H.m.fs.length:=rfl
     omega
    rw[iE (by omega)] at hpg
    have har:(dM Sn.H.ma 1).ar=(dM Sn.H.ma 0).ar∧(dM Sn.H.ma 0).ar=p0.ar:=by
     have e1:Sn.H.ma.sp=[p0.sp,⟨true,p0.ar,zTb⟩]:=by
      show Sn.H.sp.map PS.sp=_
      rw[hK.sp,hSp5.out,hsp'.out];rfl
     unfold dM
     rw[e1]
     exact⟨rfl,rfl⟩
    have hog:aY p0.ar n=some g:=by rw[iF hsr.out,←har.2];exact hpg
    obtain⟨ga,off,cap,cur,hv,hgB,hgk,hgs,hgc,hgw⟩:=hm1.ma.fr.put eu (by decide) f hfl
    have haf:Sn.H.af=some ⟨ga,off,none⟩:=(Value.slice.inj hv).1
    have hX:dL Sn.H.ma f=Sn.H.m.fs[f]:=by
     unfold dL
     show Sn.H.m.fs.getD f fr0=_
     rw[List.getD_eq_getElem?_getD,List.getElem?_eq_getElem hfl];rfl
    have hr0:=hB.rt.fewR (f:=f) hfl
    have hr1:0≤(Sn.H.m.fs[f]).r∧(Sn.H.m.fs[f]).r≤257:=by rw[←hX];exact hr0
    have hX':=Lib.hid hX
    have hgw':=Lib.hid hgw
    have hgc' : Hid (∀j u,(mD Sn.H.m.fs[f])[j]?=some u→cur[off+f*13+j]?=some u):=Lib.hid fun j u hj=>by rw[←hgk.cell];exact hgc j u hj
    have hc0:∀W,Below W1.heap.size W1 W→W.cell? ⟨ga,off+f*13+8,none⟩=some (.int .i64 (Sn.H.m.fs[f]).r):=fun W hb=>by
     rw[(hgk.ext hb).cell,←hgk.cell]
     exact hgc 8 _ rfl
    have hall:=Lib.hid (And.intro hpg (And.intro hL (And.intro har (And.intro hE (And.intro he0 hog)))))
    clear hX hgw hgc hr0 hv hpg hfit hE hfe hK hB hL hn0 har he0 hog
    generalize Sn.H.m.fs[f]=X at hc0 hr1 hX' hgc'
    have hw0:IntKind.i64.wrap (X.r+1)=X.r+1:=IntWalk.i64_in _ (by omega)
    go_upto_region 7 with (fail)
    refine aF 14 [_,_,_,_,_,_,_,_,_,_,_,_,_,_] (Gk rfl (Gk rfl (Gf b 1 rfl rfl (Gf b 1 rfl rfl (Gf b 1 rfl rfl (Gl hm1.blk (V:=.slice (some ⟨ga,off,none⟩) Sn.H.m.fs.length Sn.H.cf) (by simp[dR,haf]) rfl rfl rfl rfl (Gf gx 1 rfl rfl (Gl bx1 (V:=.int .i64 (f:Int)) (by simp[fK,hf0]) rfl rfl rfl rfl (Gr (.pointer (some ⟨ga,off+f*13,none⟩)) (fun ρ y W hb hKn=>(aT rfl (az rfl hKn) (az rfl hKn) hfl Try.underlying25 frame_size)) rfl rfl (Gf ga (off+f*13+8) rfl rfl (Gc (.int .i64 X.r) (fun W hb=>by simp[hc0 _ hb]) rfl rfl rfl rfl (Gb (.int .i64 (X.r+1)) (by simp[go_sem,hw0]) rfl rfl rfl rfl rfl (Gr (.pointer (some ⟨ga,off+f*13,none⟩)) (fun ρ y W hb hKn=>(aT rfl (az rfl hKn) (az rfl hKn) hfl Try.underlying25 frame_size)) rfl rfl (Gf ga (off+f*13+8) rfl rfl (all_nil))))))))))))))) (fun _=>rfl) rfl ?_
    intro y W8 hbW8 _
    have hgk8:=hgk.ext hbW8
    have hm8:=hm1.below hbW8
    have sm8:=sm1.below hbW8
    have bx8:=bx1.ext hbW8
    have fx8:=fx1.ext hbW8
    clear hm1 sm1 bx1 fx1 hgk hcx hc0 hbW8
    go_wp2_with (refine aA rfl _ _ _ rfl ga (off+f*13+8) _ [.int .i64 (X.r+1)] rfl rfl rfl _ _ hgk8 (by show off+f*13+8+1≤cur.size;omega) (by kernel_rfl) (fun u hu=>by cases List.mem_singleton.1 hu;rfl) ?_)
    intro w9 hb9 hg9
    rw[yn (by omega) (fun j u hj=>hgc'.out j u hj)] at hb9
    have hx0:bR w9 B b (Sn.frs (Sn.H.m.fs.set f (dS X))):=hm8.putF hgk8 hgB hg9 (fs:=Sn.H.m.fs.set f (dS X)) (by simp) (by simpa using hgw'.out _ _ hb9)
    have hkaf:gM b Sn ga:=.inr (by simp only[dH,haf];exact List.mem_cons_self)
    have sx0:MS w b S w9 (Sn.frs (Sn.H.m.fs.set f (dS X))):=sm8.put hg9 hkaf (fun x hx => .inl hx)
    have bx9:=dB bx8 hgk8 (by decide) hg9
    have fx9:=dB fx8 hgk8 (by decide) hg9
    have hg3:w9.cell? ⟨gf,n*6+3,none⟩=some (.bool g.sh):=by
     rw[fx9.cell]
     exact qF (aY p0.ar) n 3 hn64 _ (by rw[hall.out.2.2.2.2.2];rfl) (by decide)
    have hcx:=bx9.cell
    clear hm8 sm8 bx8 fx8 hgk8 hb9 hg9 haf hkaf
    unfold fK at hcx
    cases hsh:g.sh with
    | true=>
     rw[hsh] at hg3
     have hx:=hx0
     have sx:=sx0
     have bx:=bx9
     have fx1:=fx9
     have hkx:Hid (¬gM b (Sn.frs (Sn.H.m.fs.set f (dS X))) gf):=hkf
     have hkgx:Hid (¬gM b (Sn.frs (Sn.H.m.fs.set f (dS X))) gx):=hkgx
     have hT2:(Sn.frs (Sn.H.m.fs.set f (dS X))).T.length=2:=hTSn
     have h64a:(bY (Sn.frs (Sn.H.m.fs.set f (dS X))).T 0).length=64:=h64.out 0 (by decide)
     have h64b:(bY (Sn.frs (Sn.H.m.fs.set f (dS X))).T 1).length=64:=h64.out 1 (by decide)
     have hF12:Hid (yl S5 { (Sn.frs (Sn.H.m.fs.set f (dS X))) with T:=aW (aW (Sn.frs (Sn.H.m.fs.set f (dS X))).T 0 n e) 1 n e }∧Bd (Sn.frs (Sn.H.m.fs.set f (dS X))).H.ma (aW (aW (Sn.frs (Sn.H.m.fs.set f (dS X))).T 0 n e) 1 n e)∧∀j:Nat,n+1≤j→bZ (aW (aW (Sn.frs (Sn.H.m.fs.set f (dS X))).T 0 n e) 1 n e) 0 j=t0.getD j zEn∧(bZ (aW (aW (Sn.frs (Sn.H.m.fs.set f (dS X))).T 0 n e) 1 n e) 1 j).k=0):=Lib.hid (by
      have hK:=hN.out.1
      have hB:=hN.out.2.1
      obtain⟨hpg,hL,har,hE,he0,hog⟩:=hall.out
      have h12:=hB.share1 (w:=e.w) hL hn64 har.1 (by rw[he0];exact hk1) (hN.out.2.2 n (Nat.le_refl _)).2 hpg (by rw[he0];exact hf0) (by rw[he0,hsh];rfl)
      rw[hX'.out,show (⟨1,(f:Int),e.w⟩:En)=e from by rw[←hf0,←hk1]] at h12
      have hE2:cO e=0:=by
       rw[bF] at hE ⊢
       rcases hE with h9|h9|h9
       ·omega
       ·first
        | exact .inr (.inl ⟨h9.1,h9.2⟩)
        | exact .inr (.inl ⟨rfl,by show (0:Int)≤f;omega,by show (f:Int)<40;omega⟩)
       ·omega
      exact⟨⟨hK.sp,hK.fi,hK.ct,hK.dk,by show (Sn.H.m.fs.set f (dS X)).length=_;rw[List.length_set];exact hK.fl,hK.sl⟩,h12,fun j hj=>by
       show bZ (aW (aW Sn.T 0 n e) 1 n e) 0 j=_∧(bZ (aW (aW Sn.T 0 n e) 1 n e) 1 j).k=0
       rw[kS hB.ok hL hn64 hE2 _ _ (by omega),kS hB.ok hL hn64 hE2 _ _ (by omega)]
       exact hN.out.2.2 j (by omega)⟩)
     generalize hSx:(Sn.frs (Sn.H.m.fs.set f (dS X)))=Sx at hx sx hkx hkgx hT2 h64a h64b hF12
     clear hx0 sx0 bx9 fx9
     obtain⟨gT2,oT2,_,hab2,hgT2B,hkT2,_⟩:=hx.ent (p:=0) (n:=n) (by omega) hn64 h64a
     have hgxT:gx≠gT2:=fun e9=>hkgx.out (.inr (by rw[e9];simp[dH,hab2,oB];right;right;right;right;right;right;right;right;rfl))
     have hgfT:gf≠gT2:=fun e9=>hkx.out (.inr (by rw[e9];simp[dH,hab2,oB];right;right;right;right;right;right;right;right;rfl))
     go_upto_region 12 with (fail)
     refine nS 17 [_,_,_,.v (.slice (some ⟨gT2,oT2,none⟩) 2 Sx.cb),_,_,_,_,.v (.slice (some ⟨gT2,oT2,none⟩) 2 Sx.cb),_,.v (.agg (fK e)),.v (.agg (fK e)),_,.v (.pointer (some ⟨gT2,oT2+n*3,none⟩)),.r 14 ((aM fun _=>True)),_,.v (.pointer (some ⟨gT2,oT2+192+n*3,none⟩))] (Bt S Sx { Sx with T:=aW Sx.T 0 n e } B b w gx gf e (fC (aY p0.ar))) aG (fun _=>⟨⟨bx,fx1⟩,fun _=>⟨hx,sx⟩,fun h=>(by cases h)⟩) (Qk aG rfl (Qk aG rfl (Qf aG b 12 rfl rfl (all_cons ?_ (Qk aG rfl (Qk aG rfl (Qk aG rfl (Qf aG b 12 rfl rfl (all_cons ?_ (Qk aG rfl (all_cons ?_ (all_cons ?_ (Qr aG (.pointer (some ⟨gT2,oT2,none⟩)) (fun ρ y W hKn=>(aT (i:=0) rfl (az rfl hKn) (az rfl hKn) (by decide) Try.underlying87 ents_size)) rfl rfl (all_cons ?_ (all_cons ?_ (Qr aG (.pointer (some ⟨gT2,oT2+192,none⟩)) (fun ρ y W hKn=>(aT (i:=1) rfl (az rfl hKn) (az rfl hKn) (by decide) Try.underlying87 ents_size)) rfl rfl (all_cons ?_ (all_nil)))))))))))))))))) (fun _=>rfl) rfl ?_
     ·intro ρ y W L hw hn hLi hLd hb hd
      refine bG aG (fun _ _ h=>h) hb ?_
      have E93:=hw 93 2 rfl
      have h2:y 2=_:=hd 2 rfl
      have hcc:=kP hb (by simp[dR,aW])
      refine aj (.slice (some ⟨gT2,oT2,none⟩) 2 Sx.cb) (ah rfl) (by simp[execOp,go_sem,dn,E93,h2,hcc,dR,hab2,hT2]) rfl
     ·intro ρ y W L hw hn hLi hLd hb hd
      refine bG aG (fun _ _ h=>h) hb ?_
      have E98:=hw 98 7 rfl
      have h7:y 7=_:=hd 7 rfl
      have hcc:=kP hb (by simp[dR,aW])
      refine aj (.slice (some ⟨gT2,oT2,none⟩) 2 Sx.cb) (ah rfl) (by simp[execOp,go_sem,dn,E98,h7,hcc,dR,hab2,hT2]) rfl
     ·intro ρ y W L hw hn hLi hLd hb hd
      refine bG aG (fun _ _ h=>h) hb ?_
      have E4:ρ (.tmp 4) = .pointer (some ⟨gx,0,none⟩):=(hn (.tmp 4) rfl).trans rfl
      refine aj (.agg (fK e)) (ah rfl) (bI rfl E4 hb.1.1 Try.underlying67 rfl entry_size3) rfl
     ·intro ρ y W L hw hn hLi hLd hb hd
      refine bG aG (fun _ _ h=>h) hb ?_
      have E4:ρ (.tmp 4) = .pointer (some ⟨gx,0,none⟩):=(hn (.tmp 4) rfl).trans rfl
      refine aj (.agg (fK e)) (ah rfl) (bI rfl E4 hb.1.1 Try.underlying67 rfl entry_size3) rfl
     ·intro ρ y W L hw hn hLi hLd hb hd
      refine bG aG (fun _ _ h=>h) hb ?_
      have E103:=hw 103 12 rfl
      have h12:y 12=_:=hd 12 rfl
      have E95:=hw 95 4 rfl
      have h4:y 4=_:=hd 4 rfl
      have hn9:((64:Int)≤(n:Int))=False:=eq_false (by omega)
      refine aj (.pointer (some ⟨gT2,oT2+n*3,none⟩)) (ah rfl) (by simp[execOp,go_sem,dn,E103,h12,E95,h4,hn64,hn9]) rfl
     ·intro ρ y W L hw hn hLi hLd hb hd;have E104:=hw 104 13 rfl;have h13:y 13=_:=hd 13 rfl;have E101:=hw 101 10 rfl;have h10:y 10=_:=hd 10 rfl
      obtain⟨hm9,hs9⟩:=hb.2.1 hLi
      obtain⟨gQ,oQ,curQ,hQ,hQB,hQk,hQs,_,hQw⟩:=hm9.ent (p:=0) (n:=n) (by omega) hn64 h64a
      cases (hQ.symm.trans hab2)
      rw[Nat.zero_mul,Nat.add_zero] at hQs hQw
      exact nV (ah rfl) (tQ _ _ _ rfl gT2 (oT2+n*3) _ (iC e) (E104.trans h13) (E101.trans h10) rfl curQ _ hQk (by rw[di];exact hQs) (by kernel_rfl) (aZ (ed _))) ⟨⟨hb.1.1.grown (aJ _ _ _ _) (fun e9=>hgxT (Option.some.inj e9).symm),hb.1.2.grown (aJ _ _ _ _) (fun e9=>hgfT (Option.some.inj e9).symm)⟩,fun h=>(by cases h),fun _=>⟨hQw _ e (hQk.setCells _ _) (aJ _ _ _ _),hs9.put (aJ _ _ _ _) (.inr (by simp only[dH,hab2];simp[oB];right;right;right;right;right;right;right;right;rfl)) (fun x hx => .inl hx)⟩⟩ trivial
     ·intro ρ y W L hw hn hLi hLd hb hd
      refine bG aG (fun _ _ h=>h) hb ?_
      have E105:=hw 105 15 rfl
      have h15:y 15=_:=hd 15 rfl
      have E100:=hw 100 9 rfl
      have h9:y 9=_:=hd 9 rfl
      have hn9:((64:Int)≤(n:Int))=False:=eq_false (by omega)
      refine aj (.pointer (some ⟨gT2,oT2+192+n*3,none⟩)) (ah rfl) (by simp[execOp,go_sem,dn,E105,h15,E100,h9,hn64,hn9]) rfl
     intro y W9 hbW9 hRW9
     have hy14:((aM fun _=>True)).r (y 14) W9:=hRW9 14 (by decide)
     clear hRW9
     simp only[strip,dn,List.map_cons,List.map_nil]
     obtain⟨⟨bx9,fx9⟩,_,hq9⟩:=hbW9
     obtain⟨h9,s9⟩:=hq9 rfl
     have hT9:(aW Sx.T 0 n e).length=2:=by unfold aW;rw[List.length_set];exact hT2
     obtain⟨gR,oR',curR,hR,hRB,hRk,hRs,_,hRw⟩:=h9.ent (p:=1) (n:=n) (by show 1<(aW Sx.T 0 n e).length;omega) hn64 (by
      show (bY (aW Sx.T 0 n e) 1).length=64
      rw[jU (by omega),if_neg (by decide)]
      exact h64b)
     have hR:Sx.ab=some ⟨gR,oR',none⟩:=hR
     cases (hR.symm.trans hab2)
     rw[Nat.one_mul] at hRs hRw
     have hRw':=Lib.hid hRw
     clear hRw hq9 hx sx bx fx1
     go_wp2_with (refine aA rfl _ _ _ rfl gT2 (oT2+192+n*3) _ (iC e) rfl rfl rfl _ _ hRk (by rw[di];exact hRs) (by kernel_rfl) (aZ (ed _)) ?_)
     intro w10 hb10 hg10
     have h10:=hRw'.out w10 e hb10 hg10
     have s10:MS w b S w10 { Sx with T:=aW (aW Sx.T 0 n e) 1 n e }:=s9.put hg10 (.inr (by simp only[dH,hab2];simp[oB];right;right;right;right;right;right;right;right;rfl)) (fun x hx => .inl hx)
     have fx10:=fx9.grown hg10 (fun e9=>hgfT (Option.some.inj e9).symm)
     clear h9 s9 bx9 fx9 hRk hb10 hg10
     go_wp2
     go_roundw
     case rel=>exact⟨n+1,_,by omega,by go_num,h10,s10,fx10,hkx,hF12⟩
     case measure=>simp[intOf];omega
    | false=>
     rw[hsh] at hg3
     go_wp2_with (refine aA rfl _ _ _ rfl gx 2 _ [.bool false] rfl rfl rfl _ _ bx9 (by show 2+1≤3;omega) (by kernel_rfl) (fun u hu=>by cases List.mem_singleton.1 hu;rfl) ?_)
     intro w10 bx hg10
     have bx:aC w10 gx (fK ⟨1,(f:Int),false⟩) 67:=bx
     have hx:bR w10 B b (Sn.frs (Sn.H.m.fs.set f (dS X))):=hx0.locE bx9 hkgx.out hfar.out hgxB hg10
     have sx:=sx0.loc hg10 hgxw.out
     have fx1:=fx9.grown hg10 (fun e9=>hgfx (Option.some.inj e9).symm)
     clear hcx
     have hcx:=bx.cell
     unfold fK at hcx
     have hkx:Hid (¬gM b (Sn.frs (Sn.H.m.fs.set f (dS X))) gf):=hkf
     have hkgx:Hid (¬gM b (Sn.frs (Sn.H.m.fs.set f (dS X))) gx):=hkgx
     have hT2:(Sn.frs (Sn.H.m.fs.set f (dS X))).T.length=2:=hTSn
     have h64a:(bY (Sn.frs (Sn.H.m.fs.set f (dS X))).T 0).length=64:=h64.out 0 (by decide)
     have h64b:(bY (Sn.frs (Sn.H.m.fs.set f (dS X))).T 1).length=64:=h64.out 1 (by decide)
     have hF12:Hid (yl S5 { (Sn.frs (Sn.H.m.fs.set f (dS X))) with T:=aW (aW (Sn.frs (Sn.H.m.fs.set f (dS X))).T 0 n (⟨1,(f:Int),false⟩:En)) 1 n (⟨1,(f:Int),false⟩:En) }∧Bd (Sn.frs (Sn.H.m.fs.set f (dS X))).H.ma (aW (aW (Sn.frs (Sn.H.m.fs.set f (dS X))).T 0 n (⟨1,(f:Int),false⟩:En)) 1 n (⟨1,(f:Int),false⟩:En))∧∀j:Nat,n+1≤j→bZ (aW (aW (Sn.frs (Sn.H.m.fs.set f (dS X))).T 0 n (⟨1,(f:Int),false⟩:En)) 1 n (⟨1,(f:Int),false⟩:En)) 0 j=t0.getD j zEn∧(bZ (aW (aW (Sn.frs (Sn.H.m.fs.set f (dS X))).T 0 n (⟨1,(f:Int),false⟩:En)) 1 n (⟨1,(f:Int),false⟩:En)) 1 j).k=0):=Lib.hid (by
      have hK:=hN.out.1
      have hB:=hN.out.2.1
      obtain⟨hpg,hL,har,hE,he0,hog⟩:=hall.out
      have h12:=hB.share1 (w:=false) hL hn64 har.1 (by rw[he0];exact hk1) (hN.out.2.2 n (Nat.le_refl _)).2 hpg (by rw[he0];exact hf0) (by rw[he0,hsh];rfl)
      rw[hX'.out,show (⟨1,(f:Int),false⟩:En)=(⟨1,(f:Int),false⟩:En) from by rw[←hf0,←hk1]] at h12
      have hE2:cO (⟨1,(f:Int),false⟩:En)=0:=by
       rw[bF] at hE ⊢
       rcases hE with h9|h9|h9
       ·omega
       ·first
        | exact .inr (.inl ⟨h9.1,h9.2⟩)
        | exact .inr (.inl ⟨rfl,by show (0:Int)≤f;omega,by show (f:Int)<40;omega⟩)
       ·omega
      exact⟨⟨hK.sp,hK.fi,hK.ct,hK.dk,by show (Sn.H.m.fs.set f (dS X)).length=_;rw[List.length_set];exact hK.fl,hK.sl⟩,h12,fun j hj=>by
       show bZ (aW (aW Sn.T 0 n (⟨1,(f:Int),false⟩:En)) 1 n (⟨1,(f:Int),false⟩:En)) 0 j=_∧(bZ (aW (aW Sn.T 0 n (⟨1,(f:Int),false⟩:En)) 1 n (⟨1,(f:Int),false⟩:En)) 1 j).k=0
       rw[kS hB.ok hL hn64 hE2 _ _ (by omega),kS hB.ok hL hn64 hE2 _ _ (by omega)]
       exact hN.out.2.2 j (by omega)⟩)
     generalize hSx:(Sn.frs (Sn.H.m.fs.set f (dS X)))=Sx at hx sx hkx hkgx hT2 h64a h64b hF12
     clear hx0 sx0 bx9 fx9 hg10
     obtain⟨gT2,oT2,_,hab2,hgT2B,hkT2,_⟩:=hx.ent (p:=0) (n:=n) (by omega) hn64 h64a
     have hgxT:gx≠gT2:=fun e9=>hkgx.out (.inr (by rw[e9];simp[dH,hab2,oB];right;right;right;right;right;right;right;right;rfl))
     have hgfT:gf≠gT2:=fun e9=>hkx.out (.inr (by rw[e9];simp[dH,hab2,oB];right;right;right;right;right;right;right;right;rfl))
     go_upto_region 12 with (fail)
     refine nS 17 [_,_,_,.v (.slice (some ⟨gT2,oT2,none⟩) 2 Sx.cb),_,_,_,_,.v (.slice (some ⟨gT2,oT2,none⟩) 2 Sx.cb),_,.v (.agg (fK (⟨1,(f:Int),false⟩:En))),.v (.agg (fK (⟨1,(f:Int),false⟩:En))),_,.v (.pointer (some ⟨gT2,oT2+n*3,none⟩)),.r 14 ((aM fun _=>True)),_,.v (.pointer (some ⟨gT2,oT2+192+n*3,none⟩))] (Bt S Sx { Sx with T:=aW Sx.T 0 n (⟨1,(f:Int),false⟩:En) } B b w gx gf (⟨1,(f:Int),false⟩:En) (fC (aY p0.ar))) aG (fun _=>⟨⟨bx,fx1⟩,fun _=>⟨hx,sx⟩,fun h=>(by cases h)⟩) (Qk aG rfl (Qk aG rfl (Qf aG b 12 rfl rfl (all_cons ?_ (Qk aG rfl (Qk aG rfl (Qk aG rfl (Qf aG b 12 rfl rfl (all_cons ?_ (Qk aG rfl (all_cons ?_ (all_cons ?_ (Qr aG (.pointer (some ⟨gT2,oT2,none⟩)) (fun ρ y W hKn=>(aT (i:=0) rfl (az rfl hKn) (az rfl hKn) (by decide) Try.underlying87 ents_size)) rfl rfl (all_cons ?_ (all_cons ?_ (Qr aG (.pointer (some ⟨gT2,oT2+192,none⟩)) (fun ρ y W hKn=>(aT (i:=1) rfl (az rfl hKn) (az rfl hKn) (by decide) Try.underlying87 ents_size)) rfl rfl (all_cons ?_ (all_nil)))))))))))))))))) (fun _=>rfl) rfl ?_
     ·intro ρ y W L hw hn hLi hLd hb hd
      refine bG aG (fun _ _ h=>h) hb ?_
      have E93:=hw 93 2 rfl
      have h2:y 2=_:=hd 2 rfl
      have hcc:=kP hb (by simp[dR,aW])
      refine aj (.slice (some ⟨gT2,oT2,none⟩) 2 Sx.cb) (ah rfl) (by simp[execOp,go_sem,dn,E93,h2,hcc,dR,hab2,hT2]) rfl
     ·intro ρ y W L hw hn hLi hLd hb hd
      refine bG aG (fun _ _ h=>h) hb ?_
      have E98:=hw 98 7 rfl
      have h7:y 7=_:=hd 7 rfl
      have hcc:=kP hb (by simp[dR,aW])
      refine aj (.slice (some ⟨gT2,oT2,none⟩) 2 Sx.cb) (ah rfl) (by simp[execOp,go_sem,dn,E98,h7,hcc,dR,hab2,hT2]) rfl
     ·intro ρ y W L hw hn hLi hLd hb hd
      refine bG aG (fun _ _ h=>h) hb ?_
      have E4:ρ (.tmp 4) = .pointer (some ⟨gx,0,none⟩):=(hn (.tmp 4) rfl).trans rfl
      refine aj (.agg (fK (⟨1,(f:Int),false⟩:En))) (ah rfl) (bI rfl E4 hb.1.1 Try.underlying67 rfl entry_size3) rfl
     ·intro ρ y W L hw hn hLi hLd hb hd
      refine bG aG (fun _ _ h=>h) hb ?_
      have E4:ρ (.tmp 4) = .pointer (some ⟨gx,0,none⟩):=(hn (.tmp 4) rfl).trans rfl
      refine aj (.agg (fK (⟨1,(f:Int),false⟩:En))) (ah rfl) (bI rfl E4 hb.1.1 Try.underlying67 rfl entry_size3) rfl
     ·intro ρ y W L hw hn hLi hLd hb hd
      refine bG aG (fun _ _ h=>h) hb ?_
      have E103:=hw 103 12 rfl
      have h12:y 12=_:=hd 12 rfl
      have E95:=hw 95 4 rfl
      have h4:y 4=_:=hd 4 rfl
      have hn9:((64:Int)≤(n:Int))=False:=eq_false (by omega)
      refine aj (.pointer (some ⟨gT2,oT2+n*3,none⟩)) (ah rfl) (by simp[execOp,go_sem,dn,E103,h12,E95,h4,hn64,hn9]) rfl
     ·intro ρ y W L hw hn hLi hLd hb hd;have E104:=hw 104 13 rfl;have h13:y 13=_:=hd 13 rfl;have E101:=hw 101 10 rfl;have h10:y 10=_:=hd 10 rfl
      obtain⟨hm9,hs9⟩:=hb.2.1 hLi
      obtain⟨gQ,oQ,curQ,hQ,hQB,hQk,hQs,_,hQw⟩:=hm9.ent (p:=0) (n:=n) (by omega) hn64 h64a
      cases (hQ.symm.trans hab2)
      rw[Nat.zero_mul,Nat.add_zero] at hQs hQw
      exact nV (ah rfl) (tQ _ _ _ rfl gT2 (oT2+n*3) _ (iC (⟨1,(f:Int),false⟩:En)) (E104.trans h13) (E101.trans h10) rfl curQ _ hQk (by rw[di];exact hQs) (by kernel_rfl) (aZ (ed _))) ⟨⟨hb.1.1.grown (aJ _ _ _ _) (fun e9=>hgxT (Option.some.inj e9).symm),hb.1.2.grown (aJ _ _ _ _) (fun e9=>hgfT (Option.some.inj e9).symm)⟩,fun h=>(by cases h),fun _=>⟨hQw _ (⟨1,(f:Int),false⟩:En) (hQk.setCells _ _) (aJ _ _ _ _),hs9.put (aJ _ _ _ _) (.inr (by simp only[dH,hab2];simp[oB];right;right;right;right;right;right;right;right;rfl)) (fun x hx => .inl hx)⟩⟩ trivial
     ·intro ρ y W L hw hn hLi hLd hb hd
      refine bG aG (fun _ _ h=>h) hb ?_
      have E105:=hw 105 15 rfl
      have h15:y 15=_:=hd 15 rfl
      have E100:=hw 100 9 rfl
      have h9:y 9=_:=hd 9 rfl
      have hn9:((64:Int)≤(n:Int))=False:=eq_false (by omega)
      refine aj (.pointer (some ⟨gT2,oT2+192+n*3,none⟩)) (ah rfl) (by simp[execOp,go_sem,dn,E105,h15,E100,h9,hn64,hn9]) rfl
     intro y W9 hbW9 hRW9
     have hy14:((aM fun _=>True)).r (y 14) W9:=hRW9 14 (by decide)
     clear hRW9
     simp only[strip,dn,List.map_cons,List.map_nil]
     obtain⟨⟨bx9,fx9⟩,_,hq9⟩:=hbW9
     obtain⟨h9,s9⟩:=hq9 rfl
     have hT9:(aW Sx.T 0 n (⟨1,(f:Int),false⟩:En)).length=2:=by unfold aW;rw[List.length_set];exact hT2
     obtain⟨gR,oR',curR,hR,hRB,hRk,hRs,_,hRw⟩:=h9.ent (p:=1) (n:=n) (by show 1<(aW Sx.T 0 n (⟨1,(f:Int),false⟩:En)).length;omega) hn64 (by
      show (bY (aW Sx.T 0 n (⟨1,(f:Int),false⟩:En)) 1).length=64
      rw[jU (by omega),if_neg (by decide)]
      exact h64b)
     have hR:Sx.ab=some ⟨gR,oR',none⟩:=hR
     cases (hR.symm.trans hab2)
     rw[Nat.one_mul] at hRs hRw
     have hRw':=Lib.hid hRw
     clear hRw hq9 hx sx bx fx1
     go_wp2_with (refine aA rfl _ _ _ rfl gT2 (oT2+192+n*3) _ (iC (⟨1,(f:Int),false⟩:En)) rfl rfl rfl _ _ hRk (by rw[di];exact hRs) (by kernel_rfl) (aZ (ed _)) ?_)
     intro w10 hb10 hg10
     have h10:=hRw'.out w10 (⟨1,(f:Int),false⟩:En) hb10 hg10
     have s10:MS w b S w10 { Sx with T:=aW (aW Sx.T 0 n (⟨1,(f:Int),false⟩:En)) 1 n (⟨1,(f:Int),false⟩:En) }:=s9.put hg10 (.inr (by simp only[dH,hab2];simp[oB];right;right;right;right;right;right;right;right;rfl)) (fun x hx => .inl hx)
     have fx10:=fx9.grown hg10 (fun e9=>hgfT (Option.some.inj e9).symm)
     clear h9 s9 bx9 fx9 hRk hb10 hg10
     go_wp2
     go_roundw
     case rel=>exact⟨n+1,_,by omega,by go_num,h10,s10,fx10,hkx,hF12⟩
     case measure=>simp[intOf];omega
   ·by_cases hk2:e.k=2
    ·have hK:=hN.out.1
     have hB:=hN.out.2.1
     have hL:Sn.H.ma.sp.length=2:=by rw[←hB.ok.len];exact hTSn
     have he0:bZ Sn.T 0 n=e:=by rw[(hN.out.2.2 n (Nat.le_refl _)).1];exact he'.out
     have hE:=pu hB.ok (p:=0) (n:=n) (by omega) hn64
     rw[he0] at hE
     have hfe:=gB hB.ok (p:=0) (n:=n) (by omega) hn64
     rw[he0] at hfe
     obtain⟨g,hpg,hfit⟩:=hB.rt.en 0 n (by rw[hfe,hk2];decide)
     rw[hfe] at hfit
     have hn0:0≤e.n:=by rcases (bF _).1 hE with h9 | h9 | h9<;>omega
     obtain⟨s0,hs0⟩:=Int.eq_ofNat_of_zero_le hn0
     have hsl:s0<Sn.H.sl.length:=by
      have h9:=(hfit.sw hk2).1
      have e1:((bN Sn.H.ma Sn.T).sl.length:Nat)=Sn.H.sl.length:=rfl
      omega
     obtain⟨gs,off,cap,cur,hv,hgB,hgk,hgs,hgc,hgw⟩:=Own.put (enc:=fun x=>[eU x]) (sz:=1) (l:=Sn.H.sl) (fun _=>rfl) Nat.one_pos (by rw[ku];exact hm1.ma.sl) s0 hsl
     have has:Sn.H.asl=some ⟨gs,off,none⟩:=(Value.slice.inj hv).1
     rw[Nat.mul_one] at hgs hgc hgw
     have hz0:kL Sn.H.ma s0=Sn.H.sl[s0]:=by
      unfold kL
      show Sn.H.sl.getD s0 0=_
      rw[List.getD_eq_getElem?_getD,List.getElem?_eq_getElem hsl];rfl
     have hfw9:=hB.rt.fewS (s:=s0) hsl
     have hfw8:0≤Sn.H.sl[s0]∧Sn.H.sl[s0]≤256:=by rw[←hz0];exact hfw9
     have hgw':=Lib.hid hgw
     have hz0':=Lib.hid hz0
     have hc0:∀W,Below W1.heap.size W1 W→W.cell? ⟨gs,off+s0,none⟩=some (.int .i64 Sn.H.sl[s0]):=fun W hb=>by
      have h9:=hgc 0 _ rfl
      rw[Nat.add_zero] at h9
      have h8:=(hgk.ext hb).cell (off+s0)
      rw[h8,←hgk.cell];exact h9
     have hps:=Lib.hid (And.intro hpg hL)
     clear hz0 hgw hgc hfw9 hv hpg hfit hE hfe hK hB hL hn0
     generalize Sn.H.sl[s0]=v0 at hc0 hfw8 hz0'
     have hw0:IntKind.i64.wrap (v0+1)=v0+1:=IntWalk.i64_in _ (by omega)
     have he0':=Lib.hid he0
     clear he0
     go_upto_region 11 with (fail)
     refine aF 11 [_,_,_,_,_,_,_,_,_,_,_] (Gk rfl (Gk rfl (Gf b 1 rfl rfl (Gf b 3 rfl rfl (Gl hm1.blk (V:=.slice (some ⟨gs,off,none⟩) Sn.H.sl.length Sn.H.csl) (by simp[dR,has]) rfl rfl rfl rfl (Gf gx 1 rfl rfl (Gl bx1 (V:=.int .i64 (s0:Int)) (by simp[fK,hs0]) rfl rfl rfl rfl (Gr (.pointer (some ⟨gs,off+s0,none⟩)) (fun ρ y W hb hKn=>(yC rfl (az rfl hKn) (az rfl hKn) hsl)) rfl rfl (Gc (.int .i64 v0) (fun W hb=>by simp[hc0 _ hb]) rfl rfl rfl rfl (Gb (.int .i64 (v0+1)) (by simp[go_sem,hw0]) rfl rfl rfl rfl rfl (Gr (.pointer (some ⟨gs,off+s0,none⟩)) (fun ρ y W hb hKn=>(yC rfl (az rfl hKn) (az rfl hKn) hsl)) rfl rfl (all_nil)))))))))))) (fun _=>rfl) rfl ?_
     intro y W8 hbW8 _
     have hgk8:=hgk.ext hbW8
     have hm8:=hm1.below hbW8
     have sm8:=sm1.below hbW8
     have bx8:=bx1.ext hbW8
     have fx8:=fx1.ext hbW8
     clear hm1 sm1 bx1 fx1 hgk hcx hc0 hbW8
     go_wp2_with (refine aA rfl _ _ _ rfl gs (off+s0) _ [.int .i64 (v0+1)] rfl rfl rfl _ _ hgk8 (by show off+s0+1≤cur.size;omega) (by kernel_rfl) (fun u hu=>by cases List.mem_singleton.1 hu;rfl) ?_)
     intro w9 hb9 hg9
     have hga:oB Sn.H.asl=some gs:=by rw[has];rfl
     have hx:bR w9 B b { Sn with H:={ Sn.H with sl:=Sn.H.sl.set s0 (v0+1) } }:=hm8.putS hgk8 hgB hga hg9 (sl:=Sn.H.sl.set s0 (v0+1)) (by simp) (by
      have h9:=hgw'.out w9 (v0+1) hb9
      rw[ku] at h9
      simpa using h9)
     have sx:MS w b S w9 { Sn with H:={ Sn.H with sl:=Sn.H.sl.set s0 (v0+1) } }:=sm8.put hg9 (.inr (by simp[dH,hga])) (fun x hx => .inl hx)
     have bx:=dB bx8 hgk8 (by decide) hg9
     have fx1:=dB fx8 hgk8 (by decide) hg9
     have hkx:Hid (¬gM b ({ Sn with H:={ Sn.H with sl:=Sn.H.sl.set s0 (v0+1) } }:MW) gf):=hkf
     have hkgx:Hid (¬gM b ({ Sn with H:={ Sn.H with sl:=Sn.H.sl.set s0 (v0+1) } }:MW) gx):=hkgx
     have hT2:({ Sn with H:={ Sn.H with sl:=Sn.H.sl.set s0 (v0+1) } }:MW).T.length=2:=hTSn
     have h64a:(bY ({ Sn with H:={ Sn.H with sl:=Sn.H.sl.set s0 (v0+1) } }:MW).T 0).length=64:=h64.out 0 (by decide)
     have h64b:(bY ({ Sn with H:={ Sn.H with sl:=Sn.H.sl.set s0 (v0+1) } }:MW).T 1).length=64:=h64.out 1 (by decide)
     have hF12:Hid (yl S5 { ({ Sn with H:={ Sn.H with sl:=Sn.H.sl.set s0 (v0+1) } }:MW) with T:=aW (aW ({ Sn with H:={ Sn.H with sl:=Sn.H.sl.set s0 (v0+1) } }:MW).T 0 n e) 1 n e }∧Bd ({ Sn with H:={ Sn.H with sl:=Sn.H.sl.set s0 (v0+1) } }:MW).H.ma (aW (aW ({ Sn with H:={ Sn.H with sl:=Sn.H.sl.set s0 (v0+1) } }:MW).T 0 n e) 1 n e)∧∀j:Nat,n+1≤j→bZ (aW (aW ({ Sn with H:={ Sn.H with sl:=Sn.H.sl.set s0 (v0+1) } }:MW).T 0 n e) 1 n e) 0 j=t0.getD j zEn∧(bZ (aW (aW ({ Sn with H:={ Sn.H with sl:=Sn.H.sl.set s0 (v0+1) } }:MW).T 0 n e) 1 n e) 1 j).k=0):=Lib.hid (by
      have hK:=hN.out.1
      have hB:=hN.out.2.1
      have hL:=hps.out.2
      have hE:=pu hB.ok (p:=0) (n:=n) (by omega) hn64
      rw[he0'.out] at hE
      have hpg:=hps.out.1
      rw[iE (by omega)] at hpg
      have har:(dM Sn.H.ma 1).ar=(dM Sn.H.ma 0).ar:=by
       show ((Sn.H.sp.map PS.sp).getD 1 zSp).ar=((Sn.H.sp.map PS.sp).getD 0 zSp).ar
       rw[hK.sp,hSp5.out,hsp'.out];rfl
      have h12:=hB.share2 hL hn64 har (by rw[he0'.out];exact hk2) (hN.out.2.2 n (Nat.le_refl _)).2 hpg (by rw[he0'.out];exact hs0)
      rw[he0'.out,hz0'.out] at h12
      exact⟨⟨hK.sp,hK.fi,hK.ct,hK.dk,hK.fl,by show (Sn.H.sl.set s0 (v0+1)).length=_;rw[List.length_set];exact hK.sl⟩,h12,fun j hj=>by
       show bZ (aW (aW Sn.T 0 n e) 1 n e) 0 j=_∧(bZ (aW (aW Sn.T 0 n e) 1 n e) 1 j).k=0
       rw[kS hB.ok hL hn64 hE _ _ (by omega),kS hB.ok hL hn64 hE _ _ (by omega)]
       exact hN.out.2.2 j (by omega)⟩)
     clear hm8 sm8 bx8 fx8 hgk8 hb9 hg9 has hga
     generalize hSx:({ Sn with H:={ Sn.H with sl:=Sn.H.sl.set s0 (v0+1) } }:MW)=Sx at hx sx hkx hkgx hT2 h64a h64b hF12
     obtain⟨gT2,oT2,_,hab2,hgT2B,hkT2,_⟩:=hx.ent (p:=0) (n:=n) (by omega) hn64 h64a
     have hgxT:gx≠gT2:=fun e9=>hkgx.out (.inr (by rw[e9];simp[dH,hab2,oB];right;right;right;right;right;right;right;right;rfl))
     have hgfT:gf≠gT2:=fun e9=>hkx.out (.inr (by rw[e9];simp[dH,hab2,oB];right;right;right;right;right;right;right;right;rfl))
     go_upto_region 12 with (fail)
     refine nS 17 [_,_,_,.v (.slice (some ⟨gT2,oT2,none⟩) 2 Sx.cb),_,_,_,_,.v (.slice (some ⟨gT2,oT2,none⟩) 2 Sx.cb),_,.v (.agg (fK e)),.v (.agg (fK e)),_,.v (.pointer (some ⟨gT2,oT2+n*3,none⟩)),.r 14 ((aM fun _=>True)),_,.v (.pointer (some ⟨gT2,oT2+192+n*3,none⟩))] (Bt S Sx { Sx with T:=aW Sx.T 0 n e } B b w gx gf e (fC (aY p0.ar))) aG (fun _=>⟨⟨bx,fx1⟩,fun _=>⟨hx,sx⟩,fun h=>(by cases h)⟩) (Qk aG rfl (Qk aG rfl (Qf aG b 12 rfl rfl (all_cons ?_ (Qk aG rfl (Qk aG rfl (Qk aG rfl (Qf aG b 12 rfl rfl (all_cons ?_ (Qk aG rfl (all_cons ?_ (all_cons ?_ (Qr aG (.pointer (some ⟨gT2,oT2,none⟩)) (fun ρ y W hKn=>(aT (i:=0) rfl (az rfl hKn) (az rfl hKn) (by decide) Try.underlying87 ents_size)) rfl rfl (all_cons ?_ (all_cons ?_ (Qr aG (.pointer (some ⟨gT2,oT2+192,none⟩)) (fun ρ y W hKn=>(aT (i:=1) rfl (az rfl hKn) (az rfl hKn) (by decide) Try.underlying87 ents_size)) rfl rfl (all_cons ?_ (all_nil)))))))))))))))))) (fun _=>rfl) rfl ?_
     ·intro ρ y W L hw hn hLi hLd hb hd
      refine bG aG (fun _ _ h=>h) hb ?_
      have E93:=hw 93 2 rfl
      have h2:y 2=_:=hd 2 rfl
      have hcc:=kP hb (by simp[dR,aW])
      refine aj (.slice (some ⟨gT2,oT2,none⟩) 2 Sx.cb) (ah rfl) (by simp[execOp,go_sem,dn,E93,h2,hcc,dR,hab2,hT2]) rfl
     ·intro ρ y W L hw hn hLi hLd hb hd
      refine bG aG (fun _ _ h=>h) hb ?_
      have E98:=hw 98 7 rfl
      have h7:y 7=_:=hd 7 rfl
      have hcc:=kP hb (by simp[dR,aW])
      refine aj (.slice (some ⟨gT2,oT2,none⟩) 2 Sx.cb) (ah rfl) (by simp[execOp,go_sem,dn,E98,h7,hcc,dR,hab2,hT2]) rfl
     ·intro ρ y W L hw hn hLi hLd hb hd
      refine bG aG (fun _ _ h=>h) hb ?_
      have E4:ρ (.tmp 4) = .pointer (some ⟨gx,0,none⟩):=(hn (.tmp 4) rfl).trans rfl
      refine aj (.agg (fK e)) (ah rfl) (bI rfl E4 hb.1.1 Try.underlying67 rfl entry_size3) rfl
     ·intro ρ y W L hw hn hLi hLd hb hd
      refine bG aG (fun _ _ h=>h) hb ?_
      have E4:ρ (.tmp 4) = .pointer (some ⟨gx,0,none⟩):=(hn (.tmp 4) rfl).trans rfl
      refine aj (.agg (fK e)) (ah rfl) (bI rfl E4 hb.1.1 Try.underlying67 rfl entry_size3) rfl
     ·intro ρ y W L hw hn hLi hLd hb hd
      refine bG aG (fun _ _ h=>h) hb ?_
      have E103:=hw 103 12 rfl
      have h12:y 12=_:=hd 12 rfl
      have E95:=hw 95 4 rfl
      have h4:y 4=_:=hd 4 rfl
      have hn9:((64:Int)≤(n:Int))=False:=eq_false (by omega)
      refine aj (.pointer (some ⟨gT2,oT2+n*3,none⟩)) (ah rfl) (by simp[execOp,go_sem,dn,E103,h12,E95,h4,hn64,hn9]) rfl
     ·intro ρ y W L hw hn hLi hLd hb hd;have E104:=hw 104 13 rfl;have h13:y 13=_:=hd 13 rfl;have E101:=hw 101 10 rfl;have h10:y 10=_:=hd 10 rfl
      obtain⟨hm9,hs9⟩:=hb.2.1 hLi
      obtain⟨gQ,oQ,curQ,hQ,hQB,hQk,hQs,_,hQw⟩:=hm9.ent (p:=0) (n:=n) (by omega) hn64 h64a
      cases (hQ.symm.trans hab2)
      rw[Nat.zero_mul,Nat.add_zero] at hQs hQw
      exact nV (ah rfl) (tQ _ _ _ rfl gT2 (oT2+n*3) _ (iC e) (E104.trans h13) (E101.trans h10) rfl curQ _ hQk (by rw[di];exact hQs) (by kernel_rfl) (aZ (ed _))) ⟨⟨hb.1.1.grown (aJ _ _ _ _) (fun e9=>hgxT (Option.some.inj e9).symm),hb.1.2.grown (aJ _ _ _ _) (fun e9=>hgfT (Option.some.inj e9).symm)⟩,fun h=>(by cases h),fun _=>⟨hQw _ e (hQk.setCells _ _) (aJ _ _ _ _),hs9.put (aJ _ _ _ _) (.inr (by simp only[dH,hab2];simp[oB];right;right;right;right;right;right;right;right;rfl)) (fun x hx => .inl hx)⟩⟩ trivial
     ·intro ρ y W L hw hn hLi hLd hb hd
      refine bG aG (fun _ _ h=>h) hb ?_
      have E105:=hw 105 15 rfl
      have h15:y 15=_:=hd 15 rfl
      have E100:=hw 100 9 rfl
      have h9:y 9=_:=hd 9 rfl
      have hn9:((64:Int)≤(n:Int))=False:=eq_false (by omega)
      refine aj (.pointer (some ⟨gT2,oT2+192+n*3,none⟩)) (ah rfl) (by simp[execOp,go_sem,dn,E105,h15,E100,h9,hn64,hn9]) rfl
     intro y W9 hbW9 hRW9
     have hy14:((aM fun _=>True)).r (y 14) W9:=hRW9 14 (by decide)
     clear hRW9
     simp only[strip,dn,List.map_cons,List.map_nil]
     obtain⟨⟨bx9,fx9⟩,_,hq9⟩:=hbW9
     obtain⟨h9,s9⟩:=hq9 rfl
     have hT9:(aW Sx.T 0 n e).length=2:=by unfold aW;rw[List.length_set];exact hT2
     obtain⟨gR,oR',curR,hR,hRB,hRk,hRs,_,hRw⟩:=h9.ent (p:=1) (n:=n) (by show 1<(aW Sx.T 0 n e).length;omega) hn64 (by
      show (bY (aW Sx.T 0 n e) 1).length=64
      rw[jU (by omega),if_neg (by decide)]
      exact h64b)
     have hR:Sx.ab=some ⟨gR,oR',none⟩:=hR
     cases (hR.symm.trans hab2)
     rw[Nat.one_mul] at hRs hRw
     have hRw':=Lib.hid hRw
     clear hRw hq9 hx sx bx fx1
     go_wp2_with (refine aA rfl _ _ _ rfl gT2 (oT2+192+n*3) _ (iC e) rfl rfl rfl _ _ hRk (by rw[di];exact hRs) (by kernel_rfl) (aZ (ed _)) ?_)
     intro w10 hb10 hg10
     have h10:=hRw'.out w10 e hb10 hg10
     have s10:MS w b S w10 { Sx with T:=aW (aW Sx.T 0 n e) 1 n e }:=s9.put hg10 (.inr (by simp only[dH,hab2];simp[oB];right;right;right;right;right;right;right;right;rfl)) (fun x hx => .inl hx)
     have fx10:=fx9.grown hg10 (fun e9=>hgfT (Option.some.inj e9).symm)
     clear h9 s9 bx9 fx9 hRk hb10 hg10
     go_wp2
     go_roundw
     case rel=>exact⟨n+1,_,by omega,by go_num,h10,s10,fx10,hkx,hF12⟩
     case measure=>simp[intOf];omega
    ·have hx:=hm1
     have sx:=sm1
     have bx:=bx1
     have hkx:=hkf
     have hT2:=hTSn
     have h64a:=h64.out 0 (by decide)
     have h64b:=h64.out 1 (by decide)
     have hF12:Hid (yl S5 { Sn with T:=aW (aW Sn.T 0 n e) 1 n e }∧Bd Sn.H.ma (aW (aW Sn.T 0 n e) 1 n e)∧∀j:Nat,n+1≤j→bZ (aW (aW Sn.T 0 n e) 1 n e) 0 j=t0.getD j zEn∧(bZ (aW (aW Sn.T 0 n e) 1 n e) 1 j).k=0):=Lib.hid (by
      have hK:=hN.out.1
      have hB:=hN.out.2.1
      have hL:Sn.H.ma.sp.length=2:=by rw[←hB.ok.len];exact hTSn
      have he0:bZ Sn.T 0 n=e:=by rw[(hN.out.2.2 n (Nat.le_refl _)).1];exact he'.out
      have hE:=pu hB.ok (p:=0) (n:=n) (by omega) hn64
      rw[he0] at hE
      have hk0:e.k=0:=by
       rcases (bF _).1 hE with h9|h9|h9
       ·exact h9.1
       ·exact absurd h9.1 hk1
       ·exact absurd h9.1 hk2
      have h12:=hB.share0 hL hn64 (by rw[he0];exact hk0) (hN.out.2.2 n (Nat.le_refl _)).2
      rw[he0] at h12
      exact⟨⟨hK.sp,hK.fi,hK.ct,hK.dk,hK.fl,hK.sl⟩,h12,fun j hj=>by
       rw[kS hB.ok hL hn64 hE _ _ (by omega),kS hB.ok hL hn64 hE _ _ (by omega)]
       exact hN.out.2.2 j (by omega)⟩)
     generalize hSx:Sn=Sx at hx sx hkx hkgx hT2 h64a h64b hF12
     obtain⟨gT2,oT2,_,hab2,hgT2B,hkT2,_⟩:=hx.ent (p:=0) (n:=n) (by omega) hn64 h64a
     have hgxT:gx≠gT2:=fun e9=>hkgx.out (.inr (by rw[e9];simp[dH,hab2,oB];right;right;right;right;right;right;right;right;rfl))
     have hgfT:gf≠gT2:=fun e9=>hkx.out (.inr (by rw[e9];simp[dH,hab2,oB];right;right;right;right;right;right;right;right;rfl))
     go_upto_region 12 with (fail)
     refine nS 17 [_,_,_,.v (.slice (some ⟨gT2,oT2,none⟩) 2 Sx.cb),_,_,_,_,.v (.slice (some ⟨gT2,oT2,none⟩) 2 Sx.cb),_,.v (.agg (fK e)),.v (.agg (fK e)),_,.v (.pointer (some ⟨gT2,oT2+n*3,none⟩)),.r 14 ((aM fun _=>True)),_,.v (.pointer (some ⟨gT2,oT2+192+n*3,none⟩))] (Bt S Sx { Sx with T:=aW Sx.T 0 n e } B b w gx gf e (fC (aY p0.ar))) aG (fun _=>⟨⟨bx,fx1⟩,fun _=>⟨hx,sx⟩,fun h=>(by cases h)⟩) (Qk aG rfl (Qk aG rfl (Qf aG b 12 rfl rfl (all_cons ?_ (Qk aG rfl (Qk aG rfl (Qk aG rfl (Qf aG b 12 rfl rfl (all_cons ?_ (Qk aG rfl (all_cons ?_ (all_cons ?_ (Qr aG (.pointer (some ⟨gT2,oT2,none⟩)) (fun ρ y W hKn=>(aT (i:=0) rfl (az rfl hKn) (az rfl hKn) (by decide) Try.underlying87 ents_size)) rfl rfl (all_cons ?_ (all_cons ?_ (Qr aG (.pointer (some ⟨gT2,oT2+192,none⟩)) (fun ρ y W hKn=>(aT (i:=1) rfl (az rfl hKn) (az rfl hKn) (by decide) Try.underlying87 ents_size)) rfl rfl (all_cons ?_ (all_nil)))))))))))))))))) (fun _=>rfl) rfl ?_
     ·intro ρ y W L hw hn hLi hLd hb hd
      refine bG aG (fun _ _ h=>h) hb ?_
      have E93:=hw 93 2 rfl
      have h2:y 2=_:=hd 2 rfl
      have hcc:=kP hb (by simp[dR,aW])
      refine aj (.slice (some ⟨gT2,oT2,none⟩) 2 Sx.cb) (ah rfl) (by simp[execOp,go_sem,dn,E93,h2,hcc,dR,hab2,hT2]) rfl
     ·intro ρ y W L hw hn hLi hLd hb hd
      refine bG aG (fun _ _ h=>h) hb ?_
      have E98:=hw 98 7 rfl
      have h7:y 7=_:=hd 7 rfl
      have hcc:=kP hb (by simp[dR,aW])
      refine aj (.slice (some ⟨gT2,oT2,none⟩) 2 Sx.cb) (ah rfl) (by simp[execOp,go_sem,dn,E98,h7,hcc,dR,hab2,hT2]) rfl
     ·intro ρ y W L hw hn hLi hLd hb hd
      refine bG aG (fun _ _ h=>h) hb ?_
      have E4:ρ (.tmp 4) = .pointer (some ⟨gx,0,none⟩):=(hn (.tmp 4) rfl).trans rfl
      refine aj (.agg (fK e)) (ah rfl) (bI rfl E4 hb.1.1 Try.underlying67 rfl entry_size3) rfl
     ·intro ρ y W L hw hn hLi hLd hb hd
      refine bG aG (fun _ _ h=>h) hb ?_
      have E4:ρ (.tmp 4) = .pointer (some ⟨gx,0,none⟩):=(hn (.tmp 4) rfl).trans rfl
      refine aj (.agg (fK e)) (ah rfl) (bI rfl E4 hb.1.1 Try.underlying67 rfl entry_size3) rfl
     ·intro ρ y W L hw hn hLi hLd hb hd
      refine bG aG (fun _ _ h=>h) hb ?_
      have E103:=hw 103 12 rfl
      have h12:y 12=_:=hd 12 rfl
      have E95:=hw 95 4 rfl
      have h4:y 4=_:=hd 4 rfl
      have hn9:((64:Int)≤(n:Int))=False:=eq_false (by omega)
      refine aj (.pointer (some ⟨gT2,oT2+n*3,none⟩)) (ah rfl) (by simp[execOp,go_sem,dn,E103,h12,E95,h4,hn64,hn9]) rfl
     ·intro ρ y W L hw hn hLi hLd hb hd;have E104:=hw 104 13 rfl;have h13:y 13=_:=hd 13 rfl;have E101:=hw 101 10 rfl;have h10:y 10=_:=hd 10 rfl
      obtain⟨hm9,hs9⟩:=hb.2.1 hLi
      obtain⟨gQ,oQ,curQ,hQ,hQB,hQk,hQs,_,hQw⟩:=hm9.ent (p:=0) (n:=n) (by omega) hn64 h64a
      cases (hQ.symm.trans hab2)
      rw[Nat.zero_mul,Nat.add_zero] at hQs hQw
      exact nV (ah rfl) (tQ _ _ _ rfl gT2 (oT2+n*3) _ (iC e) (E104.trans h13) (E101.trans h10) rfl curQ _ hQk (by rw[di];exact hQs) (by kernel_rfl) (aZ (ed _))) ⟨⟨hb.1.1.grown (aJ _ _ _ _) (fun e9=>hgxT (Option.some.inj e9).symm),hb.1.2.grown (aJ _ _ _ _) (fun e9=>hgfT (Option.some.inj e9).symm)⟩,fun h=>(by cases h),fun _=>⟨hQw _ e (hQk.setCells _ _) (aJ _ _ _ _),hs9.put (aJ _ _ _ _) (.inr (by simp only[dH,hab2];simp[oB];right;right;right;right;right;right;right;right;rfl)) (fun x hx => .inl hx)⟩⟩ trivial
     ·intro ρ y W L hw hn hLi hLd hb hd
      refine bG aG (fun _ _ h=>h) hb ?_
      have E105:=hw 105 15 rfl
      have h15:y 15=_:=hd 15 rfl
      have E100:=hw 100 9 rfl
      have h9:y 9=_:=hd 9 rfl
      have hn9:((64:Int)≤(n:Int))=False:=eq_false (by omega)
      refine aj (.pointer (some ⟨gT2,oT2+192+n*3,none⟩)) (ah rfl) (by simp[execOp,go_sem,dn,E105,h15,E100,h9,hn64,hn9]) rfl
     intro y W9 hbW9 hRW9
     have hy14:((aM fun _=>True)).r (y 14) W9:=hRW9 14 (by decide)
     clear hRW9
     simp only[strip,dn,List.map_cons,List.map_nil]
     obtain⟨⟨bx9,fx9⟩,_,hq9⟩:=hbW9
     obtain⟨h9,s9⟩:=hq9 rfl
     have hT9:(aW Sx.T 0 n e).length=2:=by unfold aW;rw[List.length_set];exact hT2
     obtain⟨gR,oR',curR,hR,hRB,hRk,hRs,_,hRw⟩:=h9.ent (p:=1) (n:=n) (by show 1<(aW Sx.T 0 n e).length;omega) hn64 (by
      show (bY (aW Sx.T 0 n e) 1).length=64
      rw[jU (by omega),if_neg (by decide)]
      exact h64b)
     have hR:Sx.ab=some ⟨gR,oR',none⟩:=hR
     cases (hR.symm.trans hab2)
     rw[Nat.one_mul] at hRs hRw
     have hRw':=Lib.hid hRw
     clear hRw hq9 hx sx bx fx1
     go_wp2_with (refine aA rfl _ _ _ rfl gT2 (oT2+192+n*3) _ (iC e) rfl rfl rfl _ _ hRk (by rw[di];exact hRs) (by kernel_rfl) (aZ (ed _)) ?_)
     intro w10 hb10 hg10
     have h10:=hRw'.out w10 e hb10 hg10
     have s10:MS w b S w10 { Sx with T:=aW (aW Sx.T 0 n e) 1 n e }:=s9.put hg10 (.inr (by simp only[dH,hab2];simp[oB];right;right;right;right;right;right;right;right;rfl)) (fun x hx => .inl hx)
     have fx10:=fx9.grown hg10 (fun e9=>hgfT (Option.some.inj e9).symm)
     clear h9 s9 bx9 fx9 hRk hb10 hg10
     go_wp2
     go_roundw
     case rel=>exact⟨n+1,_,by omega,by go_num,h10,s10,fx10,hkx,hF12⟩
     case measure=>simp[intOf];omega
  ·have hni:¬(n:Int)<64:=by omega
   go_wp2
   refine bodyPost_ret (v:=.tuple #[]) (by simp[results,go_sem,Try.results32]) rfl ?_
   have hK:=hN.out.1
   have hM:=hmore.out
   refine⟨Sn,rfl,hm,hs,⟨hN.out.2.1,fun p hp n g hg => ?_,hK.fi.trans hM.fi,hK.ct.trans hM.ct,hK.dk.trans hM.dk,by rw[hK.sp];exact hM.sp,hK.fl.trans hM.fs⟩⟩
   rw[hK.sp] at hp
   rw[hK.fi]
   exact hM.fm p hp n g hg
structure Fb (ct:Nat) (bl:List Page) (q:List (Int × Page)) (fs:List Fi) (x:List Int):Prop where
 cl:bl.length=ct∧ct≤80
 ok:∀f∈fs,uZ ct f
 nd:(kG (fs.flatMap Fi.b++x)).Nodup
 xb:∀b∈x,-1≤b∧b<ct
 tr:∀b:Int,0≤b→b<ct→b∈fs.flatMap Fi.b++x∨bl.getD b.toNat zPg=zPg
 qb:∀p∈q,p.1∈fs.flatMap Fi.b++x∧0≤p.1∧p.1<ct
 ql:q.length≤12*fs.length+x.length
theorem Fb.start {ct:Nat} (h:ct≤80):Fb ct (List.replicate ct zPg) [] [] [] where
 cl:=⟨by simp,h⟩
 ok:=fun f hf=>by cases hf
 nd:=by simp[kG]
 xb:=fun b hb=>by cases hb
 tr:=fun b h0 h1 => .inr (by rw[List.getD_eq_getElem?_getD,List.getElem?_replicate,if_pos (by omega)];rfl)
 qb:=fun p hp=>by cases hp
 ql:=by simp
theorem Fb.none {ct:Nat} {bl:List Page} {q:List (Int × Page)} {fs:List Fi} {x:List Int} (h:Fb ct bl q fs x):Fb ct bl q fs (x++[-1]) where
 cl:=h.cl
 ok:=h.ok
 nd:=by
  have e:kG (fs.flatMap Fi.b++(x++[-1]))=kG (fs.flatMap Fi.b++x):=by rw[←List.append_assoc,uE];simp[kG]
  rw[e];exact h.nd
 xb:=fun b hb=>by
  rcases List.mem_append.1 hb with hb|hb
  ·exact h.xb b hb
  ·rw[List.mem_singleton.1 hb];omega
 tr:=fun b h0 h1=>(h.tr b h0 h1).imp (fun hb=>by rw[←List.append_assoc];exact List.mem_append_left _ hb) id
 qb:=fun p hp=>⟨by rw[←List.append_assoc];exact List.mem_append_left _ (h.qb p hp).1,(h.qb p hp).2⟩
 ql:=by have:=h.ql;simp;omega
theorem Fb.some {ct:Nat} {bl:List Page} {q:List (Int × Page)} {fs:List Fi} {x:List Int} (h:Fb ct bl q fs x) {n:Nat} (hn:n<ct) (hu:¬(n:Int)∈fs.flatMap Fi.b++x) (P:Page):Fb ct (bl.set n P) q fs (x++[(n:Int)]) where
 cl:=⟨by rw[List.length_set];exact h.cl.1,h.cl.2⟩
 ok:=h.ok
 nd:=by
  have e:kG (fs.flatMap Fi.b++(x++[(n:Int)]))=kG (fs.flatMap Fi.b++x)++[(n:Int)]:=by rw[←List.append_assoc,uE];simp[kG]
  rw[e]
  refine List.nodup_append.2 ⟨h.nd,by simp,fun a ha b hb e => ?_⟩
  rw[List.mem_singleton.1 hb] at e
  subst e
  exact hu (jB.1 ha).1
 xb:=fun b hb=>by
  rcases List.mem_append.1 hb with hb|hb
  ·exact h.xb b hb
  ·rw[List.mem_singleton.1 hb];omega
 tr:=fun b h0 h1=>by
  by_cases e:b=(n:Int)
  ·subst e;exact .inl (by simp)
  ·rcases h.tr b h0 h1 with hb|hb
   ·exact .inl (by rw[←List.append_assoc];exact List.mem_append_left _ hb)
   ·refine .inr ?_
    rw[List.getD_eq_getElem?_getD,List.getElem?_set_ne (by omega),←List.getD_eq_getElem?_getD]
    exact hb
 qb:=fun p hp=>⟨by rw[←List.append_assoc];exact List.mem_append_left _ (h.qb p hp).1,(h.qb p hp).2⟩
 ql:=by have:=h.ql;simp;omega
theorem Fb.wait {ct:Nat} {bl:List Page} {q:List (Int × Page)} {fs:List Fi} {x:List Int} (h:Fb ct bl q fs x) {n:Nat} (hn:n<ct) (hu:¬(n:Int)∈fs.flatMap Fi.b++x) (P:Page):Fb ct (bl.set n P) (q++[((n:Int),P)]) fs (x++[(n:Int)]):=
 have k:=h.some hn hu P
 { k with
  qb:=fun p hp=>by
   rcases List.mem_append.1 hp with hp|hp
   ·exact k.qb p hp
   ·rw[List.mem_singleton.1 hp]
    exact⟨by simp,by show (0:Int)≤n;omega,by show (n:Int)<ct;omega⟩
  ql:=by have:=h.ql;simp;omega }
theorem Fb.file {ct:Nat} {bl:List Page} {q:List (Int × Page)} {fs:List Fi} {x:List Int} (h:Fb ct bl q fs x) {s:Int} (h0:0≤s) (h1:s≤96) (hl:(x.length:Int)=bV s):Fb ct bl q (fs++[⟨s,x⟩]) []:=by
 have e:(fs++[(⟨s,x⟩:Fi)]).flatMap Fi.b++[]=fs.flatMap Fi.b++x:=by simp
 refine⟨h.cl,fun f hf => ?_,by rw[e];exact h.nd,fun b hb=>(by cases hb),by rw[e];exact h.tr,by rw[e];exact h.qb,?_⟩
 ·rcases List.mem_append.1 hf with hf|hf
  ·exact h.ok f hf
  ·rw[List.mem_singleton.1 hf];exact⟨h0,h1,hl,h.xb⟩
 ·have:=h.ql
  have e2:bV s≤12:=by unfold bV;split<;>omega
  have e3:(fs++[(⟨s,x⟩:Fi)]).length=fs.length+1:=by simp
  rw[e3]
  simp only[List.length_nil]
  omega
def rC (f s ct:Nat) (bl:List Page) (q:List (Int × Page)) (fs:List Fi):Ma:=⟨⟨List.replicate f frZ,0⟩,List.replicate s 0,⟨List.replicate s zPg,[]⟩,⟨bl,q⟩,⟨fs,ct⟩,[],[]⟩
theorem Fb.bd {f s ct:Nat} {bl:List Page} {q:List (Int × Page)} {fs:List Fi} (h:Fb ct bl q fs []) (hl:fs.length≤5) (hf:f≤40) (hs:s≤60):Bd (rC f s ct bl q fs) []:=by
 have hfr:∀i,i<f→dL (rC f s ct bl q fs) i=frZ:=fun i hi=>by
  unfold dL rC
  rw[List.getD_eq_getElem?_getD,List.getElem?_replicate,if_pos hi];rfl
 have hen:∀p n,(ent (rC f s ct bl q fs) p n).k=0:=fun p n=>by
  unfold ent
  rw[jL (by simp[rC])]
  show (bS zTb n).k=0
  rw[nK];rfl
 have hw:aO ⟨fs,(ct:Int)⟩=0:=kK.2 ⟨⟨hl,by show (0:Int)≤ct;omega,by show (ct:Int)≤80;have:=h.cl.2;omega⟩,h.ok,by have:=h.nd;rw[List.append_nil] at this;exact this⟩
 have hdk:bn ⟨bl,q⟩=0:=(jc _).2 ⟨by show bl.length≤80;have:=h.cl;omega,by show q.length≤400;have:=h.ql;simp only[List.length_nil] at this;omega,fun x hx=>by
  have:=(h.qb x hx).2
  have e:bl.length=ct:=h.cl.1
  show 0≤x.1∧x.1<(bl.length:Int)
  omega⟩
 have hsw:bn ⟨List.replicate s zPg,[]⟩=0:=(jc _).2 ⟨by simp;omega,by simp,fun x hx=>(by cases hx)⟩
 have hsl:dU (List.replicate s (0:Int))=0:=wo (by simp;exact hs) fun x hx=>by
  rw[(List.mem_replicate.1 hx).2];decide
 have hm:cZ ⟨List.replicate f frZ,0⟩=0:=(eB _).2 ⟨by simp;exact hf,fun x hx=>by rw[(List.mem_replicate.1 hx).2];decide,Int.le_refl _,.inl rfl⟩
 have hmm:bN (rC f s ct bl q fs) []=rC f s ct bl q fs:=rfl
 have hh:∀kd i,dw (rC f s ct bl q fs) kd i=0:=fun _ _=>rfl
 have hc:∀i,xW (rC f s ct bl q fs) i=0:=fun _=>rfl
 refine⟨⟨rfl,fun t ht=>(by cases ht),fun t ht=>(by cases ht)⟩,?_,?_⟩
 ·rw[hmm]
  refine⟨⟨hm,hsl,hsw,hdk,hw,by simp[rC],by have:=h.cl.1;show (bl.length:Int)=ct;omega,by simp[rC],fun s hs=>(by cases hs),fun s hs=>(by cases hs)⟩,⟨fun b h0 h1 => ?_,fun p hp => ?_⟩,fun p _=>⟨by rw[jL (by simp[rC])];rfl,fun n=>hen p n⟩,⟨fun c hc=>(by cases hc),fun c hc=>(by cases hc),fun c hc=>(by cases hc),List.Pairwise.nil⟩,fun p n hk=>absurd (hen p n) hk,fun i hi => ?_,fun i hi h0 => ?_,fun i hi => ?_⟩
  ·have e:(rC f s ct bl q fs).dk.blocks.length=ct:=h.cl.1
   have:=h.tr b h0 (by omega)
   rw[List.append_nil] at this
   exact this
  ·have:=(h.qb p hp).1
   rw[List.append_nil] at this
   exact this
  ·rw[hfr i (by have e:(rC f s ct bl q fs).m.fs.length=f:=List.length_replicate;omega),hh,hc];rfl
  ·rw[hfr i (by have e:(rC f s ct bl q fs).m.fs.length=f:=List.length_replicate;omega)] at h0
   exact absurd h0 (by decide)
  ·rw[hh]
   have e:(rC f s ct bl q fs).sl.length=s:=List.length_replicate
   unfold kL
   show (List.replicate s (0:Int)).getD i 0=_
   rw[List.getD_eq_getElem?_getD,List.getElem?_replicate,if_pos (by omega)];rfl
 ·rw[hmm]
  refine⟨fun c hc=>(by cases hc),fun c hc=>(by cases hc),fun i hi hd => ?_⟩
  rw[hfr i (by have e:(rC f s ct bl q fs).m.fs.length=f:=List.length_replicate;omega)] at hd
  exact absurd hd (by decide)
def tabs (m:Ma) (T:List (List En)):Nat→Ma
 | 0=>m
 | q+1=>setTb (tabs m T q) q (dC (bY T q))
theorem take_set {α:Type} {F O:List α} {q:Nat} (hl:F.length=O.length) (hq:q<O.length):(F.take q++O.drop q).set q (F[q]'(by omega))=F.take (q+1)++O.drop (q+1):=by
 have e1:(F.take q).length=q:=by rw[List.length_take];omega
 rw[List.set_append,if_neg (by omega),e1,Nat.sub_self,List.drop_eq_getElem_cons hq,List.set_cons_zero,List.take_succ_eq_append_getElem (by omega),List.append_assoc]
 rfl
theorem Cu {m:Ma} {T:List (List En)}:∀q,q≤m.sp.length→tabs m T q = { m with sp:=(bN m T).sp.take q++m.sp.drop q }
 | 0,_=>by simp[tabs]
 | q+1,h=>by
  have ih:=Cu (m:=m) (T:=T) q (by omega)
  have hF:(bN m T).sp.length=m.sp.length:=fP
  have e1:((bN m T).sp.take q).length=q:=by rw[List.length_take];omega
  have hsp:dM (tabs m T q) q=m.sp[q]'(by omega):=by
   rw[ih]
   unfold dM
   show ((bN m T).sp.take q++m.sp.drop q).getD q zSp=_
   rw[List.getD_eq_getElem?_getD,List.getElem?_append_right (by omega),e1,Nat.sub_self,List.getElem?_drop,Nat.add_zero,List.getElem?_eq_getElem (by omega)];rfl
  have hFq:(bN m T).sp[q]'(by omega) = { m.sp[q]'(by omega) with tb:=dC (bY T q) }:=by
   have h1:=qH (m:=m) (T:=T) (p:=q) (by omega)
   have h2:dM m q=m.sp[q]'(by omega):=by unfold dM;rw[List.getD_eq_getElem?_getD,List.getElem?_eq_getElem (by omega)];rfl
   have h3:dM (bN m T) q=(bN m T).sp[q]'(by omega):=by unfold dM;rw[List.getD_eq_getElem?_getD,List.getElem?_eq_getElem (by omega)];rfl
   rw[h2,h3] at h1
   exact h1
  show setTb (tabs m T q) q (dC (bY T q))=_
  unfold setTb
  rw[hsp,ih,←hFq]
  show ({ m with sp:=((bN m T).sp.take q++m.sp.drop q).set q _ }:Ma)=_
  rw[take_set hF (by omega)]
theorem Er {m:Ma} {T:List (List En)}:tabs m T m.sp.length=bN m T:=by
 rw[Cu _ (Nat.le_refl _),List.drop_length,List.append_nil,List.take_of_length_le (by rw[fP];exact Nat.le_refl _)]
 rfl
theorem xI {P:Program} (t e:TypeId) (z:Value) (size bytes:Nat) (ht:P.underlying t=some (.slice e)) (h2:(P.info? e).map (fun i=>(i.zero,i.size,i.bytes))=some (some z,size,bytes)) (kl kc:IntKind) (n:Nat) (b2:bytes*n≤281474976710656) (b3:n≤9223372036854775807) (w:World) :
  (Instr.makeSlice t (.int kl (n:Int)) (.int kc (n:Int))).run P w = .ok (.slice (some ⟨w.heap.size,0,none⟩) n n) (w.alloc (.cells (madeCells z.cells (n*size)) e)):=by
 obtain⟨i,hi,hzz,hs,hb⟩:=info_parts h2
 have hb' : (i.bytes:Int)*(n:Int)≤281474976710656:=by
  have h:((i.bytes*n:Nat):Int)≤281474976710656:=by rw[hb];omega
  rwa [Int.natCast_mul] at h
 have hr:=run_make (P:=P) w t e i z ht hi hzz kl kc n n (by omega) (Int.le_refl _) hb' (by omega)
 simp only[Int.toNat_natCast,hs] at hr
 exact hr
theorem tu {α:Type} {w:World} {B:Nat} {e:TypeId} {sz n:Nat} (enc:α→List Value) (x:α) {z:Array Value} (hsz:∀x,(enc x).length=sz) (hp:0<sz) (hz:z.toList=enc x) (hn:n≤maxLen) {g:Nat} (hB:B≤g) (hk:aC w g (madeCells z (n*sz)) e) :
  Own w B e sz (.slice (some ⟨g,0,none⟩) n n) n ((List.replicate n x).flatMap enc):=
 ⟨by rw[Pw.flat_len enc sz hsz,List.length_replicate],.inr ⟨g,0,n,_,rfl,hB,hk,Nat.le_refl _,hn,by simp[size_madeCells],fun j u hj=>by
  rw[Nat.zero_add,←Array.getElem?_toList,wG enc sz hsz hp z x hz n];exact hj⟩⟩
theorem Ii {w:World} {g g' n n' : Nat} {e e' : TypeId} {z:Array Value} (h:aC w g (madeCells z (n*8)) e) (h' : aC w g' (madeCells z (n' * 8)) e') (hne:Value.slice (some ⟨g,0,none⟩) n n ≠ .slice (some ⟨g',0,none⟩) n' n'):g≠g':=by
 intro e0
 subst e0
 have h2:some (Obj.cells (madeCells z (n*8)) e (0,0))=some (Obj.cells (madeCells z (n' * 8)) e' (0,0)):=h.symm.trans h'
 have h3:madeCells z (n*8)=madeCells z (n' * 8):=by
  injection h2 with h2
  injection h2
 have h4:=congrArg Array.size h3
 rw[size_madeCells,size_madeCells] at h4
 obtain rfl:n=n':=by omega
 exact hne rfl
structure JM (W0:World) (B f s ct:Nat) (zf zs zp:Array Value) (L:Nat→Bool) (y:Nat→Value) (W:World):Prop where
 be:Below W0.heap.size W0 W
 k2:L 2=true→∃g,y 2 = .slice (some ⟨g,0,none⟩) f f∧B≤g∧aC W g (madeCells zf (f*13)) 59
 k5:L 5=true→∃g,y 5 = .slice (some ⟨g,0,none⟩) s s∧B≤g∧aC W g (madeCells zs (s*1)) 3
 k7:L 7=true→∃g,y 7 = .slice (some ⟨g,0,none⟩) s s∧B≤g∧aC W g (madeCells zp (s*8)) 50
 k10:L 10=true→∃g,y 10 = .slice (some ⟨g,0,none⟩) ct ct∧B≤g∧aC W g (madeCells zp (ct*8)) 50
 ne:L 7=true→L 10=true→y 7≠y 10
 k3:L 3=true→L 2=true∧y 3 = .agg #[y 2,.int .i64 0]
 k8:L 8=true→L 7=true∧y 8 = .agg #[y 7,.slice none 0 0]
 k11:L 11=true→L 10=true∧y 11 = .agg #[y 10,.slice none 0 0]
 k14:L 14=true→(L 3=true∧L 5=true∧L 8=true∧L 11=true)∧y 14 = .agg #[y 2,.int .i64 0,y 5,y 7,.slice none 0 0,y 10,.slice none 0 0,.slice none 0 0,.int .i64 ct,.slice none 0 0,.slice none 0 0]
theorem kJ {W0:World} {B f s ct:Nat} {zf zs zp:Array Value}:∀L y W W',Below W.heap.size W W'→JM W0 B f s ct zf zs zp L y W→JM W0 B f s ct zf zs zp L y W':=fun _ _ _ _ hb h=>
 ⟨ag h.be hb,fun e=>by obtain⟨g,a,b,c⟩:=h.k2 e;exact⟨g,a,b,c.ext hb⟩,fun e=>by obtain⟨g,a,b,c⟩:=h.k5 e;exact⟨g,a,b,c.ext hb⟩,fun e=>by obtain⟨g,a,b,c⟩:=h.k7 e;exact⟨g,a,b,c.ext hb⟩,fun e=>by obtain⟨g,a,b,c⟩:=h.k10 e;exact⟨g,a,b,c.ext hb⟩,h.ne,h.k3,h.k8,h.k11,h.k14⟩
theorem KO {W0:World} {B f s ct:Nat} {zf zs zp:Array Value} (y:Nat→Value):JM W0 B f s ct zf zs zp (fun _=>false) y W0:=
 ⟨Below.refl _ _,fun e=>(by cases e),fun e=>(by cases e),fun e=>(by cases e),fun e=>(by cases e),fun e=>(by cases e),fun e=>(by cases e),fun e=>(by cases e),fun e=>(by cases e),fun e=>(by cases e)⟩
theorem qJ {W0 W:World} {B f s ct:Nat} {zf zs zp:Array Value} {L:Nat→Bool} {y:Nat→Value} {i:Nat} {v:Value} (hi:i≠2∧i≠5∧i≠7∧i≠10∧i≠3∧i≠8∧i≠11∧i≠14) (h:JM W0 B f s ct zf zs zp L y W):JM W0 B f s ct zf zs zp (bA L i) (bO y i v) W:=by
 have e:∀k,k≠i→bA L i k=L k∧bO y i v k=y k:=fun k hk=>⟨by unfold bA;rw[if_neg hk],by unfold bO;rw[if_neg hk]⟩
 have e2:=e 2 (by omega)
 have e5:=e 5 (by omega)
 have e7:=e 7 (by omega)
 have e10:=e 10 (by omega)
 have e3:=e 3 (by omega)
 have e8:=e 8 (by omega)
 have e11:=e 11 (by omega)
 have e14:=e 14 (by omega)
 refine⟨h.be,?_,?_,?_,?_,?_,?_,?_,?_,?_⟩
 ·rw[e2.1,e2.2];exact h.k2
 ·rw[e5.1,e5.2];exact h.k5
 ·rw[e7.1,e7.2];exact h.k7
 ·rw[e10.1,e10.2];exact h.k10
 ·rw[e7.1,e7.2,e10.1,e10.2];exact h.ne
 ·rw[e3.1,e3.2,e2.1,e2.2];exact h.k3
 ·rw[e8.1,e8.2,e7.1,e7.2];exact h.k8
 ·rw[e11.1,e11.2,e10.1,e10.2];exact h.k11
 ·rw[e14.1,e14.2,e3.1,e5.1,e8.1,e11.1,e2.2,e5.2,e7.2,e10.2];exact h.k14
theorem iL {L:Nat→Bool} {i:Nat} {p:Prop} (h:L i=false) (h' : L i=true):p:=by rw[h] at h'; cases h'
theorem KM {W0 W:World} {B f s ct:Nat} {zf zs zp:Array Value} {L:Nat→Bool} {y:Nat→Value} (hi:L 2=false) (hB:B≤W0.heap.size) (h0:JM W0 B f s ct zf zs zp L y W):JM W0 B f s ct zf zs zp (bA L 2) (bO y 2 (.slice (some ⟨W.heap.size,0,none⟩) f f)) (W.alloc (.cells (madeCells zf (f*13)) 59)):=by
 have h:=kJ _ _ _ _ ((Below.refl W.heap.size W).alloc (Nat.le_refl _) (.cells (madeCells zf (f*13)) 59)) h0
 exact⟨h.be,fun _=>⟨_,rfl,Nat.le_trans hB h0.be.size,aC.new _ _ _⟩,h.k5,h.k7,h.k10,h.ne,fun e=>iL hi (h.k3 e).1,h.k8,h.k11,fun e=>iL hi (h.k3 (h.k14 e).1.1).1⟩
theorem KT {W0 W:World} {B f s ct:Nat} {zf zs zp:Array Value} {L:Nat→Bool} {y:Nat→Value} (hi:L 5=false) (hB:B≤W0.heap.size) (h0:JM W0 B f s ct zf zs zp L y W):JM W0 B f s ct zf zs zp (bA L 5) (bO y 5 (.slice (some ⟨W.heap.size,0,none⟩) s s)) (W.alloc (.cells (madeCells zs (s*1)) 3)):=by
 have h:=kJ _ _ _ _ ((Below.refl W.heap.size W).alloc (Nat.le_refl _) (.cells (madeCells zs (s*1)) 3)) h0
 exact⟨h.be,h.k2,fun _=>⟨_,rfl,Nat.le_trans hB h0.be.size,aC.new _ _ _⟩,h.k7,h.k10,h.ne,h.k3,h.k8,h.k11,fun e=>iL hi (h.k14 e).1.2.1⟩
theorem KN {W0 W:World} {B f s ct:Nat} {zf zs zp:Array Value} {L:Nat→Bool} {y:Nat→Value} (hi:L 7=false) (hB:B≤W0.heap.size) (h0:JM W0 B f s ct zf zs zp L y W):JM W0 B f s ct zf zs zp (bA L 7) (bO y 7 (.slice (some ⟨W.heap.size,0,none⟩) s s)) (W.alloc (.cells (madeCells zp (s*8)) 50)):=by
 have h:=kJ _ _ _ _ ((Below.refl W.heap.size W).alloc (Nat.le_refl _) (.cells (madeCells zp (s*8)) 50)) h0
 refine⟨h.be,h.k2,h.k5,fun _=>⟨_,rfl,Nat.le_trans hB h0.be.size,aC.new _ _ _⟩,h.k10,fun _ e => ?_,h.k3,fun e=>iL hi (h.k8 e).1,h.k11,fun e=>iL hi (h.k8 (h.k14 e).1.2.2.1).1⟩
 obtain⟨g,e1,_,e2⟩:=h0.k10 e
 show Value.slice _ s s≠y 10
 rw[e1]
 intro e3
 simp only[Value.slice.injEq,Option.some.injEq,Addr.mk.injEq] at e3
 have:=e2.lt
 omega
theorem Kh {W0 W:World} {B f s ct:Nat} {zf zs zp:Array Value} {L:Nat→Bool} {y:Nat→Value} (hi:L 10=false) (hB:B≤W0.heap.size) (h0:JM W0 B f s ct zf zs zp L y W):JM W0 B f s ct zf zs zp (bA L 10) (bO y 10 (.slice (some ⟨W.heap.size,0,none⟩) ct ct)) (W.alloc (.cells (madeCells zp (ct*8)) 50)):=by
 have h:=kJ _ _ _ _ ((Below.refl W.heap.size W).alloc (Nat.le_refl _) (.cells (madeCells zp (ct*8)) 50)) h0
 refine⟨h.be,h.k2,h.k5,h.k7,fun _=>⟨_,rfl,Nat.le_trans hB h0.be.size,aC.new _ _ _⟩,fun e _ => ?_,h.k3,h.k8,fun e=>iL hi (h.k11 e).1,fun e=>iL hi (h.k11 (h.k14 e).1.2.2.2).1⟩
 obtain⟨g,e1,_,e2⟩:=h0.k7 e
 show y 7≠Value.slice _ ct ct
 rw[e1]
 intro e3
 simp only[Value.slice.injEq,Option.some.injEq,Addr.mk.injEq] at e3
 have:=e2.lt
 omega
theorem KR {W0 W:World} {B f s ct:Nat} {zf zs zp:Array Value} {L:Nat→Bool} {y:Nat→Value} (hi:L 3=false) (hd:L 2=true) (h:JM W0 B f s ct zf zs zp L y W):JM W0 B f s ct zf zs zp (bA L 3) (bO y 3 (.agg #[y 2,.int .i64 0])) W:=
 ⟨h.be,h.k2,h.k5,h.k7,h.k10,h.ne,fun _=>⟨hd,rfl⟩,h.k8,h.k11,fun e=>iL hi (h.k14 e).1.1⟩
theorem KS {W0 W:World} {B f s ct:Nat} {zf zs zp:Array Value} {L:Nat→Bool} {y:Nat→Value} (hi:L 8=false) (hd:L 7=true) (h:JM W0 B f s ct zf zs zp L y W):JM W0 B f s ct zf zs zp (bA L 8) (bO y 8 (.agg #[y 7,.slice none 0 0])) W:=
 ⟨h.be,h.k2,h.k5,h.k7,h.k10,h.ne,h.k3,fun _=>⟨hd,rfl⟩,h.k11,fun e=>iL hi (h.k14 e).1.2.2.1⟩
theorem Ku {W0 W:World} {B f s ct:Nat} {zf zs zp:Array Value} {L:Nat→Bool} {y:Nat→Value} (hi:L 11=false) (hd:L 10=true) (h:JM W0 B f s ct zf zs zp L y W):JM W0 B f s ct zf zs zp (bA L 11) (bO y 11 (.agg #[y 10,.slice none 0 0])) W:=
 ⟨h.be,h.k2,h.k5,h.k7,h.k10,h.ne,h.k3,h.k8,fun _=>⟨hd,rfl⟩,fun e=>iL hi (h.k14 e).1.2.2.2⟩
theorem Ke {W0 W:World} {B f s ct:Nat} {zf zs zp:Array Value} {L:Nat→Bool} {y:Nat→Value} (h3:L 3=true) (h5:L 5=true) (h8:L 8=true) (h11:L 11=true) (h:JM W0 B f s ct zf zs zp L y W) :
  JM W0 B f s ct zf zs zp (bA L 14) (bO y 14 (.agg #[y 2,.int .i64 0,y 5,y 7,.slice none 0 0,y 10,.slice none 0 0,.slice none 0 0,.int .i64 ct,.slice none 0 0,.slice none 0 0])) W:=
 ⟨h.be,h.k2,h.k5,h.k7,h.k10,h.ne,h.k3,h.k8,h.k11,fun _=>⟨⟨h3,h5,h8,h11⟩,rfl⟩⟩
def Ih (gf gs gw gd f s ct:Nat):MH:=⟨some ⟨gf,0,none⟩,f,⟨List.replicate f fr0,0⟩,some ⟨gs,0,none⟩,s,List.replicate s 0,some ⟨gw,0,none⟩,s,none,0,⟨List.replicate s zPg,[]⟩,some ⟨gd,0,none⟩,ct,none,0,⟨List.replicate ct zPg,[]⟩,none,0,[],ct,none,0,[],none,0,[]⟩
theorem Ia {w:World} {B b gf gs gw gd f s ct:Nat} {al:Option Addr} {cl:Nat} {l:List UInt8} (hr:kD w al cl l.length (l.map gW)) (ha:∀a,al=some a→l.map gW≠[]→a.block<B) (hB:B≤b) (hk:aC w b (dR ⟨al,cl,l,Ih gf gs gw gd f s ct,none,0,[]⟩) 89)
  (hf:f≤40) (hs:s≤60) (hc:ct≤80) (b1:B≤gf) (b2:B≤gs) (b3:B≤gw) (b4:B≤gd) (hne:gw≠gd) {zf zs zp:Array Value} (ef:zf.toList=mD fr0) (es:zs.toList=[eU 0]) (ep:zp.toList=sI zPg)
  (k1:aC w gf (madeCells zf (f*13)) 59) (k2:aC w gs (madeCells zs (s*1)) 3) (k3:aC w gw (madeCells zp (s*8)) 50) (k4:aC w gd (madeCells zp (ct*8)) 50):bR w B b ⟨al,cl,l,Ih gf gs gw gd f s ct,none,0,[]⟩:=by
 have m:maxLen=maxLen:=rfl
 have o1:=tu mD fr0 (n:=f) eu (by decide) ef (by unfold maxLen;omega) b1 k1
 have o2:=tu (fun x=>[eU x]) (0:Int) (n:=s) (fun _=>rfl) (by decide) es (by unfold maxLen;omega) b2 k2
 have o3:=tu sI zPg (n:=s) ic (by decide) ep (by unfold maxLen;omega) b3 k3
 have o4:=tu sI zPg (n:=ct) ic (by decide) ep (by unfold maxLen;omega) b4 k4
 refine⟨hk,hB,⟨?_,?_,⟨?_,Own.nil _ _ _ _⟩,⟨?_,Own.nil _ _ _ _⟩,pV.nil _ _,Own.nil _ _ _ _,Own.nil _ _ _ _,fun p hp=>(by cases hp),by show (-9223372036854775808:Int)≤(ct:Int)∧(ct:Int)≤9223372036854775807;omega⟩,Own.nil _ _ _ _,hr,ha,?_,fun p hp=>(by cases hp),rfl⟩
 ·show Own w B _ 13 (.slice (some ⟨gf,0,none⟩) (List.replicate f fr0).length f) (List.replicate f fr0).length _
  rw[List.length_replicate];exact o1
 ·show Own w B _ 1 (.slice (some ⟨gs,0,none⟩) (List.replicate s (0:Int)).length s) (List.replicate s (0:Int)).length ((List.replicate s (0:Int)).map eU)
  rw[List.length_replicate,←ku];exact o2
 ·show Own w B _ 8 (.slice (some ⟨gw,0,none⟩) (List.replicate s zPg).length s) (List.replicate s zPg).length _
  rw[List.length_replicate];exact o3
 ·show Own w B _ 8 (.slice (some ⟨gd,0,none⟩) (List.replicate ct zPg).length ct) (List.replicate ct zPg).length _
  rw[List.length_replicate];exact o4
 ·intro x hx hd
  have e1:gw=x:=by simpa[Ih,oB,Value.ownBlock] using hx
  have e2:gd=x:=by simpa[Ih,oB,Value.ownBlock] using hd
  exact hne (e1.trans e2.symm)
def ru (f q:Nat):List Fr:=List.replicate q frZ++List.replicate (f-q) fr0
theorem wV {f q:Nat} (h:q≤f):(ru f q).length=f:=by unfold ru;simp;omega
theorem Iz {f q:Nat} (h:q<f) (hl:q<(ru f q).length):(ru f q)[q]=fr0:=by
 have:(ru f q)[q]?=some fr0:=by
  unfold ru
  rw[List.getElem?_append_right (by simp),List.length_replicate,Nat.sub_self,List.getElem?_replicate,if_pos (by omega)]
 rw[List.getElem?_eq_getElem hl] at this
 exact Option.some.inj this
theorem Hg {f q:Nat} (h:q<f):(ru f q).set q frZ=ru f (q+1):=by
 unfold ru
 rw[List.set_append,if_neg (by simp),List.length_replicate,Nat.sub_self]
 obtain⟨d,hd⟩:∃d,f-q=d+1:=⟨f-q-1,by omega⟩
 rw[hd,show f-(q+1)=d by omega,List.replicate_succ,List.set_cons_zero,List.replicate_succ',List.append_assoc]
 rfl
theorem Hu (f:Nat):ru f f=List.replicate f frZ:=by unfold ru;simp
theorem Hy {cur:Array Value} {o:Nat} (hfit:o+13≤cur.size) (hc:∀j u,(mD fr0)[j]?=some u→cur[o+j]?=some u):putAt cur (o+11) [.int .i64 (-1)]=putAt cur o (mD frZ):=
 wh (xs:=mD fr0) rfl hfit hc (by decide) (fun i hi=>by
  obtain rfl:i=0:=by simpa using hi
  rfl) (fun i hi=>by
  by_cases h13:i<13
  ·match i,h13,hi with
   | 0,_,_=>rfl
   | 1,_,_=>rfl
   | 2,_,_=>rfl
   | 3,_,_=>rfl
   | 4,_,_=>rfl
   | 5,_,_=>rfl
   | 6,_,_=>rfl
   | 7,_,_=>rfl
   | 8,_,_=>rfl
   | 9,_,_=>rfl
   | 10,_,_=>rfl
   | 11,_,h=>exact absurd h (by simp)
   | 12,_,_=>rfl
  ·rw[List.getElem?_eq_none (by rw[eu];omega),List.getElem?_eq_none (by rw[eu];omega)])
structure xC (f s ct:Nat) (as0:Option Addr) (fi0:List PF) (bl:List Page) (q:List (Int × Page)) (S:MW):Prop where
 m:S.H.m=⟨List.replicate f frZ,0⟩
 asl:S.H.asl=as0
 sl:S.H.sl=List.replicate s 0
 sw:S.H.sw=⟨List.replicate s zPg,[]⟩
 dk:S.H.dk=⟨bl,q⟩
 fi:S.H.fi=fi0
 ct:S.H.ct=ct
 ca:S.H.ca=[]
 sp:S.H.sp=[]
 T:S.T=[]
theorem xC.ma {f s ct:Nat} {as0:Option Addr} {fi0:List PF} {bl:List Page} {q:List (Int × Page)} {S:MW} (h:xC f s ct as0 fi0 bl q S):S.H.ma=rC f s ct bl q (fi0.map PF.fi):=by
 unfold MH.ma rC dP
 rw[h.m,h.sl,h.sw,h.dk,h.fi,h.ct,h.ca,h.sp];rfl
theorem xC.lst {f s ct:Nat} {as0:Option Addr} {fi0:List PF} {bl:List Page} {q:List (Int × Page)} {S:MW} (h:xC f s ct as0 fi0 bl q S) (a:Option Addr) (c:Nat) (l:List UInt8):xC f s ct as0 fi0 bl q (S.lst a c l):=⟨h.m,h.asl,h.sl,h.sw,h.dk,h.fi,h.ct,h.ca,h.sp,h.T⟩
theorem bR.kb_int {w:World} {B b:Nat} {S:MW} (h:bR w B b S) {x:Nat} {cs:Array Value} (hk:aC w x cs 3) (hx:oB S.H.asl≠some x):¬gM b S x:=by
 have own:∀ {e:TypeId} {sz n c:Nat} {a:Option Addr} {xs:List Value},3≠e→Own w B e sz (.slice a n c) n xs→oB a=some x→False:=fun ht ho hx=>by
  obtain⟨_,cs',h2⟩:=gJ ho hx
  exact ko hk h2 ht rfl
 intro hx'
 rcases hx' with hx' | hx'
 ·subst hx'; exact ko hk h.blk (by decide) rfl
 ·simp only[dH,List.mem_cons,List.not_mem_nil,or_false] at hx'
  rcases hx' with hx' | hx' | hx' | hx' | hx' | hx' | hx' | hx' | hx'
  ·exact own (by decide) h.ma.fr hx'.symm
  ·exact hx hx'.symm
  ·exact own (by decide) h.ma.sw.b hx'.symm
  ·exact own (by decide) h.ma.dk.b hx'.symm
  ·exact own (by decide) h.ma.dk.q hx'.symm
  ·exact own (by decide) h.ma.st.own hx'.symm
  ·exact own (by decide) h.ma.ca hx'.symm
  ·exact own (by decide) h.ma.sp hx'.symm
  ·exact own (by decide) h.tt hx'.symm
theorem bR.locI {w w' : World} {B b:Nat} {S:MW} (h:bR w B b S) {g:Nat} {cs:Array Value} (hk:aC w g cs 3) (hn:¬gM b S g) (hfi:∀p∈S.H.fi,oB p.a≠some g) (hgB:B≤g) (hg:w.grownBy w' (some g)):bR w' B b S:=by
 have hne:∀ {a:Option Addr},oB a∈dH S→∀n c g',(Value.slice a n c).ownBlock=some g'→some g≠some g':=fun hm n c g' he e=>by
  cases e
  rw[gF] at he
  exact hn (.inr (by rw[←he];exact hm))
 exact⟨h.blk.grown hg (fun e=>hn (.inl (Option.some.inj e))),h.ge,⟨h.ma.fr.grown hg (hne (by simp[dH]) _ _),h.ma.sl.grown hg (hne (by simp[dH]) _ _),⟨h.ma.sw.b.grown hg (hne (by simp[dH]) _ _),h.ma.sw.q.grown hg (fun g' he=>by rw[h.n3] at he;cases he)⟩,⟨h.ma.dk.b.grown hg (hne (by simp[dH]) _ _),h.ma.dk.q.grown hg (hne (by simp[dH]) _ _)⟩,
  ⟨h.ma.st.own.grown hg (hne (by simp[dH]) _ _),fun i p hp=>(h.ma.st.each i p hp).grown hg (fun g' he e=>by
   cases e
   unfold kE at he
   rw[gF] at he
   exact hfi p (List.mem_of_getElem? hp) he),h.ma.st.apart⟩,h.ma.ca.grown hg (hne (by simp[dH]) _ _),h.ma.sp.grown hg (hne (by simp[dH]) _ _),fun p hp=>⟨ak (h.ma.ps p hp).1 hk (by decide) hg,(h.ma.ps p hp).2.keep hk (by decide) hg⟩,h.ma.c64⟩,
  h.tt.grown hg (hne (by simp[dH]) _ _),h.rd.keep h.ra h.bs hg hgB,h.ra,h.n1,h.n2,h.n3⟩
theorem bR.setTb {w:World} {B b:Nat} {S:MW} (h:bR w B b S) {p:Nat} {P:PS} (hP:S.H.sp[p]?=some P) :
  ∃g off cur,S.H.ap=some ⟨g,off,none⟩∧B≤g∧aC w g cur 65∧off+p*10+2+8≤cur.size ∧
   ∀(w' : World) (v:Vector Value 8) (t:Tb),nO w B (jG v) t→aC w' g (putAt cur (off+p*10+2) (jG v).toList) 65→w.grownBy w' (some g)→bR w' B b { S with H:={ S.H with sp:=S.H.sp.set p { P with ts:=v,tb:=t } } }:=by
 have hp:=(List.getElem?_eq_some_iff.1 hP).1
 have hPe:=(List.getElem?_eq_some_iff.1 hP).2
 obtain⟨g,off,cap,cur,hv,hB,hblk,hfit,hset⟩:=zS nN (by decide) rfl h.ma.sp p hp
 simp only[Value.slice.injEq] at hv
 obtain⟨hap,_,hcp⟩:=hv
 have hsp:=h.ma.sp
 rw[hap] at hsp
 have hcell:=CP hsp hblk
 have hat:∀j u,(lS P)[j]?=some u→cur[off+p*10+j]?=some u:=fun j u hj=>by
  rw[Nat.add_assoc]
  exact hcell _ _ (flat_get lS 10 nN S.H.sp p hp j u (by rw[hPe];exact hj))
 refine⟨g,off,cur,hap,hB,hblk,by omega,fun w' v t ht hb hg => ?_⟩
 have e1:putAt cur (off+p*10) (lS { P with ts:=v,tb:=t })=putAt cur (off+p*10+2) (jG v).toList:=by
  show putAt cur (off+p*10) (.bool P.lv :: .slice P.aa P.ar.length P.ac::(jG v).toList)=_
  rw[uY _ (by simpa using hat 0 _ rfl),uY _ (hat 1 _ rfl)]
 rw[←e1] at hb
 have hlen:(S.H.sp.set p { P with ts:=v,tb:=t }).length=S.H.sp.length:=List.length_set
 refine h.putP hblk hB hg hlen (by rw[hlen];exact hset w' _ hb) fun q hq => ?_
 rcases List.mem_or_eq_of_mem_set hq with hq|rfl
 ·exact h.ma.ps q hq
 ·exact⟨(h.ma.ps P (List.mem_of_getElem? hP)).1,ht⟩
def ui (S:MW) (B b:Nat) (w:World) (ks:List (Nat × Array Value × TypeId)) (p q:Nat) (e:TypeId) (sz n:Nat) (v0:Value) (old xs:List Value):(Nat→Bool)→(Nat→Value)→World→Prop:=fun L y W=>
 (aC W b (dR S) 89∧∀t∈ks,aC W t.1 t.2.1 t.2.2)∧(L p=false→bR W B b S∧MS w b S W S)∧(L q=true→L p=false→∃a c,y q = .slice a 1 c∧kD W a c 1 xs) ∧
 (L p=true→∃w1,bR w1 B b S∧MS w b S w1 S∧w1.grownBy W v0.ownBlock∧Own W B e sz (y p) (n+1) (old++xs)∧ja w1 v0 (y p))
theorem bX {S:MW} {B b:Nat} {w:World} {ks:List (Nat × Array Value × TypeId)} {p q:Nat} {e:TypeId} {sz n:Nat} {v0:Value} {old xs:List Value}:∀L y W W',Below W.heap.size W W'→ui S B b w ks p q e sz n v0 old xs L y W→ui S B b w ks p q e sz n v0 old xs L y W':=
 fun _ _ _ _ hb ⟨h1,h2,h3,h4⟩=>⟨⟨h1.1.ext hb,fun t ht=>(h1.2 t ht).ext hb⟩,fun e=>⟨(h2 e).1.below hb,(h2 e).2.below hb⟩,fun e1 e2=>by
  obtain⟨a,e,k1,k2⟩:=h3 e1 e2
  exact⟨a,e,k1,k2.below hb⟩,fun e=>by
  obtain⟨w1,k1,k2,k3,k4,k5⟩:=h4 e
  exact⟨w1,k1,k2,zH k3 hb,k4.below hb,k5⟩⟩
theorem dm {S:MW} {B b:Nat} {w W:World} {ks:List (Nat × Array Value × TypeId)} {p q:Nat} {e:TypeId} {sz n:Nat} {v0:Value} {old xs:List Value} {L:Nat→Bool} {y:Nat→Value} {i:Nat} {v:Value} (hi:i≠q∧i≠p) (h:ui S B b w ks p q e sz n v0 old xs L y W):ui S B b w ks p q e sz n v0 old xs (bA L i) (bO y i v) W:=by
 obtain⟨h1,h2,h3,h4⟩:=h
 have e15:bA L i q=L q:=by unfold bA;rw[if_neg (fun e=>hi.1 e.symm)]
 have e16:bA L i p=L p:=by unfold bA;rw[if_neg (fun e=>hi.2 e.symm)]
 have y15:bO y i v q=y q:=by unfold bO;rw[if_neg (fun e=>hi.1 e.symm)]
 have y16:bO y i v p=y p:=by unfold bO;rw[if_neg (fun e=>hi.2 e.symm)]
 exact⟨h1,by rw[e16];exact h2,by rw[e15,e16,y15];exact h3,by rw[e16,y16];exact h4⟩
theorem Fz {S:MW} {B b:Nat} {w W W' : World} {ks:List (Nat × Array Value × TypeId)} {p q:Nat} {e:TypeId} {sz n:Nat} {v0:Value} {old xs:List Value} {L:Nat→Bool} {y:Nat→Value} {a:Option Addr} {c:Nat} (hpq:p≠q) (hb:Below W.heap.size W W') (h:ui S B b w ks p q e sz n v0 old xs L y W) (hr:kD W' a c 1 xs) :
  ui S B b w ks p q e sz n v0 old xs (bA L q) (bO y q (.slice a 1 c)) W':=by
 obtain⟨h1,h2,h3,h4⟩:=bX _ _ _ _ hb h
 have e16:bA L q p=L p:=by unfold bA;rw[if_neg hpq]
 have y16:bO y q (.slice a 1 c) p=y p:=by unfold bO;rw[if_neg hpq]
 exact⟨h1,by rw[e16];exact h2,fun _ _=>⟨a,c,by unfold bO;rw[if_pos rfl],hr⟩,by rw[e16,y16];exact h4⟩
theorem FT {S:MW} {B b:Nat} {w W W' : World} {ks:List (Nat × Array Value × TypeId)} {p q:Nat} {e:TypeId} {sz n:Nat} {v0:Value} {old xs:List Value} {L:Nat→Bool} {y:Nat→Value} {v:Value} (hp:L p=false) (h:ui S B b w ks p q e sz n v0 old xs L y W) (hg:W.grownBy W' v0.ownBlock)
  (hnb:∀g,v0.ownBlock=some g→g≠b∧∀t∈ks,t.1≠g) (ho:Own W' B e sz v (n+1) (old++xs)) (hs:ja W v0 v):ui S B b w ks p q e sz n v0 old xs (bA L p) (bO y p v) W':=by
 obtain⟨h1,h2,h3,h4⟩:=h
 refine⟨⟨h1.1.grown hg (fun e=>(hnb b e).1 rfl),fun t ht=>(h1.2 t ht).grown hg (fun e=>(hnb _ e).2 t ht rfl)⟩,fun e => ?_,fun _ e => ?_,fun _=>⟨W,(h2 hp).1,(h2 hp).2,hg,by unfold bO;rw[if_pos rfl];exact ho,by unfold bO;rw[if_pos rfl];exact hs⟩⟩<;>· unfold bA at e;rw[if_pos rfl] at e;cases e
theorem FR {S:MW} {B b:Nat} {w:World} {ks:List (Nat × Array Value × TypeId)} {p q:Nat} {e:TypeId} {sz n:Nat} {v0:Value} {old xs:List Value} (h:bR w B b S) (hk:∀t∈ks,aC w t.1 t.2.1 t.2.2) (y:Nat→Value):ui S B b w ks p q e sz n v0 old xs (fun _=>false) y w:=
 ⟨⟨h.blk,hk⟩,fun _=>⟨h,MS.refl _ _ _⟩,fun e=>(by cases e),fun e=>(by cases e)⟩
def vN (S:MW) (B b:Nat) (w:World) (gf:Nat) (F:PF):(Nat→Bool)→(Nat→Value)→World→Prop:=fun L y W=>
 (∃a c l,bR W B b (S.lst a c l)∧MS w b S W (S.lst a c l))∧aC W gf (jd F) 71∧Own W B 3 1 (kE F) F.l.length (F.l.map eU) ∧
 (L 4=true→L 11=false→∃g,y 4 = .slice (some ⟨g,0,none⟩) 0 0∧Own W w.heap.size 71 2 (.slice (some ⟨g,0,none⟩) 0 0) 0 []) ∧
 (L 11=true→L 14=false→Own W w.heap.size 71 2 (y 11) S.H.fi.length (S.H.fi.flatMap mZ)) ∧
 (L 13=true→L 14=false→Own W w.heap.size 71 2 (y 13) 1 (mZ F)) ∧
 (L 14=true→Own W w.heap.size 71 2 (y 14) (S.H.fi.length+1) (S.H.fi.flatMap mZ++mZ F))∧w.heap.size≤W.heap.size∧(L 15=true→L 14=true∧y 15 = .agg #[y 14,.int .i64 0])
theorem bC {S:MW} {B b:Nat} {w:World} {gf:Nat} {F:PF}:∀L y W W',Below W.heap.size W W'→vN S B b w gf F L y W→vN S B b w gf F L y W':=
 fun _ _ _ _ hb ⟨⟨a,c,l,h1,h2⟩,h3,h4,h5,h6,h7,h8,h9,h10⟩=>⟨⟨a,c,l,h1.below hb,h2.below hb⟩,h3.ext hb,h4.below hb,fun e1 e2=>by
  obtain⟨g,k1,k2⟩:=h5 e1 e2
  exact⟨g,k1,k2.below hb⟩,fun e1 e2=>(h6 e1 e2).below hb,fun e1 e2=>(h7 e1 e2).below hb,fun e1=>(h8 e1).below hb,Nat.le_trans h9 hb.size,h10⟩
theorem IZ {S:MW} {B b:Nat} {w:World} {gf:Nat} {F:PF} (h:bR w B b S) (hk:aC w gf (jd F) 71) (ho:Own w B 3 1 (kE F) F.l.length (F.l.map eU)) (y:Nat→Value):vN S B b w gf F (fun _=>false) y w:=
 ⟨⟨S.al,S.cl,S.l,h,MS.refl _ _ _⟩,hk,ho,fun e=>(by cases e),fun e=>(by cases e),fun e=>(by cases e),fun e=>(by cases e),Nat.le_refl _,fun e=>(by cases e)⟩
theorem bL {S:MW} {B b:Nat} {w W:World} {gf:Nat} {F:PF} {L:Nat→Bool} {y:Nat→Value} {i:Nat} {v:Value} (hi:i≠4∧i≠11∧i≠13∧i≠14∧i≠15) (h:vN S B b w gf F L y W):vN S B b w gf F (bA L i) (bO y i v) W:=by
 have e:∀k,k=4∨k=11∨k=13∨k=14∨k=15→bA L i k=L k∧bO y i v k=y k:=fun k hk=>⟨by unfold bA;rw[if_neg (by omega)],by unfold bO;rw[if_neg (by omega)]⟩
 have e4:=e 4 (by decide)
 have e11:=e 11 (by decide)
 have e13:=e 13 (by decide)
 have e14:=e 14 (by decide)
 have e15:=e 15 (by decide)
 unfold vN
 rw[e4.1,e4.2,e11.1,e11.2,e13.1,e13.2,e14.1,e14.2,e15.1,e15.2]
 exact h
theorem IW {S:MW} {B b:Nat} {w W:World} {gf:Nat} {F:PF} {L:Nat→Bool} {y:Nat→Value} (h:vN S B b w gf F L y W):vN S B b w gf F (bA L 4) (bO y 4 (.slice (some ⟨W.heap.size,0,none⟩) 0 0)) (W.alloc (.cells #[] 71)):=by
 obtain⟨h1,h3,h4,h5,h6,h7,h8,h9,h10⟩:=bC _ _ _ _ ((Below.refl _ _).alloc (Nat.le_refl _) (.cells #[] 71)) h
 exact⟨h1,h3,h4,fun _ _=>⟨_,rfl,Own.empty _ _ h.2.2.2.2.2.2.2.1⟩,h6,h7,h8,h9,h10⟩
theorem Eh {S:MW} {B b:Nat} {w W W' : World} {gf:Nat} {F:PF} {L:Nat→Bool} {y:Nat→Value} {v:Value} (h:vN S B b w gf F L y W) (hb:Below W.heap.size W W') (ho:Own W' w.heap.size 71 2 v S.H.fi.length (S.H.fi.flatMap mZ)):vN S B b w gf F (bA L 11) (bO y 11 v) W':=by
 obtain⟨h1,h3,h4,h5,h6,h7,h8,h9,h10⟩:=bC _ _ _ _ hb h
 exact⟨h1,h3,h4,fun _ e=>(by cases e),fun _ _=>ho,h7,h8,h9,h10⟩
theorem Fx {S:MW} {B b:Nat} {w W W' : World} {gf:Nat} {F:PF} {L:Nat→Bool} {y:Nat→Value} {v:Value} (h:vN S B b w gf F L y W) (hb:Below W.heap.size W W') (ho:Own W' w.heap.size 71 2 v 1 (mZ F)):vN S B b w gf F (bA L 13) (bO y 13 v) W':=by
 obtain⟨h1,h3,h4,h5,h6,h7,h8,h9,h10⟩:=bC _ _ _ _ hb h
 exact⟨h1,h3,h4,h5,h6,fun _ _=>ho,h8,h9,h10⟩
theorem BN {w W:World} {B b:Nat} {S:MW} (h:bR w B b S) {a:Option Addr} {c:Nat} {l:List UInt8} {x:Nat} (hx:w.heap.size≤x):¬gM b (S.lst a c l) x:=fun hk=>h.new hx hk
theorem FJ {S:MW} {B b:Nat} {w W W' : World} {gf:Nat} {F:PF} {L:Nat→Bool} {y:Nat→Value} {v:Value} (h0:bR w B b S) (hgf:gf<w.heap.size) (h:vN S B b w gf F L y W) (h11:L 11=true) (h14:L 14=false) (hg:W.grownBy W' (y 11).ownBlock) (ho:Own W' w.heap.size 71 2 v (S.H.fi.length+1) (S.H.fi.flatMap mZ++mZ F)) :
  vN S B b w gf F (bA L 14) (bO y 14 v) W':=by
 obtain⟨⟨a,c,l,h1,h2⟩,h3,h4,h5,h6,h7,h8,h9,h10⟩:=h
 have o11:=h6 h11 h14
 have hst:∀k,(y 11).ownBlock=some k→w.heap.size≤k:=fun k hk=>o11.ge k hk
 refine⟨⟨a,c,l,?_,?_⟩,h3.grown hg (fun e=>by have:=hst _ e;omega),?_,fun _ e=>(by rw[show bA L 14 11=L 11 from rfl,h11] at e;cases e),fun _ e=>(by cases e),fun _ e=>(by cases e),fun _=>ho,Nat.le_trans h9 hg.size,fun e=>iL h14 (h10 e).1⟩
 ·cases hk:(y 11).ownBlock with
  | none=>rw[hk] at hg;exact h1.below (iy hg)
  | some g=>
   rw[hk] at hg
   obtain⟨cs,hkb⟩:=fU o11 g hk
   exact h1.locT hkb (by decide) (BN (W:=w) h0 (hst g hk)) (Nat.le_trans h0.bs (hst g hk)) hg
 ·cases hk:(y 11).ownBlock with
  | none=>rw[hk] at hg;exact h2.below (iy hg)
  | some g=>rw[hk] at hg;exact h2.loc hg (hst g hk)
 ·cases hk:(y 11).ownBlock with
  | none=>rw[hk] at hg;exact h4.below (iy hg)
  | some g=>
   rw[hk] at hg
   obtain⟨cs,hkb⟩:=fU o11 g hk
   exact ak h4 hkb (by decide) hg
theorem GI {S:MW} {B b:Nat} {w W:World} {gf:Nat} {F:PF} {L:Nat→Bool} {y:Nat→Value} {i:Nat} (hi:i≠4∧i≠11∧i≠13∧i≠14∧i≠15) (h0:bR w B b S) (hgf:¬gM b S gf) (hxa:∀x,(kE F).ownBlock=some x→¬gM b S x) (n:Int) (hn : -9223372036854775808≤n∧n≤9223372036854775807) (h:vN S B b w gf F L y W) {R:Value→World→Prop} (hR:∀x:Int,0≤x→x<256→∀W',R (.int .i64 x) W') :
  Calls Try.prog 28 #[.pointer (some ⟨b,0,none⟩),.int .i64 n] W fun e W' => ∃v,e = .returned v∧vN S B b w gf F (bA L i) (bO y i v) W'∧R v W':=by
 obtain⟨⟨a,c,l,h1,h2⟩,h3,h4,h5,h6,h7,h8,h9,h10⟩:=h
 refine (cB _ n B b W h1 hn).mono ?_
 rintro r W' ⟨x,a',c',l',rfl,k1,k2,k3,_⟩
 have hfr:∀ {e:TypeId} {sz n:Nat} {v:Value} {xs:List Value},Own W w.heap.size e sz v n xs→Own W' w.heap.size e sz v n xs:=fun ho=>k2.ownN ho fun x hx=>BN (W:=w) h0 (ho.ge x hx)
 refine⟨_,rfl,bL hi ⟨⟨a',c',l',k1,h2.trans k2⟩,k2.blkN h3 hgf,k2.ownN h4 hxa,fun e1 e2 => ?_,fun e1 e2=>hfr (h6 e1 e2),fun e1 e2=>hfr (h7 e1 e2),fun e1=>hfr (h8 e1),Nat.le_trans h9 k2.size,h10⟩,hR x k3.1 k3.2.1 W'⟩
 obtain⟨g,e3,e4⟩:=h5 e1 e2
 exact⟨g,e3,hfr e4⟩
theorem FZ {S:MW} {B b:Nat} {w W:World} {gf:Nat} {F:PF} {L:Nat→Bool} {y:Nat→Value} (hd:L 14=true) (h:vN S B b w gf F L y W):vN S B b w gf F (bA L 15) (bO y 15 (.agg #[y 14,.int .i64 0])) W:=by
 obtain⟨h1,h3,h4,h5,h6,h7,h8,h9,h10⟩:=h
 exact⟨h1,h3,h4,h5,h6,h7,h8,h9,fun _=>⟨hd,rfl⟩⟩
theorem Cr {w:World} {B:Nat} (hB:B≤w.heap.size) (F:PF):Own (w.alloc (.cells (jd F) 71)) B 71 2 (.slice (some ⟨w.heap.size,0,none⟩) 1 1) 1 (mZ F):=
 ⟨rfl,.inr ⟨w.heap.size,0,1,_,rfl,hB,aC.new _ _ _,Nat.le_refl _,by unfold maxLen;omega,Nat.le_refl _,fun j u hj=>by rw[Nat.zero_add,←Array.getElem?_toList];exact hj⟩⟩
theorem tH {S:MW} {B b:Nat} {w W:World} {gf:Nat} {F:PF} {L:Nat→Bool} {y:Nat→Value} (h:vN S B b w gf F L y W) (h14:L 14=true):∃a c,y 14 = .slice a (S.H.fi++[F]).length c∧DJ W a c (S.H.fi++[F]):=by
 obtain⟨⟨a,c,l,h1,h2⟩,h3,h4,h5,h6,h7,h8,h9,h10⟩:=h
 obtain⟨a',c',e,k1,k2,k3,k4⟩:=(h8 h14).rd
 have hl:(S.H.fi++[F]).length=S.H.fi.length+1:=by simp
 refine⟨a',c',by rw[hl];exact e,by rw[hl];exact k1,k2,k3,by rw[List.flatMap_append];simpa using k4,fun p hp => ?_⟩
 rcases List.mem_append.1 hp with hp|hp
 ·exact h1.ma.rd.st.good p hp
 ·rw[List.mem_singleton.1 hp]
  obtain⟨a9,c9,e9,q1,q2,q3,q4⟩:=h4.rd
  unfold kE at e9
  injection e9 with e9 e10 e11
  subst e9;subst e11
  exact⟨q1,q2,q3,q4⟩
theorem JW {t:List En} (h:t.length=64):tL t=t.flatMap iC:=by
 have e:(List.range 64).map (fun i=>t.getD i zEn)=t:=by
  apply List.ext_getElem?
  intro i
  rw[List.getElem?_map]
  by_cases hi:i<64
  ·rw[List.getElem?_range hi,List.getElem?_eq_getElem (by omega)]
   show some (t.getD i zEn)=_
   rw[List.getD_eq_getElem?_getD,List.getElem?_eq_getElem (by omega)];rfl
  ·rw[List.getElem?_eq_none (by rw[List.length_range];omega),List.getElem?_eq_none (by omega)];rfl
 unfold tL
 rw[←List.flatMap_map (f:=fun i=>t.getD i zEn) (g:=iC),e]
theorem zA {f s ct:Nat} (hf:f≤40) (hs:s≤60) (hc:ct≤80):bN { rC f s ct (List.replicate ct zPg) [] [] with sp:=[⟨true,[],zTb⟩] } [List.replicate 64 zEn]=jJ f s ct:=by
 have e1:jJ f s ct=⟨uI f,yH s,ny s,ny ct,⟨[],ct⟩,[],[⟨true,[],zTb⟩]⟩:=if_pos ⟨⟨by omega,by omega⟩,⟨by omega,by omega⟩,by omega,by omega⟩
 have hz:dC (List.replicate 64 zEn)=zTb:=by decide +kernel
 rw[e1]
 unfold uI yH ny bN rC
 rw[if_pos (by omega),if_pos (by omega),if_pos (by omega),if_pos (by omega)]
 simp only[Int.toNat_natCast,List.length_cons,List.length_nil]
 have e2:dC (bY [List.replicate 64 zEn] 0)=zTb:=hz
 show (⟨⟨List.replicate f frZ,0⟩,List.replicate s 0,⟨List.replicate s zPg,[]⟩,⟨List.replicate ct zPg,[]⟩,⟨[],ct⟩,[],[⟨true,[],dC (bY [List.replicate 64 zEn] 0)⟩]⟩:Ma)=_
 rw[e2]
theorem vU {w0 w1 w2:World} {B B' : Nat} (h:Below B w0 w1) (h' : Below B' w1 w2) (hB:B≤B') (hw:B≤w0.heap.size):Below B w0 w2:=
 ⟨h'.os.trans h.os,h'.tape.trans h.tape,h'.output.trans h.output,Nat.le_trans h.size h'.size,fun x hx=>(h'.block x (Nat.lt_of_lt_of_le hx hB)).trans (h.block x hx)⟩
theorem mI {m:Ma} (h:Rt m):JN m:=by
 have h1:=h.pt
 have hw:=(jc _).1 h1.sw
 have hd:=(jc _).1 h1.dk
 have hst:=(iB h1.st).1
 refine⟨by have:=((eB _).1 h1.fr).1;omega,by have:=il h1.sl;omega,by omega,by omega,by omega,by omega,⟨by omega,fun f hf=>by have:=lC h1.st f hf;omega⟩,by have:=Em h.ca h1.st;omega,by have:=h1.spl;omega,fun s hs=>⟨?_,fun k hk => ?_⟩⟩
 ·have:=(eD.1 (h1.ar s hs)).1;omega
 ·have:=lF (jq (h1.tb s hs) k hk);omega
theorem zh {s:St} {b:Int} (h:b∈je s):iZ s b=true:=by
 cases hu:iZ s b with
 | true=>rfl
 | false=>exact absurd h (Hd hu)
theorem JK {t:Tb} (h:bB t=0) (h0:∀n,(bS t n).k=0):t=zTb:=
 JG h zTb_right fun n=>by
  rw[nK]
  have h1:=(bF _).1 (jr h n)
  have h2:=h0 n
  rcases h1 with ⟨_,e1,e2⟩|⟨e,_⟩|⟨e,_⟩
  ·generalize bS t n=x at *
   obtain⟨a,b,c⟩:=x
   simp only at h2 e1 e2
   subst h2;subst e1;subst e2
   rfl
  ·omega
  ·omega
theorem CV (H:MH) (w:World) (h:sV w H) (hR:Rt H.ma) :
  Calls Try.prog 43 #[.agg (bP H)] w fun r w'=>r = .returned (.int .i64 0)∧Below w.heap.size w w':=by
 have hh:=Lib.hid h
 have hR':=Lib.hid hR
 have hpt:=Lib.hid hR.pt
 have z1:H.dk.blocks.length≤1000:=(mI hR).dkb
 have z2:H.dk.queue.length≤1000:=(mI hR).dkq
 clear hR
 go_enter Try.func43,Try.ntmps43
 go_upto_region 1 with (fail)
 refine eO (fun W=>Code.wp _ _ _ _ W) fun w1 hb1 bx1 hs1 => ?_
 have bx1:aC w1 w.heap.size (bP H) 40:=bx1
 have h1:=h.below hb1
 clear h hs1
 have r1:bW w1 (some ⟨w.heap.size,0,none⟩) [.slice H.af H.m.fs.length H.cf,.int .i64 H.m.hand]:=bK bx1 0 2
 go_wp2_with (refine ax _ _ rfl w.heap.size 0 rfl rfl _ r1 _ Try.underlying27 rfl mem_size ?_)
 refine (yT H.m H.af H.cf _ h1.fr).mono ?_
 rintro r w2 ⟨rfl,hb2⟩
 rw[show cZ H.m=0 from hpt.out.fr]
 have h2:=h1.below hb2
 have bx2:=bx1.ext hb2
 have hbr2:=ag hb1 hb2
 clear h1 bx1 hb1 hb2 r1
 have hc:=bx2.cell
 unfold bP at hc
 go_wp2_with fail
 refine (yJ H.sl H.asl H.csl _ h2.sl.rd (by have:=h2.sl.le;have:=h2.sl.mx;unfold maxLen at this;omega)).mono ?_
 rintro r w2' ⟨rfl,rfl⟩
 rw[show dU H.sl=0 from hpt.out.sl]
 clear hc
 have r2:bW w2' (some ⟨w.heap.size,3,none⟩) [.slice H.wb H.sw.blocks.length H.cwb,.slice H.wq H.sw.queue.length H.cwq]:=bK bx2 3 2
 go_wp2_with (refine ax _ _ rfl w.heap.size 3 rfl rfl _ r2 _ Try.underlying33 rfl disk_size ?_)
 refine (nk H.sw H.wb H.cwb H.wq H.cwq _ h2.sw).mono ?_
 rintro r w3 ⟨rfl,hb3⟩
 rw[show bn H.sw=0 from hpt.out.sw]
 have h3:=h2.below hb3
 have bx3:=bx2.ext hb3
 have hbr3:=ag hbr2 hb3
 clear h2 bx2 hbr2 hb3 r2
 have r3:bW w3 (some ⟨w.heap.size,5,none⟩) [.slice H.db H.dk.blocks.length H.cdb,.slice H.dq H.dk.queue.length H.cdq]:=bK bx3 5 2
 go_wp2_with (refine ax _ _ rfl w.heap.size 5 rfl rfl _ r3 _ Try.underlying33 rfl disk_size ?_)
 refine (nk H.dk H.db H.cdb H.dq H.cdq _ h3.dk).mono ?_
 rintro r w4 ⟨rfl,hb4⟩
 rw[show bn H.dk=0 from hpt.out.dk]
 have h4:=h3.below hb4
 have bx4:=bx3.ext hb4
 have hbr4:=ag hbr3 hb4
 clear h3 bx3 hbr3 hb4 r3
 have r4:bW w4 (some ⟨w.heap.size,7,none⟩) [.slice H.ai H.fi.length H.ci,.int .i64 H.ct]:=bK bx4 7 2
 go_wp2_with (refine ax _ _ rfl w.heap.size 7 rfl rfl _ r4 _ Try.underlying36 rfl store_size ?_)
 refine (yz H.fi H.ct H.ai H.ci _ h4.st h4.c64).mono ?_
 rintro r w5 ⟨rfl,hb5⟩
 rw[show aO (dP H.fi H.ct)=0 from hpt.out.st]
 have bx5:=bx4.ext hb5
 have hbr5:=ag hbr4 hb5
 clear h4 bx4 hbr4 hb5 r4
 have l1:Hid (H.sw.blocks.length=H.sl.length):=Lib.hid hpt.out.swl
 have l2:Hid ((H.dk.blocks.length:Int)=H.ct):=Lib.hid hpt.out.dkl
 have hc:=bx5.cell
 unfold bP at hc
 rw[←l2.out,l1.out] at hc
 go_upto_region 18 with (fail)
 rw[←l1.out,l2.out] at hc
 go_wp2
 go_loopw [68] (fun s68 wr => ∃k:Nat,k≤H.dk.blocks.length∧s68 = .int .i64 k∧Below w.heap.size w wr∧aC wr w.heap.size (bP H) 40) (fun s68 _=>H.dk.blocks.length-(intOf s68).toNat)
 case atStart=>exact⟨0,Nat.zero_le _,rfl,hbr5,bx5⟩
 case round=>
  clear hbr5 bx5 hc
  obtain⟨k,hk,rfl,hbr,bx⟩:=hrel
  have hM:=hh.out.below hbr
  by_cases hkl:k<H.dk.blocks.length
  ·obtain⟨bd,od,hda,hrd⟩:=fu ic (by decide) hM.dk.rb k hkl
   have hki:(k:Int)<(H.dk.blocks.length:Int):=by omega
   have hor:Hid ((k:Int)∈je H.ma.st∨H.dk.blocks[k]=zPg):=Lib.hid (by
    have:=hR'.out.trim.1 k (by omega) (by exact_mod_cast hkl)
    rw[Int.toNat_natCast] at this
    have e:H.ma.dk.blocks.getD k zPg=H.dk.blocks[k]:=by
     show H.dk.blocks.getD k zPg=_
     rw[List.getD_eq_getElem?_getD,List.getElem?_eq_getElem hkl];rfl
    rw[e] at this
    exact this)
   generalize H.dk.blocks[k]=P at *
   rw[hda]
   go_wp2_with (first | (refine ax _ _ rfl bd (od+k*8) rfl rfl _ hrd _ Try.underlying50 rfl psize ?_) | (refine aD rfl _ _ _ rfl (dF P) rfl rfl rfl psize (dD _) ?_))
   intro w6 hb6 px6
   have hbr6:=ag hbr hb6
   have bx6:=bx.ext hb6
   have hM6:=hM.below hb6
   clear hbr bx hb6 hrd hM
   have r6:bW w6 (some ⟨w.heap.size,7,none⟩) [.slice H.ai H.fi.length H.ci,.int .i64 H.ct]:=bK bx6 7 2
   go_wp2_with (refine ax _ _ rfl w.heap.size 7 rfl rfl _ r6 _ Try.underlying36 rfl store_size ?_)
   refine (nL H.fi H.ct k H.ai H.ci _ hM6.st).mono ?_
   rintro r w7 ⟨rfl,hb7⟩
   have hbr7:=ag hbr6 hb7
   have bx7:=bx6.ext hb7
   have px7:=px6.ext hb7
   clear hbr6 bx6 hM6 px6 hb7 r6
   cases hu:iZ (dP H.fi H.ct) (k:Int) with
   | true=>
    clear px7
    go_wp2
    go_roundw
    case rel=>exact⟨k+1,by omega,by go_num,hbr7,bx7⟩
    case measure=>simp[intOf];omega
   | false=>
    have hP:P=zPg:=by
     rcases hor.out with e|e
     ·have h9:=zh e
      exact absurd (h9.symm.trans hu) (by decide)
     ·exact e
    subst hP
    have hcp:=px7.cell
    rw[lit0] at hcp
    have hE:∀W,(Op.equalIn 10000 50 (.agg #[.int .u8 0,.int .u8 0,.int .u8 0,.int .u8 0,.int .u8 0,.int .u8 0,.int .u8 0,.int .u8 0]) (.agg #[.int .u8 0,.int .u8 0,.int .u8 0,.int .u8 0,.int .u8 0,.int .u8 0,.int .u8 0,.int .u8 0])).run Try.prog W = .ok true W:=fun W=>KF zPg zPg W
    go_wp2
    go_roundw
    case rel=>exact⟨k+1,by omega,by go_num,hbr7,bx7⟩
    case measure=>simp[intOf];omega
  ·have hki:¬(k:Int)<(H.dk.blocks.length:Int):=by omega
   have hc:=bx.cell
   unfold bP at hc
   clear hM
   go_wp2
   go_loopw [88] (fun s88 wr => ∃k:Nat,k≤H.dk.queue.length∧s88 = .int .i64 k∧Below w.heap.size w wr∧aC wr w.heap.size (bP H) 40) (fun s88 _=>H.dk.queue.length-(intOf s88).toNat)
   case atStart=>exact⟨0,Nat.zero_le _,rfl,hbr,bx⟩
   case round=>
    clear hbr bx hc hki
    obtain⟨k,hk,rfl,hbr,bx⟩:=hrel
    have hM:=hh.out.below hbr
    by_cases hkl:k<H.dk.queue.length
    ·obtain⟨bd,od,hda,hrd⟩:=fu qo (by decide) hM.dk.rq k hkl
     have hki:(k:Int)<(H.dk.queue.length:Int):=by omega
     have hus:iZ (dP H.fi H.ct) (H.dk.queue[k]).1=true:=zh (hR'.out.trim.2 _ (List.getElem_mem hkl))
     generalize H.dk.queue[k]=X at *
     rw[hda]
     go_wp2_with (first | (refine ax _ _ rfl bd (od+k*9) rfl rfl _ hrd _ Try.underlying93 rfl put_size ?_) | (refine aD rfl _ _ _ rfl (yS X) rfl rfl rfl put_size (Ca _) ?_))
     intro w6 hb6 px6
     have hbr6:=ag hbr hb6
     have bx6:=bx.ext hb6
     have hM6:=hM.below hb6
     clear hbr bx hb6 hrd hM
     have hcp:=px6.cell
     unfold yS at hcp
     have r6:bW w6 (some ⟨w.heap.size,7,none⟩) [.slice H.ai H.fi.length H.ci,.int .i64 H.ct]:=bK bx6 7 2
     go_wp2_with (refine ax _ _ rfl w.heap.size 7 rfl rfl _ r6 _ Try.underlying36 rfl store_size ?_)
     refine (nL H.fi H.ct X.1 H.ai H.ci _ hM6.st).mono ?_
     rintro r w7 ⟨rfl,hb7⟩
     have hbr7:=ag hbr6 hb7
     have bx7:=bx6.ext hb7
     rw[hus]
     clear hbr6 bx6 hM6 px6 hb7 r6 hcp hus
     go_wp2
     go_roundw
     case rel=>exact⟨k+1,by omega,by go_num,hbr7,bx7⟩
     case measure=>simp[intOf];omega
    ·have hki:¬(k:Int)<(H.dk.queue.length:Int):=by omega
     have hc:=bx.cell
     unfold bP at hc
     have hs4:H.sp.length≤4:=by have:=hpt.out.spl;rw[Dv] at this;exact this
     clear hM
     go_wp2
     go_loopw [106] (fun s106 wr => ∃k:Nat,k≤H.sp.length∧s106 = .int .i64 k∧Below w.heap.size w wr) (fun s106 _=>H.sp.length-(intOf s106).toNat)
     case atStart=>exact⟨0,Nat.zero_le _,rfl,hbr⟩
     case round=>
      clear hbr bx hc hki
      obtain⟨k,hk,rfl,hbr⟩:=hrel
      have hM:=hh.out.below hbr
      by_cases hkl:k<H.sp.length
      ·obtain⟨bd,od,P,hda,hP,hrd⟩:=jY hM.sp.rd k hkl
       have hki:(k:Int)<(H.sp.length:Int):=by omega
       have hgood:=jm hM hP
       have hsP:P.sp∈H.ma.sp:=by show P.sp∈H.sp.map PS.sp;exact List.mem_map.2 ⟨P,List.mem_of_getElem? hP,rfl⟩
       have hal:(aR P.ar).1=0:=hpt.out.ar P.sp hsP
       have htb:bB P.tb=0:=hpt.out.tb P.sp hsP
       have hdead:Hid (P.lv=false→P.ar=[]∧P.tb=zTb):=Lib.hid fun hl=>by
        have h9:=hR'.out.live k (by rw[uL hP];exact hl)
        rw[uL hP] at h9
        exact⟨h9.1,JK htb fun n=>by
         have:=h9.2 n
         unfold ent at this
         rw[uL hP] at this
         exact this⟩
       rw[hda]
       go_wp2_with (first | (refine ax _ _ rfl bd (od+k*10) rfl rfl _ hrd _ Try.underlying65 rfl space_size ?_) | (refine aD rfl _ _ _ rfl (lu P) rfl rfl rfl space_size (by rw[←Array.all_toList,List.all_eq_true];exact hgood.one) ?_))
       intro w6 hb6 px6
       have hbr6:=ag hbr hb6
       have hg6:=hgood.below hb6
       have hA:=hg6.ars
       have hcp:=px6.cell
       unfold lu at hcp
       clear hbr hb6 hrd hM hgood
       go_wp2_with fail
       refine (tV P.ar P.aa P.ac _ hA).mono ?_
       rintro r w7 ⟨rfl,hb7⟩
       rw[show zD (aR P.ar)=#[.int .i64 0,.int .i64 (aR P.ar).2] from by unfold zD;rw[hal]]
       have hbr7:=ag hbr6 hb7
       have hg7:=hg6.below hb7
       have px7:=px6.ext hb7
       clear hcp px6 hbr6 hg6 hb7 hA
       go_wp2_with (refine aD rfl _ _ _ rfl #[.int .i64 0,.int .i64 (aR P.ar).2] rfl rfl rfl fau_size (gZ _ _) ?_)
       intro w8 hb8 ux8
       have hcu:=ux8.cell
       have hbr8:=ag hbr7 hb8
       have hg8:=hg7.below hb8
       have px8:=px7.ext hb8
       clear hbr7 hg7 px7 hb8
       have hrt:bW w8 (some ⟨wr.heap.size,2,none⟩) (jG P.ts).toList:=bK px8 2 8
       go_wp2_with (refine ax _ _ rfl wr.heap.size 2 rfl rfl _ hrt _ Try.underlying63 tab_agg tab_size ?_)
       refine (zw P.tb (jG P.ts) _ hg8.tb).mono ?_
       rintro r w9 ⟨rfl,hb9⟩
       rw[htb]
       have hbr9:=ag hbr8 hb9
       have hg9:=hg8.below hb9
       have px9:=px8.ext hb9
       clear hcu ux8 hbr8 hg8 px8 hb9 hrt
       have hcp:=px9.cell
       unfold lu at hcp
       cases hlv:P.lv with
       | true=>
        rw[hlv] at hcp
        go_wp2
        go_roundw
        case rel=>exact⟨k+1,by omega,by go_num,hbr9⟩
        case measure=>simp[intOf];omega
       | false=>
        obtain⟨e1,e2⟩:=hdead.out hlv
        have hl0:P.ar.length=0:=by rw[e1];rfl
        rw[hlv,hl0] at hcp
        have hrt:bW w9 (some ⟨wr.heap.size,2,none⟩) (jG P.ts).toList:=bK px9 2 8
        have hT:yj w9 (jG P.ts) zTb:=by have:=hg9.tb;rw[e2] at this;exact this
        clear hl0
        go_wp2_with (refine ax _ _ rfl wr.heap.size 2 rfl rfl _ hrt _ Try.underlying63 tab_agg tab_size ?_)
        refine (CX zTb zTb (jG P.ts) (jG nTs) _ hT (zR _ 0).rd).mono ?_
        rintro r wa ⟨rfl,hba⟩
        rw[Al]
        have hbra:=ag hbr9 hba
        go_wp2
        go_roundw
        case rel=>exact⟨k+1,by omega,by go_num,hbra⟩
        case measure=>simp[intOf];omega
      ·have hki:¬(k:Int)<(H.sp.length:Int):=by omega
       go_wp2
       go_ret
       exact⟨rfl,hbr⟩
theorem rQ {α:Type} (q:α→Bool) (l:List α) (j:Nat) (hj:j<l.length):(l.take (j+1)).countP q=(l.take j).countP q+if q l[j]=true then 1 else 0:=by
 rw[List.take_add_one,List.getElem?_eq_getElem hj,List.countP_append]
 simp[List.countP_cons]
theorem CY (H:MH) (g:Pg) (e:En) (w:World) (h:sV w H) (hR:Rt H.ma) (hf:Ex H.ma g e) (hk:e.k≠0) (he:cO e=0) :
  Calls Try.prog 46 #[.agg (bP H),.agg (iU (some g)),.agg (fK e)] w fun r w'=>r = .returned (.int .i64 0)∧Below w.heap.size w w':=by
 have hR':=Lib.hid hR
 have hf':=Lib.hid hf
 clear hR hf
 go_enter Try.func46,Try.ntmps46
 go_upto_region 1 with (fail)
 refine JD (fun W=>Code.wp _ _ _ _ W) fun w1 hb1 bx1 ox1 ex1 hs1 => ?_
 have bx1:aC w1 w.heap.size (bP H) 40:=bx1
 have ox1:aC w1 (w.heap.size+1) #[.bool true,.bool g.rd,.bool g.wr,.bool g.sh,.int .i64 g.fi,.int .i64 g.pg] 106:=ox1
 have ex1:aC w1 (w.heap.size+1+1) #[.int .i64 e.k,.int .i64 e.n,.bool e.w] 67:=ex1
 have h1:=h.below hb1
 clear h hs1
 have hc:=bx1.cell
 unfold bP at hc
 have ho:=ox1.cell
 have hx:=ex1.cell
 have hcase:=(bF _).1 he
 by_cases k2:e.k=2
 ·obtain⟨q1,q2⟩:=hf'.out.sw k2
  have q1' : e.n<(H.sl.length:Int):=q1
  rw[k2] at hx
  rw[q2] at ho
  clear q1 q2 hk hcase he k2
  go_wp2
  go_ret
  exact⟨rfl,hb1⟩
 ·have k1:e.k=1:=by omega
  have q1' : e.n<(H.m.fs.length:Int):=hf'.out.lt k1
  obtain⟨f1,f2,f3,f4,f5⟩:=hf'.out.fr k1
  have hn0:0≤e.n:=by omega
  obtain⟨F,hF⟩:∃F:Nat,e.n=F:=⟨e.n.toNat,by omega⟩
  have hFl:F<H.m.fs.length:=by omega
  obtain⟨bf,of,haf,hel⟩:=fu eu (by decide) h1.fr.rd F hFl
  have hFe:dL H.ma e.n.toNat=H.m.fs[F]:=by rw[hF,Int.toNat_natCast];unfold dL;show H.m.fs.getD F fr0=_;rw[List.getD_eq_getElem?_getD,List.getElem?_eq_getElem hFl];rfl
  have hfe:dh H.m.fs[F]=0:=by rw[←hFe,hF,Int.toNat_natCast];exact hR'.out.pt.frE (m:=H.ma) hFl
  rw[hFe] at f1 f2 f4 f5
  have hfm : -1≤(H.m.fs[F]).f:=by
   unfold dh at hfe
   split at hfe
   ·exact absurd hfe (by decide)
   ·rename_i hb
    unfold uP at hb
    simp at hb
    omega
  generalize H.m.fs[F]=X at *
  rw[k1,hF] at hx
  rw[haf] at hc
  have hFi:(F:Int)<(H.m.fs.length:Int):=by omega
  clear hcase he hk k2 hFe q1' hn0
  go_wp2_with (first | (refine ax _ _ rfl bf (of+F*13) rfl rfl _ hel _ Try.underlying59 rfl frame_size ?_) | (refine aD rfl _ _ _ rfl (pK X) rfl rfl rfl frame_size (mi _) ?_))
  intro w4 hb4 fx4
  have hbr4:=ag hb1 hb4
  have ho:=(ox1.ext hb4).cell
  have hx:=(ex1.ext hb4).cell
  rw[k1] at hx
  have hfx:=fx4.cell
  unfold pK at hfx
  clear bx1 ox1 ex1 h1 hc hb1 hb4 hel fx4
  by_cases c1:X.f<0
  ·have hm1:X.f = -1:=by omega
   have hsh:g.sh=false:=by
    cases hs:g.sh with
    | false=>rfl
    | true=>have:=f2 hs;omega
   rw[hm1] at hfx
   rw[hsh] at ho
   cases hw:e.w with
   | false=>
    rw[hw] at hx
    by_cases c2:0≤g.fi
    ·have c3:¬(-1:Int)=g.fi:=by omega
     clear f1 f2 f3 f4 f5 hm1
     go_wp2
     all_goals go_ret
     all_goals exact⟨rfl,hbr4⟩
    ·clear f1 f2 f3 f4 f5 hm1
     go_wp2
     all_goals go_ret
     all_goals exact⟨rfl,hbr4⟩
   | true=>
    rw[hw] at hx
    have h3:=f3 hw
    have h5:=f5 hw c1
    rw[h3] at ho
    by_cases c2:0≤g.fi
    ·have c3:¬(-1:Int)=g.fi:=by omega
     clear f1 f2 f3 f4 f5 hm1
     go_wp2
     all_goals go_ret
     all_goals exact⟨rfl,hbr4⟩
    ·clear f1 f2 f3 f4 f5 hm1
     go_wp2
     all_goals go_ret
     all_goals exact⟨rfl,hbr4⟩
  ·have hx0:0≤X.f:=by omega
   obtain⟨p1,p2⟩:=f1 hx0
   rw[←p1,←p2] at ho
   have c2:(X.f == -1)=false:=by simp;omega
   clear p1 p2
   cases hw:e.w with
   | false=>
    rw[hw] at hx
    clear f1 f2 f3 f4 f5
    go_wp2
    all_goals go_ret
    all_goals exact⟨rfl,hbr4⟩
   | true=>
    rw[hw] at hx
    have h3:=f3 hw
    have h4:=f4 hw hx0
    rw[h3,h4] at ho
    clear f1 f2 f3 f4 f5
    go_wp2
    all_goals go_ret
    all_goals exact⟨rfl,hbr4⟩
theorem wY {l:List En} (h:l.length=64):mP l=(tL l).toArray:=by
 unfold mP tL
 congr 1
 have e:l=(List.range 64).map fun i=>l.getD i zEn:=by
  apply List.ext_getElem
  ·simp[h]
  ·intro i h1 h2
   simp[List.getD_eq_getElem?_getD,List.getElem?_eq_getElem h1]
 conv=>lhs;rw[e,List.flatMap_map]
theorem qj (H:MH) (kd k:Int) (w:World) (h:sV w H) (hR:Rt H.ma) :
  Calls Try.prog 47 #[.agg (bP H),.int .i64 kd,.int .i64 k] w fun r w'=>r = .returned (.int .i64 (dw H.ma kd k:Int))∧Below w.heap.size w w':=by
 have hpt:=Lib.hid hR.pt
 have hh:=Lib.hid h
 have hs4:H.sp.length≤4:=by have:=hR.pt.spl;rw[Dv] at this;exact this
 clear hR
 go_enter Try.func47,Try.ntmps47
 go_upto_region 1 with (fail)
 refine eO (fun W=>Code.wp _ _ _ _ W) fun w1 hb1 bx1 hs1 => ?_
 have bx1:aC w1 w.heap.size (bP H) 40:=bx1
 clear h hs1
 have hc:=bx1.cell
 unfold bP at hc
 go_wp2
 go_loopw [15,7] (fun s15 s7 wr => ∃p n:Nat,p≤H.sp.length∧s15 = .int .i64 p∧s7 = .int .i64 n∧n≤64*p∧Below w.heap.size w wr∧Hid (n=((H.sp.take p).map fun s=>(bu s.tb).countP (kN kd k)).sum)) (fun s15 _ _=>H.sp.length-(intOf s15).toNat)
 case atStart=>exact⟨0,0,Nat.zero_le _,rfl,rfl,Nat.le_refl _,hb1,Lib.hid (by simp)⟩
 case round=>
  clear hb1 bx1 hc
  obtain⟨p,n,hp,rfl,rfl,hn,hbr,hsum⟩:=hrel
  have hM:=hh.out.below hbr
  by_cases hpl:p<H.sp.length
  ·obtain⟨bd,od,P,hda,hP,hrd⟩:=jY hM.sp.rd p hpl
   have hpi:(p:Int)<(H.sp.length:Int):=by omega
   have hgood:=jm hM hP
   have hsP:P.sp∈H.ma.sp:=by show P.sp∈H.sp.map PS.sp;exact List.mem_map.2 ⟨P,List.mem_of_getElem? hP,rfl⟩
   have htb:bB P.tb=0:=hpt.out.tb P.sp hsP
   have htake:Hid (((H.sp.take (p+1)).map fun s=>(bu s.tb).countP (kN kd k)).sum=n+(bu P.tb).countP (kN kd k)):=Lib.hid (by
    rw[List.take_add_one,hP,List.map_append,List.sum_append,←hsum.out];simp)
   rw[hda]
   go_wp2_with (first | (refine ax _ _ rfl bd (od+p*10) rfl rfl _ hrd _ Try.underlying65 rfl space_size ?_) | (refine aD rfl _ _ _ rfl (lu P) rfl rfl rfl space_size (by rw[←Array.all_toList,List.all_eq_true];exact hgood.one) ?_))
   intro w6 hb6 px6
   have hbr6:=ag hbr hb6
   have hg6:=hgood.below hb6
   clear hbr hb6 hrd hM hgood
   have hrt:bW w6 (some ⟨wr.heap.size,2,none⟩) (jG P.ts).toList:=bK px6 2 8
   go_wp2_with (refine ax _ _ rfl wr.heap.size 2 rfl rfl _ hrt _ Try.underlying63 tab_agg tab_size ?_)
   refine (qR P.tb (jG P.ts) _ hg6.tb htb).mono ?_
   rintro r w7 ⟨rfl,hb7⟩
   have hbr7:=ag hbr6 hb7
   clear hrt px6 hg6 hbr6 hb7
   have hfl:=nE P.tb
   generalize bu P.tb=l at *
   rw[wY hfl]
   go_wp2
   go_loopw [22,7] (fun s22 s7 wr => ∃i m:Nat,i≤64∧s22 = .int .i64 i∧s7 = .int .i64 m∧m≤64*p+i∧Below w.heap.size w wr∧Hid (m=n+(l.take i).countP (kN kd k))) (fun s22 _ _=>64-(intOf s22).toNat)
   case atStart=>exact⟨0,n,Nat.zero_le _,rfl,rfl,by omega,hbr7,Lib.hid (by simp)⟩
   case round=>
    clear hbr7 hn
    obtain⟨i,m,hi,rfl,rfl,hm,hbr,hs⟩:=hrel
    by_cases hil:i<64
    ·have hii:(i:Int)<64:=by omega
     have hil' : i<l.length:=by omega
     have hct:Hid ((l.take (i+1)).countP (kN kd k)=(l.take i).countP (kN kd k)+if kN kd k l[i]=true then 1 else 0):=Lib.hid (rQ _ _ _ hil')
     have hE:l.getD i zEn=l[i]:=by rw[List.getD_eq_getElem?_getD,List.getElem?_eq_getElem hil'];rfl
     generalize l[i]=E at *
     have hix:=tJ l i hil E hE
     clear hE
     go_wp2_with (refine aD rfl _ _ _ rfl (fK E) rfl rfl rfl entry_size (by simp[fK,Value.oneCell']) ?_)
     intro w8 hb8 ex8
     have hbr8:=ag hbr hb8
     have hx:=ex8.cell
     unfold fK at hx
     clear hix hbr hb8 ex8
     by_cases c1:E.k=kd
     ·by_cases c2:E.n=k
      ·have hs' : Hid (m+1=n+(l.take (i+1)).countP (kN kd k)):=Lib.hid (by rw[hct.out,if_pos (by unfold kN;simp[c1,c2]),hs.out];omega)
       clear hs hct
       go_wp2
       go_roundw
       case rel=>exact⟨i+1,m+1,by omega,by go_num,by go_num,by omega,hbr8,hs'⟩
       case measure=>simp[intOf];omega
      ·have hs' : Hid (m=n+(l.take (i+1)).countP (kN kd k)):=Lib.hid (by rw[hct.out,if_neg (by unfold kN;simp[c1,c2]),hs.out];omega)
       clear hs hct
       go_wp2
       go_roundw
       case rel=>exact⟨i+1,m,by omega,by go_num,rfl,by omega,hbr8,hs'⟩
       case measure=>simp[intOf];omega
     ·have hs' : Hid (m=n+(l.take (i+1)).countP (kN kd k)):=Lib.hid (by rw[hct.out,if_neg (by unfold kN;simp[c1]),hs.out];omega)
      clear hs hct
      go_wp2
      go_roundw
      case rel=>exact⟨i+1,m,by omega,by go_num,rfl,by omega,hbr8,hs'⟩
      case measure=>simp[intOf];omega
    ·have hii:¬(i:Int)<64:=by omega
     have hs' : Hid (m=((H.sp.take (p+1)).map fun s=>(bu s.tb).countP (kN kd k)).sum):=Lib.hid (by rw[htake.out,hs.out,List.take_of_length_le (by omega)])
     clear hs htake
     go_wp2
     go_roundw
     case rel=>exact⟨p+1,m,by omega,by go_num,rfl,by omega,hbr,hs'⟩
     case measure=>simp[intOf];omega
  ·have hpi:¬(p:Int)<(H.sp.length:Int):=by omega
   have hend:Hid (n=dw H.ma kd k):=Lib.hid (by
    rw[hsum.out,List.take_of_length_le (by omega)]
    unfold dw MH.ma
    rw[List.map_map]
    rfl)
   clear hsum hM
   go_wp2
   go_ret
   exact⟨by rw[←hend.out];rfl,hbr⟩
theorem Ev {t:Tb} {n:Nat} (hn:n<64):(bu t).getD n zEn=bS t (n:Int):=by
 unfold bu
 rw[List.getD_eq_getElem?_getD,List.getElem?_map,List.getElem?_range hn];rfl
theorem EW {P:Program} {ρ:Operand→Value} {o:Oper} {w:World} {t e:TypeId} {x y:Operand} {b off n i sz:Nat} {k:IntKind} (ho:o.op = .indexAddr t x y) (hx:ρ x = .pointer (some ⟨b,off,none⟩)) (hy:ρ y = .int k (i:Int)) (hi:i<n)
  (hu:P.underlying t=some (.array n e)) (hs:(P.info? e).map (·.size)=some sz):(execOp ρ o).run P w = .ok (.value (.pointer (some ⟨b,off+i*sz,none⟩))) w:=by
 obtain⟨inf,hinf,hsz⟩:∃inf,P.info? e=some inf∧inf.size=sz:=by
  cases h:P.info? e with
  | none=>rw[h] at hs;cases hs
  | some inf=>rw[h] at hs;exact⟨inf,rfl,by simpa using hs⟩
 have hso:(Go.sizeOf e).run P w = .ok sz w:=by simp[Go.sizeOf,typeInfo,hinf,go_sem,hsz]
 simp[execOp,go_sem,ho,hx,hy,hu,hso,hi]
theorem Jw {w:World} {go i:Nat} {f:Nat→Option Pg} {o:Option Pg} {T:TypeId} (h:aC w go (fC f) T) (hi:i<64) (ho:f i=o):bW w (some ⟨go,i*6,none⟩) (iU o).toList:=by
 have h1:=bK h (i*6) 6
 have h2:=BS f i hi
 rw[ho] at h2
 have e:((fC f).toList.drop (i*6)).take 6=(iU o).toList:=by
  rw[←h2,Array.toList_extract]
  simp[List.extract_eq_take_drop]
 rwa [e] at h1
theorem AP (H : MH) (w : World) (h : sV w H) (hR : Rt H.ma) :
    Calls Try.prog 11 #[.agg (bP H)] w fun r w' => r = .returned (.int .i64 0) ∧ Below w.heap.size w w' := by
  have hh := Lib.hid h
  have hR' := Lib.hid hR
  have hz := Lib.hid (mI hR)
  have z1 : H.ca.length ≤ 1000 := hz.out.ca
  have z2 : H.m.fs.length ≤ 1000 := hz.out.fs
  have z3 : H.sl.length ≤ 1000 := hz.out.sl
  have z4 : H.sp.length ≤ 4 := by have := hR.pt.spl; rw [Dv] at this; exact this
  have hfew := Lib.hid (lC hR.pt.st)
  clear hR
  go_enter Try.func11, Try.ntmps11
  go_upto_region 1 with (fail)
  refine eO (fun W => Code.wp _ _ _ _ W) fun w1 hb1 bx1 hs1 => ?_
  have bx1 : aC w1 w.heap.size (bP H) 40 := bx1
  have h1 := h.below hb1
  clear h hs1
  go_wp2_with (refine ax _ _ rfl w.heap.size 0 rfl rfl _ bx1.rd _ Try.underlying40 rfl machine_size ?_)
  refine (CV H _ h1 hR'.out).mono ?_
  rintro r w2 ⟨rfl, hb2⟩
  have bx2 := bx1.ext hb2
  have hbr2 := ag hb1 hb2
  clear h1 bx1 hb1 hb2
  have hc := bx2.cell
  unfold bP at hc
  go_wp2
  go_loopw [29] (fun s29 wr => ∃ q : Nat, q ≤ H.ca.length ∧ s29 = .int .i64 q ∧ Below w.heap.size w wr ∧ aC wr w.heap.size (bP H) 40) (fun s29 _ => H.ca.length - (intOf s29).toNat)
  case atStart => exact ⟨0, Nat.zero_le _, rfl, hbr2, bx2⟩
  case round =>
    clear hbr2 bx2 hc
    obtain ⟨q, hq, rfl, hbr, bx⟩ := hrel
    have hM := hh.out.below hbr
    by_cases hql : q < H.ca.length
    · obtain ⟨bc, oc, hac, hel⟩ := fu jg (by decide) hM.ca.rd q hql
      have hqi : (q : Int) < (H.ca.length : Int) := by omega
      have hcm : H.ca[q] ∈ H.ma.ca := List.getElem_mem hql
      obtain ⟨⟨f1, f2⟩, f3, f4⟩ := hR'.out.ca.file _ hcm
      obtain ⟨f5, f6⟩ := hR'.out.ca.lt _ hcm
      obtain ⟨f7, f8, f9⟩ := hR'.out.ca.fr _ hcm
      have hprev : Hid (∀ q1 : Nat, q = q1 + 1 → ∃ d : Cc, H.ca[q1]? = some d ∧ vE d H.ca[q] ∧ 0 ≤ d.f ∧ d.f < 1000 ∧ 0 ≤ d.i ∧ d.i < 12) := Lib.hid (fun q1 e => by
        have h1 : q1 < H.ca.length := by omega
        refine ⟨H.ca[q1], List.getElem?_eq_getElem h1, (List.pairwise_iff_getElem.1 hR'.out.ca.srt) q1 q h1 hql (by omega), ?_⟩
        obtain ⟨⟨g1, g2⟩, g3, g4⟩ := hR'.out.ca.file _ (List.getElem_mem h1 : H.ca[q1] ∈ H.ma.ca)
        have hm : fileAt H.ma.st H.ca[q1].f ∈ H.ma.st.fs := by
          unfold fileAt
          rw [if_pos g1, List.getD_eq_getElem?_getD, List.getElem?_eq_getElem (by omega)]
          exact List.getElem_mem _
        have := hfew.out _ hm
        have hz5 := hz.out.st.1
        exact ⟨g1, by omega, g3, by omega⟩)
      generalize hcq : H.ca[q] = c at *
      obtain ⟨F, hcF⟩ : ∃ F : Nat, c.f = F := ⟨c.f.toNat, by omega⟩
      have hFl : F < H.fi.length := by have : H.ma.st.fs.length = H.fi.length := List.length_map _; omega
      obtain ⟨bf, of, hai, hfl⟩ := fu ib (by decide) hM.st.rd F hFl
      have hPl : Hid (fileAt H.ma.st c.f = (H.fi[F]).fi) := Lib.hid (by
        rw [hcF]
        exact jf (by show (H.fi.map PF.fi)[F]? = _; rw [List.getElem?_map, List.getElem?_eq_getElem hFl]; rfl))
      have f4' : c.i < ((H.fi[F]).l.length : Int) := by rw [hPl.out] at f4; exact f4
      generalize H.fi[F] = P at *
      obtain ⟨K, hcK⟩ : ∃ K : Nat, c.k = K := ⟨c.k.toNat, by omega⟩
      have hKl : K < H.m.fs.length := by have : (K : Int) < (H.m.fs.length : Int) := by rw [← hcK]; exact f6
                                         omega
      obtain ⟨bm, om, ham, hfm⟩ := fu eu (by decide) hM.fr.rd K hKl
      have hKe : dL H.ma c.k.toNat = H.m.fs[K] := by rw [hcK, Int.toNat_natCast]; unfold dL; show H.m.fs.getD K fr0 = _; rw [List.getD_eq_getElem?_getD, List.getElem?_eq_getElem hKl]; rfl
      rw [hKe] at f7 f8 f9
      generalize H.m.fs[K] = X at *
      have hlt5 : Hid (0 ≤ c.f ∧ c.f < 1000 ∧ 0 ≤ c.i ∧ c.i < 12) := Lib.hid (by
        have hm : fileAt H.ma.st c.f ∈ H.ma.st.fs := by
          unfold fileAt
          rw [if_pos f1, List.getD_eq_getElem?_getD, List.getElem?_eq_getElem (by omega)]
          exact List.getElem_mem _
        have := hfew.out _ hm
        have hz5 := hz.out.st.1
        exact ⟨f1, by omega, f3, by omega⟩)
      have c1 : ¬ c.f < 0 := by omega
      have c2 : ¬ (H.fi.length : Int) ≤ c.f := by omega
      have c3 : ¬ c.i < 0 := by omega
      have c4 : ¬ (P.l.length : Int) ≤ c.i := by omega
      have c5 : ¬ c.k < 0 := by omega
      have c6 : ¬ (H.m.fs.length : Int) ≤ c.k := by omega
      have hc78 := Lib.hid (And.intro f7 (And.intro f8 f9))
      clear f1 f2 f3 f4 f4' f5 f6 f7 f8 f9 hKe hPl hcm
      rw [hac]
      go_wp2_with (first | (refine ax _ _ rfl bc (oc + q * 3) rfl rfl _ hel _ Try.underlying85 rfl cached_size ?_) | (refine aD rfl _ _ _ rfl (qN c) rfl rfl rfl cached_size (lU _) ?_))
      intro w3 hb3 cx3
      have bx3 := bx.ext hb3
      have hbr3 := ag hbr hb3
      have hcs : ∀ W, Below w3.heap.size w3 W → W.cell? ⟨bf, of + F * 2 + 1, none⟩ = some (.slice P.a P.l.length P.c) := fun W hb => by
        obtain ⟨b', o', e, hc⟩ := ((hfl.below hb3).below hb) 1 _ rfl
        cases e
        exact hc
      have hfm3 := hfm.below hb3
      have hM3 := hM.below hb3
      clear hbr bx hb3 hel hfl hfm hM
      go_upto_region 7 with (fail)
      refine aF 45 [_,_,_,_,_,_,_,_,_,_,_,_,_,_,_,_,_,_,_,_,_,_,_,_,_,_,_,_,_,_,_,_,_,_,_,_,_,_,_,_,_,_,_,_,.v (.bool false)] (Gf wr.heap.size 0 rfl rfl (Gl cx3 rfl rfl rfl rfl rfl (Gb (.bool false) (by simp [go_sem, c1]) rfl rfl rfl rfl rfl (Gk rfl (Gf wr.heap.size 0 rfl rfl (Gl cx3 rfl rfl rfl rfl rfl (Gf w.heap.size 7 rfl rfl (Gf w.heap.size 7 rfl rfl (Gl bx3 rfl rfl rfl rfl rfl (Gn rfl rfl rfl rfl (Gb (.bool false) (by simp [go_sem, c2]) rfl rfl rfl rfl rfl (Gk rfl (Gk rfl (Gf wr.heap.size 1 rfl rfl (Gl cx3 rfl rfl rfl rfl rfl (Gb (.bool false) (by simp [go_sem, c3]) rfl rfl rfl rfl rfl (Gk rfl (Gk rfl (Gf wr.heap.size 1 rfl rfl (Gl cx3 rfl rfl rfl rfl rfl (Gf w.heap.size 7 rfl rfl (Gf w.heap.size 7 rfl rfl (Gl bx3 (V := .slice (some ⟨bf, of, none⟩) H.fi.length H.ci) (by simp [bP, hai]) rfl rfl rfl rfl (Gf wr.heap.size 0 rfl rfl (Gl cx3 (V := .int .i64 (F : Int)) (by simp [qN, hcF]) rfl rfl rfl rfl (Gr (.pointer (some ⟨bf, of + F * 2, none⟩)) (fun ρ y W hb hKn => (aT rfl (az rfl hKn) (az rfl hKn) hFl Try.underlying34 file_size)) rfl rfl (Gf bf (of + F * 2 + 1) rfl rfl (Gc (.slice P.a P.l.length P.c) (fun W hb => by simp [hcs _ hb]) rfl rfl rfl rfl (Gn rfl rfl rfl rfl (Gb (.bool false) (by simp [go_sem, c4]) rfl rfl rfl rfl rfl (Gk rfl (Gk rfl (Gf wr.heap.size 2 rfl rfl (Gl cx3 rfl rfl rfl rfl rfl (Gb (.bool false) (by simp [go_sem, c5]) rfl rfl rfl rfl rfl (Gk rfl (Gk rfl (Gf wr.heap.size 2 rfl rfl (Gl cx3 rfl rfl rfl rfl rfl (Gf w.heap.size 0 rfl rfl (Gf w.heap.size 0 rfl rfl (Gl bx3 rfl rfl rfl rfl rfl (Gn rfl rfl rfl rfl (Gb (.bool false) (by simp [go_sem, c6]) rfl rfl rfl rfl rfl (Gk rfl (all_nil)))))))))))))))))))))))))))))))))))))))))))))) (fun _ => rfl) rfl ?_
      intro y W4 hbW4 _
      have bx4 := bx3.ext hbW4
      have cx4 := cx3.ext hbW4
      have hbr4 := ag hbr3 hbW4
      have hfm4 := hfm3.below hbW4
      have hM4 := hM3.below hbW4
      have hc := bx4.cell
      unfold bP at hc
      rw [ham] at hc
      have hcc := cx4.cell
      unfold qN at hcc
      rw [hcK] at hcc
      have hKi : (K : Int) < (H.m.fs.length : Int) := by omega
      clear hcs hbr3 bx3 cx3 hfm3 hM3 hbW4 hai c1 c2 c3 c4 c5 c6
      go_wp2_with (first | (refine ax _ _ rfl bm (om + K * 13) rfl rfl _ hfm4 _ Try.underlying59 rfl frame_size ?_) | (refine aD rfl _ _ _ rfl (pK X) rfl rfl rfl frame_size (mi _) ?_))
      intro w5 hb5 fx5
      have bx5 := bx4.ext hb5
      have cx5 := cx4.ext hb5
      have hbr5 := ag hbr4 hb5
      have hM5 := hM4.below hb5
      clear hbr4 bx4 cx4 hfm4 hM4 hb5 hc hcc
      have hfx := fx5.cell
      unfold pK at hfx
      have hcc := cx5.cell
      unfold qN at hcc
      obtain ⟨g7, g8, g9⟩ := hc78.out
      have d1 : ¬ X.r = 0 := by omega
      rw [g8, g9] at hfx
      clear g7 g8 g9
      go_upto_region 12 with (fail)
      rcases Nat.eq_zero_or_pos q with hq0 | hqp
      · subst hq0
        refine aF 27 [_,_,_,_,_,_,_,_,_,_,_,_,_,_,_,_,_,_,_,_,_,_,_,_,_,_,.v (.bool false)] (Gk rfl (Gb (.bool false) (by simp [go_sem, ]) rfl rfl rfl rfl rfl (Gk rfl (Gk rfl (Gk rfl (Gk rfl (Gk rfl (Gk rfl (Gk rfl (Gk rfl (Gk rfl (Gk rfl (Gk rfl (Gk rfl (Gk rfl (Gk rfl (Gk rfl (Gk rfl (Gk rfl (Gk rfl (Gk rfl (Gk rfl (Gk rfl (Gk rfl (Gk rfl (Gk rfl (Gk rfl (all_nil)))))))))))))))))))))))))))) (fun _ => rfl) rfl ?_
        intro y W6 hbW6 _
        have bx6 := bx5.ext hbW6
        have hbr6 := ag hbr5 hbW6
        clear hM5 hac ham
        go_wp2
        go_roundw
        case rel => exact ⟨1, by omega, by go_num, hbr6, bx6⟩
        case measure => simp [intOf]; omega
      · obtain ⟨q1, hq1⟩ : ∃ q1, q = q1 + 1 := ⟨q - 1, by omega⟩
        obtain ⟨d, hd, hlt, g1, g2, g3, g4⟩ := hprev.out q1 hq1
        have hq1l : q1 < H.ca.length := by omega
        obtain ⟨bc', oc', hac', hel'⟩ := fu jg (by decide) hM5.ca.rd q1 hq1l
        rw [hac] at hac'
        cases hac'
        have hdq : H.ca[q1] = d := by
          have := List.getElem?_eq_getElem hq1l
          rw [hd] at this
          exact (Option.some.inj this).symm
        rw [hdq] at hel'
        have hd0 : ∀ W, Below w5.heap.size w5 W → W.cell? ⟨bc, oc + q1 * 3, none⟩ = some (.int .i64 d.f) := fun W hb => by
          obtain ⟨b', o', e, hc⟩ := (hel'.below hb) 0 _ rfl
          cases e
          exact hc
        have hd1 : ∀ W, Below w5.heap.size w5 W → W.cell? ⟨bc, oc + q1 * 3 + 1, none⟩ = some (.int .i64 d.i) := fun W hb => by
          obtain ⟨b', o', e, hc⟩ := (hel'.below hb) 1 _ rfl
          cases e
          exact hc
        obtain ⟨e1, e2, e3, e4⟩ := hlt5.out
        have m0 : IntKind.i64.wrap ((q : Int) - 1) = (q1 : Int) := (IntWalk.i64_in _ (by omega)).trans (by omega)
        have m1 : IntKind.i64.wrap (100 * d.f) = 100 * d.f := (IntWalk.i64_in _ (by omega)).trans (by omega)
        have m2 : IntKind.i64.wrap (100 * d.f + d.i) = 100 * d.f + d.i := (IntWalk.i64_in _ (by omega)).trans (by omega)
        have m3 : IntKind.i64.wrap (100 * c.f) = 100 * c.f := (IntWalk.i64_in _ (by omega)).trans (by omega)
        have m4 : IntKind.i64.wrap (100 * c.f + c.i) = 100 * c.f + c.i := (IntWalk.i64_in _ (by omega)).trans (by omega)
        have m5 : ¬ 100 * c.f + c.i ≤ 100 * d.f + d.i := by unfold vE at hlt; omega
        refine aF 27 [_,_,_,_,_,_,_,_,_,_,_,_,_,_,_,_,_,_,_,_,_,_,_,_,_,_,.v (.bool false)] (Gk rfl (Gb (.bool true) (by simp [go_sem, hqp]) rfl rfl rfl rfl rfl (Gk rfl (Gf w.heap.size 9 rfl rfl (Gl bx5 (V := .slice (some ⟨bc, oc, none⟩) H.ca.length H.cc) (by simp [bP, hac]) rfl rfl rfl rfl (Gk rfl (Gb (.int .i64 (q1 : Int)) (by simp [go_sem, m0]) rfl rfl rfl rfl rfl (Gr (.pointer (some ⟨bc, oc + q1 * 3, none⟩)) (fun ρ y W hb hKn => (aT rfl (az rfl hKn) (az rfl hKn) hq1l Try.underlying37 cached_size)) rfl rfl (Gf bc (oc + q1 * 3) rfl rfl (Gc (.int .i64 d.f) (fun W hb => by simp [hd0 _ hb]) rfl rfl rfl rfl (Gb (.int .i64 (100 * d.f)) (by simp [go_sem, m1]) rfl rfl rfl rfl rfl (Gf w.heap.size 9 rfl rfl (Gl bx5 (V := .slice (some ⟨bc, oc, none⟩) H.ca.length H.cc) (by simp [bP, hac]) rfl rfl rfl rfl (Gk rfl (Gb (.int .i64 (q1 : Int)) (by simp [go_sem, m0]) rfl rfl rfl rfl rfl (Gr (.pointer (some ⟨bc, oc + q1 * 3, none⟩)) (fun ρ y W hb hKn => (aT rfl (az rfl hKn) (az rfl hKn) hq1l Try.underlying37 cached_size)) rfl rfl (Gf bc (oc + q1 * 3 + 1) rfl rfl (Gc (.int .i64 d.i) (fun W hb => by simp [hd1 _ hb]) rfl rfl rfl rfl (Gb (.int .i64 (100 * d.f + d.i)) (by simp [go_sem, m2]) rfl rfl rfl rfl rfl (Gf wr.heap.size 0 rfl rfl (Gl cx5 rfl rfl rfl rfl rfl (Gb (.int .i64 (100 * c.f)) (by simp [go_sem, m3]) rfl rfl rfl rfl rfl (Gf wr.heap.size 1 rfl rfl (Gl cx5 rfl rfl rfl rfl rfl (Gb (.int .i64 (100 * c.f + c.i)) (by simp [go_sem, m4]) rfl rfl rfl rfl rfl (Gb (.bool false) (by simp [go_sem, m5]) rfl rfl rfl rfl rfl (Gk rfl (all_nil)))))))))))))))))))))))))))) (fun _ => rfl) rfl ?_
        intro y W6 hbW6 _
        have bx6 := bx5.ext hbW6
        have hbr6 := ag hbr5 hbW6
        clear hM5 hac ham hd0 hd1 m0 m1 m2 m3 m4 m5 hel' hd hlt g1 g2 g3 g4 e1 e2 e3 e4 hdq hq1
        go_wp2
        go_roundw
        case rel => exact ⟨q + 1, by omega, by go_num, hbr6, bx6⟩
        case measure => simp [intOf]; omega
    · have hqi : ¬ (q : Int) < (H.ca.length : Int) := by omega
      have hc := bx.cell
      unfold bP at hc
      clear hM
      go_wp2
      go_loopw [134] (fun s134 wr => ∃ p : Nat, p ≤ H.sp.length ∧ s134 = .int .i64 p ∧ Below w.heap.size w wr ∧ aC wr w.heap.size (bP H) 40) (fun s134 _ => H.sp.length - (intOf s134).toNat)
      case atStart => exact ⟨0, Nat.zero_le _, rfl, hbr, bx⟩
      case round =>
        clear hbr bx hc hqi
        obtain ⟨p, hp, rfl, hbr, bx⟩ := hrel
        have hM := hh.out.below hbr
        by_cases hpl : p < H.sp.length
        · obtain ⟨bd, od, P, hda, hP, hrd⟩ := jY hM.sp.rd p hpl
          have hpi : (p : Int) < (H.sp.length : Int) := by omega
          have hgood := jm hM hP
          have hsP : P.sp ∈ H.ma.sp := by show P.sp ∈ H.sp.map PS.sp; exact List.mem_map.2 ⟨P, List.mem_of_getElem? hP, rfl⟩
          have hal : (aR P.ar).1 = 0 := hR'.out.pt.ar P.sp hsP
          have htb : Hid (bB P.tb = 0) := Lib.hid (hR'.out.pt.tb P.sp hsP)
          have hsp := Lib.hid (uL hP)
          obtain ⟨hal16, halE⟩ := jO hal
          have hon : Hid (∀ i : Nat, aY P.ar i = kC H.ma p i) := Lib.hid (fun i => by
            rw [iF (fZ (eD.1 hal).2)]
            unfold kC
            rw [hsp.out]; rfl)
          rw [hda]
          go_wp2_with (first | (refine ax _ _ rfl bd (od + p * 10) rfl rfl _ hrd _ Try.underlying65 rfl space_size ?_) | (refine aD rfl _ _ _ rfl (lu P) rfl rfl rfl space_size (by rw [← Array.all_toList, List.all_eq_true]; exact hgood.one) ?_))
          intro w6 hb6 px6
          have hbr6 := ag hbr hb6
          have bx6 := bx.ext hb6
          have hg6 := hgood.below hb6
          have hcp := px6.cell
          unfold lu at hcp
          clear hbr bx hb6 hrd hM hgood hal
          go_wp2_with fail
          refine (iQ P.ar P.aa P.ac _ hg6.ars.rd (by omega) halE).mono ?_
          rintro r w7 ⟨rfl, hb7⟩
          have hbr7 := ag hbr6 hb7
          have bx7 := bx6.ext hb7
          have px7 := px6.ext hb7
          have hg7 := hg6.below hb7
          clear hbr6 bx6 px6 hg6 hb7 hcp
          go_wp2_with (refine aD rfl _ _ _ rfl (fC (aY P.ar)) rfl rfl (by rw [eX]; rfl) (by rw [eX]; exact ones_size) (qi _) ?_)
          intro w8 hb8 ox8
          have hbr8 := ag hbr7 hb8
          have bx8 := bx7.ext hb8
          have px8 := px7.ext hb8
          have hg8 := hg7.below hb8
          clear hbr7 bx7 px7 hg7 hb8
          have hrt : bW w8 (some ⟨wr.heap.size, 2, none⟩) (jG P.ts).toList := bK px8 2 8
          go_wp2_with (refine ax _ _ rfl wr.heap.size 2 rfl rfl _ hrt _ Try.underlying63 tab_agg tab_size ?_)
          refine (qR P.tb (jG P.ts) _ hg8.tb htb.out).mono ?_
          rintro r w9 ⟨rfl, hb9⟩
          rw [wY (nE P.tb)]
          have hE : Hid (∀ n : Nat, n < 64 → (bu P.tb).getD n zEn = ent H.ma p n) := Lib.hid (fun n hn => by rw [Ev hn]; unfold ent; rw [hsp.out]; rfl)
          have hbr9 := ag hbr8 hb9
          have bx9 := bx8.ext hb9
          have ox9 := ox8.ext hb9
          generalize bu P.tb = l at *
          obtain ⟨go, hgo⟩ : ∃ go, w7.heap.size = go := ⟨_, rfl⟩
          rw [hgo] at ox9 ⊢
          clear hbr8 bx8 px8 hg8 hb9 hrt ox8 hgo
          go_wp2
          go_loopw [144] (fun s144 wr => ∃ i : Nat, i ≤ 64 ∧ s144 = .int .i64 i ∧ Below w.heap.size w wr ∧ aC wr w.heap.size (bP H) 40 ∧ aC wr go (fC (aY P.ar)) 107) (fun s144 _ => 64 - (intOf s144).toNat)
          case atStart => exact ⟨0, by omega, rfl, hbr9, bx9, ox9⟩
          case round =>
            clear hbr9 bx9 ox9
            obtain ⟨i, hi, rfl, hbr, bx, ox⟩ := hrel
            by_cases hil : i < 64
            · have hii : (i : Int) < 64 := by omega
              have hix0 := hE.out i hil
              generalize heE : ent H.ma p i = E at hix0
              have hix := tJ l i hil E hix0
              have heE' := Lib.hid heE
              clear heE hix0
              go_wp2_with (refine aD rfl _ _ _ rfl (fK E) rfl rfl rfl entry_size (by simp [fK, Value.oneCell']) ?_)
              intro wa hba ea
              have hbra := ag hbr hba
              have bxa := bx.ext hba
              have oxa := ox.ext hba
              clear hix hbr bx ox hba
              have hx := ea.cell
              unfold fK at hx
              by_cases hk0 : E.k = 0
              · rw [hk0] at hx
                clear hk0
                go_wp2
                go_roundw
                case rel => exact ⟨i + 1, by omega, by go_num, hbra, bxa, oxa⟩
                case measure => simp [intOf]; omega
              · obtain ⟨g, hg, hf⟩ := hR'.out.en p i (by rw [heE'.out]; exact hk0)
                rw [heE'.out] at hf
                have hent : cO E = 0 := by rw [← heE'.out]; unfold ent; rw [hsp.out]; exact jr htb.out i
                have hog : aY P.ar i = some g := (hon.out i).trans hg
                have hog' := Lib.hid hog
                have hfe := Lib.hid (And.intro hf (And.intro hk0 hent))
                clear hf hg hent hog
                go_upto_region 23 with (fail)
                refine aF 7 [_,_,_,_,_,.v (.int .i64 0),.v (.int .i64 0)] (Gr (.agg (bP H)) (fun ρ y W hb hKn => (bI rfl (az rfl hKn) (bxa.ext hb) Try.underlying40 rfl machine_size)) rfl rfl (Gk rfl (Gr (.pointer (some ⟨go, 0 + i * 6, none⟩)) (fun ρ y W hb hKn => (EW rfl (az rfl hKn) (az rfl hKn) hil Try.underlying107 one_size)) rfl rfl (Gr (.agg (iU (some g))) (fun ρ y W hb hKn => (bM rfl (az rfl hKn) (by rw [Nat.zero_add]; exact Jw (oxa.ext hb) hil hog'.out) Try.underlying106 rfl one_size)) rfl rfl (Gr (.agg (fK E)) (fun ρ y W hb hKn => (bI rfl (az rfl hKn) (ea.ext hb) Try.underlying67 rfl entry_size)) rfl rfl (all_cons ?_ (Gk rfl (all_nil)))))))) (fun _ => rfl) rfl ?_
                · intro ρ y W hw hn hb hd; have E151 := hw 151 0 rfl; have h0 : y 0 = _ := hd 0 rfl; have E154 := hw 154 3 rfl; have h3 : y 3 = _ := hd 3 rfl; have E155 := hw 155 4 rfl; have h4 : y 4 = _ := hd 4 rfl
                  have EF : ∀ f, ρ (.func f) = .func (.func f) #[] #[] := fun f => hn (.func f) trivial
                  refine aP _ _ (ah rfl) (aN rfl (EF _) Try.func46 (by kernel_rfl) (by kernel_rfl) (by simp only [List.map_toArray, List.map_cons, List.map_nil, E151, h0, E154, h3, E155, h4, EF]; rfl)) ?_
                  refine (CY H g E W (hh.out.below (ag hbra hb)) hR'.out hfe.out.1 hfe.out.2.1 hfe.out.2.2).mono ?_
                  rintro r wz ⟨rfl, hbz⟩
                  exact ⟨_, rfl, hbz, rfl⟩
                intro y wb hbwb _
                have hbrb := ag hbra hbwb
                have bxb := bxa.ext hbwb
                have oxb := oxa.ext hbwb
                clear hbra bxa oxa ea hx hbwb
                go_wp2
                go_roundw
                case rel => exact ⟨i + 1, by omega, by go_num, hbrb, bxb, oxb⟩
                case measure => simp [intOf]; omega
            · have hii : ¬ (i : Int) < 64 := by omega
              clear ox
              go_wp2
              go_roundw
              case rel => exact ⟨p + 1, by omega, by go_num, hbr, bx⟩
              case measure => simp [intOf]; omega
        · have hpi : ¬ (p : Int) < (H.sp.length : Int) := by omega
          have hc := bx.cell
          unfold bP at hc
          clear hM
          go_wp2
          go_loopw [166] (fun s166 wr => ∃ k : Nat, k ≤ H.m.fs.length ∧ s166 = .int .i64 k ∧ Below w.heap.size w wr ∧ aC wr w.heap.size (bP H) 40) (fun s166 _ => H.m.fs.length - (intOf s166).toNat)
          case atStart => exact ⟨0, Nat.zero_le _, rfl, hbr, bx⟩
          case round =>
            clear hbr bx hc hpi
            obtain ⟨k, hk, rfl, hbr, bx⟩ := hrel
            have hM := hh.out.below hbr
            by_cases hkl : k < H.m.fs.length
            · obtain ⟨bm, om, ham, hfm⟩ := fu eu (by decide) hM.fr.rd k hkl
              have hki : (k : Int) < (H.m.fs.length : Int) := by omega
              have hKe : dL H.ma k = H.m.fs[k] := by unfold dL; show H.m.fs.getD k fr0 = _; rw [List.getD_eq_getElem?_getD, List.getElem?_eq_getElem hkl]; rfl
              have hcf := hR'.out.cf k hkl
              have hfc := hR'.out.fc k hkl
              rw [hKe] at hcf hfc
              have hho : dw H.ma 1 k ≤ 256 := by
                have h9 := tX H.ma 1 k
                have e9 : H.ma.sp.length = H.sp.length := Dv H
                omega
              have hcaN : xW H.ma k ≤ H.ca.length := List.countP_le_length
              generalize H.m.fs[k] = X at *
              have hfc' := Lib.hid hfc
              have hcf' := Lib.hid hcf
              clear hKe hcf hfc
              rw [ham]
              go_wp2_with (first | (refine ax _ _ rfl bm (om + k * 13) rfl rfl _ hfm _ Try.underlying59 rfl frame_size ?_) | (refine aD rfl _ _ _ rfl (pK X) rfl rfl rfl frame_size (mi _) ?_))
              intro w6 hb6 fx6
              have hbr6 := ag hbr hb6
              have bx6 := bx.ext hb6
              have hM6 := hM.below hb6
              clear hbr bx hb6 hfm hM ham
              go_wp2_with (refine ax _ _ rfl w.heap.size 0 rfl rfl _ bx6.rd _ Try.underlying40 rfl machine_size ?_)
              refine (qj H 1 k _ hM6 hR'.out).mono ?_
              rintro r w7 ⟨rfl, hb7⟩
              have hbr7 := ag hbr6 hb7
              have bx7 := bx6.ext hb7
              have fx7 := fx6.ext hb7
              clear hbr6 bx6 hM6 fx6 hb7
              obtain ⟨gf, hgf⟩ : ∃ gf, wr.heap.size = gf := ⟨_, rfl⟩
              rw [hgf] at fx7 ⊢
              generalize hhN : dw H.ma 1 k = N at *
              have hhN' := Lib.hid hhN
              clear hgf hhN
              have hc := bx7.cell
              unfold bP at hc
              go_wp2
              go_loopw [177, 16] (fun s177 s16 wr => ∃ i m : Nat, i ≤ H.ca.length ∧ s177 = .int .i64 i ∧ s16 = .int .i64 m ∧ m ≤ i ∧ Below w.heap.size w wr ∧ aC wr w.heap.size (bP H) 40 ∧ aC wr gf (pK X) 59 ∧ Hid (m = (H.ca.take i).countP fun c => decide (c.k = (k : Int)))) (fun s177 _ _ => H.ca.length - (intOf s177).toNat)
              case atStart => exact ⟨0, 0, Nat.zero_le _, rfl, rfl, Nat.le_refl _, hbr7, bx7, fx7, Lib.hid (by simp)⟩
              case round =>
                clear hbr7 bx7 fx7 hc
                obtain ⟨i, m, hi, rfl, rfl, hm, hbr, bx, fx, hcm⟩ := hrel
                have hM := hh.out.below hbr
                by_cases hil : i < H.ca.length
                · obtain ⟨bc, oc, hac, hel⟩ := fu jg (by decide) hM.ca.rd i hil
                  have hii : (i : Int) < (H.ca.length : Int) := by omega
                  have hct : Hid ((H.ca.take (i + 1)).countP (fun c => decide (c.k = (k : Int))) = (H.ca.take i).countP (fun c => decide (c.k = (k : Int))) + if decide ((H.ca[i]).k = (k : Int)) = true then 1 else 0) := Lib.hid (rQ _ _ _ hil)
                  generalize H.ca[i] = c at *
                  rw [hac]
                  go_wp2_with (first | (refine ax _ _ rfl bc (oc + i * 3) rfl rfl _ hel _ Try.underlying85 rfl cached_size ?_) | (refine aD rfl _ _ _ rfl (qN c) rfl rfl rfl cached_size (lU _) ?_))
                  intro w8 hb8 cx8
                  have hbr8 := ag hbr hb8
                  have bx8 := bx.ext hb8
                  have fx8 := fx.ext hb8
                  have hcc := cx8.cell
                  unfold qN at hcc
                  clear hbr bx fx hb8 hel hM cx8 hac
                  by_cases hck : c.k = (k : Int)
                  · have hcm' : Hid (m + 1 = (H.ca.take (i + 1)).countP fun c => decide (c.k = (k : Int))) := Lib.hid (by rw [hct.out, ← hcm.out]; simp [hck])
                    clear hcm hct
                    go_wp2
                    go_roundw
                    case rel => exact ⟨i + 1, m + 1, by omega, by go_num, by go_num, by omega, hbr8, bx8, fx8, hcm'⟩
                    case measure => simp [intOf]; omega
                  · have hcm' : Hid (m = (H.ca.take (i + 1)).countP fun c => decide (c.k = (k : Int))) := Lib.hid (by rw [hct.out, ← hcm.out]; simp [hck])
                    clear hcm hct
                    go_wp2
                    go_roundw
                    case rel => exact ⟨i + 1, m, by omega, by go_num, rfl, by omega, hbr8, bx8, fx8, hcm'⟩
                    case measure => simp [intOf]; omega
                · have hii : ¬ (i : Int) < (H.ca.length : Int) := by omega
                  have hm' : m = xW H.ma k := by
                    rw [hcm.out, List.take_of_length_le (by omega)]; rfl
                  have hXr : X.r = (m : Int) + (N : Int) := by rw [hcf'.out, hm']
                  have hXf : 0 ≤ X.f → ¬ m = 0 := fun h0 e => by
                    obtain ⟨c, hc, hck⟩ := hfc'.out h0
                    have h9 : 0 < xW H.ma k := List.countP_pos_iff.2 ⟨c, hc, by simp [hck]⟩
                    omega
                  have hsum : (N : Int) + (m : Int) = X.r := by omega
                  have hfx := fx.cell
                  unfold pK at hfx
                  have hwr : IntKind.i64.wrap ((N : Int) + (m : Int)) = X.r := (IntWalk.i64_in _ (by omega)).trans hsum
                  clear hcm hM hm' hXr hsum hcaN
                  by_cases h0 : 0 ≤ X.f
                  · have hm0 : ¬ (m : Int) = 0 := by have := hXf h0; omega
                    clear hXf
                    go_wp2
                    go_roundw
                    case rel => exact ⟨k + 1, by omega, by go_num, hbr, bx⟩
                    case measure => simp [intOf]; omega
                  · clear hXf
                    go_wp2
                    go_roundw
                    case rel => exact ⟨k + 1, by omega, by go_num, hbr, bx⟩
                    case measure => simp [intOf]; omega
            · have hki : ¬ (k : Int) < (H.m.fs.length : Int) := by omega
              have hc := bx.cell
              unfold bP at hc
              clear hM
              go_wp2
              go_loopw [207] (fun s207 wr => ∃ k : Nat, k ≤ H.sl.length ∧ s207 = .int .i64 k ∧ Below w.heap.size w wr ∧ aC wr w.heap.size (bP H) 40) (fun s207 _ => H.sl.length - (intOf s207).toNat)
              case atStart => exact ⟨0, Nat.zero_le _, rfl, hbr, bx⟩
              case round =>
                clear hbr bx hc hki
                obtain ⟨k, hk, rfl, hbr, bx⟩ := hrel
                have hM := hh.out.below hbr
                by_cases hkl : k < H.sl.length
                · have hki : (k : Int) < (H.sl.length : Int) := by omega
                  obtain ⟨bl, ol, hal, hcj⟩ := hM.sl.rd k (eU H.sl[k]) (by rw [List.getElem?_map, List.getElem?_eq_getElem hkl]; rfl)
                  unfold eU at hcj
                  have hcs := hR'.out.cs k hkl
                  have hse : kL H.ma k = H.sl[k] := by unfold kL; show H.sl.getD k 0 = _; rw [List.getD_eq_getElem?_getD, List.getElem?_eq_getElem hkl]; rfl
                  rw [hse] at hcs
                  rw [hcs] at hcj
                  rw [hal]
                  clear hcs hse
                  go_wp2_with (refine ax _ _ rfl w.heap.size 0 rfl rfl _ bx.rd _ Try.underlying40 rfl machine_size ?_)
                  refine (qj H 2 k _ hM hR'.out).mono ?_
                  rintro r w7 ⟨rfl, hb7⟩
                  have hbr7 := ag hbr hb7
                  have bx7 := bx.ext hb7
                  clear hbr bx hM hb7 hcj hal
                  go_wp2
                  go_roundw
                  case rel => exact ⟨k + 1, by omega, by go_num, hbr7, bx7⟩
                  case measure => simp [intOf]; omega
                · have hki : ¬ (k : Int) < (H.sl.length : Int) := by omega
                  clear hM
                  go_wp2
                  go_ret
                  exact ⟨rfl, hbr⟩
theorem Jl {w:World} {b:Nat} {vs:List Value} {cs:Array Value} {T:TypeId} (m:World→Prop) (hb:aC (w.setCells b 0 vs) b cs T) (h:∀W,w.grownBy W (some b)→aC W b cs T→m W):m (w.setCells b 0 vs).drew:=by
 have h1:=aJ w b 0 vs
 generalize w.setCells b 0 vs=W0 at *
 exact h _ ⟨h1.os,h1.tape,h1.output,h1.size,h1.block⟩ hb
theorem JA {w:World} {b:Nat} {p:Page} {cur:Array Value} {T:TypeId} (m:World→Prop) (hb:aC w b cur T) (hs:(dF p).size=cur.size) (h:∀W,w.grownBy W (some b)→aC W b (dF p) T→m W):m (w.setCells b 0 (dF p).toList).drew:=
 Jl m (by
  have h2:=hb.setCells (dF p).toList 0
  rw[iA cur (dF p) hs] at h2
  exact h2) h
theorem CS (H:MH) (p n:Nat) (w:World) (h:sV w H) (hR:Rt H.ma) (hp:p<H.sp.length) (hn:n<64) :
  Calls Try.prog 66 #[.agg (bP H),.int .i64 p,.int .i64 n] w fun r w'=>r = .returned (.tuple #[.agg (dF (mf H.ma p n).1),.bool (mf H.ma p n).2.1,.int .i64 (mf H.ma p n).2.2])∧Below w.heap.size w w':=by
 have hh:=Lib.hid h
 have hR':=Lib.hid hR
 clear hR
 go_enter Try.func66,Try.ntmps66
 go_upto_region 1 with (fail)
 refine pz (fun W=>Code.wp _ _ _ _ W) fun w1 hb1 bx1 px1 hs1 => ?_
 have bx1:aC w1 w.heap.size (bP H) 40:=bx1
 have h1:=h.below hb1
 clear h hs1
 have hpi:(p:Int)<(H.sp.length:Int):=by omega
 obtain⟨bs,os,P,hap,hP,hrd⟩:=jY h1.sp.rd p hp
 have hgood:=jm h1 hP
 have hsP:P.sp∈H.ma.sp:=by show P.sp∈H.sp.map PS.sp;exact List.mem_map.2 ⟨P,List.mem_of_getElem? hP,rfl⟩
 have hal:(aR P.ar).1=0:=hR'.out.pt.ar P.sp hsP
 have htb:Hid (bB P.tb=0):=Lib.hid (hR'.out.pt.tb P.sp hsP)
 have hsp:=Lib.hid (uL hP)
 have hs1:w1.cell? ⟨bs,os+p*10+1,none⟩=some (.slice P.aa P.ar.length P.ac):=by
  obtain⟨b',o',e,hc⟩:=hrd 1 _ rfl
  cases e
  exact hc
 have hc:=bx1.cell
 unfold bP at hc
 rw[hap] at hc
 obtain⟨hal16,halE⟩:=jO hal
 go_wp2_with fail
 refine (iQ P.ar P.aa P.ac _ hgood.ars.rd (by omega) halE).mono ?_
 rintro r w2 ⟨rfl,hb2⟩
 have hbr2:=ag hb1 hb2
 have bx2:=bx1.ext hb2
 have px2:=px1.ext hb2
 have hrd2:=hrd.below hb2
 have hg2:=hgood.below hb2
 clear hc hs1 hb1 bx1 px1 hb2 hrd hgood h1 hal16
 have hon:aY P.ar n=kC H.ma p n:=by
  rw[iF (fZ (eD.1 hal).2)]
  unfold kC
  rw[hsp.out];rfl
 generalize hog:kC H.ma p n=o at hon
 have hix:=nI (aY P.ar) n hn o hon
 have hog':=Lib.hid hog
 clear hog hon hal halE
 go_wp2_with (refine aD rfl _ _ _ rfl (iU o) rfl rfl rfl one_size (zN o) ?_)
 intro w3 hb3 ox3
 have hbr3:=ag hbr2 hb3
 have bx3:=bx2.ext hb3
 have px3:=px2.ext hb3
 have hrd3:=hrd2.below hb3
 have hg3:=hg2.below hb3
 clear hix hbr2 bx2 px2 hb3 hrd2 hg2
 cases o with
 | none=>
  have hsee:Hid (mf H.ma p n=(zPg,false,5)):=Lib.hid (by unfold mf;rw[hog'.out])
  have ho:=ox3.cell
  have ho0:(iU none)[0]?=some (.bool false):=rfl
  have hbr9:=hbr3
  have px9:=px3
  go_wp2_with (refine aB rfl _ _ _ rfl (w.heap.size+1) (dF zPg) rfl rfl _ _ px9 rfl psize (dD _) ?_)
  intro we pxe hge
  have hbre:=hbr9.grown hge hbr9.size (fun k hk=>by cases hk;omega)
  go_wp2
  refine bodyPost_ret (v:=.tuple #[.agg (dF zPg),.bool false,.int .i64 5]) (fG Try.results66 _ _ (w.heap.size+1) _ _ _ _ _ rfl rfl rfl pxe Try.underlying50 rfl psize) rfl ?_
  rw[hsee.out]
  exact⟨rfl,hbre⟩
 | some g=>
  have ox3:aC w3 w2.heap.size #[.bool true,.bool g.rd,.bool g.wr,.bool g.sh,.int .i64 g.fi,.int .i64 g.pg] 106:=ox3
  have ho:=ox3.cell
  have hrt:=pY hrd3 2 8
  have hc:=bx3.cell
  unfold bP at hc
  rw[hap] at hc
  go_wp2_with (refine ax _ _ rfl bs (os+p*10+2) rfl rfl _ hrt _ Try.underlying63 tab_agg tab_size ?_)
  refine (qR P.tb (jG P.ts) _ hg3.tb htb.out).mono ?_
  rintro r w4 ⟨rfl,hb4⟩
  rw[wY (nE P.tb)]
  have hE:(bu P.tb).getD n zEn=ent H.ma p n:=by rw[Ev hn];unfold ent;rw[hsp.out];rfl
  generalize heE:ent H.ma p n=E at hE
  have hix:=tJ (bu P.tb) n hn E hE
  have heE':=Lib.hid heE
  clear heE hE hc ho hrt hrd3 hg3
  have hbr4:=ag hbr3 hb4
  have bx4:=bx3.ext hb4
  have px4:=px3.ext hb4
  have ox4:=ox3.ext hb4
  clear hbr3 bx3 px3 hb4 ox3 hap
  go_wp2_with (refine aD rfl _ _ _ rfl (fK E) rfl rfl rfl entry_size (by simp[fK,Value.oneCell']) ?_)
  intro w5 hb5 ex5
  have hbr5:=ag hbr4 hb5
  have bx5:=bx4.ext hb5
  have px5:=px4.ext hb5
  have ox5:=ox4.ext hb5
  clear hix hbr4 bx4 px4 ox4 hb5
  have ho:=ox5.cell
  have hx:=ex5.cell
  unfold fK at hx
  have hfit:Hid (E.k≠0→Ex H.ma g E):=Lib.hid (fun hk=>by
   obtain⟨g',hg',hf⟩:=hR'.out.en p n (by rw[heE'.out];exact hk)
   rw[hog'.out] at hg'
   cases hg'
   rw[heE'.out] at hf
   exact hf)
  have hM5:=hh.out.below hbr5
  have hent:Hid (cO E=0):=Lib.hid (by rw[←heE'.out];unfold ent;rw[hsp.out];exact jr htb.out n)
  by_cases k1:E.k=1
  ·have hfE:=hfit.out (by omega)
   have q1:E.n<(H.m.fs.length:Int):=hfE.lt k1
   have q0:0≤E.n:=by have:=(bF _).1 hent.out;omega
   obtain⟨F,hF⟩:∃F:Nat,E.n=F:=⟨E.n.toNat,by omega⟩
   have hFl:F<H.m.fs.length:=by omega
   obtain⟨bf,of,haf,hel⟩:=fu eu (by decide) hM5.fr.rd F hFl
   have hFe:mO H.ma E.n=H.m.fs[F]:=by rw[hF,tZ];unfold dL;show H.m.fs.getD F fr0=_;rw[List.getD_eq_getElem?_getD,List.getElem?_eq_getElem hFl];rfl
   have hsee0:Hid (mf H.ma p n=((H.m.fs[F]).p,decide ((H.m.fs[F]).f<0),0)):=Lib.hid (by
    unfold mf
    rw[hog'.out]
    dsimp only
    rw[heE'.out,if_pos k1,hFe])
   generalize H.m.fs[F]=X at *
   have hc:=bx5.cell
   unfold bP at hc
   rw[haf] at hc
   rw[k1,hF] at hx
   have hFi:(F:Int)<(H.m.fs.length:Int):=by omega
   clear hFe hfE q1 q0 ho ox5 k1 hF
   go_wp2_with (first | (refine ax _ _ rfl bf (of+F*13) rfl rfl _ hel _ Try.underlying59 rfl frame_size ?_) | (refine aD rfl _ _ _ rfl (pK X) rfl rfl rfl frame_size (mi _) ?_))
   intro w6 hb6 fx6
   have hbr6:=ag hbr5 hb6
   have px5l:=Lib.hid px5.lt
   have px6:=px5.ext hb6
   clear hbr5 px5 bx5 hb6 hel hc hM5 hx ex5
   go_upto_region 9 with (fail)
   have hfx:=fx6.cell
   unfold pK at hfx
   have hpx:=px6.cell
   have hne:w.heap.size+1≠w5.heap.size:=by have:=px5l.out;omega
   have hne' : w5.heap.size≠w.heap.size+1:=fun e=>hne e.symm
   have hfr:=px6.free
   go_region
   all_goals (refine JA (p:=X.p) (b:=w.heap.size+1) (fun W=>Exit.then _ _ _ _ W) px6 rfl fun we hge pxe => ?_)
   all_goals clear hfx hpx hne hne' hfr fx6 px6
   all_goals (have hbre:=hbr6.grown hge hbr6.size (fun k hk=>by cases hk;omega))
   all_goals go_wp2
   all_goals (refine bodyPost_ret (v:=.tuple #[.agg (dF X.p),.bool (decide (X.f<0)),.int .i64 0]) (fG Try.results66 _ _ (w.heap.size+1) _ _ _ _ _ rfl rfl rfl pxe Try.underlying50 rfl psize) rfl ?_)
   all_goals rw[hsee0.out]
   all_goals exact⟨rfl,hbre⟩
  by_cases k2:E.k=2
  ·have hfE:=hfit.out (by omega)
   obtain⟨q1,q2⟩:=hfE.sw k2
   have q0:0≤E.n:=by have:=(bF _).1 hent.out;omega
   have hwo:fB H.sw E.n=0:=yX.2 ⟨hR'.out.pt.sw,q0,by have:=hR'.out.pt.swl;have e:H.ma.sw.blocks.length=H.sw.blocks.length:=rfl;have e2:H.ma.sl.length=H.sl.length:=rfl;omega⟩
   have hsee:Hid (mf H.ma p n=(iN H.sw E.n,true,0)):=Lib.hid (by
    unfold mf
    rw[hog'.out]
    dsimp only
    rw[heE'.out,if_neg k1,if_pos k2,show fB H.ma.sw E.n=0 from hwo];rfl)
   rw[k2] at hx
   have r5:bW w5 (some ⟨w.heap.size,3,none⟩) [.slice H.wb H.sw.blocks.length H.cwb,.slice H.wq H.sw.queue.length H.cwq]:=bK bx5 3 2
   clear hfE q1 q2 q0 ho ox5 k1 k2
   go_wp2_with (refine ax _ _ rfl w.heap.size 3 rfl rfl _ r5 _ Try.underlying33 rfl disk_size ?_)
   refine (vR H.sw E.n H.wb H.cwb H.wq H.cwq _ hM5.sw).mono ?_
   rintro r w6 ⟨rfl,hb6⟩
   rw[hwo]
   have hbr6:=ag hbr5 hb6
   have px6:=px5.ext hb6
   clear hbr5 px5 bx5 hb6 r5 hM5 hx ex5 hwo
   go_wp2_with (refine aD rfl _ _ _ rfl (dF (iN H.sw E.n)) rfl rfl rfl psize (dD _) ?_)
   intro w7 hb7 gx7
   have hbr9:=ag hbr6 hb7
   have px9:=px6.ext hb7
   clear hbr6 px6 hb7
   go_wp2_with (first | (refine ax _ _ rfl w6.heap.size 0 rfl rfl _ gx7.rd _ Try.underlying50 rfl psize ?_) | (refine aB rfl _ _ _ rfl (w.heap.size+1) (dF (iN H.sw E.n)) rfl rfl _ _ px9 rfl psize (dD _) ?_))
   intro we pxe hge
   have hbre:=hbr9.grown hge hbr9.size (fun k hk=>by cases hk;omega)
   go_wp2
   refine bodyPost_ret (v:=.tuple #[.agg (dF (iN H.sw E.n)),.bool true,.int .i64 0]) (fG Try.results66 _ _ (w.heap.size+1) _ _ _ _ _ rfl rfl rfl pxe Try.underlying50 rfl psize) rfl ?_
   rw[hsee.out]
   exact⟨rfl,hbre⟩
  have k0:E.k=0:=by have:=(bF _).1 hent.out;omega
  have hsee0:Hid (mf H.ma p n=if g.fi<0 then (zPg,false,0) else if (H.ma.st.fs.length:Int)≤g.fi∨za H.ma.st g.fi g.pg=true then (zPg,false,9) else (dz H.ma g.fi g.pg,false,0)):=Lib.hid (by
   unfold mf
   rw[hog'.out]
   dsimp only
   rw[heE'.out,if_neg k1,if_neg k2])
  rw[k0] at hx
  clear hfit hent k1 k2 k0
  by_cases f0:g.fi<0
  ·have hsee:Hid (mf H.ma p n=(zPg,false,0)):=Lib.hid (by rw[hsee0.out,if_pos f0])
   have hbr9:=hbr5
   have px9:=px5
   clear hsee0
   go_wp2_with (refine aB rfl _ _ _ rfl (w.heap.size+1) (dF zPg) rfl rfl _ _ px9 rfl psize (dD _) ?_)
   intro we pxe hge
   have hbre:=hbr9.grown hge hbr9.size (fun k hk=>by cases hk;omega)
   go_wp2
   refine bodyPost_ret (v:=.tuple #[.agg (dF zPg),.bool false,.int .i64 0]) (fG Try.results66 _ _ (w.heap.size+1) _ _ _ _ _ rfl rfl rfl pxe Try.underlying50 rfl psize) rfl ?_
   rw[hsee.out]
   exact⟨rfl,hbre⟩
  have hpg:=Lib.hid (hR'.out.pt.pg hog'.out)
  have hfil:Hid (H.ma.st.fs.length=H.fi.length):=Lib.hid (List.length_map _)
  go_upto_region 15 with (fail)
  by_cases f1:(H.fi.length:Int)≤g.fi
  ·have hsee:Hid (mf H.ma p n=(zPg,false,9)):=Lib.hid (by rw[hsee0.out,if_neg f0,if_pos (.inl (by have:=hfil.out;omega))])
   refine aF 21 [_,_,_,_,_,_,_,_,_,_,_,_,_,_,_,_,_,_,_,_,.v (.bool true)] (Gf w2.heap.size 4 rfl rfl (Gl ox5 rfl rfl rfl rfl rfl (Gf w.heap.size 7 rfl rfl (Gf w.heap.size 7 rfl rfl (Gl bx5 rfl rfl rfl rfl rfl (Gn rfl rfl rfl rfl (Gb (.bool true) (by simp[go_sem,f1]) rfl rfl rfl rfl rfl (Gk rfl (Gk rfl (Gk rfl (Gk rfl (Gk rfl (Gk rfl (Gk rfl (Gk rfl (Gk rfl (Gk rfl (Gk rfl (Gk rfl (Gk rfl (Gk rfl (all_nil)))))))))))))))))))))) (fun _=>rfl) rfl ?_
   intro y W8 hbW8 _
   have hbr9:=ag hbr5 hbW8
   have px9:=px5.ext hbW8
   clear hsee0 hpg hfil
   go_wp2_with (refine aB rfl _ _ _ rfl (w.heap.size+1) (dF zPg) rfl rfl _ _ px9 rfl psize (dD _) ?_)
   intro we pxe hge
   have hbre:=hbr9.grown hge hbr9.size (fun k hk=>by cases hk;omega)
   go_wp2
   refine bodyPost_ret (v:=.tuple #[.agg (dF zPg),.bool false,.int .i64 9]) (fG Try.results66 _ _ (w.heap.size+1) _ _ _ _ _ rfl rfl rfl pxe Try.underlying50 rfl psize) rfl ?_
   rw[hsee.out]
   exact⟨rfl,hbre⟩
  obtain⟨F,hF⟩:∃F:Nat,g.fi=F:=⟨g.fi.toNat,by omega⟩
  have hFl:F<H.fi.length:=by omega
  obtain⟨bf,of,hai,hfl⟩:=fu ib (by decide) hM5.st.rd F hFl
  have hPl:Hid (fileAt H.ma.st g.fi=(H.fi[F]).fi):=Lib.hid (by
   rw[hF]
   exact jf (by show (H.fi.map PF.fi)[F]?=_;rw[List.getElem?_map,List.getElem?_eq_getElem hFl];rfl))
  generalize H.fi[F]=Q at *
  have hcs:∀W,Below w5.heap.size w5 W→W.cell? ⟨bf,of+F*2+1,none⟩=some (.slice Q.a Q.l.length Q.c):=fun W hb=>by
   obtain⟨b',o',e,hc⟩:=(hfl.below hb) 1 _ rfl
   cases e
   exact hc
  have hlen:Hid ((fileAt H.ma.st g.fi).b.length=Q.l.length):=Lib.hid (by rw[hPl.out];rfl)
  have hFh:=Lib.hid hF
  clear hF
  by_cases f2:(Q.l.length:Int)≤g.pg
  ·have hsee:Hid (mf H.ma p n=(zPg,false,9)):=Lib.hid (by
    rw[hsee0.out,if_neg f0]
    by_cases hin:(H.ma.st.fs.length:Int)≤g.fi∨za H.ma.st g.fi g.pg=true
    ·rw[if_pos hin]
    ·have h9:=GU hR'.out.pt.st (by omega) hpg.out.1 hin
     have:=h9.2.2
     have:=hlen.out
     omega)
   refine aF 21 [_,_,_,_,_,_,_,_,_,_,_,_,_,_,_,_,_,_,_,_,.v (.bool true)] (Gf w2.heap.size 4 rfl rfl (Gl ox5 rfl rfl rfl rfl rfl (Gf w.heap.size 7 rfl rfl (Gf w.heap.size 7 rfl rfl (Gl bx5 rfl rfl rfl rfl rfl (Gn rfl rfl rfl rfl (Gb (.bool false) (by simp[go_sem,f1]) rfl rfl rfl rfl rfl (Gk rfl (Gf w2.heap.size 5 rfl rfl (Gl ox5 rfl rfl rfl rfl rfl (Gf w.heap.size 7 rfl rfl (Gf w.heap.size 7 rfl rfl (Gl bx5 (V:=.slice (some ⟨bf,of,none⟩) H.fi.length H.ci) (by simp[bP,hai]) rfl rfl rfl rfl (Gf w2.heap.size 4 rfl rfl (Gl ox5 (V:=.int .i64 (F:Int)) (by simp[hFh.out]) rfl rfl rfl rfl (Gr (.pointer (some ⟨bf,of+F*2,none⟩)) (fun ρ y W hb hKn=>(aT rfl (az rfl hKn) (az rfl hKn) hFl Try.underlying34 file_size)) rfl rfl (Gf bf (of+F*2+1) rfl rfl (Gc (.slice Q.a Q.l.length Q.c) (fun W hb=>by simp[hcs _ hb]) rfl rfl rfl rfl (Gn rfl rfl rfl rfl (Gb (.bool true) (by simp[go_sem,f2]) rfl rfl rfl rfl rfl (Gk rfl (all_nil)))))))))))))))))))))) (fun _=>rfl) rfl ?_
   intro y W8 hbW8 _
   have hbr9:=ag hbr5 hbW8
   have px9:=px5.ext hbW8
   clear hsee0 hpg hfil hcs
   go_wp2_with (refine aB rfl _ _ _ rfl (w.heap.size+1) (dF zPg) rfl rfl _ _ px9 rfl psize (dD _) ?_)
   intro we pxe hge
   have hbre:=hbr9.grown hge hbr9.size (fun k hk=>by cases hk;omega)
   go_wp2
   refine bodyPost_ret (v:=.tuple #[.agg (dF zPg),.bool false,.int .i64 9]) (fG Try.results66 _ _ (w.heap.size+1) _ _ _ _ _ rfl rfl rfl pxe Try.underlying50 rfl psize) rfl ?_
   rw[hsee.out]
   exact⟨rfl,hbre⟩
  ·have hin0:GN H.ma.st g.fi g.pg:=⟨⟨by omega,by have:=hfil.out;omega⟩,hpg.out.1,by have:=hlen.out;omega⟩
   have hin:=Lib.hid hin0
   clear hin0
   have hsee:Hid (mf H.ma p n=(dz H.ma g.fi g.pg,false,0)):=Lib.hid (by
    rw[hsee0.out,if_neg f0,if_neg (AZ hR'.out.pt.st hin.out)])
   refine aF 21 [_,_,_,_,_,_,_,_,_,_,_,_,_,_,_,_,_,_,_,_,.v (.bool false)] (Gf w2.heap.size 4 rfl rfl (Gl ox5 rfl rfl rfl rfl rfl (Gf w.heap.size 7 rfl rfl (Gf w.heap.size 7 rfl rfl (Gl bx5 rfl rfl rfl rfl rfl (Gn rfl rfl rfl rfl (Gb (.bool false) (by simp[go_sem,f1]) rfl rfl rfl rfl rfl (Gk rfl (Gf w2.heap.size 5 rfl rfl (Gl ox5 rfl rfl rfl rfl rfl (Gf w.heap.size 7 rfl rfl (Gf w.heap.size 7 rfl rfl (Gl bx5 (V:=.slice (some ⟨bf,of,none⟩) H.fi.length H.ci) (by simp[bP,hai]) rfl rfl rfl rfl (Gf w2.heap.size 4 rfl rfl (Gl ox5 (V:=.int .i64 (F:Int)) (by simp[hFh.out]) rfl rfl rfl rfl (Gr (.pointer (some ⟨bf,of+F*2,none⟩)) (fun ρ y W hb hKn=>(aT rfl (az rfl hKn) (az rfl hKn) hFl Try.underlying34 file_size)) rfl rfl (Gf bf (of+F*2+1) rfl rfl (Gc (.slice Q.a Q.l.length Q.c) (fun W hb=>by simp[hcs _ hb]) rfl rfl rfl rfl (Gn rfl rfl rfl rfl (Gb (.bool false) (by simp[go_sem,f2]) rfl rfl rfl rfl rfl (Gk rfl (all_nil)))))))))))))))))))))) (fun _=>rfl) rfl ?_
   intro y W8 hbW8 _
   have hbr8:=ag hbr5 hbW8
   have px8:=px5.ext hbW8
   have bx8:=bx5.ext hbW8
   have hM8:=hM5.below hbW8
   have ho:=(ox5.ext hbW8).cell
   clear hsee0 hcs hbr5 px5 bx5 hM5 ox5 hbW8 hfl
   go_wp2_with (refine ax _ _ rfl w.heap.size 0 rfl rfl _ bx8.rd _ Try.underlying40 rfl machine_size ?_)
   refine (lK H g.fi g.pg _ hM8 ⟨(mI hR'.out).ca,fun f hf=>Nat.le_trans (lC hR'.out.pt.st f hf) (by decide)⟩ hR'.out.ca.lt ⟨by omega,by omega⟩ hin.out.2).mono ?_
   rintro r w9 ⟨rfl,hb9⟩
   have hbr9:=ag hbr8 hb9
   have px9:=px8.ext hb9
   clear hbr8 px8 bx8 hM8 ho hb9
   go_wp2_with (refine aB rfl _ _ _ rfl (w.heap.size+1) (dF (dz H.ma g.fi g.pg)) rfl rfl _ _ px9 rfl psize (dD _) ?_)
   intro we pxe hge
   have hbre:=hbr9.grown hge hbr9.size (fun k hk=>by cases hk;omega)
   go_wp2
   refine bodyPost_ret (v:=.tuple #[.agg (dF (dz H.ma g.fi g.pg)),.bool false,.int .i64 0]) (fG Try.results66 _ _ (w.heap.size+1) _ _ _ _ _ rfl rfl rfl pxe Try.underlying50 rfl psize) rfl ?_
   rw[hsee.out]
   exact⟨rfl,hbre⟩
def BV (m:Ma) (f:Int) (j:Nat):Value:=(dF (dz m f (j / 8:Nat))).getD (j%8) (.int .u8 0)
def mJ (m:Ma) (f:Int) (n:Nat):List Value:=(List.range n).map (BV m f)
theorem zi (m:Ma) (f:Int) (n:Nat):mJ m f (n+1)=mJ m f n++[BV m f n]:=by
 unfold mJ
 rw[List.range_succ,List.map_append];rfl
theorem nD {w:World} {b:Nat} {cs cs' : Array Value} {T T' : TypeId} (h:aC w b cs T) (hk:aC w b cs' T') (hT:T'≠T):False:=by
 unfold aC at h hk
 rw[hk] at h
 simp at h
 exact hT h.2
theorem u8_size:(Try.prog.info? 5).map (·.size)=some 1:=by kernel_rfl
theorem xe (X:Page) (q:Nat) (hq:q<8) (w:World):(Instr.index 50 (.agg (dF X)) (.int .i64 q)).run Try.prog w = .ok (.int .u8 X[q].toNat) w:=by
 have hg:=sS X q hq
 have ha:¬((q:Int)<0∨(8:Int)≤q):=by omega
 have hs:∃i,Try.prog.info? 5=some i∧i.size=1:=by
  have:=u8_size
  cases h:Try.prog.info? 5 with
  | none=>rw[h] at this;simp at this
  | some i=>rw[h] at this;exact⟨i,rfl,by simpa using this⟩
 obtain⟨i,hi,hs⟩:=hs
 simp[Instr.index,part,asIntOf,run_underlying Try.underlying50,run_underlying Try.underlying5,Go.sizeOf,typeInfo,hi,hs,ha,go_sem,hg,hq]
theorem AJ (H:MH) (f:Nat) (w:World) (h:sV w H) (hR:Rt H.ma) (hz:H.ca.length≤1000∧∀f∈H.ma.st.fs,f.b.length≤1000) (hck:∀c∈H.ca,0≤c.k∧c.k<H.m.fs.length) (hf:f<H.fi.length) (hsz:0≤(fileAt H.ma.st f).n∧(fileAt H.ma.st f).n≤(fileAt H.ma.st f).b.length*8) :
  Calls Try.prog 15 #[.agg (bP H),.int .i64 f] w fun r w' => ∃(v:Value),r = .returned (.tuple #[v,.int .i64 0])∧Own w' w.heap.size 5 1 v (fileAt H.ma.st f).n.toNat (mJ H.ma f (fileAt H.ma.st f).n.toNat)∧Below w.heap.size w w':=by
 have hR':=Lib.hid hR
 clear hR
 go_enter Try.func15,Try.ntmps15
 go_upto_region 1 with (fail)
 refine eO (fun W=>Code.wp _ _ _ _ W) fun w1 hb1 bx1 hs1 => ?_
 have bx1:aC w1 w.heap.size (bP H) 40:=bx1
 have h1:=h.below hb1
 clear hs1
 go_wp2_with (refine ax _ _ rfl w.heap.size 0 rfl rfl _ bx1.rd _ Try.underlying40 rfl machine_size ?_)
 refine (AP H _ h1 hR'.out).mono ?_
 rintro r w2 ⟨rfl,hb2⟩
 have bx2:=bx1.ext hb2
 have hbr2:=ag hb1 hb2
 have hc:=bx2.cell
 unfold bP at hc
 have hki:(f:Int)<(H.fi.length:Int):=by omega
 have hk0:¬(f:Int)<0:=by omega
 have hk1:¬(H.fi.length:Int)≤(f:Int):=by omega
 obtain⟨bf,of,hai,hrd⟩:=fu ib (by decide) h.st.rd f hf
 obtain⟨p,hp⟩:∃p,H.fi[f]?=some p:=⟨_,List.getElem?_eq_getElem hf⟩
 rw[show H.fi[f]=p from (List.getElem?_eq_some_iff.1 hp).2] at hrd
 have hfa:fileAt H.ma.st (f:Int)=p.fi:=by
  unfold fileAt
  rw[if_pos (by omega)]
  show (H.fi.map PF.fi).getD f ⟨0,[]⟩=p.fi
  rw[List.getD_eq_getElem?_getD,List.getElem?_map,hp];rfl
 have hpz:p.l.length≤1000:=hz.2 p.fi (List.mem_map.2 ⟨p,List.mem_of_getElem? hp,rfl⟩)
 rw[hfa] at hsz
 have hs0:0≤p.n:=hsz.1
 have hs1:p.n≤p.l.length*8:=hsz.2
 have hfn:(fileAt H.ma.st f).n=p.n:=by rw[hfa];rfl
 have hfl:(fileAt H.ma.st f).b.length=p.l.length:=by rw[hfa];rfl
 clear hsz hfa
 clear h1 bx1 hb1 hb2
 go_upto_region 8 with (fail)
 clear hc
 go_loopw [8,7] (fun i u wr => ∃k:Nat,(k:Int)≤p.n∧i = .int .i64 k∧Below w.heap.size w wr∧aC wr w.heap.size (bP H) 40∧Own wr w.heap.size 5 1 u k (mJ H.ma f k)) (fun i _ _=>p.n.toNat-(intOf i).toNat)
 case atStart=>exact⟨0,by omega,rfl,hbr2,bx2,Own.nil _ _ _ _⟩
 case round=>
  clear hbr2 bx2
  obtain⟨k,hk,rfl,hbr,bx,hown⟩:=hrel
  have hcx:=bx.cell
  unfold bP at hcx
  rw[hai] at hcx
  have hrd1:=hrd.below hbr
  have rc0:wr.cell? ⟨bf,of+f*2,none⟩=some (.int .i64 p.n):=by
   obtain⟨b',o',e,hcc⟩:=hrd1 0 _ rfl
   cases e
   exact hcc
  by_cases hkn:(k:Int)<p.n
  ·have hk8:(k:Int) / 8<((fileAt H.ma.st (f:Int)).b.length:Int):=by rw[hfl];omega
   go_wp2_with (refine ax _ _ rfl w.heap.size 0 rfl rfl _ bx.rd _ Try.underlying40 rfl machine_size ?_)
   refine (lK H f ((k:Int) / 8) _ (h.below hbr) hz hck ⟨by omega,hki⟩ ⟨by omega,hk8⟩).mono ?_
   rintro r w3 ⟨rfl,hb3⟩
   have hbr3:=ag hbr hb3
   have bx3:=bx.ext hb3
   have hown3:=hown.below hb3
   obtain⟨X,hX⟩:∃X,X=dz H.ma f ((k:Int) / 8):=⟨_,rfl⟩
   rw[←hX]
   obtain⟨q,hq⟩:∃q,k%8=q:=⟨_,rfl⟩
   have h78:q<8:=by omega
   have hg:=sS X q h78
   have hv:Hid (BV H.ma f k = .int .u8 X[q].toNat):=Lib.hid (by
    unfold BV
    rw[show ((k / 8:Nat):Int)=(k:Int) / 8 from by omega,←hX,hq]
    simp[Array.getD_eq_getD_getElem?,hg])
   have e78:((k:Int)%8)=(q:Int):=by omega
   have hk1000:k+1≤8000:=by omega
   clear hX hcx rc0 hq hk8
   go_wp2_with fail
   rw[e78]
   have hix:=xe X q h78
   go_wp2_with fail
   rw[hix]
   go_wp2_with (first | (at_builtin;refine eG rfl _ _ 24 rfl w.heap.size 5 _ 1 1 Try.underlying24 byte_info rfl (by decide) _ k (mJ H.ma f k) rfl (hown3.alloc _) (some ⟨w3.heap.size,0,none⟩) 1 1 [.int .u8 X[q].toNat] rfl (fun h=>(by cases h)) (Nat.le_refl _) rfl (bW.new _ #[.int .u8 X[q].toNat] _) (fun u hu=>by simp at hu;subst hu;rfl) (by unfold maxLen;omega) (by omega) (by have:=hbr3.size;simp;omega) ?_))
   intro v w5 hown5 hg5 hso
   have hbr5:Below w.heap.size w w5:=(hbr3.alloc hbr3.size _).grown hg5 (cz hbr3.size _) (hown3.alloc (.cells #[.int .u8 X[q].toNat] 5)).ge
   have bx5:aC w5 w.heap.size (bP H) 40:=(bx3.alloc (.cells #[.int .u8 X[q].toNat] 5)).grown hg5 (fun e=>by
    rcases hown3.2 with ⟨e1,_⟩|⟨g2,off,cap,cur,e1,_,hb,_⟩
    ·rw[e1] at e;cases e
    ·rw[e1] at e;cases e;exact nD hb bx3 (by decide))
   rw[←hv.out,←zi] at hown5
   go_wp2
   go_roundw
   case rel=>exact⟨v,.int .i64 ((k+1:Nat):Int),_,_,_,_,_,_,_,_,_,_,_,_,_,_,_,_,_,_,_,_,_,_,⟨k+1,by omega,rfl,hbr5,bx5,hown5⟩,by
    have e1:decide (H.fi.length≤f)=false:=decide_eq_false (by omega)
    rw[e1,Bool.or_false]
    rfl⟩
   case measure=>simp[intOf];omega
  ·go_wp2
   go_ret2
   have hkk:p.n.toNat=k:=by omega
   exact⟨_,rfl,by rw[hkk];exact hown,hbr⟩
theorem ET {B:Nat} {w w1 w2:World} (h:Below B w w1) (k:Below B w1 w2):Below B w w2:=
 ⟨k.os.trans h.os,k.tape.trans h.tape,k.output.trans h.output,Nat.le_trans h.size k.size,fun i hi=>(k.block i hi).trans (h.block i hi)⟩
end Go.Proofs.Ytkjobhcnlppcnaa