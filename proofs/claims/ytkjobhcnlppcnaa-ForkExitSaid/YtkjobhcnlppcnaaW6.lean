import Derived.Test.YtkjobhcnlppcnaaW5
import Derived.BigRegion
set_option linter.unusedSimpArgs false
set_option linter.unusedVariables false
set_option maxHeartbeats 4000000
set_option maxRecDepth 100000
namespace Go.Proofs.Ytkjobhcnlppcnaa
open Go.RowKit Go.Maps Pw
theorem BH {s:St} {b:Int} (h:b∈jV s):jS s b=true:=by
 cases hu:jS s b with
 | true=>rfl
 | false=>exact absurd h (JZ hu)
theorem Mf {t:Tb} (h:bB t=0) (h0:∀n,(bT t n).k=0):t=zTb:=
 LA h zTb_right fun n=>by
  rw[jr]
  have h1:=(bv _).1 (kD h n)
  have h2:=h0 n
  rcases h1 with ⟨_,e1,e2⟩|⟨e,_⟩|⟨e,_⟩
  ·generalize bT t n=x at *
   obtain⟨a,b,c⟩:=x
   simp only at h2 e1 e2
   subst h2;subst e1;subst e2
   rfl
  ·omega
  ·omega
theorem ED (H:MH) (w:World) (h:qV w H) (hR:Rt H.ma) :
  Calls Try.prog 43 #[.agg (bM H)] w fun r w'=>r = .returned (.int .i64 0)∧Below w.heap.size w w':=by
 have hh:=Lib.hid h
 have hR':=Lib.hid hR
 have hpt:=Lib.hid hR.pt
 have z1:H.dk.blocks.length≤1000:=(jm hR).dkb
 have z2:H.dk.queue.length≤1000:=(jm hR).dkq
 clear hR
 go_enter Try.func43,Try.ntmps43
 go_upto_region 1 with (fail)
 refine eP (fun W=>Code.wp _ _ _ _ W) fun w1 hb1 bx1 hs1 => ?_
 have bx1:aB w1 w.heap.size (bM H) 40:=bx1
 have h1:=h.below hb1
 clear h hs1
 have r1:bZ w1 (some ⟨w.heap.size,0,none⟩) [.slice H.af H.m.fs.length H.cf,.int .i64 H.m.hand]:=bG bx1 0 2
 go_wp2_with (refine ak _ _ rfl w.heap.size 0 rfl rfl _ r1 _ Try.underlying27 rfl mem_size ?_)
 refine (Bt H.m H.af H.cf _ h1.fr).mono ?_
 rintro r w2 ⟨rfl,hb2⟩
 rw[show cz H.m=0 from hpt.out.fr]
 have h2:=h1.below hb2
 have bx2:=bx1.ext hb2
 have hbr2:=ae hb1 hb2
 clear h1 bx1 hb1 hb2 r1
 have hc:=bx2.cell
 unfold bM at hc
 go_wp2_with fail
 refine (Bl H.sl H.asl H.csl _ h2.sl.rd (by have:=h2.sl.le;have:=h2.sl.mx;unfold maxLen at this;omega)).mono ?_
 rintro r w2' ⟨rfl,rfl⟩
 rw[show cK H.sl=0 from hpt.out.sl]
 clear hc
 have r2:bZ w2' (some ⟨w.heap.size,3,none⟩) [.slice H.wb H.sw.blocks.length H.cwb,.slice H.wq H.sw.queue.length H.cwq]:=bG bx2 3 2
 go_wp2_with (refine ak _ _ rfl w.heap.size 3 rfl rfl _ r2 _ Try.underlying33 rfl disk_size ?_)
 refine (oI H.sw H.wb H.cwb H.wq H.cwq _ h2.sw).mono ?_
 rintro r w3 ⟨rfl,hb3⟩
 rw[show bD H.sw=0 from hpt.out.sw]
 have h3:=h2.below hb3
 have bx3:=bx2.ext hb3
 have hbr3:=ae hbr2 hb3
 clear h2 bx2 hbr2 hb3 r2
 have r3:bZ w3 (some ⟨w.heap.size,5,none⟩) [.slice H.db H.dk.blocks.length H.cdb,.slice H.dq H.dk.queue.length H.cdq]:=bG bx3 5 2
 go_wp2_with (refine ak _ _ rfl w.heap.size 5 rfl rfl _ r3 _ Try.underlying33 rfl disk_size ?_)
 refine (oI H.dk H.db H.cdb H.dq H.cdq _ h3.dk).mono ?_
 rintro r w4 ⟨rfl,hb4⟩
 rw[show bD H.dk=0 from hpt.out.dk]
 have h4:=h3.below hb4
 have bx4:=bx3.ext hb4
 have hbr4:=ae hbr3 hb4
 clear h3 bx3 hbr3 hb4 r3
 have r4:bZ w4 (some ⟨w.heap.size,7,none⟩) [.slice H.ai H.fi.length H.ci,.int .i64 H.ct]:=bG bx4 7 2
 go_wp2_with (refine ak _ _ rfl w.heap.size 7 rfl rfl _ r4 _ Try.underlying36 rfl store_size ?_)
 refine (zZ H.fi H.ct H.ai H.ci _ h4.st h4.c64).mono ?_
 rintro r w5 ⟨rfl,hb5⟩
 rw[show aP (dW H.fi H.ct)=0 from hpt.out.st]
 have bx5:=bx4.ext hb5
 have hbr5:=ae hbr4 hb5
 clear h4 bx4 hbr4 hb5 r4
 have l1:Hid (H.sw.blocks.length=H.sl.length):=Lib.hid hpt.out.swl
 have l2:Hid ((H.dk.blocks.length:Int)=H.ct):=Lib.hid hpt.out.dkl
 have hc:=bx5.cell
 unfold bM at hc
 rw[←l2.out,l1.out] at hc
 go_upto_region 18 with (fail)
 rw[←l1.out,l2.out] at hc
 go_wp2
 go_loopw [68] (fun s68 wr => ∃k:Nat,k≤H.dk.blocks.length∧s68 = .int .i64 k∧Below w.heap.size w wr∧aB wr w.heap.size (bM H) 40) (fun s68 _=>H.dk.blocks.length-(intOf s68).toNat)
 case atStart=>exact⟨0,Nat.zero_le _,rfl,hbr5,bx5⟩
 case round=>
  clear hbr5 bx5 hc
  obtain⟨k,hk,rfl,hbr,bx⟩:=hrel
  have hM:=hh.out.below hbr
  by_cases hkl:k<H.dk.blocks.length
  ·obtain⟨bd,od,hda,hrd⟩:=fE jk (by decide) hM.dk.rb k hkl
   have hki:(k:Int)<(H.dk.blocks.length:Int):=by omega
   have hor:Hid ((k:Int)∈jV H.ma.st∨H.dk.blocks[k]=zPg):=Lib.hid (by
    have:=hR'.out.trim.1 k (by omega) (by exact_mod_cast hkl)
    rw[Int.toNat_natCast] at this
    have e:H.ma.dk.blocks.getD k zPg=H.dk.blocks[k]:=by
     show H.dk.blocks.getD k zPg=_
     rw[List.getD_eq_getElem?_getD,List.getElem?_eq_getElem hkl];rfl
    rw[e] at this
    exact this)
   generalize H.dk.blocks[k]=P at *
   rw[hda]
   go_wp2_with (first | (refine ak _ _ rfl bd (od+k*8) rfl rfl _ hrd _ Try.underlying50 rfl psize ?_) | (refine aD rfl _ _ _ rfl (dO P) rfl rfl rfl psize (dP _) ?_))
   intro w6 hb6 px6
   have hbr6:=ae hbr hb6
   have bx6:=bx.ext hb6
   have hM6:=hM.below hb6
   clear hbr bx hb6 hrd hM
   have r6:bZ w6 (some ⟨w.heap.size,7,none⟩) [.slice H.ai H.fi.length H.ci,.int .i64 H.ct]:=bG bx6 7 2
   go_wp2_with (refine ak _ _ rfl w.heap.size 7 rfl rfl _ r6 _ Try.underlying36 rfl store_size ?_)
   refine (pO H.fi H.ct k H.ai H.ci _ hM6.st).mono ?_
   rintro r w7 ⟨rfl,hb7⟩
   have hbr7:=ae hbr6 hb7
   have bx7:=bx6.ext hb7
   have px7:=px6.ext hb7
   clear hbr6 bx6 hM6 px6 hb7 r6
   cases hu:jS (dW H.fi H.ct) (k:Int) with
   | true=>
    clear px7
    go_wp2
    go_roundw
    case rel=>exact⟨k+1,by omega,by go_num,hbr7,bx7⟩
    case measure=>simp[intOf];omega
   | false=>
    have hP:P=zPg:=by
     rcases hor.out with e|e
     ·have h9:=BH e
      exact absurd (h9.symm.trans hu) (by decide)
     ·exact e
    subst hP
    have hcp:=px7.cell
    rw[lit0] at hcp
    have hE:∀W,(Op.equalIn 10000 50 (.agg #[.int .u8 0,.int .u8 0,.int .u8 0,.int .u8 0,.int .u8 0,.int .u8 0,.int .u8 0,.int .u8 0]) (.agg #[.int .u8 0,.int .u8 0,.int .u8 0,.int .u8 0,.int .u8 0,.int .u8 0,.int .u8 0,.int .u8 0])).run Try.prog W = .ok true W:=fun W=>Ni zPg zPg W
    go_wp2
    go_roundw
    case rel=>exact⟨k+1,by omega,by go_num,hbr7,bx7⟩
    case measure=>simp[intOf];omega
  ·have hki:¬(k:Int)<(H.dk.blocks.length:Int):=by omega
   have hc:=bx.cell
   unfold bM at hc
   clear hM
   go_wp2
   go_loopw [88] (fun s88 wr => ∃k:Nat,k≤H.dk.queue.length∧s88 = .int .i64 k∧Below w.heap.size w wr∧aB wr w.heap.size (bM H) 40) (fun s88 _=>H.dk.queue.length-(intOf s88).toNat)
   case atStart=>exact⟨0,Nat.zero_le _,rfl,hbr,bx⟩
   case round=>
    clear hbr bx hc hki
    obtain⟨k,hk,rfl,hbr,bx⟩:=hrel
    have hM:=hh.out.below hbr
    by_cases hkl:k<H.dk.queue.length
    ·obtain⟨bd,od,hda,hrd⟩:=fE sI (by decide) hM.dk.rq k hkl
     have hki:(k:Int)<(H.dk.queue.length:Int):=by omega
     have hus:jS (dW H.fi H.ct) (H.dk.queue[k]).1=true:=BH (hR'.out.trim.2 _ (List.getElem_mem hkl))
     generalize H.dk.queue[k]=X at *
     rw[hda]
     go_wp2_with (first | (refine ak _ _ rfl bd (od+k*9) rfl rfl _ hrd _ Try.underlying93 rfl put_size ?_) | (refine aD rfl _ _ _ rfl (Bq X) rfl rfl rfl put_size (Dw _) ?_))
     intro w6 hb6 px6
     have hbr6:=ae hbr hb6
     have bx6:=bx.ext hb6
     have hM6:=hM.below hb6
     clear hbr bx hb6 hrd hM
     have hcp:=px6.cell
     unfold Bq at hcp
     have r6:bZ w6 (some ⟨w.heap.size,7,none⟩) [.slice H.ai H.fi.length H.ci,.int .i64 H.ct]:=bG bx6 7 2
     go_wp2_with (refine ak _ _ rfl w.heap.size 7 rfl rfl _ r6 _ Try.underlying36 rfl store_size ?_)
     refine (pO H.fi H.ct X.1 H.ai H.ci _ hM6.st).mono ?_
     rintro r w7 ⟨rfl,hb7⟩
     have hbr7:=ae hbr6 hb7
     have bx7:=bx6.ext hb7
     rw[hus]
     clear hbr6 bx6 hM6 px6 hb7 r6 hcp hus
     go_wp2
     go_roundw
     case rel=>exact⟨k+1,by omega,by go_num,hbr7,bx7⟩
     case measure=>simp[intOf];omega
    ·have hki:¬(k:Int)<(H.dk.queue.length:Int):=by omega
     have hc:=bx.cell
     unfold bM at hc
     have hs4:H.sp.length≤4:=by have:=hpt.out.spl;rw[nK] at this;exact this
     clear hM
     go_wp2
     go_loopw [106] (fun s106 wr => ∃k:Nat,k≤H.sp.length∧s106 = .int .i64 k∧Below w.heap.size w wr) (fun s106 _=>H.sp.length-(intOf s106).toNat)
     case atStart=>exact⟨0,Nat.zero_le _,rfl,hbr⟩
     case round=>
      clear hbr bx hc hki
      obtain⟨k,hk,rfl,hbr⟩:=hrel
      have hM:=hh.out.below hbr
      by_cases hkl:k<H.sp.length
      ·obtain⟨bd,od,P,hda,hP,hrd⟩:=lC hM.sp.rd k hkl
       have hki:(k:Int)<(H.sp.length:Int):=by omega
       have hgood:=nz hM hP
       have hsP:P.sp∈H.ma.sp:=by show P.sp∈H.sp.map PS.sp;exact List.mem_map.2 ⟨P,List.mem_of_getElem? hP,rfl⟩
       have hal:(aT P.ar).1=0:=hpt.out.ar P.sp hsP
       have htb:bB P.tb=0:=hpt.out.tb P.sp hsP
       have hdead:Hid (P.lv=false→P.ar=[]∧P.tb=zTb):=Lib.hid fun hl=>by
        have h9:=hR'.out.live k (by rw[jJ hP];exact hl)
        rw[jJ hP] at h9
        exact⟨h9.1,Mf htb fun n=>by
         have:=h9.2 n
         unfold ent at this
         rw[jJ hP] at this
         exact this⟩
       rw[hda]
       go_wp2_with (first | (refine ak _ _ rfl bd (od+k*10) rfl rfl _ hrd _ Try.underlying65 rfl space_size ?_) | (refine aD rfl _ _ _ rfl (ny P) rfl rfl rfl space_size (by rw[←Array.all_toList,List.all_eq_true];exact hgood.one) ?_))
       intro w6 hb6 px6
       have hbr6:=ae hbr hb6
       have hg6:=hgood.below hb6
       have hA:=hg6.ars
       have hcp:=px6.cell
       unfold ny at hcp
       clear hbr hb6 hrd hM hgood
       go_wp2_with fail
       refine (vS P.ar P.aa P.ac _ hA).mono ?_
       rintro r w7 ⟨rfl,hb7⟩
       rw[show Ap (aT P.ar)=#[.int .i64 0,.int .i64 (aT P.ar).2] from by unfold Ap;rw[hal]]
       have hbr7:=ae hbr6 hb7
       have hg7:=hg6.below hb7
       have px7:=px6.ext hb7
       clear hcp px6 hbr6 hg6 hb7 hA
       go_wp2_with (refine aD rfl _ _ _ rfl #[.int .i64 0,.int .i64 (aT P.ar).2] rfl rfl rfl fau_size (iQ _ _) ?_)
       intro w8 hb8 ux8
       have hcu:=ux8.cell
       have hbr8:=ae hbr7 hb8
       have hg8:=hg7.below hb8
       have px8:=px7.ext hb8
       clear hbr7 hg7 px7 hb8
       have hrt:bZ w8 (some ⟨wr.heap.size,2,none⟩) (iG P.ts).toList:=bG px8 2 8
       go_wp2_with (refine ak _ _ rfl wr.heap.size 2 rfl rfl _ hrt _ Try.underlying63 tab_agg tab_size ?_)
       refine (zQ P.tb (iG P.ts) _ hg8.tb).mono ?_
       rintro r w9 ⟨rfl,hb9⟩
       rw[htb]
       have hbr9:=ae hbr8 hb9
       have hg9:=hg8.below hb9
       have px9:=px8.ext hb9
       clear hcu ux8 hbr8 hg8 px8 hb9 hrt
       have hcp:=px9.cell
       unfold ny at hcp
       cases hlv:P.lv with
       | true=>
        rw[hlv] at hcp
        go_wp2
        go_roundw
        case rel=>exact⟨k+1,by omega,by go_num,hbr9⟩
        case measure=>simp[intOf];omega
       | false=>
        obtain⟨e1,e2⟩:=hdead.out hlv
        have hl0:P.ar.length=0:=by rw[e1];rfl
        rw[hlv,hl0] at hcp
        have hrt:bZ w9 (some ⟨wr.heap.size,2,none⟩) (iG P.ts).toList:=bG px9 2 8
        have hT:zo w9 (iG P.ts) zTb:=by have:=hg9.tb;rw[e2] at this;exact this
        clear hl0
        go_wp2_with (refine ak _ _ rfl wr.heap.size 2 rfl rfl _ hrt _ Try.underlying63 tab_agg tab_size ?_)
        refine (FC zTb zTb (iG P.ts) (iG nTs) _ hT (nX _ 0).rd).mono ?_
        rintro r wa ⟨rfl,hba⟩
        rw[BX]
        have hbra:=ae hbr9 hba
        go_wp2
        go_roundw
        case rel=>exact⟨k+1,by omega,by go_num,hbra⟩
        case measure=>simp[intOf];omega
      ·have hki:¬(k:Int)<(H.sp.length:Int):=by omega
       go_wp2
       go_ret
       exact⟨rfl,hbr⟩
def iE (l:List Fr):Nat:=l.countP fun f=>decide (f.r=0)
def kM (l:List Int):Nat:=l.countP fun n=>decide (n=0)
theorem lZ {α:Type} (q:α→Bool) (l:List α) (j:Nat) (hj:j<l.length):(l.take (j+1)).countP q=(l.take j).countP q+if q l[j]=true then 1 else 0:=by
 rw[List.take_add_one,List.getElem?_eq_getElem hj,List.countP_append]
 simp[List.countP_cons]
theorem ii_size:(Try.prog.info? 77).map (·.size)=some 2:=by kernel_rfl
theorem int1_size:(Try.prog.info? 3).map (·.size)=some 1:=by kernel_rfl
theorem Mc (a b:Int):(#[.int .i64 a,.int .i64 b]:Array Value).all (·.oneCell')=true:=by simp[Value.oneCell']
theorem vR (H:MH) (w:World) (h:qV w H) (hz:KX H.ma) :
  Calls Try.prog 23 #[.agg (bM H)] w fun r w'=>r = .returned (.agg #[.int .i64 (iE H.m.fs:Int),.int .i64 (kM H.sl:Int)])∧Below w.heap.size w w':=by
 have hf1:H.m.fs.length≤1000:=hz.fs
 have hs1:H.sl.length≤1000:=hz.sl
 go_enter Try.func23,Try.ntmps23
 go_upto_region 2 with (fail)
 refine JD (fun W=>Code.wp _ _ _ _ W) fun w1 hb1 bx1 rx1 cx1 hs1' => ?_
 have cx1:aB w1 (w.heap.size+1+1) #[.int .i64 (((H.m.fs.take 0).countP fun f=>decide (f.r=0):Nat):Int),.int .i64 0] 77:=cx1
 have h1:=h.below hb1
 have bx1:aB w1 w.heap.size (bM H) 40:=bx1
 have hh:=Lib.hid h
 clear h
 have hc:=bx1.cell
 unfold bM at hc
 go_wp2
 go_loopw [12] (fun s12 wr => ∃j:Nat,j≤H.m.fs.length∧s12 = .int .i64 j∧Below w.heap.size w wr∧aB wr w.heap.size (bM H) 40∧aB wr (w.heap.size+1) #[.int .i64 0,.int .i64 0] 77∧aB wr (w.heap.size+1+1) #[.int .i64 (((H.m.fs.take j).countP fun f=>decide (f.r=0):Nat):Int),.int .i64 0] 77) (fun s12 _=>H.m.fs.length-(intOf s12).toNat)
 case atStart=>exact⟨0,Nat.zero_le _,rfl,hb1,bx1,rx1,cx1⟩
 case round=>
  clear hb1 bx1 rx1 cx1 hc h1 hs1'
  obtain⟨j,hj,rfl,hbr,bx,rx,cx⟩:=hrel
  have hR:=hh.out.below hbr
  by_cases hjl:j<H.m.fs.length
  ·have hji:(j:Int)<(H.m.fs.length:Int):=by omega
   obtain⟨bf,of,haf,hel⟩:=fE eu (by decide) hR.fr.rd j hjl
   have hct:Hid ((H.m.fs.take (j+1)).countP (fun f=>decide (f.r=0))=(H.m.fs.take j).countP (fun f=>decide (f.r=0))+if decide ((H.m.fs[j]).r=0)=true then 1 else 0):=Lib.hid (lZ _ _ _ hjl)
   have hcl:(H.m.fs.take j).countP (fun f=>decide (f.r=0))≤j:=Nat.le_trans List.countP_le_length (by rw[List.length_take];omega)
   generalize H.m.fs[j]=F at *
   generalize (H.m.fs.take j).countP (fun f=>decide (f.r=0))=C at *
   rw[haf]
   go_wp2_with (first | (refine ak _ _ rfl bf (of+j*13) rfl rfl _ hel _ Try.underlying59 rfl frame_size ?_) | (refine aD rfl _ _ _ rfl (qa F) rfl rfl rfl frame_size (kV _) ?_))
   intro w5 hb5 fx5
   have bx5:=bx.ext hb5
   have rx5:=rx.ext hb5
   have cx5:=cx.ext hb5
   have hbr5:=ae hbr hb5
   clear bx rx cx hb5 hel hR haf hbr
   have hf5:=fx5.cell
   unfold qa at hf5
   have hcc:=cx5.cell
   by_cases hr:F.r=0
   ·rw[hr] at hf5
    have hct' : Hid ((H.m.fs.take (j+1)).countP (fun f=>decide (f.r=0))=C+1):=Lib.hid (by rw[hct.out];simp[hr])
    clear hct hr
    go_wp2_with (refine ay rfl _ _ _ rfl (w.heap.size+1+1) 0 _ [.int .i64 ((C:Int)+1)] rfl rfl rfl _ _ cx5 (by show 0+1≤2;decide) int1_size (fun u hu=>by cases List.mem_singleton.1 hu;rfl) ?_)
    intro w6 cx6 hg6
    have cx6' : aB w6 (w.heap.size+1+1) #[.int .i64 (((H.m.fs.take (j+1)).countP (fun f=>decide (f.r=0)):Nat):Int),.int .i64 0] 77:=by rw[hct'.out];exact cx6
    have bx6:=bx5.grown hg6 (fun e=>by have:=Option.some.inj e;omega)
    have rx6:=rx5.grown hg6 (fun e=>by have:=Option.some.inj e;omega)
    have hbr6:=hbr5.grown hg6 hbr5.size (fun k hk=>by cases hk;omega)
    clear cx5 bx5 rx5 hbr5 cx6 hg6 hf5 hcc fx5
    go_wp2
    go_roundw
    case rel=>exact⟨j+1,by omega,by go_num,hbr6,bx6,rx6,cx6'⟩
    case measure=>simp[intOf];omega
   ·have cx6' : aB w5 (w.heap.size+1+1) #[.int .i64 (((H.m.fs.take (j+1)).countP (fun f=>decide (f.r=0)):Nat):Int),.int .i64 0] 77:=by
     have e:(H.m.fs.take (j+1)).countP (fun f=>decide (f.r=0))=C:=by rw[hct.out];simp[hr]
     rw[e];exact cx5
    clear hct hcc fx5
    go_wp2
    go_roundw
    case rel=>exact⟨j+1,by omega,by go_num,hbr5,bx5,rx5,cx6'⟩
    case measure=>simp[intOf];omega
  ·have hji:¬(j:Int)<(H.m.fs.length:Int):=by omega
   have cx2:aB wr (w.heap.size+1+1) #[.int .i64 (iE H.m.fs:Int),.int .i64 (((H.sl.take 0).countP fun f=>decide (f=0):Nat):Int)] 77:=by
    rw[List.take_of_length_le (by omega)] at cx
    exact cx
   clear cx
   have hc:=bx.cell
   unfold bM at hc
   go_wp2
   go_loopw [27] (fun s27 wr => ∃j:Nat,j≤H.sl.length∧s27 = .int .i64 j∧Below w.heap.size w wr∧aB wr (w.heap.size+1) #[.int .i64 0,.int .i64 0] 77∧aB wr (w.heap.size+1+1) #[.int .i64 (iE H.m.fs:Int),.int .i64 (((H.sl.take j).countP fun f=>decide (f=0):Nat):Int)] 77) (fun s27 _=>H.sl.length-(intOf s27).toNat)
   case atStart=>exact⟨0,Nat.zero_le _,rfl,hbr,rx,cx2⟩
   case round=>
    clear hbr bx rx cx2 hc hR hji
    obtain⟨j,hj,rfl,hbr,rx,cx⟩:=hrel
    have hR:=(hh.out.below hbr).sl
    by_cases hjl:j<H.sl.length
    ·have hji:(j:Int)<(H.sl.length:Int):=by omega
     obtain⟨bl,ol,hal,hcj⟩:=hR.rd j (dE H.sl[j]) (by rw[List.getElem?_map,List.getElem?_eq_getElem hjl];rfl)
     unfold dE at hcj
     have hct:Hid ((H.sl.take (j+1)).countP (fun f=>decide (f=0))=(H.sl.take j).countP (fun f=>decide (f=0))+if decide (H.sl[j]=0)=true then 1 else 0):=Lib.hid (lZ _ _ _ hjl)
     have hcl:(H.sl.take j).countP (fun f=>decide (f=0))≤j:=Nat.le_trans List.countP_le_length (by rw[List.length_take];omega)
     generalize H.sl[j]=F at *
     generalize (H.sl.take j).countP (fun f=>decide (f=0))=C at *
     rw[hal]
     have hcc:=cx.cell
     by_cases hr:F=0
     ·rw[hr] at hcj
      have hct' : Hid ((H.sl.take (j+1)).countP (fun f=>decide (f=0))=C+1):=Lib.hid (by rw[hct.out];simp[hr])
      clear hct hr
      go_wp2_with (refine ay rfl _ _ _ rfl (w.heap.size+1+1) 1 _ [.int .i64 ((C:Int)+1)] rfl rfl rfl _ _ cx (by show 1+1≤2;decide) int1_size (fun u hu=>by cases List.mem_singleton.1 hu;rfl) ?_)
      intro w6 cx6 hg6
      have cx6' : aB w6 (w.heap.size+1+1) #[.int .i64 (iE H.m.fs:Int),.int .i64 (((H.sl.take (j+1)).countP (fun f=>decide (f=0)):Nat):Int)] 77:=by rw[hct'.out];exact cx6
      have rx6:=rx.grown hg6 (fun e=>by have:=Option.some.inj e;omega)
      have hbr6:=hbr.grown hg6 hbr.size (fun k hk=>by cases hk;omega)
      clear cx rx hbr cx6 hg6 hcc hR hcj
      go_wp2
      go_roundw
      case rel=>exact⟨j+1,by omega,by go_num,hbr6,rx6,cx6'⟩
      case measure=>simp[intOf];omega
     ·have cx6' : aB wr (w.heap.size+1+1) #[.int .i64 (iE H.m.fs:Int),.int .i64 (((H.sl.take (j+1)).countP (fun f=>decide (f=0)):Nat):Int)] 77:=by
       have e:(H.sl.take (j+1)).countP (fun f=>decide (f=0))=C:=by rw[hct.out];simp[hr]
       rw[e];exact cx
      clear hct hcc hR
      go_wp2
      go_roundw
      case rel=>exact⟨j+1,by omega,by go_num,hbr,rx,cx6'⟩
      case measure=>simp[intOf];omega
    ·have hji:¬(j:Int)<(H.sl.length:Int):=by omega
     have cx2:aB wr (w.heap.size+1+1) #[.int .i64 (iE H.m.fs:Int),.int .i64 (kM H.sl:Int)] 77:=by
      rw[List.take_of_length_le (by omega)] at cx
      exact cx
     clear cx hR
     go_wp2_with (first | (refine ak _ _ rfl (w.heap.size+1+1) 0 rfl rfl _ cx2.rd _ Try.underlying77 rfl ii_size ?_) | (refine ax rfl _ _ _ rfl (w.heap.size+1) #[.int .i64 (iE H.m.fs:Int),.int .i64 (kM H.sl:Int)] rfl rfl _ _ rx rfl ii_size (Mc _ _) ?_))
     intro we rxe hge
     have hbre:=hbr.grown hge hbr.size (fun k hk=>by cases hk;omega)
     go_wp2
     refine bodyPost_ret (v:=.agg #[.int .i64 (iE H.m.fs:Int),.int .i64 (kM H.sl:Int)]) (bY Try.results23 _ _ (w.heap.size+1) _ _ _ rfl rxe Try.underlying77 rfl ii_size) rfl ?_
     exact⟨rfl,hbre⟩
theorem FU (H:MH) (g:Pg) (e:En) (w:World) (h:qV w H) (hR:Rt H.ma) (hf:Jz H.ma g e) (hk:e.k≠0) (he:dm e=0) :
  Calls Try.prog 46 #[.agg (bM H),.agg (nO (some g)),.agg (fA e)] w fun r w'=>r = .returned (.int .i64 0)∧Below w.heap.size w w':=by
 have hR':=Lib.hid hR
 have hf':=Lib.hid hf
 clear hR hf
 go_enter Try.func46,Try.ntmps46
 go_upto_region 1 with (fail)
 refine JD (fun W=>Code.wp _ _ _ _ W) fun w1 hb1 bx1 ox1 ex1 hs1 => ?_
 have bx1:aB w1 w.heap.size (bM H) 40:=bx1
 have ox1:aB w1 (w.heap.size+1) #[.bool true,.bool g.rd,.bool g.wr,.bool g.sh,.int .i64 g.fi,.int .i64 g.pg] 106:=ox1
 have ex1:aB w1 (w.heap.size+1+1) #[.int .i64 e.k,.int .i64 e.n,.bool e.w] 67:=ex1
 have h1:=h.below hb1
 clear h hs1
 have hc:=bx1.cell
 unfold bM at hc
 have ho:=ox1.cell
 have hx:=ex1.cell
 have hcase:=(bv _).1 he
 by_cases k2:e.k=2
 ·obtain⟨q1,q2⟩:=hf'.out.sw k2
  have q1' : e.n<(H.sl.length:Int):=q1
  rw[k2] at hx
  rw[q2] at ho
  clear q1 q2 hk hcase he k2
  go_wp2
  go_ret
  exact⟨rfl,hb1⟩
 ·have k1:e.k=1:=by omega
  have q1' : e.n<(H.m.fs.length:Int):=hf'.out.lt k1
  obtain⟨f1,f2,f3,f4,f5⟩:=hf'.out.fr k1
  have hn0:0≤e.n:=by omega
  obtain⟨F,hF⟩:∃F:Nat,e.n=F:=⟨e.n.toNat,by omega⟩
  have hFl:F<H.m.fs.length:=by omega
  obtain⟨bf,of,haf,hel⟩:=fE eu (by decide) h1.fr.rd F hFl
  have hFe:bn H.ma e.n.toNat=H.m.fs[F]:=by rw[hF,Int.toNat_natCast];unfold bn;show H.m.fs.getD F fr0=_;rw[List.getD_eq_getElem?_getD,List.getElem?_eq_getElem hFl];rfl
  have hfe:dn H.m.fs[F]=0:=by rw[←hFe,hF,Int.toNat_natCast];exact hR'.out.pt.frE (m:=H.ma) hFl
  rw[hFe] at f1 f2 f4 f5
  have hfm : -1≤(H.m.fs[F]).f:=by
   unfold dn at hfe
   split at hfe
   ·exact absurd hfe (by decide)
   ·rename_i hb
    unfold xh at hb
    simp at hb
    omega
  generalize H.m.fs[F]=X at *
  rw[k1,hF] at hx
  rw[haf] at hc
  have hFi:(F:Int)<(H.m.fs.length:Int):=by omega
  clear hcase he hk k2 hFe q1' hn0
  go_wp2_with (first | (refine ak _ _ rfl bf (of+F*13) rfl rfl _ hel _ Try.underlying59 rfl frame_size ?_) | (refine aD rfl _ _ _ rfl (qa X) rfl rfl rfl frame_size (kV _) ?_))
  intro w4 hb4 fx4
  have hbr4:=ae hb1 hb4
  have ho:=(ox1.ext hb4).cell
  have hx:=(ex1.ext hb4).cell
  rw[k1] at hx
  have hfx:=fx4.cell
  unfold qa at hfx
  clear bx1 ox1 ex1 h1 hc hb1 hb4 hel fx4
  by_cases c1:X.f<0
  ·have hm1:X.f = -1:=by omega
   have hsh:g.sh=false:=by
    cases hs:g.sh with
    | false=>rfl
    | true=>have:=f2 hs;omega
   rw[hm1] at hfx
   rw[hsh] at ho
   cases hw:e.w with
   | false=>
    rw[hw] at hx
    by_cases c2:0≤g.fi
    ·have c3:¬(-1:Int)=g.fi:=by omega
     clear f1 f2 f3 f4 f5 hm1
     go_wp2
     all_goals go_ret
     all_goals exact⟨rfl,hbr4⟩
    ·clear f1 f2 f3 f4 f5 hm1
     go_wp2
     all_goals go_ret
     all_goals exact⟨rfl,hbr4⟩
   | true=>
    rw[hw] at hx
    have h3:=f3 hw
    have h5:=f5 hw c1
    rw[h3] at ho
    by_cases c2:0≤g.fi
    ·have c3:¬(-1:Int)=g.fi:=by omega
     clear f1 f2 f3 f4 f5 hm1
     go_wp2
     all_goals go_ret
     all_goals exact⟨rfl,hbr4⟩
    ·clear f1 f2 f3 f4 f5 hm1
     go_wp2
     all_goals go_ret
     all_goals exact⟨rfl,hbr4⟩
  ·have hx0:0≤X.f:=by omega
   obtain⟨p1,p2⟩:=f1 hx0
   rw[←p1,←p2] at ho
   have c2:(X.f == -1)=false:=by simp;omega
   clear p1 p2
   cases hw:e.w with
   | false=>
    rw[hw] at hx
    clear f1 f2 f3 f4 f5
    go_wp2
    all_goals go_ret
    all_goals exact⟨rfl,hbr4⟩
   | true=>
    rw[hw] at hx
    have h3:=f3 hw
    have h4:=f4 hw hx0
    rw[h3,h4] at ho
    clear f1 f2 f3 f4 f5
    go_wp2
    all_goals go_ret
    all_goals exact⟨rfl,hbr4⟩
theorem zM {l:List En} (h:l.length=64):nW l=(tL l).toArray:=by
 unfold nW tL
 congr 1
 have e:l=(List.range 64).map fun i=>l.getD i zEn:=by
  apply List.ext_getElem
  ·simp[h]
  ·intro i h1 h2
   simp[List.getD_eq_getElem?_getD,List.getElem?_eq_getElem h1]
 conv=>lhs;rw[e,List.flatMap_map]
theorem rT (H:MH) (kd k:Int) (w:World) (h:qV w H) (hR:Rt H.ma) :
  Calls Try.prog 47 #[.agg (bM H),.int .i64 kd,.int .i64 k] w fun r w'=>r = .returned (.int .i64 (bP H.ma kd k:Int))∧Below w.heap.size w w':=by
 have hpt:=Lib.hid hR.pt
 have hh:=Lib.hid h
 have hs4:H.sp.length≤4:=by have:=hR.pt.spl;rw[nK] at this;exact this
 clear hR
 go_enter Try.func47,Try.ntmps47
 go_upto_region 1 with (fail)
 refine eP (fun W=>Code.wp _ _ _ _ W) fun w1 hb1 bx1 hs1 => ?_
 have bx1:aB w1 w.heap.size (bM H) 40:=bx1
 clear h hs1
 have hc:=bx1.cell
 unfold bM at hc
 go_wp2
 go_loopw [15,7] (fun s15 s7 wr => ∃p n:Nat,p≤H.sp.length∧s15 = .int .i64 p∧s7 = .int .i64 n∧n≤64*p∧Below w.heap.size w wr∧Hid (n=((H.sp.take p).map fun s=>(bA s.tb).countP (jZ kd k)).sum)) (fun s15 _ _=>H.sp.length-(intOf s15).toNat)
 case atStart=>exact⟨0,0,Nat.zero_le _,rfl,rfl,Nat.le_refl _,hb1,Lib.hid (by simp)⟩
 case round=>
  clear hb1 bx1 hc
  obtain⟨p,n,hp,rfl,rfl,hn,hbr,hsum⟩:=hrel
  have hM:=hh.out.below hbr
  by_cases hpl:p<H.sp.length
  ·obtain⟨bd,od,P,hda,hP,hrd⟩:=lC hM.sp.rd p hpl
   have hpi:(p:Int)<(H.sp.length:Int):=by omega
   have hgood:=nz hM hP
   have hsP:P.sp∈H.ma.sp:=by show P.sp∈H.sp.map PS.sp;exact List.mem_map.2 ⟨P,List.mem_of_getElem? hP,rfl⟩
   have htb:bB P.tb=0:=hpt.out.tb P.sp hsP
   have htake:Hid (((H.sp.take (p+1)).map fun s=>(bA s.tb).countP (jZ kd k)).sum=n+(bA P.tb).countP (jZ kd k)):=Lib.hid (by
    rw[List.take_add_one,hP,List.map_append,List.sum_append,←hsum.out];simp)
   rw[hda]
   go_wp2_with (first | (refine ak _ _ rfl bd (od+p*10) rfl rfl _ hrd _ Try.underlying65 rfl space_size ?_) | (refine aD rfl _ _ _ rfl (ny P) rfl rfl rfl space_size (by rw[←Array.all_toList,List.all_eq_true];exact hgood.one) ?_))
   intro w6 hb6 px6
   have hbr6:=ae hbr hb6
   have hg6:=hgood.below hb6
   clear hbr hb6 hrd hM hgood
   have hrt:bZ w6 (some ⟨wr.heap.size,2,none⟩) (iG P.ts).toList:=bG px6 2 8
   go_wp2_with (refine ak _ _ rfl wr.heap.size 2 rfl rfl _ hrt _ Try.underlying63 tab_agg tab_size ?_)
   refine (tK P.tb (iG P.ts) _ hg6.tb htb).mono ?_
   rintro r w7 ⟨rfl,hb7⟩
   have hbr7:=ae hbr6 hb7
   clear hrt px6 hg6 hbr6 hb7
   have hfl:=pM P.tb
   generalize bA P.tb=l at *
   rw[zM hfl]
   go_wp2
   go_loopw [22,7] (fun s22 s7 wr => ∃i m:Nat,i≤64∧s22 = .int .i64 i∧s7 = .int .i64 m∧m≤64*p+i∧Below w.heap.size w wr∧Hid (m=n+(l.take i).countP (jZ kd k))) (fun s22 _ _=>64-(intOf s22).toNat)
   case atStart=>exact⟨0,n,Nat.zero_le _,rfl,rfl,by omega,hbr7,Lib.hid (by simp)⟩
   case round=>
    clear hbr7 hn
    obtain⟨i,m,hi,rfl,rfl,hm,hbr,hs⟩:=hrel
    by_cases hil:i<64
    ·have hii:(i:Int)<64:=by omega
     have hil' : i<l.length:=by omega
     have hct:Hid ((l.take (i+1)).countP (jZ kd k)=(l.take i).countP (jZ kd k)+if jZ kd k l[i]=true then 1 else 0):=Lib.hid (lZ _ _ _ hil')
     have hE:l.getD i zEn=l[i]:=by rw[List.getD_eq_getElem?_getD,List.getElem?_eq_getElem hil'];rfl
     generalize l[i]=E at *
     have hix:=uQ l i hil E hE
     clear hE
     go_wp2_with (refine aD rfl _ _ _ rfl (fA E) rfl rfl rfl entry_size (by simp[fA,Value.oneCell']) ?_)
     intro w8 hb8 ex8
     have hbr8:=ae hbr hb8
     have hx:=ex8.cell
     unfold fA at hx
     clear hix hbr hb8 ex8
     by_cases c1:E.k=kd
     ·by_cases c2:E.n=k
      ·have hs' : Hid (m+1=n+(l.take (i+1)).countP (jZ kd k)):=Lib.hid (by rw[hct.out,if_pos (by unfold jZ;simp[c1,c2]),hs.out];omega)
       clear hs hct
       go_wp2
       go_roundw
       case rel=>exact⟨i+1,m+1,by omega,by go_num,by go_num,by omega,hbr8,hs'⟩
       case measure=>simp[intOf];omega
      ·have hs' : Hid (m=n+(l.take (i+1)).countP (jZ kd k)):=Lib.hid (by rw[hct.out,if_neg (by unfold jZ;simp[c1,c2]),hs.out];omega)
       clear hs hct
       go_wp2
       go_roundw
       case rel=>exact⟨i+1,m,by omega,by go_num,rfl,by omega,hbr8,hs'⟩
       case measure=>simp[intOf];omega
     ·have hs' : Hid (m=n+(l.take (i+1)).countP (jZ kd k)):=Lib.hid (by rw[hct.out,if_neg (by unfold jZ;simp[c1]),hs.out];omega)
      clear hs hct
      go_wp2
      go_roundw
      case rel=>exact⟨i+1,m,by omega,by go_num,rfl,by omega,hbr8,hs'⟩
      case measure=>simp[intOf];omega
    ·have hii:¬(i:Int)<64:=by omega
     have hs' : Hid (m=((H.sp.take (p+1)).map fun s=>(bA s.tb).countP (jZ kd k)).sum):=Lib.hid (by rw[htake.out,hs.out,List.take_of_length_le (by omega)])
     clear hs htake
     go_wp2
     go_roundw
     case rel=>exact⟨p+1,m,by omega,by go_num,rfl,by omega,hbr,hs'⟩
     case measure=>simp[intOf];omega
  ·have hpi:¬(p:Int)<(H.sp.length:Int):=by omega
   have hend:Hid (n=bP H.ma kd k):=Lib.hid (by
    rw[hsum.out,List.take_of_length_le (by omega)]
    unfold bP MH.ma
    rw[List.map_map]
    rfl)
   clear hsum hM
   go_wp2
   go_ret
   exact⟨by rw[←hend.out];rfl,hbr⟩
theorem Jd {t:Tb} {n:Nat} (hn:n<64):(bA t).getD n zEn=bT t (n:Int):=by
 unfold bA
 rw[List.getD_eq_getElem?_getD,List.getElem?_map,List.getElem?_range hn];rfl
theorem Ik {P:Program} {ρ:Operand→Value} {o:Oper} {w:World} {t e:TypeId} {x y:Operand} {b off n i sz:Nat} {k:IntKind} (ho:o.op = .indexAddr t x y) (hx:ρ x = .pointer (some ⟨b,off,none⟩)) (hy:ρ y = .int k (i:Int)) (hi:i<n)
  (hu:P.underlying t=some (.array n e)) (hs:(P.info? e).map (·.size)=some sz):(execOp ρ o).run P w = .ok (.value (.pointer (some ⟨b,off+i*sz,none⟩))) w:=by
 obtain⟨inf,hinf,hsz⟩:∃inf,P.info? e=some inf∧inf.size=sz:=by
  cases h:P.info? e with
  | none=>rw[h] at hs;cases hs
  | some inf=>rw[h] at hs;exact⟨inf,rfl,by simpa using hs⟩
 have hso:(Go.sizeOf e).run P w = .ok sz w:=by simp[Go.sizeOf,typeInfo,hinf,go_sem,hsz]
 simp[execOp,go_sem,ho,hx,hy,hu,hso,hi]
theorem LX {w:World} {go i:Nat} {f:Nat→Option Pg} {o:Option Pg} {T:TypeId} (h:aB w go (fC f) T) (hi:i<64) (ho:f i=o):bZ w (some ⟨go,i*6,none⟩) (nO o).toList:=by
 have h1:=bG h (i*6) 6
 have h2:=Ee f i hi
 rw[ho] at h2
 have e:((fC f).toList.drop (i*6)).take 6=(nO o).toList:=by
  rw[←h2,Array.toList_extract]
  simp[List.extract_eq_take_drop]
 rwa [e] at h1
theorem qL (H : MH) (w : World) (h : qV w H) (hR : Rt H.ma) :
    Calls Try.prog 11 #[.agg (bM H)] w fun r w' => r = .returned (.int .i64 0) ∧ Below w.heap.size w w' := by
  have hh := Lib.hid h
  have hR' := Lib.hid hR
  have hz := Lib.hid (jm hR)
  have z1 : H.ca.length ≤ 1000 := hz.out.ca
  have z2 : H.m.fs.length ≤ 1000 := hz.out.fs
  have z3 : H.sl.length ≤ 1000 := hz.out.sl
  have z4 : H.sp.length ≤ 4 := by have := hR.pt.spl; rw [nK] at this; exact this
  have hfew := Lib.hid (oV hR.pt.st)
  clear hR
  go_enter Try.func11, Try.ntmps11
  go_upto_region 1 with (fail)
  refine eP (fun W => Code.wp _ _ _ _ W) fun w1 hb1 bx1 hs1 => ?_
  have bx1 : aB w1 w.heap.size (bM H) 40 := bx1
  have h1 := h.below hb1
  clear h hs1
  go_wp2_with (refine ak _ _ rfl w.heap.size 0 rfl rfl _ bx1.rd _ Try.underlying40 rfl machine_size ?_)
  refine (ED H _ h1 hR'.out).mono ?_
  rintro r w2 ⟨rfl, hb2⟩
  have bx2 := bx1.ext hb2
  have hbr2 := ae hb1 hb2
  clear h1 bx1 hb1 hb2
  have hc := bx2.cell
  unfold bM at hc
  go_wp2
  go_loopw [29] (fun s29 wr => ∃ q : Nat, q ≤ H.ca.length ∧ s29 = .int .i64 q ∧ Below w.heap.size w wr ∧ aB wr w.heap.size (bM H) 40) (fun s29 _ => H.ca.length - (intOf s29).toNat)
  case atStart => exact ⟨0, Nat.zero_le _, rfl, hbr2, bx2⟩
  case round =>
    clear hbr2 bx2 hc
    obtain ⟨q, hq, rfl, hbr, bx⟩ := hrel
    have hM := hh.out.below hbr
    by_cases hql : q < H.ca.length
    · obtain ⟨bc, oc, hac, hel⟩ := fE ku (by decide) hM.ca.rd q hql
      have hqi : (q : Int) < (H.ca.length : Int) := by omega
      have hcm : H.ca[q] ∈ H.ma.ca := List.getElem_mem hql
      obtain ⟨⟨f1, f2⟩, f3, f4⟩ := hR'.out.ca.file _ hcm
      obtain ⟨f5, f6⟩ := hR'.out.ca.lt _ hcm
      obtain ⟨f7, f8, f9⟩ := hR'.out.ca.fr _ hcm
      have hprev : Hid (∀ q1 : Nat, q = q1 + 1 → ∃ d : Cc, H.ca[q1]? = some d ∧ xz d H.ca[q] ∧ 0 ≤ d.f ∧ d.f < 1000 ∧ 0 ≤ d.i ∧ d.i < 12) := Lib.hid (fun q1 e => by
        have h1 : q1 < H.ca.length := by omega
        refine ⟨H.ca[q1], List.getElem?_eq_getElem h1, (List.pairwise_iff_getElem.1 hR'.out.ca.srt) q1 q h1 hql (by omega), ?_⟩
        obtain ⟨⟨g1, g2⟩, g3, g4⟩ := hR'.out.ca.file _ (List.getElem_mem h1 : H.ca[q1] ∈ H.ma.ca)
        have hm : fileAt H.ma.st H.ca[q1].f ∈ H.ma.st.fs := by
          unfold fileAt
          rw [if_pos g1, List.getD_eq_getElem?_getD, List.getElem?_eq_getElem (by omega)]
          exact List.getElem_mem _
        have := hfew.out _ hm
        have hz5 := hz.out.st.1
        exact ⟨g1, by omega, g3, by omega⟩)
      generalize hcq : H.ca[q] = c at *
      obtain ⟨F, hcF⟩ : ∃ F : Nat, c.f = F := ⟨c.f.toNat, by omega⟩
      have hFl : F < H.fi.length := by have : H.ma.st.fs.length = H.fi.length := List.length_map _; omega
      obtain ⟨bf, of, hai, hfl⟩ := fE jY (by decide) hM.st.rd F hFl
      have hPl : Hid (fileAt H.ma.st c.f = (H.fi[F]).fi) := Lib.hid (by
        rw [hcF]
        exact jP (by show (H.fi.map PF.fi)[F]? = _; rw [List.getElem?_map, List.getElem?_eq_getElem hFl]; rfl))
      have f4' : c.i < ((H.fi[F]).l.length : Int) := by rw [hPl.out] at f4; exact f4
      generalize H.fi[F] = P at *
      obtain ⟨K, hcK⟩ : ∃ K : Nat, c.k = K := ⟨c.k.toNat, by omega⟩
      have hKl : K < H.m.fs.length := by have : (K : Int) < (H.m.fs.length : Int) := by rw [← hcK]; exact f6
                                         omega
      obtain ⟨bm, om, ham, hfm⟩ := fE eu (by decide) hM.fr.rd K hKl
      have hKe : bn H.ma c.k.toNat = H.m.fs[K] := by rw [hcK, Int.toNat_natCast]; unfold bn; show H.m.fs.getD K fr0 = _; rw [List.getD_eq_getElem?_getD, List.getElem?_eq_getElem hKl]; rfl
      rw [hKe] at f7 f8 f9
      generalize H.m.fs[K] = X at *
      have hlt5 : Hid (0 ≤ c.f ∧ c.f < 1000 ∧ 0 ≤ c.i ∧ c.i < 12) := Lib.hid (by
        have hm : fileAt H.ma.st c.f ∈ H.ma.st.fs := by
          unfold fileAt
          rw [if_pos f1, List.getD_eq_getElem?_getD, List.getElem?_eq_getElem (by omega)]
          exact List.getElem_mem _
        have := hfew.out _ hm
        have hz5 := hz.out.st.1
        exact ⟨f1, by omega, f3, by omega⟩)
      have c1 : ¬ c.f < 0 := by omega
      have c2 : ¬ (H.fi.length : Int) ≤ c.f := by omega
      have c3 : ¬ c.i < 0 := by omega
      have c4 : ¬ (P.l.length : Int) ≤ c.i := by omega
      have c5 : ¬ c.k < 0 := by omega
      have c6 : ¬ (H.m.fs.length : Int) ≤ c.k := by omega
      have hc78 := Lib.hid (And.intro f7 (And.intro f8 f9))
      clear f1 f2 f3 f4 f4' f5 f6 f7 f8 f9 hKe hPl hcm
      rw [hac]
      go_wp2_with (first | (refine ak _ _ rfl bc (oc + q * 3) rfl rfl _ hel _ Try.underlying85 rfl cached_size ?_) | (refine aD rfl _ _ _ rfl (sN c) rfl rfl rfl cached_size (nJ _) ?_))
      intro w3 hb3 cx3
      have bx3 := bx.ext hb3
      have hbr3 := ae hbr hb3
      have hcs : ∀ W, Below w3.heap.size w3 W → W.cell? ⟨bf, of + F * 2 + 1, none⟩ = some (.slice P.a P.l.length P.c) := fun W hb => by
        obtain ⟨b', o', e, hc⟩ := ((hfl.below hb3).below hb) 1 _ rfl
        cases e
        exact hc
      have hfm3 := hfm.below hb3
      have hM3 := hM.below hb3
      clear hbr bx hb3 hel hfl hfm hM
      go_upto_region 7 with (fail)
      refine aC 45 [_,_,_,_,_,_,_,_,_,_,_,_,_,_,_,_,_,_,_,_,_,_,_,_,_,_,_,_,_,_,_,_,_,_,_,_,_,_,_,_,_,_,_,_,.v (.bool false)] (Gf wr.heap.size 0 rfl rfl (Gl cx3 rfl rfl rfl rfl rfl (Gb (.bool false) (by simp [go_sem, c1]) rfl rfl rfl rfl rfl (Gk rfl (Gf wr.heap.size 0 rfl rfl (Gl cx3 rfl rfl rfl rfl rfl (Gf w.heap.size 7 rfl rfl (Gf w.heap.size 7 rfl rfl (Gl bx3 rfl rfl rfl rfl rfl (Gn rfl rfl rfl rfl (Gb (.bool false) (by simp [go_sem, c2]) rfl rfl rfl rfl rfl (Gk rfl (Gk rfl (Gf wr.heap.size 1 rfl rfl (Gl cx3 rfl rfl rfl rfl rfl (Gb (.bool false) (by simp [go_sem, c3]) rfl rfl rfl rfl rfl (Gk rfl (Gk rfl (Gf wr.heap.size 1 rfl rfl (Gl cx3 rfl rfl rfl rfl rfl (Gf w.heap.size 7 rfl rfl (Gf w.heap.size 7 rfl rfl (Gl bx3 (V := .slice (some ⟨bf, of, none⟩) H.fi.length H.ci) (by simp [bM, hai]) rfl rfl rfl rfl (Gf wr.heap.size 0 rfl rfl (Gl cx3 (V := .int .i64 (F : Int)) (by simp [sN, hcF]) rfl rfl rfl rfl (Gr (.pointer (some ⟨bf, of + F * 2, none⟩)) (fun ρ y W hb hKn => (aR rfl (az rfl hKn) (az rfl hKn) hFl Try.underlying34 file_size)) rfl rfl (Gf bf (of + F * 2 + 1) rfl rfl (Gc (.slice P.a P.l.length P.c) (fun W hb => by simp [hcs _ hb]) rfl rfl rfl rfl (Gn rfl rfl rfl rfl (Gb (.bool false) (by simp [go_sem, c4]) rfl rfl rfl rfl rfl (Gk rfl (Gk rfl (Gf wr.heap.size 2 rfl rfl (Gl cx3 rfl rfl rfl rfl rfl (Gb (.bool false) (by simp [go_sem, c5]) rfl rfl rfl rfl rfl (Gk rfl (Gk rfl (Gf wr.heap.size 2 rfl rfl (Gl cx3 rfl rfl rfl rfl rfl (Gf w.heap.size 0 rfl rfl (Gf w.heap.size 0 rfl rfl (Gl bx3 rfl rfl rfl rfl rfl (Gn rfl rfl rfl rfl (Gb (.bool false) (by simp [go_sem, c6]) rfl rfl rfl rfl rfl (Gk rfl (all_nil)))))))))))))))))))))))))))))))))))))))))))))) (fun _ => rfl) rfl ?_
      intro y W4 hbW4 _
      have bx4 := bx3.ext hbW4
      have cx4 := cx3.ext hbW4
      have hbr4 := ae hbr3 hbW4
      have hfm4 := hfm3.below hbW4
      have hM4 := hM3.below hbW4
      have hc := bx4.cell
      unfold bM at hc
      rw [ham] at hc
      have hcc := cx4.cell
      unfold sN at hcc
      rw [hcK] at hcc
      have hKi : (K : Int) < (H.m.fs.length : Int) := by omega
      clear hcs hbr3 bx3 cx3 hfm3 hM3 hbW4 hai c1 c2 c3 c4 c5 c6
      go_wp2_with (first | (refine ak _ _ rfl bm (om + K * 13) rfl rfl _ hfm4 _ Try.underlying59 rfl frame_size ?_) | (refine aD rfl _ _ _ rfl (qa X) rfl rfl rfl frame_size (kV _) ?_))
      intro w5 hb5 fx5
      have bx5 := bx4.ext hb5
      have cx5 := cx4.ext hb5
      have hbr5 := ae hbr4 hb5
      have hM5 := hM4.below hb5
      clear hbr4 bx4 cx4 hfm4 hM4 hb5 hc hcc
      have hfx := fx5.cell
      unfold qa at hfx
      have hcc := cx5.cell
      unfold sN at hcc
      obtain ⟨g7, g8, g9⟩ := hc78.out
      have d1 : ¬ X.r = 0 := by omega
      rw [g8, g9] at hfx
      clear g7 g8 g9
      go_upto_region 12 with (fail)
      rcases Nat.eq_zero_or_pos q with hq0 | hqp
      · subst hq0
        refine aC 27 [_,_,_,_,_,_,_,_,_,_,_,_,_,_,_,_,_,_,_,_,_,_,_,_,_,_,.v (.bool false)] (Gk rfl (Gb (.bool false) (by simp [go_sem, ]) rfl rfl rfl rfl rfl (Gk rfl (Gk rfl (Gk rfl (Gk rfl (Gk rfl (Gk rfl (Gk rfl (Gk rfl (Gk rfl (Gk rfl (Gk rfl (Gk rfl (Gk rfl (Gk rfl (Gk rfl (Gk rfl (Gk rfl (Gk rfl (Gk rfl (Gk rfl (Gk rfl (Gk rfl (Gk rfl (Gk rfl (Gk rfl (all_nil)))))))))))))))))))))))))))) (fun _ => rfl) rfl ?_
        intro y W6 hbW6 _
        have bx6 := bx5.ext hbW6
        have hbr6 := ae hbr5 hbW6
        clear hM5 hac ham
        go_wp2
        go_roundw
        case rel => exact ⟨1, by omega, by go_num, hbr6, bx6⟩
        case measure => simp [intOf]; omega
      · obtain ⟨q1, hq1⟩ : ∃ q1, q = q1 + 1 := ⟨q - 1, by omega⟩
        obtain ⟨d, hd, hlt, g1, g2, g3, g4⟩ := hprev.out q1 hq1
        have hq1l : q1 < H.ca.length := by omega
        obtain ⟨bc', oc', hac', hel'⟩ := fE ku (by decide) hM5.ca.rd q1 hq1l
        rw [hac] at hac'
        cases hac'
        have hdq : H.ca[q1] = d := by
          have := List.getElem?_eq_getElem hq1l
          rw [hd] at this
          exact (Option.some.inj this).symm
        rw [hdq] at hel'
        have hd0 : ∀ W, Below w5.heap.size w5 W → W.cell? ⟨bc, oc + q1 * 3, none⟩ = some (.int .i64 d.f) := fun W hb => by
          obtain ⟨b', o', e, hc⟩ := (hel'.below hb) 0 _ rfl
          cases e
          exact hc
        have hd1 : ∀ W, Below w5.heap.size w5 W → W.cell? ⟨bc, oc + q1 * 3 + 1, none⟩ = some (.int .i64 d.i) := fun W hb => by
          obtain ⟨b', o', e, hc⟩ := (hel'.below hb) 1 _ rfl
          cases e
          exact hc
        obtain ⟨e1, e2, e3, e4⟩ := hlt5.out
        have m0 : IntKind.i64.wrap ((q : Int) - 1) = (q1 : Int) := (IntWalk.i64_in _ (by omega)).trans (by omega)
        have m1 : IntKind.i64.wrap (100 * d.f) = 100 * d.f := (IntWalk.i64_in _ (by omega)).trans (by omega)
        have m2 : IntKind.i64.wrap (100 * d.f + d.i) = 100 * d.f + d.i := (IntWalk.i64_in _ (by omega)).trans (by omega)
        have m3 : IntKind.i64.wrap (100 * c.f) = 100 * c.f := (IntWalk.i64_in _ (by omega)).trans (by omega)
        have m4 : IntKind.i64.wrap (100 * c.f + c.i) = 100 * c.f + c.i := (IntWalk.i64_in _ (by omega)).trans (by omega)
        have m5 : ¬ 100 * c.f + c.i ≤ 100 * d.f + d.i := by unfold xz at hlt; omega
        refine aC 27 [_,_,_,_,_,_,_,_,_,_,_,_,_,_,_,_,_,_,_,_,_,_,_,_,_,_,.v (.bool false)] (Gk rfl (Gb (.bool true) (by simp [go_sem, hqp]) rfl rfl rfl rfl rfl (Gk rfl (Gf w.heap.size 9 rfl rfl (Gl bx5 (V := .slice (some ⟨bc, oc, none⟩) H.ca.length H.cc) (by simp [bM, hac]) rfl rfl rfl rfl (Gk rfl (Gb (.int .i64 (q1 : Int)) (by simp [go_sem, m0]) rfl rfl rfl rfl rfl (Gr (.pointer (some ⟨bc, oc + q1 * 3, none⟩)) (fun ρ y W hb hKn => (aR rfl (az rfl hKn) (az rfl hKn) hq1l Try.underlying37 cached_size)) rfl rfl (Gf bc (oc + q1 * 3) rfl rfl (Gc (.int .i64 d.f) (fun W hb => by simp [hd0 _ hb]) rfl rfl rfl rfl (Gb (.int .i64 (100 * d.f)) (by simp [go_sem, m1]) rfl rfl rfl rfl rfl (Gf w.heap.size 9 rfl rfl (Gl bx5 (V := .slice (some ⟨bc, oc, none⟩) H.ca.length H.cc) (by simp [bM, hac]) rfl rfl rfl rfl (Gk rfl (Gb (.int .i64 (q1 : Int)) (by simp [go_sem, m0]) rfl rfl rfl rfl rfl (Gr (.pointer (some ⟨bc, oc + q1 * 3, none⟩)) (fun ρ y W hb hKn => (aR rfl (az rfl hKn) (az rfl hKn) hq1l Try.underlying37 cached_size)) rfl rfl (Gf bc (oc + q1 * 3 + 1) rfl rfl (Gc (.int .i64 d.i) (fun W hb => by simp [hd1 _ hb]) rfl rfl rfl rfl (Gb (.int .i64 (100 * d.f + d.i)) (by simp [go_sem, m2]) rfl rfl rfl rfl rfl (Gf wr.heap.size 0 rfl rfl (Gl cx5 rfl rfl rfl rfl rfl (Gb (.int .i64 (100 * c.f)) (by simp [go_sem, m3]) rfl rfl rfl rfl rfl (Gf wr.heap.size 1 rfl rfl (Gl cx5 rfl rfl rfl rfl rfl (Gb (.int .i64 (100 * c.f + c.i)) (by simp [go_sem, m4]) rfl rfl rfl rfl rfl (Gb (.bool false) (by simp [go_sem, m5]) rfl rfl rfl rfl rfl (Gk rfl (all_nil)))))))))))))))))))))))))))) (fun _ => rfl) rfl ?_
        intro y W6 hbW6 _
        have bx6 := bx5.ext hbW6
        have hbr6 := ae hbr5 hbW6
        clear hM5 hac ham hd0 hd1 m0 m1 m2 m3 m4 m5 hel' hd hlt g1 g2 g3 g4 e1 e2 e3 e4 hdq hq1
        go_wp2
        go_roundw
        case rel => exact ⟨q + 1, by omega, by go_num, hbr6, bx6⟩
        case measure => simp [intOf]; omega
    · have hqi : ¬ (q : Int) < (H.ca.length : Int) := by omega
      have hc := bx.cell
      unfold bM at hc
      clear hM
      go_wp2
      go_loopw [134] (fun s134 wr => ∃ p : Nat, p ≤ H.sp.length ∧ s134 = .int .i64 p ∧ Below w.heap.size w wr ∧ aB wr w.heap.size (bM H) 40) (fun s134 _ => H.sp.length - (intOf s134).toNat)
      case atStart => exact ⟨0, Nat.zero_le _, rfl, hbr, bx⟩
      case round =>
        clear hbr bx hc hqi
        obtain ⟨p, hp, rfl, hbr, bx⟩ := hrel
        have hM := hh.out.below hbr
        by_cases hpl : p < H.sp.length
        · obtain ⟨bd, od, P, hda, hP, hrd⟩ := lC hM.sp.rd p hpl
          have hpi : (p : Int) < (H.sp.length : Int) := by omega
          have hgood := nz hM hP
          have hsP : P.sp ∈ H.ma.sp := by show P.sp ∈ H.sp.map PS.sp; exact List.mem_map.2 ⟨P, List.mem_of_getElem? hP, rfl⟩
          have hal : (aT P.ar).1 = 0 := hR'.out.pt.ar P.sp hsP
          have htb : Hid (bB P.tb = 0) := Lib.hid (hR'.out.pt.tb P.sp hsP)
          have hsp := Lib.hid (jJ hP)
          obtain ⟨hal16, halE⟩ := pz hal
          have hon : Hid (∀ i : Nat, bu P.ar i = iK H.ma p i) := Lib.hid (fun i => by
            rw [kC (iO (eQ.1 hal).2)]
            unfold iK
            rw [hsp.out]; rfl)
          rw [hda]
          go_wp2_with (first | (refine ak _ _ rfl bd (od + p * 10) rfl rfl _ hrd _ Try.underlying65 rfl space_size ?_) | (refine aD rfl _ _ _ rfl (ny P) rfl rfl rfl space_size (by rw [← Array.all_toList, List.all_eq_true]; exact hgood.one) ?_))
          intro w6 hb6 px6
          have hbr6 := ae hbr hb6
          have bx6 := bx.ext hb6
          have hg6 := hgood.below hb6
          have hcp := px6.cell
          unfold ny at hcp
          clear hbr bx hb6 hrd hM hgood hal
          go_wp2_with fail
          refine (kv P.ar P.aa P.ac _ hg6.ars.rd (by omega) halE).mono ?_
          rintro r w7 ⟨rfl, hb7⟩
          have hbr7 := ae hbr6 hb7
          have bx7 := bx6.ext hb7
          have px7 := px6.ext hb7
          have hg7 := hg6.below hb7
          clear hbr6 bx6 px6 hg6 hb7 hcp
          go_wp2_with (refine aD rfl _ _ _ rfl (fC (bu P.ar)) rfl rfl (by rw [fG]; rfl) (by rw [fG]; exact ones_size) (rJ _) ?_)
          intro w8 hb8 ox8
          have hbr8 := ae hbr7 hb8
          have bx8 := bx7.ext hb8
          have px8 := px7.ext hb8
          have hg8 := hg7.below hb8
          clear hbr7 bx7 px7 hg7 hb8
          have hrt : bZ w8 (some ⟨wr.heap.size, 2, none⟩) (iG P.ts).toList := bG px8 2 8
          go_wp2_with (refine ak _ _ rfl wr.heap.size 2 rfl rfl _ hrt _ Try.underlying63 tab_agg tab_size ?_)
          refine (tK P.tb (iG P.ts) _ hg8.tb htb.out).mono ?_
          rintro r w9 ⟨rfl, hb9⟩
          rw [zM (pM P.tb)]
          have hE : Hid (∀ n : Nat, n < 64 → (bA P.tb).getD n zEn = ent H.ma p n) := Lib.hid (fun n hn => by rw [Jd hn]; unfold ent; rw [hsp.out]; rfl)
          have hbr9 := ae hbr8 hb9
          have bx9 := bx8.ext hb9
          have ox9 := ox8.ext hb9
          generalize bA P.tb = l at *
          obtain ⟨go, hgo⟩ : ∃ go, w7.heap.size = go := ⟨_, rfl⟩
          rw [hgo] at ox9 ⊢
          clear hbr8 bx8 px8 hg8 hb9 hrt ox8 hgo
          go_wp2
          go_loopw [144] (fun s144 wr => ∃ i : Nat, i ≤ 64 ∧ s144 = .int .i64 i ∧ Below w.heap.size w wr ∧ aB wr w.heap.size (bM H) 40 ∧ aB wr go (fC (bu P.ar)) 107) (fun s144 _ => 64 - (intOf s144).toNat)
          case atStart => exact ⟨0, by omega, rfl, hbr9, bx9, ox9⟩
          case round =>
            clear hbr9 bx9 ox9
            obtain ⟨i, hi, rfl, hbr, bx, ox⟩ := hrel
            by_cases hil : i < 64
            · have hii : (i : Int) < 64 := by omega
              have hix0 := hE.out i hil
              generalize heE : ent H.ma p i = E at hix0
              have hix := uQ l i hil E hix0
              have heE' := Lib.hid heE
              clear heE hix0
              go_wp2_with (refine aD rfl _ _ _ rfl (fA E) rfl rfl rfl entry_size (by simp [fA, Value.oneCell']) ?_)
              intro wa hba ea
              have hbra := ae hbr hba
              have bxa := bx.ext hba
              have oxa := ox.ext hba
              clear hix hbr bx ox hba
              have hx := ea.cell
              unfold fA at hx
              by_cases hk0 : E.k = 0
              · rw [hk0] at hx
                clear hk0
                go_wp2
                go_roundw
                case rel => exact ⟨i + 1, by omega, by go_num, hbra, bxa, oxa⟩
                case measure => simp [intOf]; omega
              · obtain ⟨g, hg, hf⟩ := hR'.out.en p i (by rw [heE'.out]; exact hk0)
                rw [heE'.out] at hf
                have hent : dm E = 0 := by rw [← heE'.out]; unfold ent; rw [hsp.out]; exact kD htb.out i
                have hog : bu P.ar i = some g := (hon.out i).trans hg
                have hog' := Lib.hid hog
                have hfe := Lib.hid (And.intro hf (And.intro hk0 hent))
                clear hf hg hent hog
                go_upto_region 23 with (fail)
                refine aC 7 [_,_,_,_,_,.v (.int .i64 0),.v (.int .i64 0)] (Gr (.agg (bM H)) (fun ρ y W hb hKn => (aS rfl (az rfl hKn) (bxa.ext hb) Try.underlying40 rfl machine_size)) rfl rfl (Gk rfl (Gr (.pointer (some ⟨go, 0 + i * 6, none⟩)) (fun ρ y W hb hKn => (Ik rfl (az rfl hKn) (az rfl hKn) hil Try.underlying107 one_size)) rfl rfl (Gr (.agg (nO (some g))) (fun ρ y W hb hKn => (bN rfl (az rfl hKn) (by rw [Nat.zero_add]; exact LX (oxa.ext hb) hil hog'.out) Try.underlying106 rfl one_size)) rfl rfl (Gr (.agg (fA E)) (fun ρ y W hb hKn => (aS rfl (az rfl hKn) (ea.ext hb) Try.underlying67 rfl entry_size)) rfl rfl (all_cons ?_ (Gk rfl (all_nil)))))))) (fun _ => rfl) rfl ?_
                · intro ρ y W hw hn hb hd; have E151 := hw 151 0 rfl; have h0 : y 0 = _ := hd 0 rfl; have E154 := hw 154 3 rfl; have h3 : y 3 = _ := hd 3 rfl; have E155 := hw 155 4 rfl; have h4 : y 4 = _ := hd 4 rfl
                  have EF : ∀ f, ρ (.func f) = .func (.func f) #[] #[] := fun f => hn (.func f) trivial
                  refine aG _ _ (ag rfl) (aK rfl (EF _) Try.func46 (by kernel_rfl) (by kernel_rfl) (by simp only [List.map_toArray, List.map_cons, List.map_nil, E151, h0, E154, h3, E155, h4, EF]; rfl)) ?_
                  refine (FU H g E W (hh.out.below (ae hbra hb)) hR'.out hfe.out.1 hfe.out.2.1 hfe.out.2.2).mono ?_
                  rintro r wz ⟨rfl, hbz⟩
                  exact ⟨_, rfl, hbz, rfl⟩
                intro y wb hbwb _
                have hbrb := ae hbra hbwb
                have bxb := bxa.ext hbwb
                have oxb := oxa.ext hbwb
                clear hbra bxa oxa ea hx hbwb
                go_wp2
                go_roundw
                case rel => exact ⟨i + 1, by omega, by go_num, hbrb, bxb, oxb⟩
                case measure => simp [intOf]; omega
            · have hii : ¬ (i : Int) < 64 := by omega
              clear ox
              go_wp2
              go_roundw
              case rel => exact ⟨p + 1, by omega, by go_num, hbr, bx⟩
              case measure => simp [intOf]; omega
        · have hpi : ¬ (p : Int) < (H.sp.length : Int) := by omega
          have hc := bx.cell
          unfold bM at hc
          clear hM
          go_wp2
          go_loopw [166] (fun s166 wr => ∃ k : Nat, k ≤ H.m.fs.length ∧ s166 = .int .i64 k ∧ Below w.heap.size w wr ∧ aB wr w.heap.size (bM H) 40) (fun s166 _ => H.m.fs.length - (intOf s166).toNat)
          case atStart => exact ⟨0, Nat.zero_le _, rfl, hbr, bx⟩
          case round =>
            clear hbr bx hc hpi
            obtain ⟨k, hk, rfl, hbr, bx⟩ := hrel
            have hM := hh.out.below hbr
            by_cases hkl : k < H.m.fs.length
            · obtain ⟨bm, om, ham, hfm⟩ := fE eu (by decide) hM.fr.rd k hkl
              have hki : (k : Int) < (H.m.fs.length : Int) := by omega
              have hKe : bn H.ma k = H.m.fs[k] := by unfold bn; show H.m.fs.getD k fr0 = _; rw [List.getD_eq_getElem?_getD, List.getElem?_eq_getElem hkl]; rfl
              have hcf := hR'.out.cf k hkl
              have hfc := hR'.out.fc k hkl
              rw [hKe] at hcf hfc
              have hho : bP H.ma 1 k ≤ 256 := by
                have h9 := wO H.ma 1 k
                have e9 : H.ma.sp.length = H.sp.length := nK H
                omega
              have hcaN : qM H.ma k ≤ H.ca.length := List.countP_le_length
              generalize H.m.fs[k] = X at *
              have hfc' := Lib.hid hfc
              have hcf' := Lib.hid hcf
              clear hKe hcf hfc
              rw [ham]
              go_wp2_with (first | (refine ak _ _ rfl bm (om + k * 13) rfl rfl _ hfm _ Try.underlying59 rfl frame_size ?_) | (refine aD rfl _ _ _ rfl (qa X) rfl rfl rfl frame_size (kV _) ?_))
              intro w6 hb6 fx6
              have hbr6 := ae hbr hb6
              have bx6 := bx.ext hb6
              have hM6 := hM.below hb6
              clear hbr bx hb6 hfm hM ham
              go_wp2_with (refine ak _ _ rfl w.heap.size 0 rfl rfl _ bx6.rd _ Try.underlying40 rfl machine_size ?_)
              refine (rT H 1 k _ hM6 hR'.out).mono ?_
              rintro r w7 ⟨rfl, hb7⟩
              have hbr7 := ae hbr6 hb7
              have bx7 := bx6.ext hb7
              have fx7 := fx6.ext hb7
              clear hbr6 bx6 hM6 fx6 hb7
              obtain ⟨gf, hgf⟩ : ∃ gf, wr.heap.size = gf := ⟨_, rfl⟩
              rw [hgf] at fx7 ⊢
              generalize hhN : bP H.ma 1 k = N at *
              have hhN' := Lib.hid hhN
              clear hgf hhN
              have hc := bx7.cell
              unfold bM at hc
              go_wp2
              go_loopw [177, 16] (fun s177 s16 wr => ∃ i m : Nat, i ≤ H.ca.length ∧ s177 = .int .i64 i ∧ s16 = .int .i64 m ∧ m ≤ i ∧ Below w.heap.size w wr ∧ aB wr w.heap.size (bM H) 40 ∧ aB wr gf (qa X) 59 ∧ Hid (m = (H.ca.take i).countP fun c => decide (c.k = (k : Int)))) (fun s177 _ _ => H.ca.length - (intOf s177).toNat)
              case atStart => exact ⟨0, 0, Nat.zero_le _, rfl, rfl, Nat.le_refl _, hbr7, bx7, fx7, Lib.hid (by simp)⟩
              case round =>
                clear hbr7 bx7 fx7 hc
                obtain ⟨i, m, hi, rfl, rfl, hm, hbr, bx, fx, hcm⟩ := hrel
                have hM := hh.out.below hbr
                by_cases hil : i < H.ca.length
                · obtain ⟨bc, oc, hac, hel⟩ := fE ku (by decide) hM.ca.rd i hil
                  have hii : (i : Int) < (H.ca.length : Int) := by omega
                  have hct : Hid ((H.ca.take (i + 1)).countP (fun c => decide (c.k = (k : Int))) = (H.ca.take i).countP (fun c => decide (c.k = (k : Int))) + if decide ((H.ca[i]).k = (k : Int)) = true then 1 else 0) := Lib.hid (lZ _ _ _ hil)
                  generalize H.ca[i] = c at *
                  rw [hac]
                  go_wp2_with (first | (refine ak _ _ rfl bc (oc + i * 3) rfl rfl _ hel _ Try.underlying85 rfl cached_size ?_) | (refine aD rfl _ _ _ rfl (sN c) rfl rfl rfl cached_size (nJ _) ?_))
                  intro w8 hb8 cx8
                  have hbr8 := ae hbr hb8
                  have bx8 := bx.ext hb8
                  have fx8 := fx.ext hb8
                  have hcc := cx8.cell
                  unfold sN at hcc
                  clear hbr bx fx hb8 hel hM cx8 hac
                  by_cases hck : c.k = (k : Int)
                  · have hcm' : Hid (m + 1 = (H.ca.take (i + 1)).countP fun c => decide (c.k = (k : Int))) := Lib.hid (by rw [hct.out, ← hcm.out]; simp [hck])
                    clear hcm hct
                    go_wp2
                    go_roundw
                    case rel => exact ⟨i + 1, m + 1, by omega, by go_num, by go_num, by omega, hbr8, bx8, fx8, hcm'⟩
                    case measure => simp [intOf]; omega
                  · have hcm' : Hid (m = (H.ca.take (i + 1)).countP fun c => decide (c.k = (k : Int))) := Lib.hid (by rw [hct.out, ← hcm.out]; simp [hck])
                    clear hcm hct
                    go_wp2
                    go_roundw
                    case rel => exact ⟨i + 1, m, by omega, by go_num, rfl, by omega, hbr8, bx8, fx8, hcm'⟩
                    case measure => simp [intOf]; omega
                · have hii : ¬ (i : Int) < (H.ca.length : Int) := by omega
                  have hm' : m = qM H.ma k := by
                    rw [hcm.out, List.take_of_length_le (by omega)]; rfl
                  have hXr : X.r = (m : Int) + (N : Int) := by rw [hcf'.out, hm']
                  have hXf : 0 ≤ X.f → ¬ m = 0 := fun h0 e => by
                    obtain ⟨c, hc, hck⟩ := hfc'.out h0
                    have h9 : 0 < qM H.ma k := List.countP_pos_iff.2 ⟨c, hc, by simp [hck]⟩
                    omega
                  have hsum : (N : Int) + (m : Int) = X.r := by omega
                  have hfx := fx.cell
                  unfold qa at hfx
                  have hwr : IntKind.i64.wrap ((N : Int) + (m : Int)) = X.r := (IntWalk.i64_in _ (by omega)).trans hsum
                  clear hcm hM hm' hXr hsum hcaN
                  by_cases h0 : 0 ≤ X.f
                  · have hm0 : ¬ (m : Int) = 0 := by have := hXf h0; omega
                    clear hXf
                    go_wp2
                    go_roundw
                    case rel => exact ⟨k + 1, by omega, by go_num, hbr, bx⟩
                    case measure => simp [intOf]; omega
                  · clear hXf
                    go_wp2
                    go_roundw
                    case rel => exact ⟨k + 1, by omega, by go_num, hbr, bx⟩
                    case measure => simp [intOf]; omega
            · have hki : ¬ (k : Int) < (H.m.fs.length : Int) := by omega
              have hc := bx.cell
              unfold bM at hc
              clear hM
              go_wp2
              go_loopw [207] (fun s207 wr => ∃ k : Nat, k ≤ H.sl.length ∧ s207 = .int .i64 k ∧ Below w.heap.size w wr ∧ aB wr w.heap.size (bM H) 40) (fun s207 _ => H.sl.length - (intOf s207).toNat)
              case atStart => exact ⟨0, Nat.zero_le _, rfl, hbr, bx⟩
              case round =>
                clear hbr bx hc hki
                obtain ⟨k, hk, rfl, hbr, bx⟩ := hrel
                have hM := hh.out.below hbr
                by_cases hkl : k < H.sl.length
                · have hki : (k : Int) < (H.sl.length : Int) := by omega
                  obtain ⟨bl, ol, hal, hcj⟩ := hM.sl.rd k (dE H.sl[k]) (by rw [List.getElem?_map, List.getElem?_eq_getElem hkl]; rfl)
                  unfold dE at hcj
                  have hcs := hR'.out.cs k hkl
                  have hse : fB H.ma k = H.sl[k] := by unfold fB; show H.sl.getD k 0 = _; rw [List.getD_eq_getElem?_getD, List.getElem?_eq_getElem hkl]; rfl
                  rw [hse] at hcs
                  rw [hcs] at hcj
                  rw [hal]
                  clear hcs hse
                  go_wp2_with (refine ak _ _ rfl w.heap.size 0 rfl rfl _ bx.rd _ Try.underlying40 rfl machine_size ?_)
                  refine (rT H 2 k _ hM hR'.out).mono ?_
                  rintro r w7 ⟨rfl, hb7⟩
                  have hbr7 := ae hbr hb7
                  have bx7 := bx.ext hb7
                  clear hbr bx hM hb7 hcj hal
                  go_wp2
                  go_roundw
                  case rel => exact ⟨k + 1, by omega, by go_num, hbr7, bx7⟩
                  case measure => simp [intOf]; omega
                · have hki : ¬ (k : Int) < (H.sl.length : Int) := by omega
                  clear hM
                  go_wp2
                  go_ret
                  exact ⟨rfl, hbr⟩
theorem LF {w:World} {b:Nat} {vs:List Value} {cs:Array Value} {T:TypeId} (m:World→Prop) (hb:aB (w.setCells b 0 vs) b cs T) (h:∀W,w.grownBy W (some b)→aB W b cs T→m W):m (w.setCells b 0 vs).drew:=by
 have h1:=aH w b 0 vs
 generalize w.setCells b 0 vs=W0 at *
 exact h _ ⟨h1.os,h1.tape,h1.output,h1.size,h1.block⟩ hb
theorem LB {w:World} {b:Nat} {p:Page} {cur:Array Value} {T:TypeId} (m:World→Prop) (hb:aB w b cur T) (hs:(dO p).size=cur.size) (h:∀W,w.grownBy W (some b)→aB W b (dO p) T→m W):m (w.setCells b 0 (dO p).toList).drew:=
 LF m (by
  have h2:=hb.setCells (dO p).toList 0
  rw[gN cur (dO p) hs] at h2
  exact h2) h
theorem FQ (H:MH) (p n:Nat) (w:World) (h:qV w H) (hR:Rt H.ma) (hp:p<H.sp.length) (hn:n<64) :
  Calls Try.prog 66 #[.agg (bM H),.int .i64 p,.int .i64 n] w fun r w'=>r = .returned (.tuple #[.agg (dO (fO H.ma p n).1),.bool (fO H.ma p n).2.1,.int .i64 (fO H.ma p n).2.2])∧Below w.heap.size w w':=by
 have hh:=Lib.hid h
 have hR':=Lib.hid hR
 clear hR
 go_enter Try.func66,Try.ntmps66
 go_upto_region 1 with (fail)
 refine nQ (fun W=>Code.wp _ _ _ _ W) fun w1 hb1 bx1 px1 hs1 => ?_
 have bx1:aB w1 w.heap.size (bM H) 40:=bx1
 have h1:=h.below hb1
 clear h hs1
 have hpi:(p:Int)<(H.sp.length:Int):=by omega
 obtain⟨bs,os,P,hap,hP,hrd⟩:=lC h1.sp.rd p hp
 have hgood:=nz h1 hP
 have hsP:P.sp∈H.ma.sp:=by show P.sp∈H.sp.map PS.sp;exact List.mem_map.2 ⟨P,List.mem_of_getElem? hP,rfl⟩
 have hal:(aT P.ar).1=0:=hR'.out.pt.ar P.sp hsP
 have htb:Hid (bB P.tb=0):=Lib.hid (hR'.out.pt.tb P.sp hsP)
 have hsp:=Lib.hid (jJ hP)
 have hs1:w1.cell? ⟨bs,os+p*10+1,none⟩=some (.slice P.aa P.ar.length P.ac):=by
  obtain⟨b',o',e,hc⟩:=hrd 1 _ rfl
  cases e
  exact hc
 have hc:=bx1.cell
 unfold bM at hc
 rw[hap] at hc
 obtain⟨hal16,halE⟩:=pz hal
 go_wp2_with fail
 refine (kv P.ar P.aa P.ac _ hgood.ars.rd (by omega) halE).mono ?_
 rintro r w2 ⟨rfl,hb2⟩
 have hbr2:=ae hb1 hb2
 have bx2:=bx1.ext hb2
 have px2:=px1.ext hb2
 have hrd2:=hrd.below hb2
 have hg2:=hgood.below hb2
 clear hc hs1 hb1 bx1 px1 hb2 hrd hgood h1 hal16
 have hon:bu P.ar n=iK H.ma p n:=by
  rw[kC (iO (eQ.1 hal).2)]
  unfold iK
  rw[hsp.out];rfl
 generalize hog:iK H.ma p n=o at hon
 have hix:=ru (bu P.ar) n hn o hon
 have hog':=Lib.hid hog
 clear hog hon hal halE
 go_wp2_with (refine aD rfl _ _ _ rfl (nO o) rfl rfl rfl one_size (AU o) ?_)
 intro w3 hb3 ox3
 have hbr3:=ae hbr2 hb3
 have bx3:=bx2.ext hb3
 have px3:=px2.ext hb3
 have hrd3:=hrd2.below hb3
 have hg3:=hg2.below hb3
 clear hix hbr2 bx2 px2 hb3 hrd2 hg2
 cases o with
 | none=>
  have hsee:Hid (fO H.ma p n=(zPg,false,5)):=Lib.hid (by unfold fO;rw[hog'.out])
  have ho:=ox3.cell
  have ho0:(nO none)[0]?=some (.bool false):=rfl
  have hbr9:=hbr3
  have px9:=px3
  go_wp2_with (refine ax rfl _ _ _ rfl (w.heap.size+1) (dO zPg) rfl rfl _ _ px9 rfl psize (dP _) ?_)
  intro we pxe hge
  have hbre:=hbr9.grown hge hbr9.size (fun k hk=>by cases hk;omega)
  go_wp2
  refine bodyPost_ret (v:=.tuple #[.agg (dO zPg),.bool false,.int .i64 5]) (dH Try.results66 _ _ (w.heap.size+1) _ _ _ _ _ rfl rfl rfl pxe Try.underlying50 rfl psize) rfl ?_
  rw[hsee.out]
  exact⟨rfl,hbre⟩
 | some g=>
  have ox3:aB w3 w2.heap.size #[.bool true,.bool g.rd,.bool g.wr,.bool g.sh,.int .i64 g.fi,.int .i64 g.pg] 106:=ox3
  have ho:=ox3.cell
  have hrt:=mP hrd3 2 8
  have hc:=bx3.cell
  unfold bM at hc
  rw[hap] at hc
  go_wp2_with (refine ak _ _ rfl bs (os+p*10+2) rfl rfl _ hrt _ Try.underlying63 tab_agg tab_size ?_)
  refine (tK P.tb (iG P.ts) _ hg3.tb htb.out).mono ?_
  rintro r w4 ⟨rfl,hb4⟩
  rw[zM (pM P.tb)]
  have hE:(bA P.tb).getD n zEn=ent H.ma p n:=by rw[Jd hn];unfold ent;rw[hsp.out];rfl
  generalize heE:ent H.ma p n=E at hE
  have hix:=uQ (bA P.tb) n hn E hE
  have heE':=Lib.hid heE
  clear heE hE hc ho hrt hrd3 hg3
  have hbr4:=ae hbr3 hb4
  have bx4:=bx3.ext hb4
  have px4:=px3.ext hb4
  have ox4:=ox3.ext hb4
  clear hbr3 bx3 px3 hb4 ox3 hap
  go_wp2_with (refine aD rfl _ _ _ rfl (fA E) rfl rfl rfl entry_size (by simp[fA,Value.oneCell']) ?_)
  intro w5 hb5 ex5
  have hbr5:=ae hbr4 hb5
  have bx5:=bx4.ext hb5
  have px5:=px4.ext hb5
  have ox5:=ox4.ext hb5
  clear hix hbr4 bx4 px4 ox4 hb5
  have ho:=ox5.cell
  have hx:=ex5.cell
  unfold fA at hx
  have hfit:Hid (E.k≠0→Jz H.ma g E):=Lib.hid (fun hk=>by
   obtain⟨g',hg',hf⟩:=hR'.out.en p n (by rw[heE'.out];exact hk)
   rw[hog'.out] at hg'
   cases hg'
   rw[heE'.out] at hf
   exact hf)
  have hM5:=hh.out.below hbr5
  have hent:Hid (dm E=0):=Lib.hid (by rw[←heE'.out];unfold ent;rw[hsp.out];exact kD htb.out n)
  by_cases k1:E.k=1
  ·have hfE:=hfit.out (by omega)
   have q1:E.n<(H.m.fs.length:Int):=hfE.lt k1
   have q0:0≤E.n:=by have:=(bv _).1 hent.out;omega
   obtain⟨F,hF⟩:∃F:Nat,E.n=F:=⟨E.n.toNat,by omega⟩
   have hFl:F<H.m.fs.length:=by omega
   obtain⟨bf,of,haf,hel⟩:=fE eu (by decide) hM5.fr.rd F hFl
   have hFe:jI H.ma E.n=H.m.fs[F]:=by rw[hF,xy];unfold bn;show H.m.fs.getD F fr0=_;rw[List.getD_eq_getElem?_getD,List.getElem?_eq_getElem hFl];rfl
   have hsee0:Hid (fO H.ma p n=((H.m.fs[F]).p,decide ((H.m.fs[F]).f<0),0)):=Lib.hid (by
    unfold fO
    rw[hog'.out]
    dsimp only
    rw[heE'.out,if_pos k1,hFe])
   generalize H.m.fs[F]=X at *
   have hc:=bx5.cell
   unfold bM at hc
   rw[haf] at hc
   rw[k1,hF] at hx
   have hFi:(F:Int)<(H.m.fs.length:Int):=by omega
   clear hFe hfE q1 q0 ho ox5 k1 hF
   go_wp2_with (first | (refine ak _ _ rfl bf (of+F*13) rfl rfl _ hel _ Try.underlying59 rfl frame_size ?_) | (refine aD rfl _ _ _ rfl (qa X) rfl rfl rfl frame_size (kV _) ?_))
   intro w6 hb6 fx6
   have hbr6:=ae hbr5 hb6
   have px5l:=Lib.hid px5.lt
   have px6:=px5.ext hb6
   clear hbr5 px5 bx5 hb6 hel hc hM5 hx ex5
   go_upto_region 9 with (fail)
   have hfx:=fx6.cell
   unfold qa at hfx
   have hpx:=px6.cell
   have hne:w.heap.size+1≠w5.heap.size:=by have:=px5l.out;omega
   have hne' : w5.heap.size≠w.heap.size+1:=fun e=>hne e.symm
   have hfr:=px6.free
   go_region
   all_goals (refine LB (p:=X.p) (b:=w.heap.size+1) (fun W=>Exit.then _ _ _ _ W) px6 rfl fun we hge pxe => ?_)
   all_goals clear hfx hpx hne hne' hfr fx6 px6
   all_goals (have hbre:=hbr6.grown hge hbr6.size (fun k hk=>by cases hk;omega))
   all_goals go_wp2
   all_goals (refine bodyPost_ret (v:=.tuple #[.agg (dO X.p),.bool (decide (X.f<0)),.int .i64 0]) (dH Try.results66 _ _ (w.heap.size+1) _ _ _ _ _ rfl rfl rfl pxe Try.underlying50 rfl psize) rfl ?_)
   all_goals rw[hsee0.out]
   all_goals exact⟨rfl,hbre⟩
  by_cases k2:E.k=2
  ·have hfE:=hfit.out (by omega)
   obtain⟨q1,q2⟩:=hfE.sw k2
   have q0:0≤E.n:=by have:=(bv _).1 hent.out;omega
   have hwo:eX H.sw E.n=0:=AA.2 ⟨hR'.out.pt.sw,q0,by have:=hR'.out.pt.swl;have e:H.ma.sw.blocks.length=H.sw.blocks.length:=rfl;have e2:H.ma.sl.length=H.sl.length:=rfl;omega⟩
   have hsee:Hid (fO H.ma p n=(iy H.sw E.n,true,0)):=Lib.hid (by
    unfold fO
    rw[hog'.out]
    dsimp only
    rw[heE'.out,if_neg k1,if_pos k2,show eX H.ma.sw E.n=0 from hwo];rfl)
   rw[k2] at hx
   have r5:bZ w5 (some ⟨w.heap.size,3,none⟩) [.slice H.wb H.sw.blocks.length H.cwb,.slice H.wq H.sw.queue.length H.cwq]:=bG bx5 3 2
   clear hfE q1 q2 q0 ho ox5 k1 k2
   go_wp2_with (refine ak _ _ rfl w.heap.size 3 rfl rfl _ r5 _ Try.underlying33 rfl disk_size ?_)
   refine (xU H.sw E.n H.wb H.cwb H.wq H.cwq _ hM5.sw).mono ?_
   rintro r w6 ⟨rfl,hb6⟩
   rw[hwo]
   have hbr6:=ae hbr5 hb6
   have px6:=px5.ext hb6
   clear hbr5 px5 bx5 hb6 r5 hM5 hx ex5 hwo
   go_wp2_with (refine aD rfl _ _ _ rfl (dO (iy H.sw E.n)) rfl rfl rfl psize (dP _) ?_)
   intro w7 hb7 gx7
   have hbr9:=ae hbr6 hb7
   have px9:=px6.ext hb7
   clear hbr6 px6 hb7
   go_wp2_with (first | (refine ak _ _ rfl w6.heap.size 0 rfl rfl _ gx7.rd _ Try.underlying50 rfl psize ?_) | (refine ax rfl _ _ _ rfl (w.heap.size+1) (dO (iy H.sw E.n)) rfl rfl _ _ px9 rfl psize (dP _) ?_))
   intro we pxe hge
   have hbre:=hbr9.grown hge hbr9.size (fun k hk=>by cases hk;omega)
   go_wp2
   refine bodyPost_ret (v:=.tuple #[.agg (dO (iy H.sw E.n)),.bool true,.int .i64 0]) (dH Try.results66 _ _ (w.heap.size+1) _ _ _ _ _ rfl rfl rfl pxe Try.underlying50 rfl psize) rfl ?_
   rw[hsee.out]
   exact⟨rfl,hbre⟩
  have k0:E.k=0:=by have:=(bv _).1 hent.out;omega
  have hsee0:Hid (fO H.ma p n=if g.fi<0 then (zPg,false,0) else if (H.ma.st.fs.length:Int)≤g.fi∨ui H.ma.st g.fi g.pg=true then (zPg,false,9) else (aX H.ma g.fi g.pg,false,0)):=Lib.hid (by
   unfold fO
   rw[hog'.out]
   dsimp only
   rw[heE'.out,if_neg k1,if_neg k2])
  rw[k0] at hx
  clear hfit hent k1 k2 k0
  by_cases f0:g.fi<0
  ·have hsee:Hid (fO H.ma p n=(zPg,false,0)):=Lib.hid (by rw[hsee0.out,if_pos f0])
   have hbr9:=hbr5
   have px9:=px5
   clear hsee0
   go_wp2_with (refine ax rfl _ _ _ rfl (w.heap.size+1) (dO zPg) rfl rfl _ _ px9 rfl psize (dP _) ?_)
   intro we pxe hge
   have hbre:=hbr9.grown hge hbr9.size (fun k hk=>by cases hk;omega)
   go_wp2
   refine bodyPost_ret (v:=.tuple #[.agg (dO zPg),.bool false,.int .i64 0]) (dH Try.results66 _ _ (w.heap.size+1) _ _ _ _ _ rfl rfl rfl pxe Try.underlying50 rfl psize) rfl ?_
   rw[hsee.out]
   exact⟨rfl,hbre⟩
  have hpg:=Lib.hid (hR'.out.pt.pg hog'.out)
  have hfil:Hid (H.ma.st.fs.length=H.fi.length):=Lib.hid (List.length_map _)
  go_upto_region 15 with (fail)
  by_cases f1:(H.fi.length:Int)≤g.fi
  ·have hsee:Hid (fO H.ma p n=(zPg,false,9)):=Lib.hid (by rw[hsee0.out,if_neg f0,if_pos (.inl (by have:=hfil.out;omega))])
   refine aC 21 [_,_,_,_,_,_,_,_,_,_,_,_,_,_,_,_,_,_,_,_,.v (.bool true)] (Gf w2.heap.size 4 rfl rfl (Gl ox5 rfl rfl rfl rfl rfl (Gf w.heap.size 7 rfl rfl (Gf w.heap.size 7 rfl rfl (Gl bx5 rfl rfl rfl rfl rfl (Gn rfl rfl rfl rfl (Gb (.bool true) (by simp[go_sem,f1]) rfl rfl rfl rfl rfl (Gk rfl (Gk rfl (Gk rfl (Gk rfl (Gk rfl (Gk rfl (Gk rfl (Gk rfl (Gk rfl (Gk rfl (Gk rfl (Gk rfl (Gk rfl (Gk rfl (all_nil)))))))))))))))))))))) (fun _=>rfl) rfl ?_
   intro y W8 hbW8 _
   have hbr9:=ae hbr5 hbW8
   have px9:=px5.ext hbW8
   clear hsee0 hpg hfil
   go_wp2_with (refine ax rfl _ _ _ rfl (w.heap.size+1) (dO zPg) rfl rfl _ _ px9 rfl psize (dP _) ?_)
   intro we pxe hge
   have hbre:=hbr9.grown hge hbr9.size (fun k hk=>by cases hk;omega)
   go_wp2
   refine bodyPost_ret (v:=.tuple #[.agg (dO zPg),.bool false,.int .i64 9]) (dH Try.results66 _ _ (w.heap.size+1) _ _ _ _ _ rfl rfl rfl pxe Try.underlying50 rfl psize) rfl ?_
   rw[hsee.out]
   exact⟨rfl,hbre⟩
  obtain⟨F,hF⟩:∃F:Nat,g.fi=F:=⟨g.fi.toNat,by omega⟩
  have hFl:F<H.fi.length:=by omega
  obtain⟨bf,of,hai,hfl⟩:=fE jY (by decide) hM5.st.rd F hFl
  have hPl:Hid (fileAt H.ma.st g.fi=(H.fi[F]).fi):=Lib.hid (by
   rw[hF]
   exact jP (by show (H.fi.map PF.fi)[F]?=_;rw[List.getElem?_map,List.getElem?_eq_getElem hFl];rfl))
  generalize H.fi[F]=Q at *
  have hcs:∀W,Below w5.heap.size w5 W→W.cell? ⟨bf,of+F*2+1,none⟩=some (.slice Q.a Q.l.length Q.c):=fun W hb=>by
   obtain⟨b',o',e,hc⟩:=(hfl.below hb) 1 _ rfl
   cases e
   exact hc
  have hlen:Hid ((fileAt H.ma.st g.fi).b.length=Q.l.length):=Lib.hid (by rw[hPl.out];rfl)
  have hFh:=Lib.hid hF
  clear hF
  by_cases f2:(Q.l.length:Int)≤g.pg
  ·have hsee:Hid (fO H.ma p n=(zPg,false,9)):=Lib.hid (by
    rw[hsee0.out,if_neg f0]
    by_cases hin:(H.ma.st.fs.length:Int)≤g.fi∨ui H.ma.st g.fi g.pg=true
    ·rw[if_pos hin]
    ·have h9:=Ep hR'.out.pt.st (by omega) hpg.out.1 hin
     have:=h9.2.2
     have:=hlen.out
     omega)
   refine aC 21 [_,_,_,_,_,_,_,_,_,_,_,_,_,_,_,_,_,_,_,_,.v (.bool true)] (Gf w2.heap.size 4 rfl rfl (Gl ox5 rfl rfl rfl rfl rfl (Gf w.heap.size 7 rfl rfl (Gf w.heap.size 7 rfl rfl (Gl bx5 rfl rfl rfl rfl rfl (Gn rfl rfl rfl rfl (Gb (.bool false) (by simp[go_sem,f1]) rfl rfl rfl rfl rfl (Gk rfl (Gf w2.heap.size 5 rfl rfl (Gl ox5 rfl rfl rfl rfl rfl (Gf w.heap.size 7 rfl rfl (Gf w.heap.size 7 rfl rfl (Gl bx5 (V:=.slice (some ⟨bf,of,none⟩) H.fi.length H.ci) (by simp[bM,hai]) rfl rfl rfl rfl (Gf w2.heap.size 4 rfl rfl (Gl ox5 (V:=.int .i64 (F:Int)) (by simp[hFh.out]) rfl rfl rfl rfl (Gr (.pointer (some ⟨bf,of+F*2,none⟩)) (fun ρ y W hb hKn=>(aR rfl (az rfl hKn) (az rfl hKn) hFl Try.underlying34 file_size)) rfl rfl (Gf bf (of+F*2+1) rfl rfl (Gc (.slice Q.a Q.l.length Q.c) (fun W hb=>by simp[hcs _ hb]) rfl rfl rfl rfl (Gn rfl rfl rfl rfl (Gb (.bool true) (by simp[go_sem,f2]) rfl rfl rfl rfl rfl (Gk rfl (all_nil)))))))))))))))))))))) (fun _=>rfl) rfl ?_
   intro y W8 hbW8 _
   have hbr9:=ae hbr5 hbW8
   have px9:=px5.ext hbW8
   clear hsee0 hpg hfil hcs
   go_wp2_with (refine ax rfl _ _ _ rfl (w.heap.size+1) (dO zPg) rfl rfl _ _ px9 rfl psize (dP _) ?_)
   intro we pxe hge
   have hbre:=hbr9.grown hge hbr9.size (fun k hk=>by cases hk;omega)
   go_wp2
   refine bodyPost_ret (v:=.tuple #[.agg (dO zPg),.bool false,.int .i64 9]) (dH Try.results66 _ _ (w.heap.size+1) _ _ _ _ _ rfl rfl rfl pxe Try.underlying50 rfl psize) rfl ?_
   rw[hsee.out]
   exact⟨rfl,hbre⟩
  ·have hin0:Ay H.ma.st g.fi g.pg:=⟨⟨by omega,by have:=hfil.out;omega⟩,hpg.out.1,by have:=hlen.out;omega⟩
   have hin:=Lib.hid hin0
   clear hin0
   have hsee:Hid (fO H.ma p n=(aX H.ma g.fi g.pg,false,0)):=Lib.hid (by
    rw[hsee0.out,if_neg f0,if_neg (BU hR'.out.pt.st hin.out)])
   refine aC 21 [_,_,_,_,_,_,_,_,_,_,_,_,_,_,_,_,_,_,_,_,.v (.bool false)] (Gf w2.heap.size 4 rfl rfl (Gl ox5 rfl rfl rfl rfl rfl (Gf w.heap.size 7 rfl rfl (Gf w.heap.size 7 rfl rfl (Gl bx5 rfl rfl rfl rfl rfl (Gn rfl rfl rfl rfl (Gb (.bool false) (by simp[go_sem,f1]) rfl rfl rfl rfl rfl (Gk rfl (Gf w2.heap.size 5 rfl rfl (Gl ox5 rfl rfl rfl rfl rfl (Gf w.heap.size 7 rfl rfl (Gf w.heap.size 7 rfl rfl (Gl bx5 (V:=.slice (some ⟨bf,of,none⟩) H.fi.length H.ci) (by simp[bM,hai]) rfl rfl rfl rfl (Gf w2.heap.size 4 rfl rfl (Gl ox5 (V:=.int .i64 (F:Int)) (by simp[hFh.out]) rfl rfl rfl rfl (Gr (.pointer (some ⟨bf,of+F*2,none⟩)) (fun ρ y W hb hKn=>(aR rfl (az rfl hKn) (az rfl hKn) hFl Try.underlying34 file_size)) rfl rfl (Gf bf (of+F*2+1) rfl rfl (Gc (.slice Q.a Q.l.length Q.c) (fun W hb=>by simp[hcs _ hb]) rfl rfl rfl rfl (Gn rfl rfl rfl rfl (Gb (.bool false) (by simp[go_sem,f2]) rfl rfl rfl rfl rfl (Gk rfl (all_nil)))))))))))))))))))))) (fun _=>rfl) rfl ?_
   intro y W8 hbW8 _
   have hbr8:=ae hbr5 hbW8
   have px8:=px5.ext hbW8
   have bx8:=bx5.ext hbW8
   have hM8:=hM5.below hbW8
   have ho:=(ox5.ext hbW8).cell
   clear hsee0 hcs hbr5 px5 bx5 hM5 ox5 hbW8 hfl
   go_wp2_with (refine ak _ _ rfl w.heap.size 0 rfl rfl _ bx8.rd _ Try.underlying40 rfl machine_size ?_)
   refine (mR H g.fi g.pg _ hM8 ⟨(jm hR'.out).ca,fun f hf=>Nat.le_trans (oV hR'.out.pt.st f hf) (by decide)⟩ hR'.out.ca.lt ⟨by omega,by omega⟩ hin.out.2).mono ?_
   rintro r w9 ⟨rfl,hb9⟩
   have hbr9:=ae hbr8 hb9
   have px9:=px8.ext hb9
   clear hbr8 px8 bx8 hM8 ho hb9
   go_wp2_with (refine ax rfl _ _ _ rfl (w.heap.size+1) (dO (aX H.ma g.fi g.pg)) rfl rfl _ _ px9 rfl psize (dP _) ?_)
   intro we pxe hge
   have hbre:=hbr9.grown hge hbr9.size (fun k hk=>by cases hk;omega)
   go_wp2
   refine bodyPost_ret (v:=.tuple #[.agg (dO (aX H.ma g.fi g.pg)),.bool false,.int .i64 0]) (dH Try.results66 _ _ (w.heap.size+1) _ _ _ _ _ rfl rfl rfl pxe Try.underlying50 rfl psize) rfl ?_
   rw[hsee.out]
   exact⟨rfl,hbre⟩
theorem Et (H:MH) (p n:Nat) (w:World) (h:qV w H) (hR:Rt H.ma) (hp:p<H.sp.length) (hn:n<64) :
  Calls Try.prog 17 #[.agg (bM H),.int .i64 p,.int .i64 n] w fun r w'=>r = .returned (.tuple #[.agg (dO (fO H.ma p n).1),.bool (fO H.ma p n).2.1,.int .i64 (fO H.ma p n).2.2])∧Below w.heap.size w w':=by
 have hR':=Lib.hid hR
 clear hR
 go_enter Try.func17,Try.ntmps17
 go_upto_region 1 with (fail)
 refine nQ (fun W=>Code.wp _ _ _ _ W) fun w1 hb1 bx1 px1 hs1 => ?_
 have bx1:aB w1 w.heap.size (bM H) 40:=bx1
 have h1:=h.below hb1
 clear h hs1
 go_wp2_with (refine ak _ _ rfl w.heap.size 0 rfl rfl _ bx1.rd _ Try.underlying40 rfl machine_size ?_)
 refine (qL H _ h1 hR'.out).mono ?_
 rintro r w2 ⟨rfl,hb2⟩
 have h2:=h1.below hb2
 have bx2:=bx1.ext hb2
 have px2:=px1.ext hb2
 have hbr2:=ae hb1 hb2
 clear h1 bx1 px1 hb1 hb2
 go_wp2_with (refine ak _ _ rfl w.heap.size 0 rfl rfl _ bx2.rd _ Try.underlying40 rfl machine_size ?_)
 refine (FQ H p n _ h2 hR'.out hp hn).mono ?_
 rintro r w3 ⟨rfl,hb3⟩
 have px3:=px2.ext hb3
 have hbr3:=ae hbr2 hb3
 clear h2 bx2 px2 hbr2 hb3
 go_wp2_with (refine ax rfl _ _ _ rfl (w.heap.size+1) (dO (fO H.ma p n).1) rfl rfl _ _ px3 rfl psize (dP _) ?_)
 intro we pxe hge
 have hbre:=hbr3.grown hge hbr3.size (fun k hk=>by cases hk;omega)
 go_wp2
 refine bodyPost_ret (v:=.tuple #[.agg (dO (fO H.ma p n).1),.bool (fO H.ma p n).2.1,.int .i64 (fO H.ma p n).2.2]) (dH Try.results17 _ _ (w.heap.size+1) _ _ _ _ _ rfl rfl rfl pxe Try.underlying50 rfl psize) rfl ?_
 exact⟨rfl,hbre⟩
def DT (m:Ma) (f:Int) (j:Nat):Value:=(dO (aX m f (j / 8:Nat))).getD (j%8) (.int .u8 0)
def oM (m:Ma) (f:Int) (n:Nat):List Value:=(List.range n).map (DT m f)
theorem Af (m:Ma) (f:Int) (n:Nat):oM m f (n+1)=oM m f n++[DT m f n]:=by
 unfold oM
 rw[List.range_succ,List.map_append];rfl
theorem tO {w:World} {b:Nat} {cs cs' : Array Value} {T T' : TypeId} (h:aB w b cs T) (hk:aB w b cs' T') (hT:T'≠T):False:=by
 unfold aB at h hk
 rw[hk] at h
 simp at h
 exact hT h.2
theorem u8_size:(Try.prog.info? 5).map (·.size)=some 1:=by kernel_rfl
theorem ze (X:Page) (q:Nat) (hq:q<8) (w:World):(Instr.index 50 (.agg (dO X)) (.int .i64 q)).run Try.prog w = .ok (.int .u8 X[q].toNat) w:=by
 have hg:=uR X q hq
 have ha:¬((q:Int)<0∨(8:Int)≤q):=by omega
 have hs:∃i,Try.prog.info? 5=some i∧i.size=1:=by
  have:=u8_size
  cases h:Try.prog.info? 5 with
  | none=>rw[h] at this;simp at this
  | some i=>rw[h] at this;exact⟨i,rfl,by simpa using this⟩
 obtain⟨i,hi,hs⟩:=hs
 simp[Instr.index,part,asIntOf,run_underlying Try.underlying50,run_underlying Try.underlying5,Go.sizeOf,typeInfo,hi,hs,ha,go_sem,hg,hq]
theorem vQ (H:MH) (f:Nat) (w:World) (h:qV w H) (hR:Rt H.ma) (hz:H.ca.length≤1000∧∀f∈H.ma.st.fs,f.b.length≤1000) (hck:∀c∈H.ca,0≤c.k∧c.k<H.m.fs.length) (hf:f<H.fi.length) (hsz:0≤(fileAt H.ma.st f).n∧(fileAt H.ma.st f).n≤(fileAt H.ma.st f).b.length*8) :
  Calls Try.prog 15 #[.agg (bM H),.int .i64 f] w fun r w' => ∃(v:Value),r = .returned (.tuple #[v,.int .i64 0])∧Own w' w.heap.size 5 1 v (fileAt H.ma.st f).n.toNat (oM H.ma f (fileAt H.ma.st f).n.toNat)∧Below w.heap.size w w':=by
 have hR':=Lib.hid hR
 clear hR
 go_enter Try.func15,Try.ntmps15
 go_upto_region 1 with (fail)
 refine eP (fun W=>Code.wp _ _ _ _ W) fun w1 hb1 bx1 hs1 => ?_
 have bx1:aB w1 w.heap.size (bM H) 40:=bx1
 have h1:=h.below hb1
 clear hs1
 go_wp2_with (refine ak _ _ rfl w.heap.size 0 rfl rfl _ bx1.rd _ Try.underlying40 rfl machine_size ?_)
 refine (qL H _ h1 hR'.out).mono ?_
 rintro r w2 ⟨rfl,hb2⟩
 have bx2:=bx1.ext hb2
 have hbr2:=ae hb1 hb2
 have hc:=bx2.cell
 unfold bM at hc
 have hki:(f:Int)<(H.fi.length:Int):=by omega
 have hk0:¬(f:Int)<0:=by omega
 have hk1:¬(H.fi.length:Int)≤(f:Int):=by omega
 obtain⟨bf,of,hai,hrd⟩:=fE jY (by decide) h.st.rd f hf
 obtain⟨p,hp⟩:∃p,H.fi[f]?=some p:=⟨_,List.getElem?_eq_getElem hf⟩
 rw[show H.fi[f]=p from (List.getElem?_eq_some_iff.1 hp).2] at hrd
 have hfa:fileAt H.ma.st (f:Int)=p.fi:=by
  unfold fileAt
  rw[if_pos (by omega)]
  show (H.fi.map PF.fi).getD f ⟨0,[]⟩=p.fi
  rw[List.getD_eq_getElem?_getD,List.getElem?_map,hp];rfl
 have hpz:p.l.length≤1000:=hz.2 p.fi (List.mem_map.2 ⟨p,List.mem_of_getElem? hp,rfl⟩)
 rw[hfa] at hsz
 have hs0:0≤p.n:=hsz.1
 have hs1:p.n≤p.l.length*8:=hsz.2
 have hfn:(fileAt H.ma.st f).n=p.n:=by rw[hfa];rfl
 have hfl:(fileAt H.ma.st f).b.length=p.l.length:=by rw[hfa];rfl
 clear hsz hfa
 clear h1 bx1 hb1 hb2
 go_upto_region 8 with (fail)
 clear hc
 go_loopw [8,7] (fun i u wr => ∃k:Nat,(k:Int)≤p.n∧i = .int .i64 k∧Below w.heap.size w wr∧aB wr w.heap.size (bM H) 40∧Own wr w.heap.size 5 1 u k (oM H.ma f k)) (fun i _ _=>p.n.toNat-(intOf i).toNat)
 case atStart=>exact⟨0,by omega,rfl,hbr2,bx2,Own.nil _ _ _ _⟩
 case round=>
  clear hbr2 bx2
  obtain⟨k,hk,rfl,hbr,bx,hown⟩:=hrel
  have hcx:=bx.cell
  unfold bM at hcx
  rw[hai] at hcx
  have hrd1:=hrd.below hbr
  have rc0:wr.cell? ⟨bf,of+f*2,none⟩=some (.int .i64 p.n):=by
   obtain⟨b',o',e,hcc⟩:=hrd1 0 _ rfl
   cases e
   exact hcc
  by_cases hkn:(k:Int)<p.n
  ·have hk8:(k:Int) / 8<((fileAt H.ma.st (f:Int)).b.length:Int):=by rw[hfl];omega
   go_wp2_with (refine ak _ _ rfl w.heap.size 0 rfl rfl _ bx.rd _ Try.underlying40 rfl machine_size ?_)
   refine (mR H f ((k:Int) / 8) _ (h.below hbr) hz hck ⟨by omega,hki⟩ ⟨by omega,hk8⟩).mono ?_
   rintro r w3 ⟨rfl,hb3⟩
   have hbr3:=ae hbr hb3
   have bx3:=bx.ext hb3
   have hown3:=hown.below hb3
   obtain⟨X,hX⟩:∃X,X=aX H.ma f ((k:Int) / 8):=⟨_,rfl⟩
   rw[←hX]
   obtain⟨q,hq⟩:∃q,k%8=q:=⟨_,rfl⟩
   have h78:q<8:=by omega
   have hg:=uR X q h78
   have hv:Hid (DT H.ma f k = .int .u8 X[q].toNat):=Lib.hid (by
    unfold DT
    rw[show ((k / 8:Nat):Int)=(k:Int) / 8 from by omega,←hX,hq]
    simp[Array.getD_eq_getD_getElem?,hg])
   have e78:((k:Int)%8)=(q:Int):=by omega
   have hk1000:k+1≤8000:=by omega
   clear hX hcx rc0 hq hk8
   go_wp2_with fail
   rw[e78]
   have hix:=ze X q h78
   go_wp2_with fail
   rw[hix]
   go_wp2_with (first | (at_builtin;refine jc rfl _ _ 24 rfl w.heap.size 5 _ 1 1 Try.underlying24 byte_info rfl (by decide) _ k (oM H.ma f k) rfl (hown3.alloc _) (some ⟨w3.heap.size,0,none⟩) 1 1 [.int .u8 X[q].toNat] rfl (fun h=>(by cases h)) (Nat.le_refl _) rfl (bZ.new _ #[.int .u8 X[q].toNat] _) (fun u hu=>by simp at hu;subst hu;rfl) (by unfold maxLen;omega) (by omega) (by have:=hbr3.size;simp;omega) ?_))
   intro v w5 hown5 hg5 hso
   have hbr5:Below w.heap.size w w5:=(hbr3.alloc hbr3.size _).grown hg5 (cO hbr3.size _) (hown3.alloc (.cells #[.int .u8 X[q].toNat] 5)).ge
   have bx5:aB w5 w.heap.size (bM H) 40:=(bx3.alloc (.cells #[.int .u8 X[q].toNat] 5)).grown hg5 (fun e=>by
    rcases hown3.2 with ⟨e1,_⟩|⟨g2,off,cap,cur,e1,_,hb,_⟩
    ·rw[e1] at e;cases e
    ·rw[e1] at e;cases e;exact tO hb bx3 (by decide))
   rw[←hv.out,←Af] at hown5
   go_wp2
   go_roundw
   case rel=>exact⟨v,.int .i64 ((k+1:Nat):Int),_,_,_,_,_,_,_,_,_,_,_,_,_,_,_,_,_,_,_,_,_,_,⟨k+1,by omega,rfl,hbr5,bx5,hown5⟩,by
    have e1:decide (H.fi.length≤f)=false:=decide_eq_false (by omega)
    rw[e1,Bool.or_false]
    rfl⟩
   case measure=>simp[intOf];omega
  ·go_wp2
   go_ret2
   have hkk:p.n.toNat=k:=by omega
   exact⟨_,rfl,by rw[hkk];exact hown,hbr⟩
def nM (H:MH) (p:Int):Bool:=if 0≤p then ((H.sp[p.toNat]?).map PS.lv).getD false else false
theorem BA (H:MH) (p:Int) (w:World) (h:qV w H) :
  Calls Try.prog 25 #[.agg (bM H),.int .i64 p] w fun r w'=>r = .returned (.bool (nM H p))∧Below w.heap.size w w':=by
 go_enter Try.func25,Try.ntmps25
 go_upto_region 1 with (fail)
 refine eP (fun W=>Code.wp _ _ _ _ W) fun w1 hb1 bx1 hs1 => ?_
 have bx1:aB w1 w.heap.size (bM H) 40:=bx1
 have h1:=h.below hb1
 clear h hs1
 have hc:=bx1.cell
 unfold bM at hc
 by_cases h0:0≤p
 ·obtain⟨q,rfl⟩:=Int.eq_ofNat_of_zero_le h0
  by_cases hq:q<H.sp.length
  ·have hqi:(q:Int)<(H.sp.length:Int):=by omega
   obtain⟨bs,os,P,hap,hP,hrd⟩:=lC h1.sp.rd q hq
   have hs0:w1.cell? ⟨bs,os+q*10,none⟩=some (.bool P.lv):=by
    obtain⟨b',o',e,hcc⟩:=hrd 0 _ rfl
    cases e
    exact hcc
   rw[hap] at hc
   have e:nM H (q:Int)=P.lv:=by unfold nM;rw[if_pos h0,Int.toNat_natCast,hP];rfl
   have e:=Lib.hid e
   clear hrd hP
   go_wp2
   go_ret
   exact⟨by first | rfl | (rw[e.out];rfl),hb1⟩
  ·have hqi:¬(q:Int)<(H.sp.length:Int):=by omega
   have e:nM H (q:Int)=false:=by unfold nM;rw[if_pos h0,Int.toNat_natCast,List.getElem?_eq_none (by omega)];rfl
   have e:=Lib.hid e
   go_wp2
   go_ret
   exact⟨by first | rfl | (rw[e.out];rfl),hb1⟩
 ·have e:nM H p=false:=by unfold nM;rw[if_neg h0]
  have e:=Lib.hid e
  go_wp2
  go_ret
  exact⟨by first | rfl | (rw[e.out];rfl),hb1⟩
theorem BL (k:Kp) (f n:Int):(eU k f n).m.sp=k.m.sp:=by unfold eU;split<;>rfl
theorem lH (k:Kp) (p:Nat) (n:Int) (e:En):(fq k p n e).m.sp.length=k.m.sp.length∧∀j,(bI (fq k p n e).m j).ar=(bI k.m j).ar:=by
 unfold fq
 split
 ·refine⟨by unfold setTb;exact List.length_set,fun j => ?_⟩
  unfold setTb bI
  simp only[List.getD_eq_getElem?_getD,List.getElem?_set]
  split
  ·rename_i e;subst e
   split
   ·simp
   ·rename_i h;rw[List.getElem?_eq_none (by omega)]
  ·rfl
 ·exact⟨rfl,fun _=>rfl⟩
theorem pU {H H' : MH} (h:H'.ma.sp.length=H.ma.sp.length):H'.sp.length=H.sp.length:=by rw[nK,nK] at h;exact h
theorem KS.box {w0 w w' : World} {b y:Nat} {H0 H:MH} (h:KS w0 b H0 w H) (hg:w.grownBy w' (some y)) (hy:w0.heap.size≤y):KS w0 b H0 w' H:=
 ⟨hg.os.trans h.os,hg.tape.trans h.tape,hg.output.trans h.output,Nat.le_trans h.size hg.size,fun x hx hn=>(hg.block x (Nat.lt_of_lt_of_le hx h.size) (fun e=>by
  have e' : x=y:=Option.some.inj e
  omega)).trans (h.keep x hx hn),h.sn⟩
def Mh (H:MH) (y:Nat):Prop:=∀p∈H.sp,∀k:Nat,∀v,(iG p.ts)[k]?=some v→v.ownBlock≠some y
theorem Mh.new {w:World} {B:Nat} {H:MH} (h:qW w B H) {y:Nat} (hy:w.heap.size≤y):Mh H y:=fun p hp k v hv e=>by
 have ht:=(h.ps p hp).2
 have hk:k<8:=by
  have:=(Array.getElem?_eq_some_iff.1 hv).1
  rw[ht.sz] at this;exact this
 obtain⟨v',h1,h2⟩:=ht.own k hk
 rw[hv] at h1
 cases h1
 obtain⟨cs,hb⟩:=gL h2 y e
 have:=hb.lt
 omega
theorem kL.keepN {w w' : World} {B:Nat} {cs:Array Value} {t:Tb} (h:kL w B cs t) {g:Nat} (hn:∀(k:Nat) v,cs[k]?=some v→v.ownBlock≠some g) (hgr:w.grownBy w' (some g)):kL w' B cs t:=
 ⟨h.sz,fun k hk=>by
  obtain⟨v,h1,h2⟩:=h.own k hk
  exact⟨v,h1,h2.grown hgr (fun g' hg' e=>hn k v h1 (by rw[hg',←e]))⟩,h.apart⟩
theorem jL.boxE {w w' : World} {B b y:Nat} {H:MH} {e:Int} (h:jL w B b H e) {cs:Array Value} (hk:aB w y cs 67) (hn:Mh H y) (hg:w.grownBy w' (some y)):jL w' B b H e:=
 have m:=h.ma
 ⟨bq h.blk hk (by decide) hg,h.ge,⟨aj m.fr hk (by decide) hg,aj m.sl hk (by decide) hg,m.sw.keep hk (by decide) (by decide) hg,m.dk.keep hk (by decide) (by decide) hg,m.st.keep hk (by decide) (by decide) hg,aj m.ca hk (by decide) hg,aj m.sp hk (by decide) hg,
  fun p hp=>⟨aj (m.ps p hp).1 hk (by decide) hg,(m.ps p hp).2.keepN (hn p hp) hg⟩,m.c64⟩,h.tz⟩
theorem entTy:67≠143∧67≠59∧67≠85∧67≠65:=by decide
theorem Nj {w:World} {y:Nat} {x:En} (h:aB w y (fA x) 67):bZ w (some ⟨y,0,none⟩) [.int .i64 x.k,.int .i64 x.n,.bool x.w]:=bG h 0 3
theorem Dg (H:MH) (e n:Int) (p q:Nat) (B b:Nat) (w:World) (h:jL w B b H e) (hp:p<H.sp.length) (hq:q<H.sp.length) (hf:0≤eY (bI H.ma p).ar n) :
  Calls Try.prog 73 #[.pointer (some ⟨b,0,none⟩),.int .i64 p,.int .i64 q,.int .i64 n] w fun r w'=>r = .returned (.tuple #[])∧KR w B b H w' (gB ⟨H.ma,e⟩ p q n):=by
 obtain⟨P,hP⟩:∃P,H.sp[p]?=some P:=⟨_,List.getElem?_eq_getElem hp⟩
 have hsp:=Lib.hid (jJ hP)
 have hfH:=Lib.hid hf
 clear hf
 obtain⟨g,off,hap,hrd,hrt,hgood⟩:=h.at hP
 have hc:=h.blk.cell
 unfold qm at hc
 rw[hap] at hc
 have hpi:(p:Int)<(H.sp.length:Int):=by omega
 go_enter Try.func73,Try.ntmps73
 go_wp2_with (refine ak _ _ rfl g (off+p*10+2) rfl rfl _ hrt _ Try.underlying63 tab_agg tab_size ?_)
 refine (vK P.tb (iG P.ts) n _ hgood.tb).mono ?_
 rintro r w1 ⟨rfl,hb1⟩
 have h1:=h.below hb1
 have s1:=(KS.refl w b H).below hb1
 clear hc hrd hrt hgood
 generalize hx:bT P.tb n=x
 go_wp2_with (refine aD rfl _ _ _ rfl (fA x) rfl rfl rfl entry_size (by simp[fA,Value.oneCell']) ?_)
 intro w2 hb2 hx2
 have hN2:=Lib.hid (Mh.new h1.ma (Nat.le_refl _))
 have hy2:Hid (w.heap.size≤w1.heap.size):=Lib.hid hb1.size
 have h2:=h1.below hb2
 have s2:=s1.below hb2
 clear h1 s1 hb1 hb2 h
 have hc2:=hx2.cell
 unfold fA at hc2
 have hgx:Hid (ent H.ma p n=x):=Lib.hid (by unfold ent;rw[hsp.out];exact hx)
 clear hx
 by_cases hk2:x.k=2
 ·rw[hk2] at hc2
  have hxk:=Lib.hid hk2
  clear hk2
  have hck:=h2.blk.cell
  unfold qm at hck
  go_upto_region 2 with (fail)
  refine kZ 13 [_,_,_,_,_,_,_,.r 7 ((uM w2.heap.size 3 1 (bi H.sl x.n 1).length ((bi H.sl x.n 1).map dE) (bC H.sl x.n 1))),.r 8 ((uM w2.heap.size 3 1 (bi H.sl x.n 1).length ((bi H.sl x.n 1).map dE) (bC H.sl x.n 1))),.r 9 ((ic w2.heap.size 3 1 (bi H.sl x.n 1).length ((bi H.sl x.n 1).map dE))),.v (.int .i64 (bC H.sl x.n 1)),.r 11 ((ic w2.heap.size 3 1 (bi H.sl x.n 1).length ((bi H.sl x.n 1).map dE))),.v (.int .i64 (bC H.sl x.n 1))] (fun W=>Below w2.heap.size w2 W) gu (Below.refl _ _) (Yk gu rfl (Yk gu rfl (Yf gu b 0 rfl rfl (Yf gu b 2 rfl rfl (Yc gu (.slice H.asl H.sl.length H.csl) (fun W hb=>by simp[(h2.below hb).blk.cell,qm]) rfl rfl rfl rfl (Yf gu w1.heap.size 1 rfl rfl (Yc gu (.int .i64 x.n) (fun W hb=>by simp[(hx2.ext hb).cell,fA]) rfl rfl rfl rfl (all_cons ?_ (all_cons ?_ (all_cons ?_ (all_cons ?_ (all_cons ?_ (Yk gu rfl (all_nil)))))))))))))) (fun _=>rfl) rfl ?_
  ·intro ρ y W hw hn hb hd
   refine lS gu hb ((uM w2.heap.size 3 1 (bi H.sl x.n 1).length ((bi H.sl x.n 1).map dE) (bC H.sl x.n 1))) (fun _ _ h=>h) ?_
   have E31:=hw 31 4 rfl
   have h4:y 4 = .slice H.asl H.sl.length H.csl:=hd 4 rfl
   have E33:=hw 33 6 rfl
   have h6:y 6 = .int .i64 x.n:=hd 6 rfl
   have EC:∀v,ρ (.const v)=v:=fun v=>hn (.const v) trivial
   have EF:∀f,ρ (.func f) = .func (.func f) #[] #[]:=fun f=>hn (.func f) trivial
   refine aG _ _ (ag rfl) (aK rfl (EF _) Try.func101 (by kernel_rfl) (by kernel_rfl) (by simp only[List.map_toArray,List.map_cons,List.map_nil,E31,h4,E33,h6,EC,EF];rfl)) ?_
   have hm:=(h2.below hb).ma.rd.sl
   refine (vU H.sl H.asl H.csl x.n 1 W hm.le hm.nl hm.rd (by have:=hm.le;have:=hm.mx;unfold maxLen at this;omega)).mono ?_
   rintro r W3 ⟨u,rfl,ho,hb3⟩
   exact⟨_,rfl,hb3,u,rfl,ho.mono hb.size⟩
  ·intro ρ y W hw hn hb hd
   refine lS gu hb ((uM w2.heap.size 3 1 (bi H.sl x.n 1).length ((bi H.sl x.n 1).map dE) (bC H.sl x.n 1))) (fun _ _ h=>h) ?_
   have E34:=hw 34 7 rfl
   have h7:=hd 7 rfl
   refine ah _ (ag rfl) (run_move (.inl rfl) E34) ?_
   exact h7
  ·intro ρ y W hw hn hb hd
   refine lS gu hb ((ic w2.heap.size 3 1 (bi H.sl x.n 1).length ((bi H.sl x.n 1).map dE))) (fun _ _ h=>h) ?_
   have E26:=hw 26 8 rfl
   have h8:=hd 8 rfl
   obtain⟨u,hu,ho⟩:=h8
   refine ah u (ag rfl) (by simp[execOp,go_sem,bR,E26,hu]) ?_
   exact ho
  ·intro ρ y W hw hn hb hd
   refine lS gu hb (nN (.int .i64 (bC H.sl x.n 1))) (fun _ _ h=>h) ?_
   have E26:=hw 26 8 rfl
   have h8:=hd 8 rfl
   obtain⟨u,hu,ho⟩:=h8
   refine ah (.int .i64 (bC H.sl x.n 1)) (ag rfl) (by simp[execOp,go_sem,bR,E26,hu]) rfl
  ·intro ρ y W hw hn hb hd
   refine lS gu hb ((ic w2.heap.size 3 1 (bi H.sl x.n 1).length ((bi H.sl x.n 1).map dE))) (fun _ _ h=>h) ?_
   have E35:=hw 35 9 rfl
   have h9:=hd 9 rfl
   refine ah _ (ag rfl) (run_move (.inr rfl) E35) ?_
   exact h9
  intro y W3 hbW3 hRW3
  replace hbW3:Below w2.heap.size w2 W3:=hbW3
  have hy7:((uM w2.heap.size 3 1 (bi H.sl x.n 1).length ((bi H.sl x.n 1).map dE) (bC H.sl x.n 1))).r (y 7) W3:=hRW3 7 (by decide)
  have hy8:((uM w2.heap.size 3 1 (bi H.sl x.n 1).length ((bi H.sl x.n 1).map dE) (bC H.sl x.n 1))).r (y 8) W3:=hRW3 8 (by decide)
  have hy9:((ic w2.heap.size 3 1 (bi H.sl x.n 1).length ((bi H.sl x.n 1).map dE))).r (y 9) W3:=hRW3 9 (by decide)
  have hy11:((ic w2.heap.size 3 1 (bi H.sl x.n 1).length ((bi H.sl x.n 1).map dE))).r (y 11) W3:=hRW3 11 (by decide)
  clear hRW3
  simp only[strip,bR,List.map_cons,List.map_nil]
  have ho3:Own W3 w2.heap.size 3 1 (y 11) (bi H.sl x.n 1).length ((bi H.sl x.n 1).map dE):=hy11
  obtain⟨a3,c3,e7,_⟩:=Own.rd ho3
  rw[e7] at ho3
  simp only[e7]
  have k3:=h2.below hbW3
  have s3:=s2.below hbW3
  have hx3:=hx2.ext hbW3
  have hge:=Lib.hid (Nat.le_trans h2.bs (Nat.le_refl _))
  clear hy7 hy8 hy9 hy11 e7 hc2 hck h2 s2 hx2 hbW3
  by_cases h0:bC H.sl x.n 1=0
  ·have hq2:Hid (gB ⟨H.ma,e⟩ p q n=fq ⟨{ H.ma with sl:=bi H.sl x.n 1 },e⟩ q n x):=Lib.hid (by
    unfold gB
    simp only[hgx.out]
    rw[if_pos hxk.out]
    exact if_neg (fun h=>h h0))
   rw[h0]
   go_wp2_with (first | (refine ay rfl _ _ _ rfl b 2 _ [.slice a3 (bi H.sl x.n 1).length c3] rfl rfl rfl _ _ k3.blk (by show 2+1≤12;decide) slots_size (fun u hu=>by cases List.mem_singleton.1 hu;rfl) ?_))
   intro w5 hb5 hg5
   have k5:=k3.setL (ho3.mono hge.out) hb5 hg5
   have s5:KS w b H w5 { H with asl:=a3,csl:=c3,sl:=bi H.sl x.n 1 }:=s3.putB hg5 rfl rfl rfl
   have hx5:=Nj (bq hx3 k3.blk (by decide) hg5)
   clear s3 k3 ho3 hx3
   go_wp2_with (refine ak _ _ rfl w1.heap.size 0 rfl rfl _ hx5 _ Try.underlying67 rfl entry_size ?_)
   refine (iV _ e n q x B b _ k5 hq).mono ?_
   rintro r w6 ⟨rfl,hk6⟩
   go_wp2
   simp[bodyPost,results,go_sem,Try.results73]
   rw[hq2.out]
   exact KR.trans s5 hk6
  ·have hq2:Hid (gB ⟨H.ma,e⟩ p q n=⟨H.ma,bC H.sl x.n 1⟩):=Lib.hid (by
    unfold gB
    simp only[hgx.out]
    rw[if_pos hxk.out]
    exact if_pos h0)
   go_wp2_with (refine ay rfl _ _ _ rfl b 11 _ [.int .i64 (bC H.sl x.n 1)] rfl rfl rfl _ _ k3.blk (by show 11+1≤12;decide) (by kernel_rfl) (fun u hu=>by cases List.mem_singleton.1 hu;rfl) ?_)
   intro w5 hb5 hg5
   have k5:=k3.setE hb5 hg5
   have s5:KS w b H w5 H:=s3.putB hg5 rfl rfl rfl
   go_wp2
   simp[bodyPost,results,go_sem,Try.results73]
   rw[hq2.out]
   exact⟨_,_,k5,s5,rfl⟩
 ·go_wp2_with fail
  refine (Ba H e x.n 1 B b _ h2).mono ?_
  rintro r w3 ⟨rfl,H3,e3,h3,s3,q3,hs3⟩
  have hx3:=s3.blk h2 hx2 entTy
  have s3':=s2.trans s3
  have hN3:Hid (Mh H3 w1.heap.size):=Lib.hid (by unfold Mh;rw[hs3];exact hN2.out)
  have hP3:H3.sp[p]?=some P:=by rw[hs3];exact hP
  have hq3:=Lib.hid q3
  have hl3:=Lib.hid hs3
  clear hc2 s3 q3 hs3 h2 s2 hx2 hN2
  obtain⟨g3,off3,hap3,hrd3,hrt3,hgood3⟩:=h3.at hP3
  have hA:=hgood3.ars
  have hc3:=h3.blk.cell
  unfold qm at hc3
  rw[hap3,hl3.out] at hc3
  have hcA:w3.cell? ⟨g3,off3+p*10+1,none⟩=some (.slice P.aa P.ar.length P.ac):=by
   obtain⟨b',o',e',hc'⟩:=hrd3 1 _ rfl
   cases e'
   exact hc'
  go_wp2_with fail
  refine (yz P.ar n P.aa P.ac _ hA.rd (by have:=hA.le;have:=hA.mx;unfold maxLen at this;omega)).mono ?_
  rintro r w4 ⟨rfl,hb4⟩
  clear hc3 hcA hrd3 hrt3
  obtain⟨k,hk,hkl,_⟩:=zI (q:=jH n) (l:=P.ar) (by show 0≤eY P.ar n;have:=hfH.out;rw[hsp.out] at this;exact this)
  have hk' : eY P.ar n=k:=hk
  obtain⟨ba,oa,haa,hard⟩:=fE kU (by decide) (hA.below hb4).rd k hkl
  have hsh:Hid (MZ (bI H.ma p).ar n=(P.ar[k]).sh):=Lib.hid (by
   rw[hsp.out]
   unfold MZ
   show (P.ar.getD (eY P.ar n).toNat zAr).sh=_
   rw[hk',Int.toNat_natCast,List.getD_eq_getElem?_getD,List.getElem?_eq_getElem hkl];rfl)
  generalize P.ar[k]=a at *
  rw[hk']
  have h4:=h3.below hb4
  have s4:=s3'.below hb4
  have hx4:=hx3.ext hb4
  obtain⟨g4,off4,hap4,hrd4,hrt4,hgood4⟩:=h4.at hP3
  have hc4:=h4.blk.cell
  unfold qm at hc4
  rw[hap4,hl3.out] at hc4
  have hcA:w4.cell? ⟨g4,off4+p*10+1,none⟩=some (.slice P.aa P.ar.length P.ac):=by
   obtain⟨b',o',e',hc'⟩:=hrd4 1 _ rfl
   cases e'
   exact hc'
  rw[haa] at hcA
  have hcS:w4.cell? ⟨ba,oa+k*7+4,none⟩=some (.bool a.sh):=by
   obtain⟨b',o',e',hc'⟩:=hard 4 _ rfl
   cases e'
   exact hc'
  have hki:(k:Int)<(P.ar.length:Int):=by omega
  have hq' : Hid (q<H3.sp.length):=Lib.hid (by rw[hl3.out];exact hq)
  have hp' : Hid (p<H3.sp.length):=Lib.hid (by rw[hl3.out];exact hp)
  clear hk hk' hA hrd4 hrt4 hgood4 hgood3 h3 s3' hx3 hard
  have hne:=Lib.hid hk2
  clear hk2
  cases hash:a.sh with
  | true=>
   rw[hash] at hcS
   have hq2:Hid (gB ⟨H.ma,e⟩ p q n=fq (eU ⟨H.ma,e⟩ x.n 1) q n x):=Lib.hid (by
    unfold gB
    simp only[hgx.out]
    rw[if_neg hne.out,if_pos (by rw[hsh.out];exact hash)])
   have hx5:=Nj hx4
   go_wp2_with (refine ak _ _ rfl w1.heap.size 0 rfl rfl _ hx5 _ Try.underlying67 rfl entry_size ?_)
   refine (iV H3 e3 n q x B b _ h4 hq'.out).mono ?_
   rintro r w6 ⟨rfl,hk6⟩
   go_wp2
   simp[bodyPost,results,go_sem,Try.results73]
   rw[hq2.out,←hq3.out]
   exact KR.trans s4 hk6
  | false=>
   rw[hash] at hcS
   have hq2:Hid (gB ⟨H.ma,e⟩ p q n=fq (fq (eU ⟨H.ma,e⟩ x.n 1) p n ⟨x.k,x.n,false⟩) q n ⟨x.k,x.n,false⟩):=Lib.hid (by
    unfold gB
    simp only[hgx.out]
    rw[if_neg hne.out,if_neg (by rw[hsh.out,hash];decide)])
   go_wp2_with (refine ay rfl _ _ _ rfl w1.heap.size 2 _ [.bool false] rfl rfl rfl _ _ hx4 (by show 2+1≤3;decide) (by kernel_rfl) (fun u hu=>by cases List.mem_singleton.1 hu;rfl) ?_)
   intro w5 hb5 hg5
   have k5:=h4.boxE hx4 hN3.out hg5
   have s5:=s4.box hg5 hy2.out
   have hx5:aB w5 w1.heap.size (fA ⟨x.k,x.n,false⟩) 67:=hb5
   have hr5:=Nj hx5
   clear hcA hcS hc4 h4 s4 hx4 hb5
   go_wp2_with (refine ak _ _ rfl w1.heap.size 0 rfl rfl _ hr5 _ Try.underlying67 rfl entry_size ?_)
   refine (iV H3 e3 n p ⟨x.k,x.n,false⟩ B b _ k5 hp'.out).mono ?_
   rintro r w6 ⟨rfl,H6,e6,h6,s6,q6⟩
   have hr6:=Nj (s6.blk k5 hx5 entTy)
   have s6':=s5.trans s6
   have hq6:=Lib.hid q6
   have hl6:Hid (q<H6.sp.length):=Lib.hid (by
    have e1:=congrArg (fun k=>k.m.sp.length) q6
    have e2:=(lH ⟨H3.ma,e3⟩ p n ⟨x.k,x.n,false⟩).1
    rw[pU (e1.trans e2)]
    exact hq'.out)
   clear s6 q6 s5 k5 hx5 hr5
   go_wp2_with (refine ak _ _ rfl w1.heap.size 0 rfl rfl _ hr6 _ Try.underlying67 rfl entry_size ?_)
   refine (iV H6 e6 n q ⟨x.k,x.n,false⟩ B b _ h6 hl6.out).mono ?_
   rintro r w7 ⟨rfl,hk7⟩
   go_wp2
   simp[bodyPost,results,go_sem,Try.results73]
   rw[hq2.out,←hq3.out,←hq6.out]
   exact KR.trans s6' hk7
theorem DD (k:Kp) (p:Nat) (n:Int):(jK k p n).m.sp.length=k.m.sp.length:=by
 unfold jK
 dsimp only
 split
 ·rw[(lH _ _ _ _).1,BL]
 ·split
  ·rw[(lH _ _ _ _).1]
   unfold mW
   split<;>rfl
  ·rfl
theorem Am (k:Kp) (p:Nat) (a n:Int) (l:List Int) (j:Nat) (hj:j<l.length):fH k p a n (l.take (j+1))=if GX a n l[j]=true then jK (fH k p a n (l.take j)) p l[j] else fH k p a n (l.take j):=by
 unfold fH
 rw[List.take_add_one,List.foldl_append,List.getElem?_eq_getElem hj]
 rfl
theorem Ci (H:MH) (e a n:Int) (p:Nat) (B b:Nat) (w:World) (h:jL w B b H e) (hp:p<H.sp.length) (ha:0≤a∧a≤64) :
  Calls Try.prog 74 #[.pointer (some ⟨b,0,none⟩),.int .i64 p,.int .i64 a,.int .i64 n] w fun r w'=>r = .returned (.tuple #[])∧KR w B b H w' (wK ⟨H.ma,e⟩ p a n):=by
 obtain⟨P,hP⟩:∃P,H.sp[p]?=some P:=⟨_,List.getElem?_eq_getElem hp⟩
 have hsp:Hid (wK ⟨H.ma,e⟩ p a n=fH ⟨H.ma,e⟩ p a n (aF P.tb)):=Lib.hid (by unfold wK;rw[jJ hP];rfl)
 obtain⟨g,off,hap,hrd,hrt,hgood⟩:=h.at hP
 have hc:=h.blk.cell
 unfold qm at hc
 rw[hap] at hc
 have hpi:(p:Int)<(H.sp.length:Int):=by omega
 go_enter Try.func74,Try.ntmps74
 go_wp2_with (refine ak _ _ rfl g (off+p*10+2) rfl rfl _ hrt _ Try.underlying63 tab_agg tab_size ?_)
 refine (mX P.tb (iG P.ts) _ hgood.tb).mono ?_
 rintro r w1 ⟨v1,rfl,ho1,hb1⟩
 obtain⟨a2,c2,rfl,hle2,hmx2,hnl2,_⟩:=ho1.rd
 have hin:=Lib.hid (BG P.tb)
 generalize aF P.tb=l at *
 have h1:=h.below hb1
 have s1:=(KS.refl w b H).below hb1
 clear hc hrd hrt hgood hap h hP hpi hnl2 hb1
 unfold maxLen at hmx2
 go_wp2
 go_loopw [21] (fun s21 wr => ∃(j:Nat) (Hj:MH) (ej:Int),j≤l.length∧s21 = .int .i64 j∧jL wr B b Hj ej∧KS w b H wr Hj∧Hid (Kp.mk Hj.ma ej=fH ⟨H.ma,e⟩ p a n (l.take j))∧Own wr w.heap.size 3 1 (.slice a2 l.length c2) l.length (l.map dE)∧Hj.sp.length=H.sp.length) (fun s21 _=>l.length-(intOf s21).toNat)
 case atStart=>exact⟨0,H,e,Nat.zero_le _,rfl,h1,s1,Lib.hid rfl,ho1,rfl⟩
 case round=>
  clear ho1 h1 s1
  obtain⟨j,Hj,ej,hj,rfl,hj3,sj3,qj,hoj,hlj⟩:=hrel
  by_cases hjl:j<l.length
  ·have hji:(j:Int)<(l.length:Int):=by omega
   obtain⟨_,_,e9,_,_,_,hrL⟩:=hoj.rd
   cases e9
   have hcj:=hrL j (dE l[j]) (by rw[List.getElem?_map,List.getElem?_eq_getElem hjl];rfl)
   obtain⟨bl,ol,rfl,hcj⟩:=hcj
   unfold dE at hcj
   have hi:=hin.out _ (List.getElem_mem hjl)
   have hstep:=Lib.hid (Am ⟨H.ma,e⟩ p a n l j hjl)
   generalize l[j]=i at *
   have hpj:p<Hj.sp.length:=by rw[hlj];exact hp
   by_cases h1:a≤i
   ·by_cases h2:i-a<n
    ·have hq:Hid (fH ⟨H.ma,e⟩ p a n (l.take (j+1))=jK (fH ⟨H.ma,e⟩ p a n (l.take j)) p i):=Lib.hid (by rw[hstep.out];exact if_pos (by unfold GX;simp[h1,h2]))
     go_wp2_with fail
     refine (EH Hj ej i p B b _ hj3 hpj).mono ?_
     rintro r w6 ⟨rfl,H6,e6,h6,s6,q6⟩
     have ho6:=s6.own hj3 hoj (by decide)
     have s06:=sj3.trans s6
     have hl6:H6.sp.length=H.sp.length:=by
      have e1:=congrArg (fun k=>k.m.sp.length) q6
      rw[pU (e1.trans (DD ⟨Hj.ma,ej⟩ p i)),hlj]
     have hq6:Hid (Kp.mk H6.ma e6=fH ⟨H.ma,e⟩ p a n (l.take (j+1))):=Lib.hid (by rw[hq.out,←qj.out];exact q6)
     clear q6 s6 hj3 sj3 hoj qj hq hrL hcj
     go_wp2
     go_roundw
     case rel=>exact⟨j+1,H6,e6,by omega,by go_num,h6,s06,hq6,ho6,hl6⟩
     case measure=>simp[intOf];omega
    ·have hq6:Hid (Kp.mk Hj.ma ej=fH ⟨H.ma,e⟩ p a n (l.take (j+1))):=Lib.hid (by rw[hstep.out,if_neg (by unfold GX;simp[h2])];exact qj.out)
     clear qj hrL
     go_wp2
     go_roundw
     case rel=>exact⟨j+1,Hj,ej,by omega,by go_num,hj3,sj3,hq6,hoj,hlj⟩
     case measure=>simp[intOf];omega
   ·have hq6:Hid (Kp.mk Hj.ma ej=fH ⟨H.ma,e⟩ p a n (l.take (j+1))):=Lib.hid (by rw[hstep.out,if_neg (by unfold GX;simp[h1])];exact qj.out)
    clear qj hrL
    go_wp2
    go_roundw
    case rel=>exact⟨j+1,Hj,ej,by omega,by go_num,hj3,sj3,hq6,hoj,hlj⟩
    case measure=>simp[intOf];omega
  ·have hji:¬(j:Int)<(l.length:Int):=by omega
   rw[List.take_of_length_le (by omega)] at qj
   clear hoj
   go_wp2
   simp[bodyPost,results,go_sem,Try.results74]
   exact⟨_,_,hj3,sj3,qj.out.trans hsp.out.symm⟩
theorem EE (k:Kp) (p:Nat) (a n:Int) (l:List Int):(fH k p a n l).m.sp.length=k.m.sp.length:=by
 unfold fH
 induction l generalizing k with
 | nil=>rfl
 | cons i l ih=>
  rw[List.foldl_cons,ih]
  split
  ·exact DD _ _ _
  ·rfl
def zPS:PS:=⟨false,none,0,[],nTs,zTb⟩
theorem jL.putP {w:World} {B b:Nat} {H:MH} {e:Int} (h:jL w B b H e) {p:Nat} (hp:p<H.sp.length) :
  ∃g off cur,H.ap=some ⟨g,off,none⟩∧B≤g∧aB w g cur 65∧off+p*10+10≤cur.size ∧
   ∀(w' : World) (P:PS),Own w B 69 7 (.slice P.aa P.ar.length P.ac) P.ar.length (P.ar.flatMap gW)→kL w B (iG P.ts) P.tb→tH P.tb→aB w' g (putAt cur (off+p*10) (kS P)) 65→w.grownBy w' (some g)→jL w' B b { H with sp:=H.sp.set p P } e:=by
 obtain⟨g,off,cap,cur,hv,hB,hblk,hfit,hset⟩:=oL ko (by decide) rfl h.ma.sp p hp
 simp only[Value.slice.injEq] at hv
 obtain⟨hap,_,hcp⟩:=hv
 refine⟨g,off,cur,hap,hB,hblk,by omega,fun w' P ha ht htz hb hg => ?_⟩
 have hlen:(H.sp.set p P).length=H.sp.length:=List.length_set
 have hbk:b≠g:=fun e=>by
  have h1:=h.blk
  subst e
  unfold aB at h1 hblk
  rw[h1] at hblk
  simp only[Option.some.injEq,Obj.cells.injEq] at hblk
  exact absurd hblk.2.1 (by decide)
 refine⟨?_,h.ge,⟨aj h.ma.fr hblk (by decide) hg,aj h.ma.sl hblk (by decide) hg,h.ma.sw.keep hblk (by decide) (by decide) hg,h.ma.dk.keep hblk (by decide) (by decide) hg,h.ma.st.keep hblk (by decide) (by decide) hg,aj h.ma.ca hblk (by decide) hg,?_,fun q hq => ?_,h.ma.c64⟩,fun q hq => ?_⟩
 ·have:qm { H with sp:=H.sp.set p P } e=qm H e:=by unfold qm;simp only[hlen]
  rw[this]
  exact h.blk.grown hg (fun e=>hbk (Option.some.inj e).symm)
 ·simp only[hlen]
  exact hset w' _ hb
 ·rcases List.mem_or_eq_of_mem_set hq with hq|rfl
  ·exact⟨aj (h.ma.ps q hq).1 hblk (by decide) hg,(h.ma.ps q hq).2.keep hblk (by decide) hg⟩
  ·exact⟨aj ha hblk (by decide) hg,ht.keep hblk (by decide) hg⟩
 ·rcases List.mem_or_eq_of_mem_set hq with hq|rfl
  ·exact h.tz q hq
  ·exact htz
theorem DF (H:MH) (p:Nat) (P:PS):MH.ma { H with sp:=H.sp.set p P }=iJ H.ma p P.sp:=by
 unfold iJ MH.ma
 simp only[List.map_set]
theorem wI {B:Nat} {w w1 w2:World} (h:Below B w w1) (k:Below B w1 w2):Below B w w2:=
 ⟨k.os.trans h.os,k.tape.trans h.tape,k.output.trans h.output,Nat.le_trans h.size k.size,fun i hi=>(k.block i hi).trans (h.block i hi)⟩
theorem machT:40≠143∧40≠59∧40≠85∧40≠65:=by decide
def nP (H:MH) (p:Int):Prop:=p<0∨(H.sp.length:Int)≤p∨(bI H.ma p.toNat).lv=false
def MI (H:MH) (p:Int) (w:World) (r:Ending) (w' : World):Prop:=
 Below w.heap.size w w'∧((nP H p∧r = .returned (.tuple #[.agg (bM noH),.int .i64 5]))∨(¬nP H p∧∃H' : MH,r = .returned (.tuple #[.agg (bM H'),.int .i64 0])∧qW w' w.heap.size H'∧Gone H.ma H'.ma p.toNat))
theorem vO (H:MH) (p:Int) (w:World) (h:qV w H) (hR:Rt H.ma) (hC:Co H.ma) :
  Calls Try.prog 24 #[.agg (bM H),.int .i64 p] w (MI H p w):=by
 have hR':=Lib.hid hR
 have hC':=Lib.hid hC
 clear hR hC
 go_enter Try.func24,Try.ntmps24
 go_upto_region 1 with (fail)
 refine nQ (fun W=>Code.wp _ _ _ _ W) fun w1 hb1 bx1 rx1 hs1 => ?_
 have rx1:aB w1 (w.heap.size+1) (bM noH) 40:=rx1
 have h1:=h.below hb1
 clear h
 go_wp2_with (refine ak _ _ rfl w.heap.size 0 rfl rfl _ bx1.rd _ Try.underlying40 rfl machine_size ?_)
 refine (qg H _ h1).mono ?_
 rintro r w2 ⟨rfl,hb2⟩
 rw[GA.2 hR'.out]
 have h2:=h1.below hb2
 have bx2:=bx1.ext hb2
 have rx2:=rx1.ext hb2
 have hbr2:=ae hb1 hb2
 clear h1 bx1 rx1 hb1 hb2 hs1
 have hc:=bx2.cell
 unfold bM at hc
 by_cases c1:p<0
 ·have hbad:Hid (nP H p):=Lib.hid (.inl c1)
  go_wp2_with (refine ax rfl _ _ _ rfl (w.heap.size+1) (bM noH) rfl rfl _ _ rx2 rfl mach_size (eF noH) ?_)
  intro we hre hge
  have hbre:=hbr2.grown hge hbr2.size (fun k hk=>by cases hk;omega)
  go_wp2
  refine bodyPost_ret (v:=.tuple #[.agg (bM noH),.int .i64 5]) (eT Try.results24 _ _ (w.heap.size+1) _ _ _ _ rfl rfl hre Try.underlying40 rfl mach_size) rfl ?_
  exact⟨hbre,.inl ⟨hbad.out,rfl⟩⟩
 by_cases c2:(H.sp.length:Int)≤p
 ·have hbad:Hid (nP H p):=Lib.hid (.inr (.inl c2))
  go_wp2_with (refine ax rfl _ _ _ rfl (w.heap.size+1) (bM noH) rfl rfl _ _ rx2 rfl mach_size (eF noH) ?_)
  intro we hre hge
  have hbre:=hbr2.grown hge hbr2.size (fun k hk=>by cases hk;omega)
  go_wp2
  refine bodyPost_ret (v:=.tuple #[.agg (bM noH),.int .i64 5]) (eT Try.results24 _ _ (w.heap.size+1) _ _ _ _ rfl rfl hre Try.underlying40 rfl mach_size) rfl ?_
  exact⟨hbre,.inl ⟨hbad.out,rfl⟩⟩
 obtain⟨P,hP⟩:∃P:Nat,p=P:=⟨p.toNat,by omega⟩
 subst hP
 have hpl:P<H.sp.length:=by omega
 obtain⟨gs,os,Q,haq,hQ,hrd⟩:=lC h2.sp.rd P hpl
 rw[haq] at hc
 have hlv:w2.cell? ⟨gs,os+P*10,none⟩=some (.bool Q.lv):=by
  obtain⟨b',o',e',hc'⟩:=hrd 0 _ rfl
  cases e'
  exact hc'
 have hsp:=Lib.hid (jJ hQ)
 cases hlvQ:Q.lv with
 | false=>
  rw[hlvQ] at hlv
  have hbad:Hid (nP H (P:Int)):=Lib.hid (.inr (.inr (by rw[Int.toNat_natCast,hsp.out];exact hlvQ)))
  go_wp2_with (refine ax rfl _ _ _ rfl (w.heap.size+1) (bM noH) rfl rfl _ _ rx2 rfl mach_size (eF noH) ?_)
  intro we hre hge
  have hbre:=hbr2.grown hge hbr2.size (fun k hk=>by cases hk;omega)
  go_wp2
  refine bodyPost_ret (v:=.tuple #[.agg (bM noH),.int .i64 5]) (eT Try.results24 _ _ (w.heap.size+1) _ _ _ _ rfl rfl hre Try.underlying40 rfl mach_size) rfl ?_
  exact⟨hbre,.inl ⟨hbad.out,rfl⟩⟩
 | true=>
  rw[hlvQ] at hlv
  have hnb:Hid (¬nP H (P:Int)):=Lib.hid (by
   rintro (e|e|e)
   ·exact c1 e
   ·exact c2 e
   ·rw[Int.toNat_natCast,hsp.out] at e;exact absurd (hlvQ.symm.trans e) (by decide))
  go_wp2_with (refine ak _ _ rfl w.heap.size 0 rfl rfl _ bx2.rd _ Try.underlying40 rfl machine_size ?_)
  refine (qZ H _ h2 (jm hR'.out)).mono ?_
  rintro r w3 ⟨H3,rfl,ho3,hma3,_,hb3⟩
  have hl3:Hid (H3.sp.length=H.sp.length):=Lib.hid (pU (by rw[hma3]))
  have hma:=Lib.hid hma3
  have rx3:=rx2.ext hb3
  have hbr3:=ae hbr2 hb3
  clear bx2 rx2 hc hlv hrd h2 haq hma3
  unfold bM
  go_upto_region 7 with (fail)
  refine eP (fun W=>Code.wp _ _ _ _ W) fun w4 hb4 kx4 hs4 => ?_
  have k4:jL w4 w.heap.size w3.heap.size H3 0:=⟨kx4,hbr3.size,(ho3.mono hbr2.size).below hb4,fun q hq=>(KX.spz (H:=H3) (by rw[hma.out];exact jm hR'.out) hq).2⟩
  have rx4:=rx3.ext hb4
  have hbr4:=ae hbr3 hb4
  clear hb3 hb4 ho3 hbr2 kx4 hs4 rx3
  go_wp2_with fail
  refine (Ci H3 0 0 64 P _ _ _ k4 (by rw[hl3.out];exact hpl) (by omega)).mono ?_
  rintro r w5 ⟨rfl,H5,e5,k5,s5,q5⟩
  have hl5:Hid (H5.sp.length=H3.sp.length):=Lib.hid (by
   have e1:=congrArg (fun k=>k.m.sp.length) q5
   refine pU (e1.trans ?_)
   exact EE _ _ _ _ _)
  obtain⟨m',hm1,hG⟩:=Ki hR'.out hC'.out (p:=P) (by rw[nK];exact hpl)
  have hm2:DX H.ma P=⟨iJ H5.ma P zSp,e5⟩:=by
   unfold DX
   rw[←hma.out,←q5]
  rw[hm2] at hm1
  obtain⟨rfl,rfl⟩:=Kp.mk.inj hm1
  have hG':=Lib.hid hG
  have rx5:=s5.blk k4 rx4 machT
  have hbr5:=wI hbr4 (s5.to k4 (Nat.le_refl _))
  have hp5:P<H5.sp.length:=by rw[hl5.out,hl3.out];exact hpl
  have hp5i:(P:Int)<(H5.sp.length:Int):=by omega
  clear hm1 hm2 hG q5 s5 k4 rx4 hbr4
  obtain⟨g,off,cur,hap,hBg,hblk,hfit,hset⟩:=k5.putP hp5
  have hc5:=k5.blk.cell
  unfold qm at hc5
  rw[hap] at hc5
  have rxl:=rx5.lt
  go_wp2_with (refine eG rfl _ _ _ rfl g (off+P*10) #[.bool false,.slice none 0 0,.slice none 0 0,.slice none 0 0,.slice none 0 0,.slice none 0 0,.slice none 0 0,.slice none 0 0,.slice none 0 0,.slice none 0 0] rfl rfl _ _ hblk hfit space_size (by simp[Value.oneCell']) ?_)
  intro w6 hb6 hg6
  have k6:=hset w6 zPS (Own.nil _ _ _ _) (nX _ _) (oh zTb_right) hb6 hg6
  have rx6:=bq rx5 hblk (by decide) hg6
  have hbr6:=hbr5.grown hg6 hbr5.size (fun k hk=>by cases hk;exact hBg)
  clear hc5 k5 rx5 hbr5 hb6 hg6 hset hblk hfit hap
  have hc6:=k6.blk.cell
  unfold qm at hc6
  go_wp2_with (first | (refine ak _ _ rfl w3.heap.size 0 rfl rfl (bM { H5 with sp:=H5.sp.set P zPS }).toList (bG k6.blk 0 11) _ Try.underlying40 rfl machine_size ?_) | (refine ax rfl _ _ _ rfl (w.heap.size+1) (bM { H5 with sp:=H5.sp.set P zPS }) rfl rfl _ _ rx6 rfl mach_size (eF _) ?_))
  intro w7 rx7 hg7
  have hbre:=hbr6.grown hg7 hbr6.size (fun k hk=>by cases hk;omega)
  have hme:=k6.ma.keep rx6 (by decide) hg7
  go_wp2
  refine bodyPost_ret (v:=.tuple #[.agg (bM { H5 with sp:=H5.sp.set P zPS }),.int .i64 0]) (eT Try.results24 _ _ (w.heap.size+1) _ _ _ _ rfl rfl rx7 Try.underlying40 rfl mach_size) rfl ?_
  exact⟨hbre,.inr ⟨hnb.out,_,rfl,hme,by rw[DF];exact hG'.out⟩⟩
def wN (P:PS):Bool:=!P.lv
theorem Fg (P:PS) (w:World):Calls Try.prog 72 #[.agg (ny P)] w fun r w'=>r = .returned (.bool (wN P))∧Below w.heap.size w w':=by
 go_enter Try.func72,Try.ntmps72
 go_upto_region 1 with (fail)
 refine eP (fun W=>Code.wp _ _ _ _ W) fun W0 hb0 hx0 hs0 => ?_
 clear hs0
 have hcx:=hx0.cell
 have q0:(ny P)[0]?=some (.bool P.lv):=rfl
 go_wp2
 go_ret
 exact⟨rfl,hb0⟩
theorem Ko {w:World} {a:Option Addr} {l:List PS} (h:bZ w a (l.flatMap kS)) (k:Nat) (hk:k<l.length):∃b off,a=some ⟨b,off,none⟩∧bZ w (some ⟨b,off+k*10,none⟩) (kS l[k]):=fE ko (by decide) h k hk
theorem zS (l:List PS) (a:Option Addr) (c:Nat) (w:World) (hrd:bZ w a (l.flatMap kS)) (hl:l.length≤9223372036854775807)  :
  Calls Try.prog 71 #[.slice a l.length c,.func (.func 72) #[] #[]] w fun e w'=>e = .returned (.int .i64 (idx wN l))∧Below w.heap.size w w':=by
 go_enter Try.func71,Try.ntmps71
 go_wp2
 go_loopw [8] (fun i wr => ∃k:Nat,k≤l.length∧i = .int .i64 k∧Below w.heap.size w wr∧∀i (h:i<l.length),i<k→wN l[i]=false) (fun i _=>l.length-(intOf i).toNat)
 case atStart=>exact⟨0,Nat.zero_le _,rfl,Below.refl _ _,fun i _ h=>absurd h (Nat.not_lt_zero _)⟩
 case round=>
  obtain⟨k,hk,rfl,hbr,hp0⟩:=hrel
  have hp:=Lib.hid hp0
  clear hp0
  by_cases hlt:k<l.length
  ·obtain⟨b,off,rfl,hel⟩:=Ko (hrd.below hbr) k hlt
   go_wp2_with (refine ak _ _ rfl b (off+k*10) rfl rfl _ hel _ Try.underlying65 rfl space_size ?_)
   refine (Fg l[k] _).mono ?_
   rintro e w2 ⟨rfl,hb2⟩
   have hbel2:=ae hbr hb2
   clear hb2
   cases hpk:wN l[k]
   ·have hpk':=Lib.hid hpk
    clear hpk
    go_wp2
    go_roundw
    case rel=>exact⟨k+1,by omega,by go_num,hbel2,jF hp.out hlt hpk'.out⟩
    case measure=>simp[intOf];omega
   ·have hfin:=Lib.hid (tV wN l k hlt hp.out hpk)
    clear hpk
    go_wp2
    go_ret
    exact⟨aO hfin.out.symm,hbel2⟩
  ·have hfin:=Lib.hid (lI wN l fun i h=>hp.out i h (by omega))
   go_wp2
   go_ret
   exact⟨aO hfin.out.symm,hbr⟩
theorem Gq (H:MH):idx wN H.sp=Bp H.ma:=by
 unfold Bp idx MH.ma
 rw[List.findIdx?_map]
 rfl
theorem jL.appP {w w1 w2:World} {B b:Nat} {H:MH} {e:Int} (h:jL w B b H e) (hg:w.grownBy w1 (Value.slice H.ap H.sp.length H.cp).ownBlock) {a:Option Addr} {c:Nat} {l:List PS} (ho:Own w1 B 65 10 (.slice a l.length c) l.length (l.flatMap kS))
  (hp:∀p∈l,Own w1 B 69 7 (.slice p.aa p.ar.length p.ac) p.ar.length (p.ar.flatMap gW)∧kL w1 B (iG p.ts) p.tb) (htz:∀p∈l,tH p.tb) (hb:aB w2 b (putAt (qm H e) 10 [.slice a l.length c]) 143) (hg2:w1.grownBy w2 (some b)) :
  jL w2 B b { H with ap:=a,cp:=c,sp:=l } e:=by
 have m:=h.ma
 have key:aB w1 b (qm H e) 143∧Own w1 B 59 13 (.slice H.af H.m.fs.length H.cf) H.m.fs.length (H.m.fs.flatMap ng)∧Own w1 B 3 1 (.slice H.asl H.sl.length H.csl) H.sl.length (H.sl.map dE) ∧
   jO w1 B (.slice H.wb H.sw.blocks.length H.cwb) (.slice H.wq H.sw.queue.length H.cwq) H.sw∧jO w1 B (.slice H.db H.dk.blocks.length H.cdb) (.slice H.dq H.dk.queue.length H.cdq) H.dk∧qX w1 B (.slice H.ai H.fi.length H.ci) H.fi ∧
   Own w1 B 85 3 (.slice H.ac H.ca.length H.cc) H.ca.length (H.ca.flatMap kJ):=by
  rcases zh m.sp hg with h1|⟨g,cs,hk,_,hg'⟩
  ·have hb0:=fF h1
   have k:=m.below hb0
   exact⟨h.blk.ext hb0,k.fr,k.sl,k.sw,k.dk,k.st,k.ca⟩
  ·exact⟨bq h.blk hk (by decide) hg',aj m.fr hk (by decide) hg',aj m.sl hk (by decide) hg',m.sw.keep hk (by decide) (by decide) hg',m.dk.keep hk (by decide) (by decide) hg',m.st.keep hk (by decide) (by decide) hg',aj m.ca hk (by decide) hg'⟩
 obtain⟨k0,k1,k2,k3,k4,k5,k6⟩:=key
 exact⟨hb,h.ge,⟨aj k1 k0 (by decide) hg2,aj k2 k0 (by decide) hg2,k3.keep k0 (by decide) (by decide) hg2,k4.keep k0 (by decide) (by decide) hg2,k5.keep k0 (by decide) (by decide) hg2,aj k6 k0 (by decide) hg2,aj ho k0 (by decide) hg2,fun p hpm=>⟨aj (hp p hpm).1 k0 (by decide) hg2,(hp p hpm).2.keep k0 (by decide) hg2⟩,m.c64⟩,htz⟩
theorem Hf (k:Kp) (p q:Nat) (n:Int):(gB k p q n).m.sp.length=k.m.sp.length∧∀j,(bI (gB k p q n).m j).ar=(bI k.m j).ar:=by
 unfold gB
 dsimp only
 have hh:∀f n,(eU k f n).m.sp.length=k.m.sp.length∧∀j,(bI (eU k f n).m j).ar=(bI k.m j).ar:=fun f n=>by
  unfold bI
  rw[BL]
  exact⟨rfl,fun _=>rfl⟩
 split
 ·split
  ·exact⟨rfl,fun _=>rfl⟩
  ·exact lH _ _ _ _
 ·split
  ·have h1:=lH (eU k (ent k.m p n).n 1) q n (ent k.m p n)
   have h2:=hh (ent k.m p n).n 1
   exact⟨h1.1.trans h2.1,fun j=>(h1.2 j).trans (h2.2 j)⟩
  ·have h1:=lH (fq (eU k (ent k.m p n).n 1) p n ⟨(ent k.m p n).k,(ent k.m p n).n,false⟩) q n ⟨(ent k.m p n).k,(ent k.m p n).n,false⟩
   have h3:=lH (eU k (ent k.m p n).n 1) p n ⟨(ent k.m p n).k,(ent k.m p n).n,false⟩
   have h2:=hh (ent k.m p n).n 1
   exact⟨h1.1.trans (h3.1.trans h2.1),fun j=>(h1.2 j).trans ((h3.2 j).trans (h2.2 j))⟩
theorem EM (p q:Nat) (l:List Int) (k:Kp):(iR k p q l).m.sp.length=k.m.sp.length∧∀j,(bI (iR k p q l).m j).ar=(bI k.m j).ar:=by
 unfold iR
 induction l generalizing k with
 | nil=>exact⟨rfl,fun _=>rfl⟩
 | cons i l ih=>
  rw[List.foldl_cons]
  have h1:=ih (gB k p q i)
  have h2:=Hf k p q i
  exact⟨h1.1.trans h2.1,fun j=>(h1.2 j).trans (h2.2 j)⟩
theorem Ac (k:Kp) (p q:Nat) (l:List Int) (j:Nat) (hj:j<l.length):iR k p q (l.take (j+1))=gB (iR k p q (l.take j)) p q l[j]:=by
 unfold iR
 rw[List.take_add_one,List.foldl_append,List.getElem?_eq_getElem hj]
 rfl
def Nz (B:Nat) (l:List Ar):iF:=⟨fun v w => ∃a c,v = .agg #[.bool true,.slice a l.length c,.slice none 0 0,.slice none 0 0,.slice none 0 0,.slice none 0 0,.slice none 0 0,.slice none 0 0,.slice none 0 0,.slice none 0 0]∧Own w B 69 7 (.slice a l.length c) l.length (l.flatMap gW),
 fun _ _ _ hb ⟨a,c,h1,h2⟩=>⟨a,c,h1,h2.below hb⟩⟩
def JO (m:Ma) (q:Nat):Prop:=q=m.sp.length∧m.sp.length<4∨q<m.sp.length∧(bI m q).lv=false
def NB (H:MH) (p:Int) (w:World) (r:Ending) (w' : World):Prop:=
 Below w.heap.size w w'∧((nP H p∧r = .returned (.tuple #[.agg (bM noH),.int .i64 0,.int .i64 5]))∨(¬nP H p∧Bp H.ma<0∧H.sp.length=4∧r = .returned (.tuple #[.agg (bM noH),.int .i64 0,.int .i64 4])) ∨
  (¬nP H p∧∃(H' : MH) (q:Nat),JO H.ma q∧r = .returned (.tuple #[.agg (bM H'),.int .i64 q,.int .i64 0])∧qW w' w.heap.size H'∧Forked H.ma H'.ma p.toNat q))
theorem Ag (H:MH) (p:Int) (w:World) (h:qV w H) (hR:Rt H.ma) (hC:Co H.ma) :
  Calls Try.prog 22 #[.agg (bM H),.int .i64 p] w (NB H p w):=by
 have hR':=Lib.hid hR
 have hC':=Lib.hid hC
 clear hR hC
 go_enter Try.func22,Try.ntmps22
 go_upto_region 1 with (fail)
 refine nQ (fun W=>Code.wp _ _ _ _ W) fun w1 hb1 bx1 rx1 hs1 => ?_
 have rx1:aB w1 (w.heap.size+1) (bM noH) 40:=rx1
 have h1:=h.below hb1
 clear h
 go_wp2_with (refine ak _ _ rfl w.heap.size 0 rfl rfl _ bx1.rd _ Try.underlying40 rfl machine_size ?_)
 refine (qg H _ h1).mono ?_
 rintro r w2 ⟨rfl,hb2⟩
 rw[GA.2 hR'.out]
 have h2:=h1.below hb2
 have bx2:=bx1.ext hb2
 have rx2:=rx1.ext hb2
 have hbr2:=ae hb1 hb2
 clear h1 bx1 rx1 hb1 hb2 hs1
 have hc:=bx2.cell
 unfold bM at hc
 by_cases c1:p<0
 ·have hbad:Hid (nP H p):=Lib.hid (.inl c1)
  go_wp2_with (refine ax rfl _ _ _ rfl (w.heap.size+1) (bM noH) rfl rfl _ _ rx2 rfl mach_size (eF noH) ?_)
  intro we hre hge
  have hbre:=hbr2.grown hge hbr2.size (fun k hk=>by cases hk;omega)
  go_wp2
  refine bodyPost_ret (v:=.tuple #[.agg (bM noH),.int .i64 0,.int .i64 5]) (dH Try.results22 _ _ (w.heap.size+1) _ _ _ _ _ rfl rfl rfl hre Try.underlying40 rfl mach_size) rfl ?_
  exact⟨hbre,.inl ⟨hbad.out,rfl⟩⟩
 by_cases c2:(H.sp.length:Int)≤p
 ·have hbad:Hid (nP H p):=Lib.hid (.inr (.inl c2))
  go_wp2_with (refine ax rfl _ _ _ rfl (w.heap.size+1) (bM noH) rfl rfl _ _ rx2 rfl mach_size (eF noH) ?_)
  intro we hre hge
  have hbre:=hbr2.grown hge hbr2.size (fun k hk=>by cases hk;omega)
  go_wp2
  refine bodyPost_ret (v:=.tuple #[.agg (bM noH),.int .i64 0,.int .i64 5]) (dH Try.results22 _ _ (w.heap.size+1) _ _ _ _ _ rfl rfl rfl hre Try.underlying40 rfl mach_size) rfl ?_
  exact⟨hbre,.inl ⟨hbad.out,rfl⟩⟩
 obtain⟨P,hP⟩:∃P:Nat,p=P:=⟨p.toNat,by omega⟩
 subst hP
 have hpl:P<H.sp.length:=by omega
 obtain⟨gs,os,Q,haq,hQ,hrd⟩:=lC h2.sp.rd P hpl
 rw[haq] at hc
 have hlv:w2.cell? ⟨gs,os+P*10,none⟩=some (.bool Q.lv):=by
  obtain⟨b',o',e',hc'⟩:=hrd 0 _ rfl
  cases e'
  exact hc'
 have hsp:=Lib.hid (jJ hQ)
 cases hlvQ:Q.lv with
 | false=>
  rw[hlvQ] at hlv
  have hbad:Hid (nP H (P:Int)):=Lib.hid (.inr (.inr (by rw[Int.toNat_natCast,hsp.out];exact hlvQ)))
  go_wp2_with (refine ax rfl _ _ _ rfl (w.heap.size+1) (bM noH) rfl rfl _ _ rx2 rfl mach_size (eF noH) ?_)
  intro we hre hge
  have hbre:=hbr2.grown hge hbr2.size (fun k hk=>by cases hk;omega)
  go_wp2
  refine bodyPost_ret (v:=.tuple #[.agg (bM noH),.int .i64 0,.int .i64 5]) (dH Try.results22 _ _ (w.heap.size+1) _ _ _ _ _ rfl rfl rfl hre Try.underlying40 rfl mach_size) rfl ?_
  exact⟨hbre,.inl ⟨hbad.out,rfl⟩⟩
 | true=>
  rw[hlvQ] at hlv
  have hnb:Hid (¬nP H (P:Int)):=Lib.hid (by
   rintro (e|e|e)
   ·exact c1 e
   ·exact c2 e
   ·rw[Int.toNat_natCast,hsp.out] at e;exact absurd (hlvQ.symm.trans e) (by decide))
  have hsr:=h2.sp
  rw[haq] at hsr
  have h4:Hid (H.sp.length≤4):=Lib.hid (by have:=hR'.out.pt.spl;rw[nK] at this;exact this)
  go_wp2_with fail
  refine (zS H.sp (some ⟨gs,os,none⟩) H.cp _ hsr.rd (by have:=h4.out;omega)).mono ?_
  rintro r w2' ⟨rfl,hbd⟩
  rw[Gq]
  have h2':=h2.below hbd
  have bx2':=bx2.ext hbd
  have rx2':=rx2.ext hbd
  have hbr2':=ae hbr2 hbd
  clear hc hlv hrd h2 haq hsr bx2 rx2 hbr2 hbd
  have hc:=bx2'.cell
  unfold bM at hc
  generalize hdI:Bp H.ma=d
  have hd':=Lib.hid hdI
  clear hdI
  by_cases d0:d<0∧H.sp.length=4
  ·obtain⟨d1,d2⟩:=d0
   have hbr2:=hbr2'
   have rx2:=rx2'
   rw[d2] at hc
   go_wp2_with (refine ax rfl _ _ _ rfl (w.heap.size+1) (bM noH) rfl rfl _ _ rx2 rfl mach_size (eF noH) ?_)
   intro we hre hge
   have hbre:=hbr2.grown hge hbr2.size (fun k hk=>by cases hk;omega)
   go_wp2
   refine bodyPost_ret (v:=.tuple #[.agg (bM noH),.int .i64 0,.int .i64 4]) (dH Try.results22 _ _ (w.heap.size+1) _ _ _ _ _ rfl rfl rfl hre Try.underlying40 rfl mach_size) rfl ?_
   exact⟨hbre,.inr (.inl ⟨hnb.out,by rw[hd'.out];exact d1,d2,rfl⟩)⟩
  have hdl:Hid (¬(d<0∧H.sp.length=4)):=Lib.hid d0
  have hdq:Hid (0≤d→∃k:Nat,d=k∧k<H.sp.length∧(bI H.ma k).lv=false):=Lib.hid (fun hd0=>by
   obtain⟨k,hk,hkl,hkv⟩:=zI (q:=fun s:Sp => !s.lv) (l:=H.ma.sp) (by show 0≤Bp H.ma;rw[hd'.out];exact hd0)
   refine⟨k,hd'.out.symm.trans hk,by rw[nK] at hkl;exact hkl,?_⟩
   unfold bI
   rw[List.getD_eq_getElem?_getD,List.getElem?_eq_getElem hkl]
   simpa using hkv)
  go_upto_region 7 with (fail)
  go_cut [47] (fun s47 wx=>s47 = .bool false∧wx=w2')
  case first=>
   by_cases d1:d<0
   ·have hl4:¬(H.sp.length:Int)=4:=fun e=>hdl.out ⟨d1,by omega⟩
    go_wp2
    go_meet
    case rel=>exact⟨by simp[hl4],rfl⟩
   ·go_wp2
    go_meet
    case rel=>exact⟨rfl,rfl⟩
  case rest=>
   obtain⟨rfl,hwc⟩:=hcut
   subst hwc
   clear hc
   go_wp2_with (refine ak _ _ rfl w.heap.size 0 rfl rfl _ bx2'.rd _ Try.underlying40 rfl machine_size ?_)
   refine (qZ H _ h2' (jm hR'.out)).mono ?_
   rintro r w3 ⟨H3,rfl,ho3,hma3,_,hb3⟩
   have hl3:Hid (H3.sp.length=H.sp.length):=Lib.hid (pU (by rw[hma3]))
   have hma:=Lib.hid hma3
   have rx3:=rx2'.ext hb3
   have hbr3:=ae hbr2' hb3
   clear bx2' rx2' h2' hma3
   unfold bM
   go_upto_if 54 with (fail)
   refine eP (fun W=>Code.wp _ _ _ _ W) fun w4 hb4 kx4 hs4 => ?_
   have k4:jL w4 w.heap.size w3.heap.size H3 0:=⟨kx4,hbr3.size,(ho3.mono hbr2'.size).below hb4,fun q hq=>(KX.spz (H:=H3) (by rw[hma.out];exact jm hR'.out) hq).2⟩
   have rx4:=rx3.ext hb4
   have hbr4:=ae hbr3 hb4
   obtain⟨b,hbdef⟩:∃b,w3.heap.size=b:=⟨_,rfl⟩
   rw[hbdef] at k4 ⊢
   clear hb3 hb4 ho3 hbr2' kx4 hs4 rx3 hbr3 hbdef
   go_cut [8] (fun s8 wx => ∃(q:Nat) (HX:MH),s8 = .int .i64 q∧jL wx w.heap.size b HX 0∧aB wx (w.heap.size+1) (bM noH) 40∧Below w.heap.size w wx∧Hid (q<HX.sp.length∧HX.sp.length≤4∧P≠q∧(∃Q',HX.sp[P]?=some Q'∧Q'.sp=bI H.ma P)∧iJ HX.ma q ⟨true,(bI H.ma P).ar,zTb⟩=dM H.ma P q∧JO H.ma q))
   case first=>
    by_cases d1:d<0
    ·have hl4:Hid (H3.sp.length=H.sp.length∧H.sp.length<4):=Lib.hid ⟨hl3.out,by
      have:=h4.out
      have h5:¬H.sp.length=4:=fun e=>hdl.out ⟨d1,e⟩
      omega⟩
     have hc4:=k4.blk.cell
     unfold qm at hc4
     have hownP:=k4.ma.sp
     go_wp2_with (at_builtin;go_must (refine jc rfl _ _ 38 rfl w.heap.size 65 _ 10 224 Try.underlying38 space_info rfl (by decide) _ H3.sp.length (H3.sp.flatMap kS) rfl (hownP.alloc _) (some ⟨w4.heap.size,0,none⟩) 1 1 (kS zPS) rfl (fun h=>(by cases h)) (Nat.le_refl _) rfl (bZ.new _ (ny zPS) _) (aY (by simp[ny,zPS,nTs,Value.oneCell'])) (by have:=hl4.out;unfold maxLen;omega) (by have:=hl4.out;omega) (cO hbr4.size _) ?_))
     intro v2 wa own2 hg2 hsn2
     have hal:=(Below.refl w4.heap.size w4).alloc (Nat.le_refl _) (.cells (ny zPS) 65)
     have k4a:=k4.below hal
     have hownP1:Own (w4.alloc (.cells (ny zPS) 65)) w.heap.size 65 10 (.slice H3.ap H3.sp.length H3.cp) H3.sp.length (H3.sp.flatMap kS):=k4a.ma.sp
     have hbk2:=mJ hownP1 hg2 k4a.blk (by decide)
     have rxa:=mJ hownP1 hg2 (rx4.ext hal) (by decide)
     have hps2:∀p∈H3.sp++[zPS],Own wa w.heap.size 69 7 (.slice p.aa p.ar.length p.ac) p.ar.length (p.ar.flatMap gW)∧kL wa w.heap.size (iG p.ts) p.tb:=fun p hp=>by
      rcases List.mem_append.1 hp with hp|hp
      ·exact⟨eD hownP1 hg2 (k4a.ma.ps p hp).1 (by decide),rF hownP1 hg2 (k4a.ma.ps p hp).2⟩
      ·rw[List.mem_singleton.1 hp]
       exact⟨Own.nil _ _ _ _,nX _ _⟩
     have htz2:∀p∈H3.sp++[zPS],tH p.tb:=fun p hp=>by
      rcases List.mem_append.1 hp with hp|hp
      ·exact k4a.tz p hp
      ·rw[List.mem_singleton.1 hp]
       exact oh zTb_right
     have hbra:Below w.heap.size w wa:=(ae hbr4 hal).grown hg2 (ae hbr4 hal).size (fun k hk=>hownP1.ge k hk)
     obtain⟨a2,c2,rfl,_⟩:=own2.rd
     have hlen2:(H3.sp++[zPS]).length=H3.sp.length+1:=by simp
     have own2' : Own wa w.heap.size 65 10 (.slice a2 (H3.sp++[zPS]).length c2) (H3.sp++[zPS]).length ((H3.sp++[zPS]).flatMap kS):=by
      rw[hlen2,List.flatMap_append]
      simpa using own2
     clear hc4 hownP own2 hal rx4 hbr4
     go_wp2_with (refine ay rfl _ _ _ rfl b 10 _ [.slice a2 (H3.sp.length+1) c2] rfl rfl rfl _ _ hbk2 (by show 10+1≤12;omega) (by kernel_rfl) (fun u hu=>by cases List.mem_singleton.1 hu;rfl) ?_)
     intro w5 hb5 hg5
     have k5:=k4a.appP hg2 own2' hps2 htz2 (by rw[hlen2];exact hb5) hg5
     have rx5:=bq rxa hbk2 (by decide) hg5
     have hbr5:=hbra.grown hg5 hbra.size (fun k hk=>by cases hk;exact k4.ge)
     clear hb5 hg5 hbk2 rxa hbra hps2 htz2 own2' hownP1 hg2 hsn2 k4 k4a
     go_wp2
     go_meet
     case rel=>
      have hz:=hl4.out
      have hm:=hma.out
      refine⟨H3.sp.length,_,rfl,k5,rx5,hbr5,Lib.hid ⟨by simp,by simp;omega,by omega,?_,?_,.inl ⟨by rw[nK];omega,by rw[nK];omega⟩⟩⟩
      ·have hp3:P<H3.sp.length:=by omega
       refine⟨H3.sp[P],by rw[List.getElem?_append_left hp3];exact List.getElem?_eq_getElem hp3,?_⟩
       rw[←hm]
       exact (jJ (List.getElem?_eq_getElem hp3)).symm
      ·unfold dM
       rw[if_pos (by rw[nK];exact hz.1),←hm]
       unfold iJ MH.ma
       simp[List.map_append,List.set_append_right]
    ·obtain⟨k,rfl,hk1,hk2⟩:=hdq.out (by omega)
     have hk':=Lib.hid (And.intro hk1 hk2)
     clear hk1 hk2
     go_wp2
     go_meet
     case rel=>
      have hz:=hk'.out
      have hm:=hma.out
      have hp3:P<H3.sp.length:=by rw[hl3.out];exact hpl
      refine⟨k,H3,rfl,k4,rx4,hbr4,Lib.hid ⟨by rw[hl3.out];exact hz.1,by rw[hl3.out];exact h4.out,fun e => ?_,⟨H3.sp[P],List.getElem?_eq_getElem hp3,?_⟩,?_,.inr ⟨by rw[nK];exact hz.1,hz.2⟩⟩⟩
      ·have h9:=hz.2
       rw[←e,hsp.out] at h9
       exact absurd (hlvQ.symm.trans h9) (by decide)
      ·rw[←hm]
       exact (jJ (List.getElem?_eq_getElem hp3)).symm
      ·unfold dM
       rw[if_neg (by rw[nK];omega),hm]
   case rest=>
    obtain⟨q,HX,rfl,kx,rx,hbx,hf⟩:=hcut
    clear k4 rx4 hbr4
    obtain⟨hq1,hx4,hPq,⟨Q',hQ',hQs⟩,hset0,hnq⟩:=hf.out
    clear hf
    have hset':=Lib.hid hset0
    have hnq':=Lib.hid hnq
    have hQs':=Lib.hid hQs
    clear hset0 hnq hQs
    obtain⟨g,off,cur,hap,hBg,hblk,hfit,hput⟩:=kx.putP hq1
    have hP1:=(List.getElem?_eq_some_iff.1 hQ').1
    have hP1i:(P:Int)<(HX.sp.length:Int):=by omega
    have hq1i:(q:Int)<(HX.sp.length:Int):=by omega
    have hcA:∀W,Below wc.heap.size wc W→W.cell? ⟨g,off+P*10+1,none⟩=some (.slice Q'.aa Q'.ar.length Q'.ac):=fun W hb=>by
     obtain⟨g',off',hap',hrd,_,_⟩:=(kx.below hb).at hQ'
     rw[hap] at hap'
     cases hap'
     obtain⟨b',o',e',hc'⟩:=hrd 1 _ rfl
     cases e'
     exact hc'
    have hA:=((kx.ma.rd.ps Q' (List.mem_of_getElem? hQ'))).ars
    have hA40:Q'.ar.length*40≤140737488355328:=by
     have h9:=(eQ.1 (hR'.out.pt.ar _ (rZ (m:=H.ma) (p:=P) (by rw[nK];exact hpl)))).1
     rw[←hQs'.out] at h9
     have:Q'.sp.ar.length=Q'.ar.length:=rfl
     omega
    go_upto_region 13 with (fail)
    refine aC 18 [_,_,_,_,_,_,_,_,_,_,_,_,_,_,_,.r 15 ((ic wc.heap.size 69 7 Q'.ar.length (Q'.ar.flatMap gW))),.r 16 ((Nz wc.heap.size Q'.ar)),_] (Gk rfl (Gk rfl (Gf b 0 rfl rfl (Gf b 10 rfl rfl (Gl kx.blk (V:=.slice (some ⟨g,off,none⟩) HX.sp.length HX.cp) (by simp[qm,hap]) rfl rfl rfl rfl (Gk rfl (Gk rfl (Gk rfl (Gf b 0 rfl rfl (Gf b 10 rfl rfl (Gl kx.blk (V:=.slice (some ⟨g,off,none⟩) HX.sp.length HX.cp) (by simp[qm,hap]) rfl rfl rfl rfl (Gk rfl (Gr (.pointer (some ⟨g,off+P*10,none⟩)) (fun ρ y W hb hKn=>(aR rfl (az rfl hKn) (az rfl hKn) hP1 Try.underlying38 space_size)) rfl rfl (Gf g (off+P*10+1) rfl rfl (Gc (.slice Q'.aa Q'.ar.length Q'.ac) (fun W hb=>by simp[hcA _ hb]) rfl rfl rfl rfl (all_cons ?_ (all_cons ?_ (Gr (.pointer (some ⟨g,off+q*10,none⟩)) (fun ρ y W hb hKn=>(aR rfl (az rfl hKn) (az rfl hKn) hq1 Try.underlying38 space_size)) rfl rfl (all_nil))))))))))))))))))) (fun _=>rfl) rfl ?_
    ·intro ρ y W hw hn hb hd;have E87:=hw 87 14 rfl;have h14:y 14=_:=hd 14 rfl
     have EF:∀f,ρ (.func f) = .func (.func f) #[] #[]:=fun f=>hn (.func f) trivial
     refine aG _ _ (ag rfl) (aK rfl (EF _) Try.func59 (by kernel_rfl) (by kernel_rfl) (by simp only[List.map_toArray,List.map_cons,List.map_nil,E87,h14,EF];rfl)) ?_
     refine (uF Q'.ar Q'.aa Q'.ac W hA.le hA.nl (hA.below hb).rd hA40).mono ?_
     rintro e w1 ⟨u,rfl,ho,hb1⟩
     exact⟨_,rfl,hb1,ho.mono hb.size⟩
    ·intro ρ y W hw hn hb hd;have E88:=hw 88 15 rfl;have h15:=hd 15 rfl
     obtain⟨ua,uc,hu,_⟩:=Own.rd h15
     have h15o:Own W wc.heap.size 69 7 (y 15) Q'.ar.length (Q'.ar.flatMap gW):=h15
     rw[hu] at h15o
     refine ah (.agg #[.bool true,.slice ua Q'.ar.length uc,.slice none 0 0,.slice none 0 0,.slice none 0 0,.slice none 0 0,.slice none 0 0,.slice none 0 0,.slice none 0 0,.slice none 0 0]) (ag rfl) (by simp[execOp,go_sem,E88,hu,hn (.const _) trivial,Act.eval]) ?_
     exact⟨ua,uc,rfl,h15o⟩
    intro y W5 hbW5 hRW5
    have hy15:((ic wc.heap.size 69 7 Q'.ar.length (Q'.ar.flatMap gW))).r (y 15) W5:=hRW5 15 (by decide)
    have hy16:((Nz wc.heap.size Q'.ar)).r (y 16) W5:=hRW5 16 (by decide)
    clear hRW5
    obtain⟨ua,uc,e16,ho5⟩:=hy16
    simp only[e16]
    clear e16 hy15
    have hblk5:=hblk.ext hbW5
    go_wp2_with (refine eG rfl _ _ _ rfl g (off+q*10) #[.bool true,.slice ua Q'.ar.length uc,.slice none 0 0,.slice none 0 0,.slice none 0 0,.slice none 0 0,.slice none 0 0,.slice none 0 0,.slice none 0 0,.slice none 0 0] rfl rfl _ _ hblk5 hfit space_size (by simp[Value.oneCell']) ?_)
    intro w6 hb6 hg6
    obtain⟨g',off',cur',hap',_,hblk',_,hput'⟩:=(kx.below hbW5).putP hq1
    rw[hap] at hap'
    cases hap'
    have hcur:cur' = cur:=by
     unfold aB at hblk' hblk5
     rw[hblk'] at hblk5
     simpa using hblk5
    subst hcur
    have k6:=hput' w6 ⟨true,ua,uc,Q'.ar,nTs,zTb⟩ (ho5.mono hbx.size) (nX _ _) (oh zTb_right) hb6 hg6
    have rx6:=bq (rx.ext hbW5) hblk5 (by decide) hg6
    have hbr6:=(ae hbx hbW5).grown hg6 (ae hbx hbW5).size (fun k hk=>by cases hk;exact hBg)
    have hQ6:(HX.sp.set q ⟨true,ua,uc,Q'.ar,nTs,zTb⟩)[P]?=some Q':=by rw[List.getElem?_set_ne (fun e=>hPq e.symm)];exact hQ'
    have hm6:Hid (MH.ma { HX with sp:=HX.sp.set q ⟨true,ua,uc,Q'.ar,nTs,zTb⟩ }=dM H.ma P q):=Lib.hid (by
     rw[DF,←hset'.out,←hQs'.out]
     rfl)
    have hl6:Hid ((HX.sp.set q ⟨true,ua,uc,Q'.ar,nTs,zTb⟩).length=HX.sp.length):=Lib.hid List.length_set
    clear hcA hap hblk hfit hput hput' hblk' hblk5 hb6 hg6 ho5 kx rx hbx hbW5 hA hA40 hQ' hBg
    have hS:∃HS:MH,HS = { HX with sp:=HX.sp.set q ⟨true,ua,uc,Q'.ar,nTs,zTb⟩ }:=⟨_,rfl⟩
    obtain⟨HS,hHS⟩:=hS
    rw[←hHS] at k6 hm6
    have hQ6:HS.sp[P]?=some Q':=by rw[hHS];exact hQ6
    have hlS:Hid (HS.sp.length=HX.sp.length):=Lib.hid (by rw[hHS];exact hl6.out)
    clear hHS hl6
    have hq2:q<HS.sp.length:=by rw[hlS.out];exact hq1
    have hP2:P<HS.sp.length:=by rw[hlS.out];exact hP1
    have hP2i:(P:Int)<(HS.sp.length:Int):=by omega
    obtain⟨g6,off6,hap6,hrd6,hrt6,hgood6⟩:=k6.at hQ6
    have hc6:=k6.blk.cell
    unfold qm at hc6
    rw[hap6] at hc6
    go_wp2_with (refine ak _ _ rfl g6 (off6+P*10+2) rfl rfl _ hrt6 _ Try.underlying63 tab_agg tab_size ?_)
    refine (mX Q'.tb (iG Q'.ts) _ hgood6.tb).mono ?_
    rintro r w7 ⟨v7,rfl,ho7,hb7⟩
    obtain⟨a7,c7,rfl,_,hmx7,_,_⟩:=ho7.rd
    have hin:=Lib.hid (fun n (hn:n∈aF Q'.tb)=>(gH.1 hn))
    have hfk:Hid (Gs H.ma P q=iR ⟨dM H.ma P q,0⟩ P q (aF Q'.tb)):=Lib.hid (by unfold Gs;rw[←hQs'.out];rfl)
    generalize aF Q'.tb=l at *
    have k7:=k6.below hb7
    have s7:=(KS.refl w6 b HS).below hb7
    unfold maxLen at hmx7
    clear hc6 hrd6 hrt6 hgood6 hap6 hb7
    go_wp2
    go_loopw [102] (fun s102 wr => ∃(j:Nat) (Hj:MH) (ej:Int),j≤l.length∧s102 = .int .i64 j∧jL wr w.heap.size b Hj ej∧KS w6 b HS wr Hj∧Hid (Kp.mk Hj.ma ej=iR ⟨dM H.ma P q,0⟩ P q (l.take j))∧Own wr w6.heap.size 3 1 (.slice a7 l.length c7) l.length (l.map dE)) (fun s102 _=>l.length-(intOf s102).toNat)
    case atStart=>exact⟨0,HS,0,Nat.zero_le _,rfl,k7,s7,Lib.hid (by rw[hm6.out];rfl),ho7⟩
    case round=>
     clear ho7 k7 s7
     obtain⟨j,Hj,ej,hj,rfl,hj3,sj3,qj,hoj⟩:=hrel
     by_cases hjl:j<l.length
     ·have hji:(j:Int)<(l.length:Int):=by omega
      obtain⟨_,_,e9,_,_,_,hrL⟩:=hoj.rd
      cases e9
      obtain⟨bl,ol,rfl,hcj⟩:=hrL j (dE l[j]) (by rw[List.getElem?_map,List.getElem?_eq_getElem hjl];rfl)
      unfold dE at hcj
      have hi:=hin.out _ (List.getElem_mem hjl)
      have hstep:=Lib.hid (Ac ⟨dM H.ma P q,0⟩ P q l j hjl)
      generalize l[j]=i at *
      have hspj:=EM P q (l.take j) ⟨dM H.ma P q,0⟩
      rw[←qj.out,←hm6.out] at hspj
      have hlj:Hj.sp.length=HS.sp.length:=pU hspj.1
      have hfi:0≤eY (bI Hj.ma P).ar i:=by
       rw[hspj.2,jJ hQ6]
       have hne:(ent H.ma P i).k≠0:=by unfold ent;rw[←hQs'.out];exact hi.2
       obtain⟨pg,hpg,_⟩:=hR'.out.en P i hne
       have:=(GN hpg).2
       rw[←hQs'.out] at this
       exact this
      have hlj':=Lib.hid hlj
      clear hspj hlj
      go_wp2_with fail
      refine (Dg Hj ej i P q _ b _ hj3 (by rw[hlj'.out];exact hP2) (by rw[hlj'.out];exact hq2) hfi).mono ?_
      rintro r w8 ⟨rfl,H8,e8,h8,s8,q8⟩
      have ho8:=s8.own hj3 hoj (by decide)
      have s08:=sj3.trans s8
      have hq8:Hid (Kp.mk H8.ma e8=iR ⟨dM H.ma P q,0⟩ P q (l.take (j+1))):=Lib.hid (by rw[hstep.out,←qj.out];exact q8)
      clear q8 s8 hj3 sj3 hoj qj hrL hcj hfi hi
      go_wp2
      go_roundw
      case rel=>exact⟨j+1,H8,e8,by omega,by go_num,h8,s08,hq8,ho8⟩
      case measure=>simp[intOf];omega
     ·have hji:¬(j:Int)<(l.length:Int):=by omega
      rw[List.take_of_length_le (by omega)] at qj
      obtain⟨m',hm1,hF⟩:=Kt hR'.out hC'.out (p:=P) (q:=q) (by rw[nK];exact hpl) (by rw[hsp.out];exact hlvQ) hnq'.out
      rw[hfk.out,←qj.out] at hm1
      obtain⟨rfl,rfl⟩:=Kp.mk.inj hm1
      have hF':=Lib.hid hF
      have rxj:=sj3.blk k6 rx6 machT
      have hbrj:=wI hbr6 (sj3.to k6 (Nat.le_refl _))
      have rxl:=rxj.lt
      clear hoj qj hm1 hF sj3 k6 rx6 hbr6
      have hcj:=hj3.blk.cell
      unfold qm at hcj
      go_wp2_with (first | (refine ak _ _ rfl b 0 rfl rfl (bM Hj).toList (bG hj3.blk 0 11) _ Try.underlying40 rfl machine_size ?_) | (refine ax rfl _ _ _ rfl (w.heap.size+1) (bM Hj) rfl rfl _ _ rxj rfl mach_size (eF _) ?_))
      intro we rxe hge
      have hbre:=hbrj.grown hge hbrj.size (fun k hk=>by cases hk;omega)
      have hme:=hj3.ma.keep rxj (by decide) hge
      go_wp2
      refine bodyPost_ret (v:=.tuple #[.agg (bM Hj),.int .i64 q,.int .i64 0]) (dH Try.results22 _ _ (w.heap.size+1) _ _ _ _ _ rfl rfl rfl rxe Try.underlying40 rfl mach_size) rfl ?_
      exact⟨hbre,.inr (.inr ⟨hnb.out,Hj,q,hnq'.out,rfl,hme,hF'.out⟩)⟩
def xI (x:Int) (m:Nat):Nat:=(max (min x m) 0).toNat
theorem Df (x:Int) (m:Nat):xI x m≤m:=by unfold xI;omega
theorem yQ (x:Int) (m:Nat):((xI x m:Nat):Int)=max (min x m) 0:=by unfold xI;omega
def Lm (f s b:Int) (l:List UInt8) (w:World) (r:Ending) (w' : World):Prop:=∃H:MH,r = .returned (.agg (bM H))∧qW w' w.heap.size H∧Below w.heap.size w w'∧Rt H.ma∧Co H.ma∧(∀p∈H.sp,∀n g,onA p.ar n=some g→g.fi<H.fi.length) ∧
 H.m.fs.length=xI f 40∧H.dk.blocks.length=xI b 80∧(1≤H.sp.length∧H.sp.length≤2)∧(l=[]→H.ma=qi (xI f 40) (xI s 60) (xI b 80))
theorem wo (fr sl bl:Int) (al:Option Addr) (cl:Nat) (l:List UInt8) (w:World) (hr:lM w al cl l.length (l.map kK)) :
  Calls Try.prog 9 #[.int .i64 fr,.int .i64 sl,.int .i64 bl,.slice al l.length cl] w (Lm fr sl bl l w):=by
 have hra:Hid (∀a,al=some a→l.map kK≠[]→a.block<w.heap.size):=Lib.hid fun a ha hl=>by
  obtain⟨u,hu⟩:∃u,(l.map kK)[0]?=some u:=⟨_,List.getElem?_eq_getElem (List.length_pos_iff.2 hl)⟩
  obtain⟨b',o',e,hc⟩:=hr.rd 0 u hu
  rw[ha] at e
  cases e
  exact Kh hc
 go_enter Try.func9,Try.ntmps9
 go_upto_region 2 with (fail)
 refine nQ (fun W=>Code.wp _ _ _ _ W) fun w1 hb1 bx1 mx1 hs1 => ?_
 have hr1:=hr.below hb1
 have mx1:aB w1 (w.heap.size+1) (eB ⟨al,cl,l,noH,none,0,[]⟩) 89:=mx1
 have bx1:aB w1 w.heap.size (bM noH) 40:=bx1
 clear hr
 go_upto_region 3 with (fail)
 have e0:(if (if 40<fr then (40:Int) else fr)<0 then 0 else if 40<fr then 40 else fr)=((xI fr 40:Nat):Int):=by
  rw[yQ];split<;>split<;>omega
 have e1:(if (if 60<sl then (60:Int) else sl)<0 then 0 else if 60<sl then 60 else sl)=((xI sl 60:Nat):Int):=by
  rw[yQ];split<;>split<;>omega
 have e2:(if (if 80<bl then (80:Int) else bl)<0 then 0 else if 80<bl then 80 else bl)=((xI bl 80:Nat):Int):=by
  rw[yQ];split<;>split<;>omega
 rw[e0,e1,e2]
 clear e0 e1 e2
 generalize (if 40<fr then (40:Int) else fr)=z0
 generalize (if 60<sl then (60:Int) else sl)=z1
 generalize (if 80<bl then (80:Int) else bl)=z2
 obtain⟨f,hf⟩:∃f,xI fr 40=f:=⟨_,rfl⟩
 obtain⟨s,hs⟩:∃s,xI sl 60=s:=⟨_,rfl⟩
 obtain⟨ct,hct⟩:∃ct,xI bl 80=ct:=⟨_,rfl⟩
 have hf40:f≤40:=by rw[←hf];exact Df _ _
 have hs60:s≤60:=by rw[←hs];exact Df _ _
 have hc80:ct≤80:=by rw[←hct];exact Df _ _
 have hcl:=Lib.hid (And.intro hf (And.intro hs hct))
 rw[hf,hs,hct]
 clear hf hs hct
 have hb1z:w.heap.size+2≤w1.heap.size:=mx1.lt
 have hmkF:∀W:World,(Instr.makeSlice 25 (.int .i64 (f:Int)) (.int .i64 (f:Int))).run Try.prog W = .ok (.slice (some ⟨W.heap.size,0,none⟩) f f) (W.alloc (.cells (madeCells (qa fr0) (f*13)) 59)):=
  zC 25 59 _ 13 40 Try.underlying25 frame_info .i64 .i64 f (by omega) (by omega)
 have hmkS:∀W:World,(Instr.makeSlice 29 (.int .i64 (s:Int)) (.int .i64 (s:Int))).run Try.prog W = .ok (.slice (some ⟨W.heap.size,0,none⟩) s s) (W.alloc (.cells (madeCells #[.int .i64 0] (s*1)) 3)):=
  zC 29 3 _ 1 8 Try.underlying29 int_info .i64 .i64 s (by omega) (by omega)
 have hmkW:∀W:World,(Instr.makeSlice 30 (.int .i64 (s:Int)) (.int .i64 (s:Int))).run Try.prog W = .ok (.slice (some ⟨W.heap.size,0,none⟩) s s) (W.alloc (.cells (madeCells (dO zPg) (s*8)) 50)):=
  zC 30 50 _ 8 8 Try.underlying30 page_info .i64 .i64 s (by omega) (by omega)
 have hmkD:∀W:World,(Instr.makeSlice 30 (.int .i64 (ct:Int)) (.int .i64 (ct:Int))).run Try.prog W = .ok (.slice (some ⟨W.heap.size,0,none⟩) ct ct) (W.alloc (.cells (madeCells (dO zPg) (ct*8)) 50)):=
  zC 30 50 _ 8 8 Try.underlying30 page_info .i64 .i64 ct (by omega) (by omega)
 have hb2:=Lib.hid hb1
 clear hb1
 refine dG 17 [_,_,.r 2 ((aN fun _=>True)),.r 3 ((aN fun _=>True)),_,.r 5 ((aN fun _=>True)),_,.r 7 ((aN fun _=>True)),.r 8 ((aN fun _=>True)),_,.r 10 ((aN fun _=>True)),.r 11 ((aN fun _=>True)),_,.v (.agg #[.slice none 0 0,.int .i64 (ct:Int)]),.r 14 ((aN fun _=>True)),_,_] (JM w1 w1.heap.size f s ct (qa fr0) #[.int .i64 0] (dO zPg)) lW (fun y=>Np y) (Qk lW rfl (Qk lW rfl (all_cons ?_ (all_cons ?_ (Qk lW rfl (all_cons ?_ (Qk lW rfl (all_cons ?_ (all_cons ?_ (Qk lW rfl (all_cons ?_ (all_cons ?_ (Qk lW rfl (all_cons ?_ (all_cons ?_ (Qk lW rfl (Qf lW (w.heap.size+1) 1 rfl rfl (all_nil) (fun _ _ _ _ hLd h=>rY (by decide) h)) (fun _ _ _ _ hLd h=>rY (by decide) h)))) (fun _ _ _ _ hLd h=>rY (by decide) h)))) (fun _ _ _ _ hLd h=>rY (by decide) h)))) (fun _ _ _ _ hLd h=>rY (by decide) h))) (fun _ _ _ _ hLd h=>rY (by decide) h)))) (fun _ _ _ _ hLd h=>rY (by decide) h)) (fun _ _ _ _ hLd h=>rY (by decide) h)) (fun _=>rfl) rfl ?_
 ·intro ρ y W L hw hn hLi hLd hb hd;have E32:=hw 32 1 rfl;have h1:y 1=_:=hd 1 rfl
  refine bF (.slice (some ⟨W.heap.size,0,none⟩) f f) (ag rfl) ?_ (Nq hLi (Nat.le_refl _) hb) trivial
  simp[execOp,go_sem,E32,h1,hmkF]
 ·intro ρ y W L hw hn hLi hLd hb hd;have E33:=hw 33 2 rfl;have h2:=hd 2 rfl
  obtain⟨g,e2,_,_⟩:=hb.k2 (hLd 2 rfl)
  refine bF (.agg #[y 2,.int .i64 0]) (ag rfl) ?_ (Nk hLi (hLd 2 rfl) hb) trivial
  rw[e2] at E33 ⊢
  simp[execOp,go_sem,E33]
 ·intro ρ y W L hw hn hLi hLd hb hd;have E35:=hw 35 4 rfl;have h4:y 4=_:=hd 4 rfl
  refine bF (.slice (some ⟨W.heap.size,0,none⟩) s s) (ag rfl) ?_ (Ny hLi (Nat.le_refl _) hb) trivial
  simp[execOp,go_sem,E35,h4,hmkS]
 ·intro ρ y W L hw hn hLi hLd hb hd;have E37:=hw 37 6 rfl;have h6:y 6=_:=hd 6 rfl
  refine bF (.slice (some ⟨W.heap.size,0,none⟩) s s) (ag rfl) ?_ (Nt hLi (Nat.le_refl _) hb) trivial
  simp[execOp,go_sem,E37,h6,hmkW]
 ·intro ρ y W L hw hn hLi hLd hb hd;have E38:=hw 38 7 rfl;have h7:=hd 7 rfl
  obtain⟨g,e2,_,_⟩:=hb.k7 (hLd 7 rfl)
  refine bF (.agg #[y 7,.slice none 0 0]) (ag rfl) ?_ (Nn hLi (hLd 7 rfl) hb) trivial
  rw[e2] at E38 ⊢
  simp[execOp,go_sem,E38]
 ·intro ρ y W L hw hn hLi hLd hb hd;have E40:=hw 40 9 rfl;have h9:y 9=_:=hd 9 rfl
  refine bF (.slice (some ⟨W.heap.size,0,none⟩) ct ct) (ag rfl) ?_ (MX hLi (Nat.le_refl _) hb) trivial
  simp[execOp,go_sem,E40,h9,hmkD]
 ·intro ρ y W L hw hn hLi hLd hb hd;have E41:=hw 41 10 rfl;have h10:=hd 10 rfl
  obtain⟨g,e2,_,_⟩:=hb.k10 (hLd 10 rfl)
  refine bF (.agg #[y 10,.slice none 0 0]) (ag rfl) ?_ (MR hLi (hLd 10 rfl) hb) trivial
  rw[e2] at E41 ⊢
  simp[execOp,go_sem,E41]
 ·intro ρ y W L hw hn hLi hLd hb hd
  refine bS lW (fun _ _ h=>rY (by decide) h) hb ?_
  have E43:=hw 43 12 rfl
  have h12:y 12=_:=hd 12 rfl
  refine ah (.agg #[.slice none 0 0,.int .i64 (ct:Int)]) (ag rfl) (by simp[execOp,go_sem,E43,h12]) rfl
 ·intro ρ y W L hw hn hLi hLd hb hd;have E34:=hw 34 3 rfl;have h3:=hd 3 rfl;have E36:=hw 36 5 rfl;have h5:=hd 5 rfl;have E39:=hw 39 8 rfl;have h8:=hd 8 rfl;have E42:=hw 42 11 rfl;have h11:=hd 11 rfl
  have E44:=hw 44 13 rfl
  have h13:y 13=_:=hd 13 rfl
  obtain⟨l2,e3⟩:=hb.k3 (hLd 3 rfl)
  obtain⟨l7,e8⟩:=hb.k8 (hLd 8 rfl)
  obtain⟨l10,e11⟩:=hb.k11 (hLd 11 rfl)
  obtain⟨g2,e2,_,_⟩:=hb.k2 l2
  obtain⟨g5,e5,_,_⟩:=hb.k5 (hLd 5 rfl)
  obtain⟨g7,e7,_,_⟩:=hb.k7 l7
  obtain⟨g10,e10,_,_⟩:=hb.k10 l10
  refine bF (.agg #[y 2,.int .i64 0,y 5,y 7,.slice none 0 0,y 10,.slice none 0 0,.slice none 0 0,.int .i64 ct,.slice none 0 0,.slice none 0 0]) (ag rfl) ?_ (Ms (hLd 3 rfl) (hLd 5 rfl) (hLd 8 rfl) (hLd 11 rfl) hb) trivial
  rw[e3,e2] at E34
  rw[e5] at E36
  rw[e8,e7] at E39
  rw[e11,e10] at E42
  rw[e2,e5,e7,e10]
  simp[execOp,go_sem,E34,E36,E39,E42,E44,h13]
 intro y W3 hbW3 hRW3
 have hy2:((aN fun _=>True)).r (y 2) W3:=hRW3 2 (by decide)
 have hy3:((aN fun _=>True)).r (y 3) W3:=hRW3 3 (by decide)
 have hy5:((aN fun _=>True)).r (y 5) W3:=hRW3 5 (by decide)
 have hy7:((aN fun _=>True)).r (y 7) W3:=hRW3 7 (by decide)
 have hy8:((aN fun _=>True)).r (y 8) W3:=hRW3 8 (by decide)
 have hy10:((aN fun _=>True)).r (y 10) W3:=hRW3 10 (by decide)
 have hy11:((aN fun _=>True)).r (y 11) W3:=hRW3 11 (by decide)
 have hy14:((aN fun _=>True)).r (y 14) W3:=hRW3 14 (by decide)
 clear hRW3
 obtain⟨⟨l3,l5,l8,l11⟩,e14⟩:=hbW3.k14 rfl
 obtain⟨gf,e2,bf,kf⟩:=hbW3.k2 rfl
 obtain⟨gs,e5,bs,ks⟩:=hbW3.k5 rfl
 obtain⟨gw,e7,bw,kw⟩:=hbW3.k7 rfl
 obtain⟨gd,e10,bd,kd⟩:=hbW3.k10 rfl
 have hwd:gw≠gd:=Kq kw kd (by rw[←e7,←e10];exact hbW3.ne rfl rfl)
 have mx3:=mx1.ext hbW3.be
 have bx3:=bx1.ext hbW3.be
 have hr3:=hr1.below hbW3.be
 have hbe3:=Lib.hid (ae hb2.out hbW3.be)
 rw[e14,e2,e5,e7,e10]
 clear hy2 hy3 hy5 hy7 hy8 hy10 hy11 hy14 e14 e2 e5 e7 e10 hbW3 l3 l5 l8 l11 hmkF hmkS hmkW hmkD mx1 bx1 hr1 hb2
 go_wp2_with (refine ay rfl _ _ _ rfl (w.heap.size+1) 1 _ [.slice (some ⟨gf,0,none⟩) f f,.int .i64 0,.slice (some ⟨gs,0,none⟩) s s,.slice (some ⟨gw,0,none⟩) s s,.slice none 0 0,.slice (some ⟨gd,0,none⟩) ct ct,.slice none 0 0,.slice none 0 0,.int .i64 ct,.slice none 0 0,.slice none 0 0] rfl rfl rfl _ _ mx3 (by show 1+11≤13;omega) (by kernel_rfl) (by simp[Value.oneCell']) ?_)
 intro w4 hb4 hg4
 have hk4:aB w4 (w.heap.size+1) (eB ⟨al,cl,l,Kv gf gs gw gd f s ct,none,0,[]⟩) 89:=by
  have e:eB ⟨al,cl,l,Kv gf gs gw gd f s ct,none,0,[]⟩=putAt (eB ⟨al,cl,l,noH,none,0,[]⟩) 1 [.slice (some ⟨gf,0,none⟩) f f,.int .i64 0,.slice (some ⟨gs,0,none⟩) s s,.slice (some ⟨gw,0,none⟩) s s,.slice none 0 0,.slice (some ⟨gd,0,none⟩) ct ct,.slice none 0 0,.slice none 0 0,.int .i64 ct,.slice none 0 0,.slice none 0 0]:=by
   unfold eB Kv noH
   dsimp only
   rw[List.length_replicate,List.length_replicate,List.length_replicate,List.length_replicate]
   kernel_rfl
  rw[e];exact hb4
 have hm4:cB w4 (w.heap.size+1) (w.heap.size+1) ⟨al,cl,l,Kv gf gs gw gd f s ct,none,0,[]⟩:=
  Ka (hr3.keep (B:=w.heap.size+1) (fun a ha hl=>Nat.lt_succ_of_lt (hra.out a ha hl)) (Nat.le_of_lt mx3.lt) hg4 (Nat.le_refl _)) (fun a ha hl=>Nat.lt_succ_of_lt (hra.out a ha hl)) (Nat.le_refl _) hk4 hf40 hs60 hc80 (by omega) (by omega) (by omega) (by omega) hwd (zf:=qa fr0) (zs:=#[.int .i64 0]) (zp:=dO zPg) rfl rfl rfl
   (kf.grown hg4 (fun e=>by have:=Option.some.inj e;omega)) (ks.grown hg4 (fun e=>by have:=Option.some.inj e;omega)) (kw.grown hg4 (fun e=>by have:=Option.some.inj e;omega)) (kd.grown hg4 (fun e=>by have:=Option.some.inj e;omega))
 have bx4:aB w4 w.heap.size (bM noH) 40:=bx3.grown hg4 (fun e=>by have:=Option.some.inj e;omega)
 have hbe4:Hid (Below w.heap.size w w4):=Lib.hid (hbe3.out.grown hg4 (Nat.le_trans (by omega) (Nat.le_of_lt mx3.lt)) (fun k hk=>by cases hk;omega))
 have hszl4:w.heap.size+2≤w4.heap.size:=hk4.lt
 clear kf ks kw kd mx3 bx3 hr3 hbe3 hb4 hg4 hk4 bf bs bw bd hwd hra hb1z
 generalize hb' : w.heap.size+1=b at hm4 hszl4 ⊢
 have hbb:=Lib.hid hb'
 clear hb'
 obtain⟨S3,hS3⟩:∃S3,S3=(⟨al,cl,l,Kv gf gs gw gd f s ct,none,0,[]⟩:MW):=⟨_,rfl⟩
 have hS3':=Lib.hid hS3
 rw[←hS3] at hm4
 have hc:=hm4.blk.cell
 unfold eB at hc
 have hfl:S3.H.m.fs.length=f:=by rw[hS3];exact List.length_replicate
 rw[hfl] at hc
 clear hfl
 have hm4q:cB w4 b b (S3.frs (tZ f 0)):=by
  have e:S3.frs (tZ f 0)=S3:=by rw[hS3];rfl
  rw[e];exact hm4
 have hs4q:MS w4 b S3 w4 (S3.frs (tZ f 0)):=(MS.refl w4 b S3).same rfl
 have hnb4:Hid (¬iI b S3 w.heap.size):=Lib.hid (fun hk=>by
  have h1:=(hm4.kb_own hk).1
  have h2:=hbb.out
  omega)
 have hto:Hid (∀w' S',MS w4 b S3 w' S'→Below b w4 w'):=Lib.hid (fun w' S' h=>MS.to hm4 h (Nat.le_refl b))
 clear hS3 hm4
 have bx4':=Lib.hid bx4
 clear bx4
 go_upto_region 5 with (fail)
 go_loopw [55] (fun k wr => ∃q:Nat,q≤f∧k = .int .i64 q∧cB wr b b (S3.frs (tZ f q))∧MS w4 b S3 wr (S3.frs (tZ f q))) (fun k _=>f-(intOf k).toNat)
 case atStart=>exact⟨0,Nat.zero_le _,rfl,hm4q,hs4q⟩
 case round=>
  clear hm4q hs4q
  obtain⟨q,hq,rfl,hm,hs⟩:=hrel
  by_cases hqf:q<f
  ·have hqi:(q:Int)<(f:Int):=by omega
   have hlq:(tZ f q).length=f:=zq hq
   have hc:=hm.blk.cell
   unfold eB at hc
   dsimp only[MW.frs] at hc
   rw[hlq] at hc
   obtain⟨g,off,cap,cur,hv,hgB,hg,hgs,hgc,hgw⟩:=hm.ma.fr.put eu (by decide) q (by show q<(tZ f q).length;omega)
   have haf:S3.H.af=some ⟨g,off,none⟩:=(Value.slice.inj hv).1
   have hcur:Hid (∀j u,(ng fr0)[j]?=some u→cur[off+q*13+j]?=some u):=Lib.hid fun j u hj=>by
    have e:(S3.frs (tZ f q)).H.m.fs[q]'(by show q<(tZ f q).length;omega)=fr0:=JK hqf (by omega)
    have:=hgc j u (by rw[e];exact hj)
    rw[hg.cell] at this
    exact this
   rw[haf] at hc
   have hgw':=Lib.hid hgw
   have hlq':=Lib.hid hlq
   have haf':=Lib.hid haf
   clear hv hgc hgw hlq haf
   go_wp2_with (refine ay rfl _ _ _ rfl g (off+q*13+11) _ [.int .i64 (-1)] rfl rfl rfl _ _ hg (by show off+q*13+11+1≤cur.size;omega) (by kernel_rfl) (fun u hu=>by cases List.mem_singleton.1 hu;rfl) ?_)
   intro w5 hb5 hg5
   rw[KD hgs hcur.out] at hb5
   have ho:=hgw'.out _ _ hb5
   have hset:(S3.frs (tZ f q)).H.m.fs.set q frZ=tZ f (q+1):=JL hqf
   have hlen:(tZ f (q+1)).length=(tZ f q).length:=by rw[zq (by omega),zq hq]
   rw[hset] at ho
   have hm5:cB w5 b b (S3.frs (tZ f (q+1))):=hm.putF hg hgB hg5 (fs:=tZ f (q+1)) hlen (by rw[hlen];exact ho)
   have hs5:MS w4 b S3 w5 (S3.frs (tZ f (q+1))):=hs.put hg5 (.inr (by show some g∈dN S3;unfold dN;rw[haf'.out];exact List.mem_cons_self)) (fun x hx => .inl hx)
   clear hm hs hg hgs hb5 hg5 hc ho hset hlen
   go_wp2
   go_roundw
   case rel=>exact⟨q+1,by omega,by go_num,hm5,hs5⟩
   case measure=>simp[intOf];omega
  ·have hqi:¬(q:Int)<(f:Int):=by omega
   have hqe:f=q:=by omega
   subst hqe
   rw[Kw] at hm hs
   go_wp2_with fail
   refine (dA _ 3 b b _ hm (by omega)).mono ?_
   rintro r w5 ⟨N,a5,c5,l5,rfl,hm5,hs5,hN,hN0⟩
   have hs5:=hs.trans hs5
   have hl5:Hid (l=[]→N=0∧l5=[]):=Lib.hid fun e=>hN0 (by show S3.l=[];rw[hS3'.out];exact e)
   have hF5:zw f s ct S3.H.asl ((S3.frs (List.replicate f frZ)).lst a5 c5 l5).H.fi (List.replicate ct zPg) [] ((S3.frs (List.replicate f frZ)).lst a5 c5 l5):=by
    rw[hS3'.out]
    exact⟨rfl,rfl,rfl,rfl,rfl,rfl,rfl,rfl,rfl,rfl⟩
   have hfi5:((S3.frs (List.replicate f frZ)).lst a5 c5 l5).H.fi=[]:=by rw[hS3'.out];rfl
   have hls5:Hid (l=[]→((S3.frs (List.replicate f frZ)).lst a5 c5 l5).l=[]):=Lib.hid fun e=>(hl5.out e).2
   obtain⟨N,rfl⟩:=Int.eq_ofNat_of_zero_le hN.1
   have hN2:N≤2:=by omega
   clear hm hs hN hN0 hqf hqi hq
   generalize (S3.frs (List.replicate f frZ)).lst a5 c5 l5=S5 at hm5 hs5 hF5 hfi5 hls5
   go_upto_region 10 with (fail)
   go_loopw [70] (fun k wr => ∃(q:Nat) (S:MW) (bk:List Page) (qu:List (Int × Page)),q≤N∧k = .int .i64 q∧cB wr b b S∧MS w4 b S3 wr S∧Hid (zw f s ct S3.H.asl S.H.fi bk qu S∧Fb ct bk qu (S.H.fi.map PF.fi) []∧S.H.fi.length=q∧(q=0→bk=List.replicate ct zPg∧qu=[]∧(l=[]→S.l=[])))) (fun k _=>N-(intOf k).toNat)
   case atStart=>exact⟨0,S5,_,_,Nat.zero_le _,rfl,hm5,hs5,Lib.hid ⟨hF5,by rw[hfi5];exact Fb.start hc80,by rw[hfi5];rfl,fun _=>⟨rfl,rfl,hls5.out⟩⟩⟩
   case round=>
    clear hm5 hs5 hF5 hfi5 hls5
    obtain⟨q,S,bk,qu,hq,rfl,hm,hs,hI⟩:=hrel
    obtain⟨fi0,hfi0⟩:∃fi0,S.H.fi=fi0:=⟨_,rfl⟩
    rw[hfi0] at hI
    clear hfi0
    have hl0q:Hid (fi0.length=q):=Lib.hid hI.out.2.2.1
    have hl0:Hid (fi0.length≤2):=Lib.hid (by have:=hI.out.2.2.1;omega)
    by_cases hqN:q<N
    ·have hqi:(q:Int)<(N:Int):=by omega
     go_wp2_with fail
     refine (dA _ 40 b b _ hm (by omega)).mono ?_
     rintro r w6 ⟨x,a6,c6,l6,rfl,hm6,hs6,hx,_⟩
     have hs6:=hs.trans hs6
     have hF6:Hid (zw f s ct S3.H.asl fi0 bk qu (S.lst a6 c6 l6)):=Lib.hid (hI.out.1.lst _ _ _)
     have hx1:0≤x∧x<40:=by omega
     obtain⟨C,hC⟩:∃C:Nat,dh x=C:=⟨(dh x).toNat,by unfold dh;split<;>omega⟩
     have hC5:C≤5:=by unfold dh at hC;split at hC<;>omega
     have hC':=Lib.hid hC
     clear hm hs hx hC
     generalize S.lst a6 c6 l6=S6 at hm6 hs6 hF6
     go_wp2_with (refine aD rfl _ _ _ rfl (jM ⟨x,none,[],0⟩) rfl rfl rfl file_size (kr _) ?_)
     intro w7 hb7 fx7
     have hm7:=hm6.below hb7
     have hs67:=(MS.refl w6 b S6).below hb7
     have hnf:Hid (¬iI b S6 w6.heap.size):=Lib.hid (hm6.new (Nat.le_refl _))
     have hgB:b≤w6.heap.size:=hm6.bs
     have hgB':=Lib.hid hgB
     clear hm6 hb7
     generalize hg60:w6.heap.size=gf0 at hnf hgB fx7 ⊢
     have hg6:Hid (w6.heap.size≤gf0):=Lib.hid (Nat.le_of_eq hg60)
     clear hg60
     have hcf:=fx7.cell
     unfold jM at hcf
     go_wp2_with fail
     refine (qA x _ (by omega)).mono ?_
     rintro r w8 ⟨rfl,rfl⟩
     rw[hC'.out]
     clear hcf
     have hnp6:∀p∈fi0,True:=fun _ _=>trivial
     clear hnp6
     go_upto_region 13 with (fail)
     go_loopw [78] (fun k wr => ∃(i:Nat) (S:MW) (bk:List Page) (qu:List (Int × Page)) (xs:List Int) (xa:Option Addr) (xc:Nat),i≤C∧k = .int .i64 i∧cB wr b b S∧MS w6 b S6 wr S∧Hid (¬iI b S gf0)∧Hid (zw f s ct S3.H.asl fi0 bk qu S∧Fb ct bk qu (fi0.map PF.fi) xs∧xs.length=i)∧aB wr gf0 (jM ⟨x,xa,xs,xc⟩) 71 ∧
      Hid (Own wr b 3 1 (lN ⟨x,xa,xs,xc⟩) xs.length (xs.map dE)∧∀g,oB xa=some g→w6.heap.size≤g∧oB S3.H.asl≠some g∧∀p∈fi0,oB p.a≠some g)) (fun k _=>C-(intOf k).toNat)
     case atStart=>exact⟨0,S6,bk,qu,[],none,0,Nat.zero_le _,rfl,hm7,hs67,hnf,Lib.hid ⟨hF6.out,hI.out.2.1,rfl⟩,fx7,Lib.hid ⟨Own.nil _ _ _ _,fun g hg=>(by cases hg)⟩⟩
     case round=>
      clear hm7 fx7 hI hF6 hs67 hnf
      obtain⟨i,S,bk,qu,xs,xa,xc,hi,rfl,hm,hs,hkf',hI,fx,ho⟩:=hrel
      by_cases hiC:i<C
      ·have hii:(i:Int)<(C:Int):=by omega
       go_upto_region 16 with (fail)
       have hkx:∀g,(lN ⟨x,xa,xs,xc⟩).ownBlock=some g→¬iI b S g:=fun g hg=>by
        obtain⟨cs,hk⟩:=gL ho.out.1 g hg
        refine hm.kb_int hk ?_
        rw[hI.out.1.asl]
        exact (ho.out.2 g (by unfold lN at hg;rw[iw] at hg;exact hg)).2.1
       have hkx':=Lib.hid hkx
       clear hkx
       go_cut [14] (fun s14 wx => ∃(n:Nat) (a:Option Addr) (c:Nat) (l:List UInt8),s14 = .int .i64 n∧n<256∧cB wx b b (S.lst a c l)∧MS wr b S wx (S.lst a c l)∧aB wx gf0 (jM ⟨x,xa,xs,xc⟩) 71∧Hid (Own wx b 3 1 (lN ⟨x,xa,xs,xc⟩) xs.length (xs.map dE)))
       case first=>
        go_wp2_with fail
        all_goals
         refine (dA S _ b b _ hm (by omega)).mono ?_
         rintro r w8 ⟨n,a8,c8,l8,rfl,hm8,hs8,hn,_⟩
         obtain⟨n,rfl⟩:=Int.eq_ofNat_of_zero_le hn.1
         have hn256:(n:Int)<256:=hn.2.1
         have fx8:=hs8.blkN fx hkf'.out
         have ho8:Hid (Own w8 b 3 1 (lN ⟨x,xa,xs,xc⟩) xs.length (xs.map dE)):=Lib.hid (hs8.ownN ho.out.1 hkx'.out)
         clear hm fx hn
         go_wp2
         go_meet
         case rel=>exact⟨n,a8,c8,l8,rfl,by omega,hm8,hs8,fx8,ho8⟩
       case rest=>
       obtain⟨n,a8,c8,l8,rfl,hn256,hm8,hs8,fx8,ho8'⟩:=hcut
       have ho8:Hid (Own wc b 3 1 (lN ⟨x,xa,xs,xc⟩) xs.length (xs.map dE)∧∀g,oB xa=some g→w6.heap.size≤g∧oB S3.H.asl≠some g∧∀p∈fi0,oB p.a≠some g):=Lib.hid ⟨ho8'.out,ho.out.2⟩
       clear ho8'
       have hF8:Hid (zw f s ct S3.H.asl fi0 bk qu (S.lst a8 c8 l8)∧Fb ct bk qu (fi0.map PF.fi) xs∧xs.length=i):=Lib.hid ⟨hI.out.1.lst _ _ _,hI.out.2⟩
       have hs8:=hs.trans hs8
       have hkf8:Hid (¬iI b (S.lst a8 c8 l8) gf0):=hkf'
       have hkx8:Hid (∀g,(lN ⟨x,xa,xs,xc⟩).ownBlock=some g→¬iI b (S.lst a8 c8 l8) g):=hkx'
       clear hm hs hI fx ho hkf' hkx'
       generalize S.lst a8 c8 l8=S8 at hm8 hs8 hF8 hkf8 hkx8
       go_upto_region 17 with (fail)
       go_cut [109] (fun s109 wx => ∃(β:Bool) (a:Option Addr) (c:Nat) (l:List UInt8),s109 = .bool β∧cB wx b b (S8.lst a c l)∧MS wc b S8 wx (S8.lst a c l)∧aB wx gf0 (jM ⟨x,xa,xs,xc⟩) 71∧Hid (Own wx b 3 1 (lN ⟨x,xa,xs,xc⟩) xs.length (xs.map dE))∧Hid (β=true→n<ct∧¬(n:Int)∈(fi0.map PF.fi).flatMap Fi.b++xs))
       case first=>
        have hgf8:gf0<wc.heap.size:=fx8.lt
        have hl8:S8.H.fi.length≤5:=by
         have e1:=hF8.out.1.fi
         have e2:=hl0.out
         rw[e1];omega
        by_cases hnc:n<ct
        ·have hdn:(n:Int)<(ct:Int):=by omega
         cases hu:jS (dW (S8.H.fi++[(⟨x,xa,xs,xc⟩:PF)]) 0) (n:Int) with
         | true=>
          refine dG 25 [_,_,_,_,.r 4 ((aN fun _=>True)),_,_,_,_,_,.v (.slice S8.H.ai S8.H.fi.length S8.H.ci),.r 11 ((aN fun _=>True)),.v (.agg (jM ⟨x,xa,xs,xc⟩)),.r 13 ((aN fun _=>True)),.r 14 ((aN fun _=>True)),.r 15 ((aN fun _=>True)),_,.v (.bool true),_,_,_,_,_,_,.v (.bool false)] (xG S8 b b wc gf0 ⟨x,xa,xs,xc⟩) bO (fun y=>Lg hm8 fx8 ho8.out.1 y) (Qk bO rfl (Qk bO rfl (Qb bO (.bool true) (by simp[go_sem,hdn]) rfl rfl rfl rfl rfl (Qk bO rfl (all_cons ?_ (Qk bO rfl (Qk bO rfl (Qf bO b 1 rfl rfl (Qf bO b 8 rfl rfl (Qf bO b 8 rfl rfl (all_cons ?_ (all_cons ?_ (all_cons ?_ (all_cons ?_ (all_cons ?_ (all_cons ?_ (Qk bO rfl (all_cons ?_ (Qk bO rfl (Qk bO rfl (Qk bO rfl (Qk bO rfl (Qk bO rfl (Qk bO rfl (Qk bO rfl (all_nil) (fun _ _ _ _ hLd h=>bW (by decide) h)) (fun _ _ _ _ hLd h=>bW (by decide) h)) (fun _ _ _ _ hLd h=>bW (by decide) h)) (fun _ _ _ _ hLd h=>bW (by decide) h)) (fun _ _ _ _ hLd h=>bW (by decide) h)) (fun _ _ _ _ hLd h=>bW (by decide) h)) (fun _ _ _ _ hLd h=>bW (by decide) h))) (fun _ _ _ _ hLd h=>bW (by decide) h)))))))) (fun _ _ _ _ hLd h=>bW (by decide) h)) (fun _ _ _ _ hLd h=>bW (by decide) h)) (fun _ _ _ _ hLd h=>bW (by decide) h)) (fun _ _ _ _ hLd h=>bW (by decide) h)) (fun _ _ _ _ hLd h=>bW (by decide) h))) (fun _ _ _ _ hLd h=>bW (by decide) h)) (fun _ _ _ _ hLd h=>bW (by decide) h)) (fun _ _ _ _ hLd h=>bW (by decide) h)) (fun _ _ _ _ hLd h=>bW (by decide) h)) (fun _=>rfl) rfl ?_
          ·intro ρ y W L hw hn hLi hLd hb hd
           refine bF (.slice (some ⟨W.heap.size,0,none⟩) 0 0) (aJ 3 88 true true rfl rfl ((hw 88 3 rfl).trans (hd 3 rfl))) ?_ (Lf hb) trivial
           simp[execOp,go_sem]
          ·intro ρ y W L hw hn hLi hLd hb hd
           refine bS bO (fun _ _ h=>bW (by decide) h) hb ?_
           have E94:=hw 94 9 rfl
           have h9:y 9=_:=hd 9 rfl
           obtain⟨⟨a0,c0,l0,m1,m2⟩,m3⟩:=hb
           refine ah (.slice S8.H.ai S8.H.fi.length S8.H.ci) (aJ 3 88 true true rfl rfl ((hw 88 3 rfl).trans (hd 3 rfl))) (by simp[execOp,go_sem,E94,h9,m1.blk.cell,eB,MW.lst]) rfl
          ·intro ρ y W L hw hn hLi hLd hb hd;have E89:=hw 89 4 rfl;have h4:=hd 4 rfl;have E95:=hw 95 10 rfl;have h10:y 10=_:=hd 10 rfl
           obtain⟨g,hg1,hg2⟩:=hb.2.2.2.1 (hLd 4 rfl) hLi
           have hsz:=hb.2.2.2.2.2.2.2.1
           obtain⟨a0,c0,l0,m1,m2⟩:=hb.1
           have m3:EL W S8.H.ai S8.H.ci S8.H.fi:=m1.ma.rd.st
           refine dF (aJ 3 88 true true rfl rfl ((hw 88 3 rfl).trans (hd 3 rfl))) (rU _ _ _ rfl wc.heap.size 71 _ 2 32 Try.underlying34 file_info rfl (by decide) g (E89.trans hg1) hg2 S8.H.ai S8.H.fi.length S8.H.ci (S8.H.fi.flatMap pG) (E95.trans h10) m3.nl m3.le (by rw[Pw.flat_len pG 2 jY]) m3.rd (by unfold maxLen;omega) (by omega) hsz) (fun v W1 h=>Hr hb h.1 h.2) (fun _ _ _=>trivial)
          ·intro ρ y W L hw hn hLi hLd hb hd
           refine bS bO (fun _ _ h=>bW (by decide) h) hb ?_
           have E11:ρ (.tmp 11) = .pointer (some ⟨gf0,0,none⟩):=(hn (.tmp 11) rfl).trans rfl
           have m3:=hb.2.1
           refine ah (.agg (jM ⟨x,xa,xs,xc⟩)) (aJ 3 88 true true rfl rfl ((hw 88 3 rfl).trans (hd 3 rfl))) (aS rfl E11 m3 Try.underlying71 rfl file_size) rfl
          ·intro ρ y W L hw hn hLi hLd hb hd;have E97:=hw 97 12 rfl;have h12:y 12=_:=hd 12 rfl
           have hsz:=hb.2.2.2.2.2.2.2.1
           refine bF (.slice (some ⟨W.heap.size,0,none⟩) 1 1) (aJ 3 88 true true rfl rfl ((hw 88 3 rfl).trans (hd 3 rfl))) ?_ (Ir (W':=W.alloc (.cells (jM ⟨x,xa,xs,xc⟩) 71)) hb ((Below.refl _ _).alloc (Nat.le_refl _) _) (Dr hsz _)) trivial
           simp[execOp,go_sem,E97.trans h12,jM]
          ·intro ρ y W L hw hn hLi hLd hb hd;have E96:=hw 96 11 rfl;have h11:=hd 11 rfl;have E98:=hw 98 13 rfl;have h13:=hd 13 rfl
           have hsz:=hb.2.2.2.2.2.2.2.1
           have hv:=hb.2.2.2.2.1 (hLd 11 rfl) hLi
           obtain⟨a,e,hx1,k1,k2,k3,k4⟩:=(hb.2.2.2.2.2.1 (hLd 13 rfl) hLi).rd
           refine dF (aJ 3 88 true true rfl rfl ((hw 88 3 rfl).trans (hd 3 rfl))) (gD _ _ _ rfl wc.heap.size 71 _ 2 32 Try.underlying34 file_info rfl (by decide) (y 11) S8.H.fi.length _ E96 hv a 1 e (pG ⟨x,xa,xs,xc⟩) (E98.trans hx1) k3 k1 rfl k4 (aY (kr _)) (by unfold maxLen;omega) (by omega) hsz) (fun v W1 h=>Gv hm8 hgf8 hb (hLd 11 rfl) hLi h.2.1 h.1) (fun _ _ _=>trivial)
          ·intro ρ y W L hw hn hLi hLd hb hd;have E99:=hw 99 14 rfl;have h14:=hd 14 rfl
           obtain⟨a,c,e14,_⟩:=uT hb (hLd 14 rfl)
           refine bF (.agg #[y 14,.int .i64 0]) (aJ 3 88 true true rfl rfl ((hw 88 3 rfl).trans (hd 3 rfl))) ?_ (IR (hLd 14 rfl) hb) trivial
           rw[e14] at E99 ⊢
           simp[execOp,go_sem,E99]
          ·intro ρ y W L hw hn hLi hLd hb hd;have E100:=hw 100 15 rfl;have h15:=hd 15 rfl;have E101:=hw 101 16 rfl;have h16:y 16=_:=hd 16 rfl
           have EF:∀f,ρ (.func f) = .func (.func f) #[] #[]:=fun f=>hn (.func f) trivial
           obtain⟨l14,e15⟩:=hb.2.2.2.2.2.2.2.2 (hLd 15 rfl)
           obtain⟨a,c,e14,hFs⟩:=uT hb l14
           rw[e15,e14] at E100
           refine dU _ _ (aJ 3 88 true true rfl rfl ((hw 88 3 rfl).trans (hd 3 rfl))) (aK rfl (EF _) Try.func30 (by kernel_rfl) (by kernel_rfl) (by simp only[List.map_toArray,List.map_cons,List.map_nil,E100,E101,h16,EF];rfl)) ?_
           have hus:=pO (S8.H.fi++[⟨x,xa,xs,xc⟩]) 0 n a c W hFs
           unfold JF at hus
           rw[hu] at hus
           refine hus.mono ?_
           rintro r w1 ⟨hr1,hb1⟩
           exact⟨_,hr1,bW (by decide) (bO _ _ _ _ hb1 hb),rfl⟩
          intro y W9 hbW9 hRW9
          have hy4:((aN fun _=>True)).r (y 4) W9:=hRW9 4 (by decide)
          have hy11:((aN fun _=>True)).r (y 11) W9:=hRW9 11 (by decide)
          have hy13:((aN fun _=>True)).r (y 13) W9:=hRW9 13 (by decide)
          have hy14:((aN fun _=>True)).r (y 14) W9:=hRW9 14 (by decide)
          have hy15:((aN fun _=>True)).r (y 15) W9:=hRW9 15 (by decide)
          clear hRW9
          have hbJ:=hbW9.1
          obtain⟨a9,c9,l9,hm9,hs9⟩:=hbJ
          have fx9:=hbW9.2.1
          have ho9:=Lib.hid hbW9.2.2.1
          clear hbW9 hm8 hs8 fx8 ho8
          go_wp2
          go_meet
          case rel=>exact⟨false,a9,c9,l9,rfl,hm9,hs9,fx9,ho9,Lib.hid fun e=>(by cases e)⟩
         | false=>
          refine dG 25 [_,_,_,_,.r 4 ((aN fun _=>True)),_,_,_,_,_,.v (.slice S8.H.ai S8.H.fi.length S8.H.ci),.r 11 ((aN fun _=>True)),.v (.agg (jM ⟨x,xa,xs,xc⟩)),.r 13 ((aN fun _=>True)),.r 14 ((aN fun _=>True)),.r 15 ((aN fun _=>True)),_,.v (.bool false),_,_,_,_,.r 22 ((aN fun v => ∃x:Int,v = .int .i64 x)),.r 23 ((aN fun v => ∃u,v = .bool u)),.r 24 ((aN fun v => ∃u,v = .bool u))] (xG S8 b b wc gf0 ⟨x,xa,xs,xc⟩) bO (fun y=>Lg hm8 fx8 ho8.out.1 y) (Qk bO rfl (Qk bO rfl (Qb bO (.bool true) (by simp[go_sem,hdn]) rfl rfl rfl rfl rfl (Qk bO rfl (all_cons ?_ (Qk bO rfl (Qk bO rfl (Qf bO b 1 rfl rfl (Qf bO b 8 rfl rfl (Qf bO b 8 rfl rfl (all_cons ?_ (all_cons ?_ (all_cons ?_ (all_cons ?_ (all_cons ?_ (all_cons ?_ (Qk bO rfl (all_cons ?_ (Qk bO rfl (Qk bO rfl (Qk bO rfl (Qk bO rfl (all_cons ?_ (all_cons ?_ (all_cons ?_ (all_nil)))) (fun _ _ _ _ hLd h=>bW (by decide) h)) (fun _ _ _ _ hLd h=>bW (by decide) h)) (fun _ _ _ _ hLd h=>bW (by decide) h)) (fun _ _ _ _ hLd h=>bW (by decide) h))) (fun _ _ _ _ hLd h=>bW (by decide) h)))))))) (fun _ _ _ _ hLd h=>bW (by decide) h)) (fun _ _ _ _ hLd h=>bW (by decide) h)) (fun _ _ _ _ hLd h=>bW (by decide) h)) (fun _ _ _ _ hLd h=>bW (by decide) h)) (fun _ _ _ _ hLd h=>bW (by decide) h))) (fun _ _ _ _ hLd h=>bW (by decide) h)) (fun _ _ _ _ hLd h=>bW (by decide) h)) (fun _ _ _ _ hLd h=>bW (by decide) h)) (fun _ _ _ _ hLd h=>bW (by decide) h)) (fun _=>rfl) rfl ?_
          ·intro ρ y W L hw hn hLi hLd hb hd
           refine bF (.slice (some ⟨W.heap.size,0,none⟩) 0 0) (aJ 3 88 true true rfl rfl ((hw 88 3 rfl).trans (hd 3 rfl))) ?_ (Lf hb) trivial
           simp[execOp,go_sem]
          ·intro ρ y W L hw hn hLi hLd hb hd
           refine bS bO (fun _ _ h=>bW (by decide) h) hb ?_
           have E94:=hw 94 9 rfl
           have h9:y 9=_:=hd 9 rfl
           obtain⟨⟨a0,c0,l0,m1,m2⟩,m3⟩:=hb
           refine ah (.slice S8.H.ai S8.H.fi.length S8.H.ci) (aJ 3 88 true true rfl rfl ((hw 88 3 rfl).trans (hd 3 rfl))) (by simp[execOp,go_sem,E94,h9,m1.blk.cell,eB,MW.lst]) rfl
          ·intro ρ y W L hw hn hLi hLd hb hd;have E89:=hw 89 4 rfl;have h4:=hd 4 rfl;have E95:=hw 95 10 rfl;have h10:y 10=_:=hd 10 rfl
           obtain⟨g,hg1,hg2⟩:=hb.2.2.2.1 (hLd 4 rfl) hLi
           have hsz:=hb.2.2.2.2.2.2.2.1
           obtain⟨a0,c0,l0,m1,m2⟩:=hb.1
           have m3:EL W S8.H.ai S8.H.ci S8.H.fi:=m1.ma.rd.st
           refine dF (aJ 3 88 true true rfl rfl ((hw 88 3 rfl).trans (hd 3 rfl))) (rU _ _ _ rfl wc.heap.size 71 _ 2 32 Try.underlying34 file_info rfl (by decide) g (E89.trans hg1) hg2 S8.H.ai S8.H.fi.length S8.H.ci (S8.H.fi.flatMap pG) (E95.trans h10) m3.nl m3.le (by rw[Pw.flat_len pG 2 jY]) m3.rd (by unfold maxLen;omega) (by omega) hsz) (fun v W1 h=>Hr hb h.1 h.2) (fun _ _ _=>trivial)
          ·intro ρ y W L hw hn hLi hLd hb hd
           refine bS bO (fun _ _ h=>bW (by decide) h) hb ?_
           have E11:ρ (.tmp 11) = .pointer (some ⟨gf0,0,none⟩):=(hn (.tmp 11) rfl).trans rfl
           have m3:=hb.2.1
           refine ah (.agg (jM ⟨x,xa,xs,xc⟩)) (aJ 3 88 true true rfl rfl ((hw 88 3 rfl).trans (hd 3 rfl))) (aS rfl E11 m3 Try.underlying71 rfl file_size) rfl
          ·intro ρ y W L hw hn hLi hLd hb hd;have E97:=hw 97 12 rfl;have h12:y 12=_:=hd 12 rfl
           have hsz:=hb.2.2.2.2.2.2.2.1
           refine bF (.slice (some ⟨W.heap.size,0,none⟩) 1 1) (aJ 3 88 true true rfl rfl ((hw 88 3 rfl).trans (hd 3 rfl))) ?_ (Ir (W':=W.alloc (.cells (jM ⟨x,xa,xs,xc⟩) 71)) hb ((Below.refl _ _).alloc (Nat.le_refl _) _) (Dr hsz _)) trivial
           simp[execOp,go_sem,E97.trans h12,jM]
          ·intro ρ y W L hw hn hLi hLd hb hd;have E96:=hw 96 11 rfl;have h11:=hd 11 rfl;have E98:=hw 98 13 rfl;have h13:=hd 13 rfl
           have hsz:=hb.2.2.2.2.2.2.2.1
           have hv:=hb.2.2.2.2.1 (hLd 11 rfl) hLi
           obtain⟨a,e,hx1,k1,k2,k3,k4⟩:=(hb.2.2.2.2.2.1 (hLd 13 rfl) hLi).rd
           refine dF (aJ 3 88 true true rfl rfl ((hw 88 3 rfl).trans (hd 3 rfl))) (gD _ _ _ rfl wc.heap.size 71 _ 2 32 Try.underlying34 file_info rfl (by decide) (y 11) S8.H.fi.length _ E96 hv a 1 e (pG ⟨x,xa,xs,xc⟩) (E98.trans hx1) k3 k1 rfl k4 (aY (kr _)) (by unfold maxLen;omega) (by omega) hsz) (fun v W1 h=>Gv hm8 hgf8 hb (hLd 11 rfl) hLi h.2.1 h.1) (fun _ _ _=>trivial)
          ·intro ρ y W L hw hn hLi hLd hb hd;have E99:=hw 99 14 rfl;have h14:=hd 14 rfl
           obtain⟨a,c,e14,_⟩:=uT hb (hLd 14 rfl)
           refine bF (.agg #[y 14,.int .i64 0]) (aJ 3 88 true true rfl rfl ((hw 88 3 rfl).trans (hd 3 rfl))) ?_ (IR (hLd 14 rfl) hb) trivial
           rw[e14] at E99 ⊢
           simp[execOp,go_sem,E99]
          ·intro ρ y W L hw hn hLi hLd hb hd;have E100:=hw 100 15 rfl;have h15:=hd 15 rfl;have E101:=hw 101 16 rfl;have h16:y 16=_:=hd 16 rfl
           have EF:∀f,ρ (.func f) = .func (.func f) #[] #[]:=fun f=>hn (.func f) trivial
           obtain⟨l14,e15⟩:=hb.2.2.2.2.2.2.2.2 (hLd 15 rfl)
           obtain⟨a,c,e14,hFs⟩:=uT hb l14
           rw[e15,e14] at E100
           refine dU _ _ (aJ 3 88 true true rfl rfl ((hw 88 3 rfl).trans (hd 3 rfl))) (aK rfl (EF _) Try.func30 (by kernel_rfl) (by kernel_rfl) (by simp only[List.map_toArray,List.map_cons,List.map_nil,E100,E101,h16,EF];rfl)) ?_
           have hus:=pO (S8.H.fi++[⟨x,xa,xs,xc⟩]) 0 n a c W hFs
           unfold JF at hus
           rw[hu] at hus
           refine hus.mono ?_
           rintro r w1 ⟨hr1,hb1⟩
           exact⟨_,hr1,bW (by decide) (bO _ _ _ _ hb1 hb),rfl⟩
          ·intro ρ y W L hw hn hLi hLd hb hd;have E106:=hw 106 21 rfl;have h21:y 21=_:=hd 21 rfl
           have EC:∀v,ρ (.const v)=v:=fun v=>hn (.const v) trivial
           have EF:∀f,ρ (.func f) = .func (.func f) #[] #[]:=fun f=>hn (.func f) trivial
           refine dU _ _ (aJ 20 105 true true rfl rfl ((hw 105 20 rfl).trans (hd 20 rfl))) (aK rfl (EF _) Try.func28 (by kernel_rfl) (by kernel_rfl) (by simp only[List.map_toArray,List.map_cons,List.map_nil,E106,h21,EC,EF];rfl)) ?_
           exact Ij (by decide) hm8 hkf8.out hkx8.out 3 (by omega) hb fun x _ _ _=>⟨x,rfl⟩
          ·intro ρ y W L hw hn hLi hLd hb hd
           refine bS bO (fun _ _ h=>bW (by decide) h) hb ?_
           have E107:=hw 107 22 rfl
           have h22:=hd 22 rfl
           obtain⟨x,hx⟩:=h22
           refine ah _ (aJ 20 105 true true rfl rfl ((hw 105 20 rfl).trans (hd 20 rfl))) (jX rfl (E107.trans hx) (hn (.const _) trivial) (by simp[go_sem];rfl)) ⟨_,rfl⟩
          ·intro ρ y W L hw hn hLi hLd hb hd
           refine bS bO (fun _ _ h=>bW (by decide) h) hb ?_
           have E105:=hw 105 20 rfl
           have h20:y 20=_:=hd 20 rfl
           have E108:=hw 108 23 rfl
           have h23:=hd 23 rfl
           obtain⟨u,hu9⟩:=h23
           refine ah (.bool u) (ag rfl) (kH rfl (E105.trans h20) (by simpa using E108.trans hu9)) ⟨_,rfl⟩
          intro y W9 hbW9 hRW9
          have hy4:((aN fun _=>True)).r (y 4) W9:=hRW9 4 (by decide)
          have hy11:((aN fun _=>True)).r (y 11) W9:=hRW9 11 (by decide)
          have hy13:((aN fun _=>True)).r (y 13) W9:=hRW9 13 (by decide)
          have hy14:((aN fun _=>True)).r (y 14) W9:=hRW9 14 (by decide)
          have hy15:((aN fun _=>True)).r (y 15) W9:=hRW9 15 (by decide)
          have hy22:((aN fun v => ∃x:Int,v = .int .i64 x)).r (y 22) W9:=hRW9 22 (by decide)
          have hy23:((aN fun v => ∃u,v = .bool u)).r (y 23) W9:=hRW9 23 (by decide)
          have hy24:((aN fun v => ∃u,v = .bool u)).r (y 24) W9:=hRW9 24 (by decide)
          clear hRW9
          have hbJ:=hbW9.1
          obtain⟨a9,c9,l9,hm9,hs9⟩:=hbJ
          have fx9:=hbW9.2.1
          have ho9:=Lib.hid hbW9.2.2.1
          obtain⟨β,hβ⟩:=hy24
          rw[hβ]
          clear hbW9 hm8 hs8 fx8 ho8 hβ
          have hnu:Hid (n<ct∧¬(n:Int)∈(fi0.map PF.fi).flatMap Fi.b++xs):=Lib.hid ⟨hnc,fun hmem=>by
           have e1:=hF8.out.1.fi
           unfold jS at hu
           rw[uZ,e1] at hu
           have h2:¬(n:Int)∈oC (fi0++[(⟨x,xa,xs,xc⟩:PF)]):=of_decide_eq_false hu
           refine h2 ?_
           unfold oC
           rw[List.flatMap_append]
           rcases List.mem_append.1 hmem with h3|h3
           ·rw[List.flatMap_map] at h3
            exact List.mem_append_left _ h3
           ·exact List.mem_append_right _ (by simpa using h3)⟩
          go_wp2
          go_meet
          case rel=>exact⟨β,a9,c9,l9,rfl,hm9,hs9,fx9,ho9,Lib.hid fun _=>hnu.out⟩
        ·have hdn:¬(n:Int)<(ct:Int):=by omega
         refine aC 25 [_,_,_,_,_,_,_,_,_,_,_,_,_,_,_,_,_,_,_,_,_,_,_,_,.v (.bool false)] (Gk rfl (Gk rfl (Gb (.bool false) (by simp[go_sem,hdn]) rfl rfl rfl rfl rfl (Gk rfl (Gk rfl (Gk rfl (Gk rfl (Gk rfl (Gk rfl (Gk rfl (Gk rfl (Gk rfl (Gk rfl (Gk rfl (Gk rfl (Gk rfl (Gk rfl (Gk rfl (Gk rfl (Gk rfl (Gk rfl (Gk rfl (Gk rfl (Gk rfl (Gk rfl (all_nil)))))))))))))))))))))))))) (fun _=>rfl) rfl ?_
         intro y W9 hbW9 _
         have hm9:=hm8.below hbW9
         have hs9:=(MS.refl wc b S8).below hbW9
         have fx9:=fx8.ext hbW9
         have ho9:=Lib.hid (ho8.out.1.below hbW9)
         clear hbW9 hm8 fx8 ho8
         go_wp2
         go_meet
         case rel=>exact⟨false,S8.al,S8.cl,S8.l,rfl,hm9,hs9,fx9,ho9,Lib.hid fun e=>(by cases e)⟩
       case rest=>
       obtain⟨β,a9,c9,l9,rfl,hm9,hs9,fx9,ho9,hβ⟩:=hcut
       have hap:=Lib.hid ho8.out.2
       have hs9:=hs8.trans hs9
       have hF9:Hid (zw f s ct S3.H.asl fi0 bk qu (S8.lst a9 c9 l9)∧Fb ct bk qu (fi0.map PF.fi) xs∧xs.length=i):=Lib.hid ⟨hF8.out.1.lst _ _ _,hF8.out.2⟩
       have hkf9:Hid (¬iI b (S8.lst a9 c9 l9) gf0):=hkf8
       have hkx9:Hid (∀g,(lN ⟨x,xa,xs,xc⟩).ownBlock=some g→¬iI b (S8.lst a9 c9 l9) g):=hkx8
       clear hm8 hs8 hF8 fx8 ho8 hkf8 hkx8
       generalize S8.lst a9 c9 l9=S9 at hm9 hs9 hF9 hkf9 hkx9
       go_upto_if 109 with (fail)
       have hF8l:Hid (xs.length=i):=Lib.hid hF9.out.2.2
       have hF10l:Hid (xs.length≤C):=Lib.hid (by have:=hF9.out.2.2;omega)
       go_cut [13] (fun s13 wx => ∃(v:Int) (S:MW) (bk:List Page) (qu:List (Int × Page)),s13 = .int .i64 v∧cB wx b b S∧MS w6 b S6 wx S∧Hid (¬iI b S gf0)∧Hid (zw f s ct S3.H.asl fi0 bk qu S∧Fb ct bk qu (fi0.map PF.fi) (xs++[v]))∧aB wx gf0 (jM ⟨x,xa,xs,xc⟩) 71∧Hid (Own wx b 3 1 (lN ⟨x,xa,xs,xc⟩) xs.length (xs.map dE)))
       case first=>
        cases β with
        | false=>
         go_wp2
         go_meet
         case rel=>exact⟨-1,S9,bk,qu,rfl,hm9,hs9,hkf9,Lib.hid ⟨hF9.out.1,hF9.out.2.1.none⟩,fx9,ho9⟩
        | true=>
         have hnn:=Lib.hid (hβ.out rfl)
         clear hβ
         go_wp2_with fail
         refine (pq S9 b b _ hm9).mono ?_
         rintro r w10 ⟨P,a10,c10,l10,rfl,hm10,hs10⟩
         have fx10:=hs10.blkN fx9 hkf9.out
         have ho10:Hid (Own w10 b 3 1 (lN ⟨x,xa,xs,xc⟩) xs.length (xs.map dE)):=Lib.hid (hs10.ownN ho9.out hkx9.out)
         have hs10:=hs9.trans hs10
         have hF10:Hid (zw f s ct S3.H.asl fi0 bk qu (S9.lst a10 c10 l10)∧Fb ct bk qu (fi0.map PF.fi) xs∧xs.length=i):=Lib.hid ⟨hF9.out.1.lst _ _ _,hF9.out.2⟩
         have hkf10:Hid (¬iI b (S9.lst a10 c10 l10) gf0):=hkf9
         have hkx10:Hid (∀g,(lN ⟨x,xa,xs,xc⟩).ownBlock=some g→¬iI b (S9.lst a10 c10 l10) g):=hkx9
         clear hm9 hs9 hF9 fx9 ho9 hkf9 hkx9
         generalize S9.lst a10 c10 l10=S10 at hm10 hs10 hF10 hkf10 hkx10
         go_wp2_with (refine aD rfl _ _ _ rfl (dO P) rfl rfl rfl psize (dP P) ?_)
         intro w11 hb11 px11
         have hm11:=hm10.below hb11
         have hs11:=hs10.below hb11
         have fx11:=fx10.ext hb11
         have ho11:Hid (Own w11 b 3 1 (lN ⟨x,xa,xs,xc⟩) xs.length (xs.map dE)):=Lib.hid (ho10.out.below hb11)
         have hnp:=Lib.hid (hm10.new (Nat.le_refl _))
         have hp0:=Lib.hid hs10.size
         have hpB:b≤w10.heap.size:=hm10.bs
         have hpf:Hid (w10.heap.size≠gf0):=Lib.hid (fun e=>by have:=fx10.lt;omega)
         clear hm10 hs10 fx10 ho10 hb11
         generalize w10.heap.size=gp at *
         go_upto_region 21 with (fail)
         go_loopw [113] (fun j wr => ∃k:Nat,k≤8∧j = .int .i64 k∧cB wr b b S10∧MS w6 b S6 wr S10∧aB wr gp (dO (eZ P (x-(i:Int)*8) k)) 50∧aB wr gf0 (jM ⟨x,xa,xs,xc⟩) 71∧Hid (Own wr b 3 1 (lN ⟨x,xa,xs,xc⟩) xs.length (xs.map dE))) (fun j _=>8-(intOf j).toNat)
         case atStart=>exact⟨0,by omega,rfl,hm11,hs11,by rw[show eZ P (x-(i:Int)*8) 0=P from by ext j hj;simp[eZ]];exact px11,fx11,ho11⟩
         case round=>
          clear hm11 hs11 px11 fx11 ho11
          obtain⟨k,hk,rfl,hm,hs,px,fx,ho⟩:=hrel
          by_cases hk8:k<8
          ·have hki:(k:Int)<8:=by omega
           have hcf:=fx.cell
           unfold jM at hcf
           have hw1:IntKind.i64.wrap (8*(i:Int))=8*(i:Int):=IntWalk.i64_in _ (by omega)
           have hw2:IntKind.i64.wrap (8*(i:Int)+(k:Int))=8*(i:Int)+(k:Int):=IntWalk.i64_in _ (by omega)
           by_cases hge:x≤8*(i:Int)+k
           ·have hset:Hid ((dO (eZ P (x-(i:Int)*8) k)).setIfInBounds k (.int .u8 0)=dO (eZ P (x-(i:Int)*8) (k+1))):=Lib.hid (by
             rw[←sZ P _ k hk8 (by omega)];exact vw _ k hk8 0)
            generalize hT:eZ P (x-(i:Int)*8) k=T at px hset
            clear hT
            go_wp2_with (refine ay rfl _ _ _ rfl gp k _ [.int .u8 0] rfl rfl rfl _ _ px (by show k+1≤8;omega) (by kernel_rfl) (fun u hu=>by cases List.mem_singleton.1 hu;rfl) ?_)
            intro w12 px12 hg12
            rw[iZ,hset.out] at px12
            have hm12:=hm.locT px (by decide) hnp.out hpB hg12
            have hs12:=hs.loc hg12 hp0.out
            have fx12:=fx.grown hg12 (fun e=>hpf.out (by have:=Option.some.inj e;omega))
            have ho12:Hid (Own w12 b 3 1 (lN ⟨x,xa,xs,xc⟩) xs.length (xs.map dE)):=Lib.hid (aj ho.out px (by decide) hg12)
            clear hm hs px hg12 hcf fx ho
            go_wp2
            go_roundw
            case rel=>exact⟨k+1,by omega,by go_num,hm12,hs12,px12,fx12,ho12⟩
            case measure=>simp[intOf];omega
           ·have hset:eZ P (x-(i:Int)*8) k=eZ P (x-(i:Int)*8) (k+1):=by
             ext j hj
             simp only[eZ,Vector.getElem_ofFn]
             by_cases e:x-(i:Int)*8≤(j:Int)
             ·rw[if_neg (by omega),if_neg (by omega)]
             ·rw[if_neg (by omega),if_neg (by omega)]
            rw[hset] at px
            clear hset
            go_wp2
            go_roundw
            case rel=>exact⟨k+1,by omega,by go_num,hm,hs,px,fx,ho⟩
            case measure=>simp[intOf];omega
          ·have hki:¬(k:Int)<8:=by omega
           rw[tX _ _ k (by omega)] at px
           generalize dK P (x-(i:Int)*8)=PC at px
           have hncn:n<ct:=hnn.out.1
           have hdl:S10.H.dk.blocks.length=ct:=by rw[hF10.out.1.dk];exact hF10.out.2.1.cl.1
           obtain⟨g,off,cap,cur,hv,hgB,hg,hgs,hgc,hgw⟩:=hm.ma.dk.b.put jk (by decide) n (by rw[hdl];exact hncn)
           have hdb:S10.H.db=some ⟨g,off,none⟩:=(Value.slice.inj hv).1
           have hgw':=Lib.hid hgw
           have hdl':=Lib.hid hdl
           have hdb':=Lib.hid hdb
           have hpg:Hid (gp≠g):=Lib.hid (fun e=>hnp.out (by rw[e];exact .inr (by simp only[dN,hdb];simp[oB,Value.ownBlock])))
           have hfg:Hid (gf0≠g):=Lib.hid (fun e=>hkf10.out (by rw[e];exact .inr (by simp only[dN,hdb];simp[oB,Value.ownBlock])))
           have hkg:Hid (iI b S10 g):=Lib.hid (.inr (by simp only[dN,hdb];simp[oB,Value.ownBlock]))
           clear hv hgc hgw hdl hdb
           go_upto_region 26 with (fail)
           refine aC 9 [_,_,_,_,_,_,_,_,_] (Gk rfl (Gk rfl (Gf b 1 rfl rfl (Gf b 6 rfl rfl (Gf b 6 rfl rfl (Gl hm.blk (V:=.slice (some ⟨g,off,none⟩) ct S10.H.cdb) (by simp[eB,hdb'.out,hdl'.out]) rfl rfl rfl rfl (Gk rfl (Gr (.agg #[.int .u8 PC[0].toNat,.int .u8 PC[1].toNat,.int .u8 PC[2].toNat,.int .u8 PC[3].toNat,.int .u8 PC[4].toNat,.int .u8 PC[5].toNat,.int .u8 PC[6].toNat,.int .u8 PC[7].toNat]) (fun ρ y W hb hKn=>(bN rfl (az rfl hKn) (bG (px.ext hb) 0 8) Try.underlying50 rfl (by kernel_rfl))) rfl rfl (Gr (.pointer (some ⟨g,off+n*8,none⟩)) (fun ρ y W hb hKn=>(aR rfl (az rfl hKn) (az rfl hKn) hncn Try.underlying30 psize)) rfl rfl (all_nil)))))))))) (fun _=>rfl) rfl ?_
           intro y W13 hbW13 _
           have hm13:=hm.below hbW13
           have hs13:=hs.below hbW13
           have px13:=px.ext hbW13
           have fx13:=fx.ext hbW13
           have ho13:=Lib.hid (ho.out.below hbW13)
           have hg13:=hg.ext hbW13
           clear hm hs px fx ho hg hbW13
           go_wp2_with (refine ay rfl _ _ _ rfl g (off+n*8) _ (uV PC) rfl rfl rfl _ _ hg13 (by show off+n*8+8≤cur.size;omega) (by kernel_rfl) (aY (dP PC)) ?_)
           intro w14 hb14 hg14
           have hpo:=hgw'.out _ PC hb14
           have hm14:cB w14 b b { S10 with H:={ S10.H with dk:=⟨S10.H.dk.blocks.set n PC,S10.H.dk.queue⟩ } }:=hm13.putD hg13 hgB (by rw[hdb'.out];rfl) hg14 (l:=S10.H.dk.blocks.set n PC) (by simp) (by simpa using hpo)
           have hs14:MS w6 b S6 w14 { S10 with H:={ S10.H with dk:=⟨S10.H.dk.blocks.set n PC,S10.H.dk.queue⟩ } }:=hs13.put hg14 hkg.out (fun x hx => .inl hx)
           have px14:=px13.grown hg14 (fun e=>hpg.out (Option.some.inj e).symm)
           have fx14:=fx13.grown hg14 (fun e=>hfg.out (Option.some.inj e).symm)
           have ho14:Hid (Own w14 b 3 1 (lN ⟨x,xa,xs,xc⟩) xs.length (xs.map dE)):=Lib.hid (aj ho13.out hg13 (by decide) hg14)
           have hF14:Hid (zw f s ct S3.H.asl fi0 (bk.set n PC) qu { S10 with H:={ S10.H with dk:=⟨S10.H.dk.blocks.set n PC,S10.H.dk.queue⟩ } }):=Lib.hid (by
            have h9:=hF10.out.1
            exact⟨h9.m,h9.asl,h9.sl,h9.sw,by show (⟨S10.H.dk.blocks.set n PC,S10.H.dk.queue⟩:rQ)=_;rw[h9.dk],h9.fi,h9.ct,h9.ca,h9.sp,h9.T⟩)
           have hkf14:Hid (¬iI b { S10 with H:={ S10.H with dk:=⟨S10.H.dk.blocks.set n PC,S10.H.dk.queue⟩ } } gf0):=hkf10
           have hnp14:Hid (¬iI b { S10 with H:={ S10.H with dk:=⟨S10.H.dk.blocks.set n PC,S10.H.dk.queue⟩ } } gp):=hnp
           have hkx14:Hid (∀g,(lN ⟨x,xa,xs,xc⟩).ownBlock=some g→¬iI b { S10 with H:={ S10.H with dk:=⟨S10.H.dk.blocks.set n PC,S10.H.dk.queue⟩ } } g):=hkx10
           clear hm13 hs13 px13 fx13 ho13 hg13 hpo hb14 hg14
           generalize { S10 with H:={ S10.H with dk:=⟨S10.H.dk.blocks.set n PC,S10.H.dk.queue⟩ } }=S14 at hm14 hs14 hF14 hkf14 hnp14 hkx14
           go_wp2_with fail
           refine (dA S14 2 b b _ hm14 (by omega)).mono ?_
           rintro r w15 ⟨z,a15,c15,l15,rfl,hm15,hs15,hz,_⟩
           have fx15:=hs15.blkN fx14 hkf14.out
           have px15:=hs15.blkN px14 hnp14.out
           have ho15:Hid (Own w15 b 3 1 (lN ⟨x,xa,xs,xc⟩) xs.length (xs.map dE)):=Lib.hid (hs15.ownN ho14.out hkx14.out)
           have hs15:=hs14.trans hs15
           have hF15:Hid (zw f s ct S3.H.asl fi0 (bk.set n PC) qu (S14.lst a15 c15 l15)):=Lib.hid (hF14.out.lst _ _ _)
           have hkf15:Hid (¬iI b (S14.lst a15 c15 l15) gf0):=hkf14
           have hnp15:Hid (¬iI b (S14.lst a15 c15 l15) gp):=hnp14
           have hkx15:Hid (∀g,(lN ⟨x,xa,xs,xc⟩).ownBlock=some g→¬iI b (S14.lst a15 c15 l15) g):=hkx14
           clear hm14 hs14 fx14 px14 ho14 hF14 hkf14 hnp14 hkx14
           generalize S14.lst a15 c15 l15=S15 at hm15 hs15 hF15 hkf15 hnp15 hkx15
           by_cases hz1:z=1
           ·subst hz1
            have hql:S15.H.dk.queue.length≤100:=by
             have h1:=hF10.out.2.1.ql
             have h2:=hF10.out.2.2
             have h3:=hl0.out
             rw[hF15.out.dk]
             rw[List.length_map] at h1
             show qu.length≤100
             omega
            have hnb:Hid (∀g,(Value.slice S15.H.dq S15.H.dk.queue.length S15.H.cdq).ownBlock=some g→g≠b∧∀t∈[(gp,dO PC,50),(gf0,jM ⟨x,xa,xs,xc⟩,71)],t.1≠g):=Lib.hid (fun g hg=>by
             obtain⟨cs,hk⟩:=gL hm15.ma.dk.q g hg
             refine⟨fun e=>lL hk hm15.blk (by decide) e,fun t ht => ?_⟩
             simp only[List.mem_cons,List.not_mem_nil,or_false] at ht
             rcases ht with rfl|rfl
             ·exact lL px15 hk (by decide)
             ·exact lL fx15 hk (by decide))
            have hks:Hid (∀t∈[(gp,dO PC,50),(gf0,jM ⟨x,xa,xs,xc⟩,71)],aB w15 t.1 t.2.1 t.2.2):=Lib.hid (fun t ht=>by
             simp only[List.mem_cons,List.not_mem_nil,or_false] at ht
             rcases ht with rfl|rfl
             ·exact px15
             ·exact fx15)
            go_upto_region 28 with (fail)
            refine dG 16 [_,_,_,_,_,_,.v (.slice S15.H.dq S15.H.dk.queue.length S15.H.cdq),_,.v (.agg (dO PC)),.v (.agg (Bq ((n:Int),PC))),.r 10 ((aN fun _=>True)),.r 11 ((aN fun _=>True)),_,_,_,_] (vC S15 b b w15 [(gp,dO PC,50),(gf0,jM ⟨x,xa,xs,xc⟩,71)] 11 10 93 9 S15.H.dk.queue.length (.slice S15.H.dq S15.H.dk.queue.length S15.H.cdq) (S15.H.dk.queue.flatMap uI) (uI ((n:Int),PC))) di (fun y=>Jq hm15 hks.out y) (Qk di rfl (Qk di rfl (Qk di rfl (Qf di b 1 rfl rfl (Qf di b 6 rfl rfl (Qf di b 7 rfl rfl (all_cons ?_ (Qk di rfl (all_cons ?_ (all_cons ?_ (all_cons ?_ (all_cons ?_ (Qk di rfl (Qf di b 1 rfl rfl (Qf di b 6 rfl rfl (Qf di b 7 rfl rfl (all_nil) (fun _ _ _ _ hLd h=>dC (by decide) h)) (fun _ _ _ _ hLd h=>dC (by decide) h)) (fun _ _ _ _ hLd h=>dC (by decide) h)) (fun _ _ _ _ hLd h=>dC (by decide) h)))))) (fun _ _ _ _ hLd h=>dC (by decide) h))) (fun _ _ _ _ hLd h=>dC (by decide) h)) (fun _ _ _ _ hLd h=>dC (by decide) h)) (fun _ _ _ _ hLd h=>dC (by decide) h)) (fun _ _ _ _ hLd h=>dC (by decide) h)) (fun _ _ _ _ hLd h=>dC (by decide) h)) (fun _ _ _ _ hLd h=>dC (by decide) h)) (fun _=>rfl) rfl ?_
            ·intro ρ y W L hw hn hLi hLd hb hd
             refine bS di (fun _ _ h=>dC (by decide) h) hb ?_
             have E143:=hw 143 5 rfl
             have h5:y 5=_:=hd 5 rfl
             have m1:=hb.1.1
             refine ah (.slice S15.H.dq S15.H.dk.queue.length S15.H.cdq) (ag rfl) (by simp[execOp,go_sem,E143,h5,m1.cell,eB]) rfl
            ·intro ρ y W L hw hn hLi hLd hb hd
             refine bS di (fun _ _ h=>dC (by decide) h) hb ?_
             have E15:ρ (.tmp 15) = .pointer (some ⟨gp,0,none⟩):=(hn (.tmp 15) rfl).trans rfl
             have m3:=hb.1.2 _ List.mem_cons_self
             refine ah (.agg (dO PC)) (ag rfl) (aS rfl E15 m3 Try.underlying50 rfl psize) rfl
            ·intro ρ y W L hw hn hLi hLd hb hd
             refine bS di (fun _ _ h=>dC (by decide) h) hb ?_
             have E145:=hw 145 7 rfl
             have h7:y 7=_:=hd 7 rfl
             have E146:=hw 146 8 rfl
             have h8:y 8=_:=hd 8 rfl
             refine ah (.agg (Bq ((n:Int),PC))) (ag rfl) (by simp[execOp,go_sem,E145,h7,E146,h8,dO,Bq]) rfl
            ·intro ρ y W L hw hn hLi hLd hb hd;have E147:=hw 147 9 rfl;have h9:y 9=_:=hd 9 rfl
             refine bF (.slice (some ⟨W.heap.size,0,none⟩) 1 1) (ag rfl) ?_ (IU (W':=W.alloc (.cells (Bq ((n:Int),PC)) 93)) (by decide) ((Below.refl _ _).alloc (Nat.le_refl _) _) hb ⟨Nat.le_refl _,by unfold maxLen;omega,fun e=>(by cases e),bZ.new _ _ _⟩) trivial
             simp[execOp,go_sem,E147.trans h9,Bq]
            ·intro ρ y W L hw hn hLi hLd hb hd;have E144:=hw 144 6 rfl;have h6:y 6=_:=hd 6 rfl;have E148:=hw 148 10 rfl;have h10:=hd 10 rfl
             have hm:=(hb.2.1 hLi).1
             obtain⟨a,e,hx1,hx2⟩:=hb.2.2.1 (hLd 10 rfl) hLi
             have hpv:Own W b 93 9 (.slice S15.H.dq S15.H.dk.queue.length S15.H.cdq) S15.H.dk.queue.length (S15.H.dk.queue.flatMap uI):=hm.ma.dk.q
             refine dF (ag rfl) (gD _ _ _ rfl b 93 _ 9 16 Try.underlying31 put_info rfl (by decide) (.slice S15.H.dq S15.H.dk.queue.length S15.H.cdq) S15.H.dk.queue.length _ (E144.trans h6) hpv a 1 e (uI ((n:Int),PC)) (E148.trans hx1) hx2.nl hx2.le rfl hx2.rd (aY (Dw _)) (by unfold maxLen;omega) (by omega) hm.bs) (fun v W1 h=>Hg hLi hb h.2.1 hnb.out h.1 h.2.2) (fun _ _ _=>trivial)
            intro y W16 hbW16 hRW16
            have hy10:((aN fun _=>True)).r (y 10) W16:=hRW16 10 (by decide)
            have hy11:((aN fun _=>True)).r (y 11) W16:=hRW16 11 (by decide)
            clear hRW16
            obtain⟨wq,hmq,hsq,hgq,hoq,hsnq⟩:=hbW16.2.2.2 rfl
            have hbk16:=hbW16.1.1
            have fx16:aB W16 gf0 (jM ⟨x,xa,xs,xc⟩) 71:=hbW16.1.2 _ (List.mem_cons_of_mem _ List.mem_cons_self)
            have ho16:Hid (Own W16 b 3 1 (lN ⟨x,xa,xs,xc⟩) xs.length (xs.map dE)):=Lib.hid (by
             have h1:=hsq.ownN ho15.out hkx15.out
             rcases lG hmq.ma.dk.q hgq with hb0|⟨g,cs,hk,_,hg'⟩
             ·exact h1.below hb0
             ·exact aj h1 hk (by decide) hg')
            have hsq':=Lib.hid hsq
            have hs16:=hs15.trans hsq
            obtain⟨aq,cq,hyq,_⟩:=hoq.rd
            rw[hyq] at hoq hsnq ⊢
            clear hyq hbW16 hm15 hs15 px15 fx15 ho15 hsq hks hnb
            go_wp2_with (refine ay rfl _ _ _ rfl b 7 _ [.slice aq (S15.H.dk.queue.length+1) cq] rfl rfl rfl _ _ hbk16 (by show 7+1≤13;omega) (by kernel_rfl) (fun u hu=>by cases List.mem_singleton.1 hu;rfl) ?_)
            intro w17 hb17 hg17
            have hlen:(S15.H.dk.queue++[((n:Int),PC)]).length=S15.H.dk.queue.length+1:=by simp
            have hoq' : Own W16 b 93 9 (.slice aq (S15.H.dk.queue++[((n:Int),PC)]).length cq) (S15.H.dk.queue++[((n:Int),PC)]).length ((S15.H.dk.queue++[((n:Int),PC)]).flatMap uI):=by
             rw[hlen,List.flatMap_append];simpa using hoq
            have hm17:=hmq.appQ hgq hoq' (by rw[hlen];exact hb17) hg17
            have hn17:∀x,iI b { S15 with H:={ S15.H with dq:=aq,cdq:=cq,dk:=⟨S15.H.dk.blocks,S15.H.dk.queue++[((n:Int),PC)]⟩ } } x→iI b S15 x∨oB aq=some x:=fun x hx=>by
             rcases hx with hx|hx
             ·exact .inl (.inl hx)
             ·simp only[dN,List.mem_cons,List.not_mem_nil,or_false] at hx
              rcases hx with hx|hx|hx|hx|hx|hx|hx|hx|hx<;>first|exact .inr hx.symm|exact .inl (.inr (by simp[dN,hx]))
            have hs17:=hs16.app hmq hmq.ma.dk.q (by simp[dN]) hgq hg17 hsnq hn17
            have hqN:Hid (¬iI b { S15 with H:={ S15.H with dq:=aq,cdq:=cq,dk:=⟨S15.H.dk.blocks,S15.H.dk.queue++[((n:Int),PC)]⟩ } } gf0):=Lib.hid (fun hk=>(hn17 gf0 hk).elim hkf15.out fun e=>lL (fe hoq' e).2.choose_spec fx16 (by decide) rfl)
            have fx17:=fx16.grown hg17 (fun e=>hkf15.out (.inl (Option.some.inj e).symm))
            have ho17:Hid (Own w17 b 3 1 (lN ⟨x,xa,xs,xc⟩) xs.length (xs.map dE)):=Lib.hid (aj ho16.out hbk16 (by decide) hg17)
            have hF17:Hid (zw f s ct S3.H.asl fi0 (bk.set n PC) (qu++[((n:Int),PC)]) { S15 with H:={ S15.H with dq:=aq,cdq:=cq,dk:=⟨S15.H.dk.blocks,S15.H.dk.queue++[((n:Int),PC)]⟩ } }∧Fb ct (bk.set n PC) (qu++[((n:Int),PC)]) (fi0.map PF.fi) (xs++[(n:Int)])):=Lib.hid (by
             have h9:=hF15.out
             exact⟨⟨h9.m,h9.asl,h9.sl,h9.sw,by show (⟨S15.H.dk.blocks,S15.H.dk.queue++[((n:Int),PC)]⟩:rQ)=_;rw[h9.dk],h9.fi,h9.ct,h9.ca,h9.sp,h9.T⟩,hF10.out.2.1.wait hnn.out.1 hnn.out.2 PC⟩)
            clear hmq hgq hoq hsnq hbk16 fx16 ho16 hs16 hb17 hlen hoq' hg17 hn17
            go_wp2
            go_meet
            case rel=>exact⟨(n:Int),_,_,_,rfl,hm17,hs17,hqN,hF17,fx17,ho17⟩
           ·have hF17:Hid (zw f s ct S3.H.asl fi0 (bk.set n PC) qu S15∧Fb ct (bk.set n PC) qu (fi0.map PF.fi) (xs++[(n:Int)])):=Lib.hid ⟨hF15.out,hF10.out.2.1.some hnn.out.1 hnn.out.2 PC⟩
            go_wp2
            go_meet
            case rel=>exact⟨(n:Int),S15,_,_,rfl,hm15,hs15,hkf15,hF17,fx15,ho15⟩
       case rest=>
       obtain⟨v,S,bk,qu,rfl,hm,hs,hkf,hF,fx,ho⟩:=hcut
       clear hm9 hs9 hF9 fx9 ho9 hkf9 hkx9
       have hcf:=fx.cell
       unfold jM at hcf
       have hF':=Lib.hid hF.out.2
       have hxl:xs.length≤100:=by
        have h1:=hF10l.out
        omega
       have hlw:=Lib.hid hxl
       go_wp2_with (at_builtin;go_must (refine jc rfl _ _ 28 rfl b 3 (.int .i64 0) 1 8 Try.underlying28 int_info rfl (by decide) (lN ⟨x,xa,xs,xc⟩) xs.length (xs.map dE) rfl (ho.out.alloc _) (some ⟨wc.heap.size,0,none⟩) 1 1 [dE v] rfl (fun h=>(by cases h)) (Nat.le_refl _) rfl (bZ.new _ #[dE v] _) (by simp[dE,Value.oneCell']) (by unfold maxLen;omega) (by omega) (cO hm.bs _) ?_))
       intro v2 w2 own2 hg2 hsn2
       have hal:=(Below.refl wc.heap.size wc).alloc (Nat.le_refl _) (.cells #[dE v] 3)
       have hm1:=hm.below hal
       have hs1:=hs.below hal
       have fx1:=fx.ext hal
       have ho1:Own (wc.alloc (.cells #[dE v] 3)) b 3 1 (.slice xa xs.length xc) xs.length (xs.map dE):=ho.out.below hal
       obtain⟨a2,c2,hv2,_⟩:=own2.rd
       rw[hv2] at own2 hsn2 ⊢
       have hge2:Hid (∀g,oB a2=some g→w6.heap.size≤g∧oB S3.H.asl≠some g∧∀p∈fi0,oB p.a≠some g):=Lib.hid (fun g hg=>by
        rcases hsn2 with e1|e1
        ·unfold lN at e1
         rw[iw,iw] at e1
         exact hap.out g (by rw[←e1];exact hg)
        ·have h1:=e1 g (by rw[iw];exact hg)
         refine⟨Nat.le_trans hs1.size h1,fun e => ?_,fun p hp e => ?_⟩
         ·exact absurd h1 (Nat.not_le.2 (fe hm1.ma.sl (by rw[hF.out.1.asl];exact e)).2.choose_spec.lt)
         ·rw[←hF.out.1.fi] at hp
          obtain⟨k,hk,rfl⟩:=List.mem_iff_getElem.1 hp
          exact absurd h1 (Nat.not_le.2 (fe (hm1.ma.st.each k _ (List.getElem?_eq_getElem hk)) e).2.choose_spec.lt))
       have hm2:cB w2 b b S:=by
        rcases lG ho1 hg2 with hb0|⟨g,cs,hk,hga,hg'⟩
        ·exact hm1.below hb0
        ·exact hm1.locI hk (hm1.kb_int hk (by rw[hF.out.1.asl];exact (hap.out g hga).2.1)) (by rw[hF.out.1.fi];exact (hap.out g hga).2.2) (fe ho1 hga).1 hg'
       have hs2:MS w6 b S6 w2 S:=by
        rcases lG ho1 hg2 with hb0|⟨g,cs,hk,hga,hg'⟩
        ·exact hs1.below hb0
        ·exact hs1.loc hg' (hap.out g hga).1
       have fx2:aB w2 gf0 (jM ⟨x,xa,xs,xc⟩) 71:=by
        rcases lG ho1 hg2 with hb0|⟨g,cs,hk,hga,hg'⟩
        ·exact fx1.ext hb0
        ·exact bq fx1 hk (by decide) hg'
       clear hcf hm hs fx hm1 hs1 fx1 ho1 hg2 hsn2 hal ho hv2
       go_wp2_with (refine ay rfl _ _ _ rfl gf0 1 _ [.slice a2 (xs.length+1) c2] rfl rfl rfl _ _ fx2 (by show 1+1≤2;omega) (by kernel_rfl) (fun u hu=>by cases List.mem_singleton.1 hu;rfl) ?_)
       intro w3 hb3 hg3
       have hxl1:(xs++[v]).length=xs.length+1:=by simp
       have fx3:aB w3 gf0 (jM ⟨x,a2,xs++[v],c2⟩) 71:=by
        have e:jM ⟨x,a2,xs++[v],c2⟩=putAt (jM ⟨x,xa,xs,xc⟩) 1 [.slice a2 (xs.length+1) c2]:=by
         unfold jM
         dsimp only
         rw[hxl1]
         kernel_rfl
        rw[e];exact hb3
       have hm3:=hm2.locT fx2 (by decide) hkf.out hgB hg3
       have hs3:=hs2.loc hg3 hg6.out
       have ho3:Hid (Own w3 b 3 1 (lN ⟨x,a2,xs++[v],c2⟩) (xs++[v]).length ((xs++[v]).map dE)∧∀g,oB a2=some g→w6.heap.size≤g∧oB S3.H.asl≠some g∧∀p∈fi0,oB p.a≠some g):=Lib.hid ⟨by
        have h1:=aj own2 fx2 (by decide) hg3
        unfold lN
        dsimp only
        rw[hxl1,List.map_append]
        exact h1,hge2.out⟩
       have hF3:Hid (zw f s ct S3.H.asl fi0 bk qu S∧Fb ct bk qu (fi0.map PF.fi) (xs++[v])∧(xs++[v]).length=i+1):=Lib.hid ⟨hF.out.1,hF.out.2,by rw[hxl1,hF8l.out]⟩
       clear hm2 hs2 fx2 own2 hb3 hg3 hxl1 hxl
       go_wp2
       go_roundw
       case rel=>exact⟨i+1,S,bk,qu,xs++[v],a2,c2,by omega,by go_num,hm3,hs3,hkf,hF3,fx3,ho3⟩
       case measure=>simp[intOf];omega
      ·have hii:¬(i:Int)<(C:Int):=by omega
       have hiC' : i=C:=by omega
       subst hiC'
       have hfl5:S.H.fi.length≤5:=by rw[hI.out.1.fi];have:=hl0.out;omega
       have hkaf:∀g,(Value.slice S.H.ai S.H.fi.length S.H.ci).ownBlock=some g→iI b S g:=fun g hg => .inr (by rw[iw] at hg;simp[dN,hg])
       have hnb:Hid (∀g,(Value.slice S.H.ai S.H.fi.length S.H.ci).ownBlock=some g→g≠b∧∀t∈[(gf0,jM ⟨x,xa,xs,xc⟩,71)],t.1≠g):=Lib.hid (fun g hg=>by
        obtain⟨cs,hk⟩:=gL hm.ma.st.own g hg
        refine⟨fun e=>lL hk hm.blk (by decide) e,fun t ht => ?_⟩
        rw[List.mem_singleton.1 ht]
        intro e
        exact hkf'.out (by rw[show gf0=g from e];exact hkaf g hg))
       have hks:Hid (∀t∈[(gf0,jM ⟨x,xa,xs,xc⟩,71)],aB wr t.1 t.2.1 t.2.2):=Lib.hid (fun t ht=>by rw[List.mem_singleton.1 ht];exact fx)
       go_upto_region 31 with (fail)
       refine dG 14 [_,_,_,_,_,_,.v (.slice S.H.ai S.H.fi.length S.H.ci),.v (.agg (jM ⟨x,xa,xs,xc⟩)),.r 8 ((aN fun _=>True)),.r 9 ((aN fun _=>True)),_,_,_,_] (vC S b b wr [(gf0,jM ⟨x,xa,xs,xc⟩,71)] 9 8 71 2 S.H.fi.length (.slice S.H.ai S.H.fi.length S.H.ci) (S.H.fi.flatMap pG) (pG ⟨x,xa,xs,xc⟩)) di (fun y=>Jq hm hks.out y) (Qk di rfl (Qk di rfl (Qk di rfl (Qf di b 1 rfl rfl (Qf di b 8 rfl rfl (Qf di b 8 rfl rfl (all_cons ?_ (all_cons ?_ (all_cons ?_ (all_cons ?_ (Qk di rfl (Qf di b 1 rfl rfl (Qf di b 8 rfl rfl (Qf di b 8 rfl rfl (all_nil) (fun _ _ _ _ hLd h=>dC (by decide) h)) (fun _ _ _ _ hLd h=>dC (by decide) h)) (fun _ _ _ _ hLd h=>dC (by decide) h)) (fun _ _ _ _ hLd h=>dC (by decide) h)))))) (fun _ _ _ _ hLd h=>dC (by decide) h)) (fun _ _ _ _ hLd h=>dC (by decide) h)) (fun _ _ _ _ hLd h=>dC (by decide) h)) (fun _ _ _ _ hLd h=>dC (by decide) h)) (fun _ _ _ _ hLd h=>dC (by decide) h)) (fun _ _ _ _ hLd h=>dC (by decide) h)) (fun _=>rfl) rfl ?_
       ·intro ρ y W L hw hn hLi hLd hb hd
        refine bS di (fun _ _ h=>dC (by decide) h) hb ?_
        have E166:=hw 166 5 rfl
        have h5:y 5=_:=hd 5 rfl
        have m1:=hb.1.1
        refine ah (.slice S.H.ai S.H.fi.length S.H.ci) (ag rfl) (by simp[execOp,go_sem,E166,h5,m1.cell,eB]) rfl
       ·intro ρ y W L hw hn hLi hLd hb hd
        refine bS di (fun _ _ h=>dC (by decide) h) hb ?_
        have E11:ρ (.tmp 11) = .pointer (some ⟨gf0,0,none⟩):=(hn (.tmp 11) rfl).trans rfl
        have m3:=hb.1.2 _ List.mem_cons_self
        refine ah (.agg (jM ⟨x,xa,xs,xc⟩)) (ag rfl) (aS rfl E11 m3 Try.underlying71 rfl file_size) rfl
       ·intro ρ y W L hw hn hLi hLd hb hd;have E168:=hw 168 7 rfl;have h7:y 7=_:=hd 7 rfl
        refine bF (.slice (some ⟨W.heap.size,0,none⟩) 1 1) (ag rfl) ?_ (IU (W':=W.alloc (.cells (jM ⟨x,xa,xs,xc⟩) 71)) (by decide) ((Below.refl _ _).alloc (Nat.le_refl _) _) hb ⟨Nat.le_refl _,by unfold maxLen;omega,fun e=>(by cases e),bZ.new _ _ _⟩) trivial
        simp[execOp,go_sem,E168.trans h7,jM]
       ·intro ρ y W L hw hn hLi hLd hb hd;have E167:=hw 167 6 rfl;have h6:y 6=_:=hd 6 rfl;have E169:=hw 169 8 rfl;have h8:=hd 8 rfl
        have hm:=(hb.2.1 hLi).1
        obtain⟨a,e,hx1,hx2⟩:=hb.2.2.1 (hLd 8 rfl) hLi
        have hpv:Own W b 71 2 (.slice S.H.ai S.H.fi.length S.H.ci) S.H.fi.length (S.H.fi.flatMap pG):=hm.ma.st.own
        refine dF (ag rfl) (gD _ _ _ rfl b 71 _ 2 32 Try.underlying34 file_info rfl (by decide) (.slice S.H.ai S.H.fi.length S.H.ci) S.H.fi.length _ (E167.trans h6) hpv a 1 e (pG ⟨x,xa,xs,xc⟩) (E169.trans hx1) hx2.nl hx2.le rfl hx2.rd (aY (kr _)) (by unfold maxLen;omega) (by omega) hm.bs) (fun v W1 h=>Hg hLi hb h.2.1 hnb.out h.1 h.2.2) (fun _ _ _=>trivial)
       intro y W8 hbW8 hRW8
       have hy8:((aN fun _=>True)).r (y 8) W8:=hRW8 8 (by decide)
       have hy9:((aN fun _=>True)).r (y 9) W8:=hRW8 9 (by decide)
       clear hRW8
       obtain⟨wq,hmq,hsq,hgq,hoq,hsnq⟩:=hbW8.2.2.2 rfl
       have hbk8:=hbW8.1.1
       have hoxq:=hsq.ownN ho.out.1 (fun g hg=>by
        obtain⟨cs,hk⟩:=gL ho.out.1 g hg
        refine hm.kb_int hk ?_
        rw[hI.out.1.asl]
        exact (ho.out.2 g (by unfold lN at hg;rw[iw] at hg;exact hg)).2.1)
       have hs8:=hs.trans hsq
       obtain⟨aq,cq,hyq,_⟩:=hoq.rd
       rw[hyq] at hoq hsnq ⊢
       clear hyq hbW8 hm hs fx hsq hks hnb hkaf
       go_wp2_with (refine ay rfl _ _ _ rfl b 8 _ [.slice aq (S.H.fi.length+1) cq] rfl rfl rfl _ _ hbk8 (by show 8+1≤13;omega) (by kernel_rfl) (fun u hu=>by cases List.mem_singleton.1 hu;rfl) ?_)
       intro w17 hb17 hg17
       have hlen:(S.H.fi++[(⟨x,xa,xs,xc⟩:PF)]).length=S.H.fi.length+1:=by simp
       have hm17:cB w17 b b { S with H:={ S.H with ai:=aq,ci:=cq,fi:=S.H.fi++[(⟨x,xa,xs,xc⟩:PF)] } }:=hmq.appFi (p:=⟨x,xa,xs,xc⟩) hoxq (fun k p hp g hg hg'=>by
         unfold lN at hg hg'
         rw[iw] at hg hg'
         exact (ho.out.2 g hg').2.2 p (by rw[←hI.out.1.fi];exact List.mem_of_getElem? hp) hg) (fun g hg=>by rw[hI.out.1.asl];exact (ho.out.2 g hg).2.1) hgq (by rw[hlen];exact hoq) (by rw[hlen];exact hb17) hg17
       have hs17:MS w6 b S6 w17 { S with H:={ S.H with ai:=aq,ci:=cq,fi:=S.H.fi++[(⟨x,xa,xs,xc⟩:PF)] } }:=hs8.app hmq hmq.ma.st.own (by simp[dN]) hgq hg17 hsnq (fun x hx=>by
        rcases hx with hx|hx
        ·exact .inl (.inl hx)
        ·simp only[dN,List.mem_cons,List.not_mem_nil,or_false] at hx
         rcases hx with hx|hx|hx|hx|hx|hx|hx|hx|hx<;>first|exact .inr hx.symm|exact .inl (.inr (by simp[dN,hx])))
       have hs17:=hs6.trans hs17
       have hI17:Hid (zw f s ct S3.H.asl (S.H.fi++[(⟨x,xa,xs,xc⟩:PF)]) bk qu { S with H:={ S.H with ai:=aq,ci:=cq,fi:=S.H.fi++[(⟨x,xa,xs,xc⟩:PF)] } }∧Fb ct bk qu ((S.H.fi++[(⟨x,xa,xs,xc⟩:PF)]).map PF.fi) []∧(S.H.fi++[(⟨x,xa,xs,xc⟩:PF)]).length=q+1∧(q+1=0→bk=List.replicate ct zPg∧qu=[]∧(l=[]→S.l=[]))):=Lib.hid (by
        have h9:=hI.out.1
        refine⟨⟨h9.m,h9.asl,h9.sl,h9.sw,h9.dk,rfl,h9.ct,h9.ca,h9.sp,h9.T⟩,?_,by rw[hlen,h9.fi,hl0q.out],fun e=>absurd e (by omega)⟩
        rw[List.map_append,h9.fi]
        exact hI.out.2.1.file (s:=x) (by omega) (by omega) (by rw[hI.out.2.2,hC'.out]))
       clear hmq hgq hoq hsnq hbk8 hoxq hs8 hb17 hlen hg17
       go_wp2
       go_roundw
       case rel=>exact⟨q+1,_,bk,qu,by omega,by go_num,hm17,hs17,hI17⟩
       case measure=>simp[intOf];omega
    ·have hqi:¬(q:Int)<(N:Int):=by omega
     have hbd:Hid (Bd S.H.ma S.T∧Ea S∧S.H.sp.length=0∧S.H.m.fs.length=f∧S.H.dk.blocks.length=ct∧(l=[]→S.l=[]∧S.H.ma=tY f s ct (List.replicate ct zPg) [] []∧S.T=[])):=Lib.hid (by
      obtain⟨h1,h2,h3,h4⟩:=hI.out
      refine⟨by rw[h1.ma,h1.T];exact h2.bd (by rw[List.length_map];omega) hf40 hs60,fun p hp=>(by rw[h1.sp] at hp;cases hp),by rw[h1.sp];rfl,by rw[h1.m];exact List.length_replicate,by rw[h1.dk];exact h2.cl.1,fun e => ?_⟩
      have hN0:=(hl5.out e).1
      have hq0:q=0:=by omega
      obtain⟨k1,k2,k3⟩:=h4 hq0
      refine⟨k3 e,?_,h1.T⟩
      have hf0:fi0=[]:=List.length_eq_zero_iff.1 (by omega)
      rw[h1.ma,k1,k2,hf0];rfl)
     clear hI
     go_wp2_with fail
     refine (dA S 2 b b _ hm (by omega)).mono ?_
     rintro r w6 ⟨z,a6,c6,l6,rfl,hm6,hs6,hz,hz0⟩
     have hs6:=hs.trans hs6
     have hzw:IntKind.i64.wrap (1+z)=1+z:=IntWalk.i64_in _ (by omega)
     obtain⟨M,hM⟩:∃M:Nat,1+z=(M:Int):=⟨(1+z).toNat,by omega⟩
     have hM2:1≤M∧M≤2:=by omega
     have hbd6:Hid (Bd (S.lst a6 c6 l6).H.ma (S.lst a6 c6 l6).T∧Ea (S.lst a6 c6 l6)∧(S.lst a6 c6 l6).H.sp.length=0∧(S.lst a6 c6 l6).H.m.fs.length=f∧(S.lst a6 c6 l6).H.dk.blocks.length=ct∧(l=[]→(S.lst a6 c6 l6).l=[]∧(S.lst a6 c6 l6).H.ma=tY f s ct (List.replicate ct zPg) [] []∧(S.lst a6 c6 l6).T=[])):=Lib.hid
      ⟨hbd.out.1,hbd.out.2.1,hbd.out.2.2.1,hbd.out.2.2.2.1,hbd.out.2.2.2.2.1,fun e=>⟨(hz0 (hbd.out.2.2.2.2.2 e).1).2,(hbd.out.2.2.2.2.2 e).2⟩⟩
     have hM1:Hid (l=[]→M=1):=Lib.hid (fun e=>by have:=(hz0 (hbd.out.2.2.2.2.2 e).1).1;omega)
     rw[hM] at hzw
     clear hm hs hbd hz hz0
     generalize S.lst a6 c6 l6=S6 at hm6 hs6 hbd6
     go_upto_region 34 with (fail)
     clear hM hzw
     go_loopw [179] (fun k wr => ∃(p:Nat) (S:MW),p≤M∧k = .int .i64 p∧cB wr b b S∧MS w4 b S3 wr S∧Hid (Bd S.H.ma S.T∧Ea S∧S.H.sp.length=p∧S.H.m.fs.length=f∧S.H.dk.blocks.length=ct∧(l=[]→S.l=[]∧((p=0→S.H.ma=tY f s ct (List.replicate ct zPg) [] []∧S.T=[])∧(p=1→S.H.ma = { tY f s ct (List.replicate ct zPg) [] [] with sp:=[⟨true,[],zTb⟩] }∧S.T=[List.replicate 64 zEn]))))) (fun k _=>M-(intOf k).toNat)
     case atStart=>exact⟨0,S6,Nat.zero_le _,rfl,hm6,hs6,Lib.hid ⟨hbd6.out.1,hbd6.out.2.1,hbd6.out.2.2.1,hbd6.out.2.2.2.1,hbd6.out.2.2.2.2.1,fun e=>⟨(hbd6.out.2.2.2.2.2 e).1,fun _=>(hbd6.out.2.2.2.2.2 e).2,fun h=>(by cases h)⟩⟩⟩
     case round=>
      clear hm6 hs6 hbd6
      obtain⟨p,S,hp,rfl,hm,hs,hI⟩:=hrel
      by_cases hpM:p<M
      ·have hpi:(p:Int)<(M:Int):=by omega
       have hmoreR:∀(S' : MW),More S S'→(l=[]→p=0→S'.l=[]∧S'.H.ma = { S.H.ma with sp:=S.H.ma.sp++[⟨true,[],zTb⟩] }∧S'.T=S.T++[List.replicate 64 zEn])→Bd S'.H.ma S'.T∧Ea S'∧S'.H.sp.length=p+1∧S'.H.m.fs.length=f∧S'.H.dk.blocks.length=ct∧(l=[]→S'.l=[]∧((p+1=0→S'.H.ma=tY f s ct (List.replicate ct zPg) [] []∧S'.T=[])∧(p+1=1→S'.H.ma = { tY f s ct (List.replicate ct zPg) [] [] with sp:=[⟨true,[],zTb⟩] }∧S'.T=[List.replicate 64 zEn]))):=fun S' hMo hn=>by
        obtain⟨h1,h2,h3,h4,h5,h6⟩:=hI.out
        refine⟨hMo.bd,hMo.fm,by rw[hMo.sp,h3],by rw[hMo.fs,h4],by rw[hMo.dk,h5],fun e => ?_⟩
        have hp0:p=0:=by have:=hM1.out e;omega
        obtain⟨k1,k2,k3⟩:=hn e hp0
        obtain⟨q1,q2⟩:=(h6 e).2.1 hp0
        refine⟨k1,fun h=>absurd h (by omega),fun _=>⟨by rw[k2,q1];rfl,by rw[k3,q2];rfl⟩⟩
       have hmoreR':=Lib.hid hmoreR
       clear hmoreR
       by_cases hp1:p=1
       ·subst hp1
        go_wp2_with fail
        refine (dA S 2 b b _ hm (by omega)).mono ?_
        rintro r w7 ⟨z2,a7,c7,l7,rfl,hm7,hs7,hz2,_⟩
        have hs7:=hs.trans hs7
        clear hm hs
        by_cases hz1:z2=1
        ·subst hz1
         go_wp2_with fail
         refine (EA (S.lst a7 c7 l7) b b _ hm7 hI.out.1 hI.out.2.1 hI.out.2.2.1).mono ?_
         rintro r w8 ⟨S8,rfl,hm8,hs8,hMo⟩
         have hs8:=hs7.trans hs8
         have hI8:=Lib.hid (hmoreR'.out S8 ⟨hMo.bd,hMo.fm,hMo.fi,hMo.ct,hMo.dk,hMo.sp,hMo.fs⟩ (fun _ h=>absurd h (by decide)))
         clear hm7 hs7 hMo hI
         go_wp2
         go_roundw
         case rel=>exact⟨2,S8,by omega,by go_num,hm8,hs8,hI8⟩
         case measure=>simp[intOf];omega
        ·have hzb:(z2==1)=false:=by simpa using hz1
         go_wp2_with fail
         refine (vM (S.lst a7 c7 l7) b b _ hm7 hI.out.1 hI.out.2.1 (by have:=hI.out.2.2.1;show S.H.sp.length<4;omega)).mono ?_
         rintro r w8 ⟨S8,rfl,hm8,hs8,hMo,_⟩
         have hs8:=hs7.trans hs8
         have hI8:=Lib.hid (hmoreR'.out S8 ⟨hMo.bd,hMo.fm,hMo.fi,hMo.ct,hMo.dk,hMo.sp,hMo.fs⟩ (fun _ h=>absurd h (by decide)))
         clear hm7 hs7 hMo hI
         go_wp2
         go_roundw
         case rel=>exact⟨2,S8,by omega,by go_num,hm8,hs8,hI8⟩
         case measure=>simp[intOf];omega
       ·have hp0:p=0:=by omega
        subst hp0
        go_wp2_with fail
        refine (vM S b b _ hm hI.out.1 hI.out.2.1 (by have:=hI.out.2.2.1;omega)).mono ?_
        rintro r w8 ⟨S8,rfl,hm8,hs8,hMo,hnil⟩
        have hs8:=hs.trans hs8
        have hI8:=Lib.hid (hmoreR'.out S8 hMo (fun e _=>hnil (hI.out.2.2.2.2.2 e).1))
        clear hm hs hMo hI hnil
        go_wp2
        go_roundw
        case rel=>exact⟨0+1,S8,by omega,by go_num,hm8,hs8,Lib.hid ⟨hI8.out.1,hI8.out.2.1,hI8.out.2.2.1,hI8.out.2.2.2.1,hI8.out.2.2.2.2.1,fun e=>⟨(hI8.out.2.2.2.2.2 e).1,(hI8.out.2.2.2.2.2 e).2.1,fun _=>(hI8.out.2.2.2.2.2 e).2.2 (by first | trivial | rfl)⟩⟩⟩
        case measure=>simp[intOf];omega
      ·have hpi:¬(p:Int)<(M:Int):=by omega
       have hpe:M=p:=by omega
       subst hpe
       have hT6:Hid (Bd S.H.ma S.T∧S.T.length=M∧S.H.ma.sp.length=M):=Lib.hid (by
        have h1:=hI.out.2.2.1
        have h2:S.H.ma.sp.length=S.H.sp.length:=List.length_map _
        exact⟨hI.out.1,by rw[hI.out.1.ok.len];omega,by omega⟩)
       have hI0:Hid (S.H.ma=tabs S.H.ma S.T 0∧S.T=S.T∧S.H.sp.length=M∧Ea S∧S.H.m.fs.length=f∧S.H.dk.blocks.length=ct∧(l=[]→S.l=[])):=Lib.hid ⟨rfl,rfl,hI.out.2.2.1,hI.out.2.1,hI.out.2.2.2.1,hI.out.2.2.2.2.1,fun e=>(hI.out.2.2.2.2.2 e).1⟩
       have hnew:Hid (l=[]→bX S.H.ma S.T=qi f s ct):=Lib.hid (fun e=>by
        obtain⟨k1,k2⟩:=(hI.out.2.2.2.2.2 e).2.2 (hM1.out e)
        rw[k1,k2];exact Gy hf40 hs60 hc80)
       obtain⟨m5,hm5⟩:∃m,S.H.ma=m:=⟨_,rfl⟩
       obtain⟨T5,hT5⟩:∃T,S.T=T:=⟨_,rfl⟩
       have hI1:Hid (S.H.ma=tabs m5 T5 0∧S.T=T5∧S.H.sp.length=M∧Ea S∧S.H.m.fs.length=f∧S.H.dk.blocks.length=ct∧(l=[]→S.l=[])):=Lib.hid (by rw[←hm5,←hT5];exact hI0.out)
       rw[hm5,hT5] at hT6 hnew
       have hspl:S.H.sp.length=M:=hI.out.2.2.1
       clear hI hI0 hm5 hT5
       have hc:=hm.blk.cell
       unfold eB at hc
       rw[hspl] at hc
       clear hspl
       go_upto_region 41 with (fail)
       clear hc
       go_loopw [200] (fun k wr => ∃(q:Nat) (S:MW),q≤M∧k = .int .i64 q∧cB wr b b S∧MS w4 b S3 wr S∧Hid (S.H.ma=tabs m5 T5 q∧S.T=T5∧S.H.sp.length=M∧Ea S∧S.H.m.fs.length=f∧S.H.dk.blocks.length=ct∧(l=[]→S.l=[]))) (fun k _=>M-(intOf k).toNat)
       case atStart=>exact⟨0,S,Nat.zero_le _,rfl,hm,hs,hI1⟩
       case round=>
        clear hm hs hI1
        obtain⟨q,S,hq,rfl,hm,hs,hI⟩:=hrel
        by_cases hqM:q<M
        ·have hqi:(q:Int)<(M:Int):=by omega
         obtain⟨P,hP⟩:∃P,S.H.sp[q]?=some P:=⟨_,List.getElem?_eq_getElem (by rw[hI.out.2.2.1];exact hqM)⟩
         obtain⟨g,off,cur0,hap,_,_,_,_⟩:=hm.setTb hP
         have hTl:S.T.length=M:=by rw[hI.out.2.1];exact hT6.out.2.1
         obtain⟨gt,ot,ct',curt,hvt,_,hgt,hgts,hgtc,_⟩:=hm.tt.put qN (by decide) q (by omega)
         have hab:S.ab=some ⟨gt,ot,none⟩:=(Value.slice.inj hvt).1
         have h64:(dw T5 q).length=64:=hT6.out.1.ok.l64 (by rw[hT6.out.2.2];exact hqM)
         have hTq:S.T[q]'(by omega)=dw T5 q:=by rw[←cB.lst_len (by omega),hI.out.2.1]
         have hrdT:∀W,Below wr.heap.size wr W→bZ W (some ⟨gt,ot+q*192,none⟩) (nW (dw T5 q)).toList:=fun W hb j u hj=>by
          refine⟨gt,ot+q*192,rfl,?_⟩
          have e1:=hgtc j u (by rw[hTq,Mr h64];exact hj)
          rw[hgt.cell] at e1
          rw[(hgt.ext hb).cell];exact e1
         have hsp':=Lib.hid hI.out.2.2.1
         have hTl':=Lib.hid hTl
         have hap':=Lib.hid hap
         have hab':=Lib.hid hab
         have h64':=Lib.hid h64
         have hsz64:(nW (dw T5 q)).toList.length=192:=by rw[Array.length_toList,mQ,h64]
         have hsz':=Lib.hid hsz64
         have hP':=Lib.hid hP
         have hrdT':=Lib.hid hrdT
         clear hvt hgtc hTq hTl hap hab h64 hsz64 hP hrdT hgt hgts
         go_upto_region 43 with (fail)
         refine aC 16 [_,_,_,_,_,_,_,_,_,_,_,_,_,.r 13 ((Ak b (dI (dw T5 q)))),_,_] (Gk rfl (Gk rfl (Gf b 1 rfl rfl (Gf b 11 rfl rfl (Gl hm.blk (V:=.slice (some ⟨g,off,none⟩) M S.H.cp) (by simp[eB,hap'.out,hsp'.out]) rfl rfl rfl rfl (Gk rfl (Gk rfl (Gk rfl (Gf b 12 rfl rfl (Gl hm.blk (V:=.slice (some ⟨gt,ot,none⟩) M S.cb) (by simp[eB,hab'.out,hTl'.out]) rfl rfl rfl rfl (Gk rfl (Gr (.pointer (some ⟨gt,ot+q*192,none⟩)) (fun ρ y W hb hKn=>(aR rfl (az rfl hKn) (az rfl hKn) hqM Try.underlying87 arr64_size)) rfl rfl (Gr (.agg (nW (dw T5 q))) (fun ρ y W hb hKn=>(bN rfl (az rfl hKn) (hrdT'.out W hb) Try.underlying95 rfl (arr64_size.trans (congrArg some hsz'.out.symm)))) rfl rfl (all_cons ?_ (Gr (.pointer (some ⟨g,off+q*10,none⟩)) (fun ρ y W hb hKn=>(aR rfl (az rfl hKn) (az rfl hKn) hqM Try.underlying38 space_size)) rfl rfl (Gf g (off+q*10+2) rfl rfl (all_nil))))))))))))))))) (fun _=>rfl) rfl ?_
         ·intro ρ y W hw hn hb hd;have E215:=hw 215 12 rfl;have h12:y 12=_:=hd 12 rfl
          have EF:∀f,ρ (.func f) = .func (.func f) #[] #[]:=fun f=>hn (.func f) trivial
          refine aG _ _ (ag rfl) (aK rfl (EF _) Try.func34 (by kernel_rfl) (by kernel_rfl) (by simp only[List.map_toArray,List.map_cons,List.map_nil,E215,h12,EF];rfl)) ?_
          refine (Dm (dw T5 q) W h64'.out).mono ?_
          rintro e w1 ⟨ca,rfl,hO,hb1⟩
          exact⟨_,rfl,hb1,⟨_,rfl,hO.mono (hm.below hb).bs⟩⟩
         intro y W9 hbW9 hRW9
         have hy13:=hRW9 13 (by decide)
         clear hRW9
         obtain⟨cs,hy13e,hTO⟩:∃cs,y 13 = .agg cs∧kL W9 b cs (dI (dw T5 q)):=hy13
         obtain⟨v,rfl⟩:=Jb hTO.sz
         rw[hy13e]
         have hm9:=hm.below hbW9
         have hs9:=hs.below hbW9
         clear hm hs hbW9 hy13e
         obtain⟨g2,off2,cur,hap2,hgB2,hblk2,hfit2,hset2⟩:=hm9.setTb hP'.out
         rw[hap'.out] at hap2
         obtain⟨rfl,rfl⟩:g=g2∧off=off2:=by
          have:=Option.some.inj hap2
          exact⟨congrArg Addr.block this,congrArg Addr.off this⟩
         have hkb9:iI b S g:=.inr (by simp[dN,hap'.out,oB,Value.ownBlock])
         clear hap2
         go_wp2_with (refine ay rfl _ _ _ rfl g (off+q*10+2) _ (iG v).toList rfl rfl rfl _ _ hblk2 (by show off+q*10+2+8≤cur.size;exact hfit2) (by kernel_rfl) (Iw hTO.rd) ?_)
         intro w10 hb10 hg10
         have hm10:=hset2 w10 v _ hTO hb10 hg10
         have hs10:MS w4 b S3 w10 { S with H:={ S.H with sp:=S.H.sp.set q { P with ts:=v,tb:=dI (dw T5 q) } } }:=hs9.put hg10 hkb9 (fun x hx => .inl hx)
         have hI10:Hid (({ S with H:={ S.H with sp:=S.H.sp.set q { P with ts:=v,tb:=dI (dw T5 q) } } }:MW).H.ma=tabs m5 T5 (q+1)∧S.T=T5∧(S.H.sp.set q { P with ts:=v,tb:=dI (dw T5 q) }).length=M∧Ea { S with H:={ S.H with sp:=S.H.sp.set q { P with ts:=v,tb:=dI (dw T5 q) } } }∧S.H.m.fs.length=f∧S.H.dk.blocks.length=ct∧(l=[]→S.l=[])):=Lib.hid (by
          obtain⟨q1,q2,q3,q4,q5⟩:=hI.out
          refine⟨?_,q2,by rw[List.length_set];exact q3,fun p hp n x hx => ?_,q5⟩
          ·show MH.ma { S.H with sp:=S.H.sp.set q { P with ts:=v,tb:=dI (dw T5 q) } }=_
           rw[Er hP'.out,q1];rfl
          ·rcases List.mem_or_eq_of_mem_set hp with hp|rfl
           ·exact q4 p hp n x hx
           ·exact q4 P (List.mem_of_getElem? hP'.out) n x hx)
         clear hm9 hs9 hblk2 hfit2 hset2 hb10 hg10 hTO hI hkb9
         go_wp2
         go_roundw
         case rel=>exact⟨q+1,_,by omega,by go_num,hm10,hs10,hI10⟩
         case measure=>simp[intOf];omega
        ·have hqi:¬(q:Int)<(M:Int):=by omega
         have hIm:Hid (S.H.ma=bX m5 T5):=Lib.hid (by
          have e:q=m5.sp.length:=by rw[hT6.out.2.2];omega
          rw[hI.out.1,e];exact Hd)
         have hI7:Hid (Rt S.H.ma∧Co S.H.ma∧Ea S∧S.H.m.fs.length=f∧S.H.dk.blocks.length=ct∧(1≤S.H.sp.length∧S.H.sp.length≤2)∧(l=[]→S.H.ma=qi f s ct∧S.l=[])):=Lib.hid (by
          obtain⟨q1,q2,q3,q4,q5,q6,q7⟩:=hI.out
          exact⟨by rw[hIm.out];exact hT6.out.1.rt,by rw[hIm.out];exact hT6.out.1.co,q4,q5,q6,by omega,fun e=>⟨by rw[hIm.out];exact hnew.out e,q7 e⟩⟩)
         clear hI hIm
         by_cases hf0:0<f
         ·have hfi:(0:Int)<(f:Int):=by omega
          go_wp2_with fail
          refine (dA S (f:Int) b b _ hm (by omega)).mono ?_
          rintro r w11 ⟨x,a11,c11,l11,rfl,hm11,hs11,hx,hx0⟩
          have hs11:=hs.trans hs11
          clear hm hs
          go_wp2_with (refine ay rfl _ _ _ rfl b 2 _ [.int .i64 x] rfl rfl rfl _ _ hm11.blk (by show 2+1≤13;omega) (by kernel_rfl) (fun u hu=>by cases List.mem_singleton.1 hu;rfl) ?_)
          intro w12 hb12 hg12
          have hm:=hm11.setH hb12 hg12
          have hs:MS w4 b S3 w12 { (S.lst a11 c11 l11) with H:={ (S.lst a11 c11 l11).H with m:=⟨(S.lst a11 c11 l11).H.m.fs,x⟩ } }:=hs11.put hg12 (.inl rfl) (fun x hx => .inl hx)
          have hI:Hid (Rt ({ (S.lst a11 c11 l11) with H:={ (S.lst a11 c11 l11).H with m:=⟨(S.lst a11 c11 l11).H.m.fs,x⟩ } }:MW).H.ma∧Co ({ (S.lst a11 c11 l11) with H:={ (S.lst a11 c11 l11).H with m:=⟨(S.lst a11 c11 l11).H.m.fs,x⟩ } }:MW).H.ma∧Ea ({ (S.lst a11 c11 l11) with H:={ (S.lst a11 c11 l11).H with m:=⟨(S.lst a11 c11 l11).H.m.fs,x⟩ } }:MW)∧({ (S.lst a11 c11 l11) with H:={ (S.lst a11 c11 l11).H with m:=⟨(S.lst a11 c11 l11).H.m.fs,x⟩ } }:MW).H.m.fs.length=f∧({ (S.lst a11 c11 l11) with H:={ (S.lst a11 c11 l11).H with m:=⟨(S.lst a11 c11 l11).H.m.fs,x⟩ } }:MW).H.dk.blocks.length=ct∧(1≤({ (S.lst a11 c11 l11) with H:={ (S.lst a11 c11 l11).H with m:=⟨(S.lst a11 c11 l11).H.m.fs,x⟩ } }:MW).H.sp.length∧({ (S.lst a11 c11 l11) with H:={ (S.lst a11 c11 l11).H with m:=⟨(S.lst a11 c11 l11).H.m.fs,x⟩ } }:MW).H.sp.length≤2)∧(l=[]→({ (S.lst a11 c11 l11) with H:={ (S.lst a11 c11 l11).H with m:=⟨(S.lst a11 c11 l11).H.m.fs,x⟩ } }:MW).H.ma=qi f s ct)):=Lib.hid (by
           obtain⟨q1,q2,q3,q4,q5,q6,q7⟩:=hI7.out
           have hwm:=(dR _).1 q1.pt.fr
           have hh:=JV q1 q2 (x:=x) ((dR _).2 ⟨hwm.1,hwm.2.1,hx.1,by
            rcases hx.2.2 with h|h
            ·exact .inr (by show x<(S.H.m.fs.length:Int);omega)
            ·exact .inl h⟩)
           refine⟨hh.1,hh.2,q3,q4,q5,q6,fun e => ?_⟩
           obtain⟨k1,k2⟩:=q7 e
           have hx00:x=0:=(hx0 k2).1
           subst hx00
           have k3:S.H.m.hand=0:=by
            have:=congrArg (fun m:Ma=>m.m.hand) k1
            have e2:(qi f s ct).m.hand=0:=by
             unfold qi ER
             rw[if_pos ⟨⟨by omega,by omega⟩,⟨by omega,by omega⟩,by omega,by omega⟩,if_pos (by omega)]
            exact this.trans e2
           rw[←k1]
           show MH.ma { S.H with m:=⟨S.H.m.fs,0⟩ }=MH.ma S.H
           have e3:(⟨S.H.m.fs,0⟩:Mem)=S.H.m:=by rw[←k3]
           rw[e3])
          clear hm11 hs11 hb12 hg12 hI7 hx hx0
          generalize { (S.lst a11 c11 l11) with H:={ (S.lst a11 c11 l11).H with m:=⟨(S.lst a11 c11 l11).H.m.fs,x⟩ } }=S13 at hm hs hI
          ·skip
           have bz:aB w12 w.heap.size (bM noH) 40:=hs.blkN bx4'.out hnb4.out
           have hB9:=Lib.hid (Nat.le_of_eq hbb.out)
           go_wp2_with (first | (refine ak _ _ rfl b 1 rfl rfl _ hm.rdM _ Try.underlying40 rfl machine_size ?_) | (refine ax rfl _ _ _ rfl w.heap.size (bM S13.H) rfl rfl _ _ bz rfl machine_size (eF _) ?_))
           intro wE bE gE
           have hE:Hid (qW wE w.heap.size S13.H∧Below w.heap.size w wE):=Lib.hid ⟨(hm.ma.keep bz (by decide) gE).mono (by have:=hB9.out;omega),(ym hbe4.out (hto.out _ _ hs) (by have:=hB9.out;omega) (Nat.le_refl _)).grown gE (Nat.le_trans (Nat.le_trans (by omega) hszl4) hs.size) (fun k hk=>by cases hk;exact Nat.le_refl _)⟩
           clear hm hs bz
           go_wp2
           refine bodyPost_ret (v:=.agg (bM S13.H)) (bY Try.results9 _ _ w.heap.size _ _ _ rfl bE Try.underlying40 rfl machine_size) rfl ?_
           obtain⟨q1,q2,q3,q4,q5,q6,q7⟩:=hI.out
           exact⟨S13.H,rfl,hE.out.1,hE.out.2,q1,q2,q3,by rw[hcl.out.1];exact q4,by rw[hcl.out.2.2];exact q5,q6,fun e=>by rw[hcl.out.1,hcl.out.2.1,hcl.out.2.2];exact q7 e⟩
         ·have hfi:¬(0:Int)<(f:Int):=by omega
          have hI:Hid (Rt S.H.ma∧Co S.H.ma∧Ea S∧S.H.m.fs.length=f∧S.H.dk.blocks.length=ct∧(1≤S.H.sp.length∧S.H.sp.length≤2)∧(l=[]→S.H.ma=qi f s ct)):=Lib.hid ⟨hI7.out.1,hI7.out.2.1,hI7.out.2.2.1,hI7.out.2.2.2.1,hI7.out.2.2.2.2.1,hI7.out.2.2.2.2.2.1,fun e=>(hI7.out.2.2.2.2.2.2 e).1⟩
          clear hI7
          ·skip
           have bz:aB wr w.heap.size (bM noH) 40:=hs.blkN bx4'.out hnb4.out
           have hB9:=Lib.hid (Nat.le_of_eq hbb.out)
           go_wp2_with (first | (refine ak _ _ rfl b 1 rfl rfl _ hm.rdM _ Try.underlying40 rfl machine_size ?_) | (refine ax rfl _ _ _ rfl w.heap.size (bM S.H) rfl rfl _ _ bz rfl machine_size (eF _) ?_))
           intro wE bE gE
           have hE:Hid (qW wE w.heap.size S.H∧Below w.heap.size w wE):=Lib.hid ⟨(hm.ma.keep bz (by decide) gE).mono (by have:=hB9.out;omega),(ym hbe4.out (hto.out _ _ hs) (by have:=hB9.out;omega) (Nat.le_refl _)).grown gE (Nat.le_trans (Nat.le_trans (by omega) hszl4) hs.size) (fun k hk=>by cases hk;exact Nat.le_refl _)⟩
           clear hm hs bz
           go_wp2
           refine bodyPost_ret (v:=.agg (bM S.H)) (bY Try.results9 _ _ w.heap.size _ _ _ rfl bE Try.underlying40 rfl machine_size) rfl ?_
           obtain⟨q1,q2,q3,q4,q5,q6,q7⟩:=hI.out
           exact⟨S.H,rfl,hE.out.1,hE.out.2,q1,q2,q3,by rw[hcl.out.1];exact q4,by rw[hcl.out.2.2];exact q5,q6,fun e=>by rw[hcl.out.1,hcl.out.2.1,hcl.out.2.2];exact q7 e⟩
theorem uE {α:Type} (q:α→Bool) {l l' : List α} (hl:l'.length=l.length) (h:∀i (h1:i<l.length) (h2:i<l'.length),q l'[i]=q l[i]):l'.countP q=l.countP q:=by
 have e:l'.map q=l.map q:=by
  apply List.ext_getElem
  ·simpa using hl
  ·intro i h1 h2
   simp only[List.getElem_map]
   exact h i (by simpa using h2) (by simpa using h1)
 have e2:=congrArg (fun x=>x.countP id) e
 simpa[List.countP_map] using e2
theorem Dy {m:Ma} {i:Nat} (h:i<m.m.fs.length):bn m i=m.m.fs[i]:=by unfold bn;rw[List.getD_eq_getElem?_getD,List.getElem?_eq_getElem h];rfl
theorem Es {m:Ma} {i:Nat} (h:i<m.sl.length):fB m i=m.sl[i]:=by unfold fB;rw[List.getD_eq_getElem?_getD,List.getElem?_eq_getElem h];rfl
theorem new2:qi (xI 2 40) (xI 2 60) (xI 2 80)=⟨ER 2,Gt 2,zb 2,zb 2,⟨[],2⟩,[],[⟨true,[],zTb⟩]⟩:=by
 have e:xI 2 40=2∧xI 2 60=2∧xI 2 80=2:=by decide
 rw[e.1,e.2.1,e.2.2]
 rfl
theorem La (w:World):Calls Try.prog 21 #[] w fun r w'=>r = .returned (.bool true)∧Below w.heap.size w w':=by
 go_enter Try.func21,Try.ntmps21
 go_wp2_with fail
 refine (wo 2 2 2 none 0 [] w ⟨Nat.le_refl _,by decide,fun _=>rfl,fun i u h=>(by simp at h)⟩).mono ?_
 rintro r w1 ⟨H,rfl,ho,hb1,hRt,hCo,_,_,_,_,hnew⟩
 have hma:H.ma=⟨ER 2,Gt 2,zb 2,zb 2,⟨[],2⟩,[],[⟨true,[],zTb⟩]⟩:=(hnew rfl).trans new2
 have e6:H.sp.length=1:=by rw[←nK,hma];rfl
 have hlv:(bI H.ma 0).lv=true:=by rw[hma];rfl
 have hnb:Hid (¬nP H 0):=Lib.hid (by
  rintro (e|e|e)
  ·exact absurd e (by decide)
  ·rw[e6] at e;exact absurd e (by decide)
  ·exact absurd (hlv.symm.trans e) (by decide))
 have hR:=Lib.hid hRt
 have hC:=Lib.hid hCo
 have h6:=Lib.hid (And.intro e6 hlv)
 have hr1:=ho.rd
 clear hnew hma e6 hlv hRt hCo ho
 go_wp2_with (refine aD rfl _ _ _ rfl (bM H) rfl rfl rfl machine_size (eF _) ?_)
 intro w2 hb2 bx2
 have hr2:=hr1.below hb2
 have hbr2:=ae hb1 hb2
 clear hr1 hb1 hb2
 go_wp2_with (refine ak _ _ rfl w1.heap.size 0 rfl rfl _ bx2.rd _ Try.underlying40 rfl machine_size ?_)
 refine (Ag H 0 _ hr2 hR.out hC.out).mono ?_
 rintro r w3 ⟨hb3,hcase⟩
 rcases hcase with ⟨e,_⟩|⟨_,_,e,_⟩|⟨_,K,q,hq,rfl,ho3,hF⟩
 ·exact absurd e hnb.out
 ·have:=h6.out.1;omega
 have hq1:q=1:=by
  rcases hq with ⟨e,_⟩|⟨e1,e2⟩
  ·rw[e,nK];exact h6.out.1
  ·rw[nK] at e1
   have:=h6.out.1
   obtain rfl:q=0:=by omega
   exact absurd (h6.out.2.symm.trans e2) (by decide)
 subst hq1
 have hF':=Lib.hid hF
 have hr3:=ho3.rd
 have hbr3:=ae hbr2 hb3
 have hl3:K.sp.length=2:=by rw[←nK,hF.spl,nK,h6.out.1];rfl
 have hl3':=Lib.hid hl3
 clear hq hF bx2 hr2 hbr2 hb3 ho3 hl3
 go_wp2_with (refine aD rfl _ _ _ rfl (bM K) rfl rfl rfl machine_size (eF _) ?_)
 intro w4 hb4 bx4
 have hr4:=hr3.below hb4
 have hbr4:=ae hbr3 hb4
 have hc:=bx4.cell
 unfold bM at hc
 rw[hl3'.out] at hc
 clear hr3 hbr3 hb4
 go_wp2_with (refine ak _ _ rfl w3.heap.size 0 rfl rfl _ bx4.rd _ Try.underlying40 rfl machine_size ?_)
 refine (vO K 0 _ hr4 hF'.out.rt hF'.out.co).mono ?_
 rintro r w5 ⟨hb5,hcase⟩
 have hlK:(bI K.ma 0).lv=true:=((hF'.out.spo 0 (by decide)).1).trans h6.out.2
 rcases hcase with ⟨e,_⟩|⟨_,G,rfl,ho5,hG⟩
 ·exfalso
  rcases e with e|e|e
  ·exact absurd e (by decide)
  ·rw[hl3'.out] at e;exact absurd e (by decide)
  ·exact absurd (hlK.symm.trans e) (by decide)
 have hlG:G.sp.length=2:=by rw[←nK,hG.spl,nK,hl3'.out]
 have hr5:=ho5.rd
 have hbr5:=ae hbr4 hb5
 obtain⟨P0,hP0⟩:∃P,G.sp[0]?=some P:=⟨_,List.getElem?_eq_getElem (by omega)⟩
 obtain⟨P1,hP1⟩:∃P,G.sp[1]?=some P:=⟨_,List.getElem?_eq_getElem (by omega)⟩
 have v0:P0.lv=false:=by
  have:=hG.sp 0 rfl
  rw[jJ hP0] at this
  exact congrArg Sp.lv this
 have v1:P1.lv=true:=by
  have:=(hG.spo 1 (by decide)).1
  rw[jJ hP1] at this
  exact this.trans hF'.out.spq.1
 have hPs:=Lib.hid (And.intro hP0 (And.intro hP1 (And.intro v0 v1)))
 have hlG':=Lib.hid hlG
 clear hc bx4 hr4 hbr4 hb5 ho5 hG hP0 hP1 v0 v1 hlG hlK
 go_wp2_with (refine aD rfl _ _ _ rfl (bM G) rfl rfl rfl machine_size (eF _) ?_)
 intro w6 hb6 bx6
 have hr6:=hr5.below hb6
 have hbr6:=ae hbr5 hb6
 have hc:=bx6.cell
 unfold bM at hc
 rw[hlG'.out] at hc
 obtain⟨b0,o0,P0',ha0,hq0,hd0⟩:=lC hr6.sp.rd 0 (by rw[hlG'.out];decide)
 obtain rfl:P0' = P0:=by rw[hPs.out.1] at hq0;exact (Option.some.inj hq0).symm
 obtain⟨b1,o1,P1',ha1,hq1,hd1⟩:=lC hr6.sp.rd 1 (by rw[hlG'.out];decide)
 obtain rfl:P1' = P1:=by rw[hPs.out.2.1] at hq1;exact (Option.some.inj hq1).symm
 rw[ha0] at ha1
 cases ha1
 rw[ha0] at hc
 have c0:w6.cell? ⟨b0,o0,none⟩=some (.bool false):=by
  obtain⟨b',o',e,hcc⟩:=hd0 0 _ rfl
  cases e
  rw[←hPs.out.2.2.1]
  simpa using hcc
 have c1:w6.cell? ⟨b0,o0+10,none⟩=some (.bool true):=by
  obtain⟨b',o',e,hcc⟩:=hd1 0 _ rfl
  cases e
  rw[←hPs.out.2.2.2]
  simpa using hcc
 clear hr5 hbr5 hb6 hq0 hq1 hd0 hd1 ha0 hr6 bx6
 go_wp2
 go_ret
 exact⟨rfl,hbr6⟩
theorem ET {m y:Ma} (hm:Rt m) (hy:Rt y) (hca:y.ca=m.ca) (hl:y.m.fs.length=m.m.fs.length) (hsl:y.sl.length=m.sl.length)
  (he:∀q n,(ent y q n).k=(ent m q n).k∧((ent m q n).k≠0→(ent y q n).n=(ent m q n).n)):iE y.m.fs=iE m.m.fs∧kM y.sl=kM m.sl:=by
 have hold:∀(kd i:Int),kd≠0→(bP y kd i=0↔bP m kd i=0):=fun kd i hk=>by
  have h1:=iL (m:=y) (i:=i) hk
  have h2:=iL (m:=m) (i:=i) hk
  have h3:(∃p n,p<y.sp.length∧(0≤n∧n<64)∧(ent y p n).k=kd∧(ent y p n).n=i)↔∃p n,p<m.sp.length∧(0≤n∧n<64)∧(ent m p n).k=kd∧(ent m p n).n=i:=by
   constructor
   ·rintro⟨p,n,_,hn,e1,e2⟩
    have hk' : (ent m p n).k=kd:=by rw[←(he p n).1];exact e1
    exact⟨p,n,(jC (by rw[hk'];exact hk)).1,hn,hk',by rw[←(he p n).2 (by rw[hk'];exact hk)];exact e2⟩
   ·rintro⟨p,n,_,hn,e1,e2⟩
    have hk' : (ent y p n).k=kd:=by rw[(he p n).1];exact e1
    exact⟨p,n,(jC (by rw[hk'];exact hk)).1,hn,hk',by rw[(he p n).2 (by rw[e1];exact hk)];exact e2⟩
  have h4:=h1.trans (h3.trans h2.symm)
  omega
 have hcan:∀i,qM y i=qM m i:=fun i=>by unfold qM;rw[hca]
 refine⟨uE _ hl fun i h1 h2 => ?_,uE _ hsl fun i h1 h2 => ?_⟩
 ·have a1:=hm.cf i h1
  have a2:=hy.cf i h2
  rw[Dy h1] at a1
  rw[Dy h2,hcan] at a2
  have a3:=hold 1 i (by decide)
  have a4:(y.m.fs[i].r=0)↔(m.m.fs[i].r=0):=by omega
  simp only[a4]
 ·have a1:=hm.cs i h1
  have a2:=hy.cs i h2
  rw[Es h1] at a1
  rw[Es h2] at a2
  have a3:=hold 2 i (by decide)
  have a4:(y.sl[i]=0)↔(m.sl[i]=0):=by omega
  simp only[a4]
theorem yF {m:Ma} {q:Nat} (h:JO m q):(bI m q).lv=false:=by
 rcases h with ⟨e,_⟩|⟨_,e⟩
 ·rw[iT (by omega)];rfl
 ·exact e
theorem FX {m x y:Ma} {p q:Nat} (hm:Rt m) (hq:JO m q) (hF:Forked m x p q) (hG:Gone x y q):iE y.m.fs=iE m.m.fs∧kM y.sl=kM m.sl:=
 ET hm hG.rt (hG.ca.trans hF.ca) (hG.len.trans hF.len) (hG.sll.trans hF.sll) fun a n=>by
  by_cases e:a=q
  ·have h1:ent y a n=zEn:=by unfold ent;rw[hG.sp a e];exact KT rfl n
   have h0:(ent m a n).k=0:=by rw[e];exact (hm.live q (yF hq)).2 n
   rw[h1,h0]
   exact⟨rfl,fun h=>absurd rfl h⟩
  ·rw[(hG.spo a e).2.2 n]
   have:=hF.oth a n e
   exact⟨this.1,fun _=>this.2⟩
theorem Iy {m x y:Ma} {p q:Nat} (hF:Forked m x p q) (hG:Gone x y q) (hp:p≠q) (n:Int):fO y p n=fO m p n:=
 (hG.see p n hp).trans (xY hF.st hF.dk hF.sw hF.ca (fun g=>⟨(hF.fr g).1,(hF.fr g).2.2.2.1⟩) (hF.spo p hp).2 (hF.oth p n hp))
def Lc (e:Int):UInt8:=UInt8.ofNat (e%256).toNat
def Iz (m:Ma) (p n:Nat):List UInt8:=[UInt8.ofNat n,Lc (fO m p n).2.2]++(fO m p n).1.toList++if (fO m p n).2.1=true then [121] else []
def gz (m:Ma) (p:Nat):Nat→List UInt8
 | 0=>[]
 | n+1=>gz m p n++Iz m p n
theorem qK {m m' : Ma} {p:Nat} (h:∀n:Int,fO m' p n=fO m p n):∀n,gz m' p n=gz m p n
 | 0=>rfl
 | n+1=>by
  unfold gz Iz
  rw[qK h n,h]
def nH (m:Ma) (f:Int) (n:Nat):List UInt8:=(List.range n).map fun j=>(aX m f (j / 8:Nat)).toList.getD (j%8) 0
theorem JI (X:Page) (q:Nat) (hq:q<8):(dO X).getD q (.int .u8 0)=kK (X.toList.getD q 0):=by
 rw[Array.getD_eq_getD_getElem?,uR X q hq,List.getD_eq_getElem?_getD,List.getElem?_eq_getElem (by simpa using hq)]
 simp[kK]
theorem Bh (m:Ma) (f:Int) (n:Nat):oM m f n=(nH m f n).map kK:=by
 unfold oM nH
 rw[List.map_map]
 exact List.map_congr_left fun j _=>JI _ _ (Nat.mod_lt _ (by decide))
theorem CE (m:Ma) (f:Int) (n:Nat):(nH m f n).length=n:=by unfold nH;simp
theorem yZ {m:Ma} (h:Rt m) {f:Nat} (hf:f<m.st.fs.length):0≤(fileAt m.st f).n∧(fileAt m.st f).n≤(fileAt m.st f).b.length*8:=by
 have h1:=rz h.pt.st _ (List.mem_of_getElem? (Bo (s:=m.st) (f:=f) ⟨by omega,by omega⟩))
 have h2:=h1.2.2.1
 unfold dh at h2
 refine⟨h1.1,?_⟩
 have:=h1.1
 split at h2<;>omega
theorem Cs {m k:Ma} {p:Nat} (hm:Rt m) (hG:Gone m k p) {f:Nat} (hf:f<m.st.fs.length):nH k f (fileAt k.st f).n.toNat=nH m f (fileAt m.st f).n.toNat:=by
 rw[hG.st]
 obtain⟨h1,h2⟩:=yZ hm hf
 unfold nH
 refine List.map_congr_left fun j hj => ?_
 have hj':=List.mem_range.1 hj
 rw[hG.con f ((j / 8:Nat):Int) ⟨⟨by omega,by omega⟩,by omega,by omega⟩]
end Go.Proofs.Ytkjobhcnlppcnaa
namespace Pw
open Go Go.RowKit
theorem BZ {P:Program} {ops:Array Oper} {Q:Exit→Act→World→Prop} {t0:Array Value} {df:List Deferred} {w0:World} (m:Nat) (l:List RV) (J:(Nat→Bool)→(Nat→Value)→World→Prop) (hst:∀L y w w',Below w.heap.size w w'→J L y w→J L y w') (hJ0:∀y,J (fun _=>false) y w0)
  (hstep:aM (gU P ops ⟨t0,df⟩ J (rvs l)) 0 (ops.toList.take m)) {tm:(Nat→Value)→List Value} {rest:List Oper} (hf:∀y,qc y l ops.toList t0.toList=some (tm y)) (hd:wr (ops.toList.drop m)=some rest)
  (hend:∀y w,J (fun i=>decide (i<m)) y w→(∀i,i<m→rl (rvs l) i (y i) w)→wpList P ops Q rest ⟨(tm y).toArray,df⟩ w)
  (hfix:Fixed (rvs l):=by repeat (first | exact fix_nil | refine wS (fun _ _ _ h=>h) ?_))
  (hok:fo ops=true:=by kernel_rfl) (ht:ed ops m=true:=by kernel_rfl) (hmn:m≤ops.size:=by exact Nat.le_of_ble_eq_true (by kernel_rfl)) (hll:l.length=m:=by rfl) (hix:idxOk l 0=true:=by kernel_rfl)
  (hsz:fI ops t0.size=true:=by kernel_rfl):wpAny P .any ops Q ops.size (Array.replicate ops.size false) ⟨t0,df⟩ { w0 with drawn:=w0.drawn+1 }:=by
 refine tu m (rvs l) J hst hJ0 hfix hok ht hmn _ rfl hsz hstep fun y w hb hR => ?_
 have h:=hend y w hb hR
 rw[Bn hd]
 have e:=nC (m:=m) (y:=y) (w:=w) l ops.toList 0 t0 hix (by omega) (by simp;omega) fun i hi=>by rw[Nat.zero_add];exact hR i (by omega)
 show wpList P ops Q rest ⟨lay (fun i=>decide (i<m)) y ops.toList 0 t0,df⟩ w
 have e2:=Option.some.inj (e.symm.trans (hf y))
 have e3:lay (fun i=>decide (i<m)) y ops.toList 0 t0=(tm y).toArray:=by rw[←e2]
 rw[e3]
 exact h
end Pw
namespace Go.Proofs.Ytkjobhcnlppcnaa
open Go.RowKit Go.Maps Pw
def Gg (W0:World) (B:Nat) (ks:List (Nat × Array Value × TypeId)) (u:Value) (k:Nat) (old xs ys:List Value):(Nat→Bool)→(Nat→Value)→World→Prop:=fun L y W=>
 (Below B W0 W∧B≤W.heap.size∧∀t∈ks,aB W t.1 t.2.1 t.2.2)∧(L 8=true→L 6=true)∧(L 6=false→Own W B 5 1 u k old) ∧
 (L 5=true→L 6=false→∃a c,y 5 = .slice a 2 c∧lM W a c 2 xs) ∧
 (L 6=true→L 8=false→Own W B 5 1 (y 6) (k+2) (old++xs)) ∧
 (L 8=true→Own W B 5 1 (y 8) (k+2+8) ((old++xs)++ys))
theorem oo {W0:World} {B:Nat} {ks:List (Nat × Array Value × TypeId)} {u:Value} {k:Nat} {old xs ys:List Value}:∀L y W W',Below W.heap.size W W'→Gg W0 B ks u k old xs ys L y W→Gg W0 B ks u k old xs ys L y W':=
 fun _ _ _ _ hb ⟨h1,h2,h3,h4,h5,h6⟩=>⟨⟨h1.1.trans (hb.mono h1.2.1),Nat.le_trans h1.2.1 hb.size,fun t ht=>(h1.2.2 t ht).ext hb⟩,h2,fun e=>(h3 e).below hb,fun e1 e2=>by
  obtain⟨a,e,k1,k2⟩:=h4 e1 e2
  exact⟨a,e,k1,k2.below hb⟩,fun a b=>(h5 a b).below hb,fun a=>(h6 a).below hb⟩
theorem MQ {W0:World} {B:Nat} {ks:List (Nat × Array Value × TypeId)} {u:Value} {k:Nat} {old xs ys:List Value} (hB:B≤W0.heap.size) (hk:∀t∈ks,aB W0 t.1 t.2.1 t.2.2) (ho:Own W0 B 5 1 u k old) (y:Nat→Value):Gg W0 B ks u k old xs ys (fun _=>false) y W0:=
 ⟨⟨Below.refl _ _,hB,hk⟩,fun e=>(by cases e),fun _=>ho,fun e=>(by cases e),fun e=>(by cases e),fun e=>(by cases e)⟩
theorem ug {W0 W:World} {B:Nat} {ks:List (Nat × Array Value × TypeId)} {u:Value} {k:Nat} {old xs ys:List Value} {L:Nat→Bool} {y:Nat→Value} {i:Nat} {v:Value} (hi:i≠5∧i≠6∧i≠8) (h:Gg W0 B ks u k old xs ys L y W):Gg W0 B ks u k old xs ys (bH L i) (bV y i v) W:=by
 obtain⟨h1,h2,h3,h4,h5,h6⟩:=h
 have e5:bH L i 5=L 5:=by unfold bH;rw[if_neg (fun e=>hi.1 e.symm)]
 have e6:bH L i 6=L 6:=by unfold bH;rw[if_neg (fun e=>hi.2.1 e.symm)]
 have e8:bH L i 8=L 8:=by unfold bH;rw[if_neg (fun e=>hi.2.2 e.symm)]
 have y5:bV y i v 5=y 5:=by unfold bV;rw[if_neg (fun e=>hi.1 e.symm)]
 have y6:bV y i v 6=y 6:=by unfold bV;rw[if_neg (fun e=>hi.2.1 e.symm)]
 have y8:bV y i v 8=y 8:=by unfold bV;rw[if_neg (fun e=>hi.2.2 e.symm)]
 exact⟨h1,by rw[e6,e8];exact h2,by rw[e6];exact h3,by rw[e5,e6,y5];exact h4,by rw[e6,e8,y6];exact h5,by rw[e8,y8];exact h6⟩
theorem MK {W0 W W' : World} {B:Nat} {ks:List (Nat × Array Value × TypeId)} {u:Value} {k:Nat} {old xs ys:List Value} {L:Nat→Bool} {y:Nat→Value} {a:Option Addr} {c:Nat} (hb:Below W.heap.size W W') (h:Gg W0 B ks u k old xs ys L y W) (hr:lM W' a c 2 xs):Gg W0 B ks u k old xs ys (bH L 5) (bV y 5 (.slice a 2 c)) W':=by
 obtain⟨h1,h2,h3,h4,h5,h6⟩:=oo _ _ _ _ hb h
 exact⟨h1,h2,h3,fun _ _=>⟨a,c,rfl,hr⟩,h5,h6⟩
theorem Hm {W W' : World} {B e n:Nat} {ks:List (Nat × Array Value × TypeId)} {v:Value} {xs:List Value} (hks:∀t∈ks,t.2.2≠e) (ho:Own W B e 1 v n xs) (hk:∀t∈ks,aB W t.1 t.2.1 t.2.2) (hg:W.grownBy W' v.ownBlock):∀t∈ks,aB W' t.1 t.2.1 t.2.2:=fun t ht=>(hk t ht).grown hg fun e'=>by
 rcases ho.2 with ⟨e1,_⟩|⟨g2,off,cap,cur,e1,_,hb,_⟩
 ·rw[e1] at e'; cases e'
 ·rw[e1] at e'; cases e'; exact tO hb (hk t ht) (hks t ht)
theorem MP {W0 W W' : World} {B:Nat} {ks:List (Nat × Array Value × TypeId)} {u:Value} {k:Nat} {old xs ys:List Value} {L:Nat→Bool} {y:Nat→Value} {v:Value} (hks:∀t∈ks,t.2.2≠5) (hi:L 6=false) (h:Gg W0 B ks u k old xs ys L y W) (hg:W.grownBy W' u.ownBlock) (ho:Own W' B 5 1 v (k+2) (old++xs)):Gg W0 B ks u k old xs ys (bH L 6) (bV y 6 v) W':=by
 obtain⟨h1,h2,h3,h4,h5,h6⟩:=h
 have h8:L 8=false:=by
  cases e:L 8 with
  | false=>rfl
  | true=>rw[h2 e] at hi;cases hi
 have hu:=h3 hi
 exact⟨⟨h1.1.grown hg h1.2.1 hu.ge,Nat.le_trans h1.2.1 hg.size,Hm hks hu h1.2.2 hg⟩,fun _=>rfl,fun e=>(by cases e),fun _ e=>(by cases e),fun _ _=>ho,fun e=>(by rw[show bH L 6 8=L 8 from rfl,h8] at e;cases e)⟩
theorem Nb {W0 W W' : World} {B:Nat} {ks:List (Nat × Array Value × TypeId)} {u:Value} {k:Nat} {old xs ys:List Value} {L:Nat→Bool} {y:Nat→Value} {v:Value} (hks:∀t∈ks,t.2.2≠5) (h6' : L 6=true) (hi:L 8=false) (h:Gg W0 B ks u k old xs ys L y W) (hg:W.grownBy W' (y 6).ownBlock) (ho:Own W' B 5 1 v (k+2+8) ((old++xs)++ys)):Gg W0 B ks u k old xs ys (bH L 8) (bV y 8 v) W':=by
 obtain⟨h1,h2,h3,h4,h5,h6⟩:=h
 have hu:=h5 h6' hi
 exact⟨⟨h1.1.grown hg h1.2.1 hu.ge,Nat.le_trans h1.2.1 hg.size,Hm hks hu h1.2.2 hg⟩,fun _=>h6',fun e=>(by rw[show bH L 8 6=L 6 from rfl,h6'] at e;cases e),fun _ e=>(by rw[show bH L 8 6=L 6 from rfl,h6'] at e;cases e),fun _ e=>(by cases e),fun _=>ho⟩
theorem EG {ρ:Operand→Value} {o:Oper} {w:World} {x:Operand} {b off:Nat} (ho:o.op = .slice 50 x none none none) (hx:ρ x = .pointer (some ⟨b,off,none⟩)) :
  (execOp ρ o).run Try.prog w = .ok (.value (.slice (some ⟨b,off,none⟩) 8 8)) w:=by
 simp[execOp,ho,hx,Instr.sliceAt,run_underlying Try.underlying50,go_sem]
theorem Dq (e:Int):IntKind.u8.wrap e=e%256:=IntKind.wrap_u8 e
theorem JR (n:Nat):kK (UInt8.ofNat n) = .int .u8 ((n:Int)%256):=by
 unfold kK
 rw[UInt8.toNat_ofNat']
 rfl
theorem KG (e:Int):kK (Lc e) = .int .u8 (e%256):=by
 unfold kK Lc
 have h1:0≤e%256:=Int.emod_nonneg _ (by decide)
 have h2:e%256<256:=Int.emod_lt_of_pos _ (by decide)
 rw[UInt8.toNat_ofNat',Nat.mod_eq_of_lt (by omega),Int.toNat_of_nonneg h1]
theorem Mj (P:Page):(dO P).toList=P.toList.map kK:=by
 obtain⟨⟨l⟩,h⟩:=P
 match l,h with
 | [a,b,c,d,e,f,g,i],_=>rfl
theorem si (H:MH) (p:Nat) (w:World) (h:qV w H) (hR:Rt H.ma) (hp:p<H.sp.length) :
  Calls Try.prog 26 #[.agg (bM H),.int .i64 p] w fun r w'=>r = .returned (.string ⟨(gz H.ma p 64).toArray⟩)∧Below w.heap.size w w':=by
 have hR':=Lib.hid hR
 clear hR
 go_enter Try.func26,Try.ntmps26
 go_upto_region 1 with (fail)
 refine eP (fun W=>Code.wp _ _ _ _ W) fun w1 hb1 bx1 hs1 => ?_
 have bx1:aB w1 w.heap.size (bM H) 40:=bx1
 clear hs1
 go_upto_region 3 with (fail)
 go_loopw [10,5] (fun i u wr => ∃(n:Nat) (k:Nat),n≤64∧k≤11*n∧i = .int .i64 n∧Below w.heap.size w wr∧aB wr w.heap.size (bM H) 40∧Own wr w.heap.size 5 1 u k ((gz H.ma p n).map kK)) (fun i _ _=>64-(intOf i).toNat)
 case atStart=>exact⟨0,0,by omega,by omega,rfl,hb1,bx1,Own.nil _ _ _ _⟩
 case round=>
  clear hb1 bx1
  obtain⟨n,k,hn,hk,rfl,hbr,bx,hown⟩:=hrel
  by_cases hn6:n<64
  ·have hni:(n:Int)<64:=by omega
   go_wp2_with (refine ak _ _ rfl w.heap.size 0 rfl rfl _ bx.rd _ Try.underlying40 rfl machine_size ?_)
   refine (Et H p n _ (h.below hbr) hR'.out hp hn6).mono ?_
   rintro r w3 ⟨rfl,hb3⟩
   have hbr3:=ae hbr hb3
   have bx3:=bx.ext hb3
   have hown3:=hown.below hb3
   have hSs:Hid (gz H.ma p (n+1)=gz H.ma p n++Iz H.ma p n):=Lib.hid rfl
   obtain⟨S,hS⟩:∃S,fO H.ma p n=S:=⟨_,rfl⟩
   have hSe:Hid (Iz H.ma p n=[UInt8.ofNat n,Lc S.2.2]++S.1.toList++if S.2.1=true then [121] else []):=Lib.hid (by unfold Iz;rw[hS])
   rw[hS]
   clear hS hown bx hb3 hbr
   obtain⟨X,own,e⟩:=S
   go_wp2_with (refine aD rfl _ _ _ rfl (dO X) rfl rfl rfl psize (dP X) ?_)
   intro w4 hb4 px4
   have hbr4:=ae hbr3 hb4
   have bx4:=bx3.ext hb4
   have hown4:=hown3.below hb4
   clear hbr3 bx3 hown3 hb4
   generalize w3.heap.size=gp at px4
   have hl:=hown4.1
   have hk0:Hid (k≤704):=Lib.hid (by omega)
   have hks:Hid (∀t∈[(w.heap.size,bM H,40),(gp,dO X,50)],t.2.2≠5):=Lib.hid fun t ht=>by
    rcases List.mem_cons.1 ht with rfl|ht
    ·show 40≠5;decide
    ·cases List.mem_singleton.1 ht;show 50≠5;decide
   go_upto_region 6 with (fail)
   refine DU 0 5 (u5) (by kernel_rfl) (by kernel_rfl) rfl fun ops0 hops0 => ?_
   simp only[freedL,sF] at hops0
   subst hops0
   refine BZ 9 [_,_,_,_,_,.r 5 ((aN fun _=>True)),.r 6 ((aN fun _=>True)),_,.r 8 ((aN fun _=>True))] (Gg w4 w.heap.size [(w.heap.size,bM H,40),(gp,dO X,50)] u5 k ((gz H.ma p n).map kK) ([UInt8.ofNat n,Lc e].map kK) (X.toList.map kK)) oo (fun y=>MQ hbr4.size (fun t ht=>by rcases List.mem_cons.1 ht with rfl | ht;exact bx4;cases List.mem_singleton.1 ht;exact px4) hown4 y) (Qk oo rfl (Qk oo rfl (Qr oo (.int .u8 ((n:Int)%256)) (fun ρ y W hKn=>(BK rfl (az rfl hKn) (by simp[convert,go_sem,Dq]))) rfl rfl (Qk oo rfl (Qr oo (.int .u8 (e%256)) (fun ρ y W hKn=>(BK rfl (az rfl hKn) (by simp[convert,go_sem,Dq]))) rfl rfl (all_cons ?_ (all_cons ?_ (Qr oo (.slice (some ⟨gp,0,none⟩) 8 8) (fun ρ y W hKn=>(EG rfl (az rfl hKn))) rfl rfl (all_cons ?_ (all_nil)) (fun _ _ _ _ hLd h=>ug (by decide) h)))) (fun _ _ _ _ hLd h=>ug (by decide) h)) (fun _ _ _ _ hLd h=>ug (by decide) h)) (fun _ _ _ _ hLd h=>ug (by decide) h)) (fun _ _ _ _ hLd h=>ug (by decide) h)) (fun _ _ _ _ hLd h=>ug (by decide) h)) (fun _=>rfl) rfl ?_
   ·intro ρ y W L hw hn hLi hLd hb hd;have E23:=hw 23 2 rfl;have h2:y 2=_:=hd 2 rfl;have E25:=hw 25 4 rfl;have h4:y 4=_:=hd 4 rfl
    refine bF (.slice (some ⟨W.heap.size,0,none⟩) 2 2) (ag rfl) ?_ (MK (W':=W.alloc (.cells #[.int .u8 ((n:Int)%256),.int .u8 (e%256)] 5)) ((Below.refl _ _).alloc (Nat.le_refl _) _) hb ⟨Nat.le_refl _,by unfold maxLen;omega,fun e=>(by cases e),by rw[List.map_cons,List.map_cons,List.map_nil,KG,JR];exact bZ.new _ _ _⟩) trivial
    simp[execOp,go_sem,E23.trans h2,E25.trans h4]
   ·intro ρ y W L hw hn hLi hLd hb hd;have E21:=hw 21 0 rfl;have h0:y 0=_:=hd 0 rfl;have E26:=hw 26 5 rfl;have h5:=hd 5 rfl
    obtain⟨a,c,hx1,hx2⟩:=hb.2.2.2.1 (hLd 5 rfl) hLi
    have hv:=hb.2.2.1 hLi
    refine dF (ag rfl) (gD _ _ _ rfl w.heap.size 5 _ 1 1 Try.underlying24 byte_info rfl (by decide) u5 k _ (E21.trans h0) hv a 2 c _ (E26.trans hx1) hx2.nl hx2.le rfl hx2.rd (fun u hu=>by simp[kK] at hu;rcases hu with rfl | rfl<;>rfl) (by unfold maxLen;have:=hk0.out;omega) (by have:=hk0.out;omega) hb.1.2.1) (fun v W1 h=>MP hks.out hLi hb h.2.1 h.1) (fun _ _ _=>trivial)
   ·intro ρ y W L hw hn hLi hLd hb hd;have E27:=hw 27 6 rfl;have h6:=hd 6 rfl;have E28:=hw 28 7 rfl;have h7:y 7=_:=hd 7 rfl
    have hv:=hb.2.2.2.2.1 (hLd 6 rfl) hLi
    refine dF (ag rfl) (gD _ _ _ rfl w.heap.size 5 _ 1 1 Try.underlying24 byte_info rfl (by decide) (y 6) (k+2) _ E27 hv (some ⟨gp,0,none⟩) 8 8 _ (E28.trans h7) (fun e=>(by cases e)) (Nat.le_refl _) (by simp) (by rw[←Mj];exact (hb.1.2.2 _ (.tail _ (.head _))).rd) (fun u hu=>by obtain⟨x,_,rfl⟩:=List.mem_map.1 hu;rfl) (by unfold maxLen;have:=hk0.out;omega) (by have:=hk0.out;omega) hb.1.2.1) (fun v W1 h=>Nb hks.out (hLd 6 rfl) hLi hb h.2.1 h.1) (fun _ _ _=>trivial)
   intro y W5 hbW5 hRW5
   have hy5:((aN fun _=>True)).r (y 5) W5:=hRW5 5 (by decide)
   have hy6:((aN fun _=>True)).r (y 6) W5:=hRW5 6 (by decide)
   have hy8:((aN fun _=>True)).r (y 8) W5:=hRW5 8 (by decide)
   clear hRW5
   obtain⟨⟨hq1,hq2,hq3⟩,_,_,_,_,hq6⟩:=hbW5
   have ho5:=hq6 rfl
   have bx5:aB W5 w.heap.size (bM H) 40:=hq3 _ (.head _)
   have hbr5:=wI hbr4 hq1
   clear hq1 hq2 hq3 hq6 hbr4 bx4 hown4 px4 hl
   generalize y 8=v5 at ho5
   cases own with
   | false=>
    have hfin:((gz H.ma p n).map kK++([UInt8.ofNat n,Lc e].map kK))++(X.toList.map kK)=(gz H.ma p (n+1)).map kK:=by
     rw[hSs.out,hSe.out];simp
    rw[hfin] at ho5
    clear hSs hSe hfin
    go_wp2
    go_roundw
    case rel=>exact⟨n+1,k+2+8,by omega,by omega,by go_num,hbr5,bx5,ho5⟩
    case measure=>simp[intOf];omega
   | true=>
    have hfin:(((gz H.ma p n).map kK++([UInt8.ofNat n,Lc e].map kK))++(X.toList.map kK))++[.int .u8 121]=(gz H.ma p (n+1)).map kK:=by
     rw[hSs.out,hSe.out];simp[kK]
    have hfin:=Lib.hid hfin
    clear hSs hSe
    generalize ((gz H.ma p n).map kK++([UInt8.ofNat n,Lc e].map kK))++(X.toList.map kK)=old at ho5 hfin
    go_wp2_with (first | (at_builtin;refine jc rfl _ _ 24 rfl w.heap.size 5 _ 1 1 Try.underlying24 byte_info rfl (by decide) v5 (k+2+8) old rfl (ho5.alloc _) (some ⟨W5.heap.size,0,none⟩) 1 1 [.int .u8 121] rfl (fun h=>(by cases h)) (Nat.le_refl _) rfl (bZ.new _ #[.int .u8 121] _) (fun u hu=>by simp at hu;subst hu;rfl) (by unfold maxLen;have:=hk0.out;omega) (by have:=hk0.out;omega) (by have:=hbr5.size;simp;omega) ?_))
    intro v w6 hown6 hg6 hso
    have hbr6:Below w.heap.size w w6:=(hbr5.alloc hbr5.size _).grown hg6 (cO hbr5.size _) (ho5.alloc (.cells #[.int .u8 121] 5)).ge
    have bx6:aB w6 w.heap.size (bM H) 40:=(bx5.alloc (.cells #[.int .u8 121] 5)).grown hg6 (fun e=>by
     rcases ho5.2 with ⟨e1,_⟩|⟨g2,off,cap,cur,e1,_,hb,_⟩
     ·rw[e1] at e;cases e
     ·rw[e1] at e;cases e;exact tO hb bx5 (by decide))
    rw[hfin.out] at hown6
    clear hfin hbr5 bx5 ho5 hg6 hso
    go_wp2
    go_roundw
    case rel=>exact⟨n+1,k+2+8+1,by omega,by omega,by go_num,hbr6,bx6,hown6⟩
    case measure=>simp[intOf];omega
  ·have hn64:n=64:=by omega
   have hni:¬(n:Int)<64:=by omega
   have hss:Hid (gz H.ma p n=gz H.ma p 64):=Lib.hid (by rw[hn64])
   clear hn hk hn6 hn64
   obtain⟨a,c,rfl,k1,k2,k3,k4⟩:=hown.rd
   have hlen:(gz H.ma p n).length=k:=by have:=hown.1;simpa using this
   have e1:=qD Try.underlying24 Try.underlying5 c k4 9 Try.underlying9
   rw[hlen] at e1
   clear k1 k2 k3 k4 hown hlen
   generalize gz H.ma p n=ss at e1 hss
   go_wp2
   go_ret
   exact⟨by rw[←hss.out];rfl,hbr⟩
theorem IK {P:Program} (w:World) (d:Nat) (t e:TypeId) (ht:P.underlying t=some (.array 2 e)) (he:P.underlying e=some (.int .i64)) (hsz:(P.info? e).map (·.size)=some 1) (a b:Int) :
  (Op.equalIn (d+2) t (.agg #[.int .i64 a,.int .i64 b]) (.agg #[.int .i64 a,.int .i64 b])).run P w = .ok true w:=by
 cases hq:P.info? e with
 | none=>simp[hq] at hsz
 | some i=>
 have hi:i.size=1:=by simpa[hq] using hsz
 unfold Op.equalIn
 simp only[Sem.run_bind,run_underlying ht,Result.andThen_ok,Go.sizeOf,typeInfo,run_program,hq,hi,Sem.run_pure]
 simp only[Std.Legacy.Range.forIn_eq_forIn_range',List.range',Std.Legacy.Range.size]
 have g0:∀(w:World),(part e #[.int .i64 a,.int .i64 b] 0).run P w = .ok (.int .i64 a) w:=fun w=>mF w e .i64 _ _ _ he rfl
 have g1:∀(w:World),(part e #[.int .i64 a,.int .i64 b] 1).run P w = .ok (.int .i64 b) w:=fun w=>mF w e .i64 _ _ _ he rfl
 have c:∀(x y:Int) (w:World),(Op.equalIn (d+1) e (.int .i64 x) (.int .i64 y)).run P w = .ok (x==y) w:=fun x y w=>run_equalIn_int w d e .i64 .i64 _ _ he
 simp[g0,g1,c]
theorem Nl (a b:Int) (W:World):(Op.equalIn 10000 77 (.agg #[.int .i64 a,.int .i64 b]) (.agg #[.int .i64 a,.int .i64 b])).run Try.prog W = .ok true W:=IK W 9998 _ _ Try.underlying77 Try.underlying3 int1_size a b
theorem zY (H:MH) (p:Nat):nM H p=(bI H.ma p).lv:=by
 unfold nM
 rw[if_pos (by omega),Int.toNat_natCast]
 cases h:H.sp[p]? with
 | none=>rw[iT (by rw[nK];exact List.getElem?_eq_none_iff.1 h)];rfl
 | some P=>rw[jJ h];rfl
theorem Fj {H:MH} {p:Int} (h:nP H p):nM H p=false:=by
 by_cases h0:0≤p
 ·obtain⟨q,rfl⟩:=Int.eq_ofNat_of_zero_le h0
  rw[zY]
  rcases h with e|e|e
  ·omega
  ·rw[iT (by rw[nK];omega)];rfl
  ·exact e
 ·unfold nM
  rw[if_neg h0]
theorem KH {H:MH} {p:Int} (h:¬nP H p):∃P:Nat,p=P∧P<H.sp.length∧(bI H.ma P).lv=true:=by
 unfold nP at h
 refine⟨p.toNat,by omega,by omega,?_⟩
 cases e:(bI H.ma p.toNat).lv with
 | true=>rfl
 | false=>exact absurd (.inr (.inr e)) h
theorem FT (cf cs cb:Int) (l:List UInt8) (al:Option Addr) (cl:Nat) (p:Int) (w:World) (hr:lM w al cl l.length (l.map kK)) :
  Calls Try.prog 7 #[.agg #[.int .i64 cf,.int .i64 cs,.int .i64 cb],.slice al l.length cl,.int .i64 p] w fun r w'=>r = .returned (.bool true)∧Below w.heap.size w w':=by
 go_enter Try.func7,Try.ntmps7
 go_upto_region 1 with (fail)
 refine eP (fun W=>Code.wp _ _ _ _ W) fun w1 hb1 cx1 hs1 => ?_
 have hr1:=hr.below hb1
 clear hr
 go_wp2_with fail
 refine (La w1).mono ?_
 rintro r w2 ⟨rfl,hb2⟩
 have hr2:=hr1.below hb2
 have cx2:=cx1.ext hb2
 have hbr2:=ae hb1 hb2
 clear hr1 cx1 hb1 hb2
 have hcc:=cx2.cell
 go_wp2_with fail
 refine (wo cf cs cb al cl l w2 hr2).mono ?_
 rintro r w3 ⟨H,rfl,ho,hb3,hRt,hCo,_,_,_,hsp2,_⟩
 have hbr3:=ae hbr2 hb3
 have hrd3:=ho.rd
 have hR:=Lib.hid hRt
 have hC:=Lib.hid hCo
 have hsp:=Lib.hid hsp2
 clear hr2 cx2 hcc hbr2 hb3 ho hRt hCo hsp2
 go_wp2_with (refine aD rfl _ _ _ rfl (bM H) rfl rfl rfl machine_size (eF _) ?_)
 intro w4 hb4 bx4
 have hrd4:=hrd3.below hb4
 have hbr4:=ae hbr3 hb4
 clear hrd3 hbr3 hb4
 generalize w3.heap.size=gm at bx4
 go_wp2_with (refine ak _ _ rfl gm 0 rfl rfl _ bx4.rd _ Try.underlying40 rfl machine_size ?_)
 refine (vO H p _ hrd4 hR.out hC.out).mono ?_
 rintro r w5 ⟨hb5,hcase⟩
 have bx5:=bx4.ext hb5
 have hrd5:=hrd4.below hb5
 have hbr5:=ae hbr4 hb5
 clear bx4 hrd4 hbr4 hb5
 rcases hcase with ⟨hbad,rfl⟩|⟨hnb,K,rfl,ho5,hG⟩
 ·have hl:=Lib.hid (Fj hbad)
  clear hbad
  go_wp2_with (refine aD rfl _ _ _ rfl (bM noH) rfl rfl rfl machine_size (eF _) ?_)
  intro w6 hb6 kx6
  have bx6:=bx5.ext hb6
  have hrd6:=hrd5.below hb6
  have hbr6:=ae hbr5 hb6
  clear bx5 hrd5 hbr5 hb6 kx6
  go_wp2_with (refine ak _ _ rfl gm 0 rfl rfl _ bx6.rd _ Try.underlying40 rfl machine_size ?_)
  refine (BA H p _ hrd6).mono ?_
  rintro r w7 ⟨rfl,hb7⟩
  rw[hl.out]
  have hbr7:=ae hbr6 hb7
  go_wp2
  go_ret
  exact⟨rfl,hbr7⟩
 obtain⟨P,rfl,hPl,hPv⟩:=KH hnb
 have hnb':=Lib.hid hnb
 have hG':=Lib.hid hG
 have hK:=Lib.hid hG.rt
 have hlK:Hid (nM K (P:Int)=false):=Lib.hid (by rw[zY,hG.sp P (Int.toNat_natCast P).symm];rfl)
 have hsl:Hid (K.sp.length=H.sp.length):=Lib.hid (by rw[←nK,hG.spl,nK])
 have hrK:=ho5.rd
 have hPv':=Lib.hid hPv
 clear hnb hG ho5 hPv
 go_wp2_with (refine aD rfl _ _ _ rfl (bM K) rfl rfl rfl machine_size (eF _) ?_)
 intro w6 hb6 kx6
 have bx6:=bx5.ext hb6
 have hrd6:=hrd5.below hb6
 have hrK6:=hrK.below hb6
 have hbr6:=ae hbr5 hb6
 clear bx5 hrd5 hrK hbr5 hb6
 generalize w5.heap.size=gk at kx6
 go_wp2_with (refine ak _ _ rfl gk 0 rfl rfl _ kx6.rd _ Try.underlying40 rfl machine_size ?_)
 refine (qL K _ hrK6 hK.out).mono ?_
 rintro r w7 ⟨rfl,hb7⟩
 have bx7:=bx6.ext hb7
 have kx7:=kx6.ext hb7
 have hrd7:=hrd6.below hb7
 have hrK7:=hrK6.below hb7
 have hbr7:=ae hbr6 hb7
 clear bx6 kx6 hrd6 hrK6 hbr6 hb7
 go_wp2_with (refine ak _ _ rfl gk 0 rfl rfl _ kx7.rd _ Try.underlying40 rfl machine_size ?_)
 refine (BA K P _ hrK7).mono ?_
 rintro r w8 ⟨rfl,hb8⟩
 rw[hlK.out]
 have bx8:=bx7.ext hb8
 have kx8:=kx7.ext hb8
 have hrd8:=hrd7.below hb8
 have hrK8:=hrK7.below hb8
 have hbr8:=ae hbr7 hb8
 clear bx7 kx7 hrd7 hrK7 hbr7 hb8
 have hc:=bx8.cell
 unfold bM at hc
 go_upto_region 10 with (fail)
 clear hc
 go_loopw [56] (fun i wr => ∃n:Nat,n≤H.sp.length∧i = .int .i64 n∧Below w.heap.size w wr∧aB wr gm (bM H) 40∧aB wr gk (bM K) 40∧qV wr H∧qV wr K) (fun i _=>H.sp.length-(intOf i).toNat)
 case atStart=>exact⟨0,by omega,rfl,hbr8,bx8,kx8,hrd8,hrK8⟩
 case round=>
  clear hbr8 bx8 kx8 hrd8 hrK8
  obtain⟨n,hn,rfl,hbr,bx,kx,hrd,hrK⟩:=hrel
  have hn2:H.sp.length≤2:=hsp.out.2
  by_cases hnl:n<H.sp.length
  ·have hni:(n:Int)<(H.sp.length:Int):=by omega
   go_upto_region 12 with (fail)
   by_cases hne:(n:Int)=(P:Int)
   ·skip
    refine aC 12 [_,_,_,_,_,_,_,_,_,_,_,.v (.bool false)] (Gk rfl (Gk rfl (Gb (.bool false) (by simp[go_sem,hne]) rfl rfl rfl rfl rfl (Gk rfl (Gk rfl (Gk rfl (Gk rfl (Gk rfl (Gk rfl (Gk rfl (Gk rfl (Gk rfl (all_nil))))))))))))) (fun _=>rfl) rfl ?_
    intro y W9 hbW9 _
    have bx9:=bx.ext hbW9
    have kx9:=kx.ext hbW9
    have hrd9:=hrd.below hbW9
    have hrK9:=hrK.below hbW9
    have hbr9:=ae hbr hbW9
    clear bx kx hrd hrK hbr hbW9
    go_wp2
    go_roundw
    case rel=>exact⟨n+1,by omega,by go_num,hbr9,bx9,kx9,hrd9,hrK9⟩
    case measure=>simp[intOf];omega
   ·have hs:Hid (gz K.ma n 64=gz H.ma n 64):=Lib.hid (qK (fun j=>hG'.out.see n j (by rw[Int.toNat_natCast];omega)) 64)
    refine aC 12 [_,_,_,_,_,_,.v (.string ⟨(gz H.ma n 64).toArray⟩),_,_,.v (.string ⟨(gz H.ma n 64).toArray⟩),_,.v (.bool false)] (Gk rfl (Gk rfl (Gb (.bool true) (by simp[go_sem,hne]) rfl rfl rfl rfl rfl (Gk rfl (Gr (.agg (bM H)) (fun ρ y W hb hKn=>(aS rfl (az rfl hKn) (bx.ext hb) Try.underlying40 rfl machine_size)) rfl rfl (Gk rfl (all_cons ?_ (Gr (.agg (bM K)) (fun ρ y W hb hKn=>(aS rfl (az rfl hKn) (kx.ext hb) Try.underlying40 rfl machine_size)) rfl rfl (Gk rfl (all_cons ?_ (Gb (.bool false) (by simp[go_sem]) rfl rfl rfl rfl rfl (Gk rfl (all_nil))))))))))))) (fun _=>rfl) rfl ?_
    ·intro ρ y W hw hn hb hd;have E63:=hw 63 4 rfl;have h4:y 4=_:=hd 4 rfl;have E64:=hw 64 5 rfl;have h5:y 5=_:=hd 5 rfl
     have EF:∀f,ρ (.func f) = .func (.func f) #[] #[]:=fun f=>hn (.func f) trivial
     refine aG _ _ (aJ 3 62 true true rfl rfl ((hw 62 3 rfl).trans (hd 3 rfl))) (aK rfl (EF _) Try.func26 (by kernel_rfl) (by kernel_rfl) (by simp only[List.map_toArray,List.map_cons,List.map_nil,E63,h4,E64,h5,EF];rfl)) ?_
     refine (si H n W (hrd.below hb) hR.out hnl).mono ?_
     rintro r w9 ⟨rfl,hb9⟩
     exact⟨_,rfl,hb9,rfl⟩
    ·intro ρ y W hw hn hb hd;have E66:=hw 66 7 rfl;have h7:y 7=_:=hd 7 rfl;have E67:=hw 67 8 rfl;have h8:y 8=_:=hd 8 rfl
     have EF:∀f,ρ (.func f) = .func (.func f) #[] #[]:=fun f=>hn (.func f) trivial
     refine aG _ _ (aJ 3 62 true true rfl rfl ((hw 62 3 rfl).trans (hd 3 rfl))) (aK rfl (EF _) Try.func26 (by kernel_rfl) (by kernel_rfl) (by simp only[List.map_toArray,List.map_cons,List.map_nil,E66,h7,E67,h8,EF];rfl)) ?_
     refine (si K n W (hrK.below hb) hK.out (by rw[hsl.out];exact hnl)).mono ?_
     rintro r w9 ⟨rfl,hb9⟩
     exact⟨_,rfl,hb9,by rw[hs.out];rfl⟩
    intro y W9 hbW9 _
    have bx9:=bx.ext hbW9
    have kx9:=kx.ext hbW9
    have hrd9:=hrd.below hbW9
    have hrK9:=hrK.below hbW9
    have hbr9:=ae hbr hbW9
    clear bx kx hrd hrK hbr hbW9
    go_wp2
    go_roundw
    case rel=>exact⟨n+1,by omega,by go_num,hbr9,bx9,kx9,hrd9,hrK9⟩
    case measure=>simp[intOf];omega
  ·have hni:¬(n:Int)<(H.sp.length:Int):=by omega
   clear hn hnl
   have hc:=bx.cell
   unfold bM at hc
   go_upto_region 16 with (fail)
   clear hc hni
   go_loopw [76] (fun i wr => ∃f:Nat,f≤H.fi.length∧i = .int .i64 f∧Below w.heap.size w wr∧aB wr gm (bM H) 40∧aB wr gk (bM K) 40∧qV wr H∧qV wr K) (fun i _=>H.fi.length-(intOf i).toNat)
   case atStart=>exact⟨0,by omega,rfl,hbr,bx,kx,hrd,hrK⟩
   case round=>
    clear hbr bx kx hrd hrK
    obtain⟨f,hf,rfl,hbr,bx,kx,hrd,hrK⟩:=hrel
    have hf5:H.fi.length≤5:=by
     have:=(ky hR.out.pt.st).1
     rwa [show H.ma.st.fs.length=H.fi.length from List.length_map _] at this
    by_cases hfl:f<H.fi.length
    ·have hfi:(f:Int)<(H.fi.length:Int):=by omega
     have hfs:f<H.ma.st.fs.length:=by rw[show H.ma.st.fs.length=H.fi.length from List.length_map _];exact hfl
     have hfK:Hid (f<K.fi.length∧f<K.ma.st.fs.length):=Lib.hid (by
      have e:=hG'.out.st
      have h2:f<K.ma.st.fs.length:=by rw[e];exact hfs
      exact⟨by rw[show K.ma.st.fs.length=K.fi.length from List.length_map _] at h2;exact h2,h2⟩)
     have hby:Hid (nH K.ma f (fileAt K.ma.st f).n.toNat=nH H.ma f (fileAt H.ma.st f).n.toNat):=Lib.hid (Cs hR.out hG'.out hfs)
     have hszH:=Lib.hid (yZ hR.out hfs)
     have hszK:=Lib.hid (yZ hK.out hfK.out.2)
     clear hfs
     go_wp2_with (refine ak _ _ rfl gm 0 rfl rfl _ bx.rd _ Try.underlying40 rfl machine_size ?_)
     refine (vQ H f _ hrd hR.out ⟨(jm hR.out).ca,(jm hR.out).st.2⟩ hR.out.ca.lt hfl hszH.out).mono ?_
     rintro r w9 ⟨v,rfl,hv,hb9⟩
     rw[Bh] at hv
     have bx9:=bx.ext hb9
     have kx9:=kx.ext hb9
     have hrd9:=hrd.below hb9
     have hrK9:=hrK.below hb9
     have hbr9:=ae hbr hb9
     clear bx kx hrd hrK hbr hb9
     obtain⟨a1,c1,rfl,k1,k2,k3,k4⟩:=hv.rd
     clear hv k1 k2 k3
     go_wp2_with (refine ak _ _ rfl gk 0 rfl rfl _ kx9.rd _ Try.underlying40 rfl machine_size ?_)
     refine (vQ K f _ hrK9 hK.out ⟨(jm hK.out).ca,(jm hK.out).st.2⟩ hK.out.ca.lt hfK.out.1 hszK.out).mono ?_
     rintro r w10 ⟨v,rfl,hv,hb10⟩
     rw[Bh,hby.out] at hv
     have bx10:=bx9.ext hb10
     have kx10:=kx9.ext hb10
     have hrd10:=hrd9.below hb10
     have hrK10:=hrK9.below hb10
     have hbr10:=ae hbr9 hb10
     have k4':=k4.below hb10
     clear bx9 kx9 hrd9 hrK9 hbr9 hb10 k4
     obtain⟨a2,c2,rfl,k1,k2,k3,k5⟩:=hv.rd
     clear hv k1 k2 k3
     have e1:=qD Try.underlying24 Try.underlying5 c1 k4' 9 Try.underlying9
     have e2:=qD Try.underlying24 Try.underlying5 c2 k5 9 Try.underlying9
     rw[CE] at e1 e2
     have e3:(fileAt K.ma.st f).n.toNat=(fileAt H.ma.st f).n.toNat:=by rw[hG'.out.st]
     rw[e3]
     clear k4' k5 e3
     go_wp2
     go_roundw
     case rel=>exact⟨f+1,by omega,by go_num,hbr10,bx10,kx10,hrd10,hrK10⟩
     case measure=>simp[intOf];omega
    ·have hfi:¬(f:Int)<(H.fi.length:Int):=by omega
     clear hf hfl
     go_wp2_with (refine ak _ _ rfl gm 0 rfl rfl _ bx.rd _ Try.underlying40 rfl machine_size ?_)
     refine (Ag H P _ hrd hR.out hC.out).mono ?_
     rintro r w11 ⟨hb11,hcase⟩
     have bx11:=bx.ext hb11
     have hrd11:=hrd.below hb11
     have hbr11:=ae hbr hb11
     clear bx kx hrd hrK hbr hb11
     rcases hcase with ⟨hbad,_⟩|⟨_,_,e4,_⟩|⟨_,X,q,hq,rfl,hoX,hF⟩
     ·exact absurd hbad hnb'.out
     ·have:=hsp.out;omega
     rw[Int.toNat_natCast] at hF
     have hPq:P≠q:=by
      rintro rfl
      have:=hPv'.out
      rw[yF hq] at this
      cases this
     have hq':=Lib.hid hq
     have hF':=Lib.hid hF
     have hnX:Hid (¬nP X (q:Int)):=Lib.hid (by
      have h1:=hF.spl
      rw[nK] at h1
      rintro (e|e|e)
      ·omega
      ·omega
      ·rw[Int.toNat_natCast,hF.spq.1] at e;cases e)
     have hrX:=hoX.rd
     clear hq hF hoX
     go_wp2_with (refine aD rfl _ _ _ rfl (bM X) rfl rfl rfl machine_size (eF _) ?_)
     intro w12 hb12 xx12
     have bx12:=bx11.ext hb12
     have hrd12:=hrd11.below hb12
     have hrX12:=hrX.below hb12
     have hbr12:=ae hbr11 hb12
     clear bx11 hrd11 hrX hbr11 hb12
     generalize w11.heap.size=gx at xx12
     go_wp2_with (refine ak _ _ rfl gx 0 rfl rfl _ xx12.rd _ Try.underlying40 rfl machine_size ?_)
     refine (vO X q _ hrX12 hF'.out.rt hF'.out.co).mono ?_
     rintro r w13 ⟨hb13,hcase⟩
     have bx13:=bx12.ext hb13
     have hrd13:=hrd12.below hb13
     have hbr13:=ae hbr12 hb13
     clear bx12 hrd12 hrX12 xx12 hbr12 hb13
     rcases hcase with ⟨hbad,_⟩|⟨_,Y,rfl,hoY,hY⟩
     ·exact absurd hbad hnX.out
     rw[Int.toNat_natCast] at hY
     have hYr:=Lib.hid hY.rt
     have hfr:Hid (iE Y.m.fs=iE H.m.fs∧kM Y.sl=kM H.sl):=Lib.hid (FX hR.out hq'.out hF'.out hY)
     have hse:Hid (gz Y.ma P 64=gz H.ma P 64):=Lib.hid (qK (Iy hF'.out hY hPq) 64)
     have hlY:Hid (P<Y.sp.length):=Lib.hid (by
      have h1:=hF'.out.spl
      rw[nK,nK] at h1
      rw[←nK,hY.spl,nK];omega)
     have hrY:=hoY.rd
     clear hY hoY hPq
     go_wp2_with (refine aD rfl _ _ _ rfl (bM Y) rfl rfl rfl machine_size (eF _) ?_)
     intro w14 hb14 yx14
     have bx14:=bx13.ext hb14
     have hrd14:=hrd13.below hb14
     have hrY14:=hrY.below hb14
     have hbr14:=ae hbr13 hb14
     clear bx13 hrd13 hrY hbr13 hb14
     generalize w13.heap.size=gy at yx14
     go_upto_region 27 with (fail)
     refine aC 19 [_,_,_,_,.v (.agg #[.int .i64 (iE H.m.fs:Int),.int .i64 (kM H.sl:Int)]),_,.v (.agg #[.int .i64 (iE H.m.fs:Int),.int .i64 (kM H.sl:Int)]),_,_,_,_,_,.v (.string ⟨(gz H.ma P 64).toArray⟩),_,_,.v (.string ⟨(gz H.ma P 64).toArray⟩),_,_,.v (.bool true)] (Gk rfl (Gb (.bool true) (by simp[go_sem]) rfl rfl rfl rfl rfl (Gk rfl (Gr (.agg (bM Y)) (fun ρ y W hb hKn=>(aS rfl (az rfl hKn) (yx14.ext hb) Try.underlying40 rfl machine_size)) rfl rfl (all_cons ?_ (Gr (.agg (bM H)) (fun ρ y W hb hKn=>(aS rfl (az rfl hKn) (bx14.ext hb) Try.underlying40 rfl machine_size)) rfl rfl (all_cons ?_ (Gb (.bool true) (by simp[go_sem,Nl]) rfl rfl rfl rfl rfl (Gk rfl (Gk rfl (Gr (.agg (bM Y)) (fun ρ y W hb hKn=>(aS rfl (az rfl hKn) (yx14.ext hb) Try.underlying40 rfl machine_size)) rfl rfl (Gk rfl (all_cons ?_ (Gr (.agg (bM H)) (fun ρ y W hb hKn=>(aS rfl (az rfl hKn) (bx14.ext hb) Try.underlying40 rfl machine_size)) rfl rfl (Gk rfl (all_cons ?_ (Gb (.bool true) (by simp[go_sem]) rfl rfl rfl rfl rfl (Gk rfl (Gk rfl (all_nil)))))))))))))))))))) (fun _=>rfl) rfl ?_
     ·intro ρ y W hw hn hb hd;have E115:=hw 115 3 rfl;have h3:y 3=_:=hd 3 rfl
      have EF:∀f,ρ (.func f) = .func (.func f) #[] #[]:=fun f=>hn (.func f) trivial
      refine aG _ _ (aJ 2 114 true true rfl rfl ((hw 114 2 rfl).trans (hd 2 rfl))) (aK rfl (EF _) Try.func23 (by kernel_rfl) (by kernel_rfl) (by simp only[List.map_toArray,List.map_cons,List.map_nil,E115,h3,EF];rfl)) ?_
      refine (vR Y W (hrY14.below hb) (jm hYr.out)).mono ?_
      rintro r w9 ⟨rfl,hb9⟩
      exact⟨_,rfl,hb9,by rw[hfr.out.1,hfr.out.2];rfl⟩
     ·intro ρ y W hw hn hb hd;have E117:=hw 117 5 rfl;have h5:y 5=_:=hd 5 rfl
      have EF:∀f,ρ (.func f) = .func (.func f) #[] #[]:=fun f=>hn (.func f) trivial
      refine aG _ _ (aJ 2 114 true true rfl rfl ((hw 114 2 rfl).trans (hd 2 rfl))) (aK rfl (EF _) Try.func23 (by kernel_rfl) (by kernel_rfl) (by simp only[List.map_toArray,List.map_cons,List.map_nil,E117,h5,EF];rfl)) ?_
      refine (vR H W (hrd14.below hb) (jm hR.out)).mono ?_
      rintro r w9 ⟨rfl,hb9⟩
      exact⟨_,rfl,hb9,rfl⟩
     ·intro ρ y W hw hn hb hd;have E122:=hw 122 10 rfl;have h10:y 10=_:=hd 10 rfl;have E123:=hw 123 11 rfl;have h11:y 11=_:=hd 11 rfl
      have EF:∀f,ρ (.func f) = .func (.func f) #[] #[]:=fun f=>hn (.func f) trivial
      refine aG _ _ (aJ 9 121 true true rfl rfl ((hw 121 9 rfl).trans (hd 9 rfl))) (aK rfl (EF _) Try.func26 (by kernel_rfl) (by kernel_rfl) (by simp only[List.map_toArray,List.map_cons,List.map_nil,E122,h10,E123,h11,EF];rfl)) ?_
      refine (si Y P W (hrY14.below hb) hYr.out hlY.out).mono ?_
      rintro r w9 ⟨rfl,hb9⟩
      exact⟨_,rfl,hb9,by rw[hse.out];rfl⟩
     ·intro ρ y W hw hn hb hd;have E125:=hw 125 13 rfl;have h13:y 13=_:=hd 13 rfl;have E126:=hw 126 14 rfl;have h14:y 14=_:=hd 14 rfl
      have EF:∀f,ρ (.func f) = .func (.func f) #[] #[]:=fun f=>hn (.func f) trivial
      refine aG _ _ (aJ 9 121 true true rfl rfl ((hw 121 9 rfl).trans (hd 9 rfl))) (aK rfl (EF _) Try.func26 (by kernel_rfl) (by kernel_rfl) (by simp only[List.map_toArray,List.map_cons,List.map_nil,E125,h13,E126,h14,EF];rfl)) ?_
      refine (si H P W (hrd14.below hb) hR.out hPl).mono ?_
      rintro r w9 ⟨rfl,hb9⟩
      exact⟨_,rfl,hb9,rfl⟩
     intro y W9 hbW9 _
     go_wp2
     go_ret
     exact⟨rfl,ae hbr14 hbW9⟩
open Go.ChangeShapes Go.WideShapes Go.ChangeAt
theorem opens_cfg:qR Try.prog 23 (fun x:Int × Int × Int=>[.int .i64 x.1,.int .i64 x.2.1,.int .i64 x.2.2]) (fun _ x=>i64 x.1∧i64 x.2.1∧i64 x.2.2):=
 (zN Try.underlying23 (lK rfl 1 rfl (by kernel_rfl) (sV Try.underlying3).w (lK rfl 2 rfl (by kernel_rfl) (sV Try.underlying3).w (lK rfl 3 rfl (by kernel_rfl) (sV Try.underlying3).w (xK (by kernel_rfl)))))).of (fun x=>(x.1,x.2.1,x.2.2.1)) (fun _=>rfl) (fun _ _ h=>⟨h.1,h.2.1,h.2.2.1⟩)
theorem Di {W:World} {base base' : Nat} {H:Type} {en:TypeId × Value→H} {spare:Nat→Bool} {held:Bool} {fuel:Nat} {v:Value} {x:DataW H × List MemPlace} (hv:Value.okWide Try.prog W .any base 23 v) (h:DataW.trod en Try.prog W base' spare held fuel 23 v.cells.toList=some x) :
  ∃f s b:Int,v = .agg #[.int .i64 f,.int .i64 s,.int .i64 b]∧i64 f∧i64 s∧i64 b:=by
 obtain⟨cs,rfl,_⟩:=okWide_struct Try.underlying23 hv
 obtain⟨⟨f,s,b⟩,hcs,g1,g2,g3⟩:=opens_cfg _ _ _ _ _ _ _ _ _ h
 refine⟨f,s,b,?_,g1,g2,g3⟩
 congr 1
 apply Array.ext'
 simpa[Value.cells] using hcs
end Go.Proofs.Ytkjobhcnlppcnaa