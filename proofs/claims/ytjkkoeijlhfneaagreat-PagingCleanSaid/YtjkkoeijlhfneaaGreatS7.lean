import Derived.Test.YtjkkoeijlhfneaaGreatS6
import Derived.BigRegion
import Derived.Deep.LoopGhost
set_option linter.unusedSimpArgs false
set_option linter.unusedVariables false
set_option maxHeartbeats 4000000
set_option maxRecDepth 100000
namespace Go.Proofs.YtjkkoeijlhfneaaGreat
open _root_.Go.Proofs.Tryz
open Go.RowKit Go.Maps Pw
variable {B b base base' c cb cq cv f fuel g gd gk i j k rx:Nat} {D:nT} {H H0 N:MH} {L spare:Nat → Bool} {T:TypeId} {W W' w w' w0 w1:World} {a ab aq av:Option Addr} {cs:Array Value} {held:Bool} {m:Ma} {ps:List PF} {v vb vq:Value} {y:Nat → Value}
theorem Ht (k:Kp) (p:Nat) (n:Int) (x:En):(iD k p n x).m.sp.length=k.m.sp.length:=by
 unfold iD;split
 ·exact oC
 ·rfl
theorem Hf (k:Kp) (p:Nat) (n:Int) (x:En):(iD k p n x).m.ca=k.m.ca:=by unfold iD;split<;>rfl
theorem HY (k:Kp) (p:Nat) (n:Int) (x:En):(iD k p n x).m.m=k.m.m:=by unfold iD;split<;>rfl
theorem Ii (k:Kp) (f n:Int):(gz k f n).m.sp=k.m.sp:=by unfold gz;split<;>rfl
theorem Jm (k:Kp) (f n:Int):(gz k f n).m.ca=k.m.ca:=by unfold gz;split<;>rfl
theorem Je (k:Kp) (f n:Int):(gz k f n).m.m.fs.length=k.m.m.fs.length:=by
 unfold gz;split
 ·rename_i h;show (jw k.m.m f n).fs.length=_;unfold jw;rw[if_pos h];exact List.length_set
 ·rfl
theorem Ia (k:Kp) (f n:Int):(lw k f n).m.sp=k.m.sp:=by unfold lw;split<;>rfl
theorem JL (k:Kp) (f n:Int):(lw k f n).m.ca=k.m.ca:=by unfold lw;split<;>rfl
theorem Jo (k:Kp) (f n:Int):(lw k f n).m.m=k.m.m:=by unfold lw;split<;>rfl
structure iy (k k' : Kp):Prop where
 sp:k'.m.sp.length=k.m.sp.length
 ca:k'.m.ca=k.m.ca
 fs:k'.m.m.fs.length=k.m.m.fs.length
theorem iy.refl (k:Kp):iy k k:=⟨rfl,rfl,rfl⟩
theorem iy.trans {a b c:Kp} (h:iy a b) (k:iy b c):iy a c:=⟨k.sp.trans h.sp,k.ca.trans h.ca,k.fs.trans h.fs⟩
theorem iy.enter (k:Kp) (p:Nat) (n:Int) (x:En):iy k (iD k p n x):=⟨Ht k p n x,Hf k p n x,by rw[HY]⟩
theorem iy.hold (k:Kp) (f n:Int):iy k (gz k f n):=⟨by rw[Ii],Jm k f n,Je k f n⟩
theorem iy.shold (k:Kp) (f n:Int):iy k (lw k f n):=⟨by rw[Ia],JL k f n,by rw[Jo]⟩
theorem iy.drop (k:Kp) (p:Nat) (n:Int):iy k (ni k p n):=by
 unfold ni
 simp only
 split
 ·exact (iy.hold _ _ _).trans (iy.enter _ _ _ _)
 ·split
  ·exact (iy.shold _ _ _).trans (iy.enter _ _ _ _)
  ·exact .refl _
theorem iy.drops:∀(l:List (Nat × Int)) (k:Kp),iy k (jD k l)
 | [],k => .refl k
 | u::l,k=>(iy.drop k u.1 u.2).trans (iy.drops l _)
theorem iy.swap (f n:Int) (k:Kp) (u:Nat × Int):iy k (Al f n k u):=(iy.hold _ _ _).trans (iy.enter _ _ _ _)
theorem iy.swaps (f n:Int):∀(l:List (Nat × Int)) (k:Kp),iy k (mX k f n l)
 | [],k => .refl k
 | u::l,k=>(iy.swap f n k u).trans (iy.swaps f n l _)
theorem iy.clean (k:Kp) (f:Nat):iy k (gN k f):=by
 unfold gN
 simp only
 split
 ·exact .refl _
 ·exact⟨rfl,rfl,List.length_set⟩
theorem DV (k:Kp) (l:List (Nat × Int)) (j:Nat) (h:j<l.length):jD k (l.take (j+1))=ni (jD k (l.take j)) l[j].1 l[j].2:=by
 unfold jD
 rw[List.take_add_one,List.getElem?_eq_getElem h,List.foldl_append];rfl
theorem Ep (k:Kp) (f n:Int) (l:List (Nat × Int)) (j:Nat) (h:j<l.length):mX k f n (l.take (j+1))=Al f n (mX k f n (l.take j)) l[j]:=by
 unfold mX
 rw[List.take_add_one,List.getElem?_eq_getElem h,List.foldl_append];rfl
theorem kD.stay (h:kD w B v ps) (hg:w.grownBy w' none):kD w' B v ps:=⟨iV h.own hg,fun k p hp=>iV (h.each k p hp) hg,h.apart⟩
theorem mD.stay {t:Tb} (h:mD w B cs t) (hg:w.grownBy w' none):mD w' B cs t:=
 ⟨h.sz,fun k hk=>by obtain⟨v,h1,h2⟩:=h.own k hk;exact⟨v,h1,iV h2 hg⟩,h.apart⟩
theorem jf.cache {e:Int} (h:jf w B b H e) (s:KS w0 b H0 w H) (hg:w.grownBy w1 (oB H.ac)) {l:List Cc} (ho:Own w1 B 106 3 (.slice a l.length c) l.length (l.flatMap je)) (hsn:oB a=oB H.ac∨∀g,oB a=some g→w0.heap.size≤g) :
  aD w1 b (pF H e) 96∧∀w2,aD w2 b (bq (pF H e) 9 [.slice a l.length c]) 96→w1.grownBy w2 (some b)→jf w2 B b { H with ac:=a,cc:=c,ca:=l } e∧KS w0 b H0 w2 { H with ac:=a,cc:=c,ca:=l }:=by
 have hK:aD w1 b (pF H e) 96:=by
  refine h.blk.grown hg fun e => ?_
  obtain⟨_,cs,hb⟩:=fT h.ma.ca e
  exact jB h.blk hb (by decide) rfl
 have hm:oL w1 B { H with ac:=a,cc:=c,ca:=l }:=by
  cases hac:oB H.ac with
  | none=>
   rw[hac] at hg
   exact⟨iV h.ma.fr hg,iV h.ma.sl hg,⟨iV h.ma.sw.b hg,iV h.ma.sw.q hg⟩,⟨iV h.ma.dk.b hg,iV h.ma.dk.q hg⟩,h.ma.st.stay hg,ho,iV h.ma.sp hg,fun q hq=>⟨iV (h.ma.ps q hq).1 hg,(h.ma.ps q hq).2.stay hg⟩,h.ma.c64⟩
  | some g=>
   rw[hac] at hg
   obtain⟨_,cs,hb⟩:=fT h.ma.ca hac
   exact⟨ak h.ma.fr hb (by decide) hg,ak h.ma.sl hb (by decide) hg,h.ma.sw.keep hb (by decide) (by decide) hg,h.ma.dk.keep hb (by decide) (by decide) hg,h.ma.st.keep hb (by decide) (by decide) hg,ho,ak h.ma.sp hb (by decide) hg,fun q hq=>⟨ak (h.ma.ps q hq).1 hb (by decide) hg,(h.ma.ps q hq).2.keep hb (by decide) hg⟩,h.ma.c64⟩
 have s1:KS w0 b H0 w1 H:=by
  cases hac:oB H.ac with
  | none=>
   rw[hac] at hg
   exact⟨hg.os.trans s.os,hg.tape.trans s.tape,hg.output.trans s.output,Nat.le_trans s.size hg.size,fun x hx hn=>(hg.block x (Nat.lt_of_lt_of_le hx s.size) (by simp)).trans (s.keep x hx hn),s.sn⟩
  | some g=>rw[hac] at hg;exact s.put hg (.inr (.inr (.inl hac))) fun x hx => .inl hx
 refine⟨hK,fun w2 hb hg2=>⟨⟨hb,h.ge,?_,h.tz⟩,s1.put hg2 (.inl rfl) fun x hx => ?_⟩⟩
 ·exact⟨ak hm.fr hK (by decide) hg2,ak hm.sl hK (by decide) hg2,hm.sw.keep hK (by decide) (by decide) hg2,hm.dk.keep hK (by decide) (by decide) hg2,hm.st.keep hK (by decide) (by decide) hg2,ak hm.ca hK (by decide) hg2,ak hm.sp hK (by decide) hg2,fun q hq=>⟨ak (hm.ps q hq).1 hK (by decide) hg2,(hm.ps q hq).2.keep hK (by decide) hg2⟩,hm.c64⟩
 ·rcases hx with hx|hx|hx|hx
  ·exact .inl (.inl hx)
  ·exact .inl (.inr (.inl hx))
  ·rcases hsn with e|e
   ·exact .inl (.inr (.inr (.inl (by rw[←e];exact hx))))
   ·exact .inr (e x hx)
  ·exact .inl (.inr (.inr (.inr hx)))
theorem IU {k:Kp} (h:fO k.m f=false):gN k f=k:=by
 unfold fO at h
 simp only[Bool.or_eq_false_iff,decide_eq_false_iff_not] at h
 unfold gN
 simp only
 rw[if_pos (.inr (.inr h.2))]
theorem FW (u:Nat × Int):(uC u).all (·.oneCell')=true:=by simp[uC,Value.oneCell']
theorem slca_size:(Tryz.prog.info? 38).map (·.size)=some 1:=by kernel_rfl
theorem Oz {l:List (Nat × Int)} (h:dA w a (l.flatMap uL)) (k:Nat) (hk:k<l.length):∃b off,a=some ⟨b,off,none⟩∧dA w (some ⟨b,off+k*2,none⟩) [.int .i64 l[k].1,.int .i64 l[k].2]:=kJ Pd (by decide) h k hk
theorem FO (H:MH) (e:Int) (f:Nat) (B b:Nat) (w:World) (h:jf w B b H e) (hf:f<H.m.fs.length) (hz:H.sp.length≤1000) (hz2:H.ca.length≤1000) :
  Calls Tryz.prog 90 #[.pointer (some ⟨b,0,none⟩),.int .i64 f] w fun r w'=>r = .returned (.bool (jF H.ma f))∧KR w B b H w' (dN ⟨H.ma,e⟩ f):=by
 obtain⟨g,off,cur,haf,hBg,hblk,hfit,hrd,hat,hbg,hset⟩:=h.frame hf
 generalize hx:aO H.ma f=x at *
 have hx':=Lib.hid hx
 clear hx hset hat
 have hc:=h.blk.cell
 unfold pF at hc
 rw[haf] at hc
 have hfi:(f:Int)<(H.m.fs.length:Int):=by omega
 go_enter func90,ntmps90
 go_wp2_with (first | (refine ay _ _ rfl g (off+f*13) rfl rfl _ hrd _ underlying81 rfl frame_size ?_) | (refine aL rfl _ _ _ rfl (uP x) rfl rfl rfl frame_size (qg x) ?_))
 intro w1 hb1 hx1
 have h1:=h.below hb1
 have s1:=(KS.refl w b H).below hb1
 have hkb1:¬kb b H w.heap.size:=fun hk=>by
  obtain⟨cs,T,hb,_⟩:=h.kb_T hk
  have:=hb.lt
  omega
 have hBs:=Lib.hid h.bs
 clear hc hrd hblk hfit hb1 hBg hbg haf h
 go_wp2_with fail
 refine (EW H e f B b _ h1 hz).mono ?_
 rintro r w2 ⟨v2,rfl,ho2,hb2⟩
 obtain⟨a2,c2,rfl,_⟩:=ho2.rd
 have h2:=h1.below hb2
 have s2:=s1.below hb2
 have hx2:=hx1.ext hb2
 have hlx:=hx1.lt
 clear h1 s1 hx1 hb2
 have hcx:=hx2.cell
 unfold uP at hcx
 by_cases hxf:0≤x.f
 ·go_wp2_with fail
  refine (xC H e f B b _ h2 hf).mono ?_
  rintro r w3 ⟨rfl,H3,e3,h3,s3,q3⟩
  have ho3:=s3.own h2 (ho2.mono (Nat.zero_le _)) (by decide)
  have hkb2:¬kb b H w.heap.size:=hkb1
  have hx3:=s3.blkN hx2 hkb2
  have hkb3:¬kb b H3 w.heap.size:=fun hk=>(s3.sn _ hk).elim hkb2 (fun hh=>by have:=hx2.lt;omega)
  have s03:=s2.trans s3
  have hl3:H3.sp.length=H.sp.length∧H3.ca=H.ca∧H3.m.fs.length=H.m.fs.length:=by
   have hq:=iy.clean ⟨H.ma,e⟩ f
   rw[←q3] at hq
   exact⟨by have:=hq.sp;simp only[BM] at this;exact this,hq.ca,hq.fs⟩
  have hx2lt:=hx2.lt
  clear hcx hx2 ho2 h2 s2 s3 hkb1 hkb2
  cases hcb:fO H.ma f with
  | false=>
   have hq:Hid (dN ⟨H.ma,e⟩ f=⟨H.ma,e⟩∧jF H.ma f=false):=Lib.hid (by
    unfold dN jF
    simp only[hx'.out]
    rw[if_pos hxf,if_pos hcb,if_pos hxf]
    exact⟨rfl,hcb⟩)
   rw[IU (k:=⟨H.ma,e⟩) hcb] at q3
   have hq3:=Lib.hid q3
   clear q3 hx3
   go_wp2
   go_ret
   rw[hq.out.1,hq.out.2]
   exact⟨rfl,_,_,h3,s03,hq3.out⟩
  | true=>
   have hu:Hid (aU H.ma f=aU H.ma f):=Lib.hid rfl
   have hlu:(aU H.ma f).length≤64000:=by
    have:=wQ H.ma f H.sp.length
    have e1:nD H.ma f H.sp.length=aU H.ma f:=by unfold nD aU;rw[BM]
    rw[e1] at this
    omega
   obtain⟨k3,hk3⟩:∃k,k=gN ⟨H.ma,e⟩ f:=⟨_,rfl⟩
   rw[←hk3] at q3
   have hp1:∀u∈aU H.ma f,u.1<H.sp.length:=fun u hu=>by have:=(mF.1 hu).1;rw[BM] at this;exact this
   have hq:Hid (jF H.ma f=true∧dN ⟨H.ma,e⟩ f=if JV (jD k3 (aU H.ma f)).m.ca x.f x.i=true then gz ⟨{ (jD k3 (aU H.ma f)).m with ca:=(jD k3 (aU H.ma f)).m.ca.eraseIdx (rR (jD k3 (aU H.ma f)).m.ca x.f x.i) },(jD k3 (aU H.ma f)).e⟩ f (-1) else jD k3 (aU H.ma f)):=Lib.hid (by
    unfold dN jF
    simp only[hx'.out]
    rw[if_pos hxf,if_pos hxf,if_neg (by rw[hcb];decide),hk3]
    exact⟨hcb,rfl⟩)
   generalize aU H.ma f=l at *
   have q3':=Lib.hid q3
   have hp1':=Lib.hid hp1
   clear q3 hcb hk3 hu hp1
   go_upto_region 7 with (fail)
   go_loopw [38] (fun s38 wr => ∃(j:Nat) (Hj:MH) (ej:Int),j≤l.length∧s38 = .int .i64 j∧jf wr B b Hj ej∧KS w b H wr Hj∧Hid (Kp.mk Hj.ma ej=jD k3 (l.take j))∧Own wr 0 193 2 (.slice a2 l.length c2) l.length (l.flatMap uL)∧aD wr w.heap.size (uP x) 81∧¬kb b Hj w.heap.size∧Hj.sp.length=H.sp.length∧Hj.ca=H.ca) (fun s38 _=>l.length-(intOf s38).toNat)
   case atStart=>exact⟨0,H3,e3,Nat.zero_le _,rfl,h3,s03,Lib.hid (by rw[q3'.out];rfl),ho3,hx3,hkb3,hl3.1,hl3.2.1⟩
   case round=>
    clear ho3 hx3 hkb3 h3 s03
    obtain⟨j,Hj,ej,hj,rfl,hj3,sj3,qj,hoj,hxj,hkbj,hlj,hcj⟩:=hrel
    by_cases hjl:j<l.length
    ·have hji:(j:Int)<(l.length:Int):=by omega
     obtain⟨_,_,e9,_,_,_,hrL⟩:=hoj.rd
     cases e9
     obtain⟨bl,ol,rfl,hrl⟩:=Oz hrL j hjl
     have hul:l[j].1<H.sp.length:=hp1'.out _ (List.getElem_mem hjl)
     go_wp2_with (first | (refine ay _ _ rfl bl (ol+j*2) rfl rfl _ hrl _ underlying193 rfl us_size ?_) | (refine aL rfl _ _ _ rfl (uC l[j]) rfl rfl rfl us_size (FW _) ?_))
     intro w5 hb5 hx5
     have h5:=hj3.below hb5
     have s5:=sj3.below hb5
     have ho5:=hoj.below hb5
     have hxb5:=hxj.ext hb5
     have hlx5:=hxb5.lt
     clear hj3 sj3 hoj hxj hrL hrl hb5
     have hc5:=hx5.cell
     unfold uC at hc5
     go_wp2_with fail
     refine (Ip Hj ej l[j].2 l[j].1 B b _ h5 (by rw[hlj];exact hul)).mono ?_
     rintro r w6 ⟨rfl,H6,e6,h6,s6,q6⟩
     have ho6:=s6.own h5 ho5 (by decide)
     have hx6:=s6.blkN hxb5 hkbj
     have hkb6:¬kb b H6 w.heap.size:=fun hk=>(s6.sn _ hk).elim hkbj (fun hh=>by omega)
     have s06:=s5.trans s6
     have hl6:H6.sp.length=H.sp.length∧H6.ca=H.ca:=by
      have hq:=iy.drop ⟨Hj.ma,ej⟩ l[j].1 l[j].2
      rw[←q6] at hq
      exact⟨by have:=hq.sp;simp only[BM] at this;rw[this,hlj],by have:=hq.ca;exact Eq.trans this hcj⟩
     have hq6:Hid (Kp.mk H6.ma e6=jD k3 (l.take (j+1))):=Lib.hid (by rw[DV k3 l j hjl,←qj.out];exact q6)
     clear q6 h5 s5 ho5 hxb5 hc5 hx5 s6
     go_wp2
     go_roundw
     case rel=>exact⟨j+1,H6,e6,by omega,by go_num,h6,s06,hq6,ho6,hx6,hkb6,hl6.1,hl6.2⟩
     case measure=>simp[intOf];omega
    ·have hji:¬(j:Int)<(l.length:Int):=by omega
     rw[List.take_of_length_le (by omega)] at qj
     clear hoj
     generalize hkd:jD k3 l=kd at *
     clear hkd
     have hcx:=hxj.cell
     unfold uP at hcx
     have hqj:=Lib.hid (show kd.m.ca=Hj.ca by rw[←qj.out];rfl)
     have hce:Hj.ca.length≤1000:=by rw[hcj];exact hz2
     clear hcj hlj
     go_wp2_with fail
     refine (Nl Hj ej x.f x.i B b _ hj3).mono ?_
     rintro r w5 ⟨rfl,hb5⟩
     have h5:=hj3.below hb5
     have s5:=sj3.below hb5
     clear hj3 sj3 hb5 hcx hxj
     cases hi:JV Hj.ca x.f x.i with
     | false=>
      have hq2:Hid (dN ⟨H.ma,e⟩ f=kd):=Lib.hid (by rw[hq.out.2,hqj.out,hi];rfl)
      generalize rR Hj.ca x.f x.i=k at *
      go_wp2
      go_ret
      rw[hq.out.1,hq2.out]
      exact⟨rfl,_,_,h5,s5,qj.out⟩
     | true=>
      have hq2:Hid (dN ⟨H.ma,e⟩ f=gz ⟨{ kd.m with ca:=Hj.ca.eraseIdx (rR Hj.ca x.f x.i) },kd.e⟩ f (-1)):=Lib.hid (by rw[hq.out.2,hqj.out,hi,if_pos rfl])
      obtain⟨c,hc,_,_⟩:=Mi hi
      have hkl:=(List.getElem?_eq_some_iff.1 hc).1
      clear hc hi
      generalize rR Hj.ca x.f x.i=k at *
      have hck:=h5.blk.cell
      unfold pF at hck
      have hki:(k:Int)+1≤1000:=by omega
      have hw1:IntKind.i64.wrap ((k:Int)+1)=(k:Int)+1:=IntWalk.i64_in _ (by omega)
      go_wp2_with fail
      refine (Dc Hj.ca k hkl Hj.ac Hj.cc B _ h5.ma.ca hce).mono ?_
      rintro r w6 ⟨rfl,ho6,hg6⟩
      have hlen:(Hj.ca.eraseIdx k).length=Hj.ca.length-1:=List.length_eraseIdx_of_lt hkl
      rw[←hlen] at ho6
      obtain⟨hK,hst⟩:=h5.cache s5 hg6 (a:=Hj.ac) (c:=Hj.cc) (l:=Hj.ca.eraseIdx k) ho6 (.inl rfl)
      rw[hlen] at hst
      clear hck h5 s5 ho6 hg6
      go_wp2_with (refine az rfl _ _ _ rfl b 9 _ [.slice Hj.ac (Hj.ca.length-1) Hj.cc] rfl rfl rfl _ _ hK (by show 9+1≤12;decide) slca_size (fun u hu=>by cases List.mem_singleton.1 hu;rfl) ?_)
      intro w7 hb7 hg7
      obtain⟨h7,s7⟩:=hst w7 hb7 hg7
      clear hst hK hb7 hg7
      go_wp2_with fail
      refine (uS _ ej f (-1) B b _ h7).mono ?_
      rintro r w8 ⟨rfl,hk8⟩
      go_wp2
      go_ret
      rw[hq.out.1,hq2.out,←qj.out]
      exact⟨rfl,KR.trans s7 hk8⟩
 ·have hcb2:=h2.blk.cell
  unfold pF at hcb2
  have hm:=h2.ma.rd.sl
  have hlu:(aU H.ma f).length≤64000:=by
   have:=wQ H.ma f H.sp.length
   have e1:nD H.ma f H.sp.length=aU H.ma f:=by unfold nD aU;rw[BM]
   rw[e1] at this
   omega
  have hp1:∀u∈aU H.ma f,u.1<H.sp.length:=fun u hu=>by have:=(mF.1 hu).1;rw[BM] at this;exact this
  have hqB:Hid (jF H.ma f=decide (fo H.sl (aU H.ma f).length=0)):=Lib.hid (by
   unfold jF;rw[hx'.out,if_neg hxf];rfl)
  have hqK:Hid (dN ⟨H.ma,e⟩ f=if fo H.sl (aU H.ma f).length≠0 then ⟨H.ma,e⟩ else mX ⟨{ H.ma with sl:=jy H.sl (aU H.ma f).length,sw:=bT H.sw (il H.sl (aU H.ma f).length) x.p },gW e (aH H.sw (il H.sl (aU H.ma f).length))⟩ f (il H.sl (aU H.ma f).length) (aU H.ma f)):=Lib.hid (by
   unfold dN;simp only[hx'.out];rw[if_neg hxf];rfl)
  generalize aU H.ma f=l at *
  have hp1':=Lib.hid hp1
  clear hp1
  go_wp2_with fail
  refine (Fg H.sl H.asl H.csl (l.length:Int) _ hm.le hm.nl hm.rd (by have:=hm.le;have:=hm.mx;unfold maxLen at this;omega)).mono ?_
  rintro r w3 ⟨v3,rfl,ho3,hb3⟩
  obtain⟨a3,c3,rfl,_⟩:=ho3.rd
  have k3:=h2.below hb3
  have s3:=s2.below hb3
  have kx3:=hx2.ext hb3
  have ho23:=ho2.below hb3
  have hws:=Lib.hid s2.size
  clear hcx hcb2 h2 s2 hx2 ho2 hb3 hm
  by_cases hE:fo H.sl l.length=0
  ·have hq:Hid (jF H.ma f=true∧dN ⟨H.ma,e⟩ f=mX ⟨{ H.ma with sl:=jy H.sl l.length,sw:=bT H.sw (il H.sl l.length) x.p },gW e (aH H.sw (il H.sl l.length))⟩ f (il H.sl l.length) l):=Lib.hid (by
    rw[hqB.out,hqK.out,hE];exact⟨rfl,rfl⟩)
   rw[hE]
   clear hE hqB hqK
   generalize il H.sl l.length=N at *
   go_upto_region 19 with (fail)
   refine ko 15 [_,_,_,_,_,_,_,_,.r 8 ((wC w3.heap.size (bT H.sw N x.p) (aH H.sw N))),.r 9 ((wC w3.heap.size (bT H.sw N x.p) (aH H.sw N))),.r 10 ((rJ w3.heap.size (bT H.sw N x.p))),.v (.int .i64 (aH H.sw N)),.r 12 ((iT w3.heap.size 34 2)),.y 13 ((KD 12 w3.heap.size 34 (rJ w3.heap.size (bT H.sw N x.p)))),.v (.int .i64 (aH H.sw N))] (fun W=>Below w3.heap.size w3 W) eP (Below.refl _ _) (Yk eP rfl (Yk eP rfl (Yf eP b 0 rfl rfl (Yf eP b 3 rfl rfl (Yr eP (.agg #[.slice H.wb H.sw.blocks.length H.cwb,.slice H.wq H.sw.queue.length H.cwq]) (fun ρ y W hb hKn=>(bu rfl (aF rfl hKn) (k3.below hb).rdW underlying34 rfl disk_size)) rfl rfl (Yk eP rfl (Yf eP w.heap.size 0 rfl rfl (Yr eP (.agg (gD x.p)) (fun ρ y W hb hKn=>(bu rfl (aF rfl hKn) (cB (kx3.ext hb) 0 8) underlying79 rfl psize)) rfl rfl (ae ?_ (ae ?_ (ae ?_ (ae ?_ (ae ?_ (ae ?_ (Yk eP rfl (aB)))))))))))))))) (fun _=>rfl) rfl ?_
   ·intro ρ y W hw hn hb hd
    refine jI eP hb ((wC w3.heap.size (bT H.sw N x.p) (aH H.sw N))) (fun _ _ h=>h) ?_
    have E94:=hw 94 4 rfl
    have h4:y 4 = .agg #[.slice H.wb H.sw.blocks.length H.cwb,.slice H.wq H.sw.queue.length H.cwq]:=hd 4 rfl
    have E95:=hw 95 5 rfl
    have h5:y 5 = .int .i64 N:=hd 5 rfl
    have E97:=hw 97 7 rfl
    have h7:y 7 = .agg (gD x.p):=hd 7 rfl
    have EF:∀f,ρ (.func f) = .func (.func f) #[] #[]:=fun f=>hn (.func f) trivial
    refine aM _ _ (ah rfl) (aN rfl (EF _) func92 (by kernel_rfl) (by kernel_rfl) (by simp only[List.map_toArray,List.map_cons,List.map_nil,E94,h4,E95,h5,E97,h7,EF];rfl)) ?_
    refine (xD H.sw N x.p H.wb H.cwb H.wq H.cwq W (k3.below hb).ma.rd.sw).mono ?_
    rintro r W3 ⟨vb,vq,rfl,ho,hb3⟩
    exact⟨_,rfl,hb3,vb,vq,rfl,ho.mono hb.size⟩
   ·intro ρ y W hw hn hb hd
    refine jI eP hb ((wC w3.heap.size (bT H.sw N x.p) (aH H.sw N))) (fun _ _ h=>h) ?_
    have E98:=hw 98 8 rfl
    have h8:=hd 8 rfl
    refine aj _ (ah rfl) (run_move (.inl rfl) E98) ?_
    exact h8
   ·intro ρ y W hw hn hb hd
    refine jI eP hb ((rJ w3.heap.size (bT H.sw N x.p))) (fun _ _ h=>h) ?_
    have E89:=hw 89 9 rfl
    have h9:=hd 9 rfl
    obtain⟨vb,vq,hu,ho⟩:=h9
    refine aj (.agg #[vb,vq]) (ah rfl) (by simp[execOp,go_sem,bC,E89,hu]) ?_
    exact⟨vb,vq,rfl,ho⟩
   ·intro ρ y W hw hn hb hd
    refine jI eP hb (oV (.int .i64 (aH H.sw N))) (fun _ _ h=>h) ?_
    have E89:=hw 89 9 rfl
    have h9:=hd 9 rfl
    obtain⟨vb,vq,hu,ho⟩:=h9
    refine aj (.int .i64 (aH H.sw N)) (ah rfl) (by simp[execOp,go_sem,bC,E89,hu]) rfl
   ·intro ρ y W hw hn hb hd
    refine jI eP hb ((iT w3.heap.size 34 2)) (fun _ _ h=>h) ?_
    refine iG (.pointer (some ⟨W.heap.size,0,none⟩)) (ah rfl) (by simp[execOp,go_sem,bC]) ((Below.refl _ _).alloc (Nat.le_refl _) (.cells #[.slice none 0 0,.slice none 0 0] 34)) ?_
    exact⟨_,_,rfl,hb.size,aD.new _ _ _,rfl⟩
   ·intro ρ y W hw hn hb hd;have E14:=hw 14 12 rfl;have h12:=hd 12 rfl;have E99:=hw 99 10 rfl;have h10:=hd 10 rfl
    obtain⟨vb,vq,e7,ho7⟩:=h10
    obtain⟨g3,cur3,e9,hg9,hb9,hs9⟩:=h12
    obtain⟨ab,cb,rfl,_⟩:=ho7.b.rd
    obtain⟨aq,cq,rfl,_⟩:=ho7.q.rd
    refine mV (ah rfl) _ _ _ rfl g3 0 (.agg #[.slice ab _ cb,.slice aq _ cq]) [.slice ab _ cb,.slice aq _ cq] (E14.trans e9) (E99.trans e7) rfl cur3 _ hb9 (by rw[hs9];exact Nat.le_refl _) disk_size (bv (jW _ _ _ _ _ _)) ?_
    intro w1 hw1 hgr
    rw[show ∀(p q:Value),[p,q]=(#[p,q]:Array Value).toList from fun _ _=>rfl,ik cur3 _ (by rw[hs9];rfl)] at hw1
    refine⟨hb.grown hgr hb.size (fun k hk=>by cases hk;exact hg9),⟨g3,_,e9,hg9,hw1,⟨_,_,rfl,ho7.keep hb9 (by decide) (by decide) hgr⟩⟩,?_⟩
    intro k hk hne
    match k,hk,hne with
    | 0,_,_=>exact fun h=>h
    | 1,_,_=>exact fun h=>h
    | 2,_,_=>exact fun h=>h
    | 3,_,_=>exact fun h=>h
    | 4,_,_=>exact fun h=>h
    | 5,_,_=>exact fun h=>h
    | 6,_,_=>exact fun h=>h
    | 7,_,_=>exact fun h=>h
    | 8,_,_=>exact fun⟨c,q0,q1,q2⟩=>⟨c,q0,q1,q2.keep hb9 (by decide) (by decide) hgr⟩
    | 9,_,_=>exact fun⟨c,q0,q1,q2⟩=>⟨c,q0,q1,q2.keep hb9 (by decide) (by decide) hgr⟩
    | 10,_,_=>exact fun⟨c,q0,q1,q2⟩=>⟨c,q0,q1,q2.keep hb9 (by decide) (by decide) hgr⟩
    | 11,_,_=>exact fun h=>h
    | 12,_,_=>exact fun q=>lK q hw1 (fun _=>rfl) ⟨_,hb9⟩ hgr
    | 13,_,h=>exact absurd rfl h
    | 14,_,_=>exact fun h=>h
    | n+15,h,_=>exact absurd h (by omega)
   intro y W4 hbW4 hRW4
   replace hbW4:Below w3.heap.size w3 W4:=hbW4
   have hy8:((wC w3.heap.size (bT H.sw N x.p) (aH H.sw N))).r (y 8) W4:=hRW4 8 (by decide)
   have hy9:((wC w3.heap.size (bT H.sw N x.p) (aH H.sw N))).r (y 9) W4:=hRW4 9 (by decide)
   have hy10:((rJ w3.heap.size (bT H.sw N x.p))).r (y 10) W4:=hRW4 10 (by decide)
   have hy12:((iT w3.heap.size 34 2)).r (y 12) W4:=hRW4 12 (by decide)
   have hy13:=hRW4 13 (by decide)
   clear hRW4
   simp only[bH,bC,List.map_cons,List.map_nil]
   obtain⟨gd,cd,hyd,hgd,hbd,vb,vq,hcd,ho4⟩:=hy13
   simp only[Value.agg.injEq] at hcd
   subst hcd
   obtain⟨ab,cb,rfl,_⟩:=ho4.b.rd
   obtain⟨aq,cq,rfl,_⟩:=ho4.q.rd
   have k4:=k3.below hbW4
   have s4:=s3.below hbW4
   have kx4:=kx3.ext hbW4
   have ho24:=ho23.below hbW4
   have ho34:=ho3.below hbW4
   have hw3:=Lib.hid s3.size
   have hlx4:=kx4.lt
   clear hy8 hy9 hy10 hy12 k3 s3 kx3 ho23 ho3 hbW4
   go_wp2_with fail
   refine (oM _ e (aH H.sw N) _ _ _ k4).mono ?_
   rintro r w5 ⟨rfl,k5,hg5⟩
   have s5:=s4.putB hg5 rfl rfl rfl
   have kx5:aD w5 w.heap.size (uP x) 81:=kx4.grown hg5 (fun e=>hkb1 (.inl (Option.some.inj e).symm))
   have ho25:=ak ho24 k4.blk (by decide) hg5
   have ho35:=ak ho34 k4.blk (by decide) hg5
   have ho5:=ho4.keep k4.blk (by decide) (by decide) hg5
   have hbd5:=aW hbd k4.blk (by decide) hg5
   clear k4 s4 kx4 ho24 ho34 ho4 hbd hg5
   have hcb:=k5.blk.cell
   have hfb:=k5.blk.free
   unfold pF at hcb
   have hcd:=hbd5.cell
   have n2:=jB k5.blk hbd5 (by decide)
   go_upto_region 21 with (fail)
   go_region
   refine Lf (w:=w5.setCells b 2 [.slice a3 (jy H.sl l.length).length c3]) (b:=b) (o:=3) (vs:=[.slice ab (bT H.sw N x.p).blocks.length cb,.slice aq (bT H.sw N x.p).queue.length cq]) (fun W=>Exit.then _ _ _ _ W) fun w7 hg7 hb7 => ?_
   have hg6:=aA w5 b 2 [.slice a3 (jy H.sl l.length).length c3]
   have hb6:=k5.blk.setCells [.slice a3 (jy H.sl l.length).length c3] 2
   have k6:=k5.setL (ho35.mono (Nat.le_trans hBs.out hws.out)) hb6 hg6
   have s6:=s5.putB (H':={ H with asl:=a3,csl:=c3,sl:=jy H.sl l.length }) hg6 rfl rfl rfl
   have ho6:=ho5.keep k5.blk (by decide) (by decide) hg6
   have ho26:=ak ho25 k5.blk (by decide) hg6
   have kx6:=kx5.grown hg6 (fun e=>hkb1 (.inl (Option.some.inj e).symm))
   have hb7':=hb7 k6.blk
   have k7:=k6.setW (ho6.mono (Nat.le_trans hBs.out hw3.out)) hb7' hg7
   have s7:=s6.putB (H':={ H with asl:=a3,csl:=c3,sl:=jy H.sl l.length,wb:=ab,cwb:=cb,wq:=aq,cwq:=cq,sw:=bT H.sw N x.p }) hg7 rfl rfl rfl
   have ho27:=(ak ho26 k6.blk (by decide) hg7).mono (Nat.zero_le _)
   have kx7:=kx6.grown hg7 (fun e=>hkb1 (.inl (Option.some.inj e).symm))
   clear hb7 hb7' hg7 k6 s6 ho6 ho26 kx6 hb6 hg6 k5 s5 kx5 ho25 ho35 ho5 hbd5 hcb hfb hcd
   generalize hH7:({ H with asl:=a3,csl:=c3,sl:=jy H.sl l.length,wb:=ab,cwb:=cb,wq:=aq,cwq:=cq,sw:=bT H.sw N x.p }:MH)=H7 at k7 s7
   have hm7:Hid (Kp.mk H7.ma (gW e (aH H.sw N))=⟨{ H.ma with sl:=jy H.sl l.length,sw:=bT H.sw N x.p },gW e (aH H.sw N)⟩):=Lib.hid (by rw[←hH7];rfl)
   have hl7:H7.sp.length=H.sp.length:=by rw[←hH7]
   rw[←hm7.out] at hq
   clear hH7 hm7
   generalize gW e (aH H.sw N)=e7 at *
   generalize hk7:Kp.mk H7.ma e7=kk at *
   have hk7':=Lib.hid hk7
   clear hk7
   go_upto_region 23 with (fail)
   go_loopw [116] (fun s116 wr => ∃(j:Nat) (Hj:MH) (ej:Int),j≤l.length∧s116 = .int .i64 j∧jf wr B b Hj ej∧KS w b H wr Hj∧Hid (Kp.mk Hj.ma ej=mX kk f N (l.take j))∧Own wr 0 193 2 (.slice a2 l.length c2) l.length (l.flatMap uL)∧Hj.sp.length=H.sp.length) (fun s116 _=>l.length-(intOf s116).toNat)
   case atStart=>exact⟨0,H7,e7,Nat.zero_le _,rfl,k7,s7,Lib.hid (by rw[hk7'.out];rfl),ho27,hl7⟩
   case round=>
    clear k7 s7 ho27 kx7
    obtain⟨j,Hj,ej,hj,rfl,hj3,sj3,qj,hoj,hlj⟩:=hrel
    by_cases hjl:j<l.length
    ·have hji:(j:Int)<(l.length:Int):=by omega
     obtain⟨_,_,e9,_,_,_,hrL⟩:=hoj.rd
     cases e9
     obtain⟨bl,ol,rfl,hrl⟩:=Oz hrL j hjl
     have hul:l[j].1<H.sp.length:=hp1'.out _ (List.getElem_mem hjl)
     go_wp2_with (first | (refine ay _ _ rfl bl (ol+j*2) rfl rfl _ hrl _ underlying193 rfl us_size ?_) | (refine aL rfl _ _ _ rfl (uC l[j]) rfl rfl rfl us_size (FW _) ?_))
     intro w8 hb8 hx8
     have k8:=hj3.below hb8
     have s8:=sj3.below hb8
     have ho8:=hoj.below hb8
     clear hj3 sj3 hoj hrL hrl hb8
     go_wp2_with fail
     refine (uS Hj ej f (-1) B b _ k8).mono ?_
     rintro r w9 ⟨rfl,H9,e9,k9,s9,q9⟩
     have ho9:=s9.own k8 ho8 (by decide)
     have hx9:=s9.blk k8 hx8 (by decide)
     have s09:=s8.trans s9
     have hl9:H9.sp.length=H.sp.length:=by
      have hq:=iy.hold ⟨Hj.ma,ej⟩ f (-1)
      rw[←q9] at hq
      have:=hq.sp
      simp only[BM] at this
      rw[this,hlj]
     have q9':=Lib.hid q9
     clear k8 s8 ho8 hx8 s9 q9
     have hc9:=hx9.cell
     unfold uC at hc9
     go_wp2_with fail
     refine (pQ H9 e9 l[j].2 l[j].1 ⟨2,N,false⟩ B b _ k9 (by rw[hl9];exact hul)).mono ?_
     rintro r w6 ⟨rfl,H6,e6,h6,s6,q6⟩
     have ho6:=s6.own k9 ho9 (by decide)
     have s06:=s09.trans s6
     have hq6:Hid (Kp.mk H6.ma e6=mX kk f N (l.take (j+1))):=Lib.hid (by
      rw[Ep kk f N l j hjl,←qj.out]
      unfold Al
      rw[←q9'.out]
      exact q6)
     have hl6:H6.sp.length=H.sp.length:=by
      have hq:=iy.enter ⟨H9.ma,e9⟩ l[j].1 l[j].2 ⟨2,N,false⟩
      rw[←q6] at hq
      have:=hq.sp
      simp only[BM] at this
      rw[this,hl9]
     clear q6 k9 s09 ho9 hc9 hx9 s6
     go_wp2
     go_roundw
     case rel=>exact⟨j+1,H6,e6,by omega,by go_num,h6,s06,hq6,ho6,hl6⟩
     case measure=>simp[intOf];omega
    ·have hji:¬(j:Int)<(l.length:Int):=by omega
     rw[List.take_of_length_le (by omega)] at qj
     clear hoj
     go_wp2
     go_ret
     rw[hq.out.1,hq.out.2]
     exact⟨rfl,_,_,hj3,sj3,qj.out⟩
  ·have hq:Hid (jF H.ma f=false∧dN ⟨H.ma,e⟩ f=⟨H.ma,e⟩):=Lib.hid (by
    rw[hqB.out,hqK.out,if_pos hE];exact⟨decide_eq_false hE,rfl⟩)
   go_wp2
   go_ret
   rw[hq.out.1,hq.out.2]
   exact⟨rfl,_,_,k3,s3,rfl⟩
structure wG (k k' : Kp):Prop where
 sp:k'.m.sp.length=k.m.sp.length
 ca:k'.m.ca.length≤k.m.ca.length
 fs:k'.m.m.fs.length=k.m.m.fs.length
theorem wG.refl (k:Kp):wG k k:=⟨rfl,Nat.le_refl _,rfl⟩
theorem wG.trans {a b c:Kp} (h:wG a b) (k:wG b c):wG a c:=⟨k.sp.trans h.sp,Nat.le_trans k.ca h.ca,k.fs.trans h.fs⟩
theorem iy.l {a b:Kp} (h:iy a b):wG a b:=⟨h.sp,by rw[h.ca];exact Nat.le_refl _,h.fs⟩
theorem wG.evict (k:Kp) (f:Nat):wG k (dN k f):=by
 unfold dN
 simp only
 split
 ·split
  ·exact .refl _
  ·have h1:=(iy.clean k f).trans (iy.drops (aU k.m f) (gN k f))
   split
   ·refine (wG.trans ?_ (iy.hold _ f (-1)).l)
    exact⟨h1.sp,by show (List.eraseIdx _ _).length≤_;rw[h1.ca];exact List.length_eraseIdx_le _ _,h1.fs⟩
   ·exact h1.l
 ·split
  ·exact .refl _
  ·refine wG.trans ?_ (iy.swaps _ _ _ _).l
   exact⟨rfl,Nat.le_refl _,rfl⟩
theorem Io {m:Mem} (h:bJ m=0):(dU m).fs.length=m.fs.length:=by
 unfold dU
 rw[if_neg (by rw[h];simp)]
 split
 ·rfl
 ·exact gu _ _
theorem MF {m:Mem} (h:bJ m=0) (hk:¬fV m<0):(fV m).toNat<m.fs.length∧fV m=(((fV m).toNat:Nat):Int):=by
 unfold fV at hk ⊢
 rw[if_neg (by rw[h];simp)] at hk ⊢
 split at hk
 ·omega
 ·rename_i hne
  rw[if_neg hne]
  have hpos:0<m.fs.length:=by
   rcases Nat.eq_zero_or_pos m.fs.length with h0|h0
   ·have:=yl m.fs;omega
   ·exact h0
  rw[Int.toNat_natCast]
  exact⟨kY hpos _,rfl⟩
theorem Qx {k:Kp} {e:Int} (q:Kp.mk H.ma e=k):H.sp.length=k.m.sp.length∧H.ca=k.m.ca∧H.m=k.m.m:=by
 subst q
 exact⟨(BM H).symm,rfl,rfl⟩
theorem BK (H:MH) (e:Int) (B b:Nat) (w:World) (h:jf w B b H e) (hz:H.sp.length≤1000) (hz2:H.ca.length≤1000) (hz3:H.m.fs.length≤1000) :
  Calls Tryz.prog 56 #[.pointer (some ⟨b,0,none⟩)] w fun r w'=>r = .returned (.bool (dG ⟨H.ma,e⟩).2)∧KR w B b H w' (dG ⟨H.ma,e⟩).1:=by
 have hc:=h.blk.cell
 unfold pF at hc
 have hBs:=Lib.hid h.bs
 go_enter func56,ntmps56
 have hw0:IntKind.i64.wrap (2*(H.m.fs.length:Int))=2*(H.m.fs.length:Int):=IntWalk.i64_in _ (by omega)
 have hw1:IntKind.i64.wrap (2*(H.m.fs.length:Int)+1)=2*(H.m.fs.length:Int)+1:=IntWalk.i64_in _ (by omega)
 go_upto_region 2 with (fail)
 have hN:Hid (dG ⟨H.ma,e⟩=reclaimN (2*H.m.fs.length+1) ⟨H.ma,e⟩):=Lib.hid rfl
 have h':=Lib.hid h
 generalize hNN:2*H.m.fs.length+1=N at hN
 have hNi:(2*(H.m.fs.length:Int)+1)=(N:Int):=by omega
 have hNl:N≤2001:=by omega
 clear h hc hw0 hw1
 rw[hNi]
 clear hNi hNN
 go_loopw [15] (fun s15 wr => ∃(j:Nat) (Hj:MH) (ej:Int),j≤N∧s15 = .int .i64 j∧jf wr B b Hj ej∧KS w b H wr Hj∧Hid (reclaimN N ⟨H.ma,e⟩=reclaimN (N-j) ⟨Hj.ma,ej⟩)∧Hid (Hj.sp.length=H.sp.length∧Hj.ca.length≤H.ca.length∧Hj.m.fs.length=H.m.fs.length)) (fun s15 _=>N-(intOf s15).toNat)
 case atStart=>exact⟨0,H,e,Nat.zero_le _,rfl,h'.out,.refl _ _ _,Lib.hid rfl,Lib.hid ⟨rfl,Nat.le_refl _,rfl⟩⟩
 case round=>
  clear h'
  obtain⟨j,Hj,ej,hj,rfl,hj3,sj3,qj,hl⟩:=hrel
  by_cases hjl:j<N
  ·have hji:(j:Int)<(N:Int):=by omega
   go_wp2_with (refine ay _ _ rfl b 0 rfl rfl _ hj3.rdM _ underlying28 rfl mem_size ?_)
   refine (IP Hj.m _ _ _ hj3.ma.rd.fr).mono ?_
   rintro r w1 ⟨vb,rfl,ho,hb1⟩
   obtain⟨a1,c1,rfl,_⟩:=wP ho
   have h1:=hj3.below hb1
   have s1:=sj3.below hb1
   have hBj:=Lib.hid hj3.bs
   have hwr:=Lib.hid sj3.size
   clear hj3 sj3 hb1
   go_wp2_with (refine aL rfl _ _ _ rfl #[.slice a1 (dU Hj.m).fs.length c1,.int .i64 (dU Hj.m).hand] rfl rfl rfl mem_size (gP _ _ _ _) ?_)
   intro w2 hb2 hx2
   have h2:=h1.below hb2
   have s2:=s1.below hb2
   have ho2:=ho.below hb2
   clear h1 s1 ho hb2
   go_wp2_with fail
   refine (oM _ ej (bJ Hj.m) _ _ _ h2).mono ?_
   rintro r w3 ⟨rfl,h3,hg3⟩
   have s3:=s2.putB hg3 rfl rfl rfl
   have ho3:=ak ho2 h2.blk (by decide) hg3
   have hx3:=aW hx2 h2.blk (by decide) hg3
   clear h2 s2 ho2 hx2 hg3
   have hstep:Hid (reclaimN N ⟨H.ma,e⟩=reclaimN (N-(j+1)+1) ⟨Hj.ma,ej⟩):=Lib.hid (by rw[qj.out,show N-(j+1)+1=N-j by omega])
   clear qj
   by_cases h0:bJ Hj.m=0
   ·rw[h0,mZ] at h3
    by_cases hk:fV Hj.m<0
    ·have hq:Hid (dG ⟨H.ma,e⟩=(⟨Hj.ma,ej⟩,false)):=Lib.hid (by
      rw[hN.out,hstep.out]
      unfold reclaimN
      rw[if_pos (.inr hk)]
      show (Kp.mk Hj.ma (gW ej (bJ Hj.m)),false)=_
      rw[h0,mZ])
     rw[h0]
     go_wp2
     go_ret
     rw[hq.out]
     exact⟨rfl,_,_,h3,s3,rfl⟩
    ·obtain⟨hlt,hki⟩:=MF h0 hk
     have hnl:=Lib.hid (Io h0)
     have hki':=Lib.hid hki
     generalize hF:(fV Hj.m).toNat=F at hlt hki hki'
     have hFn:¬(F:Int)<0:=by omega
     rw[hki] at hk
     rw[h0,hki]
     clear hki hk
     have hx:=hx3.cell
     go_wp2_with (first | (refine ay _ _ rfl _ 0 rfl rfl [.slice a1 (dU Hj.m).fs.length c1,.int .i64 (dU Hj.m).hand] (cB hx3 0 2) _ underlying28 rfl mem_size ?_) | (refine fq rfl _ _ _ rfl b 0 _ rfl rfl _ _ h3.blk (by show 0+2≤12;decide) mem_size (gP _ _ _ _) ?_))
     intro w4 hb4 hg4
     have h4:=h3.setM (ho3.mono hBj.out) hb4 hg4
     have s4:KS w b H w4 { Hj with af:=a1,cf:=c1,m:=dU Hj.m }:=s3.putF hg4 (ho3.mono hwr.out) (Nat.le_refl _) rfl rfl
     clear h3 s3 ho3 hx3 hx hb4 hg4
     have hq4:Hid (reclaimN N ⟨H.ma,e⟩=if jF (MH.ma { Hj with af:=a1,cf:=c1,m:=dU Hj.m }) F=true then (dN ⟨MH.ma { Hj with af:=a1,cf:=c1,m:=dU Hj.m },ej⟩ F,true) else reclaimN (N-(j+1)) (dN ⟨MH.ma { Hj with af:=a1,cf:=c1,m:=dU Hj.m },ej⟩ F)):=Lib.hid (by
      rw[hstep.out]
      conv=>lhs;unfold reclaimN
      have hc:¬(bJ (Kp.m ⟨Hj.ma,ej⟩).m≠0∨fV (Kp.m ⟨Hj.ma,ej⟩).m<0):=by
       rintro (e|e)
       ·exact e h0
       ·have:fV Hj.m<0:=e
        rw[hki'.out] at this;omega
      rw[if_neg hc]
      rw[show (fV (Kp.m ⟨Hj.ma,ej⟩).m).toNat=F from hF]
      rfl)
     obtain⟨hl1,hl2,hl3⟩:=hl.out
     have hl4:(MH.sp { Hj with af:=a1,cf:=c1,m:=dU Hj.m }).length=H.sp.length∧(MH.ca { Hj with af:=a1,cf:=c1,m:=dU Hj.m }).length≤H.ca.length∧(MH.m { Hj with af:=a1,cf:=c1,m:=dU Hj.m }).fs.length=H.m.fs.length:=⟨hl1,hl2,hnl.out.trans hl3⟩
     have hlt4:=hlt
     rw[hl3] at hlt4
     have hl4':=Lib.hid hl4
     clear hl4 hl1 hl2 hl3
     generalize ({ Hj with af:=a1,cf:=c1,m:=dU Hj.m }:MH)=H4 at h4 s4 hq4 hl4'
     go_wp2_with fail
     refine (FO H4 ej F B b _ h4 (by rw[hl4'.out.2.2];exact hlt4) (by rw[hl4'.out.1];exact hz) (Nat.le_trans hl4'.out.2.1 hz2)).mono ?_
     rintro r w5 ⟨rfl,H5,e5,h5,s5,q5⟩
     have s05:=s4.trans s5
     have hle:=wG.evict ⟨H4.ma,ej⟩ F
     obtain⟨m1,m2,m3⟩:=Qx q5
     have hl5:H5.sp.length=H.sp.length∧H5.ca.length≤H.ca.length∧H5.m.fs.length=H.m.fs.length:=by
      have a1:=hle.sp
      have a2:=hle.ca
      have a3:=hle.fs
      rw[show (Kp.m ⟨H4.ma,ej⟩).sp.length=H4.sp.length from BM H4] at a1
      exact⟨by rw[m1,a1];exact hl4'.out.1,by rw[m2];exact Nat.le_trans a2 hl4'.out.2.1,by rw[m3];exact a3.trans hl4'.out.2.2⟩
     have q5':=Lib.hid q5
     have hl5':=Lib.hid hl5
     clear h4 s4 s5 q5 hle m1 m2 m3 hl5
     cases hb:jF H4.ma F with
     | true=>
      have hq:Hid (dG ⟨H.ma,e⟩=(⟨H5.ma,e5⟩,true)):=Lib.hid (by rw[hN.out,hq4.out,hb,if_pos rfl,q5'.out])
      go_wp2
      go_ret
      rw[hq.out]
      exact⟨rfl,_,_,h5,s05,rfl⟩
     | false=>
      have hq:Hid (reclaimN N ⟨H.ma,e⟩=reclaimN (N-(j+1)) ⟨H5.ma,e5⟩):=Lib.hid (by rw[hq4.out,hb,if_neg (by decide),q5'.out])
      clear hq4 hstep
      go_wp2
      go_roundw
      case rel=>exact⟨j+1,H5,e5,by omega,by go_num,h5,s05,hq,hl5'⟩
      case measure=>simp[intOf];omega
   ·have hq:Hid (dG ⟨H.ma,e⟩=(⟨Hj.ma,gW ej (bJ Hj.m)⟩,false)):=Lib.hid (by
     rw[hN.out,hstep.out]
     unfold reclaimN
     rw[if_pos (.inl h0)]
     rfl)
    go_wp2
    go_ret
    rw[hq.out]
    exact⟨rfl,_,_,h3,s3,rfl⟩
  ·have hji:¬(j:Int)<(N:Int):=by omega
   have hq:Hid (dG ⟨H.ma,e⟩=(⟨Hj.ma,ej⟩,false)):=Lib.hid (by rw[hN.out,qj.out,show N-j=0 by omega];rfl)
   clear qj
   go_wp2
   go_ret
   rw[hq.out]
   exact⟨rfl,_,_,hj3,sj3,rfl⟩
def Qv (H:MH) (w:World) (r:Ending) (w' : World):Prop:=Below w.heap.size w w'∧∃H' : MH,r = .returned (.tuple #[.agg (dC H'),.bool (dG ⟨H.ma,0⟩).2,.int .i64 0])∧oL w' w.heap.size H'∧H'.ma=(dG ⟨H.ma,0⟩).1.m
theorem EH (H:MH) (w:World) (h:xA w H) (hR:Rt H.ma) (hC:Co H.ma) :
  Calls Tryz.prog 20 #[.agg (dC H)] w (Qv H w):=by
 have hT:=Lib.hid (CZ hR hC)
 have hR':=Lib.hid hR
 have hC':=Lib.hid hC
 have hz0:=Lib.hid (oh hR)
 clear hR hC
 go_enter func20,ntmps20
 go_upto_region 1 with (fail)
 refine oJ (fun W=>Code.wp _ _ _ _ W) fun w1 hb1 bx1 rx1 hs1 => ?_
 have bx1:aD w1 w.heap.size (dC H) 41:=bx1
 have rx1:aD w1 (w.heap.size+1) (dC noH) 41:=rx1
 have h1:=h.below hb1
 clear h
 go_wp2_with (refine ay _ _ rfl w.heap.size 0 rfl rfl _ bx1.rd _ underlying41 rfl machine_size ?_)
 refine (lF H _ h1).mono ?_
 rintro r w2 ⟨rfl,hb2⟩
 rw[Aw.2 hR'.out]
 have h2:=h1.below hb2
 have bx2:=bx1.ext hb2
 have rx2:=rx1.ext hb2
 have hbr2:=ag hb1 hb2
 clear h1 bx1 rx1 hb1 hb2 hs1
 go_wp2_with (refine ay _ _ rfl w.heap.size 0 rfl rfl _ bx2.rd _ underlying41 rfl machine_size ?_)
 refine (uu H _ h2 hz0.out).mono ?_
 rintro r w3 ⟨H3,rfl,ho3,hma3,_,hb3⟩
 have hma:=Lib.hid hma3
 have hz3:Hid (MJ H3.ma):=Lib.hid (by rw[hma3];exact hz0.out)
 have rx3:=rx2.ext hb3
 have hbr3:=ag hbr2 hb3
 clear bx2 rx2 h2 hma3
 unfold dC
 go_upto_region 5 with (fail)
 refine gB (fun W=>Code.wp _ _ _ _ W) fun w4 hb4 kx4 hs4 => ?_
 have k4:jf w4 w.heap.size w3.heap.size H3 0:=⟨kx4,hbr3.size,(ho3.mono hbr2.size).below hb4,fun q hq=>(MJ.spz (H:=H3) hz3.out hq).2⟩
 have rx4:=rx3.ext hb4
 have hbr4:=ag hbr3 hb4
 clear hb3 hb4 ho3 hbr2 kx4 hs4 rx3 hbr3
 generalize w3.heap.size=b at k4
 go_wp2_with fail
 refine (BK H3 0 w.heap.size b _ k4 (by have:=hz3.out.sp.1;rwa [BM] at this) hz3.out.ca hz3.out.fs).mono ?_
 rintro r w5 ⟨rfl,H5,e5,k5,s5,q5⟩
 rw[hma.out] at q5 ⊢
 have he5:e5=0:=by
  have:=congrArg Kp.e q5
  exact this.trans hT.out.1
 subst he5
 have hm5:Hid (H5.ma=(dG ⟨H.ma,0⟩).1.m):=Lib.hid (congrArg Kp.m q5)
 have rx5:=s5.blk k4 rx4 machT
 have hbr5:=Dv hbr4 (s5.to k4 (Nat.le_refl _))
 clear q5 s5 k4 rx4 hbr4
 generalize hok:(dG ⟨H.ma,0⟩).2=ok
 have hok:=Lib.hid hok
 have hc5:=k5.blk.cell
 unfold pF at hc5
 go_wp2_with (first | (refine ay _ _ rfl b 0 rfl rfl (dC H5).toList (cB k5.blk 0 11) _ underlying41 rfl machine_size ?_) | (refine ax rfl _ _ _ rfl (w.heap.size+1) (dC H5) rfl rfl _ _ rx5 rfl mach_size (fe _) ?_))
 intro w7 rx7 hg7
 have hbre:=hbr5.grown hg7 hbr5.size (fun k hk=>by cases hk;omega)
 have hme:=k5.ma.keep rx5 (by decide) hg7
 go_wp2
 refine bodyPost_ret (v:=.tuple #[.agg (dC H5),.bool ok,.int .i64 0]) (fF results20 _ _ (w.heap.size+1) _ _ _ _ _ rfl rfl rfl rx7 underlying41 rfl mach_size) rfl ?_
 exact⟨hbre,H5,by rw[hok.out],hme,hm5.out⟩
theorem JD (hf:f<m.m.fs.length) (hc:vg m f=true) (h:∀j,j<f→vg m j=false):jC m=some f:=by
 unfold jC
 rw[List.find?_range_eq_some]
 exact⟨hc,List.mem_range.2 hf,fun j hj=>by rw[h j hj];rfl⟩
theorem zB (h:∀j,j<m.m.fs.length→vg m j=false):jC m=none:=by
 unfold jC
 rw[List.find?_eq_none]
 intro j hj
 rw[h j (List.mem_range.1 hj)]
 decide
def Bq (w:World) (B b rx:Nat) (S:MH):(Nat→Bool)→(Nat→Value)→World→Prop:=fun L y W=>
 (Below B w W∧B≤W.heap.size)∧aD W b (pF S 0) 96∧oL W B S∧(L 8=false→aD W rx (dC noH) 41)∧(L 8=true→aD W rx (dC S) 41)
theorem eZ {S:MH}:∀L y W W',Below W.heap.size W W'→Bq w B b rx S L y W→Bq w B b rx S L y W':=
 fun _ _ _ _ hb ⟨h1,h2,h3,h4,h5⟩=>⟨⟨h1.1.trans (hb.mono h1.2),Nat.le_trans h1.2 hb.size⟩,h2.ext hb,h3.below hb,fun e=>(h4 e).ext hb,fun e=>(h5 e).ext hb⟩
theorem fM {S:MH} (hi:i≠8) (h:Bq w B b rx S L y W):Bq w B b rx S (bK L i) (bZ y i v) W:=by
 unfold Bq at h ⊢
 have e:bK L i 8=L 8:=by unfold bK;rw[if_neg (fun e=>hi e.symm)]
 rw[e]
 exact h
theorem Lc {S:MH} (hB:B≤rx) (hL:L 8=false) (h:Bq w B b rx S L y W) (hk:aD W' rx (bq (dC noH) 0 (dC S).toList) 41) (hg:W.grownBy W' (some rx)):Bq w B b rx S (bK L 8) (bZ y 8 undef) W':=by
 obtain⟨h1,h2,h3,h4,h5⟩:=h
 have r1:=h4 hL
 rw[ik (dC noH) (dC S) rfl] at hk
 exact⟨⟨h1.1.grown hg h1.2 (fun k hk=>by cases hk;exact hB),Nat.le_trans h1.2 hg.size⟩,aW h2 r1 (by decide) hg,h3.keep r1 (by decide) hg,fun e=>(by cases e),fun _=>hk⟩
def qH (m:Ma):Ma:=match jC m with
 | none=>m
 | some f=>(gN ⟨m,0⟩ f).m
def Qu (H:MH) (w:World) (r:Ending) (w' : World):Prop:=Below w.heap.size w w'∧∃H' : MH,r = .returned (.tuple #[.agg (dC H'),.bool (jC H.ma).isSome,.int .i64 0])∧oL w' w.heap.size H'∧H'.ma=qH H.ma
theorem sI (H:MH) (w:World) (h:xA w H) (hR:Rt H.ma) (hC:Co H.ma) :
  Calls Tryz.prog 22 #[.agg (dC H)] w (Qu H w):=by
 have hR':=Lib.hid hR
 have hC':=Lib.hid hC
 have hz0:=Lib.hid (oh hR)
 clear hR hC
 go_enter func22,ntmps22
 go_upto_region 1 with (fail)
 refine oJ (fun W=>Code.wp _ _ _ _ W) fun w1 hb1 bx1 rx1 hs1 => ?_
 have bx1:aD w1 w.heap.size (dC H) 41:=bx1
 have rx1:aD w1 (w.heap.size+1) (dC noH) 41:=rx1
 have h1:=h.below hb1
 clear h
 go_wp2_with (refine ay _ _ rfl w.heap.size 0 rfl rfl _ bx1.rd _ underlying41 rfl machine_size ?_)
 refine (lF H _ h1).mono ?_
 rintro r w2 ⟨rfl,hb2⟩
 rw[Aw.2 hR'.out]
 have h2:=h1.below hb2
 have bx2:=bx1.ext hb2
 have rx2:=rx1.ext hb2
 have hbr2:=ag hb1 hb2
 clear h1 bx1 rx1 hb1 hb2 hs1
 go_wp2_with (refine ay _ _ rfl w.heap.size 0 rfl rfl _ bx2.rd _ underlying41 rfl machine_size ?_)
 refine (uu H _ h2 hz0.out).mono ?_
 rintro r w3 ⟨H3,rfl,ho3,hma3,_,hb3⟩
 have hma:=Lib.hid hma3
 have hz3:Hid (MJ H3.ma):=Lib.hid (by rw[hma3];exact hz0.out)
 have rx3:=rx2.ext hb3
 have hbr3:=ag hbr2 hb3
 clear bx2 rx2 h2 hma3
 unfold dC
 go_upto_region 5 with (fail)
 refine gB (fun W=>Code.wp _ _ _ _ W) fun w4 hb4 kx4 hs4 => ?_
 have k4:jf w4 w.heap.size w3.heap.size H3 0:=⟨kx4,hbr3.size,(ho3.mono hbr2.size).below hb4,fun q hq=>(MJ.spz (H:=H3) hz3.out hq).2⟩
 have rx4:=rx3.ext hb4
 have hbr4:=ag hbr3 hb4
 clear hb3 hb4 ho3 hbr2 kx4 hs4 rx3 hbr3
 generalize w3.heap.size=b at k4
 have hc:=k4.blk.cell
 unfold pF at hc
 go_upto_region 6 with (fail)
 clear hc
 obtain⟨N,hN⟩:∃N,Hid (N=H3.m.fs.length):=⟨_,Lib.hid rfl⟩
 have hN1:N≤1000:=by rw[hN.out];exact hz3.out.fs
 rw[←hN.out]
 have hNH:Hid (N=H.ma.m.fs.length):=Lib.hid (by rw[hN.out,←hma.out];rfl)
 go_loopw [26] (fun i wr => ∃(f:Nat) (H' : MH),f≤N∧i = .int .i64 f∧jf wr w.heap.size b H' 0∧Below w.heap.size w wr∧aD wr (w.heap.size+1) (dC noH) 41∧Hid (H'.ma=H.ma)∧Hid (∀j,j<f→vg H.ma j=false)) (fun i _=>N-(intOf i).toNat)
 case atStart=>exact⟨0,H3,by omega,rfl,k4,hbr4,rx4,hma,Lib.hid (fun j hj=>by omega)⟩
 case round=>
  clear k4 hbr4 rx4
  obtain⟨f,H4,hf,rfl,k4,hbr4,rx4,hm4,hall⟩:=hrel
  have hc:=k4.blk.cell
  unfold pF at hc
  by_cases hfN:f<N
  ·have hfi:(f:Int)<(N:Int):=by omega
   have hf4:f<H4.m.fs.length:=by
    have e:H4.m.fs.length=H.ma.m.fs.length:=congrArg (fun m:Ma=>m.m.fs.length) hm4.out
    rw[e,←hNH.out];exact hfN
   obtain⟨g,off,haf,hrd⟩:=kJ eB (by decide) k4.ma.rd.fr.rd f hf4
   obtain⟨X,hX⟩:∃X,H4.m.fs[f]=X:=⟨_,rfl⟩
   rw[hX] at hrd
   rw[haf] at hc
   clear haf
   have hXf:Hid (aO H.ma f=X):=Lib.hid (by
    rw[←hm4.out]
    have:=qh (m:=H4.ma) (i:=f) hf4
    exact this.trans hX)
   clear hX
   go_wp2_with (first | (refine ay _ _ rfl g (off+f*13) rfl rfl _ hrd _ underlying81 rfl frame_size ?_) | (refine aL rfl _ _ _ rfl (uP X) rfl rfl rfl frame_size (qg X) ?_))
   intro w5 hb5 xx5
   have k5:=k4.below hb5
   have rx5:=rx4.ext hb5
   have hbr5:=ag hbr4 hb5
   have hsx5:Hid (w.heap.size+1<w5.heap.size):=Lib.hid rx5.lt
   clear k4 rx4 hbr4 hb5 hc hrd
   generalize wr.heap.size=gx at xx5
   have hxc:=xx5.cell
   unfold uP at hxc
   cases hd:X.d with
   | false=>
    have hcan:Hid (vg H.ma f=false):=Lib.hid (by unfold vg;rw[hXf.out,hd];rfl)
    go_wp2
    go_roundw
    case rel=>exact⟨f+1,H4,by omega,by go_num,k5,hbr5,rx5,hm4,Lib.hid (fun j hj=>by
     rcases Nat.lt_succ_iff_lt_or_eq.1 hj with h|rfl
     ·exact hall.out j h
     ·exact hcan.out)⟩
    case measure=>simp[intOf];omega
   | true=>
    have hdf:Hid ((aO H.ma f).d=true):=Lib.hid (by rw[hXf.out,hd])
    go_wp2_with fail
    refine (xC H4 0 f _ b _ k5 hf4).mono ?_
    rintro r w6 ⟨rfl,H6,e6,k6,s6,q6⟩
    rw[hm4.out] at q6 ⊢
    have rx6:=s6.blk k5 rx5 machT
    have hbr6:=Dv hbr5 (s6.to k5 (Nat.le_refl _))
    clear s6 k5 rx5 hbr5 xx5 hxc hd
    have hfl:f<H.ma.m.fs.length:=by rw[←hNH.out];exact hfN
    cases hcb:fO H.ma f with
    | false=>
     have hcan:Hid (vg H.ma f=false):=Lib.hid (by unfold vg;rw[hcb,Bool.and_false])
     rw[KA (k:=⟨H.ma,0⟩) hR'.out hfl hcb] at q6
     obtain⟨hm6,rfl⟩:=Kp.mk.inj q6
     have hm6:=Lib.hid hm6
     clear q6 hcb
     go_wp2
     go_roundw
     case rel=>exact⟨f+1,H6,by omega,by go_num,k6,hbr6,rx6,hm6,Lib.hid (fun j hj=>by
      rcases Nat.lt_succ_iff_lt_or_eq.1 hj with h|rfl
      ·exact hall.out j h
      ·exact hcan.out)⟩
     case measure=>simp[intOf];omega
    | true=>
     have hfc:Hid (jC H.ma=some f):=Lib.hid (JD hfl (by unfold vg;rw[hdf.out,hcb];rfl) hall.out)
     obtain⟨m1,hm1,_,_⟩:=sj hR'.out hC'.out hfc.out
     have hm6:Hid (H6.ma=qH H.ma):=Lib.hid (by
      unfold qH
      rw[hfc.out]
      exact congrArg Kp.m q6)
     rw[hm1] at q6
     obtain⟨_,rfl⟩:=Kp.mk.inj q6
     clear q6 hm1 hcb
     ·skip
      go_upto_region 10 with (fail)
      have hBr:Hid (w.heap.size≤w.heap.size+1):=Lib.hid (Nat.le_succ _)
      refine lu 11 [_,_,_,.v (.agg #[.slice H6.af H6.m.fs.length H6.cf,.int .i64 H6.m.hand,.slice H6.asl H6.sl.length H6.csl,.slice H6.wb H6.sw.blocks.length H6.cwb,.slice H6.wq H6.sw.queue.length H6.cwq,.slice H6.db H6.dk.blocks.length H6.cdb,.slice H6.dq H6.dk.queue.length H6.cdq,.slice H6.ai H6.fi.length H6.ci,.int .i64 H6.ct,.slice H6.ac H6.ca.length H6.cc,.slice H6.ap H6.sp.length H6.cp]),_,_,_,.v (.int .i64 0),.r 8 ((aR fun _=>True)),.v (.bool true),.v (.int .i64 0)] (Bq w w.heap.size b (w.heap.size+1) H6) eZ (fun y=>⟨⟨hbr6,hbr6.size⟩,k6.blk,k6.ma,fun _=>rx6,fun e=>(by cases e)⟩) (Qk eZ rfl (Qk eZ rfl (Qf eZ b 0 rfl rfl (ae ?_ (Qk eZ rfl (Qk eZ rfl (Qf eZ b 11 rfl rfl (ae ?_ (ae ?_ (Qk eZ rfl (Qk eZ rfl (aB) (fun _ _ _ _ hLd h=>fM (by decide) h)) (fun _ _ _ _ hLd h=>fM (by decide) h)))) (fun _ _ _ _ hLd h=>fM (by decide) h)) (fun _ _ _ _ hLd h=>fM (by decide) h)) (fun _ _ _ _ hLd h=>fM (by decide) h))) (fun _ _ _ _ hLd h=>fM (by decide) h)) (fun _ _ _ _ hLd h=>fM (by decide) h)) (fun _ _ _ _ hLd h=>fM (by decide) h)) (fun _=>rfl) rfl ?_
      ·intro ρ y W L hw hn hLi hLd hb hd
       refine bS eZ (fun _ _ h=>fM (by decide) h) hb ?_
       have E47:=hw 47 2 rfl
       have h2:y 2=_:=hd 2 rfl
       refine aj (.agg #[.slice H6.af H6.m.fs.length H6.cf,.int .i64 H6.m.hand,.slice H6.asl H6.sl.length H6.csl,.slice H6.wb H6.sw.blocks.length H6.cwb,.slice H6.wq H6.sw.queue.length H6.cwq,.slice H6.db H6.dk.blocks.length H6.cdb,.slice H6.dq H6.dk.queue.length H6.cdq,.slice H6.ai H6.fi.length H6.ci,.int .i64 H6.ct,.slice H6.ac H6.ca.length H6.cc,.slice H6.ap H6.sp.length H6.cp]) (ah rfl) (bu rfl (E47.trans h2) (cB hb.2.1 0 11) underlying41 rfl (by kernel_rfl)) rfl
      ·intro ρ y W L hw hn hLi hLd hb hd
       refine bS eZ (fun _ _ h=>fM (by decide) h) hb ?_
       have E51:=hw 51 6 rfl
       have h6:y 6=_:=hd 6 rfl
       refine aj (.int .i64 0) (ah rfl) (by simp[execOp,go_sem,bC,E51,h6,hb.2.1.cell,pF]) rfl
      ·intro ρ y W L hw hn hLi hLd hb hd;have E2:ρ (.tmp 2) = .pointer (some ⟨w.heap.size+1,0,none⟩):=(hn (.tmp 2) rfl).trans rfl;have E48:=hw 48 3 rfl;have h3:y 3=_:=hd 3 rfl
       have rxW:=hb.2.2.2.1 hLi
       exact kv (ah rfl) (nS _ _ _ rfl (w.heap.size+1) 0 _ (dC H6).toList E2 (E48.trans h3) rfl _ _ rxW (Nat.le_refl _) mach_size (fun u hu=>by have:=fe H6;rw[←Array.all_toList,List.all_eq_true] at this;exact this u hu)) (Lc hBr.out hLi hb (rxW.setCells _ _) (aA _ _ _ _)) trivial
      intro y W7 hbW7 hRW7
      have hy8:((aR fun _=>True)).r (y 8) W7:=hRW7 8 (by decide)
      clear hRW7
      simp only[bH,bC,List.map_cons,List.map_nil]
      obtain⟨⟨hbre,_⟩,_,hme,_,hrx8⟩:=hbW7
      have rx8:=hrx8 rfl
      go_wp2
      refine bodyPost_ret (v:=.tuple #[.agg (dC H6),.bool true,.int .i64 0]) (fF results22 _ _ (w.heap.size+1) _ _ _ _ _ rfl rfl rfl rx8 underlying41 rfl mach_size) rfl ?_
      exact⟨hbre,H6,by rw[hfc.out];rfl,hme,hm6.out⟩
  ·have hfi:¬(f:Int)<(N:Int):=by omega
   have hfc:Hid (jC H.ma=none):=Lib.hid (zB (fun j hj=>hall.out j (by have:=hNH.out;omega)))
   have hm6:Hid (H4.ma=qH H.ma):=Lib.hid (by
    unfold qH
    rw[hfc.out]
    exact hm4.out)
   clear hc
   ·skip
    go_upto_region 12 with (fail)
    have hBr:Hid (w.heap.size≤w.heap.size+1):=Lib.hid (Nat.le_succ _)
    refine lu 11 [_,_,_,.v (.agg #[.slice H4.af H4.m.fs.length H4.cf,.int .i64 H4.m.hand,.slice H4.asl H4.sl.length H4.csl,.slice H4.wb H4.sw.blocks.length H4.cwb,.slice H4.wq H4.sw.queue.length H4.cwq,.slice H4.db H4.dk.blocks.length H4.cdb,.slice H4.dq H4.dk.queue.length H4.cdq,.slice H4.ai H4.fi.length H4.ci,.int .i64 H4.ct,.slice H4.ac H4.ca.length H4.cc,.slice H4.ap H4.sp.length H4.cp]),_,_,_,.v (.int .i64 0),.r 8 ((aR fun _=>True)),.v (.bool false),.v (.int .i64 0)] (Bq w w.heap.size b (w.heap.size+1) H4) eZ (fun y=>⟨⟨hbr4,hbr4.size⟩,k4.blk,k4.ma,fun _=>rx4,fun e=>(by cases e)⟩) (Qk eZ rfl (Qk eZ rfl (Qf eZ b 0 rfl rfl (ae ?_ (Qk eZ rfl (Qk eZ rfl (Qf eZ b 11 rfl rfl (ae ?_ (ae ?_ (Qk eZ rfl (Qk eZ rfl (aB) (fun _ _ _ _ hLd h=>fM (by decide) h)) (fun _ _ _ _ hLd h=>fM (by decide) h)))) (fun _ _ _ _ hLd h=>fM (by decide) h)) (fun _ _ _ _ hLd h=>fM (by decide) h)) (fun _ _ _ _ hLd h=>fM (by decide) h))) (fun _ _ _ _ hLd h=>fM (by decide) h)) (fun _ _ _ _ hLd h=>fM (by decide) h)) (fun _ _ _ _ hLd h=>fM (by decide) h)) (fun _=>rfl) rfl ?_
    ·intro ρ y W L hw hn hLi hLd hb hd
     refine bS eZ (fun _ _ h=>fM (by decide) h) hb ?_
     have E56:=hw 56 2 rfl
     have h2:y 2=_:=hd 2 rfl
     refine aj (.agg #[.slice H4.af H4.m.fs.length H4.cf,.int .i64 H4.m.hand,.slice H4.asl H4.sl.length H4.csl,.slice H4.wb H4.sw.blocks.length H4.cwb,.slice H4.wq H4.sw.queue.length H4.cwq,.slice H4.db H4.dk.blocks.length H4.cdb,.slice H4.dq H4.dk.queue.length H4.cdq,.slice H4.ai H4.fi.length H4.ci,.int .i64 H4.ct,.slice H4.ac H4.ca.length H4.cc,.slice H4.ap H4.sp.length H4.cp]) (ah rfl) (bu rfl (E56.trans h2) (cB hb.2.1 0 11) underlying41 rfl (by kernel_rfl)) rfl
    ·intro ρ y W L hw hn hLi hLd hb hd
     refine bS eZ (fun _ _ h=>fM (by decide) h) hb ?_
     have E60:=hw 60 6 rfl
     have h6:y 6=_:=hd 6 rfl
     refine aj (.int .i64 0) (ah rfl) (by simp[execOp,go_sem,bC,E60,h6,hb.2.1.cell,pF]) rfl
    ·intro ρ y W L hw hn hLi hLd hb hd;have E2:ρ (.tmp 2) = .pointer (some ⟨w.heap.size+1,0,none⟩):=(hn (.tmp 2) rfl).trans rfl;have E57:=hw 57 3 rfl;have h3:y 3=_:=hd 3 rfl
     have rxW:=hb.2.2.2.1 hLi
     exact kv (ah rfl) (nS _ _ _ rfl (w.heap.size+1) 0 _ (dC H4).toList E2 (E57.trans h3) rfl _ _ rxW (Nat.le_refl _) mach_size (fun u hu=>by have:=fe H4;rw[←Array.all_toList,List.all_eq_true] at this;exact this u hu)) (Lc hBr.out hLi hb (rxW.setCells _ _) (aA _ _ _ _)) trivial
    intro y W7 hbW7 hRW7
    have hy8:((aR fun _=>True)).r (y 8) W7:=hRW7 8 (by decide)
    clear hRW7
    simp only[bH,bC,List.map_cons,List.map_nil]
    obtain⟨⟨hbre,_⟩,_,hme,_,hrx8⟩:=hbW7
    have rx8:=hrx8 rfl
    go_wp2
    refine bodyPost_ret (v:=.tuple #[.agg (dC H4),.bool false,.int .i64 0]) (fF results22 _ _ (w.heap.size+1) _ _ _ _ _ rfl rfl rfl rx8 underlying41 rfl mach_size) rfl ?_
    exact⟨hbre,H4,by rw[hfc.out];rfl,hme,hm6.out⟩
theorem Em (h:i≠j):bK L i j=L j:=by unfold bK;rw[if_neg (fun e=>h e.symm)]
theorem Ph (h:i≠j):bZ y i v j=y j:=by unfold bZ;rw[if_neg (fun e=>h e.symm)]
def xX (m:Ma) (bits:Int):Ma:={ lI m.m.fs.length m.sl.length m.st.count with dk:=xV (kI bits) m.dk,st:=m.st }
def Nc (w:World) (B b gd gk:Nat) (H N:MH) (vb vq:Value) (D:nT):(Nat→Bool)→(Nat→Value)→World→Prop:=fun L y W=>
 (Below B w W∧B≤W.heap.size)∧(aD W b (dC H) 41∧aD W (b+1) (dC noH) 41∧aD W gd #[vb,vq] 34)∧fQ W B vb vq D ∧
 (L 3=true→∃av cv ps,y 3 = .agg #[.slice av ps.length cv,.int .i64 H.ct]∧kD W B (.slice av ps.length cv) ps∧ps.map PF.fi=H.fi.map PF.fi) ∧
 ∃S:MH,aD W gk (dC S) 41∧oL W B S∧S.m=N.m∧S.sl=N.sl∧S.sw=N.sw∧S.ca=N.ca∧S.sp=N.sp∧(L 5=true→S.dk=D)∧(L 7=true→S.ct=H.ct∧S.fi.map PF.fi=H.fi.map PF.fi)
theorem sD :∀L y W W',Below W.heap.size W W'→Nc w B b gd gk H N vb vq D L y W→Nc w B b gd gk H N vb vq D L y W':=
 fun _ _ _ _ hb ⟨h1,h2,h3,h4,S,h5,h6,h7⟩=>⟨⟨h1.1.trans (hb.mono h1.2),Nat.le_trans h1.2 hb.size⟩,⟨h2.1.ext hb,h2.2.1.ext hb,h2.2.2.ext hb⟩,h3.below hb,fun e=>by
  obtain⟨av,cv,ps,k1,k2,k3⟩:=h4 e
  exact⟨av,cv,ps,k1,k2.below hb,k3⟩,S,h5.ext hb,h6.below hb,h7⟩
theorem xN (hi:i≠3∧i≠5∧i≠7) (h:Nc w B b gd gk H N vb vq D L y W):Nc w B b gd gk H N vb vq D (bK L i) (bZ y i v) W:=by
 unfold Nc at h ⊢
 rw[Em hi.1,Em hi.2.1,Em hi.2.2,Ph hi.1]
 exact h
theorem PO (hb:Below W.heap.size W W') (h:Nc w B b gd gk H N vb vq D L y W) (ho:kD W' B (.slice av ps.length cv) ps) (hp:ps.map PF.fi=H.fi.map PF.fi) :
  Nc w B b gd gk H N vb vq D (bK L 3) (bZ y 3 (.agg #[.slice av ps.length cv,.int .i64 H.ct])) W':=by
 obtain⟨h1,h2,h3,h4,h5⟩:=sD _ _ _ _ hb h
 exact⟨h1,h2,h3,fun _=>⟨av,cv,ps,rfl,ho,hp⟩,h5⟩
theorem kD.keepT (h:kD w B v ps) (hk:aD w g cs T) (h1:T≠67) (h2:T≠3) (hg:w.grownBy w' (some g)):kD w' B v ps:=
 ⟨ak h.own hk h1 hg,fun i p hp=>ak (h.each i p hp) hk h2 hg,h.apart⟩
theorem PD (hgk:B≤gk∧gk≠b∧gk≠b+1) {S:MH}
 (h1:(Below B w W∧B≤W.heap.size)∧(aD W b (dC H) 41∧aD W (b+1) (dC noH) 41∧aD W gd #[.slice ab D.blocks.length cb,.slice aq D.queue.length cq] 34)∧fQ W B (.slice ab D.blocks.length cb) (.slice aq D.queue.length cq) D ∧
 (L 3=true→∃av cv ps,y 3 = .agg #[.slice av ps.length cv,.int .i64 H.ct]∧kD W B (.slice av ps.length cv) ps∧ps.map PF.fi=H.fi.map PF.fi))
 (hS:aD W gk (dC S) 41∧oL W B S∧S.m=N.m∧S.sl=N.sl∧S.sw=N.sw∧S.ca=N.ca∧S.sp=N.sp∧(L 5=true→S.dk=D)∧(L 7=true→S.ct=H.ct∧S.fi.map PF.fi=H.fi.map PF.fi))
 (hk:aD W' gk (bq (dC S) 5 [.slice ab D.blocks.length cb,.slice aq D.queue.length cq]) 41) (hg:W.grownBy W' (some gk)) :
  Nc w B b gd gk H N (.slice ab D.blocks.length cb) (.slice aq D.queue.length cq) D (bK L 5) (bZ y 5 undef) W':=by
 obtain⟨⟨k1,k2⟩,⟨k3,k4,k5⟩,k6,k7⟩:=h1
 obtain⟨s1,s2,s3,s4,s5,s6,s7,s8,s9⟩:=hS
 have hd:fQ W' B (.slice ab D.blocks.length cb) (.slice aq D.queue.length cq) D:=k6.keep s1 (by decide) (by decide) hg
 refine⟨⟨k1.grown hg k2 (fun k hk=>by cases hk;exact hgk.1),Nat.le_trans k2 hg.size⟩,⟨k3.grown hg (fun e=>hgk.2.1 (Option.some.inj e)),k4.grown hg (fun e=>hgk.2.2 (Option.some.inj e)),aW k5 s1 (by decide) hg⟩,hd,fun e => ?_,{ S with db:=ab,cdb:=cb,dq:=aq,cdq:=cq,dk:=D },hk,{ s2.keep s1 (by decide) hg with dk:=hd },s3,s4,s5,s6,s7,fun _=>rfl,fun e=>s9 e⟩
 obtain⟨av,cv,ps,e1,e2,e3⟩:=k7 e
 exact⟨av,cv,ps,e1,e2.keepT s1 (by decide) (by decide) hg,e3⟩
theorem PP (hgk:B≤gk∧gk≠b∧gk≠b+1) {S:MH} 
 (h1:(Below B w W∧B≤W.heap.size)∧(aD W b (dC H) 41∧aD W (b+1) (dC noH) 41∧aD W gd #[vb,vq] 34)∧fQ W B vb vq D)
 (hy:y 3 = .agg #[.slice av ps.length cv,.int .i64 H.ct]∧kD W B (.slice av ps.length cv) ps∧ps.map PF.fi=H.fi.map PF.fi) (h64 : -9223372036854775808≤H.ct∧H.ct≤9223372036854775807)
 (hS:aD W gk (dC S) 41∧oL W B S∧S.m=N.m∧S.sl=N.sl∧S.sw=N.sw∧S.ca=N.ca∧S.sp=N.sp∧(L 5=true→S.dk=D)∧(L 7=true→S.ct=H.ct∧S.fi.map PF.fi=H.fi.map PF.fi))
 (hk:aD W' gk (bq (dC S) 7 [.slice av ps.length cv,.int .i64 H.ct]) 41) (hg:W.grownBy W' (some gk)) :
  Nc w B b gd gk H N vb vq D (bK L 7) (bZ y 7 undef) W':=by
 obtain⟨⟨k1,k2⟩,⟨k3,k4,k5⟩,k6⟩:=h1
 obtain⟨e1,e2,e3⟩:=hy
 obtain⟨s1,s2,s3,s4,s5,s6,s7,s8,s9⟩:=hS
 have hf:kD W' B (.slice av ps.length cv) ps:=e2.keepT s1 (by decide) (by decide) hg
 exact⟨⟨k1.grown hg k2 (fun k hk=>by cases hk;exact hgk.1),Nat.le_trans k2 hg.size⟩,⟨k3.grown hg (fun e=>hgk.2.1 (Option.some.inj e)),k4.grown hg (fun e=>hgk.2.2 (Option.some.inj e)),aW k5 s1 (by decide) hg⟩,k6.keep s1 (by decide) (by decide) hg,fun _=>⟨av,cv,ps,e1,hf,e3⟩,{ S with ai:=av,ci:=cv,fi:=ps,ct:=H.ct },hk,{ s2.keep s1 (by decide) hg with st:=hf,c64:=h64 },s3,s4,s5,s6,s7,fun e=>s8 e,fun _=>⟨rfl,e3⟩⟩
def QB (H:MH) (bits:Int) (w:World) (r:Ending) (w' : World):Prop:=Below w.heap.size w w'∧∃H' : MH,r = .returned (.tuple #[.agg (dC H'),.int .i64 0])∧oL w' w.heap.size H'∧H'.ma=xX H.ma bits
theorem NB (h:Rt m):(((0:Int)≤m.m.fs.length∧(m.m.fs.length:Int)≤40)∧((0:Int)≤m.sl.length∧(m.sl.length:Int)≤60)∧0≤m.st.count∧m.st.count≤80):=by
 have h1:=((dB _).1 h.pt.fr).1
 have h2:=gM h.pt.sl
 have h3:=(gF h.pt.st).2
 omega
theorem Ff (H:MH) (bits:Int) (w:World) (h:xA w H) (hR:Rt H.ma) (hC:Co H.ma) :
  Calls Tryz.prog 26 #[.agg (dC H),.int .i64 bits] w (QB H bits w):=by
 have hst0:=Lib.hid h.st
 have hR':=Lib.hid hR
 have hC':=Lib.hid hC
 have hz0:=Lib.hid (oh hR)
 clear hR hC
 go_enter func26,ntmps26
 go_upto_region 1 with (fail)
 refine oJ (fun W=>Code.wp _ _ _ _ W) fun w1 hb1 bx1 rx1 hs1 => ?_
 have bx1:aD w1 w.heap.size (dC H) 41:=bx1
 have rx1:aD w1 (w.heap.size+1) (dC noH) 41:=rx1
 have h1:=h.below hb1
 clear h
 go_wp2_with (refine ay _ _ rfl w.heap.size 0 rfl rfl _ bx1.rd _ underlying41 rfl machine_size ?_)
 refine (lF H _ h1).mono ?_
 rintro r w2 ⟨rfl,hb2⟩
 rw[Aw.2 hR'.out]
 have h2:=h1.below hb2
 have bx2:=bx1.ext hb2
 have rx2:=rx1.ext hb2
 have hbr2:=ag hb1 hb2
 clear h1 bx1 rx1 hb1 hb2 hs1
 have hE:uY H.m.fs.length H.sl.length H.ct=0:=if_pos (NB hR'.out)
 have hwd:aZ H.dk=0:=hR'.out.pt.dk
 have hc2:=bx2.cell
 unfold dC at hc2
 go_wp2_with fail
 refine (Cx H.m.fs.length H.sl.length H.ct _ h2.c64).mono ?_
 rintro r w3 ⟨N,rfl,hoN,hmN,hb3⟩
 rw[hE]
 have hmN':=Lib.hid hmN
 have h3:=h2.below hb3
 have bx3:=bx2.ext hb3
 have rx3:=rx2.ext hb3
 have hbr3:=ag hbr2 hb3
 have hNB:=hoN.mono hbr2.size
 clear h2 bx2 rx2 hc2 hbr2 hb3 hmN hoN hE
 go_wp2_with (refine aL rfl _ _ _ rfl (dC N) rfl rfl rfl machine_size (fe _) ?_)
 intro w4 hb4 nx4
 have h4:=h3.below hb4
 have bx4:=bx3.ext hb4
 have rx4:=rx3.ext hb4
 have hbr4:=ag hbr3 hb4
 have hN4:=hNB.below hb4
 have hgk:Hid (w.heap.size≤w3.heap.size∧w3.heap.size≠w.heap.size∧w3.heap.size≠w.heap.size+1):=Lib.hid ⟨hbr3.size,by have:=rx3.lt;omega,by have:=rx3.lt;omega⟩
 clear h3 bx3 rx3 hbr3 hb4 hNB
 generalize w3.heap.size=gk at nx4 hgk
 go_wp2_with (refine ay _ _ rfl w.heap.size 5 rfl rfl _ (cB bx4 5 2) _ underlying34 rfl disk_size ?_)
 refine (Fs H.dk H.db H.cdb H.dq H.cdq bits _ h4.dk).mono ?_
 rintro r w5 ⟨vb,vq,rfl,hD,hb5⟩
 rw[hwd]
 have h5:=h4.below hb5
 have bx5:=bx4.ext hb5
 have rx5:=rx4.ext hb5
 have nx5:=nx4.ext hb5
 have hbr5:=ag hbr4 hb5
 have hN5:=hN4.below hb5
 have hD5:=hD.mono hbr4.size
 clear h4 bx4 rx4 nx4 hbr4 hb5 hN4 hD hwd
 obtain⟨D,hDD⟩:∃D,Hid (D=xV (kI bits) H.dk):=⟨_,Lib.hid rfl⟩
 rw[←hDD.out] at hD5
 obtain⟨ab,cb,aq,cq,rfl,rfl,_⟩:=hD5.rd
 go_wp2_with (refine aL rfl _ _ _ rfl #[.slice ab D.blocks.length cb,.slice aq D.queue.length cq] rfl rfl rfl disk_size (by simp[Value.oneCell']) ?_)
 intro w6 hb6 dx6
 have h6:=h5.below hb6
 have bx6:=bx5.ext hb6
 have rx6:=rx5.ext hb6
 have nx6:=nx5.ext hb6
 have hbr6:=ag hbr5 hb6
 have hN6:=hN5.below hb6
 have hD6:=hD5.below hb6
 clear h5 bx5 rx5 nx5 hbr5 hb6 hN5 hD5
 generalize w5.heap.size=gd at dx6
 have hsz:Hid (NM H.fi):=Lib.hid (zq (ps:=H.fi) (k:=H.ct) hR'.out.pt.st)
 have h64:=Lib.hid h6.c64
 go_upto_region 10 with (fail)
 refine lu 8 [.v (.agg #[.slice ab D.blocks.length cb,.slice aq D.queue.length cq]),_,.v (.agg #[.slice H.ai H.fi.length H.ci,.int .i64 H.ct]),.r 3 ((aR fun _=>True)),_,.r 5 ((aR fun _=>True)),_,.r 7 ((aR fun _=>True))] (Nc w w.heap.size w.heap.size gd gk H N (.slice ab D.blocks.length cb) (.slice aq D.queue.length cq) D) sD (fun y=>⟨⟨hbr6,hbr6.size⟩,⟨bx6,rx6,dx6⟩,hD6,fun e=>(by cases e),N,nx6,hN6,rfl,rfl,rfl,rfl,rfl,fun e=>(by cases e),fun e=>(by cases e)⟩) (ae ?_ (Qf sD w.heap.size 7 rfl rfl (ae ?_ (ae ?_ (Qf sD gk 5 rfl rfl (ae ?_ (Qf sD gk 7 rfl rfl (ae ?_ (aB)) (fun _ _ _ _ hLd h=>xN (by decide) h))) (fun _ _ _ _ hLd h=>xN (by decide) h)))) (fun _ _ _ _ hLd h=>xN (by decide) h))) (fun _=>rfl) rfl ?_
 ·intro ρ y W L hw hn hLi hLd hb hd
  refine bS sD (fun _ _ h=>xN (by decide) h) hb ?_
  have E9:ρ (.tmp 9) = .pointer (some ⟨gd,0,none⟩):=(hn (.tmp 9) rfl).trans rfl
  have dxW:=hb.2.1.2.2
  refine aj (.agg #[.slice ab D.blocks.length cb,.slice aq D.queue.length cq]) (ah rfl) (bI rfl E9 dxW underlying34 rfl disk_size) rfl
 ·intro ρ y W L hw hn hLi hLd hb hd
  refine bS sD (fun _ _ h=>xN (by decide) h) hb ?_
  have E47:=hw 47 1 rfl
  have h1:y 1=_:=hd 1 rfl
  have bxW:=hb.2.1.1
  refine aj (.agg #[.slice H.ai H.fi.length H.ci,.int .i64 H.ct]) (ah rfl) (bu rfl (E47.trans h1) (cB bxW 7 2) underlying37 rfl store_size) rfl
 ·intro ρ y W L hw hn hLi hLd hb hd;have E48:=hw 48 2 rfl;have h2:y 2=_:=hd 2 rfl
  have EF:∀f,ρ (.func f) = .func (.func f) #[] #[]:=fun f=>hn (.func f) trivial
  refine eu _ _ (ah rfl) (aN rfl (EF _) func61 (by kernel_rfl) (by kernel_rfl) (by simp only[List.map_toArray,List.map_cons,List.map_nil,E48,h2,EF];rfl)) ?_
  have hst:EU W H.ai H.ci H.fi:=hst0.out.below hb.1.1
  refine (xx H.fi H.ct H.ai H.ci W hst hsz.out).mono ?_
  rintro r w9 ⟨v,ps,rfl,ho,hp,hb9⟩
  obtain⟨av,cv,rfl,_⟩:=ho.own.rd
  exact⟨_,rfl,PO hb9 hb (ho.mono hb.1.2) hp,trivial⟩
 ·intro ρ y W L hw hn hLi hLd hb hd;have E50:=hw 50 4 rfl;have h4:y 4=_:=hd 4 rfl;have E46:=hw 46 0 rfl;have h0:y 0=_:=hd 0 rfl
  obtain⟨j1,j2,j3,j4,S,jS⟩:=hb
  exact kv (ah rfl) (nS _ _ _ rfl gk 5 _ [.slice ab D.blocks.length cb,.slice aq D.queue.length cq] (E50.trans h4) (E46.trans h0) rfl _ _ jS.1 (by show 5+2≤11;decide) disk_size (fun u hu=>by simp at hu;rcases hu with rfl | rfl<;>rfl)) (PD hgk.out ⟨j1,j2,j3,j4⟩ jS (jS.1.setCells _ _) (aA _ _ _ _)) trivial
 ·intro ρ y W L hw hn hLi hLd hb hd;have E51:=hw 51 6 rfl;have h6:y 6=_:=hd 6 rfl;have E49:=hw 49 3 rfl;have h3:=hd 3 rfl
  obtain⟨j1,j2,j3,j4,S,jS⟩:=hb
  obtain⟨av,cv,ps,k1,k2,k3⟩:=j4 (hLd 3 rfl)
  exact kv (ah rfl) (nS _ _ _ rfl gk 7 _ [.slice av ps.length cv,.int .i64 H.ct] (E51.trans h6) (E49.trans k1) rfl _ _ jS.1 (by show 7+2≤11;decide) store_size (fun u hu=>by simp at hu;rcases hu with rfl | rfl<;>rfl)) (PP hgk.out ⟨j1,j2,j3⟩ ⟨k1,k2,k3⟩ h64.out jS (jS.1.setCells _ _) (aA _ _ _ _)) trivial
 intro y W7 hbW7 hRW7
 have hy3:((aR fun _=>True)).r (y 3) W7:=hRW7 3 (by decide)
 have hy5:((aR fun _=>True)).r (y 5) W7:=hRW7 5 (by decide)
 have hy7:((aR fun _=>True)).r (y 7) W7:=hRW7 7 (by decide)
 clear hRW7
 simp only[bH,bC,List.map_cons,List.map_nil]
 obtain⟨⟨j1,_⟩,⟨_,rx7,_⟩,_,_,S,nx7,hS,s1,s2,s3,s4,s5,s6,s7⟩:=hbW7
 have hm:Hid (S.ma=xX H.ma bits):=Lib.hid (by
  have e1:=s6 rfl
  obtain⟨e2,e3⟩:=s7 rfl
  unfold xX
  show (⟨S.m,S.sl,S.sw,S.dk,⟨S.fi.map PF.fi,S.ct⟩,S.ca,S.sp.map PS.sp⟩:Ma)=_
  rw[s1,s2,s3,e1,e2,e3,s4,s5,hDD.out]
  have:=hmN'.out
  rw[show lI H.ma.m.fs.length H.ma.sl.length H.ma.st.count=N.ma from this.symm]
  rfl)
 clear s1 s2 s3 s4 s5 s6 s7 hbr6 bx6 rx6 nx6 dx6 hN6 hD6 h6
 go_wp2_with (first | (refine ay _ _ rfl gk 0 rfl rfl _ nx7.rd _ underlying41 rfl machine_size ?_) | (refine ax rfl _ _ _ rfl (w.heap.size+1) (dC S) rfl rfl _ _ rx7 rfl mach_size (fe _) ?_))
 intro w8 rx8 hg8
 have hbre:=j1.grown hg8 (by have:=j1.size;exact this) (fun k hk=>by cases hk;omega)
 have hme:=hS.keep rx7 (by decide) hg8
 go_wp2
 refine bodyPost_ret (v:=.tuple #[.agg (dC S),.int .i64 0]) (dK results26 _ _ (w.heap.size+1) _ _ _ _ rfl rfl rx8 underlying41 rfl mach_size) rfl ?_
 exact⟨hbre,S,rfl,hme,hm.out⟩
theorem FH (H:MH) (f:Int) (w:World) (h:xA w H) (hR:Rt H.ma) (hC:Co H.ma) (hf:f<0∨(H.fi.length:Int)≤f) :
  Calls Tryz.prog 23 #[.agg (dC H),.int .i64 f] w fun r w'=>r = .returned (.tuple #[.agg (dC noH),.int .i64 5])∧Below w.heap.size w w':=by
 have hR':=Lib.hid hR
 have hC':=Lib.hid hC
 have hz0:=Lib.hid (oh hR)
 clear hR hC
 go_enter func23,ntmps23
 go_upto_region 1 with (fail)
 refine oJ (fun W=>Code.wp _ _ _ _ W) fun w1 hb1 bx1 rx1 hs1 => ?_
 have bx1:aD w1 w.heap.size (dC H) 41:=bx1
 have rx1:aD w1 (w.heap.size+1) (dC noH) 41:=rx1
 have h1:=h.below hb1
 clear h
 go_wp2_with (refine ay _ _ rfl w.heap.size 0 rfl rfl _ bx1.rd _ underlying41 rfl machine_size ?_)
 refine (lF H _ h1).mono ?_
 rintro r w2 ⟨rfl,hb2⟩
 rw[Aw.2 hR'.out]
 have h2:=h1.below hb2
 have bx2:=bx1.ext hb2
 have rx2:=rx1.ext hb2
 have hbr2:=ag hb1 hb2
 clear h1 bx1 rx1 hb1 hb2 hs1
 have hc:=bx2.cell
 unfold dC at hc
 by_cases h0:f<0
 ·clear hf
  go_wp2_with (refine ax rfl _ _ _ rfl (w.heap.size+1) (dC noH) rfl rfl _ _ rx2 rfl mach_size (fe noH) ?_)
  intro we hre hge
  have hbre:=hbr2.grown hge hbr2.size (fun k hk=>by cases hk;omega)
  go_wp2
  refine bodyPost_ret (v:=.tuple #[.agg (dC noH),.int .i64 5]) (dK results23 _ _ (w.heap.size+1) _ _ _ _ rfl rfl hre underlying41 rfl mach_size) rfl ?_
  exact⟨rfl,hbre⟩
 ·have h1:(H.fi.length:Int)≤f:=by omega
  clear hf
  go_wp2_with (refine ax rfl _ _ _ rfl (w.heap.size+1) (dC noH) rfl rfl _ _ rx2 rfl mach_size (fe noH) ?_)
  intro we hre hge
  have hbre:=hbr2.grown hge hbr2.size (fun k hk=>by cases hk;omega)
  go_wp2
  refine bodyPost_ret (v:=.tuple #[.agg (dC noH),.int .i64 5]) (dK results23 _ _ (w.heap.size+1) _ _ _ _ rfl rfl hre underlying41 rfl mach_size) rfl ?_
  exact⟨rfl,hbre⟩
theorem Lj (hm:m=⟨rY 2,wJ 2,lW 2,lW 2,⟨[],2⟩,[],[⟨true,[],zTb⟩]⟩) (hR:Rt m) (hC:Co m):(dG ⟨m,0⟩).2=false∧(dG ⟨m,0⟩).1.m.m.fs.length=2∧jC m=none∧(xX m 0).dk.blocks.length=2∧(xX m 0).sp.length=1:=by
 have hz:∀f,(aO m f).r=0∧(aO m f).d=false:=fun f=>by
  rw[hm]
  match f with
  | 0=>exact⟨rfl,rfl⟩
  | 1=>exact⟨rfl,rfl⟩
  | f+2=>
   have:aO (⟨rY 2,wJ 2,lW 2,lW 2,⟨[],2⟩,[],[⟨true,[],zTb⟩]⟩:Ma) (f+2)=fr0:=by
    unfold aO
    rw[List.getD_eq_getElem?_getD,List.getElem?_eq_none (by show 2≤f+2;omega)];rfl
   rw[this];exact⟨rfl,rfl⟩
 obtain⟨_,o,hF,ho⟩:=yw (k:=⟨m,0⟩) hR hC
 have hl:m.m.fs.length=2:=by rw[hm];rfl
 refine⟨?_,by rw[hF.len];exact hl,?_,?_,?_⟩
 ·cases e:(dG ⟨m,0⟩).2 with
  | false=>rfl
  | true=>
   exfalso
   cases o with
   | none=>exact (ho.1 e) rfl
   | some f=>exact (hF.free f rfl).2.2 (hz f).1
 ·exact zB fun j _=>by unfold vg;rw[(hz j).2];rfl
 ·rw[hm];decide +kernel
 ·rw[hm];rfl
theorem NE (w:World):Calls Tryz.prog 18 #[] w fun r w'=>r = .returned (.bool true)∧Below w.heap.size w w':=by
 go_enter func18,ntmps18
 go_wp2_with fail
 refine (yo 2 2 2 none 0 [] w ⟨Nat.le_refl _,by decide,fun _=>rfl,fun i u h=>(by simp at h)⟩).mono ?_
 rintro r w1 ⟨H,rfl,ho,hb1,hRt,hCo,_,_,_,_,hnew⟩
 have hma:H.ma=⟨rY 2,wJ 2,lW 2,lW 2,⟨[],2⟩,[],[⟨true,[],zTb⟩]⟩:=(hnew rfl).trans new2
 obtain⟨n1,n2,n3,n4,n5⟩:=Lj hma hRt hCo
 have hsl:Hid (H.ma.sl.length=2):=Lib.hid (by rw[hma];rfl)
 have hfl:Hid (H.fi.length=0):=Lib.hid (by
  have e:H.ma.st.fs.length=0:=by rw[hma];rfl
  rwa [show H.ma.st.fs.length=H.fi.length from List.length_map _] at e)
 have hn:=Lib.hid (And.intro n1 (And.intro n2 (And.intro n3 (And.intro n4 n5))))
 have hR:=Lib.hid hRt
 have hC:=Lib.hid hCo
 have hr1:=ho.rd
 clear hnew hma hRt hCo ho n1 n2 n3 n4 n5
 go_wp2_with (refine aL rfl _ _ _ rfl (dC H) rfl rfl rfl machine_size (fe _) ?_)
 intro w2 hb2 bx2
 have hr2:=hr1.below hb2
 have hbr2:=ag hb1 hb2
 clear hr1 hb1 hb2
 generalize w1.heap.size=gm at bx2
 go_wp2_with (refine ay _ _ rfl gm 0 rfl rfl _ bx2.rd _ underlying41 rfl machine_size ?_)
 refine (EH H _ hr2 hR.out hC.out).mono ?_
 rintro r w3 ⟨hb3,K,rfl,hoK,hmK⟩
 rw[hn.out.1]
 have hKl:Hid (K.m.fs.length=2):=Lib.hid (by have:=hn.out.2.1;rw[←hmK] at this;exact this)
 have hr3:=hr2.below hb3
 have bx3:=bx2.ext hb3
 have hbr3:=ag hbr2 hb3
 clear hr2 bx2 hbr2 hb3 hoK hmK
 go_wp2_with (refine aL rfl _ _ _ rfl (dC K) rfl rfl rfl machine_size (fe _) ?_)
 intro w4 hb4 kx4
 have hr4:=hr3.below hb4
 have bx4:=bx3.ext hb4
 have hbr4:=ag hbr3 hb4
 clear hr3 bx3 hbr3 hb4
 generalize w3.heap.size=gk at kx4
 go_wp2_with (refine ay _ _ rfl gm 0 rfl rfl _ bx4.rd _ underlying41 rfl machine_size ?_)
 refine (sI H _ hr4 hR.out hC.out).mono ?_
 rintro r w5 ⟨hb5,N,rfl,hoN,hmN⟩
 have hNl:Hid (N.sl.length=2):=Lib.hid (by
  have e:N.ma.sl.length=2:=by
   rw[hmN]
   unfold qH
   rw[hn.out.2.2.1]
   exact hsl.out
  exact e)
 rw[hn.out.2.2.1]
 have hr5:=hr4.below hb5
 have bx5:=bx4.ext hb5
 have kx5:=kx4.ext hb5
 have hbr5:=ag hbr4 hb5
 clear hr4 bx4 kx4 hbr4 hb5 hoN hmN
 go_wp2_with (refine aL rfl _ _ _ rfl (dC N) rfl rfl rfl machine_size (fe _) ?_)
 intro w6 hb6 nx6
 have hr6:=hr5.below hb6
 have bx6:=bx5.ext hb6
 have kx6:=kx5.ext hb6
 have hbr6:=ag hbr5 hb6
 clear hr5 bx5 kx5 hbr5 hb6
 generalize w5.heap.size=gn at nx6
 go_wp2_with (refine ay _ _ rfl gm 0 rfl rfl _ bx6.rd _ underlying41 rfl machine_size ?_)
 refine (Ff H 0 _ hr6 hR.out hC.out).mono ?_
 rintro r w7 ⟨hb7,X,rfl,hoX,hmX⟩
 have hXl:Hid (X.dk.blocks.length=2∧X.sp.length=1):=Lib.hid (by
  have e1:=hn.out.2.2.2.1
  have e2:=hn.out.2.2.2.2
  rw[←hmX] at e1 e2
  exact⟨e1,by rwa [BM] at e2⟩)
 have hr7:=hr6.below hb7
 have bx7:=bx6.ext hb7
 have kx7:=kx6.ext hb7
 have nx7:=nx6.ext hb7
 have hbr7:=ag hbr6 hb7
 clear hr6 bx6 kx6 nx6 hbr6 hb7 hoX hmX
 go_wp2_with (refine aL rfl _ _ _ rfl (dC X) rfl rfl rfl machine_size (fe _) ?_)
 intro w8 hb8 xx8
 have hr8:=hr7.below hb8
 have bx8:=bx7.ext hb8
 have kx8:=kx7.ext hb8
 have nx8:=nx7.ext hb8
 have hbr8:=ag hbr7 hb8
 clear hr7 bx7 kx7 nx7 hbr7 hb8
 generalize w7.heap.size=gx at xx8
 go_wp2_with (refine ay _ _ rfl gm 0 rfl rfl _ bx8.rd _ underlying41 rfl machine_size ?_)
 refine (FH H 0 _ hr8 hR.out hC.out (.inr (by rw[hfl.out];decide))).mono ?_
 rintro r w9 ⟨rfl,hb9⟩
 have kx9:=kx8.ext hb9
 have nx9:=nx8.ext hb9
 have xx9:=xx8.ext hb9
 have hbr9:=ag hbr8 hb9
 clear hr8 bx8 kx8 nx8 xx8 hbr8 hb9
 go_wp2_with (refine aL rfl _ _ _ rfl (dC noH) rfl rfl rfl machine_size (fe _) ?_)
 intro w10 hb10 zx10
 have kx10:=kx9.ext hb10
 have nx10:=nx9.ext hb10
 have xx10:=xx9.ext hb10
 have hbr10:=ag hbr9 hb10
 clear kx9 nx9 xx9 hbr9 hb10 zx10
 have ck:=kx10.cell
 have cn:=nx10.cell
 have cx:=xx10.cell
 unfold dC at ck cn cx
 rw[hKl.out] at ck
 rw[hNl.out] at cn
 rw[hXl.out.1,hXl.out.2] at cx
 go_wp2
 go_ret
 exact⟨rfl,hbr10⟩
theorem JQ {l:List Int} (hk:k<l.length):jL (l.take (k+1))=jL (l.take k)+if 0≤l[k] then 1 else 0:=by
 rw[List.take_add_one,List.getElem?_eq_getElem hk,Cw]
 congr 1
 unfold jL
 by_cases h:0≤l[k]<;>simp[h]
theorem lM (H:MH) (w:World) (h:xA w H) (hz:MJ H.ma) :
  Calls Tryz.prog 24 #[.agg (dC H)] w fun r w'=>r = .returned (.int .i64 (fH H.m.fs:Int))∧Below w.heap.size w w':=by
 have hf1:H.m.fs.length≤1000:=hz.fs
 go_enter func24,ntmps24
 go_upto_region 1 with (fail)
 refine gB (fun W=>Code.wp _ _ _ _ W) fun w1 hb1 bx1 hs1 => ?_
 have bx1:aD w1 w.heap.size (dC H) 41:=bx1
 have hh:=Lib.hid h
 clear h hs1
 have hc:=bx1.cell
 unfold dC at hc
 go_upto_region 3 with (fail)
 clear hc
 go_loopw [10,3] (fun i n wr => ∃j:Nat,j≤H.m.fs.length∧i = .int .i64 j∧n = .int .i64 (((H.m.fs.take j).countP fun f=>f.d:Nat):Int)∧Below w.heap.size w wr) (fun i _ _=>H.m.fs.length-(intOf i).toNat)
 case atStart=>exact⟨0,Nat.zero_le _,rfl,rfl,hb1⟩
 case round=>
  clear hb1 bx1
  obtain⟨j,hj,rfl,rfl,hbr⟩:=hrel
  by_cases hjl:j<H.m.fs.length
  ·have hji:(j:Int)<(H.m.fs.length:Int):=by omega
   obtain⟨bf,of,haf,hel⟩:=kJ eB (by decide) (hh.out.below hbr).fr.rd j hjl
   have hct:Hid ((H.m.fs.take (j+1)).countP (fun f=>f.d)=(H.m.fs.take j).countP (fun f=>f.d)+if (H.m.fs[j]).d=true then 1 else 0):=Lib.hid (DI _ _ _ hjl)
   have hcl:(H.m.fs.take j).countP (fun f=>f.d)≤j:=Nat.le_trans List.countP_le_length (by rw[List.length_take];omega)
   generalize H.m.fs[j]=F at *
   generalize (H.m.fs.take j).countP (fun f=>f.d)=C at *
   rw[haf]
   clear haf
   go_wp2_with (first | (refine ay _ _ rfl bf (of+j*13) rfl rfl _ hel _ underlying81 rfl frame_size ?_) | (refine aL rfl _ _ _ rfl (uP F) rfl rfl rfl frame_size (qg _) ?_))
   intro w5 hb5 fx5
   have hbr5:=ag hbr hb5
   clear hb5 hel hbr
   have hf5:=fx5.cell
   unfold uP at hf5
   cases hr:F.d with
   | true=>
    have hct' : Hid ((H.m.fs.take (j+1)).countP (fun f=>f.d)=C+1):=Lib.hid (by rw[hct.out];simp[hr])
    clear hct
    go_wp2
    go_roundw
    case rel=>exact⟨j+1,by omega,by go_num,by rw[hct'.out];go_num,hbr5⟩
    case measure=>simp[intOf];omega
   | false=>
    have hct' : Hid ((H.m.fs.take (j+1)).countP (fun f=>f.d)=C):=Lib.hid (by rw[hct.out];simp[hr])
    clear hct
    go_wp2
    go_roundw
    case rel=>exact⟨j+1,by omega,by go_num,by rw[hct'.out],hbr5⟩
    case measure=>simp[intOf];omega
  ·have hji:¬(j:Int)<(H.m.fs.length:Int):=by omega
   have hct:Hid ((H.m.fs.take j).countP (fun f=>f.d)=fH H.m.fs):=Lib.hid (by rw[List.take_of_length_le (by omega)];rfl)
   rw[hct.out]
   go_wp2
   go_ret
   exact⟨rfl,hbr⟩
theorem ED (H:MH) (w:World) (h:xA w H) (hR:Rt H.ma) :
  Calls Tryz.prog 25 #[.agg (dC H)] w fun r w'=>r = .returned (.bool (jb H.ma.st==0))∧Below w.heap.size w w':=by
 have hR:=Lib.hid hR
 have hct80:0≤H.ct∧H.ct≤80:=(gF hR.out.pt.st).2
 have hfl5:H.fi.length≤5:=by
  have:=(gF hR.out.pt.st).1
  rwa [show H.ma.st.fs.length=H.fi.length from List.length_map _] at this
 go_enter func25,ntmps25
 go_upto_region 1 with (fail)
 refine gB (fun W=>Code.wp _ _ _ _ W) fun w1 hb1 bx1 hs1 => ?_
 have bx1:aD w1 w.heap.size (dC H) 41:=bx1
 have h1:=h.below hb1
 clear h hs1
 have hc:=bx1.cell
 unfold dC at hc
 go_upto_region 3 with (fail)
 clear hc
 go_loopw [15,3] (fun i v wr => ∃q:Nat,q≤H.fi.length∧i = .int .i64 q∧v = .int .i64 (H.ct-(jL (jr (H.fi.take q)):Int))∧Below w.heap.size w wr∧xA wr H∧jL (jr (H.fi.take q))≤12*q) (fun i _ _=>H.fi.length-(intOf i).toNat)
 case atStart=>exact⟨0,Nat.zero_le _,rfl,by simp[jr,jL],hb1,h1,by simp[jr,jL]⟩
 case round=>
  clear hb1 bx1 h1
  obtain⟨q,hq,rfl,rfl,hbr,hrd,hcq⟩:=hrel
  by_cases hql:q<H.fi.length
  ·have hqi:(q:Int)<(H.fi.length:Int):=by omega
   obtain⟨bf,of,hai,hel⟩:=kJ iC (by decide) hrd.st.rd q hql
   obtain⟨p,hp⟩:∃p,H.fi[q]?=some p:=⟨_,List.getElem?_eq_getElem hql⟩
   rw[show H.fi[q]=p from (List.getElem?_eq_some_iff.1 hp).2] at hel
   have hpm:p∈H.fi:=List.mem_of_getElem? hp
   have hp12:p.l.length≤12:=uZ hR.out.pt.st p.fi (List.mem_map.2 ⟨p,hpm,rfl⟩)
   have hst:Hid (jr (H.fi.take (q+1))=jr (H.fi.take q)++p.l):=Lib.hid (xy hp)
   rw[hai]
   clear hai hp
   generalize jr (H.fi.take q)=A at *
   go_wp2_with (first | (refine ay _ _ rfl bf (of+q*2) rfl rfl _ hel _ underlying67 rfl file_size ?_) | (refine aL rfl _ _ _ rfl (kX p) rfl rfl rfl file_size (lC p) ?_))
   intro w6 hb6 px6
   have hrd6:=hrd.below hb6
   have hbr6:=ag hbr hb6
   clear hrd hbr hb6 hel
   have hcp:=px6.cell
   unfold kX at hcp
   go_upto_region 6 with (fail)
   clear hcp
   go_loopw [22,3] (fun i v wr => ∃m:Nat,m≤p.l.length∧i = .int .i64 m∧v = .int .i64 (H.ct-(jL A:Int)-(jL (p.l.take m):Int))∧Below w.heap.size w wr∧xA wr H) (fun i _ _=>p.l.length-(intOf i).toNat)
   case atStart=>exact⟨0,Nat.zero_le _,rfl,by simp[jL],hbr6,hrd6⟩
   case round=>
    clear hbr6 hrd6
    obtain⟨m,hm,rfl,rfl,hbr,hrd⟩:=hrel
    have hcm:jL (p.l.take m)≤m:=Nat.le_trans (NC _) (by rw[List.length_take];omega)
    by_cases hml:m<p.l.length
    ·have hmi:(m:Int)<(p.l.length:Int):=by omega
     obtain⟨bi,oi,hpa,hce⟩:=iA (hrd.st.good p hpm).rd m hml
     have hcn:Hid (jL (p.l.take (m+1))=jL (p.l.take m)+if 0≤p.l[m] then 1 else 0):=Lib.hid (JQ hml)
     generalize p.l[m]=z at *
     generalize jL (p.l.take m)=C at *
     generalize jL A=A1 at *
     rw[hpa]
     clear hpa
     by_cases hz:0≤z
     ·have hcn' : Hid (jL (p.l.take (m+1))=C+1):=Lib.hid (by rw[hcn.out,if_pos hz])
      clear hcn
      go_wp2
      go_roundw
      case rel=>exact⟨m+1,by omega,by go_num,by rw[hcn'.out];go_num,hbr,hrd⟩
      case measure=>simp[intOf];omega
     ·have hcn' : Hid (jL (p.l.take (m+1))=C):=Lib.hid (by rw[hcn.out,if_neg hz];rfl)
      clear hcn
      go_wp2
      go_roundw
      case rel=>exact⟨m+1,by omega,by go_num,by rw[hcn'.out],hbr,hrd⟩
      case measure=>simp[intOf];omega
    ·have hmi:¬(m:Int)<(p.l.length:Int):=by omega
     have hfin:Hid (jL (jr (H.fi.take (q+1)))=jL A+jL (p.l.take m)):=Lib.hid (by rw[hst.out,Cw,List.take_of_length_le (by omega)])
     have h12:jL A+jL (p.l.take m)≤12*(q+1):=by omega
     clear hst hml hm
     generalize jL (p.l.take m)=C at *
     generalize jL A=A1 at *
     go_wp2
     go_roundw
     case rel=>exact⟨q+1,by omega,by go_num,by rw[hfin.out,Int.natCast_add,Int.sub_sub],hbr,hrd,by rw[hfin.out];exact h12⟩
     case measure=>simp[intOf];omega
  ·have hqi:¬(q:Int)<(H.fi.length:Int):=by omega
   have hlf:Hid (H.ct-(jL (jr (H.fi.take q)):Int)=jb H.ma.st):=Lib.hid (by
    rw[List.take_of_length_le (by omega)]
    unfold jb
    rw[show iU H.ma.st=jr H.fi from qY H.fi H.ct]
    rfl)
   rw[hlf.out]
   clear hlf hcq hq hql
   obtain⟨x,hx⟩:∃x,Hid (jb H.ma.st=x):=⟨_,Lib.hid rfl⟩
   rw[hx.out]
   go_wp2
   go_ret
   exact⟨by rw[hx.out];rfl,hbr⟩
theorem AA (hR:Rt m) (hC:Co m) (h:fH m.m.fs=0):jC m=none:=by
 cases e:jC m with
 | none=>rfl
 | some f=>
  obtain⟨_,_,_,h1⟩:=sj hR hC e
  omega
theorem BC (cf cs cb:Int) (l:List UInt8) (al:Option Addr) (cl:Nat) (w:World) (hr:nR w al cl l.length (l.map wU)) :
  Calls Tryz.prog 6 #[.agg #[.int .i64 cf,.int .i64 cs,.int .i64 cb],.slice al l.length cl] w fun r w'=>r = .returned (.bool true)∧Below w.heap.size w w':=by
 go_enter func6,ntmps6
 go_upto_region 1 with (fail)
 refine gB (fun W=>Code.wp _ _ _ _ W) fun w1 hb1 cx1 hs1 => ?_
 have hr1:=hr.below hb1
 clear hr
 go_wp2_with fail
 refine (NE w1).mono ?_
 rintro r w2 ⟨rfl,hb2⟩
 have hr2:=hr1.below hb2
 have cx2:=cx1.ext hb2
 have hbr2:=ag hb1 hb2
 clear hr1 cx1 hb1 hb2 hs1
 have hcc:=cx2.cell
 go_wp2_with fail
 refine (yo cf cs cb al cl l w2 hr2).mono ?_
 rintro r w3 ⟨H,rfl,ho,hb3,hRt,hCo,_,_,_,_,_⟩
 have hbr3:=ag hbr2 hb3
 have hrd3:=ho.rd
 have hR:=Lib.hid hRt
 have hC:=Lib.hid hCo
 clear hr2 cx2 hcc hb3 ho hRt hCo
 go_wp2_with (refine aL rfl _ _ _ rfl (dC H) rfl rfl rfl machine_size (fe _) ?_)
 intro w4 hb4 bx4
 have hrd4:=hrd3.below hb4
 have hbr4:=ag hbr3 hb4
 have hgm:Hid (w.heap.size≤w3.heap.size):=Lib.hid hbr3.size
 clear hrd3 hbr3 hb4 hbr2
 generalize w3.heap.size=gm at bx4 hgm
 go_wp2_with (refine ay _ _ rfl gm 0 rfl rfl _ bx4.rd _ underlying41 rfl machine_size ?_)
 refine (lM H _ hrd4 (oh hR.out)).mono ?_
 rintro r w5 ⟨rfl,hb5⟩
 have hrd5:=hrd4.below hb5
 have bx5:=bx4.ext hb5
 have hbr5:=ag hbr4 hb5
 clear hrd4 bx4 hbr4 hb5
 obtain⟨N,hN⟩:∃N,Hid (fH H.m.fs=N):=⟨_,Lib.hid rfl⟩
 rw[hN.out]
 have hN1:N≤1000:=by
  rw[←hN.out]
  exact Nat.le_trans List.countP_le_length (oh hR.out).fs
 go_upto_region 6 with (fail)
 go_loopw [26] (fun i wr => ∃(j:Nat) (M:MH),j≤N∧i = .int .i64 j∧Below w.heap.size w wr∧aD wr gm (dC M) 41∧xA wr M∧Hid (Rt M.ma∧Co M.ma∧fH M.m.fs+j=N)) (fun i _=>N-(intOf i).toNat)
 case atStart=>exact⟨0,H,Nat.zero_le _,rfl,hbr5,bx5,hrd5,Lib.hid ⟨hR.out,hC.out,hN.out⟩⟩
 case round=>
  clear hbr5 bx5 hrd5
  obtain⟨j,M,hj,rfl,hbr,bx,hrd,hM⟩:=hrel
  by_cases hjl:j<N
  ·have hji:(j:Int)<(N:Int):=by omega
   go_wp2_with (refine ay _ _ rfl gm 0 rfl rfl _ bx.rd _ underlying41 rfl machine_size ?_)
   refine (sI M _ hrd hM.out.1 hM.out.2.1).mono ?_
   rintro r w6 ⟨hb6,K,rfl,hoK,hmK⟩
   have hrd6:=hrd.below hb6
   have bx6:=bx.ext hb6
   have hbr6:=ag hbr hb6
   have hoK6:=hoK.mono hbr.size
   clear hrd bx hbr hb6 hoK
   go_wp2_with (refine aL rfl _ _ _ rfl (dC K) rfl rfl rfl machine_size (fe _) ?_)
   intro w7 hb7 kx7
   have hrd7:=hrd6.below hb7
   have bx7:=bx6.ext hb7
   have hbr7:=ag hbr6 hb7
   have hoK7:=hoK6.below hb7
   have hrK7:=hoK7.rd
   clear hrd6 bx6 hbr6 hb7 hoK6
   generalize w6.heap.size=gk at kx7
   cases hfc:jC M.ma with
   | none=>
    have hKM:Hid (K.ma=M.ma):=Lib.hid (by rw[hmK];unfold qH;rw[hfc])
    have hd:Hid (fH K.m.fs=N-j):=Lib.hid (by
     have e:fH K.m.fs=fH M.m.fs:=congrArg (fun m:Ma=>fH m.m.fs) hKM.out
     have:=hM.out.2.2
     omega)
    have hl:Hid (jb K.ma.st=0):=Lib.hid (by
     rw[hKM.out]
     rcases Eh hM.out.1 hM.out.2.1 hfc with h|h
     ·have h:fH M.m.fs=0:=h
      have:=hM.out.2.2;omega
     ·exact h)
    have hKR:Hid (Rt K.ma):=Lib.hid (by rw[hKM.out];exact hM.out.1)
    have hdj:(0:Int)<((N-j:Nat):Int):=by omega
    clear hmK hfc hoK7
    go_wp2_with (refine ay _ _ rfl gk 0 rfl rfl _ kx7.rd _ underlying41 rfl machine_size ?_)
    refine (lM K _ hrK7 (oh hKR.out)).mono ?_
    rintro r w8 ⟨rfl,hb8⟩
    rw[hd.out]
    have kx8:=kx7.ext hb8
    have hrK8:=hrK7.below hb8
    have hbr8:=ag hbr7 hb8
    clear kx7 hrK7 hbr7 hb8 bx7 hrd7
    have hdn:0<N-j:=by omega
    generalize N-j=D at hdj hdn
    go_wp2_with (refine ay _ _ rfl gk 0 rfl rfl _ kx8.rd _ underlying41 rfl machine_size ?_)
    refine (ED K _ hrK8 hKR.out).mono ?_
    rintro r w9 ⟨rfl,hb9⟩
    rw[show (jb K.ma.st==0)=true from by rw[hl.out];rfl]
    have hbr9:=ag hbr8 hb9
    go_wp2
    go_ret
    exact⟨rfl,hbr9⟩
   | some f=>
    obtain⟨m1,hm1,hcl,hdd⟩:=sj hM.out.1 hM.out.2.1 hfc
    have hKm:Hid (K.ma=m1):=Lib.hid (by rw[hmK];unfold qH;rw[hfc];show (gN ⟨M.ma,0⟩ f).m=m1;rw[hm1])
    have hKR:Hid (Rt K.ma∧Co K.ma):=Lib.hid (by rw[hKm.out];exact⟨hcl.rt,hcl.co⟩)
    have hdK:Hid (fH K.m.fs+1=fH M.m.fs):=Lib.hid (by
     have e:fH K.m.fs=fH m1.m.fs:=congrArg (fun m:Ma=>fH m.m.fs) hKm.out
     rw[e];exact hdd)
    clear hmK hm1 hcl hdd hfc
    go_upto_region 12 with (fail)
    obtain⟨DK,hDK⟩:∃D,Hid (fH K.m.fs=D):=⟨_,Lib.hid rfl⟩
    have hDM:Hid (fH M.m.fs=DK+1):=Lib.hid (by rw[←hdK.out,hDK.out])
    have hDK1:DK≤1000:=by
     have:=hDM.out
     have:=hM.out.2.2
     omega
    have hw2:IntKind.i64.wrap (DK:Int)=(DK:Int):=IntWalk.i64_in _ (by omega)
    have hw1:IntKind.i64.wrap (((DK+1:Nat):Int)-1)=(DK:Int):=by rw[IntWalk.i64_in _ (by omega)];omega
    refine aG 6 [_,.v (.int .i64 (DK:Int)),_,.v (.int .i64 ((DK+1:Nat):Int)),_,_] (Gr (.agg (dC K)) (fun ρ y W hb hKn=>(bI rfl (aF rfl hKn) (kx7.ext hb) underlying41 rfl machine_size)) rfl rfl (ae ?_ (Gr (.agg (dC M)) (fun ρ y W hb hKn=>(bI rfl (aF rfl hKn) (bx7.ext hb) underlying41 rfl machine_size)) rfl rfl (ae ?_ (Gb (.int .i64 (DK:Int)) (by simp[go_sem,hw2]) rfl rfl rfl rfl rfl (Gb (.bool false) (by simp[go_sem]) rfl rfl rfl rfl rfl (aB))))))) (fun _=>rfl) rfl ?_
    ·intro ρ y W hw hn hb hd;have E45:=hw 45 0 rfl;have h0:y 0=_:=hd 0 rfl
     have EF:∀f,ρ (.func f) = .func (.func f) #[] #[]:=fun f=>hn (.func f) trivial
     refine aM _ _ (ah rfl) (aN rfl (EF _) func24 (by kernel_rfl) (by kernel_rfl) (by simp only[List.map_toArray,List.map_cons,List.map_nil,E45,h0,EF];rfl)) ?_
     refine (lM K W (hrK7.below hb) (oh hKR.out.1)).mono ?_
     rintro r w9 ⟨rfl,hb9⟩
     exact⟨_,rfl,hb9,by rw[hDK.out];rfl⟩
    ·intro ρ y W hw hn hb hd;have E47:=hw 47 2 rfl;have h2:y 2=_:=hd 2 rfl
     have EF:∀f,ρ (.func f) = .func (.func f) #[] #[]:=fun f=>hn (.func f) trivial
     refine aM _ _ (ah rfl) (aN rfl (EF _) func24 (by kernel_rfl) (by kernel_rfl) (by simp only[List.map_toArray,List.map_cons,List.map_nil,E47,h2,EF];rfl)) ?_
     refine (lM M W (hrd7.below hb) (oh hM.out.1)).mono ?_
     rintro r w9 ⟨rfl,hb9⟩
     exact⟨_,rfl,hb9,by rw[hDM.out];rfl⟩
    intro y W8 hbW8 _
    have bx8:=bx7.ext hbW8
    have kx8:=kx7.ext hbW8
    have hbr8:=ag hbr7 hbW8
    have hoK8:=hoK7.below hbW8
    clear bx7 kx7 hrd7 hrK7 hbr7 hoK7 hbW8 hw2 hw1
    go_wp2_with (first | (refine ay _ _ rfl gk 0 rfl rfl _ kx8.rd _ underlying41 rfl machine_size ?_) | (refine ax rfl _ _ _ rfl gm (dC K) rfl rfl _ _ bx8 rfl mach_size (fe _) ?_))
    intro w9 bx9 hg9
    have hbr9:=hbr8.grown hg9 hbr8.size (fun k hk=>by cases hk;exact hgm.out)
    have hrd9:=(hoK8.keep bx8 (by decide) hg9).rd
    have hM9:Hid (Rt K.ma∧Co K.ma∧fH K.m.fs+(j+1)=N):=Lib.hid ⟨hKR.out.1,hKR.out.2,by have:=hM.out.2.2;have:=hdK.out;omega⟩
    clear bx8 kx8 hbr8 hoK8 hg9 hM
    go_wp2
    go_roundw
    case rel=>exact⟨j+1,K,by omega,by go_num,hbr9,bx9,hrd9,hM9⟩
    case measure=>simp[intOf];omega
  ·have hji:¬(j:Int)<(N:Int):=by omega
   have hd0:Hid (fH M.m.fs=0):=Lib.hid (by have:=hM.out.2.2;omega)
   have hfc:=AA hM.out.1 hM.out.2.1 hd0.out
   go_wp2_with (refine ay _ _ rfl gm 0 rfl rfl _ bx.rd _ underlying41 rfl machine_size ?_)
   refine (sI M _ hrd hM.out.1 hM.out.2.1).mono ?_
   rintro r w6 ⟨hb6,K,rfl,hoK,hmK⟩
   rw[hfc]
   have hrd6:=hrd.below hb6
   have bx6:=bx.ext hb6
   have hbr6:=ag hbr hb6
   clear hrd bx hbr hb6 hoK hmK hfc
   go_wp2_with (refine aL rfl _ _ _ rfl (dC K) rfl rfl rfl machine_size (fe _) ?_)
   intro w7 hb7 kx7
   have hrd7:=hrd6.below hb7
   have bx7:=bx6.ext hb7
   have hbr7:=ag hbr6 hb7
   clear hrd6 bx6 hbr6 hb7 kx7
   go_wp2_with (refine ay _ _ rfl gm 0 rfl rfl _ bx7.rd _ underlying41 rfl machine_size ?_)
   refine (lM M _ hrd7 (oh hM.out.1)).mono ?_
   rintro r w8 ⟨rfl,hb8⟩
   rw[hd0.out]
   have hbr8:=ag hbr7 hb8
   go_wp2
   go_ret
   exact⟨rfl,hbr8⟩
open Go.ChangeShapes Go.WideShapes Go.ChangeAt
theorem opens_cfg:rZ Tryz.prog 23 (fun x:Int × Int × Int=>[.int .i64 x.1,.int .i64 x.2.1,.int .i64 x.2.2]) (fun _ x=>i64 x.1∧i64 x.2.1∧i64 x.2.2):=
 (Bb underlying23 (mK rfl 1 rfl (by kernel_rfl) (vE underlying3).w (mK rfl 2 rfl (by kernel_rfl) (vE underlying3).w (mK rfl 3 rfl (by kernel_rfl) (vE underlying3).w (yZ (by kernel_rfl)))))).of (fun x=>(x.1,x.2.1,x.2.2.1)) (fun _=>rfl) (fun _ _ h=>⟨h.1,h.2.1,h.2.2.1⟩)
theorem EO {H:Type} {en:TypeId × Value→H} {x:DataW H × List MemPlace} (hv:Value.okWide Tryz.prog W .any base 23 v) (h:DataW.trod en Tryz.prog W base' spare held fuel 23 v.cells.toList=some x) :
  ∃f s b:Int,v = .agg #[.int .i64 f,.int .i64 s,.int .i64 b]∧i64 f∧i64 s∧i64 b:=by
 obtain⟨cs,rfl,_⟩:=okWide_struct underlying23 hv
 obtain⟨⟨f,s,b⟩,hcs,g1,g2,g3⟩:=opens_cfg _ _ _ _ _ _ _ _ _ h
 refine⟨f,s,b,?_,g1,g2,g3⟩
 congr 1
 apply Array.ext'
 simpa[Value.cells] using hcs
end Go.Proofs.YtjkkoeijlhfneaaGreat