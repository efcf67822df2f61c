import Derived.Test.YtjkkoeijlhfneaaGreatU3
import Derived.Deep.DeepCutAuto
import Derived.BigRegion
set_option linter.unusedSimpArgs false
set_option linter.unusedVariables false
set_option maxHeartbeats 4000000
set_option maxRecDepth 100000
namespace Go.Proofs.YtjkkoeijlhfneaaGreat
open Go.RowKit Go.Maps Pw
theorem qG {l r:List Int} (h:∀x∈l,x=0):firstE (l++r)=firstE r:=by
 induction l with
 | nil=>rfl
 | cons a l ih=>
  have h0:=h a List.mem_cons_self
  rw[List.cons_append]
  rw[firstE,h0]
  simp only[if_true,ne_eq,not_true_eq_false,if_false]
  exact ih fun x hx=>h x (List.mem_cons_of_mem _ hx)
theorem FU {x:Int} {r:List Int} (h:x≠0):firstE (x::r)=x:=by
 rw[firstE]
 simp[h]
theorem CY {m:Ma} {p j:Nat} {s:Sp} {n:Int} (hs:m.sp[p]?=some s) (hn:(aI s.tb)[j]?=some n) (h1:∀t∈m.sp.take p,∀i∈aI t.tb,bu m t i=0) (h2:∀i∈(aI s.tb).take j,bu m s i=0) (hne:bu m s n≠0):iT m=bu m s n:=by
 unfold iT
 have e1:m.sp=m.sp.take p++s::m.sp.drop (p+1):=by rw[←drop_at hs,List.take_append_drop]
 have e2:aI s.tb=(aI s.tb).take j++n::(aI s.tb).drop (j+1):=by rw[←drop_at hn,List.take_append_drop]
 rw[e1,List.flatMap_append,qG (fun x hx => ?_),List.flatMap_cons,e2,List.map_append,List.append_assoc,qG (fun x hx => ?_),List.map_cons,List.cons_append,FU hne]
 ·obtain⟨i,hi,rfl⟩:=List.mem_map.1 hx
  exact h2 i hi
 ·obtain⟨t,ht,hx⟩:=List.mem_flatMap.1 hx
  obtain⟨i,hi,rfl⟩:=List.mem_map.1 hx
  exact h1 t ht i hi
theorem BR {m:Ma} (h:∀t∈m.sp,∀i∈aI t.tb,bu m t i=0):iT m=0:=by
 unfold iT
 rw[←List.append_nil (m.sp.flatMap _),qG (fun x hx => ?_)]
 ·rfl
 ·obtain⟨t,ht,hx⟩:=List.mem_flatMap.1 hx
  obtain⟨i,hi,rfl⟩:=List.mem_map.1 hx
  exact h t ht i hi
theorem JH {m:Ma} {s:Sp} {n:Int} (h:bu m s n=0):((cB s.tb n).k=2→(cB s.tb n).n<m.sl.length)∧((cB s.tb n).k≠2→(cB s.tb n).n<m.m.fs.length):=by
 unfold bu at h
 split at h
 ·cases h
 ·simp only at h
  split at h
  ·rename_i h2
   split at h
   ·cases h
   ·rename_i h3
    exact⟨fun _=>by omega,fun h'=>absurd h2 h'⟩
  ·rename_i h2
   split at h
   ·cases h
   ·exact⟨fun h'=>absurd h' h2,fun _=>by omega⟩
def iL (m:Ma) (p:Nat) (l:List Int):List Int:=m.ca.map Cc.k++(m.sp.take p).flatMap (fun s=>jI s.tb (aI s.tb))++l
def gG (m:Ma) (p:Nat) (l:List Int):List Int:=(m.sp.take p).flatMap (fun s=>swapT s.tb (aI s.tb))++l
theorem EX (t:Tb) (l:List Int) (n:Int):jI t (l++[n])=jI t l++(if (cB t n).k=1 then [(cB t n).n] else []):=by
 unfold jI
 rw[List.filter_append,List.map_append]
 congr 1
 by_cases h:(cB t n).k=1
 ·simp[h]
 ·simp[h]
theorem EY (t:Tb) (l:List Int) (n:Int):swapT t (l++[n])=swapT t l++(if (cB t n).k=1 then [] else [(cB t n).n]):=by
 unfold swapT
 rw[List.filter_append,List.map_append]
 congr 1
 by_cases h:(cB t n).k=1
 ·simp[h]
 ·simp[h]
theorem CX {m:Ma} {p:Nat} {s:Sp} (hs:m.sp[p]?=some s):iL m p (jI s.tb (aI s.tb))=iL m (p+1) []:=by
 unfold iL
 rw[take_at hs,List.flatMap_append,List.append_nil,List.append_assoc]
 simp
theorem Ci {m:Ma} {p:Nat} {s:Sp} (hs:m.sp[p]?=some s):gG m p (swapT s.tb (aI s.tb))=gG m (p+1) []:=by
 unfold gG
 rw[take_at hs,List.flatMap_append,List.append_nil]
 simp
theorem FJ (m:Ma):iL m m.sp.length []=lT m:=by unfold iL lT;rw[List.take_length,List.append_nil]
theorem DJ (m:Ma):gG m m.sp.length []=kR m:=by unfold gG kR;rw[List.take_length,List.append_nil]
theorem CW (m:Ma) (p:Nat) (l:List Int) (k:Int):iL m p (l++[k])=iL m p l++[k]:=by unfold iL;rw[List.append_assoc,List.append_assoc,List.append_assoc]
theorem Ce (m:Ma) (p:Nat) (l:List Int) (k:Int):gG m p (l++[k])=gG m p l++[k]:=by unfold gG;rw[List.append_assoc]
theorem tF (t:Tb) (l:List Int):(jI t l).length≤l.length:=by unfold jI;rw[List.length_map];exact List.length_filter_le _ _
theorem yR (t:Tb) (l:List Int):(swapT t l).length≤l.length:=by unfold swapT;rw[List.length_map];exact List.length_filter_le _ _
theorem flat_len {α:Type} (g:α→List Int) (c:Nat) (h:∀x,(g x).length≤c):∀l:List α,(l.flatMap g).length≤c*l.length
 | []=>by simp
 | x::l=>by
  have h1:=flat_len g c h l
  have h2:=h x
  rw[List.flatMap_cons,List.length_append,List.length_cons,Nat.mul_succ]
  omega
theorem nG (t:Tb):(aI t).length≤64:=ru t 64
theorem Gd (m:Ma) (p:Nat) (l:List Int):(iL m p l).length≤m.ca.length+64*m.sp.length+l.length:=by
 unfold iL
 have h1:=flat_len (fun s:Sp=>jI s.tb (aI s.tb)) 64 (fun s=>Nat.le_trans (tF _ _) (nG _)) (m.sp.take p)
 have h2:(m.sp.take p).length≤m.sp.length:=by rw[List.length_take];omega
 simp only[List.length_append,List.length_map]
 omega
theorem FO {m:Ma} (h:rT m) (p:Nat) (l:List Int) (K:Int):cnt (iL m p l) K≤1+64*m.sp.length+l.length:=by
 unfold iL
 rw[sI,sI]
 have h1:=flat_len (fun s:Sp=>jI s.tb (aI s.tb)) 64 (fun s=>Nat.le_trans (tF _ _) (nG _)) (m.sp.take p)
 have h2:(m.sp.take p).length≤m.sp.length:=by rw[List.length_take];omega
 have h3:cnt (m.ca.map Cc.k) K=sW m K:=by
  unfold cnt sW
  rw[List.countP_map];rfl
 have h4:=JL h K
 have h5:=zG ((m.sp.take p).flatMap fun s=>jI s.tb (aI s.tb)) K
 have h6:=zG l K
 omega
theorem Dq (m:Ma) (p:Nat) (l:List Int):(gG m p l).length≤64*m.sp.length+l.length:=by
 unfold gG
 have h1:=flat_len (fun s:Sp=>swapT s.tb (aI s.tb)) 64 (fun s=>Nat.le_trans (yR _ _) (nG _)) (m.sp.take p)
 have h2:(m.sp.take p).length≤m.sp.length:=by rw[List.length_take];omega
 simp only[List.length_append]
 omega
theorem Eo (w:World) (c1 c2:Array Value) (T1 T2:TypeId):Below w.heap.size w ((w.alloc (.cells c1 T1)).alloc (.cells c2 T2)).drew∧aF ((w.alloc (.cells c1 T1)).alloc (.cells c2 T2)).drew w.heap.size c1 T1∧aF ((w.alloc (.cells c1 T1)).alloc (.cells c2 T2)).drew (w.heap.size+1) c2 T2:=by
 have e:(w.alloc (.cells c1 T1)).heap.size=w.heap.size+1:=Array.size_push _
 have h1:Below w.heap.size w ((w.alloc (.cells c1 T1)).alloc (.cells c2 T2)):=((Below.refl _ _).alloc (Nat.le_refl _) _).alloc (by omega) _
 have h2:aF ((w.alloc (.cells c1 T1)).alloc (.cells c2 T2)) w.heap.size c1 T1:=(aF.new w c1 T1).ext ((Below.refl _ _).alloc (Nat.le_refl _) _)
 have h3:aF ((w.alloc (.cells c1 T1)).alloc (.cells c2 T2)) (w.heap.size+1) c2 T2:=by rw[←e];exact aF.new _ _ _
 exact⟨⟨h1.os,h1.tape,h1.output,h1.size,h1.block⟩,h2,h3⟩
theorem int_one:(Tryz.prog.info? 3).map (·.size)=some 1:=by kernel_rfl
theorem int_inf:(Tryz.prog.info? 3).map (fun i=>(i.zero,i.size,i.bytes))=some (some (.int .i64 0),1,8):=by kernel_rfl
theorem xm {P:Program} {ρ:Operand→Value} {o:Oper} {w:World} {t e:TypeId} {x y:Operand} {b n c i:Nat} {k:IntKind} (ho:o.op = .indexAddr t x y) (hx:ρ x = .slice (some ⟨b,0,none⟩) n c) (hy:ρ y = .int k (i:Int)) (hi:i<n)
  (hu:P.underlying t=some (.slice e)) (hs:(P.info? e).map (·.size)=some 1):(execOp ρ o).run P w = .ok (.value (.pointer (some ⟨b,i,none⟩))) w:=by
 have:=aU (w:=w) ho hx hy hi hu hs
 rw[this]
 simp
def xY (m:Ma) (i:Nat):Bool:=decide ((jQ m i).r=cnt (lT m) i)&&(decide ((jQ m i).f<0)||m.ca.any fun c=>decide (c.k=i))
theorem Bp (m:Ma):countB m=((List.range m.m.fs.length).all (xY m)&&decide (m.sl=gN m.sl.length (kR m))):=rfl
theorem Bl {m:Ma} (h:countB m=true) (k:Nat) (hk:k<m.m.fs.length):xY m k=true:=by
 rw[Bp,Bool.and_eq_true,List.all_eq_true] at h
 exact h.1 k (List.mem_range.2 hk)
theorem qD (H:MH) (w:World) (h:rC w H) :
  Calls Tryz.prog 37 #[.agg (bR H)] w fun r w'=>r = .returned (.int .i64 (gD H.ma))∧Below w.heap.size w w':=by
 have hmx:H.m.fs.length*8≤281474976710656∧H.sl.length*8≤281474976710656∨¬eH H.ma=0:=by
  by_cases e:eH H.ma=0
  ·have hp:=(oL.1 e).1
   have h1:=((eB _).1 hp.fr).1
   have h2:=iC hp.sl
   have h1' : H.m.fs.length≤40:=h1
   have h2' : H.sl.length≤60:=h2
   exact .inl ⟨by omega,by omega⟩
  ·exact .inr e
 go_enter Tryz.func37,Tryz.ntmps37
 go_upto_region 1 with (fail)
 refine fo (fun W=>Code.wp _ _ _ _ W) fun w1 hb1 bx1 hs1 => ?_
 have h1:=h.below hb1
 have bx:aF w1 w.heap.size (bR H) 41:=bx1
 clear bx1 hs1
 go_wp2_with fail
 refine (FI H w.heap.size _ bx h1).mono ?_
 rintro r w2 ⟨rfl,hb2⟩
 have hbr2:=ae hb1 hb2
 have bx2:=bx.ext hb2
 clear bx h1 hb1 hb2
 by_cases e1:eH H.ma=0
 rotate_left
 ·have hq:Hid (gD H.ma=eH H.ma):=Lib.hid (by unfold gD;rw[if_pos e1])
  generalize eH H.ma=E at *
  go_wp2
  go_ret
  rw[hq.out]
  exact⟨rfl,hbr2⟩
 rw[e1]
 go_wp2_with fail
 refine (CG H w.heap.size _ bx2 (h.below hbr2)).mono ?_
 rintro r w3 ⟨rfl,hb3⟩
 have hbr3:=ae hbr2 hb3
 have bx3:=bx2.ext hb3
 clear bx2 hbr2 hb3
 by_cases e2:cachedE H.ma=0
 rotate_left
 ·have hq:Hid (gD H.ma=cachedE H.ma):=Lib.hid (by unfold gD;rw[if_neg (by rw[e1];simp),if_pos e2])
  generalize cachedE H.ma=E at *
  go_wp2
  go_ret
  rw[hq.out]
  exact⟨rfl,hbr3⟩
 rw[e2]
 have hPt:=(oL.1 e1).1
 have n1:H.m.fs.length≤40:=((eB _).1 hPt.fr).1
 have n2:H.sl.length≤60:=iC hPt.sl
 have n3:H.sp.length≤4:=by have:=hPt.spl;rw[qw] at this;exact this
 have hPt':=Lib.hid hPt
 have hcaL:=Lib.hid (rU.1 e2)
 have hwr:Hid (gD H.ma=if iT H.ma≠0 then iT H.ma else if countB H.ma=true then 0 else 7):=Lib.hid (by unfold gD;rw[if_neg (by rw[e1];simp),if_neg (by rw[e2];simp)])
 clear e1 e2 hPt hmx
 go_upto_region 7 with (fail)
 have hcb:=bx3.cell
 unfold bR at hcb
 have hcb2:=fun ob=>(bx3.ext ((Below.refl _ _).alloc (Nat.le_refl _) ob)).cell
 unfold bR at hcb2
 have hmk1:=run_make_row' (P:=Tryz.prog) 29 3 (.int .i64 0) 8 Tryz.underlying29 int_inf rfl .i64 .i64 H.m.fs.length (by omega) (by omega)
 have hmk2:=run_make_row' (P:=Tryz.prog) 29 3 (.int .i64 0) 8 Tryz.underlying29 int_inf rfl .i64 .i64 H.sl.length (by omega) (by omega)
 go_cut [5,6] (fun s5 s6 wx => ∃gh gs,s5 = .slice (some ⟨gh,0,none⟩) H.m.fs.length H.m.fs.length∧s6 = .slice (some ⟨gs,0,none⟩) H.sl.length H.sl.length∧gh≠gs∧w3.heap.size≤gh∧w3.heap.size≤gs∧Below w3.heap.size w3 wx∧aF wx gh (madeCells #[.int .i64 0] H.m.fs.length) 3∧aF wx gs (madeCells #[.int .i64 0] H.sl.length) 3)
 case first=>
  go_region
  all_goals (go_wp2_with fail;go_meet)
  ·obtain⟨z1,z2,z3⟩:=Eo w3 (madeCells #[.int .i64 0] H.m.fs.length) (madeCells #[.int .i64 0] H.sl.length) 3 3
   exact⟨_,_,rfl,rfl,by omega,by omega,by omega,z1,z2,z3⟩
  ·obtain⟨z1,z2,z3⟩:=Eo w3 (madeCells #[.int .i64 0] H.sl.length) (madeCells #[.int .i64 0] H.m.fs.length) 3 3
   exact⟨_,_,rfl,rfl,by omega,by omega,by omega,z1,z3,z2⟩
 case rest=>
  obtain⟨gh,gs,rfl,rfl,hne,hgh,hgs,hb4,hIh,hIs⟩:=hcut
  have hbr4:=ae hbr3 hb4
  have bx4:=bx3.ext hb4
  have hwh:w.heap.size≤gh:=Nat.le_trans hbr3.size hgh
  have hws:w.heap.size≤gs:=Nat.le_trans hbr3.size hgs
  have hbh:w.heap.size≠gh:=by have:=bx3.lt;omega
  have hbs:w.heap.size≠gs:=by have:=bx3.lt;omega
  have hIh4:IB wc gh (gN H.m.fs.length ((H.ca.take 0).map Cc.k)):=by
   rw[List.take_zero,List.map_nil,Aj];unfold IB;rw[←za];exact hIh
  have hIs4:IB wc gs (gN H.sl.length []):=by
   rw[Aj];unfold IB;rw[←za];exact hIs
  clear hcb hcb2 hmk1 hmk2 hIh hIs hb4 bx3 hbr3 hgh hgs
  have hcb:=bx4.cell
  unfold bR at hcb
  go_upto_region 9 with (fail)
  clear hcb
  have hcl:=h.ca.le
  have hcm:=h.ca.mx
  unfold maxLen at hcm
  go_loopw [37] (fun i wr => ∃(k:Nat),k≤H.ca.length∧i = .int .i64 k∧Below w.heap.size w wr∧aF wr w.heap.size (bR H) 41∧IB wr gh (gN H.m.fs.length ((H.ca.take k).map Cc.k))∧IB wr gs (gN H.sl.length [])) (fun i _=>H.ca.length-(intOf i).toNat)
  case atStart=>exact⟨0,Nat.zero_le _,rfl,hbr4,bx4,hIh4,hIs4⟩
  case round=>
   clear hbr4 bx4 hIh4 hIs4
   obtain⟨k,hk,rfl,hbr,bx,hIh,hIs⟩:=hrel
   by_cases hkl:k<H.ca.length
   ·obtain⟨bc,oc,hac,hrd⟩:=gB kr (by decide) (h.below hbr).ca.rd k hkl
    have hki:(k:Int)<(H.ca.length:Int):=by omega
    have hclt:0≤H.ca[k].k∧H.ca[k].k<H.m.fs.length:=hcaL.out.lt _ (List.getElem_mem hkl)
    have htk:Hid ((H.ca.take (k+1)).map Cc.k=(H.ca.take k).map Cc.k++[H.ca[k].k]):=Lib.hid (by rw[take_at (List.getElem?_eq_getElem hkl),List.map_append];rfl)
    have hll:((H.ca.take k).map Cc.k).length≤k:=by rw[List.length_map,List.length_take];omega
    generalize H.ca[k]=c at *
    obtain⟨K,hcK⟩:∃K:Nat,c.k=K:=⟨c.k.toNat,by omega⟩
    have hKl:K<H.m.fs.length:=by omega
    rw[hcK] at htk
    rw[hac]
    generalize (H.ca.take k).map Cc.k=L at *
    go_wp2_with (first | (refine ay _ _ rfl bc (oc+k*3) rfl rfl _ hrd _ Tryz.underlying106 rfl cached_size ?_) | (refine aH rfl _ _ _ rfl (sZ c) rfl rfl rfl cached_size (nz c) ?_))
    intro w5 hb5 cx
    have hbr5:=ae hbr hb5
    have bx5:=bx.ext hb5
    have hIh5:IB w5 gh (gN H.m.fs.length L):=hIh.ext hb5
    have hIs5:IB w5 gs (gN H.sl.length []):=hIs.ext hb5
    clear hbr bx hIh hIs hrd hb5
    have hcc:=cx.cell
    unfold sZ at hcc
    rw[hcK] at hcc
    have hce:=hIh5.cell (jK H.m.fs.length L K hKl)
    have hcl2:=zG L K
    have hw1:IntKind.i64.wrap ((cnt L K:Int)+1)=(cnt L K:Int)+1:=IntWalk.i64_in _ (by omega)
    have hKi:(K:Int)<(H.m.fs.length:Int):=by omega
    go_wp2_with (refine aC rfl _ _ _ rfl gh K _ [.int .i64 ((cnt L K:Int)+1)] rfl rfl rfl _ _ hIh5 (by simp[iQ];omega) int_one (fun u hu=>by cases List.mem_singleton.1 hu;rfl) ?_)
    intro w6 hb6 hg6
    rw[IB.set (by rw[iQ];exact hKl),xE _ _ _ hKl,←htk.out] at hb6
    have hbr6:=hbr5.grown hg6 hbr5.size (fun k hk=>by cases hk;exact hwh)
    have bx6:=bx5.grown hg6 (fun e=>hbh (Option.some.inj e).symm)
    have hIs6:IB w6 gs (gN H.sl.length []):=aF.grown hIs5 hg6 (fun e=>hne (Option.some.inj e))
    clear hbr5 bx5 hIs5 hIh5 hcc hce cx hg6 hw1
    go_wp2
    go_roundw
    case rel=>exact⟨k+1,by omega,by go_num,hbr6,bx6,hb6,hIs6⟩
    case measure=>simp[intOf];omega
   ·have hki:¬(k:Int)<(H.ca.length:Int):=by omega
    rw[List.take_of_length_le (by omega)] at hIh
    have hIh0:IB wr gh (gN H.m.fs.length (iL H.ma 0 [])):=by
     have e:iL H.ma 0 []=H.ca.map Cc.k:=by
      show H.ca.map Cc.k++[]++[]=_
      rw[List.append_nil,List.append_nil]
     rw[e];exact hIh
    have hIs0:IB wr gs (gN H.sl.length (gG H.ma 0 [])):=hIs
    clear hIh hIs
    have hcb:=bx.cell
    unfold bR at hcb
    go_upto_region 14 with (fail)
    clear hcb
    go_loopw [52] (fun i wr => ∃(p:Nat),p≤H.sp.length∧i = .int .i64 p∧Below w.heap.size w wr∧aF wr w.heap.size (bR H) 41∧IB wr gh (gN H.m.fs.length (iL H.ma p []))∧IB wr gs (gN H.sl.length (gG H.ma p []))∧Hid (∀t∈H.ma.sp.take p,∀i∈aI t.tb,bu H.ma t i=0)) (fun i _=>H.sp.length-(intOf i).toNat)
    case atStart=>exact⟨0,Nat.zero_le _,rfl,hbr,bx,hIh0,hIs0,Lib.hid fun t ht=>by simp at ht⟩
    case round=>
     clear hbr bx hIh0 hIs0
     obtain⟨p,hp,rfl,hbr,bx,hIh,hIs,hz⟩:=hrel
     by_cases hpl:p<H.sp.length
     ·obtain⟨bs,os,P,hap,hP,hrd⟩:=kL (h.below hbr).sp.rd p hpl
      have hgood:=lh (h.below hbr) hP
      have hpi:(p:Int)<(H.sp.length:Int):=by omega
      have hsP:H.ma.sp[p]?=some P.sp:=by show (H.sp.map PS.sp)[p]?=_;rw[List.getElem?_map,hP];rfl
      have harE:(aZ P.ar).1=0:=hPt'.out.ar P.sp (List.mem_of_getElem? hsP)
      have htbE:bI P.tb=0:=hPt'.out.tb P.sp (List.mem_of_getElem? hsP)
      have hsP':=Lib.hid hsP
      have hPq:=Lib.hid hP
      have hcb:=bx.cell
      unfold bR at hcb
      rw[hap] at hcb
      clear hsP hP
      go_wp2_with (refine ay _ _ rfl bs (os+p*10+2) rfl rfl _ (mW hrd 2 8) _ Tryz.underlying53 tab_agg tab_size ?_)
      refine (ny P.tb (iP P.ts) _ hgood.tb).mono ?_
      rintro r w5 ⟨v5,rfl,ho5,hb5⟩
      obtain⟨a5,c5,rfl,hle5,hmx5,_,hr5⟩:=ho5.rd
      have hlt5:gh<wr.heap.size∧gs<wr.heap.size:=⟨aF.lt hIh,aF.lt hIs⟩
      have hbr5:=ae hbr hb5
      have bx5:=bx.ext hb5
      have hIh5:IB w5 gh (gN H.m.fs.length (iL H.ma p (jI P.tb ((aI P.tb).take 0)))):=hIh.ext hb5
      have hIs5:IB w5 gs (gN H.sl.length (gG H.ma p (swapT P.tb ((aI P.tb).take 0)))):=hIs.ext hb5
      have hrd5:=hrd.below hb5
      have hg5:=hgood.below hb5
      have hwrs:=Lib.hid hlt5
      clear hcb hbr bx hIh hIs hrd hgood hb5 hr5
      have hpin:=Lib.hid (Bi P.tb)
      have hpl64:=nG P.tb
      go_upto_region 18 with (fail)
      go_loopw [65] (fun i wr' => ∃(j:Nat),j≤(aI P.tb).length∧i = .int .i64 j∧Below w.heap.size w wr'∧aF wr' w.heap.size (bR H) 41∧IB wr' gh (gN H.m.fs.length (iL H.ma p (jI P.tb ((aI P.tb).take j))))∧IB wr' gs (gN H.sl.length (gG H.ma p (swapT P.tb ((aI P.tb).take j))))∧Own wr' wr.heap.size 3 1 (.slice a5 (aI P.tb).length c5) (aI P.tb).length ((aI P.tb).map dL)∧cZ wr' (some ⟨bs,os+p*10,none⟩) (lg P)∧P.good wr'∧Hid (∀i∈(aI P.tb).take j,bu H.ma P.sp i=0)) (fun i _=>(aI P.tb).length-(intOf i).toNat)
      case atStart=>exact⟨0,Nat.zero_le _,rfl,hbr5,bx5,hIh5,hIs5,ho5,hrd5,hg5,Lib.hid fun i hi=>by simp at hi⟩
      case round=>
       clear hbr5 bx5 hIh5 hIs5 ho5 hrd5 hg5
       obtain⟨j,hj,rfl,hbr,bx,hIh,hIs,ho,hrd,hgood,hz2⟩:=hrel
       obtain⟨hgl,hsl⟩:=hwrs.out
       by_cases hjl:j<(aI P.tb).length
       ·have hji:(j:Int)<((aI P.tb).length:Int):=by omega
        obtain⟨_,_,e9,_,_,_,hrL⟩:=ho.rd
        cases e9
        have hnj:(aI P.tb)[j]?=some (aI P.tb)[j]:=List.getElem?_eq_getElem hjl
        have hnb:=hpin.out _ (List.getElem_mem hjl)
        have hnk:(cB P.tb (aI P.tb)[j]).k≠0:=(gW.1 (List.getElem_mem hjl)).2
        obtain⟨bp,op,hpa,hcn⟩:=fZ hrL j hjl
        generalize hN:(aI P.tb)[j]=n at *
        have htk:Hid ((aI P.tb).take (j+1)=(aI P.tb).take j++[n]):=Lib.hid (take_at hnj)
        have hnj':=Lib.hid hnj
        have hpaQ:=Lib.hid hpa
        have hent:=(bH _).1 (kI htbE n)
        rw[hpa]
        clear hnj hN hrL
        go_wp2_with fail
        refine (CQ H P n w.heap.size bs (os+p*10) _ bx (h.below hbr) hrd hgood harE htbE hnb).mono ?_
        rintro r w6 ⟨rfl,hb6⟩
        have hbr6:=ae hbr hb6
        have bx6:=bx.ext hb6
        have hIh6:=aF.ext hIh hb6
        have hIs6:=aF.ext hIs hb6
        have ho6:=ho.below hb6
        have hrd6:=hrd.below hb6
        have hg6:=hgood.below hb6
        clear hbr bx hIh hIs ho hrd hgood hb6 hcn
        by_cases hE:bu H.ma P.sp n=0
        rotate_left
        ·have hq:Hid (gD H.ma=bu H.ma P.sp n):=Lib.hid (by
          have:=CY hsP'.out hnj'.out hz.out hz2.out hE
          rw[hwr.out,this,if_pos hE])
         generalize bu H.ma P.sp n=E at *
         go_wp2
         go_ret
         rw[hq.out]
         exact⟨rfl,hbr6⟩
        have hlt:=JH hE
        have hz3:Hid (∀i∈(aI P.tb).take (j+1),bu H.ma P.sp i=0):=Lib.hid fun i hi=>by
         rw[htk.out] at hi
         rcases List.mem_append.1 hi with hi|hi
         ·exact hz2.out i hi
         ·rw[List.mem_singleton.1 hi];exact hE
        rw[hE]
        clear hz2 hE
        go_wp2_with (refine ay _ _ rfl bs (os+p*10+2) rfl rfl _ (mW hrd6 2 8) _ Tryz.underlying53 tab_agg tab_size ?_)
        refine (xw P.tb (iP P.ts) n _ hg6.tb).mono ?_
        rintro r w7 ⟨rfl,hb7⟩
        have hlt2:((cB P.tb n).k=2→(cB P.tb n).n<H.sl.length)∧((cB P.tb n).k≠2→(cB P.tb n).n<H.m.fs.length):=hlt
        have hpS:jI P.tb ((aI P.tb).take (j+1))=jI P.tb ((aI P.tb).take j)++(if (cB P.tb n).k=1 then [(cB P.tb n).n] else []):=by rw[htk.out,EX]
        have hsS:swapT P.tb ((aI P.tb).take (j+1))=swapT P.tb ((aI P.tb).take j)++(if (cB P.tb n).k=1 then [] else [(cB P.tb n).n]):=by rw[htk.out,EY]
        have hl1:=Gd H.ma p (jI P.tb ((aI P.tb).take j))
        have hl1b:=tF P.tb ((aI P.tb).take j)
        have hl2:=Dq H.ma p (swapT P.tb ((aI P.tb).take j))
        have hl2b:=yR P.tb ((aI P.tb).take j)
        have hl3:((aI P.tb).take j).length≤64:=by rw[List.length_take];omega
        have hl4:H.ma.ca.length=H.ca.length:=rfl
        have hl5:H.ma.sp.length=H.sp.length:=qw H
        generalize cB P.tb n=e at *
        generalize jI P.tb ((aI P.tb).take j)=L1 at *
        generalize swapT P.tb ((aI P.tb).take j)=L2 at *
        have hpS':=Lib.hid hpS
        have hsS':=Lib.hid hsS
        clear hlt hpS hsS
        have hbr7:=ae hbr6 hb7
        have bx7:=bx6.ext hb7
        have hIh7:=aF.ext hIh6 hb7
        have hIs7:=aF.ext hIs6 hb7
        have ho7:=ho6.below hb7
        have hrd7:=hrd6.below hb7
        have hg7:=hg6.below hb7
        clear hbr6 bx6 hIh6 hIs6 ho6 hrd6 hg6 hb7
        go_wp2_with (refine aH rfl _ _ _ rfl (fI e) rfl rfl rfl entry_size (by simp[fI,Value.oneCell']) ?_)
        intro w8 hb8 ex
        have hbr8:=ae hbr7 hb8
        have bx8:=bx7.ext hb8
        have hIh8:IB w8 gh _:=aF.ext hIh7 hb8
        have hIs8:IB w8 gs _:=aF.ext hIs7 hb8
        have ho8:=ho7.below hb8
        have hrd8:=hrd7.below hb8
        have hg8:=hg7.below hb8
        clear hbr7 bx7 hIh7 hIs7 ho7 hrd7 hg7 hb8
        have hce:=ex.cell
        unfold fI at hce
        by_cases hk1:e.k=1
        ·obtain⟨K,hK⟩:∃K:Nat,e.n=K:=⟨e.n.toNat,by omega⟩
         have hKl:K<H.m.fs.length:=by have:=hlt2.2 (by omega);omega
         have hpS2:=hpS'.out
         have hsS2:=hsS'.out
         rw[if_pos hk1,hK] at hpS2
         rw[if_pos hk1,List.append_nil] at hsS2
         rw[hk1,hK] at hce
         have hcx:=hIh8.cell (jK H.m.fs.length (iL H.ma p L1) K hKl)
         have hcl2:=FO hcaL.out p L1 K
         have hw1:IntKind.i64.wrap ((cnt (iL H.ma p L1) K:Int)+1)=(cnt (iL H.ma p L1) K:Int)+1:=IntWalk.i64_in _ (by omega)
         have hKi:(K:Int)<(H.m.fs.length:Int):=by omega
         have hpS3:=Lib.hid hpS2
         have hsS3:=Lib.hid hsS2
         clear hpS2 hsS2 hlt2 hk1 hnk hent hK
         go_wp2_with (refine aC rfl _ _ _ rfl gh K _ [.int .i64 ((cnt (iL H.ma p L1) K:Int)+1)] rfl rfl rfl _ _ hIh8 (by simp[iQ];omega) int_one (fun u hu=>by cases List.mem_singleton.1 hu;rfl) ?_)
         intro w9 hb9 hg9
         rw[IB.set (by rw[iQ];exact hKl),xE _ _ _ hKl,←CW,←hpS3.out] at hb9
         rw[←hsS3.out] at hIs8
         have hbr9:=hbr8.grown hg9 hbr8.size (fun k hk=>by cases hk;exact hwh)
         have bx9:=bx8.grown hg9 (fun e=>hbh (Option.some.inj e).symm)
         have hIs9:IB w9 gs _:=aF.grown hIs8 hg9 (fun e=>hne (Option.some.inj e))
         have hr9:rC w9 H:=h.below hbr9
         obtain⟨bs',os',P',hap',hP',hrd9'⟩:=kL hr9.sp.rd p hpl
         have hPP:P' = P:=by
          have h2:H.ma.sp[p]?=some P.sp:=hsP'.out
          rw[hPq.out] at hP'
          exact (Option.some.inj hP').symm
         subst hPP
         rw[hap] at hap'
         cases hap'
         have hg9':=hr9.ps P' (List.mem_of_getElem? hP')
         have ho9:=ho8.grown hg9 (fun g hv e=>by
          have:=ho8.ge g hv
          have e2:=Option.some.inj e
          omega)
         clear hbr8 bx8 hIs8 hIh8 hce ex hg9 hw1 hcx ho8 hrd8 hg8 hr9
         go_wp2
         go_roundw
         case rel=>exact⟨j+1,by omega,by go_num,hbr9,bx9,hb9,hIs9,by rw[←hpaQ.out];exact ho9,hrd9',hg9',hz3⟩
         case measure=>simp[intOf];omega
        ·obtain⟨K,hK⟩:∃K:Nat,e.n=K:=⟨e.n.toNat,by omega⟩
         have hk2:e.k=2:=by omega
         have hKl:K<H.sl.length:=by have:=hlt2.1 hk2;omega
         have hpS2:=hpS'.out
         have hsS2:=hsS'.out
         rw[if_neg hk1,List.append_nil] at hpS2
         rw[if_neg hk1,hK] at hsS2
         rw[hk2,hK] at hce
         have hcx:=hIs8.cell (jK H.sl.length (gG H.ma p L2) K hKl)
         have hcl2:=zG (gG H.ma p L2) K
         have hw1:IntKind.i64.wrap ((cnt (gG H.ma p L2) K:Int)+1)=(cnt (gG H.ma p L2) K:Int)+1:=IntWalk.i64_in _ (by omega)
         have hKi:(K:Int)<(H.sl.length:Int):=by omega
         have hpS3:=Lib.hid hpS2
         have hsS3:=Lib.hid hsS2
         clear hpS2 hsS2 hlt2 hk1 hk2 hnk hent hK
         go_wp2_with (refine aC rfl _ _ _ rfl gs K _ [.int .i64 ((cnt (gG H.ma p L2) K:Int)+1)] rfl rfl rfl _ _ hIs8 (by simp[iQ];omega) int_one (fun u hu=>by cases List.mem_singleton.1 hu;rfl) ?_)
         intro w9 hb9 hg9
         rw[IB.set (by rw[iQ];exact hKl),xE _ _ _ hKl,←Ce,←hsS3.out] at hb9
         rw[←hpS3.out] at hIh8
         have hbr9:=hbr8.grown hg9 hbr8.size (fun k hk=>by cases hk;exact hws)
         have bx9:=bx8.grown hg9 (fun e=>hbs (Option.some.inj e).symm)
         have hIh9:IB w9 gh _:=aF.grown hIh8 hg9 (fun e=>hne (Option.some.inj e).symm)
         have hr9:rC w9 H:=h.below hbr9
         obtain⟨bs',os',P',hap',hP',hrd9'⟩:=kL hr9.sp.rd p hpl
         have hPP:P' = P:=by
          have h2:H.ma.sp[p]?=some P.sp:=hsP'.out
          rw[hPq.out] at hP'
          exact (Option.some.inj hP').symm
         subst hPP
         rw[hap] at hap'
         cases hap'
         have hg9':=hr9.ps P' (List.mem_of_getElem? hP')
         have ho9:=ho8.grown hg9 (fun g hv e=>by
          have:=ho8.ge g hv
          have e2:=Option.some.inj e
          omega)
         clear hbr8 bx8 hIs8 hIh8 hce ex hg9 hw1 hcx ho8 hrd8 hg8 hr9
         go_wp2
         go_roundw
         case rel=>exact⟨j+1,by omega,by go_num,hbr9,bx9,hIh9,hb9,by rw[←hpaQ.out];exact ho9,hrd9',hg9',hz3⟩
         case measure=>simp[intOf];omega
       ·have hji:¬(j:Int)<((aI P.tb).length:Int):=by omega
        rw[List.take_of_length_le (by omega)] at hIh hIs hz2
        have hIh2:IB wr gh (gN H.m.fs.length (iL H.ma (p+1) [])):=by rw[←CX hsP'.out];exact hIh
        have hIs2:IB wr gs (gN H.sl.length (gG H.ma (p+1) [])):=by rw[←Ci hsP'.out];exact hIs
        have hz3:Hid (∀t∈H.ma.sp.take (p+1),∀i∈aI t.tb,bu H.ma t i=0):=Lib.hid fun t ht i hi=>by
         rw[take_at hsP'.out] at ht
         rcases List.mem_append.1 ht with ht|ht
         ·exact hz.out t ht i hi
         ·rw[List.mem_singleton.1 ht] at hi ⊢
          exact hz2.out i hi
        clear hIh hIs ho hrd hgood hz hz2
        go_wp2
        go_roundw
        case rel=>
         refine⟨_,_,_,_,_,_,.int .i64 ((p:Int)+1),⟨p+1,by omega,?_,hIh2,hIs2,hz3⟩,rfl,rfl,rfl,rfl,rfl,rfl,rfl⟩
         go_num
        case measure=>simp[intOf];omega
     ·have hpi:¬(p:Int)<(H.sp.length:Int):=by omega
      have hpe:p=H.ma.sp.length:=by rw[qw];omega
      rw[hpe,FJ] at hIh
      rw[hpe,DJ] at hIs
      rw[hpe,List.take_length] at hz
      have hwr2:Hid (gD H.ma=if countB H.ma=true then 0 else 7):=Lib.hid (by rw[hwr.out,if_neg (by rw[BR hz.out];simp)])
      clear hz hwr hpe
      have hcb:=bx.cell
      unfold bR at hcb
      go_upto_region 30 with (fail)
      clear hcb
      go_loopw [104] (fun i wr => ∃(k:Nat),k≤H.m.fs.length∧i = .int .i64 k∧Below w.heap.size w wr∧aF wr w.heap.size (bR H) 41∧IB wr gh (gN H.m.fs.length (lT H.ma))∧IB wr gs (gN H.sl.length (kR H.ma))∧Hid (∀i,i<k→xY H.ma i=true)) (fun i _=>H.m.fs.length-(intOf i).toNat)
      case atStart=>exact⟨0,Nat.zero_le _,rfl,hbr,bx,hIh,hIs,Lib.hid fun i hi=>absurd hi (Nat.not_lt_zero _)⟩
      case round=>
       clear hbr bx hIh hIs
       obtain⟨k,hk,rfl,hbr,bx,hIh,hIs,hz3⟩:=hrel
       by_cases hkl:k<H.m.fs.length
       ·obtain⟨bg,og,haf,hrd⟩:=gB eT (by decide) (h.below hbr).fr.rd k hkl
        have hki:(k:Int)<(H.m.fs.length:Int):=by omega
        have hxf:H.m.fs[k]=bB H.ma k:=by
         have:=zt (m:=H.ma) (f:=k) hkl
         have h2:H.m.fs[k]?=some (bB H.ma k):=this
         rw[List.getElem?_eq_getElem hkl] at h2
         exact Option.some.inj h2
        rw[hxf] at hrd
        have hcd:Hid (xY H.ma k=(decide ((bB H.ma k).r=cnt (lT H.ma) k)&&(decide ((bB H.ma k).f<0)||H.ca.any (isK (k:Int))))):=Lib.hid rfl
        generalize bB H.ma k=x at *
        rw[haf]
        clear hxf
        obtain⟨gi,hgi⟩:∃g,g=wr.heap.size:=⟨_,rfl⟩
        go_upto_region 31 with (fail)
        have hgl:gh<wr.heap.size∧gs<wr.heap.size:=⟨aF.lt hIh,aF.lt hIs⟩
        have hbl:=bx.lt
        have hbA:Below wr.heap.size wr ((wr.alloc (.cells #[.int .i64 0] 3)).alloc (.cells #[.int .u8 0,.int .u8 0,.int .u8 0,.int .u8 0,.int .u8 0,.int .u8 0,.int .u8 0,.int .u8 0,.int .i64 0,.bool false,.bool false,.int .i64 0,.int .i64 0] 81)):=((Below.refl _ _).alloc (Nat.le_refl _) _).alloc (by rw[show (wr.alloc (.cells #[.int .i64 0] 3)).heap.size=wr.heap.size+1 from Array.size_push _];omega) _
        have e1:(wr.alloc (.cells #[.int .i64 0] 3)).heap.size=wr.heap.size+1:=Array.size_push _
        have hB1:aF ((wr.alloc (.cells #[.int .i64 0] 3)).alloc (.cells #[.int .u8 0,.int .u8 0,.int .u8 0,.int .u8 0,.int .u8 0,.int .u8 0,.int .u8 0,.int .u8 0,.int .i64 0,.bool false,.bool false,.int .i64 0,.int .i64 0] 81)) wr.heap.size #[.int .i64 0] 3:=(aF.new wr _ _).ext ((Below.refl _ _).alloc (Nat.le_refl _) _)
        have hB2:aF ((wr.alloc (.cells #[.int .i64 0] 3)).alloc (.cells #[.int .u8 0,.int .u8 0,.int .u8 0,.int .u8 0,.int .u8 0,.int .u8 0,.int .u8 0,.int .u8 0,.int .i64 0,.bool false,.bool false,.int .i64 0,.int .i64 0] 81)) (wr.heap.size+1) #[.int .u8 0,.int .u8 0,.int .u8 0,.int .u8 0,.int .u8 0,.int .u8 0,.int .u8 0,.int .u8 0,.int .i64 0,.bool false,.bool false,.int .i64 0,.int .i64 0] 81:=by rw[←e1];exact aF.new _ _ _
        go_wp2_with (first | (refine ay _ _ rfl bg (og+k*13) rfl rfl _ hrd _ Tryz.underlying81 rfl frame_size ?_) | (refine aC rfl _ _ _ rfl wr.heap.size 0 _ [.int .i64 (k:Int)] rfl rfl rfl _ _ hB1 (by show 0+1≤1;decide) int_one (fun u hu=>by cases List.mem_singleton.1 hu;rfl) ?_))
        intro w5 hb5 hg5
        have hb5' : aF w5 wr.heap.size #[.int .i64 (k:Int)] 3:=hb5
        have hf5:=hB2.grown hg5 (fun e=>by have:=Option.some.inj e;omega)
        have hbA5:=hbA.grown hg5 hbA.size (fun k hk=>by cases hk;exact Nat.le_refl _)
        go_wp2_with (refine eX rfl _ _ _ rfl (wr.heap.size+1) 0 (qi x) rfl rfl _ _ hf5 (by show 0+13≤13;decide) frame_size (mH x) ?_)
        intro w6 hb6 hg6
        have fx6:aF w6 (wr.heap.size+1) (qi x) 81:=by
         have e2:=iq (#[.int .u8 0,.int .u8 0,.int .u8 0,.int .u8 0,.int .u8 0,.int .u8 0,.int .u8 0,.int .u8 0,.int .i64 0,.bool false,.bool false,.int .i64 0,.int .i64 0]) (qi x) rfl
         rw[←e2];exact hb6
        have ix6:aF w6 wr.heap.size #[.int .i64 (k:Int)] 3:=hb5'.grown hg6 (fun e=>by have:=Option.some.inj e;omega)
        have hbA6:=hbA5.grown hg6 hbA5.size (fun k hk=>by cases hk;omega)
        have hbr6:=ae hbr hbA6
        have bx6:=bx.ext hbA6
        have hIh6:IB w6 gh _:=aF.ext hIh hbA6
        have hIs6:IB w6 gs _:=aF.ext hIs hbA6
        obtain⟨gx,hgx⟩:∃g,g=wr.heap.size+1:=⟨_,rfl⟩
        rw[←hgx] at fx6 ⊢
        rw[←hgi] at ix6 ⊢
        clear hbA hbA5 hbA6 hB1 hB2 hb5 hb5' hf5 hg5 hg6 hb6 hrd hbr bx hIh hIs e1 hgl hbl hgx hgi
        go_upto_region 32 with (fail)
        by_cases c1:x.r=cnt (lT H.ma) k
        ·by_cases c2:0≤x.f
         ·skip
          refine aG 19 [_,_,_,_,_,_,_,_,_,_,_,_,_,_,.v (.func (.func 71) #[] #[.pointer (some ⟨gi,0,none⟩)]),.v (.bool (H.ca.any (isK (k:Int)))),_,_,.v (.bool (!(H.ca.any (isK (k:Int)))))] (Gf gx 8 rfl rfl (Gl fx6 rfl rfl rfl rfl rfl (Gk rfl (Gl ix6 (V:=.int .i64 (k:Int)) rfl rfl rfl rfl rfl (Gr (.pointer (some ⟨gh,k,none⟩)) (fun ρ y W hb hKn=>(xm rfl (aA rfl hKn) (aA rfl hKn) hkl Tryz.underlying29 int_one)) rfl rfl (Gc (.int .i64 (cnt (lT H.ma) k:Int)) (fun W hb=>by simp[IB.cell (aF.ext hIh6 hb) (jK H.m.fs.length (lT H.ma) k hkl)]) rfl rfl rfl rfl (Gb (.bool false) (by simp[go_sem,c1]) rfl rfl rfl rfl rfl (Gk rfl (Gf gx 11 rfl rfl (Gl fx6 rfl rfl rfl rfl rfl (Gb (.bool true) (by simp[go_sem,c2]) rfl rfl rfl rfl rfl (Gk rfl (Gf w.heap.size 9 rfl rfl (Gl bx6 rfl rfl rfl rfl rfl (ag ?_ (ag ?_ (Gr (.bool (!(H.ca.any (isK (k:Int))))) (fun ρ y W hb hKn=>vE rfl (aA rfl hKn)) rfl rfl (Gk rfl (Gk rfl (aB)))))))))))))))))))) (fun _=>rfl) rfl ?_
          ·intro ρ y W hw hn hb hd;have E15:ρ (.tmp 15) = .pointer (some ⟨gi,0,none⟩):=(hn (.tmp 15) rfl).trans rfl
           refine aj (.func (.func 71) #[] #[.pointer (some ⟨gi,0,none⟩)]) (aN 11 120 true true rfl rfl ((hw 120 11 rfl).trans (hd 11 rfl))) (by simp[execOp,go_sem,E15]) rfl
          ·intro ρ y W hw hn hb hd;have E122:=hw 122 13 rfl;have h13:y 13=_:=hd 13 rfl;have E123:=hw 123 14 rfl;have h14:y 14=_:=hd 14 rfl
           have EF:∀f,ρ (.func f) = .func (.func f) #[] #[]:=fun f=>hn (.func f) trivial
           refine aJ _ _ (aN 11 120 true true rfl rfl ((hw 120 11 rfl).trans (hd 11 rfl))) (aK rfl (EF _) Tryz.func70 (by kernel_rfl) (by kernel_rfl) (by simp only[List.map_toArray,List.map_cons,List.map_nil,E122,h13,E123,h14,EF];rfl)) ?_
           refine (Hr H.ca _ _ W ((h.below hbr6).below hb).ca.rd (by omega) gi k (ix6.ext hb)).mono ?_
           rintro r w1 ⟨rfl,hb1⟩
           exact⟨_,rfl,hb1,rfl⟩
          intro y W7 hbW7 _
          have hbr7:=ae hbr6 hbW7
          have bx7:=bx6.ext hbW7
          have hIh7:=aF.ext hIh6 hbW7
          have hIs7:=aF.ext hIs6 hbW7
          clear hbW7 hbr6 bx6 hIh6 hIs6 ix6 fx6
          cases hA:H.ca.any (isK (k:Int)) with
          | true=>
           have hcnd:Hid (xY H.ma k=true):=Lib.hid (by rw[hcd.out,decide_eq_true c1,hA];simp)
           clear c1 c2
           have hall:Hid (∀i,i<k+1→xY H.ma i=true):=Lib.hid fun i hi=>by
            by_cases e:i=k
            ·rw[e];exact hcnd.out
            ·exact hz3.out i (by omega)
           go_wp2
           go_roundw
           case rel=>exact⟨k+1,by omega,by go_num,hbr7,bx7,hIh7,hIs7,hall⟩
           case measure=>simp[intOf];omega
          | false=>
           have hcnd:Hid (xY H.ma k=false):=Lib.hid (by rw[hcd.out,decide_eq_true c1,hA,decide_eq_false (by omega)];rfl)
           clear c1 c2
           have hq:Hid (gD H.ma=7):=Lib.hid (by rw[hwr2.out,if_neg];intro hcb;exact absurd (Bl hcb k hkl) (by rw[hcnd.out];decide))
           go_wp2
           go_ret
           rw[hq.out]
           exact⟨rfl,hbr7⟩
         ·have hcnd:Hid (xY H.ma k=true):=Lib.hid (by rw[hcd.out,decide_eq_true c1,decide_eq_true (by omega)];rfl)
          refine aG 19 [_,_,_,_,_,_,_,_,_,_,_,_,_,_,_,_,_,_,.v (.bool false)] (Gf gx 8 rfl rfl (Gl fx6 rfl rfl rfl rfl rfl (Gk rfl (Gl ix6 (V:=.int .i64 (k:Int)) rfl rfl rfl rfl rfl (Gr (.pointer (some ⟨gh,k,none⟩)) (fun ρ y W hb hKn=>(xm rfl (aA rfl hKn) (aA rfl hKn) hkl Tryz.underlying29 int_one)) rfl rfl (Gc (.int .i64 (cnt (lT H.ma) k:Int)) (fun W hb=>by simp[IB.cell (aF.ext hIh6 hb) (jK H.m.fs.length (lT H.ma) k hkl)]) rfl rfl rfl rfl (Gb (.bool false) (by simp[go_sem,c1]) rfl rfl rfl rfl rfl (Gk rfl (Gf gx 11 rfl rfl (Gl fx6 rfl rfl rfl rfl rfl (Gb (.bool false) (by simp[go_sem,c2]) rfl rfl rfl rfl rfl (Gk rfl (Gk rfl (Gk rfl (Gk rfl (Gk rfl (Gk rfl (Gk rfl (Gk rfl (aB)))))))))))))))))))) (fun _=>rfl) rfl ?_
          intro y W7 hbW7 _
          have hbr7:=ae hbr6 hbW7
          have bx7:=bx6.ext hbW7
          have hIh7:=aF.ext hIh6 hbW7
          have hIs7:=aF.ext hIs6 hbW7
          clear hbW7 hbr6 bx6 hIh6 hIs6 ix6 fx6
          clear c1 c2
          have hall:Hid (∀i,i<k+1→xY H.ma i=true):=Lib.hid fun i hi=>by
           by_cases e:i=k
           ·rw[e];exact hcnd.out
           ·exact hz3.out i (by omega)
          go_wp2
          go_roundw
          case rel=>exact⟨k+1,by omega,by go_num,hbr7,bx7,hIh7,hIs7,hall⟩
          case measure=>simp[intOf];omega
        ·have hcnd:Hid (xY H.ma k=false):=Lib.hid (by rw[hcd.out,decide_eq_false c1];rfl)
         refine aG 19 [_,_,_,_,_,_,_,_,_,_,_,_,_,_,_,_,_,_,.v (.bool true)] (Gf gx 8 rfl rfl (Gl fx6 rfl rfl rfl rfl rfl (Gk rfl (Gl ix6 (V:=.int .i64 (k:Int)) rfl rfl rfl rfl rfl (Gr (.pointer (some ⟨gh,k,none⟩)) (fun ρ y W hb hKn=>(xm rfl (aA rfl hKn) (aA rfl hKn) hkl Tryz.underlying29 int_one)) rfl rfl (Gc (.int .i64 (cnt (lT H.ma) k:Int)) (fun W hb=>by simp[IB.cell (aF.ext hIh6 hb) (jK H.m.fs.length (lT H.ma) k hkl)]) rfl rfl rfl rfl (Gb (.bool true) (by simp[go_sem,c1]) rfl rfl rfl rfl rfl (Gk rfl (Gk rfl (Gk rfl (Gk rfl (Gk rfl (Gk rfl (Gk rfl (Gk rfl (Gk rfl (Gk rfl (Gk rfl (Gk rfl (aB)))))))))))))))))))) (fun _=>rfl) rfl ?_
         intro y W7 hbW7 _
         have hbr7:=ae hbr6 hbW7
         have bx7:=bx6.ext hbW7
         have hIh7:=aF.ext hIh6 hbW7
         have hIs7:=aF.ext hIs6 hbW7
         clear hbW7 hbr6 bx6 hIh6 hIs6 ix6 fx6
         clear c1
         have hq:Hid (gD H.ma=7):=Lib.hid (by rw[hwr2.out,if_neg];intro hcb;exact absurd (Bl hcb k hkl) (by rw[hcnd.out];decide))
         go_wp2
         go_ret
         rw[hq.out]
         exact⟨rfl,hbr7⟩
       ·have hki:¬(k:Int)<(H.m.fs.length:Int):=by omega
        have hrs:=(h.below hbr).sl
        have hIsr:cZ wr (some ⟨gs,0,none⟩) ((gN H.sl.length (kR H.ma)).map dL):=fun i u hi=>⟨gs,0,rfl,by rw[Nat.zero_add,aF.cell hIs];simpa using hi⟩
        have hcb:=bx.cell
        unfold bR at hcb
        have hll:=Lib.hid (iQ H.sl.length (kR H.ma))
        have hq:Hid (gD H.ma=if H.sl=gN H.sl.length (kR H.ma) then 0 else 7):=Lib.hid (by
         rw[hwr2.out,Bp,List.all_eq_true.2 (fun i hi=>hz3.out i (by have:=List.mem_range.1 hi;have e:H.ma.m.fs.length=H.m.fs.length:=rfl;omega)),Bool.true_and]
         show (if decide (H.sl=gN H.sl.length (kR H.ma))=true then (0:Int) else 7)=_
         by_cases e:H.sl=gN H.sl.length (kR H.ma)
         ·rw[if_pos e,if_pos (decide_eq_true e)]
         ·rw[if_neg e,if_neg (by simp[e])])
        have hsl60:=n2
        generalize hC:gN H.sl.length (kR H.ma)=C at *
        clear hz3 hwr2 hC
        go_wp2_with fail
        rw[show (Value.slice (some ⟨gs,0,none⟩) H.sl.length H.sl.length) = .slice (some ⟨gs,0,none⟩) C.length H.sl.length from by rw[hll.out]]
        refine (Av H.sl C H.asl (some ⟨gs,0,none⟩) H.csl H.sl.length _ hrs.rd hIsr (by omega) (by rw[hll.out];omega)).mono ?_
        rintro r w5 ⟨rfl,hb5⟩
        by_cases e:H.sl=C
        ·rw[show (H.sl==C)=true from by rw[beq_iff_eq];exact e]
         have hq0:Hid (gD H.ma=0):=Lib.hid (by rw[hq.out,if_pos e])
         clear e hcb
         go_wp2
         go_ret
         rw[hq0.out]
         exact⟨rfl,ae hbr hb5⟩
        ·rw[show (H.sl==C)=false from by rw[beq_eq_false_iff_ne];exact e]
         have hq0:Hid (gD H.ma=7):=Lib.hid (by rw[hq.out,if_neg e])
         clear e hcb
         go_wp2
         go_ret
         rw[hq0.out]
         exact⟨rfl,ae hbr hb5⟩
theorem lQ {w:World} {a b:Nat} {cs cs' : Array Value} {T T' : TypeId} (h:aF w a cs T) (h' : aF w b cs' T') (hT:T≠T'):a≠b:=by
 rintro rfl
 unfold aF at h h'
 rw[h] at h'
 simp only[Option.some.injEq,Obj.cells.injEq] at h'
 exact hT h'.2.1
def Mj (B:Nat) (m:Mem):iO:=⟨fun v w => ∃u,v = .agg #[u,.int .i64 m.hand]∧Own w B 81 13 u m.fs.length (m.fs.flatMap nE),fun _ _ _ hb ⟨u,h1,h2⟩=>⟨u,h1,h2.below hb⟩⟩
theorem nu (l:List Cc):(l.flatMap kS).length=l.length*3:=Pw.flat_len kS 3 kr l
theorem zF (c:Cc):∀u∈kS c,u.oneCell' = true:=bv (nz c)
theorem zB (l:List Cc):∀u∈l.flatMap kS,u.oneCell' = true:=by
 intro u hu
 obtain⟨c,_,hc⟩:=List.mem_flatMap.1 hu
 exact zF c u hc
def MN (B:Nat) (S:St):iO:=⟨fun v w => ∃u ps k,v = .agg #[u,.int .i64 k]∧rA w B u ps∧bT ps k=S,fun _ _ _ hb ⟨u,ps,k,h1,h2,h3⟩=>⟨u,ps,k,h1,h2.below hb,h3⟩⟩
end Go.Proofs.YtjkkoeijlhfneaaGreat
namespace Pw
open Go Go.RowKit
theorem wp_mono' {P:Program} {Q:Exit→Act→World→Prop} {o:Oper} {a:Act} {w:World} {K K' : Act→World→Prop} (h:∀v D w,K (Act.put { a with defers:=D } o.dst v) w→K' (Act.put { a with defers:=D } o.dst v) w)
  (hh:o.wp P a w K Q):o.wp P a w K' Q:=by
 unfold Oper.wp at *
 generalize (execOp a.eval o).run P w=r at *
 cases r with
 | ok n w'=>
  cases n<;>simp only[Oper.upon] at hh ⊢ <;>
   first
    | exact h _ a.defers _ hh
    | exact h _ _ _ hh
    | exact Calls.mono hh (fun e w'' he=>by cases e<;>first | exact h _ a.defers _ he | exact he)
    | exact Rows.mono hh (fun _ _ he=>h _ a.defers _ he)
 | halt x w'=>cases x<;>simp only[Oper.upon] at hh ⊢<;>exact hh
def sS (v:Value) (o:Oper):Oper:={ o with op:=.move (.const v) }
def freed (ops:Array Oper) (p:Nat) (v:Value):Array Oper:=ops.modify p (sS v)
theorem tX (ops:Array Oper) (p:Nat) (v:Value) (i:Nat):(freed ops p v)[i]?=if p=i then (ops[i]?).map (sS v) else ops[i]?:=by
 unfold freed
 rw[Array.getElem?_modify]
theorem wo (ops:Array Oper) (p:Nat) (v:Value):(freed ops p v).size=ops.size:=by unfold freed;simp
theorem uL (ops:Array Oper) (p:Nat) (v:Value) (listed:Array Bool):Region.ready .any (freed ops p v) listed=Region.ready .any ops listed:=by
 unfold Region.ready
 rw[wo]
 apply List.filter_congr
 intro i _
 congr 1
 rw[tX]
 by_cases e:p=i
 ·rw[if_pos e]
  cases ops[i]?<;>rfl
 ·rw[if_neg e]
theorem xR (ops:Array Oper) (p:Nat) (v:Value) (ts:Array Value):yielded (freed ops p v) ts=yielded ops ts:=by
 funext g
 unfold yielded
 rw[tX]
 by_cases e:p=g
 ·rw[if_pos e]
  cases ops[g]?<;>rfl
 ·rw[if_neg e]
def CU (ops:Array Oper) (p d:Nat):Bool:=
 (match ops[p]? with
  | some o=>(match o.op with
   | .move (.tmp t)=>decide (t=d)&&o.guard.isNone&&decide (o.dst≠some d)
   | _=>false)
  | none=>false) &&
 (List.range ops.size).all fun i=>match ops[i]? with
  | none=>true
  | some o=>decide (o.dst≠some d)||o.after.toList.any fun e=>decide (e.on=p)&&Region.binds .any e
theorem Cm {a:Act} {D:List Deferred} {dst:Option Tmp} {v:Value} {d:Nat} (h:dst≠some d):(Act.put { a with defers:=D } dst v).eval (.tmp d)=a.eval (.tmp d):=by
 cases dst with
 | none=>rfl
 | some t=>
  have ht:t≠d:=fun e=>h (by rw[e])
  simp[Act.put,Act.eval,Array.getElem?_setIfInBounds,ht]
theorem CP {ops:Array Oper} {listed:Array Bool} {i:Nat} {o:Oper} (hi:i∈Region.ready .any ops listed) (ho:ops[i]?=some o):listed.getD i false=false∧∀e∈o.after,Region.binds .any e=true→listed.getD e.on false=true:=by
 obtain⟨h1,o',ho',h2⟩:=mem_ready.1 hi
 rw[ho] at ho'
 cases ho'
 refine⟨?_,h2⟩
 rw[Array.getD_eq_getD_getElem?] at h1 ⊢
 cases h:listed[i]? with
 | none=>rfl
 | some b=>rw[h] at h1;exact h1
theorem rR {P:Program} {ops:Array Oper} {Q:Exit→Act→World→Prop} {p d:Nat} {v:Value} (hok0:CU ops p d=true):∀(fuel:Nat) (listed:Array Bool) (a:Act) (w:World),(listed.getD p false=false→a.eval (.tmp d)=v)→wpAny P .any (freed ops p v) Q fuel listed a w→wpAny P .any ops Q fuel listed a w
 | 0,listed,a,w,hI,h=>by
  unfold wpAny at h ⊢
  rw[uL] at h
  exact h
 | fuel+1,listed,a,w,hI,h=>by
  unfold wpAny at h ⊢
  rw[uL] at h
  refine⟨h.1,fun i hi => ?_⟩
  have hw:=h.2 i hi
  have hup:(listed.setIfInBounds i true).getD p false=false→listed.getD p false=false:=fun h'=>by
   cases hl:listed.getD p false with
   | false=>rfl
   | true=>
    exfalso
    by_cases hs:i<listed.size
    ·rw[pQ hs p hl] at h'; cases h'
    ·have e:listed.setIfInBounds i true=listed:=by rw[Array.setIfInBounds_eq_of_size_le (by omega)]
     rw[e,hl] at h'; cases h'
  have hok:=hok0
  unfold CU at hok
  rw[Bool.and_eq_true] at hok
  obtain⟨hp,hall⟩:=hok
  unfold wpOp at hw ⊢
  rw[tX,xR] at hw
  cases ho:ops[i]? with
  | none=>
   rw[ho] at hw
   have hw' : wpAny P .any (freed ops p v) Q fuel (listed.setIfInBounds i true) a w:=by
    by_cases e:p=i
    ·rw[if_pos e] at hw;exact hw
    ·rw[if_neg e] at hw;exact hw
   exact rR hok0 fuel _ a w (fun h'=>hI (hup h')) hw'
  | some o=>
   rw[ho] at hw
   have hilt:i<ops.size:=(Array.getElem?_eq_some_iff.1 ho).1
   have hedge:=CP hi ho
   by_cases e:p=i
   ·subst e
    rw[if_pos rfl] at hw
    simp only[Option.map_some] at hw
    rw[ho] at hp
    simp only at hp
    cases hop:o.op with
    | move x=>
     rw[hop] at hp
     cases x with
     | tmp t=>
      simp only[Bool.and_eq_true,decide_eq_true_eq] at hp
      obtain⟨⟨rfl,hg⟩,hdst⟩:=hp
      have hev:a.eval (.tmp t)=v:=hI hedge.1
      have hex:execOp a.eval (sS v o)=execOp a.eval o:=by
       unfold execOp sS
       simp only[hop]
       rw[hev];rfl
      have hnext:∀(v' : Value) (D:List Deferred) (w:World),wpAny P .any (freed ops p v) Q fuel (listed.setIfInBounds p true) (Act.put { a with defers:=D } o.dst v') w→wpAny P .any ops Q fuel (listed.setIfInBounds p true) (Act.put { a with defers:=D } o.dst v') w:=
       fun v' D w hh=>rR hok0 fuel _ _ w (fun _=>by rw[Cm hdst];exact hev) hh
      simp only
      have hwt:Region.wanted (sS v o) (yielded ops a.tmps)=Region.wanted o (yielded ops a.tmps):=rfl
      rw[hwt] at hw
      split
      ·rename_i hwant
       rw[if_pos hwant] at hw
       rcases hw with hw|hw
       ·refine .inl (wp_mono' hnext ?_)
        unfold Oper.wp at hw ⊢
        rw[←hex];exact hw
       ·refine .inr ⟨?_,hw.2⟩
        have:=hw.1
        unfold Oper.asks at this ⊢
        rw[←hex];exact this
      ·rename_i hwant
       rw[if_neg hwant] at hw
       exact hnext undef a.defers w hw
     | _=>cases hp
    | _=>rw[hop] at hp;cases hp
   ·rw[if_neg e] at hw
    simp only at hw ⊢
    have ho2:=List.all_eq_true.1 hall i (List.mem_range.2 hilt)
    rw[ho] at ho2
    simp only[Bool.or_eq_true,decide_eq_true_eq] at ho2
    have hnext:∀(v' : Value) (D:List Deferred) (w:World),wpAny P .any (freed ops p v) Q fuel (listed.setIfInBounds i true) (Act.put { a with defers:=D } o.dst v') w→wpAny P .any ops Q fuel (listed.setIfInBounds i true) (Act.put { a with defers:=D } o.dst v') w:=by
     intro v' D w hh
     refine rR hok0 fuel _ _ w (fun h' => ?_) hh
     rcases ho2 with h2|h2
     ·rw[Cm h2];exact hI (hup h')
     ·rw[List.any_eq_true] at h2
      obtain⟨e',he',h3⟩:=h2
      rw[Bool.and_eq_true,decide_eq_true_eq] at h3
      have:=hedge.2 e' (Array.mem_toList_iff.1 he') h3.2
      rw[h3.1] at this
      rw[hup h'] at this;cases this
    split
    ·rename_i hwant
     rw[if_pos hwant] at hw
     exact hw.imp (wp_mono' hnext) id
    ·rename_i hwant
     rw[if_neg hwant] at hw
     exact hnext undef a.defers w hw
def freedL:List Oper→Nat→Value→List Oper
 | [],_,_=>[]
 | o::r,0,v=>sS v o::r
 | o::r,k+1,v=>o::freedL r k v
theorem wO (v:Value):∀(l:List Oper) (p:Nat),l.modify p (sS v)=freedL l p v
 | [],p=>by cases p<;>rfl
 | o::r,0=>rfl
 | o::r,k+1=>by
  rw[List.modify_succ_cons,wO v r k];rfl
theorem Fs (l:List Oper) (p:Nat) (v:Value):freed ⟨l⟩ p v=⟨freedL l p v⟩:=by
 unfold freed
 rw[←wO]
 simp
theorem EA {P:Program} {l:List Oper} {Q:Exit→Act→World→Prop} {id:Nat} {a0:Act} {w0:World} (p d:Nat) (v0:Value) (hm:P.follows .mixedOrders=true) (hf:CU ⟨l⟩ p d=true) (hv:a0.eval (.tmp d)=v0)
  (h:∀ops:Array Oper,ops=(freedL l p v0).toArray→wpAny P .any ops Q ops.size (Array.replicate ops.size false) a0 { w0 with drawn:=w0.drawn+1 }) :
  (Code.region id ⟨l⟩ true).wp P Q a0 w0:=by
 have h:=h _ rfl
 rw[show (freedL l p v0).toArray=freed ⟨l⟩ p v0 from (Fs l p v0).symm,wo] at h
 exact wp_region_any hm (rR hf _ _ _ _ (fun _=>hv) h)
end Pw
namespace Go.Proofs.YtjkkoeijlhfneaaGreat
open Go.RowKit Go.Maps Pw
theorem zk (l:List Cc) (a:Option Addr) (c:Nat) (w:World) (hle:l.length≤c) (hnil:a=none→c=0) (hrd:cZ w a (l.flatMap kS)) (hb:l.length*24≤140737488355328) :
  Calls Tryz.prog 76 #[.slice a l.length c] w fun e w' => ∃v,e = .returned v∧Own w' w.heap.size 106 3 v l.length (l.flatMap kS)∧Below w.heap.size w w':=by
 cases a with
 | none=>
  have h0:=hnil rfl
  have hl:l=[]:=List.eq_nil_of_length_eq_zero (by omega)
  subst hl
  subst h0
  have hq:=fun W=>Lib.run_eql_slice_nil (P:=Tryz.prog) W 38 _ none 0 0 0 0 Tryz.underlying38
  go_enter Tryz.func76,Tryz.ntmps76
  go_wp2
  go_ret
  exact⟨_,rfl,by simpa using Own.nil _ _ _ _,Below.refl _ _⟩
 | some ad=>
  have hq:=fun W=>Lib.run_eql_slice_nil (P:=Tryz.prog) W 38 _ (some ad) l.length c 0 0 Tryz.underlying38
  go_enter Tryz.func76,Tryz.ntmps76
  go_wp2_with (at_builtin;go_must (refine eu rfl _ _ 38 rfl w.heap.size 106 (.agg #[.int .i64 0,.int .i64 0,.int .i64 0]) 3 24 Tryz.underlying38 cached_info rfl (by decide) _ 0 [] rfl ?own (some ad) l.length c (l.flatMap kS) rfl (fun h=>(by cases h)) hle (nu l) ?rd (zB l) (by unfold maxLen;omega) (by simpa using hb) ?bb ?k))
  case own=>exact⟨rfl,.inr ⟨w.heap.size,0,0,#[],rfl,Nat.le_refl _,aF.new _ _ _,Nat.le_refl _,Nat.zero_le _,by simp,fun j u h=>by simp at h⟩⟩
  case rd=>exact hrd.below ((Below.refl _ _).alloc (Nat.le_refl _) _)
  case bb=>exact dR _ _
  intro v w1 hown hgr
  go_wp2
  go_ret
  exact⟨v,rfl,by simpa using hown,((Below.refl _ _).alloc (Nat.le_refl _) _).grown hgr (dR _ _) (fun k hk=>by cases hk;exact Nat.le_refl _)⟩
theorem LX.fsz {H:MH} (h:LX H.ma):NP H.fi:=by
 have h1:(H.fi.map PF.fi).length≤1000:=h.st.1
 rw[List.length_map] at h1
 refine⟨by omega,fun p hp => ?_⟩
 have:=h.st.2 p.fi (List.mem_map.2 ⟨p,hp,rfl⟩)
 have e:p.fi.b.length=p.l.length:=rfl
 omega
theorem LX.spz {H:MH} (h:LX H.ma) {p:PS} (hp:p∈H.sp):p.ar.length≤1000∧ul p.tb:=by
 obtain⟨h1,h2⟩:=h.sp.2 p.sp (List.mem_map.2 ⟨p,hp,rfl⟩)
 exact⟨h1,fun k hk=>by have:=h2 k hk;have e:p.sp.tb[k].length=p.tb[k].length:=rfl;omega⟩
def nP (w:World) (B:Nat) (p:PS) (s:Sp):Prop:=p.sp=s∧Own w B 99 7 (.slice p.aa p.ar.length p.ac) p.ar.length (p.ar.flatMap iE)∧lc w B (iP p.ts) p.tb
theorem nP.below {w w' : World} {B:Nat} {p:PS} {s:Sp} (h:nP w B p s) (hb:Below w.heap.size w w'):nP w' B p s:=⟨h.1,h.2.1.below hb,h.2.2.below hb⟩
def MO (B:Nat) (s:Sp):iO:=⟨fun v w => ∃p,v = .agg (nA p)∧nP w B p s,fun _ _ _ hb ⟨p,h1,h2⟩=>⟨p,h1,h2.below hb⟩⟩
def NK (B:Nat) (s:Sp):iO:=⟨fun v w => ∃g p,v = .slice (some ⟨g,0,none⟩) 1 1∧cZ w (some ⟨g,0,none⟩) (lg p)∧nP w B p s,fun _ _ _ hb ⟨g,p,h1,h2,h3⟩=>⟨g,p,h1,h2.below hb,h3.below hb⟩⟩
theorem IV {w:World} {B:Nat} {p:PS} {s:Sp} (h:nP w B p s):∀u∈lg p,u.oneCell' = true:=by
 have h1:=h.2.2.rd.one
 rw[←Array.all_toList,List.all_eq_true] at h1
 intro u hu
 simp only[lg,nA,List.mem_cons,List.not_mem_nil,or_false] at hu
 simp only[iP,List.mem_cons,List.not_mem_nil,or_false] at h1
 rcases hu with rfl|rfl|hu
 ·rfl
 ·rfl
 ·exact h1 u hu
theorem caO_size:(Tryz.prog.info? 38).map (·.size)=some 1:=by kernel_rfl
theorem zN {w w' : World} {B n c:Nat} {a:Option Addr} {xs:List Value} (ho:Own w B 55 10 (.slice a n c) n xs) (hg:w.grownBy w' (Value.slice a n c).ownBlock) :
  w.grownBy w' none∨∃g cs,aF w g cs 55∧B≤g∧w.grownBy w' (some g):=by
 cases hr:(Value.slice a n c).ownBlock with
 | none=>rw[hr] at hg;exact .inl hg
 | some g=>
  rw[hr] at hg
  obtain⟨cs,hb⟩:=ic ho g hr
  exact .inr ⟨g,cs,hb,ho.ge g hr,hg⟩
theorem eQ {w w' : World} {B n c B' sz m:Nat} {a:Option Addr} {xs ys:List Value} {T:TypeId} {v:Value} (ho:Own w B 55 10 (.slice a n c) n xs) (hg:w.grownBy w' (Value.slice a n c).ownBlock) (h:Own w B' T sz v m ys) (hT:T≠55):Own w' B' T sz v m ys:=by
 rcases zN ho hg with h1|⟨g,cs,hb,_,h1⟩
 ·exact Jl h h1
 ·exact ak h hb (fun e=>hT e.symm) h1
theorem nk {w w' : World} {B n c b:Nat} {a:Option Addr} {xs:List Value} {T:TypeId} {cs:Array Value} (ho:Own w B 55 10 (.slice a n c) n xs) (hg:w.grownBy w' (Value.slice a n c).ownBlock) (h:aF w b cs T) (hT:T≠55):aF w' b cs T:=by
 rcases zN ho hg with h1|⟨g,cs',hb,_,h1⟩
 ·exact h.grown h1 (fun e=>by cases e)
 ·exact h.grown h1 (fun e=>lQ h hb hT (Option.some.inj e).symm)
theorem Lc {w w' : World} {B n c B' : Nat} {a:Option Addr} {xs:List Value} {v:Value} {ps:List PF} (ho:Own w B 55 10 (.slice a n c) n xs) (hg:w.grownBy w' (Value.slice a n c).ownBlock) (h:rA w B' v ps):rA w' B' v ps:=
 ⟨eQ ho hg h.own (by decide),fun i p hp=>eQ ho hg (h.each i p hp) (by decide),h.apart⟩
theorem rQ {w w' : World} {B n c B' : Nat} {a:Option Addr} {xs:List Value} {cs:Array Value} {t:Tb} (ho:Own w B 55 10 (.slice a n c) n xs) (hg:w.grownBy w' (Value.slice a n c).ownBlock) (h:lc w B' cs t):lc w' B' cs t:=
 ⟨h.sz,fun k hk=>by obtain⟨v,h1,h2⟩:=h.own k hk;exact⟨v,h1,eQ ho hg h2 (by decide)⟩,h.apart⟩
theorem mach_size:(Tryz.prog.info? 41).map (·.size)=some 11:=by kernel_rfl
theorem slsp_size:(Tryz.prog.info? 39).map (·.size)=some 1:=by kernel_rfl
theorem su (H:MH) (w:World) (h:rC w H) (hz:LX H.ma) :
  Calls Tryz.prog 40 #[.agg (bR H)] w fun r w' => ∃H' : MH,r = .returned (.agg (bR H'))∧qK w' w.heap.size H'∧H'.ma=H.ma∧(∀p∈H'.fi,∀x,oB p.a=some x→oB H'.asl≠some x)∧Below w.heap.size w w':=by
 have z1:H.m.fs.length≤1000:=hz.fs
 have z2:H.sl.length≤1000:=hz.sl
 have z3:H.sw.blocks.length≤1000:=hz.swb
 have z4:H.sw.queue.length≤1000:=hz.swq
 have z5:H.dk.blocks.length≤1000:=hz.dkb
 have z6:H.dk.queue.length≤1000:=hz.dkq
 have z7:H.ca.length≤1000:=hz.ca
 have z8:H.sp.length≤1000:=by have:=hz.sp.1;rw[qw] at this;exact this
 have zf:=hz.fsz
 go_enter Tryz.func40,Tryz.ntmps40
 go_upto_region 1 with (fail)
 refine mg (fun W=>Code.wp _ _ _ _ W) fun w1 hb1 bx1 rx1 hs1 => ?_
 have hm1:=h.below hb1
 clear hs1
 refine lG 7 [_,_,.r 2 ((Mj w1.heap.size H.m)),_,_,.r 5 ((il w1.heap.size 3 1 H.sl.length (H.sl.map dL))),_] (fun W=>Below w1.heap.size w1 W) gK (Below.refl _ _) (Yf gK w.heap.size 0 rfl rfl (Yr gK (.agg #[.slice H.af H.m.fs.length H.cf,.int .i64 H.m.hand]) (fun ρ y W hb hKn=>(bV rfl (aA rfl hKn) (bQ (bx1.ext hb) 0 2) Tryz.underlying28 rfl (by kernel_rfl))) rfl rfl (ag ?_ (Yf gK w.heap.size 2 rfl rfl (Yc gK (.slice H.asl H.sl.length H.csl) (fun W hb=>by simp[(bx1.ext hb).cell,bR]) rfl rfl rfl rfl (ag ?_ (Yf gK w.heap.size 0 rfl rfl (aB)))))))) (fun _=>rfl) rfl ?_
 ·intro ρ y W hw hn hb hd
  refine mh gK hb ((Mj w1.heap.size H.m)) (fun _ _ h=>h) ?_
  have E7:=hw 7 1 rfl
  have h1:y 1 = .agg #[.slice H.af H.m.fs.length H.cf,.int .i64 H.m.hand]:=hd 1 rfl
  have EF:∀f,ρ (.func f) = .func (.func f) #[] #[]:=fun f=>hn (.func f) trivial
  refine aJ _ _ (ah rfl) (aK rfl (EF _) Tryz.func73 (by kernel_rfl) (by kernel_rfl) (by simp only[List.map_toArray,List.map_cons,List.map_nil,E7,h1,EF];rfl)) ?_
  refine (Be H.m _ _ W (hm1.below hb).fr (by omega)).mono ?_
  rintro r w3 ⟨u,rfl,ho,hb1⟩
  exact⟨_,rfl,hb1,u,rfl,ho.mono hb.size⟩
 ·intro ρ y W hw hn hb hd
  refine mh gK hb ((il w1.heap.size 3 1 H.sl.length (H.sl.map dL))) (fun _ _ h=>h) ?_
  have E10:=hw 10 4 rfl
  have h4:y 4 = .slice H.asl H.sl.length H.csl:=hd 4 rfl
  have EF:∀f,ρ (.func f) = .func (.func f) #[] #[]:=fun f=>hn (.func f) trivial
  refine aJ _ _ (ah rfl) (aK rfl (EF _) Tryz.func74 (by kernel_rfl) (by kernel_rfl) (by simp only[List.map_toArray,List.map_cons,List.map_nil,E10,h4,EF];rfl)) ?_
  have hs:=(hm1.below hb).sl
  refine (uH H.sl _ _ W hs.le hs.nl hs.rd (by omega)).mono ?_
  rintro r w3 ⟨u,rfl,ho,hb1⟩
  exact⟨_,rfl,hb1,ho.mono hb.size⟩
 intro y w2 hbw2 hRw2
 replace hbw2:Below w1.heap.size w1 w2:=hbw2
 have hy2:((Mj w1.heap.size H.m)).r (y 2) w2:=hRw2 2 (by decide)
 have hy5:((il w1.heap.size 3 1 H.sl.length (H.sl.map dL))).r (y 5) w2:=hRw2 5 (by decide)
 clear hRw2
 simp only[bJ,bZ,List.map_cons,List.map_nil]
 obtain⟨u1,hu1,ho1⟩:=hy2
 have ho2:Own w2 w1.heap.size 3 1 (y 5) H.sl.length (H.sl.map dL):=hy5
 obtain⟨a1,c1,rfl,_⟩:=ho1.rd
 obtain⟨a2,c2,hu2,_⟩:=Own.rd ho2
 rw[hu2] at ho2
 rw[hu1,hu2]
 have bx2:=bx1.ext hbw2
 have rx2:=rx1.ext hbw2
 have hbr2:=ae hb1 hbw2
 have hm2:=hm1.below hbw2
 have hw1:=Lib.hid hb1.size
 have hlt2:=rx2.lt
 clear hbw2 bx1 rx1 hm1 hu1 hu2 hy5
 go_wp2_with (refine eX rfl _ _ _ rfl w.heap.size 0 #[.slice a1 H.m.fs.length c1,.int .i64 H.m.hand] rfl rfl _ _ bx2 (by show 0+2≤11;decide) mem_size (lm _ _ _ _) ?_)
 intro w3 bx3 hg3
 have ho13:=ak ho1 bx2 (by decide) hg3
 have ho23:=ak ho2 bx2 (by decide) hg3
 have hbr3:=hbr2.grown hg3 hbr2.size (fun k hk=>by cases hk;exact Nat.le_refl _)
 have rx3:=rx2.grown hg3 (fun e=>by have:=Option.some.inj e;omega)
 have bx3' : aF w3 w.heap.size (bR { H with af:=a1,cf:=c1 }) 41:=bx3
 clear ho1 ho2 bx2 rx2 hm2 hg3 bx3 hbr2
 go_wp2_with (refine aC rfl _ _ _ rfl w.heap.size 2 _ [.slice a2 H.sl.length c2] rfl rfl rfl _ _ bx3' (by show 2+1≤11;decide) slots_size (fun u hu=>by cases List.mem_singleton.1 hu;rfl) ?_)
 intro w4 bx4 hg4
 have ho14:=ak ho13 bx3' (by decide) hg4
 have ho24:=ak ho23 bx3' (by decide) hg4
 have hbr4:=hbr3.grown hg4 hbr3.size (fun k hk=>by cases hk;exact Nat.le_refl _)
 have rx4:=rx3.grown hg4 (fun e=>by have:=Option.some.inj e;omega)
 have bx4' : aF w4 w.heap.size (bR { H with af:=a1,cf:=c1,asl:=a2,csl:=c2 }) 41:=bx4
 have hm4:=h.below hbr4
 clear ho13 ho23 bx3' rx3 hg4 bx4 hbr3
 obtain⟨H4,hH4⟩:∃H4:MH,Hid (H4 = { H with af:=a1,cf:=c1,asl:=a2,csl:=c2 }):=⟨_,Lib.hid rfl⟩
 go_upto_region 2 with (fail)
 refine lG 10 [_,_,.r 2 ((Bv w4.heap.size H.sw)),_,_,.r 5 ((Bv w4.heap.size H.dk)),_,_,.r 8 ((MN w4.heap.size (bT H.fi H.ct))),_] (fun W=>Below w4.heap.size w4 W) gK (Below.refl _ _) (Yf gK w.heap.size 3 rfl rfl (Yr gK (.agg #[.slice H.wb H.sw.blocks.length H.cwb,.slice H.wq H.sw.queue.length H.cwq]) (fun ρ y W hb hKn=>(bV rfl (aA rfl hKn) (bQ (bx4'.ext hb) 3 2) Tryz.underlying34 rfl (by kernel_rfl))) rfl rfl (ag ?_ (Yf gK w.heap.size 5 rfl rfl (Yr gK (.agg #[.slice H.db H.dk.blocks.length H.cdb,.slice H.dq H.dk.queue.length H.cdq]) (fun ρ y W hb hKn=>(bV rfl (aA rfl hKn) (bQ (bx4'.ext hb) 5 2) Tryz.underlying34 rfl (by kernel_rfl))) rfl rfl (ag ?_ (Yf gK w.heap.size 7 rfl rfl (Yr gK (.agg #[.slice H.ai H.fi.length H.ci,.int .i64 H.ct]) (fun ρ y W hb hKn=>(bV rfl (aA rfl hKn) (bQ (bx4'.ext hb) 7 2) Tryz.underlying37 rfl (by kernel_rfl))) rfl rfl (ag ?_ (Yf gK w.heap.size 3 rfl rfl (aB))))))))))) (fun _=>rfl) rfl ?_
 ·intro ρ y W hw hn hb hd
  refine mh gK hb ((Bv w4.heap.size H.sw)) (fun _ _ h=>h) ?_
  have E15:=hw 15 1 rfl
  have h1:y 1 = .agg #[.slice H.wb H.sw.blocks.length H.cwb,.slice H.wq H.sw.queue.length H.cwq]:=hd 1 rfl
  have EF:∀f,ρ (.func f) = .func (.func f) #[] #[]:=fun f=>hn (.func f) trivial
  refine aJ _ _ (ah rfl) (aK rfl (EF _) Tryz.func75 (by kernel_rfl) (by kernel_rfl) (by simp only[List.map_toArray,List.map_cons,List.map_nil,E15,h1,EF];rfl)) ?_
  refine (Au H.sw _ _ _ _ W (hm4.below hb).sw (by omega) (by omega)).mono ?_
  rintro r w3 ⟨u,v,rfl,ho,hb1⟩
  exact⟨_,rfl,hb1,u,v,rfl,ho.mono hb.size⟩
 ·intro ρ y W hw hn hb hd
  refine mh gK hb ((Bv w4.heap.size H.dk)) (fun _ _ h=>h) ?_
  have E18:=hw 18 4 rfl
  have h4:y 4 = .agg #[.slice H.db H.dk.blocks.length H.cdb,.slice H.dq H.dk.queue.length H.cdq]:=hd 4 rfl
  have EF:∀f,ρ (.func f) = .func (.func f) #[] #[]:=fun f=>hn (.func f) trivial
  refine aJ _ _ (ah rfl) (aK rfl (EF _) Tryz.func75 (by kernel_rfl) (by kernel_rfl) (by simp only[List.map_toArray,List.map_cons,List.map_nil,E18,h4,EF];rfl)) ?_
  refine (Au H.dk _ _ _ _ W (hm4.below hb).dk (by omega) (by omega)).mono ?_
  rintro r w3 ⟨u,v,rfl,ho,hb1⟩
  exact⟨_,rfl,hb1,u,v,rfl,ho.mono hb.size⟩
 ·intro ρ y W hw hn hb hd
  refine mh gK hb ((MN w4.heap.size (bT H.fi H.ct))) (fun _ _ h=>h) ?_
  have E21:=hw 21 7 rfl
  have h7:y 7 = .agg #[.slice H.ai H.fi.length H.ci,.int .i64 H.ct]:=hd 7 rfl
  have EF:∀f,ρ (.func f) = .func (.func f) #[] #[]:=fun f=>hn (.func f) trivial
  refine aJ _ _ (ah rfl) (aK rfl (EF _) Tryz.func61 (by kernel_rfl) (by kernel_rfl) (by simp only[List.map_toArray,List.map_cons,List.map_nil,E21,h7,EF];rfl)) ?_
  refine (Ki H.fi H.ct _ _ W (hm4.below hb).st zf).mono ?_
  rintro r w3 ⟨u,ps,rfl,ho,he,hb1⟩
  exact⟨_,rfl,hb1,u,ps,_,rfl,ho.mono hb.size,by unfold bT;rw[he]⟩
 intro y w5 hbw5 hRw5
 replace hbw5:Below w4.heap.size w4 w5:=hbw5
 have hy2:((Bv w4.heap.size H.sw)).r (y 2) w5:=hRw5 2 (by decide)
 have hy5:((Bv w4.heap.size H.dk)).r (y 5) w5:=hRw5 5 (by decide)
 have hy8:((MN w4.heap.size (bT H.fi H.ct))).r (y 8) w5:=hRw5 8 (by decide)
 clear hRw5
 simp only[bJ,bZ,List.map_cons,List.map_nil]
 obtain⟨ub,uq,hu3,ho3⟩:=hy2
 obtain⟨vb,vq,hu4,ho4⟩:=hy5
 obtain⟨us,ps,ks,hu5,ho5,hst⟩:=hy8
 have hks : -9223372036854775808≤ks∧ks≤9223372036854775807:=by have e:ks=H.ct:=congrArg St.count hst;rw[e];exact h.c64
 obtain⟨ab,cb,rfl,_⟩:=ho3.b.rd
 obtain⟨aq,cq,rfl,_⟩:=ho3.q.rd
 obtain⟨db,eb,rfl,_⟩:=ho4.b.rd
 obtain⟨dq,eq,rfl,_⟩:=ho4.q.rd
 obtain⟨as_,cs,rfl,_⟩:=ho5.rd
 rw[hu3,hu4,hu5]
 have hn2:Hid (∀p∈ps,∀x,oB p.a=some x→oB a2≠some x):=Lib.hid (fun p hp x hx e=>by
  have h1:=(fD ho24 e).2.choose_spec.lt
  obtain⟨i,hi,rfl⟩:=List.mem_iff_getElem.1 hp
  have h2:=(fD (ho5.each i _ (List.getElem?_eq_getElem hi)) hx).1
  omega)
 have bx5:=bx4'.ext hbw5
 have rx5:=rx4.ext hbw5
 have hbr5:=ae hbr4 hbw5
 have ho15:=ho14.below hbw5
 have ho25:=ho24.below hbw5
 have hw14:=Lib.hid hbr4.size
 clear hbw5 bx4' rx4 hm4 hu3 hu4 hu5 ho14 ho24 hbr4
 go_wp2_with (refine eX rfl _ _ _ rfl w.heap.size 3 #[.slice ab H.sw.blocks.length cb,.slice aq H.sw.queue.length cq] rfl rfl _ _ bx5 (by show 3+2≤11;decide) disk_size (JG _ _ _ _ _ _) ?_)
 intro w6 bx6 hg6
 have hbr6:=hbr5.grown hg6 hbr5.size (fun k hk=>by cases hk;exact Nat.le_refl _)
 have rx6:=rx5.grown hg6 (fun e=>by have:=Option.some.inj e;omega)
 have p1:=ak ho15 bx5 (by decide) hg6
 have p2:=ak ho25 bx5 (by decide) hg6
 have p3:=ho3.keep bx5 (by decide) (by decide) hg6
 have p4:=ho4.keep bx5 (by decide) (by decide) hg6
 have p5:=ho5.keep bx5 (by decide) (by decide) hg6
 clear bx5 rx5 hg6 ho15 ho25 ho3 ho4 ho5 hbr5
 go_wp2_with (refine eX rfl _ _ _ rfl w.heap.size 5 #[.slice db H.dk.blocks.length eb,.slice dq H.dk.queue.length eq] rfl rfl _ _ bx6 (by show 5+2≤11;decide) disk_size (JG _ _ _ _ _ _) ?_)
 intro w7 bx7 hg7
 have hbr7:=hbr6.grown hg7 hbr6.size (fun k hk=>by cases hk;exact Nat.le_refl _)
 have rx7:=rx6.grown hg7 (fun e=>by have:=Option.some.inj e;omega)
 have q1:=ak p1 bx6 (by decide) hg7
 have q2:=ak p2 bx6 (by decide) hg7
 have q3:=p3.keep bx6 (by decide) (by decide) hg7
 have q4:=p4.keep bx6 (by decide) (by decide) hg7
 have q5:=p5.keep bx6 (by decide) (by decide) hg7
 clear bx6 rx6 hg7 p1 p2 p3 p4 p5 hbr6
 go_wp2_with (refine eX rfl _ _ _ rfl w.heap.size 7 #[.slice as_ ps.length cs,.int .i64 ks] rfl rfl _ _ bx7 (by show 7+2≤11;decide) store_size (Ii _ _ _ _) ?_)
 intro w8 bx8 hg8
 have hbr8:=hbr7.grown hg8 hbr7.size (fun k hk=>by cases hk;exact Nat.le_refl _)
 have rx8:=rx7.grown hg8 (fun e=>by have:=Option.some.inj e;omega)
 have p1:=ak q1 bx7 (by decide) hg8
 have p2:=ak q2 bx7 (by decide) hg8
 have p3:=q3.keep bx7 (by decide) (by decide) hg8
 have p4:=q4.keep bx7 (by decide) (by decide) hg8
 have p5:=q5.keep bx7 (by decide) (by decide) hg8
 obtain⟨H8,hH8⟩:∃H8:MH,Hid (H8 = { H with af:=a1,cf:=c1,asl:=a2,csl:=c2,wb:=ab,cwb:=cb,wq:=aq,cwq:=cq,db:=db,cdb:=eb,dq:=dq,cdq:=eq,ai:=as_,ci:=cs,fi:=ps,ct:=ks }):=⟨_,Lib.hid rfl⟩
 have bx8' : aF w8 w.heap.size (bR H8) 41:=by rw[hH8.out];exact bx8
 have hm8:=h.below hbr8
 clear bx7 rx7 hg8 bx8 q1 q2 q3 q4 q5 hbr7
 have hcb:w8.cell? ⟨w.heap.size,9,none⟩=some (.slice H.ac H.ca.length H.cc):=by rw[bx8'.cell,hH8.out];rfl
 go_wp2_with fail
 refine (zk H.ca H.ac H.cc _ hm8.ca.le hm8.ca.nl hm8.ca.rd (by omega)).mono ?_
 rintro r w9 ⟨v9,rfl,ho9,hb9⟩
 obtain⟨a6,c6,rfl,_⟩:=ho9.rd
 have bx9:=bx8'.ext hb9
 have rx9:=rx8.ext hb9
 have hbr9:=ae hbr8 hb9
 have q1:=p1.below hb9
 have q2:=p2.below hb9
 have q3:=p3.below hb9
 have q4:=p4.below hb9
 have q5:=p5.below hb9
 have hw8:=Lib.hid hbr8.size
 clear hcb bx8' rx8 hm8 p1 p2 p3 p4 p5 hb9 hbr8
 go_wp2_with (refine aC rfl _ _ _ rfl w.heap.size 9 _ [.slice a6 H.ca.length c6] rfl rfl rfl _ _ bx9 (by show 9+1≤11;decide) caO_size (fun u hu=>by cases List.mem_singleton.1 hu;rfl) ?_)
 intro w10 bx10 hg10
 have hbr10:=hbr9.grown hg10 hbr9.size (fun k hk=>by cases hk;exact Nat.le_refl _)
 have rx10:=rx9.grown hg10 (fun e=>by have:=Option.some.inj e;omega)
 have p1:=(ak q1 bx9 (by decide) hg10).mono hw1.out
 have p2:=(ak q2 bx9 (by decide) hg10).mono hw1.out
 have p3:=(q3.keep bx9 (by decide) (by decide) hg10).mono hw14.out
 have p4:=(q4.keep bx9 (by decide) (by decide) hg10).mono hw14.out
 have p5:=(q5.keep bx9 (by decide) (by decide) hg10).mono hw14.out
 have p6:=(ak ho9 bx9 (by decide) hg10).mono hw8.out
 obtain⟨G,hG⟩:∃G:MH,Hid (G = { H with af:=a1,cf:=c1,asl:=a2,csl:=c2,wb:=ab,cwb:=cb,wq:=aq,cwq:=cq,db:=db,cdb:=eb,dq:=dq,cdq:=eq,ai:=as_,ci:=cs,fi:=ps,ct:=ks,ac:=a6,cc:=c6 }):=⟨_,Lib.hid rfl⟩
 have bxG:aF w10 w.heap.size (bR G) 41:=by rw[hG.out];rw[hH8.out] at bx10;exact bx10
 clear bx9 rx9 hg10 bx10 q1 q2 q3 q4 q5 ho9 hbr9
 have hGap:Hid (G.ap=H.ap∧G.sp=H.sp∧G.cp=H.cp):=Lib.hid (by rw[hG.out];exact⟨rfl,rfl,rfl⟩)
 have hcb:w10.cell? ⟨w.heap.size,10,none⟩=some (.slice H.ap H.sp.length H.cp):=by rw[bxG.cell,hG.out];rfl
 have hm10:=h.below hbr10
 have ho0:Own w10 w.heap.size 55 10 (.slice none 0 0) ([]:List PS).length (([]:List PS).flatMap lg):=by simpa using Own.nil _ _ _ _
 go_upto_region 6 with (fail)
 clear hcb hm10
 go_loopw [3,33] (fun s3 i wr => ∃(q:Nat) (qs:List PS) (av:Option Addr) (cv:Nat),q≤H.sp.length∧i = .int .i64 q∧s3 = .slice av qs.length cv∧Below w.heap.size w wr∧aF wr w.heap.size (bR G) 41∧aF wr (w.heap.size+1) _ 41 ∧
  Own wr w.heap.size 81 13 (.slice a1 H.m.fs.length c1) H.m.fs.length (H.m.fs.flatMap nE)∧Own wr w.heap.size 3 1 (.slice a2 H.sl.length c2) H.sl.length (H.sl.map dL)∧jc wr w.heap.size (.slice ab H.sw.blocks.length cb) (.slice aq H.sw.queue.length cq) H.sw∧jc wr w.heap.size (.slice db H.dk.blocks.length eb) (.slice dq H.dk.queue.length eq) H.dk ∧
  rA wr w.heap.size (.slice as_ ps.length cs) ps∧Own wr w.heap.size 106 3 (.slice a6 H.ca.length c6) H.ca.length (H.ca.flatMap kS)∧Own wr w.heap.size 55 10 (.slice av qs.length cv) qs.length (qs.flatMap lg)∧(∀p∈qs,nP wr w.heap.size p p.sp∧ul p.tb)∧Hid (qs.map PS.sp=(H.sp.take q).map PS.sp)) (fun _ i _=>H.sp.length-(intOf i).toNat)
 case atStart=>exact⟨0,[],none,0,Nat.zero_le _,rfl,rfl,hbr10,bxG,rx10,p1,p2,p3,p4,p5,p6,ho0,fun p hp=>(by simp at hp),Lib.hid rfl⟩
 case round=>
  clear hbr10 bxG rx10 p1 p2 p3 p4 p5 p6 ho0
  obtain⟨q,qs,av,cv,hq,rfl,rfl,hbr,bx,rx,p1,p2,p3,p4,p5,p6,ho,hps,hqs⟩:=hrel
  have hql:qs.length≤q:=by
   have:=congrArg List.length hqs.out
   rw[List.length_map,List.length_map,List.length_take] at this
   omega
  by_cases hql2:q<H.sp.length
  ·obtain⟨bs,os,P,hap,hP,hrd⟩:=kL (h.below hbr).sp.rd q hql2
   have hgood:=lh (h.below hbr) hP
   have hPm:=List.mem_of_getElem? hP
   obtain⟨hz1,hz2⟩:=hz.spz hPm
   have hqi:(q:Int)<(H.sp.length:Int):=by omega
   have hqs2:Hid (qs.map PS.sp++[P.sp]=(H.sp.take (q+1)).map PS.sp):=Lib.hid (by rw[take_at hP,List.map_append,hqs.out];rfl)
   rw[hap]
   have hps1:(nA P).all (·.oneCell')=true:=by
    rw[←Array.all_toList,List.all_eq_true];exact hgood.one
   go_wp2_with (first | (refine ay _ _ rfl bs (os+q*10) rfl rfl _ hrd _ Tryz.underlying55 rfl space_size ?_) | (refine aH rfl _ _ _ rfl (nA P) rfl rfl rfl space_size hps1 ?_))
   intro w11 hb11 fx
   have hbr11:=ae hbr hb11
   have hg11:=hgood.below hb11
   have bx11:=bx.ext hb11
   have rx11:=rx.ext hb11
   have q1:=p1.below hb11
   have q2:=p2.below hb11
   have q3:=p3.below hb11
   have q4:=p4.below hb11
   have q5:=p5.below hb11
   have q6:=p6.below hb11
   have hO:=ho.below hb11
   have hps11:∀p∈qs,nP w11 w.heap.size p p.sp∧ul p.tb:=fun p hp=>⟨(hps p hp).1.below hb11,(hps p hp).2⟩
   have hgw:=Lib.hid hbr11.size
   clear hbr hgood bx rx p1 p2 p3 p4 p5 p6 ho hps hb11 hrd hps1 hP
   go_upto_region 8 with (fail)
   refine EA 0 3 (.slice av qs.length cv) (by kernel_rfl) (by kernel_rfl) rfl fun ops0 hops0 => ?_
   simp only[freedL,sS] at hops0
   subst hops0
   refine yQ 11 12 [] [nU (.slice av qs.length cv),nU (.pointer (some ⟨wr.heap.size,0,none⟩)),nU (.bool P.lv),nU (.pointer (some ⟨wr.heap.size,1,none⟩)),nU (.slice P.aa P.ar.length P.ac),(il w11.heap.size 99 7 P.ar.length (P.ar.flatMap iE)),nU (.pointer (some ⟨wr.heap.size,2,none⟩)),nU (.agg (iP P.ts)),(Bq w11.heap.size P.tb),(MO w11.heap.size P.sp),(NK w11.heap.size P.sp)] (by kernel_rfl) (by kernel_rfl) (by kernel_rfl) (by kernel_rfl) (by kernel_rfl) (by decide) (Nat.le_of_ble_eq_true (by kernel_rfl)) _ rfl (by kernel_rfl) (ag ?_ (ag ?_ (ag ?_ (ag ?_ (ag ?_ (ag ?_ (ag ?_ (ag ?_ (ag ?_ (ag ?_ (ag ?_ (aB)))))))))))) (aB) rfl ?_
   ·refine bq rfl ?_
    intro ρ y W hw hn hb hd
    refine aj (.slice av qs.length cv) (ah rfl) (run_move (.inl rfl) (hn (.const _) trivial)) rfl
   ·refine bq rfl ?_
    intro ρ y W hw hn hb hd
    have E5:ρ (.tmp 5) = .pointer (some ⟨wr.heap.size,0,none⟩):=(hn (.tmp 5) rfl).trans rfl
    refine aj (.pointer (some ⟨wr.heap.size,0,none⟩)) (ah rfl) (by simp[execOp,go_sem,E5]) rfl
   ·refine bq rfl ?_
    intro ρ y W hw hn hb hd
    have E38:=hw 38 1 rfl
    have h1:y 1 = .pointer (some ⟨wr.heap.size,0,none⟩):=hd 1 rfl
    refine aj (.bool P.lv) (ah rfl) (by simp[execOp,go_sem,E38,h1,(fx.ext hb).cell,nA]) rfl
   ·refine bq rfl ?_
    intro ρ y W hw hn hb hd
    have E5:ρ (.tmp 5) = .pointer (some ⟨wr.heap.size,0,none⟩):=(hn (.tmp 5) rfl).trans rfl
    refine aj (.pointer (some ⟨wr.heap.size,1,none⟩)) (ah rfl) (by simp[execOp,go_sem,E5]) rfl
   ·refine bq rfl ?_
    intro ρ y W hw hn hb hd
    have E40:=hw 40 3 rfl
    have h3:y 3 = .pointer (some ⟨wr.heap.size,1,none⟩):=hd 3 rfl
    refine aj (.slice P.aa P.ar.length P.ac) (ah rfl) (by simp[execOp,go_sem,E40,h3,(fx.ext hb).cell,nA]) rfl
   ·refine bq rfl ?_
    intro ρ y W hw hn hb hd
    have E41:=hw 41 4 rfl
    have h4:y 4 = .slice P.aa P.ar.length P.ac:=hd 4 rfl
    have EF:∀f,ρ (.func f) = .func (.func f) #[] #[]:=fun f=>hn (.func f) trivial
    refine aJ _ _ (ah rfl) (aK rfl (EF _) Tryz.func41 (by kernel_rfl) (by kernel_rfl) (by simp only[List.map_toArray,List.map_cons,List.map_nil,E41,h4,EF];rfl)) ?_
    have hA:=(hg11.below hb).ars
    refine (uC P.ar P.aa P.ac W hA.le hA.nl hA.rd (by omega)).mono ?_
    rintro e w1 ⟨u,rfl,ho,hb1⟩
    exact⟨u,rfl,hb1,ho.mono hb.size⟩
   ·refine bq rfl ?_
    intro ρ y W hw hn hb hd
    have E5:ρ (.tmp 5) = .pointer (some ⟨wr.heap.size,0,none⟩):=(hn (.tmp 5) rfl).trans rfl
    refine aj (.pointer (some ⟨wr.heap.size,2,none⟩)) (ah rfl) (by simp[execOp,go_sem,E5]) rfl
   ·refine bq rfl ?_
    intro ρ y W hw hn hb hd
    have E43:=hw 43 6 rfl
    have h6:y 6 = .pointer (some ⟨wr.heap.size,2,none⟩):=hd 6 rfl
    refine aj (.agg (iP P.ts)) (ah rfl) (bV rfl (E43.trans h6) (bQ (fx.ext hb) 2 8) Tryz.underlying53 tab_agg tab_size) rfl
   ·refine bq rfl ?_
    intro ρ y W hw hn hb hd
    have E44:=hw 44 7 rfl
    have h7:y 7 = .agg (iP P.ts):=hd 7 rfl
    have EF:∀f,ρ (.func f) = .func (.func f) #[] #[]:=fun f=>hn (.func f) trivial
    refine aJ _ _ (ah rfl) (aK rfl (EF _) Tryz.func77 (by kernel_rfl) (by kernel_rfl) (by simp only[List.map_toArray,List.map_cons,List.map_nil,E44,h7,EF];rfl)) ?_
    refine (Bn P.tb (iP P.ts) W (hg11.below hb).tb hz2).mono ?_
    rintro e w1 ⟨u,rfl,ho,hb1⟩
    exact⟨_,rfl,hb1,u,rfl,ho.mono hb.size⟩
   ·refine bq rfl ?_
    intro ρ y W hw hn hb hd
    have E39:=hw 39 2 rfl
    have h2:y 2 = .bool P.lv:=hd 2 rfl
    have E42:=hw 42 5 rfl
    have h5:((il w11.heap.size 99 7 P.ar.length (P.ar.flatMap iE))).r (y 5) W:=hd 5 rfl
    have E45:=hw 45 8 rfl
    have h8:((Bq w11.heap.size P.tb)).r (y 8) W:=hd 8 rfl
    obtain⟨x5,c5,e5,_⟩:=Own.rd h5
    obtain⟨cs8,e8,ho8⟩:=h8
    obtain⟨v8,rfl⟩:=IQ ho8.sz
    have hO5:Own W w11.heap.size 99 7 (.slice x5 P.ar.length c5) P.ar.length (P.ar.flatMap iE):=by rw[←e5];exact h5
    refine aj (.agg (nA ⟨P.lv,x5,c5,P.ar,v8,P.tb⟩)) (ah rfl) (by simp[execOp,go_sem,E39.trans h2,E42,e5,E45,e8,iP,nA]) ?_
    exact⟨⟨P.lv,x5,c5,P.ar,v8,P.tb⟩,rfl,rfl,hO5,ho8⟩
   ·refine bq rfl ?_
    intro ρ y W hw hn hb hd
    have E46:=hw 46 9 rfl
    have h9:((MO w11.heap.size P.sp)).r (y 9) W:=hd 9 rfl
    obtain⟨p9,e9,hg9⟩:=h9
    refine ji (.slice (some ⟨W.heap.size,0,none⟩) 1 1) (ah rfl) (by simp[execOp,go_sem,E46,e9,nA]) ((Below.refl _ _).alloc (Nat.le_refl _) (.cells (nA p9) 55)) ?_
    exact⟨_,p9,rfl,cZ.new _ _ _,hg9.below ((Below.refl _ _).alloc (Nat.le_refl _) _)⟩
   intro ρ y WA o ho hw hn hV hbWA hRWA
   cases ho
   have hy0:y 0 = .slice av qs.length cv:=hRWA 0 (by decide)
   have hy1:y 1 = .pointer (some ⟨wr.heap.size,0,none⟩):=hRWA 1 (by decide)
   have hy2:y 2 = .bool P.lv:=hRWA 2 (by decide)
   have hy3:y 3 = .pointer (some ⟨wr.heap.size,1,none⟩):=hRWA 3 (by decide)
   have hy4:y 4 = .slice P.aa P.ar.length P.ac:=hRWA 4 (by decide)
   have hy5:((il w11.heap.size 99 7 P.ar.length (P.ar.flatMap iE))).r (y 5) WA:=hRWA 5 (by decide)
   have hy6:y 6 = .pointer (some ⟨wr.heap.size,2,none⟩):=hRWA 6 (by decide)
   have hy7:y 7 = .agg (iP P.ts):=hRWA 7 (by decide)
   have hy8:((Bq w11.heap.size P.tb)).r (y 8) WA:=hRWA 8 (by decide)
   have hy9:((MO w11.heap.size P.sp)).r (y 9) WA:=hRWA 9 (by decide)
   have hy10:((NK w11.heap.size P.sp)).r (y 10) WA:=hRWA 10 (by decide)
   have E37:=hw 37 0 rfl
   rw[hy0] at E37
   have E47:=hw 47 10 rfl
   have EC:∀v,ρ (.const v)=v:=fun v=>hn (.const v) trivial
   have EF:∀f,ρ (.func f) = .func (.func f) #[] #[]:=fun f=>hn (.func f) trivial
   obtain⟨g10,p10,e10,hrd10,hg10⟩:=hy10
   refine zL (ah rfl) (gL (.tmp 37) (.tmp 47) 39 rfl w.heap.size 55 _ 10 224 Tryz.underlying39 space_info rfl (by decide) _ _ _ E37 (hO.below hbWA) _ 1 1 (lg p10) (E47.trans e10) (fun e=>by cases e) (Nat.le_refl _) rfl hrd10 (IV hg10) (by unfold maxLen;omega) (by omega) (Nat.le_trans hgw.out hbWA.size)) ?_
   rintro v2 w13 ⟨hown13,hgr13,hcase13⟩
   clear hRWA hw hn hV
   simp only[lay,Nat.reduceAdd,Nat.reduceLT,Nat.reduceEqDiff,reduceIte,decide_true,decide_false,if_true,Bool.false_eq_true,if_false,List.setIfInBounds_toArray,List.set_cons_zero,List.set_cons_succ,List.drop_succ_cons,List.drop_zero,List.drop_nil,hy0,hy1,hy2,hy3,hy4,hy6,hy7]
   clear hy0 hy1 hy2 hy3 hy4 hy6 hy7
   have hOA:=hO.below hbWA
   have hbrA:=ae hbr11 hbWA
   have hbr13:Below w.heap.size w w13:=hbrA.grown hgr13 hbrA.size (fun k hk=>hOA.ge k hk)
   have hown13' : Own w13 w.heap.size 55 10 v2 (qs++[p10]).length ((qs++[p10]).flatMap lg):=by
    rw[List.length_append,List.flatMap_append];simpa using hown13
   obtain⟨a13,c13,rfl,_⟩:=hown13'.rd
   have r1:=eQ hOA hgr13 (q1.below hbWA) (by decide)
   have r2:=eQ hOA hgr13 (q2.below hbWA) (by decide)
   have r3:jc w13 w.heap.size _ _ H.sw:=⟨eQ hOA hgr13 (q3.below hbWA).b (by decide),eQ hOA hgr13 (q3.below hbWA).q (by decide)⟩
   have r4:jc w13 w.heap.size _ _ H.dk:=⟨eQ hOA hgr13 (q4.below hbWA).b (by decide),eQ hOA hgr13 (q4.below hbWA).q (by decide)⟩
   have r5:=Lc hOA hgr13 (q5.below hbWA)
   have r6:=eQ hOA hgr13 (q6.below hbWA) (by decide)
   have bx13:=nk hOA hgr13 (bx11.ext hbWA) (by decide)
   have rx13:=nk hOA hgr13 (rx11.ext hbWA) (by decide)
   have hps13:∀p∈qs++[p10],nP w13 w.heap.size p p.sp∧ul p.tb:=fun p hp=>by
    rcases List.mem_append.1 hp with hp|hp
    ·have h1:=(hps11 p hp).1.below hbWA
     exact⟨⟨rfl,eQ hOA hgr13 h1.2.1 (by decide),rQ hOA hgr13 h1.2.2⟩,(hps11 p hp).2⟩
    ·rw[List.mem_singleton.1 hp]
     refine⟨⟨rfl,(eQ hOA hgr13 hg10.2.1 (by decide)).mono hgw.out,(rQ hOA hgr13 hg10.2.2).mono hgw.out⟩,?_⟩
     have e:p10.tb=P.tb:=congrArg Sp.tb hg10.1
     rw[e];exact hz2
   have hqs3:Hid ((qs++[p10]).map PS.sp=(H.sp.take (q+1)).map PS.sp):=Lib.hid (by rw[List.map_append,←hqs2.out,←hg10.1];rfl)
   clear hO hOA hbrA hbWA hown13 hgr13 hcase13 hg10 hrd10 fx hg11 bx11 rx11 q1 q2 q3 q4 q5 q6 hps11
   go_wp2
   go_roundw
   case rel=>exact⟨q+1,_,_,_,by omega,by go_num,rfl,hbr13,bx13,rx13,r1,r2,r3,r4,r5,r6,hown13',hps13,hqs3⟩
   case measure=>simp[intOf];omega
  ·have hqi:¬(q:Int)<(H.sp.length:Int):=by omega
   rw[List.take_of_length_le (by omega)] at hqs
   go_wp2_with (refine aC rfl _ _ _ rfl w.heap.size 10 _ [.slice av qs.length cv] rfl rfl rfl _ _ bx (by show 10+1≤11;decide) slsp_size (fun u hu=>by cases List.mem_singleton.1 hu;rfl) ?_)
   intro w11 bx11 hg11
   have hbr11:=hbr.grown hg11 hbr.size (fun k hk=>by cases hk;exact Nat.le_refl _)
   have rx11:=rx.grown hg11 (fun e=>by have:=Option.some.inj e;omega)
   obtain⟨K,hK⟩:∃K:MH,Hid (K = { G with ap:=av,cp:=cv,sp:=qs }):=⟨_,Lib.hid rfl⟩
   have bxK:aF w11 w.heap.size (bR K) 41:=by rw[hK.out];exact bx11
   have hown:qK w11 w.heap.size K:=by
    rw[hK.out,hG.out]
    exact⟨ak p1 bx (by decide) hg11,ak p2 bx (by decide) hg11,p3.keep bx (by decide) (by decide) hg11,p4.keep bx (by decide) (by decide) hg11,p5.keep bx (by decide) (by decide) hg11,ak p6 bx (by decide) hg11,ak ho bx (by decide) hg11,fun p hp=>⟨ak (hps p hp).1.2.1 bx (by decide) hg11,(hps p hp).1.2.2.keep bx (by decide) hg11⟩,hks⟩
   have hma:K.ma=H.ma:=by
    rw[hK.out,hG.out]
    unfold MH.ma
    simp only
    rw[hqs.out,hst]
   have hsz:∀p∈K.fi,∀x,oB p.a=some x→oB K.asl≠some x:=by rw[hK.out,hG.out];exact hn2.out
   clear hbr bx rx hg11 bx11 p1 p2 p3 p4 p5 p6 ho
   go_wp2_with (first | (refine ay _ _ rfl w.heap.size 0 rfl rfl (bR K).toList bxK.rd _ Tryz.underlying41 rfl mach_size ?_) | (refine az rfl _ _ _ rfl (w.heap.size+1) (bR K) rfl rfl _ _ rx11 rfl mach_size (fG K) ?_))
   intro w12 rx12 hg12
   have hbr12:=hbr11.grown hg12 hbr11.size (fun k hk=>by cases hk;omega)
   go_wp2
   refine bodyPost_ret (v:=.agg (bR K)) (dw Tryz.results40 _ _ (w.heap.size+1) _ _ _ rfl rx12 Tryz.underlying41 rfl mach_size) rfl ?_
   exact⟨K,rfl,hown.keep rx11 (by decide) hg12,hma,hsz,hbr12⟩
theorem yI (d:pR) (k:Int) (ab:Option Addr) (cb:Nat) (aq:Option Addr) (cq:Nat) (w:World) (h:GY w ab cb aq cq d) :
  Calls Tryz.prog 87 #[.agg #[.slice ab d.blocks.length cb,.slice aq d.queue.length cq],.int .i64 k] w fun e w'=>e = .returned (.tuple #[.agg (dW (iJ d k)),.int .i64 (fu d k)])∧Below w.heap.size w w':=by
 go_enter Tryz.func87,Tryz.ntmps87
 go_wp2_with fail
 refine mg (fun W=>Calls _ _ _ W _) fun W0 hb0 hx0 hr0 hs0 => ?_
 refine (oC d ab cb aq cq _ (h.below hb0)).mono ?_
 rintro e w1 ⟨rfl,hb1⟩
 have hbel1:=ae hb0 hb1
 have hx1:=hx0.ext hb1
 have hres1:=hr0.ext hb1
 have h1:=h.below hbel1
 clear hx0 hr0 hb1 hb0 hs0
 have lq:=Nat.le_trans h1.lq h1.mq
 unfold maxLen at lq
 have hc1:=hx1.cell
 by_cases hw:bK d=0
 ·rw[hw]
  by_cases hk:k<0∨(d.blocks.length:Int)≤k
  ·have q1:fu d k=3:=by unfold fu;rw[if_neg (by omega),if_pos hk]
   have q2:dW (iJ d k)=#[.int .u8 0,.int .u8 0,.int .u8 0,.int .u8 0,.int .u8 0,.int .u8 0,.int .u8 0,.int .u8 0]:=by unfold iJ;rw[q1];rfl
   rcases hk with hk|hk
   all_goals
    go_wp2_with (refine az rfl _ (.tmp 4) (.tmp 25) rfl (w.heap.size+1) #[.int .u8 0,.int .u8 0,.int .u8 0,.int .u8 0,.int .u8 0,.int .u8 0,.int .u8 0,.int .u8 0] rfl rfl _ _ hres1 zz_fit zz_info zz_one ?_)
    all_goals
     intro w2 hr2 hgr
     have hbel2:=hbel1.grown hgr hbel1.size (fun k hk=>by cases hk;omega)
     have hcr:=hr2.cell
     go_wp2
     simp[bodyPost,results,go_sem,Tryz.results87,hcr,q1,q2]
     exact hbel2
  ·obtain⟨k,rfl⟩:=Int.eq_ofNat_of_zero_le (show 0≤k by omega)
   have hkl:k<d.blocks.length:=by omega
   have k1:¬(d.blocks.length:Int)≤(k:Int):=by omega
   have kz:(k:Int)<(d.blocks.length:Int):=by omega
   have q1:fu d k=0:=by unfold fu;rw[if_neg (by omega),if_neg hk]
   have q2:iJ d k=over k d.blocks[k] d.queue:=by unfold iJ;rw[q1,if_pos rfl];simp[hkl]
   have Q:=Lib.hid (And.intro q1 q2)
   have hgx:w.heap.size+2≤w1.heap.size:=by have:=hres1.lt;omega
   clear hk q1 q2
   have hd:decide (d.blocks.length≤k)=false:=by simp;omega
   obtain⟨b,off,rfl,hc⟩:=zm h1.rb k hkl
   have c0:=hc 0 (by decide);have c1:=hc 1 (by decide);have c2:=hc 2 (by decide);have c3:=hc 3 (by decide)
   have c4:=hc 4 (by decide);have c5:=hc 5 (by decide);have c6:=hc 6 (by decide);have c7:=hc 7 (by decide)
   simp only[dW,List.getElem?_toArray,List.getElem?_cons_zero,List.getElem?_cons_succ,Nat.add_zero] at c0 c1 c2 c3 c4 c5 c6 c7
   clear hc
   go_upto_region 7 with (fail)
   refine fo (fun W=>Code.wp _ _ _ _ W) fun w2 hb2 hp2 hs2 => ?_
   have hbel2:=ae hbel1 hb2
   have hx2:=hx1.ext hb2
   have hres2:=hres1.ext hb2
   have hp2' : aF w2 w1.heap.size (dW d.blocks[k]) 79:=hp2
   clear hbel1 hx1 hres1 h1 hb2 hp2 hs2 hc1 c0 c1 c2 c3 c4 c5 c6 c7
   have hc2:=hx2.cell
   go_wp2
   clear hc2 hx2
   go_loopw [34] (fun i wr => ∃j:Nat,j≤d.queue.length∧i = .int .i64 j∧Below w.heap.size w wr∧aF wr (w.heap.size+1) #[.int .u8 0,.int .u8 0,.int .u8 0,.int .u8 0,.int .u8 0,.int .u8 0,.int .u8 0,.int .u8 0] 79∧aF wr w1.heap.size (dW (over k d.blocks[k] (d.queue.take j))) 79) (fun i _=>d.queue.length-(intOf i).toNat)
   case atStart=>exact⟨0,Nat.zero_le _,rfl,hbel2,hres2,hp2'⟩
   case round=>
    clear hbel2 hres2 hp2'
    obtain⟨j,hj,rfl,hbel,hres,hp⟩:=hrel
    by_cases hlt:j<d.queue.length
    ·obtain⟨b',off',rfl,hc⟩:=vW (h.below hbel).rq j hlt
     have c0:=hc 0 (by decide);have c1:=hc 1 (by decide);have c2:=hc 2 (by decide);have c3:=hc 3 (by decide);have c4:=hc 4 (by decide)
     have c5:=hc 5 (by decide);have c6:=hc 6 (by decide);have c7:=hc 7 (by decide);have c8:=hc 8 (by decide)
     simp only[Ai,List.getElem?_toArray,List.getElem?_cons_zero,List.getElem?_cons_succ,Nat.add_zero] at c0 c1 c2 c3 c4 c5 c6 c7 c8
     clear hc
     have hot:=Lib.hid (ET (k:Int) d.blocks[k] d.queue j hlt)
     by_cases he:d.queue[j].1=(k:Int)
     ·have hot' : Hid (over (k:Int) d.blocks[k] (d.queue.take (j+1))=d.queue[j].2):=by have:=hot.out;rw[if_pos he] at this;exact this
      rw[he] at c0
      clear hot he
      have hpa:=hp.alloc (.cells #[.int .i64 k,.int .u8 d.queue[j].2[0].toNat,.int .u8 d.queue[j].2[1].toNat,.int .u8 d.queue[j].2[2].toNat,.int .u8 d.queue[j].2[3].toNat,.int .u8 d.queue[j].2[4].toNat,.int .u8 d.queue[j].2[5].toNat,.int .u8 d.queue[j].2[6].toNat,.int .u8 d.queue[j].2[7].toNat] 86)
      go_wp2_with (refine az rfl _ (.tmp 7) (.tmp 43) rfl w1.heap.size (dW d.queue[j].2) rfl rfl _ _ hpa (LG _ _) (Ee _) (eD _) ?_)
      intro w4 hp4 hgr
      have hbel4:=(hbel.alloc hbel.size _).grown hgr (dz hbel.size _) (fun k hk=>by cases hk;omega)
      have hres4:=(hres.alloc _).grown hgr (fun he=>by have:=Option.some.inj he;omega)
      clear hpa hp hbel hres hgr c0 c1 c2 c3 c4 c5 c6 c7 c8
      go_wp2
      go_roundw
      case rel=>exact⟨j+1,by omega,by go_num,hbel4,hres4,by rw[hot'.out];exact hp4⟩
      case measure=>simp[intOf];omega
     ·have hot' : Hid (over (k:Int) d.blocks[k] (d.queue.take (j+1))=over (k:Int) d.blocks[k] (d.queue.take j)):=by have:=hot.out;rw[if_neg he] at this;exact this
      have hne:(d.queue[j].1==(k:Int))=false:=by simpa using he
      clear hot he
      go_wp2
      go_roundw
      case rel=>exact⟨j+1,by omega,by go_num,hbel.alloc hbel.size _,hres.alloc _,by rw[hot'.out];exact hp.alloc _⟩
      case measure=>simp[intOf];omega
    ·rw[List.take_of_length_le (show d.queue.length≤j by omega)] at hp
     have hq2:=Q.out.2
     rw[←hq2] at hp
     have hcp:=hp.cell
     rw[El] at hcp
     clear hq2
     go_wp2_with (refine az rfl _ (.tmp 4) (.tmp 45) rfl (w.heap.size+1) (dW (iJ d k)) rfl rfl _ _ hres (MR _) (Ee _) (eD _) ?_)
     intro w4 hr4 hgr
     have hbel4:=hbel.grown hgr hbel.size (fun k hk=>by cases hk;omega)
     have hcr:=hr4.cell
     obtain⟨e0,e1,e2,e3,e4,e5,e6,e7⟩:=LM (iJ d k)
     clear hcp
     go_wp2
     simp[bodyPost,results,go_sem,Tryz.results87,hcr,e0,e1,e2,e3,e4,e5,e6,e7,Q.out.1]
     exact⟨rfl,hbel4⟩
 ·have q1:fu d k=bK d:=by unfold fu;rw[if_pos hw]
  have q2:dW (iJ d k)=#[.int .u8 0,.int .u8 0,.int .u8 0,.int .u8 0,.int .u8 0,.int .u8 0,.int .u8 0,.int .u8 0]:=by unfold iJ;rw[q1,if_neg hw];rfl
  have hw' : (bK d != 0)=true:=by simpa using hw
  go_wp2_with (refine az rfl _ (.tmp 4) (.tmp 14) rfl (w.heap.size+1) #[.int .u8 0,.int .u8 0,.int .u8 0,.int .u8 0,.int .u8 0,.int .u8 0,.int .u8 0,.int .u8 0] rfl rfl _ _ hres1 zz_fit zz_info zz_one ?_)
  intro w2 hr2 hgr
  have hbel2:=hbel1.grown hgr hbel1.size (fun k hk=>by cases hk;omega)
  have hcr:=hr2.cell
  go_wp2
  simp[bodyPost,results,go_sem,Tryz.results87,hcr,q1,q2]
  exact hbel2
theorem Br (f:Fr) (w:World):Calls Tryz.prog 122 #[.agg (qi f)] w fun e w'=>e = .returned (.int .i64 (dD f))∧Below w.heap.size w w':=by
 have hE:∀W,(Op.equalIn 10000 79 (.agg #[.int .u8 f.p[0].toNat,.int .u8 f.p[1].toNat,.int .u8 f.p[2].toNat,.int .u8 f.p[3].toNat,.int .u8 f.p[4].toNat,.int .u8 f.p[5].toNat,.int .u8 f.p[6].toNat,.int .u8 f.p[7].toNat]) (.agg #[.int .u8 0,.int .u8 0,.int .u8 0,.int .u8 0,.int .u8 0,.int .u8 0,.int .u8 0,.int .u8 0])).run Tryz.prog W = .ok (f.p==zPg) W:=Nu f.p zPg
 have hE9:∀W,(Op.equalIn 9999 79 (.agg #[.int .u8 f.p[0].toNat,.int .u8 f.p[1].toNat,.int .u8 f.p[2].toNat,.int .u8 f.p[3].toNat,.int .u8 f.p[4].toNat,.int .u8 f.p[5].toNat,.int .u8 f.p[6].toNat,.int .u8 f.p[7].toNat]) (.agg #[.int .u8 0,.int .u8 0,.int .u8 0,.int .u8 0,.int .u8 0,.int .u8 0,.int .u8 0,.int .u8 0])).run Tryz.prog W = .ok (f.p==zPg) W:=Mv f.p zPg
 go_enter Tryz.func122,Tryz.ntmps122
 unfold qi
 cases hp:(f.p==zPg)
 all_goals rw[hp] at hE hE9
 all_goals have hp':=Lib.hid hp
 all_goals clear hp
 all_goals go_wp2
 all_goals go_ret
 all_goals refine⟨?_,(Below.refl _ _).alloc (Nat.le_refl _) _⟩
 all_goals have hp:=hp'.out
 all_goals clear hE hE9 hp'
 all_goals go_light
 all_goals refine congrArg (fun z=>Ending.returned (.int .i64 z)) ?_
 all_goals simp only[dD,vS,yo,ut,Bool.or_eq_true,Bool.and_eq_true,decide_eq_true_eq,ne_eq,bne_iff_ne]
 all_goals simp_all
 all_goals omega
theorem AX (m:Mem) (a:Option Addr) (c:Nat) (w:World) (h:Ih w a c m) :
  Calls Tryz.prog 82 #[.agg #[.slice a m.fs.length c,.int .i64 m.hand]] w fun e w'=>e = .returned (.int .i64 (di m))∧Below w.heap.size w w':=by
 have hl:=Nat.le_trans h.le h.mx
 unfold maxLen at hl
 go_enter Tryz.func82,Tryz.ntmps82
 go_upto_region 1 with (fail)
 refine fo (fun W=>Code.wp _ _ _ _ W) fun W0 hb0 hx0 hs0 => ?_
 clear hs0
 have hcx:=hx0.cell
 by_cases h4:40<m.fs.length
 ·have hW:di m=4:=by unfold di;rw[if_pos h4]
  have h4' : (40:Int)<(m.fs.length:Int):=by omega
  go_wp2
  go_ret
  rw[hW]
  exact⟨rfl,hb0⟩
 ·have h4' : ¬(40:Int)<(m.fs.length:Int):=by omega
  go_wp2
  clear hcx
  go_loopw [13] (fun i wr => ∃k:Nat,k≤m.fs.length∧i = .int .i64 k∧Below w.heap.size w wr∧aF wr w.heap.size #[.slice a m.fs.length c,.int .i64 m.hand] 28∧∀i (h:i<m.fs.length),i<k→dD m.fs[i]=0) (fun i _=>m.fs.length-(intOf i).toNat)
  case atStart=>exact⟨0,Nat.zero_le _,rfl,hb0,hx0,fun i _ h=>absurd h (Nat.not_lt_zero _)⟩
  case round=>
   clear hx0 hb0
   obtain⟨k,hk,rfl,hbel,hx,hno⟩:=hrel
   have hno':=Lib.hid hno
   clear hno
   by_cases hlt:k<m.fs.length
   ·obtain⟨b,off,rfl,hc⟩:=yZ (h.below hbel).rd k hlt
    obtain⟨c0,c1,c2,c3,c4,c5,c6,c7,c8,c9,ca,cb,cc⟩:=hc
    have hkz:(k:Int)<(m.fs.length:Int):=by omega
    have hf:=fun w=>Br m.fs[k] w
    unfold qi at hf
    by_cases he:dD m.fs[k]=0
    ·have he':=Lib.hid he
     rw[he] at hf
     clear he
     go_upto_region 6 with (fail)
     refine fo (fun W=>Code.wp _ _ _ _ W) fun w1 hb1 hy1 hs1 => ?_
     have hbel1:=ae hbel hb1
     have hx1:=hx.ext hb1
     clear hs1 hbel hx hb1
     have hcy:=hy1.cell
     go_wp2_with fail
     refine (hf _).mono ?_
     rintro e w2 ⟨rfl,hb2⟩
     go_wp2
     go_roundw
     case rel=>exact⟨k+1,by omega,by go_num,ae hbel1 hb2,hx1.ext hb2,jJ hno'.out hlt he'.out⟩
     case measure=>simp[intOf];omega
    ·have hW:di m=dD m.fs[k]:=by
      have:=firstEf_at _ k hlt hno'.out he
      unfold di;rw[if_neg h4,this,if_pos he]
     have hn:(dD m.fs[k] != 0)=true:=by simpa using he
     have hW':=Lib.hid hW
     clear hW
     go_upto_region 6 with (fail)
     refine fo (fun W=>Code.wp _ _ _ _ W) fun w1 hb1 hy1 hs1 => ?_
     have hbel1:=ae hbel hb1
     clear hs1 hbel hx hb1
     have hcy:=hy1.cell
     go_wp2_with fail
     refine (hf _).mono ?_
     rintro e w2 ⟨rfl,hb2⟩
     go_wp2
     go_ret
     rw[hW'.out]
     exact⟨rfl,ae hbel1 hb2⟩
   ·have h0:firstEf m.fs=0:=firstEf_none _ (fun i hi=>hno'.out i hi (by omega))
    have hW:di m=if m.hand<0∨(0<m.hand∧(m.fs.length:Int)≤m.hand) then 3 else 0:=by
     unfold di;rw[if_neg h4,h0];rfl
    have hW':=Lib.hid hW
    have hcx:=hx.cell
    clear hW h0
    by_cases n0:m.hand=0
    ·have nb:(m.hand != 0)=false:=by simp[n0]
     have n0':=Lib.hid n0
     clear n0
     go_wp2
     all_goals
      go_ret
      rw[hW'.out,if_neg (by have:=n0'.out;omega)]
      exact⟨rfl,hbel⟩
    ·have nb:(m.hand != 0)=true:=by simpa using n0
     by_cases n1:m.hand<0
     ·go_wp2
      all_goals
       go_ret
       rw[hW'.out,if_pos (.inl n1)]
       exact⟨rfl,hbel⟩
     ·by_cases n3:(m.fs.length:Int)≤m.hand
      ·go_wp2
       all_goals
        go_ret
        rw[hW'.out,if_pos (.inr ⟨by omega,n3⟩)]
        exact⟨rfl,hbel⟩
      ·go_wp2
       all_goals
        go_ret
        rw[hW'.out,if_neg (by omega)]
        exact⟨rfl,hbel⟩
theorem Aw (t : Tb) (cs : Array Value) (w : World) (h : zJ w cs t) : Calls Tryz.prog 86 #[.agg cs] w fun r w' => r = .returned (.int .i64 (bI t)) ∧ Below w.heap.size w w' := by
  go_enter Tryz.func86, Tryz.ntmps86
  go_upto_region 1 with (fail)
  refine fo (fun W => Code.wp _ _ _ _ W) fun W0 hb0 hx0 hs0 => ?_
  clear hs0
  go_wp2_with (refine dQ rfl 53 (.tmp 1) rfl w.heap.size 0 rfl cs.toList hx0.rd _ Tryz.underlying53 tab_agg (by rw [Array.length_toList, h.sz]; exact tab_size) ?_)
  clear hx0
  go_loopw [9] (fun i wr => ∃ k : Nat, k ≤ 8 ∧ i = .int .i64 k ∧ Below w.heap.size w wr ∧ ∀ i (hi : i < 8), i < k → iI t[i] = 0) (fun i _ => 8 - (intOf i).toNat)
  case atStart => exact ⟨0, Nat.zero_le _, rfl, hb0, fun i _ h => absurd h (Nat.not_lt_zero _)⟩
  case round =>
    obtain ⟨k, hk, rfl, hbr, hp0⟩ := hrel
    have hp := Lib.hid hp0
    clear hp0 hb0
    by_cases hlt : k < 8
    · obtain ⟨a, c, hcs, hle, hmx, hnil, hrd⟩ := h.at' k hlt
      have hix := fun W => vg hlt hcs W
      have hd8 : decide ((k : Int) < 8) = true := by simp; omega
      unfold maxLen at hmx
      clear hcs
      by_cases h08 : t[k].length = 0 ∨ t[k].length = 8
      · have H08 := Lib.hid h08
        have hl8 : t[k].length ≤ 8 := by omega
        have q1 : ((t[k].length : Int) != 0) = true ∧ ((t[k].length : Int) != 8) = false ∨ ((t[k].length : Int) != 0) = false ∧ ((t[k].length : Int) != 8) = true := by
          rcases h08 with e | e <;> simp [e]
        clear h08
        rcases q1 with ⟨q1, q2⟩ | ⟨q1, q2⟩
        all_goals
          go_wp2
          clear hix
          go_loopw [22, 5] (fun i s wr' => ∃ j c : Nat, j ≤ t[k].length ∧ c ≤ j ∧ i = .int .i64 j ∧ s = .int .i64 c ∧ Below w.heap.size w wr' ∧ Hid (c = 0 ↔ qo t[k] j = false) ∧ ∀ i (hi : i < t[k].length), i < j → dC t[k][i] = 0) (fun i _ _ => t[k].length - (intOf i).toNat)
          case atStart => exact ⟨0, 0, Nat.zero_le _, Nat.le_refl _, rfl, rfl, hbr, Lib.hid (by simp [GV]), fun i _ h => absurd h (Nat.not_lt_zero _)⟩
          case round =>
            obtain ⟨j, n, hj, hnj, rfl, rfl, hbq, hn0, hq0⟩ := hrel
            have hq := Lib.hid hq0
            clear hq0 hbr
            by_cases hjl : j < t[k].length
            · obtain ⟨b, off, rfl, c0, c1, c2⟩ := yF (hrd.below hbq) j hjl
              go_upto_region 10 with (fail)
              refine fo (fun W => Code.wp _ _ _ _ W) fun W3 hb3 hx3 hs3 => ?_
              have hbel3 := ae hbq hb3
              have hx4 := hx3.cell
              have hfin : Hid (dC t[k][j] ≠ 0 → bI t = dC t[k][j]) := Lib.hid (fun he => (lH k hlt hp.out (by rw [rG H08.out j hjl hq.out he]; exact he)).trans (rG H08.out j hjl hq.out he))
              have hok : Hid (dC t[k][j] = 0 → ∀ i (hi : i < t[k].length), i < j + 1 → dC t[k][i] = 0) := Lib.hid (fun he => jJ hq.out hjl he)
              have hai : Hid (0 ≤ t[k][j].k → ((0 < t[k][j].k) → (n + 1 = 0 ↔ qo t[k] (j + 1) = false)) ∧ (¬ 0 < t[k][j].k → (n = 0 ↔ qo t[k] (j + 1) = false))) := Lib.hid (Jj hjl hn0.out)
              clear hbq hs3 c0 c1 c2 hb3 hx3 hq hp hn0
              generalize t[k][j] = E at hx4 hfin hok hai
              go_wp2
              all_goals first
                | (go_ret
                   refine ⟨aS ?_, hbel3⟩
                   clear hx4 hok hai
                   go_light
                   have he : dC E ≠ 0 → bI t = dC E := hfin.out
                   clear hfin
                   unfold dC at he
                   simp_all <;> omega)
                | (have he : dC E = 0 := by
                     clear hx4 hok hai hfin
                     go_light
                     unfold dC
                     simp_all <;> omega
                   have hk0 : 0 ≤ E.k := by
                     clear hx4 hok hai hfin he
                     go_light
                     omega
                   have hq2 := Lib.hid (hok.out he)
                   have ha2 := Lib.hid (hai.out hk0)
                   clear hai hok hfin he hx4
                   have hkp : 0 < E.k := by
                     go_light
                     omega
                   have ha3 := Lib.hid (ha2.out.1 hkp)
                   clear ha2
                   go_roundw
                   case rel => exact ⟨j + 1, n + 1, by omega, by omega, by go_num, by go_num, hbel3, ha3, hq2.out⟩
                   case measure => simp [intOf]; omega)
                | (have he : dC E = 0 := by
                     clear hx4 hok hai hfin
                     go_light
                     unfold dC
                     simp_all <;> omega
                   have hk0 : 0 ≤ E.k := by
                     clear hx4 hok hai hfin he
                     go_light
                     omega
                   have hq2 := Lib.hid (hok.out he)
                   have ha2 := Lib.hid (hai.out hk0)
                   clear hai hok hfin he hx4
                   have hkp : ¬ 0 < E.k := by
                     go_light
                     omega
                   have ha3 := Lib.hid (ha2.out.2 hkp)
                   clear ha2
                   go_roundw
                   case rel => exact ⟨j + 1, n, by omega, by omega, by go_num, rfl, hbel3, ha3, hq2.out⟩
                   case measure => simp [intOf]; omega)
            · have hend := Lib.hid (pF H08.out fun i hi => hq.out i hi (by omega))
              have hall := BH t[k] j (by omega)
              by_cases hgo : t[k].length = 8 ∧ n = 0
              · obtain ⟨g1, g2⟩ := hgo
                have hfin2 := Lib.hid (hend.out.trans (if_pos ⟨by omega, by rw [← hall]; exact hn0.out.1 g2⟩))
                have hfin := Lib.hid (lH k hlt hp.out (by rw [hfin2.out]; decide))
                have g3 : ((t[k].length : Int) == 8) = true := by rw [beq_iff_eq]; omega
                subst g2
                clear hall g1
                go_wp2
                go_ret
                exact ⟨aS (hfin.out.trans hfin2.out).symm, hbq⟩
              · have hfin2 := Lib.hid (hend.out.trans (if_neg (fun h => hgo ⟨by have := H08.out; omega, hn0.out.2 (hall.trans h.2)⟩)))
                have hgo2 : ((t[k].length : Int) == 8) = false ∨ ((t[k].length : Int) == 8) = true ∧ ((n : Int) == 0) = false := by
                  by_cases hz : t[k].length = 8
                  · exact .inr ⟨by rw [beq_iff_eq]; omega, by rw [beq_eq_false_iff_ne]; omega⟩
                  · exact .inl (by rw [beq_eq_false_iff_ne]; omega)
                clear hgo hall
                rcases hgo2 with g1 | ⟨g1, g2⟩
                all_goals
                  go_wp2
                  go_roundw
                  case rel => exact ⟨k + 1, by omega, by go_num, hbq, jJ hp.out hlt hfin2.out⟩
                  case measure => simp [intOf]; omega
      · have q1 : ((t[k].length : Int) != 0) = true := by rw [bne_iff_ne]; omega
        have q2 : ((t[k].length : Int) != 8) = true := by rw [bne_iff_ne]; omega
        have hfin2 := Lib.hid (qJ (h := t[k]) (by omega))
        have hfin := Lib.hid (lH k hlt hp.out (by rw [hfin2.out]; decide))
        go_wp2
        go_ret
        exact ⟨aS (hfin.out.trans hfin2.out).symm, hbr⟩
    · have hfin := Lib.hid (oq fun i hi => hp.out i hi (by omega))
      go_wp2
      go_ret
      exact ⟨aS hfin.out.symm, hbr⟩
theorem Nj (f g:En) (b:Bool) (h:(f==g)=b) (W:World):(Op.equalIn 10000 89 (.agg #[.int .i64 f.k,.int .i64 f.n,.bool f.w]) (.agg #[.int .i64 g.k,.int .i64 g.n,.bool g.w])).run Tryz.prog W = .ok b W:=by
 rw[←h,Mw]
 by_cases h1:(f.k==g.k)=true
 ·by_cases h2:(f.n==g.n)=true
  ·by_cases h3:f.w=g.w<;>simp[go_sem,h1,h2,h3]
  ·simp[go_sem,h1,h2]
 ·simp[go_sem,h1]
theorem EZ (t u:Tb) (cs ds:Array Value) (w:World) (h:zJ w cs t) (h' : zJ w ds u):Calls Tryz.prog 47 #[.agg cs,.agg ds] w fun r w'=>r = .returned (.bool (yj t u))∧Below w.heap.size w w':=by
 go_enter Tryz.func47,Tryz.ntmps47
 go_upto_region 1 with (fail)
 refine mg (fun W=>Code.wp _ _ _ _ W) fun W0 hb0 hx0 hy0 hs0 => ?_
 clear hs0
 go_wp2
 go_loopw [7] (fun i wr => ∃k:Nat,k≤8∧i = .int .i64 k∧Below w.heap.size w wr∧aF wr w.heap.size cs 53∧aF wr (w.heap.size+1) ds 53∧∀i (hi:i<8),i<k→t[i]=u[i]) (fun i _=>8-(intOf i).toNat)
 case atStart=>exact⟨0,Nat.zero_le _,rfl,hb0,hx0,hy0,fun i _ h=>absurd h (Nat.not_lt_zero _)⟩
 case round=>
  obtain⟨k,hk,rfl,hbr,hx,hy,hp0⟩:=hrel
  have hp:=Lib.hid hp0
  clear hp0 hb0 hx0 hy0
  by_cases hlt:k<8
  ·obtain⟨a,c,hcs,hle,hmx,hnil,hrd⟩:=h.at' k hlt
   obtain⟨a',c',hds,hle',hmx',hnil',hrd'⟩:=h'.at' k hlt
   have hd8:decide ((k:Int)<8)=true:=by simp;omega
   have hk8:(k:Int)<8:=by omega
   unfold maxLen at hmx hmx'
   have HC:=Lib.hid hcs
   have HD:=Lib.hid hds
   have hcx:=(hx.cell k).trans hcs
   have hcy:=(hy.cell k).trans hds
   clear hcs hds
   by_cases hl:t[k].length=u[k].length
   ·have hl':=Lib.hid hl
    have hne:((t[k].length:Int) != (u[k].length:Int))=false:=by simp[hl]
    clear hl
    go_wp2_with fail
    go_quiet (fail)
    go_wp2
    clear hcx hcy
    generalize hW1:wr.drewN _=w1
    have hbr1:Below w.heap.size w w1:=by rw[←hW1];exact below_drewN hbr _
    have hx1:aF w1 w.heap.size cs 53:=by rw[←hW1];exact hx.drewN _
    have hy1:aF w1 (w.heap.size+1) ds 53:=by rw[←hW1];exact hy.drewN _
    clear hW1 hbr hx hy
    go_loopw [23] (fun i wr => ∃j:Nat,j≤t[k].length∧i = .int .i64 j∧Below w.heap.size w wr∧aF wr w.heap.size cs 53∧aF wr (w.heap.size+1) ds 53∧∀i (hi:i<t[k].length),i<j→t[k][i]=u[k][i]'(by have:=hl'.out;omega)) (fun i _=>t[k].length-(intOf i).toNat)
    case atStart=>exact⟨0,Nat.zero_le _,rfl,hbr1,hx1,hy1,fun i _ h=>absurd h (Nat.not_lt_zero _)⟩
    case round=>
     obtain⟨j,hj,rfl,hbr,hx,hy,hq0⟩:=hrel
     have hq:=Lib.hid hq0
     clear hq0 hbr1 hx1 hy1
     have hcx:=(hx.cell k).trans HC.out
     have hcy:=(hy.cell k).trans HD.out
     by_cases hjl:j<t[k].length
     ·have hjl' : j<u[k].length:=by have:=hl'.out;omega
      have k1:(j:Int)<(u[k].length:Int):=by omega
      obtain⟨b,off,rfl,c0,c1,c2⟩:=yF (hrd.below hbr) j hjl
      obtain⟨b',off',rfl,d0,d1,d2⟩:=yF (hrd'.below hbr) j hjl'
      by_cases he:t[k][j]=u[k][j]
      ·have hE:=Nj t[k][j] u[k][j] true (beq_iff_eq.2 he)
       have he':=Lib.hid he
       clear he
       go_wp2_with fail
       go_quiet (fail)
       go_wp2
       go_roundw
       case rel=>exact⟨j+1,by omega,by go_num,below_drewN hbr _,hx.drewN _,hy.drewN _,Al hl'.out hjl hq.out he'.out⟩
       case measure=>simp[intOf];omega
      ·have hE:=Nj t[k][j] u[k][j] false (beq_eq_false_iff_ne.2 he)
       have hfin:=Lib.hid (yO k hlt (BA j hjl hjl' he))
       clear he
       go_wp2_with fail
       go_quiet (fail)
       go_wp2
       go_ret
       exact⟨aT hfin.out.symm,below_drewN hbr _⟩
     ·have hall:=Lib.hid (jJ hp.out hlt (zU hl'.out j hjl hq.out))
      go_wp2
      go_roundw
      case rel=>exact⟨k+1,by omega,by go_num,hbr,hx,hy,hall.out⟩
      case measure=>simp[intOf];omega
   ·have hne:((t[k].length:Int) != (u[k].length:Int))=true:=by rw[bne_iff_ne];omega
    have hfin:=Lib.hid (yO k hlt (fun e=>hl (by rw[e])))
    clear hl
    go_wp2_with fail
    go_quiet (fail)
    go_wp2
    go_ret
    exact⟨aT hfin.out.symm,below_drewN hbr _⟩
  ·have hfin:=Lib.hid (yP fun i hi=>hp.out i hi (by omega))
   go_wp2
   go_ret
   exact⟨aT hfin.out.symm,hbr⟩
def oK (l:List En):Array Value:=(l.flatMap ik).toArray
theorem mQ (l:List En):(oK l).size=l.length*3:=by
 unfold oK;rw[List.size_toArray,mE]
theorem Lb (l:List En) (k:Nat) (hk:k<l.length) (x:En):bC (oK l) (k*3) (ik x)=oK (l.set k x):=by
 apply Array.ext_getElem?
 intro i
 have hl:=mE l
 have hl':=mE (l.set k x)
 rw[List.length_set] at hl'
 by_cases hi:i<l.length*3
 ·have hq:i / 3<l.length:=by omega
  have hir:i=i / 3*3+i%3:=by omega
  have h2:=gV ik 3 dF (l.set k x) (i / 3) (by simpa using hq) (i%3) (by omega)
  rw[←hir] at h2
  have h3:=gV ik 3 dF l (i / 3) hq (i%3) (by omega)
  rw[←hir] at h3
  have e2:(oK (l.set k x))[i]?=((l.set k x).flatMap ik)[i]?:=by simp[oK]
  have e3:(oK l)[i]?=(l.flatMap ik)[i]?:=by simp[oK]
  by_cases e:i / 3=k
  ·have hik:i=k*3+i%3:=by omega
   have hlt:i%3<(ik x).length:=by rw[dF];omega
   have h1:=putAt_in (ik x) (oK l) (k*3) (i%3) (ik x)[i%3] (by rw[dF,mQ];omega) (List.getElem?_eq_getElem hlt)
   rw[←hik] at h1
   rw[h1,e2,h2]
   simp only[e,List.getElem_set_self]
   exact (List.getElem?_eq_getElem hlt).symm
  ·rw[putAt_out _ _ _ _ (by rw[dF];omega),e2,h2,e3,h3]
   congr 2
   rw[List.getElem_set_ne (fun h=>e h.symm)]
 ·rw[Array.getElem?_eq_none (by rw[size_putAt,mQ];omega),Array.getElem?_eq_none (by rw[mQ,List.length_set];omega)]
theorem arr64_size:(Tryz.prog.info? 90).map (·.size)=some 192:=by kernel_rfl
theorem LH {w:World} {b:Nat} {cur:Array Value} {E:En} {T:TypeId} (h:aF w b (bC cur 0 (ik E)) T) (hc:cur.size=3):aF w b (fI E) T:=by
 have:bC cur 0 (fI E).toList=fI E:=iq cur (fI E) (by rw[hc];rfl)
 have h2:aF w b (bC cur 0 (fI E).toList) T:=h
 rwa [this] at h2
theorem ui (t:Tb) (cs:Array Value) (w:World) (h:zJ w cs t) (h0:bI t=0):Calls Tryz.prog 50 #[.agg cs] w fun r w'=>r = .returned (.agg (oK (bG t)))∧Below w.heap.size w w':=by
 have H0:=Lib.hid h0
 clear h0
 go_enter Tryz.func50,Tryz.ntmps50
 go_upto_region 2 with (fail)
 refine Lu (fun W=>Code.wp _ _ _ _ W) fun W0 hb0 hx0 hres0 ho0 hs0 => ?_
 clear hs0
 replace ho0:aF W0 (w.heap.size+2) (oK (List.replicate 64 zEn)) 90:=ho0
 replace hres0:aF W0 (w.heap.size+1) (oK (List.replicate 64 zEn)) 90:=hres0
 go_wp2_with (refine dQ rfl 53 (.tmp 1) rfl w.heap.size 0 rfl cs.toList hx0.rd _ Tryz.underlying53 tab_agg (by rw[Array.length_toList,h.sz];exact tab_size) ?_)
 have hF0:Hid (Cn t (8*0) (List.replicate 64 zEn)):=Lib.hid Cn.start
 clear hx0
 have hF0':=hF0
 rw[Nat.mul_zero] at hF0
 go_loopw [9] (fun i wr => ∃(k:Nat) (l:List En),k≤8∧i = .int .i64 k∧Below w.heap.size w wr∧aF wr (w.heap.size+2) (oK l) 90∧aF wr (w.heap.size+1) (oK (List.replicate 64 zEn)) 90∧Hid (Cn t (8*k) l)) (fun i _=>8-(intOf i).toNat)
 case atStart=>exact⟨0,_,Nat.zero_le _,rfl,hb0,ho0,hres0,hF0'⟩
 case round=>
  obtain⟨k,l,hk,rfl,hbr,ho,hres,hF⟩:=hrel
  clear hb0 ho0 hres0 hF0 hF0'
  by_cases hlt:k<8
  ·obtain⟨a,c,hcs,hle,hmx,hnil,hrd⟩:=h.at' k hlt
   have hix:=fun W=>vg hlt hcs W
   have hd8:decide ((k:Int)<8)=true:=by simp;omega
   have hl8:=Lib.hid (jT (iD H0.out k hlt))
   have hl9:t[k].length≤8:=by have:=hl8.out;omega
   unfold maxLen at hmx
   clear hcs
   go_wp2
   clear hix
   go_loopw [15] (fun i wr' => ∃(j:Nat) (l' : List En),j≤t[k].length∧i = .int .i64 j∧Below w.heap.size w wr'∧aF wr' (w.heap.size+2) (oK l') 90∧aF wr' (w.heap.size+1) (oK (List.replicate 64 zEn)) 90∧Hid (Cn t (8*k+j) l')) (fun i _=>t[k].length-(intOf i).toNat)
   case atStart=>exact⟨0,l,Nat.zero_le _,rfl,hbr,ho,hres,hF⟩
   case round=>
    obtain⟨j,l',hj,rfl,hbq,ho2,hres2,hF2⟩:=hrel
    clear hbr ho hres
    by_cases hjl:j<t[k].length
    ·obtain⟨b,off,E,rfl,hE,c0,c1,c2⟩:=Kb (hrd.below hbq) j hjl
     have hgE:=Lib.hid (yB hlt (by omega) (by have:=hl8.out;omega) hE)
     have hm1:(8:Int)*(k:Int)+(j:Int)<64:=by omega
     have hF3:=Lib.hid (hF2.out.step (by omega) hgE.out)
     have hfit:Hid ((8*k+j)*3+3≤(oK l').size):=Lib.hid (by rw[mQ,hF2.out.len];omega)
     have hset:Hid (bC (oK l') ((8*k+j)*3) (ik E)=oK (l'.set (8*k+j) E)):=Lib.hid (Lb l' _ (by rw[hF2.out.len];omega) E)
     clear hE hgE hF2
     go_wp2_with (refine aC rfl _ (.tmp 7) (.tmp 19) rfl wr.heap.size 0 _ (ik E) rfl rfl rfl _ _ (aF.new _ _ _) (Nat.le_refl 3) entry_size (xe E) ?_)
     intro w4 hx4 hgr4
     have hx4':=LH hx4 rfl
     have hlt0:=ho2.lt
     have ho4:aF w4 (w.heap.size+2) _ _:=(ho2.alloc _).grown hgr4 (fun e=>by have:=Option.some.inj e;omega)
     have hres4:aF w4 (w.heap.size+1) _ _:=(hres2.alloc _).grown hgr4 (fun e=>by have:=Option.some.inj e;omega)
     have hbel4:Below w.heap.size w w4:=(hbq.alloc hbq.size _).grown hgr4 (dz hbq.size _) (fun k hk=>by cases hk;exact hbq.size)
     clear hx4 ho2 hres2 hbq hgr4
     go_wp2_with (first | (refine dQ rfl 89 (.tmp 7) rfl wr.heap.size 0 rfl (ik E) hx4'.rd _ Tryz.underlying89 rfl entry_size ?_) | (refine aC rfl _ (.tmp 25) (.tmp 24) rfl (w.heap.size+2) ((8*k+j)*3) _ (ik E) rfl rfl rfl _ _ ho4 hfit.out entry_size (xe E) ?_))
     intro w5 ho5 hgr5
     rw[hset.out] at ho5
     have hres5:aF w5 (w.heap.size+1) _ _:=hres4.grown hgr5 (fun e=>by have:=Option.some.inj e;omega)
     have hbel5:Below w.heap.size w w5:=hbel4.grown hgr5 hbel4.size (fun k hk=>by cases hk;omega)
     clear ho4 hres4 hbel4 hgr5 hset hfit hx4' c0 c1 c2
     go_wp2
     go_roundw
     case rel=>exact⟨j+1,_,by omega,by go_num,hbel5,ho5,hres5,hF3⟩
     case measure=>simp[intOf];omega
    ·have hF3:Hid (Cn t (8*(k+1)) l'):=by
      rcases hl8.out with e|e
      ·have e0:j=0:=by omega
       subst e0
       exact Lib.hid (Cn.skip hF2.out hlt e)
      ·have e8:j=8:=by omega
       subst e8
       exact hF2
     go_wp2
     go_roundw
     case rel=>exact⟨k+1,l',by omega,by go_num,hbq,ho2,hres2,hF3⟩
     case measure=>simp[intOf];omega
  ·obtain rfl:k=8:=by omega
   obtain rfl:l=bG t:=hF.out.fin
   have hlen:(bG t).length=64:=by simp[bG]
   have hs192:Hid ((oK (bG t)).size=192):=Lib.hid (by rw[mQ,hlen])
   have hone:(oK (bG t)).all (·.oneCell')=true:=by
    rw[←Array.all_toList,List.all_eq_true]
    intro u hu
    exact uM (bG t) u (by simpa[oK] using hu)
   clear hF hlen
   go_wp2_with (first | (refine dQ rfl 90 (.tmp 3) rfl (w.heap.size+2) 0 rfl (oK (bG t)).toList ho.rd _ Tryz.underlying90 rfl (by rw[Array.length_toList,hs192.out];exact arr64_size) ?_) | (refine az rfl _ (.tmp 2) (.tmp 28) rfl (w.heap.size+1) (oK (bG t)) rfl rfl _ _ hres (by rw[hs192.out];rfl) (by rw[hs192.out];exact arr64_size) hone ?_))
   intro w5 hr5 hgr5
   have hbel5:Below w.heap.size w w5:=hbr.grown hgr5 hbr.size (fun k hk=>by cases hk;omega)
   go_wp2
   refine bodyPost_ret (v:=.agg (oK (bG t))) (dw Tryz.results50 _ _ (w.heap.size+1) _ _ _ rfl hr5 Tryz.underlying90 rfl (by rw[hs192.out];exact arr64_size)) rfl ?_
   exact⟨rfl,hbel5⟩
theorem lc.app {w w' : World} {B:Nat} {cs:Array Value} {t:Tb} (h:lc w B cs t) {q:Nat} (hq:q<8) {v v' : Value} {l:List En} (hv:cs[q]?=some v) (ho:Own w' B 89 3 v' l.length (l.flatMap ik)) (hgr:w.grownBy w' v.ownBlock)
  (hc:v'.ownBlock=v.ownBlock∨∀g,v'.ownBlock=some g→w.heap.size≤g):lc w' B (cs.setIfInBounds q v') (t.set q l) where
 sz:=by simp[h.sz]
 own:=fun k hk=>by
  by_cases e:k=q
  ·subst e
   exact⟨v',by rw[Array.getElem?_setIfInBounds_self_of_lt (by rw[h.sz];exact hk)],by simpa using ho⟩
  ·obtain⟨u,h1,h2⟩:=h.own k hk
   refine⟨u,by rw[Array.getElem?_setIfInBounds_ne (fun e2=>e e2.symm)];exact h1,?_⟩
   rw[Vector.getElem_set_ne hq hk (fun e2=>e e2.symm)]
   refine h2.grown hgr fun g hg he => ?_
   rcases Nat.lt_or_gt_of_ne e with hlt|hlt
   ·exact h.apart k q u v hlt h1 hv g hg he
   ·exact h.apart q k v u hlt hv h1 g he hg
 apart:=fun j k x y hjk hx hy g hgx hgy=>by
  have key:∀j u,j≠q→cs[j]?=some u→v'.ownBlock=some g→u.ownBlock=some g→False:=by
   intro j u hjq hu hg hgu
   have hj8:j<8:=by
    rcases Nat.lt_or_ge j 8 with hk|hk
    ·exact hk
    ·rw[Array.getElem?_eq_none (by rw[h.sz];exact hk)] at hu;cases hu
   obtain⟨u',h1,h2⟩:=h.own j hj8
   rw[hu] at h1
   cases h1
   rcases hc with hc|hc
   ·rw[hc] at hg
    rcases Nat.lt_or_gt_of_ne hjq with hlt|hlt
    ·exact h.apart j q u v hlt hu hv g hgu hg
    ·exact h.apart q j v u hlt hv hu g hg hgu
   ·have h3:=hc g hg
    have h4:=Da h2 g hgu
    omega
  by_cases e:j=q
  ·subst e
   rw[Array.getElem?_setIfInBounds_self_of_lt (by rw[h.sz];exact hq)] at hx
   cases hx
   rw[Array.getElem?_setIfInBounds_ne (by omega)] at hy
   exact key k y (by omega) hy hgx hgy
  ·rw[Array.getElem?_setIfInBounds_ne (fun e2=>e e2.symm)] at hx
   by_cases e2:k=q
   ·subst e2
    rw[Array.getElem?_setIfInBounds_self_of_lt (by rw[h.sz];exact hq)] at hy
    cases hy
    exact key j x e hx hgy hgx
   ·rw[Array.getElem?_setIfInBounds_ne (fun e3=>e2 e3.symm)] at hy
    exact h.apart j k x y hjk hx hy g hgx hgy
theorem Jv {w:World} {b:Nat} {l:List En} {T:TypeId} (h:aF w b (oK l) T) {k:Nat} {E:En} (hE:l[k]?=some E):cZ w (some ⟨b,k*3,none⟩) (ik E):=by
 intro i u hi
 refine⟨b,k*3,rfl,?_⟩
 rw[h.cell]
 have hk:k<l.length:=(List.getElem?_eq_some_iff.1 hE).1
 have hl:l[k]=E:=(List.getElem?_eq_some_iff.1 hE).2
 have:=flat_get ik 3 dF l k hk i u (by rw[hl];exact hi)
 simpa[oK] using this
theorem Dm (l:List En) (w:World) (hl:l.length=64):Calls Tryz.prog 36 #[.agg (oK l)] w fun r w' => ∃cs,r = .returned (.agg cs)∧lc w' w.heap.size cs (dO l)∧Below w.heap.size w w':=by
 have HLEN:=Lib.hid hl
 clear hl
 go_enter Tryz.func36,Tryz.ntmps36
 go_upto_region 2 with (fail)
 refine Lu (fun W=>Code.wp _ _ _ _ W) fun W0 hb0 hx0 hres0 ho0 hs0 => ?_
 clear hs0
 have hO0:lc W0 w.heap.size #[.slice none 0 0,.slice none 0 0,.slice none 0 0,.slice none 0 0,.slice none 0 0,.slice none 0 0,.slice none 0 0,.slice none 0 0] zTb:=oU _ _
 have hT0:Hid (yS l 0 [] zTb):=Lib.hid yS.start
 go_wp2
 go_loopw [8] (fun i wr => ∃(k:Nat) (ca:Array Value) (t:Tb),k≤8∧i = .int .i64 k∧Below w.heap.size w wr∧aF wr w.heap.size (oK l) 90∧aF wr (w.heap.size+1) #[.slice none 0 0,.slice none 0 0,.slice none 0 0,.slice none 0 0,.slice none 0 0,.slice none 0 0,.slice none 0 0,.slice none 0 0] 53∧aF wr (w.heap.size+2) ca 53∧lc wr w.heap.size ca t∧Hid (yS l k [] t)) (fun i _=>8-(intOf i).toNat)
 case atStart=>exact⟨0,_,_,Nat.zero_le _,rfl,hb0,hx0,hres0,ho0,hO0,hT0⟩
 case round=>
  obtain⟨k,ca,t,hk,rfl,hbr,hx,hres,ho,hO,hT⟩:=hrel
  clear hb0 hx0 hres0 ho0 hO0 hT0
  by_cases hlt:k<8
  ·have hd8:decide ((k:Int)<8)=true:=by simp;omega
   go_wp2
   go_loopw [6,5] (fun i s wr' => ∃(j:Nat),j≤8∧i = .int .i64 j∧s = .bool (qz l k j)∧wr' = wr) (fun i _ _=>8-(intOf i).toNat)
   case atStart=>exact⟨0,Nat.zero_le _,rfl,rfl,rfl⟩
   case round=>
    obtain⟨j,hj,rfl,rfl,rfl⟩:=hrel
    by_cases hjl:j<8
    ·have hd9:decide ((j:Int)<8)=true:=by simp;omega
     obtain⟨E,hE,hP⟩:=Cf HLEN.out hlt hjl
     have hcE:=(Jv hx hE) 0 (.int .i64 E.k) rfl
     obtain⟨_,_,e1,hc0⟩:=hcE
     simp only[Option.some.injEq,Addr.mk.injEq,and_true] at e1
     obtain⟨rfl,rfl⟩:=e1
     rw[Nat.add_zero] at hc0
     have hm1:(8:Int)*(k:Int)+(j:Int)<64:=by omega
     have hst:Hid (qz l k (j+1)=(qz l k j||decide (0<E.k))):=Lib.hid (by unfold qz;rw[hP,List.any_append];simp[zS])
     clear hE hP
     cases hs:qz l k j
     all_goals
      rw[hs] at hst
      go_wp2
      go_roundw
      case rel=>exact⟨j+1,by omega,by go_num,by rw[hst.out];first | rfl | (congr 1;rw[Bool.eq_iff_iff];simp),trivial⟩
      case measure=>simp[intOf];omega
    ·obtain rfl:j=8:=by omega
     rw[show ((8:Nat):Int)=8 from rfl]
     cases hsome:qz l k 8
     ·have hhalf:=Lib.hid (Lt hsome)
      clear hsome
      go_wp2
      go_loopw [7] (fun i wr'=>i = .int .i64 0∧wr' = wr) (fun _ _=>0)
      case atStart=>exact⟨rfl,rfl⟩
      case round=>
       obtain⟨rfl,rfl⟩:=hrel
       have hTn:Hid (yS l (k+1) [] t):=Lib.hid (yS.next (by rw[hhalf.out];exact hT.out) hlt)
       go_wp2
       go_roundw
       case rel=>exact⟨k+1,ca,t,by omega,by go_num,hbr,hx,hres,ho,hO,hTn⟩
       case measure=>simp[intOf];omega
     ·have hhalf:=Lib.hid (Jy hsome)
      clear hsome
      have hT0:Hid (yS l k ((l.drop (8*k)).take 0) t):=hT
      go_wp2
      go_loopw [7] (fun i wr' => ∃(j:Nat) (ca' : Array Value) (t' : Tb),j≤8∧i = .int .i64 j∧Below w.heap.size w wr'∧aF wr' w.heap.size (oK l) 90∧aF wr' (w.heap.size+1) #[.slice none 0 0,.slice none 0 0,.slice none 0 0,.slice none 0 0,.slice none 0 0,.slice none 0 0,.slice none 0 0,.slice none 0 0] 53∧aF wr' (w.heap.size+2) ca' 53∧lc wr' w.heap.size ca' t'∧Hid (yS l k ((l.drop (8*k)).take j) t')) (fun i _=>8-(intOf i).toNat)
      case atStart=>exact⟨0,ca,t,Nat.zero_le _,rfl,hbr,hx,hres,ho,hO,hT0⟩
      case round=>
       obtain⟨j,ca',t',hj,rfl,hbr2,hx2,hres2,ho2,hO2,hT2⟩:=hrel
       clear hbr hx hres ho hO hT hT0
       by_cases hjl:j<8
       ·have hd9:decide ((j:Int)<8)=true:=by simp;omega
        obtain⟨E,hE,hP⟩:=Cf HLEN.out hlt hjl
        have hrE:=Jv hx2 hE
        have hm1:(8:Int)*(k:Int)+(j:Int)<64:=by omega
        have hm0:¬(8:Int)*(k:Int)+(j:Int)<0:=by omega
        have hk8:(k:Int)<8:=by omega
        have hmul:IntKind.i64.wrap (8*(k:Int))=8*(k:Int):=IntWalk.i64_in _ (by omega)
        have hadd:IntKind.i64.wrap (8*(k:Int)+(j:Int))=8*(k:Int)+(j:Int):=IntWalk.i64_in _ (by omega)
        have hnn:(8*(k:Int)+(j:Int)).toNat=8*k+j:=by omega
        have hP':=Lib.hid hP
        obtain⟨v,hv,hown⟩:=hO2.own k hlt
        have hv':=Lib.hid hv
        have hpl:t'[k].length=j:=by rw[hT2.out.at' hlt];exact wB HLEN.out hlt (by omega)
        obtain⟨xa,xc,rfl,hxle,hxmx,hxnil,hxrd⟩:=hown.rd
        have HE:=Lib.hid hE
        clear hE hP hv
        go_upto_region 13 with (fail)
        refine Bj 11 12 [(0,.int .i64 k)] [anyR,nU (.int .i64 k),nU (.pointer (some ⟨w.heap.size+2,k,none⟩)),nU (.slice xa t'[k].length xc),nU (.int .i64 k),nU (.int .i64 (8*(k:Int))),nU (.int .i64 j),nU (.int .i64 (8*(k:Int)+(j:Int))),nU (.pointer (some ⟨w.heap.size,(8*k+j)*3,none⟩)),nU (.agg (fI E)),(Oj 1 (ik E))] (by kernel_rfl) (by kernel_rfl) (by kernel_rfl) (by kernel_rfl) (by kernel_rfl) (by kernel_rfl) (by decide) (by decide) _ rfl (by kernel_rfl) (ag ?_ (ag ?_ (ag ?_ (ag ?_ (ag ?_ (ag ?_ (ag ?_ (ag ?_ (ag ?_ (ag ?_ (ag ?_ (aB)))))))))))) (aB) rfl ?_
        ·refine GQ rfl ?_
         intro ρ y W hw hn hV
         have E4:ρ (.tmp 4) = .int .i64 k:=(hn (.tmp 4) rfl).trans rfl
         exact⟨(ah rfl),(run_move (.inl rfl) E4)⟩
        ·refine bq rfl ?_
         intro ρ y W hw hn hb hd
         have E4:ρ (.tmp 4) = .int .i64 k:=(hn (.tmp 4) rfl).trans rfl
         refine aj (.int .i64 k) (ah rfl) (run_move (.inl rfl) E4) rfl
        ·refine bq rfl ?_
         intro ρ y W hw hn hb hd
         have E3:ρ (.tmp 3) = .pointer (some ⟨w.heap.size+2,0,none⟩):=(hn (.tmp 3) rfl).trans rfl
         have E34:=hw 34 1 rfl
         have h1:y 1 = .int .i64 k:=hd 1 rfl
         refine aj (.pointer (some ⟨w.heap.size+2,k,none⟩)) (ah rfl) (by simp[execOp,go_sem,E3,E34,h1,Tryz.underlying53,hk8]) rfl
        ·refine bq rfl ?_
         intro ρ y W hw hn hb hd
         have E35:=hw 35 2 rfl
         have h2:y 2 = .pointer (some ⟨w.heap.size+2,k,none⟩):=hd 2 rfl
         refine aj (.slice xa t'[k].length xc) (ah rfl) (by simp[execOp,go_sem,E35,h2,(((ho2.ext hb).cell k).trans hv'.out),Tryz.underlying51]) rfl
        ·refine bq rfl ?_
         intro ρ y W hw hn hb hd
         have E4:ρ (.tmp 4) = .int .i64 k:=(hn (.tmp 4) rfl).trans rfl
         refine aj (.int .i64 k) (ah rfl) (run_move (.inl rfl) E4) rfl
        ·refine bq rfl ?_
         intro ρ y W hw hn hb hd
         have E37:=hw 37 4 rfl
         have h4:y 4 = .int .i64 k:=hd 4 rfl
         have EC:∀v,ρ (.const v)=v:=fun v=>hn (.const v) trivial
         refine aj (.int .i64 (8*(k:Int))) (ah rfl) (by simp[execOp,go_sem,E37,h4,EC,hmul]) rfl
        ·refine bq rfl ?_
         intro ρ y W hw hn hb hd
         have E7:ρ (.tmp 7) = .int .i64 j:=(hn (.tmp 7) rfl).trans rfl
         refine aj (.int .i64 j) (ah rfl) (run_move (.inl rfl) E7) rfl
        ·refine bq rfl ?_
         intro ρ y W hw hn hb hd
         have E38:=hw 38 5 rfl
         have h5:y 5 = .int .i64 (8*(k:Int)):=hd 5 rfl
         have E39:=hw 39 6 rfl
         have h6:y 6 = .int .i64 j:=hd 6 rfl
         refine aj (.int .i64 (8*(k:Int)+(j:Int))) (ah rfl) (by simp[execOp,go_sem,E38,h5,E39,h6,hadd]) rfl
        ·refine bq rfl ?_
         intro ρ y W hw hn hb hd
         have E1:ρ (.tmp 1) = .pointer (some ⟨w.heap.size,0,none⟩):=(hn (.tmp 1) rfl).trans rfl
         have E40:=hw 40 7 rfl
         have h7:y 7 = .int .i64 (8*(k:Int)+(j:Int)):=hd 7 rfl
         refine aj (.pointer (some ⟨w.heap.size,(8*k+j)*3,none⟩)) (ah rfl) (by simp[execOp,go_sem,E1,E40,h7,Tryz.underlying90,hm1,hm0,hnn]) rfl
        ·refine bq rfl ?_
         intro ρ y W hw hn hb hd
         have E41:=hw 41 8 rfl
         have h8:y 8 = .pointer (some ⟨w.heap.size,(8*k+j)*3,none⟩):=hd 8 rfl
         refine aj (.agg (fI E)) (ah rfl) (bV rfl (E41.trans h8) (vs:=ik E) (hrE.below hb) Tryz.underlying89 rfl entry_size) rfl
        ·refine bq rfl ?_
         intro ρ y W hw hn hb hd
         have E42:=hw 42 9 rfl
         have h9:y 9 = .agg (fI E):=hd 9 rfl
         refine ji (.slice (some ⟨W.heap.size,0,none⟩) 1 1) (ah rfl) (by simp[execOp,go_sem,E42,h9,fI]) ((Below.refl _ _).alloc (Nat.le_refl _) (.cells (fI E) 89)) ?_
         exact⟨_,_,rfl,Nat.le_refl _,by unfold maxLen;omega,fun e=>(by cases e),cZ.new _ _ _⟩
        intro ρ y WA o ho hw hn hV hbWA hRWA
        cases ho
        have hy0:y 0 = .int .i64 k:=hV 0 _ rfl
        have hy1:y 1 = .int .i64 k:=hRWA 1 (by decide)
        have hy2:y 2 = .pointer (some ⟨w.heap.size+2,k,none⟩):=hRWA 2 (by decide)
        have hy3:y 3 = .slice xa t'[k].length xc:=hRWA 3 (by decide)
        have hy4:y 4 = .int .i64 k:=hRWA 4 (by decide)
        have hy5:y 5 = .int .i64 (8*(k:Int)):=hRWA 5 (by decide)
        have hy6:y 6 = .int .i64 j:=hRWA 6 (by decide)
        have hy7:y 7 = .int .i64 (8*(k:Int)+(j:Int)):=hRWA 7 (by decide)
        have hy8:y 8 = .pointer (some ⟨w.heap.size,(8*k+j)*3,none⟩):=hRWA 8 (by decide)
        have hy9:y 9 = .agg (fI E):=hRWA 9 (by decide)
        obtain⟨ya10,yc10,hy10,yle10,ymx10,ynil10,yrd10⟩:=hRWA 10 (by decide)
        have E36:=hw 36 3 rfl
        rw[hy3] at E36
        have E43:=hw 43 10 rfl
        rw[hy10] at E43
        have EC:∀v,ρ (.const v)=v:=fun v=>hn (.const v) trivial
        have EF:∀f,ρ (.func f) = .func (.func f) #[] #[]:=fun f=>hn (.func f) trivial
        refine zL (ah rfl) (gL (.tmp 36) (.tmp 43) 51 rfl w.heap.size 89 _ 3 24 Tryz.underlying51 entry_info rfl (by decide) _ _ _ E36 (hown.below hbWA) ya10 1 yc10 (ik E) E43 ynil10 yle10 rfl yrd10 (xe E) (by unfold maxLen;omega) (by omega) (Nat.le_trans hbr2.size hbWA.size)) ?_
        rintro v2 w4 ⟨hown4,hgr4,hcase4⟩
        clear hRWA hw hn hV
        simp only[lay,Nat.reduceAdd,Nat.reduceLT,Nat.reduceEqDiff,reduceIte,decide_true,decide_false,if_true,Bool.false_eq_true,if_false,List.setIfInBounds_toArray,List.set_cons_zero,List.set_cons_succ,List.drop_succ_cons,List.drop_zero,List.drop_nil,hy0,hy1,hy2,hy3,hy4,hy5,hy6,hy7,hy8,hy9,hy10]
        clear hy0 hy1 hy2 hy3 hy4 hy5 hy6 hy7 hy8 hy9 hy10
        have hbelA:=ae hbr2 hbWA
        have hownA:=hown.below hbWA
        have ho4:=jA (ho2.ext hbWA) hownA (by decide) hgr4
        have hx4:=jA (hx2.ext hbWA) hownA (by decide) hgr4
        have hres4:=jA (hres2.ext hbWA) hownA (by decide) hgr4
        have hbel4:=hbelA.grown hgr4 hbelA.size (fun k hk=>hownA.ge k hk)
        have hown5:Own w4 w.heap.size 89 3 v2 (t'[k]++[E]).length ((t'[k]++[E]).flatMap ik):=by
         rw[List.length_append,List.flatMap_append]
         simpa using hown4
        have hO4:=(hO2.below hbWA).app hlt hv'.out hown5 hgr4 hcase4
        have hT3:Hid (yS l k ((l.drop (8*k)).take (j+1)) (t'.set k (t'[k]++[E]))):=Lib.hid (by
         have:=hT2.out.set (h2:=(l.drop (8*k)).take (j+1)) hlt
         have e:t'[k]++[E]=(l.drop (8*k)).take (j+1):=by rw[hP'.out,hT2.out.at' hlt]
         rw[e]
         exact this)
        have hsz2:=hO2.sz
        have hone2:∀u∈[v2],u.oneCell' = true:=by
         obtain⟨_,_,rfl,_⟩:=hown4.rd
         intro u hu
         cases List.mem_singleton.1 hu
         rfl
        have hcv2:(v2.cells.toList:List Value)=[v2]:=by
         obtain⟨_,_,rfl,_⟩:=hown4.rd
         rfl
        clear hbelA hownA hown4 hown5 hcase4 hgr4 hbWA hx2 hres2 ho2 hO2 hT2 hown hrE hbr2 yrd10
        go_wp2_with (refine aC rfl _ (.tmp 45) (.tmp 44) rfl (w.heap.size+2) k _ [v2] rfl rfl hcv2 _ _ ho4 (by rw[hsz2];exact hlt) slent_size hone2 ?_)
        intro w5 ho5 hgr5
        rw[jv] at ho5
        have hO5:=hO4.keep ho4 (by decide) hgr5
        have hx5:=bD hx4 ho4 (by decide) hgr5
        have hres5:aF w5 (w.heap.size+1) _ _:=hres4.grown hgr5 (fun e=>by have:=Option.some.inj e;omega)
        have hbel5:=hbel4.grown hgr5 hbel4.size (fun k hk=>by cases hk;omega)
        clear ho4 hx4 hres4 hbel4 hO4 hgr5
        go_wp2
        go_roundw
        case rel=>exact⟨j+1,_,_,by omega,by go_num,hbel5,hx5,hres5,ho5,hO5,hT3⟩
        case measure=>simp[intOf];omega
       ·obtain rfl:j=8:=by omega
        have hTn:Hid (yS l (k+1) [] t'):=Lib.hid (yS.next (by rw[hhalf.out];exact hT2.out) hlt)
        go_wp2
        go_roundw
        case rel=>exact⟨k+1,ca',t',by omega,by go_num,hbr2,hx2,hres2,ho2,hO2,hTn⟩
        case measure=>simp[intOf];omega
  ·obtain rfl:k=8:=by omega
   have hfin:=hT.out.fin
   have hone:=hO.rd.one
   have hsz:=hO.sz
   rw[hfin] at hO
   clear hfin
   go_wp2_with (first | (refine dQ rfl 53 (.tmp 3) rfl (w.heap.size+2) 0 rfl ca.toList ho.rd _ Tryz.underlying53 tab_agg (by rw[Array.length_toList,hsz];exact tab_size) ?_) | (refine az rfl _ (.tmp 2) (.tmp 47) rfl (w.heap.size+1) ca rfl rfl _ _ hres (by rw[hsz];rfl) (by rw[hsz];exact tab_size) hone ?_))
   intro w5 hr5 hgr5
   have hO5:=hO.keep hres (by decide) hgr5
   have hbel5:Below w.heap.size w w5:=hbr.grown hgr5 hbr.size (fun k hk=>by cases hk;omega)
   go_wp2
   refine bodyPost_ret (v:=.agg ca) (dw Tryz.results36 _ _ (w.heap.size+1) _ _ _ rfl hr5 Tryz.underlying53 rfl (by rw[hsz];exact tab_size)) rfl ?_
   exact⟨_,rfl,hO5,hbel5⟩
def KU (b:Bool):List Value:=[.bool b]
theorem zW (b:Bool):(KU b).length=1:=rfl
theorem bool_info:(Tryz.prog.info? 4).map (fun i=>(i.zero,i.size,i.bytes))=some (some (.bool false),1,1):=by kernel_rfl
theorem bool_sz:(Tryz.prog.info? 4).map (·.size)=some 1:=by kernel_rfl
theorem MM (b:Bool):∀u∈[Value.bool b],u.oneCell' = true:=by intro u hu;cases List.mem_singleton.1 hu;rfl
theorem Np {w:World} {b off:Nat} {l:List Bool} (h:cZ w (some ⟨b,off,none⟩) (l.flatMap KU)) (i:Nat) (x:Bool) (hx:l[i]?=some x):w.cell? ⟨b,off+i,none⟩=some (.bool x):=by
 have hi:=(List.getElem?_eq_some_iff.1 hx).1
 obtain⟨b',off',e,hc⟩:=h.elem zW (by decide) i hi
 cases e
 have:=hc 0 (.bool x) (by rw[(List.getElem?_eq_some_iff.1 hx).2];rfl)
 simpa using this
theorem Am (ps:List PF) (k:Int) (a:Option Addr) (c:Nat) (w:World) (h:CV w a c ps) (hk64 : -9223372036854775808≤k∧k≤9223372036854775807) :
  Calls Tryz.prog 84 #[.agg (FL a ps.length c k)] w fun r w'=>r = .returned (.int .i64 (aR (bT ps k)))∧Below w.heap.size w w':=by
 have hlc:=Nat.le_trans h.le h.mx
 unfold maxLen at hlc
 unfold FL
 go_enter Tryz.func84,Tryz.ntmps84
 go_upto_region 1 with (fail)
 refine fo (fun W=>Code.wp _ _ _ _ W) fun W0 hb0 hx0 hs0 => ?_
 clear hs0
 by_cases h4:5<ps.length∨k<0∨80<k
 ·have hfin:Hid (aR (bT ps k)=4):=Lib.hid (by unfold aR bT;rw[if_pos (by simpa using h4)])
  have hcx:=hx0.cell
  have h4' : 5<ps.length∨(¬5<ps.length∧k<0)∨(¬5<ps.length∧¬k<0∧80<k):=by omega
  clear h4
  rcases h4' with g|⟨g,g2⟩|⟨g,g2,g3⟩
  all_goals
   go_wp2
   go_ret
   exact⟨aS hfin.out.symm,hb0⟩
 ·have hres:Hid (aR (bT ps k)=jG k (((ps.take 0).map PF.fi).flatMap Fi.b) ((ps.drop 0).map PF.fi)):=Lib.hid (by unfold aR bT;rw[if_neg (by simpa using h4)];rfl)
  have g1:¬5<ps.length:=by omega
  have g2:¬k<0:=by omega
  have g3:¬80<k:=by omega
  have hcx:=hx0.cell
  clear h4
  obtain⟨N,hN⟩:∃N:Nat,k=(N:Int):=⟨k.toNat,by omega⟩
  subst hN
  have hN80:N≤80:=by omega
  go_upto_region 4 with (refine yM _ rfl _ _ _ rfl KU 4 _ 1 1 false zW (by decide) Tryz.underlying118 bool_info rfl .i64 .i64 N N N rfl rfl rfl rfl (by omega) (by unfold maxLen;omega) ?_)
  clear hcx
  intro W1 hM1 hgr1
  have hb1:Below W0.heap.size W0 W1:=fO hgr1
  have hbel1:=ae hb0 hb1
  have hx1:=hx0.ext hb1
  have hM1' : Own W1 w.heap.size 4 1 (.slice (some ⟨W0.heap.size,0,none⟩) N N) N ((oG N (((ps.take 0).map PF.fi).flatMap Fi.b)).flatMap KU):=by simp only[List.take_zero,List.map_nil,List.flatMap_nil];rw[Ie];exact hM1.mono hb0.size
  obtain⟨gm,hGM⟩:∃g,g=W0.heap.size:=⟨_,rfl⟩
  rw[←hGM] at hM1' ⊢
  clear hGM hb0 hx0 hb1 hM1 hgr1
  have hcx:=hx1.cell
  go_upto_region 5 with (fail)
  clear hcx
  go_loopw [28] (fun i wr => ∃(q:Nat),q≤ps.length∧i = .int .i64 q∧Below w.heap.size w wr∧aF wr w.heap.size #[.slice a ps.length c,.int .i64 (N:Int)] 37∧Own wr w.heap.size 4 1 (.slice (some ⟨gm,0,none⟩) N N) N ((oG N (((ps.take q).map PF.fi).flatMap Fi.b)).flatMap KU)∧Hid (aR (bT ps N)=jG N (((ps.take q).map PF.fi).flatMap Fi.b) ((ps.drop q).map PF.fi))) (fun i _=>ps.length-(intOf i).toNat)
  case atStart=>exact⟨0,Nat.zero_le _,rfl,hbel1,hx1,hM1',hres⟩
  case round=>
   clear hbel1 hx1 hM1' hres
   obtain⟨q,hq,rfl,hbr,hx,hM,hres⟩:=hrel
   by_cases hlt:q<ps.length
   ·obtain⟨b,off,p,rfl,hp,c0,c1⟩:=uJ (h.below hbr).rd q hlt
    have hgw:=h.good p (List.mem_of_getElem? hp)
    have hgood:=hgw.below hbr
    have hdr:=drop_at hp
    have htk:=take_at hp
    rw[hdr,List.map_cons] at hres
    have htk':=Lib.hid htk
    clear hdr htk
    generalize hseen:((ps.take q).map PF.fi).flatMap Fi.b=seen at hM hres
    have hseen':=Lib.hid hseen
    clear hseen hp
    go_wp2_with (refine aH rfl _ _ _ rfl (gZ p) rfl rfl rfl file_size (kC _) ?_)
    intro w2 hb2 hf2
    have hbel2:=ae hbr hb2
    have hx2:=hx.ext hb2
    have hM2:=hM.below hb2
    have hgood2:=hgood.below hb2
    clear hbr hx hM hgood hb2 c0 c1
    have hcf:=hf2.cell
    have f0:(gZ p)[0]?=some (.int .i64 p.n):=rfl
    have f1:(gZ p)[1]?=some (.slice p.a p.l.length p.c):=rfl
    by_cases hn96:p.n<0∨96<p.n
    ·have hfin:Hid (aR (bT ps N)=3):=Lib.hid (by rw[hres.out,nO,if_pos hn96])
     have hn' : p.n<0∨(¬p.n<0∧96<p.n):=by omega
     clear hn96
     rcases hn' with g|⟨g,g2⟩
     all_goals
      go_wp2
      go_ret
      exact⟨aS hfin.out.symm,hbel2⟩
    ·have hres2:Hid (aR (bT ps N)=if (p.l.length:Int)≠dA p.n then 2 else if dU N seen p.l≠0 then dU N seen p.l else jG N (seen++p.l) ((ps.drop (q+1)).map PF.fi)):=Lib.hid (by rw[hres.out,nO,if_neg hn96])
     have g4:¬p.n<0:=by omega
     have g5:¬96<p.n:=by omega
     clear hn96 hres
     by_cases hcnt:(p.l.length:Int)=dA p.n
     ·have hres3:Hid (aR (bT ps N)=if dU N seen p.l≠0 then dU N seen p.l else jG N (seen++p.l) ((ps.drop (q+1)).map PF.fi)):=Lib.hid (by rw[hres2.out,if_neg (fun hh=>hh hcnt)])
      have hl12:p.l.length≤12:=by
       have:=tO (n:=p.n) (by omega)
       omega
      have hcc:=Lib.hid hcnt
      clear hres2 hcnt
      go_upto_region 9 with (fail)
      refine aG 7 [_,_,_,_,_,.v (.int .i64 (dA p.n)),_] (Gf wr.heap.size 1 rfl rfl (Gl hf2 (V:=.slice p.a p.l.length p.c) (by simp[f1,Tryz.underlying29]) rfl rfl rfl rfl (Gn rfl rfl rfl rfl (Gf wr.heap.size 0 rfl rfl (Gl hf2 (V:=.int .i64 p.n) (by simp[f0]) rfl rfl rfl rfl (ag ?_ (Gb (.bool false) (by simp[go_sem,hcc.out]) rfl rfl rfl rfl rfl (aB))))) (Tryz.underlying29)))) (fun _=>rfl) rfl ?_
      ·intro ρ y W hw hn hb hd;have E44:=hw 44 4 rfl;have h4:y 4=_:=hd 4 rfl
       have EF:∀f,ρ (.func f) = .func (.func f) #[] #[]:=fun f=>hn (.func f) trivial
       refine aJ _ _ (ah rfl) (aK rfl (EF _) Tryz.func31 (by kernel_rfl) (by kernel_rfl) (by simp only[List.map_toArray,List.map_cons,List.map_nil,E44,h4,EF];rfl)) ?_
       refine (qU p.n W (by omega)).mono ?_
       rintro e w1 ⟨rfl,rfl⟩
       exact⟨_,rfl,Below.refl _ _,rfl⟩
      intro y WA hbWA _
      have hbelA:=ae hbel2 hbWA
      have hxA:=hx2.ext hbWA
      have hMA:=hM2.below hbWA
      have hfA:=hf2.ext hbWA
      have hgA:=hgood2.below hbWA
      clear hbel2 hx2 hM2 hf2 hgood2 hbWA hcf
      have hcf:=hfA.cell
      have hB0:Hid (dU N seen p.l=dU N (seen++p.l.take 0) (p.l.drop 0)):=Lib.hid (by simp)
      have hM0:Own WA w.heap.size 4 1 (.slice (some ⟨gm,0,none⟩) N N) N ((oG N (seen++p.l.take 0)).flatMap KU):=by simpa using hMA
      have hle:=hgA.le
      have hmx:=hgA.mx
      have hrdp:=hgA.rd
      unfold maxLen at hmx
      clear hMA hgA
      go_upto_region 12 with (fail)
      clear hcf f0 f1 hfA
      go_loopw [50] (fun i wr => ∃(j:Nat),j≤p.l.length∧i = .int .i64 j∧Below w.heap.size w wr∧aF wr w.heap.size #[.slice (some ⟨b,off,none⟩) ps.length c,.int .i64 (N:Int)] 37∧Own wr w.heap.size 4 1 (.slice (some ⟨gm,0,none⟩) N N) N ((oG N (seen++p.l.take j)).flatMap KU)∧cZ wr p.a (p.l.map dL)∧Hid (dU N seen p.l=dU N (seen++p.l.take j) (p.l.drop j))) (fun i _=>p.l.length-(intOf i).toNat)
      case atStart=>exact⟨0,Nat.zero_le _,rfl,hbelA,hxA,hM0,hrdp,hB0⟩
      case round=>
       clear hbelA hxA hM0 hrdp hB0
       obtain⟨j,hj,rfl,hbr,hx,hM,hrp,hB⟩:=hrel
       by_cases hjl:j<p.l.length
       ·obtain⟨x,hX⟩:∃x,p.l[j]?=some x:=⟨p.l[j],List.getElem?_eq_getElem hjl⟩
        obtain⟨b2,off2,hpa,hc⟩:=fZ hrp j hjl
        rw[show p.l[j]=x from (List.getElem?_eq_some_iff.1 hX).2] at hc
        have hdr:=drop_at hX
        have htk:=take_at hX
        rw[hdr,nJ] at hB
        rw[hpa]
        generalize hs2:seen++p.l.take j=seen2 at hB hM
        have htk2:Hid (seen++p.l.take (j+1)=seen2++[x]):=Lib.hid (by rw[htk,←List.append_assoc,hs2])
        have hrp':=Lib.hid hrp
        have hpa':=Lib.hid hpa
        have hcx:=hx.cell
        clear hX hdr htk hs2 hrp hpa
        have hjl' : (j:Int)<(p.l.length:Int):=by omega
        by_cases hr3:x < -1∨(N:Int)≤x
        ·have hfin:Hid (aR (bT ps N)=3):=Lib.hid (by rw[hres3.out,hB.out,if_pos hr3];rfl)
         have hr3' : x < -1∨(¬x < -1∧(N:Int)≤x):=by omega
         clear hr3
         rcases hr3' with g6|⟨g6,g7⟩
         all_goals
          go_wp2
          go_ret
          exact⟨aS hfin.out.symm,hbr⟩
        ·have g6:¬x < -1:=by omega
         have g7:¬(N:Int)≤x:=by omega
         have hB2:Hid (dU N seen p.l=if 0≤x∧x∈seen2 then 7 else dU N (seen2++[x]) (p.l.drop (j+1))):=Lib.hid (by rw[hB.out,if_neg hr3])
         clear hB hr3
         by_cases hx0:x<0
         ·have e1:x = -1:=by omega
          have hB3:Hid (dU N seen p.l=dU N (seen++p.l.take (j+1)) (p.l.drop (j+1))):=Lib.hid (by rw[hB2.out,if_neg (by omega),htk2.out])
          have hM3:Own wr w.heap.size 4 1 (.slice (some ⟨gm,0,none⟩) N N) N ((oG N (seen++p.l.take (j+1))).flatMap KU):=by rw[htk2.out,He _ _ _ hx0];exact hM
          have hrp3:cZ wr (some ⟨b2,off2,none⟩) (p.l.map dL):=by rw[←hpa'.out];exact hrp'.out
          clear hB2 hM
          go_wp2
          go_roundw
          case rel=>exact⟨j+1,by omega,by go_num,hbr,hx,hM3,hrp3,hB3⟩
          case measure=>simp[intOf];omega
         ·obtain⟨X,hXX⟩:∃X:Nat,x=(X:Int):=⟨x.toNat,by omega⟩
          subst hXX
          have hXN:X<N:=by omega
          have hXN' : (X:Int)<(N:Int):=by omega
          obtain⟨_,_,hve,_,_,_,hMr⟩:=hM.rd
          simp only[Value.slice.injEq] at hve
          obtain⟨rfl,_,rfl⟩:=hve
          have hcb:=Np hMr X (decide ((X:Int)∈seen2)) (zR N seen2 X hXN)
          rw[Nat.zero_add] at hcb
          clear hMr
          by_cases h7:(X:Int)∈seen2
          ·have hfin:Hid (aR (bT ps N)=7):=Lib.hid (by rw[hres3.out,hB2.out,if_pos (show 0≤(X:Int)∧(X:Int)∈seen2 from ⟨by omega,h7⟩)];rfl)
           rw[decide_eq_true h7] at hcb
           clear h7 hB2
           go_wp2
           go_ret
           exact⟨aS hfin.out.symm,hbr⟩
          ·have hB3:Hid (dU N seen p.l=dU N (seen++p.l.take (j+1)) (p.l.drop (j+1))):=Lib.hid (by rw[hB2.out,if_neg (fun hh=>h7 hh.2),htk2.out])
           rw[decide_eq_false h7] at hcb
           clear h7 hB2
           obtain⟨g3,off3,cap3,cur3,hve,hBg3,hbg3,hfit3,hset3⟩:=oZ zW (by decide) (sO N seen2) hM X hXN
           cases hve
           go_wp2_with (refine aC rfl _ _ _ rfl gm X _ [.bool true] rfl rfl rfl cur3 4 hbg3 (by simpa using hfit3) bool_sz (MM true) ?_)
           intro w6 hb6 hgr6
           have hM6:=hset3 w6 true (by rw[Nat.zero_add,Nat.mul_one];exact hb6)
           rw[JJ _ _ _ hXN,←htk2.out] at hM6
           have hbel6:=hbr.grown hgr6 hbr.size (fun k hk=>by cases hk;exact hBg3)
           have hx6:=bD hx hbg3 (by decide) hgr6
           have hrp6:cZ w6 (some ⟨b2,off2,none⟩) (p.l.map dL):=by
            have h9:=hgw.rd.below hbel6
            rw[hpa'.out] at h9
            exact h9
           clear hbr hx hM hgr6 hcx hc hset3 hbg3 hb6 hcb hfit3
           go_wp2
           go_roundw
           case rel=>exact⟨j+1,by omega,by go_num,hbel6,hx6,hM6,hrp6,hB3⟩
           case measure=>simp[intOf];omega
       ·have hfin:Hid (aR (bT ps N)=jG N (((ps.take (q+1)).map PF.fi).flatMap Fi.b) ((ps.drop (q+1)).map PF.fi)):=Lib.hid (by
         have e0:dU N seen p.l=0:=by rw[hB.out,List.drop_eq_nil_of_le (by omega)];rfl
         rw[hres3.out,if_neg (fun hh=>hh e0),htk'.out,List.map_append,List.flatMap_append,hseen'.out]
         simp[PF.fi])
        have hMq:Own wr w.heap.size 4 1 (.slice (some ⟨gm,0,none⟩) N N) N ((oG N (((ps.take (q+1)).map PF.fi).flatMap Fi.b)).flatMap KU):=by
         rw[List.take_of_length_le (by omega)] at hM
         rw[htk'.out,List.map_append,List.flatMap_append,hseen'.out]
         simpa[PF.fi] using hM
        have hjl' : ¬(j:Int)<(p.l.length:Int):=by omega
        clear hM hB hres3
        go_wp2
        go_roundw
        case rel=>exact⟨q+1,by omega,by go_num,hbr,hx,hMq,hfin⟩
        case measure=>simp[intOf];omega
     ·have hfin:Hid (aR (bT ps N)=2):=Lib.hid (by rw[hres2.out,if_pos hcnt])
      have hcc:((p.l.length:Int) != dA p.n)=true:=by rw[bne_iff_ne];exact hcnt
      clear hres2 hcnt
      go_upto_region 9 with (fail)
      refine aG 7 [_,_,_,_,_,.v (.int .i64 (dA p.n)),_] (Gf wr.heap.size 1 rfl rfl (Gl hf2 (V:=.slice p.a p.l.length p.c) (by simp[f1,Tryz.underlying29]) rfl rfl rfl rfl (Gn rfl rfl rfl rfl (Gf wr.heap.size 0 rfl rfl (Gl hf2 (V:=.int .i64 p.n) (by simp[f0]) rfl rfl rfl rfl (ag ?_ (Gb (.bool true) (by simp[go_sem,hcc]) rfl rfl rfl rfl rfl (aB))))) (Tryz.underlying29)))) (fun _=>rfl) rfl ?_
      ·intro ρ y W hw hn hb hd;have E44:=hw 44 4 rfl;have h4:y 4=_:=hd 4 rfl
       have EF:∀f,ρ (.func f) = .func (.func f) #[] #[]:=fun f=>hn (.func f) trivial
       refine aJ _ _ (ah rfl) (aK rfl (EF _) Tryz.func31 (by kernel_rfl) (by kernel_rfl) (by simp only[List.map_toArray,List.map_cons,List.map_nil,E44,h4,EF];rfl)) ?_
       refine (qU p.n W (by omega)).mono ?_
       rintro e w1 ⟨rfl,rfl⟩
       exact⟨_,rfl,Below.refl _ _,rfl⟩
      intro y WA hbWA _
      go_wp2
      go_ret
      exact⟨aS hfin.out.symm,ae hbel2 hbWA⟩
   ·have hfin:Hid (aR (bT ps N)=0):=Lib.hid (by rw[hres.out,List.drop_eq_nil_of_le (by omega)];rfl)
    go_wp2
    go_ret
    exact⟨aS hfin.out.symm,hbr⟩
theorem FN (ps rs:List PF) (k k' : Int) (a a' : Option Addr) (c c' : Nat) (w:World) (h:CV w a c ps) (h' : CV w a' c' rs) :
  Calls Tryz.prog 46 #[.agg (FL a ps.length c k),.agg (FL a' rs.length c' k')] w fun r w'=>r = .returned (.bool (jg (bT ps k) (bT rs k')))∧Below w.heap.size w w':=by
 have hlc:=Nat.le_trans h.le h.mx
 have hlc':=Nat.le_trans h'.le h'.mx
 unfold maxLen at hlc hlc'
 unfold FL
 go_enter Tryz.func46,Tryz.ntmps46
 go_upto_region 1 with (fail)
 refine mg (fun W=>Code.wp _ _ _ _ W) fun W0 hb0 hx0 hy0 hs0 => ?_
 clear hs0
 have hcx:=hx0.cell
 have hcy:=hy0.cell
 by_cases hk:k=k'
 ·subst hk
  have hkb:(k != k)=false:=by simp
  by_cases hl:ps.length=rs.length
  ·have hlb:((ps.length:Int) != (rs.length:Int))=false:=by simp[hl]
   have hL0:=Lib.hid hl
   clear hl
   go_upto_region 4 with (fail)
   clear hcx hcy
   go_loopw [26] (fun i wr => ∃(q:Nat),q≤ps.length∧i = .int .i64 q∧Below w.heap.size w wr∧aF wr w.heap.size #[.slice a ps.length c,.int .i64 k] 37∧aF wr (w.heap.size+1) #[.slice a' rs.length c',.int .i64 k] 37∧∀i,i<q→(bT ps k).fs[i]?=(bT rs k).fs[i]?) (fun i _=>ps.length-(intOf i).toNat)
   case atStart=>exact⟨0,Nat.zero_le _,rfl,hb0,hx0,hy0,fun i hi=>absurd hi (Nat.not_lt_zero _)⟩
   case round=>
    clear hb0 hx0 hy0
    obtain⟨q,hq,rfl,hbr,hx,hy,hall0⟩:=hrel
    have hall:=Lib.hid hall0
    clear hall0
    by_cases hlt:q<ps.length
    ·obtain⟨b,off,p,rfl,hp,c0,c1⟩:=uJ (h.below hbr).rd q hlt
     obtain⟨b2,off2,r,rfl,hr,d0,d1⟩:=uJ (h'.below hbr).rd q (by have:=hL0.out;omega)
     have hgw:=h.good p (List.mem_of_getElem? hp)
     have hgv:=h'.good r (List.mem_of_getElem? hr)
     have hpf:Hid ((bT ps k).fs[q]?=some p.fi):=Lib.hid (by simp[bT,hp])
     have hrf:Hid ((bT rs k).fs[q]?=some r.fi):=Lib.hid (by simp[bT,hr])
     have hqr:(q:Int)<(rs.length:Int):=by have:=hL0.out;omega
     have hqp:(q:Int)<(ps.length:Int):=by omega
     clear hp hr
     have hcx:=hx.cell
     have hcy:=hy.cell
     have hal:∀(W:World) (O:Obj) (A:Addr),A.block<W.heap.size→(W.alloc O).cell? A=W.cell? A:=fun W O A hA=>World.cell?_of_block ((Below.heap_alloc W O A.block hA))
     have l1:=hx.lt
     have l2:=hy.lt
     have l3:b<wr.heap.size:=zM c0
     have l4:b2<wr.heap.size:=zM d0
     have l5:=Nat.lt_succ_of_lt l1
     have l6:=Nat.lt_succ_of_lt l2
     have l7:=Nat.lt_succ_of_lt l3
     have l8:=Nat.lt_succ_of_lt l4
     go_upto_region 6 with (fail)
     obtain⟨gw,hGW⟩:∃g,g=wr.heap.size:=⟨_,rfl⟩
     go_region
     ·refine LV (fun W=>Exit.then _ _ _ _ W) fun W hbW hP0 hQ0 => ?_
      simp only[←hGW] at hP0 hQ0 ⊢
      have hP:aF W (gw) (gZ p) 67:=hP0
      have hQ:aF W (gw+1) (gZ r) 67:=hQ0
      clear hP0 hQ0
      have hbel2:=ae hbr hbW
      have hx2:=hx.ext hbW
      have hy2:=hy.ext hbW
      have hgA:=hgw.below hbel2
      have hgB:=hgv.below hbel2
      clear hbr hx hy hbW c0 c1 d0 d1 l1 l2 l3 l4 l5 l6 l7 l8 hal hcx hcy
      have hcp:=hP.cell
      have hcq:=hQ.cell
      have p0:(gZ p)[0]?=some (.int .i64 p.n):=rfl
      have p1:(gZ p)[1]?=some (.slice p.a p.l.length p.c):=rfl
      have q0:(gZ r)[0]?=some (.int .i64 r.n):=rfl
      have q1:(gZ r)[1]?=some (.slice r.a r.l.length r.c):=rfl
      clear hGW
      go_upto_region 7 with (fail)
      by_cases hnn:p.n=r.n
      ·have hN:=Lib.hid hnn
       rw[hnn] at p0
       have hnb:(r.n != r.n)=false:=by simp
       clear hnn
       by_cases hll:p.l.length=r.l.length
       ·have hL:=Lib.hid hll
        have hlb2:((p.l.length:Int) != (r.l.length:Int))=false:=by simp[hll]
        have hle:=Nat.le_trans hgw.le hgw.mx
        unfold maxLen at hle
        clear hll
        go_upto_region 10 with (fail)
        clear hcp hcq p0 p1 q0 q1
        go_loopw [56] (fun i wr => ∃(j:Nat),j≤p.l.length∧i = .int .i64 j∧Below w.heap.size w wr∧aF wr (gw) (gZ p) 67∧aF wr (gw+1) (gZ r) 67∧aF wr w.heap.size #[.slice (some ⟨b,off,none⟩) ps.length c,.int .i64 k] 37∧aF wr (w.heap.size+1) #[.slice (some ⟨b2,off2,none⟩) rs.length c',.int .i64 k] 37∧∀i,i<j→p.l[i]?=r.l[i]?) (fun i _=>p.l.length-(intOf i).toNat)
        case atStart=>exact⟨0,Nat.zero_le _,rfl,hbel2,hP,hQ,hx2,hy2,fun i hi=>absurd hi (Nat.not_lt_zero _)⟩
        case round=>
         clear hbel2 hP hQ hx2 hy2
         obtain⟨j,hj,rfl,hbr,hP,hQ,hx,hy,hin0⟩:=hrel
         have hin:=Lib.hid hin0
         clear hin0
         by_cases hjl:j<p.l.length
         ·have hjl' : j<r.l.length:=by have:=hL.out;omega
          have k1:(j:Int)<(r.l.length:Int):=by omega
          obtain⟨b3,off3,hpa,hc⟩:=fZ (hgw.rd.below hbr) j hjl
          obtain⟨b4,off4,hra,hd⟩:=fZ (hgv.rd.below hbr) j hjl'
          have hcp:=hP.cell
          have hcq:=hQ.cell
          have p1:(gZ p)[1]?=some (.slice (some ⟨b3,off3,none⟩) p.l.length p.c):=by rw[←hpa];rfl
          have q1:(gZ r)[1]?=some (.slice (some ⟨b4,off4,none⟩) r.l.length r.c):=by rw[←hra];rfl
          have hxe:p.l[j]?=some p.l[j]:=List.getElem?_eq_getElem hjl
          have hye:r.l[j]?=some r.l[j]:=List.getElem?_eq_getElem hjl'
          have hxe':=Lib.hid hxe
          have hye':=Lib.hid hye
          clear hpa hra hxe hye
          generalize p.l[j]=xx at hc hxe'
          generalize r.l[j]=yy at hd hye'
          go_wp2_with fail
          go_quiet (fail)
          by_cases he:xx=yy
          ·have hz:(xx != yy)=false:=by simp[he]
           have hnx:Hid (∀i,i<j+1→p.l[i]?=r.l[i]?):=Lib.hid (fun i hi=>by
            by_cases e:i=j
            ·subst e;rw[hxe'.out,hye'.out,he]
            ·exact hin.out i (by omega))
           clear he
           go_wp2
           go_roundw
           case rel=>exact⟨j+1,by omega,by go_num,below_drewN hbr _,hP.drewN _,hQ.drewN _,hx.drewN _,hy.drewN _,hnx.out⟩
           case measure=>simp[intOf];omega
          ·have hz:(xx != yy)=true:=by rw[bne_iff_ne];exact he
           have hfin:Hid (jg (bT ps k) (bT rs k)=false):=Lib.hid (jo q (by
            rw[hpf.out,hrf.out]
            intro e
            have e2:p.l=r.l:=congrArg Fi.b (Option.some.inj e)
            have e3:=hxe'.out
            rw[e2,hye'.out] at e3
            exact he (Option.some.inj e3).symm))
           clear he
           go_wp2
           go_ret
           exact⟨aT hfin.out.symm,below_drewN hbr _⟩
         ·have hnx:Hid (∀i,i<q+1→(bT ps k).fs[i]?=(bT rs k).fs[i]?):=Lib.hid (fun i hi=>by
           by_cases e:i=q
           ·subst e
            rw[hpf.out,hrf.out]
            have e1:p.l=r.l:=by
             apply List.ext_getElem?
             intro i
             by_cases hi:i<p.l.length
             ·exact hin.out i (by omega)
             ·rw[List.getElem?_eq_none (by omega),List.getElem?_eq_none (by have:=hL.out;omega)]
            unfold PF.fi
            rw[hN.out,e1]
           ·exact hall.out i (by omega))
          go_wp2
          go_roundw
          case rel=>exact⟨q+1,by omega,by go_num,hbr,hx,hy,hnx.out⟩
          case measure=>simp[intOf];omega
       ·have hlb2:((p.l.length:Int) != (r.l.length:Int))=true:=by rw[bne_iff_ne];omega
        have hfin:Hid (jg (bT ps k) (bT rs k)=false):=Lib.hid (jo q (by rw[hpf.out,hrf.out];intro e;exact hll (congrArg List.length (congrArg Fi.b (Option.some.inj e)))))
        clear hll
        go_wp2
        go_ret
        exact⟨aT hfin.out.symm,hbel2⟩
      ·have hnb:(p.n != r.n)=true:=by rw[bne_iff_ne];exact hnn
       have hfin:Hid (jg (bT ps k) (bT rs k)=false):=Lib.hid (jo q (by rw[hpf.out,hrf.out];intro e;exact hnn (congrArg Fi.n (Option.some.inj e))))
       clear hnn
       go_wp2
       go_ret
       exact⟨aT hfin.out.symm,hbel2⟩
     ·refine LV (fun W=>Exit.then _ _ _ _ W) fun W hbW hQ0 hP0 => ?_
      simp only[←hGW] at hP0 hQ0 ⊢
      have hP:aF W (gw+1) (gZ p) 67:=hP0
      have hQ:aF W (gw) (gZ r) 67:=hQ0
      clear hP0 hQ0
      have hbel2:=ae hbr hbW
      have hx2:=hx.ext hbW
      have hy2:=hy.ext hbW
      have hgA:=hgw.below hbel2
      have hgB:=hgv.below hbel2
      clear hbr hx hy hbW c0 c1 d0 d1 l1 l2 l3 l4 l5 l6 l7 l8 hal hcx hcy
      have hcp:=hP.cell
      have hcq:=hQ.cell
      have p0:(gZ p)[0]?=some (.int .i64 p.n):=rfl
      have p1:(gZ p)[1]?=some (.slice p.a p.l.length p.c):=rfl
      have q0:(gZ r)[0]?=some (.int .i64 r.n):=rfl
      have q1:(gZ r)[1]?=some (.slice r.a r.l.length r.c):=rfl
      clear hGW
      go_upto_region 7 with (fail)
      by_cases hnn:p.n=r.n
      ·have hN:=Lib.hid hnn
       rw[hnn] at p0
       have hnb:(r.n != r.n)=false:=by simp
       clear hnn
       by_cases hll:p.l.length=r.l.length
       ·have hL:=Lib.hid hll
        have hlb2:((p.l.length:Int) != (r.l.length:Int))=false:=by simp[hll]
        have hle:=Nat.le_trans hgw.le hgw.mx
        unfold maxLen at hle
        clear hll
        go_upto_region 10 with (fail)
        clear hcp hcq p0 p1 q0 q1
        go_loopw [56] (fun i wr => ∃(j:Nat),j≤p.l.length∧i = .int .i64 j∧Below w.heap.size w wr∧aF wr (gw+1) (gZ p) 67∧aF wr (gw) (gZ r) 67∧aF wr w.heap.size #[.slice (some ⟨b,off,none⟩) ps.length c,.int .i64 k] 37∧aF wr (w.heap.size+1) #[.slice (some ⟨b2,off2,none⟩) rs.length c',.int .i64 k] 37∧∀i,i<j→p.l[i]?=r.l[i]?) (fun i _=>p.l.length-(intOf i).toNat)
        case atStart=>exact⟨0,Nat.zero_le _,rfl,hbel2,hP,hQ,hx2,hy2,fun i hi=>absurd hi (Nat.not_lt_zero _)⟩
        case round=>
         clear hbel2 hP hQ hx2 hy2
         obtain⟨j,hj,rfl,hbr,hP,hQ,hx,hy,hin0⟩:=hrel
         have hin:=Lib.hid hin0
         clear hin0
         by_cases hjl:j<p.l.length
         ·have hjl' : j<r.l.length:=by have:=hL.out;omega
          have k1:(j:Int)<(r.l.length:Int):=by omega
          obtain⟨b3,off3,hpa,hc⟩:=fZ (hgw.rd.below hbr) j hjl
          obtain⟨b4,off4,hra,hd⟩:=fZ (hgv.rd.below hbr) j hjl'
          have hcp:=hP.cell
          have hcq:=hQ.cell
          have p1:(gZ p)[1]?=some (.slice (some ⟨b3,off3,none⟩) p.l.length p.c):=by rw[←hpa];rfl
          have q1:(gZ r)[1]?=some (.slice (some ⟨b4,off4,none⟩) r.l.length r.c):=by rw[←hra];rfl
          have hxe:p.l[j]?=some p.l[j]:=List.getElem?_eq_getElem hjl
          have hye:r.l[j]?=some r.l[j]:=List.getElem?_eq_getElem hjl'
          have hxe':=Lib.hid hxe
          have hye':=Lib.hid hye
          clear hpa hra hxe hye
          generalize p.l[j]=xx at hc hxe'
          generalize r.l[j]=yy at hd hye'
          go_wp2_with fail
          go_quiet (fail)
          by_cases he:xx=yy
          ·have hz:(xx != yy)=false:=by simp[he]
           have hnx:Hid (∀i,i<j+1→p.l[i]?=r.l[i]?):=Lib.hid (fun i hi=>by
            by_cases e:i=j
            ·subst e;rw[hxe'.out,hye'.out,he]
            ·exact hin.out i (by omega))
           clear he
           go_wp2
           go_roundw
           case rel=>exact⟨j+1,by omega,by go_num,below_drewN hbr _,hP.drewN _,hQ.drewN _,hx.drewN _,hy.drewN _,hnx.out⟩
           case measure=>simp[intOf];omega
          ·have hz:(xx != yy)=true:=by rw[bne_iff_ne];exact he
           have hfin:Hid (jg (bT ps k) (bT rs k)=false):=Lib.hid (jo q (by
            rw[hpf.out,hrf.out]
            intro e
            have e2:p.l=r.l:=congrArg Fi.b (Option.some.inj e)
            have e3:=hxe'.out
            rw[e2,hye'.out] at e3
            exact he (Option.some.inj e3).symm))
           clear he
           go_wp2
           go_ret
           exact⟨aT hfin.out.symm,below_drewN hbr _⟩
         ·have hnx:Hid (∀i,i<q+1→(bT ps k).fs[i]?=(bT rs k).fs[i]?):=Lib.hid (fun i hi=>by
           by_cases e:i=q
           ·subst e
            rw[hpf.out,hrf.out]
            have e1:p.l=r.l:=by
             apply List.ext_getElem?
             intro i
             by_cases hi:i<p.l.length
             ·exact hin.out i (by omega)
             ·rw[List.getElem?_eq_none (by omega),List.getElem?_eq_none (by have:=hL.out;omega)]
            unfold PF.fi
            rw[hN.out,e1]
           ·exact hall.out i (by omega))
          go_wp2
          go_roundw
          case rel=>exact⟨q+1,by omega,by go_num,hbr,hx,hy,hnx.out⟩
          case measure=>simp[intOf];omega
       ·have hlb2:((p.l.length:Int) != (r.l.length:Int))=true:=by rw[bne_iff_ne];omega
        have hfin:Hid (jg (bT ps k) (bT rs k)=false):=Lib.hid (jo q (by rw[hpf.out,hrf.out];intro e;exact hll (congrArg List.length (congrArg Fi.b (Option.some.inj e)))))
        clear hll
        go_wp2
        go_ret
        exact⟨aT hfin.out.symm,hbel2⟩
      ·have hnb:(p.n != r.n)=true:=by rw[bne_iff_ne];exact hnn
       have hfin:Hid (jg (bT ps k) (bT rs k)=false):=Lib.hid (jo q (by rw[hpf.out,hrf.out];intro e;exact hnn (congrArg Fi.n (Option.some.inj e))))
       clear hnn
       go_wp2
       go_ret
       exact⟨aT hfin.out.symm,hbel2⟩
    ·have hfin:Hid (jg (bT ps k) (bT rs k)=true):=Lib.hid (DT rfl (by simpa[bT] using hL0.out) (fun i hi=>hall.out i (Nat.lt_of_lt_of_le (show i<ps.length by simpa[bT] using hi) (by omega))))
     go_wp2
     go_ret
     exact⟨aT hfin.out.symm,hbr⟩
  ·have hlb:((ps.length:Int) != (rs.length:Int))=true:=by rw[bne_iff_ne];omega
   have hfin:Hid (jg (bT ps k) (bT rs k)=false):=Lib.hid (Dt (by simpa[bT] using hl))
   clear hl
   go_wp2
   go_ret
   exact⟨aT hfin.out.symm,hb0⟩
 ·have hkb:(k != k')=true:=by rw[bne_iff_ne];exact hk
  have hfin:Hid (jg (bT ps k) (bT rs k')=false):=Lib.hid (zy hk)
  clear hk
  go_wp2
  go_ret
  exact⟨aT hfin.out.symm,hb0⟩
theorem go_on:∀ {r:List Ar} {q:Ar},aO q=0→srtF q.en r→∀n,onA (mK q r) n=onA (q::r) n
 | [],q,_,_,n=>rfl
 | a::r,q,hq,h,n=>by
  unfold mK
  split
  ·rename_i hj
   rw[go_on (uO hq h.1 hj) (by simpa using h.2.2) n,IP hq h.1 hj]
  ·rw[bN,go_on h.1 h.2.2 n,←bN]
theorem go_ok:∀ {r:List Ar} {q:Ar} {p:Option Ar},aO q=0→srtF q.en r→nT p q=false→okF p (mK q r)
 | [],q,p,hq,_,hb=>⟨hq,hb,trivial⟩
 | a::r,q,p,hq,h,hb=>by
  unfold mK
  split
  ·rename_i hj
   refine go_ok (uO hq h.1 hj) (by simpa using h.2.2) ?_
   cases p with
   | none=>rfl
   | some z=>exact hb
  ·rename_i hj
   exact⟨hq,hb,go_ok h.1 h.2.2 (si.2 ⟨h.2.1,by simpa using hj⟩)⟩
theorem zD {l:List Ar} {lo:Int} (h:srtF lo l) (n:Int):onA (mr l) n=onA l n:=by
 match l,h with
 | [],_=>rfl
 | a::r,h=>rw[qH,go_on h.1 h.2.2]
theorem zT {l:List Ar} {lo:Int} (h:srtF lo l):okF none (mr l):=by
 match l,h with
 | [],_=>trivial
 | a::r,h=>rw[qH];exact go_ok h.1 h.2.2 rfl
def nW (o:Option Pg):Array Value:=#[.bool o.isSome,.bool (oR o),.bool (oW o),.bool (oH o),.int .i64 (oF o),.int .i64 (oP o)]
def kV (o:Option Pg):List Value:=(nW o).toList
theorem jM (o:Option Pg):(kV o).length=6:=rfl
theorem Ke (o:Option Pg):∀u∈kV o,u.oneCell' = true:=by
 intro u hu
 simp only[kV,nW,List.mem_cons,List.not_mem_nil,or_false] at hu
 rcases hu with rfl|rfl|rfl|rfl|rfl|rfl<;>rfl
theorem Ap (o:Option Pg):(nW o).all (·.oneCell')=true:=by simp[nW,Value.oneCell']
def Ei (l:List (Option Pg)):Array Value:=(l.flatMap kV).toArray
theorem ML (l:List (Option Pg)):(l.flatMap kV).length=l.length*6:=Pw.flat_len kV 6 jM l
theorem rE (l:List (Option Pg)):(Ei l).size=l.length*6:=by
 unfold Ei;rw[List.size_toArray,ML]
theorem rW (l:List (Option Pg)):(Ei l).all (·.oneCell')=true:=by
 rw[←Array.all_toList,List.all_eq_true]
 intro u hu
 obtain⟨o,_,h⟩:=List.mem_flatMap.1 (show u∈l.flatMap kV by simpa[Ei] using hu)
 exact Ke o u h
theorem KY (l:List (Option Pg)) (k:Nat) (hk:k<l.length) (x:Option Pg):bC (Ei l) (k*6) (kV x)=Ei (l.set k x):=by
 apply Array.ext_getElem?
 intro i
 by_cases hi:i<l.length*6
 ·have hq:i / 6<l.length:=by omega
  have hir:i=i / 6*6+i%6:=by omega
  have h2:=gV kV 6 jM (l.set k x) (i / 6) (by simpa using hq) (i%6) (by omega)
  rw[←hir] at h2
  have h3:=gV kV 6 jM l (i / 6) hq (i%6) (by omega)
  rw[←hir] at h3
  have e2:(Ei (l.set k x))[i]?=((l.set k x).flatMap kV)[i]?:=by simp[Ei]
  have e3:(Ei l)[i]?=(l.flatMap kV)[i]?:=by simp[Ei]
  by_cases e:i / 6=k
  ·have hik:i=k*6+i%6:=by omega
   have hlt:i%6<(kV x).length:=by rw[jM];omega
   have h1:=putAt_in (kV x) (Ei l) (k*6) (i%6) (kV x)[i%6] (by rw[jM,rE];omega) (List.getElem?_eq_getElem hlt)
   rw[←hik] at h1
   rw[h1,e2,h2]
   simp only[e,List.getElem_set_self]
   exact (List.getElem?_eq_getElem hlt).symm
  ·rw[putAt_out _ _ _ _ (by rw[jM];omega),e2,h2,e3,h3]
   congr 2
   rw[List.getElem_set_ne (fun h=>e h.symm)]
 ·rw[Array.getElem?_eq_none (by rw[size_putAt,rE];omega),Array.getElem?_eq_none (by rw[rE,List.length_set];omega)]
def fC (f:Nat→Option Pg):Array Value:=Ei (EQ f)
theorem fP (f:Nat→Option Pg):(fC f).size=384:=by unfold fC;rw[rE,pI]
theorem Jw (f:Nat→Option Pg) (k:Nat) (hk:k<64) (x:Option Pg):bC (fC f) (k*6) (kV x)=fC (fun i=>if i=k then x else f i):=by
 unfold fC
 rw[KY _ _ (by rw[pI];exact hk),Ky]
theorem Jq (cur:Array Value) (o:Nat) (a b c d e x y:Value):bC (bC cur o [a,b,c,d,e,x]) (o+5) [y]=bC cur o [a,b,c,d,e,y]:=by
 simp[bC]
theorem one_size:(Tryz.prog.info? 109).map (·.size)=some 6:=by kernel_rfl
theorem ones_size:(Tryz.prog.info? 110).map (·.size)=some 384:=by kernel_rfl
theorem kG (l:List Ar) (a:Option Addr) (c:Nat) (w:World) (h:cZ w a (l.flatMap iE)) (hl:l.length≤1000) (hok:∀x∈l,aO x=0) :
  Calls Tryz.prog 49 #[.slice a l.length c] w fun r w'=>r = .returned (.agg (fC (bF l)))∧Below w.heap.size w w':=by
 go_enter Tryz.func49,Tryz.ntmps49
 go_upto_region 2 with (fail)
 refine mg (fun W=>Code.wp _ _ _ _ W) fun W0 hb0 hres0 ho0 hs0 => ?_
 clear hs0
 replace ho0:aF W0 (w.heap.size+1) (fC f0) 110:=ho0
 replace hres0:aF W0 w.heap.size (fC f0) 110:=hres0
 go_upto_region 3 with (fail)
 go_loopw [9] (fun i wr => ∃k:Nat,k≤l.length∧i = .int .i64 k∧Below w.heap.size w wr∧aF wr (w.heap.size+1) (fC (bF (l.take k))) 110∧aF wr w.heap.size (fC f0) 110) (fun i _=>l.length-(intOf i).toNat)
 case atStart=>exact⟨0,Nat.zero_le _,rfl,hb0,ho0,hres0⟩
 case round=>
  clear hb0 ho0 hres0
  obtain⟨k,hk,rfl,hbr,hor,hrr⟩:=hrel
  by_cases hlt:k<l.length
  ·have hnx:=Lib.hid (Cv hlt)
   have hA:=bi (hok l[k] (List.getElem_mem _))
   obtain⟨⟨f1,f2,f3⟩,f4,f5,f6,_,_⟩:=hA
   generalize hF:bF (l.take k)=F at *
   obtain⟨b,off,rfl,c0,c1,c2,c3,c4,c5,c6⟩:=xH (h.below hbr) k hlt
   generalize l[k]=A at *
   go_upto_region 5 with (fail)
   refine fo (fun W=>Code.wp _ _ _ _ W) fun W1 hb1 hx1 hs1 => ?_
   clear hs1 c0 c1 c2 c3 c4 c5 c6
   have hbel1:=ae hbr hb1
   have ho1:=hor.ext hb1
   have hr1:=hrr.ext hb1
   have hgx:w.heap.size+1<wr.heap.size:=hor.lt
   clear hbr hor hrr hb1
   obtain⟨gx,hg⟩:∃g,g=wr.heap.size:=⟨_,rfl⟩
   rw[←hg] at hx1 hgx ⊢
   clear hg
   obtain⟨N,hN⟩:∃N:Nat,A.fr=(N:Int):=⟨A.fr.toNat,by omega⟩
   have hN':=Lib.hid hN
   clear hN
   have hcx:=hx1.cell
   go_upto_region 6 with (fail)
   clear hcx
   go_loopw [6] (fun i wr => ∃K:Nat,A.fr≤(K:Int)∧(K:Int)≤A.en∧i = .int .i64 K∧Below w.heap.size w wr∧aF wr gx (jO A) 99∧aF wr (w.heap.size+1) (fC (Az A K F)) 110∧aF wr w.heap.size (fC f0) 110) (fun i _=>(A.en-intOf i).toNat)
   case atStart=>exact⟨N,by have:=hN'.out;omega,by have:=hN'.out;omega,by rw[hN'.out],hbel1,hx1,by rw[←hN'.out,Gq];exact ho1,hr1⟩
   case round=>
    clear hbel1 hx1 ho1 hr1
    obtain⟨K,hK0,hK1,rfl,hbr,hx,ho,hr⟩:=hrel
    have hcx:=hx.cell
    unfold jO at hcx
    by_cases hKe:(K:Int)<A.en
    ·have hK64:K<64:=by omega
     have hK64i:(K:Int)<64:=by omega
     have hfit:Hid (K*6+6≤(fC (Az A K F)).size):=Lib.hid (by rw[fP];omega)
     have hwa:IntKind.i64.wrap (A.ba+(K:Int))=A.ba+(K:Int):=IntWalk.i64_in _ (by omega)
     have hwb:IntKind.i64.wrap (A.ba+(K:Int)-A.fr)=A.ba+(K:Int)-A.fr:=IntWalk.i64_in _ (by omega)
     have hfin:Hid (∀q:Int,q=(if 0≤A.fi then A.ba+(K:Int)-A.fr else 0)→bC (fC (Az A K F)) (K*6) [.bool true,.bool A.rd,.bool A.wr,.bool A.sh,.int .i64 A.fi,.int .i64 q]=fC (Az A ((K:Int)+1) F)):=Lib.hid (fun q hq=>by
      rw[←Hz hK0,←Jw _ K hK64,hq];rfl)
     go_upto_region 9 with (refine eX rfl _ _ _ rfl (w.heap.size+1) (K*6) #[.bool true,.bool A.rd,.bool A.wr,.bool A.sh,.int .i64 A.fi,.int .i64 0] rfl rfl _ _ ho hfit.out one_size (by simp[Value.oneCell']) ?_)
     intro W2 ho2 hgr2
     have hbel2:Below w.heap.size w W2:=hbr.grown hgr2 hbr.size (fun k hk=>by cases hk;omega)
     have hx2:aF W2 gx (jO A) 99:=hx.grown hgr2 (fun e=>by have:=Option.some.inj e;omega)
     have hr2:aF W2 w.heap.size (fC f0) 110:=hr.grown hgr2 (fun e=>by have:=Option.some.inj e;omega)
     clear hbr hx ho hr hgr2 hcx
     have hcx:=hx2.cell
     unfold jO at hcx
     by_cases hfi:0≤A.fi
     ·go_upto_region 7 with (refine aC rfl _ _ _ rfl (w.heap.size+1) (K*6+5) (.int .i64 (A.ba+(K:Int)-A.fr)) [.int .i64 (A.ba+(K:Int)-A.fr)] rfl rfl rfl _ _ ho2 (by rw[size_putAt];exact hfit.out) int_size (by simp[Value.oneCell']) ?_)
      intro W3 ho3 hgr3
      have hbel3:Below w.heap.size w W3:=hbel2.grown hgr3 hbel2.size (fun k hk=>by cases hk;omega)
      have hx3:aF W3 gx (jO A) 99:=hx2.grown hgr3 (fun e=>by have:=Option.some.inj e;omega)
      have hr3:aF W3 w.heap.size (fC f0) 110:=hr2.grown hgr3 (fun e=>by have:=Option.some.inj e;omega)
      have ho4:aF W3 (w.heap.size+1) (fC (Az A ((K:Int)+1) F)) 110:=by
       rw[←hfin.out _ (by rw[if_pos hfi]),←Jq];exact ho3
      clear hbel2 hx2 ho2 hr2 ho3 hgr3 hcx hfin
      go_wp2
      go_roundw
      case rel=>exact⟨K+1,by omega,by omega,by go_num,hbel3,hx3,ho4,hr3⟩
      case measure=>simp[intOf];omega
     ·have ho4:aF W2 (w.heap.size+1) (fC (Az A ((K:Int)+1) F)) 110:=by
       rw[←hfin.out 0 (by rw[if_neg hfi])];exact ho2
      clear ho2 hfin
      go_wp2
      go_roundw
      case rel=>exact⟨K+1,by omega,by omega,by go_num,hbel2,hx2,ho4,hr2⟩
      case measure=>simp[intOf];omega
    ·have hKA:(K:Int)=A.en:=by omega
     have ho4:aF wr (w.heap.size+1) (fC (bF (l.take (k+1)))) 110:=by
      rw[hnx.out,←hKA];exact ho
     clear ho hKA
     go_wp2
     go_roundw
     case rel=>exact⟨k+1,by omega,by go_num,hbr,ho4,hr⟩
     case measure=>simp[intOf];omega
  ·have hkl:k=l.length:=by omega
   subst hkl
   rw[List.take_length] at hor
   have hs384:Hid ((fC (bF l)).size=384):=Lib.hid (fP _)
   have hr384:Hid ((fC f0).size=384):=Lib.hid (fP _)
   have hone:(fC (bF l)).all (·.oneCell')=true:=rW _
   go_wp2_with (first | (refine dQ rfl 110 (.tmp 3) rfl (w.heap.size+1) 0 rfl (fC (bF l)).toList hor.rd _ Tryz.underlying110 rfl (by rw[Array.length_toList,hs384.out];exact ones_size) ?_) | (refine az rfl _ (.tmp 2) (.tmp 46) rfl w.heap.size (fC (bF l)) rfl rfl _ _ hrr (by rw[hs384.out,hr384.out]) (by rw[hs384.out];exact ones_size) hone ?_))
   intro w5 hr5 hgr5
   have hbel5:Below w.heap.size w w5:=hbr.grown hgr5 hbr.size (fun k hk=>by cases hk;omega)
   go_wp2
   refine bodyPost_ret (v:=.agg (fC (bF l))) (dw Tryz.results49 _ _ w.heap.size _ _ _ rfl hr5 Tryz.underlying110 rfl (by rw[hs384.out];exact ones_size)) rfl ?_
   exact⟨rfl,hbel5⟩
theorem yA (a:Ar) (w:World):Calls Tryz.prog 103 #[.agg (jO a)] w fun r w'=>r = .returned (.int .i64 (aO a))∧Below w.heap.size w w':=by
 unfold jO
 go_enter Tryz.func103,Tryz.ntmps103
 go_upto_region 1 with (fail)
 refine fo (fun W=>Code.wp _ _ _ _ W) fun W0 hb0 hx0 hs0 => ?_
 clear hs0
 have hcx:=hx0.cell
 by_cases g1:a.fr<0
 ·have hz:Hid (aO a=3):=Lib.hid (by unfold aO;rw[if_pos (by omega)])
  go_wp2
  go_ret
  exact⟨aS hz.out.symm,hb0⟩
 ·by_cases g2:64<a.en
  ·have hz:Hid (aO a=3):=Lib.hid (by unfold aO;rw[if_pos (by omega)])
   go_wp2
   go_ret
   exact⟨aS hz.out.symm,hb0⟩
  ·by_cases g3:a.en≤a.fr
   ·have hz:Hid (aO a=3):=Lib.hid (by unfold aO;rw[if_pos (by omega)])
    go_wp2
    go_ret
    exact⟨aS hz.out.symm,hb0⟩
   ·by_cases g4:a.fi < -1
    ·have hz:Hid (aO a=3):=Lib.hid (by unfold aO;rw[if_pos (by omega)])
     go_wp2
     go_ret
     exact⟨aS hz.out.symm,hb0⟩
    ·by_cases g5:4<a.fi
     ·have hz:Hid (aO a=3):=Lib.hid (by unfold aO;rw[if_pos (by omega)])
      go_wp2
      go_ret
      exact⟨aS hz.out.symm,hb0⟩
     ·by_cases g6:a.ba<0
      ·have hz:Hid (aO a=3):=Lib.hid (by unfold aO;rw[if_pos (by omega)])
       go_wp2
       go_ret
       exact⟨aS hz.out.symm,hb0⟩
      ·have hn1:¬(a.fr<0∨a.en≤a.fr∨64<a.en∨a.fi < -1∨5≤a.fi∨a.ba<0):=by omega
       have hw1:IntKind.i64.wrap (a.en-a.fr)=a.en-a.fr:=IntWalk.i64_in _ (by omega)
       have hw2:IntKind.i64.wrap (12-(a.en-a.fr))=12-(a.en-a.fr):=IntWalk.i64_in _ (by omega)
       by_cases f1:a.fi = -1
       ·have f1' : (a.fi == -1)=true:=by simpa using f1
        by_cases f2:a.ba=0
        ·have f2' : ¬0<a.ba:=by omega
         cases f3:a.sh
         ·have hz:Hid (aO a=0):=Lib.hid (by unfold aO;rw[if_neg hn1,if_neg (by rw[f3];simp;omega)])
          have f4:¬0≤a.fi:=by omega
          clear hn1 f1 f2
          rw[f3] at hcx
          go_wp2
          go_ret
          exact⟨aS hz.out.symm,hb0⟩
         ·have hz:Hid (aO a=7):=Lib.hid (by unfold aO;rw[if_neg hn1,if_pos (.inl ⟨by omega,.inr f3⟩)])
          clear hn1 f1 f2
          rw[f3] at hcx
          go_wp2
          go_ret
          exact⟨aS hz.out.symm,hb0⟩
        ·have hz:Hid (aO a=7):=Lib.hid (by unfold aO;rw[if_neg hn1,if_pos (.inl ⟨by omega,.inl f2⟩)])
         have f2' : 0<a.ba:=by omega
         clear hn1 f1 f2
         go_wp2
         go_ret
         exact⟨aS hz.out.symm,hb0⟩
       ·have f1' : 0≤a.fi:=by omega
        have f1'' : (a.fi == -1)=false:=by simpa using f1
        by_cases f2:12-(a.en-a.fr)<a.ba
        ·have hz:Hid (aO a=7):=Lib.hid (by unfold aO;rw[if_neg hn1,if_pos (.inr ⟨f1',f2⟩)])
         clear hn1 f1
         go_wp2
         go_ret
         exact⟨aS hz.out.symm,hb0⟩
        ·have hz:Hid (aO a=0):=Lib.hid (by unfold aO;rw[if_neg hn1,if_neg (by omega)])
         clear hn1 f1
         go_wp2
         go_ret
         exact⟨aS hz.out.symm,hb0⟩
theorem Ns (p q:Pg) (b:Bool) (h:(p==q)=b) (W:World):(Op.equalIn 10000 109 (.agg #[.bool true,.bool p.rd,.bool p.wr,.bool p.sh,.int .i64 p.fi,.int .i64 p.pg]) (.agg #[.bool true,.bool q.rd,.bool q.wr,.bool q.sh,.int .i64 q.fi,.int .i64 q.pg])).run Tryz.prog W = .ok b W:=by
 rw[←h,MC]
 by_cases h3:p.rd=q.rd
 ·by_cases h4:p.wr=q.wr
  ·by_cases h5:p.sh=q.sh
   ·by_cases h6:(p.fi==q.fi)=true
    ·by_cases h7:p.pg=q.pg<;>simp[go_sem,h3,h4,h5,h6,h7]
    ·simp[go_sem,h3,h4,h5,h6]
   ·simp[go_sem,h3,h4,h5]
  ·simp[go_sem,h3,h4]
 ·simp[go_sem,h3]
theorem Mm (q:Pg) (x:Int) (W:World):(Op.equalIn 10000 109 (.agg #[.bool false,.bool false,.bool false,.bool false,.int .i64 0,.int .i64 x]) (.agg #[.bool true,.bool q.rd,.bool q.wr,.bool q.sh,.int .i64 q.fi,.int .i64 q.pg])).run Tryz.prog W = .ok false W:=by
 simp[go_sem]
theorem EL (f:Nat→Option Pg) (k:Nat) (hk:k<64):(fC f).extract (k*6) (k*6+6)=nW (f k):=by
 apply Array.ext_getElem?
 intro i
 by_cases hi:i<6
 ·rw[Array.getElem?_extract,if_pos (by rw[fP];omega)]
  have:=gV kV 6 jM (EQ f) k (by rw[pI];exact hk) i hi
  have e:(fC f)[k*6+i]?=((EQ f).flatMap kV)[k*6+i]?:=by simp[fC,Ei]
  have e2:(EQ f)[k]'(by rw[pI];exact hk)=f k:=by simp[EQ]
  rw[e,this,e2]
  simp[kV]
 ·rw[Array.getElem?_eq_none (by simp;omega),Array.getElem?_eq_none (by simp[nW];omega)]
theorem rX (f:Nat→Option Pg) (k j:Nat) (hk:k<64) (u:Value) (h:(kV (f k))[j]?=some u) (hj:j<6):(fC f)[k*6+j]?=some u:=by
 have:=gV kV 6 jM (EQ f) k (by rw[pI];exact hk) j hj
 have e:(fC f)[k*6+j]?=((EQ f).flatMap kV)[k*6+j]?:=by simp[fC,Ei]
 have e2:(EQ f)[k]'(by rw[pI];exact hk)=f k:=by simp[EQ]
 rw[e,this,e2]
 exact h
theorem sJ (f:Nat→Option Pg) (k:Nat) (hk:k<64) (o:Option Pg) (ho:f k=o) (w:World):(Instr.index 110 (.agg (fC f)) (.int .i64 k)).run Tryz.prog w = .ok (.agg (nW o)) w:=
 oM Tryz.underlying110 Tryz.underlying109 rfl one_size _ k _ hk (by rw[←ho];exact EL f k hk) _ w
theorem nN {P:Program} {ops:Array Oper} {rest:List Oper} {o:Oper} {a:Act} {w:World} {Q:Exit→Act→World→Prop} (hg:o.guard=none) (t t' : TypeId) (x y:Operand) (ho:o.op = .binOp .eql t x y t') (vx vy:Value) (hx:a.eval x=vx) (hy:a.eval y=vy) (B:Bool)
  (hr:(do eqGuard .eql t x y vx vy;binOp .eql t vx vy:Sem Value).run P w = .ok (.bool B) w) (h:wpList P ops Q rest (a.put o.dst (.bool B)) w):wpList P ops Q (o::rest) a w:=
 wpList_plain hg fun K hK=>by
  unfold Oper.wp
  rw[kE ho hx hy hr]
  exact hK _ _ h
theorem Jn (p q:Pg) (b:Bool) (h:(p==q)=b) (x y:Operand) (W:World):(do eqGuard .eql 109 x y (.agg #[.bool true,.bool p.rd,.bool p.wr,.bool p.sh,.int .i64 p.fi,.int .i64 p.pg]) (.agg #[.bool true,.bool q.rd,.bool q.wr,.bool q.sh,.int .i64 q.fi,.int .i64 q.pg]);binOp .eql 109 (.agg #[.bool true,.bool p.rd,.bool p.wr,.bool p.sh,.int .i64 p.fi,.int .i64 p.pg]) (.agg #[.bool true,.bool q.rd,.bool q.wr,.bool q.sh,.int .i64 q.fi,.int .i64 q.pg]):Sem Value).run Tryz.prog W = .ok (.bool b) W:=by
 have hE:=Ns p q b h
 simp[go_sem,hE]
theorem Ex (q:Pg) (z:Int) (x y:Operand) (W:World):(do eqGuard .eql 109 x y (.agg #[.bool false,.bool false,.bool false,.bool false,.int .i64 0,.int .i64 z]) (.agg #[.bool true,.bool q.rd,.bool q.wr,.bool q.sh,.int .i64 q.fi,.int .i64 q.pg]);binOp .eql 109 (.agg #[.bool false,.bool false,.bool false,.bool false,.int .i64 0,.int .i64 z]) (.agg #[.bool true,.bool q.rd,.bool q.wr,.bool q.sh,.int .i64 q.fi,.int .i64 q.pg]):Sem Value).run Tryz.prog W = .ok (.bool false) W:=by
 have hE:=Mm q z
 simp[go_sem,hE]
theorem uj (f:Nat→Option Pg) (w:World) (hf:∀i p,f i=some p→0≤p.pg∧p.pg≤100) :
  Calls Tryz.prog 123 #[.agg (fC f)] w fun r w' => ∃v,r = .returned v∧Own w' w.heap.size 99 7 v (ig f 64).length ((ig f 64).flatMap iE)∧Below w.heap.size w w':=by
 have hs384:=Lib.hid (fP f)
 go_enter Tryz.func123,Tryz.ntmps123
 go_upto_region 1 with (fail)
 refine fo (fun W=>Code.wp _ _ _ _ W) fun W0 hb0 hx0 hs0 => ?_
 clear hs0
 go_upto_region 3 with (refine ay _ _ rfl _ 0 rfl rfl _ hx0.rd _ Tryz.underlying110 rfl (by rw[Array.length_toList,hs384.out];exact ones_size) ?_)
 go_loopw [9,3] (fun i u wr => ∃k:Nat,k≤64∧i = .int .i64 k∧Below w.heap.size w wr∧aF wr w.heap.size (fC f) 110∧Own wr w.heap.size 99 7 u (ig f k).length ((ig f k).flatMap iE)) (fun i _ _=>64-(intOf i).toNat)
 case atStart=>exact⟨0,Nat.zero_le _,rfl,hb0,hx0,by simpa[ig] using Own.nil _ _ _ _⟩
 case round=>
  clear hb0 hx0
  obtain⟨k,hk,rfl,hbel,hbx,hown⟩:=hrel
  by_cases hlt:k<64
  ·have hlti:(k:Int)<64:=by omega
   have htl:=zA f k
   cases hfk:f k with
   | none=>
    have hix:=sJ f k hlt none hfk
    unfold nW oR oW oH oF oP at hix
    have hst:=Lib.hid (Ik hfk)
    go_upto_region 5 with (fail)
    refine fo (fun W=>Code.wp _ _ _ _ W) fun W1 hb1 hx1 hs1 => ?_
    have hcx:=hx1.cell
    have hbel1:=ae hbel hb1
    have hbx1:=hbx.ext hb1
    have hown1:=hown.below hb1
    clear hs1 hb1 hbel hbx hown
    rw[←hst.out] at hown1
    go_wp2
    go_roundw
    case rel=>exact⟨k+1,by omega,by go_num,hbel1,hbx1,hown1⟩
    case measure=>simp[intOf];omega
   | some p=>
    have hix:=sJ f k hlt (some p) hfk
    unfold nW oR oW oH oF oP at hix
    go_upto_region 5 with (fail)
    refine fo (fun W=>Code.wp _ _ _ _ W) fun W1 hb1 hx1 hs1 => ?_
    have hbel:=ae hbel hb1
    have hbx:=hbx.ext hb1
    have hown:=hown.below hb1
    clear hs1 hb1
    obtain⟨gx,hgx⟩:∃g,g=wr.heap.size:=⟨_,rfl⟩
    rw[←hgx] at hx1 ⊢
    clear hgx
    generalize hacc:ig f k=acc at *
    obtain⟨au,cu,rfl,_⟩:=hown.rd
    have hcx:=hx1.cell
    have hwk:IntKind.i64.wrap ((k:Int)+1)=(k:Int)+1:=IntWalk.i64_in _ (by omega)
    by_cases hk0:k=0
    ·have hs0:iN f k p=false:=by rw[hk0];rfl
     have hst:Hid (ig f (k+1)=acc++[dI k p]):=Lib.hid (by rw[vG hfk hs0,hacc])
     have hk0i:¬(0:Int)<(k:Int):=by omega
     have hk0n:¬0<k:=by omega
     clear hk0 hs0 hfk hacc
     go_upto_region 14 with (fail)
     go_wp2_with (at_builtin;refine eu rfl _ _ 50 rfl w.heap.size 99 _ 7 40 Tryz.underlying50 area_info rfl (by decide) _ acc.length (acc.flatMap iE) rfl (hown.alloc _) (some ⟨W1.heap.size,0,none⟩) 1 1 (iE (dI k p)) rfl (fun h=>(by cases h)) (Nat.le_refl _) rfl (cZ.new _ (jO (dI k p)) _) (fun u hu=>lD [dI k p] u (by simpa using hu)) (by unfold maxLen;omega) (by omega) (dz hbel.size _) ?_)
     intro v W6 hown6 hgr6
     have hbel6:Below w.heap.size w W6:=(hbel.alloc hbel.size _).grown hgr6 (dz hbel.size _) (hown.alloc (.cells (jO (dI k p)) 99)).ge
     have hbx6:aF W6 w.heap.size (fC f) 110:=jA (hbx.alloc (.cells (jO (dI k p)) 99)) (hown.alloc (.cells (jO (dI k p)) 99)) (by decide) hgr6
     have hown7:Own W6 w.heap.size 99 7 v (ig f (k+1)).length ((ig f (k+1)).flatMap iE):=by
      rw[hst.out,List.flatMap_append,List.length_append];simpa using hown6
     clear hown6 hgr6
     go_wp2
     go_roundw
     case rel=>exact⟨k+1,by omega,by go_num,hbel6,hbx6,hown7⟩
     case measure=>simp[intOf];omega
    ·obtain⟨m,hm⟩:∃m,k=m+1:=⟨k-1,by omega⟩
     have hk0i:(0:Int)<(k:Int):=by omega
     have hk0n:0<k:=by omega
     have hwm:IntKind.i64.wrap ((k:Int)-1)=(m:Int):=by rw[IntWalk.i64_in _ (by omega)];omega
     have hm64:m<64:=by omega
     have hm64i:(m:Int)<64:=by omega
     have hm1:∀z,iN f k z=(match f m with | some q=>kU z q==z | none=>false):=fun z=>by subst hm;rfl
     have hcell:∀j u,(kV (f m))[j]?=some u→j<6→W1.cell? ⟨w.heap.size,m*6+j,none⟩=some u:=fun j u h hj=>by rw[hbx.cell];exact rX f m j hm64 u h hj
     have hmm:=Lib.hid hm
     clear hm hk0
     cases hfm:f m with
     | none=>
      have hs0:iN f k p=false:=by rw[hm1,hfm]
      have hst:Hid (ig f (k+1)=acc++[dI k p]):=Lib.hid (by rw[vG hfk hs0,hacc])
      rw[hfm] at hcell
      have d0:=hcell 0 _ rfl (by decide)
      have d1:=hcell 1 _ rfl (by decide)
      have d2:=hcell 2 _ rfl (by decide)
      have d3:=hcell 3 _ rfl (by decide)
      have d4:=hcell 4 _ rfl (by decide)
      have d5:=hcell 5 _ rfl (by decide)
      simp only[Nat.add_zero,Option.isSome,oR,oW,oH,oF,oP] at d0 d1 d2 d3 d4 d5
      clear hm1 hcell hs0 hfk hacc
      have hw1p:IntKind.i64.wrap (0+1)=1:=by rw[IntWalk.i64_in _ (by omega)];try rfl
      go_upto_region 9 with (fail)
      refine fo (fun W=>Code.wp _ _ _ _ W) fun W2 hb2 hy2 hs2 => ?_
      have hbel:=ae hbel hb2
      have hbx2:=hbx.ext hb2
      have hown2:=hown.below hb2
      have hx2:=hx1.ext hb2
      have hgxy:gx<W1.heap.size:=hx1.lt
      have hgy:w.heap.size<W1.heap.size:=hbx.lt
      have hgB:=hbel.size
      clear hs2 hb2 hbx hown hx1 hcx d0 d1 d2 d3 d4 d5
      have hcx:=hx2.cell
      by_cases hfi:0≤p.fi
      ·obtain⟨gy,hgyE⟩:∃g,g=W1.heap.size:=⟨_,rfl⟩
       rw[←hgyE] at hy2 hgxy hgy ⊢
       clear hgyE
       have hcy:=hy2.cell
       go_upto_region 11 with (refine aC rfl _ _ _ rfl gy 5 (.int .i64 (1)) [.int .i64 (1)] rfl rfl rfl _ _ hy2 (by simp) int_size (by simp[Value.oneCell']) ?_)
       intro W3 hy3 hgr3
       have hy4:aF W3 gy #[.bool false,.bool (false),.bool (false),.bool (false),.int .i64 (0),.int .i64 (1)] 109:=hy3
       have hbel:=hbel.grown hgr3 hbel.size (fun k hk=>by cases hk;omega)
       have hbx3:aF W3 w.heap.size (fC f) 110:=hbx2.grown hgr3 (fun e=>by have:=Option.some.inj e;omega)
       have hx3:aF W3 gx #[.bool true,.bool p.rd,.bool p.wr,.bool p.sh,.int .i64 p.fi,.int .i64 p.pg] 109:=hx2.grown hgr3 (fun e=>by have:=Option.some.inj e;omega)
       have hown:=ak hown2 hy2 (by decide) hgr3
       have hbx:=hbx3
       clear hy2 hy3 hbx2 hx2 hown2 hgr3 hcx hcy hbx3 hgB
       have hE:=Ex p 1
       go_upto_region 12 with (first | (refine ay _ _ rfl _ 0 rfl rfl _ hy4.rd _ Tryz.underlying109 rfl one_size ?_) | (refine ay _ _ rfl _ 0 rfl rfl _ hx3.rd _ Tryz.underlying109 rfl one_size ?_) | (refine nN rfl _ _ _ _ rfl _ _ rfl rfl _ (hE _ _ _) ?_))
       clear hE hy4
       have hcx:=hx3.cell
       go_upto_region 14 with (fail)
       go_wp2_with (at_builtin;refine eu rfl _ _ 50 rfl w.heap.size 99 _ 7 40 Tryz.underlying50 area_info rfl (by decide) _ acc.length (acc.flatMap iE) rfl (hown.alloc _) (some ⟨W3.heap.size,0,none⟩) 1 1 (iE (dI k p)) rfl (fun h=>(by cases h)) (Nat.le_refl _) rfl (cZ.new _ (jO (dI k p)) _) (fun u hu=>lD [dI k p] u (by simpa using hu)) (by unfold maxLen;omega) (by omega) (dz hbel.size _) ?_)
       intro v W6 hown6 hgr6
       have hbel6:Below w.heap.size w W6:=(hbel.alloc hbel.size _).grown hgr6 (dz hbel.size _) (hown.alloc (.cells (jO (dI k p)) 99)).ge
       have hbx6:aF W6 w.heap.size (fC f) 110:=jA (hbx.alloc (.cells (jO (dI k p)) 99)) (hown.alloc (.cells (jO (dI k p)) 99)) (by decide) hgr6
       have hown7:Own W6 w.heap.size 99 7 v (ig f (k+1)).length ((ig f (k+1)).flatMap iE):=by
        rw[hst.out,List.flatMap_append,List.length_append];simpa using hown6
       clear hown6 hgr6
       go_wp2
       go_roundw
       case rel=>exact⟨k+1,by omega,by go_num,hbel6,hbx6,hown7⟩
       case measure=>simp[intOf];omega
      ·have hbx:=hbx2
       have hown:=hown2
       clear hbx2 hown2
       have hfi' : ¬0≤p.fi:=hfi
       have hE:=Ex p 0
       go_upto_region 12 with (first | (refine ay _ _ rfl _ 0 rfl rfl _ hy2.rd _ Tryz.underlying109 rfl one_size ?_) | (refine ay _ _ rfl _ 0 rfl rfl _ hx2.rd _ Tryz.underlying109 rfl one_size ?_) | (refine nN rfl _ _ _ _ rfl _ _ rfl rfl _ (hE _ _ _) ?_))
       clear hE hy2
       have hcx:=hx2.cell
       go_upto_region 14 with (fail)
       go_wp2_with (at_builtin;refine eu rfl _ _ 50 rfl w.heap.size 99 _ 7 40 Tryz.underlying50 area_info rfl (by decide) _ acc.length (acc.flatMap iE) rfl (hown.alloc _) (some ⟨W2.heap.size,0,none⟩) 1 1 (iE (dI k p)) rfl (fun h=>(by cases h)) (Nat.le_refl _) rfl (cZ.new _ (jO (dI k p)) _) (fun u hu=>lD [dI k p] u (by simpa using hu)) (by unfold maxLen;omega) (by omega) (dz hbel.size _) ?_)
       intro v W6 hown6 hgr6
       have hbel6:Below w.heap.size w W6:=(hbel.alloc hbel.size _).grown hgr6 (dz hbel.size _) (hown.alloc (.cells (jO (dI k p)) 99)).ge
       have hbx6:aF W6 w.heap.size (fC f) 110:=jA (hbx.alloc (.cells (jO (dI k p)) 99)) (hown.alloc (.cells (jO (dI k p)) 99)) (by decide) hgr6
       have hown7:Own W6 w.heap.size 99 7 v (ig f (k+1)).length ((ig f (k+1)).flatMap iE):=by
        rw[hst.out,List.flatMap_append,List.length_append];simpa using hown6
       clear hown6 hgr6
       go_wp2
       go_roundw
       case rel=>exact⟨k+1,by omega,by go_num,hbel6,hbx6,hown7⟩
       case measure=>simp[intOf];omega
     | some q=>
      have hqb:=hf m q hfm
      have hstp0:=hm1 p
      rw[hfm] at hstp0 hcell
      simp only[] at hstp0
      have d0:=hcell 0 _ rfl (by decide)
      have d1:=hcell 1 _ rfl (by decide)
      have d2:=hcell 2 _ rfl (by decide)
      have d3:=hcell 3 _ rfl (by decide)
      have d4:=hcell 4 _ rfl (by decide)
      have d5:=hcell 5 _ rfl (by decide)
      simp only[Nat.add_zero,Option.isSome,oR,oW,oH,oF,oP] at d0 d1 d2 d3 d4 d5
      generalize hBe:(kU p q==p)=B at hstp0
      have hstp:=Lib.hid hstp0
      clear hm1 hcell hstp0
      have hN1:0≤p.fi→((⟨q.rd,q.wr,q.sh,q.fi,q.pg+1⟩:Pg)==p)=B:=fun h=>by rw[←hBe];unfold kU;rw[if_pos h]
      have hN0:¬0≤p.fi→(q==p)=B:=fun h=>by rw[←hBe];unfold kU;rw[if_neg h]
      clear hBe
      have hw1p:IntKind.i64.wrap (q.pg+1)=(q.pg+1):=by rw[IntWalk.i64_in _ (by omega)];try rfl
      go_upto_region 9 with (fail)
      refine fo (fun W=>Code.wp _ _ _ _ W) fun W2 hb2 hy2 hs2 => ?_
      have hbel:=ae hbel hb2
      have hbx2:=hbx.ext hb2
      have hown2:=hown.below hb2
      have hx2:=hx1.ext hb2
      have hgxy:gx<W1.heap.size:=hx1.lt
      have hgy:w.heap.size<W1.heap.size:=hbx.lt
      have hgB:=hbel.size
      clear hs2 hb2 hbx hown hx1 hcx d0 d1 d2 d3 d4 d5
      have hcx:=hx2.cell
      by_cases hfi:0≤p.fi
      ·obtain⟨gy,hgyE⟩:∃g,g=W1.heap.size:=⟨_,rfl⟩
       rw[←hgyE] at hy2 hgxy hgy ⊢
       clear hgyE
       have hcy:=hy2.cell
       go_upto_region 11 with (refine aC rfl _ _ _ rfl gy 5 (.int .i64 ((q.pg+1))) [.int .i64 ((q.pg+1))] rfl rfl rfl _ _ hy2 (by simp) int_size (by simp[Value.oneCell']) ?_)
       intro W3 hy3 hgr3
       have hy4:aF W3 gy #[.bool true,.bool (q.rd),.bool (q.wr),.bool (q.sh),.int .i64 (q.fi),.int .i64 ((q.pg+1))] 109:=hy3
       have hbel:=hbel.grown hgr3 hbel.size (fun k hk=>by cases hk;omega)
       have hbx3:aF W3 w.heap.size (fC f) 110:=hbx2.grown hgr3 (fun e=>by have:=Option.some.inj e;omega)
       have hx3:aF W3 gx #[.bool true,.bool p.rd,.bool p.wr,.bool p.sh,.int .i64 p.fi,.int .i64 p.pg] 109:=hx2.grown hgr3 (fun e=>by have:=Option.some.inj e;omega)
       have hown:=ak hown2 hy2 (by decide) hgr3
       have hbx:=hbx3
       clear hy2 hy3 hbx2 hx2 hown2 hgr3 hcx hcy hbx3 hgB
       have hE:=Jn ⟨q.rd,q.wr,q.sh,q.fi,q.pg+1⟩ p B (hN1 hfi)
       go_upto_region 12 with (first | (refine ay _ _ rfl _ 0 rfl rfl _ hy4.rd _ Tryz.underlying109 rfl one_size ?_) | (refine ay _ _ rfl _ 0 rfl rfl _ hx3.rd _ Tryz.underlying109 rfl one_size ?_) | (refine nN rfl _ _ _ _ rfl _ _ rfl rfl _ (hE _ _ _) ?_))
       clear hE hy4
       have hcx:=hx3.cell
       by_cases hB:B=true
       ·subst hB
        have hst:=Lib.hid (Ho hfk hstp.out)
        rw[hacc] at hst
        have hne:0<acc.length:=by
         have:=Ig f hfm
         rw[←hmm.out,hacc] at this
         exact this
        obtain⟨n,hn0⟩:∃n,acc.length=n+1:=⟨acc.length-1,by omega⟩
        have hna:n<acc.length:=by omega
        have hse:Hid (oJ acc ((k:Int)+1)=acc.set n { acc[n] with en:=(k:Int)+1 }):=Lib.hid (Ck hn0 _)
        have hni:(n:Int)<(acc.length:Int):=by omega
        have hwn:IntKind.i64.wrap ((acc.length:Int)-1)=(n:Int):=by rw[IntWalk.i64_in _ (by omega)];omega
        obtain⟨g,off1,cap1,hv1,hBg,hgl,⟨csg,hgb⟩,hcc,hfz,hset⟩:=wm lw (by decide) rfl hown n hna 1 (by decide) (.int .i64 ((k:Int)+1)) { acc[n] with en:=(k:Int)+1 } rfl
        cases hv1
        have hc1:=hcc 1 _ rfl
        have hbxg:w.heap.size≠g:=by
         intro e;subst e
         unfold aF at hbx hgb
         rw[hbx] at hgb
         simp at hgb
        clear hcc hn0 hfk hacc hfm
        go_upto_region 15 with (fail)
        have hbel6:Below w.heap.size w (W3.setCell ⟨g,off1+n*7+1,none⟩ (.int .i64 ((k:Int)+1))):=hbel.setCell hBg _
        have hbx6:aF (W3.setCell ⟨g,off1+n*7+1,none⟩ (.int .i64 ((k:Int)+1))) w.heap.size (fC f) 110:=hbx.setCell_other _ _ (by simpa using hbxg)
        have hown7:Own (W3.setCell ⟨g,off1+n*7+1,none⟩ (.int .i64 ((k:Int)+1))) w.heap.size 99 7 (.slice (some ⟨g,off1,none⟩) acc.length cu) (ig f (k+1)).length ((ig f (k+1)).flatMap iE):=by
         rw[hst.out,hse.out,List.length_set];exact hset
        clear hset hown hbel hbx hfz hc1 hgb hcx
        go_wp2
        go_roundw
        case rel=>exact⟨k+1,by omega,by go_num,hbel6,hbx6,hown7⟩
        case measure=>simp[intOf];omega
       ·have hBf:B=false:=by simpa using hB
        subst hBf
        have hst:Hid (ig f (k+1)=acc++[dI k p]):=Lib.hid (by rw[vG hfk hstp.out,hacc])
        clear hfk hacc hfm hB
        go_upto_region 14 with (fail)
        go_wp2_with (at_builtin;refine eu rfl _ _ 50 rfl w.heap.size 99 _ 7 40 Tryz.underlying50 area_info rfl (by decide) _ acc.length (acc.flatMap iE) rfl (hown.alloc _) (some ⟨W3.heap.size,0,none⟩) 1 1 (iE (dI k p)) rfl (fun h=>(by cases h)) (Nat.le_refl _) rfl (cZ.new _ (jO (dI k p)) _) (fun u hu=>lD [dI k p] u (by simpa using hu)) (by unfold maxLen;omega) (by omega) (dz hbel.size _) ?_)
        intro v W6 hown6 hgr6
        have hbel6:Below w.heap.size w W6:=(hbel.alloc hbel.size _).grown hgr6 (dz hbel.size _) (hown.alloc (.cells (jO (dI k p)) 99)).ge
        have hbx6:aF W6 w.heap.size (fC f) 110:=jA (hbx.alloc (.cells (jO (dI k p)) 99)) (hown.alloc (.cells (jO (dI k p)) 99)) (by decide) hgr6
        have hown7:Own W6 w.heap.size 99 7 v (ig f (k+1)).length ((ig f (k+1)).flatMap iE):=by
         rw[hst.out,List.flatMap_append,List.length_append];simpa using hown6
        clear hown6 hgr6
        go_wp2
        go_roundw
        case rel=>exact⟨k+1,by omega,by go_num,hbel6,hbx6,hown7⟩
        case measure=>simp[intOf];omega
      ·have hbx:=hbx2
       have hown:=hown2
       clear hbx2 hown2
       have hfi' : ¬0≤p.fi:=hfi
       have hE:=Jn q p B (hN0 hfi')
       go_upto_region 12 with (first | (refine ay _ _ rfl _ 0 rfl rfl _ hy2.rd _ Tryz.underlying109 rfl one_size ?_) | (refine ay _ _ rfl _ 0 rfl rfl _ hx2.rd _ Tryz.underlying109 rfl one_size ?_) | (refine nN rfl _ _ _ _ rfl _ _ rfl rfl _ (hE _ _ _) ?_))
       clear hE hy2
       have hcx:=hx2.cell
       by_cases hB:B=true
       ·subst hB
        have hst:=Lib.hid (Ho hfk hstp.out)
        rw[hacc] at hst
        have hne:0<acc.length:=by
         have:=Ig f hfm
         rw[←hmm.out,hacc] at this
         exact this
        obtain⟨n,hn0⟩:∃n,acc.length=n+1:=⟨acc.length-1,by omega⟩
        have hna:n<acc.length:=by omega
        have hse:Hid (oJ acc ((k:Int)+1)=acc.set n { acc[n] with en:=(k:Int)+1 }):=Lib.hid (Ck hn0 _)
        have hni:(n:Int)<(acc.length:Int):=by omega
        have hwn:IntKind.i64.wrap ((acc.length:Int)-1)=(n:Int):=by rw[IntWalk.i64_in _ (by omega)];omega
        obtain⟨g,off1,cap1,hv1,hBg,hgl,⟨csg,hgb⟩,hcc,hfz,hset⟩:=wm lw (by decide) rfl hown n hna 1 (by decide) (.int .i64 ((k:Int)+1)) { acc[n] with en:=(k:Int)+1 } rfl
        cases hv1
        have hc1:=hcc 1 _ rfl
        have hbxg:w.heap.size≠g:=by
         intro e;subst e
         unfold aF at hbx hgb
         rw[hbx] at hgb
         simp at hgb
        clear hcc hn0 hfk hacc hfm
        go_upto_region 15 with (fail)
        have hbel6:Below w.heap.size w (W2.setCell ⟨g,off1+n*7+1,none⟩ (.int .i64 ((k:Int)+1))):=hbel.setCell hBg _
        have hbx6:aF (W2.setCell ⟨g,off1+n*7+1,none⟩ (.int .i64 ((k:Int)+1))) w.heap.size (fC f) 110:=hbx.setCell_other _ _ (by simpa using hbxg)
        have hown7:Own (W2.setCell ⟨g,off1+n*7+1,none⟩ (.int .i64 ((k:Int)+1))) w.heap.size 99 7 (.slice (some ⟨g,off1,none⟩) acc.length cu) (ig f (k+1)).length ((ig f (k+1)).flatMap iE):=by
         rw[hst.out,hse.out,List.length_set];exact hset
        clear hset hown hbel hbx hfz hc1 hgb hcx
        go_wp2
        go_roundw
        case rel=>exact⟨k+1,by omega,by go_num,hbel6,hbx6,hown7⟩
        case measure=>simp[intOf];omega
       ·have hBf:B=false:=by simpa using hB
        subst hBf
        have hst:Hid (ig f (k+1)=acc++[dI k p]):=Lib.hid (by rw[vG hfk hstp.out,hacc])
        clear hfk hacc hfm hB
        go_upto_region 14 with (fail)
        go_wp2_with (at_builtin;refine eu rfl _ _ 50 rfl w.heap.size 99 _ 7 40 Tryz.underlying50 area_info rfl (by decide) _ acc.length (acc.flatMap iE) rfl (hown.alloc _) (some ⟨W2.heap.size,0,none⟩) 1 1 (iE (dI k p)) rfl (fun h=>(by cases h)) (Nat.le_refl _) rfl (cZ.new _ (jO (dI k p)) _) (fun u hu=>lD [dI k p] u (by simpa using hu)) (by unfold maxLen;omega) (by omega) (dz hbel.size _) ?_)
        intro v W6 hown6 hgr6
        have hbel6:Below w.heap.size w W6:=(hbel.alloc hbel.size _).grown hgr6 (dz hbel.size _) (hown.alloc (.cells (jO (dI k p)) 99)).ge
        have hbx6:aF W6 w.heap.size (fC f) 110:=jA (hbx.alloc (.cells (jO (dI k p)) 99)) (hown.alloc (.cells (jO (dI k p)) 99)) (by decide) hgr6
        have hown7:Own W6 w.heap.size 99 7 v (ig f (k+1)).length ((ig f (k+1)).flatMap iE):=by
         rw[hst.out,List.flatMap_append,List.length_append];simpa using hown6
        clear hown6 hgr6
        go_wp2
        go_roundw
        case rel=>exact⟨k+1,by omega,by go_num,hbel6,hbx6,hown7⟩
        case measure=>simp[intOf];omega
  ·have hk64:k=64:=by omega
   subst hk64
   go_wp2
   go_ret
   exact⟨_,rfl,hown,hbel⟩
theorem Kc {a b:Ar} (ha:aO a=0) (hb:aO b=0) (h:a.en≤b.fr):(ig (bF [a,b]) 64).length=if bS a b=true then 1 else 2:=by
 have hs:srtF 0 [a,b]:=⟨ha,(bi ha).1.2.1.1,hb,h,trivial⟩
 have e:ig (bF [a,b]) 64=mr [a,b]:=DL (zT hs) fun i _=>by rw[kH hs,zD hs]
 rw[e,qH]
 unfold mK
 split<;>rfl
theorem Kz (f:Nat→Option Pg) (m:List Ar) (hm:okF none m) (hf:∀i:Nat,i<64→f i=onA m i) (hf' : ∀i p,f i=some p→0≤p.pg∧p.pg≤100) (w:World) :
  Calls Tryz.prog 104 #[.agg (fC f)] w fun r w' => ∃v,r = .returned (.tuple #[v,.int .i64 (xL m.length)])∧Own w' w.heap.size 99 7 v (if 16<m.length then [] else m).length ((if 16<m.length then [] else m).flatMap iE)∧Below w.heap.size w w':=by
 have hs384:=Lib.hid (fP f)
 have hl64:=zA f 64
 rw[DL hm hf] at hl64
 go_enter Tryz.func104,Tryz.ntmps104
 go_upto_region 1 with (fail)
 refine fo (fun W=>Code.wp _ _ _ _ W) fun W0 hb0 hx0 hs0 => ?_
 clear hs0
 go_wp2_with (refine ay _ _ rfl _ 0 rfl rfl _ hx0.rd _ Tryz.underlying110 rfl (by rw[Array.length_toList,hs384.out];exact ones_size) ?_)
 refine (uj f _ hf').mono ?_
 rintro r w1 ⟨v1,rfl,hO1,hb1⟩
 rw[DL hm hf] at hO1
 have hbel:=ae hb0 hb1
 replace hO1:=hO1.mono hb0.size
 obtain⟨a1,c1,rfl,_⟩:=hO1.rd
 clear hb0 hx0 hb1
 by_cases h:16<m.length
 ·have hi:(16:Int)<(m.length:Int):=by omega
  have hd:Hid (xL m.length=4):=Lib.hid (by unfold xL;rw[if_pos h])
  go_wp2
  go_ret2
  exact⟨.slice none 0 0,by first | (rw[hd.out];done) | (rw[hd.out];rfl),by first | exact Own.nil _ _ _ _ | (rw[if_pos h];exact Own.nil _ _ _ _),hbel⟩
 ·have hi:¬(16:Int)<(m.length:Int):=by omega
  have hd:Hid (xL m.length=0):=Lib.hid (by unfold xL;rw[if_neg h])
  go_wp2
  go_ret2
  exact⟨.slice a1 m.length c1,by first | (rw[hd.out];done) | (rw[hd.out];rfl),by first | exact hO1 | (rw[if_neg h];exact hO1),hbel⟩
theorem qA {P:Program} {ρ:Operand→Value} {o:Oper} {w:World} {t:TypeId} {x l h:Operand} {b off n c O sz:Nat} (ho:o.op = .slice t x (some l) (some h) none) (hx:ρ x = .slice (some ⟨b,off,none⟩) n c) (hl:ρ l = .int .i64 O) (hh:ρ h = .int .i64 ((O:Int)+2))
  (ht:P.underlying t=some (.slice (P.elem t))) (hs:(P.info? (P.elem t)).map (·.size)=some sz) (hO:O+1<n) (hn:n≤c) :
  (execOp ρ o).run P w = .ok (.value (.slice (some ⟨b,off+O*sz,none⟩) 2 (c-O))) w:=by
 have hsz:(Go.sizeOf (P.elem t)).run P w = .ok sz w:=by
  cases hq:P.info? (P.elem t) with
  | none=>simp[hq] at hs
  | some i=>
   have hz:i.size=sz:=by simpa[hq] using hs
   simp[Go.sizeOf,typeInfo,run_program,hq,hz]
 unfold execOp
 simp only[ho,hx,hl,hh,Option.map]
 rw[Sem.run_bind,run_sliceAt_slice w t _ _ _ _ ht,run_slice_lh w t _ n c ht .i64 .i64 O (O+2) (by omega) (by omega) (by omega),hsz]
 have e1:((O:Int)+2).toNat-(O:Int).toNat=2:=by omega
 have e2:((O:Int)+2).toNat-O=2:=by omega
 simp[sliced,e1,e2,Addr.add,show ¬c=O by omega,go_sem]
theorem MI {w:World} {b off:Nat} {l:List Ar} (h:cZ w (some ⟨b,off,none⟩) (l.flatMap iE)) {m:Nat} (hm:m+1<l.length):cZ w (some ⟨b,off+m*7,none⟩) ([l[m],l[m+1]].flatMap iE):=by
 have h1:=wF h m (by omega)
 have h2:=wF h (m+1) hm
 intro j u hj
 refine⟨b,off+m*7,rfl,?_⟩
 simp only[List.flatMap_cons,List.flatMap_nil,List.append_nil] at hj
 by_cases c:j<7
 ·rw[List.getElem?_append_left (by rw[lw];exact c)] at hj
  exact h1 j u hj
 ·rw[List.getElem?_append_right (by rw[lw];omega),lw] at hj
  have:=h2 _ u hj
  rwa [show off+(m+1)*7+(j-7)=off+m*7+j by omega] at this
theorem xG (l:List Ar) (a:Option Addr) (c:Nat) (w:World) (h:Mh w a c l) :
  Calls Tryz.prog 85 #[.slice a l.length c] w fun e w'=>e = .returned (.agg (Cj (aZ l)))∧Below w.heap.size w w':=by
 have hlc:=h.le
 have hlm:=Nat.le_trans h.le h.mx
 unfold maxLen at hlm
 have hrd:=h.rd
 go_enter Tryz.func85,Tryz.ntmps85
 go_upto_region 1 with (fail)
 refine fo (fun W=>Code.wp _ _ _ _ W) fun W0 hbel hres hs0 => ?_
 clear hs0
 by_cases h16:16<l.length
 ·have h16' : (16:Int)<(l.length:Int):=by omega
  have hz:Hid (aZ l=(4,0)):=Lib.hid (by unfold aZ;rw[if_pos h16])
  go_wp2_with (refine az rfl _ _ _ rfl w.heap.size #[.int .i64 (4),.int .i64 (0)] rfl rfl _ _ hres rfl fau_size (jb _ _) ?_)
  intro w5 hr5 hgr5
  have hbel5:Below w.heap.size w w5:=hbel.grown hgr5 hbel.size (fun k hk=>by cases hk;exact Nat.le_refl _)
  go_wp2
  refine bodyPost_ret (v:=.agg #[.int .i64 (4),.int .i64 (0)]) (dw Tryz.results85 _ _ w.heap.size _ _ _ rfl hr5 Tryz.underlying150 rfl fau_size) rfl ?_
  exact⟨by rw[hz.out];rfl,hbel5⟩
 ·have h16' : ¬(16:Int)<(l.length:Int):=by omega
  have h0:Hid (aZ l=fF (kJ l 0) 0 (l.drop 0)):=Lib.hid (by unfold aZ;rw[if_neg h16];rfl)
  go_upto_region 4 with (fail)
  go_loopw [12] (fun i wr => ∃k:Nat,k≤l.length∧i = .int .i64 k∧Below w.heap.size w wr∧aF wr w.heap.size #[.int .i64 0,.int .i64 0] 150∧(∀i (h:i<l.length),i<k→aO l[i]=0)∧Hid (aZ l=fF (kJ l k) k (l.drop k))) (fun i _=>l.length-(intOf i).toNat)
  case atStart=>exact⟨0,Nat.zero_le _,rfl,hbel,hres,fun i _ h=>absurd h (Nat.not_lt_zero _),h0⟩
  case round=>
   clear hbel hres h0
   obtain⟨k,hk,rfl,hbel,hres,hp0,hst⟩:=hrel
   have hp:=Lib.hid hp0
   clear hp0
   by_cases hlt:k<l.length
   ·obtain⟨b,off,rfl,c0,c1,c2,c3,c4,c5,c6⟩:=xH (hrd.below hbel) k hlt
    have hki:(k:Int)<(l.length:Int):=by omega
    go_upto_region 6 with (fail)
    refine fo (fun W=>Code.wp _ _ _ _ W) fun W1 hb1 hx1 hs1 => ?_
    have hbel:=ae hbel hb1
    have hres:=hres.ext hb1
    clear hs1 hb1 c0 c1 c2 c3 c4 c5 c6
    obtain⟨gx,hgx⟩:∃g,g=wr.heap.size:=⟨_,rfl⟩
    rw[←hgx] at hx1 ⊢
    clear hgx
    go_wp2_with (refine ay _ _ rfl _ 0 rfl rfl _ hx1.rd _ Tryz.underlying99 rfl area_size ?_)
    refine (yA l[k] _).mono ?_
    rintro r w2 ⟨rfl,hb2⟩
    have hbel2:=ae hbel hb2
    have hres2:=hres.ext hb2
    have hx2:=hx1.ext hb2
    clear hbel hres hb2 hx1
    by_cases he:aO l[k]=0
    ·have he':=Lib.hid he
     rw[he]
     clear he
     go_upto_region 9 with (fail)
     by_cases hk0:k=0
     ·subst hk0
      have hd0:decide ((0:Int)<((0:Nat):Int))=false:=rfl
      have hnx:Hid (aZ l=fF (kJ l (0+1)) (0+1) (l.drop (0+1))):=Lib.hid (by rw[hst.out];exact nK hlt he'.out rfl)
      go_quiet (fail)
      go_wp2
      go_roundw
      case rel=>exact⟨0+1,by omega,by go_num,below_drewN hbel2 _,hres2.drewN _,jJ hp.out hlt he'.out,hnx⟩
      case measure=>simp[intOf];omega
     ·obtain⟨m,rfl⟩:∃m,k=m+1:=⟨k-1,by omega⟩
      have hm1:IntKind.i64.wrap (((m+1:Nat):Int)-1)=(m:Int):=by rw[IntWalk.i64_in _ (by omega)];omega
      have hml:m<l.length:=by omega
      have hm2:IntKind.i64.wrap (m:Int)=(m:Int):=IntWalk.i64_in _ (by omega)
      have hm3:IntKind.i64.wrap ((m:Int)+1+1)=(m:Int)+2:=by rw[IntWalk.i64_in _ (by omega)];omega
      have hm4:IntKind.i64.wrap (((m+1:Nat):Int)+1)=(m:Int)+2:=by rw[IntWalk.i64_in _ (by omega)];omega
      have hbp:=Lib.hid (Bw hlt)
      have hE0:=hp.out m hml (by omega)
      have hRd:=hrd.below hbel2
      have hPm:=wF hRd m hml
      have hT:=MI hrd hlt
      have hpr:∀x∈[l[m],l[m+1]],aO x=0:=fun x hx=>by
       rcases List.mem_cons.1 hx with rfl|hx
       ·exact hE0
       ·rw[List.mem_singleton.1 hx];exact he'.out
      have hup:Hid (∀i (h:i<l.length),i<m+1+1→aO l[i]=0):=Lib.hid (jJ hp.out hlt he'.out)
      generalize hA1:l[m+1]=A1 at *
      generalize hA0:l[m]=A0 at *
      by_cases hov:A1.fr<A0.en
      ·have hz:Hid (aZ l=(2,((m+1:Nat):Int))):=Lib.hid (by rw[hst.out];exact nR hlt (by rw[hA1];exact he'.out) (by rw[hA1,hbp.out,decide_eq_true hov];rfl))
       have hpo:True:=trivial
       have hpl:True:=trivial
       refine aG 25 [_,_,_,_,_,_,.v (.pointer (some ⟨b,off+m*7,none⟩)),_,.v (.int .i64 A0.en),_,.v (.int .i64 A1.fr),_,_,_,_,_,_,_,_,_,_,_,_,_,.v (.bool true)] (Gk rfl (Gb (.bool true) (by simp[go_sem]) rfl rfl rfl rfl rfl (Gk rfl (Gk rfl (Gk rfl (Gb (.int .i64 (m:Int)) (by simp[go_sem,hm1,hm2]) rfl rfl rfl rfl rfl (ag ?_ (Gf b (off+m*7+1) rfl rfl (ag ?_ (Gf gx 0 rfl rfl (ag ?_ (Gb (.bool true) (by simp[go_sem,hov]) rfl rfl rfl rfl rfl (Gk rfl (Gk rfl (Gk rfl (Gk rfl (Gk rfl (Gk rfl (Gk rfl (Gk rfl (Gk rfl (Gk rfl (Gk rfl (Gk rfl (Gk rfl (aB)))))))))))))))))))))))))) (fun _=>rfl) rfl ?_
       ·intro ρ y W hw hn hb hd;have E27:=hw 27 3 rfl;have h3:y 3=_:=hd 3 rfl;have E29:=hw 29 5 rfl;have h5:y 5=_:=hd 5 rfl
        refine aj (.pointer (some ⟨b,off+m*7,none⟩)) (aN 2 26 true true rfl rfl ((hw 26 2 rfl).trans (hd 2 rfl))) (by simp[execOp,go_sem,E27,h3,E29,h5,hml]) rfl
       ·intro ρ y W hw hn hb hd;have E31:=hw 31 7 rfl;have h7:y 7=_:=hd 7 rfl
        have hc0:=(hPm.below hb).cells.2.1
        refine aj (.int .i64 A0.en) (aN 2 26 true true rfl rfl ((hw 26 2 rfl).trans (hd 2 rfl))) (by simp[execOp,go_sem,E31,h7,hc0]) rfl
       ·intro ρ y W hw hn hb hd;have E33:=hw 33 9 rfl;have h9:y 9=_:=hd 9 rfl
        have hc0:=(hx2.ext hb).cell 0
        simp at hc0
        refine aj (.int .i64 A1.fr) (aN 2 26 true true rfl rfl ((hw 26 2 rfl).trans (hd 2 rfl))) (by simp[execOp,go_sem,E33,h9,hc0]) rfl
       intro y WA hbWA _
       have hbel:=ae hbel2 hbWA
       have hres:=hres2.ext hbWA
       clear hbel2 hres2
       go_wp2_with (refine az rfl _ _ _ rfl w.heap.size #[.int .i64 (2),.int .i64 (((m+1:Nat):Int))] rfl rfl _ _ hres rfl fau_size (jb _ _) ?_)
       intro w5 hr5 hgr5
       have hbel5:Below w.heap.size w w5:=hbel.grown hgr5 hbel.size (fun k hk=>by cases hk;exact Nat.le_refl _)
       go_wp2
       refine bodyPost_ret (v:=.agg #[.int .i64 (2),.int .i64 (((m+1:Nat):Int))]) (dw Tryz.results85 _ _ w.heap.size _ _ _ rfl hr5 Tryz.underlying150 rfl fau_size) rfl ?_
       exact⟨by rw[hz.out];rfl,hbel5⟩
      ·have hs:srtF 0 [A0,A1]:=⟨hE0,(bi hE0).1.2.1.1,he'.out,by omega,trivial⟩
       have hpo:=Ch hs
       have hpl0:=Kc hE0 he'.out (by omega:A0.en≤A1.fr)
       cases hj:bS A0 A1
       ·have hpl:(ig (bF [A0,A1]) 64).length=2:=by rw[hpl0,hj];rfl
        have hnx:Hid (aZ l=fF (kJ l (m+1+1)) (m+1+1) (l.drop (m+1+1))):=Lib.hid (by rw[hst.out];exact nK hlt (by rw[hA1];exact he'.out) (by rw[hA1,hbp.out,decide_eq_false hov,hj];rfl))
        clear hpl0 hs
        refine aG 25 [_,_,_,_,_,_,.v (.pointer (some ⟨b,off+m*7,none⟩)),_,.v (.int .i64 A0.en),_,.v (.int .i64 A1.fr),_,_,_,_,_,_,_,_,.v (.agg (fC (bF [A0,A1]))),.r 20 ((il w.heap.size 99 7 (ig (bF [A0,A1]) 64).length ((ig (bF [A0,A1]) 64).flatMap iE))),.v (.int .i64 (2)),_,_,.v (.bool false)] (Gk rfl (Gb (.bool true) (by simp[go_sem]) rfl rfl rfl rfl rfl (Gk rfl (Gk rfl (Gk rfl (Gb (.int .i64 (m:Int)) (by simp[go_sem,hm1,hm2]) rfl rfl rfl rfl rfl (ag ?_ (Gf b (off+m*7+1) rfl rfl (ag ?_ (Gf gx 0 rfl rfl (ag ?_ (Gb (.bool false) (by simp[go_sem,hov]) rfl rfl rfl rfl rfl (Gk rfl (Gk rfl (Gk rfl (Gb (.int .i64 (m:Int)) (by simp[go_sem,hm1,hm2]) rfl rfl rfl rfl rfl (Gk rfl (Gb (.int .i64 ((m:Int)+2)) (by simp[go_sem,hm3,hm4]) rfl rfl rfl rfl rfl (Gr (.slice (some ⟨b,off+m*7,none⟩) 2 (c-m)) (fun ρ y W hb hKn=>(qA rfl (aA rfl hKn) (aA rfl hKn) (aA rfl hKn) Tryz.underlying50 area_size hlt hlc)) rfl rfl (ag ?_ (ag ?_ (ag ?_ (Gb (.bool false) (by simp[go_sem]) rfl rfl rfl rfl rfl (Gk rfl (Gk rfl (aB)))))))))))))))))))))))))) (fun _=>rfl) rfl ?_
        ·intro ρ y W hw hn hb hd;have E27:=hw 27 3 rfl;have h3:y 3=_:=hd 3 rfl;have E29:=hw 29 5 rfl;have h5:y 5=_:=hd 5 rfl
         refine aj (.pointer (some ⟨b,off+m*7,none⟩)) (aN 2 26 true true rfl rfl ((hw 26 2 rfl).trans (hd 2 rfl))) (by simp[execOp,go_sem,E27,h3,E29,h5,hml]) rfl
        ·intro ρ y W hw hn hb hd;have E31:=hw 31 7 rfl;have h7:y 7=_:=hd 7 rfl
         have hc0:=(hPm.below hb).cells.2.1
         refine aj (.int .i64 A0.en) (aN 2 26 true true rfl rfl ((hw 26 2 rfl).trans (hd 2 rfl))) (by simp[execOp,go_sem,E31,h7,hc0]) rfl
        ·intro ρ y W hw hn hb hd;have E33:=hw 33 9 rfl;have h9:y 9=_:=hd 9 rfl
         have hc0:=(hx2.ext hb).cell 0
         simp at hc0
         refine aj (.int .i64 A1.fr) (aN 2 26 true true rfl rfl ((hw 26 2 rfl).trans (hd 2 rfl))) (by simp[execOp,go_sem,E33,h9,hc0]) rfl
        ·intro ρ y W hw hn hb hd;have E42:=hw 42 18 rfl;have h18:y 18=_:=hd 18 rfl
         have EF:∀f,ρ (.func f) = .func (.func f) #[] #[]:=fun f=>hn (.func f) trivial
         refine aJ _ _ (aN 12 36 false false rfl rfl ((hw 36 12 rfl).trans (hd 12 rfl))) (aK rfl (EF _) Tryz.func49 (by kernel_rfl) (by kernel_rfl) (by simp only[List.map_toArray,List.map_cons,List.map_nil,E42,h18,EF];rfl)) ?_
         refine (kG [A0,A1] _ (c-m) W (hT.below (ae hbel2 hb)) (by simp) hpr).mono ?_
         rintro r w1 ⟨rfl,hb1⟩
         exact⟨_,rfl,hb1,rfl⟩
        ·intro ρ y W hw hn hb hd;have E43:=hw 43 19 rfl;have h19:y 19=_:=hd 19 rfl
         have EF:∀f,ρ (.func f) = .func (.func f) #[] #[]:=fun f=>hn (.func f) trivial
         refine aJ _ _ (aN 12 36 false false rfl rfl ((hw 36 12 rfl).trans (hd 12 rfl))) (aK rfl (EF _) Tryz.func123 (by kernel_rfl) (by kernel_rfl) (by simp only[List.map_toArray,List.map_cons,List.map_nil,E43,h19,EF];rfl)) ?_
         refine (uj (bF [A0,A1]) W hpo).mono ?_
         rintro r w1 ⟨v1,rfl,ho,hb1⟩
         exact⟨v1,rfl,hb1,ho.mono (Nat.le_trans hbel2.size hb.size)⟩
        ·intro ρ y W hw hn hb hd;have E44:=hw 44 20 rfl;have h20:=hd 20 rfl
         obtain⟨a20,c20,h20v,_⟩:=Own.rd h20
         refine aj (.int .i64 (2)) (aN 12 36 false false rfl rfl ((hw 36 12 rfl).trans (hd 12 rfl))) (by simp[execOp,go_sem,E44,h20v,hpl]) rfl
        intro y WA hbWA hRWA
        have hy20:((il w.heap.size 99 7 (ig (bF [A0,A1]) 64).length ((ig (bF [A0,A1]) 64).flatMap iE))).r (y 20) WA:=hRWA 20 (by decide)
        clear hRWA
        have hbel:=ae hbel2 hbWA
        have hres:=hres2.ext hbWA
        clear hbel2 hres2 hm1 hm2 hm3 hm4 hpl
        go_wp2
        go_roundw
        case rel=>exact⟨m+1+1,by omega,by go_num,hbel,hres,hup.out,hnx⟩
        case measure=>simp[intOf];omega
       ·have hpl:(ig (bF [A0,A1]) 64).length=1:=by rw[hpl0,hj];rfl
        have hz:Hid (aZ l=(2,((m+1:Nat):Int))):=Lib.hid (by rw[hst.out];exact nR hlt (by rw[hA1];exact he'.out) (by rw[hA1,hbp.out,hj,Bool.or_true]))
        clear hpl0 hs
        refine aG 25 [_,_,_,_,_,_,.v (.pointer (some ⟨b,off+m*7,none⟩)),_,.v (.int .i64 A0.en),_,.v (.int .i64 A1.fr),_,_,_,_,_,_,_,_,.v (.agg (fC (bF [A0,A1]))),.r 20 ((il w.heap.size 99 7 (ig (bF [A0,A1]) 64).length ((ig (bF [A0,A1]) 64).flatMap iE))),.v (.int .i64 (1)),_,_,.v (.bool true)] (Gk rfl (Gb (.bool true) (by simp[go_sem]) rfl rfl rfl rfl rfl (Gk rfl (Gk rfl (Gk rfl (Gb (.int .i64 (m:Int)) (by simp[go_sem,hm1,hm2]) rfl rfl rfl rfl rfl (ag ?_ (Gf b (off+m*7+1) rfl rfl (ag ?_ (Gf gx 0 rfl rfl (ag ?_ (Gb (.bool false) (by simp[go_sem,hov]) rfl rfl rfl rfl rfl (Gk rfl (Gk rfl (Gk rfl (Gb (.int .i64 (m:Int)) (by simp[go_sem,hm1,hm2]) rfl rfl rfl rfl rfl (Gk rfl (Gb (.int .i64 ((m:Int)+2)) (by simp[go_sem,hm3,hm4]) rfl rfl rfl rfl rfl (Gr (.slice (some ⟨b,off+m*7,none⟩) 2 (c-m)) (fun ρ y W hb hKn=>(qA rfl (aA rfl hKn) (aA rfl hKn) (aA rfl hKn) Tryz.underlying50 area_size hlt hlc)) rfl rfl (ag ?_ (ag ?_ (ag ?_ (Gb (.bool true) (by simp[go_sem]) rfl rfl rfl rfl rfl (Gk rfl (Gk rfl (aB)))))))))))))))))))))))))) (fun _=>rfl) rfl ?_
        ·intro ρ y W hw hn hb hd;have E27:=hw 27 3 rfl;have h3:y 3=_:=hd 3 rfl;have E29:=hw 29 5 rfl;have h5:y 5=_:=hd 5 rfl
         refine aj (.pointer (some ⟨b,off+m*7,none⟩)) (aN 2 26 true true rfl rfl ((hw 26 2 rfl).trans (hd 2 rfl))) (by simp[execOp,go_sem,E27,h3,E29,h5,hml]) rfl
        ·intro ρ y W hw hn hb hd;have E31:=hw 31 7 rfl;have h7:y 7=_:=hd 7 rfl
         have hc0:=(hPm.below hb).cells.2.1
         refine aj (.int .i64 A0.en) (aN 2 26 true true rfl rfl ((hw 26 2 rfl).trans (hd 2 rfl))) (by simp[execOp,go_sem,E31,h7,hc0]) rfl
        ·intro ρ y W hw hn hb hd;have E33:=hw 33 9 rfl;have h9:y 9=_:=hd 9 rfl
         have hc0:=(hx2.ext hb).cell 0
         simp at hc0
         refine aj (.int .i64 A1.fr) (aN 2 26 true true rfl rfl ((hw 26 2 rfl).trans (hd 2 rfl))) (by simp[execOp,go_sem,E33,h9,hc0]) rfl
        ·intro ρ y W hw hn hb hd;have E42:=hw 42 18 rfl;have h18:y 18=_:=hd 18 rfl
         have EF:∀f,ρ (.func f) = .func (.func f) #[] #[]:=fun f=>hn (.func f) trivial
         refine aJ _ _ (aN 12 36 false false rfl rfl ((hw 36 12 rfl).trans (hd 12 rfl))) (aK rfl (EF _) Tryz.func49 (by kernel_rfl) (by kernel_rfl) (by simp only[List.map_toArray,List.map_cons,List.map_nil,E42,h18,EF];rfl)) ?_
         refine (kG [A0,A1] _ (c-m) W (hT.below (ae hbel2 hb)) (by simp) hpr).mono ?_
         rintro r w1 ⟨rfl,hb1⟩
         exact⟨_,rfl,hb1,rfl⟩
        ·intro ρ y W hw hn hb hd;have E43:=hw 43 19 rfl;have h19:y 19=_:=hd 19 rfl
         have EF:∀f,ρ (.func f) = .func (.func f) #[] #[]:=fun f=>hn (.func f) trivial
         refine aJ _ _ (aN 12 36 false false rfl rfl ((hw 36 12 rfl).trans (hd 12 rfl))) (aK rfl (EF _) Tryz.func123 (by kernel_rfl) (by kernel_rfl) (by simp only[List.map_toArray,List.map_cons,List.map_nil,E43,h19,EF];rfl)) ?_
         refine (uj (bF [A0,A1]) W hpo).mono ?_
         rintro r w1 ⟨v1,rfl,ho,hb1⟩
         exact⟨v1,rfl,hb1,ho.mono (Nat.le_trans hbel2.size hb.size)⟩
        ·intro ρ y W hw hn hb hd;have E44:=hw 44 20 rfl;have h20:=hd 20 rfl
         obtain⟨a20,c20,h20v,_⟩:=Own.rd h20
         refine aj (.int .i64 (1)) (aN 12 36 false false rfl rfl ((hw 36 12 rfl).trans (hd 12 rfl))) (by simp[execOp,go_sem,E44,h20v,hpl]) rfl
        intro y WA hbWA hRWA
        have hy20:((il w.heap.size 99 7 (ig (bF [A0,A1]) 64).length ((ig (bF [A0,A1]) 64).flatMap iE))).r (y 20) WA:=hRWA 20 (by decide)
        clear hRWA
        have hbel:=ae hbel2 hbWA
        have hres:=hres2.ext hbWA
        clear hbel2 hres2
        go_wp2_with (refine az rfl _ _ _ rfl w.heap.size #[.int .i64 (2),.int .i64 (((m+1:Nat):Int))] rfl rfl _ _ hres rfl fau_size (jb _ _) ?_)
        intro w5 hr5 hgr5
        have hbel5:Below w.heap.size w w5:=hbel.grown hgr5 hbel.size (fun k hk=>by cases hk;exact Nat.le_refl _)
        go_wp2
        refine bodyPost_ret (v:=.agg #[.int .i64 (2),.int .i64 (((m+1:Nat):Int))]) (dw Tryz.results85 _ _ w.heap.size _ _ _ rfl hr5 Tryz.underlying150 rfl fau_size) rfl ?_
        exact⟨by rw[hz.out];rfl,hbel5⟩
    ·have hz:Hid (aZ l=(aO l[k],(k:Int))):=Lib.hid (by rw[hst.out];exact yV hlt he)
     have he' : (aO l[k] != 0)=true:=by simpa using he
     have hbel:=hbel2
     have hres:=hres2
     clear he hbel2 hres2
     go_wp2_with (refine az rfl _ _ _ rfl w.heap.size #[.int .i64 (aO l[k]),.int .i64 (k)] rfl rfl _ _ hres rfl fau_size (jb _ _) ?_)
     intro w5 hr5 hgr5
     have hbel5:Below w.heap.size w w5:=hbel.grown hgr5 hbel.size (fun k hk=>by cases hk;exact Nat.le_refl _)
     go_wp2
     refine bodyPost_ret (v:=.agg #[.int .i64 (aO l[k]),.int .i64 (k)]) (dw Tryz.results85 _ _ w.heap.size _ _ _ rfl hr5 Tryz.underlying150 rfl fau_size) rfl ?_
     exact⟨by rw[hz.out];rfl,hbel5⟩
   ·have hz:Hid (aZ l=(0,0)):=Lib.hid (by rw[hst.out,List.drop_eq_nil_of_le (by omega)];rfl)
    go_wp2_with (refine az rfl _ _ _ rfl w.heap.size #[.int .i64 (0),.int .i64 (0)] rfl rfl _ _ hres rfl fau_size (jb _ _) ?_)
    intro w5 hr5 hgr5
    have hbel5:Below w.heap.size w w5:=hbel.grown hgr5 hbel.size (fun k hk=>by cases hk;exact Nat.le_refl _)
    go_wp2
    refine bodyPost_ret (v:=.agg #[.int .i64 (0),.int .i64 (0)]) (dw Tryz.results85 _ _ w.heap.size _ _ _ rfl hr5 Tryz.underlying150 rfl fau_size) rfl ?_
    exact⟨by rw[hz.out];rfl,hbel5⟩
structure uY (X:Nat→Int→Prop) (m m' : Ma):Prop where
 sk:gI m m'
 files:m'.st.fs.length=m.st.fs.length
 size:∀f,(aV m'.st f).n=(aV m.st f).n
 lenb:∀f,(aV m'.st f).b.length=(aV m.st f).b.length
 see:∀p n,¬X p n→fJ m' p n=fJ m p n
 con:∀f i,BV m.st f i→aY m' f i=aY m f i
theorem uY.trans {X:Nat→Int→Prop} {a b c:Ma} (h:uY X a b) (k:uY X b c):uY X a c:=
 ⟨h.sk.trans k.sk,k.files.trans h.files,fun f=>(k.size f).trans (h.size f),fun f=>(k.lenb f).trans (h.lenb f),fun p n hx=>(k.see p n hx).trans (h.see p n hx),fun f i hi=>(k.con f i (hi.same h.files h.lenb)).trans (h.con f i hi)⟩
theorem uY.refl (X:Nat→Int→Prop) (m:Ma):uY X m m:=⟨.refl m,rfl,fun _=>rfl,fun _=>rfl,fun _ _ _=>rfl,fun _ _ _=>rfl⟩
theorem uY.mono {X Y:Nat→Int→Prop} {m m' : Ma} (h:uY X m m') (hx:∀p n,X p n→Y p n):uY Y m m':=⟨h.sk,h.files,h.size,h.lenb,fun p n hn=>h.see p n fun h'=>hn (hx p n h'),h.con⟩
theorem Ey {X:Nat→Int→Prop} {m m' : Ma} (sk:gI m m') (hf:rH m.st m'.st) (hc:∀f i,BV m.st f i→aY m' f i=aY m f i)
  (hs:∀p n g,¬X p n→iV m p n=some g→CL m' g (ent m' p n)=CL m g (ent m p n)):uY X m m':=by
 refine⟨sk,hf.len,hf.size,hf.lenb,fun p n hx => ?_,hc⟩
 have hp:iV m' p n=iV m p n:=by unfold iV;rw[sk.ar]
 cases hg:iV m p n with
 | none=>rw[pM hg,pM (hp.trans hg)]
 | some g=>rw[pz hg,pz (hp.trans hg)];exact hs p n g hx hg
def Ol (p:Nat) (n:Int) (q:Nat) (j:Int):Prop:=q=p∧j=n
structure Less (m m' : Ma) (p:Nat) (n:Int):Prop where
 rt:Rt m'
 co:Co m'
 vis:uY (Ol p n) m m'
 st:m'.st=m.st
 dk:m'.dk=m.dk
 sw:m'.sw=m.sw
 ca:m'.ca=m.ca
 len:m'.m.fs.length=m.m.fs.length
 sll:m'.sl.length=m.sl.length
 ents:∀q j,ent m' q j=if q=p∧j=n then zEn else ent m q j
 fr:∀g,(bB m' g).r≠0→(bB m' g).p=(bB m g).p∧(bB m' g).u=(bB m g).u∧(bB m' g).d=(bB m g).d∧(bB m' g).f=(bB m g).f∧(bB m' g).i=(bB m g).i
theorem Lv (x:Fr) (n:Int):(iU x n).r=x.r+n:=by
 unfold iU
 by_cases h:x.r+n=0
 ·rw[if_pos h,h];rfl
 ·rw[if_neg h]
theorem Dv {x:Fr} {n:Int} (h:x.r+n≠0):iU x n = { x with r:=x.r+n }:=by unfold iU;rw[if_neg h]
theorem Dw {m:Ma} (h:Rt m) (hc:Co m) {p:Nat} {n:Int} {f:Nat} (hk:(ent m p n).k=1) (hn:(ent m p n).n=f):Less m (aW (setFr m f (iU (bB m f) (-1))) p n zEn) p n:=by
 obtain⟨f',e1,hf,hr,hp,hnn,g0,hg0,hfit0⟩:=iG h hk
 have:f' = f:=by omega
 subst this
 have hfew:=h.fewR hf
 have hXE:dD (iU (bB m f') (-1))=0:=BM (h.pt.frE hf) hr (by omega) (by omega)
 have hXr:=Lv (bB m f') (-1)
 have hlike:(bB m f').r≠1→iU (bB m f') (-1) = { bB m f' with r:=(bB m f').r + -1 }:=fun h1=>Dv (by omega)
 generalize hX:iU (bB m f') (-1)=X at *
 have hpt1:Pt (setFr m f' X):=h.pt.setFr hXE
 obtain⟨hs0,_,hpt⟩:=gH (k:=⟨setFr m f' X,0⟩) (p:=p) (n:=n) (x:=zEn) hpt1 hnn (by decide)
 have hp1:p<(setFr m f' X).sp.length:=hp
 have hent:∀q j,ent (aW (setFr m f' X) p n zEn) q j=if q=p∧j=n then zEn else ent m q j:=fun q j=>jH hp1 hs0 q j
 have hfr:∀y,bB (aW (setFr m f' X) p n zEn) y=if y=f' then X else bB m y:=fun y=>vC hf y
 have hlen:(aW (setFr m f' X) p n zEn).m.fs.length=m.m.fs.length:=mZ
 have hcnt:∀kd i,kd≠0→bX (aW (setFr m f' X) p n zEn) kd i+qY (kF kd i (ent m p n))=bX m kd i:=fun kd i hkd=>by
  have h1:=mY hp1 hs0 kd i
  have h2:qY (kF kd i zEn)=0:=nY rfl hkd
  have h3:bX (setFr m f' X) kd i=bX m kd i:=rfl
  have h4:ent (setFr m f' X) p n=ent m p n:=rfl
  rw[h4] at h1
  unfold aW
  omega
 have hsk0:gI m (setFr m f' X):=gI.of rfl
 have hsk:gI m (aW (setFr m f' X) p n zEn):=hsk0.trans (gI.setTb (m:=setFr m f' X) (p:=p) (t:=setT (bP (setFr m f' X) p).tb n zEn))
 have hone:∀c∈m.ca,c.k.toNat=f'→(bB m f').r≠1:=fun c hcm e hr1=>by
  have h1:=h.cf f' hf
  have h2:=h.ca.one hcm
  have h3:=h.ca.lt c hcm
  have h4:=vF (f:=f') h hk (by omega)
  have:c.k=(f' : Int):=by omega
  rw[this] at h2
  omega
 have hcaF:∀c∈m.ca,(bB (aW (setFr m f' X) p n zEn) c.k.toNat).p=(bB m c.k.toNat).p∧(bB (aW (setFr m f' X) p n zEn) c.k.toNat).d=(bB m c.k.toNat).d∧(bB (aW (setFr m f' X) p n zEn) c.k.toNat).f=(bB m c.k.toNat).f∧(bB (aW (setFr m f' X) p n zEn) c.k.toNat).i=(bB m c.k.toNat).i∧1≤(bB (aW (setFr m f' X) p n zEn) c.k.toNat).r:=fun c hcm=>by
  have h1:=h.ca.fr c hcm
  rw[hfr]
  by_cases e:c.k.toNat=f'
  ·rw[if_pos e]
   have h2:=hone c hcm e
   rw[e] at h1 ⊢
   rw[hlike h2]
   exact⟨rfl,rfl,rfl,rfl,by show 1≤(bB m f').r + -1;omega⟩
  ·rw[if_neg e];exact⟨rfl,rfl,rfl,rfl,h1.1⟩
 have hoth:∀q j,¬(q=p∧j=n)→(ent m q j).k=1→(ent m q j).n.toNat=f'→(bB m f').r≠1:=fun q j hne hk1 hk2 hr1=>by
  obtain⟨f2,b1,b2,b3,b4,b5,g2,b6,b7⟩:=iG h hk1
  have hf2:f2=f':=by omega
  subst hf2
  have h2:=AO h.pt (kd:=1) (i:=f2) (by decide) ⟨hk,hn⟩ ⟨hk1,b1⟩ hne
  have h3:=h.cf f2 hf
  omega
 have hcaok:rT (aW (setFr m f' X) p n zEn):=by
  refine⟨h.ca.file,fun c hcm => ?_,fun c hcm => ?_,h.ca.srt⟩
  ·rw[hlen];exact h.ca.lt c hcm
  ·have h1:=h.ca.fr c hcm
   obtain⟨a1,a2,a3,a4,a5⟩:=hcaF c hcm
   exact⟨a5,a3.trans h1.2.1,a4.trans h1.2.2⟩
 have hdisk:∀a b,jE (aW (setFr m f' X) p n zEn) a b=jE m a b:=fun _ _=>rfl
 have hcon:∀a b,aY (aW (setFr m f' X) p n zEn) a b=aY m a b:=by
  intro a b
  rcases DD m a b with ⟨c,hl,hcm,hcf,hci⟩|⟨hl,hno⟩
  ·subst hcf;subst hci
   rw[xg h.ca hcm,xg (m:=aW (setFr m f' X) p n zEn) hcaok hcm,(hcaF c hcm).1]
  ·rw[uE hno,uE (m:=aW (setFr m f' X) p n zEn) hno,hdisk]
 refine⟨⟨hpt,h.trim,fun q hq => ?_,hcaok,fun q j hk' => ?_,fun i hi => ?_,fun i hi hi0 => ?_,fun s hs => ?_⟩,⟨fun c hcm => ?_,fun c hcm hd => ?_,fun i hi hd => ?_⟩,?_,rfl,rfl,rfl,rfl,hlen,rfl,hent,fun y hy => ?_⟩
 ·rw[hsk.lv] at hq
  obtain⟨a1,a2⟩:=h.live q hq
  refine⟨by rw[hsk.ar];exact a1,fun j => ?_⟩
  rw[hent]
  split
  ·rfl
  ·exact a2 j
 ·have hpg:iV (aW (setFr m f' X) p n zEn) q j=iV m q j:=by unfold iV;rw[hsk.ar]
  rw[hpg]
  rw[hent] at hk' ⊢
  by_cases e:q=p∧j=n
  ·rw[if_pos e] at hk'; exact absurd rfl hk'
  ·rw[if_neg e] at hk' ⊢
   obtain⟨y,hy,hyf⟩:=h.en q j hk'
   refine⟨y,hy,hyf.sw,by rw[hlen];exact hyf.lt,fun hk1 => ?_⟩
   rw[hfr]
   by_cases e2:(ent m q j).n.toNat=f'
   ·rw[if_pos e2]
    have h1:=hyf.fr hk1
    rw[e2] at h1
    rw[hlike (hoth q j e hk1 e2)]
    obtain⟨f1,f2,f3,f4,f5⟩:=h1
    refine⟨f1,f2,f3,f4,fun hw1 hx0 => ?_⟩
    have:=f5 hw1 hx0
    show (bB m f').r + -1≤1
    omega
   ·rw[if_neg e2];exact hyf.fr hk1
 ·have a1:sW (aW (setFr m f' X) p n zEn) i=sW m i:=rfl
  have h1:=hcnt 1 i (by decide)
  rw[lK] at h1
  rw[hfr,a1]
  have h3:=h.cf i (by rw[←hlen];exact hi)
  by_cases e:i=f'
  ·subst e
   rw[if_pos ⟨hk,hn⟩] at h1
   rw[if_pos rfl,hXr];omega
  ·rw[if_neg (fun h'=>e (by omega))] at h1
   rw[if_neg e];omega
 ·rw[hfr] at hi0
  by_cases e:i=f'
  ·subst e
   rw[if_pos rfl] at hi0
   by_cases hr1:(bB m i).r=1
   ·have hx0:X.r=0:=by omega
    have:=((iy _).1 hXE).2.1 hx0
    omega
   ·rw[hlike hr1] at hi0
    exact h.fc i hf hi0
  ·rw[if_neg e] at hi0
   exact h.fc i (by rw[←hlen];exact hi) hi0
 ·have h1:=hcnt 2 s (by decide)
  rw[lK,if_neg (fun h'=>by omega)] at h1
  have:=h.cs s hs
  show fK m s=_
  omega
 ·obtain⟨a1,a2,a3,a4,a5⟩:=hcaF c hcm
  rw[a1];exact hc.tail c hcm
 ·obtain⟨a1,a2,a3,a4,a5⟩:=hcaF c hcm
  rw[a2] at hd
  rw[a1,hdisk];exact hc.clean c hcm hd
 ·rw[hfr] at hd ⊢
  by_cases e:i=f'
  ·subst e
   rw[if_pos rfl] at hd ⊢
   by_cases hr1:(bB m i).r=1
   ·have hx0:X.r=0:=by omega
    have:=(((iy _).1 hXE).2.1 hx0).2.1
    rw[this] at hd;cases hd
   ·rw[hlike hr1] at hd ⊢
    exact hc.anon i hf hd
  ·rw[if_neg e] at hd ⊢; exact hc.anon i (by rw[←hlen];exact hi) hd
 ·refine Ey hsk (rH.refl _) (fun a b _=>hcon a b) fun q j y hx hy => ?_
  rw[hent,if_neg (show ¬(q=p∧j=n) from hx)]
  refine Bc h.pt.st (h.pt.pg hy).1 (rH.refl _) (fun a b _=>hcon a b) (fun hk1 => ?_) (fun _=>⟨rfl,rfl⟩)
  show (bB (aW (setFr m f' X) p n zEn) (ent m q j).n.toNat).p=(bB m (ent m q j).n.toNat).p∧(bB (aW (setFr m f' X) p n zEn) (ent m q j).n.toNat).f=(bB m (ent m q j).n.toNat).f
  rw[hfr]
  by_cases e2:(ent m q j).n.toNat=f'
  ·rw[if_pos e2,e2,hlike (hoth q j hx hk1 e2)]
   exact⟨rfl,rfl⟩
  ·rw[if_neg e2];exact⟨rfl,rfl⟩
 ·rw[hfr] at hy ⊢
  by_cases e:y=f'
  ·rw[if_pos e] at hy ⊢
   rw[e,hlike (by omega)]
   exact⟨rfl,rfl,rfl,rfl,rfl⟩
  ·rw[if_neg e];exact⟨rfl,rfl,rfl,rfl,rfl⟩
theorem FK {m:Ma} (h:Rt m) (hc:Co m) {p:Nat} {n:Int} {s:Nat} (hk:(ent m p n).k=2) (hn:(ent m p n).n=s):Less m (aW (setSl m s (fK m s + -1)) p n zEn) p n:=by
 have hin:=kW (m:=m) (p:=p) (n:=n) (by rw[hk];decide)
 obtain⟨g0,hg0,hfit0⟩:=h.en p n (by rw[hk];decide)
 have hs:s<m.sl.length:=by have:=hfit0.sw hk;omega
 have hfew:=h.fewS hs
 have hpos:0<bX m 2 s:=(kQ (by decide)).2 ⟨p,n,hin.1,hin.2,hk,hn⟩
 have hcs:=h.cs s hs
 have hpt1:Pt (setSl m s (fK m s + -1)):=h.pt.setSl (by omega) (by omega)
 obtain⟨hs0,_,hpt⟩:=gH (k:=⟨setSl m s (fK m s + -1),0⟩) (p:=p) (n:=n) (x:=zEn) hpt1 hin.2 (by decide)
 have hp1:p<(setSl m s (fK m s + -1)).sp.length:=hin.1
 have hent:∀q j,ent (aW (setSl m s (fK m s + -1)) p n zEn) q j=if q=p∧j=n then zEn else ent m q j:=fun q j=>jH hp1 hs0 q j
 have hcnt:∀kd i,kd≠0→bX (aW (setSl m s (fK m s + -1)) p n zEn) kd i+qY (kF kd i (ent m p n))=bX m kd i:=fun kd i hkd=>by
  have h1:=mY hp1 hs0 kd i
  have h2:qY (kF kd i zEn)=0:=nY rfl hkd
  have h3:bX (setSl m s (fK m s + -1)) kd i=bX m kd i:=rfl
  have h4:ent (setSl m s (fK m s + -1)) p n=ent m p n:=rfl
  rw[h4] at h1
  unfold aW
  omega
 have hsk0:gI m (setSl m s (fK m s + -1)):=gI.of rfl
 have hsk:gI m (aW (setSl m s (fK m s + -1)) p n zEn):=hsk0.trans (gI.setTb (m:=setSl m s (fK m s + -1)) (p:=p) (t:=setT (bP (setSl m s (fK m s + -1)) p).tb n zEn))
 have hsll:(aW (setSl m s (fK m s + -1)) p n zEn).sl.length=m.sl.length:=List.length_set
 refine⟨⟨hpt,h.trim,fun q hq => ?_,⟨h.ca.file,h.ca.lt,h.ca.fr,h.ca.srt⟩,fun q j hk' => ?_,fun i hi => ?_,h.fc,fun i hi => ?_⟩,⟨hc.tail,hc.clean,hc.anon⟩,?_,rfl,rfl,rfl,rfl,rfl,hsll,hent,fun y hy=>⟨rfl,rfl,rfl,rfl,rfl⟩⟩
 ·rw[hsk.lv] at hq
  obtain⟨a1,a2⟩:=h.live q hq
  refine⟨by rw[hsk.ar];exact a1,fun j => ?_⟩
  rw[hent]
  split
  ·rfl
  ·exact a2 j
 ·have hpg:iV (aW (setSl m s (fK m s + -1)) p n zEn) q j=iV m q j:=by unfold iV;rw[hsk.ar]
  rw[hpg]
  rw[hent] at hk' ⊢
  by_cases e:q=p∧j=n
  ·rw[if_pos e] at hk'; exact absurd rfl hk'
  ·rw[if_neg e] at hk' ⊢
   obtain⟨y,hy,hyf⟩:=h.en q j hk'
   exact⟨y,hy,by rw[hsll];exact hyf.sw,hyf.lt,hyf.fr⟩
 ·have h1:=hcnt 1 i (by decide)
  rw[lK,if_neg (fun h'=>by omega)] at h1
  have h2:=h.cf i hi
  have a1:sW (aW (setSl m s (fK m s + -1)) p n zEn) i=sW m i:=rfl
  have a2:bB (aW (setSl m s (fK m s + -1)) p n zEn) i=bB m i:=rfl
  rw[a1,a2];omega
 ·rw[hsll] at hi
  have h1:=hcnt 2 i (by decide)
  rw[lK] at h1
  have h2:=h.cs i hi
  have a2:fK (aW (setSl m s (fK m s + -1)) p n zEn) i=fK (setSl m s (fK m s + -1)) i:=rfl
  rw[a2,zw hs]
  by_cases e:i=s
  ·subst e
   rw[if_pos ⟨hk,hn⟩] at h1
   rw[if_pos rfl];omega
  ·rw[if_neg (fun h'=>e (by omega))] at h1
   rw[if_neg e];omega
 ·refine Ey hsk (rH.refl _) (fun a b _=>rfl) fun q j y hx hy => ?_
  rw[hent,if_neg (show ¬(q=p∧j=n) from hx)]
  exact Bc h.pt.st (h.pt.pg hy).1 (rH.refl _) (fun a b _=>rfl) (fun _=>⟨rfl,rfl⟩) (fun _=>⟨rfl,rfl⟩)
theorem Ls {k:Kp} (h:Rt k.m) (hc:Co k.m) (p:Nat) (n:Int):((ent k.m p n).k=0∧jR k p n=k)∨∃m',jR k p n=⟨m',k.e⟩∧Less k.m m' p n:=by
 have h2:=(bH _).1 (kY h.pt p n)
 have hg:cB (bP k.m p).tb n=ent k.m p n:=rfl
 rcases h2 with h2|h2|h2
 ·refine .inl ⟨h2.1,?_⟩
  unfold jR
  rw[hg,if_neg (by omega),if_neg (by omega)]
 ·right
  obtain⟨f,e1,hf,hr,hp,hnn,g0,hg0,hfit0⟩:=iG h h2.1
  have hfew:=h.fewR hf
  obtain⟨a1,a2⟩:=AA (k:=k) (f:=f) (n:=-1) h.pt hf hr (by omega) (by omega)
  obtain⟨s0,b1,b2⟩:=gH (k:=⟨setFr k.m f (iU (bB k.m f) (-1)),k.e⟩) (p:=p) (n:=n) (x:=zEn) a2 hnn (by decide)
  refine⟨_,?_,Dw h hc h2.1 e1⟩
  unfold jR
  simp only
  rw[hg,if_pos h2.1,e1,a1,b1]
  rfl
 ·right
  have hin:=kW (m:=k.m) (p:=p) (n:=n) (by omega)
  obtain⟨g0,hg0,hfit0⟩:=h.en p n (by omega)
  have hs:(ent k.m p n).n.toNat<k.m.sl.length:=by have:=hfit0.sw h2.1;omega
  have hfew:=h.fewS hs
  have hpos:0<bX k.m 2 ((ent k.m p n).n.toNat:Nat):=(kQ (by decide)).2 ⟨p,n,hin.1,hin.2,h2.1,by omega⟩
  have hcs:=h.cs _ hs
  obtain⟨a1,a2⟩:=FD (k:=k) (s:=(ent k.m p n).n.toNat) (n:=-1) h.pt hs (by omega) (by omega) (by omega)
  obtain⟨s0,b1,b2⟩:=gH (k:=⟨setSl k.m (ent k.m p n).n.toNat (fK k.m (ent k.m p n).n.toNat + -1),k.e⟩) (p:=p) (n:=n) (x:=zEn) a2 hin.2 (by decide)
  refine⟨_,?_,FK h hc h2.1 (s:=(ent k.m p n).n.toNat) (by omega)⟩
  unfold jR
  simp only
  rw[hg,if_neg (by omega),if_pos h2.1]
  rw[show (ent k.m p n).n=(((ent k.m p n).n.toNat:Nat):Int) by omega,a1,b1]
  rfl
def iW (m:Ma) (q:Nat) (s:Sp):Ma:={ m with sp:=m.sp.set q s }
theorem jl {m:Ma} {q:Nat} {s:Sp} (hq:q<m.sp.length) (p:Nat):bP (iW m q s) p=if p=q then s else bP m p:=by
 unfold bP iW
 simp only
 rw[List.getD_eq_getElem?_getD,List.getElem?_set]
 by_cases e:p=q
 ·subst e;rw[if_pos rfl,if_pos hq,if_pos rfl];rfl
 ·rw[if_neg (fun h=>e h.symm),if_neg e,List.getD_eq_getElem?_getD]
theorem ze {t:Tb} {kd i:Int} (hk:kd≠0) (h:∀n,(cB t n).k=0):(bG t).countP (kF kd i)=0:=by
 rw[List.countP_eq_zero]
 intro e he
 unfold bG at he
 obtain⟨j,_,rfl⟩:=List.mem_map.1 he
 unfold kF
 simp only[Bool.and_eq_true,decide_eq_true_eq]
 rintro⟨h1,_⟩
 have:=h j
 omega
theorem yL {m:Ma} (h:Rt m) (hc:Co m) {q:Nat} {s:Sp} (hq:q<m.sp.length) (h0:∀n,(ent m q n).k=0) (ha:(aZ s.ar).1=0) (hv:s.lv=false→s.ar=[]) (ht:s.tb=zTb):Rt (iW m q s)∧Co (iW m q s):=by
 have hent:∀p j,(ent (iW m q s) p j).k≠0→p≠q:=fun p j hk e=>by
  unfold ent at hk
  rw[jl hq,if_pos e,ht,kD] at hk
  exact hk rfl
 have hent2:∀p j,p≠q→ent (iW m q s) p j=ent m p j:=fun p j e=>by unfold ent;rw[jl hq,if_neg e]
 have hcnt:∀kd i,kd≠0→bX (iW m q s) kd i=bX m kd i:=fun kd i hk=>by
  unfold bX iW
  simp only
  have e1:=sum_set (m.sp.map fun s=>(bG s.tb).countP (kF kd i)) q (by simpa using hq) ((bG s.tb).countP (kF kd i))
  have e2:(bG s.tb).countP (kF kd i)=0:=ze hk fun n=>by rw[ht,kD];rfl
  have e3:(bG (bP m q).tb).countP (kF kd i)=0:=ze hk fun n=>h0 n
  rw[List.getElem_map] at e1
  have e4:m.sp[q]=bP m q:=by have:=tQ hq;rw[List.getElem?_eq_getElem hq] at this;exact Option.some.inj this
  rw[e4,e3,e2] at e1
  rw[List.map_set,e2]
  omega
 refine⟨⟨{ h.pt with spl:=by show (m.sp.set q s).length≤4;rw[List.length_set];exact h.pt.spl,ar:=fun y hy => ?_,tb:=fun y hy => ?_ },h.trim,fun p hp => ?_,⟨h.ca.file,h.ca.lt,h.ca.fr,h.ca.srt⟩,fun p j hk => ?_,fun i hi=>by rw[hcnt 1 i (by decide)];exact h.cf i hi,h.fc,fun i hi=>by rw[hcnt 2 i (by decide)];exact h.cs i hi⟩,⟨hc.tail,hc.clean,hc.anon⟩⟩
 ·rcases List.mem_or_eq_of_mem_set hy with hy|rfl
  ·exact h.pt.ar y hy
  ·exact ha
 ·rcases List.mem_or_eq_of_mem_set hy with hy|rfl
  ·exact h.pt.tb y hy
  ·rw[ht];decide
 ·by_cases e:p=q
  ·rw[jl hq,if_pos e] at hp ⊢
   refine⟨hv hp,fun n => ?_⟩
   unfold ent
   rw[jl hq,if_pos e,ht,kD];rfl
  ·rw[jl hq,if_neg e] at hp ⊢
   exact⟨(h.live p hp).1,fun n=>by rw[hent2 p n e];exact (h.live p hp).2 n⟩
 ·have e:=hent p j hk
  rw[hent2 p j e] at hk ⊢
  obtain⟨y,hy,hyf⟩:=h.en p j hk
  refine⟨y,?_,hyf.sw,hyf.lt,hyf.fr⟩
  unfold iV at hy ⊢
  rw[jl hq,if_neg e];exact hy
def Nv (l:List Ar) (n:Int):Bool:=(l.getD (fw l n).toNat zAr).sh
def gM (k:Kp) (p q:Nat) (n:Int):Kp:=
 let e:=ent k.m p n
 if e.k=2 then
  if bM k.m.sl e.n 1≠0 then ⟨k.m,bM k.m.sl e.n 1⟩ else fB ⟨{ k.m with sl:=bA k.m.sl e.n 1 },k.e⟩ q n e
 else
  let k1:=eZ k e.n 1
  if Nv (bP k.m p).ar n=true then fB k1 q n e else fB (fB k1 p n ⟨e.k,e.n,false⟩) q n ⟨e.k,e.n,false⟩
def dV (m:Ma) (p q:Nat):Ma:=if q=m.sp.length then { m with sp:=m.sp++[⟨true,(bP m p).ar,zTb⟩] } else iW m q ⟨true,(bP m p).ar,zTb⟩
def ja (k:Kp) (p q:Nat) (l:List Int):Kp:=l.foldl (fun k n=>gM k p q n) k
def Ko (m:Ma) (p q:Nat):Kp:=ja ⟨dV m p q,0⟩ p q (aI (bP m p).tb)
def Ca (m:Ma):Int:=idx (fun s:Sp => !s.lv) m.sp
def JD (a n i:Int):Bool:=decide (a≤i)&&decide (i-a<n)
def fV (k:Kp) (p:Nat) (a n:Int) (l:List Int):Kp:=l.foldl (fun k i=>if JD a n i=true then jR k p i else k) k
def wD (k:Kp) (p:Nat) (a n:Int):Kp:=fV k p a n (aI (bP k.m p).tb)
def Et (m:Ma) (p:Nat):Kp:=let k:=wD ⟨m,0⟩ p 0 64;⟨iW k.m p zSp,k.e⟩
theorem IM {m:Ma} {p:Nat} {n:Int} {g:Pg} (hg:iV m p n=some g):Nv (bP m p).ar n=g.sh∧0≤fw (bP m p).ar n:=by
 have h1:0≤fw (bP m p).ar n:=(ve _ _).2 (by unfold iV at hg;rw[hg];simp)
 have h2:=(zZ h1).1
 unfold iV at hg
 rw[hg] at h2
 have h3:=Option.some.inj h2
 refine⟨?_,h1⟩
 unfold Nv
 rw[h3];rfl
def oV (x y:Fr):Prop:=y.p=x.p∧y.u=x.u∧y.d=x.d∧y.f=x.f∧y.i=x.i∧(y.r=0↔x.r=0)
theorem oV.refl (x:Fr):oV x x:=⟨rfl,rfl,rfl,rfl,rfl,Iff.rfl⟩
theorem oV.trans {x y z:Fr} (h:oV x y) (k:oV y z):oV x z:=⟨k.1.trans h.1,k.2.1.trans h.2.1,k.2.2.1.trans h.2.2.1,k.2.2.2.1.trans h.2.2.2.1,k.2.2.2.2.1.trans h.2.2.2.2.1,k.2.2.2.2.2.trans h.2.2.2.2.2⟩
theorem oV.up {x:Fr} (h:x.r≠0) (h0:0≤x.r):oV x (dK x):=⟨rfl,rfl,rfl,rfl,rfl,⟨fun (e:x.r+1=0)=>by omega,fun e=>absurd e h⟩⟩
def alike (a b:En):Prop:=b.k=a.k∧b.n=a.n
structure Shared (m m' : Ma) (p q:Nat) (D:List Int):Prop where
 rt:Rt m'
 co:Co m'
 sk:gI m m'
 st:m'.st=m.st
 dk:m'.dk=m.dk
 sw:m'.sw=m.sw
 ca:m'.ca=m.ca
 len:m'.m.fs.length=m.m.fs.length
 sll:m'.sl.length=m.sl.length
 fr:∀g,oV (bB m g) (bB m' g)
 sl:∀s,fK m' s=0↔fK m s=0
 oth:∀a j,a≠q→alike (ent m a j) (ent m' a j)
 chd:∀j,j∈D→alike (ent m p j) (ent m' q j)
 chn:∀j,¬j∈D→ent m' q j=ent m q j
theorem Dj {k:Kp} (h:Rt k.m) (hc:Co k.m) {p q:Nat} (hpq:p≠q) (hq:q<k.m.sp.length) (har:(bP k.m q).ar=(bP k.m p).ar) {n:Int} (hk:(ent k.m p n).k≠0) (h0:(ent k.m q n).k=0) :
  ∃m',gM k p q n=⟨m',k.e⟩∧Shared k.m m' p q [n]:=by
 obtain⟨g,hg,hfit⟩:=h.en p n hk
 have hgq:iV k.m q n=some g:=by unfold iV at hg ⊢; rw[har];exact hg
 have hE:=(bH _).1 (kY h.pt p n)
 have hin:=kW hk
 obtain⟨hsh,hfi⟩:=IM hg
 by_cases k2:(ent k.m p n).k=2
 ·have hs:(ent k.m p n).n.toNat<k.m.sl.length:=by have:=hfit.sw k2;omega
  have hfew:=h.fewS hs
  have hpos:0<bX k.m 2 ((ent k.m p n).n.toNat:Nat):=(kQ (by decide)).2 ⟨p,n,hin.1,hin.2,k2,by omega⟩
  have hcs:=h.cs _ hs
  have hn:(ent k.m p n).n=(((ent k.m p n).n.toNat:Nat):Int):=by omega
  have h00:bM k.m.sl (((ent k.m p n).n.toNat:Nat):Int) 1=0:=by
   have e1:xU k.m.sl (((ent k.m p n).n.toNat:Nat):Int)=fK k.m (ent k.m p n).n.toNat:=rfl
   unfold bM
   rw[if_neg (by rw[h.pt.sl];simp),if_neg (by rw[e1];omega),if_neg (by rw[e1];omega)]
  obtain⟨a1,a2⟩:=xO h hc k2 hn hq h0 hg hgq
  have hpt1:Pt (setSl k.m (ent k.m p n).n.toNat (fK k.m (ent k.m p n).n.toNat+1)):=h.pt.setSl (by omega) (by omega)
  obtain⟨s0,b1,b2⟩:=gH (k:=⟨setSl k.m (ent k.m p n).n.toNat (fK k.m (ent k.m p n).n.toNat+1),k.e⟩) (p:=q) (n:=n) (x:=ent k.m p n) hpt1 hin.2 (kY h.pt p n)
  have hent:=fun a j=>jH (m:=setSl k.m (ent k.m p n).n.toNat (fK k.m (ent k.m p n).n.toNat+1)) (p:=q) hq s0 a j
  refine⟨_,?_,a1,a2,?_,rfl,rfl,rfl,rfl,rfl,List.length_set,fun _ => .refl _,fun s => ?_,fun a j ha => ?_,fun j hj => ?_,fun j hj => ?_⟩
  ·unfold gM
   simp only
   rw[if_pos k2,if_neg (by rw[hn];rw[h00];simp)]
   have:bA k.m.sl (ent k.m p n).n 1=(setSl k.m (ent k.m p n).n.toNat (fK k.m (ent k.m p n).n.toNat+1)).sl:=by
    unfold bA
    rw[if_pos (by rw[hn];exact h00)]
    rfl
   rw[this]
   exact b1
  ·have hsk0:gI k.m (setSl k.m (ent k.m p n).n.toNat (fK k.m (ent k.m p n).n.toNat+1)):=gI.of rfl
   exact hsk0.trans gI.setTb
  ·have e1:fK (aW (setSl k.m (ent k.m p n).n.toNat (fK k.m (ent k.m p n).n.toNat+1)) q n (ent k.m p n)) s=fK (setSl k.m (ent k.m p n).n.toNat (fK k.m (ent k.m p n).n.toNat+1)) s:=rfl
   rw[e1,zw hs]
   by_cases e:s=(ent k.m p n).n.toNat
   ·subst e;rw[if_pos rfl];omega
   ·rw[if_neg e]
  ·have:ent (aW (setSl k.m (ent k.m p n).n.toNat (fK k.m (ent k.m p n).n.toNat+1)) q n (ent k.m p n)) a j=ent k.m a j:=by
    have:=hent a j
    rw[if_neg (fun h'=>ha h'.1)] at this
    exact this
   rw[this];exact⟨rfl,rfl⟩
  ·have hj':=List.mem_singleton.1 hj
   subst hj'
   have:=hent q j
   rw[if_pos ⟨rfl,rfl⟩] at this
   exact⟨congrArg En.k this,congrArg En.n this⟩
  ·have:=hent q j
   rw[if_neg (fun h'=>hj (List.mem_singleton.2 h'.2))] at this
   exact this
 ·have k1:(ent k.m p n).k=1:=by omega
  obtain⟨f,e1,hf,hr,hp,hnn,g0,hg0,hfit0⟩:=iG h k1
  rw[hg] at hg0
  cases hg0
  have hfew:=h.fewR hf
  obtain⟨a1,a2⟩:=AA (k:=k) (f:=f) (n:=1) h.pt hf hr (by omega) (by omega)
  have hup:iU (bB k.m f) 1=dK (bB k.m f):=by unfold iU;rw[if_neg (by omega)];rfl
  rw[hup] at a1 a2
  have hfrs:∀y,oV (bB k.m y) (bB (setFr k.m f (dK (bB k.m f))) y):=fun y=>by
   rw[vC hf]
   by_cases e:y=f
   ·subst e;rw[if_pos rfl];exact .up hr hfew.1
   ·rw[if_neg e];exact .refl _
  have hsk0:gI k.m (setFr k.m f (dK (bB k.m f))):=gI.of rfl
  have hk' : (1:Int)=(ent k.m p n).k:=k1.symm
  by_cases hs:g.sh=true
  ·obtain⟨s0,b1,b2⟩:=gH (k:=⟨setFr k.m f (dK (bB k.m f)),k.e⟩) (p:=q) (n:=n) (x:=ent k.m p n) a2 hnn (kY h.pt p n)
   have hent:=fun a j=>jH (m:=setFr k.m f (dK (bB k.m f))) (p:=q) hq s0 a j
   obtain⟨c1,c2⟩:=qN h hc k1 e1 hq h0 hg hgq (fun _=>hs) (fun hx=>by
    have:=hfit0.2.1 hs;omega)
   refine⟨_,?_,c1,c2,hsk0.trans gI.setTb,rfl,rfl,rfl,rfl,mZ,rfl,hfrs,fun _=>Iff.rfl,fun a j ha => ?_,fun j hj => ?_,fun j hj => ?_⟩
   ·unfold gM
    simp only
    rw[if_neg k2,hsh,if_pos hs]
    rw[show eZ k (ent k.m p n).n 1=eZ k (f:Int) 1 by rw[e1],a1,b1]
    rfl
   ·have:=hent a j
    rw[if_neg (fun h'=>ha h'.1)] at this
    exact⟨congrArg En.k this,congrArg En.n this⟩
   ·have hj':=List.mem_singleton.1 hj
    subst hj'
    have:=hent q j
    rw[if_pos ⟨rfl,rfl⟩] at this
    exact⟨congrArg En.k this,congrArg En.n this⟩
   ·have:=hent q j
    rw[if_neg (fun h'=>hj (List.mem_singleton.2 h'.2))] at this
    exact this
  ·have hxE:dC ⟨1,f,false⟩=0:=(bH _).2 (.inr (.inl ⟨rfl,by show (0:Int)≤f;omega,by have:=((eB _).1 h.pt.fr).1;show (f:Int)<40;omega⟩))
   obtain⟨s0,b1,b2⟩:=gH (k:=⟨setFr k.m f (dK (bB k.m f)),k.e⟩) (p:=p) (n:=n) (x:=⟨1,f,false⟩) a2 hnn hxE
   obtain⟨t0,d1,d2⟩:=gH (k:=⟨setTb (setFr k.m f (dK (bB k.m f))) p (setT (bP (setFr k.m f (dK (bB k.m f))) p).tb n ⟨1,f,false⟩),k.e⟩) (p:=q) (n:=n) (x:=⟨1,f,false⟩) b2 hnn hxE
   have hent1:=fun a j=>jH (m:=setFr k.m f (dK (bB k.m f))) (p:=p) hp s0 a j
   have hent2:=fun a j=>jH (m:=aW (setFr k.m f (dK (bB k.m f))) p n ⟨1,f,false⟩) (p:=q) (by show q<(setTb _ _ _).sp.length;rw[pK];exact hq) t0 a j
   obtain⟨c1,c2⟩:=wG h hc hpq k1 e1 hq h0 hg hgq
   refine⟨_,?_,c1,c2,(hsk0.trans gI.setTb).trans gI.setTb,rfl,rfl,rfl,rfl,mZ,rfl,hfrs,fun _=>Iff.rfl,fun a j ha => ?_,fun j hj => ?_,fun j hj => ?_⟩
   ·unfold gM
    simp only
    rw[if_neg k2,hsh,if_neg hs,k1]
    rw[show eZ k (ent k.m p n).n 1=eZ k (f:Int) 1 by rw[e1],a1,e1,b1,d1]
    rfl
   ·have h2:=hent2 a j
    rw[if_neg (fun h'=>ha h'.1)] at h2
    have h1:=hent1 a j
    have h3:ent (aW (aW (setFr k.m f (dK (bB k.m f))) p n ⟨1,f,false⟩) q n ⟨1,f,false⟩) a j=if a=p∧j=n then ⟨1,f,false⟩ else ent k.m a j:=h2.trans h1
    rw[h3]
    by_cases e:a=p∧j=n
    ·rw[if_pos e,e.1,e.2];exact⟨k1.symm,e1.symm⟩
    ·rw[if_neg e];exact⟨rfl,rfl⟩
   ·have hj':=List.mem_singleton.1 hj
    subst hj'
    have h2:=hent2 q j
    rw[if_pos ⟨rfl,rfl⟩] at h2
    have h3:ent (aW (aW (setFr k.m f (dK (bB k.m f))) p j ⟨1,f,false⟩) q j ⟨1,f,false⟩) q j=⟨1,f,false⟩:=h2
    rw[h3]
    exact⟨k1.symm,e1.symm⟩
   ·have h2:=hent2 q j
    rw[if_neg (fun h'=>hj (List.mem_singleton.2 h'.2))] at h2
    have h1:=hent1 q j
    rw[if_neg (fun h'=>hpq h'.1.symm)] at h1
    exact h2.trans h1
theorem Shared.refl {m:Ma} (h:Rt m) (hc:Co m) (p q:Nat):Shared m m p q []:=⟨h,hc,.refl _,rfl,rfl,rfl,rfl,rfl,rfl,fun _ => .refl _,fun _=>Iff.rfl,fun _ _ _=>⟨rfl,rfl⟩,fun j hj=>(by cases hj),fun _ _=>rfl⟩
theorem Shared.trans {a b c:Ma} {p q:Nat} {D E:List Int} (hpq:p≠q) (h:Shared a b p q D) (k:Shared b c p q E) (hde:∀j∈D,¬j∈E):Shared a c p q (D++E):=by
 refine⟨k.rt,k.co,h.sk.trans k.sk,k.st.trans h.st,k.dk.trans h.dk,k.sw.trans h.sw,k.ca.trans h.ca,k.len.trans h.len,k.sll.trans h.sll,fun g=>(h.fr g).trans (k.fr g),fun s=>(k.sl s).trans (h.sl s),fun x j hx => ?_,fun j hj => ?_,fun j hj => ?_⟩
 ·have h1:=h.oth x j hx;have h2:=k.oth x j hx
  exact⟨h2.1.trans h1.1,h2.2.trans h1.2⟩
 ·rcases List.mem_append.1 hj with hj|hj
  ·rw[k.chn j (hde j hj)];exact h.chd j hj
  ·have h1:=k.chd j hj;have h2:=h.oth p j hpq
   exact⟨h1.1.trans h2.1,h1.2.trans h2.2⟩
 ·rw[k.chn j (fun h'=>hj (List.mem_append.2 (.inr h'))),h.chn j (fun h'=>hj (List.mem_append.2 (.inl h')))]
theorem zg {p q:Nat} (hpq:p≠q):∀(l:List Int) (k:Kp),Rt k.m→Co k.m→q<k.m.sp.length→(bP k.m q).ar=(bP k.m p).ar→l.Nodup→(∀n∈l,(ent k.m p n).k≠0∧(ent k.m q n).k=0) →
  ∃m',ja k p q l=⟨m',k.e⟩∧Shared k.m m' p q l
 | [],k,h,hc,_,_,_,_=>⟨k.m,rfl,.refl h hc p q⟩
 | n::l,k,h,hc,hq,har,hnd,hl=>by
  obtain⟨m1,e1,h1⟩:=Dj h hc hpq hq har (hl n List.mem_cons_self).1 (hl n List.mem_cons_self).2
  have hnd':=List.nodup_cons.1 hnd
  obtain⟨m2,e2,h2⟩:=zg hpq l ⟨m1,k.e⟩ h1.rt h1.co (by show q<m1.sp.length;rw[h1.sk.len];exact hq) (by show (bP m1 q).ar=(bP m1 p).ar;rw[h1.sk.ar,h1.sk.ar];exact har) hnd'.2 (fun j hj=>by
   have hne:j≠n:=fun e=>hnd'.1 (e▸hj)
   have a1:=h1.oth p j hpq
   have a2:=h1.chn j (fun h'=>hne (List.mem_singleton.1 h'))
   have a3:=hl j (List.mem_cons_of_mem _ hj)
   exact⟨by show (ent m1 p j).k≠0;rw[a1.1];exact a3.1,by show (ent m1 q j).k=0;rw[a2];exact a3.2⟩)
  refine⟨m2,?_,h1.trans hpq h2 (fun j hj h'=>hnd'.1 (List.mem_singleton.1 hj▸h'))⟩
  unfold ja at e2 ⊢
  rw[List.foldl_cons,e1,e2]
structure Forked (m m' : Ma) (p q:Nat):Prop where
 rt:Rt m'
 co:Co m'
 st:m'.st=m.st
 dk:m'.dk=m.dk
 sw:m'.sw=m.sw
 ca:m'.ca=m.ca
 len:m'.m.fs.length=m.m.fs.length
 sll:m'.sl.length=m.sl.length
 fr:∀g,oV (bB m g) (bB m' g)
 sl:∀s,fK m' s=0↔fK m s=0
 spl:m'.sp.length=max m.sp.length (q+1)
 spq:(bP m' q).lv=true∧(bP m' q).ar=(bP m p).ar
 spo:∀a,a≠q→(bP m' a).lv=(bP m a).lv∧(bP m' a).ar=(bP m a).ar
 oth:∀a j,a≠q→alike (ent m a j) (ent m' a j)
 chd:∀j,alike (ent m p j) (ent m' q j)
theorem KA {m:Ma} {s:Sp} (q:Nat):bP { m with sp:=m.sp++[s] } q=if q=m.sp.length then s else bP m q:=by
 unfold bP
 show (m.sp++[s]).getD q zSp=_
 rw[List.getD_eq_getElem?_getD,List.getElem?_append]
 by_cases e:q<m.sp.length
 ·rw[if_pos e,if_neg (by omega),List.getD_eq_getElem?_getD]
 ·rw[if_neg e]
  by_cases e2:q=m.sp.length
  ·rw[if_pos e2,e2,Nat.sub_self];rfl
  ·rw[if_neg e2,List.getD_eq_getElem?_getD,List.getElem?_eq_none (by simp;omega),List.getElem?_eq_none (by omega)]
theorem Kl {m:Ma} (h:Rt m) (hc:Co m) {p q:Nat} (hp:p<m.sp.length) (hq:q=m.sp.length∧m.sp.length<4∨q<m.sp.length∧(bP m q).lv=false) :
  Rt (dV m p q)∧Co (dV m p q)∧(dV m p q).sp.length=max m.sp.length (q+1)∧(∀a,bP (dV m p q) a=if a=q then ⟨true,(bP m p).ar,zTb⟩ else bP m a):=by
 unfold dV
 rcases hq with ⟨hq,hl⟩|⟨hq,hv⟩
 ·rw[if_pos hq]
  have:=vQ h hc (s:=⟨true,(bP m p).ar,zTb⟩) hl rfl (h.pt.arN p) rfl
  refine⟨this.1,this.2,by simp;omega,fun a => ?_⟩
  rw[KA,hq]
 ·rw[if_neg (by omega)]
  have:=yL h hc (q:=q) (s:=⟨true,(bP m p).ar,zTb⟩) hq (h.live q hv).2 (h.pt.arN p) (fun e=>by cases e) rfl
  refine⟨this.1,this.2,by unfold iW;rw[List.length_set];omega,fun a=>jl hq a⟩
theorem KF {m:Ma} (h:Rt m) (hc:Co m) {p q:Nat} (hp:p<m.sp.length) (hv:(bP m p).lv=true) (hq:q=m.sp.length∧m.sp.length<4∨q<m.sp.length∧(bP m q).lv=false) :
  ∃m',Ko m p q=⟨m',0⟩∧Forked m m' p q:=by
 obtain⟨a1,a2,a3,a4⟩:=Kl h hc hp hq
 have hpq:p≠q:=by
  rintro rfl
  rcases hq with ⟨e,_⟩|⟨_,e⟩
  ·omega
  ·rw[hv] at e;cases e
 have hm0:(dV m p q).m=m.m∧(dV m p q).st=m.st∧(dV m p q).dk=m.dk∧(dV m p q).sw=m.sw∧(dV m p q).ca=m.ca∧(dV m p q).sl=m.sl:=by
  unfold dV iW
  split<;>exact⟨rfl,rfl,rfl,rfl,rfl,rfl⟩
 obtain⟨g1,g2,g3,g4,g5,g6⟩:=hm0
 have hentp:∀a j,a≠q→ent (dV m p q) a j=ent m a j:=fun a j ha=>by unfold ent;rw[a4,if_neg ha]
 have hentq:∀j,ent (dV m p q) q j=zEn:=fun j=>by unfold ent;rw[a4,if_pos rfl,kD]
 obtain⟨m',e1,hS⟩:=zg hpq (aI (bP m p).tb) ⟨dV m p q,0⟩ a1 a2 (by show q<(dV m p q).sp.length;omega) (by show (bP (dV m p q) q).ar=(bP (dV m p q) p).ar;rw[a4,a4,if_pos rfl,if_neg hpq]) (BP _) (fun n hn=>by
  have:=gW.1 hn
  refine⟨by show (ent (dV m p q) p n).k≠0;rw[hentp p n hpq];exact this.2,by show (ent (dV m p q) q n).k=0;rw[hentq];rfl⟩)
 have hfr:∀g,bB (dV m p q) g=bB m g:=fun g=>ME g1 g
 have hsl:∀s,fK (dV m p q) s=fK m s:=fun s=>by unfold fK;rw[g6]
 refine⟨m',e1,hS.rt,hS.co,hS.st.trans g2,hS.dk.trans g3,hS.sw.trans g4,hS.ca.trans g5,hS.len.trans (by show (dV m p q).m.fs.length=_;rw[g1]),hS.sll.trans (by show (dV m p q).sl.length=_;rw[g6]),fun g=>by rw[←hfr];exact hS.fr g,fun s=>by rw[←hsl];exact hS.sl s,?_,?_,fun a ha => ?_,fun a j ha => ?_,fun j => ?_⟩
 ·exact hS.sk.len.trans a3
 ·refine⟨(hS.sk.lv q).trans ?_,(hS.sk.ar q).trans ?_⟩
  ·show (bP (dV m p q) q).lv=true;rw[a4,if_pos rfl]
  ·show (bP (dV m p q) q).ar=_;rw[a4,if_pos rfl]
 ·refine⟨(hS.sk.lv a).trans ?_,(hS.sk.ar a).trans ?_⟩
  ·show (bP (dV m p q) a).lv=_;rw[a4,if_neg ha]
  ·show (bP (dV m p q) a).ar=_;rw[a4,if_neg ha]
 ·rw[←hentp a j ha];exact hS.oth a j ha
 ·by_cases hj:j∈aI (bP m p).tb
  ·have:=hS.chd j hj
   rw[show ent (Kp.m ⟨dV m p q,0⟩) p j=ent m p j from hentp p j hpq] at this
   exact this
  ·have h1:ent m' q j=ent (dV m p q) q j:=hS.chn j hj
   rw[h1,hentq]
   have h2:(ent m p j).k=0:=by
    by_cases hb:0≤j∧j<64
    ·by_cases h3:(ent m p j).k=0
     ·exact h3
     ·exact absurd (gW.2 ⟨hb,h3⟩) hj
    ·rw[rM p (by omega)];rfl
   have h3:=(bH _).1 (kY h.pt p j)
   exact⟨h2.symm,by show (0:Int)=_;omega⟩
theorem tK {m m' : Ma} {p q:Nat} {n:Int} (hst:m'.st=m.st) (hdk:m'.dk=m.dk) (hsw:m'.sw=m.sw) (hca:m'.ca=m.ca) (hfr:∀g,(bB m' g).p=(bB m g).p∧(bB m' g).f=(bB m g).f) (har:(bP m' q).ar=(bP m p).ar) (he:alike (ent m p n) (ent m' q n)):fJ m' q n=fJ m p n:=by
 have hcon:∀a b,aY m' a b=aY m a b:=fun a b=>by
  unfold aY
  rw[hca,hst,hdk]
  cases m.ca.find? fun c=>decide (c.f=a)&&decide (c.i=b) with
  | none=>rfl
  | some c=>exact (hfr c.k.toNat).1
 have hp:iV m' q n=iV m p n:=by unfold iV;rw[har]
 cases hg:iV m p n with
 | none=>rw[pM hg,pM (hp.trans hg)]
 | some g=>
  rw[pz hg,pz (hp.trans hg)]
  unfold CL
  rw[he.1,he.2,hsw,hst,hcon]
  have h1:=(hfr (ent m p n).n.toNat).1
  have h2:=(hfr (ent m p n).n.toNat).2
  have h1' : (jQ m' (ent m p n).n).p=(jQ m (ent m p n).n).p:=h1
  have h2' : (jQ m' (ent m p n).n).f=(jQ m (ent m p n).n).f:=h2
  rw[h1',h2']
theorem EW {m m' : Ma} (hst:m'.st=m.st) (hdk:m'.dk=m.dk) (hca:m'.ca=m.ca) (hfr:∀g,(bB m' g).p=(bB m g).p) (a b:Int):aY m' a b=aY m a b:=by
 unfold aY
 rw[hca,hst,hdk]
 cases m.ca.find? fun c=>decide (c.f=a)&&decide (c.i=b) with
 | none=>rfl
 | some c=>exact hfr c.k.toNat
structure Eh (m m' : Ma) (p:Nat) (D:Int→Prop):Prop where
 rt:Rt m'
 co:Co m'
 vis:uY (fun q j=>q=p∧D j) m m'
 st:m'.st=m.st
 dk:m'.dk=m.dk
 sw:m'.sw=m.sw
 ca:m'.ca=m.ca
 len:m'.m.fs.length=m.m.fs.length
 sll:m'.sl.length=m.sl.length
 ents:∀q j,(q=p∧D j→ent m' q j=zEn)∧(¬(q=p∧D j)→ent m' q j=ent m q j)
 fr:∀g,(bB m' g).r≠0→(bB m' g).p=(bB m g).p∧(bB m' g).u=(bB m g).u∧(bB m' g).d=(bB m g).d∧(bB m' g).f=(bB m g).f∧(bB m' g).i=(bB m g).i
theorem Less.zero {m:Ma} (h:Rt m) (hc:Co m) {p:Nat} {n:Int} (h0:(ent m p n).k=0):Less m m p n:=by
 refine⟨h,hc,.refl _ _,rfl,rfl,rfl,rfl,rfl,rfl,fun q j => ?_,fun _ _=>⟨rfl,rfl,rfl,rfl,rfl⟩⟩
 by_cases e:q=p∧j=n
 ·rw[if_pos e,e.1,e.2]
  have hE:=(bH _).1 (kY h.pt p n)
  rcases hE with hE|hE|hE
  ·show ent m p n=⟨0,0,false⟩
   cases hx:ent m p n
   rw[hx] at hE
   simp only at hE
   rw[hE.1,hE.2.1,hE.2.2]
  ·omega
  ·omega
 ·rw[if_neg e]
theorem Fp {k:Kp} (h:Rt k.m) (hc:Co k.m) (p:Nat) (n:Int):∃m',jR k p n=⟨m',k.e⟩∧Less k.m m' p n:=by
 rcases Ls h hc p n with ⟨h0,e⟩|h'
 ·exact⟨k.m,e,.zero h hc h0⟩
 ·exact h'
theorem tH (p:Nat) (a n:Int):∀(l:List Int) (k:Kp),Rt k.m→Co k.m→∃m',fV k p a n l=⟨m',k.e⟩∧Eh k.m m' p (fun j=>j∈l∧JD a n j=true)
 | [],k,h,hc=>⟨k.m,rfl,h,hc,.refl _ _,rfl,rfl,rfl,rfl,rfl,rfl,fun q j=>⟨fun h'=>absurd h'.2.1 (by simp),fun _=>rfl⟩,fun _ _=>⟨rfl,rfl,rfl,rfl,rfl⟩⟩
 | i::l,k,h,hc=>by
  by_cases hi:JD a n i=true
  ·obtain⟨m1,e1,h1⟩:=Fp h hc p i
   obtain⟨m2,e2,h2⟩:=tH p a n l ⟨m1,k.e⟩ h1.rt h1.co
   refine⟨m2,?_,h2.rt,h2.co,?_,h2.st.trans h1.st,h2.dk.trans h1.dk,h2.sw.trans h1.sw,h2.ca.trans h1.ca,h2.len.trans h1.len,h2.sll.trans h1.sll,fun q j=>⟨fun⟨hq,hj,hjn⟩ => ?_,fun hj => ?_⟩,fun g hr => ?_⟩
   ·unfold fV at e2 ⊢
    rw[List.foldl_cons,if_pos hi,e1,e2]
   ·refine (h1.vis.mono fun q j hx => ?_).trans (h2.vis.mono fun q j hx=>⟨hx.1,List.mem_cons_of_mem _ hx.2.1,hx.2.2⟩)
    exact⟨hx.1,by rw[hx.2];exact List.mem_cons_self,by rw[hx.2];exact hi⟩
   ·by_cases hjl:j∈l
    ·exact (h2.ents q j).1 ⟨hq,hjl,hjn⟩
    ·have hji:j=i:=by rcases List.mem_cons.1 hj with e | e;exact e;exact absurd e hjl
     rw[(h2.ents q j).2 (fun h'=>hjl h'.2.1)]
     show ent m1 q j=_
     rw[h1.ents,if_pos ⟨hq,hji⟩]
   ·rw[(h2.ents q j).2 (fun h'=>hj ⟨h'.1,List.mem_cons_of_mem _ h'.2.1,h'.2.2⟩)]
    show ent m1 q j=_
    rw[h1.ents,if_neg]
    exact fun h'=>hj ⟨h'.1,by rw[h'.2];exact List.mem_cons_self,by rw[h'.2];exact hi⟩
   ·have b1:=h2.fr g hr
    have hr1:(bB m1 g).r≠0:=by
     intro e
     rcases Nat.lt_or_ge g m1.m.fs.length with hg|hg
     ·have c1:=h1.rt.cf g hg
      have c2:=h2.rt.cf g (by rw[h2.len];exact hg)
      have c3:sW m2 g=sW m1 g:=by unfold sW;rw[h2.ca]
      have c4:¬0<bX m2 1 g:=fun hh=>by
       obtain⟨q,j,d1,d2,d3,d4⟩:=(kQ (by decide)).1 hh
       have d5:ent m2 q j=ent m1 q j:=by
        by_cases hx:q=p∧j∈l∧JD a n j=true
        ·rw[(h2.ents q j).1 hx] at d3;exact absurd d3 (by decide)
        ·exact (h2.ents q j).2 hx
       rw[d5] at d3 d4
       have:=(kQ (m:=m1) (kd:=1) (i:=g) (by decide)).2 ⟨q,j,by have:=kW (m:=m1) (p:=q) (n:=j) (by omega);exact this.1,d2,d3,d4⟩
       omega
      omega
     ·have:(bB m2 g).r=0:=by rw[Ku (by rw[h2.len];exact hg)];rfl
      exact hr this
    have b2:=h1.fr g hr1
    exact⟨b1.1.trans b2.1,b1.2.1.trans b2.2.1,b1.2.2.1.trans b2.2.2.1,b1.2.2.2.1.trans b2.2.2.2.1,b1.2.2.2.2.trans b2.2.2.2.2⟩
  ·obtain⟨m2,e2,h2⟩:=tH p a n l k h hc
   refine⟨m2,?_,h2.rt,h2.co,h2.vis.mono fun q j hx=>⟨hx.1,List.mem_cons_of_mem _ hx.2.1,hx.2.2⟩,h2.st,h2.dk,h2.sw,h2.ca,h2.len,h2.sll,fun q j=>⟨fun⟨hq,hj,hjn⟩ => ?_,fun hj => ?_⟩,h2.fr⟩
   ·unfold fV at e2 ⊢
    rw[List.foldl_cons,if_neg hi,e2]
   ·rcases List.mem_cons.1 hj with e|hj
    ·rw[e] at hjn;exact absurd hjn hi
    ·exact (h2.ents q j).1 ⟨hq,hj,hjn⟩
   ·exact (h2.ents q j).2 fun h'=>hj ⟨h'.1,List.mem_cons_of_mem _ h'.2.1,h'.2.2⟩
theorem Hg {k:Kp} (h:Rt k.m) (hc:Co k.m) (p:Nat) (a n:Int):∃m',wD k p a n=⟨m',k.e⟩∧Eh k.m m' p (fun j=>JD a n j=true):=by
 obtain⟨m',e,hC⟩:=tH p a n (aI (bP k.m p).tb) k h hc
 have hz:∀q j,q=p→JD a n j=true→¬j∈aI (bP k.m p).tb→ent k.m q j=zEn∧ent m' q j=zEn:=fun q j hq hj hjl=>by
  have e1:ent m' q j=ent k.m q j:=(hC.ents q j).2 fun h'=>hjl h'.2.1
  have e2:ent k.m q j=zEn:=by
   subst hq
   have h0:(ent k.m q j).k=0:=by
    by_cases hb:0≤j∧j<64
    ·by_cases h3:(ent k.m q j).k=0
     ·exact h3
     ·exact absurd (gW.2 ⟨hb,h3⟩) hjl
    ·rw[rM q (by omega)];rfl
   have:=(Less.zero h hc h0).ents q j
   rw[if_pos ⟨rfl,rfl⟩] at this
   exact this
  exact⟨e2,e1.trans e2⟩
 refine⟨m',e,hC.rt,hC.co,hC.vis.mono fun q j hx=>⟨hx.1,hx.2.2⟩,hC.st,hC.dk,hC.sw,hC.ca,hC.len,hC.sll,fun q j=>⟨fun⟨hq,hj⟩ => ?_,fun hj=>(hC.ents q j).2 fun h'=>hj ⟨h'.1,h'.2.2⟩⟩,hC.fr⟩
 by_cases hjl:j∈aI (bP k.m p).tb
 ·exact (hC.ents q j).1 ⟨hq,hjl,hj⟩
 ·exact (hz q j hq hj hjl).2
structure Gone (m m' : Ma) (p:Nat):Prop where
 rt:Rt m'
 co:Co m'
 st:m'.st=m.st
 dk:m'.dk=m.dk
 sw:m'.sw=m.sw
 ca:m'.ca=m.ca
 len:m'.m.fs.length=m.m.fs.length
 sll:m'.sl.length=m.sl.length
 spl:m'.sp.length=m.sp.length
 sp:∀a,a=p→bP m' a=zSp
 spo:∀a,a≠p→(bP m' a).lv=(bP m a).lv∧(bP m' a).ar=(bP m a).ar∧∀n,ent m' a n=ent m a n
 see:∀a n,a≠p→fJ m' a n=fJ m a n
 con:∀f i,BV m.st f i→aY m' f i=aY m f i
 fr:∀g,(bB m' g).r≠0→(bB m' g).p=(bB m g).p∧(bB m' g).u=(bB m g).u∧(bB m' g).d=(bB m g).d∧(bB m' g).f=(bB m g).f∧(bB m' g).i=(bB m g).i
theorem La {m:Ma} (h:Rt m) (hc:Co m) {p:Nat} (hp:p<m.sp.length):∃m',Et m p=⟨m',0⟩∧Gone m m' p:=by
 obtain⟨m1,e1,h1⟩:=Hg (k:=⟨m,0⟩) h hc p 0 64
 have hall:∀n,ent m1 p n=zEn:=fun n=>by
  by_cases hb:0≤n∧n<64
  ·exact (h1.ents p n).1 ⟨rfl,by unfold JD;simp;omega⟩
  ·exact rM p (by omega)
 have hp1:p<m1.sp.length:=by rw[h1.vis.sk.len];exact hp
 obtain⟨a1,a2⟩:=yL h1.rt h1.co (q:=p) (s:=zSp) hp1 (fun n=>by rw[hall];rfl) (by decide) (fun _=>rfl) rfl
 have hsp:=fun a=>jl (m:=m1) (q:=p) (s:=zSp) hp1 a
 refine⟨iW m1 p zSp,by unfold Et;rw[e1],a1,a2,h1.st,h1.dk,h1.sw,h1.ca,h1.len,h1.sll,?_,fun a ha=>by rw[hsp,if_pos ha],fun a ha => ?_,fun a n ha => ?_,fun f i hi => ?_,h1.fr⟩
 ·unfold iW;rw[List.length_set];exact h1.vis.sk.len
 ·rw[hsp,if_neg ha]
  refine⟨h1.vis.sk.lv a,h1.vis.sk.ar a,fun n => ?_⟩
  unfold ent
  rw[hsp,if_neg ha]
  exact (h1.ents a n).2 fun h'=>ha h'.1
 ·have h2:fJ (iW m1 p zSp) a n=fJ m1 a n:=tK rfl rfl rfl rfl (fun _=>⟨rfl,rfl⟩) (by rw[hsp,if_neg ha]) (by unfold ent;rw[hsp,if_neg ha];exact⟨rfl,rfl⟩)
  rw[h2]
  exact h1.vis.see a n fun h'=>ha h'.1
 ·have h2:aY (iW m1 p zSp) f i=aY m1 f i:=rfl
  rw[h2]
  exact h1.vis.con f i hi
theorem MP {t u:Tb} (ht:bI t=0) (hu:bI u=0) (h:∀n,cB t n=cB u n):t=u:=by
 rw[←qZ ht,←qZ hu]
 unfold bG
 congr 1
 exact List.map_congr_left fun n _=>h n
def tL (t:List En):List Value:=(List.range 64).flatMap fun i=>ik (t.getD i zEn)
theorem qV (t:List En):(tL t).length=192:=by
 unfold tL
 rw[Pw.flat_len (fun i=>ik (t.getD i zEn)) 3 (fun _=>dF _),List.length_range]
structure MW where
 al:Option Addr
 cl:Nat
 l:List UInt8
 H:MH
 ab:Option Addr
 cb:Nat
 T:List (List En)
def eP (S:MW):Array Value:=#[.slice S.al S.l.length S.cl,.slice S.H.af S.H.m.fs.length S.H.cf,.int .i64 S.H.m.hand,.slice S.H.asl S.H.sl.length S.H.csl,.slice S.H.wb S.H.sw.blocks.length S.H.cwb,.slice S.H.wq S.H.sw.queue.length S.H.cwq,
 .slice S.H.db S.H.dk.blocks.length S.H.cdb,.slice S.H.dq S.H.dk.queue.length S.H.cdq,.slice S.H.ai S.H.fi.length S.H.ci,.int .i64 S.H.ct,.slice S.H.ac S.H.ca.length S.H.cc,.slice S.H.ap S.H.sp.length S.H.cp,.slice S.ab S.T.length S.cb]
def dZ (S:MW):List (Option Nat):=[oB S.H.af,oB S.H.asl,oB S.H.wb,oB S.H.db,oB S.H.dq,oB S.H.ai,oB S.H.ac,oB S.H.ap,oB S.ab]
def iY (b:Nat) (S:MW) (x:Nat):Prop:=x=b∨some x∈dZ S
structure dm (w:World) (B b:Nat) (S:MW):Prop where
 blk:aF w b (eP S) 77
 ge:B≤b
 ma:qK w B S.H
 tt:Own w B 90 192 (.slice S.ab S.T.length S.cb) S.T.length (S.T.flatMap tL)
 rd:lX w S.al S.cl S.l.length (S.l.map kT)
 ra:∀a,S.al=some a→S.l.map kT≠[]→a.block<B
 n1:∀x,oB S.H.wb=some x→oB S.H.db≠some x
 n2:∀p∈S.H.fi,∀x,oB p.a=some x→oB S.H.asl≠some x
 n3:S.H.wq=none
structure MS (w0:World) (b:Nat) (S0:MW) (w:World) (S:MW):Prop where
 os:w.os=w0.os
 tape:w.tape=w0.tape
 output:w.output=w0.output
 size:w0.heap.size≤w.heap.size
 keep:∀x,x<w0.heap.size→¬iY b S0 x→w.heap[x]?=w0.heap[x]?
 sn:∀x,iY b S x→iY b S0 x∨w0.heap.size≤x
theorem MS.refl (w:World) (b:Nat) (S:MW):MS w b S w S:=⟨rfl,rfl,rfl,Nat.le_refl _,fun _ _ _=>rfl,fun _ h => .inl h⟩
theorem MS.trans {w0 w1 w2:World} {b:Nat} {H0 H1 H2:MW} (h:MS w0 b H0 w1 H1) (k:MS w1 b H1 w2 H2):MS w0 b H0 w2 H2:=
 ⟨k.os.trans h.os,k.tape.trans h.tape,k.output.trans h.output,Nat.le_trans h.size k.size,fun x hx hn=>(k.keep x (Nat.lt_of_lt_of_le hx h.size) (fun hk=>(h.sn x hk).elim hn (fun hh=>absurd hx (Nat.not_lt.2 hh)))).trans (h.keep x hx hn),
  fun x hx=>(k.sn x hx).elim (h.sn x) (fun hh => .inr (Nat.le_trans h.size hh))⟩
theorem MS.below {w0 w w' : World} {b:Nat} {H0 H:MW} (h:MS w0 b H0 w H) (hb:Below w.heap.size w w'):MS w0 b H0 w' H:=
 ⟨hb.os.trans h.os,hb.tape.trans h.tape,hb.output.trans h.output,Nat.le_trans h.size hb.size,fun x hx hn=>(hb.block x (Nat.lt_of_lt_of_le hx h.size)).trans (h.keep x hx hn),h.sn⟩
theorem MS.put {w0 w w' : World} {b y:Nat} {H0 H H' : MW} (h:MS w0 b H0 w H) (hg:w.grownBy w' (some y)) (hy:iY b H y) (hn:∀x,iY b H' x→iY b H x∨w0.heap.size≤x):MS w0 b H0 w' H':=
 ⟨hg.os.trans h.os,hg.tape.trans h.tape,hg.output.trans h.output,Nat.le_trans h.size hg.size,fun x hx hnx=>(hg.block x (Nat.lt_of_lt_of_le hx h.size) (fun e=>by
  have e' : x=y:=Option.some.inj e
  rw[←e'] at hy
  exact (h.sn x hy).elim hnx (fun hh=>absurd hx (Nat.not_lt.2 hh)))).trans (h.keep x hx hnx),fun x hx=>(hn x hx).elim (h.sn x) .inr⟩
theorem MS.loc {w0 w w' : World} {b y:Nat} {H0 H:MW} (h:MS w0 b H0 w H) (hg:w.grownBy w' (some y)) (hy:w0.heap.size≤y):MS w0 b H0 w' H:=
 ⟨hg.os.trans h.os,hg.tape.trans h.tape,hg.output.trans h.output,Nat.le_trans h.size hg.size,fun x hx hnx=>(hg.block x (Nat.lt_of_lt_of_le hx h.size) (fun e=>by
  have e' : x=y:=Option.some.inj e
  omega)).trans (h.keep x hx hnx),h.sn⟩
theorem MS.same {w0 w:World} {b:Nat} {H0 H H' : MW} (h:MS w0 b H0 w H) (he:dZ H' = dZ H):MS w0 b H0 w H':=
 { h with sn:=fun x hx=>h.sn x (by unfold iY at hx ⊢; rw[←he];exact hx) }
theorem dm.lt {w:World} {B b:Nat} {S:MW} (h:dm w B b S):b<w.heap.size:=h.blk.lt
theorem dm.bs {w:World} {B b:Nat} {S:MW} (h:dm w B b S):B≤w.heap.size:=Nat.le_trans h.ge (Nat.le_of_lt h.lt)
theorem dm.below {w w' : World} {B b:Nat} {S:MW} (h:dm w B b S) (hb:Below w.heap.size w w'):dm w' B b S:=⟨h.blk.ext hb,h.ge,h.ma.below hb,h.tt.below hb,h.rd.below hb,h.ra,h.n1,h.n2,h.n3⟩
theorem dm.kb_own {w:World} {B b:Nat} {S:MW} (h:dm w B b S) {x:Nat} (hx:iY b S x):B≤x∧x<w.heap.size:=by
 have own:∀ {e:TypeId} {sz n c:Nat} {a:Option Addr} {xs:List Value},Own w B e sz (.slice a n c) n xs→oB a=some x→B≤x∧x<w.heap.size:=fun ho hx=>by
  obtain⟨h1,cs,h2⟩:=fD ho hx
  exact⟨h1,h2.lt⟩
 rcases hx with hx|hx
 ·rw[hx];exact⟨h.ge,h.lt⟩
 ·simp only[dZ,List.mem_cons,List.not_mem_nil,or_false] at hx
  rcases hx with hx|hx|hx|hx|hx|hx|hx|hx|hx
  ·exact own h.ma.fr hx.symm
  ·exact own h.ma.sl hx.symm
  ·exact own h.ma.sw.b hx.symm
  ·exact own h.ma.dk.b hx.symm
  ·exact own h.ma.dk.q hx.symm
  ·exact own h.ma.st.own hx.symm
  ·exact own h.ma.ca hx.symm
  ·exact own h.ma.sp hx.symm
  ·exact own h.tt hx.symm
theorem MS.to {w0 w:World} {B B0 b:Nat} {S0 S:MW} (h:dm w0 B b S0) (hs:MS w0 b S0 w S) (hB:B0≤B):Below B0 w0 w:=
 ⟨hs.os,hs.tape,hs.output,hs.size,fun x hx=>hs.keep x (by have:=h.bs;omega) (fun hk=>by have:=(h.kb_own hk).1;omega)⟩
theorem MS.blkN {w0 w:World} {b x:Nat} {S0 S:MW} {cs:Array Value} {T:TypeId} (hs:MS w0 b S0 w S) (hk:aF w0 x cs T) (hx:¬iY b S0 x):aF w x cs T:=(hs.keep x hk.lt hx).trans hk
theorem MS.not {w0 w:World} {b x:Nat} {S0 S:MW} (hs:MS w0 b S0 w S) (hl:x<w0.heap.size) (hx:¬iY b S0 x):¬iY b S x:=fun h=>(hs.sn x h).elim hx (fun h=>by omega)
theorem MS.ownN {w0 w:World} {b B' : Nat} {S0 S:MW} {t:TypeId} {sz n:Nat} {v:Value} {xs:List Value} (hs:MS w0 b S0 w S) (ho:Own w0 B' t sz v n xs) (hx:∀x,v.ownBlock=some x→¬iY b S0 x):Own w B' t sz v n xs:=
 ⟨ho.1,ho.2.imp id fun⟨g,off,cap,cur,hv,hB,hk,r⟩=>⟨g,off,cap,cur,hv,hB,hs.blkN hk (hx g (by rw[hv];rfl)),r⟩⟩
theorem dm.new {w:World} {B b:Nat} {S:MW} (h:dm w B b S) {x:Nat} (hx:w.heap.size≤x):¬iY b S x:=fun hk=>by have:=(h.kb_own hk).2;omega
theorem lX.keep {w w' : World} {B:Nat} {a:Option Addr} {c n:Nat} {vs:List Value} (h:lX w a c n vs) (ha:∀x,a=some x→vs≠[]→x.block<B) (hB:B≤w.heap.size) {g:Nat} (hg:w.grownBy w' (some g)) (hgB:B≤g):lX w' a c n vs:=
 ⟨h.le,h.mx,h.nl,fun i u hi=>by
  obtain⟨b',o',e,hc⟩:=h.rd i u hi
  have hl:b' < B:=ha _ e (fun e0=>by rw[e0] at hi;cases hi)
  exact⟨b',o',e,hg.cell hc (fun e=>by have h3:b' = g:=Option.some.inj e;omega)⟩⟩
theorem dm.putL {w w' : World} {B b:Nat} {S:MW} (h:dm w B b S) {a:Option Addr} {c:Nat} {l:List UInt8} (hr:lX w a c l.length (l.map kT)) (ha:∀x,a=some x→l.map kT≠[]→x.block<B) (hb:aF w' b (bC (eP S) 0 [.slice a l.length c]) 77) (hg:w.grownBy w' (some b)) :
  dm w' B b { S with al:=a,cl:=c,l:=l }:=
 ⟨hb,h.ge,h.ma.keep h.blk (by decide) hg,ak h.tt h.blk (by decide) hg,hr.keep ha h.bs hg h.ge,ha,h.n1,h.n2,h.n3⟩
theorem qK.putF {w w' : World} {B:Nat} {H:MH} (h:qK w B H) {g:Nat} {cs:Array Value} (hk:aF w g cs 81) (hg:w.grownBy w' (some g)) {m:Mem} (ho:Own w' B 81 13 (.slice H.af m.fs.length H.cf) m.fs.length (m.fs.flatMap nE)):qK w' B { H with m:=m }:=
 ⟨ho,ak h.sl hk (by decide) hg,h.sw.keep hk (by decide) (by decide) hg,h.dk.keep hk (by decide) (by decide) hg,h.st.keep hk (by decide) (by decide) hg,ak h.ca hk (by decide) hg,ak h.sp hk (by decide) hg,fun p hp=>⟨ak (h.ps p hp).1 hk (by decide) hg,(h.ps p hp).2.keep hk (by decide) hg⟩,h.c64⟩
theorem dm.putF {w w' : World} {B b:Nat} {S:MW} (h:dm w B b S) {g:Nat} {cs:Array Value} (hk:aF w g cs 81) (hgB:B≤g) (hg:w.grownBy w' (some g)) {fs:List Fr} (hl:fs.length=S.H.m.fs.length) (ho:Own w' B 81 13 (.slice S.H.af fs.length S.H.cf) fs.length (fs.flatMap nE)) :
  dm w' B b { S with H:={ S.H with m:=⟨fs,S.H.m.hand⟩ } }:=
 ⟨by
  have h1:=bD h.blk hk (by decide) hg
  have e:eP { S with H:={ S.H with m:=⟨fs,S.H.m.hand⟩ } }=eP S:=by unfold eP;rw[show ({ S.H with m:=⟨fs,S.H.m.hand⟩ }:MH).m.fs.length=S.H.m.fs.length from hl]
  rw[e];exact h1,h.ge,h.ma.putF hk hg (m:=⟨fs,S.H.m.hand⟩) ho,ak h.tt hk (by decide) hg,h.rd.keep h.ra h.bs hg hgB,h.ra,h.n1,h.n2,h.n3⟩
theorem Ew (t:List En) (i r:Nat) (hi:i<64) (hr:r<3):(tL t)[i*3+r]?=(ik (t.getD i zEn))[r]?:=by
 unfold tL
 rw[gV (fun i=>ik (t.getD i zEn)) 3 (fun _=>dF _) (List.range 64) i (by rw[List.length_range];exact hi) r hr,List.getElem_range]
theorem MV {t:List En} {n:Nat} {x:En} (hl:t.length=64) (hn:n<64) (cur:Array Value) (o:Nat) (hs:o+192≤cur.size) (hc:∀j u,(tL t)[j]?=some u→cur[o+j]?=some u) :
  bC cur (o+n*3) (ik x)=bC cur o (tL (t.set n x)):=by
 have hset:∀i,i<64→(t.set n x).getD i zEn=if i=n then x else t.getD i zEn:=fun i hi=>by
  rw[List.getD_eq_getElem?_getD,List.getElem?_set]
  by_cases e:i=n
  ·subst e;rw[if_pos rfl,if_pos (by omega),if_pos rfl];rfl
  ·rw[if_neg (fun h=>e h.symm),if_neg e,List.getD_eq_getElem?_getD]
 apply Array.ext_getElem?
 intro m
 have hl3:(ik x).length=3:=dF x
 have hl192:=qV (t.set n x)
 by_cases h1:o≤m∧m<o+192
 ·obtain⟨d,rfl⟩:∃d,m=o+d:=⟨m-o,by omega⟩
  have hd:d<192:=by omega
  obtain⟨i,r,hi,hr,rfl⟩:∃i r,i<64∧r<3∧d=i*3+r:=⟨d / 3,d%3,by omega,by omega,by omega⟩
  obtain⟨u,hu⟩:∃u,(tL (t.set n x))[i*3+r]?=some u:=⟨_,List.getElem?_eq_getElem (by omega)⟩
  rw[putAt_in _ _ _ _ u (by rw[hl192];exact hs) hu]
  rw[Ew _ i r hi hr,hset i hi] at hu
  by_cases e:i=n
  ·subst e
   rw[if_pos rfl] at hu
   rw[←Nat.add_assoc]
   exact putAt_in _ _ _ _ u (by omega) hu
  ·rw[if_neg e] at hu
   rw[putAt_out _ _ _ _ (by omega)]
   exact hc _ _ (by rw[Ew _ i r hi hr];exact hu)
 ·rw[putAt_out _ _ _ _ (by omega),putAt_out _ _ _ _ (by omega)]
theorem dm.lst_len {S:MW} {p:Nat} (hp:p<S.T.length):dE S.T p=S.T[p]:=by
 unfold dE
 rw[List.getD_eq_getElem?_getD,List.getElem?_eq_getElem hp];rfl
theorem dm.ent {w:World} {B b:Nat} {S:MW} (h:dm w B b S) {p n:Nat} (hp:p<S.T.length) (hn:n<64) (h64:(dE S.T p).length=64) :
  ∃g off cur,S.ab=some ⟨g,off,none⟩∧B≤g∧aF w g cur 90∧off+p*192+n*3+3≤cur.size∧(∀j u,(ik (dG S.T p n))[j]?=some u→w.cell? ⟨g,off+p*192+n*3+j,none⟩=some u) ∧
   ∀w' x,aF w' g (bC cur (off+p*192+n*3) (ik x)) 90→w.grownBy w' (some g)→dm w' B b { S with T:=setL S.T p n x }:=by
 obtain⟨g,off,cap,cur,hv,hB,hg,hs,hc,hw⟩:=h.tt.put qV (by decide) p hp
 simp only[Value.slice.injEq] at hv
 obtain⟨hv,_,_⟩:=hv
 refine⟨g,off,cur,hv,hB,hg,by omega,fun j u hj => ?_,fun w' x hw' hgr => ?_⟩
 ·have hj3:j<3:=by
   rcases Nat.lt_or_ge j 3 with h|h
   ·exact h
   ·rw[List.getElem?_eq_none (by rw[dF];exact h)] at hj;cases hj
  have:=hc (n*3+j) u (by rw[Ew _ n j hn hj3,←dm.lst_len hp];exact hj)
  rw[←this]
  congr 2
  omega
 ·have hcur:∀j u,(tL (dE S.T p))[j]?=some u→cur[off+p*192+j]?=some u:=fun j u hj=>by
   rw[dm.lst_len hp] at hj
   have:=hc j u hj
   rw[hg.cell] at this
   exact this
  rw[MV h64 hn cur _ (by omega) hcur] at hw'
  have ho:=hw w' _ hw'
  have hlen:({ S with T:=setL S.T p n x }:MW).T.length=S.T.length:=by show (setL S.T p n x).length=_;unfold setL;rw[List.length_set]
  refine⟨?_,h.ge,h.ma.keep hg (by decide) hgr,?_,h.rd.keep h.ra h.bs hgr hB,h.ra,h.n1,h.n2,h.n3⟩
  ·have e:eP { S with T:=setL S.T p n x }=eP S:=by unfold eP;rw[hlen]
   rw[e]
   exact bD h.blk hg (by decide) hgr
  ·rw[hlen];exact ho
theorem dm.putS {w w' : World} {B b : Nat} {S : MW} (h : dm w B b S) {g : Nat} {cs : Array Value} (hk : aF w g cs 3) (hgB : B ≤ g) (hga : oB S.H.asl = some g) (hg : w.grownBy w' (some g)) {sl : List Int} (hl : sl.length = S.H.sl.length) (ho : Own w' B 3 1 (.slice S.H.asl sl.length S.H.csl) sl.length (sl.map dL)) :
    dm w' B b { S with H := { S.H with sl := sl } } :=
  ⟨by
    have h1 := bD h.blk hk (by decide) hg
    have e : eP { S with H := { S.H with sl := sl } } = eP S := by unfold eP; rw [show ({ S.H with sl := sl } : MH).sl.length = S.H.sl.length from hl]
    rw [e]; exact h1, h.ge,
   ⟨ak h.ma.fr hk (by decide) hg, ho, h.ma.sw.keep hk (by decide) (by decide) hg, h.ma.dk.keep hk (by decide) (by decide) hg, ⟨ak h.ma.st.own hk (by decide) hg, fun i p hp => (h.ma.st.each i p hp).grown hg (fun g' hg' e => by
      cases e
      unfold lY at hg'
      rw [iK] at hg'
      exact h.n2 p (List.mem_of_getElem? hp) _ hg' hga), h.ma.st.apart⟩, ak h.ma.ca hk (by decide) hg, ak h.ma.sp hk (by decide) hg, fun p hp => ⟨ak (h.ma.ps p hp).1 hk (by decide) hg, (h.ma.ps p hp).2.keep hk (by decide) hg⟩, h.ma.c64⟩,
   ak h.tt hk (by decide) hg, h.rd.keep h.ra h.bs hg hgB, h.ra, h.n1, h.n2, h.n3⟩
theorem dm.putW {w w' : World} {B b : Nat} {S : MW} (h : dm w B b S) {g : Nat} {cs : Array Value} (hk : aF w g cs 79) (hgB : B ≤ g) (hga : oB S.H.wb = some g) (hg : w.grownBy w' (some g)) {l : List Page} (hl : l.length = S.H.sw.blocks.length) (ho : Own w' B 79 8 (.slice S.H.wb l.length S.H.cwb) l.length (l.flatMap vJ)) :
    dm w' B b { S with H := { S.H with sw := ⟨l, S.H.sw.queue⟩ } } :=
  ⟨by
    have h1 := bD h.blk hk (by decide) hg
    have e : eP { S with H := { S.H with sw := ⟨l, S.H.sw.queue⟩ } } = eP S := by unfold eP; rw [show ({ S.H with sw := ⟨l, S.H.sw.queue⟩ } : MH).sw.blocks.length = S.H.sw.blocks.length from hl]
    rw [e]; exact h1, h.ge,
   ⟨ak h.ma.fr hk (by decide) hg, ak h.ma.sl hk (by decide) hg, ⟨ho, ak h.ma.sw.q hk (by decide) hg⟩, ⟨h.ma.dk.b.grown hg (fun g' hg' e => by
      cases e
      rw [iK] at hg'
      exact h.n1 _ hga hg'), ak h.ma.dk.q hk (by decide) hg⟩, h.ma.st.keep hk (by decide) (by decide) hg, ak h.ma.ca hk (by decide) hg, ak h.ma.sp hk (by decide) hg, fun p hp => ⟨ak (h.ma.ps p hp).1 hk (by decide) hg, (h.ma.ps p hp).2.keep hk (by decide) hg⟩, h.ma.c64⟩,
   ak h.tt hk (by decide) hg, h.rd.keep h.ra h.bs hg hgB, h.ra, h.n1, h.n2, h.n3⟩
theorem dm.setC {w w' : World} {B b:Nat} {S:MW} (h:dm w B b S) {a:Option Addr} {c:Nat} {l:List Cc} (ho:Own w B 106 3 (.slice a l.length c) l.length (l.flatMap kS)) (hb:aF w' b (bC (eP S) 10 [.slice a l.length c]) 77) (hg:w.grownBy w' (some b)) :
  dm w' B b { S with H:={ S.H with ac:=a,cc:=c,ca:=l } }:=
 ⟨hb,h.ge,{ h.ma.keep h.blk (by decide) hg with ca:=ak ho h.blk (by decide) hg },ak h.tt h.blk (by decide) hg,h.rd.keep h.ra h.bs hg h.ge,h.ra,h.n1,h.n2,h.n3⟩
end Go.Proofs.YtjkkoeijlhfneaaGreat