import Derived.Test.YtjkkoeijlhfneaaGreatS4
import Derived.ArgAppend
import Derived.Deep.DeepCutAuto
import Derived.BigRegion
set_option linter.unusedSimpArgs false
set_option linter.unusedVariables false
set_option maxHeartbeats 4000000
set_option maxRecDepth 100000
namespace Go.Proofs.YtjkkoeijlhfneaaGreat
open _root_.Go.Proofs.Tryz
open Go.RowKit Go.Maps Pw
variable {B B' O b c c' g i k n n' off p q sz:Nat} {L L':Nat → Bool} {P:Program} {Q:Exit → Act → World → Prop} {S S' S0:MW} {T e t:TypeId} {W W' W0 w w' w0 w1 w2:World} {X:Fr} {a a':Option Addr} {cs cur:Array Value} {h x:Operand} {lo:Int} {m:Ma} {o:Oper} {ops:Array Oper} {rest:List Oper} {s:St} {sp:List PS} {v:Value} {vs xs ys:List Value} {y:Nat → Value} {ρ:Operand → Value}
theorem Ke {o:Nat} (h:dA w (some ⟨b,o,none⟩) (xs++ys)):dA w (some ⟨b,o,none⟩) xs:=fun i u hi=>h i u (by
 rw[List.getElem?_append_left (List.getElem?_eq_some_iff.1 hi).1];exact hi)
theorem Lg (x:Fr):∃ys,lZ x=wz x.p++ys:=⟨_,rfl⟩
theorem JN {l:List Cc} {c:Cc} {f i:Int} (hc:l[q]?=some c) (hno:∀d∈l.take q,¬(d.f=f∧d.i=i)) (hy:c.f=f∧c.i=i):l.find? (fun c=>decide (c.f=f)&&decide (c.i=i))=some c:=by
 rw[←List.take_append_drop q l,List.find?_append,List.find?_eq_none.2 (fun d hd=>by
  have:=hno d hd
  simp only[Bool.and_eq_true,decide_eq_true_eq]
  exact this)]
 rw[List.drop_eq_getElem_cons (List.getElem?_eq_some_iff.1 hc).1,(List.getElem?_eq_some_iff.1 hc).2,List.find?_cons,hy.1,hy.2]
 simp
theorem xu {l:List Cc} {f i:Int} (hno:∀d∈l,¬(d.f=f∧d.i=i)):l.find? (fun c=>decide (c.f=f)&&decide (c.i=i))=none:=
 List.find?_eq_none.2 (fun d hd=>by
  have:=hno d hd
  simp only[Bool.and_eq_true,decide_eq_true_eq]
  exact this)
theorem BL (H:MH) (f i:Int) (w:World) (h:xA w H) (hz:H.ca.length≤1000∧∀f∈H.ma.st.fs,f.b.length≤1000) (hck:∀c∈H.ca,0≤c.k∧c.k<H.m.fs.length) (hf:0≤f∧f<H.fi.length) (hi:0≤i∧i<(aT H.ma.st f).b.length) :
  Calls Tryz.prog 54 #[.agg (dC H),.int .i64 f,.int .i64 i] w fun r w'=>r = .returned (.agg (gD (bP H.ma f i)))∧Below w.heap.size w w':=by
 have z7:H.ca.length≤1000:=hz.1
 go_enter func54,ntmps54
 go_upto_region 1 with (fail)
 refine oJ (fun W=>Code.wp _ _ _ _ W) fun w1 hb0 bx1 rx1 hs1 => ?_
 clear hs1
 have hcb:=bx1.cell
 unfold dC at hcb
 go_upto_region 2 with (fail)
 clear hcb
 go_loopw [16] (fun k wr => ∃q:Nat,q≤H.ca.length∧k = .int .i64 q∧Below w.heap.size w wr∧aD wr w.heap.size (dC H) 41∧aD wr (w.heap.size+1) (gD zPg) 79∧Hid (∀d∈H.ca.take q,¬(d.f=f∧d.i=i))) (fun k _=>H.ca.length-(intOf k).toNat)
 case atStart=>exact⟨0,Nat.zero_le _,rfl,hb0,bx1,rx1,Lib.hid (by simp)⟩
 case round=>
  clear hb0 bx1 rx1
  obtain⟨q,hq,rfl,hbr,bx,rx,hno⟩:=hrel
  by_cases hql:q<H.ca.length
  ·obtain⟨bc,oc,hca,hrd⟩:=rD (h.below hbr).ca.rd q hql
   obtain⟨c,hc⟩:∃c,H.ca[q]?=some c:=⟨_,List.getElem?_eq_getElem hql⟩
   rw[show H.ca[q]=c from (List.getElem?_eq_some_iff.1 hc).2] at hrd
   have hqi:(q:Int)<(H.ca.length:Int):=by omega
   have hck1:=hck c (List.mem_of_getElem? hc)
   have hc':=Lib.hid hc
   clear hc
   rw[hca]
   go_wp2_with (first | (refine ay _ _ rfl bc (oc+q*3) rfl rfl _ hrd _ underlying106 rfl cached_size ?_) | (refine aL rfl _ _ _ rfl (wL c) rfl rfl rfl cached_size (uz c) ?_))
   intro w3 hb3 cx3
   have hbr3:=ag hbr hb3
   have bx3:=bx.ext hb3
   have rx3:=rx.ext hb3
   have hcx:=cx3.cell
   have hl3:=rx3.lt
   clear hbr bx rx hb3 hrd
   unfold wL at hcx
   by_cases hy:c.f=f∧c.i=i
   ·obtain⟨hy1,hy2⟩:=hy
    obtain⟨k,hk⟩:=Int.eq_ofNat_of_zero_le hck1.1
    have hkl:k<H.m.fs.length:=by have:=hck1.2;omega
    obtain⟨bf,of,haf,hfrd⟩:=kJ eB (by decide) (h.below hbr3).fr.rd k hkl
    have hki:(k:Int)<(H.m.fs.length:Int):=by omega
    have hcont:Hid (bP H.ma f i=(H.m.fs[k]).p):=Lib.hid (by
     unfold bP
     rw[show H.ma.ca.find? (fun c=>decide (c.f=f)&&decide (c.i=i))=some c from JN hc'.out hno.out ⟨hy1,hy2⟩]
     show (H.m.fs.getD c.k.toNat fr0).p=_
     rw[hk,List.getD_eq_getElem?_getD,show ((k:Nat):Int).toNat=k from rfl,List.getElem?_eq_getElem hkl];rfl)
    generalize H.m.fs[k]=X at hfrd hcont
    obtain⟨ys,hys⟩:=Lg X
    rw[hys] at hfrd
    have hprd:=Ke hfrd
    have hcm:w3.cell? ⟨w.heap.size,0,none⟩=some (.slice (some ⟨bf,of,none⟩) H.m.fs.length H.cf):=by rw[bx3.cell,←haf];rfl
    rw[hy1,hy2,hk] at hcx
    clear hfrd hys
    go_wp2_with (first | (refine ay _ _ rfl bf (of+k*13) rfl rfl _ hprd _ underlying79 rfl psize ?_) | (refine ax rfl _ _ _ rfl (w.heap.size+1) (gD X.p) rfl rfl _ _ rx3 rfl psize (iL X.p) ?_))
    intro w4 rx4 hg4
    have hb4:=hbr3.grown hg4 hbr3.size (fun k hk=>by cases hk;omega)
    clear hcx hcm
    go_wp2
    refine bodyPost_ret (v:=.agg (gD X.p)) (dF results54 _ _ (w.heap.size+1) _ _ _ rfl rx4 underlying79 rfl psize) rfl ?_
    exact⟨by rw[hcont.out],hb4⟩
   ·have hno' : Hid (∀d∈H.ca.take (q+1),¬(d.f=f∧d.i=i)):=Lib.hid fun d hd=>by
     rw[take_at hc'.out] at hd
     rcases List.mem_append.1 hd with hd|hd
     ·exact hno.out d hd
     ·rw[List.mem_singleton.1 hd];exact hy
    by_cases hy1:c.f=f
    ·have hy2:¬c.i=i:=fun e=>hy ⟨hy1,e⟩
     clear hy
     go_wp2
     go_roundw
     case rel=>exact⟨q+1,by omega,by go_num,hbr3,bx3,rx3,hno'⟩
     case measure=>simp[intOf];omega
    ·clear hy
     go_wp2
     go_roundw
     case rel=>exact⟨q+1,by omega,by go_num,hbr3,bx3,rx3,hno'⟩
     case measure=>simp[intOf];omega
  ·have hqi:¬(q:Int)<(H.ca.length:Int):=by omega
   rw[List.take_of_length_le (by omega)] at hno
   have hcx:=bx.cell
   unfold dC at hcx
   obtain⟨F,rfl⟩:=Int.eq_ofNat_of_zero_le hf.1
   obtain⟨I,rfl⟩:=Int.eq_ofNat_of_zero_le hi.1
   have hFl:F<H.fi.length:=by omega
   obtain⟨bf,of,hai,hrd⟩:=kJ iC (by decide) h.st.rd F hFl
   obtain⟨p,hp⟩:∃p,H.fi[F]?=some p:=⟨_,List.getElem?_eq_getElem hFl⟩
   rw[show H.fi[F]=p from (List.getElem?_eq_some_iff.1 hp).2] at hrd
   have hrd0:=Lib.hid hrd
   have hrd:=hrd.below hbr
   have hgood:=(h.below hbr).st.good p (List.mem_of_getElem? hp)
   have hfa:aT H.ma.st (F:Int)=p.fi:=by
    unfold aT
    rw[if_pos (by omega)]
    show (H.fi.map PF.fi).getD F ⟨0,[]⟩=p.fi
    rw[List.getD_eq_getElem?_getD,List.getElem?_map,hp];rfl
   rw[hfa] at hi
   have hIl:I<p.l.length:=by have h2:=hi.2;have e:p.fi.b.length=p.l.length:=rfl;omega
   have hpz:p.l.length≤1000:=hz.2 p.fi (List.mem_map.2 ⟨p,List.mem_of_getElem? hp,rfl⟩)
   obtain⟨bb,ob,hpa,hcb⟩:=iA hgood.rd I hIl
   obtain⟨x,hX⟩:∃x,p.l[I]?=some x:=⟨_,List.getElem?_eq_getElem hIl⟩
   rw[show p.l[I]=x from (List.getElem?_eq_some_iff.1 hX).2] at hcb
   have hba:bA H.ma.st (F:Int) (I:Int)=x:=by
    unfold bA
    rw[hfa]
    show p.l.getD I 0=x
    rw[List.getD_eq_getElem?_getD,hX];rfl
   have rc:∀j u,(lU p)[j]?=some u→wr.cell? ⟨bf,of+F*2+j,none⟩=some u:=fun j u hj=>by
    obtain⟨b',o',e,hcc⟩:=hrd j u hj
    cases e
    exact hcc
   have rc0:wr.cell? ⟨bf,of+F*2,none⟩=some (.int .i64 p.n):=rc 0 _ rfl
   have rc1:wr.cell? ⟨bf,of+F*2+1,none⟩=some (.slice p.a p.l.length p.c):=rc 1 _ rfl
   have hcont:Hid (bP H.ma F I=if 0≤x then dS (jh H.dk x) (p.n-(I:Int)*8) else zPg):=Lib.hid (by
    unfold bP
    rw[show H.ma.ca.find? (fun c=>decide (c.f=(F:Int))&&decide (c.i=(I:Int)))=none from xu hno.out,hba,hfa]
    rfl)
   have hFi:(F:Int)<(H.fi.length:Int):=by omega
   have hIi:(I:Int)<(p.l.length:Int):=by omega
   rw[hpa] at rc1
   rw[hai] at hcx
   have hrd':=Lib.hid hrd
   have hai':=Lib.hid hai
   have hpa':=Lib.hid hpa
   have hfi':=Lib.hid hfa
   clear rc hrd hai hpa hfa hp hX hba hi hgood
   by_cases hx:x<0
   ·go_wp2_with (refine ax rfl _ _ _ rfl (w.heap.size+1) (gD zPg) rfl rfl _ _ rx rfl psize (iL _) ?_)
    intro w4 rx4 hg4
    have hb4:=hbr.grown hg4 hbr.size (fun k hk=>by cases hk;omega)
    clear hcx
    go_wp2
    refine bodyPost_ret (v:=.agg (gD zPg)) (dF results54 _ _ (w.heap.size+1) _ _ _ rfl rx4 underlying79 rfl psize) rfl ?_
    exact⟨by rw[hcont.out,if_neg (by omega)],hb4⟩
   ·go_wp2_with (refine ay _ _ rfl w.heap.size 5 rfl rfl _ (cB bx 5 2) _ underlying34 rfl disk_size ?_)
    refine (Ib H.dk x _ _ _ _ _ (h.below hbr).dk).mono ?_
    rintro r w4 ⟨rfl,hb4⟩
    have hfr:=aD.new w4 (gD zPg) 79
    have hba:Below w4.heap.size w4 (w4.alloc (.cells (gD zPg) 79)):=(Below.refl _ _).alloc (Nat.le_refl _) _
    have hl4:=hb4.size
    have hlr:=rx.lt
    have bx5:=(bx.ext hb4).ext hba
    have rx5:=(rx.ext hb4).ext hba
    have hbr5:=ag (ag hbr hb4) hba
    clear hcx hcb rc0 rc1 bx rx hbr
    go_wp2_with (refine ax rfl _ _ _ rfl w4.heap.size (gD (jh H.dk x)) rfl rfl _ _ hfr rfl psize (iL _) ?_)
    intro w5 px6 hg5
    have hb6:=hbr5.grown hg5 hbr5.size (fun k hk=>by cases hk;omega)
    have bx6:=bx5.grown hg5 (fun e=>by have:=Option.some.inj e;omega)
    have rx6:=rx5.grown hg5 (fun e=>by have:=Option.some.inj e;omega)
    clear hfr hba bx5 rx5 hbr5 hg5 hb4
    generalize jh H.dk x=P at px6 hcont
    generalize hp4:w4.heap.size=p4 at *
    clear hp4
    go_upto_region 12 with (fail)
    go_loopw [59] (fun j wr => ∃k:Nat,k≤8∧j = .int .i64 k∧Below w.heap.size w wr∧aD wr w.heap.size (dC H) 41∧aD wr (w.heap.size+1) (gD zPg) 79∧aD wr p4 (gD (gG P (p.n-(I:Int)*8) k)) 79) (fun j _=>8-(intOf j).toNat)
    case atStart=>exact⟨0,by omega,rfl,hb6,bx6,rx6,by rw[show gG P (p.n-(I:Int)*8) 0=P from by ext j hj;simp[gG]];exact px6⟩
    case round=>
     clear hb6 bx6 rx6 px6
     obtain⟨k,hk,rfl,hbr,bx,rx,px⟩:=hrel
     by_cases hk8:k<8
     ·have hki:(k:Int)<8:=by omega
      have hcx:=bx.cell
      unfold dC at hcx
      rw[hai'.out] at hcx
      have rc0:wr.cell? ⟨bf,of+F*2,none⟩=some (.int .i64 p.n):=by
       obtain⟨b',o',e,hcc⟩:=(hrd0.out.below hbr) 0 _ rfl
       cases e
       exact hcc
      have hw1:IntKind.i64.wrap (8*(I:Int))=8*(I:Int):=IntWalk.i64_in _ (by omega)
      have hw2:IntKind.i64.wrap (8*(I:Int)+(k:Int))=8*(I:Int)+(k:Int):=IntWalk.i64_in _ (by omega)
      by_cases hge:p.n≤8*(I:Int)+k
      ·have hset:Hid ((gD (gG P (p.n-(I:Int)*8) k)).setIfInBounds k (.int .u8 0)=gD (gG P (p.n-(I:Int)*8) (k+1))):=Lib.hid (by
        rw[←vB P _ k hk8 (by omega)];exact wY _ k hk8 0)
       generalize hT:gG P (p.n-(I:Int)*8) k=T at px hset
       clear hT
       go_wp2_with (refine az rfl _ _ _ rfl p4 k _ [.int .u8 0] rfl rfl rfl _ _ px (by show k+1≤8;omega) (by kernel_rfl) (fun u hu=>by cases List.mem_singleton.1 hu;rfl) ?_)
       intro w7 px7 hg7
       rw[Pw.putAt_one,hset.out] at px7
       have hbr7:=hbr.grown hg7 hbr.size (fun k hk=>by cases hk;omega)
       have bx7:=bx.grown hg7 (fun e=>by have:=Option.some.inj e;omega)
       have rx7:=rx.grown hg7 (fun e=>by have:=Option.some.inj e;omega)
       clear hbr bx rx px hg7 hcx rc0
       go_wp2
       go_roundw
       case rel=>exact⟨k+1,by omega,by go_num,hbr7,bx7,rx7,px7⟩
       case measure=>simp[intOf];omega
      ·have hset:gG P (p.n-(I:Int)*8) k=gG P (p.n-(I:Int)*8) (k+1):=by
        ext j hj
        simp only[gG,Vector.getElem_ofFn]
        by_cases e:p.n-(I:Int)*8≤(j:Int)
        ·rw[if_neg (by omega),if_neg (by omega)]
        ·rw[if_neg (by omega),if_neg (by omega)]
       rw[hset] at px
       clear hset
       go_wp2
       go_roundw
       case rel=>exact⟨k+1,by omega,by go_num,hbr,bx,rx,px⟩
       case measure=>simp[intOf];omega
     ·have hki:¬(k:Int)<8:=by omega
      rw[vM _ _ k (by omega)] at px
      have hcont' : Hid (bP H.ma F I=dS P (p.n-(I:Int)*8)):=Lib.hid (by rw[hcont.out,if_pos (by omega)])
      generalize dS P (p.n-(I:Int)*8)=C at px hcont'
      go_wp2_with (first | (refine ay _ _ rfl p4 0 rfl rfl _ px.rd _ underlying79 rfl psize ?_) | (refine ax rfl _ _ _ rfl (w.heap.size+1) (gD C) rfl rfl _ _ rx rfl psize (iL _) ?_))
      intro w7 rx7 hg7
      have hb7:=hbr.grown hg7 hbr.size (fun k hk=>by cases hk;omega)
      go_wp2
      refine bodyPost_ret (v:=.agg (gD C)) (dF results54 _ _ (w.heap.size+1) _ _ _ rfl rx7 underlying79 rfl psize) rfl ?_
      exact⟨by rw[hcont'.out],hb7⟩
theorem srt_len:∀ {l:List Nat} {a n:Nat},l.Pairwise (· < ·)→(∀x∈l,a≤x∧x<n)→l.length≤n-a
 | [],_,_,_,_=>by simp
 | x::l,a,n,hs,h=>by
  obtain⟨h1,h2⟩:=List.pairwise_cons.1 hs
  have hx:=h x List.mem_cons_self
  have:=srt_len (a:=x+1) (n:=n) h2 fun y hy=>⟨h1 y hy,(h y (List.mem_cons_of_mem _ hy)).2⟩
  rw[List.length_cons]
  omega
theorem Km (h:pX m) (hs:aS m.st=0):m.ca.length≤60:=by
 have hl:∀c∈m.ca,0≤c.f∧c.f<5∧0≤c.i∧c.i<12:=fun c hc=>by
  have h1:=h.file c hc
  have h2:=BD hs h1
  have h3:=h1.1;have h4:=h1.2
  omega
 have key:=srt_len (l:=m.ca.map fun c=>(12*c.f+c.i).toNat) (a:=0) (n:=60) ?_ fun x hx => ?_
 ·simpa using key
 ·rw[List.pairwise_map]
  refine List.Pairwise.imp_of_mem ?_ h.srt
  intro a b ha hb hab
  have h1:=hl a ha
  have h2:=hl b hb
  unfold yQ at hab
  show (12*a.f+a.i).toNat<(12*b.f+b.i).toNat
  omega
 ·obtain⟨c,hc,rfl⟩:=List.mem_map.1 hx
  have h1:=hl c hc
  show 0≤(12*c.f+c.i).toNat∧(12*c.f+c.i).toNat<60
  omega
theorem uZ (hs:aS s=0):∀f∈s.fs,f.b.length≤12:=fun f hf=>by
 obtain⟨k,hk,rfl⟩:=List.mem_iff_getElem.1 hf
 have h1:=uo hs (f:=(k:Int)) ⟨by omega,by omega⟩
 have hfa:aT s (k:Int)=s.fs[k]:=ng (List.getElem?_eq_getElem hk)
 rw[hfa] at h1
 obtain⟨a1,a2,a3,_⟩:=h1
 have e:(s.fs[k].b.length:Int)≤12:=by
  rw[a3];unfold dO
  split<;>omega
 omega
theorem uM (s x:Operand) (t:TypeId) (ho:o.op=Op.call { callee:=Callee.builtin Builtin.append,args:=#[s,x],argTypes:=#[t,t] })
 (B:Nat) (e:TypeId) (z:Value) (size bytes:Nat) (h1:P.underlying t=some (.slice e)) (h2:(P.info? e).map (fun i=>(i.zero,i.size,i.bytes))=some (some z,size,bytes)) (h6:z.cells.size=size) (h7:0<size)
 (g:Nat) (hs:ρ s = .slice (some ⟨g,0,none⟩) 0 0) (hown:Own w B e size (.slice (some ⟨g,0,none⟩) 0 0) 0 [])
 (ao:Option Addr) (m c:Nat) (news:List Value) (hx:ρ x = .slice ao m c) (hnone:ao=none→c=0) (hmc:m≤c) (hn:news.length=m*size) (hrd:dA w ao news)
 (b1:m≤maxLen) (b2:m*bytes≤140737488355328) (hB:B≤w.heap.size) :
  ∃v' w',(execOp ρ o).run P w = .ok (.value v') w'∧Below w.heap.size w w'∧Own w' B e size v' m news:=by
 obtain⟨ii,hi,hz,hsz,hby⟩:=info_parts h2
 rcases Nat.eq_zero_or_pos m with h0|h0
 ·subst h0
  obtain rfl:news=[]:=List.eq_nil_of_length_eq_zero (by simpa using hn)
  refine⟨.slice (some ⟨g,0,none⟩) 0 0,w,?_,Below.refl _ _,hown⟩
  cases ao with
  | none=>simp[execOp,ho,resolve,invoke,builtin,hs,hx,Builtin.append_,run_underlying h1,Go.sizeOf,typeInfo,hi,Builtin.lenOf,Builtin.firstCells,storeCells,Result.andThen]
  | some ad=>simp[execOp,ho,resolve,invoke,builtin,hs,hx,Builtin.append_,run_underlying h1,Go.sizeOf,typeInfo,hi,Builtin.lenOf,Builtin.firstCells,storeCells,loadCells,loadCellsFrom,Result.andThen]
 ·obtain⟨b,off,rfl,hc⟩:=hrd.at (by rw[hn];exact Nat.mul_pos h0 h7)
  obtain⟨v',w',hr,how,hgr⟩:=run_append_arg_grows (P:=P) w t o.type e ii z size bytes h1 hi hz hsz hby h6 h7 ⟨g,0,none⟩ 0 0 [] (by simp) (fun j u h=>by simp at h) ⟨b,off,none⟩ m c news hn (fun j u hj=>by rw[Addr.add_lit];exact hc j u hj) (by omega) (by omega) (by rw[Nat.zero_add];exact b2)
  have ho' : Own w' B e size v' m news:=by
   have:=(Own.of_owns how).mono hB
   simpa using this
  refine⟨v',w',?_,ji hgr,ho'⟩
  simp[execOp,ho,resolve,invoke,builtin,hs,hx,hr,Result.andThen]
theorem fu {l:List jJ} {J:(Nat→Bool)→(Nat→Value)→World→Prop} {D:Value→World→Prop} (hw:Region.wanted o (eG ρ ops)=true) (h:∃v' w',(execOp ρ o).run P w = .ok (.value v') w'∧D v' w')
 (hJ:∀v w',D v w'→J (bK L i) (bZ y i v) w') (hR:∀v w',D v w'→rl l i v w') :
  if Region.wanted o (eG ρ ops)=true then cK P o ρ w (fun v w'=>J (bK L i) (bZ y i v) w'∧rl l i v w') else J (bK L i) (bZ y i undef) w∧rl l i undef w:=by
 obtain⟨v,w',h1,h2⟩:=h
 exact bO v hw h1 (hJ _ _ h2) (hR _ _ h2)
theorem Ca {l:List jJ} {D:Value→Prop} (hw:Region.wanted o (eG ρ ops)=true) (h:∃v,(execOp ρ o).run P w = .ok (.value v) w∧D v) (hR:∀v,D v→rl l i v w) :
  if Region.wanted o (eG ρ ops)=true then cK P o ρ w (fun v w'=>Below w.heap.size w w'∧rl l i v w') else rl l i undef w:=by
 obtain⟨v,h1,h2⟩:=h
 exact aj v hw h1 (hR _ h2)
theorem zw {α:Type} (enc:α→List Value) (sz:Nat) (hsz:∀x,(enc x).length=sz):∀(l:List α) (k:Nat),(l.flatMap enc).take (k*sz)=(l.take k).flatMap enc
 | [],k=>by simp
 | x::l,0=>by simp
 | x::l,k+1=>by
  rw[List.flatMap_cons,List.take_succ_cons,List.flatMap_cons,Nat.succ_mul,Nat.add_comm,List.take_append,hsz,List.take_of_length_le (by rw[hsz];omega),Nat.add_sub_cancel_left,zw enc sz hsz l k]
theorem zX {α:Type} (enc:α→List Value) (sz:Nat) (hsz:∀x,(enc x).length=sz):∀(l:List α) (k:Nat),(l.flatMap enc).drop (k*sz)=(l.drop k).flatMap enc
 | [],k=>by simp
 | x::l,0=>by simp
 | x::l,k+1=>by
  rw[List.flatMap_cons,List.drop_succ_cons,Nat.succ_mul,Nat.add_comm,List.drop_append,hsz,List.drop_eq_nil_of_le (by rw[hsz];omega),List.nil_append,Nat.add_sub_cancel_left,zX enc sz hsz l k]
theorem vR (l : List Cc) (c : Cc) (q : Nat) (hq : q ≤ l.length) : ((l.flatMap je).take (q * 3) ++ je c) ++ (l.flatMap je).drop (q * 3) = (l.insertIdx q c).flatMap je := by
  rw [zw je 3 nJ, zX je 3 nJ]
  have : ∀ (l : List Cc) (q : Nat), q ≤ l.length → l.insertIdx q c = l.take q ++ c :: l.drop q := by
    intro l
    induction l with
    | nil => intro q hq; obtain rfl : q = 0 := by simpa using hq
             rfl
    | cons x l ih => intro q hq; cases q with
      | zero => rfl
      | succ q => rw [List.insertIdx_succ_cons, ih q (by simpa using hq)]; rfl
  rw [this l q hq]
  simp [List.flatMap_append]
theorem nR.take (h:nR w a c n vs) (hk:k≤n):nR w a c k (vs.take (k*sz)):=
 ⟨Nat.le_trans hk h.le,h.mx,h.nl,fun j u hj=>h.rd j u (by
  rw[List.getElem?_take] at hj
  split at hj
  ·exact hj
  ·cases hj)⟩
theorem DF {i:Operand} (ho:o.op = .slice t x none (some i) none) (hx:ρ x = .slice a n c) (hy:ρ i = .int .i64 (k:Int)) (hk:k≤n)
 (hu:P.underlying t=some (.slice e)) (hs:(P.info? e).map (·.size)=some sz) (h:nR W0 a c n vs):(execOp ρ o).run P w = .ok (.value (.slice a k c)) w∧nR W0 a c k (vs.take (k*sz)):=by
 obtain⟨inf,hinf,hsz⟩:∃inf,P.info? e=some inf∧inf.size=sz:=by
  cases h:P.info? e with
  | none=>rw[h] at hs;cases hs
  | some inf=>rw[h] at hs;exact⟨inf,rfl,by simpa using hs⟩
 have hso:(Go.sizeOf e).run P w = .ok sz w:=by simp[Go.sizeOf,typeInfo,hinf,go_sem,hsz]
 have hle:=h.le
 refine⟨?_,Nat.le_trans hk h.le,h.mx,h.nl,fun j u hj=>h.rd j u (by
  rw[List.getElem?_take] at hj
  split at hj
  ·exact hj
  ·cases hj)⟩
 have hkc:(k:Int)≤(c:Int):=by omega
 cases a with
 | none=>
  have hc0:=h.nl rfl
  subst hc0
  obtain rfl:k=0:=by omega
  simp[execOp,go_sem,ho,hx,hy,hu,hso,hkc]
 | some ad=>simp[execOp,go_sem,ho,hx,hy,hu,hso,hkc]
theorem Dm {i:Operand} (ho:o.op = .slice t x (some i) none none) (hx:ρ x = .slice a n c) (hy:ρ i = .int .i64 (k:Int)) (hk:k≤n)
 (hu:P.underlying t=some (.slice e)) (hs:(P.info? e).map (·.size)=some sz) (hl:vs.length=n*sz) (h:nR W0 a c n vs):∃v,(execOp ρ o).run P w = .ok (.value v) w∧∃a' c',v = .slice a' (n-k) c'∧nR W0 a' c' (n-k) (vs.drop (k*sz)):=by
 obtain⟨inf,hinf,hsz⟩:∃inf,P.info? e=some inf∧inf.size=sz:=by
  cases h:P.info? e with
  | none=>rw[h] at hs;cases hs
  | some inf=>rw[h] at hs;exact⟨inf,rfl,by simpa using hs⟩
 have hso:(Go.sizeOf e).run P w = .ok sz w:=by simp[Go.sizeOf,typeInfo,hinf,go_sem,hsz]
 have hle:=h.le
 have hmx:=h.mx
 have hkn:(k:Int)≤(n:Int):=by omega
 have hnc:(n:Int)≤(c:Int):=by omega
 cases a with
 | none=>
  have hc0:=h.nl rfl
  subst hc0
  obtain rfl:n=0:=by omega
  obtain rfl:k=0:=by omega
  obtain rfl:vs=[]:=List.eq_nil_of_length_eq_zero (by simpa using hl)
  exact⟨.slice none 0 0,by simp[execOp,go_sem,ho,hx,hy,hu,hso],none,0,rfl,Nat.le_refl _,Nat.zero_le _,fun _=>rfl,by rw[List.drop_nil];exact dA.nil⟩
 | some ad=>
  by_cases hc:k=c
  ·subst hc
   obtain rfl:k=n:=by omega
   refine⟨.slice (some ad) 0 0,by simp[execOp,go_sem,ho,hx,hy,hu,hso],some ad,0,by rw[Nat.sub_self],by omega,Nat.zero_le _,fun e=>(by cases e),?_⟩
   rw[List.drop_eq_nil_of_le (by omega)]
   exact dA.nil
  ·refine⟨.slice (some (ad.add (k*sz))) (n-k) (c-k),?_,some (ad.add (k*sz)),c-k,rfl,by omega,by omega,fun e=>(by cases e),?_⟩
   ·have h1:k<c:=by omega
    simp[execOp,go_sem,ho,hx,hy,hu,hso,hkn,hnc,h1]
    exact fun e=>absurd e.symm hc
   ·intro i u hi
    rw[List.getElem?_drop] at hi
    obtain⟨b,off,e1,e2⟩:=h.rd _ _ hi
    cases e1
    exact⟨b,off+k*sz,by rw[Addr.add_lit],by rw[Nat.add_assoc];exact e2⟩
def sS (W0:World) (q:Nat) (l:List Cc) (c:Cc):(Nat→Bool)→(Nat→Value)→World→Prop:=fun L y W=>
 Below W0.heap.size W0 W∧(L 23=true→L 15=true)∧(L 15=true→L 9=true) ∧
 (L 1=true→L 9=false→∃g,y 1 = .slice (some ⟨g,0,none⟩) 0 0∧Own W W0.heap.size 106 3 (.slice (some ⟨g,0,none⟩) 0 0) 0 []) ∧
 (L 9=true→L 15=false→Own W W0.heap.size 106 3 (y 9) q ((l.flatMap je).take (q*3))) ∧
 (L 14=true→L 15=false→∃a e,y 14 = .slice a 1 e∧nR W a e 1 (je c)) ∧
 (L 15=true→L 23=false→Own W W0.heap.size 106 3 (y 15) (q+1) ((l.flatMap je).take (q*3)++je c)) ∧
 (L 23=true→Own W W0.heap.size 106 3 (y 23) (q+1+(l.length-q)) (((l.flatMap je).take (q*3)++je c)++(l.flatMap je).drop (q*3)))
theorem aY {l:List Cc} {c:Cc}:∀L y W W',Below W.heap.size W W'→sS W0 q l c L y W→sS W0 q l c L y W':=
 fun _ _ _ _ hb ⟨h1,h2,h3,h4,h5,h6,h7,h8⟩=>⟨ag h1 hb,h2,h3,fun a b=>by
  obtain⟨g,e1,e2⟩:=h4 a b
  exact⟨g,e1,e2.below hb⟩,fun a b=>(h5 a b).below hb,fun a b=>by
  obtain⟨x,e,e1,e2⟩:=h6 a b
  exact⟨x,e,e1,e2.below hb⟩,fun a b=>(h7 a b).below hb,fun a=>(h8 a).below hb⟩
theorem MR {l:List Cc} {c:Cc} (y:Nat→Value):sS W0 q l c (fun _=>false) y W0:=by
 refine⟨Below.refl _ _,?_,?_,?_,?_,?_,?_,?_⟩<;>· intro h;cases h
theorem Mm {l:List Cc} {c:Cc} (h:sS W0 q l c L y W):sS W0 q l c (bK L 1) (bZ y 1 (.slice (some ⟨W.heap.size,0,none⟩) 0 0)) (W.alloc (.cells #[] 106)):=by
 obtain⟨h1,h2,h3,h4,h5,h6,h7,h8⟩:=aY _ _ _ _ ((Below.refl _ _).alloc (Nat.le_refl _) (.cells #[] 106)) h
 exact⟨h1,h2,h3,fun _ _=>⟨_,rfl,Own.empty _ _ h.1.size⟩,h5,h6,h7,h8⟩
theorem KZ {l:List Cc} {c:Cc} (h:sS W0 q l c L y W) (hb:Below W.heap.size W W') (ho:Own W' W0.heap.size 106 3 v q ((l.flatMap je).take (q*3))):sS W0 q l c (bK L 9) (bZ y 9 v) W':=by
 obtain⟨h1,h2,h3,h4,h5,h6,h7,h8⟩:=aY _ _ _ _ hb h
 exact⟨h1,h2,fun _=>rfl,fun _ e=>(by cases e),fun _ _=>ho,h6,h7,h8⟩
theorem GA {l:List Cc} {c:Cc} {e:Nat} (h:sS W0 q l c L y W) (hb:Below W.heap.size W W') (ho:nR W' a e 1 (je c)):sS W0 q l c (bK L 14) (bZ y 14 (.slice a 1 e)) W':=by
 obtain⟨h1,h2,h3,h4,h5,h6,h7,h8⟩:=aY _ _ _ _ hb h
 exact⟨h1,h2,h3,h4,h5,fun _ _=>⟨a,e,rfl,ho⟩,h7,h8⟩
theorem Gh {l:List Cc} {c:Cc} (h:sS W0 q l c L y W) (h15:L 15=false) (h9:L 9=true) (hg:W.grownBy W' (y 9).ownBlock) (ho:Own W' W0.heap.size 106 3 v (q+1) ((l.flatMap je).take (q*3)++je c)):sS W0 q l c (bK L 15) (bZ y 15 v) W':=by
 obtain⟨h1,h2,h3,h4,h5,h6,h7,h8⟩:=h
 have h23:L 23=true→False:=fun e=>by rw[h2 e] at h15;cases h15
 exact⟨h1.grown hg h1.size (fun k hk=>(h5 h9 h15).ge k hk),fun _=>rfl,fun _=>h9,fun _ e=>(by rw[show bK L 15 9=L 9 from rfl,h9] at e;cases e),fun _ e=>(by cases e),fun _ e=>(by cases e),fun _ _=>ho,fun e=>(h23 e).elim⟩
theorem GG {l:List Cc} {c:Cc} (h:sS W0 q l c L y W) (h23:L 23=false) (h15:L 15=true) (hg:W.grownBy W' (y 15).ownBlock) (ho:Own W' W0.heap.size 106 3 v (q+1+(l.length-q)) (((l.flatMap je).take (q*3)++je c)++(l.flatMap je).drop (q*3))):sS W0 q l c (bK L 23) (bZ y 23 v) W':=by
 obtain⟨h1,h2,h3,h4,h5,h6,h7,h8⟩:=h
 exact⟨h1.grown hg h1.size (fun k hk=>(h7 h15 h23).ge k hk),fun _=>h15,h3,fun _ e=>(by rw[show bK L 23 9=L 9 from rfl,h3 h15] at e;cases e),fun _ e=>(by rw[show bK L 23 15=L 15 from rfl,h15] at e;cases e),fun _ e=>(by rw[show bK L 23 15=L 15 from rfl,h15] at e;cases e),fun _ e=>(by cases e),fun _=>ho⟩
structure BO (S S' : MW):Prop where
 sp:S'.H.sp=S.H.sp
 fi:S'.H.fi=S.H.fi
 ct:S'.H.ct=S.H.ct
 dk:S'.H.dk=S.H.dk
 fl:S'.H.m.fs.length=S.H.m.fs.length
 sl:S'.H.sl.length=S.H.sl.length
theorem BO.refl (S:MW):BO S S:=⟨rfl,rfl,rfl,rfl,rfl,rfl⟩
theorem BO.trans {a b c:MW} (h:BO a b) (k:BO b c):BO a c:=⟨k.sp.trans h.sp,k.fi.trans h.fi,k.ct.trans h.ct,k.dk.trans h.dk,k.fl.trans h.fl,k.sl.trans h.sl⟩
theorem dz.rdM (h:dz w B b S):dA w (some ⟨b,1,none⟩) (dC S.H).toList:=cB h.blk 1 11
theorem Bd.cas {T:List (List En)} (h:Bd m T):m.ca.length≤60:=Km (m:=dw m T) h.rt.ca h.rt.pt.st
theorem Bd.fis {T:List (List En)} (h:Bd m T):∀f∈m.st.fs,f.b.length≤12:=uZ h.rt.pt.st
def Fv (S:MW) (B b:Nat) (w:World) (ks:List (Nat × Array Value × TypeId)):(Nat→Bool)→(Nat→Value)→World→Prop:=fun _ _ W=>
 ∃a c l,dz W B b (S.lst a c l)∧MS w b S W (S.lst a c l)∧∀t∈ks,aD W t.1 t.2.1 t.2.2∧¬jO b S t.1
theorem aC {ks:List (Nat × Array Value × TypeId)}:∀L y W W',Below W.heap.size W W'→Fv S B b w ks L y W→Fv S B b w ks L y W':=
 fun _ _ _ _ hb ⟨a,c,l,h1,h2,h3⟩=>⟨a,c,l,h1.below hb,h2.below hb,fun t ht=>⟨(h3 t ht).1.ext hb,(h3 t ht).2⟩⟩
theorem tO {ks:List (Nat × Array Value × TypeId)} {y' : Value→Nat→Value} (n:Int) (hn : -9223372036854775808≤n∧n≤9223372036854775807) (h:Fv S B b w ks L y W) {R:Value→World→Prop} (hR:∀x:Int,0≤x→x<256→(x<n∨x=0)→∀W',R (.int .i64 x) W') :
  Calls Tryz.prog 30 #[.pointer (some ⟨b,0,none⟩),.int .i64 n] W fun e W' => ∃v,e = .returned v∧Fv S B b w ks L' (y' v) W'∧R v W':=by
 obtain⟨a,c,l,h1,h2,h3⟩:=h
 refine (dL _ n B b W h1 hn).mono ?_
 rintro r W' ⟨x,a',c',l',rfl,k1,k2,k3,_⟩
 exact⟨_,rfl,⟨a',c',l',k1,h2.trans k2,fun t ht=>⟨k2.blkN (h3 t ht).1 (h3 t ht).2,(h3 t ht).2⟩⟩,hR x k3.1 k3.2.1 k3.2.2 W'⟩
theorem ME {ks:List (Nat × Array Value × TypeId)} {y' : Value→Nat→Value} (h:Fv S B b w ks L y W) {R:Value→World→Prop} (hR:∀P W',R (.agg (gD P)) W') :
  Calls Tryz.prog 33 #[.pointer (some ⟨b,0,none⟩)] W fun e W' => ∃v,e = .returned v∧Fv S B b w ks L' (y' v) W'∧R v W':=by
 obtain⟨a,c,l,h1,h2,h3⟩:=h
 refine (rA _ B b W h1).mono ?_
 rintro r W' ⟨P,a',c',l',rfl,k1,k2⟩
 exact⟨_,rfl,⟨a',c',l',k1,h2.trans k2,fun t ht=>⟨k2.blkN (h3 t ht).1 (h3 t ht).2,(h3 t ht).2⟩⟩,hR P W'⟩
theorem Mr {l:List Cc} {f i:Int} (hq:q≤l.length) (hno:∀d∈l.take q,vv f i d=false) (hy:q=l.length∨∃c,l[q]?=some c∧vv f i c=true):rR l f i=q:=by
 unfold rR
 rcases hy with rfl|⟨c,hc,hg⟩
 ·rw[List.take_of_length_le (Nat.le_refl _)] at hno
  rw[List.findIdx?_eq_none_iff.2 fun d hd=>hno d hd];rfl
 ·obtain⟨hl,rfl⟩:=List.getElem?_eq_some_iff.1 hc
  rw[List.findIdx?_eq_some_iff_getElem.2 ⟨hl,hg,fun j hj=>by
   have:=hno (l[j]'(by omega)) (List.mem_take_iff_getElem.2 ⟨j,by omega,rfl⟩)
   rw[this];decide⟩];rfl
def Ol (S:MW) (f i:Int) (B b:Nat) (w:World) (r:Ending) (w' : World):Prop:=∃x S',r = .returned (.int .i64 x)∧dz w' B b S'∧MS w b S w' S'∧BO S S'∧S'.T=S.T∧Bd S'.H.ma S'.T∧(x = -1∨∃c∈S'.H.ca,c.f=f∧c.i=i∧c.k=x)
theorem Di (S:MW) (f i:Int) (B b:Nat) (w:World) (h:dz w B b S) (hd:Bd S.H.ma S.T) (hi:tK S.H.ma.st f i) :
  Calls Tryz.prog 105 #[.pointer (some ⟨b,0,none⟩),.int .i64 f,.int .i64 i] w (Ol S f i B b w):=by
 have z7:S.H.ca.length≤60:=hd.cas
 have hBs:=Lib.hid h.bs
 have hb':=h.lt
 obtain⟨F,rfl⟩:=Int.eq_ofNat_of_zero_le hi.1.1
 obtain⟨I,rfl⟩:=Int.eq_ofNat_of_zero_le hi.2.1
 have hFl:F<S.H.fi.length:=by have:=hi.1.2;simp[MH.ma,bY] at this;omega
 have hFi:(F:Int)<(S.H.fi.length:Int):=by omega
 have hlim:=BD hd.few.2.2.2.2.1 hi
 have hF5:(F:Int)<5:=hlim.1
 have hI12:(I:Int)<12:=hlim.2.1
 obtain⟨N,hN⟩:∃N,(aT S.H.ma.st (F:Int)).n=N:=⟨_,rfl⟩
 obtain⟨p,hp⟩:∃p,S.H.fi[F]?=some p:=⟨_,List.getElem?_eq_getElem hFl⟩
 have hpn:p.n=N:=by
  rw[←hN]
  have:aT S.H.ma.st (F:Int)=p.fi:=ng (by show (S.H.fi.map PF.fi)[F]?=_;rw[List.getElem?_map,hp];rfl)
  rw[this];rfl
 have hp':=Lib.hid hp
 have hN':=Lib.hid hN
 have hpn':=Lib.hid hpn
 have hd':=Lib.hid hd
 have hi':=Lib.hid hi
 clear hd hi hp hN hpn hlim
 go_enter func105,ntmps105
 have hc:=h.blk.cell
 unfold fD at hc
 go_upto_region 2 with (fail)
 clear hc
 go_loopw [20] (fun k wr => ∃q:Nat,q≤S.H.ca.length∧k = .int .i64 q∧Below w.heap.size w wr∧Hid (∀d∈S.H.ca.take q,¬(d.f=(F:Int)∧d.i=(I:Int)))) (fun k _=>S.H.ca.length-(intOf k).toNat)
 case atStart=>exact⟨0,Nat.zero_le _,rfl,Below.refl _ _,Lib.hid (by simp)⟩
 case round=>
  obtain⟨q,hq,rfl,hbr,hno⟩:=hrel
  by_cases hql:q<S.H.ca.length
  ·obtain⟨bc,oc,hca,hrd⟩:=rD (h.ma.rd.below hbr).ca.rd q hql
   obtain⟨c,hc⟩:∃c,S.H.ca[q]?=some c:=⟨_,List.getElem?_eq_getElem hql⟩
   rw[show S.H.ca[q]=c from (List.getElem?_eq_some_iff.1 hc).2] at hrd
   have hqi:(q:Int)<(S.H.ca.length:Int):=by omega
   have hc':=Lib.hid hc
   clear hc
   rw[hca]
   go_wp2_with (first | (refine ay _ _ rfl bc (oc+q*3) rfl rfl _ hrd _ underlying106 rfl cached_size ?_) | (refine aL rfl _ _ _ rfl (wL c) rfl rfl rfl cached_size (uz c) ?_))
   intro w3 hb3 cx3
   have hbr3:=ag hbr hb3
   have hcx:=cx3.cell
   have hl3:=cx3.lt
   clear hbr hb3 hrd
   unfold wL at hcx
   by_cases hy:c.f=(F:Int)∧c.i=(I:Int)
   ·obtain⟨hy1,hy2⟩:=hy
    rw[hy1,hy2] at hcx
    go_wp2
    go_ret
    exact⟨c.k,S,rfl,h.below hbr3,(MS.refl w b S).below hbr3,.refl _,rfl,hd'.out,.inr ⟨c,List.mem_of_getElem? hc'.out,hy1,hy2,rfl⟩⟩
   ·have hno' : Hid (∀d∈S.H.ca.take (q+1),¬(d.f=(F:Int)∧d.i=(I:Int))):=Lib.hid fun d hd=>by
     rw[take_at hc'.out] at hd
     rcases List.mem_append.1 hd with hd|hd
     ·exact hno.out d hd
     ·rw[List.mem_singleton.1 hd];exact hy
    by_cases hy1:c.f=(F:Int)
    ·have hy2:¬c.i=(I:Int):=fun e=>hy ⟨hy1,e⟩
     clear hy
     go_wp2
     go_roundw
     case rel=>exact⟨q+1,by omega,by go_num,hbr3,hno'⟩
     case measure=>simp[intOf];omega
    ·clear hy
     go_wp2
     go_roundw
     case rel=>exact⟨q+1,by omega,by go_num,hbr3,hno'⟩
     case measure=>simp[intOf];omega
  ·have hqi:¬(q:Int)<(S.H.ca.length:Int):=by omega
   rw[List.take_of_length_le (by omega)] at hno
   have h1:=h.below hbr
   have s1:=(MS.refl w b S).below hbr
   have hn0:=Lib.hid (h1.new (Nat.le_refl _))
   have hc:=h1.blk.cell
   unfold fD at hc
   go_wp2_with (refine ay _ _ rfl b 1 rfl rfl _ h1.rdM _ underlying41 rfl machine_size ?_)
   refine (BL S.H F I _ h1.ma.rd ⟨by omega,fun f hf=>Nat.le_trans (hd'.out.fis f hf) (by decide)⟩ (fun c hc=>hd'.out.rt.ca.lt c hc) (by have:=hi'.out.1;simpa[MH.ma,bY] using this) hi'.out.2).mono ?_
   rintro r w2 ⟨rfl,hb2⟩
   have hP:Hid (dS (bP S.H.ma F I) (N-(I:Int)*8)=bP S.H.ma F I∧bP S.H.ma F I=gL S.H.ma F I):=Lib.hid (by
    have e:bP S.H.ma F I=gL S.H.ma F I:=by
     unfold bP gL
     rw[show S.H.ma.ca.find? (fun c=>decide (c.f=(F:Int))&&decide (c.i=(I:Int)))=none from xu hno.out]
    exact⟨by rw[e,←hN'.out];exact Jy _ _ _,e⟩)
   generalize bP S.H.ma F I=P at hP
   have h2:=h1.below hb2
   have s2:=s1.below hb2
   clear h1 s1 hc hb2 h hbr
   go_wp2_with (refine aL rfl _ _ _ rfl (gD P) rfl rfl rfl psize (iL P) ?_)
   intro w3 hb3 px3
   have h3:=h2.below hb3
   have s3:=s2.below hb3
   have hnp:=Lib.hid (h2.new (Nat.le_refl _))
   have hp0:=Lib.hid s2.size
   have hp1:w2.heap.size<w3.heap.size:=px3.lt
   have hpB:B≤w2.heap.size:=Nat.le_trans hBs.out hp0.out
   clear h2 s2 hb3
   generalize hp4:w2.heap.size=p4 at *
   clear hp4
   go_wp2_with fail
   refine (dL _ 2 B b _ h3 (by omega)).mono ?_
   rintro r w4 ⟨x,a4,c4,l4,rfl,h4,s4,hx,_⟩
   have px4:=s4.blkN px3 hnp.out
   have s4:=s3.trans s4
   clear h3 s3 px3 hx hp1
   go_upto_if 46 with (fail)
   go_cut [10] (fun s10 wx => ∃(d:Bool) (a:Option Addr) (c:Nat) (l:List UInt8) (P:Page),s10 = .bool d∧dz wx B b (S.lst a c l)∧MS w b S wx (S.lst a c l)∧aD wx p4 (gD P) 79∧Hid (dS P (N-(I:Int)*8)=P∧(d=false→P=gL S.H.ma F I)))
   case first=>
    by_cases hx1:x=1
    ·subst hx1
     go_wp2_with fail
     refine (rA _ B b _ h4).mono ?_
     rintro r w5 ⟨P2,a5,c5,l5,rfl,h5,s5⟩
     rw[kR] at h5 s5
     have px5:=s5.blkN px4 hnp.out
     have s5:=s4.trans s5
     clear h4 s4 px4 hP
     go_wp2_with (refine ax rfl _ _ _ rfl p4 (gD P2) rfl rfl _ _ px5 rfl psize (iL _) ?_)
     intro w6 px6 hg6
     have h6:=h5.locT px5 (by decide) hnp.out hpB hg6
     have s6:=s5.loc hg6 hp0.out
     clear h5 s5 px5 hg6
     go_upto_region 11 with (fail)
     go_loopw [49] (fun j wr => ∃k:Nat,k≤8∧j = .int .i64 k∧dz wr B b (S.lst a5 c5 l5)∧MS w b S wr (S.lst a5 c5 l5)∧aD wr p4 (gD (gG P2 (N-(I:Int)*8) k)) 79) (fun j _=>8-(intOf j).toNat)
     case atStart=>exact⟨0,by omega,rfl,h6,s6,by rw[show gG P2 (N-(I:Int)*8) 0=P2 from by ext j hj;simp[gG]];exact px6⟩
     case round=>
      clear h6 s6 px6
      obtain⟨k,hk,rfl,hm,hs,px⟩:=hrel
      by_cases hk8:k<8
      ·have hki:(k:Int)<8:=by omega
       have hcx:=hm.blk.cell
       unfold fD at hcx
       dsimp only[MW.lst] at hcx
       obtain⟨bf,of,hai,hrd⟩:=kJ iC (by decide) hm.ma.rd.st.rd F hFl
       dsimp only[MW.lst] at hai hrd
       rw[show S.H.fi[F]=p from (List.getElem?_eq_some_iff.1 hp'.out).2] at hrd
       rw[hai] at hcx
       have rc0:wr.cell? ⟨bf,of+F*2,none⟩=some (.int .i64 N):=by
        rw[←hpn'.out]
        obtain⟨b',o',e,hcc⟩:=hrd 0 _ rfl
        cases e
        exact hcc
       clear hrd hai
       have hw1:IntKind.i64.wrap (8*(I:Int))=8*(I:Int):=IntWalk.i64_in _ (by omega)
       have hw2:IntKind.i64.wrap (8*(I:Int)+(k:Int))=8*(I:Int)+(k:Int):=IntWalk.i64_in _ (by omega)
       by_cases hge:N≤8*(I:Int)+k
       ·have hset:Hid ((gD (gG P2 (N-(I:Int)*8) k)).setIfInBounds k (.int .u8 0)=gD (gG P2 (N-(I:Int)*8) (k+1))):=Lib.hid (by
         rw[←vB P2 _ k hk8 (by omega)];exact wY _ k hk8 0)
        generalize hT:gG P2 (N-(I:Int)*8) k=T at px hset
        clear hT
        go_wp2_with (refine az rfl _ _ _ rfl p4 k _ [.int .u8 0] rfl rfl rfl _ _ px (by show k+1≤8;omega) (by kernel_rfl) (fun u hu=>by cases List.mem_singleton.1 hu;rfl) ?_)
        intro w7 px7 hg7
        rw[Pw.putAt_one,hset.out] at px7
        have hm7:=hm.locT px (by decide) hnp.out hpB hg7
        have hs7:=hs.loc hg7 hp0.out
        clear hm hs px hg7 hcx rc0
        go_wp2
        go_roundw
        case rel=>exact⟨k+1,by omega,by go_num,hm7,hs7,px7⟩
        case measure=>simp[intOf];omega
       ·have hset:gG P2 (N-(I:Int)*8) k=gG P2 (N-(I:Int)*8) (k+1):=by
         ext j hj
         simp only[gG,Vector.getElem_ofFn]
         by_cases e:N-(I:Int)*8≤(j:Int)
         ·rw[if_neg (by omega),if_neg (by omega)]
         ·rw[if_neg (by omega),if_neg (by omega)]
        rw[hset] at px
        clear hset
        go_wp2
        go_roundw
        case rel=>exact⟨k+1,by omega,by go_num,hm,hs,px⟩
        case measure=>simp[intOf];omega
      ·have hki:¬(k:Int)<8:=by omega
       rw[vM _ _ k (by omega)] at px
       have hC:Hid (dS (dS P2 (N-(I:Int)*8)) (N-(I:Int)*8)=dS P2 (N-(I:Int)*8)):=Lib.hid (GM _ _)
       generalize dS P2 (N-(I:Int)*8)=C at px hC
       go_wp2
       go_meet
       case rel=>exact⟨true,a5,c5,l5,C,rfl,hm,hs,px,Lib.hid ⟨hC.out,fun h=>(by cases h)⟩⟩
    ·go_wp2
     go_meet
     case rel=>exact⟨false,a4,c4,l4,P,rfl,h4,s4,px4,Lib.hid ⟨hP.out.1,fun _=>hP.out.2⟩⟩
   case rest=>
    obtain⟨d,a5,c5,l5,P2,rfl,h5,s5,px5,hP2⟩:=hcut
    clear h4 s4 px4 hP
    go_upto_region 16 with (fail)
    refine dW 9 [.v (.pointer (some ⟨b,0,none⟩)),.v (.agg (gD P2)),_,.r 3 ((aR fun v => ∃x:Int,v = .int .i64 x∧0≤x)),.r 4 ((aR fun v => ∃u,v = .bool u)),_,_,_,.r 8 ((aR fun v => ∃u,v = .agg (uP ⟨P2,1,u,d,(F:Int),(I:Int)⟩)))] (Fv S B b w [(p4,gD P2,79)]) aC (fun _=>⟨a5,c5,l5,h5,s5,by simpa using ⟨px5,hnp.out⟩⟩) (Qk aC rfl (ae ?_ (Qk aC rfl (ae ?_ (ae ?_ (Qk aC rfl (Qk aC rfl (Qk aC rfl (ae ?_ (aB)))))))))) (fun _=>rfl) rfl ?_
    ·intro ρ y W L hw hn hLi hLd hb hd
     refine bS aC (fun _ _ h=>h) hb ?_
     have E9:ρ (.tmp 9) = .pointer (some ⟨p4,0,none⟩):=(hn (.tmp 9) rfl).trans rfl
     obtain⟨a,c,l,m1,m2,m3⟩:=hb
     have m3:=(m3 _ (List.mem_singleton.2 rfl)).1
     refine aj (.agg (gD P2)) (ah rfl) (bI rfl E9 m3 underlying79 rfl psize) rfl
    ·intro ρ y W L hw hn hLi hLd hb hd;have E72:=hw 72 2 rfl;have h2:y 2=_:=hd 2 rfl
     have EC:∀v,ρ (.const v)=v:=fun v=>hn (.const v) trivial
     have EF:∀f,ρ (.func f) = .func (.func f) #[] #[]:=fun f=>hn (.func f) trivial
     refine eu _ _ (ah rfl) (aN rfl (EF _) func30 (by kernel_rfl) (by kernel_rfl) (by simp only[List.map_toArray,List.map_cons,List.map_nil,E72,h2,EC,EF];rfl)) ?_
     exact tO 2 (by omega) hb fun x h1 _ _ _=>⟨x,rfl,h1⟩
    ·intro ρ y W L hw hn hLi hLd hb hd
     refine bS aC (fun _ _ h=>h) hb ?_
     have E73:=hw 73 3 rfl
     have h3:=hd 3 rfl
     obtain⟨x,hx,_⟩:=h3
     refine aj _ (ah rfl) (lH rfl (E73.trans hx) (hn (.const _) trivial) (by simp[go_sem];rfl)) ⟨_,rfl⟩
    ·intro ρ y W L hw hn hLi hLd hb hd
     refine bS aC (fun _ _ h=>h) hb ?_
     have E71:=hw 71 1 rfl
     have h1:y 1=_:=hd 1 rfl
     have E74:=hw 74 4 rfl
     have h4:=hd 4 rfl
     have E75:=hw 75 5 rfl
     have h5:y 5=_:=hd 5 rfl
     have E76:=hw 76 6 rfl
     have h6:y 6=_:=hd 6 rfl
     have E77:=hw 77 7 rfl
     have h7:y 7=_:=hd 7 rfl
     obtain⟨u,hu⟩:=h4
     have EC:∀v,ρ (.const v)=v:=fun v=>hn (.const v) trivial
     refine aj (.agg (uP ⟨P2,1,u,d,(F:Int),(I:Int)⟩)) (ah rfl) (by simp[execOp,go_sem,E71,h1,E74,E75,h5,E76,h6,E77,h7,EC,hu,gD,uP]) ⟨_,rfl⟩
    intro y W5 hbW5 hRW5
    have hy3:((aR fun v => ∃x:Int,v = .int .i64 x∧0≤x)).r (y 3) W5:=hRW5 3 (by decide)
    have hy4:((aR fun v => ∃u,v = .bool u)).r (y 4) W5:=hRW5 4 (by decide)
    have hy8:((aR fun v => ∃u,v = .agg (uP ⟨P2,1,u,d,(F:Int),(I:Int)⟩))).r (y 8) W5:=hRW5 8 (by decide)
    clear hRW5
    obtain⟨a6,c6,l6,h6,s6,px6⟩:=hbW5
    have px6:=(px6 _ (List.mem_singleton.2 rfl)).1
    obtain⟨u,hu⟩:=hy8
    rw[hu]
    clear hu h5 s5 px5
    go_wp2_with fail
    refine (xW _ _ B b _ h6 (by have:=hd'.out.few.1;show S.H.m.fs.length≤1000;have e:S.H.ma.m.fs.length=S.H.m.fs.length:=rfl;omega)).mono ?_
    rintro r w7 ⟨x7,a7,c7,l7,fs,rfl,h7,s7,hx7⟩
    rw[kR] at h7 s7
    have s7:=s6.trans s7
    clear h6 s6 px6
    rcases hx7 with ⟨rfl,rfl⟩|⟨j,rfl,hj,hjr,rfl⟩
    ·go_wp2
     go_ret
     exact⟨-1,_,rfl,h7,s7,⟨rfl,rfl,rfl,rfl,rfl,rfl⟩,rfl,hd'.out,.inl rfl⟩
    ·have hj' : j<S.H.m.fs.length:=hj
     have hjr':=Lib.hid hjr
     have hj0:(0:Int)≤(j:Int):=by omega
     clear hj hjr
     go_upto_region 20 with (fail)
     go_loopw [13] (fun k wr => ∃q:Nat,q≤S.H.ca.length∧k = .int .i64 q∧Below w7.heap.size w7 wr∧Hid (∀d∈S.H.ca.take q,vv F I d=false)) (fun k _=>S.H.ca.length-(intOf k).toNat)
     case atStart=>exact⟨0,Nat.zero_le _,rfl,Below.refl _ _,Lib.hid (by simp)⟩
     case round=>
      obtain⟨q,hq,rfl,hb7,hno7⟩:=hrel
      have hm8:=h7.below hb7
      have hwc:IntKind.i64.wrap (100*(F:Int))=100*(F:Int):=IntWalk.i64_in _ (by omega)
      have hwd:IntKind.i64.wrap (100*(F:Int)+(I:Int))=100*(F:Int)+(I:Int):=IntWalk.i64_in _ (by omega)
      by_cases hql:q<S.H.ca.length
      ·obtain⟨bc,oc,hca,hrd⟩:=rD hm8.ma.rd.ca.rd q hql
       have hca:S.H.ac=some ⟨bc,oc,none⟩:=hca
       obtain⟨c,hc⟩:∃c,S.H.ca[q]?=some c:=⟨_,List.getElem?_eq_getElem hql⟩
       have hrd:dA wr (some ⟨bc,oc+q*3,none⟩) (je c):=by rw[←(List.getElem?_eq_some_iff.1 hc).2];exact hrd
       have hqi:(q:Int)<(S.H.ca.length:Int):=by omega
       have hcl:=hd'.out.rt.ca.file c (List.mem_of_getElem? hc)
       have hcl2:=BD hd'.out.few.2.2.2.2.1 hcl
       have hcl1:0≤c.f∧0≤c.i:=⟨hcl.1.1,hcl.2.1⟩
       have hwa:IntKind.i64.wrap (100*c.f)=100*c.f:=IntWalk.i64_in _ (by omega)
       have hwb:IntKind.i64.wrap (100*c.f+c.i)=100*c.f+c.i:=IntWalk.i64_in _ (by omega)
       have hq0:∀W,Below wr.heap.size wr W→W.cell? ⟨bc,oc+q*3,none⟩=some (.int .i64 c.f):=fun W hb=>by
        obtain⟨b',o',e,hcc⟩:=(hrd.below hb) 0 _ rfl
        cases e
        exact hcc
       have hq1:∀W,Below wr.heap.size wr W→W.cell? ⟨bc,oc+q*3+1,none⟩=some (.int .i64 c.i):=fun W hb=>by
        obtain⟨b',o',e,hcc⟩:=(hrd.below hb) 1 _ rfl
        cases e
        exact hcc
       have hgc:Hid (vv F I c=true↔¬100*c.f+c.i<100*(F:Int)+(I:Int)):=Lib.hid (by
        rw[qO]
        omega)
       by_cases hlt:100*c.f+c.i<100*(F:Int)+(I:Int)
       ·skip
        go_upto_region 20 with (fail)
        refine aG 35 [_,_,_,_,_,_,_,_,_,_,_,_,_,_,_,_,_,_,_,_,_,_,_,_,_,_,_,_,_,_,_,_,_,_,.v (.bool true)] (Gk rfl (Gk rfl (Gk rfl (Gf b 1 rfl rfl (Gf b 10 rfl rfl (Gl hm8.blk (V:=.slice S.H.ac S.H.ca.length S.H.cc) (by simp[fD,MW.frs,MW.lst]) rfl rfl rfl rfl (Gn rfl rfl rfl rfl (Gb (.bool true) (by simp[go_sem,hqi,hql]) rfl rfl rfl rfl rfl (Gk rfl (Gk rfl (Gk rfl (Gf b 1 rfl rfl (Gf b 10 rfl rfl (Gl hm8.blk (V:=.slice (some ⟨bc,oc,none⟩) S.H.ca.length S.H.cc) (by simp[fD,MW.frs,MW.lst,hca]) rfl rfl rfl rfl (Gk rfl (Gr (.pointer (some ⟨bc,oc+q*3,none⟩)) (fun ρ y W hb hKn=>(bB rfl (aF rfl hKn) (aF rfl hKn) hql underlying38 cached_size)) rfl rfl (Gf bc (oc+q*3) rfl rfl (Gc (.int .i64 c.f) (fun W hb=>by simp[hq0 _ hb]) rfl rfl rfl rfl (Gb (.int .i64 (100*c.f)) (by simp[go_sem,hwa]) rfl rfl rfl rfl rfl (Gk rfl (Gk rfl (Gf b 1 rfl rfl (Gf b 10 rfl rfl (Gl hm8.blk (V:=.slice (some ⟨bc,oc,none⟩) S.H.ca.length S.H.cc) (by simp[fD,MW.frs,MW.lst,hca]) rfl rfl rfl rfl (Gk rfl (Gr (.pointer (some ⟨bc,oc+q*3,none⟩)) (fun ρ y W hb hKn=>(bB rfl (aF rfl hKn) (aF rfl hKn) hql underlying38 cached_size)) rfl rfl (Gf bc (oc+q*3+1) rfl rfl (Gc (.int .i64 c.i) (fun W hb=>by simp[hq1 _ hb]) rfl rfl rfl rfl (Gb (.int .i64 (100*c.f+c.i)) (by simp[go_sem,hwb]) rfl rfl rfl rfl rfl (Gk rfl (Gb (.int .i64 (100*(F:Int))) (by simp[go_sem,hwc]) rfl rfl rfl rfl rfl (Gk rfl (Gb (.int .i64 (100*(F:Int)+(I:Int))) (by simp[go_sem,hwd]) rfl rfl rfl rfl rfl (Gb (.bool true) (by simp[go_sem,hlt]) rfl rfl rfl rfl rfl (Gk rfl (aB)))))))))))))))))))))))))))))))))))) (fun _=>rfl) rfl ?_
        intro y W8 hbW8 _
        have hno8:Hid (∀d∈S.H.ca.take (q+1),vv F I d=false):=Lib.hid fun d hd=>by
         rw[take_at hc] at hd
         rcases List.mem_append.1 hd with hd|hd
         ·exact hno7.out d hd
         ·rw[List.mem_singleton.1 hd]
          cases hg:vv F I c with
          | false=>rfl
          | true=>exact absurd hlt (hgc.out.1 hg)
        have hb8:=ag hb7 hbW8
        clear hbW8 hc hca hrd hq0 hq1 hgc hno7 hm8
        go_wp2
        go_roundw
        case rel=>exact⟨q+1,by omega,by go_num,hb8,hno8⟩
        case measure=>simp[intOf];omega
       ·skip
        go_upto_region 20 with (fail)
        refine aG 35 [_,_,_,_,_,_,_,_,_,_,_,_,_,_,_,_,_,_,_,_,_,_,_,_,_,_,_,_,_,_,_,_,_,_,.v (.bool false)] (Gk rfl (Gk rfl (Gk rfl (Gf b 1 rfl rfl (Gf b 10 rfl rfl (Gl hm8.blk (V:=.slice S.H.ac S.H.ca.length S.H.cc) (by simp[fD,MW.frs,MW.lst]) rfl rfl rfl rfl (Gn rfl rfl rfl rfl (Gb (.bool true) (by simp[go_sem,hqi,hql]) rfl rfl rfl rfl rfl (Gk rfl (Gk rfl (Gk rfl (Gf b 1 rfl rfl (Gf b 10 rfl rfl (Gl hm8.blk (V:=.slice (some ⟨bc,oc,none⟩) S.H.ca.length S.H.cc) (by simp[fD,MW.frs,MW.lst,hca]) rfl rfl rfl rfl (Gk rfl (Gr (.pointer (some ⟨bc,oc+q*3,none⟩)) (fun ρ y W hb hKn=>(bB rfl (aF rfl hKn) (aF rfl hKn) hql underlying38 cached_size)) rfl rfl (Gf bc (oc+q*3) rfl rfl (Gc (.int .i64 c.f) (fun W hb=>by simp[hq0 _ hb]) rfl rfl rfl rfl (Gb (.int .i64 (100*c.f)) (by simp[go_sem,hwa]) rfl rfl rfl rfl rfl (Gk rfl (Gk rfl (Gf b 1 rfl rfl (Gf b 10 rfl rfl (Gl hm8.blk (V:=.slice (some ⟨bc,oc,none⟩) S.H.ca.length S.H.cc) (by simp[fD,MW.frs,MW.lst,hca]) rfl rfl rfl rfl (Gk rfl (Gr (.pointer (some ⟨bc,oc+q*3,none⟩)) (fun ρ y W hb hKn=>(bB rfl (aF rfl hKn) (aF rfl hKn) hql underlying38 cached_size)) rfl rfl (Gf bc (oc+q*3+1) rfl rfl (Gc (.int .i64 c.i) (fun W hb=>by simp[hq1 _ hb]) rfl rfl rfl rfl (Gb (.int .i64 (100*c.f+c.i)) (by simp[go_sem,hwb]) rfl rfl rfl rfl rfl (Gk rfl (Gb (.int .i64 (100*(F:Int))) (by simp[go_sem,hwc]) rfl rfl rfl rfl rfl (Gk rfl (Gb (.int .i64 (100*(F:Int)+(I:Int))) (by simp[go_sem,hwd]) rfl rfl rfl rfl rfl (Gb (.bool false) (by simp[go_sem,hlt]) rfl rfl rfl rfl rfl (Gk rfl (aB)))))))))))))))))))))))))))))))))))) (fun _=>rfl) rfl ?_
        intro y W8 hbW8 _
        have hat:Hid (rR S.H.ca F I=q):=Lib.hid (Mr hq hno7.out (.inr ⟨c,hc,hgc.out.2 hlt⟩))
        clear hc hca hrd hq0 hq1 hgc
        have hb8:=ag hb7 hbW8
        have hm9:=h7.below hb8
        have s9:=s7.below hb8
        clear hbW8 hm8 hno7
        go_upto_region 22 with (fail)
        have sC:nR W8 S.H.ac S.H.cc S.H.ca.length (S.H.ca.flatMap je):=hm9.ma.rd.ca
        have sT:=sC.take (sz:=3) hq
        have hcl60:S.H.ca.length≤60:=z7
        have tlen:((S.H.ca.flatMap je).take (q*3)).length=q*3:=by rw[List.length_take,iN];omega
        have dlen:((S.H.ca.flatMap je).drop (q*3)).length=(S.H.ca.length-q)*3:=by rw[List.length_drop,iN];omega
        refine dW 27 [_,.r 1 ((aR fun _=>True)),_,_,_,_,.v (.slice S.H.ac S.H.ca.length S.H.cc),_,_,.r 9 ((aR fun _=>True)),_,_,_,.v (.agg #[.int .i64 (F:Int),.int .i64 (I:Int),.int .i64 (j:Int)]),.r 14 ((aR fun _=>True)),.r 15 ((aR fun _=>True)),_,_,_,_,.v (.slice S.H.ac S.H.ca.length S.H.cc),_,.r 22 ((aR fun v => ∃a e,v = .slice a (S.H.ca.length-q) e∧nR W8 a e (S.H.ca.length-q) ((S.H.ca.flatMap je).drop (q*3)))),.r 23 ((aR fun _=>True)),_,_,_] (sS W8 q S.H.ca ⟨(F:Int),(I:Int),(j:Int)⟩) aY (fun y=>MR y) (Qk aY rfl (ae ?_ (Qk aY rfl (Qk aY rfl (Qf aY b 1 rfl rfl (Qf aY b 10 rfl rfl (ae ?_ (Qk aY rfl (Qr aY (.slice S.H.ac q S.H.cc) (fun ρ y W hKn=>(DF (W0:=W8) rfl (aF rfl hKn) (aF rfl hKn) hq underlying38 cached_size sC).1) rfl rfl (ae ?_ (Qk aY rfl (Qk aY rfl (Qk aY rfl (ae ?_ (ae ?_ (ae ?_ (Qk aY rfl (Qk aY rfl (Qf aY b 1 rfl rfl (Qf aY b 10 rfl rfl (ae ?_ (Qk aY rfl (ae ?_ (ae ?_ (Qk aY rfl (Qf aY b 1 rfl rfl (Qf aY b 10 rfl rfl (aB)))))))))))))))))))))))))))) (fun _=>rfl) rfl ?_
        ·intro ρ y W L hw hn hLi hLd hb hd
         refine bO (.slice (some ⟨W.heap.size,0,none⟩) 0 0) (ah rfl) ?_ (Mm hb) trivial
         simp[execOp,go_sem]
        ·intro ρ y W L hw hn hLi hLd hb hd
         refine bS aY (fun _ _ h=>h) hb ?_
         have E124:=hw 124 5 rfl
         have h5:y 5=_:=hd 5 rfl
         refine aj (.slice S.H.ac S.H.ca.length S.H.cc) (ah rfl) (by simp[execOp,go_sem,E124,h5,(hm9.below hb.1).blk.cell,fD,MW.frs,MW.lst]) rfl
        ·intro ρ y W L hw hn hLi hLd hb hd;have E120:=hw 120 1 rfl;have h1:=hd 1 rfl;have E127:=hw 127 8 rfl;have h8:y 8=_:=hd 8 rfl
         obtain⟨g,hg1,hg2⟩:=hb.2.2.2.1 (hLd 1 rfl) hLi
         refine fu (ah rfl) (uM _ _ _ rfl W8.heap.size 106 (.agg #[.int .i64 0,.int .i64 0,.int .i64 0]) 3 24 underlying38 cached_info rfl (by decide) g (E120.trans hg1) hg2 S.H.ac q S.H.cc _ (E127.trans h8) sT.nl sT.le tlen (sT.below hb.1).rd (by unfold maxLen;omega) (by omega) hb.1.size) (fun v W1 h=>KZ hb h.1 h.2) (fun _ _ _=>trivial)
        ·intro ρ y W L hw hn hLi hLd hb hd
         refine bS aY (fun _ _ h=>h) hb ?_
         have E129:=hw 129 10 rfl
         have h10:y 10=_:=hd 10 rfl
         have E130:=hw 130 11 rfl
         have h11:y 11=_:=hd 11 rfl
         have E131:=hw 131 12 rfl
         have h12:y 12=_:=hd 12 rfl
         refine aj (.agg #[.int .i64 (F:Int),.int .i64 (I:Int),.int .i64 (j:Int)]) (ah rfl) (by simp[execOp,go_sem,E129,h10,E130,h11,E131,h12]) rfl
        ·intro ρ y W L hw hn hLi hLd hb hd;have E132:=hw 132 13 rfl;have h13:y 13=_:=hd 13 rfl
         refine bO (.slice (some ⟨W.heap.size,0,none⟩) 1 1) (ah rfl) ?_ (GA (W':=W.alloc (.cells (wL ⟨(F:Int),(I:Int),(j:Int)⟩) 106)) hb ((Below.refl _ _).alloc (Nat.le_refl _) _) ⟨Nat.le_refl _,by unfold maxLen;omega,fun e=>(by cases e),dA.new _ _ _⟩) trivial
         simp[execOp,go_sem,E132.trans h13,wL]
        ·intro ρ y W L hw hn hLi hLd hb hd;have E128:=hw 128 9 rfl;have h9:=hd 9 rfl;have E133:=hw 133 14 rfl;have h14:=hd 14 rfl
         obtain⟨a,e,hx1,hx2⟩:=hb.2.2.2.2.2.1 (hLd 14 rfl) hLi
         have hv:=hb.2.2.2.2.1 (hLd 9 rfl) hLi
         refine fu (ah rfl) (jq _ _ _ rfl W8.heap.size 106 (.agg #[.int .i64 0,.int .i64 0,.int .i64 0]) 3 24 underlying38 cached_info rfl (by decide) (y 9) q _ E128 hv a 1 e _ (E133.trans hx1) hx2.nl hx2.le rfl hx2.rd (Bz _) (by unfold maxLen;omega) (by omega) hb.1.size) (fun v W1 h=>Gh hb hLi (hLd 9 rfl) h.2.1 h.1) (fun _ _ _=>trivial)
        ·intro ρ y W L hw hn hLi hLd hb hd
         refine bS aY (fun _ _ h=>h) hb ?_
         have E138:=hw 138 19 rfl
         have h19:y 19=_:=hd 19 rfl
         refine aj (.slice S.H.ac S.H.ca.length S.H.cc) (ah rfl) (by simp[execOp,go_sem,E138,h19,(hm9.below hb.1).blk.cell,fD,MW.frs,MW.lst]) rfl
        ·intro ρ y W L hw hn hLi hLd hb hd
         refine bS aY (fun _ _ h=>h) hb ?_
         have E139:=hw 139 20 rfl
         have h20:y 20=_:=hd 20 rfl
         have E140:=hw 140 21 rfl
         have h21:y 21=_:=hd 21 rfl
         exact Ca (ah rfl) (Dm (W0:=W8) rfl (E139.trans h20) (E140.trans h21) hq underlying38 cached_size (iN _) sC) (fun _ h=>h)
        ·intro ρ y W L hw hn hLi hLd hb hd;have E134:=hw 134 15 rfl;have h15:=hd 15 rfl;have E141:=hw 141 22 rfl;have h22:=hd 22 rfl
         obtain⟨a,e,hx1,hx2⟩:=h22
         have hv:=hb.2.2.2.2.2.2.1 (hLd 15 rfl) hLi
         refine fu (ah rfl) (jq _ _ _ rfl W8.heap.size 106 (.agg #[.int .i64 0,.int .i64 0,.int .i64 0]) 3 24 underlying38 cached_info rfl (by decide) (y 15) (q+1) _ E134 hv a (S.H.ca.length-q) e _ (E141.trans hx1) hx2.nl hx2.le dlen (hx2.below hb.1).rd (fun u hu=>xg _ u (List.mem_of_mem_drop hu)) (by unfold maxLen;omega) (by omega) hb.1.size) (fun v W1 h=>GG hb hLi (hLd 15 rfl) h.2.1 h.1) (fun _ _ _=>trivial)
        intro y W9 hbW9 hRW9
        have hy1:((aR fun _=>True)).r (y 1) W9:=hRW9 1 (by decide)
        have hy9:((aR fun _=>True)).r (y 9) W9:=hRW9 9 (by decide)
        have hy14:((aR fun _=>True)).r (y 14) W9:=hRW9 14 (by decide)
        have hy15:((aR fun _=>True)).r (y 15) W9:=hRW9 15 (by decide)
        have hy22:((aR fun v => ∃a e,v = .slice a (S.H.ca.length-q) e∧nR W8 a e (S.H.ca.length-q) ((S.H.ca.flatMap je).drop (q*3)))).r (y 22) W9:=hRW9 22 (by decide)
        have hy23:((aR fun _=>True)).r (y 23) W9:=hRW9 23 (by decide)
        clear hRW9
        have hoC:=hbW9.2.2.2.2.2.2.2 rfl
        have hm10:=hm9.below hbW9.1
        have s10:=s9.below hbW9.1
        rw[vR _ _ _ hq] at hoC
        have hlenI:Hid ((S.H.ca.insertIdx q (⟨(F:Int),(I:Int),(j:Int)⟩:Cc)).length=q+1+(S.H.ca.length-q)):=Lib.hid (by rw[List.length_insertIdx_of_le_length hq];omega)
        obtain⟨a9,c9,hv9,_⟩:=hoC.rd
        rw[hv9] at hoC ⊢
        have hge9:Hid (∀x,oB a9=some x→w.heap.size≤x):=Lib.hid fun x hx=>Nat.le_trans s9.size (fT hoC hx).1
        have hoC:=hoC.mono (Nat.le_trans hm9.bs (Nat.le_refl _))
        clear hv9 hbW9 hm9 s9 sT sC tlen dlen h7 s7
        go_wp2_with (refine az rfl _ _ _ rfl b 10 _ [.slice a9 (q+1+(S.H.ca.length-q)) c9] rfl rfl rfl _ _ hm10.blk (by show 10+1≤13;omega) (by kernel_rfl) (fun u hu=>by cases List.mem_singleton.1 hu;rfl) ?_)
        intro w11 hb11 hg11
        have hm12:=hm10.setC (l:=S.H.ca.insertIdx q ⟨(F:Int),(I:Int),(j:Int)⟩) (by rw[hlenI.out];exact hoC) (by rw[hlenI.out];exact hb11) hg11
        have s12:=s10.put (H':=_) hg11 (.inl rfl) (fun x (hx:jO b { ((S.lst a7 c7 l7).frs (S.H.m.fs.set j ⟨P2,1,u,d,(F:Int),(I:Int)⟩)) with H:={ ((S.lst a7 c7 l7).frs (S.H.m.fs.set j ⟨P2,1,u,d,(F:Int),(I:Int)⟩)).H with ac:=a9,cc:=c9,ca:=S.H.ca.insertIdx q ⟨(F:Int),(I:Int),(j:Int)⟩ } } x)=>by
         rcases hx with hx|hx
         ·exact .inl (.inl hx)
         ·simp only[eO,List.mem_cons,List.not_mem_nil,or_false] at hx
          rcases hx with hx|hx|hx|hx|hx|hx|hx|hx|hx
          ·exact .inl (.inr (by simp only[eO,List.mem_cons,List.not_mem_nil,or_false];exact .inl hx))
          ·exact .inl (.inr (by simp only[eO,List.mem_cons,List.not_mem_nil,or_false];exact .inr (.inl hx)))
          ·exact .inl (.inr (by simp only[eO,List.mem_cons,List.not_mem_nil,or_false];exact .inr (.inr (.inl hx))))
          ·exact .inl (.inr (by simp only[eO,List.mem_cons,List.not_mem_nil,or_false];exact .inr (.inr (.inr (.inl hx)))))
          ·exact .inl (.inr (by simp only[eO,List.mem_cons,List.not_mem_nil,or_false];exact .inr (.inr (.inr (.inr (.inl hx))))))
          ·exact .inl (.inr (by simp only[eO,List.mem_cons,List.not_mem_nil,or_false];exact .inr (.inr (.inr (.inr (.inr (.inl hx)))))))
          ·exact .inr (hge9.out x hx.symm)
          ·exact .inl (.inr (by simp only[eO,List.mem_cons,List.not_mem_nil,or_false];exact .inr (.inr (.inr (.inr (.inr (.inr (.inr (.inl hx)))))))))
          ·exact .inl (.inr (by simp only[eO,List.mem_cons,List.not_mem_nil,or_false];exact .inr (.inr (.inr (.inr (.inr (.inr (.inr (.inr hx))))))))))
        clear hm10 s10 hb11 hg11 hoC
        go_wp2
        go_ret
        have hbd:=hd'.out.cache (X:=⟨P2,1,u,d,(F:Int),(I:Int)⟩) hi'.out hno.out hj' hjr'.out ⟨rfl,rfl,rfl⟩ (by rw[hN'.out];exact hP2.out.1) hP2.out.2
        refine⟨j,_,rfl,hm12,s12,⟨rfl,rfl,rfl,rfl,List.length_set,rfl⟩,rfl,?_,.inr ⟨⟨(F:Int),(I:Int),(j:Int)⟩,(List.mem_insertIdx hq).2 (.inl rfl),rfl,rfl,rfl⟩⟩
        unfold sW at hbd
        rw[show rR S.H.ma.ca F I=q from hat.out] at hbd
        exact hbd
      ·have hqi:¬(q:Int)<(S.H.ca.length:Int):=by omega
       go_upto_region 20 with (fail)
       refine aG 35 [_,_,_,_,_,_,_,_,_,_,_,_,_,_,_,_,_,_,_,_,_,_,_,_,_,_,_,_,_,_,_,_,_,_,.v (.bool false)] (Gk rfl (Gk rfl (Gk rfl (Gf b 1 rfl rfl (Gf b 10 rfl rfl (Gl hm8.blk (V:=.slice S.H.ac S.H.ca.length S.H.cc) (by simp[fD,MW.frs,MW.lst]) rfl rfl rfl rfl (Gn rfl rfl rfl rfl (Gb (.bool false) (by simp[go_sem,hqi,hql]) rfl rfl rfl rfl rfl (Gk rfl (Gk rfl (Gk rfl (Gk rfl (Gk rfl (Gk rfl (Gk rfl (Gk rfl (Gk rfl (Gk rfl (Gk rfl (Gk rfl (Gk rfl (Gk rfl (Gk rfl (Gk rfl (Gk rfl (Gk rfl (Gk rfl (Gk rfl (Gk rfl (Gk rfl (Gk rfl (Gk rfl (Gk rfl (Gk rfl (Gk rfl (aB)))))))))))))))))))))))))))))))))))) (fun _=>rfl) rfl ?_
       intro y W8 hbW8 _
       have hat:Hid (rR S.H.ca F I=q):=Lib.hid (Mr hq hno7.out (.inl (by omega)))
       have hb8:=ag hb7 hbW8
       have hm9:=h7.below hb8
       have s9:=s7.below hb8
       clear hbW8 hm8 hno7
       go_upto_region 22 with (fail)
       have sC:nR W8 S.H.ac S.H.cc S.H.ca.length (S.H.ca.flatMap je):=hm9.ma.rd.ca
       have sT:=sC.take (sz:=3) hq
       have hcl60:S.H.ca.length≤60:=z7
       have tlen:((S.H.ca.flatMap je).take (q*3)).length=q*3:=by rw[List.length_take,iN];omega
       have dlen:((S.H.ca.flatMap je).drop (q*3)).length=(S.H.ca.length-q)*3:=by rw[List.length_drop,iN];omega
       refine dW 27 [_,.r 1 ((aR fun _=>True)),_,_,_,_,.v (.slice S.H.ac S.H.ca.length S.H.cc),_,_,.r 9 ((aR fun _=>True)),_,_,_,.v (.agg #[.int .i64 (F:Int),.int .i64 (I:Int),.int .i64 (j:Int)]),.r 14 ((aR fun _=>True)),.r 15 ((aR fun _=>True)),_,_,_,_,.v (.slice S.H.ac S.H.ca.length S.H.cc),_,.r 22 ((aR fun v => ∃a e,v = .slice a (S.H.ca.length-q) e∧nR W8 a e (S.H.ca.length-q) ((S.H.ca.flatMap je).drop (q*3)))),.r 23 ((aR fun _=>True)),_,_,_] (sS W8 q S.H.ca ⟨(F:Int),(I:Int),(j:Int)⟩) aY (fun y=>MR y) (Qk aY rfl (ae ?_ (Qk aY rfl (Qk aY rfl (Qf aY b 1 rfl rfl (Qf aY b 10 rfl rfl (ae ?_ (Qk aY rfl (Qr aY (.slice S.H.ac q S.H.cc) (fun ρ y W hKn=>(DF (W0:=W8) rfl (aF rfl hKn) (aF rfl hKn) hq underlying38 cached_size sC).1) rfl rfl (ae ?_ (Qk aY rfl (Qk aY rfl (Qk aY rfl (ae ?_ (ae ?_ (ae ?_ (Qk aY rfl (Qk aY rfl (Qf aY b 1 rfl rfl (Qf aY b 10 rfl rfl (ae ?_ (Qk aY rfl (ae ?_ (ae ?_ (Qk aY rfl (Qf aY b 1 rfl rfl (Qf aY b 10 rfl rfl (aB)))))))))))))))))))))))))))) (fun _=>rfl) rfl ?_
       ·intro ρ y W L hw hn hLi hLd hb hd
        refine bO (.slice (some ⟨W.heap.size,0,none⟩) 0 0) (ah rfl) ?_ (Mm hb) trivial
        simp[execOp,go_sem]
       ·intro ρ y W L hw hn hLi hLd hb hd
        refine bS aY (fun _ _ h=>h) hb ?_
        have E124:=hw 124 5 rfl
        have h5:y 5=_:=hd 5 rfl
        refine aj (.slice S.H.ac S.H.ca.length S.H.cc) (ah rfl) (by simp[execOp,go_sem,E124,h5,(hm9.below hb.1).blk.cell,fD,MW.frs,MW.lst]) rfl
       ·intro ρ y W L hw hn hLi hLd hb hd;have E120:=hw 120 1 rfl;have h1:=hd 1 rfl;have E127:=hw 127 8 rfl;have h8:y 8=_:=hd 8 rfl
        obtain⟨g,hg1,hg2⟩:=hb.2.2.2.1 (hLd 1 rfl) hLi
        refine fu (ah rfl) (uM _ _ _ rfl W8.heap.size 106 (.agg #[.int .i64 0,.int .i64 0,.int .i64 0]) 3 24 underlying38 cached_info rfl (by decide) g (E120.trans hg1) hg2 S.H.ac q S.H.cc _ (E127.trans h8) sT.nl sT.le tlen (sT.below hb.1).rd (by unfold maxLen;omega) (by omega) hb.1.size) (fun v W1 h=>KZ hb h.1 h.2) (fun _ _ _=>trivial)
       ·intro ρ y W L hw hn hLi hLd hb hd
        refine bS aY (fun _ _ h=>h) hb ?_
        have E129:=hw 129 10 rfl
        have h10:y 10=_:=hd 10 rfl
        have E130:=hw 130 11 rfl
        have h11:y 11=_:=hd 11 rfl
        have E131:=hw 131 12 rfl
        have h12:y 12=_:=hd 12 rfl
        refine aj (.agg #[.int .i64 (F:Int),.int .i64 (I:Int),.int .i64 (j:Int)]) (ah rfl) (by simp[execOp,go_sem,E129,h10,E130,h11,E131,h12]) rfl
       ·intro ρ y W L hw hn hLi hLd hb hd;have E132:=hw 132 13 rfl;have h13:y 13=_:=hd 13 rfl
        refine bO (.slice (some ⟨W.heap.size,0,none⟩) 1 1) (ah rfl) ?_ (GA (W':=W.alloc (.cells (wL ⟨(F:Int),(I:Int),(j:Int)⟩) 106)) hb ((Below.refl _ _).alloc (Nat.le_refl _) _) ⟨Nat.le_refl _,by unfold maxLen;omega,fun e=>(by cases e),dA.new _ _ _⟩) trivial
        simp[execOp,go_sem,E132.trans h13,wL]
       ·intro ρ y W L hw hn hLi hLd hb hd;have E128:=hw 128 9 rfl;have h9:=hd 9 rfl;have E133:=hw 133 14 rfl;have h14:=hd 14 rfl
        obtain⟨a,e,hx1,hx2⟩:=hb.2.2.2.2.2.1 (hLd 14 rfl) hLi
        have hv:=hb.2.2.2.2.1 (hLd 9 rfl) hLi
        refine fu (ah rfl) (jq _ _ _ rfl W8.heap.size 106 (.agg #[.int .i64 0,.int .i64 0,.int .i64 0]) 3 24 underlying38 cached_info rfl (by decide) (y 9) q _ E128 hv a 1 e _ (E133.trans hx1) hx2.nl hx2.le rfl hx2.rd (Bz _) (by unfold maxLen;omega) (by omega) hb.1.size) (fun v W1 h=>Gh hb hLi (hLd 9 rfl) h.2.1 h.1) (fun _ _ _=>trivial)
       ·intro ρ y W L hw hn hLi hLd hb hd
        refine bS aY (fun _ _ h=>h) hb ?_
        have E138:=hw 138 19 rfl
        have h19:y 19=_:=hd 19 rfl
        refine aj (.slice S.H.ac S.H.ca.length S.H.cc) (ah rfl) (by simp[execOp,go_sem,E138,h19,(hm9.below hb.1).blk.cell,fD,MW.frs,MW.lst]) rfl
       ·intro ρ y W L hw hn hLi hLd hb hd
        refine bS aY (fun _ _ h=>h) hb ?_
        have E139:=hw 139 20 rfl
        have h20:y 20=_:=hd 20 rfl
        have E140:=hw 140 21 rfl
        have h21:y 21=_:=hd 21 rfl
        exact Ca (ah rfl) (Dm (W0:=W8) rfl (E139.trans h20) (E140.trans h21) hq underlying38 cached_size (iN _) sC) (fun _ h=>h)
       ·intro ρ y W L hw hn hLi hLd hb hd;have E134:=hw 134 15 rfl;have h15:=hd 15 rfl;have E141:=hw 141 22 rfl;have h22:=hd 22 rfl
        obtain⟨a,e,hx1,hx2⟩:=h22
        have hv:=hb.2.2.2.2.2.2.1 (hLd 15 rfl) hLi
        refine fu (ah rfl) (jq _ _ _ rfl W8.heap.size 106 (.agg #[.int .i64 0,.int .i64 0,.int .i64 0]) 3 24 underlying38 cached_info rfl (by decide) (y 15) (q+1) _ E134 hv a (S.H.ca.length-q) e _ (E141.trans hx1) hx2.nl hx2.le dlen (hx2.below hb.1).rd (fun u hu=>xg _ u (List.mem_of_mem_drop hu)) (by unfold maxLen;omega) (by omega) hb.1.size) (fun v W1 h=>GG hb hLi (hLd 15 rfl) h.2.1 h.1) (fun _ _ _=>trivial)
       intro y W9 hbW9 hRW9
       have hy1:((aR fun _=>True)).r (y 1) W9:=hRW9 1 (by decide)
       have hy9:((aR fun _=>True)).r (y 9) W9:=hRW9 9 (by decide)
       have hy14:((aR fun _=>True)).r (y 14) W9:=hRW9 14 (by decide)
       have hy15:((aR fun _=>True)).r (y 15) W9:=hRW9 15 (by decide)
       have hy22:((aR fun v => ∃a e,v = .slice a (S.H.ca.length-q) e∧nR W8 a e (S.H.ca.length-q) ((S.H.ca.flatMap je).drop (q*3)))).r (y 22) W9:=hRW9 22 (by decide)
       have hy23:((aR fun _=>True)).r (y 23) W9:=hRW9 23 (by decide)
       clear hRW9
       have hoC:=hbW9.2.2.2.2.2.2.2 rfl
       have hm10:=hm9.below hbW9.1
       have s10:=s9.below hbW9.1
       rw[vR _ _ _ hq] at hoC
       have hlenI:Hid ((S.H.ca.insertIdx q (⟨(F:Int),(I:Int),(j:Int)⟩:Cc)).length=q+1+(S.H.ca.length-q)):=Lib.hid (by rw[List.length_insertIdx_of_le_length hq];omega)
       obtain⟨a9,c9,hv9,_⟩:=hoC.rd
       rw[hv9] at hoC ⊢
       have hge9:Hid (∀x,oB a9=some x→w.heap.size≤x):=Lib.hid fun x hx=>Nat.le_trans s9.size (fT hoC hx).1
       have hoC:=hoC.mono (Nat.le_trans hm9.bs (Nat.le_refl _))
       clear hv9 hbW9 hm9 s9 sT sC tlen dlen h7 s7
       go_wp2_with (refine az rfl _ _ _ rfl b 10 _ [.slice a9 (q+1+(S.H.ca.length-q)) c9] rfl rfl rfl _ _ hm10.blk (by show 10+1≤13;omega) (by kernel_rfl) (fun u hu=>by cases List.mem_singleton.1 hu;rfl) ?_)
       intro w11 hb11 hg11
       have hm12:=hm10.setC (l:=S.H.ca.insertIdx q ⟨(F:Int),(I:Int),(j:Int)⟩) (by rw[hlenI.out];exact hoC) (by rw[hlenI.out];exact hb11) hg11
       have s12:=s10.put (H':=_) hg11 (.inl rfl) (fun x (hx:jO b { ((S.lst a7 c7 l7).frs (S.H.m.fs.set j ⟨P2,1,u,d,(F:Int),(I:Int)⟩)) with H:={ ((S.lst a7 c7 l7).frs (S.H.m.fs.set j ⟨P2,1,u,d,(F:Int),(I:Int)⟩)).H with ac:=a9,cc:=c9,ca:=S.H.ca.insertIdx q ⟨(F:Int),(I:Int),(j:Int)⟩ } } x)=>by
        rcases hx with hx|hx
        ·exact .inl (.inl hx)
        ·simp only[eO,List.mem_cons,List.not_mem_nil,or_false] at hx
         rcases hx with hx|hx|hx|hx|hx|hx|hx|hx|hx
         ·exact .inl (.inr (by simp only[eO,List.mem_cons,List.not_mem_nil,or_false];exact .inl hx))
         ·exact .inl (.inr (by simp only[eO,List.mem_cons,List.not_mem_nil,or_false];exact .inr (.inl hx)))
         ·exact .inl (.inr (by simp only[eO,List.mem_cons,List.not_mem_nil,or_false];exact .inr (.inr (.inl hx))))
         ·exact .inl (.inr (by simp only[eO,List.mem_cons,List.not_mem_nil,or_false];exact .inr (.inr (.inr (.inl hx)))))
         ·exact .inl (.inr (by simp only[eO,List.mem_cons,List.not_mem_nil,or_false];exact .inr (.inr (.inr (.inr (.inl hx))))))
         ·exact .inl (.inr (by simp only[eO,List.mem_cons,List.not_mem_nil,or_false];exact .inr (.inr (.inr (.inr (.inr (.inl hx)))))))
         ·exact .inr (hge9.out x hx.symm)
         ·exact .inl (.inr (by simp only[eO,List.mem_cons,List.not_mem_nil,or_false];exact .inr (.inr (.inr (.inr (.inr (.inr (.inr (.inl hx)))))))))
         ·exact .inl (.inr (by simp only[eO,List.mem_cons,List.not_mem_nil,or_false];exact .inr (.inr (.inr (.inr (.inr (.inr (.inr (.inr hx))))))))))
       clear hm10 s10 hb11 hg11 hoC
       go_wp2
       go_ret
       have hbd:=hd'.out.cache (X:=⟨P2,1,u,d,(F:Int),(I:Int)⟩) hi'.out hno.out hj' hjr'.out ⟨rfl,rfl,rfl⟩ (by rw[hN'.out];exact hP2.out.1) hP2.out.2
       refine⟨j,_,rfl,hm12,s12,⟨rfl,rfl,rfl,rfl,List.length_set,rfl⟩,rfl,?_,.inr ⟨⟨(F:Int),(I:Int),(j:Int)⟩,(List.mem_insertIdx hq).2 (.inl rfl),rfl,rfl,rfl⟩⟩
       unfold sW at hbd
       rw[show rR S.H.ma.ca F I=q from hat.out] at hbd
       exact hbd
theorem go_on:∀ {r:List Ar} {q:Ar},aK q=0→srtF q.en r→∀n,onA (nY q r) n=onA (q::r) n
 | [],q,_,_,n=>rfl
 | a::r,q,hq,h,n=>by
  unfold nY
  split
  ·rename_i hj
   rw[go_on (wo hq h.1 hj) (by simpa using h.2.2) n,MU hq h.1 hj]
  ·rw[bM,go_on h.1 h.2.2 n,←bM]
theorem go_ok:∀ {r:List Ar} {q:Ar} {p:Option Ar},aK q=0→srtF q.en r→qi p q=false→okF p (nY q r)
 | [],q,p,hq,_,hb=>⟨hq,hb,trivial⟩
 | a::r,q,p,hq,h,hb=>by
  unfold nY
  split
  ·rename_i hj
   refine go_ok (wo hq h.1 hj) (by simpa using h.2.2) ?_
   cases p with
   | none=>rfl
   | some z=>exact hb
  ·rename_i hj
   exact⟨hq,hb,go_ok h.1 h.2.2 (tT.2 ⟨h.2.1,by simpa using hj⟩)⟩
theorem Aq {l:List Ar} (h:srtF lo l) (n:Int):onA (nI l) n=onA l n:=by
 match l,h with
 | [],_=>rfl
 | a::r,h=>rw[sP,go_on h.1 h.2.2]
theorem Bh {l:List Ar} (h:srtF lo l):okF none (nI l):=by
 match l,h with
 | [],_=>trivial
 | a::r,h=>rw[sP];exact go_ok h.1 h.2.2 rfl
def wD (o:Option Pg):Array Value:=#[.bool o.isSome,.bool (oR o),.bool (oW o),.bool (oH o),.int .i64 (oF o),.int .i64 (oP o)]
def lX (o:Option Pg):List Value:=(wD o).toList
theorem kP (o:Option Pg):(lX o).length=6:=rfl
theorem LF (o:Option Pg):∀u∈lX o,u.oneCell' = true:=by
 intro u hu
 simp only[lX,wD,List.mem_cons,List.not_mem_nil,or_false] at hu
 rcases hu with rfl|rfl|rfl|rfl|rfl|rfl<;>rfl
theorem MI (o:Option Pg):(wD o).all (·.oneCell')=true:=by simp[wD,Value.oneCell']
def GL (l:List (Option Pg)):Array Value:=(l.flatMap lX).toArray
theorem OP (l:List (Option Pg)):(l.flatMap lX).length=l.length*6:=Pw.flat_len lX 6 kP l
theorem uE (l:List (Option Pg)):(GL l).size=l.length*6:=by
 unfold GL;rw[List.size_toArray,OP]
theorem xe (l:List (Option Pg)):(GL l).all (·.oneCell')=true:=by
 rw[←Array.all_toList,List.all_eq_true]
 intro u hu
 obtain⟨o,_,h⟩:=List.mem_flatMap.1 (show u∈l.flatMap lX by simpa[GL] using hu)
 exact LF o u h
theorem Nt (l:List (Option Pg)) (k:Nat) (hk:k<l.length) (x:Option Pg):bq (GL l) (k*6) (lX x)=GL (l.set k x):=by
 apply Array.ext_getElem?
 intro i
 by_cases hi:i<l.length*6
 ·have hq:i / 6<l.length:=by omega
  have hir:i=i / 6*6+i%6:=by omega
  have h2:=iY lX 6 kP (l.set k x) (i / 6) (by simpa using hq) (i%6) (by omega)
  rw[←hir] at h2
  have h3:=iY lX 6 kP l (i / 6) hq (i%6) (by omega)
  rw[←hir] at h3
  have e2:(GL (l.set k x))[i]?=((l.set k x).flatMap lX)[i]?:=by simp[GL]
  have e3:(GL l)[i]?=(l.flatMap lX)[i]?:=by simp[GL]
  by_cases e:i / 6=k
  ·have hik:i=k*6+i%6:=by omega
   have hlt:i%6<(lX x).length:=by rw[kP];omega
   have h1:=putAt_in (lX x) (GL l) (k*6) (i%6) (lX x)[i%6] (by rw[kP,uE];omega) (List.getElem?_eq_getElem hlt)
   rw[←hik] at h1
   rw[h1,e2,h2]
   simp only[e,List.getElem_set_self]
   exact (List.getElem?_eq_getElem hlt).symm
  ·rw[putAt_out _ _ _ _ (by rw[kP];omega),e2,h2,e3,h3]
   congr 2
   rw[List.getElem_set_ne (fun h=>e h.symm)]
 ·rw[Array.getElem?_eq_none (by rw[size_putAt,uE];omega),Array.getElem?_eq_none (by rw[uE,List.length_set];omega)]
def fC (f:Nat→Option Pg):Array Value:=GL (GY f)
theorem iP (f:Nat→Option Pg):(fC f).size=384:=by unfold fC;rw[uE,qR]
theorem Ko (f:Nat→Option Pg) (k:Nat) (hk:k<64) (x:Option Pg):bq (fC f) (k*6) (lX x)=fC (fun i=>if i=k then x else f i):=by
 unfold fC
 rw[Nt _ _ (by rw[qR];exact hk),Nk]
theorem Kl (cur:Array Value) (o:Nat) (a b c d e x y:Value):bq (bq cur o [a,b,c,d,e,x]) (o+5) [y]=bq cur o [a,b,c,d,e,y]:=by
 simp[bq]
theorem one_size:(Tryz.prog.info? 109).map (·.size)=some 6:=by kernel_rfl
theorem ones_size:(Tryz.prog.info? 110).map (·.size)=some 384:=by kernel_rfl
theorem oZ (l:List Ar) (a:Option Addr) (c:Nat) (w:World) (h:dA w a (l.flatMap jU)) (hl:l.length≤1000) (hok:∀x∈l,aK x=0) :
  Calls Tryz.prog 49 #[.slice a l.length c] w fun r w'=>r = .returned (.agg (fC (bN l)))∧Below w.heap.size w w':=by
 go_enter func49,ntmps49
 go_upto_region 2 with (fail)
 refine oJ (fun W=>Code.wp _ _ _ _ W) fun W0 hb0 hres0 ho0 hs0 => ?_
 clear hs0
 replace ho0:aD W0 (w.heap.size+1) (fC f0) 110:=ho0
 replace hres0:aD W0 w.heap.size (fC f0) 110:=hres0
 go_upto_region 3 with (fail)
 go_loopw [9] (fun i wr => ∃k:Nat,k≤l.length∧i = .int .i64 k∧Below w.heap.size w wr∧aD wr (w.heap.size+1) (fC (bN (l.take k))) 110∧aD wr w.heap.size (fC f0) 110) (fun i _=>l.length-(intOf i).toNat)
 case atStart=>exact⟨0,Nat.zero_le _,rfl,hb0,ho0,hres0⟩
 case round=>
  clear hb0 ho0 hres0
  obtain⟨k,hk,rfl,hbr,hor,hrr⟩:=hrel
  by_cases hlt:k<l.length
  ·have hnx:=Lib.hid (Ez hlt)
   have hA:=aX (hok l[k] (List.getElem_mem _))
   obtain⟨⟨f1,f2,f3⟩,f4,f5,f6,_,_⟩:=hA
   generalize hF:bN (l.take k)=F at *
   obtain⟨b,off,rfl,c0,c1,c2,c3,c4,c5,c6⟩:=Fy (h.below hbr) k hlt
   generalize l[k]=A at *
   go_upto_region 5 with (fail)
   refine gB (fun W=>Code.wp _ _ _ _ W) fun W1 hb1 hx1 hs1 => ?_
   clear hs1 c0 c1 c2 c3 c4 c5 c6
   have hbel1:=ag hbr hb1
   have ho1:=hor.ext hb1
   have hr1:=hrr.ext hb1
   have hgx:w.heap.size+1<wr.heap.size:=hor.lt
   clear hbr hor hrr hb1
   obtain⟨gx,hg⟩:∃g,g=wr.heap.size:=⟨_,rfl⟩
   rw[←hg] at hx1 hgx ⊢
   clear hg
   obtain⟨N,hN⟩:∃N:Nat,A.fr=(N:Int):=⟨A.fr.toNat,by omega⟩
   have hN':=Lib.hid hN
   clear hN
   have hcx:=hx1.cell
   go_upto_region 6 with (fail)
   clear hcx
   go_loopw [6] (fun i wr => ∃K:Nat,A.fr≤(K:Int)∧(K:Int)≤A.en∧i = .int .i64 K∧Below w.heap.size w wr∧aD wr gx (kT A) 99∧aD wr (w.heap.size+1) (fC (BR A K F)) 110∧aD wr w.heap.size (fC f0) 110) (fun i _=>(A.en-intOf i).toNat)
   case atStart=>exact⟨N,by have:=hN'.out;omega,by have:=hN'.out;omega,by rw[hN'.out],hbel1,hx1,by rw[←hN'.out,Iu];exact ho1,hr1⟩
   case round=>
    clear hbel1 hx1 ho1 hr1
    obtain⟨K,hK0,hK1,rfl,hbr,hx,ho,hr⟩:=hrel
    have hcx:=hx.cell
    unfold kT at hcx
    by_cases hKe:(K:Int)<A.en
    ·have hK64:K<64:=by omega
     have hK64i:(K:Int)<64:=by omega
     have hfit:Hid (K*6+6≤(fC (BR A K F)).size):=Lib.hid (by rw[iP];omega)
     have hwa:IntKind.i64.wrap (A.ba+(K:Int))=A.ba+(K:Int):=IntWalk.i64_in _ (by omega)
     have hwb:IntKind.i64.wrap (A.ba+(K:Int)-A.fr)=A.ba+(K:Int)-A.fr:=IntWalk.i64_in _ (by omega)
     have hfin:Hid (∀q:Int,q=(if 0≤A.fi then A.ba+(K:Int)-A.fr else 0)→bq (fC (BR A K F)) (K*6) [.bool true,.bool A.rd,.bool A.wr,.bool A.sh,.int .i64 A.fi,.int .i64 q]=fC (BR A ((K:Int)+1) F)):=Lib.hid (fun q hq=>by
      rw[←KN hK0,←Ko _ K hK64,hq];rfl)
     go_upto_region 9 with (refine fq rfl _ _ _ rfl (w.heap.size+1) (K*6) #[.bool true,.bool A.rd,.bool A.wr,.bool A.sh,.int .i64 A.fi,.int .i64 0] rfl rfl _ _ ho hfit.out one_size (by simp[Value.oneCell']) ?_)
     intro W2 ho2 hgr2
     have hbel2:Below w.heap.size w W2:=hbr.grown hgr2 hbr.size (fun k hk=>by cases hk;omega)
     have hx2:aD W2 gx (kT A) 99:=hx.grown hgr2 (fun e=>by have:=Option.some.inj e;omega)
     have hr2:aD W2 w.heap.size (fC f0) 110:=hr.grown hgr2 (fun e=>by have:=Option.some.inj e;omega)
     clear hbr hx ho hr hgr2 hcx
     have hcx:=hx2.cell
     unfold kT at hcx
     by_cases hfi:0≤A.fi
     ·go_upto_region 7 with (refine az rfl _ _ _ rfl (w.heap.size+1) (K*6+5) (.int .i64 (A.ba+(K:Int)-A.fr)) [.int .i64 (A.ba+(K:Int)-A.fr)] rfl rfl rfl _ _ ho2 (by rw[size_putAt];exact hfit.out) int_size (by simp[Value.oneCell']) ?_)
      intro W3 ho3 hgr3
      have hbel3:Below w.heap.size w W3:=hbel2.grown hgr3 hbel2.size (fun k hk=>by cases hk;omega)
      have hx3:aD W3 gx (kT A) 99:=hx2.grown hgr3 (fun e=>by have:=Option.some.inj e;omega)
      have hr3:aD W3 w.heap.size (fC f0) 110:=hr2.grown hgr3 (fun e=>by have:=Option.some.inj e;omega)
      have ho4:aD W3 (w.heap.size+1) (fC (BR A ((K:Int)+1) F)) 110:=by
       rw[←hfin.out _ (by rw[if_pos hfi]),←Kl];exact ho3
      clear hbel2 hx2 ho2 hr2 ho3 hgr3 hcx hfin
      go_wp2
      go_roundw
      case rel=>exact⟨K+1,by omega,by omega,by go_num,hbel3,hx3,ho4,hr3⟩
      case measure=>simp[intOf];omega
     ·have ho4:aD W2 (w.heap.size+1) (fC (BR A ((K:Int)+1) F)) 110:=by
       rw[←hfin.out 0 (by rw[if_neg hfi])];exact ho2
      clear ho2 hfin
      go_wp2
      go_roundw
      case rel=>exact⟨K+1,by omega,by omega,by go_num,hbel2,hx2,ho4,hr2⟩
      case measure=>simp[intOf];omega
    ·have hKA:(K:Int)=A.en:=by omega
     have ho4:aD wr (w.heap.size+1) (fC (bN (l.take (k+1)))) 110:=by
      rw[hnx.out,←hKA];exact ho
     clear ho hKA
     go_wp2
     go_roundw
     case rel=>exact⟨k+1,by omega,by go_num,hbr,ho4,hr⟩
     case measure=>simp[intOf];omega
  ·have hkl:k=l.length:=by omega
   subst hkl
   rw[List.take_length] at hor
   have hs384:Hid ((fC (bN l)).size=384):=Lib.hid (iP _)
   have hr384:Hid ((fC f0).size=384):=Lib.hid (iP _)
   have hone:(fC (bN l)).all (·.oneCell')=true:=xe _
   go_wp2_with (first | (refine fw rfl 110 (.tmp 3) rfl (w.heap.size+1) 0 rfl (fC (bN l)).toList hor.rd _ underlying110 rfl (by rw[Array.length_toList,hs384.out];exact ones_size) ?_) | (refine ax rfl _ (.tmp 2) (.tmp 46) rfl w.heap.size (fC (bN l)) rfl rfl _ _ hrr (by rw[hs384.out,hr384.out]) (by rw[hs384.out];exact ones_size) hone ?_))
   intro w5 hr5 hgr5
   have hbel5:Below w.heap.size w w5:=hbr.grown hgr5 hbr.size (fun k hk=>by cases hk;omega)
   go_wp2
   refine bodyPost_ret (v:=.agg (fC (bN l))) (dF results49 _ _ w.heap.size _ _ _ rfl hr5 underlying110 rfl (by rw[hs384.out];exact ones_size)) rfl ?_
   exact⟨rfl,hbel5⟩
theorem Ab (a:Ar) (w:World):Calls Tryz.prog 103 #[.agg (kT a)] w fun r w'=>r = .returned (.int .i64 (aK a))∧Below w.heap.size w w':=by
 unfold kT
 go_enter func103,ntmps103
 go_upto_region 1 with (fail)
 refine gB (fun W=>Code.wp _ _ _ _ W) fun W0 hb0 hx0 hs0 => ?_
 clear hs0
 have hcx:=hx0.cell
 by_cases g1:a.fr<0
 ·have hz:Hid (aK a=3):=Lib.hid (by unfold aK;rw[if_pos (by omega)])
  go_wp2
  go_ret
  exact⟨aV hz.out.symm,hb0⟩
 ·by_cases g2:64<a.en
  ·have hz:Hid (aK a=3):=Lib.hid (by unfold aK;rw[if_pos (by omega)])
   go_wp2
   go_ret
   exact⟨aV hz.out.symm,hb0⟩
  ·by_cases g3:a.en≤a.fr
   ·have hz:Hid (aK a=3):=Lib.hid (by unfold aK;rw[if_pos (by omega)])
    go_wp2
    go_ret
    exact⟨aV hz.out.symm,hb0⟩
   ·by_cases g4:a.fi < -1
    ·have hz:Hid (aK a=3):=Lib.hid (by unfold aK;rw[if_pos (by omega)])
     go_wp2
     go_ret
     exact⟨aV hz.out.symm,hb0⟩
    ·by_cases g5:4<a.fi
     ·have hz:Hid (aK a=3):=Lib.hid (by unfold aK;rw[if_pos (by omega)])
      go_wp2
      go_ret
      exact⟨aV hz.out.symm,hb0⟩
     ·by_cases g6:a.ba<0
      ·have hz:Hid (aK a=3):=Lib.hid (by unfold aK;rw[if_pos (by omega)])
       go_wp2
       go_ret
       exact⟨aV hz.out.symm,hb0⟩
      ·have hn1:¬(a.fr<0∨a.en≤a.fr∨64<a.en∨a.fi < -1∨5≤a.fi∨a.ba<0):=by omega
       have hw1:IntKind.i64.wrap (a.en-a.fr)=a.en-a.fr:=IntWalk.i64_in _ (by omega)
       have hw2:IntKind.i64.wrap (12-(a.en-a.fr))=12-(a.en-a.fr):=IntWalk.i64_in _ (by omega)
       by_cases f1:a.fi = -1
       ·have f1' : (a.fi == -1)=true:=by simpa using f1
        by_cases f2:a.ba=0
        ·have f2' : ¬0<a.ba:=by omega
         cases f3:a.sh
         ·have hz:Hid (aK a=0):=Lib.hid (by unfold aK;rw[if_neg hn1,if_neg (by rw[f3];simp;omega)])
          have f4:¬0≤a.fi:=by omega
          clear hn1 f1 f2
          rw[f3] at hcx
          go_wp2
          go_ret
          exact⟨aV hz.out.symm,hb0⟩
         ·have hz:Hid (aK a=7):=Lib.hid (by unfold aK;rw[if_neg hn1,if_pos (.inl ⟨by omega,.inr f3⟩)])
          clear hn1 f1 f2
          rw[f3] at hcx
          go_wp2
          go_ret
          exact⟨aV hz.out.symm,hb0⟩
        ·have hz:Hid (aK a=7):=Lib.hid (by unfold aK;rw[if_neg hn1,if_pos (.inl ⟨by omega,.inl f2⟩)])
         have f2' : 0<a.ba:=by omega
         clear hn1 f1 f2
         go_wp2
         go_ret
         exact⟨aV hz.out.symm,hb0⟩
       ·have f1' : 0≤a.fi:=by omega
        have f1'' : (a.fi == -1)=false:=by simpa using f1
        by_cases f2:12-(a.en-a.fr)<a.ba
        ·have hz:Hid (aK a=7):=Lib.hid (by unfold aK;rw[if_neg hn1,if_pos (.inr ⟨f1',f2⟩)])
         clear hn1 f1
         go_wp2
         go_ret
         exact⟨aV hz.out.symm,hb0⟩
        ·have hz:Hid (aK a=0):=Lib.hid (by unfold aK;rw[if_neg hn1,if_neg (by omega)])
         clear hn1 f1
         go_wp2
         go_ret
         exact⟨aV hz.out.symm,hb0⟩
theorem PN (p q:Pg) (b:Bool) (h:(p==q)=b) (W:World):(Op.equalIn 10000 109 (.agg #[.bool true,.bool p.rd,.bool p.wr,.bool p.sh,.int .i64 p.fi,.int .i64 p.pg]) (.agg #[.bool true,.bool q.rd,.bool q.wr,.bool q.sh,.int .i64 q.fi,.int .i64 q.pg])).run Tryz.prog W = .ok b W:=by
 rw[←h,Pf]
 by_cases h3:p.rd=q.rd
 ·by_cases h4:p.wr=q.wr
  ·by_cases h5:p.sh=q.sh
   ·by_cases h6:(p.fi==q.fi)=true
    ·by_cases h7:p.pg=q.pg<;>simp[go_sem,h3,h4,h5,h6,h7]
    ·simp[go_sem,h3,h4,h5,h6]
   ·simp[go_sem,h3,h4,h5]
  ·simp[go_sem,h3,h4]
 ·simp[go_sem,h3]
theorem OX (q:Pg) (x:Int) (W:World):(Op.equalIn 10000 109 (.agg #[.bool false,.bool false,.bool false,.bool false,.int .i64 0,.int .i64 x]) (.agg #[.bool true,.bool q.rd,.bool q.wr,.bool q.sh,.int .i64 q.fi,.int .i64 q.pg])).run Tryz.prog W = .ok false W:=by
 simp[go_sem]
theorem Oq (f:Nat→Option Pg) (k:Nat) (hk:k<64):(fC f).extract (k*6) (k*6+6)=wD (f k):=by
 apply Array.ext_getElem?
 intro i
 by_cases hi:i<6
 ·rw[Array.getElem?_extract,if_pos (by rw[iP];omega)]
  have:=iY lX 6 kP (GY f) k (by rw[qR];exact hk) i hi
  have e:(fC f)[k*6+i]?=((GY f).flatMap lX)[k*6+i]?:=by simp[fC,GL]
  have e2:(GY f)[k]'(by rw[qR];exact hk)=f k:=by simp[GY]
  rw[e,this,e2]
  simp[lX]
 ·rw[Array.getElem?_eq_none (by simp;omega),Array.getElem?_eq_none (by simp[wD];omega)]
theorem tQ (f:Nat→Option Pg) (k j:Nat) (hk:k<64) (u:Value) (h:(lX (f k))[j]?=some u) (hj:j<6):(fC f)[k*6+j]?=some u:=by
 have:=iY lX 6 kP (GY f) k (by rw[qR];exact hk) j hj
 have e:(fC f)[k*6+j]?=((GY f).flatMap lX)[k*6+j]?:=by simp[fC,GL]
 have e2:(GY f)[k]'(by rw[qR];exact hk)=f k:=by simp[GY]
 rw[e,this,e2]
 exact h
theorem xh (f:Nat→Option Pg) (k:Nat) (hk:k<64) (o:Option Pg) (ho:f k=o) (w:World):(Instr.index 110 (.agg (fC f)) (.int .i64 k)).run Tryz.prog w = .ok (.agg (wD o)) w:=
 qK underlying110 underlying109 rfl one_size _ k _ hk (by rw[←ho];exact Oq f k hk) _ w
theorem pV {a:Act} (hg:o.guard=none) (t t' : TypeId) (x y:Operand) (ho:o.op = .binOp .eql t x y t') (vx vy:Value) (hx:a.eval x=vx) (hy:a.eval y=vy) (B:Bool)
 (hr:(do eqGuard .eql t x y vx vy;binOp .eql t vx vy:Sem Value).run P w = .ok (.bool B) w) (h:wpList P ops Q rest (a.put o.dst (.bool B)) w):wpList P ops Q (o::rest) a w:=
 wpList_plain hg fun K hK=>by
  unfold Oper.wp
  rw[lH ho hx hy hr]
  exact hK _ _ h
theorem LX (p q:Pg) (b:Bool) (h:(p==q)=b) (x y:Operand) (W:World):(do eqGuard .eql 109 x y (.agg #[.bool true,.bool p.rd,.bool p.wr,.bool p.sh,.int .i64 p.fi,.int .i64 p.pg]) (.agg #[.bool true,.bool q.rd,.bool q.wr,.bool q.sh,.int .i64 q.fi,.int .i64 q.pg]);binOp .eql 109 (.agg #[.bool true,.bool p.rd,.bool p.wr,.bool p.sh,.int .i64 p.fi,.int .i64 p.pg]) (.agg #[.bool true,.bool q.rd,.bool q.wr,.bool q.sh,.int .i64 q.fi,.int .i64 q.pg]):Sem Value).run Tryz.prog W = .ok (.bool b) W:=by
 have hE:=PN p q b h
 simp[go_sem,hE]
theorem GN (q:Pg) (z:Int) (x y:Operand) (W:World):(do eqGuard .eql 109 x y (.agg #[.bool false,.bool false,.bool false,.bool false,.int .i64 0,.int .i64 z]) (.agg #[.bool true,.bool q.rd,.bool q.wr,.bool q.sh,.int .i64 q.fi,.int .i64 q.pg]);binOp .eql 109 (.agg #[.bool false,.bool false,.bool false,.bool false,.int .i64 0,.int .i64 z]) (.agg #[.bool true,.bool q.rd,.bool q.wr,.bool q.sh,.int .i64 q.fi,.int .i64 q.pg]):Sem Value).run Tryz.prog W = .ok (.bool false) W:=by
 have hE:=OX q z
 simp[go_sem,hE]
theorem uX (f:Nat→Option Pg) (w:World) (hf:∀i p,f i=some p→0≤p.pg∧p.pg≤100) :
  Calls Tryz.prog 123 #[.agg (fC f)] w fun r w' => ∃v,r = .returned v∧Own w' w.heap.size 99 7 v (jc f 64).length ((jc f 64).flatMap jU)∧Below w.heap.size w w':=by
 have hs384:=Lib.hid (iP f)
 go_enter func123,ntmps123
 go_upto_region 1 with (fail)
 refine gB (fun W=>Code.wp _ _ _ _ W) fun W0 hb0 hx0 hs0 => ?_
 clear hs0
 go_upto_region 3 with (refine ay _ _ rfl _ 0 rfl rfl _ hx0.rd _ underlying110 rfl (by rw[Array.length_toList,hs384.out];exact ones_size) ?_)
 go_loopw [9,3] (fun i u wr => ∃k:Nat,k≤64∧i = .int .i64 k∧Below w.heap.size w wr∧aD wr w.heap.size (fC f) 110∧Own wr w.heap.size 99 7 u (jc f k).length ((jc f k).flatMap jU)) (fun i _ _=>64-(intOf i).toNat)
 case atStart=>exact⟨0,Nat.zero_le _,rfl,hb0,hx0,by simpa[jc] using Own.nil _ _ _ _⟩
 case round=>
  clear hb0 hx0
  obtain⟨k,hk,rfl,hbel,hbx,hown⟩:=hrel
  by_cases hlt:k<64
  ·have hlti:(k:Int)<64:=by omega
   have htl:=BB f k
   cases hfk:f k with
   | none=>
    have hix:=xh f k hlt none hfk
    unfold wD oR oW oH oF oP at hix
    have hst:=Lib.hid (JX hfk)
    go_upto_region 5 with (fail)
    refine gB (fun W=>Code.wp _ _ _ _ W) fun W1 hb1 hx1 hs1 => ?_
    have hcx:=hx1.cell
    have hbel1:=ag hbel hb1
    have hbx1:=hbx.ext hb1
    have hown1:=hown.below hb1
    clear hs1 hb1 hbel hbx hown
    rw[←hst.out] at hown1
    go_wp2
    go_roundw
    case rel=>exact⟨k+1,by omega,by go_num,hbel1,hbx1,hown1⟩
    case measure=>simp[intOf];omega
   | some p=>
    have hix:=xh f k hlt (some p) hfk
    unfold wD oR oW oH oF oP at hix
    go_upto_region 5 with (fail)
    refine gB (fun W=>Code.wp _ _ _ _ W) fun W1 hb1 hx1 hs1 => ?_
    have hbel:=ag hbel hb1
    have hbx:=hbx.ext hb1
    have hown:=hown.below hb1
    clear hs1 hb1
    obtain⟨gx,hgx⟩:∃g,g=wr.heap.size:=⟨_,rfl⟩
    rw[←hgx] at hx1 ⊢
    clear hgx
    generalize hacc:jc f k=acc at *
    obtain⟨au,cu,rfl,_⟩:=hown.rd
    have hcx:=hx1.cell
    have hwk:IntKind.i64.wrap ((k:Int)+1)=(k:Int)+1:=IntWalk.i64_in _ (by omega)
    by_cases hk0:k=0
    ·have hs0:jG f k p=false:=by rw[hk0];rfl
     have hst:Hid (jc f (k+1)=acc++[dM k p]):=Lib.hid (by rw[wM hfk hs0,hacc])
     have hk0i:¬(0:Int)<(k:Int):=by omega
     have hk0n:¬0<k:=by omega
     clear hk0 hs0 hfk hacc
     go_upto_region 14 with (fail)
     go_wp2_with (at_builtin;refine dI rfl _ _ 50 rfl w.heap.size 99 _ 7 40 underlying50 area_info rfl (by decide) _ acc.length (acc.flatMap jU) rfl (hown.alloc _) (some ⟨W1.heap.size,0,none⟩) 1 1 (jU (dM k p)) rfl (fun h=>(by cases h)) (Nat.le_refl _) rfl (dA.new _ (kT (dM k p)) _) (fun u hu=>mH [dM k p] u (by simpa using hu)) (by unfold maxLen;omega) (by omega) (bQ hbel.size _) ?_)
     intro v W6 hown6 hgr6
     have hbel6:Below w.heap.size w W6:=(hbel.alloc hbel.size _).grown hgr6 (bQ hbel.size _) (hown.alloc (.cells (kT (dM k p)) 99)).ge
     have hbx6:aD W6 w.heap.size (fC f) 110:=iR (hbx.alloc (.cells (kT (dM k p)) 99)) (hown.alloc (.cells (kT (dM k p)) 99)) (by decide) hgr6
     have hown7:Own W6 w.heap.size 99 7 v (jc f (k+1)).length ((jc f (k+1)).flatMap jU):=by
      rw[hst.out,List.flatMap_append,List.length_append];simpa using hown6
     clear hown6 hgr6
     go_wp2
     go_roundw
     case rel=>exact⟨k+1,by omega,by go_num,hbel6,hbx6,hown7⟩
     case measure=>simp[intOf];omega
    ·obtain⟨m,hm⟩:∃m,k=m+1:=⟨k-1,by omega⟩
     have hk0i:(0:Int)<(k:Int):=by omega
     have hk0n:0<k:=by omega
     have hwm:IntKind.i64.wrap ((k:Int)-1)=(m:Int):=by rw[IntWalk.i64_in _ (by omega)];omega
     have hm64:m<64:=by omega
     have hm64i:(m:Int)<64:=by omega
     have hm1:∀z,jG f k z=(match f m with | some q=>mg z q==z | none=>false):=fun z=>by subst hm;rfl
     have hcell:∀j u,(lX (f m))[j]?=some u→j<6→W1.cell? ⟨w.heap.size,m*6+j,none⟩=some u:=fun j u h hj=>by rw[hbx.cell];exact tQ f m j hm64 u h hj
     have hmm:=Lib.hid hm
     clear hm hk0
     cases hfm:f m with
     | none=>
      have hs0:jG f k p=false:=by rw[hm1,hfm]
      have hst:Hid (jc f (k+1)=acc++[dM k p]):=Lib.hid (by rw[wM hfk hs0,hacc])
      rw[hfm] at hcell
      have d0:=hcell 0 _ rfl (by decide)
      have d1:=hcell 1 _ rfl (by decide)
      have d2:=hcell 2 _ rfl (by decide)
      have d3:=hcell 3 _ rfl (by decide)
      have d4:=hcell 4 _ rfl (by decide)
      have d5:=hcell 5 _ rfl (by decide)
      simp only[Nat.add_zero,Option.isSome,oR,oW,oH,oF,oP] at d0 d1 d2 d3 d4 d5
      clear hm1 hcell hs0 hfk hacc
      have hw1p:IntKind.i64.wrap (0+1)=1:=by rw[IntWalk.i64_in _ (by omega)];try rfl
      go_upto_region 9 with (fail)
      refine gB (fun W=>Code.wp _ _ _ _ W) fun W2 hb2 hy2 hs2 => ?_
      have hbel:=ag hbel hb2
      have hbx2:=hbx.ext hb2
      have hown2:=hown.below hb2
      have hx2:=hx1.ext hb2
      have hgxy:gx<W1.heap.size:=hx1.lt
      have hgy:w.heap.size<W1.heap.size:=hbx.lt
      have hgB:=hbel.size
      clear hs2 hb2 hbx hown hx1 hcx d0 d1 d2 d3 d4 d5
      have hcx:=hx2.cell
      by_cases hfi:0≤p.fi
      ·obtain⟨gy,hgyE⟩:∃g,g=W1.heap.size:=⟨_,rfl⟩
       rw[←hgyE] at hy2 hgxy hgy ⊢
       clear hgyE
       have hcy:=hy2.cell
       go_upto_region 11 with (refine az rfl _ _ _ rfl gy 5 (.int .i64 (1)) [.int .i64 (1)] rfl rfl rfl _ _ hy2 (by simp) int_size (by simp[Value.oneCell']) ?_)
       intro W3 hy3 hgr3
       have hy4:aD W3 gy #[.bool false,.bool (false),.bool (false),.bool (false),.int .i64 (0),.int .i64 (1)] 109:=hy3
       have hbel:=hbel.grown hgr3 hbel.size (fun k hk=>by cases hk;omega)
       have hbx3:aD W3 w.heap.size (fC f) 110:=hbx2.grown hgr3 (fun e=>by have:=Option.some.inj e;omega)
       have hx3:aD W3 gx #[.bool true,.bool p.rd,.bool p.wr,.bool p.sh,.int .i64 p.fi,.int .i64 p.pg] 109:=hx2.grown hgr3 (fun e=>by have:=Option.some.inj e;omega)
       have hown:=ak hown2 hy2 (by decide) hgr3
       have hbx:=hbx3
       clear hy2 hy3 hbx2 hx2 hown2 hgr3 hcx hcy hbx3 hgB
       have hE:=GN p 1
       go_upto_region 12 with (first | (refine ay _ _ rfl _ 0 rfl rfl _ hy4.rd _ underlying109 rfl one_size ?_) | (refine ay _ _ rfl _ 0 rfl rfl _ hx3.rd _ underlying109 rfl one_size ?_) | (refine pV rfl _ _ _ _ rfl _ _ rfl rfl _ (hE _ _ _) ?_))
       clear hE hy4
       have hcx:=hx3.cell
       go_upto_region 14 with (fail)
       go_wp2_with (at_builtin;refine dI rfl _ _ 50 rfl w.heap.size 99 _ 7 40 underlying50 area_info rfl (by decide) _ acc.length (acc.flatMap jU) rfl (hown.alloc _) (some ⟨W3.heap.size,0,none⟩) 1 1 (jU (dM k p)) rfl (fun h=>(by cases h)) (Nat.le_refl _) rfl (dA.new _ (kT (dM k p)) _) (fun u hu=>mH [dM k p] u (by simpa using hu)) (by unfold maxLen;omega) (by omega) (bQ hbel.size _) ?_)
       intro v W6 hown6 hgr6
       have hbel6:Below w.heap.size w W6:=(hbel.alloc hbel.size _).grown hgr6 (bQ hbel.size _) (hown.alloc (.cells (kT (dM k p)) 99)).ge
       have hbx6:aD W6 w.heap.size (fC f) 110:=iR (hbx.alloc (.cells (kT (dM k p)) 99)) (hown.alloc (.cells (kT (dM k p)) 99)) (by decide) hgr6
       have hown7:Own W6 w.heap.size 99 7 v (jc f (k+1)).length ((jc f (k+1)).flatMap jU):=by
        rw[hst.out,List.flatMap_append,List.length_append];simpa using hown6
       clear hown6 hgr6
       go_wp2
       go_roundw
       case rel=>exact⟨k+1,by omega,by go_num,hbel6,hbx6,hown7⟩
       case measure=>simp[intOf];omega
      ·have hbx:=hbx2
       have hown:=hown2
       clear hbx2 hown2
       have hfi' : ¬0≤p.fi:=hfi
       have hE:=GN p 0
       go_upto_region 12 with (first | (refine ay _ _ rfl _ 0 rfl rfl _ hy2.rd _ underlying109 rfl one_size ?_) | (refine ay _ _ rfl _ 0 rfl rfl _ hx2.rd _ underlying109 rfl one_size ?_) | (refine pV rfl _ _ _ _ rfl _ _ rfl rfl _ (hE _ _ _) ?_))
       clear hE hy2
       have hcx:=hx2.cell
       go_upto_region 14 with (fail)
       go_wp2_with (at_builtin;refine dI rfl _ _ 50 rfl w.heap.size 99 _ 7 40 underlying50 area_info rfl (by decide) _ acc.length (acc.flatMap jU) rfl (hown.alloc _) (some ⟨W2.heap.size,0,none⟩) 1 1 (jU (dM k p)) rfl (fun h=>(by cases h)) (Nat.le_refl _) rfl (dA.new _ (kT (dM k p)) _) (fun u hu=>mH [dM k p] u (by simpa using hu)) (by unfold maxLen;omega) (by omega) (bQ hbel.size _) ?_)
       intro v W6 hown6 hgr6
       have hbel6:Below w.heap.size w W6:=(hbel.alloc hbel.size _).grown hgr6 (bQ hbel.size _) (hown.alloc (.cells (kT (dM k p)) 99)).ge
       have hbx6:aD W6 w.heap.size (fC f) 110:=iR (hbx.alloc (.cells (kT (dM k p)) 99)) (hown.alloc (.cells (kT (dM k p)) 99)) (by decide) hgr6
       have hown7:Own W6 w.heap.size 99 7 v (jc f (k+1)).length ((jc f (k+1)).flatMap jU):=by
        rw[hst.out,List.flatMap_append,List.length_append];simpa using hown6
       clear hown6 hgr6
       go_wp2
       go_roundw
       case rel=>exact⟨k+1,by omega,by go_num,hbel6,hbx6,hown7⟩
       case measure=>simp[intOf];omega
     | some q=>
      have hqb:=hf m q hfm
      have hstp0:=hm1 p
      rw[hfm] at hstp0 hcell
      simp only[] at hstp0
      have d0:=hcell 0 _ rfl (by decide)
      have d1:=hcell 1 _ rfl (by decide)
      have d2:=hcell 2 _ rfl (by decide)
      have d3:=hcell 3 _ rfl (by decide)
      have d4:=hcell 4 _ rfl (by decide)
      have d5:=hcell 5 _ rfl (by decide)
      simp only[Nat.add_zero,Option.isSome,oR,oW,oH,oF,oP] at d0 d1 d2 d3 d4 d5
      generalize hBe:(mg p q==p)=B at hstp0
      have hstp:=Lib.hid hstp0
      clear hm1 hcell hstp0
      have hN1:0≤p.fi→((⟨q.rd,q.wr,q.sh,q.fi,q.pg+1⟩:Pg)==p)=B:=fun h=>by rw[←hBe];unfold mg;rw[if_pos h]
      have hN0:¬0≤p.fi→(q==p)=B:=fun h=>by rw[←hBe];unfold mg;rw[if_neg h]
      clear hBe
      have hw1p:IntKind.i64.wrap (q.pg+1)=(q.pg+1):=by rw[IntWalk.i64_in _ (by omega)];try rfl
      go_upto_region 9 with (fail)
      refine gB (fun W=>Code.wp _ _ _ _ W) fun W2 hb2 hy2 hs2 => ?_
      have hbel:=ag hbel hb2
      have hbx2:=hbx.ext hb2
      have hown2:=hown.below hb2
      have hx2:=hx1.ext hb2
      have hgxy:gx<W1.heap.size:=hx1.lt
      have hgy:w.heap.size<W1.heap.size:=hbx.lt
      have hgB:=hbel.size
      clear hs2 hb2 hbx hown hx1 hcx d0 d1 d2 d3 d4 d5
      have hcx:=hx2.cell
      by_cases hfi:0≤p.fi
      ·obtain⟨gy,hgyE⟩:∃g,g=W1.heap.size:=⟨_,rfl⟩
       rw[←hgyE] at hy2 hgxy hgy ⊢
       clear hgyE
       have hcy:=hy2.cell
       go_upto_region 11 with (refine az rfl _ _ _ rfl gy 5 (.int .i64 ((q.pg+1))) [.int .i64 ((q.pg+1))] rfl rfl rfl _ _ hy2 (by simp) int_size (by simp[Value.oneCell']) ?_)
       intro W3 hy3 hgr3
       have hy4:aD W3 gy #[.bool true,.bool (q.rd),.bool (q.wr),.bool (q.sh),.int .i64 (q.fi),.int .i64 ((q.pg+1))] 109:=hy3
       have hbel:=hbel.grown hgr3 hbel.size (fun k hk=>by cases hk;omega)
       have hbx3:aD W3 w.heap.size (fC f) 110:=hbx2.grown hgr3 (fun e=>by have:=Option.some.inj e;omega)
       have hx3:aD W3 gx #[.bool true,.bool p.rd,.bool p.wr,.bool p.sh,.int .i64 p.fi,.int .i64 p.pg] 109:=hx2.grown hgr3 (fun e=>by have:=Option.some.inj e;omega)
       have hown:=ak hown2 hy2 (by decide) hgr3
       have hbx:=hbx3
       clear hy2 hy3 hbx2 hx2 hown2 hgr3 hcx hcy hbx3 hgB
       have hE:=LX ⟨q.rd,q.wr,q.sh,q.fi,q.pg+1⟩ p B (hN1 hfi)
       go_upto_region 12 with (first | (refine ay _ _ rfl _ 0 rfl rfl _ hy4.rd _ underlying109 rfl one_size ?_) | (refine ay _ _ rfl _ 0 rfl rfl _ hx3.rd _ underlying109 rfl one_size ?_) | (refine pV rfl _ _ _ _ rfl _ _ rfl rfl _ (hE _ _ _) ?_))
       clear hE hy4
       have hcx:=hx3.cell
       by_cases hB:B=true
       ·subst hB
        have hst:=Lib.hid (Ka hfk hstp.out)
        rw[hacc] at hst
        have hne:0<acc.length:=by
         have:=Lr f hfm
         rw[←hmm.out,hacc] at this
         exact this
        obtain⟨n,hn0⟩:∃n,acc.length=n+1:=⟨acc.length-1,by omega⟩
        have hna:n<acc.length:=by omega
        have hse:Hid (qz acc ((k:Int)+1)=acc.set n { acc[n] with en:=(k:Int)+1 }):=Lib.hid (BS hn0 _)
        have hni:(n:Int)<(acc.length:Int):=by omega
        have hwn:IntKind.i64.wrap ((acc.length:Int)-1)=(n:Int):=by rw[IntWalk.i64_in _ (by omega)];omega
        obtain⟨g,off1,cap1,hv1,hBg,hgl,⟨csg,hgb⟩,hcc,hfz,hset⟩:=qC nQ (by decide) rfl hown n hna 1 (by decide) (.int .i64 ((k:Int)+1)) { acc[n] with en:=(k:Int)+1 } rfl
        cases hv1
        have hc1:=hcc 1 _ rfl
        have hbxg:w.heap.size≠g:=by
         intro e;subst e
         unfold aD at hbx hgb
         rw[hbx] at hgb
         simp at hgb
        clear hcc hn0 hfk hacc hfm
        go_upto_region 15 with (fail)
        have hbel6:Below w.heap.size w (W3.setCell ⟨g,off1+n*7+1,none⟩ (.int .i64 ((k:Int)+1))):=hbel.setCell hBg _
        have hbx6:aD (W3.setCell ⟨g,off1+n*7+1,none⟩ (.int .i64 ((k:Int)+1))) w.heap.size (fC f) 110:=hbx.setCell_other _ _ (by simpa using hbxg)
        have hown7:Own (W3.setCell ⟨g,off1+n*7+1,none⟩ (.int .i64 ((k:Int)+1))) w.heap.size 99 7 (.slice (some ⟨g,off1,none⟩) acc.length cu) (jc f (k+1)).length ((jc f (k+1)).flatMap jU):=by
         rw[hst.out,hse.out,List.length_set];exact hset
        clear hset hown hbel hbx hfz hc1 hgb hcx
        go_wp2
        go_roundw
        case rel=>exact⟨k+1,by omega,by go_num,hbel6,hbx6,hown7⟩
        case measure=>simp[intOf];omega
       ·have hBf:B=false:=by simpa using hB
        subst hBf
        have hst:Hid (jc f (k+1)=acc++[dM k p]):=Lib.hid (by rw[wM hfk hstp.out,hacc])
        clear hfk hacc hfm hB
        go_upto_region 14 with (fail)
        go_wp2_with (at_builtin;refine dI rfl _ _ 50 rfl w.heap.size 99 _ 7 40 underlying50 area_info rfl (by decide) _ acc.length (acc.flatMap jU) rfl (hown.alloc _) (some ⟨W3.heap.size,0,none⟩) 1 1 (jU (dM k p)) rfl (fun h=>(by cases h)) (Nat.le_refl _) rfl (dA.new _ (kT (dM k p)) _) (fun u hu=>mH [dM k p] u (by simpa using hu)) (by unfold maxLen;omega) (by omega) (bQ hbel.size _) ?_)
        intro v W6 hown6 hgr6
        have hbel6:Below w.heap.size w W6:=(hbel.alloc hbel.size _).grown hgr6 (bQ hbel.size _) (hown.alloc (.cells (kT (dM k p)) 99)).ge
        have hbx6:aD W6 w.heap.size (fC f) 110:=iR (hbx.alloc (.cells (kT (dM k p)) 99)) (hown.alloc (.cells (kT (dM k p)) 99)) (by decide) hgr6
        have hown7:Own W6 w.heap.size 99 7 v (jc f (k+1)).length ((jc f (k+1)).flatMap jU):=by
         rw[hst.out,List.flatMap_append,List.length_append];simpa using hown6
        clear hown6 hgr6
        go_wp2
        go_roundw
        case rel=>exact⟨k+1,by omega,by go_num,hbel6,hbx6,hown7⟩
        case measure=>simp[intOf];omega
      ·have hbx:=hbx2
       have hown:=hown2
       clear hbx2 hown2
       have hfi' : ¬0≤p.fi:=hfi
       have hE:=LX q p B (hN0 hfi')
       go_upto_region 12 with (first | (refine ay _ _ rfl _ 0 rfl rfl _ hy2.rd _ underlying109 rfl one_size ?_) | (refine ay _ _ rfl _ 0 rfl rfl _ hx2.rd _ underlying109 rfl one_size ?_) | (refine pV rfl _ _ _ _ rfl _ _ rfl rfl _ (hE _ _ _) ?_))
       clear hE hy2
       have hcx:=hx2.cell
       by_cases hB:B=true
       ·subst hB
        have hst:=Lib.hid (Ka hfk hstp.out)
        rw[hacc] at hst
        have hne:0<acc.length:=by
         have:=Lr f hfm
         rw[←hmm.out,hacc] at this
         exact this
        obtain⟨n,hn0⟩:∃n,acc.length=n+1:=⟨acc.length-1,by omega⟩
        have hna:n<acc.length:=by omega
        have hse:Hid (qz acc ((k:Int)+1)=acc.set n { acc[n] with en:=(k:Int)+1 }):=Lib.hid (BS hn0 _)
        have hni:(n:Int)<(acc.length:Int):=by omega
        have hwn:IntKind.i64.wrap ((acc.length:Int)-1)=(n:Int):=by rw[IntWalk.i64_in _ (by omega)];omega
        obtain⟨g,off1,cap1,hv1,hBg,hgl,⟨csg,hgb⟩,hcc,hfz,hset⟩:=qC nQ (by decide) rfl hown n hna 1 (by decide) (.int .i64 ((k:Int)+1)) { acc[n] with en:=(k:Int)+1 } rfl
        cases hv1
        have hc1:=hcc 1 _ rfl
        have hbxg:w.heap.size≠g:=by
         intro e;subst e
         unfold aD at hbx hgb
         rw[hbx] at hgb
         simp at hgb
        clear hcc hn0 hfk hacc hfm
        go_upto_region 15 with (fail)
        have hbel6:Below w.heap.size w (W2.setCell ⟨g,off1+n*7+1,none⟩ (.int .i64 ((k:Int)+1))):=hbel.setCell hBg _
        have hbx6:aD (W2.setCell ⟨g,off1+n*7+1,none⟩ (.int .i64 ((k:Int)+1))) w.heap.size (fC f) 110:=hbx.setCell_other _ _ (by simpa using hbxg)
        have hown7:Own (W2.setCell ⟨g,off1+n*7+1,none⟩ (.int .i64 ((k:Int)+1))) w.heap.size 99 7 (.slice (some ⟨g,off1,none⟩) acc.length cu) (jc f (k+1)).length ((jc f (k+1)).flatMap jU):=by
         rw[hst.out,hse.out,List.length_set];exact hset
        clear hset hown hbel hbx hfz hc1 hgb hcx
        go_wp2
        go_roundw
        case rel=>exact⟨k+1,by omega,by go_num,hbel6,hbx6,hown7⟩
        case measure=>simp[intOf];omega
       ·have hBf:B=false:=by simpa using hB
        subst hBf
        have hst:Hid (jc f (k+1)=acc++[dM k p]):=Lib.hid (by rw[wM hfk hstp.out,hacc])
        clear hfk hacc hfm hB
        go_upto_region 14 with (fail)
        go_wp2_with (at_builtin;refine dI rfl _ _ 50 rfl w.heap.size 99 _ 7 40 underlying50 area_info rfl (by decide) _ acc.length (acc.flatMap jU) rfl (hown.alloc _) (some ⟨W2.heap.size,0,none⟩) 1 1 (jU (dM k p)) rfl (fun h=>(by cases h)) (Nat.le_refl _) rfl (dA.new _ (kT (dM k p)) _) (fun u hu=>mH [dM k p] u (by simpa using hu)) (by unfold maxLen;omega) (by omega) (bQ hbel.size _) ?_)
        intro v W6 hown6 hgr6
        have hbel6:Below w.heap.size w W6:=(hbel.alloc hbel.size _).grown hgr6 (bQ hbel.size _) (hown.alloc (.cells (kT (dM k p)) 99)).ge
        have hbx6:aD W6 w.heap.size (fC f) 110:=iR (hbx.alloc (.cells (kT (dM k p)) 99)) (hown.alloc (.cells (kT (dM k p)) 99)) (by decide) hgr6
        have hown7:Own W6 w.heap.size 99 7 v (jc f (k+1)).length ((jc f (k+1)).flatMap jU):=by
         rw[hst.out,List.flatMap_append,List.length_append];simpa using hown6
        clear hown6 hgr6
        go_wp2
        go_roundw
        case rel=>exact⟨k+1,by omega,by go_num,hbel6,hbx6,hown7⟩
        case measure=>simp[intOf];omega
  ·have hk64:k=64:=by omega
   subst hk64
   go_wp2
   go_ret
   exact⟨_,rfl,hown,hbel⟩
theorem Lu {a b:Ar} (ha:aK a=0) (hb:aK b=0) (h:a.en≤b.fr):(jc (bN [a,b]) 64).length=if bR a b=true then 1 else 2:=by
 have hs:srtF 0 [a,b]:=⟨ha,(aX ha).1.2.1.1,hb,h,trivial⟩
 have e:jc (bN [a,b]) 64=nI [a,b]:=FD (Bh hs) fun i _=>by rw[oI hs,Aq hs]
 rw[e,sP]
 unfold nY
 split<;>rfl
theorem NU (f:Nat→Option Pg) (m:List Ar) (hm:okF none m) (hf:∀i:Nat,i<64→f i=onA m i) (hf' : ∀i p,f i=some p→0≤p.pg∧p.pg≤100) (w:World) :
  Calls Tryz.prog 104 #[.agg (fC f)] w fun r w' => ∃v,r = .returned (.tuple #[v,.int .i64 (yT m.length)])∧Own w' w.heap.size 99 7 v (if 16<m.length then [] else m).length ((if 16<m.length then [] else m).flatMap jU)∧Below w.heap.size w w':=by
 have hs384:=Lib.hid (iP f)
 have hl64:=BB f 64
 rw[FD hm hf] at hl64
 go_enter func104,ntmps104
 go_upto_region 1 with (fail)
 refine gB (fun W=>Code.wp _ _ _ _ W) fun W0 hb0 hx0 hs0 => ?_
 clear hs0
 go_wp2_with (refine ay _ _ rfl _ 0 rfl rfl _ hx0.rd _ underlying110 rfl (by rw[Array.length_toList,hs384.out];exact ones_size) ?_)
 refine (uX f _ hf').mono ?_
 rintro r w1 ⟨v1,rfl,hO1,hb1⟩
 rw[FD hm hf] at hO1
 have hbel:=ag hb0 hb1
 replace hO1:=hO1.mono hb0.size
 obtain⟨a1,c1,rfl,_⟩:=hO1.rd
 clear hb0 hx0 hb1
 by_cases h:16<m.length
 ·have hi:(16:Int)<(m.length:Int):=by omega
  have hd:Hid (yT m.length=4):=Lib.hid (by unfold yT;rw[if_pos h])
  go_wp2
  go_ret2
  exact⟨.slice none 0 0,by first | (rw[hd.out];done) | (rw[hd.out];rfl),by first | exact Own.nil _ _ _ _ | (rw[if_pos h];exact Own.nil _ _ _ _),hbel⟩
 ·have hi:¬(16:Int)<(m.length:Int):=by omega
  have hd:Hid (yT m.length=0):=Lib.hid (by unfold yT;rw[if_neg h])
  go_wp2
  go_ret2
  exact⟨.slice a1 m.length c1,by first | (rw[hd.out];done) | (rw[hd.out];rfl),by first | exact hO1 | (rw[if_neg h];exact hO1),hbel⟩
theorem rQ {l:Operand} (ho:o.op = .slice t x (some l) (some h) none) (hx:ρ x = .slice (some ⟨b,off,none⟩) n c) (hl:ρ l = .int .i64 O) (hh:ρ h = .int .i64 ((O:Int)+2))
 (ht:P.underlying t=some (.slice (P.elem t))) (hs:(P.info? (P.elem t)).map (·.size)=some sz) (hO:O+1<n) (hn:n≤c) :
  (execOp ρ o).run P w = .ok (.value (.slice (some ⟨b,off+O*sz,none⟩) 2 (c-O))) w:=by
 have hsz:(Go.sizeOf (P.elem t)).run P w = .ok sz w:=by
  cases hq:P.info? (P.elem t) with
  | none=>simp[hq] at hs
  | some i=>
   have hz:i.size=sz:=by simpa[hq] using hs
   simp[Go.sizeOf,typeInfo,run_program,hq,hz]
 unfold execOp
 simp only[ho,hx,hl,hh,Option.map]
 rw[Sem.run_bind,run_sliceAt_slice w t _ _ _ _ ht,run_slice_lh w t _ n c ht .i64 .i64 O (O+2) (by omega) (by omega) (by omega),hsz]
 have e1:((O:Int)+2).toNat-(O:Int).toNat=2:=by omega
 have e2:((O:Int)+2).toNat-O=2:=by omega
 simp[sliced,e1,e2,Addr.add,show ¬c=O by omega,go_sem]
theorem OW {l:List Ar} (h:dA w (some ⟨b,off,none⟩) (l.flatMap jU)) {m:Nat} (hm:m+1<l.length):dA w (some ⟨b,off+m*7,none⟩) ([l[m],l[m+1]].flatMap jU):=by
 have h1:=yK h m (by omega)
 have h2:=yK h (m+1) hm
 intro j u hj
 refine⟨b,off+m*7,rfl,?_⟩
 simp only[List.flatMap_cons,List.flatMap_nil,List.append_nil] at hj
 by_cases c:j<7
 ·rw[List.getElem?_append_left (by rw[nQ];exact c)] at hj
  exact h1 j u hj
 ·rw[List.getElem?_append_right (by rw[nQ];omega),nQ] at hj
  have:=h2 _ u hj
  rwa [show off+(m+1)*7+(j-7)=off+m*7+j by omega] at this
theorem DX (l:List Ar) (a:Option Addr) (c:Nat) (w:World) (h:Pv w a c l) :
  Calls Tryz.prog 85 #[.slice a l.length c] w fun e w'=>e = .returned (.agg (Jl (bF l)))∧Below w.heap.size w w':=by
 have hlc:=h.le
 have hlm:=Nat.le_trans h.le h.mx
 unfold maxLen at hlm
 have hrd:=h.rd
 go_enter func85,ntmps85
 go_upto_region 1 with (fail)
 refine gB (fun W=>Code.wp _ _ _ _ W) fun W0 hbel hres hs0 => ?_
 clear hs0
 by_cases h16:16<l.length
 ·have h16' : (16:Int)<(l.length:Int):=by omega
  have hz:Hid (bF l=(4,0)):=Lib.hid (by unfold bF;rw[if_pos h16])
  go_wp2_with (refine ax rfl _ _ _ rfl w.heap.size #[.int .i64 (4),.int .i64 (0)] rfl rfl _ _ hres rfl fau_size (kG _ _) ?_)
  intro w5 hr5 hgr5
  have hbel5:Below w.heap.size w w5:=hbel.grown hgr5 hbel.size (fun k hk=>by cases hk;exact Nat.le_refl _)
  go_wp2
  refine bodyPost_ret (v:=.agg #[.int .i64 (4),.int .i64 (0)]) (dF results85 _ _ w.heap.size _ _ _ rfl hr5 underlying150 rfl fau_size) rfl ?_
  exact⟨by rw[hz.out];rfl,hbel5⟩
 ·have h16' : ¬(16:Int)<(l.length:Int):=by omega
  have h0:Hid (bF l=gV (lT l 0) 0 (l.drop 0)):=Lib.hid (by unfold bF;rw[if_neg h16];rfl)
  go_upto_region 4 with (fail)
  go_loopw [12] (fun i wr => ∃k:Nat,k≤l.length∧i = .int .i64 k∧Below w.heap.size w wr∧aD wr w.heap.size #[.int .i64 0,.int .i64 0] 150∧(∀i (h:i<l.length),i<k→aK l[i]=0)∧Hid (bF l=gV (lT l k) k (l.drop k))) (fun i _=>l.length-(intOf i).toNat)
  case atStart=>exact⟨0,Nat.zero_le _,rfl,hbel,hres,fun i _ h=>absurd h (Nat.not_lt_zero _),h0⟩
  case round=>
   clear hbel hres h0
   obtain⟨k,hk,rfl,hbel,hres,hp0,hst⟩:=hrel
   have hp:=Lib.hid hp0
   clear hp0
   by_cases hlt:k<l.length
   ·obtain⟨b,off,rfl,c0,c1,c2,c3,c4,c5,c6⟩:=Fy (hrd.below hbel) k hlt
    have hki:(k:Int)<(l.length:Int):=by omega
    go_upto_region 6 with (fail)
    refine gB (fun W=>Code.wp _ _ _ _ W) fun W1 hb1 hx1 hs1 => ?_
    have hbel:=ag hbel hb1
    have hres:=hres.ext hb1
    clear hs1 hb1 c0 c1 c2 c3 c4 c5 c6
    obtain⟨gx,hgx⟩:∃g,g=wr.heap.size:=⟨_,rfl⟩
    rw[←hgx] at hx1 ⊢
    clear hgx
    go_wp2_with (refine ay _ _ rfl _ 0 rfl rfl _ hx1.rd _ underlying99 rfl area_size ?_)
    refine (Ab l[k] _).mono ?_
    rintro r w2 ⟨rfl,hb2⟩
    have hbel2:=ag hbel hb2
    have hres2:=hres.ext hb2
    have hx2:=hx1.ext hb2
    clear hbel hres hb2 hx1
    by_cases he:aK l[k]=0
    ·have he':=Lib.hid he
     rw[he]
     clear he
     go_upto_region 9 with (fail)
     by_cases hk0:k=0
     ·subst hk0
      have hd0:decide ((0:Int)<((0:Nat):Int))=false:=rfl
      have hnx:Hid (bF l=gV (lT l (0+1)) (0+1) (l.drop (0+1))):=Lib.hid (by rw[hst.out];exact qd hlt he'.out rfl)
      go_quiet (fail)
      go_wp2
      go_roundw
      case rel=>exact⟨0+1,by omega,by go_num,below_drewN hbel2 _,hres2.drewN _,kV hp.out hlt he'.out,hnx⟩
      case measure=>simp[intOf];omega
     ·obtain⟨m,rfl⟩:∃m,k=m+1:=⟨k-1,by omega⟩
      have hm1:IntKind.i64.wrap (((m+1:Nat):Int)-1)=(m:Int):=by rw[IntWalk.i64_in _ (by omega)];omega
      have hml:m<l.length:=by omega
      have hm2:IntKind.i64.wrap (m:Int)=(m:Int):=IntWalk.i64_in _ (by omega)
      have hm3:IntKind.i64.wrap ((m:Int)+1+1)=(m:Int)+2:=by rw[IntWalk.i64_in _ (by omega)];omega
      have hm4:IntKind.i64.wrap (((m+1:Nat):Int)+1)=(m:Int)+2:=by rw[IntWalk.i64_in _ (by omega)];omega
      have hbp:=Lib.hid (DC hlt)
      have hE0:=hp.out m hml (by omega)
      have hRd:=hrd.below hbel2
      have hPm:=yK hRd m hml
      have hT:=OW hrd hlt
      have hpr:∀x∈[l[m],l[m+1]],aK x=0:=fun x hx=>by
       rcases List.mem_cons.1 hx with rfl|hx
       ·exact hE0
       ·rw[List.mem_singleton.1 hx];exact he'.out
      have hup:Hid (∀i (h:i<l.length),i<m+1+1→aK l[i]=0):=Lib.hid (kV hp.out hlt he'.out)
      generalize hA1:l[m+1]=A1 at *
      generalize hA0:l[m]=A0 at *
      by_cases hov:A1.fr<A0.en
      ·have hz:Hid (bF l=(2,((m+1:Nat):Int))):=Lib.hid (by rw[hst.out];exact pG hlt (by rw[hA1];exact he'.out) (by rw[hA1,hbp.out,decide_eq_true hov];rfl))
       have hpo:True:=trivial
       have hpl:True:=trivial
       refine aG 25 [_,_,_,_,_,_,.v (.pointer (some ⟨b,off+m*7,none⟩)),_,.v (.int .i64 A0.en),_,.v (.int .i64 A1.fr),_,_,_,_,_,_,_,_,_,_,_,_,_,.v (.bool true)] (Gk rfl (Gb (.bool true) (by simp[go_sem]) rfl rfl rfl rfl rfl (Gk rfl (Gk rfl (Gk rfl (Gb (.int .i64 (m:Int)) (by simp[go_sem,hm1,hm2]) rfl rfl rfl rfl rfl (ae ?_ (Gf b (off+m*7+1) rfl rfl (ae ?_ (Gf gx 0 rfl rfl (ae ?_ (Gb (.bool true) (by simp[go_sem,hov]) rfl rfl rfl rfl rfl (Gk rfl (Gk rfl (Gk rfl (Gk rfl (Gk rfl (Gk rfl (Gk rfl (Gk rfl (Gk rfl (Gk rfl (Gk rfl (Gk rfl (Gk rfl (aB)))))))))))))))))))))))))) (fun _=>rfl) rfl ?_
       ·intro ρ y W hw hn hb hd;have E27:=hw 27 3 rfl;have h3:y 3=_:=hd 3 rfl;have E29:=hw 29 5 rfl;have h5:y 5=_:=hd 5 rfl
        refine aj (.pointer (some ⟨b,off+m*7,none⟩)) (aQ 2 26 true true rfl rfl ((hw 26 2 rfl).trans (hd 2 rfl))) (by simp[execOp,go_sem,E27,h3,E29,h5,hml]) rfl
       ·intro ρ y W hw hn hb hd;have E31:=hw 31 7 rfl;have h7:y 7=_:=hd 7 rfl
        have hc0:=(hPm.below hb).cells.2.1
        refine aj (.int .i64 A0.en) (aQ 2 26 true true rfl rfl ((hw 26 2 rfl).trans (hd 2 rfl))) (by simp[execOp,go_sem,E31,h7,hc0]) rfl
       ·intro ρ y W hw hn hb hd;have E33:=hw 33 9 rfl;have h9:y 9=_:=hd 9 rfl
        have hc0:=(hx2.ext hb).cell 0
        simp at hc0
        refine aj (.int .i64 A1.fr) (aQ 2 26 true true rfl rfl ((hw 26 2 rfl).trans (hd 2 rfl))) (by simp[execOp,go_sem,E33,h9,hc0]) rfl
       intro y WA hbWA _
       have hbel:=ag hbel2 hbWA
       have hres:=hres2.ext hbWA
       clear hbel2 hres2
       go_wp2_with (refine ax rfl _ _ _ rfl w.heap.size #[.int .i64 (2),.int .i64 (((m+1:Nat):Int))] rfl rfl _ _ hres rfl fau_size (kG _ _) ?_)
       intro w5 hr5 hgr5
       have hbel5:Below w.heap.size w w5:=hbel.grown hgr5 hbel.size (fun k hk=>by cases hk;exact Nat.le_refl _)
       go_wp2
       refine bodyPost_ret (v:=.agg #[.int .i64 (2),.int .i64 (((m+1:Nat):Int))]) (dF results85 _ _ w.heap.size _ _ _ rfl hr5 underlying150 rfl fau_size) rfl ?_
       exact⟨by rw[hz.out];rfl,hbel5⟩
      ·have hs:srtF 0 [A0,A1]:=⟨hE0,(aX hE0).1.2.1.1,he'.out,by omega,trivial⟩
       have hpo:=CS hs
       have hpl0:=Lu hE0 he'.out (by omega:A0.en≤A1.fr)
       cases hj:bR A0 A1
       ·have hpl:(jc (bN [A0,A1]) 64).length=2:=by rw[hpl0,hj];rfl
        have hnx:Hid (bF l=gV (lT l (m+1+1)) (m+1+1) (l.drop (m+1+1))):=Lib.hid (by rw[hst.out];exact qd hlt (by rw[hA1];exact he'.out) (by rw[hA1,hbp.out,decide_eq_false hov,hj];rfl))
        clear hpl0 hs
        refine aG 25 [_,_,_,_,_,_,.v (.pointer (some ⟨b,off+m*7,none⟩)),_,.v (.int .i64 A0.en),_,.v (.int .i64 A1.fr),_,_,_,_,_,_,_,_,.v (.agg (fC (bN [A0,A1]))),.r 20 ((lh w.heap.size 99 7 (jc (bN [A0,A1]) 64).length ((jc (bN [A0,A1]) 64).flatMap jU))),.v (.int .i64 (2)),_,_,.v (.bool false)] (Gk rfl (Gb (.bool true) (by simp[go_sem]) rfl rfl rfl rfl rfl (Gk rfl (Gk rfl (Gk rfl (Gb (.int .i64 (m:Int)) (by simp[go_sem,hm1,hm2]) rfl rfl rfl rfl rfl (ae ?_ (Gf b (off+m*7+1) rfl rfl (ae ?_ (Gf gx 0 rfl rfl (ae ?_ (Gb (.bool false) (by simp[go_sem,hov]) rfl rfl rfl rfl rfl (Gk rfl (Gk rfl (Gk rfl (Gb (.int .i64 (m:Int)) (by simp[go_sem,hm1,hm2]) rfl rfl rfl rfl rfl (Gk rfl (Gb (.int .i64 ((m:Int)+2)) (by simp[go_sem,hm3,hm4]) rfl rfl rfl rfl rfl (Gr (.slice (some ⟨b,off+m*7,none⟩) 2 (c-m)) (fun ρ y W hb hKn=>(rQ rfl (aF rfl hKn) (aF rfl hKn) (aF rfl hKn) underlying50 area_size hlt hlc)) rfl rfl (ae ?_ (ae ?_ (ae ?_ (Gb (.bool false) (by simp[go_sem]) rfl rfl rfl rfl rfl (Gk rfl (Gk rfl (aB)))))))))))))))))))))))))) (fun _=>rfl) rfl ?_
        ·intro ρ y W hw hn hb hd;have E27:=hw 27 3 rfl;have h3:y 3=_:=hd 3 rfl;have E29:=hw 29 5 rfl;have h5:y 5=_:=hd 5 rfl
         refine aj (.pointer (some ⟨b,off+m*7,none⟩)) (aQ 2 26 true true rfl rfl ((hw 26 2 rfl).trans (hd 2 rfl))) (by simp[execOp,go_sem,E27,h3,E29,h5,hml]) rfl
        ·intro ρ y W hw hn hb hd;have E31:=hw 31 7 rfl;have h7:y 7=_:=hd 7 rfl
         have hc0:=(hPm.below hb).cells.2.1
         refine aj (.int .i64 A0.en) (aQ 2 26 true true rfl rfl ((hw 26 2 rfl).trans (hd 2 rfl))) (by simp[execOp,go_sem,E31,h7,hc0]) rfl
        ·intro ρ y W hw hn hb hd;have E33:=hw 33 9 rfl;have h9:y 9=_:=hd 9 rfl
         have hc0:=(hx2.ext hb).cell 0
         simp at hc0
         refine aj (.int .i64 A1.fr) (aQ 2 26 true true rfl rfl ((hw 26 2 rfl).trans (hd 2 rfl))) (by simp[execOp,go_sem,E33,h9,hc0]) rfl
        ·intro ρ y W hw hn hb hd;have E42:=hw 42 18 rfl;have h18:y 18=_:=hd 18 rfl
         have EF:∀f,ρ (.func f) = .func (.func f) #[] #[]:=fun f=>hn (.func f) trivial
         refine aM _ _ (aQ 12 36 false false rfl rfl ((hw 36 12 rfl).trans (hd 12 rfl))) (aN rfl (EF _) func49 (by kernel_rfl) (by kernel_rfl) (by simp only[List.map_toArray,List.map_cons,List.map_nil,E42,h18,EF];rfl)) ?_
         refine (oZ [A0,A1] _ (c-m) W (hT.below (ag hbel2 hb)) (by simp) hpr).mono ?_
         rintro r w1 ⟨rfl,hb1⟩
         exact⟨_,rfl,hb1,rfl⟩
        ·intro ρ y W hw hn hb hd;have E43:=hw 43 19 rfl;have h19:y 19=_:=hd 19 rfl
         have EF:∀f,ρ (.func f) = .func (.func f) #[] #[]:=fun f=>hn (.func f) trivial
         refine aM _ _ (aQ 12 36 false false rfl rfl ((hw 36 12 rfl).trans (hd 12 rfl))) (aN rfl (EF _) func123 (by kernel_rfl) (by kernel_rfl) (by simp only[List.map_toArray,List.map_cons,List.map_nil,E43,h19,EF];rfl)) ?_
         refine (uX (bN [A0,A1]) W hpo).mono ?_
         rintro r w1 ⟨v1,rfl,ho,hb1⟩
         exact⟨v1,rfl,hb1,ho.mono (Nat.le_trans hbel2.size hb.size)⟩
        ·intro ρ y W hw hn hb hd;have E44:=hw 44 20 rfl;have h20:=hd 20 rfl
         obtain⟨a20,c20,h20v,_⟩:=Own.rd h20
         refine aj (.int .i64 (2)) (aQ 12 36 false false rfl rfl ((hw 36 12 rfl).trans (hd 12 rfl))) (by simp[execOp,go_sem,E44,h20v,hpl]) rfl
        intro y WA hbWA hRWA
        have hy20:((lh w.heap.size 99 7 (jc (bN [A0,A1]) 64).length ((jc (bN [A0,A1]) 64).flatMap jU))).r (y 20) WA:=hRWA 20 (by decide)
        clear hRWA
        have hbel:=ag hbel2 hbWA
        have hres:=hres2.ext hbWA
        clear hbel2 hres2 hm1 hm2 hm3 hm4 hpl
        go_wp2
        go_roundw
        case rel=>exact⟨m+1+1,by omega,by go_num,hbel,hres,hup.out,hnx⟩
        case measure=>simp[intOf];omega
       ·have hpl:(jc (bN [A0,A1]) 64).length=1:=by rw[hpl0,hj];rfl
        have hz:Hid (bF l=(2,((m+1:Nat):Int))):=Lib.hid (by rw[hst.out];exact pG hlt (by rw[hA1];exact he'.out) (by rw[hA1,hbp.out,hj,Bool.or_true]))
        clear hpl0 hs
        refine aG 25 [_,_,_,_,_,_,.v (.pointer (some ⟨b,off+m*7,none⟩)),_,.v (.int .i64 A0.en),_,.v (.int .i64 A1.fr),_,_,_,_,_,_,_,_,.v (.agg (fC (bN [A0,A1]))),.r 20 ((lh w.heap.size 99 7 (jc (bN [A0,A1]) 64).length ((jc (bN [A0,A1]) 64).flatMap jU))),.v (.int .i64 (1)),_,_,.v (.bool true)] (Gk rfl (Gb (.bool true) (by simp[go_sem]) rfl rfl rfl rfl rfl (Gk rfl (Gk rfl (Gk rfl (Gb (.int .i64 (m:Int)) (by simp[go_sem,hm1,hm2]) rfl rfl rfl rfl rfl (ae ?_ (Gf b (off+m*7+1) rfl rfl (ae ?_ (Gf gx 0 rfl rfl (ae ?_ (Gb (.bool false) (by simp[go_sem,hov]) rfl rfl rfl rfl rfl (Gk rfl (Gk rfl (Gk rfl (Gb (.int .i64 (m:Int)) (by simp[go_sem,hm1,hm2]) rfl rfl rfl rfl rfl (Gk rfl (Gb (.int .i64 ((m:Int)+2)) (by simp[go_sem,hm3,hm4]) rfl rfl rfl rfl rfl (Gr (.slice (some ⟨b,off+m*7,none⟩) 2 (c-m)) (fun ρ y W hb hKn=>(rQ rfl (aF rfl hKn) (aF rfl hKn) (aF rfl hKn) underlying50 area_size hlt hlc)) rfl rfl (ae ?_ (ae ?_ (ae ?_ (Gb (.bool true) (by simp[go_sem]) rfl rfl rfl rfl rfl (Gk rfl (Gk rfl (aB)))))))))))))))))))))))))) (fun _=>rfl) rfl ?_
        ·intro ρ y W hw hn hb hd;have E27:=hw 27 3 rfl;have h3:y 3=_:=hd 3 rfl;have E29:=hw 29 5 rfl;have h5:y 5=_:=hd 5 rfl
         refine aj (.pointer (some ⟨b,off+m*7,none⟩)) (aQ 2 26 true true rfl rfl ((hw 26 2 rfl).trans (hd 2 rfl))) (by simp[execOp,go_sem,E27,h3,E29,h5,hml]) rfl
        ·intro ρ y W hw hn hb hd;have E31:=hw 31 7 rfl;have h7:y 7=_:=hd 7 rfl
         have hc0:=(hPm.below hb).cells.2.1
         refine aj (.int .i64 A0.en) (aQ 2 26 true true rfl rfl ((hw 26 2 rfl).trans (hd 2 rfl))) (by simp[execOp,go_sem,E31,h7,hc0]) rfl
        ·intro ρ y W hw hn hb hd;have E33:=hw 33 9 rfl;have h9:y 9=_:=hd 9 rfl
         have hc0:=(hx2.ext hb).cell 0
         simp at hc0
         refine aj (.int .i64 A1.fr) (aQ 2 26 true true rfl rfl ((hw 26 2 rfl).trans (hd 2 rfl))) (by simp[execOp,go_sem,E33,h9,hc0]) rfl
        ·intro ρ y W hw hn hb hd;have E42:=hw 42 18 rfl;have h18:y 18=_:=hd 18 rfl
         have EF:∀f,ρ (.func f) = .func (.func f) #[] #[]:=fun f=>hn (.func f) trivial
         refine aM _ _ (aQ 12 36 false false rfl rfl ((hw 36 12 rfl).trans (hd 12 rfl))) (aN rfl (EF _) func49 (by kernel_rfl) (by kernel_rfl) (by simp only[List.map_toArray,List.map_cons,List.map_nil,E42,h18,EF];rfl)) ?_
         refine (oZ [A0,A1] _ (c-m) W (hT.below (ag hbel2 hb)) (by simp) hpr).mono ?_
         rintro r w1 ⟨rfl,hb1⟩
         exact⟨_,rfl,hb1,rfl⟩
        ·intro ρ y W hw hn hb hd;have E43:=hw 43 19 rfl;have h19:y 19=_:=hd 19 rfl
         have EF:∀f,ρ (.func f) = .func (.func f) #[] #[]:=fun f=>hn (.func f) trivial
         refine aM _ _ (aQ 12 36 false false rfl rfl ((hw 36 12 rfl).trans (hd 12 rfl))) (aN rfl (EF _) func123 (by kernel_rfl) (by kernel_rfl) (by simp only[List.map_toArray,List.map_cons,List.map_nil,E43,h19,EF];rfl)) ?_
         refine (uX (bN [A0,A1]) W hpo).mono ?_
         rintro r w1 ⟨v1,rfl,ho,hb1⟩
         exact⟨v1,rfl,hb1,ho.mono (Nat.le_trans hbel2.size hb.size)⟩
        ·intro ρ y W hw hn hb hd;have E44:=hw 44 20 rfl;have h20:=hd 20 rfl
         obtain⟨a20,c20,h20v,_⟩:=Own.rd h20
         refine aj (.int .i64 (1)) (aQ 12 36 false false rfl rfl ((hw 36 12 rfl).trans (hd 12 rfl))) (by simp[execOp,go_sem,E44,h20v,hpl]) rfl
        intro y WA hbWA hRWA
        have hy20:((lh w.heap.size 99 7 (jc (bN [A0,A1]) 64).length ((jc (bN [A0,A1]) 64).flatMap jU))).r (y 20) WA:=hRWA 20 (by decide)
        clear hRWA
        have hbel:=ag hbel2 hbWA
        have hres:=hres2.ext hbWA
        clear hbel2 hres2
        go_wp2_with (refine ax rfl _ _ _ rfl w.heap.size #[.int .i64 (2),.int .i64 (((m+1:Nat):Int))] rfl rfl _ _ hres rfl fau_size (kG _ _) ?_)
        intro w5 hr5 hgr5
        have hbel5:Below w.heap.size w w5:=hbel.grown hgr5 hbel.size (fun k hk=>by cases hk;exact Nat.le_refl _)
        go_wp2
        refine bodyPost_ret (v:=.agg #[.int .i64 (2),.int .i64 (((m+1:Nat):Int))]) (dF results85 _ _ w.heap.size _ _ _ rfl hr5 underlying150 rfl fau_size) rfl ?_
        exact⟨by rw[hz.out];rfl,hbel5⟩
    ·have hz:Hid (bF l=(aK l[k],(k:Int))):=Lib.hid (by rw[hst.out];exact Ag hlt he)
     have he' : (aK l[k] != 0)=true:=by simpa using he
     have hbel:=hbel2
     have hres:=hres2
     clear he hbel2 hres2
     go_wp2_with (refine ax rfl _ _ _ rfl w.heap.size #[.int .i64 (aK l[k]),.int .i64 (k)] rfl rfl _ _ hres rfl fau_size (kG _ _) ?_)
     intro w5 hr5 hgr5
     have hbel5:Below w.heap.size w w5:=hbel.grown hgr5 hbel.size (fun k hk=>by cases hk;exact Nat.le_refl _)
     go_wp2
     refine bodyPost_ret (v:=.agg #[.int .i64 (aK l[k]),.int .i64 (k)]) (dF results85 _ _ w.heap.size _ _ _ rfl hr5 underlying150 rfl fau_size) rfl ?_
     exact⟨by rw[hz.out];rfl,hbel5⟩
   ·have hz:Hid (bF l=(0,0)):=Lib.hid (by rw[hst.out,List.drop_eq_nil_of_le (by omega)];rfl)
    go_wp2_with (refine ax rfl _ _ _ rfl w.heap.size #[.int .i64 (0),.int .i64 (0)] rfl rfl _ _ hres rfl fau_size (kG _ _) ?_)
    intro w5 hr5 hgr5
    have hbel5:Below w.heap.size w w5:=hbel.grown hgr5 hbel.size (fun k hk=>by cases hk;exact Nat.le_refl _)
    go_wp2
    refine bodyPost_ret (v:=.agg #[.int .i64 (0),.int .i64 (0)]) (dF results85 _ _ w.heap.size _ _ _ rfl hr5 underlying150 rfl fau_size) rfl ?_
    exact⟨by rw[hz.out];rfl,hbel5⟩
theorem ents_size:(Tryz.prog.info? 90).map (·.size)=some 192:=by kernel_rfl
theorem Ac {o d:Nat} (hlen:ys.length=xs.length) (hfit:o+xs.length≤cur.size) (hc:∀j u,xs[j]?=some u→cur[o+j]?=some u) (hd:d+vs.length≤xs.length)
 (hin:∀i,i<vs.length→ys[d+i]?=vs[i]?) (hout:∀i,(i<d∨d+vs.length≤i)→ys[i]?=xs[i]?):bq cur (o+d) vs=bq cur o ys:=by
 apply Array.ext_getElem?
 intro m
 by_cases h1:o≤m∧m<o+xs.length
 ·obtain⟨e,rfl⟩:∃e,m=o+e:=⟨m-o,by omega⟩
  obtain⟨u,hu⟩:∃u,ys[e]?=some u:=⟨_,List.getElem?_eq_getElem (by omega)⟩
  rw[putAt_in _ _ _ _ u (by omega) hu]
  by_cases h2:d≤e∧e<d+vs.length
  ·obtain⟨i,rfl⟩:∃i,e=d+i:=⟨e-d,by omega⟩
   rw[hin i (by omega)] at hu
   rw[←Nat.add_assoc]
   exact putAt_in _ _ _ _ u (by omega) hu
  ·rw[hout e (by omega)] at hu
   rw[putAt_out _ _ _ _ (by omega)]
   exact hc _ _ hu
 ·rw[putAt_out _ _ _ _ (by omega),putAt_out _ _ _ _ (by omega)]
theorem Cq {o:Nat} (hfit:o+13≤cur.size) (hc:∀j u,(lZ X)[j]?=some u→cur[o+j]?=some u):bq cur (o+8) [.int .i64 (X.r+1)]=bq cur o (lZ (fG X)):=
 Ac (xs:=lZ X) rfl hfit hc (by show 8+1≤13;omega) (fun i hi=>by
  obtain rfl:i=0:=by simpa using hi
  rfl) (fun i hi=>by
  match i,hi with
  | 0,_=>rfl
  | 1,_=>rfl
  | 2,_=>rfl
  | 3,_=>rfl
  | 4,_=>rfl
  | 5,_=>rfl
  | 6,_=>rfl
  | 7,_=>rfl
  | 8,h=>exact absurd h (by show ¬(8<8∨8+1≤8);omega)
  | 9,_=>rfl
  | 10,_=>rfl
  | 11,_=>rfl
  | 12,_=>rfl
  | n+13,_=>rfl)
def Pe (S:MW) (p n:Nat) (B b:Nat) (w:World) (r:Ending) (w' : World):Prop:=∃S',r = .returned (.tuple #[])∧dz w' B b S'∧MS w b S w' S'∧BO S S'∧Bd S'.H.ma S'.T∧∀q j,¬(q=p∧j=n)→dJ S'.T q j=dJ S.T q j
theorem Ei (S:MW) (p n:Nat) (g:Pg) (B b:Nat) (w:World) (h:dz w B b S) (hd:Bd S.H.ma S.T) (hp:p<S.H.sp.length) (hn:n<64) (h0:(dJ S.T p n).k=0) (hg:onA (dR S.H.ma p).ar n=some g) (hfi:g.fi<S.H.fi.length) (hpg:0≤g.pg) (hsh:g.sh=true→0≤g.fi) :
  Calls Tryz.prog 65 #[.pointer (some ⟨b,0,none⟩),.int .i64 p,.int .i64 n,.agg #[.bool true,.bool g.rd,.bool g.wr,.bool g.sh,.int .i64 g.fi,.int .i64 g.pg]] w (Pe S p n B b w):=by
 obtain⟨grd,gwr,gsh,gfi,gpg⟩:=g
 dsimp only at hfi hpg hsh ⊢
 obtain⟨I,rfl⟩:=Int.eq_ofNat_of_zero_le hpg
 have hd':=Lib.hid hd
 have hg':=Lib.hid hg
 have h0':=Lib.hid h0
 have hBs:=Lib.hid h.bs
 clear hd hg h0 hpg
 go_enter func65,ntmps65
 go_upto_region 1 with (fail)
 refine gB (fun W=>Code.wp _ _ _ _ W) fun w1 hb1 bx1 hs1 => ?_
 have h1:=h.below hb1
 have s1:=(MS.refl w b S).below hb1
 have hn0:=Lib.hid (h.new (Nat.le_refl _))
 clear h hb1 hs1
 go_wp2_with fail
 refine (dL _ 4 B b _ h1 (by omega)).mono ?_
 rintro r w2 ⟨x,a2,c2,l2,rfl,h2,s2,hx,_⟩
 have bx2:=s2.blkN bx1 hn0.out
 have s2:=s1.trans s2
 clear h1 s1 bx1
 have hcx:=bx2.cell
 go_upto_region 5 with (fail)
 by_cases hx0:x=0
 ·subst hx0
  go_wp2
  refine bodyPost_ret (v:=.tuple #[]) (by simp[results,go_sem,results65]) rfl ?_
  exact⟨_,rfl,h2,s2,⟨rfl,rfl,rfl,rfl,rfl,rfl⟩,hd'.out,fun _ _ _=>rfl⟩
 ·have hx0b:(x==0)=false:=by simp[hx0]
  go_upto_region 6 with (fail)
  go_cut [44] (fun s44 wx=>s44 = .bool (decide (0≤gfi∧(gsh=true∨x=1)))∧wx=w2)
  case first=>
   by_cases hf:0≤gfi
   ·cases gsh with
    | true=>
     go_wp2
     go_meet
     case rel=>exact⟨by simp[hf],rfl⟩
    | false=>
     by_cases hx1:x=1
     ·have hx1b:(x==1)=true:=by simp[hx1]
      have hx1':=Lib.hid hx1
      clear hx1
      go_wp2
      go_meet
      case rel=>exact⟨by rw[decide_eq_true ⟨hf,.inr hx1'.out⟩],rfl⟩
     ·have hx1b:(x==1)=false:=by simp[hx1]
      go_wp2
      go_meet
      case rel=>exact⟨by rw[decide_eq_false (by rintro⟨_,h | h⟩;cases h;exact hx1 h)],rfl⟩
   ·go_wp2
    go_meet
    case rel=>exact⟨by rw[decide_eq_false (fun h=>by have:=h.1;omega)],rfl⟩
  case rest=>
   obtain⟨rfl,hwc⟩:=hcut
   subst wc
   by_cases hF:0≤gfi∧(gsh=true∨x=1)
   ·rw[decide_eq_true hF]
    obtain⟨F,rfl⟩:=Int.eq_ofNat_of_zero_le hF.1
    have hFl:F<S.H.fi.length:=by omega
    obtain⟨p0,hp0⟩:∃p0,S.H.fi[F]?=some p0:=⟨_,List.getElem?_eq_getElem hFl⟩
    have hfa:Hid (aT S.H.ma.st (F:Int)=p0.fi):=Lib.hid (ng (by show (S.H.fi.map PF.fi)[F]?=_;rw[List.getElem?_map,hp0];rfl))
    obtain⟨bf,of,hai,hrd⟩:=kJ iC (by decide) h2.ma.rd.st.rd F hFl
    have hai:S.H.ai=some ⟨bf,of,none⟩:=hai
    have hrd:dA w2 (some ⟨bf,of+F*2,none⟩) (lU p0):=by rw[←(List.getElem?_eq_some_iff.1 hp0).2];exact hrd
    have rc1:∀W,Below w2.heap.size w2 W→W.cell? ⟨bf,of+F*2+1,none⟩=some (.slice p0.a p0.l.length p0.c):=fun W hb=>by
     obtain⟨b',o',e,hcc⟩:=(hrd.below hb) 1 _ rfl
     cases e
     exact hcc
    have hfi':=Lib.hid hfi
    clear hp0 hrd hfi
    go_upto_region 7 with (fail)
    by_cases hge:(p0.l.length:Int)≤(I:Int)
    ·skip
     refine aG 15 [_,_,_,_,_,_,_,_,_,_,_,_,_,_,_] (Gf w.heap.size 5 rfl rfl (Gl bx2 rfl rfl rfl rfl rfl (Gk rfl (Gk rfl (Gf b 1 rfl rfl (Gf b 8 rfl rfl (Gf b 8 rfl rfl (Gl h2.blk (V:=.slice (some ⟨bf,of,none⟩) S.H.fi.length S.H.ci) (by simp[fD,MW.lst,hai]) rfl rfl rfl rfl (Gf w.heap.size 4 rfl rfl (Gl bx2 rfl rfl rfl rfl rfl (Gr (.pointer (some ⟨bf,of+F*2,none⟩)) (fun ρ y W hb hKn=>(bB rfl (aF rfl hKn) (aF rfl hKn) hFl underlying35 file_size)) rfl rfl (Gf bf (of+F*2+1) rfl rfl (Gc (.slice p0.a p0.l.length p0.c) (fun W hb=>by simp[rc1 _ hb]) rfl rfl rfl rfl (Gn rfl rfl rfl rfl (Gb (.bool true) (by simp[go_sem,hge]) rfl rfl rfl rfl rfl (aB)))))))))))))))) (fun _=>rfl) rfl ?_
     intro y W3 hbW3 _
     have h3:=h2.below hbW3
     have s3:=s2.below hbW3
     have bx3:=bx2.ext hbW3
     clear h2 s2 bx2 hcx hbW3 rc1 hai
     have hcx:=bx3.cell
     go_wp2
     refine bodyPost_ret (v:=.tuple #[]) (by simp[results,go_sem,results65]) rfl ?_
     exact⟨_,rfl,h3,s3,⟨rfl,rfl,rfl,rfl,rfl,rfl⟩,hd'.out,fun _ _ _=>rfl⟩
    ·skip
     refine aG 15 [_,_,_,_,_,_,_,_,_,_,_,_,_,_,_] (Gf w.heap.size 5 rfl rfl (Gl bx2 rfl rfl rfl rfl rfl (Gk rfl (Gk rfl (Gf b 1 rfl rfl (Gf b 8 rfl rfl (Gf b 8 rfl rfl (Gl h2.blk (V:=.slice (some ⟨bf,of,none⟩) S.H.fi.length S.H.ci) (by simp[fD,MW.lst,hai]) rfl rfl rfl rfl (Gf w.heap.size 4 rfl rfl (Gl bx2 rfl rfl rfl rfl rfl (Gr (.pointer (some ⟨bf,of+F*2,none⟩)) (fun ρ y W hb hKn=>(bB rfl (aF rfl hKn) (aF rfl hKn) hFl underlying35 file_size)) rfl rfl (Gf bf (of+F*2+1) rfl rfl (Gc (.slice p0.a p0.l.length p0.c) (fun W hb=>by simp[rc1 _ hb]) rfl rfl rfl rfl (Gn rfl rfl rfl rfl (Gb (.bool false) (by simp[go_sem,hge]) rfl rfl rfl rfl rfl (aB)))))))))))))))) (fun _=>rfl) rfl ?_
     intro y W3 hbW3 _
     have h3:=h2.below hbW3
     have s3:=s2.below hbW3
     have bx3:=bx2.ext hbW3
     clear h2 s2 bx2 hcx hbW3 rc1 hai
     have hcx:=bx3.cell
     go_wp2_with fail
     refine (Di _ F I B b _ h3 hd'.out ⟨⟨by omega,by simp[MH.ma,bY,MW.lst];omega⟩,by omega,by show (I:Int)<(aT S.H.ma.st (F:Int)).b.length;rw[hfa.out];show (I:Int)<p0.l.length;omega⟩).mono ?_
     rintro r w4 ⟨x3,S3,rfl,h4,s4,k4,t4,bd4,hx4⟩
     have bx4:=s4.blkN bx3 hn0.out
     have hn4:=Lib.hid (s4.not bx3.lt hn0.out)
     have s4:=s3.trans s4
     clear h3 s3 bx3 hcx
     have hcx:=bx4.cell
     rcases hx4 with rfl|⟨c,hcm,hcf,hci,rfl⟩
     ·go_wp2
      refine bodyPost_ret (v:=.tuple #[]) (by simp[results,go_sem,results65]) rfl ?_
      exact⟨S3,rfl,h4,s4,⟨k4.sp,k4.fi,k4.ct,k4.dk,k4.fl,k4.sl⟩,bd4,fun _ _ _=>by rw[t4];rfl⟩
     ·have hlt:=bd4.rt.ca.lt c hcm
      obtain⟨f,hfk⟩:=Int.eq_ofNat_of_zero_le hlt.1
      have hfl:f<S3.H.m.fs.length:=by have e:((dw S3.H.ma S3.T).m.fs.length:Nat)=S3.H.m.fs.length:=rfl;omega
      have hcm':=Lib.hid (And.intro hcm (And.intro hcf hci))
      have hfk':=Lib.hid hfk
      rw[hfk]
      clear hlt hcm hcf hci hfk
      obtain⟨gf,off,cap,cur,hv,hgB,hgk,hgs,hgc,hgw⟩:=h4.ma.fr.put eB (by decide) f hfl
      have haf:S3.H.af=some ⟨gf,off,none⟩:=(Value.slice.inj hv).1
      have hX:Hid (aO S3.H.ma f=S3.H.m.fs[f]):=Lib.hid (by
       unfold aO
       show S3.H.m.fs.getD f fr0=_
       rw[List.getD_eq_getElem?_getD,List.getElem?_eq_getElem (by omega)];rfl)
      have hr0:=bd4.rt.fewR (f:=f) hfl
      have hr1:0≤(S3.H.m.fs[f]).r∧(S3.H.m.fs[f]).r≤257:=by rw[←hX.out];exact hr0
      have c8:w4.cell? ⟨gf,off+f*13+8,none⟩=some (.int .i64 (S3.H.m.fs[f]).r):=hgc 8 _ rfl
      have hgw':=Lib.hid hgw
      have hgc':=Lib.hid hgc
      clear hv hgw hgc hr0
      generalize S3.H.m.fs[f]=X at c8 hX hr1 hgc'
      have hc:=h4.blk.cell
      unfold fD at hc
      rw[haf] at hc
      have hwr:IntKind.i64.wrap (X.r+1)=X.r+1:=IntWalk.i64_in _ (by omega)
      have hfi2:(f:Int)<(S3.H.m.fs.length:Int):=by omega
      go_wp2_with (refine az rfl _ _ _ rfl gf (off+f*13+8) _ [.int .i64 (X.r+1)] rfl rfl rfl _ _ hgk (by show off+f*13+8+1≤cur.size;omega) (by kernel_rfl) (fun u hu=>by cases List.mem_singleton.1 hu;rfl) ?_)
      intro w5 hb5 hg5
      rw[Cq (by omega) (fun j u hj=>by rw[←hgk.cell];exact hgc'.out j u hj)] at hb5
      have h5:dz w5 B b (S3.frs (S3.H.m.fs.set f (fG X))):=h4.putF hgk hgB hg5 (fs:=S3.H.m.fs.set f (fG X)) (by simp) (by simpa using hgw'.out _ _ hb5)
      have hkaf:jO b S3 gf:=.inr (by simp only[eO,haf];exact List.mem_cons_self)
      have s5:=s4.put (H':=S3.frs (S3.H.m.fs.set f (fG X))) hg5 hkaf (fun x hx => .inl hx)
      have bx5:=bx4.grown hg5 (fun e=>hn4.out (by rw[←Option.some.inj e];exact hkaf))
      have hn5:Hid (¬jO b (S3.frs (S3.H.m.fs.set f (fG X))) w.heap.size):=hn4
      have hTl:S3.T.length=S.H.sp.length:=by have:=bd4.ok.len;rw[this];show (S3.H.sp.map PS.sp).length=_;rw[List.length_map,k4.sp];rfl
      have hpT:p<S3.T.length:=by omega
      have hTn:∀(S' : MW),S'.T=S3.T→(dE S'.T p).length=64:=fun S' e=>by rw[e];exact bd4.ok.l64 (by rw[←bd4.ok.len];exact hpT)
      have hsp4:dR S3.H.ma p=dR S.H.ma p:=by
       show (S3.H.sp.map PS.sp).getD p zSp=(S.H.sp.map PS.sp).getD p zSp
       rw[k4.sp];rfl
      have hp4:p<S3.H.ma.sp.length:=by show p<(S3.H.sp.map PS.sp).length;rw[List.length_map,k4.sp];exact hp
      have hbdu:Hid (∀u:Bool,(u=true→gsh=true∧gwr=true)→Bd (S3.frs (S3.H.m.fs.set f (fG X))).H.ma (setL (S3.frs (S3.H.m.fs.set f (fG X))).T p n ⟨1,f,u⟩)):=Lib.hid fun u hu=>by
       have h9:=bd4.cachedE (w:=u) hp4 hn (by rw[t4];exact h0'.out) hcm'.out.1 (by rw[hsp4];exact hg'.out) hcm'.out.2 hu
       rw[hfk'.out,Int.toNat_natCast,hX.out] at h9
       exact h9
      have hK5:Hid (BO S (S3.frs (S3.H.m.fs.set f (fG X)))):=Lib.hid ⟨k4.sp,k4.fi,k4.ct,k4.dk,by show (S3.H.m.fs.set f (fG X)).length=_;rw[List.length_set];exact k4.fl,k4.sl⟩
      have hent5:Hid (∀x q j,¬(q=p∧j=n)→dJ (setL (S3.frs (S3.H.m.fs.set f (fG X))).T p n x) q j=dJ S.T q j):=Lib.hid fun x q j hne=>by
       show dJ (setL S3.T p n x) q j=_
       rw[qM bd4.ok hp4 hn,if_neg hne,t4];rfl
      have hpT5:Hid (p<(S3.frs (S3.H.m.fs.set f (fG X))).T.length):=Lib.hid hpT
      have hTn5:Hid (∀S' : MW,S'.T=(S3.frs (S3.H.m.fs.set f (fG X))).T→(dE S'.T p).length=64):=Lib.hid hTn
      generalize S3.frs (S3.H.m.fs.set f (fG X))=S5 at *
      obtain⟨gT,oT,_,hab,_⟩:=dz.ent (S:=S5) h5 (p:=p) (n:=n) hpT5.out hn (hTn5.out _ rfl)
      clear hsp4 hp4 hpT hTn hTl
      clear h4 s4 bx4 hcx hc c8 hb5 hg5 hgk hgc' hgw' hgs haf
      go_upto_region 11 with (fail)
      cases gsh with
      | true=>cases gwr with
       | true=>
        skip
        refine dW 20 [_,_,_,.v (.slice (some ⟨gT,oT,none⟩) S5.T.length S5.cb),_,.v (.int .i64 (n:Int)),_,_,.v (.bool true),_,_,.v (.bool true),_,_,_,.r 15 ((aR fun v => ∃x:Int,v = .int .i64 x∧0≤x)),.r 16 ((aR fun v => ∃u,v = .bool u)),.r 17 ((aR fun v => ∃u,(u=true→true=true)∧v = .bool u)),.r 18 ((aR fun v => ∃u,(u=true→true=true)∧v = .agg #[.int .i64 1,.int .i64 (f:Int),.bool u])),_] (Fv S5 B b w5 [(w.heap.size,#[.bool true,.bool grd,.bool true,.bool true,.int .i64 (F:Int),.int .i64 (I:Int)],109)]) aC (fun _=>⟨S5.al,S5.cl,S5.l,h5,MS.refl _ _ _,by simpa using ⟨bx5,hn5.out⟩⟩) (Qk aC rfl (Qk aC rfl (Qf aC b 12 rfl rfl (ae ?_ (Qk aC rfl (Qk aC rfl (Qk aC rfl (Qf aC w.heap.size 3 rfl rfl (ae ?_ (Qk aC rfl (Qf aC w.heap.size 2 rfl rfl (ae ?_ (Qk aC rfl (Qk aC rfl (Qk aC rfl (ae ?_ (ae ?_ (ae ?_ (ae ?_ (Qr aC (.pointer (some ⟨gT,oT+p*192,none⟩)) (fun ρ y W hKn=>(bB rfl (aF rfl hKn) (aF rfl hKn) hpT5.out underlying75 ents_size)) rfl rfl (aB))))))))))))))))))))) (fun _=>rfl) rfl ?_
        ·intro ρ y W L hw hn hLi hLd hb hd
         refine bS aC (fun _ _ h=>h) hb ?_
         have E94:=hw 94 2 rfl
         have h2:y 2=_:=hd 2 rfl
         obtain⟨a,c,l,m1,m2,m3⟩:=hb
         refine aj (.slice (some ⟨gT,oT,none⟩) S5.T.length S5.cb) (ah rfl) (by simp[execOp,go_sem,E94,h2,m1.blk.cell,fD,MW.lst,hab]) rfl
        ·intro ρ y W L hw hn hLi hLd hb hd
         refine bS aC (fun _ _ h=>h) hb ?_
         have E99:=hw 99 7 rfl
         have h7:y 7=_:=hd 7 rfl
         obtain⟨a,c,l,m1,m2,m3⟩:=hb
         have m3:=(m3 _ (List.mem_singleton.2 rfl)).1
         refine aj (.bool true) (ah rfl) (by simp[execOp,go_sem,E99,h7,m3.cell]) rfl
        ·intro ρ y W L hw hn hLi hLd hb hd
         refine bS aC (fun _ _ h=>h) hb ?_
         have E102:=hw 102 10 rfl
         have h10:y 10=_:=hd 10 rfl
         obtain⟨a,c,l,m1,m2,m3⟩:=hb
         have m3:=(m3 _ (List.mem_singleton.2 rfl)).1
         refine aj (.bool true) (aQ 9 101 true true rfl rfl ((hw 101 9 rfl).trans (hd 9 rfl))) (by simp[execOp,go_sem,E102,h10,m3.cell]) rfl
        ·intro ρ y W L hw hn hLi hLd hb hd;have E106:=hw 106 14 rfl;have h14:y 14=_:=hd 14 rfl
         have EC:∀v,ρ (.const v)=v:=fun v=>hn (.const v) trivial
         have EF:∀f,ρ (.func f) = .func (.func f) #[] #[]:=fun f=>hn (.func f) trivial
         refine eu _ _ (aQ 13 105 true true rfl rfl ((hw 105 13 rfl).trans (hd 13 rfl))) (aN rfl (EF _) func30 (by kernel_rfl) (by kernel_rfl) (by simp only[List.map_toArray,List.map_cons,List.map_nil,E106,h14,EC,EF];rfl)) ?_
         exact tO 2 (by omega) hb fun x h1 _ _ _=>⟨x,rfl,h1⟩
        ·intro ρ y W L hw hn hLi hLd hb hd
         refine bS aC (fun _ _ h=>h) hb ?_
         have E107:=hw 107 15 rfl
         have h15:=hd 15 rfl
         obtain⟨x,hx,_⟩:=h15
         refine aj _ (aQ 13 105 true true rfl rfl ((hw 105 13 rfl).trans (hd 13 rfl))) (lH rfl (E107.trans hx) (hn (.const _) trivial) (by simp[go_sem];rfl)) ⟨_,rfl⟩
        ·intro ρ y W L hw hn hLi hLd hb hd
         refine bS aC (fun _ _ h=>h) hb ?_
         have E105:=hw 105 13 rfl
         have h13:y 13=_:=hd 13 rfl
         have E108:=hw 108 16 rfl
         have h16:=hd 16 rfl
         obtain⟨u,hu⟩:=h16
         refine aj (.bool u) (ah rfl) (lS rfl (E105.trans h13) (by simpa using E108.trans hu)) ⟨_,fun _=>rfl,rfl⟩
        ·intro ρ y W L hw hn hLi hLd hb hd
         refine bS aC (fun _ _ h=>h) hb ?_
         have E98:=hw 98 6 rfl
         have h6:y 6=_:=hd 6 rfl
         have E109:=hw 109 17 rfl
         have h17:=hd 17 rfl
         obtain⟨u,hu1,hu⟩:=h17
         have EC:∀v,ρ (.const v)=v:=fun v=>hn (.const v) trivial
         refine aj (.agg #[.int .i64 1,.int .i64 (f:Int),.bool u]) (ah rfl) (by simp[execOp,go_sem,E98,h6,E109,EC,hu]) ⟨u,hu1,rfl⟩
        intro y W6 hbW6 hRW6
        have hy15:((aR fun v => ∃x:Int,v = .int .i64 x∧0≤x)).r (y 15) W6:=hRW6 15 (by decide)
        have hy16:((aR fun v => ∃u,v = .bool u)).r (y 16) W6:=hRW6 16 (by decide)
        have hy17:((aR fun v => ∃u,(u=true→true=true)∧v = .bool u)).r (y 17) W6:=hRW6 17 (by decide)
        have hy18:((aR fun v => ∃u,(u=true→true=true)∧v = .agg #[.int .i64 1,.int .i64 (f:Int),.bool u])).r (y 18) W6:=hRW6 18 (by decide)
        clear hRW6
        obtain⟨a6,c6,l6,h6,s6,_⟩:=hbW6
        obtain⟨u,hu1,hu⟩:=hy18
        rw[hu]
        clear hu
        obtain⟨gT',oT',curT,hab',hgTB,hgT,hgTs,_,hgTw⟩:=dz.ent (S:=S5.lst a6 c6 l6) h6 (p:=p) (n:=n) hpT5.out hn (hTn5.out _ rfl)
        have e9:(some (⟨gT',oT',none⟩:Addr))=some ⟨gT,oT,none⟩:=hab'.symm.trans hab
        cases e9
        have hpTi:(p:Int)<(S5.T.length:Int):=by have:=hpT5.out;omega
        have hni:(n:Int)<64:=by omega
        have hgTw':=Lib.hid hgTw
        have s6:=s5.trans s6
        clear hgTw hab' h5 s5
        go_wp2_with (refine az rfl _ _ _ rfl gT (oT+p*192+n*3) _ (jT ⟨1,f,u⟩) rfl rfl rfl _ _ hgT (by rw[eU];exact hgTs) (by kernel_rfl) (bv (fJ _)) ?_)
        intro w7 hb7 hg7
        have h7:=hgTw'.out w7 ⟨1,f,u⟩ hb7 hg7
        have s7:=s6.put (H':={ S5.lst a6 c6 l6 with T:=setL (S5.lst a6 c6 l6).T p n ⟨1,f,u⟩ }) hg7 (.inr (by simp only[eO,MW.lst,hab];simp[oB];right;right;right;right;right;right;right;right;rfl)) (fun x hx => .inl hx)
        clear hgT hb7 hg7 h6 s6
        go_wp2
        refine bodyPost_ret (v:=.tuple #[]) (by simp[results,go_sem,results65]) rfl ?_
        exact⟨_,rfl,h7,s7,⟨hK5.out.sp,hK5.out.fi,hK5.out.ct,hK5.out.dk,hK5.out.fl,hK5.out.sl⟩,hbdu.out u (fun h=>by first | exact trivial | exact⟨rfl,rfl⟩ | exact absurd (hu1 h) (by decide) | simp),hent5.out _⟩
       | false=>
        skip
        refine dW 20 [_,_,_,.v (.slice (some ⟨gT,oT,none⟩) S5.T.length S5.cb),_,.v (.int .i64 (n:Int)),_,_,.v (.bool true),_,_,.v (.bool false),_,_,_,_,_,.r 17 ((aR fun v => ∃u,(u=true→false=true)∧v = .bool u)),.r 18 ((aR fun v => ∃u,(u=true→false=true)∧v = .agg #[.int .i64 1,.int .i64 (f:Int),.bool u])),_] (Fv S5 B b w5 [(w.heap.size,#[.bool true,.bool grd,.bool false,.bool true,.int .i64 (F:Int),.int .i64 (I:Int)],109)]) aC (fun _=>⟨S5.al,S5.cl,S5.l,h5,MS.refl _ _ _,by simpa using ⟨bx5,hn5.out⟩⟩) (Qk aC rfl (Qk aC rfl (Qf aC b 12 rfl rfl (ae ?_ (Qk aC rfl (Qk aC rfl (Qk aC rfl (Qf aC w.heap.size 3 rfl rfl (ae ?_ (Qk aC rfl (Qf aC w.heap.size 2 rfl rfl (ae ?_ (Qk aC rfl (Qk aC rfl (Qk aC rfl (Qk aC rfl (Qk aC rfl (ae ?_ (ae ?_ (Qr aC (.pointer (some ⟨gT,oT+p*192,none⟩)) (fun ρ y W hKn=>(bB rfl (aF rfl hKn) (aF rfl hKn) hpT5.out underlying75 ents_size)) rfl rfl (aB))))))))))))))))))))) (fun _=>rfl) rfl ?_
        ·intro ρ y W L hw hn hLi hLd hb hd
         refine bS aC (fun _ _ h=>h) hb ?_
         have E94:=hw 94 2 rfl
         have h2:y 2=_:=hd 2 rfl
         obtain⟨a,c,l,m1,m2,m3⟩:=hb
         refine aj (.slice (some ⟨gT,oT,none⟩) S5.T.length S5.cb) (ah rfl) (by simp[execOp,go_sem,E94,h2,m1.blk.cell,fD,MW.lst,hab]) rfl
        ·intro ρ y W L hw hn hLi hLd hb hd
         refine bS aC (fun _ _ h=>h) hb ?_
         have E99:=hw 99 7 rfl
         have h7:y 7=_:=hd 7 rfl
         obtain⟨a,c,l,m1,m2,m3⟩:=hb
         have m3:=(m3 _ (List.mem_singleton.2 rfl)).1
         refine aj (.bool true) (ah rfl) (by simp[execOp,go_sem,E99,h7,m3.cell]) rfl
        ·intro ρ y W L hw hn hLi hLd hb hd
         refine bS aC (fun _ _ h=>h) hb ?_
         have E102:=hw 102 10 rfl
         have h10:y 10=_:=hd 10 rfl
         obtain⟨a,c,l,m1,m2,m3⟩:=hb
         have m3:=(m3 _ (List.mem_singleton.2 rfl)).1
         refine aj (.bool false) (aQ 9 101 true true rfl rfl ((hw 101 9 rfl).trans (hd 9 rfl))) (by simp[execOp,go_sem,E102,h10,m3.cell]) rfl
        ·intro ρ y W L hw hn hLi hLd hb hd
         refine bS aC (fun _ _ h=>h) hb ?_
         have E105:=hw 105 13 rfl
         have h13:y 13=_:=hd 13 rfl
         have E108:=hw 108 16 rfl
         have h16:y 16=_:=hd 16 rfl
         refine aj (.bool false) (ah rfl) (lS rfl (E105.trans h13) (by exact (hn (.const _) trivial).trans rfl)) ⟨false,fun h=>(by cases h),rfl⟩
        ·intro ρ y W L hw hn hLi hLd hb hd
         refine bS aC (fun _ _ h=>h) hb ?_
         have E98:=hw 98 6 rfl
         have h6:y 6=_:=hd 6 rfl
         have E109:=hw 109 17 rfl
         have h17:=hd 17 rfl
         obtain⟨u,hu1,hu⟩:=h17
         have EC:∀v,ρ (.const v)=v:=fun v=>hn (.const v) trivial
         refine aj (.agg #[.int .i64 1,.int .i64 (f:Int),.bool u]) (ah rfl) (by simp[execOp,go_sem,E98,h6,E109,EC,hu]) ⟨u,hu1,rfl⟩
        intro y W6 hbW6 hRW6
        have hy17:((aR fun v => ∃u,(u=true→false=true)∧v = .bool u)).r (y 17) W6:=hRW6 17 (by decide)
        have hy18:((aR fun v => ∃u,(u=true→false=true)∧v = .agg #[.int .i64 1,.int .i64 (f:Int),.bool u])).r (y 18) W6:=hRW6 18 (by decide)
        clear hRW6
        obtain⟨a6,c6,l6,h6,s6,_⟩:=hbW6
        obtain⟨u,hu1,hu⟩:=hy18
        rw[hu]
        clear hu
        obtain⟨gT',oT',curT,hab',hgTB,hgT,hgTs,_,hgTw⟩:=dz.ent (S:=S5.lst a6 c6 l6) h6 (p:=p) (n:=n) hpT5.out hn (hTn5.out _ rfl)
        have e9:(some (⟨gT',oT',none⟩:Addr))=some ⟨gT,oT,none⟩:=hab'.symm.trans hab
        cases e9
        have hpTi:(p:Int)<(S5.T.length:Int):=by have:=hpT5.out;omega
        have hni:(n:Int)<64:=by omega
        have hgTw':=Lib.hid hgTw
        have s6:=s5.trans s6
        clear hgTw hab' h5 s5
        go_wp2_with (refine az rfl _ _ _ rfl gT (oT+p*192+n*3) _ (jT ⟨1,f,u⟩) rfl rfl rfl _ _ hgT (by rw[eU];exact hgTs) (by kernel_rfl) (bv (fJ _)) ?_)
        intro w7 hb7 hg7
        have h7:=hgTw'.out w7 ⟨1,f,u⟩ hb7 hg7
        have s7:=s6.put (H':={ S5.lst a6 c6 l6 with T:=setL (S5.lst a6 c6 l6).T p n ⟨1,f,u⟩ }) hg7 (.inr (by simp only[eO,MW.lst,hab];simp[oB];right;right;right;right;right;right;right;right;rfl)) (fun x hx => .inl hx)
        clear hgT hb7 hg7 h6 s6
        go_wp2
        refine bodyPost_ret (v:=.tuple #[]) (by simp[results,go_sem,results65]) rfl ?_
        exact⟨_,rfl,h7,s7,⟨hK5.out.sp,hK5.out.fi,hK5.out.ct,hK5.out.dk,hK5.out.fl,hK5.out.sl⟩,hbdu.out u (fun h=>by first | exact trivial | exact⟨rfl,rfl⟩ | exact absurd (hu1 h) (by decide) | simp),hent5.out _⟩
      | false=>
       skip
       refine dW 20 [_,_,_,.v (.slice (some ⟨gT,oT,none⟩) S5.T.length S5.cb),_,.v (.int .i64 (n:Int)),_,_,.v (.bool false),_,_,_,_,_,_,_,_,.r 17 ((aR fun v => ∃u,(u=true→false=true)∧v = .bool u)),.r 18 ((aR fun v => ∃u,(u=true→false=true)∧v = .agg #[.int .i64 1,.int .i64 (f:Int),.bool u])),_] (Fv S5 B b w5 [(w.heap.size,#[.bool true,.bool grd,.bool gwr,.bool false,.int .i64 (F:Int),.int .i64 (I:Int)],109)]) aC (fun _=>⟨S5.al,S5.cl,S5.l,h5,MS.refl _ _ _,by simpa using ⟨bx5,hn5.out⟩⟩) (Qk aC rfl (Qk aC rfl (Qf aC b 12 rfl rfl (ae ?_ (Qk aC rfl (Qk aC rfl (Qk aC rfl (Qf aC w.heap.size 3 rfl rfl (ae ?_ (Qk aC rfl (Qk aC rfl (Qk aC rfl (Qk aC rfl (Qk aC rfl (Qk aC rfl (Qk aC rfl (Qk aC rfl (ae ?_ (ae ?_ (Qr aC (.pointer (some ⟨gT,oT+p*192,none⟩)) (fun ρ y W hKn=>(bB rfl (aF rfl hKn) (aF rfl hKn) hpT5.out underlying75 ents_size)) rfl rfl (aB))))))))))))))))))))) (fun _=>rfl) rfl ?_
       ·intro ρ y W L hw hn hLi hLd hb hd
        refine bS aC (fun _ _ h=>h) hb ?_
        have E94:=hw 94 2 rfl
        have h2:y 2=_:=hd 2 rfl
        obtain⟨a,c,l,m1,m2,m3⟩:=hb
        refine aj (.slice (some ⟨gT,oT,none⟩) S5.T.length S5.cb) (ah rfl) (by simp[execOp,go_sem,E94,h2,m1.blk.cell,fD,MW.lst,hab]) rfl
       ·intro ρ y W L hw hn hLi hLd hb hd
        refine bS aC (fun _ _ h=>h) hb ?_
        have E99:=hw 99 7 rfl
        have h7:y 7=_:=hd 7 rfl
        obtain⟨a,c,l,m1,m2,m3⟩:=hb
        have m3:=(m3 _ (List.mem_singleton.2 rfl)).1
        refine aj (.bool false) (ah rfl) (by simp[execOp,go_sem,E99,h7,m3.cell]) rfl
       ·intro ρ y W L hw hn hLi hLd hb hd
        refine bS aC (fun _ _ h=>h) hb ?_
        have E105:=hw 105 13 rfl
        have h13:y 13=_:=hd 13 rfl
        have E108:=hw 108 16 rfl
        have h16:y 16=_:=hd 16 rfl
        refine aj (.bool false) (ah rfl) (lS rfl (E105.trans h13) (by exact (hn (.const _) trivial).trans rfl)) ⟨false,fun h=>(by cases h),rfl⟩
       ·intro ρ y W L hw hn hLi hLd hb hd
        refine bS aC (fun _ _ h=>h) hb ?_
        have E98:=hw 98 6 rfl
        have h6:y 6=_:=hd 6 rfl
        have E109:=hw 109 17 rfl
        have h17:=hd 17 rfl
        obtain⟨u,hu1,hu⟩:=h17
        have EC:∀v,ρ (.const v)=v:=fun v=>hn (.const v) trivial
        refine aj (.agg #[.int .i64 1,.int .i64 (f:Int),.bool u]) (ah rfl) (by simp[execOp,go_sem,E98,h6,E109,EC,hu]) ⟨u,hu1,rfl⟩
       intro y W6 hbW6 hRW6
       have hy17:((aR fun v => ∃u,(u=true→false=true)∧v = .bool u)).r (y 17) W6:=hRW6 17 (by decide)
       have hy18:((aR fun v => ∃u,(u=true→false=true)∧v = .agg #[.int .i64 1,.int .i64 (f:Int),.bool u])).r (y 18) W6:=hRW6 18 (by decide)
       clear hRW6
       obtain⟨a6,c6,l6,h6,s6,_⟩:=hbW6
       obtain⟨u,hu1,hu⟩:=hy18
       rw[hu]
       clear hu
       obtain⟨gT',oT',curT,hab',hgTB,hgT,hgTs,_,hgTw⟩:=dz.ent (S:=S5.lst a6 c6 l6) h6 (p:=p) (n:=n) hpT5.out hn (hTn5.out _ rfl)
       have e9:(some (⟨gT',oT',none⟩:Addr))=some ⟨gT,oT,none⟩:=hab'.symm.trans hab
       cases e9
       have hpTi:(p:Int)<(S5.T.length:Int):=by have:=hpT5.out;omega
       have hni:(n:Int)<64:=by omega
       have hgTw':=Lib.hid hgTw
       have s6:=s5.trans s6
       clear hgTw hab' h5 s5
       go_wp2_with (refine az rfl _ _ _ rfl gT (oT+p*192+n*3) _ (jT ⟨1,f,u⟩) rfl rfl rfl _ _ hgT (by rw[eU];exact hgTs) (by kernel_rfl) (bv (fJ _)) ?_)
       intro w7 hb7 hg7
       have h7:=hgTw'.out w7 ⟨1,f,u⟩ hb7 hg7
       have s7:=s6.put (H':={ S5.lst a6 c6 l6 with T:=setL (S5.lst a6 c6 l6).T p n ⟨1,f,u⟩ }) hg7 (.inr (by simp only[eO,MW.lst,hab];simp[oB];right;right;right;right;right;right;right;right;rfl)) (fun x hx => .inl hx)
       clear hgT hb7 hg7 h6 s6
       go_wp2
       refine bodyPost_ret (v:=.tuple #[]) (by simp[results,go_sem,results65]) rfl ?_
       exact⟨_,rfl,h7,s7,⟨hK5.out.sp,hK5.out.fi,hK5.out.ct,hK5.out.dk,hK5.out.fl,hK5.out.sl⟩,hbdu.out u (fun h=>by first | exact trivial | exact⟨rfl,rfl⟩ | exact absurd (hu1 h) (by decide) | simp),hent5.out _⟩
   ·rw[decide_eq_false hF]
    obtain rfl:gsh=false:=by
     cases gsh with
     | false=>rfl
     | true=>exact absurd ⟨hsh rfl,.inl rfl⟩ hF
    have hfew:=Lib.hid hd'.out.few
    have hsl60:S.H.sl.length≤60:=hfew.out.2.1
    have hc:=h2.blk.cell
    unfold fD at hc
    dsimp only[MW.lst] at hc
    clear hF hsh
    go_upto_region 12 with (fail)
    go_cut [113] (fun s113 wx=>s113 = .bool (decide (x=2∧0<S.H.sl.length))∧wx=w2)
    case first=>
     by_cases hx2:x=2
     ·have hx2b:(x==2)=true:=by simp[hx2]
      have hx2':=Lib.hid hx2
      clear hx2
      by_cases hsl:0<S.H.sl.length
      ·have hsli:(0:Int)<(S.H.sl.length:Int):=by omega
       go_wp2
       go_meet
       case rel=>exact⟨by rw[decide_eq_true ⟨hx2'.out,hsl⟩],rfl⟩
      ·have hsli:¬(0:Int)<(S.H.sl.length:Int):=by omega
       go_wp2
       go_meet
       case rel=>exact⟨by rw[decide_eq_false (fun h=>hsl h.2)],rfl⟩
     ·have hx2b:(x==2)=false:=by simp[hx2]
      go_wp2
      go_meet
      case rel=>exact⟨by rw[decide_eq_false (fun h=>hx2 h.1)],rfl⟩
    case rest=>
     obtain⟨rfl,hwc⟩:=hcut
     subst wc
     by_cases hS:x=2∧0<S.H.sl.length
     ·rw[decide_eq_true hS]
      have hsl:=hS.2
      clear hS
      go_wp2_with fail
      refine (dL _ _ B b _ h2 (by omega)).mono ?_
      rintro r w3 ⟨y3,a3,c3,l3,rfl,h3,s3,hy3,_⟩
      rw[kR] at h3 s3
      have s3:=s2.trans s3
      obtain⟨s0,rfl⟩:=Int.eq_ofNat_of_zero_le hy3.1
      have hs0:s0<S.H.sl.length:=by omega
      have hs0i:(s0:Int)<(S.H.sl.length:Int):=by omega
      clear h2 s2 bx2 hcx hc hy3
      have hc:=h3.blk.cell
      unfold fD at hc
      dsimp only[MW.lst] at hc
      obtain⟨gs,off,cap,cur,hv,hgB,hgk,hgs,hgc,hgw⟩:=Own.put (enc:=fun x=>[eH x]) (sz:=1) (l:=S.H.sl) (fun _=>rfl) Nat.one_pos (by rw[gJ];exact h3.ma.sl) s0 hs0
      have has:S.H.asl=some ⟨gs,off,none⟩:=(Value.slice.inj hv).1
      rw[has] at hc
      rw[Nat.mul_one] at hgs hgc hgw
      have c0:w3.cell? ⟨gs,off+s0,none⟩=some (.int .i64 S.H.sl[s0]):=hgc 0 _ rfl
      have hz0:Hid (lV S.H.ma s0=S.H.sl[s0]):=Lib.hid (by
       unfold lV
       show S.H.sl.getD s0 0=_
       rw[List.getD_eq_getElem?_getD,List.getElem?_eq_getElem hs0];rfl)
      have hgw':=Lib.hid hgw
      clear hv hgw hgc
      generalize S.H.sl[s0]=v0 at c0 hz0
      by_cases hz:v0=0
      ·subst hz
       go_wp2_with (refine az rfl _ _ _ rfl gs (off+s0) _ [.int .i64 1] rfl rfl rfl _ _ hgk (by show off+s0+1≤cur.size;omega) (by kernel_rfl) (fun u hu=>by cases List.mem_singleton.1 hu;rfl) ?_)
       intro w4 hb4 hg4
       have hga:oB (S.lst a3 c3 l3).H.asl=some gs:=by show oB S.H.asl=some gs;rw[has];rfl
       have h4:dz w4 B b { S.lst a3 c3 l3 with H:={ S.H with sl:=S.H.sl.set s0 1 } }:=h3.putS hgk hgB hga hg4 (sl:=S.H.sl.set s0 1) (by simp[MW.lst]) (by
        have:=hgw'.out w4 1 hb4
        rw[gJ] at this
        simpa[MW.lst] using this)
       have s4:=s3.put (H':={ S.lst a3 c3 l3 with H:={ S.H with sl:=S.H.sl.set s0 1 } }) hg4 (.inr (by simp[eO,hga])) (fun x hx => .inl hx)
       have hswl:S.H.sw.blocks.length=S.H.sl.length:=hfew.out.2.2.2.2.2.2.2
       have hK4:Hid (BO S { S.lst a3 c3 l3 with H:={ S.H with sl:=S.H.sl.set s0 1 } }):=Lib.hid ⟨rfl,rfl,rfl,rfl,rfl,List.length_set⟩
       have hTl:S.T.length=S.H.sp.length:=by have:=hd'.out.ok.len;rw[this];exact List.length_map _
       have hpT:p<S.T.length:=by omega
       have h64:(dE S.T p).length=64:=hd'.out.ok.l64 (by rw[←hd'.out.ok.len];exact hpT)
       have hbdu:Hid (∀P,Bd { S.H.ma with sl:=S.H.sl.set s0 1,sw:=⟨S.H.sw.blocks.set s0 P,S.H.sw.queue⟩ } (setL S.T p n ⟨2,s0,false⟩)):=Lib.hid fun P=>
        hd'.out.slotE (P:=P) (by rw[←hd'.out.ok.len];exact hpT) hn h0'.out hs0 hz0.out hg'.out rfl
       have hent5:Hid (∀x q j,¬(q=p∧j=n)→dJ (setL S.T p n x) q j=dJ S.T q j):=Lib.hid fun x q j hne=>by
        rw[qM hd'.out.ok (by rw[←hd'.out.ok.len];exact hpT) hn,if_neg hne]
       obtain⟨gw,ow,capw,curw,hvw,hgwB,_,_,_,_⟩:=h4.ma.sw.b.put jo (by decide) s0 (by show s0<S.H.sw.blocks.length;omega)
       have haw:S.H.wb=some ⟨gw,ow,none⟩:=(Value.slice.inj hvw).1
       generalize hS4:({ S.lst a3 c3 l3 with H:={ S.H with sl:=S.H.sl.set s0 1 } }:MW)=S4 at h4 s4 hK4
       have haw:S4.H.wb=some ⟨gw,ow,none⟩:=by rw[←hS4];exact haw
       have hsw4:S4.H.sw=S.H.sw:=by rw[←hS4]
       clear h3 s3 hb4 hg4 hgk hgs c0 hc has hga hvw
       go_upto_region 16 with (fail)
       refine dW 9 [_,_,_,_,_,.v (.slice (some ⟨gw,ow,none⟩) S4.H.sw.blocks.length S4.H.cwb),.v (.int .i64 (s0:Int)),_,.r 8 ((aR fun v => ∃P,v = .agg (gD P)))] (Fv S4 B b w4 []) aC (fun _=>⟨S4.al,S4.cl,S4.l,h4,MS.refl _ _ _,fun t ht=>(by cases ht)⟩) (Qk aC rfl (Qk aC rfl (Qf aC b 1 rfl rfl (Qf aC b 4 rfl rfl (Qf aC b 4 rfl rfl (ae ?_ (Qk aC rfl (Qk aC rfl (ae ?_ (aB)))))))))) (fun _=>rfl) rfl ?_
       ·intro ρ y W L hw hn hLi hLd hb hd
        refine bS aC (fun _ _ h=>h) hb ?_
        have E153:=hw 153 4 rfl
        have h4:y 4=_:=hd 4 rfl
        obtain⟨a,c,l,m1,m2,m3⟩:=hb
        refine aj (.slice (some ⟨gw,ow,none⟩) S4.H.sw.blocks.length S4.H.cwb) (ah rfl) (by simp[execOp,go_sem,E153,h4,m1.blk.cell,fD,MW.lst,haw]) rfl
       ·intro ρ y W L hw hn hLi hLd hb hd;have E156:=hw 156 7 rfl;have h7:y 7=_:=hd 7 rfl
        have EF:∀f,ρ (.func f) = .func (.func f) #[] #[]:=fun f=>hn (.func f) trivial
        refine eu _ _ (ah rfl) (aN rfl (EF _) func33 (by kernel_rfl) (by kernel_rfl) (by simp only[List.map_toArray,List.map_cons,List.map_nil,E156,h7,EF];rfl)) ?_
        exact ME hb fun P _=>⟨P,rfl⟩
       intro y W6 hbW6 hRW6
       have hy8:((aR fun v => ∃P,v = .agg (gD P))).r (y 8) W6:=hRW6 8 (by decide)
       clear hRW6
       obtain⟨a6,c6,l6,h6,s6,_⟩:=hbW6
       obtain⟨P,hP⟩:=hy8
       rw[hP]
       clear hP
       have s6:=s4.trans s6
       obtain⟨gw',ow',capw',curw',hvw',hgwB',hgwk,hgws,_,hgww⟩:=h6.ma.sw.b.put jo (by decide) s0 (by show s0<S4.H.sw.blocks.length;rw[hsw4];omega)
       have e9:(some (⟨gw',ow',none⟩:Addr))=some ⟨gw,ow,none⟩:=(Value.slice.inj hvw').1.symm.trans haw
       cases e9
       have hsi:(s0:Int)<(S4.H.sw.blocks.length:Int):=by rw[hsw4];omega
       have hgww':=Lib.hid hgww
       clear hvw' hgww h4 s4
       go_wp2_with (refine az rfl _ _ _ rfl gw (ow+s0*8) _ (wz P) rfl rfl rfl _ _ hgwk (by rw[jo];exact hgws) (by kernel_rfl) (bv (iL P)) ?_)
       intro w7 hb7 hg7
       have hgaw:oB (S4.lst a6 c6 l6).H.wb=some gw:=by show oB S4.H.wb=some gw;rw[haw];rfl
       have h7:dz w7 B b { S4.lst a6 c6 l6 with H:={ S4.H with sw:=⟨S4.H.sw.blocks.set s0 P,S4.H.sw.queue⟩ } }:=h6.putW hgwk hgwB' hgaw hg7 (l:=S4.H.sw.blocks.set s0 P) (by simp[MW.lst]) (by simpa[MW.lst] using hgww'.out w7 P hb7)
       have s7:=s6.put (H':={ S4.lst a6 c6 l6 with H:={ S4.H with sw:=⟨S4.H.sw.blocks.set s0 P,S4.H.sw.queue⟩ } }) hg7 (.inr (by simp[eO,hgaw])) (fun x hx => .inl hx)
       clear h6 s6 hgwk hb7 hg7 hgws hsi
       subst hS4
       dsimp only[MW.lst] at h7 s7
       obtain⟨gT,oT,curT,hab,hgTB,hgT,hgTs,_,hgTw⟩:=dz.ent h7 (p:=p) (n:=n) hpT hn h64
       have hab:S.ab=some ⟨gT,oT,none⟩:=hab
       have hc:=h7.blk.cell
       unfold fD at hc
       dsimp only at hc
       rw[hab] at hc
       have hpTi:(p:Int)<(S.T.length:Int):=by omega
       have hni:(n:Int)<64:=by omega
       have hgTw':=Lib.hid hgTw
       clear hgTw
       go_wp2_with (refine az rfl _ _ _ rfl gT (oT+p*192+n*3) _ (jT ⟨2,s0,false⟩) rfl rfl rfl _ _ hgT (by rw[eU];exact hgTs) (by kernel_rfl) (bv (fJ _)) ?_)
       intro w8 hb8 hg8
       have h8:=hgTw'.out w8 ⟨2,s0,false⟩ hb8 hg8
       have s8:=s7.put hg8 (.inr (by simp only[eO,hab];simp[oB];right;right;right;right;right;right;right;right;rfl)) (fun x hx => .inl hx) (H':=_)
       clear h7 s7 hc hb8 hg8 hgT
       go_wp2
       refine bodyPost_ret (v:=.tuple #[]) (by simp[results,go_sem,results65]) rfl ?_
       exact⟨_,rfl,h8,s8.same rfl,⟨rfl,rfl,rfl,rfl,rfl,List.length_set⟩,hbdu.out P,hent5.out _⟩
      ·go_wp2
       refine bodyPost_ret (v:=.tuple #[]) (by simp[results,go_sem,results65]) rfl ?_
       exact⟨_,rfl,h3,s3,⟨rfl,rfl,rfl,rfl,rfl,rfl⟩,hd'.out,fun _ _ _=>rfl⟩
     ·rw[decide_eq_false hS]
      clear hS hc
      go_wp2_with fail
      refine (rA _ B b _ h2).mono ?_
      rintro r w3 ⟨P,a3,c3,l3,rfl,h3,s3⟩
      rw[kR] at h3 s3
      have bx3:=s3.blkN bx2 hn0.out
      have s3:=s2.trans s3
      clear h2 s2 bx2 hcx
      have hcx:=bx3.cell
      unfold gD
      go_wp2_with fail
      refine (dL _ 2 B b _ h3 (by omega)).mono ?_
      rintro r w4 ⟨y3,a4,c4,l4,rfl,h4,s4,_,_⟩
      rw[kR] at h4 s4
      have bx4:=s4.blkN bx3 hn0.out
      have s4:=s3.trans s4
      clear h3 s3 bx3 hcx
      have hcx:=bx4.cell
      go_wp2_with fail
      refine (xW _ ⟨P,1,y3==1,false,-1,0⟩ B b _ h4 (by have:=hfew.out.1;show S.H.m.fs.length≤1000;have e:S.H.ma.m.fs.length=S.H.m.fs.length:=rfl;omega)).mono ?_
      rintro r w5 ⟨xf,a5,c5,l5,fs,rfl,h5,s5,hxf⟩
      rw[kR] at h5 s5
      have bx5:=s5.blkN bx4 hn0.out
      have hn5:=Lib.hid (s5.not bx4.lt hn0.out)
      have s5:=s4.trans s5
      clear h4 s4 bx4 hcx
      rcases hxf with ⟨rfl,rfl⟩|⟨f,rfl,hj,hjr,rfl⟩
      ·go_wp2
       refine bodyPost_ret (v:=.tuple #[]) (by simp[results,go_sem,results65]) rfl ?_
       exact⟨_,rfl,h5,s5,⟨rfl,rfl,rfl,rfl,rfl,rfl⟩,hd'.out,fun _ _ _=>rfl⟩
      ·have hjl:f<S.H.m.fs.length:=hj
       have hTl:S.T.length=S.H.sp.length:=by have:=hd'.out.ok.len;rw[this];exact List.length_map _
       have hpT:p<S.T.length:=by omega
       have hbdu:Hid (∀u:Bool,(u=true→gwr=true)→Bd ((S.lst a5 c5 l5).frs (S.H.m.fs.set f ⟨P,1,y3==1,false,-1,0⟩)).H.ma (setL ((S.lst a5 c5 l5).frs (S.H.m.fs.set f ⟨P,1,y3==1,false,-1,0⟩)).T p n ⟨1,f,u⟩)):=Lib.hid fun u hu=>
        hd'.out.anonE (X:=⟨P,1,y3==1,false,-1,0⟩) (w:=u) (by rw[←hd'.out.ok.len];exact hpT) hn h0'.out hjl hjr ⟨rfl,rfl,rfl,rfl⟩ hg'.out rfl hu
       have hK5:Hid (BO S ((S.lst a5 c5 l5).frs (S.H.m.fs.set f ⟨P,1,y3==1,false,-1,0⟩))):=Lib.hid ⟨rfl,rfl,rfl,rfl,List.length_set,rfl⟩
       have hent5:Hid (∀x q j,¬(q=p∧j=n)→dJ (setL ((S.lst a5 c5 l5).frs (S.H.m.fs.set f ⟨P,1,y3==1,false,-1,0⟩)).T p n x) q j=dJ S.T q j):=Lib.hid fun x q j hne=>by
        show dJ (setL S.T p n x) q j=_
        rw[qM hd'.out.ok (by rw[←hd'.out.ok.len];exact hpT) hn,if_neg hne]
       have hpT5:Hid (p<((S.lst a5 c5 l5).frs (S.H.m.fs.set f ⟨P,1,y3==1,false,-1,0⟩)).T.length):=Lib.hid hpT
       have hTn5:Hid (∀S' : MW,S'.T=((S.lst a5 c5 l5).frs (S.H.m.fs.set f ⟨P,1,y3==1,false,-1,0⟩)).T→(dE S'.T p).length=64):=Lib.hid fun S' e=>by rw[e];exact hd'.out.ok.l64 (by rw[←hd'.out.ok.len];exact hpT)
       have h5:dz w5 B b ((S.lst a5 c5 l5).frs (S.H.m.fs.set f ⟨P,1,y3==1,false,-1,0⟩)):=h5
       have s5:MS w b S w5 ((S.lst a5 c5 l5).frs (S.H.m.fs.set f ⟨P,1,y3==1,false,-1,0⟩)):=s5
       have hn5:Hid (¬jO b ((S.lst a5 c5 l5).frs (S.H.m.fs.set f ⟨P,1,y3==1,false,-1,0⟩)) w.heap.size):=hn5
       have hf0:(0:Int)≤(f:Int):=by omega
       clear hj hjr hpT hTl
       generalize (S.lst a5 c5 l5).frs (S.H.m.fs.set f ⟨P,1,y3==1,false,-1,0⟩)=S5 at *
       obtain⟨gT,oT,_,hab,_⟩:=dz.ent (S:=S5) h5 (p:=p) (n:=n) hpT5.out hn (hTn5.out _ rfl)
       go_upto_region 4 with (fail)
       cases gwr with
       | true=>
        skip
        refine dW 16 [_,_,_,.v (.slice (some ⟨gT,oT,none⟩) S5.T.length S5.cb),_,.v (.int .i64 (n:Int)),_,_,.v (.bool true),_,_,.r 11 ((aR fun v => ∃x:Int,v = .int .i64 x∧0≤x)),.r 12 ((aR fun v => ∃u,v = .bool u)),.r 13 ((aR fun v => ∃u,(u=true→true=true)∧v = .bool u)),.r 14 ((aR fun v => ∃u,(u=true→true=true)∧v = .agg #[.int .i64 1,.int .i64 (f:Int),.bool u])),_] (Fv S5 B b w5 [(w.heap.size,#[.bool true,.bool grd,.bool true,.bool false,.int .i64 gfi,.int .i64 (I:Int)],109)]) aC (fun _=>⟨S5.al,S5.cl,S5.l,h5,MS.refl _ _ _,by simpa using ⟨bx5,hn5.out⟩⟩) (Qk aC rfl (Qk aC rfl (Qf aC b 12 rfl rfl (ae ?_ (Qk aC rfl (Qk aC rfl (Qk aC rfl (Qf aC w.heap.size 2 rfl rfl (ae ?_ (Qk aC rfl (Qk aC rfl (ae ?_ (ae ?_ (ae ?_ (ae ?_ (Qr aC (.pointer (some ⟨gT,oT+p*192,none⟩)) (fun ρ y W hKn=>(bB rfl (aF rfl hKn) (aF rfl hKn) hpT5.out underlying75 ents_size)) rfl rfl (aB))))))))))))))))) (fun _=>rfl) rfl ?_
        ·intro ρ y W L hw hn hLi hLd hb hd
         refine bS aC (fun _ _ h=>h) hb ?_
         have E26:=hw 26 2 rfl
         have h2:y 2=_:=hd 2 rfl
         obtain⟨a,c,l,m1,m2,m3⟩:=hb
         refine aj (.slice (some ⟨gT,oT,none⟩) S5.T.length S5.cb) (ah rfl) (by simp[execOp,go_sem,E26,h2,m1.blk.cell,fD,MW.lst,hab]) rfl
        ·intro ρ y W L hw hn hLi hLd hb hd
         refine bS aC (fun _ _ h=>h) hb ?_
         have E31:=hw 31 7 rfl
         have h7:y 7=_:=hd 7 rfl
         obtain⟨a,c,l,m1,m2,m3⟩:=hb
         have m3:=(m3 _ (List.mem_singleton.2 rfl)).1
         refine aj (.bool true) (ah rfl) (by simp[execOp,go_sem,E31,h7,m3.cell]) rfl
        ·intro ρ y W L hw hn hLi hLd hb hd;have E34:=hw 34 10 rfl;have h10:y 10=_:=hd 10 rfl
         have EC:∀v,ρ (.const v)=v:=fun v=>hn (.const v) trivial
         have EF:∀f,ρ (.func f) = .func (.func f) #[] #[]:=fun f=>hn (.func f) trivial
         refine eu _ _ (aQ 9 33 true true rfl rfl ((hw 33 9 rfl).trans (hd 9 rfl))) (aN rfl (EF _) func30 (by kernel_rfl) (by kernel_rfl) (by simp only[List.map_toArray,List.map_cons,List.map_nil,E34,h10,EC,EF];rfl)) ?_
         exact tO 2 (by omega) hb fun x h1 _ _ _=>⟨x,rfl,h1⟩
        ·intro ρ y W L hw hn hLi hLd hb hd
         refine bS aC (fun _ _ h=>h) hb ?_
         have E35:=hw 35 11 rfl
         have h11:=hd 11 rfl
         obtain⟨x,hx,_⟩:=h11
         refine aj _ (aQ 9 33 true true rfl rfl ((hw 33 9 rfl).trans (hd 9 rfl))) (lH rfl (E35.trans hx) (hn (.const _) trivial) (by simp[go_sem];rfl)) ⟨_,rfl⟩
        ·intro ρ y W L hw hn hLi hLd hb hd
         refine bS aC (fun _ _ h=>h) hb ?_
         have E33:=hw 33 9 rfl
         have h9:y 9=_:=hd 9 rfl
         have E36:=hw 36 12 rfl
         have h12:=hd 12 rfl
         obtain⟨u,hu⟩:=h12
         refine aj (.bool u) (ah rfl) (lS rfl (E33.trans h9) (by simpa using E36.trans hu)) ⟨_,fun _=>rfl,rfl⟩
        ·intro ρ y W L hw hn hLi hLd hb hd
         refine bS aC (fun _ _ h=>h) hb ?_
         have E30:=hw 30 6 rfl
         have h6:y 6=_:=hd 6 rfl
         have E37:=hw 37 13 rfl
         have h13:=hd 13 rfl
         obtain⟨u,hu1,hu⟩:=h13
         have EC:∀v,ρ (.const v)=v:=fun v=>hn (.const v) trivial
         refine aj (.agg #[.int .i64 1,.int .i64 (f:Int),.bool u]) (ah rfl) (by simp[execOp,go_sem,E30,h6,E37,EC,hu]) ⟨u,hu1,rfl⟩
        intro y W6 hbW6 hRW6
        have hy11:((aR fun v => ∃x:Int,v = .int .i64 x∧0≤x)).r (y 11) W6:=hRW6 11 (by decide)
        have hy12:((aR fun v => ∃u,v = .bool u)).r (y 12) W6:=hRW6 12 (by decide)
        have hy13:((aR fun v => ∃u,(u=true→true=true)∧v = .bool u)).r (y 13) W6:=hRW6 13 (by decide)
        have hy14:((aR fun v => ∃u,(u=true→true=true)∧v = .agg #[.int .i64 1,.int .i64 (f:Int),.bool u])).r (y 14) W6:=hRW6 14 (by decide)
        clear hRW6
        obtain⟨a6,c6,l6,h6,s6,_⟩:=hbW6
        obtain⟨u,hu1,hu⟩:=hy14
        rw[hu]
        clear hu
        obtain⟨gT',oT',curT,hab',hgTB,hgT,hgTs,_,hgTw⟩:=dz.ent (S:=S5.lst a6 c6 l6) h6 (p:=p) (n:=n) hpT5.out hn (hTn5.out _ rfl)
        have e9:(some (⟨gT',oT',none⟩:Addr))=some ⟨gT,oT,none⟩:=hab'.symm.trans hab
        cases e9
        have hpTi:(p:Int)<(S5.T.length:Int):=by have:=hpT5.out;omega
        have hni:(n:Int)<64:=by omega
        have hgTw':=Lib.hid hgTw
        have s6:=s5.trans s6
        clear hgTw hab' h5 s5
        go_wp2_with (refine az rfl _ _ _ rfl gT (oT+p*192+n*3) _ (jT ⟨1,f,u⟩) rfl rfl rfl _ _ hgT (by rw[eU];exact hgTs) (by kernel_rfl) (bv (fJ _)) ?_)
        intro w7 hb7 hg7
        have h7:=hgTw'.out w7 ⟨1,f,u⟩ hb7 hg7
        have s7:=s6.put (H':={ S5.lst a6 c6 l6 with T:=setL (S5.lst a6 c6 l6).T p n ⟨1,f,u⟩ }) hg7 (.inr (by simp only[eO,MW.lst,hab];simp[oB];right;right;right;right;right;right;right;right;rfl)) (fun x hx => .inl hx)
        clear hgT hb7 hg7 h6 s6
        go_wp2
        refine bodyPost_ret (v:=.tuple #[]) (by simp[results,go_sem,results65]) rfl ?_
        exact⟨_,rfl,h7,s7,⟨hK5.out.sp,hK5.out.fi,hK5.out.ct,hK5.out.dk,hK5.out.fl,hK5.out.sl⟩,hbdu.out u (fun h=>by first | exact trivial | exact⟨rfl,rfl⟩ | exact absurd (hu1 h) (by decide) | simp),hent5.out _⟩
       | false=>
        skip
        refine dW 16 [_,_,_,.v (.slice (some ⟨gT,oT,none⟩) S5.T.length S5.cb),_,.v (.int .i64 (n:Int)),_,_,.v (.bool false),_,_,_,_,.r 13 ((aR fun v => ∃u,(u=true→false=true)∧v = .bool u)),.r 14 ((aR fun v => ∃u,(u=true→false=true)∧v = .agg #[.int .i64 1,.int .i64 (f:Int),.bool u])),_] (Fv S5 B b w5 [(w.heap.size,#[.bool true,.bool grd,.bool false,.bool false,.int .i64 gfi,.int .i64 (I:Int)],109)]) aC (fun _=>⟨S5.al,S5.cl,S5.l,h5,MS.refl _ _ _,by simpa using ⟨bx5,hn5.out⟩⟩) (Qk aC rfl (Qk aC rfl (Qf aC b 12 rfl rfl (ae ?_ (Qk aC rfl (Qk aC rfl (Qk aC rfl (Qf aC w.heap.size 2 rfl rfl (ae ?_ (Qk aC rfl (Qk aC rfl (Qk aC rfl (Qk aC rfl (ae ?_ (ae ?_ (Qr aC (.pointer (some ⟨gT,oT+p*192,none⟩)) (fun ρ y W hKn=>(bB rfl (aF rfl hKn) (aF rfl hKn) hpT5.out underlying75 ents_size)) rfl rfl (aB))))))))))))))))) (fun _=>rfl) rfl ?_
        ·intro ρ y W L hw hn hLi hLd hb hd
         refine bS aC (fun _ _ h=>h) hb ?_
         have E26:=hw 26 2 rfl
         have h2:y 2=_:=hd 2 rfl
         obtain⟨a,c,l,m1,m2,m3⟩:=hb
         refine aj (.slice (some ⟨gT,oT,none⟩) S5.T.length S5.cb) (ah rfl) (by simp[execOp,go_sem,E26,h2,m1.blk.cell,fD,MW.lst,hab]) rfl
        ·intro ρ y W L hw hn hLi hLd hb hd
         refine bS aC (fun _ _ h=>h) hb ?_
         have E31:=hw 31 7 rfl
         have h7:y 7=_:=hd 7 rfl
         obtain⟨a,c,l,m1,m2,m3⟩:=hb
         have m3:=(m3 _ (List.mem_singleton.2 rfl)).1
         refine aj (.bool false) (ah rfl) (by simp[execOp,go_sem,E31,h7,m3.cell]) rfl
        ·intro ρ y W L hw hn hLi hLd hb hd
         refine bS aC (fun _ _ h=>h) hb ?_
         have E33:=hw 33 9 rfl
         have h9:y 9=_:=hd 9 rfl
         have E36:=hw 36 12 rfl
         have h12:y 12=_:=hd 12 rfl
         refine aj (.bool false) (ah rfl) (lS rfl (E33.trans h9) (by exact (hn (.const _) trivial).trans rfl)) ⟨false,fun h=>(by cases h),rfl⟩
        ·intro ρ y W L hw hn hLi hLd hb hd
         refine bS aC (fun _ _ h=>h) hb ?_
         have E30:=hw 30 6 rfl
         have h6:y 6=_:=hd 6 rfl
         have E37:=hw 37 13 rfl
         have h13:=hd 13 rfl
         obtain⟨u,hu1,hu⟩:=h13
         have EC:∀v,ρ (.const v)=v:=fun v=>hn (.const v) trivial
         refine aj (.agg #[.int .i64 1,.int .i64 (f:Int),.bool u]) (ah rfl) (by simp[execOp,go_sem,E30,h6,E37,EC,hu]) ⟨u,hu1,rfl⟩
        intro y W6 hbW6 hRW6
        have hy13:((aR fun v => ∃u,(u=true→false=true)∧v = .bool u)).r (y 13) W6:=hRW6 13 (by decide)
        have hy14:((aR fun v => ∃u,(u=true→false=true)∧v = .agg #[.int .i64 1,.int .i64 (f:Int),.bool u])).r (y 14) W6:=hRW6 14 (by decide)
        clear hRW6
        obtain⟨a6,c6,l6,h6,s6,_⟩:=hbW6
        obtain⟨u,hu1,hu⟩:=hy14
        rw[hu]
        clear hu
        obtain⟨gT',oT',curT,hab',hgTB,hgT,hgTs,_,hgTw⟩:=dz.ent (S:=S5.lst a6 c6 l6) h6 (p:=p) (n:=n) hpT5.out hn (hTn5.out _ rfl)
        have e9:(some (⟨gT',oT',none⟩:Addr))=some ⟨gT,oT,none⟩:=hab'.symm.trans hab
        cases e9
        have hpTi:(p:Int)<(S5.T.length:Int):=by have:=hpT5.out;omega
        have hni:(n:Int)<64:=by omega
        have hgTw':=Lib.hid hgTw
        have s6:=s5.trans s6
        clear hgTw hab' h5 s5
        go_wp2_with (refine az rfl _ _ _ rfl gT (oT+p*192+n*3) _ (jT ⟨1,f,u⟩) rfl rfl rfl _ _ hgT (by rw[eU];exact hgTs) (by kernel_rfl) (bv (fJ _)) ?_)
        intro w7 hb7 hg7
        have h7:=hgTw'.out w7 ⟨1,f,u⟩ hb7 hg7
        have s7:=s6.put (H':={ S5.lst a6 c6 l6 with T:=setL (S5.lst a6 c6 l6).T p n ⟨1,f,u⟩ }) hg7 (.inr (by simp only[eO,MW.lst,hab];simp[oB];right;right;right;right;right;right;right;right;rfl)) (fun x hx => .inl hx)
        clear hgT hb7 hg7 h6 s6
        go_wp2
        refine bodyPost_ret (v:=.tuple #[]) (by simp[results,go_sem,results65]) rfl ?_
        exact⟨_,rfl,h7,s7,⟨hK5.out.sp,hK5.out.fi,hK5.out.ct,hK5.out.dk,hK5.out.fl,hK5.out.sl⟩,hbdu.out u (fun h=>by first | exact trivial | exact⟨rfl,rfl⟩ | exact absurd (hu1 h) (by decide) | simp),hent5.out _⟩
def Hg (B:Nat):jJ:=⟨fun v w => ∃g,v = .pointer (some ⟨g,0,none⟩)∧aD w g (fC f0) 110∧B≤g,fun _ _ _ hb ⟨g,h1,h2,h3⟩=>⟨g,h1,h2.ext hb,h3⟩⟩
theorem FU {l:List jJ} (hp:l.getD q anyR=Hg B) (hq:l.getD p anyR=Hg B):zJ (rl l) p q i (.pointer (some ⟨w.heap.size,0,none⟩)) w:=by
 refine Cy (fun u hu => ?_) (fun u hu => ?_)
 ·unfold rl at hu
  rw[hp] at hu
  obtain⟨g,h1,h2,_⟩:=hu
  exact⟨g,_,_,h1,h2⟩
 ·unfold rl at hu
  rw[hq] at hu
  obtain⟨g,h1,h2,_⟩:=hu
  exact⟨g,_,_,h1,h2⟩
theorem yE {l:List jJ} (v:Value) (hw:Region.wanted o (eG ρ ops)=true) (hrun:(execOp ρ o).run P w = .ok (.value v) w') (hb:Below w.heap.size w w') (hR:rl l i v w') (hN:zJ (rl l) p q i v w) :
  if Region.wanted o (eG ρ ops)=true then cK P o ρ w (fun v w'=>(Below w.heap.size w w'∧rl l i v w')∧zJ (rl l) p q i v w) else rl l i undef w∧i≠p∧i≠q:=by
 rw[if_pos hw]
 unfold cK
 rw[hrun]
 exact⟨⟨hb,hR⟩,hN⟩
theorem MB (l:List Ar) (x:Ar) (a:Option Addr) (c:Nat) (w:World) (h:Pv w a c l) :
  Calls Tryz.prog 64 #[.slice a l.length c,.agg (kT x)] w fun r w' => ∃v,r = .returned (.tuple #[v,.int .i64 (ve l x)])∧Own w' w.heap.size 99 7 v (sN l x).length ((sN l x).flatMap jU)∧Below w.heap.size w w':=by
 go_enter func64,ntmps64
 go_upto_region 1 with (fail)
 refine gB (fun W=>Code.wp _ _ _ _ W) fun W0 hb0 hx0 hs0 => ?_
 clear hs0
 go_wp2_with fail
 refine (DX l a c _ (h.below hb0)).mono ?_
 rintro r w1 ⟨rfl,hb1⟩
 have hbel1:=ag hb0 hb1
 have hx1:=hx0.ext hb1
 clear hb0 hx0 hb1
 unfold Jl
 go_wp2_with (refine aL rfl _ _ _ rfl #[.int .i64 (bF l).1,.int .i64 (bF l).2] rfl rfl rfl fau_size (kG _ _) ?_)
 intro w2 hb2 hf2
 have hbel:=ag hbel1 hb2
 have hx2:=hx1.ext hb2
 clear hbel1 hx1 hb2
 by_cases hw:(bF l).1=0
 ·have hall:=iO.1 hw
  have hw0:=Lib.hid hw
  have hsr:=lN hall.2
  rw[hw] at hf2
  have hcf:=hf2.cell
  clear hw
  go_wp2_with (refine ay _ _ rfl _ 0 rfl rfl _ hx2.rd _ underlying99 rfl area_size ?_)
  refine (Ab x _).mono ?_
  rintro r w3 ⟨rfl,hb3⟩
  have hbel:=ag hbel hb3
  have hx3:=hx2.ext hb3
  clear hcf hf2 hx2 hb3
  by_cases he:aK x=0
  ·have he0:=Lib.hid he
   rw[he]
   clear he
   go_upto_region 7 with (fail)
   refine Ml 7 5 6 [oV (.slice a l.length c),oV (.agg (fC (bN l))),oV (.agg (kT x)),(Qc x),oV (.agg (fC (bN [x]))),(Hg w.heap.size),(Hg w.heap.size)] (by kernel_rfl) (by decide) (by decide) (by decide) _ rfl (by kernel_rfl) (by kernel_rfl) (by decide) _ rfl (by kernel_rfl) (ae (pu (by decide) (by decide) (QC (Qy rfl) (Qw rfl (Qz rfl rfl) rfl))) (ae ?_ (ae ?_ (ae ?_ (ae ?_ (ae ?_ (ae ?_ (aB)))))))) ?_
   ·refine pu (by decide) (by decide) ?_
    intro ρ y W hw hn hb hd
    have E23:=hw 23 0 rfl
    have h0:y 0=_:=hd 0 rfl
    have EF:∀f,ρ (.func f) = .func (.func f) #[] #[]:=fun f=>hn (.func f) trivial
    refine aM _ _ (ah rfl) (aN rfl (EF _) func49 (by kernel_rfl) (by kernel_rfl) (by simp only[List.map_toArray,List.map_cons,List.map_nil,E23,h0,EF];rfl)) ?_
    refine (oZ l a c W (h.below (ag hbel hb)).rd (by omega) (fun x hx=>(srtF_ok hsr x hx).1)).mono ?_
    rintro r w1 ⟨rfl,hb1⟩
    exact⟨_,rfl,hb1,rfl⟩
   ·refine pu (by decide) (by decide) ?_
    intro ρ y W hw hn hb hd
    have E3:ρ (.tmp 3) = .pointer (some ⟨w.heap.size,0,none⟩):=(hn (.tmp 3) rfl).trans rfl
    refine aj (.agg (kT x)) (ah rfl) (bI rfl E3 (hx3.ext hb) underlying99 rfl area_size) rfl
   ·refine pu (by decide) (by decide) ?_
    intro ρ y W hw hn hb hd
    have E25:=hw 25 2 rfl
    have h2:y 2=_:=hd 2 rfl
    refine iG (.slice (some ⟨W.heap.size,0,none⟩) 1 1) (ah rfl) (by simp[execOp,go_sem,bC,E25,h2,kT]) ((Below.refl _ _).alloc (Nat.le_refl _) (.cells (kT x) 99)) ?_
    exact⟨_,rfl,aD.new _ _ _⟩
   ·refine pu (by decide) (by decide) ?_
    intro ρ y W hw hn hb hd
    have E26:=hw 26 3 rfl
    have h3:=hd 3 rfl
    have EF:∀f,ρ (.func f) = .func (.func f) #[] #[]:=fun f=>hn (.func f) trivial
    obtain⟨gq,hq3,hqb⟩:=h3
    refine aM _ _ (ah rfl) (aN rfl (EF _) func49 (by kernel_rfl) (by kernel_rfl) (by simp only[List.map_toArray,List.map_cons,List.map_nil,E26,EF,hq3];rfl)) ?_
    refine (oZ [x] _ 1 W (fun j u hj=>hqb.rd j u (by simpa[jU] using hj)) (by simp) (fun z hz=>by rw[List.mem_singleton.1 hz];exact he0.out)).mono ?_
    rintro r w1 ⟨rfl,hb1⟩
    exact⟨_,rfl,hb1,rfl⟩
   ·intro ρ y W hw hn hb hd
    refine yE (.pointer (some ⟨W.heap.size,0,none⟩)) (ah rfl) (w':=W.alloc (.cells (fC f0) 110)) ?_ ((Below.refl _ _).alloc (Nat.le_refl _) _) ⟨_,rfl,aD.new _ _ _,(ag hbel hb).size⟩ (FU rfl rfl)
    simp[execOp,go_sem,bC,bC]
    rfl
   ·intro ρ y W hw hn hb hd
    refine yE (.pointer (some ⟨W.heap.size,0,none⟩)) (ah rfl) (w':=W.alloc (.cells (fC f0) 110)) ?_ ((Below.refl _ _).alloc (Nat.le_refl _) _) ⟨_,rfl,aD.new _ _ _,(ag hbel hb).size⟩ (FU rfl rfl)
    simp[execOp,go_sem,bC,bC]
    rfl
   intro y WA hbWA hRWA hyne
   have hy1:y 1=_:=hRWA 1 (by decide)
   have hy4:y 4=_:=hRWA 4 (by decide)
   have hy3:=hRWA 3 (by decide)
   have hy5:((Hg w.heap.size)).r (y 5) WA:=hRWA 5 (by decide)
   have hy6:((Hg w.heap.size)).r (y 6) WA:=hRWA 6 (by decide)
   clear hRWA
   simp only[lay,bH,bC,List.map_cons,List.map_nil,Nat.reduceAdd,Nat.reduceLT,decide_true,decide_false,if_true,Bool.false_eq_true,if_false,List.setIfInBounds_toArray,List.set_cons_zero,List.set_cons_succ,List.drop_succ_cons,List.drop_zero,List.drop_nil,hy1,hy4]
   clear hy1 hy4
   obtain⟨gX,hyX,hbX,hgX⟩:∃g,y 5 = .pointer (some ⟨g,0,none⟩)∧aD WA g (fC f0) 110∧w.heap.size≤g:=hy5
   obtain⟨gY,hyY,hbY,hgY⟩:∃g,y 6 = .pointer (some ⟨g,0,none⟩)∧aD WA g (fC f0) 110∧w.heap.size≤g:=hy6
   have hXY:gX≠gY:=fun e=>hyne (by rw[hyX,hyY,e])
   simp only[hyX,hyY]
   have hbelA:=ag hbel hbWA
   clear hy3 hyX hyY hyne hbel hx3 hbWA
   go_upto_region 8 with (refine ax rfl _ _ _ rfl gX (fC (bN l)) rfl rfl _ _ hbX (by rw[iP,iP]) (by rw[iP];exact ones_size) (xe _) ?_)
   intro W5 hX5 hgr5
   have hbel5:=hbelA.grown hgr5 hbelA.size (fun k hk=>by cases hk;exact hgX)
   have hY5:aD W5 gY (fC f0) 110:=hbY.grown hgr5 (fun e=>hXY (Option.some.inj e))
   clear hbelA hbX hbY hgr5
   go_upto_region 8 with (refine ax rfl _ _ _ rfl gY (fC (bN [x])) rfl rfl _ _ hY5 (by rw[iP,iP]) (by rw[iP];exact ones_size) (xe _) ?_)
   intro W6 hY6 hgr6
   have hbel6:=hbel5.grown hgr6 hbel5.size (fun k hk=>by cases hk;exact hgY)
   have hX6:aD W6 gX (fC (bN l)) 110:=hX5.grown hgr6 (fun e=>hXY (Option.some.inj e).symm)
   clear hbel5 hX5 hY5 hgr6
   go_upto_region 9 with (fail)
   go_loopw [28] (fun i wr => ∃n:Nat,n≤64∧i = .int .i64 n∧Below w.heap.size w wr∧aD wr gX (fC (nV x n (bN l))) 110∧aD wr gY (fC (bN [x])) 110∧∀i:Nat,i<n→¬(kU (i:Int) x=true∧onA l i≠none)) (fun i _=>64-(intOf i).toNat)
   case atStart=>exact⟨0,by omega,rfl,hbel6,by rw[Ey];exact hX6,hY6,fun i hi=>absurd hi (Nat.not_lt_zero _)⟩
   case round=>
    clear hbel6 hX6 hY6
    obtain⟨n,hn,rfl,hbr,hX,hY,hno0⟩:=hrel
    have hno:=Lib.hid hno0
    clear hno0
    by_cases hlt:n<64
    ·have hlti:(n:Int)<64:=by omega
     have dX:wr.cell? ⟨gX,n*6,none⟩=some (.bool (onA l n).isSome):=by
      rw[hX.cell]
      exact tQ (nV x n (bN l)) n 0 hlt _ (by rw[Nj,oI hsr];rfl) (by decide)
     have dY:wr.cell? ⟨gY,n*6,none⟩=some (.bool (bN [x] n).isSome):=by
      rw[hY.cell]
      exact tQ (bN [x]) n 0 hlt _ rfl (by decide)
     rw[MQ] at dY
     by_cases hin:kU (n:Int) x=true
     ·rw[if_pos hin] at dY
      cases hon:onA l (n:Int) with
      | some p=>
       rw[hon] at dX
       simp only[Option.isSome] at dX dY
       have q0:Hid _:=Lib.hid (Bl (l:=l) (x:=x) (e:=6) (by unfold ve;rw[if_neg (by rw[hw0.out];simp),if_neg (by rw[he0.out];simp),if_pos (LQ hin (by rw[hon];simp))]) (by decide))
       have hbel:=hbr
       clear hin hon
       go_wp2
       go_ret2
       have q:=q0.out
       exact⟨.slice none 0 0,by first | (rw[q.1];done) | (rw[q.1];rfl),by rw[q.2];exact Own.nil _ _ _ _,hbel⟩
      | none=>
       rw[hon] at dX
       simp only[Option.isSome] at dX dY
       have hset:Hid (bq (fC (nV x n (bN l))) (n*6) (lX (some (iJ x n)))=fC (nV x (n+1) (bN l))):=Lib.hid (by
        rw[Ko _ n hlt,MK hin])
       have hrdY:dA wr (some ⟨gY,n*6,none⟩) (lX (some (iJ x n))):=fun j u hj=>⟨gY,n*6,rfl,by
        rw[hY.cell]
        exact tQ (bN [x]) n j hlt u (by rw[MQ,if_pos hin];exact hj) (by have:=(List.getElem?_eq_some_iff.1 hj).1;rwa [kP] at this)⟩
       have hup:Hid (∀i:Nat,i<n+1→¬(kU (i:Int) x=true∧onA l i≠none)):=Lib.hid (fun i hi hq=>by
        by_cases c:i=n
        ·subst c;exact hq.2 hon
        ·exact hno.out i (by omega) hq)
       have hfit:Hid (n*6+6≤(fC (nV x n (bN l))).size):=Lib.hid (by rw[iP];omega)
       clear hin hon
       go_upto_region 15 with (first | (refine ay _ _ rfl _ (n*6) rfl rfl _ hrdY _ underlying109 rfl one_size ?_) | (refine fq rfl _ _ _ rfl gX (n*6) (wD (some (iJ x n))) rfl rfl _ _ hX hfit.out one_size (MI _) ?_))
       intro W7 hX7 hgr7
       have hX8:aD W7 gX (fC (nV x (n+1) (bN l))) 110:=by rw[←hset.out];exact hX7
       have hbel7:=hbr.grown hgr7 hbr.size (fun k hk=>by cases hk;exact hgX)
       have hY7:aD W7 gY (fC (bN [x])) 110:=hY.grown hgr7 (fun e=>hXY (Option.some.inj e))
       clear hX hY hbr hX7 hgr7 dX dY hrdY hset hfit
       go_wp2
       go_roundw
       case rel=>exact⟨n+1,by omega,by go_num,hbel7,hX8,hY7,hup.out⟩
       case measure=>simp[intOf];omega
     ·rw[if_neg hin] at dY
      simp only[Option.isSome] at dY
      have hup:Hid (∀i:Nat,i<n+1→¬(kU (i:Int) x=true∧onA l i≠none)):=Lib.hid (fun i hi hq=>by
       by_cases c:i=n
       ·subst c;exact hin hq.1
       ·exact hno.out i (by omega) hq)
      have hX8:aD wr gX (fC (nV x (n+1) (bN l))) 110:=by rw[Il hin];exact hX
      clear hin hX
      cases hsX:(onA l (n:Int)).isSome
      ·rw[hsX] at dX
       clear hsX
       go_wp2
       go_roundw
       case rel=>exact⟨n+1,by omega,by go_num,hbr,hX8,hY,hup.out⟩
       case measure=>simp[intOf];omega
      ·rw[hsX] at dX
       clear hsX
       go_wp2
       go_roundw
       case rel=>exact⟨n+1,by omega,by go_num,hbr,hX8,hY,hup.out⟩
       case measure=>simp[intOf];omega
    ·have hn64:n=64:=by omega
     subst hn64
     have hany:=Ni hall.2 he0.out hno.out
     have hmt:∀z∈l,lY x z=false:=fun z hz=>by have:=List.any_eq_false.1 hany z hz;simpa using this
     have hins:=xU he0.out hsr (aX he0.out).1.2.1.1 hmt
     rw[←wO] at hins
     have hfin:Hid (ve l x=yT (nI (xJ l x)).length):=Lib.hid (by unfold ve;rw[if_neg (by rw[hw0.out];simp),if_neg (by rw[he0.out];simp),if_neg (by rw[hany];simp)];rfl)
     have hml:Hid (sN l x=if 16<(nI (xJ l x)).length then [] else nI (xJ l x)):=Lib.hid (by
      unfold sN
      rw[hfin.out]
      unfold yT
      by_cases h16:16<(nI (xJ l x)).length
      ·rw[if_pos h16,if_pos h16];rfl
      ·rw[if_neg h16,if_neg h16];rfl)
     have hs384:Hid ((fC (nV x 64 (bN l))).size=384):=Lib.hid (iP _)
     clear hlt
     go_wp2_with (refine ay _ _ rfl _ 0 rfl rfl _ hX.rd _ underlying110 rfl (by rw[Array.length_toList,hs384.out];exact ones_size) ?_)
     refine (NU (nV x 64 (bN l)) (nI (xJ l x)) (Bh hins) (fun i hi => ?_) (fun i p hp => ?_) _).mono ?_
     ·rw[Aq hins,wO,AV he0.out _ hsr hmt]
      unfold nV
      rw[oI hsr]
      by_cases c:kU (i:Int) x=true
      ·rw[if_pos ⟨c,hi⟩,if_pos c]
      ·rw[if_neg (fun q=>c q.1),if_neg c]
     ·unfold nV at hp
      split at hp
      ·rename_i hq
       cases hp
       have h1:=Gd he0.out hq.1
       refine⟨h1.2.2.1,?_⟩
       by_cases hf:(iJ x i).fi<0
       ·rw[(h1.2.2.2.1 hf).1];decide
       ·have:=h1.2.2.2.2 (by omega);omega
      ·exact CS hsr i p hp
     ·rintro r w9 ⟨v9,rfl,hO9,hb9⟩
      have hbel9:=ag hbr hb9
      replace hO9:=hO9.mono hbr.size
      rw[←hml.out] at hO9
      rw[←hfin.out]
      clear hbr hX hY hb9 hml
      go_wp2
      go_ret2
      exact⟨v9,rfl,hO9,hbel9⟩
  ·have q0:Hid _:=Lib.hid (Bl (l:=l) (x:=x) (e:=aK x) (by unfold ve;rw[if_neg (by rw[hw0.out];simp),if_pos he]) he)
   have he' : (aK x != 0)=true:=by simpa using he
   clear he hall
   go_wp2
   go_ret2
   have q:=q0.out
   exact⟨.slice none 0 0,by first | (rw[q.1];done) | (rw[q.1];rfl),by rw[q.2];exact Own.nil _ _ _ _,hbel⟩
 ·have q0:Hid _:=Lib.hid (Bl (l:=l) (x:=x) (e:=(bF l).1) (by unfold ve;rw[if_pos hw]) hw)
  have hw' : ((bF l).1 != 0)=true:=by simpa using hw
  have hcf:=hf2.cell
  clear hw
  go_upto_region 3 with (fail)
  go_quiet (fail)
  rename_i nq
  have hbel:=below_drewN hbel nq
  go_wp2
  go_ret2
  have q:=q0.out
  exact⟨.slice none 0 0,by first | (rw[q.1];done) | (rw[q.1];rfl),by rw[q.2];exact Own.nil _ _ _ _,hbel⟩
theorem Ha {l:List Ar} {x:Ar} (h:ve l x=0):(l.length≤16∧okF none l)∧aK x=0∧(∀a∈l,lY x a=false)∧(nI (xJ l x)).length≤16∧sN l x=nI (xJ l x):=by
 have h0:=h
 unfold ve at h
 by_cases hw:(bF l).1=0
 ·rw[if_neg (by omega)] at h
  by_cases he:aK x=0
  ·rw[if_neg (by omega)] at h
   cases hm:l.any (lY x)
   ·rw[hm,if_neg (by simp)] at h
    refine⟨iO.1 hw,he,fun a ha => ?_,?_,?_⟩
    ·have:=List.any_eq_false.1 hm a ha
     simpa using this
    ·split at h
     ·omega
     ·omega
    ·unfold sN;rw[if_neg (by omega)]
   ·rw[hm,if_pos rfl] at h;omega
  ·rw[if_pos he] at h;exact absurd h he
 ·rw[if_pos hw] at h;exact absurd h hw
theorem EQ {l:List Ar} {x:Ar} (h:ve l x=0):(sN l x).length≤16∧okF none (sN l x)∧∀n,onA (sN l x) n=if kU n x then some (iJ x n) else onA l n:=by
 obtain⟨⟨h1,h2⟩,h3,h4,h5,h6⟩:=Ha h
 have hs:=lN h2
 have hx:=(aX h3).1.2.1.1
 have hi:=xU h3 hs hx h4
 rw[h6]
 rw[wO] at h5 ⊢
 exact⟨h5,Bh hi,fun n=>by rw[Aq hi,AV h3 n hs h4]⟩
def FV (S:MW):Prop:=∀p∈S.H.sp,∀n g,onA p.ar n=some g→g.fi<S.H.fi.length
structure More (S S' : MW):Prop where
 bd:Bd S'.H.ma S'.T
 fm:FV S'
 fi:S'.H.fi=S.H.fi
 ct:S'.H.ct=S.H.ct
 dk:S'.H.dk=S.H.dk
 sp:S'.H.sp.length=S.H.sp.length+1
 fs:S'.H.m.fs.length=S.H.m.fs.length
def SpaceR (S:MW) (B b:Nat) (w:World) (r:Ending) (w' : World):Prop:=∃S',r = .returned (.tuple #[])∧dz w' B b S'∧MS w b S w' S'∧More S S' ∧
 (S.l=[]→S'.l=[]∧S'.H.ma = { S.H.ma with sp:=S.H.ma.sp++[⟨true,[],zTb⟩] }∧S'.T=S.T++[List.replicate 64 zEn])
theorem dz.kb_ne (h:dz w B b S) {x:Nat} (hk:aD w x cs T)
 (hT:T≠77∧T≠81∧T≠3∧T≠79∧T≠86∧T≠67∧T≠106∧T≠55∧T≠90):¬jO b S x:=by
 obtain⟨t1,t2,t3,t4,t5,t6,t7,t8,t9⟩:=hT
 have own:∀ {e:TypeId} {sz n c:Nat} {a:Option Addr} {xs:List Value},T≠e→Own w B e sz (.slice a n c) n xs→oB a=some x→False:=fun ht ho hx=>by
  obtain⟨_,cs',h2⟩:=fT ho hx
  exact jB hk h2 ht rfl
 intro hx
 rcases hx with hx|hx
 ·subst hx;exact jB hk h.blk t1 rfl
 ·simp only[eO,List.mem_cons,List.not_mem_nil,or_false] at hx
  rcases hx with hx|hx|hx|hx|hx|hx|hx|hx|hx
  ·exact own t2 h.ma.fr hx.symm
  ·exact own t3 h.ma.sl hx.symm
  ·exact own t4 h.ma.sw.b hx.symm
  ·exact own t4 h.ma.dk.b hx.symm
  ·exact own t5 h.ma.dk.q hx.symm
  ·exact own t6 h.ma.st.own hx.symm
  ·exact own t7 h.ma.ca hx.symm
  ·exact own t8 h.ma.sp hx.symm
  ·exact own t9 h.tt hx.symm
theorem dz.own_not (h:dz w B b S) (ho:Own w B' e sz (.slice a n c) n xs)
 (hT:e≠77∧e≠81∧e≠3∧e≠79∧e≠86∧e≠67∧e≠106∧e≠55∧e≠90):∀x,(Value.slice a n c).ownBlock=some x→¬jO b S x:=fun x hx=>by
 obtain⟨cs,hk⟩:=jd ho x hx
 exact h.kb_ne hk hT
theorem dz.locA (h:dz w B b S) (hk:aD w g cs 99) (hn:¬jO b S g) (hsp:∀p∈S.H.sp,oB p.aa≠some g) (hgB:B≤g) (hg:w.grownBy w' (some g)):dz w' B b S:=by
 have hne:∀ {a:Option Addr},oB a∈eO S→∀n c g',(Value.slice a n c).ownBlock=some g'→some g≠some g':=fun hm n c g' he e=>by
  cases e
  rw[jv] at he
  exact hn (.inr (by rw[←he];exact hm))
 exact⟨h.blk.grown hg (fun e=>hn (.inl (Option.some.inj e))),h.ge,⟨h.ma.fr.grown hg (hne (by simp[eO]) _ _),h.ma.sl.grown hg (hne (by simp[eO]) _ _),⟨h.ma.sw.b.grown hg (hne (by simp[eO]) _ _),h.ma.sw.q.grown hg (fun g' he=>by rw[h.n3] at he;cases he)⟩,⟨h.ma.dk.b.grown hg (hne (by simp[eO]) _ _),h.ma.dk.q.grown hg (hne (by simp[eO]) _ _)⟩,
  ⟨h.ma.st.own.grown hg (hne (by simp[eO]) _ _),fun i p hp=>ak (h.ma.st.each i p hp) hk (by decide) hg,h.ma.st.apart⟩,h.ma.ca.grown hg (hne (by simp[eO]) _ _),h.ma.sp.grown hg (hne (by simp[eO]) _ _),fun p hp=>⟨(h.ma.ps p hp).1.grown hg (fun g' he e=>by
   cases e
   rw[jv] at he
   exact hsp p hp he),(h.ma.ps p hp).2.keep hk (by decide) hg⟩,h.ma.c64⟩,
  h.tt.grown hg (hne (by simp[eO]) _ _),h.rd.keep h.ra h.bs hg hgB,h.ra,h.n1,h.n2,h.n3⟩
theorem dz.newA (h:dz w B b S) {x:Nat} (hx:w.heap.size≤x):∀p∈S.H.sp,oB p.aa≠some x:=fun p hp he=>by
 have:=(fT (h.ma.ps p hp).1 he).2.choose_spec.lt
 omega
def EL (S:MW) (B b:Nat) (w:World) (i:Nat) (cs:Array Value) (T:TypeId):(Nat→Bool)→(Nat→Value)→World→Prop:=fun L y W=>
 Fv S B b w [] L y W∧(L i=true→∃g,y i = .pointer (some ⟨g,0,none⟩)∧aD W g cs T∧¬jO b S g∧w.heap.size≤g)
theorem ig :∀L y W W',Below W.heap.size W W'→EL S B b w i cs T L y W→EL S B b w i cs T L y W':=
 fun _ _ _ _ hb ⟨h1,h2⟩=>⟨aC _ _ _ _ hb h1,fun hL=>by
  obtain⟨g,e1,e2,e3⟩:=h2 hL
  exact⟨g,e1,e2.ext hb,e3⟩⟩
theorem Kj (h0:dz w B b S) (h:EL S B b w i cs T L y W):EL S B b w i cs T (bK L i) (bZ y i (.pointer (some ⟨W.heap.size,0,none⟩))) (W.alloc (.cells cs T)):=by
 have hs:w.heap.size≤W.heap.size:=by
  obtain⟨⟨a,c,l,h1,h2,h3⟩,_⟩:=h
  exact h2.size
 exact⟨aC _ _ _ _ ((Below.refl _ _).alloc (Nat.le_refl _) _) h.1,fun _=>⟨W.heap.size,by unfold bZ;rw[if_pos rfl],aD.new _ _ _,h0.new hs,hs⟩⟩
theorem rC {y' : Value→Nat→Value} (hL:L' i=L i) (hy:∀v,y' v i=y i) (n:Int) (hn : -9223372036854775808≤n∧n≤9223372036854775807) (h:EL S B b w i cs T L y W) {R:Value→World→Prop} (hR:∀x:Int,0≤x→x<256→(x<n∨x=0)→∀W',R (.int .i64 x) W') :
  Calls Tryz.prog 30 #[.pointer (some ⟨b,0,none⟩),.int .i64 n] W fun e W' => ∃v,e = .returned v∧EL S B b w i cs T L' (y' v) W'∧R v W':=by
 obtain⟨⟨a,c,l,h1,h2,h3⟩,h4⟩:=h
 refine (dL _ n B b W h1 hn).mono ?_
 rintro r W' ⟨x,a',c',l',rfl,k1,k2,k3,_⟩
 exact⟨_,rfl,⟨⟨a',c',l',k1,h2.trans k2,fun t ht=>(by cases ht)⟩,fun hl=>by
  obtain⟨g,e1,e2,e3,e4⟩:=h4 (by rw[←hL];exact hl)
  exact⟨g,by rw[hy];exact e1,k2.blkN e2 e3,e3,e4⟩⟩,hR x k3.1 k3.2.1 k3.2.2 W'⟩
theorem mY (ho:Own w B e sz (.slice a n c) n xs) (hg:w.grownBy w' (Value.slice a n c).ownBlock):Below w.heap.size w w'∨∃g cs,aD w g cs e∧oB a=some g∧w.grownBy w' (some g):=by
 cases h:(Value.slice a n c).ownBlock with
 | none=>rw[h] at hg;exact .inl (ji hg)
 | some g=>
  rw[h] at hg
  obtain⟨cs,hk⟩:=jd ho g h
  exact .inr ⟨g,cs,hk,by rw[←jv a n c];exact h,hg⟩
theorem dz.appP (h:dz w B b S) (hg:w.grownBy w1 (Value.slice S.H.ap S.H.sp.length S.H.cp).ownBlock) {l:List PS} (ho:Own w1 B 55 10 (.slice a l.length c) l.length (l.flatMap nZ))
 (hp:∀p∈l,Own w1 B 99 7 (.slice p.aa p.ar.length p.ac) p.ar.length (p.ar.flatMap jU)∧mD w1 B (mo p.ts) p.tb) (hb:aD w2 b (bq (fD S) 11 [.slice a l.length c]) 77) (hg2:w1.grownBy w2 (some b)) :
  dz w2 B b { S with H:={ S.H with ap:=a,cp:=c,sp:=l } }:=by
 have key:aD w1 b (fD S) 77∧Own w1 B 81 13 (.slice S.H.af S.H.m.fs.length S.H.cf) S.H.m.fs.length (S.H.m.fs.flatMap lZ)∧Own w1 B 3 1 (.slice S.H.asl S.H.sl.length S.H.csl) S.H.sl.length (S.H.sl.map eH) ∧
   fQ w1 B (.slice S.H.wb S.H.sw.blocks.length S.H.cwb) (.slice S.H.wq S.H.sw.queue.length S.H.cwq) S.H.sw∧fQ w1 B (.slice S.H.db S.H.dk.blocks.length S.H.cdb) (.slice S.H.dq S.H.dk.queue.length S.H.cdq) S.H.dk∧kD w1 B (.slice S.H.ai S.H.fi.length S.H.ci) S.H.fi ∧
   Own w1 B 106 3 (.slice S.H.ac S.H.ca.length S.H.cc) S.H.ca.length (S.H.ca.flatMap je)∧Own w1 B 90 192 (.slice S.ab S.T.length S.cb) S.T.length (S.T.flatMap tL)∧nR w1 S.al S.cl S.l.length (S.l.map wU):=by
  rcases mY h.ma.sp hg with hb0|⟨g,cs,hk,hga,hg'⟩
  ·have h1:=h.below hb0
   exact⟨h1.blk,h1.ma.fr,h1.ma.sl,h1.ma.sw,h1.ma.dk,h1.ma.st,h1.ma.ca,h1.tt,h1.rd⟩
  ·exact⟨aW h.blk hk (by decide) hg',ak h.ma.fr hk (by decide) hg',ak h.ma.sl hk (by decide) hg',h.ma.sw.keep hk (by decide) (by decide) hg',h.ma.dk.keep hk (by decide) (by decide) hg',h.ma.st.keep hk (by decide) (by decide) hg',ak h.ma.ca hk (by decide) hg',ak h.tt hk (by decide) hg',h.rd.keep h.ra h.bs hg' (fT h.ma.sp hga).1⟩
 obtain⟨k0,k1,k2,k3,k4,k5,k6,k7,k8⟩:=key
 exact⟨hb,h.ge,⟨ak k1 k0 (by decide) hg2,ak k2 k0 (by decide) hg2,k3.keep k0 (by decide) (by decide) hg2,k4.keep k0 (by decide) (by decide) hg2,k5.keep k0 (by decide) (by decide) hg2,ak k6 k0 (by decide) hg2,ak ho k0 (by decide) hg2,fun p hpm=>⟨ak (hp p hpm).1 k0 (by decide) hg2,(hp p hpm).2.keep k0 (by decide) hg2⟩,h.ma.c64⟩,
  ak k7 k0 (by decide) hg2,k8.keep h.ra (Nat.le_trans h.ge (Nat.le_of_lt k0.lt)) hg2 h.ge,h.ra,h.n1,h.n2,h.n3⟩
theorem dz.appT (h:dz w B b S) (hg:w.grownBy w1 (Value.slice S.ab S.T.length S.cb).ownBlock) {T:List (List En)} (ho:Own w1 B 90 192 (.slice a T.length c) T.length (T.flatMap tL))
 (hb:aD w2 b (bq (fD S) 12 [.slice a T.length c]) 77) (hg2:w1.grownBy w2 (some b)):dz w2 B b { S with ab:=a,cb:=c,T:=T }:=by
 have key:aD w1 b (fD S) 77∧oL w1 B S.H∧nR w1 S.al S.cl S.l.length (S.l.map wU):=by
  rcases mY h.tt hg with hb0|⟨g,cs,hk,hga,hg'⟩
  ·have h1:=h.below hb0
   exact⟨h1.blk,h1.ma,h1.rd⟩
  ·exact⟨aW h.blk hk (by decide) hg',h.ma.keep hk (by decide) hg',h.rd.keep h.ra h.bs hg' (fT h.tt hga).1⟩
 obtain⟨k0,k1,k2⟩:=key
 exact⟨hb,h.ge,k1.keep k0 (by decide) hg2,ak ho k0 (by decide) hg2,k2.keep h.ra (Nat.le_trans h.ge (Nat.le_of_lt k0.lt)) hg2 h.ge,h.ra,h.n1,h.n2,h.n3⟩
theorem MS.app (h:MS w0 b S0 w S) (hm:dz w B b S) (ho:Own w B' e sz (.slice a n c) n xs) (hk:oB a∈eO S) (hg:w.grownBy w1 (Value.slice a n c).ownBlock) (hg2:w1.grownBy w2 (some b)) (hbn:lc w (.slice a n c) (.slice a' n' c'))
 (hn:∀x,jO b S' x→jO b S x∨oB a' = some x):MS w0 b S0 w2 S':=by
 have h1:MS w0 b S0 w1 S:=by
  rcases mY ho hg with hb0|⟨g,cs,_,hga,hg'⟩
  ·exact h.below hb0
  ·exact h.put hg' (.inr (by rw[←hga];exact hk)) (fun x hx => .inl hx)
 refine h1.put hg2 (.inl rfl) fun x hx => ?_
 rcases hn x hx with hx|hx
 ·exact .inl hx
 ·rcases hbn with e1|e1
  ·rw[jv,jv] at e1
   exact .inl (.inr (by rw[←hx,e1];exact hk))
  ·exact .inr (Nat.le_trans h.size (e1 x (by rw[jv];exact hx)))
theorem ents_info:(Tryz.prog.info? 90).map (fun i=>(i.zero,i.size,i.bytes))=some (some (.agg (tL (List.replicate 64 zEn)).toArray),192,1536):=by kernel_rfl
theorem vX {a:Act} (hg:o.guard=none) (s x:Operand)
 (hop:o.op=Op.call { callee:=Callee.builtin Builtin.append,args:=#[s,x],argTypes:=#[75,75] }) (hcs:cs=(tL (List.replicate 64 zEn)).toArray)
 (B:Nat) (v:Value) (n:Nat) (xs:List Value) (hs:a.eval s=v) (hown:Own w B 90 192 v n xs) (hx:a.eval x = .slice (some ⟨w.heap.size,0,none⟩) 1 1) (hn:n≤100) (hB:B≤w.heap.size)
 (hK:∀v' w',Own w' B 90 192 v' (n+1) (xs++tL (List.replicate 64 zEn))→(w.alloc (.cells (tL (List.replicate 64 zEn)).toArray 90)).grownBy w' v.ownBlock→lc (w.alloc (.cells (tL (List.replicate 64 zEn)).toArray 90)) v v'→wpList Tryz.prog ops Q rest (a.put o.dst v') w') :
  wpList Tryz.prog ops Q (o::rest) a (w.alloc (.cells cs 90)):=by
 subst hcs
 exact qF hg s x 75 hop B 90 _ 192 1536 underlying75 ents_info rfl (by decide) v n xs hs (hown.alloc _) (some ⟨w.heap.size,0,none⟩) 1 1 (tL (List.replicate 64 zEn)) hx (fun h=>(by cases h)) (Nat.le_refl _) (sH _) (by simpa using dA.new w (tL (List.replicate 64 zEn)).toArray 90) (by decide +kernel) (by unfold maxLen;omega) (by omega) (bQ hB _) hK
theorem yA (S:MW) (B b:Nat) (w:World) (h:dz w B b S) (hd:Bd S.H.ma S.T) (hf:FV S) (hl4:S.H.sp.length<4) :
  Calls Tryz.prog 35 #[.pointer (some ⟨b,0,none⟩)] w (SpaceR S B b w):=by
 have hd':=Lib.hid hd
 have hf':=Lib.hid hf
 have hBs:=Lib.hid h.bs
 have hfl5:S.H.fi.length≤5:=by
  have:=(iK.1 hd.few.2.2.2.2.1).1.1
  simpa[MH.ma,bY] using this
 clear hd hf
 go_enter func35,ntmps35
 go_wp2_with fail
 refine (dL _ 4 B b _ h (by omega)).mono ?_
 rintro r w1 ⟨n1,a1,c1,l1,rfl,h1,s1,hn1,hq1⟩
 obtain⟨N,rfl⟩:=Int.eq_ofNat_of_zero_le hn1.1
 have hN4:N<4:=by omega
 have hq1':=Lib.hid hq1
 clear h hn1 hq1
 have hwl:IntKind.i64.wrap ((S.H.fi.length:Int)+1)=(S.H.fi.length:Int)+1:=IntWalk.i64_in _ (by omega)
 go_upto_region 2 with (fail)
 go_loopw [11,2] (fun i u wr => ∃(k:Nat) (A:List Ar) (a:Option Addr) (c:Nat) (al:Option Addr) (cl:Nat) (ll:List UInt8),k≤N∧i = .int .i64 k∧u = .slice a A.length c∧Own wr B 99 7 (.slice a A.length c) A.length (A.flatMap jU)∧dz wr B b (S.lst al cl ll)∧MS w b S wr (S.lst al cl ll) ∧
  Hid ((bF A).1=0∧(∀n g,onA A n=some g→g.fi<S.H.fi.length)∧(k=0→A=[]∧ll=l1))) (fun i _ _=>N-(intOf i).toNat)
 case atStart=>exact⟨0,[],none,0,a1,c1,l1,Nat.zero_le _,rfl,rfl,by simpa using Own.nil _ _ _ _,h1,s1,Lib.hid ⟨by decide,fun n g h=>(by cases h),fun _=>⟨rfl,rfl⟩⟩⟩
 case round=>
  clear h1 s1
  obtain⟨k,A,a,c,al,cl,ll,hk,rfl,rfl,hown,hm,hs,hA⟩:=hrel
  have hnu:=Lib.hid (hm.own_not hown (by decide))
  by_cases hkN:k<N
  ·have hki:(k:Int)<(N:Int):=by omega
   go_upto_region 3 with (fail)
   refine dW 21 [_,.r 1 ((aR fun v => ∃x:Int,v = .int .i64 x∧0≤x∧x<12)),_,.r 3 ((aR fun v => ∃x:Int,v = .int .i64 x)),.r 4 ((aR fun v => ∃u,v = .bool u)),_,.r 6 ((aR fun v => ∃x:Int,v = .int .i64 x)),.r 7 ((aR fun v => ∃u,v = .bool u)),_,_,_,_,_,_,.v (.slice S.H.ai S.H.fi.length S.H.ci),_,_,.r 17 ((aR fun v => ∃x:Int,v = .int .i64 x∧0≤x∧x<(S.H.fi.length:Int)+1)),.r 18 ((aR fun v => ∃x:Int,v = .int .i64 x∧-1≤x∧x<S.H.fi.length)),.r 19 ((aR fun v => ∃fr rd wr fi,v = .agg (kT ⟨fr,0,rd,wr,false,fi,0⟩)∧0≤fr∧fr<12∧-1≤fi∧fi<S.H.fi.length)),.r 20 ((aR fun _=>True))] (EL (S.lst al cl ll) B b wr 20 (kT ⟨0,0,false,false,false,0,0⟩) 99) ig (fun _=>⟨⟨al,cl,ll,hm,MS.refl _ _ _,fun t ht=>(by cases ht)⟩,fun e=>(by cases e)⟩) (Qk ig rfl (ae ?_ (Qk ig rfl (ae ?_ (ae ?_ (Qk ig rfl (ae ?_ (ae ?_ (Qk ig rfl (Qk ig rfl (Qk ig rfl (Qf ig b 1 rfl rfl (Qf ig b 8 rfl rfl (Qf ig b 8 rfl rfl (ae ?_ (Qn ig rfl rfl rfl rfl (Qb ig (.int .i64 ((S.H.fi.length:Int)+1)) (by simp[go_sem,hwl]) rfl rfl rfl rfl rfl (ae ?_ (ae ?_ (ae ?_ (ae ?_ (aB)))))))))))))))))))))) (fun _=>rfl) rfl ?_
   ·intro ρ y W L hw hn hLi hLd hb hd;have E13:=hw 13 0 rfl;have h0:y 0=_:=hd 0 rfl
    have EC:∀v,ρ (.const v)=v:=fun v=>hn (.const v) trivial
    have EF:∀f,ρ (.func f) = .func (.func f) #[] #[]:=fun f=>hn (.func f) trivial
    refine eu _ _ (ah rfl) (aN rfl (EF _) func30 (by kernel_rfl) (by kernel_rfl) (by simp only[List.map_toArray,List.map_cons,List.map_nil,E13,h0,EC,EF];rfl)) ?_
    exact rC rfl (fun _=>rfl) 12 (by omega) hb fun x h1 h2 h3 _=>⟨x,rfl,h1,by omega⟩
   ·intro ρ y W L hw hn hLi hLd hb hd;have E15:=hw 15 2 rfl;have h2:y 2=_:=hd 2 rfl
    have EC:∀v,ρ (.const v)=v:=fun v=>hn (.const v) trivial
    have EF:∀f,ρ (.func f) = .func (.func f) #[] #[]:=fun f=>hn (.func f) trivial
    refine eu _ _ (ah rfl) (aN rfl (EF _) func30 (by kernel_rfl) (by kernel_rfl) (by simp only[List.map_toArray,List.map_cons,List.map_nil,E15,h2,EC,EF];rfl)) ?_
    exact rC rfl (fun _=>rfl) 4 (by omega) hb fun x h1 h2 h3 _=>⟨x,rfl⟩
   ·intro ρ y W L hw hn hLi hLd hb hd
    refine bS ig (fun _ _ h=>h) hb ?_
    have E16:=hw 16 3 rfl
    have h3:=hd 3 rfl
    obtain⟨x,hx⟩:=h3
    refine aj _ (ah rfl) (lH rfl (E16.trans hx) (hn (.const _) trivial) (by simp[go_sem];rfl)) ⟨_,rfl⟩
   ·intro ρ y W L hw hn hLi hLd hb hd;have E18:=hw 18 5 rfl;have h5:y 5=_:=hd 5 rfl
    have EC:∀v,ρ (.const v)=v:=fun v=>hn (.const v) trivial
    have EF:∀f,ρ (.func f) = .func (.func f) #[] #[]:=fun f=>hn (.func f) trivial
    refine eu _ _ (ah rfl) (aN rfl (EF _) func30 (by kernel_rfl) (by kernel_rfl) (by simp only[List.map_toArray,List.map_cons,List.map_nil,E18,h5,EC,EF];rfl)) ?_
    exact rC rfl (fun _=>rfl) 3 (by omega) hb fun x h1 h2 h3 _=>⟨x,rfl⟩
   ·intro ρ y W L hw hn hLi hLd hb hd
    refine bS ig (fun _ _ h=>h) hb ?_
    have E19:=hw 19 6 rfl
    have h6:=hd 6 rfl
    obtain⟨x,hx⟩:=h6
    refine aj _ (ah rfl) (lH rfl (E19.trans hx) (hn (.const _) trivial) (by simp[go_sem];rfl)) ⟨_,rfl⟩
   ·intro ρ y W L hw hn hLi hLd hb hd
    refine bS ig (fun _ _ h=>h) hb ?_
    have E26:=hw 26 13 rfl
    have h13:y 13=_:=hd 13 rfl
    obtain⟨⟨a0,c0,l0,m1,m2,m3⟩,_⟩:=hb
    refine aj (.slice S.H.ai S.H.fi.length S.H.ci) (ah rfl) (by simp[execOp,go_sem,E26,h13,m1.blk.cell,fD,MW.lst]) rfl
   ·intro ρ y W L hw hn hLi hLd hb hd;have E21:=hw 21 8 rfl;have h8:y 8=_:=hd 8 rfl;have E29:=hw 29 16 rfl;have h16:y 16=_:=hd 16 rfl
    have EF:∀f,ρ (.func f) = .func (.func f) #[] #[]:=fun f=>hn (.func f) trivial
    refine eu _ _ (ah rfl) (aN rfl (EF _) func30 (by kernel_rfl) (by kernel_rfl) (by simp only[List.map_toArray,List.map_cons,List.map_nil,E21,h8,E29,h16,EF];rfl)) ?_
    exact rC rfl (fun _=>rfl) _ (by omega) hb fun x h1 h2 h3 _=>⟨x,rfl,h1,by omega⟩
   ·intro ρ y W L hw hn hLi hLd hb hd
    refine bS ig (fun _ _ h=>h) hb ?_
    have E30:=hw 30 17 rfl
    have h17:=hd 17 rfl
    obtain⟨x,hx,k1,k2⟩:=h17
    have hw9:IntKind.i64.wrap (x-1)=x-1:=IntWalk.i64_in _ (by omega)
    refine aj (.int .i64 (x-1)) (ah rfl) (lH rfl (E30.trans hx) (hn (.const _) trivial) (by simp[go_sem,hw9])) ⟨_,rfl,by omega,by omega⟩
   ·intro ρ y W L hw hn hLi hLd hb hd
    refine bS ig (fun _ _ h=>h) hb ?_
    have E14:=hw 14 1 rfl
    have h1:=hd 1 rfl
    have E17:=hw 17 4 rfl
    have h4:=hd 4 rfl
    have E20:=hw 20 7 rfl
    have h7:=hd 7 rfl
    have E31:=hw 31 18 rfl
    have h18:=hd 18 rfl
    obtain⟨x1,hx1,k1,k2⟩:=h1
    obtain⟨x2,hx2⟩:=h4
    obtain⟨x3,hx3⟩:=h7
    obtain⟨x4,hx4,k3,k4⟩:=h18
    refine aj (.agg (kT ⟨x1,0,x2,x3,false,x4,0⟩)) (ah rfl) (by simp[execOp,go_sem,E14,E17,E20,E31,hx1,hx2,hx3,hx4,kT]) ⟨x1,x2,x3,x4,rfl,k1,k2,k3,k4⟩
   ·intro ρ y W L hw hn hLi hLd hb hd
    refine bO (.pointer (some ⟨W.heap.size,0,none⟩)) (ah rfl) ?_ (Kj hm hb) trivial
    simp[execOp,go_sem,kT]
   intro y W2 hbW2 hRW2
   have hy1:((aR fun v => ∃x:Int,v = .int .i64 x∧0≤x∧x<12)).r (y 1) W2:=hRW2 1 (by decide)
   have hy3:((aR fun v => ∃x:Int,v = .int .i64 x)).r (y 3) W2:=hRW2 3 (by decide)
   have hy4:((aR fun v => ∃u,v = .bool u)).r (y 4) W2:=hRW2 4 (by decide)
   have hy6:((aR fun v => ∃x:Int,v = .int .i64 x)).r (y 6) W2:=hRW2 6 (by decide)
   have hy7:((aR fun v => ∃u,v = .bool u)).r (y 7) W2:=hRW2 7 (by decide)
   have hy17:((aR fun v => ∃x:Int,v = .int .i64 x∧0≤x∧x<(S.H.fi.length:Int)+1)).r (y 17) W2:=hRW2 17 (by decide)
   have hy18:((aR fun v => ∃x:Int,v = .int .i64 x∧-1≤x∧x<S.H.fi.length)).r (y 18) W2:=hRW2 18 (by decide)
   have hy19:((aR fun v => ∃fr rd wr fi,v = .agg (kT ⟨fr,0,rd,wr,false,fi,0⟩)∧0≤fr∧fr<12∧-1≤fi∧fi<S.H.fi.length)).r (y 19) W2:=hRW2 19 (by decide)
   have hy20:((aR fun _=>True)).r (y 20) W2:=hRW2 20 (by decide)
   clear hRW2
   obtain⟨⟨a2,c2,l2,h2,s2,_⟩,hbox⟩:=hbW2
   obtain⟨gx,hgx,axz,hnx,hxw2⟩:=hbox rfl
   obtain⟨fr,rd,wr2,fi,hv,hb1,hb2,hb3,hb4⟩:=hy19
   rw[hv,hgx]
   clear hv hgx hbox
   rw[kR] at h2 s2
   have hown2:=s2.ownN hown hnu.out
   have hnu2:Hid (∀x,(Value.slice a A.length c).ownBlock=some x→¬jO b S x):=hnu
   have hna:=Lib.hid (hm.newA hxw2)
   have hux:Hid (∀x,(Value.slice a A.length c).ownBlock=some x→some gx≠some x):=Lib.hid fun x hx e=>by
    have:=AR hown x hx
    cases e
    omega
   have hxw:=Lib.hid (Nat.le_trans hs.size hxw2)
   have hxB:B≤gx:=Nat.le_trans hm.bs hxw2
   have hnx:=Lib.hid hnx
   have s2:=hs.trans s2
   clear hm hs hown hxw2
   go_wp2_with (refine ax rfl _ _ _ rfl gx (kT ⟨fr,0,rd,wr2,false,fi,0⟩) rfl rfl _ _ axz rfl area_size (Ob _) ?_)
   intro w3 ax3 hg3
   have h3:=h2.locA axz hnx.out hna.out hxB hg3
   have s3:=s2.loc hg3 hxw.out
   have hown3:=hown2.grown hg3 hux.out
   clear h2 s2 hown2 hg3 axz
   have hwf:IntKind.i64.wrap (fr+1)=fr+1:=IntWalk.i64_in _ (by omega)
   go_upto_region 4 with (fail)
   refine dW 7 [_,.v (.int .i64 fr),_,_,.r 4 ((aR fun v => ∃x:Int,v = .int .i64 x∧0≤x∧x<4)),.r 5 ((aR fun v => ∃x:Int,v = .int .i64 x∧fr<x∧x≤fr+4)),_] (Fv (S.lst a2 c2 l2) B b w3 [(gx,kT ⟨fr,0,rd,wr2,false,fi,0⟩,99)]) aC (fun _=>⟨a2,c2,l2,h3,MS.refl _ _ _,by simpa using ⟨ax3,hnx.out⟩⟩) (Qf aC gx 0 rfl rfl (ae ?_ (Qb aC (.int .i64 (fr+1)) (by simp[go_sem,hwf]) rfl rfl rfl rfl rfl (Qk aC rfl (ae ?_ (ae ?_ (Qf aC gx 1 rfl rfl (aB)))))))) (fun _=>rfl) rfl ?_
   ·intro ρ y W L hw hn hLi hLd hb hd
    refine bS aC (fun _ _ h=>h) hb ?_
    have E33:=hw 33 0 rfl
    have h0:y 0=_:=hd 0 rfl
    obtain⟨a0,c0,l0,m1,m2,m3⟩:=hb
    have m3:=(m3 _ (List.mem_singleton.2 rfl)).1
    refine aj (.int .i64 fr) (ah rfl) (by simp[execOp,go_sem,E33,h0,m3.cell,kT]) rfl
   ·intro ρ y W L hw hn hLi hLd hb hd;have E36:=hw 36 3 rfl;have h3:y 3=_:=hd 3 rfl
    have EC:∀v,ρ (.const v)=v:=fun v=>hn (.const v) trivial
    have EF:∀f,ρ (.func f) = .func (.func f) #[] #[]:=fun f=>hn (.func f) trivial
    refine eu _ _ (ah rfl) (aN rfl (EF _) func30 (by kernel_rfl) (by kernel_rfl) (by simp only[List.map_toArray,List.map_cons,List.map_nil,E36,h3,EC,EF];rfl)) ?_
    exact tO 4 (by omega) hb fun x h1 h2 h3 _=>⟨x,rfl,h1,by omega⟩
   ·intro ρ y W L hw hn hLi hLd hb hd
    refine bS aC (fun _ _ h=>h) hb ?_
    have E35:=hw 35 2 rfl
    have h2:y 2=_:=hd 2 rfl
    have E37:=hw 37 4 rfl
    have h4:=hd 4 rfl
    obtain⟨x,hx,k1,k2⟩:=h4
    have hw9:IntKind.i64.wrap (fr+1+x)=fr+1+x:=IntWalk.i64_in _ (by omega)
    refine aj (.int .i64 (fr+1+x)) (ah rfl) (lH rfl (E35.trans h2) (E37.trans hx) (by simp[go_sem,hw9])) ⟨_,rfl,by omega,by omega⟩
   intro y W4 hbW4 hRW4
   have hy4:((aR fun v => ∃x:Int,v = .int .i64 x∧0≤x∧x<4)).r (y 4) W4:=hRW4 4 (by decide)
   have hy5:((aR fun v => ∃x:Int,v = .int .i64 x∧fr<x∧x≤fr+4)).r (y 5) W4:=hRW4 5 (by decide)
   clear hRW4
   obtain⟨a4,c4,l4,h4,s4,hks⟩:=hbW4
   have ax4:=(hks _ (List.mem_singleton.2 rfl)).1
   rw[kR] at h4 s4
   have hown4:=s4.ownN hown3 hnu2.out
   have s4:=s3.trans s4
   obtain⟨en,hv,he1,he2⟩:=hy5
   rw[hv]
   clear hv hks h3 s3 hown3 ax3 hwf
   go_wp2_with (refine az rfl _ _ _ rfl gx 1 _ [.int .i64 en] rfl rfl rfl _ _ ax4 (by show 1+1≤7;omega) (by kernel_rfl) (fun u hu=>by cases List.mem_singleton.1 hu;rfl) ?_)
   intro w5 ax5 hg5
   rw[show bq (kT ⟨fr,0,rd,wr2,false,fi,0⟩) 1 [.int .i64 en]=kT ⟨fr,en,rd,wr2,false,fi,0⟩ from rfl] at ax5
   have h5:=h4.locA ax4 hnx.out hna.out hxB hg5
   have s5:=s4.loc hg5 hxw.out
   have hown5:=hown4.grown hg5 hux.out
   clear h4 s4 hown4 ax4 hg5
   have hcx:=ax5.cell
   unfold kT at hcx
   go_upto_if 42 with (fail)
   go_cut [2] (fun s2 wx=>s2 = .slice a A.length c∧∃(X:Ar) (a:Option Addr) (cl:Nat) (l:List UInt8),aD wx gx (kT X) 99∧dz wx B b (S.lst a cl l)∧MS w b S wx (S.lst a cl l)∧Own wx B 99 7 s2 A.length (A.flatMap jU)∧Hid (X.fi<S.H.fi.length))
   case first=>
    by_cases hfi0:0≤fi
    ·go_wp2_with fail
     refine (dL _ 2 B b _ h5 (by omega)).mono ?_
     rintro r w6 ⟨x6,a6,c6,l6,rfl,h6,s6,_,_⟩
     rw[kR] at h6 s6
     have ax6:=s6.blkN ax5 hnx.out
     have own6:=s6.ownN hown5 hnu2.out
     have s6:=s5.trans s6
     clear h5 s5 hown5 hcx ax5
     go_wp2_with fail
     refine (dL _ 4 B b _ h6 (by omega)).mono ?_
     rintro r w7 ⟨x7,a7,c7,l7,rfl,h7,s7,_,_⟩
     rw[kR] at h7 s7
     have ax7:=s7.blkN ax6 hnx.out
     have own7:=s7.ownN own6 hnu2.out
     have s7:=s6.trans s7
     clear h6 s6 own6 ax6
     go_wp2_with (refine az rfl _ _ _ rfl gx 4 _ [.bool (x6==1)] rfl rfl rfl _ _ ax7 (by show 4+1≤7;omega) (by kernel_rfl) (fun u hu=>by cases List.mem_singleton.1 hu;rfl) ?_)
     intro w8 ax8 hg8
     rw[show bq (kT ⟨fr,en,rd,wr2,false,fi,0⟩) 4 [.bool (x6==1)]=kT ⟨fr,en,rd,wr2,x6==1,fi,0⟩ from rfl] at ax8
     have h8:=h7.locA ax7 hnx.out hna.out hxB hg8
     have s8:=s7.loc hg8 hxw.out
     have own8:=own7.grown hg8 hux.out
     clear h7 s7 own7 ax7 hg8
     go_wp2_with (refine az rfl _ _ _ rfl gx 6 _ [.int .i64 x7] rfl rfl rfl _ _ ax8 (by show 6+1≤7;omega) (by kernel_rfl) (fun u hu=>by cases List.mem_singleton.1 hu;rfl) ?_)
     intro w9 ax9 hg9
     rw[show bq (kT ⟨fr,en,rd,wr2,x6==1,fi,0⟩) 6 [.int .i64 x7]=kT ⟨fr,en,rd,wr2,x6==1,fi,x7⟩ from rfl] at ax9
     have h9:=h8.locA ax8 hnx.out hna.out hxB hg9
     have s9:=s8.loc hg9 hxw.out
     have own9:=own8.grown hg9 hux.out
     clear h8 s8 own8 ax8 hg9
     go_wp2
     go_meet
     case rel=>exact⟨rfl,_,a7,c7,l7,ax9,h9,s9,own9,Lib.hid hb4⟩
    ·go_wp2
     go_meet
     case rel=>exact⟨rfl,_,a4,c4,l4,ax5,h5,s5,hown5,Lib.hid hb4⟩
   case rest=>
    obtain⟨rfl,X,a6,c6,l6,ax6,h6,s6,own6,hXf⟩:=hcut
    clear h5 s5 hown5 ax5 hcx
    go_wp2_with (refine ay _ _ rfl gx 0 rfl rfl _ ax6.rd _ underlying99 rfl area_size ?_)
    refine (MB A X a c _ (have h9:=oq own6;⟨h9.le,h9.mx,h9.nl,h9.rd⟩)).mono ?_
    rintro r w7 ⟨v7,rfl,own7,hb7⟩
    obtain⟨a7,c7,rfl,_⟩:=own7.rd
    have own7:=own7.mono h6.bs
    have h7:=h6.below hb7
    have s7:=s6.below hb7
    have own6:=own6.below hb7
    clear h6 s6 ax6 hb7 hnu hnu2 hux hnx hna hxw hxB
    by_cases hme:ve A X=0
    ·have hmr:=EQ hme
     have hnew:Hid ((bF (sN A X)).1=0∧(∀n g,onA (sN A X) n=some g→g.fi<S.H.fi.length)∧(k+1=0→sN A X=[]∧l6=l1)):=Lib.hid ⟨iO.2 ⟨hmr.1,hmr.2.1⟩,fun n g hg=>by
      rw[hmr.2.2] at hg
      split at hg
      ·cases hg;exact hXf.out
      ·exact hA.out.2.1 n g hg,fun e=>by omega⟩
     clear hmr
     rw[hme]
     go_wp2
     go_roundw
     case rel=>exact⟨k+1,sN A X,a7,c7,a6,c6,l6,by omega,by go_num,rfl,own7,h7,s7,hnew⟩
     case measure=>simp[intOf];omega
    ·have hnew:Hid ((bF A).1=0∧(∀n g,onA A n=some g→g.fi<S.H.fi.length)∧(k+1=0→A=[]∧l6=l1)):=Lib.hid ⟨hA.out.1,hA.out.2.1,fun e=>by omega⟩
     go_wp2
     go_roundw
     case rel=>exact⟨k+1,A,a,c,a6,c6,l6,by omega,by go_num,rfl,own6,h7,s7,hnew⟩
     case measure=>simp[intOf];omega
  ·have hki:¬(k:Int)<(N:Int):=by omega
   obtain rfl:k=N:=by omega
   have hAl:A.length≤16:=(iO.1 hA.out.1).1
   have hc:=hm.blk.cell
   unfold fD at hc
   dsimp only[MW.lst] at hc
   have hownP:=hm.ma.sp
   dsimp only[MW.lst] at hownP
   go_wp2_with (at_builtin;go_must (refine qF rfl _ _ 39 rfl B 55 _ 10 224 underlying39 space_info rfl (by decide) _ S.H.sp.length (S.H.sp.flatMap nZ) rfl (hownP.alloc _) (some ⟨wr.heap.size,0,none⟩) 1 1 (nZ ⟨true,a,c,A,nTs,zTb⟩) rfl (fun h=>(by cases h)) (Nat.le_refl _) rfl (dA.new _ (tu ⟨true,a,c,A,nTs,zTb⟩) _) (bv (by simp[tu,nTs,Value.oneCell'])) (by unfold maxLen;omega) (by omega) (bQ hm.bs _) ?_))
   intro v2 w2 own2 hg2 hsn2
   have hal:=(Below.refl wr.heap.size wr).alloc (Nat.le_refl _) (.cells (tu (⟨true,a,c,A,nTs,zTb⟩:PS)) 55)
   have hm1:=hm.below hal
   have hs1:=hs.below hal
   have hown1:=hown.below hal
   have hownP1:Own (wr.alloc (.cells (tu (⟨true,a,c,A,nTs,zTb⟩:PS)) 55)) B 55 10 (.slice S.H.ap S.H.sp.length S.H.cp) S.H.sp.length (S.H.sp.flatMap nZ):=hm1.ma.sp
   have hown2:=fU hownP1 hg2 hown1 (by decide)
   have hbk2:=tY hownP1 hg2 hm1.blk (by decide)
   have hps2:∀p∈S.H.sp++[(⟨true,a,c,A,nTs,zTb⟩:PS)],Own w2 B 99 7 (.slice p.aa p.ar.length p.ac) p.ar.length (p.ar.flatMap jU)∧mD w2 B (mo p.ts) p.tb:=fun p hp=>by
    rcases List.mem_append.1 hp with hp|hp
    ·exact⟨fU hownP1 hg2 (hm1.ma.ps p hp).1 (by decide),wX hownP1 hg2 (hm1.ma.ps p hp).2⟩
    ·rw[List.mem_singleton.1 hp]
     exact⟨hown2,ww _ _⟩
   obtain⟨a2,c2,rfl,_⟩:=own2.rd
   have hlen2:(S.H.sp++[(⟨true,a,c,A,nTs,zTb⟩:PS)]).length=S.H.sp.length+1:=by simp
   have own2' : Own w2 B 55 10 (.slice a2 (S.H.sp++[(⟨true,a,c,A,nTs,zTb⟩:PS)]).length c2) (S.H.sp++[(⟨true,a,c,A,nTs,zTb⟩:PS)]).length ((S.H.sp++[(⟨true,a,c,A,nTs,zTb⟩:PS)]).flatMap nZ):=by
    rw[hlen2,List.flatMap_append]
    simpa using own2
   clear hc hm hs hown hown1 hownP own2 hnu
   go_wp2_with (refine az rfl _ _ _ rfl b 11 _ [.slice a2 (S.H.sp.length+1) c2] rfl rfl rfl _ _ hbk2 (by show 11+1≤13;omega) (by kernel_rfl) (fun u hu=>by cases List.mem_singleton.1 hu;rfl) ?_)
   intro w3 hb3 hg3
   have h3:dz w3 B b { S.lst al cl ll with H:={ S.H with ap:=a2,cp:=c2,sp:=S.H.sp++[(⟨true,a,c,A,nTs,zTb⟩:PS)] } }:=hm1.appP hg2 own2' hps2 (by rw[hlen2];exact hb3) hg3
   have s3:MS w b S w3 { S.lst al cl ll with H:={ S.H with ap:=a2,cp:=c2,sp:=S.H.sp++[(⟨true,a,c,A,nTs,zTb⟩:PS)] } }:=hs1.app hm1 hownP1 (by simp[eO,MW.lst]) hg2 hg3 hsn2 (fun x hx=>by
    rcases hx with hx|hx
    ·exact .inl (.inl hx)
    ·simp only[eO,MW.lst,List.mem_cons,List.not_mem_nil,or_false] at hx
     rcases hx with hx|hx|hx|hx|hx|hx|hx|hx|hx<;>first|exact .inr hx.symm|exact .inl (.inr (by simp[eO,MW.lst,hx])))
   have hT100:S.T.length≤100:=by
    have h9:=hd'.out.ok.len
    have h8:S.H.ma.sp.length=S.H.sp.length:=List.length_map _
    omega
   clear hm1 hs1 hownP1 hbk2 hps2 own2' hb3 hg3 hsn2 hg2 hal hown2
   have hc:=h3.blk.cell
   unfold fD at hc
   dsimp only[MW.lst] at hc
   have hownT:Own w3 B 90 192 (.slice S.ab S.T.length S.cb) S.T.length (S.T.flatMap tL):=h3.tt
   go_wp2_with (at_builtin;go_must (refine vX rfl _ _ rfl (by kernel_rfl) B (.slice S.ab S.T.length S.cb) S.T.length (S.T.flatMap tL) rfl hownT rfl hT100 h3.bs ?_))
   intro v4 w4 own4 hg4 hsn4
   have hal3:=(Below.refl w3.heap.size w3).alloc (Nat.le_refl _) (.cells (tL (List.replicate 64 zEn)).toArray 90)
   have h3a:=h3.below hal3
   have s3a:=s3.below hal3
   have hownTa:=hownT.below hal3
   have hbk4:aD w4 b (fD { S.lst al cl ll with H:={ S.H with ap:=a2,cp:=c2,sp:=S.H.sp++[(⟨true,a,c,A,nTs,zTb⟩:PS)] } }) 77:=by
    rcases mY hownTa hg4 with hb0|⟨g,cs,hk,_,hg'⟩
    ·exact h3a.blk.ext hb0
    ·exact aW h3a.blk hk (by decide) hg'
   obtain⟨a4,c4,rfl,_⟩:=own4.rd
   have hlen4:(S.T++[List.replicate 64 zEn]).length=S.T.length+1:=by simp
   have own4' : Own w4 B 90 192 (.slice a4 (S.T++[List.replicate 64 zEn]).length c4) (S.T++[List.replicate 64 zEn]).length ((S.T++[List.replicate 64 zEn]).flatMap tL):=by
    rw[hlen4,List.flatMap_append]
    simpa using own4
   clear hc h3 s3 hownT own4 hal3
   go_wp2_with (refine az rfl _ _ _ rfl b 12 _ [.slice a4 (S.T.length+1) c4] rfl rfl rfl _ _ hbk4 (by show 12+1≤13;omega) (by kernel_rfl) (fun u hu=>by cases List.mem_singleton.1 hu;rfl) ?_)
   intro w5 hb5 hg5
   have h5:dz w5 B b { S.lst al cl ll with H:={ S.H with ap:=a2,cp:=c2,sp:=S.H.sp++[(⟨true,a,c,A,nTs,zTb⟩:PS)] },ab:=a4,cb:=c4,T:=S.T++[List.replicate 64 zEn] }:=h3a.appT hg4 own4' (by rw[hlen4];exact hb5) hg5
   have s5:MS w b S w5 { S.lst al cl ll with H:={ S.H with ap:=a2,cp:=c2,sp:=S.H.sp++[(⟨true,a,c,A,nTs,zTb⟩:PS)] },ab:=a4,cb:=c4,T:=S.T++[List.replicate 64 zEn] }:=s3a.app h3a hownTa (by simp[eO,MW.lst]) hg4 hg5 hsn4 (fun x hx=>by
    rcases hx with hx|hx
    ·exact .inl (.inl hx)
    ·simp only[eO,MW.lst,List.mem_cons,List.not_mem_nil,or_false] at hx
     rcases hx with hx|hx|hx|hx|hx|hx|hx|hx|hx<;>first|exact .inr hx.symm|exact .inl (.inr (by simp[eO,MW.lst,hx])))
   clear h3a s3a hownTa hbk4 own4' hb5 hg5 hsn4 hg4
   have hma5:({ S.lst al cl ll with H:={ S.H with ap:=a2,cp:=c2,sp:=S.H.sp++[(⟨true,a,c,A,nTs,zTb⟩:PS)] },ab:=a4,cb:=c4,T:=S.T++[List.replicate 64 zEn] }:MW).H.ma = { S.H.ma with sp:=S.H.ma.sp++[⟨true,A,zTb⟩] }:=by simp[MH.ma,PS.sp]
   have hbd5:Bd ({ S.lst al cl ll with H:={ S.H with ap:=a2,cp:=c2,sp:=S.H.sp++[(⟨true,a,c,A,nTs,zTb⟩:PS)] },ab:=a4,cb:=c4,T:=S.T++[List.replicate 64 zEn] }:MW).H.ma ({ S.lst al cl ll with H:={ S.H with ap:=a2,cp:=c2,sp:=S.H.sp++[(⟨true,a,c,A,nTs,zTb⟩:PS)] },ab:=a4,cb:=c4,T:=S.T++[List.replicate 64 zEn] }:MW).T:=by
    rw[hma5]
    exact hd'.out.more (s:=⟨true,A,zTb⟩) (by show (S.H.sp.map PS.sp).length<4;rw[List.length_map];exact hl4) rfl hA.out.1
   have hmore:Hid (More S { S.lst al cl ll with H:={ S.H with ap:=a2,cp:=c2,sp:=S.H.sp++[(⟨true,a,c,A,nTs,zTb⟩:PS)] },ab:=a4,cb:=c4,T:=S.T++[List.replicate 64 zEn] }):=Lib.hid ⟨hbd5,fun p hp n g hg=>by
    rcases List.mem_append.1 hp with hp|hp
    ·exact hf'.out p hp n g hg
    ·rw[List.mem_singleton.1 hp] at hg
     exact hA.out.2.1 n g hg,rfl,rfl,rfl,by simp,rfl⟩
   have hTl:S.T.length=S.H.sp.length:=by
    have h9:=hd'.out.ok.len
    have h8:S.H.ma.sp.length=S.H.sp.length:=List.length_map _
    omega
   have hent5:Hid (∀j:Nat,(dJ ({ S.lst al cl ll with H:={ S.H with ap:=a2,cp:=c2,sp:=S.H.sp++[(⟨true,a,c,A,nTs,zTb⟩:PS)] },ab:=a4,cb:=c4,T:=S.T++[List.replicate 64 zEn] }:MW).T S.H.sp.length j).k=0):=Lib.hid fun j=>by
    unfold dJ dE
    rw[List.getD_eq_getElem?_getD (l:=S.T++_),List.getElem?_append_right (by omega),←hTl,Nat.sub_self]
    show ((List.replicate 64 zEn).getD j zEn).k=0
    rw[List.getD_eq_getElem?_getD,List.getElem?_replicate]
    split<;>rfl
   have hspn5:Hid (dR ({ S.lst al cl ll with H:={ S.H with ap:=a2,cp:=c2,sp:=S.H.sp++[(⟨true,a,c,A,nTs,zTb⟩:PS)] },ab:=a4,cb:=c4,T:=S.T++[List.replicate 64 zEn] }:MW).H.ma S.H.sp.length=⟨true,A,zTb⟩):=Lib.hid (by
    rw[hma5]
    unfold dR
    have h8:S.H.ma.sp.length=S.H.sp.length:=List.length_map _
    rw[List.getD_eq_getElem?_getD,List.getElem?_append_right (by omega),h8,Nat.sub_self];rfl)
   have hpar5:∀W,dz W B b { S.lst al cl ll with H:={ S.H with ap:=a2,cp:=c2,sp:=S.H.sp++[(⟨true,a,c,A,nTs,zTb⟩:PS)] },ab:=a4,cb:=c4,T:=S.T++[List.replicate 64 zEn] }→dA W a (A.flatMap jU):=fun W hW=>(oq (hW.ma.ps (⟨true,a,c,A,nTs,zTb⟩:PS) (List.mem_append_right _ (List.mem_singleton.2 rfl))).1).rd
   have hspl5:Hid (({ S.lst al cl ll with H:={ S.H with ap:=a2,cp:=c2,sp:=S.H.sp++[(⟨true,a,c,A,nTs,zTb⟩:PS)] },ab:=a4,cb:=c4,T:=S.T++[List.replicate 64 zEn] }:MW).H.sp.length=S.H.sp.length+1):=Lib.hid (by simp)
   have hq5:Hid (S.l=[]→A=[]∧({ S.lst al cl ll with H:={ S.H with ap:=a2,cp:=c2,sp:=S.H.sp++[(⟨true,a,c,A,nTs,zTb⟩:PS)] },ab:=a4,cb:=c4,T:=S.T++[List.replicate 64 zEn] }:MW).l=[]∧({ S.lst al cl ll with H:={ S.H with ap:=a2,cp:=c2,sp:=S.H.sp++[(⟨true,a,c,A,nTs,zTb⟩:PS)] },ab:=a4,cb:=c4,T:=S.T++[List.replicate 64 zEn] }:MW).H.ma = { S.H.ma with sp:=S.H.ma.sp++[⟨true,[],zTb⟩] }∧({ S.lst al cl ll with H:={ S.H with ap:=a2,cp:=c2,sp:=S.H.sp++[(⟨true,a,c,A,nTs,zTb⟩:PS)] },ab:=a4,cb:=c4,T:=S.T++[List.replicate 64 zEn] }:MW).T=S.T++[List.replicate 64 zEn]):=Lib.hid fun e=>by
    have h9:=hq1'.out e
    have hk0:k=0:=by omega
    have h8:=hA.out.2.2 hk0
    refine⟨h8.1,by show ll=[];rw[h8.2];exact h9.2,?_,rfl⟩
    rw[hma5,h8.1]
   have hrd5:=hpar5 _ h5
   have hspl:∀S9:MW,S9.H.sp=S.H.sp++[(⟨true,a,c,A,nTs,zTb⟩:PS)]→S9.H.sp.length=S.H.sp.length+1:=fun S9 e=>by rw[e];simp
   have hsp5:({ S.lst al cl ll with H:={ S.H with ap:=a2,cp:=c2,sp:=S.H.sp++[(⟨true,a,c,A,nTs,zTb⟩:PS)] },ab:=a4,cb:=c4,T:=S.T++[List.replicate 64 zEn] }:MW).H.sp=S.H.sp++[(⟨true,a,c,A,nTs,zTb⟩:PS)]:=rfl
   clear hma5 hpar5 hTl
   generalize ({ S.lst al cl ll with H:={ S.H with ap:=a2,cp:=c2,sp:=S.H.sp++[(⟨true,a,c,A,nTs,zTb⟩:PS)] },ab:=a4,cb:=c4,T:=S.T++[List.replicate 64 zEn] }:MW)=S5 at *
   have hlen5:=hspl S5 hsp5
   have hfi5:S5.H.fi=S.H.fi:=hmore.out.fi
   have hsr:srtF 0 A:=lN (iO.1 hA.out.1).2
   have hsr':=Lib.hid hsr
   have hc:=h5.blk.cell
   unfold fD at hc
   rw[hlen5] at hc
   have hwM:IntKind.i64.wrap (((S.H.sp.length+1:Nat):Int)-1)=(S.H.sp.length:Int):=by rw[IntWalk.i64_in _ (by omega)];omega
   have hbd5':=Lib.hid hbd5
   clear hbd5 hsr hspl hlen5 hfi5 hsp5 hT100 hlen4 hlen2
   go_wp2_with fail
   refine (oZ A a c _ hrd5 (by omega) (fun x hx=>(srtF_ok hsr'.out x hx).1)).mono ?_
   rintro r w6 ⟨rfl,hb6⟩
   have h6:=h5.below hb6
   have s6:=s5.below hb6
   have hspl5':=Lib.hid hspl5
   clear h5 s5 hc hrd5 hwM hb6
   go_upto_region 15 with (fail)
   go_loopw [92] (fun i wr => ∃(n:Nat) (Sn:MW),n≤64∧i = .int .i64 n∧dz wr B b Sn∧MS w b S wr Sn∧Hid (BO S5 Sn∧Bd Sn.H.ma Sn.T∧(∀j:Nat,n≤j→(dJ Sn.T S.H.sp.length j).k=0)∧(A=[]→Sn=S5))) (fun i _=>64-(intOf i).toNat)
   case atStart=>exact⟨0,S5,Nat.zero_le _,rfl,h6,s6,Lib.hid ⟨.refl _,hbd5'.out,fun j _=>hent5.out j,fun _=>rfl⟩⟩
   case round=>
    clear h6 s6
    obtain⟨n,Sn,hn,rfl,hm,hs,hN⟩:=hrel
    by_cases hn64:n<64
    ·have hni:(n:Int)<64:=by omega
     cases hfk:bN A n with
     | none=>
      have hix:=xh (bN A) n hn64 none hfk
      unfold wD oR oW oH oF oP at hix
      have hfk':=Lib.hid hfk
      clear hfk
      go_upto_region 17 with (fail)
      refine gB (fun W=>Code.wp _ _ _ _ W) fun W1 hb1 hx1 hs1 => ?_
      have hcx:=hx1.cell
      have hm1:=hm.below hb1
      have hs2:=hs.below hb1
      clear hs1 hb1 hm hs hix
      go_wp2
      go_roundw
      case rel=>exact⟨n+1,Sn,by omega,by go_num,hm1,hs2,Lib.hid ⟨hN.out.1,hN.out.2.1,fun j hj=>hN.out.2.2.1 j (by omega),hN.out.2.2.2⟩⟩
      case measure=>simp[intOf];omega
     | some g=>
      have hix:=xh (bN A) n hn64 (some g) hfk
      unfold wD oR oW oH oF oP at hix
      dsimp only[Option.isSome] at hix
      have hfk':=Lib.hid hfk
      clear hfk
      go_upto_region 17 with (fail)
      refine gB (fun W=>Code.wp _ _ _ _ W) fun W1 hb1 hx1 hs1 => ?_
      have hcx:=hx1.cell
      have hm1:=hm.below hb1
      have hs2:=hs.below hb1
      clear hs1 hb1 hm hs hix
      have hgA:onA A n=some g:=by rw[←oI hsr'.out];exact hfk'.out
      have hpi:=pg_in hsr'.out hgA
      have hgA':=Lib.hid hgA
      have hpi':=Lib.hid hpi
      have hspS:Hid (dR Sn.H.ma S.H.sp.length=⟨true,A,zTb⟩):=Lib.hid (by
       rw[←hspn5.out]
       show (Sn.H.sp.map PS.sp).getD _ zSp=(S5.H.sp.map PS.sp).getD _ zSp
       rw[hN.out.1.sp])
      clear hgA hpi
      go_wp2_with (refine ay _ _ rfl wr.heap.size 0 rfl rfl _ hx1.rd _ underlying109 rfl one_size ?_)
      refine (Ei Sn S.H.sp.length n g B b _ hm1 hN.out.2.1 (by rw[hN.out.1.sp,hspl5'.out.out];omega) hn64 (hN.out.2.2.1 n (Nat.le_refl _)) (by rw[hspS.out];exact hgA'.out) (by rw[hN.out.1.fi,hmore.out.fi];exact hA.out.2.1 _ _ hgA'.out) hpi'.out.1 (fun h=>by
       rcases Int.lt_or_le g.fi 0 with h9|h9
       ·have:=(hpi'.out.2.2.2.2.1 h9).1
        rw[h] at this;simp at this
       ·exact h9)).mono ?_
      rintro r w7 ⟨S7,rfl,h7,s7,k7,bd7,ent7⟩
      have hs7:=hs2.trans s7
      have hN7:Hid (BO S5 S7∧Bd S7.H.ma S7.T∧(∀j:Nat,n+1≤j→(dJ S7.T S.H.sp.length j).k=0)∧(A=[]→S7=S5)):=Lib.hid ⟨hN.out.1.trans k7,bd7,fun j hj=>by rw[ent7 _ _ (by omega)];exact hN.out.2.2.1 j (by omega),fun e=>by
       have h9:=hgA'.out
       rw[e] at h9;cases h9⟩
      clear hm1 hs2 s7 k7 bd7 ent7 hx1 hcx
      go_wp2
      go_roundw
      case rel=>exact⟨n+1,S7,by omega,by go_num,h7,hs7,hN7⟩
      case measure=>simp[intOf];omega
    ·have hni:¬(n:Int)<64:=by omega
     go_wp2
     refine bodyPost_ret (v:=.tuple #[]) (by simp[results,go_sem,results35]) rfl ?_
     have hK:=hN.out.1
     have hM:=hmore.out
     refine⟨Sn,rfl,hm,hs,⟨hN.out.2.1,fun p hp n g hg => ?_,hK.fi.trans hM.fi,hK.ct.trans hM.ct,hK.dk.trans hM.dk,by rw[hK.sp];exact hM.sp,hK.fl.trans hM.fs⟩,fun e => ?_⟩
     ·rw[hK.sp] at hp
      rw[hK.fi]
      exact hM.fm p hp n g hg
     ·have h9:=hq5.out e
      rw[hN.out.2.2.2 h9.1]
      exact h9.2
theorem dz.putD (h : dz w B b S) (hk : aD w g cs 79) (hgB : B ≤ g) (hga : oB S.H.db = some g) (hg : w.grownBy w' (some g)) {l : List Page} (hl : l.length = S.H.dk.blocks.length) (ho : Own w' B 79 8 (.slice S.H.db l.length S.H.cdb) l.length (l.flatMap wz)) :
    dz w' B b { S with H := { S.H with dk := ⟨l, S.H.dk.queue⟩ } } :=
  ⟨by
    have h1 := aW h.blk hk (by decide) hg
    have e : fD { S with H := { S.H with dk := ⟨l, S.H.dk.queue⟩ } } = fD S := by unfold fD; rw [show ({ S.H with dk := ⟨l, S.H.dk.queue⟩ } : MH).dk.blocks.length = S.H.dk.blocks.length from hl]
    rw [e]; exact h1, h.ge,
   ⟨ak h.ma.fr hk (by decide) hg, ak h.ma.sl hk (by decide) hg, ⟨h.ma.sw.b.grown hg (fun g' hg' e => by
      cases e
      rw [jv] at hg'
      exact h.n1 _ hg' hga), ak h.ma.sw.q hk (by decide) hg⟩, ⟨ho, ak h.ma.dk.q hk (by decide) hg⟩, h.ma.st.keep hk (by decide) (by decide) hg, ak h.ma.ca hk (by decide) hg, ak h.ma.sp hk (by decide) hg, fun p hp => ⟨ak (h.ma.ps p hp).1 hk (by decide) hg, (h.ma.ps p hp).2.keep hk (by decide) hg⟩, h.ma.c64⟩,
   ak h.tt hk (by decide) hg, h.rd.keep h.ra h.bs hg hgB, h.ra, h.n1, h.n2, h.n3⟩
theorem dz.appQ (h:dz w B b S) (hg:w.grownBy w1 (Value.slice S.H.dq S.H.dk.queue.length S.H.cdq).ownBlock) {l:List (Int × Page)} (ho:Own w1 B 86 9 (.slice a l.length c) l.length (l.flatMap tJ))
 (hb:aD w2 b (bq (fD S) 7 [.slice a l.length c]) 77) (hg2:w1.grownBy w2 (some b)) :
  dz w2 B b { S with H:={ S.H with dq:=a,cdq:=c,dk:=⟨S.H.dk.blocks,l⟩ } }:=by
 have hq0:Own w B 86 9 (.slice S.H.wq S.H.sw.queue.length S.H.cwq) S.H.sw.queue.length (S.H.sw.queue.flatMap tJ):=h.ma.sw.q
 have key:aD w1 b (fD S) 77∧Own w1 B 81 13 (.slice S.H.af S.H.m.fs.length S.H.cf) S.H.m.fs.length (S.H.m.fs.flatMap lZ)∧Own w1 B 3 1 (.slice S.H.asl S.H.sl.length S.H.csl) S.H.sl.length (S.H.sl.map eH) ∧
   fQ w1 B (.slice S.H.wb S.H.sw.blocks.length S.H.cwb) (.slice S.H.wq S.H.sw.queue.length S.H.cwq) S.H.sw∧Own w1 B 79 8 (.slice S.H.db S.H.dk.blocks.length S.H.cdb) S.H.dk.blocks.length (S.H.dk.blocks.flatMap wz)∧kD w1 B (.slice S.H.ai S.H.fi.length S.H.ci) S.H.fi ∧
   Own w1 B 106 3 (.slice S.H.ac S.H.ca.length S.H.cc) S.H.ca.length (S.H.ca.flatMap je)∧Own w1 B 55 10 (.slice S.H.ap S.H.sp.length S.H.cp) S.H.sp.length (S.H.sp.flatMap nZ) ∧
   (∀p∈S.H.sp,Own w1 B 99 7 (.slice p.aa p.ar.length p.ac) p.ar.length (p.ar.flatMap jU)∧mD w1 B (mo p.ts) p.tb)∧Own w1 B 90 192 (.slice S.ab S.T.length S.cb) S.T.length (S.T.flatMap tL)∧nR w1 S.al S.cl S.l.length (S.l.map wU):=by
  rcases mY h.ma.dk.q hg with hb0|⟨g,cs,hk,hga,hg'⟩
  ·have h1:=h.below hb0
   exact⟨h1.blk,h1.ma.fr,h1.ma.sl,h1.ma.sw,h1.ma.dk.b,h1.ma.st,h1.ma.ca,h1.ma.sp,h1.ma.ps,h1.tt,h1.rd⟩
  ·exact⟨aW h.blk hk (by decide) hg',ak h.ma.fr hk (by decide) hg',ak h.ma.sl hk (by decide) hg',⟨ak h.ma.sw.b hk (by decide) hg',hq0.grown hg' (fun g' he=>by rw[h.n3] at he;cases he)⟩,ak h.ma.dk.b hk (by decide) hg',h.ma.st.keep hk (by decide) (by decide) hg',ak h.ma.ca hk (by decide) hg',ak h.ma.sp hk (by decide) hg',fun p hp=>⟨ak (h.ma.ps p hp).1 hk (by decide) hg',(h.ma.ps p hp).2.keep hk (by decide) hg'⟩,ak h.tt hk (by decide) hg',h.rd.keep h.ra h.bs hg' (fT h.ma.dk.q hga).1⟩
 obtain⟨k0,k1,k2,k3,k4,k5,k6,k7,k8,k9,k10⟩:=key
 exact⟨hb,h.ge,⟨ak k1 k0 (by decide) hg2,ak k2 k0 (by decide) hg2,k3.keep k0 (by decide) (by decide) hg2,⟨ak k4 k0 (by decide) hg2,ak ho k0 (by decide) hg2⟩,k5.keep k0 (by decide) (by decide) hg2,ak k6 k0 (by decide) hg2,ak k7 k0 (by decide) hg2,fun p hp=>⟨ak (k8 p hp).1 k0 (by decide) hg2,(k8 p hp).2.keep k0 (by decide) hg2⟩,h.ma.c64⟩,
  ak k9 k0 (by decide) hg2,k10.keep h.ra (Nat.le_trans h.ge (Nat.le_of_lt k0.lt)) hg2 h.ge,h.ra,h.n1,h.n2,h.n3⟩
theorem dz.appFi (h:dz w B b S) {p:PF} (hp:Own w B 3 1 (jV p) p.l.length (p.l.map eH)) (hap:∀(i:Nat) q,S.H.fi[i]?=some q→Apart (jV q) (jV p)) (hasl:∀x,oB p.a=some x→oB S.H.asl≠some x)
 (hg:w.grownBy w1 (Value.slice S.H.ai S.H.fi.length S.H.ci).ownBlock) (ho:Own w1 B 67 2 (.slice a (S.H.fi++[p]).length c) (S.H.fi.length+1) (S.H.fi.flatMap lU++lU p))
 (hb:aD w2 b (bq (fD S) 8 [.slice a (S.H.fi++[p]).length c]) 77) (hg2:w1.grownBy w2 (some b)):dz w2 B b { S with H:={ S.H with ai:=a,ci:=c,fi:=S.H.fi++[p] } }:=by
 have hF:kD w1 B (.slice a (S.H.fi++[p]).length c) (S.H.fi++[p]):=h.ma.st.app ho hp hg hap
 have key:aD w1 b (fD S) 77∧Own w1 B 81 13 (.slice S.H.af S.H.m.fs.length S.H.cf) S.H.m.fs.length (S.H.m.fs.flatMap lZ)∧Own w1 B 3 1 (.slice S.H.asl S.H.sl.length S.H.csl) S.H.sl.length (S.H.sl.map eH) ∧
   fQ w1 B (.slice S.H.wb S.H.sw.blocks.length S.H.cwb) (.slice S.H.wq S.H.sw.queue.length S.H.cwq) S.H.sw∧fQ w1 B (.slice S.H.db S.H.dk.blocks.length S.H.cdb) (.slice S.H.dq S.H.dk.queue.length S.H.cdq) S.H.dk ∧
   Own w1 B 106 3 (.slice S.H.ac S.H.ca.length S.H.cc) S.H.ca.length (S.H.ca.flatMap je)∧Own w1 B 55 10 (.slice S.H.ap S.H.sp.length S.H.cp) S.H.sp.length (S.H.sp.flatMap nZ) ∧
   (∀p∈S.H.sp,Own w1 B 99 7 (.slice p.aa p.ar.length p.ac) p.ar.length (p.ar.flatMap jU)∧mD w1 B (mo p.ts) p.tb)∧Own w1 B 90 192 (.slice S.ab S.T.length S.cb) S.T.length (S.T.flatMap tL)∧nR w1 S.al S.cl S.l.length (S.l.map wU):=by
  rcases mY h.ma.st.own hg with hb0|⟨g,cs,hk,hga,hg'⟩
  ·have h1:=h.below hb0
   exact⟨h1.blk,h1.ma.fr,h1.ma.sl,h1.ma.sw,h1.ma.dk,h1.ma.ca,h1.ma.sp,h1.ma.ps,h1.tt,h1.rd⟩
  ·exact⟨aW h.blk hk (by decide) hg',ak h.ma.fr hk (by decide) hg',ak h.ma.sl hk (by decide) hg',h.ma.sw.keep hk (by decide) (by decide) hg',h.ma.dk.keep hk (by decide) (by decide) hg',ak h.ma.ca hk (by decide) hg',ak h.ma.sp hk (by decide) hg',fun p hp=>⟨ak (h.ma.ps p hp).1 hk (by decide) hg',(h.ma.ps p hp).2.keep hk (by decide) hg'⟩,ak h.tt hk (by decide) hg',h.rd.keep h.ra h.bs hg' (fT h.ma.st.own hga).1⟩
 obtain⟨k0,k1,k2,k3,k4,k6,k7,k8,k9,k10⟩:=key
 exact⟨hb,h.ge,⟨ak k1 k0 (by decide) hg2,ak k2 k0 (by decide) hg2,k3.keep k0 (by decide) (by decide) hg2,k4.keep k0 (by decide) (by decide) hg2,hF.keep k0 (by decide) (by decide) hg2,ak k6 k0 (by decide) hg2,ak k7 k0 (by decide) hg2,fun p hp=>⟨ak (k8 p hp).1 k0 (by decide) hg2,(k8 p hp).2.keep k0 (by decide) hg2⟩,h.ma.c64⟩,
  ak k9 k0 (by decide) hg2,k10.keep h.ra (Nat.le_trans h.ge (Nat.le_of_lt k0.lt)) hg2 h.ge,h.ra,h.n1,fun q hq x hx=>by
   rcases List.mem_append.1 hq with hq|hq
   ·exact h.n2 q hq x hx
   ·rw[List.mem_singleton.1 hq] at hx
    exact hasl x hx,h.n3⟩
theorem dz.putP (h : dz w B b S) (hk : aD w g cs 55) (hgB : B ≤ g) (hg : w.grownBy w' (some g)) (hl : sp.length = S.H.sp.length) (ho : Own w' B 55 10 (.slice S.H.ap sp.length S.H.cp) sp.length (sp.flatMap nZ))
 (hps : ∀ p ∈ sp, Own w B 99 7 (.slice p.aa p.ar.length p.ac) p.ar.length (p.ar.flatMap jU) ∧ mD w B (mo p.ts) p.tb) : dz w' B b { S with H := { S.H with sp := sp } } :=
  ⟨by
    have h1 := aW h.blk hk (by decide) hg
    have e : fD { S with H := { S.H with sp := sp } } = fD S := by unfold fD; rw [show ({ S.H with sp := sp } : MH).sp.length = S.H.sp.length from hl]
    rw [e]; exact h1, h.ge,
   ⟨ak h.ma.fr hk (by decide) hg, ak h.ma.sl hk (by decide) hg, h.ma.sw.keep hk (by decide) (by decide) hg, h.ma.dk.keep hk (by decide) (by decide) hg, h.ma.st.keep hk (by decide) (by decide) hg, ak h.ma.ca hk (by decide) hg, ho, fun p hp => ⟨ak (hps p hp).1 hk (by decide) hg, (hps p hp).2.keep hk (by decide) hg⟩, h.ma.c64⟩,
   ak h.tt hk (by decide) hg, h.rd.keep h.ra h.bs hg hgB, h.ra, h.n1, h.n2, h.n3⟩
theorem dz.setH (h : dz w B b S) {x : Int} (hb : aD w' b (bq (fD S) 2 [.int .i64 x]) 77) (hg : w.grownBy w' (some b)) : dz w' B b { S with H := { S.H with m := ⟨S.H.m.fs, x⟩ } } :=
  ⟨hb, h.ge,
   have k := h.ma.keep h.blk (by decide) hg
   ⟨k.fr, k.sl, k.sw, k.dk, k.st, k.ca, k.sp, k.ps, k.c64⟩, ak h.tt h.blk (by decide) hg, h.rd.keep h.ra h.bs hg h.ge, h.ra, h.n1, h.n2, h.n3⟩
end Go.Proofs.YtjkkoeijlhfneaaGreat
namespace Pw
open Go Go.RowKit
variable {P:Program} {Q:Exit → Act → World → Prop} {a0:Act} {id:Nat} {ops:Array Oper} {rest:List Oper} {t0:Array Value} {w0:World}
theorem Mt (m:Nat) (l:List jJ) (J:(Nat→Bool)→(Nat→Value)→World→Prop) (hst:∀L y w w',Below w.heap.size w w'→J L y w→J L y w') (hJ0:∀y,J (fun _=>false) y w0) (hfix:Fixed l) (hm:P.follows .mixedOrders=true) (ops' : Array Oper) (hs:bH ops=ops') (hok:gZ ops' = true) (ht:fK ops' m=true) (hmn:m≤ops'.size)
 (n:Nat) (hn:a0.tmps.size=n) (hsz:iH ops' n=true)
 (hstep:aP (jH P ops' a0 J l) 0 (ops'.toList.take m))
 (hend:∀y w,J (fun i=>decide (i<m)) y w→(∀i,i<m→rl l i (y i) w)→wpList P ops' Q (ops'.toList.drop m) { a0 with tmps:=lay (fun i=>decide (i<m)) y ops'.toList 0 a0.tmps } w) :
  (Code.region id ops true).wp P Q a0 w0:=by
 refine wp_region_any hm (qZ _ _ _ _ ?_)
 have h9:=zF m l J hst hJ0 hfix hok ht hmn n hn hsz hstep hend
 subst hs
 rw[qa] at h9
 exact h9
theorem lu {df:List Deferred} (m:Nat) (l:List RV) (J:(Nat→Bool)→(Nat→Value)→World→Prop) (hst:∀L y w w',Below w.heap.size w w'→J L y w→J L y w') (hJ0:∀y,J (fun _=>false) y w0)
 (hstep:aP (jH P (bH ops) ⟨t0,df⟩ J (rvs l)) 0 ((bH ops).toList.take m)) {tm:(Nat→Value)→List Value} (hf:∀y,sG y l (bH ops).toList t0.toList=some (tm y)) (hd:wr ((bH ops).toList.drop m)=some rest)
 (hend:∀y w,J (fun i=>decide (i<m)) y w→(∀i,i<m→rl (rvs l) i (y i) w)→wpList P (bH ops) Q rest ⟨(tm y).toArray,df⟩ w)
 (hfix:Fixed (rvs l):=by repeat (first | exact fix_nil | refine Cv (fun _ _ _ h=>h) ?_))
 (hm:P.follows .mixedOrders=true:=by kernel_rfl) (hok:gZ (bH ops)=true:=by kernel_rfl) (ht:fK (bH ops) m=true:=by kernel_rfl) (hmn:m≤(bH ops).size:=by decide) (hll:l.length=m:=by rfl) (hix:idxOk l 0=true:=by kernel_rfl)
 (hsz:iH (bH ops) t0.size=true:=by kernel_rfl):(Code.region id ops true).wp P Q ⟨t0,df⟩ w0:=by
 refine Mt m (rvs l) J hst hJ0 hfix hm (bH ops) rfl hok ht hmn _ rfl hsz hstep fun y w hb hR => ?_
 have h:=hend y w hb hR
 rw[Gz hd]
 show wpList P (bH ops) Q rest ⟨lay (fun i=>decide (i<m)) y (bH ops).toList 0 t0,df⟩ w
 rw[JG hix hll hmn hR (hf y)]
 exact h
end Pw