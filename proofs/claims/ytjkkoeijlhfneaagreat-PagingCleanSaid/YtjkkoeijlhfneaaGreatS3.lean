import Derived.Test.YtjkkoeijlhfneaaGreatS2
import Derived.BigQuiet
import Derived.BigRegion
import Derived.Deep.DeepCutAuto
import Derived.Deep.Light
import Derived.Deep.LoopGhost
import Derived.Deep.QuietTactic
import Derived.IntWalk
import Derived.Lib.LazyBuf
import Derived.Test.YtjkkoeijlhfneaaGreatRows
import Derived.Lib.Hide
import Derived.Deep.RegionLaw
import Derived.Laws.Externs
import Derived.Laws.IdiomCopy
import Derived.Lib.AppendZerosOnto
import Derived.Lib.Overlaps
import Derived.Lib.SliceRun
set_option linter.unusedSimpArgs false
set_option linter.unusedVariables false
set_option maxHeartbeats 4000000
set_option maxRecDepth 100000
namespace Go.Proofs.YtjkkoeijlhfneaaGreat
open _root_.Go.Proofs.Tryz
open Go.RowKit Go.Maps Pw
variable {B B' B0 b c c' f g i j k n off p q sz:Nat} {P:Program} {T e t:TypeId} {a a':Option Addr} {cs cur:Array Value} {d:nT} {kd:Int} {l:List Int} {m m':Ma} {o:Oper} {s s':St} {v v':Value} {vs xs:List Value} {w w' w0 w1 w2:World} {x:Operand} {ρ:Operand → Value}
structure PF where
 n:Int
 a:Option Addr
 l:List Int
 c:Nat
def PF.fi (p:PF):Fi:=⟨p.n,p.l⟩
def kX (p:PF):Array Value:=#[.int .i64 p.n,.slice p.a p.l.length p.c]
def lU (p:PF):List Value:=(kX p).toList
theorem iC (p:PF):(lU p).length=2:=rfl
theorem lC (p:PF):(kX p).all (·.oneCell')=true:=by simp[kX,Value.oneCell']
structure PF.good (w:World) (p:PF):Prop where
 le:p.l.length≤p.c
 mx:p.c≤maxLen
 nl:p.a=none→p.c=0
 rd:dA w p.a (p.l.map eH)
theorem PF.good.below {p:PF} (h:p.good w) (hb:Below w.heap.size w w'):p.good w':=⟨h.le,h.mx,h.nl,h.rd.below hb⟩
structure EU (w:World) (a:Option Addr) (c:Nat) (ps:List PF):Prop where
 le:ps.length≤c
 mx:c≤maxLen
 nl:a=none→c=0
 rd:dA w a (ps.flatMap lU)
 good:∀p∈ps,p.good w
theorem EU.below {ps:List PF} (h:EU w a c ps) (hb:Below w.heap.size w w'):EU w' a c ps:=
 ⟨h.le,h.mx,h.nl,h.rd.below hb,fun p hp=>(h.good p hp).below hb⟩
theorem zP {ps:List PF} (h:dA w a (ps.flatMap lU)) (k:Nat) (hk:k<ps.length):∃b off p,a=some ⟨b,off,none⟩∧ps[k]?=some p∧w.cell? ⟨b,off+k*2,none⟩=some (.int .i64 p.n)∧w.cell? ⟨b,off+k*2+1,none⟩=some (.slice p.a p.l.length p.c):=by
 obtain⟨b,off,ha,hc⟩:=h.elem iC (by decide) k hk
 exact⟨b,off,ps[k],ha,List.getElem?_eq_getElem hk,hc 0 _ rfl,hc 1 _ rfl⟩
def bY (ps:List PF) (k:Int):St:=⟨ps.map PF.fi,k⟩
def JU (a:Option Addr) (n c:Nat) (k:Int):Array Value:=#[.slice a n c,.int .i64 k]
theorem file_size:(Tryz.prog.info? 67).map (·.size)=some 2:=by kernel_rfl
theorem store_size:(Tryz.prog.info? 37).map (·.size)=some 2:=by kernel_rfl
theorem yc (c:Int) (seen:List Int) (p:PF) (r:List Fi):nU c seen (p.fi::r)=if p.n<0∨96<p.n then 3 else if (p.l.length:Int)≠dO p.n then 2 else if iX c seen p.l≠0 then iX c seen p.l else nU c (seen++p.l) r:=rfl
theorem yu (ps:List PF) (k:Int) (a:Option Addr) (c:Nat) (w:World) (h:EU w a c ps) (hk64 : -9223372036854775808≤k∧k≤9223372036854775807) :
  Calls Tryz.prog 109 #[.agg (JU a ps.length c k)] w fun r w'=>r = .returned (.int .i64 (aS (bY ps k)))∧Below w.heap.size w w':=by
 have hmm:=@run_makeMap Tryz.prog
 have hlc:=Nat.le_trans h.le h.mx
 unfold maxLen at hlc
 unfold JU
 go_enter func109,ntmps109
 go_upto_region 1 with (fail)
 refine gB (fun W=>Code.wp _ _ _ _ W) fun W0 hb0 hx0 hs0 => ?_
 clear hs0
 by_cases h4:5<ps.length∨k<0∨80<k
 ·have hfin:Hid (aS (bY ps k)=4):=Lib.hid (by unfold aS bY;rw[if_pos (by simpa using h4)])
  have hcx:=hx0.cell
  have h4' : 5<ps.length∨(¬5<ps.length∧k<0)∨(¬5<ps.length∧¬k<0∧80<k):=by omega
  clear h4
  rcases h4' with g|⟨g,g2⟩|⟨g,g2,g3⟩
  all_goals
   go_wp2
   go_ret
   exact⟨aV hfin.out.symm,hb0⟩
 ·have hres:Hid (aS (bY ps k)=nU k (((ps.take 0).map PF.fi).flatMap Fi.b) ((ps.drop 0).map PF.fi)):=Lib.hid (by unfold aS bY;rw[if_neg (by simpa using h4)];rfl)
  have g1:¬5<ps.length:=by omega
  have g2:¬k<0:=by omega
  have g3:¬80<k:=by omega
  have hcx:=hx0.cell
  clear h4
  go_upto_region 4 with (fail)
  clear hcx hmm
  refine Qj (fun W=>Code.wp _ _ _ _ W) fun W1 hb1 hM1 => ?_
  have hbel1:=ag hb0 hb1
  have hx1:=hx0.ext hb1
  have hgm:w.heap.size<W0.heap.size:=hx0.lt
  obtain⟨gm,hGM⟩:∃g,g=W0.heap.size:=⟨_,rfl⟩
  rw[←hGM] at hM1 hgm ⊢
  clear hGM hb0 hx0 hb1
  have hM1' : kE W1 gm 0 (nE (((ps.take 0).map PF.fi).flatMap Fi.b)):=hM1
  have hcx:=hx1.cell
  go_upto_region 5 with (fail)
  clear hcx hM1
  go_loopw [26] (fun i wr => ∃(q n:Nat),q≤ps.length∧i = .int .i64 q∧n≤12*q∧Below w.heap.size w wr∧aD wr w.heap.size #[.slice a ps.length c,.int .i64 k] 37∧kE wr gm n (nE (((ps.take q).map PF.fi).flatMap Fi.b))∧Hid (aS (bY ps k)=nU k (((ps.take q).map PF.fi).flatMap Fi.b) ((ps.drop q).map PF.fi))) (fun i _=>ps.length-(intOf i).toNat)
  case atStart=>exact⟨0,0,Nat.zero_le _,rfl,Nat.le_refl _,hbel1,hx1,hM1',hres⟩
  case round=>
   clear hbel1 hx1 hM1' hres
   obtain⟨q,n,hq,rfl,hn,hbr,hx,hM,hres⟩:=hrel
   by_cases hlt:q<ps.length
   ·obtain⟨b,off,p,rfl,hp,c0,c1⟩:=zP (h.below hbr).rd q hlt
    have hgood:=(h.good p (List.mem_of_getElem? hp)).below hbr
    have hdr:=drop_at hp
    have htk:=take_at hp
    rw[hdr,List.map_cons] at hres
    have htk':=Lib.hid htk
    clear hdr htk
    generalize hseen:((ps.take q).map PF.fi).flatMap Fi.b=seen at hM hres
    have hseen':=Lib.hid hseen
    clear hseen hp
    go_wp2_with (refine aL rfl _ _ _ rfl (kX p) rfl rfl rfl file_size (lC _) ?_)
    intro w2 hb2 hf2
    have hbel2:=ag hbr hb2
    have hx2:=hx.ext hb2
    have hM2:=hM.below hb2
    have hgood2:=hgood.below hb2
    clear hbr hx hM hgood hb2 c0 c1
    have hcf:=hf2.cell
    have f0:(kX p)[0]?=some (.int .i64 p.n):=rfl
    have f1:(kX p)[1]?=some (.slice p.a p.l.length p.c):=rfl
    by_cases hn96:p.n<0∨96<p.n
    ·have hfin:Hid (aS (bY ps k)=3):=Lib.hid (by rw[hres.out,yc,if_pos hn96])
     have hn' : p.n<0∨(¬p.n<0∧96<p.n):=by omega
     clear hn96
     rcases hn' with g|⟨g,g2⟩
     all_goals
      go_wp2
      go_ret
      exact⟨aV hfin.out.symm,hbel2⟩
    ·have hres2:Hid (aS (bY ps k)=if (p.l.length:Int)≠dO p.n then 2 else if iX k seen p.l≠0 then iX k seen p.l else nU k (seen++p.l) ((ps.drop (q+1)).map PF.fi)):=Lib.hid (by rw[hres.out,yc,if_neg hn96])
     have g4:¬p.n<0:=by omega
     have g5:¬96<p.n:=by omega
     clear hn96 hres
     by_cases hcnt:(p.l.length:Int)=dO p.n
     ·have hres3:Hid (aS (bY ps k)=if iX k seen p.l≠0 then iX k seen p.l else nU k (seen++p.l) ((ps.drop (q+1)).map PF.fi)):=Lib.hid (by rw[hres2.out,if_neg (fun hh=>hh hcnt)])
      have hl12:p.l.length≤12:=by
       have:=vz (n:=p.n) (by omega)
       omega
      have hcc:=Lib.hid hcnt
      clear hres2 hcnt
      go_upto_region 9 with (fail)
      refine aG 7 [_,_,_,_,_,.v (.int .i64 (dO p.n)),_] (Gf wr.heap.size 1 rfl rfl (Gl hf2 (V:=.slice p.a p.l.length p.c) (by simp[f1,underlying29]) rfl rfl rfl rfl (Gn rfl rfl rfl rfl (Gf wr.heap.size 0 rfl rfl (Gl hf2 (V:=.int .i64 p.n) (by simp[f0]) rfl rfl rfl rfl (ae ?_ (Gb (.bool false) (by simp[go_sem,hcc.out]) rfl rfl rfl rfl rfl (aB))))) (underlying29)))) (fun _=>rfl) rfl ?_
      ·intro ρ y W hw hn hb hd;have E42:=hw 42 4 rfl;have h4:y 4=_:=hd 4 rfl
       have EF:∀f,ρ (.func f) = .func (.func f) #[] #[]:=fun f=>hn (.func f) trivial
       refine aM _ _ (ah rfl) (aN rfl (EF _) func133 (by kernel_rfl) (by kernel_rfl) (by simp only[List.map_toArray,List.map_cons,List.map_nil,E42,h4,EF];rfl)) ?_
       refine (Am p.n W (by omega)).mono ?_
       rintro e w1 ⟨rfl,rfl⟩
       exact⟨_,rfl,Below.refl _ _,rfl⟩
      intro y WA hbWA _
      have hbelA:=ag hbel2 hbWA
      have hxA:=hx2.ext hbWA
      have hMA:=hM2.below hbWA
      have hfA:=hf2.ext hbWA
      have hgA:=hgood2.below hbWA
      clear hbel2 hx2 hM2 hf2 hgood2 hbWA hcf
      have hcf:=hfA.cell
      have hB0:Hid (iX k seen p.l=iX k (seen++p.l.take 0) (p.l.drop 0)):=Lib.hid (by simp)
      have hM0:kE WA gm n (nE (seen++p.l.take 0)):=by simpa using hMA
      have hle:=hgA.le
      have hmx:=hgA.mx
      have hrdp:=hgA.rd
      unfold maxLen at hmx
      clear hMA hgA
      go_upto_region 12 with (fail)
      clear hcf f0 f1 hfA
      go_loopw [48] (fun i wr => ∃(j m:Nat),j≤p.l.length∧i = .int .i64 j∧m≤n+j∧Below w.heap.size w wr∧aD wr w.heap.size #[.slice (some ⟨b,off,none⟩) ps.length c,.int .i64 k] 37∧kE wr gm m (nE (seen++p.l.take j))∧dA wr p.a (p.l.map eH)∧Hid (iX k seen p.l=iX k (seen++p.l.take j) (p.l.drop j))) (fun i _=>p.l.length-(intOf i).toNat)
      case atStart=>exact⟨0,n,Nat.zero_le _,rfl,Nat.le_refl _,hbelA,hxA,hM0,hrdp,hB0⟩
      case round=>
       clear hbelA hxA hM0 hrdp hB0
       obtain⟨j,m,hj,rfl,hm,hbr,hx,hM,hrp,hB⟩:=hrel
       by_cases hjl:j<p.l.length
       ·obtain⟨x,hX⟩:∃x,p.l[j]?=some x:=⟨p.l[j],List.getElem?_eq_getElem hjl⟩
        obtain⟨b2,off2,hpa,hc⟩:=iA hrp j hjl
        rw[show p.l[j]=x from (List.getElem?_eq_some_iff.1 hX).2] at hc
        have hdr:=drop_at hX
        have htk:=take_at hX
        rw[hdr,tC] at hB
        rw[hpa]
        generalize hs2:seen++p.l.take j=seen2 at hB hM
        have htk2:Hid (seen++p.l.take (j+1)=seen2++[x]):=Lib.hid (by rw[htk,←List.append_assoc,hs2])
        have hrp':=Lib.hid hrp
        have hpa':=Lib.hid hpa
        have hcx:=hx.cell
        clear hX hdr htk hs2 hrp hpa
        have hjl' : (j:Int)<(p.l.length:Int):=by omega
        by_cases hr3:x < -1∨k≤x
        ·have hfin:Hid (aS (bY ps k)=3):=Lib.hid (by rw[hres3.out,hB.out,if_pos hr3];rfl)
         have hr3' : x < -1∨(¬x < -1∧k≤x):=by omega
         clear hr3
         rcases hr3' with g6|⟨g6,g7⟩
         all_goals
          go_wp2
          go_ret
          exact⟨aV hfin.out.symm,hbr⟩
        ·have g6:¬x < -1:=by omega
         have g7:¬k≤x:=by omega
         have hB2:Hid (iX k seen p.l=if 0≤x∧x∈seen2 then 7 else iX k (seen2++[x]) (p.l.drop (j+1))):=Lib.hid (by rw[hB.out,if_neg hr3])
         clear hB hr3
         have hlook:=hM.look x (by omega)
         by_cases h7:0≤x∧x∈seen2
         ·have hfin:Hid (aS (bY ps k)=7):=Lib.hid (by rw[hres3.out,hB2.out,if_pos h7];rfl)
          rw[show nE seen2 x=true from decide_eq_true h7.2] at hlook
          have g8:0≤x:=h7.1
          clear h7
          go_wp2
          go_ret
          exact⟨aV hfin.out.symm,hbr⟩
         ·have hB3:Hid (iX k seen p.l=iX k (seen++p.l.take (j+1)) (p.l.drop (j+1))):=Lib.hid (by rw[hB2.out,if_neg h7,htk2.out])
          have h7' : ¬0≤x∨(0≤x∧nE seen2 x=false):=by
           by_cases g8:0≤x
           ·exact .inr ⟨g8,decide_eq_false fun hh=>h7 ⟨g8,hh⟩⟩
           ·exact .inl g8
          clear h7 hB2
          rcases h7' with g8|⟨g8,g9⟩
          ·clear hlook
           go_wp2_with (refine qw hM (by omega) rfl _ _ _ rfl rfl x rfl rfl (by omega) ?_)
           intro w6 hM6 hgr6
           rw[yN,←htk2.out] at hM6
           have hbel6:=hbr.grown hgr6 hbr.size (fun k hk=>by cases hk;omega)
           have hx6:=hx.grown hgr6 (fun e=>by have:=Option.some.inj e;omega)
           have hrp6:=hM.rdv hrp'.out hgr6
           clear hbr hx hM hgr6 hcx hc
           go_wp2
           go_roundw
           case rel=>exact⟨j+1,m+1,by omega,by go_num,by omega,hbel6,hx6,hM6,(by rw[←hpa'.out];exact hrp6),hB3⟩
           case measure=>simp[intOf];omega
          ·rw[g9] at hlook
           go_wp2_with (refine qw hM (by omega) rfl _ _ _ rfl rfl x rfl rfl (by omega) ?_)
           intro w6 hM6 hgr6
           rw[yN,←htk2.out] at hM6
           have hbel6:=hbr.grown hgr6 hbr.size (fun k hk=>by cases hk;omega)
           have hx6:=hx.grown hgr6 (fun e=>by have:=Option.some.inj e;omega)
           have hrp6:=hM.rdv hrp'.out hgr6
           clear hbr hx hM hgr6 hcx hc
           go_wp2
           go_roundw
           case rel=>exact⟨j+1,m+1,by omega,by go_num,by omega,hbel6,hx6,hM6,(by rw[←hpa'.out];exact hrp6),hB3⟩
           case measure=>simp[intOf];omega
       ·have hfin:Hid (aS (bY ps k)=nU k (((ps.take (q+1)).map PF.fi).flatMap Fi.b) ((ps.drop (q+1)).map PF.fi)):=Lib.hid (by
         have e0:iX k seen p.l=0:=by rw[hB.out,List.drop_eq_nil_of_le (by omega)];rfl
         rw[hres3.out,if_neg (fun hh=>hh e0),htk'.out,List.map_append,List.flatMap_append,hseen'.out]
         simp[PF.fi])
        have hMq:kE wr gm m (nE (((ps.take (q+1)).map PF.fi).flatMap Fi.b)):=by
         rw[List.take_of_length_le (by omega)] at hM
         rw[htk'.out,List.map_append,List.flatMap_append,hseen'.out]
         simpa[PF.fi] using hM
        have hjl' : ¬(j:Int)<(p.l.length:Int):=by omega
        clear hM hB hres3
        go_wp2
        go_roundw
        case rel=>exact⟨q+1,m,by omega,by go_num,by omega,hbr,hx,hMq,hfin⟩
        case measure=>simp[intOf];omega
     ·have hfin:Hid (aS (bY ps k)=2):=Lib.hid (by rw[hres2.out,if_pos hcnt])
      have hcc:((p.l.length:Int) != dO p.n)=true:=by rw[bne_iff_ne];exact hcnt
      clear hres2 hcnt
      go_upto_region 9 with (fail)
      refine aG 7 [_,_,_,_,_,.v (.int .i64 (dO p.n)),_] (Gf wr.heap.size 1 rfl rfl (Gl hf2 (V:=.slice p.a p.l.length p.c) (by simp[f1,underlying29]) rfl rfl rfl rfl (Gn rfl rfl rfl rfl (Gf wr.heap.size 0 rfl rfl (Gl hf2 (V:=.int .i64 p.n) (by simp[f0]) rfl rfl rfl rfl (ae ?_ (Gb (.bool true) (by simp[go_sem,hcc]) rfl rfl rfl rfl rfl (aB))))) (underlying29)))) (fun _=>rfl) rfl ?_
      ·intro ρ y W hw hn hb hd;have E42:=hw 42 4 rfl;have h4:y 4=_:=hd 4 rfl
       have EF:∀f,ρ (.func f) = .func (.func f) #[] #[]:=fun f=>hn (.func f) trivial
       refine aM _ _ (ah rfl) (aN rfl (EF _) func133 (by kernel_rfl) (by kernel_rfl) (by simp only[List.map_toArray,List.map_cons,List.map_nil,E42,h4,EF];rfl)) ?_
       refine (Am p.n W (by omega)).mono ?_
       rintro e w1 ⟨rfl,rfl⟩
       exact⟨_,rfl,Below.refl _ _,rfl⟩
      intro y WA hbWA _
      go_wp2
      go_ret
      exact⟨aV hfin.out.symm,ag hbel2 hbWA⟩
   ·have hfin:Hid (aS (bY ps k)=0):=Lib.hid (by rw[hres.out,List.drop_eq_nil_of_le (by omega)];rfl)
    go_wp2
    go_ret
    exact⟨aV hfin.out.symm,hbr⟩
theorem EP (l:List Int) (a:Option Addr) (c:Nat) (w:World) (hle:l.length≤c) (hnil:a=none→c=0) (hrd:dA w a (l.map eH)) (hb:l.length*8≤140737488355328) :
  Calls Tryz.prog 101 #[.slice a l.length c] w fun e w' => ∃v,e = .returned v∧Own w' w.heap.size 3 1 v l.length (l.map eH)∧Below w.heap.size w w':=by
 cases a with
 | none=>
  have h0:=hnil rfl
  have hl:l=[]:=List.eq_nil_of_length_eq_zero (by omega)
  subst hl
  subst h0
  have hq:=fun W=>Lib.run_eql_slice_nil (P:=Tryz.prog) W 29 _ none 0 0 0 0 underlying29
  go_enter func101,ntmps101
  go_wp2
  go_ret
  exact⟨_,rfl,by simpa using Own.nil _ _ _ _,Below.refl _ _⟩
 | some ad=>
  have hq:=fun W=>Lib.run_eql_slice_nil (P:=Tryz.prog) W 29 _ (some ad) l.length c 0 0 underlying29
  go_enter func101,ntmps101
  go_wp2_with (at_builtin;go_must (refine dI rfl _ _ 29 rfl w.heap.size 3 (.int .i64 0) 1 8 underlying29 int_info rfl (by decide) _ 0 [] rfl ?own (some ad) l.length c (l.map eH) rfl (fun h=>(by cases h)) hle (CP l) ?rd (Dg l) (by unfold maxLen;omega) (by simpa using hb) ?bb ?k))
  case own=>exact⟨rfl,.inr ⟨w.heap.size,0,0,#[],rfl,Nat.le_refl _,aD.new _ _ _,Nat.le_refl _,Nat.zero_le _,by simp,fun j u h=>by simp at h⟩⟩
  case rd=>exact hrd.below ((Below.refl _ _).alloc (Nat.le_refl _) _)
  case bb=>exact ed _ _
  intro v w1 hown hgr
  go_wp2
  go_ret
  exact⟨v,rfl,by simpa using hown,((Below.refl _ _).alloc (Nat.le_refl _) _).grown hgr (ed _ _) (fun k hk=>by cases hk;exact Nat.le_refl _)⟩
theorem file_info:(Tryz.prog.info? 67).map (fun i=>(i.zero,i.size,i.bytes))=some (some (.agg #[.int .i64 0,.slice none 0 0]),2,32):=by kernel_rfl
theorem Nf (p:PF):∀u∈lU p,u.oneCell' = true:=by
 intro u hu
 have:=lC p
 rw[←Array.all_toList,List.all_eq_true] at this
 exact this u hu
def jV (p:PF):Value:=.slice p.a p.l.length p.c
structure kD (w:World) (B:Nat) (v:Value) (ps:List PF):Prop where
 own:Own w B 67 2 v ps.length (ps.flatMap lU)
 each:∀(i:Nat) p,ps[i]?=some p→Own w B 3 1 (jV p) p.l.length (p.l.map eH)
 apart:∀(i j:Nat) p q,i<j→ps[i]?=some p→ps[j]?=some q→Apart (jV p) (jV q)
theorem kD.rd {ps:List PF} (h:kD w B v ps):∃a c,v = .slice a ps.length c∧EU w a c ps:=by
 obtain⟨a,c,rfl,h1,h2,h3,h4⟩:=h.own.rd
 refine⟨a,c,rfl,h1,h2,h3,h4,fun p hp => ?_⟩
 obtain⟨i,hi,rfl⟩:=List.mem_iff_getElem.1 hp
 obtain⟨a',c',e,k1,k2,k3,k4⟩:=(h.each i _ (List.getElem?_eq_getElem hi)).rd
 unfold jV at e
 simp only[Value.slice.injEq] at e
 obtain⟨rfl,_,rfl⟩:=e
 exact⟨k1,k2,k3,k4⟩
theorem kD.below {ps:List PF} (h:kD w B v ps) (hb:Below w.heap.size w w'):kD w' B v ps:=
 ⟨h.own.below hb,fun i p hp=>(h.each i p hp).below hb,h.apart⟩
theorem kD.mono {ps:List PF} (h:kD w B v ps) (hB:B'≤B):kD w B' v ps:=
 ⟨h.own.mono hB,fun i p hp=>(h.each i p hp).mono hB,h.apart⟩
theorem kD.keep {ps:List PF} (h:kD w B v ps) (hk:aD w g cs T) (h1:T≠67) (h2:T≠3) (hgr:w.grownBy w' (some g)):kD w' B v ps:=
 ⟨ak h.own hk h1 hgr,fun i p hp=>ak (h.each i p hp) hk h2 hgr,h.apart⟩
theorem kD.nil (w:World) (B:Nat):kD w B (.slice none 0 0) []:=⟨Own.nil _ _ _ _,fun i p h=>by simp at h,fun i j p q _ h=>by simp at h⟩
def NM (ps:List PF):Prop:=ps.length*32≤140737488355328∧∀p∈ps,p.l.length*8≤140737488355328
theorem kD.app {ps:List PF} (h:kD w B v ps) {p:PF} (ho:Own w' B 67 2 v' (ps.length+1) (ps.flatMap lU++lU p)) (hp:Own w B 3 1 (jV p) p.l.length (p.l.map eH)) (hgr:w.grownBy w' v.ownBlock)
 (ha:∀(i:Nat) q,ps[i]?=some q→Apart (jV q) (jV p)):kD w' B v' (ps++[p]) where
 own:=by rw[List.length_append,List.flatMap_append];simpa using ho
 each:=fun i q hq=>by
  by_cases hi:i<ps.length
  ·rw[List.getElem?_append_left hi] at hq
   exact uf (h.each i q hq) h.own (by decide) hgr
  ·rw[List.getElem?_append_right (by omega)] at hq
   have hi0:i-ps.length=0:=by
    rcases Nat.eq_zero_or_pos (i-ps.length) with e|e
    ·exact e
    ·rw[List.getElem?_eq_none (by simp;omega)] at hq;cases hq
   rw[hi0] at hq
   cases hq
   exact uf hp h.own (by decide) hgr
 apart:=fun i j q r hij hq hr=>by
  have hi:i<ps.length:=by
   have:=(List.getElem?_eq_some_iff.1 hr).1
   simp at this
   omega
  rw[List.getElem?_append_left hi] at hq
  by_cases hj:j<ps.length
  ·rw[List.getElem?_append_left hj] at hr
   exact h.apart i j q r hij hq hr
  ·rw[List.getElem?_append_right (by omega)] at hr
   have hj0:j-ps.length=0:=by
    rcases Nat.eq_zero_or_pos (j-ps.length) with e|e
    ·exact e
    ·rw[List.getElem?_eq_none (by simp;omega)] at hr;cases hr
   rw[hj0] at hr
   cases hr
   exact ha i q hq
theorem slfile_size:(Tryz.prog.info? 35).map (·.size)=some 1:=by kernel_rfl
theorem nz (a:Option Addr) (n c:Nat) (k:Int):(#[Value.slice a n c,Value.int .i64 k]:Array Value).all (·.oneCell')=true:=by simp[Value.oneCell']
def Pb (B:Nat) (n:Int) (l:List Int):jJ:=⟨fun v w => ∃u,v = .agg #[.int .i64 n,u]∧Own w B 3 1 u l.length (l.map eH),fun _ _ _ hb ⟨u,h1,h2⟩=>⟨u,h1,h2.below hb⟩⟩
def PI (B:Nat) (n:Int) (l:List Int):jJ:=⟨fun v w => ∃g p,v = .slice (some ⟨g,0,none⟩) 1 1∧p.n=n∧p.l=l∧dA w (some ⟨g,0,none⟩) (lU p)∧Own w B 3 1 (jV p) p.l.length (p.l.map eH),by
 rintro v w w' hb ⟨g,p,h1,h2,h3,h4,h5⟩
 exact⟨g,p,h1,h2,h3,h4.below hb,h5.below hb⟩⟩
theorem xx (ps:List PF) (k:Int) (a:Option Addr) (c:Nat) (w:World) (h:EU w a c ps) (hz:NM ps) :
  Calls Tryz.prog 61 #[.agg (JU a ps.length c k)] w fun r w' => ∃v ps',r = .returned (.agg #[v,.int .i64 k])∧kD w' w.heap.size v ps'∧ps'.map PF.fi=ps.map PF.fi∧Below w.heap.size w w':=by
 have hlc:=Nat.le_trans h.le h.mx
 unfold maxLen at hlc
 unfold JU
 go_enter func61,ntmps61
 go_upto_region 1 with (fail)
 refine oJ (fun W=>Code.wp _ _ _ _ W) fun W0 hb0 hx0 hr0 hs0 => ?_
 clear hs0
 have hcx:=hx0.cell
 go_upto_region 2 with (refine aL rfl _ _ _ rfl #[.slice none 0 0,.int .i64 k] rfl rfl rfl store_size (nz none 0 0 k) ?_)
 clear hcx
 intro W1 hb1 ho1
 have hbel1:=ag hb0 hb1
 have hx1:=hx0.ext hb1
 have hr1:=hr0.ext hb1
 have hgo:w.heap.size+1<W0.heap.size:=hr0.lt
 obtain⟨go,hGO⟩:∃g,g=W0.heap.size:=⟨_,rfl⟩
 rw[←hGO] at ho1 hgo ⊢
 clear hGO hb0 hx0 hr0 hb1
 have hcx:=hx1.cell
 go_upto_region 3 with (fail)
 clear hcx
 go_loopw [12] (fun i wr => ∃(q:Nat) (v:Value) (qs:List PF),q≤ps.length∧i = .int .i64 q∧Below w.heap.size w wr∧aD wr (w.heap.size+1) #[.slice none 0 0,.int .i64 0] 37∧aD wr go #[v,.int .i64 k] 37∧kD wr w.heap.size v qs∧qs.map PF.fi=(ps.take q).map PF.fi) (fun i _=>ps.length-(intOf i).toNat)
 case atStart=>exact⟨0,_,[],Nat.zero_le _,rfl,hbel1,hr1,ho1,kD.nil _ _,rfl⟩
 case round=>
  clear hbel1 hx1 hr1 ho1
  obtain⟨q,v,qs,hq,rfl,hbr,hr,ho,hF,hqs0⟩:=hrel
  have hqs:=Lib.hid hqs0
  clear hqs0
  by_cases hlt:q<ps.length
  ·obtain⟨b,off,p,rfl,hp,c0,c1⟩:=zP (h.below hbr).rd q hlt
   have hgw:=h.good p (List.mem_of_getElem? hp)
   have hpz:=hz.2 p (List.mem_of_getElem? hp)
   have htk:=take_at hp
   have hqs2:Hid (qs.map PF.fi++[p.fi]=(ps.take (q+1)).map PF.fi):=Lib.hid (by rw[htk,List.map_append,hqs.out];rfl)
   have hql:qs.length≤q:=by
    have:=congrArg List.length hqs.out
    simp[Nat.min_eq_left hq] at this
    omega
   clear hp htk
   go_wp2_with (refine aL rfl _ _ _ rfl (kX p) rfl rfl rfl file_size (lC _) ?_)
   intro w2 hb2 hf2
   have hbel2:=ag hbr hb2
   have hr2:=hr.ext hb2
   have ho2:=ho.ext hb2
   have hF2:=hF.below hb2
   have hgo2:go<wr.heap.size:=ho.lt
   clear hbr hr ho hF hb2 c0 c1
   obtain⟨av,cv,rfl,hR2⟩:=hF2.rd
   have hlv:=hR2.le
   have hmv:=hR2.mx
   unfold maxLen at hmv
   have hsz1:=hz.1
   have hgA:=hgw.below hbel2
   go_upto_region 5 with (fail)
   refine Dr 9 10 [] [oV (.pointer (some ⟨go,0,none⟩)),oV (.slice av qs.length cv),oV (.pointer (some ⟨wr.heap.size,0,none⟩)),oV (.int .i64 p.n),oV (.pointer (some ⟨wr.heap.size,1,none⟩)),oV (.slice p.a p.l.length p.c),(lh w2.heap.size 3 1 p.l.length (p.l.map eH)),(Pb w2.heap.size p.n p.l),(PI w2.heap.size p.n p.l)] (by kernel_rfl) (by kernel_rfl) (by kernel_rfl) (by kernel_rfl) (by kernel_rfl) (by kernel_rfl) (by decide) (by decide) _ rfl (by kernel_rfl) (ae ?_ (ae ?_ (ae ?_ (ae ?_ (ae ?_ (ae ?_ (ae ?_ (ae ?_ (ae ?_ (aB)))))))))) (aB) rfl ?_
   ·refine bn rfl ?_
    intro ρ y W hw hn hb hd
    have E3:ρ (.tmp 3) = .pointer (some ⟨go,0,none⟩):=(hn (.tmp 3) rfl).trans rfl
    refine aj (.pointer (some ⟨go,0,none⟩)) (ah rfl) (by simp[execOp,go_sem,E3]) rfl
   ·refine bn rfl ?_
    intro ρ y W hw hn hb hd
    have E16:=hw 16 0 rfl
    have h0:y 0 = .pointer (some ⟨go,0,none⟩):=hd 0 rfl
    refine aj (.slice av qs.length cv) (ah rfl) (by simp[execOp,go_sem,E16,h0,(ho2.ext hb).cell,underlying35]) rfl
   ·refine bn rfl ?_
    intro ρ y W hw hn hb hd
    have E5:ρ (.tmp 5) = .pointer (some ⟨wr.heap.size,0,none⟩):=(hn (.tmp 5) rfl).trans rfl
    refine aj (.pointer (some ⟨wr.heap.size,0,none⟩)) (ah rfl) (by simp[execOp,go_sem,E5]) rfl
   ·refine bn rfl ?_
    intro ρ y W hw hn hb hd
    have E18:=hw 18 2 rfl
    have h2:y 2 = .pointer (some ⟨wr.heap.size,0,none⟩):=hd 2 rfl
    refine aj (.int .i64 p.n) (ah rfl) (by simp[execOp,go_sem,E18,h2,(hf2.ext hb).cell,kX]) rfl
   ·refine bn rfl ?_
    intro ρ y W hw hn hb hd
    have E5:ρ (.tmp 5) = .pointer (some ⟨wr.heap.size,0,none⟩):=(hn (.tmp 5) rfl).trans rfl
    refine aj (.pointer (some ⟨wr.heap.size,1,none⟩)) (ah rfl) (by simp[execOp,go_sem,E5]) rfl
   ·refine bn rfl ?_
    intro ρ y W hw hn hb hd
    have E20:=hw 20 4 rfl
    have h4:y 4 = .pointer (some ⟨wr.heap.size,1,none⟩):=hd 4 rfl
    refine aj (.slice p.a p.l.length p.c) (ah rfl) (by simp[execOp,go_sem,E20,h4,(hf2.ext hb).cell,kX]) rfl
   ·refine bn rfl ?_
    intro ρ y W hw hn hb hd
    have E21:=hw 21 5 rfl
    have h5:y 5 = .slice p.a p.l.length p.c:=hd 5 rfl
    have EF:∀f,ρ (.func f) = .func (.func f) #[] #[]:=fun f=>hn (.func f) trivial
    refine aM _ _ (ah rfl) (aN rfl (EF _) func101 (by kernel_rfl) (by kernel_rfl) (by simp only[List.map_toArray,List.map_cons,List.map_nil,E21,h5,EF];rfl)) ?_
    refine (EP p.l p.a p.c W hgw.le hgw.nl (hgA.below hb).rd hpz).mono ?_
    rintro e w1 ⟨u,rfl,ho,hb1⟩
    exact⟨u,rfl,hb1,ho.mono hb.size⟩
   ·refine bn rfl ?_
    intro ρ y W hw hn hb hd
    have E19:=hw 19 3 rfl
    have h3:y 3 = .int .i64 p.n:=hd 3 rfl
    have E22:=hw 22 6 rfl
    have h6:((lh w2.heap.size 3 1 p.l.length (p.l.map eH))).r (y 6) W:=hd 6 rfl
    obtain⟨x6,c6,e6,_⟩:=Own.rd h6
    refine aj (.agg #[.int .i64 p.n,y 6]) (ah rfl) (by simp[execOp,go_sem,E19,h3,E22,e6]) ?_
    exact⟨_,rfl,h6⟩
   ·refine bn rfl ?_
    intro ρ y W hw hn hb hd
    have E23:=hw 23 7 rfl
    have h7:((Pb w2.heap.size p.n p.l)).r (y 7) W:=hd 7 rfl
    obtain⟨u,e7,ho7⟩:=h7
    obtain⟨x7,c7,rfl,_⟩:=Own.rd ho7
    refine iG (.slice (some ⟨W.heap.size,0,none⟩) 1 1) (ah rfl) (by simp[execOp,go_sem,E23,e7,kX]) ((Below.refl _ _).alloc (Nat.le_refl _) (.cells (kX ⟨p.n,x7,p.l,c7⟩) 67)) ?_
    exact⟨_,⟨p.n,x7,p.l,c7⟩,rfl,rfl,rfl,dA.new _ _ _,ho7.alloc _⟩
   intro ρ y WA o ho hw hn hV hbWA hRWA
   cases ho
   have hy0:y 0 = .pointer (some ⟨go,0,none⟩):=hRWA 0 (by decide)
   have hy1:y 1 = .slice av qs.length cv:=hRWA 1 (by decide)
   have hy2:y 2 = .pointer (some ⟨wr.heap.size,0,none⟩):=hRWA 2 (by decide)
   have hy3:y 3 = .int .i64 p.n:=hRWA 3 (by decide)
   have hy4:y 4 = .pointer (some ⟨wr.heap.size,1,none⟩):=hRWA 4 (by decide)
   have hy5:y 5 = .slice p.a p.l.length p.c:=hRWA 5 (by decide)
   have hy6:((lh w2.heap.size 3 1 p.l.length (p.l.map eH))).r (y 6) WA:=hRWA 6 (by decide)
   have hy7:((Pb w2.heap.size p.n p.l)).r (y 7) WA:=hRWA 7 (by decide)
   have hy8:((PI w2.heap.size p.n p.l)).r (y 8) WA:=hRWA 8 (by decide)
   have E17:=hw 17 1 rfl
   rw[hy1] at E17
   have E24:=hw 24 8 rfl
   have EC:∀v,ρ (.const v)=v:=fun v=>hn (.const v) trivial
   have EF:∀f,ρ (.func f) = .func (.func f) #[] #[]:=fun f=>hn (.func f) trivial
   obtain⟨g8,p8,e8,hn8,hl8,hrd8,hou8⟩:=hy8
   refine Bi (ah rfl) (jq (.tmp 17) (.tmp 24) 35 rfl w.heap.size 67 _ 2 32 underlying35 file_info rfl (by decide) _ _ _ E17 (hF2.own.below hbWA) _ 1 1 (lU p8) (E24.trans e8) (fun e=>by cases e) (Nat.le_refl _) rfl hrd8 (Nf _) (by unfold maxLen;omega) (by omega) (Nat.le_trans hbel2.size hbWA.size)) ?_
   rintro v2 w4 ⟨hown4,hgr4,hcase4⟩
   clear hRWA hw hn hV
   simp only[lay,Nat.reduceAdd,Nat.reduceLT,Nat.reduceEqDiff,reduceIte,decide_true,decide_false,if_true,Bool.false_eq_true,if_false,List.setIfInBounds_toArray,List.set_cons_zero,List.set_cons_succ,List.drop_succ_cons,List.drop_zero,List.drop_nil,hy0,hy1,hy2,hy3,hy4,hy5]
   clear hy0 hy1 hy2 hy3 hy4 hy5
   have hbelA:=ag hbel2 hbWA
   have hrA:=hr2.ext hbWA
   have hoA:=ho2.ext hbWA
   have hFA:=hF2.below hbWA
   have hapn:∀(i:Nat) r,qs[i]?=some r→Apart (jV r) (jV p8):=by
    intro i r hi g hg hg8
    have h1:=AR (hF2.each i r hi) g hg
    have h2:=hou8.ge g hg8
    omega
   have hown4' : Own w4 w.heap.size 67 2 v2 (qs.length+1) (qs.flatMap lU++lU p8):=hown4
   have hF4:=hFA.app hown4' (hou8.mono hbel2.size) hgr4 hapn
   have hr4:=iR hrA hFA.own (by decide) hgr4
   have ho4:=iR hoA hFA.own (by decide) hgr4
   have hbel4:Below w.heap.size w w4:=hbelA.grown hgr4 hbelA.size (fun k hk=>hFA.own.ge k hk)
   have hqs3:Hid ((qs++[p8]).map PF.fi=(ps.take (q+1)).map PF.fi):=Lib.hid (by
    rw[List.map_append,←hqs2.out]
    congr 1
    simp[PF.fi,hn8,hl8])
   obtain⟨a4,c4,rfl,_⟩:=hF4.rd
   rw[List.length_append,List.length_singleton] at hF4 ⊢
   clear hbel2 hr2 ho2 hF2 hbWA hbelA hrA hoA hFA hown4 hown4' hgr4 hapn hou8 hrd8 hf2 hcase4
   go_wp2_with (refine az rfl _ _ _ rfl go 0 _ [.slice a4 (qs.length+1) c4] rfl rfl rfl _ _ ho4 (show 0+1≤2 by decide) slfile_size (fun u hu=>by cases List.mem_singleton.1 hu;rfl) ?_)
   intro w5 ho5 hgr5
   have hr5:aD w5 (w.heap.size+1) _ _:=hr4.grown hgr5 (fun e=>by have:=Option.some.inj e;omega)
   have hF5:=hF4.keep ho4 (by decide) (by decide) hgr5
   have hbel5:=hbel4.grown hgr5 hbel4.size (fun k hk=>by cases hk;omega)
   have ho5' : aD w5 go #[.slice a4 (qs.length+1) c4,.int .i64 k] 37:=ho5
   clear ho4 hr4 hF4 hbel4 hgr5 ho5
   go_wp2
   go_roundw
   case rel=>exact⟨q+1,_,_,by omega,by go_num,hbel5,hr5,ho5',hF5,hqs3.out⟩
   case measure=>simp[intOf];omega
  ·obtain rfl:q=ps.length:=by omega
   have hfin:Hid (qs.map PF.fi=ps.map PF.fi):=Lib.hid (by rw[hqs.out,List.take_length])
   obtain⟨av,cv,rfl,_⟩:=hF.rd
   have hco:=ho.cell
   go_wp2_with (refine ax rfl _ _ _ rfl (w.heap.size+1) #[.slice av qs.length cv,.int .i64 k] rfl rfl _ _ hr rfl store_size (nz _ _ _ _) ?_)
   intro w5 hr5 hgr5
   have hF5:=hF.keep hr (by decide) (by decide) hgr5
   have hbel5:=hbr.grown hgr5 hbr.size (fun k hk=>by cases hk;omega)
   go_wp2
   refine bodyPost_ret (v:=.agg #[.slice av qs.length cv,.int .i64 k]) (dF results61 _ _ (w.heap.size+1) _ _ _ rfl hr5 underlying37 rfl store_size) rfl ?_
   exact⟨_,_,rfl,hF5,hfin.out,hbel5⟩
theorem LH (n:Int) (w:World):Calls Tryz.prog 99 #[.int .i64 n] w fun r w'=>r = .returned (.tuple #[.agg #[.slice none 0 0,.int .i64 (Nr n)],.int .i64 (newE n)])∧Below w.heap.size w w':=by
 go_enter func99,ntmps99
 by_cases h:n<0∨80<n
 ·have e1:newE n=4:=if_pos h
  have e2:Nr n=0:=if_pos h
  rw[e1,e2]
  have h' : n<0∨(¬n<0∧80<n):=by omega
  clear h e1 e2
  rcases h' with g|⟨g,g2⟩
  all_goals
   go_wp2_with (refine aL rfl _ _ _ rfl #[.slice none 0 0,.int .i64 0] rfl rfl rfl store_size (nz none 0 0 0) ?_)
   intro w1 hb1 hr1
   go_wp2
   refine bodyPost_ret (v:=.tuple #[.agg #[.slice none 0 0,.int .i64 0],.int .i64 4]) (dK results99 _ _ w.heap.size _ _ _ _ rfl rfl hr1 underlying37 rfl store_size) rfl ?_
   exact⟨rfl,hb1⟩
 ·have e1:newE n=0:=if_neg h
  have e2:Nr n=n:=if_neg h
  rw[e1,e2]
  have g:¬n<0:=by omega
  have g2:¬80<n:=by omega
  clear h e1 e2
  go_wp2_with (refine aL rfl _ _ _ rfl #[.slice none 0 0,.int .i64 n] rfl rfl rfl store_size (nz none 0 0 n) ?_)
  intro w1 hb1 hr1
  go_wp2
  refine bodyPost_ret (v:=.tuple #[.agg #[.slice none 0 0,.int .i64 n],.int .i64 0]) (dK results99 _ _ w.heap.size _ _ _ _ rfl rfl hr1 underlying37 rfl store_size) rfl ?_
  exact⟨rfl,hb1⟩
def jr (ps:List PF):List Int:=ps.flatMap PF.l
theorem qY (ps:List PF) (k:Int):iU (bY ps k)=jr ps:=by
 unfold iU bY jr
 rw[List.flatMap_map]
 rfl
theorem xy {ps:List PF} {p:PF} (hp:ps[q]?=some p):jr (ps.take (q+1))=jr (ps.take q)++p.l:=by
 unfold jr
 rw[take_at hp,List.flatMap_append]
 simp
theorem zT (ps:List PF) (k x:Int) (a:Option Addr) (c:Nat) (w:World) (h:EU w a c ps) :
  Calls Tryz.prog 32 #[.agg (JU a ps.length c k),.int .i64 x] w fun r w'=>r = .returned (.bool (eY (bY ps k) x))∧Below w.heap.size w w':=by
 have hlc:=Nat.le_trans h.le h.mx
 unfold maxLen at hlc
 unfold JU
 go_enter func32,ntmps32
 go_upto_region 1 with (fail)
 refine gB (fun W=>Code.wp _ _ _ _ W) fun W0 hb0 hx0 hs0 => ?_
 clear hs0
 have hcx:=hx0.cell
 go_upto_region 2 with (fail)
 clear hcx hx0
 go_loopw [12] (fun i wr => ∃(q:Nat),q≤ps.length∧i = .int .i64 q∧¬x∈jr (ps.take q)∧Below w.heap.size w wr) (fun i _=>ps.length-(intOf i).toNat)
 case atStart=>exact⟨0,Nat.zero_le _,rfl,by simp[jr],hb0⟩
 case round=>
  clear hb0
  obtain⟨q,hq,rfl,hm0,hbr⟩:=hrel
  have hm:=Lib.hid hm0
  clear hm0
  by_cases hlt:q<ps.length
  ·obtain⟨b,off,p,rfl,hp,c0,c1⟩:=zP (h.below hbr).rd q hlt
   have hgw:=h.good p (List.mem_of_getElem? hp)
   have hst:=Lib.hid (xy hp)
   have hin:Hid (∀y∈p.l,y∈jr ps):=Lib.hid (fun y hy=>List.mem_flatMap.2 ⟨p,List.mem_of_getElem? hp,hy⟩)
   have hle:=Nat.le_trans hgw.le hgw.mx
   unfold maxLen at hle
   clear hp
   go_wp2_with (refine aL rfl _ _ _ rfl (kX p) rfl rfl rfl file_size (lC _) ?_)
   intro w2 hb2 hf2
   have hbel2:=ag hbr hb2
   have hcf:=hf2.cell
   have f0:(kX p)[0]?=some (.int .i64 p.n):=rfl
   have f1:(kX p)[1]?=some (.slice p.a p.l.length p.c):=rfl
   clear hbr hb2 c0 c1
   go_upto_region 5 with (fail)
   clear hcf f0 f1 hf2
   go_loopw [19] (fun i wr => ∃(j:Nat),j≤p.l.length∧i = .int .i64 j∧¬x∈p.l.take j∧Below w.heap.size w wr) (fun i _=>p.l.length-(intOf i).toNat)
   case atStart=>exact⟨0,Nat.zero_le _,rfl,by simp,hbel2⟩
   case round=>
    clear hbel2
    obtain⟨j,hj,rfl,hx0,hbr⟩:=hrel
    have hx:=Lib.hid hx0
    clear hx0
    by_cases hjl:j<p.l.length
    ·obtain⟨b2,off2,hpa,hc⟩:=iA (hgw.rd.below hbr) j hjl
     have htk:p.l.take (j+1)=p.l.take j++[p.l[j]]:=take_at (List.getElem?_eq_getElem hjl)
     have hyin:=Lib.hid (hin.out _ (List.getElem_mem hjl))
     have htk':=Lib.hid htk
     rw[hpa]
     clear htk hpa
     generalize p.l[j]=y at hc htk' hyin
     by_cases hy:y=x
     ·have hfin:Hid (eY (bY ps k) x=true):=Lib.hid (by
       unfold eY
       rw[qY,←hy]
       exact decide_eq_true hyin.out)
      subst hy
      go_wp2
      go_ret
      exact⟨bG hfin.out.symm,hbr⟩
     ·have hnx:Hid (¬x∈p.l.take (j+1)):=Lib.hid (by
       rw[htk'.out]
       intro hh
       rcases List.mem_append.1 hh with hh|hh
       ·exact hx.out hh
       ·exact hy (List.mem_singleton.1 hh).symm)
      have hyb:(y==x)=false:=beq_eq_false_iff_ne.2 hy
      clear hy
      go_wp2
      go_roundw
      case rel=>exact⟨j+1,by omega,by go_num,hnx.out,hbr⟩
      case measure=>simp[intOf];omega
    ·have hnx:Hid (¬x∈jr (ps.take (q+1))):=Lib.hid (by
      have h9:=hx.out
      rw[List.take_of_length_le (by omega)] at h9
      rw[hst.out]
      intro hh
      rcases List.mem_append.1 hh with hh|hh
      ·exact hm.out hh
      ·exact h9 hh)
     go_wp2
     go_roundw
     case rel=>exact⟨q+1,by omega,by go_num,hnx.out,hbr⟩
     case measure=>simp[intOf];omega
  ·have hfin:Hid (eY (bY ps k) x=false):=Lib.hid (by
    have h9:=hm.out
    rw[List.take_of_length_le (by omega)] at h9
    unfold eY
    rw[qY]
    exact decide_eq_false h9)
   go_wp2
   go_ret
   exact⟨bG hfin.out.symm,hbr⟩
theorem IW (l:List Int) (x:Int) (a:Option Addr) (c:Nat) (w:World) (hrd:dA w a (l.map eH)) (hl:l.length≤9223372036854775807) :
  Calls Tryz.prog 153 #[.slice a l.length c,.int .i64 x] w fun e w'=>e = .returned (.int .i64 (idx (fun y=>decide (x=y)) l))∧Below w.heap.size w w':=by
 go_enter func153,ntmps153
 go_wp2
 go_loopw [8] (fun i wr => ∃k:Nat,k≤l.length∧i = .int .i64 k∧Below w.heap.size w wr∧∀i (h:i<l.length),i<k→(fun y=>decide (x=y)) l[i]=false) (fun i _=>l.length-(intOf i).toNat)
 case atStart=>exact⟨0,Nat.zero_le _,rfl,Below.refl _ _,fun i _ h=>absurd h (Nat.not_lt_zero _)⟩
 case round=>
  obtain⟨k,hk,rfl,hbr,hp0⟩:=hrel
  have hp:=Lib.hid hp0
  clear hp0
  by_cases hlt:k<l.length
  ·obtain⟨b,off,rfl,hc⟩:=iA (hrd.below hbr) k hlt
   by_cases he:x=l[k]
   ·have hfin:=Lib.hid (nW (fun y=>decide (x=y)) l k hlt hp.out (decide_eq_true he))
    have hb:(x==l[k])=true:=beq_iff_eq.2 he
    clear he
    go_wp2
    go_ret
    exact⟨aV hfin.out.symm,hbr⟩
   ·have hpk:=Lib.hid (show (fun y=>decide (x=y)) l[k]=false from decide_eq_false he)
    have hb:(x==l[k])=false:=beq_eq_false_iff_ne.2 he
    clear he
    go_wp2
    go_roundw
    case rel=>exact⟨k+1,by omega,by go_num,hbr,kV hp.out hlt hpk.out⟩
    case measure=>simp[intOf];omega
  ·have hfin:=Lib.hid (jQ (fun y=>decide (x=y)) l fun i h=>hp.out i h (by omega))
   go_wp2
   go_ret
   exact⟨aV hfin.out.symm,hbr⟩
theorem Bj (l:List Int) (x:Int) (a:Option Addr) (c:Nat) (w:World) (hrd:dA w a (l.map eH)) (hl:l.length≤9223372036854775807) :
  Calls Tryz.prog 146 #[.slice a l.length c,.int .i64 x] w fun e w'=>e = .returned (.bool (decide (x∈l)))∧Below w.heap.size w w':=by
 go_enter func146,ntmps146
 go_wp2_with fail
 refine (IW l x a c _ hrd hl).mono ?_
 rintro e w2 ⟨rfl,hb2⟩
 have hfin:=Lib.hid ((lD (fun y=>decide (x=y)) l).trans (NK l x))
 go_wp2
 go_ret
 exact⟨bG hfin.out,hb2⟩
def hasB (x:Int) (p:PF):Bool:=decide (x∈p.l)
theorem JE (p:PF) (g:Nat) (x:Int) (w:World) (hg:aD w g #[.int .i64 x] 3) (hp:p.good w) :
  Calls Tryz.prog 145 #[.agg #[.int .i64 p.n,.slice p.a p.l.length p.c],.pointer (some ⟨g,0,none⟩)] w fun r w'=>r = .returned (.bool (hasB x p))∧Below w.heap.size w w':=by
 have hle:=Nat.le_trans hp.le hp.mx
 unfold maxLen at hle
 go_enter func145,ntmps145
 go_upto_region 1 with (fail)
 refine gB (fun W=>Code.wp _ _ _ _ W) fun W0 hb0 hx0 hs0 => ?_
 clear hs0
 have hgx:=(hg.ext hb0).cell 0
 have hcx:=hx0.cell
 have hp0:=hp.below hb0
 go_wp2_with fail
 refine (Bj p.l x p.a p.c _ hp0.rd (by omega)).mono ?_
 rintro e w2 ⟨rfl,hb2⟩
 go_wp2
 go_ret
 exact⟨rfl,ag hb0 hb2⟩
theorem OT {ps:List PF} (h:dA w a (ps.flatMap lU)) (k:Nat) (hk:k<ps.length):∃b off,a=some ⟨b,off,none⟩∧w.cell? ⟨b,off+k*2,none⟩=some (.int .i64 ps[k].n)∧w.cell? ⟨b,off+k*2+1,none⟩=some (.slice ps[k].a ps[k].l.length ps[k].c):=by
 obtain⟨b,off,ha,hc⟩:=h.elem iC (by decide) k hk
 exact⟨b,off,ha,hc 0 _ rfl,hc 1 _ rfl⟩
theorem Js (l:List PF) (a:Option Addr) (c:Nat) (w:World) (hrd:dA w a (l.flatMap lU)) (hl:l.length≤9223372036854775807) (g:Nat) (x:Int) (hg:aD w g #[.int .i64 x] 3) (hgood:∀p∈l,p.good w) :
  Calls Tryz.prog 152 #[.slice a l.length c,.func (.func 145) #[] #[.pointer (some ⟨g,0,none⟩)]] w fun e w'=>e = .returned (.int .i64 (idx (hasB x) l))∧Below w.heap.size w w':=by
 go_enter func152,ntmps152
 go_wp2
 go_loopw [8] (fun i wr => ∃k:Nat,k≤l.length∧i = .int .i64 k∧Below w.heap.size w wr∧∀i (h:i<l.length),i<k→(hasB x) l[i]=false) (fun i _=>l.length-(intOf i).toNat)
 case atStart=>exact⟨0,Nat.zero_le _,rfl,Below.refl _ _,fun i _ h=>absurd h (Nat.not_lt_zero _)⟩
 case round=>
  obtain⟨k,hk,rfl,hbr,hp0⟩:=hrel
  have hp:=Lib.hid hp0
  clear hp0
  by_cases hlt:k<l.length
  ·obtain⟨b,off,rfl,c0,c1⟩:=OT (hrd.below hbr) k hlt
   go_wp2_with fail
   refine (JE l[k] g x _ (hg.ext hbr) ((hgood _ (List.getElem_mem hlt)).below hbr)).mono ?_
   rintro e w2 ⟨rfl,hb2⟩
   have hbel2:=ag hbr hb2
   clear hb2
   cases hpk:(hasB x) l[k]
   ·have hpk':=Lib.hid hpk
    clear hpk
    go_wp2
    go_roundw
    case rel=>exact⟨k+1,by omega,by go_num,hbel2,kV hp.out hlt hpk'.out⟩
    case measure=>simp[intOf];omega
   ·have hfin:=Lib.hid (nW (hasB x) l k hlt hp.out hpk)
    clear hpk
    go_wp2
    go_ret
    exact⟨aV hfin.out.symm,hbel2⟩
  ·have hfin:=Lib.hid (jQ (hasB x) l fun i h=>hp.out i h (by omega))
   go_wp2
   go_ret
   exact⟨aV hfin.out.symm,hbr⟩
theorem Jz (l:List PF) (a:Option Addr) (c:Nat) (w:World) (hrd:dA w a (l.flatMap lU)) (hl:l.length≤9223372036854775807) (g:Nat) (x:Int) (hg:aD w g #[.int .i64 x] 3) (hgood:∀p∈l,p.good w) :
  Calls Tryz.prog 144 #[.slice a l.length c,.func (.func 145) #[] #[.pointer (some ⟨g,0,none⟩)]] w fun e w'=>e = .returned (.bool (l.any (hasB x)))∧Below w.heap.size w w':=by
 go_enter func144,ntmps144
 go_wp2_with fail
 refine (Js l a c _ hrd hl g x hg hgood).mono ?_
 rintro e w2 ⟨rfl,hb2⟩
 go_wp2
 go_ret
 exact⟨bG (lD _ _),hb2⟩
theorem LK (ps:List PF) (k x:Int):ps.any (hasB x)=eY (bY ps k) x:=by
 unfold eY hasB
 rw[qY,Bool.eq_iff_iff,List.any_eq_true,decide_eq_true_eq]
 unfold jr
 rw[List.mem_flatMap]
 constructor
 ·rintro⟨p,hp,h⟩;exact⟨p,hp,of_decide_eq_true h⟩
 ·rintro⟨p,hp,h⟩;exact⟨p,hp,decide_eq_true h⟩
theorem Jk (ps:List PF) (k:Int) (a:Option Addr) (c g:Nat) (w:World) (h:EU w a c ps) (hg:aD w g (JU a ps.length c k) 37) (hk:k≤80) :
  Calls Tryz.prog 129 #[.pointer (some ⟨g,0,none⟩)] w fun r w'=>r = .returned (.int .i64 (dH (bY ps k)))∧Below w.heap.size w w':=by
 have hlc:=Nat.le_trans h.le h.mx
 unfold maxLen at hlc
 unfold JU at hg
 go_enter func129,ntmps129
 have hcx:=hg.cell
 go_upto_region 2 with (fail)
 clear hcx
 go_loopw [8] (fun i wr => ∃(q:Nat),((q:Int)≤k∨q=0)∧i = .int .i64 q∧Below w.heap.size w wr∧∀i:Nat,i<q→eY (bY ps k) i=true) (fun i _=>k.toNat-(intOf i).toNat)
 case atStart=>exact⟨0,.inr rfl,rfl,Below.refl _ _,fun i hi=>absurd hi (Nat.not_lt_zero _)⟩
 case round=>
  obtain⟨q,hq,rfl,hbr,hu0⟩:=hrel
  have hu:=Lib.hid hu0
  clear hu0
  by_cases hlt:(q:Int)<k
  ·have hgr:=hg.ext hbr
   go_upto_region 4 with (refine CE rfl _ _ _ rfl (.int .i64 q) rfl rfl rfl int_size rfl ?_)
   intro w2 hb2 hq2
   have hbel2:=ag hbr hb2
   have hx2:=hgr.ext hb2
   have hcx:=hx2.cell
   have h2:=h.below hbel2
   clear hbr hb2 hgr
   go_wp2_with fail
   refine (Jz ps a c _ h2.rd (by omega) wr.heap.size q hq2 h2.good).mono ?_
   rintro e w3 ⟨rfl,hb3⟩
   have hbel3:=ag hbel2 hb3
   have hq3:=(hq2.ext hb3).cell 0
   rw[LK ps k]
   clear hcx hbel2 hx2 hb3
   cases hus:eY (bY ps k) q
   ·have hfin:=Lib.hid (He (s:=bY ps k) hlt hu.out hus)
    clear hus
    go_wp2
    go_ret
    exact⟨aV hfin.out.symm,hbel3⟩
   ·have hnx:Hid (∀i:Nat,i<q+1→eY (bY ps k) i=true):=Lib.hid (fun i hi=>by
     by_cases e:i=q
     ·subst e;exact hus
     ·exact hu.out i (by omega))
    clear hus
    go_wp2
    go_roundw
    case rel=>exact⟨q+1,by omega,by go_num,hbel3,hnx.out⟩
    case measure=>simp[intOf];omega
  ·have hfin:=Lib.hid (Cm (s:=bY ps k) (fun i hi=>hu.out i (by
    have:(i:Int)<k:=hi
    omega)))
   go_wp2
   go_ret
   exact⟨aV hfin.out.symm,hbr⟩
theorem zq {ps:List PF} {k:Int} (h:aS (bY ps k)=0):NM ps:=by
 have h1:=gF h
 have h2:ps.length≤5:=by simpa[bY] using h1.1
 refine⟨by omega,fun p hp => ?_⟩
 have h3:=tZ h p.fi (by simpa[bY] using List.mem_map_of_mem hp)
 have h4:=vz h3.2.1
 have h5:(p.l.length:Int)=dO p.n:=h3.2.2.1
 have h6:dO p.n≤12:=h4
 omega
theorem NP (cur:Array Value) (o:Nat) (x y:Value) (h:cur[o+1]?=some y):bq cur o [x,y]=cur.setIfInBounds o x:=by
 show (cur.setIfInBounds o x).setIfInBounds (o+1) y=cur.setIfInBounds o x
 apply Array.ext_getElem?
 intro i
 rw[Array.getElem?_setIfInBounds]
 by_cases e:o+1=i
 ·subst e
  have hlt:o+1<cur.size:=(Array.getElem?_eq_some_iff.1 h).1
  rw[if_pos rfl,if_pos (by simpa using hlt),Array.getElem?_setIfInBounds_ne (by omega),h]
 ·rw[if_neg e]
theorem NA (cur:Array Value) (o:Nat) (x y:Value) (h:cur[o]?=some x):bq cur o [x,y]=cur.setIfInBounds (o+1) y:=by
 show (cur.setIfInBounds o x).setIfInBounds (o+1) y=cur.setIfInBounds (o+1) y
 congr 1
 apply Array.ext_getElem?
 intro i
 rw[Array.getElem?_setIfInBounds]
 by_cases e:o=i
 ·subst e
  have hlt:o<cur.size:=(Array.getElem?_eq_some_iff.1 h).1
  rw[if_pos rfl,if_pos hlt,h]
 ·rw[if_neg e]
theorem kD.set {ps:List PF} (h:kD w B v ps) (hk:k<ps.length) {p' : PF} (ho:Own w' B 67 2 v ps.length ((ps.set k p').flatMap lU)) (hp:Own w' B 3 1 (jV p') p'.l.length (p'.l.map eH))
 (hoth:∀(i:Nat) q,i≠k→ps[i]?=some q→Own w' B 3 1 (jV q) q.l.length (q.l.map eH)) (ha:∀(i:Nat) q,i≠k→ps[i]?=some q→Apart (jV p') (jV q)):kD w' B v (ps.set k p') where
 own:=by rw[List.length_set];exact ho
 each:=fun i q hq=>by
  rw[List.getElem?_set] at hq
  by_cases e:k=i
  ·rw[if_pos e] at hq
   by_cases hi:i<ps.length
   ·rw[if_pos (by omega)] at hq;cases hq;exact hp
   ·rw[if_neg (by omega)] at hq;cases hq
  ·rw[if_neg e] at hq
   exact hoth i q (fun e2=>e e2.symm) hq
 apart:=fun i j q r hij hq hr=>by
  rw[List.getElem?_set] at hq hr
  by_cases e:k=i
  ·rw[if_pos e,if_pos (by omega)] at hq
   cases hq
   rw[if_neg (by omega)] at hr
   exact ha j r (by omega) hr
  ·rw[if_neg e] at hq
   by_cases e2:k=j
   ·rw[if_pos e2,if_pos (by omega)] at hr
    cases hr
    exact (ha i q (by omega) hq).symm
   ·rw[if_neg e2] at hr
    exact h.apart i j q r hij hq hr
theorem kD.file {ps:List PF} (h:kD w B v ps) {p:PF} (hp:ps[k]?=some p) :
  ∃g off cap cur,v = .slice (some ⟨g,off,none⟩) ps.length cap∧B≤g∧aD w g cur 67∧off+k*2+2≤cur.size∧cur[off+k*2]?=some (.int .i64 p.n)∧cur[off+k*2+1]?=some (.slice p.a p.l.length p.c) ∧
   (∀w' n,aD w' g (cur.setIfInBounds (off+k*2) (.int .i64 n)) 67→w.grownBy w' (some g)→kD w' B v (ps.set k ⟨n,p.a,p.l,p.c⟩)) ∧
   (∀w' a l c,aD w' g (cur.setIfInBounds (off+k*2+1) (.slice a l.length c)) 67→w.grownBy w' (some g)→Own w B 3 1 (.slice a l.length c) l.length (l.map eH)→(∀(j:Nat) q,j≠k→ps[j]?=some q→Apart (.slice a l.length c) (jV q))→kD w' B v (ps.set k ⟨p.n,a,l,c⟩)):=by
 have hk:=(List.getElem?_eq_some_iff.1 hp).1
 have hpe:=(List.getElem?_eq_some_iff.1 hp).2
 obtain⟨g,off,cap,cur,hv,hB,hblk,hfit,hset⟩:=lJ iC (by decide) rfl h.own k hk
 have hcells:∀j u,(ps.flatMap lU)[j]?=some u→cur[off+j]?=some u:=by
  rcases h.own.2 with ⟨h1,h2⟩|⟨g',off',cap',cur',hv',hB',hblk',_,_,_,hc⟩
  ·omega
  ·rw[hv] at hv'
   cases hv'
   have:cur=cur':=by
    unfold aD at hblk hblk'
    rw[hblk] at hblk'
    simpa using hblk'
   subst this
   exact hc
 have c0:cur[off+k*2]?=some (.int .i64 p.n):=by
  have:=hcells (k*2) (.int .i64 p.n) (by
   have:=flat_get lU 2 iC ps k hk 0 (.int .i64 p.n) (by rw[hpe];rfl)
   simpa using this)
  exact this
 have c1:cur[off+k*2+1]?=some (.slice p.a p.l.length p.c):=by
  have:=hcells (k*2+1) (.slice p.a p.l.length p.c) (flat_get lU 2 iC ps k hk 1 _ (by rw[hpe];rfl))
  simpa[Nat.add_assoc] using this
 have hoth:∀ {w' : World},w.grownBy w' (some g)→∀(i:Nat) q,ps[i]?=some q→Own w' B 3 1 (jV q) q.l.length (q.l.map eH):=fun hgr i q hq=>ak (h.each i q hq) hblk (by decide) hgr
 have hap:∀(j:Nat) q,j≠k→ps[j]?=some q→Apart (jV p) (jV q):=fun j q hj hq=>by
  rcases Nat.lt_or_gt_of_ne hj with h1|h1
  ·exact (h.apart j k q p h1 hq hp).symm
  ·exact h.apart k j p q h1 hp hq
 refine⟨g,off,cap,cur,hv,hB,hblk,hfit,c0,c1,fun w' n hb hgr => ?_,fun w' a l c hb hgr ho ha => ?_⟩
 ·refine h.set hk (hset w' ⟨n,p.a,p.l,p.c⟩ ?_) (hoth hgr k p hp) (fun i q _ hq=>hoth hgr i q hq) hap
  rw[show lU ⟨n,p.a,p.l,p.c⟩=[.int .i64 n,.slice p.a p.l.length p.c] from rfl,NP _ _ _ _ c1]
  exact hb
 ·refine h.set hk (hset w' ⟨p.n,a,l,c⟩ ?_) (ak ho hblk (by decide) hgr) (fun i q _ hq=>hoth hgr i q hq) ha
  rw[show lU ⟨p.n,a,l,c⟩=[.int .i64 p.n,.slice a l.length c] from rfl,NA _ _ _ _ c0]
  exact hb
theorem kD.num {ps:List PF} (h:kD w B v ps) {p:PF} (hp:ps[k]?=some p) (hi:i<p.l.length) :
  ∃g off cap cur,p.a=some ⟨g,off,none⟩∧p.c=cap∧B≤g∧aD w g cur 3∧off+i+1≤cur.size ∧
   ∀w' x,aD w' g (bq cur (off+i) [.int .i64 x]) 3→w.grownBy w' (some g)→kD w' B v (ps.set k ⟨p.n,p.a,p.l.set i x,p.c⟩):=by
 have hk:=(List.getElem?_eq_some_iff.1 hp).1
 have hpe:=(List.getElem?_eq_some_iff.1 hp).2
 have hown:=h.each k p hp
 rw[←gJ] at hown
 obtain⟨g,off,cap,cur,hv,hB,hblk,hfit,hset⟩:=lJ (fun x:Int=>(rfl : [eH x].length=1)) (by decide) rfl hown i hi
 unfold jV at hv
 simp only[Value.slice.injEq] at hv
 obtain⟨ha,_,hc⟩:=hv
 refine⟨g,off,cap,cur,ha,hc,hB,hblk,(by simpa using hfit),fun w' x hb hgr => ?_⟩
 have hap:∀(j:Nat) q,j≠k→ps[j]?=some q→Apart (jV p) (jV q):=fun j q hj hq=>by
  rcases Nat.lt_or_gt_of_ne hj with h1|h1
  ·exact (h.apart j k q p h1 hq hp).symm
  ·exact h.apart k j p q h1 hp hq
 have hown' : Own w' B 67 2 v ps.length (ps.flatMap lU):=ak h.own hblk (by decide) hgr
 have hsame:(ps.set k ⟨p.n,p.a,p.l.set i x,p.c⟩).flatMap lU=ps.flatMap lU:=by
  have e1:lU ⟨p.n,p.a,p.l.set i x,p.c⟩=lU p:=by simp[lU,kX]
  apply List.ext_getElem?
  intro j
  by_cases hj:j<ps.length*2
  ·have hq:j / 2<ps.length:=by omega
   have f1:=iY lU 2 iC (ps.set k ⟨p.n,p.a,p.l.set i x,p.c⟩) (j / 2) (by rw[List.length_set];exact hq) (j%2) (by omega)
   have f2:=iY lU 2 iC ps (j / 2) hq (j%2) (by omega)
   rw[show j / 2*2+j%2=j from by omega] at f1 f2
   rw[f1,f2]
   congr 1
   rw[List.getElem_set]
   by_cases e:k=j / 2
   ·rw[if_pos e,e1,←hpe];congr 1;simp only[e]
   ·rw[if_neg e]
  ·rw[List.getElem?_eq_none (by rw[Pw.flat_len lU 2 iC,List.length_set];omega),List.getElem?_eq_none (by rw[Pw.flat_len lU 2 iC];omega)]
 refine h.set hk (by rw[hsame];exact hown') ?_ (fun j q hj hq=>(h.each j q hq).apart (hap j q hj hq) (by
  have:(jV p).ownBlock=some g:=by unfold jV;rw[ha];rfl
  rw[this];exact hgr)) (fun j q hj hq=>by rw[show jV ⟨p.n,p.a,p.l.set i x,p.c⟩=jV p from by simp[jV]];exact hap j q hj hq)
 have h9:=hset w' x (by rw[Nat.mul_one];exact hb)
 rw[gJ] at h9
 simpa[jV] using h9
theorem FL (ps:List PF) (k file index:Int) (a:Option Addr) (c:Nat) (w:World) (h:EU w a c ps) (hk64 : -9223372036854775808≤k∧k≤9223372036854775807) :
  Calls Tryz.prog 91 #[.agg (JU a ps.length c k),.int .i64 file,.int .i64 index] w fun r w' => ∃v ps' k',r = .returned (.tuple #[.agg #[v,.int .i64 k'],.int .i64 (dh (bY ps k) file index),.int .i64 (bL (bY ps k) file index)])∧kD w' w.heap.size v ps'∧bY ps' k' = cO (bY ps k) file index∧Below w.heap.size w w':=by
 have hlc:=Nat.le_trans h.le h.mx
 unfold maxLen at hlc
 unfold JU
 go_enter func91,ntmps91
 go_upto_region 1 with (fail)
 refine oJ (fun W=>Code.wp _ _ _ _ W) fun W0 hb0 hx0 hr0 hs0 => ?_
 clear hs0
 go_wp2_with (refine ay _ _ rfl _ 0 rfl rfl _ hx0.rd _ underlying37 rfl store_size ?_)
 refine (yu ps k a c _ (h.below hb0) hk64).mono ?_
 rintro r w1 ⟨rfl,hb1⟩
 have hbel:=ag hb0 hb1
 have hx:=hx0.ext hb1
 have hres:=hr0.ext hb1
 clear hb0 hx0 hr0 hb1
 by_cases h0:aS (bY ps k)=0
 ·have H0:=Lib.hid h0
  rw[h0]
  clear h0
  have hcx:=hx.cell
  by_cases h5:file<0∨(ps.length:Int)≤file
  ·have q0:Hid _:=Lib.hid (rG (s:=bY ps k) (k:=file) (i:=index) (e:=5) (by unfold bL;rw[if_neg (by rw[H0.out];simp),if_pos (by simpa[bY] using h5)]) (by decide))
   have h5' : file<0∨(¬file<0∧(ps.length:Int)≤file):=by omega
   clear h5
   rcases h5' with g1|⟨g1,g2⟩
   ·skip
    go_wp2_with (refine ax rfl _ _ _ rfl (w.heap.size+1) #[.slice none 0 0,.int .i64 0] rfl rfl _ _ hres rfl store_size (nz none 0 0 0) ?_)
    all_goals
     intro w5 hr5 hgr5
     have hbel5:Below w.heap.size w w5:=hbel.grown hgr5 hbel.size (fun k hk=>by cases hk;omega)
     go_wp2
     refine bodyPost_ret (v:=.tuple #[.agg #[.slice none 0 0,.int .i64 0],.int .i64 0,.int .i64 (5)]) (fF results91 _ _ (w.heap.size+1) _ _ _ _ _ rfl rfl rfl hr5 underlying37 rfl store_size) rfl ?_
     have q:=q0.out
     exact⟨_,_,_,by rw[q.1,q.2.1],kD.nil _ _,by rw[q.2.2];rfl,hbel5⟩
   ·skip
    go_wp2_with (refine ax rfl _ _ _ rfl (w.heap.size+1) #[.slice none 0 0,.int .i64 0] rfl rfl _ _ hres rfl store_size (nz none 0 0 0) ?_)
    all_goals
     intro w5 hr5 hgr5
     have hbel5:Below w.heap.size w w5:=hbel.grown hgr5 hbel.size (fun k hk=>by cases hk;omega)
     go_wp2
     refine bodyPost_ret (v:=.tuple #[.agg #[.slice none 0 0,.int .i64 0],.int .i64 0,.int .i64 (5)]) (fF results91 _ _ (w.heap.size+1) _ _ _ _ _ rfl rfl rfl hr5 underlying37 rfl store_size) rfl ?_
     have q:=q0.out
     exact⟨_,_,_,by rw[q.1,q.2.1],kD.nil _ _,by rw[q.2.2];rfl,hbel5⟩
  ·obtain⟨F,rfl⟩:=Int.eq_ofNat_of_zero_le (show 0≤file by omega)
   have hF:F<ps.length:=by omega
   have hFi:(F:Int)<(ps.length:Int):=by omega
   obtain⟨b,off,p,rfl,hp,c0,c1⟩:=zP (h.below hbel).rd F hF
   have hgw:=h.good p (List.mem_of_getElem? hp)
   have hp':=Lib.hid hp
   have hfi:Hid (aT (bY ps k) F=p.fi):=Lib.hid (by unfold aT bY;rw[if_pos (by omega),Int.toNat_natCast,List.getD_eq_getElem?_getD,List.getElem?_map,hp];rfl)
   have hnl:Hid (¬((F:Int)<0∨(((bY ps k).fs.length:Nat):Int)≤(F:Int))):=Lib.hid (by simpa[bY] using hF)
   clear h5 hp
   by_cases h9:index<0∨(p.l.length:Int)≤index
   ·have q0:Hid _:=Lib.hid (rG (s:=bY ps k) (k:=F) (i:=index) (e:=9) (by unfold bL;rw[if_neg (by rw[H0.out];simp),if_neg hnl.out,if_pos (by rw[hfi.out];exact h9)]) (by decide))
    have h9' : index<0∨(¬index<0∧(p.l.length:Int)≤index):=by omega
    clear h9
    rcases h9' with g1|⟨g1,g2⟩
    ·skip
     go_wp2_with (refine ax rfl _ _ _ rfl (w.heap.size+1) #[.slice none 0 0,.int .i64 0] rfl rfl _ _ hres rfl store_size (nz none 0 0 0) ?_)
     all_goals
      intro w5 hr5 hgr5
      have hbel5:Below w.heap.size w w5:=hbel.grown hgr5 hbel.size (fun k hk=>by cases hk;omega)
      go_wp2
      refine bodyPost_ret (v:=.tuple #[.agg #[.slice none 0 0,.int .i64 0],.int .i64 0,.int .i64 (9)]) (fF results91 _ _ (w.heap.size+1) _ _ _ _ _ rfl rfl rfl hr5 underlying37 rfl store_size) rfl ?_
      have q:=q0.out
      exact⟨_,_,_,by rw[q.1,q.2.1],kD.nil _ _,by rw[q.2.2];rfl,hbel5⟩
    ·skip
     go_wp2_with (refine ax rfl _ _ _ rfl (w.heap.size+1) #[.slice none 0 0,.int .i64 0] rfl rfl _ _ hres rfl store_size (nz none 0 0 0) ?_)
     all_goals
      intro w5 hr5 hgr5
      have hbel5:Below w.heap.size w w5:=hbel.grown hgr5 hbel.size (fun k hk=>by cases hk;omega)
      go_wp2
      refine bodyPost_ret (v:=.tuple #[.agg #[.slice none 0 0,.int .i64 0],.int .i64 0,.int .i64 (9)]) (fF results91 _ _ (w.heap.size+1) _ _ _ _ _ rfl rfl rfl hr5 underlying37 rfl store_size) rfl ?_
      have q:=q0.out
      exact⟨_,_,_,by rw[q.1,q.2.1],kD.nil _ _,by rw[q.2.2];rfl,hbel5⟩
   ·obtain⟨I,rfl⟩:=Int.eq_ofNat_of_zero_le (show 0≤index by omega)
    have hI:I<p.l.length:=by omega
    have hIi:(I:Int)<(p.l.length:Int):=by omega
    have hil:Hid (¬((I:Int)<0∨(((aT (bY ps k) F).b.length:Nat):Int)≤(I:Int))):=Lib.hid (by rw[hfi.out];exact h9)
    have hsz:=zq H0.out
    have hlp:ps.length≤5:=by simpa[bY] using (gF H0.out).1
    have hk80:k≤80:=(gF H0.out).2.2
    clear h9
    go_wp2_with (refine ay _ _ rfl _ 0 rfl rfl _ hx.rd _ underlying37 rfl store_size ?_)
    refine (xx ps k _ c _ (h.below hbel) hsz).mono ?_
    rintro r w2 ⟨v2,qs,rfl,hO2,hqs0,hb2⟩
    have hqs:=Lib.hid hqs0
    have hql0:qs.length=ps.length:=by simpa using congrArg List.length hqs0
    have hqF:F<qs.length:=by omega
    clear hql0
    obtain⟨q,hq⟩:∃q,qs[F]?=some q:=⟨qs[F]'hqF,List.getElem?_eq_getElem _⟩
    have hqp:q.fi=p.fi:=by
     have h1:=congrArg (fun l=>l[F]?) hqs0
     simp only[List.getElem?_map,hq,hp'.out,Option.map_some,Option.some.injEq] at h1
     exact h1
    have hqb:=Lib.hid (show q.l=p.l from congrArg Fi.b hqp)
    have hqn:=Lib.hid (show q.n=p.n from congrArg Fi.n hqp)
    have hIq0:I<q.l.length:=by rw[hqb.out];exact hI
    have hbel2:=ag hbel hb2
    have hx2:=hx.ext hb2
    have hres2:=hres.ext hb2
    have hO2':=hO2.mono hbel.size
    obtain⟨av,cv,rfl,_⟩:=hO2.rd
    clear hqs0 hcx hbel hx hres hb2 hO2 c0 c1
    go_wp2_with (refine aL rfl _ _ _ rfl #[.slice av qs.length cv,.int .i64 k] rfl rfl rfl store_size (nz _ _ _ _) ?_)
    intro w3 hb3 ho3
    have hbel3:=ag hbel2 hb3
    have hx3:=hx2.ext hb3
    have hres3:=hres2.ext hb3
    have hO3:=hO2'.below hb3
    have hgo:w.heap.size+1<w2.heap.size:=hres2.lt
    obtain⟨gg,hGG⟩:∃g,g=w2.heap.size:=⟨_,rfl⟩
    rw[←hGG] at ho3 hgo ⊢
    clear hGG hbel2 hx2 hres2 hO2' hb3
    obtain⟨g,off9,cap,cur,hv,hBg,hblk,hfit,e0,e1,_,_⟩:=hO3.file hq
    obtain⟨g2,off2,cap2,cur2,hqa,hqc,hB2,hblk2,hfit2,hset2⟩:=hO3.num hq (i:=I) hIq0
    simp only[Value.slice.injEq] at hv
    obtain⟨rfl,_,rfl⟩:=hv
    have hFq:(F:Int)<(qs.length:Int):=by omega
    have hIq:(I:Int)<(q.l.length:Int):=by omega
    rw[hqa] at e1
    have hco:=ho3.cell
    have hcf:=hblk.cell
    have hc2:w3.cell? ⟨g2,off2+I,none⟩=some (.int .i64 q.l[I]):=by
     obtain⟨_,_,e2,hc⟩:=iA ((hO3.rd).elim fun _ hx=>hx.elim fun _ hy=>(hy.2.good q (List.mem_of_getElem? hq)).rd) I hIq0
     rw[hqa] at e2
     cases e2
     exact hc
    have hba:Hid (bA (bY ps k) F I=q.l[I]):=Lib.hid (by
     unfold bA
     rw[hfi.out,Int.toNat_natCast]
     show p.l.getD I 0=_
     rw[List.getD_eq_getElem?_getD,←hqb.out,List.getElem?_eq_getElem hIq0]
     rfl)
    generalize hB0:q.l[I]=B0 at hc2 hba
    clear hB0 hqp
    go_upto_region 10 with (fail)
    by_cases hneg:B0<0
    ·have hx3':=hx3
     clear hcf hc2 hblk e0 e1
     go_wp2_with fail
     refine (Jk ps k _ c w.heap.size _ (h.below hbel3) hx3' hk80).mono ?_
     rintro r w4 ⟨rfl,hb4⟩
     have hfl:=Jq (s:=bY ps k) hk80
     have hbel4:=ag hbel3 hb4
     have hres4:=hres3.ext hb4
     have ho4:=ho3.ext hb4
     have hO4:=hO3.below hb4
     clear hx3' hbel3 hres3 ho3 hO3 hb4 hco hset2 hblk2 hx3
     have hbE:Hid (bL (bY ps k) F I=if dH (bY ps k)<0 then 10 else 0):=Lib.hid (by
      unfold bL;rw[if_neg (by rw[H0.out];simp),if_neg hnl.out,if_neg hil.out,hba.out]
      by_cases z:dH (bY ps k)<0
      ·rw[if_pos ⟨hneg,z⟩,if_pos z]
      ·rw[if_neg (fun hh=>z hh.2),if_neg z])
     generalize hX:dH (bY ps k)=X at hbE hfl
     have hX':=Lib.hid hX
     clear hX
     by_cases hX0:X<0
     ·have q0:Hid _:=Lib.hid (rG (s:=bY ps k) (k:=F) (i:=I) (e:=10) (by rw[hbE.out,if_pos hX0]) (by decide))
      have hbel:=hbel4
      have hres:=hres4
      clear hbel4 hres4 ho4 hO4
      go_wp2_with (refine ax rfl _ _ _ rfl (w.heap.size+1) #[.slice none 0 0,.int .i64 0] rfl rfl _ _ hres rfl store_size (nz none 0 0 0) ?_)
      all_goals
       intro w5 hr5 hgr5
       have hbel5:Below w.heap.size w w5:=hbel.grown hgr5 hbel.size (fun k hk=>by cases hk;omega)
       go_wp2
       refine bodyPost_ret (v:=.tuple #[.agg #[.slice none 0 0,.int .i64 0],.int .i64 0,.int .i64 (10)]) (fF results91 _ _ (w.heap.size+1) _ _ _ _ _ rfl rfl rfl hr5 underlying37 rfl store_size) rfl ?_
       have q:=q0.out
       exact⟨_,_,_,by rw[q.1,q.2.1],kD.nil _ _,by rw[q.2.2];rfl,hbel5⟩
     ·have hz:Hid (bL (bY ps k) F I=0):=Lib.hid (by rw[hbE.out,if_neg hX0])
      have hfin:Hid (dh (bY ps k) F I=X∧bL (bY ps k) F I=0∧bY (qs.set F ⟨q.n,q.a,q.l.set I X,q.c⟩) k=cO (bY ps k) F I):=Lib.hid (by
       refine⟨?_,hz.out,?_⟩
       ·unfold dh;rw[if_neg (by rw[hz.out];simp),hba.out,if_pos hneg,hX'.out]
       ·unfold cO;rw[if_neg (by rw[hz.out];simp),hba.out,if_pos hneg,hX'.out,hfi.out]
        unfold uj bY
        rw[Int.toNat_natCast,Int.toNat_natCast,List.map_set,hqs.out]
        unfold PF.fi
        rw[hqb.out,hqn.out])
      obtain⟨g3,off3,cap3,cur3,hv3,hBg3,hblk3,_,e03,e13,_,_⟩:=hO4.file hq
      obtain⟨g4,off4,cap4,cur4,hqa4,hqc4,hB4,hblk4,hfit4,hset4⟩:=hO4.num hq (i:=I) hIq0
      simp only[Value.slice.injEq] at hv3
      obtain⟨e31,_,e33⟩:=hv3
      cases e31
      subst e33
      rw[hqa4] at e13
      have hco:=ho4.cell
      have hcf:=hblk3.cell
      have hg2:gg≠g4:=fun e=>by
       subst e
       unfold aD at ho4 hblk4
       rw[ho4] at hblk4
       simp at hblk4
      go_wp2_with (refine az rfl _ _ _ rfl g4 (off4+I) _ [.int .i64 X] rfl rfl rfl _ _ hblk4 hfit4 int_size (AU _ _) ?_)
      intro w5 hb5 hgr5
      have hO9:=hset4 w5 X hb5 hgr5
      have hg9:=aW ho4 hblk4 (by decide) hgr5
      have hr9:=aW hres4 hblk4 (by decide) hgr5
      have hbel9:=hbel4.grown hgr5 hbel4.size (fun k hk=>by cases hk;exact hB4)
      clear ho4 hres4 hO4 hbel4 hblk3 hblk4 hset4 hco hcf e03 e13 hb5 hgr5
      have hcg:=hg9.cell
      go_wp2_with (first | (refine ay _ _ rfl _ 0 rfl rfl _ hg9.rd _ underlying37 rfl store_size ?_) | (refine ax rfl _ _ _ rfl (w.heap.size+1) _ rfl rfl _ _ hr9 rfl store_size (nz _ _ _ _) ?_))
      intro wf hrf hgrf
      have hOf:=hO9.keep hr9 (by decide) (by decide) hgrf
      have hbelf:=hbel9.grown hgrf hbel9.size (fun k hk=>by cases hk;omega)
      go_wp2
      refine bodyPost_ret (v:=.tuple #[.agg #[.slice _ _ _,.int .i64 k],.int .i64 (X),.int .i64 0]) (fF results91 _ _ (w.heap.size+1) _ _ _ _ _ rfl rfl rfl hrf underlying37 rfl store_size) rfl ?_
      exact⟨_,_,_,by rw[hfin.out.1,hfin.out.2.1],hOf,hfin.out.2.2,hbelf⟩
    ·have hfin:Hid (dh (bY ps k) F I=B0∧bL (bY ps k) F I=0∧bY qs k=cO (bY ps k) F I):=Lib.hid (by
      have z:bL (bY ps k) F I=0:=by unfold bL;rw[if_neg (by rw[H0.out];simp),if_neg hnl.out,if_neg hil.out,if_neg (by rw[hba.out];omega)]
      refine⟨?_,z,?_⟩
      ·unfold dh;rw[if_neg (by rw[z];simp),hba.out,if_neg hneg]
      ·unfold cO;rw[if_neg (by rw[z];simp),hba.out,if_neg hneg];unfold bY;rw[hqs.out])
     have hg9:=ho3
     have hr9:=hres3
     have hO9:=hO3
     have hbel9:=hbel3
     clear ho3 hres3 hO3 hbel3 hblk hblk2 hset2 hco hcf hc2 e0 e1
     have hcg:=hg9.cell
     go_wp2_with (first | (refine ay _ _ rfl _ 0 rfl rfl _ hg9.rd _ underlying37 rfl store_size ?_) | (refine ax rfl _ _ _ rfl (w.heap.size+1) _ rfl rfl _ _ hr9 rfl store_size (nz _ _ _ _) ?_))
     intro wf hrf hgrf
     have hOf:=hO9.keep hr9 (by decide) (by decide) hgrf
     have hbelf:=hbel9.grown hgrf hbel9.size (fun k hk=>by cases hk;omega)
     go_wp2
     refine bodyPost_ret (v:=.tuple #[.agg #[.slice _ _ _,.int .i64 k],.int .i64 (B0),.int .i64 0]) (fF results91 _ _ (w.heap.size+1) _ _ _ _ _ rfl rfl rfl hrf underlying37 rfl store_size) rfl ?_
     exact⟨_,_,_,by rw[hfin.out.1,hfin.out.2.1],hOf,hfin.out.2.2,hbelf⟩
 ·have q0:Hid _:=Lib.hid (rG (s:=bY ps k) (k:=file) (i:=index) (e:=aS (bY ps k)) (by unfold bL;rw[if_pos h0]) h0)
  have h0' : (aS (bY ps k) != 0)=true:=by simpa using h0
  clear h0
  go_wp2_with (refine ax rfl _ _ _ rfl (w.heap.size+1) #[.slice none 0 0,.int .i64 0] rfl rfl _ _ hres rfl store_size (nz none 0 0 0) ?_)
  all_goals
   intro w5 hr5 hgr5
   have hbel5:Below w.heap.size w w5:=hbel.grown hgr5 hbel.size (fun k hk=>by cases hk;omega)
   go_wp2
   refine bodyPost_ret (v:=.tuple #[.agg #[.slice none 0 0,.int .i64 0],.int .i64 0,.int .i64 (aS (bY ps k))]) (fF results91 _ _ (w.heap.size+1) _ _ _ _ _ rfl rfl rfl hr5 underlying37 rfl store_size) rfl ?_
   have q:=q0.out
   exact⟨_,_,_,by rw[q.1,q.2.1],kD.nil _ _,by rw[q.2.2];rfl,hbel5⟩
def kT (a:Ar):Array Value:=#[.int .i64 a.fr,.int .i64 a.en,.bool a.rd,.bool a.wr,.bool a.sh,.int .i64 a.fi,.int .i64 a.ba]
def jU (a:Ar):List Value:=(kT a).toList
theorem nQ (a:Ar):(jU a).length=7:=rfl
theorem Ob (a:Ar):(kT a).all (·.oneCell')=true:=by simp[kT,Value.oneCell']
theorem area_size:(Tryz.prog.info? 99).map (·.size)=some 7:=by kernel_rfl
theorem area_info:(Tryz.prog.info? 99).map (fun i=>(i.zero,i.size,i.bytes))=some (some (.agg #[.int .i64 0,.int .i64 0,.bool false,.bool false,.bool false,.int .i64 0,.int .i64 0]),7,40):=by kernel_rfl
def zi (w:World) (b o:Nat) (a:Ar):Prop:=∀j u,(jU a)[j]?=some u→w.cell? ⟨b,o+j,none⟩=some u
theorem zi.below {o:Nat} {a:Ar} (h:zi w b o a) (hb:Below w.heap.size w w'):zi w' b o a:=fun j u hj=>cell_later hb (h j u hj)
theorem zi.cells {o:Nat} {a:Ar} (h:zi w b o a):w.cell? ⟨b,o,none⟩=some (.int .i64 a.fr)∧w.cell? ⟨b,o+1,none⟩=some (.int .i64 a.en)∧w.cell? ⟨b,o+2,none⟩=some (.bool a.rd)∧w.cell? ⟨b,o+3,none⟩=some (.bool a.wr) ∧
  w.cell? ⟨b,o+4,none⟩=some (.bool a.sh)∧w.cell? ⟨b,o+5,none⟩=some (.int .i64 a.fi)∧w.cell? ⟨b,o+6,none⟩=some (.int .i64 a.ba):=
 ⟨h 0 _ rfl,h 1 _ rfl,h 2 _ rfl,h 3 _ rfl,h 4 _ rfl,h 5 _ rfl,h 6 _ rfl⟩
theorem Kq (b o:Nat) (a:Ar) (w:World) (h:zi w b o a) :
  Calls Tryz.prog 136 #[.pointer (some ⟨b,o,none⟩)] w fun e w'=>e = .returned (.int .i64 (aK a))∧Below w.heap.size w w':=by
 obtain⟨h0,h1,h2,h3,h4,h5,h6⟩:=h.cells
 go_enter func136,ntmps136
 go_upto_region 1 with (fail)
 by_cases g1:a.fr<0
 ·have hz:Hid (aK a=3):=Lib.hid (by unfold aK;rw[if_pos (by omega)])
  go_quiet (fail)
  go_wp2
  go_ret
  exact⟨aV hz.out.symm,below_drewN (Below.refl _ _) _⟩
 ·by_cases g2:a.en≤a.fr
  ·have hz:Hid (aK a=3):=Lib.hid (by unfold aK;rw[if_pos (by omega)])
   go_quiet (fail)
   go_wp2
   go_ret
   exact⟨aV hz.out.symm,below_drewN (Below.refl _ _) _⟩
  ·by_cases g3:64<a.en
   ·have hz:Hid (aK a=3):=Lib.hid (by unfold aK;rw[if_pos (by omega)])
    go_quiet (fail)
    go_wp2
    go_ret
    exact⟨aV hz.out.symm,below_drewN (Below.refl _ _) _⟩
   ·by_cases g4:a.fi < -1
    ·have hz:Hid (aK a=3):=Lib.hid (by unfold aK;rw[if_pos (by omega)])
     go_quiet (fail)
     go_wp2
     go_ret
     exact⟨aV hz.out.symm,below_drewN (Below.refl _ _) _⟩
    ·by_cases g5:5≤a.fi
     ·have hz:Hid (aK a=3):=Lib.hid (by unfold aK;rw[if_pos (by omega)])
      go_quiet (fail)
      go_wp2
      go_ret
      exact⟨aV hz.out.symm,below_drewN (Below.refl _ _) _⟩
     ·by_cases g6:a.ba<0
      ·have hz:Hid (aK a=3):=Lib.hid (by unfold aK;rw[if_pos (by omega)])
       go_quiet (fail)
       go_wp2
       go_ret
       exact⟨aV hz.out.symm,below_drewN (Below.refl _ _) _⟩
      ·have hn1:¬(a.fr<0∨a.en≤a.fr∨64<a.en∨a.fi < -1∨5≤a.fi∨a.ba<0):=by omega
       have hw1:IntKind.i64.wrap (a.en-a.fr)=a.en-a.fr:=IntWalk.i64_in _ (by omega)
       have hw2:IntKind.i64.wrap (12-(a.en-a.fr))=12-(a.en-a.fr):=IntWalk.i64_in _ (by omega)
       go_quiet (fail)
       by_cases f1:a.fi<0
       ·by_cases f2:a.ba=0
        ·cases f3:a.sh
         ·have hz:Hid (aK a=0):=Lib.hid (by unfold aK;rw[if_neg hn1,if_neg (by rw[f3];simp;omega)])
          go_upto_region 4 with (fail)
          have d0:decide (0≤a.fi)=false:=decide_eq_false (by omega)
          go_quiet (fail)
          go_wp2
          go_ret
          exact⟨aV hz.out.symm,below_drewN (Below.refl _ _) _⟩
         ·have hz:Hid (aK a=7):=Lib.hid (by unfold aK;rw[if_neg hn1,if_pos (.inl ⟨f1,.inr f3⟩)])
          go_wp2
          go_ret
          exact⟨aV hz.out.symm,below_drewN (Below.refl _ _) _⟩
        ·have hz:Hid (aK a=7):=Lib.hid (by unfold aK;rw[if_neg hn1,if_pos (.inl ⟨f1,.inl f2⟩)])
         have f2' : (a.ba != 0)=true:=by simpa using f2
         go_wp2
         go_ret
         exact⟨aV hz.out.symm,below_drewN (Below.refl _ _) _⟩
       ·have f1' : 0≤a.fi:=by omega
        by_cases f2:12-(a.en-a.fr)<a.ba
        ·have hz:Hid (aK a=7):=Lib.hid (by unfold aK;rw[if_neg hn1,if_pos (.inr ⟨f1',f2⟩)])
         go_upto_region 4 with (fail)
         have d0:decide (0≤a.fi)=true:=decide_eq_true (by omega)
         go_quiet (fail)
         go_wp2
         go_ret
         exact⟨aV hz.out.symm,below_drewN (Below.refl _ _) _⟩
        ·have hz:Hid (aK a=0):=Lib.hid (by unfold aK;rw[if_neg hn1,if_neg (by omega)])
         go_upto_region 4 with (fail)
         have d0:decide (0≤a.fi)=true:=decide_eq_true (by omega)
         go_quiet (fail)
         go_wp2
         go_ret
         exact⟨aV hz.out.symm,below_drewN (Below.refl _ _) _⟩
theorem Ad (p q p' q' : Nat) (a b:Ar) (w:World) (h:zi w p q a) (h' : zi w p' q' b) (hs:vU a) :
  Calls Tryz.prog 137 #[.pointer (some ⟨p,q,none⟩),.pointer (some ⟨p',q',none⟩)] w fun e w'=>e = .returned (.bool (bR a b))∧Below w.heap.size w w':=by
 obtain⟨h0,h1,h2,h3,h4,h5,h6⟩:=h.cells
 obtain⟨k0,k1,k2,k3,k4,k5,k6⟩:=h'.cells
 obtain⟨s1,s2,s3⟩:=hs
 have hw1:IntKind.i64.wrap (a.ba+a.en)=a.ba+a.en:=IntWalk.i64_in _ (by omega)
 have hw2:IntKind.i64.wrap (a.ba+a.en-a.fr)=a.ba+a.en-a.fr:=IntWalk.i64_in _ (by omega)
 go_enter func137,ntmps137
 by_cases hf:0≤a.fi
 ·go_upto_region 3 with (fail)
  go_quiet (fail)
  go_upto_region 4 with (fail)
  cases g1:(a.en==b.fr)
  ·have hz:Hid (bR a b=false):=Lib.hid (by unfold bR iq;rw[if_pos hf];simp only[g1,Bool.true_and,Bool.false_and,Bool.and_false,Bool.and_true])
   go_quiet (fail)
   go_wp2
   go_ret
   exact⟨bG hz.out.symm,by first | exact below_drewN (Below.refl _ _) _ | exact below_drewN (below_drewN (Below.refl _ _) _) _⟩
  ·cases g2:(a.rd==b.rd)
   ·have hz:Hid (bR a b=false):=Lib.hid (by unfold bR iq;rw[if_pos hf];simp only[g1,g2,Bool.true_and,Bool.false_and,Bool.and_false,Bool.and_true])
    go_quiet (fail)
    go_wp2
    go_ret
    exact⟨bG hz.out.symm,by first | exact below_drewN (Below.refl _ _) _ | exact below_drewN (below_drewN (Below.refl _ _) _) _⟩
   ·cases g3:(a.wr==b.wr)
    ·have hz:Hid (bR a b=false):=Lib.hid (by unfold bR iq;rw[if_pos hf];simp only[g1,g2,g3,Bool.true_and,Bool.false_and,Bool.and_false,Bool.and_true])
     go_quiet (fail)
     go_wp2
     go_ret
     exact⟨bG hz.out.symm,by first | exact below_drewN (Below.refl _ _) _ | exact below_drewN (below_drewN (Below.refl _ _) _) _⟩
    ·cases g4:(a.sh==b.sh)
     ·have hz:Hid (bR a b=false):=Lib.hid (by unfold bR iq;rw[if_pos hf];simp only[g1,g2,g3,g4,Bool.true_and,Bool.false_and,Bool.and_false,Bool.and_true])
      go_quiet (fail)
      go_wp2
      go_ret
      exact⟨bG hz.out.symm,by first | exact below_drewN (Below.refl _ _) _ | exact below_drewN (below_drewN (Below.refl _ _) _) _⟩
     ·cases g5:(a.fi==b.fi)
      ·have hz:Hid (bR a b=false):=Lib.hid (by unfold bR iq;rw[if_pos hf];simp only[g1,g2,g3,g4,g5,Bool.true_and,Bool.false_and,Bool.and_false,Bool.and_true])
       go_quiet (fail)
       go_wp2
       go_ret
       exact⟨bG hz.out.symm,by first | exact below_drewN (Below.refl _ _) _ | exact below_drewN (below_drewN (Below.refl _ _) _) _⟩
      ·cases g6:(b.ba==(a.ba+a.en-a.fr))
       ·have hz:Hid (bR a b=false):=Lib.hid (by unfold bR iq;rw[if_pos hf];simp only[g1,g2,g3,g4,g5,g6,Bool.true_and,Bool.false_and,Bool.and_false,Bool.and_true])
        go_quiet (fail)
        go_wp2
        go_ret
        exact⟨bG hz.out.symm,by first | exact below_drewN (Below.refl _ _) _ | exact below_drewN (below_drewN (Below.refl _ _) _) _⟩
       ·have hz:Hid (bR a b=true):=Lib.hid (by unfold bR iq;rw[if_pos hf];simp only[g1,g2,g3,g4,g5,g6,Bool.true_and,Bool.false_and,Bool.and_false,Bool.and_true])
        go_quiet (fail)
        go_wp2
        go_ret
        exact⟨bG hz.out.symm,by first | exact below_drewN (Below.refl _ _) _ | exact below_drewN (below_drewN (Below.refl _ _) _) _⟩
 ·go_upto_region 4 with (fail)
  cases g1:(a.en==b.fr)
  ·have hz:Hid (bR a b=false):=Lib.hid (by unfold bR iq;rw[if_neg hf];simp only[g1,Bool.true_and,Bool.false_and,Bool.and_false,Bool.and_true])
   go_quiet (fail)
   go_wp2
   go_ret
   exact⟨bG hz.out.symm,by first | exact below_drewN (Below.refl _ _) _ | exact below_drewN (below_drewN (Below.refl _ _) _) _⟩
  ·cases g2:(a.rd==b.rd)
   ·have hz:Hid (bR a b=false):=Lib.hid (by unfold bR iq;rw[if_neg hf];simp only[g1,g2,Bool.true_and,Bool.false_and,Bool.and_false,Bool.and_true])
    go_quiet (fail)
    go_wp2
    go_ret
    exact⟨bG hz.out.symm,by first | exact below_drewN (Below.refl _ _) _ | exact below_drewN (below_drewN (Below.refl _ _) _) _⟩
   ·cases g3:(a.wr==b.wr)
    ·have hz:Hid (bR a b=false):=Lib.hid (by unfold bR iq;rw[if_neg hf];simp only[g1,g2,g3,Bool.true_and,Bool.false_and,Bool.and_false,Bool.and_true])
     go_quiet (fail)
     go_wp2
     go_ret
     exact⟨bG hz.out.symm,by first | exact below_drewN (Below.refl _ _) _ | exact below_drewN (below_drewN (Below.refl _ _) _) _⟩
    ·cases g4:(a.sh==b.sh)
     ·have hz:Hid (bR a b=false):=Lib.hid (by unfold bR iq;rw[if_neg hf];simp only[g1,g2,g3,g4,Bool.true_and,Bool.false_and,Bool.and_false,Bool.and_true])
      go_quiet (fail)
      go_wp2
      go_ret
      exact⟨bG hz.out.symm,by first | exact below_drewN (Below.refl _ _) _ | exact below_drewN (below_drewN (Below.refl _ _) _) _⟩
     ·cases g5:(a.fi==b.fi)
      ·have hz:Hid (bR a b=false):=Lib.hid (by unfold bR iq;rw[if_neg hf];simp only[g1,g2,g3,g4,g5,Bool.true_and,Bool.false_and,Bool.and_false,Bool.and_true])
       go_quiet (fail)
       go_wp2
       go_ret
       exact⟨bG hz.out.symm,by first | exact below_drewN (Below.refl _ _) _ | exact below_drewN (below_drewN (Below.refl _ _) _) _⟩
      ·cases g6:(b.ba==0)
       ·have hz:Hid (bR a b=false):=Lib.hid (by unfold bR iq;rw[if_neg hf];simp only[g1,g2,g3,g4,g5,g6,Bool.true_and,Bool.false_and,Bool.and_false,Bool.and_true])
        go_quiet (fail)
        go_wp2
        go_ret
        exact⟨bG hz.out.symm,by first | exact below_drewN (Below.refl _ _) _ | exact below_drewN (below_drewN (Below.refl _ _) _) _⟩
       ·have hz:Hid (bR a b=true):=Lib.hid (by unfold bR iq;rw[if_neg hf];simp only[g1,g2,g3,g4,g5,g6,Bool.true_and,Bool.false_and,Bool.and_false,Bool.and_true])
        go_quiet (fail)
        go_wp2
        go_ret
        exact⟨bG hz.out.symm,by first | exact below_drewN (Below.refl _ _) _ | exact below_drewN (below_drewN (Below.refl _ _) _) _⟩
theorem LP {l:List Ar} (h:dA w a (l.flatMap jU)) (k:Nat) (hk:k<l.length):∃b off,a=some ⟨b,off,none⟩∧zi w b (off+k*7) l[k]:=h.elem nQ (by decide) k hk
theorem yK {l:List Ar} (h:dA w (some ⟨b,off,none⟩) (l.flatMap jU)) (k:Nat) (hk:k<l.length):zi w b (off+k*7) l[k]:=by
 obtain⟨b',off',e,h1⟩:=LP h k hk
 cases e
 exact h1
def Jl (e:Int × Int):Array Value:=#[.int .i64 e.1,.int .i64 e.2]
theorem fau_size:(Tryz.prog.info? 150).map (·.size)=some 2:=by kernel_rfl
theorem kG (x y:Int):(#[Value.int .i64 x,Value.int .i64 y]:Array Value).all (·.oneCell')=true:=by simp[Value.oneCell']
theorem Eg (l:List Ar) (a:Option Addr) (c:Nat) (w:World) (hrd:dA w a (l.flatMap jU)) (hl:l.length≤9223372036854775807) :
  Calls Tryz.prog 111 #[.slice a l.length c] w fun e w'=>e = .returned (.agg (Jl (bF l)))∧Below w.heap.size w w':=by
 go_enter func111,ntmps111
 go_upto_region 1 with (fail)
 refine gB (fun W=>Code.wp _ _ _ _ W) fun W0 hbel hres hs0 => ?_
 clear hs0
 by_cases h16:16<l.length
 ·have h16' : (16:Int)<(l.length:Int):=by omega
  have hz:Hid (bF l=(4,0)):=Lib.hid (by unfold bF;rw[if_pos h16])
  go_wp2_with (refine ax rfl _ _ _ rfl w.heap.size #[.int .i64 (4),.int .i64 (0)] rfl rfl _ _ hres rfl fau_size (kG _ _) ?_)
  intro w5 hr5 hgr5
  have hbel5:Below w.heap.size w w5:=hbel.grown hgr5 hbel.size (fun k hk=>by cases hk;exact Nat.le_refl _)
  go_wp2
  refine bodyPost_ret (v:=.agg #[.int .i64 (4),.int .i64 (0)]) (dF results111 _ _ w.heap.size _ _ _ rfl hr5 underlying150 rfl fau_size) rfl ?_
  exact⟨by rw[hz.out];rfl,hbel5⟩
 ·have h16' : ¬(16:Int)<(l.length:Int):=by omega
  have h0:Hid (bF l=gV (lT l 0) 0 (l.drop 0)):=Lib.hid (by unfold bF;rw[if_neg h16];rfl)
  go_upto_region 4 with (fail)
  go_loopw [11] (fun i wr => ∃k:Nat,k≤l.length∧i = .int .i64 k∧Below w.heap.size w wr∧aD wr w.heap.size #[.int .i64 0,.int .i64 0] 150∧(∀i (h:i<l.length),i<k→aK l[i]=0)∧Hid (bF l=gV (lT l k) k (l.drop k))) (fun i _=>l.length-(intOf i).toNat)
  case atStart=>exact⟨0,Nat.zero_le _,rfl,hbel,hres,fun i _ h=>absurd h (Nat.not_lt_zero _),h0⟩
  case round=>
   clear hbel hres h0
   obtain⟨k,hk,rfl,hbel,hres,hp0,hst⟩:=hrel
   have hp:=Lib.hid hp0
   clear hp0
   by_cases hlt:k<l.length
   ·obtain⟨b,off,rfl,hA⟩:=LP (hrd.below hbel) k hlt
    have hki:(k:Int)<(l.length:Int):=by omega
    go_wp2_with fail
    refine (Kq b (off+k*7) l[k] _ hA).mono ?_
    rintro r w2 ⟨rfl,hb2⟩
    have hbel2:=ag hbel hb2
    have hres2:=hres.ext hb2
    clear hbel hres hb2 hA
    by_cases he:aK l[k]=0
    ·have he':=Lib.hid he
     rw[he]
     clear he
     go_upto_region 9 with (fail)
     by_cases hk0:k=0
     ·subst hk0
      have hd0:decide ((0:Int)<((0:Nat):Int))=false:=rfl
      have hnx:Hid (bF l=gV (lT l (0+1)) (0+1) (l.drop (0+1))):=Lib.hid (by rw[hst.out];exact qd hlt he'.out rfl)
      go_quiet (fail)
      go_wp2
      go_roundw
      case rel=>exact⟨0+1,by omega,by go_num,below_drewN hbel2 _,hres2.drewN _,kV hp.out hlt he'.out,hnx⟩
      case measure=>simp[intOf];omega
     ·obtain⟨m,rfl⟩:∃m,k=m+1:=⟨k-1,by omega⟩
      have hd0:decide ((0:Int)<((m+1:Nat):Int))=true:=decide_eq_true (by omega)
      have hm1:IntKind.i64.wrap (((m+1:Nat):Int)-1)=(m:Int):=by rw[IntWalk.i64_in _ (by omega)];omega
      have hml:m<l.length:=by omega
      have hm2:IntKind.i64.wrap (m:Int)=(m:Int):=IntWalk.i64_in _ (by omega)
      have hg1:(0:Int)≤(m:Int)+1:=by omega
      have hg2:(m:Int)+1<(l.length:Int):=by omega
      have hg3:((m:Int)+1).toNat=m+1:=by omega
      have hbp:=Lib.hid (DC hlt)
      have hfm:=(aX (hp.out m hml (by omega))).1
      have hf1:=(aX he'.out).1
      have hRd:=hrd.below hbel2
      have hPk:=yK hRd (m+1) hlt
      have hPm:=yK hRd m hml
      generalize hA1:l[m+1]=A1 at *
      generalize hA0:l[m]=A0 at *
      by_cases hov:A1.fr<A0.en
      ·have hz:Hid (bF l=(2,((m+1:Nat):Int))):=Lib.hid (by rw[hst.out];exact pG hlt (by rw[hA1];exact he'.out) (by rw[hA1,hbp.out,decide_eq_true hov];rfl))
       refine aG 26 [_,_,_,_,_,_,.v (.pointer (some ⟨b,off+m*7,none⟩)),_,.v (.int .i64 A0.en),_,_,.v (.pointer (some ⟨b,off+(m+1)*7,none⟩)),_,.v (.int .i64 A1.fr),_,_,_,_,_,_,_,_,_,_,_,.v (.bool true)] (Gk rfl (Gb (.bool true) (by simp[go_sem]) rfl rfl rfl rfl rfl (Gk rfl (Gk rfl (Gk rfl (Gb (.int .i64 (m:Int)) (by simp[go_sem,hm1,hm2]) rfl rfl rfl rfl rfl (ae ?_ (Gf b (off+m*7+1) rfl rfl (ae ?_ (Gk rfl (Gk rfl (ae ?_ (Gf b (off+(m+1)*7) rfl rfl (ae ?_ (Gb (.bool true) (by simp[go_sem,hov]) rfl rfl rfl rfl rfl (Gk rfl (Gk rfl (Gk rfl (Gk rfl (Gk rfl (Gk rfl (Gk rfl (Gk rfl (Gk rfl (Gk rfl (Gk rfl (aB))))))))))))))))))))))))))) (fun _=>rfl) rfl ?_
       ·intro ρ y W hw hn hb hd;have E26:=hw 26 3 rfl;have h3:y 3=_:=hd 3 rfl;have E28:=hw 28 5 rfl;have h5:y 5=_:=hd 5 rfl
        refine aj (.pointer (some ⟨b,off+m*7,none⟩)) (aQ 2 25 true true rfl rfl ((hw 25 2 rfl).trans (hd 2 rfl))) (by simp[execOp,go_sem,E26,h3,E28,h5,hml]) rfl
       ·intro ρ y W hw hn hb hd;have E30:=hw 30 7 rfl;have h7:y 7=_:=hd 7 rfl
        have hc0:=(hPm.below hb).cells.2.1
        refine aj (.int .i64 A0.en) (aQ 2 25 true true rfl rfl ((hw 25 2 rfl).trans (hd 2 rfl))) (by simp[execOp,go_sem,E30,h7,hc0]) rfl
       ·intro ρ y W hw hn hb hd;have E32:=hw 32 9 rfl;have h9:y 9=_:=hd 9 rfl;have E33:=hw 33 10 rfl;have h10:y 10=_:=hd 10 rfl
        refine aj (.pointer (some ⟨b,off+(m+1)*7,none⟩)) (aQ 2 25 true true rfl rfl ((hw 25 2 rfl).trans (hd 2 rfl))) (by simp[execOp,go_sem,E32,h9,E33,h10,hlt,hg1,hg2,hg3]) rfl
       ·intro ρ y W hw hn hb hd;have E35:=hw 35 12 rfl;have h12:y 12=_:=hd 12 rfl
        have hc0:=(hPk.below hb).cells.1
        refine aj (.int .i64 A1.fr) (aQ 2 25 true true rfl rfl ((hw 25 2 rfl).trans (hd 2 rfl))) (by simp[execOp,go_sem,E35,h12,hc0]) rfl
       intro y WA hbWA _
       have hbel:=ag hbel2 hbWA
       have hres:=hres2.ext hbWA
       clear hbel2 hres2
       go_wp2_with (refine ax rfl _ _ _ rfl w.heap.size #[.int .i64 (2),.int .i64 (((m+1:Nat):Int))] rfl rfl _ _ hres rfl fau_size (kG _ _) ?_)
       intro w5 hr5 hgr5
       have hbel5:Below w.heap.size w w5:=hbel.grown hgr5 hbel.size (fun k hk=>by cases hk;exact Nat.le_refl _)
       go_wp2
       refine bodyPost_ret (v:=.agg #[.int .i64 (2),.int .i64 (((m+1:Nat):Int))]) (dF results111 _ _ w.heap.size _ _ _ rfl hr5 underlying150 rfl fau_size) rfl ?_
       exact⟨by rw[hz.out];rfl,hbel5⟩
      ·cases hj:bR A0 A1
       ·have hnx:Hid (bF l=gV (lT l (m+1+1)) (m+1+1) (l.drop (m+1+1))):=Lib.hid (by rw[hst.out];exact qd hlt (by rw[hA1];exact he'.out) (by rw[hA1,hbp.out,decide_eq_false hov,hj];rfl))
        refine aG 26 [_,_,_,_,_,_,.v (.pointer (some ⟨b,off+m*7,none⟩)),_,.v (.int .i64 A0.en),_,_,.v (.pointer (some ⟨b,off+(m+1)*7,none⟩)),_,.v (.int .i64 A1.fr),_,_,_,_,_,.v (.pointer (some ⟨b,off+m*7,none⟩)),_,_,.v (.pointer (some ⟨b,off+(m+1)*7,none⟩)),.v (.bool false),_,.v (.bool false)] (Gk rfl (Gb (.bool true) (by simp[go_sem]) rfl rfl rfl rfl rfl (Gk rfl (Gk rfl (Gk rfl (Gb (.int .i64 (m:Int)) (by simp[go_sem,hm1,hm2]) rfl rfl rfl rfl rfl (ae ?_ (Gf b (off+m*7+1) rfl rfl (ae ?_ (Gk rfl (Gk rfl (ae ?_ (Gf b (off+(m+1)*7) rfl rfl (ae ?_ (Gb (.bool false) (by simp[go_sem,hov]) rfl rfl rfl rfl rfl (Gk rfl (Gk rfl (Gk rfl (Gb (.int .i64 (m:Int)) (by simp[go_sem,hm1,hm2]) rfl rfl rfl rfl rfl (ae ?_ (Gk rfl (Gk rfl (ae ?_ (ae ?_ (Gk rfl (Gk rfl (aB))))))))))))))))))))))))))) (fun _=>rfl) rfl ?_
        ·intro ρ y W hw hn hb hd;have E26:=hw 26 3 rfl;have h3:y 3=_:=hd 3 rfl;have E28:=hw 28 5 rfl;have h5:y 5=_:=hd 5 rfl
         refine aj (.pointer (some ⟨b,off+m*7,none⟩)) (aQ 2 25 true true rfl rfl ((hw 25 2 rfl).trans (hd 2 rfl))) (by simp[execOp,go_sem,E26,h3,E28,h5,hml]) rfl
        ·intro ρ y W hw hn hb hd;have E30:=hw 30 7 rfl;have h7:y 7=_:=hd 7 rfl
         have hc0:=(hPm.below hb).cells.2.1
         refine aj (.int .i64 A0.en) (aQ 2 25 true true rfl rfl ((hw 25 2 rfl).trans (hd 2 rfl))) (by simp[execOp,go_sem,E30,h7,hc0]) rfl
        ·intro ρ y W hw hn hb hd;have E32:=hw 32 9 rfl;have h9:y 9=_:=hd 9 rfl;have E33:=hw 33 10 rfl;have h10:y 10=_:=hd 10 rfl
         refine aj (.pointer (some ⟨b,off+(m+1)*7,none⟩)) (aQ 2 25 true true rfl rfl ((hw 25 2 rfl).trans (hd 2 rfl))) (by simp[execOp,go_sem,E32,h9,E33,h10,hlt,hg1,hg2,hg3]) rfl
        ·intro ρ y W hw hn hb hd;have E35:=hw 35 12 rfl;have h12:y 12=_:=hd 12 rfl
         have hc0:=(hPk.below hb).cells.1
         refine aj (.int .i64 A1.fr) (aQ 2 25 true true rfl rfl ((hw 25 2 rfl).trans (hd 2 rfl))) (by simp[execOp,go_sem,E35,h12,hc0]) rfl
        ·intro ρ y W hw hn hb hd;have E39:=hw 39 16 rfl;have h16:y 16=_:=hd 16 rfl;have E41:=hw 41 18 rfl;have h18:y 18=_:=hd 18 rfl
         refine aj (.pointer (some ⟨b,off+m*7,none⟩)) (aQ 15 38 false false rfl rfl ((hw 38 15 rfl).trans (hd 15 rfl))) (by simp[execOp,go_sem,E39,h16,E41,h18,hml]) rfl
        ·intro ρ y W hw hn hb hd;have E43:=hw 43 20 rfl;have h20:y 20=_:=hd 20 rfl;have E44:=hw 44 21 rfl;have h21:y 21=_:=hd 21 rfl
         refine aj (.pointer (some ⟨b,off+(m+1)*7,none⟩)) (aQ 15 38 false false rfl rfl ((hw 38 15 rfl).trans (hd 15 rfl))) (by simp[execOp,go_sem,E43,h20,E44,h21,hlt,hg1,hg2,hg3]) rfl
        ·intro ρ y W hw hn hb hd;have E42:=hw 42 19 rfl;have h19:y 19=_:=hd 19 rfl;have E45:=hw 45 22 rfl;have h22:y 22=_:=hd 22 rfl
         have EF:∀f,ρ (.func f) = .func (.func f) #[] #[]:=fun f=>hn (.func f) trivial
         refine aM _ _ (aQ 15 38 false false rfl rfl ((hw 38 15 rfl).trans (hd 15 rfl))) (aN rfl (EF _) func137 (by kernel_rfl) (by kernel_rfl) (by simp only[List.map_toArray,List.map_cons,List.map_nil,E42,h19,E45,h22,EF];rfl)) ?_
         refine (Ad b (off+m*7) b (off+(m+1)*7) A0 A1 W (hPm.below hb) (hPk.below hb) hfm).mono ?_
         rintro r w1 ⟨rfl,hb1⟩
         rw[hj]
         exact⟨_,rfl,hb1,rfl⟩
        intro y WA hbWA _
        have hbel:=ag hbel2 hbWA
        have hres:=hres2.ext hbWA
        have hup:Hid (∀i (h:i<l.length),i<m+1+1→aK l[i]=0):=Lib.hid (kV hp.out hlt (by rw[hA1];exact he'.out))
        clear hbel2 hres2 hg1 hg2 hg3 hm1 hm2
        go_wp2
        go_roundw
        case rel=>exact⟨m+1+1,by omega,by go_num,hbel,hres,hup.out,hnx⟩
        case measure=>simp[intOf];omega
       ·have hz:Hid (bF l=(2,((m+1:Nat):Int))):=Lib.hid (by rw[hst.out];exact pG hlt (by rw[hA1];exact he'.out) (by rw[hA1,hbp.out,hj,Bool.or_true]))
        refine aG 26 [_,_,_,_,_,_,.v (.pointer (some ⟨b,off+m*7,none⟩)),_,.v (.int .i64 A0.en),_,_,.v (.pointer (some ⟨b,off+(m+1)*7,none⟩)),_,.v (.int .i64 A1.fr),_,_,_,_,_,.v (.pointer (some ⟨b,off+m*7,none⟩)),_,_,.v (.pointer (some ⟨b,off+(m+1)*7,none⟩)),.v (.bool true),_,.v (.bool true)] (Gk rfl (Gb (.bool true) (by simp[go_sem]) rfl rfl rfl rfl rfl (Gk rfl (Gk rfl (Gk rfl (Gb (.int .i64 (m:Int)) (by simp[go_sem,hm1,hm2]) rfl rfl rfl rfl rfl (ae ?_ (Gf b (off+m*7+1) rfl rfl (ae ?_ (Gk rfl (Gk rfl (ae ?_ (Gf b (off+(m+1)*7) rfl rfl (ae ?_ (Gb (.bool false) (by simp[go_sem,hov]) rfl rfl rfl rfl rfl (Gk rfl (Gk rfl (Gk rfl (Gb (.int .i64 (m:Int)) (by simp[go_sem,hm1,hm2]) rfl rfl rfl rfl rfl (ae ?_ (Gk rfl (Gk rfl (ae ?_ (ae ?_ (Gk rfl (Gk rfl (aB))))))))))))))))))))))))))) (fun _=>rfl) rfl ?_
        ·intro ρ y W hw hn hb hd;have E26:=hw 26 3 rfl;have h3:y 3=_:=hd 3 rfl;have E28:=hw 28 5 rfl;have h5:y 5=_:=hd 5 rfl
         refine aj (.pointer (some ⟨b,off+m*7,none⟩)) (aQ 2 25 true true rfl rfl ((hw 25 2 rfl).trans (hd 2 rfl))) (by simp[execOp,go_sem,E26,h3,E28,h5,hml]) rfl
        ·intro ρ y W hw hn hb hd;have E30:=hw 30 7 rfl;have h7:y 7=_:=hd 7 rfl
         have hc0:=(hPm.below hb).cells.2.1
         refine aj (.int .i64 A0.en) (aQ 2 25 true true rfl rfl ((hw 25 2 rfl).trans (hd 2 rfl))) (by simp[execOp,go_sem,E30,h7,hc0]) rfl
        ·intro ρ y W hw hn hb hd;have E32:=hw 32 9 rfl;have h9:y 9=_:=hd 9 rfl;have E33:=hw 33 10 rfl;have h10:y 10=_:=hd 10 rfl
         refine aj (.pointer (some ⟨b,off+(m+1)*7,none⟩)) (aQ 2 25 true true rfl rfl ((hw 25 2 rfl).trans (hd 2 rfl))) (by simp[execOp,go_sem,E32,h9,E33,h10,hlt,hg1,hg2,hg3]) rfl
        ·intro ρ y W hw hn hb hd;have E35:=hw 35 12 rfl;have h12:y 12=_:=hd 12 rfl
         have hc0:=(hPk.below hb).cells.1
         refine aj (.int .i64 A1.fr) (aQ 2 25 true true rfl rfl ((hw 25 2 rfl).trans (hd 2 rfl))) (by simp[execOp,go_sem,E35,h12,hc0]) rfl
        ·intro ρ y W hw hn hb hd;have E39:=hw 39 16 rfl;have h16:y 16=_:=hd 16 rfl;have E41:=hw 41 18 rfl;have h18:y 18=_:=hd 18 rfl
         refine aj (.pointer (some ⟨b,off+m*7,none⟩)) (aQ 15 38 false false rfl rfl ((hw 38 15 rfl).trans (hd 15 rfl))) (by simp[execOp,go_sem,E39,h16,E41,h18,hml]) rfl
        ·intro ρ y W hw hn hb hd;have E43:=hw 43 20 rfl;have h20:y 20=_:=hd 20 rfl;have E44:=hw 44 21 rfl;have h21:y 21=_:=hd 21 rfl
         refine aj (.pointer (some ⟨b,off+(m+1)*7,none⟩)) (aQ 15 38 false false rfl rfl ((hw 38 15 rfl).trans (hd 15 rfl))) (by simp[execOp,go_sem,E43,h20,E44,h21,hlt,hg1,hg2,hg3]) rfl
        ·intro ρ y W hw hn hb hd;have E42:=hw 42 19 rfl;have h19:y 19=_:=hd 19 rfl;have E45:=hw 45 22 rfl;have h22:y 22=_:=hd 22 rfl
         have EF:∀f,ρ (.func f) = .func (.func f) #[] #[]:=fun f=>hn (.func f) trivial
         refine aM _ _ (aQ 15 38 false false rfl rfl ((hw 38 15 rfl).trans (hd 15 rfl))) (aN rfl (EF _) func137 (by kernel_rfl) (by kernel_rfl) (by simp only[List.map_toArray,List.map_cons,List.map_nil,E42,h19,E45,h22,EF];rfl)) ?_
         refine (Ad b (off+m*7) b (off+(m+1)*7) A0 A1 W (hPm.below hb) (hPk.below hb) hfm).mono ?_
         rintro r w1 ⟨rfl,hb1⟩
         rw[hj]
         exact⟨_,rfl,hb1,rfl⟩
        intro y WA hbWA _
        have hbel:=ag hbel2 hbWA
        have hres:=hres2.ext hbWA
        clear hbel2 hres2
        go_wp2_with (refine ax rfl _ _ _ rfl w.heap.size #[.int .i64 (2),.int .i64 (((m+1:Nat):Int))] rfl rfl _ _ hres rfl fau_size (kG _ _) ?_)
        intro w5 hr5 hgr5
        have hbel5:Below w.heap.size w w5:=hbel.grown hgr5 hbel.size (fun k hk=>by cases hk;exact Nat.le_refl _)
        go_wp2
        refine bodyPost_ret (v:=.agg #[.int .i64 (2),.int .i64 (((m+1:Nat):Int))]) (dF results111 _ _ w.heap.size _ _ _ rfl hr5 underlying150 rfl fau_size) rfl ?_
        exact⟨by rw[hz.out];rfl,hbel5⟩
    ·have hz:Hid (bF l=(aK l[k],(k:Int))):=Lib.hid (by rw[hst.out];exact Ag hlt he)
     have he' : (aK l[k] != 0)=true:=by simpa using he
     have hbel:=hbel2
     have hres:=hres2
     clear he hbel2 hres2
     go_wp2_with (refine ax rfl _ _ _ rfl w.heap.size #[.int .i64 (aK l[k]),.int .i64 (k)] rfl rfl _ _ hres rfl fau_size (kG _ _) ?_)
     intro w5 hr5 hgr5
     have hbel5:Below w.heap.size w w5:=hbel.grown hgr5 hbel.size (fun k hk=>by cases hk;exact Nat.le_refl _)
     go_wp2
     refine bodyPost_ret (v:=.agg #[.int .i64 (aK l[k]),.int .i64 (k)]) (dF results111 _ _ w.heap.size _ _ _ rfl hr5 underlying150 rfl fau_size) rfl ?_
     exact⟨by rw[hz.out];rfl,hbel5⟩
   ·have hz:Hid (bF l=(0,0)):=Lib.hid (by rw[hst.out,List.drop_eq_nil_of_le (by omega)];rfl)
    go_wp2_with (refine ax rfl _ _ _ rfl w.heap.size #[.int .i64 (0),.int .i64 (0)] rfl rfl _ _ hres rfl fau_size (kG _ _) ?_)
    intro w5 hr5 hgr5
    have hbel5:Below w.heap.size w w5:=hbel.grown hgr5 hbel.size (fun k hk=>by cases hk;exact Nat.le_refl _)
    go_wp2
    refine bodyPost_ret (v:=.agg #[.int .i64 (0),.int .i64 (0)]) (dF results111 _ _ w.heap.size _ _ _ rfl hr5 underlying150 rfl fau_size) rfl ?_
    exact⟨by rw[hz.out];rfl,hbel5⟩
theorem Fy {l:List Ar} (h:dA w a (l.flatMap jU)) (k:Nat) (hk:k<l.length):∃b off,a=some ⟨b,off,none⟩∧w.cell? ⟨b,off+k*7,none⟩=some (.int .i64 l[k].fr)∧w.cell? ⟨b,off+k*7+1,none⟩=some (.int .i64 l[k].en)∧w.cell? ⟨b,off+k*7+2,none⟩=some (.bool l[k].rd)∧w.cell? ⟨b,off+k*7+3,none⟩=some (.bool l[k].wr) ∧
  w.cell? ⟨b,off+k*7+4,none⟩=some (.bool l[k].sh)∧w.cell? ⟨b,off+k*7+5,none⟩=some (.int .i64 l[k].fi)∧w.cell? ⟨b,off+k*7+6,none⟩=some (.int .i64 l[k].ba):=by
 obtain⟨b,off,e,h1⟩:=LP h k hk
 exact⟨b,off,e,h1.cells⟩
theorem GZ (a:Ar) (g:Nat) (n:Int) (w:World) (hg:aD w g #[.int .i64 n] 3) :
  Calls Tryz.prog 121 #[.agg #[.int .i64 a.fr,.int .i64 a.en,.bool a.rd,.bool a.wr,.bool a.sh,.int .i64 a.fi,.int .i64 a.ba],.pointer (some ⟨g,0,none⟩)] w fun r w'=>r = .returned (.bool (kU n a))∧Below w.heap.size w w':=by
 go_enter func121,ntmps121
 go_upto_region 1 with (fail)
 refine gB (fun W=>Code.wp _ _ _ _ W) fun W0 hb0 hx0 hs0 => ?_
 clear hs0
 have hgx:=(hg.ext hb0).cell 0
 have hcx:=hx0.cell
 by_cases h1:a.fr≤n
 ·by_cases h2:n<a.en
  ·have hz:=Lib.hid (show kU n a=true by unfold kU;rw[decide_eq_true h1,decide_eq_true h2];rfl)
   go_wp2
   go_ret
   exact⟨bG hz.out.symm,hb0⟩
  ·have hz:=Lib.hid (show kU n a=false by unfold kU;rw[decide_eq_false h2,Bool.and_false])
   go_wp2
   go_ret
   exact⟨bG hz.out.symm,hb0⟩
 ·have hz:=Lib.hid (show kU n a=false by unfold kU;rw[decide_eq_false h1,Bool.false_and])
  go_wp2
  go_ret
  exact⟨bG hz.out.symm,hb0⟩
theorem DD (l:List Ar) (a:Option Addr) (c:Nat) (w:World) (hrd:dA w a (l.flatMap jU)) (hl:l.length≤9223372036854775807) (g:Nat) (n:Int) (hg:aD w g #[.int .i64 n] 3) :
  Calls Tryz.prog 120 #[.slice a l.length c,.func (.func 121) #[] #[.pointer (some ⟨g,0,none⟩)]] w fun e w'=>e = .returned (.int .i64 (idx (kU n) l))∧Below w.heap.size w w':=by
 go_enter func120,ntmps120
 go_wp2
 go_loopw [8] (fun i wr => ∃k:Nat,k≤l.length∧i = .int .i64 k∧Below w.heap.size w wr∧∀i (h:i<l.length),i<k→(kU n) l[i]=false) (fun i _=>l.length-(intOf i).toNat)
 case atStart=>exact⟨0,Nat.zero_le _,rfl,Below.refl _ _,fun i _ h=>absurd h (Nat.not_lt_zero _)⟩
 case round=>
  obtain⟨k,hk,rfl,hbr,hp0⟩:=hrel
  have hp:=Lib.hid hp0
  clear hp0
  by_cases hlt:k<l.length
  ·obtain⟨b,off,rfl,c0,c1,c2,c3,c4,c5,c6⟩:=Fy (hrd.below hbr) k hlt
   go_wp2_with fail
   refine (GZ l[k] g n _ (hg.ext hbr)).mono ?_
   rintro e w2 ⟨rfl,hb2⟩
   have hbel2:=ag hbr hb2
   clear hb2
   cases hpk:(kU n) l[k]
   ·have hpk':=Lib.hid hpk
    clear hpk
    go_wp2
    go_roundw
    case rel=>exact⟨k+1,by omega,by go_num,hbel2,kV hp.out hlt hpk'.out⟩
    case measure=>simp[intOf];omega
   ·have hfin:=Lib.hid (nW (kU n) l k hlt hp.out hpk)
    clear hpk
    go_wp2
    go_ret
    exact⟨aV hfin.out.symm,hbel2⟩
  ·have hfin:=Lib.hid (jQ (kU n) l fun i h=>hp.out i h (by omega))
   go_wp2
   go_ret
   exact⟨aV hfin.out.symm,hbr⟩
theorem Ji (l:List Ar) (n:Int) (a:Option Addr) (c:Nat) (w:World) (hrd:dA w a (l.flatMap jU)) (hl:l.length≤9223372036854775807) :
  Calls Tryz.prog 81 #[.slice a l.length c,.int .i64 n] w fun r w'=>r = .returned (.int .i64 (iW l n))∧Below w.heap.size w w':=by
 go_enter func81,ntmps81
 go_upto_region 1 with (fail)
 refine gB (fun W=>Code.wp _ _ _ _ W) fun W0 hb0 hx0 hs0 => ?_
 clear hs0
 go_wp2_with fail
 refine (DD l a c _ (hrd.below hb0) hl w.heap.size n hx0).mono ?_
 rintro r w1 ⟨rfl,hb1⟩
 go_wp2
 go_ret
 exact⟨rfl,ag hb0 hb1⟩
theorem IL (l:List Ar):(l.flatMap jU).length=l.length*7:=Pw.flat_len jU 7 nQ l
theorem Nq (a:Ar):∀u∈jU a,u.oneCell' = true:=by
 intro u hu
 simp only[jU,kT,List.mem_cons,List.not_mem_nil,or_false] at hu
 rcases hu with rfl|rfl|rfl|rfl|rfl|rfl|rfl<;>rfl
theorem mH (l:List Ar):∀u∈l.flatMap jU,u.oneCell' = true:=by
 intro u hu
 obtain⟨a,_,h⟩:=List.mem_flatMap.1 hu
 exact Nq a u h
theorem Ct (l:List Ar) (a:Option Addr) (c:Nat) (w:World) (hle:l.length≤c) (hnil:a=none→c=0) (hrd:dA w a (l.flatMap jU)) (hb:l.length*40≤140737488355328) :
  Calls Tryz.prog 41 #[.slice a l.length c] w fun e w' => ∃v,e = .returned v∧Own w' w.heap.size 99 7 v l.length (l.flatMap jU)∧Below w.heap.size w w':=by
 cases a with
 | none=>
  have h0:=hnil rfl
  have hl:l=[]:=List.eq_nil_of_length_eq_zero (by omega)
  subst hl
  subst h0
  have hq:=fun W=>Lib.run_eql_slice_nil (P:=Tryz.prog) W 50 _ none 0 0 0 0 underlying50
  go_enter func41,ntmps41
  go_wp2
  go_ret
  exact⟨_,rfl,by simpa using Own.nil _ _ _ _,Below.refl _ _⟩
 | some ad=>
  have hq:=fun W=>Lib.run_eql_slice_nil (P:=Tryz.prog) W 50 _ (some ad) l.length c 0 0 underlying50
  go_enter func41,ntmps41
  go_wp2_with (at_builtin;go_must (refine dI rfl _ _ 50 rfl w.heap.size 99 (.agg #[.int .i64 0,.int .i64 0,.bool false,.bool false,.bool false,.int .i64 0,.int .i64 0]) 7 40 underlying50 area_info rfl (by decide) _ 0 [] rfl ?own (some ad) l.length c (l.flatMap jU) rfl (fun h=>(by cases h)) hle (IL l) ?rd (mH l) (by unfold maxLen;omega) (by simpa using hb) ?bb ?k))
  case own=>exact⟨rfl,.inr ⟨w.heap.size,0,0,#[],rfl,Nat.le_refl _,aD.new _ _ _,Nat.le_refl _,Nat.zero_le _,by simp,fun j u h=>by simp at h⟩⟩
  case rd=>exact hrd.below ((Below.refl _ _).alloc (Nat.le_refl _) _)
  case bb=>exact ed _ _
  intro v w1 hown hgr
  go_wp2
  go_ret
  exact⟨v,rfl,by simpa using hown,((Below.refl _ _).alloc (Nat.le_refl _) _).grown hgr (ed _ _) (fun k hk=>by cases hk;exact Nat.le_refl _)⟩
structure Pv (w:World) (a:Option Addr) (c:Nat) (l:List Ar):Prop where
 le:l.length≤c
 mx:c≤maxLen
 nl:a=none→c=0
 rd:dA w a (l.flatMap jU)
theorem Pv.below {l:List Ar} (h:Pv w a c l) (hb:Below w.heap.size w w'):Pv w' a c l:=⟨h.le,h.mx,h.nl,h.rd.below hb⟩
def Qc (x:Ar):jJ:=⟨fun v w => ∃g,v = .slice (some ⟨g,0,none⟩) 1 1∧aD w g (kT x) 99,fun _ _ _ hb ⟨g,h1,h2⟩=>⟨g,h1,h2.ext hb⟩⟩
theorem own_not {l:List Ar} {x:Ar} (h:Own w B 99 7 v l.length (l.flatMap jU)) (hg:aD w g (kT x) 99) (hx:¬x∈l) (h0:0<l.length):∀b,v.ownBlock=some b→g≠b:=by
 rintro b hb rfl
 rcases h with ⟨hlen,⟨rfl,_⟩|⟨b',off,cap,cur,rfl,hB,hk,hc,hm,hs,ht⟩⟩
 ·cases hb
 ·cases hb
  unfold aD at hk hg
  rw[hk] at hg
  simp only[Option.some.injEq,Obj.cells.injEq,and_true] at hg
  subst hg
  have h7:(kT x).size=7:=rfl
  have ho:off=0:=by omega
  subst ho
  match l,h0 with
  | y::r,_=>
   have hc:∀(j:Nat) (u:Value),(jU y)[j]?=some u→(kT x)[j]?=some u:=by
    intro j u hj
    have:=ht j u (by rw[List.flatMap_cons,List.getElem?_append_left (by have:=(List.getElem?_eq_some_iff.1 hj).1;exact this)];exact hj)
    rwa [Nat.zero_add] at this
   have e0:=hc 0 _ rfl
   have e1:=hc 1 _ rfl
   have e2:=hc 2 _ rfl
   have e3:=hc 3 _ rfl
   have e4:=hc 4 _ rfl
   have e5:=hc 5 _ rfl
   have e6:=hc 6 _ rfl
   simp[kT] at e0 e1 e2 e3 e4 e5 e6
   refine hx (List.mem_cons.2 (.inl ?_))
   cases x
   cases y
   simp_all
theorem qK {d:TypeDesc} (ht:P.underlying t=some (.array n e)) (he:P.underlying e=some d) (hd:aggB d=true) (hs:(P.info? e).map (·.size)=some sz)
 (cs:Array Value) (k:Nat) (vs:Array Value) (hk:k<n) (hv:cs.extract (k*sz) (k*sz+sz)=vs) (kk:IntKind) (w:World):(Instr.index t (.agg cs) (.int kk k)).run P w = .ok (.agg vs) w:=by
 have hsz:∀w,(Go.sizeOf e).run P w = .ok sz w:=by
  intro w
  cases hq:P.info? e with
  | none=>simp[hq] at hs
  | some i=>
   have hz:i.size=sz:=by simpa[hq] using hs
   simp[Go.sizeOf,typeInfo,run_program,hq,hz]
 have ha:∀w,(isAgg e).run P w = .ok true w:=by
  intro w
  unfold isAgg
  simp[run_underlying he]
  cases d<;>simp_all[aggB]
 simp[Instr.index,part,asIntOf,run_underlying ht,hsz,hk,ha,go_sem,hv]
theorem qI (l:List Int) (a:Option Addr) (c:Nat) (w:World) (hle:l.length≤c) (hnil:a=none→c=0) (hrd:dA w a (l.map eH)) (hb:l.length*8≤140737488355328) :
  Calls Tryz.prog 74 #[.slice a l.length c] w fun e w' => ∃v,e = .returned v∧Own w' w.heap.size 3 1 v l.length (l.map eH)∧Below w.heap.size w w':=by
 cases a with
 | none=>
  have h0:=hnil rfl
  have hl:l=[]:=List.eq_nil_of_length_eq_zero (by omega)
  subst hl
  subst h0
  have hq:=fun W=>Lib.run_eql_slice_nil (P:=Tryz.prog) W 30 _ none 0 0 0 0 underlying30
  go_enter func74,ntmps74
  go_wp2
  go_ret
  exact⟨_,rfl,by simpa using Own.nil _ _ _ _,Below.refl _ _⟩
 | some ad=>
  have hq:=fun W=>Lib.run_eql_slice_nil (P:=Tryz.prog) W 30 _ (some ad) l.length c 0 0 underlying30
  go_enter func74,ntmps74
  go_wp2_with (at_builtin;go_must (refine dI rfl _ _ 30 rfl w.heap.size 3 (.int .i64 0) 1 8 underlying30 int_info rfl (by decide) _ 0 [] rfl ?own (some ad) l.length c (l.map eH) rfl (fun h=>(by cases h)) hle (CP l) ?rd (Dg l) (by unfold maxLen;omega) (by simpa using hb) ?bb ?k))
  case own=>exact⟨rfl,.inr ⟨w.heap.size,0,0,#[],rfl,Nat.le_refl _,aD.new _ _ _,Nat.le_refl _,Nat.zero_le _,by simp,fun j u h=>by simp at h⟩⟩
  case rd=>exact hrd.below ((Below.refl _ _).alloc (Nat.le_refl _) _)
  case bb=>exact ed _ _
  intro v w1 hown hgr
  go_wp2
  go_ret
  exact⟨v,rfl,by simpa using hown,((Below.refl _ _).alloc (Nat.le_refl _) _).grown hgr (ed _ _) (fun k hk=>by cases hk;exact Nat.le_refl _)⟩
theorem NY (n:Int) (w:World):Calls Tryz.prog 132 #[.int .i64 n] w fun e w'=>e = .returned (.bool (rM n))∧w' = w:=by
 unfold rM
 go_enter func132,ntmps132
 go_wp2
 all_goals
  go_ret
  refine⟨bG ?_,rfl⟩
  simp[*]
theorem LZ (l:List Int) (a:Option Addr) (c:Nat) (w:World) (hrd:dA w a (l.map eH)) (hl:l.length≤9223372036854775807) :
  Calls Tryz.prog 147 #[.slice a l.length c,.func (.func 132) #[] #[]] w fun e w'=>e = .returned (.int .i64 (idx rM l))∧w' = w:=by
 go_enter func147,ntmps147
 go_wp2
 go_loopw [8] (fun i wr => ∃k:Nat,k≤l.length∧i = .int .i64 k∧wr=w∧∀i (h:i<l.length),i<k→rM l[i]=false) (fun i _=>l.length-(intOf i).toNat)
 case atStart=>exact⟨0,Nat.zero_le _,rfl,rfl,fun i _ h=>absurd h (Nat.not_lt_zero _)⟩
 case round=>
  obtain⟨k,hk,rfl,rfl,hp⟩:=hrel
  by_cases hlt:k<l.length
  ·obtain⟨b,off,rfl,hc⟩:=iA hrd k hlt
   go_wp2_with fail
   refine (NY l[k] _).mono ?_
   rintro e w1 ⟨rfl,rfl⟩
   cases hbk:rM l[k] with
   | true=>
    go_wp2
    go_ret
    exact⟨aV (nW rM l k hlt hp hbk).symm,rfl⟩
   | false=>
    go_wp2
    go_roundw
    case rel=>exact⟨k+1,by omega,by go_num,trivial,upto hp hlt hbk⟩
    case measure=>simp[intOf];omega
  ·go_wp2
   go_ret
   exact⟨aV (jQ rM l fun i h=>hp i h (by omega)).symm,rfl⟩
theorem yR (l:List Int) (a:Option Addr) (c:Nat) (w:World) (hrd:dA w a (l.map eH)) (hl:l.length≤9223372036854775807) :
  Calls Tryz.prog 131 #[.slice a l.length c,.func (.func 132) #[] #[]] w fun e w'=>e = .returned (.bool (l.any rM))∧w' = w:=by
 rw[←lD]
 go_enter func131,ntmps131
 go_wp2_with fail
 refine (LZ l a c _ hrd hl).mono ?_
 rintro e w1 ⟨rfl,rfl⟩
 go_wp2
 go_ret
 exact⟨rfl,rfl⟩
theorem qx (l:List Int) (a:Option Addr) (c:Nat) (w:World) (hrd:dA w a (l.map eH)) (hl:l.length≤9223372036854775807) :
  Calls Tryz.prog 108 #[.slice a l.length c] w fun e w'=>e = .returned (.int .i64 (bU l))∧w' = w:=by
 unfold bU
 go_enter func108,ntmps108
 by_cases h:60<l.length
 ·have h1:(60:Int)<(l.length:Int):=by omega
  go_wp2
  go_ret
  exact⟨by simp[h],rfl⟩
 ·have h1:¬(60:Int)<(l.length:Int):=by omega
  go_wp2_with fail
  refine (yR l a c _ hrd hl).mono ?_
  rintro e w1 ⟨rfl,rfl⟩
  cases hb:l.any rM <;>
  ·go_wp2
   go_ret
   exact⟨by simp[h],rfl⟩
theorem Dj (l:List Int) (a:Option Addr) (c:Nat) (w:World) (hrd:dA w a (l.map eH)) (hl:l.length≤9223372036854775807) :
  Calls Tryz.prog 143 #[.slice a l.length c,.int .i64 0] w fun e w'=>e = .returned (.int .i64 (idx BP l))∧w' = w:=by
 go_enter func143,ntmps143
 go_wp2
 go_loopw [8] (fun i wr => ∃k:Nat,k≤l.length∧i = .int .i64 k∧wr=w∧∀i (h:i<l.length),i<k→BP l[i]=false) (fun i _=>l.length-(intOf i).toNat)
 case atStart=>exact⟨0,Nat.zero_le _,rfl,rfl,fun i _ h=>absurd h (Nat.not_lt_zero _)⟩
 case round=>
  obtain⟨k,hk,rfl,rfl,hp⟩:=hrel
  by_cases hlt:k<l.length
  ·obtain⟨b,off,rfl,hc⟩:=iA hrd k hlt
   by_cases hz:l[k]=0
   ·have hbk:BP l[k]=true:=by simp[BP,hz]
    rw[hz] at hc
    go_wp2
    go_ret
    exact⟨aV (nW BP l k hlt hp hbk).symm,rfl⟩
   ·have hbk:BP l[k]=false:=by simp[BP,hz]
    have hz' : ((0:Int)==l[k])=false:=by simp;omega
    go_wp2
    go_roundw
    case rel=>exact⟨k+1,by omega,by go_num,trivial,upto hp hlt hbk⟩
    case measure=>simp[intOf];omega
  ·go_wp2
   go_ret
   exact⟨aV (jQ BP l fun i h=>hp i h (by omega)).symm,rfl⟩
theorem one_cell_int:∀x:Int,([eH x]:List Value).length=1:=fun _=>rfl
theorem Ic (n:Int) (w:World) :
  Calls Tryz.prog 97 #[.int .i64 n] w fun e w' => ∃v,e = .returned (.tuple #[v,.int .i64 (AO n)])∧Own w' w.heap.size 3 1 v (wJ n).length ((wJ n).map eH)∧Below w.heap.size w w':=by
 unfold AO wJ
 by_cases h:0≤n∧n≤60
 ·obtain⟨m,rfl⟩:=Int.eq_ofNat_of_zero_le h.1
  have h1:(m:Int)≤60:=h.2
  rw[if_pos h,if_pos h]
  go_enter func97,ntmps97
  go_wp2_with (with_reducible refine qV _ rfl (.tmp 10) (.tmp 10) 30 rfl (fun x=>[eH x]) 3 (.int .i64 0) 1 8 0 one_cell_int (by decide) underlying30 int_info rfl .i64 .i64 m m m rfl rfl rfl rfl (by omega) (by unfold maxLen;omega) ?k)
  intro w' ho hgr
  rw[gJ] at ho
  go_wp2
  go_ret2
  exact⟨_,rfl,by simpa using ho,(Below.refl _ _).grown hgr (Nat.le_refl _) (fun k hk=>by cases hk)⟩
 ·rw[if_neg h,if_neg h]
  go_enter func97,ntmps97
  by_cases h0:n<0
  ·go_wp2
   go_ret2
   exact⟨_,rfl,Own.nil _ _ _ _,Below.refl _ _⟩
  ·have h1:60<n:=by omega
   go_wp2
   go_ret2
   exact⟨_,rfl,Own.nil _ _ _ _,Below.refl _ _⟩
theorem Fg (l:List Int) (a:Option Addr) (c:Nat) (n:Int) (w:World) (hle:l.length≤c) (hnil:a=none→c=0) (hrd:dA w a (l.map eH)) (hl:l.length≤9223372036854775807) :
  Calls Tryz.prog 128 #[.slice a l.length c,.int .i64 n] w fun e w' => ∃v,e = .returned (.tuple #[v,.int .i64 (il l n),.int .i64 (fo l n)])∧Own w' w.heap.size 3 1 v (jy l n).length ((jy l n).map eH)∧Below w.heap.size w w':=by
 go_enter func128,ntmps128
 go_wp2_with fail
 refine (qx l a c _ hrd (by omega)).mono ?_
 rintro e w1 ⟨rfl,rfl⟩
 by_cases h0:bU l=0
 ·rw[h0]
  have hlen:=gM h0
  by_cases hn:n<1∨1000<n
  ·obtain⟨q1,q2,q3⟩:=DR h0 hn
   rcases hn with hn|hn <;>
   ·go_wp2
    all_goals
     go_ret3
     try simp only[q1,q2,q3]
     exact⟨_,rfl,Own.nil _ _ _ _,Below.refl _ _⟩
  ·have n1:¬n<1:=by omega
   have n2:¬1000<n:=by omega
   go_wp2_with fail
   refine (Dj l a c _ hrd (by omega)).mono ?_
   rintro e w2 ⟨rfl,rfl⟩
   rcases vJ BP l with ⟨hi,_⟩|⟨k,hk,hi,hz,_⟩
   ·obtain⟨q1,q2,q3⟩:=DL h0 ⟨by omega,by omega⟩ hi
    rw[hi]
    go_wp2
    go_ret3
    try simp only[q1,q2,q3]
    exact⟨_,rfl,Own.nil _ _ _ _,Below.refl _ _⟩
   ·obtain⟨q1,q2,q3⟩:=JA h0 ⟨by omega,by omega⟩ hi
    rw[hi]
    go_wp2_with fail
    refine (qI l a c _ hle hnil hrd (by omega)).mono ?_
    rintro e w3 ⟨v,rfl,ho,hb⟩
    obtain⟨g,off,cap,rfl,hB,hlt,hc,hf,hset⟩:=ho.put1 k hk
    go_wp2
    go_ret3
    try simp only[q1,q2,q3]
    exact⟨_,rfl,by rw[List.length_set];exact hset n,hb.setCell hB _⟩
 ·obtain⟨q1,q2,q3⟩:=EG n h0
  have hw:(bU l != 0)=true:=by simpa using h0
  go_wp2
  go_ret3
  try simp only[q1,q2,q3]
  exact⟨_,rfl,Own.nil _ _ _ _,Below.refl _ _⟩
theorem DZ (l:List Int) (a:Option Addr) (c:Nat) (k n:Int) (w:World) (hle:l.length≤c) (hnil:a=none→c=0) (hrd:dA w a (l.map eH)) (hl:l.length≤9223372036854775807) :
  Calls Tryz.prog 78 #[.slice a l.length c,.int .i64 k,.int .i64 n] w fun e w' => ∃v,e = .returned (.tuple #[v,.int .i64 (eD l k n)])∧Own w' w.heap.size 3 1 v (eF l k n).length ((eF l k n).map eH)∧Below w.heap.size w w':=by
 go_enter func78,ntmps78
 go_wp2_with fail
 refine (qx l a c _ hrd (by omega)).mono ?_
 rintro e w1 ⟨rfl,rfl⟩
 by_cases h0:bU l=0
 ·rw[h0]
  have hlen:=gM h0
  by_cases hk:k<0∨(l.length:Int)≤k
  ·obtain⟨q1,q2⟩:=Af (n:=n) h0 (show k<0∨(l.length:Int)≤k∨Ba l k=0 from by omega)
   rcases hk with hk|hk <;>
   ·go_wp2
    all_goals
     go_ret2
     try simp only[q1,q2]
     exact⟨_,rfl,Own.nil _ _ _ _,Below.refl _ _⟩
  ·obtain⟨k,rfl⟩:=Int.eq_ofNat_of_zero_le (show 0≤k by omega)
   have hlt:k<l.length:=by omega
   have hlt1:¬(l.length:Int)≤(k:Int):=by omega
   obtain⟨b,off,rfl,hc⟩:=iA hrd k hlt
   obtain⟨b1,b2⟩:=Lm l k hlt h0
   have hat:=NR hlt
   by_cases hz:l[k]=0
   ·obtain⟨q1,q2⟩:=Af (n:=n) h0 (show (k:Int)<0∨(l.length:Int)≤k∨Ba l k=0 from by omega)
    rw[hz] at hc
    clear hk hat b1 b2
    go_wp2
    all_goals
     go_ret2
     try simp only[q1,q2]
     exact⟨_,rfl,Own.nil _ _ _ _,Below.refl _ _⟩
   ·have hz' : (l[k]==(0:Int))=false:=by simp;omega
    have hnn:¬((k:Int)<0∨(l.length:Int)≤k∨Ba l k=0):=by omega
    by_cases hr:n < -Ba l k∨1000-Ba l k<n
    ·obtain⟨q1,q2⟩:=ES h0 hnn hr
     rw[hat] at hr
     clear hat hnn hk
     rcases hr with hr|hr <;>
     ·go_wp2
      all_goals
       go_ret2
       try simp only[q1,q2]
       exact⟨_,rfl,Own.nil _ _ _ _,Below.refl _ _⟩
    ·obtain⟨q1,q2⟩:=II h0 hnn hr
     rw[hat] at hr q2
     rw[Int.toNat_natCast] at q2
     have r1:¬n < -l[k]:=by omega
     have r2:¬1000-l[k]<n:=by omega
     clear hat hnn hk hr
     go_wp2_with fail
     refine (qI l _ c _ hle hnil hrd (by omega)).mono ?_
     rintro e w3 ⟨v,rfl,ho,hb⟩
     obtain⟨g,off',cap,rfl,hB,hltg,hc',hf,hset⟩:=ho.put1 k hlt
     unfold eH at hc'
     go_wp2
     go_ret2
     try simp only[q1,q2]
     exact⟨_,rfl,by rw[List.length_set];exact hset _,hb.setCell hB _⟩
 ·obtain⟨q1,q2⟩:=Fx k n h0
  have hw:(bU l != 0)=true:=by simpa using h0
  go_wp2
  go_ret2
  try simp only[q1,q2]
  exact⟨_,rfl,Own.nil _ _ _ _,Below.refl _ _⟩
structure PS where
 lv:Bool
 aa:Option Addr
 ac:Nat
 ar:List Ar
 ts:Vector Value 8
 tb:Tb
def PS.sp (p:PS):Sp:=⟨p.lv,p.ar,p.tb⟩
def mo (v:Vector Value 8):Array Value:=#[v[0],v[1],v[2],v[3],v[4],v[5],v[6],v[7]]
theorem Kz (v:Vector Value 8):(mo v).size=8:=rfl
theorem KF (h:cs.size=8):∃v:Vector Value 8,cs=mo v:=by
 refine⟨⟨cs,h⟩,?_⟩
 apply Array.ext
 ·rw[h,Kz]
 intro i h1 h2
 have hi:i<8:=by omega
 match i,hi with
 | 0,_=>rfl
 | 1,_=>rfl
 | 2,_=>rfl
 | 3,_=>rfl
 | 4,_=>rfl
 | 5,_=>rfl
 | 6,_=>rfl
 | 7,_=>rfl
 | n+8,h=>omega
def tu (p:PS):Array Value:=#[.bool p.lv,.slice p.aa p.ar.length p.ac,p.ts[0],p.ts[1],p.ts[2],p.ts[3],p.ts[4],p.ts[5],p.ts[6],p.ts[7]]
def nZ (p:PS):List Value:=(tu p).toList
theorem nK (p:PS):(nZ p).length=10:=rfl
theorem uz (c:Cc):(wL c).all (·.oneCell')=true:=by simp[wL,Value.oneCell']
theorem space_size:(Tryz.prog.info? 55).map (·.size)=some 10:=by kernel_rfl
theorem space_info:(Tryz.prog.info? 55).map (fun i=>(i.zero,i.size,i.bytes))=some (some (.agg #[.bool false,.slice none 0 0,.slice none 0 0,.slice none 0 0,.slice none 0 0,.slice none 0 0,.slice none 0 0,.slice none 0 0,.slice none 0 0,.slice none 0 0]),10,224):=by kernel_rfl
theorem cached_size:(Tryz.prog.info? 106).map (·.size)=some 3:=by kernel_rfl
theorem cached_info:(Tryz.prog.info? 106).map (fun i=>(i.zero,i.size,i.bytes))=some (some (.agg #[.int .i64 0,.int .i64 0,.int .i64 0]),3,24):=by kernel_rfl
theorem machine_size:(Tryz.prog.info? 41).map (·.size)=some 11:=by kernel_rfl
structure PS.good (w:World) (p:PS):Prop where
 ars:Pv w p.aa p.ac p.ar
 tb:DJ w (mo p.ts) p.tb
theorem PS.good.below {p:PS} (h:p.good w) (hb:Below w.heap.size w w'):p.good w':=⟨h.ars.below hb,h.tb.below hb⟩
theorem PS.good.one {p:PS} (h:p.good w):∀u∈nZ p,u.oneCell' = true:=by
 have h1:∀u∈(mo p.ts).toList,u.oneCell' = true:=by
  have:=h.tb.one
  rw[←Array.all_toList,List.all_eq_true] at this
  exact this
 intro u hu
 simp only[nZ,tu,List.mem_cons,List.not_mem_nil,or_false] at hu
 simp only[mo,List.mem_cons,List.not_mem_nil,or_false] at h1
 rcases hu with rfl|rfl|hu
 ·rfl
 ·rfl
 ·exact h1 u hu
structure nR (w:World) (a:Option Addr) (c n:Nat) (vs:List Value):Prop where
 le:n≤c
 mx:c≤maxLen
 nl:a=none→c=0
 rd:dA w a vs
theorem nR.below (h:nR w a c n vs) (hb:Below w.heap.size w w'):nR w' a c n vs:={ h with rd:=h.rd.below hb }
theorem nR.of (h:Own w B e sz v n xs):∃a c,v = .slice a n c∧nR w a c n xs:=by
 obtain⟨a,c,rfl,h1,h2,h3,h4⟩:=h.rd
 exact⟨a,c,rfl,h1,h2,h3,h4⟩
structure MH where
 af:Option Addr
 cf:Nat
 m:Mem
 asl:Option Addr
 csl:Nat
 sl:List Int
 wb:Option Addr
 cwb:Nat
 wq:Option Addr
 cwq:Nat
 sw:nT
 db:Option Addr
 cdb:Nat
 dq:Option Addr
 cdq:Nat
 dk:nT
 ai:Option Addr
 ci:Nat
 fi:List PF
 ct:Int
 ac:Option Addr
 cc:Nat
 ca:List Cc
 ap:Option Addr
 cp:Nat
 sp:List PS
def MH.ma (H:MH):Ma:=⟨H.m,H.sl,H.sw,H.dk,bY H.fi H.ct,H.ca,H.sp.map PS.sp⟩
def dC (H:MH):Array Value:=#[.slice H.af H.m.fs.length H.cf,.int .i64 H.m.hand,.slice H.asl H.sl.length H.csl,.slice H.wb H.sw.blocks.length H.cwb,.slice H.wq H.sw.queue.length H.cwq,
 .slice H.db H.dk.blocks.length H.cdb,.slice H.dq H.dk.queue.length H.cdq,.slice H.ai H.fi.length H.ci,.int .i64 H.ct,.slice H.ac H.ca.length H.cc,.slice H.ap H.sp.length H.cp]
theorem fe (H:MH):(dC H).all (·.oneCell')=true:=by simp[dC,Value.oneCell']
structure xA (w:World) (H:MH):Prop where
 fr:Nb w H.af H.cf H.m
 sl:nR w H.asl H.csl H.sl.length (H.sl.map eH)
 sw:GI w H.wb H.cwb H.wq H.cwq H.sw
 dk:GI w H.db H.cdb H.dq H.cdq H.dk
 st:EU w H.ai H.ci H.fi
 ca:nR w H.ac H.cc H.ca.length (H.ca.flatMap je)
 sp:nR w H.ap H.cp H.sp.length (H.sp.flatMap nZ)
 ps:∀p∈H.sp,p.good w
 c64 : -9223372036854775808≤H.ct∧H.ct≤9223372036854775807
theorem xA.below {H:MH} (h:xA w H) (hb:Below w.heap.size w w'):xA w' H:=
 ⟨h.fr.below hb,h.sl.below hb,h.sw.below hb,h.dk.below hb,h.st.below hb,h.ca.below hb,h.sp.below hb,fun p hp=>(h.ps p hp).below hb,h.c64⟩
theorem zy {ps:List PS} (h:dA w a (ps.flatMap nZ)) (k:Nat) (hk:k<ps.length):∃b off p,a=some ⟨b,off,none⟩∧ps[k]?=some p∧dA w (some ⟨b,off+k*10,none⟩) (nZ p):=by
 obtain⟨b,off,ha,hc⟩:=h.elem nK (by decide) k hk
 refine⟨b,off,ps[k],ha,List.getElem?_eq_getElem hk,fun j u hj=>⟨b,off+k*10,rfl,hc j u hj⟩⟩
theorem Ao {H:MH} (h:xA w H) {p:PS} (hp:H.sp[k]?=some p):p.good w:=h.ps p (List.mem_of_getElem? hp)
theorem Ox {l:List Cc} (h:dA w a (l.flatMap je)) (k:Nat) (hk:k<l.length):∃b off c,a=some ⟨b,off,none⟩∧l[k]?=some c∧w.cell? ⟨b,off+k*3,none⟩=some (.int .i64 c.f)∧w.cell? ⟨b,off+k*3+1,none⟩=some (.int .i64 c.i)∧w.cell? ⟨b,off+k*3+2,none⟩=some (.int .i64 c.k):=by
 obtain⟨b,off,ha,hc⟩:=h.elem nJ (by decide) k hk
 exact⟨b,off,l[k],ha,List.getElem?_eq_getElem hk,hc 0 _ rfl,hc 1 _ rfl,hc 2 _ rfl⟩
structure MJ (m:Ma):Prop where
 fs:m.m.fs.length≤1000
 sl:m.sl.length≤1000
 swb:m.sw.blocks.length≤1000
 swq:m.sw.queue.length≤1000
 dkb:m.dk.blocks.length≤1000
 dkq:m.dk.queue.length≤1000
 st:m.st.fs.length≤1000∧∀f∈m.st.fs,f.b.length≤1000
 ca:m.ca.length≤1000
 sp:m.sp.length≤1000∧∀s∈m.sp,s.ar.length≤1000∧∀k (h:k<8),s.tb[k].length≤1000
structure oL (w:World) (B:Nat) (H:MH):Prop where
 fr:Own w B 81 13 (.slice H.af H.m.fs.length H.cf) H.m.fs.length (H.m.fs.flatMap lZ)
 sl:Own w B 3 1 (.slice H.asl H.sl.length H.csl) H.sl.length (H.sl.map eH)
 sw:fQ w B (.slice H.wb H.sw.blocks.length H.cwb) (.slice H.wq H.sw.queue.length H.cwq) H.sw
 dk:fQ w B (.slice H.db H.dk.blocks.length H.cdb) (.slice H.dq H.dk.queue.length H.cdq) H.dk
 st:kD w B (.slice H.ai H.fi.length H.ci) H.fi
 ca:Own w B 106 3 (.slice H.ac H.ca.length H.cc) H.ca.length (H.ca.flatMap je)
 sp:Own w B 55 10 (.slice H.ap H.sp.length H.cp) H.sp.length (H.sp.flatMap nZ)
 ps:∀p∈H.sp,Own w B 99 7 (.slice p.aa p.ar.length p.ac) p.ar.length (p.ar.flatMap jU)∧mD w B (mo p.ts) p.tb
 c64 : -9223372036854775808≤H.ct∧H.ct≤9223372036854775807
theorem oL.below {H:MH} (h:oL w B H) (hb:Below w.heap.size w w'):oL w' B H:=
 ⟨h.fr.below hb,h.sl.below hb,h.sw.below hb,h.dk.below hb,h.st.below hb,h.ca.below hb,h.sp.below hb,fun p hp=>⟨(h.ps p hp).1.below hb,(h.ps p hp).2.below hb⟩,h.c64⟩
theorem oL.mono {H:MH} (h:oL w B H) (hB:B'≤B):oL w B' H:=
 ⟨h.fr.mono hB,h.sl.mono hB,h.sw.mono hB,h.dk.mono hB,h.st.mono hB,h.ca.mono hB,h.sp.mono hB,fun p hp=>⟨(h.ps p hp).1.mono hB,(h.ps p hp).2.mono hB⟩,h.c64⟩
theorem oq (h:Own w B e sz (.slice a n c) n xs):nR w a c n xs:=by
 obtain⟨a',c',e1,h1⟩:=nR.of h
 simp only[Value.slice.injEq,true_and] at e1
 obtain⟨rfl,rfl⟩:=e1
 exact h1
theorem OG {b:Option Addr} {e:Nat} (h:fQ w B (.slice a d.blocks.length c) (.slice b d.queue.length e) d):GI w a c b e d:=
 have h1:=oq h.b
 have h2:=oq h.q
 ⟨h1.le,h2.le,h1.mx,h2.mx,h1.nl,h2.nl,h1.rd,h2.rd⟩
theorem OJ {ps:List PF} (h:kD w B (.slice a ps.length c) ps):EU w a c ps:=by
 obtain⟨a',c',e1,h1⟩:=h.rd
 simp only[Value.slice.injEq,true_and] at e1
 obtain⟨rfl,rfl⟩:=e1
 exact h1
theorem oL.rd {H:MH} (h:oL w B H):xA w H:=
 have h1:=oq h.fr
 ⟨⟨h1.le,h1.mx,h1.nl,h1.rd⟩,oq h.sl,OG h.sw,OG h.dk,OJ h.st,oq h.ca,oq h.sp,fun p hp=>⟨have h2:=oq (h.ps p hp).1;⟨h2.le,h2.mx,h2.nl,h2.rd⟩,(h.ps p hp).2.rd⟩,h.c64⟩
theorem oL.keep {H:MH} (h:oL w B H) (hk:aD w g cs T)
 (hT:T≠81∧T≠3∧T≠79∧T≠86∧T≠67∧T≠106∧T≠55∧T≠99∧T≠89) (hgr:w.grownBy w' (some g)):oL w' B H:=
 have ⟨t1,t2,t3,t4,t5,t6,t7,t8,t9⟩:=hT
 ⟨ak h.fr hk t1 hgr,ak h.sl hk t2 hgr,h.sw.keep hk t3 t4 hgr,h.dk.keep hk t3 t4 hgr,h.st.keep hk t5 t2 hgr,ak h.ca hk t6 hgr,ak h.sp hk t7 hgr,fun p hp=>⟨ak (h.ps p hp).1 hk t8 hgr,(h.ps p hp).2.keep hk t9 hgr⟩,h.c64⟩
theorem kJ {α:Type} {enc:α→List Value} (hsz:∀x,(enc x).length=sz) (hp:0<sz) {l:List α} (h:dA w a (l.flatMap enc)) (k:Nat) (hk:k<l.length) :
  ∃b off,a=some ⟨b,off,none⟩∧dA w (some ⟨b,off+k*sz,none⟩) (enc l[k]):=by
 obtain⟨b,off,ha,hc⟩:=h.elem hsz hp k hk
 exact⟨b,off,ha,fun j u hj=>⟨b,off+k*sz,rfl,hc j u hj⟩⟩
theorem cB (h:aD w b cs T) (o n:Nat):dA w (some ⟨b,o,none⟩) ((cs.toList.drop o).take n):=by
 intro i u hi
 refine⟨b,o,rfl,?_⟩
 rw[h.cell,←Array.getElem?_toList]
 rw[List.getElem?_take] at hi
 split at hi
 ·rw[List.getElem?_drop] at hi;exact hi
 ·cases hi
def pF (H:MH) (e:Int):Array Value:=#[.slice H.af H.m.fs.length H.cf,.int .i64 H.m.hand,.slice H.asl H.sl.length H.csl,.slice H.wb H.sw.blocks.length H.cwb,.slice H.wq H.sw.queue.length H.cwq,
 .slice H.db H.dk.blocks.length H.cdb,.slice H.dq H.dk.queue.length H.cdq,.slice H.ai H.fi.length H.ci,.int .i64 H.ct,.slice H.ac H.ca.length H.cc,.slice H.ap H.sp.length H.cp,.int .i64 e]
def oB (a:Option Addr):Option Nat:=(Value.slice a 0 0).ownBlock
theorem jv (a:Option Addr) (n c:Nat):(Value.slice a n c).ownBlock=oB a:=by cases a<;>rfl
structure jf (w:World) (B b:Nat) (H:MH) (e:Int):Prop where
 blk:aD w b (pF H e) 96
 ge:B≤b
 ma:oL w B H
 tz:∀p∈H.sp,zk p.tb
def kb (b:Nat) (H:MH) (x:Nat):Prop:=x=b∨oB H.af=some x∨oB H.ac=some x∨oB H.ap=some x
structure KS (w0:World) (b:Nat) (H0:MH) (w:World) (H:MH):Prop where
 os:w.os=w0.os
 tape:w.tape=w0.tape
 output:w.output=w0.output
 size:w0.heap.size≤w.heap.size
 keep:∀x,x<w0.heap.size→¬kb b H0 x→w.heap[x]?=w0.heap[x]?
 sn:∀x,kb b H x→kb b H0 x∨w0.heap.size≤x
theorem KS.refl (w:World) (b:Nat) (H:MH):KS w b H w H:=⟨rfl,rfl,rfl,Nat.le_refl _,fun _ _ _=>rfl,fun _ h => .inl h⟩
theorem KS.trans {H0 H1 H2:MH} (h:KS w0 b H0 w1 H1) (k:KS w1 b H1 w2 H2):KS w0 b H0 w2 H2:=
 ⟨k.os.trans h.os,k.tape.trans h.tape,k.output.trans h.output,Nat.le_trans h.size k.size,fun x hx hn=>(k.keep x (Nat.lt_of_lt_of_le hx h.size) (fun hk=>(h.sn x hk).elim hn (fun hh=>absurd hx (Nat.not_lt.2 hh)))).trans (h.keep x hx hn),
  fun x hx=>(k.sn x hx).elim (h.sn x) (fun hh => .inr (Nat.le_trans h.size hh))⟩
theorem KS.below {H0 H:MH} (h:KS w0 b H0 w H) (hb:Below w.heap.size w w'):KS w0 b H0 w' H:=
 ⟨hb.os.trans h.os,hb.tape.trans h.tape,hb.output.trans h.output,Nat.le_trans h.size hb.size,fun x hx hn=>(hb.block x (Nat.lt_of_lt_of_le hx h.size)).trans (h.keep x hx hn),h.sn⟩
theorem KS.put {y:Nat} {H0 H H' : MH} (h:KS w0 b H0 w H) (hg:w.grownBy w' (some y)) (hy:kb b H y) (hn:∀x,kb b H' x→kb b H x∨w0.heap.size≤x):KS w0 b H0 w' H':=
 ⟨hg.os.trans h.os,hg.tape.trans h.tape,hg.output.trans h.output,Nat.le_trans h.size hg.size,fun x hx hnx=>(hg.block x (Nat.lt_of_lt_of_le hx h.size) (fun e=>by
  have e' : x=y:=Option.some.inj e
  rw[←e'] at hy
  exact (h.sn x hy).elim hnx (fun hh=>absurd hx (Nat.not_lt.2 hh)))).trans (h.keep x hx hnx),fun x hx=>(hn x hx).elim (h.sn x) .inr⟩
theorem jf.lt {H:MH} {e:Int} (h:jf w B b H e):b<w.heap.size:=h.blk.lt
theorem jf.bs {H:MH} {e:Int} (h:jf w B b H e):B≤w.heap.size:=Nat.le_trans h.ge (Nat.le_of_lt h.lt)
theorem jf.below {H:MH} {e:Int} (h:jf w B b H e) (hb:Below w.heap.size w w'):jf w' B b H e:=⟨h.blk.ext hb,h.ge,h.ma.below hb,h.tz⟩
theorem fT (h:Own w B e sz (.slice a n c) n xs) {x:Nat} (hx:oB a=some x):B≤x∧∃cs,aD w x cs e:=by
 rw[←jv a n c] at hx
 exact⟨h.ge x hx,jd h x hx⟩
theorem jf.kb_ge {H:MH} {e:Int} (h:jf w B b H e) {x:Nat} (hx:kb b H x):B≤x:=by
 rcases hx with hx|hx|hx|hx
 ·rw[hx];exact h.ge
 ·exact (fT h.ma.fr hx).1
 ·exact (fT h.ma.ca hx).1
 ·exact (fT h.ma.sp hx).1
theorem jf.kb_T {H:MH} {e:Int} (h:jf w B b H e) {x:Nat} (hx:kb b H x):∃cs T,aD w x cs T∧(T=96∨T=81∨T=106∨T=55):=by
 rcases hx with hx|hx|hx|hx
 ·rw[hx];exact⟨_,_,h.blk,.inl rfl⟩
 ·obtain⟨cs,hb⟩:=(fT h.ma.fr hx).2;exact⟨cs,_,hb,.inr (.inl rfl)⟩
 ·obtain⟨cs,hb⟩:=(fT h.ma.ca hx).2;exact⟨cs,_,hb,.inr (.inr (.inl rfl))⟩
 ·obtain⟨cs,hb⟩:=(fT h.ma.sp hx).2;exact⟨cs,_,hb,.inr (.inr (.inr rfl))⟩
theorem KS.to {H0 H:MH} {e:Int} (h:jf w0 B b H0 e) (hs:KS w0 b H0 w H) (hB:B0≤B):Below B0 w0 w:=
 ⟨hs.os,hs.tape,hs.output,hs.size,fun x hx=>hs.keep x (by have:=h.bs;omega) (fun hk=>by have:=h.kb_ge hk;omega)⟩
theorem KS.blk {x:Nat} {H0 H:MH} {e:Int} (hs:KS w0 b H0 w H) (h:jf w0 B b H0 e) (hk:aD w0 x cs T) (hT:T≠96∧T≠81∧T≠106∧T≠55):aD w x cs T:=by
 refine (hs.keep x hk.lt fun hx => ?_).trans hk
 obtain⟨cs',T',hb,h4⟩:=h.kb_T hx
 unfold aD at hk hb
 rw[hk] at hb
 simp only[Option.some.injEq,Obj.cells.injEq] at hb
 obtain⟨t1,t2,t3,t4⟩:=hT
 rcases h4 with e|e|e|e
 ·exact t1 (hb.2.1.trans e)
 ·exact t2 (hb.2.1.trans e)
 ·exact t3 (hb.2.1.trans e)
 ·exact t4 (hb.2.1.trans e)
theorem KS.blkN {x:Nat} {H0 H:MH} (hs:KS w0 b H0 w H) (hk:aD w0 x cs T) (hx:¬kb b H0 x):aD w x cs T:=(hs.keep x hk.lt hx).trans hk
theorem KS.own {H0 H:MH} {e:Int} (hs:KS w0 b H0 w H) (h:jf w0 B b H0 e) (ho:Own w0 B' t sz v n xs) (hT:t≠96∧t≠81∧t≠106∧t≠55):Own w B' t sz v n xs:=
 ⟨ho.1,ho.2.imp id fun⟨g,off,cap,cur,hv,hB,hk,r⟩=>⟨g,off,cap,cur,hv,hB,hs.blk h hk hT,r⟩⟩
theorem oL.keepK {H:MH} {e:Int} (h:jf w B b H e) (hg:w.grownBy w' (some b)):oL w' B H:=h.ma.keep h.blk (by decide) hg
theorem jf.setM {H:MH} {e:Int} (h:jf w B b H e) {m:Mem} (ho:Own w B 81 13 (.slice a m.fs.length c) m.fs.length (m.fs.flatMap lZ)) (hb:aD w' b (bq (pF H e) 0 [.slice a m.fs.length c,.int .i64 m.hand]) 96) (hg:w.grownBy w' (some b)) :
  jf w' B b { H with af:=a,cf:=c,m:=m } e:=
 ⟨hb,h.ge,{ oL.keepK h hg with fr:=ak ho h.blk (by decide) hg },h.tz⟩
theorem jf.setL {H:MH} {e:Int} (h:jf w B b H e) (ho:Own w B 3 1 (.slice a l.length c) l.length (l.map eH)) (hb:aD w' b (bq (pF H e) 2 [.slice a l.length c]) 96) (hg:w.grownBy w' (some b)) :
  jf w' B b { H with asl:=a,csl:=c,sl:=l } e:=
 ⟨hb,h.ge,{ oL.keepK h hg with sl:=ak ho h.blk (by decide) hg },h.tz⟩
theorem jf.setW {H:MH} {e:Int} (h:jf w B b H e) (ho:fQ w B (.slice a d.blocks.length c) (.slice a' d.queue.length c') d) (hb:aD w' b (bq (pF H e) 3 [.slice a d.blocks.length c,.slice a' d.queue.length c']) 96) (hg:w.grownBy w' (some b)) :
  jf w' B b { H with wb:=a,cwb:=c,wq:=a',cwq:=c',sw:=d } e:=
 ⟨hb,h.ge,{ oL.keepK h hg with sw:=ho.keep h.blk (by decide) (by decide) hg },h.tz⟩
theorem jf.setD {H:MH} {e:Int} (h:jf w B b H e) (ho:fQ w B (.slice a d.blocks.length c) (.slice a' d.queue.length c') d) (hb:aD w' b (bq (pF H e) 5 [.slice a d.blocks.length c,.slice a' d.queue.length c']) 96) (hg:w.grownBy w' (some b)) :
  jf w' B b { H with db:=a,cdb:=c,dq:=a',cdq:=c',dk:=d } e:=
 ⟨hb,h.ge,{ oL.keepK h hg with dk:=ho.keep h.blk (by decide) (by decide) hg },h.tz⟩
theorem jf.setS {H:MH} {e:Int} (h:jf w B b H e) {ps:List PF} {k:Int} (ho:kD w B (.slice a ps.length c) ps) (hk : -9223372036854775808≤k∧k≤9223372036854775807) (hb:aD w' b (bq (pF H e) 7 [.slice a ps.length c,.int .i64 k]) 96) (hg:w.grownBy w' (some b)) :
  jf w' B b { H with ai:=a,ci:=c,fi:=ps,ct:=k } e:=
 ⟨hb,h.ge,{ oL.keepK h hg with st:=ho.keep h.blk (by decide) (by decide) hg,c64:=hk },h.tz⟩
theorem jf.setE {H:MH} {e e' : Int} (h:jf w B b H e) (hb:aD w' b (bq (pF H e) 11 [.int .i64 e']) 96) (hg:w.grownBy w' (some b)):jf w' B b H e':=
 ⟨hb,h.ge,oL.keepK h hg,h.tz⟩
def KR (w:World) (B b:Nat) (H:MH) (w' : World) (k:Kp):Prop:=∃H' e',jf w' B b H' e'∧KS w b H w' H'∧Kp.mk H'.ma e' = k
theorem AC {H H' : MH} (h1:H'.af=H.af) (h2:H'.ac=H.ac) (h3:H'.ap=H.ap) {x:Nat} (hx:kb b H' x):kb b H x:=by
 unfold kb at hx ⊢; rw[h1,h2,h3] at hx;exact hx
theorem KS.putB {H0 H H' : MH} (h:KS w0 b H0 w H) (hg:w.grownBy w' (some b)) (h1:H'.af=H.af) (h2:H'.ac=H.ac) (h3:H'.ap=H.ap):KS w0 b H0 w' H':=
 h.put hg (.inl rfl) fun x hx => .inl (AC h1 h2 h3 hx)
theorem KS.putF {H0 H H' : MH} (h:KS w0 b H0 w H) (hg:w.grownBy w' (some b)) (ho:Own w B' t sz (.slice H'.af n c) n xs) (hB:w0.heap.size≤B') (h2:H'.ac=H.ac) (h3:H'.ap=H.ap):KS w0 b H0 w' H':=
 h.put hg (.inl rfl) fun x hx=>by
  rcases hx with hx|hx|hx|hx
  ·exact .inl (.inl hx)
  ·exact .inr (Nat.le_trans hB (fT ho hx).1)
  ·exact .inl (.inr (.inr (.inl (by rw[←h2];exact hx))))
  ·exact .inl (.inr (.inr (.inr (by rw[←h3];exact hx))))
theorem Fh {row:Option Nat} (hb:Below w.heap.size w w1) (hg:w1.grownBy w2 row):w.grownBy w2 row:=
 ⟨hg.os.trans hb.os,hg.tape.trans hb.tape,hg.output.trans hb.output,Nat.le_trans hb.size hg.size,fun k hk hn=>(hg.block k (Nat.lt_of_lt_of_le hk hb.size) hn).trans (hb.block k hk)⟩
def KD (k B:Nat) (T:TypeId) (R:jJ):qo:=⟨fun y w => ∃g cc,y k = .pointer (some ⟨g,0,none⟩)∧B≤g∧aD w g cc T∧R.r (.agg cc) w,[k],
 fun y w w' hb ⟨g,cc,h1,h2,h3,h4⟩=>⟨g,cc,h1,h2,h3.ext hb,R.st _ _ _ hb h4⟩,fun y y' w h ⟨g,cc,h1,h2⟩=>⟨g,cc,by rw[←h k (List.mem_singleton.2 rfl)];exact h1,h2⟩⟩
theorem bv (h:cs.all (·.oneCell')=true):∀u∈cs.toList,u.oneCell' = true:=by
 rw[←Array.all_toList,List.all_eq_true] at h
 exact h
theorem BM (H:MH):H.ma.sp.length=H.sp.length:=List.length_map _
theorem mZ (e:Int):gW e 0=e:=by unfold gW;split<;>simp_all
theorem JW {e:Int} (h:e≠0) (er:Int):gW e er=e:=by unfold gW;rw[if_neg h]
theorem jf.rdM {H:MH} {e:Int} (h:jf w B b H e):dA w (some ⟨b,0,none⟩) [.slice H.af H.m.fs.length H.cf,.int .i64 H.m.hand]:=cB h.blk 0 2
theorem jf.rdW {H:MH} {e:Int} (h:jf w B b H e):dA w (some ⟨b,3,none⟩) [.slice H.wb H.sw.blocks.length H.cwb,.slice H.wq H.sw.queue.length H.cwq]:=cB h.blk 3 2
theorem jf.rdD {H:MH} {e:Int} (h:jf w B b H e):dA w (some ⟨b,5,none⟩) [.slice H.db H.dk.blocks.length H.cdb,.slice H.dq H.dk.queue.length H.cdq]:=cB h.blk 5 2
theorem jf.rdS {H:MH} {e:Int} (h:jf w B b H e):dA w (some ⟨b,7,none⟩) [.slice H.ai H.fi.length H.ci,.int .i64 H.ct]:=cB h.blk 7 2
theorem oM (H:MH) (e er:Int) (B b:Nat) (w:World) (h:jf w B b H e) :
  Calls Tryz.prog 89 #[.pointer (some ⟨b,0,none⟩),.int .i64 er] w fun r w'=>r = .returned (.tuple #[])∧jf w' B b H (gW e er)∧w.grownBy w' (some b):=by
 have hc:=h.blk.cell
 have hf:=h.blk.free
 unfold pF at hc
 go_enter func89,ntmps89
 by_cases h0:e=0
 ·have hg:=aA w b 11 [.int .i64 er]
  have hb:=h.blk.setCells [.int .i64 er] 11
  have hfin:Hid (gW e er=er):=Lib.hid (by unfold gW;rw[if_pos h0])
  have h':=Lib.hid h
  clear h
  go_wp2
  simp[bodyPost,results,go_sem,results89]
  rw[hfin.out]
  exact⟨h'.out.setE hb hg,hg⟩
 ·go_wp2
  simp[bodyPost,results,go_sem,results89]
  rw[JW h0]
  exact⟨h,World.grownBy.refl _ _⟩
theorem Lt (H:MH) (e f n:Int) (B b:Nat) (w:World) (h:jf w B b H e) :
  Calls Tryz.prog 80 #[.pointer (some ⟨b,0,none⟩),.int .i64 f,.int .i64 n] w fun r w'=>r = .returned (.tuple #[])∧∃H' e',jf w' B b H' e'∧KS w b H w' H'∧Kp.mk H'.ma e' = gz ⟨H.ma,e⟩ f n∧H'.sp=H.sp:=by
 go_enter func80,ntmps80
 go_wp2_with (refine ay _ _ rfl b 0 rfl rfl _ h.rdM _ underlying28 rfl mem_size ?_)
 refine (IJ H.m f n _ _ _ h.ma.rd.fr).mono ?_
 rintro r w1 ⟨vb,rfl,ho,hb1⟩
 obtain⟨a1,c1,rfl,_⟩:=wP ho
 have hBs:=Lib.hid h.bs
 have h1:=h.below hb1
 have s1:=(KS.refl w b H).below hb1
 go_wp2_with (refine aL rfl _ _ _ rfl #[.slice a1 (jw H.m f n).fs.length c1,.int .i64 (jw H.m f n).hand] rfl rfl rfl mem_size (gP _ _ _ _) ?_)
 intro w2 hb2 hx2
 have h2:=h1.below hb2
 have s2:=s1.below hb2
 have ho2:=ho.below hb2
 clear h1 s1 ho hb2
 go_wp2_with fail
 refine (oM _ e (ky H.m f n) _ _ _ h2).mono ?_
 rintro r w3 ⟨rfl,h3,hg3⟩
 have s3:=s2.putB hg3 rfl rfl rfl
 have ho3:=ak ho2 h2.blk (by decide) hg3
 have hx3:=aW hx2 h2.blk (by decide) hg3
 clear h2 s2 ho2 hx2 hg3
 by_cases h0:ky H.m f n=0
 ·rw[h0,mZ] at h3
  have hq:Hid (gz ⟨H.ma,e⟩ f n=⟨{ H.ma with m:=jw H.m f n },e⟩):=Lib.hid (by unfold gz;exact if_pos h0)
  have hx:=hx3.cell
  clear h
  rw[h0]
  go_wp2_with (first | (refine ay _ _ rfl _ 0 rfl rfl [.slice a1 (jw H.m f n).fs.length c1,.int .i64 (jw H.m f n).hand] (cB hx3 0 2) _ underlying28 rfl mem_size ?_) | (refine fq rfl _ _ _ rfl b 0 _ rfl rfl _ _ h3.blk (by show 0+2≤12;decide) mem_size (gP _ _ _ _) ?_))
  intro w4 hb4 hg4
  have h4:=h3.setM (ho3.mono hBs.out) hb4 hg4
  go_wp2
  simp[bodyPost,results,go_sem,results80]
  rw[hq.out]
  exact⟨_,_,h4,s3.putF hg4 ho3 (Nat.le_refl _) rfl rfl,rfl,rfl⟩
 ·have hq:Hid (gz ⟨H.ma,e⟩ f n=⟨H.ma,gW e (ky H.m f n)⟩):=Lib.hid (by unfold gz;exact if_neg h0)
  go_wp2
  simp[bodyPost,results,go_sem,results80]
  rw[hq.out]
  exact⟨_,_,h3,s3,rfl,rfl⟩
theorem uS (H:MH) (e f n:Int) (B b:Nat) (w:World) (h:jf w B b H e) :
  Calls Tryz.prog 80 #[.pointer (some ⟨b,0,none⟩),.int .i64 f,.int .i64 n] w fun r w'=>r = .returned (.tuple #[])∧KR w B b H w' (gz ⟨H.ma,e⟩ f n):=
 (Lt H e f n B b w h).mono fun r w' ⟨h1,H',e',h2,h3,h4,_⟩=>⟨h1,H',e',h2,h3,h4⟩
theorem bB {y:Operand} {k:IntKind} (ho:o.op = .indexAddr t x y) (hx:ρ x = .slice (some ⟨b,off,none⟩) n c) (hy:ρ y = .int k (i:Int)) (hi:i<n)
 (hu:P.underlying t=some (.slice e)) (hs:(P.info? e).map (·.size)=some sz):(execOp ρ o).run P w = .ok (.value (.pointer (some ⟨b,off+i*sz,none⟩))) w:=by
 obtain⟨inf,hinf,hsz⟩:∃inf,P.info? e=some inf∧inf.size=sz:=by
  cases h:P.info? e with
  | none=>rw[h] at hs;cases hs
  | some inf=>rw[h] at hs;exact⟨inf,rfl,by simpa using hs⟩
 have hso:(Go.sizeOf e).run P w = .ok sz w:=by simp[Go.sizeOf,typeInfo,hinf,go_sem,hsz]
 simp[execOp,go_sem,ho,hx,hy,hu,hso,hi]
theorem oO {o:Nat} (h:dA w (some ⟨b,o,none⟩) vs) (d n:Nat):dA w (some ⟨b,o+d,none⟩) ((vs.drop d).take n):=by
 intro i u hi
 rw[List.getElem?_take] at hi
 split at hi
 ·rw[List.getElem?_drop] at hi
  obtain⟨b',o',e,hc⟩:=h (d+i) u hi
  cases e
  exact⟨_,_,rfl,by rw[Nat.add_assoc];exact hc⟩
 ·cases hi
theorem pM {o:Nat} (r:List Value) (h:cur[o]?=some v):bq cur o (v::r)=bq cur (o+1) r:=by
 have:cur.setIfInBounds o v=cur:=by
  apply Array.ext_getElem?
  intro i
  rw[Array.getElem?_setIfInBounds]
  by_cases e:o=i
  ·subst e
   rw[if_pos rfl,if_pos (Array.getElem?_eq_some_iff.1 h).1,h]
  ·rw[if_neg e]
 show bq (cur.setIfInBounds o v) (o+1) r=_
 rw[this]
theorem vD (h:Own w B e sz (.slice (some ⟨g,off,none⟩) n c) n xs) (hb:aD w g cur e):∀j u,xs[j]?=some u→cur[off+j]?=some u:=by
 rcases h.2 with ⟨h1,_⟩|⟨g',off',cap',cur',hv,_,hk,_,_,_,ht⟩
 ·cases h1
 ·cases hv
  have:cur=cur':=by
   unfold aD at hb hk
   rw[hb] at hk
   simpa using hk
  subst this
  exact ht
theorem jf.setT {H:MH} {e:Int} (h:jf w B b H e) {P:PS} (hP:H.sp[p]?=some P) :
  ∃g off cur,H.ap=some ⟨g,off,none⟩∧B≤g∧aD w g cur 55∧off+p*10+2+8≤cur.size∧dA w (some ⟨g,off+p*10,none⟩) (nZ P) ∧
   ∀(w' : World) (v:Vector Value 8) (t:Tb),mD w B (mo v) t→zk t→aD w' g (bq cur (off+p*10+2) (mo v).toList) 55→w.grownBy w' (some g)→jf w' B b { H with sp:=H.sp.set p { P with ts:=v,tb:=t } } e:=by
 have hp:=(List.getElem?_eq_some_iff.1 hP).1
 have hPe:=(List.getElem?_eq_some_iff.1 hP).2
 obtain⟨g,off,cap,cur,hv,hB,hblk,hfit,hset⟩:=lJ nK (by decide) rfl h.ma.sp p hp
 simp only[Value.slice.injEq] at hv
 obtain⟨hap,_,hcp⟩:=hv
 have hsp:=h.ma.sp
 rw[hap] at hsp
 have hcell:=vD hsp hblk
 have hat:∀j u,(nZ P)[j]?=some u→cur[off+p*10+j]?=some u:=fun j u hj=>by
  rw[Nat.add_assoc]
  exact hcell _ _ (flat_get nZ 10 nK H.sp p hp j u (by rw[hPe];exact hj))
 refine⟨g,off,cur,hap,hB,hblk,by omega,fun j u hj=>⟨g,_,rfl,by rw[hblk.cell];exact hat j u hj⟩,fun w' v t ht htz hb hg => ?_⟩
 have e1:bq cur (off+p*10) (nZ { P with ts:=v,tb:=t })=bq cur (off+p*10+2) (mo v).toList:=by
  show bq cur (off+p*10) (.bool P.lv :: .slice P.aa P.ar.length P.ac::(mo v).toList)=_
  rw[pM _ (by simpa using hat 0 _ rfl),pM _ (hat 1 _ rfl)]
 rw[←e1] at hb
 have hlen:(H.sp.set p { P with ts:=v,tb:=t }).length=H.sp.length:=List.length_set
 have hbk:b≠g:=fun e=>by
  have h1:=h.blk
  subst e
  unfold aD at h1 hblk
  rw[h1] at hblk
  simp only[Option.some.injEq,Obj.cells.injEq] at hblk
  exact absurd hblk.2.1 (by decide)
 refine⟨?_,h.ge,⟨ak h.ma.fr hblk (by decide) hg,ak h.ma.sl hblk (by decide) hg,h.ma.sw.keep hblk (by decide) (by decide) hg,h.ma.dk.keep hblk (by decide) (by decide) hg,h.ma.st.keep hblk (by decide) (by decide) hg,ak h.ma.ca hblk (by decide) hg,?_,fun q hq => ?_,h.ma.c64⟩,fun q hq => ?_⟩
 ·have:pF { H with sp:=H.sp.set p { P with ts:=v,tb:=t } } e=pF H e:=by unfold pF;simp only[hlen]
  rw[this]
  exact h.blk.grown hg (fun e=>hbk (Option.some.inj e).symm)
 ·simp only[hlen]
  exact hset w' _ hb
 ·rcases List.mem_or_eq_of_mem_set hq with hq|rfl
  ·exact⟨ak (h.ma.ps q hq).1 hblk (by decide) hg,(h.ma.ps q hq).2.keep hblk (by decide) hg⟩
  ·exact⟨ak (h.ma.ps P (List.mem_of_getElem? hP)).1 hblk (by decide) hg,ht.keep hblk (by decide) hg⟩
 ·rcases List.mem_or_eq_of_mem_set hq with hq|rfl
  ·exact h.tz q hq
  ·exact htz
theorem FY {H:MH} {P:PS} (hP:H.sp[p]?=some P):dR H.ma p=P.sp:=by
 unfold dR MH.ma
 simp only
 rw[List.getD_eq_getElem?_getD,List.getElem?_map,hP];rfl
theorem Gp {H:MH} {P:PS} (hP:H.sp[p]?=some P) (v:Vector Value 8) (t:Tb):MH.ma { H with sp:=H.sp.set p { P with ts:=v,tb:=t } }=setTb H.ma p t:=by
 unfold setTb
 rw[FY hP]
 unfold MH.ma
 simp only[List.map_set]
 rfl
theorem KU {v:Vector Value 8} {t:Tb} (h:DJ w (mo v) t):∀u∈(mo v).toList,u.oneCell' = true:=by
 have:=h.one
 rw[←Array.all_toList,List.all_eq_true] at this
 exact this
theorem Nu {t:Tb} {n:Int} {e:En}:zk (setT t n e):=by
 by_cases h:setE t n e=0
 ·exact Dl (sZ h)
 ·rw[qN h];exact Dl zTb_right
def IQ (B:Nat) (t:Tb) (n:Int) (x:En):jJ:=⟨fun v w => ∃cs,v = .tuple #[.agg cs,.int .i64 (setE t n x)]∧mD w B cs (setT t n x),fun _ _ _ hb ⟨cs,h1,h2⟩=>⟨cs,h1,h2.below hb⟩⟩
def Cn (B:Nat) (t:Tb):jJ:=⟨fun v w => ∃cs,v = .agg cs∧mD w B cs t,fun _ _ _ hb ⟨cs,h1,h2⟩=>⟨cs,h1,h2.below hb⟩⟩
theorem pQ (H:MH) (e n:Int) (p:Nat) (x:En) (B b:Nat) (w:World) (h:jf w B b H e) (hp:p<H.sp.length) :
  Calls Tryz.prog 79 #[.pointer (some ⟨b,0,none⟩),.int .i64 p,.int .i64 n,.agg (iM x)] w fun r w'=>r = .returned (.tuple #[])∧KR w B b H w' (iD ⟨H.ma,e⟩ p n x):=by
 obtain⟨P,hP⟩:∃P,H.sp[p]?=some P:=⟨_,List.getElem?_eq_getElem hp⟩
 have hsp:=Lib.hid (FY hP)
 have hBs:=Lib.hid h.bs
 have hPm:=List.mem_of_getElem? hP
 go_enter func79,ntmps79
 go_upto_region 1 with (fail)
 refine gB (fun W=>Code.wp _ _ _ _ W) fun w1 hb1 hx1 hs1 => ?_
 have h1:=h.below hb1
 have s1:=(KS.refl w b H).below hb1
 clear h hs1
 obtain⟨g,off,cur,hap,hBg,hblk,hfit,hrd,hset⟩:=h1.setT hP
 refine ko 18 [_,_,_,_,_,_,_,_,_,_,_,.r 11 ((IQ w1.heap.size P.tb n x)),.r 12 ((IQ w1.heap.size P.tb n x)),.r 13 ((Cn w1.heap.size (setT P.tb n x))),.v (.int .i64 (setE P.tb n x)),.r 15 ((iT w1.heap.size 53 8)),.y 16 ((KD 15 w1.heap.size 53 (Cn w1.heap.size (setT P.tb n x)))),.v (.int .i64 (setE P.tb n x))] (fun W=>Below w1.heap.size w1 W) eP (Below.refl _ _) (Yk eP rfl (Yk eP rfl (Yf eP b 0 rfl rfl (Yf eP b 10 rfl rfl (Yc eP (.slice (some ⟨g,off,none⟩) H.sp.length H.cp) (fun W hb=>by simp[(h1.below hb).blk.cell,pF,hap]) rfl rfl rfl rfl (Yk eP rfl (Yr eP (.pointer (some ⟨g,off+p*10,none⟩)) (fun ρ y W hb hKn=>(bB rfl (aF rfl hKn) (aF rfl hKn) hp underlying39 space_size)) rfl rfl (Yf eP g (off+p*10+2) rfl rfl (Yr eP (.agg (mo P.ts)) (fun ρ y W hb hKn=>(bu rfl (aF rfl hKn) (oO (hrd.below hb) 2 8) underlying53 tab_agg tab_size)) rfl rfl (Yk eP rfl (Yr eP (.agg (iM x)) (fun ρ y W hb hKn=>(bI rfl (aF rfl hKn) (hx1.ext hb) underlying89 rfl entry_size)) rfl rfl (ae ?_ (ae ?_ (ae ?_ (ae ?_ (ae ?_ (ae ?_ (Yk eP rfl (aB))))))))))))))))))) (fun _=>rfl) rfl ?_
 ·intro ρ y W hw hn hb hd
  refine jI eP hb ((IQ w1.heap.size P.tb n x)) (fun _ _ h=>h) ?_
  have E19:=hw 19 8 rfl
  have h8:y 8 = .agg (mo P.ts):=hd 8 rfl
  have E20:=hw 20 9 rfl
  have h9:y 9 = .int .i64 n:=hd 9 rfl
  have E21:=hw 21 10 rfl
  have h10:y 10 = .agg (iM x):=hd 10 rfl
  have EF:∀f,ρ (.func f) = .func (.func f) #[] #[]:=fun f=>hn (.func f) trivial
  refine aM _ _ (ah rfl) (aN rfl (EF _) func118 (by kernel_rfl) (by kernel_rfl) (by simp only[List.map_toArray,List.map_cons,List.map_nil,E19,h8,E20,h9,E21,h10,EF];rfl)) ?_
  refine (Mq P.tb (mo P.ts) n x W (((h1.below hb).ma.ps P hPm).2.rd) (h1.tz P hPm)).mono ?_
  rintro r W2 ⟨cs,rfl,ho,hb2⟩
  exact⟨_,rfl,hb2,cs,rfl,ho.mono hb.size⟩
 ·intro ρ y W hw hn hb hd
  refine jI eP hb ((IQ w1.heap.size P.tb n x)) (fun _ _ h=>h) ?_
  have E22:=hw 22 11 rfl
  have h11:=hd 11 rfl
  refine aj _ (ah rfl) (run_move (.inl rfl) E22) ?_
  exact h11
 ·intro ρ y W hw hn hb hd
  refine jI eP hb ((Cn w1.heap.size (setT P.tb n x))) (fun _ _ h=>h) ?_
  have E10:=hw 10 12 rfl
  have h12:=hd 12 rfl
  obtain⟨cs,hcs,ho⟩:=h12
  refine aj (.agg cs) (ah rfl) (by simp[execOp,go_sem,bC,E10,hcs]) ?_
  exact⟨cs,rfl,ho⟩
 ·intro ρ y W hw hn hb hd
  refine jI eP hb (oV (.int .i64 (setE P.tb n x))) (fun _ _ h=>h) ?_
  have E10:=hw 10 12 rfl
  have h12:=hd 12 rfl
  obtain⟨cs,hcs,ho⟩:=h12
  refine aj (.int .i64 (setE P.tb n x)) (ah rfl) (by simp[execOp,go_sem,bC,E10,hcs]) rfl
 ·intro ρ y W hw hn hb hd
  refine jI eP hb ((iT w1.heap.size 53 8)) (fun _ _ h=>h) ?_
  refine iG (.pointer (some ⟨W.heap.size,0,none⟩)) (ah rfl) (by simp[execOp,go_sem,bC]) ((Below.refl _ _).alloc (Nat.le_refl _) (.cells #[.slice none 0 0,.slice none 0 0,.slice none 0 0,.slice none 0 0,.slice none 0 0,.slice none 0 0,.slice none 0 0,.slice none 0 0] 53)) ?_
  exact⟨_,_,rfl,hb.size,aD.new _ _ _,rfl⟩
 ·intro ρ y W hw hn hb hd;have E8:=hw 8 15 rfl;have h15:=hd 15 rfl;have E23:=hw 23 13 rfl;have h13:=hd 13 rfl
  obtain⟨cc,e7,ho7⟩:=h13
  obtain⟨g3,cur3,e9,hg9,hb9,hs9⟩:=h15
  have hsz7:=ho7.sz
  refine mV (ah rfl) _ _ _ rfl g3 0 (.agg cc) cc.toList (E8.trans e9) (E23.trans e7) rfl cur3 _ hb9 (by rw[Array.length_toList,hs9,hsz7];exact Nat.le_refl _) (by rw[Array.length_toList,hsz7];exact tab_size) (bv ho7.rd.one) ?_
  intro w1 hw1 hgr
  rw[ik cur3 cc (by rw[hs9,hsz7])] at hw1
  refine⟨hb.grown hgr hb.size (fun k hk=>by cases hk;exact hg9),⟨g3,cc,e9,hg9,hw1,⟨cc,rfl,ho7.keep hb9 (by decide) hgr⟩⟩,?_⟩
  intro k hk hne
  match k,hk,hne with
  | 0,_,_=>exact fun h=>h
  | 1,_,_=>exact fun h=>h
  | 2,_,_=>exact fun h=>h
  | 3,_,_=>exact fun h=>h
  | 4,_,_=>exact fun h=>h
  | 5,_,_=>exact fun h=>h
  | 6,_,_=>exact fun h=>h
  | 7,_,_=>exact fun h=>h
  | 8,_,_=>exact fun h=>h
  | 9,_,_=>exact fun h=>h
  | 10,_,_=>exact fun h=>h
  | 11,_,_=>exact fun⟨c,q1,q2⟩=>⟨c,q1,q2.keep hb9 (by decide) hgr⟩
  | 12,_,_=>exact fun⟨c,q1,q2⟩=>⟨c,q1,q2.keep hb9 (by decide) hgr⟩
  | 13,_,_=>exact fun⟨c,q1,q2⟩=>⟨c,q1,q2.keep hb9 (by decide) hgr⟩
  | 14,_,_=>exact fun h=>h
  | 15,_,_=>exact fun q=>lK q hw1 (fun _=>hsz7) ⟨_,hb9⟩ hgr
  | 16,_,h=>exact absurd rfl h
  | 17,_,_=>exact fun h=>h
  | n+18,h,_=>exact absurd h (by omega)
 intro y W2 hbW2 hRW2
 replace hbW2:Below w1.heap.size w1 W2:=hbW2
 have hy11:((IQ w1.heap.size P.tb n x)).r (y 11) W2:=hRW2 11 (by decide)
 have hy12:((IQ w1.heap.size P.tb n x)).r (y 12) W2:=hRW2 12 (by decide)
 have hy13:((Cn w1.heap.size (setT P.tb n x))).r (y 13) W2:=hRW2 13 (by decide)
 have hy15:((iT w1.heap.size 53 8)).r (y 15) W2:=hRW2 15 (by decide)
 have hy16:=hRW2 16 (by decide)
 clear hRW2
 simp only[bH,bC,List.map_cons,List.map_nil]
 obtain⟨gx,cs2,hyx,hgx,hbx,ca2,hca2,ho2⟩:=hy16
 simp only[Value.agg.injEq] at hca2
 subst hca2
 obtain⟨v2,rfl⟩:=KF ho2.sz
 have h2:=h1.below hbW2
 have s2:=s1.below hbW2
 have hge1:=Lib.hid hb1.size
 clear hy11 hy12 hy13 hy15 hset hrd hblk hfit hap h1 s1 hx1 hBg hb1 cur
 go_wp2_with fail
 refine (oM _ e (setE P.tb n x) _ _ _ h2).mono ?_
 rintro r w3 ⟨rfl,k3,hg3⟩
 have s3:=s2.putB hg3 rfl rfl rfl
 have ho3:=ho2.keep h2.blk (by decide) hg3
 have hx3:=aW hbx h2.blk (by decide) hg3
 have hBg:=Lib.hid hgx
 clear h2 s2 ho2 hbx hg3 hbW2 hgx
 have hsE:Hid (setE (dR H.ma p).tb n x=setE P.tb n x):=Lib.hid (by rw[hsp.out];rfl)
 by_cases h0:setE P.tb n x=0
 ·rw[h0,mZ] at k3
  have hq:Hid (iD ⟨H.ma,e⟩ p n x=⟨setTb H.ma p (setT P.tb n x),e⟩):=Lib.hid (by
   unfold iD
   simp only
   rw[if_pos (hsE.out.trans h0),hsp.out]
   rfl)
  obtain⟨g,off,cur,hap,hBg',hblk,hfit,hrd,hset⟩:=k3.setT hP
  have hx:=hx3.cell
  have kc3:=k3.blk.cell
  unfold pF at kc3
  rw[hap] at kc3
  rw[h0]
  go_upto_region 4 with (fail)
  refine aG 9 [_,_,_,_,_,_,_,_,_] (Gk rfl (Gk rfl (Gf b 0 rfl rfl (Gf b 10 rfl rfl (Gc (.slice (some ⟨g,off,none⟩) H.sp.length H.cp) (fun W hb=>by simp[(k3.below hb).blk.cell,pF,hap]) rfl rfl rfl rfl (Gk rfl (Gr (.agg (mo v2)) (fun ρ y W hb hKn=>(bu rfl (aF rfl hKn) ((hx3.ext hb).rd) underlying53 tab_agg tab_size)) rfl rfl (Gr (.pointer (some ⟨g,off+p*10,none⟩)) (fun ρ y W hb hKn=>(bB rfl (aF rfl hKn) (aF rfl hKn) hp underlying39 space_size)) rfl rfl (Gf g (off+p*10+2) rfl rfl (aB)))))))))) (fun _=>rfl) rfl ?_
  intro y W4 hbW4 _
  go_wp2_with (refine fq rfl _ _ _ rfl g (off+p*10+2) (mo v2) rfl rfl _ _ (hblk.ext hbW4) hfit tab_size (by rw[←Array.all_toList,List.all_eq_true];exact KU ho3.rd) ?_)
  intro w5 hb5 hg5
  have hg5':=Fh hbW4 hg5
  have k5:=hset w5 v2 (setT P.tb n x) (ho3.mono (Nat.le_trans hBs.out hge1.out)) Nu hb5 hg5'
  go_wp2
  simp[bodyPost,results,go_sem,results79]
  rw[hq.out]
  refine⟨_,_,k5,s3.put hg5' (.inr (.inr (.inr (by rw[hap];rfl)))) fun y hy => .inl (AC rfl rfl rfl hy),?_⟩
  rw[Gp hP]
 ·have hq:Hid (iD ⟨H.ma,e⟩ p n x=⟨H.ma,gW e (setE P.tb n x)⟩):=Lib.hid (by
   unfold iD
   simp only
   rw[if_neg (by rw[hsE.out];exact h0),hsE.out])
  go_wp2
  simp[bodyPost,results,go_sem,results79]
  rw[hq.out]
  exact⟨_,_,k3,s3,rfl⟩
theorem slots_size:(Tryz.prog.info? 30).map (·.size)=some 1:=by kernel_rfl
def JF (B:Nat) (T:TypeId) (sz n:Nat) (xs:List Value) (er:Int):jJ:=⟨fun v w => ∃u,v = .tuple #[u,.int .i64 er]∧Own w B T sz u n xs,fun _ _ _ hb ⟨u,h1,h2⟩=>⟨u,h1,h2.below hb⟩⟩
theorem jf.at {w:World} {B b:Nat} {H:MH} {e:Int} (h:jf w B b H e) {p:Nat} {P:PS} (hP:H.sp[p]?=some P):∃g off,H.ap=some ⟨g,off,none⟩∧dA w (some ⟨g,off+p*10,none⟩) (nZ P)∧dA w (some ⟨g,off+p*10+2,none⟩) (mo P.ts).toList∧P.good w:=by
 have hp:=(List.getElem?_eq_some_iff.1 hP).1
 obtain⟨g,off,P',ha,hP',hr⟩:=zy h.ma.rd.sp.rd p hp
 rw[hP] at hP'
 cases hP'
 exact⟨g,off,ha,hr,oO hr 2 8,h.ma.rd.ps P (List.mem_of_getElem? hP)⟩
theorem KR.trans {H0 H1:MH} {k:Kp} (h:KS w0 b H0 w1 H1) (k2:KR w1 B b H1 w2 k):KR w0 B b H0 w2 k:=by
 obtain⟨H2,e2,h1,h2,h3⟩:=k2
 exact⟨H2,e2,h1,h.trans h2,h3⟩
theorem Ip (H:MH) (e n:Int) (p:Nat) (B b:Nat) (w:World) (h:jf w B b H e) (hp:p<H.sp.length) :
  Calls Tryz.prog 102 #[.pointer (some ⟨b,0,none⟩),.int .i64 p,.int .i64 n] w fun r w'=>r = .returned (.tuple #[])∧KR w B b H w' (ni ⟨H.ma,e⟩ p n):=by
 obtain⟨P,hP⟩:∃P,H.sp[p]?=some P:=⟨_,List.getElem?_eq_getElem hp⟩
 have hsp:=Lib.hid (FY hP)
 obtain⟨g,off,hap,hrd,hrt,hgood⟩:=h.at hP
 have hc:=h.blk.cell
 unfold pF at hc
 rw[hap] at hc
 have hpi:(p:Int)<(H.sp.length:Int):=by omega
 go_enter func102,ntmps102
 go_wp2_with (refine ay _ _ rfl g (off+p*10+2) rfl rfl _ hrt _ underlying53 tab_agg tab_size ?_)
 refine (BU P.tb (mo P.ts) n _ hgood.tb).mono ?_
 rintro r w1 ⟨rfl,hb1⟩
 have h1:=h.below hb1
 have s1:=(KS.refl w b H).below hb1
 clear hc hrd hrt hgood
 generalize hx:dn P.tb n=x
 go_wp2_with (refine aL rfl _ _ _ rfl (iM x) rfl rfl rfl entry_size (by simp[iM,Value.oneCell']) ?_)
 intro w2 hb2 hx2
 have h2:=h1.below hb2
 have s2:=s1.below hb2
 clear h1 s1 hb1 hb2 h
 have hc2:=hx2.cell
 unfold iM at hc2
 have hgx:Hid (dn (dR H.ma p).tb n=x):=Lib.hid (by rw[hsp.out];exact hx)
 clear hx
 by_cases hk1:x.k=1
 ·have hq:Hid (ni ⟨H.ma,e⟩ p n=iD (gz ⟨H.ma,e⟩ x.n (-1)) p n zEn):=Lib.hid (by
   unfold ni
   simp only[hgx.out]
   rw[if_pos hk1])
  have hk1':=Lib.hid hk1
  rw[hk1] at hc2
  clear hk1
  go_wp2_with fail
  refine (uS H e x.n (-1) B b _ h2).mono ?_
  rintro r w3 ⟨rfl,H3,e3,h3,s3,q3⟩
  have hl3:H3.sp.length=H.sp.length:=by
   have e1:H3.ma.sp=H.ma.sp:=by
    have:=congrArg (fun k=>k.m.sp) q3
    simp only at this
    rw[this]
    unfold gz
    split<;>rfl
   have:=congrArg List.length e1
   unfold MH.ma at this
   simpa using this
  have s3':=s2.trans s3
  have hq3:=Lib.hid q3
  clear q3 s3 hc2
  go_wp2_with fail
  refine (pQ H3 e3 n p zEn B b _ h3 (by rw[hl3];exact hp)).mono ?_
  rintro r w4 ⟨rfl,hk4⟩
  go_wp2
  simp[bodyPost,results,go_sem,results102]
  rw[hq.out,←hq3.out]
  exact KR.trans s3' hk4
 ·by_cases hk2:x.k=2
  ·have hq:Hid (ni ⟨H.ma,e⟩ p n=iD (lw ⟨H.ma,e⟩ x.n (-1)) p n zEn):=Lib.hid (by
    unfold ni
    simp only[hgx.out]
    rw[if_neg hk1,if_pos hk2])
   rw[hk2] at hc2
   clear hk1 hk2
   have hck:=h2.blk.cell
   unfold pF at hck
   go_upto_region 5 with (fail)
   refine ko 13 [_,_,_,_,_,_,_,.r 7 ((JF w2.heap.size 3 1 (eF H.sl x.n (-1)).length ((eF H.sl x.n (-1)).map eH) (eD H.sl x.n (-1)))),.r 8 ((JF w2.heap.size 3 1 (eF H.sl x.n (-1)).length ((eF H.sl x.n (-1)).map eH) (eD H.sl x.n (-1)))),.r 9 ((lh w2.heap.size 3 1 (eF H.sl x.n (-1)).length ((eF H.sl x.n (-1)).map eH))),.v (.int .i64 (eD H.sl x.n (-1))),.r 11 ((lh w2.heap.size 3 1 (eF H.sl x.n (-1)).length ((eF H.sl x.n (-1)).map eH))),.v (.int .i64 (eD H.sl x.n (-1)))] (fun W=>Below w2.heap.size w2 W) eP (Below.refl _ _) (Yk eP rfl (Yk eP rfl (Yf eP b 0 rfl rfl (Yf eP b 2 rfl rfl (Yc eP (.slice H.asl H.sl.length H.csl) (fun W hb=>by simp[(h2.below hb).blk.cell,pF]) rfl rfl rfl rfl (Yf eP w1.heap.size 1 rfl rfl (Yc eP (.int .i64 x.n) (fun W hb=>by simp[(hx2.ext hb).cell,iM]) rfl rfl rfl rfl (ae ?_ (ae ?_ (ae ?_ (ae ?_ (ae ?_ (Yk eP rfl (aB)))))))))))))) (fun _=>rfl) rfl ?_
   ·intro ρ y W hw hn hb hd
    refine jI eP hb ((JF w2.heap.size 3 1 (eF H.sl x.n (-1)).length ((eF H.sl x.n (-1)).map eH) (eD H.sl x.n (-1)))) (fun _ _ h=>h) ?_
    have E35:=hw 35 4 rfl
    have h4:y 4 = .slice H.asl H.sl.length H.csl:=hd 4 rfl
    have E37:=hw 37 6 rfl
    have h6:y 6 = .int .i64 x.n:=hd 6 rfl
    have EC:∀v,ρ (.const v)=v:=fun v=>hn (.const v) trivial
    have EF:∀f,ρ (.func f) = .func (.func f) #[] #[]:=fun f=>hn (.func f) trivial
    refine aM _ _ (ah rfl) (aN rfl (EF _) func78 (by kernel_rfl) (by kernel_rfl) (by simp only[List.map_toArray,List.map_cons,List.map_nil,E35,h4,E37,h6,EC,EF];rfl)) ?_
    have hm:=(h2.below hb).ma.rd.sl
    refine (DZ H.sl H.asl H.csl x.n (-1) W hm.le hm.nl hm.rd (by have:=hm.le;have:=hm.mx;unfold maxLen at this;omega)).mono ?_
    rintro r W3 ⟨u,rfl,ho,hb3⟩
    exact⟨_,rfl,hb3,u,rfl,ho.mono hb.size⟩
   ·intro ρ y W hw hn hb hd
    refine jI eP hb ((JF w2.heap.size 3 1 (eF H.sl x.n (-1)).length ((eF H.sl x.n (-1)).map eH) (eD H.sl x.n (-1)))) (fun _ _ h=>h) ?_
    have E38:=hw 38 7 rfl
    have h7:=hd 7 rfl
    refine aj _ (ah rfl) (run_move (.inl rfl) E38) ?_
    exact h7
   ·intro ρ y W hw hn hb hd
    refine jI eP hb ((lh w2.heap.size 3 1 (eF H.sl x.n (-1)).length ((eF H.sl x.n (-1)).map eH))) (fun _ _ h=>h) ?_
    have E30:=hw 30 8 rfl
    have h8:=hd 8 rfl
    obtain⟨u,hu,ho⟩:=h8
    refine aj u (ah rfl) (by simp[execOp,go_sem,bC,E30,hu]) ?_
    exact ho
   ·intro ρ y W hw hn hb hd
    refine jI eP hb (oV (.int .i64 (eD H.sl x.n (-1)))) (fun _ _ h=>h) ?_
    have E30:=hw 30 8 rfl
    have h8:=hd 8 rfl
    obtain⟨u,hu,ho⟩:=h8
    refine aj (.int .i64 (eD H.sl x.n (-1))) (ah rfl) (by simp[execOp,go_sem,bC,E30,hu]) rfl
   ·intro ρ y W hw hn hb hd
    refine jI eP hb ((lh w2.heap.size 3 1 (eF H.sl x.n (-1)).length ((eF H.sl x.n (-1)).map eH))) (fun _ _ h=>h) ?_
    have E39:=hw 39 9 rfl
    have h9:=hd 9 rfl
    refine aj _ (ah rfl) (run_move (.inr rfl) E39) ?_
    exact h9
   intro y W3 hbW3 hRW3
   replace hbW3:Below w2.heap.size w2 W3:=hbW3
   have hy7:((JF w2.heap.size 3 1 (eF H.sl x.n (-1)).length ((eF H.sl x.n (-1)).map eH) (eD H.sl x.n (-1)))).r (y 7) W3:=hRW3 7 (by decide)
   have hy8:((JF w2.heap.size 3 1 (eF H.sl x.n (-1)).length ((eF H.sl x.n (-1)).map eH) (eD H.sl x.n (-1)))).r (y 8) W3:=hRW3 8 (by decide)
   have hy9:((lh w2.heap.size 3 1 (eF H.sl x.n (-1)).length ((eF H.sl x.n (-1)).map eH))).r (y 9) W3:=hRW3 9 (by decide)
   have hy11:((lh w2.heap.size 3 1 (eF H.sl x.n (-1)).length ((eF H.sl x.n (-1)).map eH))).r (y 11) W3:=hRW3 11 (by decide)
   clear hRW3
   simp only[bH,bC,List.map_cons,List.map_nil]
   have ho3:Own W3 w2.heap.size 3 1 (y 11) (eF H.sl x.n (-1)).length ((eF H.sl x.n (-1)).map eH):=hy11
   obtain⟨a3,c3,e7,_⟩:=Own.rd ho3
   rw[e7] at ho3
   simp only[e7]
   have k3:=h2.below hbW3
   have s3:=s2.below hbW3
   have hge:=Lib.hid (Nat.le_trans h2.bs (Nat.le_refl _))
   have hws:=Lib.hid s2.size
   clear hy7 hy8 hy9 hy11 e7 hc2 hck h2 s2 hx2 hbW3
   go_wp2_with fail
   refine (oM _ e (eD H.sl x.n (-1)) _ _ _ k3).mono ?_
   rintro r w4 ⟨rfl,k4,hg4⟩
   have s4:=s3.putB hg4 rfl rfl rfl
   have ho4:=ak ho3 k3.blk (by decide) hg4
   clear k3 s3 ho3 hg4
   by_cases h0:eD H.sl x.n (-1)=0
   ·rw[h0,mZ] at k4
    have hq2:Hid (lw ⟨H.ma,e⟩ x.n (-1)=⟨{ H.ma with sl:=eF H.sl x.n (-1) },e⟩):=Lib.hid (by unfold lw;exact if_pos h0)
    rw[h0]
    go_wp2_with (refine az rfl _ _ _ rfl b 2 _ [.slice a3 (eF H.sl x.n (-1)).length c3] rfl rfl rfl _ _ k4.blk (by show 2+1≤12;decide) slots_size (fun u hu=>by cases List.mem_singleton.1 hu;rfl) ?_)
    intro w5 hb5 hg5
    have k5:=k4.setL (ho4.mono hge.out) hb5 hg5
    have s5:KS w b H w5 { H with asl:=a3,csl:=c3,sl:=eF H.sl x.n (-1) }:=s4.putB hg5 rfl rfl rfl
    go_wp2_with fail
    refine (pQ _ e n p zEn B b _ k5 hp).mono ?_
    rintro r w6 ⟨rfl,hk6⟩
    go_wp2
    simp[bodyPost,results,go_sem,results102]
    rw[hq.out,hq2.out]
    exact KR.trans s5 hk6
   ·have hq2:Hid (lw ⟨H.ma,e⟩ x.n (-1)=⟨H.ma,gW e (eD H.sl x.n (-1))⟩):=Lib.hid (by unfold lw;exact if_neg h0)
    go_wp2_with fail
    refine (pQ _ (gW e (eD H.sl x.n (-1))) n p zEn B b _ k4 hp).mono ?_
    rintro r w6 ⟨rfl,hk6⟩
    go_wp2
    simp[bodyPost,results,go_sem,results102]
    rw[hq.out,hq2.out]
    exact KR.trans s4 hk6
  ·have hq:Hid (ni ⟨H.ma,e⟩ p n=⟨H.ma,e⟩):=Lib.hid (by
    unfold ni
    simp only[hgx.out]
    rw[if_neg hk1,if_neg hk2])
   go_wp2
   simp[bodyPost,results,go_sem,results102]
   rw[hq.out]
   exact⟨_,_,h2,s2,rfl⟩
def ent (m:Ma) (p:Nat) (n:Int):En:=dn (dR m p).tb n
structure Pt (m:Ma):Prop where
 fr:bJ m.m=0
 sl:bU m.sl=0
 sw:aZ m.sw=0
 dk:aZ m.dk=0
 st:aS m.st=0
 swl:m.sw.blocks.length=m.sl.length
 dkl:(m.dk.blocks.length:Int)=m.st.count
 spl:m.sp.length≤4
 ar:∀s∈m.sp,(bF s.ar).1=0
 tb:∀s∈m.sp,cZ s.tb=0
theorem yg (h:p<m.sp.length):m.sp[p]?=some (dR m p):=by
 unfold dR;rw[List.getD_eq_getElem?_getD,List.getElem?_eq_getElem h];rfl
theorem wW (h:p<m.sp.length):dR m p∈m.sp:=List.mem_of_getElem? (yg h)
theorem mr (h:m.sp.length≤p):dR m p=zSp:=by
 unfold dR;rw[List.getD_eq_getElem?_getD,List.getElem?_eq_none h];rfl
theorem Gu {s:Sp} (h:s∈m.sp):∃p,p<m.sp.length∧s=dR m p:=by
 obtain⟨i,hi,rfl⟩:=List.mem_iff_getElem.1 h
 refine⟨i,hi,?_⟩
 have:=yg (m:=m) hi
 rw[List.getElem?_eq_getElem hi] at this
 exact Option.some.inj this
theorem Pt.tbN (h:Pt m) (p:Nat):cZ (dR m p).tb=0:=by
 rcases Nat.lt_or_ge p m.sp.length with hp|hp
 ·exact h.tb _ (wW hp)
 ·rw[mr hp];decide
theorem Pt.arN (h:Pt m) (p:Nat):(bF (dR m p).ar).1=0:=by
 rcases Nat.lt_or_ge p m.sp.length with hp|hp
 ·exact h.ar _ (wW hp)
 ·rw[mr hp];decide
theorem nX (h:Pt m) (p:Nat) (n:Int):eT (ent m p n)=0:=qJ (h.tbN p) n
theorem FZ (p:Nat) {n:Int} (h:n<0∨64≤n):ent m p n=zEn:=mW h
theorem bV (e:En):eT e=0↔(e.k=0∧e.n=0∧e.w=false)∨(e.k=1∧0≤e.n∧e.n<40)∨(e.k=2∧0≤e.n∧e.n<60∧e.w=false):=by
 obtain⟨k,n,w⟩:=e
 unfold eT
 simp only
 cases w
 all_goals
  simp only[Bool.false_eq_true,reduceCtorEq,and_true,and_false,or_false,false_or,or_true]
  constructor
  ·intro h
   split at h
   ·omega
   ·split at h
    ·omega
    ·split at h<;>omega
  ·intro h
   split
   ·omega
   ·split
    ·omega
    ·split
     ·omega
     ·rfl
theorem zU {t:Tb} (hp:p<m.sp.length) (q:Nat):dR (setTb m p t) q=if q=p then { dR m p with tb:=t } else dR m q:=by
 unfold setTb
 show (m.sp.set p _).getD q zSp=_
 rw[List.getD_eq_getElem?_getD,List.getElem?_set]
 by_cases e:q=p
 ·subst e;rw[if_pos rfl,if_pos hp,if_pos rfl];rfl
 ·rw[if_neg (fun h=>e h.symm),if_neg e];unfold dR;rw[List.getD_eq_getElem?_getD]
theorem Jn {t:Tb} (hp:p<m.sp.length) (q:Nat) (n:Int):ent (setTb m p t) q n=if q=p then dn t n else ent m q n:=by
 unfold ent
 rw[zU hp]
 by_cases e:q=p
 ·rw[if_pos e,if_pos e]
 ·rw[if_neg e,if_neg e]
theorem oC {t:Tb}:(setTb m p t).sp.length=m.sp.length:=List.length_set
theorem Pt.setTb {m:Ma} (h:Pt m) {p:Nat} {t:Tb} (ht:cZ t=0):Pt (setTb m p t):=by
 by_cases hp:p<m.sp.length
 ·refine { h with spl:=by rw[oC];exact h.spl,ar:=fun s hs => ?_,tb:=fun s hs => ?_ }
  ·rcases List.mem_or_eq_of_mem_set hs with hs|rfl
   ·exact h.ar s hs
   ·exact h.arN p
  ·rcases List.mem_or_eq_of_mem_set hs with hs|rfl
   ·exact h.tb s hs
   ·exact ht
 ·have:Go.Proofs.YtjkkoeijlhfneaaGreat.setTb m p t=m:=by
   unfold Go.Proofs.YtjkkoeijlhfneaaGreat.setTb
   rw[List.set_eq_of_length_le (by omega)]
  rw[this];exact h
def qW (kd i:Int) (e:En):Bool:=decide (e.k=kd)&&decide (e.n=i)
def cz (m:Ma) (kd i:Int):Nat:=(m.sp.map fun s=>(eQ s.tb).countP (qW kd i)).sum
def qp (b:Bool):Nat:=if b=true then 1 else 0
theorem countP_set {α:Type} (q:α→Bool):∀(l:List α) (k:Nat) (h:k<l.length) (x:α),(l.set k x).countP q+qp (q l[k])=l.countP q+qp (q x)
 | a::l,0,_,x=>by
  simp only[List.set_cons_zero,List.getElem_cons_zero,List.countP_cons,qp]
  omega
 | a::l,k+1,h,x=>by
  have:=countP_set q l k (by simpa using h) x
  simp only[List.set_cons_succ,List.getElem_cons_succ,List.countP_cons]
  omega
theorem sum_set:∀(l:List Nat) (k:Nat) (h:k<l.length) (x:Nat),(l.set k x).sum+l[k]=l.sum+x
 | a::l,0,_,x=>by simp only[List.set_cons_zero,List.getElem_cons_zero,List.sum_cons];omega
 | a::l,k+1,h,x=>by
  have:=sum_set l k (by simpa using h) x
  simp only[List.set_cons_succ,List.getElem_cons_succ,List.sum_cons]
  omega
theorem tV {t:Tb} {n:Int} {e:En} (h:setE t n e=0):eQ (setT t n e)=(eQ t).set n.toNat e:=by
 obtain⟨h1,h2,h3⟩:=pO h
 rw[xM h,xR (AJ h1 h3) (by rw[List.length_set,jY])]
theorem FQ {t:Tb} {n:Int} {e:En} (h:setE t n e=0) (q:En→Bool):(eQ (setT t n e)).countP q+qp (q (dn t n))=(eQ t).countP q+qp (q e):=by
 obtain⟨h1,h2,h3⟩:=pO h
 have hl:n.toNat<(eQ t).length:=by rw[jY];omega
 have h4:=countP_set q (eQ t) n.toNat hl e
 have h5:=uk t n.toNat (by omega)
 rw[List.getElem?_eq_getElem hl,Int.toNat_of_nonneg h2.1] at h5
 rw[Option.some.inj h5] at h4
 rw[tV h];exact h4
theorem qG (hp:p<m.sp.length) {n:Int} {x:En} (h:setE (dR m p).tb n x=0) (kd i:Int) :
  cz (setTb m p (setT (dR m p).tb n x)) kd i+qp (qW kd i (ent m p n))=cz m kd i+qp (qW kd i x):=by
 have h1:=FQ h (qW kd i)
 have h2:=sum_set (m.sp.map fun s=>(eQ s.tb).countP (qW kd i)) p (by simpa using hp) ((eQ (setT (dR m p).tb n x)).countP (qW kd i))
 unfold cz setTb
 rw[List.map_set]
 have h3:(m.sp.map fun s=>(eQ s.tb).countP (qW kd i))[p]'(by simpa using hp)=(eQ (dR m p).tb).countP (qW kd i):=by
  rw[List.getElem_map]
  have:=yg hp
  rw[List.getElem?_eq_getElem hp] at this
  rw[Option.some.inj this]
 rw[h3] at h2
 have h4:qp (qW kd i (ent m p n))=qp (qW kd i (dn (dR m p).tb n)):=rfl
 simp only
 omega
theorem Ns {l:List Nat}:0<l.sum↔∃k,∃h:k<l.length,0<l[k]:=by
 induction l with
 | nil=>simp
 | cons a l ih=>
  rw[List.sum_cons]
  constructor
  ·intro h
   by_cases ha:0<a
   ·exact⟨0,by simp,by simpa using ha⟩
   ·obtain⟨k,hk,hx⟩:=ih.1 (by omega)
    exact⟨k+1,by simpa using hk,by simpa using hx⟩
  ·rintro⟨k,hk,hx⟩
   cases k with
   | zero=>simp at hx;omega
   | succ k=>
    have:=ih.2 ⟨k,by simpa using hk,by simpa using hx⟩
    omega
theorem uF {i:Int} (hk:kd≠0):0<cz m kd i↔∃p n,p<m.sp.length∧(0≤n∧n<64)∧(ent m p n).k=kd∧(ent m p n).n=i:=by
 unfold cz
 rw[Ns]
 constructor
 ·rintro⟨p,hp,h⟩
  have hp' : p<m.sp.length:=by simpa using hp
  rw[List.getElem_map] at h
  obtain⟨e,he,hq⟩:=List.countP_pos_iff.1 h
  obtain⟨j,hj,rfl⟩:=List.mem_iff_getElem.1 he
  have hj' : j<64:=by rw[jY] at hj;exact hj
  have hs:m.sp[p]=dR m p:=by
   have:=yg hp'
   rw[List.getElem?_eq_getElem hp'] at this
   exact Option.some.inj this
  have h5:=uk m.sp[p].tb j hj'
  rw[List.getElem?_eq_getElem hj] at h5
  rw[Option.some.inj h5,hs] at hq
  unfold qW at hq
  simp only[Bool.and_eq_true,decide_eq_true_eq] at hq
  exact⟨p,j,hp',by omega,hq.1,hq.2⟩
 ·rintro⟨p,n,hp,hn,h1,h2⟩
  refine⟨p,by simpa using hp,?_⟩
  rw[List.getElem_map,List.countP_pos_iff]
  have hs:m.sp[p]=dR m p:=by
   have:=yg hp
   rw[List.getElem?_eq_getElem hp] at this
   exact Option.some.inj this
  refine⟨ent m p n,?_,by unfold qW;rw[h1,h2];simp⟩
  rw[hs]
  have h5:=uk (dR m p).tb n.toNat (by omega)
  rw[Int.toNat_of_nonneg hn.1] at h5
  exact List.mem_of_getElem? h5
theorem rW (h:f<m.m.fs.length):m.m.fs[f]?=some (aO m f):=by
 unfold aO;rw[List.getD_eq_getElem?_getD,List.getElem?_eq_getElem h];rfl
theorem Oc (h:f<m.m.fs.length):aO m f∈m.m.fs:=List.mem_of_getElem? (rW h)
theorem Gt (h:m.m.fs.length≤f):aO m f=fr0:=by
 unfold aO;rw[List.getD_eq_getElem?_getD,List.getElem?_eq_none h];rfl
theorem kN {x:Fr} (h:f<m.m.fs.length) (g:Nat):aO (setFr m f x) g=if g=f then x else aO m g:=by
 unfold aO setFr
 simp only
 rw[List.getD_eq_getElem?_getD,List.getElem?_set]
 by_cases e:g=f
 ·subst e;rw[if_pos rfl,if_pos h,if_pos rfl];rfl
 ·rw[if_neg (fun e'=>e e'.symm),if_neg e,List.getD_eq_getElem?_getD]
theorem ku {x:Fr}:(setFr m f x).m.fs.length=m.m.fs.length:=List.length_set
theorem Pt.frE (h:Pt m) (hf:f<m.m.fs.length):dQ (aO m f)=0:=((dB _).1 h.fr).2.1 _ (Oc hf)
theorem Pt.setFr {m:Ma} (h:Pt m) {f:Nat} {x:Fr} (hx:dQ x=0):Pt (setFr m f x):={ h with fr:=EX h.fr hx }
theorem LV {x:Fr} {n:Int} (h:dQ x=0) (hr:x.r≠0) (h1 : -x.r≤n) (h2:n≤1000-x.r):dQ (ic x n)=0:=by
 unfold ic
 by_cases h0:x.r+n=0
 ·rw[if_pos h0];decide
 ·rw[if_neg h0,fP]
  have:=(fP x).1 h
  refine⟨by simp only;omega,fun h3=>absurd h3 h0,this.2.2⟩
theorem Kb {m:Mem} {k n:Int} (h:bJ m=0) (hk:0≤k∧k<m.fs.length) (hr:(m.fs.getD k.toNat fr0).r≠0) (h1 : -(m.fs.getD k.toNat fr0).r≤n) (h2:n≤1000-(m.fs.getD k.toNat fr0).r):ky m k n=0:=by
 unfold ky
 rw[if_neg (by rw[h];simp),if_neg (by omega),if_neg (by omega)]
theorem CQ {k:Kp} {n:Int} (h:Pt k.m) (hf:f<k.m.m.fs.length) (hr:(aO k.m f).r≠0) (h1 : -(aO k.m f).r≤n) (h2:n≤1000-(aO k.m f).r) :
  gz k f n=⟨setFr k.m f (ic (aO k.m f) n),k.e⟩∧Pt (setFr k.m f (ic (aO k.m f) n)):=by
 have h0:ky k.m.m (f:Int) n=0:=Kb h.fr (by omega) hr h1 h2
 refine⟨?_,h.setFr (LV (h.frE hf) hr h1 h2)⟩
 unfold gz
 rw[if_pos h0]
 congr 1
 unfold jw
 rw[if_pos h0]
 rfl
def lV (m:Ma) (s:Nat):Int:=m.sl.getD s 0
def setSl (m:Ma) (s:Nat) (n:Int):Ma:={ m with sl:=m.sl.set s n }
theorem FN (h:f<m.sl.length):m.sl[f]?=some (lV m f):=by
 unfold lV;rw[List.getD_eq_getElem?_getD,List.getElem?_eq_getElem h];rfl
theorem GK {x:Int} (h:f<m.sl.length) (g:Nat):lV (setSl m f x) g=if g=f then x else lV m g:=by
 unfold lV setSl
 simp only
 rw[List.getD_eq_getElem?_getD,List.getElem?_set]
 by_cases e:g=f
 ·subst e;rw[if_pos rfl,if_pos h,if_pos rfl];rfl
 ·rw[if_neg (fun e'=>e e'.symm),if_neg e,List.getD_eq_getElem?_getD]
theorem Pt.slB (h:Pt m) (s:Nat):0≤lV m s∧lV m s≤1000:=by
 rcases Nat.lt_or_ge s m.sl.length with hs|hs
 ·have:=ym h.sl _ (List.mem_of_getElem? (FN hs))
  unfold rM at this
  simp only[Bool.or_eq_false_iff,decide_eq_false_iff_not] at this
  omega
 ·unfold lV;rw[List.getD_eq_getElem?_getD,List.getElem?_eq_none hs];simp
theorem Pt.setSl {m:Ma} (h:Pt m) {s:Nat} {n:Int} (h0:0≤n) (h1:n≤1000):Pt (setSl m s n):=
 { h with sl:=yz s n h.sl h0 h1,swl:=h.swl.trans List.length_set.symm }
theorem pq {k:Kp} {n:Int} {x:En} (h:Pt k.m) (hn:0≤n∧n<64) (hx:eT x=0) :
  setE (dR k.m p).tb n x=0∧iD k p n x=⟨setTb k.m p (setT (dR k.m p).tb n x),k.e⟩∧Pt (setTb k.m p (setT (dR k.m p).tb n x)):=by
 have h0:=Gx (h.tbN p) hn hx
 refine⟨h0,?_,h.setTb (sZ h0)⟩
 unfold iD
 rw[if_pos h0]
theorem rf {n:Int} {x:En} (hp:p<m.sp.length) (h:setE (dR m p).tb n x=0) (q:Nat) (j:Int):ent (setTb m p (setT (dR m p).tb n x)) q j=if q=p∧j=n then x else ent m q j:=by
 rw[Jn hp]
 by_cases e:q=p
 ·subst e
  rw[if_pos rfl,MV h]
  by_cases e2:j=n
  ·rw[if_pos e2,if_pos ⟨rfl,e2⟩]
  ·rw[if_neg e2,if_neg (fun h'=>e2 h'.2)];rfl
 ·rw[if_neg e,if_neg (fun h'=>e h'.1)]
structure jk (m m' : Ma):Prop where
 len:m'.sp.length=m.sp.length
 lv:∀p,(dR m' p).lv=(dR m p).lv
 ar:∀p,(dR m' p).ar=(dR m p).ar
theorem jk.refl (m:Ma):jk m m:=⟨rfl,fun _=>rfl,fun _=>rfl⟩
theorem jk.trans {a b c:Ma} (h:jk a b) (k:jk b c):jk a c:=⟨k.len.trans h.len,fun p=>(k.lv p).trans (h.lv p),fun p=>(k.ar p).trans (h.ar p)⟩
theorem jk.of (h:m'.sp=m.sp):jk m m':=⟨by rw[h],fun p=>by unfold dR;rw[h],fun p=>by unfold dR;rw[h]⟩
theorem jk.setTb {m:Ma} {p:Nat} {t:Tb}:jk m (setTb m p t):=by
 by_cases hp:p<m.sp.length
 ·refine⟨oC,fun q => ?_,fun q => ?_⟩
  all_goals
   rw[zU hp]
   by_cases e:q=p
   ·rw[if_pos e,e]
   ·rw[if_neg e]
 ·have:Go.Proofs.YtjkkoeijlhfneaaGreat.setTb m p t=m:=by
   unfold Go.Proofs.YtjkkoeijlhfneaaGreat.setTb
   rw[List.set_eq_of_length_le (by omega)]
  rw[this];exact .refl _
structure Rest (m m' : Ma):Prop where
 sl:m'.sl=m.sl
 sw:m'.sw=m.sw
 dk:m'.dk=m.dk
 st:m'.st=m.st
 ca:m'.ca=m.ca
theorem Rest.refl (m:Ma):Rest m m:=⟨rfl,rfl,rfl,rfl,rfl⟩
theorem Rest.trans {a b c:Ma} (h:Rest a b) (k:Rest b c):Rest a c:=⟨k.sl.trans h.sl,k.sw.trans h.sw,k.dk.trans h.dk,k.st.trans h.st,k.ca.trans h.ca⟩
structure OA (m:Ma) (f:Nat) (l:List (Nat × Int)):Prop where
 nd:l.Nodup
 mem:∀u∈l,u.1<m.sp.length∧(0≤u.2∧u.2<64)∧(ent m u.1 u.2).k=1∧(ent m u.1 u.2).n=f
theorem zO {x:Fr} (h:dQ x=0):ic x 0=x:=by
 unfold ic
 by_cases h0:x.r=0
 ·rw[if_pos (by omega)];exact (NZ h h0).symm
 ·rw[if_neg (by omega)]
  obtain⟨p,r,u,d,f,i⟩:=x
  simp
theorem IA {x:Fr} (h:dQ x=0) (j:Nat) (hr:(j:Int)+1≤x.r):ic (ic x (-1)) (-(j:Int))=ic x (-((j:Int)+1)):=by
 by_cases h0:x.r=1
 ·have:j=0:=by omega
  subst this
  have h1:ic x (-1)=frZ:=by unfold ic;rw[if_pos (by omega)]
  rw[show -((0:Nat):Int)=0 from rfl,show -(((0:Nat):Int)+1) = -1 from rfl,h1]
  exact zO (by decide)
 ·have h1:ic x (-1) = { x with r:=x.r + -1 }:=by unfold ic;rw[if_neg (by omega)]
  rw[h1]
  unfold ic
  simp only
  by_cases h2:x.r=(j:Int)+1
  ·rw[if_pos (by omega),if_pos (by omega)]
  ·rw[if_neg (by omega),if_neg (by omega)]
   congr 1
   omega
def Oj (f:Nat) (e' : En) (k:Kp) (u:Nat × Int):Kp:=iD (gz k f (-1)) u.1 u.2 e'
theorem xS (hf:f<m.m.fs.length):setFr m f (aO m f)=m:=by
 have h2:m.m.fs.set f (aO m f)=m.m.fs:=by
  have:=rW hf
  rw[List.getElem?_eq_getElem hf] at this
  rw[←Option.some.inj this,List.set_getElem_self]
 unfold setFr
 rw[h2]
theorem AZ {f:Nat} {e' : En} (he:eT e' = 0) (step:Kp→(Nat × Int)→Kp) (hstep:∀k u,(ent k.m u.1 u.2).k=1→(ent k.m u.1 u.2).n=f→step k u=Oj f e' k u):∀(l:List (Nat × Int)) (k:Kp),Pt k.m→OA k.m f l→f<k.m.m.fs.length→(l.length:Int)≤(aO k.m f).r →
  (l.foldl step k).e=k.e∧Pt (l.foldl step k).m∧Rest k.m (l.foldl step k).m∧jk k.m (l.foldl step k).m∧(l.foldl step k).m.m=(setFr k.m f (ic (aO k.m f) (-(l.length:Int)))).m ∧
   (∀p n,ent (l.foldl step k).m p n=if (p,n)∈l then e' else ent k.m p n)∧∀kd i,cz (l.foldl step k).m kd i+(if kd=1∧i=f then l.length else 0)=cz k.m kd i+(if kd=e'.k∧i=e'.n then l.length else 0)
 | [],k,h,hu,hf,hr=>by
  refine⟨rfl,h,.refl _,.refl _,?_,fun p n=>by simp,fun kd i=>by simp⟩
  show k.m.m=_
  rw[show -(([]:List (Nat × Int)).length:Int)=0 from rfl,zO (h.frE hf),xS hf]
 | u::l,k,h,hu,hf,hr=>by
  obtain⟨hp,hn,hk1,hkn⟩:=hu.mem u List.mem_cons_self
  simp only[List.length_cons] at hr
  have hfr:=h.frE hf
  have hb:=((fP _).1 hfr).1
  obtain⟨e1,p1⟩:=CQ (k:=k) (f:=f) (n:=-1) h hf (by omega) (by omega) (by omega)
  have hheld:=IA hfr l.length (by omega)
  generalize hX:ic (aO k.m f) (-1)=X at e1 p1 hheld
  obtain⟨s0,e2,p2⟩:=pq (k:=⟨setFr k.m f X,k.e⟩) (p:=u.1) (n:=u.2) (x:=e') p1 hn he
  have hd:step k u=⟨setTb (setFr k.m f X) u.1 (setT (dR k.m u.1).tb u.2 e'),k.e⟩:=by
   rw[hstep k u hk1 hkn]
   unfold Oj
   rw[e1,e2]
   rfl
  have hent:=fun q j=>rf (m:=setFr k.m f X) (p:=u.1) (n:=u.2) (x:=e') hp s0 q j
  have hhold:=fun kd i=>qG (m:=setFr k.m f X) (p:=u.1) (n:=u.2) (x:=e') hp s0 kd i
  have hnd:=List.nodup_cons.1 hu.nd
  have hm1:(step k u).m.m=(setFr k.m f X).m:=by rw[hd];rfl
  have hfN:aO (step k u).m f=X:=by
   have:aO (step k u).m f=aO (setFr k.m f X) f:=by unfold aO;rw[hm1]
   rw[this,kN hf,if_pos rfl]
  have hentd:∀q j,ent (step k u).m q j=if q=u.1∧j=u.2 then e' else ent k.m q j:=fun q j=>by rw[hd];exact hent q j
  have hlen:(step k u).m.sp.length=k.m.sp.length:=by rw[hd];exact oC
  have hXr:X.r=(aO k.m f).r-1:=by
   rw[←hX];unfold ic
   by_cases h0:(aO k.m f).r + -1=0
   ·rw[if_pos h0];show (0:Int)=_;omega
   ·rw[if_neg h0];rfl
  have ih:=AZ he step hstep l (step k u) (by rw[hd];exact p2) ⟨hnd.2,fun v hv=>by
    obtain⟨a1,a2,a3,a4⟩:=hu.mem v (List.mem_cons_of_mem _ hv)
    have hne:¬(v.1=u.1∧v.2=u.2):=fun e=>hnd.1 (by rw[←show v=u from Prod.ext e.1 e.2];exact hv)
    rw[hlen,hentd,if_neg hne]
    exact⟨a1,a2,a3,a4⟩⟩ (by rw[hm1,ku];exact hf) (by rw[hfN,hXr];omega)
  obtain⟨i1,i2,i3,i4,i5,i6,i7⟩:=ih
  rw[List.foldl_cons]
  refine⟨by rw[i1,hd],i2,Rest.trans (by rw[hd];exact⟨rfl,rfl,rfl,rfl,rfl⟩) i3,jk.trans (by rw[hd];exact jk.trans (b:=setFr k.m f X) (jk.of rfl) jk.setTb) i4,?_,fun q j => ?_,fun kd i => ?_⟩
  ·rw[i5,hfN,hheld]
   unfold setFr
   simp only
   rw[hm1]
   unfold setFr
   simp only[List.set_set,List.length_cons]
   rfl
  ·rw[i6,hentd]
   by_cases e1:(q,j)∈l
   ·rw[if_pos e1,if_pos (List.mem_cons_of_mem _ e1)]
   ·rw[if_neg e1]
    by_cases e2:q=u.1∧j=u.2
    ·rw[if_pos e2,if_pos (by rw[show (q,j)=u from Prod.ext e2.1 e2.2];exact List.mem_cons_self)]
    ·rw[if_neg e2,if_neg]
     intro e3
     rcases List.mem_cons.1 e3 with e3|e3
     ·exact e2 ⟨congrArg Prod.fst e3,congrArg Prod.snd e3⟩
     ·exact e1 e3
  ·have a1:=i7 kd i
   have a2:=hhold kd i
   have a3:cz (step k u).m kd i=cz (setTb (setFr k.m f X) u.1 (setT (dR (setFr k.m f X) u.1).tb u.2 e')) kd i:=by rw[hd];rfl
   have a4:cz (setFr k.m f X) kd i=cz k.m kd i:=rfl
   have a5:qp (qW kd i (ent (setFr k.m f X) u.1 u.2))=if kd=1∧i=f then 1 else 0:=by
    have:ent (setFr k.m f X) u.1 u.2=ent k.m u.1 u.2:=rfl
    rw[this]
    unfold qW qp
    rw[hk1,hkn]
    by_cases e:kd=1∧i=f
    ·rw[if_pos e,e.1,e.2];simp
    ·rw[if_neg e,if_neg]
     simp only[Bool.and_eq_true,decide_eq_true_eq]
     exact fun h'=>e ⟨h'.1.symm,h'.2.symm⟩
   have a6:qp (qW kd i e')=if kd=e'.k∧i=e'.n then 1 else 0:=by
    unfold qW qp
    by_cases e:kd=e'.k∧i=e'.n
    ·rw[if_pos e,e.1,e.2];simp
    ·rw[if_neg e,if_neg]
     simp only[Bool.and_eq_true,decide_eq_true_eq]
     exact fun h'=>e ⟨h'.1.symm,h'.2.symm⟩
   rw[a3] at a1
   rw[a4,a5,a6] at a2
   rw[List.length_cons]
   by_cases c1:kd=1∧i=f
   ·rw[if_pos c1] at a1 a2 ⊢
    by_cases c2:kd=e'.k∧i=e'.n
    ·rw[if_pos c2] at a1 a2 ⊢; omega
    ·rw[if_neg c2] at a1 a2 ⊢; omega
   ·rw[if_neg c1] at a1 a2 ⊢
    by_cases c2:kd=e'.k∧i=e'.n
    ·rw[if_pos c2] at a1 a2 ⊢; omega
    ·rw[if_neg c2] at a1 a2 ⊢; omega
theorem zM {α β:Type} {f:α→β} (hf:∀a b,f a=f b→a=b) {l:List α} (h:l.Nodup):(l.map f).Nodup:=List.Pairwise.map _ (fun a b hne e=>hne (hf a b e)) h
theorem lm {t:Tb} {n:Int}:n∈aI t↔(0≤n∧n<64)∧(dn t n).k≠0:=by
 unfold aI ib
 simp only[List.mem_map,List.mem_filter,List.mem_range,kC,decide_eq_true_eq]
 constructor
 ·rintro⟨j,⟨h1,h2⟩,rfl⟩
  exact⟨by omega,h2⟩
 ·rintro⟨h1,h2⟩
  refine⟨n.toNat,⟨by omega,?_⟩,by omega⟩
  rw[Int.toNat_of_nonneg h1.1];exact h2
theorem CY {t:Tb} {i n:Int} (hk:kd≠0):n∈kW t kd i↔(0≤n∧n<64)∧(dn t n).k=kd∧(dn t n).n=i:=by
 unfold kW mf
 rw[List.mem_filter,lm]
 simp only[Bool.not_or,Bool.and_eq_true,Bool.not_eq_true',decide_eq_false_iff_not,Classical.not_not]
 constructor
 ·rintro⟨⟨h1,_⟩,h2⟩;exact⟨h1,h2⟩
 ·rintro⟨h1,h2⟩;exact⟨⟨h1,by rw[h2.1];exact hk⟩,h2⟩
theorem CU (t:Tb):(aI t).Nodup:=by
 unfold aI ib
 exact zM (fun a b h=>by have h' : (a:Int)=b:=h;omega) (List.nodup_range.filter _)
theorem yx {t:Tb} {i:Int} (hk:kd≠0):(kW t kd i).length=(eQ t).countP (qW kd i):=by
 unfold kW aI ib eQ
 rw[←List.countP_eq_length_filter,List.countP_map,List.countP_filter,List.countP_map]
 congr 1
 funext n
 simp only[Function.comp_apply,mf,qW,kC,Bool.not_or]
 rw[Bool.eq_iff_iff]
 simp only[Bool.and_eq_true,Bool.not_eq_true',decide_eq_false_iff_not,Classical.not_not,decide_eq_true_eq]
 constructor
 ·rintro⟨h,_⟩;exact h
 ·intro h;exact⟨h,by rw[h.1];exact hk⟩
theorem mF {f:Int} {u:Nat × Int}:u∈aU m f↔u.1<m.sp.length∧(0≤u.2∧u.2<64)∧(ent m u.1 u.2).k=1∧(ent m u.1 u.2).n=f:=by
 unfold aU
 simp only[List.mem_flatMap,List.mem_range,List.mem_map]
 constructor
 ·rintro⟨p,hp,n,hn,rfl⟩
  exact⟨hp,(CY (by decide)).1 hn⟩
 ·rintro⟨hp,h⟩
  exact⟨u.1,hp,u.2,(CY (by decide)).2 h,rfl⟩
theorem xI {α β:Type} (g:α→List β):∀(l:List α),l.Nodup→(∀x∈l,(g x).Nodup)→(∀x∈l,∀y∈l,∀z,z∈g x→z∈g y→x=y)→(l.flatMap g).Nodup
 | [],_,_,_=>by simp
 | a::l,h1,h2,h3=>by
  rw[List.flatMap_cons,List.nodup_append]
  have h4:=List.nodup_cons.1 h1
  refine⟨h2 a List.mem_cons_self,xI g l h4.2 (fun x hx=>h2 x (List.mem_cons_of_mem _ hx)) (fun x hx y hy=>h3 x (List.mem_cons_of_mem _ hx) y (List.mem_cons_of_mem _ hy)),?_⟩
  rintro z hz w hw rfl
  obtain⟨y,hy,hzy⟩:=List.mem_flatMap.1 hw
  exact h4.1 (by rw[h3 a List.mem_cons_self y (List.mem_cons_of_mem _ hy) z hz hzy];exact hy)
theorem Ch (m:Ma) (f:Int):(aU m f).Nodup:=by
 unfold aU
 refine xI _ _ List.nodup_range (fun p hp => ?_) (fun p _ q _ z h1 h2 => ?_)
 ·unfold kW
  exact zM (fun a b h=>by simpa using h) ((CU _).filter _)
 ·obtain⟨_,_,rfl⟩:=List.mem_map.1 h1
  obtain⟨_,_,e⟩:=List.mem_map.1 h2
  exact (congrArg Prod.fst e).symm
theorem Dt (m:Ma) (f:Nat):OA m f (aU m f):=⟨Ch m f,fun u hu=>mF.1 hu⟩
theorem Jh {α:Type} (l:List α) (d:α) {β:Type} (g:α→β):(List.range l.length).map (fun p=>g (l.getD p d))=l.map g:=by
 apply List.ext_getElem
 ·simp
 ·intro i h1 h2
  simp only[List.getElem_map,List.getElem_range]
  rw[List.getD_eq_getElem?_getD,List.getElem?_eq_getElem (by simpa using h2)]
  rfl
theorem rE (m:Ma) (f:Int):(aU m f).length=cz m 1 f:=by
 unfold aU cz
 rw[List.length_flatMap]
 simp only[List.length_map,yx (show (1:Int)≠0 by decide)]
 rw[←Jh m.sp zSp]
 rfl
def tK (s:St) (f i:Int):Prop:=(0≤f∧f<s.fs.length)∧0≤i∧i<(aT s f).b.length
theorem ng {F:Nat} {x:Fi} (h:s.fs[F]?=some x):aT s F=x:=by
 unfold aT
 rw[if_pos (by omega),Int.toNat_natCast,List.getD_eq_getElem?_getD,h];rfl
theorem uK {f:Int} (h:0≤f∧f<s.fs.length):s.fs[f.toNat]?=some (aT s f):=by
 unfold aT
 rw[if_pos h.1,List.getD_eq_getElem?_getD,List.getElem?_eq_getElem (by omega)];rfl
theorem oU {f i:Int} (h:tK s f i):(aT s f).b[i.toNat]?=some (bA s f i):=by
 unfold bA
 rw[List.getD_eq_getElem?_getD,List.getElem?_eq_getElem (by have:=h.2;omega)];rfl
theorem oN {f i:Int} (h:tK s f i):bA s f i∈iU s:=
 List.mem_flatMap.2 ⟨_,List.mem_of_getElem? (uK h.1),List.mem_of_getElem? (oU h)⟩
theorem Dk {x:Int} (h:x∈iU s):∃f i,tK s f i∧bA s f i=x:=by
 obtain⟨fi,h1,h2⟩:=List.mem_flatMap.1 h
 obtain⟨F,hF,rfl⟩:=List.mem_iff_getElem.1 h1
 obtain⟨I,hI,rfl⟩:=List.mem_iff_getElem.1 h2
 have hf:aT s F=s.fs[F]:=ng (List.getElem?_eq_getElem hF)
 have hin:tK s F I:=⟨by omega,by omega,by rw[hf];omega⟩
 refine⟨F,I,hin,?_⟩
 have:=oU hin
 rw[hf,Int.toNat_natCast,List.getElem?_eq_getElem hI] at this
 exact (Option.some.inj this).symm
theorem posB_inj:∀ {l:List Int} {I J:Nat} {v:Int},(iF l).Nodup→l[I]?=some v→l[J]?=some v→0≤v→I=J
 | [],_,_,_,_,h,_,_=>by simp at h
 | a::l,0,0,_,_,_,_,_=>rfl
 | a::l,0,J+1,v,hn,h1,h2,h0=>by
  simp only[List.getElem?_cons_zero,Option.some.injEq] at h1
  subst h1
  rw[Br h0] at hn
  exact ((List.nodup_cons.1 hn).1 (fE.2 ⟨List.mem_of_getElem? (by simpa using h2:l[J]?=some a),h0⟩)).elim
 | a::l,I+1,0,v,hn,h1,h2,h0=>by
  simp only[List.getElem?_cons_zero,Option.some.injEq] at h2
  subst h2
  rw[Br h0] at hn
  exact ((List.nodup_cons.1 hn).1 (fE.2 ⟨List.mem_of_getElem? (by simpa using h1:l[I]?=some a),h0⟩)).elim
 | a::l,I+1,J+1,v,hn,h1,h2,h0=>by
  have:(iF l).Nodup:=by
   have hs:(iF l).Sublist (iF (a::l)):=(List.sublist_cons_self a l).filter _
   exact hn.sublist hs
  have h3:=posB_inj (I:=I) (J:=J) this (by simpa using h1) (by simpa using h2) h0
  omega
theorem flat_inj:∀ {fs:List Fi} {F G I J:Nat} {x y:Fi} {v:Int},(iF (fs.flatMap Fi.b)).Nodup→fs[F]?=some x→fs[G]?=some y→x.b[I]?=some v→y.b[J]?=some v→0≤v→F=G∧I=J
 | [],_,_,_,_,_,_,_,_,h,_,_,_,_=>by simp at h
 | a::fs,F,G,I,J,x,y,v,hn,hF,hG,hI,hJ,h0=>by
  rw[List.flatMap_cons,oG,List.nodup_append] at hn
  obtain⟨n1,n2,n3⟩:=hn
  cases F with
  | zero=>
   simp only[List.getElem?_cons_zero,Option.some.injEq] at hF
   subst hF
   cases G with
   | zero=>
    simp only[List.getElem?_cons_zero,Option.some.injEq] at hG
    subst hG
    exact⟨rfl,posB_inj n1 hI hJ h0⟩
   | succ G=>
    exact absurd rfl (n3 v (fE.2 ⟨List.mem_of_getElem? hI,h0⟩) v (fE.2 ⟨List.mem_flatMap.2 ⟨y,List.mem_of_getElem? (by simpa using hG),List.mem_of_getElem? hJ⟩,h0⟩))
  | succ F=>
   cases G with
   | zero=>
    simp only[List.getElem?_cons_zero,Option.some.injEq] at hG
    subst hG
    exact absurd rfl (n3 v (fE.2 ⟨List.mem_of_getElem? hJ,h0⟩) v (fE.2 ⟨List.mem_flatMap.2 ⟨x,List.mem_of_getElem? (by simpa using hF),List.mem_of_getElem? hI⟩,h0⟩))
   | succ G=>
    obtain⟨e1,e2⟩:=flat_inj n2 (by simpa using hF) (by simpa using hG) hI hJ h0
    exact⟨by omega,e2⟩
theorem DN (h:aS s=0) {f i g j:Int} (h1:tK s f i) (h2:tK s g j) (h0:0≤bA s f i) (he:bA s f i=bA s g j):f=g∧i=j:=by
 have hn:=(iK.1 h).2.2
 obtain⟨e1,e2⟩:=flat_inj hn (uK h1.1) (uK h2.1) (oU h1) (by rw[he];exact oU h2) h0
 have:=h1.1;have:=h1.2;have:=h2.1;have:=h2.2
 omega
theorem uo (h:aS s=0) {f:Int} (hf:0≤f∧f<s.fs.length):yM s.count (aT s f):=(iK.1 h).2.1 _ (List.mem_of_getElem? (uK hf))
theorem block_lt (h:aS s=0) {f i:Int} (hi:tK s f i) : -1≤bA s f i∧bA s f i<s.count:=
 (uo h hi.1).2.2.2 _ (List.mem_of_getElem? (oU hi))
theorem BD (h:aS s=0) {f i:Int} (hi:tK s f i):f<5∧i<12∧i*8<(aT s f).n∧(aT s f).n≤96:=by
 have h1:=(iK.1 h).1
 obtain⟨a1,a2,a3,_⟩:=uo h hi.1
 have h2:=hi.1;have h3:=hi.2
 rw[a3] at h3
 unfold dO at h3
 split at h3<;>omega
structure Blocked (s s' : St) (f i b:Int):Prop where
 right:aS s' = 0
 count:s'.count=s.count
 len:s'.fs.length=s.fs.length
 size:∀g,(aT s' g).n=(aT s g).n
 lenb:∀g,(aT s' g).b.length=(aT s g).b.length
 at_:bA s' f i=b
 other:∀g j,0≤j→¬(g=f∧j=i)→bA s' g j=bA s g j
 b0:0≤b
 bc:b<s.count
 used:∀x,0≤x→(x∈iU s'↔x=b∨x∈iU s)
 was:(bA s f i=b∧s' = s)∨(bA s f i<0∧b ∉ iU s∧jb s' = jb s-1)
theorem tK.same {f i:Int} (h:tK s f i) (h1:s'.fs.length=s.fs.length) (h2:∀g,(aT s' g).b.length=(aT s g).b.length):tK s' f i:=⟨by rw[h1];exact h.1,by rw[h2];exact h.2⟩
theorem Iw (h:aS s=0) {f i:Int} (hi:tK s f i) (hb:0≤bA s f i∨0≤dH s):bL s f i=0:=by
 unfold bL
 have h1:=hi.1;have h2:=hi.2
 rw[if_neg (by rw[h];simp),if_neg (by omega),if_neg (by omega),if_neg (by omega)]
theorem blocked {f i:Int} (h:bL s f i=0):tK s f i∧Blocked s (cO s f i) f i (dh s f i):=by
 have ha:=Cu h
 obtain⟨hw,F,I,x,v,rfl,rfl,hf,hv,hfa,hba,hc⟩:=wm h
 have hF:=(List.getElem?_eq_some_iff.1 hf).1
 have hI:=(List.getElem?_eq_some_iff.1 hv).1
 have hin:tK s F I:=⟨by omega,by omega,by rw[hfa];omega⟩
 refine⟨hin,?_⟩
 have hb:=block_lt hw hin
 rcases hc with ⟨h0,hS,hN⟩|⟨hn,h0,hN,hS⟩
 ·rw[hS,hN]
  rw[hba] at hb
  exact⟨hw,rfl,rfl,fun _=>rfl,fun _=>rfl,hba,fun _ _ _ _=>rfl,h0,hb.2,fun y _=>⟨.inr,fun h=>h.elim (fun e=>by rw[e,←hba];exact oN hin) id⟩,.inl ⟨hba,rfl⟩⟩
 ·obtain⟨hXc,hu⟩:=zQ h0
  have hbk:=Gq hu
  have hleft:=ha.2.2.2.2
  rw[hba] at hleft
  have hleft:jb (cO s F I)=jb s-1:=by
   rcases hleft with ⟨e,_⟩|⟨_,_,e⟩
   ·omega
   ·exact e
  have hright:=ha.1
  rw[hS] at hright hleft
  rw[hS,hN]
  generalize hs' : (⟨s.fs.set F ⟨x.n,x.b.set I (dH s)⟩,s.count⟩:St)=s' at *
  have hfile:∀g,aT s' g=if g=F then ⟨x.n,x.b.set I (dH s)⟩ else aT s g:=by
   intro g
   rw[←hs']
   unfold aT
   simp only
   by_cases g0:0≤g
   ·rw[if_pos g0,if_pos g0,List.getD_eq_getElem?_getD,List.getElem?_set]
    by_cases e:g=F
    ·rw[if_pos e,if_pos (by omega),if_pos (by omega)];rfl
    ·rw[if_neg e,if_neg (by omega),List.getD_eq_getElem?_getD]
   ·rw[if_neg g0,if_neg g0,if_neg (by omega)]
  have hlen:s'.fs.length=s.fs.length:=by rw[←hs'];exact List.length_set
  have hlenb:∀g,(aT s' g).b.length=(aT s g).b.length:=by
   intro g
   rw[hfile]
   by_cases e:g=F
   ·rw[if_pos e,e,hfa];exact List.length_set
   ·rw[if_neg e]
  have hat:bA s' F I=dH s:=by
   unfold bA
   rw[hfile,if_pos rfl,Int.toNat_natCast,List.getD_eq_getElem?_getD,List.getElem?_set_self hI]
   rfl
  have hoth:∀g j,0≤j→¬(g=(F:Int)∧j=(I:Int))→bA s' g j=bA s g j:=by
   intro g j hj hne
   unfold bA
   rw[hfile]
   by_cases e:g=F
   ·rw[if_pos e,e,hfa]
    simp only
    rw[List.getD_eq_getElem?_getD,List.getElem?_set_ne (by omega),List.getD_eq_getElem?_getD]
   ·rw[if_neg e]
  refine⟨hright,by rw[←hs'],hlen,fun g => ?_,hlenb,hat,hoth,h0,hXc,fun y hy => ?_,.inr ⟨by rw[hba];exact hn,hbk,hleft⟩⟩
  ·rw[hfile]
   by_cases e:g=F
   ·rw[if_pos e,e,hfa]
   ·rw[if_neg e]
  ·constructor
   ·intro hm
    obtain⟨g,j,hin',hbe⟩:=Dk hm
    by_cases e:g=(F:Int)∧j=(I:Int)
    ·rw[e.1,e.2,hat] at hbe
     exact .inl hbe.symm
    ·rw[hoth g j hin'.2.1 e] at hbe
     refine .inr ?_
     rw[←hbe]
     exact oN ⟨by rw[←hlen];exact hin'.1,by rw[←hlenb];exact hin'.2⟩
   ·rintro (e|hm)
    ·rw[e,←hat];exact oN (hin.same hlen hlenb)
    ·obtain⟨g,j,hin',hbe⟩:=Dk hm
     have e:¬(g=(F:Int)∧j=(I:Int)):=by
      rintro⟨e1,e2⟩
      rw[e1,e2,hba] at hbe
      omega
     rw[←hbe,←hoth g j hin'.2.1 e]
     exact oN (hin'.same hlen hlenb)
def mi (m:Ma) (p:Nat) (n:Int):Option Pg:=onA (dR m p).ar n
def yQ (a b:Cc):Prop:=a.f<b.f∨a.f=b.f∧a.i<b.i
def Jr (x:Fr) (g:Pg) (w:Bool):Prop:=
 (0≤x.f→x.f=g.fi∧x.i=g.pg)∧(g.sh=true→0≤x.f)∧(w=true→g.wr=true)∧(w=true→0≤x.f→g.sh=true)∧(w=true→x.f<0→x.r≤1)
structure OU (m:Ma) (g:Pg) (e:En):Prop where
 sw:e.k=2→e.n<m.sl.length∧g.sh=false
 lt:e.k=1→e.n<m.m.fs.length
 fr:e.k=1→Jr (aO m e.n.toNat) g e.w
structure pX (m:Ma):Prop where
 file:∀c∈m.ca,tK m.st c.f c.i
 lt:∀c∈m.ca,0≤c.k∧c.k<m.m.fs.length
 fr:∀c∈m.ca,1≤(aO m c.k.toNat).r∧(aO m c.k.toNat).f=c.f∧(aO m c.k.toNat).i=c.i
 srt:m.ca.Pairwise yQ
def rT (m:Ma) (i:Int):Nat:=m.ca.countP fun c=>decide (c.k=i)
structure Rt (m:Ma):Prop where
 pt:Pt m
 trim:(∀b:Int,0≤b→b<m.dk.blocks.length→b∈iU m.st∨m.dk.blocks.getD b.toNat zPg=zPg)∧∀q∈m.dk.queue,q.1∈iU m.st
 live:∀p,(dR m p).lv=false→(dR m p).ar=[]∧∀n,(ent m p n).k=0
 ca:pX m
 en:∀p n,(ent m p n).k≠0→∃g,mi m p n=some g∧OU m g (ent m p n)
 cf:∀i:Nat,i<m.m.fs.length→(aO m i).r=rT m i+cz m 1 i
 fc:∀i:Nat,i<m.m.fs.length→0≤(aO m i).f→∃c∈m.ca,c.k=i
 cs:∀s:Nat,s<m.sl.length→lV m s=cz m 2 s
structure Co (m:Ma):Prop where
 tail:∀c∈m.ca,dS (aO m c.k.toNat).p ((aT m.st c.f).n-c.i*8)=(aO m c.k.toNat).p
 clean:∀c∈m.ca,(aO m c.k.toNat).d=false→(aO m c.k.toNat).p=gL m c.f c.i
 anon:∀i:Nat,i<m.m.fs.length→(aO m i).d=true→0≤(aO m i).f
def Jw (m:Ma) (p:Nat) (n:Int):Page × Bool × Int:=
 match mi m p n with
 | none=>(zPg,false,5)
 | some g=>
  if (ent m p n).k=1 then ((mM m (ent m p n).n).p,decide ((mM m (ent m p n).n).f<0),0)
  else if (ent m p n).k=2 then (jh m.sw (ent m p n).n,true,aH m.sw (ent m p n).n)
  else if g.fi<0 then (zPg,false,0)
  else if (m.st.fs.length:Int)≤g.fi∨wB m.st g.fi g.pg=true then (zPg,false,9)
  else (bP m g.fi g.pg,false,0)
structure GH (m m' : Ma):Prop where
 sk:jk m m'
 files:m'.st.fs.length=m.st.fs.length
 size:∀f,(aT m'.st f).n=(aT m.st f).n
 lenb:∀f,(aT m'.st f).b.length=(aT m.st f).b.length
 see:∀p n,Jw m' p n=Jw m p n
 con:∀f i,tK m.st f i→bP m' f i=bP m f i
theorem GH.refl (m:Ma):GH m m:=⟨.refl m,rfl,fun _=>rfl,fun _=>rfl,fun _ _=>rfl,fun _ _ _=>rfl⟩
theorem GH.trans {a b c:Ma} (h:GH a b) (k:GH b c):GH a c:=
 ⟨h.sk.trans k.sk,k.files.trans h.files,fun f=>(k.size f).trans (h.size f),fun f=>(k.lenb f).trans (h.lenb f),fun p n=>(k.see p n).trans (h.see p n),fun f i hi=>(k.con f i (hi.same h.files h.lenb)).trans (h.con f i hi)⟩
theorem BI (a:Cc):¬yQ a a:=fun h=>by unfold yQ at h;omega
theorem srt_eq:∀ {l:List Cc},l.Pairwise yQ→∀ {a b:Cc},a∈l→b∈l→a.f=b.f→a.i=b.i→a=b
 | [],_,_,_,h,_,_,_=>by cases h
 | c::l,hs,a,b,ha,hb,e1,e2=>by
  obtain⟨h1,h2⟩:=List.pairwise_cons.1 hs
  rcases List.mem_cons.1 ha with e|ha<;>rcases List.mem_cons.1 hb with e' | hb
  ·rw[e,e']
  ·have:=h1 b hb;rw[e] at e1 e2;unfold yQ at this;omega
  ·have:=h1 a ha;rw[e'] at e1 e2;unfold yQ at this;omega
  ·exact srt_eq h2 ha hb e1 e2
theorem pX.uniq (h:pX m) {a b:Cc} (ha:a∈m.ca) (hb:b∈m.ca) (hk:a.k=b.k):a=b:=by
 have h1:=h.fr a ha
 have h2:=h.fr b hb
 rw[hk] at h1
 exact srt_eq h.srt ha hb (h1.2.1.symm.trans h2.2.1) (h1.2.2.symm.trans h2.2.2)
theorem uR {k:Int}:∀ {l:List Cc},l.Pairwise yQ→(∀a∈l,∀b∈l,a.k=b.k→a=b)→l.countP (fun c=>decide (c.k=k))≤1
 | [],_,_=>Nat.zero_le _
 | c::l,hs,hu=>by
  obtain⟨h1,h2⟩:=List.pairwise_cons.1 hs
  have ih:=uR (k:=k) h2 (fun a ha b hb=>hu a (List.mem_cons_of_mem _ ha) b (List.mem_cons_of_mem _ hb))
  rw[List.countP_cons]
  by_cases hc:c.k=k
  ·rw[if_pos (by simpa using hc)]
   have:l.countP (fun c=>decide (c.k=k))=0:=by
    rw[List.countP_eq_zero]
    intro d hd hdk
    have e:=hu c List.mem_cons_self d (List.mem_cons_of_mem _ hd) (by rw[hc];exact (of_decide_eq_true hdk).symm)
    have:=h1 d hd
    rw[←e] at this
    exact BI _ this
   omega
  ·rw[if_neg (by simpa using hc)];omega
theorem pX.one (h:pX m) {c:Cc} (hc:c∈m.ca):rT m c.k=1:=by
 have h1:=uR (k:=c.k) h.srt (fun a ha b hb=>h.uniq ha hb)
 have h2:0<m.ca.countP (fun d=>decide (d.k=c.k)):=List.countP_pos_iff.2 ⟨c,hc,by simp⟩
 unfold rT;omega
theorem pX.none {i:Int} (h:∀c∈m.ca,c.k≠i):rT m i=0:=by
 unfold rT
 rw[List.countP_eq_zero]
 intro c hc hk
 exact h c hc (of_decide_eq_true hk)
theorem qO {f i:Int} {c:Cc}:vv f i c=true↔f<c.f∨c.f=f∧i≤c.i:=by unfold vv;simp
theorem LC (l:List Cc) (f i:Int):rR l f i≤l.length:=by
 unfold rR
 cases h:l.findIdx? (vv f i) with
 | none=>exact Nat.le_refl _
 | some k=>exact Nat.le_of_lt (List.findIdx?_eq_some_iff_getElem.1 h).1
theorem Ng {l:List Cc} (hs:l.Pairwise yQ) {f i:Int}:JV l f i=true↔∃c∈l,c.f=f∧c.i=i:=by
 unfold JV
 constructor
 ·intro h
  cases hc:l[rR l f i]? with
  | none=>rw[hc] at h;cases h
  | some c=>
   rw[hc] at h
   simp only[Bool.and_eq_true,decide_eq_true_eq] at h
   exact⟨c,List.mem_of_getElem? hc,h⟩
 ·rintro⟨c,hc,h1,h2⟩
  obtain⟨j,hj,rfl⟩:=List.mem_iff_getElem.1 hc
  unfold rR
  cases h:l.findIdx? (vv f i) with
  | none=>
   have:=List.findIdx?_eq_none_iff.1 h _ hc
   rw[Bool.eq_false_iff] at this
   exact absurd (qO.2 (.inr ⟨h1,by omega⟩)) this
  | some k=>
   obtain⟨hk,hg,hno⟩:=List.findIdx?_eq_some_iff_getElem.1 h
   have hkj:¬j<k:=fun hlt=>hno j hlt (qO.2 (.inr ⟨h1,by omega⟩))
   have hg:=qO.1 hg
   have:k=j:=by
    rcases Nat.lt_or_ge k j with hlt|hge
    ·have:=List.pairwise_iff_getElem.1 hs k j hk hj hlt
     unfold yQ at this;omega
    ·omega
   subst this
   simp only[Option.getD_some,List.getElem?_eq_getElem hk,h1,h2,decide_true,Bool.and_self]
theorem Mi {l:List Cc} {f i:Int} (h:JV l f i=true):∃c,l[rR l f i]?=some c∧c.f=f∧c.i=i:=by
 unfold JV at h
 cases hc:l[rR l f i]? with
 | none=>rw[hc] at h;cases h
 | some c=>
  rw[hc] at h
  simp only[Bool.and_eq_true,decide_eq_true_eq] at h
  exact⟨c,rfl,h⟩
def nP (m:Ma) (f i:Int):Option Cc:=m.ca.find? fun c=>decide (c.f=f)&&decide (c.i=i)
theorem Hq (h:pX m) {c:Cc} (hc:c∈m.ca):nP m c.f c.i=some c:=by
 cases hl:nP m c.f c.i with
 | none=>
  have:=List.find?_eq_none.1 hl c hc
  simp at this
 | some d=>
  have h1:=List.find?_some hl
  simp only[Bool.and_eq_true,decide_eq_true_eq] at h1
  rw[srt_eq h.srt (List.mem_of_find?_eq_some hl) hc h1.1 h1.2]
theorem IV {f i:Int} (h:∀c∈m.ca,¬(c.f=f∧c.i=i)):nP m f i=none:=by
 unfold nP
 rw[List.find?_eq_none]
 intro c hc hk
 simp only[Bool.and_eq_true,decide_eq_true_eq] at hk
 exact h c hc hk
theorem sJ (m:Ma) (f i:Int):(∃c,nP m f i=some c∧c∈m.ca∧c.f=f∧c.i=i)∨(nP m f i=none∧∀c∈m.ca,¬(c.f=f∧c.i=i)):=by
 cases hl:nP m f i with
 | none=>
  refine .inr ⟨rfl,fun c hc hk => ?_⟩
  have:=List.find?_eq_none.1 hl c hc
  simp only[Bool.and_eq_true,decide_eq_true_eq] at this
  exact this hk
 | some d=>
  have h1:=List.find?_some hl
  simp only[Bool.and_eq_true,decide_eq_true_eq] at h1
  exact .inl ⟨d,rfl,List.mem_of_find?_eq_some hl,h1⟩
theorem lg (m:Ma) (f i:Int):bP m f i=match nP m f i with
  | some c=>(mM m c.k).p
  | none=>gL m f i:=rfl
theorem nk (h:pX m) {c:Cc} (hc:c∈m.ca):bP m c.f c.i=(aO m c.k.toNat).p:=by
 rw[lg,Hq h hc];rfl
theorem lQ {f i:Int} (h:∀c∈m.ca,¬(c.f=f∧c.i=i)):bP m f i=gL m f i:=by
 rw[lg,IV h]
theorem ut (k:Nat):mM m (k:Int)=aO m k:=rfl
theorem Gv {l:List Ar} {n:Int} (h:0≤iW l n):onA l n=some (iJ (l.getD (iW l n).toNat zAr) n)∧kU n (l.getD (iW l n).toNat zAr)=true:=by
 induction l with
 | nil=>unfold iW idx at h;simp at h
 | cons a r ih=>
  rw[bM]
  by_cases ha:kU n a=true
  ·have h0:iW (a::r) n=0:=by unfold iW idx;rw[List.findIdx?_cons,if_pos ha];rfl
   rw[h0,if_pos ha]
   exact⟨rfl,ha⟩
  ·have h1:iW (a::r) n=if 0≤iW r n then iW r n+1 else -1:=by
    unfold iW idx
    rw[List.findIdx?_cons,if_neg ha]
    cases r.findIdx? (kU n) with
    | none=>rfl
    | some k=>
     simp only[Option.map_some]
     rw[if_pos (by omega)]
     rfl
   rw[if_neg ha]
   by_cases h2:0≤iW r n
   ·rw[h1,if_pos h2]
    have e:(iW r n+1).toNat=(iW r n).toNat+1:=by omega
    rw[e]
    exact ih h2
   ·rw[h1,if_neg h2] at h
    omega
def zn (m:Ma) (g:Pg) (e:En):Page × Bool × Int:=
 if e.k=1 then ((mM m e.n).p,decide ((mM m e.n).f<0),0)
 else if e.k=2 then (jh m.sw e.n,true,aH m.sw e.n)
 else if g.fi<0 then (zPg,false,0)
 else if (m.st.fs.length:Int)≤g.fi∨wB m.st g.fi g.pg=true then (zPg,false,9)
 else (bP m g.fi g.pg,false,0)
theorem zN {n:Int} {g:Pg} (h:mi m p n=some g):Jw m p n=zn m g (ent m p n):=by
 unfold Jw;rw[h];rfl
theorem zY {n:Int} (h:mi m p n=none):Jw m p n=(zPg,false,5):=by
 unfold Jw;rw[h]
theorem pg_in:∀ {l:List Ar} {lo:Int} {n:Int} {g:Pg},srtF lo l→onA l n=some g→0≤g.pg∧g.pg<12∧-1≤g.fi∧g.fi<5∧(g.fi<0→g.sh=false∧g.pg=0)∧0≤n∧n<64
 | [],_,_,_,_,h=>by cases h
 | a::r,lo,n,g,hs,h=>by
  rw[bM] at h
  by_cases ha:kU n a=true
  ·rw[if_pos ha] at h
   have h1:=bX.1 ha
   have h2:=hs.1
   unfold aK at h2
   split at h2
   ·cases h2
   ·split at h2
    ·cases h2
    ·rename_i h3 h4
     cases h
     unfold iJ
     simp only
     have h5:¬(a.fi<0∧(a.ba≠0∨a.sh=true)):=fun h=>h4 (.inl h)
     have h6:¬(0≤a.fi∧12-(a.en-a.fr)<a.ba):=fun h=>h4 (.inr h)
     refine⟨?_,?_,by omega,by omega,fun h7=>⟨?_,if_neg (by omega)⟩,by omega,by omega⟩
     ·split<;>omega
     ·split<;>omega
     ·cases hsh:a.sh with
      | false=>rfl
      | true=>exact absurd ⟨h7,.inr hsh⟩ h5
  ·rw[if_neg ha] at h
   exact pg_in hs.2.2 h
theorem Pt.pg (h:Pt m) {n:Int} {g:Pg} (hg:mi m p n=some g):0≤g.pg∧g.pg<12∧-1≤g.fi∧g.fi<5∧(g.fi<0→g.sh=false∧g.pg=0)∧0≤n∧n<64:=
 pg_in (lN (iO.1 (h.arN p)).2) hg
theorem ND (h:aS s=0) {f i:Int} (hf:0≤f) (hi:0≤i) (hn:¬((s.fs.length:Int)≤f∨wB s f i=true)):tK s f i:=by
 have h1:¬(s.fs.length:Int)≤f:=fun h=>hn (.inl h)
 have h2:¬wB s f i=true:=fun h=>hn (.inr h)
 have h3:=(uo h (f:=f) (by omega)).2.2.1
 refine⟨by omega,hi,?_⟩
 rw[h3]
 unfold wB at h2
 simpa using h2
theorem DW (h:aS s=0) {f i:Int} (hi:tK s f i):¬((s.fs.length:Int)≤f∨wB s f i=true):=by
 have h3:=(uo h hi.1).2.2.1
 have h4:=hi.1;have h5:=hi.2
 rintro (h|h)
 ·omega
 ·unfold wB at h
  have:=of_decide_eq_true h
  omega
structure nG (s s' : St):Prop where
 len:s'.fs.length=s.fs.length
 size:∀f,(aT s' f).n=(aT s f).n
 lenb:∀f,(aT s' f).b.length=(aT s f).b.length
theorem nG.refl (s:St):nG s s:=⟨rfl,fun _=>rfl,fun _=>rfl⟩
theorem nG.of (h:s' = s):nG s s':=by subst h;exact .refl _
theorem Hw (h:nG s s') (f i:Int):wB s' f i=wB s f i:=by unfold wB;rw[h.size]
theorem tX {g:Pg} {e:En} (hw:aS m.st=0) (hg:0≤g.pg) (hf:nG m.st m'.st) (hc:∀f i,tK m.st f i→bP m' f i=bP m f i)
 (h1:e.k=1→(mM m' e.n).p=(mM m e.n).p∧(mM m' e.n).f=(mM m e.n).f) (h2:e.k=2→jh m'.sw e.n=jh m.sw e.n∧aH m'.sw e.n=aH m.sw e.n):zn m' g e=zn m g e:=by
 unfold zn
 by_cases k1:e.k=1
 ·rw[if_pos k1,if_pos k1,(h1 k1).1,(h1 k1).2]
 ·rw[if_neg k1,if_neg k1]
  by_cases k2:e.k=2
  ·rw[if_pos k2,if_pos k2,(h2 k2).1,(h2 k2).2]
  ·rw[if_neg k2,if_neg k2,hf.len,Hw hf]
   by_cases g0:g.fi<0
   ·rw[if_pos g0,if_pos g0]
   ·rw[if_neg g0,if_neg g0]
    by_cases he:(m.st.fs.length:Int)≤g.fi∨wB m.st g.fi g.pg=true
    ·rw[if_pos he,if_pos he]
    ·rw[if_neg he,if_neg he,hc _ _ (ND hw (by omega) hg he)]
theorem BG (h:Pt m) (sk:jk m m') (hf:nG m.st m'.st) (hc:∀f i,tK m.st f i→bP m' f i=bP m f i)
 (hs:∀p n g,mi m p n=some g→zn m' g (ent m' p n)=zn m g (ent m p n)):GH m m':=by
 refine⟨sk,hf.len,hf.size,hf.lenb,fun p n => ?_,hc⟩
 have hp:mi m' p n=mi m p n:=by unfold mi;rw[sk.ar]
 cases hg:mi m p n with
 | none=>rw[zY hg,zY (hp.trans hg)]
 | some g=>rw[zN hg,zN (hp.trans hg)];exact hs p n g hg
theorem IE {x:Fr} (h:dQ x=0):dQ { x with d:=false }=0:=by
 rw[fP] at h ⊢
 exact⟨h.1,fun h0=>⟨(h.2.1 h0).1,rfl,(h.2.1 h0).2.2.1,(h.2.1 h0).2.2.2⟩,h.2.2⟩
theorem KW {x:Int × Page} {b:Int} (h0:0≤b) (hq:∀q∈d.queue,q.1≠b∧0≤q.1):(gK d x).blocks.getD b.toNat zPg=d.blocks.getD b.toNat zPg:=by
 unfold gK
 cases hd:d.queue with
 | nil=>rfl
 | cons q r=>
  simp only
  split
  ·have:=hq q (by rw[hd];exact List.mem_cons_self)
   rw[List.getD_eq_getElem?_getD,List.getElem?_set_ne (by omega),List.getD_eq_getElem?_getD]
  ·rfl
theorem LA {x q:Int × Page} (h:q∈(gK d x).queue):q∈d.queue∨q=x:=by
 unfold gK at h
 cases hd:d.queue with
 | nil=>rw[hd] at h;simp at h;exact .inr h
 | cons a r=>
  rw[hd] at h
  simp only at h
  split at h
  ·rcases List.mem_append.1 h with h|h
   ·exact .inl (List.mem_cons_of_mem _ h)
   ·exact .inr (List.mem_singleton.1 h)
  ·rcases List.mem_append.1 h with h|h
   ·exact .inl h
   ·exact .inr (List.mem_singleton.1 h)
def eX (m:Ma) (f:Nat):Ma:=
 let x:=aO m f
 setFr { m with st:=cO m.st x.f x.i,dk:=gK m.dk (dh m.st x.f x.i,x.p) } f { x with d:=false }
theorem xY {k:Kp} (h:Rt k.m) (hf:f<k.m.m.fs.length):gN k f=if (aO k.m f).f<0∨(aO k.m f).d=false∨bL k.m.st (aO k.m f).f (aO k.m f).i≠0 then k else ⟨eX k.m f,k.e⟩:=by
 unfold gN
 by_cases hc:(aO k.m f).f<0∨(aO k.m f).d=false∨bL k.m.st (aO k.m f).f (aO k.m f).i≠0
 ·simp only[if_pos hc]
 ·have hb:bL k.m.st (aO k.m f).f (aO k.m f).i=0:=by
   by_cases e:bL k.m.st (aO k.m f).f (aO k.m f).i=0
   ·exact e
   ·exact absurd (.inr (.inr e)) hc
  have hB:=(blocked hb).2
  have hwo:aH k.m.dk (dh k.m.st (aO k.m f).f (aO k.m f).i)=0:=nL.2 ⟨h.pt.dk,hB.b0,by rw[h.pt.dkl];exact hB.bc⟩
  simp only[if_neg hc]
  unfold eX bT
  rw[hwo]
  simp only[gW,if_true]
  congr 1
  split<;>simp_all
structure Cleaned (m m' : Ma) (f:Nat):Prop where
 rt:Rt m'
 co:Co m'
 vis:GH m m'
 sl:m'.sl=m.sl
 sw:m'.sw=m.sw
 ca:m'.ca=m.ca
 sp:m'.sp=m.sp
 fs:m'.m=(setFr m f { aO m f with d:=false }).m
theorem zC (h:Rt m) (hc:Co m) (hf:f<m.m.fs.length) (h0:0≤(aO m f).f) (hb:bL m.st (aO m f).f (aO m f).i=0):Cleaned m (eX m f) f:=by
 obtain⟨hin,hB⟩:=blocked hb
 obtain⟨c,hcm,hck⟩:=h.fc f hf h0
 have hcf:=h.ca.fr c hcm
 rw[hck,Int.toNat_natCast] at hcf
 have hwo:aH m.dk (dh m.st (aO m f).f (aO m f).i)=0:=nL.2 ⟨h.pt.dk,hB.b0,by rw[h.pt.dkl];exact hB.bc⟩
 have hlt:dh m.st (aO m f).f (aO m f).i<m.dk.blocks.length:=by rw[h.pt.dkl];exact hB.bc
 have hfr:∀g,aO (eX m f) g=if g=f then { aO m f with d:=false } else aO m g:=fun g=>kN (m:={ m with st:=cO m.st (aO m f).f (aO m f).i,dk:=gK m.dk (dh m.st (aO m f).f (aO m f).i,(aO m f).p) }) (x:={ aO m f with d:=false }) hf g
 have hfp:∀g,(aO (eX m f) g).p=(aO m g).p∧(aO (eX m f) g).f=(aO m g).f∧(aO (eX m f) g).i=(aO m g).i∧(aO (eX m f) g).r=(aO m g).r:=by
  intro g
  rw[hfr]
  by_cases e:g=f
  ·rw[if_pos e,e];exact⟨rfl,rfl,rfl,rfl⟩
  ·rw[if_neg e];exact⟨rfl,rfl,rfl,rfl⟩
 have hlen:(eX m f).m.fs.length=m.m.fs.length:=List.length_set
 have hfiles:nG m.st (eX m f).st:=⟨hB.len,hB.size,hB.lenb⟩
 have hent:∀p n,ent (eX m f) p n=ent m p n:=fun _ _=>rfl
 have hdk:∀g j,tK m.st g j→¬(g=(aO m f).f∧j=(aO m f).i)→gL (eX m f) g j=gL m g j:=by
  intro g j hgj hne
  have hbk:bA (eX m f).st g j=bA m.st g j:=hB.other g j hgj.2.1 hne
  unfold gL
  rw[hbk,hB.size g |> (fun e=>show (aT (eX m f).st g).n=(aT m.st g).n from e)]
  by_cases hb0:0≤bA m.st g j
  ·rw[if_pos hb0,if_pos hb0]
   congr 1
   show jh (gK m.dk _) _=_
   rw[ru h.pt.dk hB.b0 hlt,if_neg]
   rintro⟨_,e⟩
   simp only at e
   rcases hB.was with ⟨hw,_⟩|⟨_,hn,_⟩
   ·exact hne (DN h.pt.st hgj hin (by omega) (by omega))
   ·exact hn (by rw[e];exact oN hgj)
  ·rw[if_neg hb0,if_neg hb0]
 have hown:gL (eX m f) (aO m f).f (aO m f).i=(aO m f).p:=by
  have hbk:bA (eX m f).st (aO m f).f (aO m f).i=dh m.st (aO m f).f (aO m f).i:=hB.at_
  have ht:=hc.tail c hcm
  rw[hck,Int.toNat_natCast,←hcf.2.1,←hcf.2.2] at ht
  unfold gL
  rw[hbk,if_pos hB.b0,show (aT (eX m f).st (aO m f).f).n=(aT m.st (aO m f).f).n from hB.size _]
  show dS (jh (gK m.dk _) _) _=_
  rw[ru h.pt.dk hB.b0 hlt,if_pos ⟨hwo,rfl⟩]
  exact ht
 have hcon:∀g j,tK m.st g j→bP (eX m f) g j=bP m g j:=by
  intro g j hgj
  have hl:nP (eX m f) g j=nP m g j:=rfl
  rw[lg,lg,hl]
  rcases sJ m g j with ⟨d,hd,hdm,_⟩|⟨hd,hno⟩
  ·rw[hd];exact (hfp d.k.toNat).1
  ·rw[hd]
   exact hdk g j hgj fun e=>hno c hcm ⟨by rw[e.1];exact hcf.2.1.symm,by rw[e.2];exact hcf.2.2.symm⟩
 have hpt:Pt (eX m f):=by
  have hd:aZ (gK m.dk (dh m.st (aO m f).f (aO m f).i,(aO m f).p))=0:=rX h.pt.dk hB.b0 hlt
  exact { fr:=EX h.pt.fr (IE (h.pt.frE hf)),sl:=h.pt.sl,sw:=h.pt.sw,dk:=hd,st:=hB.right,swl:=h.pt.swl,dkl:=by show ((gK m.dk _).blocks.length:Int)=_;rw[qA,h.pt.dkl];exact hB.count.symm,spl:=h.pt.spl,ar:=h.pt.ar,tb:=h.pt.tb }
 have hcaok:pX (eX m f):=⟨fun d hd=>(h.ca.file d hd).same hB.len hB.lenb,fun d hd=>by rw[hlen];exact h.ca.lt d hd,fun d hd=>by
   have:=hfp d.k.toNat
   rw[this.2.1,this.2.2.1,this.2.2.2];exact h.ca.fr d hd,h.ca.srt⟩
 refine⟨⟨hpt,⟨fun b hb0 hbl => ?_,fun q hq => ?_⟩,h.live,hcaok,fun p n hk => ?_,fun i hi => ?_,fun i hi hi0 => ?_,h.cs⟩,⟨fun d hd => ?_,fun d hd hdd => ?_,fun i hi hid => ?_⟩,?_,rfl,rfl,rfl,rfl,rfl⟩
 ·have hbl' : b<m.dk.blocks.length:=by
   have:((eX m f).dk.blocks.length)=m.dk.blocks.length:=qA _ _
   omega
  by_cases hu:b∈iU m.st
  ·exact .inl ((hB.used b hb0).2 (.inr hu))
  ·by_cases e:b=dh m.st (aO m f).f (aO m f).i
   ·exact .inl ((hB.used b hb0).2 (.inl e))
   ·refine .inr ?_
    show (gK m.dk _).blocks.getD b.toNat zPg=zPg
    rw[KW hb0 (fun q hq=>⟨fun e=>hu (by rw[←e];exact h.trim.2 q hq),((gI _).1 h.pt.dk).2.2 q hq |>.1⟩)]
    exact (h.trim.1 b hb0 hbl').resolve_left hu
 ·rcases LA hq with hq|rfl
  ·exact (hB.used _ (((gI _).1 h.pt.dk).2.2 q hq).1).2 (.inr (h.trim.2 q hq))
  ·exact (hB.used _ hB.b0).2 (.inl rfl)
 ·obtain⟨g,hg,hfit⟩:=h.en p n hk
  refine⟨g,hg,hfit.sw,fun hk1=>by rw[hlen];exact hfit.lt hk1,fun hk1 => ?_⟩
  have h1:=hfit.fr hk1
  have h2:=hfp (ent m p n).n.toNat
  unfold Jr at h1 ⊢
  rw[hent,h2.2.1,h2.2.2.1,h2.2.2.2]
  exact h1
 ·rw[(hfp i).2.2.2];exact h.cf i (by rw[←hlen];exact hi)
 ·rw[(hfp i).2.1] at hi0;exact h.fc i (by rw[←hlen];exact hi) hi0
 ·rw[(hfp d.k.toNat).1,show (aT (eX m f).st d.f).n=(aT m.st d.f).n from hB.size _];exact hc.tail d hd
 ·by_cases e:d.k.toNat=f
  ·have hdc:d=c:=h.ca.uniq hd hcm (by have:=h.ca.lt d hd;omega)
   subst hdc
   rw[(hfp d.k.toNat).1,e]
   rw[←hcf.2.1,←hcf.2.2]
   exact hown.symm
  ·rw[hfr,if_neg e] at hdd
   rw[(hfp d.k.toNat).1,hc.clean d hd hdd]
   refine (hdk d.f d.i (h.ca.file d hd) fun e2=>e ?_).symm
   have hdc:d=c:=srt_eq h.ca.srt hd hcm (by rw[e2.1];exact hcf.2.1) (by rw[e2.2];exact hcf.2.2)
   rw[hdc,hck];exact Int.toNat_natCast f
 ·rw[(hfp i).2.1]
  rw[hfr] at hid
  by_cases e:i=f
  ·rw[e];exact h0
  ·rw[if_neg e] at hid;exact hc.anon i (by rw[←hlen];exact hi) hid
 ·refine BG h.pt (jk.of rfl) hfiles hcon fun p n g hg => ?_
  rw[hent]
  exact tX h.pt.st (h.pt.pg hg).1 hfiles hcon (fun _=>⟨(hfp _).1,(hfp _).2.1⟩) (fun _=>⟨rfl,rfl⟩)
theorem tN (n:Int):dn zTb n=zEn:=by
 by_cases h:0≤n∧n<64
 ·obtain⟨q,r,hq,hr,rfl,_,_⟩:=rF h
  exact zA hq hr (by simp[zTb])
 ·exact mW (by omega)
theorem sK (h:m'.m=m.m) (g:Nat):aO m' g=aO m g:=by unfold aO;rw[h]
theorem mR {n:Int} (h:(ent m p n).k≠0):p<m.sp.length∧0≤n∧n<64:=by
 refine⟨?_,?_⟩
 ·rcases Nat.lt_or_ge p m.sp.length with hp|hp
  ·exact hp
  ·refine absurd ?_ h
   unfold ent
   rw[mr hp,show zSp.tb=zTb from rfl,tN];rfl
 ·by_cases hn:n<0∨64≤n
  ·exact absurd (by rw[FZ p hn];rfl) h
  ·omega
theorem MN (k:Kp) (u:Nat × Int) (h1:(ent k.m u.1 u.2).k=1) (h2:(ent k.m u.1 u.2).n=f):ni k u.1 u.2=Oj f zEn k u:=by
 unfold ni Oj
 have h1' : (dn (dR k.m u.1).tb u.2).k=1:=h1
 have h2' : (dn (dR k.m u.1).tb u.2).n=f:=h2
 simp only[h1',h2',if_true]
theorem zx {k:Kp} (h:Rt k.m) (hc:Co k.m) (hf:f<k.m.m.fs.length) (h0:0≤(aO k.m f).f) (hb:fO k.m f=true):∃m1,gN k f=⟨m1,k.e⟩∧Cleaned k.m m1 f:=by
 rw[xY h hf]
 by_cases hd:(aO k.m f).d=false
 ·rw[if_pos (.inr (.inl hd))]
  refine⟨k.m,rfl,h,hc,.refl _,rfl,rfl,rfl,rfl,?_⟩
  have:({ aO k.m f with d:=false }:Fr)=aO k.m f:=by
   rw[←hd]
  rw[this,xS hf]
 ·have hbe:bL k.m.st (aO k.m f).f (aO k.m f).i=0:=by
   unfold fO at hb
   simp only[Bool.or_eq_true,decide_eq_true_eq,Bool.not_eq_true'] at hb
   rcases hb with (h1|h1)|h1
   ·omega
   ·exact absurd h1 hd
   ·exact h1
  rw[if_neg]
  ·exact⟨_,rfl,zC h hc hf h0 hbe⟩
  ·rintro (h1|h1|h1)
   ·omega
   ·exact hd h1
   ·exact h1 hbe
theorem KA {k:Kp} (h:Rt k.m) (hf:f<k.m.m.fs.length) (hb:fO k.m f=false):gN k f=k:=by
 rw[xY h hf,if_pos]
 unfold fO at hb
 simp only[Bool.or_eq_false_iff,decide_eq_false_iff_not] at hb
 exact .inr (.inr hb.2)
structure pI (m m' : Ma) (f:Nat):Prop where
 rt:Rt m'
 co:Co m'
 vis:GH m m'
 len:m'.m.fs.length=m.m.fs.length
 hand:m'.m.hand=m.m.hand
 free:aO m' f=frZ
 oth:∀g,g≠f→aO m' g=aO m g
 sll:m'.sl.length=m.sl.length
 ents:∀p n,¬((ent m p n).k=1∧(ent m p n).n=f)→ent m' p n=ent m p n
 cas:∀c,c∈m'.ca↔c∈m.ca∧c.k≠f
 std:(m'.st=m.st∧m'.dk=m.dk)∨(0≤(aO m f).f∧(aO m f).d=true∧bL m.st (aO m f).f (aO m f).i=0∧m'.st=(eX m f).st∧m'.dk=(eX m f).dk)
theorem Jp {l:List Cc} (hs:l.Pairwise yQ) {c:Cc} (hj:l[j]?=some c) (d:Cc):d∈l.eraseIdx j↔d∈l∧¬(d.f=c.f∧d.i=c.i):=by
 have hjl:=(List.getElem?_eq_some_iff.1 hj).1
 have hje:=(List.getElem?_eq_some_iff.1 hj).2
 rw[List.mem_eraseIdx_iff_getElem]
 constructor
 ·rintro⟨i,hi,hne,rfl⟩
  refine⟨List.getElem_mem _,fun e => ?_⟩
  have:=srt_eq hs (List.getElem_mem hi) (List.mem_of_getElem? hj) e.1 e.2
  rcases Nat.lt_or_gt_of_ne hne with h1|h1
  ·have h2:=List.pairwise_iff_getElem.1 hs i j hi hjl h1
   rw[hje,this] at h2;exact BI _ h2
  ·have h2:=List.pairwise_iff_getElem.1 hs j i hjl hi h1
   rw[hje,this] at h2;exact BI _ h2
 ·rintro⟨hd,hne⟩
  obtain⟨i,hi,rfl⟩:=List.mem_iff_getElem.1 hd
  exact⟨i,hi,fun e=>hne (by subst e;rw[hje];exact⟨rfl,rfl⟩),rfl⟩
theorem uB {α:Type} (q:α→Bool):∀(l:List α) (j:Nat) (h:j<l.length),(l.eraseIdx j).countP q+qp (q l[j])=l.countP q
 | a::l,0,_=>by simp only[List.eraseIdx_cons_zero,List.getElem_cons_zero,List.countP_cons,qp]
 | a::l,j+1,h=>by
  have:=uB q l j (by simpa using h)
  simp only[List.eraseIdx_cons_succ,List.getElem_cons_succ,List.countP_cons]
  omega
theorem Fj {k:Kp} (h:Rt k.m) (hc:Co k.m) (hf:f<k.m.m.fs.length) (h0:0≤(aO k.m f).f) (hb:fO k.m f=true) :
  (dN k f).e=k.e∧pI k.m (dN k f).m f:=by
 obtain⟨m1,hk1,hC⟩:=zx h hc hf h0 hb
 have hul:aU k.m f=aU m1 f:=by unfold aU dR;rw[hC.sp]
 have hx1:aO m1 f = { aO k.m f with d:=false }:=by
  have:aO m1 f=aO (setFr k.m f { aO k.m f with d:=false }) f:=sK hC.fs f
  rw[this,kN hf,if_pos rfl]
 have hoth1:∀g,g≠f→aO m1 g=aO k.m g:=by
  intro g hg
  have:aO m1 g=aO (setFr k.m f { aO k.m f with d:=false }) g:=sK hC.fs g
  rw[this,kN hf,if_neg hg]
 have hl1:m1.m.fs.length=k.m.m.fs.length:=by rw[hC.fs];exact ku
 have hf1:f<m1.m.fs.length:=by rw[hl1];exact hf
 obtain⟨c,hcm,hck⟩:=hC.rt.fc f hf1 (by rw[hx1];exact h0)
 have hcf:=hC.rt.ca.fr c hcm
 rw[hck,Int.toNat_natCast] at hcf
 have hone:rT m1 f=1:=by rw[←hck];exact hC.rt.ca.one hcm
 have hr:=hC.rt.cf f hf1
 rw[hone,←rE] at hr
 have hreps:=AZ (f:=f) (e':=zEn) (by decide) (fun k u=>ni k u.1 u.2) MN (aU m1 f) ⟨m1,k.e⟩ hC.rt.pt (Dt m1 f) hf1 (by simp only;omega)
 obtain⟨r1,r2,r3,r4,r5,r6,r7⟩:=hreps
 have hdef:(aU m1 f).foldl (fun k u=>ni k u.1 u.2) ⟨m1,k.e⟩=jD ⟨m1,k.e⟩ (aU m1 f):=rfl
 rw[hdef] at r1 r2 r3 r4 r5 r6 r7
 generalize hk2:jD ⟨m1,k.e⟩ (aU m1 f)=k2 at r1 r2 r3 r4 r5 r6 r7
 have hheld:ic (aO m1 f) (-((aU m1 f).length:Int)) = { aO m1 f with r:=1 }:=by
  unfold ic
  rw[if_neg (by omega)]
  congr 1;omega
 simp only[hheld] at r5
 have hisc:JV k2.m.ca (aO k.m f).f (aO k.m f).i=true:=by
  rw[r3.ca,Ng hC.rt.ca.srt]
  refine⟨c,hcm,?_,?_⟩
  ·rw[←hcf.2.1,hx1]
  ·rw[←hcf.2.2,hx1]
 obtain⟨d,hd,hdf,hdi⟩:=Mi hisc
 have hdc:d=c:=by
  rw[r3.ca] at hd
  refine srt_eq hC.rt.ca.srt (List.mem_of_getElem? hd) hcm ?_ ?_
  ·rw[hdf,←hcf.2.1,hx1]
  ·rw[hdi,←hcf.2.2,hx1]
 subst hdc
 have hev:dN k f=gz ⟨{ k2.m with ca:=k2.m.ca.eraseIdx (rR k2.m.ca (aO k.m f).f (aO k.m f).i) },k2.e⟩ f (-1):=by
  unfold dN
  simp only
  rw[if_pos h0,if_neg (by rw[hb];decide),hk1,hul,hk2,if_pos hisc]
 generalize hj:rR k2.m.ca (aO k.m f).f (aO k.m f).i=j at hev hd
 have hf2:f<k2.m.m.fs.length:=by rw[r5,ku];exact hf1
 have hx2:aO k2.m f = { aO m1 f with r:=1 }:=by
  have:aO k2.m f=aO (setFr m1 f { aO m1 f with r:=1 }) f:=sK r5 f
  rw[this,kN hf1,if_pos rfl]
 have hoth2:∀g,g≠f→aO k2.m g=aO m1 g:=by
  intro g hg
  have:aO k2.m g=aO (setFr m1 f { aO m1 f with r:=1 }) g:=sK r5 g
  rw[this,kN hf1,if_neg hg]
 have hpt3:Pt { k2.m with ca:=k2.m.ca.eraseIdx j }:={ fr:=r2.fr,sl:=r2.sl,sw:=r2.sw,dk:=r2.dk,st:=r2.st,swl:=r2.swl,dkl:=r2.dkl,spl:=r2.spl,ar:=r2.ar,tb:=r2.tb }
 obtain⟨e3,p3⟩:=CQ (k:=⟨{ k2.m with ca:=k2.m.ca.eraseIdx j },k2.e⟩) (f:=f) (n:=-1) hpt3 hf2 (by show (aO k2.m f).r≠0;rw[hx2];show (1:Int)≠0;decide) (by show -(aO k2.m f).r≤-1;rw[hx2];show -(1:Int)≤-1;decide) (by show -1≤1000-(aO k2.m f).r;rw[hx2];show -1≤(1000:Int)-1;decide)
 have hz:ic (aO { k2.m with ca:=k2.m.ca.eraseIdx j } f) (-1)=frZ:=by
  show ic (aO k2.m f) (-1)=frZ
  rw[hx2];rfl
 rw[hz] at e3 p3
 rw[hev,e3]
 refine⟨r1,?_⟩
 generalize hM:setFr { k2.m with ca:=k2.m.ca.eraseIdx j } f frZ=M at p3 ⊢
 change pI k.m M f
 have hfr:∀g,aO M g=if g=f then frZ else aO k.m g:=by
  intro g
  rw[←hM,kN (m:={ k2.m with ca:=k2.m.ca.eraseIdx j }) hf2]
  by_cases e:g=f
  ·rw[if_pos e,if_pos e]
  ·rw[if_neg e,if_neg e,←hoth1 g e,←hoth2 g e];rfl
 have hlen:M.m.fs.length=k.m.m.fs.length:=by rw[←hM,ku];show k2.m.m.fs.length=_;rw[r5,ku,hl1]
 have hMsl:M.sl=k.m.sl:=by rw[←hM];show k2.m.sl=_;rw[r3.sl,hC.sl]
 have hMsw:M.sw=k.m.sw:=by rw[←hM];show k2.m.sw=_;rw[r3.sw,hC.sw]
 have hMdk:M.dk=m1.dk:=by rw[←hM];show k2.m.dk=_;rw[r3.dk]
 have hMst:M.st=m1.st:=by rw[←hM];show k2.m.st=_;rw[r3.st]
 have hMca:M.ca=m1.ca.eraseIdx j:=by rw[←hM];show k2.m.ca.eraseIdx j=_;rw[r3.ca]
 rw[r3.ca] at hd
 have hjl:=(List.getElem?_eq_some_iff.1 hd).1
 have hsk1:jk k.m m1:=hC.vis.sk
 have hsk:jk k.m M:=hsk1.trans (by rw[←hM];exact r4.trans (jk.of rfl))
 have hent1:∀p n,ent m1 p n=ent k.m p n:=fun p n=>by unfold ent dR;rw[hC.sp]
 have hentM:∀p n,ent M p n=if (p,n)∈aU m1 f then zEn else ent k.m p n:=fun p n=>by
  rw[←hM,←hent1 p n];exact r6 p n
 have hmemU:∀p n,(p,n)∈aU m1 f↔(ent k.m p n).k=1∧(ent k.m p n).n=f:=by
  intro p n
  rw[mF,hent1]
  constructor
  ·rintro⟨_,_,h3⟩;exact h3
  ·intro h3
   have h4:=mR (m:=k.m) (p:=p) (n:=n) (by rw[h3.1];decide)
   exact⟨by rw[hsk1.len];exact h4.1,h4.2,h3⟩
 have hholdM:∀kd i,cz M kd i+(if kd=1∧i=f then (aU m1 f).length else 0)=cz m1 kd i+(if kd=zEn.k∧i=zEn.n then (aU m1 f).length else 0):=fun kd i=>by rw[←hM];exact r7 kd i
 have hfiles:nG m1.st M.st:=nG.of hMst
 have hdisk:∀g i,gL M g i=gL m1 g i:=fun g i=>by unfold gL;rw[hMst,hMdk]
 have hcam:∀e,e∈M.ca↔e∈m1.ca∧¬(e.f=d.f∧e.i=d.i):=fun e=>by rw[hMca];exact Jp hC.rt.ca.srt hd e
 have hcak:∀e,e∈M.ca→e∈m1.ca∧e.k.toNat≠f:=fun e he=>by
  have h1:=(hcam e).1 he
  refine⟨h1.1,fun h2=>h1.2 ?_⟩
  have h3:=hC.rt.ca.uniq h1.1 hcm (by have:=hC.rt.ca.lt e h1.1;omega)
  rw[h3];exact⟨rfl,rfl⟩
 have hfr1:∀g,g≠f→aO M g=aO m1 g:=fun g hg=>by rw[hfr,if_neg hg,hoth1 g hg]
 have hcaok:pX M:=⟨fun e he=>by rw[hMst];exact hC.rt.ca.file e (hcak e he).1,fun e he=>by rw[hlen,←hl1];exact hC.rt.ca.lt e (hcak e he).1,
  fun e he=>by rw[hfr1 _ (hcak e he).2];exact hC.rt.ca.fr e (hcak e he).1,by rw[hMca];exact hC.rt.ca.srt.sublist (List.eraseIdx_sublist _ _)⟩
 have hcon:∀g i,tK m1.st g i→bP M g i=bP m1 g i:=by
  intro g i hgi
  rcases sJ m1 g i with ⟨e,he,hem,hef,hei⟩|⟨he,hno⟩
  ·subst hef;subst hei
   rw[nk hC.rt.ca hem]
   by_cases hed:e.f=d.f∧e.i=d.i
   ·have:=srt_eq hC.rt.ca.srt hem hcm hed.1 hed.2
    subst this
    rw[lQ (fun e' he'=>((hcam e').1 he').2),hdisk]
    exact (hC.co.clean e hem (by rw[hck,Int.toNat_natCast,hx1])).symm
   ·have heM:=(hcam e).2 ⟨hem,hed⟩
    rw[nk hcaok heM,hfr1 _ (hcak e heM).2]
  ·rw[lQ hno,lQ (fun e' he'=>hno e' ((hcam e').1 he').1),hdisk]
 have hvis1:GH m1 M:=by
  refine BG hC.rt.pt ⟨hsk.len.trans hsk1.len.symm,fun p=>(hsk.lv p).trans (hsk1.lv p).symm,fun p=>(hsk.ar p).trans (hsk1.ar p).symm⟩ hfiles hcon fun p n g hg => ?_
  rw[hentM,←hent1 p n]
  by_cases hu:(p,n)∈aU m1 f
  ·rw[if_pos hu]
   have h1:=(mF.1 hu).2.2
   simp only at h1
   obtain⟨g',hg',hfit⟩:=hC.rt.en p n (by rw[h1.1];decide)
   rw[hg] at hg'
   cases hg'
   have h2:=hfit.fr h1.1
   rw[h1.2,Int.toNat_natCast] at h2
   have h3:=h2.1 (by rw[hx1];exact h0)
   have hin:tK m1.st g.fi g.pg:=by
    rw[←h3.1,←h3.2,hcf.2.1,hcf.2.2]
    exact hC.rt.ca.file d hcm
   have hg0:¬g.fi<0:=by have:=hin.1;omega
   have hne:¬((M.st.fs.length:Int)≤g.fi∨wB M.st g.fi g.pg=true):=by rw[hMst];exact DW hC.rt.pt.st hin
   have hl:zn m1 g (ent m1 p n)=((aO m1 f).p,false,0):=by
    unfold zn
    rw[if_pos h1.1,h1.2,ut,hx1]
    simp only[Prod.mk.injEq,true_and,and_true]
    exact decide_eq_false (by omega)
   rw[hl]
   unfold zn
   rw[if_neg (by decide),if_neg (by decide),if_neg hg0,if_neg hne,hcon _ _ hin]
   have:g.fi=d.f∧g.pg=d.i:=⟨by rw[←h3.1,hcf.2.1],by rw[←h3.2,hcf.2.2]⟩
   rw[this.1,this.2,nk hC.rt.ca hcm,hck,Int.toNat_natCast]
  ·rw[if_neg hu]
   refine tX hC.rt.pt.st (hC.rt.pt.pg hg).1 hfiles hcon (fun hk => ?_) (fun hk=>by rw[hMsw,hC.sw];exact⟨rfl,rfl⟩)
   have hne:(ent m1 p n).n.toNat≠f:=by
    intro e
    have h5:=((bV _).1 (nX hC.rt.pt p n))
    refine hu ((hmemU p n).2 ⟨by rw[←hent1];exact hk,?_⟩)
    rw[←hent1]
    omega
   have:=hfr1 _ hne
   exact⟨congrArg Fr.p this,congrArg Fr.f this⟩
 refine⟨⟨p3,⟨?_,?_⟩,fun p hp => ?_,hcaok,fun p n hk => ?_,fun i hi => ?_,fun i hi hi0 => ?_,fun s hs => ?_⟩,⟨fun e he => ?_,fun e he hed => ?_,fun i hi hid => ?_⟩,hC.vis.trans hvis1,hlen,?_,by rw[hfr,if_pos rfl],fun g hg=>by rw[hfr,if_neg hg],by rw[hMsl],fun p n hne=>by rw[hentM,if_neg (fun hu=>hne ((hmemU p n).1 hu))],fun e => ?_,?_⟩
 ·rw[hMdk,hMst];exact hC.rt.trim.1
 ·rw[hMdk,hMst];exact hC.rt.trim.2
 ·rw[hsk.lv] at hp
  have h1:=h.live p hp
  rw[hsk.ar]
  refine⟨h1.1,fun n => ?_⟩
  rw[hentM]
  by_cases hu:(p,n)∈aU m1 f
  ·rw[if_pos hu];rfl
  ·rw[if_neg hu];exact h1.2 n
 ·rw[hentM] at hk ⊢
  by_cases hu:(p,n)∈aU m1 f
  ·rw[if_pos hu] at hk;exact absurd rfl hk
  ·rw[if_neg hu] at hk ⊢
   obtain⟨g,hg,hfit⟩:=h.en p n hk
   refine⟨g,by unfold mi;rw[hsk.ar];exact hg,by rw[hMsl];exact hfit.sw,by rw[hlen];exact hfit.lt,fun hk1 => ?_⟩
   have hne:(ent k.m p n).n.toNat≠f:=by
    intro e
    have h5:=((bV _).1 (nX h.pt p n))
    exact hu ((hmemU p n).2 ⟨hk1,by omega⟩)
   rw[hfr,if_neg hne]
   exact hfit.fr hk1
 ·have a1:=hholdM 1 i
  have hz0:¬((1:Int)=zEn.k∧(i:Int)=zEn.n):=fun e=>by cases e.1
  rw[if_neg hz0] at a1
  have a2:=uB (fun c=>decide (c.k=(i:Int))) m1.ca j hjl
  have hjd:=(List.getElem?_eq_some_iff.1 hd).2
  rw[hjd] at a2
  have a3:rT M i=(m1.ca.eraseIdx j).countP (fun c=>decide (c.k=(i:Int))):=by unfold rT;rw[hMca]
  by_cases e:i=f
  ·subst e
   rw[if_pos ⟨rfl,rfl⟩] at a1
   have a4:qp (decide (d.k=(i:Int)))=1:=by rw[hck];simp[qp]
   have a5:m1.ca.countP (fun c=>decide (c.k=(i:Int)))=1:=hone
   rw[rE] at a1
   rw[hfr,if_pos rfl,a3]
   show (0:Int)=_
   omega
  ·rw[if_neg (fun h'=>e (by have:=h'.2;omega))] at a1
   have a4:qp (decide (d.k=(i:Int)))=0:=by unfold qp;rw[if_neg];simp only[decide_eq_true_eq,hck];omega
   have a5:=hC.rt.cf i (by rw[hl1,←hlen];exact hi)
   have a6:rT m1 i=m1.ca.countP (fun c=>decide (c.k=(i:Int))):=rfl
   rw[hfr1 i e,a3]
   omega
 ·by_cases e:i=f
  ·subst e
   rw[hfr,if_pos rfl] at hi0
   exact absurd hi0 (by decide)
  ·rw[hfr1 i e] at hi0
   obtain⟨c',hc',hck'⟩:=hC.rt.fc i (by rw[hl1,←hlen];exact hi) hi0
   refine⟨c',(hcam c').2 ⟨hc',fun h2 => ?_⟩,hck'⟩
   have:=srt_eq hC.rt.ca.srt hc' hcm h2.1 h2.2
   rw[this,hck] at hck'
   omega
 ·have a1:=hholdM 2 s
  rw[if_neg (fun e=>by cases e.1),if_neg (fun e=>by cases e.1)] at a1
  have a2:=hC.rt.cs s (by rw[hC.sl,←hMsl];exact hs)
  have a3:lV M s=lV m1 s:=by unfold lV;rw[hMsl,hC.sl]
  rw[a3,a2]
  omega
 ·have h1:=hcak e he
  rw[hfr1 _ h1.2,hMst]
  exact hC.co.tail e h1.1
 ·have h1:=hcak e he
  rw[hfr1 _ h1.2] at hed ⊢
  rw[hdisk]
  exact hC.co.clean e h1.1 hed
 ·by_cases e:i=f
  ·rw[hfr,if_pos e] at hid;cases hid
  ·rw[hfr1 i e] at hid ⊢
   exact hC.co.anon i (by rw[hl1,←hlen];exact hi) hid
 ·rw[←hM]
  show k2.m.m.hand=_
  rw[r5]
  show m1.m.hand=_
  rw[hC.fs];rfl
 ·rw[hcam,hC.ca]
  constructor
  ·rintro⟨h1,h2⟩
   refine⟨h1,fun h3=>h2 ?_⟩
   rw[h.ca.uniq h1 (by rw[←hC.ca];exact hcm) (by rw[h3,hck])]
   exact⟨rfl,rfl⟩
  ·rintro⟨h1,h2⟩
   refine⟨h1,fun h3=>h2 ?_⟩
   rw[srt_eq h.ca.srt h1 (by rw[←hC.ca];exact hcm) h3.1 h3.2,hck]
 ·rw[hMst,hMdk]
  have h1:=xY h hf
  rw[hk1] at h1
  by_cases hcd:(aO k.m f).f<0∨(aO k.m f).d=false∨bL k.m.st (aO k.m f).f (aO k.m f).i≠0
  ·rw[if_pos hcd] at h1
   have h2:m1=k.m:=congrArg Kp.m h1
   rw[h2];exact .inl ⟨rfl,rfl⟩
  ·rw[if_neg hcd] at h1
   have h2:m1=eX k.m f:=congrArg Kp.m h1
   rw[h2]
   refine .inr ⟨h0,?_,?_,rfl,rfl⟩
   ·cases e:(aO k.m f).d with
    | true=>rfl
    | false=>exact absurd (.inr (.inl e)) hcd
   ·by_cases e:bL k.m.st (aO k.m f).f (aO k.m f).i=0
    ·exact e
    ·exact absurd (.inr (.inr e)) hcd
def GD (m:Ma) (f i:Int) (P:Page):Prop:=∃c∈m.ca,c.f=f∧c.i=i∧(aO m c.k.toNat).d=true∧(aO m c.k.toNat).p=P
structure OH (m m' : Ma):Prop where
 st:m'.st=m.st
 dk:m'.dk=m.dk
 di:∀f i P,GD m' f i P→GD m f i P
structure Qg (P:Ma→Prop):Prop where
 cl:∀m f,Rt m→Co m→P m→f<m.m.fs.length→0≤(aO m f).f→(aO m f).d=true→bL m.st (aO m f).f (aO m f).i=0→P (eX m f)
 sub:∀m m',Rt m→Co m→P m→Rt m'→Co m'→OH m m'→P m'
def Inv (m m' : Ma):Prop:=∀P,Qg P→P m→P m'
theorem Inv.refl (m:Ma):Inv m m:=fun _ _ h=>h
theorem Inv.trans {a b c:Ma} (h:Inv a b) (k:Inv b c):Inv a c:=fun P hp ha=>k P hp (h P hp ha)
theorem OH.inv (h:OH m m') (h1:Rt m) (h2:Co m) (h3:Rt m') (h4:Co m'):Inv m m':=fun P hp hm=>hp.sub m m' h1 h2 hm h3 h4 h
theorem OH.of (st:m'.st=m.st) (dk:m'.dk=m.dk) (hc:∀c∈m'.ca,(aO m' c.k.toNat).d=true→c∈m.ca∧(aO m' c.k.toNat).d=(aO m c.k.toNat).d∧(aO m' c.k.toNat).p=(aO m c.k.toNat).p):OH m m':=
 ⟨st,dk,fun f i P ⟨c,a1,a2,a3,a4,a5⟩=>have ⟨b1,b2,b3⟩:=hc c a1 a4;⟨c,b1,a2,a3,by rw[←b2];exact a4,by rw[←b3];exact a5⟩⟩
theorem pI.inv (h:Rt m) (hc:Co m) (hf:f<m.m.fs.length) (E:pI m m' f):Inv m m':=by
 have hck:∀c∈m'.ca,c∈m.ca∧c.k.toNat≠f:=fun c hcm=>by
  have h1:=(E.cas c).1 hcm
  have h2:=h.ca.lt c h1.1
  exact⟨h1.1,fun e=>h1.2 (by omega)⟩
 rcases E.std with ⟨h1,h2⟩|⟨h0,hd,hb,h1,h2⟩
 ·refine OH.inv (.of h1 h2 fun c hcm _ => ?_) h hc E.rt E.co
  rw[E.oth _ (hck c hcm).2]
  exact⟨(hck c hcm).1,rfl,rfl⟩
 ·have hC:=zC h hc hf h0 hb
  refine Inv.trans (fun P hp hm=>hp.cl m f h hc hm hf h0 hd hb) (OH.inv (.of h1 h2 fun c hcm _ => ?_) hC.rt hC.co E.rt E.co)
  have h3:aO (eX m f) c.k.toNat=aO m c.k.toNat:=by
   rw[sK hC.fs,kN hf,if_neg (hck c hcm).2]
  rw[E.oth _ (hck c hcm).2,h3]
  exact⟨(hck c hcm).1,rfl,rfl⟩
theorem Gw {α:Type} {q:α→Bool} {l:List α} (h:0≤idx q l):∃k:Nat,idx q l=k∧∃hk:k<l.length,q l[k]=true:=by
 unfold idx at h ⊢
 cases hf:l.findIdx? q with
 | none=>rw[hf] at h;simp at h
 | some k=>
  obtain⟨hk,hq,_⟩:=List.findIdx?_eq_some_iff_getElem.1 hf
  exact⟨k,rfl,hk,hq⟩
theorem NT {α:Type} {q:α→Bool} {l:List α} (h:idx q l<0):∀x∈l,q x=false:=by
 unfold idx at h
 cases hf:l.findIdx? q with
 | none=>exact List.findIdx?_eq_none_iff.1 hf
 | some k=>rw[hf] at h;simp at h;omega
theorem Mh (h:Pt m) {n:Int} (h1:1≤n) (h2:n≤1000) :
  (fo m.sl n=0∧∃s:Nat,s<m.sl.length∧lV m s=0∧il m.sl n=s∧jy m.sl n=m.sl.set s n)∨(fo m.sl n=10∧∀s:Nat,s<m.sl.length→lV m s≠0):=by
 by_cases hi:idx BP m.sl<0
 ·refine .inr ⟨?_,fun s hs he => ?_⟩
  ·unfold fo
   rw[if_neg (by rw[h.sl];simp),if_neg (by omega),if_pos hi]
  ·have:=NT hi _ (List.mem_of_getElem? (FN hs))
   rw[he] at this
   simp[BP] at this
 ·obtain⟨k,hk,hkl,hz⟩:=Gw (by omega:0≤idx BP m.sl)
  have hE:fo m.sl n=0:=by
   unfold fo
   rw[if_neg (by rw[h.sl];simp),if_neg (by omega),if_neg hi]
  refine .inl ⟨hE,k,hkl,?_,?_,?_⟩
  ·have h3:=FN hkl
   rw[List.getElem?_eq_getElem hkl] at h3
   rw[←Option.some.inj h3]
   simpa[BP] using hz
  ·unfold il;rw[if_pos hE,hk]
  ·unfold jy;rw[if_pos hE,hk,Int.toNat_natCast]
theorem JK (h:Rt m) (hf:f<m.m.fs.length) (h0:(aO m f).f<0):rT m f=0∧(aO m f).r=(aU m f).length:=by
 have hc:rT m f=0:=pX.none (m:=m) (i:=f) fun c hc hk=>by
  have h1:=(h.ca.fr c hc).2.1
  have h2:=(h.ca.file c hc).1
  rw[hk,Int.toNat_natCast] at h1
  omega
 refine⟨hc,?_⟩
 have:=h.cf f hf
 rw[hc,←rE] at this
 omega
theorem Fq {k:Kp} (h:Rt k.m) (hc:Co k.m) (hf:f<k.m.m.fs.length) (h0:(aO k.m f).f<0) (hr:(aO k.m f).r≠0) (hb:fo k.m.sl (aU k.m f).length=0) :
  (dN k f).e=k.e∧pI k.m (dN k f).m f:=by
 obtain⟨hca0,hlen0⟩:=JK h hf h0
 have hbd:=((fP _).1 (h.pt.frE hf)).1
 obtain⟨_,s,hs,hsz,hsk,hsl⟩:=(Mh h.pt (n:=(aU k.m f).length) (by omega) (by omega)).resolve_right (fun e=>by rw[hb] at e;cases e.1)
 have hs60:s<60:=by have:=gM h.pt.sl;omega
 have hswb:(s:Int)<k.m.sw.blocks.length:=by rw[h.pt.swl];omega
 have hwo:aH k.m.sw (s:Int)=0:=nL.2 ⟨h.pt.sw,by omega,hswb⟩
 have hl:∃L:Nat,L=(aU k.m f).length:=⟨_,rfl⟩
 obtain⟨L,hL⟩:=hl
 generalize hm1:({ k.m with sl:=k.m.sl.set s (L:Int),sw:=gK k.m.sw ((s:Int),(aO k.m f).p) }:Ma)=m1
 have hev:dN k f=mX ⟨m1,k.e⟩ f s (aU k.m f):=by
  unfold dN
  simp only
  rw[if_neg (by omega),if_neg (by rw[hb];simp),hsk,hwo,hsl]
  have hw:bT k.m.sw (s:Int) (aO k.m f).p=gK k.m.sw ((s:Int),(aO k.m f).p):=by unfold bT;rw[if_pos hwo]
  have he:gW k.e 0=k.e:=by unfold gW;split<;>simp_all
  rw[hw,he,←hm1,hL]
 have hm1fs:m1.m=k.m.m:=by rw[←hm1]
 have hm1sp:m1.sp=k.m.sp:=by rw[←hm1]
 have hm1sl:m1.sl=k.m.sl.set s (L:Int):=by rw[←hm1]
 have hm1sw:m1.sw=gK k.m.sw ((s:Int),(aO k.m f).p):=by rw[←hm1]
 have hm1dk:m1.dk=k.m.dk:=by rw[←hm1]
 have hm1st:m1.st=k.m.st:=by rw[←hm1]
 have hm1ca:m1.ca=k.m.ca:=by rw[←hm1]
 have hpt1:Pt m1:={ fr:=by rw[hm1fs];exact h.pt.fr,sl:=by rw[hm1sl];exact yz s _ h.pt.sl (by omega) (by omega),sw:=by rw[hm1sw];exact rX h.pt.sw (by show (0:Int)≤s;omega) hswb,dk:=by rw[hm1dk];exact h.pt.dk,st:=by rw[hm1st];exact h.pt.st,swl:=by rw[hm1sw,hm1sl,qA,List.length_set];exact h.pt.swl,dkl:=by rw[hm1dk,hm1st];exact h.pt.dkl,spl:=by rw[hm1sp];exact h.pt.spl,ar:=by rw[hm1sp];exact h.pt.ar,tb:=by rw[hm1sp];exact h.pt.tb }
 have hent1:∀p n,ent m1 p n=ent k.m p n:=fun p n=>by unfold ent dR;rw[hm1sp]
 have hul:aU k.m f=aU m1 f:=by unfold aU dR;rw[hm1sp]
 have hfr1:∀g,aO m1 g=aO k.m g:=fun g=>sK hm1fs g
 have hreps:=AZ (f:=f) (e':=⟨2,s,false⟩) ((bV _).2 (.inr (.inr ⟨rfl,by show (0:Int)≤s;omega,by show (s:Int)<60;omega,rfl⟩))) (Al f s) (fun _ _ _ _=>rfl) (aU k.m f) ⟨m1,k.e⟩ hpt1 (by rw[hul];exact Dt m1 f) (by show f<m1.m.fs.length;rw[hm1fs];exact hf) (by show _≤(aO m1 f).r;rw[hfr1];omega)
 obtain⟨r1,r2,r3,r4,r5,r6,r7⟩:=hreps
 have hdef:(aU k.m f).foldl (Al f s) ⟨m1,k.e⟩=mX ⟨m1,k.e⟩ f s (aU k.m f):=rfl
 rw[hdef,←hev] at r1 r2 r3 r4 r5 r6 r7
 refine⟨r1,?_⟩
 generalize dN k f=k2 at *
 obtain⟨M,eM⟩:=k2
 change pI k.m M f
 simp only at r1 r2 r3 r4 r5 r6 r7
 have hz:ic (aO m1 f) (-((aU k.m f).length:Int))=frZ:=by
  unfold ic;rw[if_pos (by rw[hfr1];omega)]
 rw[hz] at r5
 have hfr:∀g,aO M g=if g=f then frZ else aO k.m g:=by
  intro g
  rw[sK r5 g,kN (by rw[hm1fs];exact hf),hfr1]
 have hfrn:∀g,g≠f→aO M g=aO k.m g:=fun g hg=>by rw[hfr,if_neg hg]
 have hlen:M.m.fs.length=k.m.m.fs.length:=by rw[r5,ku,hm1fs]
 have hMsl:M.sl=k.m.sl.set s (L:Int):=r3.sl.trans hm1sl
 have hMsw:M.sw=gK k.m.sw ((s:Int),(aO k.m f).p):=r3.sw.trans hm1sw
 have hMdk:M.dk=k.m.dk:=r3.dk.trans hm1dk
 have hMst:M.st=k.m.st:=r3.st.trans hm1st
 have hMca:M.ca=k.m.ca:=r3.ca.trans hm1ca
 have hsk:jk k.m M:=(jk.of hm1sp).trans r4
 have hentM:∀p n,ent M p n=if (p,n)∈aU k.m f then ⟨2,s,false⟩ else ent k.m p n:=fun p n=>by rw[r6,hent1]
 have hmemU:∀p n,(p,n)∈aU k.m f↔(ent k.m p n).k=1∧(ent k.m p n).n=f:=by
  intro p n
  rw[mF]
  constructor
  ·rintro⟨_,_,h3⟩;exact h3
  ·intro h3
   have h4:=mR (m:=k.m) (p:=p) (n:=n) (by rw[h3.1];decide)
   exact⟨h4.1,h4.2,h3⟩
 have hfiles:nG k.m.st M.st:=nG.of hMst
 have hdisk:∀g i,gL M g i=gL k.m g i:=fun g i=>by unfold gL;rw[hMst,hMdk]
 have hck:∀c∈k.m.ca,c.k.toNat≠f:=fun c hc e=>by
  have h1:=(h.ca.fr c hc).2.1
  have h2:=(h.ca.file c hc).1
  rw[e] at h1
  omega
 have hcaok:pX M:=⟨by rw[hMca,hMst];exact h.ca.file,by rw[hMca,hlen];exact h.ca.lt,fun c hc=>by
  rw[hMca] at hc
  rw[hfrn _ (hck c hc)];exact h.ca.fr c hc,by rw[hMca];exact h.ca.srt⟩
 have hcon:∀g i,tK k.m.st g i→bP M g i=bP k.m g i:=by
  intro g i hgi
  rcases sJ k.m g i with ⟨e,he,hem,hef,hei⟩|⟨he,hno⟩
  ·subst hef;subst hei
   rw[nk h.ca hem,nk hcaok (by rw[hMca];exact hem),hfrn _ (hck e hem)]
  ·rw[lQ hno,lQ (by rw[hMca];exact hno),hdisk]
 have hno2:∀p n,(ent k.m p n).k=2→(ent k.m p n).n≠s:=by
  intro p n hk2 he
  have h3:=mR (m:=k.m) (p:=p) (n:=n) (by rw[hk2];decide)
  have h4:=(uF (m:=k.m) (kd:=2) (i:=s) (by decide)).2 ⟨p,n,h3.1,h3.2,hk2,he⟩
  have h5:=h.cs s hs
  omega
 have hvis:GH k.m M:=by
  refine BG h.pt hsk hfiles hcon fun p n g hg => ?_
  rw[hentM]
  by_cases hu:(p,n)∈aU k.m f
  ·rw[if_pos hu]
   have h1:=(hmemU p n).1 hu
   unfold zn
   rw[if_neg (show ¬(2:Int)=1 by decide),if_pos rfl,if_pos h1.1,h1.2,ut,hMsw]
   rw[ru h.pt.sw (by show (0:Int)≤s;omega) hswb,if_pos ⟨hwo,rfl⟩,Bv h.pt.sw (by show (0:Int)≤s;omega) hswb,hwo,decide_eq_true h0]
  ·rw[if_neg hu]
   refine tX h.pt.st (h.pt.pg hg).1 hfiles hcon (fun hk => ?_) (fun hk => ?_)
   ·have hne:(ent k.m p n).n.toNat≠f:=by
     intro e
     have h5:=((bV _).1 (nX h.pt p n))
     exact hu ((hmemU p n).2 ⟨hk,by omega⟩)
    have:=hfrn _ hne
    exact⟨congrArg Fr.p this,congrArg Fr.f this⟩
   ·rw[hMsw,ru h.pt.sw (by show (0:Int)≤s;omega) hswb,if_neg (fun e=>hno2 p n hk e.2.symm),Bv h.pt.sw (by show (0:Int)≤s;omega) hswb]
    exact⟨rfl,rfl⟩
 refine⟨⟨r2,by rw[hMdk,hMst];exact h.trim,fun p hp => ?_,hcaok,fun p n hk => ?_,fun i hi => ?_,fun i hi hi0 => ?_,fun j hj => ?_⟩,⟨fun e he => ?_,fun e he hed => ?_,fun i hi hid => ?_⟩,hvis,hlen,?_,by rw[hfr,if_pos rfl],hfrn,by rw[hMsl,List.length_set],fun p n hne=>by rw[hentM,if_neg (fun hu=>hne ((hmemU p n).1 hu))],fun e => ?_,.inl ⟨hMst,hMdk⟩⟩
 ·rw[hsk.lv] at hp
  have h1:=h.live p hp
  rw[hsk.ar]
  refine⟨h1.1,fun n => ?_⟩
  rw[hentM,if_neg]
  ·exact h1.2 n
  ·intro hu
   have:=(hmemU p n).1 hu
   rw[h1.2 n] at this
   exact absurd this.1 (by decide)
 ·rw[hentM] at hk ⊢
  by_cases hu:(p,n)∈aU k.m f
  ·rw[if_pos hu]
   have h1:=(hmemU p n).1 hu
   obtain⟨g,hg,hfit⟩:=h.en p n (by rw[h1.1];decide)
   refine⟨g,by unfold mi;rw[hsk.ar];exact hg,fun _=>⟨by rw[hMsl,List.length_set];show (s:Int)<_;omega,?_⟩,fun (e:(2:Int)=1)=>absurd e (by decide),fun (e:(2:Int)=1)=>absurd e (by decide)⟩
   have h2:=hfit.fr h1.1
   rw[h1.2,Int.toNat_natCast] at h2
   cases hsh:g.sh with
   | false=>rfl
   | true=>have:=h2.2.1 hsh;omega
  ·rw[if_neg hu] at hk ⊢
   obtain⟨g,hg,hfit⟩:=h.en p n hk
   refine⟨g,by unfold mi;rw[hsk.ar];exact hg,by rw[hMsl,List.length_set];exact hfit.sw,by rw[hlen];exact hfit.lt,fun hk1 => ?_⟩
   have hne:(ent k.m p n).n.toNat≠f:=by
    intro e
    have h5:=((bV _).1 (nX h.pt p n))
    exact hu ((hmemU p n).2 ⟨hk1,by omega⟩)
   rw[hfrn _ hne]
   exact hfit.fr hk1
 ·have a1:=r7 1 i
  rw[if_neg (fun e=>by cases e.1:¬((1:Int)=(⟨2,s,false⟩:En).k∧(i:Int)=(⟨2,s,false⟩:En).n))] at a1
  have a2:cz m1 1 i=cz k.m 1 i:=by unfold cz;rw[hm1sp]
  have a3:rT M i=rT k.m i:=by unfold rT;rw[hMca]
  by_cases e:i=f
  ·subst e
   rw[if_pos ⟨rfl,rfl⟩] at a1
   rw[rE] at a1
   rw[hfr,if_pos rfl,a3,hca0]
   show (0:Int)=_
   omega
  ·rw[if_neg (fun h'=>e (by have:=h'.2;omega))] at a1
   have a5:=h.cf i (by rw[←hlen];exact hi)
   rw[hfrn i e,a3]
   omega
 ·by_cases e:i=f
  ·subst e
   rw[hfr,if_pos rfl] at hi0
   exact absurd hi0 (by decide)
  ·rw[hfrn i e] at hi0
   rw[hMca]
   exact h.fc i (by rw[←hlen];exact hi) hi0
 ·have a1:=r7 2 j
  rw[if_neg (fun e=>by cases e.1)] at a1
  have a2:cz m1 2 j=cz k.m 2 j:=by unfold cz;rw[hm1sp]
  have hj' : j<k.m.sl.length:=by rw[hMsl,List.length_set] at hj;exact hj
  have a3:lV M j=if j=s then (L:Int) else lV k.m j:=by
   have:=GK (m:=k.m) (x:=(L:Int)) hs j
   rw[←this]
   unfold lV setSl
   rw[hMsl]
  have a4:=h.cs j hj'
  rw[a3]
  by_cases e:j=s
  ·subst e
   rw[if_pos ⟨rfl,rfl⟩] at a1
   rw[if_pos rfl]
   omega
  ·rw[if_neg (fun h'=>e (by have h2:(j:Int)=(s:Int):=h'.2;omega))] at a1
   rw[if_neg e]
   omega
 ·rw[hMca] at he
  rw[hfrn _ (hck e he),hMst]
  exact hc.tail e he
 ·rw[hMca] at he
  rw[hfrn _ (hck e he)] at hed ⊢
  rw[hdisk]
  exact hc.clean e he hed
 ·by_cases e:i=f
  ·rw[hfr,if_pos e] at hid;cases hid
  ·rw[hfrn i e] at hid ⊢
   exact hc.anon i (by rw[←hlen];exact hi) hid
 ·rw[r5]
  show m1.m.hand=_
  rw[hm1fs]
 ·rw[hMca]
  constructor
  ·intro h1
   exact⟨h1,fun h2=>hck e h1 (by rw[h2];exact Int.toNat_natCast f)⟩
  ·exact fun h1=>h1.1
theorem Li {k:Kp} (h:Rt k.m) (hc:Co k.m) (hf:f<k.m.m.fs.length) (hr:(aO k.m f).r≠0) :
  if jF k.m f=true then (dN k f).e=k.e∧pI k.m (dN k f).m f else dN k f=k:=by
 unfold jF
 by_cases h0:0≤(aO k.m f).f
 ·rw[if_pos h0]
  by_cases hb:fO k.m f=true
  ·rw[if_pos hb];exact Fj h hc hf h0 hb
  ·rw[if_neg hb]
   unfold dN
   simp only
   rw[if_pos h0,if_pos (by simpa using hb)]
 ·rw[if_neg h0]
  by_cases hb:fo k.m.sl (aU k.m f).length=0
  ·rw[if_pos (by simpa using hb)];exact Fq h hc hf (by omega) hr hb
  ·rw[if_neg (by simpa using hb)]
   unfold dN
   simp only
   rw[if_neg h0,if_pos hb]
def uN (x y:Fr):Prop:=y.p=x.p∧y.r=x.r∧y.d=x.d∧y.f=x.f∧y.i=x.i
theorem uN.refl (x:Fr):uN x x:=⟨rfl,rfl,rfl,rfl,rfl⟩
theorem uN.trans {x y z:Fr} (h:uN x y) (k:uN y z):uN x z:=⟨k.1.trans h.1,k.2.1.trans h.2.1,k.2.2.1.trans h.2.2.1,k.2.2.2.1.trans h.2.2.2.1,k.2.2.2.2.trans h.2.2.2.2⟩
theorem Ps (h:Rt m) (hc:Co m) (hr:Rest m m') (hs:m'.sp=m.sp) (hw:bJ m'.m=0) (hl:m'.m.fs.length=m.m.fs.length) (hf:∀g,uN (aO m g) (aO m' g)):Rt m'∧Co m'∧GH m m':=by
 have hent:∀p n,ent m' p n=ent m p n:=fun p n=>by unfold ent dR;rw[hs]
 have hpg:∀p n,mi m' p n=mi m p n:=fun p n=>by unfold mi dR;rw[hs]
 have hca:∀i,rT m' i=rT m i:=fun i=>by unfold rT;rw[hr.ca]
 have hho:∀kd i,cz m' kd i=cz m kd i:=fun kd i=>by unfold cz;rw[hs]
 have hdisk:∀f i,gL m' f i=gL m f i:=fun f i=>by unfold gL;rw[hr.st,hr.dk]
 have hpt:Pt m':={ fr:=hw,sl:=by rw[hr.sl];exact h.pt.sl,sw:=by rw[hr.sw];exact h.pt.sw,dk:=by rw[hr.dk];exact h.pt.dk,st:=by rw[hr.st];exact h.pt.st,swl:=by rw[hr.sw,hr.sl];exact h.pt.swl,dkl:=by rw[hr.dk,hr.st];exact h.pt.dkl,spl:=by rw[hs];exact h.pt.spl,ar:=by rw[hs];exact h.pt.ar,tb:=by rw[hs];exact h.pt.tb }
 have hcaok:pX m':=⟨by rw[hr.ca,hr.st];exact h.ca.file,by rw[hr.ca,hl];exact h.ca.lt,fun c hcm=>by
  rw[hr.ca] at hcm
  have h1:=hf c.k.toNat
  rw[h1.2.1,h1.2.2.2.1,h1.2.2.2.2];exact h.ca.fr c hcm,by rw[hr.ca];exact h.ca.srt⟩
 have hcon:∀f i,bP m' f i=bP m f i:=by
  intro f i
  have hl:nP m' f i=nP m f i:=by unfold nP;rw[hr.ca]
  rw[lg,lg,hl]
  cases nP m f i with
  | none=>exact hdisk f i
  | some c=>exact (hf c.k.toNat).1
 have hfiles:nG m.st m'.st:=nG.of hr.st
 refine⟨⟨hpt,by rw[hr.dk,hr.st];exact h.trim,fun p hp => ?_,hcaok,fun p n hk => ?_,fun i hi => ?_,fun i hi h0 => ?_,fun s hs' => ?_⟩,⟨fun c hcm => ?_,fun c hcm hd => ?_,fun i hi hd => ?_⟩,?_⟩
 ·have:dR m' p=dR m p:=by unfold dR;rw[hs]
  rw[this] at hp ⊢
  exact⟨(h.live p hp).1,fun n=>by rw[hent];exact (h.live p hp).2 n⟩
 ·rw[hent] at hk ⊢
  obtain⟨g,hg,hfit⟩:=h.en p n hk
  refine⟨g,by rw[hpg];exact hg,by rw[hr.sl];exact hfit.sw,by rw[hl];exact hfit.lt,fun hk1 => ?_⟩
  have h1:=hfit.fr hk1
  have h2:=hf (ent m p n).n.toNat
  unfold Jr at h1 ⊢
  rw[h2.2.1,h2.2.2.2.1,h2.2.2.2.2]
  exact h1
 ·rw[(hf i).2.1,hca,hho];exact h.cf i (by rw[←hl];exact hi)
 ·rw[(hf i).2.2.2.1] at h0
  rw[hr.ca];exact h.fc i (by rw[←hl];exact hi) h0
 ·rw[hho]
  have:lV m' s=lV m s:=by unfold lV;rw[hr.sl]
  rw[this];exact h.cs s (by rw[←hr.sl];exact hs')
 ·rw[hr.ca] at hcm
  rw[(hf c.k.toNat).1,hr.st];exact hc.tail c hcm
 ·rw[hr.ca] at hcm
  rw[(hf c.k.toNat).2.2.1] at hd
  rw[(hf c.k.toNat).1,hdisk];exact hc.clean c hcm hd
 ·rw[(hf i).2.2.1] at hd
  rw[(hf i).2.2.2.1];exact hc.anon i (by rw[←hl];exact hi) hd
 ·refine BG h.pt (jk.of hs) hfiles (fun f i _=>hcon f i) fun p n g hg => ?_
  rw[hent]
  exact tX h.pt.st (h.pt.pg hg).1 hfiles (fun f i _=>hcon f i) (fun _=>⟨(hf _).1,(hf _).2.2.2.1⟩) (fun _=>by rw[hr.sw];exact⟨rfl,rfl⟩)
def mh (m:Ma) (x:Mem):Ma:={ m with m:=x }
theorem IY (hw:bJ m.m=0) (hk:0≤fV m.m):(fV m.m).toNat<m.m.fs.length∧(aO m (fV m.m).toNat).r≠0∧bJ (dU m.m)=0∧(dU m.m).fs.length=m.m.fs.length∧∀g,uN (aO m g) (aO (mh m (dU m.m)) g):=by
 have hf:jK m.m.fs≠m.m.fs.length:=fun e=>by unfold fV at hk;rw[if_neg (by rw[hw];simp),if_pos e] at hk;omega
 obtain⟨hS1,hS2,hS3⟩:=Kc m.m hw hf
 have hM:dU m.m=⟨kL m.m (fB m.m),(gH m.m (fB m.m+1):Nat)⟩:=by unfold dU;rw[if_neg (by rw[hw];simp),if_neg hf]
 have hK:fV m.m=(gH m.m (fB m.m):Nat):=by unfold fV;rw[if_neg (by rw[hw];simp),if_neg hf]
 have hpos:0<m.m.fs.length:=by
  rcases Nat.eq_zero_or_pos m.m.fs.length with h0|h0
  ·exact absurd (by have:=yl m.m.fs;omega) hf
  ·exact h0
 have hlt:=kY hpos (fB m.m)
 have hlt2:=kY hpos (fB m.m+1)
 obtain⟨w1,w2,w3,w4⟩:=(dB _).1 hw
 rw[hK,hM,Int.toNat_natCast]
 refine⟨hlt,?_,(dB _).2 ⟨by simp only;rw[gu];exact w1,fun x hx => ?_,by simp only;omega,by simp only;rw[gu];omega⟩,gu _ _,fun g => ?_⟩
 ·unfold qD at hS2
  simp only[Bool.and_eq_true,decide_eq_true_eq] at hS2
  have h1:(aO m (gH m.m (fB m.m))).r=(m.m.fs.getD (gH m.m (fB m.m)) fr0).r:=rfl
  rw[h1];omega
 ·obtain⟨i,hi,rfl⟩:=List.mem_iff_getElem.1 hx
  simp only at hi ⊢
  rw[gu] at hi
  rw[pU m.m _ i hi]
  have h3:=w2 m.m.fs[i] (List.getElem_mem hi)
  split
  ·rw[fP] at h3 ⊢
   exact⟨h3.1,fun e=>⟨rfl,(h3.2.1 e).2.1,(h3.2.1 e).2.2.1,(h3.2.1 e).2.2.2⟩,h3.2.2⟩
  ·exact h3
 ·rcases Nat.lt_or_ge g m.m.fs.length with hg|hg
  ·have e1:aO (mh m ⟨kL m.m (fB m.m),(gH m.m (fB m.m+1):Nat)⟩) g=(kL m.m (fB m.m))[g]'(by rw[gu];exact hg):=by
    show (kL m.m (fB m.m)).getD g fr0=_
    rw[List.getD_eq_getElem?_getD,List.getElem?_eq_getElem (by rw[gu];exact hg)];rfl
   have e2:aO m g=m.m.fs[g]:=by
    have:=rW hg
    rw[List.getElem?_eq_getElem hg] at this
    exact (Option.some.inj this).symm
   rw[e1,e2,pU m.m _ g hg]
   split
   ·exact⟨rfl,rfl,rfl,rfl,rfl⟩
   ·exact .refl _
  ·have e1:aO (mh m ⟨kL m.m (fB m.m),(gH m.m (fB m.m+1):Nat)⟩) g=fr0:=Gt (m:=mh m ⟨kL m.m (fB m.m),(gH m.m (fB m.m+1):Nat)⟩) (by show (kL m.m (fB m.m)).length≤g;rw[gu];exact hg)
   rw[e1,Gt hg];exact .refl _
structure yn (m m' : Ma) (o:Option Nat):Prop where
 rt:Rt m'
 co:Co m'
 vis:GH m m'
 len:m'.m.fs.length=m.m.fs.length
 sll:m'.sl.length=m.sl.length
 fr:∀g,o≠some g→uN (aO m g) (aO m' g)
 free:∀f,o=some f→f<m.m.fs.length∧aO m' f=frZ∧(aO m f).r≠0
 ents:∀p n,((ent m p n).k=1→o≠some (ent m p n).n.toNat)→ent m' p n=ent m p n
 cas:∀c,c∈m'.ca↔c∈m.ca∧o≠some c.k.toNat
 inv:Inv m m'
theorem yn.refl (h:Rt m) (hc:Co m):yn m m none:=⟨h,hc,.refl m,rfl,rfl,fun _ _ => .refl _,(fun _ e=>by cases e),fun _ _ _=>rfl,fun c=>⟨fun h=>⟨h,by simp⟩,fun h=>h.1⟩,.refl m⟩
theorem reclaimN_ok:∀(t:Nat) (k:Kp),Rt k.m→Co k.m→(reclaimN t k).1.e=k.e∧∃o,yn k.m (reclaimN t k).1.m o∧((reclaimN t k).2=true↔o≠none)
 | 0,k,h,hc=>⟨rfl,none,yn.refl h hc,by simp[reclaimN]⟩
 | t+1,k,h,hc=>by
  have hw:=h.pt.fr
  have hmust:gW k.e (bJ k.m.m)=k.e:=by rw[hw];unfold gW;split<;>simp_all
  by_cases hn:fV k.m.m<0
  ·have hd:reclaimN (t+1) k=(k,false):=by
    unfold reclaimN
    rw[if_pos (.inr hn),hmust]
   rw[hd]
   exact⟨rfl,none,yn.refl h hc,by simp⟩
  ·obtain⟨n1,n2,n3,n4,n5⟩:=IY hw (by omega:0≤fV k.m.m)
   have hd:reclaimN (t+1) k=if jF (mh k.m (dU k.m.m)) (fV k.m.m).toNat=true then (dN ⟨mh k.m (dU k.m.m),k.e⟩ (fV k.m.m).toNat,true) else reclaimN t (dN ⟨mh k.m (dU k.m.m),k.e⟩ (fV k.m.m).toNat):=by
    conv=>lhs;unfold reclaimN
    rw[if_neg (by rintro (e | e);exact e hw;exact hn e)]
    rfl
   generalize hF:(fV k.m.m).toNat=F at *
   obtain⟨hr1,hc1,hv1⟩:=Ps (m:=k.m) (m':=mh k.m (dU k.m.m)) h hc ⟨rfl,rfl,rfl,rfl,rfl⟩ rfl n3 n4 n5
   have hi1:Inv k.m (mh k.m (dU k.m.m)):=OH.inv (.of rfl rfl fun c hcm _=>⟨hcm,(n5 _).2.2.1,(n5 _).1⟩) h hc hr1 hc1
   have hF1:F<(mh k.m (dU k.m.m)).m.fs.length:=by show F<(dU k.m.m).fs.length;rw[n4];exact n1
   have hfr1:(aO (mh k.m (dU k.m.m)) F).r≠0:=by rw[(n5 F).2.1];exact n2
   have hev:=Li (k:=⟨mh k.m (dU k.m.m),k.e⟩) hr1 hc1 hF1 hfr1
   rw[hd]
   by_cases hb:jF (mh k.m (dU k.m.m)) F=true
   ·rw[if_pos hb] at hev
    obtain⟨he,hE⟩:=hev
    rw[if_pos hb]
    refine⟨he,some F,⟨hE.rt,hE.co,hv1.trans hE.vis,hE.len.trans n4,hE.sll,fun g hg => ?_,fun f e => ?_,fun p n hne => ?_,fun c => ?_,hi1.trans (hE.inv hr1 hc1 hF1)⟩,by simp⟩
    ·have hne:g≠F:=fun e=>hg (by rw[e])
     exact (n5 g).trans (by rw[hE.oth g hne];exact .refl _)
    ·cases e
     exact⟨n1,hE.free,n2⟩
    ·exact hE.ents p n (fun e=>by
      have h2:((ent k.m p n).n:Int)=F:=e.2
      exact hne e.1 (by rw[h2,Int.toNat_natCast]))
    ·refine (hE.cas c).trans ⟨fun h1=>⟨h1.1,fun e=>h1.2 ?_⟩,fun h1=>⟨h1.1,fun e=>h1.2 (by rw[e,Int.toNat_natCast])⟩⟩
     have:=(h.ca.lt c h1.1).1
     simp only[Option.some.injEq] at e
     omega
   ·rw[if_neg hb] at hev
    rw[if_neg hb,hev]
    obtain⟨i1,o,hI,i2⟩:=reclaimN_ok t ⟨mh k.m (dU k.m.m),k.e⟩ hr1 hc1
    refine⟨i1,o,⟨hI.rt,hI.co,hv1.trans hI.vis,hI.len.trans n4,hI.sll,fun g hg=>(n5 g).trans (hI.fr g hg),fun f e => ?_,hI.ents,hI.cas,hi1.trans hI.inv⟩,i2⟩
    obtain⟨a1,a2,a3⟩:=hI.free f e
    refine⟨?_,a2,?_⟩
    ·have a1:f<(mh k.m (dU k.m.m)).m.fs.length:=a1
     have:(mh k.m (dU k.m.m)).m.fs.length=k.m.m.fs.length:=n4
     omega
    ·rw[(n5 f).2.1] at a3;exact a3
theorem yw {k:Kp} (h:Rt k.m) (hc:Co k.m):(dG k).1.e=k.e∧∃o,yn k.m (dG k).1.m o∧((dG k).2=true↔o≠none):=reclaimN_ok _ k h hc
theorem GM (p:Page) (n:Int):dS (dS p n) n=dS p n:=by
 apply Vector.ext
 intro i hi
 simp only[dS,Vector.getElem_ofFn]
 split<;>rfl
theorem ML (n:Int):dS zPg n=zPg:=by
 apply Vector.ext
 intro i hi
 simp only[dS,Vector.getElem_ofFn]
 have hz:zPg[i]=0:=by
  match i,hi with
  | 0,_=>rfl
  | 1,_=>rfl
  | 2,_=>rfl
  | 3,_=>rfl
  | 4,_=>rfl
  | 5,_=>rfl
  | 6,_=>rfl
  | 7,_=>rfl
  | n+8,h=>omega
 split<;>rw[hz]
theorem Jy (m:Ma) (f i:Int):dS (gL m f i) ((aT m.st f).n-i*8)=gL m f i:=by
 unfold gL
 split
 ·exact GM _ _
 ·exact ML _
theorem xO {f i k:Int}:∀ {l:List Cc},l.Pairwise yQ→(∀c∈l,¬(c.f=f∧c.i=i))→(l.insertIdx (rR l f i) ⟨f,i,k⟩).Pairwise yQ
 | [],_,_=>by simp[rR]
 | c::l,hs,hno=>by
  obtain⟨h1,h2⟩:=List.pairwise_cons.1 hs
  have hnc:=hno c List.mem_cons_self
  by_cases hg:vv f i c=true
  ·have:rR (c::l) f i=0:=by unfold rR;rw[List.findIdx?_cons,if_pos hg];rfl
   rw[this,List.insertIdx_zero]
   have hlt:yQ ⟨f,i,k⟩ c:=by
    have:=qO.1 hg
    unfold yQ
    simp only
    omega
   refine List.pairwise_cons.2 ⟨fun d hd => ?_,hs⟩
   rcases List.mem_cons.1 hd with rfl|hd
   ·exact hlt
   ·have:=h1 d hd
    unfold yQ at this hlt ⊢
    omega
  ·have:rR (c::l) f i=rR l f i+1:=by
    unfold rR
    rw[List.findIdx?_cons,if_neg hg]
    cases l.findIdx? (vv f i)<;>rfl
   rw[this,List.insertIdx_succ_cons]
   refine List.pairwise_cons.2 ⟨fun d hd => ?_,xO h2 fun d hd=>hno d (List.mem_cons_of_mem _ hd)⟩
   rcases (List.mem_insertIdx (LC l f i)).1 hd with rfl|hd
   ·have:¬(f<c.f∨c.f=f∧i≤c.i):=fun h=>hg (qO.2 h)
    unfold yQ
    simp only
    omega
   ·exact h1 d hd
theorem rO {α:Type} (q:α→Bool) (x:α):∀(l:List α) (j:Nat),j≤l.length→(l.insertIdx j x).countP q=l.countP q+qp (q x)
 | l,0,_=>by rw[List.insertIdx_zero,List.countP_cons];rfl
 | [],j+1,h=>by simp at h
 | a::l,j+1,h=>by
  rw[List.insertIdx_succ_cons,List.countP_cons,List.countP_cons,rO q x l j (by simpa using h)]
  omega
theorem firstE_zero:∀ {l:List Int},firstE l=0↔∀x∈l,x=0
 | []=>by simp[firstE]
 | x::l=>by
  unfold firstE
  by_cases hx:x=0
  ·rw[if_pos hx,firstE_zero]
   constructor
   ·intro h y hy
    rcases List.mem_cons.1 hy with e|hy
    ·rw[e,hx]
    ·exact h y hy
   ·exact fun h y hy=>h y (List.mem_cons_of_mem _ hy)
  ·rw[if_neg hx]
   exact⟨fun h=>absurd h hx,fun h=>absurd (h x List.mem_cons_self) hx⟩
theorem jX {p:Prop} [Decidable p] {a b:Int} (ha:a≠0):(if p then a else b)=0↔¬p∧b=0:=by
 by_cases h:p
 ·rw[if_pos h];exact⟨fun h'=>absurd h' ha,fun h'=>absurd h h'.1⟩
 ·rw[if_neg h];exact⟨fun h'=>⟨h,h'⟩,fun h'=>h'.2⟩
theorem jR {a b:Int}:(if a≠0 then a else b)=0↔a=0∧b=0:=by
 by_cases h:a=0
 ·rw[if_neg (fun h'=>h' h)];exact⟨fun h'=>⟨h,h'⟩,fun h'=>h'.2⟩
 ·rw[if_pos h];exact⟨fun h'=>absurd h' h,fun h'=>absurd h'.1 h⟩
theorem vW {s:Sp}:iw s=0↔(bF s.ar).1=0∧cZ s.tb=0∧(s.lv=false→s.ar=[]∧∀n,(dn s.tb n).k=0):=by
 unfold iw
 rw[jR,jR,jX (by decide)]
 refine and_congr_right fun _=>and_congr_right fun _ => ?_
 constructor
 ·rintro⟨h,_⟩ hl
  have h1:s.ar.length+(aI s.tb).length=0:=by
   rcases Nat.eq_zero_or_pos (s.ar.length+(aI s.tb).length) with h0|h0
   ·exact h0
   ·exact absurd ⟨hl,h0⟩ h
  refine⟨List.eq_nil_of_length_eq_zero (by omega),fun n => ?_⟩
  by_cases hn:0≤n∧n<64
  ·have h2:aI s.tb=[]:=List.eq_nil_of_length_eq_zero (by omega)
   by_cases hk:(dn s.tb n).k=0
   ·exact hk
   ·have:=lm.2 ⟨hn,hk⟩
    rw[h2] at this;cases this
  ·rw[mW (by omega)];rfl
 ·refine fun h=>⟨?_,rfl⟩
  rintro⟨hl,h0⟩
  obtain⟨h1,h2⟩:=h hl
  have h3:aI s.tb=[]:=by
   rw[List.eq_nil_iff_forall_not_mem]
   intro n hn
   exact (lm.1 hn).2 (h2 n)
  rw[h1,h3] at h0
  exact absurd h0 (by simp)
theorem Aj :trimB m=true↔(∀b:Int,0≤b→b<m.dk.blocks.length→b∈iU m.st∨m.dk.blocks.getD b.toNat zPg=zPg)∧∀q∈m.dk.queue,q.1∈iU m.st:=by
 unfold trimB
 rw[Bool.and_eq_true,List.all_eq_true,List.all_eq_true]
 refine and_congr ⟨fun h b h0 hb => ?_,fun h b hb => ?_⟩ ⟨fun h q hq=>by simpa using h q hq,fun h q hq=>by simpa using h q hq⟩
 ·have:=h b.toNat (List.mem_range.2 (by omega))
  rw[Int.toNat_of_nonneg h0] at this
  simpa using this
 ·have:=h (b:Int) (by omega) (by have:=List.mem_range.1 hb;omega)
  simpa using this
theorem qL :fA m=0↔Pt m∧trimB m=true∧∀s∈m.sp,s.lv=false→s.ar=[]∧∀n,(dn s.tb n).k=0:=by
 unfold fA
 rw[jR,jR,jR,jR,jR,jX (by decide),jX (by decide),firstE_zero]
 constructor
 ·rintro⟨h1,h2,h3,h4,h5,h6,h7,h8⟩
  have h9:∀s∈m.sp,_:=fun s hs=>vW.1 (h8 _ (List.mem_map_of_mem hs))
  refine⟨⟨h1,h2,h3,h4,h5,?_,?_,by omega,fun s hs=>(h9 s hs).1,fun s hs=>(h9 s hs).2.1⟩,?_,fun s hs=>(h9 s hs).2.2⟩
  ·exact Classical.byContradiction fun h=>h6 (.inl h)
  ·exact Classical.byContradiction fun h=>h6 (.inr (.inl h))
  ·cases h:trimB m with
   | true=>rfl
   | false=>exact absurd (.inr (.inr h)) h6
 ·rintro⟨h,ht,hl⟩
  refine⟨h.fr,h.sl,h.sw,h.dk,h.st,?_,by have:=h.spl;omega,?_⟩
  ·rintro (h1|h1|h1)
   ·exact h1 h.swl
   ·exact h1 h.dkl
   ·rw[ht] at h1;cases h1
  ·intro x hx
   obtain⟨s,hs,rfl⟩:=List.mem_map.1 hx
   exact vW.2 ⟨h.ar s hs,h.tb s hs,hl s hs⟩
theorem qE {p:Option Cc} {c:Cc}:oo m p c=0↔(tK m.st c.f c.i∧0≤c.k∧c.k<m.m.fs.length)∧(1≤(aO m c.k.toNat).r∧(aO m c.k.toNat).f=c.f∧(aO m c.k.toNat).i=c.i)∧∀q,p=some q→yQ q c:=by
 have hfr:mM m c.k=aO m c.k.toNat:=rfl
 unfold oo
 rw[jX (by decide),jX (by decide),hfr]
 refine and_congr ⟨fun h=>⟨⟨by omega,by omega⟩,by omega⟩,fun h=>by obtain⟨⟨_,_⟩,_⟩:=h;omega⟩ (and_congr ⟨fun h=>by omega,fun h=>by omega⟩ ?_)
 cases p with
 | none=>simp
 | some q=>
  simp only[Option.some.injEq,forall_eq']
  rw[jX (by decide)]
  unfold yQ
  omega
theorem AP {l:List Cc} (h:∀k (hk:k+1<l.length),yQ (l[k]'(by omega)) l[k+1]):l.Pairwise yQ:=by
 induction l with
 | nil=>exact List.Pairwise.nil
 | cons a l ih=>
  have ih:=ih fun k hk=>h (k+1) (by simpa using hk)
  refine List.pairwise_cons.2 ⟨?_,ih⟩
  cases l with
  | nil=>simp
  | cons b l=>
   have h0:yQ a b:=h 0 (by simp)
   intro c hc
   rcases List.mem_cons.1 hc with e|hc
   ·rw[e];exact h0
   ·have h1:=(List.pairwise_cons.1 ih).1 c hc
    unfold yQ at *; omega
theorem uh :cachedE m=0↔pX m:=by
 unfold cachedE
 rw[firstE_zero]
 constructor
 ·intro h
  have h1:∀k (hk:k<m.ca.length),oo m (rU m.ca k) m.ca[k]=0:=fun k hk=>by
   have:=h _ (List.mem_map_of_mem (List.mem_range.2 hk))
   rw[List.getD_eq_getElem?_getD,List.getElem?_eq_getElem hk] at this
   exact this
  have h2:∀c∈m.ca,(tK m.st c.f c.i∧0≤c.k∧c.k<m.m.fs.length)∧(1≤(aO m c.k.toNat).r∧(aO m c.k.toNat).f=c.f∧(aO m c.k.toNat).i=c.i):=fun c hc=>by
   obtain⟨k,hk,rfl⟩:=List.mem_iff_getElem.1 hc
   have:=qE.1 (h1 k hk)
   exact⟨this.1,this.2.1⟩
  refine⟨fun c hc=>(h2 c hc).1.1,fun c hc=>(h2 c hc).1.2,fun c hc=>(h2 c hc).2,AP fun k hk => ?_⟩
  refine (qE.1 (h1 (k+1) hk)).2.2 _ ?_
  unfold rU
  rw[if_neg (by omega),Nat.add_sub_cancel,List.getElem?_eq_getElem]
 ·intro h x hx
  obtain⟨k,hk,rfl⟩:=List.mem_map.1 hx
  have hk:=List.mem_range.1 hk
  rw[List.getD_eq_getElem?_getD,List.getElem?_eq_getElem hk,Option.getD_some]
  have hm:m.ca[k]∈m.ca:=List.getElem_mem hk
  refine qE.2 ⟨⟨h.file _ hm,h.lt _ hm⟩,h.fr _ hm,fun q hq => ?_⟩
  unfold rU at hq
  split at hq
  ·cases hq
  ·rw[List.getElem?_eq_getElem (by omega)] at hq
   rw[←Option.some.inj hq]
   exact List.pairwise_iff_getElem.1 h.srt _ _ (by omega) hk (by omega)
theorem yG (hp:Pt m) {n:Int} (hk:(ent m p n).k≠0):bD m (dR m p) n=0↔∃g,mi m p n=some g∧OU m g (ent m p n):=by
 have hE:=(bV _).1 (nX hp p n)
 unfold bD
 rw[jX (by decide)]
 have hon:=Av (dR m p).ar n
 constructor
 ·rintro⟨h1,h2⟩
  obtain⟨h3,h4⟩:=Gv (l:=(dR m p).ar) (n:=n) (by omega)
  refine⟨_,h3,?_⟩
  generalize (dR m p).ar.getD (iW (dR m p).ar n).toNat zAr=a at *
  have he:dn (dR m p).tb n=ent m p n:=rfl
  rw[he] at h2
  generalize ent m p n=e at *
  simp only at h2
  by_cases h5:e.k=2
  ·rw[if_pos h5,jX (by decide)] at h2
   refine⟨fun _=>⟨by omega,?_⟩,fun h=>by omega,fun h=>by omega⟩
   show a.sh=false
   cases hs:a.sh with
   | false=>rfl
   | true=>exact absurd (.inr hs) h2.1
  ·rw[if_neg h5,jX (by decide),jX (by decide),jX (by decide)] at h2
   have hfr:mM m e.n=aO m e.n.toNat:=rfl
   rw[hfr] at h2
   obtain⟨h6,h7,h8,_⟩:=h2
   refine⟨fun h=>absurd h h5,fun _=>by omega,fun _ => ?_⟩
   show Jr (aO m e.n.toNat) (iJ a n) e.w
   generalize aO m e.n.toNat=f at *
   have hof:0≤f.f→(0≤a.fi∧f.f=a.fi∧f.i=a.ba+n-a.fr):=fun h0=>by
    refine Classical.byContradiction fun hn=>h7 (.inl ⟨h0,?_⟩)
    rw[Bool.eq_false_iff]
    simp only[ne_eq,Bool.and_eq_true,decide_eq_true_eq]
    exact fun h=>hn ⟨h.1.1,h.1.2,h.2⟩
   refine⟨fun h0 => ?_,fun hs => ?_,fun hw => ?_,fun hw h0 => ?_,fun hw h0 => ?_⟩
   ·obtain⟨k1,k2,k3⟩:=hof h0
    refine⟨k2,?_⟩
    unfold iJ
    simp only
    rw[if_pos k1];exact k3
   ·refine Classical.byContradiction fun hn=>h7 (.inr (.inl ⟨hs,?_⟩))
    rw[Bool.eq_false_iff]
    simp only[ne_eq,Bool.and_eq_true,decide_eq_true_eq]
    exact fun h=>by omega
   ·show a.wr=true
    cases hs:a.wr with
    | true=>rfl
    | false=>exact absurd (.inr (.inr (.inr ⟨hw,hs⟩))) h7
   ·show a.sh=true
    cases hs:a.sh with
    | true=>rfl
    | false=>
     refine absurd (.inr (.inr (.inl ⟨hs,?_,hw⟩))) h7
     have:=hof h0
     simp only[Bool.and_eq_true,decide_eq_true_eq]
     exact⟨⟨this.1,this.2.1⟩,this.2.2⟩
   ·exact Classical.byContradiction fun hn=>h8 ⟨h0,hw,by omega⟩
 ·rintro⟨g,hg,hf⟩
  have hne:onA (dR m p).ar n≠none:=by
   have:mi m p n=onA (dR m p).ar n:=rfl
   rw[←this,hg];exact fun h=>by cases h
  have h1:=hon.2 hne
  refine⟨by omega,?_⟩
  obtain⟨h3,h4⟩:=Gv (l:=(dR m p).ar) (n:=n) h1
  have hg' : g=iJ ((dR m p).ar.getD (iW (dR m p).ar n).toNat zAr) n:=by
   have:mi m p n=onA (dR m p).ar n:=rfl
   rw[this,h3] at hg
   exact (Option.some.inj hg).symm
  subst hg'
  generalize (dR m p).ar.getD (iW (dR m p).ar n).toNat zAr=a at *
  have he:dn (dR m p).tb n=ent m p n:=rfl
  rw[he]
  generalize ent m p n=e at *
  simp only
  by_cases h5:e.k=2
  ·obtain⟨k1,k2⟩:=hf.sw h5
   have k2:a.sh=false:=k2
   rw[if_pos h5,jX (by decide)]
   refine⟨?_,rfl⟩
   rintro (h|h)
   ·omega
   ·rw[k2] at h;cases h
  ·have h1:e.k=1:=by omega
   have k1:=hf.lt h1
   obtain⟨f1,f2,f3,f4,f5⟩:=hf.fr h1
   have hfr:mM m e.n=aO m e.n.toNat:=rfl
   rw[if_neg h5,jX (by decide),jX (by decide),jX (by decide),hfr]
   generalize aO m e.n.toNat=f at *
   have f2:a.sh=true→0≤f.f:=f2
   have f3:e.w=true→a.wr=true:=f3
   have f4:e.w=true→0≤f.f→a.sh=true:=f4
   have hof:0≤f.f→(decide (0≤a.fi)&&decide (f.f=a.fi)&&decide (f.i=a.ba+n-a.fr))=true:=fun h0=>by
    obtain⟨k2,k3⟩:=f1 h0
    have k2:f.f=a.fi:=k2
    unfold iJ at k3
    simp only at k3
    rw[if_pos (by omega)] at k3
    simp only[Bool.and_eq_true,decide_eq_true_eq]
    exact⟨⟨by omega,k2⟩,k3⟩
   have hof' : (decide (0≤a.fi)&&decide (f.f=a.fi)&&decide (f.i=a.ba+n-a.fr))=true→0≤f.f:=fun h=>by
    simp only[Bool.and_eq_true,decide_eq_true_eq] at h
    omega
   generalize (decide (0≤a.fi)&&decide (f.f=a.fi)&&decide (f.i=a.ba+n-a.fr))=of at *
   refine⟨by omega,?_,?_,rfl⟩
   ·rintro (⟨k2,k3⟩|⟨k2,k3⟩|⟨k2,k3,k4⟩|⟨k2,k3⟩)
    ·rw[hof k2] at k3;cases k3
    ·rw[hof (f2 k2)] at k3;cases k3
    ·rw[f4 k4 (hof' k3)] at k2;cases k2
    ·rw[f3 k2] at k3;cases k3
   ·rintro⟨k2,k3,k4⟩
    have:=f5 k3 k2
    omega
theorem ug (hp:Pt m):jN m=0↔∀p n,(ent m p n).k≠0→∃g,mi m p n=some g∧OU m g (ent m p n):=by
 unfold jN
 rw[firstE_zero]
 constructor
 ·intro h p n hk
  have hp' : p<m.sp.length:=Classical.byContradiction fun hn=>hk (by unfold ent;rw[mr (by omega)];have:dn zSp.tb n=zEn:=tN n;rw[this];rfl)
  have hn:0≤n∧n<64:=Classical.byContradiction fun hn=>hk (by rw[FZ p (by omega)];rfl)
  refine (yG hp hk).1 (h _ (List.mem_flatMap.2 ⟨dR m p,wW hp',List.mem_map_of_mem (lm.2 ⟨hn,hk⟩)⟩))
 ·intro h x hx
  obtain⟨s,hs,hx⟩:=List.mem_flatMap.1 hx
  obtain⟨n,hn,rfl⟩:=List.mem_map.1 hx
  obtain⟨p,hp',rfl⟩:=Gu hs
  have hk:=(lm.1 hn).2
  exact (yG hp hk).2 (h p n hk)
theorem LU (t:Tb) (i:Int):cnt (kQ t (aI t)) i=(eQ t).countP (qW 1 i):=by
 rw[←yx (show (1:Int)≠0 by decide)]
 unfold cnt kQ kW mf
 rw[List.countP_map,List.countP_filter,←List.countP_eq_length_filter]
 congr 1
 funext n
 simp only[Function.comp_apply,Bool.not_or]
 rw[Bool.eq_iff_iff]
 simp only[Bool.and_eq_true,Bool.not_eq_true',decide_eq_false_iff_not,Classical.not_not,decide_eq_true_eq]
 exact and_comm
theorem Kw {t:Tb} (h:cZ t=0) (i:Int):cnt (swapT t (aI t)) i=(eQ t).countP (qW 2 i):=by
 rw[←yx (show (2:Int)≠0 by decide)]
 unfold cnt swapT kW mf
 rw[List.countP_map,List.countP_filter,←List.countP_eq_length_filter]
 refine List.countP_congr fun n hn => ?_
 have hE:=(bV _).1 (qJ h n)
 have hk:=(lm.1 hn).2
 simp only[Function.comp_apply,Bool.not_or,Bool.and_eq_true,Bool.not_eq_true',decide_eq_false_iff_not,Classical.not_not,decide_eq_true_eq]
 constructor
 ·rintro⟨h1,h2⟩;exact⟨by omega,h1⟩
 ·rintro⟨h1,h2⟩;exact⟨h2,by omega⟩
theorem uA (l r:List Int) (i:Int):cnt (l++r) i=cnt l i+cnt r i:=by unfold cnt;rw[List.countP_append]
theorem yO {α:Type} (g:α→List Int) (i:Int):∀l:List α,cnt (l.flatMap g) i=(l.map fun s=>cnt (g s) i).sum
 | []=>rfl
 | a::l=>by rw[List.flatMap_cons,uA,yO g i l,List.map_cons,List.sum_cons]
theorem Dh (m:Ma) (i:Int):cnt (mO m) i=rT m i+cz m 1 i:=by
 unfold mO
 rw[uA,yO]
 congr 1
 ·unfold cnt rT
  rw[List.countP_map];rfl
 ·unfold cz
  congr 1
  exact List.map_congr_left fun s _=>LU s.tb i
theorem Aa (hp:Pt m) (i:Int):cnt (lL m) i=cz m 2 i:=by
 unfold lL cz
 rw[yO]
 congr 1
 exact List.map_congr_left fun s hs=>Kw (hp.tb s hs) i
theorem yf (hp:Pt m):countB m=true↔(∀i:Nat,i<m.m.fs.length→(aO m i).r=rT m i+cz m 1 i)∧(∀i:Nat,i<m.m.fs.length→0≤(aO m i).f→∃c∈m.ca,c.k=i)∧∀s:Nat,s<m.sl.length→lV m s=cz m 2 s:=by
 unfold countB
 rw[Bool.and_eq_true,List.all_eq_true,decide_eq_true_eq]
 constructor
 ·rintro⟨h1,h2⟩
  have h1:∀i:Nat,i<m.m.fs.length→_:=fun i hi=>h1 i (List.mem_range.2 hi)
  simp only[Bool.and_eq_true,decide_eq_true_eq,Bool.or_eq_true,List.any_eq_true,Dh,ut] at h1
  refine⟨fun i hi=>by rw[(h1 i hi).1];omega,fun i hi h0 => ?_,fun s hs => ?_⟩
  ·rcases (h1 i hi).2 with h|⟨c,hc,hk⟩
   ·have h:(aO m i).f<0:=of_decide_eq_true h
    omega
   ·exact⟨c,hc,hk⟩
  ·have:lV m s=(iQ m.sl.length (lL m)).getD s 0:=by rw[←h2];rfl
   rw[this]
   unfold iQ
   rw[List.getD_eq_getElem?_getD,List.getElem?_map,List.getElem?_range hs]
   show ((cnt (lL m) s:Nat):Int)=_
   rw[Aa hp]
 ·rintro⟨h1,h2,h3⟩
  refine⟨fun i hi => ?_,?_⟩
  ·have hi:=List.mem_range.1 hi
   simp only[Bool.and_eq_true,decide_eq_true_eq,Bool.or_eq_true,List.any_eq_true,Dh,ut]
   refine⟨by rw[h1 i hi];omega,?_⟩
   by_cases h0:0≤(aO m i).f
   ·obtain⟨c,hc,hk⟩:=h2 i hi h0
    exact .inr ⟨c,hc,hk⟩
   ·exact .inl (decide_eq_true (show (aO m i).f<0 by omega))
  ·apply List.ext_getElem
   ·unfold iQ;simp
   ·intro s k1 k2
    have:=h3 s k1
    have e2:(iQ m.sl.length (lL m))[s]'k2=((cnt (lL m) (s:Int):Nat):Int):=by simp[iQ]
    rw[e2,Aa hp,←this]
    unfold lV
    rw[List.getD_eq_getElem?_getD,List.getElem?_eq_getElem k1];rfl
theorem Aw :iB m=0↔Rt m:=by
 unfold iB
 rw[jR,jR,jR,qL,uh]
 constructor
 ·rintro⟨⟨hp,ht,hl⟩,hc,he,hb⟩
  have hb:countB m=true:=by
   cases h:countB m with
   | true=>rfl
   | false=>rw[h] at hb;exact absurd hb (by decide)
  obtain⟨b1,b2,b3⟩:=(yf hp).1 hb
  refine⟨hp,Aj.1 ht,fun p hp' => ?_,hc,(ug hp).1 he,b1,b2,b3⟩
  rcases Nat.lt_or_ge p m.sp.length with h|h
  ·exact hl _ (wW h) hp'
  ·rw[mr h]
   refine⟨rfl,fun n => ?_⟩
   unfold ent
   rw[mr h]
   have:dn zSp.tb n=zEn:=tN n
   rw[this];rfl
 ·intro h
  refine⟨⟨h.pt,Aj.2 h.trim,fun s hs hlv => ?_⟩,h.ca,(ug h.pt).2 h.en,?_⟩
  ·obtain⟨p,hp,rfl⟩:=Gu hs
   exact h.live p hlv
  ·rw[if_pos ((yf h.pt).2 ⟨h.cf,h.fc,h.cs⟩)]
end Go.Proofs.YtjkkoeijlhfneaaGreat