import Derived.Test.YtjkkoeijlhfneaaGreatU2
import Derived.BigQuiet
import Derived.Deep.DeepCutAuto
import Derived.Deep.QuietTactic
import Derived.IntWalk
import Derived.Test.YtjkkoeijlhfneaaGreatRows
import Derived.BigRegion
import Derived.Deep.OwnRows
set_option linter.unusedSimpArgs false
set_option linter.unusedVariables false
set_option maxHeartbeats 4000000
set_option maxRecDepth 100000
namespace Go.Proofs.YtjkkoeijlhfneaaGreat
open Go.RowKit Pw
theorem uH (l:List Int) (a:Option Addr) (c:Nat) (w:World) (hle:l.length≤c) (hnil:a=none→c=0) (hrd:cZ w a (l.map dL)) (hb:l.length*8≤140737488355328) :
  Calls Tryz.prog 74 #[.slice a l.length c] w fun e w' => ∃v,e = .returned v∧Own w' w.heap.size 3 1 v l.length (l.map dL)∧Below w.heap.size w w':=by
 cases a with
 | none=>
  have h0:=hnil rfl
  have hl:l=[]:=List.eq_nil_of_length_eq_zero (by omega)
  subst hl
  subst h0
  have hq:=fun W=>Lib.run_eql_slice_nil (P:=Tryz.prog) W 30 _ none 0 0 0 0 Tryz.underlying30
  go_enter Tryz.func74,Tryz.ntmps74
  go_wp2
  go_ret
  exact⟨_,rfl,by simpa using Own.nil _ _ _ _,Below.refl _ _⟩
 | some ad=>
  have hq:=fun W=>Lib.run_eql_slice_nil (P:=Tryz.prog) W 30 _ (some ad) l.length c 0 0 Tryz.underlying30
  go_enter Tryz.func74,Tryz.ntmps74
  go_wp2_with (at_builtin;go_must (refine eu rfl _ _ 30 rfl w.heap.size 3 (.int .i64 0) 1 8 Tryz.underlying30 int_info rfl (by decide) _ 0 [] rfl ?own (some ad) l.length c (l.map dL) rfl (fun h=>(by cases h)) hle (Bf l) ?rd (Ba l) (by unfold maxLen;omega) (by simpa using hb) ?bb ?k))
  case own=>exact⟨rfl,.inr ⟨w.heap.size,0,0,#[],rfl,Nat.le_refl _,aF.new _ _ _,Nat.le_refl _,Nat.zero_le _,by simp,fun j u h=>by simp at h⟩⟩
  case rd=>exact hrd.below ((Below.refl _ _).alloc (Nat.le_refl _) _)
  case bb=>exact dR _ _
  intro v w1 hown hgr
  go_wp2
  go_ret
  exact⟨v,rfl,by simpa using hown,((Below.refl _ _).alloc (Nat.le_refl _) _).grown hgr (dR _ _) (fun k hk=>by cases hk;exact Nat.le_refl _)⟩
theorem LF (n:Int) (w:World):Calls Tryz.prog 132 #[.int .i64 n] w fun e w'=>e = .returned (.bool (lu n))∧w' = w:=by
 unfold lu
 go_enter Tryz.func132,Tryz.ntmps132
 go_wp2
 all_goals
  go_ret
  refine⟨aT ?_,rfl⟩
  simp[*]
theorem Il (l:List Int) (a:Option Addr) (c:Nat) (w:World) (hrd:cZ w a (l.map dL)) (hl:l.length≤9223372036854775807) :
  Calls Tryz.prog 147 #[.slice a l.length c,.func (.func 132) #[] #[]] w fun e w'=>e = .returned (.int .i64 (idx lu l))∧w' = w:=by
 go_enter Tryz.func147,Tryz.ntmps147
 go_wp2
 go_loopw [8] (fun i wr => ∃k:Nat,k≤l.length∧i = .int .i64 k∧wr=w∧∀i (h:i<l.length),i<k→lu l[i]=false) (fun i _=>l.length-(intOf i).toNat)
 case atStart=>exact⟨0,Nat.zero_le _,rfl,rfl,fun i _ h=>absurd h (Nat.not_lt_zero _)⟩
 case round=>
  obtain⟨k,hk,rfl,rfl,hp⟩:=hrel
  by_cases hlt:k<l.length
  ·obtain⟨b,off,rfl,hc⟩:=fZ hrd k hlt
   go_wp2_with fail
   refine (LF l[k] _).mono ?_
   rintro e w1 ⟨rfl,rfl⟩
   cases hbk:lu l[k] with
   | true=>
    go_wp2
    go_ret
    exact⟨aS (uh lu l k hlt hp hbk).symm,rfl⟩
   | false=>
    go_wp2
    go_roundw
    case rel=>exact⟨k+1,by omega,by go_num,trivial,upto hp hlt hbk⟩
    case measure=>simp[intOf];omega
  ·go_wp2
   go_ret
   exact⟨aS (lM lu l fun i h=>hp i h (by omega)).symm,rfl⟩
theorem wh (l:List Int) (a:Option Addr) (c:Nat) (w:World) (hrd:cZ w a (l.map dL)) (hl:l.length≤9223372036854775807) :
  Calls Tryz.prog 131 #[.slice a l.length c,.func (.func 132) #[] #[]] w fun e w'=>e = .returned (.bool (l.any lu))∧w' = w:=by
 rw[←lC]
 go_enter Tryz.func131,Tryz.ntmps131
 go_wp2_with fail
 refine (Il l a c _ hrd hl).mono ?_
 rintro e w1 ⟨rfl,rfl⟩
 go_wp2
 go_ret
 exact⟨rfl,rfl⟩
theorem uR (l:List Int) (a:Option Addr) (c:Nat) (w:World) (hrd:cZ w a (l.map dL)) (hl:l.length≤9223372036854775807) :
  Calls Tryz.prog 108 #[.slice a l.length c] w fun e w'=>e = .returned (.int .i64 (dn l))∧w' = w:=by
 unfold dn
 go_enter Tryz.func108,Tryz.ntmps108
 by_cases h:60<l.length
 ·have h1:(60:Int)<(l.length:Int):=by omega
  go_wp2
  go_ret
  exact⟨by simp[h],rfl⟩
 ·have h1:¬(60:Int)<(l.length:Int):=by omega
  go_wp2_with fail
  refine (wh l a c _ hrd hl).mono ?_
  rintro e w1 ⟨rfl,rfl⟩
  cases hb:l.any lu <;>
  ·go_wp2
   go_ret
   exact⟨by simp[h],rfl⟩
theorem AJ (l:List Int) (a:Option Addr) (c:Nat) (w:World) (hrd:cZ w a (l.map dL)) (hl:l.length≤9223372036854775807) :
  Calls Tryz.prog 83 #[.slice a l.length c] w fun e w'=>e = .returned (.int .i64 (dn l))∧w' = w:=by
 unfold dn
 go_enter Tryz.func83,Tryz.ntmps83
 by_cases h:60<l.length
 ·have h1:(60:Int)<(l.length:Int):=by omega
  go_wp2
  go_ret
  exact⟨by simp[h],rfl⟩
 ·have h1:¬(60:Int)<(l.length:Int):=by omega
  rw[if_neg h]
  go_wp2
  go_loopw [10] (fun i wr => ∃k:Nat,k≤l.length∧i = .int .i64 k∧wr=w∧∀i (h:i<l.length),i<k→lu l[i]=false) (fun i _=>l.length-(intOf i).toNat)
  case atStart=>exact⟨0,Nat.zero_le _,rfl,rfl,fun i _ h=>absurd h (Nat.not_lt_zero _)⟩
  case round=>
   obtain⟨k,hk,rfl,rfl,hp⟩:=hrel
   by_cases hlt:k<l.length
   ·obtain⟨b,off,rfl,hc⟩:=fZ hrd k hlt
    by_cases hn:l[k]<0∨1000<l[k]
    ·have hbk:lu l[k]=true:=by simpa[lu] using hn
     have ha:l.any lu=true:=List.any_eq_true.2 ⟨_,List.getElem_mem hlt,hbk⟩
     rcases hn with hn|hn <;>
     ·go_wp2
      all_goals
       go_ret
       exact⟨by simp[ha],rfl⟩
    ·have hbk:lu l[k]=false:=by simp[lu];omega
     have n1:¬l[k]<0:=by omega
     have n2:¬(1000<l[k]):=by omega
     go_wp2
     go_roundw
     case rel=>exact⟨k+1,by omega,by go_num,trivial,upto hp hlt hbk⟩
     case measure=>simp[intOf];omega
   ·have ha:l.any lu=false:=by
     rw[←lC,lM lu l fun i h=>hp i h (by omega)];rfl
    go_wp2
    all_goals
     go_ret
     exact⟨by simp[ha],rfl⟩
theorem vY (l:List Int) (a:Option Addr) (c:Nat) (k n:Int) (w:World) (hle:l.length≤c) (hnil:a=none→c=0) (hrd:cZ w a (l.map dL)) (hl:l.length≤9223372036854775807) :
  Calls Tryz.prog 78 #[.slice a l.length c,.int .i64 k,.int .i64 n] w fun e w' => ∃v,e = .returned (.tuple #[v,.int .i64 (bM l k n)])∧Own w' w.heap.size 3 1 v (bA l k n).length ((bA l k n).map dL)∧Below w.heap.size w w':=by
 go_enter Tryz.func78,Tryz.ntmps78
 go_wp2_with fail
 refine (uR l a c _ hrd (by omega)).mono ?_
 rintro e w1 ⟨rfl,rfl⟩
 by_cases h0:dn l=0
 ·rw[h0]
  have hlen:=iC h0
  by_cases hk:k<0∨(l.length:Int)≤k
  ·obtain⟨q1,q2⟩:=yw (n:=n) h0 (show k<0∨(l.length:Int)≤k∨xU l k=0 from by omega)
   rcases hk with hk|hk <;>
   ·go_wp2
    all_goals
     go_ret2
     try simp only[q1,q2]
     exact⟨_,rfl,Own.nil _ _ _ _,Below.refl _ _⟩
  ·obtain⟨k,rfl⟩:=Int.eq_ofNat_of_zero_le (show 0≤k by omega)
   have hlt:k<l.length:=by omega
   have hlt1:¬(l.length:Int)≤(k:Int):=by omega
   obtain⟨b,off,rfl,hc⟩:=fZ hrd k hlt
   obtain⟨b1,b2⟩:=JZ l k hlt h0
   have hat:=KX hlt
   by_cases hz:l[k]=0
   ·obtain⟨q1,q2⟩:=yw (n:=n) h0 (show (k:Int)<0∨(l.length:Int)≤k∨xU l k=0 from by omega)
    rw[hz] at hc
    clear hk hat b1 b2
    go_wp2
    all_goals
     go_ret2
     try simp only[q1,q2]
     exact⟨_,rfl,Own.nil _ _ _ _,Below.refl _ _⟩
   ·have hz' : (l[k]==(0:Int))=false:=by simp;omega
    have hnn:¬((k:Int)<0∨(l.length:Int)≤k∨xU l k=0):=by omega
    by_cases hr:n < -xU l k∨1000-xU l k<n
    ·obtain⟨q1,q2⟩:=DV h0 hnn hr
     rw[hat] at hr
     clear hat hnn hk
     rcases hr with hr|hr <;>
     ·go_wp2
      all_goals
       go_ret2
       try simp only[q1,q2]
       exact⟨_,rfl,Own.nil _ _ _ _,Below.refl _ _⟩
    ·obtain⟨q1,q2⟩:=Fu h0 hnn hr
     rw[hat] at hr q2
     rw[Int.toNat_natCast] at q2
     have r1:¬n < -l[k]:=by omega
     have r2:¬1000-l[k]<n:=by omega
     clear hat hnn hk hr
     go_wp2_with fail
     refine (uH l _ c _ hle hnil hrd (by omega)).mono ?_
     rintro e w3 ⟨v,rfl,ho,hb⟩
     obtain⟨g,off',cap,rfl,hB,hltg,hc',hf,hset⟩:=ho.put1 k hlt
     unfold dL at hc'
     go_wp2
     go_ret2
     try simp only[q1,q2]
     exact⟨_,rfl,by rw[List.length_set];exact hset _,hb.setCell hB _⟩
 ·obtain⟨q1,q2⟩:=Dr k n h0
  have hw:(dn l != 0)=true:=by simpa using h0
  go_wp2
  go_ret2
  try simp only[q1,q2]
  exact⟨_,rfl,Own.nil _ _ _ _,Below.refl _ _⟩
theorem HY (l m:List Int) (a a' : Option Addr) (c c' : Nat) (w:World) (hrd:cZ w a (l.map dL)) (hrd' : cZ w a' (m.map dL)) (hl:l.length≤9223372036854775807) (hl' : m.length≤9223372036854775807) :
  Calls Tryz.prog 45 #[.slice a l.length c,.slice a' m.length c'] w fun e w'=>e = .returned (.bool (l==m))∧Below w.heap.size w w':=by
 go_enter Tryz.func45,Tryz.ntmps45
 by_cases hlm:l.length=m.length
 ·have hne:((l.length:Int) != (m.length:Int))=false:=by simp[hlm]
  go_wp2
  go_loopw [13] (fun i wr => ∃k:Nat,k≤l.length∧i = .int .i64 k∧Below w.heap.size w wr∧∀i (h:i<l.length),i<k→l[i]=m[i]'(by omega)) (fun i _=>l.length-(intOf i).toNat)
  case atStart=>exact⟨0,Nat.zero_le _,rfl,Below.refl _ _,fun i _ h=>absurd h (Nat.not_lt_zero _)⟩
  case round=>
   obtain⟨k,hk,rfl,hbel,hp⟩:=hrel
   by_cases hlt:k<l.length
   ·obtain⟨b,off,rfl,hc⟩:=fZ (hrd.below hbel) k hlt
    obtain⟨b',off',rfl,hc'⟩:=fZ (hrd'.below hbel) k (by omega)
    have k1:(k:Int)<(m.length:Int):=by omega
    go_wp2_with fail
    go_quiet (fail)
    by_cases he:l[k]=m[k]'(by omega)
    ·have hz:(l[k] != m[k]'(by omega))=false:=by simp[he]
     go_wp2
     go_roundw
     case rel=>exact⟨k+1,by omega,by go_num,below_drewN hbel _,upto hp hlt he⟩
     case measure=>simp[intOf];omega
    ·have hz:(l[k] != m[k]'(by omega))=true:=by simp[he]
     go_wp2
     go_ret
     exact⟨aT (Jf k hlt (by omega) he).symm,below_drewN hbel _⟩
   ·go_wp2
    all_goals
     go_ret
     exact⟨aT (Jm hlm fun i h=>hp i h (by omega)).symm,hbel⟩
 ·have hne:((l.length:Int) != (m.length:Int))=true:=by simp;omega
  go_wp2
  go_ret
  refine⟨aT ?_,Below.refl _ _⟩
  symm
  rw[beq_eq_false_iff_ne]
  rintro rfl
  exact hlm rfl
open Go.Maps
structure PS where
 lv:Bool
 aa:Option Addr
 ac:Nat
 ar:List Ar
 ts:Vector Value 8
 tb:Tb
def PS.sp (p:PS):Sp:=⟨p.lv,p.ar,p.tb⟩
def iP (v:Vector Value 8):Array Value:=#[v[0],v[1],v[2],v[3],v[4],v[5],v[6],v[7]]
theorem JE (v:Vector Value 8):(iP v).size=8:=rfl
theorem IQ {cs:Array Value} (h:cs.size=8):∃v:Vector Value 8,cs=iP v:=by
 refine⟨⟨cs,h⟩,?_⟩
 apply Array.ext
 ·rw[h,JE]
 intro i h1 h2
 have hi:i<8:=by omega
 match i,hi with
 | 0,_=>rfl
 | 1,_=>rfl
 | 2,_=>rfl
 | 3,_=>rfl
 | 4,_=>rfl
 | 5,_=>rfl
 | 6,_=>rfl
 | 7,_=>rfl
 | n+8,h=>omega
def nA (p:PS):Array Value:=#[.bool p.lv,.slice p.aa p.ar.length p.ac,p.ts[0],p.ts[1],p.ts[2],p.ts[3],p.ts[4],p.ts[5],p.ts[6],p.ts[7]]
def lg (p:PS):List Value:=(nA p).toList
theorem ky (p:PS):(lg p).length=10:=rfl
theorem nz (c:Cc):(sZ c).all (·.oneCell')=true:=by simp[sZ,Value.oneCell']
theorem space_size:(Tryz.prog.info? 55).map (·.size)=some 10:=by kernel_rfl
theorem space_info:(Tryz.prog.info? 55).map (fun i=>(i.zero,i.size,i.bytes))=some (some (.agg #[.bool false,.slice none 0 0,.slice none 0 0,.slice none 0 0,.slice none 0 0,.slice none 0 0,.slice none 0 0,.slice none 0 0,.slice none 0 0,.slice none 0 0]),10,224):=by kernel_rfl
theorem cached_size:(Tryz.prog.info? 106).map (·.size)=some 3:=by kernel_rfl
theorem cached_info:(Tryz.prog.info? 106).map (fun i=>(i.zero,i.size,i.bytes))=some (some (.agg #[.int .i64 0,.int .i64 0,.int .i64 0]),3,24):=by kernel_rfl
theorem machine_size:(Tryz.prog.info? 41).map (·.size)=some 11:=by kernel_rfl
structure PS.good (w:World) (p:PS):Prop where
 ars:Mh w p.aa p.ac p.ar
 tb:zJ w (iP p.ts) p.tb
theorem PS.good.below {w w' : World} {p:PS} (h:p.good w) (hb:Below w.heap.size w w'):p.good w':=⟨h.ars.below hb,h.tb.below hb⟩
theorem PS.good.one {w:World} {p:PS} (h:p.good w):∀u∈lg p,u.oneCell' = true:=by
 have h1:∀u∈(iP p.ts).toList,u.oneCell' = true:=by
  have:=h.tb.one
  rw[←Array.all_toList,List.all_eq_true] at this
  exact this
 intro u hu
 simp only[lg,nA,List.mem_cons,List.not_mem_nil,or_false] at hu
 simp only[iP,List.mem_cons,List.not_mem_nil,or_false] at h1
 rcases hu with rfl|rfl|hu
 ·rfl
 ·rfl
 ·exact h1 u hu
structure lX (w:World) (a:Option Addr) (c n:Nat) (vs:List Value):Prop where
 le:n≤c
 mx:c≤maxLen
 nl:a=none→c=0
 rd:cZ w a vs
theorem lX.below {w w' : World} {a:Option Addr} {c n:Nat} {vs:List Value} (h:lX w a c n vs) (hb:Below w.heap.size w w'):lX w' a c n vs:={ h with rd:=h.rd.below hb }
theorem lX.of {w:World} {B:Nat} {e:TypeId} {sz:Nat} {v:Value} {n:Nat} {xs:List Value} (h:Own w B e sz v n xs):∃a c,v = .slice a n c∧lX w a c n xs:=by
 obtain⟨a,c,rfl,h1,h2,h3,h4⟩:=h.rd
 exact⟨a,c,rfl,h1,h2,h3,h4⟩
structure MH where
 af:Option Addr
 cf:Nat
 m:Mem
 asl:Option Addr
 csl:Nat
 sl:List Int
 wb:Option Addr
 cwb:Nat
 wq:Option Addr
 cwq:Nat
 sw:pR
 db:Option Addr
 cdb:Nat
 dq:Option Addr
 cdq:Nat
 dk:pR
 ai:Option Addr
 ci:Nat
 fi:List PF
 ct:Int
 ac:Option Addr
 cc:Nat
 ca:List Cc
 ap:Option Addr
 cp:Nat
 sp:List PS
def MH.ma (H:MH):Ma:=⟨H.m,H.sl,H.sw,H.dk,bT H.fi H.ct,H.ca,H.sp.map PS.sp⟩
def bR (H:MH):Array Value:=#[.slice H.af H.m.fs.length H.cf,.int .i64 H.m.hand,.slice H.asl H.sl.length H.csl,.slice H.wb H.sw.blocks.length H.cwb,.slice H.wq H.sw.queue.length H.cwq,
 .slice H.db H.dk.blocks.length H.cdb,.slice H.dq H.dk.queue.length H.cdq,.slice H.ai H.fi.length H.ci,.int .i64 H.ct,.slice H.ac H.ca.length H.cc,.slice H.ap H.sp.length H.cp]
theorem fG (H:MH):(bR H).all (·.oneCell')=true:=by simp[bR,Value.oneCell']
structure rC (w:World) (H:MH):Prop where
 fr:Ih w H.af H.cf H.m
 sl:lX w H.asl H.csl H.sl.length (H.sl.map dL)
 sw:GY w H.wb H.cwb H.wq H.cwq H.sw
 dk:GY w H.db H.cdb H.dq H.cdq H.dk
 st:CV w H.ai H.ci H.fi
 ca:lX w H.ac H.cc H.ca.length (H.ca.flatMap kS)
 sp:lX w H.ap H.cp H.sp.length (H.sp.flatMap lg)
 ps:∀p∈H.sp,p.good w
 c64 : -9223372036854775808≤H.ct∧H.ct≤9223372036854775807
theorem rC.below {w w' : World} {H:MH} (h:rC w H) (hb:Below w.heap.size w w'):rC w' H:=
 ⟨h.fr.below hb,h.sl.below hb,h.sw.below hb,h.dk.below hb,h.st.below hb,h.ca.below hb,h.sp.below hb,fun p hp=>(h.ps p hp).below hb,h.c64⟩
theorem kL {w:World} {a:Option Addr} {ps:List PS} (h:cZ w a (ps.flatMap lg)) (k:Nat) (hk:k<ps.length):∃b off p,a=some ⟨b,off,none⟩∧ps[k]?=some p∧cZ w (some ⟨b,off+k*10,none⟩) (lg p):=by
 obtain⟨b,off,ha,hc⟩:=h.elem ky (by decide) k hk
 refine⟨b,off,ps[k],ha,List.getElem?_eq_getElem hk,fun j u hj=>⟨b,off+k*10,rfl,hc j u hj⟩⟩
theorem lh {w:World} {H:MH} (h:rC w H) {k:Nat} {p:PS} (hp:H.sp[k]?=some p):p.good w:=h.ps p (List.mem_of_getElem? hp)
theorem Nl {w:World} {a:Option Addr} {l:List Cc} (h:cZ w a (l.flatMap kS)) (k:Nat) (hk:k<l.length):∃b off c,a=some ⟨b,off,none⟩∧l[k]?=some c∧w.cell? ⟨b,off+k*3,none⟩=some (.int .i64 c.f)∧w.cell? ⟨b,off+k*3+1,none⟩=some (.int .i64 c.i)∧w.cell? ⟨b,off+k*3+2,none⟩=some (.int .i64 c.k):=by
 obtain⟨b,off,ha,hc⟩:=h.elem kr (by decide) k hk
 exact⟨b,off,l[k],ha,List.getElem?_eq_getElem hk,hc 0 _ rfl,hc 1 _ rfl,hc 2 _ rfl⟩
structure LX (m:Ma):Prop where
 fs:m.m.fs.length≤1000
 sl:m.sl.length≤1000
 swb:m.sw.blocks.length≤1000
 swq:m.sw.queue.length≤1000
 dkb:m.dk.blocks.length≤1000
 dkq:m.dk.queue.length≤1000
 st:m.st.fs.length≤1000∧∀f∈m.st.fs,f.b.length≤1000
 ca:m.ca.length≤1000
 sp:m.sp.length≤1000∧∀s∈m.sp,s.ar.length≤1000∧∀k (h:k<8),s.tb[k].length≤1000
structure qK (w:World) (B:Nat) (H:MH):Prop where
 fr:Own w B 81 13 (.slice H.af H.m.fs.length H.cf) H.m.fs.length (H.m.fs.flatMap nE)
 sl:Own w B 3 1 (.slice H.asl H.sl.length H.csl) H.sl.length (H.sl.map dL)
 sw:jc w B (.slice H.wb H.sw.blocks.length H.cwb) (.slice H.wq H.sw.queue.length H.cwq) H.sw
 dk:jc w B (.slice H.db H.dk.blocks.length H.cdb) (.slice H.dq H.dk.queue.length H.cdq) H.dk
 st:rA w B (.slice H.ai H.fi.length H.ci) H.fi
 ca:Own w B 106 3 (.slice H.ac H.ca.length H.cc) H.ca.length (H.ca.flatMap kS)
 sp:Own w B 55 10 (.slice H.ap H.sp.length H.cp) H.sp.length (H.sp.flatMap lg)
 ps:∀p∈H.sp,Own w B 99 7 (.slice p.aa p.ar.length p.ac) p.ar.length (p.ar.flatMap iE)∧lc w B (iP p.ts) p.tb
 c64 : -9223372036854775808≤H.ct∧H.ct≤9223372036854775807
theorem qK.below {w w' : World} {B:Nat} {H:MH} (h:qK w B H) (hb:Below w.heap.size w w'):qK w' B H:=
 ⟨h.fr.below hb,h.sl.below hb,h.sw.below hb,h.dk.below hb,h.st.below hb,h.ca.below hb,h.sp.below hb,fun p hp=>⟨(h.ps p hp).1.below hb,(h.ps p hp).2.below hb⟩,h.c64⟩
theorem qK.mono {w:World} {B B' : Nat} {H:MH} (h:qK w B H) (hB:B'≤B):qK w B' H:=
 ⟨h.fr.mono hB,h.sl.mono hB,h.sw.mono hB,h.dk.mono hB,h.st.mono hB,h.ca.mono hB,h.sp.mono hB,fun p hp=>⟨(h.ps p hp).1.mono hB,(h.ps p hp).2.mono hB⟩,h.c64⟩
theorem mP {w:World} {B:Nat} {e:TypeId} {sz:Nat} {a:Option Addr} {n c:Nat} {xs:List Value} (h:Own w B e sz (.slice a n c) n xs):lX w a c n xs:=by
 obtain⟨a',c',e1,h1⟩:=lX.of h
 simp only[Value.slice.injEq,true_and] at e1
 obtain⟨rfl,rfl⟩:=e1
 exact h1
theorem Mf {w:World} {B:Nat} {a b:Option Addr} {c e:Nat} {d:pR} (h:jc w B (.slice a d.blocks.length c) (.slice b d.queue.length e) d):GY w a c b e d:=
 have h1:=mP h.b
 have h2:=mP h.q
 ⟨h1.le,h2.le,h1.mx,h2.mx,h1.nl,h2.nl,h1.rd,h2.rd⟩
theorem Mo {w:World} {B:Nat} {a:Option Addr} {c:Nat} {ps:List PF} (h:rA w B (.slice a ps.length c) ps):CV w a c ps:=by
 obtain⟨a',c',e1,h1⟩:=h.rd
 simp only[Value.slice.injEq,true_and] at e1
 obtain⟨rfl,rfl⟩:=e1
 exact h1
theorem qK.rd {w:World} {B:Nat} {H:MH} (h:qK w B H):rC w H:=
 have h1:=mP h.fr
 ⟨⟨h1.le,h1.mx,h1.nl,h1.rd⟩,mP h.sl,Mf h.sw,Mf h.dk,Mo h.st,mP h.ca,mP h.sp,fun p hp=>⟨have h2:=mP (h.ps p hp).1;⟨h2.le,h2.mx,h2.nl,h2.rd⟩,(h.ps p hp).2.rd⟩,h.c64⟩
theorem qK.keep {w w' : World} {B:Nat} {H:MH} (h:qK w B H) {g:Nat} {cs:Array Value} {T:TypeId} (hk:aF w g cs T)
  (hT:T≠81∧T≠3∧T≠79∧T≠86∧T≠67∧T≠106∧T≠55∧T≠99∧T≠89) (hgr:w.grownBy w' (some g)):qK w' B H:=
 have ⟨t1,t2,t3,t4,t5,t6,t7,t8,t9⟩:=hT
 ⟨ak h.fr hk t1 hgr,ak h.sl hk t2 hgr,h.sw.keep hk t3 t4 hgr,h.dk.keep hk t3 t4 hgr,h.st.keep hk t5 t2 hgr,ak h.ca hk t6 hgr,ak h.sp hk t7 hgr,fun p hp=>⟨ak (h.ps p hp).1 hk t8 hgr,(h.ps p hp).2.keep hk t9 hgr⟩,h.c64⟩
theorem gB {α:Type} {enc:α→List Value} {sz:Nat} (hsz:∀x,(enc x).length=sz) (hp:0<sz) {w:World} {a:Option Addr} {l:List α} (h:cZ w a (l.flatMap enc)) (k:Nat) (hk:k<l.length) :
  ∃b off,a=some ⟨b,off,none⟩∧cZ w (some ⟨b,off+k*sz,none⟩) (enc l[k]):=by
 obtain⟨b,off,ha,hc⟩:=h.elem hsz hp k hk
 exact⟨b,off,ha,fun j u hj=>⟨b,off+k*sz,rfl,hc j u hj⟩⟩
theorem bQ {w:World} {b:Nat} {cs:Array Value} {T:TypeId} (h:aF w b cs T) (o n:Nat):cZ w (some ⟨b,o,none⟩) ((cs.toList.drop o).take n):=by
 intro i u hi
 refine⟨b,o,rfl,?_⟩
 rw[h.cell,←Array.getElem?_toList]
 rw[List.getElem?_take] at hi
 split at hi
 ·rw[List.getElem?_drop] at hi;exact hi
 ·cases hi
def qy (H:MH) (e:Int):Array Value:=#[.slice H.af H.m.fs.length H.cf,.int .i64 H.m.hand,.slice H.asl H.sl.length H.csl,.slice H.wb H.sw.blocks.length H.cwb,.slice H.wq H.sw.queue.length H.cwq,
 .slice H.db H.dk.blocks.length H.cdb,.slice H.dq H.dk.queue.length H.cdq,.slice H.ai H.fi.length H.ci,.int .i64 H.ct,.slice H.ac H.ca.length H.cc,.slice H.ap H.sp.length H.cp,.int .i64 e]
def oB (a:Option Addr):Option Nat:=(Value.slice a 0 0).ownBlock
theorem iK (a:Option Addr) (n c:Nat):(Value.slice a n c).ownBlock=oB a:=by cases a<;>rfl
structure jX (w:World) (B b:Nat) (H:MH) (e:Int):Prop where
 blk:aF w b (qy H e) 96
 ge:B≤b
 ma:qK w B H
 tz:∀p∈H.sp,ul p.tb
def kb (b:Nat) (H:MH) (x:Nat):Prop:=x=b∨oB H.af=some x∨oB H.ac=some x∨oB H.ap=some x
structure KS (w0:World) (b:Nat) (H0:MH) (w:World) (H:MH):Prop where
 os:w.os=w0.os
 tape:w.tape=w0.tape
 output:w.output=w0.output
 size:w0.heap.size≤w.heap.size
 keep:∀x,x<w0.heap.size→¬kb b H0 x→w.heap[x]?=w0.heap[x]?
 sn:∀x,kb b H x→kb b H0 x∨w0.heap.size≤x
theorem KS.refl (w:World) (b:Nat) (H:MH):KS w b H w H:=⟨rfl,rfl,rfl,Nat.le_refl _,fun _ _ _=>rfl,fun _ h => .inl h⟩
theorem KS.trans {w0 w1 w2:World} {b:Nat} {H0 H1 H2:MH} (h:KS w0 b H0 w1 H1) (k:KS w1 b H1 w2 H2):KS w0 b H0 w2 H2:=
 ⟨k.os.trans h.os,k.tape.trans h.tape,k.output.trans h.output,Nat.le_trans h.size k.size,fun x hx hn=>(k.keep x (Nat.lt_of_lt_of_le hx h.size) (fun hk=>(h.sn x hk).elim hn (fun hh=>absurd hx (Nat.not_lt.2 hh)))).trans (h.keep x hx hn),
  fun x hx=>(k.sn x hx).elim (h.sn x) (fun hh => .inr (Nat.le_trans h.size hh))⟩
theorem KS.below {w0 w w' : World} {b:Nat} {H0 H:MH} (h:KS w0 b H0 w H) (hb:Below w.heap.size w w'):KS w0 b H0 w' H:=
 ⟨hb.os.trans h.os,hb.tape.trans h.tape,hb.output.trans h.output,Nat.le_trans h.size hb.size,fun x hx hn=>(hb.block x (Nat.lt_of_lt_of_le hx h.size)).trans (h.keep x hx hn),h.sn⟩
theorem KS.put {w0 w w' : World} {b y:Nat} {H0 H H' : MH} (h:KS w0 b H0 w H) (hg:w.grownBy w' (some y)) (hy:kb b H y) (hn:∀x,kb b H' x→kb b H x∨w0.heap.size≤x):KS w0 b H0 w' H':=
 ⟨hg.os.trans h.os,hg.tape.trans h.tape,hg.output.trans h.output,Nat.le_trans h.size hg.size,fun x hx hnx=>(hg.block x (Nat.lt_of_lt_of_le hx h.size) (fun e=>by
  have e' : x=y:=Option.some.inj e
  rw[←e'] at hy
  exact (h.sn x hy).elim hnx (fun hh=>absurd hx (Nat.not_lt.2 hh)))).trans (h.keep x hx hnx),fun x hx=>(hn x hx).elim (h.sn x) .inr⟩
theorem jX.lt {w:World} {B b:Nat} {H:MH} {e:Int} (h:jX w B b H e):b<w.heap.size:=h.blk.lt
theorem jX.bs {w:World} {B b:Nat} {H:MH} {e:Int} (h:jX w B b H e):B≤w.heap.size:=Nat.le_trans h.ge (Nat.le_of_lt h.lt)
theorem jX.below {w w' : World} {B b:Nat} {H:MH} {e:Int} (h:jX w B b H e) (hb:Below w.heap.size w w'):jX w' B b H e:=⟨h.blk.ext hb,h.ge,h.ma.below hb,h.tz⟩
theorem fD {w:World} {B:Nat} {e:TypeId} {sz n c:Nat} {a:Option Addr} {xs:List Value} (h:Own w B e sz (.slice a n c) n xs) {x:Nat} (hx:oB a=some x):B≤x∧∃cs,aF w x cs e:=by
 rw[←iK a n c] at hx
 exact⟨h.ge x hx,ic h x hx⟩
theorem jX.kb_ge {w:World} {B b:Nat} {H:MH} {e:Int} (h:jX w B b H e) {x:Nat} (hx:kb b H x):B≤x:=by
 rcases hx with hx|hx|hx|hx
 ·rw[hx];exact h.ge
 ·exact (fD h.ma.fr hx).1
 ·exact (fD h.ma.ca hx).1
 ·exact (fD h.ma.sp hx).1
theorem jX.kb_T {w:World} {B b:Nat} {H:MH} {e:Int} (h:jX w B b H e) {x:Nat} (hx:kb b H x):∃cs T,aF w x cs T∧(T=96∨T=81∨T=106∨T=55):=by
 rcases hx with hx|hx|hx|hx
 ·rw[hx];exact⟨_,_,h.blk,.inl rfl⟩
 ·obtain⟨cs,hb⟩:=(fD h.ma.fr hx).2;exact⟨cs,_,hb,.inr (.inl rfl)⟩
 ·obtain⟨cs,hb⟩:=(fD h.ma.ca hx).2;exact⟨cs,_,hb,.inr (.inr (.inl rfl))⟩
 ·obtain⟨cs,hb⟩:=(fD h.ma.sp hx).2;exact⟨cs,_,hb,.inr (.inr (.inr rfl))⟩
theorem KS.to {w0 w:World} {B B0 b:Nat} {H0 H:MH} {e:Int} (h:jX w0 B b H0 e) (hs:KS w0 b H0 w H) (hB:B0≤B):Below B0 w0 w:=
 ⟨hs.os,hs.tape,hs.output,hs.size,fun x hx=>hs.keep x (by have:=h.bs;omega) (fun hk=>by have:=h.kb_ge hk;omega)⟩
theorem KS.blk {w0 w:World} {B b x:Nat} {H0 H:MH} {e:Int} {cs:Array Value} {T:TypeId} (hs:KS w0 b H0 w H) (h:jX w0 B b H0 e) (hk:aF w0 x cs T) (hT:T≠96∧T≠81∧T≠106∧T≠55):aF w x cs T:=by
 refine (hs.keep x hk.lt fun hx => ?_).trans hk
 obtain⟨cs',T',hb,h4⟩:=h.kb_T hx
 unfold aF at hk hb
 rw[hk] at hb
 simp only[Option.some.injEq,Obj.cells.injEq] at hb
 obtain⟨t1,t2,t3,t4⟩:=hT
 rcases h4 with e|e|e|e
 ·exact t1 (hb.2.1.trans e)
 ·exact t2 (hb.2.1.trans e)
 ·exact t3 (hb.2.1.trans e)
 ·exact t4 (hb.2.1.trans e)
theorem KS.own {w0 w:World} {B B' b:Nat} {H0 H:MH} {e:Int} {t:TypeId} {sz n:Nat} {v:Value} {xs:List Value} (hs:KS w0 b H0 w H) (h:jX w0 B b H0 e) (ho:Own w0 B' t sz v n xs) (hT:t≠96∧t≠81∧t≠106∧t≠55):Own w B' t sz v n xs:=
 ⟨ho.1,ho.2.imp id fun⟨g,off,cap,cur,hv,hB,hk,r⟩=>⟨g,off,cap,cur,hv,hB,hs.blk h hk hT,r⟩⟩
theorem qK.keepK {w w' : World} {B b:Nat} {H:MH} {e:Int} (h:jX w B b H e) (hg:w.grownBy w' (some b)):qK w' B H:=h.ma.keep h.blk (by decide) hg
theorem jX.setM {w w' : World} {B b:Nat} {H:MH} {e:Int} (h:jX w B b H e) {a:Option Addr} {c:Nat} {m:Mem} (ho:Own w B 81 13 (.slice a m.fs.length c) m.fs.length (m.fs.flatMap nE)) (hb:aF w' b (bC (qy H e) 0 [.slice a m.fs.length c,.int .i64 m.hand]) 96) (hg:w.grownBy w' (some b)) :
  jX w' B b { H with af:=a,cf:=c,m:=m } e:=
 ⟨hb,h.ge,{ qK.keepK h hg with fr:=ak ho h.blk (by decide) hg },h.tz⟩
theorem jX.setL {w w' : World} {B b:Nat} {H:MH} {e:Int} (h:jX w B b H e) {a:Option Addr} {c:Nat} {l:List Int} (ho:Own w B 3 1 (.slice a l.length c) l.length (l.map dL)) (hb:aF w' b (bC (qy H e) 2 [.slice a l.length c]) 96) (hg:w.grownBy w' (some b)) :
  jX w' B b { H with asl:=a,csl:=c,sl:=l } e:=
 ⟨hb,h.ge,{ qK.keepK h hg with sl:=ak ho h.blk (by decide) hg },h.tz⟩
theorem jX.setE {w w' : World} {B b:Nat} {H:MH} {e e' : Int} (h:jX w B b H e) (hb:aF w' b (bC (qy H e) 11 [.int .i64 e']) 96) (hg:w.grownBy w' (some b)):jX w' B b H e':=
 ⟨hb,h.ge,qK.keepK h hg,h.tz⟩
def KR (w:World) (B b:Nat) (H:MH) (w' : World) (k:Kp):Prop:=∃H' e',jX w' B b H' e'∧KS w b H w' H'∧Kp.mk H'.ma e' = k
theorem EN {b:Nat} {H H' : MH} (h1:H'.af=H.af) (h2:H'.ac=H.ac) (h3:H'.ap=H.ap) {x:Nat} (hx:kb b H' x):kb b H x:=by
 unfold kb at hx ⊢; rw[h1,h2,h3] at hx;exact hx
theorem KS.putB {w0 w w' : World} {b:Nat} {H0 H H' : MH} (h:KS w0 b H0 w H) (hg:w.grownBy w' (some b)) (h1:H'.af=H.af) (h2:H'.ac=H.ac) (h3:H'.ap=H.ap):KS w0 b H0 w' H':=
 h.put hg (.inl rfl) fun x hx => .inl (EN h1 h2 h3 hx)
theorem KS.putF {w0 w w' : World} {B' b:Nat} {H0 H H' : MH} {t:TypeId} {sz n c:Nat} {xs:List Value} (h:KS w0 b H0 w H) (hg:w.grownBy w' (some b)) (ho:Own w B' t sz (.slice H'.af n c) n xs) (hB:w0.heap.size≤B') (h2:H'.ac=H.ac) (h3:H'.ap=H.ap):KS w0 b H0 w' H':=
 h.put hg (.inl rfl) fun x hx=>by
  rcases hx with hx|hx|hx|hx
  ·exact .inl (.inl hx)
  ·exact .inr (Nat.le_trans hB (fD ho hx).1)
  ·exact .inl (.inr (.inr (.inl (by rw[←h2];exact hx))))
  ·exact .inl (.inr (.inr (.inr (by rw[←h3];exact hx))))
theorem DN {w w1 w2:World} {row:Option Nat} (hb:Below w.heap.size w w1) (hg:w1.grownBy w2 row):w.grownBy w2 row:=
 ⟨hg.os.trans hb.os,hg.tape.trans hb.tape,hg.output.trans hb.output,Nat.le_trans hb.size hg.size,fun k hk hn=>(hg.block k (Nat.lt_of_lt_of_le hk hb.size) hn).trans (hb.block k hk)⟩
def NA (k B:Nat) (T:TypeId) (R:iO):nV:=⟨fun y w => ∃g cc,y k = .pointer (some ⟨g,0,none⟩)∧B≤g∧aF w g cc T∧R.r (.agg cc) w,[k],
 fun y w w' hb ⟨g,cc,h1,h2,h3,h4⟩=>⟨g,cc,h1,h2,h3.ext hb,R.st _ _ _ hb h4⟩,fun y y' w h ⟨g,cc,h1,h2⟩=>⟨g,cc,by rw[←h k (List.mem_singleton.2 rfl)];exact h1,h2⟩⟩
theorem bv {cs:Array Value} (h:cs.all (·.oneCell')=true):∀u∈cs.toList,u.oneCell' = true:=by
 rw[←Array.all_toList,List.all_eq_true] at h
 exact h
theorem qw (H:MH):H.ma.sp.length=H.sp.length:=List.length_map _
theorem Gj : (Tryz.prog.info? 86).map (·.size)=some 9:=by kernel_rfl
def yc (f:Int→Bool) (q:Int × Page):Bool:=!(f q.1)
theorem Dk (q:Int × Page) (g gm n:Nat) (f:Int→Bool) (w:World) (hg:aF w g #[.map (some gm)] 203) (hM:jL w gm n f) (hq : -9223372036854775808≤q.1∧q.1≤9223372036854775807) :
  Calls Tryz.prog 135 #[.agg (Ai q),.pointer (some ⟨g,0,none⟩)] w fun r w'=>r = .returned (.bool (yc f q))∧Below w.heap.size w w':=by
 go_enter Tryz.func135,Tryz.ntmps135
 go_upto_region 1 with (fail)
 refine fo (fun W=>Code.wp _ _ _ _ W) fun W0 hb0 hx0 hs0 => ?_
 clear hs0
 have hgx:=(hg.ext hb0).cell 0
 have hcx:=hx0.cell
 have hlk:=(hM.below hb0).look q.1 hq
 have q0:(Ai q)[0]?=some (.int .i64 q.1):=rfl
 go_wp2
 go_ret
 exact⟨rfl,hb0⟩
theorem JB {w:World} {a:Option Addr} {l:List (Int × Page)} (h:cZ w a (l.flatMap uK)) (k:Nat) (hk:k<l.length):∃b off,a=some ⟨b,off,none⟩∧cZ w (some ⟨b,off+k*9,none⟩) (uK l[k]):=gB sG (by decide) h k hk
theorem Cw (l:List (Int × Page)) (a:Option Addr) (c:Nat) (w:World) (hrd:cZ w a (l.flatMap uK)) (hl:l.length≤9223372036854775807) (g gm n:Nat) (f:Int→Bool) (hg:aF w g #[.map (some gm)] 203) (hM:jL w gm n f) (hq:∀q∈l,-9223372036854775808≤q.1∧q.1≤9223372036854775807) :
  Calls Tryz.prog 148 #[.slice a l.length c,.func (.func 135) #[] #[.pointer (some ⟨g,0,none⟩)]] w fun e w'=>e = .returned (.int .i64 (idx (yc f) l))∧Below w.heap.size w w':=by
 go_enter Tryz.func148,Tryz.ntmps148
 go_wp2
 go_loopw [8] (fun i wr => ∃k:Nat,k≤l.length∧i = .int .i64 k∧Below w.heap.size w wr∧∀i (h:i<l.length),i<k→(yc f) l[i]=false) (fun i _=>l.length-(intOf i).toNat)
 case atStart=>exact⟨0,Nat.zero_le _,rfl,Below.refl _ _,fun i _ h=>absurd h (Nat.not_lt_zero _)⟩
 case round=>
  obtain⟨k,hk,rfl,hbr,hp0⟩:=hrel
  have hp:=Lib.hid hp0
  clear hp0
  by_cases hlt:k<l.length
  ·obtain⟨b,off,rfl,hel⟩:=JB (hrd.below hbr) k hlt
   go_wp2_with (refine ay _ _ rfl b (off+k*9) rfl rfl _ hel _ Tryz.underlying86 rfl Gj ?_)
   refine (Dk l[k] g gm n f _ (hg.ext hbr) (hM.below hbr) (hq _ (List.getElem_mem hlt))).mono ?_
   rintro e w2 ⟨rfl,hb2⟩
   have hbel2:=ae hbr hb2
   clear hb2
   cases hpk:(yc f) l[k]
   ·have hpk':=Lib.hid hpk
    clear hpk
    go_wp2
    go_roundw
    case rel=>exact⟨k+1,by omega,by go_num,hbel2,jJ hp.out hlt hpk'.out⟩
    case measure=>simp[intOf];omega
   ·have hfin:=Lib.hid (uh (yc f) l k hlt hp.out hpk)
    clear hpk
    go_wp2
    go_ret
    exact⟨aS hfin.out.symm,hbel2⟩
  ·have hfin:=Lib.hid (lM (yc f) l fun i h=>hp.out i h (by omega))
   go_wp2
   go_ret
   exact⟨aS hfin.out.symm,hbr⟩
theorem DC (l:List (Int × Page)) (a:Option Addr) (c:Nat) (w:World) (hrd:cZ w a (l.flatMap uK)) (hl:l.length≤9223372036854775807) (g gm n:Nat) (f:Int→Bool) (hg:aF w g #[.map (some gm)] 203) (hM:jL w gm n f) (hq:∀q∈l,-9223372036854775808≤q.1∧q.1≤9223372036854775807) :
  Calls Tryz.prog 134 #[.slice a l.length c,.func (.func 135) #[] #[.pointer (some ⟨g,0,none⟩)]] w fun e w'=>e = .returned (.bool (l.any (yc f)))∧Below w.heap.size w w':=by
 go_enter Tryz.func134,Tryz.ntmps134
 go_wp2_with fail
 refine (Cw l a c _ hrd hl g gm n f hg hM hq).mono ?_
 rintro e w2 ⟨rfl,hb2⟩
 go_wp2
 go_ret
 exact⟨aT (lC _ _),hb2⟩
theorem Jo {m:Ma} {k:Nat} (hk:k<m.dk.blocks.length) (h:(decide ((k:Int)∈jY m.st)||decide (m.dk.blocks.getD k zPg=zPg))=false):trimB m=false:=by
 unfold trimB
 rw[Bool.and_eq_false_iff]
 refine .inl (List.all_eq_false.2 ⟨k,List.mem_range.2 hk,?_⟩)
 rw[h];decide
theorem Kq {m:Ma} (h:∀j:Nat,j<m.dk.blocks.length→(decide ((j:Int)∈jY m.st)||decide (m.dk.blocks.getD j zPg=zPg))=true):trimB m = !(m.dk.queue.any (yc (mf (jY m.st)))):=by
 unfold trimB
 rw[List.all_eq_true.2 (fun j hj=>h j (List.mem_range.1 hj)),Bool.true_and,List.any_eq_not_all_not,Bool.not_not]
 congr 1
 funext q
 simp[yc,mf]
theorem BJ (H:MH) (b:Nat) (w:World) (hb:aF w b (bR H) 41) (h:rC w H) (h0:aR (bT H.fi H.ct)=0) (hd:bK H.dk=0) :
  Calls Tryz.prog 110 #[.pointer (some ⟨b,0,none⟩)] w fun r w'=>r = .returned (.bool (trimB H.ma))∧Below w.heap.size w w':=by
 have hmm:=@run_makeMap Tryz.prog
 have hf5:H.fi.length≤5:=by simpa[bT] using (kM h0).1
 have hfl:Hid (∀p∈H.fi,p.l.length≤12∧∀x∈p.l,-1≤x∧x<80):=Lib.hid (fun p hp=>by
  obtain⟨h1,h2,h3,h4⟩:=rO h0 p.fi (List.mem_map.2 ⟨p,hp,rfl⟩)
  have h5:=tO (n:=p.fi.n) h2
  have h6:=(kM h0).2.2
  refine⟨by have h7:(p.l.length:Int)=dA p.fi.n:=h3;omega,fun x hx=>⟨(h4 x hx).1,by have:=(h4 x hx).2;omega⟩⟩)
 obtain⟨hd80,hq400⟩:=GA hd
 have hqb:Hid (∀q∈H.dk.queue,-9223372036854775808≤q.1∧q.1≤9223372036854775807):=Lib.hid (fun q hq=>by
  obtain⟨i,hi,rfl⟩:=List.mem_iff_getElem.1 hq
  have:=Fh hd i hi
  omega)
 have H0:=Lib.hid h0
 have HD:=Lib.hid hd
 clear h0 hd
 have hbk:=Lib.hid (vD H.fi H.ct)
 go_enter Tryz.func110,Tryz.ntmps110
 go_upto_region 2 with (fail)
 refine fo (fun W=>Code.wp _ _ _ _ W) fun w2 hb2 hx2 hs2 => ?_
 have hbel2:Below w.heap.size w w2:=ae ((Below.refl _ _).alloc (Nat.le_refl _) _) hb2
 have hM2:jL w2 w.heap.size 0 (mf (((H.fi.take 0).map PF.fi).flatMap Fi.b)):=(jL.made w).below hb2
 have hx2' : aF w2 (w.heap.size+1) #[.map (some w.heap.size)] 203:=by
  have e:(w.alloc (Obj.map #[] 0)).heap.size=w.heap.size+1:=Array.size_push _
  rw[e] at hx2;exact hx2
 obtain⟨gm,hGM⟩:∃g,g=w.heap.size:=⟨_,rfl⟩
 have hge:Hid (w.heap.size≤gm):=Lib.hid (by omega)
 rw[←hGM] at hM2 hx2' ⊢
 rw[←hGM] at hge
 have hgs:w.heap.size≤gm:=by omega
 clear hb2 hx2 hs2 hmm hGM hge
 have hbk2:=hb.ext hbel2
 have hcb:=hbk2.cell
 unfold bR at hcb
 have H5:(H.fi.length:Int)≤5:=by omega
 go_upto_region 3 with (fail)
 clear hcb hbk2
 go_loopw [17] (fun i wr => ∃(q n:Nat),q≤H.fi.length∧i = .int .i64 q∧n≤12*q∧Below w.heap.size w wr∧aF wr (gm+1) #[.map (some gm)] 203∧jL wr gm n (mf (((H.fi.take q).map PF.fi).flatMap Fi.b))) (fun i _=>H.fi.length-(intOf i).toNat)
 case atStart=>exact⟨0,0,Nat.zero_le _,rfl,Nat.le_refl _,hbel2,hx2',hM2⟩
 case round=>
  clear hbel2 hx2' hM2
  obtain⟨q,n,hq,rfl,hn,hbr,hx,hM⟩:=hrel
  by_cases hlt:q<H.fi.length
  ·obtain⟨bf,of,hai,hrd⟩:=gB kv (by decide) (h.below hbr).st.rd q hlt
   obtain⟨p,hp⟩:∃p,H.fi[q]?=some p:=⟨_,List.getElem?_eq_getElem hlt⟩
   rw[show H.fi[q]=p from (List.getElem?_eq_some_iff.1 hp).2] at hrd
   have hgood:=(h.below hbr).st.good p (List.mem_of_getElem? hp)
   obtain⟨hp12,hpx⟩:=hfl.out p (List.mem_of_getElem? hp)
   have htk:=Lib.hid (take_at hp)
   have hqi:(q:Int)<(H.fi.length:Int):=by omega
   generalize hseen:((H.fi.take q).map PF.fi).flatMap Fi.b=seen at hM
   have hseen':=Lib.hid hseen
   have hpx':=Lib.hid hpx
   clear hseen hp hpx
   rw[hai]
   go_wp2_with (first | (refine ay _ _ rfl bf (of+q*2) rfl rfl _ hrd _ Tryz.underlying67 rfl file_size ?_) | (refine aH rfl _ _ _ rfl (gZ p) rfl rfl rfl file_size (kC p) ?_))
   intro w3 hb3 fx3
   have hb13:=ae hbr hb3
   have hx3:=hx.ext hb3
   have hM3:=hM.below hb3
   have hg3:=hgood.below hb3
   have hwr:=Lib.hid hbr.size
   have hxl:=Lib.hid hx.lt
   clear hbr hx hM hb3 hrd hgood
   have hcf:=fx3.cell
   unfold gZ at hcf
   have hM0:jL w3 gm n (mf (seen++p.l.take 0)):=by simpa using hM3
   have hle:=hg3.le
   have hmx:=hg3.mx
   have hrp:=hg3.rd
   unfold maxLen at hmx
   clear hM3 hg3
   go_upto_region 6 with (fail)
   clear hcf fx3
   go_loopw [24] (fun i wr => ∃(j m:Nat),j≤p.l.length∧i = .int .i64 j∧m≤n+j∧Below w.heap.size w wr∧aF wr (gm+1) #[.map (some gm)] 203∧jL wr gm m (mf (seen++p.l.take j))∧cZ wr p.a (p.l.map dL)) (fun i _=>p.l.length-(intOf i).toNat)
   case atStart=>exact⟨0,n,Nat.zero_le _,rfl,Nat.le_refl _,hb13,hx3,hM0,hrp⟩
   case round=>
    clear hb13 hx3 hM0 hrp
    obtain⟨j,m,hj,rfl,hm,hbr,hx,hM,hrp⟩:=hrel
    by_cases hjl:j<p.l.length
    ·obtain⟨x,hX⟩:∃x,p.l[j]?=some x:=⟨p.l[j],List.getElem?_eq_getElem hjl⟩
     obtain⟨b2,off2,hpa,hc⟩:=fZ hrp j hjl
     rw[show p.l[j]=x from (List.getElem?_eq_some_iff.1 hX).2] at hc
     have htk2:=Lib.hid (take_at hX)
     have hxb:=hpx'.out x (List.mem_of_getElem? hX)
     have hrp':=Lib.hid hrp
     have hpa':=Lib.hid hpa
     have hjl' : (j:Int)<(p.l.length:Int):=by omega
     have hcx:=hx.cell
     rw[hpa]
     clear hX hrp hpa
     generalize hs2:seen++p.l.take j=seen2 at hM
     have hs2' : Hid (seen++p.l.take (j+1)=seen2++[x]):=Lib.hid (by rw[htk2.out,←List.append_assoc,hs2])
     clear hs2
     go_wp2_with (refine nZ hM (by omega) rfl _ _ _ rfl rfl x rfl rfl (by omega) ?_)
     intro w6 hM6 hgr6
     rw[wI,←hs2'.out] at hM6
     have hb6:=hbr.grown hgr6 hbr.size (fun k hk=>by cases hk;omega)
     have hx6:=hx.grown hgr6 (fun e=>by have:=Option.some.inj e;omega)
     have hrp6:=hM.rdv hrp'.out hgr6
     clear hbr hx hM hgr6 hcx hc hrp'
     go_wp2
     go_roundw
     case rel=>exact⟨j+1,m+1,by omega,by go_num,by omega,hb6,hx6,hM6,by rw[←hpa'.out];exact hrp6⟩
     case measure=>simp[intOf];omega
    ·have hjl' : ¬(j:Int)<(p.l.length:Int):=by omega
     rw[List.take_of_length_le (by omega)] at hM
     have hM' : jL wr gm m (mf (((H.fi.take (q+1)).map PF.fi).flatMap Fi.b)):=by
      rw[htk.out,List.map_append,List.flatMap_append,hseen'.out]
      simpa[PF.fi] using hM
     clear hM hrp
     go_wp2
     go_roundw
     case rel=>exact⟨q+1,m,by omega,by go_num,by omega,hbr,hx,hM'⟩
     case measure=>simp[intOf];omega
  ·have hqi:¬(q:Int)<(H.fi.length:Int):=by omega
   rw[List.take_of_length_le (by omega)] at hM
   have hM' : jL wr gm n (mf (jY H.ma.st)):=hM
   clear hM
   have hbk:=hb.ext hbr
   have hcb:=hbk.cell
   unfold bR at hcb
   go_upto_region 12 with (fail)
   clear hcb hbk
   go_loopw [38] (fun i wr => ∃(k:Nat),k≤H.dk.blocks.length∧i = .int .i64 k∧Below w.heap.size w wr∧aF wr (gm+1) #[.map (some gm)] 203∧jL wr gm n (mf (jY H.ma.st))∧Hid (∀j:Nat,j<k→(decide ((j:Int)∈jY H.ma.st)||decide (H.dk.blocks.getD j zPg=zPg))=true)) (fun i _=>H.dk.blocks.length-(intOf i).toNat)
   case atStart=>exact⟨0,Nat.zero_le _,rfl,hbr,hx,hM',Lib.hid fun j hj=>absurd hj (Nat.not_lt_zero _)⟩
   case round=>
    clear hbr hx hM'
    obtain⟨k,hk,rfl,hbr,hx,hM,hall⟩:=hrel
    by_cases hkl:k<H.dk.blocks.length
    ·obtain⟨bd,od,hda,hrd⟩:=gB jF (by decide) (h.below hbr).dk.rb k hkl
     have hki:(k:Int)<(H.dk.blocks.length:Int):=by omega
     have hgd:Hid (H.dk.blocks.getD k zPg=H.dk.blocks[k]):=Lib.hid (by rw[List.getD_eq_getElem?_getD,List.getElem?_eq_getElem hkl];rfl)
     generalize hP:H.dk.blocks[k]=P at hrd hgd
     clear hP
     rw[hda]
     go_wp2_with (first | (refine ay _ _ rfl bd (od+k*8) rfl rfl _ hrd _ Tryz.underlying79 rfl psize ?_) | (refine aH rfl _ _ _ rfl (dW P) rfl rfl rfl psize (eD _) ?_))
     intro w3 hb3 px3
     have hb13:=ae hbr hb3
     have hx3:=hx.ext hb3
     have hM3:=hM.below hb3
     clear hbr hx hM hb3 hrd
     have hcx:=hx3.cell
     have hlook:=hM3.look k (by omega)
     have hcp:=px3.cell
     rw[El] at hcp
     cases hu:mf (jY H.ma.st) (k:Int) with
     | true=>
      rw[hu] at hlook
      have hall2:Hid (∀j:Nat,j<k+1→(decide ((j:Int)∈jY H.ma.st)||decide (H.dk.blocks.getD j zPg=zPg))=true):=Lib.hid fun j hj=>by
       by_cases e:j=k
       ·subst e
        rw[show decide ((j:Int)∈jY H.ma.st)=true from hu];rfl
       ·exact hall.out j (by omega)
      clear hu hall
      go_wp2
      go_roundw
      case rel=>exact⟨k+1,by omega,by go_num,hb13,hx3,hM3,hall2⟩
      case measure=>simp[intOf];omega
     | false=>
      rw[hu] at hlook
      have hE:∀W,(Op.equalIn 10000 79 (.agg #[.int .u8 P[0].toNat,.int .u8 P[1].toNat,.int .u8 P[2].toNat,.int .u8 P[3].toNat,.int .u8 P[4].toNat,.int .u8 P[5].toNat,.int .u8 P[6].toNat,.int .u8 P[7].toNat]) (.agg #[.int .u8 0,.int .u8 0,.int .u8 0,.int .u8 0,.int .u8 0,.int .u8 0,.int .u8 0,.int .u8 0])).run Tryz.prog W = .ok (P==zPg) W:=fun W=>Nu P zPg W
      by_cases hp0:P=zPg
      ·have hall2:Hid (∀j:Nat,j<k+1→(decide ((j:Int)∈jY H.ma.st)||decide (H.dk.blocks.getD j zPg=zPg))=true):=Lib.hid fun j hj=>by
        by_cases e:j=k
        ·subst e
         rw[hgd.out,decide_eq_true hp0,Bool.or_true]
        ·exact hall.out j (by omega)
       have hpb:(P==zPg)=true:=by rw[hp0];exact beq_self_eq_true _
       rw[hpb] at hE
       clear hu hall hpb hp0 hgd
       go_wp2
       go_roundw
       case rel=>exact⟨k+1,by omega,by go_num,hb13,hx3,hM3,hall2⟩
       case measure=>simp[intOf];omega
      ·have hpb:(P==zPg)=false:=by rw[beq_eq_false_iff_ne];exact hp0
       have hq:Hid (trimB H.ma=false):=Lib.hid (Jo (k:=k) hkl (by
        show (decide ((k:Int)∈jY H.ma.st)||decide (H.dk.blocks.getD k zPg=zPg))=false
        rw[hgd.out,decide_eq_false hp0,show decide ((k:Int)∈jY H.ma.st)=false from hu];rfl))
       rw[hpb] at hE
       clear hu hall hpb hp0 hgd
       go_wp2
       go_ret
       rw[hq.out]
       exact⟨rfl,hb13⟩
    ·have hki:¬(k:Int)<(H.dk.blocks.length:Int):=by omega
     have hq:Hid (trimB H.ma = !(H.dk.queue.any (yc (mf (jY H.ma.st))))):=Lib.hid (Kq fun j hj=>hall.out j (by have:j<H.dk.blocks.length:=hj;omega))
     have hbk:=hb.ext hbr
     have hcb:=hbk.cell
     unfold bR at hcb
     have hd:=(h.below hbr).dk
     clear hall
     go_wp2_with fail
     refine (DC H.dk.queue H.dq H.cdq _ hd.rq (by omega) (gm+1) gm n (mf (jY H.ma.st)) hx hM hqb.out).mono ?_
     rintro r w4 ⟨rfl,hb4⟩
     go_wp2
     go_ret
     rw[hq.out]
     exact⟨rfl,ae hbr hb4⟩
theorem qL (e:Int):mI e 0=e:=by unfold mI;split<;>simp_all
theorem Ic {e:Int} (h:e≠0) (er:Int):mI e er=e:=by unfold mI;rw[if_neg h]
theorem jX.rdM {w:World} {B b:Nat} {H:MH} {e:Int} (h:jX w B b H e):cZ w (some ⟨b,0,none⟩) [.slice H.af H.m.fs.length H.cf,.int .i64 H.m.hand]:=bQ h.blk 0 2
theorem wT (H:MH) (e er:Int) (B b:Nat) (w:World) (h:jX w B b H e) :
  Calls Tryz.prog 89 #[.pointer (some ⟨b,0,none⟩),.int .i64 er] w fun r w'=>r = .returned (.tuple #[])∧jX w' B b H (mI e er)∧w.grownBy w' (some b):=by
 have hc:=h.blk.cell
 have hf:=h.blk.free
 unfold qy at hc
 go_enter Tryz.func89,Tryz.ntmps89
 by_cases h0:e=0
 ·have hg:=aL w b 11 [.int .i64 er]
  have hb:=h.blk.setCells [.int .i64 er] 11
  have hfin:Hid (mI e er=er):=Lib.hid (by unfold mI;rw[if_pos h0])
  have h':=Lib.hid h
  clear h
  go_wp2
  simp[bodyPost,results,go_sem,Tryz.results89]
  rw[hfin.out]
  exact⟨h'.out.setE hb hg,hg⟩
 ·go_wp2
  simp[bodyPost,results,go_sem,Tryz.results89]
  rw[Ic h0]
  exact⟨h,World.grownBy.refl _ _⟩
theorem Bg (H:MH) (e f n:Int) (B b:Nat) (w:World) (h:jX w B b H e) :
  Calls Tryz.prog 80 #[.pointer (some ⟨b,0,none⟩),.int .i64 f,.int .i64 n] w fun r w'=>r = .returned (.tuple #[])∧∃H' e',jX w' B b H' e'∧KS w b H w' H'∧Kp.mk H'.ma e' = eZ ⟨H.ma,e⟩ f n∧H'.sp=H.sp:=by
 go_enter Tryz.func80,Tryz.ntmps80
 go_wp2_with (refine ay _ _ rfl b 0 rfl rfl _ h.rdM _ Tryz.underlying28 rfl mem_size ?_)
 refine (Gi H.m f n _ _ _ h.ma.rd.fr).mono ?_
 rintro r w1 ⟨vb,rfl,ho,hb1⟩
 obtain⟨a1,c1,rfl,_⟩:=Eb ho
 have hBs:=Lib.hid h.bs
 have h1:=h.below hb1
 have s1:=(KS.refl w b H).below hb1
 go_wp2_with (refine aH rfl _ _ _ rfl #[.slice a1 (jq H.m f n).fs.length c1,.int .i64 (jq H.m f n).hand] rfl rfl rfl mem_size (lm _ _ _ _) ?_)
 intro w2 hb2 hx2
 have h2:=h1.below hb2
 have s2:=s1.below hb2
 have ho2:=ho.below hb2
 clear h1 s1 ho hb2
 go_wp2_with fail
 refine (wT _ e (jk H.m f n) _ _ _ h2).mono ?_
 rintro r w3 ⟨rfl,h3,hg3⟩
 have s3:=s2.putB hg3 rfl rfl rfl
 have ho3:=ak ho2 h2.blk (by decide) hg3
 have hx3:=bD hx2 h2.blk (by decide) hg3
 clear h2 s2 ho2 hx2 hg3
 by_cases h0:jk H.m f n=0
 ·rw[h0,qL] at h3
  have hq:Hid (eZ ⟨H.ma,e⟩ f n=⟨{ H.ma with m:=jq H.m f n },e⟩):=Lib.hid (by unfold eZ;exact if_pos h0)
  have hx:=hx3.cell
  clear h
  rw[h0]
  go_wp2_with (first | (refine ay _ _ rfl _ 0 rfl rfl [.slice a1 (jq H.m f n).fs.length c1,.int .i64 (jq H.m f n).hand] (bQ hx3 0 2) _ Tryz.underlying28 rfl mem_size ?_) | (refine eX rfl _ _ _ rfl b 0 _ rfl rfl _ _ h3.blk (by show 0+2≤12;decide) mem_size (lm _ _ _ _) ?_))
  intro w4 hb4 hg4
  have h4:=h3.setM (ho3.mono hBs.out) hb4 hg4
  go_wp2
  simp[bodyPost,results,go_sem,Tryz.results80]
  rw[hq.out]
  exact⟨_,_,h4,s3.putF hg4 ho3 (Nat.le_refl _) rfl rfl,rfl,rfl⟩
 ·have hq:Hid (eZ ⟨H.ma,e⟩ f n=⟨H.ma,mI e (jk H.m f n)⟩):=Lib.hid (by unfold eZ;exact if_neg h0)
  go_wp2
  simp[bodyPost,results,go_sem,Tryz.results80]
  rw[hq.out]
  exact⟨_,_,h3,s3,rfl,rfl⟩
theorem FE (H:MH) (e f n:Int) (B b:Nat) (w:World) (h:jX w B b H e) :
  Calls Tryz.prog 80 #[.pointer (some ⟨b,0,none⟩),.int .i64 f,.int .i64 n] w fun r w'=>r = .returned (.tuple #[])∧KR w B b H w' (eZ ⟨H.ma,e⟩ f n):=
 (Bg H e f n B b w h).mono fun r w' ⟨h1,H',e',h2,h3,h4,_⟩=>⟨h1,H',e',h2,h3,h4⟩
theorem aU {P:Program} {ρ:Operand→Value} {o:Oper} {w:World} {t e:TypeId} {x y:Operand} {b off n c i sz:Nat} {k:IntKind} (ho:o.op = .indexAddr t x y) (hx:ρ x = .slice (some ⟨b,off,none⟩) n c) (hy:ρ y = .int k (i:Int)) (hi:i<n)
  (hu:P.underlying t=some (.slice e)) (hs:(P.info? e).map (·.size)=some sz):(execOp ρ o).run P w = .ok (.value (.pointer (some ⟨b,off+i*sz,none⟩))) w:=by
 obtain⟨inf,hinf,hsz⟩:∃inf,P.info? e=some inf∧inf.size=sz:=by
  cases h:P.info? e with
  | none=>rw[h] at hs;cases hs
  | some inf=>rw[h] at hs;exact⟨inf,rfl,by simpa using hs⟩
 have hso:(Go.sizeOf e).run P w = .ok sz w:=by simp[Go.sizeOf,typeInfo,hinf,go_sem,hsz]
 simp[execOp,go_sem,ho,hx,hy,hu,hso,hi]
theorem mW {w:World} {b o:Nat} {vs:List Value} (h:cZ w (some ⟨b,o,none⟩) vs) (d n:Nat):cZ w (some ⟨b,o+d,none⟩) ((vs.drop d).take n):=by
 intro i u hi
 rw[List.getElem?_take] at hi
 split at hi
 ·rw[List.getElem?_drop] at hi
  obtain⟨b',o',e,hc⟩:=h (d+i) u hi
  cases e
  exact⟨_,_,rfl,by rw[Nat.add_assoc];exact hc⟩
 ·cases hi
theorem nC {cur:Array Value} {o:Nat} {v:Value} (r:List Value) (h:cur[o]?=some v):bC cur o (v::r)=bC cur (o+1) r:=by
 have:cur.setIfInBounds o v=cur:=by
  apply Array.ext_getElem?
  intro i
  rw[Array.getElem?_setIfInBounds]
  by_cases e:o=i
  ·subst e
   rw[if_pos rfl,if_pos (Array.getElem?_eq_some_iff.1 h).1,h]
  ·rw[if_neg e]
 show bC (cur.setIfInBounds o v) (o+1) r=_
 rw[this]
theorem yK {w:World} {B:Nat} {e:TypeId} {sz n off c g:Nat} {xs:List Value} {cur:Array Value} (h:Own w B e sz (.slice (some ⟨g,off,none⟩) n c) n xs) (hb:aF w g cur e):∀j u,xs[j]?=some u→cur[off+j]?=some u:=by
 rcases h.2 with ⟨h1,_⟩|⟨g',off',cap',cur',hv,_,hk,_,_,_,ht⟩
 ·cases h1
 ·cases hv
  have:cur=cur':=by
   unfold aF at hb hk
   rw[hb] at hk
   simpa using hk
  subst this
  exact ht
theorem jX.setT {w:World} {B b:Nat} {H:MH} {e:Int} (h:jX w B b H e) {p:Nat} {P:PS} (hP:H.sp[p]?=some P) :
  ∃g off cur,H.ap=some ⟨g,off,none⟩∧B≤g∧aF w g cur 55∧off+p*10+2+8≤cur.size∧cZ w (some ⟨g,off+p*10,none⟩) (lg P) ∧
   ∀(w' : World) (v:Vector Value 8) (t:Tb),lc w B (iP v) t→ul t→aF w' g (bC cur (off+p*10+2) (iP v).toList) 55→w.grownBy w' (some g)→jX w' B b { H with sp:=H.sp.set p { P with ts:=v,tb:=t } } e:=by
 have hp:=(List.getElem?_eq_some_iff.1 hP).1
 have hPe:=(List.getElem?_eq_some_iff.1 hP).2
 obtain⟨g,off,cap,cur,hv,hB,hblk,hfit,hset⟩:=oZ ky (by decide) rfl h.ma.sp p hp
 simp only[Value.slice.injEq] at hv
 obtain⟨hap,_,hcp⟩:=hv
 have hsp:=h.ma.sp
 rw[hap] at hsp
 have hcell:=yK hsp hblk
 have hat:∀j u,(lg P)[j]?=some u→cur[off+p*10+j]?=some u:=fun j u hj=>by
  rw[Nat.add_assoc]
  exact hcell _ _ (flat_get lg 10 ky H.sp p hp j u (by rw[hPe];exact hj))
 refine⟨g,off,cur,hap,hB,hblk,by omega,fun j u hj=>⟨g,_,rfl,by rw[hblk.cell];exact hat j u hj⟩,fun w' v t ht htz hb hg => ?_⟩
 have e1:bC cur (off+p*10) (lg { P with ts:=v,tb:=t })=bC cur (off+p*10+2) (iP v).toList:=by
  show bC cur (off+p*10) (.bool P.lv :: .slice P.aa P.ar.length P.ac::(iP v).toList)=_
  rw[nC _ (by simpa using hat 0 _ rfl),nC _ (hat 1 _ rfl)]
 rw[←e1] at hb
 have hlen:(H.sp.set p { P with ts:=v,tb:=t }).length=H.sp.length:=List.length_set
 have hbk:b≠g:=fun e=>by
  have h1:=h.blk
  subst e
  unfold aF at h1 hblk
  rw[h1] at hblk
  simp only[Option.some.injEq,Obj.cells.injEq] at hblk
  exact absurd hblk.2.1 (by decide)
 refine⟨?_,h.ge,⟨ak h.ma.fr hblk (by decide) hg,ak h.ma.sl hblk (by decide) hg,h.ma.sw.keep hblk (by decide) (by decide) hg,h.ma.dk.keep hblk (by decide) (by decide) hg,h.ma.st.keep hblk (by decide) (by decide) hg,ak h.ma.ca hblk (by decide) hg,?_,fun q hq => ?_,h.ma.c64⟩,fun q hq => ?_⟩
 ·have:qy { H with sp:=H.sp.set p { P with ts:=v,tb:=t } } e=qy H e:=by unfold qy;simp only[hlen]
  rw[this]
  exact h.blk.grown hg (fun e=>hbk (Option.some.inj e).symm)
 ·simp only[hlen]
  exact hset w' _ hb
 ·rcases List.mem_or_eq_of_mem_set hq with hq|rfl
  ·exact⟨ak (h.ma.ps q hq).1 hblk (by decide) hg,(h.ma.ps q hq).2.keep hblk (by decide) hg⟩
  ·exact⟨ak (h.ma.ps P (List.mem_of_getElem? hP)).1 hblk (by decide) hg,ht.keep hblk (by decide) hg⟩
 ·rcases List.mem_or_eq_of_mem_set hq with hq|rfl
  ·exact h.tz q hq
  ·exact htz
theorem jr {H:MH} {p:Nat} {P:PS} (hP:H.sp[p]?=some P):bP H.ma p=P.sp:=by
 unfold bP MH.ma
 simp only
 rw[List.getD_eq_getElem?_getD,List.getElem?_map,hP];rfl
theorem Ed {H:MH} {p:Nat} {P:PS} (hP:H.sp[p]?=some P) (v:Vector Value 8) (t:Tb):MH.ma { H with sp:=H.sp.set p { P with ts:=v,tb:=t } }=setTb H.ma p t:=by
 unfold setTb
 rw[jr hP]
 unfold MH.ma
 simp only[List.map_set]
 rfl
theorem Ir {w:World} {v:Vector Value 8} {t:Tb} (h:zJ w (iP v) t):∀u∈(iP v).toList,u.oneCell' = true:=by
 have:=h.one
 rw[←Array.all_toList,List.all_eq_true] at this
 exact this
theorem LK {t:Tb} {n:Int} {e:En}:ul (setT t n e):=by
 by_cases h:setE t n e=0
 ·exact oz (qP h)
 ·rw[oO h];exact oz zTb_right
def FP (B:Nat) (t:Tb) (n:Int) (x:En):iO:=⟨fun v w => ∃cs,v = .tuple #[.agg cs,.int .i64 (setE t n x)]∧lc w B cs (setT t n x),fun _ _ _ hb ⟨cs,h1,h2⟩=>⟨cs,h1,h2.below hb⟩⟩
def Bq (B:Nat) (t:Tb):iO:=⟨fun v w => ∃cs,v = .agg cs∧lc w B cs t,fun _ _ _ hb ⟨cs,h1,h2⟩=>⟨cs,h1,h2.below hb⟩⟩
theorem jf (H:MH) (e n:Int) (p:Nat) (x:En) (B b:Nat) (w:World) (h:jX w B b H e) (hp:p<H.sp.length) :
  Calls Tryz.prog 79 #[.pointer (some ⟨b,0,none⟩),.int .i64 p,.int .i64 n,.agg (fI x)] w fun r w'=>r = .returned (.tuple #[])∧KR w B b H w' (fB ⟨H.ma,e⟩ p n x):=by
 obtain⟨P,hP⟩:∃P,H.sp[p]?=some P:=⟨_,List.getElem?_eq_getElem hp⟩
 have hsp:=Lib.hid (jr hP)
 have hBs:=Lib.hid h.bs
 have hPm:=List.mem_of_getElem? hP
 go_enter Tryz.func79,Tryz.ntmps79
 go_upto_region 1 with (fail)
 refine fo (fun W=>Code.wp _ _ _ _ W) fun w1 hb1 hx1 hs1 => ?_
 have h1:=h.below hb1
 have s1:=(KS.refl w b H).below hb1
 clear h hs1
 obtain⟨g,off,cur,hap,hBg,hblk,hfit,hrd,hset⟩:=h1.setT hP
 refine lG 18 [_,_,_,_,_,_,_,_,_,_,_,.r 11 ((FP w1.heap.size P.tb n x)),.r 12 ((FP w1.heap.size P.tb n x)),.r 13 ((Bq w1.heap.size (setT P.tb n x))),.v (.int .i64 (setE P.tb n x)),.r 15 ((mM w1.heap.size 53 8)),.y 16 ((NA 15 w1.heap.size 53 (Bq w1.heap.size (setT P.tb n x)))),.v (.int .i64 (setE P.tb n x))] (fun W=>Below w1.heap.size w1 W) gK (Below.refl _ _) (Yk gK rfl (Yk gK rfl (Yf gK b 0 rfl rfl (Yf gK b 10 rfl rfl (Yc gK (.slice (some ⟨g,off,none⟩) H.sp.length H.cp) (fun W hb=>by simp[(h1.below hb).blk.cell,qy,hap]) rfl rfl rfl rfl (Yk gK rfl (Yr gK (.pointer (some ⟨g,off+p*10,none⟩)) (fun ρ y W hb hKn=>(aU rfl (aA rfl hKn) (aA rfl hKn) hp Tryz.underlying39 space_size)) rfl rfl (Yf gK g (off+p*10+2) rfl rfl (Yr gK (.agg (iP P.ts)) (fun ρ y W hb hKn=>(bV rfl (aA rfl hKn) (mW (hrd.below hb) 2 8) Tryz.underlying53 tab_agg tab_size)) rfl rfl (Yk gK rfl (Yr gK (.agg (fI x)) (fun ρ y W hb hKn=>(aX rfl (aA rfl hKn) (hx1.ext hb) Tryz.underlying89 rfl entry_size)) rfl rfl (ag ?_ (ag ?_ (ag ?_ (ag ?_ (ag ?_ (ag ?_ (Yk gK rfl (aB))))))))))))))))))) (fun _=>rfl) rfl ?_
 ·intro ρ y W hw hn hb hd
  refine mh gK hb ((FP w1.heap.size P.tb n x)) (fun _ _ h=>h) ?_
  have E19:=hw 19 8 rfl
  have h8:y 8 = .agg (iP P.ts):=hd 8 rfl
  have E20:=hw 20 9 rfl
  have h9:y 9 = .int .i64 n:=hd 9 rfl
  have E21:=hw 21 10 rfl
  have h10:y 10 = .agg (fI x):=hd 10 rfl
  have EF:∀f,ρ (.func f) = .func (.func f) #[] #[]:=fun f=>hn (.func f) trivial
  refine aJ _ _ (ah rfl) (aK rfl (EF _) Tryz.func118 (by kernel_rfl) (by kernel_rfl) (by simp only[List.map_toArray,List.map_cons,List.map_nil,E19,h8,E20,h9,E21,h10,EF];rfl)) ?_
  refine (Km P.tb (iP P.ts) n x W (((h1.below hb).ma.ps P hPm).2.rd) (h1.tz P hPm)).mono ?_
  rintro r W2 ⟨cs,rfl,ho,hb2⟩
  exact⟨_,rfl,hb2,cs,rfl,ho.mono hb.size⟩
 ·intro ρ y W hw hn hb hd
  refine mh gK hb ((FP w1.heap.size P.tb n x)) (fun _ _ h=>h) ?_
  have E22:=hw 22 11 rfl
  have h11:=hd 11 rfl
  refine aj _ (ah rfl) (run_move (.inl rfl) E22) ?_
  exact h11
 ·intro ρ y W hw hn hb hd
  refine mh gK hb ((Bq w1.heap.size (setT P.tb n x))) (fun _ _ h=>h) ?_
  have E10:=hw 10 12 rfl
  have h12:=hd 12 rfl
  obtain⟨cs,hcs,ho⟩:=h12
  refine aj (.agg cs) (ah rfl) (by simp[execOp,go_sem,bZ,E10,hcs]) ?_
  exact⟨cs,rfl,ho⟩
 ·intro ρ y W hw hn hb hd
  refine mh gK hb (nU (.int .i64 (setE P.tb n x))) (fun _ _ h=>h) ?_
  have E10:=hw 10 12 rfl
  have h12:=hd 12 rfl
  obtain⟨cs,hcs,ho⟩:=h12
  refine aj (.int .i64 (setE P.tb n x)) (ah rfl) (by simp[execOp,go_sem,bZ,E10,hcs]) rfl
 ·intro ρ y W hw hn hb hd
  refine mh gK hb ((mM w1.heap.size 53 8)) (fun _ _ h=>h) ?_
  refine ji (.pointer (some ⟨W.heap.size,0,none⟩)) (ah rfl) (by simp[execOp,go_sem,bZ]) ((Below.refl _ _).alloc (Nat.le_refl _) (.cells #[.slice none 0 0,.slice none 0 0,.slice none 0 0,.slice none 0 0,.slice none 0 0,.slice none 0 0,.slice none 0 0,.slice none 0 0] 53)) ?_
  exact⟨_,_,rfl,hb.size,aF.new _ _ _,rfl⟩
 ·intro ρ y W hw hn hb hd;have E8:=hw 8 15 rfl;have h15:=hd 15 rfl;have E23:=hw 23 13 rfl;have h13:=hd 13 rfl
  obtain⟨cc,e7,ho7⟩:=h13
  obtain⟨g3,cur3,e9,hg9,hb9,hs9⟩:=h15
  have hsz7:=ho7.sz
  refine wC (ah rfl) _ _ _ rfl g3 0 (.agg cc) cc.toList (E8.trans e9) (E23.trans e7) rfl cur3 _ hb9 (by rw[Array.length_toList,hs9,hsz7];exact Nat.le_refl _) (by rw[Array.length_toList,hsz7];exact tab_size) (bv ho7.rd.one) ?_
  intro w1 hw1 hgr
  rw[iq cur3 cc (by rw[hs9,hsz7])] at hw1
  refine⟨hb.grown hgr hb.size (fun k hk=>by cases hk;exact hg9),⟨g3,cc,e9,hg9,hw1,⟨cc,rfl,ho7.keep hb9 (by decide) hgr⟩⟩,?_⟩
  intro k hk hne
  match k,hk,hne with
  | 0,_,_=>exact fun h=>h
  | 1,_,_=>exact fun h=>h
  | 2,_,_=>exact fun h=>h
  | 3,_,_=>exact fun h=>h
  | 4,_,_=>exact fun h=>h
  | 5,_,_=>exact fun h=>h
  | 6,_,_=>exact fun h=>h
  | 7,_,_=>exact fun h=>h
  | 8,_,_=>exact fun h=>h
  | 9,_,_=>exact fun h=>h
  | 10,_,_=>exact fun h=>h
  | 11,_,_=>exact fun⟨c,q1,q2⟩=>⟨c,q1,q2.keep hb9 (by decide) hgr⟩
  | 12,_,_=>exact fun⟨c,q1,q2⟩=>⟨c,q1,q2.keep hb9 (by decide) hgr⟩
  | 13,_,_=>exact fun⟨c,q1,q2⟩=>⟨c,q1,q2.keep hb9 (by decide) hgr⟩
  | 14,_,_=>exact fun h=>h
  | 15,_,_=>exact fun q=>uF q hw1 (fun _=>hsz7) ⟨_,hb9⟩ hgr
  | 16,_,h=>exact absurd rfl h
  | 17,_,_=>exact fun h=>h
  | n+18,h,_=>exact absurd h (by omega)
 intro y W2 hbW2 hRW2
 replace hbW2:Below w1.heap.size w1 W2:=hbW2
 have hy11:((FP w1.heap.size P.tb n x)).r (y 11) W2:=hRW2 11 (by decide)
 have hy12:((FP w1.heap.size P.tb n x)).r (y 12) W2:=hRW2 12 (by decide)
 have hy13:((Bq w1.heap.size (setT P.tb n x))).r (y 13) W2:=hRW2 13 (by decide)
 have hy15:((mM w1.heap.size 53 8)).r (y 15) W2:=hRW2 15 (by decide)
 have hy16:=hRW2 16 (by decide)
 clear hRW2
 simp only[bJ,bZ,List.map_cons,List.map_nil]
 obtain⟨gx,cs2,hyx,hgx,hbx,ca2,hca2,ho2⟩:=hy16
 simp only[Value.agg.injEq] at hca2
 subst hca2
 obtain⟨v2,rfl⟩:=IQ ho2.sz
 have h2:=h1.below hbW2
 have s2:=s1.below hbW2
 have hge1:=Lib.hid hb1.size
 clear hy11 hy12 hy13 hy15 hset hrd hblk hfit hap h1 s1 hx1 hBg hb1 cur
 go_wp2_with fail
 refine (wT _ e (setE P.tb n x) _ _ _ h2).mono ?_
 rintro r w3 ⟨rfl,k3,hg3⟩
 have s3:=s2.putB hg3 rfl rfl rfl
 have ho3:=ho2.keep h2.blk (by decide) hg3
 have hx3:=bD hbx h2.blk (by decide) hg3
 have hBg:=Lib.hid hgx
 clear h2 s2 ho2 hbx hg3 hbW2 hgx
 have hsE:Hid (setE (bP H.ma p).tb n x=setE P.tb n x):=Lib.hid (by rw[hsp.out];rfl)
 by_cases h0:setE P.tb n x=0
 ·rw[h0,qL] at k3
  have hq:Hid (fB ⟨H.ma,e⟩ p n x=⟨setTb H.ma p (setT P.tb n x),e⟩):=Lib.hid (by
   unfold fB
   simp only
   rw[if_pos (hsE.out.trans h0),hsp.out]
   rfl)
  obtain⟨g,off,cur,hap,hBg',hblk,hfit,hrd,hset⟩:=k3.setT hP
  have hx:=hx3.cell
  have kc3:=k3.blk.cell
  unfold qy at kc3
  rw[hap] at kc3
  rw[h0]
  go_upto_region 4 with (fail)
  refine aG 9 [_,_,_,_,_,_,_,_,_] (Gk rfl (Gk rfl (Gf b 0 rfl rfl (Gf b 10 rfl rfl (Gc (.slice (some ⟨g,off,none⟩) H.sp.length H.cp) (fun W hb=>by simp[(k3.below hb).blk.cell,qy,hap]) rfl rfl rfl rfl (Gk rfl (Gr (.agg (iP v2)) (fun ρ y W hb hKn=>(bV rfl (aA rfl hKn) ((hx3.ext hb).rd) Tryz.underlying53 tab_agg tab_size)) rfl rfl (Gr (.pointer (some ⟨g,off+p*10,none⟩)) (fun ρ y W hb hKn=>(aU rfl (aA rfl hKn) (aA rfl hKn) hp Tryz.underlying39 space_size)) rfl rfl (Gf g (off+p*10+2) rfl rfl (aB)))))))))) (fun _=>rfl) rfl ?_
  intro y W4 hbW4 _
  go_wp2_with (refine eX rfl _ _ _ rfl g (off+p*10+2) (iP v2) rfl rfl _ _ (hblk.ext hbW4) hfit tab_size (by rw[←Array.all_toList,List.all_eq_true];exact Ir ho3.rd) ?_)
  intro w5 hb5 hg5
  have hg5':=DN hbW4 hg5
  have k5:=hset w5 v2 (setT P.tb n x) (ho3.mono (Nat.le_trans hBs.out hge1.out)) LK hb5 hg5'
  go_wp2
  simp[bodyPost,results,go_sem,Tryz.results79]
  rw[hq.out]
  refine⟨_,_,k5,s3.put hg5' (.inr (.inr (.inr (by rw[hap];rfl)))) fun y hy => .inl (EN rfl rfl rfl hy),?_⟩
  rw[Ed hP]
 ·have hq:Hid (fB ⟨H.ma,e⟩ p n x=⟨H.ma,mI e (setE P.tb n x)⟩):=Lib.hid (by
   unfold fB
   simp only
   rw[if_neg (by rw[hsE.out];exact h0),hsE.out])
  go_wp2
  simp[bodyPost,results,go_sem,Tryz.results79]
  rw[hq.out]
  exact⟨_,_,k3,s3,rfl⟩
theorem slots_size:(Tryz.prog.info? 30).map (·.size)=some 1:=by kernel_rfl
def uX (B:Nat) (T:TypeId) (sz n:Nat) (xs:List Value) (er:Int):iO:=⟨fun v w => ∃u,v = .tuple #[u,.int .i64 er]∧Own w B T sz u n xs,fun _ _ _ hb ⟨u,h1,h2⟩=>⟨u,h1,h2.below hb⟩⟩
theorem jX.at {w:World} {B b:Nat} {H:MH} {e:Int} (h:jX w B b H e) {p:Nat} {P:PS} (hP:H.sp[p]?=some P):∃g off,H.ap=some ⟨g,off,none⟩∧cZ w (some ⟨g,off+p*10,none⟩) (lg P)∧cZ w (some ⟨g,off+p*10+2,none⟩) (iP P.ts).toList∧P.good w:=by
 have hp:=(List.getElem?_eq_some_iff.1 hP).1
 obtain⟨g,off,P',ha,hP',hr⟩:=kL h.ma.rd.sp.rd p hp
 rw[hP] at hP'
 cases hP'
 exact⟨g,off,ha,hr,mW hr 2 8,h.ma.rd.ps P (List.mem_of_getElem? hP)⟩
theorem KR.trans {w0 w1 w2:World} {B b:Nat} {H0 H1:MH} {k:Kp} (h:KS w0 b H0 w1 H1) (k2:KR w1 B b H1 w2 k):KR w0 B b H0 w2 k:=by
 obtain⟨H2,e2,h1,h2,h3⟩:=k2
 exact⟨H2,e2,h1,h.trans h2,h3⟩
theorem Gm (H:MH) (e n:Int) (p:Nat) (B b:Nat) (w:World) (h:jX w B b H e) (hp:p<H.sp.length) :
  Calls Tryz.prog 102 #[.pointer (some ⟨b,0,none⟩),.int .i64 p,.int .i64 n] w fun r w'=>r = .returned (.tuple #[])∧KR w B b H w' (jR ⟨H.ma,e⟩ p n):=by
 obtain⟨P,hP⟩:∃P,H.sp[p]?=some P:=⟨_,List.getElem?_eq_getElem hp⟩
 have hsp:=Lib.hid (jr hP)
 obtain⟨g,off,hap,hrd,hrt,hgood⟩:=h.at hP
 have hc:=h.blk.cell
 unfold qy at hc
 rw[hap] at hc
 have hpi:(p:Int)<(H.sp.length:Int):=by omega
 go_enter Tryz.func102,Tryz.ntmps102
 go_wp2_with (refine ay _ _ rfl g (off+p*10+2) rfl rfl _ hrt _ Tryz.underlying53 tab_agg tab_size ?_)
 refine (wV P.tb (iP P.ts) n _ hgood.tb).mono ?_
 rintro r w1 ⟨rfl,hb1⟩
 have h1:=h.below hb1
 have s1:=(KS.refl w b H).below hb1
 clear hc hrd hrt hgood
 generalize hx:cB P.tb n=x
 go_wp2_with (refine aH rfl _ _ _ rfl (fI x) rfl rfl rfl entry_size (by simp[fI,Value.oneCell']) ?_)
 intro w2 hb2 hx2
 have h2:=h1.below hb2
 have s2:=s1.below hb2
 clear h1 s1 hb1 hb2 h
 have hc2:=hx2.cell
 unfold fI at hc2
 have hgx:Hid (cB (bP H.ma p).tb n=x):=Lib.hid (by rw[hsp.out];exact hx)
 clear hx
 by_cases hk1:x.k=1
 ·have hq:Hid (jR ⟨H.ma,e⟩ p n=fB (eZ ⟨H.ma,e⟩ x.n (-1)) p n zEn):=Lib.hid (by
   unfold jR
   simp only[hgx.out]
   rw[if_pos hk1])
  have hk1':=Lib.hid hk1
  rw[hk1] at hc2
  clear hk1
  go_wp2_with fail
  refine (FE H e x.n (-1) B b _ h2).mono ?_
  rintro r w3 ⟨rfl,H3,e3,h3,s3,q3⟩
  have hl3:H3.sp.length=H.sp.length:=by
   have e1:H3.ma.sp=H.ma.sp:=by
    have:=congrArg (fun k=>k.m.sp) q3
    simp only at this
    rw[this]
    unfold eZ
    split<;>rfl
   have:=congrArg List.length e1
   unfold MH.ma at this
   simpa using this
  have s3':=s2.trans s3
  have hq3:=Lib.hid q3
  clear q3 s3 hc2
  go_wp2_with fail
  refine (jf H3 e3 n p zEn B b _ h3 (by rw[hl3];exact hp)).mono ?_
  rintro r w4 ⟨rfl,hk4⟩
  go_wp2
  simp[bodyPost,results,go_sem,Tryz.results102]
  rw[hq.out,←hq3.out]
  exact KR.trans s3' hk4
 ·by_cases hk2:x.k=2
  ·have hq:Hid (jR ⟨H.ma,e⟩ p n=fB (nH ⟨H.ma,e⟩ x.n (-1)) p n zEn):=Lib.hid (by
    unfold jR
    simp only[hgx.out]
    rw[if_neg hk1,if_pos hk2])
   rw[hk2] at hc2
   clear hk1 hk2
   have hck:=h2.blk.cell
   unfold qy at hck
   go_upto_region 5 with (fail)
   refine lG 13 [_,_,_,_,_,_,_,.r 7 ((uX w2.heap.size 3 1 (bA H.sl x.n (-1)).length ((bA H.sl x.n (-1)).map dL) (bM H.sl x.n (-1)))),.r 8 ((uX w2.heap.size 3 1 (bA H.sl x.n (-1)).length ((bA H.sl x.n (-1)).map dL) (bM H.sl x.n (-1)))),.r 9 ((il w2.heap.size 3 1 (bA H.sl x.n (-1)).length ((bA H.sl x.n (-1)).map dL))),.v (.int .i64 (bM H.sl x.n (-1))),.r 11 ((il w2.heap.size 3 1 (bA H.sl x.n (-1)).length ((bA H.sl x.n (-1)).map dL))),.v (.int .i64 (bM H.sl x.n (-1)))] (fun W=>Below w2.heap.size w2 W) gK (Below.refl _ _) (Yk gK rfl (Yk gK rfl (Yf gK b 0 rfl rfl (Yf gK b 2 rfl rfl (Yc gK (.slice H.asl H.sl.length H.csl) (fun W hb=>by simp[(h2.below hb).blk.cell,qy]) rfl rfl rfl rfl (Yf gK w1.heap.size 1 rfl rfl (Yc gK (.int .i64 x.n) (fun W hb=>by simp[(hx2.ext hb).cell,fI]) rfl rfl rfl rfl (ag ?_ (ag ?_ (ag ?_ (ag ?_ (ag ?_ (Yk gK rfl (aB)))))))))))))) (fun _=>rfl) rfl ?_
   ·intro ρ y W hw hn hb hd
    refine mh gK hb ((uX w2.heap.size 3 1 (bA H.sl x.n (-1)).length ((bA H.sl x.n (-1)).map dL) (bM H.sl x.n (-1)))) (fun _ _ h=>h) ?_
    have E35:=hw 35 4 rfl
    have h4:y 4 = .slice H.asl H.sl.length H.csl:=hd 4 rfl
    have E37:=hw 37 6 rfl
    have h6:y 6 = .int .i64 x.n:=hd 6 rfl
    have EC:∀v,ρ (.const v)=v:=fun v=>hn (.const v) trivial
    have EF:∀f,ρ (.func f) = .func (.func f) #[] #[]:=fun f=>hn (.func f) trivial
    refine aJ _ _ (ah rfl) (aK rfl (EF _) Tryz.func78 (by kernel_rfl) (by kernel_rfl) (by simp only[List.map_toArray,List.map_cons,List.map_nil,E35,h4,E37,h6,EC,EF];rfl)) ?_
    have hm:=(h2.below hb).ma.rd.sl
    refine (vY H.sl H.asl H.csl x.n (-1) W hm.le hm.nl hm.rd (by have:=hm.le;have:=hm.mx;unfold maxLen at this;omega)).mono ?_
    rintro r W3 ⟨u,rfl,ho,hb3⟩
    exact⟨_,rfl,hb3,u,rfl,ho.mono hb.size⟩
   ·intro ρ y W hw hn hb hd
    refine mh gK hb ((uX w2.heap.size 3 1 (bA H.sl x.n (-1)).length ((bA H.sl x.n (-1)).map dL) (bM H.sl x.n (-1)))) (fun _ _ h=>h) ?_
    have E38:=hw 38 7 rfl
    have h7:=hd 7 rfl
    refine aj _ (ah rfl) (run_move (.inl rfl) E38) ?_
    exact h7
   ·intro ρ y W hw hn hb hd
    refine mh gK hb ((il w2.heap.size 3 1 (bA H.sl x.n (-1)).length ((bA H.sl x.n (-1)).map dL))) (fun _ _ h=>h) ?_
    have E30:=hw 30 8 rfl
    have h8:=hd 8 rfl
    obtain⟨u,hu,ho⟩:=h8
    refine aj u (ah rfl) (by simp[execOp,go_sem,bZ,E30,hu]) ?_
    exact ho
   ·intro ρ y W hw hn hb hd
    refine mh gK hb (nU (.int .i64 (bM H.sl x.n (-1)))) (fun _ _ h=>h) ?_
    have E30:=hw 30 8 rfl
    have h8:=hd 8 rfl
    obtain⟨u,hu,ho⟩:=h8
    refine aj (.int .i64 (bM H.sl x.n (-1))) (ah rfl) (by simp[execOp,go_sem,bZ,E30,hu]) rfl
   ·intro ρ y W hw hn hb hd
    refine mh gK hb ((il w2.heap.size 3 1 (bA H.sl x.n (-1)).length ((bA H.sl x.n (-1)).map dL))) (fun _ _ h=>h) ?_
    have E39:=hw 39 9 rfl
    have h9:=hd 9 rfl
    refine aj _ (ah rfl) (run_move (.inr rfl) E39) ?_
    exact h9
   intro y W3 hbW3 hRW3
   replace hbW3:Below w2.heap.size w2 W3:=hbW3
   have hy7:((uX w2.heap.size 3 1 (bA H.sl x.n (-1)).length ((bA H.sl x.n (-1)).map dL) (bM H.sl x.n (-1)))).r (y 7) W3:=hRW3 7 (by decide)
   have hy8:((uX w2.heap.size 3 1 (bA H.sl x.n (-1)).length ((bA H.sl x.n (-1)).map dL) (bM H.sl x.n (-1)))).r (y 8) W3:=hRW3 8 (by decide)
   have hy9:((il w2.heap.size 3 1 (bA H.sl x.n (-1)).length ((bA H.sl x.n (-1)).map dL))).r (y 9) W3:=hRW3 9 (by decide)
   have hy11:((il w2.heap.size 3 1 (bA H.sl x.n (-1)).length ((bA H.sl x.n (-1)).map dL))).r (y 11) W3:=hRW3 11 (by decide)
   clear hRW3
   simp only[bJ,bZ,List.map_cons,List.map_nil]
   have ho3:Own W3 w2.heap.size 3 1 (y 11) (bA H.sl x.n (-1)).length ((bA H.sl x.n (-1)).map dL):=hy11
   obtain⟨a3,c3,e7,_⟩:=Own.rd ho3
   rw[e7] at ho3
   simp only[e7]
   have k3:=h2.below hbW3
   have s3:=s2.below hbW3
   have hge:=Lib.hid (Nat.le_trans h2.bs (Nat.le_refl _))
   have hws:=Lib.hid s2.size
   clear hy7 hy8 hy9 hy11 e7 hc2 hck h2 s2 hx2 hbW3
   go_wp2_with fail
   refine (wT _ e (bM H.sl x.n (-1)) _ _ _ k3).mono ?_
   rintro r w4 ⟨rfl,k4,hg4⟩
   have s4:=s3.putB hg4 rfl rfl rfl
   have ho4:=ak ho3 k3.blk (by decide) hg4
   clear k3 s3 ho3 hg4
   by_cases h0:bM H.sl x.n (-1)=0
   ·rw[h0,qL] at k4
    have hq2:Hid (nH ⟨H.ma,e⟩ x.n (-1)=⟨{ H.ma with sl:=bA H.sl x.n (-1) },e⟩):=Lib.hid (by unfold nH;exact if_pos h0)
    rw[h0]
    go_wp2_with (refine aC rfl _ _ _ rfl b 2 _ [.slice a3 (bA H.sl x.n (-1)).length c3] rfl rfl rfl _ _ k4.blk (by show 2+1≤12;decide) slots_size (fun u hu=>by cases List.mem_singleton.1 hu;rfl) ?_)
    intro w5 hb5 hg5
    have k5:=k4.setL (ho4.mono hge.out) hb5 hg5
    have s5:KS w b H w5 { H with asl:=a3,csl:=c3,sl:=bA H.sl x.n (-1) }:=s4.putB hg5 rfl rfl rfl
    go_wp2_with fail
    refine (jf _ e n p zEn B b _ k5 hp).mono ?_
    rintro r w6 ⟨rfl,hk6⟩
    go_wp2
    simp[bodyPost,results,go_sem,Tryz.results102]
    rw[hq.out,hq2.out]
    exact KR.trans s5 hk6
   ·have hq2:Hid (nH ⟨H.ma,e⟩ x.n (-1)=⟨H.ma,mI e (bM H.sl x.n (-1))⟩):=Lib.hid (by unfold nH;exact if_neg h0)
    go_wp2_with fail
    refine (jf _ (mI e (bM H.sl x.n (-1))) n p zEn B b _ k4 hp).mono ?_
    rintro r w6 ⟨rfl,hk6⟩
    go_wp2
    simp[bodyPost,results,go_sem,Tryz.results102]
    rw[hq.out,hq2.out]
    exact KR.trans s4 hk6
  ·have hq:Hid (jR ⟨H.ma,e⟩ p n=⟨H.ma,e⟩):=Lib.hid (by
    unfold jR
    simp only[hgx.out]
    rw[if_neg hk1,if_neg hk2])
   go_wp2
   simp[bodyPost,results,go_sem,Tryz.results102]
   rw[hq.out]
   exact⟨_,_,h2,s2,rfl⟩
def ent (m:Ma) (p:Nat) (n:Int):En:=cB (bP m p).tb n
structure Pt (m:Ma):Prop where
 fr:di m.m=0
 sl:dn m.sl=0
 sw:bK m.sw=0
 dk:bK m.dk=0
 st:aR m.st=0
 swl:m.sw.blocks.length=m.sl.length
 dkl:(m.dk.blocks.length:Int)=m.st.count
 spl:m.sp.length≤4
 ar:∀s∈m.sp,(aZ s.ar).1=0
 tb:∀s∈m.sp,bI s.tb=0
theorem tQ {m:Ma} {p:Nat} (h:p<m.sp.length):m.sp[p]?=some (bP m p):=by
 unfold bP;rw[List.getD_eq_getElem?_getD,List.getElem?_eq_getElem h];rfl
theorem rF {m:Ma} {p:Nat} (h:p<m.sp.length):bP m p∈m.sp:=List.mem_of_getElem? (tQ h)
theorem iZ {m:Ma} {p:Nat} (h:m.sp.length≤p):bP m p=zSp:=by
 unfold bP;rw[List.getD_eq_getElem?_getD,List.getElem?_eq_none h];rfl
theorem Em {m:Ma} {s:Sp} (h:s∈m.sp):∃p,p<m.sp.length∧s=bP m p:=by
 obtain⟨i,hi,rfl⟩:=List.mem_iff_getElem.1 h
 refine⟨i,hi,?_⟩
 have:=tQ (m:=m) hi
 rw[List.getElem?_eq_getElem hi] at this
 exact Option.some.inj this
theorem Pt.tbN {m:Ma} (h:Pt m) (p:Nat):bI (bP m p).tb=0:=by
 rcases Nat.lt_or_ge p m.sp.length with hp|hp
 ·exact h.tb _ (rF hp)
 ·rw[iZ hp];decide
theorem Pt.arN {m:Ma} (h:Pt m) (p:Nat):(aZ (bP m p).ar).1=0:=by
 rcases Nat.lt_or_ge p m.sp.length with hp|hp
 ·exact h.ar _ (rF hp)
 ·rw[iZ hp];decide
theorem kY {m:Ma} (h:Pt m) (p:Nat) (n:Int):dC (ent m p n)=0:=kI (h.tbN p) n
theorem rM {m:Ma} (p:Nat) {n:Int} (h:n<0∨64≤n):ent m p n=zEn:=lS h
theorem bH (e:En):dC e=0↔(e.k=0∧e.n=0∧e.w=false)∨(e.k=1∧0≤e.n∧e.n<40)∨(e.k=2∧0≤e.n∧e.n<60∧e.w=false):=by
 obtain⟨k,n,w⟩:=e
 unfold dC
 simp only
 cases w
 all_goals
  simp only[Bool.false_eq_true,reduceCtorEq,and_true,and_false,or_false,false_or,or_true]
  constructor
  ·intro h
   split at h
   ·omega
   ·split at h
    ·omega
    ·split at h<;>omega
  ·intro h
   split
   ·omega
   ·split
    ·omega
    ·split
     ·omega
     ·rfl
theorem yu {m:Ma} {p:Nat} {t:Tb} (hp:p<m.sp.length) (q:Nat):bP (setTb m p t) q=if q=p then { bP m p with tb:=t } else bP m q:=by
 unfold setTb
 show (m.sp.set p _).getD q zSp=_
 rw[List.getD_eq_getElem?_getD,List.getElem?_set]
 by_cases e:q=p
 ·subst e;rw[if_pos rfl,if_pos hp,if_pos rfl];rfl
 ·rw[if_neg (fun h=>e h.symm),if_neg e];unfold bP;rw[List.getD_eq_getElem?_getD]
theorem Fj {m:Ma} {p:Nat} {t:Tb} (hp:p<m.sp.length) (q:Nat) (n:Int):ent (setTb m p t) q n=if q=p then cB t n else ent m q n:=by
 unfold ent
 rw[yu hp]
 by_cases e:q=p
 ·rw[if_pos e,if_pos e]
 ·rw[if_neg e,if_neg e]
theorem pK {m:Ma} {p:Nat} {t:Tb}:(setTb m p t).sp.length=m.sp.length:=List.length_set
theorem Pt.setTb {m:Ma} (h:Pt m) {p:Nat} {t:Tb} (ht:bI t=0):Pt (setTb m p t):=by
 by_cases hp:p<m.sp.length
 ·refine { h with spl:=by rw[pK];exact h.spl,ar:=fun s hs => ?_,tb:=fun s hs => ?_ }
  ·rcases List.mem_or_eq_of_mem_set hs with hs|rfl
   ·exact h.ar s hs
   ·exact h.arN p
  ·rcases List.mem_or_eq_of_mem_set hs with hs|rfl
   ·exact h.tb s hs
   ·exact ht
 ·have:Go.Proofs.YtjkkoeijlhfneaaGreat.setTb m p t=m:=by
   unfold Go.Proofs.YtjkkoeijlhfneaaGreat.setTb
   rw[List.set_eq_of_length_le (by omega)]
  rw[this];exact h
def kF (kd i:Int) (e:En):Bool:=decide (e.k=kd)&&decide (e.n=i)
def bX (m:Ma) (kd i:Int):Nat:=(m.sp.map fun s=>(bG s.tb).countP (kF kd i)).sum
def qY (b:Bool):Nat:=if b=true then 1 else 0
theorem countP_set {α:Type} (q:α→Bool):∀(l:List α) (k:Nat) (h:k<l.length) (x:α),(l.set k x).countP q+qY (q l[k])=l.countP q+qY (q x)
 | a::l,0,_,x=>by
  simp only[List.set_cons_zero,List.getElem_cons_zero,List.countP_cons,qY]
  omega
 | a::l,k+1,h,x=>by
  have:=countP_set q l k (by simpa using h) x
  simp only[List.set_cons_succ,List.getElem_cons_succ,List.countP_cons]
  omega
theorem sum_set:∀(l:List Nat) (k:Nat) (h:k<l.length) (x:Nat),(l.set k x).sum+l[k]=l.sum+x
 | a::l,0,_,x=>by simp only[List.set_cons_zero,List.getElem_cons_zero,List.sum_cons];omega
 | a::l,k+1,h,x=>by
  have:=sum_set l k (by simpa using h) x
  simp only[List.set_cons_succ,List.getElem_cons_succ,List.sum_cons]
  omega
theorem sj {t:Tb} {n:Int} {e:En} (h:setE t n e=0):bG (setT t n e)=(bG t).set n.toNat e:=by
 obtain⟨h1,h2,h3⟩:=nS h
 rw[wX h,wW (zQ h1 h3) (by rw[List.length_set,jh])]
theorem Dg {t:Tb} {n:Int} {e:En} (h:setE t n e=0) (q:En→Bool):(bG (setT t n e)).countP q+qY (q (cB t n))=(bG t).countP q+qY (q e):=by
 obtain⟨h1,h2,h3⟩:=nS h
 have hl:n.toNat<(bG t).length:=by rw[jh];omega
 have h4:=countP_set q (bG t) n.toNat hl e
 have h5:=sF t n.toNat (by omega)
 rw[List.getElem?_eq_getElem hl,Int.toNat_of_nonneg h2.1] at h5
 rw[Option.some.inj h5] at h4
 rw[sj h];exact h4
theorem mY {m:Ma} {p:Nat} (hp:p<m.sp.length) {n:Int} {x:En} (h:setE (bP m p).tb n x=0) (kd i:Int) :
  bX (setTb m p (setT (bP m p).tb n x)) kd i+qY (kF kd i (ent m p n))=bX m kd i+qY (kF kd i x):=by
 have h1:=Dg h (kF kd i)
 have h2:=sum_set (m.sp.map fun s=>(bG s.tb).countP (kF kd i)) p (by simpa using hp) ((bG (setT (bP m p).tb n x)).countP (kF kd i))
 unfold bX setTb
 rw[List.map_set]
 have h3:(m.sp.map fun s=>(bG s.tb).countP (kF kd i))[p]'(by simpa using hp)=(bG (bP m p).tb).countP (kF kd i):=by
  rw[List.getElem_map]
  have:=tQ hp
  rw[List.getElem?_eq_getElem hp] at this
  rw[Option.some.inj this]
 rw[h3] at h2
 have h4:qY (kF kd i (ent m p n))=qY (kF kd i (cB (bP m p).tb n)):=rfl
 simp only
 omega
theorem LJ {l:List Nat}:0<l.sum↔∃k,∃h:k<l.length,0<l[k]:=by
 induction l with
 | nil=>simp
 | cons a l ih=>
  rw[List.sum_cons]
  constructor
  ·intro h
   by_cases ha:0<a
   ·exact⟨0,by simp,by simpa using ha⟩
   ·obtain⟨k,hk,hx⟩:=ih.1 (by omega)
    exact⟨k+1,by simpa using hk,by simpa using hx⟩
  ·rintro⟨k,hk,hx⟩
   cases k with
   | zero=>simp at hx;omega
   | succ k=>
    have:=ih.2 ⟨k,by simpa using hk,by simpa using hx⟩
    omega
theorem kQ {m:Ma} {kd i:Int} (hk:kd≠0):0<bX m kd i↔∃p n,p<m.sp.length∧(0≤n∧n<64)∧(ent m p n).k=kd∧(ent m p n).n=i:=by
 unfold bX
 rw[LJ]
 constructor
 ·rintro⟨p,hp,h⟩
  have hp' : p<m.sp.length:=by simpa using hp
  rw[List.getElem_map] at h
  obtain⟨e,he,hq⟩:=List.countP_pos_iff.1 h
  obtain⟨j,hj,rfl⟩:=List.mem_iff_getElem.1 he
  have hj' : j<64:=by rw[jh] at hj;exact hj
  have hs:m.sp[p]=bP m p:=by
   have:=tQ hp'
   rw[List.getElem?_eq_getElem hp'] at this
   exact Option.some.inj this
  have h5:=sF m.sp[p].tb j hj'
  rw[List.getElem?_eq_getElem hj] at h5
  rw[Option.some.inj h5,hs] at hq
  unfold kF at hq
  simp only[Bool.and_eq_true,decide_eq_true_eq] at hq
  exact⟨p,j,hp',by omega,hq.1,hq.2⟩
 ·rintro⟨p,n,hp,hn,h1,h2⟩
  refine⟨p,by simpa using hp,?_⟩
  rw[List.getElem_map,List.countP_pos_iff]
  have hs:m.sp[p]=bP m p:=by
   have:=tQ hp
   rw[List.getElem?_eq_getElem hp] at this
   exact Option.some.inj this
  refine⟨ent m p n,?_,by unfold kF;rw[h1,h2];simp⟩
  rw[hs]
  have h5:=sF (bP m p).tb n.toNat (by omega)
  rw[Int.toNat_of_nonneg hn.1] at h5
  exact List.mem_of_getElem? h5
theorem zt {m:Ma} {f:Nat} (h:f<m.m.fs.length):m.m.fs[f]?=some (bB m f):=by
 unfold bB;rw[List.getD_eq_getElem?_getD,List.getElem?_eq_getElem h];rfl
theorem Kv {m:Ma} {f:Nat} (h:f<m.m.fs.length):bB m f∈m.m.fs:=List.mem_of_getElem? (zt h)
theorem Ku {m:Ma} {f:Nat} (h:m.m.fs.length≤f):bB m f=fr0:=by
 unfold bB;rw[List.getD_eq_getElem?_getD,List.getElem?_eq_none h];rfl
theorem vC {m:Ma} {f:Nat} {x:Fr} (h:f<m.m.fs.length) (g:Nat):bB (setFr m f x) g=if g=f then x else bB m g:=by
 unfold bB setFr
 simp only
 rw[List.getD_eq_getElem?_getD,List.getElem?_set]
 by_cases e:g=f
 ·subst e;rw[if_pos rfl,if_pos h,if_pos rfl];rfl
 ·rw[if_neg (fun e'=>e e'.symm),if_neg e,List.getD_eq_getElem?_getD]
theorem mZ {m:Ma} {f:Nat} {x:Fr}:(setFr m f x).m.fs.length=m.m.fs.length:=List.length_set
theorem Pt.frE {m:Ma} (h:Pt m) {f:Nat} (hf:f<m.m.fs.length):dD (bB m f)=0:=((eB _).1 h.fr).2.1 _ (Kv hf)
theorem Pt.setFr {m:Ma} (h:Pt m) {f:Nat} {x:Fr} (hx:dD x=0):Pt (setFr m f x):={ h with fr:=Kh h.fr hx }
theorem BM {x:Fr} {n:Int} (h:dD x=0) (hr:x.r≠0) (h1 : -x.r≤n) (h2:n≤1000-x.r):dD (iU x n)=0:=by
 unfold iU
 by_cases h0:x.r+n=0
 ·rw[if_pos h0];decide
 ·rw[if_neg h0,iy]
  have:=(iy x).1 h
  refine⟨by simp only;omega,fun h3=>absurd h3 h0,this.2.2⟩
theorem Ka {m:Mem} {k n:Int} (h:di m=0) (hk:0≤k∧k<m.fs.length) (hr:(m.fs.getD k.toNat fr0).r≠0) (h1 : -(m.fs.getD k.toNat fr0).r≤n) (h2:n≤1000-(m.fs.getD k.toNat fr0).r):jk m k n=0:=by
 unfold jk
 rw[if_neg (by rw[h];simp),if_neg (by omega),if_neg (by omega)]
theorem AA {k:Kp} {f:Nat} {n:Int} (h:Pt k.m) (hf:f<k.m.m.fs.length) (hr:(bB k.m f).r≠0) (h1 : -(bB k.m f).r≤n) (h2:n≤1000-(bB k.m f).r) :
  eZ k f n=⟨setFr k.m f (iU (bB k.m f) n),k.e⟩∧Pt (setFr k.m f (iU (bB k.m f) n)):=by
 have h0:jk k.m.m (f:Int) n=0:=Ka h.fr (by omega) hr h1 h2
 refine⟨?_,h.setFr (BM (h.frE hf) hr h1 h2)⟩
 unfold eZ
 rw[if_pos h0]
 congr 1
 unfold jq
 rw[if_pos h0]
 rfl
def fK (m:Ma) (s:Nat):Int:=m.sl.getD s 0
def setSl (m:Ma) (s:Nat) (n:Int):Ma:={ m with sl:=m.sl.set s n }
theorem MG {m:Ma} {f:Nat} (h:f<m.sl.length):m.sl[f]?=some (fK m f):=by
 unfold fK;rw[List.getD_eq_getElem?_getD,List.getElem?_eq_getElem h];rfl
theorem zw {m:Ma} {f:Nat} {x:Int} (h:f<m.sl.length) (g:Nat):fK (setSl m f x) g=if g=f then x else fK m g:=by
 unfold fK setSl
 simp only
 rw[List.getD_eq_getElem?_getD,List.getElem?_set]
 by_cases e:g=f
 ·subst e;rw[if_pos rfl,if_pos h,if_pos rfl];rfl
 ·rw[if_neg (fun e'=>e e'.symm),if_neg e,List.getD_eq_getElem?_getD]
theorem Pt.slB {m:Ma} (h:Pt m) (s:Nat):0≤fK m s∧fK m s≤1000:=by
 rcases Nat.lt_or_ge s m.sl.length with hs|hs
 ·have:=vO h.sl _ (List.mem_of_getElem? (MG hs))
  unfold lu at this
  simp only[Bool.or_eq_false_iff,decide_eq_false_iff_not] at this
  omega
 ·unfold fK;rw[List.getD_eq_getElem?_getD,List.getElem?_eq_none hs];simp
theorem Pt.setSl {m:Ma} (h:Pt m) {s:Nat} {n:Int} (h0:0≤n) (h1:n≤1000):Pt (setSl m s n):=
 { h with sl:=Cs s n h.sl h0 h1,swl:=h.swl.trans List.length_set.symm }
theorem FD {k:Kp} {s:Nat} {n:Int} (h:Pt k.m) (hs:s<k.m.sl.length) (hr:fK k.m s≠0) (h1 : -(fK k.m s)≤n) (h2:n≤1000-fK k.m s) :
  nH k s n=⟨setSl k.m s (fK k.m s+n),k.e⟩∧Pt (setSl k.m s (fK k.m s+n)):=by
 have e1:xU k.m.sl (s:Int)=fK k.m s:=rfl
 have h0:bM k.m.sl (s:Int) n=0:=by
  unfold bM
  rw[if_neg (by rw[h.sl];simp),if_neg (by rw[e1];omega),if_neg (by rw[e1];omega)]
 refine⟨?_,h.setSl (by omega) (by omega)⟩
 unfold nH
 rw[if_pos h0]
 congr 1
 unfold bA
 rw[if_pos h0]
 rfl
theorem gH {k:Kp} {p:Nat} {n:Int} {x:En} (h:Pt k.m) (hn:0≤n∧n<64) (hx:dC x=0) :
  setE (bP k.m p).tb n x=0∧fB k p n x=⟨setTb k.m p (setT (bP k.m p).tb n x),k.e⟩∧Pt (setTb k.m p (setT (bP k.m p).tb n x)):=by
 have h0:=Ec (h.tbN p) hn hx
 refine⟨h0,?_,h.setTb (qP h0)⟩
 unfold fB
 rw[if_pos h0]
theorem jH {m:Ma} {p:Nat} {n:Int} {x:En} (hp:p<m.sp.length) (h:setE (bP m p).tb n x=0) (q:Nat) (j:Int):ent (setTb m p (setT (bP m p).tb n x)) q j=if q=p∧j=n then x else ent m q j:=by
 rw[Fj hp]
 by_cases e:q=p
 ·subst e
  rw[if_pos rfl,Jb h]
  by_cases e2:j=n
  ·rw[if_pos e2,if_pos ⟨rfl,e2⟩]
  ·rw[if_neg e2,if_neg (fun h'=>e2 h'.2)];rfl
 ·rw[if_neg e,if_neg (fun h'=>e h'.1)]
structure gI (m m' : Ma):Prop where
 len:m'.sp.length=m.sp.length
 lv:∀p,(bP m' p).lv=(bP m p).lv
 ar:∀p,(bP m' p).ar=(bP m p).ar
theorem gI.refl (m:Ma):gI m m:=⟨rfl,fun _=>rfl,fun _=>rfl⟩
theorem gI.trans {a b c:Ma} (h:gI a b) (k:gI b c):gI a c:=⟨k.len.trans h.len,fun p=>(k.lv p).trans (h.lv p),fun p=>(k.ar p).trans (h.ar p)⟩
theorem gI.of {m m' : Ma} (h:m'.sp=m.sp):gI m m':=⟨by rw[h],fun p=>by unfold bP;rw[h],fun p=>by unfold bP;rw[h]⟩
theorem gI.setTb {m:Ma} {p:Nat} {t:Tb}:gI m (setTb m p t):=by
 by_cases hp:p<m.sp.length
 ·refine⟨pK,fun q => ?_,fun q => ?_⟩
  all_goals
   rw[yu hp]
   by_cases e:q=p
   ·rw[if_pos e,e]
   ·rw[if_neg e]
 ·have:Go.Proofs.YtjkkoeijlhfneaaGreat.setTb m p t=m:=by
   unfold Go.Proofs.YtjkkoeijlhfneaaGreat.setTb
   rw[List.set_eq_of_length_le (by omega)]
  rw[this];exact .refl _
theorem Fz {α β:Type} {f:α→β} (hf:∀a b,f a=f b→a=b) {l:List α} (h:l.Nodup):(l.map f).Nodup:=List.Pairwise.map _ (fun a b hne e=>hne (hf a b e)) h
theorem gW {t:Tb} {n:Int}:n∈aI t↔(0≤n∧n<64)∧(cB t n).k≠0:=by
 unfold aI fQ
 simp only[List.mem_map,List.mem_filter,List.mem_range,jw,decide_eq_true_eq]
 constructor
 ·rintro⟨j,⟨h1,h2⟩,rfl⟩
  exact⟨by omega,h2⟩
 ·rintro⟨h1,h2⟩
  refine⟨n.toNat,⟨by omega,?_⟩,by omega⟩
  rw[Int.toNat_of_nonneg h1.1];exact h2
theorem BP (t:Tb):(aI t).Nodup:=by
 unfold aI fQ
 exact Fz (fun a b h=>by have h' : (a:Int)=b:=h;omega) (List.nodup_range.filter _)
theorem BX {t:Tb} {kd i:Int} (hk:kd≠0):(EB t kd i).length=(bG t).countP (kF kd i):=by
 unfold EB aI fQ bG
 rw[←List.countP_eq_length_filter,List.countP_map,List.countP_filter,List.countP_map]
 congr 1
 funext n
 simp only[Function.comp_apply,Ag,kF,jw,Bool.not_or]
 rw[Bool.eq_iff_iff]
 simp only[Bool.and_eq_true,Bool.not_eq_true',decide_eq_false_iff_not,Classical.not_not,decide_eq_true_eq]
 constructor
 ·rintro⟨h,_⟩;exact h
 ·intro h;exact⟨h,by rw[h.1];exact hk⟩
def BV (s:St) (f i:Int):Prop:=(0≤f∧f<s.fs.length)∧0≤i∧i<(aV s f).b.length
theorem jZ {s:St} {F:Nat} {x:Fi} (h:s.fs[F]?=some x):aV s F=x:=by
 unfold aV
 rw[if_pos (by omega),Int.toNat_natCast,List.getD_eq_getElem?_getD,h];rfl
theorem Bh {s:St} {f:Int} (h:0≤f∧f<s.fs.length):s.fs[f.toNat]?=some (aV s f):=by
 unfold aV
 rw[if_pos h.1,List.getD_eq_getElem?_getD,List.getElem?_eq_getElem (by omega)];rfl
theorem vL {s:St} (h:aR s=0) {f:Int} (hf:0≤f∧f<s.fs.length):wU s.count (aV s f):=(mi.1 h).2.1 _ (List.mem_of_getElem? (Bh hf))
theorem zY {s:St} (h:aR s=0) {f i:Int} (hi:BV s f i):f<5∧i<12∧i*8<(aV s f).n∧(aV s f).n≤96:=by
 have h1:=(mi.1 h).1
 obtain⟨a1,a2,a3,_⟩:=vL h hi.1
 have h2:=hi.1;have h3:=hi.2
 rw[a3] at h3
 unfold dA at h3
 split at h3<;>omega
theorem BV.same {s s' : St} {f i:Int} (h:BV s f i) (h1:s'.fs.length=s.fs.length) (h2:∀g,(aV s' g).b.length=(aV s g).b.length):BV s' f i:=⟨by rw[h1];exact h.1,by rw[h2];exact h.2⟩
def iV (m:Ma) (p:Nat) (n:Int):Option Pg:=onA (bP m p).ar n
def xP (a b:Cc):Prop:=a.f<b.f∨a.f=b.f∧a.i<b.i
def KH (x:Fr) (g:Pg) (w:Bool):Prop:=
 (0≤x.f→x.f=g.fi∧x.i=g.pg)∧(g.sh=true→0≤x.f)∧(w=true→g.wr=true)∧(w=true→0≤x.f→g.sh=true)∧(w=true→x.f<0→x.r≤1)
structure JY (m:Ma) (g:Pg) (e:En):Prop where
 sw:e.k=2→e.n<m.sl.length∧g.sh=false
 lt:e.k=1→e.n<m.m.fs.length
 fr:e.k=1→KH (bB m e.n.toNat) g e.w
structure rT (m:Ma):Prop where
 file:∀c∈m.ca,BV m.st c.f c.i
 lt:∀c∈m.ca,0≤c.k∧c.k<m.m.fs.length
 fr:∀c∈m.ca,1≤(bB m c.k.toNat).r∧(bB m c.k.toNat).f=c.f∧(bB m c.k.toNat).i=c.i
 srt:m.ca.Pairwise xP
def sW (m:Ma) (i:Int):Nat:=m.ca.countP fun c=>decide (c.k=i)
structure Rt (m:Ma):Prop where
 pt:Pt m
 trim:(∀b:Int,0≤b→b<m.dk.blocks.length→b∈jY m.st∨m.dk.blocks.getD b.toNat zPg=zPg)∧∀q∈m.dk.queue,q.1∈jY m.st
 live:∀p,(bP m p).lv=false→(bP m p).ar=[]∧∀n,(ent m p n).k=0
 ca:rT m
 en:∀p n,(ent m p n).k≠0→∃g,iV m p n=some g∧JY m g (ent m p n)
 cf:∀i:Nat,i<m.m.fs.length→(bB m i).r=sW m i+bX m 1 i
 fc:∀i:Nat,i<m.m.fs.length→0≤(bB m i).f→∃c∈m.ca,c.k=i
 cs:∀s:Nat,s<m.sl.length→fK m s=bX m 2 s
structure Co (m:Ma):Prop where
 tail:∀c∈m.ca,dS (bB m c.k.toNat).p ((aV m.st c.f).n-c.i*8)=(bB m c.k.toNat).p
 clean:∀c∈m.ca,(bB m c.k.toNat).d=false→(bB m c.k.toNat).p=jE m c.f c.i
 anon:∀i:Nat,i<m.m.fs.length→(bB m i).d=true→0≤(bB m i).f
def fJ (m:Ma) (p:Nat) (n:Int):Page × Bool × Int:=
 match iV m p n with
 | none=>(zPg,false,5)
 | some g=>
  if (ent m p n).k=1 then ((jQ m (ent m p n).n).p,decide ((jQ m (ent m p n).n).f<0),0)
  else if (ent m p n).k=2 then (iJ m.sw (ent m p n).n,true,fu m.sw (ent m p n).n)
  else if g.fi<0 then (zPg,false,0)
  else if (m.st.fs.length:Int)≤g.fi∨tC m.st g.fi g.pg=true then (zPg,false,9)
  else (aY m g.fi g.pg,false,0)
theorem KZ (a:Cc):¬xP a a:=fun h=>by unfold xP at h;omega
theorem srt_eq:∀ {l:List Cc},l.Pairwise xP→∀ {a b:Cc},a∈l→b∈l→a.f=b.f→a.i=b.i→a=b
 | [],_,_,_,h,_,_,_=>by cases h
 | c::l,hs,a,b,ha,hb,e1,e2=>by
  obtain⟨h1,h2⟩:=List.pairwise_cons.1 hs
  rcases List.mem_cons.1 ha with e|ha<;>rcases List.mem_cons.1 hb with e' | hb
  ·rw[e,e']
  ·have:=h1 b hb;rw[e] at e1 e2;unfold xP at this;omega
  ·have:=h1 a ha;rw[e'] at e1 e2;unfold xP at this;omega
  ·exact srt_eq h2 ha hb e1 e2
theorem rT.uniq {m:Ma} (h:rT m) {a b:Cc} (ha:a∈m.ca) (hb:b∈m.ca) (hk:a.k=b.k):a=b:=by
 have h1:=h.fr a ha
 have h2:=h.fr b hb
 rw[hk] at h1
 exact srt_eq h.srt ha hb (h1.2.1.symm.trans h2.2.1) (h1.2.2.symm.trans h2.2.2)
theorem uz {k:Int}:∀ {l:List Cc},l.Pairwise xP→(∀a∈l,∀b∈l,a.k=b.k→a=b)→l.countP (fun c=>decide (c.k=k))≤1
 | [],_,_=>Nat.zero_le _
 | c::l,hs,hu=>by
  obtain⟨h1,h2⟩:=List.pairwise_cons.1 hs
  have ih:=uz (k:=k) h2 (fun a ha b hb=>hu a (List.mem_cons_of_mem _ ha) b (List.mem_cons_of_mem _ hb))
  rw[List.countP_cons]
  by_cases hc:c.k=k
  ·rw[if_pos (by simpa using hc)]
   have:l.countP (fun c=>decide (c.k=k))=0:=by
    rw[List.countP_eq_zero]
    intro d hd hdk
    have e:=hu c List.mem_cons_self d (List.mem_cons_of_mem _ hd) (by rw[hc];exact (of_decide_eq_true hdk).symm)
    have:=h1 d hd
    rw[←e] at this
    exact KZ _ this
   omega
  ·rw[if_neg (by simpa using hc)];omega
theorem rT.one {m:Ma} (h:rT m) {c:Cc} (hc:c∈m.ca):sW m c.k=1:=by
 have h1:=uz (k:=c.k) h.srt (fun a ha b hb=>h.uniq ha hb)
 have h2:0<m.ca.countP (fun d=>decide (d.k=c.k)):=List.countP_pos_iff.2 ⟨c,hc,by simp⟩
 unfold sW;omega
theorem zV {f i:Int} {c:Cc}:Ha f i c=true↔f<c.f∨c.f=f∧i≤c.i:=by unfold Ha;simp
theorem Kj (l:List Cc) (f i:Int):Cq l f i≤l.length:=by
 unfold Cq
 cases h:l.findIdx? (Ha f i) with
 | none=>exact Nat.le_refl _
 | some k=>exact Nat.le_of_lt (List.findIdx?_eq_some_iff_getElem.1 h).1
def uD (m:Ma) (f i:Int):Option Cc:=m.ca.find? fun c=>decide (c.f=f)&&decide (c.i=i)
theorem GU {m:Ma} (h:rT m) {c:Cc} (hc:c∈m.ca):uD m c.f c.i=some c:=by
 cases hl:uD m c.f c.i with
 | none=>
  have:=List.find?_eq_none.1 hl c hc
  simp at this
 | some d=>
  have h1:=List.find?_some hl
  simp only[Bool.and_eq_true,decide_eq_true_eq] at h1
  rw[srt_eq h.srt (List.mem_of_find?_eq_some hl) hc h1.1 h1.2]
theorem Ff {m:Ma} {f i:Int} (h:∀c∈m.ca,¬(c.f=f∧c.i=i)):uD m f i=none:=by
 unfold uD
 rw[List.find?_eq_none]
 intro c hc hk
 simp only[Bool.and_eq_true,decide_eq_true_eq] at hk
 exact h c hc hk
theorem DD (m:Ma) (f i:Int):(∃c,uD m f i=some c∧c∈m.ca∧c.f=f∧c.i=i)∨(uD m f i=none∧∀c∈m.ca,¬(c.f=f∧c.i=i)):=by
 cases hl:uD m f i with
 | none=>
  refine .inr ⟨rfl,fun c hc hk => ?_⟩
  have:=List.find?_eq_none.1 hl c hc
  simp only[Bool.and_eq_true,decide_eq_true_eq] at this
  exact this hk
 | some d=>
  have h1:=List.find?_some hl
  simp only[Bool.and_eq_true,decide_eq_true_eq] at h1
  exact .inl ⟨d,rfl,List.mem_of_find?_eq_some hl,h1⟩
theorem xu (m:Ma) (f i:Int):aY m f i=match uD m f i with
  | some c=>(jQ m c.k).p
  | none=>jE m f i:=rfl
theorem xg {m:Ma} (h:rT m) {c:Cc} (hc:c∈m.ca):aY m c.f c.i=(bB m c.k.toNat).p:=by
 rw[xu,GU h hc];rfl
theorem uE {m:Ma} {f i:Int} (h:∀c∈m.ca,¬(c.f=f∧c.i=i)):aY m f i=jE m f i:=by
 rw[xu,Ff h]
theorem vP {m:Ma} (k:Nat):jQ m (k:Int)=bB m k:=rfl
theorem zZ {l:List Ar} {n:Int} (h:0≤fw l n):onA l n=some (gJ (l.getD (fw l n).toNat zAr) n)∧jP n (l.getD (fw l n).toNat zAr)=true:=by
 induction l with
 | nil=>unfold fw idx at h;simp at h
 | cons a r ih=>
  rw[bN]
  by_cases ha:jP n a=true
  ·have h0:fw (a::r) n=0:=by unfold fw idx;rw[List.findIdx?_cons,if_pos ha];rfl
   rw[h0,if_pos ha]
   exact⟨rfl,ha⟩
  ·have h1:fw (a::r) n=if 0≤fw r n then fw r n+1 else -1:=by
    unfold fw idx
    rw[List.findIdx?_cons,if_neg ha]
    cases r.findIdx? (jP n) with
    | none=>rfl
    | some k=>
     simp only[Option.map_some]
     rw[if_pos (by omega)]
     rfl
   rw[if_neg ha]
   by_cases h2:0≤fw r n
   ·rw[h1,if_pos h2]
    have e:(fw r n+1).toNat=(fw r n).toNat+1:=by omega
    rw[e]
    exact ih h2
   ·rw[h1,if_neg h2] at h
    omega
def CL (m:Ma) (g:Pg) (e:En):Page × Bool × Int:=
 if e.k=1 then ((jQ m e.n).p,decide ((jQ m e.n).f<0),0)
 else if e.k=2 then (iJ m.sw e.n,true,fu m.sw e.n)
 else if g.fi<0 then (zPg,false,0)
 else if (m.st.fs.length:Int)≤g.fi∨tC m.st g.fi g.pg=true then (zPg,false,9)
 else (aY m g.fi g.pg,false,0)
theorem pz {m:Ma} {p:Nat} {n:Int} {g:Pg} (h:iV m p n=some g):fJ m p n=CL m g (ent m p n):=by
 unfold fJ;rw[h];rfl
theorem pM {m:Ma} {p:Nat} {n:Int} (h:iV m p n=none):fJ m p n=(zPg,false,5):=by
 unfold fJ;rw[h]
theorem pg_in:∀ {l:List Ar} {lo:Int} {n:Int} {g:Pg},srtF lo l→onA l n=some g→0≤g.pg∧g.pg<12∧-1≤g.fi∧g.fi<5∧(g.fi<0→g.sh=false∧g.pg=0)∧0≤n∧n<64
 | [],_,_,_,_,h=>by cases h
 | a::r,lo,n,g,hs,h=>by
  rw[bN] at h
  by_cases ha:jP n a=true
  ·rw[if_pos ha] at h
   have h1:=bW.1 ha
   have h2:=hs.1
   unfold aO at h2
   split at h2
   ·cases h2
   ·split at h2
    ·cases h2
    ·rename_i h3 h4
     cases h
     unfold gJ
     simp only
     have h5:¬(a.fi<0∧(a.ba≠0∨a.sh=true)):=fun h=>h4 (.inl h)
     have h6:¬(0≤a.fi∧12-(a.en-a.fr)<a.ba):=fun h=>h4 (.inr h)
     refine⟨?_,?_,by omega,by omega,fun h7=>⟨?_,if_neg (by omega)⟩,by omega,by omega⟩
     ·split<;>omega
     ·split<;>omega
     ·cases hsh:a.sh with
      | false=>rfl
      | true=>exact absurd ⟨h7,.inr hsh⟩ h5
  ·rw[if_neg ha] at h
   exact pg_in hs.2.2 h
theorem Pt.pg {m:Ma} (h:Pt m) {p:Nat} {n:Int} {g:Pg} (hg:iV m p n=some g):0≤g.pg∧g.pg<12∧-1≤g.fi∧g.fi<5∧(g.fi<0→g.sh=false∧g.pg=0)∧0≤n∧n<64:=
 pg_in (iX (fe.1 (h.arN p)).2) hg
theorem EG {s:St} (h:aR s=0) {f i:Int} (hf:0≤f) (hi:0≤i) (hn:¬((s.fs.length:Int)≤f∨tC s f i=true)):BV s f i:=by
 have h1:¬(s.fs.length:Int)≤f:=fun h=>hn (.inl h)
 have h2:¬tC s f i=true:=fun h=>hn (.inr h)
 have h3:=(vL h (f:=f) (by omega)).2.2.1
 refine⟨by omega,hi,?_⟩
 rw[h3]
 unfold tC at h2
 simpa using h2
theorem Cr {s:St} (h:aR s=0) {f i:Int} (hi:BV s f i):¬((s.fs.length:Int)≤f∨tC s f i=true):=by
 have h3:=(vL h hi.1).2.2.1
 have h4:=hi.1;have h5:=hi.2
 rintro (h|h)
 ·omega
 ·unfold tC at h
  have:=of_decide_eq_true h
  omega
structure rH (s s' : St):Prop where
 len:s'.fs.length=s.fs.length
 size:∀f,(aV s' f).n=(aV s f).n
 lenb:∀f,(aV s' f).b.length=(aV s f).b.length
theorem rH.refl (s:St):rH s s:=⟨rfl,fun _=>rfl,fun _=>rfl⟩
theorem Gp {s s' : St} (h:rH s s') (f i:Int):tC s' f i=tC s f i:=by unfold tC;rw[h.size]
theorem Bc {m m' : Ma} {g:Pg} {e:En} (hw:aR m.st=0) (hg:0≤g.pg) (hf:rH m.st m'.st) (hc:∀f i,BV m.st f i→aY m' f i=aY m f i)
  (h1:e.k=1→(jQ m' e.n).p=(jQ m e.n).p∧(jQ m' e.n).f=(jQ m e.n).f) (h2:e.k=2→iJ m'.sw e.n=iJ m.sw e.n∧fu m'.sw e.n=fu m.sw e.n):CL m' g e=CL m g e:=by
 unfold CL
 by_cases k1:e.k=1
 ·rw[if_pos k1,if_pos k1,(h1 k1).1,(h1 k1).2]
 ·rw[if_neg k1,if_neg k1]
  by_cases k2:e.k=2
  ·rw[if_pos k2,if_pos k2,(h2 k2).1,(h2 k2).2]
  ·rw[if_neg k2,if_neg k2,hf.len,Gp hf]
   by_cases g0:g.fi<0
   ·rw[if_pos g0,if_pos g0]
   ·rw[if_neg g0,if_neg g0]
    by_cases he:(m.st.fs.length:Int)≤g.fi∨tC m.st g.fi g.pg=true
    ·rw[if_pos he,if_pos he]
    ·rw[if_neg he,if_neg he,hc _ _ (EG hw (by omega) hg he)]
theorem kD (n:Int):cB zTb n=zEn:=by
 by_cases h:0≤n∧n<64
 ·obtain⟨q,r,hq,hr,rfl,_,_⟩:=pu h
  exact uk hq hr (by simp[zTb])
 ·exact lS (by omega)
theorem ME {m m' : Ma} (h:m'.m=m.m) (g:Nat):bB m' g=bB m g:=by unfold bB;rw[h]
theorem kW {m:Ma} {p:Nat} {n:Int} (h:(ent m p n).k≠0):p<m.sp.length∧0≤n∧n<64:=by
 refine⟨?_,?_⟩
 ·rcases Nat.lt_or_ge p m.sp.length with hp|hp
  ·exact hp
  ·refine absurd ?_ h
   unfold ent
   rw[iZ hp,show zSp.tb=zTb from rfl,kD];rfl
 ·by_cases hn:n<0∨64≤n
  ·exact absurd (by rw[rM p hn];rfl) h
  ·omega
theorem zl {α:Type} {q:α→Bool} {l:List α} (h:0≤idx q l):∃k:Nat,idx q l=k∧∃hk:k<l.length,q l[k]=true:=by
 unfold idx at h ⊢
 cases hf:l.findIdx? q with
 | none=>rw[hf] at h;simp at h
 | some k=>
  obtain⟨hk,hq,_⟩:=List.findIdx?_eq_some_iff_getElem.1 hf
  exact⟨k,rfl,hk,hq⟩
theorem Ea (p:Page) (n:Int):dS (dS p n) n=dS p n:=by
 apply Vector.ext
 intro i hi
 simp only[dS,Vector.getElem_ofFn]
 split<;>rfl
theorem II (n:Int):dS zPg n=zPg:=by
 apply Vector.ext
 intro i hi
 simp only[dS,Vector.getElem_ofFn]
 have hz:zPg[i]=0:=by
  match i,hi with
  | 0,_=>rfl
  | 1,_=>rfl
  | 2,_=>rfl
  | 3,_=>rfl
  | 4,_=>rfl
  | 5,_=>rfl
  | 6,_=>rfl
  | 7,_=>rfl
  | n+8,h=>omega
 split<;>rw[hz]
theorem FM (m:Ma) (f i:Int):dS (jE m f i) ((aV m.st f).n-i*8)=jE m f i:=by
 unfold jE
 split
 ·exact Ea _ _
 ·exact II _
theorem xy {f i k:Int}:∀ {l:List Cc},l.Pairwise xP→(∀c∈l,¬(c.f=f∧c.i=i))→(l.insertIdx (Cq l f i) ⟨f,i,k⟩).Pairwise xP
 | [],_,_=>by simp[Cq]
 | c::l,hs,hno=>by
  obtain⟨h1,h2⟩:=List.pairwise_cons.1 hs
  have hnc:=hno c List.mem_cons_self
  by_cases hg:Ha f i c=true
  ·have:Cq (c::l) f i=0:=by unfold Cq;rw[List.findIdx?_cons,if_pos hg];rfl
   rw[this,List.insertIdx_zero]
   have hlt:xP ⟨f,i,k⟩ c:=by
    have:=zV.1 hg
    unfold xP
    simp only
    omega
   refine List.pairwise_cons.2 ⟨fun d hd => ?_,hs⟩
   rcases List.mem_cons.1 hd with rfl|hd
   ·exact hlt
   ·have:=h1 d hd
    unfold xP at this hlt ⊢
    omega
  ·have:Cq (c::l) f i=Cq l f i+1:=by
    unfold Cq
    rw[List.findIdx?_cons,if_neg hg]
    cases l.findIdx? (Ha f i)<;>rfl
   rw[this,List.insertIdx_succ_cons]
   refine List.pairwise_cons.2 ⟨fun d hd => ?_,xy h2 fun d hd=>hno d (List.mem_cons_of_mem _ hd)⟩
   rcases (List.mem_insertIdx (Kj l f i)).1 hd with rfl|hd
   ·have:¬(f<c.f∨c.f=f∧i≤c.i):=fun h=>hg (zV.2 h)
    unfold xP
    simp only
    omega
   ·exact h1 d hd
theorem qC {α:Type} (q:α→Bool) (x:α):∀(l:List α) (j:Nat),j≤l.length→(l.insertIdx j x).countP q=l.countP q+qY (q x)
 | l,0,_=>by rw[List.insertIdx_zero,List.countP_cons];rfl
 | [],j+1,h=>by simp at h
 | a::l,j+1,h=>by
  rw[List.insertIdx_succ_cons,List.countP_cons,List.countP_cons,qC q x l j (by simpa using h)]
  omega
theorem firstE_zero:∀ {l:List Int},firstE l=0↔∀x∈l,x=0
 | []=>by simp[firstE]
 | x::l=>by
  unfold firstE
  by_cases hx:x=0
  ·rw[if_pos hx,firstE_zero]
   constructor
   ·intro h y hy
    rcases List.mem_cons.1 hy with e|hy
    ·rw[e,hx]
    ·exact h y hy
   ·exact fun h y hy=>h y (List.mem_cons_of_mem _ hy)
  ·rw[if_neg hx]
   exact⟨fun h=>absurd h hx,fun h=>absurd (h x List.mem_cons_self) hx⟩
theorem jd {p:Prop} [Decidable p] {a b:Int} (ha:a≠0):(if p then a else b)=0↔¬p∧b=0:=by
 by_cases h:p
 ·rw[if_pos h];exact⟨fun h'=>absurd h' ha,fun h'=>absurd h h'.1⟩
 ·rw[if_neg h];exact⟨fun h'=>⟨h,h'⟩,fun h'=>h'.2⟩
theorem iR {a b:Int}:(if a≠0 then a else b)=0↔a=0∧b=0:=by
 by_cases h:a=0
 ·rw[if_neg (fun h'=>h' h)];exact⟨fun h'=>⟨h,h'⟩,fun h'=>h'.2⟩
 ·rw[if_pos h];exact⟨fun h'=>absurd h' h,fun h'=>absurd h'.1 h⟩
theorem uU {s:Sp}:gu s=0↔(aZ s.ar).1=0∧bI s.tb=0∧(s.lv=false→s.ar=[]∧∀n,(cB s.tb n).k=0):=by
 unfold gu
 rw[iR,iR,jd (by decide)]
 refine and_congr_right fun _=>and_congr_right fun _ => ?_
 constructor
 ·rintro⟨h,_⟩ hl
  have h1:s.ar.length+(aI s.tb).length=0:=by
   rcases Nat.eq_zero_or_pos (s.ar.length+(aI s.tb).length) with h0|h0
   ·exact h0
   ·exact absurd ⟨hl,h0⟩ h
  refine⟨List.eq_nil_of_length_eq_zero (by omega),fun n => ?_⟩
  by_cases hn:0≤n∧n<64
  ·have h2:aI s.tb=[]:=List.eq_nil_of_length_eq_zero (by omega)
   by_cases hk:(cB s.tb n).k=0
   ·exact hk
   ·have:=gW.2 ⟨hn,hk⟩
    rw[h2] at this;cases this
  ·rw[lS (by omega)];rfl
 ·refine fun h=>⟨?_,rfl⟩
  rintro⟨hl,h0⟩
  obtain⟨h1,h2⟩:=h hl
  have h3:aI s.tb=[]:=by
   rw[List.eq_nil_iff_forall_not_mem]
   intro n hn
   exact (gW.1 hn).2 (h2 n)
  rw[h1,h3] at h0
  exact absurd h0 (by simp)
theorem yx {m:Ma}:trimB m=true↔(∀b:Int,0≤b→b<m.dk.blocks.length→b∈jY m.st∨m.dk.blocks.getD b.toNat zPg=zPg)∧∀q∈m.dk.queue,q.1∈jY m.st:=by
 unfold trimB
 rw[Bool.and_eq_true,List.all_eq_true,List.all_eq_true]
 refine and_congr ⟨fun h b h0 hb => ?_,fun h b hb => ?_⟩ ⟨fun h q hq=>by simpa using h q hq,fun h q hq=>by simpa using h q hq⟩
 ·have:=h b.toNat (List.mem_range.2 (by omega))
  rw[Int.toNat_of_nonneg h0] at this
  simpa using this
 ·have:=h (b:Int) (by omega) (by have:=List.mem_range.1 hb;omega)
  simpa using this
theorem oL {m:Ma}:eH m=0↔Pt m∧trimB m=true∧∀s∈m.sp,s.lv=false→s.ar=[]∧∀n,(cB s.tb n).k=0:=by
 unfold eH
 rw[iR,iR,iR,iR,iR,jd (by decide),jd (by decide),firstE_zero]
 constructor
 ·rintro⟨h1,h2,h3,h4,h5,h6,h7,h8⟩
  have h9:∀s∈m.sp,_:=fun s hs=>uU.1 (h8 _ (List.mem_map_of_mem hs))
  refine⟨⟨h1,h2,h3,h4,h5,?_,?_,by omega,fun s hs=>(h9 s hs).1,fun s hs=>(h9 s hs).2.1⟩,?_,fun s hs=>(h9 s hs).2.2⟩
  ·exact Classical.byContradiction fun h=>h6 (.inl h)
  ·exact Classical.byContradiction fun h=>h6 (.inr (.inl h))
  ·cases h:trimB m with
   | true=>rfl
   | false=>exact absurd (.inr (.inr h)) h6
 ·rintro⟨h,ht,hl⟩
  refine⟨h.fr,h.sl,h.sw,h.dk,h.st,?_,by have:=h.spl;omega,?_⟩
  ·rintro (h1|h1|h1)
   ·exact h1 h.swl
   ·exact h1 h.dkl
   ·rw[ht] at h1;cases h1
  ·intro x hx
   obtain⟨s,hs,rfl⟩:=List.mem_map.1 hx
   exact uU.2 ⟨h.ar s hs,h.tb s hs,hl s hs⟩
theorem oD {m:Ma} {p:Option Cc} {c:Cc}:mJ m p c=0↔(BV m.st c.f c.i∧0≤c.k∧c.k<m.m.fs.length)∧(1≤(bB m c.k.toNat).r∧(bB m c.k.toNat).f=c.f∧(bB m c.k.toNat).i=c.i)∧∀q,p=some q→xP q c:=by
 have hfr:jQ m c.k=bB m c.k.toNat:=rfl
 unfold mJ
 rw[jd (by decide),jd (by decide),hfr]
 refine and_congr ⟨fun h=>⟨⟨by omega,by omega⟩,by omega⟩,fun h=>by obtain⟨⟨_,_⟩,_⟩:=h;omega⟩ (and_congr ⟨fun h=>by omega,fun h=>by omega⟩ ?_)
 cases p with
 | none=>simp
 | some q=>
  simp only[Option.some.injEq,forall_eq']
  rw[jd (by decide)]
  unfold xP
  omega
theorem zz {l:List Cc} (h:∀k (hk:k+1<l.length),xP (l[k]'(by omega)) l[k+1]):l.Pairwise xP:=by
 induction l with
 | nil=>exact List.Pairwise.nil
 | cons a l ih=>
  have ih:=ih fun k hk=>h (k+1) (by simpa using hk)
  refine List.pairwise_cons.2 ⟨?_,ih⟩
  cases l with
  | nil=>simp
  | cons b l=>
   have h0:xP a b:=h 0 (by simp)
   intro c hc
   rcases List.mem_cons.1 hc with e|hc
   ·rw[e];exact h0
   ·have h1:=(List.pairwise_cons.1 ih).1 c hc
    unfold xP at *; omega
theorem rU {m:Ma}:cachedE m=0↔rT m:=by
 unfold cachedE
 rw[firstE_zero]
 constructor
 ·intro h
  have h1:∀k (hk:k<m.ca.length),mJ m (qx m.ca k) m.ca[k]=0:=fun k hk=>by
   have:=h _ (List.mem_map_of_mem (List.mem_range.2 hk))
   rw[List.getD_eq_getElem?_getD,List.getElem?_eq_getElem hk] at this
   exact this
  have h2:∀c∈m.ca,(BV m.st c.f c.i∧0≤c.k∧c.k<m.m.fs.length)∧(1≤(bB m c.k.toNat).r∧(bB m c.k.toNat).f=c.f∧(bB m c.k.toNat).i=c.i):=fun c hc=>by
   obtain⟨k,hk,rfl⟩:=List.mem_iff_getElem.1 hc
   have:=oD.1 (h1 k hk)
   exact⟨this.1,this.2.1⟩
  refine⟨fun c hc=>(h2 c hc).1.1,fun c hc=>(h2 c hc).1.2,fun c hc=>(h2 c hc).2,zz fun k hk => ?_⟩
  refine (oD.1 (h1 (k+1) hk)).2.2 _ ?_
  unfold qx
  rw[if_neg (by omega),Nat.add_sub_cancel,List.getElem?_eq_getElem]
 ·intro h x hx
  obtain⟨k,hk,rfl⟩:=List.mem_map.1 hx
  have hk:=List.mem_range.1 hk
  rw[List.getD_eq_getElem?_getD,List.getElem?_eq_getElem hk,Option.getD_some]
  have hm:m.ca[k]∈m.ca:=List.getElem_mem hk
  refine oD.2 ⟨⟨h.file _ hm,h.lt _ hm⟩,h.fr _ hm,fun q hq => ?_⟩
  unfold qx at hq
  split at hq
  ·cases hq
  ·rw[List.getElem?_eq_getElem (by omega)] at hq
   rw[←Option.some.inj hq]
   exact List.pairwise_iff_getElem.1 h.srt _ _ (by omega) hk (by omega)
theorem ww {m:Ma} (hp:Pt m) {p:Nat} {n:Int} (hk:(ent m p n).k≠0):bu m (bP m p) n=0↔∃g,iV m p n=some g∧JY m g (ent m p n):=by
 have hE:=(bH _).1 (kY hp p n)
 unfold bu
 rw[jd (by decide)]
 have hon:=ve (bP m p).ar n
 constructor
 ·rintro⟨h1,h2⟩
  obtain⟨h3,h4⟩:=zZ (l:=(bP m p).ar) (n:=n) (by omega)
  refine⟨_,h3,?_⟩
  generalize (bP m p).ar.getD (fw (bP m p).ar n).toNat zAr=a at *
  have he:cB (bP m p).tb n=ent m p n:=rfl
  rw[he] at h2
  generalize ent m p n=e at *
  simp only at h2
  by_cases h5:e.k=2
  ·rw[if_pos h5,jd (by decide)] at h2
   refine⟨fun _=>⟨by omega,?_⟩,fun h=>by omega,fun h=>by omega⟩
   show a.sh=false
   cases hs:a.sh with
   | false=>rfl
   | true=>exact absurd (.inr hs) h2.1
  ·rw[if_neg h5,jd (by decide),jd (by decide),jd (by decide)] at h2
   have hfr:jQ m e.n=bB m e.n.toNat:=rfl
   rw[hfr] at h2
   obtain⟨h6,h7,h8,_⟩:=h2
   refine⟨fun h=>absurd h h5,fun _=>by omega,fun _ => ?_⟩
   show KH (bB m e.n.toNat) (gJ a n) e.w
   generalize bB m e.n.toNat=f at *
   have hof:0≤f.f→(0≤a.fi∧f.f=a.fi∧f.i=a.ba+n-a.fr):=fun h0=>by
    refine Classical.byContradiction fun hn=>h7 (.inl ⟨h0,?_⟩)
    rw[Bool.eq_false_iff]
    simp only[ne_eq,Bool.and_eq_true,decide_eq_true_eq]
    exact fun h=>hn ⟨h.1.1,h.1.2,h.2⟩
   refine⟨fun h0 => ?_,fun hs => ?_,fun hw => ?_,fun hw h0 => ?_,fun hw h0 => ?_⟩
   ·obtain⟨k1,k2,k3⟩:=hof h0
    refine⟨k2,?_⟩
    unfold gJ
    simp only
    rw[if_pos k1];exact k3
   ·refine Classical.byContradiction fun hn=>h7 (.inr (.inl ⟨hs,?_⟩))
    rw[Bool.eq_false_iff]
    simp only[ne_eq,Bool.and_eq_true,decide_eq_true_eq]
    exact fun h=>by omega
   ·show a.wr=true
    cases hs:a.wr with
    | true=>rfl
    | false=>exact absurd (.inr (.inr (.inr ⟨hw,hs⟩))) h7
   ·show a.sh=true
    cases hs:a.sh with
    | true=>rfl
    | false=>
     refine absurd (.inr (.inr (.inl ⟨hs,?_,hw⟩))) h7
     have:=hof h0
     simp only[Bool.and_eq_true,decide_eq_true_eq]
     exact⟨⟨this.1,this.2.1⟩,this.2.2⟩
   ·exact Classical.byContradiction fun hn=>h8 ⟨h0,hw,by omega⟩
 ·rintro⟨g,hg,hf⟩
  have hne:onA (bP m p).ar n≠none:=by
   have:iV m p n=onA (bP m p).ar n:=rfl
   rw[←this,hg];exact fun h=>by cases h
  have h1:=hon.2 hne
  refine⟨by omega,?_⟩
  obtain⟨h3,h4⟩:=zZ (l:=(bP m p).ar) (n:=n) h1
  have hg' : g=gJ ((bP m p).ar.getD (fw (bP m p).ar n).toNat zAr) n:=by
   have:iV m p n=onA (bP m p).ar n:=rfl
   rw[this,h3] at hg
   exact (Option.some.inj hg).symm
  subst hg'
  generalize (bP m p).ar.getD (fw (bP m p).ar n).toNat zAr=a at *
  have he:cB (bP m p).tb n=ent m p n:=rfl
  rw[he]
  generalize ent m p n=e at *
  simp only
  by_cases h5:e.k=2
  ·obtain⟨k1,k2⟩:=hf.sw h5
   have k2:a.sh=false:=k2
   rw[if_pos h5,jd (by decide)]
   refine⟨?_,rfl⟩
   rintro (h|h)
   ·omega
   ·rw[k2] at h;cases h
  ·have h1:e.k=1:=by omega
   have k1:=hf.lt h1
   obtain⟨f1,f2,f3,f4,f5⟩:=hf.fr h1
   have hfr:jQ m e.n=bB m e.n.toNat:=rfl
   rw[if_neg h5,jd (by decide),jd (by decide),jd (by decide),hfr]
   generalize bB m e.n.toNat=f at *
   have f2:a.sh=true→0≤f.f:=f2
   have f3:e.w=true→a.wr=true:=f3
   have f4:e.w=true→0≤f.f→a.sh=true:=f4
   have hof:0≤f.f→(decide (0≤a.fi)&&decide (f.f=a.fi)&&decide (f.i=a.ba+n-a.fr))=true:=fun h0=>by
    obtain⟨k2,k3⟩:=f1 h0
    have k2:f.f=a.fi:=k2
    unfold gJ at k3
    simp only at k3
    rw[if_pos (by omega)] at k3
    simp only[Bool.and_eq_true,decide_eq_true_eq]
    exact⟨⟨by omega,k2⟩,k3⟩
   have hof' : (decide (0≤a.fi)&&decide (f.f=a.fi)&&decide (f.i=a.ba+n-a.fr))=true→0≤f.f:=fun h=>by
    simp only[Bool.and_eq_true,decide_eq_true_eq] at h
    omega
   generalize (decide (0≤a.fi)&&decide (f.f=a.fi)&&decide (f.i=a.ba+n-a.fr))=of at *
   refine⟨by omega,?_,?_,rfl⟩
   ·rintro (⟨k2,k3⟩|⟨k2,k3⟩|⟨k2,k3,k4⟩|⟨k2,k3⟩)
    ·rw[hof k2] at k3;cases k3
    ·rw[hof (f2 k2)] at k3;cases k3
    ·rw[f4 k4 (hof' k3)] at k2;cases k2
    ·rw[f3 k2] at k3;cases k3
   ·rintro⟨k2,k3,k4⟩
    have:=f5 k3 k2
    omega
theorem sP {m:Ma} (hp:Pt m):iT m=0↔∀p n,(ent m p n).k≠0→∃g,iV m p n=some g∧JY m g (ent m p n):=by
 unfold iT
 rw[firstE_zero]
 constructor
 ·intro h p n hk
  have hp' : p<m.sp.length:=Classical.byContradiction fun hn=>hk (by unfold ent;rw[iZ (by omega)];have:cB zSp.tb n=zEn:=kD n;rw[this];rfl)
  have hn:0≤n∧n<64:=Classical.byContradiction fun hn=>hk (by rw[rM p (by omega)];rfl)
  refine (ww hp hk).1 (h _ (List.mem_flatMap.2 ⟨bP m p,rF hp',List.mem_map_of_mem (gW.2 ⟨hn,hk⟩)⟩))
 ·intro h x hx
  obtain⟨s,hs,hx⟩:=List.mem_flatMap.1 hx
  obtain⟨n,hn,rfl⟩:=List.mem_map.1 hx
  obtain⟨p,hp',rfl⟩:=Em hs
  have hk:=(gW.1 hn).2
  exact (ww hp hk).2 (h p n hk)
theorem IJ (t:Tb) (i:Int):cnt (jI t (aI t)) i=(bG t).countP (kF 1 i):=by
 rw[←BX (show (1:Int)≠0 by decide)]
 unfold cnt jI EB Ag
 rw[List.countP_map,List.countP_filter,←List.countP_eq_length_filter]
 congr 1
 funext n
 simp only[Function.comp_apply,Bool.not_or]
 rw[Bool.eq_iff_iff]
 simp only[Bool.and_eq_true,Bool.not_eq_true',decide_eq_false_iff_not,Classical.not_not,decide_eq_true_eq]
 exact and_comm
theorem Kg {t:Tb} (h:bI t=0) (i:Int):cnt (swapT t (aI t)) i=(bG t).countP (kF 2 i):=by
 rw[←BX (show (2:Int)≠0 by decide)]
 unfold cnt swapT EB Ag
 rw[List.countP_map,List.countP_filter,←List.countP_eq_length_filter]
 refine List.countP_congr fun n hn => ?_
 have hE:=(bH _).1 (kI h n)
 have hk:=(gW.1 hn).2
 simp only[Function.comp_apply,Bool.not_or,Bool.and_eq_true,Bool.not_eq_true',decide_eq_false_iff_not,Classical.not_not,decide_eq_true_eq]
 constructor
 ·rintro⟨h1,h2⟩;exact⟨by omega,h1⟩
 ·rintro⟨h1,h2⟩;exact⟨h2,by omega⟩
theorem sI (l r:List Int) (i:Int):cnt (l++r) i=cnt l i+cnt r i:=by unfold cnt;rw[List.countP_append]
theorem wy {α:Type} (g:α→List Int) (i:Int):∀l:List α,cnt (l.flatMap g) i=(l.map fun s=>cnt (g s) i).sum
 | []=>rfl
 | a::l=>by rw[List.flatMap_cons,sI,wy g i l,List.map_cons,List.sum_cons]
theorem AZ (m:Ma) (i:Int):cnt (lT m) i=sW m i+bX m 1 i:=by
 unfold lT
 rw[sI,wy]
 congr 1
 ·unfold cnt sW
  rw[List.countP_map];rfl
 ·unfold bX
  congr 1
  exact List.map_congr_left fun s _=>IJ s.tb i
theorem yt {m:Ma} (hp:Pt m) (i:Int):cnt (kR m) i=bX m 2 i:=by
 unfold kR bX
 rw[wy]
 congr 1
 exact List.map_congr_left fun s hs=>Kg (hp.tb s hs) i
theorem wQ {m:Ma} (hp:Pt m):countB m=true↔(∀i:Nat,i<m.m.fs.length→(bB m i).r=sW m i+bX m 1 i)∧(∀i:Nat,i<m.m.fs.length→0≤(bB m i).f→∃c∈m.ca,c.k=i)∧∀s:Nat,s<m.sl.length→fK m s=bX m 2 s:=by
 unfold countB
 rw[Bool.and_eq_true,List.all_eq_true,decide_eq_true_eq]
 constructor
 ·rintro⟨h1,h2⟩
  have h1:∀i:Nat,i<m.m.fs.length→_:=fun i hi=>h1 i (List.mem_range.2 hi)
  simp only[Bool.and_eq_true,decide_eq_true_eq,Bool.or_eq_true,List.any_eq_true,AZ,vP] at h1
  refine⟨fun i hi=>by rw[(h1 i hi).1];omega,fun i hi h0 => ?_,fun s hs => ?_⟩
  ·rcases (h1 i hi).2 with h|⟨c,hc,hk⟩
   ·have h:(bB m i).f<0:=of_decide_eq_true h
    omega
   ·exact⟨c,hc,hk⟩
  ·have:fK m s=(gN m.sl.length (kR m)).getD s 0:=by rw[←h2];rfl
   rw[this]
   unfold gN
   rw[List.getD_eq_getElem?_getD,List.getElem?_map,List.getElem?_range hs]
   show ((cnt (kR m) s:Nat):Int)=_
   rw[yt hp]
 ·rintro⟨h1,h2,h3⟩
  refine⟨fun i hi => ?_,?_⟩
  ·have hi:=List.mem_range.1 hi
   simp only[Bool.and_eq_true,decide_eq_true_eq,Bool.or_eq_true,List.any_eq_true,AZ,vP]
   refine⟨by rw[h1 i hi];omega,?_⟩
   by_cases h0:0≤(bB m i).f
   ·obtain⟨c,hc,hk⟩:=h2 i hi h0
    exact .inr ⟨c,hc,hk⟩
   ·exact .inl (decide_eq_true (show (bB m i).f<0 by omega))
  ·apply List.ext_getElem
   ·unfold gN;simp
   ·intro s k1 k2
    have:=h3 s k1
    have e2:(gN m.sl.length (kR m))[s]'k2=((cnt (kR m) (s:Int):Nat):Int):=by simp[gN]
    rw[e2,yt hp,←this]
    unfold fK
    rw[List.getD_eq_getElem?_getD,List.getElem?_eq_getElem k1];rfl
theorem Jr {m:Ma}:gD m=0↔Rt m:=by
 unfold gD
 rw[iR,iR,iR,oL,rU]
 constructor
 ·rintro⟨⟨hp,ht,hl⟩,hc,he,hb⟩
  have hb:countB m=true:=by
   cases h:countB m with
   | true=>rfl
   | false=>rw[h] at hb;exact absurd hb (by decide)
  obtain⟨b1,b2,b3⟩:=(wQ hp).1 hb
  refine⟨hp,yx.1 ht,fun p hp' => ?_,hc,(sP hp).1 he,b1,b2,b3⟩
  rcases Nat.lt_or_ge p m.sp.length with h|h
  ·exact hl _ (rF h) hp'
  ·rw[iZ h]
   refine⟨rfl,fun n => ?_⟩
   unfold ent
   rw[iZ h]
   have:cB zSp.tb n=zEn:=kD n
   rw[this];rfl
 ·intro h
  refine⟨⟨h.pt,yx.2 h.trim,fun s hs hlv => ?_⟩,h.ca,(sP h.pt).2 h.en,?_⟩
  ·obtain⟨p,hp,rfl⟩:=Em hs
   exact h.live p hlv
  ·rw[if_pos ((wQ h.pt).2 ⟨h.cf,h.fc,h.cs⟩)]
def zI (m:Ma):List Int:=[di m.m,dn m.sl,bK m.sw,bK m.dk,aR m.st]
theorem Gy {m:Ma} {k:Nat} (hk:k<5) (h:∀j,j<k→(zI m).getD j 0=0) (hne:(zI m).getD k 0≠0):eH m=(zI m).getD k 0:=by
 unfold eH
 have e0:0<k→di m.m=0:=fun h'=>h 0 h'
 have e1:1<k→dn m.sl=0:=fun h'=>h 1 h'
 have e2:2<k→bK m.sw=0:=fun h'=>h 2 h'
 have e3:3<k→bK m.dk=0:=fun h'=>h 3 h'
 match k,hk with
 | 0,_=>rw[if_pos (show di m.m≠0 from hne)];rfl
 | 1,_=>rw[if_neg (by rw[e0 (by omega)];simp),if_pos (show dn m.sl≠0 from hne)];rfl
 | 2,_=>rw[if_neg (by rw[e0 (by omega)];simp),if_neg (by rw[e1 (by omega)];simp),if_pos (show bK m.sw≠0 from hne)];rfl
 | 3,_=>rw[if_neg (by rw[e0 (by omega)];simp),if_neg (by rw[e1 (by omega)];simp),if_neg (by rw[e2 (by omega)];simp),if_pos (show bK m.dk≠0 from hne)];rfl
 | 4,_=>rw[if_neg (by rw[e0 (by omega)];simp),if_neg (by rw[e1 (by omega)];simp),if_neg (by rw[e2 (by omega)];simp),if_neg (by rw[e3 (by omega)];simp),if_pos (show aR m.st≠0 from hne)];rfl
 | n+5,h'=>omega
def Nh (B:Nat) (H:MH):iO:=⟨fun v w => ∃g,v = .slice (some ⟨g,0,none⟩) 5 5∧aF w g #[.int .i64 (di H.m),.int .i64 (dn H.sl),.int .i64 (bK H.sw),.int .i64 (bK H.dk),.int .i64 (aR (bT H.fi H.ct))] 43,fun _ _ _ hb ⟨g,h1,h2⟩=>⟨g,h1,h2.ext hb⟩⟩
theorem FI (H:MH) (b:Nat) (w:World) (hbk:aF w b (bR H) 41) (h:rC w H) :
  Calls Tryz.prog 66 #[.pointer (some ⟨b,0,none⟩)] w fun r w'=>r = .returned (.int .i64 (eH H.ma))∧Below w.heap.size w w':=by
 go_enter Tryz.func66,Tryz.ntmps66
 go_upto_region 1 with (fail)
 refine aG 28 [_,_,_,_,.v (.int .i64 (di H.m)),_,_,_,_,.v (.int .i64 (dn H.sl)),_,_,_,_,.v (.int .i64 (bK H.sw)),_,_,_,_,.v (.int .i64 (bK H.dk)),_,_,_,_,.v (.int .i64 (aR (bT H.fi H.ct))),.r 25 ((Nh w.heap.size H)),.v (.int .i64 5),_] (Gk rfl (Gk rfl (Gf b 0 rfl rfl (Gr (.agg #[.slice H.af H.m.fs.length H.cf,.int .i64 H.m.hand]) (fun ρ y W hb hKn=>(bV rfl (aA rfl hKn) (bQ (hbk.ext hb) 0 2) Tryz.underlying28 rfl (by kernel_rfl))) rfl rfl (ag ?_ (Gk rfl (Gk rfl (Gf b 2 rfl rfl (Gl hbk rfl rfl rfl rfl rfl (ag ?_ (Gk rfl (Gk rfl (Gf b 3 rfl rfl (Gr (.agg #[.slice H.wb H.sw.blocks.length H.cwb,.slice H.wq H.sw.queue.length H.cwq]) (fun ρ y W hb hKn=>(bV rfl (aA rfl hKn) (bQ (hbk.ext hb) 3 2) Tryz.underlying34 rfl (by kernel_rfl))) rfl rfl (ag ?_ (Gk rfl (Gk rfl (Gf b 5 rfl rfl (Gr (.agg #[.slice H.db H.dk.blocks.length H.cdb,.slice H.dq H.dk.queue.length H.cdq]) (fun ρ y W hb hKn=>(bV rfl (aA rfl hKn) (bQ (hbk.ext hb) 5 2) Tryz.underlying34 rfl (by kernel_rfl))) rfl rfl (ag ?_ (Gk rfl (Gk rfl (Gf b 7 rfl rfl (Gr (.agg #[.slice H.ai H.fi.length H.ci,.int .i64 H.ct]) (fun ρ y W hb hKn=>(bV rfl (aA rfl hKn) (bQ (hbk.ext hb) 7 2) Tryz.underlying37 rfl (by kernel_rfl))) rfl rfl (ag ?_ (ag ?_ (ag ?_ (Gr (.int .i64 0) (fun ρ y W hb hKn=>(run_move (.inl rfl) (aA rfl hKn))) rfl rfl (aB))))))))))))))))))))))))))))) (fun _=>rfl) rfl ?_
 ·intro ρ y W hw hn hb hd;have E12:=hw 12 3 rfl;have h3:y 3=_:=hd 3 rfl
  have EF:∀f,ρ (.func f) = .func (.func f) #[] #[]:=fun f=>hn (.func f) trivial
  refine aJ _ _ (ah rfl) (aK rfl (EF _) Tryz.func107 (by kernel_rfl) (by kernel_rfl) (by simp only[List.map_toArray,List.map_cons,List.map_nil,E12,h3,EF];rfl)) ?_
  refine (wK H.m _ _ W (h.below hb).fr).mono ?_
  rintro r w1 ⟨rfl,hb1⟩
  exact⟨_,rfl,hb1,rfl⟩
 ·intro ρ y W hw hn hb hd;have E17:=hw 17 8 rfl;have h8:y 8=_:=hd 8 rfl
  have EF:∀f,ρ (.func f) = .func (.func f) #[] #[]:=fun f=>hn (.func f) trivial
  refine aJ _ _ (ah rfl) (aK rfl (EF _) Tryz.func108 (by kernel_rfl) (by kernel_rfl) (by simp only[List.map_toArray,List.map_cons,List.map_nil,E17,h8,EF];rfl)) ?_
  refine (uR H.sl _ _ W (h.below hb).sl.rd (by have:=h.sl.le;have:=h.sl.mx;unfold maxLen at this;omega)).mono ?_
  rintro r w1 ⟨rfl,rfl⟩
  exact⟨_,rfl,Below.refl _ _,rfl⟩
 ·intro ρ y W hw hn hb hd;have E22:=hw 22 13 rfl;have h13:y 13=_:=hd 13 rfl
  have EF:∀f,ρ (.func f) = .func (.func f) #[] #[]:=fun f=>hn (.func f) trivial
  refine aJ _ _ (ah rfl) (aK rfl (EF _) Tryz.func93 (by kernel_rfl) (by kernel_rfl) (by simp only[List.map_toArray,List.map_cons,List.map_nil,E22,h13,EF];rfl)) ?_
  refine (vU H.sw _ _ _ _ W (h.below hb).sw).mono ?_
  rintro r w1 ⟨rfl,hb1⟩
  exact⟨_,rfl,hb1,rfl⟩
 ·intro ρ y W hw hn hb hd;have E27:=hw 27 18 rfl;have h18:y 18=_:=hd 18 rfl
  have EF:∀f,ρ (.func f) = .func (.func f) #[] #[]:=fun f=>hn (.func f) trivial
  refine aJ _ _ (ah rfl) (aK rfl (EF _) Tryz.func93 (by kernel_rfl) (by kernel_rfl) (by simp only[List.map_toArray,List.map_cons,List.map_nil,E27,h18,EF];rfl)) ?_
  refine (vU H.dk _ _ _ _ W (h.below hb).dk).mono ?_
  rintro r w1 ⟨rfl,hb1⟩
  exact⟨_,rfl,hb1,rfl⟩
 ·intro ρ y W hw hn hb hd;have E32:=hw 32 23 rfl;have h23:y 23=_:=hd 23 rfl
  have EF:∀f,ρ (.func f) = .func (.func f) #[] #[]:=fun f=>hn (.func f) trivial
  refine aJ _ _ (ah rfl) (aK rfl (EF _) Tryz.func109 (by kernel_rfl) (by kernel_rfl) (by simp only[List.map_toArray,List.map_cons,List.map_nil,E32,h23,EF];rfl)) ?_
  refine (Dh H.fi H.ct _ _ W (h.below hb).st h.c64).mono ?_
  rintro r w1 ⟨rfl,hb1⟩
  exact⟨_,rfl,hb1,rfl⟩
 ·intro ρ y W hw hn hb hd;have E13:=hw 13 4 rfl;have h4:y 4=_:=hd 4 rfl;have E18:=hw 18 9 rfl;have h9:y 9=_:=hd 9 rfl;have E23:=hw 23 14 rfl;have h14:y 14=_:=hd 14 rfl;have E28:=hw 28 19 rfl
  have h19:y 19=_:=hd 19 rfl
  have E33:=hw 33 24 rfl
  have h24:y 24=_:=hd 24 rfl
  refine ji (.slice (some ⟨W.heap.size,0,none⟩) 5 5) (ah rfl) (by simp[execOp,go_sem,E13.trans h4,E18.trans h9,E23.trans h14,E28.trans h19,E33.trans h24]) ((Below.refl _ _).alloc (Nat.le_refl _) (.cells #[.int .i64 (di H.m),.int .i64 (dn H.sl),.int .i64 (bK H.sw),.int .i64 (bK H.dk),.int .i64 (aR (bT H.fi H.ct))] 43)) ?_
  exact⟨_,rfl,aF.new _ _ _⟩
 ·intro ρ y W hw hn hb hd;have E34:=hw 34 25 rfl;have h25:=hd 25 rfl
  obtain⟨ge,hge,_⟩:=h25
  refine aj (.int .i64 5) (ah rfl) (by simp[execOp,go_sem,E34,hge]) rfl
 intro y W1 hbW1 hRW1
 have hy25:((Nh w.heap.size H)).r (y 25) W1:=hRW1 25 (by decide)
 clear hRW1
 obtain⟨ge,hge,hxe⟩:=hy25
 have hbelW:Below w.heap.size w W1:=hbW1
 rw[hge]
 clear hge hbW1
 go_upto_region 2 with (fail)
 go_loopw [36] (fun i wr => ∃(k:Nat),k≤5∧i = .int .i64 k∧Below w.heap.size w wr∧aF wr ge #[.int .i64 (di H.m),.int .i64 (dn H.sl),.int .i64 (bK H.sw),.int .i64 (bK H.dk),.int .i64 (aR (bT H.fi H.ct))] 43∧Hid (∀j,j<k→(zI H.ma).getD j 0=0)) (fun i _=>5-(intOf i).toNat)
 case atStart=>exact⟨0,Nat.zero_le _,rfl,hbelW,hxe,Lib.hid fun j hj=>absurd hj (Nat.not_lt_zero _)⟩
 case round=>
  clear hbelW hxe
  obtain⟨k,hk,rfl,hbr,hx,hz⟩:=hrel
  by_cases hkl:k<5
  ·have hki:(k:Int)<5:=by omega
   have hck:wr.cell? ⟨ge,k,none⟩=some (.int .i64 ((zI H.ma).getD k 0)):=by
    rw[hx.cell]
    match k,hkl with
    | 0,_=>rfl
    | 1,_=>rfl
    | 2,_=>rfl
    | 3,_=>rfl
    | 4,_=>rfl
    | n+5,h'=>omega
   by_cases h0:(zI H.ma).getD k 0=0
   ·have hz2:Hid (∀j,j<k+1→(zI H.ma).getD j 0=0):=Lib.hid fun j hj=>by
     by_cases e:j=k
     ·rw[e];exact h0
     ·exact hz.out j (by omega)
    rw[h0] at hck
    clear h0 hz
    go_wp2
    go_roundw
    case rel=>exact⟨k+1,by omega,by go_num,hbr,hx,hz2⟩
    case measure=>simp[intOf];omega
   ·have hq:Hid (eH H.ma=(zI H.ma).getD k 0):=Lib.hid (Gy hkl hz.out h0)
    generalize (zI H.ma).getD k 0=E at *
    clear hz
    go_wp2
    go_ret
    rw[hq.out]
    exact⟨rfl,hbr⟩
  ·have hki:¬(k:Int)<5:=by omega
   have hz0:=hz.out 0 (by omega)
   have hz1:=hz.out 1 (by omega)
   have hz2:=hz.out 2 (by omega)
   have hz3:=hz.out 3 (by omega)
   have hz4:=hz.out 4 (by omega)
   have e0:=Lib.hid (show di H.m=0 from hz0)
   have e1:=Lib.hid (show dn H.sl=0 from hz1)
   have e2:=Lib.hid (show bK H.sw=0 from hz2)
   have e3:=Lib.hid (show bK H.dk=0 from hz3)
   have e4:=Lib.hid (show aR (bT H.fi H.ct)=0 from hz4)
   clear hz0 hz1 hz2 hz3 hz4 hz hx
   have hbkr:=hbk.ext hbr
   have hr:=h.below hbr
   have hP:Hid (eH H.ma=if H.sw.blocks.length≠H.sl.length∨(H.dk.blocks.length:Int)≠H.ct∨trimB H.ma=false then 7 else if 4<H.sp.length then 4 else firstE (H.ma.sp.map gu)):=Lib.hid (by
    unfold eH
    rw[if_neg (by rw[show di H.ma.m=0 from e0.out];simp),if_neg (by rw[show dn H.ma.sl=0 from e1.out];simp),if_neg (by rw[show bK H.ma.sw=0 from e2.out];simp),if_neg (by rw[show bK H.ma.dk=0 from e3.out];simp),if_neg (by rw[show aR H.ma.st=0 from e4.out];simp),qw]
    rfl)
   go_upto_region 7 with (fail)
   have hcb:=hbkr.cell
   unfold bR at hcb
   by_cases c1:H.sw.blocks.length=H.sl.length
   ·by_cases c2:(H.dk.blocks.length:Int)=H.ct
    ·have c1i:(H.sw.blocks.length:Int)=(H.sl.length:Int):=by omega
     have hp2:Hid (eH H.ma=if trimB H.ma=false then 7 else if 4<H.sp.length then 4 else firstE (H.ma.sp.map gu)):=Lib.hid (by
      rw[hP.out]
      by_cases ct:trimB H.ma=false
      ·rw[if_pos (.inr (.inr ct)),if_pos ct]
      ·rw[if_neg (by rintro (h | h | h);exact h c1;exact h c2;exact ct h),if_neg ct])
     refine aG 31 [_,_,_,_,_,_,_,_,_,_,_,_,_,_,_,_,_,_,_,_,_,_,_,_,_,_,_,_,.v (.bool (trimB H.ma)),_,.v (.bool (!trimB H.ma))] (Gk rfl (Gk rfl (Gf b 3 rfl rfl (Gf b 3 rfl rfl (Gl hbkr rfl rfl rfl rfl rfl (Gn rfl rfl rfl rfl (Gk rfl (Gk rfl (Gf b 2 rfl rfl (Gl hbkr rfl rfl rfl rfl rfl (Gn rfl rfl rfl rfl (Gb (.bool false) (by simp[go_sem,c1]) rfl rfl rfl rfl rfl (Gk rfl (Gk rfl (Gk rfl (Gf b 5 rfl rfl (Gf b 5 rfl rfl (Gl hbkr rfl rfl rfl rfl rfl (Gn rfl rfl rfl rfl (Gk rfl (Gk rfl (Gf b 7 rfl rfl (Gf b 8 rfl rfl (Gl hbkr rfl rfl rfl rfl rfl (Gb (.bool false) (by simp[go_sem,c2]) rfl rfl rfl rfl rfl (Gk rfl (Gk rfl (Gk rfl (ag ?_ (Gr (.bool (!trimB H.ma)) (fun ρ y W hb hKn=>vE rfl (aA rfl hKn)) rfl rfl (Gk rfl (aB)))))))))))))))))))))))))))))))) (fun _=>rfl) rfl ?_
     ·intro ρ y W hw hn hb hd;have E71:=hw 71 27 rfl;have h27:y 27=_:=hd 27 rfl
      have EF:∀f,ρ (.func f) = .func (.func f) #[] #[]:=fun f=>hn (.func f) trivial
      refine aJ _ _ (aN 26 70 false false rfl rfl ((hw 70 26 rfl).trans (hd 26 rfl))) (aK rfl (EF _) Tryz.func110 (by kernel_rfl) (by kernel_rfl) (by simp only[List.map_toArray,List.map_cons,List.map_nil,E71,h27,EF];rfl)) ?_
      refine (BJ H b W (hbkr.ext hb) (hr.below hb) e4.out e3.out).mono ?_
      rintro r w1 ⟨rfl,hb1⟩
      exact⟨_,rfl,hb1,rfl⟩
     intro y W2 hbW2 _
     have hbr2:=ae hbr hbW2
     clear hbW2
     cases ht:trimB H.ma with
     | false=>
      have hp7:Hid (eH H.ma=7):=Lib.hid (by rw[hp2.out,if_pos ht])
      clear c1 c2 c1i
      go_wp2
      go_ret
      rw[hp7.out]
      exact⟨rfl,hbr2⟩
     | true=>
      have hp3:Hid (eH H.ma=if 4<H.sp.length then 4 else firstE (H.ma.sp.map gu)):=Lib.hid (by rw[hp2.out,if_neg (by rw[ht];decide)])
      clear c1 c2 c1i hcb ht
      have hr2:=h.below hbr2
      have hcb:=(hbk.ext hbr2).cell
      unfold bR at hcb
      clear hr hbkr hP hp2 hbr
      by_cases c4:4<H.sp.length
      ·have hp4:Hid (eH H.ma=4):=Lib.hid (by rw[hp3.out,if_pos c4])
       have c4i:(4:Int)<(H.sp.length:Int):=by omega
       clear c4
       go_wp2
       go_ret
       rw[hp4.out]
       exact⟨rfl,hbr2⟩
      ·have hp4:Hid (eH H.ma=firstE (H.ma.sp.map gu)):=Lib.hid (by rw[hp3.out,if_neg c4])
       have c4i:¬(4:Int)<(H.sp.length:Int):=by omega
       have hlen:Hid ((H.ma.sp.map gu).length=H.sp.length):=Lib.hid (by rw[List.length_map,qw])
       clear c4 hp3
       go_upto_region 12 with (fail)
       clear hcb hr2
       go_loopw [86] (fun i wr => ∃(k:Nat),k≤H.sp.length∧i = .int .i64 k∧Below w.heap.size w wr∧Hid (∀j (hj:j<(H.ma.sp.map gu).length),j<k→(H.ma.sp.map gu)[j]=0)) (fun i _=>H.sp.length-(intOf i).toNat)
       case atStart=>exact⟨0,Nat.zero_le _,rfl,hbr2,Lib.hid fun j _ hj=>absurd hj (Nat.not_lt_zero _)⟩
       case round=>
        clear hbr2
        obtain⟨k,hk,rfl,hbr,hz⟩:=hrel
        by_cases hkl:k<H.sp.length
        ·obtain⟨bs,os,P,hap,hP,hrd⟩:=kL (h.below hbr).sp.rd k hkl
         have hgood:=lh (h.below hbr) hP
         have hki:(k:Int)<(H.sp.length:Int):=by omega
         have hkm:k<(H.ma.sp.map gu).length:=by rw[hlen.out];exact hkl
         have hE:Hid ((H.ma.sp.map gu)[k]=gu P.sp):=Lib.hid (by
          rw[List.getElem_map]
          congr 1
          have:H.ma.sp[k]?=some P.sp:=by show (H.sp.map PS.sp)[k]?=_;rw[List.getElem?_map,hP];rfl
          exact (List.getElem?_eq_some_iff.1 this).2)
         have hfin:Hid (gu P.sp≠0→eH H.ma=gu P.sp):=Lib.hid fun hne=>by
          rw[hp4.out,qa k hkm hz.out (by rw[hE.out];exact hne),hE.out]
         have hnx:Hid (gu P.sp=0→∀j (hj:j<(H.ma.sp.map gu).length),j<k+1→(H.ma.sp.map gu)[j]=0):=Lib.hid fun h0 j hj hjk=>by
          by_cases e:j=k
          ·subst e;rw[hE.out];exact h0
          ·exact hz.out j hj (by omega)
         have hsp:Hid (gu P.sp=if (aZ P.ar).1≠0 then (aZ P.ar).1 else if bI P.tb≠0 then bI P.tb else if P.lv=false∧0<P.ar.length+(aI P.tb).length then 7 else 0):=Lib.hid rfl
         rw[hap]
         clear hz hP hE hkm
         have hps1:(nA P).all (·.oneCell')=true:=by
          rw[←Array.all_toList,List.all_eq_true];exact hgood.one
         go_wp2_with (first | (refine ay _ _ rfl bs (os+k*10) rfl rfl _ hrd _ Tryz.underlying55 rfl space_size ?_) | (refine aH rfl _ _ _ rfl (nA P) rfl rfl rfl space_size hps1 ?_))
         intro w3 hb3 fx3
         have hbr3:=ae hbr hb3
         have hg3:=hgood.below hb3
         have hgl:=fx3.lt
         generalize wr.heap.size=gs at fx3 hgl ⊢
         clear hbr hb3 hrd hgood hps1
         have hcf:=fx3.cell
         unfold nA at hcf
         have hA:=hg3.ars
         go_wp2_with fail
         refine (Db P.ar P.aa P.ac _ hA.rd (by have:=hA.le;have:=hA.mx;unfold maxLen at this;omega)).mono ?_
         rintro r w3' ⟨rfl,hb3'⟩
         have fx3':=fx3.ext hb3'
         have hbr3':=ae hbr3 hb3'
         have hg3':=hg3.below hb3'
         clear hcf fx3 hbr3 hg3 hb3' hA
         go_wp2_with (refine aH rfl _ _ _ rfl (Cj (aZ P.ar)) rfl rfl rfl fau_size (by simp[Cj,Value.oneCell']) ?_)
         intro w4 hb4 ux
         have fx:=fx3'.ext hb4
         have hbr4:=ae hbr3' hb4
         have hg4:=hg3'.below hb4
         clear fx3' hbr3' hg3' hb4
         have hcu:=ux.cell
         unfold Cj at hcu
         by_cases c5:(aZ P.ar).1=0
         ·rw[if_neg (by rw[c5];simp)] at hsp
          rw[c5] at hcu
          have hal:=(qc c5).1
          have hpl:(aI P.tb).length≤64:=ru P.tb 64
          have hws:IntKind.i64.wrap ((P.ar.length:Int)+((aI P.tb).length:Int))=(P.ar.length:Int)+((aI P.tb).length:Int):=IntWalk.i64_in _ (by omega)
          go_upto_region 17 with (fail)
          clear hcu ux c5
          go_wp2_with (refine ay _ _ rfl gs 2 rfl rfl _ (bQ fx 2 8) _ Tryz.underlying53 tab_agg tab_size ?_)
          refine (wR P.tb (iP P.ts) _ hg4.tb).mono ?_
          rintro r w6 ⟨rfl,hb6⟩
          replace fx:=fx.ext hb6
          replace hbr4:=ae hbr4 hb6
          replace hg4:=hg4.below hb6
          clear hb6
          by_cases c6:bI P.tb=0
          ·rw[if_neg (by rw[c6];simp)] at hsp
           rw[c6]
           go_upto_region 20 with (fail)
           cases hlv:P.lv with
           | true=>
            have hs0:Hid (gu P.sp=0):=Lib.hid (by rw[hsp.out,if_neg (by rw[hlv];simp)])
            refine aG 14 [_,_,_,_,_,_,_,_,_,_,_,_,_,.v (.bool false)] (Gf gs 0 rfl rfl (Gl fx (V:=.bool true) (by simp[nA,hlv]) rfl rfl rfl rfl (Gk rfl (Gk rfl (Gk rfl (Gk rfl (Gk rfl (Gk rfl (Gk rfl (Gk rfl (Gk rfl (Gk rfl (Gk rfl (Gk rfl (aB))))))))))))))) (fun _=>rfl) rfl ?_
            intro y W5 hbW5 _
            have hbr5:=ae hbr4 hbW5
            clear hbW5
            have hall:=Lib.hid (hnx.out hs0.out)
            clear hws fx hg4
            go_wp2
            go_roundw
            case rel=>exact⟨k+1,by omega,by go_num,hbr5,hall⟩
            case measure=>simp[intOf];omega
           | false=>
            refine aG 14 [_,_,_,_,_,_,_,_,_,.r 9 ((il w6.heap.size 3 1 (aI P.tb).length ((aI P.tb).map dL))),.v (.int .i64 (aI P.tb).length),_,_,.v (.bool (decide (0<(P.ar.length:Int)+((aI P.tb).length:Int))))] (Gf gs 0 rfl rfl (Gl fx (V:=.bool false) (by simp[nA,hlv]) rfl rfl rfl rfl (Gk rfl (Gk rfl (Gf gs 1 rfl rfl (Gl fx rfl rfl rfl rfl rfl (Gn rfl rfl rfl rfl (Gf gs 2 rfl rfl (Gr (.agg (iP P.ts)) (fun ρ y W hb hKn=>(bV rfl (aA rfl hKn) (bQ (fx.ext hb) 2 8) Tryz.underlying53 tab_agg tab_size)) rfl rfl (ag ?_ (ag ?_ (Gb (.int .i64 ((P.ar.length:Int)+((aI P.tb).length:Int))) (by simp[go_sem,hws]) rfl rfl rfl rfl rfl (Gb (.bool (decide (0<(P.ar.length:Int)+((aI P.tb).length:Int)))) (by simp[go_sem]) rfl rfl rfl rfl rfl (Gk rfl (aB))))))))))))))) (fun _=>rfl) rfl ?_
            ·intro ρ y W hw hn hb hd;have E112:=hw 112 8 rfl;have h8:y 8=_:=hd 8 rfl
             have EF:∀f,ρ (.func f) = .func (.func f) #[] #[]:=fun f=>hn (.func f) trivial
             refine aJ _ _ (aN 3 107 true true rfl rfl ((hw 107 3 rfl).trans (hd 3 rfl))) (aK rfl (EF _) Tryz.func42 (by kernel_rfl) (by kernel_rfl) (by simp only[List.map_toArray,List.map_cons,List.map_nil,E112,h8,EF];rfl)) ?_
             refine (ny P.tb (iP P.ts) W (hg4.below hb).tb).mono ?_
             rintro r w1 ⟨v,rfl,ho,hb1⟩
             exact⟨_,rfl,hb1,ho.mono hb.size⟩
            ·intro ρ y W hw hn hb hd;have E113:=hw 113 9 rfl;have h9:=hd 9 rfl
             obtain⟨a9,c9,e9,_⟩:=Own.rd h9
             refine aj (.int .i64 (aI P.tb).length) (aN 3 107 true true rfl rfl ((hw 107 3 rfl).trans (hd 3 rfl))) (Cb rfl (E113.trans e9) rfl) rfl
            intro y W5 hbW5 hRW5
            have hy9:((il w6.heap.size 3 1 (aI P.tb).length ((aI P.tb).map dL))).r (y 9) W5:=hRW5 9 (by decide)
            clear hRW5
            have hbr5:=ae hbr4 hbW5
            clear hbW5
            by_cases c7:0<P.ar.length+(aI P.tb).length
            ·have hq:Hid (eH H.ma=7):=Lib.hid (by rw[hfin.out (by rw[hsp.out,if_pos ⟨hlv,c7⟩];decide),hsp.out,if_pos ⟨hlv,c7⟩])
             have hd:decide (0<(P.ar.length:Int)+((aI P.tb).length:Int))=true:=decide_eq_true (by omega)
             rw[hd]
             clear hws fx hg4 hd c7
             go_wp2
             go_ret
             rw[hq.out]
             exact⟨rfl,hbr5⟩
            ·have hs0:Hid (gu P.sp=0):=Lib.hid (by rw[hsp.out,if_neg (fun h'=>c7 h'.2)])
             have hall:=Lib.hid (hnx.out hs0.out)
             have hd:decide (0<(P.ar.length:Int)+((aI P.tb).length:Int))=false:=decide_eq_false (by omega)
             rw[hd]
             clear hws fx hg4 hd c7
             go_wp2
             go_roundw
             case rel=>exact⟨k+1,by omega,by go_num,hbr5,hall⟩
             case measure=>simp[intOf];omega
          ·rw[if_pos c6] at hsp
           have hq:Hid (eH H.ma=bI P.tb):=Lib.hid (by rw[hfin.out (by rw[hsp.out];exact c6),hsp.out])
           generalize bI P.tb=E at *
           go_wp2
           go_ret
           rw[hq.out]
           exact⟨rfl,hbr4⟩
         ·rw[if_pos c5] at hsp
          have hq:Hid (eH H.ma=(aZ P.ar).1):=Lib.hid (by rw[hfin.out (by rw[hsp.out];exact c5),hsp.out])
          generalize (aZ P.ar).1=E at *
          go_wp2
          go_ret
          rw[hq.out]
          exact⟨rfl,hbr4⟩
        ·have hki:¬(k:Int)<(H.sp.length:Int):=by omega
         have hq:Hid (eH H.ma=0):=Lib.hid (by rw[hp4.out,mD fun i hi=>hz.out i hi (by rw[hlen.out] at hi;omega)])
         clear hz
         go_wp2
         go_ret
         rw[hq.out]
         exact⟨rfl,hbr⟩
    ·have hp7:Hid (eH H.ma=7):=Lib.hid (by rw[hP.out,if_pos (.inr (.inl c2))])
     refine aG 31 [_,_,_,_,_,_,_,_,_,_,_,_,_,_,_,_,_,_,_,_,_,_,_,_,_,_,_,_,_,_,.v (.bool true)] (Gk rfl (Gk rfl (Gf b 3 rfl rfl (Gf b 3 rfl rfl (Gl hbkr rfl rfl rfl rfl rfl (Gn rfl rfl rfl rfl (Gk rfl (Gk rfl (Gf b 2 rfl rfl (Gl hbkr rfl rfl rfl rfl rfl (Gn rfl rfl rfl rfl (Gb (.bool false) (by simp[go_sem,c1]) rfl rfl rfl rfl rfl (Gk rfl (Gk rfl (Gk rfl (Gf b 5 rfl rfl (Gf b 5 rfl rfl (Gl hbkr rfl rfl rfl rfl rfl (Gn rfl rfl rfl rfl (Gk rfl (Gk rfl (Gf b 7 rfl rfl (Gf b 8 rfl rfl (Gl hbkr rfl rfl rfl rfl rfl (Gb (.bool true) (by simp[go_sem,c2]) rfl rfl rfl rfl rfl (Gk rfl (Gk rfl (Gk rfl (Gk rfl (Gk rfl (Gk rfl (aB)))))))))))))))))))))))))))))))) (fun _=>rfl) rfl ?_
     intro y W2 hbW2 _
     have hbr2:=ae hbr hbW2
     clear hbW2
     clear c1 c2
     go_wp2
     go_ret
     rw[hp7.out]
     exact⟨rfl,hbr2⟩
   ·have hp7:Hid (eH H.ma=7):=Lib.hid (by rw[hP.out,if_pos (.inl c1)])
    have c1i:¬((H.sw.blocks.length:Int)=(H.sl.length:Int)):=by omega
    have c2:=c1
    refine aG 31 [_,_,_,_,_,_,_,_,_,_,_,_,_,_,_,_,_,_,_,_,_,_,_,_,_,_,_,_,_,_,.v (.bool true)] (Gk rfl (Gk rfl (Gf b 3 rfl rfl (Gf b 3 rfl rfl (Gl hbkr rfl rfl rfl rfl rfl (Gn rfl rfl rfl rfl (Gk rfl (Gk rfl (Gf b 2 rfl rfl (Gl hbkr rfl rfl rfl rfl rfl (Gn rfl rfl rfl rfl (Gb (.bool true) (by simp[go_sem,c1i]) rfl rfl rfl rfl rfl (Gk rfl (Gk rfl (Gk rfl (Gk rfl (Gk rfl (Gk rfl (Gk rfl (Gk rfl (Gk rfl (Gk rfl (Gk rfl (Gk rfl (Gk rfl (Gk rfl (Gk rfl (Gk rfl (Gk rfl (Gk rfl (Gk rfl (aB)))))))))))))))))))))))))))))))) (fun _=>rfl) rfl ?_
    intro y W2 hbW2 _
    have hbr2:=ae hbr hbW2
    clear hbW2
    clear c1 c1i c2
    go_wp2
    go_ret
    rw[hp7.out]
    exact⟨rfl,hbr2⟩
theorem mV {m:Ma} {p:Option Cc} {c:Cc} (h:c.f<0∨(m.st.fs.length:Int)≤c.f∨c.i<0∨((aV m.st c.f).b.length:Int)≤c.i∨c.k<0∨(m.m.fs.length:Int)≤c.k):mJ m p c=3:=by
 unfold mJ;rw[if_pos h]
theorem CG (H:MH) (b:Nat) (w:World) (hbk:aF w b (bR H) 41) (h:rC w H) :
  Calls Tryz.prog 67 #[.pointer (some ⟨b,0,none⟩)] w fun r w'=>r = .returned (.int .i64 (cachedE H.ma))∧Below w.heap.size w w':=by
 have hmm:=h.ca.le
 have hmx:=h.ca.mx
 unfold maxLen at hmx
 go_enter Tryz.func67,Tryz.ntmps67
 have hcb:=hbk.cell
 unfold bR at hcb
 obtain⟨L,hL⟩:∃L,L=(List.range H.ca.length).map fun k=>mJ H.ma (qx H.ca k) (H.ca.getD k zCc):=⟨_,rfl⟩
 have hLl:Hid (L.length=H.ca.length):=Lib.hid (by rw[hL];simp)
 have hLE:Hid (cachedE H.ma=firstE L):=Lib.hid (by rw[hL];rfl)
 have hLg:Hid (∀k (hk:k<L.length),L[k]=mJ H.ma (qx H.ca k) (H.ca.getD k zCc)):=Lib.hid fun k hk=>by simp[hL]
 clear hL
 go_upto_region 2 with (fail)
 clear hcb
 go_loopw [11] (fun i wr => ∃(k:Nat),k≤H.ca.length∧i = .int .i64 k∧Below w.heap.size w wr∧Hid (∀j (hj:j<L.length),j<k→L[j]=0)) (fun i _=>H.ca.length-(intOf i).toNat)
 case atStart=>exact⟨0,Nat.zero_le _,rfl,Below.refl _ _,Lib.hid fun j _ hj=>absurd hj (Nat.not_lt_zero _)⟩
 case round=>
  obtain⟨k,hk,rfl,hbr,hz⟩:=hrel
  by_cases hkl:k<H.ca.length
  ·obtain⟨bc,oc,hac,hrd⟩:=gB kr (by decide) (h.below hbr).ca.rd k hkl
   have hki:(k:Int)<(H.ca.length:Int):=by omega
   have hkL:k<L.length:=by rw[hLl.out];exact hkl
   have hE:Hid (L[k]=mJ H.ma (qx H.ca k) H.ca[k]):=Lib.hid (by rw[hLg.out k hkL,List.getD_eq_getElem?_getD,List.getElem?_eq_getElem hkl];rfl)
   have hfin:Hid (L[k]≠0→cachedE H.ma=L[k]):=Lib.hid fun hne=>by rw[hLE.out,qa k hkL hz.out hne]
   have hnx:Hid (L[k]=0→∀j (hj:j<L.length),j<k+1→L[j]=0):=Lib.hid fun h0 j hj hjk=>by
    by_cases e:j=k
    ·subst e;exact h0
    ·exact hz.out j hj (by omega)
   generalize hLk:L[k]=Lk at *
   have hpv:Hid (qx H.ca k=if k=0 then none else H.ca[k-1]?):=Lib.hid rfl
   generalize hc:H.ca[k]=c at *
   rw[hac]
   clear hz hkL hLk hc
   go_wp2_with (first | (refine ay _ _ rfl bc (oc+k*3) rfl rfl _ hrd _ Tryz.underlying106 rfl cached_size ?_) | (refine aH rfl _ _ _ rfl (sZ c) rfl rfl rfl cached_size (nz c) ?_))
   intro w3 hb3 cx
   have hbr3:=ae hbr hb3
   have hbk3:=hbk.ext hbr3
   have hr3:=h.below hbr3
   generalize wr.heap.size=gc at cx ⊢
   clear hb3 hrd hbr
   go_upto_region 4 with (fail)
   obtain⟨bf,of,F,P,hai,hFl,hcF,hcs⟩:∃(bf of F:Nat) (P:PF),(0≤c.f→c.f<H.fi.length→H.ai=some ⟨bf,of,none⟩)∧(0≤c.f→c.f<H.fi.length→F<H.fi.length)∧(0≤c.f→c.f<H.fi.length→c.f=(F:Int)∧aV H.ma.st c.f=P.fi)∧(0≤c.f→c.f<H.fi.length→∀W,Below w3.heap.size w3 W→W.cell? ⟨bf,of+F*2+1,none⟩=some (.slice P.a P.l.length P.c)):=by
    by_cases hc0:0≤c.f∧c.f<H.fi.length
    ·have hFl:c.f.toNat<H.fi.length:=by omega
     obtain⟨bf,of,P,hai,hP,hcn,hcs⟩:=uJ hr3.st.rd c.f.toNat hFl
     refine⟨bf,of,c.f.toNat,P,fun _ _=>hai,fun _ _=>hFl,fun _ _=>⟨by omega,?_⟩,fun _ _ W hb => ?_⟩
     ·have:(H.fi.map PF.fi)[c.f.toNat]?=some P.fi:=by rw[List.getElem?_map,hP];rfl
      have h2:=jZ (s:=H.ma.st) (F:=c.f.toNat) this
      rw[←h2]
      congr 1;omega
     ·obtain⟨bf',of',P',hai',hP',hcn',hcs'⟩:=uJ (hr3.below hb).st.rd c.f.toNat hFl
      rw[hP] at hP'
      cases hP'
      rw[hai] at hai'
      cases hai'
      exact hcs'
    ·exact⟨0,0,0,⟨0,none,[],0⟩,fun h1 h2=>absurd ⟨h1,h2⟩ hc0,fun h1 h2=>absurd ⟨h1,h2⟩ hc0,fun h1 h2=>absurd ⟨h1,h2⟩ hc0,fun h1 h2=>absurd ⟨h1,h2⟩ hc0⟩
   by_cases c1:c.f<0
   ·have hbad:Hid (c.f<0∨(H.ma.st.fs.length:Int)≤c.f∨c.i<0∨((aV H.ma.st c.f).b.length:Int)≤c.i∨c.k<0∨(H.ma.m.fs.length:Int)≤c.k):=Lib.hid (.inl c1)
    refine aG 51 [_,_,_,_,_,_,_,_,_,_,_,_,_,_,_,_,_,_,_,_,_,_,_,_,_,_,_,_,_,_,_,_,_,_,_,_,_,_,_,_,_,_,_,_,_,_,_,_,_,_,.v (.bool true)] (Gf gc 0 rfl rfl (Gl cx rfl rfl rfl rfl rfl (Gb (.bool true) (by simp[go_sem,c1]) rfl rfl rfl rfl rfl (Gk rfl (Gk rfl (Gk rfl (Gk rfl (Gk rfl (Gk rfl (Gk rfl (Gk rfl (Gk rfl (Gk rfl (Gk rfl (Gk rfl (Gk rfl (Gk rfl (Gk rfl (Gk rfl (Gk rfl (Gk rfl (Gk rfl (Gk rfl (Gk rfl (Gk rfl (Gk rfl (Gk rfl (Gk rfl (Gk rfl (Gk rfl (Gk rfl (Gk rfl (Gk rfl (Gk rfl (Gk rfl (Gk rfl (Gk rfl (Gk rfl (Gk rfl (Gk rfl (Gk rfl (Gk rfl (Gk rfl (Gk rfl (Gk rfl (Gk rfl (Gk rfl (Gk rfl (Gk rfl (Gk rfl (Gk rfl (aB)))))))))))))))))))))))))))))))))))))))))))))))))))) (fun _=>rfl) rfl ?_
    intro y W4 hbW4 _
    have hbr4:=ae hbr3 hbW4
    replace cx:=cx.ext hbW4
    clear hbW4
    have hL3:Hid (Lk=3):=Lib.hid (by rw[hE.out];exact mV hbad.out)
    have hq:Hid (cachedE H.ma=3):=Lib.hid (by rw[hfin.out (by rw[hL3.out];decide),hL3.out])
    clear hai hFl hcF hcs
    go_wp2
    go_ret
    rw[hq.out]
    exact⟨rfl,hbr4⟩
   have hfl:Hid (H.ma.st.fs.length=H.fi.length):=Lib.hid (List.length_map _)
   by_cases c2:(H.fi.length:Int)≤c.f
   ·have hbad:Hid (c.f<0∨(H.ma.st.fs.length:Int)≤c.f∨c.i<0∨((aV H.ma.st c.f).b.length:Int)≤c.i∨c.k<0∨(H.ma.m.fs.length:Int)≤c.k):=Lib.hid (.inr (.inl (by rw[hfl.out];exact c2)))
    refine aG 51 [_,_,_,_,_,_,_,_,_,_,_,_,_,_,_,_,_,_,_,_,_,_,_,_,_,_,_,_,_,_,_,_,_,_,_,_,_,_,_,_,_,_,_,_,_,_,_,_,_,_,.v (.bool true)] (Gf gc 0 rfl rfl (Gl cx rfl rfl rfl rfl rfl (Gb (.bool false) (by simp[go_sem,c1]) rfl rfl rfl rfl rfl (Gk rfl (Gf gc 0 rfl rfl (Gl cx rfl rfl rfl rfl rfl (Gk rfl (Gk rfl (Gf b 7 rfl rfl (Gf b 7 rfl rfl (Gl hbk3 rfl rfl rfl rfl rfl (Gn rfl rfl rfl rfl (Gb (.bool true) (by simp[go_sem,c2]) rfl rfl rfl rfl rfl (Gk rfl (Gk rfl (Gk rfl (Gk rfl (Gk rfl (Gk rfl (Gk rfl (Gk rfl (Gk rfl (Gk rfl (Gk rfl (Gk rfl (Gk rfl (Gk rfl (Gk rfl (Gk rfl (Gk rfl (Gk rfl (Gk rfl (Gk rfl (Gk rfl (Gk rfl (Gk rfl (Gk rfl (Gk rfl (Gk rfl (Gk rfl (Gk rfl (Gk rfl (Gk rfl (Gk rfl (Gk rfl (Gk rfl (Gk rfl (Gk rfl (Gk rfl (Gk rfl (Gk rfl (aB)))))))))))))))))))))))))))))))))))))))))))))))))))) (fun _=>rfl) rfl ?_
    intro y W4 hbW4 _
    have hbr4:=ae hbr3 hbW4
    replace cx:=cx.ext hbW4
    clear hbW4
    have hL3:Hid (Lk=3):=Lib.hid (by rw[hE.out];exact mV hbad.out)
    have hq:Hid (cachedE H.ma=3):=Lib.hid (by rw[hfin.out (by rw[hL3.out];decide),hL3.out])
    clear hai hFl hcF hcs
    go_wp2
    go_ret
    rw[hq.out]
    exact⟨rfl,hbr4⟩
   replace hai:=hai (by omega) (by omega)
   replace hFl:=hFl (by omega) (by omega)
   obtain⟨hcF,hfA⟩:=hcF (by omega) (by omega)
   replace hcs:=hcs (by omega) (by omega)
   have hfA':=Lib.hid hfA
   clear hfA
   by_cases c3:c.i<0
   ·have hbad:Hid (c.f<0∨(H.ma.st.fs.length:Int)≤c.f∨c.i<0∨((aV H.ma.st c.f).b.length:Int)≤c.i∨c.k<0∨(H.ma.m.fs.length:Int)≤c.k):=Lib.hid (.inr (.inr (.inl c3)))
    refine aG 51 [_,_,_,_,_,_,_,_,_,_,_,_,_,_,_,_,_,_,_,_,_,_,_,_,_,_,_,_,_,_,_,_,_,_,_,_,_,_,_,_,_,_,_,_,_,_,_,_,_,_,.v (.bool true)] (Gf gc 0 rfl rfl (Gl cx rfl rfl rfl rfl rfl (Gb (.bool false) (by simp[go_sem,c1]) rfl rfl rfl rfl rfl (Gk rfl (Gf gc 0 rfl rfl (Gl cx rfl rfl rfl rfl rfl (Gk rfl (Gk rfl (Gf b 7 rfl rfl (Gf b 7 rfl rfl (Gl hbk3 rfl rfl rfl rfl rfl (Gn rfl rfl rfl rfl (Gb (.bool false) (by simp[go_sem,c2]) rfl rfl rfl rfl rfl (Gk rfl (Gk rfl (Gf gc 1 rfl rfl (Gl cx rfl rfl rfl rfl rfl (Gb (.bool true) (by simp[go_sem,c3]) rfl rfl rfl rfl rfl (Gk rfl (Gk rfl (Gk rfl (Gk rfl (Gk rfl (Gk rfl (Gk rfl (Gk rfl (Gk rfl (Gk rfl (Gk rfl (Gk rfl (Gk rfl (Gk rfl (Gk rfl (Gk rfl (Gk rfl (Gk rfl (Gk rfl (Gk rfl (Gk rfl (Gk rfl (Gk rfl (Gk rfl (Gk rfl (Gk rfl (Gk rfl (Gk rfl (Gk rfl (Gk rfl (Gk rfl (Gk rfl (Gk rfl (aB)))))))))))))))))))))))))))))))))))))))))))))))))))) (fun _=>rfl) rfl ?_
    intro y W4 hbW4 _
    have hbr4:=ae hbr3 hbW4
    replace cx:=cx.ext hbW4
    clear hbW4
    have hL3:Hid (Lk=3):=Lib.hid (by rw[hE.out];exact mV hbad.out)
    have hq:Hid (cachedE H.ma=3):=Lib.hid (by rw[hfin.out (by rw[hL3.out];decide),hL3.out])
    clear hai hFl hcF hcs
    go_wp2
    go_ret
    rw[hq.out]
    exact⟨rfl,hbr4⟩
   by_cases c4:(P.l.length:Int)≤c.i
   ·have hbad:Hid (c.f<0∨(H.ma.st.fs.length:Int)≤c.f∨c.i<0∨((aV H.ma.st c.f).b.length:Int)≤c.i∨c.k<0∨(H.ma.m.fs.length:Int)≤c.k):=Lib.hid (.inr (.inr (.inr (.inl (by rw[hfA'.out];exact c4)))))
    refine aG 51 [_,_,_,_,_,_,_,_,_,_,_,_,_,_,_,_,_,_,_,_,_,_,_,_,_,_,_,_,_,_,_,_,_,_,_,_,_,_,_,_,_,_,_,_,_,_,_,_,_,_,.v (.bool true)] (Gf gc 0 rfl rfl (Gl cx rfl rfl rfl rfl rfl (Gb (.bool false) (by simp[go_sem,c1]) rfl rfl rfl rfl rfl (Gk rfl (Gf gc 0 rfl rfl (Gl cx rfl rfl rfl rfl rfl (Gk rfl (Gk rfl (Gf b 7 rfl rfl (Gf b 7 rfl rfl (Gl hbk3 rfl rfl rfl rfl rfl (Gn rfl rfl rfl rfl (Gb (.bool false) (by simp[go_sem,c2]) rfl rfl rfl rfl rfl (Gk rfl (Gk rfl (Gf gc 1 rfl rfl (Gl cx rfl rfl rfl rfl rfl (Gb (.bool false) (by simp[go_sem,c3]) rfl rfl rfl rfl rfl (Gk rfl (Gk rfl (Gf gc 1 rfl rfl (Gl cx rfl rfl rfl rfl rfl (Gk rfl (Gk rfl (Gf b 7 rfl rfl (Gf b 7 rfl rfl (Gl hbk3 (V:=.slice (some ⟨bf,of,none⟩) H.fi.length H.ci) (by simp[bR,hai]) rfl rfl rfl rfl (Gf gc 0 rfl rfl (Gl cx (V:=.int .i64 (F:Int)) (by simp[sZ,hcF]) rfl rfl rfl rfl (Gr (.pointer (some ⟨bf,of+F*2,none⟩)) (fun ρ y W hb hKn=>(aU rfl (aA rfl hKn) (aA rfl hKn) hFl Tryz.underlying35 file_size)) rfl rfl (Gf bf (of+F*2+1) rfl rfl (Gc (.slice P.a P.l.length P.c) (fun W hb=>by simp[hcs _ hb]) rfl rfl rfl rfl (Gn rfl rfl rfl rfl (Gb (.bool true) (by simp[go_sem,c4]) rfl rfl rfl rfl rfl (Gk rfl (Gk rfl (Gk rfl (Gk rfl (Gk rfl (Gk rfl (Gk rfl (Gk rfl (Gk rfl (Gk rfl (Gk rfl (Gk rfl (Gk rfl (Gk rfl (Gk rfl (Gk rfl (Gk rfl (aB)))))))))))))))))))))))))))))))))))))))))))))))))))) (fun _=>rfl) rfl ?_
    intro y W4 hbW4 _
    have hbr4:=ae hbr3 hbW4
    replace cx:=cx.ext hbW4
    clear hbW4
    have hL3:Hid (Lk=3):=Lib.hid (by rw[hE.out];exact mV hbad.out)
    have hq:Hid (cachedE H.ma=3):=Lib.hid (by rw[hfin.out (by rw[hL3.out];decide),hL3.out])
    clear hai hFl hcF hcs
    go_wp2
    go_ret
    rw[hq.out]
    exact⟨rfl,hbr4⟩
   by_cases c5:c.k<0
   ·have hbad:Hid (c.f<0∨(H.ma.st.fs.length:Int)≤c.f∨c.i<0∨((aV H.ma.st c.f).b.length:Int)≤c.i∨c.k<0∨(H.ma.m.fs.length:Int)≤c.k):=Lib.hid (.inr (.inr (.inr (.inr (.inl c5)))))
    refine aG 51 [_,_,_,_,_,_,_,_,_,_,_,_,_,_,_,_,_,_,_,_,_,_,_,_,_,_,_,_,_,_,_,_,_,_,_,_,_,_,_,_,_,_,_,_,_,_,_,_,_,_,.v (.bool true)] (Gf gc 0 rfl rfl (Gl cx rfl rfl rfl rfl rfl (Gb (.bool false) (by simp[go_sem,c1]) rfl rfl rfl rfl rfl (Gk rfl (Gf gc 0 rfl rfl (Gl cx rfl rfl rfl rfl rfl (Gk rfl (Gk rfl (Gf b 7 rfl rfl (Gf b 7 rfl rfl (Gl hbk3 rfl rfl rfl rfl rfl (Gn rfl rfl rfl rfl (Gb (.bool false) (by simp[go_sem,c2]) rfl rfl rfl rfl rfl (Gk rfl (Gk rfl (Gf gc 1 rfl rfl (Gl cx rfl rfl rfl rfl rfl (Gb (.bool false) (by simp[go_sem,c3]) rfl rfl rfl rfl rfl (Gk rfl (Gk rfl (Gf gc 1 rfl rfl (Gl cx rfl rfl rfl rfl rfl (Gk rfl (Gk rfl (Gf b 7 rfl rfl (Gf b 7 rfl rfl (Gl hbk3 (V:=.slice (some ⟨bf,of,none⟩) H.fi.length H.ci) (by simp[bR,hai]) rfl rfl rfl rfl (Gf gc 0 rfl rfl (Gl cx (V:=.int .i64 (F:Int)) (by simp[sZ,hcF]) rfl rfl rfl rfl (Gr (.pointer (some ⟨bf,of+F*2,none⟩)) (fun ρ y W hb hKn=>(aU rfl (aA rfl hKn) (aA rfl hKn) hFl Tryz.underlying35 file_size)) rfl rfl (Gf bf (of+F*2+1) rfl rfl (Gc (.slice P.a P.l.length P.c) (fun W hb=>by simp[hcs _ hb]) rfl rfl rfl rfl (Gn rfl rfl rfl rfl (Gb (.bool false) (by simp[go_sem,c4]) rfl rfl rfl rfl rfl (Gk rfl (Gk rfl (Gf gc 2 rfl rfl (Gl cx rfl rfl rfl rfl rfl (Gb (.bool true) (by simp[go_sem,c5]) rfl rfl rfl rfl rfl (Gk rfl (Gk rfl (Gk rfl (Gk rfl (Gk rfl (Gk rfl (Gk rfl (Gk rfl (Gk rfl (Gk rfl (Gk rfl (Gk rfl (aB)))))))))))))))))))))))))))))))))))))))))))))))))))) (fun _=>rfl) rfl ?_
    intro y W4 hbW4 _
    have hbr4:=ae hbr3 hbW4
    replace cx:=cx.ext hbW4
    clear hbW4
    have hL3:Hid (Lk=3):=Lib.hid (by rw[hE.out];exact mV hbad.out)
    have hq:Hid (cachedE H.ma=3):=Lib.hid (by rw[hfin.out (by rw[hL3.out];decide),hL3.out])
    clear hai hFl hcF hcs
    go_wp2
    go_ret
    rw[hq.out]
    exact⟨rfl,hbr4⟩
   by_cases c6:(H.m.fs.length:Int)≤c.k
   ·have hbad:Hid (c.f<0∨(H.ma.st.fs.length:Int)≤c.f∨c.i<0∨((aV H.ma.st c.f).b.length:Int)≤c.i∨c.k<0∨(H.ma.m.fs.length:Int)≤c.k):=Lib.hid (.inr (.inr (.inr (.inr (.inr c6)))))
    refine aG 51 [_,_,_,_,_,_,_,_,_,_,_,_,_,_,_,_,_,_,_,_,_,_,_,_,_,_,_,_,_,_,_,_,_,_,_,_,_,_,_,_,_,_,_,_,_,_,_,_,_,_,.v (.bool true)] (Gf gc 0 rfl rfl (Gl cx rfl rfl rfl rfl rfl (Gb (.bool false) (by simp[go_sem,c1]) rfl rfl rfl rfl rfl (Gk rfl (Gf gc 0 rfl rfl (Gl cx rfl rfl rfl rfl rfl (Gk rfl (Gk rfl (Gf b 7 rfl rfl (Gf b 7 rfl rfl (Gl hbk3 rfl rfl rfl rfl rfl (Gn rfl rfl rfl rfl (Gb (.bool false) (by simp[go_sem,c2]) rfl rfl rfl rfl rfl (Gk rfl (Gk rfl (Gf gc 1 rfl rfl (Gl cx rfl rfl rfl rfl rfl (Gb (.bool false) (by simp[go_sem,c3]) rfl rfl rfl rfl rfl (Gk rfl (Gk rfl (Gf gc 1 rfl rfl (Gl cx rfl rfl rfl rfl rfl (Gk rfl (Gk rfl (Gf b 7 rfl rfl (Gf b 7 rfl rfl (Gl hbk3 (V:=.slice (some ⟨bf,of,none⟩) H.fi.length H.ci) (by simp[bR,hai]) rfl rfl rfl rfl (Gf gc 0 rfl rfl (Gl cx (V:=.int .i64 (F:Int)) (by simp[sZ,hcF]) rfl rfl rfl rfl (Gr (.pointer (some ⟨bf,of+F*2,none⟩)) (fun ρ y W hb hKn=>(aU rfl (aA rfl hKn) (aA rfl hKn) hFl Tryz.underlying35 file_size)) rfl rfl (Gf bf (of+F*2+1) rfl rfl (Gc (.slice P.a P.l.length P.c) (fun W hb=>by simp[hcs _ hb]) rfl rfl rfl rfl (Gn rfl rfl rfl rfl (Gb (.bool false) (by simp[go_sem,c4]) rfl rfl rfl rfl rfl (Gk rfl (Gk rfl (Gf gc 2 rfl rfl (Gl cx rfl rfl rfl rfl rfl (Gb (.bool false) (by simp[go_sem,c5]) rfl rfl rfl rfl rfl (Gk rfl (Gk rfl (Gf gc 2 rfl rfl (Gl cx rfl rfl rfl rfl rfl (Gk rfl (Gk rfl (Gf b 0 rfl rfl (Gf b 0 rfl rfl (Gl hbk3 rfl rfl rfl rfl rfl (Gn rfl rfl rfl rfl (Gb (.bool true) (by simp[go_sem,c6]) rfl rfl rfl rfl rfl (Gk rfl (aB)))))))))))))))))))))))))))))))))))))))))))))))))))) (fun _=>rfl) rfl ?_
    intro y W4 hbW4 _
    have hbr4:=ae hbr3 hbW4
    replace cx:=cx.ext hbW4
    clear hbW4
    have hL3:Hid (Lk=3):=Lib.hid (by rw[hE.out];exact mV hbad.out)
    have hq:Hid (cachedE H.ma=3):=Lib.hid (by rw[hfin.out (by rw[hL3.out];decide),hL3.out])
    clear hai hFl hcF hcs
    go_wp2
    go_ret
    rw[hq.out]
    exact⟨rfl,hbr4⟩
   refine aG 51 [_,_,_,_,_,_,_,_,_,_,_,_,_,_,_,_,_,_,_,_,_,_,_,_,_,_,_,_,_,_,_,_,_,_,_,_,_,_,_,_,_,_,_,_,_,_,_,_,_,_,.v (.bool false)] (Gf gc 0 rfl rfl (Gl cx rfl rfl rfl rfl rfl (Gb (.bool false) (by simp[go_sem,c1]) rfl rfl rfl rfl rfl (Gk rfl (Gf gc 0 rfl rfl (Gl cx rfl rfl rfl rfl rfl (Gk rfl (Gk rfl (Gf b 7 rfl rfl (Gf b 7 rfl rfl (Gl hbk3 rfl rfl rfl rfl rfl (Gn rfl rfl rfl rfl (Gb (.bool false) (by simp[go_sem,c2]) rfl rfl rfl rfl rfl (Gk rfl (Gk rfl (Gf gc 1 rfl rfl (Gl cx rfl rfl rfl rfl rfl (Gb (.bool false) (by simp[go_sem,c3]) rfl rfl rfl rfl rfl (Gk rfl (Gk rfl (Gf gc 1 rfl rfl (Gl cx rfl rfl rfl rfl rfl (Gk rfl (Gk rfl (Gf b 7 rfl rfl (Gf b 7 rfl rfl (Gl hbk3 (V:=.slice (some ⟨bf,of,none⟩) H.fi.length H.ci) (by simp[bR,hai]) rfl rfl rfl rfl (Gf gc 0 rfl rfl (Gl cx (V:=.int .i64 (F:Int)) (by simp[sZ,hcF]) rfl rfl rfl rfl (Gr (.pointer (some ⟨bf,of+F*2,none⟩)) (fun ρ y W hb hKn=>(aU rfl (aA rfl hKn) (aA rfl hKn) hFl Tryz.underlying35 file_size)) rfl rfl (Gf bf (of+F*2+1) rfl rfl (Gc (.slice P.a P.l.length P.c) (fun W hb=>by simp[hcs _ hb]) rfl rfl rfl rfl (Gn rfl rfl rfl rfl (Gb (.bool false) (by simp[go_sem,c4]) rfl rfl rfl rfl rfl (Gk rfl (Gk rfl (Gf gc 2 rfl rfl (Gl cx rfl rfl rfl rfl rfl (Gb (.bool false) (by simp[go_sem,c5]) rfl rfl rfl rfl rfl (Gk rfl (Gk rfl (Gf gc 2 rfl rfl (Gl cx rfl rfl rfl rfl rfl (Gk rfl (Gk rfl (Gf b 0 rfl rfl (Gf b 0 rfl rfl (Gl hbk3 rfl rfl rfl rfl rfl (Gn rfl rfl rfl rfl (Gb (.bool false) (by simp[go_sem,c6]) rfl rfl rfl rfl rfl (Gk rfl (aB)))))))))))))))))))))))))))))))))))))))))))))))))))) (fun _=>rfl) rfl ?_
   intro y W4 hbW4 _
   have hbr4:=ae hbr3 hbW4
   replace cx:=cx.ext hbW4
   clear hbW4
   obtain⟨K,hcK⟩:∃K:Nat,c.k=K:=⟨c.k.toNat,by omega⟩
   have hKl:K<H.m.fs.length:=by omega
   have hbk4:=hbk.ext hbr4
   have hr4:=h.below hbr4
   obtain⟨bg,og,haf,hfrd⟩:=gB eT (by decide) hr4.fr.rd K hKl
   have hE7:Hid (Lk=if (bB H.ma K).r<1∨(bB H.ma K).f≠c.f∨(bB H.ma K).i≠c.i then 7 else match qx H.ca k with
    | none=>0
    | some q=>if c.f<q.f∨q.f=c.f∧c.i≤q.i then 2 else 0):=Lib.hid (by
    rw[hE.out]
    unfold mJ
    rw[if_neg (by rw[hfl.out,hfA'.out];show ¬(c.f<0∨(H.fi.length:Int)≤c.f∨c.i<0∨(P.l.length:Int)≤c.i∨c.k<0∨(H.m.fs.length:Int)≤c.k);omega),hcK]
    rfl)
   have hxf:H.m.fs[K]=bB H.ma K:=by
    have:=zt (m:=H.ma) (f:=K) hKl
    have h2:H.m.fs[K]?=some (bB H.ma K):=this
    rw[List.getElem?_eq_getElem hKl] at h2
    exact Option.some.inj h2
   rw[hxf] at hfrd
   generalize bB H.ma K=x at *
   clear hxf hai hFl hcs hfA' hfl hbk3 hr3 c2 c3 c4 c5 c6 c1 hE hcF
   go_upto_region 6 with (fail)
   refine aG 10 [_,_,_,_,_,_,_,_,_,.r 9 ((mM W4.heap.size 81 13))] (Gk rfl (Gk rfl (Gf b 0 rfl rfl (Gf b 0 rfl rfl (Gl hbk4 (V:=.slice (some ⟨bg,og,none⟩) H.m.fs.length H.cf) (by simp[bR,haf]) rfl rfl rfl rfl (Gf gc 2 rfl rfl (Gl cx (V:=.int .i64 (K:Int)) (by simp[sZ,hcK]) rfl rfl rfl rfl (Gr (.pointer (some ⟨bg,og+K*13,none⟩)) (fun ρ y W hb hKn=>(aU rfl (aA rfl hKn) (aA rfl hKn) hKl Tryz.underlying26 frame_size)) rfl rfl (Gr (.agg (qi x)) (fun ρ y W hb hKn=>(bV rfl (aA rfl hKn) (hfrd.below hb) Tryz.underlying81 rfl frame_size)) rfl rfl (ag ?_ (aB))))))))))) (fun _=>rfl) rfl ?_
   ·intro ρ y W hw hn hb hd
    refine ji (.pointer (some ⟨W.heap.size,0,none⟩)) (ah rfl) (by simp[execOp,go_sem]) ((Below.refl _ _).alloc (Nat.le_refl _) (.cells #[.int .u8 0,.int .u8 0,.int .u8 0,.int .u8 0,.int .u8 0,.int .u8 0,.int .u8 0,.int .u8 0,.int .i64 0,.bool false,.bool false,.int .i64 0,.int .i64 0] 81)) ?_
    exact⟨_,_,rfl,hb.size,aF.new _ _ _,rfl⟩
   intro y W5 hbW5 hRW5
   have hy9:((mM W4.heap.size 81 13)).r (y 9) W5:=hRW5 9 (by decide)
   clear hRW5
   obtain⟨gx,curx,hgx,hgxs,hbx,hszx⟩:=hy9
   rw[hgx]
   go_wp2_with (refine eX rfl _ _ _ rfl gx 0 (qi x) rfl rfl _ _ hbx (by rw[hszx];exact Nat.le_refl _) frame_size (mH x) ?_)
   intro w6 hb6 hg6
   rw[iq _ _ (by rw[hszx];rfl)] at hb6
   have hbel6:Below W4.heap.size W4 w6:=hbW5.grown hg6 hbW5.size (fun k hk=>by cases hk;exact hgxs)
   have hbr6:=ae hbr4 hbel6
   have cx6:=cx.ext hbel6
   have hbk6:=hbk.ext hbr6
   clear hbx hbW5 hg6 cx hbk4 hr4 hfrd hbel6 hgx
   have hcx:=hb6.cell
   unfold qi at hcx
   have hcc:=cx6.cell
   unfold sZ at hcc
   by_cases d1:x.r<1
   ·have hL7:Hid (Lk=7):=Lib.hid (by rw[hE7.out,if_pos (.inl d1)])
    have hq:Hid (cachedE H.ma=7):=Lib.hid (by rw[hfin.out (by rw[hL7.out];decide),hL7.out])
    clear hbk6
    go_wp2
    go_ret
    rw[hq.out]
    exact⟨rfl,hbr6⟩
   by_cases d2:x.f=c.f
   rotate_left
   ·have hL7:Hid (Lk=7):=Lib.hid (by rw[hE7.out,if_pos (.inr (.inl d2))])
    have hq:Hid (cachedE H.ma=7):=Lib.hid (by rw[hfin.out (by rw[hL7.out];decide),hL7.out])
    clear hbk6
    go_wp2
    go_ret
    rw[hq.out]
    exact⟨rfl,hbr6⟩
   by_cases d3:x.i=c.i
   rotate_left
   ·have hL7:Hid (Lk=7):=Lib.hid (by rw[hE7.out,if_pos (.inr (.inr d3))])
    have hq:Hid (cachedE H.ma=7):=Lib.hid (by rw[hfin.out (by rw[hL7.out];decide),hL7.out])
    clear hbk6
    go_wp2
    go_ret
    rw[hq.out]
    exact⟨rfl,hbr6⟩
   rw[if_neg (by rintro (h | h | h);exact d1 h;exact h d2;exact h d3)] at hE7
   go_upto_region 9 with (fail)
   clear hcx hcc hb6 d1 d2 d3
   obtain⟨k1,q,hk1,hk1l,hq0,hq1,hkq⟩:∃(k1:Nat) (q:Cc),(0<k→IntKind.i64.wrap ((k:Int)-1)=(k1:Int))∧(0<k→k1<H.ca.length)∧(0<k→∀W,Below w6.heap.size w6 W→W.cell? ⟨bc,oc+k1*3,none⟩=some (.int .i64 q.f))∧(0<k→∀W,Below w6.heap.size w6 W→W.cell? ⟨bc,oc+k1*3+1,none⟩=some (.int .i64 q.i))∧(0<k→qx H.ca k=some q):=by
    by_cases h0:0<k
    ·have hkl1:k-1<H.ca.length:=by omega
     have hcell:∀W,Below w6.heap.size w6 W→W.cell? ⟨bc,oc+(k-1)*3,none⟩=some (.int .i64 H.ca[k-1].f)∧W.cell? ⟨bc,oc+(k-1)*3+1,none⟩=some (.int .i64 H.ca[k-1].i):=fun W hb=>by
      obtain⟨bc',oc',c',hac',hc',e1,e2,_⟩:=Nl (h.below (ae hbr6 hb)).ca.rd (k-1) hkl1
      rw[List.getElem?_eq_getElem hkl1] at hc'
      cases hc'
      rw[hac] at hac'
      cases hac'
      exact⟨e1,e2⟩
     refine⟨k-1,H.ca[k-1],fun _ => ?_,fun _=>hkl1,fun _ W hb=>(hcell W hb).1,fun _ W hb=>(hcell W hb).2,fun _ => ?_⟩
     ·rw[show (k:Int)-1=((k-1:Nat):Int) by omega]
      exact IntWalk.i64_in _ (by omega)
     ·rw[hpv.out,if_neg (by omega),List.getElem?_eq_getElem hkl1]
    ·exact⟨0,zCc,fun h'=>absurd h' h0,fun h'=>absurd h' h0,fun h'=>absurd h' h0,fun h'=>absurd h' h0,fun h'=>absurd h' h0⟩
   by_cases e1:k=0
   ·have e1i:¬(0:Int)<(k:Int):=by omega
    have hL0:Hid (Lk=0):=Lib.hid (by rw[hE7.out,hpv.out,if_pos e1])
    refine aG 44 [_,_,_,_,_,_,_,_,_,_,_,_,_,_,_,_,_,_,_,_,_,_,_,_,_,_,_,_,_,_,_,_,_,_,_,_,_,_,_,_,_,_,_,.v (.bool false)] (Gk rfl (Gb (.bool false) (by simp[go_sem,e1]) rfl rfl rfl rfl rfl (Gk rfl (Gk rfl (Gk rfl (Gk rfl (Gk rfl (Gk rfl (Gk rfl (Gk rfl (Gk rfl (Gk rfl (Gk rfl (Gk rfl (Gk rfl (Gk rfl (Gk rfl (Gk rfl (Gk rfl (Gk rfl (Gk rfl (Gk rfl (Gk rfl (Gk rfl (Gk rfl (Gk rfl (Gk rfl (Gk rfl (Gk rfl (Gk rfl (Gk rfl (Gk rfl (Gk rfl (Gk rfl (Gk rfl (Gk rfl (Gk rfl (Gk rfl (Gk rfl (Gk rfl (Gk rfl (Gk rfl (Gk rfl (Gk rfl (aB))))))))))))))))))))))))))))))))))))))))))))) (fun _=>rfl) rfl ?_
    intro y W7 hbW7 _
    have hbr7:=ae hbr6 hbW7
    clear hbW7
    have hall:=Lib.hid (hnx.out hL0.out)
    clear hq0 hq1 hk1 hk1l cx6 hbk6
    go_wp2
    go_roundw
    case rel=>exact⟨k+1,by omega,by go_num,hbr7,hall⟩
    case measure=>simp[intOf];omega
   have e1i:0<k:=by omega
   replace hk1:=hk1 (by omega)
   replace hk1l:=hk1l (by omega)
   replace hq0:=hq0 (by omega)
   replace hq1:=hq1 (by omega)
   have hpq:=Lib.hid (hkq (by omega))
   clear hkq
   by_cases e2:c.f<q.f
   ·have hbad:Hid (c.f<q.f∨q.f=c.f∧c.i≤q.i):=Lib.hid (.inl e2)
    refine aG 44 [_,_,_,_,_,_,_,_,_,_,_,_,_,_,_,_,_,_,_,_,_,_,_,_,_,_,_,_,_,_,_,_,_,_,_,_,_,_,_,_,_,_,_,.v (.bool true)] (Gk rfl (Gb (.bool true) (by simp[go_sem,e1i]) rfl rfl rfl rfl rfl (Gk rfl (Gk rfl (Gk rfl (Gf b 9 rfl rfl (Gl hbk6 (V:=.slice (some ⟨bc,oc,none⟩) H.ca.length H.cc) (by simp[bR,hac]) rfl rfl rfl rfl (Gk rfl (Gb (.int .i64 (k1:Int)) (by simp[go_sem,hk1]) rfl rfl rfl rfl rfl (Gr (.pointer (some ⟨bc,oc+k1*3,none⟩)) (fun ρ y W hb hKn=>(aU rfl (aA rfl hKn) (aA rfl hKn) hk1l Tryz.underlying38 cached_size)) rfl rfl (Gf bc (oc+k1*3) rfl rfl (Gc (.int .i64 q.f) (fun W hb=>by simp[hq0 _ hb]) rfl rfl rfl rfl (Gf gc 0 rfl rfl (Gl cx6 rfl rfl rfl rfl rfl (Gb (.bool true) (by simp[go_sem,e2]) rfl rfl rfl rfl rfl (Gk rfl (Gk rfl (Gk rfl (Gk rfl (Gk rfl (Gk rfl (Gk rfl (Gk rfl (Gk rfl (Gk rfl (Gk rfl (Gk rfl (Gk rfl (Gk rfl (Gk rfl (Gk rfl (Gk rfl (Gk rfl (Gk rfl (Gk rfl (Gk rfl (Gk rfl (Gk rfl (Gk rfl (Gk rfl (Gk rfl (Gk rfl (Gk rfl (Gk rfl (aB))))))))))))))))))))))))))))))))))))))))))))) (fun _=>rfl) rfl ?_
    intro y W7 hbW7 _
    have hbr7:=ae hbr6 hbW7
    clear hbW7
    have hL2:Hid (Lk=2):=Lib.hid (by rw[hE7.out,hpq.out];simp only;rw[if_pos hbad.out])
    have hq:Hid (cachedE H.ma=2):=Lib.hid (by rw[hfin.out (by rw[hL2.out];decide),hL2.out])
    clear hq0 hq1 hk1 hk1l cx6 hbk6
    go_wp2
    go_ret
    rw[hq.out]
    exact⟨rfl,hbr7⟩
   by_cases e3:q.f=c.f
   ·by_cases e4:c.i≤q.i
    ·have hbad:Hid (c.f<q.f∨q.f=c.f∧c.i≤q.i):=Lib.hid (.inr ⟨e3,e4⟩)
     refine aG 44 [_,_,_,_,_,_,_,_,_,_,_,_,_,_,_,_,_,_,_,_,_,_,_,_,_,_,_,_,_,_,_,_,_,_,_,_,_,_,_,_,_,_,_,.v (.bool true)] (Gk rfl (Gb (.bool true) (by simp[go_sem,e1i]) rfl rfl rfl rfl rfl (Gk rfl (Gk rfl (Gk rfl (Gf b 9 rfl rfl (Gl hbk6 (V:=.slice (some ⟨bc,oc,none⟩) H.ca.length H.cc) (by simp[bR,hac]) rfl rfl rfl rfl (Gk rfl (Gb (.int .i64 (k1:Int)) (by simp[go_sem,hk1]) rfl rfl rfl rfl rfl (Gr (.pointer (some ⟨bc,oc+k1*3,none⟩)) (fun ρ y W hb hKn=>(aU rfl (aA rfl hKn) (aA rfl hKn) hk1l Tryz.underlying38 cached_size)) rfl rfl (Gf bc (oc+k1*3) rfl rfl (Gc (.int .i64 q.f) (fun W hb=>by simp[hq0 _ hb]) rfl rfl rfl rfl (Gf gc 0 rfl rfl (Gl cx6 rfl rfl rfl rfl rfl (Gb (.bool false) (by simp[go_sem,e2]) rfl rfl rfl rfl rfl (Gk rfl (Gk rfl (Gk rfl (Gf b 9 rfl rfl (Gl hbk6 (V:=.slice (some ⟨bc,oc,none⟩) H.ca.length H.cc) (by simp[bR,hac]) rfl rfl rfl rfl (Gk rfl (Gb (.int .i64 (k1:Int)) (by simp[go_sem,hk1]) rfl rfl rfl rfl rfl (Gr (.pointer (some ⟨bc,oc+k1*3,none⟩)) (fun ρ y W hb hKn=>(aU rfl (aA rfl hKn) (aA rfl hKn) hk1l Tryz.underlying38 cached_size)) rfl rfl (Gf bc (oc+k1*3) rfl rfl (Gc (.int .i64 q.f) (fun W hb=>by simp[hq0 _ hb]) rfl rfl rfl rfl (Gf gc 0 rfl rfl (Gl cx6 rfl rfl rfl rfl rfl (Gb (.bool true) (by simp[go_sem,e3]) rfl rfl rfl rfl rfl (Gk rfl (Gk rfl (Gk rfl (Gf b 9 rfl rfl (Gl hbk6 (V:=.slice (some ⟨bc,oc,none⟩) H.ca.length H.cc) (by simp[bR,hac]) rfl rfl rfl rfl (Gk rfl (Gb (.int .i64 (k1:Int)) (by simp[go_sem,hk1]) rfl rfl rfl rfl rfl (Gr (.pointer (some ⟨bc,oc+k1*3,none⟩)) (fun ρ y W hb hKn=>(aU rfl (aA rfl hKn) (aA rfl hKn) hk1l Tryz.underlying38 cached_size)) rfl rfl (Gf bc (oc+k1*3+1) rfl rfl (Gc (.int .i64 q.i) (fun W hb=>by simp[hq1 _ hb]) rfl rfl rfl rfl (Gf gc 1 rfl rfl (Gl cx6 rfl rfl rfl rfl rfl (Gb (.bool true) (by simp[go_sem,e4]) rfl rfl rfl rfl rfl (Gk rfl (Gk rfl (Gk rfl (aB))))))))))))))))))))))))))))))))))))))))))))) (fun _=>rfl) rfl ?_
     intro y W7 hbW7 _
     have hbr7:=ae hbr6 hbW7
     clear hbW7
     have hL2:Hid (Lk=2):=Lib.hid (by rw[hE7.out,hpq.out];simp only;rw[if_pos hbad.out])
     have hq:Hid (cachedE H.ma=2):=Lib.hid (by rw[hfin.out (by rw[hL2.out];decide),hL2.out])
     clear hq0 hq1 hk1 hk1l cx6 hbk6
     go_wp2
     go_ret
     rw[hq.out]
     exact⟨rfl,hbr7⟩
    ·have hL0:Hid (Lk=0):=Lib.hid (by rw[hE7.out,hpq.out];simp only;rw[if_neg (by omega)])
     refine aG 44 [_,_,_,_,_,_,_,_,_,_,_,_,_,_,_,_,_,_,_,_,_,_,_,_,_,_,_,_,_,_,_,_,_,_,_,_,_,_,_,_,_,_,_,.v (.bool false)] (Gk rfl (Gb (.bool true) (by simp[go_sem,e1i]) rfl rfl rfl rfl rfl (Gk rfl (Gk rfl (Gk rfl (Gf b 9 rfl rfl (Gl hbk6 (V:=.slice (some ⟨bc,oc,none⟩) H.ca.length H.cc) (by simp[bR,hac]) rfl rfl rfl rfl (Gk rfl (Gb (.int .i64 (k1:Int)) (by simp[go_sem,hk1]) rfl rfl rfl rfl rfl (Gr (.pointer (some ⟨bc,oc+k1*3,none⟩)) (fun ρ y W hb hKn=>(aU rfl (aA rfl hKn) (aA rfl hKn) hk1l Tryz.underlying38 cached_size)) rfl rfl (Gf bc (oc+k1*3) rfl rfl (Gc (.int .i64 q.f) (fun W hb=>by simp[hq0 _ hb]) rfl rfl rfl rfl (Gf gc 0 rfl rfl (Gl cx6 rfl rfl rfl rfl rfl (Gb (.bool false) (by simp[go_sem,e2]) rfl rfl rfl rfl rfl (Gk rfl (Gk rfl (Gk rfl (Gf b 9 rfl rfl (Gl hbk6 (V:=.slice (some ⟨bc,oc,none⟩) H.ca.length H.cc) (by simp[bR,hac]) rfl rfl rfl rfl (Gk rfl (Gb (.int .i64 (k1:Int)) (by simp[go_sem,hk1]) rfl rfl rfl rfl rfl (Gr (.pointer (some ⟨bc,oc+k1*3,none⟩)) (fun ρ y W hb hKn=>(aU rfl (aA rfl hKn) (aA rfl hKn) hk1l Tryz.underlying38 cached_size)) rfl rfl (Gf bc (oc+k1*3) rfl rfl (Gc (.int .i64 q.f) (fun W hb=>by simp[hq0 _ hb]) rfl rfl rfl rfl (Gf gc 0 rfl rfl (Gl cx6 rfl rfl rfl rfl rfl (Gb (.bool true) (by simp[go_sem,e3]) rfl rfl rfl rfl rfl (Gk rfl (Gk rfl (Gk rfl (Gf b 9 rfl rfl (Gl hbk6 (V:=.slice (some ⟨bc,oc,none⟩) H.ca.length H.cc) (by simp[bR,hac]) rfl rfl rfl rfl (Gk rfl (Gb (.int .i64 (k1:Int)) (by simp[go_sem,hk1]) rfl rfl rfl rfl rfl (Gr (.pointer (some ⟨bc,oc+k1*3,none⟩)) (fun ρ y W hb hKn=>(aU rfl (aA rfl hKn) (aA rfl hKn) hk1l Tryz.underlying38 cached_size)) rfl rfl (Gf bc (oc+k1*3+1) rfl rfl (Gc (.int .i64 q.i) (fun W hb=>by simp[hq1 _ hb]) rfl rfl rfl rfl (Gf gc 1 rfl rfl (Gl cx6 rfl rfl rfl rfl rfl (Gb (.bool false) (by simp[go_sem,e4]) rfl rfl rfl rfl rfl (Gk rfl (Gk rfl (Gk rfl (aB))))))))))))))))))))))))))))))))))))))))))))) (fun _=>rfl) rfl ?_
     intro y W7 hbW7 _
     have hbr7:=ae hbr6 hbW7
     clear hbW7
     have hall:=Lib.hid (hnx.out hL0.out)
     clear hq0 hq1 hk1 hk1l cx6 hbk6
     go_wp2
     go_roundw
     case rel=>exact⟨k+1,by omega,by go_num,hbr7,hall⟩
     case measure=>simp[intOf];omega
   ·have hL0:Hid (Lk=0):=Lib.hid (by rw[hE7.out,hpq.out];simp only;rw[if_neg (by omega)])
    refine aG 44 [_,_,_,_,_,_,_,_,_,_,_,_,_,_,_,_,_,_,_,_,_,_,_,_,_,_,_,_,_,_,_,_,_,_,_,_,_,_,_,_,_,_,_,.v (.bool false)] (Gk rfl (Gb (.bool true) (by simp[go_sem,e1i]) rfl rfl rfl rfl rfl (Gk rfl (Gk rfl (Gk rfl (Gf b 9 rfl rfl (Gl hbk6 (V:=.slice (some ⟨bc,oc,none⟩) H.ca.length H.cc) (by simp[bR,hac]) rfl rfl rfl rfl (Gk rfl (Gb (.int .i64 (k1:Int)) (by simp[go_sem,hk1]) rfl rfl rfl rfl rfl (Gr (.pointer (some ⟨bc,oc+k1*3,none⟩)) (fun ρ y W hb hKn=>(aU rfl (aA rfl hKn) (aA rfl hKn) hk1l Tryz.underlying38 cached_size)) rfl rfl (Gf bc (oc+k1*3) rfl rfl (Gc (.int .i64 q.f) (fun W hb=>by simp[hq0 _ hb]) rfl rfl rfl rfl (Gf gc 0 rfl rfl (Gl cx6 rfl rfl rfl rfl rfl (Gb (.bool false) (by simp[go_sem,e2]) rfl rfl rfl rfl rfl (Gk rfl (Gk rfl (Gk rfl (Gf b 9 rfl rfl (Gl hbk6 (V:=.slice (some ⟨bc,oc,none⟩) H.ca.length H.cc) (by simp[bR,hac]) rfl rfl rfl rfl (Gk rfl (Gb (.int .i64 (k1:Int)) (by simp[go_sem,hk1]) rfl rfl rfl rfl rfl (Gr (.pointer (some ⟨bc,oc+k1*3,none⟩)) (fun ρ y W hb hKn=>(aU rfl (aA rfl hKn) (aA rfl hKn) hk1l Tryz.underlying38 cached_size)) rfl rfl (Gf bc (oc+k1*3) rfl rfl (Gc (.int .i64 q.f) (fun W hb=>by simp[hq0 _ hb]) rfl rfl rfl rfl (Gf gc 0 rfl rfl (Gl cx6 rfl rfl rfl rfl rfl (Gb (.bool false) (by simp[go_sem,e3]) rfl rfl rfl rfl rfl (Gk rfl (Gk rfl (Gk rfl (Gk rfl (Gk rfl (Gk rfl (Gk rfl (Gk rfl (Gk rfl (Gk rfl (Gk rfl (Gk rfl (Gk rfl (Gk rfl (Gk rfl (Gk rfl (aB))))))))))))))))))))))))))))))))))))))))))))) (fun _=>rfl) rfl ?_
    intro y W7 hbW7 _
    have hbr7:=ae hbr6 hbW7
    clear hbW7
    have hall:=Lib.hid (hnx.out hL0.out)
    clear hq0 hq1 hk1 hk1l cx6 hbk6
    go_wp2
    go_roundw
    case rel=>exact⟨k+1,by omega,by go_num,hbr7,hall⟩
    case measure=>simp[intOf];omega
  ·have hki:¬(k:Int)<(H.ca.length:Int):=by omega
   have hq:Hid (cachedE H.ma=0):=Lib.hid (by rw[hLE.out,mD fun i hi=>hz.out i hi (by rw[hLl.out] at hi;omega)])
   clear hz
   go_wp2
   go_ret
   rw[hq.out]
   exact⟨rfl,hbr⟩
theorem Gh {m:Ma} {s:Sp} {n:Int} (h:fw s.ar n<0):bu m s n=5:=by unfold bu;exact if_pos h
theorem CQ (H:MH) (P:PS) (n:Int) (b bs os:Nat) (w:World) (hbk:aF w b (bR H) 41) (h:rC w H) (hrd:cZ w (some ⟨bs,os,none⟩) (lg P)) (hg:P.good w) (har:(aZ P.ar).1=0) (htb:bI P.tb=0) (hn:0≤n∧n<64) :
  Calls Tryz.prog 68 #[.pointer (some ⟨b,0,none⟩),.pointer (some ⟨bs,os,none⟩),.int .i64 n] w fun r w'=>r = .returned (.int .i64 (bu H.ma P.sp n))∧Below w.heap.size w w':=by
 have hs1:∀W,Below w.heap.size w W→W.cell? ⟨bs,os+1,none⟩=some (.slice P.aa P.ar.length P.ac):=fun W hb=>by
  obtain⟨b',o',e,hc⟩:=(hrd.below hb) 1 _ rfl
  cases e
  exact hc
 go_enter Tryz.func68,Tryz.ntmps68
 have hc1:=hs1 w (Below.refl _ _)
 have hA:=hg.ars
 go_wp2_with fail
 refine (yY P.ar n P.aa P.ac _ hA.rd (by have:=hA.le;have:=hA.mx;unfold maxLen at this;omega)).mono ?_
 rintro r w1 ⟨rfl,hb1⟩
 have hbk1:=hbk.ext hb1
 have h1:=h.below hb1
 have hg1:=hg.below hb1
 have hrd1:=hrd.below hb1
 clear hc1 hA
 by_cases hf:fw P.ar n<0
 ·have hq:Hid (bu H.ma P.sp n=5):=Lib.hid (Gh hf)
  clear hbk1
  go_wp2
  go_ret
  rw[hq.out]
  exact⟨rfl,hb1⟩
 have hE:Hid (bu H.ma P.sp n=(let a:=P.ar.getD (fw P.ar n).toNat zAr
  let e:=cB P.tb n
  if e.k=2 then (if (H.sl.length:Int)≤e.n∨a.sh=true then 7 else 0)
  else if (H.m.fs.length:Int)≤e.n then 3 else
  let f:=jQ H.ma e.n
  let of:=decide (0≤a.fi)&&decide (f.f=a.fi)&&decide (f.i=a.ba+n-a.fr)
  if 0≤f.f∧of=false∨a.sh=true∧of=false∨a.sh=false∧of=true∧e.w=true∨e.w=true∧a.wr=false then 7
  else if f.f<0∧e.w=true∧1<f.r then 7 else 0)):=Lib.hid (by unfold bu;exact if_neg hf)
 obtain⟨k,hk,hkl,_⟩:=zl (q:=jP n) (l:=P.ar) (by show 0≤fw P.ar n;omega)
 have hk' : fw P.ar n=k:=hk
 rw[hk',Int.toNat_natCast,List.getD_eq_getElem?_getD,List.getElem?_eq_getElem hkl] at hE
 simp only[Option.getD_some] at hE
 have hkn:¬(k:Int)<0:=by omega
 rw[hk']
 obtain⟨ba,oa,haa,hard⟩:=gB lw (by decide) hg1.ars.rd k hkl
 have haE:=(qc har).2 _ (List.getElem_mem hkl)
 have hafew:=(bi haE).1
 have hent:=(bH _).1 (kI htb n)
 generalize P.ar[k]=a at *
 generalize hge:cB P.tb n=e at *
 have hge':=Lib.hid hge
 clear hk hk' hf haE hge
 go_upto_region 4 with (fail)
 refine lG 15 [_,_,_,_,_,_,_,_,_,_,_,.v (.agg (fI e)),.r 12 ((mM w1.heap.size 89 3)),.v (.pointer (some ⟨ba,oa+k*7,none⟩)),.y 14 ((NA 12 w1.heap.size 89 (nU (.agg (fI e)))))] (fun W=>Below w1.heap.size w1 W) gK (Below.refl _ _) (Yk gK rfl (Yk gK rfl (Yf gK bs (os+1) rfl rfl (Yc gK (.slice (some ⟨ba,oa,none⟩) P.ar.length P.ac) (fun W hb=>by simp[hs1 _ (ae hb1 hb),haa]) rfl rfl rfl rfl (Yk gK rfl (Yr gK (.pointer (some ⟨ba,oa+k*7,none⟩)) (fun ρ y W hb hKn=>(aU rfl (aA rfl hKn) (aA rfl hKn) hkl Tryz.underlying50 area_size)) rfl rfl (Yk gK rfl (Yk gK rfl (Yf gK bs (os+2) rfl rfl (Yr gK (.agg (iP P.ts)) (fun ρ y W hb hKn=>(bV rfl (aA rfl hKn) (mW (hrd1.below hb) 2 8) Tryz.underlying53 tab_agg tab_size)) rfl rfl (Yk gK rfl (ag ?_ (ag ?_ (Yk gK rfl (ag ?_ (aB)))))))))))))))) (fun _=>rfl) rfl ?_
 ·intro ρ y W hw hn hb hd
  refine mh gK hb (nU (.agg (fI e))) (fun _ _ h=>h) ?_
  have E30:=hw 30 9 rfl
  have h9:y 9 = .agg (iP P.ts):=hd 9 rfl
  have E31:=hw 31 10 rfl
  have h10:y 10 = .int .i64 n:=hd 10 rfl
  have EF:∀f,ρ (.func f) = .func (.func f) #[] #[]:=fun f=>hn (.func f) trivial
  refine aJ _ _ (ah rfl) (aK rfl (EF _) Tryz.func69 (by kernel_rfl) (by kernel_rfl) (by simp only[List.map_toArray,List.map_cons,List.map_nil,E30,h9,E31,h10,EF];rfl)) ?_
  refine (xw P.tb (iP P.ts) n W (hg1.below hb).tb).mono ?_
  rintro r w2 ⟨rfl,hb2⟩
  rw[hge'.out]
  exact⟨_,rfl,hb2,rfl⟩
 ·intro ρ y W hw hn hb hd
  refine mh gK hb ((mM w1.heap.size 89 3)) (fun _ _ h=>h) ?_
  refine ji (.pointer (some ⟨W.heap.size,0,none⟩)) (ah rfl) (by simp[execOp,go_sem,bZ]) ((Below.refl _ _).alloc (Nat.le_refl _) (.cells #[.int .i64 0,.int .i64 0,.bool false] 89)) ?_
  exact⟨_,_,rfl,hb.size,aF.new _ _ _,rfl⟩
 ·intro ρ y W hw hn hb hd;have E9:=hw 9 12 rfl;have h12:=hd 12 rfl;have E32:=hw 32 11 rfl;have h11:y 11 = .agg (fI e):=hd 11 rfl
  obtain⟨g3,cur3,e9,hg9,hb9,hs9⟩:=h12
  refine wC (ah rfl) _ _ _ rfl g3 0 (.agg (fI e)) (fI e).toList (E9.trans e9) (E32.trans h11) rfl cur3 _ hb9 (by rw[hs9];exact Nat.le_refl _) entry_size (bv (by simp[fI,Value.oneCell'])) ?_
  intro w1 hw1 hgr
  rw[iq cur3 _ (by rw[hs9];rfl)] at hw1
  refine⟨hb.grown hgr hb.size (fun k hk=>by cases hk;exact hg9),⟨g3,_,e9,hg9,hw1,rfl⟩,?_⟩
  intro k hk hne
  match k,hk,hne with
  | 0,_,_=>exact fun h=>h
  | 1,_,_=>exact fun h=>h
  | 2,_,_=>exact fun h=>h
  | 3,_,_=>exact fun h=>h
  | 4,_,_=>exact fun h=>h
  | 5,_,_=>exact fun h=>h
  | 6,_,_=>exact fun h=>h
  | 7,_,_=>exact fun h=>h
  | 8,_,_=>exact fun h=>h
  | 9,_,_=>exact fun h=>h
  | 10,_,_=>exact fun h=>h
  | 11,_,_=>exact fun h=>h
  | 12,_,_=>exact fun q=>uF q hw1 (fun _=>rfl) ⟨_,hb9⟩ hgr
  | 13,_,_=>exact fun h=>h
  | 14,_,h=>exact absurd rfl h
  | n+15,h,_=>exact absurd h (by omega)
 intro y w4 hbw4 hRw4
 replace hbw4:Below w1.heap.size w1 w4:=hbw4
 have hy12:((mM w1.heap.size 89 3)).r (y 12) w4:=hRw4 12 (by decide)
 have hy14:=hRw4 14 (by decide)
 clear hRw4
 simp only[bJ,bZ,List.map_cons,List.map_nil]
 obtain⟨ge,cce,hgee,hges,hb4,hcce⟩:=hy14
 have hcce' : cce=fI e:=by simpa[nU] using hcce
 subst hcce'
 rw[hgee]
 have hbel4:=hbw4
 have hbr4:=ae hb1 hbel4
 have ex:=hb4
 have hbk4:=hbk.ext hbr4
 have h4:=h.below hbr4
 have hard4:=hard.below hbel4
 clear hbw4 hbel4 hgee hb4 hard hrd1 hbk1 h1 hb1 hs1 hg1 hy12
 have hAc:∀j u,(iE a)[j]?=some u→∀W,Below w4.heap.size w4 W→W.cell? ⟨ba,oa+k*7+j,none⟩=some u:=fun j u hj W hb=>by
  obtain⟨b',o',e',hc⟩:=(hard4.below hb) j u hj
  cases e'
  exact hc
 have hA3:=hAc 3 _ rfl
 have hA4:=hAc 4 _ rfl
 have hA5:=hAc 5 _ rfl
 have hA6:=hAc 6 _ rfl
 have hA0:∀W,Below w4.heap.size w4 W→W.cell? ⟨ba,oa+k*7,none⟩=some (.int .i64 a.fr):=hAc 0 _ rfl
 have hce:=ex.cell
 unfold fI at hce
 clear hAc hard4
 by_cases hk2:e.k=2
 ·rw[if_pos hk2] at hE
  rw[hk2] at hce
  go_upto_region 6 with (fail)
  clear hce hk2
  by_cases c1:(H.sl.length:Int)≤e.n
  ·have hq:Hid (bu H.ma P.sp n=7):=Lib.hid (by rw[hE.out,if_pos (.inl c1)])
   refine aG 14 [_,_,_,_,_,_,_,_,_,_,_,_,_,.v (.bool true)] (Gf ge 1 rfl rfl (Gl ex rfl rfl rfl rfl rfl (Gk rfl (Gk rfl (Gf b 2 rfl rfl (Gl hbk4 rfl rfl rfl rfl rfl (Gn rfl rfl rfl rfl (Gb (.bool true) (by simp[go_sem,c1]) rfl rfl rfl rfl rfl (Gk rfl (Gk rfl (Gk rfl (Gk rfl (Gk rfl (Gk rfl (aB))))))))))))))) (fun _=>rfl) rfl ?_
   intro y W5 hbW5 _
   have hbr5:=ae hbr4 hbW5
   clear hbW5
   go_wp2
   go_ret
   rw[hq.out]
   exact⟨rfl,hbr5⟩
  ·cases c2:a.sh with
   | true=>
    have hq:Hid (bu H.ma P.sp n=7):=Lib.hid (by rw[hE.out,if_pos (.inr c2)])
    refine aG 14 [_,_,_,_,_,_,_,_,_,_,_,_,_,.v (.bool true)] (Gf ge 1 rfl rfl (Gl ex rfl rfl rfl rfl rfl (Gk rfl (Gk rfl (Gf b 2 rfl rfl (Gl hbk4 rfl rfl rfl rfl rfl (Gn rfl rfl rfl rfl (Gb (.bool false) (by simp[go_sem,c1]) rfl rfl rfl rfl rfl (Gk rfl (Gk rfl (Gk rfl (Gf ba (oa+k*7+4) rfl rfl (Gc (.bool true) (fun W hb=>by simp[hA4 _ hb,c2]) rfl rfl rfl rfl (Gk rfl (aB))))))))))))))) (fun _=>rfl) rfl ?_
    intro y W5 hbW5 _
    have hbr5:=ae hbr4 hbW5
    clear hbW5
    go_wp2
    go_ret
    rw[hq.out]
    exact⟨rfl,hbr5⟩
   | false=>
    have hq:Hid (bu H.ma P.sp n=0):=Lib.hid (by rw[hE.out,if_neg (by rw[c2];simp;omega)])
    refine aG 14 [_,_,_,_,_,_,_,_,_,_,_,_,_,.v (.bool false)] (Gf ge 1 rfl rfl (Gl ex rfl rfl rfl rfl rfl (Gk rfl (Gk rfl (Gf b 2 rfl rfl (Gl hbk4 rfl rfl rfl rfl rfl (Gn rfl rfl rfl rfl (Gb (.bool false) (by simp[go_sem,c1]) rfl rfl rfl rfl rfl (Gk rfl (Gk rfl (Gk rfl (Gf ba (oa+k*7+4) rfl rfl (Gc (.bool false) (fun W hb=>by simp[hA4 _ hb,c2]) rfl rfl rfl rfl (Gk rfl (aB))))))))))))))) (fun _=>rfl) rfl ?_
    intro y W5 hbW5 _
    have hbr5:=ae hbr4 hbW5
    clear hbW5
    go_wp2
    go_ret
    rw[hq.out]
    exact⟨rfl,hbr5⟩
 rw[if_neg hk2] at hE
 obtain⟨K,hK⟩:∃K:Nat,e.n=K:=⟨e.n.toNat,by omega⟩
 rw[hK] at hE
 go_upto_region 9 with (fail)
 clear hce
 by_cases c3:(H.m.fs.length:Int)≤(K:Int)
 ·have hq:Hid (bu H.ma P.sp n=3):=Lib.hid (by rw[hE.out,if_pos c3])
  have c3e:(H.m.fs.length:Int)≤e.n:=by omega
  refine aG 9 [_,_,_,_,_,_,_,_,_] (Gf ge 1 rfl rfl (Gl ex rfl rfl rfl rfl rfl (Gk rfl (Gk rfl (Gf b 0 rfl rfl (Gf b 0 rfl rfl (Gl hbk4 rfl rfl rfl rfl rfl (Gn rfl rfl rfl rfl (Gb (.bool true) (by simp[go_sem,c3e]) rfl rfl rfl rfl rfl (aB)))))))))) (fun _=>rfl) rfl ?_
  intro y W5 hbW5 _
  have hbr5:=ae hbr4 hbW5
  clear hbW5 hA0 hA3 hA4 hA5 hA6 c3 c3e
  go_wp2
  go_ret
  rw[hq.out]
  exact⟨rfl,hbr5⟩
 rw[if_neg c3] at hE
 have c3e:¬(H.m.fs.length:Int)≤e.n:=by omega
 refine aG 9 [_,_,_,_,_,_,_,_,_] (Gf ge 1 rfl rfl (Gl ex rfl rfl rfl rfl rfl (Gk rfl (Gk rfl (Gf b 0 rfl rfl (Gf b 0 rfl rfl (Gl hbk4 rfl rfl rfl rfl rfl (Gn rfl rfl rfl rfl (Gb (.bool false) (by simp[go_sem,c3e]) rfl rfl rfl rfl rfl (aB)))))))))) (fun _=>rfl) rfl ?_
 intro y W5 hbW5 _
 have hbr5:=ae hbr4 hbW5
 have hKl:K<H.m.fs.length:=by omega
 replace ex:=ex.ext hbW5
 have hbk5:=hbk.ext hbr5
 have h5:=h.below hbr5
 have sh:∀ {u:Value} {z:Addr},(∀W,Below w4.heap.size w4 W→W.cell? z=some u)→∀W,Below W5.heap.size W5 W→W.cell? z=some u:=fun hh W hb=>hh W (ae hbW5 hb)
 replace hA0:=sh hA0
 replace hA3:=sh hA3
 replace hA4:=sh hA4
 replace hA5:=sh hA5
 replace hA6:=sh hA6
 obtain⟨bg,og,haf,hfrd⟩:=gB eT (by decide) h5.fr.rd K hKl
 have hxf:H.m.fs[K]=bB H.ma K:=by
  have:=zt (m:=H.ma) (f:=K) hKl
  have h2:H.m.fs[K]?=some (bB H.ma K):=this
  rw[List.getElem?_eq_getElem hKl] at h2
  exact Option.some.inj h2
 rw[hxf] at hfrd
 have hE2:Hid (bu H.ma P.sp n=(let of:=decide (0≤a.fi)&&decide ((bB H.ma K).f=a.fi)&&decide ((bB H.ma K).i=a.ba+n-a.fr)
  if 0≤(bB H.ma K).f∧of=false∨a.sh=true∧of=false∨a.sh=false∧of=true∧e.w=true∨e.w=true∧a.wr=false then 7
  else if (bB H.ma K).f<0∧e.w=true∧1<(bB H.ma K).r then 7 else 0)):=Lib.hid (by rw[hE.out];rfl)
 generalize bB H.ma K=x at *
 clear hE hxf hbW5 hbk4 h4 hbr4 c3 sh
 go_upto_region 11 with (fail)
 refine aG 9 [_,_,_,_,_,_,_,_,.v (.pointer (some ⟨bg,og+K*13,none⟩))] (Gk rfl (Gk rfl (Gf b 0 rfl rfl (Gf b 0 rfl rfl (Gl hbk5 (V:=.slice (some ⟨bg,og,none⟩) H.m.fs.length H.cf) (by simp[bR,haf]) rfl rfl rfl rfl (Gf ge 1 rfl rfl (Gl ex (V:=.int .i64 (K:Int)) (by simp[fI,hK]) rfl rfl rfl rfl (Gr (.pointer (some ⟨bg,og+K*13,none⟩)) (fun ρ y W hb hKn=>(aU rfl (aA rfl hKn) (aA rfl hKn) hKl Tryz.underlying26 frame_size)) rfl rfl (Gk rfl (aB)))))))))) (fun _=>rfl) rfl ?_
 intro y W7 hbW7 _
 have hbr7:=ae hbr5 hbW7
 have ex7:=ex.ext hbW7
 have hbk7:=hbk.ext hbr7
 have sh:∀ {u:Value} {z:Addr},(∀W,Below W5.heap.size W5 W→W.cell? z=some u)→∀W,Below W7.heap.size W7 W→W.cell? z=some u:=fun hh W hb=>hh W (ae hbW7 hb)
 replace hA0:=sh hA0
 replace hA3:=sh hA3
 replace hA4:=sh hA4
 replace hA5:=sh hA5
 replace hA6:=sh hA6
 have hfrd7:=hfrd.below hbW7
 clear ex hbk5 hbW7 sh hfrd hbr5 h5
 have hw1:IntKind.i64.wrap (a.ba+n)=a.ba+n:=IntWalk.i64_in _ (by obtain⟨⟨z1,z2⟩,⟨z3,z4⟩,z5,z6⟩:=hafew;omega)
 have hw2:IntKind.i64.wrap (a.ba+n-a.fr)=a.ba+n-a.fr:=IntWalk.i64_in _ (by obtain⟨⟨z1,z2⟩,⟨z3,z4⟩,z5,z6⟩:=hafew;omega)
 go_upto_region 12 with (fail)
 refine aG 12 [_,_,_,_,_,_,_,_,_,_,_,.v (.int .i64 (a.ba+n-a.fr))] (Gk rfl (Gk rfl (Gf ba (oa+k*7+6) rfl rfl (Gc (.int .i64 a.ba) (fun W hb=>by simp[hA6 _ hb]) rfl rfl rfl rfl (Gk rfl (Gb (.int .i64 (a.ba+n)) (by simp[go_sem,hw1]) rfl rfl rfl rfl rfl (Gk rfl (Gk rfl (Gf ba (oa+k*7) rfl rfl (Gc (.int .i64 a.fr) (fun W hb=>by simp[hA0 _ hb]) rfl rfl rfl rfl (Gb (.int .i64 (a.ba+n-a.fr)) (by simp[go_sem,hw2]) rfl rfl rfl rfl rfl (Gk rfl (aB))))))))))))) (fun _=>rfl) rfl ?_
 intro y W5 hbW5 _
 have hbr5:=ae hbr7 hbW5
 have ex:=ex7.ext hbW5
 have hbk5:=hbk.ext hbr5
 have sh:∀ {u:Value} {z:Addr},(∀W,Below W7.heap.size W7 W→W.cell? z=some u)→∀W,Below W5.heap.size W5 W→W.cell? z=some u:=fun hh W hb=>hh W (ae hbW5 hb)
 replace hA3:=sh hA3
 replace hA4:=sh hA4
 replace hA5:=sh hA5
 have hfrd:=hfrd7.below hbW5
 clear ex7 hbk7 hbW5 sh hfrd7 hbr7 hw1 hw2 hA0 hA6
 have hXc:∀j u,(nE x)[j]?=some u→∀W,Below W5.heap.size W5 W→W.cell? ⟨bg,og+K*13+j,none⟩=some u:=fun j u hj W hb=>by
  obtain⟨b',o',e',hc⟩:=(hfrd.below hb) j u hj
  cases e'
  exact hc
 have hX8:=hXc 8 _ rfl
 have hX11:=hXc 11 _ rfl
 have hX12:=hXc 12 _ rfl
 clear hXc hfrd
 go_upto_region 13 with (fail)
 by_cases g1:0≤a.fi
 ·by_cases g2:x.f=a.fi
  ·by_cases g3:x.i=a.ba+n-a.fr
   ·skip
    refine aG 25 [_,_,_,_,_,_,_,_,_,_,_,_,_,_,_,_,_,_,_,_,_,_,_,_,.v (.bool true)] (Gk rfl (Gk rfl (Gf ba (oa+k*7+5) rfl rfl (Gc (.int .i64 a.fi) (fun W hb=>by simp[hA5 _ hb]) rfl rfl rfl rfl (Gb (.bool true) (by simp[go_sem,g1]) rfl rfl rfl rfl rfl (Gk rfl (Gk rfl (Gk rfl (Gf bg (og+K*13+11) rfl rfl (Gc (.int .i64 x.f) (fun W hb=>by simp[hX11 _ hb]) rfl rfl rfl rfl (Gk rfl (Gk rfl (Gf ba (oa+k*7+5) rfl rfl (Gc (.int .i64 a.fi) (fun W hb=>by simp[hA5 _ hb]) rfl rfl rfl rfl (Gb (.bool true) (by simp[go_sem,g2]) rfl rfl rfl rfl rfl (Gk rfl (Gk rfl (Gk rfl (Gk rfl (Gf bg (og+K*13+12) rfl rfl (Gc (.int .i64 x.i) (fun W hb=>by simp[hX12 _ hb]) rfl rfl rfl rfl (Gk rfl (Gb (.bool true) (by simp[go_sem,g3]) rfl rfl rfl rfl rfl (Gk rfl (Gk rfl (aB)))))))))))))))))))))))))) (fun _=>rfl) rfl ?_
    intro y W6 hbW6 _
    have hbr6:=ae hbr5 hbW6
    have x8:=hX8 _ hbW6
    have x11:=hX11 _ hbW6
    have a3:=hA3 _ hbW6
    have a4:=hA4 _ hbW6
    have hce:=(ex.ext hbW6).cell
    unfold fI at hce
    clear hbW6 hA3 hA4 hA5 hX8 hX11 hX12 ex hbk5
    have f1:0≤x.f:=by omega
    have f1n:¬x.f<0:=by omega
    replace hE2:Hid (bu H.ma P.sp n=if a.sh=false∧e.w=true∨e.w=true∧a.wr=false then 7 else 0):=Lib.hid (by
     rw[hE2.out,decide_eq_true g1,decide_eq_true g2,decide_eq_true g3]
     simp[f1n])
    clear g2 g3
    cases f2:a.sh with
    | true=>
     rw[f2] at a4
     cases f3:e.w with
     | false=>
      rw[f3] at hce
      have hq:Hid (bu H.ma P.sp n=0):=Lib.hid (by rw[hE2.out];simp[*];try omega)
      clear hE2
      go_wp2
      go_ret
      rw[hq.out]
      exact⟨rfl,hbr6⟩
     | true=>
      rw[f3] at hce
      cases f4:a.wr with
      | false=>
       rw[f4] at a3
       have hq:Hid (bu H.ma P.sp n=7):=Lib.hid (by rw[hE2.out];simp[*];try omega)
       clear hE2
       go_wp2
       go_ret
       rw[hq.out]
       exact⟨rfl,hbr6⟩
      | true=>
       rw[f4] at a3
       have hq:Hid (bu H.ma P.sp n=0):=Lib.hid (by rw[hE2.out];simp[*];try omega)
       clear hE2
       go_wp2
       go_ret
       rw[hq.out]
       exact⟨rfl,hbr6⟩
    | false=>
     rw[f2] at a4
     cases f3:e.w with
     | true=>
      rw[f3] at hce
      have hq:Hid (bu H.ma P.sp n=7):=Lib.hid (by rw[hE2.out];simp[*];try omega)
      clear hE2
      go_wp2
      go_ret
      rw[hq.out]
      exact⟨rfl,hbr6⟩
     | false=>
      rw[f3] at hce
      have hq:Hid (bu H.ma P.sp n=0):=Lib.hid (by rw[hE2.out];simp[*];try omega)
      clear hE2
      go_wp2
      go_ret
      rw[hq.out]
      exact⟨rfl,hbr6⟩
   ·skip
    refine aG 25 [_,_,_,_,_,_,_,_,_,_,_,_,_,_,_,_,_,_,_,_,_,_,_,_,.v (.bool false)] (Gk rfl (Gk rfl (Gf ba (oa+k*7+5) rfl rfl (Gc (.int .i64 a.fi) (fun W hb=>by simp[hA5 _ hb]) rfl rfl rfl rfl (Gb (.bool true) (by simp[go_sem,g1]) rfl rfl rfl rfl rfl (Gk rfl (Gk rfl (Gk rfl (Gf bg (og+K*13+11) rfl rfl (Gc (.int .i64 x.f) (fun W hb=>by simp[hX11 _ hb]) rfl rfl rfl rfl (Gk rfl (Gk rfl (Gf ba (oa+k*7+5) rfl rfl (Gc (.int .i64 a.fi) (fun W hb=>by simp[hA5 _ hb]) rfl rfl rfl rfl (Gb (.bool true) (by simp[go_sem,g2]) rfl rfl rfl rfl rfl (Gk rfl (Gk rfl (Gk rfl (Gk rfl (Gf bg (og+K*13+12) rfl rfl (Gc (.int .i64 x.i) (fun W hb=>by simp[hX12 _ hb]) rfl rfl rfl rfl (Gk rfl (Gb (.bool false) (by simp[go_sem,g3]) rfl rfl rfl rfl rfl (Gk rfl (Gk rfl (aB)))))))))))))))))))))))))) (fun _=>rfl) rfl ?_
    intro y W6 hbW6 _
    have hbr6:=ae hbr5 hbW6
    have x8:=hX8 _ hbW6
    have x11:=hX11 _ hbW6
    have a3:=hA3 _ hbW6
    have a4:=hA4 _ hbW6
    have hce:=(ex.ext hbW6).cell
    unfold fI at hce
    clear hbW6 hA3 hA4 hA5 hX8 hX11 hX12 ex hbk5
    have hof:(decide (0≤a.fi)&&decide (x.f=a.fi)&&decide (x.i=a.ba+n-a.fr))=false:=by simp[*]
    replace hE2:Hid (bu H.ma P.sp n=if 0≤x.f∨a.sh=true∨e.w=true∧a.wr=false then 7 else if x.f<0∧e.w=true∧1<x.r then 7 else 0):=Lib.hid (by
     rw[hE2.out,hof]
     simp)
    clear hof g2 g3
    by_cases f1:0≤x.f
    ·skip
     have hq:Hid (bu H.ma P.sp n=7):=Lib.hid (by rw[hE2.out];simp[*];try omega)
     clear hE2
     go_wp2
     go_ret
     rw[hq.out]
     exact⟨rfl,hbr6⟩
    have f1n:x.f<0:=by omega
    cases f2:a.sh with
    | true=>
     rw[f2] at a4
     have hq:Hid (bu H.ma P.sp n=7):=Lib.hid (by rw[hE2.out];simp[*];try omega)
     clear hE2
     go_wp2
     go_ret
     rw[hq.out]
     exact⟨rfl,hbr6⟩
    | false=>
     rw[f2] at a4
     cases f3:e.w with
     | false=>
      rw[f3] at hce
      have hq:Hid (bu H.ma P.sp n=0):=Lib.hid (by rw[hE2.out];simp[*];try omega)
      clear hE2
      go_wp2
      go_ret
      rw[hq.out]
      exact⟨rfl,hbr6⟩
     | true=>
      rw[f3] at hce
      cases f4:a.wr with
      | false=>
       rw[f4] at a3
       have hq:Hid (bu H.ma P.sp n=7):=Lib.hid (by rw[hE2.out];simp[*];try omega)
       clear hE2
       go_wp2
       go_ret
       rw[hq.out]
       exact⟨rfl,hbr6⟩
      | true=>
       rw[f4] at a3
       by_cases f5:1<x.r
       ·skip
        have hq:Hid (bu H.ma P.sp n=7):=Lib.hid (by rw[hE2.out];simp[*];try omega)
        clear hE2
        go_wp2
        go_ret
        rw[hq.out]
        exact⟨rfl,hbr6⟩
       ·skip
        have hq:Hid (bu H.ma P.sp n=0):=Lib.hid (by rw[hE2.out];simp[*];try omega)
        clear hE2
        go_wp2
        go_ret
        rw[hq.out]
        exact⟨rfl,hbr6⟩
  ·skip
   refine aG 25 [_,_,_,_,_,_,_,_,_,_,_,_,_,_,_,_,_,_,_,_,_,_,_,_,.v (.bool false)] (Gk rfl (Gk rfl (Gf ba (oa+k*7+5) rfl rfl (Gc (.int .i64 a.fi) (fun W hb=>by simp[hA5 _ hb]) rfl rfl rfl rfl (Gb (.bool true) (by simp[go_sem,g1]) rfl rfl rfl rfl rfl (Gk rfl (Gk rfl (Gk rfl (Gf bg (og+K*13+11) rfl rfl (Gc (.int .i64 x.f) (fun W hb=>by simp[hX11 _ hb]) rfl rfl rfl rfl (Gk rfl (Gk rfl (Gf ba (oa+k*7+5) rfl rfl (Gc (.int .i64 a.fi) (fun W hb=>by simp[hA5 _ hb]) rfl rfl rfl rfl (Gb (.bool false) (by simp[go_sem,g2]) rfl rfl rfl rfl rfl (Gk rfl (Gk rfl (Gk rfl (Gk rfl (Gk rfl (Gk rfl (Gk rfl (Gk rfl (Gk rfl (Gk rfl (aB)))))))))))))))))))))))))) (fun _=>rfl) rfl ?_
   intro y W6 hbW6 _
   have hbr6:=ae hbr5 hbW6
   have x8:=hX8 _ hbW6
   have x11:=hX11 _ hbW6
   have a3:=hA3 _ hbW6
   have a4:=hA4 _ hbW6
   have hce:=(ex.ext hbW6).cell
   unfold fI at hce
   clear hbW6 hA3 hA4 hA5 hX8 hX11 hX12 ex hbk5
   have hof:(decide (0≤a.fi)&&decide (x.f=a.fi)&&decide (x.i=a.ba+n-a.fr))=false:=by simp[*]
   replace hE2:Hid (bu H.ma P.sp n=if 0≤x.f∨a.sh=true∨e.w=true∧a.wr=false then 7 else if x.f<0∧e.w=true∧1<x.r then 7 else 0):=Lib.hid (by
    rw[hE2.out,hof]
    simp)
   clear hof g2
   by_cases f1:0≤x.f
   ·skip
    have hq:Hid (bu H.ma P.sp n=7):=Lib.hid (by rw[hE2.out];simp[*];try omega)
    clear hE2
    go_wp2
    go_ret
    rw[hq.out]
    exact⟨rfl,hbr6⟩
   have f1n:x.f<0:=by omega
   cases f2:a.sh with
   | true=>
    rw[f2] at a4
    have hq:Hid (bu H.ma P.sp n=7):=Lib.hid (by rw[hE2.out];simp[*];try omega)
    clear hE2
    go_wp2
    go_ret
    rw[hq.out]
    exact⟨rfl,hbr6⟩
   | false=>
    rw[f2] at a4
    cases f3:e.w with
    | false=>
     rw[f3] at hce
     have hq:Hid (bu H.ma P.sp n=0):=Lib.hid (by rw[hE2.out];simp[*];try omega)
     clear hE2
     go_wp2
     go_ret
     rw[hq.out]
     exact⟨rfl,hbr6⟩
    | true=>
     rw[f3] at hce
     cases f4:a.wr with
     | false=>
      rw[f4] at a3
      have hq:Hid (bu H.ma P.sp n=7):=Lib.hid (by rw[hE2.out];simp[*];try omega)
      clear hE2
      go_wp2
      go_ret
      rw[hq.out]
      exact⟨rfl,hbr6⟩
     | true=>
      rw[f4] at a3
      by_cases f5:1<x.r
      ·skip
       have hq:Hid (bu H.ma P.sp n=7):=Lib.hid (by rw[hE2.out];simp[*];try omega)
       clear hE2
       go_wp2
       go_ret
       rw[hq.out]
       exact⟨rfl,hbr6⟩
      ·skip
       have hq:Hid (bu H.ma P.sp n=0):=Lib.hid (by rw[hE2.out];simp[*];try omega)
       clear hE2
       go_wp2
       go_ret
       rw[hq.out]
       exact⟨rfl,hbr6⟩
 ·skip
  refine aG 25 [_,_,_,_,_,_,_,_,_,_,_,_,_,_,_,_,_,_,_,_,_,_,_,_,.v (.bool false)] (Gk rfl (Gk rfl (Gf ba (oa+k*7+5) rfl rfl (Gc (.int .i64 a.fi) (fun W hb=>by simp[hA5 _ hb]) rfl rfl rfl rfl (Gb (.bool false) (by simp[go_sem,g1]) rfl rfl rfl rfl rfl (Gk rfl (Gk rfl (Gk rfl (Gk rfl (Gk rfl (Gk rfl (Gk rfl (Gk rfl (Gk rfl (Gk rfl (Gk rfl (Gk rfl (Gk rfl (Gk rfl (Gk rfl (Gk rfl (Gk rfl (Gk rfl (Gk rfl (Gk rfl (aB)))))))))))))))))))))))))) (fun _=>rfl) rfl ?_
  intro y W6 hbW6 _
  have hbr6:=ae hbr5 hbW6
  have x8:=hX8 _ hbW6
  have x11:=hX11 _ hbW6
  have a3:=hA3 _ hbW6
  have a4:=hA4 _ hbW6
  have hce:=(ex.ext hbW6).cell
  unfold fI at hce
  clear hbW6 hA3 hA4 hA5 hX8 hX11 hX12 ex hbk5
  have hof:(decide (0≤a.fi)&&decide (x.f=a.fi)&&decide (x.i=a.ba+n-a.fr))=false:=by simp[*]
  replace hE2:Hid (bu H.ma P.sp n=if 0≤x.f∨a.sh=true∨e.w=true∧a.wr=false then 7 else if x.f<0∧e.w=true∧1<x.r then 7 else 0):=Lib.hid (by
   rw[hE2.out,hof]
   simp)
  clear hof g1
  by_cases f1:0≤x.f
  ·skip
   have hq:Hid (bu H.ma P.sp n=7):=Lib.hid (by rw[hE2.out];simp[*];try omega)
   clear hE2
   go_wp2
   go_ret
   rw[hq.out]
   exact⟨rfl,hbr6⟩
  have f1n:x.f<0:=by omega
  cases f2:a.sh with
  | true=>
   rw[f2] at a4
   have hq:Hid (bu H.ma P.sp n=7):=Lib.hid (by rw[hE2.out];simp[*];try omega)
   clear hE2
   go_wp2
   go_ret
   rw[hq.out]
   exact⟨rfl,hbr6⟩
  | false=>
   rw[f2] at a4
   cases f3:e.w with
   | false=>
    rw[f3] at hce
    have hq:Hid (bu H.ma P.sp n=0):=Lib.hid (by rw[hE2.out];simp[*];try omega)
    clear hE2
    go_wp2
    go_ret
    rw[hq.out]
    exact⟨rfl,hbr6⟩
   | true=>
    rw[f3] at hce
    cases f4:a.wr with
    | false=>
     rw[f4] at a3
     have hq:Hid (bu H.ma P.sp n=7):=Lib.hid (by rw[hE2.out];simp[*];try omega)
     clear hE2
     go_wp2
     go_ret
     rw[hq.out]
     exact⟨rfl,hbr6⟩
    | true=>
     rw[f4] at a3
     by_cases f5:1<x.r
     ·skip
      have hq:Hid (bu H.ma P.sp n=7):=Lib.hid (by rw[hE2.out];simp[*];try omega)
      clear hE2
      go_wp2
      go_ret
      rw[hq.out]
      exact⟨rfl,hbr6⟩
     ·skip
      have hq:Hid (bu H.ma P.sp n=0):=Lib.hid (by rw[hE2.out];simp[*];try omega)
      clear hE2
      go_wp2
      go_ret
      rw[hq.out]
      exact⟨rfl,hbr6⟩
def isK (i:Int) (c:Cc):Bool:=decide (c.k=i)
theorem Dy (c:Cc) (i:Int) (g:Nat) (w:World) (hg:aF w g #[.int .i64 i] 3) :
  Calls Tryz.prog 71 #[.agg (sZ c),.pointer (some ⟨g,0,none⟩)] w fun r w'=>r = .returned (.bool (isK i c))∧Below w.heap.size w w':=by
 go_enter Tryz.func71,Tryz.ntmps71
 go_upto_region 1 with (fail)
 refine fo (fun W=>Code.wp _ _ _ _ W) fun W0 hb0 hx0 hs0 => ?_
 clear hs0
 have hgx:=(hg.ext hb0).cell 0
 have hcx:=hx0.cell
 have q2:(sZ c)[2]?=some (.int .i64 c.k):=rfl
 go_wp2
 go_ret
 exact⟨aT (by unfold isK;rfl),hb0⟩
theorem vk {w:World} {a:Option Addr} {l:List Cc} (h:cZ w a (l.flatMap kS)) (k:Nat) (hk:k<l.length):∃b off,a=some ⟨b,off,none⟩∧cZ w (some ⟨b,off+k*3,none⟩) (kS l[k]):=gB kr (by decide) h k hk
theorem IY (l:List Cc) (a:Option Addr) (c:Nat) (w:World) (hrd:cZ w a (l.flatMap kS)) (hl:l.length≤9223372036854775807) (g:Nat) (kk:Int) (hg:aF w g #[.int .i64 kk] 3) :
  Calls Tryz.prog 113 #[.slice a l.length c,.func (.func 71) #[] #[.pointer (some ⟨g,0,none⟩)]] w fun e w'=>e = .returned (.int .i64 (idx (isK kk) l))∧Below w.heap.size w w':=by
 go_enter Tryz.func113,Tryz.ntmps113
 go_wp2
 go_loopw [8] (fun i wr => ∃k:Nat,k≤l.length∧i = .int .i64 k∧Below w.heap.size w wr∧∀i (h:i<l.length),i<k→(isK kk) l[i]=false) (fun i _=>l.length-(intOf i).toNat)
 case atStart=>exact⟨0,Nat.zero_le _,rfl,Below.refl _ _,fun i _ h=>absurd h (Nat.not_lt_zero _)⟩
 case round=>
  obtain⟨k,hk,rfl,hbr,hp0⟩:=hrel
  have hp:=Lib.hid hp0
  clear hp0
  by_cases hlt:k<l.length
  ·obtain⟨b,off,rfl,hel⟩:=vk (hrd.below hbr) k hlt
   go_wp2_with (refine ay _ _ rfl b (off+k*3) rfl rfl _ hel _ Tryz.underlying106 rfl cached_size ?_)
   refine (Dy l[k] kk g _ (hg.ext hbr)).mono ?_
   rintro e w2 ⟨rfl,hb2⟩
   have hbel2:=ae hbr hb2
   clear hb2
   cases hpk:(isK kk) l[k]
   ·have hpk':=Lib.hid hpk
    clear hpk
    go_wp2
    go_roundw
    case rel=>exact⟨k+1,by omega,by go_num,hbel2,jJ hp.out hlt hpk'.out⟩
    case measure=>simp[intOf];omega
   ·have hfin:=Lib.hid (uh (isK kk) l k hlt hp.out hpk)
    clear hpk
    go_wp2
    go_ret
    exact⟨aS hfin.out.symm,hbel2⟩
  ·have hfin:=Lib.hid (lM (isK kk) l fun i h=>hp.out i h (by omega))
   go_wp2
   go_ret
   exact⟨aS hfin.out.symm,hbr⟩
theorem Hr (l:List Cc) (a:Option Addr) (c:Nat) (w:World) (hrd:cZ w a (l.flatMap kS)) (hl:l.length≤9223372036854775807) (g:Nat) (kk:Int) (hg:aF w g #[.int .i64 kk] 3) :
  Calls Tryz.prog 70 #[.slice a l.length c,.func (.func 71) #[] #[.pointer (some ⟨g,0,none⟩)]] w fun e w'=>e = .returned (.bool (l.any (isK kk)))∧Below w.heap.size w w':=by
 go_enter Tryz.func70,Tryz.ntmps70
 go_wp2_with fail
 refine (IY l a c _ hrd hl g kk hg).mono ?_
 rintro e w2 ⟨rfl,hb2⟩
 go_wp2
 go_ret
 exact⟨aT (lC _ _),hb2⟩
theorem Av (l m:List Int) (a a' : Option Addr) (c c' : Nat) (w:World) (hrd:cZ w a (l.map dL)) (hrd' : cZ w a' (m.map dL)) (hl:l.length≤9223372036854775807) (hl' : m.length≤9223372036854775807) :
  Calls Tryz.prog 72 #[.slice a l.length c,.slice a' m.length c'] w fun e w'=>e = .returned (.bool (l==m))∧Below w.heap.size w w':=by
 go_enter Tryz.func72,Tryz.ntmps72
 by_cases hlm:l.length=m.length
 ·have hne:((l.length:Int) != (m.length:Int))=false:=by simp[hlm]
  go_wp2
  go_loopw [13] (fun i wr => ∃k:Nat,k≤l.length∧i = .int .i64 k∧Below w.heap.size w wr∧∀i (h:i<l.length),i<k→l[i]=m[i]'(by omega)) (fun i _=>l.length-(intOf i).toNat)
  case atStart=>exact⟨0,Nat.zero_le _,rfl,Below.refl _ _,fun i _ h=>absurd h (Nat.not_lt_zero _)⟩
  case round=>
   obtain⟨k,hk,rfl,hbel,hp⟩:=hrel
   by_cases hlt:k<l.length
   ·obtain⟨b,off,rfl,hc⟩:=fZ (hrd.below hbel) k hlt
    obtain⟨b',off',rfl,hc'⟩:=fZ (hrd'.below hbel) k (by omega)
    have k1:(k:Int)<(m.length:Int):=by omega
    go_wp2_with fail
    go_quiet (fail)
    by_cases he:l[k]=m[k]'(by omega)
    ·have hz:(l[k] != m[k]'(by omega))=false:=by simp[he]
     go_wp2
     go_roundw
     case rel=>exact⟨k+1,by omega,by go_num,below_drewN hbel _,upto hp hlt he⟩
     case measure=>simp[intOf];omega
    ·have hz:(l[k] != m[k]'(by omega))=true:=by simp[he]
     go_wp2
     go_ret
     exact⟨aT (Fq k hlt (by omega) he).symm,below_drewN hbel _⟩
   ·go_wp2
    all_goals
     go_ret
     exact⟨aT (Gz hlm fun i h=>hp i h (by omega)).symm,hbel⟩
 ·have hne:((l.length:Int) != (m.length:Int))=true:=by simp;omega
  go_wp2
  go_ret
  refine⟨aT ?_,Below.refl _ _⟩
  symm
  rw[beq_eq_false_iff_ne]
  rintro rfl
  exact hlm rfl
theorem iQ (n:Nat) (l:List Int):(gN n l).length=n:=by simp[gN]
theorem jK (n:Nat) (l:List Int) (i:Nat) (hi:i<n):(gN n l)[i]?=some (cnt l i:Int):=by simp[gN,hi]
theorem BI (l:List Int) (k i:Int):cnt (l++[k]) i=cnt l i+(if k=i then 1 else 0):=by
 rw[sI]
 congr 1
 unfold cnt
 rw[List.countP_cons,List.countP_nil]
 by_cases h:k=i
 ·simp[h]
 ·simp[h]
theorem xE (n:Nat) (l:List Int) (k:Nat) (hk:k<n):(gN n l).set k ((cnt l k:Int)+1)=gN n (l++[(k:Int)]):=by
 apply List.ext_getElem?
 intro i
 rw[List.getElem?_set,iQ]
 by_cases e:k=i
 ·subst e
  rw[if_pos rfl,if_pos hk,jK _ _ _ hk,BI,if_pos rfl]
  simp
 ·rw[if_neg e]
  by_cases hi:i<n
  ·rw[jK _ _ _ hi,jK _ _ _ hi,BI,if_neg (by omega)];rfl
  ·rw[List.getElem?_eq_none (by rw[iQ];omega),List.getElem?_eq_none (by rw[iQ];omega)]
theorem Aj (n:Nat):gN n []=List.replicate n 0:=by
 unfold gN cnt
 apply List.ext_getElem?
 intro i
 rw[List.getElem?_map,List.getElem?_replicate]
 by_cases hi:i<n
 ·rw[List.getElem?_range hi,if_pos hi];rfl
 ·rw[if_neg hi,List.getElem?_eq_none (by simp;omega)];rfl
theorem zG (l:List Int) (i:Int):cnt l i≤l.length:=List.countP_le_length
def IB (w:World) (g:Nat) (l:List Int):Prop:=aF w g (l.map dL).toArray 3
theorem za (n:Nat):madeCells #[.int .i64 0] n=((List.replicate n (0:Int)).map dL).toArray:=by
 apply Array.ext
 ·simp[size_madeCells]
 ·intro i h1 h2
  simp[madeCells,dL,Nat.mod_one]
theorem IB.cell {w:World} {g:Nat} {l:List Int} (h:IB w g l) {k:Nat} {v:Int} (hv:l[k]?=some v):w.cell? ⟨g,k,none⟩=some (.int .i64 v):=by
 have:=aF.cell h k
 rw[this]
 simp[hv,dL]
theorem IB.set {l:List Int} {k:Nat} {v:Int} (hk:k<l.length):bC (l.map dL).toArray k [.int .i64 v]=((l.set k v).map dL).toArray:=by
 show ((l.map dL).toArray).setIfInBounds k (.int .i64 v)=_
 rw[List.map_set]
 simp[dL]
def aW (m:Ma) (p:Nat) (n:Int) (x:En):Ma:=setTb m p (setT (bP m p).tb n x)
theorem nY {kd i:Int} {e:En} (h:e.k=0) (hk:kd≠0):qY (kF kd i e)=0:=by
 unfold qY kF
 rw[if_neg]
 simp only[Bool.and_eq_true,decide_eq_true_eq]
 intro h'; omega
theorem lK {kd i:Int} {e:En}:qY (kF kd i e)=if e.k=kd∧e.n=i then 1 else 0:=by
 unfold qY kF
 by_cases h:e.k=kd∧e.n=i
 ·rw[if_pos h,if_pos (by simp[h.1,h.2])]
 ·rw[if_neg h,if_neg]
  simp only[Bool.and_eq_true,decide_eq_true_eq]
  exact h
theorem vF {m:Ma} (h:Rt m) {q:Nat} {j:Int} {f:Nat} (hk:(ent m q j).k=1) (he:(ent m q j).n.toNat=f):0<bX m 1 f∧f<m.m.fs.length:=by
 have h3:=kW (m:=m) (p:=q) (n:=j) (by rw[hk];decide)
 have h5:=(bH _).1 (kY h.pt q j)
 have h4:=(kQ (m:=m) (kd:=1) (i:=f) (by decide)).2 ⟨q,j,h3.1,h3.2,hk,by omega⟩
 obtain⟨g,_,hg⟩:=h.en q j (by rw[hk];decide)
 have:=hg.lt hk
 exact⟨h4,by omega⟩
theorem qR {m:Ma} (h:Rt m) (hc:Co m) {p:Nat} {n:Int} {f:Nat} {X:Fr} {x:En} {g:Pg} (hp:p<m.sp.length) (hn:0≤n∧n<64) (h0:(ent m p n).k=0) (hf:f<m.m.fs.length)
  (hxk:x.k=1) (hxn:x.n=f) (hX:dD X=0) (hr:X.r=(bB m f).r+1)
  (hold:(bB m f).r≠0→X.f=(bB m f).f∧X.i=(bB m f).i∧X.p=(bB m f).p∧X.d=(bB m f).d)
  (hnew:(bB m f).r=0→X.f<0∧X.d=false)
  (hw:X.f<0→∀q j,(ent m q j).k=1→(ent m q j).n.toNat=f→(ent m q j).w=false)
  (hg:iV m p n=some g) (hfit:KH X g x.w):Rt (aW (setFr m f X) p n x)∧Co (aW (setFr m f X) p n x):=by
 have hpt1:Pt (setFr m f X):=h.pt.setFr hX
 have hxE:dC x=0:=(bH x).2 (.inr (.inl ⟨hxk,by have:=((eB _).1 h.pt.fr).1;omega⟩))
 obtain⟨hs0,_,hpt⟩:=gH (k:=⟨setFr m f X,0⟩) (p:=p) (n:=n) (x:=x) hpt1 hn hxE
 have hp1:p<(setFr m f X).sp.length:=hp
 have hent:∀q j,ent (aW (setFr m f X) p n x) q j=if q=p∧j=n then x else ent m q j:=fun q j=>jH hp1 hs0 q j
 have hfr:∀y,bB (aW (setFr m f X) p n x) y=if y=f then X else bB m y:=fun y=>vC hf y
 have hlen:(aW (setFr m f X) p n x).m.fs.length=m.m.fs.length:=mZ
 have hcnt:∀kd i,kd≠0→bX (aW (setFr m f X) p n x) kd i=bX m kd i+qY (kF kd i x):=fun kd i hk=>by
  have h1:=mY hp1 hs0 kd i
  have h2:qY (kF kd i (ent (setFr m f X) p n))=0:=nY (e:=ent (setFr m f X) p n) h0 hk
  have h3:bX (setFr m f X) kd i=bX m kd i:=rfl
  unfold aW
  omega
 have hsk0:gI m (setFr m f X):=gI.of rfl
 have hsk:gI m (aW (setFr m f X) p n x):=hsk0.trans (gI.setTb (m:=setFr m f X) (p:=p) (t:=setT (bP (setFr m f X) p).tb n x))
 have hca:rT (aW (setFr m f X) p n x):=by
  refine⟨h.ca.file,fun c hcm => ?_,fun c hcm => ?_,h.ca.srt⟩
  ·rw[hlen];exact h.ca.lt c hcm
  ·have h1:=h.ca.fr c hcm
   rw[hfr]
   by_cases e:c.k.toNat=f
   ·rw[if_pos e]
    rw[e] at h1
    obtain⟨k1,k2,_⟩:=hold (by omega)
    exact⟨by omega,by omega,by omega⟩
   ·rw[if_neg e];exact h1
 refine⟨⟨hpt,h.trim,fun q hq => ?_,hca,fun q j hk => ?_,fun i hi => ?_,fun i hi hi0 => ?_,fun s hs => ?_⟩,⟨fun c hcm => ?_,fun c hcm hd => ?_,fun i hi hd => ?_⟩⟩
 ·rw[hsk.lv] at hq
  obtain⟨a1,a2⟩:=h.live q hq
  refine⟨by rw[hsk.ar];exact a1,fun j => ?_⟩
  rw[hent,if_neg]
  ·exact a2 j
  ·rintro⟨rfl,rfl⟩
   have:iV m q j=onA (bP m q).ar j:=rfl
   rw[this,a1] at hg
   cases hg
 ·have hpg:iV (aW (setFr m f X) p n x) q j=iV m q j:=by unfold iV;rw[hsk.ar]
  rw[hpg]
  rw[hent] at hk ⊢
  by_cases e:q=p∧j=n
  ·rw[if_pos e] at hk ⊢
   rw[e.1,e.2]
   refine⟨g,hg,fun hk2=>by omega,fun _=>by rw[hlen];omega,fun _ => ?_⟩
   rw[hfr,if_pos (by omega)]
   exact hfit
  ·rw[if_neg e] at hk ⊢
   obtain⟨y,hy,hyf⟩:=h.en q j hk
   refine⟨y,hy,hyf.sw,by rw[hlen];exact hyf.lt,fun hk1 => ?_⟩
   rw[hfr]
   by_cases e2:(ent m q j).n.toNat=f
   ·rw[if_pos e2]
    have h1:=hyf.fr hk1
    rw[e2] at h1
    have h2:=vF h hk1 e2
    have h3:=h.cf f hf
    obtain⟨k1,k2,_,_⟩:=hold (by omega)
    obtain⟨f1,f2,f3,f4,f5⟩:=h1
    refine⟨by rw[k1,k2];exact f1,by rw[k1];exact f2,f3,by rw[k1];exact f4,fun hw1 hx0 => ?_⟩
    rw[hw hx0 q j hk1 e2] at hw1;cases hw1
   ·rw[if_neg e2];exact hyf.fr hk1
 ·have a1:sW (aW (setFr m f X) p n x) i=sW m i:=rfl
  rw[hfr,a1,hcnt 1 i (by decide),lK]
  have h3:=h.cf i (by rw[←hlen];exact hi)
  by_cases e:i=f
  ·subst e
   rw[if_pos rfl,if_pos ⟨hxk,hxn⟩,hr];omega
  ·rw[if_neg e,if_neg (fun h'=>e (by omega))];omega
 ·rw[hfr] at hi0
  by_cases e:i=f
  ·subst e
   rw[if_pos rfl] at hi0
   by_cases hr0:(bB m i).r=0
   ·have:=(hnew hr0).1;omega
   ·obtain⟨k1,_⟩:=hold hr0
    exact h.fc i hf (by omega)
  ·rw[if_neg e] at hi0
   exact h.fc i (by rw[←hlen];exact hi) hi0
 ·rw[hcnt 2 s (by decide),lK,if_neg (fun h'=>by omega)]
  exact h.cs s hs
 ·have h1:=h.ca.fr c hcm
  rw[hfr]
  by_cases e:c.k.toNat=f
  ·rw[if_pos e]
   rw[e] at h1
   obtain⟨_,_,k3,_⟩:=hold (by omega)
   rw[k3,←e];exact hc.tail c hcm
  ·rw[if_neg e];exact hc.tail c hcm
 ·have h1:=h.ca.fr c hcm
  rw[hfr] at hd ⊢
  by_cases e:c.k.toNat=f
  ·rw[if_pos e] at hd ⊢
   rw[e] at h1
   obtain⟨_,_,k3,k4⟩:=hold (by omega)
   rw[k3,←e]
   exact hc.clean c hcm (by rw[e,←k4];exact hd)
  ·rw[if_neg e] at hd ⊢; exact hc.clean c hcm hd
 ·rw[hfr] at hd ⊢
  by_cases e:i=f
  ·subst e
   rw[if_pos rfl] at hd ⊢
   by_cases hr0:(bB m i).r=0
   ·rw[(hnew hr0).2] at hd;cases hd
   ·obtain⟨k1,_,_,k4⟩:=hold hr0
    rw[k1];exact hc.anon i hf (by rw[←k4];exact hd)
  ·rw[if_neg e] at hd ⊢; exact hc.anon i (by rw[←hlen];exact hi) hd
theorem yG {m:Ma} (h:Rt m) (hc:Co m) {p:Nat} {n:Int} {s:Nat} {d:pR} {x:En} {g:Pg} (hp:p<m.sp.length) (hn:0≤n∧n<64) (h0:(ent m p n).k=0) (hs:s<m.sl.length)
  (hxk:x.k=2) (hxn:x.n=s) (hxw:x.w=false) (h1k:fK m s+1≤1000) (hd:bK d=0) (hdl:d.blocks.length=m.sw.blocks.length) (hg:iV m p n=some g) (hsh:g.sh=false) :
  Rt (aW { setSl m s (fK m s+1) with sw:=d } p n x)∧Co (aW { setSl m s (fK m s+1) with sw:=d } p n x):=by
 have hb:=h.pt.slB s
 have hpt0:Pt (setSl m s (fK m s+1)):=h.pt.setSl (by omega) h1k
 have hpt1:Pt { setSl m s (fK m s+1) with sw:=d }:={ hpt0 with sw:=hd,swl:=by show d.blocks.length=_;rw[hdl];exact hpt0.swl }
 have hxE:dC x=0:=(bH x).2 (.inr (.inr ⟨hxk,by have:=iC h.pt.sl;omega,by have:=iC h.pt.sl;omega,hxw⟩))
 obtain⟨hs0,_,hpt⟩:=gH (k:=⟨{ setSl m s (fK m s+1) with sw:=d },0⟩) (p:=p) (n:=n) (x:=x) hpt1 hn hxE
 have hp1:p<({ setSl m s (fK m s+1) with sw:=d }:Ma).sp.length:=hp
 generalize hm1:({ setSl m s (fK m s+1) with sw:=d }:Ma)=m1 at *
 have hsp:m1.sp=m.sp:=by rw[←hm1];rfl
 have hm:m1.m=m.m:=by rw[←hm1];rfl
 have hcaE:m1.ca=m.ca:=by rw[←hm1];rfl
 have hstE:m1.st=m.st:=by rw[←hm1];rfl
 have hdkE:m1.dk=m.dk:=by rw[←hm1];rfl
 have hslE:m1.sl=m.sl.set s (fK m s+1):=by rw[←hm1];rfl
 have hent1:∀q j,ent m1 q j=ent m q j:=fun q j=>by unfold ent bP;rw[hsp]
 have hent:∀q j,ent (aW m1 p n x) q j=if q=p∧j=n then x else ent m q j:=fun q j=>by rw[←hent1];exact jH hp1 hs0 q j
 have hfr:∀y,bB (aW m1 p n x) y=bB m y:=fun y=>by unfold bB aW setTb;simp only;rw[hm]
 have hlen:(aW m1 p n x).m.fs.length=m.m.fs.length:=by unfold aW setTb;simp only;rw[hm]
 have hcnt:∀kd i,kd≠0→bX (aW m1 p n x) kd i=bX m kd i+qY (kF kd i x):=fun kd i hk=>by
  have h1:=mY hp1 hs0 kd i
  have h2:qY (kF kd i (ent m1 p n))=0:=nY (by rw[hent1];exact h0) hk
  have h3:bX m1 kd i=bX m kd i:=by unfold bX;rw[hsp]
  unfold aW
  omega
 have hsk:gI m (aW m1 p n x):=(gI.of hsp).trans gI.setTb
 have hcaS:(aW m1 p n x).ca=m.ca:=hcaE
 have hstS:(aW m1 p n x).st=m.st:=hstE
 have hdkS:(aW m1 p n x).dk=m.dk:=hdkE
 have hdisk:∀a b,jE (aW m1 p n x) a b=jE m a b:=fun a b=>by unfold jE;rw[hstS,hdkS]
 refine⟨⟨hpt,by rw[hdkS,hstS];exact h.trim,fun q hq => ?_,⟨by rw[hcaS,hstS];exact h.ca.file,by rw[hcaS,hlen];exact h.ca.lt,fun c hcm=>by rw[hfr];exact h.ca.fr c (by rw[←hcaS];exact hcm),by rw[hcaS];exact h.ca.srt⟩,fun q j hk => ?_,fun i hi => ?_,fun i hi hi0 => ?_,fun i hi => ?_⟩,⟨fun c hcm => ?_,fun c hcm hd => ?_,fun i hi hd => ?_⟩⟩
 ·rw[hsk.lv] at hq
  obtain⟨a1,a2⟩:=h.live q hq
  refine⟨by rw[hsk.ar];exact a1,fun j => ?_⟩
  rw[hent,if_neg]
  ·exact a2 j
  ·rintro⟨rfl,rfl⟩
   have:iV m q j=onA (bP m q).ar j:=rfl
   rw[this,a1] at hg
   cases hg
 ·have hpg:iV (aW m1 p n x) q j=iV m q j:=by unfold iV;rw[hsk.ar]
  have hsll:(aW m1 p n x).sl.length=m.sl.length:=by show m1.sl.length=_;rw[hslE,List.length_set]
  rw[hpg]
  rw[hent] at hk ⊢
  by_cases e:q=p∧j=n
  ·rw[if_pos e] at hk ⊢
   rw[e.1,e.2]
   exact⟨g,hg,fun _=>⟨by rw[hsll];omega,hsh⟩,fun hk1=>by omega,fun hk1=>by omega⟩
  ·rw[if_neg e] at hk ⊢
   obtain⟨y,hy,hyf⟩:=h.en q j hk
   exact⟨y,hy,by rw[hsll];exact hyf.sw,by rw[hlen];exact hyf.lt,fun hk1=>by rw[hfr];exact hyf.fr hk1⟩
 ·have a1:sW (aW m1 p n x) i=sW m i:=by unfold sW;rw[hcaS]
  rw[hfr,a1,hcnt 1 i (by decide),lK,if_neg (fun h'=>by omega)]
  exact h.cf i (by rw[←hlen];exact hi)
 ·rw[hcaS]
  rw[hfr] at hi0
  exact h.fc i (by rw[←hlen];exact hi) hi0
 ·have hi' : i<m.sl.length:=by
   have:(aW m1 p n x).sl=m1.sl:=rfl
   rw[this,hslE,List.length_set] at hi;exact hi
  have hsl:fK (aW m1 p n x) i=if i=s then fK m s+1 else fK m i:=by
   have h1:=zw (x:=fK m s+1) hs i
   have h2:fK (aW m1 p n x) i=fK (setSl m s (fK m s+1)) i:=by unfold fK;show m1.sl.getD i 0=_;rw[hslE];rfl
   rw[h2,h1]
  rw[hsl,hcnt 2 i (by decide),lK]
  have h3:=h.cs i hi'
  by_cases e:i=s
  ·subst e
   rw[if_pos rfl,if_pos ⟨hxk,hxn⟩];omega
  ·rw[if_neg e,if_neg (fun h'=>e (by omega))];omega
 ·rw[hfr,hstS];rw[hcaS] at hcm;exact hc.tail c hcm
 ·rw[hcaS] at hcm;rw[hfr] at hd ⊢; rw[hdisk];exact hc.clean c hcm hd
 ·rw[hfr] at hd ⊢; exact hc.anon i (by rw[←hlen];exact hi) hd
theorem Dz {m:Ma} (h:Rt m) (hc:Co m) {p:Nat} {n:Int} (hk:(ent m p n).k=1):Rt (aW m p n ⟨1,(ent m p n).n,false⟩)∧Co (aW m p n ⟨1,(ent m p n).n,false⟩):=by
 have hin:=kW (m:=m) (p:=p) (n:=n) (by rw[hk];decide)
 have hE:=(bH _).1 (kY h.pt p n)
 have hxE:dC ⟨1,(ent m p n).n,false⟩=0:=(bH _).2 (.inr (.inl ⟨rfl,by show 0≤(ent m p n).n;omega,by show (ent m p n).n<40;omega⟩))
 generalize hx:(⟨1,(ent m p n).n,false⟩:En)=x at *
 have hxk:x.k=1:=by rw[←hx]
 have hxn:x.n=(ent m p n).n:=by rw[←hx]
 have hxw:x.w=false:=by rw[←hx]
 obtain⟨hs0,_,hpt⟩:=gH (k:=⟨m,0⟩) (p:=p) (n:=n) (x:=x) h.pt hin.2 hxE
 have hent:∀q j,ent (aW m p n x) q j=if q=p∧j=n then x else ent m q j:=fun q j=>jH hin.1 hs0 q j
 have hcnt:∀kd i,bX (aW m p n x) kd i=bX m kd i:=fun kd i=>by
  have h1:=mY hin.1 hs0 kd i
  have h2:qY (kF kd i (ent m p n))=qY (kF kd i x):=by rw[lK,lK,hxk,hxn,hk]
  unfold aW
  omega
 have hsk:gI m (aW m p n x):=gI.setTb
 refine⟨⟨hpt,h.trim,fun q hq => ?_,⟨h.ca.file,h.ca.lt,h.ca.fr,h.ca.srt⟩,fun q j hk' => ?_,fun i hi=>by rw[hcnt];exact h.cf i hi,h.fc,fun s hs=>by rw[hcnt];exact h.cs s hs⟩,⟨hc.tail,hc.clean,hc.anon⟩⟩
 ·rw[hsk.lv] at hq
  obtain⟨a1,a2⟩:=h.live q hq
  refine⟨by rw[hsk.ar];exact a1,fun j => ?_⟩
  rw[hent,if_neg]
  ·exact a2 j
  ·rintro⟨rfl,rfl⟩
   have:=a2 j;omega
 ·have hpg:iV (aW m p n x) q j=iV m q j:=by unfold iV;rw[hsk.ar]
  rw[hpg]
  rw[hent] at hk' ⊢
  by_cases e:q=p∧j=n
  ·rw[if_pos e] at hk' ⊢
   rw[e.1,e.2]
   obtain⟨y,hy,hyf⟩:=h.en p n (by rw[hk];decide)
   have h1:=hyf.lt hk
   obtain⟨f1,f2,f3,f4,f5⟩:=hyf.fr hk
   refine⟨y,hy,fun hk2=>by omega,fun _=>by rw[hxn];exact h1,fun _ => ?_⟩
   rw[hxn,hxw]
   exact⟨f1,f2,fun h=>(by cases h),fun h=>(by cases h),fun h=>(by cases h)⟩
  ·rw[if_neg e] at hk' ⊢
   obtain⟨y,hy,hyf⟩:=h.en q j hk'
   exact⟨y,hy,hyf.sw,hyf.lt,hyf.fr⟩
theorem vQ {m:Ma} (h:Rt m) (hc:Co m) {s:Sp} (hl:m.sp.length<4) (hv:s.lv=true) (ha:(aZ s.ar).1=0) (ht:s.tb=zTb):Rt { m with sp:=m.sp++[s] }∧Co { m with sp:=m.sp++[s] }:=by
 have hspN:∀q,bP { m with sp:=m.sp++[s] } q=if q=m.sp.length then s else bP m q:=fun q=>by
  unfold bP
  show (m.sp++[s]).getD q zSp=_
  rw[List.getD_eq_getElem?_getD,List.getElem?_append]
  by_cases e:q<m.sp.length
  ·rw[if_pos e,if_neg (by omega),List.getD_eq_getElem?_getD]
  ·rw[if_neg e]
   by_cases e2:q=m.sp.length
   ·rw[if_pos e2,e2,Nat.sub_self];rfl
   ·rw[if_neg e2,List.getD_eq_getElem?_getD,List.getElem?_eq_none (by simp;omega),List.getElem?_eq_none (by omega)]
 have hent:∀q j,ent { m with sp:=m.sp++[s] } q j=ent m q j:=fun q j=>by
  unfold ent
  rw[hspN]
  by_cases e:q=m.sp.length
  ·rw[if_pos e,iZ (by omega),ht];rfl
  ·rw[if_neg e]
 have hcnt:∀kd i,kd≠0→bX { m with sp:=m.sp++[s] } kd i=bX m kd i:=fun kd i hk=>by
  unfold bX
  show ((m.sp++[s]).map _).sum=_
  rw[List.map_append,List.sum_append]
  have:([s].map fun s=>(bG s.tb).countP (kF kd i)).sum=0:=by
   rw[List.map_singleton,List.sum_singleton,ht,List.countP_eq_zero]
   intro e he
   unfold bG at he
   obtain⟨j,_,rfl⟩:=List.mem_map.1 he
   rw[kD]
   unfold kF
   simp only[Bool.and_eq_true,decide_eq_true_eq]
   rintro⟨h1,_⟩
   exact hk h1.symm
  omega
 refine⟨⟨{ h.pt with spl:=by simp;omega,ar:=fun y hy => ?_,tb:=fun y hy => ?_ },h.trim,fun q hq => ?_,⟨h.ca.file,h.ca.lt,h.ca.fr,h.ca.srt⟩,fun q j hk => ?_,fun i hi=>by rw[hcnt 1 i (by decide)];exact h.cf i hi,h.fc,fun i hi=>by rw[hcnt 2 i (by decide)];exact h.cs i hi⟩,⟨hc.tail,hc.clean,hc.anon⟩⟩
 ·rcases List.mem_append.1 hy with hy|hy
  ·exact h.pt.ar y hy
  ·rw[List.mem_singleton.1 hy];exact ha
 ·rcases List.mem_append.1 hy with hy|hy
  ·exact h.pt.tb y hy
  ·rw[List.mem_singleton.1 hy,ht];decide
 ·rw[hspN] at hq ⊢
  by_cases e:q=m.sp.length
  ·rw[if_pos e,hv] at hq;cases hq
  ·rw[if_neg e] at hq ⊢
   refine⟨(h.live q hq).1,fun j=>by rw[hent];exact (h.live q hq).2 j⟩
 ·rw[hent] at hk ⊢
  obtain⟨y,hy,hyf⟩:=h.en q j hk
  have hq:=kW hk
  refine⟨y,?_,hyf.sw,hyf.lt,hyf.fr⟩
  unfold iV at hy ⊢
  rw[hspN,if_neg (by omega)]
  exact hy
def dE (T:List (List En)) (p:Nat):List En:=T.getD p []
def dG (T:List (List En)) (p n:Nat):En:=(dE T p).getD n zEn
def dh (m:Ma) (T:List (List En)):Ma:={ m with sp:=(List.range m.sp.length).map fun p => { bP m p with tb:=dO (dE T p) } }
structure sV (m:Ma) (T:List (List En)):Prop where
 len:T.length=m.sp.length
 ln:∀t∈T,t.length=64
 en:∀t∈T,∀x∈t,dC x=0
theorem gP {m:Ma} {T:List (List En)}:(dh m T).sp.length=m.sp.length:=by unfold dh;simp
theorem sN {m:Ma} {T:List (List En)} {p:Nat} (hp:p<m.sp.length):bP (dh m T) p = { bP m p with tb:=dO (dE T p) }:=by
 have:bP (dh m T) p=((List.range m.sp.length).map fun p=>({ bP m p with tb:=dO (dE T p) }:Sp)).getD p zSp:=rfl
 rw[this,List.getD_eq_getElem?_getD,List.getElem?_map,List.getElem?_range hp]
 rfl
theorem sV.mem {m:Ma} {T:List (List En)} (h:sV m T) {p:Nat} (hp:p<m.sp.length):dE T p∈T:=by
 unfold dE
 rw[List.getD_eq_getElem?_getD,List.getElem?_eq_getElem (by rw[h.len];exact hp)]
 exact List.getElem_mem _
theorem sV.l64 {m:Ma} {T:List (List En)} (h:sV m T) {p:Nat} (hp:p<m.sp.length):(dE T p).length=64:=h.ln _ (h.mem hp)
theorem sV.right {m:Ma} {T:List (List En)} (h:sV m T) {p:Nat} (hp:p<m.sp.length):bI (dO (dE T p))=0:=uI (h.en _ (h.mem hp)) (h.l64 hp)
theorem iH {m:Ma} {T:List (List En)} (h:sV m T) {p n:Nat} (hp:p<m.sp.length) (hn:n<64):ent (dh m T) p n=dG T p n:=by
 unfold ent dG
 rw[sN hp]
 show cB (dO (dE T p)) n=_
 rw[qX (h.en _ (h.mem hp)) (h.l64 hp) hn,List.getD_eq_getElem?_getD,List.getElem?_eq_getElem (by rw[h.l64 hp];exact hn)]
 rfl
theorem qQ {m:Ma} {T:List (List En)} (h:sV m T) {p n:Nat} (hp:p<m.sp.length) (hn:n<64):dC (dG T p n)=0:=by
 unfold dG
 rw[List.getD_eq_getElem?_getD,List.getElem?_eq_getElem (by rw[h.l64 hp];exact hn)]
 exact h.en _ (h.mem hp) _ (List.getElem_mem _)
def setL (T:List (List En)) (p n:Nat) (x:En):List (List En):=T.set p ((dE T p).set n x)
theorem lL {T:List (List En)} {p:Nat} (hp:p<T.length) {n:Nat} {x:En} (q:Nat):dE (setL T p n x) q=if q=p then (dE T p).set n x else dE T q:=by
 unfold dE setL
 rw[List.getD_eq_getElem?_getD,List.getElem?_set]
 by_cases e:q=p
 ·subst e;rw[if_pos rfl,if_pos hp,if_pos rfl];rfl
 ·rw[if_neg (fun h=>e h.symm),if_neg e,List.getD_eq_getElem?_getD]
theorem sV.set {m:Ma} {T:List (List En)} (h:sV m T) {p n:Nat} {x:En} (hp:p<m.sp.length) (hx:dC x=0):sV m (setL T p n x):=by
 refine⟨by unfold setL;rw[List.length_set];exact h.len,fun t ht => ?_,fun t ht y hy => ?_⟩
 ·rcases List.mem_or_eq_of_mem_set ht with ht|rfl
  ·exact h.ln t ht
  ·rw[List.length_set];exact h.l64 hp
 ·rcases List.mem_or_eq_of_mem_set ht with ht|rfl
  ·exact h.en t ht y hy
  ·rcases List.mem_or_eq_of_mem_set hy with hy|rfl
   ·exact h.en _ (h.mem hp) y hy
   ·exact hx
theorem oI {m:Ma} {T:List (List En)} (h:sV m T) {p n:Nat} {x:En} (hp:p<m.sp.length) (hn:n<64) (q j:Nat):dG (setL T p n x) q j=if q=p∧j=n then x else dG T q j:=by
 unfold dG
 rw[lL (by rw[h.len];exact hp)]
 by_cases e:q=p
 ·subst e
  rw[if_pos rfl,List.getD_eq_getElem?_getD,List.getElem?_set]
  by_cases e2:j=n
  ·subst e2
   rw[if_pos rfl,if_pos (by rw[h.l64 hp];exact hn),if_pos ⟨rfl,rfl⟩];rfl
  ·rw[if_neg (fun h=>e2 h.symm),if_neg (fun h=>e2 h.2),List.getD_eq_getElem?_getD]
 ·rw[if_neg e,if_neg (fun h=>e h.1)]
theorem lF {m:Ma} {T:List (List En)} (h:sV m T) {p n:Nat} {x:En} (hp:p<m.sp.length) (hn:n<64) (hx:dC x=0):aW (dh m T) p n x=dh m (setL T p n x):=by
 have hl:=h.l64 hp
 have hw:=h.right hp
 have hse:setE (dO (dE T p)) n x=0:=Ec hw ⟨by omega,by omega⟩ hx
 have ht:setT (dO (dE T p)) n x=dO ((dE T p).set n x):=by
  rw[←qZ (qP hse),sj hse,wW (h.en _ (h.mem hp)) hl,Int.toNat_natCast]
 unfold aW setTb
 rw[sN hp]
 show { dh m T with sp:=(dh m T).sp.set p { bP m p with tb:=setT (dO (dE T p)) n x } }=dh m (setL T p n x)
 rw[ht]
 refine congrArg (fun s=>({ m with sp:=s }:Ma)) (?_:((List.range m.sp.length).map fun p=>({ bP m p with tb:=dO (dE T p) }:Sp)).set p { bP m p with tb:=dO ((dE T p).set n x) }=(List.range m.sp.length).map fun q=>({ bP m q with tb:=dO (dE (setL T p n x) q) }:Sp))
 apply List.ext_getElem?
 intro q
 rw[List.getElem?_set,List.getElem?_map,List.getElem?_map]
 simp only[List.length_map,List.length_range]
 by_cases e:q=p
 ·subst e
  rw[if_pos rfl,if_pos hp,List.getElem?_range hp,Option.map_some,lL (by rw[h.len];exact hp),if_pos rfl]
 ·rw[if_neg (fun h=>e h.symm)]
  by_cases hq:q<m.sp.length
  ·rw[List.getElem?_range hq,Option.map_some,Option.map_some,lL (by rw[h.len];exact hp),if_neg e]
  ·rw[List.getElem?_eq_none (by simp;omega),Option.map_none,Option.map_none]
theorem rY {m:Ma} {T:List (List En)} {f:Nat} {X:Fr}:setFr (dh m T) f X=dh (setFr m f X) T:=rfl
theorem sV.fr {m:Ma} {T:List (List En)} (h:sV m T) {f:Nat} {X:Fr}:sV (setFr m f X) T:=⟨h.len,h.ln,h.en⟩
theorem sV.sps {m m' : Ma} {T:List (List En)} (h:sV m T) (e:m'.sp.length=m.sp.length):sV m' T:=⟨by rw[e];exact h.len,h.ln,h.en⟩
theorem jD {m:Ma} {T:List (List En)} {p:Nat} (hp:p<m.sp.length) (n:Int):iV (dh m T) p n=onA (bP m p).ar n:=by
 unfold iV;rw[sN hp]
theorem CE {m:Ma} {T:List (List En)} (h:sV m T) (s:Sp):dh { m with sp:=m.sp++[s] } (T++[List.replicate 64 zEn]) = { dh m T with sp:=(dh m T).sp++[{ s with tb:=zTb }] }:=by
 have hz:dO (List.replicate 64 zEn)=zTb:=by decide +kernel
 unfold dh
 simp only[Ma.mk.injEq,true_and,List.length_append,List.length_singleton]
 rw[List.range_succ,List.map_append]
 congr 1
 ·apply List.map_congr_left
  intro p hp
  have hp':=List.mem_range.1 hp
  unfold bP dE
  simp only[List.getD_eq_getElem?_getD]
  rw[List.getElem?_append_left hp',List.getElem?_append_left (by rw[h.len];exact hp')]
 ·unfold bP dE
  simp only[List.map_cons,List.map_nil,List.getD_eq_getElem?_getD]
  rw[List.getElem?_append_right (Nat.le_refl _),Nat.sub_self,←h.len,List.getElem?_append_right (Nat.le_refl _),Nat.sub_self]
  simp only[List.getElem?_cons_zero,Option.getD_some]
  rw[hz]
theorem sV.more {m:Ma} {T:List (List En)} (h:sV m T) (s:Sp):sV { m with sp:=m.sp++[s] } (T++[List.replicate 64 zEn]):=by
 refine⟨by simp[h.len],fun t ht => ?_,fun t ht x hx => ?_⟩
 ·rcases List.mem_append.1 ht with ht|ht
  ·exact h.ln t ht
  ·rw[List.mem_singleton.1 ht,List.length_replicate]
 ·rcases List.mem_append.1 ht with ht|ht
  ·exact h.en t ht x hx
  ·rw[List.mem_singleton.1 ht] at hx
   rw[(List.mem_replicate.1 hx).2];decide
def qF (m1:Ma) (g:Nat) (X:Fr) (f i:Int):Ma:={ setFr m1 g X with ca:=m1.ca.insertIdx (Cq m1.ca f i) ⟨f,i,g⟩ }
theorem KW {m1:Ma} {g:Nat} {f i:Int} {X:Fr} (h:Rt m1) (hc:Co m1) (hg:g<m1.m.fs.length) (hz:(bB m1 g).r=0) (hin:BV m1.st f i) (hno:∀c∈m1.ca,¬(c.f=f∧c.i=i))
  (hX:X.r=1∧X.f=f∧X.i=i) (ht:dS X.p ((aV m1.st f).n-i*8)=X.p) (hd:X.d=false→X.p=jE m1 f i) :
  Rt (qF m1 g X f i)∧Co (qF m1 g X f i):=by
 have hlim:=zY h.pt.st hin
 have hxE:dD X=0:=by
  rw[iy]
  have h1:=hin.1;have h2:=hin.2
  exact⟨⟨by omega,by omega,by omega,by omega,by omega,by omega⟩,fun e=>by omega,fun e=>by omega⟩
 have hfr:∀x,bB (qF m1 g X f i) x=if x=g then X else bB m1 x:=fun x=>vC hg x
 have hfrn:∀x,x≠g→bB (qF m1 g X f i) x=bB m1 x:=fun x hx=>by rw[hfr,if_neg hx]
 have hlen:(qF m1 g X f i).m.fs.length=m1.m.fs.length:=mZ
 have hmem:∀c,c∈(qF m1 g X f i).ca↔c=⟨f,i,g⟩∨c∈m1.ca:=fun c=>List.mem_insertIdx (Kj _ _ _)
 have hkg:∀c∈m1.ca,c.k.toNat≠g:=fun c hcm e=>by
  have:=(h.ca.fr c hcm).1
  rw[e,hz] at this
  exact absurd this (by decide)
 have hdisk:∀f' i',jE (qF m1 g X f i) f' i' = jE m1 f' i':=fun _ _=>rfl
 have hholdg:bX m1 1 g=0∧sW m1 g=0:=by
  have:=h.cf g hg
  omega
 have hpt:Pt (qF m1 g X f i):={ fr:=Kh h.pt.fr hxE,sl:=h.pt.sl,sw:=h.pt.sw,dk:=h.pt.dk,st:=h.pt.st,swl:=h.pt.swl,dkl:=h.pt.dkl,spl:=h.pt.spl,ar:=h.pt.ar,tb:=h.pt.tb }
 have hcaok:rT (qF m1 g X f i):=by
  refine⟨fun c hcm => ?_,fun c hcm => ?_,fun c hcm => ?_,xy h.ca.srt hno⟩
  ·rcases (hmem c).1 hcm with rfl|hcm
   ·exact hin
   ·exact h.ca.file c hcm
  ·rw[hlen]
   rcases (hmem c).1 hcm with rfl|hcm
   ·show 0≤(g:Int)∧(g:Int)<_;omega
   ·exact h.ca.lt c hcm
  ·rcases (hmem c).1 hcm with rfl|hcm
   ·rw[hfr,if_pos (Int.toNat_natCast g)]
    exact⟨by omega,hX.2.1,hX.2.2⟩
   ·rw[hfrn _ (hkg c hcm)];exact h.ca.fr c hcm
 have hent:∀p n,ent (qF m1 g X f i) p n=ent m1 p n:=fun _ _=>rfl
 have hentg:∀p n,(ent m1 p n).k=1→(ent m1 p n).n.toNat≠g:=by
  intro p n hk e
  have h3:=kW (m:=m1) (p:=p) (n:=n) (by rw[hk];decide)
  have h5:=(bH _).1 (kY h.pt p n)
  have h4:=(kQ (m:=m1) (kd:=1) (i:=g) (by decide)).2 ⟨p,n,h3.1,h3.2,hk,by omega⟩
  omega
 refine⟨⟨hpt,h.trim,h.live,hcaok,fun p n hk => ?_,fun x hx => ?_,fun x hx h0 => ?_,h.cs⟩,⟨fun c hcm => ?_,fun c hcm hd' => ?_,fun x hx hd' => ?_⟩⟩
 ·rw[hent] at hk ⊢
  obtain⟨y,hy,hfit⟩:=h.en p n hk
  exact⟨y,hy,hfit.sw,by rw[hlen];exact hfit.lt,fun hk1=>by rw[hfrn _ (hentg p n hk1)];exact hfit.fr hk1⟩
 ·have a1:sW (qF m1 g X f i) x=sW m1 x+qY (decide ((g:Int)=x)):=qC _ _ _ _ (Kj _ _ _)
  have a2:bX (qF m1 g X f i) 1 x=bX m1 1 x:=rfl
  rw[hfr,a1,a2]
  by_cases e:x=g
  ·subst e
   rw[if_pos rfl,hholdg.1,hholdg.2]
   have:qY (decide ((x:Int)=(x:Int)))=1:=by simp[qY]
   rw[this,hX.1];rfl
  ·rw[if_neg e]
   have:qY (decide ((g:Int)=(x:Int)))=0:=by unfold qY;rw[if_neg];simp only[decide_eq_true_eq];omega
   rw[this]
   exact h.cf x (by rw[←hlen];exact hx)
 ·by_cases e:x=g
  ·exact⟨⟨f,i,g⟩,(hmem _).2 (.inl rfl),by rw[e]⟩
  ·rw[hfrn x e] at h0
   obtain⟨c,hcm,hck⟩:=h.fc x (by rw[←hlen];exact hx) h0
   exact⟨c,(hmem c).2 (.inr hcm),hck⟩
 ·rcases (hmem c).1 hcm with rfl|hcm
  ·rw[hfr,if_pos (Int.toNat_natCast g)]
   exact ht
  ·rw[hfrn _ (hkg c hcm)];exact hc.tail c hcm
 ·rcases (hmem c).1 hcm with rfl|hcm
  ·rw[hfr,if_pos (Int.toNat_natCast g)] at hd' ⊢; rw[hdisk];exact hd hd'
  ·rw[hfrn _ (hkg c hcm)] at hd' ⊢
   rw[hdisk];exact hc.clean c hcm hd'
 ·by_cases e:x=g
  ·rw[hfr,if_pos e]
   have:=hin.1.1
   omega
  ·rw[hfrn x e] at hd' ⊢; exact hc.anon x (by rw[←hlen];exact hx) hd'
theorem Lj {m:Ma} (h:Rt m) (hc:Co m) {x:Int} (hx:di ⟨m.m.fs,x⟩=0):Rt { m with m:=⟨m.m.fs,x⟩ }∧Co { m with m:=⟨m.m.fs,x⟩ }:=
 ⟨⟨{ h.pt with fr:=hx },h.trim,h.live,⟨h.ca.file,h.ca.lt,h.ca.fr,h.ca.srt⟩,fun p n hk=>have ⟨y,hy,hf⟩:=h.en p n hk;⟨y,hy,hf.sw,hf.lt,hf.fr⟩,h.cf,h.fc,h.cs⟩,⟨hc.tail,hc.clean,hc.anon⟩⟩
theorem Jk {α:Type} (g:α→Nat) (c:Nat) (h:∀x,g x≤c):∀l:List α,(l.map g).sum≤c*l.length
 | []=>by simp
 | x::l=>by
  have h1:=Jk g c h l
  have h2:=h x
  rw[List.map_cons,List.sum_cons,List.length_cons,Nat.mul_succ]
  omega
theorem qg (t:Tb):(bG t).length=64:=by unfold bG;simp
theorem wu (m:Ma) (kd i:Int):bX m kd i≤64*m.sp.length:=Jk _ 64 (fun s=>by rw[←qg s.tb];exact List.countP_le_length) _
theorem JL {m:Ma} (h:rT m) (i:Int):sW m i≤1:=uz h.srt fun a ha b hb e=>h.uniq ha hb e
theorem Rt.fewR {m:Ma} (h:Rt m) {f:Nat} (hf:f<m.m.fs.length):0≤(bB m f).r∧(bB m f).r≤257:=by
 have h1:=h.cf f hf
 have h2:=wu m 1 f
 have h3:=JL h.ca f
 have h4:=h.pt.spl
 omega
theorem Rt.fewS {m:Ma} (h:Rt m) {s:Nat} (hs:s<m.sl.length):0≤fK m s∧fK m s≤256:=by
 have h1:=h.cs s hs
 have h2:=wu m 2 s
 have h4:=h.pt.spl
 omega
theorem AO {m:Ma} (h:Pt m) {kd i:Int} (hk:kd≠0) {p q:Nat} {n j:Int} (h1:(ent m p n).k=kd∧(ent m p n).n=i) (h2:(ent m q j).k=kd∧(ent m q j).n=i) (hne:¬(q=p∧j=n)):2≤bX m kd i:=by
 have e1:=kW (m:=m) (p:=p) (n:=n) (by omega)
 have e2:=kW (m:=m) (p:=q) (n:=j) (by omega)
 obtain⟨hs0,_,_⟩:=gH (k:=⟨m,0⟩) (p:=p) (n:=n) (x:=zEn) h e1.2 (by decide)
 have a1:=mY e1.1 hs0 kd i
 have a2:qY (kF kd i (ent m p n))=1:=by rw[lK,if_pos h1]
 have a3:qY (kF kd i zEn)=0:=nY rfl hk
 have a4:0<bX (setTb m p (setT (bP m p).tb n zEn)) kd i:=by
  refine (kQ hk).2 ⟨q,j,by rw[pK];exact e2.1,e2.2,?_⟩
  rw[jH e1.1 hs0,if_neg hne]
  exact h2
 have a5:bX ({ m:=m,e:=0 }:Kp).m kd i=bX m kd i:=rfl
 omega
def dK (x:Fr):Fr:={ x with r:=x.r+1 }
theorem Ev {x:Fr} (h:dD x=0) (hr:x.r≠0) (h1:x.r<1000):dD (dK x)=0:=by
 rw[iy] at h ⊢
 obtain⟨⟨a,b,c⟩,d,e⟩:=h
 refine⟨⟨?_,?_,c⟩,fun h0 => ?_,e⟩
 ·show 0≤x.r+1;omega
 ·show x.r+1≤1000;omega
 ·have:x.r+1=0:=h0
  omega
theorem iG {m:Ma} (h:Rt m) {p:Nat} {n:Int} (hk:(ent m p n).k=1):∃f:Nat,(ent m p n).n=f∧f<m.m.fs.length∧(bB m f).r≠0∧p<m.sp.length∧(0≤n∧n<64)∧∃g,iV m p n=some g∧KH (bB m f) g (ent m p n).w:=by
 have h1:=kW (m:=m) (p:=p) (n:=n) (by rw[hk];decide)
 have h2:=(bH _).1 (kY h.pt p n)
 obtain⟨g,hg,hf⟩:=h.en p n (by rw[hk];decide)
 have h3:=hf.lt hk
 have h4:=vF h hk rfl
 refine⟨(ent m p n).n.toNat,by omega,h4.2,?_,h1.1,h1.2,g,hg,hf.fr hk⟩
 have:=h.cf _ h4.2
 omega
theorem qN {m:Ma} (h:Rt m) (hc:Co m) {p q:Nat} {n:Int} {f:Nat} {g:Pg} (hk:(ent m p n).k=1) (hn:(ent m p n).n=f) (hq:q<m.sp.length) (h0:(ent m q n).k=0) (hg:iV m p n=some g) (hgq:iV m q n=some g) (hw:(ent m p n).w=true→g.sh=true)
  (hany:(bB m f).f<0→∀a j,(ent m a j).k=1→(ent m a j).n.toNat=f→(ent m a j).w=false) :
  Rt (aW (setFr m f (dK (bB m f))) q n (ent m p n))∧Co (aW (setFr m f (dK (bB m f))) q n (ent m p n)):=by
 obtain⟨f',e1,e2,e3,e4,e5,g',e6,e7⟩:=iG h hk
 have:f' = f:=by omega
 subst this
 rw[hg] at e6
 cases e6
 have hr:=h.fewR e2
 refine qR (g:=g) h hc hq e5 h0 e2 hk hn (Ev (h.pt.frE e2) e3 (by omega)) rfl (fun _=>⟨rfl,rfl,rfl,rfl⟩) (fun h=>absurd h e3) hany hgq ?_
 obtain⟨f1,f2,f3,f4,f5⟩:=e7
 refine⟨f1,f2,f3,f4,fun hw' hx => ?_⟩
 have:=f2 (hw hw')
 have hx' : (bB m f').f<0:=hx
 omega
theorem wG {m:Ma} (h:Rt m) (hc:Co m) {p q:Nat} {n:Int} {f:Nat} {g:Pg} (hpq:p≠q) (hk:(ent m p n).k=1) (hn:(ent m p n).n=f) (hq:q<m.sp.length) (h0:(ent m q n).k=0) (hg:iV m p n=some g) (hgq:iV m q n=some g) :
  Rt (aW (aW (setFr m f (dK (bB m f))) p n ⟨1,f,false⟩) q n ⟨1,f,false⟩)∧Co (aW (aW (setFr m f (dK (bB m f))) p n ⟨1,f,false⟩) q n ⟨1,f,false⟩):=by
 obtain⟨f',e1,e2,e3,e4,e5,g',e6,e7⟩:=iG h hk
 have:f' = f:=by omega
 subst this
 obtain⟨a1,a2⟩:=Dz h hc hk
 rw[hn] at a1 a2
 obtain⟨hs0,_,_⟩:=gH (k:=⟨m,0⟩) (p:=p) (n:=n) (x:=⟨1,f',false⟩) h.pt e5 ((bH _).2 (.inr (.inl ⟨rfl,by show (0:Int)≤f'; omega,by have:=((eB _).1 h.pt.fr).1;show (f' : Int)<40;omega⟩)))
 have hent:∀a j,ent (aW m p n ⟨1,f',false⟩) a j=if a=p∧j=n then ⟨1,f',false⟩ else ent m a j:=fun a j=>jH e4 hs0 a j
 have hp:ent (aW m p n ⟨1,f',false⟩) p n=⟨1,f',false⟩:=by rw[hent,if_pos ⟨rfl,rfl⟩]
 have hsk:gI m (aW m p n ⟨1,f',false⟩):=gI.setTb
 have hpg:∀a,iV (aW m p n ⟨1,f',false⟩) a n=iV m a n:=fun a=>by unfold iV;rw[hsk.ar]
 have:=qN (p:=p) (q:=q) (n:=n) (f:=f') (g:=g) a1 a2 (by rw[hp]) (by rw[hp]) (by rw[hsk.len];exact hq) (by rw[hent,if_neg (fun h'=>hpq h'.1.symm)];exact h0) (by rw[hpg];exact hg) (by rw[hpg];exact hgq) (fun h'=>by rw[hp] at h'; cases h') (fun hx a j hk1 hk2 => ?_)
 ·rw[hp] at this
  exact this
 ·rw[hent] at hk1 hk2 ⊢
  by_cases e:a=p∧j=n
  ·rw[if_pos e]
  ·rw[if_neg e] at hk1 hk2 ⊢
   obtain⟨f2,b1,b2,b3,b4,b5,g2,b6,b7⟩:=iG h hk1
   have hf2:f2=f':=by omega
   subst hf2
   have h2:=AO h.pt (kd:=1) (i:=f2) (by decide) ⟨hk,hn⟩ ⟨hk1,b1⟩ e
   have h3:=h.cf f2 e2
   obtain⟨c1,c2,c3,c4,c5⟩:=b7
   cases hw:(ent m a j).w with
   | false=>rfl
   | true=>
    have:=c5 hw hx
    omega
theorem xO {m:Ma} (h:Rt m) (hc:Co m) {p q:Nat} {n:Int} {s:Nat} {g:Pg} (hk:(ent m p n).k=2) (hn:(ent m p n).n=s) (hq:q<m.sp.length) (h0:(ent m q n).k=0) (hg:iV m p n=some g) (hgq:iV m q n=some g) :
  Rt (aW (setSl m s (fK m s+1)) q n (ent m p n))∧Co (aW (setSl m s (fK m s+1)) q n (ent m p n)):=by
 have h1:=kW (m:=m) (p:=p) (n:=n) (by rw[hk];decide)
 have h2:=(bH _).1 (kY h.pt p n)
 obtain⟨g',hg',hf⟩:=h.en p n (by rw[hk];decide)
 rw[hg] at hg'
 cases hg'
 have h3:=hf.sw hk
 have hs:s<m.sl.length:=by omega
 have h4:=h.fewS hs
 exact yG (d:=m.sw) (g:=g) h hc hq h1.2 h0 hs hk hn ((h2.resolve_left (fun h'=>by omega)).resolve_left (fun h'=>by omega)).2.2.2 (by omega) h.pt.sw rfl hgq h3.2
structure Bd (m:Ma) (T:List (List En)):Prop where
 ok:sV m T
 rt:Rt (dh m T)
 co:Co (dh m T)
theorem Bd.of {m:Ma} {T:List (List En)} (ok:sV m T) (h:Rt (dh m T)∧Co (dh m T)):Bd m T:=⟨ok,h.1,h.2⟩
theorem Bd.few {m:Ma} {T:List (List En)} (h:Bd m T):m.m.fs.length≤40∧m.sl.length≤60∧m.sp.length≤4∧(m.dk.blocks.length:Int)=m.st.count∧aR m.st=0∧bK m.dk=0∧bK m.sw=0∧m.sw.blocks.length=m.sl.length:=
 ⟨((eB _).1 h.rt.pt.fr).1,iC h.rt.pt.sl,by have:=h.rt.pt.spl;rw[gP] at this;exact this,h.rt.pt.dkl,h.rt.pt.st,h.rt.pt.dk,h.rt.pt.sw,h.rt.pt.swl⟩
theorem Bd.cachedE {m:Ma} {T:List (List En)} (h:Bd m T) {p n:Nat} (hp:p<m.sp.length) (hn:n<64) (h0:(dG T p n).k=0) {c:Cc} (hcm:c∈m.ca) {g:Pg} (hg:onA (bP m p).ar n=some g) (hf:c.f=g.fi∧c.i=g.pg) {w:Bool} (hw:w=true→g.sh=true∧g.wr=true) :
  Bd (setFr m c.k.toNat (dK (bB m c.k.toNat))) (setL T p n ⟨1,c.k,w⟩):=by
 have hlt:=h.rt.ca.lt c hcm
 have hfr:=h.rt.ca.fr c hcm
 have hfi:=h.rt.ca.file c hcm
 have hlt' : c.k.toNat<m.m.fs.length:=by have:c.k<(dh m T).m.fs.length:=hlt.2;have e:(dh m T).m.fs.length=m.m.fs.length:=rfl;omega
 have hxE:dC ⟨1,c.k,w⟩=0:=(bH _).2 (.inr (.inl ⟨rfl,hlt.1,by have:=h.few.1;have:c.k<(dh m T).m.fs.length:=hlt.2;have e:(dh m T).m.fs.length=m.m.fs.length:=rfl;show c.k<40;omega⟩))
 have hfew:=h.rt.fewR hlt'
 have hfrN:bB (dh m T) c.k.toNat=bB m c.k.toNat:=rfl
 rw[hfrN] at hfr hfew
 refine .of (h.ok.fr.set hp hxE) ?_
 rw[←lF h.ok.fr hp hn hxE,←rY]
 refine qR (g:=g) (f:=c.k.toNat) h.rt h.co (by rw[gP];exact hp) ⟨by omega,by omega⟩ (by rw[iH h.ok hp hn];exact h0) hlt' rfl (by show c.k=_;omega) (Ev (h.rt.pt.frE hlt') (by omega) (by omega)) rfl (fun _=>⟨rfl,rfl,rfl,rfl⟩) (fun h'=>by rw[hfrN] at h'; omega) (fun hx => ?_) (by rw[jD hp];exact hg) ?_
 ·have:(bB m c.k.toNat).f<0:=hx
  have:=hfi.1.1
  omega
 ·have e1:(dK (bB m c.k.toNat)).f=(bB m c.k.toNat).f:=rfl
  have e2:(dK (bB m c.k.toNat)).i=(bB m c.k.toNat).i:=rfl
  refine⟨fun _=>⟨by omega,by omega⟩,fun _=>by have:=hfi.1.1;omega,fun h'=>(hw h').2,fun h' _=>(hw h').1,fun h' hx => ?_⟩
  have:=hfi.1.1
  omega
theorem Bd.anonE {m:Ma} {T:List (List En)} (h:Bd m T) {p n:Nat} (hp:p<m.sp.length) (hn:n<64) (h0:(dG T p n).k=0) {f:Nat} (hf:f<m.m.fs.length) (hr:(bB m f).r=0) {X:Fr} (hX:X.r=1∧X.d=false∧X.f = -1∧X.i=0) {g:Pg} (hg:onA (bP m p).ar n=some g) (hsh:g.sh=false) {w:Bool} (hw:w=true→g.wr=true) :
  Bd (setFr m f X) (setL T p n ⟨1,f,w⟩):=by
 have hxE:dC ⟨1,f,w⟩=0:=(bH _).2 (.inr (.inl ⟨rfl,by show (0:Int)≤f;omega,by have:=h.few.1;show (f:Int)<40;omega⟩))
 have hfrN:bB (dh m T) f=bB m f:=rfl
 refine .of (h.ok.fr.set hp hxE) ?_
 rw[←lF h.ok.fr hp hn hxE,←rY]
 have hXE:dD X=0:=by
  rw[iy]
  exact⟨⟨by omega,by omega,by omega,by omega,by omega,by omega⟩,fun h'=>by omega,fun _=>hX.2.2.2⟩
 refine qR (g:=g) (f:=f) h.rt h.co (by rw[gP];exact hp) ⟨by omega,by omega⟩ (by rw[iH h.ok hp hn];exact h0) hf rfl rfl hXE (by rw[hfrN];omega) (fun h'=>by rw[hfrN] at h'; omega) (fun _=>⟨by omega,hX.2.1⟩) (fun hx a j hk1 hk2 => ?_) (by rw[jD hp];exact hg) ?_
 ·have:=vF h.rt hk1 hk2
  have h5:=h.rt.cf f hf
  rw[hfrN] at h5
  omega
 ·exact⟨fun h'=>absurd h' (by omega),fun h'=>(by rw[hsh] at h'; cases h'),hw,fun _ h'=>absurd h' (by omega),fun _ _=>by omega⟩
theorem Bd.slotE {m:Ma} {T:List (List En)} (h:Bd m T) {p n:Nat} (hp:p<m.sp.length) (hn:n<64) (h0:(dG T p n).k=0) {s:Nat} (hs:s<m.sl.length) (hz:fK m s=0) {P:Page} {g:Pg} (hg:onA (bP m p).ar n=some g) (hsh:g.sh=false) :
  Bd { m with sl:=m.sl.set s 1,sw:=⟨m.sw.blocks.set s P,m.sw.queue⟩ } (setL T p n ⟨2,s,false⟩):=by
 have hxE:dC ⟨2,s,false⟩=0:=(bH _).2 (.inr (.inr ⟨rfl,by show (0:Int)≤s;omega,by have:=h.few.2.1;show (s:Int)<60;omega,rfl⟩))
 have hok:sV { m with sl:=m.sl.set s 1,sw:=⟨m.sw.blocks.set s P,m.sw.queue⟩ } T:=h.ok.sps rfl
 refine .of (hok.set hp hxE) ?_
 rw[←lF hok hp hn hxE]
 have hwd:bK ⟨m.sw.blocks.set s P,m.sw.queue⟩=0:=by
  have:=(jU _).1 h.rt.pt.sw
  rw[jU]
  simp only[List.length_set]
  exact this
 have hsl:fK (dh m T) s=0:=hz
 have:=yG (d:=⟨m.sw.blocks.set s P,m.sw.queue⟩) (x:=⟨2,s,false⟩) (n:=(n:Int)) (g:=g) h.rt h.co (p:=p) (s:=s) (by rw[gP];exact hp) ⟨by omega,by omega⟩ (by rw[iH h.ok hp hn];exact h0) hs rfl rfl rfl (by rw[hsl];omega) hwd (by rw[List.length_set];rfl) (by rw[jD hp];exact hg) hsh
 rw[hsl] at this
 exact this
theorem Bd.cache {m:Ma} {T:List (List En)} (h:Bd m T) {f i:Int} (hin:BV m.st f i) (hno:∀c∈m.ca,¬(c.f=f∧c.i=i)) {g:Nat} (hg:g<m.m.fs.length) (hr:(bB m g).r=0) {X:Fr} (hX:X.r=1∧X.f=f∧X.i=i) (ht:dS X.p ((aV m.st f).n-i*8)=X.p) (hd:X.d=false→X.p=jE m f i) :
  Bd (qF m g X f i) T:=.of (h.ok.sps rfl) (KW h.rt h.co hg hr hin hno hX ht hd)
theorem Bd.more {m:Ma} {T:List (List En)} (h:Bd m T) {s:Sp} (hl:m.sp.length<4) (hv:s.lv=true) (ha:(aZ s.ar).1=0):Bd { m with sp:=m.sp++[s] } (T++[List.replicate 64 zEn]):=by
 refine .of (h.ok.more s) ?_
 rw[CE h.ok]
 exact vQ h.rt h.co (s:={ s with tb:=zTb }) (by rw[gP];exact hl) hv ha rfl
theorem Bd.share1 {m:Ma} {T:List (List En)} (h:Bd m T) (hl:m.sp.length=2) {n:Nat} (hn:n<64) (har:(bP m 1).ar=(bP m 0).ar) (hk:(dG T 0 n).k=1) (h0:(dG T 1 n).k=0) {g:Pg} (hg:onA (bP m 0).ar n=some g) {f:Nat} (hf:(dG T 0 n).n=f) {w:Bool} (hw:w=(g.sh&&(dG T 0 n).w)) :
  Bd (setFr m f (dK (bB m f))) (setL (setL T 0 n ⟨1,f,w⟩) 1 n ⟨1,f,w⟩):=by
 have e0:=iH h.ok (p:=0) (by omega) hn
 have e1:=iH h.ok (p:=1) (by omega) hn
 have hg0:iV (dh m T) 0 n=some g:=by rw[jD (by omega)];exact hg
 have hg1:iV (dh m T) 1 n=some g:=by rw[jD (by omega),har];exact hg
 obtain⟨f',a1,a2,_⟩:=iG h.rt (p:=0) (n:=n) (by rw[e0];exact hk)
 have a2' : f' < m.m.fs.length:=a2
 have hff:f' = f:=by rw[e0] at a1;omega
 subst hff
 have hxE:∀w,dC ⟨1,f',w⟩=0:=fun w=>(bH _).2 (.inr (.inl ⟨rfl,by show (0:Int)≤f'; omega,by have:=h.few.1;show (f' : Int)<40;omega⟩))
 have hok:=(h.ok.fr (f:=f') (X:=dK (bB m f'))).set (p:=0) (n:=n) (by show 0<m.sp.length;omega) (hxE w)
 refine .of (hok.set (by show 1<m.sp.length;omega) (hxE w)) ?_
 have hex:(⟨1,f',(dG T 0 n).w⟩:En)=dG T 0 n:=by rw[←hf,←hk]
 rw[←lF hok (by show 1<m.sp.length;omega) hn (hxE w)]
 cases hs:g.sh with
 | false=>
  rw[hs,Bool.false_and] at hw
  subst hw
  rw[←lF h.ok.fr (by show 0<m.sp.length;omega) hn (hxE false),←rY]
  exact wG (m:=dh m T) (p:=0) (q:=1) (n:=n) (f:=f') (g:=g) h.rt h.co (by decide) (by rw[e0];exact hk) (by rw[e0];exact hf) (by rw[gP];omega) (by rw[e1];exact h0) hg0 hg1
 | true=>
  rw[hs,Bool.true_and] at hw
  subst hw
  rw[hex]
  have hself:setL T 0 n (dG T 0 n)=T:=by
   have hl0:dE T 0∈T:=h.ok.mem (by omega)
   have h64:=h.ok.l64 (p:=0) (by omega)
   unfold setL dG
   rw[List.getD_eq_getElem?_getD,List.getElem?_eq_getElem (by omega:n<(dE T 0).length),Option.getD_some,List.set_getElem_self]
   unfold dE
   rw[List.getD_eq_getElem?_getD,List.getElem?_eq_getElem (by rw[h.ok.len];omega:0<T.length),Option.getD_some,List.set_getElem_self]
  rw[hself,←rY,←e0]
  refine qN (m:=dh m T) (p:=0) (q:=1) (n:=n) (f:=f') (g:=g) h.rt h.co (by rw[e0];exact hk) (by rw[e0];exact hf) (by rw[gP];omega) (by rw[e1];exact h0) hg0 hg1 (fun _=>hs) (fun hx => ?_)
  obtain⟨f2,b1,b2,b3,b4,b5,g2,b6,b7⟩:=iG h.rt (p:=0) (n:=n) (by rw[e0];exact hk)
  have:f2=f':=by omega
  subst this
  rw[hg0] at b6
  cases b6
  have:=b7.2.1 hs
  omega
theorem Bd.share2 {m:Ma} {T:List (List En)} (h:Bd m T) (hl:m.sp.length=2) {n:Nat} (hn:n<64) (har:(bP m 1).ar=(bP m 0).ar) (hk:(dG T 0 n).k=2) (h0:(dG T 1 n).k=0) {g:Pg} (hg:onA (bP m 0).ar n=some g) {s:Nat} (hf:(dG T 0 n).n=s) :
  Bd (setSl m s (fK m s+1)) (setL (setL T 0 n (dG T 0 n)) 1 n (dG T 0 n)):=by
 have e0:=iH h.ok (p:=0) (by omega) hn
 have e1:=iH h.ok (p:=1) (by omega) hn
 have hg0:iV (dh m T) 0 n=some g:=by rw[jD (by omega)];exact hg
 have hg1:iV (dh m T) 1 n=some g:=by rw[jD (by omega),har];exact hg
 have hself:setL T 0 n (dG T 0 n)=T:=by
  have hl0:dE T 0∈T:=h.ok.mem (by omega)
  have h64:=h.ok.l64 (p:=0) (by omega)
  unfold setL dG
  rw[List.getD_eq_getElem?_getD,List.getElem?_eq_getElem (by omega:n<(dE T 0).length),Option.getD_some,List.set_getElem_self]
  unfold dE
  rw[List.getD_eq_getElem?_getD,List.getElem?_eq_getElem (by rw[h.ok.len];omega:0<T.length),Option.getD_some,List.set_getElem_self]
 rw[hself]
 have hE:=qQ h.ok (p:=0) (by omega) hn
 have hok:sV (setSl m s (fK m s+1)) T:=h.ok.sps rfl
 refine .of (hok.set (by show 1<m.sp.length;omega) hE) ?_
 rw[←lF hok (by show 1<m.sp.length;omega) hn hE,←e0]
 exact xO (m:=dh m T) (p:=0) (q:=1) (n:=n) (s:=s) (g:=g) h.rt h.co (by rw[e0];exact hk) (by rw[e0];exact hf) (by rw[gP];omega) (by rw[e1];exact h0) hg0 hg1
theorem Bd.share0 {m:Ma} {T:List (List En)} (h:Bd m T) (hl:m.sp.length=2) {n:Nat} (hn:n<64) (hk:(dG T 0 n).k=0) (h0:(dG T 1 n).k=0):Bd m (setL (setL T 0 n (dG T 0 n)) 1 n (dG T 0 n)):=by
 have hE0:=(bH _).1 (qQ h.ok (p:=0) (by omega) hn)
 have hE1:=(bH _).1 (qQ h.ok (p:=1) (by omega) hn)
 have hz:∀e:En,e.k=0→((e.k=0∧e.n=0∧e.w=false)∨(e.k=1∧0≤e.n∧e.n<40)∨(e.k=2∧0≤e.n∧e.n<60∧e.w=false))→e=zEn:=by
  rintro⟨a,b,c⟩ h1 h2
  rcases h2 with ⟨a1,a2,a3⟩|h2|h2
  ·simp only at a1 a2 a3;subst a1;subst a2;subst a3;rfl
  ·omega
  ·omega
 have h0':=hz _ hk hE0
 have h1':=hz _ h0 hE1
 have hself:∀p,p<2→dG T p n=zEn→setL T p n zEn=T:=fun p hp he=>by
  have h64:=h.ok.l64 (p:=p) (by omega)
  have hlT:=h.ok.len
  have:(dE T p)[n]'(by omega)=zEn:=by
   unfold dG at he
   rw[List.getD_eq_getElem?_getD,List.getElem?_eq_getElem (by omega:n<(dE T p).length),Option.getD_some] at he
   exact he
  unfold setL
  rw[←this,List.set_getElem_self]
  unfold dE
  rw[List.getD_eq_getElem?_getD,List.getElem?_eq_getElem (by omega:p<T.length),Option.getD_some,List.set_getElem_self]
 rw[h0',hself 0 (by omega) h0',hself 1 (by omega) h1']
 exact h
end Go.Proofs.YtjkkoeijlhfneaaGreat