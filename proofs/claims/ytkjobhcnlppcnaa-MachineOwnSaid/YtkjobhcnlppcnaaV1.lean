import Derived.WalkKit
import Derived.ProofKit
import Derived.SizedLaws
import Derived.Maps.Own
import Derived.WalkSpells
import Derived.WalkLawsBesides
import Derived.ArgAppend
import Derived.Deep.MidRow
import Derived.Deep.Slices
import Derived.Laws.AppendOwnNone
import Derived.Laws.CopyOwn
import Derived.Laws.OwnMore
import Derived.Lib.Hide
import Derived.Maps.Range
import Derived.Maps.Views
import Derived.OpenShut
import Derived.Orders
import Derived.OwnWalk
set_option linter.unusedSimpArgs false
set_option linter.unusedVariables false
set_option maxHeartbeats 4000000
set_option maxRecDepth 100000
namespace Pw
open Go Go.RowKit
abbrev Page:=Vector UInt8 8
theorem Fa (p q:Page):(p==q)=((p[0]==q[0])&&(p[1]==q[1])&&(p[2]==q[2])&&(p[3]==q[3])&&(p[4]==q[4])&&(p[5]==q[5])&&(p[6]==q[6])&&(p[7]==q[7])):=by
 rw[Bool.eq_iff_iff]
 simp only[beq_iff_eq,Bool.and_eq_true]
 constructor
 ·rintro rfl;simp
 ·rintro⟨⟨⟨⟨⟨⟨⟨h0,h1⟩,h2⟩,h3⟩,h4⟩,h5⟩,h6⟩,h7⟩
  ext i hi
  match i,hi with
  | 0,_=>rw[h0]
  | 1,_=>rw[h1]
  | 2,_=>rw[h2]
  | 3,_=>rw[h3]
  | 4,_=>rw[h4]
  | 5,_=>rw[h5]
  | 6,_=>rw[h6]
  | 7,_=>rw[h7]
  | n+8,h=>omega
theorem Jq (a b:UInt8):((a.toNat:Int)==(b.toNat:Int))=(a==b):=by
 rw[Bool.eq_iff_iff]
 simp only[beq_iff_eq,Int.natCast_inj,UInt8.toNat_inj]
def eH (p:Page) (a:Int) (k:Nat):Page:=Vector.ofFn fun i:Fin 8=>if a≤(i.val:Int)∧i.val<k then 0 else p[i.val]
def dE (p:Page) (a:Int):Page:=Vector.ofFn fun i:Fin 8=>if a≤(i.val:Int) then 0 else p[i.val]
theorem rM (p:Page) (a:Int) (k:Nat) (h:8≤k):eH p a k=dE p a:=by
 ext i hi
 simp only[eH,dE,Vector.getElem_ofFn]
 have hk:i<k:=by omega
 simp[hk]
theorem qQ (p:Page) (a:Int) (k:Nat) (h:k<8) (ha:a≤k):(eH p a k).set k 0=eH p a (k+1):=by
 ext i hi
 simp only[eH,Vector.getElem_ofFn,Vector.getElem_set]
 by_cases e:k=i
 ·subst e;simp[ha]
 ·simp only[e,if_false]
  by_cases c:a≤(i:Int)∧i<k
  ·rw[if_pos c,if_pos ⟨c.1,by omega⟩]
  ·rw[if_neg c,if_neg (by omega)]
def bA (L:Nat→Bool) (i:Nat):Nat→Bool:=fun k=>if k=i then true else L k
def wr {α:Type}:List α→Option (List α)
 | []=>some []
 | a::r=>some (a::r)
theorem yP {α:Type} {a b:List α} (h:wr a=some b):a=b:=by cases a<;>cases h<;>rfl
def i64 (n:Int):Prop:=-9223372036854775808≤n∧n≤9223372036854775807
theorem rU {α:Type} (good:α→Prop) (R:Nat→α→Prop):∀(len:Nat),(∀i,i<len→∃y:α,good y∧R i y)→∃l:List α,l.length=len∧(∀y∈l,good y)∧∀i (hi:i<l.length),R i l[i]
 | 0,_=>⟨[],rfl,fun y hy=>(by cases hy),fun i hi=>absurd hi (Nat.not_lt_zero _)⟩
 | len+1,key=>by
  obtain⟨l,hl,hg,hr⟩:=rU good R len (fun i hi=>key i (by omega))
  obtain⟨y,hy,hyr⟩:=key len (by omega)
  refine⟨l++[y],by simp[hl],?_,?_⟩
  ·intro z hz
   rcases List.mem_append.1 hz with hz|hz
   ·exact hg z hz
   ·rw[List.mem_singleton.1 hz];exact hy
  ·intro i hi
   by_cases hil:i<l.length
   ·rw[List.getElem_append_left hil];exact hr i hil
   ·have hi' : i=len:=by simp at hi;omega
    subst hi'
    rw[List.getElem_append_right (by omega)]
    simpa[hl] using hyr
end Pw
namespace Go.Proofs.Ytkjobhcnlppcnaa
open Go.ChangeShapes Go.WideShapes Go.ChangeAt Go.RowKit Go.Maps Pw
theorem jv {n k:Nat} {P:∀i,i<n→Prop} (hp:∀i (h:i<n),i<k→P i h) (hlt:k<n) (hk:P k hlt):∀i (h:i<n),i<k+1→P i h:=by
 intro i h hi
 by_cases e:i=k
 ·subst e;exact hk
 ·exact hp i h (by omega)
theorem KA {α:Type} {l m:List α} (k:Nat) (h:k<l.length) (h' : k<m.length) (hne:l[k]≠m[k]):l≠m:=by rintro rfl;exact hne rfl
theorem Jm {α:Type} {l m:List α} (hl:l.length=m.length) (k:Nat) (hk:¬k<l.length) (h:∀i (h:i<l.length),i<k→l[i]=m[i]'(by omega)):l=m:=
 List.ext_getElem hl fun i h1 h2=>h i h1 (by omega)
theorem JQ {α:Type} {l m:List α} (hl:l.length=m.length) {k:Nat} (hk:k<l.length) (h:∀i (h:i<l.length),i<k→l[i]=m[i]'(by omega)) (he:l[k]=m[k]'(by omega)):∀i (h:i<l.length),i<k+1→l[i]=m[i]'(by omega):=by
 intro i h1 h2
 by_cases e:i=k
 ·subst e;exact he
 ·exact h i h1 (by omega)
end Go.Proofs.Ytkjobhcnlppcnaa
namespace Pw
open Go Go.RowKit
theorem nR {listed:Array Bool} {i:Nat} (hi:i<listed.size) (q:Nat) (hq:listed.getD q false=true):(listed.setIfInBounds i true).getD q false=true:=by
 by_cases hqi:q=i
 ·subst hqi;simp[Array.getD_eq_getD_getElem?,hi]
 ·simpa[Array.getD_eq_getD_getElem?,Array.getElem?_setIfInBounds_ne (Ne.symm hqi)] using hq
theorem jP {listed:Array Bool} {i q:Nat} (h:q≠i):(listed.setIfInBounds i true).getD q false=listed.getD q false:=by
 simp[Array.getD_eq_getD_getElem?,Array.getElem?_setIfInBounds_ne (Ne.symm h)]
theorem zg {listed:Array Bool} {i:Nat} (hi:i<listed.size):(listed.setIfInBounds i true).getD i false=true:=by
 simp[Array.getD_eq_getD_getElem?,hi]
theorem vD {listed:Array Bool} {i fuel:Nat} (hi:i<listed.size) (h1:listed.getD i true=false) (hc:listed.toList.countP (!·)≤fuel+1):(listed.setIfInBounds i true).toList.countP (!·)≤fuel:=by
 have hil:i<listed.toList.length:=by simp;omega
 have hfalse:listed.toList[i]=false:=by
  simpa[Array.getD_eq_getD_getElem?,hi] using h1
 have:=List.countP_set (p:=(!·)) (l:=listed.toList) (i:=i) (a:=true) hil
 rw[hfalse] at this
 have hpos:0<listed.toList.countP (!·):=List.countP_pos_iff.2 ⟨listed.toList[i],List.getElem_mem hil,by rw[hfalse];rfl⟩
 simp only[Array.toList_setIfInBounds]
 simp only[Bool.not_false,Bool.not_true,if_true,Bool.false_eq_true,if_false] at this
 omega
open Go.ChangeShapes Go.WideShapes Go.ChangeAt
def firstE:List Int→Int
 | []=>0
 | x::r=>if x=0 then firstE r else x
theorem kR {l:List Int} (h:∀i (hi:i<l.length),l[i]=0):firstE l=0:=by
 induction l with
 | nil=>rfl
 | cons x r ih=>
  have h0:=h 0 (by simp)
  simp at h0
  simp only[firstE,h0,if_true]
  exact ih fun i hi=>by have:=h (i+1) (by simpa using hi);simpa using this
theorem nU {l:List Int} (k:Nat) (hk:k<l.length) (h:∀i (hi:i<l.length),i<k→l[i]=0) (hne:l[k]≠0):firstE l=l[k]:=by
 induction l generalizing k with
 | nil=>simp at hk
 | cons x r ih=>
  cases k with
  | zero=>simp at hne;simp[firstE,hne]
  | succ k=>
   have h0:=h 0 (by simp) (by omega)
   simp at h0
   simp only[firstE,h0,if_true,List.getElem_cons_succ]
   exact ih k (by simpa using hk) (fun i hi hik=>by have:=h (i+1) (by simpa using hi) (by omega);simpa using this) (by simpa using hne)
theorem filter_all {α:Type} (p q:α→Bool) (l:List α):(l.filter p).all (fun e => !p e||q e)=l.all (fun e => !p e||q e):=by
 induction l with
 | nil=>rfl
 | cons x l ih=>
  cases hp:p x
  ·rw[List.filter_cons_of_neg (by simp[hp]),ih];simp[hp]
  ·rw[List.filter_cons_of_pos (by simp[hp])];simp[hp,ih]
end Pw
namespace Go.Proofs.Ytkjobhcnlppcnaa
open Go.RowKit Pw
def idx {α:Type} (f:α→Bool) (l:List α):Int:=match l.findIdx? f with
 | some k=>k
 | none => -1
theorem xK {α:Type} (f:α→Bool) (l:List α) (k:Nat) (h:k<l.length) (hp:∀i (h:i<l.length),i<k→f l[i]=false) (hk:f l[k]=true):idx f l=k:=by
 unfold idx
 rw[List.findIdx?_eq_some_iff_getElem.2 ⟨h,hk,fun j hj=>by simpa using hp j (by omega) hj⟩]
theorem mW {α:Type} (f:α→Bool) (l:List α) (hp:∀i (h:i<l.length),f l[i]=false):idx f l = -1:=by
 unfold idx
 rw[List.findIdx?_eq_none_iff.2 fun x hx=>by
  obtain⟨i,hi,rfl⟩:=List.mem_iff_getElem.1 hx
  exact hp i hi]
theorem DC {α:Type} (f:α→Bool) (l:List α):(idx f l = -1∧∀i (h:i<l.length),f l[i]=false)∨∃k:Nat,∃h:k<l.length,idx f l=k∧f l[k]=true∧∀i (h:i<l.length),i<k→f l[i]=false:=by
 unfold idx
 cases e:l.findIdx? f with
 | none=>exact .inl ⟨rfl,fun i h=>List.findIdx?_eq_none_iff.1 e _ (List.getElem_mem h)⟩
 | some k=>
  obtain⟨h,hk,hp⟩:=List.findIdx?_eq_some_iff_getElem.1 e
  exact .inr ⟨k,h,rfl,hk,fun i _ hi=>by simpa using hp i hi⟩
theorem kT {α:Type} (f:α→Bool) (l:List α):decide (0≤idx f l)=l.any f:=by
 rcases DC f l with ⟨e,h⟩|⟨k,hk,e,h,_⟩
 ·rw[e]
  symm
  simp only[show decide ((0:Int)≤-1)=false from rfl,List.any_eq_false]
  intro x hx
  obtain⟨i,hi,rfl⟩:=List.mem_iff_getElem.1 hx
  simpa using h i hi
 ·rw[e]
  symm
  simp only[show decide ((0:Int)≤(k:Int))=true from by simp,List.any_eq_true]
  exact⟨_,List.getElem_mem hk,h⟩
theorem upto {n k:Nat} {P:∀i,i<n→Prop} (hp:∀i (h:i<n),i<k→P i h) (hlt:k<n) (hk:P k hlt):∀i (h:i<n),i<k+1→P i h:=by
 intro i h hi
 by_cases e:i=k
 ·subst e;exact hk
 ·exact hp i h (by omega)
open Go.Maps
structure JC (D:DataW Unit) (f:Int→Bool):Prop where
 is:IsMap D
 at_:∀j:Int,D.atKey (.int .i64 j) (.lit (.bool false)) = .lit (.bool (f j))
theorem JC.empty:JC (.map []) (fun _=>false):=⟨isMap_empty,fun j=>rfl⟩
theorem JC.put {D:DataW Unit} {f:Int→Bool} (h:JC D f) (k:Int):JC (D.put (.int .i64 k) (.lit (.bool true))) (fun j=>f j||decide (j=k)):=by
 refine⟨h.is.put _ _,fun j => ?_⟩
 by_cases e:j=k
 ·subst e
  rw[atKey_put_same h.is (by trivial)]
  simp
 ·rw[atKey_put_other (by intro e2;exact e (by cases e2;rfl)),h.at_ j]
  simp[e]
def bV (n:Int):Int:=if n≤0 then 0 else (n-1) / 8+1
def kF (n:Int):Bool:=decide (n<0)||decide (1000<n)
def dU (l:List Int):Int:=if 60<l.length then 4 else if l.any kF then 3 else 0
def yH (n:Int):List Int:=if 0≤n∧n≤60 then List.replicate n.toNat 0 else []
def xP (n:Int):Int:=if 0≤n∧n≤60 then 0 else 4
theorem il {l:List Int} (h:dU l=0):l.length≤60:=by
 unfold dU at h
 split at h
 ·omega
 ·omega
structure qm where
 blocks:List Page
 queue:List (Int × Page)
def zPg:Page:=#v[0,0,0,0,0,0,0,0]
def mF (n:Nat) (q:Int × Page):Bool:=decide (q.1<0)||decide ((n:Int)≤q.1)
def bn (d:qm):Int:=if 80<d.blocks.length∨400<d.queue.length then 4 else if d.queue.any (mF d.blocks.length) then 3 else 0
def fB (d:qm) (at_:Int):Int:=if bn d≠0 then bn d else if at_<0∨d.blocks.length≤at_ then 3 else 0
def over (k:Int) (p:Page) (q:List (Int × Page)):Page:=q.foldl (fun p x=>if x.1=k then x.2 else p) p
theorem Dx (k:Int) (p:Page) (q:List (Int × Page)) (x:Int × Page):over k p (q++[x])=if x.1=k then x.2 else over k p q:=by simp[over,List.foldl_append]
theorem CJ (k:Int) (p:Page) (q:List (Int × Page)) (i:Nat) (h:i<q.length):over k p (q.take (i+1))=if q[i].1=k then q[i].2 else over k p (q.take i):=by
 rw[List.take_add_one,List.getElem?_eq_getElem h,Option.toList,Dx]
def iN (d:qm) (k:Int):Page:=if fB d k=0 then over k (d.blocks.getD k.toNat zPg) d.queue else zPg
theorem DI {d:qm} (h:bn d=0):d.blocks.length≤80∧d.queue.length≤400:=by
 unfold bn at h
 split at h
 ·omega
 ·omega
theorem DT {d:qm} (h:bn d=0) (i:Nat) (hi:i<d.queue.length):0≤d.queue[i].1∧d.queue[i].1<d.blocks.length:=by
 unfold bn at h
 split at h
 ·omega
 split at h
 ·omega
 rename_i h1
 have:=List.any_eq_false.1 (by simpa using h1) _ (List.getElem_mem hi)
 simp[mF] at this
 omega
def ny (n:Int):qm:=if 0≤n∧n≤80 then ⟨List.replicate n.toNat zPg,[]⟩ else ⟨[],[]⟩
def Ce (n:Int):Int:=if 0≤n∧n≤80 then 0 else 4
theorem jc (d:qm):bn d=0↔d.blocks.length≤80∧d.queue.length≤400∧∀x∈d.queue,0≤x.1∧x.1<d.blocks.length:=by
 unfold bn
 constructor
 ·intro h
  split at h
  ·omega
  split at h
  ·omega
  rename_i h1 h2
  refine⟨by omega,by omega,fun x hx => ?_⟩
  have:=List.any_eq_false.1 (by simpa using h2) x hx
  simp[mF] at this
  omega
 ·rintro⟨h1,h2,h3⟩
  rw[if_neg (by omega),if_neg]
  simp only[List.any_eq_true,not_exists,not_and]
  intro x hx
  have:=h3 x hx
  simp[mF]
  omega
theorem yX {d:qm} {k:Int}:fB d k=0↔bn d=0∧0≤k∧k<d.blocks.length:=by
 unfold fB
 constructor
 ·intro h
  split at h
  ·omega
  split at h
  ·omega
  ·omega
 ·rintro⟨h1,h2,h3⟩
  rw[if_neg (by omega),if_neg (by omega)]
def d3:qm:=⟨[zPg,zPg,zPg],[]⟩
structure Fr where
 p:Page
 r:Int
 u:Bool
 d:Bool
 f:Int
 i:Int
 deriving DecidableEq
def uP (f:Fr):Bool:=decide (f.r<0)||decide (1000<f.r)||decide (f.f < -1)||decide (5≤f.f)||decide (f.i<0)||decide (12≤f.i)
def vV (f:Fr):Bool:=decide (f.r=0)&&(f.u||f.d||decide (0≤f.f)||f.p != zPg)
def rJ (f:Fr):Bool:=decide (f.f<0)&&decide (f.i≠0)
def dh (f:Fr):Int:=if uP f=true then 3 else if vV f=true∨rJ f=true then 7 else 0
structure Mem where
 fs:List Fr
 hand:Int
 deriving DecidableEq
def firstEf:List Fr→Int
 | []=>0
 | f::r=>if dh f≠0 then dh f else firstEf r
theorem firstEf_at:∀(l:List Fr) (k:Nat) (hk:k<l.length),(∀i (h:i<l.length),i<k→dh l[i]=0)→dh l[k]≠0→firstEf l=dh l[k]
 | f::r,0,_,_,h=>by unfold firstEf;exact if_pos h
 | f::r,k+1,hk,hp,h=>by
  unfold firstEf
  rw[if_neg (fun hh=>hh (hp 0 (by simp) (by omega)))]
  exact firstEf_at r k (by simpa using hk) (fun i hi hik=>hp (i+1) (by simpa using hi) (by omega)) h
theorem firstEf_none:∀(l:List Fr),(∀i (h:i<l.length),dh l[i]=0)→firstEf l=0
 | [],_=>rfl
 | f::r,hp=>by
  unfold firstEf
  rw[if_neg (fun hh=>hh (hp 0 (by simp)))]
  exact firstEf_none r (fun i hi=>hp (i+1) (by simpa using hi))
def cZ (m:Mem):Int:=if 40<m.fs.length then 4 else if firstEf m.fs≠0 then firstEf m.fs else if m.hand<0∨(0<m.hand∧(m.fs.length:Int)≤m.hand) then 3 else 0
def fr0:Fr:=⟨zPg,0,false,false,0,0⟩
def frZ:Fr:=⟨zPg,0,false,false,-1,0⟩
def uI (n:Int):Mem:=if 0≤n∧n≤40 then ⟨List.replicate n.toNat frZ,0⟩ else ⟨[],0⟩
def BX (n:Int):Int:=if 0≤n∧n≤40 then 0 else 4
def noM:Mem:=⟨[],0⟩
theorem firstEf_all:∀(l:List Fr),firstEf l=0→∀f∈l,dh f=0
 | [],_,_,h=>by cases h
 | g::r,h,f,hf=>by
  unfold firstEf at h
  by_cases hg:dh g=0
  ·rw[if_neg (fun e=>e hg)] at h
   rcases List.mem_cons.1 hf with rfl|hf
   ·exact hg
   ·exact firstEf_all r h f hf
  ·rw[if_pos hg] at h
   exact absurd h hg
theorem eB (m:Mem):cZ m=0↔m.fs.length≤40∧(∀f∈m.fs,dh f=0)∧0≤m.hand∧(m.hand=0∨m.hand<m.fs.length):=by
 unfold cZ
 constructor
 ·intro h
  by_cases h1:40<m.fs.length
  ·rw[if_pos h1] at h;cases h
  ·rw[if_neg h1] at h
   by_cases h2:firstEf m.fs=0
   ·rw[if_neg (fun e=>e h2)] at h
    by_cases h3:m.hand<0∨(0<m.hand∧(m.fs.length:Int)≤m.hand)
    ·rw[if_pos h3] at h;cases h
    ·exact⟨by omega,firstEf_all _ h2,by omega,by omega⟩
   ·rw[if_pos h2] at h;exact absurd h h2
 ·rintro⟨h1,h2,h3,h4⟩
  rw[if_neg (by omega)]
  have h5:firstEf m.fs=0:=firstEf_none _ (fun i hi=>h2 _ (List.getElem_mem hi))
  rw[h5,if_neg (fun e=>e rfl),if_neg (by omega)]
theorem oV (f:Fr):dh f=0↔(0≤f.r∧f.r≤1000∧-1≤f.f∧f.f<5∧0≤f.i∧f.i<12)∧(f.r=0→f.u=false∧f.d=false∧f.f<0∧f.p=zPg)∧(f.f<0→f.i=0):=by
 unfold dh
 have hb:uP f=false↔(0≤f.r∧f.r≤1000∧-1≤f.f∧f.f<5∧0≤f.i∧f.i<12):=by
  simp only[uP,Bool.or_eq_false_iff,decide_eq_false_iff_not,Int.not_lt,Int.not_le]
  omega
 have hu:vV f=false↔(f.r=0→f.u=false∧f.d=false∧f.f<0∧f.p=zPg):=by
  unfold vV
  by_cases h:f.r=0
  ·simp[h,and_assoc]
  ·simp[h]
 have hf:rJ f=false↔(f.f<0→f.i=0):=by
  unfold rJ
  by_cases h:f.f<0
  ·simp[h]
  ·simp[h]
 rw[←hb,←hu,←hf]
 cases uP f<;>cases vV f<;>cases rJ f<;>simp
structure En where
 k:Int
 n:Int
 w:Bool
 deriving DecidableEq
def zEn:En:=⟨0,0,false⟩
abbrev Tb:=Vector (List En) 8
def cO (e:En):Int:=if e.k<0∨2<e.k then 1 else if e.n<0∨40≤e.n∧e.k=1∨60≤e.n then 3 else if e.k=0∧(e.n≠0∨e.w=true)∨e.k=2∧e.w=true then 7 else 0
def gG (h:List En):Int:=if h.length≠0∧h.length≠8 then 2 else if firstE (h.map cO)≠0 then firstE (h.map cO) else if 0<h.length∧h.any (fun e=>decide (e.k≠0))=false then 2 else 0
def bB (t:Tb):Int:=firstE (t.toList.map gG)
def nZ (h:List En) (k:Nat):Bool:=(h.take k).any (fun e=>decide (e.k≠0))
theorem Dm (h:List En):nZ h 0=false:=rfl
theorem vY (h:List En) (k:Nat) (hk:k<h.length):nZ h (k+1)=(nZ h k||decide (h[k].k≠0)):=by
 unfold nZ
 rw[List.take_add_one,List.any_append,List.getElem?_eq_getElem hk]
 simp
theorem ym (h:List En) (k:Nat) (hk:h.length≤k):nZ h k=h.any (fun e=>decide (e.k≠0)):=by
 unfold nZ
 rw[List.take_of_length_le hk]
theorem mV {t:Tb} (h:∀i (hi:i<8),gG t[i]=0):bB t=0:=kR fun i hi=>by simpa using h i (by simpa using hi)
theorem jS {t:Tb} (k:Nat) (hk:k<8) (h:∀i (hi:i<8),i<k→gG t[i]=0) (hne:gG t[k]≠0):bB t=gG t[k]:=by
 have:=nU (l:=t.toList.map gG) k (by simpa using hk) (fun i hi hik=>by simpa using h i (by simpa using hi) hik) (by simpa using hne)
 rw[bB,this];simp
theorem pG {h:List En} (h1:h.length≠0∧h.length≠8):gG h=2:=by unfold gG;rw[if_pos h1]
theorem pU {h:List En} (h1:h.length=0∨h.length=8) (k:Nat) (hk:k<h.length) (hp:∀i (hi:i<h.length),i<k→cO h[i]=0) (hne:cO h[k]≠0):gG h=cO h[k]:=by
 have:=nU (l:=h.map cO) k (by simpa using hk) (fun i hi hik=>by simpa using hp i (by simpa using hi) hik) (by simpa using hne)
 have e:firstE (h.map cO)=cO h[k]:=by rw[this];simp
 unfold gG;rw[if_neg (by omega),e,if_pos hne]
theorem nT {h:List En} (h1:h.length=0∨h.length=8) (hp:∀i (hi:i<h.length),cO h[i]=0):gG h=if 0<h.length∧h.any (fun e=>decide (e.k≠0))=false then 2 else 0:=by
 have:=kR (l:=h.map cO) (fun i hi=>by simpa using hp i (by simpa using hi))
 unfold gG;rw[if_neg (by omega),this,if_neg (by omega)]
def EP (t:Tb):Prop:=∀k (h:k<8),t[k].length*24≤140737488355328
def bS (t:Tb) (n:Int):En:=if h:0≤n∧n<64 then (if (t[n.toNat / 8]'(by omega)).length=8 then (t[n.toNat / 8]'(by omega)).getD (n.toNat%8) zEn else zEn) else zEn
theorem kr {t:Tb} {n:Int} (h:n<0∨64≤n):bS t n=zEn:=by unfold bS;rw[dif_neg (by omega)]
theorem pW {t:Tb} {q r:Nat} (hq:q<8) (hr:r<8):bS t ((8*q+r:Nat):Int)=if t[q].length=8 then t[q].getD r zEn else zEn:=by
 unfold bS
 rw[dif_pos (by omega)]
 have e1:(((8*q+r:Nat):Int).toNat / 8)=q:=by rw[Int.toNat_natCast];omega
 have e2:(((8*q+r:Nat):Int).toNat%8)=r:=by rw[Int.toNat_natCast];omega
 simp only[e1,e2]
theorem pX {n:Int} (h:0≤n∧n<64):∃q r:Nat,q<8∧r<8∧n=((8*q+r:Nat):Int)∧n / 8=(q:Int)∧n%8=(r:Int):=by
 refine⟨(n / 8).toNat,(n%8).toNat,by omega,by omega,by omega,by omega,by omega⟩
def oh (e:En):Bool:=decide (e.k≠0)
def kZ (t:Tb) (n:Int) (e:En):Int:=if bB t≠0 then bB t else if n<0∨64≤n then 3 else cO e
def Ja (h:List En):List En:=if h.any oh then h else []
def setH (h:List En) (r:Nat) (e:En):List En:=Ja ((if h.length=0 then List.replicate 8 zEn else h).set r e)
def zTb:Tb:=Vector.replicate 8 []
def mE (t:Tb) (n:Int) (e:En):Tb:=if h:(0≤n∧n<64)∧kZ t n e=0 then t.set (n.toNat / 8) (setH (t[n.toNat / 8]'(by omega)) (n.toNat%8) e) (by omega) else zTb
theorem Hl {t:Tb} {n:Int} {e:En} {q r:Nat} (h:kZ t n e=0) (hq:q<8) (hr:r<8) (hn:n=((8*q+r:Nat):Int)):mE t n e=t.set q (setH t[q] r e):=by
 unfold mE
 subst hn
 rw[dif_pos ⟨by omega,h⟩]
 have e1:(((8*q+r:Nat):Int).toNat / 8)=q:=by rw[Int.toNat_natCast];omega
 have e2:(((8*q+r:Nat):Int).toNat%8)=r:=by rw[Int.toNat_natCast];omega
 simp only[e1,e2]
theorem lF {h:List En} (h0:gG h=0):h.length=0∨h.length=8:=by
 by_cases e:h.length≠0∧h.length≠8
 ·rw[pG e] at h0;cases h0
 ·omega
theorem jq {t:Tb} (h:bB t=0) (k:Nat) (hk:k<8):gG t[k]=0:=by
 have key:∀(l:List Int),firstE l=0→∀x∈l,x=0:=by
  intro l
  induction l with
  | nil=>intro _ x hx;cases hx
  | cons y r ih=>
   intro h x hx
   by_cases e:y=0
   ·simp only[firstE,e,if_true] at h
    rcases List.mem_cons.1 hx with rfl|hx
    ·exact e
    ·exact ih h x hx
   ·simp only[firstE,e,if_false] at h
 exact key _ h _ (List.mem_map.2 ⟨t[k],by simp,rfl⟩)
def fw (t:Tb) (k:Nat):List Int:=((List.range k).filter fun n:Nat=>oh (bS t (n:Int))).map fun n:Nat=>(n:Int)
def aI (t:Tb):List Int:=fw t 64
theorem oK (t:Tb) (k:Nat):(fw t k).length≤k:=by
 unfold fw
 rw[List.length_map]
 exact Nat.le_trans (List.length_filter_le _ _) (by simp)
theorem yQ {t:Tb} {k:Nat} (h:oh (bS t (k:Int))=true):fw t (k+1)=fw t k++[(k:Int)]:=by
 unfold fw
 rw[List.range_succ,List.filter_append,List.map_append]
 simp[h]
theorem AV {t:Tb} {k:Nat} (h:oh (bS t (k:Int))=false):fw t (k+1)=fw t k:=by
 unfold fw
 rw[List.range_succ,List.filter_append,List.map_append]
 simp[h]
def xG (t:Tb) (kind k:Int) (n:Int):Bool:=decide ((bS t n).k≠kind)||decide ((bS t n).n≠k)
def BQ (t:Tb) (kind k:Int):List Int:=(aI t).filter fun n => !xG t kind k n
theorem ED {h:List En} {j c:Nat} (hj:j<h.length) (hc:c=0↔nZ h j=false) (h0:0≤h[j].k):((0<h[j].k)→(c+1=0↔nZ h (j+1)=false))∧(¬0<h[j].k→(c=0↔nZ h (j+1)=false)):=by
 rw[vY h j hj]
 constructor
 ·intro hp
  have:decide (h[j].k≠0)=true:=by simp;omega
  simp[this]
 ·intro hp
  have:decide (h[j].k≠0)=false:=by simp;omega
  simp[this,hc]
theorem Jo (f g:En):(f==g)=(f.k==g.k&&(f.n==g.n&&f.w==g.w)):=by
 cases f;cases g
 rw[Bool.eq_iff_iff]
 simp
def vX (t u:Tb):Bool:=decide (t=u)
theorem vS {t u:Tb} (k:Nat) (hk:k<8) (h:t[k]≠u[k]):vX t u=false:=by
 unfold vX
 rw[decide_eq_false_iff_not]
 rintro rfl
 exact h rfl
theorem ww {t u:Tb} (h:∀i (hi:i<8),t[i]=u[i]):vX t u=true:=by
 unfold vX
 rw[decide_eq_true_eq]
 exact Vector.ext h
def bu (t:Tb):List En:=(List.range 64).map fun n:Nat=>bS t (n:Int)
structure zW (t:Tb) (m:Nat) (l:List En):Prop where
 len:l.length=64
 at' : ∀n (h:n<64),l[n]?=some (if n<m then bS t (n:Int) else zEn)
theorem zW.start {t:Tb}:zW t 0 (List.replicate 64 zEn):=⟨List.length_replicate,fun n h=>by rw[List.getElem?_replicate,if_pos h,if_neg (Nat.not_lt_zero _)]⟩
theorem zW.step {t:Tb} {m:Nat} {l:List En} (h:zW t m l) (hm:m<64) {E:En} (hE:bS t (m:Int)=E):zW t (m+1) (l.set m E):=by
 refine⟨by simp[h.len],fun n hn => ?_⟩
 by_cases e:n=m
 ·subst e
  rw[List.getElem?_set_self (by rw[h.len];exact hn),if_pos (by omega),hE]
 ·rw[List.getElem?_set_ne (fun e2=>e e2.symm),h.at' n hn]
  congr 1
  by_cases e2:n<m
  ·rw[if_pos e2,if_pos (by omega)]
  ·rw[if_neg e2,if_neg (by omega)]
theorem qP {t:Tb} {q r:Nat} (hq:q<8) (hr:r<8) (h:t[q].length=0):bS t ((8*q+r:Nat):Int)=zEn:=by
 rw[pW hq hr,if_neg (by omega)]
theorem vQ {t:Tb} {q r:Nat} (hq:q<8) (hr:r<8) (h:t[q].length=8) {E:En} (hE:t[q][r]?=some E):bS t ((8*q+r:Nat):Int)=E:=by
 rw[pW hq hr,if_pos h,List.getD_eq_getElem?_getD,hE];rfl
theorem zW.skip {t:Tb} {q:Nat} {l:List En} (h:zW t (8*q) l) (hq:q<8) (h0:t[q].length=0):zW t (8*(q+1)) l:=by
 refine⟨h.len,fun n hn => ?_⟩
 rw[h.at' n hn]
 congr 1
 by_cases e2:n<8*q
 ·rw[if_pos e2,if_pos (by omega)]
 ·rw[if_neg e2]
  by_cases e3:n<8*(q+1)
  ·rw[if_pos e3]
   obtain⟨r,rfl⟩:∃r,n=8*q+r:=⟨n-8*q,by omega⟩
   exact (qP hq (by omega) h0).symm
  ·rw[if_neg e3]
theorem zW.fin {t:Tb} {l:List En} (h:zW t 64 l):l=bu t:=by
 apply List.ext_getElem?
 intro n
 unfold bu
 by_cases hn:n<64
 ·rw[h.at' n hn,if_pos hn];simp[hn]
 ·rw[List.getElem?_eq_none (by rw[h.len];omega),List.getElem?_eq_none (by simp;omega)]
def xZ (e:En):Bool:=decide (0<e.k)
def gz (l:List En) (i:Nat):List En:=(l.drop (8*i)).take 8
def gL (l:List En) (i:Nat):List En:=if (gz l i).any xZ then gz l i else []
def dC (l:List En):Tb:=Vector.ofFn fun i:Fin 8=>gL l i.val
def oo (l:List En) (i k:Nat):Bool:=((l.drop (8*i)).take k).any xZ
theorem zP {l:List En} (hl:l.length=64) {i k:Nat} (hi:i<8) (hk:k<8):∃E,l[8*i+k]?=some E∧(l.drop (8*i)).take (k+1)=(l.drop (8*i)).take k++[E]:=by
 refine⟨l[8*i+k]'(by omega),List.getElem?_eq_getElem (by omega),?_⟩
 rw[List.take_add_one,List.getElem?_drop,List.getElem?_eq_getElem (by omega)]
 rfl
theorem uN {l:List En} (hl:l.length=64) {i k:Nat} (hi:i<8) (hk:k≤8):((l.drop (8*i)).take k).length=k:=by
 simp;omega
structure wS (l:List En) (i:Nat) (h:List En) (t:Tb):Prop where
 lo:∀j (hj:j<8),j<i→t[j]=gL l j
 at' : ∀(hi:i<8),t[i]=h
 hi:∀j (hj:j<8),i<j→t[j]=[]
theorem wS.start {l:List En}:wS l 0 [] zTb:=⟨fun _ _ h=>absurd h (Nat.not_lt_zero _),fun _=>by simp[zTb],fun j hj _=>by simp[zTb]⟩
theorem wS.next {l:List En} {i:Nat} {t:Tb} (h:wS l i (gL l i) t) (hi:i<8):wS l (i+1) [] t:=by
 refine⟨fun j hj hji => ?_,fun h2=>h.hi _ h2 (by omega),fun j hj hji=>h.hi j hj (by omega)⟩
 by_cases e:j=i
 ·subst e;exact h.at' hj
 ·exact h.lo j hj (by omega)
theorem wS.set {l:List En} {i:Nat} {h h2:List En} {t:Tb} (hh:wS l i h t) (hi:i<8):wS l i h2 (t.set i h2):=
 ⟨fun j hj hji=>by rw[Vector.getElem_set_ne hi hj (by omega)];exact hh.lo j hj hji,fun _=>by simp,fun j hj hji=>by rw[Vector.getElem_set_ne hi hj (by omega)];exact hh.hi j hj hji⟩
theorem wS.fin {l:List En} {h:List En} {t:Tb} (hh:wS l 8 h t):t=dC l:=by
 apply Vector.ext
 intro i hi
 rw[hh.lo i hi hi]
 simp[dC]
theorem Ig {l:List En} {i:Nat} (h:oo l i 8=false):gL l i=[]:=by
 unfold gL gz
 unfold oo at h
 rw[h];rfl
theorem Ew {l:List En} {i:Nat} (h:oo l i 8=true):gL l i=(l.drop (8*i)).take 8:=by
 unfold gL gz
 unfold oo at h
 rw[h];rfl
structure Fi where
 n:Int
 b:List Int
 deriving DecidableEq
structure St where
 fs:List Fi
 count:Int
 deriving DecidableEq
theorem qU {n:Int} (h:n≤96):bV n≤12:=by unfold bV;split<;>omega
def dG (c:Int):List Int→List Int→Int
 | _,[]=>0
 | seen,b::r=>if b < -1∨c≤b then 3 else if 0≤b∧b∈seen then 7 else dG c (seen++[b]) r
def iH (c:Int):List Int→List Fi→Int
 | _,[]=>0
 | seen,f::r=>if f.n<0∨96<f.n then 3 else if (f.b.length:Int)≠bV f.n then 2 else if dG c seen f.b≠0 then dG c seen f.b else iH c (seen++f.b) r
theorem lQ (c:Int) (seen:List Int) (b:Int) (r:List Int):dG c seen (b::r)=if b < -1∨c≤b then 3 else if 0≤b∧b∈seen then 7 else dG c (seen++[b]) r:=rfl
def aO (s:St):Int:=if 5<s.fs.length∨s.count<0∨80<s.count then 4 else iH s.count [] s.fs
def kH (l:List Int) (j:Int):Bool:=decide (j∈l)
theorem uk (l:List Int) (b:Int):(fun i=>kH l i||decide (i=b))=kH (l++[b]):=by
 funext i
 unfold kH
 rw[Bool.eq_iff_iff]
 simp
theorem drop_at {α:Type} {l:List α} {k:Nat} {x:α} (h:l[k]?=some x):l.drop k=x::l.drop (k+1):=by
 have hk:=(List.getElem?_eq_some_iff.1 h).1
 rw[List.drop_eq_getElem_cons hk,(List.getElem?_eq_some_iff.1 h).2]
theorem take_at {α:Type} {l:List α} {k:Nat} {x:α} (h:l[k]?=some x):l.take (k+1)=l.take k++[x]:=by
 rw[List.take_add_one,h]
 rfl
def newE (n:Int):Int:=if n<0∨80<n then 4 else 0
def Ie (n:Int):Int:=if n<0∨80<n then 0 else n
def je (s:St):List Int:=s.fs.flatMap Fi.b
def iZ (s:St) (b:Int):Bool:=decide (b∈je s)
def zSt:St:=⟨[],0⟩
theorem iB {s:St} (h:aO s=0):s.fs.length≤5∧0≤s.count∧s.count≤80:=by
 unfold aO at h
 by_cases g:5<s.fs.length∨s.count<0∨80<s.count
 ·rw[if_pos g] at h;cases h
 ·omega
theorem tY {c:Int}:∀ {fs:List Fi} {seen:List Int},iH c seen fs=0→∀f∈fs,0≤f.n∧f.n≤96∧(f.b.length:Int)=bV f.n∧∀b∈f.b,-1≤b∧b<c
 | f0::r,seen,h,f,hf=>by
  unfold iH at h
  by_cases g1:f0.n<0∨96<f0.n
  ·rw[if_pos g1] at h;cases h
  ·rw[if_neg g1] at h
   by_cases g2:(f0.b.length:Int)≠bV f0.n
   ·rw[if_pos g2] at h;cases h
   ·rw[if_neg g2] at h
    by_cases g3:dG c seen f0.b≠0
    ·rw[if_pos g3] at h;exact absurd h g3
    ·rw[if_neg g3] at h
     rcases List.mem_cons.1 hf with rfl|hf
     ·refine⟨by omega,by omega,Classical.not_not.1 g2,?_⟩
      have key:∀(l:List Int) (sn:List Int),dG c sn l=0→∀b∈l,-1≤b∧b<c:=by
       intro l
       induction l with
       | nil=>intro _ _ b hb;cases hb
       | cons x r ih=>
        intro sn h b hb
        rw[lQ] at h
        by_cases k1:x < -1∨c≤x
        ·rw[if_pos k1] at h;cases h
        ·rw[if_neg k1] at h
         by_cases k2:0≤x∧x∈sn
         ·rw[if_pos k2] at h;cases h
         ·rw[if_neg k2] at h
          rcases List.mem_cons.1 hb with rfl|hb
          ·omega
          ·exact ih _ h b hb
      exact key _ _ (Classical.not_not.1 g3)
     ·exact tY h f hf
theorem lH {s:St} (h:aO s=0):∀f∈s.fs,0≤f.n∧f.n≤96∧(f.b.length:Int)=bV f.n∧∀b∈f.b,-1≤b∧b<s.count:=by
 have h1:=iB h
 unfold aO at h
 rw[if_neg (by omega)] at h
 exact tY h
def fileAt (s:St) (k:Int):Fi:=if 0≤k then s.fs.getD k.toNat ⟨0,[]⟩ else ⟨0,[]⟩
def nX (s:St) (k i:Int):Int:=(fileAt s k).b.getD i.toNat 0
def kG (l:List Int):List Int:=l.filter fun x=>decide (0≤x)
theorem uE (l m:List Int):kG (l++m)=kG l++kG m:=List.filter_append _ _
theorem jB {l:List Int} {x:Int}:x∈kG l↔x∈l∧0≤x:=by unfold kG;simp
theorem rz {c:Int}:∀ {l seen:List Int},dG c seen l=0↔(∀b∈l,-1≤b∧b<c)∧(kG l).Nodup∧∀b∈l,0≤b→¬b∈seen
 | [],seen=>by simp[dG,kG]
 | x::r,seen=>by
  rw[lQ]
  by_cases k1:x < -1∨c≤x
  ·rw[if_pos k1]
   refine⟨fun h=>(by cases h),fun h => ?_⟩
   have:=h.1 x List.mem_cons_self
   omega
  ·rw[if_neg k1]
   by_cases k2:0≤x∧x∈seen
   ·rw[if_pos k2]
    refine⟨fun h=>(by cases h),fun h=>absurd k2.2 (h.2.2 x List.mem_cons_self k2.1)⟩
   ·rw[if_neg k2,rz (l:=r)]
    have hp:kG (x::r)=if 0≤x then x::kG r else kG r:=by unfold kG;rw[List.filter_cons];simp
    rw[hp]
    constructor
    ·intro ⟨h1,h2,h3⟩
     refine⟨fun b hb => ?_,?_,fun b hb h0 hs => ?_⟩
     ·rcases List.mem_cons.1 hb with rfl|hb
      ·omega
      ·exact h1 b hb
     ·by_cases hx:0≤x
      ·rw[if_pos hx]
       refine List.nodup_cons.2 ⟨fun hm => ?_,h2⟩
       exact h3 x (jB.1 hm).1 hx (List.mem_append_right _ (List.mem_singleton.2 rfl))
      ·rw[if_neg hx];exact h2
     ·rcases List.mem_cons.1 hb with rfl|hb
      ·exact k2 ⟨h0,hs⟩
      ·exact h3 b hb h0 (List.mem_append_left _ hs)
    ·intro ⟨h1,h2,h3⟩
     refine⟨fun b hb=>h1 b (List.mem_cons_of_mem _ hb),?_,fun b hb h0 hs => ?_⟩
     ·by_cases hx:0≤x
      ·rw[if_pos hx] at h2;exact (List.nodup_cons.1 h2).2
      ·rw[if_neg hx] at h2;exact h2
     ·rcases List.mem_append.1 hs with hs|hs
      ·exact h3 b (List.mem_cons_of_mem _ hb) h0 hs
      ·rw[List.mem_singleton.1 hs] at hb h0
       rw[if_pos h0] at h2
       exact (List.nodup_cons.1 h2).1 (jB.2 ⟨hb,h0⟩)
def uZ (c:Int) (f:Fi):Prop:=0≤f.n∧f.n≤96∧(f.b.length:Int)=bV f.n∧∀b∈f.b,-1≤b∧b<c
theorem vT {c:Int}:∀ {fs:List Fi} {seen:List Int},iH c seen fs=0↔(∀f∈fs,uZ c f)∧(kG (fs.flatMap Fi.b)).Nodup∧∀b∈fs.flatMap Fi.b,0≤b→¬b∈seen
 | [],seen=>by simp[iH,kG]
 | f::r,seen=>by
  unfold iH
  by_cases g1:f.n<0∨96<f.n
  ·rw[if_pos g1]
   refine⟨fun h=>(by cases h),fun h => ?_⟩
   have:=h.1 f List.mem_cons_self
   unfold uZ at this
   omega
  ·rw[if_neg g1]
   by_cases g2:(f.b.length:Int)≠bV f.n
   ·rw[if_pos g2]
    exact⟨fun h=>(by cases h),fun h=>absurd (h.1 f List.mem_cons_self).2.2.1 g2⟩
   ·rw[if_neg g2,List.flatMap_cons,uE]
    by_cases g3:dG c seen f.b≠0
    ·rw[if_pos g3]
     refine⟨fun h=>absurd h g3,fun h=>absurd (rz.2 ⟨(h.1 f List.mem_cons_self).2.2.2,(List.nodup_append.1 h.2.1).1,fun b hb=>h.2.2 b (List.mem_append_left _ hb)⟩) g3⟩
    ·rw[if_neg g3,vT (fs:=r)]
     have g3':=rz.1 (Classical.not_not.1 g3)
     constructor
     ·intro ⟨h1,h2,h3⟩
      refine⟨fun x hx => ?_,List.nodup_append.2 ⟨g3'.2.1,h2,fun a ha b hb e => ?_⟩,fun b hb h0 hs => ?_⟩
      ·rcases List.mem_cons.1 hx with rfl|hx
       ·exact⟨by omega,by omega,Classical.not_not.1 g2,g3'.1⟩
       ·exact h1 x hx
      ·subst e
       exact h3 a (jB.1 hb).1 (jB.1 hb).2 (List.mem_append_right _ (jB.1 ha).1)
      ·rcases List.mem_append.1 hb with hb|hb
       ·exact g3'.2.2 b hb h0 hs
       ·exact h3 b hb h0 (List.mem_append_left _ hs)
     ·intro ⟨h1,h2,h3⟩
      obtain⟨n1,n2,n3⟩:=List.nodup_append.1 h2
      refine⟨fun x hx=>h1 x (List.mem_cons_of_mem _ hx),n2,fun b hb h0 hs => ?_⟩
      rcases List.mem_append.1 hs with hs|hs
      ·exact h3 b (List.mem_append_right _ hb) h0 hs
      ·exact n3 b (jB.2 ⟨hs,h0⟩) b (jB.2 ⟨hb,h0⟩) rfl
theorem kK {s:St}:aO s=0↔(s.fs.length≤5∧0≤s.count∧s.count≤80)∧(∀f∈s.fs,uZ s.count f)∧(kG (je s)).Nodup:=by
 unfold aO
 by_cases g:5<s.fs.length∨s.count<0∨80<s.count
 ·rw[if_pos g]
  exact⟨fun h=>(by cases h),fun h=>by omega⟩
 ·rw[if_neg g,vT]
  exact⟨fun h=>⟨by omega,h.1,h.2.1⟩,fun h=>⟨h.2.1,h.2.2,fun b _ _ hm=>by cases hm⟩⟩
def mK (N:Nat) (seen:List Int):List Bool:=(List.range N).map fun i:Nat=>decide ((i:Int)∈seen)
theorem qa (N:Nat) (seen:List Int):(mK N seen).length=N:=by simp[mK]
theorem Gq (N:Nat):mK N []=List.replicate N false:=by
 apply List.ext_getElem?
 intro i
 unfold mK
 by_cases hi:i<N
 ·simp[hi,List.getElem?_replicate]
 ·rw[List.getElem?_eq_none (by simp;omega),List.getElem?_eq_none (by simp;omega)]
theorem xu (N:Nat) (seen:List Int) (i:Nat) (hi:i<N):(mK N seen)[i]?=some (decide ((i:Int)∈seen)):=by simp[mK,hi]
theorem FE (N:Nat) (seen:List Int) (x:Int) (hx:x<0):mK N (seen++[x])=mK N seen:=by
 unfold mK
 apply List.map_congr_left
 intro i _
 have:¬(i:Int)=x:=by omega
 simp[this]
theorem Gu (N:Nat) (seen:List Int) (X:Nat) (hX:X<N):(mK N seen).set X true=mK N (seen++[(X:Int)]):=by
 apply List.ext_getElem?
 intro i
 by_cases hi:i<N
 ·rw[xu N _ i hi,List.getElem?_set]
  by_cases e:X=i
  ·subst e
   rw[if_pos rfl,if_pos (by rw[qa];exact hi)]
   simp
  ·rw[if_neg e,xu N _ i hi]
   have:¬(i:Int)=(X:Int):=by omega
   simp[this]
 ·rw[List.getElem?_eq_none (by simp[qa];omega),List.getElem?_eq_none (by simp[qa];omega)]
structure Ar where
 fr:Int
 en:Int
 rd:Bool
 wr:Bool
 sh:Bool
 fi:Int
 ba:Int
 deriving DecidableEq
def aH (a:Ar):Int:=if a.fr<0∨a.en≤a.fr∨64<a.en∨a.fi < -1∨5≤a.fi∨a.ba<0 then 3 else if (a.fi<0∧(a.ba≠0∨a.sh=true))∨0≤a.fi∧12-(a.en-a.fr)<a.ba then 7 else 0
def fq (a:Ar):Int:=if 0≤a.fi then a.ba+a.en-a.fr else 0
def bv (a b:Ar):Bool:=a.en==b.fr&&a.rd==b.rd&&a.wr==b.wr&&a.sh==b.sh&&a.fi==b.fi&&b.ba==fq a
def sD (a:Ar):Prop:=(0≤a.ba∧a.ba≤12)∧(0≤a.fr∧a.fr≤64)∧0≤a.en∧a.en≤64
theorem aS {a:Ar} (h:aH a=0):sD a∧a.fr<a.en∧-1≤a.fi∧a.fi<5∧(a.fi<0→a.ba=0∧a.sh=false)∧(0≤a.fi→a.ba≤12-(a.en-a.fr)):=by
 unfold aH at h
 split at h
 ·omega
 ·rename_i h1
  split at h
  ·omega
  ·rename_i h2
   have hs:a.fi<0→a.ba=0∧a.sh=false:=fun hf=>⟨Decidable.byContradiction fun h=>h2 (.inl ⟨hf,.inl h⟩),by
    cases hsh:a.sh
    ·rfl
    ·exact absurd (.inl ⟨hf,.inr hsh⟩) h2⟩
   have hb:0≤a.fi→a.ba≤12-(a.en-a.fr):=fun hf=>by omega
   unfold sD
   refine⟨⟨⟨by omega,?_⟩,by omega,by omega,by omega⟩,by omega,by omega,by omega,hs,hb⟩
   by_cases hf:a.fi<0
   ·have:=(hs hf).1;omega
   ·have:=hb (by omega);omega
def eQ (p:Option Ar) (i:Nat):List Ar→Int × Int
 | []=>(0,0)
 | a::r=>if aH a≠0 then (aH a,i) else if (match p with | some q=>decide (a.fr<q.en)||bv q a | none=>false) then (2,i) else eQ (some a) (i+1) r
def aR (l:List Ar):Int × Int:=if 16<l.length then (4,0) else eQ none 0 l
def jA (l:List Ar) (k:Nat):Option Ar:=if k=0 then none else l[k-1]?
theorem um {l:List Ar} {k:Nat} (hk:k<l.length):jA l (k+1)=some l[k]:=by simp[jA,hk]
def mr (p:Option Ar) (a:Ar):Bool:=match p with | some q=>decide (a.fr<q.en)||bv q a | none=>false
theorem iG (p:Option Ar) (i:Nat) (a:Ar) (r:List Ar):eQ p i (a::r)=if aH a≠0 then (aH a,(i:Int)) else if mr p a then (2,(i:Int)) else eQ (some a) (i+1) r:=rfl
theorem lY {l:List Ar} {k:Nat} (hlt:k<l.length) (he:aH l[k]=0) (hno:mr (jA l k) l[k]=false):eQ (jA l k) k (l.drop k)=eQ (jA l (k+1)) (k+1) (l.drop (k+1)):=by
 rw[List.drop_eq_getElem_cons hlt,iG,if_neg (by rw[he];simp),hno,um hlt]
 rfl
theorem lX {l:List Ar} {k:Nat} (hlt:k<l.length) (he:aH l[k]=0) (hno:mr (jA l k) l[k]=true):eQ (jA l k) k (l.drop k)=(2,(k:Int)):=by
 rw[List.drop_eq_getElem_cons hlt,iG,if_neg (by rw[he];simp),hno]
 rfl
theorem wm {l:List Ar} {k:Nat} (hlt:k<l.length) (he:aH l[k]≠0):eQ (jA l k) k (l.drop k)=(aH l[k],(k:Int)):=by
 rw[List.drop_eq_getElem_cons hlt,iG,if_pos he]
theorem zL {l:List Ar} {m:Nat} (hm:m+1<l.length):mr (jA l (m+1)) l[m+1]=(decide (l[m+1].fr<l[m].en)||bv l[m] l[m+1]):=by
 rw[um (show m<l.length by omega)]
 rfl
def iV (n:Int) (a:Ar):Bool:=decide (a.fr≤n)&&decide (n<a.en)
def fD (l:List Ar) (n:Int):Int:=idx (iV n) l
def jF (b a:Ar):Bool:=decide (a.fr<b.en)&&decide (b.fr<a.en)
def qG (b a:Ar):Bool:=decide (b.fr<a.fr)
def zAr:Ar:=⟨0,0,false,false,false,0,0⟩
def qd (acc:List Ar) (a:Ar):List Ar:=match acc.getLast? with
 | some q=>if bv q a then acc.set (acc.length-1) { q with en:=a.en } else acc++[a]
 | none=>acc++[a]
def kQ (l:List Ar):List Ar:=l.foldl qd []
theorem jO {l:List Ar} (h:(aR l).1=0):l.length≤16∧∀a∈l,aH a=0:=by
 unfold aR at h
 split at h
 ·exact absurd h (by decide)
 ·refine⟨by omega,?_⟩
  have key:∀(l:List Ar) (p:Option Ar) (i:Nat),(eQ p i l).1=0→∀a∈l,aH a=0:=by
   intro l
   induction l with
   | nil=>intro p i _ a ha;cases ha
   | cons b r ih=>
    intro p i h a ha
    rw[iG] at h
    split at h
    ·rename_i hb;exact absurd h hb
    ·rename_i hb
     split at h
     ·exact absurd (show (2:Int)=0 from h) (by decide)
     ·rcases List.mem_cons.1 ha with rfl|ha
      ·exact Decidable.byContradiction hb
      ·exact ih _ _ h a ha
  exact key l none 0 h
def Jk (l:List Ar) (x:Ar):Nat:=match l.findIdx? (qG x) with
 | some k=>k
 | none=>l.length
def uM (l:List Ar) (x:Ar):List Ar:=l.take (Jk l x)++x::l.drop (Jk l x)
def rE (l:List Ar) (x:Ar):Int:=if (aR l).1≠0 then (aR l).1 else if aH x≠0 then aH x else if l.any (jF x)=true then 6 else if 16<(kQ (uM l x)).length then 4 else 0
def oI (l:List Ar) (x:Ar):List Ar:=if rE l x≠0 then [] else kQ (uM l x)
theorem xA {l:List Ar} {x:Ar} {e:Int} (h:rE l x=e) (he:e≠0):rE l x=e∧oI l x=[]:=by
 refine⟨h,?_⟩
 unfold oI;rw[if_pos (by rw[h];exact he)]
def ve (n:Nat):Int:=if 16<n then 4 else 0
def aa:Ar:=⟨2,8,true,false,false,-1,0⟩
structure Pg where
 rd:Bool
 wr:Bool
 sh:Bool
 fi:Int
 pg:Int
 deriving DecidableEq
def fF (a:Ar) (n:Int):Pg:=⟨a.rd,a.wr,a.sh,a.fi,if 0≤a.fi then a.ba+n-a.fr else 0⟩
def onA:List Ar→Int→Option Pg
 | [],_=>none
 | a::r,n=>if iV n a then some (fF a n) else onA r n
theorem bH {n:Int} {a:Ar}:iV n a=true↔a.fr≤n∧n<a.en:=by unfold iV;simp
theorem bq (a:Ar) (r:List Ar) (n:Int):onA (a::r) n=if iV n a then some (fF a n) else onA r n:=rfl
theorem xn (l m:List Ar) (n:Int):onA (l++m) n=(onA l n).or (onA m n):=by
 induction l with
 | nil=>simp[onA]
 | cons a r ih=>rw[List.cons_append,bq,bq];split<;>simp[ih]
def srtF:Int→List Ar→Prop
 | _,[]=>True
 | lo,a::r=>aH a=0∧lo≤a.fr∧srtF a.en r
theorem srtF_ok:∀ {l:List Ar} {lo:Int},srtF lo l→∀a∈l,aH a=0∧lo≤a.fr
 | b::r,lo,h,a,ha=>by
  rcases List.mem_cons.1 ha with rfl|ha
  ·exact⟨h.1,h.2.1⟩
  ·have h1:=srtF_ok h.2.2 a ha
   have h2:=(aS h.1).2.1
   have h3:=h.2.1
   exact⟨h1.1,by omega⟩
theorem on_low:∀ {l:List Ar} {lo n:Int},srtF lo l→n<lo→onA l n=none
 | [],_,_,_,_=>rfl
 | a::r,lo,n,h,hn=>by
  have h1:=h.2.1
  have h2:=(aS h.1).2.1
  rw[bq,if_neg (by rw[bH];omega)]
  exact on_low h.2.2 (by omega)
def okF (p:Option Ar):List Ar→Prop
 | []=>True
 | a::r=>aH a=0∧mr p a=false∧okF (some a) r
theorem pM {q a:Ar}:mr (some q) a=false↔q.en≤a.fr∧bv q a=false:=by
 unfold mr
 simp
theorem okF_srt:∀ {l:List Ar} {q:Ar},okF (some q) l→srtF q.en l
 | [],_,_=>trivial
 | a::r,q,h=>⟨h.1,(pM.1 h.2.1).1,okF_srt h.2.2⟩
theorem fZ {l:List Ar} (h:okF none l):srtF 0 l:=by
 match l,h with
 | [],_=>trivial
 | a::r,h=>exact⟨h.1,by have:=(aS h.1).1.2.1.1;exact this,okF_srt h.2.2⟩
theorem wrongAt_iff:∀ {l:List Ar} {p:Option Ar} {i:Nat},(eQ p i l).1=0↔okF p l
 | [],_,_=>⟨fun _=>trivial,fun _=>rfl⟩
 | a::r,p,i=>by
  rw[iG]
  by_cases h:aH a=0
  ·rw[if_neg (by rw[h];simp)]
   cases hb:mr p a
   ·rw[if_neg (by simp),wrongAt_iff]
    exact⟨fun h2=>⟨h,hb,h2⟩,fun h2=>h2.2.2⟩
   ·rw[if_pos rfl]
    refine⟨fun h2=>absurd (show (2:Int)=0 from h2) (by decide),fun h2 => ?_⟩
    have h3:=h2.2.1
    rw[hb] at h3
    cases h3
  ·rw[if_pos h]
   exact⟨fun h2=>absurd h2 h,fun h2=>absurd h2.1 h⟩
theorem eD {l:List Ar}:(aR l).1=0↔l.length≤16∧okF none l:=by
 unfold aR
 by_cases h:16<l.length
 ·rw[if_pos h]
  exact⟨fun h2=>absurd (show (4:Int)=0 from h2) (by decide),fun h2=>by omega⟩
 ·rw[if_neg h,wrongAt_iff]
  exact⟨fun h2=>⟨by omega,h2⟩,fun h2=>h2.2⟩
theorem lD {q a:Ar}:bv q a=true↔q.en=a.fr∧q.rd=a.rd∧q.wr=a.wr∧q.sh=a.sh∧q.fi=a.fi∧a.ba=fq q:=by
 unfold bv
 simp[and_assoc]
theorem Fu {q a:Ar} (h:bv q a=true) (n:Int):fF a n=fF q n:=by
 obtain⟨h1,h2,h3,h4,h5,h6⟩:=lD.1 h
 unfold fF fq at *
 rw[←h2,←h3,←h4,←h5]
 split
 ·rename_i hf;rw[h6,if_pos hf];congr 1;omega
 ·rfl
theorem on_uniq:∀ {l m:List Ar} {p q:Option Ar},okF p l→okF q m→(∀n,onA l n=onA m n)→l=m
 | [],[],_,_,_,_,_=>rfl
 | [],b::s,_,_,_,hm,h=>by
  have:=h b.fr
  rw[bq,if_pos (bH.2 ⟨Int.le_refl _,(aS hm.1).2.1⟩)] at this
  cases this
 | a::r,[],_,_,hl,_,h=>by
  have:=h a.fr
  rw[bq,if_pos (bH.2 ⟨Int.le_refl _,(aS hl.1).2.1⟩)] at this
  cases this
 | a::r,b::s,p,q,hl,hm,h=>by
  have ea:=aS hl.1
  have eb:=aS hm.1
  have sr:=okF_srt hl.2.2
  have ss:=okF_srt hm.2.2
  have half:∀ {a b:Ar} {r s:List Ar},aH a=0→aH b=0→srtF a.en r→srtF b.en s→(∀n,onA (a::r) n=onA (b::s) n)→¬a.fr<b.fr:=by
   intro a b r s ha hb hr hs h hlt
   have h1:=h a.fr
   have h2:=(aS ha).2.1
   have h3:=(aS hb).2.1
   rw[bq,if_pos (bH.2 ⟨Int.le_refl _,h2⟩),bq,if_neg (by rw[bH];omega),on_low hs (by omega)] at h1
   cases h1
  have hfr:a.fr=b.fr:=by
   have h1:=half hl.1 hm.1 sr ss h
   have h2:=half hm.1 hl.1 ss sr (fun n=>(h n).symm)
   omega
  have h1:=h a.fr
  rw[bq,if_pos (bH.2 ⟨Int.le_refl _,ea.2.1⟩),bq,if_pos (bH.2 ⟨by omega,by have:=eb.2.1;omega⟩)] at h1
  have hpg:=Option.some.inj h1
  unfold fF at hpg
  simp only[Pg.mk.injEq] at hpg
  obtain⟨g1,g2,g3,g4,g5⟩:=hpg
  have hba:a.ba=b.ba:=by
   by_cases hf:0≤a.fi
   ·rw[if_pos hf,if_pos (by omega)] at g5;omega
   ·rw[(ea.2.2.2.2.1 (by omega)).1,(eb.2.2.2.2.1 (by omega)).1]
  have half2:∀ {a b:Ar} {r s:List Ar},aH a=0→aH b=0→okF (some a) r→a.fr=b.fr→a.rd=b.rd→a.wr=b.wr→a.sh=b.sh→a.fi=b.fi→a.ba=b.ba→(∀n,onA (a::r) n=onA (b::s) n)→¬a.en<b.en:=by
   intro a b r s ha hb hr k1 k2 k3 k4 k5 k6 h hlt
   have h1:=h a.en
   have h2:=(aS ha).2.1
   rw[bq,if_neg (by rw[bH];omega),bq,if_pos (bH.2 ⟨by omega,hlt⟩)] at h1
   match r,hr with
   | [],_=>cases h1
   | c::t,hr=>
    have hc:=pM.1 hr.2.1
    rw[bq] at h1
    split at h1
    ·rename_i hin
     rw[bH] at hin
     have hp:=Option.some.inj h1
     unfold fF at hp
     simp only[Pg.mk.injEq] at hp
     obtain⟨g1,g2,g3,g4,g5⟩:=hp
     have:bv a c=true:=by
      rw[lD]
      refine⟨by omega,by rw[k2,g1],by rw[k3,g2],by rw[k4,g3],by omega,?_⟩
      unfold fq
      by_cases hf:0≤a.fi
      ·rw[if_pos (by omega),if_pos (by omega)] at g5
       rw[if_pos hf];omega
      ·rw[if_neg hf]
       exact ((aS hr.1).2.2.2.2.1 (by omega)).1
     rw[hc.2] at this
     cases this
    ·rename_i hin
     rw[bH] at hin
     have:=(aS hr.1).2.1
     rw[on_low (okF_srt hr.2.2) (by omega)] at h1
     cases h1
  have hen:a.en=b.en:=by
   have h1:=half2 hl.1 hm.1 hl.2.2 hfr g1 g2 g3 g4 hba h
   have h2:=half2 hm.1 hl.1 hm.2.2 hfr.symm g1.symm g2.symm g3.symm g4.symm hba.symm (fun n=>(h n).symm)
   omega
  have hab:a=b:=by
   cases a;cases b
   simp_all
  subst hab
  congr 1
  refine on_uniq hl.2.2 hm.2.2 fun n => ?_
  have h1:=h n
  rw[bq,bq] at h1
  split at h1
  ·rename_i hin
   rw[bH] at hin
   rw[on_low sr (by omega),on_low ss (by omega)]
  ·exact h1
def kY (q:Ar):List Ar→List Ar
 | []=>[q]
 | a::r=>if bv q a then kY { q with en:=a.en } r else q::kY a r
theorem zJ (init:List Ar) (q a:Ar):qd (init++[q]) a=if bv q a then init++[{ q with en:=a.en }] else init++[q]++[a]:=by
 unfold qd
 rw[List.getLast?_concat]
 simp only[]
 split
 ·simp
 ·rfl
theorem tidy_go:∀(r:List Ar) (init:List Ar) (q:Ar),r.foldl qd (init++[q])=init++kY q r
 | [],init,q=>rfl
 | a::r,init,q=>by
  rw[List.foldl_cons,zJ]
  unfold kY
  split
  ·exact tidy_go r init _
  ·rw[tidy_go r (init++[q]) a,List.append_assoc];rfl
theorem pI (a:Ar) (r:List Ar):kQ (a::r)=kY a r:=by
 unfold kQ
 rw[List.foldl_cons]
 exact tidy_go r [] a
theorem rR {q a:Ar} (hq:aH q=0) (ha:aH a=0) (h:bv q a=true):aH { q with en:=a.en }=0:=by
 obtain⟨h1,h2,h3,h4,h5,h6⟩:=lD.1 h
 have eq:=aS hq
 have ea:=aS ha
 unfold sD at eq ea
 unfold aH
 rw[if_neg (by simp only[];omega),if_neg]
 simp only[]
 rintro (⟨k1,k2⟩|⟨k1,k2⟩)
 ·have:=eq.2.2.2.2.1 k1
  rcases k2 with k2|k2
  ·exact k2 this.1
  ·rw[this.2] at k2;cases k2
 ·have h7:=ea.2.2.2.2.2 (by omega)
  unfold fq at h6
  rw[if_pos k1] at h6
  omega
theorem ER {q a:Ar} {r:List Ar} (hq:aH q=0) (ha:aH a=0) (h:bv q a=true) (n:Int):onA ({ q with en:=a.en }::r) n=onA (q::a::r) n:=by
 have hp:=Fu h n
 obtain⟨h1,_⟩:=lD.1 h
 have h2:=(aS hq).2.1
 have h3:=(aS ha).2.1
 rw[bq,bq,bq]
 have hpp:fF { q with en:=a.en } n=fF q n:=rfl
 by_cases c1:iV n q=true
 ·rw[if_pos c1,if_pos (by rw[bH] at c1 ⊢; simp only[];omega),hpp]
 ·rw[if_neg c1]
  by_cases c2:iV n a=true
  ·rw[if_pos c2,if_pos (by rw[bH] at c2 ⊢; simp only[];omega),hpp,hp]
  ·rw[if_neg c2,if_neg]
   rw[bH] at c1 c2 ⊢
   simp only[]
   omega
def Aa (x:Ar):List Ar→List Ar
 | []=>[x]
 | a::r=>if x.fr<a.fr then x::a::r else a::Aa x r
theorem sQ (x:Ar):∀l:List Ar,uM l x=Aa x l
 | []=>rfl
 | a::r=>by
  have ih:=sQ x r
  unfold uM Jk at ih ⊢
  unfold Aa
  rw[List.findIdx?_cons]
  by_cases h:x.fr<a.fr
  ·rw[if_pos h,if_pos (show qG x a=true from decide_eq_true h)]
   rfl
  ·rw[if_neg h,if_neg (show ¬qG x a=true by unfold qG;simpa using h)]
   cases hq:r.findIdx? (qG x) with
   | none=>rw[hq] at ih;simp only[Option.map_none] at *; rw[←ih];simp
   | some k=>rw[hq] at ih;simp only[Option.map_some] at *; rw[←ih];simp
theorem xw {x:Ar} (hx:aH x=0) (n:Int):∀ {l:List Ar} {lo:Int},srtF lo l→(∀a∈l,jF x a=false)→onA (Aa x l) n=if iV n x then some (fF x n) else onA l n
 | [],_,_,_=>rfl
 | a::r,lo,h,hm=>by
  unfold Aa
  split
  ·rfl
  ·rename_i hlt
   rw[bq,bq,xw hx n h.2.2 (fun b hb=>hm b (List.mem_cons_of_mem _ hb))]
   by_cases c1:iV n a=true
   ·rw[if_pos c1,if_pos c1]
    rw[if_neg]
    rw[bH] at c1 ⊢
    have hm1:=hm a List.mem_cons_self
    unfold jF at hm1
    have h2:=(aS hx).2.1
    have h3:=(aS h.1).2.1
    simp only[Bool.and_eq_false_iff,decide_eq_false_iff_not] at hm1
    omega
   ·rw[if_neg c1,if_neg c1]
theorem uR {x:Ar} (hx:aH x=0):∀ {l:List Ar} {lo:Int},srtF lo l→lo≤x.fr→(∀a∈l,jF x a=false)→srtF lo (Aa x l)
 | [],lo,_,hl,_=>⟨hx,hl,trivial⟩
 | a::r,lo,h,hl,hm=>by
  have hm1:=hm a List.mem_cons_self
  unfold jF at hm1
  have h2:=(aS hx).2.1
  have h3:=(aS h.1).2.1
  simp only[Bool.and_eq_false_iff,decide_eq_false_iff_not] at hm1
  unfold Aa
  split
  ·exact⟨hx,hl,h.1,by omega,h.2.2⟩
  ·rename_i hlt
   exact⟨h.1,h.2.1,uR hx h.2.2 (by omega) (fun b hb=>hm b (List.mem_cons_of_mem _ hb))⟩
theorem EY {a:Ar} (h:aH a=0) {k:Int} (hk:iV k a=true):0≤k∧k<64:=by
 have:=(aS h).1
 unfold sD at this
 rw[bH] at hk
 omega
theorem toList_map {α β:Type} (o:Option α) (f:α→β):(o.map f).toList=o.toList.map f:=by cases o<;>rfl
theorem yc (l:List Ar) (n:Int):(0≤fD l n)↔onA l n≠none:=by
 have h:=kT (iV n) l
 have h2:l.any (iV n)=true↔onA l n≠none:=by
  induction l with
  | nil=>simp[onA]
  | cons a r ih=>rw[List.any_cons,bq];cases iV n a<;>simp[ih (kT _ _)]
 rw[←h2,←h,decide_eq_true_eq]
 exact Iff.rfl
def oR (o:Option Pg):Bool:=match o with | some p=>p.rd | none=>false
def oW (o:Option Pg):Bool:=match o with | some p=>p.wr | none=>false
def oH (o:Option Pg):Bool:=match o with | some p=>p.sh | none=>false
def oF (o:Option Pg):Int:=match o with | some p=>p.fi | none=>0
def oP (o:Option Pg):Int:=match o with | some p=>p.pg | none=>0
def Cv (f:Nat→Option Pg):List (Option Pg):=(List.range 64).map f
theorem nP (f:Nat→Option Pg):(Cv f).length=64:=by simp[Cv]
theorem GX (f:Nat→Option Pg) (k:Nat) (x:Option Pg):(Cv f).set k x=Cv (fun i=>if i=k then x else f i):=by
 unfold Cv
 apply List.ext_getElem?
 intro i
 rw[List.getElem?_set]
 by_cases h:k=i
 ·subst h
  by_cases hk:k<64
  ·simp[hk]
  ·simp[hk]
 ·rw[if_neg h]
  by_cases hi:i<64
  ·simp[hi,Ne.symm h]
  ·simp[hi]
def f0:Nat→Option Pg:=fun _=>none
def zC (A:Ar) (K:Int) (f:Nat→Option Pg):Nat→Option Pg:=fun i=>if A.fr≤(i:Int)∧(i:Int)<K then some (fF A i) else f i
theorem CR (A:Ar) (f:Nat→Option Pg):zC A A.fr f=f:=by funext i;unfold zC;rw[if_neg (by omega)]
theorem Ep {A:Ar} {K:Nat} (hK:A.fr≤(K:Int)) (f:Nat→Option Pg):(fun i=>if i=K then some (fF A K) else zC A K f i)=zC A ((K:Int)+1) f:=by
 funext i
 unfold zC
 by_cases h:i=K
 ·subst h;rw[if_pos rfl,if_pos (by omega)]
 ·rw[if_neg h]
  by_cases c:A.fr≤(i:Int)∧(i:Int)<K
  ·rw[if_pos c,if_pos (by omega)]
  ·rw[if_neg c,if_neg (by omega)]
def aY (l:List Ar):Nat→Option Pg:=l.foldl (fun f A=>zC A A.en f) f0
theorem BH {l:List Ar} {k:Nat} (hk:k<l.length):aY (l.take (k+1))=zC l[k] l[k].en (aY (l.take k)):=by
 unfold aY
 rw[List.take_add_one,List.getElem?_eq_getElem hk,Option.toList_some,List.foldl_append]
 rfl
def jE (p q:Pg):Pg:=if 0≤p.fi then { q with pg:=q.pg+1 } else q
def gK (f:Nat→Option Pg) (k:Nat) (p:Pg):Bool:=match k with
 | 0=>false
 | m+1=>match f m with
  | some q=>jE p q==p
  | none=>false
def cK (k:Nat) (p:Pg):Ar:=⟨k,(k:Int)+1,p.rd,p.wr,p.sh,p.fi,p.pg⟩
def mM (l:List Ar) (e:Int):List Ar:=match l.getLast? with
 | some q=>l.set (l.length-1) { q with en:=e }
 | none=>l
def toA (f:Nat→Option Pg):Nat→List Ar
 | 0=>[]
 | k+1=>match f k with
  | none=>toA f k
  | some p=>if gK f k p then mM (toA f k) ((k:Int)+1) else toA f k++[cK k p]
theorem wy (l:List Ar) (e:Int):(mM l e).length=l.length:=by unfold mM;split<;>simp
theorem xy (f:Nat→Option Pg):∀k,(toA f k).length≤k
 | 0=>Nat.le_refl _
 | k+1=>by
  have ih:=xy f k
  unfold toA
  split
  ·omega
  ·split
   ·rw[wy];omega
   ·rw[List.length_append,List.length_singleton];omega
theorem FM (f:Nat→Option Pg) {m:Nat} {q:Pg} (h:f m=some q):0<(toA f (m+1)).length:=by
 have hall:∀k (q:Pg),f k=some q→0<(toA f (k+1)).length:=by
  intro k
  induction k with
  | zero=>intro q h;unfold toA;rw[h];simp[gK]
  | succ k ih=>
   intro q h
   rw[toA,h]
   simp only[]
   by_cases hs:gK f (k+1) q=true
   ·rw[if_pos hs,wy]
    cases hf:f k with
    | none=>
     have h2:gK f (k+1) q=false:=by simp only[gK,hf]
     rw[h2] at hs
     cases hs
    | some z=>exact ih z hf
   ·rw[if_neg hs,List.length_append,List.length_singleton];omega
 exact hall m q h
theorem Je (p q:Pg):(p==q)=(p.rd==q.rd&&(p.wr==q.wr&&(p.sh==q.sh&&(p.fi==q.fi&&p.pg==q.pg)))):=by
 cases p;cases q
 rw[Bool.eq_iff_iff]
 simp
theorem Eu {f:Nat→Option Pg} {k:Nat} (h:f k=none):toA f (k+1)=toA f k:=by rw[toA,h]
theorem Ee {f:Nat→Option Pg} {k:Nat} {p:Pg} (h:f k=some p) (hs:gK f k p=true):toA f (k+1)=mM (toA f k) ((k:Int)+1):=by
 rw[toA,h];simp only[];rw[if_pos hs]
theorem sK {f:Nat→Option Pg} {k:Nat} {p:Pg} (h:f k=some p) (hs:gK f k p=false):toA f (k+1)=toA f k++[cK k p]:=by
 rw[toA,h];simp only[];rw[hs];rfl
theorem zb {l:List Ar} {n:Nat} (hn:l.length=n+1) (e:Int):mM l e=l.set n { (l[n]'(by omega)) with en:=e }:=by
 unfold mM
 have:l.getLast?=some (l[n]'(by omega)):=by rw[List.getLast?_eq_getElem?,List.getElem?_eq_getElem (by omega)];simp[hn]
 rw[this];simp[hn]
theorem Dl {f:Nat→Option Pg} {k:Nat} (h:f k=none):toA f (k+1)=toA f k:=by rw[toA,h]
theorem IM {f:Nat→Option Pg} {k:Nat} {p:Pg} (h:f k=some p) (hs:gK f k p=true):toA f (k+1)=mM (toA f k) ((k:Int)+1):=by
 rw[toA,h];simp only[];rw[if_pos hs]
theorem Ed {f:Nat→Option Pg} {k:Nat} {p:Pg} (h:f k=some p) (hs:gK f k p=false):toA f (k+1)=toA f k++[cK k p]:=by
 rw[toA,h];simp only[];rw[hs];rfl
def Dc (p:Pg):Prop:=-1≤p.fi∧p.fi<5∧0≤p.pg∧(p.fi<0→p.pg=0∧p.sh=false)∧(0≤p.fi→p.pg≤11)
theorem sW {l:List Ar} {n:Int} (h:∀a∈l,a.en≤n):onA l n=none:=by
 induction l with
 | nil=>rfl
 | cons a r ih=>
  have:=h a List.mem_cons_self
  rw[bq,if_neg (by rw[bH];omega),ih (fun b hb=>h b (List.mem_cons_of_mem _ hb))]
theorem Ei {l:List Ar} {a:Ar} {n:Int} (h:a∈l) (hn:iV n a=true):onA l n≠none:=by
 induction l with
 | nil=>cases h
 | cons b r ih=>
  rw[bq]
  split
  ·simp
  ·rename_i hb
   rcases List.mem_cons.1 h with rfl|h
   ·exact absurd hn hb
   ·exact ih h
theorem yY {x y:Ar} (hy:aH y=0) (hb:∀p,mr p x=false→mr p y=false):∀ {l:List Ar} {p:Option Ar},okF p (l++[x])→okF p (l++[y])
 | [],p,h=>⟨hy,hb p h.2.1,trivial⟩
 | a::r,p,h=>⟨h.1,h.2.1,yY hy hb h.2.2⟩
theorem zG {x y:Ar} (hy:aH y=0) (hb:mr (some x) y=false):∀ {l:List Ar} {p:Option Ar},okF p (l++[x])→okF p (l++[x]++[y])
 | [],p,h=>⟨h.1,h.2.1,hy,hb,trivial⟩
 | a::r,p,h=>⟨h.1,h.2.1,zG hy hb h.2.2⟩
theorem qV {x:Ar}:∀ {l:List Ar} {p:Option Ar},okF p (l++[x])→aH x=0
 | [],p,h=>h.1
 | a::r,p,h=>qV h.2.2
theorem CW {k:Nat} (hk:k<64) {p:Pg} (hp:Dc p):aH (cK k p)=0:=by
 obtain⟨h1,h2,h3,h4,h5⟩:=hp
 unfold aH cK
 simp only[]
 rw[if_neg (by omega),if_neg]
 rintro (⟨a,b⟩|⟨a,b⟩)
 ·have:=h4 a
  rcases b with b|b
  ·exact b this.1
  ·rw[this.2] at b;cases b
 ·have:=h5 a;omega
theorem DU {a:Ar} {m:Nat} {p:Pg} (h:jE p (fF a m)=p):fF a ((m:Int)+1)=p:=by
 unfold jE at h
 by_cases hf:0≤p.fi
 ·rw[if_pos hf] at h
  have hfi:a.fi=p.fi:=by rw[←h];rfl
  rw[←h]
  unfold fF
  simp only[]
  rw[if_pos (by omega),if_pos (by omega)]
  congr 1;omega
 ·rw[if_neg hf] at h
  have hfi:a.fi=p.fi:=by rw[←h];rfl
  rw[←h]
  unfold fF
  rw[if_neg (by omega),if_neg (by omega)]
structure KC (f:Nat→Option Pg) (k:Nat):Prop where
 ok:okF none (toA f k)
 en:∀a∈toA f k,a.en≤(k:Int)
 on:∀i:Nat,i<k→onA (toA f k) i=f i
 last:∀m q,k=m+1→f m=some q→∃init a,toA f k=init++[a]∧a.en=(k:Int)∧a.fr≤(m:Int)∧fF a m=q
theorem FW {f:Nat→Option Pg} (hf:∀i p,i<64→f i=some p→Dc p):∀k,k≤64→KC f k
 | 0,_=>⟨trivial,fun a ha=>(by cases ha),fun i hi=>absurd hi (Nat.not_lt_zero _),fun m q h=>(by cases h)⟩
 | k+1,hk=>by
  have ih:=FW hf k (by omega)
  have he:=ih.en
  cases hfk:f k with
  | none=>
   have hst:=Dl hfk
   refine⟨by rw[hst];exact ih.ok,fun a ha=>by rw[hst] at ha;have:=he a ha;omega,fun i hi => ?_,fun m q hm hq => ?_⟩
   ·rw[hst]
    by_cases hik:i=k
    ·subst hik;rw[hfk];exact sW he
    ·exact ih.on i (by omega)
   ·obtain rfl:m=k:=by omega
    rw[hfk] at hq;cases hq
  | some p=>
   have hp:=hf k p (by omega) hfk
   cases hs:gK f k p
   ·have hst:=Ed hfk hs
    have hx:=CW (by omega:k<64) hp
    have hok:okF none (toA f (k+1)):=by
     rw[hst]
     rcases List.eq_nil_or_concat (toA f k) with h0|⟨init,a,h0⟩
     ·rw[h0];exact⟨hx,rfl,trivial⟩
     ·rw[List.concat_eq_append] at h0
      have hoka:=ih.ok
      have hon:=ih.on
      rw[h0] at hoka hon he ⊢
      have hae:=he a (List.mem_append_right _ List.mem_cons_self)
      refine zG hx (pM.2 ⟨hae,?_⟩) hoka
      cases hj:bv a (cK k p)
      ·rfl
      ·exfalso
       obtain⟨j1,j2,j3,j4,j5,j6⟩:=lD.1 hj
       have j1' : a.en=(k:Int):=j1
       have ha0:=qV hoka
       have hfr:=(aS ha0).1.2.1.1
       have hlt:=(aS ha0).2.1
       obtain⟨m,rfl⟩:∃m,k=m+1:=⟨k-1,by omega⟩
       have hin:iV (m:Int) a=true:=bH.2 ⟨by omega,by omega⟩
       cases hfm:f m with
       | none=>
        have h1:=hon m (by omega)
        rw[hfm] at h1
        exact Ei (List.mem_append_right _ List.mem_cons_self) hin h1
       | some q=>
        obtain⟨init',a',e1,e2,e3,e4⟩:=ih.last m q rfl hfm
        rw[h0] at e1
        have haa:a=a':=by
         have:=congrArg List.getLast? e1
         rw[List.getLast?_concat,List.getLast?_concat] at this
         exact Option.some.inj this
        subst haa
        have hsn:gK f (m+1) p=(jE p q==p):=by simp only[gK,hfm]
        rw[hsn] at hs
        have:jE p q=p:=by
         rw[←e4]
         have k2:a.rd=p.rd:=j2
         have k3:a.wr=p.wr:=j3
         have k4:a.sh=p.sh:=j4
         have k5:a.fi=p.fi:=j5
         have k6:p.pg=fq a:=j6
         unfold fq at k6
         clear hx hfk hp hst hj hs e4 j2 j3 j4 j5 j6 hsn
         cases p with
         | mk prd pwr psh pfi ppg=>
          have k2:a.rd=prd:=k2
          have k3:a.wr=pwr:=k3
          have k4:a.sh=psh:=k4
          have k5:a.fi=pfi:=k5
          have k6:ppg=if 0≤a.fi then a.ba+a.en-a.fr else 0:=k6
          subst k2 k3 k4 k5 k6
          unfold jE fF
          show (if 0≤a.fi then (⟨a.rd,a.wr,a.sh,a.fi,(if 0≤a.fi then a.ba+(m:Int)-a.fr else 0)+1⟩:Pg) else ⟨a.rd,a.wr,a.sh,a.fi,if 0≤a.fi then a.ba+(m:Int)-a.fr else 0⟩)=_
          by_cases hfi:0≤a.fi
          ·rw[if_pos hfi,if_pos hfi,if_pos hfi]
           congr 1
           omega
          ·rw[if_neg hfi,if_neg hfi,if_neg hfi]
        rw[this] at hs
        simp at hs
    refine⟨hok,fun a ha => ?_,fun i hi => ?_,fun m q hm hq => ?_⟩
    ·rw[hst] at ha
     rcases List.mem_append.1 ha with ha|ha
     ·have:=he a ha;omega
     ·rw[List.mem_singleton.1 ha];show (k:Int)+1≤_;omega
    ·rw[hst,xn]
     have hone:onA [cK k p] (i:Int)=if i=k then some p else none:=by
      rw[bq]
      by_cases hik:i=k
      ·subst hik
       rw[if_pos rfl,if_pos (show iV (i:Int) (cK i p)=true from bH.2 ⟨Int.le_refl _,by show (i:Int)<i+1;omega⟩)]
       unfold fF cK
       simp only[]
       congr 1
       obtain⟨_,_,_,h4,_⟩:=hp
       cases p with
       | mk rd wr sh fi pg=>
        simp only[Pg.mk.injEq,true_and]
        simp only[] at h4
        split
        ·omega
        ·exact (h4 (by omega)).1.symm
      ·rw[if_neg hik,if_neg]
       ·rfl
       ·rw[bH]
        show ¬((k:Int)≤i∧(i:Int)<k+1)
        omega
     rw[hone]
     by_cases hik:i=k
     ·subst hik
      rw[if_pos rfl,sW he,hfk];rfl
     ·rw[if_neg hik,ih.on i (by omega),Option.or_none]
    ·obtain rfl:m=k:=by omega
     rw[hfk] at hq
     cases hq
     refine⟨toA f m,cK m p,hst,by show (m:Int)+1=_;omega,Int.le_refl _,?_⟩
     unfold fF cK
     simp only[]
     obtain⟨_,_,_,h4,_⟩:=hp
     cases p with
     | mk rd wr sh fi pg=>
      simp only[Pg.mk.injEq,true_and]
      simp only[] at h4
      split
      ·omega
      ·exact (h4 (by omega)).1.symm
   ·have hst:=IM hfk hs
    obtain⟨m,rfl⟩:∃m,k=m+1:=by
     cases k with
     | zero=>cases hs
     | succ m=>exact⟨m,rfl⟩
    have hsn:gK f (m+1) p=(match f m with | some q=>jE p q==p | none=>false):=rfl
    rw[hsn] at hs
    cases hfm:f m with
    | none=>rw[hfm] at hs;cases hs
    | some q=>
     rw[hfm] at hs
     have hnx:jE p q=p:=by simpa using hs
     obtain⟨init,a,e1,e2,e3,e4⟩:=ih.last m q rfl hfm
     have hok:=ih.ok
     have hon:=ih.on
     rw[e1] at hok hon he hst
     have ha0:=qV hok
     have ef:=aS ha0
     rw[←e4] at hnx
     have hpk:=DU hnx
     have hset:mM (init++[a]) (((m+1:Nat):Int)+1)=init++[{ a with en:=((m+1:Nat):Int)+1 }]:=by
      unfold mM
      rw[List.getLast?_concat]
      simp
     rw[hset] at hst
     have hy:aH { a with en:=((m+1:Nat):Int)+1 }=0:=by
      unfold sD at ef
      have e5:=ef.2.2.2.2.1
      unfold aH
      simp only[]
      rw[if_neg (by omega),if_neg]
      rintro (⟨b1,b2⟩|⟨b1,b2⟩)
      ·have:=e5 b1
       rcases b2 with b2|b2
       ·exact b2 this.1
       ·rw[this.2] at b2;cases b2
      ·have h5:=hp.2.2.2.2
       rw[←hpk] at h5
       have h6:=h5 b1
       unfold fF at h6
       simp only[] at h6
       rw[if_pos b1] at h6
       omega
     have hinit:∀b∈init,b.en≤((m+1:Nat):Int):=fun b hb=>he b (List.mem_append_left _ hb)
     have hfi:∀n,fF { a with en:=((m+1:Nat):Int)+1 } n=fF a n:=fun n=>rfl
     refine⟨?_,fun b hb => ?_,fun i hi => ?_,fun m' q' hm' hq' => ?_⟩
     ·rw[hst]
      refine yY hy (fun z hz => ?_) hok
      cases z with
      | none=>rfl
      | some z=>exact hz
     ·rw[hst] at hb
      rcases List.mem_append.1 hb with hb|hb
      ·have:=hinit b hb;omega
      ·rw[List.mem_singleton.1 hb];show ((m+1:Nat):Int)+1≤_;omega
     ·rw[hst,xn]
      by_cases hik:i=m+1
      ·subst hik
       rw[sW hinit,bq,if_pos (bH.2 ⟨by show a.fr≤((m+1:Nat):Int);omega,by show ((m+1:Nat):Int)<((m+1:Nat):Int)+1;omega⟩),hfi,hfk]
       show some (fF a ((m+1:Nat):Int))=some p
       rw[show ((m+1:Nat):Int)=(m:Int)+1 by omega,hpk]
      ·have h1:=hon i (by omega)
       rw[xn] at h1
       rw[←h1]
       congr 1
       rw[bq,bq,hfi]
       by_cases c:iV (i:Int) a=true
       ·rw[if_pos c,if_pos (by rw[bH] at c ⊢; show a.fr≤(i:Int)∧(i:Int)<((m+1:Nat):Int)+1;omega)]
       ·rw[if_neg c,if_neg (by rw[bH] at c ⊢; show ¬(a.fr≤(i:Int)∧(i:Int)<((m+1:Nat):Int)+1);omega)]
     ·obtain rfl:m' = m+1:=by omega
      rw[hfk] at hq'
      cases hq'
      refine⟨init,_,hst,by show ((m+1:Nat):Int)+1=_;omega,by show a.fr≤_;omega,?_⟩
      rw[hfi,show ((m+1:Nat):Int)=(m:Int)+1 by omega,hpk]
theorem DR {f:Nat→Option Pg} (hf:∀i p,i<64→f i=some p→Dc p):okF none (toA f 64)∧∀n:Int,onA (toA f 64) n=if 0≤n∧n<64 then f n.toNat else none:=by
 have h:=FW hf 64 (Nat.le_refl _)
 refine⟨h.ok,fun n => ?_⟩
 by_cases hn:0≤n∧n<64
 ·rw[if_pos hn]
  have:=h.on n.toNat (by omega)
  rwa [show ((n.toNat:Nat):Int)=n by omega] at this
 ·rw[if_neg hn]
  cases ho:onA (toA f 64) n with
  | none=>rfl
  | some p=>
   exfalso
   have hs:=fZ h.ok
   by_cases h0:n<0
   ·rw[on_low hs h0] at ho;cases ho
   ·rw[sW (fun a ha=>by have:=h.en a ha;omega)] at ho;cases ho
theorem fold_on:∀ {l:List Ar} {lo:Int} (g:Nat→Option Pg),srtF lo l→∀i:Nat,(l.foldl (fun f A=>zC A A.en f) g) i=(onA l i).or (g i)
 | [],_,g,_,i=>by simp[onA]
 | a::r,lo,g,h,i=>by
  rw[List.foldl_cons,fold_on _ h.2.2,bq]
  by_cases c:iV (i:Int) a=true
  ·rw[if_pos c,on_low h.2.2 (bH.1 c).2]
   unfold zC
   rw[if_pos (bH.1 c)]
   rfl
  ·rw[if_neg c]
   unfold zC
   rw[if_neg (fun h=>c (bH.2 h))]
theorem iF {l:List Ar} {lo:Int} (h:srtF lo l) (i:Nat):aY l i=onA l i:=by
 unfold aY
 rw[fold_on _ h]
 simp[f0]
theorem Ch {a:Ar} (ha:aH a=0) {n:Int} (hn:iV n a=true):Dc (fF a n):=by
 have e:=aS ha
 unfold sD at e
 rw[bH] at hn
 have e5:=e.2.2.2.2.1
 have e6:=e.2.2.2.2.2
 unfold Dc fF
 simp only[]
 refine⟨by omega,by omega,by split<;>omega,fun h=>⟨by rw[if_neg (by omega)],(e5 h).2⟩,fun h=>by rw[if_pos h];have:=e6 h;omega⟩
theorem Gt {l:List Ar} {lo:Int} (h:srtF lo l) {n:Int} {p:Pg} (hp:onA l n=some p):Dc p:=by
 induction l generalizing lo with
 | nil=>cases hp
 | cons a r ih=>
  rw[bq] at hp
  split at hp
  ·rename_i hn;cases hp;exact Ch h.1 hn
  ·exact ih h.2.2 hp
theorem Au {f:Nat→Option Pg} {m:List Ar} (hm:okF none m) (hf:∀i:Nat,i<64→f i=onA m i):toA f 64=m:=by
 have hs:=fZ hm
 obtain⟨h1,h2⟩:=DR (f:=f) (fun i p hi hp=>Gt hs (by rw[←hf i hi];exact hp))
 refine on_uniq h1 hm fun n => ?_
 rw[h2]
 by_cases hn:0≤n∧n<64
 ·rw[if_pos hn,hf _ (by omega),show ((n.toNat:Nat):Int)=n by omega]
 ·rw[if_neg hn]
  symm
  cases ho:onA m n with
  | none=>rfl
  | some p=>
   exfalso
   have:∃a∈m,iV n a=true:=by
    have hh:=(yc m n).2 (by rw[ho];simp)
    have:=kT (iV n) m
    rw[show decide (0≤idx (iV n) m)=true from decide_eq_true hh] at this
    exact List.any_eq_true.1 this.symm
   obtain⟨a,ha,hin⟩:=this
   have:=EY (srtF_ok hs a ha).1 hin
   omega
theorem yZ {l:List Ar} {lo:Int} (h:srtF lo l):∀i p,aY l i=some p→0≤p.pg∧p.pg≤100:=by
 intro i p hp
 rw[iF h] at hp
 obtain⟨_,_,h3,h4,h5⟩:=Gt h hp
 refine⟨h3,?_⟩
 by_cases hf:p.fi<0
 ·rw[(h4 hf).1];decide
 ·have:=h5 (by omega);omega
def kX (x:Ar) (n:Nat) (f:Nat→Option Pg):Nat→Option Pg:=fun i=>if iV (i:Int) x=true∧i<n then some (fF x i) else f i
theorem BL (x:Ar) (f:Nat→Option Pg):kX x 0 f=f:=by funext i;unfold kX;rw[if_neg (by omega)]
theorem Hf (x:Ar) (n:Nat) (f:Nat→Option Pg):kX x n f n=f n:=by unfold kX;rw[if_neg (by omega)]
theorem Db {x:Ar} {n:Nat} (h:¬iV (n:Int) x=true) (f:Nat→Option Pg):kX x (n+1) f=kX x n f:=by
 funext i
 unfold kX
 by_cases c:i=n
 ·subst c;rw[if_neg (fun q=>h q.1),if_neg (fun q=>h q.1)]
 ·by_cases d:iV (i:Int) x=true∧i<n
  ·rw[if_pos d,if_pos ⟨d.1,by omega⟩]
  ·rw[if_neg d,if_neg (fun q=>d ⟨q.1,by omega⟩)]
theorem FQ {x:Ar} {n:Nat} (h:iV (n:Int) x=true) (f:Nat→Option Pg):(fun i=>if i=n then some (fF x n) else kX x n f i)=kX x (n+1) f:=by
 funext i
 unfold kX
 by_cases c:i=n
 ·subst c;rw[if_pos rfl,if_pos ⟨h,by omega⟩]
 ·rw[if_neg c]
  by_cases d:iV (i:Int) x=true∧i<n
  ·rw[if_pos d,if_pos ⟨d.1,by omega⟩]
  ·rw[if_neg d,if_neg (fun q=>d ⟨q.1,by omega⟩)]
theorem Fj (x:Ar) (i:Nat):aY [x] i=if iV (i:Int) x=true then some (fF x i) else none:=by
 unfold aY
 simp only[List.foldl_cons,List.foldl_nil]
 unfold zC f0
 by_cases c:iV (i:Int) x=true
 ·rw[if_pos c,if_pos (bH.1 c)]
 ·rw[if_neg c,if_neg (fun h=>c (bH.2 h))]
theorem Fw {l:List Ar} {x:Ar} {i:Int} (hx:iV i x=true) (hl:onA l i≠none):l.any (jF x)=true:=by
 have hh:=(yc l i).2 hl
 have:=kT (iV i) l
 rw[show decide (0≤idx (iV i) l)=true from decide_eq_true hh] at this
 obtain⟨a,ha,hin⟩:=List.any_eq_true.1 this.symm
 refine List.any_eq_true.2 ⟨a,ha,?_⟩
 rw[bH] at hx hin
 unfold jF
 rw[decide_eq_true (by omega),decide_eq_true (by omega)];rfl
theorem Hm {l:List Ar} {x:Ar} (hok:okF none l) (hx:aH x=0) (h:∀i:Nat,i<64→¬(iV (i:Int) x=true∧onA l i≠none)):l.any (jF x)=false:=by
 rw[List.any_eq_false]
 intro a ha hm
 have ha0:=(srtF_ok (fZ hok) a ha).1
 have e1:=aS ha0
 have e2:=aS hx
 unfold sD at e1 e2
 unfold jF at hm
 rw[Bool.and_eq_true,decide_eq_true_eq,decide_eq_true_eq] at hm
 refine h (max a.fr x.fr).toNat (by omega) ⟨bH.2 (by omega),Ei ha (bH.2 (by omega))⟩
theorem vv {e:En} (h:cO e=0):oh e=xZ e:=by
 unfold cO at h
 unfold oh xZ
 split at h
 ·cases h
 ·rename_i h1
  rw[Bool.eq_iff_iff]
  simp
  omega
theorem pO {h:List En} (h0:gG h=0):∀e∈h,cO e=0:=by
 intro e he
 obtain⟨i,hi,rfl⟩:=List.mem_iff_getElem.1 he
 have hl:=lF h0
 by_cases hne:∀j (hj:j<h.length),cO h[j]=0
 ·exact hne i hi
 ·exfalso
  have hf:firstE (h.map cO)≠0:=by
   intro hf
   apply hne
   intro j hj
   have key:∀(l:List Int),firstE l=0→∀x∈l,x=0:=by
    intro l
    induction l with
    | nil=>intro _ x hx;cases hx
    | cons y r ih=>
     intro h x hx
     by_cases e:y=0
     ·simp only[firstE,e,if_true] at h
      rcases List.mem_cons.1 hx with rfl|hx
      ·exact e
      ·exact ih h x hx
     ·simp only[firstE,e,if_false] at h
   exact key _ hf _ (List.mem_map.2 ⟨h[j],List.getElem_mem hj,rfl⟩)
  unfold gG at h0
  rw[if_neg (by omega),if_pos hf] at h0
  exact hf h0
theorem wM {t:Tb} {i:Nat} (hi:i<8) (h:gG t[i]=0):gz (bu t) i=if t[i].length=0 then List.replicate 8 zEn else t[i]:=by
 have hl:=lF h
 apply List.ext_getElem?
 intro r
 unfold gz bu
 rw[List.getElem?_take]
 by_cases hr:r<8
 ·rw[if_pos hr,List.getElem?_drop,List.getElem?_map,List.getElem?_range (by omega)]
  simp only[Option.map_some]
  rcases hl with hl|hl
  ·rw[if_pos hl,List.getElem?_replicate,if_pos hr,qP hi hr hl]
  ·rw[if_neg (by omega),List.getElem?_eq_getElem (by omega),vQ hi hr hl (List.getElem?_eq_getElem (by omega))]
 ·rw[if_neg hr,List.getElem?_eq_none]
  split
  ·simp;omega
  ·omega
theorem xN {h:List En} (h0:∀e∈h,cO e=0):h.any xZ=h.any oh:=by
 rw[Bool.eq_iff_iff]
 simp only[List.any_eq_true]
 constructor
 ·rintro⟨e,he,h1⟩;exact⟨e,he,by rw[vv (h0 e he)];exact h1⟩
 ·rintro⟨e,he,h1⟩;exact⟨e,he,by rw[←vv (h0 e he)];exact h1⟩
theorem Et {h:List En} (h0:gG h=0) (hl:h.length≠0):h.any oh=true:=by
 have h1:=nT (lF h0) (fun i hi=>pO h0 _ (List.getElem_mem hi))
 rw[h0] at h1
 by_cases hh:h.any (fun e=>decide (e.k≠0))=false
 ·rw[if_pos ⟨by omega,hh⟩] at h1;cases h1
 ·simpa[oh] using hh
theorem rY {t:Tb} {i:Nat} (hi:i<8) (h:gG t[i]=0):gL (bu t) i=t[i]:=by
 unfold gL
 rw[wM hi h]
 by_cases hl:t[i].length=0
 ·rw[if_pos hl]
  have:t[i]=[]:=List.eq_nil_of_length_eq_zero hl
  rw[this]
  decide
 ·rw[if_neg hl,xN (pO h),Et h hl]
  rfl
theorem uB {t:Tb} {n:Int} {e:En} (h:kZ t n e=0):mE t n e=dC ((bu t).set n.toNat e):=by
 have h0:bB t=0:=by
  unfold kZ at h
  by_cases hw:bB t=0
  ·exact hw
  ·rw[if_pos hw] at h;exact h
 have hn:0≤n∧n<64:=by
  unfold kZ at h
  rw[if_neg (by rw[h0];simp)] at h
  by_cases hn:n<0∨64≤n
  ·rw[if_pos hn] at h;cases h
  ·omega
 have he:cO e=0:=by
  unfold kZ at h
  rwa [if_neg (by rw[h0];simp),if_neg (by omega)] at h
 obtain⟨q,r,hq,hr,hnn,_,_⟩:=pX hn
 have hN:n.toNat=8*q+r:=by omega
 rw[Hl h hq hr hnn,hN]
 apply Vector.ext
 intro i hi
 simp only[dC,Vector.getElem_ofFn]
 have hh:=jq h0 i hi
 by_cases ei:i=q
 ·subst ei
  rw[Vector.getElem_set_self]
  have hp:gz ((bu t).set (8*i+r) e) i=(gz (bu t) i).set r e:=by
   apply List.ext_getElem?
   intro k
   have hlen:(bu t).length=64:=by simp[bu]
   by_cases hk:k<8
   ·unfold gz
    rw[List.getElem?_take,if_pos hk,List.getElem?_drop]
    by_cases ek:k=r
    ·subst ek
     rw[List.getElem?_set_self (by omega),List.getElem?_set_self (by simp;omega)]
    ·rw[List.getElem?_set_ne (by omega),List.getElem?_set_ne (fun h=>ek h.symm),List.getElem?_take,if_pos hk,List.getElem?_drop]
   ·rw[List.getElem?_eq_none (by simp[gz];omega),List.getElem?_eq_none (by simp[gz];omega)]
  unfold gL
  rw[hp,wM hi hh]
  unfold setH Ja
  rw[xN]
  intro x hx
  rcases List.mem_or_eq_of_mem_set hx with hx|rfl
  ·split at hx
   ·rw[(List.mem_replicate.1 hx).2];rfl
   ·exact pO hh x hx
  ·exact he
 ·rw[Vector.getElem_set_ne hq hi (fun h=>ei h.symm)]
  have hp:gz ((bu t).set (8*q+r) e) i=gz (bu t) i:=by
   apply List.ext_getElem?
   intro k
   unfold gz
   rw[List.getElem?_take,List.getElem?_take]
   by_cases hk:k<8
   ·rw[if_pos hk,if_pos hk,List.getElem?_drop,List.getElem?_drop,List.getElem?_set_ne (by omega)]
   ·rw[if_neg hk,if_neg hk]
  have:gL ((bu t).set (8*q+r) e) i=gL (bu t) i:=by unfold gL;rw[hp]
  rw[this,rY hi hh]
theorem DL {l m:List Int} (hlm:l.length=m.length) (h:∀i (hi:i<l.length),l[i]=m[i]'(by omega)):(l==m)=true:=by
 rw[beq_iff_eq]
 exact List.ext_getElem hlm fun i h1 h2=>h i h1
theorem Df {l m:List Int} (k:Nat) (h1:k<l.length) (h2:k<m.length) (h:l[k]≠m[k]):(l==m)=false:=by
 rw[beq_eq_false_iff_ne]
 rintro rfl
 exact h rfl
theorem qE (t:Tb) (k:Nat) (h:k<64):(bu t)[k]?=some (bS t (k:Int)):=by
 unfold bu;simp[h]
theorem ik (t:Tb):(bu t).length=64:=by simp[bu]
theorem Al (t:Tb):vX t t=true:=ww fun _ _=>rfl
theorem jr {t:Tb} (h:bB t=0) (n:Int):cO (bS t n)=0:=by
 by_cases hn:0≤n∧n<64
 ·obtain⟨q,r,hq,hr,rfl,_,_⟩:=pX hn
  rw[pW hq hr]
  split
  ·rename_i hl
   rw[List.getD_eq_getElem?_getD,List.getElem?_eq_getElem (by omega)]
   exact pO (jq h q hq) _ (List.getElem_mem _)
  ·rfl
 ·rw[kr (by omega)];rfl
theorem FY {e:En} (h:cO e=0) (h2:xZ e=false):e=zEn:=by
 have h3:=vv h
 rw[h2] at h3
 have hk:e.k=0:=by simpa[oh] using h3
 unfold cO at h
 obtain⟨k,n,w⟩:=e
 simp only at hk
 subst hk
 simp at h
 by_cases h4:n<0∨60≤n
 ·rw[if_pos h4] at h;cases h
 ·rw[if_neg h4] at h
  by_cases h5:¬n=0∨w=true
  ·rw[if_pos h5] at h;cases h
  ·simp only[not_or,Classical.not_not,Bool.not_eq_true] at h5
   obtain⟨rfl,rfl⟩:=h5
   rfl
theorem ul {l:List En} {i:Nat} {x:En} (h:x∈gz l i):x∈l:=List.mem_of_mem_drop (List.mem_of_mem_take h)
theorem yg {l:List En} (h:∀x∈l,cO x=0) (hl:l.length=64) {i:Nat} (hi:i<8):gG (gL l i)=0:=by
 unfold gL
 by_cases hp:(gz l i).any xZ=true
 ·rw[if_pos hp]
  have hlen:(gz l i).length=8:=uN hl hi (by omega)
  rw[nT (.inr hlen) (fun j hj=>h _ (ul (List.getElem_mem hj))),if_neg]
  rintro⟨_,h2⟩
  have h3:=xN (h:=gz l i) (fun x hx=>h x (ul hx))
  rw[hp] at h3
  have h4:(gz l i).any oh=false:=h2
  rw[h4] at h3
  cases h3
 ·rw[if_neg hp];rfl
theorem sj {l:List En} (h:∀x∈l,cO x=0) (hl:l.length=64):bB (dC l)=0:=
 mV fun i hi=>by simp only[dC,Vector.getElem_ofFn];exact yg h hl hi
theorem oC {l:List En} (h:∀x∈l,cO x=0) (hl:l.length=64) {n:Nat} (hn:n<64):bS (dC l) (n:Int)=l[n]'(by omega):=by
 obtain⟨q,r,hq,hr,hnn,_,_⟩:=pX (n:=(n:Int)) (by omega)
 have hn' : n=8*q+r:=by omega
 subst hn'
 rw[pW hq hr]
 simp only[dC,Vector.getElem_ofFn]
 unfold gL
 have hlen:(gz l q).length=8:=uN hl hq (by omega)
 have hget:(gz l q)[r]'(by omega)=l[8*q+r]'(by omega):=by simp[gz]
 by_cases hp:(gz l q).any xZ=true
 ·simp only[if_pos hp,if_pos hlen]
  rw[List.getD_eq_getElem?_getD,List.getElem?_eq_getElem (by omega),←hget]
  rfl
 ·simp only[if_neg hp]
  rw[if_neg (by decide),←hget]
  symm
  refine FY (h _ (ul (List.getElem_mem _))) ?_
  simp only[List.any_eq_true,not_exists,not_and,Bool.not_eq_true] at hp
  exact hp _ (List.getElem_mem _)
theorem oO {t:Tb} (h:bB t=0):dC (bu t)=t:=by
 apply Vector.ext
 intro i hi
 simp only[dC,Vector.getElem_ofFn]
 exact rY hi (jq h i hi)
theorem uD {l:List En} (h:∀x∈l,cO x=0) (hl:l.length=64):bu (dC l)=l:=by
 apply List.ext_getElem
 ·rw[ik,hl]
 ·intro i h1 h2
  have:=qE (dC l) i (by omega)
  rw[oC h hl (by omega),List.getElem?_eq_getElem h1] at this
  exact Option.some.inj this
theorem Fy {t:Tb} (h:bB t=0):∀x∈bu t,cO x=0:=by
 intro x hx
 obtain⟨i,hi,rfl⟩:=List.mem_map.1 hx
 exact jr h _
theorem lJ {t:Tb} {n:Int} {e:En} (h:kZ t n e=0):bB t=0∧(0≤n∧n<64)∧cO e=0:=by
 unfold kZ at h
 by_cases hw:bB t=0
 ·rw[if_neg (by rw[hw];simp)] at h
  by_cases hn:n<0∨64≤n
  ·rw[if_pos hn] at h;cases h
  ·rw[if_neg hn] at h
   exact⟨hw,by omega,h⟩
 ·rw[if_pos hw] at h;exact absurd h hw
theorem Cz {t:Tb} {n:Int} {e:En} (h1:bB t=0) (h2:0≤n∧n<64) (h3:cO e=0):kZ t n e=0:=by
 unfold kZ;rw[if_neg (by rw[h1];simp),if_neg (by omega),h3]
theorem xE {t:Tb} {n:Nat} {e:En} (h1:bB t=0) (h3:cO e=0):∀x∈(bu t).set n e,cO x=0:=by
 intro x hx
 rcases List.mem_or_eq_of_mem_set hx with hx|rfl
 ·exact Fy h1 x hx
 ·exact h3
theorem uK {t:Tb} {n:Int} {e:En} (h:kZ t n e=0):bB (mE t n e)=0:=by
 obtain⟨h1,h2,h3⟩:=lJ h
 rw[uB h]
 exact sj (xE h1 h3) (by rw[List.length_set,ik])
theorem FU {t:Tb} {n:Int} {e:En} (h:kZ t n e=0) (k:Int):bS (mE t n e) k=if k=n then e else bS t k:=by
 obtain⟨h1,h2,h3⟩:=lJ h
 rw[uB h]
 by_cases hk:0≤k∧k<64
 ·obtain⟨j,rfl⟩:=Int.eq_ofNat_of_zero_le hk.1
  rw[oC (xE h1 h3) (by rw[List.length_set,ik]) (by omega)]
  rw[List.getElem_set]
  by_cases e0:(j:Int)=n
  ·rw[if_pos (by omega),if_pos e0]
  ·rw[if_neg (by omega),if_neg e0]
   have:=qE t j (by omega)
   rw[List.getElem?_eq_getElem (by rw[ik];omega)] at this
   exact Option.some.inj this
 ·rw[if_neg (by omega),kr (by omega),kr (by omega)]
theorem EN (t:Tb):∀n∈aI t,0≤n∧n<64:=by
 intro n hn
 unfold aI fw at hn
 obtain⟨m,hm,rfl⟩:=List.mem_map.1 hn
 have:=List.mem_range.1 (List.mem_filter.1 hm).1
 omega
theorem zTb_right:bB zTb=0:=by decide
theorem Gv {m:Mem} {k:Nat} {f:Fr} (hw:cZ m=0) (hf:dh f=0):cZ ⟨m.fs.set k f,m.hand⟩=0:=by
 obtain⟨h1,h2,h3,h4⟩:=(eB m).1 hw
 rw[eB]
 simp only[List.length_set]
 refine⟨h1,fun g hg => ?_,h3,h4⟩
 rcases List.mem_or_eq_of_mem_set hg with h|rfl
 ·exact h2 g h
 ·exact hf
theorem uS {l:List Int} (h:dU l=0):∀x∈l,kF x=false:=by
 unfold dU at h
 split at h
 ·omega
 split at h
 ·omega
 ·rename_i h1
  intro x hx
  have:=List.any_eq_false.1 (by simpa using h1) x hx
  simpa using this
theorem wo {l:List Int} (hl:l.length≤60) (h:∀x∈l,kF x=false):dU l=0:=by
 unfold dU
 rw[if_neg (by omega),if_neg]
 simp only[List.any_eq_true,not_exists,not_and]
 intro x hx
 simp[h x hx]
theorem Am {l:List Int} (k:Nat) (x:Int) (h:dU l=0) (h0:0≤x) (h1:x≤1000):dU (l.set k x)=0:=by
 refine wo (by rw[List.length_set];exact il h) fun y hy => ?_
 rcases List.mem_or_eq_of_mem_set hy with hm|rfl
 ·exact uS h _ hm
 ·simp[kF];omega
theorem Hd {s:St} {x:Int} (h:iZ s x=false):¬x∈je s:=by
 unfold iZ at h
 simpa using h
structure Cc where
 f:Int
 i:Int
 k:Int
 deriving DecidableEq
def qN (c:Cc):Array Value:=#[.int .i64 c.f,.int .i64 c.i,.int .i64 c.k]
def jI (c:Cc):List Value:=(qN c).toList
theorem jg (c:Cc):(jI c).length=3:=rfl
structure Sp where
 lv:Bool
 ar:List Ar
 tb:Tb
 deriving DecidableEq
structure Ma where
 m:Mem
 sl:List Int
 sw:qm
 dk:qm
 st:St
 ca:List Cc
 sp:List Sp
def zCc:Cc:=⟨0,0,0⟩
def zSp:Sp:=⟨false,[],zTb⟩
def zMa:Ma:=⟨noM,[],⟨[],[]⟩,⟨[],[]⟩,zSt,[],[]⟩
def cnt (l:List Int) (k:Int):Nat:=l.countP fun x=>decide (x=k)
def trimB (m:Ma):Bool:=
 (List.range m.dk.blocks.length).all (fun b:Nat=>decide ((b:Int)∈je m.st)||decide (m.dk.blocks.getD b zPg=zPg))&&m.dk.queue.all fun q=>decide (q.1∈je m.st)
def fe (s:Sp):Int:=if (aR s.ar).1≠0 then (aR s.ar).1 else if bB s.tb≠0 then bB s.tb else if s.lv=false∧0<s.ar.length+(aI s.tb).length then 7 else 0
def dO (m:Ma):Int:=
 if cZ m.m≠0 then cZ m.m else if dU m.sl≠0 then dU m.sl else if bn m.sw≠0 then bn m.sw else if bn m.dk≠0 then bn m.dk else if aO m.st≠0 then aO m.st
 else if m.sw.blocks.length≠m.sl.length∨(m.dk.blocks.length:Int)≠m.st.count∨trimB m=false then 7
 else if 4<m.sp.length then 4 else firstE (m.sp.map fe)
def mO (m:Ma) (k:Int):Fr:=m.m.fs.getD k.toNat fr0
def kV (m:Ma) (p:Option Cc) (c:Cc):Int:=
 if c.f<0∨(m.st.fs.length:Int)≤c.f∨c.i<0∨((fileAt m.st c.f).b.length:Int)≤c.i∨c.k<0∨(m.m.fs.length:Int)≤c.k then 3
 else if (mO m c.k).r<1∨(mO m c.k).f≠c.f∨(mO m c.k).i≠c.i then 7
 else match p with
  | none=>0
  | some q=>if c.f<q.f∨q.f=c.f∧c.i≤q.i then 2 else 0
def ou (l:List Cc) (k:Nat):Option Cc:=if k=0 then none else l[k-1]?
def cachedE (m:Ma):Int:=firstE ((List.range m.ca.length).map fun k=>kV m (ou m.ca k) (m.ca.getD k zCc))
def aX (m:Ma) (s:Sp) (n:Int):Int:=
 if fD s.ar n<0 then 5 else
 let a:=s.ar.getD (fD s.ar n).toNat zAr
 let e:=bS s.tb n
 if e.k=2 then (if (m.sl.length:Int)≤e.n∨a.sh=true then 7 else 0)
 else if (m.m.fs.length:Int)≤e.n then 3 else
 let f:=mO m e.n
 let of:=decide (0≤a.fi)&&decide (f.f=a.fi)&&decide (f.i=a.ba+n-a.fr)
 if 0≤f.f∧of=false∨a.sh=true∧of=false∨a.sh=false∧of=true∧e.w=true∨e.w=true∧a.wr=false then 7
 else if f.f<0∧e.w=true∧1<f.r then 7 else 0
def gP (m:Ma):Int:=firstE (m.sp.flatMap fun s=>(aI s.tb).map (aX m s))
def iP (t:Tb) (l:List Int):List Int:=(l.filter fun n=>decide ((bS t n).k=1)).map fun n=>(bS t n).n
def swapT (t:Tb) (l:List Int):List Int:=(l.filter fun n => !decide ((bS t n).k=1)).map fun n=>(bS t n).n
def ky (m:Ma):List Int:=m.ca.map Cc.k++m.sp.flatMap fun s=>iP s.tb (aI s.tb)
def jy (m:Ma):List Int:=m.sp.flatMap fun s=>swapT s.tb (aI s.tb)
def fI (n:Nat) (l:List Int):List Int:=(List.range n).map fun i:Nat=>(cnt l i:Int)
def countB (m:Ma):Bool:=
 (List.range m.m.fs.length).all (fun i:Nat=>decide ((mO m i).r=cnt (ky m) i)&&(decide ((mO m i).f<0)||m.ca.any fun c=>decide (c.k=i)))&&decide (m.sl=fI m.sl.length (jy m))
def dV (m:Ma):Int:=if dO m≠0 then dO m else if cachedE m≠0 then cachedE m else if gP m≠0 then gP m else if countB m=true then 0 else 7
def dz (m:Ma) (f i:Int):Page:=
 match m.ca.find? fun c=>decide (c.f=f)&&decide (c.i=i) with
 | some c=>(mO m c.k).p
 | none=>if 0≤nX m.st f i then dE (iN m.dk (nX m.st f i)) ((fileAt m.st f).n-i*8) else zPg
def za (s:St) (f i:Int):Bool:=decide (bV (fileAt s f).n≤i)
structure Kp where
 m:Ma
 e:Int
def JS (k e:Int):Int:=if k=0 then e else k
def dM (m:Ma) (p:Nat):Sp:=m.sp.getD p zSp
def setTb (m:Ma) (p:Nat) (t:Tb):Ma:={ m with sp:=m.sp.set p { dM m p with tb:=t } }
def EJ (k:Kp) (p:Nat) (n:Int) (x:En):Kp:=
 if kZ (dM k.m p).tb n x=0 then ⟨setTb k.m p (mE (dM k.m p).tb n x),k.e⟩ else ⟨k.m,JS k.e (kZ (dM k.m p).tb n x)⟩
def DZ (f i:Int) (c:Cc):Bool:=decide (f<c.f)||(decide (c.f=f)&&decide (i≤c.i))
def zV (l:List Cc) (f i:Int):Nat:=(l.findIdx? (DZ f i)).getD l.length
def setFr (m:Ma) (f:Nat) (x:Fr):Ma:={ m with m:={ m.m with fs:=m.m.fs.set f x } }
def dL (m:Ma) (f:Nat):Fr:=m.m.fs.getD f fr0
def jW (m:Ma) (f i:Int):Page:=if 0≤nX m.st f i then dE (iN m.dk (nX m.st f i)) ((fileAt m.st f).n-i*8) else zPg
end Go.Proofs.Ytkjobhcnlppcnaa
namespace Pw
open Go Go.RowKit
theorem aQ {k:IntKind} {a b:Int} (h:a=b):Ending.returned (.int k a) = .returned (.int k b):=by rw[h]
theorem bD {a b:Bool} (h:a=b):Ending.returned (.bool a) = .returned (.bool b):=by rw[h]
theorem ag {w W w1:World} (h:Below w.heap.size w W) (hb:Below W.heap.size W w1):Below w.heap.size w w1:=
 h.trans (hb.mono h.size)
theorem dI (w:World) (o:Obj):w.heap.size≤(w.alloc o).heap.size:=((Below.refl 0 w).alloc (Nat.zero_le _) o).size
theorem cz {w:World} {B:Nat} (h:B≤w.heap.size) (o:Obj):B≤(w.alloc o).heap.size:=Nat.le_trans h (dI w o)
def aC (w:World) (b:Nat) (cs:Array Value) (T:TypeId):Prop:=w.heap[b]?=some (.cells cs T (0,0))
theorem aC.cell {w:World} {b:Nat} {cs:Array Value} {T:TypeId} (h:aC w b cs T):∀o,w.cell? ⟨b,o,none⟩=cs[o]?:=by
 intro o;unfold aC at h;simp[World.cell?,h]
theorem aC.free {w:World} {b:Nat} {cs:Array Value} {T:TypeId} (h:aC w b cs T):∀o,w.frozen? ⟨b,o,none⟩=false:=by
 intro o;unfold aC at h;simp[World.frozen?,h]
theorem aC.lt {w:World} {b:Nat} {cs:Array Value} {T:TypeId} (h:aC w b cs T):b<w.heap.size:=lt_of_block h
theorem aC.below {w w' : World} {b B:Nat} {cs:Array Value} {T:TypeId} (h:aC w b cs T) (hb:Below B w w') (hB:b<B):aC w' b cs T:=
 (hb.block b hB).trans h
theorem aC.ext {w w' : World} {b:Nat} {cs:Array Value} {T:TypeId} (h:aC w b cs T) (hb:Below w.heap.size w w'):aC w' b cs T:=h.below hb h.lt
theorem aC.new (w:World) (cs:Array Value) (T:TypeId):aC (w.alloc (.cells cs T)) w.heap.size cs T:=heap_alloc_new w _
theorem aC.alloc {w:World} {b:Nat} {cs:Array Value} {T:TypeId} (h:aC w b cs T) (o:Obj):aC (w.alloc o) b cs T:=(Below.heap_alloc w o b h.lt).trans h
theorem aC.drewN {w:World} {b:Nat} {cs:Array Value} {T:TypeId} (h:aC w b cs T) (n:Nat):aC (w.drewN n) b cs T:=h
def bW (w:World) (a:Option Addr) (vs:List Value):Prop:=
 ∀i u,vs[i]?=some u→∃b off,a=some ⟨b,off,none⟩∧w.cell? ⟨b,off+i,none⟩=some u
theorem bW.below {w w' : World} {a:Option Addr} {vs:List Value} (h:bW w a vs) (hb:Below w.heap.size w w'):bW w' a vs:=by
 intro i u hi
 obtain⟨b,off,ha,hc⟩:=h i u hi
 exact⟨b,off,ha,cell_later hb hc⟩
theorem bW.nil {w:World} {a:Option Addr}:bW w a []:=fun i u h=>by simp at h
theorem bW.at {w:World} {a:Option Addr} {vs:List Value} (h:bW w a vs) (hn:0<vs.length):∃b off,a=some ⟨b,off,none⟩∧∀i u,vs[i]?=some u→w.cell? ⟨b,off+i,none⟩=some u:=by
 obtain⟨b,off,rfl,hc⟩:=h 0 _ (List.getElem?_eq_getElem hn)
 refine⟨b,off,rfl,fun i u hi => ?_⟩
 obtain⟨b',off',e,hc'⟩:=h i u hi
 simp only[Option.some.injEq,Addr.mk.injEq,and_true] at e
 obtain⟨rfl,rfl⟩:=e
 exact hc'
theorem flat_get {α:Type} (enc:α→List Value) (sz:Nat) (hsz:∀x,(enc x).length=sz):∀(l:List α) (i:Nat) (h:i<l.length) (j:Nat) (u:Value),(enc l[i])[j]?=some u→(l.flatMap enc)[i*sz+j]?=some u
 | [],i,h,_,_,_=>absurd h (Nat.not_lt_zero _)
 | x::l,0,_,j,u,hj=>by
  simp only[List.flatMap_cons,Nat.zero_mul,Nat.zero_add]
  simp only[List.getElem_cons_zero] at hj
  have hl:j<(enc x).length:=by
   rcases Nat.lt_or_ge j (enc x).length with h|h
   ·exact h
   ·simp[List.getElem?_eq_none h] at hj
  rw[List.getElem?_append_left hl];exact hj
 | x::l,i+1,h,j,u,hj=>by
  simp only[List.flatMap_cons]
  have e:(i+1)*sz+j=(enc x).length+(i*sz+j):=by rw[hsz x,Nat.add_mul];omega
  rw[e,List.getElem?_append_right (by omega),Nat.add_sub_cancel_left]
  exact flat_get enc sz hsz l i (by simpa using h) j u (by simpa using hj)
theorem flat_len {α:Type} (enc:α→List Value) (sz:Nat) (hsz:∀x,(enc x).length=sz) (l:List α):(l.flatMap enc).length=l.length*sz:=by
 induction l with
 | nil=>simp
 | cons x l ih=>simp[List.flatMap_cons,ih,hsz x,Nat.add_mul,Nat.add_comm]
theorem bW.elem {α:Type} {enc:α→List Value} {sz:Nat} (hsz:∀x,(enc x).length=sz) (hp:0<sz) {w:World} {a:Option Addr} {l:List α} (h:bW w a (l.flatMap enc)) (i:Nat) (hi:i<l.length) :
  ∃b off,a=some ⟨b,off,none⟩∧∀j u,(enc l[i])[j]?=some u→w.cell? ⟨b,off+i*sz+j,none⟩=some u:=by
 obtain⟨b,off,ha,hc⟩:=h.at (by rw[flat_len enc sz hsz];exact Nat.mul_pos (by omega) hp)
 exact⟨b,off,ha,fun j u hj=>by rw[Nat.add_assoc];exact hc _ _ (flat_get enc sz hsz l i hi j u hj)⟩
def putAt (cur:Array Value):Nat→List Value→Array Value
 | _,[]=>cur
 | o,v::r=>putAt (cur.setIfInBounds o v) (o+1) r
theorem size_putAt:∀(vs:List Value) (cur:Array Value) (o:Nat),(putAt cur o vs).size=cur.size
 | [],_,_=>rfl
 | v::r,cur,o=>by simp[putAt,size_putAt r]
theorem putAt_out:∀(vs:List Value) (cur:Array Value) (o k:Nat),(k<o∨o+vs.length≤k)→(putAt cur o vs)[k]?=cur[k]?
 | [],_,_,_,_=>rfl
 | v::r,cur,o,k,h=>by
  simp only[List.length_cons] at h
  simp only[putAt]
  rw[putAt_out r _ _ _ (by omega),Array.getElem?_setIfInBounds_ne (by omega)]
theorem putAt_in:∀(vs:List Value) (cur:Array Value) (o j:Nat) (u:Value),o+vs.length≤cur.size→vs[j]?=some u→(putAt cur o vs)[o+j]?=some u
 | [],_,_,_,_,_,h=>by simp at h
 | v::r,cur,o,0,u,hs,h=>by
  simp only[List.length_cons] at hs
  simp only[putAt]
  rw[putAt_out r _ _ _ (by omega)]
  simp at h;subst h
  simp[show o<cur.size by omega]
 | v::r,cur,o,j+1,u,hs,h=>by
  simp only[List.length_cons] at hs
  simp only[putAt]
  rw[show o+(j+1)=o+1+j by omega]
  exact putAt_in r _ _ _ u (by simp;omega) (by simpa using h)
theorem aC.setCell {w:World} {b:Nat} {cs:Array Value} {T:TypeId} (h:aC w b cs T) (o:Nat) (v:Value):aC (w.setCell ⟨b,o,none⟩ v) b (cs.setIfInBounds o v) T:=
 heap_setCell_same w b o cs T v h
theorem aC.setCell_other {w:World} {b:Nat} {cs:Array Value} {T:TypeId} (h:aC w b cs T) (a:Addr) (v:Value) (hne:b≠a.block):aC (w.setCell a v) b cs T:=
 (heap_setCell_other w a b v hne).trans h
theorem aC.setCells {T:TypeId} {b:Nat}:∀(vs:List Value) (o:Nat) {w:World} {cs:Array Value},aC w b cs T→aC (w.setCells b o vs) b (putAt cs o vs) T
 | [],_,_,_,h=>h
 | v::r,o,_,_,h=>aC.setCells r (o+1) (h.setCell o v)
theorem heap_setCells_other (b:Nat):∀(vs:List Value) (o:Nat) (w:World) (k:Nat),k≠b→(w.setCells b o vs).heap[k]?=w.heap[k]?
 | [],_,_,_,_=>rfl
 | v::r,o,w,k,h=>(heap_setCells_other b r (o+1) _ k h).trans (heap_setCell_other w ⟨b,o,none⟩ k v h)
theorem size_setCells (b:Nat):∀(vs:List Value) (o:Nat) (w:World),(w.setCells b o vs).heap.size=w.heap.size
 | [],_,_=>rfl
 | v::r,o,w=>(size_setCells b r (o+1) _).trans (by simp[World.setCell])
theorem jl (b:Nat):∀(vs:List Value) (o:Nat) (w:World),(w.setCells b o vs).os=w.os∧(w.setCells b o vs).tape=w.tape∧(w.setCells b o vs).output=w.output
 | [],_,_=>⟨rfl,rfl,rfl⟩
 | _::r,o,_=>jl b r (o+1) _
theorem aJ (w:World) (b o:Nat) (vs:List Value):w.grownBy (w.setCells b o vs) (some b):=
 ⟨(jl b vs o w).1,(jl b vs o w).2.1,(jl b vs o w).2.2,Nat.le_of_eq (size_setCells b vs o w).symm,
  fun k _ hk=>heap_setCells_other b vs o w k (fun e=>hk (by rw[e]))⟩
def Own (w:World) (B:Nat) (e:TypeId) (sz:Nat) (v:Value) (n:Nat) (xs:List Value):Prop:=
 xs.length=n*sz∧((v = .slice none 0 0∧n=0) ∨
  ∃g off cap cur,v = .slice (some ⟨g,off,none⟩) n cap∧B≤g∧aC w g cur e∧n≤cap∧cap≤maxLen∧off+cap*sz≤cur.size∧∀j u,xs[j]?=some u→cur[off+j]?=some u)
theorem Own.nil (w:World) (B:Nat) (e:TypeId) (sz:Nat):Own w B e sz (.slice none 0 0) 0 []:=⟨by simp,.inl ⟨rfl,rfl⟩⟩
theorem Own.of_owns {w:World} {B:Nat} {e:TypeId} {sz:Nat} {v:Value} {n:Nat} {xs:List Value} (h:w.ownsRow B e sz v n xs):Own w B e sz v n xs:=by
 obtain⟨hl,h⟩:=h
 refine⟨hl,h.imp id fun⟨g,cap,cur,hv,hB,hg,hc,hm,hs,ht⟩=>⟨g,0,cap,cur,hv,hB,hg,hc,hm,by omega,fun j u hj => ?_⟩⟩
 rw[Nat.zero_add,←Array.getElem?_toList]
 rw[←ht,List.getElem?_take] at hj
 split at hj
 ·exact hj
 ·cases hj
theorem Own.mono {w:World} {B B' : Nat} {e:TypeId} {sz:Nat} {v:Value} {n:Nat} {xs:List Value} (h:Own w B e sz v n xs) (hB:B'≤B):Own w B' e sz v n xs:=
 ⟨h.1,h.2.imp id fun⟨g,off,cap,cur,hv,hg,r⟩=>⟨g,off,cap,cur,hv,Nat.le_trans hB hg,r⟩⟩
theorem Own.below {w w' : World} {B:Nat} {e:TypeId} {sz:Nat} {v:Value} {n:Nat} {xs:List Value} (h:Own w B e sz v n xs) (hb:Below w.heap.size w w'):Own w' B e sz v n xs:=
 ⟨h.1,h.2.imp id fun⟨g,off,cap,cur,hv,hg,hk,r⟩=>⟨g,off,cap,cur,hv,hg,hk.ext hb,r⟩⟩
theorem Own.grown {w w' : World} {row:Option Nat} {B:Nat} {e:TypeId} {sz:Nat} {v:Value} {n:Nat} {xs:List Value} (h:Own w B e sz v n xs) (hg:w.grownBy w' row) (hne:∀g,v.ownBlock=some g→row≠some g):Own w' B e sz v n xs:=
 ⟨h.1,h.2.imp id fun⟨g,off,cap,cur,hv,hB,hk,r⟩=>⟨g,off,cap,cur,hv,hB,(hg.block g hk.lt (fun e=>hne g (by rw[hv];rfl) e.symm)).trans hk,r⟩⟩
theorem Own.rd {w:World} {B:Nat} {e:TypeId} {sz:Nat} {v:Value} {n:Nat} {xs:List Value} (h:Own w B e sz v n xs):∃a c,v = .slice a n c∧n≤c∧c≤maxLen∧(a=none→c=0)∧bW w a xs:=by
 obtain⟨hl,h⟩:=h
 rcases h with ⟨rfl,rfl⟩|⟨g,off,cap,cur,rfl,_,hg,hc,hm,hs,ht⟩
 ·have:xs=[]:=List.eq_nil_of_length_eq_zero (by simpa using hl)
  subst this
  exact⟨none,0,rfl,Nat.le_refl _,Nat.zero_le _,fun _=>rfl,bW.nil⟩
 ·exact⟨_,cap,rfl,hc,hm,fun e=>(Option.some_ne_none _ e).elim,fun i u hi=>⟨g,off,rfl,by rw[hg.cell];exact ht i u hi⟩⟩
theorem Own.ge {w:World} {B:Nat} {e:TypeId} {sz:Nat} {v:Value} {n:Nat} {xs:List Value} (h:Own w B e sz v n xs):∀k,v.ownBlock=some k→B≤k:=by
 rcases h.2 with ⟨rfl,_⟩|⟨g,off,cap,cur,rfl,hB,_⟩
 ·intro k hk;cases hk
 ·intro k hk;cases hk;exact hB
theorem aC.grown {w w' : World} {row:Option Nat} {b:Nat} {cs:Array Value} {T:TypeId} (h:aC w b cs T) (hg:w.grownBy w' row) (hne:row≠some b):aC w' b cs T:=
 (hg.block b h.lt (fun e=>hne e.symm)).trans h
theorem Own.alloc {w:World} {B:Nat} {e:TypeId} {sz:Nat} {v:Value} {n:Nat} {xs:List Value} (h:Own w B e sz v n xs) (o:Obj):Own (w.alloc o) B e sz v n xs:=
 h.below ((Below.refl _ _).alloc (Nat.le_refl _) _)
theorem bW.one (w:World) (v:Value) (T:TypeId):bW (w.alloc (.cells #[v] T)) (some ⟨w.heap.size,0,none⟩) [v]:=by
 intro i u hi
 refine⟨_,_,rfl,?_⟩
 rw[(aC.new w #[v] T).cell]
 cases i with
 | zero=>simpa using hi
 | succ i=>simp at hi
theorem bW.new (w:World) (cs:Array Value) (T:TypeId):bW (w.alloc (.cells cs T)) (some ⟨w.heap.size,0,none⟩) cs.toList:=by
 intro i u hi
 refine⟨_,_,rfl,?_⟩
 rw[(aC.new w cs T).cell,Nat.zero_add]
 simpa using hi
theorem Hz (k:IntKind) (n:Int):∀u∈[Value.int k n],u.oneCell' = true:=by
 intro u hu
 cases List.mem_singleton.1 hu
 rfl
theorem dJ {P:Program} {w:World} {ops:Array Oper} {rest:List Oper} {o:Oper} {a:Act} {Q:Exit→Act→World→Prop} (hg:o.guard=none) (s x:Operand) (t:TypeId)
  (hop:o.op=Op.call { callee:=Callee.builtin Builtin.append,args:=#[s,x],argTypes:=#[t,t] })
  (B:Nat) (e:TypeId) (z:Value) (size bytes:Nat) (h1:P.underlying t=some (.slice e)) (h2:(P.info? e).map (fun i=>(i.zero,i.size,i.bytes))=some (some z,size,bytes)) (h6:z.cells.size=size) (h7:0<size)
  (v:Value) (n:Nat) (xs:List Value) (hs:a.eval s=v) (hown:Own w B e size v n xs)
  (ao:Option Addr) (m c:Nat) (news:List Value) (hx:a.eval x = .slice ao m c) (hnone:ao=none→c=0) (hmc:m≤c) (hn:news.length=m*size) (hrd:bW w ao news) (h1c:∀u∈news,u.oneCell' = true)
  (b1:n+m≤maxLen) (b2:(n+m)*bytes≤140737488355328) (hB:B≤w.heap.size)
  (hK:∀v' w',Own w' B e size v' (n+m) (xs++news)→w.grownBy w' v.ownBlock→wpList P ops Q rest (a.put o.dst v') w') :
  wpList P ops Q (o::rest) a w:=by
 obtain⟨i,hi,hz,hsz,hby⟩:=info_parts h2
 cases ao with
 | none=>
  obtain rfl:=hnone rfl
  obtain rfl:m=0:=by omega
  obtain rfl:news=[]:=List.eq_nil_of_length_eq_zero (by simpa using hn)
  have key:wpList P ops Q rest (a.put o.dst v) w:=by
   have:=hK v w (by simpa using hown) (World.grownBy.refl _ _)
   exact this
  rcases hown with ⟨hl,⟨rfl,rfl⟩|⟨g,off,cap,cur,rfl,hBg,hk,hc,hm,hsize,hcell⟩⟩
  ·obtain rfl:xs=[]:=List.eq_nil_of_length_eq_zero (by simpa using hl)
   exact wpList_append_own_none hg s x t hop B e i size h1 hi _ 0 [] hs (World.ownsRow_nil w B e size) hx key
  ·refine wpList_plain hg fun K hK' => ?_
   unfold Oper.wp
   simp[execOp,hop,resolve,invoke,builtin,hs,hx,Builtin.append_,run_underlying h1,Go.sizeOf,typeInfo,hi,Builtin.lenOf,Builtin.firstCells,hc,storeCells,Result.andThen]
   exact hK' _ _ key
 | some ad=>
  have hnews:∀j u,news[j]?=some u→w.cell? (ad.add j)=some u:=by
   intro j u hj
   obtain⟨b,off,e',hc⟩:=hrd j u hj
   cases e'
   rw[Addr.add_lit];exact hc
  rcases hown with ⟨hl,⟨rfl,rfl⟩|⟨g,off,cap,cur,rfl,hBg,hk,hc,hm,hsize,hcell⟩⟩
  ·obtain rfl:xs=[]:=List.eq_nil_of_length_eq_zero (by simpa using hl)
   exact wpList_append_own w hg s x t hop B e i z size bytes h1 hi hz hsz hby h6 h7 _ 0 [] hs (World.ownsRow_nil w B e size) ad m c news hx hn hnews h1c b1 b2 hB
    fun v' w' r1 r2 _=>hK v' w' (.of_owns r1) r2
  ·have hcap:n*size≤cap*size:=Nat.mul_le_mul_right _ hc
   refine wpList_append_arg w hg s x t hop e i z size bytes h1 hi hz hsz hby h6 h7 g off n cap xs hs hl (fun j u hj=>by rw[hk.cell];exact hcell j u hj) ad m c news hx hn hnews h1c (fun hr j hj => ?_) b1 b2 (fun hr => ?_) (fun hr v' w' r1 r2 => ?_)
   ·have h3:(n+m)*size≤cap*size:=Nat.mul_le_mul_right _ hr
    rw[Nat.add_mul] at h3
    have:off+n*size+j<cur.size:=by omega
    exact⟨by rw[hk.cell];simp[this],hk.free _⟩
   ·have h3:(n+m)*size≤cap*size:=Nat.mul_le_mul_right _ hr
    rw[Nat.add_mul] at h3
    refine hK _ _ ⟨by rw[List.length_append,hl,hn,Nat.add_mul],.inr ⟨g,off,cap,_,rfl,hBg,hk.setCells news (off+n*size),hr,hm,by rw[size_putAt];exact hsize,fun j u hj => ?_⟩⟩ (aJ _ _ _ _)
    by_cases hjl:j<xs.length
    ·rw[List.getElem?_append_left hjl] at hj
     rw[putAt_out _ _ _ _ (.inl (by omega))];exact hcell j u hj
    ·rw[List.getElem?_append_right (by omega)] at hj
     have:=putAt_in news cur (off+n*size) (j-xs.length) u (by omega) hj
     rwa [show off+n*size+(j-xs.length)=off+j by omega] at this
   ·have r2' : w.grownBy w' (Value.ownBlock (.slice (some ⟨g,off,none⟩) n cap)):=⟨r2.os,r2.tape,r2.output,r2.size,fun k hk' _=>r2.block k hk' (by simp)⟩
    exact hK v' w' ((Own.of_owns r1).mono hB) r2'
theorem iA (cur cs:Array Value) (h:cs.size=cur.size):putAt cur 0 cs.toList=cs:=by
 apply Array.ext_getElem?
 intro i
 by_cases hi:i<cs.size
 ·have:=putAt_in cs.toList cur 0 i cs[i] (by simp;omega) (by simp[hi])
  rw[Nat.zero_add] at this
  rw[this]
  simp[hi]
 ·rw[Array.getElem?_eq_none (by rw[size_putAt];omega),Array.getElem?_eq_none (by omega)]
theorem dW {P:Program} {w:World} {ops:Array Oper} {rest:List Oper} {op:Oper} {a:Act} {Q:Exit→Act→World→Prop} (hgd:op.guard=none) (ty:TypeId) (x y:Operand) (ho:op.op = .store ty x y)
  (b o:Nat) (cells:Array Value) (hx:a.eval x = .pointer (some ⟨b,o,none⟩)) (hy:a.eval y = .agg cells) (cur:Array Value) (T:TypeId) (hg:aC w b cur T)
  (hfit:o+cells.size≤cur.size) (hi:(P.info? ty).map (·.size)=some cells.size) (h1:cells.all (·.oneCell')=true)
  (h:∀w',aC w' b (putAt cur o cells.toList) T→w.grownBy w' (some b)→wpList P ops Q rest (a.put op.dst undef) w'):wpList P ops Q (op::rest) a w:=by
 refine wpList_store_mid hgd ty x y ho b o cells hx hy (fun j hj=>⟨?_,hg.free _⟩) hi h1 (h _ (hg.setCells _ _) (aJ _ _ _ _))
 rw[hg.cell]
 simp[show o+j<cur.size by omega]
theorem aB {P:Program} {w:World} {ops:Array Oper} {rest:List Oper} {op:Oper} {a:Act} {Q:Exit→Act→World→Prop} (hgd:op.guard=none) (ty:TypeId) (x y:Operand) (ho:op.op = .store ty x y)
  (b:Nat) (cells:Array Value) (hx:a.eval x = .pointer (some ⟨b,0,none⟩)) (hy:a.eval y = .agg cells) (cur:Array Value) (T:TypeId) (hg:aC w b cur T)
  (hfit:cells.size=cur.size) (hi:(P.info? ty).map (·.size)=some cells.size) (h1:cells.all (·.oneCell')=true)
  (h:∀w',aC w' b cells T→w.grownBy w' (some b)→wpList P ops Q rest (a.put op.dst undef) w'):wpList P ops Q (op::rest) a w:=by
 refine dW hgd ty x y ho b 0 cells hx hy cur T hg (by omega) hi h1 fun w' hb hgr => ?_
 rw[iA cur cells hfit] at hb
 exact h w' hb hgr
theorem ku {α:Type} (f:α→Value) (l:List α):l.flatMap (fun x=>[f x])=l.map f:=by
 induction l with
 | nil=>rfl
 | cons x l ih=>simp[ih]
def gW (b:UInt8):Value:=.int .u8 b.toNat
def eU (n:Int):Value:=.int .i64 n
theorem AA {P:Program} {w:World} {src e:TypeId} (hs:P.underlying src=some (.slice e)) (he:P.underlying e=some (.int .u8)) {a:Option Addr} {l:List UInt8} (c:Nat) (h:bW w a (l.map gW)) :
  ∀dst,P.underlying dst=some .string→(convert src dst (.slice a l.length c)).run P w = .ok (.string ⟨l.toArray⟩) w:=by
 intro dst hd
 by_cases hn:l=[]
 ·subst hn
  have:=run_convert_bytes_string w src dst e a 0 c hs he hd
  simp only[List.length_nil]
  rw[this]
  cases a with
  | none=>rfl
  | some a=>
   rw[run_bytesToString w a 0 c [] (by simpa using run_loadCells_list (P:=P) w a [] (by simp))]
   rfl
 ·obtain⟨b,off,rfl,hc⟩:=h.at (by simpa using List.length_pos_iff.2 hn)
  rw[run_convert_bytes_arg w src e hs he b off l.length c (l.map fun x=>(x.toNat:Int)) (by simp) (fun i hi=>by
   rw[hc i (gW l[i]) (by simp[hi])]
   simp[gW,List.getD,hi]) dst hd]
  congr 2
  apply ByteArray.ext
  apply Array.ext'
  rw[strOfNums_data]
  simp[List.map_map,Function.comp_def]
def dF (p:Page):Array Value:=#[Value.int .u8 p[0].toNat,Value.int .u8 p[1].toNat,Value.int .u8 p[2].toNat,Value.int .u8 p[3].toNat,Value.int .u8 p[4].toNat,Value.int .u8 p[5].toNat,Value.int .u8 p[6].toNat,Value.int .u8 p[7].toNat]
theorem sS (p:Page) (k:Nat) (h:k<8):(dF p)[k]?=some (Value.int .u8 p[k].toNat):=by
 match k,h with
 | 0,_=>rfl
 | 1,_=>rfl
 | 2,_=>rfl
 | 3,_=>rfl
 | 4,_=>rfl
 | 5,_=>rfl
 | 6,_=>rfl
 | 7,_=>rfl
 | n+8,h=>omega
theorem tF (p:Page) (k:Nat) (h:k<8) (b:UInt8):(dF p).setIfInBounds k (.int .u8 b.toNat)=dF (p.set k b):=by
 match k,h with
 | 0,_=>simp[dF]
 | 1,_=>simp[dF]
 | 2,_=>simp[dF]
 | 3,_=>simp[dF]
 | 4,_=>simp[dF]
 | 5,_=>simp[dF]
 | 6,_=>simp[dF]
 | 7,_=>simp[dF]
 | n+8,h=>omega
theorem Io (p:Page):(dF p)[0]?=some (Value.int .u8 p[0].toNat)∧(dF p)[1]?=some (Value.int .u8 p[1].toNat)∧(dF p)[2]?=some (Value.int .u8 p[2].toNat)∧(dF p)[3]?=some (Value.int .u8 p[3].toNat)∧(dF p)[4]?=some (Value.int .u8 p[4].toNat)∧(dF p)[5]?=some (Value.int .u8 p[5].toNat)∧(dF p)[6]?=some (Value.int .u8 p[6].toNat)∧(dF p)[7]?=some (Value.int .u8 p[7].toNat):=
 ⟨rfl,rfl,rfl,rfl,rfl,rfl,rfl,rfl⟩
theorem dD (p:Page):(dF p).all (·.oneCell')=true:=by simp[dF,Value.oneCell']
theorem vO {P:Program} (w:World) (e:TypeId) (k:IntKind) (cs:Array Value) (off:Nat) (v:Value) (he:P.underlying e=some (.int k)) (hv:cs[off]?=some v) :
  (part e cs off).run P w = .ok v w:=by
 simp[part,isAgg,run_underlying he,hv]
theorem si {P:Program} (w:World) (d:Nat) (t e:TypeId) (ht:P.underlying t=some (.array 8 e)) (he:P.underlying e=some (.int .u8)) (hsz:(P.info? e).map (·.size)=some 1) (p q:Page) :
  (Op.equalIn (d+2) t (.agg (dF p)) (.agg (dF q))).run P w = .ok (p==q) w:=by
 cases hq:P.info? e with
 | none=>simp[hq] at hsz
 | some i=>
 have hi:i.size=1:=by simpa[hq] using hsz
 rw[Fa]
 unfold Op.equalIn
 simp only[Sem.run_bind,run_underlying ht,Result.andThen_ok,Go.sizeOf,typeInfo,run_program,hq,hi,Sem.run_pure]
 simp only[Std.Legacy.Range.forIn_eq_forIn_range',List.range',Std.Legacy.Range.size]
 have g:∀(r:Page) (k:Nat) (h:k<8) (w:World),(part e (dF r) k).run P w = .ok (.int .u8 r[k].toNat) w:=fun r k h w=>vO w e .u8 _ _ _ he (sS r k h)
 have c:∀(a b:UInt8) (w:World),(Op.equalIn (d+1) e (.int .u8 a.toNat) (.int .u8 b.toNat)).run P w = .ok (a==b) w:=fun a b w=>by
  rw[run_equalIn_int w d e .u8 .u8 _ _ he,Jq]
 simp[g,c]
 repeat' split
 all_goals simp_all
def Gives (P:Program) (o:Oper) (a:Act) (w:World) (F:Value→World→Prop):Prop:=
 match (execOp a.eval o).run P w with
 | .ok (.value v) w'=>F v w'
 | .ok .skip w'=>F undef w'
 | .ok (.enter f args) w'=>Calls P f args w' fun | .returned v,w''=>F v w'' | _,_=>False
 | _=>False
def lay (L:Nat→Bool) (y:Nat→Value):List Oper→Nat→Array Value→Array Value
 | [],_,t=>t
 | o::r,i,t=>lay L y r (i+1) (match o.dst with | some d=>if L i then t.setIfInBounds d (y i) else t | none=>t)
theorem lay_size (L:Nat→Bool) (y:Nat→Value):∀(l:List Oper) (i:Nat) (t:Array Value),(lay L y l i t).size=t.size
 | [],_,_=>rfl
 | o::r,i,t=>by
  simp only[lay]
  rw[lay_size L y r]
  cases o.dst with
  | none=>rfl
  | some d=>simp only[];split<;>simp
theorem dN (L:Nat→Bool) (y:Nat→Value) (s:Nat):∀(l:List Oper) (i:Nat) (t:Array Value),(∀k o,l[k]?=some o→o.dst=some s→L (i+k)=false)→(lay L y l i t)[s]?=t[s]?
 | [],_,_,_=>rfl
 | o::r,i,t,h=>by
  simp only[lay]
  rw[dN L y s r (i+1) _ (fun k o' hk hd=>by have:=h (k+1) o' (by simpa using hk) hd;rwa [show i+(k+1)=i+1+k by omega] at this)]
  cases hd:o.dst with
  | none=>rfl
  | some d=>
   simp only[]
   split
   ·rename_i hL
    have hne:d≠s:=by
     intro e
     subst e
     have:=h 0 o (by simp) hd
     simp[hL] at this
    rw[Array.getElem?_setIfInBounds_ne hne]
   ·rfl
theorem gu (L:Nat→Bool) (y:Nat→Value) (s:Nat):∀(l:List Oper) (i:Nat) (t:Array Value) (k:Nat) (o:Oper),l[k]?=some o→o.dst=some s→L (i+k)=true →
  (∀k' o',l[k']?=some o'→o'.dst=some s→k' = k)→s<t.size→(lay L y l i t)[s]?=some (y (i+k))
 | [],_,_,_,_,h,_,_,_,_=>by simp at h
 | o0::r,i,t,0,o,hk,hd,hL,hu,hs=>by
  simp at hk
  subst hk
  simp only[lay,hd]
  rw[dN L y s r (i+1) _ (fun k o' hk' hd'=>by have:=hu (k+1) o' (by simpa using hk') hd'; omega)]
  rw[Nat.add_zero] at hL
  simp[hL,hs]
 | o0::r,i,t,k+1,o,hk,hd,hL,hu,hs=>by
  simp only[lay]
  have:=gu L y s r (i+1) (match o0.dst with | some d=>if L i then t.setIfInBounds d (y i) else t | none=>t) k o (by simpa using hk) hd (by rwa [show i+1+k=i+(k+1) by omega])
   (fun k' o' hk' hd'=>by have:=hu (k' + 1) o' (by simpa using hk') hd'; omega)
   (by cases o0.dst with
     | none=>exact hs
     | some d=>simp only[];split<;>simpa using hs)
  rw[this]
  congr 2
  omega
theorem fO (L L' : Nat→Bool) (y:Nat→Value):∀(l:List Oper) (i:Nat) (t:Array Value),(∀k,k<l.length→L (i+k)=L' (i+k))→lay L y l i t=lay L' y l i t
 | [],_,_,_=>rfl
 | o::r,i,t,h=>by
  simp only[lay]
  have h0:L i=L' i:=by simpa using h 0 (by simp)
  rw[h0]
  exact fO L L' y r (i+1) _ fun k hk=>by have:=h (k+1) (by simp;omega);rwa [show i+(k+1)=i+1+k by omega] at this
def eP (ops:Array Oper):Bool:=
 (List.range ops.size).all fun i=>match ops[i]? with
  | none=>true
  | some o=>
   (match o.op with | .select ..=>false | _=>true) &&
   o.after.toList.all (fun e=>Region.binds .any e&&decide (e.on<i)) &&
   (List.range ops.size).all fun j=>match ops[j]? with
    | none=>true
    | some p=>match p.dst with
     | none=>true
     | some d=>(decide (i=j)||o.dst != some d)&&(!(o.looksAt ops).contains d||o.after.toList.any (fun e=>decide (e.on=j)))
theorem bT {ops:Array Oper} (h:eP ops=true) {i:Nat} {o:Oper} (hi:ops[i]?=some o) :
  (∀cs b,o.op ≠ .select cs b)∧(∀e∈o.after,Region.binds .any e=true∧e.on<i) ∧
  ∀j p d,ops[j]?=some p→p.dst=some d→(i=j∨o.dst≠some d)∧(d∈o.looksAt ops→∃e∈o.after,e.on=j):=by
 have hlt:i<ops.size:=(Array.getElem?_eq_some_iff.1 hi).1
 have h1:=List.all_eq_true.1 h i (List.mem_range.2 hlt)
 simp only[hi,Bool.and_eq_true] at h1
 obtain⟨⟨h2,h3⟩,h4⟩:=h1
 refine⟨?_,?_,?_⟩
 ·intro cs b e
  simp[e] at h2
 ·intro e he
  have:=List.all_eq_true.1 h3 e (Array.mem_toList_iff.2 he)
  simpa using this
 ·intro j p d hj hd
  have hjl:j<ops.size:=(Array.getElem?_eq_some_iff.1 hj).1
  have h5:=List.all_eq_true.1 h4 j (List.mem_range.2 hjl)
  simp only[hj,hd,Bool.and_eq_true,Bool.or_eq_true,decide_eq_true_eq,bne_iff_ne,ne_eq,Bool.not_eq_true',List.any_eq_true] at h5
  refine⟨h5.1,fun hmem => ?_⟩
  rcases h5.2 with h6|⟨e,he,h6⟩
  ·have h7:(o.looksAt ops).contains d=true:=List.contains_iff_mem.2 hmem
   rw[h7] at h6;cases h6
  ·exact⟨e,Array.mem_toList_iff.1 he,h6⟩
theorem lm {ops:Array Oper} (hok:eP ops=true) {a0:Act} {L:Nat→Bool} {y:Nat→Value} {i:Nat} {o:Oper} (hi:ops[i]?=some o) (hL:∀e∈o.after,L e.on=true) (t:Nat) (ht:t∈o.looksAt ops) :
  (lay L y ops.toList 0 a0.tmps)[t]?=(lay (fun _=>true) y ops.toList 0 a0.tmps)[t]?:=by
 obtain⟨_,_,hw⟩:=bT hok hi
 by_cases hsz:t<a0.tmps.size
 ·by_cases hex:∃(j:Nat) (p:Oper),ops[j]?=some p∧p.dst=some t
  ·obtain⟨j,p,hj,hd⟩:=hex
   obtain⟨e,he,hej⟩:=(hw j p t hj hd).2 ht
   have hu:∀k' o',ops.toList[k']?=some o'→o'.dst=some t→k' = j:=by
    intro k' o' hk' hd'
    have:=(bT hok (i:=k') (o:=o') (by simpa using hk')).2.2 j p t hj hd
    rcases this.1 with h|h
    ·exact h
    ·exact absurd hd' h
   rw[gu L y t _ 0 _ j p (by simpa using hj) hd (by rw[Nat.zero_add,←hej];exact hL e he) hu hsz,
    gu (fun _=>true) y t _ 0 _ j p (by simpa using hj) hd rfl hu hsz]
  ·rw[dN L y t _ 0 _ (fun k o' hk hd=>absurd ⟨k,o',by simpa using hk,hd⟩ hex),dN (fun _=>true) y t _ 0 _ (fun k o' hk hd=>absurd ⟨k,o',by simpa using hk,hd⟩ hex)]
 ·rw[Array.getElem?_eq_none (by rw[lay_size];omega),Array.getElem?_eq_none (by rw[lay_size];omega)]
theorem qf {ops:Array Oper} (hok:eP ops=true) {a0:Act} {listed:Array Bool} {y:Nat→Value} {i:Nat} {o:Oper} (hi:ops[i]?=some o) (hsz:listed.size=ops.size) (v:Value) :
  ({ a0 with tmps:=lay (fun i=>listed.getD i false) y ops.toList 0 a0.tmps }:Act).put o.dst v =
   { a0 with tmps:=lay (fun k=>(listed.setIfInBounds i true).getD k false) (fun k=>if k=i then v else y k) ops.toList 0 a0.tmps }:=by
 have hlt:i<ops.size:=(Array.getElem?_eq_some_iff.1 hi).1
 have hLi:(listed.setIfInBounds i true).getD i false=true:=by simp[Array.getD_eq_getD_getElem?,show i<listed.size by omega]
 have hLk:∀k,k≠i→(listed.setIfInBounds i true).getD k false=listed.getD k false:=fun k hk=>by
  simp[Array.getD_eq_getD_getElem?,Array.getElem?_setIfInBounds_ne (Ne.symm hk)]
 have key:(({ a0 with tmps:=lay (fun i=>listed.getD i false) y ops.toList 0 a0.tmps }:Act).put o.dst v).tmps=lay (fun k=>(listed.setIfInBounds i true).getD k false) (fun k=>if k=i then v else y k) ops.toList 0 a0.tmps:=by
  apply Array.ext_getElem?
  intro s
  by_cases hs:s<a0.tmps.size
  ·by_cases hex:∃(j:Nat) (p:Oper),ops[j]?=some p∧p.dst=some s
   ·obtain⟨j,p,hj,hd⟩:=hex
    have hu:∀k' o',ops.toList[k']?=some o'→o'.dst=some s→k' = j:=by
     intro k' o' hk' hd'
     rcases ((bT hok (i:=k') (o:=o') (by simpa using hk')).2.2 j p s hj hd).1 with h|h
     ·exact h
     ·exact absurd hd' h
    by_cases hji:j=i
    ·subst hji
     obtain rfl:o=p:=by rw[hi] at hj;exact Option.some.inj hj
     rw[gu (fun k=>(listed.setIfInBounds j true).getD k false) _ s _ 0 _ j o (by simpa using hi) hd (by simpa using hLi) hu hs]
     simp only[Act.put,hd,Nat.zero_add,if_true]
     rw[Array.getElem?_setIfInBounds_self_of_lt (by rw[lay_size];exact hs)]
    ·have hod:o.dst≠some s:=fun e=>hji ((hu i o (by simpa using hi) e).symm)
     have e1:(({ a0 with tmps:=lay (fun i=>listed.getD i false) y ops.toList 0 a0.tmps }:Act).put o.dst v).tmps[s]?=(lay (fun i=>listed.getD i false) y ops.toList 0 a0.tmps)[s]?:=by
      cases ho:o.dst with
      | none=>rfl
      | some d=>
       have:d≠s:=fun e=>hod (by rw[ho,e])
       simp only[Act.put]
       rw[Array.getElem?_setIfInBounds_ne this]
     rw[e1]
     cases hLj:listed.getD j false with
     | true=>
      rw[gu (fun i=>listed.getD i false) y s _ 0 _ j p (by simpa using hj) hd (by simpa using hLj) hu hs,
       gu (fun k=>(listed.setIfInBounds i true).getD k false) _ s _ 0 _ j p (by simpa using hj) hd (by rw[Nat.zero_add,hLk j hji];exact hLj) hu hs]
      simp[hji]
     | false=>
      rw[dN (fun i=>listed.getD i false) y s _ 0 _ (fun k o' hk hd'=>by rw[Nat.zero_add,hu k o' hk hd'];exact hLj),
       dN (fun k=>(listed.setIfInBounds i true).getD k false) _ s _ 0 _ (fun k o' hk hd'=>by rw[Nat.zero_add,hu k o' hk hd',hLk j hji];exact hLj)]
   ·have hod:o.dst≠some s:=fun e=>hex ⟨i,o,hi,e⟩
    have e1:(({ a0 with tmps:=lay (fun i=>listed.getD i false) y ops.toList 0 a0.tmps }:Act).put o.dst v).tmps[s]?=(lay (fun i=>listed.getD i false) y ops.toList 0 a0.tmps)[s]?:=by
     cases ho:o.dst with
     | none=>rfl
     | some d=>
      have:d≠s:=fun e=>hod (by rw[ho,e])
      simp only[Act.put]
      rw[Array.getElem?_setIfInBounds_ne this]
    rw[e1,dN _ y s _ 0 _ (fun k o' hk hd=>absurd ⟨k,o',by simpa using hk,hd⟩ hex),dN _ _ s _ 0 _ (fun k o' hk hd=>absurd ⟨k,o',by simpa using hk,hd⟩ hex)]
  ·have e1:(({ a0 with tmps:=lay (fun i=>listed.getD i false) y ops.toList 0 a0.tmps }:Act).put o.dst v).tmps.size=a0.tmps.size:=by
    cases o.dst with
    | none=>exact lay_size _ _ _ _ _
    | some d=>simp[Act.put,lay_size]
   rw[Array.getElem?_eq_none (by rw[e1];omega),Array.getElem?_eq_none (by rw[lay_size];omega)]
 cases hdst:o.dst with
 | none=>rw[hdst] at key;simp only[Act.put] at key ⊢; rw[key]
 | some d=>rw[hdst] at key;simp only[Act.put] at key ⊢; rw[key]
theorem iq {P:Program} {ops:Array Oper} {Q:Exit→Act→World→Prop} {i:Nat} {o:Oper} {a b:Act} {w:World} {F:Value→World→Prop} {K:Act→World→Prop} (hi:ops[i]?=some o)
  (hwant:Region.wanted o (yielded ops a.tmps)=true) (hexec:execOp a.eval o=execOp b.eval o) (h:Gives P o b w F) (hK:∀v w',F v w'→K (a.put o.dst v) w'):wpOp P ops Q i K a w:=by
 unfold wpOp
 simp only[hi,hwant,if_true]
 refine .inl ?_
 unfold Oper.wp
 rw[hexec]
 unfold Gives at h
 generalize (execOp b.eval o).run P w=r at h ⊢
 cases r with
 | ok n w'=>
  cases n with
  | value v=>exact hK _ _ h
  | skip=>exact hK _ _ h
  | enter f args=>
   refine Calls.mono h fun e w'' he => ?_
   cases e with
   | returned v=>exact hK _ _ he
   | panicked c=>exact he.elim
   | outgrown=>exact he.elim
  | _=>exact h.elim
 | halt x w'=>exact h.elim
def writer (ops:Array Oper) (t:Nat):Option Nat:=(List.range ops.size).find? fun i=>match ops[i]? with | some o=>o.dst==some t | none=>false
def says (ρ:Operand→Value) (ops:Array Oper) (g:Nat):Option Bool:=
 match (ops[g]?).bind (·.dst) with
 | some d=>match ρ (.tmp d) with | .bool b=>some b | _=>none
 | none=>none
def bJ (P:Program) (o:Oper) (ρ:Operand→Value) (w:World) (F:Value→World→Prop):Prop:=
 match (execOp ρ o).run P w with
 | .ok (.value v) w'=>F v w'
 | .ok .skip w'=>F undef w'
 | .ok (.enter f args) w'=>Calls P f args w' fun | .returned v,w''=>F v w'' | _,_=>False
 | _=>False
structure ig where
 r:Value→World→Prop
 st:∀v w w',Below w.heap.size w w'→r v w→r v w'
def ni (V:Value):ig:=⟨fun v _=>v=V,fun _ _ _ _ h=>h⟩
def anyR:ig:=⟨fun _ _=>True,fun _ _ _ _ _=>trivial⟩
def KW (n:Nat) (vs:List Value):ig:=⟨fun v w => ∃a c,v = .slice a n c∧n≤c∧c≤maxLen∧(a=none→c=0)∧bW w a vs,
 fun _ _ _ hb ⟨a,c,h1,h2,h3,h4,h5⟩=>⟨a,c,h1,h2,h3,h4,h5.below hb⟩⟩
def rl (l:List ig) (i:Nat) (v:Value) (w:World):Prop:=(l.getD i anyR).r v w
def aK (C:Nat→Oper→Prop):Nat→List Oper→Prop
 | _,[]=>True
 | k,o::r=>C k o∧aK C (k+1) r
theorem all_nil {C:Nat→Oper→Prop} {k:Nat}:aK C k []:=trivial
theorem all_cons {C:Nat→Oper→Prop} {k:Nat} {o:Oper} {r:List Oper} (h:C k o) (hr:aK C (k+1) r):aK C k (o::r):=⟨h,hr⟩
theorem aK.at {C:Nat→Oper→Prop}:∀ {l:List Oper} {k:Nat},aK C k l→∀i o,l[i]?=some o→C (k+i) o
 | [],_,_,_,_,h=>by simp at h
 | o::r,k,h,0,o',hi=>by simp at hi;subst hi;exact h.1
 | o::r,k,h,i+1,o',hi=>by
  have:=aK.at h.2 i o' (by simpa using hi)
  rwa [show k+(i+1)=k+1+i by omega]
def iM (P:Program) (ops:Array Oper) (a0:Act) (w0:World) (l:List ig) (i:Nat) (o:Oper):Prop:=
 ∀(ρ:Operand→Value) (y:Nat→Value) (w:World),(∀t j,writer ops t=some j→ρ (.tmp t)=y j)→(∀x,(match x with | .tmp t=>writer ops t=none | _=>True)→ρ x=a0.eval x) →
  Below w0.heap.size w0 w→(∀j,o.after.toList.any (fun e=>e.on==j)=true→rl l j (y j) w) →
  if Region.wanted o (says ρ ops)=true then bJ P o ρ w (fun v w'=>Below w.heap.size w w'∧rl l i v w') else rl l i undef w
def eY (ops:Array Oper) (n:Nat):Bool:=ops.toList.all fun o=>match o.dst with | some d=>decide (d<n) | none=>true
theorem aj {P:Program} {ops:Array Oper} {ρ:Operand→Value} {o:Oper} {w:World} {l:List ig} {i:Nat} (v:Value) (hw:Region.wanted o (says ρ ops)=true) (hrun:(execOp ρ o).run P w = .ok (.value v) w) (hR:rl l i v w) :
  if Region.wanted o (says ρ ops)=true then bJ P o ρ w (fun v w'=>Below w.heap.size w w'∧rl l i v w') else rl l i undef w:=by
 rw[if_pos hw]
 unfold bJ
 rw[hrun]
 exact⟨Below.refl _ _,hR⟩
theorem ug {P:Program} {ops:Array Oper} {ρ:Operand→Value} {o:Oper} {w:World} {l:List ig} {i:Nat} (hw:Region.wanted o (says ρ ops)=false) (hR:rl l i undef w) :
  if Region.wanted o (says ρ ops)=true then bJ P o ρ w (fun v w'=>Below w.heap.size w w'∧rl l i v w') else rl l i undef w:=by
 rw[if_neg (by rw[hw];exact Bool.false_ne_true)]
 exact hR
theorem aP {P:Program} {ops:Array Oper} {ρ:Operand→Value} {o:Oper} {w:World} {l:List ig} {i:Nat} (f:FuncId) (args:Array Value) (hw:Region.wanted o (says ρ ops)=true) (hrun:(execOp ρ o).run P w = .ok (.enter f args) w)
  (hc:Calls P f args w fun e w' => ∃v,e = .returned v∧Below w.heap.size w w'∧rl l i v w') :
  if Region.wanted o (says ρ ops)=true then bJ P o ρ w (fun v w'=>Below w.heap.size w w'∧rl l i v w') else rl l i undef w:=by
 rw[if_pos hw]
 unfold bJ
 rw[hrun]
 refine hc.mono fun e w' ⟨v,he,h⟩ => ?_
 subst he
 exact h
theorem ah {o:Oper} {y:Nat→Option Bool} (hg:o.guard=none):Region.wanted o y=true:=by simp[Region.wanted,hg]
theorem aL {ρ:Operand→Value} {ops:Array Oper} {o:Oper} (g d:Nat) (b want:Bool) (hg:o.guard=some (g,want)) (hd:(ops[g]?).bind (·.dst)=some d) (hv:ρ (.tmp d) = .bool b):Region.wanted o (says ρ ops)=(b==want):=by
 simp only[Region.wanted,hg,says,hd,hv]
 cases b<;>cases want<;>rfl
theorem bI {P:Program} {ρ:Operand→Value} {o:Oper} {w:World} {ty:TypeId} {x:Operand} {b:Nat} {cs:Array Value} {T:TypeId} {d:TypeDesc} (ho:o.op = .load ty x) (hx:ρ x = .pointer (some ⟨b,0,none⟩)) (hb:aC w b cs T)
  (hu:P.underlying ty=some d) (hd:(match d with | .struct _ | .array _ _=>true | _=>false)=true) (hi:(P.info? ty).map (·.size)=some cs.size):(execOp ρ o).run P w = .ok (.value (.agg cs)) w:=by
 unfold execOp
 simp only[ho,hx,Instr.loadAt,Instr.sureAddr,Sem.run_bind,Sem.run_pure,Result.andThen_ok,run_loadVar_row w b T ty cs (0,0) d hb hu hd hi]
theorem run_move {P:Program} {ρ:Operand→Value} {o:Oper} {w:World} {x:Operand} {v:Value} (ho:o.op = .move x∨o.op = .assign x) (hx:ρ x=v):(execOp ρ o).run P w = .ok (.value v) w:=by
 rcases ho with ho|ho<;>simp[execOp,ho,hx]
theorem aN {P:Program} {ρ:Operand→Value} {o:Oper} {w:World} {f:FuncId} {xs:Array Operand} {ats:Array TypeId} {fn:Func} {args:Array Value} (ho:o.op = .call { callee:=.value (.func f),args:=xs,argTypes:=ats })
  (hρ : ρ (.func f) = .func (.func f) #[] #[]) (hf : P.funcs[f]? = some fn) (hn : (fn.name == "runtime.NumGoroutine") = false) (hb : fn.body.isNone = false) (ha : xs.map ρ = args) : (execOp ρ o).run P w = .ok (.enter f args) w := by
 have e1:execOp ρ o=callFunc f args:=by
  unfold execOp
  simp only[ho]
  have e2:resolve ρ { callee:=.value (.func f),args:=xs,argTypes:=ats } o.type=Sem.pure { target:=.fn (.func f) #[],args:=args }:=by
   unfold resolve
   simp only[hρ,ha]
   simp[Deferred.ofValue]
   rfl
  rw[e2]
  show callFunc f (args++#[])=_
  simp
 rw[e1]
 have hn' : ¬ fn.name = "runtime.NumGoroutine" := by simpa using hn
 have hb' : ¬fn.body=none:=fun h=>by simp[h] at hb
 unfold callFunc
 simp[hf,hn',hb']
theorem jo {P:Program} {ρ:Operand→Value} {o:Oper} {w:World} {op:BinOp} {t t' : TypeId} {x y:Operand} {vx vy v:Value} (ho:o.op = .binOp op t x y t') (hx:ρ x=vx) (hy:ρ y=vy)
  (hr:(do eqGuard op t x y vx vy;binOp op t vx vy:Sem Value).run P w = .ok v w):(execOp ρ o).run P w = .ok (.value v) w:=by
 unfold execOp
 simp only[ho,hx,hy]
 rw[Sem.run_bind,hr]
 rfl
theorem qB {P:Program} {ρ:Operand→Value} {o:Oper} {w:World} {a b:TypeId} {x:Operand} {vx v:Value} (ho:o.op = .convert a b x) (hx:ρ x=vx) (hr:(convert a b vx).run P w = .ok v w):(execOp ρ o).run P w = .ok (.value v) w:=by
 unfold execOp
 simp only[ho,hx]
 rw[Sem.run_bind,hr]
 rfl
theorem jw {P:Program} {ρ:Operand→Value} {o:Oper} {w:World} {c x y:Operand} {b:Bool} {v:Value} (ho:o.op = .pick c x y) (hc:ρ c = .bool b) (hx:(if b then ρ x else ρ y)=v):(execOp ρ o).run P w = .ok (.value v) w:=by
 unfold execOp
 simp only[ho,hc]
 subst hx
 cases b<;>rfl
theorem sO {P:Program} {ρ:Operand→Value} {o:Oper} {w:World} {t:TypeId} {x:Operand} {b:Bool} (ho:o.op = .unOp .not t x) (hx:ρ x = .bool b):(execOp ρ o).run P w = .ok (.value (.bool (!b))) w:=by
 unfold execOp
 simp only[ho,hx]
 rfl
theorem yR {P:Program} {ρ:Operand→Value} {o:Oper} {w:World} {t:TypeId} {x:Operand} {a:Option Addr} {n c:Nat} (ho:o.op = .call { callee:=.builtin .len,args:=#[x],argTypes:=#[t] }) (hx:ρ x = .slice a n c) (ht:P.underlying t=some (.slice (P.elem t))):(execOp ρ o).run P w = .ok (.value (.int .i64 n)) w:=by
 unfold execOp
 simp only[ho]
 simp[hx,resolve,invoke,builtin,run_len_slice _ t o.type a n c ht]
 rfl
theorem vG {P:Program} {ρ:Operand→Value} {o:Oper} {w:World} {t:TypeId} {x:Operand} {f:Nat} {v vx:Value} (ho:o.op = .fieldAddr t x f) (hx:ρ x=vx) (hr:(Instr.fieldAt t vx f).run P w = .ok v w):(execOp ρ o).run P w = .ok (.value v) w:=by
 unfold execOp
 simp only[ho,hx]
 rw[Sem.run_bind,hr]
 rfl
theorem run_load {P:Program} {ρ:Operand→Value} {o:Oper} {w:World} {t:TypeId} {x:Operand} {v vx:Value} (ho:o.op = .load t x) (hx:ρ x=vx) (hr:(Instr.loadAt t vx).run P w = .ok v w):(execOp ρ o).run P w = .ok (.value v) w:=by
 unfold execOp
 simp only[ho,hx]
 rw[Sem.run_bind,hr]
 rfl
def KV (ops:Array Oper) (a0:Act) (l:List ig) (o:Oper) (t:Nat) (v:Value):Prop:=
 (∃k,writer ops t=some k∧o.after.toList.any (fun e=>e.on==k)=true∧l.getD k anyR=ni v)∨(writer ops t=none∧a0.eval (.tmp t)=v)
theorem KY {ops:Array Oper} {a0:Act} {l:List ig} {o:Oper} {t:Nat} {v:Value} (h1:writer ops t=none) (h2:a0.eval (.tmp t)=v):KV ops a0 l o t v:=.inr ⟨h1,h2⟩
def KU (P:Program) (ops:Array Oper) (a0:Act) (l:List ig) (i:Nat) (o:Oper):Prop:=
 ∀(ρ:Operand→Value) (y:Nat→Value) (w:World),(∀t j,writer ops t=some j→ρ (.tmp t)=y j)→(∀x,(match x with | .tmp t=>writer ops t=none | _=>True)→ρ x=a0.eval x) →
  (∀j,o.after.toList.any (fun e=>e.on==j)=true→rl l j (y j) w)→∃v,(execOp ρ o).run P w = .ok (.value v) w∧rl l i v w
def OkW (ops:Array Oper) (l:List ig) (o:Oper) (b:Bool):Prop:=
 ∀(ρ:Operand→Value) (y:Nat→Value) (w:World),(∀t j,writer ops t=some j→ρ (.tmp t)=y j)→(∀j,o.after.toList.any (fun e=>e.on==j)=true→rl l j (y j) w)→Region.wanted o (says ρ ops)=b
theorem KZ {ops:Array Oper} {l:List ig} {o:Oper} (hg:o.guard=none):OkW ops l o true:=fun _ _ _ _ _=>ah hg
section
variable {P:Program} {ops:Array Oper} {a0:Act} {w0:World} {l:List ig} {i:Nat} {o:Oper}
theorem KV.at {t:Nat} {v:Value} (h:KV ops a0 l o t v) {ρ:Operand→Value} {y:Nat→Value} {w:World} (hw:∀t j,writer ops t=some j→ρ (.tmp t)=y j) (hn:∀x,(match x with | .tmp t=>writer ops t=none | _=>True)→ρ x=a0.eval x) (hd:∀j,o.after.toList.any (fun e=>e.on==j)=true→rl l j (y j) w):ρ (.tmp t)=v:=by
 rcases h with ⟨k,h1,h2,h3⟩|⟨h1,h2⟩
 ·have h4:=hd k h2
  unfold rl at h4
  rw[h3] at h4
  exact (hw t k h1).trans h4
 ·exact (hn (.tmp t) h1).trans h2
theorem Ky {v V:Value} {w:World} (hr:l.getD i anyR=ni V) (e:v=V):rl l i v w:=by unfold rl;rw[hr];exact e
theorem KX {t:Nat} {V:Value} (ho:o.op = .move (.tmp t)) (hx:KV ops a0 l o t V) (hr:l.getD i anyR=ni V):KU P ops a0 l i o:=fun ρ y w hw hn hd=>⟨V,run_move (.inl ho) (hx.at hw hn hd),Ky hr rfl⟩
theorem La (hg:OkW ops l o true) (h:KU P ops a0 l i o):iM P ops a0 w0 l i o:=fun ρ y w hw hn _ hd=>by
 obtain⟨v,h1,h2⟩:=h ρ y w hw hn hd
 exact aj v (hg ρ y w hw hd) h1 h2
end
theorem fQ {α:Type} (enc:α→List Value) (sz:Nat) (hsz:∀x,(enc x).length=sz) (l:List α) (i:Nat) (h:i<l.length) (j:Nat) (hj:j<sz):(l.flatMap enc)[i*sz+j]?=(enc l[i])[j]?:=by
 have e:(enc l[i])[j]?=some ((enc l[i])[j]'(by rw[hsz];exact hj)):=List.getElem?_eq_getElem _
 rw[e]
 exact flat_get enc sz hsz l i h j _ e
theorem zn {α:Type} (enc:α→List Value) (sz:Nat) (hsz:∀x,(enc x).length=sz) (hp:0<sz) (l:List α) (m:Nat) (u:Value) (h:(l.flatMap enc)[m]?=some u) :
  ∃i j,∃hi:i<l.length,m=i*sz+j∧j<sz∧(enc l[i])[j]?=some u:=by
 have hm:m<l.length*sz:=by
  rcases Nat.lt_or_ge m (l.flatMap enc).length with h1|h1
  ·rwa [flat_len enc sz hsz] at h1
  ·rw[List.getElem?_eq_none h1] at h;cases h
 have hj:=Nat.mod_lt m hp
 have hd:=Nat.div_add_mod m sz
 have hi:m / sz<l.length:=Nat.div_lt_of_lt_mul (by rw[Nat.mul_comm];exact hm)
 refine⟨m / sz,m%sz,hi,by rw[Nat.mul_comm];exact hd.symm,hj,?_⟩
 rw[←fQ enc sz hsz l _ hi _ hj,Nat.mul_comm,hd]
 exact h
theorem qA {α:Type} (enc:α→List Value) (sz:Nat) (hsz:∀x,(enc x).length=sz) (hp:0<sz) (l:List α) (k:Nat) (hk:k<l.length) (x:α) (off:Nat) (cur:Array Value) (hfit:off+l.length*sz≤cur.size)
  (h:∀j u,(l.flatMap enc)[j]?=some u→cur[off+j]?=some u):∀j u,((l.set k x).flatMap enc)[j]?=some u→(putAt cur (off+k*sz) (enc x))[off+j]?=some u:=by
 intro m u hm
 obtain⟨i,j,hi,rfl,hj,e⟩:=zn enc sz hsz hp _ m u hm
 have hi' : i<l.length:=by simpa using hi
 by_cases hik:i=k
 ·subst hik
  rw[show off+(i*sz+j)=(off+i*sz)+j from by omega]
  have h1:(i+1)*sz≤l.length*sz:=Nat.mul_le_mul_right _ hk
  rw[Nat.add_mul] at h1
  exact putAt_in _ _ _ _ _ (by rw[hsz];omega) (by simpa using e)
 ·have hne:off+(i*sz+j)<off+k*sz∨off+k*sz+(enc x).length≤off+(i*sz+j):=by
   rw[hsz]
   rcases Nat.lt_or_gt_of_ne hik with h1|h1
   ·have:=Nat.mul_le_mul_right sz h1
    rw[Nat.succ_mul] at this
    omega
   ·have:=Nat.mul_le_mul_right sz h1
    rw[Nat.succ_mul] at this
    omega
  rw[putAt_out _ _ _ _ hne]
  refine h _ _ ?_
  rw[fQ enc sz hsz l i hi' j hj]
  rw[List.getElem_set_ne (fun e=>hik e.symm)] at e
  exact e
theorem Own.put {α:Type} {enc:α→List Value} {sz:Nat} (hsz:∀x,(enc x).length=sz) (hp:0<sz) {w:World} {B:Nat} {e:TypeId} {v:Value} {l:List α} (h:Own w B e sz v l.length (l.flatMap enc)) (k:Nat) (hk:k<l.length) :
  ∃g off cap cur,v = .slice (some ⟨g,off,none⟩) l.length cap∧B≤g∧aC w g cur e∧off+k*sz+sz≤cur.size∧(∀j u,(enc l[k])[j]?=some u→w.cell? ⟨g,off+k*sz+j,none⟩=some u) ∧
   ∀w' x,aC w' g (putAt cur (off+k*sz) (enc x)) e→Own w' B e sz v l.length ((l.set k x).flatMap enc):=by
 obtain⟨hl,h⟩:=h
 rcases h with ⟨_,h0⟩|⟨g,off,cap,cur,rfl,hB,hg,hc,hm,hs,ht⟩
 ·omega
 ·have h1:(k+1)*sz≤l.length*sz:=Nat.mul_le_mul_right _ hk
  have h2:l.length*sz≤cap*sz:=Nat.mul_le_mul_right _ hc
  rw[Nat.add_mul] at h1
  refine⟨g,off,cap,cur,rfl,hB,hg,by omega,fun j u hj => ?_,fun w' x hw=>⟨?_,.inr ⟨g,off,cap,_,rfl,hB,hw,hc,hm,by rw[size_putAt];exact hs,?_⟩⟩⟩
  ·rw[hg.cell,Nat.add_assoc]
   refine ht _ _ ?_
   have hj' : j<sz:=by
    rcases Nat.lt_or_ge j sz with h|h
    ·exact h
    ·rw[List.getElem?_eq_none (by rw[hsz];exact h)] at hj;cases hj
   rw[fQ enc sz hsz l k hk j hj']
   exact hj
  ·rw[flat_len enc sz hsz,List.length_set]
  ·exact qA enc sz hsz hp l k hk x off cur (by omega) ht
theorem wG {α:Type} (enc:α→List Value) (sz:Nat) (hsz:∀x,(enc x).length=sz) (hp:0<sz) (z:Array Value) (x:α) (hz:z.toList=enc x) (n:Nat):(madeCells z (n*sz)).toList=(List.replicate n x).flatMap enc:=by
 have hzs:z.size=sz:=by rw[←hsz x,←hz];simp
 apply List.ext_getElem
 ·rw[flat_len enc sz hsz];simp[size_madeCells]
 intro m h1 h2
 have hm:m<n*sz:=by simpa[size_madeCells] using h1
 have h3:((List.replicate n x).flatMap enc)[m]?=some ((List.replicate n x).flatMap enc)[m]:=List.getElem?_eq_getElem h2
 obtain⟨i,j,hi,e,hj,he⟩:=zn enc sz hsz hp _ m _ h3
 rw[List.getElem_replicate] at he
 have hmod:m%z.size=j:=by rw[hzs,e,Nat.mul_comm,Nat.mul_add_mod,Nat.mod_eq_of_lt hj]
 simp only[madeCells,Array.toList_map,List.getElem_map,Array.toList_range,List.getElem_range,hmod]
 rw[←hz,Array.getElem?_toList] at he
 rw[Array.getElem!_eq_getD,Array.getD_eq_getD_getElem?,he]
 rfl
theorem nW {P:Program} (w:World) {ops:Array Oper} {rest:List Oper} {o:Oper} {a:Act} {Q:Exit→Act→World→Prop}
  (hg:o.guard=none) (l c:Operand) (t:TypeId) (hop:o.op=Op.makeSlice t l c)
  {α:Type} (enc:α→List Value) (e:TypeId) (z:Value) (size bytes:Nat) (x:α) (hsz:∀x,(enc x).length=size) (hp:0<size) (h1:P.underlying t=some (.slice e)) (h2:(P.info? e).map (fun i=>(i.zero,i.size,i.bytes))=some (some z,size,bytes)) (hz:z.cells.toList=enc x)
  (kl kc:IntKind) (L C:Int) (n:Nat) (hl:a.eval l = .int kl L) (hc:a.eval c = .int kc C) (hL:L=(n:Int)) (hC:C=(n:Int)) (b2:bytes*n≤281474976710656) (b3:n≤maxLen)
  (hK:∀w',Own w' w.heap.size e size (.slice (some ⟨w.heap.size,0,none⟩) n n) n ((List.replicate n x).flatMap enc)→w.grownBy w' none→wpList P ops Q rest (a.put o.dst (.slice (some ⟨w.heap.size,0,none⟩) n n)) w') :
  wpList P ops Q (o::rest) a w:=by
 obtain⟨i,hi,hzz,hs,hb⟩:=info_parts h2
 refine wpList_make_full w hg l c t hop w.heap.size e i z size h1 hi hzz hs kl kc L C n hl hc hL hC (by rw[hb];exact b2) b3 (Nat.le_refl _) fun w' ho hgr=>hK w' ?_ hgr
 rw[wG enc size hsz hp z.cells x hz] at ho
 exact Own.of_owns ho
theorem own_ne {w:World} {B:Nat} {e:TypeId} {sz:Nat} {v:Value} {n:Nat} {xs:List Value} (h:Own w B e sz v n xs) {g:Nat} {cs:Array Value} {T:TypeId} (hk:aC w g cs T) (hT:T≠e):∀g',v.ownBlock=some g'→some g≠some g':=by
 intro g' hg' he
 cases he
 rcases h.2 with ⟨rfl,_⟩|⟨g2,off,cap,cur,rfl,_,hb,_⟩
 ·cases hg'
 ·cases hg'
  unfold aC at hk hb
  rw[hk] at hb
  simp only[Option.some.injEq,Obj.cells.injEq] at hb
  exact hT hb.2.1
theorem ak {w w' : World} {B:Nat} {e:TypeId} {sz:Nat} {v:Value} {n:Nat} {xs:List Value} (h:Own w B e sz v n xs) {g:Nat} {cs:Array Value} {T:TypeId} (hk:aC w g cs T) (hT:T≠e) (hgr:w.grownBy w' (some g)):Own w' B e sz v n xs:=
 h.grown hgr (own_ne h hk hT)
def kU (B:Nat) (e:TypeId) (sz n:Nat) (xs:List Value):ig:=⟨fun v w=>Own w B e sz v n xs,fun _ _ _ hb h=>h.below hb⟩
theorem eO {w:World} {X:Array Value} {TX:TypeId} (m:World→Prop) (h:∀W,Below w.heap.size w W→aC W w.heap.size X TX→W.heap.size=w.heap.size+1→m W):m (w.alloc (.cells X TX)):=
 h _ ((Below.refl _ _).alloc (Nat.le_refl _) _) (aC.new _ _ _) (by simp)
theorem pz {w:World} {X Y:Array Value} {TX TY:TypeId} (m:World→Prop) (h:∀W,Below w.heap.size w W→aC W w.heap.size X TX→aC W (w.heap.size+1) Y TY→W.heap.size=w.heap.size+2→m W) :
  m ((w.alloc (.cells X TX)).alloc (.cells Y TY)):=by
 refine eO (fun W=>m (W.alloc (.cells Y TY))) fun W1 hb hx hs => ?_
 refine eO m fun W2 hb2 hy hs2 => ?_
 rw[hs] at hy hs2
 exact h W2 (ag hb hb2) (hx.ext hb2) hy (by omega)
theorem JD {w:World} {X Y Z:Array Value} {TX TY TZ:TypeId} (m:World→Prop) (h:∀W,Below w.heap.size w W→aC W w.heap.size X TX→aC W (w.heap.size+1) Y TY→aC W (w.heap.size+2) Z TZ→W.heap.size=w.heap.size+3→m W) :
  m (((w.alloc (.cells X TX)).alloc (.cells Y TY)).alloc (.cells Z TZ)):=by
 refine pz (fun W=>m (W.alloc (.cells Z TZ))) fun W1 hb hx hy hs => ?_
 refine eO m fun W2 hb2 hz hs2 => ?_
 rw[hs] at hz hs2
 exact h W2 (ag hb hb2) (hx.ext hb2) (hy.ext hb2) hz (by omega)
theorem jb {P:Program} {ops:Array Oper} {ρ:Operand→Value} {o:Oper} {w w' : World} {l:List ig} {i:Nat} (v:Value) (hw:Region.wanted o (says ρ ops)=true) (hrun:(execOp ρ o).run P w = .ok (.value v) w') (hb:Below w.heap.size w w') (hR:rl l i v w') :
  if Region.wanted o (says ρ ops)=true then bJ P o ρ w (fun v w'=>Below w.heap.size w w'∧rl l i v w') else rl l i undef w:=by
 rw[if_pos hw]
 unfold bJ
 rw[hrun]
 exact⟨hb,hR⟩
theorem iy {w w' : World} (h:w.grownBy w' none):Below w.heap.size w w':=(Below.refl _ _).grown h (Nat.le_refl _) (fun k hk=>by cases hk)
theorem Own.empty (w:World) {B:Nat} (T:TypeId) {sz:Nat} (hB:B≤w.heap.size):Own (w.alloc (.cells #[] T)) B T sz (.slice (some ⟨w.heap.size,0,none⟩) 0 0) 0 []:=
 ⟨by simp,.inr ⟨w.heap.size,0,0,#[],rfl,hB,aC.new _ _ _,Nat.le_refl _,Nat.zero_le _,by simp,fun j u h=>by simp at h⟩⟩
def JU (ops:Array Oper) (m:Nat) (R:Nat→Value→World→Prop) (a0:Act) (w0:World) (listed:Array Bool) (a:Act) (w:World):Prop:=
 (∀i,m≤i→listed.getD i false=false)∧(∀i o,ops[i]?=some o→listed.getD i false=true→∀e∈o.after,listed.getD e.on false=true)∧∃y:Nat→Value,a = { a0 with tmps:=lay (fun i=>listed.getD i false) y ops.toList 0 a0.tmps }∧Below w0.heap.size w0 w∧∀i,i<ops.size→listed.getD i false=true→R i (y i) w
def nQ (ops:Array Oper):Nat→Nat→List Nat
 | 0,_=>[]
 | f+1,i=>match ops[i]? with
  | none=>[]
  | some o=>o.after.toList.flatMap fun e=>e.on::nQ ops f e.on
def dQ (ops:Array Oper) (m:Nat):Bool:=
 (List.range ops.size).all fun i=>decide (i<m)||(List.range i).all fun j=>(nQ ops ops.size i).contains j
theorem lT {ops:Array Oper} {listed:Array Bool} (hc:∀i o,ops[i]?=some o→listed.getD i false=true→∀e∈o.after,listed.getD e.on false=true):∀(f i:Nat),(∀o,ops[i]?=some o→∀e∈o.after,listed.getD e.on false=true)→∀j∈nQ ops f i,listed.getD j false=true
 | 0,_,_,j,hj=>by simp[nQ] at hj
 | f+1,i,h,j,hj=>by
  unfold nQ at hj
  cases ho:ops[i]? with
  | none=>simp[ho] at hj
  | some o=>
   simp only[ho,List.mem_flatMap] at hj
   obtain⟨e,he,hj⟩:=hj
   have he':=Array.mem_toList_iff.1 he
   rcases List.mem_cons.1 hj with rfl|hj
   ·exact h o ho e he'
   ·exact lT hc f e.on (fun o' ho'=>hc e.on o' ho' (h o ho e he')) j hj
theorem iY {ops:Array Oper} {m:Nat} (h:dQ ops m=true) {listed:Array Bool} (hc:∀i o,ops[i]?=some o→listed.getD i false=true→∀e∈o.after,listed.getD e.on false=true) {i:Nat} {o:Oper} (hi:ops[i]?=some o) (hL:∀e∈o.after,listed.getD e.on false=true) (hm:m≤i) (j:Nat) (hj:j<i):listed.getD j false=true:=by
 have hlt:i<ops.size:=(Array.getElem?_eq_some_iff.1 hi).1
 have h1:=List.all_eq_true.1 h i (List.mem_range.2 hlt)
 simp only[Bool.or_eq_true,decide_eq_true_eq] at h1
 rcases h1 with h1|h1
 ·omega
 ·have h2:=List.all_eq_true.1 h1 j (List.mem_range.2 hj)
  refine lT hc ops.size i (fun o' ho' => ?_) j (by simpa using h2)
  rw[hi] at ho'
  cases ho'
  exact hL
theorem gD {P:Program} {ops:Array Oper} {Q:Exit→Act→World→Prop} {m:Nat} (hok:eP ops=true) (ht:dQ ops m=true):∀(fuel k:Nat) (listed:Array Bool) (a:Act) (w:World),
  m≤k→k≤ops.size→ops.size-k≤fuel→listed.size=ops.size→(∀i,i<ops.size→listed.getD i false=decide (i<k))→wpList P ops Q (ops.toList.drop k) a w→wpAny P .any ops Q fuel listed a w:=by
 intro fuel
 induction fuel with
 | zero=>
  intro k listed a w hmk hk hf hsz hL h
  obtain rfl:k=ops.size:=by omega
  refine⟨?_,?_⟩
  ·rw[List.eq_nil_iff_forall_not_mem]
   intro i hi
   obtain⟨h1,o,ho,_⟩:=mem_ready.1 hi
   have hlt:i<ops.size:=(Array.getElem?_eq_some_iff.1 ho).1
   have:=hL i hlt
   simp[Array.getD_eq_getD_getElem?,show i<listed.size by omega] at h1 this
   rw[h1] at this
   simp[hlt] at this
  ·rw[List.drop_eq_nil_of_le (by simp)] at h
   simpa[wpList] using h
 | succ fuel ih=>
  intro k listed a w hmk hk hf hsz hL h
  have only:∀i∈Region.ready .any ops listed,i=k:=by
   intro i hi
   obtain⟨h1,o,ho,hdeps⟩:=mem_ready.1 hi
   have hlt:i<ops.size:=(Array.getElem?_eq_some_iff.1 ho).1
   have h2:=hL i hlt
   have h3:listed.getD i false=false:=by
    simp[Array.getD_eq_getD_getElem?,show i<listed.size by omega] at h1 ⊢
    exact h1
   rw[h3] at h2
   have hki:k≤i:=by
    have:=h2.symm
    simpa using this
   rcases Nat.lt_or_ge k i with hlt' | hge
   ·exfalso
    have h4:listed.getD k false=true:=iY ht (fun i' o' ho' hl' e he=>by
     have hi' : i' < ops.size:=(Array.getElem?_eq_some_iff.1 ho').1
     have h8:=(bT hok ho').2.1 e he
     rw[hL i' hi'] at hl'
     have h9:i' < k:=by simpa using hl'
     rw[hL e.on (by omega)]
     simp;omega) ho (fun e he=>hdeps e he ((bT hok ho).2.1 e he).1) (by omega) k hlt'
    have h5:=hL k (by omega)
    rw[h4] at h5
    simp at h5
   ·omega
  refine⟨fun hready => ?_,fun i hi => ?_⟩
  ·rcases Nat.lt_or_ge k ops.size with hlt|hge
   ·exfalso
    have:k∈Region.ready .any ops listed:=by
     rw[mem_ready]
     refine⟨?_,ops[k],by simp[hlt],fun e he hb => ?_⟩
     ·have:=hL k hlt
      simp[Array.getD_eq_getD_getElem?,show k<listed.size by omega] at this ⊢
      exact this
     ·have h6:=(bT hok (i:=k) (o:=ops[k]) (by simp[hlt])).2.1 e he
      rw[hL e.on (by omega)]
      simp[h6.2]
    rw[hready] at this
    cases this
   ·rw[List.drop_eq_nil_of_le (by simpa using hge)] at h
    simpa[wpList] using h
  ·obtain rfl:=only i hi
   obtain⟨_,o,ho,_⟩:=mem_ready.1 hi
   have hlt:i<ops.size:=(Array.getElem?_eq_some_iff.1 ho).1
   have hdrop:ops.toList.drop i=o::ops.toList.drop (i+1):=by
    rw[List.drop_eq_getElem_cons (by simpa using hlt)]
    congr 1
    have:=(Array.getElem?_eq_some_iff.1 ho).2
    simpa using this
   rw[hdrop] at h
   have hw:wpOp P ops Q i (wpList P ops Q (ops.toList.drop (i+1))) a w:=by
    unfold wpOp
    simp only[ho]
    simpa[wpList] using h
   refine wpOp_mono (fun a' w' h'=>ih (i+1) _ a' w' (by omega) (by omega) (by omega) (by simp[hsz]) (fun j hj => ?_) h') hw
   by_cases hji:j=i
   ·subst hji
    simp[Array.getD_eq_getD_getElem?,show j<listed.size by omega]
   ·have:=hL j hj
    simp only[Array.getD_eq_getD_getElem?,Array.getElem?_setIfInBounds_ne (Ne.symm hji)] at this ⊢
    rw[this]
    congr 1
    simp
    omega
theorem sH {P:Program} {ops:Array Oper} {Q:Exit→Act→World→Prop} {id:Nat} {a0:Act} {w0:World} (m:Nat) (hm:P.follows .mixedOrders=true) (hok:eP ops=true) (ht:dQ ops m=true) (hmn:m≤ops.size)
  (R:Nat→Value→World→Prop) (hstab:∀i v w w',Below w.heap.size w w'→R i v w→R i v w')
  (hstep:∀i o,i<m→ops[i]?=some o→∀y w,Below w0.heap.size w0 w→(∀j,o.after.toList.any (fun e=>e.on==j)=true→R j (y j) w) →
   if Region.wanted o (yielded ops (lay (fun _=>true) y ops.toList 0 a0.tmps))=true then Gives P o { a0 with tmps:=lay (fun _=>true) y ops.toList 0 a0.tmps } w (fun v w'=>Below w.heap.size w w'∧R i v w') else R i undef w)
  (hend:∀y w,Below w0.heap.size w0 w→(∀i,i<m→R i (y i) w)→wpList P ops Q (ops.toList.drop m) { a0 with tmps:=lay (fun i=>decide (i<m)) y ops.toList 0 a0.tmps } w) :
  (Code.region id ops true).wp P Q a0 w0:=by
 have hall:∀(fuel:Nat) (listed:Array Bool) (a:Act) (w:World),listed.size=ops.size→listed.toList.countP (!·)≤fuel→JU ops m R a0 w0 listed a w→wpAny P .any ops Q fuel listed a w:=by
  intro fuel
  induction fuel with
  | zero=>
   intro listed a w hsz hc hA
   have hl:∀i,i<ops.size→listed.getD i false=true:=by
    intro i hlt
    have h0:listed.toList.countP (!·)=0:=by omega
    have:=List.countP_eq_zero.1 h0 (listed[i]'(by omega)) (by simp)
    simpa[Array.getD_eq_getD_getElem?,show i<listed.size by omega] using this
   obtain⟨hno,hcl,y,ha,hb,hR⟩:=hA
   have hmn' : m=ops.size:=by
    rcases Nat.lt_or_ge m ops.size with h|h
    ·have h1:=hl m h
     rw[hno m (Nat.le_refl _)] at h1
     cases h1
    ·omega
   refine gD (m:=m) hok ht 0 ops.size listed a w (by omega) (Nat.le_refl _) (by omega) hsz (fun i hi=>by rw[hl i hi];simp[hi]) ?_
   have:=hend y w hb fun i hi=>hR i (by omega) (hl i (by omega))
   rw[ha,fO (fun i=>listed.getD i false) (fun i=>decide (i<m)) y ops.toList 0 a0.tmps (fun k hk=>by
    have hk' : k<ops.size:=by simpa using hk
    simp only[Nat.zero_add]
    rw[hl k hk']
    simp;omega)]
   rw[hmn'] at this ⊢
   exact this
  | succ fuel ih=>
   intro listed a w hsz hc hA
   by_cases hfull:∀i,i<m→listed.getD i false=true
   ·obtain⟨hno,hcl,y,ha,hb,hR⟩:=hA
    have hL:∀i,i<ops.size→listed.getD i false=decide (i<m):=by
     intro i hi
     by_cases him:i<m
     ·rw[hfull i him];simp[him]
     ·rw[hno i (by omega)];simp[him]
    have hcount:ops.size-m≤fuel+1:=by
     have h1:listed.toList.countP (!·)=ops.size-m:=by
      have e:listed.toList=List.replicate m true++List.replicate (ops.size-m) false:=by
       apply List.ext_getElem?
       intro i
       by_cases hi:i<ops.size
       ·have h2:=hL i hi
        rw[Array.getElem?_toList,Array.getElem?_eq_getElem (show i<listed.size by omega)]
        simp only[Array.getD_eq_getD_getElem?,Array.getElem?_eq_getElem (show i<listed.size by omega),Option.getD_some] at h2
        rw[h2]
        by_cases him:i<m
        ·rw[List.getElem?_append_left (by simpa using him)]
         simp[him]
        ·rw[List.getElem?_append_right (by simp;omega)]
         rw[List.length_replicate,List.getElem?_replicate,if_pos (by omega)]
         simp[him]
       ·rw[List.getElem?_eq_none (by simp;omega),List.getElem?_eq_none (by simp;omega)]
      rw[e]
      simp[List.countP_append,List.countP_replicate]
     omega
    refine gD (m:=m) hok ht (fuel+1) m listed a w (Nat.le_refl _) hmn hcount hsz hL ?_
    have:=hend y w hb fun i hi=>hR i (by omega) (hfull i hi)
    rw[ha,fO (fun i=>listed.getD i false) (fun i=>decide (i<m)) y ops.toList 0 a0.tmps (fun k hk=>by
     simp only[Nat.zero_add]
     exact hL k (by simpa using hk))]
    exact this
   ·have hready0:Region.ready .any ops listed≠[]:=by
     intro hready
     apply hfull
     intro i
     induction i using Nat.strongRecOn with
     | ind i ih'=>
      intro him
      by_cases hc' : listed.getD i false=true
      ·exact hc'
      ·exfalso
       have hi:i<ops.size:=by omega
       have hmem:i∈Region.ready .any ops listed:=by
        rw[mem_ready]
        refine⟨?_,ops[i],by simp[hi],fun e he _ => ?_⟩
        ·simpa[Array.getD_eq_getD_getElem?,show i<listed.size by omega] using hc'
        ·have:=(bT hok (i:=i) (o:=ops[i]) (by simp[hi])).2.1 e he
         exact ih' e.on this.2 (by omega)
       rw[hready] at hmem
       cases hmem
    refine⟨fun h=>absurd h hready0,fun i hi => ?_⟩
    obtain⟨h1,o,ho,hdeps⟩:=mem_ready.1 hi
    have hlt:i<ops.size:=(Array.getElem?_eq_some_iff.1 ho).1
    obtain⟨hsel,hbinds,_⟩:=bT hok ho
    have hL:∀e∈o.after,listed.getD e.on false=true:=fun e he=>hdeps e he (hbinds e he).1
    have him:i<m:=by
     rcases Nat.lt_or_ge i m with h|h
     ·exact h
     ·exfalso
      apply hfull
      intro j hj
      exact iY ht hA.2.1 ho hL h j (by omega)
    obtain⟨hno,hcl,y,ha,hb,hR⟩:=hA
    have hnext:∀v w',Below w.heap.size w w'→R i v w'→wpAny P .any ops Q fuel (listed.setIfInBounds i true) (a.put o.dst v) w':=by
     intro v w' hbw hv
     refine ih _ _ _ (by simp[hsz]) ?_ ⟨fun k hk => ?_,fun k o' ho' hk e he => ?_,fun k=>if k=i then v else y k,?_,hb.trans (hbw.mono hb.size),?_⟩
     ·have hil:i<listed.toList.length:=by simp;omega
      have hfalse:listed.toList[i]=false:=by
       simpa[Array.getD_eq_getD_getElem?,show i<listed.size by omega] using h1
      have:=List.countP_set (p:=(!·)) (l:=listed.toList) (i:=i) (a:=true) hil
      rw[hfalse] at this
      have hpos:0<listed.toList.countP (!·):=List.countP_pos_iff.2 ⟨listed.toList[i],List.getElem_mem hil,by rw[hfalse];rfl⟩
      simp only[Array.toList_setIfInBounds]
      simp only[Bool.not_false,Bool.not_true,if_true,Bool.false_eq_true,if_false] at this
      omega
     ·have:=hno k hk
      simp only[Array.getD_eq_getD_getElem?,Array.getElem?_setIfInBounds_ne (show i≠k by omega)] at this ⊢
      exact this
     ·have up:∀q,listed.getD q false=true→(listed.setIfInBounds i true).getD q false=true:=by
       intro q hq
       by_cases hqi:q=i
       ·subst hqi;simp[Array.getD_eq_getD_getElem?,show q<listed.size by omega]
       ·simpa[Array.getD_eq_getD_getElem?,Array.getElem?_setIfInBounds_ne (Ne.symm hqi)] using hq
      apply up
      by_cases hki:k=i
      ·subst hki
       rw[ho] at ho'
       cases ho'
       exact hL e he
      ·exact hcl k o' ho' (by simpa[Array.getD_eq_getD_getElem?,Array.getElem?_setIfInBounds_ne (Ne.symm hki)] using hk) e he
     ·rw[ha,qf hok ho hsz v]
     ·intro k hk hLk
      by_cases hki:k=i
      ·subst hki;simpa using hv
      ·have:listed.getD k false=true:=by
        simpa[Array.getD_eq_getD_getElem?,Array.getElem?_setIfInBounds_ne (Ne.symm hki)] using hLk
       simp only[hki,if_false]
       exact hstab _ _ _ _ hbw (hR k hk this)
    have heval:∀t∈o.looksAt ops,a.tmps[t]?=(lay (fun _=>true) y ops.toList 0 a0.tmps)[t]?:=fun t ht=>by
     rw[ha];exact lm hok ho hL t ht
    have hexec:execOp a.eval o=execOp ({ a0 with tmps:=lay (fun _=>true) y ops.toList 0 a0.tmps }:Act).eval o:=by
     refine execOp_congr o hsel fun x hx => ?_
     cases x with
     | tmp t=>
      have:=heval t (List.mem_append_left _ (List.mem_filterMap.2 ⟨.tmp t,by simpa using hx,rfl⟩))
      simp[Act.eval,this]
     | _=>rfl
    have hwant:Region.wanted o (yielded ops a.tmps)=Region.wanted o (yielded ops (lay (fun _=>true) y ops.toList 0 a0.tmps)):=by
     unfold Region.wanted
     cases hg:o.guard with
     | none=>rfl
     | some gw=>
      obtain⟨g,want⟩:=gw
      have:yielded ops a.tmps g=yielded ops (lay (fun _=>true) y ops.toList 0 a0.tmps) g:=by
       unfold yielded
       cases hd:(ops[g]?).bind (·.dst) with
       | none=>rfl
       | some t=>
        have:=heval t (List.mem_append_right _ (by simp[hg,hd]))
        simp[this]
      simp only[this]
    have hs:=hstep i o him ho y w hb (fun j hj=>by
     obtain⟨e,he,hej⟩:=List.any_eq_true.1 hj
     have hej' : e.on=j:=by simpa using hej
     subst hej'
     have he':=Array.mem_toList_iff.1 he
     exact hR e.on (by have:=(hbinds e he').2;omega) (hL e he'))
    by_cases hwt:Region.wanted o (yielded ops (lay (fun _=>true) y ops.toList 0 a0.tmps))=true
    ·rw[if_pos hwt] at hs
     exact iq ho (by rw[hwant];exact hwt) hexec hs fun v w' h=>hnext v w' h.1 h.2
    ·rw[if_neg hwt] at hs
     unfold wpOp
     simp only[ho]
     rw[if_neg (by rw[hwant];exact hwt)]
     exact hnext undef w (Below.refl _ _) hs
 refine wp_region_any hm (hall ops.size _ _ _ (by simp) ?_ ⟨fun i _ => ?_,fun i o' ho' hi => ?_,fun _=>undef,?_,?_,?_⟩)
 ·simpa using List.countP_le_length (p:=(!·)) (l:=List.replicate ops.size false)
 ·simp[Array.getD_eq_getD_getElem?,Array.getElem?_replicate];split<;>rfl
 ·exfalso
  have:i<ops.size:=(Array.getElem?_eq_some_iff.1 ho').1
  simp[Array.getD_eq_getD_getElem?,this] at hi
 ·have e:lay (fun i=>(Array.replicate ops.size false).getD i false) (fun _=>undef) ops.toList 0 a0.tmps=a0.tmps:=by
   apply Array.ext_getElem?
   intro s
   exact dN _ _ s _ 0 _ fun k o' hk hd=>by simp[Array.getD_eq_getD_getElem?,Array.getElem?_replicate];split<;>rfl
  rw[e]
 ·exact⟨rfl,rfl,rfl,Nat.le_refl _,fun _ _=>rfl⟩
 ·intro i hi hL
  simp[Array.getD_eq_getD_getElem?,hi] at hL
theorem EO {P:Program} {ops:Array Oper} {Q:Exit→Act→World→Prop} {id:Nat} {a0:Act} {w0:World} (m:Nat) (l:List ig) (hm:P.follows .mixedOrders=true) (hok:eP ops=true) (ht:dQ ops m=true) (hmn:m≤ops.size)
  (n:Nat) (hn:a0.tmps.size=n) (hsz:eY ops n=true)
  (hstep:aK (iM P ops a0 w0 l) 0 (ops.toList.take m))
  (hend:∀y w,Below w0.heap.size w0 w→(∀i,i<m→rl l i (y i) w)→wpList P ops Q (ops.toList.drop m) { a0 with tmps:=lay (fun i=>decide (i<m)) y ops.toList 0 a0.tmps } w) :
  (Code.region id ops true).wp P Q a0 w0:=by
 refine sH m hm hok ht hmn (rl l) (fun i v w w' hb h=>(l.getD i anyR).st v w w' hb h) (fun i o him hi y w hb hd => ?_) hend
 have hwr:∀t j,writer ops t=some j→({ a0 with tmps:=lay (fun _=>true) y ops.toList 0 a0.tmps }:Act).eval (.tmp t)=y j:=by
  intro t j hw
  unfold writer at hw
  have h1:=List.find?_some hw
  have h2:=List.mem_range.1 (List.mem_of_find?_eq_some hw)
  cases ho:ops[j]? with
  | none=>simp[ho] at h1
  | some p=>
   have hd' : p.dst=some t:=by simpa[ho] using h1
   have hlt:t<a0.tmps.size:=by
    have:=List.all_eq_true.1 hsz p (Array.mem_toList_iff.2 (Array.mem_of_getElem? ho))
    rw[hn]
    simpa[hd'] using this
   have hu:∀k' o',ops.toList[k']?=some o'→o'.dst=some t→k' = j:=by
    intro k' o' hk' hdk
    rcases ((bT hok (i:=k') (o:=o') (by simpa using hk')).2.2 j p t ho hd').1 with h|h
    ·exact h
    ·exact absurd hdk h
   have:=gu (fun _=>true) y t ops.toList 0 a0.tmps j p (by simpa using ho) hd' rfl hu hlt
   simp[Act.eval,this]
 have hno:∀x,(match x with | .tmp t=>writer ops t=none | _=>True)→({ a0 with tmps:=lay (fun _=>true) y ops.toList 0 a0.tmps }:Act).eval x=a0.eval x:=by
  intro x hx
  cases x with
  | tmp t=>
   have:(lay (fun _=>true) y ops.toList 0 a0.tmps)[t]?=a0.tmps[t]?:=by
    refine dN _ y t _ 0 _ fun k o' hk hd' => ?_
    exfalso
    simp only[writer] at hx
    have hk' : ops[k]?=some o':=by simpa using hk
    have hklt:k<ops.size:=(Array.getElem?_eq_some_iff.1 hk').1
    have:=List.find?_eq_none.1 hx k (List.mem_range.2 hklt)
    simp[hk',hd'] at this
   simp[Act.eval,this]
  | _=>rfl
 have hsays:Region.wanted o (yielded ops (lay (fun _=>true) y ops.toList 0 a0.tmps))=Region.wanted o (says ({ a0 with tmps:=lay (fun _=>true) y ops.toList 0 a0.tmps }:Act).eval ops):=by
  congr 1
  funext g
  unfold yielded says
  cases (ops[g]?).bind (·.dst) with
  | none=>rfl
  | some d=>
   simp only[Option.bind_some,Act.eval,Array.getD_eq_getD_getElem?]
   generalize (lay (fun _=>true) y ops.toList 0 a0.tmps)[d]?=q
   cases q with
   | none=>rfl
   | some v=>cases v<;>rfl
 have hi' : (ops.toList.take m)[i]?=some o:=by rw[List.getElem?_take,if_pos him];simpa using hi
 have:=aK.at hstep i o hi' _ y w hwr hno hb hd
 rw[Nat.zero_add] at this
 rw[hsays]
 exact this
def Fixed:List ig→Prop
 | []=>True
 | R::l=>(∀v w w',R.r v w→R.r v w')∧Fixed l
theorem fix_nil:Fixed []:=trivial
theorem vC {R:ig} {l:List ig} (h:∀v w w',R.r v w→R.r v w') (hl:Fixed l):Fixed (R::l):=⟨h,hl⟩
theorem Fixed.at:∀ {l:List ig},Fixed l→∀i v w w',rl l i v w→rl l i v w'
 | [],_,_,_,_,_,_=>by unfold rl;simp[anyR]
 | R::l,h,0,v,w,w',hr=>by unfold rl at hr ⊢; simpa using h.1 v w w' (by simpa using hr)
 | R::l,h,i+1,v,w,w',hr=>by
  have:=Fixed.at h.2 i v w w'
  unfold rl at hr this ⊢
  simp only[List.getD_cons_succ] at hr ⊢
  exact this hr
def aM (F:Value→Prop):ig:=⟨fun v _=>F v,fun _ _ _ _ h=>h⟩
def bO (y:Nat→Value) (i:Nat) (v:Value):Nat→Value:=fun k=>if k=i then v else y k
def JZ (ops:Array Oper) (m:Nat) (R:Nat→Value→World→Prop) (a0:Act) (J:(Nat→Bool)→(Nat→Value)→World→Prop) (listed:Array Bool) (a:Act) (w:World):Prop:=
 (∀i,m≤i→listed.getD i false=false)∧(∀i o,ops[i]?=some o→listed.getD i false=true→∀e∈o.after,listed.getD e.on false=true)∧∃y:Nat→Value,a = { a0 with tmps:=lay (fun i=>listed.getD i false) y ops.toList 0 a0.tmps }∧J (fun i=>listed.getD i false) y w∧∀i,i<ops.size→listed.getD i false=true→R i (y i) w
theorem De {P:Program} {ops:Array Oper} {Q:Exit→Act→World→Prop} {a0:Act} {w0:World} (m:Nat) (hok:eP ops=true) (ht:dQ ops m=true) (hmn:m≤ops.size)
  (R:Nat→Value→World→Prop) (J:(Nat→Bool)→(Nat→Value)→World→Prop) (hJ0:∀y,J (fun _=>false) y w0.drew) (hstab:∀i v w w',R i v w→R i v w')
  (hstep:∀i o,i<m→ops[i]?=some o→∀L y w,L i=false→(∀j,o.after.toList.any (fun e=>e.on==j)=true→L j=true)→J L y w→(∀j,o.after.toList.any (fun e=>e.on==j)=true→R j (y j) w) →
   if Region.wanted o (yielded ops (lay (fun _=>true) y ops.toList 0 a0.tmps))=true then Gives P o { a0 with tmps:=lay (fun _=>true) y ops.toList 0 a0.tmps } w (fun v w'=>J (bA L i) (bO y i v) w'∧R i v w') else J (bA L i) (bO y i undef) w∧R i undef w)
  (hend:∀y w,J (fun i=>decide (i<m)) y w→(∀i,i<m→R i (y i) w)→wpList P ops Q (ops.toList.drop m) { a0 with tmps:=lay (fun i=>decide (i<m)) y ops.toList 0 a0.tmps } w) :
  wpAny P .any ops Q ops.size (Array.replicate ops.size false) a0 w0.drew:=by
 have hall:∀(fuel:Nat) (listed:Array Bool) (a:Act) (w:World),listed.size=ops.size→listed.toList.countP (!·)≤fuel→JZ ops m R a0 J listed a w→wpAny P .any ops Q fuel listed a w:=by
  intro fuel
  induction fuel with
  | zero=>
   intro listed a w hsz hc hA
   have hl:∀i,i<ops.size→listed.getD i false=true:=by
    intro i hlt
    have h0:listed.toList.countP (!·)=0:=by omega
    have:=List.countP_eq_zero.1 h0 (listed[i]'(by omega)) (by simp)
    simpa[Array.getD_eq_getD_getElem?,show i<listed.size by omega] using this
   obtain⟨hno,hcl,y,ha,hb,hR⟩:=hA
   have hmn' : m=ops.size:=by
    rcases Nat.lt_or_ge m ops.size with h|h
    ·have h1:=hl m h
     rw[hno m (Nat.le_refl _)] at h1
     cases h1
    ·omega
   refine gD (m:=m) hok ht 0 ops.size listed a w (by omega) (Nat.le_refl _) (by omega) hsz (fun i hi=>by rw[hl i hi];simp[hi]) ?_
   have hfe:(fun i=>listed.getD i false)=fun i=>decide (i<m):=by
    funext i
    by_cases hi:i<m
    ·rw[hl i (by omega)];simp[hi]
    ·rw[hno i (by omega)];simp[hi]
   rw[hfe] at hb
   have:=hend y w hb fun i hi=>hR i (by omega) (hl i (by omega))
   rw[ha,fO (fun i=>listed.getD i false) (fun i=>decide (i<m)) y ops.toList 0 a0.tmps (fun k hk=>by
    have hk' : k<ops.size:=by simpa using hk
    simp only[Nat.zero_add]
    rw[hl k hk']
    simp;omega)]
   rw[hmn'] at this ⊢
   exact this
  | succ fuel ih=>
   intro listed a w hsz hc hA
   by_cases hfull:∀i,i<m→listed.getD i false=true
   ·obtain⟨hno,hcl,y,ha,hb,hR⟩:=hA
    have hL:∀i,i<ops.size→listed.getD i false=decide (i<m):=by
     intro i hi
     by_cases him:i<m
     ·rw[hfull i him];simp[him]
     ·rw[hno i (by omega)];simp[him]
    have hcount:ops.size-m≤fuel+1:=by
     have h1:listed.toList.countP (!·)=ops.size-m:=by
      have e:listed.toList=List.replicate m true++List.replicate (ops.size-m) false:=by
       apply List.ext_getElem?
       intro i
       by_cases hi:i<ops.size
       ·have h2:=hL i hi
        rw[Array.getElem?_toList,Array.getElem?_eq_getElem (show i<listed.size by omega)]
        simp only[Array.getD_eq_getD_getElem?,Array.getElem?_eq_getElem (show i<listed.size by omega),Option.getD_some] at h2
        rw[h2]
        by_cases him:i<m
        ·rw[List.getElem?_append_left (by simpa using him)]
         simp[him]
        ·rw[List.getElem?_append_right (by simp;omega)]
         rw[List.length_replicate,List.getElem?_replicate,if_pos (by omega)]
         simp[him]
       ·rw[List.getElem?_eq_none (by simp;omega),List.getElem?_eq_none (by simp;omega)]
      rw[e]
      simp[List.countP_append,List.countP_replicate]
     omega
    refine gD (m:=m) hok ht (fuel+1) m listed a w (Nat.le_refl _) hmn hcount hsz hL ?_
    have hfe:(fun i=>listed.getD i false)=fun i=>decide (i<m):=by
     funext i
     by_cases hi:i<m
     ·rw[hfull i hi];simp[hi]
     ·rw[hno i (by omega)];simp[hi]
    rw[hfe] at hb
    have:=hend y w hb fun i hi=>hR i (by omega) (hfull i hi)
    rw[ha,fO (fun i=>listed.getD i false) (fun i=>decide (i<m)) y ops.toList 0 a0.tmps (fun k hk=>by
     simp only[Nat.zero_add]
     exact hL k (by simpa using hk))]
    exact this
   ·have hready0:Region.ready .any ops listed≠[]:=by
     intro hready
     apply hfull
     intro i
     induction i using Nat.strongRecOn with
     | ind i ih'=>
      intro him
      by_cases hc' : listed.getD i false=true
      ·exact hc'
      ·exfalso
       have hi:i<ops.size:=by omega
       have hmem:i∈Region.ready .any ops listed:=by
        rw[mem_ready]
        refine⟨?_,ops[i],by simp[hi],fun e he _ => ?_⟩
        ·simpa[Array.getD_eq_getD_getElem?,show i<listed.size by omega] using hc'
        ·have:=(bT hok (i:=i) (o:=ops[i]) (by simp[hi])).2.1 e he
         exact ih' e.on this.2 (by omega)
       rw[hready] at hmem
       cases hmem
    refine⟨fun h=>absurd h hready0,fun i hi => ?_⟩
    obtain⟨h1,o,ho,hdeps⟩:=mem_ready.1 hi
    have hlt:i<ops.size:=(Array.getElem?_eq_some_iff.1 ho).1
    obtain⟨hsel,hbinds,_⟩:=bT hok ho
    have hL:∀e∈o.after,listed.getD e.on false=true:=fun e he=>hdeps e he (hbinds e he).1
    have him:i<m:=by
     rcases Nat.lt_or_ge i m with h|h
     ·exact h
     ·exfalso
      apply hfull
      intro j hj
      exact iY ht hA.2.1 ho hL h j (by omega)
    obtain⟨hno,hcl,y,ha,hb,hR⟩:=hA
    have hnext:∀v w',J (bA (fun i=>listed.getD i false) i) (bO y i v) w'→R i v w'→wpAny P .any ops Q fuel (listed.setIfInBounds i true) (a.put o.dst v) w':=by
     intro v w' hbw hv
     have hfe:bA (fun i=>listed.getD i false) i=fun k=>(listed.setIfInBounds i true).getD k false:=by
      funext k
      unfold bA
      by_cases hki:k=i
      ·subst hki
       simp[Array.getD_eq_getD_getElem?,show k<listed.size by omega]
      ·rw[if_neg hki]
       simp[Array.getD_eq_getD_getElem?,Array.getElem?_setIfInBounds_ne (Ne.symm hki)]
     rw[hfe] at hbw
     refine ih _ _ _ (by simp[hsz]) ?_ ⟨fun k hk => ?_,fun k o' ho' hk e he => ?_,fun k=>if k=i then v else y k,?_,hbw,?_⟩
     ·have hil:i<listed.toList.length:=by simp;omega
      have hfalse:listed.toList[i]=false:=by
       simpa[Array.getD_eq_getD_getElem?,show i<listed.size by omega] using h1
      have:=List.countP_set (p:=(!·)) (l:=listed.toList) (i:=i) (a:=true) hil
      rw[hfalse] at this
      have hpos:0<listed.toList.countP (!·):=List.countP_pos_iff.2 ⟨listed.toList[i],List.getElem_mem hil,by rw[hfalse];rfl⟩
      simp only[Array.toList_setIfInBounds]
      simp only[Bool.not_false,Bool.not_true,if_true,Bool.false_eq_true,if_false] at this
      omega
     ·have:=hno k hk
      simp only[Array.getD_eq_getD_getElem?,Array.getElem?_setIfInBounds_ne (show i≠k by omega)] at this ⊢
      exact this
     ·have up:∀q,listed.getD q false=true→(listed.setIfInBounds i true).getD q false=true:=by
       intro q hq
       by_cases hqi:q=i
       ·subst hqi;simp[Array.getD_eq_getD_getElem?,show q<listed.size by omega]
       ·simpa[Array.getD_eq_getD_getElem?,Array.getElem?_setIfInBounds_ne (Ne.symm hqi)] using hq
      apply up
      by_cases hki:k=i
      ·subst hki
       rw[ho] at ho'
       cases ho'
       exact hL e he
      ·exact hcl k o' ho' (by simpa[Array.getD_eq_getD_getElem?,Array.getElem?_setIfInBounds_ne (Ne.symm hki)] using hk) e he
     ·rw[ha,qf hok ho hsz v]
     ·intro k hk hLk
      by_cases hki:k=i
      ·subst hki;simpa using hv
      ·have:listed.getD k false=true:=by
        simpa[Array.getD_eq_getD_getElem?,Array.getElem?_setIfInBounds_ne (Ne.symm hki)] using hLk
       simp only[hki,if_false]
       exact hstab _ _ _ _ (hR k hk this)
    have heval:∀t∈o.looksAt ops,a.tmps[t]?=(lay (fun _=>true) y ops.toList 0 a0.tmps)[t]?:=fun t ht=>by
     rw[ha];exact lm hok ho hL t ht
    have hexec:execOp a.eval o=execOp ({ a0 with tmps:=lay (fun _=>true) y ops.toList 0 a0.tmps }:Act).eval o:=by
     refine execOp_congr o hsel fun x hx => ?_
     cases x with
     | tmp t=>
      have:=heval t (List.mem_append_left _ (List.mem_filterMap.2 ⟨.tmp t,by simpa using hx,rfl⟩))
      simp[Act.eval,this]
     | _=>rfl
    have hwant:Region.wanted o (yielded ops a.tmps)=Region.wanted o (yielded ops (lay (fun _=>true) y ops.toList 0 a0.tmps)):=by
     unfold Region.wanted
     cases hg:o.guard with
     | none=>rfl
     | some gw=>
      obtain⟨g,want⟩:=gw
      have:yielded ops a.tmps g=yielded ops (lay (fun _=>true) y ops.toList 0 a0.tmps) g:=by
       unfold yielded
       cases hd:(ops[g]?).bind (·.dst) with
       | none=>rfl
       | some t=>
        have:=heval t (List.mem_append_right _ (by simp[hg,hd]))
        simp[this]
      simp only[this]
    have hs:=hstep i o him ho (fun i=>listed.getD i false) y w (by simpa[Array.getD_eq_getD_getElem?,show i<listed.size by omega] using h1) (fun j hj=>by
     obtain⟨e,he,hej⟩:=List.any_eq_true.1 hj
     have hej' : e.on=j:=by simpa using hej
     subst hej'
     exact hL e (Array.mem_toList_iff.1 he)) hb (fun j hj=>by
     obtain⟨e,he,hej⟩:=List.any_eq_true.1 hj
     have hej' : e.on=j:=by simpa using hej
     subst hej'
     have he':=Array.mem_toList_iff.1 he
     exact hR e.on (by have:=(hbinds e he').2;omega) (hL e he'))
    by_cases hwt:Region.wanted o (yielded ops (lay (fun _=>true) y ops.toList 0 a0.tmps))=true
    ·rw[if_pos hwt] at hs
     exact iq ho (by rw[hwant];exact hwt) hexec hs fun v w' h=>hnext v w' h.1 h.2
    ·rw[if_neg hwt] at hs
     unfold wpOp
     simp only[ho]
     rw[if_neg (by rw[hwant];exact hwt)]
     exact hnext undef w hs.1 hs.2
 refine hall ops.size _ _ _ (by simp) ?_ ⟨fun i _ => ?_,fun i o' ho' hi => ?_,fun _=>undef,?_,?_,?_⟩
 ·simpa using List.countP_le_length (p:=(!·)) (l:=List.replicate ops.size false)
 ·simp[Array.getD_eq_getD_getElem?,Array.getElem?_replicate];split<;>rfl
 ·exfalso
  have:i<ops.size:=(Array.getElem?_eq_some_iff.1 ho').1
  simp[Array.getD_eq_getD_getElem?,this] at hi
 ·have e:lay (fun i=>(Array.replicate ops.size false).getD i false) (fun _=>undef) ops.toList 0 a0.tmps=a0.tmps:=by
   apply Array.ext_getElem?
   intro s
   exact dN _ _ s _ 0 _ fun k o' hk hd=>by simp[Array.getD_eq_getD_getElem?,Array.getElem?_replicate];split<;>rfl
  rw[e]
 ·have e:(fun i=>(Array.replicate ops.size false).getD i false)=fun _=>false:=by
   funext i
   simp[Array.getD_eq_getD_getElem?,Array.getElem?_replicate];split<;>rfl
  rw[e]
  exact hJ0 _
 ·intro i hi hL
  simp[Array.getD_eq_getD_getElem?,hi] at hL
def fV (P:Program) (ops:Array Oper) (a0:Act) (J:(Nat→Bool)→(Nat→Value)→World→Prop) (l:List ig) (i:Nat) (o:Oper):Prop:=
 ∀(ρ:Operand→Value) (y:Nat→Value) (w:World) (L:Nat→Bool),(∀t j,writer ops t=some j→ρ (.tmp t)=y j)→(∀x,(match x with | .tmp t=>writer ops t=none | _=>True)→ρ x=a0.eval x) →
  L i=false→(∀j,o.after.toList.any (fun e=>e.on==j)=true→L j=true)→J L y w→(∀j,o.after.toList.any (fun e=>e.on==j)=true→rl l j (y j) w) →
  if Region.wanted o (says ρ ops)=true then bJ P o ρ w (fun v w'=>J (bA L i) (bO y i v) w'∧rl l i v w') else J (bA L i) (bO y i undef) w∧rl l i undef w
theorem rP {P:Program} {ops:Array Oper} {Q:Exit→Act→World→Prop} {a0:Act} {w0:World} (m:Nat) (l:List ig) (J:(Nat→Bool)→(Nat→Value)→World→Prop) (hst:∀L y w w',Below w.heap.size w w'→J L y w→J L y w') (hJ0:∀y,J (fun _=>false) y w0) (hfix:Fixed l) (hok:eP ops=true) (ht:dQ ops m=true) (hmn:m≤ops.size)
  (n:Nat) (hn:a0.tmps.size=n) (hsz:eY ops n=true)
  (hstep:aK (fV P ops a0 J l) 0 (ops.toList.take m))
  (hend:∀y w,J (fun i=>decide (i<m)) y w→(∀i,i<m→rl l i (y i) w)→wpList P ops Q (ops.toList.drop m) { a0 with tmps:=lay (fun i=>decide (i<m)) y ops.toList 0 a0.tmps } w) :
  wpAny P .any ops Q ops.size (Array.replicate ops.size false) a0 w0.drew:=by
 refine De m hok ht hmn (rl l) J (fun y=>hst _ y w0 w0.drew ⟨rfl,rfl,rfl,Nat.le_refl _,fun _ _=>rfl⟩ (hJ0 y)) (fun i v w w' h=>hfix.at i v w w' h) (fun i o him hi L y w hLi hLd hb hd => ?_) hend
 have hwr:∀t j,writer ops t=some j→({ a0 with tmps:=lay (fun _=>true) y ops.toList 0 a0.tmps }:Act).eval (.tmp t)=y j:=by
  intro t j hw
  unfold writer at hw
  have h1:=List.find?_some hw
  have h2:=List.mem_range.1 (List.mem_of_find?_eq_some hw)
  cases ho:ops[j]? with
  | none=>simp[ho] at h1
  | some p=>
   have hd' : p.dst=some t:=by simpa[ho] using h1
   have hlt:t<a0.tmps.size:=by
    have:=List.all_eq_true.1 hsz p (Array.mem_toList_iff.2 (Array.mem_of_getElem? ho))
    rw[hn]
    simpa[hd'] using this
   have hu:∀k' o',ops.toList[k']?=some o'→o'.dst=some t→k' = j:=by
    intro k' o' hk' hdk
    rcases ((bT hok (i:=k') (o:=o') (by simpa using hk')).2.2 j p t ho hd').1 with h|h
    ·exact h
    ·exact absurd hdk h
   have:=gu (fun _=>true) y t ops.toList 0 a0.tmps j p (by simpa using ho) hd' rfl hu hlt
   simp[Act.eval,this]
 have hno:∀x,(match x with | .tmp t=>writer ops t=none | _=>True)→({ a0 with tmps:=lay (fun _=>true) y ops.toList 0 a0.tmps }:Act).eval x=a0.eval x:=by
  intro x hx
  cases x with
  | tmp t=>
   have:(lay (fun _=>true) y ops.toList 0 a0.tmps)[t]?=a0.tmps[t]?:=by
    refine dN _ y t _ 0 _ fun k o' hk hd' => ?_
    exfalso
    simp only[writer] at hx
    have hk' : ops[k]?=some o':=by simpa using hk
    have hklt:k<ops.size:=(Array.getElem?_eq_some_iff.1 hk').1
    have:=List.find?_eq_none.1 hx k (List.mem_range.2 hklt)
    simp[hk',hd'] at this
   simp[Act.eval,this]
  | _=>rfl
 have hsays:Region.wanted o (yielded ops (lay (fun _=>true) y ops.toList 0 a0.tmps))=Region.wanted o (says ({ a0 with tmps:=lay (fun _=>true) y ops.toList 0 a0.tmps }:Act).eval ops):=by
  congr 1
  funext g
  unfold yielded says
  cases (ops[g]?).bind (·.dst) with
  | none=>rfl
  | some d=>
   simp only[Option.bind_some,Act.eval,Array.getD_eq_getD_getElem?]
   generalize (lay (fun _=>true) y ops.toList 0 a0.tmps)[d]?=q
   cases q with
   | none=>rfl
   | some v=>cases v<;>rfl
 have hi' : (ops.toList.take m)[i]?=some o:=by rw[List.getElem?_take,if_pos him];simpa using hi
 have:=aK.at hstep i o hi' _ y w L hwr hno (by rw[Nat.zero_add];exact hLi) hLd hb hd
 rw[Nat.zero_add] at this
 rw[hsays]
 exact this
theorem Eg {P:Program} {ops:Array Oper} {Q:Exit→Act→World→Prop} {id:Nat} {a0:Act} {w0:World} (m:Nat) (l:List ig) (J:(Nat→Bool)→(Nat→Value)→World→Prop) (hst:∀L y w w',Below w.heap.size w w'→J L y w→J L y w') (hJ0:∀y,J (fun _=>false) y w0) (hfix:Fixed l) (hm:P.follows .mixedOrders=true) (hok:eP ops=true) (ht:dQ ops m=true) (hmn:m≤ops.size)
  (n:Nat) (hn:a0.tmps.size=n) (hsz:eY ops n=true)
  (hstep:aK (fV P ops a0 J l) 0 (ops.toList.take m))
  (hend:∀y w,J (fun i=>decide (i<m)) y w→(∀i,i<m→rl l i (y i) w)→wpList P ops Q (ops.toList.drop m) { a0 with tmps:=lay (fun i=>decide (i<m)) y ops.toList 0 a0.tmps } w) :
  (Code.region id ops true).wp P Q a0 w0:=
 wp_region_any hm (rP m l J hst hJ0 hfix hok ht hmn n hn hsz hstep hend)
theorem bG {P:Program} {ops:Array Oper} {ρ:Operand→Value} {o:Oper} {w:World} {l:List ig} {i:Nat} {J:(Nat→Bool)→(Nat→Value)→World→Prop} {L:Nat→Bool} {y:Nat→Value} (hst:∀L y w w',Below w.heap.size w w'→J L y w→J L y w')
  (hpure:∀v w,J L y w→J (bA L i) (bO y i v) w) (hJ:J L y w)
  (h:if Region.wanted o (says ρ ops)=true then bJ P o ρ w (fun v w'=>Below w.heap.size w w'∧rl l i v w') else rl l i undef w) :
  if Region.wanted o (says ρ ops)=true then bJ P o ρ w (fun v w'=>J (bA L i) (bO y i v) w'∧rl l i v w') else J (bA L i) (bO y i undef) w∧rl l i undef w:=by
 split at h
 ·rename_i hw
  rw[if_pos hw]
  unfold bJ at h ⊢
  split at h
  ·exact⟨hpure _ _ (hst _ _ _ _ h.1 hJ),h.2⟩
  ·exact⟨hpure _ _ (hst _ _ _ _ h.1 hJ),h.2⟩
  ·refine Calls.mono h fun e w'' he => ?_
   cases e with
   | returned v=>exact⟨hpure _ _ (hst _ _ _ _ he.1 hJ),he.2⟩
   | panicked c=>exact he.elim
   | outgrown=>exact he.elim
  ·exact h.elim
 ·rename_i hw
  rw[if_neg hw]
  exact⟨hpure _ _ hJ,h⟩
theorem dK {P:Program} {ops:Array Oper} {ρ:Operand→Value} {o:Oper} {w:World} {l:List ig} {i:Nat} {J:(Nat→Bool)→(Nat→Value)→World→Prop} {L:Nat→Bool} {y:Nat→Value} (f:FuncId) (args:Array Value) (hw:Region.wanted o (says ρ ops)=true) (hrun:(execOp ρ o).run P w = .ok (.enter f args) w)
  (hc:Calls P f args w fun e w' => ∃v,e = .returned v∧J (bA L i) (bO y i v) w'∧rl l i v w') :
  if Region.wanted o (says ρ ops)=true then bJ P o ρ w (fun v w'=>J (bA L i) (bO y i v) w'∧rl l i v w') else J (bA L i) (bO y i undef) w∧rl l i undef w:=by
 rw[if_pos hw]
 unfold bJ
 rw[hrun]
 refine hc.mono fun e w' ⟨v,he,h⟩ => ?_
 subst he
 exact h
theorem bi {P:Program} {ops:Array Oper} {ρ:Operand→Value} {o:Oper} {w w' : World} {l:List ig} {i:Nat} {J:(Nat→Bool)→(Nat→Value)→World→Prop} {L:Nat→Bool} {y:Nat→Value} (v:Value) (hw:Region.wanted o (says ρ ops)=true) (hrun:(execOp ρ o).run P w = .ok (.value v) w')
  (hJ:J (bA L i) (bO y i v) w') (hR:rl l i v w') :
  if Region.wanted o (says ρ ops)=true then bJ P o ρ w (fun v w'=>J (bA L i) (bO y i v) w'∧rl l i v w') else J (bA L i) (bO y i undef) w∧rl l i undef w:=by
 rw[if_pos hw]
 unfold bJ
 rw[hrun]
 exact⟨hJ,hR⟩
inductive RV where
 | v (V:Value)
 | r (i:Nat) (R:ig)
def RV.R:RV→ig
 | .v V=>ni V
 | .r _ R=>R
def rvs:List RV→List ig
 | []=>[]
 | a::l=>a.R::rvs l
def rvN:RV:=.r 0 anyR
theorem rvs_at:∀(l:List RV) (i:Nat),(rvs l).getD i anyR=(l.getD i rvN).R
 | [],_=>rfl
 | _::_,0=>rfl
 | _::l,i+1=>by
  have:=rvs_at l i
  simpa[rvs] using this
theorem yI {l:List RV} {i:Nat} {V v:Value} {w:World} (hr:l.getD i rvN = .v V) (e:v=V):rl (rvs l) i v w:=by
 unfold rl
 rw[rvs_at,hr]
 exact e
def rvK:List RV→Nat→Option Value
 | .v V::_,0=>some V
 | _::l,k+1=>rvK l k
 | _,_=>none
theorem rvK_at:∀ {l:List RV} {k:Nat} {V:Value},rvK l k=some V→l.getD k rvN = .v V
 | .v V::_,0,_,h=>by cases h;rfl
 | .v _::l,k+1,_,h=>by simpa using rvK_at (l:=l) (k:=k) h
 | .r _ _::l,k+1,_,h=>by simpa using rvK_at (l:=l) (k:=k) h
 | .r _ _::_,0,_,h=>by cases h
 | [],0,_,h=>by cases h
 | [],_+1,_,h=>by cases h
def kt (ops:Array Oper) (a0:Act) (l:List RV) (o:Oper) (t:Nat):Option Value:=
 match writer ops t with
 | some k=>cond (o.after.toList.any fun e=>e.on==k) (rvK l k) none
 | none=>a0.tmps.toList[t]?
def kx (ops:Array Oper) (a0:Act) (l:List RV) (o:Oper):Operand→Option Value
 | .tmp t=>kt ops a0 l o t
 | .const v=>some v
 | .func f=>some (.func (.func f) #[] #[])
 | .global g=>some (.pointer (some ⟨g,0,none⟩))
def kg (ops:Array Oper) (a0:Act) (l:List RV) (o:Oper):Option Bool:=
 match o.guard with
 | none=>some true
 | some (g,want)=>match (ops[g]?).bind (·.dst) with
  | none=>none
  | some d=>match kt ops a0 l o d with
   | some (.bool b)=>some (b==want)
   | some (.tuple _)=>some false
   | _=>none
def KP (ops:Array Oper) (a0:Act) (l:List RV) (o:Oper):Option Value:=
 match o.op with
 | .move x=>kx ops a0 l o x
 | .assign x=>kx ops a0 l o x
 | .nilCheck x=>match kx ops a0 l o x with
  | some (.pointer (some a))=>some (.pointer (some a))
  | _=>none
 | .unOp .not _ x=>match kx ops a0 l o x with
  | some (.bool true)=>some (.bool false)
  | some (.bool false)=>some (.bool true)
  | _=>none
 | .pick c x y=>match kx ops a0 l o c with
  | some (.bool true)=>kx ops a0 l o x
  | some (.bool false)=>kx ops a0 l o y
  | _=>none
 | _=>none
def ks (ops:Array Oper) (a0:Act) (l:List RV) (o:Oper):Option Value:=
 match kg ops a0 l o with
 | some true=>KP ops a0 l o
 | some false=>some undef
 | none=>none
section
variable {P:Program} {ops:Array Oper} {a0:Act} {w0:World} {l:List RV} {i:Nat} {o:Oper}
def Kn (ops:Array Oper) (a0:Act) (l:List RV) (o:Oper) (ρ:Operand→Value) (y:Nat→Value) (w:World):Prop:=
 (∀t j,writer ops t=some j→ρ (.tmp t)=y j)∧(∀x,(match x with | .tmp t=>writer ops t=none | _=>True)→ρ x=a0.eval x)∧∀j,o.after.toList.any (fun e=>e.on==j)=true→rl (rvs l) j (y j) w
theorem IX {t:Nat} {v:Value} (h:kt ops a0 l o t=some v) {ρ:Operand→Value} {y:Nat→Value} {w:World} (hk:Kn ops a0 l o ρ y w):ρ (.tmp t)=v:=by
 unfold kt at h
 cases hw:writer ops t with
 | none=>
  rw[hw] at h
  have h' : a0.tmps.toList[t]?=some v:=h
  rw[hk.2.1 (.tmp t) hw]
  simp only[Array.getElem?_toList] at h'
  simp[Act.eval,h']
 | some k=>
  rw[hw] at h
  have h' : cond (o.after.toList.any fun e=>e.on==k) (rvK l k) none=some v:=h
  cases ha:o.after.toList.any fun e=>e.on==k with
  | false=>rw[ha] at h'; cases h'
  | true=>
   rw[ha] at h'
   have h1:=hk.2.2 k ha
   unfold rl at h1
   rw[rvs_at,rvK_at h'] at h1
   exact (hk.1 t k hw).trans h1
theorem az {x:Operand} {v:Value} (h:kx ops a0 l o x=some v) {ρ:Operand→Value} {y:Nat→Value} {w:World} (hk:Kn ops a0 l o ρ y w):ρ x=v:=by
 cases x with
 | tmp t=>exact IX h hk
 | const c=>rw[hk.2.1 (.const c) trivial];cases h;rfl
 | func f=>rw[hk.2.1 (.func f) trivial];cases h;rfl
 | global g=>rw[hk.2.1 (.global g) trivial];cases h;rfl
theorem uu {b:Bool} (h:kg ops a0 l o=some b) {ρ:Operand→Value} {y:Nat→Value} {w:World} (hk:Kn ops a0 l o ρ y w):Region.wanted o (says ρ ops)=b:=by
 unfold kg at h
 unfold Region.wanted
 cases hg:o.guard with
 | none=>rw[hg] at h;cases h;rfl
 | some q=>
  obtain⟨g,want⟩:=q
  rw[hg] at h
  simp only at h
  cases hd:(ops[g]?).bind (·.dst) with
  | none=>rw[hd] at h;cases h
  | some d=>
   rw[hd] at h
   simp only at h
   cases hv:kt ops a0 l o d with
   | none=>rw[hv] at h;cases h
   | some v=>
    rw[hv] at h
    have e:=IX hv hk
    unfold says
    simp only[hd,e]
    cases v with
    | bool c=>cases h;cases c<;>cases want<;>rfl
    | tuple c=>cases h;rfl
    | _=>cases h
def pJ (P:Program) (ops:Array Oper) (a0:Act) (l:List RV) (i:Nat) (o:Oper):Prop:=
 ∀(ρ:Operand→Value) (y:Nat→Value) (w:World),Kn ops a0 l o ρ y w→(Region.wanted o (says ρ ops)=false∧rl (rvs l) i undef w)∨(Region.wanted o (says ρ ops)=true∧∃v,(execOp ρ o).run P w = .ok (.value v) w∧rl (rvs l) i v w)
theorem pJ.run {V:Value} (hg:kg ops a0 l o=some true) (hr:l.getD i rvN = .v V) (h:∀ρ y w,Kn ops a0 l o ρ y w→(execOp ρ o).run P w = .ok (.value V) w):pJ P ops a0 l i o:=fun ρ y w hk => .inr ⟨uu hg hk,V,h ρ y w hk,yI hr rfl⟩
theorem Jb {V:Value} (h:ks ops a0 l o=some V) (hr:l.getD i rvN = .v V):pJ P ops a0 l i o:=by
 unfold ks at h
 cases hg:kg ops a0 l o with
 | none=>rw[hg] at h;cases h
 | some b=>
  rw[hg] at h
  cases b with
  | false=>
   cases h
   exact fun ρ y w hk => .inl ⟨uu hg hk,yI hr rfl⟩
  | true=>
   have h' : KP ops a0 l o=some V:=h
   refine pJ.run hg hr fun ρ y w hk => ?_
   unfold KP at h'
   split at h'
   ·rename_i x ho;exact run_move (.inl ho) (az h' hk)
   ·rename_i x ho;exact run_move (.inr ho) (az h' hk)
   ·rename_i x ho
    split at h'
    ·rename_i a hx
     cases h'
     have e:=az hx hk
     simp[execOp,go_sem,ho,e]
    ·cases h'
   ·rename_i t x ho
    split at h'
    ·rename_i hx;cases h'; exact sO ho (az hx hk)
    ·rename_i hx;cases h'; exact sO ho (az hx hk)
    ·cases h'
   ·rename_i c x y' ho
    split at h'
    ·rename_i hc;exact jw ho (az hc hk) (az h' hk)
    ·rename_i hc;exact jw ho (az hc hk) (az h' hk)
    ·cases h'
   ·cases h'
theorem pJ.asked (h:pJ P ops a0 l i o):iM P ops a0 w0 (rvs l) i o:=fun ρ y w hw hn _ hd=>by
 rcases h ρ y w ⟨hw,hn,hd⟩ with ⟨h1,h2⟩|⟨h1,v,h2,h3⟩
 ·exact ug h1 h2
 ·exact aj v h1 h2 h3
theorem pJ.askedQ {J:(Nat→Bool)→(Nat→Value)→World→Prop} (hst:∀L y w w',Below w.heap.size w w'→J L y w→J L y w') (hp:∀L y v w,(∀j,o.after.toList.any (fun e=>e.on==j)=true→L j=true)→J L y w→J (bA L i) (bO y i v) w) (h:pJ P ops a0 l i o):fV P ops a0 J (rvs l) i o:=fun ρ y w L hw hn _ hLd hJ hd=>by
 rcases h ρ y w ⟨hw,hn,hd⟩ with ⟨h1,h2⟩|⟨h1,v,h2,h3⟩
 ·exact bG hst (fun v w=>hp L y v w hLd) hJ (ug h1 h2)
 ·exact bG hst (fun v w=>hp L y v w hLd) hJ (aj v h1 h2 h3)
variable {C:Nat→Oper→Prop} {r:List Oper}
theorem Gm (hC:pJ P ops a0 l i o→C i o) (h:(ks ops a0 l o).map RV.v=some (l.getD i rvN)) (hl:aK C (i+1) r):aK C i (o::r):=⟨hC (by
 cases hk:ks ops a0 l o with
 | none=>rw[hk] at h;cases h
 | some V=>
  rw[hk] at h
  exact Jb hk (Option.some.inj h).symm),hl⟩
theorem Gk (h:(ks ops a0 l o).map RV.v=some (l.getD i rvN)) (hl:aK (iM P ops a0 w0 (rvs l)) (i+1) r):aK (iM P ops a0 w0 (rvs l)) i (o::r):=Gm pJ.asked h hl
def Kt (ops:Array Oper) (a0:Act) (l:List RV) (o:Oper):Option (TypeId × Value × Nat):=
 match kg ops a0 l o with
 | some true=>match o.op with
  | .fieldAddr t x f=>(kx ops a0 l o x).map fun v=>(t,v,f)
  | _=>none
 | _=>none
theorem AX (hC:pJ P ops a0 l i o→C i o) (b k:Nat) {t:TypeId} {v:Value} {f:Nat} (h:Kt ops a0 l o=some (t,v,f)) (hr:l.getD i rvN = .v (.pointer (some ⟨b,k,none⟩))) (hl:aK C (i+1) r) (hf:∀w,(Instr.fieldAt t v f).run P w = .ok (.pointer (some ⟨b,k,none⟩)) w:=by intro _;kernel_rfl):aK C i (o::r):=by
 refine⟨hC ?_,hl⟩
 unfold Kt at h
 split at h
 ·rename_i hg
  split at h
  ·rename_i t' x f' ho
   cases hx:kx ops a0 l o x with
   | none=>rw[hx] at h;cases h
   | some v'=>
    rw[hx] at h
    cases h
    exact pJ.run hg hr fun ρ y w hk=>vG ho (az hx hk) (hf w)
  ·cases h
 ·cases h
theorem Gf (b k:Nat) {t:TypeId} {v:Value} {f:Nat} (h:Kt ops a0 l o=some (t,v,f)) (hr:l.getD i rvN = .v (.pointer (some ⟨b,k,none⟩))) (hl:aK (iM P ops a0 w0 (rvs l)) (i+1) r) (hf:∀w,(Instr.fieldAt t v f).run P w = .ok (.pointer (some ⟨b,k,none⟩)) w:=by intro _;kernel_rfl):aK (iM P ops a0 w0 (rvs l)) i (o::r):=AX pJ.asked b k h hr hl hf
theorem Fp (hC:pJ P ops a0 l i o→C i o) {x:Operand} {t:TypeId} {a:Option Addr} {n c:Nat} (hg:kg ops a0 l o=some true) (ho:o.op = .call { callee:=.builtin .len,args:=#[x],argTypes:=#[t] }) (hx:kx ops a0 l o x=some (.slice a n c)) (hr:l.getD i rvN = .v (.int .i64 n)) (hl:aK C (i+1) r) (ht:P.underlying t=some (.slice (P.elem t)):=by rfl):aK C i (o::r):=
 ⟨hC (pJ.run hg hr fun ρ y w hk=>yR ho (az hx hk) ht),hl⟩
theorem Gn {x:Operand} {t:TypeId} {a:Option Addr} {n c:Nat} (hg:kg ops a0 l o=some true) (ho:o.op = .call { callee:=.builtin .len,args:=#[x],argTypes:=#[t] }) (hx:kx ops a0 l o x=some (.slice a n c)) (hr:l.getD i rvN = .v (.int .i64 n)) (hl:aK (iM P ops a0 w0 (rvs l)) (i+1) r) (ht:P.underlying t=some (.slice (P.elem t)):=by rfl):aK (iM P ops a0 w0 (rvs l)) i (o::r):=Fp pJ.asked hg ho hx hr hl ht
theorem Fe (hC:pJ P ops a0 l i o→C i o) (V:Value) {op:BinOp} {t t' : TypeId} {x y:Operand} {vx vy:Value} (hr:∀w,(do eqGuard op t x y vx vy;binOp op t vx vy:Sem Value).run P w = .ok V w) (hg:kg ops a0 l o=some true) (ho:o.op = .binOp op t x y t') (hx:kx ops a0 l o x=some vx) (hy:kx ops a0 l o y=some vy) (hv:l.getD i rvN = .v V) (hl:aK C (i+1) r):aK C i (o::r):=
 ⟨hC (pJ.run hg hv fun ρ y w hk=>jo ho (az hx hk) (az hy hk) (hr w)),hl⟩
theorem Gb (V:Value) {op:BinOp} {t t' : TypeId} {x y:Operand} {vx vy:Value} (hr:∀w,(do eqGuard op t x y vx vy;binOp op t vx vy:Sem Value).run P w = .ok V w) (hg:kg ops a0 l o=some true) (ho:o.op = .binOp op t x y t') (hx:kx ops a0 l o x=some vx) (hy:kx ops a0 l o y=some vy) (hv:l.getD i rvN = .v V) (hl:aK (iM P ops a0 w0 (rvs l)) (i+1) r):aK (iM P ops a0 w0 (rvs l)) i (o::r):=Fe pJ.asked V hr hg ho hx hy hv hl
theorem Jd (hC:pJ P ops a0 l i o→C i o) (V:Value) (h:∀ρ y w,Kn ops a0 l o ρ y w→(execOp ρ o).run P w = .ok (.value V) w) (hg:kg ops a0 l o=some true) (hv:l.getD i rvN = .v V) (hl:aK C (i+1) r):aK C i (o::r):=⟨hC (pJ.run hg hv h),hl⟩
section
variable {J:(Nat→Bool)→(Nat→Value)→World→Prop}
theorem Qk (hst:∀L y w w',Below w.heap.size w w'→J L y w→J L y w') (h:(ks ops a0 l o).map RV.v=some (l.getD i rvN)) (hl:aK (fV P ops a0 J (rvs l)) (i+1) r) (hp:∀L y v w,(∀j,o.after.toList.any (fun e=>e.on==j)=true→L j=true)→J L y w→J (bA L i) (bO y i v) w:=by intro _ _ _ _ _ h;exact h):aK (fV P ops a0 J (rvs l)) i (o::r):=Gm (pJ.askedQ hst hp) h hl
theorem Qf (hst:∀L y w w',Below w.heap.size w w'→J L y w→J L y w') (b k:Nat) {t:TypeId} {v:Value} {f:Nat} (h:Kt ops a0 l o=some (t,v,f)) (hr:l.getD i rvN = .v (.pointer (some ⟨b,k,none⟩))) (hl:aK (fV P ops a0 J (rvs l)) (i+1) r) (hp:∀L y v w,(∀j,o.after.toList.any (fun e=>e.on==j)=true→L j=true)→J L y w→J (bA L i) (bO y i v) w:=by intro _ _ _ _ _ h;exact h) (hf:∀w,(Instr.fieldAt t v f).run P w = .ok (.pointer (some ⟨b,k,none⟩)) w:=by intro _;kernel_rfl):aK (fV P ops a0 J (rvs l)) i (o::r):=AX (pJ.askedQ hst hp) b k h hr hl hf
theorem Qn (hst:∀L y w w',Below w.heap.size w w'→J L y w→J L y w') {x:Operand} {t:TypeId} {a:Option Addr} {n c:Nat} (hg:kg ops a0 l o=some true) (ho:o.op = .call { callee:=.builtin .len,args:=#[x],argTypes:=#[t] }) (hx:kx ops a0 l o x=some (.slice a n c)) (hr:l.getD i rvN = .v (.int .i64 n)) (hl:aK (fV P ops a0 J (rvs l)) (i+1) r) (hp:∀L y v w,(∀j,o.after.toList.any (fun e=>e.on==j)=true→L j=true)→J L y w→J (bA L i) (bO y i v) w:=by intro _ _ _ _ _ h;exact h) (ht:P.underlying t=some (.slice (P.elem t)):=by rfl):aK (fV P ops a0 J (rvs l)) i (o::r):=Fp (pJ.askedQ hst hp) hg ho hx hr hl ht
theorem Qb (hst:∀L y w w',Below w.heap.size w w'→J L y w→J L y w') (V:Value) {op:BinOp} {t t' : TypeId} {x y:Operand} {vx vy:Value} (hr:∀w,(do eqGuard op t x y vx vy;binOp op t vx vy:Sem Value).run P w = .ok V w) (hg:kg ops a0 l o=some true) (ho:o.op = .binOp op t x y t') (hx:kx ops a0 l o x=some vx) (hy:kx ops a0 l o y=some vy) (hv:l.getD i rvN = .v V) (hl:aK (fV P ops a0 J (rvs l)) (i+1) r) (hp:∀L y v w,(∀j,o.after.toList.any (fun e=>e.on==j)=true→L j=true)→J L y w→J (bA L i) (bO y i v) w:=by intro _ _ _ _ _ h;exact h):aK (fV P ops a0 J (rvs l)) i (o::r):=Fe (pJ.askedQ hst hp) V hr hg ho hx hy hv hl
theorem Qr (hst:∀L y w w',Below w.heap.size w w'→J L y w→J L y w') (V:Value) (h:∀ρ y w,Kn ops a0 l o ρ y w→(execOp ρ o).run P w = .ok (.value V) w) (hg:kg ops a0 l o=some true) (hv:l.getD i rvN = .v V) (hl:aK (fV P ops a0 J (rvs l)) (i+1) r) (hp:∀L y v w,(∀j,o.after.toList.any (fun e=>e.on==j)=true→L j=true)→J L y w→J (bA L i) (bO y i v) w:=by intro _ _ _ _ _ h;exact h):aK (fV P ops a0 J (rvs l)) i (o::r):=Jd (pJ.askedQ hst hp) V h hg hv hl
end
theorem Gr (V:Value) (h:∀ρ y w,Below w0.heap.size w0 w→Kn ops a0 l o ρ y w→(execOp ρ o).run P w = .ok (.value V) w) (hg:kg ops a0 l o=some true) (hv:l.getD i rvN = .v V) (hl:aK (iM P ops a0 w0 (rvs l)) (i+1) r):aK (iM P ops a0 w0 (rvs l)) i (o::r):=
 ⟨fun ρ y w hw hn hb hd=>aj V (uu hg ⟨hw,hn,hd⟩) (h ρ y w hb ⟨hw,hn,hd⟩) (yI hv rfl),hl⟩
def Kq (P:Program) (t:TypeId):Bool:=match P.underlying t with
 | some (.struct _)=>false
 | some (.array _ _)=>false
 | some _=>true
 | none=>false
theorem kv {t:TypeId} {b k:Nat} {V:Value} {w:World} (hs:Kq P t=true) (hc:w.cell? ⟨b,k,none⟩=some V):(loadVar t ⟨b,k,none⟩).run P w = .ok V w:=by
 unfold Kq at hs
 cases hu:P.underlying t with
 | none=>rw[hu] at hs;cases hs
 | some d=>
  have ha:(isAgg t).run P w = .ok false w:=by
   unfold isAgg
   rw[Sem.run_bind,run_underlying hu w]
   rw[hu] at hs
   cases d<;>first | rfl | cases hs
  simp[loadVar,Sem.run_bind,ha,go_sem,hc]
theorem Gl {b k:Nat} {cs:Array Value} {T:TypeId} (hb:aC w0 b cs T) {V:Value} {t:TypeId} {x:Operand} (hv:cs.toList[k]?=some V) (hg:kg ops a0 l o=some true) (ho:o.op = .load t x) (hx:kx ops a0 l o x=some (.pointer (some ⟨b,k,none⟩))) (hr:l.getD i rvN = .v V) (hl:aK (iM P ops a0 w0 (rvs l)) (i+1) r) (hs:Kq P t=true:=by kernel_rfl):aK (iM P ops a0 w0 (rvs l)) i (o::r):=by
 refine⟨fun ρ y w hw hn hB hd=>aj V (uu hg ⟨hw,hn,hd⟩) ?_ (yI hr rfl),hl⟩
 have e:ρ x=_:=az hx ⟨hw,hn,hd⟩
 have hc:w.cell? ⟨b,k,none⟩=some V:=by rw[(hb.ext hB).cell,←Array.getElem?_toList];exact hv
 refine run_load ho e ?_
 simp only[Instr.loadAt,Instr.sureAddr,Sem.run_bind,Sem.run_pure,Result.andThen_ok,kv hs hc]
theorem Gc {b k:Nat} (V:Value) (hc:∀w,Below w0.heap.size w0 w→w.cell? ⟨b,k,none⟩=some V) {t:TypeId} {x:Operand} (hg:kg ops a0 l o=some true) (ho:o.op = .load t x) (hx:kx ops a0 l o x=some (.pointer (some ⟨b,k,none⟩))) (hr:l.getD i rvN = .v V) (hl:aK (iM P ops a0 w0 (rvs l)) (i+1) r) (hs:Kq P t=true:=by kernel_rfl):aK (iM P ops a0 w0 (rvs l)) i (o::r):=by
 refine⟨fun ρ y w hw hn hB hd=>aj V (uu hg ⟨hw,hn,hd⟩) ?_ (yI hr rfl),hl⟩
 have e:ρ x=_:=az hx ⟨hw,hn,hd⟩
 refine run_load ho e ?_
 simp only[Instr.loadAt,Instr.sureAddr,Sem.run_bind,Sem.run_pure,Result.andThen_ok,kv hs (hc w hB)]
def revC:List Value→List Value→(List Value→Option (List Value))→Option (List Value)
 | [],r,k=>k r
 | a::l,r,k=>revC l (a::r) k
def ptC:List Value→Nat→Value→List Value→(List Value→Option (List Value))→Option (List Value)
 | [],_,_,acc,k=>revC acc [] k
 | _::l,0,v,acc,k=>revC acc (v::l) k
 | a::l,n+1,v,acc,k=>ptC l n v (a::acc) k
def nY (y:Nat→Value):List RV→List Oper→List Value→Option (List Value)
 | .v V::l,o::r,t=>match o.dst with
  | some d=>ptC t d V [] fun t'=>nY y l r t'
  | none=>nY y l r t
 | .r j _::l,o::r,t=>match o.dst with
  | some d=>ptC t d (y j) [] fun t'=>nY y l r t'
  | none=>nY y l r t
 | _,_,t=>some t
def idxOk:List RV→Nat→Bool
 | [],_=>true
 | .v _::l,i=>idxOk l (i+1)
 | .r j _::l,i=>(j==i)&&idxOk l (i+1)
theorem yh (k:List Value→Option (List Value)):∀(a r:List Value),revC a r k=k (a.reverse++r)
 | [],r=>rfl
 | x::a,r=>by rw[revC,yh k a];simp
theorem Ao (k:List Value→Option (List Value)):∀(t:List Value) (n:Nat) (v:Value) (acc:List Value),ptC t n v acc k=k (acc.reverse++t.set n v)
 | [],n,v,acc=>by simp[ptC,yh]
 | x::t,0,v,acc=>by simp[ptC,yh]
 | x::t,n+1,v,acc=>by rw[ptC,Ao k t];simp
theorem lL {y:Nat→Value} {w:World} {m:Nat}:∀(l:List RV) (r:List Oper) (k:Nat) (t:Array Value),idxOk l k=true→m=k+l.length→l.length≤r.length→(∀i,i<l.length→rl (rvs l) i (y (k+i)) w) →
  nY y l r t.toList=some (lay (fun i=>decide (i<m)) y r k t).toList
 | [],r,k,t,_,hm,_,_=>by
  have:nY y [] r t.toList=some t.toList:=by cases r<;>rfl
  rw[this]
  simp only[List.length_nil,Nat.add_zero] at hm
  subst hm
  have hno:∀(r:List Oper) (j:Nat) (t:Array Value),m≤j→lay (fun i=>decide (i<m)) y r j t=t:=by
   intro r
   induction r with
   | nil=>intro j t _;rfl
   | cons o r ih=>
    intro j t hj
    simp only[lay]
    rw[ih (j+1) _ (by omega)]
    cases o.dst with
    | none=>rfl
    | some d=>simp[show ¬j<m by omega]
  rw[hno r m t (Nat.le_refl _)]
 | a::l,[],k,t,_,_,hle,_=>by simp at hle
 | a::l,o::r,k,t,hi,hm,hle,hR=>by
  have hk:k<m:=by simp at hm;omega
  have hrest:∀i,i<l.length→rl (rvs l) i (y (k+1+i)) w:=fun i hl=>by
   have:=hR (i+1) (by simp;omega)
   rw[show k+1+i=k+(i+1) by omega]
   unfold rl at this ⊢
   simpa[rvs] using this
  cases a with
  | v V=>
   have h0:y k=V:=by
    have:=hR 0 (by simp)
    exact this
   have ih:=fun t'=>lL (m:=m) (w:=w) l r (k+1) t' hi (by rw[List.length_cons] at hm;omega) (by simpa using hle) hrest
   cases ho:o.dst with
   | none=>simp only[lay,ho,hk,decide_true,if_true,nY,ih]
   | some d=>
    simp only[lay,ho,hk,decide_true,if_true,nY,Ao,h0,List.reverse_nil,List.nil_append]
    rw[←ih (t.setIfInBounds d V),Array.toList_setIfInBounds]
  | r j R=>
   have hj:j=k∧idxOk l (k+1)=true:=by
    have h' : ((j==k)&&idxOk l (k+1))=true:=hi
    simpa using h'
   obtain⟨rfl,hi'⟩:=hj
   have ih:=fun t'=>lL (m:=m) (w:=w) l r (j+1) t' hi' (by rw[List.length_cons] at hm;omega) (by simpa using hle) hrest
   cases ho:o.dst with
   | none=>simp only[lay,ho,hk,decide_true,if_true,nY,ih]
   | some d=>
    simp only[lay,ho,hk,decide_true,if_true,nY,Ao,List.reverse_nil,List.nil_append]
    rw[←ih (t.setIfInBounds d (y j)),Array.toList_setIfInBounds]
end
theorem aF {P:Program} {ops:Array Oper} {Q:Exit→Act→World→Prop} {id:Nat} {t0:Array Value} {df:List Deferred} {w0:World} (m:Nat) (l:List RV)
  (hstep:aK (iM P ops ⟨t0,df⟩ w0 (rvs l)) 0 (ops.toList.take m)) {tm:(Nat→Value)→List Value} {rest:List Oper} (hf:∀y,nY y l ops.toList t0.toList=some (tm y)) (hd:wr (ops.toList.drop m)=some rest)
  (hend:∀y w,Below w0.heap.size w0 w→(∀i,i<m→rl (rvs l) i (y i) w)→wpList P ops Q rest ⟨(tm y).toArray,df⟩ w)
  (hm:P.follows .mixedOrders=true:=by kernel_rfl) (hok:eP ops=true:=by kernel_rfl) (ht:dQ ops m=true:=by kernel_rfl) (hmn:m≤ops.size:=by decide) (hll:l.length=m:=by rfl) (hix:idxOk l 0=true:=by kernel_rfl)
  (hsz:eY ops t0.size=true:=by kernel_rfl):(Code.region id ops true).wp P Q ⟨t0,df⟩ w0:=by
 refine EO m (rvs l) hm hok ht hmn _ rfl hsz hstep fun y w hb hR => ?_
 have h:=hend y w hb hR
 rw[yP hd]
 have e:=lL (m:=m) (y:=y) (w:=w) l ops.toList 0 t0 hix (by omega) (by simp;omega) fun i hi=>by rw[Nat.zero_add];exact hR i (by omega)
 show wpList P ops Q rest ⟨lay (fun i=>decide (i<m)) y ops.toList 0 t0,df⟩ w
 have e2:=Option.some.inj (e.symm.trans (hf y))
 have e3:lay (fun i=>decide (i<m)) y ops.toList 0 t0=(tm y).toArray:=by rw[←e2]
 rw[e3]
 exact h
theorem dA {P:Program} {ops:Array Oper} {Q:Exit→Act→World→Prop} {id:Nat} {t0:Array Value} {df:List Deferred} {w0:World} (m:Nat) (l:List RV) (J:(Nat→Bool)→(Nat→Value)→World→Prop) (hst:∀L y w w',Below w.heap.size w w'→J L y w→J L y w') (hJ0:∀y,J (fun _=>false) y w0)
  (hstep:aK (fV P ops ⟨t0,df⟩ J (rvs l)) 0 (ops.toList.take m)) {tm:(Nat→Value)→List Value} {rest:List Oper} (hf:∀y,nY y l ops.toList t0.toList=some (tm y)) (hd:wr (ops.toList.drop m)=some rest)
  (hend:∀y w,J (fun i=>decide (i<m)) y w→(∀i,i<m→rl (rvs l) i (y i) w)→wpList P ops Q rest ⟨(tm y).toArray,df⟩ w)
  (hfix:Fixed (rvs l):=by repeat (first | exact fix_nil | refine vC (fun _ _ _ h=>h) ?_))
  (hm:P.follows .mixedOrders=true:=by kernel_rfl) (hok:eP ops=true:=by kernel_rfl) (ht:dQ ops m=true:=by kernel_rfl) (hmn:m≤ops.size:=by decide) (hll:l.length=m:=by rfl) (hix:idxOk l 0=true:=by kernel_rfl)
  (hsz:eY ops t0.size=true:=by kernel_rfl):(Code.region id ops true).wp P Q ⟨t0,df⟩ w0:=by
 refine Eg m (rvs l) J hst hJ0 hfix hm hok ht hmn _ rfl hsz hstep fun y w hb hR => ?_
 have h:=hend y w hb hR
 rw[yP hd]
 have e:=lL (m:=m) (y:=y) (w:=w) l ops.toList 0 t0 hix (by omega) (by simp;omega) fun i hi=>by rw[Nat.zero_add];exact hR i (by omega)
 show wpList P ops Q rest ⟨lay (fun i=>decide (i<m)) y ops.toList 0 t0,df⟩ w
 have e2:=Option.some.inj (e.symm.trans (hf y))
 have e3:lay (fun i=>decide (i<m)) y ops.toList 0 t0=(tm y).toArray:=by rw[←e2]
 rw[e3]
 exact h
theorem Dt {y:Nat→Value} {w:World} {m:Nat} {l:List RV} {ops:Array Oper} {t0:Array Value} {tm:List Value} (hix:idxOk l 0=true) (hll:l.length=m) (hmn:m≤ops.size) (hR:∀i,i<m→rl (rvs l) i (y i) w) (hf:nY y l ops.toList t0.toList=some tm):lay (fun i=>decide (i<m)) y ops.toList 0 t0=tm.toArray:=by
 have e:=lL (m:=m) (y:=y) (w:=w) l ops.toList 0 t0 hix (by omega) (by simp;omega) fun i hi=>by rw[Nat.zero_add];exact hR i (by omega)
 have e2:=Option.some.inj (e.symm.trans hf)
 rw[←e2]
def yD {α:Type} (P:Program) (t:TypeId) (enc:α→List Value) (good:α→Prop):Prop:=
 ∀(H:Type) (e:TypeId × Value→H) (w:World) (base:Nat) (spare:Nat→Bool) (held:Bool) (fuel:Nat) (cs:List Value) (x:DataW H × List MemPlace),
  DataW.trod e P w base spare held fuel t cs=some x→∃a:α,cs=enc a∧good a
theorem qX {P:Program} {t:TypeId} (ht:P.underlying t=some (.int .i64)):yD P t (fun n:Int=>[.int .i64 n]) i64:=by
 intro H e w base spare held fuel cs x h
 obtain⟨n,rfl,_,hn⟩:=DataW.trod_int ht h
 exact⟨n,rfl,bounds_i64 hn⟩
theorem GJ {P:Program} {t:TypeId} (ht:P.underlying t=some (.int .u8)):yD P t (fun b:UInt8=>[gW b]) (fun _=>True):=by
 intro H e w base spare held fuel cs x h
 obtain⟨n,rfl,_,hn⟩:=DataW.trod_int ht h
 have hb:=bounds_u8 hn
 refine⟨UInt8.ofNat n.toNat,?_,trivial⟩
 simp[gW]
 omega
theorem open_list {α:Type} {P:Program} {t e:TypeId} {enc:α→List Value} {good:α→Prop} (ht:P.underlying t=some (.slice e)) (ho:yD P e enc good) (hsz:∀x,(enc x).length=P.cellsOf e)
  {H:Type} {en:TypeId × Value→H} {w:World} {base:Nat} {spare:Nat→Bool} {held:Bool} {fuel:Nat} {cs:List Value} {x:DataW H × List MemPlace} (h:DataW.trod en P w base spare held fuel t cs=some x) :
  ∃(a:Option Addr) (l:List α) (c:Nat),cs=[.slice a l.length c]∧l.length≤c∧c≤maxLen∧(a=none→c=0)∧bW w a (l.flatMap enc)∧∀y∈l,good y:=by
 rcases DataW.trod_slice ht h with ⟨rfl,_⟩|⟨a,len,cap,elems,rest,n,_,rfl,_,_,hle,hcap,hlen,hel,_⟩
 ·exact⟨none,[],0,rfl,Nat.le_refl _,Nat.zero_le _,fun _=>rfl,bW.nil,fun y hy=>(by cases hy)⟩
 ·have key:∀i,i<len→∃y:α,good y∧∀j u,(enc y)[j]?=some u→w.cell? ((a.add (i*P.cellsOf e)).add j)=some u:=by
   intro i hi
   have h1:=hel i hi
   rw[List.getElem?_eq_getElem (by omega)] at h1
   obtain⟨cs',h2,h3⟩:=Option.bind_eq_some_iff.1 h1
   obtain⟨y,rfl,hy⟩:=ho H en w base spare held n cs' _ h3
   refine⟨y,hy,fun j u hj => ?_⟩
   unfold World.cells? at h2
   split at h2
   ·have h4:=mapM_some_get h2 j j (by
     have:j<(enc y).length:=by
      rcases Nat.lt_or_ge j (enc y).length with h|h
      ·exact h
      ·simp[List.getElem?_eq_none h] at hj
     rw[hsz y] at this
     simp[this])
    rw[hj] at h4
    exact h4
   ·cases h2
  have hall:=rU good (fun i y => ∀j u,(enc y)[j]?=some u→w.cell? ((a.add (i*P.cellsOf e)).add j)=some u) len key
  obtain⟨l,rfl,hg,hr⟩:=hall
  refine⟨some a,l,cap,rfl,hle,hcap,fun e=>(Option.some_ne_none _ e).elim,?_,hg⟩
  by_cases hz:P.cellsOf e=0
  ·have:l.flatMap enc=[]:=by
    apply List.eq_nil_of_length_eq_zero
    rw[flat_len enc (P.cellsOf e) hsz l,hz,Nat.mul_zero]
   rw[this]
   exact bW.nil
  ·intro k u hk
   have hkl:k<l.length*P.cellsOf e:=by
    rw[←flat_len enc (P.cellsOf e) hsz l]
    rcases Nat.lt_or_ge k (l.flatMap enc).length with h|h
    ·exact h
    ·simp[List.getElem?_eq_none h] at hk
   have hi:k / P.cellsOf e<l.length:=Nat.div_lt_of_lt_mul (by rw[Nat.mul_comm];exact hkl)
   have hj:k%P.cellsOf e<P.cellsOf e:=Nat.mod_lt _ (Nat.pos_of_ne_zero hz)
   have hk' : k / P.cellsOf e*P.cellsOf e+k%P.cellsOf e=k:=by rw[Nat.mul_comm];exact Nat.div_add_mod k _
   have hget:(enc l[k / P.cellsOf e])[k%P.cellsOf e]?=some u:=by
    have h5:k%P.cellsOf e<(enc l[k / P.cellsOf e]).length:=by rw[hsz];exact hj
    have h6:=flat_get enc (P.cellsOf e) hsz l _ hi _ _ (List.getElem?_eq_getElem h5)
    rw[hk',hk] at h6
    rw[List.getElem?_eq_getElem h5,h6]
   have h7:=hr _ hi _ u hget
   have hspot:a.spot=none:=by
    by_cases h8:a.spot=none
    ·exact h8
    ·exfalso
     -- the first cell of all is read at the address itself
     have h0:0<l.length:=Nat.lt_of_le_of_lt (Nat.zero_le _) hi
     have h9:0<(enc l[0]).length:=by rw[hsz];omega
     have h10:=hr 0 h0 0 _ (List.getElem?_eq_getElem h9)
     simp only[Nat.zero_mul,Addr.add,if_true] at h10
     have:=World.cell?_spot h10
     exact h8 this
   obtain⟨b,off,sp⟩:=a
   subst hspot
   refine⟨b,off,rfl,?_⟩
   rw[Addr.add_lit,Addr.add_lit,Nat.add_assoc,hk'] at h7
   exact h7
open Go.ChangeShapes Go.WideShapes Go.ChangeAt
def pq {α:Type} (P:Program) (t:TypeId) (enc:α→List Value) (good:World→α→Prop):Prop:=
 ∀(H:Type) (e:TypeId × Value→H) (w:World) (base:Nat) (spare:Nat→Bool) (held:Bool) (fuel:Nat) (cs:List Value) (x:DataW H × List MemPlace),
  DataW.trod e P w base spare held fuel t cs=some x→∃a:α,cs=enc a∧good w a
theorem yD.w {α:Type} {P:Program} {t:TypeId} {enc:α→List Value} {good:α→Prop} (h:yD P t enc good):pq P t enc (fun _=>good):=h
def nC {α:Type} (P:Program) (fs:Array Field) (L k off:Nat) (enc:α→List Value) (good:World→α→Prop):Prop:=
 ∀(H:Type) (e:TypeId × Value→H) (w:World) (base:Nat) (spare:Nat→Bool) (held:Bool) (n:Nat) (cs:List Value) (xs:List (DataW H × List MemPlace)),cs.length=L→xs.length=fs.size →
  (∀(i:Nat) (f:Field),fs[i]?=some f→DataW.trod e P w base spare held n f.type ((cs.drop f.offset).take (P.cellsOf f.type))=xs[i]?)→∃a:α,cs.drop off=enc a∧good w a
theorem vM {P:Program} {fs:Array Field} {L k off:Nat} (h:L=off):nC P fs L k off (fun _:Unit=>[]) (fun _ _=>True):=by
 intro H e w base spare held n cs xs hl _ _
 exact⟨(),by rw[List.drop_eq_nil_of_le (by omega)],trivial⟩
theorem jV {α β:Type} {P:Program} {fs:Array Field} {L k off:Nat} {f:Field} {enc:α→List Value} {good:World→α→Prop} {enc' : β→List Value} {good' : World→β→Prop} (hf:fs[k]?=some f) (off' : Nat) (ho:f.offset=off) (hn:off+P.cellsOf f.type=off') (h0:pq P f.type enc good)
  (h1:nC P fs L (k+1) off' enc' good'):nC P fs L k off (fun x:α × β=>enc x.1++enc' x.2) (fun w x=>good w x.1∧good' w x.2):=by
 intro H e w base spare held n cs xs hl hx h
 subst hn
 obtain⟨b,hb,gb⟩:=h1 H e w base spare held n cs xs hl hx h
 have hk:k<xs.length:=by
  rw[hx]
  exact (Array.getElem?_eq_some_iff.1 hf).1
 have h2:=h k f hf
 rw[List.getElem?_eq_getElem hk,ho] at h2
 obtain⟨a,ha,ga⟩:=h0 H e w base spare held n _ _ h2
 refine⟨(a,b),?_,ga,gb⟩
 show _=enc a++enc' b
 rw[←ha,←hb,←List.drop_drop,List.take_append_drop]
theorem xx {α:Type} {P:Program} {t:TypeId} {fs:Array Field} {enc:α→List Value} {good:World→α→Prop} (ht:P.underlying t=some (.struct fs)) (h:nC P fs (P.cellsOf t) 0 0 enc good):pq P t enc good:=by
 intro H e w base spare held fuel cs x hx
 obtain⟨xs,n,_,_,hl,hn,hel⟩:=DataW.trod_struct ht hx
 exact h H e w base spare held n cs xs hl hn hel
theorem pq.of {α β:Type} {P:Program} {t:TypeId} {enc:α→List Value} {good:World→α→Prop} {enc' : β→List Value} {good' : World→β→Prop} (h:pq P t enc good) (g:α→β) (he:∀a,enc a=enc' (g a)) (hg:∀w a,good w a→good' w (g a)):pq P t enc' good':=by
 intro H e w base spare held fuel cs x hx
 obtain⟨a,ha,ga⟩:=h H e w base spare held fuel cs x hx
 exact⟨g a,by rw[ha,he],hg w a ga⟩
end Pw
namespace Go.Proofs.Ytkjobhcnlppcnaa
open Go.ChangeShapes Go.WideShapes Go.ChangeAt Go.RowKit Go.Maps Pw
theorem fU {w:World} {B:Nat} {e:TypeId} {sz:Nat} {v:Value} {n:Nat} {xs:List Value} (h:Own w B e sz v n xs) (g:Nat) (hg:v.ownBlock=some g):∃cs,aC w g cs e:=by
 rcases h.2 with ⟨rfl,_⟩|⟨g2,off,cap,cur,rfl,_,hb,_⟩
 ·cases hg
 ·cases hg
  exact⟨_,hb⟩
theorem iO {w w' : World} {B:Nat} {e:TypeId} {sz:Nat} {v:Value} {n:Nat} {xs:List Value} {b:Nat} {cs:Array Value} {T:TypeId} (h:aC w b cs T) (ho:Own w B e sz v n xs) (hT:T≠e) (hg:w.grownBy w' v.ownBlock):aC w' b cs T:=
 h.grown hg (fun he=>own_ne ho h hT b he rfl)
theorem Ck {w w' : World} {B B' : Nat} {e e' : TypeId} {sz sz' : Nat} {v v' : Value} {n n' : Nat} {xs xs' : List Value} (h:Own w B e sz v n xs) (ho:Own w B' e' sz' v' n' xs') (hT:e'≠e) (hg:w.grownBy w' v'.ownBlock):Own w' B e sz v n xs:=
 h.grown hg (fun g hv he=>by
  obtain⟨cs,hk⟩:=fU ho g he
  exact own_ne h hk hT g hv rfl)
theorem dB {w w' : World} {b g:Nat} {cs cs' : Array Value} {T T' : TypeId} (h:aC w b cs T) (hk:aC w g cs' T') (hT:T'≠T) (hgr:w.grownBy w' (some g)):aC w' b cs T:=
 h.grown hgr (fun he=>by
  cases he
  unfold aC at h hk
  rw[hk] at h
  simp only[Option.some.injEq,Obj.cells.injEq] at h
  exact hT h.2.1)
theorem qW (a b:Option Addr) (n c m e:Nat):(#[Value.slice a n c,Value.slice b m e]:Array Value).all (·.oneCell')=true:=by simp[Value.oneCell']
theorem zS {α:Type} {enc:α→List Value} {sz:Nat} (hsz:∀x,(enc x).length=sz) (hp:0<sz) {w:World} {B n:Nat} {e:TypeId} {v:Value} {l:List α} (hl:l.length=n) (h:Own w B e sz v n (l.flatMap enc)) (k:Nat) (hk:k<n) :
  ∃g off cap cur,v = .slice (some ⟨g,off,none⟩) n cap∧B≤g∧aC w g cur e∧off+k*sz+sz≤cur.size ∧
   ∀w' x,aC w' g (putAt cur (off+k*sz) (enc x)) e→Own w' B e sz v n ((l.set k x).flatMap enc):=by
 subst hl
 obtain⟨g,off,cap,cur,h1,h2,h3,h4,_,h6⟩:=h.put hsz hp k hk
 exact⟨g,off,cap,cur,h1,h2,h3,h4,h6⟩
theorem Es {w w' : World} {B:Nat} {e:TypeId} {sz:Nat} {v:Value} {n:Nat} {xs:List Value} (h:Own w B e sz v n xs) (hg:w.grownBy w' none):Own w' B e sz v n xs:=h.grown hg (by simp)
theorem uC {α:Type} {enc:α→List Value} {sz:Nat} (hsz:∀x,(enc x).length=sz) (hp:0<sz) {w:World} {B n:Nat} {e:TypeId} {v:Value} {l:List α} (hl:l.length=n) (h:Own w B e sz v n (l.flatMap enc)) (k:Nat) (hk:k<n) (j:Nat) (hj:j<sz) (u:Value) (x:α)
  (hx:enc x=(enc (l[k]'(by omega))).set j u) :
  ∃g off cap,v = .slice (some ⟨g,off,none⟩) n cap∧B≤g∧g<w.heap.size∧(∃cs,aC w g cs e)∧(∀i y,(enc (l[k]'(by omega)))[i]?=some y→w.cell? ⟨g,off+k*sz+i,none⟩=some y)∧w.frozen? ⟨g,off+k*sz+j,none⟩=false ∧
   Own (w.setCell ⟨g,off+k*sz+j,none⟩ u) B e sz v n ((l.set k x).flatMap enc):=by
 subst hl
 obtain⟨g,off,cap,cur,h1,h2,h3,h4,h5,h6⟩:=h.put hsz hp k hk
 refine⟨g,off,cap,h1,h2,h3.lt,⟨_,h3⟩,h5,h3.free _,h6 _ x ?_⟩
 have he:putAt cur (off+k*sz) (enc x)=cur.setIfInBounds (off+k*sz+j) u:=by
  apply Array.ext_getElem?
  intro i
  by_cases hi:off+k*sz≤i∧i<off+k*sz+sz
  ·obtain⟨m,rfl⟩:∃m,i=off+k*sz+m:=⟨i-(off+k*sz),by omega⟩
   have hm:m<(enc x).length:=by rw[hsz];omega
   rw[putAt_in _ _ _ m (enc x)[m] (by rw[hsz];omega) (List.getElem?_eq_getElem hm)]
   by_cases hmj:m=j
   ·subst hmj
    rw[Array.getElem?_setIfInBounds_self_of_lt (by omega)]
    simp[hx]
   ·rw[Array.getElem?_setIfInBounds_ne (by omega)]
    have hm' : m<(enc l[k]).length:=by rw[hsz];omega
    have:=h5 m (enc l[k])[m] (List.getElem?_eq_getElem hm')
    rw[h3.cell] at this
    rw[this]
    simp[hx,List.getElem_set_ne (fun e=>hmj e.symm)]
  ·rw[putAt_out _ _ _ _ (by rw[hsz];omega),Array.getElem?_setIfInBounds_ne (by omega)]
 rw[he]
 exact h3.setCell _ _
theorem GV {w:World} {b o:Nat} {v:Value} (h:w.cell? ⟨b,o,none⟩=some v):b<w.heap.size:=by
 rcases Nat.lt_or_ge b w.heap.size with h1|h1
 ·exact h1
 ·simp[World.cell?,Array.getElem?_eq_none h1] at h
theorem Bw {H:Type} {P:Program} {w w' : World} {k:TypeId} {R:Value→Option (DataW H × List MemPlace)} {b n:Nat} {D:DataW H} (h:w.ownsMap P k R b n D) (hb:Below w.heap.size w w'):w'.ownsMap P k R b n D:=by
 have hl:=h.lt
 obtain⟨es,clock,h1,r⟩:=h
 exact⟨es,clock,(hb.block b hl).trans h1,r⟩
end Go.Proofs.Ytkjobhcnlppcnaa