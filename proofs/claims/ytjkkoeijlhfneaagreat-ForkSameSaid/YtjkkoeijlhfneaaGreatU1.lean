import Derived.WalkKit
import Derived.ProofKit
import Derived.SizedLaws
import Derived.Maps.Own
import Derived.WalkSpells
import Derived.WalkLawsBesides
import Derived.ArgAppend
import Derived.Deep.MidRow
import Derived.Deep.Slices
import Derived.Laws.AppendOwnNone
import Derived.Laws.CopyOwn
import Derived.Laws.OwnMore
import Derived.Lib.Hide
import Derived.Maps.Range
import Derived.Maps.Views
import Derived.OpenShut
import Derived.Orders
import Derived.OwnWalk
set_option linter.unusedSimpArgs false
set_option linter.unusedVariables false
set_option maxHeartbeats 4000000
set_option maxRecDepth 100000
namespace Pw
open Go Go.RowKit
abbrev Page:=Vector UInt8 8
theorem JK (p q:Page):(p==q)=((p[0]==q[0])&&(p[1]==q[1])&&(p[2]==q[2])&&(p[3]==q[3])&&(p[4]==q[4])&&(p[5]==q[5])&&(p[6]==q[6])&&(p[7]==q[7])):=by
 rw[Bool.eq_iff_iff]
 simp only[beq_iff_eq,Bool.and_eq_true]
 constructor
 ·rintro rfl;simp
 ·rintro⟨⟨⟨⟨⟨⟨⟨h0,h1⟩,h2⟩,h3⟩,h4⟩,h5⟩,h6⟩,h7⟩
  ext i hi
  match i,hi with
  | 0,_=>rw[h0]
  | 1,_=>rw[h1]
  | 2,_=>rw[h2]
  | 3,_=>rw[h3]
  | 4,_=>rw[h4]
  | 5,_=>rw[h5]
  | 6,_=>rw[h6]
  | 7,_=>rw[h7]
  | n+8,h=>omega
theorem MU (a b:UInt8):((a.toNat:Int)==(b.toNat:Int))=(a==b):=by
 rw[Bool.eq_iff_iff]
 simp only[beq_iff_eq,Int.natCast_inj,UInt8.toNat_inj]
def fA (p:Page) (a:Int) (k:Nat):Page:=Vector.ofFn fun i:Fin 8=>if a≤(i.val:Int)∧i.val<k then 0 else p[i.val]
def dS (p:Page) (a:Int):Page:=Vector.ofFn fun i:Fin 8=>if a≤(i.val:Int) then 0 else p[i.val]
theorem tu (p:Page) (a:Int) (k:Nat) (h:8≤k):fA p a k=dS p a:=by
 ext i hi
 simp only[fA,dS,Vector.getElem_ofFn]
 have hk:i<k:=by omega
 simp[hk]
theorem uw (p:Page) (a:Int) (k:Nat) (h:k<8) (ha:a≤k):(fA p a k).set k 0=fA p a (k+1):=by
 ext i hi
 simp only[fA,Vector.getElem_ofFn,Vector.getElem_set]
 by_cases e:k=i
 ·subst e;simp[ha]
 ·simp only[e,if_false]
  by_cases c:a≤(i:Int)∧i<k
  ·rw[if_pos c,if_pos ⟨c.1,by omega⟩]
  ·rw[if_neg c,if_neg (by omega)]
def bO (L:Nat→Bool) (i:Nat):Nat→Bool:=fun k=>if k=i then true else L k
def wr {α:Type}:List α→Option (List α)
 | []=>some []
 | a::r=>some (a::r)
theorem Ak {α:Type} {a b:List α} (h:wr a=some b):a=b:=by cases a<;>cases h<;>rfl
def i64 (n:Int):Prop:=-9223372036854775808≤n∧n≤9223372036854775807
theorem uB {α:Type} (good:α→Prop) (R:Nat→α→Prop):∀(len:Nat),(∀i,i<len→∃y:α,good y∧R i y)→∃l:List α,l.length=len∧(∀y∈l,good y)∧∀i (hi:i<l.length),R i l[i]
 | 0,_=>⟨[],rfl,fun y hy=>(by cases hy),fun i hi=>absurd hi (Nat.not_lt_zero _)⟩
 | len+1,key=>by
  obtain⟨l,hl,hg,hr⟩:=uB good R len (fun i hi=>key i (by omega))
  obtain⟨y,hy,hyr⟩:=key len (by omega)
  refine⟨l++[y],by simp[hl],?_,?_⟩
  ·intro z hz
   rcases List.mem_append.1 hz with hz|hz
   ·exact hg z hz
   ·rw[List.mem_singleton.1 hz];exact hy
  ·intro i hi
   by_cases hil:i<l.length
   ·rw[List.getElem_append_left hil];exact hr i hil
   ·have hi' : i=len:=by simp at hi;omega
    subst hi'
    rw[List.getElem_append_right (by omega)]
    simpa[hl] using hyr
end Pw
namespace Go.Proofs.YtjkkoeijlhfneaaGreat
open Go.ChangeShapes Go.WideShapes Go.ChangeAt Go.RowKit Go.Maps Pw
theorem jJ {n k:Nat} {P:∀i,i<n→Prop} (hp:∀i (h:i<n),i<k→P i h) (hlt:k<n) (hk:P k hlt):∀i (h:i<n),i<k+1→P i h:=by
 intro i h hi
 by_cases e:i=k
 ·subst e;exact hk
 ·exact hp i h (by omega)
theorem BA {α:Type} {l m:List α} (k:Nat) (h:k<l.length) (h' : k<m.length) (hne:l[k]≠m[k]):l≠m:=by rintro rfl;exact hne rfl
theorem zU {α:Type} {l m:List α} (hl:l.length=m.length) (k:Nat) (hk:¬k<l.length) (h:∀i (h:i<l.length),i<k→l[i]=m[i]'(by omega)):l=m:=
 List.ext_getElem hl fun i h1 h2=>h i h1 (by omega)
theorem Al {α:Type} {l m:List α} (hl:l.length=m.length) {k:Nat} (hk:k<l.length) (h:∀i (h:i<l.length),i<k→l[i]=m[i]'(by omega)) (he:l[k]=m[k]'(by omega)):∀i (h:i<l.length),i<k+1→l[i]=m[i]'(by omega):=by
 intro i h1 h2
 by_cases e:i=k
 ·subst e;exact he
 ·exact h i h1 (by omega)
end Go.Proofs.YtjkkoeijlhfneaaGreat
namespace Pw
open Go Go.RowKit
theorem pQ {listed:Array Bool} {i:Nat} (hi:i<listed.size) (q:Nat) (hq:listed.getD q false=true):(listed.setIfInBounds i true).getD q false=true:=by
 by_cases hqi:q=i
 ·subst hqi;simp[Array.getD_eq_getD_getElem?,hi]
 ·simpa[Array.getD_eq_getD_getElem?,Array.getElem?_setIfInBounds_ne (Ne.symm hqi)] using hq
theorem lI {listed:Array Bool} {i q:Nat} (h:q≠i):(listed.setIfInBounds i true).getD q false=listed.getD q false:=by
 simp[Array.getD_eq_getD_getElem?,Array.getElem?_setIfInBounds_ne (Ne.symm h)]
theorem AL {listed:Array Bool} {i:Nat} (hi:i<listed.size):(listed.setIfInBounds i true).getD i false=true:=by
 simp[Array.getD_eq_getD_getElem?,hi]
theorem wP {listed:Array Bool} {i fuel:Nat} (hi:i<listed.size) (h1:listed.getD i true=false) (hc:listed.toList.countP (!·)≤fuel+1):(listed.setIfInBounds i true).toList.countP (!·)≤fuel:=by
 have hil:i<listed.toList.length:=by simp;omega
 have hfalse:listed.toList[i]=false:=by
  simpa[Array.getD_eq_getD_getElem?,hi] using h1
 have:=List.countP_set (p:=(!·)) (l:=listed.toList) (i:=i) (a:=true) hil
 rw[hfalse] at this
 have hpos:0<listed.toList.countP (!·):=List.countP_pos_iff.2 ⟨listed.toList[i],List.getElem_mem hil,by rw[hfalse];rfl⟩
 simp only[Array.toList_setIfInBounds]
 simp only[Bool.not_false,Bool.not_true,if_true,Bool.false_eq_true,if_false] at this
 omega
open Go.ChangeShapes Go.WideShapes Go.ChangeAt
def firstE:List Int→Int
 | []=>0
 | x::r=>if x=0 then firstE r else x
theorem mD {l:List Int} (h:∀i (hi:i<l.length),l[i]=0):firstE l=0:=by
 induction l with
 | nil=>rfl
 | cons x r ih=>
  have h0:=h 0 (by simp)
  simp at h0
  simp only[firstE,h0,if_true]
  exact ih fun i hi=>by have:=h (i+1) (by simpa using hi);simpa using this
theorem qa {l:List Int} (k:Nat) (hk:k<l.length) (h:∀i (hi:i<l.length),i<k→l[i]=0) (hne:l[k]≠0):firstE l=l[k]:=by
 induction l generalizing k with
 | nil=>simp at hk
 | cons x r ih=>
  cases k with
  | zero=>simp at hne;simp[firstE,hne]
  | succ k=>
   have h0:=h 0 (by simp) (by omega)
   simp at h0
   simp only[firstE,h0,if_true,List.getElem_cons_succ]
   exact ih k (by simpa using hk) (fun i hi hik=>by have:=h (i+1) (by simpa using hi) (by omega);simpa using this) (by simpa using hne)
theorem filter_all {α:Type} (p q:α→Bool) (l:List α):(l.filter p).all (fun e => !p e||q e)=l.all (fun e => !p e||q e):=by
 induction l with
 | nil=>rfl
 | cons x l ih=>
  cases hp:p x
  ·rw[List.filter_cons_of_neg (by simp[hp]),ih];simp[hp]
  ·rw[List.filter_cons_of_pos (by simp[hp])];simp[hp,ih]
end Pw
namespace Go.Proofs.YtjkkoeijlhfneaaGreat
open Go.RowKit Pw
def idx {α:Type} (f:α→Bool) (l:List α):Int:=match l.findIdx? f with
 | some k=>k
 | none => -1
theorem uh {α:Type} (f:α→Bool) (l:List α) (k:Nat) (h:k<l.length) (hp:∀i (h:i<l.length),i<k→f l[i]=false) (hk:f l[k]=true):idx f l=k:=by
 unfold idx
 rw[List.findIdx?_eq_some_iff_getElem.2 ⟨h,hk,fun j hj=>by simpa using hp j (by omega) hj⟩]
theorem lM {α:Type} (f:α→Bool) (l:List α) (hp:∀i (h:i<l.length),f l[i]=false):idx f l = -1:=by
 unfold idx
 rw[List.findIdx?_eq_none_iff.2 fun x hx=>by
  obtain⟨i,hi,rfl⟩:=List.mem_iff_getElem.1 hx
  exact hp i hi]
theorem Fx {α:Type} (f:α→Bool) (l:List α):(idx f l = -1∧∀i (h:i<l.length),f l[i]=false)∨∃k:Nat,∃h:k<l.length,idx f l=k∧f l[k]=true∧∀i (h:i<l.length),i<k→f l[i]=false:=by
 unfold idx
 cases e:l.findIdx? f with
 | none=>exact .inl ⟨rfl,fun i h=>List.findIdx?_eq_none_iff.1 e _ (List.getElem_mem h)⟩
 | some k=>
  obtain⟨h,hk,hp⟩:=List.findIdx?_eq_some_iff_getElem.1 e
  exact .inr ⟨k,h,rfl,hk,fun i _ hi=>by simpa using hp i hi⟩
theorem lC {α:Type} (f:α→Bool) (l:List α):decide (0≤idx f l)=l.any f:=by
 rcases Fx f l with ⟨e,h⟩|⟨k,hk,e,h,_⟩
 ·rw[e]
  symm
  simp only[show decide ((0:Int)≤-1)=false from rfl,List.any_eq_false]
  intro x hx
  obtain⟨i,hi,rfl⟩:=List.mem_iff_getElem.1 hx
  simpa using h i hi
 ·rw[e]
  symm
  simp only[show decide ((0:Int)≤(k:Int))=true from by simp,List.any_eq_true]
  exact⟨_,List.getElem_mem hk,h⟩
theorem upto {n k:Nat} {P:∀i,i<n→Prop} (hp:∀i (h:i<n),i<k→P i h) (hlt:k<n) (hk:P k hlt):∀i (h:i<n),i<k+1→P i h:=by
 intro i h hi
 by_cases e:i=k
 ·subst e;exact hk
 ·exact hp i h (by omega)
open Go.Maps
structure Mk (D:DataW Unit) (f:Int→Bool):Prop where
 is:IsMap D
 at_:∀j:Int,D.atKey (.int .i64 j) (.lit (.bool false)) = .lit (.bool (f j))
theorem Mk.empty:Mk (.map []) (fun _=>false):=⟨isMap_empty,fun j=>rfl⟩
theorem Mk.put {D:DataW Unit} {f:Int→Bool} (h:Mk D f) (k:Int):Mk (D.put (.int .i64 k) (.lit (.bool true))) (fun j=>f j||decide (j=k)):=by
 refine⟨h.is.put _ _,fun j => ?_⟩
 by_cases e:j=k
 ·subst e
  rw[atKey_put_same h.is (by trivial)]
  simp
 ·rw[atKey_put_other (by intro e2;exact e (by cases e2;rfl)),h.at_ j]
  simp[e]
def dA (n:Int):Int:=if n≤0 then 0 else (n-1) / 8+1
def lu (n:Int):Bool:=decide (n<0)||decide (1000<n)
def dn (l:List Int):Int:=if 60<l.length then 4 else if l.any lu then 3 else 0
def Ia (n:Int):List Int:=if 0≤n∧n≤60 then List.replicate n.toNat 0 else []
theorem JZ (l:List Int) (k:Nat) (hk:k<l.length) (h0:dn l=0):0≤l[k]∧l[k]≤1000:=by
 unfold dn at h0
 split at h0
 ·omega
 split at h0
 ·omega
 rename_i h
 have h1:lu l[k]=false:=by
  have:=List.any_eq_false.1 (by simpa using h) _ (List.getElem_mem hk)
  simpa using this
 simp[lu] at h1
 exact h1
theorem iC {l:List Int} (h:dn l=0):l.length≤60:=by
 unfold dn at h
 split at h
 ·omega
 ·omega
def xU (l:List Int) (k:Int):Int:=l.getD k.toNat 0
def bM (l:List Int) (k n:Int):Int:=if dn l≠0 then dn l else if k<0∨l.length≤k∨xU l k=0 then 5 else if n < -xU l k∨1000-xU l k<n then 3 else 0
def bA (l:List Int) (k n:Int):List Int:=if bM l k n=0 then l.set k.toNat (xU l k+n) else []
theorem Dr {l:List Int} (k n:Int) (h:dn l≠0):bM l k n=dn l∧bA l k n=[]:=by
 have:bM l k n=dn l:=by unfold bM;rw[if_pos h]
 exact⟨this,by unfold bA;rw[this,if_neg h]⟩
theorem yw {l:List Int} {k n:Int} (h0:dn l=0) (h:k<0∨l.length≤k∨xU l k=0):bM l k n=5∧bA l k n=[]:=by
 have:bM l k n=5:=by unfold bM;rw[if_neg (by omega),if_pos h]
 exact⟨this,by unfold bA;rw[this];rfl⟩
theorem DV {l:List Int} {k n:Int} (h0:dn l=0) (h:¬(k<0∨l.length≤k∨xU l k=0)) (hr:n < -xU l k∨1000-xU l k<n):bM l k n=3∧bA l k n=[]:=by
 have:bM l k n=3:=by unfold bM;rw[if_neg (by omega),if_neg h,if_pos hr]
 exact⟨this,by unfold bA;rw[this];rfl⟩
theorem Fu {l:List Int} {k n:Int} (h0:dn l=0) (h:¬(k<0∨l.length≤k∨xU l k=0)) (hr:¬(n < -xU l k∨1000-xU l k<n)):bM l k n=0∧bA l k n=l.set k.toNat (xU l k+n):=by
 have:bM l k n=0:=by unfold bM;rw[if_neg (by omega),if_neg h,if_neg hr]
 exact⟨this,by unfold bA;rw[this,if_pos rfl]⟩
theorem KX {l:List Int} {k:Nat} (h:k<l.length):xU l k=l[k]:=by simp[xU,h]
theorem Jm {l m:List Int} (hlm:l.length=m.length) (h:∀i (hi:i<l.length),l[i]=m[i]'(by omega)):(l==m)=true:=by
 rw[beq_iff_eq]
 exact List.ext_getElem hlm fun i h1 h2=>h i h1
theorem Jf {l m:List Int} (k:Nat) (h1:k<l.length) (h2:k<m.length) (h:l[k]≠m[k]):(l==m)=false:=by
 rw[beq_eq_false_iff_ne]
 rintro rfl
 exact h rfl
structure pR where
 blocks:List Page
 queue:List (Int × Page)
def zPg:Page:=#v[0,0,0,0,0,0,0,0]
def nX (n:Nat) (q:Int × Page):Bool:=decide (q.1<0)||decide ((n:Int)≤q.1)
def bK (d:pR):Int:=if 80<d.blocks.length∨400<d.queue.length then 4 else if d.queue.any (nX d.blocks.length) then 3 else 0
def fu (d:pR) (at_:Int):Int:=if bK d≠0 then bK d else if at_<0∨d.blocks.length≤at_ then 3 else 0
def over (k:Int) (p:Page) (q:List (Int × Page)):Page:=q.foldl (fun p x=>if x.1=k then x.2 else p) p
theorem Gg (k:Int) (p:Page) (q:List (Int × Page)) (x:Int × Page):over k p (q++[x])=if x.1=k then x.2 else over k p q:=by simp[over,List.foldl_append]
theorem ET (k:Int) (p:Page) (q:List (Int × Page)) (i:Nat) (h:i<q.length):over k p (q.take (i+1))=if q[i].1=k then q[i].2 else over k p (q.take i):=by
 rw[List.take_add_one,List.getElem?_eq_getElem h,Option.toList,Gg]
def iJ (d:pR) (k:Int):Page:=if fu d k=0 then over k (d.blocks.getD k.toNat zPg) d.queue else zPg
theorem GA {d:pR} (h:bK d=0):d.blocks.length≤80∧d.queue.length≤400:=by
 unfold bK at h
 split at h
 ·omega
 ·omega
theorem Fh {d:pR} (h:bK d=0) (i:Nat) (hi:i<d.queue.length):0≤d.queue[i].1∧d.queue[i].1<d.blocks.length:=by
 unfold bK at h
 split at h
 ·omega
 split at h
 ·omega
 rename_i h1
 have:=List.any_eq_false.1 (by simpa using h1) _ (List.getElem_mem hi)
 simp[nX] at this
 omega
def zC (n:Int):pR:=if 0≤n∧n≤80 then ⟨List.replicate n.toNat zPg,[]⟩ else ⟨[],[]⟩
def keepN (f:Nat→Bool) (B:List Page) (Q:List (Int × Page)):Nat→List Page
 | 0=>B
 | k+1=>match Q[k]? with
  | some q=>if f k then (keepN f B Q k).set q.1.toNat q.2 else keepN f B Q k
  | none=>keepN f B Q k
theorem jU (d:pR):bK d=0↔d.blocks.length≤80∧d.queue.length≤400∧∀x∈d.queue,0≤x.1∧x.1<d.blocks.length:=by
 unfold bK
 constructor
 ·intro h
  split at h
  ·omega
  split at h
  ·omega
  rename_i h1 h2
  refine⟨by omega,by omega,fun x hx => ?_⟩
  have:=List.any_eq_false.1 (by simpa using h2) x hx
  simp[nX] at this
  omega
 ·rintro⟨h1,h2,h3⟩
  rw[if_neg (by omega),if_neg]
  simp only[List.any_eq_true,not_exists,not_and]
  intro x hx
  have:=h3 x hx
  simp[nX]
  omega
theorem BF {d:pR} {k:Int}:fu d k=0↔bK d=0∧0≤k∧k<d.blocks.length:=by
 unfold fu
 constructor
 ·intro h
  split at h
  ·omega
  split at h
  ·omega
  ·omega
 ·rintro⟨h1,h2,h3⟩
  rw[if_neg (by omega),if_neg (by omega)]
def d3:pR:=⟨[zPg,zPg,zPg],[]⟩
def Eg (d d' : pR):Bool:=d.blocks==d'.blocks&&d.queue==d'.queue
theorem qd {d d' : pR}:Eg d d' = true↔d=d':=by
 obtain⟨B,Q⟩:=d
 obtain⟨B',Q'⟩:=d'
 simp[Eg]
theorem ng {d d' : pR} (h:d.blocks≠d'.blocks∨d.queue≠d'.queue):Eg d d' = false:=by
 rw[←Bool.not_eq_true,qd]
 rintro rfl
 rcases h with h|h<;>exact h rfl
structure Fr where
 p:Page
 r:Int
 u:Bool
 d:Bool
 f:Int
 i:Int
 deriving DecidableEq
def vS (f:Fr):Bool:=decide (f.r<0)||decide (1000<f.r)||decide (f.f < -1)||decide (5≤f.f)||decide (f.i<0)||decide (12≤f.i)
def yo (f:Fr):Bool:=decide (f.r=0)&&(f.u||f.d||decide (0≤f.f)||f.p != zPg)
def ut (f:Fr):Bool:=decide (f.f<0)&&decide (f.i≠0)
def dD (f:Fr):Int:=if vS f=true then 3 else if yo f=true∨ut f=true then 7 else 0
structure Mem where
 fs:List Fr
 hand:Int
 deriving DecidableEq
def firstEf:List Fr→Int
 | []=>0
 | f::r=>if dD f≠0 then dD f else firstEf r
theorem firstEf_at:∀(l:List Fr) (k:Nat) (hk:k<l.length),(∀i (h:i<l.length),i<k→dD l[i]=0)→dD l[k]≠0→firstEf l=dD l[k]
 | f::r,0,_,_,h=>by unfold firstEf;exact if_pos h
 | f::r,k+1,hk,hp,h=>by
  unfold firstEf
  rw[if_neg (fun hh=>hh (hp 0 (by simp) (by omega)))]
  exact firstEf_at r k (by simpa using hk) (fun i hi hik=>hp (i+1) (by simpa using hi) (by omega)) h
theorem firstEf_none:∀(l:List Fr),(∀i (h:i<l.length),dD l[i]=0)→firstEf l=0
 | [],_=>rfl
 | f::r,hp=>by
  unfold firstEf
  rw[if_neg (fun hh=>hh (hp 0 (by simp)))]
  exact firstEf_none r (fun i hi=>hp (i+1) (by simpa using hi))
def di (m:Mem):Int:=if 40<m.fs.length then 4 else if firstEf m.fs≠0 then firstEf m.fs else if m.hand<0∨(0<m.hand∧(m.fs.length:Int)≤m.hand) then 3 else 0
theorem MX (f g:Fr):(f==g)=(f.p==g.p&&(f.r==g.r&&(f.u==g.u&&(f.d==g.d&&(f.f==g.f&&f.i==g.i))))):=by
 cases f;cases g
 rw[Bool.eq_iff_iff]
 simp
def DY (m n:Mem):Bool:=m.hand==n.hand&&m.fs==n.fs
theorem uy {m n:Mem}:DY m n=true↔m=n:=by
 obtain⟨B,Q⟩:=m
 obtain⟨B',Q'⟩:=n
 simp[DY,and_comm]
theorem uu {m n:Mem} (h:m.hand≠n.hand∨m.fs≠n.fs):DY m n=false:=by
 rw[←Bool.not_eq_true,uy]
 rintro rfl
 rcases h with h|h<;>exact h rfl
def fr0:Fr:=⟨zPg,0,false,false,0,0⟩
def frZ:Fr:=⟨zPg,0,false,false,-1,0⟩
def GG (n:Int):Mem:=if 0≤n∧n≤40 then ⟨List.replicate n.toNat frZ,0⟩ else ⟨[],0⟩
def noM:Mem:=⟨[],0⟩
theorem firstEf_all:∀(l:List Fr),firstEf l=0→∀f∈l,dD f=0
 | [],_,_,h=>by cases h
 | g::r,h,f,hf=>by
  unfold firstEf at h
  by_cases hg:dD g=0
  ·rw[if_neg (fun e=>e hg)] at h
   rcases List.mem_cons.1 hf with rfl|hf
   ·exact hg
   ·exact firstEf_all r h f hf
  ·rw[if_pos hg] at h
   exact absurd h hg
theorem eB (m:Mem):di m=0↔m.fs.length≤40∧(∀f∈m.fs,dD f=0)∧0≤m.hand∧(m.hand=0∨m.hand<m.fs.length):=by
 unfold di
 constructor
 ·intro h
  by_cases h1:40<m.fs.length
  ·rw[if_pos h1] at h;cases h
  ·rw[if_neg h1] at h
   by_cases h2:firstEf m.fs=0
   ·rw[if_neg (fun e=>e h2)] at h
    by_cases h3:m.hand<0∨(0<m.hand∧(m.fs.length:Int)≤m.hand)
    ·rw[if_pos h3] at h;cases h
    ·exact⟨by omega,firstEf_all _ h2,by omega,by omega⟩
   ·rw[if_pos h2] at h;exact absurd h h2
 ·rintro⟨h1,h2,h3,h4⟩
  rw[if_neg (by omega)]
  have h5:firstEf m.fs=0:=firstEf_none _ (fun i hi=>h2 _ (List.getElem_mem hi))
  rw[h5,if_neg (fun e=>e rfl),if_neg (by omega)]
theorem iy (f:Fr):dD f=0↔(0≤f.r∧f.r≤1000∧-1≤f.f∧f.f<5∧0≤f.i∧f.i<12)∧(f.r=0→f.u=false∧f.d=false∧f.f<0∧f.p=zPg)∧(f.f<0→f.i=0):=by
 unfold dD
 have hb:vS f=false↔(0≤f.r∧f.r≤1000∧-1≤f.f∧f.f<5∧0≤f.i∧f.i<12):=by
  simp only[vS,Bool.or_eq_false_iff,decide_eq_false_iff_not,Int.not_lt,Int.not_le]
  omega
 have hu:yo f=false↔(f.r=0→f.u=false∧f.d=false∧f.f<0∧f.p=zPg):=by
  unfold yo
  by_cases h:f.r=0
  ·simp[h,and_assoc]
  ·simp[h]
 have hf:ut f=false↔(f.f<0→f.i=0):=by
  unfold ut
  by_cases h:f.f<0
  ·simp[h]
  ·simp[h]
 rw[←hb,←hu,←hf]
 cases vS f<;>cases yo f<;>cases ut f<;>simp
def jk (m:Mem) (k n:Int):Int:=if di m≠0 then di m else if k<0∨(m.fs.length:Int)≤k∨(m.fs.getD k.toNat fr0).r=0 then 5 else if n < -(m.fs.getD k.toNat fr0).r∨1000-(m.fs.getD k.toNat fr0).r<n then 3 else 0
def iU (f:Fr) (n:Int):Fr:=if f.r+n=0 then frZ else { f with r:=f.r+n }
def jq (m:Mem) (k n:Int):Mem:=if jk m k n=0 then ⟨m.fs.set k.toNat (iU (m.fs.getD k.toNat fr0) n),m.hand⟩ else noM
structure En where
 k:Int
 n:Int
 w:Bool
 deriving DecidableEq
def zEn:En:=⟨0,0,false⟩
abbrev Tb:=Vector (List En) 8
def dC (e:En):Int:=if e.k<0∨2<e.k then 1 else if e.n<0∨40≤e.n∧e.k=1∨60≤e.n then 3 else if e.k=0∧(e.n≠0∨e.w=true)∨e.k=2∧e.w=true then 7 else 0
def iI (h:List En):Int:=if h.length≠0∧h.length≠8 then 2 else if firstE (h.map dC)≠0 then firstE (h.map dC) else if 0<h.length∧h.any (fun e=>decide (e.k≠0))=false then 2 else 0
def bI (t:Tb):Int:=firstE (t.toList.map iI)
def qo (h:List En) (k:Nat):Bool:=(h.take k).any (fun e=>decide (e.k≠0))
theorem GV (h:List En):qo h 0=false:=rfl
theorem yC (h:List En) (k:Nat) (hk:k<h.length):qo h (k+1)=(qo h k||decide (h[k].k≠0)):=by
 unfold qo
 rw[List.take_add_one,List.any_append,List.getElem?_eq_getElem hk]
 simp
theorem BH (h:List En) (k:Nat) (hk:h.length≤k):qo h k=h.any (fun e=>decide (e.k≠0)):=by
 unfold qo
 rw[List.take_of_length_le hk]
theorem oq {t:Tb} (h:∀i (hi:i<8),iI t[i]=0):bI t=0:=mD fun i hi=>by simpa using h i (by simpa using hi)
theorem lH {t:Tb} (k:Nat) (hk:k<8) (h:∀i (hi:i<8),i<k→iI t[i]=0) (hne:iI t[k]≠0):bI t=iI t[k]:=by
 have:=qa (l:=t.toList.map iI) k (by simpa using hk) (fun i hi hik=>by simpa using h i (by simpa using hi) hik) (by simpa using hne)
 rw[bI,this];simp
theorem qJ {h:List En} (h1:h.length≠0∧h.length≠8):iI h=2:=by unfold iI;rw[if_pos h1]
theorem rG {h:List En} (h1:h.length=0∨h.length=8) (k:Nat) (hk:k<h.length) (hp:∀i (hi:i<h.length),i<k→dC h[i]=0) (hne:dC h[k]≠0):iI h=dC h[k]:=by
 have:=qa (l:=h.map dC) k (by simpa using hk) (fun i hi hik=>by simpa using hp i (by simpa using hi) hik) (by simpa using hne)
 have e:firstE (h.map dC)=dC h[k]:=by rw[this];simp
 unfold iI;rw[if_neg (by omega),e,if_pos hne]
theorem pF {h:List En} (h1:h.length=0∨h.length=8) (hp:∀i (hi:i<h.length),dC h[i]=0):iI h=if 0<h.length∧h.any (fun e=>decide (e.k≠0))=false then 2 else 0:=by
 have:=mD (l:=h.map dC) (fun i hi=>by simpa using hp i (by simpa using hi))
 unfold iI;rw[if_neg (by omega),this,if_neg (by omega)]
def ul (t:Tb):Prop:=∀k (h:k<8),t[k].length*24≤140737488355328
def cB (t:Tb) (n:Int):En:=if h:0≤n∧n<64 then (if (t[n.toNat / 8]'(by omega)).length=8 then (t[n.toNat / 8]'(by omega)).getD (n.toNat%8) zEn else zEn) else zEn
theorem lS {t:Tb} {n:Int} (h:n<0∨64≤n):cB t n=zEn:=by unfold cB;rw[dif_neg (by omega)]
theorem rJ {t:Tb} {q r:Nat} (hq:q<8) (hr:r<8):cB t ((8*q+r:Nat):Int)=if t[q].length=8 then t[q].getD r zEn else zEn:=by
 unfold cB
 rw[dif_pos (by omega)]
 have e1:(((8*q+r:Nat):Int).toNat / 8)=q:=by rw[Int.toNat_natCast];omega
 have e2:(((8*q+r:Nat):Int).toNat%8)=r:=by rw[Int.toNat_natCast];omega
 simp only[e1,e2]
theorem pu {n:Int} (h:0≤n∧n<64):∃q r:Nat,q<8∧r<8∧n=((8*q+r:Nat):Int)∧n / 8=(q:Int)∧n%8=(r:Int):=by
 refine⟨(n / 8).toNat,(n%8).toNat,by omega,by omega,by omega,by omega,by omega⟩
def jw (e:En):Bool:=decide (e.k≠0)
def setE (t:Tb) (n:Int) (e:En):Int:=if bI t≠0 then bI t else if n<0∨64≤n then 3 else dC e
def Md (h:List En):List En:=if h.any jw then h else []
def setH (h:List En) (r:Nat) (e:En):List En:=Md ((if h.length=0 then List.replicate 8 zEn else h).set r e)
def zTb:Tb:=Vector.replicate 8 []
def setT (t:Tb) (n:Int) (e:En):Tb:=if h:(0≤n∧n<64)∧setE t n e=0 then t.set (n.toNat / 8) (setH (t[n.toNat / 8]'(by omega)) (n.toNat%8) e) (by omega) else zTb
theorem oO {t:Tb} {n:Int} {e:En} (h:setE t n e≠0):setT t n e=zTb:=by unfold setT;rw[dif_neg (fun h'=>h h'.2)]
theorem EH {t:Tb} {n:Int} {e:En} {q r:Nat} (h:setE t n e=0) (hq:q<8) (hr:r<8) (hn:n=((8*q+r:Nat):Int)):setT t n e=t.set q (setH t[q] r e):=by
 unfold setT
 subst hn
 rw[dif_pos ⟨by omega,h⟩]
 have e1:(((8*q+r:Nat):Int).toNat / 8)=q:=by rw[Int.toNat_natCast];omega
 have e2:(((8*q+r:Nat):Int).toNat%8)=r:=by rw[Int.toNat_natCast];omega
 simp only[e1,e2]
theorem jT {h:List En} (h0:iI h=0):h.length=0∨h.length=8:=by
 by_cases e:h.length≠0∧h.length≠8
 ·rw[qJ e] at h0;cases h0
 ·omega
theorem iD {t:Tb} (h:bI t=0) (k:Nat) (hk:k<8):iI t[k]=0:=by
 have key:∀(l:List Int),firstE l=0→∀x∈l,x=0:=by
  intro l
  induction l with
  | nil=>intro _ x hx;cases hx
  | cons y r ih=>
   intro h x hx
   by_cases e:y=0
   ·simp only[firstE,e,if_true] at h
    rcases List.mem_cons.1 hx with rfl|hx
    ·exact e
    ·exact ih h x hx
   ·simp only[firstE,e,if_false] at h
 exact key _ h _ (List.mem_map.2 ⟨t[k],by simp,rfl⟩)
def fQ (t:Tb) (k:Nat):List Int:=((List.range k).filter fun n:Nat=>jw (cB t (n:Int))).map fun n:Nat=>(n:Int)
def aI (t:Tb):List Int:=fQ t 64
theorem ru (t:Tb) (k:Nat):(fQ t k).length≤k:=by
 unfold fQ
 rw[List.length_map]
 exact Nat.le_trans (List.length_filter_le _ _) (by simp)
theorem BQ {t:Tb} {k:Nat} (h:jw (cB t (k:Int))=true):fQ t (k+1)=fQ t k++[(k:Int)]:=by
 unfold fQ
 rw[List.range_succ,List.filter_append,List.map_append]
 simp[h]
theorem Dc {t:Tb} {k:Nat} (h:jw (cB t (k:Int))=false):fQ t (k+1)=fQ t k:=by
 unfold fQ
 rw[List.range_succ,List.filter_append,List.map_append]
 simp[h]
def Ag (t:Tb) (kind k:Int) (n:Int):Bool:=decide ((cB t n).k≠kind)||decide ((cB t n).n≠k)
def EB (t:Tb) (kind k:Int):List Int:=(aI t).filter fun n => !Ag t kind k n
theorem Jj {h:List En} {j c:Nat} (hj:j<h.length) (hc:c=0↔qo h j=false) (h0:0≤h[j].k):((0<h[j].k)→(c+1=0↔qo h (j+1)=false))∧(¬0<h[j].k→(c=0↔qo h (j+1)=false)):=by
 rw[yC h j hj]
 constructor
 ·intro hp
  have:decide (h[j].k≠0)=true:=by simp;omega
  simp[this]
 ·intro hp
  have:decide (h[j].k≠0)=false:=by simp;omega
  simp[this,hc]
theorem Mw (f g:En):(f==g)=(f.k==g.k&&(f.n==g.n&&f.w==g.w)):=by
 cases f;cases g
 rw[Bool.eq_iff_iff]
 simp
def yj (t u:Tb):Bool:=decide (t=u)
theorem yO {t u:Tb} (k:Nat) (hk:k<8) (h:t[k]≠u[k]):yj t u=false:=by
 unfold yj
 rw[decide_eq_false_iff_not]
 rintro rfl
 exact h rfl
theorem yP {t u:Tb} (h:∀i (hi:i<8),t[i]=u[i]):yj t u=true:=by
 unfold yj
 rw[decide_eq_true_eq]
 exact Vector.ext h
def bG (t:Tb):List En:=(List.range 64).map fun n:Nat=>cB t (n:Int)
structure Cn (t:Tb) (m:Nat) (l:List En):Prop where
 len:l.length=64
 at' : ∀n (h:n<64),l[n]?=some (if n<m then cB t (n:Int) else zEn)
theorem Cn.start {t:Tb}:Cn t 0 (List.replicate 64 zEn):=⟨List.length_replicate,fun n h=>by rw[List.getElem?_replicate,if_pos h,if_neg (Nat.not_lt_zero _)]⟩
theorem Cn.step {t:Tb} {m:Nat} {l:List En} (h:Cn t m l) (hm:m<64) {E:En} (hE:cB t (m:Int)=E):Cn t (m+1) (l.set m E):=by
 refine⟨by simp[h.len],fun n hn => ?_⟩
 by_cases e:n=m
 ·subst e
  rw[List.getElem?_set_self (by rw[h.len];exact hn),if_pos (by omega),hE]
 ·rw[List.getElem?_set_ne (fun e2=>e e2.symm),h.at' n hn]
  congr 1
  by_cases e2:n<m
  ·rw[if_pos e2,if_pos (by omega)]
  ·rw[if_neg e2,if_neg (by omega)]
theorem uk {t:Tb} {q r:Nat} (hq:q<8) (hr:r<8) (h:t[q].length=0):cB t ((8*q+r:Nat):Int)=zEn:=by
 rw[rJ hq hr,if_neg (by omega)]
theorem yB {t:Tb} {q r:Nat} (hq:q<8) (hr:r<8) (h:t[q].length=8) {E:En} (hE:t[q][r]?=some E):cB t ((8*q+r:Nat):Int)=E:=by
 rw[rJ hq hr,if_pos h,List.getD_eq_getElem?_getD,hE];rfl
theorem Cn.skip {t:Tb} {q:Nat} {l:List En} (h:Cn t (8*q) l) (hq:q<8) (h0:t[q].length=0):Cn t (8*(q+1)) l:=by
 refine⟨h.len,fun n hn => ?_⟩
 rw[h.at' n hn]
 congr 1
 by_cases e2:n<8*q
 ·rw[if_pos e2,if_pos (by omega)]
 ·rw[if_neg e2]
  by_cases e3:n<8*(q+1)
  ·rw[if_pos e3]
   obtain⟨r,rfl⟩:∃r,n=8*q+r:=⟨n-8*q,by omega⟩
   exact (uk hq (by omega) h0).symm
  ·rw[if_neg e3]
theorem Cn.fin {t:Tb} {l:List En} (h:Cn t 64 l):l=bG t:=by
 apply List.ext_getElem?
 intro n
 unfold bG
 by_cases hn:n<64
 ·rw[h.at' n hn,if_pos hn];simp[hn]
 ·rw[List.getElem?_eq_none (by rw[h.len];omega),List.getElem?_eq_none (by simp;omega)]
def zS (e:En):Bool:=decide (0<e.k)
def iw (l:List En) (i:Nat):List En:=(l.drop (8*i)).take 8
def iM (l:List En) (i:Nat):List En:=if (iw l i).any zS then iw l i else []
def dO (l:List En):Tb:=Vector.ofFn fun i:Fin 8=>iM l i.val
def qz (l:List En) (i k:Nat):Bool:=((l.drop (8*i)).take k).any zS
theorem Cf {l:List En} (hl:l.length=64) {i k:Nat} (hi:i<8) (hk:k<8):∃E,l[8*i+k]?=some E∧(l.drop (8*i)).take (k+1)=(l.drop (8*i)).take k++[E]:=by
 refine⟨l[8*i+k]'(by omega),List.getElem?_eq_getElem (by omega),?_⟩
 rw[List.take_add_one,List.getElem?_drop,List.getElem?_eq_getElem (by omega)]
 rfl
theorem wB {l:List En} (hl:l.length=64) {i k:Nat} (hi:i<8) (hk:k≤8):((l.drop (8*i)).take k).length=k:=by
 simp;omega
structure yS (l:List En) (i:Nat) (h:List En) (t:Tb):Prop where
 lo:∀j (hj:j<8),j<i→t[j]=iM l j
 at' : ∀(hi:i<8),t[i]=h
 hi:∀j (hj:j<8),i<j→t[j]=[]
theorem yS.start {l:List En}:yS l 0 [] zTb:=⟨fun _ _ h=>absurd h (Nat.not_lt_zero _),fun _=>by simp[zTb],fun j hj _=>by simp[zTb]⟩
theorem yS.next {l:List En} {i:Nat} {t:Tb} (h:yS l i (iM l i) t) (hi:i<8):yS l (i+1) [] t:=by
 refine⟨fun j hj hji => ?_,fun h2=>h.hi _ h2 (by omega),fun j hj hji=>h.hi j hj (by omega)⟩
 by_cases e:j=i
 ·subst e;exact h.at' hj
 ·exact h.lo j hj (by omega)
theorem yS.set {l:List En} {i:Nat} {h h2:List En} {t:Tb} (hh:yS l i h t) (hi:i<8):yS l i h2 (t.set i h2):=
 ⟨fun j hj hji=>by rw[Vector.getElem_set_ne hi hj (by omega)];exact hh.lo j hj hji,fun _=>by simp,fun j hj hji=>by rw[Vector.getElem_set_ne hi hj (by omega)];exact hh.hi j hj hji⟩
theorem yS.fin {l:List En} {h:List En} {t:Tb} (hh:yS l 8 h t):t=dO l:=by
 apply Vector.ext
 intro i hi
 rw[hh.lo i hi hi]
 simp[dO]
theorem Lt {l:List En} {i:Nat} (h:qz l i 8=false):iM l i=[]:=by
 unfold iM iw
 unfold qz at h
 rw[h];rfl
theorem Jy {l:List En} {i:Nat} (h:qz l i 8=true):iM l i=(l.drop (8*i)).take 8:=by
 unfold iM iw
 unfold qz at h
 rw[h];rfl
structure Fi where
 n:Int
 b:List Int
 deriving DecidableEq
structure St where
 fs:List Fi
 count:Int
 deriving DecidableEq
theorem tO {n:Int} (h:n≤96):dA n≤12:=by unfold dA;split<;>omega
def dU (c:Int):List Int→List Int→Int
 | _,[]=>0
 | seen,b::r=>if b < -1∨c≤b then 3 else if 0≤b∧b∈seen then 7 else dU c (seen++[b]) r
def jG (c:Int):List Int→List Fi→Int
 | _,[]=>0
 | seen,f::r=>if f.n<0∨96<f.n then 3 else if (f.b.length:Int)≠dA f.n then 2 else if dU c seen f.b≠0 then dU c seen f.b else jG c (seen++f.b) r
theorem nJ (c:Int) (seen:List Int) (b:Int) (r:List Int):dU c seen (b::r)=if b < -1∨c≤b then 3 else if 0≤b∧b∈seen then 7 else dU c (seen++[b]) r:=rfl
def aR (s:St):Int:=if 5<s.fs.length∨s.count<0∨80<s.count then 4 else jG s.count [] s.fs
def mf (l:List Int) (j:Int):Bool:=decide (j∈l)
theorem wI (l:List Int) (b:Int):(fun i=>mf l i||decide (i=b))=mf (l++[b]):=by
 funext i
 unfold mf
 rw[Bool.eq_iff_iff]
 simp
theorem drop_at {α:Type} {l:List α} {k:Nat} {x:α} (h:l[k]?=some x):l.drop k=x::l.drop (k+1):=by
 have hk:=(List.getElem?_eq_some_iff.1 h).1
 rw[List.drop_eq_getElem_cons hk,(List.getElem?_eq_some_iff.1 h).2]
theorem take_at {α:Type} {l:List α} {k:Nat} {x:α} (h:l[k]?=some x):l.take (k+1)=l.take k++[x]:=by
 rw[List.take_add_one,h]
 rfl
def newE (n:Int):Int:=if n<0∨80<n then 4 else 0
def jY (s:St):List Int:=s.fs.flatMap Fi.b
def ko (s:St) (b:Int):Bool:=decide (b∈jY s)
def zSt:St:=⟨[],0⟩
theorem kM {s:St} (h:aR s=0):s.fs.length≤5∧0≤s.count∧s.count≤80:=by
 unfold aR at h
 by_cases g:5<s.fs.length∨s.count<0∨80<s.count
 ·rw[if_pos g] at h;cases h
 ·omega
theorem vZ {c:Int}:∀ {fs:List Fi} {seen:List Int},jG c seen fs=0→∀f∈fs,0≤f.n∧f.n≤96∧(f.b.length:Int)=dA f.n∧∀b∈f.b,-1≤b∧b<c
 | f0::r,seen,h,f,hf=>by
  unfold jG at h
  by_cases g1:f0.n<0∨96<f0.n
  ·rw[if_pos g1] at h;cases h
  ·rw[if_neg g1] at h
   by_cases g2:(f0.b.length:Int)≠dA f0.n
   ·rw[if_pos g2] at h;cases h
   ·rw[if_neg g2] at h
    by_cases g3:dU c seen f0.b≠0
    ·rw[if_pos g3] at h;exact absurd h g3
    ·rw[if_neg g3] at h
     rcases List.mem_cons.1 hf with rfl|hf
     ·refine⟨by omega,by omega,Classical.not_not.1 g2,?_⟩
      have key:∀(l:List Int) (sn:List Int),dU c sn l=0→∀b∈l,-1≤b∧b<c:=by
       intro l
       induction l with
       | nil=>intro _ _ b hb;cases hb
       | cons x r ih=>
        intro sn h b hb
        rw[nJ] at h
        by_cases k1:x < -1∨c≤x
        ·rw[if_pos k1] at h;cases h
        ·rw[if_neg k1] at h
         by_cases k2:0≤x∧x∈sn
         ·rw[if_pos k2] at h;cases h
         ·rw[if_neg k2] at h
          rcases List.mem_cons.1 hb with rfl|hb
          ·omega
          ·exact ih _ h b hb
      exact key _ _ (Classical.not_not.1 g3)
     ·exact vZ h f hf
theorem rO {s:St} (h:aR s=0):∀f∈s.fs,0≤f.n∧f.n≤96∧(f.b.length:Int)=dA f.n∧∀b∈f.b,-1≤b∧b<s.count:=by
 have h1:=kM h
 unfold aR at h
 rw[if_neg (by omega)] at h
 exact vZ h
def aV (s:St) (k:Int):Fi:=if 0≤k then s.fs.getD k.toNat ⟨0,[]⟩ else ⟨0,[]⟩
def pW (s:St) (k i:Int):Int:=(aV s k).b.getD i.toNat 0
def lZ (l:List Int):List Int:=l.filter fun x=>decide (0≤x)
theorem xn (l m:List Int):lZ (l++m)=lZ l++lZ m:=List.filter_append _ _
theorem kN {l:List Int} {x:Int}:x∈lZ l↔x∈l∧0≤x:=by unfold lZ;simp
theorem ug {c:Int}:∀ {l seen:List Int},dU c seen l=0↔(∀b∈l,-1≤b∧b<c)∧(lZ l).Nodup∧∀b∈l,0≤b→¬b∈seen
 | [],seen=>by simp[dU,lZ]
 | x::r,seen=>by
  rw[nJ]
  by_cases k1:x < -1∨c≤x
  ·rw[if_pos k1]
   refine⟨fun h=>(by cases h),fun h => ?_⟩
   have:=h.1 x List.mem_cons_self
   omega
  ·rw[if_neg k1]
   by_cases k2:0≤x∧x∈seen
   ·rw[if_pos k2]
    refine⟨fun h=>(by cases h),fun h=>absurd k2.2 (h.2.2 x List.mem_cons_self k2.1)⟩
   ·rw[if_neg k2,ug (l:=r)]
    have hp:lZ (x::r)=if 0≤x then x::lZ r else lZ r:=by unfold lZ;rw[List.filter_cons];simp
    rw[hp]
    constructor
    ·intro ⟨h1,h2,h3⟩
     refine⟨fun b hb => ?_,?_,fun b hb h0 hs => ?_⟩
     ·rcases List.mem_cons.1 hb with rfl|hb
      ·omega
      ·exact h1 b hb
     ·by_cases hx:0≤x
      ·rw[if_pos hx]
       refine List.nodup_cons.2 ⟨fun hm => ?_,h2⟩
       exact h3 x (kN.1 hm).1 hx (List.mem_append_right _ (List.mem_singleton.2 rfl))
      ·rw[if_neg hx];exact h2
     ·rcases List.mem_cons.1 hb with rfl|hb
      ·exact k2 ⟨h0,hs⟩
      ·exact h3 b hb h0 (List.mem_append_left _ hs)
    ·intro ⟨h1,h2,h3⟩
     refine⟨fun b hb=>h1 b (List.mem_cons_of_mem _ hb),?_,fun b hb h0 hs => ?_⟩
     ·by_cases hx:0≤x
      ·rw[if_pos hx] at h2;exact (List.nodup_cons.1 h2).2
      ·rw[if_neg hx] at h2;exact h2
     ·rcases List.mem_append.1 hs with hs|hs
      ·exact h3 b (List.mem_cons_of_mem _ hb) h0 hs
      ·rw[List.mem_singleton.1 hs] at hb h0
       rw[if_pos h0] at h2
       exact (List.nodup_cons.1 h2).1 (kN.2 ⟨hb,h0⟩)
def wU (c:Int) (f:Fi):Prop:=0≤f.n∧f.n≤96∧(f.b.length:Int)=dA f.n∧∀b∈f.b,-1≤b∧b<c
theorem yD {c:Int}:∀ {fs:List Fi} {seen:List Int},jG c seen fs=0↔(∀f∈fs,wU c f)∧(lZ (fs.flatMap Fi.b)).Nodup∧∀b∈fs.flatMap Fi.b,0≤b→¬b∈seen
 | [],seen=>by simp[jG,lZ]
 | f::r,seen=>by
  unfold jG
  by_cases g1:f.n<0∨96<f.n
  ·rw[if_pos g1]
   refine⟨fun h=>(by cases h),fun h => ?_⟩
   have:=h.1 f List.mem_cons_self
   unfold wU at this
   omega
  ·rw[if_neg g1]
   by_cases g2:(f.b.length:Int)≠dA f.n
   ·rw[if_pos g2]
    exact⟨fun h=>(by cases h),fun h=>absurd (h.1 f List.mem_cons_self).2.2.1 g2⟩
   ·rw[if_neg g2,List.flatMap_cons,xn]
    by_cases g3:dU c seen f.b≠0
    ·rw[if_pos g3]
     refine⟨fun h=>absurd h g3,fun h=>absurd (ug.2 ⟨(h.1 f List.mem_cons_self).2.2.2,(List.nodup_append.1 h.2.1).1,fun b hb=>h.2.2 b (List.mem_append_left _ hb)⟩) g3⟩
    ·rw[if_neg g3,yD (fs:=r)]
     have g3':=ug.1 (Classical.not_not.1 g3)
     constructor
     ·intro ⟨h1,h2,h3⟩
      refine⟨fun x hx => ?_,List.nodup_append.2 ⟨g3'.2.1,h2,fun a ha b hb e => ?_⟩,fun b hb h0 hs => ?_⟩
      ·rcases List.mem_cons.1 hx with rfl|hx
       ·exact⟨by omega,by omega,Classical.not_not.1 g2,g3'.1⟩
       ·exact h1 x hx
      ·subst e
       exact h3 a (kN.1 hb).1 (kN.1 hb).2 (List.mem_append_right _ (kN.1 ha).1)
      ·rcases List.mem_append.1 hb with hb|hb
       ·exact g3'.2.2 b hb h0 hs
       ·exact h3 b hb h0 (List.mem_append_left _ hs)
     ·intro ⟨h1,h2,h3⟩
      obtain⟨n1,n2,n3⟩:=List.nodup_append.1 h2
      refine⟨fun x hx=>h1 x (List.mem_cons_of_mem _ hx),n2,fun b hb h0 hs => ?_⟩
      rcases List.mem_append.1 hs with hs|hs
      ·exact h3 b (List.mem_append_right _ hb) h0 hs
      ·exact n3 b (kN.2 ⟨hs,h0⟩) b (kN.2 ⟨hb,h0⟩) rfl
theorem mi {s:St}:aR s=0↔(s.fs.length≤5∧0≤s.count∧s.count≤80)∧(∀f∈s.fs,wU s.count f)∧(lZ (jY s)).Nodup:=by
 unfold aR
 by_cases g:5<s.fs.length∨s.count<0∨80<s.count
 ·rw[if_pos g]
  exact⟨fun h=>(by cases h),fun h=>by omega⟩
 ·rw[if_neg g,yD]
  exact⟨fun h=>⟨by omega,h.1,h.2.1⟩,fun h=>⟨h.2.1,h.2.2,fun b _ _ hm=>by cases hm⟩⟩
def oG (N:Nat) (seen:List Int):List Bool:=(List.range N).map fun i:Nat=>decide ((i:Int)∈seen)
theorem sO (N:Nat) (seen:List Int):(oG N seen).length=N:=by simp[oG]
theorem Ie (N:Nat):oG N []=List.replicate N false:=by
 apply List.ext_getElem?
 intro i
 unfold oG
 by_cases hi:i<N
 ·simp[hi,List.getElem?_replicate]
 ·rw[List.getElem?_eq_none (by simp;omega),List.getElem?_eq_none (by simp;omega)]
theorem zR (N:Nat) (seen:List Int) (i:Nat) (hi:i<N):(oG N seen)[i]?=some (decide ((i:Int)∈seen)):=by simp[oG,hi]
theorem He (N:Nat) (seen:List Int) (x:Int) (hx:x<0):oG N (seen++[x])=oG N seen:=by
 unfold oG
 apply List.map_congr_left
 intro i _
 have:¬(i:Int)=x:=by omega
 simp[this]
theorem JJ (N:Nat) (seen:List Int) (X:Nat) (hX:X<N):(oG N seen).set X true=oG N (seen++[(X:Int)]):=by
 apply List.ext_getElem?
 intro i
 by_cases hi:i<N
 ·rw[zR N _ i hi,List.getElem?_set]
  by_cases e:X=i
  ·subst e
   rw[if_pos rfl,if_pos (by rw[sO];exact hi)]
   simp
  ·rw[if_neg e,zR N _ i hi]
   have:¬(i:Int)=(X:Int):=by omega
   simp[this]
 ·rw[List.getElem?_eq_none (by simp[sO];omega),List.getElem?_eq_none (by simp[sO];omega)]
def jg (s t:St):Bool:=decide (s=t)
theorem zy {s t:St} (h:s.count≠t.count):jg s t=false:=decide_eq_false fun e=>h (by rw[e])
theorem Dt {s t:St} (h:s.fs.length≠t.fs.length):jg s t=false:=decide_eq_false fun e=>h (by rw[e])
theorem jo {s t:St} (k:Nat) (h:s.fs[k]?≠t.fs[k]?):jg s t=false:=decide_eq_false fun e=>h (by rw[e])
theorem DT {s t:St} (h1:s.count=t.count) (h2:s.fs.length=t.fs.length) (h:∀i,i<s.fs.length→s.fs[i]?=t.fs[i]?):jg s t=true:=by
 refine decide_eq_true ?_
 obtain⟨f,c⟩:=s
 obtain⟨g,d⟩:=t
 simp only at h1 h2 h
 subst h1
 congr 1
 apply List.ext_getElem?
 intro i
 by_cases hi:i<f.length
 ·exact h i hi
 ·rw[List.getElem?_eq_none (by omega),List.getElem?_eq_none (by omega)]
structure Ar where
 fr:Int
 en:Int
 rd:Bool
 wr:Bool
 sh:Bool
 fi:Int
 ba:Int
 deriving DecidableEq
def aO (a:Ar):Int:=if a.fr<0∨a.en≤a.fr∨64<a.en∨a.fi < -1∨5≤a.fi∨a.ba<0 then 3 else if (a.fi<0∧(a.ba≠0∨a.sh=true))∨0≤a.fi∧12-(a.en-a.fr)<a.ba then 7 else 0
def gz (a:Ar):Int:=if 0≤a.fi then a.ba+a.en-a.fr else 0
def bS (a b:Ar):Bool:=a.en==b.fr&&a.rd==b.rd&&a.wr==b.wr&&a.sh==b.sh&&a.fi==b.fi&&b.ba==gz a
def uV (a:Ar):Prop:=(0≤a.ba∧a.ba≤12)∧(0≤a.fr∧a.fr≤64)∧0≤a.en∧a.en≤64
theorem bi {a:Ar} (h:aO a=0):uV a∧a.fr<a.en∧-1≤a.fi∧a.fi<5∧(a.fi<0→a.ba=0∧a.sh=false)∧(0≤a.fi→a.ba≤12-(a.en-a.fr)):=by
 unfold aO at h
 split at h
 ·omega
 ·rename_i h1
  split at h
  ·omega
  ·rename_i h2
   have hs:a.fi<0→a.ba=0∧a.sh=false:=fun hf=>⟨Decidable.byContradiction fun h=>h2 (.inl ⟨hf,.inl h⟩),by
    cases hsh:a.sh
    ·rfl
    ·exact absurd (.inl ⟨hf,.inr hsh⟩) h2⟩
   have hb:0≤a.fi→a.ba≤12-(a.en-a.fr):=fun hf=>by omega
   unfold uV
   refine⟨⟨⟨by omega,?_⟩,by omega,by omega,by omega⟩,by omega,by omega,by omega,hs,hb⟩
   by_cases hf:a.fi<0
   ·have:=(hs hf).1;omega
   ·have:=hb (by omega);omega
def fF (p:Option Ar) (i:Nat):List Ar→Int × Int
 | []=>(0,0)
 | a::r=>if aO a≠0 then (aO a,i) else if (match p with | some q=>decide (a.fr<q.en)||bS q a | none=>false) then (2,i) else fF (some a) (i+1) r
def aZ (l:List Ar):Int × Int:=if 16<l.length then (4,0) else fF none 0 l
def kJ (l:List Ar) (k:Nat):Option Ar:=if k=0 then none else l[k-1]?
theorem wY {l:List Ar} {k:Nat} (hk:k<l.length):kJ l (k+1)=some l[k]:=by simp[kJ,hk]
def nT (p:Option Ar) (a:Ar):Bool:=match p with | some q=>decide (a.fr<q.en)||bS q a | none=>false
theorem jB (p:Option Ar) (i:Nat) (a:Ar) (r:List Ar):fF p i (a::r)=if aO a≠0 then (aO a,(i:Int)) else if nT p a then (2,(i:Int)) else fF (some a) (i+1) r:=rfl
theorem nK {l:List Ar} {k:Nat} (hlt:k<l.length) (he:aO l[k]=0) (hno:nT (kJ l k) l[k]=false):fF (kJ l k) k (l.drop k)=fF (kJ l (k+1)) (k+1) (l.drop (k+1)):=by
 rw[List.drop_eq_getElem_cons hlt,jB,if_neg (by rw[he];simp),hno,wY hlt]
 rfl
theorem nR {l:List Ar} {k:Nat} (hlt:k<l.length) (he:aO l[k]=0) (hno:nT (kJ l k) l[k]=true):fF (kJ l k) k (l.drop k)=(2,(k:Int)):=by
 rw[List.drop_eq_getElem_cons hlt,jB,if_neg (by rw[he];simp),hno]
 rfl
theorem yV {l:List Ar} {k:Nat} (hlt:k<l.length) (he:aO l[k]≠0):fF (kJ l k) k (l.drop k)=(aO l[k],(k:Int)):=by
 rw[List.drop_eq_getElem_cons hlt,jB,if_pos he]
theorem Bw {l:List Ar} {m:Nat} (hm:m+1<l.length):nT (kJ l (m+1)) l[m+1]=(decide (l[m+1].fr<l[m].en)||bS l[m] l[m+1]):=by
 rw[wY (show m<l.length by omega)]
 rfl
def jP (n:Int) (a:Ar):Bool:=decide (a.fr≤n)&&decide (n<a.en)
def fw (l:List Ar) (n:Int):Int:=idx (jP n) l
def kZ (b a:Ar):Bool:=decide (a.fr<b.en)&&decide (b.fr<a.en)
def sQ (b a:Ar):Bool:=decide (b.fr<a.fr)
def zAr:Ar:=⟨0,0,false,false,false,0,0⟩
def sK (acc:List Ar) (a:Ar):List Ar:=match acc.getLast? with
 | some q=>if bS q a then acc.set (acc.length-1) { q with en:=a.en } else acc++[a]
 | none=>acc++[a]
def mr (l:List Ar):List Ar:=l.foldl sK []
theorem qc {l:List Ar} (h:(aZ l).1=0):l.length≤16∧∀a∈l,aO a=0:=by
 unfold aZ at h
 split at h
 ·exact absurd h (by decide)
 ·refine⟨by omega,?_⟩
  have key:∀(l:List Ar) (p:Option Ar) (i:Nat),(fF p i l).1=0→∀a∈l,aO a=0:=by
   intro l
   induction l with
   | nil=>intro p i _ a ha;cases ha
   | cons b r ih=>
    intro p i h a ha
    rw[jB] at h
    split at h
    ·rename_i hb;exact absurd h hb
    ·rename_i hb
     split at h
     ·exact absurd (show (2:Int)=0 from h) (by decide)
     ·rcases List.mem_cons.1 ha with rfl|ha
      ·exact Decidable.byContradiction hb
      ·exact ih _ _ h a ha
  exact key l none 0 h
def MZ (l:List Ar) (x:Ar):Nat:=match l.findIdx? (sQ x) with
 | some k=>k
 | none=>l.length
def wZ (l:List Ar) (x:Ar):List Ar:=l.take (MZ l x)++x::l.drop (MZ l x)
def um (l:List Ar) (x:Ar):Int:=if (aZ l).1≠0 then (aZ l).1 else if aO x≠0 then aO x else if l.any (kZ x)=true then 6 else if 16<(mr (wZ l x)).length then 4 else 0
def qI (l:List Ar) (x:Ar):List Ar:=if um l x≠0 then [] else mr (wZ l x)
theorem zO {l:List Ar} {x:Ar} {e:Int} (h:um l x=e) (he:e≠0):um l x=e∧qI l x=[]:=by
 refine⟨h,?_⟩
 unfold qI;rw[if_pos (by rw[h];exact he)]
def xL (n:Nat):Int:=if 16<n then 4 else 0
theorem Ml (f g:Ar):(f==g)=(f.fr==g.fr&&(f.en==g.en&&(f.rd==g.rd&&(f.wr==g.wr&&(f.sh==g.sh&&(f.fi==g.fi&&f.ba==g.ba)))))):=by
 cases f;cases g
 rw[Bool.eq_iff_iff]
 simp
def BU (l m:List Ar):Bool:=decide (l=m)
theorem Gs {l m:List Ar} (k:Nat) (h:l[k]?≠m[k]?):BU l m=false:=decide_eq_false fun e=>h (by rw[e])
theorem FQ {l m:List Ar} (h1:l.length=m.length) (h:∀i (hi:i<l.length),l[i]=m[i]'(by omega)):BU l m=true:=decide_eq_true (List.ext_getElem h1 fun i hi _=>h i hi)
theorem Cy (l:List Ar):BU l l=true:=decide_eq_true rfl
def aa:Ar:=⟨2,8,true,false,false,-1,0⟩
structure Pg where
 rd:Bool
 wr:Bool
 sh:Bool
 fi:Int
 pg:Int
 deriving DecidableEq
def gJ (a:Ar) (n:Int):Pg:=⟨a.rd,a.wr,a.sh,a.fi,if 0≤a.fi then a.ba+n-a.fr else 0⟩
def onA:List Ar→Int→Option Pg
 | [],_=>none
 | a::r,n=>if jP n a then some (gJ a n) else onA r n
theorem bW {n:Int} {a:Ar}:jP n a=true↔a.fr≤n∧n<a.en:=by unfold jP;simp
theorem bN (a:Ar) (r:List Ar) (n:Int):onA (a::r) n=if jP n a then some (gJ a n) else onA r n:=rfl
theorem zq (l m:List Ar) (n:Int):onA (l++m) n=(onA l n).or (onA m n):=by
 induction l with
 | nil=>simp[onA]
 | cons a r ih=>rw[List.cons_append,bN,bN];split<;>simp[ih]
def srtF:Int→List Ar→Prop
 | _,[]=>True
 | lo,a::r=>aO a=0∧lo≤a.fr∧srtF a.en r
theorem srtF_ok:∀ {l:List Ar} {lo:Int},srtF lo l→∀a∈l,aO a=0∧lo≤a.fr
 | b::r,lo,h,a,ha=>by
  rcases List.mem_cons.1 ha with rfl|ha
  ·exact⟨h.1,h.2.1⟩
  ·have h1:=srtF_ok h.2.2 a ha
   have h2:=(bi h.1).2.1
   have h3:=h.2.1
   exact⟨h1.1,by omega⟩
theorem on_low:∀ {l:List Ar} {lo n:Int},srtF lo l→n<lo→onA l n=none
 | [],_,_,_,_=>rfl
 | a::r,lo,n,h,hn=>by
  have h1:=h.2.1
  have h2:=(bi h.1).2.1
  rw[bN,if_neg (by rw[bW];omega)]
  exact on_low h.2.2 (by omega)
def okF (p:Option Ar):List Ar→Prop
 | []=>True
 | a::r=>aO a=0∧nT p a=false∧okF (some a) r
theorem si {q a:Ar}:nT (some q) a=false↔q.en≤a.fr∧bS q a=false:=by
 unfold nT
 simp
theorem okF_srt:∀ {l:List Ar} {q:Ar},okF (some q) l→srtF q.en l
 | [],_,_=>trivial
 | a::r,q,h=>⟨h.1,(si.1 h.2.1).1,okF_srt h.2.2⟩
theorem iX {l:List Ar} (h:okF none l):srtF 0 l:=by
 match l,h with
 | [],_=>trivial
 | a::r,h=>exact⟨h.1,by have:=(bi h.1).1.2.1.1;exact this,okF_srt h.2.2⟩
theorem wrongAt_iff:∀ {l:List Ar} {p:Option Ar} {i:Nat},(fF p i l).1=0↔okF p l
 | [],_,_=>⟨fun _=>trivial,fun _=>rfl⟩
 | a::r,p,i=>by
  rw[jB]
  by_cases h:aO a=0
  ·rw[if_neg (by rw[h];simp)]
   cases hb:nT p a
   ·rw[if_neg (by simp),wrongAt_iff]
    exact⟨fun h2=>⟨h,hb,h2⟩,fun h2=>h2.2.2⟩
   ·rw[if_pos rfl]
    refine⟨fun h2=>absurd (show (2:Int)=0 from h2) (by decide),fun h2 => ?_⟩
    have h3:=h2.2.1
    rw[hb] at h3
    cases h3
  ·rw[if_pos h]
   exact⟨fun h2=>absurd h2 h,fun h2=>absurd h2.1 h⟩
theorem fe {l:List Ar}:(aZ l).1=0↔l.length≤16∧okF none l:=by
 unfold aZ
 by_cases h:16<l.length
 ·rw[if_pos h]
  exact⟨fun h2=>absurd (show (4:Int)=0 from h2) (by decide),fun h2=>by omega⟩
 ·rw[if_neg h,wrongAt_iff]
  exact⟨fun h2=>⟨by omega,h2⟩,fun h2=>h2.2⟩
theorem mR {q a:Ar}:bS q a=true↔q.en=a.fr∧q.rd=a.rd∧q.wr=a.wr∧q.sh=a.sh∧q.fi=a.fi∧a.ba=gz q:=by
 unfold bS
 simp[and_assoc]
theorem Ij {q a:Ar} (h:bS q a=true) (n:Int):gJ a n=gJ q n:=by
 obtain⟨h1,h2,h3,h4,h5,h6⟩:=mR.1 h
 unfold gJ gz at *
 rw[←h2,←h3,←h4,←h5]
 split
 ·rename_i hf;rw[h6,if_pos hf];congr 1;omega
 ·rfl
theorem on_uniq:∀ {l m:List Ar} {p q:Option Ar},okF p l→okF q m→(∀n,onA l n=onA m n)→l=m
 | [],[],_,_,_,_,_=>rfl
 | [],b::s,_,_,_,hm,h=>by
  have:=h b.fr
  rw[bN,if_pos (bW.2 ⟨Int.le_refl _,(bi hm.1).2.1⟩)] at this
  cases this
 | a::r,[],_,_,hl,_,h=>by
  have:=h a.fr
  rw[bN,if_pos (bW.2 ⟨Int.le_refl _,(bi hl.1).2.1⟩)] at this
  cases this
 | a::r,b::s,p,q,hl,hm,h=>by
  have ea:=bi hl.1
  have eb:=bi hm.1
  have sr:=okF_srt hl.2.2
  have ss:=okF_srt hm.2.2
  have half:∀ {a b:Ar} {r s:List Ar},aO a=0→aO b=0→srtF a.en r→srtF b.en s→(∀n,onA (a::r) n=onA (b::s) n)→¬a.fr<b.fr:=by
   intro a b r s ha hb hr hs h hlt
   have h1:=h a.fr
   have h2:=(bi ha).2.1
   have h3:=(bi hb).2.1
   rw[bN,if_pos (bW.2 ⟨Int.le_refl _,h2⟩),bN,if_neg (by rw[bW];omega),on_low hs (by omega)] at h1
   cases h1
  have hfr:a.fr=b.fr:=by
   have h1:=half hl.1 hm.1 sr ss h
   have h2:=half hm.1 hl.1 ss sr (fun n=>(h n).symm)
   omega
  have h1:=h a.fr
  rw[bN,if_pos (bW.2 ⟨Int.le_refl _,ea.2.1⟩),bN,if_pos (bW.2 ⟨by omega,by have:=eb.2.1;omega⟩)] at h1
  have hpg:=Option.some.inj h1
  unfold gJ at hpg
  simp only[Pg.mk.injEq] at hpg
  obtain⟨g1,g2,g3,g4,g5⟩:=hpg
  have hba:a.ba=b.ba:=by
   by_cases hf:0≤a.fi
   ·rw[if_pos hf,if_pos (by omega)] at g5;omega
   ·rw[(ea.2.2.2.2.1 (by omega)).1,(eb.2.2.2.2.1 (by omega)).1]
  have half2:∀ {a b:Ar} {r s:List Ar},aO a=0→aO b=0→okF (some a) r→a.fr=b.fr→a.rd=b.rd→a.wr=b.wr→a.sh=b.sh→a.fi=b.fi→a.ba=b.ba→(∀n,onA (a::r) n=onA (b::s) n)→¬a.en<b.en:=by
   intro a b r s ha hb hr k1 k2 k3 k4 k5 k6 h hlt
   have h1:=h a.en
   have h2:=(bi ha).2.1
   rw[bN,if_neg (by rw[bW];omega),bN,if_pos (bW.2 ⟨by omega,hlt⟩)] at h1
   match r,hr with
   | [],_=>cases h1
   | c::t,hr=>
    have hc:=si.1 hr.2.1
    rw[bN] at h1
    split at h1
    ·rename_i hin
     rw[bW] at hin
     have hp:=Option.some.inj h1
     unfold gJ at hp
     simp only[Pg.mk.injEq] at hp
     obtain⟨g1,g2,g3,g4,g5⟩:=hp
     have:bS a c=true:=by
      rw[mR]
      refine⟨by omega,by rw[k2,g1],by rw[k3,g2],by rw[k4,g3],by omega,?_⟩
      unfold gz
      by_cases hf:0≤a.fi
      ·rw[if_pos (by omega),if_pos (by omega)] at g5
       rw[if_pos hf];omega
      ·rw[if_neg hf]
       exact ((bi hr.1).2.2.2.2.1 (by omega)).1
     rw[hc.2] at this
     cases this
    ·rename_i hin
     rw[bW] at hin
     have:=(bi hr.1).2.1
     rw[on_low (okF_srt hr.2.2) (by omega)] at h1
     cases h1
  have hen:a.en=b.en:=by
   have h1:=half2 hl.1 hm.1 hl.2.2 hfr g1 g2 g3 g4 hba h
   have h2:=half2 hm.1 hl.1 hm.2.2 hfr.symm g1.symm g2.symm g3.symm g4.symm hba.symm (fun n=>(h n).symm)
   omega
  have hab:a=b:=by
   cases a;cases b
   simp_all
  subst hab
  congr 1
  refine on_uniq hl.2.2 hm.2.2 fun n => ?_
  have h1:=h n
  rw[bN,bN] at h1
  split at h1
  ·rename_i hin
   rw[bW] at hin
   rw[on_low sr (by omega),on_low ss (by omega)]
  ·exact h1
def mK (q:Ar):List Ar→List Ar
 | []=>[q]
 | a::r=>if bS q a then mK { q with en:=a.en } r else q::mK a r
theorem BB (init:List Ar) (q a:Ar):sK (init++[q]) a=if bS q a then init++[{ q with en:=a.en }] else init++[q]++[a]:=by
 unfold sK
 rw[List.getLast?_concat]
 simp only[]
 split
 ·simp
 ·rfl
theorem tidy_go:∀(r:List Ar) (init:List Ar) (q:Ar),r.foldl sK (init++[q])=init++mK q r
 | [],init,q=>rfl
 | a::r,init,q=>by
  rw[List.foldl_cons,BB]
  unfold mK
  split
  ·exact tidy_go r init _
  ·rw[tidy_go r (init++[q]) a,List.append_assoc];rfl
theorem qH (a:Ar) (r:List Ar):mr (a::r)=mK a r:=by
 unfold mr
 rw[List.foldl_cons]
 exact tidy_go r [] a
theorem uO {q a:Ar} (hq:aO q=0) (ha:aO a=0) (h:bS q a=true):aO { q with en:=a.en }=0:=by
 obtain⟨h1,h2,h3,h4,h5,h6⟩:=mR.1 h
 have eq:=bi hq
 have ea:=bi ha
 unfold uV at eq ea
 unfold aO
 rw[if_neg (by simp only[];omega),if_neg]
 simp only[]
 rintro (⟨k1,k2⟩|⟨k1,k2⟩)
 ·have:=eq.2.2.2.2.1 k1
  rcases k2 with k2|k2
  ·exact k2 this.1
  ·rw[this.2] at k2;cases k2
 ·have h7:=ea.2.2.2.2.2 (by omega)
  unfold gz at h6
  rw[if_pos k1] at h6
  omega
theorem IP {q a:Ar} {r:List Ar} (hq:aO q=0) (ha:aO a=0) (h:bS q a=true) (n:Int):onA ({ q with en:=a.en }::r) n=onA (q::a::r) n:=by
 have hp:=Ij h n
 obtain⟨h1,_⟩:=mR.1 h
 have h2:=(bi hq).2.1
 have h3:=(bi ha).2.1
 rw[bN,bN,bN]
 have hpp:gJ { q with en:=a.en } n=gJ q n:=rfl
 by_cases c1:jP n q=true
 ·rw[if_pos c1,if_pos (by rw[bW] at c1 ⊢; simp only[];omega),hpp]
 ·rw[if_neg c1]
  by_cases c2:jP n a=true
  ·rw[if_pos c2,if_pos (by rw[bW] at c2 ⊢; simp only[];omega),hpp,hp]
  ·rw[if_neg c2,if_neg]
   rw[bW] at c1 c2 ⊢
   simp only[]
   omega
def Dx (x:Ar):List Ar→List Ar
 | []=>[x]
 | a::r=>if x.fr<a.fr then x::a::r else a::Dx x r
theorem vw (x:Ar):∀l:List Ar,wZ l x=Dx x l
 | []=>rfl
 | a::r=>by
  have ih:=vw x r
  unfold wZ MZ at ih ⊢
  unfold Dx
  rw[List.findIdx?_cons]
  by_cases h:x.fr<a.fr
  ·rw[if_pos h,if_pos (show sQ x a=true from decide_eq_true h)]
   rfl
  ·rw[if_neg h,if_neg (show ¬sQ x a=true by unfold sQ;simpa using h)]
   cases hq:r.findIdx? (sQ x) with
   | none=>rw[hq] at ih;simp only[Option.map_none] at *; rw[←ih];simp
   | some k=>rw[hq] at ih;simp only[Option.map_some] at *; rw[←ih];simp
theorem zX {x:Ar} (hx:aO x=0) (n:Int):∀ {l:List Ar} {lo:Int},srtF lo l→(∀a∈l,kZ x a=false)→onA (Dx x l) n=if jP n x then some (gJ x n) else onA l n
 | [],_,_,_=>rfl
 | a::r,lo,h,hm=>by
  unfold Dx
  split
  ·rfl
  ·rename_i hlt
   rw[bN,bN,zX hx n h.2.2 (fun b hb=>hm b (List.mem_cons_of_mem _ hb))]
   by_cases c1:jP n a=true
   ·rw[if_pos c1,if_pos c1]
    rw[if_neg]
    rw[bW] at c1 ⊢
    have hm1:=hm a List.mem_cons_self
    unfold kZ at hm1
    have h2:=(bi hx).2.1
    have h3:=(bi h.1).2.1
    simp only[Bool.and_eq_false_iff,decide_eq_false_iff_not] at hm1
    omega
   ·rw[if_neg c1,if_neg c1]
theorem xh {x:Ar} (hx:aO x=0):∀ {l:List Ar} {lo:Int},srtF lo l→lo≤x.fr→(∀a∈l,kZ x a=false)→srtF lo (Dx x l)
 | [],lo,_,hl,_=>⟨hx,hl,trivial⟩
 | a::r,lo,h,hl,hm=>by
  have hm1:=hm a List.mem_cons_self
  unfold kZ at hm1
  have h2:=(bi hx).2.1
  have h3:=(bi h.1).2.1
  simp only[Bool.and_eq_false_iff,decide_eq_false_iff_not] at hm1
  unfold Dx
  split
  ·exact⟨hx,hl,h.1,by omega,h.2.2⟩
  ·rename_i hlt
   exact⟨h.1,h.2.1,xh hx h.2.2 (by omega) (fun b hb=>hm b (List.mem_cons_of_mem _ hb))⟩
theorem Hq {a:Ar} (h:aO a=0) {k:Int} (hk:jP k a=true):0≤k∧k<64:=by
 have:=(bi h).1
 unfold uV at this
 rw[bW] at hk
 omega
theorem toList_map {α β:Type} (o:Option α) (f:α→β):(o.map f).toList=o.toList.map f:=by cases o<;>rfl
theorem ve (l:List Ar) (n:Int):(0≤fw l n)↔onA l n≠none:=by
 have h:=lC (jP n) l
 have h2:l.any (jP n)=true↔onA l n≠none:=by
  induction l with
  | nil=>simp[onA]
  | cons a r ih=>rw[List.any_cons,bN];cases jP n a<;>simp[ih (lC _ _)]
 rw[←h2,←h,decide_eq_true_eq]
 exact Iff.rfl
def oR (o:Option Pg):Bool:=match o with | some p=>p.rd | none=>false
def oW (o:Option Pg):Bool:=match o with | some p=>p.wr | none=>false
def oH (o:Option Pg):Bool:=match o with | some p=>p.sh | none=>false
def oF (o:Option Pg):Int:=match o with | some p=>p.fi | none=>0
def oP (o:Option Pg):Int:=match o with | some p=>p.pg | none=>0
def EQ (f:Nat→Option Pg):List (Option Pg):=(List.range 64).map f
theorem pI (f:Nat→Option Pg):(EQ f).length=64:=by simp[EQ]
theorem Ky (f:Nat→Option Pg) (k:Nat) (x:Option Pg):(EQ f).set k x=EQ (fun i=>if i=k then x else f i):=by
 unfold EQ
 apply List.ext_getElem?
 intro i
 rw[List.getElem?_set]
 by_cases h:k=i
 ·subst h
  by_cases hk:k<64
  ·simp[hk]
  ·simp[hk]
 ·rw[if_neg h]
  by_cases hi:i<64
  ·simp[hi,Ne.symm h]
  ·simp[hi]
def f0:Nat→Option Pg:=fun _=>none
def Az (A:Ar) (K:Int) (f:Nat→Option Pg):Nat→Option Pg:=fun i=>if A.fr≤(i:Int)∧(i:Int)<K then some (gJ A i) else f i
theorem Gq (A:Ar) (f:Nat→Option Pg):Az A A.fr f=f:=by funext i;unfold Az;rw[if_neg (by omega)]
theorem Hz {A:Ar} {K:Nat} (hK:A.fr≤(K:Int)) (f:Nat→Option Pg):(fun i=>if i=K then some (gJ A K) else Az A K f i)=Az A ((K:Int)+1) f:=by
 funext i
 unfold Az
 by_cases h:i=K
 ·subst h;rw[if_pos rfl,if_pos (by omega)]
 ·rw[if_neg h]
  by_cases c:A.fr≤(i:Int)∧(i:Int)<K
  ·rw[if_pos c,if_pos (by omega)]
  ·rw[if_neg c,if_neg (by omega)]
def bF (l:List Ar):Nat→Option Pg:=l.foldl (fun f A=>Az A A.en f) f0
theorem Cv {l:List Ar} {k:Nat} (hk:k<l.length):bF (l.take (k+1))=Az l[k] l[k].en (bF (l.take k)):=by
 unfold bF
 rw[List.take_add_one,List.getElem?_eq_getElem hk,Option.toList_some,List.foldl_append]
 rfl
def kU (p q:Pg):Pg:=if 0≤p.fi then { q with pg:=q.pg+1 } else q
def iN (f:Nat→Option Pg) (k:Nat) (p:Pg):Bool:=match k with
 | 0=>false
 | m+1=>match f m with
  | some q=>kU p q==p
  | none=>false
def dI (k:Nat) (p:Pg):Ar:=⟨k,(k:Int)+1,p.rd,p.wr,p.sh,p.fi,p.pg⟩
def oJ (l:List Ar) (e:Int):List Ar:=match l.getLast? with
 | some q=>l.set (l.length-1) { q with en:=e }
 | none=>l
def ig (f:Nat→Option Pg):Nat→List Ar
 | 0=>[]
 | k+1=>match f k with
  | none=>ig f k
  | some p=>if iN f k p then oJ (ig f k) ((k:Int)+1) else ig f k++[dI k p]
theorem yE (l:List Ar) (e:Int):(oJ l e).length=l.length:=by unfold oJ;split<;>simp
theorem zA (f:Nat→Option Pg):∀k,(ig f k).length≤k
 | 0=>Nat.le_refl _
 | k+1=>by
  have ih:=zA f k
  unfold ig
  split
  ·omega
  ·split
   ·rw[yE];omega
   ·rw[List.length_append,List.length_singleton];omega
theorem Ig (f:Nat→Option Pg) {m:Nat} {q:Pg} (h:f m=some q):0<(ig f (m+1)).length:=by
 have hall:∀k (q:Pg),f k=some q→0<(ig f (k+1)).length:=by
  intro k
  induction k with
  | zero=>intro q h;unfold ig;rw[h];simp[iN]
  | succ k ih=>
   intro q h
   rw[ig,h]
   simp only[]
   by_cases hs:iN f (k+1) q=true
   ·rw[if_pos hs,yE]
    cases hf:f k with
    | none=>
     have h2:iN f (k+1) q=false:=by simp only[iN,hf]
     rw[h2] at hs
     cases hs
    | some z=>exact ih z hf
   ·rw[if_neg hs,List.length_append,List.length_singleton];omega
 exact hall m q h
theorem MC (p q:Pg):(p==q)=(p.rd==q.rd&&(p.wr==q.wr&&(p.sh==q.sh&&(p.fi==q.fi&&p.pg==q.pg)))):=by
 cases p;cases q
 rw[Bool.eq_iff_iff]
 simp
theorem Ik {f:Nat→Option Pg} {k:Nat} (h:f k=none):ig f (k+1)=ig f k:=by rw[ig,h]
theorem Ho {f:Nat→Option Pg} {k:Nat} {p:Pg} (h:f k=some p) (hs:iN f k p=true):ig f (k+1)=oJ (ig f k) ((k:Int)+1):=by
 rw[ig,h];simp only[];rw[if_pos hs]
theorem vG {f:Nat→Option Pg} {k:Nat} {p:Pg} (h:f k=some p) (hs:iN f k p=false):ig f (k+1)=ig f k++[dI k p]:=by
 rw[ig,h];simp only[];rw[hs];rfl
theorem Ck {l:List Ar} {n:Nat} (hn:l.length=n+1) (e:Int):oJ l e=l.set n { (l[n]'(by omega)) with en:=e }:=by
 unfold oJ
 have:l.getLast?=some (l[n]'(by omega)):=by rw[List.getLast?_eq_getElem?,List.getElem?_eq_getElem (by omega)];simp[hn]
 rw[this];simp[hn]
theorem FY {f:Nat→Option Pg} {k:Nat} (h:f k=none):ig f (k+1)=ig f k:=by rw[ig,h]
theorem Lm {f:Nat→Option Pg} {k:Nat} {p:Pg} (h:f k=some p) (hs:iN f k p=true):ig f (k+1)=oJ (ig f k) ((k:Int)+1):=by
 rw[ig,h];simp only[];rw[if_pos hs]
theorem Hu {f:Nat→Option Pg} {k:Nat} {p:Pg} (h:f k=some p) (hs:iN f k p=false):ig f (k+1)=ig f k++[dI k p]:=by
 rw[ig,h];simp only[];rw[hs];rfl
def GI (p:Pg):Prop:=-1≤p.fi∧p.fi<5∧0≤p.pg∧(p.fi<0→p.pg=0∧p.sh=false)∧(0≤p.fi→p.pg≤11)
theorem vB {l:List Ar} {n:Int} (h:∀a∈l,a.en≤n):onA l n=none:=by
 induction l with
 | nil=>rfl
 | cons a r ih=>
  have:=h a List.mem_cons_self
  rw[bN,if_neg (by rw[bW];omega),ih (fun b hb=>h b (List.mem_cons_of_mem _ hb))]
theorem IX {l:List Ar} {a:Ar} {n:Int} (h:a∈l) (hn:jP n a=true):onA l n≠none:=by
 induction l with
 | nil=>cases h
 | cons b r ih=>
  rw[bN]
  split
  ·simp
  ·rename_i hb
   rcases List.mem_cons.1 h with rfl|h
   ·exact absurd hn hb
   ·exact ih h
theorem BG {x y:Ar} (hy:aO y=0) (hb:∀p,nT p x=false→nT p y=false):∀ {l:List Ar} {p:Option Ar},okF p (l++[x])→okF p (l++[y])
 | [],p,h=>⟨hy,hb p h.2.1,trivial⟩
 | a::r,p,h=>⟨h.1,h.2.1,BG hy hb h.2.2⟩
theorem Bz {x y:Ar} (hy:aO y=0) (hb:nT (some x) y=false):∀ {l:List Ar} {p:Option Ar},okF p (l++[x])→okF p (l++[x]++[y])
 | [],p,h=>⟨h.1,h.2.1,hy,hb,trivial⟩
 | a::r,p,h=>⟨h.1,h.2.1,Bz hy hb h.2.2⟩
theorem uA {x:Ar}:∀ {l:List Ar} {p:Option Ar},okF p (l++[x])→aO x=0
 | [],p,h=>h.1
 | a::r,p,h=>uA h.2.2
theorem FH {k:Nat} (hk:k<64) {p:Pg} (hp:GI p):aO (dI k p)=0:=by
 obtain⟨h1,h2,h3,h4,h5⟩:=hp
 unfold aO dI
 simp only[]
 rw[if_neg (by omega),if_neg]
 rintro (⟨a,b⟩|⟨a,b⟩)
 ·have:=h4 a
  rcases b with b|b
  ·exact b this.1
  ·rw[this.2] at b;cases b
 ·have:=h5 a;omega
theorem FR {a:Ar} {m:Nat} {p:Pg} (h:kU p (gJ a m)=p):gJ a ((m:Int)+1)=p:=by
 unfold kU at h
 by_cases hf:0≤p.fi
 ·rw[if_pos hf] at h
  have hfi:a.fi=p.fi:=by rw[←h];rfl
  rw[←h]
  unfold gJ
  simp only[]
  rw[if_pos (by omega),if_pos (by omega)]
  congr 1;omega
 ·rw[if_neg hf] at h
  have hfi:a.fi=p.fi:=by rw[←h];rfl
  rw[←h]
  unfold gJ
  rw[if_neg (by omega),if_neg (by omega)]
structure Ny (f:Nat→Option Pg) (k:Nat):Prop where
 ok:okF none (ig f k)
 en:∀a∈ig f k,a.en≤(k:Int)
 on:∀i:Nat,i<k→onA (ig f k) i=f i
 last:∀m q,k=m+1→f m=some q→∃init a,ig f k=init++[a]∧a.en=(k:Int)∧a.fr≤(m:Int)∧gJ a m=q
theorem Ja {f:Nat→Option Pg} (hf:∀i p,i<64→f i=some p→GI p):∀k,k≤64→Ny f k
 | 0,_=>⟨trivial,fun a ha=>(by cases ha),fun i hi=>absurd hi (Nat.not_lt_zero _),fun m q h=>(by cases h)⟩
 | k+1,hk=>by
  have ih:=Ja hf k (by omega)
  have he:=ih.en
  cases hfk:f k with
  | none=>
   have hst:=FY hfk
   refine⟨by rw[hst];exact ih.ok,fun a ha=>by rw[hst] at ha;have:=he a ha;omega,fun i hi => ?_,fun m q hm hq => ?_⟩
   ·rw[hst]
    by_cases hik:i=k
    ·subst hik;rw[hfk];exact vB he
    ·exact ih.on i (by omega)
   ·obtain rfl:m=k:=by omega
    rw[hfk] at hq;cases hq
  | some p=>
   have hp:=hf k p (by omega) hfk
   cases hs:iN f k p
   ·have hst:=Hu hfk hs
    have hx:=FH (by omega:k<64) hp
    have hok:okF none (ig f (k+1)):=by
     rw[hst]
     rcases List.eq_nil_or_concat (ig f k) with h0|⟨init,a,h0⟩
     ·rw[h0];exact⟨hx,rfl,trivial⟩
     ·rw[List.concat_eq_append] at h0
      have hoka:=ih.ok
      have hon:=ih.on
      rw[h0] at hoka hon he ⊢
      have hae:=he a (List.mem_append_right _ List.mem_cons_self)
      refine Bz hx (si.2 ⟨hae,?_⟩) hoka
      cases hj:bS a (dI k p)
      ·rfl
      ·exfalso
       obtain⟨j1,j2,j3,j4,j5,j6⟩:=mR.1 hj
       have j1' : a.en=(k:Int):=j1
       have ha0:=uA hoka
       have hfr:=(bi ha0).1.2.1.1
       have hlt:=(bi ha0).2.1
       obtain⟨m,rfl⟩:∃m,k=m+1:=⟨k-1,by omega⟩
       have hin:jP (m:Int) a=true:=bW.2 ⟨by omega,by omega⟩
       cases hfm:f m with
       | none=>
        have h1:=hon m (by omega)
        rw[hfm] at h1
        exact IX (List.mem_append_right _ List.mem_cons_self) hin h1
       | some q=>
        obtain⟨init',a',e1,e2,e3,e4⟩:=ih.last m q rfl hfm
        rw[h0] at e1
        have haa:a=a':=by
         have:=congrArg List.getLast? e1
         rw[List.getLast?_concat,List.getLast?_concat] at this
         exact Option.some.inj this
        subst haa
        have hsn:iN f (m+1) p=(kU p q==p):=by simp only[iN,hfm]
        rw[hsn] at hs
        have:kU p q=p:=by
         rw[←e4]
         have k2:a.rd=p.rd:=j2
         have k3:a.wr=p.wr:=j3
         have k4:a.sh=p.sh:=j4
         have k5:a.fi=p.fi:=j5
         have k6:p.pg=gz a:=j6
         unfold gz at k6
         clear hx hfk hp hst hj hs e4 j2 j3 j4 j5 j6 hsn
         cases p with
         | mk prd pwr psh pfi ppg=>
          have k2:a.rd=prd:=k2
          have k3:a.wr=pwr:=k3
          have k4:a.sh=psh:=k4
          have k5:a.fi=pfi:=k5
          have k6:ppg=if 0≤a.fi then a.ba+a.en-a.fr else 0:=k6
          subst k2 k3 k4 k5 k6
          unfold kU gJ
          show (if 0≤a.fi then (⟨a.rd,a.wr,a.sh,a.fi,(if 0≤a.fi then a.ba+(m:Int)-a.fr else 0)+1⟩:Pg) else ⟨a.rd,a.wr,a.sh,a.fi,if 0≤a.fi then a.ba+(m:Int)-a.fr else 0⟩)=_
          by_cases hfi:0≤a.fi
          ·rw[if_pos hfi,if_pos hfi,if_pos hfi]
           congr 1
           omega
          ·rw[if_neg hfi,if_neg hfi,if_neg hfi]
        rw[this] at hs
        simp at hs
    refine⟨hok,fun a ha => ?_,fun i hi => ?_,fun m q hm hq => ?_⟩
    ·rw[hst] at ha
     rcases List.mem_append.1 ha with ha|ha
     ·have:=he a ha;omega
     ·rw[List.mem_singleton.1 ha];show (k:Int)+1≤_;omega
    ·rw[hst,zq]
     have hone:onA [dI k p] (i:Int)=if i=k then some p else none:=by
      rw[bN]
      by_cases hik:i=k
      ·subst hik
       rw[if_pos rfl,if_pos (show jP (i:Int) (dI i p)=true from bW.2 ⟨Int.le_refl _,by show (i:Int)<i+1;omega⟩)]
       unfold gJ dI
       simp only[]
       congr 1
       obtain⟨_,_,_,h4,_⟩:=hp
       cases p with
       | mk rd wr sh fi pg=>
        simp only[Pg.mk.injEq,true_and]
        simp only[] at h4
        split
        ·omega
        ·exact (h4 (by omega)).1.symm
      ·rw[if_neg hik,if_neg]
       ·rfl
       ·rw[bW]
        show ¬((k:Int)≤i∧(i:Int)<k+1)
        omega
     rw[hone]
     by_cases hik:i=k
     ·subst hik
      rw[if_pos rfl,vB he,hfk];rfl
     ·rw[if_neg hik,ih.on i (by omega),Option.or_none]
    ·obtain rfl:m=k:=by omega
     rw[hfk] at hq
     cases hq
     refine⟨ig f m,dI m p,hst,by show (m:Int)+1=_;omega,Int.le_refl _,?_⟩
     unfold gJ dI
     simp only[]
     obtain⟨_,_,_,h4,_⟩:=hp
     cases p with
     | mk rd wr sh fi pg=>
      simp only[Pg.mk.injEq,true_and]
      simp only[] at h4
      split
      ·omega
      ·exact (h4 (by omega)).1.symm
   ·have hst:=Lm hfk hs
    obtain⟨m,rfl⟩:∃m,k=m+1:=by
     cases k with
     | zero=>cases hs
     | succ m=>exact⟨m,rfl⟩
    have hsn:iN f (m+1) p=(match f m with | some q=>kU p q==p | none=>false):=rfl
    rw[hsn] at hs
    cases hfm:f m with
    | none=>rw[hfm] at hs;cases hs
    | some q=>
     rw[hfm] at hs
     have hnx:kU p q=p:=by simpa using hs
     obtain⟨init,a,e1,e2,e3,e4⟩:=ih.last m q rfl hfm
     have hok:=ih.ok
     have hon:=ih.on
     rw[e1] at hok hon he hst
     have ha0:=uA hok
     have ef:=bi ha0
     rw[←e4] at hnx
     have hpk:=FR hnx
     have hset:oJ (init++[a]) (((m+1:Nat):Int)+1)=init++[{ a with en:=((m+1:Nat):Int)+1 }]:=by
      unfold oJ
      rw[List.getLast?_concat]
      simp
     rw[hset] at hst
     have hy:aO { a with en:=((m+1:Nat):Int)+1 }=0:=by
      unfold uV at ef
      have e5:=ef.2.2.2.2.1
      unfold aO
      simp only[]
      rw[if_neg (by omega),if_neg]
      rintro (⟨b1,b2⟩|⟨b1,b2⟩)
      ·have:=e5 b1
       rcases b2 with b2|b2
       ·exact b2 this.1
       ·rw[this.2] at b2;cases b2
      ·have h5:=hp.2.2.2.2
       rw[←hpk] at h5
       have h6:=h5 b1
       unfold gJ at h6
       simp only[] at h6
       rw[if_pos b1] at h6
       omega
     have hinit:∀b∈init,b.en≤((m+1:Nat):Int):=fun b hb=>he b (List.mem_append_left _ hb)
     have hfi:∀n,gJ { a with en:=((m+1:Nat):Int)+1 } n=gJ a n:=fun n=>rfl
     refine⟨?_,fun b hb => ?_,fun i hi => ?_,fun m' q' hm' hq' => ?_⟩
     ·rw[hst]
      refine BG hy (fun z hz => ?_) hok
      cases z with
      | none=>rfl
      | some z=>exact hz
     ·rw[hst] at hb
      rcases List.mem_append.1 hb with hb|hb
      ·have:=hinit b hb;omega
      ·rw[List.mem_singleton.1 hb];show ((m+1:Nat):Int)+1≤_;omega
     ·rw[hst,zq]
      by_cases hik:i=m+1
      ·subst hik
       rw[vB hinit,bN,if_pos (bW.2 ⟨by show a.fr≤((m+1:Nat):Int);omega,by show ((m+1:Nat):Int)<((m+1:Nat):Int)+1;omega⟩),hfi,hfk]
       show some (gJ a ((m+1:Nat):Int))=some p
       rw[show ((m+1:Nat):Int)=(m:Int)+1 by omega,hpk]
      ·have h1:=hon i (by omega)
       rw[zq] at h1
       rw[←h1]
       congr 1
       rw[bN,bN,hfi]
       by_cases c:jP (i:Int) a=true
       ·rw[if_pos c,if_pos (by rw[bW] at c ⊢; show a.fr≤(i:Int)∧(i:Int)<((m+1:Nat):Int)+1;omega)]
       ·rw[if_neg c,if_neg (by rw[bW] at c ⊢; show ¬(a.fr≤(i:Int)∧(i:Int)<((m+1:Nat):Int)+1);omega)]
     ·obtain rfl:m' = m+1:=by omega
      rw[hfk] at hq'
      cases hq'
      refine⟨init,_,hst,by show ((m+1:Nat):Int)+1=_;omega,by show a.fr≤_;omega,?_⟩
      rw[hfi,show ((m+1:Nat):Int)=(m:Int)+1 by omega,hpk]
theorem FV {f:Nat→Option Pg} (hf:∀i p,i<64→f i=some p→GI p):okF none (ig f 64)∧∀n:Int,onA (ig f 64) n=if 0≤n∧n<64 then f n.toNat else none:=by
 have h:=Ja hf 64 (Nat.le_refl _)
 refine⟨h.ok,fun n => ?_⟩
 by_cases hn:0≤n∧n<64
 ·rw[if_pos hn]
  have:=h.on n.toNat (by omega)
  rwa [show ((n.toNat:Nat):Int)=n by omega] at this
 ·rw[if_neg hn]
  cases ho:onA (ig f 64) n with
  | none=>rfl
  | some p=>
   exfalso
   have hs:=iX h.ok
   by_cases h0:n<0
   ·rw[on_low hs h0] at ho;cases ho
   ·rw[vB (fun a ha=>by have:=h.en a ha;omega)] at ho;cases ho
theorem fold_on:∀ {l:List Ar} {lo:Int} (g:Nat→Option Pg),srtF lo l→∀i:Nat,(l.foldl (fun f A=>Az A A.en f) g) i=(onA l i).or (g i)
 | [],_,g,_,i=>by simp[onA]
 | a::r,lo,g,h,i=>by
  rw[List.foldl_cons,fold_on _ h.2.2,bN]
  by_cases c:jP (i:Int) a=true
  ·rw[if_pos c,on_low h.2.2 (bW.1 c).2]
   unfold Az
   rw[if_pos (bW.1 c)]
   rfl
  ·rw[if_neg c]
   unfold Az
   rw[if_neg (fun h=>c (bW.2 h))]
theorem kH {l:List Ar} {lo:Int} (h:srtF lo l) (i:Nat):bF l i=onA l i:=by
 unfold bF
 rw[fold_on _ h]
 simp[f0]
theorem DX {a:Ar} (ha:aO a=0) {n:Int} (hn:jP n a=true):GI (gJ a n):=by
 have e:=bi ha
 unfold uV at e
 rw[bW] at hn
 have e5:=e.2.2.2.2.1
 have e6:=e.2.2.2.2.2
 unfold GI gJ
 simp only[]
 refine⟨by omega,by omega,by split<;>omega,fun h=>⟨by rw[if_neg (by omega)],(e5 h).2⟩,fun h=>by rw[if_pos h];have:=e6 h;omega⟩
theorem Hw {l:List Ar} {lo:Int} (h:srtF lo l) {n:Int} {p:Pg} (hp:onA l n=some p):GI p:=by
 induction l generalizing lo with
 | nil=>cases hp
 | cons a r ih=>
  rw[bN] at hp
  split at hp
  ·rename_i hn;cases hp;exact DX h.1 hn
  ·exact ih h.2.2 hp
theorem DL {f:Nat→Option Pg} {m:List Ar} (hm:okF none m) (hf:∀i:Nat,i<64→f i=onA m i):ig f 64=m:=by
 have hs:=iX hm
 obtain⟨h1,h2⟩:=FV (f:=f) (fun i p hi hp=>Hw hs (by rw[←hf i hi];exact hp))
 refine on_uniq h1 hm fun n => ?_
 rw[h2]
 by_cases hn:0≤n∧n<64
 ·rw[if_pos hn,hf _ (by omega),show ((n.toNat:Nat):Int)=n by omega]
 ·rw[if_neg hn]
  symm
  cases ho:onA m n with
  | none=>rfl
  | some p=>
   exfalso
   have:∃a∈m,jP n a=true:=by
    have hh:=(ve m n).2 (by rw[ho];simp)
    have:=lC (jP n) m
    rw[show decide (0≤idx (jP n) m)=true from decide_eq_true hh] at this
    exact List.any_eq_true.1 this.symm
   obtain⟨a,ha,hin⟩:=this
   have:=Hq (srtF_ok hs a ha).1 hin
   omega
theorem Ch {l:List Ar} {lo:Int} (h:srtF lo l):∀i p,bF l i=some p→0≤p.pg∧p.pg≤100:=by
 intro i p hp
 rw[kH h] at hp
 obtain⟨_,_,h3,h4,h5⟩:=Hw h hp
 refine⟨h3,?_⟩
 by_cases hf:p.fi<0
 ·rw[(h4 hf).1];decide
 ·have:=h5 (by omega);omega
def mO (x:Ar) (n:Nat) (f:Nat→Option Pg):Nat→Option Pg:=fun i=>if jP (i:Int) x=true∧i<n then some (gJ x i) else f i
theorem CS (x:Ar) (f:Nat→Option Pg):mO x 0 f=f:=by funext i;unfold mO;rw[if_neg (by omega)]
theorem KO (x:Ar) (n:Nat) (f:Nat→Option Pg):mO x n f n=f n:=by unfold mO;rw[if_neg (by omega)]
theorem Fe {x:Ar} {n:Nat} (h:¬jP (n:Int) x=true) (f:Nat→Option Pg):mO x (n+1) f=mO x n f:=by
 funext i
 unfold mO
 by_cases c:i=n
 ·subst c;rw[if_neg (fun q=>h q.1),if_neg (fun q=>h q.1)]
 ·by_cases d:jP (i:Int) x=true∧i<n
  ·rw[if_pos d,if_pos ⟨d.1,by omega⟩]
  ·rw[if_neg d,if_neg (fun q=>d ⟨q.1,by omega⟩)]
theorem JR {x:Ar} {n:Nat} (h:jP (n:Int) x=true) (f:Nat→Option Pg):(fun i=>if i=n then some (gJ x n) else mO x n f i)=mO x (n+1) f:=by
 funext i
 unfold mO
 by_cases c:i=n
 ·subst c;rw[if_pos rfl,if_pos ⟨h,by omega⟩]
 ·rw[if_neg c]
  by_cases d:jP (i:Int) x=true∧i<n
  ·rw[if_pos d,if_pos ⟨d.1,by omega⟩]
  ·rw[if_neg d,if_neg (fun q=>d ⟨q.1,by omega⟩)]
theorem Hy (x:Ar) (i:Nat):bF [x] i=if jP (i:Int) x=true then some (gJ x i) else none:=by
 unfold bF
 simp only[List.foldl_cons,List.foldl_nil]
 unfold Az f0
 by_cases c:jP (i:Int) x=true
 ·rw[if_pos c,if_pos (bW.1 c)]
 ·rw[if_neg c,if_neg (fun h=>c (bW.2 h))]
theorem JU {l:List Ar} {x:Ar} {i:Int} (hx:jP i x=true) (hl:onA l i≠none):l.any (kZ x)=true:=by
 have hh:=(ve l i).2 hl
 have:=lC (jP i) l
 rw[show decide (0≤idx (jP i) l)=true from decide_eq_true hh] at this
 obtain⟨a,ha,hin⟩:=List.any_eq_true.1 this.symm
 refine List.any_eq_true.2 ⟨a,ha,?_⟩
 rw[bW] at hx hin
 unfold kZ
 rw[decide_eq_true (by omega),decide_eq_true (by omega)];rfl
theorem KN {l:List Ar} {x:Ar} (hok:okF none l) (hx:aO x=0) (h:∀i:Nat,i<64→¬(jP (i:Int) x=true∧onA l i≠none)):l.any (kZ x)=false:=by
 rw[List.any_eq_false]
 intro a ha hm
 have ha0:=(srtF_ok (iX hok) a ha).1
 have e1:=bi ha0
 have e2:=bi hx
 unfold uV at e1 e2
 unfold kZ at hm
 rw[Bool.and_eq_true,decide_eq_true_eq,decide_eq_true_eq] at hm
 refine h (max a.fr x.fr).toNat (by omega) ⟨bW.2 (by omega),IX ha (bW.2 (by omega))⟩
theorem vT {e:En} (h:dC e=0):jw e=zS e:=by
 unfold dC at h
 unfold jw zS
 split at h
 ·cases h
 ·rename_i h1
  rw[Bool.eq_iff_iff]
  simp
  omega
theorem sD {h:List En} (h0:iI h=0):∀e∈h,dC e=0:=by
 intro e he
 obtain⟨i,hi,rfl⟩:=List.mem_iff_getElem.1 he
 have hl:=jT h0
 by_cases hne:∀j (hj:j<h.length),dC h[j]=0
 ·exact hne i hi
 ·exfalso
  have hf:firstE (h.map dC)≠0:=by
   intro hf
   apply hne
   intro j hj
   have key:∀(l:List Int),firstE l=0→∀x∈l,x=0:=by
    intro l
    induction l with
    | nil=>intro _ x hx;cases hx
    | cons y r ih=>
     intro h x hx
     by_cases e:y=0
     ·simp only[firstE,e,if_true] at h
      rcases List.mem_cons.1 hx with rfl|hx
      ·exact e
      ·exact ih h x hx
     ·simp only[firstE,e,if_false] at h
   exact key _ hf _ (List.mem_map.2 ⟨h[j],List.getElem_mem hj,rfl⟩)
  unfold iI at h0
  rw[if_neg (by omega),if_pos hf] at h0
  exact hf h0
theorem zi {t:Tb} {i:Nat} (hi:i<8) (h:iI t[i]=0):iw (bG t) i=if t[i].length=0 then List.replicate 8 zEn else t[i]:=by
 have hl:=jT h
 apply List.ext_getElem?
 intro r
 unfold iw bG
 rw[List.getElem?_take]
 by_cases hr:r<8
 ·rw[if_pos hr,List.getElem?_drop,List.getElem?_map,List.getElem?_range (by omega)]
  simp only[Option.map_some]
  rcases hl with hl|hl
  ·rw[if_pos hl,List.getElem?_replicate,if_pos hr,uk hi hr hl]
  ·rw[if_neg (by omega),List.getElem?_eq_getElem (by omega),yB hi hr hl (List.getElem?_eq_getElem (by omega))]
 ·rw[if_neg hr,List.getElem?_eq_none]
  split
  ·simp;omega
  ·omega
theorem Ab {h:List En} (h0:∀e∈h,dC e=0):h.any zS=h.any jw:=by
 rw[Bool.eq_iff_iff]
 simp only[List.any_eq_true]
 constructor
 ·rintro⟨e,he,h1⟩;exact⟨e,he,by rw[vT (h0 e he)];exact h1⟩
 ·rintro⟨e,he,h1⟩;exact⟨e,he,by rw[←vT (h0 e he)];exact h1⟩
theorem JQ {h:List En} (h0:iI h=0) (hl:h.length≠0):h.any jw=true:=by
 have h1:=pF (jT h0) (fun i hi=>sD h0 _ (List.getElem_mem hi))
 rw[h0] at h1
 by_cases hh:h.any (fun e=>decide (e.k≠0))=false
 ·rw[if_pos ⟨by omega,hh⟩] at h1;cases h1
 ·simpa[jw] using hh
theorem uT {t:Tb} {i:Nat} (hi:i<8) (h:iI t[i]=0):iM (bG t) i=t[i]:=by
 unfold iM
 rw[zi hi h]
 by_cases hl:t[i].length=0
 ·rw[if_pos hl]
  have:t[i]=[]:=List.eq_nil_of_length_eq_zero hl
  rw[this]
  decide
 ·rw[if_neg hl,Ab (sD h),JQ h hl]
  rfl
theorem wX {t:Tb} {n:Int} {e:En} (h:setE t n e=0):setT t n e=dO ((bG t).set n.toNat e):=by
 have h0:bI t=0:=by
  unfold setE at h
  by_cases hw:bI t=0
  ·exact hw
  ·rw[if_pos hw] at h;exact h
 have hn:0≤n∧n<64:=by
  unfold setE at h
  rw[if_neg (by rw[h0];simp)] at h
  by_cases hn:n<0∨64≤n
  ·rw[if_pos hn] at h;cases h
  ·omega
 have he:dC e=0:=by
  unfold setE at h
  rwa [if_neg (by rw[h0];simp),if_neg (by omega)] at h
 obtain⟨q,r,hq,hr,hnn,_,_⟩:=pu hn
 have hN:n.toNat=8*q+r:=by omega
 rw[EH h hq hr hnn,hN]
 apply Vector.ext
 intro i hi
 simp only[dO,Vector.getElem_ofFn]
 have hh:=iD h0 i hi
 by_cases ei:i=q
 ·subst ei
  rw[Vector.getElem_set_self]
  have hp:iw ((bG t).set (8*i+r) e) i=(iw (bG t) i).set r e:=by
   apply List.ext_getElem?
   intro k
   have hlen:(bG t).length=64:=by simp[bG]
   by_cases hk:k<8
   ·unfold iw
    rw[List.getElem?_take,if_pos hk,List.getElem?_drop]
    by_cases ek:k=r
    ·subst ek
     rw[List.getElem?_set_self (by omega),List.getElem?_set_self (by simp;omega)]
    ·rw[List.getElem?_set_ne (by omega),List.getElem?_set_ne (fun h=>ek h.symm),List.getElem?_take,if_pos hk,List.getElem?_drop]
   ·rw[List.getElem?_eq_none (by simp[iw];omega),List.getElem?_eq_none (by simp[iw];omega)]
  unfold iM
  rw[hp,zi hi hh]
  unfold setH Md
  rw[Ab]
  intro x hx
  rcases List.mem_or_eq_of_mem_set hx with hx|rfl
  ·split at hx
   ·rw[(List.mem_replicate.1 hx).2];rfl
   ·exact sD hh x hx
  ·exact he
 ·rw[Vector.getElem_set_ne hq hi (fun h=>ei h.symm)]
  have hp:iw ((bG t).set (8*q+r) e) i=iw (bG t) i:=by
   apply List.ext_getElem?
   intro k
   unfold iw
   rw[List.getElem?_take,List.getElem?_take]
   by_cases hk:k<8
   ·rw[if_pos hk,if_pos hk,List.getElem?_drop,List.getElem?_drop,List.getElem?_set_ne (by omega)]
   ·rw[if_neg hk,if_neg hk]
  have:iM ((bG t).set (8*q+r) e) i=iM (bG t) i:=by unfold iM;rw[hp]
  rw[this,uT hi hh]
theorem Gz {l m:List Int} (hlm:l.length=m.length) (h:∀i (hi:i<l.length),l[i]=m[i]'(by omega)):(l==m)=true:=by
 rw[beq_iff_eq]
 exact List.ext_getElem hlm fun i h1 h2=>h i h1
theorem Fq {l m:List Int} (k:Nat) (h1:k<l.length) (h2:k<m.length) (h:l[k]≠m[k]):(l==m)=false:=by
 rw[beq_eq_false_iff_ne]
 rintro rfl
 exact h rfl
theorem sF (t:Tb) (k:Nat) (h:k<64):(bG t)[k]?=some (cB t (k:Int)):=by
 unfold bG;simp[h]
theorem jh (t:Tb):(bG t).length=64:=by simp[bG]
theorem CF (t:Tb):yj t t=true:=yP fun _ _=>rfl
theorem kI {t:Tb} (h:bI t=0) (n:Int):dC (cB t n)=0:=by
 by_cases hn:0≤n∧n<64
 ·obtain⟨q,r,hq,hr,rfl,_,_⟩:=pu hn
  rw[rJ hq hr]
  split
  ·rename_i hl
   rw[List.getD_eq_getElem?_getD,List.getElem?_eq_getElem (by omega)]
   exact sD (iD h q hq) _ (List.getElem_mem _)
  ·rfl
 ·rw[lS (by omega)];rfl
theorem HZ {e:En} (h:dC e=0) (h2:zS e=false):e=zEn:=by
 have h3:=vT h
 rw[h2] at h3
 have hk:e.k=0:=by simpa[jw] using h3
 unfold dC at h
 obtain⟨k,n,w⟩:=e
 simp only at hk
 subst hk
 simp at h
 by_cases h4:n<0∨60≤n
 ·rw[if_pos h4] at h;cases h
 ·rw[if_neg h4] at h
  by_cases h5:¬n=0∨w=true
  ·rw[if_pos h5] at h;cases h
  ·simp only[not_or,Classical.not_not,Bool.not_eq_true] at h5
   obtain⟨rfl,rfl⟩:=h5
   rfl
theorem xJ {l:List En} {i:Nat} {x:En} (h:x∈iw l i):x∈l:=List.mem_of_mem_drop (List.mem_of_mem_take h)
theorem zu {l:List En} (h:∀x∈l,dC x=0) (hl:l.length=64) {i:Nat} (hi:i<8):iI (iM l i)=0:=by
 unfold iM
 by_cases hp:(iw l i).any zS=true
 ·rw[if_pos hp]
  have hlen:(iw l i).length=8:=wB hl hi (by omega)
  rw[pF (.inr hlen) (fun j hj=>h _ (xJ (List.getElem_mem hj))),if_neg]
  rintro⟨_,h2⟩
  have h3:=Ab (h:=iw l i) (fun x hx=>h x (xJ hx))
  rw[hp] at h3
  have h4:(iw l i).any jw=false:=h2
  rw[h4] at h3
  cases h3
 ·rw[if_neg hp];rfl
theorem uI {l:List En} (h:∀x∈l,dC x=0) (hl:l.length=64):bI (dO l)=0:=
 oq fun i hi=>by simp only[dO,Vector.getElem_ofFn];exact zu h hl hi
theorem qX {l:List En} (h:∀x∈l,dC x=0) (hl:l.length=64) {n:Nat} (hn:n<64):cB (dO l) (n:Int)=l[n]'(by omega):=by
 obtain⟨q,r,hq,hr,hnn,_,_⟩:=pu (n:=(n:Int)) (by omega)
 have hn' : n=8*q+r:=by omega
 subst hn'
 rw[rJ hq hr]
 simp only[dO,Vector.getElem_ofFn]
 unfold iM
 have hlen:(iw l q).length=8:=wB hl hq (by omega)
 have hget:(iw l q)[r]'(by omega)=l[8*q+r]'(by omega):=by simp[iw]
 by_cases hp:(iw l q).any zS=true
 ·simp only[if_pos hp,if_pos hlen]
  rw[List.getD_eq_getElem?_getD,List.getElem?_eq_getElem (by omega),←hget]
  rfl
 ·simp only[if_neg hp]
  rw[if_neg (by decide),←hget]
  symm
  refine HZ (h _ (xJ (List.getElem_mem _))) ?_
  simp only[List.any_eq_true,not_exists,not_and,Bool.not_eq_true] at hp
  exact hp _ (List.getElem_mem _)
theorem qZ {t:Tb} (h:bI t=0):dO (bG t)=t:=by
 apply Vector.ext
 intro i hi
 simp only[dO,Vector.getElem_ofFn]
 exact uT hi (iD h i hi)
theorem wW {l:List En} (h:∀x∈l,dC x=0) (hl:l.length=64):bG (dO l)=l:=by
 apply List.ext_getElem
 ·rw[jh,hl]
 ·intro i h1 h2
  have:=sF (dO l) i (by omega)
  rw[qX h hl (by omega),List.getElem?_eq_getElem h1] at this
  exact Option.some.inj this
theorem IG {t:Tb} (h:bI t=0):∀x∈bG t,dC x=0:=by
 intro x hx
 obtain⟨i,hi,rfl⟩:=List.mem_map.1 hx
 exact kI h _
theorem nS {t:Tb} {n:Int} {e:En} (h:setE t n e=0):bI t=0∧(0≤n∧n<64)∧dC e=0:=by
 unfold setE at h
 by_cases hw:bI t=0
 ·rw[if_neg (by rw[hw];simp)] at h
  by_cases hn:n<0∨64≤n
  ·rw[if_pos hn] at h;cases h
  ·rw[if_neg hn] at h
   exact⟨hw,by omega,h⟩
 ·rw[if_pos hw] at h;exact absurd h hw
theorem Ec {t:Tb} {n:Int} {e:En} (h1:bI t=0) (h2:0≤n∧n<64) (h3:dC e=0):setE t n e=0:=by
 unfold setE;rw[if_neg (by rw[h1];simp),if_neg (by omega),h3]
theorem zQ {t:Tb} {n:Nat} {e:En} (h1:bI t=0) (h3:dC e=0):∀x∈(bG t).set n e,dC x=0:=by
 intro x hx
 rcases List.mem_or_eq_of_mem_set hx with hx|rfl
 ·exact IG h1 x hx
 ·exact h3
theorem qP {t:Tb} {n:Int} {e:En} (h:setE t n e=0):bI (setT t n e)=0:=by
 obtain⟨h1,h2,h3⟩:=nS h
 rw[wX h]
 exact uI (zQ h1 h3) (by rw[List.length_set,jh])
theorem Jb {t:Tb} {n:Int} {e:En} (h:setE t n e=0) (k:Int):cB (setT t n e) k=if k=n then e else cB t k:=by
 obtain⟨h1,h2,h3⟩:=nS h
 rw[wX h]
 by_cases hk:0≤k∧k<64
 ·obtain⟨j,rfl⟩:=Int.eq_ofNat_of_zero_le hk.1
  rw[qX (zQ h1 h3) (by rw[List.length_set,jh]) (by omega)]
  rw[List.getElem_set]
  by_cases e0:(j:Int)=n
  ·rw[if_pos (by omega),if_pos e0]
  ·rw[if_neg (by omega),if_neg e0]
   have:=sF t j (by omega)
   rw[List.getElem?_eq_getElem (by rw[jh];omega)] at this
   exact Option.some.inj this
 ·rw[if_neg (by omega),lS (by omega),lS (by omega)]
theorem Bi (t:Tb):∀n∈aI t,0≤n∧n<64:=by
 intro n hn
 unfold aI fQ at hn
 obtain⟨m,hm,rfl⟩:=List.mem_map.1 hn
 have:=List.mem_range.1 (List.mem_filter.1 hm).1
 omega
theorem oz {t:Tb} (h:bI t=0):ul t:=fun k hk=>by
 have:=jT (iD h k hk)
 omega
theorem zTb_right:bI zTb=0:=by decide
theorem Kh {m:Mem} {k:Nat} {f:Fr} (hw:di m=0) (hf:dD f=0):di ⟨m.fs.set k f,m.hand⟩=0:=by
 obtain⟨h1,h2,h3,h4⟩:=(eB m).1 hw
 rw[eB]
 simp only[List.length_set]
 refine⟨h1,fun g hg => ?_,h3,h4⟩
 rcases List.mem_or_eq_of_mem_set hg with h|rfl
 ·exact h2 g h
 ·exact hf
theorem vO {l:List Int} (h:dn l=0):∀x∈l,lu x=false:=by
 unfold dn at h
 split at h
 ·omega
 split at h
 ·omega
 ·rename_i h1
  intro x hx
  have:=List.any_eq_false.1 (by simpa using h1) x hx
  simpa using this
theorem yn {l:List Int} (hl:l.length≤60) (h:∀x∈l,lu x=false):dn l=0:=by
 unfold dn
 rw[if_neg (by omega),if_neg]
 simp only[List.any_eq_true,not_exists,not_and]
 intro x hx
 simp[h x hx]
theorem Cs {l:List Int} (k:Nat) (x:Int) (h:dn l=0) (h0:0≤x) (h1:x≤1000):dn (l.set k x)=0:=by
 refine yn (by rw[List.length_set];exact iC h) fun y hy => ?_
 rcases List.mem_or_eq_of_mem_set hy with hm|rfl
 ·exact vO h _ hm
 ·simp[lu];omega
theorem Lf {s:St} {x:Int} (h:ko s x=false):¬x∈jY s:=by
 unfold ko at h
 simpa using h
structure Cc where
 f:Int
 i:Int
 k:Int
 deriving DecidableEq
def sZ (c:Cc):Array Value:=#[.int .i64 c.f,.int .i64 c.i,.int .i64 c.k]
def kS (c:Cc):List Value:=(sZ c).toList
theorem kr (c:Cc):(kS c).length=3:=rfl
structure Sp where
 lv:Bool
 ar:List Ar
 tb:Tb
 deriving DecidableEq
structure Ma where
 m:Mem
 sl:List Int
 sw:pR
 dk:pR
 st:St
 ca:List Cc
 sp:List Sp
def zCc:Cc:=⟨0,0,0⟩
def zSp:Sp:=⟨false,[],zTb⟩
def zMa:Ma:=⟨noM,[],⟨[],[]⟩,⟨[],[]⟩,zSt,[],[]⟩
def cnt (l:List Int) (k:Int):Nat:=l.countP fun x=>decide (x=k)
def trimB (m:Ma):Bool:=
 (List.range m.dk.blocks.length).all (fun b:Nat=>decide ((b:Int)∈jY m.st)||decide (m.dk.blocks.getD b zPg=zPg))&&m.dk.queue.all fun q=>decide (q.1∈jY m.st)
def gu (s:Sp):Int:=if (aZ s.ar).1≠0 then (aZ s.ar).1 else if bI s.tb≠0 then bI s.tb else if s.lv=false∧0<s.ar.length+(aI s.tb).length then 7 else 0
def eH (m:Ma):Int:=
 if di m.m≠0 then di m.m else if dn m.sl≠0 then dn m.sl else if bK m.sw≠0 then bK m.sw else if bK m.dk≠0 then bK m.dk else if aR m.st≠0 then aR m.st
 else if m.sw.blocks.length≠m.sl.length∨(m.dk.blocks.length:Int)≠m.st.count∨trimB m=false then 7
 else if 4<m.sp.length then 4 else firstE (m.sp.map gu)
def jQ (m:Ma) (k:Int):Fr:=m.m.fs.getD k.toNat fr0
def mJ (m:Ma) (p:Option Cc) (c:Cc):Int:=
 if c.f<0∨(m.st.fs.length:Int)≤c.f∨c.i<0∨((aV m.st c.f).b.length:Int)≤c.i∨c.k<0∨(m.m.fs.length:Int)≤c.k then 3
 else if (jQ m c.k).r<1∨(jQ m c.k).f≠c.f∨(jQ m c.k).i≠c.i then 7
 else match p with
  | none=>0
  | some q=>if c.f<q.f∨q.f=c.f∧c.i≤q.i then 2 else 0
def qx (l:List Cc) (k:Nat):Option Cc:=if k=0 then none else l[k-1]?
def cachedE (m:Ma):Int:=firstE ((List.range m.ca.length).map fun k=>mJ m (qx m.ca k) (m.ca.getD k zCc))
def bu (m:Ma) (s:Sp) (n:Int):Int:=
 if fw s.ar n<0 then 5 else
 let a:=s.ar.getD (fw s.ar n).toNat zAr
 let e:=cB s.tb n
 if e.k=2 then (if (m.sl.length:Int)≤e.n∨a.sh=true then 7 else 0)
 else if (m.m.fs.length:Int)≤e.n then 3 else
 let f:=jQ m e.n
 let of:=decide (0≤a.fi)&&decide (f.f=a.fi)&&decide (f.i=a.ba+n-a.fr)
 if 0≤f.f∧of=false∨a.sh=true∧of=false∨a.sh=false∧of=true∧e.w=true∨e.w=true∧a.wr=false then 7
 else if f.f<0∧e.w=true∧1<f.r then 7 else 0
def iT (m:Ma):Int:=firstE (m.sp.flatMap fun s=>(aI s.tb).map (bu m s))
def jI (t:Tb) (l:List Int):List Int:=(l.filter fun n=>decide ((cB t n).k=1)).map fun n=>(cB t n).n
def swapT (t:Tb) (l:List Int):List Int:=(l.filter fun n => !decide ((cB t n).k=1)).map fun n=>(cB t n).n
def lT (m:Ma):List Int:=m.ca.map Cc.k++m.sp.flatMap fun s=>jI s.tb (aI s.tb)
def kR (m:Ma):List Int:=m.sp.flatMap fun s=>swapT s.tb (aI s.tb)
def gN (n:Nat) (l:List Int):List Int:=(List.range n).map fun i:Nat=>(cnt l i:Int)
def countB (m:Ma):Bool:=
 (List.range m.m.fs.length).all (fun i:Nat=>decide ((jQ m i).r=cnt (lT m) i)&&(decide ((jQ m i).f<0)||m.ca.any fun c=>decide (c.k=i)))&&decide (m.sl=gN m.sl.length (kR m))
def gD (m:Ma):Int:=if eH m≠0 then eH m else if cachedE m≠0 then cachedE m else if iT m≠0 then iT m else if countB m=true then 0 else 7
def aY (m:Ma) (f i:Int):Page:=
 match m.ca.find? fun c=>decide (c.f=f)&&decide (c.i=i) with
 | some c=>(jQ m c.k).p
 | none=>if 0≤pW m.st f i then dS (iJ m.dk (pW m.st f i)) ((aV m.st f).n-i*8) else zPg
def tC (s:St) (f i:Int):Bool:=decide (dA (aV s f).n≤i)
structure Kp where
 m:Ma
 e:Int
def mI (k e:Int):Int:=if k=0 then e else k
def bP (m:Ma) (p:Nat):Sp:=m.sp.getD p zSp
def setTb (m:Ma) (p:Nat) (t:Tb):Ma:={ m with sp:=m.sp.set p { bP m p with tb:=t } }
def fB (k:Kp) (p:Nat) (n:Int) (x:En):Kp:=
 if setE (bP k.m p).tb n x=0 then ⟨setTb k.m p (setT (bP k.m p).tb n x),k.e⟩ else ⟨k.m,mI k.e (setE (bP k.m p).tb n x)⟩
def eZ (k:Kp) (f n:Int):Kp:=
 if jk k.m.m f n=0 then ⟨{ k.m with m:=jq k.m.m f n },k.e⟩ else ⟨k.m,mI k.e (jk k.m.m f n)⟩
def nH (k:Kp) (s n:Int):Kp:=
 if bM k.m.sl s n=0 then ⟨{ k.m with sl:=bA k.m.sl s n },k.e⟩ else ⟨k.m,mI k.e (bM k.m.sl s n)⟩
def jR (k:Kp) (p:Nat) (n:Int):Kp:=
 let x:=cB (bP k.m p).tb n
 if x.k=1 then fB (eZ k x.n (-1)) p n zEn else if x.k=2 then fB (nH k x.n (-1)) p n zEn else k
def Ha (f i:Int) (c:Cc):Bool:=decide (f<c.f)||(decide (c.f=f)&&decide (i≤c.i))
def Cq (l:List Cc) (f i:Int):Nat:=(l.findIdx? (Ha f i)).getD l.length
def setFr (m:Ma) (f:Nat) (x:Fr):Ma:={ m with m:={ m.m with fs:=m.m.fs.set f x } }
def bB (m:Ma) (f:Nat):Fr:=m.m.fs.getD f fr0
def jE (m:Ma) (f i:Int):Page:=if 0≤pW m.st f i then dS (iJ m.dk (pW m.st f i)) ((aV m.st f).n-i*8) else zPg
end Go.Proofs.YtjkkoeijlhfneaaGreat
namespace Pw
open Go Go.RowKit
theorem aS {k:IntKind} {a b:Int} (h:a=b):Ending.returned (.int k a) = .returned (.int k b):=by rw[h]
theorem aT {a b:Bool} (h:a=b):Ending.returned (.bool a) = .returned (.bool b):=by rw[h]
theorem ae {w W w1:World} (h:Below w.heap.size w W) (hb:Below W.heap.size W w1):Below w.heap.size w w1:=
 h.trans (hb.mono h.size)
theorem dR (w:World) (o:Obj):w.heap.size≤(w.alloc o).heap.size:=((Below.refl 0 w).alloc (Nat.zero_le _) o).size
theorem dz {w:World} {B:Nat} (h:B≤w.heap.size) (o:Obj):B≤(w.alloc o).heap.size:=Nat.le_trans h (dR w o)
def aF (w:World) (b:Nat) (cs:Array Value) (T:TypeId):Prop:=w.heap[b]?=some (.cells cs T (0,0))
theorem aF.cell {w:World} {b:Nat} {cs:Array Value} {T:TypeId} (h:aF w b cs T):∀o,w.cell? ⟨b,o,none⟩=cs[o]?:=by
 intro o;unfold aF at h;simp[World.cell?,h]
theorem aF.free {w:World} {b:Nat} {cs:Array Value} {T:TypeId} (h:aF w b cs T):∀o,w.frozen? ⟨b,o,none⟩=false:=by
 intro o;unfold aF at h;simp[World.frozen?,h]
theorem aF.lt {w:World} {b:Nat} {cs:Array Value} {T:TypeId} (h:aF w b cs T):b<w.heap.size:=lt_of_block h
theorem aF.below {w w' : World} {b B:Nat} {cs:Array Value} {T:TypeId} (h:aF w b cs T) (hb:Below B w w') (hB:b<B):aF w' b cs T:=
 (hb.block b hB).trans h
theorem aF.ext {w w' : World} {b:Nat} {cs:Array Value} {T:TypeId} (h:aF w b cs T) (hb:Below w.heap.size w w'):aF w' b cs T:=h.below hb h.lt
theorem aF.new (w:World) (cs:Array Value) (T:TypeId):aF (w.alloc (.cells cs T)) w.heap.size cs T:=heap_alloc_new w _
theorem aF.alloc {w:World} {b:Nat} {cs:Array Value} {T:TypeId} (h:aF w b cs T) (o:Obj):aF (w.alloc o) b cs T:=(Below.heap_alloc w o b h.lt).trans h
theorem aF.drewN {w:World} {b:Nat} {cs:Array Value} {T:TypeId} (h:aF w b cs T) (n:Nat):aF (w.drewN n) b cs T:=h
def cZ (w:World) (a:Option Addr) (vs:List Value):Prop:=
 ∀i u,vs[i]?=some u→∃b off,a=some ⟨b,off,none⟩∧w.cell? ⟨b,off+i,none⟩=some u
theorem cZ.below {w w' : World} {a:Option Addr} {vs:List Value} (h:cZ w a vs) (hb:Below w.heap.size w w'):cZ w' a vs:=by
 intro i u hi
 obtain⟨b,off,ha,hc⟩:=h i u hi
 exact⟨b,off,ha,cell_later hb hc⟩
theorem cZ.nil {w:World} {a:Option Addr}:cZ w a []:=fun i u h=>by simp at h
theorem cZ.at {w:World} {a:Option Addr} {vs:List Value} (h:cZ w a vs) (hn:0<vs.length):∃b off,a=some ⟨b,off,none⟩∧∀i u,vs[i]?=some u→w.cell? ⟨b,off+i,none⟩=some u:=by
 obtain⟨b,off,rfl,hc⟩:=h 0 _ (List.getElem?_eq_getElem hn)
 refine⟨b,off,rfl,fun i u hi => ?_⟩
 obtain⟨b',off',e,hc'⟩:=h i u hi
 simp only[Option.some.injEq,Addr.mk.injEq,and_true] at e
 obtain⟨rfl,rfl⟩:=e
 exact hc'
theorem flat_get {α:Type} (enc:α→List Value) (sz:Nat) (hsz:∀x,(enc x).length=sz):∀(l:List α) (i:Nat) (h:i<l.length) (j:Nat) (u:Value),(enc l[i])[j]?=some u→(l.flatMap enc)[i*sz+j]?=some u
 | [],i,h,_,_,_=>absurd h (Nat.not_lt_zero _)
 | x::l,0,_,j,u,hj=>by
  simp only[List.flatMap_cons,Nat.zero_mul,Nat.zero_add]
  simp only[List.getElem_cons_zero] at hj
  have hl:j<(enc x).length:=by
   rcases Nat.lt_or_ge j (enc x).length with h|h
   ·exact h
   ·simp[List.getElem?_eq_none h] at hj
  rw[List.getElem?_append_left hl];exact hj
 | x::l,i+1,h,j,u,hj=>by
  simp only[List.flatMap_cons]
  have e:(i+1)*sz+j=(enc x).length+(i*sz+j):=by rw[hsz x,Nat.add_mul];omega
  rw[e,List.getElem?_append_right (by omega),Nat.add_sub_cancel_left]
  exact flat_get enc sz hsz l i (by simpa using h) j u (by simpa using hj)
theorem flat_len {α:Type} (enc:α→List Value) (sz:Nat) (hsz:∀x,(enc x).length=sz) (l:List α):(l.flatMap enc).length=l.length*sz:=by
 induction l with
 | nil=>simp
 | cons x l ih=>simp[List.flatMap_cons,ih,hsz x,Nat.add_mul,Nat.add_comm]
theorem cZ.elem {α:Type} {enc:α→List Value} {sz:Nat} (hsz:∀x,(enc x).length=sz) (hp:0<sz) {w:World} {a:Option Addr} {l:List α} (h:cZ w a (l.flatMap enc)) (i:Nat) (hi:i<l.length) :
  ∃b off,a=some ⟨b,off,none⟩∧∀j u,(enc l[i])[j]?=some u→w.cell? ⟨b,off+i*sz+j,none⟩=some u:=by
 obtain⟨b,off,ha,hc⟩:=h.at (by rw[flat_len enc sz hsz];exact Nat.mul_pos (by omega) hp)
 exact⟨b,off,ha,fun j u hj=>by rw[Nat.add_assoc];exact hc _ _ (flat_get enc sz hsz l i hi j u hj)⟩
def bC (cur:Array Value):Nat→List Value→Array Value
 | _,[]=>cur
 | o,v::r=>bC (cur.setIfInBounds o v) (o+1) r
theorem size_putAt:∀(vs:List Value) (cur:Array Value) (o:Nat),(bC cur o vs).size=cur.size
 | [],_,_=>rfl
 | v::r,cur,o=>by simp[bC,size_putAt r]
theorem putAt_out:∀(vs:List Value) (cur:Array Value) (o k:Nat),(k<o∨o+vs.length≤k)→(bC cur o vs)[k]?=cur[k]?
 | [],_,_,_,_=>rfl
 | v::r,cur,o,k,h=>by
  simp only[List.length_cons] at h
  simp only[bC]
  rw[putAt_out r _ _ _ (by omega),Array.getElem?_setIfInBounds_ne (by omega)]
theorem putAt_in:∀(vs:List Value) (cur:Array Value) (o j:Nat) (u:Value),o+vs.length≤cur.size→vs[j]?=some u→(bC cur o vs)[o+j]?=some u
 | [],_,_,_,_,_,h=>by simp at h
 | v::r,cur,o,0,u,hs,h=>by
  simp only[List.length_cons] at hs
  simp only[bC]
  rw[putAt_out r _ _ _ (by omega)]
  simp at h;subst h
  simp[show o<cur.size by omega]
 | v::r,cur,o,j+1,u,hs,h=>by
  simp only[List.length_cons] at hs
  simp only[bC]
  rw[show o+(j+1)=o+1+j by omega]
  exact putAt_in r _ _ _ u (by simp;omega) (by simpa using h)
theorem aF.setCell {w:World} {b:Nat} {cs:Array Value} {T:TypeId} (h:aF w b cs T) (o:Nat) (v:Value):aF (w.setCell ⟨b,o,none⟩ v) b (cs.setIfInBounds o v) T:=
 heap_setCell_same w b o cs T v h
theorem aF.setCell_other {w:World} {b:Nat} {cs:Array Value} {T:TypeId} (h:aF w b cs T) (a:Addr) (v:Value) (hne:b≠a.block):aF (w.setCell a v) b cs T:=
 (heap_setCell_other w a b v hne).trans h
theorem aF.setCells {T:TypeId} {b:Nat}:∀(vs:List Value) (o:Nat) {w:World} {cs:Array Value},aF w b cs T→aF (w.setCells b o vs) b (bC cs o vs) T
 | [],_,_,_,h=>h
 | v::r,o,_,_,h=>aF.setCells r (o+1) (h.setCell o v)
theorem heap_setCells_other (b:Nat):∀(vs:List Value) (o:Nat) (w:World) (k:Nat),k≠b→(w.setCells b o vs).heap[k]?=w.heap[k]?
 | [],_,_,_,_=>rfl
 | v::r,o,w,k,h=>(heap_setCells_other b r (o+1) _ k h).trans (heap_setCell_other w ⟨b,o,none⟩ k v h)
theorem size_setCells (b:Nat):∀(vs:List Value) (o:Nat) (w:World),(w.setCells b o vs).heap.size=w.heap.size
 | [],_,_=>rfl
 | v::r,o,w=>(size_setCells b r (o+1) _).trans (by simp[World.setCell])
theorem ku (b:Nat):∀(vs:List Value) (o:Nat) (w:World),(w.setCells b o vs).os=w.os∧(w.setCells b o vs).tape=w.tape∧(w.setCells b o vs).output=w.output
 | [],_,_=>⟨rfl,rfl,rfl⟩
 | _::r,o,_=>ku b r (o+1) _
theorem aL (w:World) (b o:Nat) (vs:List Value):w.grownBy (w.setCells b o vs) (some b):=
 ⟨(ku b vs o w).1,(ku b vs o w).2.1,(ku b vs o w).2.2,Nat.le_of_eq (size_setCells b vs o w).symm,
  fun k _ hk=>heap_setCells_other b vs o w k (fun e=>hk (by rw[e]))⟩
def Own (w:World) (B:Nat) (e:TypeId) (sz:Nat) (v:Value) (n:Nat) (xs:List Value):Prop:=
 xs.length=n*sz∧((v = .slice none 0 0∧n=0) ∨
  ∃g off cap cur,v = .slice (some ⟨g,off,none⟩) n cap∧B≤g∧aF w g cur e∧n≤cap∧cap≤maxLen∧off+cap*sz≤cur.size∧∀j u,xs[j]?=some u→cur[off+j]?=some u)
theorem Own.nil (w:World) (B:Nat) (e:TypeId) (sz:Nat):Own w B e sz (.slice none 0 0) 0 []:=⟨by simp,.inl ⟨rfl,rfl⟩⟩
theorem Own.of_owns {w:World} {B:Nat} {e:TypeId} {sz:Nat} {v:Value} {n:Nat} {xs:List Value} (h:w.ownsRow B e sz v n xs):Own w B e sz v n xs:=by
 obtain⟨hl,h⟩:=h
 refine⟨hl,h.imp id fun⟨g,cap,cur,hv,hB,hg,hc,hm,hs,ht⟩=>⟨g,0,cap,cur,hv,hB,hg,hc,hm,by omega,fun j u hj => ?_⟩⟩
 rw[Nat.zero_add,←Array.getElem?_toList]
 rw[←ht,List.getElem?_take] at hj
 split at hj
 ·exact hj
 ·cases hj
theorem Own.mono {w:World} {B B' : Nat} {e:TypeId} {sz:Nat} {v:Value} {n:Nat} {xs:List Value} (h:Own w B e sz v n xs) (hB:B'≤B):Own w B' e sz v n xs:=
 ⟨h.1,h.2.imp id fun⟨g,off,cap,cur,hv,hg,r⟩=>⟨g,off,cap,cur,hv,Nat.le_trans hB hg,r⟩⟩
theorem Own.below {w w' : World} {B:Nat} {e:TypeId} {sz:Nat} {v:Value} {n:Nat} {xs:List Value} (h:Own w B e sz v n xs) (hb:Below w.heap.size w w'):Own w' B e sz v n xs:=
 ⟨h.1,h.2.imp id fun⟨g,off,cap,cur,hv,hg,hk,r⟩=>⟨g,off,cap,cur,hv,hg,hk.ext hb,r⟩⟩
theorem Own.grown {w w' : World} {row:Option Nat} {B:Nat} {e:TypeId} {sz:Nat} {v:Value} {n:Nat} {xs:List Value} (h:Own w B e sz v n xs) (hg:w.grownBy w' row) (hne:∀g,v.ownBlock=some g→row≠some g):Own w' B e sz v n xs:=
 ⟨h.1,h.2.imp id fun⟨g,off,cap,cur,hv,hB,hk,r⟩=>⟨g,off,cap,cur,hv,hB,(hg.block g hk.lt (fun e=>hne g (by rw[hv];rfl) e.symm)).trans hk,r⟩⟩
theorem Own.rd {w:World} {B:Nat} {e:TypeId} {sz:Nat} {v:Value} {n:Nat} {xs:List Value} (h:Own w B e sz v n xs):∃a c,v = .slice a n c∧n≤c∧c≤maxLen∧(a=none→c=0)∧cZ w a xs:=by
 obtain⟨hl,h⟩:=h
 rcases h with ⟨rfl,rfl⟩|⟨g,off,cap,cur,rfl,_,hg,hc,hm,hs,ht⟩
 ·have:xs=[]:=List.eq_nil_of_length_eq_zero (by simpa using hl)
  subst this
  exact⟨none,0,rfl,Nat.le_refl _,Nat.zero_le _,fun _=>rfl,cZ.nil⟩
 ·exact⟨_,cap,rfl,hc,hm,fun e=>(Option.some_ne_none _ e).elim,fun i u hi=>⟨g,off,rfl,by rw[hg.cell];exact ht i u hi⟩⟩
theorem Own.ge {w:World} {B:Nat} {e:TypeId} {sz:Nat} {v:Value} {n:Nat} {xs:List Value} (h:Own w B e sz v n xs):∀k,v.ownBlock=some k→B≤k:=by
 rcases h.2 with ⟨rfl,_⟩|⟨g,off,cap,cur,rfl,hB,_⟩
 ·intro k hk;cases hk
 ·intro k hk;cases hk;exact hB
theorem aF.grown {w w' : World} {row:Option Nat} {b:Nat} {cs:Array Value} {T:TypeId} (h:aF w b cs T) (hg:w.grownBy w' row) (hne:row≠some b):aF w' b cs T:=
 (hg.block b h.lt (fun e=>hne e.symm)).trans h
theorem Own.alloc {w:World} {B:Nat} {e:TypeId} {sz:Nat} {v:Value} {n:Nat} {xs:List Value} (h:Own w B e sz v n xs) (o:Obj):Own (w.alloc o) B e sz v n xs:=
 h.below ((Below.refl _ _).alloc (Nat.le_refl _) _)
theorem cZ.one (w:World) (v:Value) (T:TypeId):cZ (w.alloc (.cells #[v] T)) (some ⟨w.heap.size,0,none⟩) [v]:=by
 intro i u hi
 refine⟨_,_,rfl,?_⟩
 rw[(aF.new w #[v] T).cell]
 cases i with
 | zero=>simpa using hi
 | succ i=>simp at hi
theorem cZ.new (w:World) (cs:Array Value) (T:TypeId):cZ (w.alloc (.cells cs T)) (some ⟨w.heap.size,0,none⟩) cs.toList:=by
 intro i u hi
 refine⟨_,_,rfl,?_⟩
 rw[(aF.new w cs T).cell,Nat.zero_add]
 simpa using hi
theorem KC (k:IntKind) (n:Int):∀u∈[Value.int k n],u.oneCell' = true:=by
 intro u hu
 cases List.mem_singleton.1 hu
 rfl
theorem eu {P:Program} {w:World} {ops:Array Oper} {rest:List Oper} {o:Oper} {a:Act} {Q:Exit→Act→World→Prop} (hg:o.guard=none) (s x:Operand) (t:TypeId)
  (hop:o.op=Op.call { callee:=Callee.builtin Builtin.append,args:=#[s,x],argTypes:=#[t,t] })
  (B:Nat) (e:TypeId) (z:Value) (size bytes:Nat) (h1:P.underlying t=some (.slice e)) (h2:(P.info? e).map (fun i=>(i.zero,i.size,i.bytes))=some (some z,size,bytes)) (h6:z.cells.size=size) (h7:0<size)
  (v:Value) (n:Nat) (xs:List Value) (hs:a.eval s=v) (hown:Own w B e size v n xs)
  (ao:Option Addr) (m c:Nat) (news:List Value) (hx:a.eval x = .slice ao m c) (hnone:ao=none→c=0) (hmc:m≤c) (hn:news.length=m*size) (hrd:cZ w ao news) (h1c:∀u∈news,u.oneCell' = true)
  (b1:n+m≤maxLen) (b2:(n+m)*bytes≤140737488355328) (hB:B≤w.heap.size)
  (hK:∀v' w',Own w' B e size v' (n+m) (xs++news)→w.grownBy w' v.ownBlock→wpList P ops Q rest (a.put o.dst v') w') :
  wpList P ops Q (o::rest) a w:=by
 obtain⟨i,hi,hz,hsz,hby⟩:=info_parts h2
 cases ao with
 | none=>
  obtain rfl:=hnone rfl
  obtain rfl:m=0:=by omega
  obtain rfl:news=[]:=List.eq_nil_of_length_eq_zero (by simpa using hn)
  have key:wpList P ops Q rest (a.put o.dst v) w:=by
   have:=hK v w (by simpa using hown) (World.grownBy.refl _ _)
   exact this
  rcases hown with ⟨hl,⟨rfl,rfl⟩|⟨g,off,cap,cur,rfl,hBg,hk,hc,hm,hsize,hcell⟩⟩
  ·obtain rfl:xs=[]:=List.eq_nil_of_length_eq_zero (by simpa using hl)
   exact wpList_append_own_none hg s x t hop B e i size h1 hi _ 0 [] hs (World.ownsRow_nil w B e size) hx key
  ·refine wpList_plain hg fun K hK' => ?_
   unfold Oper.wp
   simp[execOp,hop,resolve,invoke,builtin,hs,hx,Builtin.append_,run_underlying h1,Go.sizeOf,typeInfo,hi,Builtin.lenOf,Builtin.firstCells,hc,storeCells,Result.andThen]
   exact hK' _ _ key
 | some ad=>
  have hnews:∀j u,news[j]?=some u→w.cell? (ad.add j)=some u:=by
   intro j u hj
   obtain⟨b,off,e',hc⟩:=hrd j u hj
   cases e'
   rw[Addr.add_lit];exact hc
  rcases hown with ⟨hl,⟨rfl,rfl⟩|⟨g,off,cap,cur,rfl,hBg,hk,hc,hm,hsize,hcell⟩⟩
  ·obtain rfl:xs=[]:=List.eq_nil_of_length_eq_zero (by simpa using hl)
   exact wpList_append_own w hg s x t hop B e i z size bytes h1 hi hz hsz hby h6 h7 _ 0 [] hs (World.ownsRow_nil w B e size) ad m c news hx hn hnews h1c b1 b2 hB
    fun v' w' r1 r2 _=>hK v' w' (.of_owns r1) r2
  ·have hcap:n*size≤cap*size:=Nat.mul_le_mul_right _ hc
   refine wpList_append_arg w hg s x t hop e i z size bytes h1 hi hz hsz hby h6 h7 g off n cap xs hs hl (fun j u hj=>by rw[hk.cell];exact hcell j u hj) ad m c news hx hn hnews h1c (fun hr j hj => ?_) b1 b2 (fun hr => ?_) (fun hr v' w' r1 r2 => ?_)
   ·have h3:(n+m)*size≤cap*size:=Nat.mul_le_mul_right _ hr
    rw[Nat.add_mul] at h3
    have:off+n*size+j<cur.size:=by omega
    exact⟨by rw[hk.cell];simp[this],hk.free _⟩
   ·have h3:(n+m)*size≤cap*size:=Nat.mul_le_mul_right _ hr
    rw[Nat.add_mul] at h3
    refine hK _ _ ⟨by rw[List.length_append,hl,hn,Nat.add_mul],.inr ⟨g,off,cap,_,rfl,hBg,hk.setCells news (off+n*size),hr,hm,by rw[size_putAt];exact hsize,fun j u hj => ?_⟩⟩ (aL _ _ _ _)
    by_cases hjl:j<xs.length
    ·rw[List.getElem?_append_left hjl] at hj
     rw[putAt_out _ _ _ _ (.inl (by omega))];exact hcell j u hj
    ·rw[List.getElem?_append_right (by omega)] at hj
     have:=putAt_in news cur (off+n*size) (j-xs.length) u (by omega) hj
     rwa [show off+n*size+(j-xs.length)=off+j by omega] at this
   ·have r2' : w.grownBy w' (Value.ownBlock (.slice (some ⟨g,off,none⟩) n cap)):=⟨r2.os,r2.tape,r2.output,r2.size,fun k hk' _=>r2.block k hk' (by simp)⟩
    exact hK v' w' ((Own.of_owns r1).mono hB) r2'
theorem iq (cur cs:Array Value) (h:cs.size=cur.size):bC cur 0 cs.toList=cs:=by
 apply Array.ext_getElem?
 intro i
 by_cases hi:i<cs.size
 ·have:=putAt_in cs.toList cur 0 i cs[i] (by simp;omega) (by simp[hi])
  rw[Nat.zero_add] at this
  rw[this]
  simp[hi]
 ·rw[Array.getElem?_eq_none (by rw[size_putAt];omega),Array.getElem?_eq_none (by omega)]
theorem eX {P:Program} {w:World} {ops:Array Oper} {rest:List Oper} {op:Oper} {a:Act} {Q:Exit→Act→World→Prop} (hgd:op.guard=none) (ty:TypeId) (x y:Operand) (ho:op.op = .store ty x y)
  (b o:Nat) (cells:Array Value) (hx:a.eval x = .pointer (some ⟨b,o,none⟩)) (hy:a.eval y = .agg cells) (cur:Array Value) (T:TypeId) (hg:aF w b cur T)
  (hfit:o+cells.size≤cur.size) (hi:(P.info? ty).map (·.size)=some cells.size) (h1:cells.all (·.oneCell')=true)
  (h:∀w',aF w' b (bC cur o cells.toList) T→w.grownBy w' (some b)→wpList P ops Q rest (a.put op.dst undef) w'):wpList P ops Q (op::rest) a w:=by
 refine wpList_store_mid hgd ty x y ho b o cells hx hy (fun j hj=>⟨?_,hg.free _⟩) hi h1 (h _ (hg.setCells _ _) (aL _ _ _ _))
 rw[hg.cell]
 simp[show o+j<cur.size by omega]
theorem az {P:Program} {w:World} {ops:Array Oper} {rest:List Oper} {op:Oper} {a:Act} {Q:Exit→Act→World→Prop} (hgd:op.guard=none) (ty:TypeId) (x y:Operand) (ho:op.op = .store ty x y)
  (b:Nat) (cells:Array Value) (hx:a.eval x = .pointer (some ⟨b,0,none⟩)) (hy:a.eval y = .agg cells) (cur:Array Value) (T:TypeId) (hg:aF w b cur T)
  (hfit:cells.size=cur.size) (hi:(P.info? ty).map (·.size)=some cells.size) (h1:cells.all (·.oneCell')=true)
  (h:∀w',aF w' b cells T→w.grownBy w' (some b)→wpList P ops Q rest (a.put op.dst undef) w'):wpList P ops Q (op::rest) a w:=by
 refine eX hgd ty x y ho b 0 cells hx hy cur T hg (by omega) hi h1 fun w' hb hgr => ?_
 rw[iq cur cells hfit] at hb
 exact h w' hb hgr
theorem kP {α:Type} (f:α→Value) (l:List α):l.flatMap (fun x=>[f x])=l.map f:=by
 induction l with
 | nil=>rfl
 | cons x l ih=>simp[ih]
def kT (b:UInt8):Value:=.int .u8 b.toNat
def dL (n:Int):Value:=.int .i64 n
theorem qM {P:Program} {w:World} {src e:TypeId} (hs:P.underlying src=some (.slice e)) (he:P.underlying e=some (.int .u8)) {a:Option Addr} {l:List UInt8} (c:Nat) (h:cZ w a (l.map kT)) :
  ∀dst,P.underlying dst=some .string→(convert src dst (.slice a l.length c)).run P w = .ok (.string ⟨l.toArray⟩) w:=by
 intro dst hd
 by_cases hn:l=[]
 ·subst hn
  have:=run_convert_bytes_string w src dst e a 0 c hs he hd
  simp only[List.length_nil]
  rw[this]
  cases a with
  | none=>rfl
  | some a=>
   rw[run_bytesToString w a 0 c [] (by simpa using run_loadCells_list (P:=P) w a [] (by simp))]
   rfl
 ·obtain⟨b,off,rfl,hc⟩:=h.at (by simpa using List.length_pos_iff.2 hn)
  rw[run_convert_bytes_arg w src e hs he b off l.length c (l.map fun x=>(x.toNat:Int)) (by simp) (fun i hi=>by
   rw[hc i (kT l[i]) (by simp[hi])]
   simp[kT,List.getD,hi]) dst hd]
  congr 2
  apply ByteArray.ext
  apply Array.ext'
  rw[strOfNums_data]
  simp[List.map_map,Function.comp_def]
def dW (p:Page):Array Value:=#[Value.int .u8 p[0].toNat,Value.int .u8 p[1].toNat,Value.int .u8 p[2].toNat,Value.int .u8 p[3].toNat,Value.int .u8 p[4].toNat,Value.int .u8 p[5].toNat,Value.int .u8 p[6].toNat,Value.int .u8 p[7].toNat]
theorem vv (p:Page) (k:Nat) (h:k<8):(dW p)[k]?=some (Value.int .u8 p[k].toNat):=by
 match k,h with
 | 0,_=>rfl
 | 1,_=>rfl
 | 2,_=>rfl
 | 3,_=>rfl
 | 4,_=>rfl
 | 5,_=>rfl
 | 6,_=>rfl
 | 7,_=>rfl
 | n+8,h=>omega
theorem vM (p:Page) (k:Nat) (h:k<8) (b:UInt8):(dW p).setIfInBounds k (.int .u8 b.toNat)=dW (p.set k b):=by
 match k,h with
 | 0,_=>simp[dW]
 | 1,_=>simp[dW]
 | 2,_=>simp[dW]
 | 3,_=>simp[dW]
 | 4,_=>simp[dW]
 | 5,_=>simp[dW]
 | 6,_=>simp[dW]
 | 7,_=>simp[dW]
 | n+8,h=>omega
theorem LM (p:Page):(dW p)[0]?=some (Value.int .u8 p[0].toNat)∧(dW p)[1]?=some (Value.int .u8 p[1].toNat)∧(dW p)[2]?=some (Value.int .u8 p[2].toNat)∧(dW p)[3]?=some (Value.int .u8 p[3].toNat)∧(dW p)[4]?=some (Value.int .u8 p[4].toNat)∧(dW p)[5]?=some (Value.int .u8 p[5].toNat)∧(dW p)[6]?=some (Value.int .u8 p[6].toNat)∧(dW p)[7]?=some (Value.int .u8 p[7].toNat):=
 ⟨rfl,rfl,rfl,rfl,rfl,rfl,rfl,rfl⟩
theorem eD (p:Page):(dW p).all (·.oneCell')=true:=by simp[dW,Value.oneCell']
theorem xX {P:Program} (w:World) (e:TypeId) (k:IntKind) (cs:Array Value) (off:Nat) (v:Value) (he:P.underlying e=some (.int k)) (hv:cs[off]?=some v) :
  (part e cs off).run P w = .ok v w:=by
 simp[part,isAgg,run_underlying he,hv]
theorem uG {P:Program} (w:World) (d:Nat) (t e:TypeId) (ht:P.underlying t=some (.array 8 e)) (he:P.underlying e=some (.int .u8)) (hsz:(P.info? e).map (·.size)=some 1) (p q:Page) :
  (Op.equalIn (d+2) t (.agg (dW p)) (.agg (dW q))).run P w = .ok (p==q) w:=by
 cases hq:P.info? e with
 | none=>simp[hq] at hsz
 | some i=>
 have hi:i.size=1:=by simpa[hq] using hsz
 rw[JK]
 unfold Op.equalIn
 simp only[Sem.run_bind,run_underlying ht,Result.andThen_ok,Go.sizeOf,typeInfo,run_program,hq,hi,Sem.run_pure]
 simp only[Std.Legacy.Range.forIn_eq_forIn_range',List.range',Std.Legacy.Range.size]
 have g:∀(r:Page) (k:Nat) (h:k<8) (w:World),(part e (dW r) k).run P w = .ok (.int .u8 r[k].toNat) w:=fun r k h w=>xX w e .u8 _ _ _ he (vv r k h)
 have c:∀(a b:UInt8) (w:World),(Op.equalIn (d+1) e (.int .u8 a.toNat) (.int .u8 b.toNat)).run P w = .ok (a==b) w:=fun a b w=>by
  rw[run_equalIn_int w d e .u8 .u8 _ _ he,MU]
 simp[g,c]
 repeat' split
 all_goals simp_all
def Gives (P:Program) (o:Oper) (a:Act) (w:World) (F:Value→World→Prop):Prop:=
 match (execOp a.eval o).run P w with
 | .ok (.value v) w'=>F v w'
 | .ok .skip w'=>F undef w'
 | .ok (.enter f args) w'=>Calls P f args w' fun | .returned v,w''=>F v w'' | _,_=>False
 | _=>False
def lay (L:Nat→Bool) (y:Nat→Value):List Oper→Nat→Array Value→Array Value
 | [],_,t=>t
 | o::r,i,t=>lay L y r (i+1) (match o.dst with | some d=>if L i then t.setIfInBounds d (y i) else t | none=>t)
theorem lay_size (L:Nat→Bool) (y:Nat→Value):∀(l:List Oper) (i:Nat) (t:Array Value),(lay L y l i t).size=t.size
 | [],_,_=>rfl
 | o::r,i,t=>by
  simp only[lay]
  rw[lay_size L y r]
  cases o.dst with
  | none=>rfl
  | some d=>simp only[];split<;>simp
theorem eG (L:Nat→Bool) (y:Nat→Value) (s:Nat):∀(l:List Oper) (i:Nat) (t:Array Value),(∀k o,l[k]?=some o→o.dst=some s→L (i+k)=false)→(lay L y l i t)[s]?=t[s]?
 | [],_,_,_=>rfl
 | o::r,i,t,h=>by
  simp only[lay]
  rw[eG L y s r (i+1) _ (fun k o' hk hd=>by have:=h (k+1) o' (by simpa using hk) hd;rwa [show i+(k+1)=i+1+k by omega] at this)]
  cases hd:o.dst with
  | none=>rfl
  | some d=>
   simp only[]
   split
   ·rename_i hL
    have hne:d≠s:=by
     intro e
     subst e
     have:=h 0 o (by simp) hd
     simp[hL] at this
    rw[Array.getElem?_setIfInBounds_ne hne]
   ·rfl
theorem iA (L:Nat→Bool) (y:Nat→Value) (s:Nat):∀(l:List Oper) (i:Nat) (t:Array Value) (k:Nat) (o:Oper),l[k]?=some o→o.dst=some s→L (i+k)=true →
  (∀k' o',l[k']?=some o'→o'.dst=some s→k' = k)→s<t.size→(lay L y l i t)[s]?=some (y (i+k))
 | [],_,_,_,_,h,_,_,_,_=>by simp at h
 | o0::r,i,t,0,o,hk,hd,hL,hu,hs=>by
  simp at hk
  subst hk
  simp only[lay,hd]
  rw[eG L y s r (i+1) _ (fun k o' hk' hd'=>by have:=hu (k+1) o' (by simpa using hk') hd'; omega)]
  rw[Nat.add_zero] at hL
  simp[hL,hs]
 | o0::r,i,t,k+1,o,hk,hd,hL,hu,hs=>by
  simp only[lay]
  have:=iA L y s r (i+1) (match o0.dst with | some d=>if L i then t.setIfInBounds d (y i) else t | none=>t) k o (by simpa using hk) hd (by rwa [show i+1+k=i+(k+1) by omega])
   (fun k' o' hk' hd'=>by have:=hu (k' + 1) o' (by simpa using hk') hd'; omega)
   (by cases o0.dst with
     | none=>exact hs
     | some d=>simp only[];split<;>simpa using hs)
  rw[this]
  congr 2
  omega
theorem gU (L L' : Nat→Bool) (y:Nat→Value):∀(l:List Oper) (i:Nat) (t:Array Value),(∀k,k<l.length→L (i+k)=L' (i+k))→lay L y l i t=lay L' y l i t
 | [],_,_,_=>rfl
 | o::r,i,t,h=>by
  simp only[lay]
  have h0:L i=L' i:=by simpa using h 0 (by simp)
  rw[h0]
  exact gU L L' y r (i+1) _ fun k hk=>by have:=h (k+1) (by simp;omega);rwa [show i+(k+1)=i+1+k by omega] at this
def fE (ops:Array Oper):Bool:=
 (List.range ops.size).all fun i=>match ops[i]? with
  | none=>true
  | some o=>
   (match o.op with | .select ..=>false | _=>true) &&
   o.after.toList.all (fun e=>Region.binds .any e&&decide (e.on<i)) &&
   (List.range ops.size).all fun j=>match ops[j]? with
    | none=>true
    | some p=>match p.dst with
     | none=>true
     | some d=>(decide (i=j)||o.dst != some d)&&(!(o.looksAt ops).contains d||o.after.toList.any (fun e=>decide (e.on=j)))
theorem dx {ops:Array Oper} (h:fE ops=true) {i:Nat} {o:Oper} (hi:ops[i]?=some o) :
  (∀cs b,o.op ≠ .select cs b)∧(∀e∈o.after,Region.binds .any e=true∧e.on<i) ∧
  ∀j p d,ops[j]?=some p→p.dst=some d→(i=j∨o.dst≠some d)∧(d∈o.looksAt ops→∃e∈o.after,e.on=j):=by
 have hlt:i<ops.size:=(Array.getElem?_eq_some_iff.1 hi).1
 have h1:=List.all_eq_true.1 h i (List.mem_range.2 hlt)
 simp only[hi,Bool.and_eq_true] at h1
 obtain⟨⟨h2,h3⟩,h4⟩:=h1
 refine⟨?_,?_,?_⟩
 ·intro cs b e
  simp[e] at h2
 ·intro e he
  have:=List.all_eq_true.1 h3 e (Array.mem_toList_iff.2 he)
  simpa using this
 ·intro j p d hj hd
  have hjl:j<ops.size:=(Array.getElem?_eq_some_iff.1 hj).1
  have h5:=List.all_eq_true.1 h4 j (List.mem_range.2 hjl)
  simp only[hj,hd,Bool.and_eq_true,Bool.or_eq_true,decide_eq_true_eq,bne_iff_ne,ne_eq,Bool.not_eq_true',List.any_eq_true] at h5
  refine⟨h5.1,fun hmem => ?_⟩
  rcases h5.2 with h6|⟨e,he,h6⟩
  ·have h7:(o.looksAt ops).contains d=true:=List.contains_iff_mem.2 hmem
   rw[h7] at h6;cases h6
  ·exact⟨e,Array.mem_toList_iff.1 he,h6⟩
theorem mU {ops:Array Oper} (hok:fE ops=true) {a0:Act} {L:Nat→Bool} {y:Nat→Value} {i:Nat} {o:Oper} (hi:ops[i]?=some o) (hL:∀e∈o.after,L e.on=true) (t:Nat) (ht:t∈o.looksAt ops) :
  (lay L y ops.toList 0 a0.tmps)[t]?=(lay (fun _=>true) y ops.toList 0 a0.tmps)[t]?:=by
 obtain⟨_,_,hw⟩:=dx hok hi
 by_cases hsz:t<a0.tmps.size
 ·by_cases hex:∃(j:Nat) (p:Oper),ops[j]?=some p∧p.dst=some t
  ·obtain⟨j,p,hj,hd⟩:=hex
   obtain⟨e,he,hej⟩:=(hw j p t hj hd).2 ht
   have hu:∀k' o',ops.toList[k']?=some o'→o'.dst=some t→k' = j:=by
    intro k' o' hk' hd'
    have:=(dx hok (i:=k') (o:=o') (by simpa using hk')).2.2 j p t hj hd
    rcases this.1 with h|h
    ·exact h
    ·exact absurd hd' h
   rw[iA L y t _ 0 _ j p (by simpa using hj) hd (by rw[Nat.zero_add,←hej];exact hL e he) hu hsz,
    iA (fun _=>true) y t _ 0 _ j p (by simpa using hj) hd rfl hu hsz]
  ·rw[eG L y t _ 0 _ (fun k o' hk hd=>absurd ⟨k,o',by simpa using hk,hd⟩ hex),eG (fun _=>true) y t _ 0 _ (fun k o' hk hd=>absurd ⟨k,o',by simpa using hk,hd⟩ hex)]
 ·rw[Array.getElem?_eq_none (by rw[lay_size];omega),Array.getElem?_eq_none (by rw[lay_size];omega)]
theorem sH {ops:Array Oper} (hok:fE ops=true) {a0:Act} {listed:Array Bool} {y:Nat→Value} {i:Nat} {o:Oper} (hi:ops[i]?=some o) (hsz:listed.size=ops.size) (v:Value) :
  ({ a0 with tmps:=lay (fun i=>listed.getD i false) y ops.toList 0 a0.tmps }:Act).put o.dst v =
   { a0 with tmps:=lay (fun k=>(listed.setIfInBounds i true).getD k false) (fun k=>if k=i then v else y k) ops.toList 0 a0.tmps }:=by
 have hlt:i<ops.size:=(Array.getElem?_eq_some_iff.1 hi).1
 have hLi:(listed.setIfInBounds i true).getD i false=true:=by simp[Array.getD_eq_getD_getElem?,show i<listed.size by omega]
 have hLk:∀k,k≠i→(listed.setIfInBounds i true).getD k false=listed.getD k false:=fun k hk=>by
  simp[Array.getD_eq_getD_getElem?,Array.getElem?_setIfInBounds_ne (Ne.symm hk)]
 have key:(({ a0 with tmps:=lay (fun i=>listed.getD i false) y ops.toList 0 a0.tmps }:Act).put o.dst v).tmps=lay (fun k=>(listed.setIfInBounds i true).getD k false) (fun k=>if k=i then v else y k) ops.toList 0 a0.tmps:=by
  apply Array.ext_getElem?
  intro s
  by_cases hs:s<a0.tmps.size
  ·by_cases hex:∃(j:Nat) (p:Oper),ops[j]?=some p∧p.dst=some s
   ·obtain⟨j,p,hj,hd⟩:=hex
    have hu:∀k' o',ops.toList[k']?=some o'→o'.dst=some s→k' = j:=by
     intro k' o' hk' hd'
     rcases ((dx hok (i:=k') (o:=o') (by simpa using hk')).2.2 j p s hj hd).1 with h|h
     ·exact h
     ·exact absurd hd' h
    by_cases hji:j=i
    ·subst hji
     obtain rfl:o=p:=by rw[hi] at hj;exact Option.some.inj hj
     rw[iA (fun k=>(listed.setIfInBounds j true).getD k false) _ s _ 0 _ j o (by simpa using hi) hd (by simpa using hLi) hu hs]
     simp only[Act.put,hd,Nat.zero_add,if_true]
     rw[Array.getElem?_setIfInBounds_self_of_lt (by rw[lay_size];exact hs)]
    ·have hod:o.dst≠some s:=fun e=>hji ((hu i o (by simpa using hi) e).symm)
     have e1:(({ a0 with tmps:=lay (fun i=>listed.getD i false) y ops.toList 0 a0.tmps }:Act).put o.dst v).tmps[s]?=(lay (fun i=>listed.getD i false) y ops.toList 0 a0.tmps)[s]?:=by
      cases ho:o.dst with
      | none=>rfl
      | some d=>
       have:d≠s:=fun e=>hod (by rw[ho,e])
       simp only[Act.put]
       rw[Array.getElem?_setIfInBounds_ne this]
     rw[e1]
     cases hLj:listed.getD j false with
     | true=>
      rw[iA (fun i=>listed.getD i false) y s _ 0 _ j p (by simpa using hj) hd (by simpa using hLj) hu hs,
       iA (fun k=>(listed.setIfInBounds i true).getD k false) _ s _ 0 _ j p (by simpa using hj) hd (by rw[Nat.zero_add,hLk j hji];exact hLj) hu hs]
      simp[hji]
     | false=>
      rw[eG (fun i=>listed.getD i false) y s _ 0 _ (fun k o' hk hd'=>by rw[Nat.zero_add,hu k o' hk hd'];exact hLj),
       eG (fun k=>(listed.setIfInBounds i true).getD k false) _ s _ 0 _ (fun k o' hk hd'=>by rw[Nat.zero_add,hu k o' hk hd',hLk j hji];exact hLj)]
   ·have hod:o.dst≠some s:=fun e=>hex ⟨i,o,hi,e⟩
    have e1:(({ a0 with tmps:=lay (fun i=>listed.getD i false) y ops.toList 0 a0.tmps }:Act).put o.dst v).tmps[s]?=(lay (fun i=>listed.getD i false) y ops.toList 0 a0.tmps)[s]?:=by
     cases ho:o.dst with
     | none=>rfl
     | some d=>
      have:d≠s:=fun e=>hod (by rw[ho,e])
      simp only[Act.put]
      rw[Array.getElem?_setIfInBounds_ne this]
    rw[e1,eG _ y s _ 0 _ (fun k o' hk hd=>absurd ⟨k,o',by simpa using hk,hd⟩ hex),eG _ _ s _ 0 _ (fun k o' hk hd=>absurd ⟨k,o',by simpa using hk,hd⟩ hex)]
  ·have e1:(({ a0 with tmps:=lay (fun i=>listed.getD i false) y ops.toList 0 a0.tmps }:Act).put o.dst v).tmps.size=a0.tmps.size:=by
    cases o.dst with
    | none=>exact lay_size _ _ _ _ _
    | some d=>simp[Act.put,lay_size]
   rw[Array.getElem?_eq_none (by rw[e1];omega),Array.getElem?_eq_none (by rw[lay_size];omega)]
 cases hdst:o.dst with
 | none=>rw[hdst] at key;simp only[Act.put] at key ⊢; rw[key]
 | some d=>rw[hdst] at key;simp only[Act.put] at key ⊢; rw[key]
theorem je {P:Program} {ops:Array Oper} {Q:Exit→Act→World→Prop} {i:Nat} {o:Oper} {a b:Act} {w:World} {F:Value→World→Prop} {K:Act→World→Prop} (hi:ops[i]?=some o)
  (hwant:Region.wanted o (yielded ops a.tmps)=true) (hexec:execOp a.eval o=execOp b.eval o) (h:Gives P o b w F) (hK:∀v w',F v w'→K (a.put o.dst v) w'):wpOp P ops Q i K a w:=by
 unfold wpOp
 simp only[hi,hwant,if_true]
 refine .inl ?_
 unfold Oper.wp
 rw[hexec]
 unfold Gives at h
 generalize (execOp b.eval o).run P w=r at h ⊢
 cases r with
 | ok n w'=>
  cases n with
  | value v=>exact hK _ _ h
  | skip=>exact hK _ _ h
  | enter f args=>
   refine Calls.mono h fun e w'' he => ?_
   cases e with
   | returned v=>exact hK _ _ he
   | panicked c=>exact he.elim
   | outgrown=>exact he.elim
  | _=>exact h.elim
 | halt x w'=>exact h.elim
def writer (ops:Array Oper) (t:Nat):Option Nat:=(List.range ops.size).find? fun i=>match ops[i]? with | some o=>o.dst==some t | none=>false
def ed (ρ:Operand→Value) (ops:Array Oper) (g:Nat):Option Bool:=
 match (ops[g]?).bind (·.dst) with
 | some d=>match ρ (.tmp d) with | .bool b=>some b | _=>none
 | none=>none
def cz (P:Program) (o:Oper) (ρ:Operand→Value) (w:World) (F:Value→World→Prop):Prop:=
 match (execOp ρ o).run P w with
 | .ok (.value v) w'=>F v w'
 | .ok .skip w'=>F undef w'
 | .ok (.enter f args) w'=>Calls P f args w' fun | .returned v,w''=>F v w'' | _,_=>False
 | _=>False
structure iO where
 r:Value→World→Prop
 st:∀v w w',Below w.heap.size w w'→r v w→r v w'
def nU (V:Value):iO:=⟨fun v _=>v=V,fun _ _ _ _ h=>h⟩
def anyR:iO:=⟨fun _ _=>True,fun _ _ _ _ _=>trivial⟩
def Oj (n:Nat) (vs:List Value):iO:=⟨fun v w => ∃a c,v = .slice a n c∧n≤c∧c≤maxLen∧(a=none→c=0)∧cZ w a vs,
 fun _ _ _ hb ⟨a,c,h1,h2,h3,h4,h5⟩=>⟨a,c,h1,h2,h3,h4,h5.below hb⟩⟩
def rl (l:List iO) (i:Nat) (v:Value) (w:World):Prop:=(l.getD i anyR).r v w
def aP (C:Nat→Oper→Prop):Nat→List Oper→Prop
 | _,[]=>True
 | k,o::r=>C k o∧aP C (k+1) r
theorem aB {C:Nat→Oper→Prop} {k:Nat}:aP C k []:=trivial
theorem ag {C:Nat→Oper→Prop} {k:Nat} {o:Oper} {r:List Oper} (h:C k o) (hr:aP C (k+1) r):aP C k (o::r):=⟨h,hr⟩
theorem aP.at {C:Nat→Oper→Prop}:∀ {l:List Oper} {k:Nat},aP C k l→∀i o,l[i]?=some o→C (k+i) o
 | [],_,_,_,_,h=>by simp at h
 | o::r,k,h,0,o',hi=>by simp at hi;subst hi;exact h.1
 | o::r,k,h,i+1,o',hi=>by
  have:=aP.at h.2 i o' (by simpa using hi)
  rwa [show k+(i+1)=k+1+i by omega]
def jC (P:Program) (ops:Array Oper) (a0:Act) (w0:World) (l:List iO) (i:Nat) (o:Oper):Prop:=
 ∀(ρ:Operand→Value) (y:Nat→Value) (w:World),(∀t j,writer ops t=some j→ρ (.tmp t)=y j)→(∀x,(match x with | .tmp t=>writer ops t=none | _=>True)→ρ x=a0.eval x) →
  Below w0.heap.size w0 w→(∀j,o.after.toList.any (fun e=>e.on==j)=true→rl l j (y j) w) →
  if Region.wanted o (ed ρ ops)=true then cz P o ρ w (fun v w'=>Below w.heap.size w w'∧rl l i v w') else rl l i undef w
def fU (ops:Array Oper) (n:Nat):Bool:=ops.toList.all fun o=>match o.dst with | some d=>decide (d<n) | none=>true
theorem aj {P:Program} {ops:Array Oper} {ρ:Operand→Value} {o:Oper} {w:World} {l:List iO} {i:Nat} (v:Value) (hw:Region.wanted o (ed ρ ops)=true) (hrun:(execOp ρ o).run P w = .ok (.value v) w) (hR:rl l i v w) :
  if Region.wanted o (ed ρ ops)=true then cz P o ρ w (fun v w'=>Below w.heap.size w w'∧rl l i v w') else rl l i undef w:=by
 rw[if_pos hw]
 unfold cz
 rw[hrun]
 exact⟨Below.refl _ _,hR⟩
theorem xI {P:Program} {ops:Array Oper} {ρ:Operand→Value} {o:Oper} {w:World} {l:List iO} {i:Nat} (hw:Region.wanted o (ed ρ ops)=false) (hR:rl l i undef w) :
  if Region.wanted o (ed ρ ops)=true then cz P o ρ w (fun v w'=>Below w.heap.size w w'∧rl l i v w') else rl l i undef w:=by
 rw[if_neg (by rw[hw];exact Bool.false_ne_true)]
 exact hR
theorem aJ {P:Program} {ops:Array Oper} {ρ:Operand→Value} {o:Oper} {w:World} {l:List iO} {i:Nat} (f:FuncId) (args:Array Value) (hw:Region.wanted o (ed ρ ops)=true) (hrun:(execOp ρ o).run P w = .ok (.enter f args) w)
  (hc:Calls P f args w fun e w' => ∃v,e = .returned v∧Below w.heap.size w w'∧rl l i v w') :
  if Region.wanted o (ed ρ ops)=true then cz P o ρ w (fun v w'=>Below w.heap.size w w'∧rl l i v w') else rl l i undef w:=by
 rw[if_pos hw]
 unfold cz
 rw[hrun]
 refine hc.mono fun e w' ⟨v,he,h⟩ => ?_
 subst he
 exact h
theorem ah {o:Oper} {y:Nat→Option Bool} (hg:o.guard=none):Region.wanted o y=true:=by simp[Region.wanted,hg]
theorem aN {ρ:Operand→Value} {ops:Array Oper} {o:Oper} (g d:Nat) (b want:Bool) (hg:o.guard=some (g,want)) (hd:(ops[g]?).bind (·.dst)=some d) (hv:ρ (.tmp d) = .bool b):Region.wanted o (ed ρ ops)=(b==want):=by
 simp only[Region.wanted,hg,ed,hd,hv]
 cases b<;>cases want<;>rfl
theorem aX {P:Program} {ρ:Operand→Value} {o:Oper} {w:World} {ty:TypeId} {x:Operand} {b:Nat} {cs:Array Value} {T:TypeId} {d:TypeDesc} (ho:o.op = .load ty x) (hx:ρ x = .pointer (some ⟨b,0,none⟩)) (hb:aF w b cs T)
  (hu:P.underlying ty=some d) (hd:(match d with | .struct _ | .array _ _=>true | _=>false)=true) (hi:(P.info? ty).map (·.size)=some cs.size):(execOp ρ o).run P w = .ok (.value (.agg cs)) w:=by
 unfold execOp
 simp only[ho,hx,Instr.loadAt,Instr.sureAddr,Sem.run_bind,Sem.run_pure,Result.andThen_ok,run_loadVar_row w b T ty cs (0,0) d hb hu hd hi]
theorem run_move {P:Program} {ρ:Operand→Value} {o:Oper} {w:World} {x:Operand} {v:Value} (ho:o.op = .move x∨o.op = .assign x) (hx:ρ x=v):(execOp ρ o).run P w = .ok (.value v) w:=by
 rcases ho with ho|ho<;>simp[execOp,ho,hx]
theorem aK {P:Program} {ρ:Operand→Value} {o:Oper} {w:World} {f:FuncId} {xs:Array Operand} {ats:Array TypeId} {fn:Func} {args:Array Value} (ho:o.op = .call { callee:=.value (.func f),args:=xs,argTypes:=ats })
  (hρ : ρ (.func f) = .func (.func f) #[] #[]) (hf : P.funcs[f]? = some fn) (hn : (fn.name == "runtime.NumGoroutine") = false) (hb : fn.body.isNone = false) (ha : xs.map ρ = args) : (execOp ρ o).run P w = .ok (.enter f args) w := by
 have e1:execOp ρ o=callFunc f args:=by
  unfold execOp
  simp only[ho]
  have e2:resolve ρ { callee:=.value (.func f),args:=xs,argTypes:=ats } o.type=Sem.pure { target:=.fn (.func f) #[],args:=args }:=by
   unfold resolve
   simp only[hρ,ha]
   simp[Deferred.ofValue]
   rfl
  rw[e2]
  show callFunc f (args++#[])=_
  simp
 rw[e1]
 have hn' : ¬ fn.name = "runtime.NumGoroutine" := by simpa using hn
 have hb' : ¬fn.body=none:=fun h=>by simp[h] at hb
 unfold callFunc
 simp[hf,hn',hb']
theorem kE {P:Program} {ρ:Operand→Value} {o:Oper} {w:World} {op:BinOp} {t t' : TypeId} {x y:Operand} {vx vy v:Value} (ho:o.op = .binOp op t x y t') (hx:ρ x=vx) (hy:ρ y=vy)
  (hr:(do eqGuard op t x y vx vy;binOp op t vx vy:Sem Value).run P w = .ok v w):(execOp ρ o).run P w = .ok (.value v) w:=by
 unfold execOp
 simp only[ho,hx,hy]
 rw[Sem.run_bind,hr]
 rfl
theorem Aq {P:Program} {ρ:Operand→Value} {o:Oper} {w:World} {a b:TypeId} {x:Operand} {vx v:Value} (ho:o.op = .convert a b x) (hx:ρ x=vx) (hr:(convert a b vx).run P w = .ok v w):(execOp ρ o).run P w = .ok (.value v) w:=by
 unfold execOp
 simp only[ho,hx]
 rw[Sem.run_bind,hr]
 rfl
theorem kK {P:Program} {ρ:Operand→Value} {o:Oper} {w:World} {c x y:Operand} {b:Bool} {v:Value} (ho:o.op = .pick c x y) (hc:ρ c = .bool b) (hx:(if b then ρ x else ρ y)=v):(execOp ρ o).run P w = .ok (.value v) w:=by
 unfold execOp
 simp only[ho,hc]
 subst hx
 cases b<;>rfl
theorem vE {P:Program} {ρ:Operand→Value} {o:Oper} {w:World} {t:TypeId} {x:Operand} {b:Bool} (ho:o.op = .unOp .not t x) (hx:ρ x = .bool b):(execOp ρ o).run P w = .ok (.value (.bool (!b))) w:=by
 unfold execOp
 simp only[ho,hx]
 rfl
theorem Cb {P:Program} {ρ:Operand→Value} {o:Oper} {w:World} {t:TypeId} {x:Operand} {a:Option Addr} {n c:Nat} (ho:o.op = .call { callee:=.builtin .len,args:=#[x],argTypes:=#[t] }) (hx:ρ x = .slice a n c) (ht:P.underlying t=some (.slice (P.elem t))):(execOp ρ o).run P w = .ok (.value (.int .i64 n)) w:=by
 unfold execOp
 simp only[ho]
 simp[hx,resolve,invoke,builtin,run_len_slice _ t o.type a n c ht]
 rfl
theorem xS {P:Program} {ρ:Operand→Value} {o:Oper} {w:World} {t:TypeId} {x:Operand} {f:Nat} {v vx:Value} (ho:o.op = .fieldAddr t x f) (hx:ρ x=vx) (hr:(Instr.fieldAt t vx f).run P w = .ok v w):(execOp ρ o).run P w = .ok (.value v) w:=by
 unfold execOp
 simp only[ho,hx]
 rw[Sem.run_bind,hr]
 rfl
theorem run_load {P:Program} {ρ:Operand→Value} {o:Oper} {w:World} {t:TypeId} {x:Operand} {v vx:Value} (ho:o.op = .load t x) (hx:ρ x=vx) (hr:(Instr.loadAt t vx).run P w = .ok v w):(execOp ρ o).run P w = .ok (.value v) w:=by
 unfold execOp
 simp only[ho,hx]
 rw[Sem.run_bind,hr]
 rfl
def KV (ops:Array Oper) (a0:Act) (l:List iO) (o:Oper) (t:Nat) (v:Value):Prop:=
 (∃k,writer ops t=some k∧o.after.toList.any (fun e=>e.on==k)=true∧l.getD k anyR=nU v)∨(writer ops t=none∧a0.eval (.tmp t)=v)
theorem Om {ops:Array Oper} {a0:Act} {l:List iO} {o:Oper} {t:Nat} {v:Value} (h1:writer ops t=none) (h2:a0.eval (.tmp t)=v):KV ops a0 l o t v:=.inr ⟨h1,h2⟩
def Oh (P:Program) (ops:Array Oper) (a0:Act) (l:List iO) (i:Nat) (o:Oper):Prop:=
 ∀(ρ:Operand→Value) (y:Nat→Value) (w:World),(∀t j,writer ops t=some j→ρ (.tmp t)=y j)→(∀x,(match x with | .tmp t=>writer ops t=none | _=>True)→ρ x=a0.eval x) →
  (∀j,o.after.toList.any (fun e=>e.on==j)=true→rl l j (y j) w)→∃v,(execOp ρ o).run P w = .ok (.value v) w∧rl l i v w
def OkW (ops:Array Oper) (l:List iO) (o:Oper) (b:Bool):Prop:=
 ∀(ρ:Operand→Value) (y:Nat→Value) (w:World),(∀t j,writer ops t=some j→ρ (.tmp t)=y j)→(∀j,o.after.toList.any (fun e=>e.on==j)=true→rl l j (y j) w)→Region.wanted o (ed ρ ops)=b
theorem Oq {ops:Array Oper} {l:List iO} {o:Oper} (hg:o.guard=none):OkW ops l o true:=fun _ _ _ _ _=>ah hg
section
variable {P:Program} {ops:Array Oper} {a0:Act} {w0:World} {l:List iO} {i:Nat} {o:Oper}
theorem KV.at {t:Nat} {v:Value} (h:KV ops a0 l o t v) {ρ:Operand→Value} {y:Nat→Value} {w:World} (hw:∀t j,writer ops t=some j→ρ (.tmp t)=y j) (hn:∀x,(match x with | .tmp t=>writer ops t=none | _=>True)→ρ x=a0.eval x) (hd:∀j,o.after.toList.any (fun e=>e.on==j)=true→rl l j (y j) w):ρ (.tmp t)=v:=by
 rcases h with ⟨k,h1,h2,h3⟩|⟨h1,h2⟩
 ·have h4:=hd k h2
  unfold rl at h4
  rw[h3] at h4
  exact (hw t k h1).trans h4
 ·exact (hn (.tmp t) h1).trans h2
theorem NI {v V:Value} {w:World} (hr:l.getD i anyR=nU V) (e:v=V):rl l i v w:=by unfold rl;rw[hr];exact e
theorem Ou {t:Nat} {V:Value} (ho:o.op = .move (.tmp t)) (hx:KV ops a0 l o t V) (hr:l.getD i anyR=nU V):Oh P ops a0 l i o:=fun ρ y w hw hn hd=>⟨V,run_move (.inl ho) (hx.at hw hn hd),NI hr rfl⟩
theorem Oo (hg:OkW ops l o true) (h:Oh P ops a0 l i o):jC P ops a0 w0 l i o:=fun ρ y w hw hn _ hd=>by
 obtain⟨v,h1,h2⟩:=h ρ y w hw hn hd
 exact aj v (hg ρ y w hw hd) h1 h2
end
theorem gV {α:Type} (enc:α→List Value) (sz:Nat) (hsz:∀x,(enc x).length=sz) (l:List α) (i:Nat) (h:i<l.length) (j:Nat) (hj:j<sz):(l.flatMap enc)[i*sz+j]?=(enc l[i])[j]?:=by
 have e:(enc l[i])[j]?=some ((enc l[i])[j]'(by rw[hsz];exact hj)):=List.getElem?_eq_getElem _
 rw[e]
 exact flat_get enc sz hsz l i h j _ e
theorem BL {α:Type} (enc:α→List Value) (sz:Nat) (hsz:∀x,(enc x).length=sz) (hp:0<sz) (l:List α) (m:Nat) (u:Value) (h:(l.flatMap enc)[m]?=some u) :
  ∃i j,∃hi:i<l.length,m=i*sz+j∧j<sz∧(enc l[i])[j]?=some u:=by
 have hm:m<l.length*sz:=by
  rcases Nat.lt_or_ge m (l.flatMap enc).length with h1|h1
  ·rwa [flat_len enc sz hsz] at h1
  ·rw[List.getElem?_eq_none h1] at h;cases h
 have hj:=Nat.mod_lt m hp
 have hd:=Nat.div_add_mod m sz
 have hi:m / sz<l.length:=Nat.div_lt_of_lt_mul (by rw[Nat.mul_comm];exact hm)
 refine⟨m / sz,m%sz,hi,by rw[Nat.mul_comm];exact hd.symm,hj,?_⟩
 rw[←gV enc sz hsz l _ hi _ hj,Nat.mul_comm,hd]
 exact h
theorem sj {α:Type} (enc:α→List Value) (sz:Nat) (hsz:∀x,(enc x).length=sz) (hp:0<sz) (l:List α) (k:Nat) (hk:k<l.length) (x:α) (off:Nat) (cur:Array Value) (hfit:off+l.length*sz≤cur.size)
  (h:∀j u,(l.flatMap enc)[j]?=some u→cur[off+j]?=some u):∀j u,((l.set k x).flatMap enc)[j]?=some u→(bC cur (off+k*sz) (enc x))[off+j]?=some u:=by
 intro m u hm
 obtain⟨i,j,hi,rfl,hj,e⟩:=BL enc sz hsz hp _ m u hm
 have hi' : i<l.length:=by simpa using hi
 by_cases hik:i=k
 ·subst hik
  rw[show off+(i*sz+j)=(off+i*sz)+j from by omega]
  have h1:(i+1)*sz≤l.length*sz:=Nat.mul_le_mul_right _ hk
  rw[Nat.add_mul] at h1
  exact putAt_in _ _ _ _ _ (by rw[hsz];omega) (by simpa using e)
 ·have hne:off+(i*sz+j)<off+k*sz∨off+k*sz+(enc x).length≤off+(i*sz+j):=by
   rw[hsz]
   rcases Nat.lt_or_gt_of_ne hik with h1|h1
   ·have:=Nat.mul_le_mul_right sz h1
    rw[Nat.succ_mul] at this
    omega
   ·have:=Nat.mul_le_mul_right sz h1
    rw[Nat.succ_mul] at this
    omega
  rw[putAt_out _ _ _ _ hne]
  refine h _ _ ?_
  rw[gV enc sz hsz l i hi' j hj]
  rw[List.getElem_set_ne (fun e=>hik e.symm)] at e
  exact e
theorem Own.put {α:Type} {enc:α→List Value} {sz:Nat} (hsz:∀x,(enc x).length=sz) (hp:0<sz) {w:World} {B:Nat} {e:TypeId} {v:Value} {l:List α} (h:Own w B e sz v l.length (l.flatMap enc)) (k:Nat) (hk:k<l.length) :
  ∃g off cap cur,v = .slice (some ⟨g,off,none⟩) l.length cap∧B≤g∧aF w g cur e∧off+k*sz+sz≤cur.size∧(∀j u,(enc l[k])[j]?=some u→w.cell? ⟨g,off+k*sz+j,none⟩=some u) ∧
   ∀w' x,aF w' g (bC cur (off+k*sz) (enc x)) e→Own w' B e sz v l.length ((l.set k x).flatMap enc):=by
 obtain⟨hl,h⟩:=h
 rcases h with ⟨_,h0⟩|⟨g,off,cap,cur,rfl,hB,hg,hc,hm,hs,ht⟩
 ·omega
 ·have h1:(k+1)*sz≤l.length*sz:=Nat.mul_le_mul_right _ hk
  have h2:l.length*sz≤cap*sz:=Nat.mul_le_mul_right _ hc
  rw[Nat.add_mul] at h1
  refine⟨g,off,cap,cur,rfl,hB,hg,by omega,fun j u hj => ?_,fun w' x hw=>⟨?_,.inr ⟨g,off,cap,_,rfl,hB,hw,hc,hm,by rw[size_putAt];exact hs,?_⟩⟩⟩
  ·rw[hg.cell,Nat.add_assoc]
   refine ht _ _ ?_
   have hj' : j<sz:=by
    rcases Nat.lt_or_ge j sz with h|h
    ·exact h
    ·rw[List.getElem?_eq_none (by rw[hsz];exact h)] at hj;cases hj
   rw[gV enc sz hsz l k hk j hj']
   exact hj
  ·rw[flat_len enc sz hsz,List.length_set]
  ·exact sj enc sz hsz hp l k hk x off cur (by omega) ht
theorem Own.put1 {f:Int→Value} {w:World} {B:Nat} {e:TypeId} {v:Value} {l:List Int} (h:Own w B e 1 v l.length (l.map f)) (k:Nat) (hk:k<l.length) :
  ∃g off cap,v = .slice (some ⟨g,off,none⟩) l.length cap∧B≤g∧g<w.heap.size∧w.cell? ⟨g,off+k,none⟩=some (f l[k])∧w.frozen? ⟨g,off+k,none⟩=false ∧
   ∀x,Own (w.setCell ⟨g,off+k,none⟩ (f x)) B e 1 v l.length ((l.set k x).map f):=by
 rw[←kP] at h
 obtain⟨g,off,cap,cur,rfl,hB,hg,hs,hc,hw⟩:=h.put (sz:=1) (fun _=>rfl) Nat.one_pos k hk
 rw[Nat.mul_one] at hs hc hw
 refine⟨g,off,cap,rfl,hB,hg.lt,by simpa using hc 0 _ rfl,hg.free _,fun x => ?_⟩
 rw[←kP]
 exact hw _ x (by simpa[bC] using hg.setCell (off+k) (f x))
theorem yz {α:Type} (enc:α→List Value) (sz:Nat) (hsz:∀x,(enc x).length=sz) (hp:0<sz) (z:Array Value) (x:α) (hz:z.toList=enc x) (n:Nat):(madeCells z (n*sz)).toList=(List.replicate n x).flatMap enc:=by
 have hzs:z.size=sz:=by rw[←hsz x,←hz];simp
 apply List.ext_getElem
 ·rw[flat_len enc sz hsz];simp[size_madeCells]
 intro m h1 h2
 have hm:m<n*sz:=by simpa[size_madeCells] using h1
 have h3:((List.replicate n x).flatMap enc)[m]?=some ((List.replicate n x).flatMap enc)[m]:=List.getElem?_eq_getElem h2
 obtain⟨i,j,hi,e,hj,he⟩:=BL enc sz hsz hp _ m _ h3
 rw[List.getElem_replicate] at he
 have hmod:m%z.size=j:=by rw[hzs,e,Nat.mul_comm,Nat.mul_add_mod,Nat.mod_eq_of_lt hj]
 simp only[madeCells,Array.toList_map,List.getElem_map,Array.toList_range,List.getElem_range,hmod]
 rw[←hz,Array.getElem?_toList] at he
 rw[Array.getElem!_eq_getD,Array.getD_eq_getD_getElem?,he]
 rfl
theorem yM {P:Program} (w:World) {ops:Array Oper} {rest:List Oper} {o:Oper} {a:Act} {Q:Exit→Act→World→Prop}
  (hg:o.guard=none) (l c:Operand) (t:TypeId) (hop:o.op=Op.makeSlice t l c)
  {α:Type} (enc:α→List Value) (e:TypeId) (z:Value) (size bytes:Nat) (x:α) (hsz:∀x,(enc x).length=size) (hp:0<size) (h1:P.underlying t=some (.slice e)) (h2:(P.info? e).map (fun i=>(i.zero,i.size,i.bytes))=some (some z,size,bytes)) (hz:z.cells.toList=enc x)
  (kl kc:IntKind) (L C:Int) (n:Nat) (hl:a.eval l = .int kl L) (hc:a.eval c = .int kc C) (hL:L=(n:Int)) (hC:C=(n:Int)) (b2:bytes*n≤281474976710656) (b3:n≤maxLen)
  (hK:∀w',Own w' w.heap.size e size (.slice (some ⟨w.heap.size,0,none⟩) n n) n ((List.replicate n x).flatMap enc)→w.grownBy w' none→wpList P ops Q rest (a.put o.dst (.slice (some ⟨w.heap.size,0,none⟩) n n)) w') :
  wpList P ops Q (o::rest) a w:=by
 obtain⟨i,hi,hzz,hs,hb⟩:=info_parts h2
 refine wpList_make_full w hg l c t hop w.heap.size e i z size h1 hi hzz hs kl kc L C n hl hc hL hC (by rw[hb];exact b2) b3 (Nat.le_refl _) fun w' ho hgr=>hK w' ?_ hgr
 rw[yz enc size hsz hp z.cells x hz] at ho
 exact Own.of_owns ho
theorem own_ne {w:World} {B:Nat} {e:TypeId} {sz:Nat} {v:Value} {n:Nat} {xs:List Value} (h:Own w B e sz v n xs) {g:Nat} {cs:Array Value} {T:TypeId} (hk:aF w g cs T) (hT:T≠e):∀g',v.ownBlock=some g'→some g≠some g':=by
 intro g' hg' he
 cases he
 rcases h.2 with ⟨rfl,_⟩|⟨g2,off,cap,cur,rfl,_,hb,_⟩
 ·cases hg'
 ·cases hg'
  unfold aF at hk hb
  rw[hk] at hb
  simp only[Option.some.injEq,Obj.cells.injEq] at hb
  exact hT hb.2.1
theorem ak {w w' : World} {B:Nat} {e:TypeId} {sz:Nat} {v:Value} {n:Nat} {xs:List Value} (h:Own w B e sz v n xs) {g:Nat} {cs:Array Value} {T:TypeId} (hk:aF w g cs T) (hT:T≠e) (hgr:w.grownBy w' (some g)):Own w' B e sz v n xs:=
 h.grown hgr (own_ne h hk hT)
def il (B:Nat) (e:TypeId) (sz n:Nat) (xs:List Value):iO:=⟨fun v w=>Own w B e sz v n xs,fun _ _ _ hb h=>h.below hb⟩
theorem fo {w:World} {X:Array Value} {TX:TypeId} (m:World→Prop) (h:∀W,Below w.heap.size w W→aF W w.heap.size X TX→W.heap.size=w.heap.size+1→m W):m (w.alloc (.cells X TX)):=
 h _ ((Below.refl _ _).alloc (Nat.le_refl _) _) (aF.new _ _ _) (by simp)
theorem mg {w:World} {X Y:Array Value} {TX TY:TypeId} (m:World→Prop) (h:∀W,Below w.heap.size w W→aF W w.heap.size X TX→aF W (w.heap.size+1) Y TY→W.heap.size=w.heap.size+2→m W) :
  m ((w.alloc (.cells X TX)).alloc (.cells Y TY)):=by
 refine fo (fun W=>m (W.alloc (.cells Y TY))) fun W1 hb hx hs => ?_
 refine fo m fun W2 hb2 hy hs2 => ?_
 rw[hs] at hy hs2
 exact h W2 (ae hb hb2) (hx.ext hb2) hy (by omega)
theorem Lu {w:World} {X Y Z:Array Value} {TX TY TZ:TypeId} (m:World→Prop) (h:∀W,Below w.heap.size w W→aF W w.heap.size X TX→aF W (w.heap.size+1) Y TY→aF W (w.heap.size+2) Z TZ→W.heap.size=w.heap.size+3→m W) :
  m (((w.alloc (.cells X TX)).alloc (.cells Y TY)).alloc (.cells Z TZ)):=by
 refine mg (fun W=>m (W.alloc (.cells Z TZ))) fun W1 hb hx hy hs => ?_
 refine fo m fun W2 hb2 hz hs2 => ?_
 rw[hs] at hz hs2
 exact h W2 (ae hb hb2) (hx.ext hb2) (hy.ext hb2) hz (by omega)
theorem ji {P:Program} {ops:Array Oper} {ρ:Operand→Value} {o:Oper} {w w' : World} {l:List iO} {i:Nat} (v:Value) (hw:Region.wanted o (ed ρ ops)=true) (hrun:(execOp ρ o).run P w = .ok (.value v) w') (hb:Below w.heap.size w w') (hR:rl l i v w') :
  if Region.wanted o (ed ρ ops)=true then cz P o ρ w (fun v w'=>Below w.heap.size w w'∧rl l i v w') else rl l i undef w:=by
 rw[if_pos hw]
 unfold cz
 rw[hrun]
 exact⟨hb,hR⟩
theorem fO {w w' : World} (h:w.grownBy w' none):Below w.heap.size w w':=(Below.refl _ _).grown h (Nat.le_refl _) (fun k hk=>by cases hk)
theorem Own.empty (w:World) {B:Nat} (T:TypeId) {sz:Nat} (hB:B≤w.heap.size):Own (w.alloc (.cells #[] T)) B T sz (.slice (some ⟨w.heap.size,0,none⟩) 0 0) 0 []:=
 ⟨by simp,.inr ⟨w.heap.size,0,0,#[],rfl,hB,aF.new _ _ _,Nat.le_refl _,Nat.zero_le _,by simp,fun j u h=>by simp at h⟩⟩
def NL (ops:Array Oper) (m:Nat) (R:Nat→Value→World→Prop) (a0:Act) (w0:World) (listed:Array Bool) (a:Act) (w:World):Prop:=
 (∀i,m≤i→listed.getD i false=false)∧(∀i o,ops[i]?=some o→listed.getD i false=true→∀e∈o.after,listed.getD e.on false=true)∧∃y:Nat→Value,a = { a0 with tmps:=lay (fun i=>listed.getD i false) y ops.toList 0 a0.tmps }∧Below w0.heap.size w0 w∧∀i,i<ops.size→listed.getD i false=true→R i (y i) w
def pU (ops:Array Oper):Nat→Nat→List Nat
 | 0,_=>[]
 | f+1,i=>match ops[i]? with
  | none=>[]
  | some o=>o.after.toList.flatMap fun e=>e.on::pU ops f e.on
def eO (ops:Array Oper) (m:Nat):Bool:=
 (List.range ops.size).all fun i=>decide (i<m)||(List.range i).all fun j=>(pU ops ops.size i).contains j
theorem nL {ops:Array Oper} {listed:Array Bool} (hc:∀i o,ops[i]?=some o→listed.getD i false=true→∀e∈o.after,listed.getD e.on false=true):∀(f i:Nat),(∀o,ops[i]?=some o→∀e∈o.after,listed.getD e.on false=true)→∀j∈pU ops f i,listed.getD j false=true
 | 0,_,_,j,hj=>by simp[pU] at hj
 | f+1,i,h,j,hj=>by
  unfold pU at hj
  cases ho:ops[i]? with
  | none=>simp[ho] at hj
  | some o=>
   simp only[ho,List.mem_flatMap] at hj
   obtain⟨e,he,hj⟩:=hj
   have he':=Array.mem_toList_iff.1 he
   rcases List.mem_cons.1 hj with rfl|hj
   ·exact h o ho e he'
   ·exact nL hc f e.on (fun o' ho'=>hc e.on o' ho' (h o ho e he')) j hj
theorem jW {ops:Array Oper} {m:Nat} (h:eO ops m=true) {listed:Array Bool} (hc:∀i o,ops[i]?=some o→listed.getD i false=true→∀e∈o.after,listed.getD e.on false=true) {i:Nat} {o:Oper} (hi:ops[i]?=some o) (hL:∀e∈o.after,listed.getD e.on false=true) (hm:m≤i) (j:Nat) (hj:j<i):listed.getD j false=true:=by
 have hlt:i<ops.size:=(Array.getElem?_eq_some_iff.1 hi).1
 have h1:=List.all_eq_true.1 h i (List.mem_range.2 hlt)
 simp only[Bool.or_eq_true,decide_eq_true_eq] at h1
 rcases h1 with h1|h1
 ·omega
 ·have h2:=List.all_eq_true.1 h1 j (List.mem_range.2 hj)
  refine nL hc ops.size i (fun o' ho' => ?_) j (by simpa using h2)
  rw[hi] at ho'
  cases ho'
  exact hL
theorem iF {P:Program} {ops:Array Oper} {Q:Exit→Act→World→Prop} {m:Nat} (hok:fE ops=true) (ht:eO ops m=true):∀(fuel k:Nat) (listed:Array Bool) (a:Act) (w:World),
  m≤k→k≤ops.size→ops.size-k≤fuel→listed.size=ops.size→(∀i,i<ops.size→listed.getD i false=decide (i<k))→wpList P ops Q (ops.toList.drop k) a w→wpAny P .any ops Q fuel listed a w:=by
 intro fuel
 induction fuel with
 | zero=>
  intro k listed a w hmk hk hf hsz hL h
  obtain rfl:k=ops.size:=by omega
  refine⟨?_,?_⟩
  ·rw[List.eq_nil_iff_forall_not_mem]
   intro i hi
   obtain⟨h1,o,ho,_⟩:=mem_ready.1 hi
   have hlt:i<ops.size:=(Array.getElem?_eq_some_iff.1 ho).1
   have:=hL i hlt
   simp[Array.getD_eq_getD_getElem?,show i<listed.size by omega] at h1 this
   rw[h1] at this
   simp[hlt] at this
  ·rw[List.drop_eq_nil_of_le (by simp)] at h
   simpa[wpList] using h
 | succ fuel ih=>
  intro k listed a w hmk hk hf hsz hL h
  have only:∀i∈Region.ready .any ops listed,i=k:=by
   intro i hi
   obtain⟨h1,o,ho,hdeps⟩:=mem_ready.1 hi
   have hlt:i<ops.size:=(Array.getElem?_eq_some_iff.1 ho).1
   have h2:=hL i hlt
   have h3:listed.getD i false=false:=by
    simp[Array.getD_eq_getD_getElem?,show i<listed.size by omega] at h1 ⊢
    exact h1
   rw[h3] at h2
   have hki:k≤i:=by
    have:=h2.symm
    simpa using this
   rcases Nat.lt_or_ge k i with hlt' | hge
   ·exfalso
    have h4:listed.getD k false=true:=jW ht (fun i' o' ho' hl' e he=>by
     have hi' : i' < ops.size:=(Array.getElem?_eq_some_iff.1 ho').1
     have h8:=(dx hok ho').2.1 e he
     rw[hL i' hi'] at hl'
     have h9:i' < k:=by simpa using hl'
     rw[hL e.on (by omega)]
     simp;omega) ho (fun e he=>hdeps e he ((dx hok ho).2.1 e he).1) (by omega) k hlt'
    have h5:=hL k (by omega)
    rw[h4] at h5
    simp at h5
   ·omega
  refine⟨fun hready => ?_,fun i hi => ?_⟩
  ·rcases Nat.lt_or_ge k ops.size with hlt|hge
   ·exfalso
    have:k∈Region.ready .any ops listed:=by
     rw[mem_ready]
     refine⟨?_,ops[k],by simp[hlt],fun e he hb => ?_⟩
     ·have:=hL k hlt
      simp[Array.getD_eq_getD_getElem?,show k<listed.size by omega] at this ⊢
      exact this
     ·have h6:=(dx hok (i:=k) (o:=ops[k]) (by simp[hlt])).2.1 e he
      rw[hL e.on (by omega)]
      simp[h6.2]
    rw[hready] at this
    cases this
   ·rw[List.drop_eq_nil_of_le (by simpa using hge)] at h
    simpa[wpList] using h
  ·obtain rfl:=only i hi
   obtain⟨_,o,ho,_⟩:=mem_ready.1 hi
   have hlt:i<ops.size:=(Array.getElem?_eq_some_iff.1 ho).1
   have hdrop:ops.toList.drop i=o::ops.toList.drop (i+1):=by
    rw[List.drop_eq_getElem_cons (by simpa using hlt)]
    congr 1
    have:=(Array.getElem?_eq_some_iff.1 ho).2
    simpa using this
   rw[hdrop] at h
   have hw:wpOp P ops Q i (wpList P ops Q (ops.toList.drop (i+1))) a w:=by
    unfold wpOp
    simp only[ho]
    simpa[wpList] using h
   refine wpOp_mono (fun a' w' h'=>ih (i+1) _ a' w' (by omega) (by omega) (by omega) (by simp[hsz]) (fun j hj => ?_) h') hw
   by_cases hji:j=i
   ·subst hji
    simp[Array.getD_eq_getD_getElem?,show j<listed.size by omega]
   ·have:=hL j hj
    simp only[Array.getD_eq_getD_getElem?,Array.getElem?_setIfInBounds_ne (Ne.symm hji)] at this ⊢
    rw[this]
    congr 1
    simp
    omega
theorem uZ {P:Program} {ops:Array Oper} {Q:Exit→Act→World→Prop} {id:Nat} {a0:Act} {w0:World} (m:Nat) (hm:P.follows .mixedOrders=true) (hok:fE ops=true) (ht:eO ops m=true) (hmn:m≤ops.size)
  (R:Nat→Value→World→Prop) (hstab:∀i v w w',Below w.heap.size w w'→R i v w→R i v w')
  (hstep:∀i o,i<m→ops[i]?=some o→∀y w,Below w0.heap.size w0 w→(∀j,o.after.toList.any (fun e=>e.on==j)=true→R j (y j) w) →
   if Region.wanted o (yielded ops (lay (fun _=>true) y ops.toList 0 a0.tmps))=true then Gives P o { a0 with tmps:=lay (fun _=>true) y ops.toList 0 a0.tmps } w (fun v w'=>Below w.heap.size w w'∧R i v w') else R i undef w)
  (hend:∀y w,Below w0.heap.size w0 w→(∀i,i<m→R i (y i) w)→wpList P ops Q (ops.toList.drop m) { a0 with tmps:=lay (fun i=>decide (i<m)) y ops.toList 0 a0.tmps } w) :
  (Code.region id ops true).wp P Q a0 w0:=by
 have hall:∀(fuel:Nat) (listed:Array Bool) (a:Act) (w:World),listed.size=ops.size→listed.toList.countP (!·)≤fuel→NL ops m R a0 w0 listed a w→wpAny P .any ops Q fuel listed a w:=by
  intro fuel
  induction fuel with
  | zero=>
   intro listed a w hsz hc hA
   have hl:∀i,i<ops.size→listed.getD i false=true:=by
    intro i hlt
    have h0:listed.toList.countP (!·)=0:=by omega
    have:=List.countP_eq_zero.1 h0 (listed[i]'(by omega)) (by simp)
    simpa[Array.getD_eq_getD_getElem?,show i<listed.size by omega] using this
   obtain⟨hno,hcl,y,ha,hb,hR⟩:=hA
   have hmn' : m=ops.size:=by
    rcases Nat.lt_or_ge m ops.size with h|h
    ·have h1:=hl m h
     rw[hno m (Nat.le_refl _)] at h1
     cases h1
    ·omega
   refine iF (m:=m) hok ht 0 ops.size listed a w (by omega) (Nat.le_refl _) (by omega) hsz (fun i hi=>by rw[hl i hi];simp[hi]) ?_
   have:=hend y w hb fun i hi=>hR i (by omega) (hl i (by omega))
   rw[ha,gU (fun i=>listed.getD i false) (fun i=>decide (i<m)) y ops.toList 0 a0.tmps (fun k hk=>by
    have hk' : k<ops.size:=by simpa using hk
    simp only[Nat.zero_add]
    rw[hl k hk']
    simp;omega)]
   rw[hmn'] at this ⊢
   exact this
  | succ fuel ih=>
   intro listed a w hsz hc hA
   by_cases hfull:∀i,i<m→listed.getD i false=true
   ·obtain⟨hno,hcl,y,ha,hb,hR⟩:=hA
    have hL:∀i,i<ops.size→listed.getD i false=decide (i<m):=by
     intro i hi
     by_cases him:i<m
     ·rw[hfull i him];simp[him]
     ·rw[hno i (by omega)];simp[him]
    have hcount:ops.size-m≤fuel+1:=by
     have h1:listed.toList.countP (!·)=ops.size-m:=by
      have e:listed.toList=List.replicate m true++List.replicate (ops.size-m) false:=by
       apply List.ext_getElem?
       intro i
       by_cases hi:i<ops.size
       ·have h2:=hL i hi
        rw[Array.getElem?_toList,Array.getElem?_eq_getElem (show i<listed.size by omega)]
        simp only[Array.getD_eq_getD_getElem?,Array.getElem?_eq_getElem (show i<listed.size by omega),Option.getD_some] at h2
        rw[h2]
        by_cases him:i<m
        ·rw[List.getElem?_append_left (by simpa using him)]
         simp[him]
        ·rw[List.getElem?_append_right (by simp;omega)]
         rw[List.length_replicate,List.getElem?_replicate,if_pos (by omega)]
         simp[him]
       ·rw[List.getElem?_eq_none (by simp;omega),List.getElem?_eq_none (by simp;omega)]
      rw[e]
      simp[List.countP_append,List.countP_replicate]
     omega
    refine iF (m:=m) hok ht (fuel+1) m listed a w (Nat.le_refl _) hmn hcount hsz hL ?_
    have:=hend y w hb fun i hi=>hR i (by omega) (hfull i hi)
    rw[ha,gU (fun i=>listed.getD i false) (fun i=>decide (i<m)) y ops.toList 0 a0.tmps (fun k hk=>by
     simp only[Nat.zero_add]
     exact hL k (by simpa using hk))]
    exact this
   ·have hready0:Region.ready .any ops listed≠[]:=by
     intro hready
     apply hfull
     intro i
     induction i using Nat.strongRecOn with
     | ind i ih'=>
      intro him
      by_cases hc' : listed.getD i false=true
      ·exact hc'
      ·exfalso
       have hi:i<ops.size:=by omega
       have hmem:i∈Region.ready .any ops listed:=by
        rw[mem_ready]
        refine⟨?_,ops[i],by simp[hi],fun e he _ => ?_⟩
        ·simpa[Array.getD_eq_getD_getElem?,show i<listed.size by omega] using hc'
        ·have:=(dx hok (i:=i) (o:=ops[i]) (by simp[hi])).2.1 e he
         exact ih' e.on this.2 (by omega)
       rw[hready] at hmem
       cases hmem
    refine⟨fun h=>absurd h hready0,fun i hi => ?_⟩
    obtain⟨h1,o,ho,hdeps⟩:=mem_ready.1 hi
    have hlt:i<ops.size:=(Array.getElem?_eq_some_iff.1 ho).1
    obtain⟨hsel,hbinds,_⟩:=dx hok ho
    have hL:∀e∈o.after,listed.getD e.on false=true:=fun e he=>hdeps e he (hbinds e he).1
    have him:i<m:=by
     rcases Nat.lt_or_ge i m with h|h
     ·exact h
     ·exfalso
      apply hfull
      intro j hj
      exact jW ht hA.2.1 ho hL h j (by omega)
    obtain⟨hno,hcl,y,ha,hb,hR⟩:=hA
    have hnext:∀v w',Below w.heap.size w w'→R i v w'→wpAny P .any ops Q fuel (listed.setIfInBounds i true) (a.put o.dst v) w':=by
     intro v w' hbw hv
     refine ih _ _ _ (by simp[hsz]) ?_ ⟨fun k hk => ?_,fun k o' ho' hk e he => ?_,fun k=>if k=i then v else y k,?_,hb.trans (hbw.mono hb.size),?_⟩
     ·have hil:i<listed.toList.length:=by simp;omega
      have hfalse:listed.toList[i]=false:=by
       simpa[Array.getD_eq_getD_getElem?,show i<listed.size by omega] using h1
      have:=List.countP_set (p:=(!·)) (l:=listed.toList) (i:=i) (a:=true) hil
      rw[hfalse] at this
      have hpos:0<listed.toList.countP (!·):=List.countP_pos_iff.2 ⟨listed.toList[i],List.getElem_mem hil,by rw[hfalse];rfl⟩
      simp only[Array.toList_setIfInBounds]
      simp only[Bool.not_false,Bool.not_true,if_true,Bool.false_eq_true,if_false] at this
      omega
     ·have:=hno k hk
      simp only[Array.getD_eq_getD_getElem?,Array.getElem?_setIfInBounds_ne (show i≠k by omega)] at this ⊢
      exact this
     ·have up:∀q,listed.getD q false=true→(listed.setIfInBounds i true).getD q false=true:=by
       intro q hq
       by_cases hqi:q=i
       ·subst hqi;simp[Array.getD_eq_getD_getElem?,show q<listed.size by omega]
       ·simpa[Array.getD_eq_getD_getElem?,Array.getElem?_setIfInBounds_ne (Ne.symm hqi)] using hq
      apply up
      by_cases hki:k=i
      ·subst hki
       rw[ho] at ho'
       cases ho'
       exact hL e he
      ·exact hcl k o' ho' (by simpa[Array.getD_eq_getD_getElem?,Array.getElem?_setIfInBounds_ne (Ne.symm hki)] using hk) e he
     ·rw[ha,sH hok ho hsz v]
     ·intro k hk hLk
      by_cases hki:k=i
      ·subst hki;simpa using hv
      ·have:listed.getD k false=true:=by
        simpa[Array.getD_eq_getD_getElem?,Array.getElem?_setIfInBounds_ne (Ne.symm hki)] using hLk
       simp only[hki,if_false]
       exact hstab _ _ _ _ hbw (hR k hk this)
    have heval:∀t∈o.looksAt ops,a.tmps[t]?=(lay (fun _=>true) y ops.toList 0 a0.tmps)[t]?:=fun t ht=>by
     rw[ha];exact mU hok ho hL t ht
    have hexec:execOp a.eval o=execOp ({ a0 with tmps:=lay (fun _=>true) y ops.toList 0 a0.tmps }:Act).eval o:=by
     refine execOp_congr o hsel fun x hx => ?_
     cases x with
     | tmp t=>
      have:=heval t (List.mem_append_left _ (List.mem_filterMap.2 ⟨.tmp t,by simpa using hx,rfl⟩))
      simp[Act.eval,this]
     | _=>rfl
    have hwant:Region.wanted o (yielded ops a.tmps)=Region.wanted o (yielded ops (lay (fun _=>true) y ops.toList 0 a0.tmps)):=by
     unfold Region.wanted
     cases hg:o.guard with
     | none=>rfl
     | some gw=>
      obtain⟨g,want⟩:=gw
      have:yielded ops a.tmps g=yielded ops (lay (fun _=>true) y ops.toList 0 a0.tmps) g:=by
       unfold yielded
       cases hd:(ops[g]?).bind (·.dst) with
       | none=>rfl
       | some t=>
        have:=heval t (List.mem_append_right _ (by simp[hg,hd]))
        simp[this]
      simp only[this]
    have hs:=hstep i o him ho y w hb (fun j hj=>by
     obtain⟨e,he,hej⟩:=List.any_eq_true.1 hj
     have hej' : e.on=j:=by simpa using hej
     subst hej'
     have he':=Array.mem_toList_iff.1 he
     exact hR e.on (by have:=(hbinds e he').2;omega) (hL e he'))
    by_cases hwt:Region.wanted o (yielded ops (lay (fun _=>true) y ops.toList 0 a0.tmps))=true
    ·rw[if_pos hwt] at hs
     exact je ho (by rw[hwant];exact hwt) hexec hs fun v w' h=>hnext v w' h.1 h.2
    ·rw[if_neg hwt] at hs
     unfold wpOp
     simp only[ho]
     rw[if_neg (by rw[hwant];exact hwt)]
     exact hnext undef w (Below.refl _ _) hs
 refine wp_region_any hm (hall ops.size _ _ _ (by simp) ?_ ⟨fun i _ => ?_,fun i o' ho' hi => ?_,fun _=>undef,?_,?_,?_⟩)
 ·simpa using List.countP_le_length (p:=(!·)) (l:=List.replicate ops.size false)
 ·simp[Array.getD_eq_getD_getElem?,Array.getElem?_replicate];split<;>rfl
 ·exfalso
  have:i<ops.size:=(Array.getElem?_eq_some_iff.1 ho').1
  simp[Array.getD_eq_getD_getElem?,this] at hi
 ·have e:lay (fun i=>(Array.replicate ops.size false).getD i false) (fun _=>undef) ops.toList 0 a0.tmps=a0.tmps:=by
   apply Array.ext_getElem?
   intro s
   exact eG _ _ s _ 0 _ fun k o' hk hd=>by simp[Array.getD_eq_getD_getElem?,Array.getElem?_replicate];split<;>rfl
  rw[e]
 ·exact⟨rfl,rfl,rfl,Nat.le_refl _,fun _ _=>rfl⟩
 ·intro i hi hL
  simp[Array.getD_eq_getD_getElem?,hi] at hL
theorem JS {P:Program} {ops:Array Oper} {Q:Exit→Act→World→Prop} {id:Nat} {a0:Act} {w0:World} (m:Nat) (l:List iO) (hm:P.follows .mixedOrders=true) (hok:fE ops=true) (ht:eO ops m=true) (hmn:m≤ops.size)
  (n:Nat) (hn:a0.tmps.size=n) (hsz:fU ops n=true)
  (hstep:aP (jC P ops a0 w0 l) 0 (ops.toList.take m))
  (hend:∀y w,Below w0.heap.size w0 w→(∀i,i<m→rl l i (y i) w)→wpList P ops Q (ops.toList.drop m) { a0 with tmps:=lay (fun i=>decide (i<m)) y ops.toList 0 a0.tmps } w) :
  (Code.region id ops true).wp P Q a0 w0:=by
 refine uZ m hm hok ht hmn (rl l) (fun i v w w' hb h=>(l.getD i anyR).st v w w' hb h) (fun i o him hi y w hb hd => ?_) hend
 have hwr:∀t j,writer ops t=some j→({ a0 with tmps:=lay (fun _=>true) y ops.toList 0 a0.tmps }:Act).eval (.tmp t)=y j:=by
  intro t j hw
  unfold writer at hw
  have h1:=List.find?_some hw
  have h2:=List.mem_range.1 (List.mem_of_find?_eq_some hw)
  cases ho:ops[j]? with
  | none=>simp[ho] at h1
  | some p=>
   have hd' : p.dst=some t:=by simpa[ho] using h1
   have hlt:t<a0.tmps.size:=by
    have:=List.all_eq_true.1 hsz p (Array.mem_toList_iff.2 (Array.mem_of_getElem? ho))
    rw[hn]
    simpa[hd'] using this
   have hu:∀k' o',ops.toList[k']?=some o'→o'.dst=some t→k' = j:=by
    intro k' o' hk' hdk
    rcases ((dx hok (i:=k') (o:=o') (by simpa using hk')).2.2 j p t ho hd').1 with h|h
    ·exact h
    ·exact absurd hdk h
   have:=iA (fun _=>true) y t ops.toList 0 a0.tmps j p (by simpa using ho) hd' rfl hu hlt
   simp[Act.eval,this]
 have hno:∀x,(match x with | .tmp t=>writer ops t=none | _=>True)→({ a0 with tmps:=lay (fun _=>true) y ops.toList 0 a0.tmps }:Act).eval x=a0.eval x:=by
  intro x hx
  cases x with
  | tmp t=>
   have:(lay (fun _=>true) y ops.toList 0 a0.tmps)[t]?=a0.tmps[t]?:=by
    refine eG _ y t _ 0 _ fun k o' hk hd' => ?_
    exfalso
    simp only[writer] at hx
    have hk' : ops[k]?=some o':=by simpa using hk
    have hklt:k<ops.size:=(Array.getElem?_eq_some_iff.1 hk').1
    have:=List.find?_eq_none.1 hx k (List.mem_range.2 hklt)
    simp[hk',hd'] at this
   simp[Act.eval,this]
  | _=>rfl
 have hsays:Region.wanted o (yielded ops (lay (fun _=>true) y ops.toList 0 a0.tmps))=Region.wanted o (ed ({ a0 with tmps:=lay (fun _=>true) y ops.toList 0 a0.tmps }:Act).eval ops):=by
  congr 1
  funext g
  unfold yielded ed
  cases (ops[g]?).bind (·.dst) with
  | none=>rfl
  | some d=>
   simp only[Option.bind_some,Act.eval,Array.getD_eq_getD_getElem?]
   generalize (lay (fun _=>true) y ops.toList 0 a0.tmps)[d]?=q
   cases q with
   | none=>rfl
   | some v=>cases v<;>rfl
 have hi' : (ops.toList.take m)[i]?=some o:=by rw[List.getElem?_take,if_pos him];simpa using hi
 have:=aP.at hstep i o hi' _ y w hwr hno hb hd
 rw[Nat.zero_add] at this
 rw[hsays]
 exact this
def Fixed:List iO→Prop
 | []=>True
 | R::l=>(∀v w w',R.r v w→R.r v w')∧Fixed l
theorem fix_nil:Fixed []:=trivial
theorem xM {R:iO} {l:List iO} (h:∀v w w',R.r v w→R.r v w') (hl:Fixed l):Fixed (R::l):=⟨h,hl⟩
theorem Fixed.at:∀ {l:List iO},Fixed l→∀i v w w',rl l i v w→rl l i v w'
 | [],_,_,_,_,_,_=>by unfold rl;simp[anyR]
 | R::l,h,0,v,w,w',hr=>by unfold rl at hr ⊢; simpa using h.1 v w w' (by simpa using hr)
 | R::l,h,i+1,v,w,w',hr=>by
  have:=Fixed.at h.2 i v w w'
  unfold rl at hr this ⊢
  simp only[List.getD_cons_succ] at hr ⊢
  exact this hr
def aQ (F:Value→Prop):iO:=⟨fun v _=>F v,fun _ _ _ _ h=>h⟩
def cK (y:Nat→Value) (i:Nat) (v:Value):Nat→Value:=fun k=>if k=i then v else y k
def NG (ops:Array Oper) (m:Nat) (R:Nat→Value→World→Prop) (a0:Act) (J:(Nat→Bool)→(Nat→Value)→World→Prop) (listed:Array Bool) (a:Act) (w:World):Prop:=
 (∀i,m≤i→listed.getD i false=false)∧(∀i o,ops[i]?=some o→listed.getD i false=true→∀e∈o.after,listed.getD e.on false=true)∧∃y:Nat→Value,a = { a0 with tmps:=lay (fun i=>listed.getD i false) y ops.toList 0 a0.tmps }∧J (fun i=>listed.getD i false) y w∧∀i,i<ops.size→listed.getD i false=true→R i (y i) w
theorem Fv {P:Program} {ops:Array Oper} {Q:Exit→Act→World→Prop} {a0:Act} {w0:World} (m:Nat) (hok:fE ops=true) (ht:eO ops m=true) (hmn:m≤ops.size)
  (R:Nat→Value→World→Prop) (J:(Nat→Bool)→(Nat→Value)→World→Prop) (hJ0:∀y,J (fun _=>false) y w0.drew) (hstab:∀i v w w',R i v w→R i v w')
  (hstep:∀i o,i<m→ops[i]?=some o→∀L y w,L i=false→(∀j,o.after.toList.any (fun e=>e.on==j)=true→L j=true)→J L y w→(∀j,o.after.toList.any (fun e=>e.on==j)=true→R j (y j) w) →
   if Region.wanted o (yielded ops (lay (fun _=>true) y ops.toList 0 a0.tmps))=true then Gives P o { a0 with tmps:=lay (fun _=>true) y ops.toList 0 a0.tmps } w (fun v w'=>J (bO L i) (cK y i v) w'∧R i v w') else J (bO L i) (cK y i undef) w∧R i undef w)
  (hend:∀y w,J (fun i=>decide (i<m)) y w→(∀i,i<m→R i (y i) w)→wpList P ops Q (ops.toList.drop m) { a0 with tmps:=lay (fun i=>decide (i<m)) y ops.toList 0 a0.tmps } w) :
  wpAny P .any ops Q ops.size (Array.replicate ops.size false) a0 w0.drew:=by
 have hall:∀(fuel:Nat) (listed:Array Bool) (a:Act) (w:World),listed.size=ops.size→listed.toList.countP (!·)≤fuel→NG ops m R a0 J listed a w→wpAny P .any ops Q fuel listed a w:=by
  intro fuel
  induction fuel with
  | zero=>
   intro listed a w hsz hc hA
   have hl:∀i,i<ops.size→listed.getD i false=true:=by
    intro i hlt
    have h0:listed.toList.countP (!·)=0:=by omega
    have:=List.countP_eq_zero.1 h0 (listed[i]'(by omega)) (by simp)
    simpa[Array.getD_eq_getD_getElem?,show i<listed.size by omega] using this
   obtain⟨hno,hcl,y,ha,hb,hR⟩:=hA
   have hmn' : m=ops.size:=by
    rcases Nat.lt_or_ge m ops.size with h|h
    ·have h1:=hl m h
     rw[hno m (Nat.le_refl _)] at h1
     cases h1
    ·omega
   refine iF (m:=m) hok ht 0 ops.size listed a w (by omega) (Nat.le_refl _) (by omega) hsz (fun i hi=>by rw[hl i hi];simp[hi]) ?_
   have hfe:(fun i=>listed.getD i false)=fun i=>decide (i<m):=by
    funext i
    by_cases hi:i<m
    ·rw[hl i (by omega)];simp[hi]
    ·rw[hno i (by omega)];simp[hi]
   rw[hfe] at hb
   have:=hend y w hb fun i hi=>hR i (by omega) (hl i (by omega))
   rw[ha,gU (fun i=>listed.getD i false) (fun i=>decide (i<m)) y ops.toList 0 a0.tmps (fun k hk=>by
    have hk' : k<ops.size:=by simpa using hk
    simp only[Nat.zero_add]
    rw[hl k hk']
    simp;omega)]
   rw[hmn'] at this ⊢
   exact this
  | succ fuel ih=>
   intro listed a w hsz hc hA
   by_cases hfull:∀i,i<m→listed.getD i false=true
   ·obtain⟨hno,hcl,y,ha,hb,hR⟩:=hA
    have hL:∀i,i<ops.size→listed.getD i false=decide (i<m):=by
     intro i hi
     by_cases him:i<m
     ·rw[hfull i him];simp[him]
     ·rw[hno i (by omega)];simp[him]
    have hcount:ops.size-m≤fuel+1:=by
     have h1:listed.toList.countP (!·)=ops.size-m:=by
      have e:listed.toList=List.replicate m true++List.replicate (ops.size-m) false:=by
       apply List.ext_getElem?
       intro i
       by_cases hi:i<ops.size
       ·have h2:=hL i hi
        rw[Array.getElem?_toList,Array.getElem?_eq_getElem (show i<listed.size by omega)]
        simp only[Array.getD_eq_getD_getElem?,Array.getElem?_eq_getElem (show i<listed.size by omega),Option.getD_some] at h2
        rw[h2]
        by_cases him:i<m
        ·rw[List.getElem?_append_left (by simpa using him)]
         simp[him]
        ·rw[List.getElem?_append_right (by simp;omega)]
         rw[List.length_replicate,List.getElem?_replicate,if_pos (by omega)]
         simp[him]
       ·rw[List.getElem?_eq_none (by simp;omega),List.getElem?_eq_none (by simp;omega)]
      rw[e]
      simp[List.countP_append,List.countP_replicate]
     omega
    refine iF (m:=m) hok ht (fuel+1) m listed a w (Nat.le_refl _) hmn hcount hsz hL ?_
    have hfe:(fun i=>listed.getD i false)=fun i=>decide (i<m):=by
     funext i
     by_cases hi:i<m
     ·rw[hfull i hi];simp[hi]
     ·rw[hno i (by omega)];simp[hi]
    rw[hfe] at hb
    have:=hend y w hb fun i hi=>hR i (by omega) (hfull i hi)
    rw[ha,gU (fun i=>listed.getD i false) (fun i=>decide (i<m)) y ops.toList 0 a0.tmps (fun k hk=>by
     simp only[Nat.zero_add]
     exact hL k (by simpa using hk))]
    exact this
   ·have hready0:Region.ready .any ops listed≠[]:=by
     intro hready
     apply hfull
     intro i
     induction i using Nat.strongRecOn with
     | ind i ih'=>
      intro him
      by_cases hc' : listed.getD i false=true
      ·exact hc'
      ·exfalso
       have hi:i<ops.size:=by omega
       have hmem:i∈Region.ready .any ops listed:=by
        rw[mem_ready]
        refine⟨?_,ops[i],by simp[hi],fun e he _ => ?_⟩
        ·simpa[Array.getD_eq_getD_getElem?,show i<listed.size by omega] using hc'
        ·have:=(dx hok (i:=i) (o:=ops[i]) (by simp[hi])).2.1 e he
         exact ih' e.on this.2 (by omega)
       rw[hready] at hmem
       cases hmem
    refine⟨fun h=>absurd h hready0,fun i hi => ?_⟩
    obtain⟨h1,o,ho,hdeps⟩:=mem_ready.1 hi
    have hlt:i<ops.size:=(Array.getElem?_eq_some_iff.1 ho).1
    obtain⟨hsel,hbinds,_⟩:=dx hok ho
    have hL:∀e∈o.after,listed.getD e.on false=true:=fun e he=>hdeps e he (hbinds e he).1
    have him:i<m:=by
     rcases Nat.lt_or_ge i m with h|h
     ·exact h
     ·exfalso
      apply hfull
      intro j hj
      exact jW ht hA.2.1 ho hL h j (by omega)
    obtain⟨hno,hcl,y,ha,hb,hR⟩:=hA
    have hnext:∀v w',J (bO (fun i=>listed.getD i false) i) (cK y i v) w'→R i v w'→wpAny P .any ops Q fuel (listed.setIfInBounds i true) (a.put o.dst v) w':=by
     intro v w' hbw hv
     have hfe:bO (fun i=>listed.getD i false) i=fun k=>(listed.setIfInBounds i true).getD k false:=by
      funext k
      unfold bO
      by_cases hki:k=i
      ·subst hki
       simp[Array.getD_eq_getD_getElem?,show k<listed.size by omega]
      ·rw[if_neg hki]
       simp[Array.getD_eq_getD_getElem?,Array.getElem?_setIfInBounds_ne (Ne.symm hki)]
     rw[hfe] at hbw
     refine ih _ _ _ (by simp[hsz]) ?_ ⟨fun k hk => ?_,fun k o' ho' hk e he => ?_,fun k=>if k=i then v else y k,?_,hbw,?_⟩
     ·have hil:i<listed.toList.length:=by simp;omega
      have hfalse:listed.toList[i]=false:=by
       simpa[Array.getD_eq_getD_getElem?,show i<listed.size by omega] using h1
      have:=List.countP_set (p:=(!·)) (l:=listed.toList) (i:=i) (a:=true) hil
      rw[hfalse] at this
      have hpos:0<listed.toList.countP (!·):=List.countP_pos_iff.2 ⟨listed.toList[i],List.getElem_mem hil,by rw[hfalse];rfl⟩
      simp only[Array.toList_setIfInBounds]
      simp only[Bool.not_false,Bool.not_true,if_true,Bool.false_eq_true,if_false] at this
      omega
     ·have:=hno k hk
      simp only[Array.getD_eq_getD_getElem?,Array.getElem?_setIfInBounds_ne (show i≠k by omega)] at this ⊢
      exact this
     ·have up:∀q,listed.getD q false=true→(listed.setIfInBounds i true).getD q false=true:=by
       intro q hq
       by_cases hqi:q=i
       ·subst hqi;simp[Array.getD_eq_getD_getElem?,show q<listed.size by omega]
       ·simpa[Array.getD_eq_getD_getElem?,Array.getElem?_setIfInBounds_ne (Ne.symm hqi)] using hq
      apply up
      by_cases hki:k=i
      ·subst hki
       rw[ho] at ho'
       cases ho'
       exact hL e he
      ·exact hcl k o' ho' (by simpa[Array.getD_eq_getD_getElem?,Array.getElem?_setIfInBounds_ne (Ne.symm hki)] using hk) e he
     ·rw[ha,sH hok ho hsz v]
     ·intro k hk hLk
      by_cases hki:k=i
      ·subst hki;simpa using hv
      ·have:listed.getD k false=true:=by
        simpa[Array.getD_eq_getD_getElem?,Array.getElem?_setIfInBounds_ne (Ne.symm hki)] using hLk
       simp only[hki,if_false]
       exact hstab _ _ _ _ (hR k hk this)
    have heval:∀t∈o.looksAt ops,a.tmps[t]?=(lay (fun _=>true) y ops.toList 0 a0.tmps)[t]?:=fun t ht=>by
     rw[ha];exact mU hok ho hL t ht
    have hexec:execOp a.eval o=execOp ({ a0 with tmps:=lay (fun _=>true) y ops.toList 0 a0.tmps }:Act).eval o:=by
     refine execOp_congr o hsel fun x hx => ?_
     cases x with
     | tmp t=>
      have:=heval t (List.mem_append_left _ (List.mem_filterMap.2 ⟨.tmp t,by simpa using hx,rfl⟩))
      simp[Act.eval,this]
     | _=>rfl
    have hwant:Region.wanted o (yielded ops a.tmps)=Region.wanted o (yielded ops (lay (fun _=>true) y ops.toList 0 a0.tmps)):=by
     unfold Region.wanted
     cases hg:o.guard with
     | none=>rfl
     | some gw=>
      obtain⟨g,want⟩:=gw
      have:yielded ops a.tmps g=yielded ops (lay (fun _=>true) y ops.toList 0 a0.tmps) g:=by
       unfold yielded
       cases hd:(ops[g]?).bind (·.dst) with
       | none=>rfl
       | some t=>
        have:=heval t (List.mem_append_right _ (by simp[hg,hd]))
        simp[this]
      simp only[this]
    have hs:=hstep i o him ho (fun i=>listed.getD i false) y w (by simpa[Array.getD_eq_getD_getElem?,show i<listed.size by omega] using h1) (fun j hj=>by
     obtain⟨e,he,hej⟩:=List.any_eq_true.1 hj
     have hej' : e.on=j:=by simpa using hej
     subst hej'
     exact hL e (Array.mem_toList_iff.1 he)) hb (fun j hj=>by
     obtain⟨e,he,hej⟩:=List.any_eq_true.1 hj
     have hej' : e.on=j:=by simpa using hej
     subst hej'
     have he':=Array.mem_toList_iff.1 he
     exact hR e.on (by have:=(hbinds e he').2;omega) (hL e he'))
    by_cases hwt:Region.wanted o (yielded ops (lay (fun _=>true) y ops.toList 0 a0.tmps))=true
    ·rw[if_pos hwt] at hs
     exact je ho (by rw[hwant];exact hwt) hexec hs fun v w' h=>hnext v w' h.1 h.2
    ·rw[if_neg hwt] at hs
     unfold wpOp
     simp only[ho]
     rw[if_neg (by rw[hwant];exact hwt)]
     exact hnext undef w hs.1 hs.2
 refine hall ops.size _ _ _ (by simp) ?_ ⟨fun i _ => ?_,fun i o' ho' hi => ?_,fun _=>undef,?_,?_,?_⟩
 ·simpa using List.countP_le_length (p:=(!·)) (l:=List.replicate ops.size false)
 ·simp[Array.getD_eq_getD_getElem?,Array.getElem?_replicate];split<;>rfl
 ·exfalso
  have:i<ops.size:=(Array.getElem?_eq_some_iff.1 ho').1
  simp[Array.getD_eq_getD_getElem?,this] at hi
 ·have e:lay (fun i=>(Array.replicate ops.size false).getD i false) (fun _=>undef) ops.toList 0 a0.tmps=a0.tmps:=by
   apply Array.ext_getElem?
   intro s
   exact eG _ _ s _ 0 _ fun k o' hk hd=>by simp[Array.getD_eq_getD_getElem?,Array.getElem?_replicate];split<;>rfl
  rw[e]
 ·have e:(fun i=>(Array.replicate ops.size false).getD i false)=fun _=>false:=by
   funext i
   simp[Array.getD_eq_getD_getElem?,Array.getElem?_replicate];split<;>rfl
  rw[e]
  exact hJ0 _
 ·intro i hi hL
  simp[Array.getD_eq_getD_getElem?,hi] at hL
def iB (P:Program) (ops:Array Oper) (a0:Act) (J:(Nat→Bool)→(Nat→Value)→World→Prop) (l:List iO) (i:Nat) (o:Oper):Prop:=
 ∀(ρ:Operand→Value) (y:Nat→Value) (w:World) (L:Nat→Bool),(∀t j,writer ops t=some j→ρ (.tmp t)=y j)→(∀x,(match x with | .tmp t=>writer ops t=none | _=>True)→ρ x=a0.eval x) →
  L i=false→(∀j,o.after.toList.any (fun e=>e.on==j)=true→L j=true)→J L y w→(∀j,o.after.toList.any (fun e=>e.on==j)=true→rl l j (y j) w) →
  if Region.wanted o (ed ρ ops)=true then cz P o ρ w (fun v w'=>J (bO L i) (cK y i v) w'∧rl l i v w') else J (bO L i) (cK y i undef) w∧rl l i undef w
theorem tT {P:Program} {ops:Array Oper} {Q:Exit→Act→World→Prop} {a0:Act} {w0:World} (m:Nat) (l:List iO) (J:(Nat→Bool)→(Nat→Value)→World→Prop) (hst:∀L y w w',Below w.heap.size w w'→J L y w→J L y w') (hJ0:∀y,J (fun _=>false) y w0) (hfix:Fixed l) (hok:fE ops=true) (ht:eO ops m=true) (hmn:m≤ops.size)
  (n:Nat) (hn:a0.tmps.size=n) (hsz:fU ops n=true)
  (hstep:aP (iB P ops a0 J l) 0 (ops.toList.take m))
  (hend:∀y w,J (fun i=>decide (i<m)) y w→(∀i,i<m→rl l i (y i) w)→wpList P ops Q (ops.toList.drop m) { a0 with tmps:=lay (fun i=>decide (i<m)) y ops.toList 0 a0.tmps } w) :
  wpAny P .any ops Q ops.size (Array.replicate ops.size false) a0 w0.drew:=by
 refine Fv m hok ht hmn (rl l) J (fun y=>hst _ y w0 w0.drew ⟨rfl,rfl,rfl,Nat.le_refl _,fun _ _=>rfl⟩ (hJ0 y)) (fun i v w w' h=>hfix.at i v w w' h) (fun i o him hi L y w hLi hLd hb hd => ?_) hend
 have hwr:∀t j,writer ops t=some j→({ a0 with tmps:=lay (fun _=>true) y ops.toList 0 a0.tmps }:Act).eval (.tmp t)=y j:=by
  intro t j hw
  unfold writer at hw
  have h1:=List.find?_some hw
  have h2:=List.mem_range.1 (List.mem_of_find?_eq_some hw)
  cases ho:ops[j]? with
  | none=>simp[ho] at h1
  | some p=>
   have hd' : p.dst=some t:=by simpa[ho] using h1
   have hlt:t<a0.tmps.size:=by
    have:=List.all_eq_true.1 hsz p (Array.mem_toList_iff.2 (Array.mem_of_getElem? ho))
    rw[hn]
    simpa[hd'] using this
   have hu:∀k' o',ops.toList[k']?=some o'→o'.dst=some t→k' = j:=by
    intro k' o' hk' hdk
    rcases ((dx hok (i:=k') (o:=o') (by simpa using hk')).2.2 j p t ho hd').1 with h|h
    ·exact h
    ·exact absurd hdk h
   have:=iA (fun _=>true) y t ops.toList 0 a0.tmps j p (by simpa using ho) hd' rfl hu hlt
   simp[Act.eval,this]
 have hno:∀x,(match x with | .tmp t=>writer ops t=none | _=>True)→({ a0 with tmps:=lay (fun _=>true) y ops.toList 0 a0.tmps }:Act).eval x=a0.eval x:=by
  intro x hx
  cases x with
  | tmp t=>
   have:(lay (fun _=>true) y ops.toList 0 a0.tmps)[t]?=a0.tmps[t]?:=by
    refine eG _ y t _ 0 _ fun k o' hk hd' => ?_
    exfalso
    simp only[writer] at hx
    have hk' : ops[k]?=some o':=by simpa using hk
    have hklt:k<ops.size:=(Array.getElem?_eq_some_iff.1 hk').1
    have:=List.find?_eq_none.1 hx k (List.mem_range.2 hklt)
    simp[hk',hd'] at this
   simp[Act.eval,this]
  | _=>rfl
 have hsays:Region.wanted o (yielded ops (lay (fun _=>true) y ops.toList 0 a0.tmps))=Region.wanted o (ed ({ a0 with tmps:=lay (fun _=>true) y ops.toList 0 a0.tmps }:Act).eval ops):=by
  congr 1
  funext g
  unfold yielded ed
  cases (ops[g]?).bind (·.dst) with
  | none=>rfl
  | some d=>
   simp only[Option.bind_some,Act.eval,Array.getD_eq_getD_getElem?]
   generalize (lay (fun _=>true) y ops.toList 0 a0.tmps)[d]?=q
   cases q with
   | none=>rfl
   | some v=>cases v<;>rfl
 have hi' : (ops.toList.take m)[i]?=some o:=by rw[List.getElem?_take,if_pos him];simpa using hi
 have:=aP.at hstep i o hi' _ y w L hwr hno (by rw[Nat.zero_add];exact hLi) hLd hb hd
 rw[Nat.zero_add] at this
 rw[hsays]
 exact this
theorem JI {P:Program} {ops:Array Oper} {Q:Exit→Act→World→Prop} {id:Nat} {a0:Act} {w0:World} (m:Nat) (l:List iO) (J:(Nat→Bool)→(Nat→Value)→World→Prop) (hst:∀L y w w',Below w.heap.size w w'→J L y w→J L y w') (hJ0:∀y,J (fun _=>false) y w0) (hfix:Fixed l) (hm:P.follows .mixedOrders=true) (hok:fE ops=true) (ht:eO ops m=true) (hmn:m≤ops.size)
  (n:Nat) (hn:a0.tmps.size=n) (hsz:fU ops n=true)
  (hstep:aP (iB P ops a0 J l) 0 (ops.toList.take m))
  (hend:∀y w,J (fun i=>decide (i<m)) y w→(∀i,i<m→rl l i (y i) w)→wpList P ops Q (ops.toList.drop m) { a0 with tmps:=lay (fun i=>decide (i<m)) y ops.toList 0 a0.tmps } w) :
  (Code.region id ops true).wp P Q a0 w0:=
 wp_region_any hm (tT m l J hst hJ0 hfix hok ht hmn n hn hsz hstep hend)
theorem bY {P:Program} {ops:Array Oper} {ρ:Operand→Value} {o:Oper} {w:World} {l:List iO} {i:Nat} {J:(Nat→Bool)→(Nat→Value)→World→Prop} {L:Nat→Bool} {y:Nat→Value} (hst:∀L y w w',Below w.heap.size w w'→J L y w→J L y w')
  (hpure:∀v w,J L y w→J (bO L i) (cK y i v) w) (hJ:J L y w)
  (h:if Region.wanted o (ed ρ ops)=true then cz P o ρ w (fun v w'=>Below w.heap.size w w'∧rl l i v w') else rl l i undef w) :
  if Region.wanted o (ed ρ ops)=true then cz P o ρ w (fun v w'=>J (bO L i) (cK y i v) w'∧rl l i v w') else J (bO L i) (cK y i undef) w∧rl l i undef w:=by
 split at h
 ·rename_i hw
  rw[if_pos hw]
  unfold cz at h ⊢
  split at h
  ·exact⟨hpure _ _ (hst _ _ _ _ h.1 hJ),h.2⟩
  ·exact⟨hpure _ _ (hst _ _ _ _ h.1 hJ),h.2⟩
  ·refine Calls.mono h fun e w'' he => ?_
   cases e with
   | returned v=>exact⟨hpure _ _ (hst _ _ _ _ he.1 hJ),he.2⟩
   | panicked c=>exact he.elim
   | outgrown=>exact he.elim
  ·exact h.elim
 ·rename_i hw
  rw[if_neg hw]
  exact⟨hpure _ _ hJ,h⟩
theorem eF {P:Program} {ops:Array Oper} {ρ:Operand→Value} {o:Oper} {w:World} {l:List iO} {i:Nat} {J:(Nat→Bool)→(Nat→Value)→World→Prop} {L:Nat→Bool} {y:Nat→Value} (f:FuncId) (args:Array Value) (hw:Region.wanted o (ed ρ ops)=true) (hrun:(execOp ρ o).run P w = .ok (.enter f args) w)
  (hc:Calls P f args w fun e w' => ∃v,e = .returned v∧J (bO L i) (cK y i v) w'∧rl l i v w') :
  if Region.wanted o (ed ρ ops)=true then cz P o ρ w (fun v w'=>J (bO L i) (cK y i v) w'∧rl l i v w') else J (bO L i) (cK y i undef) w∧rl l i undef w:=by
 rw[if_pos hw]
 unfold cz
 rw[hrun]
 refine hc.mono fun e w' ⟨v,he,h⟩ => ?_
 subst he
 exact h
theorem bL {P:Program} {ops:Array Oper} {ρ:Operand→Value} {o:Oper} {w w' : World} {l:List iO} {i:Nat} {J:(Nat→Bool)→(Nat→Value)→World→Prop} {L:Nat→Bool} {y:Nat→Value} (v:Value) (hw:Region.wanted o (ed ρ ops)=true) (hrun:(execOp ρ o).run P w = .ok (.value v) w')
  (hJ:J (bO L i) (cK y i v) w') (hR:rl l i v w') :
  if Region.wanted o (ed ρ ops)=true then cz P o ρ w (fun v w'=>J (bO L i) (cK y i v) w'∧rl l i v w') else J (bO L i) (cK y i undef) w∧rl l i undef w:=by
 rw[if_pos hw]
 unfold cz
 rw[hrun]
 exact⟨hJ,hR⟩
inductive RV where
 | v (V:Value)
 | r (i:Nat) (R:iO)
def RV.R:RV→iO
 | .v V=>nU V
 | .r _ R=>R
def rvs:List RV→List iO
 | []=>[]
 | a::l=>a.R::rvs l
def rvN:RV:=.r 0 anyR
theorem rvs_at:∀(l:List RV) (i:Nat),(rvs l).getD i anyR=(l.getD i rvN).R
 | [],_=>rfl
 | _::_,0=>rfl
 | _::l,i+1=>by
  have:=rvs_at l i
  simpa[rvs] using this
theorem BC {l:List RV} {i:Nat} {V v:Value} {w:World} (hr:l.getD i rvN = .v V) (e:v=V):rl (rvs l) i v w:=by
 unfold rl
 rw[rvs_at,hr]
 exact e
def rvK:List RV→Nat→Option Value
 | .v V::_,0=>some V
 | _::l,k+1=>rvK l k
 | _,_=>none
theorem rvK_at:∀ {l:List RV} {k:Nat} {V:Value},rvK l k=some V→l.getD k rvN = .v V
 | .v V::_,0,_,h=>by cases h;rfl
 | .v _::l,k+1,_,h=>by simpa using rvK_at (l:=l) (k:=k) h
 | .r _ _::l,k+1,_,h=>by simpa using rvK_at (l:=l) (k:=k) h
 | .r _ _::_,0,_,h=>by cases h
 | [],0,_,h=>by cases h
 | [],_+1,_,h=>by cases h
def kt (ops:Array Oper) (a0:Act) (l:List RV) (o:Oper) (t:Nat):Option Value:=
 match writer ops t with
 | some k=>cond (o.after.toList.any fun e=>e.on==k) (rvK l k) none
 | none=>a0.tmps.toList[t]?
def kx (ops:Array Oper) (a0:Act) (l:List RV) (o:Oper):Operand→Option Value
 | .tmp t=>kt ops a0 l o t
 | .const v=>some v
 | .func f=>some (.func (.func f) #[] #[])
 | .global g=>some (.pointer (some ⟨g,0,none⟩))
def kg (ops:Array Oper) (a0:Act) (l:List RV) (o:Oper):Option Bool:=
 match o.guard with
 | none=>some true
 | some (g,want)=>match (ops[g]?).bind (·.dst) with
  | none=>none
  | some d=>match kt ops a0 l o d with
   | some (.bool b)=>some (b==want)
   | some (.tuple _)=>some false
   | _=>none
def NV (ops:Array Oper) (a0:Act) (l:List RV) (o:Oper):Option Value:=
 match o.op with
 | .move x=>kx ops a0 l o x
 | .assign x=>kx ops a0 l o x
 | .nilCheck x=>match kx ops a0 l o x with
  | some (.pointer (some a))=>some (.pointer (some a))
  | _=>none
 | .unOp .not _ x=>match kx ops a0 l o x with
  | some (.bool true)=>some (.bool false)
  | some (.bool false)=>some (.bool true)
  | _=>none
 | .pick c x y=>match kx ops a0 l o c with
  | some (.bool true)=>kx ops a0 l o x
  | some (.bool false)=>kx ops a0 l o y
  | _=>none
 | _=>none
def ks (ops:Array Oper) (a0:Act) (l:List RV) (o:Oper):Option Value:=
 match kg ops a0 l o with
 | some true=>NV ops a0 l o
 | some false=>some undef
 | none=>none
section
variable {P:Program} {ops:Array Oper} {a0:Act} {w0:World} {l:List RV} {i:Nat} {o:Oper}
def Kn (ops:Array Oper) (a0:Act) (l:List RV) (o:Oper) (ρ:Operand→Value) (y:Nat→Value) (w:World):Prop:=
 (∀t j,writer ops t=some j→ρ (.tmp t)=y j)∧(∀x,(match x with | .tmp t=>writer ops t=none | _=>True)→ρ x=a0.eval x)∧∀j,o.after.toList.any (fun e=>e.on==j)=true→rl (rvs l) j (y j) w
theorem LW {t:Nat} {v:Value} (h:kt ops a0 l o t=some v) {ρ:Operand→Value} {y:Nat→Value} {w:World} (hk:Kn ops a0 l o ρ y w):ρ (.tmp t)=v:=by
 unfold kt at h
 cases hw:writer ops t with
 | none=>
  rw[hw] at h
  have h' : a0.tmps.toList[t]?=some v:=h
  rw[hk.2.1 (.tmp t) hw]
  simp only[Array.getElem?_toList] at h'
  simp[Act.eval,h']
 | some k=>
  rw[hw] at h
  have h' : cond (o.after.toList.any fun e=>e.on==k) (rvK l k) none=some v:=h
  cases ha:o.after.toList.any fun e=>e.on==k with
  | false=>rw[ha] at h'; cases h'
  | true=>
   rw[ha] at h'
   have h1:=hk.2.2 k ha
   unfold rl at h1
   rw[rvs_at,rvK_at h'] at h1
   exact (hk.1 t k hw).trans h1
theorem aA {x:Operand} {v:Value} (h:kx ops a0 l o x=some v) {ρ:Operand→Value} {y:Nat→Value} {w:World} (hk:Kn ops a0 l o ρ y w):ρ x=v:=by
 cases x with
 | tmp t=>exact LW h hk
 | const c=>rw[hk.2.1 (.const c) trivial];cases h;rfl
 | func f=>rw[hk.2.1 (.func f) trivial];cases h;rfl
 | global g=>rw[hk.2.1 (.global g) trivial];cases h;rfl
theorem wH {b:Bool} (h:kg ops a0 l o=some b) {ρ:Operand→Value} {y:Nat→Value} {w:World} (hk:Kn ops a0 l o ρ y w):Region.wanted o (ed ρ ops)=b:=by
 unfold kg at h
 unfold Region.wanted
 cases hg:o.guard with
 | none=>rw[hg] at h;cases h;rfl
 | some q=>
  obtain⟨g,want⟩:=q
  rw[hg] at h
  simp only at h
  cases hd:(ops[g]?).bind (·.dst) with
  | none=>rw[hd] at h;cases h
  | some d=>
   rw[hd] at h
   simp only at h
   cases hv:kt ops a0 l o d with
   | none=>rw[hv] at h;cases h
   | some v=>
    rw[hv] at h
    have e:=LW hv hk
    unfold ed
    simp only[hd,e]
    cases v with
    | bool c=>cases h;cases c<;>cases want<;>rfl
    | tuple c=>cases h;rfl
    | _=>cases h
def rD (P:Program) (ops:Array Oper) (a0:Act) (l:List RV) (i:Nat) (o:Oper):Prop:=
 ∀(ρ:Operand→Value) (y:Nat→Value) (w:World),Kn ops a0 l o ρ y w→(Region.wanted o (ed ρ ops)=false∧rl (rvs l) i undef w)∨(Region.wanted o (ed ρ ops)=true∧∃v,(execOp ρ o).run P w = .ok (.value v) w∧rl (rvs l) i v w)
theorem rD.run {V:Value} (hg:kg ops a0 l o=some true) (hr:l.getD i rvN = .v V) (h:∀ρ y w,Kn ops a0 l o ρ y w→(execOp ρ o).run P w = .ok (.value V) w):rD P ops a0 l i o:=fun ρ y w hk => .inr ⟨wH hg hk,V,h ρ y w hk,BC hr rfl⟩
theorem Me {V:Value} (h:ks ops a0 l o=some V) (hr:l.getD i rvN = .v V):rD P ops a0 l i o:=by
 unfold ks at h
 cases hg:kg ops a0 l o with
 | none=>rw[hg] at h;cases h
 | some b=>
  rw[hg] at h
  cases b with
  | false=>
   cases h
   exact fun ρ y w hk => .inl ⟨wH hg hk,BC hr rfl⟩
  | true=>
   have h' : NV ops a0 l o=some V:=h
   refine rD.run hg hr fun ρ y w hk => ?_
   unfold NV at h'
   split at h'
   ·rename_i x ho;exact run_move (.inl ho) (aA h' hk)
   ·rename_i x ho;exact run_move (.inr ho) (aA h' hk)
   ·rename_i x ho
    split at h'
    ·rename_i a hx
     cases h'
     have e:=aA hx hk
     simp[execOp,go_sem,ho,e]
    ·cases h'
   ·rename_i t x ho
    split at h'
    ·rename_i hx;cases h'; exact vE ho (aA hx hk)
    ·rename_i hx;cases h'; exact vE ho (aA hx hk)
    ·cases h'
   ·rename_i c x y' ho
    split at h'
    ·rename_i hc;exact kK ho (aA hc hk) (aA h' hk)
    ·rename_i hc;exact kK ho (aA hc hk) (aA h' hk)
    ·cases h'
   ·cases h'
theorem rD.asked (h:rD P ops a0 l i o):jC P ops a0 w0 (rvs l) i o:=fun ρ y w hw hn _ hd=>by
 rcases h ρ y w ⟨hw,hn,hd⟩ with ⟨h1,h2⟩|⟨h1,v,h2,h3⟩
 ·exact xI h1 h2
 ·exact aj v h1 h2 h3
theorem rD.askedQ {J:(Nat→Bool)→(Nat→Value)→World→Prop} (hst:∀L y w w',Below w.heap.size w w'→J L y w→J L y w') (hp:∀L y v w,(∀j,o.after.toList.any (fun e=>e.on==j)=true→L j=true)→J L y w→J (bO L i) (cK y i v) w) (h:rD P ops a0 l i o):iB P ops a0 J (rvs l) i o:=fun ρ y w L hw hn _ hLd hJ hd=>by
 rcases h ρ y w ⟨hw,hn,hd⟩ with ⟨h1,h2⟩|⟨h1,v,h2,h3⟩
 ·exact bY hst (fun v w=>hp L y v w hLd) hJ (xI h1 h2)
 ·exact bY hst (fun v w=>hp L y v w hLd) hJ (aj v h1 h2 h3)
variable {C:Nat→Oper→Prop} {r:List Oper}
theorem JP (hC:rD P ops a0 l i o→C i o) (h:(ks ops a0 l o).map RV.v=some (l.getD i rvN)) (hl:aP C (i+1) r):aP C i (o::r):=⟨hC (by
 cases hk:ks ops a0 l o with
 | none=>rw[hk] at h;cases h
 | some V=>
  rw[hk] at h
  exact Me hk (Option.some.inj h).symm),hl⟩
theorem Gk (h:(ks ops a0 l o).map RV.v=some (l.getD i rvN)) (hl:aP (jC P ops a0 w0 (rvs l)) (i+1) r):aP (jC P ops a0 w0 (rvs l)) i (o::r):=JP rD.asked h hl
def Nr (ops:Array Oper) (a0:Act) (l:List RV) (o:Oper):Option (TypeId × Value × Nat):=
 match kg ops a0 l o with
 | some true=>match o.op with
  | .fieldAddr t x f=>(kx ops a0 l o x).map fun v=>(t,v,f)
  | _=>none
 | _=>none
theorem CZ (hC:rD P ops a0 l i o→C i o) (b k:Nat) {t:TypeId} {v:Value} {f:Nat} (h:Nr ops a0 l o=some (t,v,f)) (hr:l.getD i rvN = .v (.pointer (some ⟨b,k,none⟩))) (hl:aP C (i+1) r) (hf:∀w,(Instr.fieldAt t v f).run P w = .ok (.pointer (some ⟨b,k,none⟩)) w:=by intro _;kernel_rfl):aP C i (o::r):=by
 refine⟨hC ?_,hl⟩
 unfold Nr at h
 split at h
 ·rename_i hg
  split at h
  ·rename_i t' x f' ho
   cases hx:kx ops a0 l o x with
   | none=>rw[hx] at h;cases h
   | some v'=>
    rw[hx] at h
    cases h
    exact rD.run hg hr fun ρ y w hk=>xS ho (aA hx hk) (hf w)
  ·cases h
 ·cases h
theorem Gf (b k:Nat) {t:TypeId} {v:Value} {f:Nat} (h:Nr ops a0 l o=some (t,v,f)) (hr:l.getD i rvN = .v (.pointer (some ⟨b,k,none⟩))) (hl:aP (jC P ops a0 w0 (rvs l)) (i+1) r) (hf:∀w,(Instr.fieldAt t v f).run P w = .ok (.pointer (some ⟨b,k,none⟩)) w:=by intro _;kernel_rfl):aP (jC P ops a0 w0 (rvs l)) i (o::r):=CZ rD.asked b k h hr hl hf
theorem Jp (hC:rD P ops a0 l i o→C i o) {x:Operand} {t:TypeId} {a:Option Addr} {n c:Nat} (hg:kg ops a0 l o=some true) (ho:o.op = .call { callee:=.builtin .len,args:=#[x],argTypes:=#[t] }) (hx:kx ops a0 l o x=some (.slice a n c)) (hr:l.getD i rvN = .v (.int .i64 n)) (hl:aP C (i+1) r) (ht:P.underlying t=some (.slice (P.elem t)):=by rfl):aP C i (o::r):=
 ⟨hC (rD.run hg hr fun ρ y w hk=>Cb ho (aA hx hk) ht),hl⟩
theorem Gn {x:Operand} {t:TypeId} {a:Option Addr} {n c:Nat} (hg:kg ops a0 l o=some true) (ho:o.op = .call { callee:=.builtin .len,args:=#[x],argTypes:=#[t] }) (hx:kx ops a0 l o x=some (.slice a n c)) (hr:l.getD i rvN = .v (.int .i64 n)) (hl:aP (jC P ops a0 w0 (rvs l)) (i+1) r) (ht:P.underlying t=some (.slice (P.elem t)):=by rfl):aP (jC P ops a0 w0 (rvs l)) i (o::r):=Jp rD.asked hg ho hx hr hl ht
theorem IE (hC:rD P ops a0 l i o→C i o) (V:Value) {op:BinOp} {t t' : TypeId} {x y:Operand} {vx vy:Value} (hr:∀w,(do eqGuard op t x y vx vy;binOp op t vx vy:Sem Value).run P w = .ok V w) (hg:kg ops a0 l o=some true) (ho:o.op = .binOp op t x y t') (hx:kx ops a0 l o x=some vx) (hy:kx ops a0 l o y=some vy) (hv:l.getD i rvN = .v V) (hl:aP C (i+1) r):aP C i (o::r):=
 ⟨hC (rD.run hg hv fun ρ y w hk=>kE ho (aA hx hk) (aA hy hk) (hr w)),hl⟩
theorem Gb (V:Value) {op:BinOp} {t t' : TypeId} {x y:Operand} {vx vy:Value} (hr:∀w,(do eqGuard op t x y vx vy;binOp op t vx vy:Sem Value).run P w = .ok V w) (hg:kg ops a0 l o=some true) (ho:o.op = .binOp op t x y t') (hx:kx ops a0 l o x=some vx) (hy:kx ops a0 l o y=some vy) (hv:l.getD i rvN = .v V) (hl:aP (jC P ops a0 w0 (rvs l)) (i+1) r):aP (jC P ops a0 w0 (rvs l)) i (o::r):=IE rD.asked V hr hg ho hx hy hv hl
theorem MQ (hC:rD P ops a0 l i o→C i o) (V:Value) (h:∀ρ y w,Kn ops a0 l o ρ y w→(execOp ρ o).run P w = .ok (.value V) w) (hg:kg ops a0 l o=some true) (hv:l.getD i rvN = .v V) (hl:aP C (i+1) r):aP C i (o::r):=⟨hC (rD.run hg hv h),hl⟩
section
variable {J:(Nat→Bool)→(Nat→Value)→World→Prop}
theorem Qk (hst:∀L y w w',Below w.heap.size w w'→J L y w→J L y w') (h:(ks ops a0 l o).map RV.v=some (l.getD i rvN)) (hl:aP (iB P ops a0 J (rvs l)) (i+1) r) (hp:∀L y v w,(∀j,o.after.toList.any (fun e=>e.on==j)=true→L j=true)→J L y w→J (bO L i) (cK y i v) w:=by intro _ _ _ _ _ h;exact h):aP (iB P ops a0 J (rvs l)) i (o::r):=JP (rD.askedQ hst hp) h hl
theorem Qf (hst:∀L y w w',Below w.heap.size w w'→J L y w→J L y w') (b k:Nat) {t:TypeId} {v:Value} {f:Nat} (h:Nr ops a0 l o=some (t,v,f)) (hr:l.getD i rvN = .v (.pointer (some ⟨b,k,none⟩))) (hl:aP (iB P ops a0 J (rvs l)) (i+1) r) (hp:∀L y v w,(∀j,o.after.toList.any (fun e=>e.on==j)=true→L j=true)→J L y w→J (bO L i) (cK y i v) w:=by intro _ _ _ _ _ h;exact h) (hf:∀w,(Instr.fieldAt t v f).run P w = .ok (.pointer (some ⟨b,k,none⟩)) w:=by intro _;kernel_rfl):aP (iB P ops a0 J (rvs l)) i (o::r):=CZ (rD.askedQ hst hp) b k h hr hl hf
theorem Qn (hst:∀L y w w',Below w.heap.size w w'→J L y w→J L y w') {x:Operand} {t:TypeId} {a:Option Addr} {n c:Nat} (hg:kg ops a0 l o=some true) (ho:o.op = .call { callee:=.builtin .len,args:=#[x],argTypes:=#[t] }) (hx:kx ops a0 l o x=some (.slice a n c)) (hr:l.getD i rvN = .v (.int .i64 n)) (hl:aP (iB P ops a0 J (rvs l)) (i+1) r) (hp:∀L y v w,(∀j,o.after.toList.any (fun e=>e.on==j)=true→L j=true)→J L y w→J (bO L i) (cK y i v) w:=by intro _ _ _ _ _ h;exact h) (ht:P.underlying t=some (.slice (P.elem t)):=by rfl):aP (iB P ops a0 J (rvs l)) i (o::r):=Jp (rD.askedQ hst hp) hg ho hx hr hl ht
theorem Qb (hst:∀L y w w',Below w.heap.size w w'→J L y w→J L y w') (V:Value) {op:BinOp} {t t' : TypeId} {x y:Operand} {vx vy:Value} (hr:∀w,(do eqGuard op t x y vx vy;binOp op t vx vy:Sem Value).run P w = .ok V w) (hg:kg ops a0 l o=some true) (ho:o.op = .binOp op t x y t') (hx:kx ops a0 l o x=some vx) (hy:kx ops a0 l o y=some vy) (hv:l.getD i rvN = .v V) (hl:aP (iB P ops a0 J (rvs l)) (i+1) r) (hp:∀L y v w,(∀j,o.after.toList.any (fun e=>e.on==j)=true→L j=true)→J L y w→J (bO L i) (cK y i v) w:=by intro _ _ _ _ _ h;exact h):aP (iB P ops a0 J (rvs l)) i (o::r):=IE (rD.askedQ hst hp) V hr hg ho hx hy hv hl
theorem Qr (hst:∀L y w w',Below w.heap.size w w'→J L y w→J L y w') (V:Value) (h:∀ρ y w,Kn ops a0 l o ρ y w→(execOp ρ o).run P w = .ok (.value V) w) (hg:kg ops a0 l o=some true) (hv:l.getD i rvN = .v V) (hl:aP (iB P ops a0 J (rvs l)) (i+1) r) (hp:∀L y v w,(∀j,o.after.toList.any (fun e=>e.on==j)=true→L j=true)→J L y w→J (bO L i) (cK y i v) w:=by intro _ _ _ _ _ h;exact h):aP (iB P ops a0 J (rvs l)) i (o::r):=MQ (rD.askedQ hst hp) V h hg hv hl
end
theorem Gr (V:Value) (h:∀ρ y w,Below w0.heap.size w0 w→Kn ops a0 l o ρ y w→(execOp ρ o).run P w = .ok (.value V) w) (hg:kg ops a0 l o=some true) (hv:l.getD i rvN = .v V) (hl:aP (jC P ops a0 w0 (rvs l)) (i+1) r):aP (jC P ops a0 w0 (rvs l)) i (o::r):=
 ⟨fun ρ y w hw hn hb hd=>aj V (wH hg ⟨hw,hn,hd⟩) (h ρ y w hb ⟨hw,hn,hd⟩) (BC hv rfl),hl⟩
def NF (P:Program) (t:TypeId):Bool:=match P.underlying t with
 | some (.struct _)=>false
 | some (.array _ _)=>false
 | some _=>true
 | none=>false
theorem lJ {t:TypeId} {b k:Nat} {V:Value} {w:World} (hs:NF P t=true) (hc:w.cell? ⟨b,k,none⟩=some V):(loadVar t ⟨b,k,none⟩).run P w = .ok V w:=by
 unfold NF at hs
 cases hu:P.underlying t with
 | none=>rw[hu] at hs;cases hs
 | some d=>
  have ha:(isAgg t).run P w = .ok false w:=by
   unfold isAgg
   rw[Sem.run_bind,run_underlying hu w]
   rw[hu] at hs
   cases d<;>first | rfl | cases hs
  simp[loadVar,Sem.run_bind,ha,go_sem,hc]
theorem Gl {b k:Nat} {cs:Array Value} {T:TypeId} (hb:aF w0 b cs T) {V:Value} {t:TypeId} {x:Operand} (hv:cs.toList[k]?=some V) (hg:kg ops a0 l o=some true) (ho:o.op = .load t x) (hx:kx ops a0 l o x=some (.pointer (some ⟨b,k,none⟩))) (hr:l.getD i rvN = .v V) (hl:aP (jC P ops a0 w0 (rvs l)) (i+1) r) (hs:NF P t=true:=by kernel_rfl):aP (jC P ops a0 w0 (rvs l)) i (o::r):=by
 refine⟨fun ρ y w hw hn hB hd=>aj V (wH hg ⟨hw,hn,hd⟩) ?_ (BC hr rfl),hl⟩
 have e:ρ x=_:=aA hx ⟨hw,hn,hd⟩
 have hc:w.cell? ⟨b,k,none⟩=some V:=by rw[(hb.ext hB).cell,←Array.getElem?_toList];exact hv
 refine run_load ho e ?_
 simp only[Instr.loadAt,Instr.sureAddr,Sem.run_bind,Sem.run_pure,Result.andThen_ok,lJ hs hc]
theorem Gc {b k:Nat} (V:Value) (hc:∀w,Below w0.heap.size w0 w→w.cell? ⟨b,k,none⟩=some V) {t:TypeId} {x:Operand} (hg:kg ops a0 l o=some true) (ho:o.op = .load t x) (hx:kx ops a0 l o x=some (.pointer (some ⟨b,k,none⟩))) (hr:l.getD i rvN = .v V) (hl:aP (jC P ops a0 w0 (rvs l)) (i+1) r) (hs:NF P t=true:=by kernel_rfl):aP (jC P ops a0 w0 (rvs l)) i (o::r):=by
 refine⟨fun ρ y w hw hn hB hd=>aj V (wH hg ⟨hw,hn,hd⟩) ?_ (BC hr rfl),hl⟩
 have e:ρ x=_:=aA hx ⟨hw,hn,hd⟩
 refine run_load ho e ?_
 simp only[Instr.loadAt,Instr.sureAddr,Sem.run_bind,Sem.run_pure,Result.andThen_ok,lJ hs (hc w hB)]
def revC:List Value→List Value→(List Value→Option (List Value))→Option (List Value)
 | [],r,k=>k r
 | a::l,r,k=>revC l (a::r) k
def ptC:List Value→Nat→Value→List Value→(List Value→Option (List Value))→Option (List Value)
 | [],_,_,acc,k=>revC acc [] k
 | _::l,0,v,acc,k=>revC acc (v::l) k
 | a::l,n+1,v,acc,k=>ptC l n v (a::acc) k
def qp (y:Nat→Value):List RV→List Oper→List Value→Option (List Value)
 | .v V::l,o::r,t=>match o.dst with
  | some d=>ptC t d V [] fun t'=>qp y l r t'
  | none=>qp y l r t
 | .r j _::l,o::r,t=>match o.dst with
  | some d=>ptC t d (y j) [] fun t'=>qp y l r t'
  | none=>qp y l r t
 | _,_,t=>some t
def idxOk:List RV→Nat→Bool
 | [],_=>true
 | .v _::l,i=>idxOk l (i+1)
 | .r j _::l,i=>(j==i)&&idxOk l (i+1)
theorem zH (k:List Value→Option (List Value)):∀(a r:List Value),revC a r k=k (a.reverse++r)
 | [],r=>rfl
 | x::a,r=>by rw[revC,zH k a];simp
theorem Du (k:List Value→Option (List Value)):∀(t:List Value) (n:Nat) (v:Value) (acc:List Value),ptC t n v acc k=k (acc.reverse++t.set n v)
 | [],n,v,acc=>by simp[ptC,zH]
 | x::t,0,v,acc=>by simp[ptC,zH]
 | x::t,n+1,v,acc=>by rw[ptC,Du k t];simp
theorem nD {y:Nat→Value} {w:World} {m:Nat}:∀(l:List RV) (r:List Oper) (k:Nat) (t:Array Value),idxOk l k=true→m=k+l.length→l.length≤r.length→(∀i,i<l.length→rl (rvs l) i (y (k+i)) w) →
  qp y l r t.toList=some (lay (fun i=>decide (i<m)) y r k t).toList
 | [],r,k,t,_,hm,_,_=>by
  have:qp y [] r t.toList=some t.toList:=by cases r<;>rfl
  rw[this]
  simp only[List.length_nil,Nat.add_zero] at hm
  subst hm
  have hno:∀(r:List Oper) (j:Nat) (t:Array Value),m≤j→lay (fun i=>decide (i<m)) y r j t=t:=by
   intro r
   induction r with
   | nil=>intro j t _;rfl
   | cons o r ih=>
    intro j t hj
    simp only[lay]
    rw[ih (j+1) _ (by omega)]
    cases o.dst with
    | none=>rfl
    | some d=>simp[show ¬j<m by omega]
  rw[hno r m t (Nat.le_refl _)]
 | a::l,[],k,t,_,_,hle,_=>by simp at hle
 | a::l,o::r,k,t,hi,hm,hle,hR=>by
  have hk:k<m:=by simp at hm;omega
  have hrest:∀i,i<l.length→rl (rvs l) i (y (k+1+i)) w:=fun i hl=>by
   have:=hR (i+1) (by simp;omega)
   rw[show k+1+i=k+(i+1) by omega]
   unfold rl at this ⊢
   simpa[rvs] using this
  cases a with
  | v V=>
   have h0:y k=V:=by
    have:=hR 0 (by simp)
    exact this
   have ih:=fun t'=>nD (m:=m) (w:=w) l r (k+1) t' hi (by rw[List.length_cons] at hm;omega) (by simpa using hle) hrest
   cases ho:o.dst with
   | none=>simp only[lay,ho,hk,decide_true,if_true,qp,ih]
   | some d=>
    simp only[lay,ho,hk,decide_true,if_true,qp,Du,h0,List.reverse_nil,List.nil_append]
    rw[←ih (t.setIfInBounds d V),Array.toList_setIfInBounds]
  | r j R=>
   have hj:j=k∧idxOk l (k+1)=true:=by
    have h' : ((j==k)&&idxOk l (k+1))=true:=hi
    simpa using h'
   obtain⟨rfl,hi'⟩:=hj
   have ih:=fun t'=>nD (m:=m) (w:=w) l r (j+1) t' hi' (by rw[List.length_cons] at hm;omega) (by simpa using hle) hrest
   cases ho:o.dst with
   | none=>simp only[lay,ho,hk,decide_true,if_true,qp,ih]
   | some d=>
    simp only[lay,ho,hk,decide_true,if_true,qp,Du,List.reverse_nil,List.nil_append]
    rw[←ih (t.setIfInBounds d (y j)),Array.toList_setIfInBounds]
end
theorem aG {P:Program} {ops:Array Oper} {Q:Exit→Act→World→Prop} {id:Nat} {t0:Array Value} {df:List Deferred} {w0:World} (m:Nat) (l:List RV)
  (hstep:aP (jC P ops ⟨t0,df⟩ w0 (rvs l)) 0 (ops.toList.take m)) {tm:(Nat→Value)→List Value} {rest:List Oper} (hf:∀y,qp y l ops.toList t0.toList=some (tm y)) (hd:wr (ops.toList.drop m)=some rest)
  (hend:∀y w,Below w0.heap.size w0 w→(∀i,i<m→rl (rvs l) i (y i) w)→wpList P ops Q rest ⟨(tm y).toArray,df⟩ w)
  (hm:P.follows .mixedOrders=true:=by kernel_rfl) (hok:fE ops=true:=by kernel_rfl) (ht:eO ops m=true:=by kernel_rfl) (hmn:m≤ops.size:=by decide) (hll:l.length=m:=by rfl) (hix:idxOk l 0=true:=by kernel_rfl)
  (hsz:fU ops t0.size=true:=by kernel_rfl):(Code.region id ops true).wp P Q ⟨t0,df⟩ w0:=by
 refine JS m (rvs l) hm hok ht hmn _ rfl hsz hstep fun y w hb hR => ?_
 have h:=hend y w hb hR
 rw[Ak hd]
 have e:=nD (m:=m) (y:=y) (w:=w) l ops.toList 0 t0 hix (by omega) (by simp;omega) fun i hi=>by rw[Nat.zero_add];exact hR i (by omega)
 show wpList P ops Q rest ⟨lay (fun i=>decide (i<m)) y ops.toList 0 t0,df⟩ w
 have e2:=Option.some.inj (e.symm.trans (hf y))
 have e3:lay (fun i=>decide (i<m)) y ops.toList 0 t0=(tm y).toArray:=by rw[←e2]
 rw[e3]
 exact h
theorem dN {P:Program} {ops:Array Oper} {Q:Exit→Act→World→Prop} {id:Nat} {t0:Array Value} {df:List Deferred} {w0:World} (m:Nat) (l:List RV) (J:(Nat→Bool)→(Nat→Value)→World→Prop) (hst:∀L y w w',Below w.heap.size w w'→J L y w→J L y w') (hJ0:∀y,J (fun _=>false) y w0)
  (hstep:aP (iB P ops ⟨t0,df⟩ J (rvs l)) 0 (ops.toList.take m)) {tm:(Nat→Value)→List Value} {rest:List Oper} (hf:∀y,qp y l ops.toList t0.toList=some (tm y)) (hd:wr (ops.toList.drop m)=some rest)
  (hend:∀y w,J (fun i=>decide (i<m)) y w→(∀i,i<m→rl (rvs l) i (y i) w)→wpList P ops Q rest ⟨(tm y).toArray,df⟩ w)
  (hfix:Fixed (rvs l):=by repeat (first | exact fix_nil | refine xM (fun _ _ _ h=>h) ?_))
  (hm:P.follows .mixedOrders=true:=by kernel_rfl) (hok:fE ops=true:=by kernel_rfl) (ht:eO ops m=true:=by kernel_rfl) (hmn:m≤ops.size:=by decide) (hll:l.length=m:=by rfl) (hix:idxOk l 0=true:=by kernel_rfl)
  (hsz:fU ops t0.size=true:=by kernel_rfl):(Code.region id ops true).wp P Q ⟨t0,df⟩ w0:=by
 refine JI m (rvs l) J hst hJ0 hfix hm hok ht hmn _ rfl hsz hstep fun y w hb hR => ?_
 have h:=hend y w hb hR
 rw[Ak hd]
 have e:=nD (m:=m) (y:=y) (w:=w) l ops.toList 0 t0 hix (by omega) (by simp;omega) fun i hi=>by rw[Nat.zero_add];exact hR i (by omega)
 show wpList P ops Q rest ⟨lay (fun i=>decide (i<m)) y ops.toList 0 t0,df⟩ w
 have e2:=Option.some.inj (e.symm.trans (hf y))
 have e3:lay (fun i=>decide (i<m)) y ops.toList 0 t0=(tm y).toArray:=by rw[←e2]
 rw[e3]
 exact h
theorem FC {y:Nat→Value} {w:World} {m:Nat} {l:List RV} {ops:Array Oper} {t0:Array Value} {tm:List Value} (hix:idxOk l 0=true) (hll:l.length=m) (hmn:m≤ops.size) (hR:∀i,i<m→rl (rvs l) i (y i) w) (hf:qp y l ops.toList t0.toList=some tm):lay (fun i=>decide (i<m)) y ops.toList 0 t0=tm.toArray:=by
 have e:=nD (m:=m) (y:=y) (w:=w) l ops.toList 0 t0 hix (by omega) (by simp;omega) fun i hi=>by rw[Nat.zero_add];exact hR i (by omega)
 have e2:=Option.some.inj (e.symm.trans hf)
 rw[←e2]
def AU {α:Type} (P:Program) (t:TypeId) (enc:α→List Value) (good:α→Prop):Prop:=
 ∀(H:Type) (e:TypeId × Value→H) (w:World) (base:Nat) (spare:Nat→Bool) (held:Bool) (fuel:Nat) (cs:List Value) (x:DataW H × List MemPlace),
  DataW.trod e P w base spare held fuel t cs=some x→∃a:α,cs=enc a∧good a
theorem uf {P:Program} {t:TypeId} (ht:P.underlying t=some (.int .i64)):AU P t (fun n:Int=>[.int .i64 n]) i64:=by
 intro H e w base spare held fuel cs x h
 obtain⟨n,rfl,_,hn⟩:=DataW.trod_int ht h
 exact⟨n,rfl,bounds_i64 hn⟩
theorem Im {P:Program} {t:TypeId} (ht:P.underlying t=some (.int .u8)):AU P t (fun b:UInt8=>[kT b]) (fun _=>True):=by
 intro H e w base spare held fuel cs x h
 obtain⟨n,rfl,_,hn⟩:=DataW.trod_int ht h
 have hb:=bounds_u8 hn
 refine⟨UInt8.ofNat n.toNat,?_,trivial⟩
 simp[kT]
 omega
theorem open_list {α:Type} {P:Program} {t e:TypeId} {enc:α→List Value} {good:α→Prop} (ht:P.underlying t=some (.slice e)) (ho:AU P e enc good) (hsz:∀x,(enc x).length=P.cellsOf e)
  {H:Type} {en:TypeId × Value→H} {w:World} {base:Nat} {spare:Nat→Bool} {held:Bool} {fuel:Nat} {cs:List Value} {x:DataW H × List MemPlace} (h:DataW.trod en P w base spare held fuel t cs=some x) :
  ∃(a:Option Addr) (l:List α) (c:Nat),cs=[.slice a l.length c]∧l.length≤c∧c≤maxLen∧(a=none→c=0)∧cZ w a (l.flatMap enc)∧∀y∈l,good y:=by
 rcases DataW.trod_slice ht h with ⟨rfl,_⟩|⟨a,len,cap,elems,rest,n,_,rfl,_,_,hle,hcap,hlen,hel,_⟩
 ·exact⟨none,[],0,rfl,Nat.le_refl _,Nat.zero_le _,fun _=>rfl,cZ.nil,fun y hy=>(by cases hy)⟩
 ·have key:∀i,i<len→∃y:α,good y∧∀j u,(enc y)[j]?=some u→w.cell? ((a.add (i*P.cellsOf e)).add j)=some u:=by
   intro i hi
   have h1:=hel i hi
   rw[List.getElem?_eq_getElem (by omega)] at h1
   obtain⟨cs',h2,h3⟩:=Option.bind_eq_some_iff.1 h1
   obtain⟨y,rfl,hy⟩:=ho H en w base spare held n cs' _ h3
   refine⟨y,hy,fun j u hj => ?_⟩
   unfold World.cells? at h2
   split at h2
   ·have h4:=mapM_some_get h2 j j (by
     have:j<(enc y).length:=by
      rcases Nat.lt_or_ge j (enc y).length with h|h
      ·exact h
      ·simp[List.getElem?_eq_none h] at hj
     rw[hsz y] at this
     simp[this])
    rw[hj] at h4
    exact h4
   ·cases h2
  have hall:=uB good (fun i y => ∀j u,(enc y)[j]?=some u→w.cell? ((a.add (i*P.cellsOf e)).add j)=some u) len key
  obtain⟨l,rfl,hg,hr⟩:=hall
  refine⟨some a,l,cap,rfl,hle,hcap,fun e=>(Option.some_ne_none _ e).elim,?_,hg⟩
  by_cases hz:P.cellsOf e=0
  ·have:l.flatMap enc=[]:=by
    apply List.eq_nil_of_length_eq_zero
    rw[flat_len enc (P.cellsOf e) hsz l,hz,Nat.mul_zero]
   rw[this]
   exact cZ.nil
  ·intro k u hk
   have hkl:k<l.length*P.cellsOf e:=by
    rw[←flat_len enc (P.cellsOf e) hsz l]
    rcases Nat.lt_or_ge k (l.flatMap enc).length with h|h
    ·exact h
    ·simp[List.getElem?_eq_none h] at hk
   have hi:k / P.cellsOf e<l.length:=Nat.div_lt_of_lt_mul (by rw[Nat.mul_comm];exact hkl)
   have hj:k%P.cellsOf e<P.cellsOf e:=Nat.mod_lt _ (Nat.pos_of_ne_zero hz)
   have hk' : k / P.cellsOf e*P.cellsOf e+k%P.cellsOf e=k:=by rw[Nat.mul_comm];exact Nat.div_add_mod k _
   have hget:(enc l[k / P.cellsOf e])[k%P.cellsOf e]?=some u:=by
    have h5:k%P.cellsOf e<(enc l[k / P.cellsOf e]).length:=by rw[hsz];exact hj
    have h6:=flat_get enc (P.cellsOf e) hsz l _ hi _ _ (List.getElem?_eq_getElem h5)
    rw[hk',hk] at h6
    rw[List.getElem?_eq_getElem h5,h6]
   have h7:=hr _ hi _ u hget
   have hspot:a.spot=none:=by
    by_cases h8:a.spot=none
    ·exact h8
    ·exfalso
     -- the first cell of all is read at the address itself
     have h0:0<l.length:=Nat.lt_of_le_of_lt (Nat.zero_le _) hi
     have h9:0<(enc l[0]).length:=by rw[hsz];omega
     have h10:=hr 0 h0 0 _ (List.getElem?_eq_getElem h9)
     simp only[Nat.zero_mul,Addr.add,if_true] at h10
     have:=World.cell?_spot h10
     exact h8 this
   obtain⟨b,off,sp⟩:=a
   subst hspot
   refine⟨b,off,rfl,?_⟩
   rw[Addr.add_lit,Addr.add_lit,Nat.add_assoc,hk'] at h7
   exact h7
open Go.ChangeShapes Go.WideShapes Go.ChangeAt
def rf {α:Type} (P:Program) (t:TypeId) (enc:α→List Value) (good:World→α→Prop):Prop:=
 ∀(H:Type) (e:TypeId × Value→H) (w:World) (base:Nat) (spare:Nat→Bool) (held:Bool) (fuel:Nat) (cs:List Value) (x:DataW H × List MemPlace),
  DataW.trod e P w base spare held fuel t cs=some x→∃a:α,cs=enc a∧good w a
theorem AU.w {α:Type} {P:Program} {t:TypeId} {enc:α→List Value} {good:α→Prop} (h:AU P t enc good):rf P t enc (fun _=>good):=h
def pJ {α:Type} (P:Program) (fs:Array Field) (L k off:Nat) (enc:α→List Value) (good:World→α→Prop):Prop:=
 ∀(H:Type) (e:TypeId × Value→H) (w:World) (base:Nat) (spare:Nat→Bool) (held:Bool) (n:Nat) (cs:List Value) (xs:List (DataW H × List MemPlace)),cs.length=L→xs.length=fs.size →
  (∀(i:Nat) (f:Field),fs[i]?=some f→DataW.trod e P w base spare held n f.type ((cs.drop f.offset).take (P.cellsOf f.type))=xs[i]?)→∃a:α,cs.drop off=enc a∧good w a
theorem xW {P:Program} {fs:Array Field} {L k off:Nat} (h:L=off):pJ P fs L k off (fun _:Unit=>[]) (fun _ _=>True):=by
 intro H e w base spare held n cs xs hl _ _
 exact⟨(),by rw[List.drop_eq_nil_of_le (by omega)],trivial⟩
theorem lN {α β:Type} {P:Program} {fs:Array Field} {L k off:Nat} {f:Field} {enc:α→List Value} {good:World→α→Prop} {enc' : β→List Value} {good' : World→β→Prop} (hf:fs[k]?=some f) (off' : Nat) (ho:f.offset=off) (hn:off+P.cellsOf f.type=off') (h0:rf P f.type enc good)
  (h1:pJ P fs L (k+1) off' enc' good'):pJ P fs L k off (fun x:α × β=>enc x.1++enc' x.2) (fun w x=>good w x.1∧good' w x.2):=by
 intro H e w base spare held n cs xs hl hx h
 subst hn
 obtain⟨b,hb,gb⟩:=h1 H e w base spare held n cs xs hl hx h
 have hk:k<xs.length:=by
  rw[hx]
  exact (Array.getElem?_eq_some_iff.1 hf).1
 have h2:=h k f hf
 rw[List.getElem?_eq_getElem hk,ho] at h2
 obtain⟨a,ha,ga⟩:=h0 H e w base spare held n _ _ h2
 refine⟨(a,b),?_,ga,gb⟩
 show _=enc a++enc' b
 rw[←ha,←hb,←List.drop_drop,List.take_append_drop]
theorem zn {α:Type} {P:Program} {t:TypeId} {fs:Array Field} {enc:α→List Value} {good:World→α→Prop} (ht:P.underlying t=some (.struct fs)) (h:pJ P fs (P.cellsOf t) 0 0 enc good):rf P t enc good:=by
 intro H e w base spare held fuel cs x hx
 obtain⟨xs,n,_,_,hl,hn,hel⟩:=DataW.trod_struct ht hx
 exact h H e w base spare held n cs xs hl hn hel
theorem rf.of {α β:Type} {P:Program} {t:TypeId} {enc:α→List Value} {good:World→α→Prop} {enc' : β→List Value} {good' : World→β→Prop} (h:rf P t enc good) (g:α→β) (he:∀a,enc a=enc' (g a)) (hg:∀w a,good w a→good' w (g a)):rf P t enc' good':=by
 intro H e w base spare held fuel cs x hx
 obtain⟨a,ha,ga⟩:=h H e w base spare held fuel cs x hx
 exact⟨g a,by rw[ha,he],hg w a ga⟩
end Pw
namespace Go.Proofs.YtjkkoeijlhfneaaGreat
open Go.ChangeShapes Go.WideShapes Go.ChangeAt Go.RowKit Go.Maps Pw
theorem ic {w:World} {B:Nat} {e:TypeId} {sz:Nat} {v:Value} {n:Nat} {xs:List Value} (h:Own w B e sz v n xs) (g:Nat) (hg:v.ownBlock=some g):∃cs,aF w g cs e:=by
 rcases h.2 with ⟨rfl,_⟩|⟨g2,off,cap,cur,rfl,_,hb,_⟩
 ·cases hg
 ·cases hg
  exact⟨_,hb⟩
theorem jA {w w' : World} {B:Nat} {e:TypeId} {sz:Nat} {v:Value} {n:Nat} {xs:List Value} {b:Nat} {cs:Array Value} {T:TypeId} (h:aF w b cs T) (ho:Own w B e sz v n xs) (hT:T≠e) (hg:w.grownBy w' v.ownBlock):aF w' b cs T:=
 h.grown hg (fun he=>own_ne ho h hT b he rfl)
theorem Ep {w w' : World} {B B' : Nat} {e e' : TypeId} {sz sz' : Nat} {v v' : Value} {n n' : Nat} {xs xs' : List Value} (h:Own w B e sz v n xs) (ho:Own w B' e' sz' v' n' xs') (hT:e'≠e) (hg:w.grownBy w' v'.ownBlock):Own w' B e sz v n xs:=
 h.grown hg (fun g hv he=>by
  obtain⟨cs,hk⟩:=ic ho g he
  exact own_ne h hk hT g hv rfl)
theorem bD {w w' : World} {b g:Nat} {cs cs' : Array Value} {T T' : TypeId} (h:aF w b cs T) (hk:aF w g cs' T') (hT:T'≠T) (hgr:w.grownBy w' (some g)):aF w' b cs T:=
 h.grown hgr (fun he=>by
  cases he
  unfold aF at h hk
  rw[hk] at h
  simp only[Option.some.injEq,Obj.cells.injEq] at h
  exact hT h.2.1)
theorem JG (a b:Option Addr) (n c m e:Nat):(#[Value.slice a n c,Value.slice b m e]:Array Value).all (·.oneCell')=true:=by simp[Value.oneCell']
theorem oZ {α:Type} {enc:α→List Value} {sz:Nat} (hsz:∀x,(enc x).length=sz) (hp:0<sz) {w:World} {B n:Nat} {e:TypeId} {v:Value} {l:List α} (hl:l.length=n) (h:Own w B e sz v n (l.flatMap enc)) (k:Nat) (hk:k<n) :
  ∃g off cap cur,v = .slice (some ⟨g,off,none⟩) n cap∧B≤g∧aF w g cur e∧off+k*sz+sz≤cur.size ∧
   ∀w' x,aF w' g (bC cur (off+k*sz) (enc x)) e→Own w' B e sz v n ((l.set k x).flatMap enc):=by
 subst hl
 obtain⟨g,off,cap,cur,h1,h2,h3,h4,_,h6⟩:=h.put hsz hp k hk
 exact⟨g,off,cap,cur,h1,h2,h3,h4,h6⟩
theorem Jl {w w' : World} {B:Nat} {e:TypeId} {sz:Nat} {v:Value} {n:Nat} {xs:List Value} (h:Own w B e sz v n xs) (hg:w.grownBy w' none):Own w' B e sz v n xs:=h.grown hg (by simp)
theorem wm {α:Type} {enc:α→List Value} {sz:Nat} (hsz:∀x,(enc x).length=sz) (hp:0<sz) {w:World} {B n:Nat} {e:TypeId} {v:Value} {l:List α} (hl:l.length=n) (h:Own w B e sz v n (l.flatMap enc)) (k:Nat) (hk:k<n) (j:Nat) (hj:j<sz) (u:Value) (x:α)
  (hx:enc x=(enc (l[k]'(by omega))).set j u) :
  ∃g off cap,v = .slice (some ⟨g,off,none⟩) n cap∧B≤g∧g<w.heap.size∧(∃cs,aF w g cs e)∧(∀i y,(enc (l[k]'(by omega)))[i]?=some y→w.cell? ⟨g,off+k*sz+i,none⟩=some y)∧w.frozen? ⟨g,off+k*sz+j,none⟩=false ∧
   Own (w.setCell ⟨g,off+k*sz+j,none⟩ u) B e sz v n ((l.set k x).flatMap enc):=by
 subst hl
 obtain⟨g,off,cap,cur,h1,h2,h3,h4,h5,h6⟩:=h.put hsz hp k hk
 refine⟨g,off,cap,h1,h2,h3.lt,⟨_,h3⟩,h5,h3.free _,h6 _ x ?_⟩
 have he:bC cur (off+k*sz) (enc x)=cur.setIfInBounds (off+k*sz+j) u:=by
  apply Array.ext_getElem?
  intro i
  by_cases hi:off+k*sz≤i∧i<off+k*sz+sz
  ·obtain⟨m,rfl⟩:∃m,i=off+k*sz+m:=⟨i-(off+k*sz),by omega⟩
   have hm:m<(enc x).length:=by rw[hsz];omega
   rw[putAt_in _ _ _ m (enc x)[m] (by rw[hsz];omega) (List.getElem?_eq_getElem hm)]
   by_cases hmj:m=j
   ·subst hmj
    rw[Array.getElem?_setIfInBounds_self_of_lt (by omega)]
    simp[hx]
   ·rw[Array.getElem?_setIfInBounds_ne (by omega)]
    have hm' : m<(enc l[k]).length:=by rw[hsz];omega
    have:=h5 m (enc l[k])[m] (List.getElem?_eq_getElem hm')
    rw[h3.cell] at this
    rw[this]
    simp[hx,List.getElem_set_ne (fun e=>hmj e.symm)]
  ·rw[putAt_out _ _ _ _ (by rw[hsz];omega),Array.getElem?_setIfInBounds_ne (by omega)]
 rw[he]
 exact h3.setCell _ _
theorem zM {w:World} {b o:Nat} {v:Value} (h:w.cell? ⟨b,o,none⟩=some v):b<w.heap.size:=by
 rcases Nat.lt_or_ge b w.heap.size with h1|h1
 ·exact h1
 ·simp[World.cell?,Array.getElem?_eq_none h1] at h
theorem LV {w:World} {X Y:Array Value} {TX TY:TypeId} (m:World→Prop) (h:∀W,Below w.heap.size w W→aF W w.heap.size X TX→aF W (w.heap.size+1) Y TY→m W):m (((w.alloc (.cells X TX)).alloc (.cells Y TY)).drew):=
 h _ (below_drewN (((Below.refl _ _).alloc (Nat.le_refl _) _).alloc (dR _ _) _) 1) ((aF.new _ _ _).alloc _) (by have h1:=aF.new (w.alloc (.cells X TX)) Y TY;have h2:aF ((w.alloc (.cells X TX)).alloc (.cells Y TY)) (w.heap.size+1) Y TY:=(by simpa using h1);exact h2)
theorem CB {H:Type} {P:Program} {w w' : World} {k:TypeId} {R:Value→Option (DataW H × List MemPlace)} {b n:Nat} {D:DataW H} (h:w.ownsMap P k R b n D) (hb:Below w.heap.size w w'):w'.ownsMap P k R b n D:=by
 have hl:=h.lt
 obtain⟨es,clock,h1,r⟩:=h
 exact⟨es,clock,(hb.block b hl).trans h1,r⟩
end Go.Proofs.YtjkkoeijlhfneaaGreat