import Derived.WalkKit
import Derived.ProofKit
import Derived.SizedLaws
import Derived.Maps.Own
import Derived.WalkSpells
import Derived.WalkLawsBesides
import Derived.ArgAppend
import Derived.Deep.MidRow
import Derived.Deep.Slices
import Derived.Laws.AppendOwnNone
import Derived.Laws.CopyOwn
import Derived.Laws.OwnMore
import Derived.Lib.Hide
import Derived.Maps.Range
import Derived.Maps.Views
import Derived.OpenShut
import Derived.Orders
import Derived.OwnWalk
set_option linter.unusedSimpArgs false
set_option linter.unusedVariables false
set_option maxHeartbeats 4000000
set_option maxRecDepth 100000
namespace Pw
open Go Go.RowKit
abbrev Page:=Vector UInt8 8
theorem Ku (p q:Page):(p==q)=((p[0]==q[0])&&(p[1]==q[1])&&(p[2]==q[2])&&(p[3]==q[3])&&(p[4]==q[4])&&(p[5]==q[5])&&(p[6]==q[6])&&(p[7]==q[7])):=by
 rw[Bool.eq_iff_iff]
 simp only[beq_iff_eq,Bool.and_eq_true]
 constructor
 ·rintro rfl;simp
 ·rintro⟨⟨⟨⟨⟨⟨⟨h0,h1⟩,h2⟩,h3⟩,h4⟩,h5⟩,h6⟩,h7⟩
  ext i hi
  match i,hi with
  | 0,_=>rw[h0]
  | 1,_=>rw[h1]
  | 2,_=>rw[h2]
  | 3,_=>rw[h3]
  | 4,_=>rw[h4]
  | 5,_=>rw[h5]
  | 6,_=>rw[h6]
  | 7,_=>rw[h7]
  | n+8,h=>omega
theorem Ph (a b:UInt8):((a.toNat:Int)==(b.toNat:Int))=(a==b):=by
 rw[Bool.eq_iff_iff]
 simp only[beq_iff_eq,Int.natCast_inj,UInt8.toNat_inj]
def gD (p:Page) (a:Int) (k:Nat):Page:=Vector.ofFn fun i:Fin 8=>if a≤(i.val:Int)∧i.val<k then 0 else p[i.val]
def dU (p:Page) (a:Int):Page:=Vector.ofFn fun i:Fin 8=>if a≤(i.val:Int) then 0 else p[i.val]
theorem vG (p:Page) (a:Int) (k:Nat) (h:8≤k):gD p a k=dU p a:=by
 ext i hi
 simp only[gD,dU,Vector.getElem_ofFn]
 have hk:i<k:=by omega
 simp[hk]
theorem uU (p:Page) (a:Int) (k:Nat) (h:k<8) (ha:a≤k):(gD p a k).set k 0=gD p a (k+1):=by
 ext i hi
 simp only[gD,Vector.getElem_ofFn,Vector.getElem_set]
 by_cases e:k=i
 ·subst e;simp[ha]
 ·simp only[e,if_false]
  by_cases c:a≤(i:Int)∧i<k
  ·rw[if_pos c,if_pos ⟨c.1,by omega⟩]
  ·rw[if_neg c,if_neg (by omega)]
def bL (L:Nat→Bool) (i:Nat):Nat→Bool:=fun k=>if k=i then true else L k
def wr {α:Type}:List α→Option (List α)
 | []=>some []
 | a::r=>some (a::r)
theorem GN {α:Type} {a b:List α} (h:wr a=some b):a=b:=by cases a<;>cases h<;>rfl
def i64 (n:Int):Prop:=-9223372036854775808≤n∧n≤9223372036854775807
theorem vZ {α:Type} (good:α→Prop) (R:Nat→α→Prop):∀(len:Nat),(∀i,i<len→∃y:α,good y∧R i y)→∃l:List α,l.length=len∧(∀y∈l,good y)∧∀i (hi:i<l.length),R i l[i]
 | 0,_=>⟨[],rfl,fun y hy=>(by cases hy),fun i hi=>absurd hi (Nat.not_lt_zero _)⟩
 | len+1,key=>by
  obtain⟨l,hl,hg,hr⟩:=vZ good R len (fun i hi=>key i (by omega))
  obtain⟨y,hy,hyr⟩:=key len (by omega)
  refine⟨l++[y],by simp[hl],?_,?_⟩
  ·intro z hz
   rcases List.mem_append.1 hz with hz|hz
   ·exact hg z hz
   ·rw[List.mem_singleton.1 hz];exact hy
  ·intro i hi
   by_cases hil:i<l.length
   ·rw[List.getElem_append_left hil];exact hr i hil
   ·have hi' : i=len:=by simp at hi;omega
    subst hi'
    rw[List.getElem_append_right (by omega)]
    simpa[hl] using hyr
end Pw
namespace Go.Proofs.YtjkkoeijlhfneaaGreat
open Go.ChangeShapes Go.WideShapes Go.ChangeAt Go.RowKit Go.Maps Pw
variable {k n:Nat}
theorem kX {P:∀i,i<n→Prop} (hp:∀i (h:i<n),i<k→P i h) (hlt:k<n) (hk:P k hlt):∀i (h:i<n),i<k+1→P i h:=by
 intro i h hi
 by_cases e:i=k
 ·subst e;exact hk
 ·exact hp i h (by omega)
end Go.Proofs.YtjkkoeijlhfneaaGreat
namespace Pw
open Go Go.RowKit
variable {fuel i q:Nat} {l:List Int}
theorem qW {listed:Array Bool} (hi:i<listed.size) (q:Nat) (hq:listed.getD q false=true):(listed.setIfInBounds i true).getD q false=true:=by
 by_cases hqi:q=i
 ·subst hqi;simp[Array.getD_eq_getD_getElem?,hi]
 ·simpa[Array.getD_eq_getD_getElem?,Array.getElem?_setIfInBounds_ne (Ne.symm hqi)] using hq
theorem mD {listed:Array Bool} (h:q≠i):(listed.setIfInBounds i true).getD q false=listed.getD q false:=by
 simp[Array.getD_eq_getD_getElem?,Array.getElem?_setIfInBounds_ne (Ne.symm h)]
theorem DR {listed:Array Bool} (hi:i<listed.size):(listed.setIfInBounds i true).getD i false=true:=by
 simp[Array.getD_eq_getD_getElem?,hi]
theorem yI {listed:Array Bool} (hi:i<listed.size) (h1:listed.getD i true=false) (hc:listed.toList.countP (!·)≤fuel+1):(listed.setIfInBounds i true).toList.countP (!·)≤fuel:=by
 have hil:i<listed.toList.length:=by simp;omega
 have hfalse:listed.toList[i]=false:=by
  simpa[Array.getD_eq_getD_getElem?,hi] using h1
 have:=List.countP_set (p:=(!·)) (l:=listed.toList) (i:=i) (a:=true) hil
 rw[hfalse] at this
 have hpos:0<listed.toList.countP (!·):=List.countP_pos_iff.2 ⟨listed.toList[i],List.getElem_mem hil,by rw[hfalse];rfl⟩
 simp only[Array.toList_setIfInBounds]
 simp only[Bool.not_false,Bool.not_true,if_true,Bool.false_eq_true,if_false] at this
 omega
open Go.ChangeShapes Go.WideShapes Go.ChangeAt
def firstE:List Int→Int
 | []=>0
 | x::r=>if x=0 then firstE r else x
theorem nO (h:∀i (hi:i<l.length),l[i]=0):firstE l=0:=by
 induction l with
 | nil=>rfl
 | cons x r ih=>
  have h0:=h 0 (by simp)
  simp at h0
  simp only[firstE,h0,if_true]
  exact ih fun i hi=>by have:=h (i+1) (by simpa using hi);simpa using this
theorem qQ (k:Nat) (hk:k<l.length) (h:∀i (hi:i<l.length),i<k→l[i]=0) (hne:l[k]≠0):firstE l=l[k]:=by
 induction l generalizing k with
 | nil=>simp at hk
 | cons x r ih=>
  cases k with
  | zero=>simp at hne;simp[firstE,hne]
  | succ k=>
   have h0:=h 0 (by simp) (by omega)
   simp at h0
   simp only[firstE,h0,if_true,List.getElem_cons_succ]
   exact ih k (by simpa using hk) (fun i hi hik=>by have:=h (i+1) (by simpa using hi) (by omega);simpa using this) (by simpa using hne)
theorem filter_all {α:Type} (p q:α→Bool) (l:List α):(l.filter p).all (fun e => !p e||q e)=l.all (fun e => !p e||q e):=by
 induction l with
 | nil=>rfl
 | cons x l ih=>
  cases hp:p x
  ·rw[List.filter_cons_of_neg (by simp[hp]),ih];simp[hp]
  ·rw[List.filter_cons_of_pos (by simp[hp])];simp[hp,ih]
end Pw
namespace Go.Proofs.YtjkkoeijlhfneaaGreat
open Go.RowKit Pw
variable {I K b i j k n q r:Nat} {l:List Int} {lo:Int}
def idx {α:Type} (f:α→Bool) (l:List α):Int:=match l.findIdx? f with
 | some k=>k
 | none => -1
theorem oh {α:Type} (f:α→Bool) (l:List α) (k:Nat) (h:k<l.length) (hp:∀i (h:i<l.length),i<k→f l[i]=false) (hk:f l[k]=true):idx f l=k:=by
 unfold idx
 rw[List.findIdx?_eq_some_iff_getElem.2 ⟨h,hk,fun j hj=>by simpa using hp j (by omega) hj⟩]
theorem jM {α:Type} (f:α→Bool) (l:List α) (hp:∀i (h:i<l.length),f l[i]=false):idx f l = -1:=by
 unfold idx
 rw[List.findIdx?_eq_none_iff.2 fun x hx=>by
  obtain⟨i,hi,rfl⟩:=List.mem_iff_getElem.1 hx
  exact hp i hi]
theorem uW {α:Type} (f:α→Bool) (l:List α):(idx f l = -1∧∀i (h:i<l.length),f l[i]=false)∨∃k:Nat,∃h:k<l.length,idx f l=k∧f l[k]=true∧∀i (h:i<l.length),i<k→f l[i]=false:=by
 unfold idx
 cases e:l.findIdx? f with
 | none=>exact .inl ⟨rfl,fun i h=>List.findIdx?_eq_none_iff.1 e _ (List.getElem_mem h)⟩
 | some k=>
  obtain⟨h,hk,hp⟩:=List.findIdx?_eq_some_iff_getElem.1 e
  exact .inr ⟨k,h,rfl,hk,fun i _ hi=>by simpa using hp i hi⟩
theorem lF {α:Type} (f:α→Bool) (l:List α):decide (0≤idx f l)=l.any f:=by
 rcases uW f l with ⟨e,h⟩|⟨k,hk,e,h,_⟩
 ·rw[e]
  symm
  simp only[show decide ((0:Int)≤-1)=false from rfl,List.any_eq_false]
  intro x hx
  obtain⟨i,hi,rfl⟩:=List.mem_iff_getElem.1 hx
  simpa using h i hi
 ·rw[e]
  symm
  simp only[show decide ((0:Int)≤(k:Int))=true from by simp,List.any_eq_true]
  exact⟨_,List.getElem_mem hk,h⟩
theorem upto {P:∀i,i<n→Prop} (hp:∀i (h:i<n),i<k→P i h) (hlt:k<n) (hk:P k hlt):∀i (h:i<n),i<k+1→P i h:=by
 intro i h hi
 by_cases e:i=k
 ·subst e;exact hk
 ·exact hp i h (by omega)
open Go.Maps
structure Pj (D:DataW Unit) (f:Int→Bool):Prop where
 is:IsMap D
 at_:∀j:Int,D.atKey (.int .i64 j) (.lit (.bool false)) = .lit (.bool (f j))
theorem Pj.empty:Pj (.map []) (fun _=>false):=⟨isMap_empty,fun j=>rfl⟩
theorem Pj.put {D:DataW Unit} {f:Int→Bool} (h:Pj D f) (k:Int):Pj (D.put (.int .i64 k) (.lit (.bool true))) (fun j=>f j||decide (j=k)):=by
 refine⟨h.is.put _ _,fun j => ?_⟩
 by_cases e:j=k
 ·subst e
  rw[atKey_put_same h.is (by trivial)]
  simp
 ·rw[atKey_put_other (by intro e2;exact e (by cases e2;rfl)),h.at_ j]
  simp[e]
def dO (n:Int):Int:=if n≤0 then 0 else (n-1) / 8+1
def rJ (n:Int):Bool:=decide (n<0)||decide (1000<n)
def bU (l:List Int):Int:=if 60<l.length then 4 else if l.any rJ then 3 else 0
def AP (n:Int):Bool:=n==0
def wG (n:Int):List Int:=if 0≤n∧n≤60 then List.replicate n.toNat 0 else []
def Bz (n:Int):Int:=if 0≤n∧n≤60 then 0 else 4
theorem MR (l:List Int) (k:Nat) (hk:k<l.length) (h0:bU l=0):0≤l[k]∧l[k]≤1000:=by
 unfold bU at h0
 split at h0
 ·omega
 split at h0
 ·omega
 rename_i h
 have h1:rJ l[k]=false:=by
  have:=List.any_eq_false.1 (by simpa using h) _ (List.getElem_mem hk)
  simpa using this
 simp[rJ] at h1
 exact h1
theorem gI (h:bU l=0):l.length≤60:=by
 unfold bU at h
 split at h
 ·omega
 ·omega
def eY (l:List Int) (n:Int):Int:=if bU l≠0 then bU l else if n<1∨1000<n then 3 else if idx AP l<0 then 10 else 0
def il (l:List Int) (n:Int):Int:=if eY l n=0 then idx AP l else 0
def jA (l:List Int) (n:Int):List Int:=if eY l n=0 then l.set (idx AP l).toNat n else []
theorem Eo (n:Int) (h:bU l≠0):eY l n=bU l∧il l n=0∧jA l n=[]:=by
 have:eY l n=bU l:=by unfold eY;rw[if_pos h]
 exact⟨this,by unfold il;rw[this,if_neg h],by unfold jA;rw[this,if_neg h]⟩
theorem Eb {n:Int} (h0:bU l=0) (h:n<1∨1000<n):eY l n=3∧il l n=0∧jA l n=[]:=by
 have:eY l n=3:=by unfold eY;rw[if_neg (by omega),if_pos h]
 exact⟨this,by unfold il;rw[this];rfl,by unfold jA;rw[this];rfl⟩
theorem EB {n:Int} (h0:bU l=0) (h:1≤n∧n≤1000) (hf:idx AP l = -1):eY l n=10∧il l n=0∧jA l n=[]:=by
 have:eY l n=10:=by unfold eY;rw[if_neg (by omega),if_neg (by omega),if_pos (by omega)]
 exact⟨this,by unfold il;rw[this];rfl,by unfold jA;rw[this];rfl⟩
theorem Jm {n:Int} (h0:bU l=0) (h:1≤n∧n≤1000) (hf:idx AP l=k):eY l n=0∧il l n=k∧jA l n=l.set k n:=by
 have:eY l n=0:=by unfold eY;rw[if_neg (by omega),if_neg (by omega),if_neg (by omega)]
 exact⟨this,by unfold il;rw[this,if_pos rfl,hf],by unfold jA;rw[this,if_pos rfl,hf];rfl⟩
def Bc (l:List Int) (k:Int):Int:=l.getD k.toNat 0
def eD (l:List Int) (k n:Int):Int:=if bU l≠0 then bU l else if k<0∨l.length≤k∨Bc l k=0 then 5 else if n < -Bc l k∨1000-Bc l k<n then 3 else 0
def eF (l:List Int) (k n:Int):List Int:=if eD l k n=0 then l.set k.toNat (Bc l k+n) else []
theorem Ev (k n:Int) (h:bU l≠0):eD l k n=bU l∧eF l k n=[]:=by
 have:eD l k n=bU l:=by unfold eD;rw[if_pos h]
 exact⟨this,by unfold eF;rw[this,if_neg h]⟩
theorem zY {k n:Int} (h0:bU l=0) (h:k<0∨l.length≤k∨Bc l k=0):eD l k n=5∧eF l k n=[]:=by
 have:eD l k n=5:=by unfold eD;rw[if_neg (by omega),if_pos h]
 exact⟨this,by unfold eF;rw[this];rfl⟩
theorem Ea {k n:Int} (h0:bU l=0) (h:¬(k<0∨l.length≤k∨Bc l k=0)) (hr:n < -Bc l k∨1000-Bc l k<n):eD l k n=3∧eF l k n=[]:=by
 have:eD l k n=3:=by unfold eD;rw[if_neg (by omega),if_neg h,if_pos hr]
 exact⟨this,by unfold eF;rw[this];rfl⟩
theorem Ji {k n:Int} (h0:bU l=0) (h:¬(k<0∨l.length≤k∨Bc l k=0)) (hr:¬(n < -Bc l k∨1000-Bc l k<n)):eD l k n=0∧eF l k n=l.set k.toNat (Bc l k+n):=by
 have:eD l k n=0:=by unfold eD;rw[if_neg (by omega),if_neg h,if_neg hr]
 exact⟨this,by unfold eF;rw[this,if_pos rfl]⟩
theorem ND (h:k<l.length):Bc l k=l[k]:=by simp[Bc,h]
structure nN where
 blocks:List Page
 queue:List (Int × Page)
def zPg:Page:=#v[0,0,0,0,0,0,0,0]
def qo (n:Nat) (q:Int × Page):Bool:=decide (q.1<0)||decide ((n:Int)≤q.1)
def bn (d:nN):Int:=if 80<d.blocks.length∨400<d.queue.length then 4 else if d.queue.any (qo d.blocks.length) then 3 else 0
def aH (d:nN) (at_:Int):Int:=if bn d≠0 then bn d else if at_<0∨d.blocks.length≤at_ then 3 else 0
def over (k:Int) (p:Page) (q:List (Int × Page)):Page:=q.foldl (fun p x=>if x.1=k then x.2 else p) p
theorem uX (k:Int) (p:Page) (q:List (Int × Page)) (x:Int × Page):over k p (q++[x])=if x.1=k then x.2 else over k p q:=by simp[over,List.foldl_append]
theorem Jg (k:Int) (p:Page) (q:List (Int × Page)) (i:Nat) (h:i<q.length):over k p (q.take (i+1))=if q[i].1=k then q[i].2 else over k p (q.take i):=by
 rw[List.take_add_one,List.getElem?_eq_getElem h,Option.toList,uX]
def ji (d:nN) (k:Int):Page:=if aH d k=0 then over k (d.blocks.getD k.toNat zPg) d.queue else zPg
def gK (d:nN) (x:Int × Page):nN:=
 match d.queue with
 | []=>⟨d.blocks,[x]⟩
 | q::r=>if (q::r).length=400 then ⟨d.blocks.set q.1.toNat q.2,r++[x]⟩ else ⟨d.blocks,(q::r)++[x]⟩
theorem Ja (d:nN) (x:Int × Page) (h:d.queue.length≠400):gK d x=⟨d.blocks,d.queue++[x]⟩:=by
 unfold gK
 split
 ·rename_i e;rw[e];rfl
 ·rename_i q r e;rw[e] at h;rw[if_neg h,e]
theorem IL (d:nN) (x:Int × Page) (h:d.queue.length=400):gK d x=⟨d.blocks.set (d.queue[0]'(by omega)).1.toNat (d.queue[0]'(by omega)).2,d.queue.drop 1++[x]⟩:=by
 obtain⟨B,Q⟩:=d
 unfold gK
 cases Q with
 | nil=>simp at h
 | cons q r=>simp only[if_pos h];rfl
def bT (d:nN) (k:Int) (p:Page):nN:=if aH d k=0 then gK d (k,p) else ⟨[],[]⟩
theorem uT {d:nN} (h:bn d=0):d.blocks.length≤80∧d.queue.length≤400:=by
 unfold bn at h
 split at h
 ·omega
 ·omega
theorem uS {d:nN} (h:bn d=0) (i:Nat) (hi:i<d.queue.length):0≤d.queue[i].1∧d.queue[i].1<d.blocks.length:=by
 unfold bn at h
 split at h
 ·omega
 split at h
 ·omega
 rename_i h1
 have:=List.any_eq_false.1 (by simpa using h1) _ (List.getElem_mem hi)
 simp[qo] at this
 omega
def kV (b:Int) (i:Nat):Bool:=Go.bits BinOp.and IntKind.i64 (b / 2 ^ (i%60)) 1==1
def lZ (n:Int):nN:=if 0≤n∧n≤80 then ⟨List.replicate n.toNat zPg,[]⟩ else ⟨[],[]⟩
def GY (n:Int):Int:=if 0≤n∧n≤80 then 0 else 4
def ng (f:Nat→Bool) (B:List Page) (Q:List (Int × Page)):Nat→List Page
 | 0=>B
 | k+1=>match Q[k]? with
  | some q=>if f k then (ng f B Q k).set q.1.toNat q.2 else ng f B Q k
  | none=>ng f B Q k
theorem zM (f:Nat→Bool) (B:List Page) (Q:List (Int × Page)) (k:Nat):(ng f B Q k).length=B.length:=by
 induction k with
 | zero=>rfl
 | succ k ih=>
  unfold ng
  split
  ·split
   ·rw[List.length_set,ih]
   ·exact ih
  ·exact ih
theorem IM {f:Nat→Bool} {B:List Page} {Q:List (Int × Page)} (h:k<Q.length) (hf:f k=true):ng f B Q (k+1)=(ng f B Q k).set Q[k].1.toNat Q[k].2:=by
 rw[ng,List.getElem?_eq_getElem h]
 simp[hf]
theorem Ii {f:Nat→Bool} {B:List Page} {Q:List (Int × Page)} (h:k<Q.length) (hf:f k=false):ng f B Q (k+1)=ng f B Q k:=by
 rw[ng,List.getElem?_eq_getElem h]
 simp[hf]
def yE (f:Nat→Bool) (d:nN):nN:=if bn d=0 then ⟨ng f d.blocks d.queue d.queue.length,[]⟩ else ⟨[],[]⟩
theorem Ka (k:Int) (p:Page) (q:Int × Page) (r:List (Int × Page)):over k p (q::r)=over k (if q.1=k then q.2 else p) r:=rfl
theorem gL (d:nN):bn d=0↔d.blocks.length≤80∧d.queue.length≤400∧∀x∈d.queue,0≤x.1∧x.1<d.blocks.length:=by
 unfold bn
 constructor
 ·intro h
  split at h
  ·omega
  split at h
  ·omega
  rename_i h1 h2
  refine⟨by omega,by omega,fun x hx => ?_⟩
  have:=List.any_eq_false.1 (by simpa using h2) x hx
  simp[qo] at this
  omega
 ·rintro⟨h1,h2,h3⟩
  rw[if_neg (by omega),if_neg]
  simp only[List.any_eq_true,not_exists,not_and]
  intro x hx
  have:=h3 x hx
  simp[qo]
  omega
theorem nT {d:nN} {k:Int}:aH d k=0↔bn d=0∧0≤k∧k<d.blocks.length:=by
 unfold aH
 constructor
 ·intro h
  split at h
  ·omega
  split at h
  ·omega
  ·omega
 ·rintro⟨h1,h2,h3⟩
  rw[if_neg (by omega),if_neg (by omega)]
theorem qI (d:nN) (x:Int × Page):(gK d x).blocks.length=d.blocks.length:=by
 unfold gK
 split
 ·rfl
 ·split
  ·simp
  ·rfl
theorem sM {d:nN} {x:Int × Page} (h:bn d=0) (h0:0≤x.1) (h1:x.1<d.blocks.length):bn (gK d x)=0:=by
 obtain⟨h2,h3,h4⟩:=(gL d).1 h
 rw[gL,qI]
 refine⟨h2,?_,?_⟩
 ·unfold gK
  split
  ·simp
  ·rename_i q r e
   rw[e] at h3
   split
   ·rename_i e4;simp at e4 ⊢; omega
   ·rename_i e4;simp at e4 h3 ⊢; omega
 ·intro y hy
  have:y=x∨y∈d.queue:=by
   unfold gK at hy
   split at hy
   ·simp at hy;exact .inl hy
   ·rename_i q r e
    rw[e]
    split at hy
    ·simp at hy ⊢; rcases hy with h | h
     ·exact .inr (.inr h)
     ·exact .inl h
    ·simp at hy ⊢; rcases hy with h | h | h
     ·exact .inr (.inl h)
     ·exact .inr (.inr h)
     ·exact .inl h
  rcases this with rfl|h
  ·exact⟨h0,h1⟩
  ·exact h4 y h
theorem IV (d:nN) (x:Int × Page) (o:Int) (hq:∀y∈d.queue,0≤y.1∧y.1<d.blocks.length) (ho:0≤o) (ho' : o<d.blocks.length) :
  over o ((gK d x).blocks.getD o.toNat zPg) (gK d x).queue=if x.1=o then x.2 else over o (d.blocks.getD o.toNat zPg) d.queue:=by
 unfold gK
 split
 ·rename_i e
  rw[e]
  rfl
 ·rename_i q r e
  split
  ·have hq':=hq q (by rw[e];exact List.mem_cons_self ..)
   rw[uX]
   congr 1
   rw[e,Ka]
   congr 1
   simp only[List.getD_eq_getElem?_getD,List.getElem?_set]
   by_cases hqo:q.1=o
   ·rw[if_pos hqo,if_pos (by rw[hqo]),if_pos (by rw[hqo];omega)]
    rfl
   ·rw[if_neg hqo,if_neg (by omega)]
  ·rw[e,uX]
theorem BD {d:nN} {x:Int × Page} (h:bn d=0) (h0:0≤x.1) (h1:x.1<d.blocks.length) (o:Int):aH (gK d x) o=aH d o:=by
 unfold aH
 rw[sM h h0 h1,h,qI]
theorem rD {d:nN} {x:Int × Page} (h:bn d=0) (h0:0≤x.1) (h1:x.1<d.blocks.length) (o:Int):ji (gK d x) o=if aH d o=0∧x.1=o then x.2 else ji d o:=by
 unfold ji
 rw[BD h h0 h1]
 by_cases ho:aH d o=0
 ·obtain⟨_,g0,g1⟩:=nT.1 ho
  rw[if_pos ho,if_pos ho,IV d x o ((gL d).1 h).2.2 g0 g1]
  simp[ho]
 ·rw[if_neg ho,if_neg ho,if_neg (fun h=>ho h.1)]
def d3:nN:=⟨[zPg,zPg,zPg],[]⟩
structure Fr where
 p:Page
 r:Int
 u:Bool
 d:Bool
 f:Int
 i:Int
 deriving DecidableEq
def Cr (f:Fr):Bool:=decide (f.r<0)||decide (1000<f.r)||decide (f.f < -1)||decide (5≤f.f)||decide (f.i<0)||decide (12≤f.i)
def DI (f:Fr):Bool:=decide (f.r=0)&&(f.u||f.d||decide (0≤f.f)||f.p != zPg)
def yT (f:Fr):Bool:=decide (f.f<0)&&decide (f.i≠0)
def dS (f:Fr):Int:=if Cr f=true then 3 else if DI f=true∨yT f=true then 7 else 0
structure Mem where
 fs:List Fr
 hand:Int
 deriving DecidableEq
def firstEf:List Fr→Int
 | []=>0
 | f::r=>if dS f≠0 then dS f else firstEf r
theorem firstEf_at:∀(l:List Fr) (k:Nat) (hk:k<l.length),(∀i (h:i<l.length),i<k→dS l[i]=0)→dS l[k]≠0→firstEf l=dS l[k]
 | f::r,0,_,_,h=>by unfold firstEf;exact if_pos h
 | f::r,k+1,hk,hp,h=>by
  unfold firstEf
  rw[if_neg (fun hh=>hh (hp 0 (by simp) (by omega)))]
  exact firstEf_at r k (by simpa using hk) (fun i hi hik=>hp (i+1) (by simpa using hi) (by omega)) h
theorem firstEf_none:∀(l:List Fr),(∀i (h:i<l.length),dS l[i]=0)→firstEf l=0
 | [],_=>rfl
 | f::r,hp=>by
  unfold firstEf
  rw[if_neg (fun hh=>hh (hp 0 (by simp)))]
  exact firstEf_none r (fun i hi=>hp (i+1) (by simpa using hi))
def bJ (m:Mem):Int:=if 40<m.fs.length then 4 else if firstEf m.fs≠0 then firstEf m.fs else if m.hand<0∨(0<m.hand∧(m.fs.length:Int)≤m.hand) then 3 else 0
def iJ (l:List Fr):Nat:=(l.filter (fun f=>decide (f.r=0))).length
theorem Eg (l:List Fr) (k:Nat) (hk:k<l.length):iJ (l.take (k+1))=if l[k].r=0 then iJ (l.take k)+1 else iJ (l.take k):=by
 unfold iJ
 rw[List.take_add_one,List.getElem?_eq_getElem hk,Option.toList,List.filter_append]
 by_cases h:l[k].r=0<;>simp[h]
theorem xy (l:List Fr):iJ l≤l.length:=List.length_filter_le _ _
def fr0:Fr:=⟨zPg,0,false,false,0,0⟩
def frZ:Fr:=⟨zPg,0,false,false,-1,0⟩
def sN (n:Int):Mem:=if 0≤n∧n≤40 then ⟨List.replicate n.toNat frZ,0⟩ else ⟨[],0⟩
def Gx (n:Int):Int:=if 0≤n∧n≤40 then 0 else 4
def noM:Mem:=⟨[],0⟩
theorem firstEf_all:∀(l:List Fr),firstEf l=0→∀f∈l,dS f=0
 | [],_,_,h=>by cases h
 | g::r,h,f,hf=>by
  unfold firstEf at h
  by_cases hg:dS g=0
  ·rw[if_neg (fun e=>e hg)] at h
   rcases List.mem_cons.1 hf with rfl|hf
   ·exact hg
   ·exact firstEf_all r h f hf
  ·rw[if_pos hg] at h
   exact absurd h hg
theorem dD (m:Mem):bJ m=0↔m.fs.length≤40∧(∀f∈m.fs,dS f=0)∧0≤m.hand∧(m.hand=0∨m.hand<m.fs.length):=by
 unfold bJ
 constructor
 ·intro h
  by_cases h1:40<m.fs.length
  ·rw[if_pos h1] at h;cases h
  ·rw[if_neg h1] at h
   by_cases h2:firstEf m.fs=0
   ·rw[if_neg (fun e=>e h2)] at h
    by_cases h3:m.hand<0∨(0<m.hand∧(m.fs.length:Int)≤m.hand)
    ·rw[if_pos h3] at h;cases h
    ·exact⟨by omega,firstEf_all _ h2,by omega,by omega⟩
   ·rw[if_pos h2] at h;exact absurd h h2
 ·rintro⟨h1,h2,h3,h4⟩
  rw[if_neg (by omega)]
  have h5:firstEf m.fs=0:=firstEf_none _ (fun i hi=>h2 _ (List.getElem_mem hi))
  rw[h5,if_neg (fun e=>e rfl),if_neg (by omega)]
theorem fO (f:Fr):dS f=0↔(0≤f.r∧f.r≤1000∧-1≤f.f∧f.f<5∧0≤f.i∧f.i<12)∧(f.r=0→f.u=false∧f.d=false∧f.f<0∧f.p=zPg)∧(f.f<0→f.i=0):=by
 unfold dS
 have hb:Cr f=false↔(0≤f.r∧f.r≤1000∧-1≤f.f∧f.f<5∧0≤f.i∧f.i<12):=by
  simp only[Cr,Bool.or_eq_false_iff,decide_eq_false_iff_not,Int.not_lt,Int.not_le]
  omega
 have hu:DI f=false↔(f.r=0→f.u=false∧f.d=false∧f.f<0∧f.p=zPg):=by
  unfold DI
  by_cases h:f.r=0
  ·simp[h,and_assoc]
  ·simp[h]
 have hf:yT f=false↔(f.f<0→f.i=0):=by
  unfold yT
  by_cases h:f.f<0
  ·simp[h]
  ·simp[h]
 rw[←hb,←hu,←hf]
 cases Cr f<;>cases DI f<;>cases yT f<;>simp
def jZ (m:Mem) (k n:Int):Int:=if bJ m≠0 then bJ m else if k<0∨(m.fs.length:Int)≤k∨(m.fs.getD k.toNat fr0).r=0 then 5 else if n < -(m.fs.getD k.toNat fr0).r∨1000-(m.fs.getD k.toNat fr0).r<n then 3 else 0
def gZ (f:Fr) (n:Int):Fr:=if f.r+n=0 then frZ else { f with r:=f.r+n }
def jy (m:Mem) (k n:Int):Mem:=if jZ m k n=0 then ⟨m.fs.set k.toNat (gZ (m.fs.getD k.toNat fr0) n),m.hand⟩ else noM
def gF (m:Mem) (s:Nat):Nat:=(m.hand.toNat+s)%m.fs.length
def vX (m:Mem) (s i:Nat):Bool:=(List.range s).any (fun t=>gF m t==i)
def unused (f:Fr):Fr:={ f with u:=false }
def kM (m:Mem) (s:Nat):List Fr:=m.fs.mapIdx (fun i f=>if vX m s i then unused f else f)
def qD (m:Mem) (s:Nat):Bool:=decide (0<(m.fs.getD (gF m s) fr0).r)&&(!(m.fs.getD (gF m s) fr0).u||decide (m.fs.length≤s))
def fB (m:Mem):Nat:=((List.range (2*m.fs.length)).find? (qD m)).getD 0
def dJ (m:Mem):Mem:=if bJ m≠0 then noM else if iJ m.fs=m.fs.length then m else ⟨kM m (fB m),(gF m (fB m+1):Nat)⟩
def fo (m:Mem):Int:=if bJ m≠0 then 0 else if iJ m.fs=m.fs.length then -1 else (gF m (fB m):Nat)
theorem lg {m:Mem} (h:0<m.fs.length) (s:Nat):gF m s<m.fs.length:=Nat.mod_lt _ h
theorem fZ (m:Mem) (s:Nat):(kM m s).length=m.fs.length:=by simp[kM]
theorem pF (m:Mem) (s i:Nat) (hi:i<m.fs.length):(kM m s)[i]'(by rw[fZ];exact hi)=if vX m s i then unused m.fs[i] else m.fs[i]:=by simp[kM]
theorem Ju (m:Mem) (s i:Nat):vX m (s+1) i=(vX m s i||gF m s==i):=by simp[vX,List.range_succ]
theorem KU (m:Mem):kM m 0=m.fs:=by
 apply List.ext_getElem
 ·rw[fZ]
 ·intro i h1 h2
  rw[pF m 0 i h2]
  rfl
theorem MO (m:Mem) (s:Nat) (h:0<m.fs.length):(kM m s).set (gF m s) (unused ((kM m s)[gF m s]'(by rw[fZ];exact lg h s)))=kM m (s+1):=by
 apply List.ext_getElem
 ·simp[fZ]
 ·intro i h1 h2
  have hi:i<m.fs.length:=by rw[fZ] at h2;exact h2
  rw[List.getElem_set,pF m (s+1) i hi,Ju]
  by_cases e:gF m s=i
  ·subst e
   rw[if_pos rfl,pF m s _ hi]
   cases vX m s (gF m s)<;>simp[unused]
  ·rw[if_neg e,pF m s i hi]
   have:(gF m s==i)=false:=by simpa using e
   rw[this,Bool.or_false]
theorem Lv (m:Mem) (s:Nat) (h:0<m.fs.length):vX m s (gF m s)=decide (m.fs.length≤s):=by
 rw[Bool.eq_iff_iff]
 simp only[vX,List.any_eq_true,List.mem_range,beq_iff_eq,decide_eq_true_eq]
 constructor
 ·rintro⟨t,ht,he⟩
  unfold gF at he
  rcases Nat.lt_or_ge s m.fs.length with hs|hs
  ·exfalso
   have h1:(m.hand.toNat+s)%m.fs.length=(m.hand.toNat+t+(s-t))%m.fs.length:=by congr 1;omega
   rw[h1,Nat.add_mod (m.hand.toNat+t) (s-t)] at he
   have h2:(s-t)%m.fs.length=s-t:=Nat.mod_eq_of_lt (by omega)
   rw[h2] at he
   have h3:=Nat.mod_lt (m.hand.toNat+t) h
   generalize (m.hand.toNat+t)%m.fs.length=x at *
   rcases Nat.lt_or_ge (x+(s-t)) m.fs.length with h4|h4
   ·rw[Nat.mod_eq_of_lt h4] at he;omega
   ·rw[Nat.mod_eq_sub_mod h4,Nat.mod_eq_of_lt (by omega)] at he;omega
  ·exact hs
 ·intro hs
  refine⟨s-m.fs.length,by omega,?_⟩
  unfold gF
  have:m.hand.toNat+s=(m.hand.toNat+(s-m.fs.length))+m.fs.length:=by omega
  rw[this,Nat.add_mod_right]
theorem Pf (m:Mem) (s:Nat) (h:0<m.fs.length):(kM m s)[gF m s]'(by rw[fZ];exact lg h s)=if m.fs.length≤s then unused (m.fs[gF m s]'(lg h s)) else m.fs[gF m s]'(lg h s):=by
 rw[pF m s _ (lg h s),Lv m s h]
 simp
theorem Nq (m:Mem) (s:Nat) (h:0<m.fs.length):qD m s=(decide (0<((kM m s)[gF m s]'(by rw[fZ];exact lg h s)).r)&&!((kM m s)[gF m s]'(by rw[fZ];exact lg h s)).u):=by
 rw[Pf m s h]
 unfold qD
 rw[show m.fs.getD (gF m s) fr0=m.fs[gF m s]'(lg h s) from by simp[lg h s]]
 by_cases hs:m.fs.length≤s
 ·rw[if_pos hs];simp[hs,unused];rfl
 ·rw[if_neg hs];simp[hs]
theorem JZ (l:List Fr):iJ l=l.length↔∀f∈l,f.r=0:=by
 unfold iJ
 rw[List.length_filter_eq_length_iff]
 simp
theorem stops (m:Mem) (hw:bJ m=0) (hf:iJ m.fs≠m.fs.length):∃s,s<2*m.fs.length∧qD m s=true:=by
 obtain⟨_,hall,hh,_⟩:=(dD m).1 hw
 rw[Ne,JZ] at hf
 obtain⟨f,hff⟩:=Classical.not_forall.1 hf
 obtain⟨hm,hr⟩:=Classical.not_imp.1 hff
 obtain⟨i,hi,rfl⟩:=List.mem_iff_getElem.1 hm
 have hr0:=((fO _).1 (hall _ hm)).1.1
 have hpos:0<m.fs.length:=by omega
 have hx:=Nat.mod_lt m.hand.toNat hpos
 refine⟨(i+m.fs.length-m.hand.toNat%m.fs.length)%m.fs.length+m.fs.length,by have:=Nat.mod_lt (i+m.fs.length-m.hand.toNat%m.fs.length) hpos;omega,?_⟩
 have hidx:gF m ((i+m.fs.length-m.hand.toNat%m.fs.length)%m.fs.length+m.fs.length)=i:=by
  unfold gF
  rw[←Nat.add_assoc,Nat.add_mod_right,Nat.add_mod,Nat.mod_mod]
  generalize m.hand.toNat%m.fs.length=x at *
  rcases Nat.lt_or_ge i x with h|h
  ·rw[Nat.mod_eq_of_lt (show i+m.fs.length-x<m.fs.length by omega)]
   rw[show x+(i+m.fs.length-x)=i+m.fs.length from by omega,Nat.add_mod_right,Nat.mod_eq_of_lt hi]
  ·have h3:i+m.fs.length-x=(i-x)+m.fs.length:=by omega
   rw[h3,Nat.add_mod_right,Nat.mod_eq_of_lt (show i-x<m.fs.length by omega),show x+(i-x)=i from by omega,Nat.mod_eq_of_lt hi]
 unfold qD
 rw[hidx]
 have:m.fs.getD i fr0=m.fs[i]:=by simp[hi]
 rw[this]
 have h1:0<m.fs[i].r:=by omega
 have h2:m.fs.length≤(i+m.fs.length-m.hand.toNat%m.fs.length)%m.fs.length+m.fs.length:=by omega
 simp[h1,h2]
theorem LZ (m:Mem) (hw:bJ m=0) (hf:iJ m.fs≠m.fs.length):fB m<2*m.fs.length∧qD m (fB m)=true∧∀t,t<fB m→qD m t=false:=by
 obtain⟨s,hs,hst⟩:=stops m hw hf
 unfold fB
 cases hfd:(List.range (2*m.fs.length)).find? (qD m) with
 | none=>
  rw[List.find?_eq_none] at hfd
  exact absurd hst (hfd s (List.mem_range.2 hs))
 | some r=>
  rw[List.find?_range_eq_some] at hfd
  obtain⟨h1,h2,h3⟩:=hfd
  exact⟨List.mem_range.1 h2,h1,fun t ht=>by simpa using h3 t ht⟩
structure En where
 k:Int
 n:Int
 w:Bool
 deriving DecidableEq
def zEn:En:=⟨0,0,false⟩
abbrev Tb:=Vector (List En) 8
def eU (e:En):Int:=if e.k<0∨2<e.k then 1 else if e.n<0∨40≤e.n∧e.k=1∨60≤e.n then 3 else if e.k=0∧(e.n≠0∨e.w=true)∨e.k=2∧e.w=true then 7 else 0
def jP (h:List En):Int:=if h.length≠0∧h.length≠8 then 2 else if firstE (h.map eU)≠0 then firstE (h.map eU) else if 0<h.length∧h.any (fun e=>decide (e.k≠0))=false then 2 else 0
def dh (t:Tb):Int:=firstE (t.toList.map jP)
def BG (h:List En) (k:Nat):Bool:=(h.take k).any (fun e=>decide (e.k≠0))
theorem Jr (h:List En) (k:Nat) (hk:k<h.length):BG h (k+1)=(BG h k||decide (h[k].k≠0)):=by
 unfold BG
 rw[List.take_add_one,List.any_append,List.getElem?_eq_getElem hk]
 simp
theorem LB (h:List En) (k:Nat) (hk:h.length≤k):BG h k=h.any (fun e=>decide (e.k≠0)):=by
 unfold BG
 rw[List.take_of_length_le hk]
theorem wh {t:Tb} (h:∀i (hi:i<8),jP t[i]=0):dh t=0:=nO fun i hi=>by simpa using h i (by simpa using hi)
theorem vD {t:Tb} (k:Nat) (hk:k<8) (h:∀i (hi:i<8),i<k→jP t[i]=0) (hne:jP t[k]≠0):dh t=jP t[k]:=by
 have:=qQ (l:=t.toList.map jP) k (by simpa using hk) (fun i hi hik=>by simpa using h i (by simpa using hi) hik) (by simpa using hne)
 rw[dh,this];simp
theorem xW {h:List En} (h1:h.length≠0∧h.length≠8):jP h=2:=by unfold jP;rw[if_pos h1]
theorem Ci {h:List En} (h1:h.length=0∨h.length=8) (k:Nat) (hk:k<h.length) (hp:∀i (hi:i<h.length),i<k→eU h[i]=0) (hne:eU h[k]≠0):jP h=eU h[k]:=by
 have:=qQ (l:=h.map eU) k (by simpa using hk) (fun i hi hik=>by simpa using hp i (by simpa using hi) hik) (by simpa using hne)
 have e:firstE (h.map eU)=eU h[k]:=by rw[this];simp
 unfold jP;rw[if_neg (by omega),e,if_pos hne]
theorem uZ {h:List En} (h1:h.length=0∨h.length=8) (hp:∀i (hi:i<h.length),eU h[i]=0):jP h=if 0<h.length∧h.any (fun e=>decide (e.k≠0))=false then 2 else 0:=by
 have:=nO (l:=h.map eU) (fun i hi=>by simpa using hp i (by simpa using hi))
 unfold jP;rw[if_neg (by omega),this,if_neg (by omega)]
def zu (t:Tb):Prop:=∀k (h:k<8),t[k].length*24≤140737488355328
def dx (t:Tb) (n:Int):En:=if h:0≤n∧n<64 then (if (t[n.toNat / 8]'(by omega)).length=8 then (t[n.toNat / 8]'(by omega)).getD (n.toNat%8) zEn else zEn) else zEn
theorem mO {t:Tb} {n:Int} (h:n<0∨64≤n):dx t n=zEn:=by unfold dx;rw[dif_neg (by omega)]
theorem ul {t:Tb} (hq:q<8) (hr:r<8):dx t ((8*q+r:Nat):Int)=if t[q].length=8 then t[q].getD r zEn else zEn:=by
 unfold dx
 rw[dif_pos (by omega)]
 have e1:(((8*q+r:Nat):Int).toNat / 8)=q:=by rw[Int.toNat_natCast];omega
 have e2:(((8*q+r:Nat):Int).toNat%8)=r:=by rw[Int.toNat_natCast];omega
 simp only[e1,e2]
theorem qP {n:Int} (h:0≤n∧n<64):∃q r:Nat,q<8∧r<8∧n=((8*q+r:Nat):Int)∧n / 8=(q:Int)∧n%8=(r:Int):=by
 refine⟨(n / 8).toNat,(n%8).toNat,by omega,by omega,by omega,by omega,by omega⟩
def kD (e:En):Bool:=decide (e.k≠0)
def setE (t:Tb) (n:Int) (e:En):Int:=if dh t≠0 then dh t else if n<0∨64≤n then 3 else eU e
def OI (h:List En):List En:=if h.any kD then h else []
def setH (h:List En) (r:Nat) (e:En):List En:=OI ((if h.length=0 then List.replicate 8 zEn else h).set r e)
def zTb:Tb:=Vector.replicate 8 []
def setT (t:Tb) (n:Int) (e:En):Tb:=if h:(0≤n∧n<64)∧setE t n e=0 then t.set (n.toNat / 8) (setH (t[n.toNat / 8]'(by omega)) (n.toNat%8) e) (by omega) else zTb
theorem qy {t:Tb} {n:Int} {e:En} (h:setE t n e≠0):setT t n e=zTb:=by unfold setT;rw[dif_neg (fun h'=>h h'.2)]
theorem Ga {t:Tb} {n:Int} {e:En} (h:setE t n e=0) (hq:q<8) (hr:r<8) (hn:n=((8*q+r:Nat):Int)):setT t n e=t.set q (setH t[q] r e):=by
 unfold setT
 subst hn
 rw[dif_pos ⟨by omega,h⟩]
 have e1:(((8*q+r:Nat):Int).toNat / 8)=q:=by rw[Int.toNat_natCast];omega
 have e2:(((8*q+r:Nat):Int).toNat%8)=r:=by rw[Int.toNat_natCast];omega
 simp only[e1,e2]
theorem mE {h:List En} (h0:jP h=0):h.length=0∨h.length=8:=by
 by_cases e:h.length≠0∧h.length≠8
 ·rw[xW e] at h0;cases h0
 ·omega
theorem ky {t:Tb} (h:dh t=0) (k:Nat) (hk:k<8):jP t[k]=0:=by
 have key:∀(l:List Int),firstE l=0→∀x∈l,x=0:=by
  intro l
  induction l with
  | nil=>intro _ x hx;cases hx
  | cons y r ih=>
   intro h x hx
   by_cases e:y=0
   ·simp only[firstE,e,if_true] at h
    rcases List.mem_cons.1 hx with rfl|hx
    ·exact e
    ·exact ih h x hx
   ·simp only[firstE,e,if_false] at h
 exact key _ h _ (List.mem_map.2 ⟨t[k],by simp,rfl⟩)
def ic (t:Tb) (k:Nat):List Int:=((List.range k).filter fun n:Nat=>kD (dx t (n:Int))).map fun n:Nat=>(n:Int)
def aI (t:Tb):List Int:=ic t 64
theorem ni (t:Tb) (k:Nat):(ic t k).length≤k:=by
 unfold ic
 rw[List.length_map]
 exact Nat.le_trans (List.length_filter_le _ _) (by simp)
theorem Cb {t:Tb} (h:kD (dx t (k:Int))=true):ic t (k+1)=ic t k++[(k:Int)]:=by
 unfold ic
 rw[List.range_succ,List.filter_append,List.map_append]
 simp[h]
theorem FH {t:Tb} (h:kD (dx t (k:Int))=false):ic t (k+1)=ic t k:=by
 unfold ic
 rw[List.range_succ,List.filter_append,List.map_append]
 simp[h]
structure wH (p:Int→Bool) (l:List Int) (j i:Nat) (cur:List Int):Prop where
 len:cur.length=l.length
 lt:i<j
 le:j≤l.length
 done:cur.take i=(l.take j).filter (fun x => !p x)
 rest:∀t,j≤t→cur[t]?=l[t]?
theorem wH.start {p:Int→Bool} (hi:i<l.length) (he:p l[i]=true) (hno:∀j (h:j<l.length),j<i→p l[j]=false):wH p l (i+1) i l:=by
 refine⟨rfl,by omega,by omega,?_,fun _ _=>rfl⟩
 rw[List.take_add_one,List.filter_append,List.getElem?_eq_getElem hi,Option.toList]
 have h1:(l.take i).filter (fun q => !p q)=l.take i:=by
  rw[List.filter_eq_self]
  intro q hq
  obtain⟨j,hj,rfl⟩:=List.mem_iff_getElem.1 hq
  simp only[List.length_take] at hj
  rw[List.getElem_take]
  simpa using hno j (by omega) (by omega)
 simp[h1,he]
theorem wH.keep {p:Int→Bool} {cur:List Int} (h:wH p l j i cur) (hj:j<l.length) (hne:p l[j]=false):wH p l (j+1) (i+1) (cur.set i l[j]):=by
 have h1:=h.lt
 have h2:=h.len
 refine⟨by simp[h.len],by omega,by omega,?_,fun t ht => ?_⟩
 ·have hi:i<cur.length:=by omega
  rw[List.take_add_one,List.getElem?_set_self hi,Option.toList,List.take_set_of_le (Nat.le_refl _),h.done]
  rw[List.take_add_one,List.filter_append,List.getElem?_eq_getElem hj,Option.toList]
  simp[hne]
 ·rw[List.getElem?_set_ne (by omega)]
  exact h.rest t (by omega)
theorem wH.skip {p:Int→Bool} {cur:List Int} (h:wH p l j i cur) (hj:j<l.length) (he:p l[j]=true):wH p l (j+1) i cur:=by
 have h1:=h.lt
 refine⟨h.len,by omega,by omega,?_,fun t ht=>h.rest t (by omega)⟩
 rw[h.done]
 rw[List.take_add_one,List.filter_append,List.getElem?_eq_getElem hj,Option.toList]
 simp[he]
theorem wH.all {p:Int→Bool} (h:∀i (h:i<l.length),p l[i]=false):l.filter (fun x => !p x)=l:=by
 rw[List.filter_eq_self]
 intro q hq
 obtain⟨j,hj,rfl⟩:=List.mem_iff_getElem.1 hq
 simpa using h j hj
def mf (t:Tb) (kind k:Int) (n:Int):Bool:=decide ((dx t n).k≠kind)||decide ((dx t n).n≠k)
def kZ (t:Tb) (kind k:Int):List Int:=(aI t).filter fun n => !mf t kind k n
def eT (t:Tb):List En:=(List.range 64).map fun n:Nat=>dx t (n:Int)
structure Qw (t:Tb) (m:Nat) (l:List En):Prop where
 len:l.length=64
 at' : ∀n (h:n<64),l[n]?=some (if n<m then dx t (n:Int) else zEn)
theorem Qw.step {t:Tb} {m:Nat} {l:List En} (h:Qw t m l) (hm:m<64) {E:En} (hE:dx t (m:Int)=E):Qw t (m+1) (l.set m E):=by
 refine⟨by simp[h.len],fun n hn => ?_⟩
 by_cases e:n=m
 ·subst e
  rw[List.getElem?_set_self (by rw[h.len];exact hn),if_pos (by omega),hE]
 ·rw[List.getElem?_set_ne (fun e2=>e e2.symm),h.at' n hn]
  congr 1
  by_cases e2:n<m
  ·rw[if_pos e2,if_pos (by omega)]
  ·rw[if_neg e2,if_neg (by omega)]
theorem zw {t:Tb} (hq:q<8) (hr:r<8) (h:t[q].length=0):dx t ((8*q+r:Nat):Int)=zEn:=by
 rw[ul hq hr,if_neg (by omega)]
theorem Hm {t:Tb} (hq:q<8) (hr:r<8) (h:t[q].length=8) {E:En} (hE:t[q][r]?=some E):dx t ((8*q+r:Nat):Int)=E:=by
 rw[ul hq hr,if_pos h,List.getD_eq_getElem?_getD,hE];rfl
def BF (e:En):Bool:=decide (0<e.k)
def jf (l:List En) (i:Nat):List En:=(l.drop (8*i)).take 8
def jG (l:List En) (i:Nat):List En:=if (jf l i).any BF then jf l i else []
def dW (l:List En):Tb:=Vector.ofFn fun i:Fin 8=>jG l i.val
def rU (l:List En) (i k:Nat):Bool:=((l.drop (8*i)).take k).any BF
theorem Ce {l:List En} (hl:l.length=64) (hi:i<8) (hk:k<8):∃E,l[8*i+k]?=some E∧(l.drop (8*i)).take (k+1)=(l.drop (8*i)).take k++[E]:=by
 refine⟨l[8*i+k]'(by omega),List.getElem?_eq_getElem (by omega),?_⟩
 rw[List.take_add_one,List.getElem?_drop,List.getElem?_eq_getElem (by omega)]
 rfl
theorem yK {l:List En} (hl:l.length=64) (hi:i<8) (hk:k≤8):((l.drop (8*i)).take k).length=k:=by
 simp;omega
structure Al (l:List En) (i:Nat) (h:List En) (t:Tb):Prop where
 lo:∀j (hj:j<8),j<i→t[j]=jG l j
 at' : ∀(hi:i<8),t[i]=h
 hi:∀j (hj:j<8),i<j→t[j]=[]
theorem Al.start {l:List En}:Al l 0 [] zTb:=⟨fun _ _ h=>absurd h (Nat.not_lt_zero _),fun _=>by simp[zTb],fun j hj _=>by simp[zTb]⟩
theorem Al.next {l:List En} {t:Tb} (h:Al l i (jG l i) t) (hi:i<8):Al l (i+1) [] t:=by
 refine⟨fun j hj hji => ?_,fun h2=>h.hi _ h2 (by omega),fun j hj hji=>h.hi j hj (by omega)⟩
 by_cases e:j=i
 ·subst e;exact h.at' hj
 ·exact h.lo j hj (by omega)
theorem Al.set {l:List En} {h h2:List En} {t:Tb} (hh:Al l i h t) (hi:i<8):Al l i h2 (t.set i h2):=
 ⟨fun j hj hji=>by rw[Vector.getElem_set_ne hi hj (by omega)];exact hh.lo j hj hji,fun _=>by simp,fun j hj hji=>by rw[Vector.getElem_set_ne hi hj (by omega)];exact hh.hi j hj hji⟩
theorem Al.fin {l:List En} {h:List En} {t:Tb} (hh:Al l 8 h t):t=dW l:=by
 apply Vector.ext
 intro i hi
 rw[hh.lo i hi hi]
 simp[dW]
theorem NR {l:List En} (h:rU l i 8=false):jG l i=[]:=by
 unfold jG jf
 unfold rU at h
 rw[h];rfl
theorem Mo {l:List En} (h:rU l i 8=true):jG l i=(l.drop (8*i)).take 8:=by
 unfold jG jf
 unfold rU at h
 rw[h];rfl
structure Fi where
 n:Int
 b:List Int
 deriving DecidableEq
structure St where
 fs:List Fi
 count:Int
 deriving DecidableEq
theorem vF {n:Int} (h:n≤96):dO n≤12:=by unfold dO;split<;>omega
def iY (c:Int):List Int→List Int→Int
 | _,[]=>0
 | seen,b::r=>if b < -1∨c≤b then 3 else if 0≤b∧b∈seen then 7 else iY c (seen++[b]) r
def nH (c:Int):List Int→List Fi→Int
 | _,[]=>0
 | seen,f::r=>if f.n<0∨96<f.n then 3 else if (f.b.length:Int)≠dO f.n then 2 else if iY c seen f.b≠0 then iY c seen f.b else nH c (seen++f.b) r
theorem su (c:Int) (seen:List Int) (b:Int) (r:List Int):iY c seen (b::r)=if b < -1∨c≤b then 3 else if 0≤b∧b∈seen then 7 else iY c (seen++[b]) r:=rfl
def aS (s:St):Int:=if 5<s.fs.length∨s.count<0∨80<s.count then 4 else nH s.count [] s.fs
def nD (l:List Int) (j:Int):Bool:=decide (j∈l)
theorem yc (l:List Int) (b:Int):(fun i=>nD l i||decide (i=b))=nD (l++[b]):=by
 funext i
 unfold nD
 rw[Bool.eq_iff_iff]
 simp
theorem drop_at {α:Type} {l:List α} {x:α} (h:l[k]?=some x):l.drop k=x::l.drop (k+1):=by
 have hk:=(List.getElem?_eq_some_iff.1 h).1
 rw[List.drop_eq_getElem_cons hk,(List.getElem?_eq_some_iff.1 h).2]
theorem take_at {α:Type} {l:List α} {x:α} (h:l[k]?=some x):l.take (k+1)=l.take k++[x]:=by
 rw[List.take_add_one,h]
 rfl
def newE (n:Int):Int:=if n<0∨80<n then 4 else 0
def Np (n:Int):Int:=if n<0∨80<n then 0 else n
def iW (s:St):List Int:=s.fs.flatMap Fi.b
def jO (l:List Int):Nat:=(l.filter fun x=>decide (0≤x)).length
def jK (s:St):Int:=s.count-jO (iW s)
theorem CK (l m:List Int):jO (l++m)=jO l+jO m:=by unfold jO;rw[List.filter_append,List.length_append]
theorem NE (l:List Int):jO l≤l.length:=List.length_filter_le _ _
def eZ (s:St) (b:Int):Bool:=decide (b∈iW s)
theorem NN (l:List Int) (x:Int):l.any (fun y=>decide (x=y))=decide (x∈l):=by
 rw[Bool.eq_iff_iff,List.any_eq_true,decide_eq_true_eq]
 constructor
 ·rintro⟨y,hy,h⟩;rw[of_decide_eq_true h];exact hy
 ·intro h;exact⟨x,h,decide_eq_true rfl⟩
def dE (s:St):Int:=match (List.range s.count.toNat).find? (fun b:Nat => !eZ s b) with
 | some b=>b
 | none => -1
theorem Ih {s:St} (hb:(b:Int)<s.count) (h:∀i:Nat,i<b→eZ s i=true) (hf:eZ s b=false):dE s=b:=by
 unfold dE
 have:(List.range s.count.toNat).find? (fun b:Nat => !eZ s b)=some b:=by
  rw[List.find?_range_eq_some]
  exact⟨by simp[hf],List.mem_range.2 (by omega),fun j hj=>by simp[h j hj]⟩
 rw[this]
theorem CR {s:St} (h:∀i:Nat,(i:Int)<s.count→eZ s i=true):dE s = -1:=by
 unfold dE
 have:(List.range s.count.toNat).find? (fun b:Nat => !eZ s b)=none:=by
  rw[List.find?_eq_none]
  intro i hi
  have:=List.mem_range.1 hi
  simp[h i (by omega)]
 rw[this]
def zSt:St:=⟨[],0⟩
theorem gB {s:St} (h:aS s=0):s.fs.length≤5∧0≤s.count∧s.count≤80:=by
 unfold aS at h
 by_cases g:5<s.fs.length∨s.count<0∨80<s.count
 ·rw[if_pos g] at h;cases h
 ·omega
theorem xD {c:Int}:∀ {fs:List Fi} {seen:List Int},nH c seen fs=0→∀f∈fs,0≤f.n∧f.n≤96∧(f.b.length:Int)=dO f.n∧∀b∈f.b,-1≤b∧b<c
 | f0::r,seen,h,f,hf=>by
  unfold nH at h
  by_cases g1:f0.n<0∨96<f0.n
  ·rw[if_pos g1] at h;cases h
  ·rw[if_neg g1] at h
   by_cases g2:(f0.b.length:Int)≠dO f0.n
   ·rw[if_pos g2] at h;cases h
   ·rw[if_neg g2] at h
    by_cases g3:iY c seen f0.b≠0
    ·rw[if_pos g3] at h;exact absurd h g3
    ·rw[if_neg g3] at h
     rcases List.mem_cons.1 hf with rfl|hf
     ·refine⟨by omega,by omega,Classical.not_not.1 g2,?_⟩
      have key:∀(l:List Int) (sn:List Int),iY c sn l=0→∀b∈l,-1≤b∧b<c:=by
       intro l
       induction l with
       | nil=>intro _ _ b hb;cases hb
       | cons x r ih=>
        intro sn h b hb
        rw[su] at h
        by_cases k1:x < -1∨c≤x
        ·rw[if_pos k1] at h;cases h
        ·rw[if_neg k1] at h
         by_cases k2:0≤x∧x∈sn
         ·rw[if_pos k2] at h;cases h
         ·rw[if_neg k2] at h
          rcases List.mem_cons.1 hb with rfl|hb
          ·omega
          ·exact ih _ h b hb
      exact key _ _ (Classical.not_not.1 g3)
     ·exact xD h f hf
theorem uA {s:St} (h:aS s=0):∀f∈s.fs,0≤f.n∧f.n≤96∧(f.b.length:Int)=dO f.n∧∀b∈f.b,-1≤b∧b<s.count:=by
 have h1:=gB h
 unfold aS at h
 rw[if_neg (by omega)] at h
 exact xD h
def aT (s:St) (k:Int):Fi:=if 0≤k then s.fs.getD k.toNat ⟨0,[]⟩ else ⟨0,[]⟩
def uy (s:St) (k:Int) (f:Fi):St:=⟨s.fs.set k.toNat f,s.count⟩
def bv (s:St) (k i:Int):Int:=(aT s k).b.getD i.toNat 0
def bK (s:St) (k i:Int):Int:=
 if aS s≠0 then aS s else if k<0∨(s.fs.length:Int)≤k then 5 else if i<0∨((aT s k).b.length:Int)≤i then 9
 else if bv s k i<0∧dE s<0 then 10 else 0
def dm (s:St) (k i:Int):Int:=if bK s k i≠0 then 0 else if bv s k i<0 then dE s else bv s k i
def cZ (s:St) (k i:Int):St:=if bK s k i≠0 then zSt else if bv s k i<0 then uy s k ⟨(aT s k).n,(aT s k).b.set i.toNat (dE s)⟩ else s
theorem ru {s:St} {k i e:Int} (h:bK s k i=e) (he:e≠0):bK s k i=e∧dm s k i=0∧cZ s k i=zSt:=by
 refine⟨h,?_,?_⟩
 ·unfold dm;rw[if_pos (by rw[h];exact he)]
 ·unfold cZ;rw[if_pos (by rw[h];exact he)]
theorem Jk {s:St} (h:s.count≤80):dE s<80∧-1≤dE s:=by
 unfold dE
 cases hf:(List.range s.count.toNat).find? (fun b:Nat => !eZ s b) with
 | none=>simp
 | some b=>
  have:=List.mem_range.1 (List.mem_of_find?_eq_some hf)
  simp
  omega
def iG (l:List Int):List Int:=l.filter fun x=>decide (0≤x)
theorem oN (l m:List Int):iG (l++m)=iG l++iG m:=List.filter_append _ _
theorem fG {x:Int}:x∈iG l↔x∈l∧0≤x:=by unfold iG;simp
theorem uQ {c:Int}:∀ {l seen:List Int},iY c seen l=0↔(∀b∈l,-1≤b∧b<c)∧(iG l).Nodup∧∀b∈l,0≤b→¬b∈seen
 | [],seen=>by simp[iY,iG]
 | x::r,seen=>by
  rw[su]
  by_cases k1:x < -1∨c≤x
  ·rw[if_pos k1]
   refine⟨fun h=>(by cases h),fun h => ?_⟩
   have:=h.1 x List.mem_cons_self
   omega
  ·rw[if_neg k1]
   by_cases k2:0≤x∧x∈seen
   ·rw[if_pos k2]
    refine⟨fun h=>(by cases h),fun h=>absurd k2.2 (h.2.2 x List.mem_cons_self k2.1)⟩
   ·rw[if_neg k2,uQ (l:=r)]
    have hp:iG (x::r)=if 0≤x then x::iG r else iG r:=by unfold iG;rw[List.filter_cons];simp
    rw[hp]
    constructor
    ·intro ⟨h1,h2,h3⟩
     refine⟨fun b hb => ?_,?_,fun b hb h0 hs => ?_⟩
     ·rcases List.mem_cons.1 hb with rfl|hb
      ·omega
      ·exact h1 b hb
     ·by_cases hx:0≤x
      ·rw[if_pos hx]
       refine List.nodup_cons.2 ⟨fun hm => ?_,h2⟩
       exact h3 x (fG.1 hm).1 hx (List.mem_append_right _ (List.mem_singleton.2 rfl))
      ·rw[if_neg hx];exact h2
     ·rcases List.mem_cons.1 hb with rfl|hb
      ·exact k2 ⟨h0,hs⟩
      ·exact h3 b hb h0 (List.mem_append_left _ hs)
    ·intro ⟨h1,h2,h3⟩
     refine⟨fun b hb=>h1 b (List.mem_cons_of_mem _ hb),?_,fun b hb h0 hs => ?_⟩
     ·by_cases hx:0≤x
      ·rw[if_pos hx] at h2;exact (List.nodup_cons.1 h2).2
      ·rw[if_neg hx] at h2;exact h2
     ·rcases List.mem_append.1 hs with hs|hs
      ·exact h3 b (List.mem_cons_of_mem _ hb) h0 hs
      ·rw[List.mem_singleton.1 hs] at hb h0
       rw[if_pos h0] at h2
       exact (List.nodup_cons.1 h2).1 (fG.2 ⟨hb,h0⟩)
def xm (c:Int) (f:Fi):Prop:=0≤f.n∧f.n≤96∧(f.b.length:Int)=dO f.n∧∀b∈f.b,-1≤b∧b<c
theorem zV {c:Int}:∀ {fs:List Fi} {seen:List Int},nH c seen fs=0↔(∀f∈fs,xm c f)∧(iG (fs.flatMap Fi.b)).Nodup∧∀b∈fs.flatMap Fi.b,0≤b→¬b∈seen
 | [],seen=>by simp[nH,iG]
 | f::r,seen=>by
  unfold nH
  by_cases g1:f.n<0∨96<f.n
  ·rw[if_pos g1]
   refine⟨fun h=>(by cases h),fun h => ?_⟩
   have:=h.1 f List.mem_cons_self
   unfold xm at this
   omega
  ·rw[if_neg g1]
   by_cases g2:(f.b.length:Int)≠dO f.n
   ·rw[if_pos g2]
    exact⟨fun h=>(by cases h),fun h=>absurd (h.1 f List.mem_cons_self).2.2.1 g2⟩
   ·rw[if_neg g2,List.flatMap_cons,oN]
    by_cases g3:iY c seen f.b≠0
    ·rw[if_pos g3]
     refine⟨fun h=>absurd h g3,fun h=>absurd (uQ.2 ⟨(h.1 f List.mem_cons_self).2.2.2,(List.nodup_append.1 h.2.1).1,fun b hb=>h.2.2 b (List.mem_append_left _ hb)⟩) g3⟩
    ·rw[if_neg g3,zV (fs:=r)]
     have g3':=uQ.1 (Classical.not_not.1 g3)
     constructor
     ·intro ⟨h1,h2,h3⟩
      refine⟨fun x hx => ?_,List.nodup_append.2 ⟨g3'.2.1,h2,fun a ha b hb e => ?_⟩,fun b hb h0 hs => ?_⟩
      ·rcases List.mem_cons.1 hx with rfl|hx
       ·exact⟨by omega,by omega,Classical.not_not.1 g2,g3'.1⟩
       ·exact h1 x hx
      ·subst e
       exact h3 a (fG.1 hb).1 (fG.1 hb).2 (List.mem_append_right _ (fG.1 ha).1)
      ·rcases List.mem_append.1 hb with hb|hb
       ·exact g3'.2.2 b hb h0 hs
       ·exact h3 b hb h0 (List.mem_append_left _ hs)
     ·intro ⟨h1,h2,h3⟩
      obtain⟨n1,n2,n3⟩:=List.nodup_append.1 h2
      refine⟨fun x hx=>h1 x (List.mem_cons_of_mem _ hx),n2,fun b hb h0 hs => ?_⟩
      rcases List.mem_append.1 hs with hs|hs
      ·exact h3 b (List.mem_append_right _ hb) h0 hs
      ·exact n3 b (fG.2 ⟨hs,h0⟩) b (fG.2 ⟨hb,h0⟩) rfl
theorem iK {s:St}:aS s=0↔(s.fs.length≤5∧0≤s.count∧s.count≤80)∧(∀f∈s.fs,xm s.count f)∧(iG (iW s)).Nodup:=by
 unfold aS
 by_cases g:5<s.fs.length∨s.count<0∨80<s.count
 ·rw[if_pos g]
  exact⟨fun h=>(by cases h),fun h=>by omega⟩
 ·rw[if_neg g,zV]
  exact⟨fun h=>⟨by omega,h.1,h.2.1⟩,fun h=>⟨h.2.1,h.2.2,fun b _ _ hm=>by cases hm⟩⟩
structure Ar where
 fr:Int
 en:Int
 rd:Bool
 wr:Bool
 sh:Bool
 fi:Int
 ba:Int
 deriving DecidableEq
def aK (a:Ar):Int:=if a.fr<0∨a.en≤a.fr∨64<a.en∨a.fi < -1∨5≤a.fi∨a.ba<0 then 3 else if (a.fi<0∧(a.ba≠0∨a.sh=true))∨0≤a.fi∧12-(a.en-a.fr)<a.ba then 7 else 0
def iq (a:Ar):Int:=if 0≤a.fi then a.ba+a.en-a.fr else 0
def bR (a b:Ar):Bool:=a.en==b.fr&&a.rd==b.rd&&a.wr==b.wr&&a.sh==b.sh&&a.fi==b.fi&&b.ba==iq a
def vN (a:Ar):Prop:=(0≤a.ba∧a.ba≤12)∧(0≤a.fr∧a.fr≤64)∧0≤a.en∧a.en≤64
theorem aX {a:Ar} (h:aK a=0):vN a∧a.fr<a.en∧-1≤a.fi∧a.fi<5∧(a.fi<0→a.ba=0∧a.sh=false)∧(0≤a.fi→a.ba≤12-(a.en-a.fr)):=by
 unfold aK at h
 split at h
 ·omega
 ·rename_i h1
  split at h
  ·omega
  ·rename_i h2
   have hs:a.fi<0→a.ba=0∧a.sh=false:=fun hf=>⟨Decidable.byContradiction fun h=>h2 (.inl ⟨hf,.inl h⟩),by
    cases hsh:a.sh
    ·rfl
    ·exact absurd (.inl ⟨hf,.inr hsh⟩) h2⟩
   have hb:0≤a.fi→a.ba≤12-(a.en-a.fr):=fun hf=>by omega
   unfold vN
   refine⟨⟨⟨by omega,?_⟩,by omega,by omega,by omega⟩,by omega,by omega,by omega,hs,hb⟩
   by_cases hf:a.fi<0
   ·have:=(hs hf).1;omega
   ·have:=hb (by omega);omega
def gM (p:Option Ar) (i:Nat):List Ar→Int × Int
 | []=>(0,0)
 | a::r=>if aK a≠0 then (aK a,i) else if (match p with | some q=>decide (a.fr<q.en)||bR q a | none=>false) then (2,i) else gM (some a) (i+1) r
def bF (l:List Ar):Int × Int:=if 16<l.length then (4,0) else gM none 0 l
def lM (l:List Ar) (k:Nat):Option Ar:=if k=0 then none else l[k-1]?
theorem yS {l:List Ar} (hk:k<l.length):lM l (k+1)=some l[k]:=by simp[lM,hk]
def qh (p:Option Ar) (a:Ar):Bool:=match p with | some q=>decide (a.fr<q.en)||bR q a | none=>false
theorem kK (p:Option Ar) (i:Nat) (a:Ar) (r:List Ar):gM p i (a::r)=if aK a≠0 then (aK a,(i:Int)) else if qh p a then (2,(i:Int)) else gM (some a) (i+1) r:=rfl
theorem pG {l:List Ar} (hlt:k<l.length) (he:aK l[k]=0) (hno:qh (lM l k) l[k]=false):gM (lM l k) k (l.drop k)=gM (lM l (k+1)) (k+1) (l.drop (k+1)):=by
 rw[List.drop_eq_getElem_cons hlt,kK,if_neg (by rw[he];simp),hno,yS hlt]
 rfl
theorem qd {l:List Ar} (hlt:k<l.length) (he:aK l[k]=0) (hno:qh (lM l k) l[k]=true):gM (lM l k) k (l.drop k)=(2,(k:Int)):=by
 rw[List.drop_eq_getElem_cons hlt,kK,if_neg (by rw[he];simp),hno]
 rfl
theorem zK {l:List Ar} (hlt:k<l.length) (he:aK l[k]≠0):gM (lM l k) k (l.drop k)=(aK l[k],(k:Int)):=by
 rw[List.drop_eq_getElem_cons hlt,kK,if_pos he]
theorem Cx {l:List Ar} {m:Nat} (hm:m+1<l.length):qh (lM l (m+1)) l[m+1]=(decide (l[m+1].fr<l[m].en)||bR l[m] l[m+1]):=by
 rw[yS (show m<l.length by omega)]
 rfl
def kY (n:Int) (a:Ar):Bool:=decide (a.fr≤n)&&decide (n<a.en)
def iX (l:List Ar) (n:Int):Int:=idx (kY n) l
def mg (b a:Ar):Bool:=decide (a.fr<b.en)&&decide (b.fr<a.en)
def uw (b a:Ar):Bool:=decide (b.fr<a.fr)
def zAr:Ar:=⟨0,0,false,false,false,0,0⟩
def uM (acc:List Ar) (a:Ar):List Ar:=match acc.getLast? with
 | some q=>if bR q a then acc.set (acc.length-1) { q with en:=a.en } else acc++[a]
 | none=>acc++[a]
def nI (l:List Ar):List Ar:=l.foldl uM []
theorem Av {l:List Ar} (h:(bF l).1=0):l.length≤16∧∀a∈l,aK a=0:=by
 unfold bF at h
 split at h
 ·exact absurd h (by decide)
 ·refine⟨by omega,?_⟩
  have key:∀(l:List Ar) (p:Option Ar) (i:Nat),(gM p i l).1=0→∀a∈l,aK a=0:=by
   intro l
   induction l with
   | nil=>intro p i _ a ha;cases ha
   | cons b r ih=>
    intro p i h a ha
    rw[kK] at h
    split at h
    ·rename_i hb;exact absurd h hb
    ·rename_i hb
     split at h
     ·exact absurd (show (2:Int)=0 from h) (by decide)
     ·rcases List.mem_cons.1 ha with rfl|ha
      ·exact Decidable.byContradiction hb
      ·exact ih _ _ h a ha
  exact key l none 0 h
def Pq (l:List Ar) (x:Ar):Nat:=match l.findIdx? (uw x) with
 | some k=>k
 | none=>l.length
def xH (l:List Ar) (x:Ar):List Ar:=l.take (Pq l x)++x::l.drop (Pq l x)
def vI (l:List Ar) (x:Ar):Int:=if (bF l).1≠0 then (bF l).1 else if aK x≠0 then aK x else if l.any (mg x)=true then 6 else if 16<(nI (xH l x)).length then 4 else 0
def sI (l:List Ar) (x:Ar):List Ar:=if vI l x≠0 then [] else nI (xH l x)
theorem BP {l:List Ar} {x:Ar} {e:Int} (h:vI l x=e) (he:e≠0):vI l x=e∧sI l x=[]:=by
 refine⟨h,?_⟩
 unfold sI;rw[if_pos (by rw[h];exact he)]
def xQ (n:Nat):Int:=if 16<n then 4 else 0
def aa:Ar:=⟨2,8,true,false,false,-1,0⟩
structure Pg where
 rd:Bool
 wr:Bool
 sh:Bool
 fi:Int
 pg:Int
 deriving DecidableEq
def iI (a:Ar) (n:Int):Pg:=⟨a.rd,a.wr,a.sh,a.fi,if 0≤a.fi then a.ba+n-a.fr else 0⟩
def onA:List Ar→Int→Option Pg
 | [],_=>none
 | a::r,n=>if kY n a then some (iI a n) else onA r n
theorem bX {n:Int} {a:Ar}:kY n a=true↔a.fr≤n∧n<a.en:=by unfold kY;simp
theorem bM (a:Ar) (r:List Ar) (n:Int):onA (a::r) n=if kY n a then some (iI a n) else onA r n:=rfl
theorem Ba (l m:List Ar) (n:Int):onA (l++m) n=(onA l n).or (onA m n):=by
 induction l with
 | nil=>simp[onA]
 | cons a r ih=>rw[List.cons_append,bM,bM];split<;>simp[ih]
def srtF:Int→List Ar→Prop
 | _,[]=>True
 | lo,a::r=>aK a=0∧lo≤a.fr∧srtF a.en r
theorem srtF_ok:∀ {l:List Ar} {lo:Int},srtF lo l→∀a∈l,aK a=0∧lo≤a.fr
 | b::r,lo,h,a,ha=>by
  rcases List.mem_cons.1 ha with rfl|ha
  ·exact⟨h.1,h.2.1⟩
  ·have h1:=srtF_ok h.2.2 a ha
   have h2:=(aX h.1).2.1
   have h3:=h.2.1
   exact⟨h1.1,by omega⟩
theorem on_low:∀ {l:List Ar} {lo n:Int},srtF lo l→n<lo→onA l n=none
 | [],_,_,_,_=>rfl
 | a::r,lo,n,h,hn=>by
  have h1:=h.2.1
  have h2:=(aX h.1).2.1
  rw[bM,if_neg (by rw[bX];omega)]
  exact on_low h.2.2 (by omega)
def okF (p:Option Ar):List Ar→Prop
 | []=>True
 | a::r=>aK a=0∧qh p a=false∧okF (some a) r
theorem tX {q a:Ar}:qh (some q) a=false↔q.en≤a.fr∧bR q a=false:=by
 unfold qh
 simp
theorem okF_srt:∀ {l:List Ar} {q:Ar},okF (some q) l→srtF q.en l
 | [],_,_=>trivial
 | a::r,q,h=>⟨h.1,(tX.1 h.2.1).1,okF_srt h.2.2⟩
theorem lS {l:List Ar} (h:okF none l):srtF 0 l:=by
 match l,h with
 | [],_=>trivial
 | a::r,h=>exact⟨h.1,by have:=(aX h.1).1.2.1.1;exact this,okF_srt h.2.2⟩
theorem wrongAt_iff:∀ {l:List Ar} {p:Option Ar} {i:Nat},(gM p i l).1=0↔okF p l
 | [],_,_=>⟨fun _=>trivial,fun _=>rfl⟩
 | a::r,p,i=>by
  rw[kK]
  by_cases h:aK a=0
  ·rw[if_neg (by rw[h];simp)]
   cases hb:qh p a
   ·rw[if_neg (by simp),wrongAt_iff]
    exact⟨fun h2=>⟨h,hb,h2⟩,fun h2=>h2.2.2⟩
   ·rw[if_pos rfl]
    refine⟨fun h2=>absurd (show (2:Int)=0 from h2) (by decide),fun h2 => ?_⟩
    have h3:=h2.2.1
    rw[hb] at h3
    cases h3
  ·rw[if_pos h]
   exact⟨fun h2=>absurd h2 h,fun h2=>absurd h2.1 h⟩
theorem iQ {l:List Ar}:(bF l).1=0↔l.length≤16∧okF none l:=by
 unfold bF
 by_cases h:16<l.length
 ·rw[if_pos h]
  exact⟨fun h2=>absurd (show (4:Int)=0 from h2) (by decide),fun h2=>by omega⟩
 ·rw[if_neg h,wrongAt_iff]
  exact⟨fun h2=>⟨by omega,h2⟩,fun h2=>h2.2⟩
theorem pz {q a:Ar}:bR q a=true↔q.en=a.fr∧q.rd=a.rd∧q.wr=a.wr∧q.sh=a.sh∧q.fi=a.fi∧a.ba=iq q:=by
 unfold bR
 simp[and_assoc]
theorem Ms {q a:Ar} (h:bR q a=true) (n:Int):iI a n=iI q n:=by
 obtain⟨h1,h2,h3,h4,h5,h6⟩:=pz.1 h
 unfold iI iq at *
 rw[←h2,←h3,←h4,←h5]
 split
 ·rename_i hf;rw[h6,if_pos hf];congr 1;omega
 ·rfl
theorem on_uniq:∀ {l m:List Ar} {p q:Option Ar},okF p l→okF q m→(∀n,onA l n=onA m n)→l=m
 | [],[],_,_,_,_,_=>rfl
 | [],b::s,_,_,_,hm,h=>by
  have:=h b.fr
  rw[bM,if_pos (bX.2 ⟨Int.le_refl _,(aX hm.1).2.1⟩)] at this
  cases this
 | a::r,[],_,_,hl,_,h=>by
  have:=h a.fr
  rw[bM,if_pos (bX.2 ⟨Int.le_refl _,(aX hl.1).2.1⟩)] at this
  cases this
 | a::r,b::s,p,q,hl,hm,h=>by
  have ea:=aX hl.1
  have eb:=aX hm.1
  have sr:=okF_srt hl.2.2
  have ss:=okF_srt hm.2.2
  have half:∀ {a b:Ar} {r s:List Ar},aK a=0→aK b=0→srtF a.en r→srtF b.en s→(∀n,onA (a::r) n=onA (b::s) n)→¬a.fr<b.fr:=by
   intro a b r s ha hb hr hs h hlt
   have h1:=h a.fr
   have h2:=(aX ha).2.1
   have h3:=(aX hb).2.1
   rw[bM,if_pos (bX.2 ⟨Int.le_refl _,h2⟩),bM,if_neg (by rw[bX];omega),on_low hs (by omega)] at h1
   cases h1
  have hfr:a.fr=b.fr:=by
   have h1:=half hl.1 hm.1 sr ss h
   have h2:=half hm.1 hl.1 ss sr (fun n=>(h n).symm)
   omega
  have h1:=h a.fr
  rw[bM,if_pos (bX.2 ⟨Int.le_refl _,ea.2.1⟩),bM,if_pos (bX.2 ⟨by omega,by have:=eb.2.1;omega⟩)] at h1
  have hpg:=Option.some.inj h1
  unfold iI at hpg
  simp only[Pg.mk.injEq] at hpg
  obtain⟨g1,g2,g3,g4,g5⟩:=hpg
  have hba:a.ba=b.ba:=by
   by_cases hf:0≤a.fi
   ·rw[if_pos hf,if_pos (by omega)] at g5;omega
   ·rw[(ea.2.2.2.2.1 (by omega)).1,(eb.2.2.2.2.1 (by omega)).1]
  have half2:∀ {a b:Ar} {r s:List Ar},aK a=0→aK b=0→okF (some a) r→a.fr=b.fr→a.rd=b.rd→a.wr=b.wr→a.sh=b.sh→a.fi=b.fi→a.ba=b.ba→(∀n,onA (a::r) n=onA (b::s) n)→¬a.en<b.en:=by
   intro a b r s ha hb hr k1 k2 k3 k4 k5 k6 h hlt
   have h1:=h a.en
   have h2:=(aX ha).2.1
   rw[bM,if_neg (by rw[bX];omega),bM,if_pos (bX.2 ⟨by omega,hlt⟩)] at h1
   match r,hr with
   | [],_=>cases h1
   | c::t,hr=>
    have hc:=tX.1 hr.2.1
    rw[bM] at h1
    split at h1
    ·rename_i hin
     rw[bX] at hin
     have hp:=Option.some.inj h1
     unfold iI at hp
     simp only[Pg.mk.injEq] at hp
     obtain⟨g1,g2,g3,g4,g5⟩:=hp
     have:bR a c=true:=by
      rw[pz]
      refine⟨by omega,by rw[k2,g1],by rw[k3,g2],by rw[k4,g3],by omega,?_⟩
      unfold iq
      by_cases hf:0≤a.fi
      ·rw[if_pos (by omega),if_pos (by omega)] at g5
       rw[if_pos hf];omega
      ·rw[if_neg hf]
       exact ((aX hr.1).2.2.2.2.1 (by omega)).1
     rw[hc.2] at this
     cases this
    ·rename_i hin
     rw[bX] at hin
     have:=(aX hr.1).2.1
     rw[on_low (okF_srt hr.2.2) (by omega)] at h1
     cases h1
  have hen:a.en=b.en:=by
   have h1:=half2 hl.1 hm.1 hl.2.2 hfr g1 g2 g3 g4 hba h
   have h2:=half2 hm.1 hl.1 hm.2.2 hfr.symm g1.symm g2.symm g3.symm g4.symm hba.symm (fun n=>(h n).symm)
   omega
  have hab:a=b:=by
   cases a;cases b
   simp_all
  subst hab
  congr 1
  refine on_uniq hl.2.2 hm.2.2 fun n => ?_
  have h1:=h n
  rw[bM,bM] at h1
  split at h1
  ·rename_i hin
   rw[bX] at hin
   rw[on_low sr (by omega),on_low ss (by omega)]
  ·exact h1
def nZ (q:Ar):List Ar→List Ar
 | []=>[q]
 | a::r=>if bR q a then nZ { q with en:=a.en } r else q::nZ a r
theorem CV (init:List Ar) (q a:Ar):uM (init++[q]) a=if bR q a then init++[{ q with en:=a.en }] else init++[q]++[a]:=by
 unfold uM
 rw[List.getLast?_concat]
 simp only[]
 split
 ·simp
 ·rfl
theorem tidy_go:∀(r:List Ar) (init:List Ar) (q:Ar),r.foldl uM (init++[q])=init++nZ q r
 | [],init,q=>rfl
 | a::r,init,q=>by
  rw[List.foldl_cons,CV]
  unfold nZ
  split
  ·exact tidy_go r init _
  ·rw[tidy_go r (init++[q]) a,List.append_assoc];rfl
theorem sS (a:Ar) (r:List Ar):nI (a::r)=nZ a r:=by
 unfold nI
 rw[List.foldl_cons]
 exact tidy_go r [] a
theorem wo {q a:Ar} (hq:aK q=0) (ha:aK a=0) (h:bR q a=true):aK { q with en:=a.en }=0:=by
 obtain⟨h1,h2,h3,h4,h5,h6⟩:=pz.1 h
 have eq:=aX hq
 have ea:=aX ha
 unfold vN at eq ea
 unfold aK
 rw[if_neg (by simp only[];omega),if_neg]
 simp only[]
 rintro (⟨k1,k2⟩|⟨k1,k2⟩)
 ·have:=eq.2.2.2.2.1 k1
  rcases k2 with k2|k2
  ·exact k2 this.1
  ·rw[this.2] at k2;cases k2
 ·have h7:=ea.2.2.2.2.2 (by omega)
  unfold iq at h6
  rw[if_pos k1] at h6
  omega
theorem Mr {q a:Ar} {r:List Ar} (hq:aK q=0) (ha:aK a=0) (h:bR q a=true) (n:Int):onA ({ q with en:=a.en }::r) n=onA (q::a::r) n:=by
 have hp:=Ms h n
 obtain⟨h1,_⟩:=pz.1 h
 have h2:=(aX hq).2.1
 have h3:=(aX ha).2.1
 rw[bM,bM,bM]
 have hpp:iI { q with en:=a.en } n=iI q n:=rfl
 by_cases c1:kY n q=true
 ·rw[if_pos c1,if_pos (by rw[bX] at c1 ⊢; simp only[];omega),hpp]
 ·rw[if_neg c1]
  by_cases c2:kY n a=true
  ·rw[if_pos c2,if_pos (by rw[bX] at c2 ⊢; simp only[];omega),hpp,hp]
  ·rw[if_neg c2,if_neg]
   rw[bX] at c1 c2 ⊢
   simp only[]
   omega
def EM (x:Ar):List Ar→List Ar
 | []=>[x]
 | a::r=>if x.fr<a.fr then x::a::r else a::EM x r
theorem wN (x:Ar):∀l:List Ar,xH l x=EM x l
 | []=>rfl
 | a::r=>by
  have ih:=wN x r
  unfold xH Pq at ih ⊢
  unfold EM
  rw[List.findIdx?_cons]
  by_cases h:x.fr<a.fr
  ·rw[if_pos h,if_pos (show uw x a=true from decide_eq_true h)]
   rfl
  ·rw[if_neg h,if_neg (show ¬uw x a=true by unfold uw;simpa using h)]
   cases hq:r.findIdx? (uw x) with
   | none=>rw[hq] at ih;simp only[Option.map_none] at *; rw[←ih];simp
   | some k=>rw[hq] at ih;simp only[Option.map_some] at *; rw[←ih];simp
theorem BC {x:Ar} (hx:aK x=0) (n:Int):∀ {l:List Ar} {lo:Int},srtF lo l→(∀a∈l,mg x a=false)→onA (EM x l) n=if kY n x then some (iI x n) else onA l n
 | [],_,_,_=>rfl
 | a::r,lo,h,hm=>by
  unfold EM
  split
  ·rfl
  ·rename_i hlt
   rw[bM,bM,BC hx n h.2.2 (fun b hb=>hm b (List.mem_cons_of_mem _ hb))]
   by_cases c1:kY n a=true
   ·rw[if_pos c1,if_pos c1]
    rw[if_neg]
    rw[bX] at c1 ⊢
    have hm1:=hm a List.mem_cons_self
    unfold mg at hm1
    have h2:=(aX hx).2.1
    have h3:=(aX h.1).2.1
    simp only[Bool.and_eq_false_iff,decide_eq_false_iff_not] at hm1
    omega
   ·rw[if_neg c1,if_neg c1]
theorem xG {x:Ar} (hx:aK x=0):∀ {l:List Ar} {lo:Int},srtF lo l→lo≤x.fr→(∀a∈l,mg x a=false)→srtF lo (EM x l)
 | [],lo,_,hl,_=>⟨hx,hl,trivial⟩
 | a::r,lo,h,hl,hm=>by
  have hm1:=hm a List.mem_cons_self
  unfold mg at hm1
  have h2:=(aX hx).2.1
  have h3:=(aX h.1).2.1
  simp only[Bool.and_eq_false_iff,decide_eq_false_iff_not] at hm1
  unfold EM
  split
  ·exact⟨hx,hl,h.1,by omega,h.2.2⟩
  ·rename_i hlt
   exact⟨h.1,h.2.1,xG hx h.2.2 (by omega) (fun b hb=>hm b (List.mem_cons_of_mem _ hb))⟩
theorem LH {a:Ar} (h:aK a=0) {k:Int} (hk:kY k a=true):0≤k∧k<64:=by
 have:=(aX h).1
 unfold vN at this
 rw[bX] at hk
 omega
theorem toList_map {α β:Type} (o:Option α) (f:α→β):(o.map f).toList=o.toList.map f:=by cases o<;>rfl
theorem AR (l:List Ar) (n:Int):(0≤iX l n)↔onA l n≠none:=by
 have h:=lF (kY n) l
 have h2:l.any (kY n)=true↔onA l n≠none:=by
  induction l with
  | nil=>simp[onA]
  | cons a r ih=>rw[List.any_cons,bM];cases kY n a<;>simp[ih (lF _ _)]
 rw[←h2,←h,decide_eq_true_eq]
 exact Iff.rfl
def oR (o:Option Pg):Bool:=match o with | some p=>p.rd | none=>false
def oW (o:Option Pg):Bool:=match o with | some p=>p.wr | none=>false
def oH (o:Option Pg):Bool:=match o with | some p=>p.sh | none=>false
def oF (o:Option Pg):Int:=match o with | some p=>p.fi | none=>0
def oP (o:Option Pg):Int:=match o with | some p=>p.pg | none=>0
def Hd (f:Nat→Option Pg):List (Option Pg):=(List.range 64).map f
theorem rA (f:Nat→Option Pg):(Hd f).length=64:=by simp[Hd]
theorem Nt (f:Nat→Option Pg) (k:Nat) (x:Option Pg):(Hd f).set k x=Hd (fun i=>if i=k then x else f i):=by
 unfold Hd
 apply List.ext_getElem?
 intro i
 rw[List.getElem?_set]
 by_cases h:k=i
 ·subst h
  by_cases hk:k<64
  ·simp[hk]
  ·simp[hk]
 ·rw[if_neg h]
  by_cases hi:i<64
  ·simp[hi,Ne.symm h]
  ·simp[hi]
def f0:Nat→Option Pg:=fun _=>none
def CZ (A:Ar) (K:Int) (f:Nat→Option Pg):Nat→Option Pg:=fun i=>if A.fr≤(i:Int)∧(i:Int)<K then some (iI A i) else f i
theorem Ho (A:Ar) (f:Nat→Option Pg):CZ A A.fr f=f:=by funext i;unfold CZ;rw[if_neg (by omega)]
theorem Md {A:Ar} (hK:A.fr≤(K:Int)) (f:Nat→Option Pg):(fun i=>if i=K then some (iI A K) else CZ A K f i)=CZ A ((K:Int)+1) f:=by
 funext i
 unfold CZ
 by_cases h:i=K
 ·subst h;rw[if_pos rfl,if_pos (by omega)]
 ·rw[if_neg h]
  by_cases c:A.fr≤(i:Int)∧(i:Int)<K
  ·rw[if_pos c,if_pos (by omega)]
  ·rw[if_neg c,if_neg (by omega)]
def bN (l:List Ar):Nat→Option Pg:=l.foldl (fun f A=>CZ A A.en f) f0
theorem Ex {l:List Ar} (hk:k<l.length):bN (l.take (k+1))=CZ l[k] l[k].en (bN (l.take k)):=by
 unfold bN
 rw[List.take_add_one,List.getElem?_eq_getElem hk,Option.toList_some,List.foldl_append]
 rfl
def lW (p q:Pg):Pg:=if 0≤p.fi then { q with pg:=q.pg+1 } else q
def jE (f:Nat→Option Pg) (k:Nat) (p:Pg):Bool:=match k with
 | 0=>false
 | m+1=>match f m with
  | some q=>lW p q==p
  | none=>false
def dN (k:Nat) (p:Pg):Ar:=⟨k,(k:Int)+1,p.rd,p.wr,p.sh,p.fi,p.pg⟩
def qz (l:List Ar) (e:Int):List Ar:=match l.getLast? with
 | some q=>l.set (l.length-1) { q with en:=e }
 | none=>l
def jd (f:Nat→Option Pg):Nat→List Ar
 | 0=>[]
 | k+1=>match f k with
  | none=>jd f k
  | some p=>if jE f k p then qz (jd f k) ((k:Int)+1) else jd f k++[dN k p]
theorem zx (l:List Ar) (e:Int):(qz l e).length=l.length:=by unfold qz;split<;>simp
theorem BU (f:Nat→Option Pg):∀k,(jd f k).length≤k
 | 0=>Nat.le_refl _
 | k+1=>by
  have ih:=BU f k
  unfold jd
  split
  ·omega
  ·split
   ·rw[zx];omega
   ·rw[List.length_append,List.length_singleton];omega
theorem Ld (f:Nat→Option Pg) {m:Nat} {q:Pg} (h:f m=some q):0<(jd f (m+1)).length:=by
 have hall:∀k (q:Pg),f k=some q→0<(jd f (k+1)).length:=by
  intro k
  induction k with
  | zero=>intro q h;unfold jd;rw[h];simp[jE]
  | succ k ih=>
   intro q h
   rw[jd,h]
   simp only[]
   by_cases hs:jE f (k+1) q=true
   ·rw[if_pos hs,zx]
    cases hf:f k with
    | none=>
     have h2:jE f (k+1) q=false:=by simp only[jE,hf]
     rw[h2] at hs
     cases hs
    | some z=>exact ih z hf
   ·rw[if_neg hs,List.length_append,List.length_singleton];omega
 exact hall m q h
theorem Pe (p q:Pg):(p==q)=(p.rd==q.rd&&(p.wr==q.wr&&(p.sh==q.sh&&(p.fi==q.fi&&p.pg==q.pg)))):=by
 cases p;cases q
 rw[Bool.eq_iff_iff]
 simp
theorem KT {f:Nat→Option Pg} (h:f k=none):jd f (k+1)=jd f k:=by rw[jd,h]
theorem KO {f:Nat→Option Pg} {p:Pg} (h:f k=some p) (hs:jE f k p=true):jd f (k+1)=qz (jd f k) ((k:Int)+1):=by
 rw[jd,h];simp only[];rw[if_pos hs]
theorem xh {f:Nat→Option Pg} {p:Pg} (h:f k=some p) (hs:jE f k p=false):jd f (k+1)=jd f k++[dN k p]:=by
 rw[jd,h];simp only[];rw[hs];rfl
theorem Dr {l:List Ar} (hn:l.length=n+1) (e:Int):qz l e=l.set n { (l[n]'(by omega)) with en:=e }:=by
 unfold qz
 have:l.getLast?=some (l[n]'(by omega)):=by rw[List.getLast?_eq_getElem?,List.getElem?_eq_getElem (by omega)];simp[hn]
 rw[this];simp[hn]
theorem JS {f:Nat→Option Pg} (h:f k=none):jd f (k+1)=jd f k:=by rw[jd,h]
theorem Oq {f:Nat→Option Pg} {p:Pg} (h:f k=some p) (hs:jE f k p=true):jd f (k+1)=qz (jd f k) ((k:Int)+1):=by
 rw[jd,h];simp only[];rw[if_pos hs]
theorem KC {f:Nat→Option Pg} {p:Pg} (h:f k=some p) (hs:jE f k p=false):jd f (k+1)=jd f k++[dN k p]:=by
 rw[jd,h];simp only[];rw[hs];rfl
def JG (p:Pg):Prop:=-1≤p.fi∧p.fi<5∧0≤p.pg∧(p.fi<0→p.pg=0∧p.sh=false)∧(0≤p.fi→p.pg≤11)
theorem wP {l:List Ar} {n:Int} (h:∀a∈l,a.en≤n):onA l n=none:=by
 induction l with
 | nil=>rfl
 | cons a r ih=>
  have:=h a List.mem_cons_self
  rw[bM,if_neg (by rw[bX];omega),ih (fun b hb=>h b (List.mem_cons_of_mem _ hb))]
theorem Kz {l:List Ar} {a:Ar} {n:Int} (h:a∈l) (hn:kY n a=true):onA l n≠none:=by
 induction l with
 | nil=>cases h
 | cons b r ih=>
  rw[bM]
  split
  ·simp
  ·rename_i hb
   rcases List.mem_cons.1 h with rfl|h
   ·exact absurd hn hb
   ·exact ih h
theorem CS {x y:Ar} (hy:aK y=0) (hb:∀p,qh p x=false→qh p y=false):∀ {l:List Ar} {p:Option Ar},okF p (l++[x])→okF p (l++[y])
 | [],p,h=>⟨hy,hb p h.2.1,trivial⟩
 | a::r,p,h=>⟨h.1,h.2.1,CS hy hb h.2.2⟩
theorem Dp {x y:Ar} (hy:aK y=0) (hb:qh (some x) y=false):∀ {l:List Ar} {p:Option Ar},okF p (l++[x])→okF p (l++[x]++[y])
 | [],p,h=>⟨h.1,h.2.1,hy,hb,trivial⟩
 | a::r,p,h=>⟨h.1,h.2.1,Dp hy hb h.2.2⟩
theorem vK {x:Ar}:∀ {l:List Ar} {p:Option Ar},okF p (l++[x])→aK x=0
 | [],p,h=>h.1
 | a::r,p,h=>vK h.2.2
theorem JI (hk:k<64) {p:Pg} (hp:JG p):aK (dN k p)=0:=by
 obtain⟨h1,h2,h3,h4,h5⟩:=hp
 unfold aK dN
 simp only[]
 rw[if_neg (by omega),if_neg]
 rintro (⟨a,b⟩|⟨a,b⟩)
 ·have:=h4 a
  rcases b with b|b
  ·exact b this.1
  ·rw[this.2] at b;cases b
 ·have:=h5 a;omega
theorem Jh {a:Ar} {m:Nat} {p:Pg} (h:lW p (iI a m)=p):iI a ((m:Int)+1)=p:=by
 unfold lW at h
 by_cases hf:0≤p.fi
 ·rw[if_pos hf] at h
  have hfi:a.fi=p.fi:=by rw[←h];rfl
  rw[←h]
  unfold iI
  simp only[]
  rw[if_pos (by omega),if_pos (by omega)]
  congr 1;omega
 ·rw[if_neg hf] at h
  have hfi:a.fi=p.fi:=by rw[←h];rfl
  rw[←h]
  unfold iI
  rw[if_neg (by omega),if_neg (by omega)]
structure PV (f:Nat→Option Pg) (k:Nat):Prop where
 ok:okF none (jd f k)
 en:∀a∈jd f k,a.en≤(k:Int)
 on:∀i:Nat,i<k→onA (jd f k) i=f i
 last:∀m q,k=m+1→f m=some q→∃init a,jd f k=init++[a]∧a.en=(k:Int)∧a.fr≤(m:Int)∧iI a m=q
theorem Mw {f:Nat→Option Pg} (hf:∀i p,i<64→f i=some p→JG p):∀k,k≤64→PV f k
 | 0,_=>⟨trivial,fun a ha=>(by cases ha),fun i hi=>absurd hi (Nat.not_lt_zero _),fun m q h=>(by cases h)⟩
 | k+1,hk=>by
  have ih:=Mw hf k (by omega)
  have he:=ih.en
  cases hfk:f k with
  | none=>
   have hst:=JS hfk
   refine⟨by rw[hst];exact ih.ok,fun a ha=>by rw[hst] at ha;have:=he a ha;omega,fun i hi => ?_,fun m q hm hq => ?_⟩
   ·rw[hst]
    by_cases hik:i=k
    ·subst hik;rw[hfk];exact wP he
    ·exact ih.on i (by omega)
   ·obtain rfl:m=k:=by omega
    rw[hfk] at hq;cases hq
  | some p=>
   have hp:=hf k p (by omega) hfk
   cases hs:jE f k p
   ·have hst:=KC hfk hs
    have hx:=JI (by omega:k<64) hp
    have hok:okF none (jd f (k+1)):=by
     rw[hst]
     rcases List.eq_nil_or_concat (jd f k) with h0|⟨init,a,h0⟩
     ·rw[h0];exact⟨hx,rfl,trivial⟩
     ·rw[List.concat_eq_append] at h0
      have hoka:=ih.ok
      have hon:=ih.on
      rw[h0] at hoka hon he ⊢
      have hae:=he a (List.mem_append_right _ List.mem_cons_self)
      refine Dp hx (tX.2 ⟨hae,?_⟩) hoka
      cases hj:bR a (dN k p)
      ·rfl
      ·exfalso
       obtain⟨j1,j2,j3,j4,j5,j6⟩:=pz.1 hj
       have j1' : a.en=(k:Int):=j1
       have ha0:=vK hoka
       have hfr:=(aX ha0).1.2.1.1
       have hlt:=(aX ha0).2.1
       obtain⟨m,rfl⟩:∃m,k=m+1:=⟨k-1,by omega⟩
       have hin:kY (m:Int) a=true:=bX.2 ⟨by omega,by omega⟩
       cases hfm:f m with
       | none=>
        have h1:=hon m (by omega)
        rw[hfm] at h1
        exact Kz (List.mem_append_right _ List.mem_cons_self) hin h1
       | some q=>
        obtain⟨init',a',e1,e2,e3,e4⟩:=ih.last m q rfl hfm
        rw[h0] at e1
        have haa:a=a':=by
         have:=congrArg List.getLast? e1
         rw[List.getLast?_concat,List.getLast?_concat] at this
         exact Option.some.inj this
        subst haa
        have hsn:jE f (m+1) p=(lW p q==p):=by simp only[jE,hfm]
        rw[hsn] at hs
        have:lW p q=p:=by
         rw[←e4]
         have k2:a.rd=p.rd:=j2
         have k3:a.wr=p.wr:=j3
         have k4:a.sh=p.sh:=j4
         have k5:a.fi=p.fi:=j5
         have k6:p.pg=iq a:=j6
         unfold iq at k6
         clear hx hfk hp hst hj hs e4 j2 j3 j4 j5 j6 hsn
         cases p with
         | mk prd pwr psh pfi ppg=>
          have k2:a.rd=prd:=k2
          have k3:a.wr=pwr:=k3
          have k4:a.sh=psh:=k4
          have k5:a.fi=pfi:=k5
          have k6:ppg=if 0≤a.fi then a.ba+a.en-a.fr else 0:=k6
          subst k2 k3 k4 k5 k6
          unfold lW iI
          show (if 0≤a.fi then (⟨a.rd,a.wr,a.sh,a.fi,(if 0≤a.fi then a.ba+(m:Int)-a.fr else 0)+1⟩:Pg) else ⟨a.rd,a.wr,a.sh,a.fi,if 0≤a.fi then a.ba+(m:Int)-a.fr else 0⟩)=_
          by_cases hfi:0≤a.fi
          ·rw[if_pos hfi,if_pos hfi,if_pos hfi]
           congr 1
           omega
          ·rw[if_neg hfi,if_neg hfi,if_neg hfi]
        rw[this] at hs
        simp at hs
    refine⟨hok,fun a ha => ?_,fun i hi => ?_,fun m q hm hq => ?_⟩
    ·rw[hst] at ha
     rcases List.mem_append.1 ha with ha|ha
     ·have:=he a ha;omega
     ·rw[List.mem_singleton.1 ha];show (k:Int)+1≤_;omega
    ·rw[hst,Ba]
     have hone:onA [dN k p] (i:Int)=if i=k then some p else none:=by
      rw[bM]
      by_cases hik:i=k
      ·subst hik
       rw[if_pos rfl,if_pos (show kY (i:Int) (dN i p)=true from bX.2 ⟨Int.le_refl _,by show (i:Int)<i+1;omega⟩)]
       unfold iI dN
       simp only[]
       congr 1
       obtain⟨_,_,_,h4,_⟩:=hp
       cases p with
       | mk rd wr sh fi pg=>
        simp only[Pg.mk.injEq,true_and]
        simp only[] at h4
        split
        ·omega
        ·exact (h4 (by omega)).1.symm
      ·rw[if_neg hik,if_neg]
       ·rfl
       ·rw[bX]
        show ¬((k:Int)≤i∧(i:Int)<k+1)
        omega
     rw[hone]
     by_cases hik:i=k
     ·subst hik
      rw[if_pos rfl,wP he,hfk];rfl
     ·rw[if_neg hik,ih.on i (by omega),Option.or_none]
    ·obtain rfl:m=k:=by omega
     rw[hfk] at hq
     cases hq
     refine⟨jd f m,dN m p,hst,by show (m:Int)+1=_;omega,Int.le_refl _,?_⟩
     unfold iI dN
     simp only[]
     obtain⟨_,_,_,h4,_⟩:=hp
     cases p with
     | mk rd wr sh fi pg=>
      simp only[Pg.mk.injEq,true_and]
      simp only[] at h4
      split
      ·omega
      ·exact (h4 (by omega)).1.symm
   ·have hst:=Oq hfk hs
    obtain⟨m,rfl⟩:∃m,k=m+1:=by
     cases k with
     | zero=>cases hs
     | succ m=>exact⟨m,rfl⟩
    have hsn:jE f (m+1) p=(match f m with | some q=>lW p q==p | none=>false):=rfl
    rw[hsn] at hs
    cases hfm:f m with
    | none=>rw[hfm] at hs;cases hs
    | some q=>
     rw[hfm] at hs
     have hnx:lW p q=p:=by simpa using hs
     obtain⟨init,a,e1,e2,e3,e4⟩:=ih.last m q rfl hfm
     have hok:=ih.ok
     have hon:=ih.on
     rw[e1] at hok hon he hst
     have ha0:=vK hok
     have ef:=aX ha0
     rw[←e4] at hnx
     have hpk:=Jh hnx
     have hset:qz (init++[a]) (((m+1:Nat):Int)+1)=init++[{ a with en:=((m+1:Nat):Int)+1 }]:=by
      unfold qz
      rw[List.getLast?_concat]
      simp
     rw[hset] at hst
     have hy:aK { a with en:=((m+1:Nat):Int)+1 }=0:=by
      unfold vN at ef
      have e5:=ef.2.2.2.2.1
      unfold aK
      simp only[]
      rw[if_neg (by omega),if_neg]
      rintro (⟨b1,b2⟩|⟨b1,b2⟩)
      ·have:=e5 b1
       rcases b2 with b2|b2
       ·exact b2 this.1
       ·rw[this.2] at b2;cases b2
      ·have h5:=hp.2.2.2.2
       rw[←hpk] at h5
       have h6:=h5 b1
       unfold iI at h6
       simp only[] at h6
       rw[if_pos b1] at h6
       omega
     have hinit:∀b∈init,b.en≤((m+1:Nat):Int):=fun b hb=>he b (List.mem_append_left _ hb)
     have hfi:∀n,iI { a with en:=((m+1:Nat):Int)+1 } n=iI a n:=fun n=>rfl
     refine⟨?_,fun b hb => ?_,fun i hi => ?_,fun m' q' hm' hq' => ?_⟩
     ·rw[hst]
      refine CS hy (fun z hz => ?_) hok
      cases z with
      | none=>rfl
      | some z=>exact hz
     ·rw[hst] at hb
      rcases List.mem_append.1 hb with hb|hb
      ·have:=hinit b hb;omega
      ·rw[List.mem_singleton.1 hb];show ((m+1:Nat):Int)+1≤_;omega
     ·rw[hst,Ba]
      by_cases hik:i=m+1
      ·subst hik
       rw[wP hinit,bM,if_pos (bX.2 ⟨by show a.fr≤((m+1:Nat):Int);omega,by show ((m+1:Nat):Int)<((m+1:Nat):Int)+1;omega⟩),hfi,hfk]
       show some (iI a ((m+1:Nat):Int))=some p
       rw[show ((m+1:Nat):Int)=(m:Int)+1 by omega,hpk]
      ·have h1:=hon i (by omega)
       rw[Ba] at h1
       rw[←h1]
       congr 1
       rw[bM,bM,hfi]
       by_cases c:kY (i:Int) a=true
       ·rw[if_pos c,if_pos (by rw[bX] at c ⊢; show a.fr≤(i:Int)∧(i:Int)<((m+1:Nat):Int)+1;omega)]
       ·rw[if_neg c,if_neg (by rw[bX] at c ⊢; show ¬(a.fr≤(i:Int)∧(i:Int)<((m+1:Nat):Int)+1);omega)]
     ·obtain rfl:m' = m+1:=by omega
      rw[hfk] at hq'
      cases hq'
      refine⟨init,_,hst,by show ((m+1:Nat):Int)+1=_;omega,by show a.fr≤_;omega,?_⟩
      rw[hfi,show ((m+1:Nat):Int)=(m:Int)+1 by omega,hpk]
theorem JA {f:Nat→Option Pg} (hf:∀i p,i<64→f i=some p→JG p):okF none (jd f 64)∧∀n:Int,onA (jd f 64) n=if 0≤n∧n<64 then f n.toNat else none:=by
 have h:=Mw hf 64 (Nat.le_refl _)
 refine⟨h.ok,fun n => ?_⟩
 by_cases hn:0≤n∧n<64
 ·rw[if_pos hn]
  have:=h.on n.toNat (by omega)
  rwa [show ((n.toNat:Nat):Int)=n by omega] at this
 ·rw[if_neg hn]
  cases ho:onA (jd f 64) n with
  | none=>rfl
  | some p=>
   exfalso
   have hs:=lS h.ok
   by_cases h0:n<0
   ·rw[on_low hs h0] at ho;cases ho
   ·rw[wP (fun a ha=>by have:=h.en a ha;omega)] at ho;cases ho
theorem fold_on:∀ {l:List Ar} {lo:Int} (g:Nat→Option Pg),srtF lo l→∀i:Nat,(l.foldl (fun f A=>CZ A A.en f) g) i=(onA l i).or (g i)
 | [],_,g,_,i=>by simp[onA]
 | a::r,lo,g,h,i=>by
  rw[List.foldl_cons,fold_on _ h.2.2,bM]
  by_cases c:kY (i:Int) a=true
  ·rw[if_pos c,on_low h.2.2 (bX.1 c).2]
   unfold CZ
   rw[if_pos (bX.1 c)]
   rfl
  ·rw[if_neg c]
   unfold CZ
   rw[if_neg (fun h=>c (bX.2 h))]
theorem pq {l:List Ar} (h:srtF lo l) (i:Nat):bN l i=onA l i:=by
 unfold bN
 rw[fold_on _ h]
 simp[f0]
theorem GD {a:Ar} (ha:aK a=0) {n:Int} (hn:kY n a=true):JG (iI a n):=by
 have e:=aX ha
 unfold vN at e
 rw[bX] at hn
 have e5:=e.2.2.2.2.1
 have e6:=e.2.2.2.2.2
 unfold JG iI
 simp only[]
 refine⟨by omega,by omega,by split<;>omega,fun h=>⟨by rw[if_neg (by omega)],(e5 h).2⟩,fun h=>by rw[if_pos h];have:=e6 h;omega⟩
theorem Mh {l:List Ar} (h:srtF lo l) {n:Int} {p:Pg} (hp:onA l n=some p):JG p:=by
 induction l generalizing lo with
 | nil=>cases hp
 | cons a r ih=>
  rw[bM] at hp
  split at hp
  ·rename_i hn;cases hp;exact GD h.1 hn
  ·exact ih h.2.2 hp
theorem FD {f:Nat→Option Pg} {m:List Ar} (hm:okF none m) (hf:∀i:Nat,i<64→f i=onA m i):jd f 64=m:=by
 have hs:=lS hm
 obtain⟨h1,h2⟩:=JA (f:=f) (fun i p hi hp=>Mh hs (by rw[←hf i hi];exact hp))
 refine on_uniq h1 hm fun n => ?_
 rw[h2]
 by_cases hn:0≤n∧n<64
 ·rw[if_pos hn,hf _ (by omega),show ((n.toNat:Nat):Int)=n by omega]
 ·rw[if_neg hn]
  symm
  cases ho:onA m n with
  | none=>rfl
  | some p=>
   exfalso
   have:∃a∈m,kY n a=true:=by
    have hh:=(AR m n).2 (by rw[ho];simp)
    have:=lF (kY n) m
    rw[show decide (0≤idx (kY n) m)=true from decide_eq_true hh] at this
    exact List.any_eq_true.1 this.symm
   obtain⟨a,ha,hin⟩:=this
   have:=LH (srtF_ok hs a ha).1 hin
   omega
theorem Cf {l:List Ar} (h:srtF lo l):∀i p,bN l i=some p→0≤p.pg∧p.pg≤100:=by
 intro i p hp
 rw[pq h] at hp
 obtain⟨_,_,h3,h4,h5⟩:=Mh h hp
 refine⟨h3,?_⟩
 by_cases hf:p.fi<0
 ·rw[(h4 hf).1];decide
 ·have:=h5 (by omega);omega
def oq (x:Ar) (n:Nat) (f:Nat→Option Pg):Nat→Option Pg:=fun i=>if kY (i:Int) x=true∧i<n then some (iI x i) else f i
theorem FO (x:Ar) (f:Nat→Option Pg):oq x 0 f=f:=by funext i;unfold oq;rw[if_neg (by omega)]
theorem Nu (x:Ar) (n:Nat) (f:Nat→Option Pg):oq x n f n=f n:=by unfold oq;rw[if_neg (by omega)]
theorem IQ {x:Ar} (h:¬kY (n:Int) x=true) (f:Nat→Option Pg):oq x (n+1) f=oq x n f:=by
 funext i
 unfold oq
 by_cases c:i=n
 ·subst c;rw[if_neg (fun q=>h q.1),if_neg (fun q=>h q.1)]
 ·by_cases d:kY (i:Int) x=true∧i<n
  ·rw[if_pos d,if_pos ⟨d.1,by omega⟩]
  ·rw[if_neg d,if_neg (fun q=>d ⟨q.1,by omega⟩)]
theorem KN {x:Ar} (h:kY (n:Int) x=true) (f:Nat→Option Pg):(fun i=>if i=n then some (iI x n) else oq x n f i)=oq x (n+1) f:=by
 funext i
 unfold oq
 by_cases c:i=n
 ·subst c;rw[if_pos rfl,if_pos ⟨h,by omega⟩]
 ·rw[if_neg c]
  by_cases d:kY (i:Int) x=true∧i<n
  ·rw[if_pos d,if_pos ⟨d.1,by omega⟩]
  ·rw[if_neg d,if_neg (fun q=>d ⟨q.1,by omega⟩)]
theorem Mj (x:Ar) (i:Nat):bN [x] i=if kY (i:Int) x=true then some (iI x i) else none:=by
 unfold bN
 simp only[List.foldl_cons,List.foldl_nil]
 unfold CZ f0
 by_cases c:kY (i:Int) x=true
 ·rw[if_pos c,if_pos (bX.1 c)]
 ·rw[if_neg c,if_neg (fun h=>c (bX.2 h))]
theorem LW {l:List Ar} {x:Ar} {i:Int} (hx:kY i x=true) (hl:onA l i≠none):l.any (mg x)=true:=by
 have hh:=(AR l i).2 hl
 have:=lF (kY i) l
 rw[show decide (0≤idx (kY i) l)=true from decide_eq_true hh] at this
 obtain⟨a,ha,hin⟩:=List.any_eq_true.1 this.symm
 refine List.any_eq_true.2 ⟨a,ha,?_⟩
 rw[bX] at hx hin
 unfold mg
 rw[decide_eq_true (by omega),decide_eq_true (by omega)];rfl
theorem Ox {l:List Ar} {x:Ar} (hok:okF none l) (hx:aK x=0) (h:∀i:Nat,i<64→¬(kY (i:Int) x=true∧onA l i≠none)):l.any (mg x)=false:=by
 rw[List.any_eq_false]
 intro a ha hm
 have ha0:=(srtF_ok (lS hok) a ha).1
 have e1:=aX ha0
 have e2:=aX hx
 unfold vN at e1 e2
 unfold mg at hm
 rw[Bool.and_eq_true,decide_eq_true_eq,decide_eq_true_eq] at hm
 refine h (max a.fr x.fr).toNat (by omega) ⟨bX.2 (by omega),Kz ha (bX.2 (by omega))⟩
theorem xX {e:En} (h:eU e=0):kD e=BF e:=by
 unfold eU at h
 unfold kD BF
 split at h
 ·cases h
 ·rename_i h1
  rw[Bool.eq_iff_iff]
  simp
  omega
theorem tZ {h:List En} (h0:jP h=0):∀e∈h,eU e=0:=by
 intro e he
 obtain⟨i,hi,rfl⟩:=List.mem_iff_getElem.1 he
 have hl:=mE h0
 by_cases hne:∀j (hj:j<h.length),eU h[j]=0
 ·exact hne i hi
 ·exfalso
  have hf:firstE (h.map eU)≠0:=by
   intro hf
   apply hne
   intro j hj
   have key:∀(l:List Int),firstE l=0→∀x∈l,x=0:=by
    intro l
    induction l with
    | nil=>intro _ x hx;cases hx
    | cons y r ih=>
     intro h x hx
     by_cases e:y=0
     ·simp only[firstE,e,if_true] at h
      rcases List.mem_cons.1 hx with rfl|hx
      ·exact e
      ·exact ih h x hx
     ·simp only[firstE,e,if_false] at h
   exact key _ hf _ (List.mem_map.2 ⟨h[j],List.getElem_mem hj,rfl⟩)
  unfold jP at h0
  rw[if_neg (by omega),if_pos hf] at h0
  exact hf h0
theorem zz {t:Tb} (hi:i<8) (h:jP t[i]=0):jf (eT t) i=if t[i].length=0 then List.replicate 8 zEn else t[i]:=by
 have hl:=mE h
 apply List.ext_getElem?
 intro r
 unfold jf eT
 rw[List.getElem?_take]
 by_cases hr:r<8
 ·rw[if_pos hr,List.getElem?_drop,List.getElem?_map,List.getElem?_range (by omega)]
  simp only[Option.map_some]
  rcases hl with hl|hl
  ·rw[if_pos hl,List.getElem?_replicate,if_pos hr,zw hi hr hl]
  ·rw[if_neg (by omega),List.getElem?_eq_getElem (by omega),Hm hi hr hl (List.getElem?_eq_getElem (by omega))]
 ·rw[if_neg hr,List.getElem?_eq_none]
  split
  ·simp;omega
  ·omega
theorem Bt {h:List En} (h0:∀e∈h,eU e=0):h.any BF=h.any kD:=by
 rw[Bool.eq_iff_iff]
 simp only[List.any_eq_true]
 constructor
 ·rintro⟨e,he,h1⟩;exact⟨e,he,by rw[xX (h0 e he)];exact h1⟩
 ·rintro⟨e,he,h1⟩;exact⟨e,he,by rw[←xX (h0 e he)];exact h1⟩
theorem Mk {h:List En} (h0:jP h=0) (hl:h.length≠0):h.any kD=true:=by
 have h1:=uZ (mE h0) (fun i hi=>tZ h0 _ (List.getElem_mem hi))
 rw[h0] at h1
 by_cases hh:h.any (fun e=>decide (e.k≠0))=false
 ·rw[if_pos ⟨by omega,hh⟩] at h1;cases h1
 ·simpa[kD] using hh
theorem vW {t:Tb} (hi:i<8) (h:jP t[i]=0):jG (eT t) i=t[i]:=by
 unfold jG
 rw[zz hi h]
 by_cases hl:t[i].length=0
 ·rw[if_pos hl]
  have:t[i]=[]:=List.eq_nil_of_length_eq_zero hl
  rw[this]
  decide
 ·rw[if_neg hl,Bt (tZ h),Mk h hl]
  rfl
theorem yU {t:Tb} {n:Int} {e:En} (h:setE t n e=0):setT t n e=dW ((eT t).set n.toNat e):=by
 have h0:dh t=0:=by
  unfold setE at h
  by_cases hw:dh t=0
  ·exact hw
  ·rw[if_pos hw] at h;exact h
 have hn:0≤n∧n<64:=by
  unfold setE at h
  rw[if_neg (by rw[h0];simp)] at h
  by_cases hn:n<0∨64≤n
  ·rw[if_pos hn] at h;cases h
  ·omega
 have he:eU e=0:=by
  unfold setE at h
  rwa [if_neg (by rw[h0];simp),if_neg (by omega)] at h
 obtain⟨q,r,hq,hr,hnn,_,_⟩:=qP hn
 have hN:n.toNat=8*q+r:=by omega
 rw[Ga h hq hr hnn,hN]
 apply Vector.ext
 intro i hi
 simp only[dW,Vector.getElem_ofFn]
 have hh:=ky h0 i hi
 by_cases ei:i=q
 ·subst ei
  rw[Vector.getElem_set_self]
  have hp:jf ((eT t).set (8*i+r) e) i=(jf (eT t) i).set r e:=by
   apply List.ext_getElem?
   intro k
   have hlen:(eT t).length=64:=by simp[eT]
   by_cases hk:k<8
   ·unfold jf
    rw[List.getElem?_take,if_pos hk,List.getElem?_drop]
    by_cases ek:k=r
    ·subst ek
     rw[List.getElem?_set_self (by omega),List.getElem?_set_self (by simp;omega)]
    ·rw[List.getElem?_set_ne (by omega),List.getElem?_set_ne (fun h=>ek h.symm),List.getElem?_take,if_pos hk,List.getElem?_drop]
   ·rw[List.getElem?_eq_none (by simp[jf];omega),List.getElem?_eq_none (by simp[jf];omega)]
  unfold jG
  rw[hp,zz hi hh]
  unfold setH OI
  rw[Bt]
  intro x hx
  rcases List.mem_or_eq_of_mem_set hx with hx|rfl
  ·split at hx
   ·rw[(List.mem_replicate.1 hx).2];rfl
   ·exact tZ hh x hx
  ·exact he
 ·rw[Vector.getElem_set_ne hq hi (fun h=>ei h.symm)]
  have hp:jf ((eT t).set (8*q+r) e) i=jf (eT t) i:=by
   apply List.ext_getElem?
   intro k
   unfold jf
   rw[List.getElem?_take,List.getElem?_take]
   by_cases hk:k<8
   ·rw[if_pos hk,if_pos hk,List.getElem?_drop,List.getElem?_drop,List.getElem?_set_ne (by omega)]
   ·rw[if_neg hk,if_neg hk]
  have:jG ((eT t).set (8*q+r) e) i=jG (eT t) i:=by unfold jG;rw[hp]
  rw[this,vW hi hh]
theorem IW {m:List Int} (hlm:l.length=m.length) (h:∀i (hi:i<l.length),l[i]=m[i]'(by omega)):(l==m)=true:=by
 rw[beq_iff_eq]
 exact List.ext_getElem hlm fun i h1 h2=>h i h1
theorem Hl {m:List Int} (k:Nat) (h1:k<l.length) (h2:k<m.length) (h:l[k]≠m[k]):(l==m)=false:=by
 rw[beq_eq_false_iff_ne]
 rintro rfl
 exact h rfl
theorem uI (t:Tb) (k:Nat) (h:k<64):(eT t)[k]?=some (dx t (k:Int)):=by
 unfold eT;simp[h]
theorem jY (t:Tb):(eT t).length=64:=by simp[eT]
theorem qN {t:Tb} (h:dh t=0) (n:Int):eU (dx t n)=0:=by
 by_cases hn:0≤n∧n<64
 ·obtain⟨q,r,hq,hr,rfl,_,_⟩:=qP hn
  rw[ul hq hr]
  split
  ·rename_i hl
   rw[List.getD_eq_getElem?_getD,List.getElem?_eq_getElem (by omega)]
   exact tZ (ky h q hq) _ (List.getElem_mem _)
  ·rfl
 ·rw[mO (by omega)];rfl
theorem La {e:En} (h:eU e=0) (h2:BF e=false):e=zEn:=by
 have h3:=xX h
 rw[h2] at h3
 have hk:e.k=0:=by simpa[kD] using h3
 unfold eU at h
 obtain⟨k,n,w⟩:=e
 simp only at hk
 subst hk
 simp at h
 by_cases h4:n<0∨60≤n
 ·rw[if_pos h4] at h;cases h
 ·rw[if_neg h4] at h
  by_cases h5:¬n=0∨w=true
  ·rw[if_pos h5] at h;cases h
  ·simp only[not_or,Classical.not_not,Bool.not_eq_true] at h5
   obtain⟨rfl,rfl⟩:=h5
   rfl
theorem xK {l:List En} {x:En} (h:x∈jf l i):x∈l:=List.mem_of_mem_drop (List.mem_of_mem_take h)
theorem BB {l:List En} (h:∀x∈l,eU x=0) (hl:l.length=64) (hi:i<8):jP (jG l i)=0:=by
 unfold jG
 by_cases hp:(jf l i).any BF=true
 ·rw[if_pos hp]
  have hlen:(jf l i).length=8:=yK hl hi (by omega)
  rw[uZ (.inr hlen) (fun j hj=>h _ (xK (List.getElem_mem hj))),if_neg]
  rintro⟨_,h2⟩
  have h3:=Bt (h:=jf l i) (fun x hx=>h x (xK hx))
  rw[hp] at h3
  have h4:(jf l i).any kD=false:=h2
  rw[h4] at h3
  cases h3
 ·rw[if_neg hp];rfl
theorem vY {l:List En} (h:∀x∈l,eU x=0) (hl:l.length=64):dh (dW l)=0:=
 wh fun i hi=>by simp only[dW,Vector.getElem_ofFn];exact BB h hl hi
theorem sU {l:List En} (h:∀x∈l,eU x=0) (hl:l.length=64) (hn:n<64):dx (dW l) (n:Int)=l[n]'(by omega):=by
 obtain⟨q,r,hq,hr,hnn,_,_⟩:=qP (n:=(n:Int)) (by omega)
 have hn' : n=8*q+r:=by omega
 subst hn'
 rw[ul hq hr]
 simp only[dW,Vector.getElem_ofFn]
 unfold jG
 have hlen:(jf l q).length=8:=yK hl hq (by omega)
 have hget:(jf l q)[r]'(by omega)=l[8*q+r]'(by omega):=by simp[jf]
 by_cases hp:(jf l q).any BF=true
 ·simp only[if_pos hp,if_pos hlen]
  rw[List.getD_eq_getElem?_getD,List.getElem?_eq_getElem (by omega),←hget]
  rfl
 ·simp only[if_neg hp]
  rw[if_neg (by decide),←hget]
  symm
  refine La (h _ (xK (List.getElem_mem _))) ?_
  simp only[List.any_eq_true,not_exists,not_and,Bool.not_eq_true] at hp
  exact hp _ (List.getElem_mem _)
theorem FK {t:Tb} (h:dh t=0):dW (eT t)=t:=by
 apply Vector.ext
 intro i hi
 simp only[dW,Vector.getElem_ofFn]
 exact vW hi (ky h i hi)
theorem yJ {l:List En} (h:∀x∈l,eU x=0) (hl:l.length=64):eT (dW l)=l:=by
 apply List.ext_getElem
 ·rw[jY,hl]
 ·intro i h1 h2
  have:=uI (dW l) i (by omega)
  rw[sU h hl (by omega),List.getElem?_eq_getElem h1] at this
  exact Option.some.inj this
theorem Na {t:Tb} (h:dh t=0):∀x∈eT t,eU x=0:=by
 intro x hx
 obtain⟨i,hi,rfl⟩:=List.mem_map.1 hx
 exact qN h _
theorem pV {t:Tb} {n:Int} {e:En} (h:setE t n e=0):dh t=0∧(0≤n∧n<64)∧eU e=0:=by
 unfold setE at h
 by_cases hw:dh t=0
 ·rw[if_neg (by rw[hw];simp)] at h
  by_cases hn:n<0∨64≤n
  ·rw[if_pos hn] at h;cases h
  ·rw[if_neg hn] at h
   exact⟨hw,by omega,h⟩
 ·rw[if_pos hw] at h;exact absurd h hw
theorem Gg {t:Tb} {n:Int} {e:En} (h1:dh t=0) (h2:0≤n∧n<64) (h3:eU e=0):setE t n e=0:=by
 unfold setE;rw[if_neg (by rw[h1];simp),if_neg (by omega),h3]
theorem Bp {t:Tb} {e:En} (h1:dh t=0) (h3:eU e=0):∀x∈(eT t).set n e,eU x=0:=by
 intro x hx
 rcases List.mem_or_eq_of_mem_set hx with hx|rfl
 ·exact Na h1 x hx
 ·exact h3
theorem tu {t:Tb} {n:Int} {e:En} (h:setE t n e=0):dh (setT t n e)=0:=by
 obtain⟨h1,h2,h3⟩:=pV h
 rw[yU h]
 exact vY (Bp h1 h3) (by rw[List.length_set,jY])
theorem Ls {t:Tb} {n:Int} {e:En} (h:setE t n e=0) (k:Int):dx (setT t n e) k=if k=n then e else dx t k:=by
 obtain⟨h1,h2,h3⟩:=pV h
 rw[yU h]
 by_cases hk:0≤k∧k<64
 ·obtain⟨j,rfl⟩:=Int.eq_ofNat_of_zero_le hk.1
  rw[sU (Bp h1 h3) (by rw[List.length_set,jY]) (by omega)]
  rw[List.getElem_set]
  by_cases e0:(j:Int)=n
  ·rw[if_pos (by omega),if_pos e0]
  ·rw[if_neg (by omega),if_neg e0]
   have:=uI t j (by omega)
   rw[List.getElem?_eq_getElem (by rw[jY];omega)] at this
   exact Option.some.inj this
 ·rw[if_neg (by omega),mO (by omega),mO (by omega)]
theorem Kr (t:Tb):∀n∈aI t,0≤n∧n<64:=by
 intro n hn
 unfold aI ic at hn
 obtain⟨m,hm,rfl⟩:=List.mem_map.1 hn
 have:=List.mem_range.1 (List.mem_filter.1 hm).1
 omega
theorem DN {t:Tb} (h:dh t=0):zu t:=fun k hk=>by
 have:=mE (ky h k hk)
 omega
theorem zTb_right:dh zTb=0:=by decide
theorem Em {m:Mem} {f:Fr} (hw:bJ m=0) (hf:dS f=0):bJ ⟨m.fs.set k f,m.hand⟩=0:=by
 obtain⟨h1,h2,h3,h4⟩:=(dD m).1 hw
 rw[dD]
 simp only[List.length_set]
 refine⟨h1,fun g hg => ?_,h3,h4⟩
 rcases List.mem_or_eq_of_mem_set hg with h|rfl
 ·exact h2 g h
 ·exact hf
theorem FJ (f:Fr) (l:List Fr):iJ (f::l)=(if f.r=0 then 1 else 0)+iJ l:=by
 unfold iJ
 rw[List.filter_cons]
 by_cases h:f.r=0
 ·simp[h];omega
 ·simp[h]
theorem NL {f:Fr} (h:dS f=0) (hr:f.r=0):f=frZ:=by
 obtain⟨⟨_,_,h1,_,_,_⟩,h2,h3⟩:=(fO f).1 h
 obtain⟨h4,h5,h6,h7⟩:=h2 hr
 have h8:=h3 h6
 have h9:f.f = -1:=by omega
 obtain⟨p,r,u,d,ff,i⟩:=f
 simp only at *
 subst hr h4 h5 h7 h8 h9
 rfl
theorem yP (h:bU l=0):∀x∈l,rJ x=false:=by
 unfold bU at h
 split at h
 ·omega
 split at h
 ·omega
 ·rename_i h1
  intro x hx
  have:=List.any_eq_false.1 (by simpa using h1) x hx
  simpa using this
theorem zU (hl:l.length≤60) (h:∀x∈l,rJ x=false):bU l=0:=by
 unfold bU
 rw[if_neg (by omega),if_neg]
 simp only[List.any_eq_true,not_exists,not_and]
 intro x hx
 simp[h x hx]
theorem xE (k:Nat) (x:Int) (h:bU l=0) (h0:0≤x) (h1:x≤1000):bU (l.set k x)=0:=by
 refine zU (by rw[List.length_set];exact gI h) fun y hy => ?_
 rcases List.mem_or_eq_of_mem_set hy with hm|rfl
 ·exact yP h _ hm
 ·simp[rJ];omega
theorem Ah {α:Type} {l:List α} {x:α} (h:l[i]?=some x) (y:α):l=l.take i++x::l.drop (i+1)∧l.set i y=l.take i++y::l.drop (i+1):=by
 obtain⟨hi,rfl⟩:=List.getElem?_eq_some_iff.1 h
 refine⟨?_,?_⟩
 ·rw[List.getElem_cons_drop,List.take_append_drop]
 ·rw[List.set_eq_take_append_cons_drop,if_pos hi]
theorem Lx {x:Int} (h:x<0) (l:List Int):iG (x::l)=iG l:=by unfold iG;rw[List.filter_cons,if_neg (by simp;omega)]
theorem Bh {x:Int} (h:0≤x) (l:List Int):iG (x::l)=x::iG l:=by unfold iG;rw[List.filter_cons,if_pos (by simpa using h)]
theorem Dh {s:St} {F:Nat} {f:Fi} (hf:s.fs[F]?=some f) {v:Int} (hv:f.b[I]?=some v) (hn:v<0) {X:Int} (hX:0≤X) (n c:Int) :
  (iG (iW ⟨s.fs.set F ⟨n,f.b.set I X⟩,c⟩)).Perm (X::iG (iW s)):=by
 have e1:=Ah hf ⟨n,f.b.set I X⟩
 have e2:=Ah hv X
 unfold iW
 show (iG ((s.fs.set F ⟨n,f.b.set I X⟩).flatMap Fi.b)).Perm (X::iG (s.fs.flatMap Fi.b))
 rw[e1.2]
 conv=>rhs;rw[e1.1]
 simp only[List.flatMap_append,List.flatMap_cons,oN]
 rw[e2.2]
 conv=>rhs;rw[show f.b=f.b.take I++v::f.b.drop (I+1) from e2.1]
 simp only[oN,Lx hn,Bh hX]
 refine List.Perm.trans ?_ List.perm_middle
 refine List.Perm.append_left _ ?_
 rw[List.append_assoc,List.append_assoc]
 exact List.perm_middle
theorem zH {s:St} (h:0≤dE s):dE s<s.count∧eZ s (dE s)=false:=by
 unfold dE at h ⊢
 cases hf:(List.range s.count.toNat).find? (fun b:Nat => !eZ s b) with
 | none=>rw[hf] at h;simp at h
 | some b=>
  have h1:=List.mem_range.1 (List.mem_of_find?_eq_some hf)
  have h2:=List.find?_some hf
  simp only
  refine⟨by omega,by simpa using h2⟩
theorem EY {s:St} (h:dE s<0) (b:Nat) (hb:(b:Int)<s.count):eZ s b=true:=by
 unfold dE at h
 cases hf:(List.range s.count.toNat).find? (fun b:Nat => !eZ s b) with
 | none=>
  have:=List.find?_eq_none.1 hf b (List.mem_range.2 (by omega))
  simpa using this
 | some c=>
  rw[hf] at h
  simp only at h
  omega
theorem vP {s:St} {k i:Int} (h:bK s k i=0):aS s=0∧∃(F I:Nat) (f:Fi) (v:Int),k=F∧i=I∧s.fs[F]?=some f∧f.b[I]?=some v∧aT s k=f∧bv s k i=v ∧
  ((0≤v∧cZ s k i=s∧dm s k i=v)∨(v<0∧0≤dE s∧dm s k i=dE s∧cZ s k i=⟨s.fs.set F ⟨f.n,f.b.set I (dE s)⟩,s.count⟩)):=by
 have h':=h
 unfold bK at h'
 by_cases g1:aS s≠0
 ·rw[if_pos g1] at h'; exact absurd h' g1
 rw[if_neg g1] at h'
 by_cases g2:k<0∨(s.fs.length:Int)≤k
 ·rw[if_pos g2] at h'; cases h'
 rw[if_neg g2] at h'
 by_cases g3:i<0∨((aT s k).b.length:Int)≤i
 ·rw[if_pos g3] at h'; cases h'
 rw[if_neg g3] at h'
 by_cases g4:bv s k i<0∧dE s<0
 ·rw[if_pos g4] at h'; cases h'
 obtain⟨F,rfl⟩:=Int.eq_ofNat_of_zero_le (show 0≤k by omega)
 obtain⟨I,rfl⟩:=Int.eq_ofNat_of_zero_le (show 0≤i by omega)
 have hF:F<s.fs.length:=by omega
 have hfa:aT s F=s.fs[F]:=by
  unfold aT
  rw[if_pos (by omega),Int.toNat_natCast,List.getD_eq_getElem?_getD,List.getElem?_eq_getElem hF]
  rfl
 rw[hfa] at g3
 have hI:I<s.fs[F].b.length:=by omega
 have hba:bv s F I=s.fs[F].b[I]:=by
  unfold bv
  rw[hfa,Int.toNat_natCast,List.getD_eq_getElem?_getD,List.getElem?_eq_getElem hI]
  rfl
 refine⟨Classical.not_not.1 g1,F,I,s.fs[F],s.fs[F].b[I],rfl,rfl,List.getElem?_eq_getElem hF,List.getElem?_eq_getElem hI,hfa,hba,?_⟩
 have hS:cZ s F I=if bv s F I<0 then uy s F ⟨(aT s F).n,(aT s F).b.set ((I:Int)).toNat (dE s)⟩ else s:=by unfold cZ;rw[if_neg (by rw[h];simp)]
 have hN:dm s F I=if bv s F I<0 then dE s else bv s F I:=by unfold dm;rw[if_neg (by rw[h];simp)]
 rw[hS,hN,hba]
 rw[hba] at g4
 by_cases g5:s.fs[F].b[I]<0
 ·refine .inr ⟨g5,by omega,if_pos g5,?_⟩
  rw[if_pos g5,hfa,Int.toNat_natCast]
  unfold uy
  rw[Int.toNat_natCast]
 ·exact .inl ⟨by omega,if_neg g5,if_neg g5⟩
theorem Gm {s:St} {x:Int} (h:eZ s x=false):¬x∈iW s:=by
 unfold eZ at h
 simpa using h
theorem Jq {s:St} {F:Nat} {f:Fi} {v:Int} (h:aS s=0) (hf:s.fs[F]?=some f) (hv:f.b[I]?=some v) (h0:0≤v):bK s F I=0∧dm s F I=v∧cZ s F I=s:=by
 have hF:=(List.getElem?_eq_some_iff.1 hf).1
 have hI:=(List.getElem?_eq_some_iff.1 hv).1
 have hfa:aT s F=f:=by
  unfold aT
  rw[if_pos (by omega),Int.toNat_natCast,List.getD_eq_getElem?_getD,hf]
  rfl
 have hba:bv s F I=v:=by
  unfold bv
  rw[hfa,Int.toNat_natCast,List.getD_eq_getElem?_getD,hv]
  rfl
 have hE:bK s F I=0:=by
  unfold bK
  rw[if_neg (by rw[h];simp),if_neg (by omega),hfa,if_neg (by omega),hba,if_neg (by omega)]
 refine⟨hE,?_,?_⟩
 ·unfold dm;rw[if_neg (by rw[hE];simp),hba,if_neg (by omega)]
 ·unfold cZ;rw[if_neg (by rw[hE];simp),hba,if_neg (by omega)]
theorem wL {s:St} (h:aS s=0) {F:Nat} {f:Fi} {v:Int} (hf:s.fs[F]?=some f) (hv:f.b[I]?=some v) (hn:v<0) {X:Int} (hX:0≤X) (hXc:X<s.count) (hu:eZ s X=false) :
  aS ⟨s.fs.set F ⟨f.n,f.b.set I X⟩,s.count⟩=0:=by
 obtain⟨h1,h2,h3⟩:=iK.1 h
 have hok:=h2 f (List.mem_of_getElem? hf)
 refine iK.2 ⟨by simpa using h1,fun g hg => ?_,?_⟩
 ·rcases List.mem_or_eq_of_mem_set hg with hg|rfl
  ·exact h2 g hg
  ·refine⟨hok.1,hok.2.1,by simpa using hok.2.2.1,fun b hb => ?_⟩
   rcases List.mem_or_eq_of_mem_set hb with hb|rfl
   ·exact hok.2.2.2 b hb
   ·show -1≤b∧b<s.count
    omega
 ·exact (Dh hf hv hn hX f.n s.count).nodup_iff.2 (List.nodup_cons.2 ⟨fun hm=>Gm hu (fG.1 hm).1,h3⟩)
theorem Ck {s:St} {k i:Int} (h:bK s k i=0):aS (cZ s k i)=0∧bK (cZ s k i) k i=0∧dm (cZ s k i) k i=dm s k i∧cZ (cZ s k i) k i=cZ s k i ∧
  ((0≤bv s k i∧cZ s k i=s)∨(bv s k i<0∧eZ s (dm s k i)=false∧jK (cZ s k i)=jK s-1)):=by
 obtain⟨hw,F,I,f,v,rfl,rfl,hf,hv,hfa,hba,hc⟩:=vP h
 rcases hc with ⟨h0,hS,hN⟩|⟨hn,h0,hN,hS⟩
 ·rw[hS]
  exact⟨hw,h,rfl,hS,.inl ⟨by rw[hba];exact h0,rfl⟩⟩
 ·obtain⟨hXc,hu⟩:=zH h0
  have hw':=wL hw hf hv hn h0 hXc hu
  have hF:=(List.getElem?_eq_some_iff.1 hf).1
  have hI:=(List.getElem?_eq_some_iff.1 hv).1
  have hb:=Jq (F:=F) (I:=I) (f:=⟨f.n,f.b.set I (dE s)⟩) (v:=dE s) hw' (List.getElem?_set_self hF) (List.getElem?_set_self hI) h0
  rw[hS,hN]
  refine⟨hw',hb.1,hb.2.1,hb.2.2,.inr ⟨by rw[hba];exact hn,hu,?_⟩⟩
  have hp:=(Dh hf hv hn h0 f.n s.count).length_eq
  unfold jK
  show s.count-((iG _).length:Int)=s.count-((iG _).length:Int)-1
  rw[hp,List.length_cons]
  omega
theorem Ip (l:List Int):jO l=(iG l).length:=rfl
theorem all_once:∀(c:Nat) (l:List Int),l.Nodup→(∀x∈l,0≤x∧x<(c:Int))→(∀b:Nat,b<c→(b:Int)∈l)→l.length=c
 | 0,l,_,h,_=>by
  match l with
  | []=>rfl
  | x::r=>have:=h x List.mem_cons_self;omega
 | c+1,l,hn,h,ha=>by
  have hm:=ha c (by omega)
  have hl:=List.length_erase_of_mem hm
  have hpos:=List.length_pos_of_mem hm
  have:=all_once c (l.erase (c:Int)) (hn.erase _) (fun x hx=>by
   have h1:=h x (List.mem_of_mem_erase hx)
   have h2:x≠(c:Int):=fun e=>by
    subst e
    exact hn.not_mem_erase hx
   omega) (fun b hb=>by
   have h1:=ha b (by omega)
   exact (List.mem_erase_of_ne (by omega)).2 h1)
  omega
theorem Ed {s:St} (h:aS s=0) (hf:dE s<0):jK s=0:=by
 obtain⟨h1,h2,h3⟩:=iK.1 h
 have:=all_once s.count.toNat (iG (iW s)) h3 (fun x hx=>by
  obtain⟨hx,h0⟩:=fG.1 hx
  unfold iW at hx
  obtain⟨f,hfm,hxf⟩:=List.mem_flatMap.1 hx
  have:=(h2 f hfm).2.2.2 x hxf
  omega) (fun b hb=>by
  have:=EY hf b (by omega)
  unfold eZ at this
  exact fG.2 ⟨by simpa using this,by omega⟩)
 unfold jK
 rw[Ip,this]
 omega
structure Cc where
 f:Int
 i:Int
 k:Int
 deriving DecidableEq
def wT (c:Cc):Array Value:=#[.int .i64 c.f,.int .i64 c.i,.int .i64 c.k]
def je (c:Cc):List Value:=(wT c).toList
theorem nQ (c:Cc):(je c).length=3:=rfl
structure Sp where
 lv:Bool
 ar:List Ar
 tb:Tb
 deriving DecidableEq
structure Ma where
 m:Mem
 sl:List Int
 sw:nN
 dk:nN
 st:St
 ca:List Cc
 sp:List Sp
def zCc:Cc:=⟨0,0,0⟩
def zSp:Sp:=⟨false,[],zTb⟩
def zMa:Ma:=⟨noM,[],⟨[],[]⟩,⟨[],[]⟩,zSt,[],[]⟩
def cnt (l:List Int) (k:Int):Nat:=l.countP fun x=>decide (x=k)
def trimB (m:Ma):Bool:=
 (List.range m.dk.blocks.length).all (fun b:Nat=>decide ((b:Int)∈iW m.st)||decide (m.dk.blocks.getD b zPg=zPg))&&m.dk.queue.all fun q=>decide (q.1∈iW m.st)
def iw (s:Sp):Int:=if (bF s.ar).1≠0 then (bF s.ar).1 else if dh s.tb≠0 then dh s.tb else if s.lv=false∧0<s.ar.length+(aI s.tb).length then 7 else 0
def fq (m:Ma):Int:=
 if bJ m.m≠0 then bJ m.m else if bU m.sl≠0 then bU m.sl else if bn m.sw≠0 then bn m.sw else if bn m.dk≠0 then bn m.dk else if aS m.st≠0 then aS m.st
 else if m.sw.blocks.length≠m.sl.length∨(m.dk.blocks.length:Int)≠m.st.count∨trimB m=false then 7
 else if 4<m.sp.length then 4 else firstE (m.sp.map iw)
def mJ (m:Ma) (k:Int):Fr:=m.m.fs.getD k.toNat fr0
def nV (m:Ma) (p:Option Cc) (c:Cc):Int:=
 if c.f<0∨(m.st.fs.length:Int)≤c.f∨c.i<0∨((aT m.st c.f).b.length:Int)≤c.i∨c.k<0∨(m.m.fs.length:Int)≤c.k then 3
 else if (mJ m c.k).r<1∨(mJ m c.k).f≠c.f∨(mJ m c.k).i≠c.i then 7
 else match p with
  | none=>0
  | some q=>if c.f<q.f∨q.f=c.f∧c.i≤q.i then 2 else 0
def rP (l:List Cc) (k:Nat):Option Cc:=if k=0 then none else l[k-1]?
def cachedE (m:Ma):Int:=firstE ((List.range m.ca.length).map fun k=>nV m (rP m.ca k) (m.ca.getD k zCc))
def bD (m:Ma) (s:Sp) (n:Int):Int:=
 if iX s.ar n<0 then 5 else
 let a:=s.ar.getD (iX s.ar n).toNat zAr
 let e:=dx s.tb n
 if e.k=2 then (if (m.sl.length:Int)≤e.n∨a.sh=true then 7 else 0)
 else if (m.m.fs.length:Int)≤e.n then 3 else
 let f:=mJ m e.n
 let of:=decide (0≤a.fi)&&decide (f.f=a.fi)&&decide (f.i=a.ba+n-a.fr)
 if 0≤f.f∧of=false∨a.sh=true∧of=false∨a.sh=false∧of=true∧e.w=true∨e.w=true∧a.wr=false then 7
 else if f.f<0∧e.w=true∧1<f.r then 7 else 0
def jR (m:Ma):Int:=firstE (m.sp.flatMap fun s=>(aI s.tb).map (bD m s))
def kR (t:Tb) (l:List Int):List Int:=(l.filter fun n=>decide ((dx t n).k=1)).map fun n=>(dx t n).n
def swapT (t:Tb) (l:List Int):List Int:=(l.filter fun n => !decide ((dx t n).k=1)).map fun n=>(dx t n).n
def mZ (m:Ma):List Int:=m.ca.map Cc.k++m.sp.flatMap fun s=>kR s.tb (aI s.tb)
def lL (m:Ma):List Int:=m.sp.flatMap fun s=>swapT s.tb (aI s.tb)
def iO (n:Nat) (l:List Int):List Int:=(List.range n).map fun i:Nat=>(cnt l i:Int)
def countB (m:Ma):Bool:=
 (List.range m.m.fs.length).all (fun i:Nat=>decide ((mJ m i).r=cnt (mZ m) i)&&(decide ((mJ m i).f<0)||m.ca.any fun c=>decide (c.k=i)))&&decide (m.sl=iO m.sl.length (lL m))
def iB (m:Ma):Int:=if fq m≠0 then fq m else if cachedE m≠0 then cachedE m else if jR m≠0 then jR m else if countB m=true then 0 else 7
def bP (m:Ma) (f i:Int):Page:=
 match m.ca.find? fun c=>decide (c.f=f)&&decide (c.i=i) with
 | some c=>(mJ m c.k).p
 | none=>if 0≤bv m.st f i then dU (ji m.dk (bv m.st f i)) ((aT m.st f).n-i*8) else zPg
def wB (s:St) (f i:Int):Bool:=decide (dO (aT s f).n≤i)
structure Kp where
 m:Ma
 e:Int
def gU (k e:Int):Int:=if k=0 then e else k
def dR (m:Ma) (p:Nat):Sp:=m.sp.getD p zSp
def setTb (m:Ma) (p:Nat) (t:Tb):Ma:={ m with sp:=m.sp.set p { dR m p with tb:=t } }
def iD (k:Kp) (p:Nat) (n:Int) (x:En):Kp:=
 if setE (dR k.m p).tb n x=0 then ⟨setTb k.m p (setT (dR k.m p).tb n x),k.e⟩ else ⟨k.m,gU k.e (setE (dR k.m p).tb n x)⟩
def fV (k:Kp) (f n:Int):Kp:=
 if jZ k.m.m f n=0 then ⟨{ k.m with m:=jy k.m.m f n },k.e⟩ else ⟨k.m,gU k.e (jZ k.m.m f n)⟩
def lC (k:Kp) (s n:Int):Kp:=
 if eD k.m.sl s n=0 then ⟨{ k.m with sl:=eF k.m.sl s n },k.e⟩ else ⟨k.m,gU k.e (eD k.m.sl s n)⟩
def nk (k:Kp) (p:Nat) (n:Int):Kp:=
 let x:=dx (dR k.m p).tb n
 if x.k=1 then iD (fV k x.n (-1)) p n zEn else if x.k=2 then iD (lC k x.n (-1)) p n zEn else k
def vz (f i:Int) (c:Cc):Bool:=decide (f<c.f)||(decide (c.f=f)&&decide (i≤c.i))
def rR (l:List Cc) (f i:Int):Nat:=(l.findIdx? (vz f i)).getD l.length
def Kc (l:List Cc) (f i:Int):Bool:=match l[rR l f i]? with
 | some c=>decide (c.f=f)&&decide (c.i=i)
 | none=>false
def setFr (m:Ma) (f:Nat) (x:Fr):Ma:={ m with m:={ m.m with fs:=m.m.fs.set f x } }
def aP (m:Ma) (f:Nat):Fr:=m.m.fs.getD f fr0
def gu (m:Ma) (f:Nat):Bool:=decide ((aP m f).f<0)||!(aP m f).d||decide (bK m.st (aP m f).f (aP m f).i=0)
def gV (k:Kp) (f:Nat):Kp:=
 let x:=aP k.m f
 if x.f<0∨x.d=false∨bK k.m.st x.f x.i≠0 then k
 else ⟨setFr { k.m with st:=cZ k.m.st x.f x.i,dk:=bT k.m.dk (dm k.m.st x.f x.i) x.p } f { x with d:=false },gU k.e (aH k.m.dk (dm k.m.st x.f x.i))⟩
def aU (m:Ma) (f:Int):List (Nat × Int):=(List.range m.sp.length).flatMap fun p=>(kZ (dR m p).tb 1 f).map fun n=>(p,n)
def jI (k:Kp) (l:List (Nat × Int)):Kp:=l.foldl (fun k u=>nk k u.1 u.2) k
def Ai (f n:Int) (k:Kp) (u:Nat × Int):Kp:=iD (fV k f (-1)) u.1 u.2 ⟨2,n,false⟩
def mQ (k:Kp) (f n:Int) (l:List (Nat × Int)):Kp:=l.foldl (Ai f n) k
def iM (m:Ma) (f:Nat):Bool:=if 0≤(aP m f).f then gu m f else decide (eY m.sl (aU m f).length=0)
def dP (k:Kp) (f:Nat):Kp:=
 let x:=aP k.m f
 let l:=aU k.m f
 if 0≤x.f then
  if gu k.m f=false then k else
  let k2:=jI (gV k f) l
  if Kc k2.m.ca x.f x.i=true then fV ⟨{ k2.m with ca:=k2.m.ca.eraseIdx (rR k2.m.ca x.f x.i) },k2.e⟩ f (-1) else k2
 else if eY k.m.sl l.length≠0 then k
 else mQ ⟨{ k.m with sl:=jA k.m.sl l.length,sw:=bT k.m.sw (il k.m.sl l.length) x.p },gU k.e (aH k.m.sw (il k.m.sl l.length))⟩ f (il k.m.sl l.length) l
def reclaimN:Nat→Kp→Kp × Bool
 | 0,k=>(k,false)
 | t+1,k=>
  if bJ k.m.m≠0∨fo k.m.m<0 then (⟨k.m,gU k.e (bJ k.m.m)⟩,false) else
  let k1:Kp:=⟨{ k.m with m:=dJ k.m.m },k.e⟩
  if iM k1.m (fo k.m.m).toNat=true then (dP k1 (fo k.m.m).toNat,true) else reclaimN t (dP k1 (fo k.m.m).toNat)
def cK (k:Kp):Kp × Bool:=reclaimN (2*k.m.m.fs.length+1) k
def gH (m:Ma) (f i:Int):Page:=if 0≤bv m.st f i then dU (ji m.dk (bv m.st f i)) ((aT m.st f).n-i*8) else zPg
end Go.Proofs.YtjkkoeijlhfneaaGreat
namespace Pw
open Go Go.RowKit
variable {B B' b base c cap f fuel g i id k n off sz:Nat} {L spare:Nat → Bool} {P:Program} {Q:Exit → Act → World → Prop} {T TX TY TZ e t t' ty:TypeId} {V v vx vy:Value} {W w' w0 w1:World} {Y Z args cs t0:Array Value} {a:Option Addr} {a0:Act} {held:Bool} {l:List Int} {o op:Oper} {ops:Array Oper} {rest:List Oper} {tm vs xs:List Value} {x:Operand} {y:Nat → Value} {ρ:Operand → Value}
theorem aV {k:IntKind} {a b:Int} (h:a=b):Ending.returned (.int k a) = .returned (.int k b):=by rw[h]
theorem bG {a b:Bool} (h:a=b):Ending.returned (.bool a) = .returned (.bool b):=by rw[h]
theorem ag {w:World} (h:Below w.heap.size w W) (hb:Below W.heap.size W w1):Below w.heap.size w w1:=
 h.trans (hb.mono h.size)
theorem eu (w:World) (o:Obj):w.heap.size≤(w.alloc o).heap.size:=((Below.refl 0 w).alloc (Nat.zero_le _) o).size
theorem bQ {w:World} (h:B≤w.heap.size) (o:Obj):B≤(w.alloc o).heap.size:=Nat.le_trans h (eu w o)
def aD (w:World) (b:Nat) (cs:Array Value) (T:TypeId):Prop:=w.heap[b]?=some (.cells cs T (0,0))
theorem aD.cell {w:World} (h:aD w b cs T):∀o,w.cell? ⟨b,o,none⟩=cs[o]?:=by
 intro o;unfold aD at h;simp[World.cell?,h]
theorem aD.free {w:World} (h:aD w b cs T):∀o,w.frozen? ⟨b,o,none⟩=false:=by
 intro o;unfold aD at h;simp[World.frozen?,h]
theorem aD.lt {w:World} (h:aD w b cs T):b<w.heap.size:=lt_of_block h
theorem aD.below {w:World} (h:aD w b cs T) (hb:Below B w w') (hB:b<B):aD w' b cs T:=
 (hb.block b hB).trans h
theorem aD.ext {w:World} (h:aD w b cs T) (hb:Below w.heap.size w w'):aD w' b cs T:=h.below hb h.lt
theorem aD.new (w:World) (cs:Array Value) (T:TypeId):aD (w.alloc (.cells cs T)) w.heap.size cs T:=heap_alloc_new w _
theorem aD.alloc {w:World} (h:aD w b cs T) (o:Obj):aD (w.alloc o) b cs T:=(Below.heap_alloc w o b h.lt).trans h
theorem aD.drewN {w:World} (h:aD w b cs T) (n:Nat):aD (w.drewN n) b cs T:=h
theorem aD.drew {w:World} (h:aD w b cs T):aD w.drew b cs T:=h
def dB (w:World) (a:Option Addr) (vs:List Value):Prop:=
 ∀i u,vs[i]?=some u→∃b off,a=some ⟨b,off,none⟩∧w.cell? ⟨b,off+i,none⟩=some u
theorem dB.below {w:World} (h:dB w a vs) (hb:Below w.heap.size w w'):dB w' a vs:=by
 intro i u hi
 obtain⟨b,off,ha,hc⟩:=h i u hi
 exact⟨b,off,ha,cell_later hb hc⟩
theorem dB.nil {w:World} :dB w a []:=fun i u h=>by simp at h
theorem dB.at {w:World} {a:Option Addr} {vs:List Value} (h:dB w a vs) (hn:0<vs.length):∃b off,a=some ⟨b,off,none⟩∧∀i u,vs[i]?=some u→w.cell? ⟨b,off+i,none⟩=some u:=by
 obtain⟨b,off,rfl,hc⟩:=h 0 _ (List.getElem?_eq_getElem hn)
 refine⟨b,off,rfl,fun i u hi => ?_⟩
 obtain⟨b',off',e,hc'⟩:=h i u hi
 simp only[Option.some.injEq,Addr.mk.injEq,and_true] at e
 obtain⟨rfl,rfl⟩:=e
 exact hc'
theorem flat_get {α:Type} (enc:α→List Value) (sz:Nat) (hsz:∀x,(enc x).length=sz):∀(l:List α) (i:Nat) (h:i<l.length) (j:Nat) (u:Value),(enc l[i])[j]?=some u→(l.flatMap enc)[i*sz+j]?=some u
 | [],i,h,_,_,_=>absurd h (Nat.not_lt_zero _)
 | x::l,0,_,j,u,hj=>by
  simp only[List.flatMap_cons,Nat.zero_mul,Nat.zero_add]
  simp only[List.getElem_cons_zero] at hj
  have hl:j<(enc x).length:=by
   rcases Nat.lt_or_ge j (enc x).length with h|h
   ·exact h
   ·simp[List.getElem?_eq_none h] at hj
  rw[List.getElem?_append_left hl];exact hj
 | x::l,i+1,h,j,u,hj=>by
  simp only[List.flatMap_cons]
  have e:(i+1)*sz+j=(enc x).length+(i*sz+j):=by rw[hsz x,Nat.add_mul];omega
  rw[e,List.getElem?_append_right (by omega),Nat.add_sub_cancel_left]
  exact flat_get enc sz hsz l i (by simpa using h) j u (by simpa using hj)
theorem flat_len {α:Type} (enc:α→List Value) (sz:Nat) (hsz:∀x,(enc x).length=sz) (l:List α):(l.flatMap enc).length=l.length*sz:=by
 induction l with
 | nil=>simp
 | cons x l ih=>simp[List.flatMap_cons,ih,hsz x,Nat.add_mul,Nat.add_comm]
theorem dB.elem {α:Type} {enc:α→List Value} (hsz:∀x,(enc x).length=sz) (hp:0<sz) {w:World} {l:List α} (h:dB w a (l.flatMap enc)) (i:Nat) (hi:i<l.length) :
  ∃b off,a=some ⟨b,off,none⟩∧∀j u,(enc l[i])[j]?=some u→w.cell? ⟨b,off+i*sz+j,none⟩=some u:=by
 obtain⟨b,off,ha,hc⟩:=h.at (by rw[flat_len enc sz hsz];exact Nat.mul_pos (by omega) hp)
 exact⟨b,off,ha,fun j u hj=>by rw[Nat.add_assoc];exact hc _ _ (flat_get enc sz hsz l i hi j u hj)⟩
def bq (cur:Array Value):Nat→List Value→Array Value
 | _,[]=>cur
 | o,v::r=>bq (cur.setIfInBounds o v) (o+1) r
theorem size_putAt:∀(vs:List Value) (cur:Array Value) (o:Nat),(bq cur o vs).size=cur.size
 | [],_,_=>rfl
 | v::r,cur,o=>by simp[bq,size_putAt r]
theorem putAt_out:∀(vs:List Value) (cur:Array Value) (o k:Nat),(k<o∨o+vs.length≤k)→(bq cur o vs)[k]?=cur[k]?
 | [],_,_,_,_=>rfl
 | v::r,cur,o,k,h=>by
  simp only[List.length_cons] at h
  simp only[bq]
  rw[putAt_out r _ _ _ (by omega),Array.getElem?_setIfInBounds_ne (by omega)]
theorem putAt_in:∀(vs:List Value) (cur:Array Value) (o j:Nat) (u:Value),o+vs.length≤cur.size→vs[j]?=some u→(bq cur o vs)[o+j]?=some u
 | [],_,_,_,_,_,h=>by simp at h
 | v::r,cur,o,0,u,hs,h=>by
  simp only[List.length_cons] at hs
  simp only[bq]
  rw[putAt_out r _ _ _ (by omega)]
  simp at h;subst h
  simp[show o<cur.size by omega]
 | v::r,cur,o,j+1,u,hs,h=>by
  simp only[List.length_cons] at hs
  simp only[bq]
  rw[show o+(j+1)=o+1+j by omega]
  exact putAt_in r _ _ _ u (by simp;omega) (by simpa using h)
theorem aD.setCell {w:World} (h:aD w b cs T) (o:Nat) (v:Value):aD (w.setCell ⟨b,o,none⟩ v) b (cs.setIfInBounds o v) T:=
 heap_setCell_same w b o cs T v h
theorem aD.setCell_other {w:World} (h:aD w b cs T) (a:Addr) (v:Value) (hne:b≠a.block):aD (w.setCell a v) b cs T:=
 (heap_setCell_other w a b v hne).trans h
theorem aD.setCells :∀(vs:List Value) (o:Nat) {w:World} {cs:Array Value},aD w b cs T→aD (w.setCells b o vs) b (bq cs o vs) T
 | [],_,_,_,h=>h
 | v::r,o,_,_,h=>aD.setCells r (o+1) (h.setCell o v)
theorem heap_setCells_other (b:Nat):∀(vs:List Value) (o:Nat) (w:World) (k:Nat),k≠b→(w.setCells b o vs).heap[k]?=w.heap[k]?
 | [],_,_,_,_=>rfl
 | v::r,o,w,k,h=>(heap_setCells_other b r (o+1) _ k h).trans (heap_setCell_other w ⟨b,o,none⟩ k v h)
theorem size_setCells (b:Nat):∀(vs:List Value) (o:Nat) (w:World),(w.setCells b o vs).heap.size=w.heap.size
 | [],_,_=>rfl
 | v::r,o,w=>(size_setCells b r (o+1) _).trans (by simp[World.setCell])
theorem lG (b:Nat):∀(vs:List Value) (o:Nat) (w:World),(w.setCells b o vs).os=w.os∧(w.setCells b o vs).tape=w.tape∧(w.setCells b o vs).output=w.output
 | [],_,_=>⟨rfl,rfl,rfl⟩
 | _::r,o,_=>lG b r (o+1) _
theorem aB (w:World) (b o:Nat) (vs:List Value):w.grownBy (w.setCells b o vs) (some b):=
 ⟨(lG b vs o w).1,(lG b vs o w).2.1,(lG b vs o w).2.2,Nat.le_of_eq (size_setCells b vs o w).symm,
  fun k _ hk=>heap_setCells_other b vs o w k (fun e=>hk (by rw[e]))⟩
def Own (w:World) (B:Nat) (e:TypeId) (sz:Nat) (v:Value) (n:Nat) (xs:List Value):Prop:=
 xs.length=n*sz∧((v = .slice none 0 0∧n=0) ∨
  ∃g off cap cur,v = .slice (some ⟨g,off,none⟩) n cap∧B≤g∧aD w g cur e∧n≤cap∧cap≤maxLen∧off+cap*sz≤cur.size∧∀j u,xs[j]?=some u→cur[off+j]?=some u)
theorem Own.nil (w:World) (B:Nat) (e:TypeId) (sz:Nat):Own w B e sz (.slice none 0 0) 0 []:=⟨by simp,.inl ⟨rfl,rfl⟩⟩
theorem Own.of_owns {w:World} (h:w.ownsRow B e sz v n xs):Own w B e sz v n xs:=by
 obtain⟨hl,h⟩:=h
 refine⟨hl,h.imp id fun⟨g,cap,cur,hv,hB,hg,hc,hm,hs,ht⟩=>⟨g,0,cap,cur,hv,hB,hg,hc,hm,by omega,fun j u hj => ?_⟩⟩
 rw[Nat.zero_add,←Array.getElem?_toList]
 rw[←ht,List.getElem?_take] at hj
 split at hj
 ·exact hj
 ·cases hj
theorem Own.mono {w:World} (h:Own w B e sz v n xs) (hB:B'≤B):Own w B' e sz v n xs:=
 ⟨h.1,h.2.imp id fun⟨g,off,cap,cur,hv,hg,r⟩=>⟨g,off,cap,cur,hv,Nat.le_trans hB hg,r⟩⟩
theorem Own.below {w:World} (h:Own w B e sz v n xs) (hb:Below w.heap.size w w'):Own w' B e sz v n xs:=
 ⟨h.1,h.2.imp id fun⟨g,off,cap,cur,hv,hg,hk,r⟩=>⟨g,off,cap,cur,hv,hg,hk.ext hb,r⟩⟩
theorem Own.grown {w:World} {row:Option Nat} (h:Own w B e sz v n xs) (hg:w.grownBy w' row) (hne:∀g,v.ownBlock=some g→row≠some g):Own w' B e sz v n xs:=
 ⟨h.1,h.2.imp id fun⟨g,off,cap,cur,hv,hB,hk,r⟩=>⟨g,off,cap,cur,hv,hB,(hg.block g hk.lt (fun e=>hne g (by rw[hv];rfl) e.symm)).trans hk,r⟩⟩
theorem Own.rd {w:World} (h:Own w B e sz v n xs):∃a c,v = .slice a n c∧n≤c∧c≤maxLen∧(a=none→c=0)∧dB w a xs:=by
 obtain⟨hl,h⟩:=h
 rcases h with ⟨rfl,rfl⟩|⟨g,off,cap,cur,rfl,_,hg,hc,hm,hs,ht⟩
 ·have:xs=[]:=List.eq_nil_of_length_eq_zero (by simpa using hl)
  subst this
  exact⟨none,0,rfl,Nat.le_refl _,Nat.zero_le _,fun _=>rfl,dB.nil⟩
 ·exact⟨_,cap,rfl,hc,hm,fun e=>(Option.some_ne_none _ e).elim,fun i u hi=>⟨g,off,rfl,by rw[hg.cell];exact ht i u hi⟩⟩
theorem Own.ge {w:World} (h:Own w B e sz v n xs):∀k,v.ownBlock=some k→B≤k:=by
 rcases h.2 with ⟨rfl,_⟩|⟨g,off,cap,cur,rfl,hB,_⟩
 ·intro k hk;cases hk
 ·intro k hk;cases hk;exact hB
theorem aD.grown {w:World} {row:Option Nat} (h:aD w b cs T) (hg:w.grownBy w' row) (hne:row≠some b):aD w' b cs T:=
 (hg.block b h.lt (fun e=>hne e.symm)).trans h
theorem Own.alloc {w:World} (h:Own w B e sz v n xs) (o:Obj):Own (w.alloc o) B e sz v n xs:=
 h.below ((Below.refl _ _).alloc (Nat.le_refl _) _)
theorem dB.one (w:World) (v:Value) (T:TypeId):dB (w.alloc (.cells #[v] T)) (some ⟨w.heap.size,0,none⟩) [v]:=by
 intro i u hi
 refine⟨_,_,rfl,?_⟩
 rw[(aD.new w #[v] T).cell]
 cases i with
 | zero=>simpa using hi
 | succ i=>simp at hi
theorem dB.new (w:World) (cs:Array Value) (T:TypeId):dB (w.alloc (.cells cs T)) (some ⟨w.heap.size,0,none⟩) cs.toList:=by
 intro i u hi
 refine⟨_,_,rfl,?_⟩
 rw[(aD.new w cs T).cell,Nat.zero_add]
 simpa using hi
theorem AJ (k:IntKind) (n:Int):∀u∈[Value.int k n],u.oneCell' = true:=by
 intro u hu
 cases List.mem_singleton.1 hu
 rfl
theorem dI {w:World} {a:Act} (hg:o.guard=none) (s x:Operand) (t:TypeId)
 (hop:o.op=Op.call { callee:=Callee.builtin Builtin.append,args:=#[s,x],argTypes:=#[t,t] })
 (B:Nat) (e:TypeId) (z:Value) (size bytes:Nat) (h1:P.underlying t=some (.slice e)) (h2:(P.info? e).map (fun i=>(i.zero,i.size,i.bytes))=some (some z,size,bytes)) (h6:z.cells.size=size) (h7:0<size)
 (v:Value) (n:Nat) (xs:List Value) (hs:a.eval s=v) (hown:Own w B e size v n xs)
 (ao:Option Addr) (m c:Nat) (news:List Value) (hx:a.eval x = .slice ao m c) (hnone:ao=none→c=0) (hmc:m≤c) (hn:news.length=m*size) (hrd:dB w ao news) (h1c:∀u∈news,u.oneCell' = true)
 (b1:n+m≤maxLen) (b2:(n+m)*bytes≤140737488355328) (hB:B≤w.heap.size)
 (hK:∀v' w',Own w' B e size v' (n+m) (xs++news)→w.grownBy w' v.ownBlock→wpList P ops Q rest (a.put o.dst v') w') :
  wpList P ops Q (o::rest) a w:=by
 obtain⟨i,hi,hz,hsz,hby⟩:=info_parts h2
 cases ao with
 | none=>
  obtain rfl:=hnone rfl
  obtain rfl:m=0:=by omega
  obtain rfl:news=[]:=List.eq_nil_of_length_eq_zero (by simpa using hn)
  have key:wpList P ops Q rest (a.put o.dst v) w:=by
   have:=hK v w (by simpa using hown) (World.grownBy.refl _ _)
   exact this
  rcases hown with ⟨hl,⟨rfl,rfl⟩|⟨g,off,cap,cur,rfl,hBg,hk,hc,hm,hsize,hcell⟩⟩
  ·obtain rfl:xs=[]:=List.eq_nil_of_length_eq_zero (by simpa using hl)
   exact wpList_append_own_none hg s x t hop B e i size h1 hi _ 0 [] hs (World.ownsRow_nil w B e size) hx key
  ·refine wpList_plain hg fun K hK' => ?_
   unfold Oper.wp
   simp[execOp,hop,resolve,invoke,builtin,hs,hx,Builtin.append_,run_underlying h1,Go.sizeOf,typeInfo,hi,Builtin.lenOf,Builtin.firstCells,hc,storeCells,Result.andThen]
   exact hK' _ _ key
 | some ad=>
  have hnews:∀j u,news[j]?=some u→w.cell? (ad.add j)=some u:=by
   intro j u hj
   obtain⟨b,off,e',hc⟩:=hrd j u hj
   cases e'
   rw[Addr.add_lit];exact hc
  rcases hown with ⟨hl,⟨rfl,rfl⟩|⟨g,off,cap,cur,rfl,hBg,hk,hc,hm,hsize,hcell⟩⟩
  ·obtain rfl:xs=[]:=List.eq_nil_of_length_eq_zero (by simpa using hl)
   exact wpList_append_own w hg s x t hop B e i z size bytes h1 hi hz hsz hby h6 h7 _ 0 [] hs (World.ownsRow_nil w B e size) ad m c news hx hn hnews h1c b1 b2 hB
    fun v' w' r1 r2 _=>hK v' w' (.of_owns r1) r2
  ·have hcap:n*size≤cap*size:=Nat.mul_le_mul_right _ hc
   refine wpList_append_arg w hg s x t hop e i z size bytes h1 hi hz hsz hby h6 h7 g off n cap xs hs hl (fun j u hj=>by rw[hk.cell];exact hcell j u hj) ad m c news hx hn hnews h1c (fun hr j hj => ?_) b1 b2 (fun hr => ?_) (fun hr v' w' r1 r2 => ?_)
   ·have h3:(n+m)*size≤cap*size:=Nat.mul_le_mul_right _ hr
    rw[Nat.add_mul] at h3
    have:off+n*size+j<cur.size:=by omega
    exact⟨by rw[hk.cell];simp[this],hk.free _⟩
   ·have h3:(n+m)*size≤cap*size:=Nat.mul_le_mul_right _ hr
    rw[Nat.add_mul] at h3
    refine hK _ _ ⟨by rw[List.length_append,hl,hn,Nat.add_mul],.inr ⟨g,off,cap,_,rfl,hBg,hk.setCells news (off+n*size),hr,hm,by rw[size_putAt];exact hsize,fun j u hj => ?_⟩⟩ (aB _ _ _ _)
    by_cases hjl:j<xs.length
    ·rw[List.getElem?_append_left hjl] at hj
     rw[putAt_out _ _ _ _ (.inl (by omega))];exact hcell j u hj
    ·rw[List.getElem?_append_right (by omega)] at hj
     have:=putAt_in news cur (off+n*size) (j-xs.length) u (by omega) hj
     rwa [show off+n*size+(j-xs.length)=off+j by omega] at this
   ·have r2' : w.grownBy w' (Value.ownBlock (.slice (some ⟨g,off,none⟩) n cap)):=⟨r2.os,r2.tape,r2.output,r2.size,fun k hk' _=>r2.block k hk' (by simp)⟩
    exact hK v' w' ((Own.of_owns r1).mono hB) r2'
theorem ib (cur cs:Array Value) (h:cs.size=cur.size):bq cur 0 cs.toList=cs:=by
 apply Array.ext_getElem?
 intro i
 by_cases hi:i<cs.size
 ·have:=putAt_in cs.toList cur 0 i cs[i] (by simp;omega) (by simp[hi])
  rw[Nat.zero_add] at this
  rw[this]
  simp[hi]
 ·rw[Array.getElem?_eq_none (by rw[size_putAt];omega),Array.getElem?_eq_none (by omega)]
theorem fA {w:World} {a:Act} (hgd:op.guard=none) (ty:TypeId) (x y:Operand) (ho:op.op = .store ty x y)
 (b o:Nat) (cells:Array Value) (hx:a.eval x = .pointer (some ⟨b,o,none⟩)) (hy:a.eval y = .agg cells) (cur:Array Value) (T:TypeId) (hg:aD w b cur T)
 (hfit:o+cells.size≤cur.size) (hi:(P.info? ty).map (·.size)=some cells.size) (h1:cells.all (·.oneCell')=true)
 (h:∀w',aD w' b (bq cur o cells.toList) T→w.grownBy w' (some b)→wpList P ops Q rest (a.put op.dst undef) w'):wpList P ops Q (op::rest) a w:=by
 refine wpList_store_mid hgd ty x y ho b o cells hx hy (fun j hj=>⟨?_,hg.free _⟩) hi h1 (h _ (hg.setCells _ _) (aB _ _ _ _))
 rw[hg.cell]
 simp[show o+j<cur.size by omega]
theorem ax {w:World} {a:Act} (hgd:op.guard=none) (ty:TypeId) (x y:Operand) (ho:op.op = .store ty x y)
 (b:Nat) (cells:Array Value) (hx:a.eval x = .pointer (some ⟨b,0,none⟩)) (hy:a.eval y = .agg cells) (cur:Array Value) (T:TypeId) (hg:aD w b cur T)
 (hfit:cells.size=cur.size) (hi:(P.info? ty).map (·.size)=some cells.size) (h1:cells.all (·.oneCell')=true)
 (h:∀w',aD w' b cells T→w.grownBy w' (some b)→wpList P ops Q rest (a.put op.dst undef) w'):wpList P ops Q (op::rest) a w:=by
 refine fA hgd ty x y ho b 0 cells hx hy cur T hg (by omega) hi h1 fun w' hb hgr => ?_
 rw[ib cur cells hfit] at hb
 exact h w' hb hgr
theorem gJ {α:Type} (f:α→Value) (l:List α):l.flatMap (fun x=>[f x])=l.map f:=by
 induction l with
 | nil=>rfl
 | cons x l ih=>simp[ih]
def xg (b:UInt8):Value:=.int .u8 b.toNat
def eH (n:Int):Value:=.int .i64 n
def gz (p:Page):Array Value:=#[Value.int .u8 p[0].toNat,Value.int .u8 p[1].toNat,Value.int .u8 p[2].toNat,Value.int .u8 p[3].toNat,Value.int .u8 p[4].toNat,Value.int .u8 p[5].toNat,Value.int .u8 p[6].toNat,Value.int .u8 p[7].toNat]
theorem Cw (p:Page):(gz p).size=8:=rfl
theorem Ot (p:Page) (k:Nat) (h:k<8):(gz p)[k]?=some (Value.int .u8 p[k].toNat):=by
 match k,h with
 | 0,_=>rfl
 | 1,_=>rfl
 | 2,_=>rfl
 | 3,_=>rfl
 | 4,_=>rfl
 | 5,_=>rfl
 | 6,_=>rfl
 | 7,_=>rfl
 | n+8,h=>omega
theorem wZ (p:Page) (k:Nat) (h:k<8) (b:UInt8):(gz p).setIfInBounds k (.int .u8 b.toNat)=gz (p.set k b):=by
 match k,h with
 | 0,_=>simp[gz]
 | 1,_=>simp[gz]
 | 2,_=>simp[gz]
 | 3,_=>simp[gz]
 | 4,_=>simp[gz]
 | 5,_=>simp[gz]
 | 6,_=>simp[gz]
 | 7,_=>simp[gz]
 | n+8,h=>omega
theorem Bq (p:Page):(gz p)[0]?=some (Value.int .u8 p[0].toNat)∧(gz p)[1]?=some (Value.int .u8 p[1].toNat)∧(gz p)[2]?=some (Value.int .u8 p[2].toNat)∧(gz p)[3]?=some (Value.int .u8 p[3].toNat)∧(gz p)[4]?=some (Value.int .u8 p[4].toNat)∧(gz p)[5]?=some (Value.int .u8 p[5].toNat)∧(gz p)[6]?=some (Value.int .u8 p[6].toNat)∧(gz p)[7]?=some (Value.int .u8 p[7].toNat):=
 ⟨rfl,rfl,rfl,rfl,rfl,rfl,rfl,rfl⟩
theorem iU (p:Page):(gz p).all (·.oneCell')=true:=by simp[gz,Value.oneCell']
theorem zm (w:World) (e:TypeId) (k:IntKind) (cs:Array Value) (off:Nat) (v:Value) (he:P.underlying e=some (.int k)) (hv:cs[off]?=some v) :
  (part e cs off).run P w = .ok v w:=by
 simp[part,isAgg,run_underlying he,hv]
theorem Dg (w:World) (d:Nat) (t e:TypeId) (ht:P.underlying t=some (.array 8 e)) (he:P.underlying e=some (.int .u8)) (hsz:(P.info? e).map (·.size)=some 1) (p q:Page) :
  (Op.equalIn (d+2) t (.agg (gz p)) (.agg (gz q))).run P w = .ok (p==q) w:=by
 cases hq:P.info? e with
 | none=>simp[hq] at hsz
 | some i=>
 have hi:i.size=1:=by simpa[hq] using hsz
 rw[Ku]
 unfold Op.equalIn
 simp only[Sem.run_bind,run_underlying ht,Result.andThen_ok,Go.sizeOf,typeInfo,run_program,hq,hi,Sem.run_pure]
 simp only[Std.Legacy.Range.forIn_eq_forIn_range',List.range',Std.Legacy.Range.size]
 have g:∀(r:Page) (k:Nat) (h:k<8) (w:World),(part e (gz r) k).run P w = .ok (.int .u8 r[k].toNat) w:=fun r k h w=>zm w e .u8 _ _ _ he (Ot r k h)
 have c:∀(a b:UInt8) (w:World),(Op.equalIn (d+1) e (.int .u8 a.toNat) (.int .u8 b.toNat)).run P w = .ok (a==b) w:=fun a b w=>by
  rw[run_equalIn_int w d e .u8 .u8 _ _ he,Ph]
 simp[g,c]
 repeat' split
 all_goals simp_all
def Gives (P:Program) (o:Oper) (a:Act) (w:World) (F:Value→World→Prop):Prop:=
 match (execOp a.eval o).run P w with
 | .ok (.value v) w'=>F v w'
 | .ok .skip w'=>F undef w'
 | .ok (.enter f args) w'=>Calls P f args w' fun | .returned v,w''=>F v w'' | _,_=>False
 | _=>False
def lay (L:Nat→Bool) (y:Nat→Value):List Oper→Nat→Array Value→Array Value
 | [],_,t=>t
 | o::r,i,t=>lay L y r (i+1) (match o.dst with | some d=>if L i then t.setIfInBounds d (y i) else t | none=>t)
theorem lay_size (L:Nat→Bool) (y:Nat→Value):∀(l:List Oper) (i:Nat) (t:Array Value),(lay L y l i t).size=t.size
 | [],_,_=>rfl
 | o::r,i,t=>by
  simp only[lay]
  rw[lay_size L y r]
  cases o.dst with
  | none=>rfl
  | some d=>simp only[];split<;>simp
theorem fU (L:Nat→Bool) (y:Nat→Value) (s:Nat):∀(l:List Oper) (i:Nat) (t:Array Value),(∀k o,l[k]?=some o→o.dst=some s→L (i+k)=false)→(lay L y l i t)[s]?=t[s]?
 | [],_,_,_=>rfl
 | o::r,i,t,h=>by
  simp only[lay]
  rw[fU L y s r (i+1) _ (fun k o' hk hd=>by have:=h (k+1) o' (by simpa using hk) hd;rwa [show i+(k+1)=i+1+k by omega] at this)]
  cases hd:o.dst with
  | none=>rfl
  | some d=>
   simp only[]
   split
   ·rename_i hL
    have hne:d≠s:=by
     intro e
     subst e
     have:=h 0 o (by simp) hd
     simp[hL] at this
    rw[Array.getElem?_setIfInBounds_ne hne]
   ·rfl
theorem jg (L:Nat→Bool) (y:Nat→Value) (s:Nat):∀(l:List Oper) (i:Nat) (t:Array Value) (k:Nat) (o:Oper),l[k]?=some o→o.dst=some s→L (i+k)=true →
  (∀k' o',l[k']?=some o'→o'.dst=some s→k' = k)→s<t.size→(lay L y l i t)[s]?=some (y (i+k))
 | [],_,_,_,_,h,_,_,_,_=>by simp at h
 | o0::r,i,t,0,o,hk,hd,hL,hu,hs=>by
  simp at hk
  subst hk
  simp only[lay,hd]
  rw[fU L y s r (i+1) _ (fun k o' hk' hd'=>by have:=hu (k+1) o' (by simpa using hk') hd'; omega)]
  rw[Nat.add_zero] at hL
  simp[hL,hs]
 | o0::r,i,t,k+1,o,hk,hd,hL,hu,hs=>by
  simp only[lay]
  have:=jg L y s r (i+1) (match o0.dst with | some d=>if L i then t.setIfInBounds d (y i) else t | none=>t) k o (by simpa using hk) hd (by rwa [show i+1+k=i+(k+1) by omega])
   (fun k' o' hk' hd'=>by have:=hu (k' + 1) o' (by simpa using hk') hd'; omega)
   (by cases o0.dst with
     | none=>exact hs
     | some d=>simp only[];split<;>simpa using hs)
  rw[this]
  congr 2
  omega
theorem mr (L L' : Nat→Bool) (y:Nat→Value):∀(l:List Oper) (i:Nat) (t:Array Value),(∀k,k<l.length→L (i+k)=L' (i+k))→lay L y l i t=lay L' y l i t
 | [],_,_,_=>rfl
 | o::r,i,t,h=>by
  simp only[lay]
  have h0:L i=L' i:=by simpa using h 0 (by simp)
  rw[h0]
  exact mr L L' y r (i+1) _ fun k hk=>by have:=h (k+1) (by simp;omega);rwa [show i+(k+1)=i+1+k by omega] at this
def gW (ops:Array Oper):Bool:=
 (List.range ops.size).all fun i=>match ops[i]? with
  | none=>true
  | some o=>
   (match o.op with | .select ..=>false | _=>true) &&
   o.after.toList.all (fun e=>Region.binds .any e&&decide (e.on<i)) &&
   (List.range ops.size).all fun j=>match ops[j]? with
    | none=>true
    | some p=>match p.dst with
     | none=>true
     | some d=>(decide (i=j)||o.dst != some d)&&(!(o.looksAt ops).contains d||o.after.toList.any (fun e=>decide (e.on=j)))
theorem dV (h:gW ops=true) (hi:ops[i]?=some o) :
  (∀cs b,o.op ≠ .select cs b)∧(∀e∈o.after,Region.binds .any e=true∧e.on<i) ∧
  ∀j p d,ops[j]?=some p→p.dst=some d→(i=j∨o.dst≠some d)∧(d∈o.looksAt ops→∃e∈o.after,e.on=j):=by
 have hlt:i<ops.size:=(Array.getElem?_eq_some_iff.1 hi).1
 have h1:=List.all_eq_true.1 h i (List.mem_range.2 hlt)
 simp only[hi,Bool.and_eq_true] at h1
 obtain⟨⟨h2,h3⟩,h4⟩:=h1
 refine⟨?_,?_,?_⟩
 ·intro cs b e
  simp[e] at h2
 ·intro e he
  have:=List.all_eq_true.1 h3 e (Array.mem_toList_iff.2 he)
  simpa using this
 ·intro j p d hj hd
  have hjl:j<ops.size:=(Array.getElem?_eq_some_iff.1 hj).1
  have h5:=List.all_eq_true.1 h4 j (List.mem_range.2 hjl)
  simp only[hj,hd,Bool.and_eq_true,Bool.or_eq_true,decide_eq_true_eq,bne_iff_ne,ne_eq,Bool.not_eq_true',List.any_eq_true] at h5
  refine⟨h5.1,fun hmem => ?_⟩
  rcases h5.2 with h6|⟨e,he,h6⟩
  ·have h7:(o.looksAt ops).contains d=true:=List.contains_iff_mem.2 hmem
   rw[h7] at h6;cases h6
  ·exact⟨e,Array.mem_toList_iff.1 he,h6⟩
theorem vk (hok:gW ops=true) (hi:ops[i]?=some o) (hL:∀e∈o.after,L e.on=true) (t:Nat) (ht:t∈o.looksAt ops) :
  (lay L y ops.toList 0 a0.tmps)[t]?=(lay (fun _=>true) y ops.toList 0 a0.tmps)[t]?:=by
 obtain⟨_,_,hw⟩:=dV hok hi
 by_cases hsz:t<a0.tmps.size
 ·by_cases hex:∃(j:Nat) (p:Oper),ops[j]?=some p∧p.dst=some t
  ·obtain⟨j,p,hj,hd⟩:=hex
   obtain⟨e,he,hej⟩:=(hw j p t hj hd).2 ht
   have hu:∀k' o',ops.toList[k']?=some o'→o'.dst=some t→k' = j:=by
    intro k' o' hk' hd'
    have:=(dV hok (i:=k') (o:=o') (by simpa using hk')).2.2 j p t hj hd
    rcases this.1 with h|h
    ·exact h
    ·exact absurd hd' h
   rw[jg L y t _ 0 _ j p (by simpa using hj) hd (by rw[Nat.zero_add,←hej];exact hL e he) hu hsz,
    jg (fun _=>true) y t _ 0 _ j p (by simpa using hj) hd rfl hu hsz]
  ·rw[fU L y t _ 0 _ (fun k o' hk hd=>absurd ⟨k,o',by simpa using hk,hd⟩ hex),fU (fun _=>true) y t _ 0 _ (fun k o' hk hd=>absurd ⟨k,o',by simpa using hk,hd⟩ hex)]
 ·rw[Array.getElem?_eq_none (by rw[lay_size];omega),Array.getElem?_eq_none (by rw[lay_size];omega)]
theorem Bn (hok:gW ops=true) {listed:Array Bool} (hi:ops[i]?=some o) (hsz:listed.size=ops.size) (v:Value) :
  ({ a0 with tmps:=lay (fun i=>listed.getD i false) y ops.toList 0 a0.tmps }:Act).put o.dst v =
   { a0 with tmps:=lay (fun k=>(listed.setIfInBounds i true).getD k false) (fun k=>if k=i then v else y k) ops.toList 0 a0.tmps }:=by
 have hlt:i<ops.size:=(Array.getElem?_eq_some_iff.1 hi).1
 have hLi:(listed.setIfInBounds i true).getD i false=true:=by simp[Array.getD_eq_getD_getElem?,show i<listed.size by omega]
 have hLk:∀k,k≠i→(listed.setIfInBounds i true).getD k false=listed.getD k false:=fun k hk=>by
  simp[Array.getD_eq_getD_getElem?,Array.getElem?_setIfInBounds_ne (Ne.symm hk)]
 have key:(({ a0 with tmps:=lay (fun i=>listed.getD i false) y ops.toList 0 a0.tmps }:Act).put o.dst v).tmps=lay (fun k=>(listed.setIfInBounds i true).getD k false) (fun k=>if k=i then v else y k) ops.toList 0 a0.tmps:=by
  apply Array.ext_getElem?
  intro s
  by_cases hs:s<a0.tmps.size
  ·by_cases hex:∃(j:Nat) (p:Oper),ops[j]?=some p∧p.dst=some s
   ·obtain⟨j,p,hj,hd⟩:=hex
    have hu:∀k' o',ops.toList[k']?=some o'→o'.dst=some s→k' = j:=by
     intro k' o' hk' hd'
     rcases ((dV hok (i:=k') (o:=o') (by simpa using hk')).2.2 j p s hj hd).1 with h|h
     ·exact h
     ·exact absurd hd' h
    by_cases hji:j=i
    ·subst hji
     obtain rfl:o=p:=by rw[hi] at hj;exact Option.some.inj hj
     rw[jg (fun k=>(listed.setIfInBounds j true).getD k false) _ s _ 0 _ j o (by simpa using hi) hd (by simpa using hLi) hu hs]
     simp only[Act.put,hd,Nat.zero_add,if_true]
     rw[Array.getElem?_setIfInBounds_self_of_lt (by rw[lay_size];exact hs)]
    ·have hod:o.dst≠some s:=fun e=>hji ((hu i o (by simpa using hi) e).symm)
     have e1:(({ a0 with tmps:=lay (fun i=>listed.getD i false) y ops.toList 0 a0.tmps }:Act).put o.dst v).tmps[s]?=(lay (fun i=>listed.getD i false) y ops.toList 0 a0.tmps)[s]?:=by
      cases ho:o.dst with
      | none=>rfl
      | some d=>
       have:d≠s:=fun e=>hod (by rw[ho,e])
       simp only[Act.put]
       rw[Array.getElem?_setIfInBounds_ne this]
     rw[e1]
     cases hLj:listed.getD j false with
     | true=>
      rw[jg (fun i=>listed.getD i false) y s _ 0 _ j p (by simpa using hj) hd (by simpa using hLj) hu hs,
       jg (fun k=>(listed.setIfInBounds i true).getD k false) _ s _ 0 _ j p (by simpa using hj) hd (by rw[Nat.zero_add,hLk j hji];exact hLj) hu hs]
      simp[hji]
     | false=>
      rw[fU (fun i=>listed.getD i false) y s _ 0 _ (fun k o' hk hd'=>by rw[Nat.zero_add,hu k o' hk hd'];exact hLj),
       fU (fun k=>(listed.setIfInBounds i true).getD k false) _ s _ 0 _ (fun k o' hk hd'=>by rw[Nat.zero_add,hu k o' hk hd',hLk j hji];exact hLj)]
   ·have hod:o.dst≠some s:=fun e=>hex ⟨i,o,hi,e⟩
    have e1:(({ a0 with tmps:=lay (fun i=>listed.getD i false) y ops.toList 0 a0.tmps }:Act).put o.dst v).tmps[s]?=(lay (fun i=>listed.getD i false) y ops.toList 0 a0.tmps)[s]?:=by
     cases ho:o.dst with
     | none=>rfl
     | some d=>
      have:d≠s:=fun e=>hod (by rw[ho,e])
      simp only[Act.put]
      rw[Array.getElem?_setIfInBounds_ne this]
    rw[e1,fU _ y s _ 0 _ (fun k o' hk hd=>absurd ⟨k,o',by simpa using hk,hd⟩ hex),fU _ _ s _ 0 _ (fun k o' hk hd=>absurd ⟨k,o',by simpa using hk,hd⟩ hex)]
  ·have e1:(({ a0 with tmps:=lay (fun i=>listed.getD i false) y ops.toList 0 a0.tmps }:Act).put o.dst v).tmps.size=a0.tmps.size:=by
    cases o.dst with
    | none=>exact lay_size _ _ _ _ _
    | some d=>simp[Act.put,lay_size]
   rw[Array.getElem?_eq_none (by rw[e1];omega),Array.getElem?_eq_none (by rw[lay_size];omega)]
 cases hdst:o.dst with
 | none=>rw[hdst] at key;simp only[Act.put] at key ⊢; rw[key]
 | some d=>rw[hdst] at key;simp only[Act.put] at key ⊢; rw[key]
theorem mP {a b:Act} {w:World} {F:Value→World→Prop} {K:Act→World→Prop} (hi:ops[i]?=some o)
 (hwant:Region.wanted o (yielded ops a.tmps)=true) (hexec:execOp a.eval o=execOp b.eval o) (h:Gives P o b w F) (hK:∀v w',F v w'→K (a.put o.dst v) w'):wpOp P ops Q i K a w:=by
 unfold wpOp
 simp only[hi,hwant,if_true]
 refine .inl ?_
 unfold Oper.wp
 rw[hexec]
 unfold Gives at h
 generalize (execOp b.eval o).run P w=r at h ⊢
 cases r with
 | ok n w'=>
  cases n with
  | value v=>exact hK _ _ h
  | skip=>exact hK _ _ h
  | enter f args=>
   refine Calls.mono h fun e w'' he => ?_
   cases e with
   | returned v=>exact hK _ _ he
   | panicked c=>exact he.elim
   | outgrown=>exact he.elim
  | _=>exact h.elim
 | halt x w'=>exact h.elim
def writer (ops:Array Oper) (t:Nat):Option Nat:=(List.range ops.size).find? fun i=>match ops[i]? with | some o=>o.dst==some t | none=>false
def eO (ρ:Operand→Value) (ops:Array Oper) (g:Nat):Option Bool:=
 match (ops[g]?).bind (·.dst) with
 | some d=>match ρ (.tmp d) with | .bool b=>some b | _=>none
 | none=>none
def cB (P:Program) (o:Oper) (ρ:Operand→Value) (w:World) (F:Value→World→Prop):Prop:=
 match (execOp ρ o).run P w with
 | .ok (.value v) w'=>F v w'
 | .ok .skip w'=>F undef w'
 | .ok (.enter f args) w'=>Calls P f args w' fun | .returned v,w''=>F v w'' | _,_=>False
 | _=>False
structure jC where
 r:Value→World→Prop
 st:∀v w w',Below w.heap.size w w'→r v w→r v w'
def oK (V:Value):jC:=⟨fun v _=>v=V,fun _ _ _ _ h=>h⟩
def anyR:jC:=⟨fun _ _=>True,fun _ _ _ _ _=>trivial⟩
def QF (n:Nat) (vs:List Value):jC:=⟨fun v w => ∃a c,v = .slice a n c∧n≤c∧c≤maxLen∧(a=none→c=0)∧dB w a vs,
 fun _ _ _ hb ⟨a,c,h1,h2,h3,h4,h5⟩=>⟨a,c,h1,h2,h3,h4,h5.below hb⟩⟩
def rl (l:List jC) (i:Nat) (v:Value) (w:World):Prop:=(l.getD i anyR).r v w
def aQ (C:Nat→Oper→Prop):Nat→List Oper→Prop
 | _,[]=>True
 | k,o::r=>C k o∧aQ C (k+1) r
theorem aA {C:Nat→Oper→Prop} :aQ C k []:=trivial
theorem ae {C:Nat→Oper→Prop} {r:List Oper} (h:C k o) (hr:aQ C (k+1) r):aQ C k (o::r):=⟨h,hr⟩
theorem aQ.at {C:Nat→Oper→Prop}:∀ {l:List Oper} {k:Nat},aQ C k l→∀i o,l[i]?=some o→C (k+i) o
 | [],_,_,_,_,h=>by simp at h
 | o::r,k,h,0,o',hi=>by simp at hi;subst hi;exact h.1
 | o::r,k,h,i+1,o',hi=>by
  have:=aQ.at h.2 i o' (by simpa using hi)
  rwa [show k+(i+1)=k+1+i by omega]
def kF (P:Program) (ops:Array Oper) (a0:Act) (w0:World) (l:List jC) (i:Nat) (o:Oper):Prop:=
 ∀(ρ:Operand→Value) (y:Nat→Value) (w:World),(∀t j,writer ops t=some j→ρ (.tmp t)=y j)→(∀x,(match x with | .tmp t=>writer ops t=none | _=>True)→ρ x=a0.eval x) →
  Below w0.heap.size w0 w→(∀j,o.after.toList.any (fun e=>e.on==j)=true→rl l j (y j) w) →
  if Region.wanted o (eO ρ ops)=true then cB P o ρ w (fun v w'=>Below w.heap.size w w'∧rl l i v w') else rl l i undef w
def iH (ops:Array Oper) (n:Nat):Bool:=ops.toList.all fun o=>match o.dst with | some d=>decide (d<n) | none=>true
theorem aj {w:World} {l:List jC} (v:Value) (hw:Region.wanted o (eO ρ ops)=true) (hrun:(execOp ρ o).run P w = .ok (.value v) w) (hR:rl l i v w) :
  if Region.wanted o (eO ρ ops)=true then cB P o ρ w (fun v w'=>Below w.heap.size w w'∧rl l i v w') else rl l i undef w:=by
 rw[if_pos hw]
 unfold cB
 rw[hrun]
 exact⟨Below.refl _ _,hR⟩
theorem yM {w:World} {l:List jC} (hw:Region.wanted o (eO ρ ops)=false) (hR:rl l i undef w) :
  if Region.wanted o (eO ρ ops)=true then cB P o ρ w (fun v w'=>Below w.heap.size w w'∧rl l i v w') else rl l i undef w:=by
 rw[if_neg (by rw[hw];exact Bool.false_ne_true)]
 exact hR
theorem aL {w:World} {l:List jC} (f:FuncId) (args:Array Value) (hw:Region.wanted o (eO ρ ops)=true) (hrun:(execOp ρ o).run P w = .ok (.enter f args) w)
 (hc:Calls P f args w fun e w' => ∃v,e = .returned v∧Below w.heap.size w w'∧rl l i v w') :
  if Region.wanted o (eO ρ ops)=true then cB P o ρ w (fun v w'=>Below w.heap.size w w'∧rl l i v w') else rl l i undef w:=by
 rw[if_pos hw]
 unfold cB
 rw[hrun]
 refine hc.mono fun e w' ⟨v,he,h⟩ => ?_
 subst he
 exact h
theorem ah {y:Nat→Option Bool} (hg:o.guard=none):Region.wanted o y=true:=by simp[Region.wanted,hg]
theorem aN (g d:Nat) (b want:Bool) (hg:o.guard=some (g,want)) (hd:(ops[g]?).bind (·.dst)=some d) (hv:ρ (.tmp d) = .bool b):Region.wanted o (eO ρ ops)=(b==want):=by
 simp only[Region.wanted,hg,eO,hd,hv]
 cases b<;>cases want<;>rfl
theorem bH {w:World} {d:TypeDesc} (ho:o.op = .load ty x) (hx:ρ x = .pointer (some ⟨b,0,none⟩)) (hb:aD w b cs T)
 (hu:P.underlying ty=some d) (hd:(match d with | .struct _ | .array _ _=>true | _=>false)=true) (hi:(P.info? ty).map (·.size)=some cs.size):(execOp ρ o).run P w = .ok (.value (.agg cs)) w:=by
 unfold execOp
 simp only[ho,hx,Instr.loadAt,Instr.sureAddr,Sem.run_bind,Sem.run_pure,Result.andThen_ok,run_loadVar_row w b T ty cs (0,0) d hb hu hd hi]
theorem run_move {w:World} (ho:o.op = .move x∨o.op = .assign x) (hx:ρ x=v):(execOp ρ o).run P w = .ok (.value v) w:=by
 rcases ho with ho|ho<;>simp[execOp,ho,hx]
theorem aM {w:World} {f:FuncId} {xs:Array Operand} {ats:Array TypeId} {fn:Func} (ho:o.op = .call { callee:=.value (.func f),args:=xs,argTypes:=ats })
 (hρ : ρ (.func f) = .func (.func f) #[] #[]) (hf : P.funcs[f]? = some fn) (hn : (fn.name == "runtime.NumGoroutine") = false) (hb : fn.body.isNone = false) (ha : xs.map ρ = args) : (execOp ρ o).run P w = .ok (.enter f args) w := by
 have e1:execOp ρ o=callFunc f args:=by
  unfold execOp
  simp only[ho]
  have e2:resolve ρ { callee:=.value (.func f),args:=xs,argTypes:=ats } o.type=Sem.pure { target:=.fn (.func f) #[],args:=args }:=by
   unfold resolve
   simp only[hρ,ha]
   simp[Deferred.ofValue]
   rfl
  rw[e2]
  show callFunc f (args++#[])=_
  simp
 rw[e1]
 have hn' : ¬ fn.name = "runtime.NumGoroutine" := by simpa using hn
 have hb' : ¬fn.body=none:=fun h=>by simp[h] at hb
 unfold callFunc
 simp[hf,hn',hb']
theorem lH {w:World} {op:BinOp} {y:Operand} (ho:o.op = .binOp op t x y t') (hx:ρ x=vx) (hy:ρ y=vy)
 (hr:(do eqGuard op t x y vx vy;binOp op t vx vy:Sem Value).run P w = .ok v w):(execOp ρ o).run P w = .ok (.value v) w:=by
 unfold execOp
 simp only[ho,hx,hy]
 rw[Sem.run_bind,hr]
 rfl
theorem lN {w:World} {c y:Operand} {b:Bool} (ho:o.op = .pick c x y) (hc:ρ c = .bool b) (hx:(if b then ρ x else ρ y)=v):(execOp ρ o).run P w = .ok (.value v) w:=by
 unfold execOp
 simp only[ho,hc]
 subst hx
 cases b<;>rfl
theorem wQ {w:World} {b:Bool} (ho:o.op = .unOp .not t x) (hx:ρ x = .bool b):(execOp ρ o).run P w = .ok (.value (.bool (!b))) w:=by
 unfold execOp
 simp only[ho,hx]
 rfl
theorem CL {w:World} (ho:o.op = .call { callee:=.builtin .len,args:=#[x],argTypes:=#[t] }) (hx:ρ x = .slice a n c) (ht:P.underlying t=some (.slice (P.elem t))):(execOp ρ o).run P w = .ok (.value (.int .i64 n)) w:=by
 unfold execOp
 simp only[ho]
 simp[hx,resolve,invoke,builtin,run_len_slice _ t o.type a n c ht]
 rfl
theorem zk {w:World} (ho:o.op = .fieldAddr t x f) (hx:ρ x=vx) (hr:(Instr.fieldAt t vx f).run P w = .ok v w):(execOp ρ o).run P w = .ok (.value v) w:=by
 unfold execOp
 simp only[ho,hx]
 rw[Sem.run_bind,hr]
 rfl
theorem run_load {w:World} (ho:o.op = .load t x) (hx:ρ x=vx) (hr:(Instr.loadAt t vx).run P w = .ok v w):(execOp ρ o).run P w = .ok (.value v) w:=by
 unfold execOp
 simp only[ho,hx]
 rw[Sem.run_bind,hr]
 rfl
def KV (ops:Array Oper) (a0:Act) (l:List jC) (o:Oper) (t:Nat) (v:Value):Prop:=
 (∃k,writer ops t=some k∧o.after.toList.any (fun e=>e.on==k)=true∧l.getD k anyR=oK v)∨(writer ops t=none∧a0.eval (.tmp t)=v)
theorem QA {l:List jC} {t:Nat} (h1:writer ops t=none) (h2:a0.eval (.tmp t)=v):KV ops a0 l o t v:=.inr ⟨h1,h2⟩
def Qz (P:Program) (ops:Array Oper) (a0:Act) (l:List jC) (i:Nat) (o:Oper):Prop:=
 ∀(ρ:Operand→Value) (y:Nat→Value) (w:World),(∀t j,writer ops t=some j→ρ (.tmp t)=y j)→(∀x,(match x with | .tmp t=>writer ops t=none | _=>True)→ρ x=a0.eval x) →
  (∀j,o.after.toList.any (fun e=>e.on==j)=true→rl l j (y j) w)→∃v,(execOp ρ o).run P w = .ok (.value v) w∧rl l i v w
def OkW (ops:Array Oper) (l:List jC) (o:Oper) (b:Bool):Prop:=
 ∀(ρ:Operand→Value) (y:Nat→Value) (w:World),(∀t j,writer ops t=some j→ρ (.tmp t)=y j)→(∀j,o.after.toList.any (fun e=>e.on==j)=true→rl l j (y j) w)→Region.wanted o (eO ρ ops)=b
theorem QE {l:List jC} (hg:o.guard=none):OkW ops l o true:=fun _ _ _ _ _=>ah hg
section
variable {P:Program} {ops:Array Oper} {a0:Act} {w0:World} {l:List jC} {i:Nat} {o:Oper}
theorem KV.at {t:Nat} {v:Value} (h:KV ops a0 l o t v) {ρ:Operand→Value} {y:Nat→Value} {w:World} (hw:∀t j,writer ops t=some j→ρ (.tmp t)=y j) (hn:∀x,(match x with | .tmp t=>writer ops t=none | _=>True)→ρ x=a0.eval x) (hd:∀j,o.after.toList.any (fun e=>e.on==j)=true→rl l j (y j) w):ρ (.tmp t)=v:=by
 rcases h with ⟨k,h1,h2,h3⟩|⟨h1,h2⟩
 ·have h4:=hd k h2
  unfold rl at h4
  rw[h3] at h4
  exact (hw t k h1).trans h4
 ·exact (hn (.tmp t) h1).trans h2
theorem PO {w:World} (hr:l.getD i anyR=oK V) (e:v=V):rl l i v w:=by unfold rl;rw[hr];exact e
theorem QH {t:Nat} (ho:o.op = .move (.tmp t)) (hx:KV ops a0 l o t V) (hr:l.getD i anyR=oK V):Qz P ops a0 l i o:=fun ρ y w hw hn hd=>⟨V,run_move (.inl ho) (hx.at hw hn hd),PO hr rfl⟩
theorem QI (hg:OkW ops l o true) (h:Qz P ops a0 l i o):kF P ops a0 w0 l i o:=fun ρ y w hw hn _ hd=>by
 obtain⟨v,h1,h2⟩:=h ρ y w hw hn hd
 exact aj v (hg ρ y w hw hd) h1 h2
end
theorem ja {α:Type} (enc:α→List Value) (sz:Nat) (hsz:∀x,(enc x).length=sz) (l:List α) (i:Nat) (h:i<l.length) (j:Nat) (hj:j<sz):(l.flatMap enc)[i*sz+j]?=(enc l[i])[j]?:=by
 have e:(enc l[i])[j]?=some ((enc l[i])[j]'(by rw[hsz];exact hj)):=List.getElem?_eq_getElem _
 rw[e]
 exact flat_get enc sz hsz l i h j _ e
theorem De {α:Type} (enc:α→List Value) (sz:Nat) (hsz:∀x,(enc x).length=sz) (hp:0<sz) (l:List α) (m:Nat) (u:Value) (h:(l.flatMap enc)[m]?=some u) :
  ∃i j,∃hi:i<l.length,m=i*sz+j∧j<sz∧(enc l[i])[j]?=some u:=by
 have hm:m<l.length*sz:=by
  rcases Nat.lt_or_ge m (l.flatMap enc).length with h1|h1
  ·rwa [flat_len enc sz hsz] at h1
  ·rw[List.getElem?_eq_none h1] at h;cases h
 have hj:=Nat.mod_lt m hp
 have hd:=Nat.div_add_mod m sz
 have hi:m / sz<l.length:=Nat.div_lt_of_lt_mul (by rw[Nat.mul_comm];exact hm)
 refine⟨m / sz,m%sz,hi,by rw[Nat.mul_comm];exact hd.symm,hj,?_⟩
 rw[←ja enc sz hsz l _ hi _ hj,Nat.mul_comm,hd]
 exact h
theorem ut {α:Type} (enc:α→List Value) (sz:Nat) (hsz:∀x,(enc x).length=sz) (hp:0<sz) (l:List α) (k:Nat) (hk:k<l.length) (x:α) (off:Nat) (cur:Array Value) (hfit:off+l.length*sz≤cur.size)
 (h:∀j u,(l.flatMap enc)[j]?=some u→cur[off+j]?=some u):∀j u,((l.set k x).flatMap enc)[j]?=some u→(bq cur (off+k*sz) (enc x))[off+j]?=some u:=by
 intro m u hm
 obtain⟨i,j,hi,rfl,hj,e⟩:=De enc sz hsz hp _ m u hm
 have hi' : i<l.length:=by simpa using hi
 by_cases hik:i=k
 ·subst hik
  rw[show off+(i*sz+j)=(off+i*sz)+j from by omega]
  have h1:(i+1)*sz≤l.length*sz:=Nat.mul_le_mul_right _ hk
  rw[Nat.add_mul] at h1
  exact putAt_in _ _ _ _ _ (by rw[hsz];omega) (by simpa using e)
 ·have hne:off+(i*sz+j)<off+k*sz∨off+k*sz+(enc x).length≤off+(i*sz+j):=by
   rw[hsz]
   rcases Nat.lt_or_gt_of_ne hik with h1|h1
   ·have:=Nat.mul_le_mul_right sz h1
    rw[Nat.succ_mul] at this
    omega
   ·have:=Nat.mul_le_mul_right sz h1
    rw[Nat.succ_mul] at this
    omega
  rw[putAt_out _ _ _ _ hne]
  refine h _ _ ?_
  rw[ja enc sz hsz l i hi' j hj]
  rw[List.getElem_set_ne (fun e=>hik e.symm)] at e
  exact e
theorem Own.put {α:Type} {enc:α→List Value} (hsz:∀x,(enc x).length=sz) (hp:0<sz) {w:World} {l:List α} (h:Own w B e sz v l.length (l.flatMap enc)) (k:Nat) (hk:k<l.length) :
  ∃g off cap cur,v = .slice (some ⟨g,off,none⟩) l.length cap∧B≤g∧aD w g cur e∧off+k*sz+sz≤cur.size∧(∀j u,(enc l[k])[j]?=some u→w.cell? ⟨g,off+k*sz+j,none⟩=some u) ∧
   ∀w' x,aD w' g (bq cur (off+k*sz) (enc x)) e→Own w' B e sz v l.length ((l.set k x).flatMap enc):=by
 obtain⟨hl,h⟩:=h
 rcases h with ⟨_,h0⟩|⟨g,off,cap,cur,rfl,hB,hg,hc,hm,hs,ht⟩
 ·omega
 ·have h1:(k+1)*sz≤l.length*sz:=Nat.mul_le_mul_right _ hk
  have h2:l.length*sz≤cap*sz:=Nat.mul_le_mul_right _ hc
  rw[Nat.add_mul] at h1
  refine⟨g,off,cap,cur,rfl,hB,hg,by omega,fun j u hj => ?_,fun w' x hw=>⟨?_,.inr ⟨g,off,cap,_,rfl,hB,hw,hc,hm,by rw[size_putAt];exact hs,?_⟩⟩⟩
  ·rw[hg.cell,Nat.add_assoc]
   refine ht _ _ ?_
   have hj' : j<sz:=by
    rcases Nat.lt_or_ge j sz with h|h
    ·exact h
    ·rw[List.getElem?_eq_none (by rw[hsz];exact h)] at hj;cases hj
   rw[ja enc sz hsz l k hk j hj']
   exact hj
  ·rw[flat_len enc sz hsz,List.length_set]
  ·exact ut enc sz hsz hp l k hk x off cur (by omega) ht
theorem Own.put1 {f:Int→Value} {w:World} (h:Own w B e 1 v l.length (l.map f)) (k:Nat) (hk:k<l.length) :
  ∃g off cap,v = .slice (some ⟨g,off,none⟩) l.length cap∧B≤g∧g<w.heap.size∧w.cell? ⟨g,off+k,none⟩=some (f l[k])∧w.frozen? ⟨g,off+k,none⟩=false ∧
   ∀x,Own (w.setCell ⟨g,off+k,none⟩ (f x)) B e 1 v l.length ((l.set k x).map f):=by
 rw[←gJ] at h
 obtain⟨g,off,cap,cur,rfl,hB,hg,hs,hc,hw⟩:=h.put (sz:=1) (fun _=>rfl) Nat.one_pos k hk
 rw[Nat.mul_one] at hs hc hw
 refine⟨g,off,cap,rfl,hB,hg.lt,by simpa using hc 0 _ rfl,hg.free _,fun x => ?_⟩
 rw[←gJ]
 exact hw _ x (by simpa[bq] using hg.setCell (off+k) (f x))
theorem Ad {α:Type} (enc:α→List Value) (sz:Nat) (hsz:∀x,(enc x).length=sz) (hp:0<sz) (z:Array Value) (x:α) (hz:z.toList=enc x) (n:Nat):(madeCells z (n*sz)).toList=(List.replicate n x).flatMap enc:=by
 have hzs:z.size=sz:=by rw[←hsz x,←hz];simp
 apply List.ext_getElem
 ·rw[flat_len enc sz hsz];simp[size_madeCells]
 intro m h1 h2
 have hm:m<n*sz:=by simpa[size_madeCells] using h1
 have h3:((List.replicate n x).flatMap enc)[m]?=some ((List.replicate n x).flatMap enc)[m]:=List.getElem?_eq_getElem h2
 obtain⟨i,j,hi,e,hj,he⟩:=De enc sz hsz hp _ m _ h3
 rw[List.getElem_replicate] at he
 have hmod:m%z.size=j:=by rw[hzs,e,Nat.mul_comm,Nat.mul_add_mod,Nat.mod_eq_of_lt hj]
 simp only[madeCells,Array.toList_map,List.getElem_map,Array.toList_range,List.getElem_range,hmod]
 rw[←hz,Array.getElem?_toList] at he
 rw[Array.getElem!_eq_getD,Array.getD_eq_getD_getElem?,he]
 rfl
theorem rC (w:World) {a:Act} 
 (hg:o.guard=none) (l c:Operand) (t:TypeId) (hop:o.op=Op.makeSlice t l c)
 {α:Type} (enc:α→List Value) (e:TypeId) (z:Value) (size bytes:Nat) (x:α) (hsz:∀x,(enc x).length=size) (hp:0<size) (h1:P.underlying t=some (.slice e)) (h2:(P.info? e).map (fun i=>(i.zero,i.size,i.bytes))=some (some z,size,bytes)) (hz:z.cells.toList=enc x)
 (kl kc:IntKind) (L C:Int) (n:Nat) (hl:a.eval l = .int kl L) (hc:a.eval c = .int kc C) (hL:L=(n:Int)) (hC:C=(n:Int)) (b2:bytes*n≤281474976710656) (b3:n≤maxLen)
 (hK:∀w',Own w' w.heap.size e size (.slice (some ⟨w.heap.size,0,none⟩) n n) n ((List.replicate n x).flatMap enc)→w.grownBy w' none→wpList P ops Q rest (a.put o.dst (.slice (some ⟨w.heap.size,0,none⟩) n n)) w') :
  wpList P ops Q (o::rest) a w:=by
 obtain⟨i,hi,hzz,hs,hb⟩:=info_parts h2
 refine wpList_make_full w hg l c t hop w.heap.size e i z size h1 hi hzz hs kl kc L C n hl hc hL hC (by rw[hb];exact b2) b3 (Nat.le_refl _) fun w' ho hgr=>hK w' ?_ hgr
 rw[Ad enc size hsz hp z.cells x hz] at ho
 exact Own.of_owns ho
theorem own_ne {w:World} (h:Own w B e sz v n xs) (hk:aD w g cs T) (hT:T≠e):∀g',v.ownBlock=some g'→some g≠some g':=by
 intro g' hg' he
 cases he
 rcases h.2 with ⟨rfl,_⟩|⟨g2,off,cap,cur,rfl,_,hb,_⟩
 ·cases hg'
 ·cases hg'
  unfold aD at hk hb
  rw[hk] at hb
  simp only[Option.some.injEq,Obj.cells.injEq] at hb
  exact hT hb.2.1
theorem ak {w:World} (h:Own w B e sz v n xs) (hk:aD w g cs T) (hT:T≠e) (hgr:w.grownBy w' (some g)):Own w' B e sz v n xs:=
 h.grown hgr (own_ne h hk hT)
def lu (B:Nat) (e:TypeId) (sz n:Nat) (xs:List Value):jC:=⟨fun v w=>Own w B e sz v n xs,fun _ _ _ hb h=>h.below hb⟩
theorem gG {w:World} {X:Array Value} (m:World→Prop) (h:∀W,Below w.heap.size w W→aD W w.heap.size X TX→W.heap.size=w.heap.size+1→m W):m (w.alloc (.cells X TX)):=
 h _ ((Below.refl _ _).alloc (Nat.le_refl _) _) (aD.new _ _ _) (by simp)
theorem oJ {w:World} {X:Array Value} (m:World→Prop) (h:∀W,Below w.heap.size w W→aD W w.heap.size X TX→aD W (w.heap.size+1) Y TY→W.heap.size=w.heap.size+2→m W) :
  m ((w.alloc (.cells X TX)).alloc (.cells Y TY)):=by
 refine gG (fun W=>m (W.alloc (.cells Y TY))) fun W1 hb hx hs => ?_
 refine gG m fun W2 hb2 hy hs2 => ?_
 rw[hs] at hy hs2
 exact h W2 (ag hb hb2) (hx.ext hb2) hy (by omega)
theorem Lc {w:World} {X:Array Value} (m:World→Prop) (h:∀W,Below w.heap.size w W→aD W w.heap.size X TX→aD W (w.heap.size+1) Y TY→aD W (w.heap.size+2) Z TZ→W.heap.size=w.heap.size+3→m W) :
  m (((w.alloc (.cells X TX)).alloc (.cells Y TY)).alloc (.cells Z TZ)):=by
 refine oJ (fun W=>m (W.alloc (.cells Z TZ))) fun W1 hb hx hy hs => ?_
 refine gG m fun W2 hb2 hz hs2 => ?_
 rw[hs] at hz hs2
 exact h W2 (ag hb hb2) (hx.ext hb2) (hy.ext hb2) hz (by omega)
theorem Own.drop {α:Type} {enc:α→List Value} (hsz:∀x,(enc x).length=sz) {w:World} {l:List α} (h:Own w B e sz (.slice (some ⟨g,off,none⟩) l.length cap) l.length (l.flatMap enc)) (k:Nat) (hk:k≤l.length) :
  Own w B e sz (.slice (some ⟨g,off+k*sz,none⟩) (l.drop k).length (cap-k)) (l.drop k).length ((l.drop k).flatMap enc):=by
 obtain⟨hl,h⟩:=h
 rcases h with ⟨h1,_⟩|⟨g',off',cap',cur,hv,hB,hg,hc,hm,hs,ht⟩
 ·cases h1
 ·cases hv
  refine⟨flat_len enc sz hsz _,.inr ⟨g,off+k*sz,cap-k,cur,rfl,hB,hg,by simp;omega,by omega,?_,fun j u hj => ?_⟩⟩
  ·have:(cap-k)*sz+k*sz=cap*sz:=by rw[←Nat.add_mul];congr 1;omega
   omega
  ·rw[Nat.add_assoc]
   refine ht _ _ ?_
   have e:l.flatMap enc=(l.take k).flatMap enc++(l.drop k).flatMap enc:=by rw[←List.flatMap_append,List.take_append_drop]
   rw[e,List.getElem?_append_right (by rw[flat_len enc sz hsz,List.length_take,Nat.min_eq_left hk];omega),flat_len enc sz hsz,List.length_take,Nat.min_eq_left hk,Nat.add_sub_cancel_left]
   exact hj
theorem iC {w:World} {l:List jC} (v:Value) (hw:Region.wanted o (eO ρ ops)=true) (hrun:(execOp ρ o).run P w = .ok (.value v) w') (hb:Below w.heap.size w w') (hR:rl l i v w') :
  if Region.wanted o (eO ρ ops)=true then cB P o ρ w (fun v w'=>Below w.heap.size w w'∧rl l i v w') else rl l i undef w:=by
 rw[if_pos hw]
 unfold cB
 rw[hrun]
 exact⟨hb,hR⟩
theorem jk {w:World} (h:w.grownBy w' none):Below w.heap.size w w':=(Below.refl _ _).grown h (Nat.le_refl _) (fun k hk=>by cases hk)
theorem Own.empty (w:World) (T:TypeId) (hB:B≤w.heap.size):Own (w.alloc (.cells #[] T)) B T sz (.slice (some ⟨w.heap.size,0,none⟩) 0 0) 0 []:=
 ⟨by simp,.inr ⟨w.heap.size,0,0,#[],rfl,hB,aD.new _ _ _,Nat.le_refl _,Nat.zero_le _,by simp,fun j u h=>by simp at h⟩⟩
def qU (ops:Array Oper):Nat→Nat→List Nat
 | 0,_=>[]
 | f+1,i=>match ops[i]? with
  | none=>[]
  | some o=>o.after.toList.flatMap fun e=>e.on::qU ops f e.on
def fM (ops:Array Oper) (m:Nat):Bool:=
 (List.range ops.size).all fun i=>decide (i<m)||(List.range i).all fun j=>(qU ops ops.size i).contains j
theorem qg {ops:Array Oper} {listed:Array Bool} (hc:∀i o,ops[i]?=some o→listed.getD i false=true→∀e∈o.after,listed.getD e.on false=true):∀(f i:Nat),(∀o,ops[i]?=some o→∀e∈o.after,listed.getD e.on false=true)→∀j∈qU ops f i,listed.getD j false=true
 | 0,_,_,j,hj=>by simp[qU] at hj
 | f+1,i,h,j,hj=>by
  unfold qU at hj
  cases ho:ops[i]? with
  | none=>simp[ho] at hj
  | some o=>
   simp only[ho,List.mem_flatMap] at hj
   obtain⟨e,he,hj⟩:=hj
   have he':=Array.mem_toList_iff.1 he
   rcases List.mem_cons.1 hj with rfl|hj
   ·exact h o ho e he'
   ·exact qg hc f e.on (fun o' ho'=>hc e.on o' ho' (h o ho e he')) j hj
theorem pU {m:Nat} (h:fM ops m=true) {listed:Array Bool} (hc:∀i o,ops[i]?=some o→listed.getD i false=true→∀e∈o.after,listed.getD e.on false=true) (hi:ops[i]?=some o) (hL:∀e∈o.after,listed.getD e.on false=true) (hm:m≤i) (j:Nat) (hj:j<i):listed.getD j false=true:=by
 have hlt:i<ops.size:=(Array.getElem?_eq_some_iff.1 hi).1
 have h1:=List.all_eq_true.1 h i (List.mem_range.2 hlt)
 simp only[Bool.or_eq_true,decide_eq_true_eq] at h1
 rcases h1 with h1|h1
 ·omega
 ·have h2:=List.all_eq_true.1 h1 j (List.mem_range.2 hj)
  refine qg hc ops.size i (fun o' ho' => ?_) j (by simpa using h2)
  rw[hi] at ho'
  cases ho'
  exact hL
theorem oO {m:Nat} (hok:gW ops=true) (ht:fM ops m=true):∀(fuel k:Nat) (listed:Array Bool) (a:Act) (w:World),
  m≤k→k≤ops.size→ops.size-k≤fuel→listed.size=ops.size→(∀i,i<ops.size→listed.getD i false=decide (i<k))→wpList P ops Q (ops.toList.drop k) a w→wpAny P .any ops Q fuel listed a w:=by
 intro fuel
 induction fuel with
 | zero=>
  intro k listed a w hmk hk hf hsz hL h
  obtain rfl:k=ops.size:=by omega
  refine⟨?_,?_⟩
  ·rw[List.eq_nil_iff_forall_not_mem]
   intro i hi
   obtain⟨h1,o,ho,_⟩:=mem_ready.1 hi
   have hlt:i<ops.size:=(Array.getElem?_eq_some_iff.1 ho).1
   have:=hL i hlt
   simp[Array.getD_eq_getD_getElem?,show i<listed.size by omega] at h1 this
   rw[h1] at this
   simp[hlt] at this
  ·rw[List.drop_eq_nil_of_le (by simp)] at h
   simpa[wpList] using h
 | succ fuel ih=>
  intro k listed a w hmk hk hf hsz hL h
  have only:∀i∈Region.ready .any ops listed,i=k:=by
   intro i hi
   obtain⟨h1,o,ho,hdeps⟩:=mem_ready.1 hi
   have hlt:i<ops.size:=(Array.getElem?_eq_some_iff.1 ho).1
   have h2:=hL i hlt
   have h3:listed.getD i false=false:=by
    simp[Array.getD_eq_getD_getElem?,show i<listed.size by omega] at h1 ⊢
    exact h1
   rw[h3] at h2
   have hki:k≤i:=by
    have:=h2.symm
    simpa using this
   rcases Nat.lt_or_ge k i with hlt' | hge
   ·exfalso
    have h4:listed.getD k false=true:=pU ht (fun i' o' ho' hl' e he=>by
     have hi' : i' < ops.size:=(Array.getElem?_eq_some_iff.1 ho').1
     have h8:=(dV hok ho').2.1 e he
     rw[hL i' hi'] at hl'
     have h9:i' < k:=by simpa using hl'
     rw[hL e.on (by omega)]
     simp;omega) ho (fun e he=>hdeps e he ((dV hok ho).2.1 e he).1) (by omega) k hlt'
    have h5:=hL k (by omega)
    rw[h4] at h5
    simp at h5
   ·omega
  refine⟨fun hready => ?_,fun i hi => ?_⟩
  ·rcases Nat.lt_or_ge k ops.size with hlt|hge
   ·exfalso
    have:k∈Region.ready .any ops listed:=by
     rw[mem_ready]
     refine⟨?_,ops[k],by simp[hlt],fun e he hb => ?_⟩
     ·have:=hL k hlt
      simp[Array.getD_eq_getD_getElem?,show k<listed.size by omega] at this ⊢
      exact this
     ·have h6:=(dV hok (i:=k) (o:=ops[k]) (by simp[hlt])).2.1 e he
      rw[hL e.on (by omega)]
      simp[h6.2]
    rw[hready] at this
    cases this
   ·rw[List.drop_eq_nil_of_le (by simpa using hge)] at h
    simpa[wpList] using h
  ·obtain rfl:=only i hi
   obtain⟨_,o,ho,_⟩:=mem_ready.1 hi
   have hlt:i<ops.size:=(Array.getElem?_eq_some_iff.1 ho).1
   have hdrop:ops.toList.drop i=o::ops.toList.drop (i+1):=by
    rw[List.drop_eq_getElem_cons (by simpa using hlt)]
    congr 1
    have:=(Array.getElem?_eq_some_iff.1 ho).2
    simpa using this
   rw[hdrop] at h
   have hw:wpOp P ops Q i (wpList P ops Q (ops.toList.drop (i+1))) a w:=by
    unfold wpOp
    simp only[ho]
    simpa[wpList] using h
   refine wpOp_mono (fun a' w' h'=>ih (i+1) _ a' w' (by omega) (by omega) (by omega) (by simp[hsz]) (fun j hj => ?_) h') hw
   by_cases hji:j=i
   ·subst hji
    simp[Array.getD_eq_getD_getElem?,show j<listed.size by omega]
   ·have:=hL j hj
    simp only[Array.getD_eq_getD_getElem?,Array.getElem?_setIfInBounds_ne (Ne.symm hji)] at this ⊢
    rw[this]
    congr 1
    simp
    omega
def Fixed:List jC→Prop
 | []=>True
 | R::l=>(∀v w w',R.r v w→R.r v w')∧Fixed l
theorem fix_nil:Fixed []:=trivial
theorem Dt {R:jC} {l:List jC} (h:∀v w w',R.r v w→R.r v w') (hl:Fixed l):Fixed (R::l):=⟨h,hl⟩
theorem Fixed.at:∀ {l:List jC},Fixed l→∀i v w w',rl l i v w→rl l i v w'
 | [],_,_,_,_,_,_=>by unfold rl;simp[anyR]
 | R::l,h,0,v,w,w',hr=>by unfold rl at hr ⊢; simpa using h.1 v w w' (by simpa using hr)
 | R::l,h,i+1,v,w,w',hr=>by
  have:=Fixed.at h.2 i v w w'
  unfold rl at hr this ⊢
  simp only[List.getD_cons_succ] at hr ⊢
  exact this hr
def aR (F:Value→Prop):jC:=⟨fun v _=>F v,fun _ _ _ _ h=>h⟩
def bY (y:Nat→Value) (i:Nat) (v:Value):Nat→Value:=fun k=>if k=i then v else y k
def Qd (ops:Array Oper) (m:Nat) (R:Nat→Value→World→Prop) (a0:Act) (J:(Nat→Bool)→(Nat→Value)→World→Prop) (listed:Array Bool) (a:Act) (w:World):Prop:=
 (∀i,m≤i→listed.getD i false=false)∧(∀i o,ops[i]?=some o→listed.getD i false=true→∀e∈o.after,listed.getD e.on false=true)∧∃y:Nat→Value,a = { a0 with tmps:=lay (fun i=>listed.getD i false) y ops.toList 0 a0.tmps }∧J (fun i=>listed.getD i false) y w∧∀i,i<ops.size→listed.getD i false=true→R i (y i) w
theorem uV (m:Nat) (hok:gW ops=true) (ht:fM ops m=true) (hmn:m≤ops.size)
 (R:Nat→Value→World→Prop) (J:(Nat→Bool)→(Nat→Value)→World→Prop) (hJ0:∀y,J (fun _=>false) y w0.drew) (hstab:∀i v w w',R i v w→R i v w')
 (hstep:∀i o,i<m→ops[i]?=some o→∀L y w,L i=false→(∀j,o.after.toList.any (fun e=>e.on==j)=true→L j=true)→J L y w→(∀j,o.after.toList.any (fun e=>e.on==j)=true→R j (y j) w) →
 if Region.wanted o (yielded ops (lay (fun _=>true) y ops.toList 0 a0.tmps))=true then Gives P o { a0 with tmps:=lay (fun _=>true) y ops.toList 0 a0.tmps } w (fun v w'=>J (bL L i) (bY y i v) w'∧R i v w') else J (bL L i) (bY y i undef) w∧R i undef w)
 (hend:∀y w,J (fun i=>decide (i<m)) y w→(∀i,i<m→R i (y i) w)→wpList P ops Q (ops.toList.drop m) { a0 with tmps:=lay (fun i=>decide (i<m)) y ops.toList 0 a0.tmps } w) :
  wpAny P .any ops Q ops.size (Array.replicate ops.size false) a0 w0.drew:=by
 have hall:∀(fuel:Nat) (listed:Array Bool) (a:Act) (w:World),listed.size=ops.size→listed.toList.countP (!·)≤fuel→Qd ops m R a0 J listed a w→wpAny P .any ops Q fuel listed a w:=by
  intro fuel
  induction fuel with
  | zero=>
   intro listed a w hsz hc hA
   have hl:∀i,i<ops.size→listed.getD i false=true:=by
    intro i hlt
    have h0:listed.toList.countP (!·)=0:=by omega
    have:=List.countP_eq_zero.1 h0 (listed[i]'(by omega)) (by simp)
    simpa[Array.getD_eq_getD_getElem?,show i<listed.size by omega] using this
   obtain⟨hno,hcl,y,ha,hb,hR⟩:=hA
   have hmn' : m=ops.size:=by
    rcases Nat.lt_or_ge m ops.size with h|h
    ·have h1:=hl m h
     rw[hno m (Nat.le_refl _)] at h1
     cases h1
    ·omega
   refine oO (m:=m) hok ht 0 ops.size listed a w (by omega) (Nat.le_refl _) (by omega) hsz (fun i hi=>by rw[hl i hi];simp[hi]) ?_
   have hfe:(fun i=>listed.getD i false)=fun i=>decide (i<m):=by
    funext i
    by_cases hi:i<m
    ·rw[hl i (by omega)];simp[hi]
    ·rw[hno i (by omega)];simp[hi]
   rw[hfe] at hb
   have:=hend y w hb fun i hi=>hR i (by omega) (hl i (by omega))
   rw[ha,mr (fun i=>listed.getD i false) (fun i=>decide (i<m)) y ops.toList 0 a0.tmps (fun k hk=>by
    have hk' : k<ops.size:=by simpa using hk
    simp only[Nat.zero_add]
    rw[hl k hk']
    simp;omega)]
   rw[hmn'] at this ⊢
   exact this
  | succ fuel ih=>
   intro listed a w hsz hc hA
   by_cases hfull:∀i,i<m→listed.getD i false=true
   ·obtain⟨hno,hcl,y,ha,hb,hR⟩:=hA
    have hL:∀i,i<ops.size→listed.getD i false=decide (i<m):=by
     intro i hi
     by_cases him:i<m
     ·rw[hfull i him];simp[him]
     ·rw[hno i (by omega)];simp[him]
    have hcount:ops.size-m≤fuel+1:=by
     have h1:listed.toList.countP (!·)=ops.size-m:=by
      have e:listed.toList=List.replicate m true++List.replicate (ops.size-m) false:=by
       apply List.ext_getElem?
       intro i
       by_cases hi:i<ops.size
       ·have h2:=hL i hi
        rw[Array.getElem?_toList,Array.getElem?_eq_getElem (show i<listed.size by omega)]
        simp only[Array.getD_eq_getD_getElem?,Array.getElem?_eq_getElem (show i<listed.size by omega),Option.getD_some] at h2
        rw[h2]
        by_cases him:i<m
        ·rw[List.getElem?_append_left (by simpa using him)]
         simp[him]
        ·rw[List.getElem?_append_right (by simp;omega)]
         rw[List.length_replicate,List.getElem?_replicate,if_pos (by omega)]
         simp[him]
       ·rw[List.getElem?_eq_none (by simp;omega),List.getElem?_eq_none (by simp;omega)]
      rw[e]
      simp[List.countP_append,List.countP_replicate]
     omega
    refine oO (m:=m) hok ht (fuel+1) m listed a w (Nat.le_refl _) hmn hcount hsz hL ?_
    have hfe:(fun i=>listed.getD i false)=fun i=>decide (i<m):=by
     funext i
     by_cases hi:i<m
     ·rw[hfull i hi];simp[hi]
     ·rw[hno i (by omega)];simp[hi]
    rw[hfe] at hb
    have:=hend y w hb fun i hi=>hR i (by omega) (hfull i hi)
    rw[ha,mr (fun i=>listed.getD i false) (fun i=>decide (i<m)) y ops.toList 0 a0.tmps (fun k hk=>by
     simp only[Nat.zero_add]
     exact hL k (by simpa using hk))]
    exact this
   ·have hready0:Region.ready .any ops listed≠[]:=by
     intro hready
     apply hfull
     intro i
     induction i using Nat.strongRecOn with
     | ind i ih'=>
      intro him
      by_cases hc' : listed.getD i false=true
      ·exact hc'
      ·exfalso
       have hi:i<ops.size:=by omega
       have hmem:i∈Region.ready .any ops listed:=by
        rw[mem_ready]
        refine⟨?_,ops[i],by simp[hi],fun e he _ => ?_⟩
        ·simpa[Array.getD_eq_getD_getElem?,show i<listed.size by omega] using hc'
        ·have:=(dV hok (i:=i) (o:=ops[i]) (by simp[hi])).2.1 e he
         exact ih' e.on this.2 (by omega)
       rw[hready] at hmem
       cases hmem
    refine⟨fun h=>absurd h hready0,fun i hi => ?_⟩
    obtain⟨h1,o,ho,hdeps⟩:=mem_ready.1 hi
    have hlt:i<ops.size:=(Array.getElem?_eq_some_iff.1 ho).1
    obtain⟨hsel,hbinds,_⟩:=dV hok ho
    have hL:∀e∈o.after,listed.getD e.on false=true:=fun e he=>hdeps e he (hbinds e he).1
    have him:i<m:=by
     rcases Nat.lt_or_ge i m with h|h
     ·exact h
     ·exfalso
      apply hfull
      intro j hj
      exact pU ht hA.2.1 ho hL h j (by omega)
    obtain⟨hno,hcl,y,ha,hb,hR⟩:=hA
    have hnext:∀v w',J (bL (fun i=>listed.getD i false) i) (bY y i v) w'→R i v w'→wpAny P .any ops Q fuel (listed.setIfInBounds i true) (a.put o.dst v) w':=by
     intro v w' hbw hv
     have hfe:bL (fun i=>listed.getD i false) i=fun k=>(listed.setIfInBounds i true).getD k false:=by
      funext k
      unfold bL
      by_cases hki:k=i
      ·subst hki
       simp[Array.getD_eq_getD_getElem?,show k<listed.size by omega]
      ·rw[if_neg hki]
       simp[Array.getD_eq_getD_getElem?,Array.getElem?_setIfInBounds_ne (Ne.symm hki)]
     rw[hfe] at hbw
     refine ih _ _ _ (by simp[hsz]) ?_ ⟨fun k hk => ?_,fun k o' ho' hk e he => ?_,fun k=>if k=i then v else y k,?_,hbw,?_⟩
     ·have hil:i<listed.toList.length:=by simp;omega
      have hfalse:listed.toList[i]=false:=by
       simpa[Array.getD_eq_getD_getElem?,show i<listed.size by omega] using h1
      have:=List.countP_set (p:=(!·)) (l:=listed.toList) (i:=i) (a:=true) hil
      rw[hfalse] at this
      have hpos:0<listed.toList.countP (!·):=List.countP_pos_iff.2 ⟨listed.toList[i],List.getElem_mem hil,by rw[hfalse];rfl⟩
      simp only[Array.toList_setIfInBounds]
      simp only[Bool.not_false,Bool.not_true,if_true,Bool.false_eq_true,if_false] at this
      omega
     ·have:=hno k hk
      simp only[Array.getD_eq_getD_getElem?,Array.getElem?_setIfInBounds_ne (show i≠k by omega)] at this ⊢
      exact this
     ·have up:∀q,listed.getD q false=true→(listed.setIfInBounds i true).getD q false=true:=by
       intro q hq
       by_cases hqi:q=i
       ·subst hqi;simp[Array.getD_eq_getD_getElem?,show q<listed.size by omega]
       ·simpa[Array.getD_eq_getD_getElem?,Array.getElem?_setIfInBounds_ne (Ne.symm hqi)] using hq
      apply up
      by_cases hki:k=i
      ·subst hki
       rw[ho] at ho'
       cases ho'
       exact hL e he
      ·exact hcl k o' ho' (by simpa[Array.getD_eq_getD_getElem?,Array.getElem?_setIfInBounds_ne (Ne.symm hki)] using hk) e he
     ·rw[ha,Bn hok ho hsz v]
     ·intro k hk hLk
      by_cases hki:k=i
      ·subst hki;simpa using hv
      ·have:listed.getD k false=true:=by
        simpa[Array.getD_eq_getD_getElem?,Array.getElem?_setIfInBounds_ne (Ne.symm hki)] using hLk
       simp only[hki,if_false]
       exact hstab _ _ _ _ (hR k hk this)
    have heval:∀t∈o.looksAt ops,a.tmps[t]?=(lay (fun _=>true) y ops.toList 0 a0.tmps)[t]?:=fun t ht=>by
     rw[ha];exact vk hok ho hL t ht
    have hexec:execOp a.eval o=execOp ({ a0 with tmps:=lay (fun _=>true) y ops.toList 0 a0.tmps }:Act).eval o:=by
     refine execOp_congr o hsel fun x hx => ?_
     cases x with
     | tmp t=>
      have:=heval t (List.mem_append_left _ (List.mem_filterMap.2 ⟨.tmp t,by simpa using hx,rfl⟩))
      simp[Act.eval,this]
     | _=>rfl
    have hwant:Region.wanted o (yielded ops a.tmps)=Region.wanted o (yielded ops (lay (fun _=>true) y ops.toList 0 a0.tmps)):=by
     unfold Region.wanted
     cases hg:o.guard with
     | none=>rfl
     | some gw=>
      obtain⟨g,want⟩:=gw
      have:yielded ops a.tmps g=yielded ops (lay (fun _=>true) y ops.toList 0 a0.tmps) g:=by
       unfold yielded
       cases hd:(ops[g]?).bind (·.dst) with
       | none=>rfl
       | some t=>
        have:=heval t (List.mem_append_right _ (by simp[hg,hd]))
        simp[this]
      simp only[this]
    have hs:=hstep i o him ho (fun i=>listed.getD i false) y w (by simpa[Array.getD_eq_getD_getElem?,show i<listed.size by omega] using h1) (fun j hj=>by
     obtain⟨e,he,hej⟩:=List.any_eq_true.1 hj
     have hej' : e.on=j:=by simpa using hej
     subst hej'
     exact hL e (Array.mem_toList_iff.1 he)) hb (fun j hj=>by
     obtain⟨e,he,hej⟩:=List.any_eq_true.1 hj
     have hej' : e.on=j:=by simpa using hej
     subst hej'
     have he':=Array.mem_toList_iff.1 he
     exact hR e.on (by have:=(hbinds e he').2;omega) (hL e he'))
    by_cases hwt:Region.wanted o (yielded ops (lay (fun _=>true) y ops.toList 0 a0.tmps))=true
    ·rw[if_pos hwt] at hs
     exact mP ho (by rw[hwant];exact hwt) hexec hs fun v w' h=>hnext v w' h.1 h.2
    ·rw[if_neg hwt] at hs
     unfold wpOp
     simp only[ho]
     rw[if_neg (by rw[hwant];exact hwt)]
     exact hnext undef w hs.1 hs.2
 refine hall ops.size _ _ _ (by simp) ?_ ⟨fun i _ => ?_,fun i o' ho' hi => ?_,fun _=>undef,?_,?_,?_⟩
 ·simpa using List.countP_le_length (p:=(!·)) (l:=List.replicate ops.size false)
 ·simp[Array.getD_eq_getD_getElem?,Array.getElem?_replicate];split<;>rfl
 ·exfalso
  have:i<ops.size:=(Array.getElem?_eq_some_iff.1 ho').1
  simp[Array.getD_eq_getD_getElem?,this] at hi
 ·have e:lay (fun i=>(Array.replicate ops.size false).getD i false) (fun _=>undef) ops.toList 0 a0.tmps=a0.tmps:=by
   apply Array.ext_getElem?
   intro s
   exact fU _ _ s _ 0 _ fun k o' hk hd=>by simp[Array.getD_eq_getD_getElem?,Array.getElem?_replicate];split<;>rfl
  rw[e]
 ·have e:(fun i=>(Array.replicate ops.size false).getD i false)=fun _=>false:=by
   funext i
   simp[Array.getD_eq_getD_getElem?,Array.getElem?_replicate];split<;>rfl
  rw[e]
  exact hJ0 _
 ·intro i hi hL
  simp[Array.getD_eq_getD_getElem?,hi] at hL
def jJ (P:Program) (ops:Array Oper) (a0:Act) (J:(Nat→Bool)→(Nat→Value)→World→Prop) (l:List jC) (i:Nat) (o:Oper):Prop:=
 ∀(ρ:Operand→Value) (y:Nat→Value) (w:World) (L:Nat→Bool),(∀t j,writer ops t=some j→ρ (.tmp t)=y j)→(∀x,(match x with | .tmp t=>writer ops t=none | _=>True)→ρ x=a0.eval x) →
  L i=false→(∀j,o.after.toList.any (fun e=>e.on==j)=true→L j=true)→J L y w→(∀j,o.after.toList.any (fun e=>e.on==j)=true→rl l j (y j) w) →
  if Region.wanted o (eO ρ ops)=true then cB P o ρ w (fun v w'=>J (bL L i) (bY y i v) w'∧rl l i v w') else J (bL L i) (bY y i undef) w∧rl l i undef w
theorem zS (m:Nat) (l:List jC) (J:(Nat→Bool)→(Nat→Value)→World→Prop) (hst:∀L y w w',Below w.heap.size w w'→J L y w→J L y w') (hJ0:∀y,J (fun _=>false) y w0) (hfix:Fixed l) (hok:gW ops=true) (ht:fM ops m=true) (hmn:m≤ops.size)
 (n:Nat) (hn:a0.tmps.size=n) (hsz:iH ops n=true)
 (hstep:aQ (jJ P ops a0 J l) 0 (ops.toList.take m))
 (hend:∀y w,J (fun i=>decide (i<m)) y w→(∀i,i<m→rl l i (y i) w)→wpList P ops Q (ops.toList.drop m) { a0 with tmps:=lay (fun i=>decide (i<m)) y ops.toList 0 a0.tmps } w) :
  wpAny P .any ops Q ops.size (Array.replicate ops.size false) a0 w0.drew:=by
 refine uV m hok ht hmn (rl l) J (fun y=>hst _ y w0 w0.drew ⟨rfl,rfl,rfl,Nat.le_refl _,fun _ _=>rfl⟩ (hJ0 y)) (fun i v w w' h=>hfix.at i v w w' h) (fun i o him hi L y w hLi hLd hb hd => ?_) hend
 have hwr:∀t j,writer ops t=some j→({ a0 with tmps:=lay (fun _=>true) y ops.toList 0 a0.tmps }:Act).eval (.tmp t)=y j:=by
  intro t j hw
  unfold writer at hw
  have h1:=List.find?_some hw
  have h2:=List.mem_range.1 (List.mem_of_find?_eq_some hw)
  cases ho:ops[j]? with
  | none=>simp[ho] at h1
  | some p=>
   have hd' : p.dst=some t:=by simpa[ho] using h1
   have hlt:t<a0.tmps.size:=by
    have:=List.all_eq_true.1 hsz p (Array.mem_toList_iff.2 (Array.mem_of_getElem? ho))
    rw[hn]
    simpa[hd'] using this
   have hu:∀k' o',ops.toList[k']?=some o'→o'.dst=some t→k' = j:=by
    intro k' o' hk' hdk
    rcases ((dV hok (i:=k') (o:=o') (by simpa using hk')).2.2 j p t ho hd').1 with h|h
    ·exact h
    ·exact absurd hdk h
   have:=jg (fun _=>true) y t ops.toList 0 a0.tmps j p (by simpa using ho) hd' rfl hu hlt
   simp[Act.eval,this]
 have hno:∀x,(match x with | .tmp t=>writer ops t=none | _=>True)→({ a0 with tmps:=lay (fun _=>true) y ops.toList 0 a0.tmps }:Act).eval x=a0.eval x:=by
  intro x hx
  cases x with
  | tmp t=>
   have:(lay (fun _=>true) y ops.toList 0 a0.tmps)[t]?=a0.tmps[t]?:=by
    refine fU _ y t _ 0 _ fun k o' hk hd' => ?_
    exfalso
    simp only[writer] at hx
    have hk' : ops[k]?=some o':=by simpa using hk
    have hklt:k<ops.size:=(Array.getElem?_eq_some_iff.1 hk').1
    have:=List.find?_eq_none.1 hx k (List.mem_range.2 hklt)
    simp[hk',hd'] at this
   simp[Act.eval,this]
  | _=>rfl
 have hsays:Region.wanted o (yielded ops (lay (fun _=>true) y ops.toList 0 a0.tmps))=Region.wanted o (eO ({ a0 with tmps:=lay (fun _=>true) y ops.toList 0 a0.tmps }:Act).eval ops):=by
  congr 1
  funext g
  unfold yielded eO
  cases (ops[g]?).bind (·.dst) with
  | none=>rfl
  | some d=>
   simp only[Option.bind_some,Act.eval,Array.getD_eq_getD_getElem?]
   generalize (lay (fun _=>true) y ops.toList 0 a0.tmps)[d]?=q
   cases q with
   | none=>rfl
   | some v=>cases v<;>rfl
 have hi' : (ops.toList.take m)[i]?=some o:=by rw[List.getElem?_take,if_pos him];simpa using hi
 have:=aQ.at hstep i o hi' _ y w L hwr hno (by rw[Nat.zero_add];exact hLi) hLd hb hd
 rw[Nat.zero_add] at this
 rw[hsays]
 exact this
theorem Lb (m:Nat) (l:List jC) (J:(Nat→Bool)→(Nat→Value)→World→Prop) (hst:∀L y w w',Below w.heap.size w w'→J L y w→J L y w') (hJ0:∀y,J (fun _=>false) y w0) (hfix:Fixed l) (hm:P.follows .mixedOrders=true) (hok:gW ops=true) (ht:fM ops m=true) (hmn:m≤ops.size)
 (n:Nat) (hn:a0.tmps.size=n) (hsz:iH ops n=true)
 (hstep:aQ (jJ P ops a0 J l) 0 (ops.toList.take m))
 (hend:∀y w,J (fun i=>decide (i<m)) y w→(∀i,i<m→rl l i (y i) w)→wpList P ops Q (ops.toList.drop m) { a0 with tmps:=lay (fun i=>decide (i<m)) y ops.toList 0 a0.tmps } w) :
  (Code.region id ops true).wp P Q a0 w0:=
 wp_region_any hm (zS m l J hst hJ0 hfix hok ht hmn n hn hsz hstep hend)
theorem bS {w:World} {l:List jC} {J:(Nat→Bool)→(Nat→Value)→World→Prop} (hst:∀L y w w',Below w.heap.size w w'→J L y w→J L y w')
 (hpure:∀v w,J L y w→J (bL L i) (bY y i v) w) (hJ:J L y w)
 (h:if Region.wanted o (eO ρ ops)=true then cB P o ρ w (fun v w'=>Below w.heap.size w w'∧rl l i v w') else rl l i undef w) :
  if Region.wanted o (eO ρ ops)=true then cB P o ρ w (fun v w'=>J (bL L i) (bY y i v) w'∧rl l i v w') else J (bL L i) (bY y i undef) w∧rl l i undef w:=by
 split at h
 ·rename_i hw
  rw[if_pos hw]
  unfold cB at h ⊢
  split at h
  ·exact⟨hpure _ _ (hst _ _ _ _ h.1 hJ),h.2⟩
  ·exact⟨hpure _ _ (hst _ _ _ _ h.1 hJ),h.2⟩
  ·refine Calls.mono h fun e w'' he => ?_
   cases e with
   | returned v=>exact⟨hpure _ _ (hst _ _ _ _ he.1 hJ),he.2⟩
   | panicked c=>exact he.elim
   | outgrown=>exact he.elim
  ·exact h.elim
 ·rename_i hw
  rw[if_neg hw]
  exact⟨hpure _ _ hJ,h⟩
theorem ed {w:World} {l:List jC} {J:(Nat→Bool)→(Nat→Value)→World→Prop} (f:FuncId) (args:Array Value) (hw:Region.wanted o (eO ρ ops)=true) (hrun:(execOp ρ o).run P w = .ok (.enter f args) w)
 (hc:Calls P f args w fun e w' => ∃v,e = .returned v∧J (bL L i) (bY y i v) w'∧rl l i v w') :
  if Region.wanted o (eO ρ ops)=true then cB P o ρ w (fun v w'=>J (bL L i) (bY y i v) w'∧rl l i v w') else J (bL L i) (bY y i undef) w∧rl l i undef w:=by
 rw[if_pos hw]
 unfold cB
 rw[hrun]
 refine hc.mono fun e w' ⟨v,he,h⟩ => ?_
 subst he
 exact h
theorem bO {w:World} {l:List jC} {J:(Nat→Bool)→(Nat→Value)→World→Prop} (v:Value) (hw:Region.wanted o (eO ρ ops)=true) (hrun:(execOp ρ o).run P w = .ok (.value v) w')
 (hJ:J (bL L i) (bY y i v) w') (hR:rl l i v w') :
  if Region.wanted o (eO ρ ops)=true then cB P o ρ w (fun v w'=>J (bL L i) (bY y i v) w'∧rl l i v w') else J (bL L i) (bY y i undef) w∧rl l i undef w:=by
 rw[if_pos hw]
 unfold cB
 rw[hrun]
 exact⟨hJ,hR⟩
theorem yX {a:Act} {w:World} {F G:Value→World→Prop} (h:Gives P o a w F) (hi:∀v w',F v w'→G v w'):Gives P o a w G:=by
 unfold Gives at h ⊢
 generalize (execOp a.eval o).run P w=r at h
 cases r with
 | ok n w'=>
  cases n<;>first
   | exact hi _ _ h
   | exact Calls.mono h fun e w'' he=>by cases e<;>first | exact hi _ _ he | exact he
   | exact h
 | halt x w'=>exact h
theorem Gv {R R' : Nat→Value→Prop} (h:∀k,L k=true→R k (y k)) (hv:R' i v) (hs:∀k v,R k v→R' k v) (k:Nat) (hk:bL L i k=true):R' k (bY y i v k):=by
 unfold bL at hk
 unfold bY
 by_cases e:k=i
 ·rw[if_pos e,e];exact hv
 ·rw[if_neg e] at hk ⊢
  exact hs _ _ (h k hk)
theorem wK (m:Nat) (hm:P.follows .mixedOrders=true) (hok:gW ops=true) (ht:fM ops m=true) (hmn:m≤ops.size)
 (R:Nat→Value→World→Prop) (hstab:∀i v w w',Below w.heap.size w w'→R i v w→R i v w')
 (hstep:∀i o,i<m→ops[i]?=some o→∀y w,Below w0.heap.size w0 w→(∀j,o.after.toList.any (fun e=>e.on==j)=true→R j (y j) w) →
 if Region.wanted o (yielded ops (lay (fun _=>true) y ops.toList 0 a0.tmps))=true then Gives P o { a0 with tmps:=lay (fun _=>true) y ops.toList 0 a0.tmps } w (fun v w'=>Below w.heap.size w w'∧R i v w') else R i undef w)
 (hend:∀y w,Below w0.heap.size w0 w→(∀i,i<m→R i (y i) w)→wpList P ops Q (ops.toList.drop m) { a0 with tmps:=lay (fun i=>decide (i<m)) y ops.toList 0 a0.tmps } w) :
  (Code.region id ops true).wp P Q a0 w0:=
 wp_region_any hm (uV m hok ht hmn (fun _ _ _=>True) (fun L y w=>Below w0.heap.size w0 w∧∀i,L i=true→R i (y i) w) (fun y=>⟨⟨rfl,rfl,rfl,Nat.le_refl _,fun _ _=>rfl⟩,fun i h=>(by cases h)⟩) (fun _ _ _ _ _=>trivial) (fun i o hi ho L y w hL hd hJ _=>by
  have h:=hstep i o hi ho y w hJ.1 (fun j hj=>hJ.2 j (hd j hj))
  have hup:∀v w',Below w.heap.size w w'→R i v w'→Below w0.heap.size w0 w'∧∀k,bL L i k=true→R k (bY y i v k) w':=fun v w' hb hr=>⟨ag hJ.1 hb,fun k hk=>Gv hJ.2 hr (fun k v h=>hstab k v _ _ hb h) k hk⟩
  split at h
  ·rename_i hw
   rw[if_pos hw]
   exact yX h fun v w' hh=>⟨hup v w' hh.1 hh.2,trivial⟩
  ·rename_i hw
   rw[if_neg hw]
   exact⟨hup undef w (Below.refl _ _) h,trivial⟩) (fun y w hJ _=>hend y w hJ.1 fun i hi=>hJ.2 i (decide_eq_true hi)))
theorem MK (m:Nat) (l:List jC) (hm:P.follows .mixedOrders=true) (hok:gW ops=true) (ht:fM ops m=true) (hmn:m≤ops.size)
 (n:Nat) (hn:a0.tmps.size=n) (hsz:iH ops n=true)
 (hstep:aQ (kF P ops a0 w0 l) 0 (ops.toList.take m))
 (hend:∀y w,Below w0.heap.size w0 w→(∀i,i<m→rl l i (y i) w)→wpList P ops Q (ops.toList.drop m) { a0 with tmps:=lay (fun i=>decide (i<m)) y ops.toList 0 a0.tmps } w) :
  (Code.region id ops true).wp P Q a0 w0:=by
 refine wK m hm hok ht hmn (rl l) (fun i v w w' hb h=>(l.getD i anyR).st v w w' hb h) (fun i o him hi y w hb hd => ?_) hend
 have hwr:∀t j,writer ops t=some j→({ a0 with tmps:=lay (fun _=>true) y ops.toList 0 a0.tmps }:Act).eval (.tmp t)=y j:=by
  intro t j hw
  unfold writer at hw
  have h1:=List.find?_some hw
  have h2:=List.mem_range.1 (List.mem_of_find?_eq_some hw)
  cases ho:ops[j]? with
  | none=>simp[ho] at h1
  | some p=>
   have hd' : p.dst=some t:=by simpa[ho] using h1
   have hlt:t<a0.tmps.size:=by
    have:=List.all_eq_true.1 hsz p (Array.mem_toList_iff.2 (Array.mem_of_getElem? ho))
    rw[hn]
    simpa[hd'] using this
   have hu:∀k' o',ops.toList[k']?=some o'→o'.dst=some t→k' = j:=by
    intro k' o' hk' hdk
    rcases ((dV hok (i:=k') (o:=o') (by simpa using hk')).2.2 j p t ho hd').1 with h|h
    ·exact h
    ·exact absurd hdk h
   have:=jg (fun _=>true) y t ops.toList 0 a0.tmps j p (by simpa using ho) hd' rfl hu hlt
   simp[Act.eval,this]
 have hno:∀x,(match x with | .tmp t=>writer ops t=none | _=>True)→({ a0 with tmps:=lay (fun _=>true) y ops.toList 0 a0.tmps }:Act).eval x=a0.eval x:=by
  intro x hx
  cases x with
  | tmp t=>
   have:(lay (fun _=>true) y ops.toList 0 a0.tmps)[t]?=a0.tmps[t]?:=by
    refine fU _ y t _ 0 _ fun k o' hk hd' => ?_
    exfalso
    simp only[writer] at hx
    have hk' : ops[k]?=some o':=by simpa using hk
    have hklt:k<ops.size:=(Array.getElem?_eq_some_iff.1 hk').1
    have:=List.find?_eq_none.1 hx k (List.mem_range.2 hklt)
    simp[hk',hd'] at this
   simp[Act.eval,this]
  | _=>rfl
 have hsays:Region.wanted o (yielded ops (lay (fun _=>true) y ops.toList 0 a0.tmps))=Region.wanted o (eO ({ a0 with tmps:=lay (fun _=>true) y ops.toList 0 a0.tmps }:Act).eval ops):=by
  congr 1
  funext g
  unfold yielded eO
  cases (ops[g]?).bind (·.dst) with
  | none=>rfl
  | some d=>
   simp only[Option.bind_some,Act.eval,Array.getD_eq_getD_getElem?]
   generalize (lay (fun _=>true) y ops.toList 0 a0.tmps)[d]?=q
   cases q with
   | none=>rfl
   | some v=>cases v<;>rfl
 have hi' : (ops.toList.take m)[i]?=some o:=by rw[List.getElem?_take,if_pos him];simpa using hi
 have:=aQ.at hstep i o hi' _ y w hwr hno hb hd
 rw[Nat.zero_add] at this
 rw[hsays]
 exact this
inductive RV where
 | v (V:Value)
 | r (i:Nat) (R:jC)
def RV.R:RV→jC
 | .v V=>oK V
 | .r _ R=>R
def rvs:List RV→List jC
 | []=>[]
 | a::l=>a.R::rvs l
def rvN:RV:=.r 0 anyR
theorem rvs_at:∀(l:List RV) (i:Nat),(rvs l).getD i anyR=(l.getD i rvN).R
 | [],_=>rfl
 | _::_,0=>rfl
 | _::l,i+1=>by
  have:=rvs_at l i
  simpa[rvs] using this
theorem DK {l:List RV} {w:World} (hr:l.getD i rvN = .v V) (e:v=V):rl (rvs l) i v w:=by
 unfold rl
 rw[rvs_at,hr]
 exact e
def rvK:List RV→Nat→Option Value
 | .v V::_,0=>some V
 | _::l,k+1=>rvK l k
 | _,_=>none
theorem rvK_at:∀ {l:List RV} {k:Nat} {V:Value},rvK l k=some V→l.getD k rvN = .v V
 | .v V::_,0,_,h=>by cases h;rfl
 | .v _::l,k+1,_,h=>by simpa using rvK_at (l:=l) (k:=k) h
 | .r _ _::l,k+1,_,h=>by simpa using rvK_at (l:=l) (k:=k) h
 | .r _ _::_,0,_,h=>by cases h
 | [],0,_,h=>by cases h
 | [],_+1,_,h=>by cases h
def kt (ops:Array Oper) (a0:Act) (l:List RV) (o:Oper) (t:Nat):Option Value:=
 match writer ops t with
 | some k=>cond (o.after.toList.any fun e=>e.on==k) (rvK l k) none
 | none=>a0.tmps.toList[t]?
def kx (ops:Array Oper) (a0:Act) (l:List RV) (o:Oper):Operand→Option Value
 | .tmp t=>kt ops a0 l o t
 | .const v=>some v
 | .func f=>some (.func (.func f) #[] #[])
 | .global g=>some (.pointer (some ⟨g,0,none⟩))
def kg (ops:Array Oper) (a0:Act) (l:List RV) (o:Oper):Option Bool:=
 match o.guard with
 | none=>some true
 | some (g,want)=>match (ops[g]?).bind (·.dst) with
  | none=>none
  | some d=>match kt ops a0 l o d with
   | some (.bool b)=>some (b==want)
   | some (.tuple _)=>some false
   | _=>none
def Qo (ops:Array Oper) (a0:Act) (l:List RV) (o:Oper):Option Value:=
 match o.op with
 | .move x=>kx ops a0 l o x
 | .assign x=>kx ops a0 l o x
 | .nilCheck x=>match kx ops a0 l o x with
  | some (.pointer (some a))=>some (.pointer (some a))
  | _=>none
 | .unOp .not _ x=>match kx ops a0 l o x with
  | some (.bool true)=>some (.bool false)
  | some (.bool false)=>some (.bool true)
  | _=>none
 | .pick c x y=>match kx ops a0 l o c with
  | some (.bool true)=>kx ops a0 l o x
  | some (.bool false)=>kx ops a0 l o y
  | _=>none
 | _=>none
def ks (ops:Array Oper) (a0:Act) (l:List RV) (o:Oper):Option Value:=
 match kg ops a0 l o with
 | some true=>Qo ops a0 l o
 | some false=>some undef
 | none=>none
section
variable {P:Program} {ops:Array Oper} {a0:Act} {w0:World} {l:List RV} {i:Nat} {o:Oper}
def Kn (ops:Array Oper) (a0:Act) (l:List RV) (o:Oper) (ρ:Operand→Value) (y:Nat→Value) (w:World):Prop:=
 (∀t j,writer ops t=some j→ρ (.tmp t)=y j)∧(∀x,(match x with | .tmp t=>writer ops t=none | _=>True)→ρ x=a0.eval x)∧∀j,o.after.toList.any (fun e=>e.on==j)=true→rl (rvs l) j (y j) w
theorem OL {t:Nat} (h:kt ops a0 l o t=some v) {w:World} (hk:Kn ops a0 l o ρ y w):ρ (.tmp t)=v:=by
 unfold kt at h
 cases hw:writer ops t with
 | none=>
  rw[hw] at h
  have h' : a0.tmps.toList[t]?=some v:=h
  rw[hk.2.1 (.tmp t) hw]
  simp only[Array.getElem?_toList] at h'
  simp[Act.eval,h']
 | some k=>
  rw[hw] at h
  have h' : cond (o.after.toList.any fun e=>e.on==k) (rvK l k) none=some v:=h
  cases ha:o.after.toList.any fun e=>e.on==k with
  | false=>rw[ha] at h'; cases h'
  | true=>
   rw[ha] at h'
   have h1:=hk.2.2 k ha
   unfold rl at h1
   rw[rvs_at,rvK_at h'] at h1
   exact (hk.1 t k hw).trans h1
theorem aF (h:kx ops a0 l o x=some v) {w:World} (hk:Kn ops a0 l o ρ y w):ρ x=v:=by
 cases x with
 | tmp t=>exact OL h hk
 | const c=>rw[hk.2.1 (.const c) trivial];cases h;rfl
 | func f=>rw[hk.2.1 (.func f) trivial];cases h;rfl
 | global g=>rw[hk.2.1 (.global g) trivial];cases h;rfl
theorem yN {b:Bool} (h:kg ops a0 l o=some b) {w:World} (hk:Kn ops a0 l o ρ y w):Region.wanted o (eO ρ ops)=b:=by
 unfold kg at h
 unfold Region.wanted
 cases hg:o.guard with
 | none=>rw[hg] at h;cases h;rfl
 | some q=>
  obtain⟨g,want⟩:=q
  rw[hg] at h
  simp only at h
  cases hd:(ops[g]?).bind (·.dst) with
  | none=>rw[hd] at h;cases h
  | some d=>
   rw[hd] at h
   simp only at h
   cases hv:kt ops a0 l o d with
   | none=>rw[hv] at h;cases h
   | some v=>
    rw[hv] at h
    have e:=OL hv hk
    unfold eO
    simp only[hd,e]
    cases v with
    | bool c=>cases h;cases c<;>cases want<;>rfl
    | tuple c=>cases h;rfl
    | _=>cases h
def tJ (P:Program) (ops:Array Oper) (a0:Act) (l:List RV) (i:Nat) (o:Oper):Prop:=
 ∀(ρ:Operand→Value) (y:Nat→Value) (w:World),Kn ops a0 l o ρ y w→(Region.wanted o (eO ρ ops)=false∧rl (rvs l) i undef w)∨(Region.wanted o (eO ρ ops)=true∧∃v,(execOp ρ o).run P w = .ok (.value v) w∧rl (rvs l) i v w)
theorem tJ.run (hg:kg ops a0 l o=some true) (hr:l.getD i rvN = .v V) (h:∀ρ y w,Kn ops a0 l o ρ y w→(execOp ρ o).run P w = .ok (.value V) w):tJ P ops a0 l i o:=fun ρ y w hk => .inr ⟨yN hg hk,V,h ρ y w hk,DK hr rfl⟩
theorem OC (h:ks ops a0 l o=some V) (hr:l.getD i rvN = .v V):tJ P ops a0 l i o:=by
 unfold ks at h
 cases hg:kg ops a0 l o with
 | none=>rw[hg] at h;cases h
 | some b=>
  rw[hg] at h
  cases b with
  | false=>
   cases h
   exact fun ρ y w hk => .inl ⟨yN hg hk,DK hr rfl⟩
  | true=>
   have h' : Qo ops a0 l o=some V:=h
   refine tJ.run hg hr fun ρ y w hk => ?_
   unfold Qo at h'
   split at h'
   ·rename_i x ho;exact run_move (.inl ho) (aF h' hk)
   ·rename_i x ho;exact run_move (.inr ho) (aF h' hk)
   ·rename_i x ho
    split at h'
    ·rename_i a hx
     cases h'
     have e:=aF hx hk
     simp[execOp,go_sem,ho,e]
    ·cases h'
   ·rename_i t x ho
    split at h'
    ·rename_i hx;cases h'; exact wQ ho (aF hx hk)
    ·rename_i hx;cases h'; exact wQ ho (aF hx hk)
    ·cases h'
   ·rename_i c x y' ho
    split at h'
    ·rename_i hc;exact lN ho (aF hc hk) (aF h' hk)
    ·rename_i hc;exact lN ho (aF hc hk) (aF h' hk)
    ·cases h'
   ·cases h'
theorem tJ.asked (h:tJ P ops a0 l i o):kF P ops a0 w0 (rvs l) i o:=fun ρ y w hw hn _ hd=>by
 rcases h ρ y w ⟨hw,hn,hd⟩ with ⟨h1,h2⟩|⟨h1,v,h2,h3⟩
 ·exact yM h1 h2
 ·exact aj v h1 h2 h3
theorem tJ.askedQ {J:(Nat→Bool)→(Nat→Value)→World→Prop} (hst:∀L y w w',Below w.heap.size w w'→J L y w→J L y w') (hp:∀L y v w,(∀j,o.after.toList.any (fun e=>e.on==j)=true→L j=true)→J L y w→J (bL L i) (bY y i v) w) (h:tJ P ops a0 l i o):jJ P ops a0 J (rvs l) i o:=fun ρ y w L hw hn _ hLd hJ hd=>by
 rcases h ρ y w ⟨hw,hn,hd⟩ with ⟨h1,h2⟩|⟨h1,v,h2,h3⟩
 ·exact bS hst (fun v w=>hp L y v w hLd) hJ (yM h1 h2)
 ·exact bS hst (fun v w=>hp L y v w hLd) hJ (aj v h1 h2 h3)
variable {C:Nat→Oper→Prop} {r:List Oper}
theorem Kl (hC:tJ P ops a0 l i o→C i o) (h:(ks ops a0 l o).map RV.v=some (l.getD i rvN)) (hl:aQ C (i+1) r):aQ C i (o::r):=⟨hC (by
 cases hk:ks ops a0 l o with
 | none=>rw[hk] at h;cases h
 | some V=>
  rw[hk] at h
  exact OC hk (Option.some.inj h).symm),hl⟩
theorem Gk (h:(ks ops a0 l o).map RV.v=some (l.getD i rvN)) (hl:aQ (kF P ops a0 w0 (rvs l)) (i+1) r):aQ (kF P ops a0 w0 (rvs l)) i (o::r):=Kl tJ.asked h hl
def PI (ops:Array Oper) (a0:Act) (l:List RV) (o:Oper):Option (TypeId × Value × Nat):=
 match kg ops a0 l o with
 | some true=>match o.op with
  | .fieldAddr t x f=>(kx ops a0 l o x).map fun v=>(t,v,f)
  | _=>none
 | _=>none
theorem EJ (hC:tJ P ops a0 l i o→C i o) (b k:Nat) (h:PI ops a0 l o=some (t,v,f)) (hr:l.getD i rvN = .v (.pointer (some ⟨b,k,none⟩))) (hl:aQ C (i+1) r) (hf:∀w,(Instr.fieldAt t v f).run P w = .ok (.pointer (some ⟨b,k,none⟩)) w:=by intro _;kernel_rfl):aQ C i (o::r):=by
 refine⟨hC ?_,hl⟩
 unfold PI at h
 split at h
 ·rename_i hg
  split at h
  ·rename_i t' x f' ho
   cases hx:kx ops a0 l o x with
   | none=>rw[hx] at h;cases h
   | some v'=>
    rw[hx] at h
    cases h
    exact tJ.run hg hr fun ρ y w hk=>zk ho (aF hx hk) (hf w)
  ·cases h
 ·cases h
theorem Gf (b k:Nat) (h:PI ops a0 l o=some (t,v,f)) (hr:l.getD i rvN = .v (.pointer (some ⟨b,k,none⟩))) (hl:aQ (kF P ops a0 w0 (rvs l)) (i+1) r) (hf:∀w,(Instr.fieldAt t v f).run P w = .ok (.pointer (some ⟨b,k,none⟩)) w:=by intro _;kernel_rfl):aQ (kF P ops a0 w0 (rvs l)) i (o::r):=EJ tJ.asked b k h hr hl hf
theorem Mt (hC:tJ P ops a0 l i o→C i o) (hg:kg ops a0 l o=some true) (ho:o.op = .call { callee:=.builtin .len,args:=#[x],argTypes:=#[t] }) (hx:kx ops a0 l o x=some (.slice a n c)) (hr:l.getD i rvN = .v (.int .i64 n)) (hl:aQ C (i+1) r) (ht:P.underlying t=some (.slice (P.elem t)):=by rfl):aQ C i (o::r):=
 ⟨hC (tJ.run hg hr fun ρ y w hk=>CL ho (aF hx hk) ht),hl⟩
theorem Gn (hg:kg ops a0 l o=some true) (ho:o.op = .call { callee:=.builtin .len,args:=#[x],argTypes:=#[t] }) (hx:kx ops a0 l o x=some (.slice a n c)) (hr:l.getD i rvN = .v (.int .i64 n)) (hl:aQ (kF P ops a0 w0 (rvs l)) (i+1) r) (ht:P.underlying t=some (.slice (P.elem t)):=by rfl):aQ (kF P ops a0 w0 (rvs l)) i (o::r):=Mt tJ.asked hg ho hx hr hl ht
theorem MI (hC:tJ P ops a0 l i o→C i o) (V:Value) {op:BinOp} {y:Operand} (hr:∀w,(do eqGuard op t x y vx vy;binOp op t vx vy:Sem Value).run P w = .ok V w) (hg:kg ops a0 l o=some true) (ho:o.op = .binOp op t x y t') (hx:kx ops a0 l o x=some vx) (hy:kx ops a0 l o y=some vy) (hv:l.getD i rvN = .v V) (hl:aQ C (i+1) r):aQ C i (o::r):=
 ⟨hC (tJ.run hg hv fun ρ y w hk=>lH ho (aF hx hk) (aF hy hk) (hr w)),hl⟩
theorem Gb (V:Value) {op:BinOp} {y:Operand} (hr:∀w,(do eqGuard op t x y vx vy;binOp op t vx vy:Sem Value).run P w = .ok V w) (hg:kg ops a0 l o=some true) (ho:o.op = .binOp op t x y t') (hx:kx ops a0 l o x=some vx) (hy:kx ops a0 l o y=some vy) (hv:l.getD i rvN = .v V) (hl:aQ (kF P ops a0 w0 (rvs l)) (i+1) r):aQ (kF P ops a0 w0 (rvs l)) i (o::r):=MI tJ.asked V hr hg ho hx hy hv hl
theorem OZ (hC:tJ P ops a0 l i o→C i o) (V:Value) (h:∀ρ y w,Kn ops a0 l o ρ y w→(execOp ρ o).run P w = .ok (.value V) w) (hg:kg ops a0 l o=some true) (hv:l.getD i rvN = .v V) (hl:aQ C (i+1) r):aQ C i (o::r):=⟨hC (tJ.run hg hv h),hl⟩
section
variable {J:(Nat→Bool)→(Nat→Value)→World→Prop}
theorem Qk (hst:∀L y w w',Below w.heap.size w w'→J L y w→J L y w') (h:(ks ops a0 l o).map RV.v=some (l.getD i rvN)) (hl:aQ (jJ P ops a0 J (rvs l)) (i+1) r) (hp:∀L y v w,(∀j,o.after.toList.any (fun e=>e.on==j)=true→L j=true)→J L y w→J (bL L i) (bY y i v) w:=by intro _ _ _ _ _ h;exact h):aQ (jJ P ops a0 J (rvs l)) i (o::r):=Kl (tJ.askedQ hst hp) h hl
theorem Qf (hst:∀L y w w',Below w.heap.size w w'→J L y w→J L y w') (b k:Nat) (h:PI ops a0 l o=some (t,v,f)) (hr:l.getD i rvN = .v (.pointer (some ⟨b,k,none⟩))) (hl:aQ (jJ P ops a0 J (rvs l)) (i+1) r) (hp:∀L y v w,(∀j,o.after.toList.any (fun e=>e.on==j)=true→L j=true)→J L y w→J (bL L i) (bY y i v) w:=by intro _ _ _ _ _ h;exact h) (hf:∀w,(Instr.fieldAt t v f).run P w = .ok (.pointer (some ⟨b,k,none⟩)) w:=by intro _;kernel_rfl):aQ (jJ P ops a0 J (rvs l)) i (o::r):=EJ (tJ.askedQ hst hp) b k h hr hl hf
theorem Qn (hst:∀L y w w',Below w.heap.size w w'→J L y w→J L y w') (hg:kg ops a0 l o=some true) (ho:o.op = .call { callee:=.builtin .len,args:=#[x],argTypes:=#[t] }) (hx:kx ops a0 l o x=some (.slice a n c)) (hr:l.getD i rvN = .v (.int .i64 n)) (hl:aQ (jJ P ops a0 J (rvs l)) (i+1) r) (hp:∀L y v w,(∀j,o.after.toList.any (fun e=>e.on==j)=true→L j=true)→J L y w→J (bL L i) (bY y i v) w:=by intro _ _ _ _ _ h;exact h) (ht:P.underlying t=some (.slice (P.elem t)):=by rfl):aQ (jJ P ops a0 J (rvs l)) i (o::r):=Mt (tJ.askedQ hst hp) hg ho hx hr hl ht
theorem Qb (hst:∀L y w w',Below w.heap.size w w'→J L y w→J L y w') (V:Value) {op:BinOp} {y:Operand} (hr:∀w,(do eqGuard op t x y vx vy;binOp op t vx vy:Sem Value).run P w = .ok V w) (hg:kg ops a0 l o=some true) (ho:o.op = .binOp op t x y t') (hx:kx ops a0 l o x=some vx) (hy:kx ops a0 l o y=some vy) (hv:l.getD i rvN = .v V) (hl:aQ (jJ P ops a0 J (rvs l)) (i+1) r) (hp:∀L y v w,(∀j,o.after.toList.any (fun e=>e.on==j)=true→L j=true)→J L y w→J (bL L i) (bY y i v) w:=by intro _ _ _ _ _ h;exact h):aQ (jJ P ops a0 J (rvs l)) i (o::r):=MI (tJ.askedQ hst hp) V hr hg ho hx hy hv hl
theorem Qr (hst:∀L y w w',Below w.heap.size w w'→J L y w→J L y w') (V:Value) (h:∀ρ y w,Kn ops a0 l o ρ y w→(execOp ρ o).run P w = .ok (.value V) w) (hg:kg ops a0 l o=some true) (hv:l.getD i rvN = .v V) (hl:aQ (jJ P ops a0 J (rvs l)) (i+1) r) (hp:∀L y v w,(∀j,o.after.toList.any (fun e=>e.on==j)=true→L j=true)→J L y w→J (bL L i) (bY y i v) w:=by intro _ _ _ _ _ h;exact h):aQ (jJ P ops a0 J (rvs l)) i (o::r):=OZ (tJ.askedQ hst hp) V h hg hv hl
end
theorem Gr (V:Value) (h:∀ρ y w,Below w0.heap.size w0 w→Kn ops a0 l o ρ y w→(execOp ρ o).run P w = .ok (.value V) w) (hg:kg ops a0 l o=some true) (hv:l.getD i rvN = .v V) (hl:aQ (kF P ops a0 w0 (rvs l)) (i+1) r):aQ (kF P ops a0 w0 (rvs l)) i (o::r):=
 ⟨fun ρ y w hw hn hb hd=>aj V (yN hg ⟨hw,hn,hd⟩) (h ρ y w hb ⟨hw,hn,hd⟩) (DK hv rfl),hl⟩
def Qc (P:Program) (t:TypeId):Bool:=match P.underlying t with
 | some (.struct _)=>false
 | some (.array _ _)=>false
 | some _=>true
 | none=>false
theorem mX {w:World} (hs:Qc P t=true) (hc:w.cell? ⟨b,k,none⟩=some V):(loadVar t ⟨b,k,none⟩).run P w = .ok V w:=by
 unfold Qc at hs
 cases hu:P.underlying t with
 | none=>rw[hu] at hs;cases hs
 | some d=>
  have ha:(isAgg t).run P w = .ok false w:=by
   unfold isAgg
   rw[Sem.run_bind,run_underlying hu w]
   rw[hu] at hs
   cases d<;>first | rfl | cases hs
  simp[loadVar,Sem.run_bind,ha,go_sem,hc]
theorem Gl (hb:aD w0 b cs T) (hv:cs.toList[k]?=some V) (hg:kg ops a0 l o=some true) (ho:o.op = .load t x) (hx:kx ops a0 l o x=some (.pointer (some ⟨b,k,none⟩))) (hr:l.getD i rvN = .v V) (hl:aQ (kF P ops a0 w0 (rvs l)) (i+1) r) (hs:Qc P t=true:=by kernel_rfl):aQ (kF P ops a0 w0 (rvs l)) i (o::r):=by
 refine⟨fun ρ y w hw hn hB hd=>aj V (yN hg ⟨hw,hn,hd⟩) ?_ (DK hr rfl),hl⟩
 have e:ρ x=_:=aF hx ⟨hw,hn,hd⟩
 have hc:w.cell? ⟨b,k,none⟩=some V:=by rw[(hb.ext hB).cell,←Array.getElem?_toList];exact hv
 refine run_load ho e ?_
 simp only[Instr.loadAt,Instr.sureAddr,Sem.run_bind,Sem.run_pure,Result.andThen_ok,mX hs hc]
theorem Gc (V:Value) (hc:∀w,Below w0.heap.size w0 w→w.cell? ⟨b,k,none⟩=some V) (hg:kg ops a0 l o=some true) (ho:o.op = .load t x) (hx:kx ops a0 l o x=some (.pointer (some ⟨b,k,none⟩))) (hr:l.getD i rvN = .v V) (hl:aQ (kF P ops a0 w0 (rvs l)) (i+1) r) (hs:Qc P t=true:=by kernel_rfl):aQ (kF P ops a0 w0 (rvs l)) i (o::r):=by
 refine⟨fun ρ y w hw hn hB hd=>aj V (yN hg ⟨hw,hn,hd⟩) ?_ (DK hr rfl),hl⟩
 have e:ρ x=_:=aF hx ⟨hw,hn,hd⟩
 refine run_load ho e ?_
 simp only[Instr.loadAt,Instr.sureAddr,Sem.run_bind,Sem.run_pure,Result.andThen_ok,mX hs (hc w hB)]
def revC:List Value→List Value→(List Value→Option (List Value))→Option (List Value)
 | [],r,k=>k r
 | a::l,r,k=>revC l (a::r) k
def ptC:List Value→Nat→Value→List Value→(List Value→Option (List Value))→Option (List Value)
 | [],_,_,acc,k=>revC acc [] k
 | _::l,0,v,acc,k=>revC acc (v::l) k
 | a::l,n+1,v,acc,k=>ptC l n v (a::acc) k
def sF (y:Nat→Value):List RV→List Oper→List Value→Option (List Value)
 | .v V::l,o::r,t=>match o.dst with
  | some d=>ptC t d V [] fun t'=>sF y l r t'
  | none=>sF y l r t
 | .r j _::l,o::r,t=>match o.dst with
  | some d=>ptC t d (y j) [] fun t'=>sF y l r t'
  | none=>sF y l r t
 | _,_,t=>some t
def idxOk:List RV→Nat→Bool
 | [],_=>true
 | .v _::l,i=>idxOk l (i+1)
 | .r j _::l,i=>(j==i)&&idxOk l (i+1)
theorem Bu (k:List Value→Option (List Value)):∀(a r:List Value),revC a r k=k (a.reverse++r)
 | [],r=>rfl
 | x::a,r=>by rw[revC,Bu k a];simp
theorem EQ (k:List Value→Option (List Value)):∀(t:List Value) (n:Nat) (v:Value) (acc:List Value),ptC t n v acc k=k (acc.reverse++t.set n v)
 | [],n,v,acc=>by simp[ptC,Bu]
 | x::t,0,v,acc=>by simp[ptC,Bu]
 | x::t,n+1,v,acc=>by rw[ptC,EQ k t];simp
theorem rH {y:Nat→Value} {w:World} {m:Nat}:∀(l:List RV) (r:List Oper) (k:Nat) (t:Array Value),idxOk l k=true→m=k+l.length→l.length≤r.length→(∀i,i<l.length→rl (rvs l) i (y (k+i)) w) →
  sF y l r t.toList=some (lay (fun i=>decide (i<m)) y r k t).toList
 | [],r,k,t,_,hm,_,_=>by
  have:sF y [] r t.toList=some t.toList:=by cases r<;>rfl
  rw[this]
  simp only[List.length_nil,Nat.add_zero] at hm
  subst hm
  have hno:∀(r:List Oper) (j:Nat) (t:Array Value),m≤j→lay (fun i=>decide (i<m)) y r j t=t:=by
   intro r
   induction r with
   | nil=>intro j t _;rfl
   | cons o r ih=>
    intro j t hj
    simp only[lay]
    rw[ih (j+1) _ (by omega)]
    cases o.dst with
    | none=>rfl
    | some d=>simp[show ¬j<m by omega]
  rw[hno r m t (Nat.le_refl _)]
 | a::l,[],k,t,_,_,hle,_=>by simp at hle
 | a::l,o::r,k,t,hi,hm,hle,hR=>by
  have hk:k<m:=by simp at hm;omega
  have hrest:∀i,i<l.length→rl (rvs l) i (y (k+1+i)) w:=fun i hl=>by
   have:=hR (i+1) (by simp;omega)
   rw[show k+1+i=k+(i+1) by omega]
   unfold rl at this ⊢
   simpa[rvs] using this
  cases a with
  | v V=>
   have h0:y k=V:=by
    have:=hR 0 (by simp)
    exact this
   have ih:=fun t'=>rH (m:=m) (w:=w) l r (k+1) t' hi (by rw[List.length_cons] at hm;omega) (by simpa using hle) hrest
   cases ho:o.dst with
   | none=>simp only[lay,ho,hk,decide_true,if_true,sF,ih]
   | some d=>
    simp only[lay,ho,hk,decide_true,if_true,sF,EQ,h0,List.reverse_nil,List.nil_append]
    rw[←ih (t.setIfInBounds d V),Array.toList_setIfInBounds]
  | r j R=>
   have hj:j=k∧idxOk l (k+1)=true:=by
    have h' : ((j==k)&&idxOk l (k+1))=true:=hi
    simpa using h'
   obtain⟨rfl,hi'⟩:=hj
   have ih:=fun t'=>rH (m:=m) (w:=w) l r (j+1) t' hi' (by rw[List.length_cons] at hm;omega) (by simpa using hle) hrest
   cases ho:o.dst with
   | none=>simp only[lay,ho,hk,decide_true,if_true,sF,ih]
   | some d=>
    simp only[lay,ho,hk,decide_true,if_true,sF,EQ,List.reverse_nil,List.nil_append]
    rw[←ih (t.setIfInBounds d (y j)),Array.toList_setIfInBounds]
end
theorem aG {df:List Deferred} (m:Nat) (l:List RV)
 (hstep:aQ (kF P ops ⟨t0,df⟩ w0 (rvs l)) 0 (ops.toList.take m)) {tm:(Nat→Value)→List Value} (hf:∀y,sF y l ops.toList t0.toList=some (tm y)) (hd:wr (ops.toList.drop m)=some rest)
 (hend:∀y w,Below w0.heap.size w0 w→(∀i,i<m→rl (rvs l) i (y i) w)→wpList P ops Q rest ⟨(tm y).toArray,df⟩ w)
 (hm:P.follows .mixedOrders=true:=by kernel_rfl) (hok:gW ops=true:=by kernel_rfl) (ht:fM ops m=true:=by kernel_rfl) (hmn:m≤ops.size:=by decide) (hll:l.length=m:=by rfl) (hix:idxOk l 0=true:=by kernel_rfl)
 (hsz:iH ops t0.size=true:=by kernel_rfl):(Code.region id ops true).wp P Q ⟨t0,df⟩ w0:=by
 refine MK m (rvs l) hm hok ht hmn _ rfl hsz hstep fun y w hb hR => ?_
 have h:=hend y w hb hR
 rw[GN hd]
 have e:=rH (m:=m) (y:=y) (w:=w) l ops.toList 0 t0 hix (by omega) (by simp;omega) fun i hi=>by rw[Nat.zero_add];exact hR i (by omega)
 show wpList P ops Q rest ⟨lay (fun i=>decide (i<m)) y ops.toList 0 t0,df⟩ w
 have e2:=Option.some.inj (e.symm.trans (hf y))
 have e3:lay (fun i=>decide (i<m)) y ops.toList 0 t0=(tm y).toArray:=by rw[←e2]
 rw[e3]
 exact h
theorem dZ {df:List Deferred} (m:Nat) (l:List RV) (J:(Nat→Bool)→(Nat→Value)→World→Prop) (hst:∀L y w w',Below w.heap.size w w'→J L y w→J L y w') (hJ0:∀y,J (fun _=>false) y w0)
 (hstep:aQ (jJ P ops ⟨t0,df⟩ J (rvs l)) 0 (ops.toList.take m)) {tm:(Nat→Value)→List Value} (hf:∀y,sF y l ops.toList t0.toList=some (tm y)) (hd:wr (ops.toList.drop m)=some rest)
 (hend:∀y w,J (fun i=>decide (i<m)) y w→(∀i,i<m→rl (rvs l) i (y i) w)→wpList P ops Q rest ⟨(tm y).toArray,df⟩ w)
 (hfix:Fixed (rvs l):=by repeat (first | exact fix_nil | refine Dt (fun _ _ _ h=>h) ?_))
 (hm:P.follows .mixedOrders=true:=by kernel_rfl) (hok:gW ops=true:=by kernel_rfl) (ht:fM ops m=true:=by kernel_rfl) (hmn:m≤ops.size:=by decide) (hll:l.length=m:=by rfl) (hix:idxOk l 0=true:=by kernel_rfl)
 (hsz:iH ops t0.size=true:=by kernel_rfl):(Code.region id ops true).wp P Q ⟨t0,df⟩ w0:=by
 refine Lb m (rvs l) J hst hJ0 hfix hm hok ht hmn _ rfl hsz hstep fun y w hb hR => ?_
 have h:=hend y w hb hR
 rw[GN hd]
 have e:=rH (m:=m) (y:=y) (w:=w) l ops.toList 0 t0 hix (by omega) (by simp;omega) fun i hi=>by rw[Nat.zero_add];exact hR i (by omega)
 show wpList P ops Q rest ⟨lay (fun i=>decide (i<m)) y ops.toList 0 t0,df⟩ w
 have e2:=Option.some.inj (e.symm.trans (hf y))
 have e3:lay (fun i=>decide (i<m)) y ops.toList 0 t0=(tm y).toArray:=by rw[←e2]
 rw[e3]
 exact h
theorem JB {w:World} {m:Nat} {l:List RV} (hix:idxOk l 0=true) (hll:l.length=m) (hmn:m≤ops.size) (hR:∀i,i<m→rl (rvs l) i (y i) w) (hf:sF y l ops.toList t0.toList=some tm):lay (fun i=>decide (i<m)) y ops.toList 0 t0=tm.toArray:=by
 have e:=rH (m:=m) (y:=y) (w:=w) l ops.toList 0 t0 hix (by omega) (by simp;omega) fun i hi=>by rw[Nat.zero_add];exact hR i (by omega)
 have e2:=Option.some.inj (e.symm.trans hf)
 rw[←e2]
def CX {α:Type} (P:Program) (t:TypeId) (enc:α→List Value) (good:α→Prop):Prop:=
 ∀(H:Type) (e:TypeId × Value→H) (w:World) (base:Nat) (spare:Nat→Bool) (held:Bool) (fuel:Nat) (cs:List Value) (x:DataW H × List MemPlace),
  DataW.trod e P w base spare held fuel t cs=some x→∃a:α,cs=enc a∧good a
theorem vC (ht:P.underlying t=some (.int .i64)):CX P t (fun n:Int=>[.int .i64 n]) i64:=by
 intro H e w base spare held fuel cs x h
 obtain⟨n,rfl,_,hn⟩:=DataW.trod_int ht h
 exact⟨n,rfl,bounds_i64 hn⟩
theorem MV (ht:P.underlying t=some (.int .u8)):CX P t (fun b:UInt8=>[xg b]) (fun _=>True):=by
 intro H e w base spare held fuel cs x h
 obtain⟨n,rfl,_,hn⟩:=DataW.trod_int ht h
 have hb:=bounds_u8 hn
 refine⟨UInt8.ofNat n.toNat,?_,trivial⟩
 simp[xg]
 omega
theorem open_list {α:Type} {enc:α→List Value} {good:α→Prop} (ht:P.underlying t=some (.slice e)) (ho:CX P e enc good) (hsz:∀x,(enc x).length=P.cellsOf e)
 {H:Type} {en:TypeId × Value→H} {w:World} {cs:List Value} {x:DataW H × List MemPlace} (h:DataW.trod en P w base spare held fuel t cs=some x) :
  ∃(a:Option Addr) (l:List α) (c:Nat),cs=[.slice a l.length c]∧l.length≤c∧c≤maxLen∧(a=none→c=0)∧dB w a (l.flatMap enc)∧∀y∈l,good y:=by
 rcases DataW.trod_slice ht h with ⟨rfl,_⟩|⟨a,len,cap,elems,rest,n,_,rfl,_,_,hle,hcap,hlen,hel,_⟩
 ·exact⟨none,[],0,rfl,Nat.le_refl _,Nat.zero_le _,fun _=>rfl,dB.nil,fun y hy=>(by cases hy)⟩
 ·have key:∀i,i<len→∃y:α,good y∧∀j u,(enc y)[j]?=some u→w.cell? ((a.add (i*P.cellsOf e)).add j)=some u:=by
   intro i hi
   have h1:=hel i hi
   rw[List.getElem?_eq_getElem (by omega)] at h1
   obtain⟨cs',h2,h3⟩:=Option.bind_eq_some_iff.1 h1
   obtain⟨y,rfl,hy⟩:=ho H en w base spare held n cs' _ h3
   refine⟨y,hy,fun j u hj => ?_⟩
   unfold World.cells? at h2
   split at h2
   ·have h4:=mapM_some_get h2 j j (by
     have:j<(enc y).length:=by
      rcases Nat.lt_or_ge j (enc y).length with h|h
      ·exact h
      ·simp[List.getElem?_eq_none h] at hj
     rw[hsz y] at this
     simp[this])
    rw[hj] at h4
    exact h4
   ·cases h2
  have hall:=vZ good (fun i y => ∀j u,(enc y)[j]?=some u→w.cell? ((a.add (i*P.cellsOf e)).add j)=some u) len key
  obtain⟨l,rfl,hg,hr⟩:=hall
  refine⟨some a,l,cap,rfl,hle,hcap,fun e=>(Option.some_ne_none _ e).elim,?_,hg⟩
  by_cases hz:P.cellsOf e=0
  ·have:l.flatMap enc=[]:=by
    apply List.eq_nil_of_length_eq_zero
    rw[flat_len enc (P.cellsOf e) hsz l,hz,Nat.mul_zero]
   rw[this]
   exact dB.nil
  ·intro k u hk
   have hkl:k<l.length*P.cellsOf e:=by
    rw[←flat_len enc (P.cellsOf e) hsz l]
    rcases Nat.lt_or_ge k (l.flatMap enc).length with h|h
    ·exact h
    ·simp[List.getElem?_eq_none h] at hk
   have hi:k / P.cellsOf e<l.length:=Nat.div_lt_of_lt_mul (by rw[Nat.mul_comm];exact hkl)
   have hj:k%P.cellsOf e<P.cellsOf e:=Nat.mod_lt _ (Nat.pos_of_ne_zero hz)
   have hk' : k / P.cellsOf e*P.cellsOf e+k%P.cellsOf e=k:=by rw[Nat.mul_comm];exact Nat.div_add_mod k _
   have hget:(enc l[k / P.cellsOf e])[k%P.cellsOf e]?=some u:=by
    have h5:k%P.cellsOf e<(enc l[k / P.cellsOf e]).length:=by rw[hsz];exact hj
    have h6:=flat_get enc (P.cellsOf e) hsz l _ hi _ _ (List.getElem?_eq_getElem h5)
    rw[hk',hk] at h6
    rw[List.getElem?_eq_getElem h5,h6]
   have h7:=hr _ hi _ u hget
   have hspot:a.spot=none:=by
    by_cases h8:a.spot=none
    ·exact h8
    ·exfalso
     -- the first cell of all is read at the address itself
     have h0:0<l.length:=Nat.lt_of_le_of_lt (Nat.zero_le _) hi
     have h9:0<(enc l[0]).length:=by rw[hsz];omega
     have h10:=hr 0 h0 0 _ (List.getElem?_eq_getElem h9)
     simp only[Nat.zero_mul,Addr.add,if_true] at h10
     have:=World.cell?_spot h10
     exact h8 this
   obtain⟨b,off,sp⟩:=a
   subst hspot
   refine⟨b,off,rfl,?_⟩
   rw[Addr.add_lit,Addr.add_lit,Nat.add_assoc,hk'] at h7
   exact h7
open Go.ChangeShapes Go.WideShapes Go.ChangeAt
def si {α:Type} (P:Program) (t:TypeId) (enc:α→List Value) (good:World→α→Prop):Prop:=
 ∀(H:Type) (e:TypeId × Value→H) (w:World) (base:Nat) (spare:Nat→Bool) (held:Bool) (fuel:Nat) (cs:List Value) (x:DataW H × List MemPlace),
  DataW.trod e P w base spare held fuel t cs=some x→∃a:α,cs=enc a∧good w a
theorem CX.w {α:Type} {enc:α→List Value} {good:α→Prop} (h:CX P t enc good):si P t enc (fun _=>good):=h
def qR {α:Type} (P:Program) (fs:Array Field) (L k off:Nat) (enc:α→List Value) (good:World→α→Prop):Prop:=
 ∀(H:Type) (e:TypeId × Value→H) (w:World) (base:Nat) (spare:Nat→Bool) (held:Bool) (n:Nat) (cs:List Value) (xs:List (DataW H × List MemPlace)),cs.length=L→xs.length=fs.size →
  (∀(i:Nat) (f:Field),fs[i]?=some f→DataW.trod e P w base spare held n f.type ((cs.drop f.offset).take (P.cellsOf f.type))=xs[i]?)→∃a:α,cs.drop off=enc a∧good w a
theorem zi {fs:Array Field} {L:Nat} (h:L=off):qR P fs L k off (fun _:Unit=>[]) (fun _ _=>True):=by
 intro H e w base spare held n cs xs hl _ _
 exact⟨(),by rw[List.drop_eq_nil_of_le (by omega)],trivial⟩
theorem mK {α β:Type} {fs:Array Field} {L:Nat} {f:Field} {enc:α→List Value} {good:World→α→Prop} {enc' : β→List Value} {good' : World→β→Prop} (hf:fs[k]?=some f) (off' : Nat) (ho:f.offset=off) (hn:off+P.cellsOf f.type=off') (h0:si P f.type enc good)
 (h1:qR P fs L (k+1) off' enc' good'):qR P fs L k off (fun x:α × β=>enc x.1++enc' x.2) (fun w x=>good w x.1∧good' w x.2):=by
 intro H e w base spare held n cs xs hl hx h
 subst hn
 obtain⟨b,hb,gb⟩:=h1 H e w base spare held n cs xs hl hx h
 have hk:k<xs.length:=by
  rw[hx]
  exact (Array.getElem?_eq_some_iff.1 hf).1
 have h2:=h k f hf
 rw[List.getElem?_eq_getElem hk,ho] at h2
 obtain⟨a,ha,ga⟩:=h0 H e w base spare held n _ _ h2
 refine⟨(a,b),?_,ga,gb⟩
 show _=enc a++enc' b
 rw[←ha,←hb,←List.drop_drop,List.take_append_drop]
theorem AC {α:Type} {fs:Array Field} {enc:α→List Value} {good:World→α→Prop} (ht:P.underlying t=some (.struct fs)) (h:qR P fs (P.cellsOf t) 0 0 enc good):si P t enc good:=by
 intro H e w base spare held fuel cs x hx
 obtain⟨xs,n,_,_,hl,hn,hel⟩:=DataW.trod_struct ht hx
 exact h H e w base spare held n cs xs hl hn hel
theorem si.of {α β:Type} {enc:α→List Value} {good:World→α→Prop} {enc' : β→List Value} {good' : World→β→Prop} (h:si P t enc good) (g:α→β) (he:∀a,enc a=enc' (g a)) (hg:∀w a,good w a→good' w (g a)):si P t enc' good':=by
 intro H e w base spare held fuel cs x hx
 obtain⟨a,ha,ga⟩:=h H e w base spare held fuel cs x hx
 exact⟨g a,by rw[ha,he],hg w a ga⟩
end Pw
namespace Go.Proofs.YtjkkoeijlhfneaaGreat
open Go.ChangeShapes Go.WideShapes Go.ChangeAt Go.RowKit Go.Maps Pw
variable {B B' b cap g n n' off sz sz':Nat} {P:Program} {T T' e e':TypeId} {cs cs':Array Value} {v v':Value} {vs xs xs':List Value} {w w':World}
theorem jc (h:Own w B e sz v n xs) (g:Nat) (hg:v.ownBlock=some g):∃cs,aD w g cs e:=by
 rcases h.2 with ⟨rfl,_⟩|⟨g2,off,cap,cur,rfl,_,hb,_⟩
 ·cases hg
 ·cases hg
  exact⟨_,hb⟩
theorem iN (h:aD w b cs T) (ho:Own w B e sz v n xs) (hT:T≠e) (hg:w.grownBy w' v.ownBlock):aD w' b cs T:=
 h.grown hg (fun he=>own_ne ho h hT b he rfl)
theorem ug (h:Own w B e sz v n xs) (ho:Own w B' e' sz' v' n' xs') (hT:e'≠e) (hg:w.grownBy w' v'.ownBlock):Own w' B e sz v n xs:=
 h.grown hg (fun g hv he=>by
  obtain⟨cs,hk⟩:=jc ho g he
  exact own_ne h hk hT g hv rfl)
theorem pQ (h:Own w B e sz v n xs) (hk:aD w g cs T) (hT:T≠e) (o:Nat) (u:Value):Own (w.setCell ⟨g,o,none⟩ u) B e sz v n xs:=
 ak h hk hT (aB w g o [u])
theorem aW (h:aD w b cs T) (hk:aD w g cs' T') (hT:T'≠T) (hgr:w.grownBy w' (some g)):aD w' b cs T:=
 h.grown hgr (fun he=>by
  cases he
  unfold aD at h hk
  rw[hk] at h
  simp only[Option.some.injEq,Obj.cells.injEq] at h
  exact hT h.2.1)
theorem jW (a b:Option Addr) (n c m e:Nat):(#[Value.slice a n c,Value.slice b m e]:Array Value).all (·.oneCell')=true:=by simp[Value.oneCell']
theorem lU {α:Type} {enc:α→List Value} (hsz:∀x,(enc x).length=sz) (hp:0<sz) {l:List α} (hl:l.length=n) (h:Own w B e sz v n (l.flatMap enc)) (k:Nat) (hk:k<n) :
  ∃g off cap cur,v = .slice (some ⟨g,off,none⟩) n cap∧B≤g∧aD w g cur e∧off+k*sz+sz≤cur.size ∧
   ∀w' x,aD w' g (bq cur (off+k*sz) (enc x)) e→Own w' B e sz v n ((l.set k x).flatMap enc):=by
 subst hl
 obtain⟨g,off,cap,cur,h1,h2,h3,h4,_,h6⟩:=h.put hsz hp k hk
 exact⟨g,off,cap,cur,h1,h2,h3,h4,h6⟩
theorem pK {a b c:World} {row:Option Nat} (h:a.grownBy b row) (k:b.grownBy c row):a.grownBy c row:=
 World.grownBy.andThen h k (fun j hj => .inr hj)
theorem iV (h:Own w B e sz v n xs) (hg:w.grownBy w' none):Own w' B e sz v n xs:=h.grown hg (by simp)
theorem oo (w:World) (t e ty:TypeId) (z:Value) (sz bytes:Nat) (ht:P.underlying t=some (.slice e)) (hi:(P.info? e).map (fun i=>(i.zero,i.size,i.bytes))=some (some z,sz,bytes)) (h1:∀u∈z.cells.toList,u.oneCell' = true) (h0:0<z.cells.size)
 (b o n c:Nat) (hn:0<n) (cur:Array Value) (T:TypeId) (hg:aD w b cur T) (hfit:o+n*z.cells.size≤cur.size) :
  (Builtin.clear_ #[t] ty #[.slice (some ⟨b,o,none⟩) n c]).run P w = .ok (.tuple #[]) (w.setCells b o (Builtin.zeroCells z.cells n).toList):=by
 have hl:(Builtin.zeroCells z.cells n).toList.length=n*z.cells.size:=by simp[Builtin.zeroCells]
 have hst:=run_storeCells_cells (P:=P) b o (Builtin.zeroCells z.cells n).toList 0 w
  (fun j hj=>by rw[Nat.add_zero,hg.cell];simp[show o+j<cur.size by omega]) (fun j hj=>hg.free _)
  (fun v hv=>by
   simp only[Builtin.zeroCells,Array.toList_map,List.mem_map] at hv
   obtain⟨i,_,rfl⟩:=hv
   have:i%z.cells.size<z.cells.size:=Nat.mod_lt _ h0
   rw[getElem!_pos z.cells _ this]
   exact h1 _ (by simp))
 simp only[Nat.add_zero] at hst
 obtain⟨m,rfl⟩:∃m,n=m+1:=⟨n-1,by omega⟩
 have hv:∀w,(zeroValue e).run P w = .ok z w:=by
  intro w
  cases hq:P.info? e with
  | none=>simp[hq] at hi
  | some i=>
   have hz:i.zero=some z:=by simp[hq] at hi;exact hi.1
   simp[zeroValue,typeInfo,run_program,hq,hz]
 simp[Builtin.clear_,run_underlying ht,hv,hst]
theorem IK {α:Type} {enc:α→List Value} (hsz:∀x,(enc x).length=sz) {l:List α} (h:Own w B e sz (.slice (some ⟨g,off,none⟩) n cap) n (l.flatMap enc)) (i:Nat) (hl:l.length=n) (hi:i≤n)
 (hw:∀cur,aD w g cur e→aD w' g (bq cur (off+i*sz) vs) e):Own w' B e sz (.slice (some ⟨g,off,none⟩) (l.take i).length cap) (l.take i).length ((l.take i).flatMap enc):=by
 subst hl
 obtain⟨hl,h⟩:=h
 rcases h with ⟨h1,_⟩|⟨g',off',cap',cur,hv,hB,hg,hc,hm,hs,ht⟩
 ·cases h1
 ·cases hv
  have hlen:(l.take i).length=i:=by simp;omega
  refine⟨by rw[Pw.flat_len enc sz hsz],.inr ⟨g,off,cap,_,rfl,hB,hw cur hg,by omega,hm,by rw[size_putAt];exact hs,fun j u hj => ?_⟩⟩
  have hj' : j<i*sz:=by
   rcases Nat.lt_or_ge j (i*sz) with h|h
   ·exact h
   ·rw[List.getElem?_eq_none (by rw[Pw.flat_len enc sz hsz,hlen];exact h)] at hj
    cases hj
  rw[putAt_out _ _ _ _ (.inl (by omega))]
  refine ht j u ?_
  have hsplit:l.flatMap enc=(l.take i).flatMap enc++(l.drop i).flatMap enc:=by rw[←List.flatMap_append,List.take_append_drop]
  rw[hsplit,List.getElem?_append_left (by rw[Pw.flat_len enc sz hsz,hlen];exact hj')]
  exact hj
theorem qK {α:Type} {enc:α→List Value} (hsz:∀x,(enc x).length=sz) (hp:0<sz) {l:List α} (hl:l.length=n) (h:Own w B e sz v n (l.flatMap enc)) (k:Nat) (hk:k<n) (j:Nat) (hj:j<sz) (u:Value) (x:α)
 (hx:enc x=(enc (l[k]'(by omega))).set j u) :
  ∃g off cap,v = .slice (some ⟨g,off,none⟩) n cap∧B≤g∧g<w.heap.size∧(∃cs,aD w g cs e)∧(∀i y,(enc (l[k]'(by omega)))[i]?=some y→w.cell? ⟨g,off+k*sz+i,none⟩=some y)∧w.frozen? ⟨g,off+k*sz+j,none⟩=false ∧
   Own (w.setCell ⟨g,off+k*sz+j,none⟩ u) B e sz v n ((l.set k x).flatMap enc):=by
 subst hl
 obtain⟨g,off,cap,cur,h1,h2,h3,h4,h5,h6⟩:=h.put hsz hp k hk
 refine⟨g,off,cap,h1,h2,h3.lt,⟨_,h3⟩,h5,h3.free _,h6 _ x ?_⟩
 have he:bq cur (off+k*sz) (enc x)=cur.setIfInBounds (off+k*sz+j) u:=by
  apply Array.ext_getElem?
  intro i
  by_cases hi:off+k*sz≤i∧i<off+k*sz+sz
  ·obtain⟨m,rfl⟩:∃m,i=off+k*sz+m:=⟨i-(off+k*sz),by omega⟩
   have hm:m<(enc x).length:=by rw[hsz];omega
   rw[putAt_in _ _ _ m (enc x)[m] (by rw[hsz];omega) (List.getElem?_eq_getElem hm)]
   by_cases hmj:m=j
   ·subst hmj
    rw[Array.getElem?_setIfInBounds_self_of_lt (by omega)]
    simp[hx]
   ·rw[Array.getElem?_setIfInBounds_ne (by omega)]
    have hm' : m<(enc l[k]).length:=by rw[hsz];omega
    have:=h5 m (enc l[k])[m] (List.getElem?_eq_getElem hm')
    rw[h3.cell] at this
    rw[this]
    simp[hx,List.getElem_set_ne (fun e=>hmj e.symm)]
  ·rw[putAt_out _ _ _ _ (by rw[hsz];omega),Array.getElem?_setIfInBounds_ne (by omega)]
 rw[he]
 exact h3.setCell _ _
theorem NY {o:Nat} (h:w.cell? ⟨b,o,none⟩=some v):b<w.heap.size:=by
 rcases Nat.lt_or_ge b w.heap.size with h1|h1
 ·exact h1
 ·simp[World.cell?,Array.getElem?_eq_none h1] at h
theorem Ef {H:Type} {k:TypeId} {R:Value→Option (DataW H × List MemPlace)} {D:DataW H} (h:w.ownsMap P k R b n D) (hb:Below w.heap.size w w'):w'.ownsMap P k R b n D:=by
 have hl:=h.lt
 obtain⟨es,clock,h1,r⟩:=h
 exact⟨es,clock,(hb.block b hl).trans h1,r⟩
end Go.Proofs.YtjkkoeijlhfneaaGreat