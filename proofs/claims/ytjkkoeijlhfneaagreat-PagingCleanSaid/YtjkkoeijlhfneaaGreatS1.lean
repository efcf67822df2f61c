import Derived.WalkKit
import Derived.ProofKit
import Derived.SizedLaws
import Derived.Maps.Own
import Derived.WalkSpells
import Derived.WalkLawsBesides
import Derived.ArgAppend
import Derived.Deep.MidRow
import Derived.Deep.Slices
import Derived.Laws.AppendOwnNone
import Derived.Laws.CopyOwn
import Derived.Laws.OwnMore
import Derived.Lib.Hide
import Derived.Maps.Range
import Derived.Maps.Views
import Derived.OpenShut
import Derived.Orders
import Derived.OwnWalk
set_option linter.unusedSimpArgs false
set_option linter.unusedVariables false
set_option maxHeartbeats 4000000
set_option maxRecDepth 100000
namespace Pw
open Go Go.RowKit
abbrev Page:=Vector UInt8 8
theorem KO (p q:Page):(p==q)=((p[0]==q[0])&&(p[1]==q[1])&&(p[2]==q[2])&&(p[3]==q[3])&&(p[4]==q[4])&&(p[5]==q[5])&&(p[6]==q[6])&&(p[7]==q[7])):=by
 rw[Bool.eq_iff_iff]
 simp only[beq_iff_eq,Bool.and_eq_true]
 constructor
 ·rintro rfl;simp
 ·rintro⟨⟨⟨⟨⟨⟨⟨h0,h1⟩,h2⟩,h3⟩,h4⟩,h5⟩,h6⟩,h7⟩
  ext i hi
  match i,hi with
  | 0,_=>rw[h0]
  | 1,_=>rw[h1]
  | 2,_=>rw[h2]
  | 3,_=>rw[h3]
  | 4,_=>rw[h4]
  | 5,_=>rw[h5]
  | 6,_=>rw[h6]
  | 7,_=>rw[h7]
  | n+8,h=>omega
theorem OL (a b:UInt8):((a.toNat:Int)==(b.toNat:Int))=(a==b):=by
 rw[Bool.eq_iff_iff]
 simp only[beq_iff_eq,Int.natCast_inj,UInt8.toNat_inj]
def gG (p:Page) (a:Int) (k:Nat):Page:=Vector.ofFn fun i:Fin 8=>if a≤(i.val:Int)∧i.val<k then 0 else p[i.val]
def dS (p:Page) (a:Int):Page:=Vector.ofFn fun i:Fin 8=>if a≤(i.val:Int) then 0 else p[i.val]
theorem vM (p:Page) (a:Int) (k:Nat) (h:8≤k):gG p a k=dS p a:=by
 ext i hi
 simp only[gG,dS,Vector.getElem_ofFn]
 have hk:i<k:=by omega
 simp[hk]
theorem vB (p:Page) (a:Int) (k:Nat) (h:k<8) (ha:a≤k):(gG p a k).set k 0=gG p a (k+1):=by
 ext i hi
 simp only[gG,Vector.getElem_ofFn,Vector.getElem_set]
 by_cases e:k=i
 ·subst e;simp[ha]
 ·simp only[e,if_false]
  by_cases c:a≤(i:Int)∧i<k
  ·rw[if_pos c,if_pos ⟨c.1,by omega⟩]
  ·rw[if_neg c,if_neg (by omega)]
def bK (L:Nat→Bool) (i:Nat):Nat→Bool:=fun k=>if k=i then true else L k
def wr {α:Type}:List α→Option (List α)
 | []=>some []
 | a::r=>some (a::r)
theorem Gz {α:Type} {a b:List α} (h:wr a=some b):a=b:=by cases a<;>cases h<;>rfl
def i64 (n:Int):Prop:=-9223372036854775808≤n∧n≤9223372036854775807
theorem wh {α:Type} (good:α→Prop) (R:Nat→α→Prop):∀(len:Nat),(∀i,i<len→∃y:α,good y∧R i y)→∃l:List α,l.length=len∧(∀y∈l,good y)∧∀i (hi:i<l.length),R i l[i]
 | 0,_=>⟨[],rfl,fun y hy=>(by cases hy),fun i hi=>absurd hi (Nat.not_lt_zero _)⟩
 | len+1,key=>by
  obtain⟨l,hl,hg,hr⟩:=wh good R len (fun i hi=>key i (by omega))
  obtain⟨y,hy,hyr⟩:=key len (by omega)
  refine⟨l++[y],by simp[hl],?_,?_⟩
  ·intro z hz
   rcases List.mem_append.1 hz with hz|hz
   ·exact hg z hz
   ·rw[List.mem_singleton.1 hz];exact hy
  ·intro i hi
   by_cases hil:i<l.length
   ·rw[List.getElem_append_left hil];exact hr i hil
   ·have hi' : i=len:=by simp at hi;omega
    subst hi'
    rw[List.getElem_append_right (by omega)]
    simpa[hl] using hyr
end Pw
namespace Go.Proofs.YtjkkoeijlhfneaaGreat
open Go.ChangeShapes Go.WideShapes Go.ChangeAt Go.RowKit Go.Maps Pw
variable {k n:Nat}
theorem kV {P:∀i,i<n→Prop} (hp:∀i (h:i<n),i<k→P i h) (hlt:k<n) (hk:P k hlt):∀i (h:i<n),i<k+1→P i h:=by
 intro i h hi
 by_cases e:i=k
 ·subst e;exact hk
 ·exact hp i h (by omega)
end Go.Proofs.YtjkkoeijlhfneaaGreat
namespace Pw
open Go Go.RowKit
variable {fuel i q:Nat} {l:List Int}
theorem rH {listed:Array Bool} (hi:i<listed.size) (q:Nat) (hq:listed.getD q false=true):(listed.setIfInBounds i true).getD q false=true:=by
 by_cases hqi:q=i
 ·subst hqi;simp[Array.getD_eq_getD_getElem?,hi]
 ·simpa[Array.getD_eq_getD_getElem?,Array.getElem?_setIfInBounds_ne (Ne.symm hqi)] using hq
theorem mJ {listed:Array Bool} (h:q≠i):(listed.setIfInBounds i true).getD q false=listed.getD q false:=by
 simp[Array.getD_eq_getD_getElem?,Array.getElem?_setIfInBounds_ne (Ne.symm h)]
theorem Dx {listed:Array Bool} (hi:i<listed.size):(listed.setIfInBounds i true).getD i false=true:=by
 simp[Array.getD_eq_getD_getElem?,hi]
theorem xm {listed:Array Bool} (hi:i<listed.size) (h1:listed.getD i true=false) (hc:listed.toList.countP (!·)≤fuel+1):(listed.setIfInBounds i true).toList.countP (!·)≤fuel:=by
 have hil:i<listed.toList.length:=by simp;omega
 have hfalse:listed.toList[i]=false:=by
  simpa[Array.getD_eq_getD_getElem?,hi] using h1
 have:=List.countP_set (p:=(!·)) (l:=listed.toList) (i:=i) (a:=true) hil
 rw[hfalse] at this
 have hpos:0<listed.toList.countP (!·):=List.countP_pos_iff.2 ⟨listed.toList[i],List.getElem_mem hil,by rw[hfalse];rfl⟩
 simp only[Array.toList_setIfInBounds]
 simp only[Bool.not_false,Bool.not_true,if_true,Bool.false_eq_true,if_false] at this
 omega
open Go.ChangeShapes Go.WideShapes Go.ChangeAt
def firstE:List Int→Int
 | []=>0
 | x::r=>if x=0 then firstE r else x
theorem nO (h:∀i (hi:i<l.length),l[i]=0):firstE l=0:=by
 induction l with
 | nil=>rfl
 | cons x r ih=>
  have h0:=h 0 (by simp)
  simp at h0
  simp only[firstE,h0,if_true]
  exact ih fun i hi=>by have:=h (i+1) (by simpa using hi);simpa using this
theorem qX (k:Nat) (hk:k<l.length) (h:∀i (hi:i<l.length),i<k→l[i]=0) (hne:l[k]≠0):firstE l=l[k]:=by
 induction l generalizing k with
 | nil=>simp at hk
 | cons x r ih=>
  cases k with
  | zero=>simp at hne;simp[firstE,hne]
  | succ k=>
   have h0:=h 0 (by simp) (by omega)
   simp at h0
   simp only[firstE,h0,if_true,List.getElem_cons_succ]
   exact ih k (by simpa using hk) (fun i hi hik=>by have:=h (i+1) (by simpa using hi) (by omega);simpa using this) (by simpa using hne)
theorem filter_all {α:Type} (p q:α→Bool) (l:List α):(l.filter p).all (fun e => !p e||q e)=l.all (fun e => !p e||q e):=by
 induction l with
 | nil=>rfl
 | cons x l ih=>
  cases hp:p x
  ·rw[List.filter_cons_of_neg (by simp[hp]),ih];simp[hp]
  ·rw[List.filter_cons_of_pos (by simp[hp])];simp[hp,ih]
end Pw
namespace Go.Proofs.YtjkkoeijlhfneaaGreat
open Go.RowKit Pw
variable {I K b i j k n q r:Nat} {l:List Int} {lo:Int}
def idx {α:Type} (f:α→Bool) (l:List α):Int:=match l.findIdx? f with
 | some k=>k
 | none => -1
theorem nW {α:Type} (f:α→Bool) (l:List α) (k:Nat) (h:k<l.length) (hp:∀i (h:i<l.length),i<k→f l[i]=false) (hk:f l[k]=true):idx f l=k:=by
 unfold idx
 rw[List.findIdx?_eq_some_iff_getElem.2 ⟨h,hk,fun j hj=>by simpa using hp j (by omega) hj⟩]
theorem jQ {α:Type} (f:α→Bool) (l:List α) (hp:∀i (h:i<l.length),f l[i]=false):idx f l = -1:=by
 unfold idx
 rw[List.findIdx?_eq_none_iff.2 fun x hx=>by
  obtain⟨i,hi,rfl⟩:=List.mem_iff_getElem.1 hx
  exact hp i hi]
theorem vJ {α:Type} (f:α→Bool) (l:List α):(idx f l = -1∧∀i (h:i<l.length),f l[i]=false)∨∃k:Nat,∃h:k<l.length,idx f l=k∧f l[k]=true∧∀i (h:i<l.length),i<k→f l[i]=false:=by
 unfold idx
 cases e:l.findIdx? f with
 | none=>exact .inl ⟨rfl,fun i h=>List.findIdx?_eq_none_iff.1 e _ (List.getElem_mem h)⟩
 | some k=>
  obtain⟨h,hk,hp⟩:=List.findIdx?_eq_some_iff_getElem.1 e
  exact .inr ⟨k,h,rfl,hk,fun i _ hi=>by simpa using hp i hi⟩
theorem lD {α:Type} (f:α→Bool) (l:List α):decide (0≤idx f l)=l.any f:=by
 rcases vJ f l with ⟨e,h⟩|⟨k,hk,e,h,_⟩
 ·rw[e]
  symm
  simp only[show decide ((0:Int)≤-1)=false from rfl,List.any_eq_false]
  intro x hx
  obtain⟨i,hi,rfl⟩:=List.mem_iff_getElem.1 hx
  simpa using h i hi
 ·rw[e]
  symm
  simp only[show decide ((0:Int)≤(k:Int))=true from by simp,List.any_eq_true]
  exact⟨_,List.getElem_mem hk,h⟩
theorem upto {P:∀i,i<n→Prop} (hp:∀i (h:i<n),i<k→P i h) (hlt:k<n) (hk:P k hlt):∀i (h:i<n),i<k+1→P i h:=by
 intro i h hi
 by_cases e:i=k
 ·subst e;exact hk
 ·exact hp i h (by omega)
open Go.Maps
structure Pj (D:DataW Unit) (f:Int→Bool):Prop where
 is:IsMap D
 at_:∀j:Int,D.atKey (.int .i64 j) (.lit (.bool false)) = .lit (.bool (f j))
theorem Pj.empty:Pj (.map []) (fun _=>false):=⟨isMap_empty,fun j=>rfl⟩
theorem Pj.put {D:DataW Unit} {f:Int→Bool} (h:Pj D f) (k:Int):Pj (D.put (.int .i64 k) (.lit (.bool true))) (fun j=>f j||decide (j=k)):=by
 refine⟨h.is.put _ _,fun j => ?_⟩
 by_cases e:j=k
 ·subst e
  rw[atKey_put_same h.is (by trivial)]
  simp
 ·rw[atKey_put_other (by intro e2;exact e (by cases e2;rfl)),h.at_ j]
  simp[e]
def dO (n:Int):Int:=if n≤0 then 0 else (n-1) / 8+1
def rM (n:Int):Bool:=decide (n<0)||decide (1000<n)
def bU (l:List Int):Int:=if 60<l.length then 4 else if l.any rM then 3 else 0
def BP (n:Int):Bool:=n==0
def wJ (n:Int):List Int:=if 0≤n∧n≤60 then List.replicate n.toNat 0 else []
def AO (n:Int):Int:=if 0≤n∧n≤60 then 0 else 4
theorem Lm (l:List Int) (k:Nat) (hk:k<l.length) (h0:bU l=0):0≤l[k]∧l[k]≤1000:=by
 unfold bU at h0
 split at h0
 ·omega
 split at h0
 ·omega
 rename_i h
 have h1:rM l[k]=false:=by
  have:=List.any_eq_false.1 (by simpa using h) _ (List.getElem_mem hk)
  simpa using this
 simp[rM] at h1
 exact h1
theorem gM (h:bU l=0):l.length≤60:=by
 unfold bU at h
 split at h
 ·omega
 ·omega
def fo (l:List Int) (n:Int):Int:=if bU l≠0 then bU l else if n<1∨1000<n then 3 else if idx BP l<0 then 10 else 0
def il (l:List Int) (n:Int):Int:=if fo l n=0 then idx BP l else 0
def jy (l:List Int) (n:Int):List Int:=if fo l n=0 then l.set (idx BP l).toNat n else []
theorem EG (n:Int) (h:bU l≠0):fo l n=bU l∧il l n=0∧jy l n=[]:=by
 have:fo l n=bU l:=by unfold fo;rw[if_pos h]
 exact⟨this,by unfold il;rw[this,if_neg h],by unfold jy;rw[this,if_neg h]⟩
theorem DR {n:Int} (h0:bU l=0) (h:n<1∨1000<n):fo l n=3∧il l n=0∧jy l n=[]:=by
 have:fo l n=3:=by unfold fo;rw[if_neg (by omega),if_pos h]
 exact⟨this,by unfold il;rw[this];rfl,by unfold jy;rw[this];rfl⟩
theorem DL {n:Int} (h0:bU l=0) (h:1≤n∧n≤1000) (hf:idx BP l = -1):fo l n=10∧il l n=0∧jy l n=[]:=by
 have:fo l n=10:=by unfold fo;rw[if_neg (by omega),if_neg (by omega),if_pos (by omega)]
 exact⟨this,by unfold il;rw[this];rfl,by unfold jy;rw[this];rfl⟩
theorem JA {n:Int} (h0:bU l=0) (h:1≤n∧n≤1000) (hf:idx BP l=k):fo l n=0∧il l n=k∧jy l n=l.set k n:=by
 have:fo l n=0:=by unfold fo;rw[if_neg (by omega),if_neg (by omega),if_neg (by omega)]
 exact⟨this,by unfold il;rw[this,if_pos rfl,hf],by unfold jy;rw[this,if_pos rfl,hf];rfl⟩
def Ba (l:List Int) (k:Int):Int:=l.getD k.toNat 0
def eD (l:List Int) (k n:Int):Int:=if bU l≠0 then bU l else if k<0∨l.length≤k∨Ba l k=0 then 5 else if n < -Ba l k∨1000-Ba l k<n then 3 else 0
def eF (l:List Int) (k n:Int):List Int:=if eD l k n=0 then l.set k.toNat (Ba l k+n) else []
theorem Fx (k n:Int) (h:bU l≠0):eD l k n=bU l∧eF l k n=[]:=by
 have:eD l k n=bU l:=by unfold eD;rw[if_pos h]
 exact⟨this,by unfold eF;rw[this,if_neg h]⟩
theorem Af {k n:Int} (h0:bU l=0) (h:k<0∨l.length≤k∨Ba l k=0):eD l k n=5∧eF l k n=[]:=by
 have:eD l k n=5:=by unfold eD;rw[if_neg (by omega),if_pos h]
 exact⟨this,by unfold eF;rw[this];rfl⟩
theorem ES {k n:Int} (h0:bU l=0) (h:¬(k<0∨l.length≤k∨Ba l k=0)) (hr:n < -Ba l k∨1000-Ba l k<n):eD l k n=3∧eF l k n=[]:=by
 have:eD l k n=3:=by unfold eD;rw[if_neg (by omega),if_neg h,if_pos hr]
 exact⟨this,by unfold eF;rw[this];rfl⟩
theorem II {k n:Int} (h0:bU l=0) (h:¬(k<0∨l.length≤k∨Ba l k=0)) (hr:¬(n < -Ba l k∨1000-Ba l k<n)):eD l k n=0∧eF l k n=l.set k.toNat (Ba l k+n):=by
 have:eD l k n=0:=by unfold eD;rw[if_neg (by omega),if_neg h,if_neg hr]
 exact⟨this,by unfold eF;rw[this,if_pos rfl]⟩
theorem NR (h:k<l.length):Ba l k=l[k]:=by simp[Ba,h]
structure nT where
 blocks:List Page
 queue:List (Int × Page)
def zPg:Page:=#v[0,0,0,0,0,0,0,0]
def qm (n:Nat) (q:Int × Page):Bool:=decide (q.1<0)||decide ((n:Int)≤q.1)
def aZ (d:nT):Int:=if 80<d.blocks.length∨400<d.queue.length then 4 else if d.queue.any (qm d.blocks.length) then 3 else 0
def aH (d:nT) (at_:Int):Int:=if aZ d≠0 then aZ d else if at_<0∨d.blocks.length≤at_ then 3 else 0
def over (k:Int) (p:Page) (q:List (Int × Page)):Page:=q.foldl (fun p x=>if x.1=k then x.2 else p) p
theorem vK (k:Int) (p:Page) (q:List (Int × Page)) (x:Int × Page):over k p (q++[x])=if x.1=k then x.2 else over k p q:=by simp[over,List.foldl_append]
theorem Hy (k:Int) (p:Page) (q:List (Int × Page)) (i:Nat) (h:i<q.length):over k p (q.take (i+1))=if q[i].1=k then q[i].2 else over k p (q.take i):=by
 rw[List.take_add_one,List.getElem?_eq_getElem h,Option.toList,vK]
def jh (d:nT) (k:Int):Page:=if aH d k=0 then over k (d.blocks.getD k.toNat zPg) d.queue else zPg
def gK (d:nT) (x:Int × Page):nT:=
 match d.queue with
 | []=>⟨d.blocks,[x]⟩
 | q::r=>if (q::r).length=400 then ⟨d.blocks.set q.1.toNat q.2,r++[x]⟩ else ⟨d.blocks,(q::r)++[x]⟩
theorem Ih (d:nT) (x:Int × Page) (h:d.queue.length≠400):gK d x=⟨d.blocks,d.queue++[x]⟩:=by
 unfold gK
 split
 ·rename_i e;rw[e];rfl
 ·rename_i q r e;rw[e] at h;rw[if_neg h,e]
theorem Jv (d:nT) (x:Int × Page) (h:d.queue.length=400):gK d x=⟨d.blocks.set (d.queue[0]'(by omega)).1.toNat (d.queue[0]'(by omega)).2,d.queue.drop 1++[x]⟩:=by
 obtain⟨B,Q⟩:=d
 unfold gK
 cases Q with
 | nil=>simp at h
 | cons q r=>simp only[if_pos h];rfl
def bT (d:nT) (k:Int) (p:Page):nT:=if aH d k=0 then gK d (k,p) else ⟨[],[]⟩
theorem vL {d:nT} (h:aZ d=0):d.blocks.length≤80∧d.queue.length≤400:=by
 unfold aZ at h
 split at h
 ·omega
 ·omega
theorem vG {d:nT} (h:aZ d=0) (i:Nat) (hi:i<d.queue.length):0≤d.queue[i].1∧d.queue[i].1<d.blocks.length:=by
 unfold aZ at h
 split at h
 ·omega
 split at h
 ·omega
 rename_i h1
 have:=List.any_eq_false.1 (by simpa using h1) _ (List.getElem_mem hi)
 simp[qm] at this
 omega
def kI (b:Int) (i:Nat):Bool:=Go.bits BinOp.and IntKind.i64 (b / 2 ^ (i%60)) 1==1
def lW (n:Int):nT:=if 0≤n∧n≤80 then ⟨List.replicate n.toNat zPg,[]⟩ else ⟨[],[]⟩
def Ga (n:Int):Int:=if 0≤n∧n≤80 then 0 else 4
def nu (f:Nat→Bool) (B:List Page) (Q:List (Int × Page)):Nat→List Page
 | 0=>B
 | k+1=>match Q[k]? with
  | some q=>if f k then (nu f B Q k).set q.1.toNat q.2 else nu f B Q k
  | none=>nu f B Q k
theorem zZ (f:Nat→Bool) (B:List Page) (Q:List (Int × Page)) (k:Nat):(nu f B Q k).length=B.length:=by
 induction k with
 | zero=>rfl
 | succ k ih=>
  unfold nu
  split
  ·split
   ·rw[List.length_set,ih]
   ·exact ih
  ·exact ih
theorem Hz {f:Nat→Bool} {B:List Page} {Q:List (Int × Page)} (h:k<Q.length) (hf:f k=true):nu f B Q (k+1)=(nu f B Q k).set Q[k].1.toNat Q[k].2:=by
 rw[nu,List.getElem?_eq_getElem h]
 simp[hf]
theorem JJ {f:Nat→Bool} {B:List Page} {Q:List (Int × Page)} (h:k<Q.length) (hf:f k=false):nu f B Q (k+1)=nu f B Q k:=by
 rw[nu,List.getElem?_eq_getElem h]
 simp[hf]
def xV (f:Nat→Bool) (d:nT):nT:=if aZ d=0 then ⟨nu f d.blocks d.queue d.queue.length,[]⟩ else ⟨[],[]⟩
theorem Ju (k:Int) (p:Page) (q:Int × Page) (r:List (Int × Page)):over k p (q::r)=over k (if q.1=k then q.2 else p) r:=rfl
theorem gI (d:nT):aZ d=0↔d.blocks.length≤80∧d.queue.length≤400∧∀x∈d.queue,0≤x.1∧x.1<d.blocks.length:=by
 unfold aZ
 constructor
 ·intro h
  split at h
  ·omega
  split at h
  ·omega
  rename_i h1 h2
  refine⟨by omega,by omega,fun x hx => ?_⟩
  have:=List.any_eq_false.1 (by simpa using h2) x hx
  simp[qm] at this
  omega
 ·rintro⟨h1,h2,h3⟩
  rw[if_neg (by omega),if_neg]
  simp only[List.any_eq_true,not_exists,not_and]
  intro x hx
  have:=h3 x hx
  simp[qm]
  omega
theorem nL {d:nT} {k:Int}:aH d k=0↔aZ d=0∧0≤k∧k<d.blocks.length:=by
 unfold aH
 constructor
 ·intro h
  split at h
  ·omega
  split at h
  ·omega
  ·omega
 ·rintro⟨h1,h2,h3⟩
  rw[if_neg (by omega),if_neg (by omega)]
theorem qA (d:nT) (x:Int × Page):(gK d x).blocks.length=d.blocks.length:=by
 unfold gK
 split
 ·rfl
 ·split
  ·simp
  ·rfl
theorem rX {d:nT} {x:Int × Page} (h:aZ d=0) (h0:0≤x.1) (h1:x.1<d.blocks.length):aZ (gK d x)=0:=by
 obtain⟨h2,h3,h4⟩:=(gI d).1 h
 rw[gI,qA]
 refine⟨h2,?_,?_⟩
 ·unfold gK
  split
  ·simp
  ·rename_i q r e
   rw[e] at h3
   split
   ·rename_i e4;simp at e4 ⊢; omega
   ·rename_i e4;simp at e4 h3 ⊢; omega
 ·intro y hy
  have:y=x∨y∈d.queue:=by
   unfold gK at hy
   split at hy
   ·simp at hy;exact .inl hy
   ·rename_i q r e
    rw[e]
    split at hy
    ·simp at hy ⊢; rcases hy with h | h
     ·exact .inr (.inr h)
     ·exact .inl h
    ·simp at hy ⊢; rcases hy with h | h | h
     ·exact .inr (.inl h)
     ·exact .inr (.inr h)
     ·exact .inl h
  rcases this with rfl|h
  ·exact⟨h0,h1⟩
  ·exact h4 y h
theorem Ja (d:nT) (x:Int × Page) (o:Int) (hq:∀y∈d.queue,0≤y.1∧y.1<d.blocks.length) (ho:0≤o) (ho' : o<d.blocks.length) :
  over o ((gK d x).blocks.getD o.toNat zPg) (gK d x).queue=if x.1=o then x.2 else over o (d.blocks.getD o.toNat zPg) d.queue:=by
 unfold gK
 split
 ·rename_i e
  rw[e]
  rfl
 ·rename_i q r e
  split
  ·have hq':=hq q (by rw[e];exact List.mem_cons_self ..)
   rw[vK]
   congr 1
   rw[e,Ju]
   congr 1
   simp only[List.getD_eq_getElem?_getD,List.getElem?_set]
   by_cases hqo:q.1=o
   ·rw[if_pos hqo,if_pos (by rw[hqo]),if_pos (by rw[hqo];omega)]
    rfl
   ·rw[if_neg hqo,if_neg (by omega)]
  ·rw[e,vK]
theorem Bv {d:nT} {x:Int × Page} (h:aZ d=0) (h0:0≤x.1) (h1:x.1<d.blocks.length) (o:Int):aH (gK d x) o=aH d o:=by
 unfold aH
 rw[rX h h0 h1,h,qA]
theorem ru {d:nT} {x:Int × Page} (h:aZ d=0) (h0:0≤x.1) (h1:x.1<d.blocks.length) (o:Int):jh (gK d x) o=if aH d o=0∧x.1=o then x.2 else jh d o:=by
 unfold jh
 rw[Bv h h0 h1]
 by_cases ho:aH d o=0
 ·obtain⟨_,g0,g1⟩:=nL.1 ho
  rw[if_pos ho,if_pos ho,Ja d x o ((gI d).1 h).2.2 g0 g1]
  simp[ho]
 ·rw[if_neg ho,if_neg ho,if_neg (fun h=>ho h.1)]
def d3:nT:=⟨[zPg,zPg,zPg],[]⟩
structure Fr where
 p:Page
 r:Int
 u:Bool
 d:Bool
 f:Int
 i:Int
 deriving DecidableEq
def Dz (f:Fr):Bool:=decide (f.r<0)||decide (1000<f.r)||decide (f.f < -1)||decide (5≤f.f)||decide (f.i<0)||decide (12≤f.i)
def CV (f:Fr):Bool:=decide (f.r=0)&&(f.u||f.d||decide (0≤f.f)||f.p != zPg)
def yI (f:Fr):Bool:=decide (f.f<0)&&decide (f.i≠0)
def dQ (f:Fr):Int:=if Dz f=true then 3 else if CV f=true∨yI f=true then 7 else 0
structure Mem where
 fs:List Fr
 hand:Int
 deriving DecidableEq
def firstEf:List Fr→Int
 | []=>0
 | f::r=>if dQ f≠0 then dQ f else firstEf r
theorem firstEf_at:∀(l:List Fr) (k:Nat) (hk:k<l.length),(∀i (h:i<l.length),i<k→dQ l[i]=0)→dQ l[k]≠0→firstEf l=dQ l[k]
 | f::r,0,_,_,h=>by unfold firstEf;exact if_pos h
 | f::r,k+1,hk,hp,h=>by
  unfold firstEf
  rw[if_neg (fun hh=>hh (hp 0 (by simp) (by omega)))]
  exact firstEf_at r k (by simpa using hk) (fun i hi hik=>hp (i+1) (by simpa using hi) (by omega)) h
theorem firstEf_none:∀(l:List Fr),(∀i (h:i<l.length),dQ l[i]=0)→firstEf l=0
 | [],_=>rfl
 | f::r,hp=>by
  unfold firstEf
  rw[if_neg (fun hh=>hh (hp 0 (by simp)))]
  exact firstEf_none r (fun i hi=>hp (i+1) (by simpa using hi))
def bJ (m:Mem):Int:=if 40<m.fs.length then 4 else if firstEf m.fs≠0 then firstEf m.fs else if m.hand<0∨(0<m.hand∧(m.fs.length:Int)≤m.hand) then 3 else 0
def jK (l:List Fr):Nat:=(l.filter (fun f=>decide (f.r=0))).length
theorem ER (l:List Fr) (k:Nat) (hk:k<l.length):jK (l.take (k+1))=if l[k].r=0 then jK (l.take k)+1 else jK (l.take k):=by
 unfold jK
 rw[List.take_add_one,List.getElem?_eq_getElem hk,Option.toList,List.filter_append]
 by_cases h:l[k].r=0<;>simp[h]
theorem yl (l:List Fr):jK l≤l.length:=List.length_filter_le _ _
def fr0:Fr:=⟨zPg,0,false,false,0,0⟩
def frZ:Fr:=⟨zPg,0,false,false,-1,0⟩
def rY (n:Int):Mem:=if 0≤n∧n≤40 then ⟨List.replicate n.toNat frZ,0⟩ else ⟨[],0⟩
def Gm (n:Int):Int:=if 0≤n∧n≤40 then 0 else 4
def noM:Mem:=⟨[],0⟩
theorem firstEf_all:∀(l:List Fr),firstEf l=0→∀f∈l,dQ f=0
 | [],_,_,h=>by cases h
 | g::r,h,f,hf=>by
  unfold firstEf at h
  by_cases hg:dQ g=0
  ·rw[if_neg (fun e=>e hg)] at h
   rcases List.mem_cons.1 hf with rfl|hf
   ·exact hg
   ·exact firstEf_all r h f hf
  ·rw[if_pos hg] at h
   exact absurd h hg
theorem dB (m:Mem):bJ m=0↔m.fs.length≤40∧(∀f∈m.fs,dQ f=0)∧0≤m.hand∧(m.hand=0∨m.hand<m.fs.length):=by
 unfold bJ
 constructor
 ·intro h
  by_cases h1:40<m.fs.length
  ·rw[if_pos h1] at h;cases h
  ·rw[if_neg h1] at h
   by_cases h2:firstEf m.fs=0
   ·rw[if_neg (fun e=>e h2)] at h
    by_cases h3:m.hand<0∨(0<m.hand∧(m.fs.length:Int)≤m.hand)
    ·rw[if_pos h3] at h;cases h
    ·exact⟨by omega,firstEf_all _ h2,by omega,by omega⟩
   ·rw[if_pos h2] at h;exact absurd h h2
 ·rintro⟨h1,h2,h3,h4⟩
  rw[if_neg (by omega)]
  have h5:firstEf m.fs=0:=firstEf_none _ (fun i hi=>h2 _ (List.getElem_mem hi))
  rw[h5,if_neg (fun e=>e rfl),if_neg (by omega)]
theorem fP (f:Fr):dQ f=0↔(0≤f.r∧f.r≤1000∧-1≤f.f∧f.f<5∧0≤f.i∧f.i<12)∧(f.r=0→f.u=false∧f.d=false∧f.f<0∧f.p=zPg)∧(f.f<0→f.i=0):=by
 unfold dQ
 have hb:Dz f=false↔(0≤f.r∧f.r≤1000∧-1≤f.f∧f.f<5∧0≤f.i∧f.i<12):=by
  simp only[Dz,Bool.or_eq_false_iff,decide_eq_false_iff_not,Int.not_lt,Int.not_le]
  omega
 have hu:CV f=false↔(f.r=0→f.u=false∧f.d=false∧f.f<0∧f.p=zPg):=by
  unfold CV
  by_cases h:f.r=0
  ·simp[h,and_assoc]
  ·simp[h]
 have hf:yI f=false↔(f.f<0→f.i=0):=by
  unfold yI
  by_cases h:f.f<0
  ·simp[h]
  ·simp[h]
 rw[←hb,←hu,←hf]
 cases Dz f<;>cases CV f<;>cases yI f<;>simp
def ky (m:Mem) (k n:Int):Int:=if bJ m≠0 then bJ m else if k<0∨(m.fs.length:Int)≤k∨(m.fs.getD k.toNat fr0).r=0 then 5 else if n < -(m.fs.getD k.toNat fr0).r∨1000-(m.fs.getD k.toNat fr0).r<n then 3 else 0
def ic (f:Fr) (n:Int):Fr:=if f.r+n=0 then frZ else { f with r:=f.r+n }
def jw (m:Mem) (k n:Int):Mem:=if ky m k n=0 then ⟨m.fs.set k.toNat (ic (m.fs.getD k.toNat fr0) n),m.hand⟩ else noM
def gH (m:Mem) (s:Nat):Nat:=(m.hand.toNat+s)%m.fs.length
def wy (m:Mem) (s i:Nat):Bool:=(List.range s).any (fun t=>gH m t==i)
def unused (f:Fr):Fr:={ f with u:=false }
def kL (m:Mem) (s:Nat):List Fr:=m.fs.mapIdx (fun i f=>if wy m s i then unused f else f)
def qD (m:Mem) (s:Nat):Bool:=decide (0<(m.fs.getD (gH m s) fr0).r)&&(!(m.fs.getD (gH m s) fr0).u||decide (m.fs.length≤s))
def fB (m:Mem):Nat:=((List.range (2*m.fs.length)).find? (qD m)).getD 0
def dU (m:Mem):Mem:=if bJ m≠0 then noM else if jK m.fs=m.fs.length then m else ⟨kL m (fB m),(gH m (fB m+1):Nat)⟩
def fV (m:Mem):Int:=if bJ m≠0 then 0 else if jK m.fs=m.fs.length then -1 else (gH m (fB m):Nat)
theorem kY {m:Mem} (h:0<m.fs.length) (s:Nat):gH m s<m.fs.length:=Nat.mod_lt _ h
theorem gu (m:Mem) (s:Nat):(kL m s).length=m.fs.length:=by simp[kL]
theorem pU (m:Mem) (s i:Nat) (hi:i<m.fs.length):(kL m s)[i]'(by rw[gu];exact hi)=if wy m s i then unused m.fs[i] else m.fs[i]:=by simp[kL]
theorem Iq (m:Mem) (s i:Nat):wy m (s+1) i=(wy m s i||gH m s==i):=by simp[wy,List.range_succ]
theorem KP (m:Mem):kL m 0=m.fs:=by
 apply List.ext_getElem
 ·rw[gu]
 ·intro i h1 h2
  rw[pU m 0 i h2]
  rfl
theorem LW (m:Mem) (s:Nat) (h:0<m.fs.length):(kL m s).set (gH m s) (unused ((kL m s)[gH m s]'(by rw[gu];exact kY h s)))=kL m (s+1):=by
 apply List.ext_getElem
 ·simp[gu]
 ·intro i h1 h2
  have hi:i<m.fs.length:=by rw[gu] at h2;exact h2
  rw[List.getElem_set,pU m (s+1) i hi,Iq]
  by_cases e:gH m s=i
  ·subst e
   rw[if_pos rfl,pU m s _ hi]
   cases wy m s (gH m s)<;>simp[unused]
  ·rw[if_neg e,pU m s i hi]
   have:(gH m s==i)=false:=by simpa using e
   rw[this,Bool.or_false]
theorem Kk (m:Mem) (s:Nat) (h:0<m.fs.length):wy m s (gH m s)=decide (m.fs.length≤s):=by
 rw[Bool.eq_iff_iff]
 simp only[wy,List.any_eq_true,List.mem_range,beq_iff_eq,decide_eq_true_eq]
 constructor
 ·rintro⟨t,ht,he⟩
  unfold gH at he
  rcases Nat.lt_or_ge s m.fs.length with hs|hs
  ·exfalso
   have h1:(m.hand.toNat+s)%m.fs.length=(m.hand.toNat+t+(s-t))%m.fs.length:=by congr 1;omega
   rw[h1,Nat.add_mod (m.hand.toNat+t) (s-t)] at he
   have h2:(s-t)%m.fs.length=s-t:=Nat.mod_eq_of_lt (by omega)
   rw[h2] at he
   have h3:=Nat.mod_lt (m.hand.toNat+t) h
   generalize (m.hand.toNat+t)%m.fs.length=x at *
   rcases Nat.lt_or_ge (x+(s-t)) m.fs.length with h4|h4
   ·rw[Nat.mod_eq_of_lt h4] at he;omega
   ·rw[Nat.mod_eq_sub_mod h4,Nat.mod_eq_of_lt (by omega)] at he;omega
  ·exact hs
 ·intro hs
  refine⟨s-m.fs.length,by omega,?_⟩
  unfold gH
  have:m.hand.toNat+s=(m.hand.toNat+(s-m.fs.length))+m.fs.length:=by omega
  rw[this,Nat.add_mod_right]
theorem Pn (m:Mem) (s:Nat) (h:0<m.fs.length):(kL m s)[gH m s]'(by rw[gu];exact kY h s)=if m.fs.length≤s then unused (m.fs[gH m s]'(kY h s)) else m.fs[gH m s]'(kY h s):=by
 rw[pU m s _ (kY h s),Kk m s h]
 simp
theorem Nn (m:Mem) (s:Nat) (h:0<m.fs.length):qD m s=(decide (0<((kL m s)[gH m s]'(by rw[gu];exact kY h s)).r)&&!((kL m s)[gH m s]'(by rw[gu];exact kY h s)).u):=by
 rw[Pn m s h]
 unfold qD
 rw[show m.fs.getD (gH m s) fr0=m.fs[gH m s]'(kY h s) from by simp[kY h s]]
 by_cases hs:m.fs.length≤s
 ·rw[if_pos hs];simp[hs,unused];rfl
 ·rw[if_neg hs];simp[hs]
theorem Jj (l:List Fr):jK l=l.length↔∀f∈l,f.r=0:=by
 unfold jK
 rw[List.length_filter_eq_length_iff]
 simp
theorem stops (m:Mem) (hw:bJ m=0) (hf:jK m.fs≠m.fs.length):∃s,s<2*m.fs.length∧qD m s=true:=by
 obtain⟨_,hall,hh,_⟩:=(dB m).1 hw
 rw[Ne,Jj] at hf
 obtain⟨f,hff⟩:=Classical.not_forall.1 hf
 obtain⟨hm,hr⟩:=Classical.not_imp.1 hff
 obtain⟨i,hi,rfl⟩:=List.mem_iff_getElem.1 hm
 have hr0:=((fP _).1 (hall _ hm)).1.1
 have hpos:0<m.fs.length:=by omega
 have hx:=Nat.mod_lt m.hand.toNat hpos
 refine⟨(i+m.fs.length-m.hand.toNat%m.fs.length)%m.fs.length+m.fs.length,by have:=Nat.mod_lt (i+m.fs.length-m.hand.toNat%m.fs.length) hpos;omega,?_⟩
 have hidx:gH m ((i+m.fs.length-m.hand.toNat%m.fs.length)%m.fs.length+m.fs.length)=i:=by
  unfold gH
  rw[←Nat.add_assoc,Nat.add_mod_right,Nat.add_mod,Nat.mod_mod]
  generalize m.hand.toNat%m.fs.length=x at *
  rcases Nat.lt_or_ge i x with h|h
  ·rw[Nat.mod_eq_of_lt (show i+m.fs.length-x<m.fs.length by omega)]
   rw[show x+(i+m.fs.length-x)=i+m.fs.length from by omega,Nat.add_mod_right,Nat.mod_eq_of_lt hi]
  ·have h3:i+m.fs.length-x=(i-x)+m.fs.length:=by omega
   rw[h3,Nat.add_mod_right,Nat.mod_eq_of_lt (show i-x<m.fs.length by omega),show x+(i-x)=i from by omega,Nat.mod_eq_of_lt hi]
 unfold qD
 rw[hidx]
 have:m.fs.getD i fr0=m.fs[i]:=by simp[hi]
 rw[this]
 have h1:0<m.fs[i].r:=by omega
 have h2:m.fs.length≤(i+m.fs.length-m.hand.toNat%m.fs.length)%m.fs.length+m.fs.length:=by omega
 simp[h1,h2]
theorem Kc (m:Mem) (hw:bJ m=0) (hf:jK m.fs≠m.fs.length):fB m<2*m.fs.length∧qD m (fB m)=true∧∀t,t<fB m→qD m t=false:=by
 obtain⟨s,hs,hst⟩:=stops m hw hf
 unfold fB
 cases hfd:(List.range (2*m.fs.length)).find? (qD m) with
 | none=>
  rw[List.find?_eq_none] at hfd
  exact absurd hst (hfd s (List.mem_range.2 hs))
 | some r=>
  rw[List.find?_range_eq_some] at hfd
  obtain⟨h1,h2,h3⟩:=hfd
  exact⟨List.mem_range.1 h2,h1,fun t ht=>by simpa using h3 t ht⟩
structure En where
 k:Int
 n:Int
 w:Bool
 deriving DecidableEq
def zEn:En:=⟨0,0,false⟩
abbrev Tb:=Vector (List En) 8
def eT (e:En):Int:=if e.k<0∨2<e.k then 1 else if e.n<0∨40≤e.n∧e.k=1∨60≤e.n then 3 else if e.k=0∧(e.n≠0∨e.w=true)∨e.k=2∧e.w=true then 7 else 0
def jP (h:List En):Int:=if h.length≠0∧h.length≠8 then 2 else if firstE (h.map eT)≠0 then firstE (h.map eT) else if 0<h.length∧h.any (fun e=>decide (e.k≠0))=false then 2 else 0
def cZ (t:Tb):Int:=firstE (t.toList.map jP)
def Bg (h:List En) (k:Nat):Bool:=(h.take k).any (fun e=>decide (e.k≠0))
theorem JS (h:List En) (k:Nat) (hk:k<h.length):Bg h (k+1)=(Bg h k||decide (h[k].k≠0)):=by
 unfold Bg
 rw[List.take_add_one,List.any_append,List.getElem?_eq_getElem hk]
 simp
theorem Ld (h:List En) (k:Nat) (hk:h.length≤k):Bg h k=h.any (fun e=>decide (e.k≠0)):=by
 unfold Bg
 rw[List.take_of_length_le hk]
theorem vS {t:Tb} (h:∀i (hi:i<8),jP t[i]=0):cZ t=0:=nO fun i hi=>by simpa using h i (by simpa using hi)
theorem vF {t:Tb} (k:Nat) (hk:k<8) (h:∀i (hi:i<8),i<k→jP t[i]=0) (hne:jP t[k]≠0):cZ t=jP t[k]:=by
 have:=qX (l:=t.toList.map jP) k (by simpa using hk) (fun i hi hik=>by simpa using h i (by simpa using hi) hik) (by simpa using hne)
 rw[cZ,this];simp
theorem yH {h:List En} (h1:h.length≠0∧h.length≠8):jP h=2:=by unfold jP;rw[if_pos h1]
theorem Du {h:List En} (h1:h.length=0∨h.length=8) (k:Nat) (hk:k<h.length) (hp:∀i (hi:i<h.length),i<k→eT h[i]=0) (hne:eT h[k]≠0):jP h=eT h[k]:=by
 have:=qX (l:=h.map eT) k (by simpa using hk) (fun i hi hik=>by simpa using hp i (by simpa using hi) hik) (by simpa using hne)
 have e:firstE (h.map eT)=eT h[k]:=by rw[this];simp
 unfold jP;rw[if_neg (by omega),e,if_pos hne]
theorem vo {h:List En} (h1:h.length=0∨h.length=8) (hp:∀i (hi:i<h.length),eT h[i]=0):jP h=if 0<h.length∧h.any (fun e=>decide (e.k≠0))=false then 2 else 0:=by
 have:=nO (l:=h.map eT) (fun i hi=>by simpa using hp i (by simpa using hi))
 unfold jP;rw[if_neg (by omega),this,if_neg (by omega)]
def zk (t:Tb):Prop:=∀k (h:k<8),t[k].length*24≤140737488355328
def dn (t:Tb) (n:Int):En:=if h:0≤n∧n<64 then (if (t[n.toNat / 8]'(by omega)).length=8 then (t[n.toNat / 8]'(by omega)).getD (n.toNat%8) zEn else zEn) else zEn
theorem mW {t:Tb} {n:Int} (h:n<0∨64≤n):dn t n=zEn:=by unfold dn;rw[dif_neg (by omega)]
theorem uH {t:Tb} (hq:q<8) (hr:r<8):dn t ((8*q+r:Nat):Int)=if t[q].length=8 then t[q].getD r zEn else zEn:=by
 unfold dn
 rw[dif_pos (by omega)]
 have e1:(((8*q+r:Nat):Int).toNat / 8)=q:=by rw[Int.toNat_natCast];omega
 have e2:(((8*q+r:Nat):Int).toNat%8)=r:=by rw[Int.toNat_natCast];omega
 simp only[e1,e2]
theorem rF {n:Int} (h:0≤n∧n<64):∃q r:Nat,q<8∧r<8∧n=((8*q+r:Nat):Int)∧n / 8=(q:Int)∧n%8=(r:Int):=by
 refine⟨(n / 8).toNat,(n%8).toNat,by omega,by omega,by omega,by omega,by omega⟩
def kC (e:En):Bool:=decide (e.k≠0)
def setE (t:Tb) (n:Int) (e:En):Int:=if cZ t≠0 then cZ t else if n<0∨64≤n then 3 else eT e
def Oy (h:List En):List En:=if h.any kC then h else []
def setH (h:List En) (r:Nat) (e:En):List En:=Oy ((if h.length=0 then List.replicate 8 zEn else h).set r e)
def zTb:Tb:=Vector.replicate 8 []
def setT (t:Tb) (n:Int) (e:En):Tb:=if h:(0≤n∧n<64)∧setE t n e=0 then t.set (n.toNat / 8) (setH (t[n.toNat / 8]'(by omega)) (n.toNat%8) e) (by omega) else zTb
theorem qN {t:Tb} {n:Int} {e:En} (h:setE t n e≠0):setT t n e=zTb:=by unfold setT;rw[dif_neg (fun h'=>h h'.2)]
theorem GV {t:Tb} {n:Int} {e:En} (h:setE t n e=0) (hq:q<8) (hr:r<8) (hn:n=((8*q+r:Nat):Int)):setT t n e=t.set q (setH t[q] r e):=by
 unfold setT
 subst hn
 rw[dif_pos ⟨by omega,h⟩]
 have e1:(((8*q+r:Nat):Int).toNat / 8)=q:=by rw[Int.toNat_natCast];omega
 have e2:(((8*q+r:Nat):Int).toNat%8)=r:=by rw[Int.toNat_natCast];omega
 simp only[e1,e2]
theorem mG {h:List En} (h0:jP h=0):h.length=0∨h.length=8:=by
 by_cases e:h.length≠0∧h.length≠8
 ·rw[yH e] at h0;cases h0
 ·omega
theorem jZ {t:Tb} (h:cZ t=0) (k:Nat) (hk:k<8):jP t[k]=0:=by
 have key:∀(l:List Int),firstE l=0→∀x∈l,x=0:=by
  intro l
  induction l with
  | nil=>intro _ x hx;cases hx
  | cons y r ih=>
   intro h x hx
   by_cases e:y=0
   ·simp only[firstE,e,if_true] at h
    rcases List.mem_cons.1 hx with rfl|hx
    ·exact e
    ·exact ih h x hx
   ·simp only[firstE,e,if_false] at h
 exact key _ h _ (List.mem_map.2 ⟨t[k],by simp,rfl⟩)
def ib (t:Tb) (k:Nat):List Int:=((List.range k).filter fun n:Nat=>kC (dn t (n:Int))).map fun n:Nat=>(n:Int)
def aI (t:Tb):List Int:=ib t 64
theorem mU (t:Tb) (k:Nat):(ib t k).length≤k:=by
 unfold ib
 rw[List.length_map]
 exact Nat.le_trans (List.length_filter_le _ _) (by simp)
theorem Cr {t:Tb} (h:kC (dn t (k:Int))=true):ib t (k+1)=ib t k++[(k:Int)]:=by
 unfold ib
 rw[List.range_succ,List.filter_append,List.map_append]
 simp[h]
theorem EA {t:Tb} (h:kC (dn t (k:Int))=false):ib t (k+1)=ib t k:=by
 unfold ib
 rw[List.range_succ,List.filter_append,List.map_append]
 simp[h]
structure wI (p:Int→Bool) (l:List Int) (j i:Nat) (cur:List Int):Prop where
 len:cur.length=l.length
 lt:i<j
 le:j≤l.length
 done:cur.take i=(l.take j).filter (fun x => !p x)
 rest:∀t,j≤t→cur[t]?=l[t]?
theorem wI.start {p:Int→Bool} (hi:i<l.length) (he:p l[i]=true) (hno:∀j (h:j<l.length),j<i→p l[j]=false):wI p l (i+1) i l:=by
 refine⟨rfl,by omega,by omega,?_,fun _ _=>rfl⟩
 rw[List.take_add_one,List.filter_append,List.getElem?_eq_getElem hi,Option.toList]
 have h1:(l.take i).filter (fun q => !p q)=l.take i:=by
  rw[List.filter_eq_self]
  intro q hq
  obtain⟨j,hj,rfl⟩:=List.mem_iff_getElem.1 hq
  simp only[List.length_take] at hj
  rw[List.getElem_take]
  simpa using hno j (by omega) (by omega)
 simp[h1,he]
theorem wI.keep {p:Int→Bool} {cur:List Int} (h:wI p l j i cur) (hj:j<l.length) (hne:p l[j]=false):wI p l (j+1) (i+1) (cur.set i l[j]):=by
 have h1:=h.lt
 have h2:=h.len
 refine⟨by simp[h.len],by omega,by omega,?_,fun t ht => ?_⟩
 ·have hi:i<cur.length:=by omega
  rw[List.take_add_one,List.getElem?_set_self hi,Option.toList,List.take_set_of_le (Nat.le_refl _),h.done]
  rw[List.take_add_one,List.filter_append,List.getElem?_eq_getElem hj,Option.toList]
  simp[hne]
 ·rw[List.getElem?_set_ne (by omega)]
  exact h.rest t (by omega)
theorem wI.skip {p:Int→Bool} {cur:List Int} (h:wI p l j i cur) (hj:j<l.length) (he:p l[j]=true):wI p l (j+1) i cur:=by
 have h1:=h.lt
 refine⟨h.len,by omega,by omega,?_,fun t ht=>h.rest t (by omega)⟩
 rw[h.done]
 rw[List.take_add_one,List.filter_append,List.getElem?_eq_getElem hj,Option.toList]
 simp[he]
theorem wI.all {p:Int→Bool} (h:∀i (h:i<l.length),p l[i]=false):l.filter (fun x => !p x)=l:=by
 rw[List.filter_eq_self]
 intro q hq
 obtain⟨j,hj,rfl⟩:=List.mem_iff_getElem.1 hq
 simpa using h j hj
def mf (t:Tb) (kind k:Int) (n:Int):Bool:=decide ((dn t n).k≠kind)||decide ((dn t n).n≠k)
def kW (t:Tb) (kind k:Int):List Int:=(aI t).filter fun n => !mf t kind k n
def eQ (t:Tb):List En:=(List.range 64).map fun n:Nat=>dn t (n:Int)
structure Qo (t:Tb) (m:Nat) (l:List En):Prop where
 len:l.length=64
 at' : ∀n (h:n<64),l[n]?=some (if n<m then dn t (n:Int) else zEn)
theorem Qo.step {t:Tb} {m:Nat} {l:List En} (h:Qo t m l) (hm:m<64) {E:En} (hE:dn t (m:Int)=E):Qo t (m+1) (l.set m E):=by
 refine⟨by simp[h.len],fun n hn => ?_⟩
 by_cases e:n=m
 ·subst e
  rw[List.getElem?_set_self (by rw[h.len];exact hn),if_pos (by omega),hE]
 ·rw[List.getElem?_set_ne (fun e2=>e e2.symm),h.at' n hn]
  congr 1
  by_cases e2:n<m
  ·rw[if_pos e2,if_pos (by omega)]
  ·rw[if_neg e2,if_neg (by omega)]
theorem zA {t:Tb} (hq:q<8) (hr:r<8) (h:t[q].length=0):dn t ((8*q+r:Nat):Int)=zEn:=by
 rw[uH hq hr,if_neg (by omega)]
theorem HZ {t:Tb} (hq:q<8) (hr:r<8) (h:t[q].length=8) {E:En} (hE:t[q][r]?=some E):dn t ((8*q+r:Nat):Int)=E:=by
 rw[uH hq hr,if_pos h,List.getD_eq_getElem?_getD,hE];rfl
def Ap (e:En):Bool:=decide (0<e.k)
def jg (l:List En) (i:Nat):List En:=(l.drop (8*i)).take 8
def jE (l:List En) (i:Nat):List En:=if (jg l i).any Ap then jg l i else []
def dZ (l:List En):Tb:=Vector.ofFn fun i:Fin 8=>jE l i.val
def rP (l:List En) (i k:Nat):Bool:=((l.drop (8*i)).take k).any Ap
theorem CW {l:List En} (hl:l.length=64) (hi:i<8) (hk:k<8):∃E,l[8*i+k]?=some E∧(l.drop (8*i)).take (k+1)=(l.drop (8*i)).take k++[E]:=by
 refine⟨l[8*i+k]'(by omega),List.getElem?_eq_getElem (by omega),?_⟩
 rw[List.take_add_one,List.getElem?_drop,List.getElem?_eq_getElem (by omega)]
 rfl
theorem xE {l:List En} (hl:l.length=64) (hi:i<8) (hk:k≤8):((l.drop (8*i)).take k).length=k:=by
 simp;omega
structure zK (l:List En) (i:Nat) (h:List En) (t:Tb):Prop where
 lo:∀j (hj:j<8),j<i→t[j]=jE l j
 at' : ∀(hi:i<8),t[i]=h
 hi:∀j (hj:j<8),i<j→t[j]=[]
theorem zK.start {l:List En}:zK l 0 [] zTb:=⟨fun _ _ h=>absurd h (Nat.not_lt_zero _),fun _=>by simp[zTb],fun j hj _=>by simp[zTb]⟩
theorem zK.next {l:List En} {t:Tb} (h:zK l i (jE l i) t) (hi:i<8):zK l (i+1) [] t:=by
 refine⟨fun j hj hji => ?_,fun h2=>h.hi _ h2 (by omega),fun j hj hji=>h.hi j hj (by omega)⟩
 by_cases e:j=i
 ·subst e;exact h.at' hj
 ·exact h.lo j hj (by omega)
theorem zK.set {l:List En} {h h2:List En} {t:Tb} (hh:zK l i h t) (hi:i<8):zK l i h2 (t.set i h2):=
 ⟨fun j hj hji=>by rw[Vector.getElem_set_ne hi hj (by omega)];exact hh.lo j hj hji,fun _=>by simp,fun j hj hji=>by rw[Vector.getElem_set_ne hi hj (by omega)];exact hh.hi j hj hji⟩
theorem zK.fin {l:List En} {h:List En} {t:Tb} (hh:zK l 8 h t):t=dZ l:=by
 apply Vector.ext
 intro i hi
 rw[hh.lo i hi hi]
 simp[dZ]
theorem Nw {l:List En} (h:rP l i 8=false):jE l i=[]:=by
 unfold jE jg
 unfold rP at h
 rw[h];rfl
theorem LB {l:List En} (h:rP l i 8=true):jE l i=(l.drop (8*i)).take 8:=by
 unfold jE jg
 unfold rP at h
 rw[h];rfl
structure Fi where
 n:Int
 b:List Int
 deriving DecidableEq
structure St where
 fs:List Fi
 count:Int
 deriving DecidableEq
theorem vz {n:Int} (h:n≤96):dO n≤12:=by unfold dO;split<;>omega
def iX (c:Int):List Int→List Int→Int
 | _,[]=>0
 | seen,b::r=>if b < -1∨c≤b then 3 else if 0≤b∧b∈seen then 7 else iX c (seen++[b]) r
def nU (c:Int):List Int→List Fi→Int
 | _,[]=>0
 | seen,f::r=>if f.n<0∨96<f.n then 3 else if (f.b.length:Int)≠dO f.n then 2 else if iX c seen f.b≠0 then iX c seen f.b else nU c (seen++f.b) r
theorem tC (c:Int) (seen:List Int) (b:Int) (r:List Int):iX c seen (b::r)=if b < -1∨c≤b then 3 else if 0≤b∧b∈seen then 7 else iX c (seen++[b]) r:=rfl
def aS (s:St):Int:=if 5<s.fs.length∨s.count<0∨80<s.count then 4 else nU s.count [] s.fs
def nE (l:List Int) (j:Int):Bool:=decide (j∈l)
theorem yN (l:List Int) (b:Int):(fun i=>nE l i||decide (i=b))=nE (l++[b]):=by
 funext i
 unfold nE
 rw[Bool.eq_iff_iff]
 simp
theorem drop_at {α:Type} {l:List α} {x:α} (h:l[k]?=some x):l.drop k=x::l.drop (k+1):=by
 have hk:=(List.getElem?_eq_some_iff.1 h).1
 rw[List.drop_eq_getElem_cons hk,(List.getElem?_eq_some_iff.1 h).2]
theorem take_at {α:Type} {l:List α} {x:α} (h:l[k]?=some x):l.take (k+1)=l.take k++[x]:=by
 rw[List.take_add_one,h]
 rfl
def newE (n:Int):Int:=if n<0∨80<n then 4 else 0
def Nr (n:Int):Int:=if n<0∨80<n then 0 else n
def iU (s:St):List Int:=s.fs.flatMap Fi.b
def jL (l:List Int):Nat:=(l.filter fun x=>decide (0≤x)).length
def jb (s:St):Int:=s.count-jL (iU s)
theorem Cw (l m:List Int):jL (l++m)=jL l+jL m:=by unfold jL;rw[List.filter_append,List.length_append]
theorem NC (l:List Int):jL l≤l.length:=List.length_filter_le _ _
def eY (s:St) (b:Int):Bool:=decide (b∈iU s)
theorem NK (l:List Int) (x:Int):l.any (fun y=>decide (x=y))=decide (x∈l):=by
 rw[Bool.eq_iff_iff,List.any_eq_true,decide_eq_true_eq]
 constructor
 ·rintro⟨y,hy,h⟩;rw[of_decide_eq_true h];exact hy
 ·intro h;exact⟨x,h,decide_eq_true rfl⟩
def dH (s:St):Int:=match (List.range s.count.toNat).find? (fun b:Nat => !eY s b) with
 | some b=>b
 | none => -1
theorem He {s:St} (hb:(b:Int)<s.count) (h:∀i:Nat,i<b→eY s i=true) (hf:eY s b=false):dH s=b:=by
 unfold dH
 have:(List.range s.count.toNat).find? (fun b:Nat => !eY s b)=some b:=by
  rw[List.find?_range_eq_some]
  exact⟨by simp[hf],List.mem_range.2 (by omega),fun j hj=>by simp[h j hj]⟩
 rw[this]
theorem Cm {s:St} (h:∀i:Nat,(i:Int)<s.count→eY s i=true):dH s = -1:=by
 unfold dH
 have:(List.range s.count.toNat).find? (fun b:Nat => !eY s b)=none:=by
  rw[List.find?_eq_none]
  intro i hi
  have:=List.mem_range.1 hi
  simp[h i (by omega)]
 rw[this]
def zSt:St:=⟨[],0⟩
theorem gF {s:St} (h:aS s=0):s.fs.length≤5∧0≤s.count∧s.count≤80:=by
 unfold aS at h
 by_cases g:5<s.fs.length∨s.count<0∨80<s.count
 ·rw[if_pos g] at h;cases h
 ·omega
theorem yS {c:Int}:∀ {fs:List Fi} {seen:List Int},nU c seen fs=0→∀f∈fs,0≤f.n∧f.n≤96∧(f.b.length:Int)=dO f.n∧∀b∈f.b,-1≤b∧b<c
 | f0::r,seen,h,f,hf=>by
  unfold nU at h
  by_cases g1:f0.n<0∨96<f0.n
  ·rw[if_pos g1] at h;cases h
  ·rw[if_neg g1] at h
   by_cases g2:(f0.b.length:Int)≠dO f0.n
   ·rw[if_pos g2] at h;cases h
   ·rw[if_neg g2] at h
    by_cases g3:iX c seen f0.b≠0
    ·rw[if_pos g3] at h;exact absurd h g3
    ·rw[if_neg g3] at h
     rcases List.mem_cons.1 hf with rfl|hf
     ·refine⟨by omega,by omega,Classical.not_not.1 g2,?_⟩
      have key:∀(l:List Int) (sn:List Int),iX c sn l=0→∀b∈l,-1≤b∧b<c:=by
       intro l
       induction l with
       | nil=>intro _ _ b hb;cases hb
       | cons x r ih=>
        intro sn h b hb
        rw[tC] at h
        by_cases k1:x < -1∨c≤x
        ·rw[if_pos k1] at h;cases h
        ·rw[if_neg k1] at h
         by_cases k2:0≤x∧x∈sn
         ·rw[if_pos k2] at h;cases h
         ·rw[if_neg k2] at h
          rcases List.mem_cons.1 hb with rfl|hb
          ·omega
          ·exact ih _ h b hb
      exact key _ _ (Classical.not_not.1 g3)
     ·exact yS h f hf
theorem tZ {s:St} (h:aS s=0):∀f∈s.fs,0≤f.n∧f.n≤96∧(f.b.length:Int)=dO f.n∧∀b∈f.b,-1≤b∧b<s.count:=by
 have h1:=gF h
 unfold aS at h
 rw[if_neg (by omega)] at h
 exact yS h
def aT (s:St) (k:Int):Fi:=if 0≤k then s.fs.getD k.toNat ⟨0,[]⟩ else ⟨0,[]⟩
def uj (s:St) (k:Int) (f:Fi):St:=⟨s.fs.set k.toNat f,s.count⟩
def bA (s:St) (k i:Int):Int:=(aT s k).b.getD i.toNat 0
def bL (s:St) (k i:Int):Int:=
 if aS s≠0 then aS s else if k<0∨(s.fs.length:Int)≤k then 5 else if i<0∨((aT s k).b.length:Int)≤i then 9
 else if bA s k i<0∧dH s<0 then 10 else 0
def dh (s:St) (k i:Int):Int:=if bL s k i≠0 then 0 else if bA s k i<0 then dH s else bA s k i
def cO (s:St) (k i:Int):St:=if bL s k i≠0 then zSt else if bA s k i<0 then uj s k ⟨(aT s k).n,(aT s k).b.set i.toNat (dH s)⟩ else s
theorem rG {s:St} {k i e:Int} (h:bL s k i=e) (he:e≠0):bL s k i=e∧dh s k i=0∧cO s k i=zSt:=by
 refine⟨h,?_,?_⟩
 ·unfold dh;rw[if_pos (by rw[h];exact he)]
 ·unfold cO;rw[if_pos (by rw[h];exact he)]
theorem Jq {s:St} (h:s.count≤80):dH s<80∧-1≤dH s:=by
 unfold dH
 cases hf:(List.range s.count.toNat).find? (fun b:Nat => !eY s b) with
 | none=>simp
 | some b=>
  have:=List.mem_range.1 (List.mem_of_find?_eq_some hf)
  simp
  omega
def iF (l:List Int):List Int:=l.filter fun x=>decide (0≤x)
theorem oG (l m:List Int):iF (l++m)=iF l++iF m:=List.filter_append _ _
theorem fE {x:Int}:x∈iF l↔x∈l∧0≤x:=by unfold iF;simp
theorem vI {c:Int}:∀ {l seen:List Int},iX c seen l=0↔(∀b∈l,-1≤b∧b<c)∧(iF l).Nodup∧∀b∈l,0≤b→¬b∈seen
 | [],seen=>by simp[iX,iF]
 | x::r,seen=>by
  rw[tC]
  by_cases k1:x < -1∨c≤x
  ·rw[if_pos k1]
   refine⟨fun h=>(by cases h),fun h => ?_⟩
   have:=h.1 x List.mem_cons_self
   omega
  ·rw[if_neg k1]
   by_cases k2:0≤x∧x∈seen
   ·rw[if_pos k2]
    refine⟨fun h=>(by cases h),fun h=>absurd k2.2 (h.2.2 x List.mem_cons_self k2.1)⟩
   ·rw[if_neg k2,vI (l:=r)]
    have hp:iF (x::r)=if 0≤x then x::iF r else iF r:=by unfold iF;rw[List.filter_cons];simp
    rw[hp]
    constructor
    ·intro ⟨h1,h2,h3⟩
     refine⟨fun b hb => ?_,?_,fun b hb h0 hs => ?_⟩
     ·rcases List.mem_cons.1 hb with rfl|hb
      ·omega
      ·exact h1 b hb
     ·by_cases hx:0≤x
      ·rw[if_pos hx]
       refine List.nodup_cons.2 ⟨fun hm => ?_,h2⟩
       exact h3 x (fE.1 hm).1 hx (List.mem_append_right _ (List.mem_singleton.2 rfl))
      ·rw[if_neg hx];exact h2
     ·rcases List.mem_cons.1 hb with rfl|hb
      ·exact k2 ⟨h0,hs⟩
      ·exact h3 b hb h0 (List.mem_append_left _ hs)
    ·intro ⟨h1,h2,h3⟩
     refine⟨fun b hb=>h1 b (List.mem_cons_of_mem _ hb),?_,fun b hb h0 hs => ?_⟩
     ·by_cases hx:0≤x
      ·rw[if_pos hx] at h2;exact (List.nodup_cons.1 h2).2
      ·rw[if_neg hx] at h2;exact h2
     ·rcases List.mem_append.1 hs with hs|hs
      ·exact h3 b (List.mem_cons_of_mem _ hb) h0 hs
      ·rw[List.mem_singleton.1 hs] at hb h0
       rw[if_pos h0] at h2
       exact (List.nodup_cons.1 h2).1 (fE.2 ⟨hb,h0⟩)
def yM (c:Int) (f:Fi):Prop:=0≤f.n∧f.n≤96∧(f.b.length:Int)=dO f.n∧∀b∈f.b,-1≤b∧b<c
theorem zW {c:Int}:∀ {fs:List Fi} {seen:List Int},nU c seen fs=0↔(∀f∈fs,yM c f)∧(iF (fs.flatMap Fi.b)).Nodup∧∀b∈fs.flatMap Fi.b,0≤b→¬b∈seen
 | [],seen=>by simp[nU,iF]
 | f::r,seen=>by
  unfold nU
  by_cases g1:f.n<0∨96<f.n
  ·rw[if_pos g1]
   refine⟨fun h=>(by cases h),fun h => ?_⟩
   have:=h.1 f List.mem_cons_self
   unfold yM at this
   omega
  ·rw[if_neg g1]
   by_cases g2:(f.b.length:Int)≠dO f.n
   ·rw[if_pos g2]
    exact⟨fun h=>(by cases h),fun h=>absurd (h.1 f List.mem_cons_self).2.2.1 g2⟩
   ·rw[if_neg g2,List.flatMap_cons,oG]
    by_cases g3:iX c seen f.b≠0
    ·rw[if_pos g3]
     refine⟨fun h=>absurd h g3,fun h=>absurd (vI.2 ⟨(h.1 f List.mem_cons_self).2.2.2,(List.nodup_append.1 h.2.1).1,fun b hb=>h.2.2 b (List.mem_append_left _ hb)⟩) g3⟩
    ·rw[if_neg g3,zW (fs:=r)]
     have g3':=vI.1 (Classical.not_not.1 g3)
     constructor
     ·intro ⟨h1,h2,h3⟩
      refine⟨fun x hx => ?_,List.nodup_append.2 ⟨g3'.2.1,h2,fun a ha b hb e => ?_⟩,fun b hb h0 hs => ?_⟩
      ·rcases List.mem_cons.1 hx with rfl|hx
       ·exact⟨by omega,by omega,Classical.not_not.1 g2,g3'.1⟩
       ·exact h1 x hx
      ·subst e
       exact h3 a (fE.1 hb).1 (fE.1 hb).2 (List.mem_append_right _ (fE.1 ha).1)
      ·rcases List.mem_append.1 hb with hb|hb
       ·exact g3'.2.2 b hb h0 hs
       ·exact h3 b hb h0 (List.mem_append_left _ hs)
     ·intro ⟨h1,h2,h3⟩
      obtain⟨n1,n2,n3⟩:=List.nodup_append.1 h2
      refine⟨fun x hx=>h1 x (List.mem_cons_of_mem _ hx),n2,fun b hb h0 hs => ?_⟩
      rcases List.mem_append.1 hs with hs|hs
      ·exact h3 b (List.mem_append_right _ hb) h0 hs
      ·exact n3 b (fE.2 ⟨hs,h0⟩) b (fE.2 ⟨hb,h0⟩) rfl
theorem iK {s:St}:aS s=0↔(s.fs.length≤5∧0≤s.count∧s.count≤80)∧(∀f∈s.fs,yM s.count f)∧(iF (iU s)).Nodup:=by
 unfold aS
 by_cases g:5<s.fs.length∨s.count<0∨80<s.count
 ·rw[if_pos g]
  exact⟨fun h=>(by cases h),fun h=>by omega⟩
 ·rw[if_neg g,zW]
  exact⟨fun h=>⟨by omega,h.1,h.2.1⟩,fun h=>⟨h.2.1,h.2.2,fun b _ _ hm=>by cases hm⟩⟩
structure Ar where
 fr:Int
 en:Int
 rd:Bool
 wr:Bool
 sh:Bool
 fi:Int
 ba:Int
 deriving DecidableEq
def aK (a:Ar):Int:=if a.fr<0∨a.en≤a.fr∨64<a.en∨a.fi < -1∨5≤a.fi∨a.ba<0 then 3 else if (a.fi<0∧(a.ba≠0∨a.sh=true))∨0≤a.fi∧12-(a.en-a.fr)<a.ba then 7 else 0
def iq (a:Ar):Int:=if 0≤a.fi then a.ba+a.en-a.fr else 0
def bR (a b:Ar):Bool:=a.en==b.fr&&a.rd==b.rd&&a.wr==b.wr&&a.sh==b.sh&&a.fi==b.fi&&b.ba==iq a
def vU (a:Ar):Prop:=(0≤a.ba∧a.ba≤12)∧(0≤a.fr∧a.fr≤64)∧0≤a.en∧a.en≤64
theorem aX {a:Ar} (h:aK a=0):vU a∧a.fr<a.en∧-1≤a.fi∧a.fi<5∧(a.fi<0→a.ba=0∧a.sh=false)∧(0≤a.fi→a.ba≤12-(a.en-a.fr)):=by
 unfold aK at h
 split at h
 ·omega
 ·rename_i h1
  split at h
  ·omega
  ·rename_i h2
   have hs:a.fi<0→a.ba=0∧a.sh=false:=fun hf=>⟨Decidable.byContradiction fun h=>h2 (.inl ⟨hf,.inl h⟩),by
    cases hsh:a.sh
    ·rfl
    ·exact absurd (.inl ⟨hf,.inr hsh⟩) h2⟩
   have hb:0≤a.fi→a.ba≤12-(a.en-a.fr):=fun hf=>by omega
   unfold vU
   refine⟨⟨⟨by omega,?_⟩,by omega,by omega,by omega⟩,by omega,by omega,by omega,hs,hb⟩
   by_cases hf:a.fi<0
   ·have:=(hs hf).1;omega
   ·have:=hb (by omega);omega
def gV (p:Option Ar) (i:Nat):List Ar→Int × Int
 | []=>(0,0)
 | a::r=>if aK a≠0 then (aK a,i) else if (match p with | some q=>decide (a.fr<q.en)||bR q a | none=>false) then (2,i) else gV (some a) (i+1) r
def bF (l:List Ar):Int × Int:=if 16<l.length then (4,0) else gV none 0 l
def lT (l:List Ar) (k:Nat):Option Ar:=if k=0 then none else l[k-1]?
theorem xG {l:List Ar} (hk:k<l.length):lT l (k+1)=some l[k]:=by simp[lT,hk]
def qi (p:Option Ar) (a:Ar):Bool:=match p with | some q=>decide (a.fr<q.en)||bR q a | none=>false
theorem kK (p:Option Ar) (i:Nat) (a:Ar) (r:List Ar):gV p i (a::r)=if aK a≠0 then (aK a,(i:Int)) else if qi p a then (2,(i:Int)) else gV (some a) (i+1) r:=rfl
theorem qd {l:List Ar} (hlt:k<l.length) (he:aK l[k]=0) (hno:qi (lT l k) l[k]=false):gV (lT l k) k (l.drop k)=gV (lT l (k+1)) (k+1) (l.drop (k+1)):=by
 rw[List.drop_eq_getElem_cons hlt,kK,if_neg (by rw[he];simp),hno,xG hlt]
 rfl
theorem pG {l:List Ar} (hlt:k<l.length) (he:aK l[k]=0) (hno:qi (lT l k) l[k]=true):gV (lT l k) k (l.drop k)=(2,(k:Int)):=by
 rw[List.drop_eq_getElem_cons hlt,kK,if_neg (by rw[he];simp),hno]
 rfl
theorem Ag {l:List Ar} (hlt:k<l.length) (he:aK l[k]≠0):gV (lT l k) k (l.drop k)=(aK l[k],(k:Int)):=by
 rw[List.drop_eq_getElem_cons hlt,kK,if_pos he]
theorem DC {l:List Ar} {m:Nat} (hm:m+1<l.length):qi (lT l (m+1)) l[m+1]=(decide (l[m+1].fr<l[m].en)||bR l[m] l[m+1]):=by
 rw[xG (show m<l.length by omega)]
 rfl
def kU (n:Int) (a:Ar):Bool:=decide (a.fr≤n)&&decide (n<a.en)
def iW (l:List Ar) (n:Int):Int:=idx (kU n) l
def lY (b a:Ar):Bool:=decide (a.fr<b.en)&&decide (b.fr<a.en)
def uG (b a:Ar):Bool:=decide (b.fr<a.fr)
def zAr:Ar:=⟨0,0,false,false,false,0,0⟩
def uD (acc:List Ar) (a:Ar):List Ar:=match acc.getLast? with
 | some q=>if bR q a then acc.set (acc.length-1) { q with en:=a.en } else acc++[a]
 | none=>acc++[a]
def nI (l:List Ar):List Ar:=l.foldl uD []
theorem zR {l:List Ar} (h:(bF l).1=0):l.length≤16∧∀a∈l,aK a=0:=by
 unfold bF at h
 split at h
 ·exact absurd h (by decide)
 ·refine⟨by omega,?_⟩
  have key:∀(l:List Ar) (p:Option Ar) (i:Nat),(gV p i l).1=0→∀a∈l,aK a=0:=by
   intro l
   induction l with
   | nil=>intro p i _ a ha;cases ha
   | cons b r ih=>
    intro p i h a ha
    rw[kK] at h
    split at h
    ·rename_i hb;exact absurd h hb
    ·rename_i hb
     split at h
     ·exact absurd (show (2:Int)=0 from h) (by decide)
     ·rcases List.mem_cons.1 ha with rfl|ha
      ·exact Decidable.byContradiction hb
      ·exact ih _ _ h a ha
  exact key l none 0 h
def Pk (l:List Ar) (x:Ar):Nat:=match l.findIdx? (uG x) with
 | some k=>k
 | none=>l.length
def xJ (l:List Ar) (x:Ar):List Ar:=l.take (Pk l x)++x::l.drop (Pk l x)
def ve (l:List Ar) (x:Ar):Int:=if (bF l).1≠0 then (bF l).1 else if aK x≠0 then aK x else if l.any (lY x)=true then 6 else if 16<(nI (xJ l x)).length then 4 else 0
def sN (l:List Ar) (x:Ar):List Ar:=if ve l x≠0 then [] else nI (xJ l x)
theorem Bl {l:List Ar} {x:Ar} {e:Int} (h:ve l x=e) (he:e≠0):ve l x=e∧sN l x=[]:=by
 refine⟨h,?_⟩
 unfold sN;rw[if_pos (by rw[h];exact he)]
def yT (n:Nat):Int:=if 16<n then 4 else 0
def aa:Ar:=⟨2,8,true,false,false,-1,0⟩
structure Pg where
 rd:Bool
 wr:Bool
 sh:Bool
 fi:Int
 pg:Int
 deriving DecidableEq
def iJ (a:Ar) (n:Int):Pg:=⟨a.rd,a.wr,a.sh,a.fi,if 0≤a.fi then a.ba+n-a.fr else 0⟩
def onA:List Ar→Int→Option Pg
 | [],_=>none
 | a::r,n=>if kU n a then some (iJ a n) else onA r n
theorem bX {n:Int} {a:Ar}:kU n a=true↔a.fr≤n∧n<a.en:=by unfold kU;simp
theorem bM (a:Ar) (r:List Ar) (n:Int):onA (a::r) n=if kU n a then some (iJ a n) else onA r n:=rfl
theorem AL (l m:List Ar) (n:Int):onA (l++m) n=(onA l n).or (onA m n):=by
 induction l with
 | nil=>simp[onA]
 | cons a r ih=>rw[List.cons_append,bM,bM];split<;>simp[ih]
def srtF:Int→List Ar→Prop
 | _,[]=>True
 | lo,a::r=>aK a=0∧lo≤a.fr∧srtF a.en r
theorem srtF_ok:∀ {l:List Ar} {lo:Int},srtF lo l→∀a∈l,aK a=0∧lo≤a.fr
 | b::r,lo,h,a,ha=>by
  rcases List.mem_cons.1 ha with rfl|ha
  ·exact⟨h.1,h.2.1⟩
  ·have h1:=srtF_ok h.2.2 a ha
   have h2:=(aX h.1).2.1
   have h3:=h.2.1
   exact⟨h1.1,by omega⟩
theorem on_low:∀ {l:List Ar} {lo n:Int},srtF lo l→n<lo→onA l n=none
 | [],_,_,_,_=>rfl
 | a::r,lo,n,h,hn=>by
  have h1:=h.2.1
  have h2:=(aX h.1).2.1
  rw[bM,if_neg (by rw[bX];omega)]
  exact on_low h.2.2 (by omega)
def okF (p:Option Ar):List Ar→Prop
 | []=>True
 | a::r=>aK a=0∧qi p a=false∧okF (some a) r
theorem tT {q a:Ar}:qi (some q) a=false↔q.en≤a.fr∧bR q a=false:=by
 unfold qi
 simp
theorem okF_srt:∀ {l:List Ar} {q:Ar},okF (some q) l→srtF q.en l
 | [],_,_=>trivial
 | a::r,q,h=>⟨h.1,(tT.1 h.2.1).1,okF_srt h.2.2⟩
theorem lN {l:List Ar} (h:okF none l):srtF 0 l:=by
 match l,h with
 | [],_=>trivial
 | a::r,h=>exact⟨h.1,by have:=(aX h.1).1.2.1.1;exact this,okF_srt h.2.2⟩
theorem wrongAt_iff:∀ {l:List Ar} {p:Option Ar} {i:Nat},(gV p i l).1=0↔okF p l
 | [],_,_=>⟨fun _=>trivial,fun _=>rfl⟩
 | a::r,p,i=>by
  rw[kK]
  by_cases h:aK a=0
  ·rw[if_neg (by rw[h];simp)]
   cases hb:qi p a
   ·rw[if_neg (by simp),wrongAt_iff]
    exact⟨fun h2=>⟨h,hb,h2⟩,fun h2=>h2.2.2⟩
   ·rw[if_pos rfl]
    refine⟨fun h2=>absurd (show (2:Int)=0 from h2) (by decide),fun h2 => ?_⟩
    have h3:=h2.2.1
    rw[hb] at h3
    cases h3
  ·rw[if_pos h]
   exact⟨fun h2=>absurd h2 h,fun h2=>absurd h2.1 h⟩
theorem iO {l:List Ar}:(bF l).1=0↔l.length≤16∧okF none l:=by
 unfold bF
 by_cases h:16<l.length
 ·rw[if_pos h]
  exact⟨fun h2=>absurd (show (4:Int)=0 from h2) (by decide),fun h2=>by omega⟩
 ·rw[if_neg h,wrongAt_iff]
  exact⟨fun h2=>⟨by omega,h2⟩,fun h2=>h2.2⟩
theorem oD {q a:Ar}:bR q a=true↔q.en=a.fr∧q.rd=a.rd∧q.wr=a.wr∧q.sh=a.sh∧q.fi=a.fi∧a.ba=iq q:=by
 unfold bR
 simp[and_assoc]
theorem JY {q a:Ar} (h:bR q a=true) (n:Int):iJ a n=iJ q n:=by
 obtain⟨h1,h2,h3,h4,h5,h6⟩:=oD.1 h
 unfold iJ iq at *
 rw[←h2,←h3,←h4,←h5]
 split
 ·rename_i hf;rw[h6,if_pos hf];congr 1;omega
 ·rfl
theorem on_uniq:∀ {l m:List Ar} {p q:Option Ar},okF p l→okF q m→(∀n,onA l n=onA m n)→l=m
 | [],[],_,_,_,_,_=>rfl
 | [],b::s,_,_,_,hm,h=>by
  have:=h b.fr
  rw[bM,if_pos (bX.2 ⟨Int.le_refl _,(aX hm.1).2.1⟩)] at this
  cases this
 | a::r,[],_,_,hl,_,h=>by
  have:=h a.fr
  rw[bM,if_pos (bX.2 ⟨Int.le_refl _,(aX hl.1).2.1⟩)] at this
  cases this
 | a::r,b::s,p,q,hl,hm,h=>by
  have ea:=aX hl.1
  have eb:=aX hm.1
  have sr:=okF_srt hl.2.2
  have ss:=okF_srt hm.2.2
  have half:∀ {a b:Ar} {r s:List Ar},aK a=0→aK b=0→srtF a.en r→srtF b.en s→(∀n,onA (a::r) n=onA (b::s) n)→¬a.fr<b.fr:=by
   intro a b r s ha hb hr hs h hlt
   have h1:=h a.fr
   have h2:=(aX ha).2.1
   have h3:=(aX hb).2.1
   rw[bM,if_pos (bX.2 ⟨Int.le_refl _,h2⟩),bM,if_neg (by rw[bX];omega),on_low hs (by omega)] at h1
   cases h1
  have hfr:a.fr=b.fr:=by
   have h1:=half hl.1 hm.1 sr ss h
   have h2:=half hm.1 hl.1 ss sr (fun n=>(h n).symm)
   omega
  have h1:=h a.fr
  rw[bM,if_pos (bX.2 ⟨Int.le_refl _,ea.2.1⟩),bM,if_pos (bX.2 ⟨by omega,by have:=eb.2.1;omega⟩)] at h1
  have hpg:=Option.some.inj h1
  unfold iJ at hpg
  simp only[Pg.mk.injEq] at hpg
  obtain⟨g1,g2,g3,g4,g5⟩:=hpg
  have hba:a.ba=b.ba:=by
   by_cases hf:0≤a.fi
   ·rw[if_pos hf,if_pos (by omega)] at g5;omega
   ·rw[(ea.2.2.2.2.1 (by omega)).1,(eb.2.2.2.2.1 (by omega)).1]
  have half2:∀ {a b:Ar} {r s:List Ar},aK a=0→aK b=0→okF (some a) r→a.fr=b.fr→a.rd=b.rd→a.wr=b.wr→a.sh=b.sh→a.fi=b.fi→a.ba=b.ba→(∀n,onA (a::r) n=onA (b::s) n)→¬a.en<b.en:=by
   intro a b r s ha hb hr k1 k2 k3 k4 k5 k6 h hlt
   have h1:=h a.en
   have h2:=(aX ha).2.1
   rw[bM,if_neg (by rw[bX];omega),bM,if_pos (bX.2 ⟨by omega,hlt⟩)] at h1
   match r,hr with
   | [],_=>cases h1
   | c::t,hr=>
    have hc:=tT.1 hr.2.1
    rw[bM] at h1
    split at h1
    ·rename_i hin
     rw[bX] at hin
     have hp:=Option.some.inj h1
     unfold iJ at hp
     simp only[Pg.mk.injEq] at hp
     obtain⟨g1,g2,g3,g4,g5⟩:=hp
     have:bR a c=true:=by
      rw[oD]
      refine⟨by omega,by rw[k2,g1],by rw[k3,g2],by rw[k4,g3],by omega,?_⟩
      unfold iq
      by_cases hf:0≤a.fi
      ·rw[if_pos (by omega),if_pos (by omega)] at g5
       rw[if_pos hf];omega
      ·rw[if_neg hf]
       exact ((aX hr.1).2.2.2.2.1 (by omega)).1
     rw[hc.2] at this
     cases this
    ·rename_i hin
     rw[bX] at hin
     have:=(aX hr.1).2.1
     rw[on_low (okF_srt hr.2.2) (by omega)] at h1
     cases h1
  have hen:a.en=b.en:=by
   have h1:=half2 hl.1 hm.1 hl.2.2 hfr g1 g2 g3 g4 hba h
   have h2:=half2 hm.1 hl.1 hm.2.2 hfr.symm g1.symm g2.symm g3.symm g4.symm hba.symm (fun n=>(h n).symm)
   omega
  have hab:a=b:=by
   cases a;cases b
   simp_all
  subst hab
  congr 1
  refine on_uniq hl.2.2 hm.2.2 fun n => ?_
  have h1:=h n
  rw[bM,bM] at h1
  split at h1
  ·rename_i hin
   rw[bX] at hin
   rw[on_low sr (by omega),on_low ss (by omega)]
  ·exact h1
def nY (q:Ar):List Ar→List Ar
 | []=>[q]
 | a::r=>if bR q a then nY { q with en:=a.en } r else q::nY a r
theorem CG (init:List Ar) (q a:Ar):uD (init++[q]) a=if bR q a then init++[{ q with en:=a.en }] else init++[q]++[a]:=by
 unfold uD
 rw[List.getLast?_concat]
 simp only[]
 split
 ·simp
 ·rfl
theorem tidy_go:∀(r:List Ar) (init:List Ar) (q:Ar),r.foldl uD (init++[q])=init++nY q r
 | [],init,q=>rfl
 | a::r,init,q=>by
  rw[List.foldl_cons,CG]
  unfold nY
  split
  ·exact tidy_go r init _
  ·rw[tidy_go r (init++[q]) a,List.append_assoc];rfl
theorem sP (a:Ar) (r:List Ar):nI (a::r)=nY a r:=by
 unfold nI
 rw[List.foldl_cons]
 exact tidy_go r [] a
theorem wo {q a:Ar} (hq:aK q=0) (ha:aK a=0) (h:bR q a=true):aK { q with en:=a.en }=0:=by
 obtain⟨h1,h2,h3,h4,h5,h6⟩:=oD.1 h
 have eq:=aX hq
 have ea:=aX ha
 unfold vU at eq ea
 unfold aK
 rw[if_neg (by simp only[];omega),if_neg]
 simp only[]
 rintro (⟨k1,k2⟩|⟨k1,k2⟩)
 ·have:=eq.2.2.2.2.1 k1
  rcases k2 with k2|k2
  ·exact k2 this.1
  ·rw[this.2] at k2;cases k2
 ·have h7:=ea.2.2.2.2.2 (by omega)
  unfold iq at h6
  rw[if_pos k1] at h6
  omega
theorem MU {q a:Ar} {r:List Ar} (hq:aK q=0) (ha:aK a=0) (h:bR q a=true) (n:Int):onA ({ q with en:=a.en }::r) n=onA (q::a::r) n:=by
 have hp:=JY h n
 obtain⟨h1,_⟩:=oD.1 h
 have h2:=(aX hq).2.1
 have h3:=(aX ha).2.1
 rw[bM,bM,bM]
 have hpp:iJ { q with en:=a.en } n=iJ q n:=rfl
 by_cases c1:kU n q=true
 ·rw[if_pos c1,if_pos (by rw[bX] at c1 ⊢; simp only[];omega),hpp]
 ·rw[if_neg c1]
  by_cases c2:kU n a=true
  ·rw[if_pos c2,if_pos (by rw[bX] at c2 ⊢; simp only[];omega),hpp,hp]
  ·rw[if_neg c2,if_neg]
   rw[bX] at c1 c2 ⊢
   simp only[]
   omega
def Ew (x:Ar):List Ar→List Ar
 | []=>[x]
 | a::r=>if x.fr<a.fr then x::a::r else a::Ew x r
theorem wO (x:Ar):∀l:List Ar,xJ l x=Ew x l
 | []=>rfl
 | a::r=>by
  have ih:=wO x r
  unfold xJ Pk at ih ⊢
  unfold Ew
  rw[List.findIdx?_cons]
  by_cases h:x.fr<a.fr
  ·rw[if_pos h,if_pos (show uG x a=true from decide_eq_true h)]
   rfl
  ·rw[if_neg h,if_neg (show ¬uG x a=true by unfold uG;simpa using h)]
   cases hq:r.findIdx? (uG x) with
   | none=>rw[hq] at ih;simp only[Option.map_none] at *; rw[←ih];simp
   | some k=>rw[hq] at ih;simp only[Option.map_some] at *; rw[←ih];simp
theorem AV {x:Ar} (hx:aK x=0) (n:Int):∀ {l:List Ar} {lo:Int},srtF lo l→(∀a∈l,lY x a=false)→onA (Ew x l) n=if kU n x then some (iJ x n) else onA l n
 | [],_,_,_=>rfl
 | a::r,lo,h,hm=>by
  unfold Ew
  split
  ·rfl
  ·rename_i hlt
   rw[bM,bM,AV hx n h.2.2 (fun b hb=>hm b (List.mem_cons_of_mem _ hb))]
   by_cases c1:kU n a=true
   ·rw[if_pos c1,if_pos c1]
    rw[if_neg]
    rw[bX] at c1 ⊢
    have hm1:=hm a List.mem_cons_self
    unfold lY at hm1
    have h2:=(aX hx).2.1
    have h3:=(aX h.1).2.1
    simp only[Bool.and_eq_false_iff,decide_eq_false_iff_not] at hm1
    omega
   ·rw[if_neg c1,if_neg c1]
theorem xU {x:Ar} (hx:aK x=0):∀ {l:List Ar} {lo:Int},srtF lo l→lo≤x.fr→(∀a∈l,lY x a=false)→srtF lo (Ew x l)
 | [],lo,_,hl,_=>⟨hx,hl,trivial⟩
 | a::r,lo,h,hl,hm=>by
  have hm1:=hm a List.mem_cons_self
  unfold lY at hm1
  have h2:=(aX hx).2.1
  have h3:=(aX h.1).2.1
  simp only[Bool.and_eq_false_iff,decide_eq_false_iff_not] at hm1
  unfold Ew
  split
  ·exact⟨hx,hl,h.1,by omega,h.2.2⟩
  ·rename_i hlt
   exact⟨h.1,h.2.1,xU hx h.2.2 (by omega) (fun b hb=>hm b (List.mem_cons_of_mem _ hb))⟩
theorem Ll {a:Ar} (h:aK a=0) {k:Int} (hk:kU k a=true):0≤k∧k<64:=by
 have:=(aX h).1
 unfold vU at this
 rw[bX] at hk
 omega
theorem toList_map {α β:Type} (o:Option α) (f:α→β):(o.map f).toList=o.toList.map f:=by cases o<;>rfl
theorem Av (l:List Ar) (n:Int):(0≤iW l n)↔onA l n≠none:=by
 have h:=lD (kU n) l
 have h2:l.any (kU n)=true↔onA l n≠none:=by
  induction l with
  | nil=>simp[onA]
  | cons a r ih=>rw[List.any_cons,bM];cases kU n a<;>simp[ih (lD _ _)]
 rw[←h2,←h,decide_eq_true_eq]
 exact Iff.rfl
def oR (o:Option Pg):Bool:=match o with | some p=>p.rd | none=>false
def oW (o:Option Pg):Bool:=match o with | some p=>p.wr | none=>false
def oH (o:Option Pg):Bool:=match o with | some p=>p.sh | none=>false
def oF (o:Option Pg):Int:=match o with | some p=>p.fi | none=>0
def oP (o:Option Pg):Int:=match o with | some p=>p.pg | none=>0
def GY (f:Nat→Option Pg):List (Option Pg):=(List.range 64).map f
theorem qR (f:Nat→Option Pg):(GY f).length=64:=by simp[GY]
theorem Nk (f:Nat→Option Pg) (k:Nat) (x:Option Pg):(GY f).set k x=GY (fun i=>if i=k then x else f i):=by
 unfold GY
 apply List.ext_getElem?
 intro i
 rw[List.getElem?_set]
 by_cases h:k=i
 ·subst h
  by_cases hk:k<64
  ·simp[hk]
  ·simp[hk]
 ·rw[if_neg h]
  by_cases hi:i<64
  ·simp[hi,Ne.symm h]
  ·simp[hi]
def f0:Nat→Option Pg:=fun _=>none
def BR (A:Ar) (K:Int) (f:Nat→Option Pg):Nat→Option Pg:=fun i=>if A.fr≤(i:Int)∧(i:Int)<K then some (iJ A i) else f i
theorem Iu (A:Ar) (f:Nat→Option Pg):BR A A.fr f=f:=by funext i;unfold BR;rw[if_neg (by omega)]
theorem KN {A:Ar} (hK:A.fr≤(K:Int)) (f:Nat→Option Pg):(fun i=>if i=K then some (iJ A K) else BR A K f i)=BR A ((K:Int)+1) f:=by
 funext i
 unfold BR
 by_cases h:i=K
 ·subst h;rw[if_pos rfl,if_pos (by omega)]
 ·rw[if_neg h]
  by_cases c:A.fr≤(i:Int)∧(i:Int)<K
  ·rw[if_pos c,if_pos (by omega)]
  ·rw[if_neg c,if_neg (by omega)]
def bN (l:List Ar):Nat→Option Pg:=l.foldl (fun f A=>BR A A.en f) f0
theorem Ez {l:List Ar} (hk:k<l.length):bN (l.take (k+1))=BR l[k] l[k].en (bN (l.take k)):=by
 unfold bN
 rw[List.take_add_one,List.getElem?_eq_getElem hk,Option.toList_some,List.foldl_append]
 rfl
def mg (p q:Pg):Pg:=if 0≤p.fi then { q with pg:=q.pg+1 } else q
def jG (f:Nat→Option Pg) (k:Nat) (p:Pg):Bool:=match k with
 | 0=>false
 | m+1=>match f m with
  | some q=>mg p q==p
  | none=>false
def dM (k:Nat) (p:Pg):Ar:=⟨k,(k:Int)+1,p.rd,p.wr,p.sh,p.fi,p.pg⟩
def qz (l:List Ar) (e:Int):List Ar:=match l.getLast? with
 | some q=>l.set (l.length-1) { q with en:=e }
 | none=>l
def jc (f:Nat→Option Pg):Nat→List Ar
 | 0=>[]
 | k+1=>match f k with
  | none=>jc f k
  | some p=>if jG f k p then qz (jc f k) ((k:Int)+1) else jc f k++[dM k p]
theorem zG (l:List Ar) (e:Int):(qz l e).length=l.length:=by unfold qz;split<;>simp
theorem BB (f:Nat→Option Pg):∀k,(jc f k).length≤k
 | 0=>Nat.le_refl _
 | k+1=>by
  have ih:=BB f k
  unfold jc
  split
  ·omega
  ·split
   ·rw[zG];omega
   ·rw[List.length_append,List.length_singleton];omega
theorem Lr (f:Nat→Option Pg) {m:Nat} {q:Pg} (h:f m=some q):0<(jc f (m+1)).length:=by
 have hall:∀k (q:Pg),f k=some q→0<(jc f (k+1)).length:=by
  intro k
  induction k with
  | zero=>intro q h;unfold jc;rw[h];simp[jG]
  | succ k ih=>
   intro q h
   rw[jc,h]
   simp only[]
   by_cases hs:jG f (k+1) q=true
   ·rw[if_pos hs,zG]
    cases hf:f k with
    | none=>
     have h2:jG f (k+1) q=false:=by simp only[jG,hf]
     rw[h2] at hs
     cases hs
    | some z=>exact ih z hf
   ·rw[if_neg hs,List.length_append,List.length_singleton];omega
 exact hall m q h
theorem Pf (p q:Pg):(p==q)=(p.rd==q.rd&&(p.wr==q.wr&&(p.sh==q.sh&&(p.fi==q.fi&&p.pg==q.pg)))):=by
 cases p;cases q
 rw[Bool.eq_iff_iff]
 simp
theorem JX {f:Nat→Option Pg} (h:f k=none):jc f (k+1)=jc f k:=by rw[jc,h]
theorem Ka {f:Nat→Option Pg} {p:Pg} (h:f k=some p) (hs:jG f k p=true):jc f (k+1)=qz (jc f k) ((k:Int)+1):=by
 rw[jc,h];simp only[];rw[if_pos hs]
theorem wM {f:Nat→Option Pg} {p:Pg} (h:f k=some p) (hs:jG f k p=false):jc f (k+1)=jc f k++[dM k p]:=by
 rw[jc,h];simp only[];rw[hs];rfl
theorem BS {l:List Ar} (hn:l.length=n+1) (e:Int):qz l e=l.set n { (l[n]'(by omega)) with en:=e }:=by
 unfold qz
 have:l.getLast?=some (l[n]'(by omega)):=by rw[List.getLast?_eq_getElem?,List.getElem?_eq_getElem (by omega)];simp[hn]
 rw[this];simp[hn]
theorem IX {f:Nat→Option Pg} (h:f k=none):jc f (k+1)=jc f k:=by rw[jc,h]
theorem NJ {f:Nat→Option Pg} {p:Pg} (h:f k=some p) (hs:jG f k p=true):jc f (k+1)=qz (jc f k) ((k:Int)+1):=by
 rw[jc,h];simp only[];rw[if_pos hs]
theorem MM {f:Nat→Option Pg} {p:Pg} (h:f k=some p) (hs:jG f k p=false):jc f (k+1)=jc f k++[dM k p]:=by
 rw[jc,h];simp only[];rw[hs];rfl
def Im (p:Pg):Prop:=-1≤p.fi∧p.fi<5∧0≤p.pg∧(p.fi<0→p.pg=0∧p.sh=false)∧(0≤p.fi→p.pg≤11)
theorem wN {l:List Ar} {n:Int} (h:∀a∈l,a.en≤n):onA l n=none:=by
 induction l with
 | nil=>rfl
 | cons a r ih=>
  have:=h a List.mem_cons_self
  rw[bM,if_neg (by rw[bX];omega),ih (fun b hb=>h b (List.mem_cons_of_mem _ hb))]
theorem LY {l:List Ar} {a:Ar} {n:Int} (h:a∈l) (hn:kU n a=true):onA l n≠none:=by
 induction l with
 | nil=>cases h
 | cons b r ih=>
  rw[bM]
  split
  ·simp
  ·rename_i hb
   rcases List.mem_cons.1 h with rfl|h
   ·exact absurd hn hb
   ·exact ih h
theorem CF {x y:Ar} (hy:aK y=0) (hb:∀p,qi p x=false→qi p y=false):∀ {l:List Ar} {p:Option Ar},okF p (l++[x])→okF p (l++[y])
 | [],p,h=>⟨hy,hb p h.2.1,trivial⟩
 | a::r,p,h=>⟨h.1,h.2.1,CF hy hb h.2.2⟩
theorem Ck {x y:Ar} (hy:aK y=0) (hb:qi (some x) y=false):∀ {l:List Ar} {p:Option Ar},okF p (l++[x])→okF p (l++[x]++[y])
 | [],p,h=>⟨h.1,h.2.1,hy,hb,trivial⟩
 | a::r,p,h=>⟨h.1,h.2.1,Ck hy hb h.2.2⟩
theorem uU {x:Ar}:∀ {l:List Ar} {p:Option Ar},okF p (l++[x])→aK x=0
 | [],p,h=>h.1
 | a::r,p,h=>uU h.2.2
theorem Hu (hk:k<64) {p:Pg} (hp:Im p):aK (dM k p)=0:=by
 obtain⟨h1,h2,h3,h4,h5⟩:=hp
 unfold aK dM
 simp only[]
 rw[if_neg (by omega),if_neg]
 rintro (⟨a,b⟩|⟨a,b⟩)
 ·have:=h4 a
  rcases b with b|b
  ·exact b this.1
  ·rw[this.2] at b;cases b
 ·have:=h5 a;omega
theorem Hd {a:Ar} {m:Nat} {p:Pg} (h:mg p (iJ a m)=p):iJ a ((m:Int)+1)=p:=by
 unfold mg at h
 by_cases hf:0≤p.fi
 ·rw[if_pos hf] at h
  have hfi:a.fi=p.fi:=by rw[←h];rfl
  rw[←h]
  unfold iJ
  simp only[]
  rw[if_pos (by omega),if_pos (by omega)]
  congr 1;omega
 ·rw[if_neg hf] at h
  have hfi:a.fi=p.fi:=by rw[←h];rfl
  rw[←h]
  unfold iJ
  rw[if_neg (by omega),if_neg (by omega)]
structure PQ (f:Nat→Option Pg) (k:Nat):Prop where
 ok:okF none (jc f k)
 en:∀a∈jc f k,a.en≤(k:Int)
 on:∀i:Nat,i<k→onA (jc f k) i=f i
 last:∀m q,k=m+1→f m=some q→∃init a,jc f k=init++[a]∧a.en=(k:Int)∧a.fr≤(m:Int)∧iJ a m=q
theorem Le {f:Nat→Option Pg} (hf:∀i p,i<64→f i=some p→Im p):∀k,k≤64→PQ f k
 | 0,_=>⟨trivial,fun a ha=>(by cases ha),fun i hi=>absurd hi (Nat.not_lt_zero _),fun m q h=>(by cases h)⟩
 | k+1,hk=>by
  have ih:=Le hf k (by omega)
  have he:=ih.en
  cases hfk:f k with
  | none=>
   have hst:=IX hfk
   refine⟨by rw[hst];exact ih.ok,fun a ha=>by rw[hst] at ha;have:=he a ha;omega,fun i hi => ?_,fun m q hm hq => ?_⟩
   ·rw[hst]
    by_cases hik:i=k
    ·subst hik;rw[hfk];exact wN he
    ·exact ih.on i (by omega)
   ·obtain rfl:m=k:=by omega
    rw[hfk] at hq;cases hq
  | some p=>
   have hp:=hf k p (by omega) hfk
   cases hs:jG f k p
   ·have hst:=MM hfk hs
    have hx:=Hu (by omega:k<64) hp
    have hok:okF none (jc f (k+1)):=by
     rw[hst]
     rcases List.eq_nil_or_concat (jc f k) with h0|⟨init,a,h0⟩
     ·rw[h0];exact⟨hx,rfl,trivial⟩
     ·rw[List.concat_eq_append] at h0
      have hoka:=ih.ok
      have hon:=ih.on
      rw[h0] at hoka hon he ⊢
      have hae:=he a (List.mem_append_right _ List.mem_cons_self)
      refine Ck hx (tT.2 ⟨hae,?_⟩) hoka
      cases hj:bR a (dM k p)
      ·rfl
      ·exfalso
       obtain⟨j1,j2,j3,j4,j5,j6⟩:=oD.1 hj
       have j1' : a.en=(k:Int):=j1
       have ha0:=uU hoka
       have hfr:=(aX ha0).1.2.1.1
       have hlt:=(aX ha0).2.1
       obtain⟨m,rfl⟩:∃m,k=m+1:=⟨k-1,by omega⟩
       have hin:kU (m:Int) a=true:=bX.2 ⟨by omega,by omega⟩
       cases hfm:f m with
       | none=>
        have h1:=hon m (by omega)
        rw[hfm] at h1
        exact LY (List.mem_append_right _ List.mem_cons_self) hin h1
       | some q=>
        obtain⟨init',a',e1,e2,e3,e4⟩:=ih.last m q rfl hfm
        rw[h0] at e1
        have haa:a=a':=by
         have:=congrArg List.getLast? e1
         rw[List.getLast?_concat,List.getLast?_concat] at this
         exact Option.some.inj this
        subst haa
        have hsn:jG f (m+1) p=(mg p q==p):=by simp only[jG,hfm]
        rw[hsn] at hs
        have:mg p q=p:=by
         rw[←e4]
         have k2:a.rd=p.rd:=j2
         have k3:a.wr=p.wr:=j3
         have k4:a.sh=p.sh:=j4
         have k5:a.fi=p.fi:=j5
         have k6:p.pg=iq a:=j6
         unfold iq at k6
         clear hx hfk hp hst hj hs e4 j2 j3 j4 j5 j6 hsn
         cases p with
         | mk prd pwr psh pfi ppg=>
          have k2:a.rd=prd:=k2
          have k3:a.wr=pwr:=k3
          have k4:a.sh=psh:=k4
          have k5:a.fi=pfi:=k5
          have k6:ppg=if 0≤a.fi then a.ba+a.en-a.fr else 0:=k6
          subst k2 k3 k4 k5 k6
          unfold mg iJ
          show (if 0≤a.fi then (⟨a.rd,a.wr,a.sh,a.fi,(if 0≤a.fi then a.ba+(m:Int)-a.fr else 0)+1⟩:Pg) else ⟨a.rd,a.wr,a.sh,a.fi,if 0≤a.fi then a.ba+(m:Int)-a.fr else 0⟩)=_
          by_cases hfi:0≤a.fi
          ·rw[if_pos hfi,if_pos hfi,if_pos hfi]
           congr 1
           omega
          ·rw[if_neg hfi,if_neg hfi,if_neg hfi]
        rw[this] at hs
        simp at hs
    refine⟨hok,fun a ha => ?_,fun i hi => ?_,fun m q hm hq => ?_⟩
    ·rw[hst] at ha
     rcases List.mem_append.1 ha with ha|ha
     ·have:=he a ha;omega
     ·rw[List.mem_singleton.1 ha];show (k:Int)+1≤_;omega
    ·rw[hst,AL]
     have hone:onA [dM k p] (i:Int)=if i=k then some p else none:=by
      rw[bM]
      by_cases hik:i=k
      ·subst hik
       rw[if_pos rfl,if_pos (show kU (i:Int) (dM i p)=true from bX.2 ⟨Int.le_refl _,by show (i:Int)<i+1;omega⟩)]
       unfold iJ dM
       simp only[]
       congr 1
       obtain⟨_,_,_,h4,_⟩:=hp
       cases p with
       | mk rd wr sh fi pg=>
        simp only[Pg.mk.injEq,true_and]
        simp only[] at h4
        split
        ·omega
        ·exact (h4 (by omega)).1.symm
      ·rw[if_neg hik,if_neg]
       ·rfl
       ·rw[bX]
        show ¬((k:Int)≤i∧(i:Int)<k+1)
        omega
     rw[hone]
     by_cases hik:i=k
     ·subst hik
      rw[if_pos rfl,wN he,hfk];rfl
     ·rw[if_neg hik,ih.on i (by omega),Option.or_none]
    ·obtain rfl:m=k:=by omega
     rw[hfk] at hq
     cases hq
     refine⟨jc f m,dM m p,hst,by show (m:Int)+1=_;omega,Int.le_refl _,?_⟩
     unfold iJ dM
     simp only[]
     obtain⟨_,_,_,h4,_⟩:=hp
     cases p with
     | mk rd wr sh fi pg=>
      simp only[Pg.mk.injEq,true_and]
      simp only[] at h4
      split
      ·omega
      ·exact (h4 (by omega)).1.symm
   ·have hst:=NJ hfk hs
    obtain⟨m,rfl⟩:∃m,k=m+1:=by
     cases k with
     | zero=>cases hs
     | succ m=>exact⟨m,rfl⟩
    have hsn:jG f (m+1) p=(match f m with | some q=>mg p q==p | none=>false):=rfl
    rw[hsn] at hs
    cases hfm:f m with
    | none=>rw[hfm] at hs;cases hs
    | some q=>
     rw[hfm] at hs
     have hnx:mg p q=p:=by simpa using hs
     obtain⟨init,a,e1,e2,e3,e4⟩:=ih.last m q rfl hfm
     have hok:=ih.ok
     have hon:=ih.on
     rw[e1] at hok hon he hst
     have ha0:=uU hok
     have ef:=aX ha0
     rw[←e4] at hnx
     have hpk:=Hd hnx
     have hset:qz (init++[a]) (((m+1:Nat):Int)+1)=init++[{ a with en:=((m+1:Nat):Int)+1 }]:=by
      unfold qz
      rw[List.getLast?_concat]
      simp
     rw[hset] at hst
     have hy:aK { a with en:=((m+1:Nat):Int)+1 }=0:=by
      unfold vU at ef
      have e5:=ef.2.2.2.2.1
      unfold aK
      simp only[]
      rw[if_neg (by omega),if_neg]
      rintro (⟨b1,b2⟩|⟨b1,b2⟩)
      ·have:=e5 b1
       rcases b2 with b2|b2
       ·exact b2 this.1
       ·rw[this.2] at b2;cases b2
      ·have h5:=hp.2.2.2.2
       rw[←hpk] at h5
       have h6:=h5 b1
       unfold iJ at h6
       simp only[] at h6
       rw[if_pos b1] at h6
       omega
     have hinit:∀b∈init,b.en≤((m+1:Nat):Int):=fun b hb=>he b (List.mem_append_left _ hb)
     have hfi:∀n,iJ { a with en:=((m+1:Nat):Int)+1 } n=iJ a n:=fun n=>rfl
     refine⟨?_,fun b hb => ?_,fun i hi => ?_,fun m' q' hm' hq' => ?_⟩
     ·rw[hst]
      refine CF hy (fun z hz => ?_) hok
      cases z with
      | none=>rfl
      | some z=>exact hz
     ·rw[hst] at hb
      rcases List.mem_append.1 hb with hb|hb
      ·have:=hinit b hb;omega
      ·rw[List.mem_singleton.1 hb];show ((m+1:Nat):Int)+1≤_;omega
     ·rw[hst,AL]
      by_cases hik:i=m+1
      ·subst hik
       rw[wN hinit,bM,if_pos (bX.2 ⟨by show a.fr≤((m+1:Nat):Int);omega,by show ((m+1:Nat):Int)<((m+1:Nat):Int)+1;omega⟩),hfi,hfk]
       show some (iJ a ((m+1:Nat):Int))=some p
       rw[show ((m+1:Nat):Int)=(m:Int)+1 by omega,hpk]
      ·have h1:=hon i (by omega)
       rw[AL] at h1
       rw[←h1]
       congr 1
       rw[bM,bM,hfi]
       by_cases c:kU (i:Int) a=true
       ·rw[if_pos c,if_pos (by rw[bX] at c ⊢; show a.fr≤(i:Int)∧(i:Int)<((m+1:Nat):Int)+1;omega)]
       ·rw[if_neg c,if_neg (by rw[bX] at c ⊢; show ¬(a.fr≤(i:Int)∧(i:Int)<((m+1:Nat):Int)+1);omega)]
     ·obtain rfl:m' = m+1:=by omega
      rw[hfk] at hq'
      cases hq'
      refine⟨init,_,hst,by show ((m+1:Nat):Int)+1=_;omega,by show a.fr≤_;omega,?_⟩
      rw[hfi,show ((m+1:Nat):Int)=(m:Int)+1 by omega,hpk]
theorem IC {f:Nat→Option Pg} (hf:∀i p,i<64→f i=some p→Im p):okF none (jc f 64)∧∀n:Int,onA (jc f 64) n=if 0≤n∧n<64 then f n.toNat else none:=by
 have h:=Le hf 64 (Nat.le_refl _)
 refine⟨h.ok,fun n => ?_⟩
 by_cases hn:0≤n∧n<64
 ·rw[if_pos hn]
  have:=h.on n.toNat (by omega)
  rwa [show ((n.toNat:Nat):Int)=n by omega] at this
 ·rw[if_neg hn]
  cases ho:onA (jc f 64) n with
  | none=>rfl
  | some p=>
   exfalso
   have hs:=lN h.ok
   by_cases h0:n<0
   ·rw[on_low hs h0] at ho;cases ho
   ·rw[wN (fun a ha=>by have:=h.en a ha;omega)] at ho;cases ho
theorem fold_on:∀ {l:List Ar} {lo:Int} (g:Nat→Option Pg),srtF lo l→∀i:Nat,(l.foldl (fun f A=>BR A A.en f) g) i=(onA l i).or (g i)
 | [],_,g,_,i=>by simp[onA]
 | a::r,lo,g,h,i=>by
  rw[List.foldl_cons,fold_on _ h.2.2,bM]
  by_cases c:kU (i:Int) a=true
  ·rw[if_pos c,on_low h.2.2 (bX.1 c).2]
   unfold BR
   rw[if_pos (bX.1 c)]
   rfl
  ·rw[if_neg c]
   unfold BR
   rw[if_neg (fun h=>c (bX.2 h))]
theorem oI {l:List Ar} (h:srtF lo l) (i:Nat):bN l i=onA l i:=by
 unfold bN
 rw[fold_on _ h]
 simp[f0]
theorem Gd {a:Ar} (ha:aK a=0) {n:Int} (hn:kU n a=true):Im (iJ a n):=by
 have e:=aX ha
 unfold vU at e
 rw[bX] at hn
 have e5:=e.2.2.2.2.1
 have e6:=e.2.2.2.2.2
 unfold Im iJ
 simp only[]
 refine⟨by omega,by omega,by split<;>omega,fun h=>⟨by rw[if_neg (by omega)],(e5 h).2⟩,fun h=>by rw[if_pos h];have:=e6 h;omega⟩
theorem Mv {l:List Ar} (h:srtF lo l) {n:Int} {p:Pg} (hp:onA l n=some p):Im p:=by
 induction l generalizing lo with
 | nil=>cases hp
 | cons a r ih=>
  rw[bM] at hp
  split at hp
  ·rename_i hn;cases hp;exact Gd h.1 hn
  ·exact ih h.2.2 hp
theorem FD {f:Nat→Option Pg} {m:List Ar} (hm:okF none m) (hf:∀i:Nat,i<64→f i=onA m i):jc f 64=m:=by
 have hs:=lN hm
 obtain⟨h1,h2⟩:=IC (f:=f) (fun i p hi hp=>Mv hs (by rw[←hf i hi];exact hp))
 refine on_uniq h1 hm fun n => ?_
 rw[h2]
 by_cases hn:0≤n∧n<64
 ·rw[if_pos hn,hf _ (by omega),show ((n.toNat:Nat):Int)=n by omega]
 ·rw[if_neg hn]
  symm
  cases ho:onA m n with
  | none=>rfl
  | some p=>
   exfalso
   have:∃a∈m,kU n a=true:=by
    have hh:=(Av m n).2 (by rw[ho];simp)
    have:=lD (kU n) m
    rw[show decide (0≤idx (kU n) m)=true from decide_eq_true hh] at this
    exact List.any_eq_true.1 this.symm
   obtain⟨a,ha,hin⟩:=this
   have:=Ll (srtF_ok hs a ha).1 hin
   omega
theorem CS {l:List Ar} (h:srtF lo l):∀i p,bN l i=some p→0≤p.pg∧p.pg≤100:=by
 intro i p hp
 rw[oI h] at hp
 obtain⟨_,_,h3,h4,h5⟩:=Mv h hp
 refine⟨h3,?_⟩
 by_cases hf:p.fi<0
 ·rw[(h4 hf).1];decide
 ·have:=h5 (by omega);omega
def nV (x:Ar) (n:Nat) (f:Nat→Option Pg):Nat→Option Pg:=fun i=>if kU (i:Int) x=true∧i<n then some (iJ x i) else f i
theorem Ey (x:Ar) (f:Nat→Option Pg):nV x 0 f=f:=by funext i;unfold nV;rw[if_neg (by omega)]
theorem Nj (x:Ar) (n:Nat) (f:Nat→Option Pg):nV x n f n=f n:=by unfold nV;rw[if_neg (by omega)]
theorem Il {x:Ar} (h:¬kU (n:Int) x=true) (f:Nat→Option Pg):nV x (n+1) f=nV x n f:=by
 funext i
 unfold nV
 by_cases c:i=n
 ·subst c;rw[if_neg (fun q=>h q.1),if_neg (fun q=>h q.1)]
 ·by_cases d:kU (i:Int) x=true∧i<n
  ·rw[if_pos d,if_pos ⟨d.1,by omega⟩]
  ·rw[if_neg d,if_neg (fun q=>d ⟨q.1,by omega⟩)]
theorem MK {x:Ar} (h:kU (n:Int) x=true) (f:Nat→Option Pg):(fun i=>if i=n then some (iJ x n) else nV x n f i)=nV x (n+1) f:=by
 funext i
 unfold nV
 by_cases c:i=n
 ·subst c;rw[if_pos rfl,if_pos ⟨h,by omega⟩]
 ·rw[if_neg c]
  by_cases d:kU (i:Int) x=true∧i<n
  ·rw[if_pos d,if_pos ⟨d.1,by omega⟩]
  ·rw[if_neg d,if_neg (fun q=>d ⟨q.1,by omega⟩)]
theorem MQ (x:Ar) (i:Nat):bN [x] i=if kU (i:Int) x=true then some (iJ x i) else none:=by
 unfold bN
 simp only[List.foldl_cons,List.foldl_nil]
 unfold BR f0
 by_cases c:kU (i:Int) x=true
 ·rw[if_pos c,if_pos (bX.1 c)]
 ·rw[if_neg c,if_neg (fun h=>c (bX.2 h))]
theorem LQ {l:List Ar} {x:Ar} {i:Int} (hx:kU i x=true) (hl:onA l i≠none):l.any (lY x)=true:=by
 have hh:=(Av l i).2 hl
 have:=lD (kU i) l
 rw[show decide (0≤idx (kU i) l)=true from decide_eq_true hh] at this
 obtain⟨a,ha,hin⟩:=List.any_eq_true.1 this.symm
 refine List.any_eq_true.2 ⟨a,ha,?_⟩
 rw[bX] at hx hin
 unfold lY
 rw[decide_eq_true (by omega),decide_eq_true (by omega)];rfl
theorem Ni {l:List Ar} {x:Ar} (hok:okF none l) (hx:aK x=0) (h:∀i:Nat,i<64→¬(kU (i:Int) x=true∧onA l i≠none)):l.any (lY x)=false:=by
 rw[List.any_eq_false]
 intro a ha hm
 have ha0:=(srtF_ok (lN hok) a ha).1
 have e1:=aX ha0
 have e2:=aX hx
 unfold vU at e1 e2
 unfold lY at hm
 rw[Bool.and_eq_true,decide_eq_true_eq,decide_eq_true_eq] at hm
 refine h (max a.fr x.fr).toNat (by omega) ⟨bX.2 (by omega),LY ha (bX.2 (by omega))⟩
theorem yP {e:En} (h:eT e=0):kC e=Ap e:=by
 unfold eT at h
 unfold kC Ap
 split at h
 ·cases h
 ·rename_i h1
  rw[Bool.eq_iff_iff]
  simp
  omega
theorem um {h:List En} (h0:jP h=0):∀e∈h,eT e=0:=by
 intro e he
 obtain⟨i,hi,rfl⟩:=List.mem_iff_getElem.1 he
 have hl:=mG h0
 by_cases hne:∀j (hj:j<h.length),eT h[j]=0
 ·exact hne i hi
 ·exfalso
  have hf:firstE (h.map eT)≠0:=by
   intro hf
   apply hne
   intro j hj
   have key:∀(l:List Int),firstE l=0→∀x∈l,x=0:=by
    intro l
    induction l with
    | nil=>intro _ x hx;cases hx
    | cons y r ih=>
     intro h x hx
     by_cases e:y=0
     ·simp only[firstE,e,if_true] at h
      rcases List.mem_cons.1 hx with rfl|hx
      ·exact e
      ·exact ih h x hx
     ·simp only[firstE,e,if_false] at h
   exact key _ hf _ (List.mem_map.2 ⟨h[j],List.getElem_mem hj,rfl⟩)
  unfold jP at h0
  rw[if_neg (by omega),if_pos hf] at h0
  exact hf h0
theorem Ae {t:Tb} (hi:i<8) (h:jP t[i]=0):jg (eQ t) i=if t[i].length=0 then List.replicate 8 zEn else t[i]:=by
 have hl:=mG h
 apply List.ext_getElem?
 intro r
 unfold jg eQ
 rw[List.getElem?_take]
 by_cases hr:r<8
 ·rw[if_pos hr,List.getElem?_drop,List.getElem?_map,List.getElem?_range (by omega)]
  simp only[Option.map_some]
  rcases hl with hl|hl
  ·rw[if_pos hl,List.getElem?_replicate,if_pos hr,zA hi hr hl]
  ·rw[if_neg (by omega),List.getElem?_eq_getElem (by omega),HZ hi hr hl (List.getElem?_eq_getElem (by omega))]
 ·rw[if_neg hr,List.getElem?_eq_none]
  split
  ·simp;omega
  ·omega
theorem Az {h:List En} (h0:∀e∈h,eT e=0):h.any Ap=h.any kC:=by
 rw[Bool.eq_iff_iff]
 simp only[List.any_eq_true]
 constructor
 ·rintro⟨e,he,h1⟩;exact⟨e,he,by rw[yP (h0 e he)];exact h1⟩
 ·rintro⟨e,he,h1⟩;exact⟨e,he,by rw[←yP (h0 e he)];exact h1⟩
theorem Lh {h:List En} (h0:jP h=0) (hl:h.length≠0):h.any kC=true:=by
 have h1:=vo (mG h0) (fun i hi=>um h0 _ (List.getElem_mem hi))
 rw[h0] at h1
 by_cases hh:h.any (fun e=>decide (e.k≠0))=false
 ·rw[if_pos ⟨by omega,hh⟩] at h1;cases h1
 ·simpa[kC] using hh
theorem vT {t:Tb} (hi:i<8) (h:jP t[i]=0):jE (eQ t) i=t[i]:=by
 unfold jE
 rw[Ae hi h]
 by_cases hl:t[i].length=0
 ·rw[if_pos hl]
  have:t[i]=[]:=List.eq_nil_of_length_eq_zero hl
  rw[this]
  decide
 ·rw[if_neg hl,Az (um h),Lh h hl]
  rfl
theorem xM {t:Tb} {n:Int} {e:En} (h:setE t n e=0):setT t n e=dZ ((eQ t).set n.toNat e):=by
 have h0:cZ t=0:=by
  unfold setE at h
  by_cases hw:cZ t=0
  ·exact hw
  ·rw[if_pos hw] at h;exact h
 have hn:0≤n∧n<64:=by
  unfold setE at h
  rw[if_neg (by rw[h0];simp)] at h
  by_cases hn:n<0∨64≤n
  ·rw[if_pos hn] at h;cases h
  ·omega
 have he:eT e=0:=by
  unfold setE at h
  rwa [if_neg (by rw[h0];simp),if_neg (by omega)] at h
 obtain⟨q,r,hq,hr,hnn,_,_⟩:=rF hn
 have hN:n.toNat=8*q+r:=by omega
 rw[GV h hq hr hnn,hN]
 apply Vector.ext
 intro i hi
 simp only[dZ,Vector.getElem_ofFn]
 have hh:=jZ h0 i hi
 by_cases ei:i=q
 ·subst ei
  rw[Vector.getElem_set_self]
  have hp:jg ((eQ t).set (8*i+r) e) i=(jg (eQ t) i).set r e:=by
   apply List.ext_getElem?
   intro k
   have hlen:(eQ t).length=64:=by simp[eQ]
   by_cases hk:k<8
   ·unfold jg
    rw[List.getElem?_take,if_pos hk,List.getElem?_drop]
    by_cases ek:k=r
    ·subst ek
     rw[List.getElem?_set_self (by omega),List.getElem?_set_self (by simp;omega)]
    ·rw[List.getElem?_set_ne (by omega),List.getElem?_set_ne (fun h=>ek h.symm),List.getElem?_take,if_pos hk,List.getElem?_drop]
   ·rw[List.getElem?_eq_none (by simp[jg];omega),List.getElem?_eq_none (by simp[jg];omega)]
  unfold jE
  rw[hp,Ae hi hh]
  unfold setH Oy
  rw[Az]
  intro x hx
  rcases List.mem_or_eq_of_mem_set hx with hx|rfl
  ·split at hx
   ·rw[(List.mem_replicate.1 hx).2];rfl
   ·exact um hh x hx
  ·exact he
 ·rw[Vector.getElem_set_ne hq hi (fun h=>ei h.symm)]
  have hp:jg ((eQ t).set (8*q+r) e) i=jg (eQ t) i:=by
   apply List.ext_getElem?
   intro k
   unfold jg
   rw[List.getElem?_take,List.getElem?_take]
   by_cases hk:k<8
   ·rw[if_pos hk,if_pos hk,List.getElem?_drop,List.getElem?_drop,List.getElem?_set_ne (by omega)]
   ·rw[if_neg hk,if_neg hk]
  have:jE ((eQ t).set (8*q+r) e) i=jE (eQ t) i:=by unfold jE;rw[hp]
  rw[this,vT hi hh]
theorem JC {m:List Int} (hlm:l.length=m.length) (h:∀i (hi:i<l.length),l[i]=m[i]'(by omega)):(l==m)=true:=by
 rw[beq_iff_eq]
 exact List.ext_getElem hlm fun i h1 h2=>h i h1
theorem Ie {m:List Int} (k:Nat) (h1:k<l.length) (h2:k<m.length) (h:l[k]≠m[k]):(l==m)=false:=by
 rw[beq_eq_false_iff_ne]
 rintro rfl
 exact h rfl
theorem uk (t:Tb) (k:Nat) (h:k<64):(eQ t)[k]?=some (dn t (k:Int)):=by
 unfold eQ;simp[h]
theorem jY (t:Tb):(eQ t).length=64:=by simp[eQ]
theorem qJ {t:Tb} (h:cZ t=0) (n:Int):eT (dn t n)=0:=by
 by_cases hn:0≤n∧n<64
 ·obtain⟨q,r,hq,hr,rfl,_,_⟩:=rF hn
  rw[uH hq hr]
  split
  ·rename_i hl
   rw[List.getD_eq_getElem?_getD,List.getElem?_eq_getElem (by omega)]
   exact um (jZ h q hq) _ (List.getElem_mem _)
  ·rfl
 ·rw[mW (by omega)];rfl
theorem Ms {e:En} (h:eT e=0) (h2:Ap e=false):e=zEn:=by
 have h3:=yP h
 rw[h2] at h3
 have hk:e.k=0:=by simpa[kC] using h3
 unfold eT at h
 obtain⟨k,n,w⟩:=e
 simp only at hk
 subst hk
 simp at h
 by_cases h4:n<0∨60≤n
 ·rw[if_pos h4] at h;cases h
 ·rw[if_neg h4] at h
  by_cases h5:¬n=0∨w=true
  ·rw[if_pos h5] at h;cases h
  ·simp only[not_or,Classical.not_not,Bool.not_eq_true] at h5
   obtain⟨rfl,rfl⟩:=h5
   rfl
theorem yB {l:List En} {x:En} (h:x∈jg l i):x∈l:=List.mem_of_mem_drop (List.mem_of_mem_take h)
theorem Bf {l:List En} (h:∀x∈l,eT x=0) (hl:l.length=64) (hi:i<8):jP (jE l i)=0:=by
 unfold jE
 by_cases hp:(jg l i).any Ap=true
 ·rw[if_pos hp]
  have hlen:(jg l i).length=8:=xE hl hi (by omega)
  rw[vo (.inr hlen) (fun j hj=>h _ (yB (List.getElem_mem hj))),if_neg]
  rintro⟨_,h2⟩
  have h3:=Az (h:=jg l i) (fun x hx=>h x (yB hx))
  rw[hp] at h3
  have h4:(jg l i).any kC=false:=h2
  rw[h4] at h3
  cases h3
 ·rw[if_neg hp];rfl
theorem vZ {l:List En} (h:∀x∈l,eT x=0) (hl:l.length=64):cZ (dZ l)=0:=
 vS fun i hi=>by simp only[dZ,Vector.getElem_ofFn];exact Bf h hl hi
theorem sQ {l:List En} (h:∀x∈l,eT x=0) (hl:l.length=64) (hn:n<64):dn (dZ l) (n:Int)=l[n]'(by omega):=by
 obtain⟨q,r,hq,hr,hnn,_,_⟩:=rF (n:=(n:Int)) (by omega)
 have hn' : n=8*q+r:=by omega
 subst hn'
 rw[uH hq hr]
 simp only[dZ,Vector.getElem_ofFn]
 unfold jE
 have hlen:(jg l q).length=8:=xE hl hq (by omega)
 have hget:(jg l q)[r]'(by omega)=l[8*q+r]'(by omega):=by simp[jg]
 by_cases hp:(jg l q).any Ap=true
 ·simp only[if_pos hp,if_pos hlen]
  rw[List.getD_eq_getElem?_getD,List.getElem?_eq_getElem (by omega),←hget]
  rfl
 ·simp only[if_neg hp]
  rw[if_neg (by decide),←hget]
  symm
  refine Ms (h _ (yB (List.getElem_mem _))) ?_
  simp only[List.any_eq_true,not_exists,not_and,Bool.not_eq_true] at hp
  exact hp _ (List.getElem_mem _)
theorem FC {t:Tb} (h:cZ t=0):dZ (eQ t)=t:=by
 apply Vector.ext
 intro i hi
 simp only[dZ,Vector.getElem_ofFn]
 exact vT hi (jZ h i hi)
theorem xR {l:List En} (h:∀x∈l,eT x=0) (hl:l.length=64):eQ (dZ l)=l:=by
 apply List.ext_getElem
 ·rw[jY,hl]
 ·intro i h1 h2
  have:=uk (dZ l) i (by omega)
  rw[sQ h hl (by omega),List.getElem?_eq_getElem h1] at this
  exact Option.some.inj this
theorem LJ {t:Tb} (h:cZ t=0):∀x∈eQ t,eT x=0:=by
 intro x hx
 obtain⟨i,hi,rfl⟩:=List.mem_map.1 hx
 exact qJ h _
theorem pO {t:Tb} {n:Int} {e:En} (h:setE t n e=0):cZ t=0∧(0≤n∧n<64)∧eT e=0:=by
 unfold setE at h
 by_cases hw:cZ t=0
 ·rw[if_neg (by rw[hw];simp)] at h
  by_cases hn:n<0∨64≤n
  ·rw[if_pos hn] at h;cases h
  ·rw[if_neg hn] at h
   exact⟨hw,by omega,h⟩
 ·rw[if_pos hw] at h;exact absurd h hw
theorem Gx {t:Tb} {n:Int} {e:En} (h1:cZ t=0) (h2:0≤n∧n<64) (h3:eT e=0):setE t n e=0:=by
 unfold setE;rw[if_neg (by rw[h1];simp),if_neg (by omega),h3]
theorem AJ {t:Tb} {e:En} (h1:cZ t=0) (h3:eT e=0):∀x∈(eQ t).set n e,eT x=0:=by
 intro x hx
 rcases List.mem_or_eq_of_mem_set hx with hx|rfl
 ·exact LJ h1 x hx
 ·exact h3
theorem sZ {t:Tb} {n:Int} {e:En} (h:setE t n e=0):cZ (setT t n e)=0:=by
 obtain⟨h1,h2,h3⟩:=pO h
 rw[xM h]
 exact vZ (AJ h1 h3) (by rw[List.length_set,jY])
theorem MV {t:Tb} {n:Int} {e:En} (h:setE t n e=0) (k:Int):dn (setT t n e) k=if k=n then e else dn t k:=by
 obtain⟨h1,h2,h3⟩:=pO h
 rw[xM h]
 by_cases hk:0≤k∧k<64
 ·obtain⟨j,rfl⟩:=Int.eq_ofNat_of_zero_le hk.1
  rw[sQ (AJ h1 h3) (by rw[List.length_set,jY]) (by omega)]
  rw[List.getElem_set]
  by_cases e0:(j:Int)=n
  ·rw[if_pos (by omega),if_pos e0]
  ·rw[if_neg (by omega),if_neg e0]
   have:=uk t j (by omega)
   rw[List.getElem?_eq_getElem (by rw[jY];omega)] at this
   exact Option.some.inj this
 ·rw[if_neg (by omega),mW (by omega),mW (by omega)]
theorem Mg (t:Tb):∀n∈aI t,0≤n∧n<64:=by
 intro n hn
 unfold aI ib at hn
 obtain⟨m,hm,rfl⟩:=List.mem_map.1 hn
 have:=List.mem_range.1 (List.mem_filter.1 hm).1
 omega
theorem Dl {t:Tb} (h:cZ t=0):zk t:=fun k hk=>by
 have:=mG (jZ h k hk)
 omega
theorem zTb_right:cZ zTb=0:=by decide
theorem EX {m:Mem} {f:Fr} (hw:bJ m=0) (hf:dQ f=0):bJ ⟨m.fs.set k f,m.hand⟩=0:=by
 obtain⟨h1,h2,h3,h4⟩:=(dB m).1 hw
 rw[dB]
 simp only[List.length_set]
 refine⟨h1,fun g hg => ?_,h3,h4⟩
 rcases List.mem_or_eq_of_mem_set hg with h|rfl
 ·exact h2 g h
 ·exact hf
theorem NZ {f:Fr} (h:dQ f=0) (hr:f.r=0):f=frZ:=by
 obtain⟨⟨_,_,h1,_,_,_⟩,h2,h3⟩:=(fP f).1 h
 obtain⟨h4,h5,h6,h7⟩:=h2 hr
 have h8:=h3 h6
 have h9:f.f = -1:=by omega
 obtain⟨p,r,u,d,ff,i⟩:=f
 simp only at *
 subst hr h4 h5 h7 h8 h9
 rfl
theorem ym (h:bU l=0):∀x∈l,rM x=false:=by
 unfold bU at h
 split at h
 ·omega
 split at h
 ·omega
 ·rename_i h1
  intro x hx
  have:=List.any_eq_false.1 (by simpa using h1) x hx
  simpa using this
theorem Ai (hl:l.length≤60) (h:∀x∈l,rM x=false):bU l=0:=by
 unfold bU
 rw[if_neg (by omega),if_neg]
 simp only[List.any_eq_true,not_exists,not_and]
 intro x hx
 simp[h x hx]
theorem yz (k:Nat) (x:Int) (h:bU l=0) (h0:0≤x) (h1:x≤1000):bU (l.set k x)=0:=by
 refine Ai (by rw[List.length_set];exact gM h) fun y hy => ?_
 rcases List.mem_or_eq_of_mem_set hy with hm|rfl
 ·exact ym h _ hm
 ·simp[rM];omega
theorem zu {α:Type} {l:List α} {x:α} (h:l[i]?=some x) (y:α):l=l.take i++x::l.drop (i+1)∧l.set i y=l.take i++y::l.drop (i+1):=by
 obtain⟨hi,rfl⟩:=List.getElem?_eq_some_iff.1 h
 refine⟨?_,?_⟩
 ·rw[List.getElem_cons_drop,List.take_append_drop]
 ·rw[List.set_eq_take_append_cons_drop,if_pos hi]
theorem KE {x:Int} (h:x<0) (l:List Int):iF (x::l)=iF l:=by unfold iF;rw[List.filter_cons,if_neg (by simp;omega)]
theorem Br {x:Int} (h:0≤x) (l:List Int):iF (x::l)=x::iF l:=by unfold iF;rw[List.filter_cons,if_pos (by simpa using h)]
theorem Cb {s:St} {F:Nat} {f:Fi} (hf:s.fs[F]?=some f) {v:Int} (hv:f.b[I]?=some v) (hn:v<0) {X:Int} (hX:0≤X) (n c:Int) :
  (iF (iU ⟨s.fs.set F ⟨n,f.b.set I X⟩,c⟩)).Perm (X::iF (iU s)):=by
 have e1:=zu hf ⟨n,f.b.set I X⟩
 have e2:=zu hv X
 unfold iU
 show (iF ((s.fs.set F ⟨n,f.b.set I X⟩).flatMap Fi.b)).Perm (X::iF (s.fs.flatMap Fi.b))
 rw[e1.2]
 conv=>rhs;rw[e1.1]
 simp only[List.flatMap_append,List.flatMap_cons,oG]
 rw[e2.2]
 conv=>rhs;rw[show f.b=f.b.take I++v::f.b.drop (I+1) from e2.1]
 simp only[oG,KE hn,Br hX]
 refine List.Perm.trans ?_ List.perm_middle
 refine List.Perm.append_left _ ?_
 rw[List.append_assoc,List.append_assoc]
 exact List.perm_middle
theorem zQ {s:St} (h:0≤dH s):dH s<s.count∧eY s (dH s)=false:=by
 unfold dH at h ⊢
 cases hf:(List.range s.count.toNat).find? (fun b:Nat => !eY s b) with
 | none=>rw[hf] at h;simp at h
 | some b=>
  have h1:=List.mem_range.1 (List.mem_of_find?_eq_some hf)
  have h2:=List.find?_some hf
  simp only
  refine⟨by omega,by simpa using h2⟩
theorem EK {s:St} (h:dH s<0) (b:Nat) (hb:(b:Int)<s.count):eY s b=true:=by
 unfold dH at h
 cases hf:(List.range s.count.toNat).find? (fun b:Nat => !eY s b) with
 | none=>
  have:=List.find?_eq_none.1 hf b (List.mem_range.2 (by omega))
  simpa using this
 | some c=>
  rw[hf] at h
  simp only at h
  omega
theorem wm {s:St} {k i:Int} (h:bL s k i=0):aS s=0∧∃(F I:Nat) (f:Fi) (v:Int),k=F∧i=I∧s.fs[F]?=some f∧f.b[I]?=some v∧aT s k=f∧bA s k i=v ∧
  ((0≤v∧cO s k i=s∧dh s k i=v)∨(v<0∧0≤dH s∧dh s k i=dH s∧cO s k i=⟨s.fs.set F ⟨f.n,f.b.set I (dH s)⟩,s.count⟩)):=by
 have h':=h
 unfold bL at h'
 by_cases g1:aS s≠0
 ·rw[if_pos g1] at h'; exact absurd h' g1
 rw[if_neg g1] at h'
 by_cases g2:k<0∨(s.fs.length:Int)≤k
 ·rw[if_pos g2] at h'; cases h'
 rw[if_neg g2] at h'
 by_cases g3:i<0∨((aT s k).b.length:Int)≤i
 ·rw[if_pos g3] at h'; cases h'
 rw[if_neg g3] at h'
 by_cases g4:bA s k i<0∧dH s<0
 ·rw[if_pos g4] at h'; cases h'
 obtain⟨F,rfl⟩:=Int.eq_ofNat_of_zero_le (show 0≤k by omega)
 obtain⟨I,rfl⟩:=Int.eq_ofNat_of_zero_le (show 0≤i by omega)
 have hF:F<s.fs.length:=by omega
 have hfa:aT s F=s.fs[F]:=by
  unfold aT
  rw[if_pos (by omega),Int.toNat_natCast,List.getD_eq_getElem?_getD,List.getElem?_eq_getElem hF]
  rfl
 rw[hfa] at g3
 have hI:I<s.fs[F].b.length:=by omega
 have hba:bA s F I=s.fs[F].b[I]:=by
  unfold bA
  rw[hfa,Int.toNat_natCast,List.getD_eq_getElem?_getD,List.getElem?_eq_getElem hI]
  rfl
 refine⟨Classical.not_not.1 g1,F,I,s.fs[F],s.fs[F].b[I],rfl,rfl,List.getElem?_eq_getElem hF,List.getElem?_eq_getElem hI,hfa,hba,?_⟩
 have hS:cO s F I=if bA s F I<0 then uj s F ⟨(aT s F).n,(aT s F).b.set ((I:Int)).toNat (dH s)⟩ else s:=by unfold cO;rw[if_neg (by rw[h];simp)]
 have hN:dh s F I=if bA s F I<0 then dH s else bA s F I:=by unfold dh;rw[if_neg (by rw[h];simp)]
 rw[hS,hN,hba]
 rw[hba] at g4
 by_cases g5:s.fs[F].b[I]<0
 ·refine .inr ⟨g5,by omega,if_pos g5,?_⟩
  rw[if_pos g5,hfa,Int.toNat_natCast]
  unfold uj
  rw[Int.toNat_natCast]
 ·exact .inl ⟨by omega,if_neg g5,if_neg g5⟩
theorem Gq {s:St} {x:Int} (h:eY s x=false):¬x∈iU s:=by
 unfold eY at h
 simpa using h
theorem Hr {s:St} {F:Nat} {f:Fi} {v:Int} (h:aS s=0) (hf:s.fs[F]?=some f) (hv:f.b[I]?=some v) (h0:0≤v):bL s F I=0∧dh s F I=v∧cO s F I=s:=by
 have hF:=(List.getElem?_eq_some_iff.1 hf).1
 have hI:=(List.getElem?_eq_some_iff.1 hv).1
 have hfa:aT s F=f:=by
  unfold aT
  rw[if_pos (by omega),Int.toNat_natCast,List.getD_eq_getElem?_getD,hf]
  rfl
 have hba:bA s F I=v:=by
  unfold bA
  rw[hfa,Int.toNat_natCast,List.getD_eq_getElem?_getD,hv]
  rfl
 have hE:bL s F I=0:=by
  unfold bL
  rw[if_neg (by rw[h];simp),if_neg (by omega),hfa,if_neg (by omega),hba,if_neg (by omega)]
 refine⟨hE,?_,?_⟩
 ·unfold dh;rw[if_neg (by rw[hE];simp),hba,if_neg (by omega)]
 ·unfold cO;rw[if_neg (by rw[hE];simp),hba,if_neg (by omega)]
theorem wH {s:St} (h:aS s=0) {F:Nat} {f:Fi} {v:Int} (hf:s.fs[F]?=some f) (hv:f.b[I]?=some v) (hn:v<0) {X:Int} (hX:0≤X) (hXc:X<s.count) (hu:eY s X=false) :
  aS ⟨s.fs.set F ⟨f.n,f.b.set I X⟩,s.count⟩=0:=by
 obtain⟨h1,h2,h3⟩:=iK.1 h
 have hok:=h2 f (List.mem_of_getElem? hf)
 refine iK.2 ⟨by simpa using h1,fun g hg => ?_,?_⟩
 ·rcases List.mem_or_eq_of_mem_set hg with hg|rfl
  ·exact h2 g hg
  ·refine⟨hok.1,hok.2.1,by simpa using hok.2.2.1,fun b hb => ?_⟩
   rcases List.mem_or_eq_of_mem_set hb with hb|rfl
   ·exact hok.2.2.2 b hb
   ·show -1≤b∧b<s.count
    omega
 ·exact (Cb hf hv hn hX f.n s.count).nodup_iff.2 (List.nodup_cons.2 ⟨fun hm=>Gq hu (fE.1 hm).1,h3⟩)
theorem Cu {s:St} {k i:Int} (h:bL s k i=0):aS (cO s k i)=0∧bL (cO s k i) k i=0∧dh (cO s k i) k i=dh s k i∧cO (cO s k i) k i=cO s k i ∧
  ((0≤bA s k i∧cO s k i=s)∨(bA s k i<0∧eY s (dh s k i)=false∧jb (cO s k i)=jb s-1)):=by
 obtain⟨hw,F,I,f,v,rfl,rfl,hf,hv,hfa,hba,hc⟩:=wm h
 rcases hc with ⟨h0,hS,hN⟩|⟨hn,h0,hN,hS⟩
 ·rw[hS]
  exact⟨hw,h,rfl,hS,.inl ⟨by rw[hba];exact h0,rfl⟩⟩
 ·obtain⟨hXc,hu⟩:=zQ h0
  have hw':=wH hw hf hv hn h0 hXc hu
  have hF:=(List.getElem?_eq_some_iff.1 hf).1
  have hI:=(List.getElem?_eq_some_iff.1 hv).1
  have hb:=Hr (F:=F) (I:=I) (f:=⟨f.n,f.b.set I (dH s)⟩) (v:=dH s) hw' (List.getElem?_set_self hF) (List.getElem?_set_self hI) h0
  rw[hS,hN]
  refine⟨hw',hb.1,hb.2.1,hb.2.2,.inr ⟨by rw[hba];exact hn,hu,?_⟩⟩
  have hp:=(Cb hf hv hn h0 f.n s.count).length_eq
  unfold jb
  show s.count-((iF _).length:Int)=s.count-((iF _).length:Int)-1
  rw[hp,List.length_cons]
  omega
theorem JB (l:List Int):jL l=(iF l).length:=rfl
theorem all_once:∀(c:Nat) (l:List Int),l.Nodup→(∀x∈l,0≤x∧x<(c:Int))→(∀b:Nat,b<c→(b:Int)∈l)→l.length=c
 | 0,l,_,h,_=>by
  match l with
  | []=>rfl
  | x::r=>have:=h x List.mem_cons_self;omega
 | c+1,l,hn,h,ha=>by
  have hm:=ha c (by omega)
  have hl:=List.length_erase_of_mem hm
  have hpos:=List.length_pos_of_mem hm
  have:=all_once c (l.erase (c:Int)) (hn.erase _) (fun x hx=>by
   have h1:=h x (List.mem_of_mem_erase hx)
   have h2:x≠(c:Int):=fun e=>by
    subst e
    exact hn.not_mem_erase hx
   omega) (fun b hb=>by
   have h1:=ha b (by omega)
   exact (List.mem_erase_of_ne (by omega)).2 h1)
  omega
theorem Ev {s:St} (h:aS s=0) (hf:dH s<0):jb s=0:=by
 obtain⟨h1,h2,h3⟩:=iK.1 h
 have:=all_once s.count.toNat (iF (iU s)) h3 (fun x hx=>by
  obtain⟨hx,h0⟩:=fE.1 hx
  unfold iU at hx
  obtain⟨f,hfm,hxf⟩:=List.mem_flatMap.1 hx
  have:=(h2 f hfm).2.2.2 x hxf
  omega) (fun b hb=>by
  have:=EK hf b (by omega)
  unfold eY at this
  exact fE.2 ⟨by simpa using this,by omega⟩)
 unfold jb
 rw[JB,this]
 omega
structure Cc where
 f:Int
 i:Int
 k:Int
 deriving DecidableEq
def wL (c:Cc):Array Value:=#[.int .i64 c.f,.int .i64 c.i,.int .i64 c.k]
def je (c:Cc):List Value:=(wL c).toList
theorem nJ (c:Cc):(je c).length=3:=rfl
structure Sp where
 lv:Bool
 ar:List Ar
 tb:Tb
 deriving DecidableEq
structure Ma where
 m:Mem
 sl:List Int
 sw:nT
 dk:nT
 st:St
 ca:List Cc
 sp:List Sp
def zCc:Cc:=⟨0,0,0⟩
def zSp:Sp:=⟨false,[],zTb⟩
def zMa:Ma:=⟨noM,[],⟨[],[]⟩,⟨[],[]⟩,zSt,[],[]⟩
def cnt (l:List Int) (k:Int):Nat:=l.countP fun x=>decide (x=k)
def trimB (m:Ma):Bool:=
 (List.range m.dk.blocks.length).all (fun b:Nat=>decide ((b:Int)∈iU m.st)||decide (m.dk.blocks.getD b zPg=zPg))&&m.dk.queue.all fun q=>decide (q.1∈iU m.st)
def iw (s:Sp):Int:=if (bF s.ar).1≠0 then (bF s.ar).1 else if cZ s.tb≠0 then cZ s.tb else if s.lv=false∧0<s.ar.length+(aI s.tb).length then 7 else 0
def fA (m:Ma):Int:=
 if bJ m.m≠0 then bJ m.m else if bU m.sl≠0 then bU m.sl else if aZ m.sw≠0 then aZ m.sw else if aZ m.dk≠0 then aZ m.dk else if aS m.st≠0 then aS m.st
 else if m.sw.blocks.length≠m.sl.length∨(m.dk.blocks.length:Int)≠m.st.count∨trimB m=false then 7
 else if 4<m.sp.length then 4 else firstE (m.sp.map iw)
def mM (m:Ma) (k:Int):Fr:=m.m.fs.getD k.toNat fr0
def oo (m:Ma) (p:Option Cc) (c:Cc):Int:=
 if c.f<0∨(m.st.fs.length:Int)≤c.f∨c.i<0∨((aT m.st c.f).b.length:Int)≤c.i∨c.k<0∨(m.m.fs.length:Int)≤c.k then 3
 else if (mM m c.k).r<1∨(mM m c.k).f≠c.f∨(mM m c.k).i≠c.i then 7
 else match p with
  | none=>0
  | some q=>if c.f<q.f∨q.f=c.f∧c.i≤q.i then 2 else 0
def rU (l:List Cc) (k:Nat):Option Cc:=if k=0 then none else l[k-1]?
def cachedE (m:Ma):Int:=firstE ((List.range m.ca.length).map fun k=>oo m (rU m.ca k) (m.ca.getD k zCc))
def bD (m:Ma) (s:Sp) (n:Int):Int:=
 if iW s.ar n<0 then 5 else
 let a:=s.ar.getD (iW s.ar n).toNat zAr
 let e:=dn s.tb n
 if e.k=2 then (if (m.sl.length:Int)≤e.n∨a.sh=true then 7 else 0)
 else if (m.m.fs.length:Int)≤e.n then 3 else
 let f:=mM m e.n
 let of:=decide (0≤a.fi)&&decide (f.f=a.fi)&&decide (f.i=a.ba+n-a.fr)
 if 0≤f.f∧of=false∨a.sh=true∧of=false∨a.sh=false∧of=true∧e.w=true∨e.w=true∧a.wr=false then 7
 else if f.f<0∧e.w=true∧1<f.r then 7 else 0
def jN (m:Ma):Int:=firstE (m.sp.flatMap fun s=>(aI s.tb).map (bD m s))
def kQ (t:Tb) (l:List Int):List Int:=(l.filter fun n=>decide ((dn t n).k=1)).map fun n=>(dn t n).n
def swapT (t:Tb) (l:List Int):List Int:=(l.filter fun n => !decide ((dn t n).k=1)).map fun n=>(dn t n).n
def mO (m:Ma):List Int:=m.ca.map Cc.k++m.sp.flatMap fun s=>kQ s.tb (aI s.tb)
def lL (m:Ma):List Int:=m.sp.flatMap fun s=>swapT s.tb (aI s.tb)
def iQ (n:Nat) (l:List Int):List Int:=(List.range n).map fun i:Nat=>(cnt l i:Int)
def countB (m:Ma):Bool:=
 (List.range m.m.fs.length).all (fun i:Nat=>decide ((mM m i).r=cnt (mO m) i)&&(decide ((mM m i).f<0)||m.ca.any fun c=>decide (c.k=i)))&&decide (m.sl=iQ m.sl.length (lL m))
def iB (m:Ma):Int:=if fA m≠0 then fA m else if cachedE m≠0 then cachedE m else if jN m≠0 then jN m else if countB m=true then 0 else 7
def bP (m:Ma) (f i:Int):Page:=
 match m.ca.find? fun c=>decide (c.f=f)&&decide (c.i=i) with
 | some c=>(mM m c.k).p
 | none=>if 0≤bA m.st f i then dS (jh m.dk (bA m.st f i)) ((aT m.st f).n-i*8) else zPg
def wB (s:St) (f i:Int):Bool:=decide (dO (aT s f).n≤i)
structure Kp where
 m:Ma
 e:Int
def gW (k e:Int):Int:=if k=0 then e else k
def dR (m:Ma) (p:Nat):Sp:=m.sp.getD p zSp
def setTb (m:Ma) (p:Nat) (t:Tb):Ma:={ m with sp:=m.sp.set p { dR m p with tb:=t } }
def iD (k:Kp) (p:Nat) (n:Int) (x:En):Kp:=
 if setE (dR k.m p).tb n x=0 then ⟨setTb k.m p (setT (dR k.m p).tb n x),k.e⟩ else ⟨k.m,gW k.e (setE (dR k.m p).tb n x)⟩
def gz (k:Kp) (f n:Int):Kp:=
 if ky k.m.m f n=0 then ⟨{ k.m with m:=jw k.m.m f n },k.e⟩ else ⟨k.m,gW k.e (ky k.m.m f n)⟩
def lw (k:Kp) (s n:Int):Kp:=
 if eD k.m.sl s n=0 then ⟨{ k.m with sl:=eF k.m.sl s n },k.e⟩ else ⟨k.m,gW k.e (eD k.m.sl s n)⟩
def ni (k:Kp) (p:Nat) (n:Int):Kp:=
 let x:=dn (dR k.m p).tb n
 if x.k=1 then iD (gz k x.n (-1)) p n zEn else if x.k=2 then iD (lw k x.n (-1)) p n zEn else k
def vv (f i:Int) (c:Cc):Bool:=decide (f<c.f)||(decide (c.f=f)&&decide (i≤c.i))
def rR (l:List Cc) (f i:Int):Nat:=(l.findIdx? (vv f i)).getD l.length
def JV (l:List Cc) (f i:Int):Bool:=match l[rR l f i]? with
 | some c=>decide (c.f=f)&&decide (c.i=i)
 | none=>false
def setFr (m:Ma) (f:Nat) (x:Fr):Ma:={ m with m:={ m.m with fs:=m.m.fs.set f x } }
def aO (m:Ma) (f:Nat):Fr:=m.m.fs.getD f fr0
def fO (m:Ma) (f:Nat):Bool:=decide ((aO m f).f<0)||!(aO m f).d||decide (bL m.st (aO m f).f (aO m f).i=0)
def gN (k:Kp) (f:Nat):Kp:=
 let x:=aO k.m f
 if x.f<0∨x.d=false∨bL k.m.st x.f x.i≠0 then k
 else ⟨setFr { k.m with st:=cO k.m.st x.f x.i,dk:=bT k.m.dk (dh k.m.st x.f x.i) x.p } f { x with d:=false },gW k.e (aH k.m.dk (dh k.m.st x.f x.i))⟩
def aU (m:Ma) (f:Int):List (Nat × Int):=(List.range m.sp.length).flatMap fun p=>(kW (dR m p).tb 1 f).map fun n=>(p,n)
def jD (k:Kp) (l:List (Nat × Int)):Kp:=l.foldl (fun k u=>ni k u.1 u.2) k
def Al (f n:Int) (k:Kp) (u:Nat × Int):Kp:=iD (gz k f (-1)) u.1 u.2 ⟨2,n,false⟩
def mX (k:Kp) (f n:Int) (l:List (Nat × Int)):Kp:=l.foldl (Al f n) k
def jF (m:Ma) (f:Nat):Bool:=if 0≤(aO m f).f then fO m f else decide (fo m.sl (aU m f).length=0)
def dN (k:Kp) (f:Nat):Kp:=
 let x:=aO k.m f
 let l:=aU k.m f
 if 0≤x.f then
  if fO k.m f=false then k else
  let k2:=jD (gN k f) l
  if JV k2.m.ca x.f x.i=true then gz ⟨{ k2.m with ca:=k2.m.ca.eraseIdx (rR k2.m.ca x.f x.i) },k2.e⟩ f (-1) else k2
 else if fo k.m.sl l.length≠0 then k
 else mX ⟨{ k.m with sl:=jy k.m.sl l.length,sw:=bT k.m.sw (il k.m.sl l.length) x.p },gW k.e (aH k.m.sw (il k.m.sl l.length))⟩ f (il k.m.sl l.length) l
def reclaimN:Nat→Kp→Kp × Bool
 | 0,k=>(k,false)
 | t+1,k=>
  if bJ k.m.m≠0∨fV k.m.m<0 then (⟨k.m,gW k.e (bJ k.m.m)⟩,false) else
  let k1:Kp:=⟨{ k.m with m:=dU k.m.m },k.e⟩
  if jF k1.m (fV k.m.m).toNat=true then (dN k1 (fV k.m.m).toNat,true) else reclaimN t (dN k1 (fV k.m.m).toNat)
def dG (k:Kp):Kp × Bool:=reclaimN (2*k.m.m.fs.length+1) k
def gL (m:Ma) (f i:Int):Page:=if 0≤bA m.st f i then dS (jh m.dk (bA m.st f i)) ((aT m.st f).n-i*8) else zPg
end Go.Proofs.YtjkkoeijlhfneaaGreat
namespace Pw
open Go Go.RowKit
variable {B B' b base c cap f fuel g i id k n off sz:Nat} {L spare:Nat → Bool} {P:Program} {Q:Exit → Act → World → Prop} {T TX TY TZ e t t' ty:TypeId} {V v vx vy:Value} {W w' w0 w1:World} {Y Z args cs t0:Array Value} {a:Option Addr} {a0:Act} {held:Bool} {l:List Int} {o op:Oper} {ops:Array Oper} {rest:List Oper} {tm vs xs:List Value} {x:Operand} {y:Nat → Value} {ρ:Operand → Value}
theorem aV {k:IntKind} {a b:Int} (h:a=b):Ending.returned (.int k a) = .returned (.int k b):=by rw[h]
theorem bG {a b:Bool} (h:a=b):Ending.returned (.bool a) = .returned (.bool b):=by rw[h]
theorem ag {w:World} (h:Below w.heap.size w W) (hb:Below W.heap.size W w1):Below w.heap.size w w1:=
 h.trans (hb.mono h.size)
theorem ed (w:World) (o:Obj):w.heap.size≤(w.alloc o).heap.size:=((Below.refl 0 w).alloc (Nat.zero_le _) o).size
theorem bQ {w:World} (h:B≤w.heap.size) (o:Obj):B≤(w.alloc o).heap.size:=Nat.le_trans h (ed w o)
def aD (w:World) (b:Nat) (cs:Array Value) (T:TypeId):Prop:=w.heap[b]?=some (.cells cs T (0,0))
theorem aD.cell {w:World} (h:aD w b cs T):∀o,w.cell? ⟨b,o,none⟩=cs[o]?:=by
 intro o;unfold aD at h;simp[World.cell?,h]
theorem aD.free {w:World} (h:aD w b cs T):∀o,w.frozen? ⟨b,o,none⟩=false:=by
 intro o;unfold aD at h;simp[World.frozen?,h]
theorem aD.lt {w:World} (h:aD w b cs T):b<w.heap.size:=lt_of_block h
theorem aD.below {w:World} (h:aD w b cs T) (hb:Below B w w') (hB:b<B):aD w' b cs T:=
 (hb.block b hB).trans h
theorem aD.ext {w:World} (h:aD w b cs T) (hb:Below w.heap.size w w'):aD w' b cs T:=h.below hb h.lt
theorem aD.new (w:World) (cs:Array Value) (T:TypeId):aD (w.alloc (.cells cs T)) w.heap.size cs T:=heap_alloc_new w _
theorem aD.alloc {w:World} (h:aD w b cs T) (o:Obj):aD (w.alloc o) b cs T:=(Below.heap_alloc w o b h.lt).trans h
theorem aD.drewN {w:World} (h:aD w b cs T) (n:Nat):aD (w.drewN n) b cs T:=h
theorem aD.drew {w:World} (h:aD w b cs T):aD w.drew b cs T:=h
def dA (w:World) (a:Option Addr) (vs:List Value):Prop:=
 ∀i u,vs[i]?=some u→∃b off,a=some ⟨b,off,none⟩∧w.cell? ⟨b,off+i,none⟩=some u
theorem dA.below {w:World} (h:dA w a vs) (hb:Below w.heap.size w w'):dA w' a vs:=by
 intro i u hi
 obtain⟨b,off,ha,hc⟩:=h i u hi
 exact⟨b,off,ha,cell_later hb hc⟩
theorem dA.nil {w:World} :dA w a []:=fun i u h=>by simp at h
theorem dA.at {w:World} {a:Option Addr} {vs:List Value} (h:dA w a vs) (hn:0<vs.length):∃b off,a=some ⟨b,off,none⟩∧∀i u,vs[i]?=some u→w.cell? ⟨b,off+i,none⟩=some u:=by
 obtain⟨b,off,rfl,hc⟩:=h 0 _ (List.getElem?_eq_getElem hn)
 refine⟨b,off,rfl,fun i u hi => ?_⟩
 obtain⟨b',off',e,hc'⟩:=h i u hi
 simp only[Option.some.injEq,Addr.mk.injEq,and_true] at e
 obtain⟨rfl,rfl⟩:=e
 exact hc'
theorem flat_get {α:Type} (enc:α→List Value) (sz:Nat) (hsz:∀x,(enc x).length=sz):∀(l:List α) (i:Nat) (h:i<l.length) (j:Nat) (u:Value),(enc l[i])[j]?=some u→(l.flatMap enc)[i*sz+j]?=some u
 | [],i,h,_,_,_=>absurd h (Nat.not_lt_zero _)
 | x::l,0,_,j,u,hj=>by
  simp only[List.flatMap_cons,Nat.zero_mul,Nat.zero_add]
  simp only[List.getElem_cons_zero] at hj
  have hl:j<(enc x).length:=by
   rcases Nat.lt_or_ge j (enc x).length with h|h
   ·exact h
   ·simp[List.getElem?_eq_none h] at hj
  rw[List.getElem?_append_left hl];exact hj
 | x::l,i+1,h,j,u,hj=>by
  simp only[List.flatMap_cons]
  have e:(i+1)*sz+j=(enc x).length+(i*sz+j):=by rw[hsz x,Nat.add_mul];omega
  rw[e,List.getElem?_append_right (by omega),Nat.add_sub_cancel_left]
  exact flat_get enc sz hsz l i (by simpa using h) j u (by simpa using hj)
theorem flat_len {α:Type} (enc:α→List Value) (sz:Nat) (hsz:∀x,(enc x).length=sz) (l:List α):(l.flatMap enc).length=l.length*sz:=by
 induction l with
 | nil=>simp
 | cons x l ih=>simp[List.flatMap_cons,ih,hsz x,Nat.add_mul,Nat.add_comm]
theorem dA.elem {α:Type} {enc:α→List Value} (hsz:∀x,(enc x).length=sz) (hp:0<sz) {w:World} {l:List α} (h:dA w a (l.flatMap enc)) (i:Nat) (hi:i<l.length) :
  ∃b off,a=some ⟨b,off,none⟩∧∀j u,(enc l[i])[j]?=some u→w.cell? ⟨b,off+i*sz+j,none⟩=some u:=by
 obtain⟨b,off,ha,hc⟩:=h.at (by rw[flat_len enc sz hsz];exact Nat.mul_pos (by omega) hp)
 exact⟨b,off,ha,fun j u hj=>by rw[Nat.add_assoc];exact hc _ _ (flat_get enc sz hsz l i hi j u hj)⟩
def bq (cur:Array Value):Nat→List Value→Array Value
 | _,[]=>cur
 | o,v::r=>bq (cur.setIfInBounds o v) (o+1) r
theorem size_putAt:∀(vs:List Value) (cur:Array Value) (o:Nat),(bq cur o vs).size=cur.size
 | [],_,_=>rfl
 | v::r,cur,o=>by simp[bq,size_putAt r]
theorem putAt_out:∀(vs:List Value) (cur:Array Value) (o k:Nat),(k<o∨o+vs.length≤k)→(bq cur o vs)[k]?=cur[k]?
 | [],_,_,_,_=>rfl
 | v::r,cur,o,k,h=>by
  simp only[List.length_cons] at h
  simp only[bq]
  rw[putAt_out r _ _ _ (by omega),Array.getElem?_setIfInBounds_ne (by omega)]
theorem putAt_in:∀(vs:List Value) (cur:Array Value) (o j:Nat) (u:Value),o+vs.length≤cur.size→vs[j]?=some u→(bq cur o vs)[o+j]?=some u
 | [],_,_,_,_,_,h=>by simp at h
 | v::r,cur,o,0,u,hs,h=>by
  simp only[List.length_cons] at hs
  simp only[bq]
  rw[putAt_out r _ _ _ (by omega)]
  simp at h;subst h
  simp[show o<cur.size by omega]
 | v::r,cur,o,j+1,u,hs,h=>by
  simp only[List.length_cons] at hs
  simp only[bq]
  rw[show o+(j+1)=o+1+j by omega]
  exact putAt_in r _ _ _ u (by simp;omega) (by simpa using h)
theorem aD.setCell {w:World} (h:aD w b cs T) (o:Nat) (v:Value):aD (w.setCell ⟨b,o,none⟩ v) b (cs.setIfInBounds o v) T:=
 heap_setCell_same w b o cs T v h
theorem aD.setCell_other {w:World} (h:aD w b cs T) (a:Addr) (v:Value) (hne:b≠a.block):aD (w.setCell a v) b cs T:=
 (heap_setCell_other w a b v hne).trans h
theorem aD.setCells :∀(vs:List Value) (o:Nat) {w:World} {cs:Array Value},aD w b cs T→aD (w.setCells b o vs) b (bq cs o vs) T
 | [],_,_,_,h=>h
 | v::r,o,_,_,h=>aD.setCells r (o+1) (h.setCell o v)
theorem heap_setCells_other (b:Nat):∀(vs:List Value) (o:Nat) (w:World) (k:Nat),k≠b→(w.setCells b o vs).heap[k]?=w.heap[k]?
 | [],_,_,_,_=>rfl
 | v::r,o,w,k,h=>(heap_setCells_other b r (o+1) _ k h).trans (heap_setCell_other w ⟨b,o,none⟩ k v h)
theorem size_setCells (b:Nat):∀(vs:List Value) (o:Nat) (w:World),(w.setCells b o vs).heap.size=w.heap.size
 | [],_,_=>rfl
 | v::r,o,w=>(size_setCells b r (o+1) _).trans (by simp[World.setCell])
theorem lG (b:Nat):∀(vs:List Value) (o:Nat) (w:World),(w.setCells b o vs).os=w.os∧(w.setCells b o vs).tape=w.tape∧(w.setCells b o vs).output=w.output
 | [],_,_=>⟨rfl,rfl,rfl⟩
 | _::r,o,_=>lG b r (o+1) _
theorem aA (w:World) (b o:Nat) (vs:List Value):w.grownBy (w.setCells b o vs) (some b):=
 ⟨(lG b vs o w).1,(lG b vs o w).2.1,(lG b vs o w).2.2,Nat.le_of_eq (size_setCells b vs o w).symm,
  fun k _ hk=>heap_setCells_other b vs o w k (fun e=>hk (by rw[e]))⟩
def Own (w:World) (B:Nat) (e:TypeId) (sz:Nat) (v:Value) (n:Nat) (xs:List Value):Prop:=
 xs.length=n*sz∧((v = .slice none 0 0∧n=0) ∨
  ∃g off cap cur,v = .slice (some ⟨g,off,none⟩) n cap∧B≤g∧aD w g cur e∧n≤cap∧cap≤maxLen∧off+cap*sz≤cur.size∧∀j u,xs[j]?=some u→cur[off+j]?=some u)
theorem Own.nil (w:World) (B:Nat) (e:TypeId) (sz:Nat):Own w B e sz (.slice none 0 0) 0 []:=⟨by simp,.inl ⟨rfl,rfl⟩⟩
theorem Own.of_owns {w:World} (h:w.ownsRow B e sz v n xs):Own w B e sz v n xs:=by
 obtain⟨hl,h⟩:=h
 refine⟨hl,h.imp id fun⟨g,cap,cur,hv,hB,hg,hc,hm,hs,ht⟩=>⟨g,0,cap,cur,hv,hB,hg,hc,hm,by omega,fun j u hj => ?_⟩⟩
 rw[Nat.zero_add,←Array.getElem?_toList]
 rw[←ht,List.getElem?_take] at hj
 split at hj
 ·exact hj
 ·cases hj
theorem Own.mono {w:World} (h:Own w B e sz v n xs) (hB:B'≤B):Own w B' e sz v n xs:=
 ⟨h.1,h.2.imp id fun⟨g,off,cap,cur,hv,hg,r⟩=>⟨g,off,cap,cur,hv,Nat.le_trans hB hg,r⟩⟩
theorem Own.below {w:World} (h:Own w B e sz v n xs) (hb:Below w.heap.size w w'):Own w' B e sz v n xs:=
 ⟨h.1,h.2.imp id fun⟨g,off,cap,cur,hv,hg,hk,r⟩=>⟨g,off,cap,cur,hv,hg,hk.ext hb,r⟩⟩
theorem Own.grown {w:World} {row:Option Nat} (h:Own w B e sz v n xs) (hg:w.grownBy w' row) (hne:∀g,v.ownBlock=some g→row≠some g):Own w' B e sz v n xs:=
 ⟨h.1,h.2.imp id fun⟨g,off,cap,cur,hv,hB,hk,r⟩=>⟨g,off,cap,cur,hv,hB,(hg.block g hk.lt (fun e=>hne g (by rw[hv];rfl) e.symm)).trans hk,r⟩⟩
theorem Own.rd {w:World} (h:Own w B e sz v n xs):∃a c,v = .slice a n c∧n≤c∧c≤maxLen∧(a=none→c=0)∧dA w a xs:=by
 obtain⟨hl,h⟩:=h
 rcases h with ⟨rfl,rfl⟩|⟨g,off,cap,cur,rfl,_,hg,hc,hm,hs,ht⟩
 ·have:xs=[]:=List.eq_nil_of_length_eq_zero (by simpa using hl)
  subst this
  exact⟨none,0,rfl,Nat.le_refl _,Nat.zero_le _,fun _=>rfl,dA.nil⟩
 ·exact⟨_,cap,rfl,hc,hm,fun e=>(Option.some_ne_none _ e).elim,fun i u hi=>⟨g,off,rfl,by rw[hg.cell];exact ht i u hi⟩⟩
theorem Own.ge {w:World} (h:Own w B e sz v n xs):∀k,v.ownBlock=some k→B≤k:=by
 rcases h.2 with ⟨rfl,_⟩|⟨g,off,cap,cur,rfl,hB,_⟩
 ·intro k hk;cases hk
 ·intro k hk;cases hk;exact hB
theorem aD.grown {w:World} {row:Option Nat} (h:aD w b cs T) (hg:w.grownBy w' row) (hne:row≠some b):aD w' b cs T:=
 (hg.block b h.lt (fun e=>hne e.symm)).trans h
theorem Own.alloc {w:World} (h:Own w B e sz v n xs) (o:Obj):Own (w.alloc o) B e sz v n xs:=
 h.below ((Below.refl _ _).alloc (Nat.le_refl _) _)
theorem dA.one (w:World) (v:Value) (T:TypeId):dA (w.alloc (.cells #[v] T)) (some ⟨w.heap.size,0,none⟩) [v]:=by
 intro i u hi
 refine⟨_,_,rfl,?_⟩
 rw[(aD.new w #[v] T).cell]
 cases i with
 | zero=>simpa using hi
 | succ i=>simp at hi
theorem dA.new (w:World) (cs:Array Value) (T:TypeId):dA (w.alloc (.cells cs T)) (some ⟨w.heap.size,0,none⟩) cs.toList:=by
 intro i u hi
 refine⟨_,_,rfl,?_⟩
 rw[(aD.new w cs T).cell,Nat.zero_add]
 simpa using hi
theorem AU (k:IntKind) (n:Int):∀u∈[Value.int k n],u.oneCell' = true:=by
 intro u hu
 cases List.mem_singleton.1 hu
 rfl
theorem dI {w:World} {a:Act} (hg:o.guard=none) (s x:Operand) (t:TypeId)
 (hop:o.op=Op.call { callee:=Callee.builtin Builtin.append,args:=#[s,x],argTypes:=#[t,t] })
 (B:Nat) (e:TypeId) (z:Value) (size bytes:Nat) (h1:P.underlying t=some (.slice e)) (h2:(P.info? e).map (fun i=>(i.zero,i.size,i.bytes))=some (some z,size,bytes)) (h6:z.cells.size=size) (h7:0<size)
 (v:Value) (n:Nat) (xs:List Value) (hs:a.eval s=v) (hown:Own w B e size v n xs)
 (ao:Option Addr) (m c:Nat) (news:List Value) (hx:a.eval x = .slice ao m c) (hnone:ao=none→c=0) (hmc:m≤c) (hn:news.length=m*size) (hrd:dA w ao news) (h1c:∀u∈news,u.oneCell' = true)
 (b1:n+m≤maxLen) (b2:(n+m)*bytes≤140737488355328) (hB:B≤w.heap.size)
 (hK:∀v' w',Own w' B e size v' (n+m) (xs++news)→w.grownBy w' v.ownBlock→wpList P ops Q rest (a.put o.dst v') w') :
  wpList P ops Q (o::rest) a w:=by
 obtain⟨i,hi,hz,hsz,hby⟩:=info_parts h2
 cases ao with
 | none=>
  obtain rfl:=hnone rfl
  obtain rfl:m=0:=by omega
  obtain rfl:news=[]:=List.eq_nil_of_length_eq_zero (by simpa using hn)
  have key:wpList P ops Q rest (a.put o.dst v) w:=by
   have:=hK v w (by simpa using hown) (World.grownBy.refl _ _)
   exact this
  rcases hown with ⟨hl,⟨rfl,rfl⟩|⟨g,off,cap,cur,rfl,hBg,hk,hc,hm,hsize,hcell⟩⟩
  ·obtain rfl:xs=[]:=List.eq_nil_of_length_eq_zero (by simpa using hl)
   exact wpList_append_own_none hg s x t hop B e i size h1 hi _ 0 [] hs (World.ownsRow_nil w B e size) hx key
  ·refine wpList_plain hg fun K hK' => ?_
   unfold Oper.wp
   simp[execOp,hop,resolve,invoke,builtin,hs,hx,Builtin.append_,run_underlying h1,Go.sizeOf,typeInfo,hi,Builtin.lenOf,Builtin.firstCells,hc,storeCells,Result.andThen]
   exact hK' _ _ key
 | some ad=>
  have hnews:∀j u,news[j]?=some u→w.cell? (ad.add j)=some u:=by
   intro j u hj
   obtain⟨b,off,e',hc⟩:=hrd j u hj
   cases e'
   rw[Addr.add_lit];exact hc
  rcases hown with ⟨hl,⟨rfl,rfl⟩|⟨g,off,cap,cur,rfl,hBg,hk,hc,hm,hsize,hcell⟩⟩
  ·obtain rfl:xs=[]:=List.eq_nil_of_length_eq_zero (by simpa using hl)
   exact wpList_append_own w hg s x t hop B e i z size bytes h1 hi hz hsz hby h6 h7 _ 0 [] hs (World.ownsRow_nil w B e size) ad m c news hx hn hnews h1c b1 b2 hB
    fun v' w' r1 r2 _=>hK v' w' (.of_owns r1) r2
  ·have hcap:n*size≤cap*size:=Nat.mul_le_mul_right _ hc
   refine wpList_append_arg w hg s x t hop e i z size bytes h1 hi hz hsz hby h6 h7 g off n cap xs hs hl (fun j u hj=>by rw[hk.cell];exact hcell j u hj) ad m c news hx hn hnews h1c (fun hr j hj => ?_) b1 b2 (fun hr => ?_) (fun hr v' w' r1 r2 => ?_)
   ·have h3:(n+m)*size≤cap*size:=Nat.mul_le_mul_right _ hr
    rw[Nat.add_mul] at h3
    have:off+n*size+j<cur.size:=by omega
    exact⟨by rw[hk.cell];simp[this],hk.free _⟩
   ·have h3:(n+m)*size≤cap*size:=Nat.mul_le_mul_right _ hr
    rw[Nat.add_mul] at h3
    refine hK _ _ ⟨by rw[List.length_append,hl,hn,Nat.add_mul],.inr ⟨g,off,cap,_,rfl,hBg,hk.setCells news (off+n*size),hr,hm,by rw[size_putAt];exact hsize,fun j u hj => ?_⟩⟩ (aA _ _ _ _)
    by_cases hjl:j<xs.length
    ·rw[List.getElem?_append_left hjl] at hj
     rw[putAt_out _ _ _ _ (.inl (by omega))];exact hcell j u hj
    ·rw[List.getElem?_append_right (by omega)] at hj
     have:=putAt_in news cur (off+n*size) (j-xs.length) u (by omega) hj
     rwa [show off+n*size+(j-xs.length)=off+j by omega] at this
   ·have r2' : w.grownBy w' (Value.ownBlock (.slice (some ⟨g,off,none⟩) n cap)):=⟨r2.os,r2.tape,r2.output,r2.size,fun k hk' _=>r2.block k hk' (by simp)⟩
    exact hK v' w' ((Own.of_owns r1).mono hB) r2'
theorem ik (cur cs:Array Value) (h:cs.size=cur.size):bq cur 0 cs.toList=cs:=by
 apply Array.ext_getElem?
 intro i
 by_cases hi:i<cs.size
 ·have:=putAt_in cs.toList cur 0 i cs[i] (by simp;omega) (by simp[hi])
  rw[Nat.zero_add] at this
  rw[this]
  simp[hi]
 ·rw[Array.getElem?_eq_none (by rw[size_putAt];omega),Array.getElem?_eq_none (by omega)]
theorem fq {w:World} {a:Act} (hgd:op.guard=none) (ty:TypeId) (x y:Operand) (ho:op.op = .store ty x y)
 (b o:Nat) (cells:Array Value) (hx:a.eval x = .pointer (some ⟨b,o,none⟩)) (hy:a.eval y = .agg cells) (cur:Array Value) (T:TypeId) (hg:aD w b cur T)
 (hfit:o+cells.size≤cur.size) (hi:(P.info? ty).map (·.size)=some cells.size) (h1:cells.all (·.oneCell')=true)
 (h:∀w',aD w' b (bq cur o cells.toList) T→w.grownBy w' (some b)→wpList P ops Q rest (a.put op.dst undef) w'):wpList P ops Q (op::rest) a w:=by
 refine wpList_store_mid hgd ty x y ho b o cells hx hy (fun j hj=>⟨?_,hg.free _⟩) hi h1 (h _ (hg.setCells _ _) (aA _ _ _ _))
 rw[hg.cell]
 simp[show o+j<cur.size by omega]
theorem ax {w:World} {a:Act} (hgd:op.guard=none) (ty:TypeId) (x y:Operand) (ho:op.op = .store ty x y)
 (b:Nat) (cells:Array Value) (hx:a.eval x = .pointer (some ⟨b,0,none⟩)) (hy:a.eval y = .agg cells) (cur:Array Value) (T:TypeId) (hg:aD w b cur T)
 (hfit:cells.size=cur.size) (hi:(P.info? ty).map (·.size)=some cells.size) (h1:cells.all (·.oneCell')=true)
 (h:∀w',aD w' b cells T→w.grownBy w' (some b)→wpList P ops Q rest (a.put op.dst undef) w'):wpList P ops Q (op::rest) a w:=by
 refine fq hgd ty x y ho b 0 cells hx hy cur T hg (by omega) hi h1 fun w' hb hgr => ?_
 rw[ik cur cells hfit] at hb
 exact h w' hb hgr
theorem gJ {α:Type} (f:α→Value) (l:List α):l.flatMap (fun x=>[f x])=l.map f:=by
 induction l with
 | nil=>rfl
 | cons x l ih=>simp[ih]
def wU (b:UInt8):Value:=.int .u8 b.toNat
def eH (n:Int):Value:=.int .i64 n
def gD (p:Page):Array Value:=#[Value.int .u8 p[0].toNat,Value.int .u8 p[1].toNat,Value.int .u8 p[2].toNat,Value.int .u8 p[3].toNat,Value.int .u8 p[4].toNat,Value.int .u8 p[5].toNat,Value.int .u8 p[6].toNat,Value.int .u8 p[7].toNat]
theorem CJ (p:Page):(gD p).size=8:=rfl
theorem Oo (p:Page) (k:Nat) (h:k<8):(gD p)[k]?=some (Value.int .u8 p[k].toNat):=by
 match k,h with
 | 0,_=>rfl
 | 1,_=>rfl
 | 2,_=>rfl
 | 3,_=>rfl
 | 4,_=>rfl
 | 5,_=>rfl
 | 6,_=>rfl
 | 7,_=>rfl
 | n+8,h=>omega
theorem wY (p:Page) (k:Nat) (h:k<8) (b:UInt8):(gD p).setIfInBounds k (.int .u8 b.toNat)=gD (p.set k b):=by
 match k,h with
 | 0,_=>simp[gD]
 | 1,_=>simp[gD]
 | 2,_=>simp[gD]
 | 3,_=>simp[gD]
 | 4,_=>simp[gD]
 | 5,_=>simp[gD]
 | 6,_=>simp[gD]
 | 7,_=>simp[gD]
 | n+8,h=>omega
theorem BH (p:Page):(gD p)[0]?=some (Value.int .u8 p[0].toNat)∧(gD p)[1]?=some (Value.int .u8 p[1].toNat)∧(gD p)[2]?=some (Value.int .u8 p[2].toNat)∧(gD p)[3]?=some (Value.int .u8 p[3].toNat)∧(gD p)[4]?=some (Value.int .u8 p[4].toNat)∧(gD p)[5]?=some (Value.int .u8 p[5].toNat)∧(gD p)[6]?=some (Value.int .u8 p[6].toNat)∧(gD p)[7]?=some (Value.int .u8 p[7].toNat):=
 ⟨rfl,rfl,rfl,rfl,rfl,rfl,rfl,rfl⟩
theorem iL (p:Page):(gD p).all (·.oneCell')=true:=by simp[gD,Value.oneCell']
theorem zo (w:World) (e:TypeId) (k:IntKind) (cs:Array Value) (off:Nat) (v:Value) (he:P.underlying e=some (.int k)) (hv:cs[off]?=some v) :
  (part e cs off).run P w = .ok v w:=by
 simp[part,isAgg,run_underlying he,hv]
theorem Cz (w:World) (d:Nat) (t e:TypeId) (ht:P.underlying t=some (.array 8 e)) (he:P.underlying e=some (.int .u8)) (hsz:(P.info? e).map (·.size)=some 1) (p q:Page) :
  (Op.equalIn (d+2) t (.agg (gD p)) (.agg (gD q))).run P w = .ok (p==q) w:=by
 cases hq:P.info? e with
 | none=>simp[hq] at hsz
 | some i=>
 have hi:i.size=1:=by simpa[hq] using hsz
 rw[KO]
 unfold Op.equalIn
 simp only[Sem.run_bind,run_underlying ht,Result.andThen_ok,Go.sizeOf,typeInfo,run_program,hq,hi,Sem.run_pure]
 simp only[Std.Legacy.Range.forIn_eq_forIn_range',List.range',Std.Legacy.Range.size]
 have g:∀(r:Page) (k:Nat) (h:k<8) (w:World),(part e (gD r) k).run P w = .ok (.int .u8 r[k].toNat) w:=fun r k h w=>zo w e .u8 _ _ _ he (Oo r k h)
 have c:∀(a b:UInt8) (w:World),(Op.equalIn (d+1) e (.int .u8 a.toNat) (.int .u8 b.toNat)).run P w = .ok (a==b) w:=fun a b w=>by
  rw[run_equalIn_int w d e .u8 .u8 _ _ he,OL]
 simp[g,c]
 repeat' split
 all_goals simp_all
def Gives (P:Program) (o:Oper) (a:Act) (w:World) (F:Value→World→Prop):Prop:=
 match (execOp a.eval o).run P w with
 | .ok (.value v) w'=>F v w'
 | .ok .skip w'=>F undef w'
 | .ok (.enter f args) w'=>Calls P f args w' fun | .returned v,w''=>F v w'' | _,_=>False
 | _=>False
def lay (L:Nat→Bool) (y:Nat→Value):List Oper→Nat→Array Value→Array Value
 | [],_,t=>t
 | o::r,i,t=>lay L y r (i+1) (match o.dst with | some d=>if L i then t.setIfInBounds d (y i) else t | none=>t)
theorem lay_size (L:Nat→Bool) (y:Nat→Value):∀(l:List Oper) (i:Nat) (t:Array Value),(lay L y l i t).size=t.size
 | [],_,_=>rfl
 | o::r,i,t=>by
  simp only[lay]
  rw[lay_size L y r]
  cases o.dst with
  | none=>rfl
  | some d=>simp only[];split<;>simp
theorem fZ (L:Nat→Bool) (y:Nat→Value) (s:Nat):∀(l:List Oper) (i:Nat) (t:Array Value),(∀k o,l[k]?=some o→o.dst=some s→L (i+k)=false)→(lay L y l i t)[s]?=t[s]?
 | [],_,_,_=>rfl
 | o::r,i,t,h=>by
  simp only[lay]
  rw[fZ L y s r (i+1) _ (fun k o' hk hd=>by have:=h (k+1) o' (by simpa using hk) hd;rwa [show i+(k+1)=i+1+k by omega] at this)]
  cases hd:o.dst with
  | none=>rfl
  | some d=>
   simp only[]
   split
   ·rename_i hL
    have hne:d≠s:=by
     intro e
     subst e
     have:=h 0 o (by simp) hd
     simp[hL] at this
    rw[Array.getElem?_setIfInBounds_ne hne]
   ·rfl
theorem jl (L:Nat→Bool) (y:Nat→Value) (s:Nat):∀(l:List Oper) (i:Nat) (t:Array Value) (k:Nat) (o:Oper),l[k]?=some o→o.dst=some s→L (i+k)=true →
  (∀k' o',l[k']?=some o'→o'.dst=some s→k' = k)→s<t.size→(lay L y l i t)[s]?=some (y (i+k))
 | [],_,_,_,_,h,_,_,_,_=>by simp at h
 | o0::r,i,t,0,o,hk,hd,hL,hu,hs=>by
  simp at hk
  subst hk
  simp only[lay,hd]
  rw[fZ L y s r (i+1) _ (fun k o' hk' hd'=>by have:=hu (k+1) o' (by simpa using hk') hd'; omega)]
  rw[Nat.add_zero] at hL
  simp[hL,hs]
 | o0::r,i,t,k+1,o,hk,hd,hL,hu,hs=>by
  simp only[lay]
  have:=jl L y s r (i+1) (match o0.dst with | some d=>if L i then t.setIfInBounds d (y i) else t | none=>t) k o (by simpa using hk) hd (by rwa [show i+1+k=i+(k+1) by omega])
   (fun k' o' hk' hd'=>by have:=hu (k' + 1) o' (by simpa using hk') hd'; omega)
   (by cases o0.dst with
     | none=>exact hs
     | some d=>simp only[];split<;>simpa using hs)
  rw[this]
  congr 2
  omega
theorem mE (L L' : Nat→Bool) (y:Nat→Value):∀(l:List Oper) (i:Nat) (t:Array Value),(∀k,k<l.length→L (i+k)=L' (i+k))→lay L y l i t=lay L' y l i t
 | [],_,_,_=>rfl
 | o::r,i,t,h=>by
  simp only[lay]
  have h0:L i=L' i:=by simpa using h 0 (by simp)
  rw[h0]
  exact mE L L' y r (i+1) _ fun k hk=>by have:=h (k+1) (by simp;omega);rwa [show i+(k+1)=i+1+k by omega] at this
def gZ (ops:Array Oper):Bool:=
 (List.range ops.size).all fun i=>match ops[i]? with
  | none=>true
  | some o=>
   (match o.op with | .select ..=>false | _=>true) &&
   o.after.toList.all (fun e=>Region.binds .any e&&decide (e.on<i)) &&
   (List.range ops.size).all fun j=>match ops[j]? with
    | none=>true
    | some p=>match p.dst with
     | none=>true
     | some d=>(decide (i=j)||o.dst != some d)&&(!(o.looksAt ops).contains d||o.after.toList.any (fun e=>decide (e.on=j)))
theorem dV (h:gZ ops=true) (hi:ops[i]?=some o) :
  (∀cs b,o.op ≠ .select cs b)∧(∀e∈o.after,Region.binds .any e=true∧e.on<i) ∧
  ∀j p d,ops[j]?=some p→p.dst=some d→(i=j∨o.dst≠some d)∧(d∈o.looksAt ops→∃e∈o.after,e.on=j):=by
 have hlt:i<ops.size:=(Array.getElem?_eq_some_iff.1 hi).1
 have h1:=List.all_eq_true.1 h i (List.mem_range.2 hlt)
 simp only[hi,Bool.and_eq_true] at h1
 obtain⟨⟨h2,h3⟩,h4⟩:=h1
 refine⟨?_,?_,?_⟩
 ·intro cs b e
  simp[e] at h2
 ·intro e he
  have:=List.all_eq_true.1 h3 e (Array.mem_toList_iff.2 he)
  simpa using this
 ·intro j p d hj hd
  have hjl:j<ops.size:=(Array.getElem?_eq_some_iff.1 hj).1
  have h5:=List.all_eq_true.1 h4 j (List.mem_range.2 hjl)
  simp only[hj,hd,Bool.and_eq_true,Bool.or_eq_true,decide_eq_true_eq,bne_iff_ne,ne_eq,Bool.not_eq_true',List.any_eq_true] at h5
  refine⟨h5.1,fun hmem => ?_⟩
  rcases h5.2 with h6|⟨e,he,h6⟩
  ·have h7:(o.looksAt ops).contains d=true:=List.contains_iff_mem.2 hmem
   rw[h7] at h6;cases h6
  ·exact⟨e,Array.mem_toList_iff.1 he,h6⟩
theorem vk (hok:gZ ops=true) (hi:ops[i]?=some o) (hL:∀e∈o.after,L e.on=true) (t:Nat) (ht:t∈o.looksAt ops) :
  (lay L y ops.toList 0 a0.tmps)[t]?=(lay (fun _=>true) y ops.toList 0 a0.tmps)[t]?:=by
 obtain⟨_,_,hw⟩:=dV hok hi
 by_cases hsz:t<a0.tmps.size
 ·by_cases hex:∃(j:Nat) (p:Oper),ops[j]?=some p∧p.dst=some t
  ·obtain⟨j,p,hj,hd⟩:=hex
   obtain⟨e,he,hej⟩:=(hw j p t hj hd).2 ht
   have hu:∀k' o',ops.toList[k']?=some o'→o'.dst=some t→k' = j:=by
    intro k' o' hk' hd'
    have:=(dV hok (i:=k') (o:=o') (by simpa using hk')).2.2 j p t hj hd
    rcases this.1 with h|h
    ·exact h
    ·exact absurd hd' h
   rw[jl L y t _ 0 _ j p (by simpa using hj) hd (by rw[Nat.zero_add,←hej];exact hL e he) hu hsz,
    jl (fun _=>true) y t _ 0 _ j p (by simpa using hj) hd rfl hu hsz]
  ·rw[fZ L y t _ 0 _ (fun k o' hk hd=>absurd ⟨k,o',by simpa using hk,hd⟩ hex),fZ (fun _=>true) y t _ 0 _ (fun k o' hk hd=>absurd ⟨k,o',by simpa using hk,hd⟩ hex)]
 ·rw[Array.getElem?_eq_none (by rw[lay_size];omega),Array.getElem?_eq_none (by rw[lay_size];omega)]
theorem AX (hok:gZ ops=true) {listed:Array Bool} (hi:ops[i]?=some o) (hsz:listed.size=ops.size) (v:Value) :
  ({ a0 with tmps:=lay (fun i=>listed.getD i false) y ops.toList 0 a0.tmps }:Act).put o.dst v =
   { a0 with tmps:=lay (fun k=>(listed.setIfInBounds i true).getD k false) (fun k=>if k=i then v else y k) ops.toList 0 a0.tmps }:=by
 have hlt:i<ops.size:=(Array.getElem?_eq_some_iff.1 hi).1
 have hLi:(listed.setIfInBounds i true).getD i false=true:=by simp[Array.getD_eq_getD_getElem?,show i<listed.size by omega]
 have hLk:∀k,k≠i→(listed.setIfInBounds i true).getD k false=listed.getD k false:=fun k hk=>by
  simp[Array.getD_eq_getD_getElem?,Array.getElem?_setIfInBounds_ne (Ne.symm hk)]
 have key:(({ a0 with tmps:=lay (fun i=>listed.getD i false) y ops.toList 0 a0.tmps }:Act).put o.dst v).tmps=lay (fun k=>(listed.setIfInBounds i true).getD k false) (fun k=>if k=i then v else y k) ops.toList 0 a0.tmps:=by
  apply Array.ext_getElem?
  intro s
  by_cases hs:s<a0.tmps.size
  ·by_cases hex:∃(j:Nat) (p:Oper),ops[j]?=some p∧p.dst=some s
   ·obtain⟨j,p,hj,hd⟩:=hex
    have hu:∀k' o',ops.toList[k']?=some o'→o'.dst=some s→k' = j:=by
     intro k' o' hk' hd'
     rcases ((dV hok (i:=k') (o:=o') (by simpa using hk')).2.2 j p s hj hd).1 with h|h
     ·exact h
     ·exact absurd hd' h
    by_cases hji:j=i
    ·subst hji
     obtain rfl:o=p:=by rw[hi] at hj;exact Option.some.inj hj
     rw[jl (fun k=>(listed.setIfInBounds j true).getD k false) _ s _ 0 _ j o (by simpa using hi) hd (by simpa using hLi) hu hs]
     simp only[Act.put,hd,Nat.zero_add,if_true]
     rw[Array.getElem?_setIfInBounds_self_of_lt (by rw[lay_size];exact hs)]
    ·have hod:o.dst≠some s:=fun e=>hji ((hu i o (by simpa using hi) e).symm)
     have e1:(({ a0 with tmps:=lay (fun i=>listed.getD i false) y ops.toList 0 a0.tmps }:Act).put o.dst v).tmps[s]?=(lay (fun i=>listed.getD i false) y ops.toList 0 a0.tmps)[s]?:=by
      cases ho:o.dst with
      | none=>rfl
      | some d=>
       have:d≠s:=fun e=>hod (by rw[ho,e])
       simp only[Act.put]
       rw[Array.getElem?_setIfInBounds_ne this]
     rw[e1]
     cases hLj:listed.getD j false with
     | true=>
      rw[jl (fun i=>listed.getD i false) y s _ 0 _ j p (by simpa using hj) hd (by simpa using hLj) hu hs,
       jl (fun k=>(listed.setIfInBounds i true).getD k false) _ s _ 0 _ j p (by simpa using hj) hd (by rw[Nat.zero_add,hLk j hji];exact hLj) hu hs]
      simp[hji]
     | false=>
      rw[fZ (fun i=>listed.getD i false) y s _ 0 _ (fun k o' hk hd'=>by rw[Nat.zero_add,hu k o' hk hd'];exact hLj),
       fZ (fun k=>(listed.setIfInBounds i true).getD k false) _ s _ 0 _ (fun k o' hk hd'=>by rw[Nat.zero_add,hu k o' hk hd',hLk j hji];exact hLj)]
   ·have hod:o.dst≠some s:=fun e=>hex ⟨i,o,hi,e⟩
    have e1:(({ a0 with tmps:=lay (fun i=>listed.getD i false) y ops.toList 0 a0.tmps }:Act).put o.dst v).tmps[s]?=(lay (fun i=>listed.getD i false) y ops.toList 0 a0.tmps)[s]?:=by
     cases ho:o.dst with
     | none=>rfl
     | some d=>
      have:d≠s:=fun e=>hod (by rw[ho,e])
      simp only[Act.put]
      rw[Array.getElem?_setIfInBounds_ne this]
    rw[e1,fZ _ y s _ 0 _ (fun k o' hk hd=>absurd ⟨k,o',by simpa using hk,hd⟩ hex),fZ _ _ s _ 0 _ (fun k o' hk hd=>absurd ⟨k,o',by simpa using hk,hd⟩ hex)]
  ·have e1:(({ a0 with tmps:=lay (fun i=>listed.getD i false) y ops.toList 0 a0.tmps }:Act).put o.dst v).tmps.size=a0.tmps.size:=by
    cases o.dst with
    | none=>exact lay_size _ _ _ _ _
    | some d=>simp[Act.put,lay_size]
   rw[Array.getElem?_eq_none (by rw[e1];omega),Array.getElem?_eq_none (by rw[lay_size];omega)]
 cases hdst:o.dst with
 | none=>rw[hdst] at key;simp only[Act.put] at key ⊢; rw[key]
 | some d=>rw[hdst] at key;simp only[Act.put] at key ⊢; rw[key]
theorem nA {a b:Act} {w:World} {F:Value→World→Prop} {K:Act→World→Prop} (hi:ops[i]?=some o)
 (hwant:Region.wanted o (yielded ops a.tmps)=true) (hexec:execOp a.eval o=execOp b.eval o) (h:Gives P o b w F) (hK:∀v w',F v w'→K (a.put o.dst v) w'):wpOp P ops Q i K a w:=by
 unfold wpOp
 simp only[hi,hwant,if_true]
 refine .inl ?_
 unfold Oper.wp
 rw[hexec]
 unfold Gives at h
 generalize (execOp b.eval o).run P w=r at h ⊢
 cases r with
 | ok n w'=>
  cases n with
  | value v=>exact hK _ _ h
  | skip=>exact hK _ _ h
  | enter f args=>
   refine Calls.mono h fun e w'' he => ?_
   cases e with
   | returned v=>exact hK _ _ he
   | panicked c=>exact he.elim
   | outgrown=>exact he.elim
  | _=>exact h.elim
 | halt x w'=>exact h.elim
def writer (ops:Array Oper) (t:Nat):Option Nat:=(List.range ops.size).find? fun i=>match ops[i]? with | some o=>o.dst==some t | none=>false
def eG (ρ:Operand→Value) (ops:Array Oper) (g:Nat):Option Bool:=
 match (ops[g]?).bind (·.dst) with
 | some d=>match ρ (.tmp d) with | .bool b=>some b | _=>none
 | none=>none
def cK (P:Program) (o:Oper) (ρ:Operand→Value) (w:World) (F:Value→World→Prop):Prop:=
 match (execOp ρ o).run P w with
 | .ok (.value v) w'=>F v w'
 | .ok .skip w'=>F undef w'
 | .ok (.enter f args) w'=>Calls P f args w' fun | .returned v,w''=>F v w'' | _,_=>False
 | _=>False
structure jJ where
 r:Value→World→Prop
 st:∀v w w',Below w.heap.size w w'→r v w→r v w'
def oV (V:Value):jJ:=⟨fun v _=>v=V,fun _ _ _ _ h=>h⟩
def anyR:jJ:=⟨fun _ _=>True,fun _ _ _ _ _=>trivial⟩
def QA (n:Nat) (vs:List Value):jJ:=⟨fun v w => ∃a c,v = .slice a n c∧n≤c∧c≤maxLen∧(a=none→c=0)∧dA w a vs,
 fun _ _ _ hb ⟨a,c,h1,h2,h3,h4,h5⟩=>⟨a,c,h1,h2,h3,h4,h5.below hb⟩⟩
def rl (l:List jJ) (i:Nat) (v:Value) (w:World):Prop:=(l.getD i anyR).r v w
def aP (C:Nat→Oper→Prop):Nat→List Oper→Prop
 | _,[]=>True
 | k,o::r=>C k o∧aP C (k+1) r
theorem aB {C:Nat→Oper→Prop} :aP C k []:=trivial
theorem ae {C:Nat→Oper→Prop} {r:List Oper} (h:C k o) (hr:aP C (k+1) r):aP C k (o::r):=⟨h,hr⟩
theorem aP.at {C:Nat→Oper→Prop}:∀ {l:List Oper} {k:Nat},aP C k l→∀i o,l[i]?=some o→C (k+i) o
 | [],_,_,_,_,h=>by simp at h
 | o::r,k,h,0,o',hi=>by simp at hi;subst hi;exact h.1
 | o::r,k,h,i+1,o',hi=>by
  have:=aP.at h.2 i o' (by simpa using hi)
  rwa [show k+(i+1)=k+1+i by omega]
def kS (P:Program) (ops:Array Oper) (a0:Act) (w0:World) (l:List jJ) (i:Nat) (o:Oper):Prop:=
 ∀(ρ:Operand→Value) (y:Nat→Value) (w:World),(∀t j,writer ops t=some j→ρ (.tmp t)=y j)→(∀x,(match x with | .tmp t=>writer ops t=none | _=>True)→ρ x=a0.eval x) →
  Below w0.heap.size w0 w→(∀j,o.after.toList.any (fun e=>e.on==j)=true→rl l j (y j) w) →
  if Region.wanted o (eG ρ ops)=true then cK P o ρ w (fun v w'=>Below w.heap.size w w'∧rl l i v w') else rl l i undef w
def iH (ops:Array Oper) (n:Nat):Bool:=ops.toList.all fun o=>match o.dst with | some d=>decide (d<n) | none=>true
theorem aj {w:World} {l:List jJ} (v:Value) (hw:Region.wanted o (eG ρ ops)=true) (hrun:(execOp ρ o).run P w = .ok (.value v) w) (hR:rl l i v w) :
  if Region.wanted o (eG ρ ops)=true then cK P o ρ w (fun v w'=>Below w.heap.size w w'∧rl l i v w') else rl l i undef w:=by
 rw[if_pos hw]
 unfold cK
 rw[hrun]
 exact⟨Below.refl _ _,hR⟩
theorem yC {w:World} {l:List jJ} (hw:Region.wanted o (eG ρ ops)=false) (hR:rl l i undef w) :
  if Region.wanted o (eG ρ ops)=true then cK P o ρ w (fun v w'=>Below w.heap.size w w'∧rl l i v w') else rl l i undef w:=by
 rw[if_neg (by rw[hw];exact Bool.false_ne_true)]
 exact hR
theorem aM {w:World} {l:List jJ} (f:FuncId) (args:Array Value) (hw:Region.wanted o (eG ρ ops)=true) (hrun:(execOp ρ o).run P w = .ok (.enter f args) w)
 (hc:Calls P f args w fun e w' => ∃v,e = .returned v∧Below w.heap.size w w'∧rl l i v w') :
  if Region.wanted o (eG ρ ops)=true then cK P o ρ w (fun v w'=>Below w.heap.size w w'∧rl l i v w') else rl l i undef w:=by
 rw[if_pos hw]
 unfold cK
 rw[hrun]
 refine hc.mono fun e w' ⟨v,he,h⟩ => ?_
 subst he
 exact h
theorem ah {y:Nat→Option Bool} (hg:o.guard=none):Region.wanted o y=true:=by simp[Region.wanted,hg]
theorem aQ (g d:Nat) (b want:Bool) (hg:o.guard=some (g,want)) (hd:(ops[g]?).bind (·.dst)=some d) (hv:ρ (.tmp d) = .bool b):Region.wanted o (eG ρ ops)=(b==want):=by
 simp only[Region.wanted,hg,eG,hd,hv]
 cases b<;>cases want<;>rfl
theorem bI {w:World} {d:TypeDesc} (ho:o.op = .load ty x) (hx:ρ x = .pointer (some ⟨b,0,none⟩)) (hb:aD w b cs T)
 (hu:P.underlying ty=some d) (hd:(match d with | .struct _ | .array _ _=>true | _=>false)=true) (hi:(P.info? ty).map (·.size)=some cs.size):(execOp ρ o).run P w = .ok (.value (.agg cs)) w:=by
 unfold execOp
 simp only[ho,hx,Instr.loadAt,Instr.sureAddr,Sem.run_bind,Sem.run_pure,Result.andThen_ok,run_loadVar_row w b T ty cs (0,0) d hb hu hd hi]
theorem run_move {w:World} (ho:o.op = .move x∨o.op = .assign x) (hx:ρ x=v):(execOp ρ o).run P w = .ok (.value v) w:=by
 rcases ho with ho|ho<;>simp[execOp,ho,hx]
theorem aN {w:World} {f:FuncId} {xs:Array Operand} {ats:Array TypeId} {fn:Func} (ho:o.op = .call { callee:=.value (.func f),args:=xs,argTypes:=ats })
 (hρ : ρ (.func f) = .func (.func f) #[] #[]) (hf : P.funcs[f]? = some fn) (hn : (fn.name == "runtime.NumGoroutine") = false) (hb : fn.body.isNone = false) (ha : xs.map ρ = args) : (execOp ρ o).run P w = .ok (.enter f args) w := by
 have e1:execOp ρ o=callFunc f args:=by
  unfold execOp
  simp only[ho]
  have e2:resolve ρ { callee:=.value (.func f),args:=xs,argTypes:=ats } o.type=Sem.pure { target:=.fn (.func f) #[],args:=args }:=by
   unfold resolve
   simp only[hρ,ha]
   simp[Deferred.ofValue]
   rfl
  rw[e2]
  show callFunc f (args++#[])=_
  simp
 rw[e1]
 have hn' : ¬ fn.name = "runtime.NumGoroutine" := by simpa using hn
 have hb' : ¬fn.body=none:=fun h=>by simp[h] at hb
 unfold callFunc
 simp[hf,hn',hb']
theorem lH {w:World} {op:BinOp} {y:Operand} (ho:o.op = .binOp op t x y t') (hx:ρ x=vx) (hy:ρ y=vy)
 (hr:(do eqGuard op t x y vx vy;binOp op t vx vy:Sem Value).run P w = .ok v w):(execOp ρ o).run P w = .ok (.value v) w:=by
 unfold execOp
 simp only[ho,hx,hy]
 rw[Sem.run_bind,hr]
 rfl
theorem lS {w:World} {c y:Operand} {b:Bool} (ho:o.op = .pick c x y) (hc:ρ c = .bool b) (hx:(if b then ρ x else ρ y)=v):(execOp ρ o).run P w = .ok (.value v) w:=by
 unfold execOp
 simp only[ho,hc]
 subst hx
 cases b<;>rfl
theorem wV {w:World} {b:Bool} (ho:o.op = .unOp .not t x) (hx:ρ x = .bool b):(execOp ρ o).run P w = .ok (.value (.bool (!b))) w:=by
 unfold execOp
 simp only[ho,hx]
 rfl
theorem Cs {w:World} (ho:o.op = .call { callee:=.builtin .len,args:=#[x],argTypes:=#[t] }) (hx:ρ x = .slice a n c) (ht:P.underlying t=some (.slice (P.elem t))):(execOp ρ o).run P w = .ok (.value (.int .i64 n)) w:=by
 unfold execOp
 simp only[ho]
 simp[hx,resolve,invoke,builtin,run_len_slice _ t o.type a n c ht]
 rfl
theorem yY {w:World} (ho:o.op = .fieldAddr t x f) (hx:ρ x=vx) (hr:(Instr.fieldAt t vx f).run P w = .ok v w):(execOp ρ o).run P w = .ok (.value v) w:=by
 unfold execOp
 simp only[ho,hx]
 rw[Sem.run_bind,hr]
 rfl
theorem run_load {w:World} (ho:o.op = .load t x) (hx:ρ x=vx) (hr:(Instr.loadAt t vx).run P w = .ok v w):(execOp ρ o).run P w = .ok (.value v) w:=by
 unfold execOp
 simp only[ho,hx]
 rw[Sem.run_bind,hr]
 rfl
def KV (ops:Array Oper) (a0:Act) (l:List jJ) (o:Oper) (t:Nat) (v:Value):Prop:=
 (∃k,writer ops t=some k∧o.after.toList.any (fun e=>e.on==k)=true∧l.getD k anyR=oV v)∨(writer ops t=none∧a0.eval (.tmp t)=v)
theorem Qz {l:List jJ} {t:Nat} (h1:writer ops t=none) (h2:a0.eval (.tmp t)=v):KV ops a0 l o t v:=.inr ⟨h1,h2⟩
def Qs (P:Program) (ops:Array Oper) (a0:Act) (l:List jJ) (i:Nat) (o:Oper):Prop:=
 ∀(ρ:Operand→Value) (y:Nat→Value) (w:World),(∀t j,writer ops t=some j→ρ (.tmp t)=y j)→(∀x,(match x with | .tmp t=>writer ops t=none | _=>True)→ρ x=a0.eval x) →
  (∀j,o.after.toList.any (fun e=>e.on==j)=true→rl l j (y j) w)→∃v,(execOp ρ o).run P w = .ok (.value v) w∧rl l i v w
def OkW (ops:Array Oper) (l:List jJ) (o:Oper) (b:Bool):Prop:=
 ∀(ρ:Operand→Value) (y:Nat→Value) (w:World),(∀t j,writer ops t=some j→ρ (.tmp t)=y j)→(∀j,o.after.toList.any (fun e=>e.on==j)=true→rl l j (y j) w)→Region.wanted o (eG ρ ops)=b
theorem Qy {l:List jJ} (hg:o.guard=none):OkW ops l o true:=fun _ _ _ _ _=>ah hg
section
variable {P:Program} {ops:Array Oper} {a0:Act} {w0:World} {l:List jJ} {i:Nat} {o:Oper}
theorem KV.at {t:Nat} {v:Value} (h:KV ops a0 l o t v) {ρ:Operand→Value} {y:Nat→Value} {w:World} (hw:∀t j,writer ops t=some j→ρ (.tmp t)=y j) (hn:∀x,(match x with | .tmp t=>writer ops t=none | _=>True)→ρ x=a0.eval x) (hd:∀j,o.after.toList.any (fun e=>e.on==j)=true→rl l j (y j) w):ρ (.tmp t)=v:=by
 rcases h with ⟨k,h1,h2,h3⟩|⟨h1,h2⟩
 ·have h4:=hd k h2
  unfold rl at h4
  rw[h3] at h4
  exact (hw t k h1).trans h4
 ·exact (hn (.tmp t) h1).trans h2
theorem PX {w:World} (hr:l.getD i anyR=oV V) (e:v=V):rl l i v w:=by unfold rl;rw[hr];exact e
theorem Qw {t:Nat} (ho:o.op = .move (.tmp t)) (hx:KV ops a0 l o t V) (hr:l.getD i anyR=oV V):Qs P ops a0 l i o:=fun ρ y w hw hn hd=>⟨V,run_move (.inl ho) (hx.at hw hn hd),PX hr rfl⟩
theorem QC (hg:OkW ops l o true) (h:Qs P ops a0 l i o):kS P ops a0 w0 l i o:=fun ρ y w hw hn _ hd=>by
 obtain⟨v,h1,h2⟩:=h ρ y w hw hn hd
 exact aj v (hg ρ y w hw hd) h1 h2
end
theorem iY {α:Type} (enc:α→List Value) (sz:Nat) (hsz:∀x,(enc x).length=sz) (l:List α) (i:Nat) (h:i<l.length) (j:Nat) (hj:j<sz):(l.flatMap enc)[i*sz+j]?=(enc l[i])[j]?:=by
 have e:(enc l[i])[j]?=some ((enc l[i])[j]'(by rw[hsz];exact hj)):=List.getElem?_eq_getElem _
 rw[e]
 exact flat_get enc sz hsz l i h j _ e
theorem CX {α:Type} (enc:α→List Value) (sz:Nat) (hsz:∀x,(enc x).length=sz) (hp:0<sz) (l:List α) (m:Nat) (u:Value) (h:(l.flatMap enc)[m]?=some u) :
  ∃i j,∃hi:i<l.length,m=i*sz+j∧j<sz∧(enc l[i])[j]?=some u:=by
 have hm:m<l.length*sz:=by
  rcases Nat.lt_or_ge m (l.flatMap enc).length with h1|h1
  ·rwa [flat_len enc sz hsz] at h1
  ·rw[List.getElem?_eq_none h1] at h;cases h
 have hj:=Nat.mod_lt m hp
 have hd:=Nat.div_add_mod m sz
 have hi:m / sz<l.length:=Nat.div_lt_of_lt_mul (by rw[Nat.mul_comm];exact hm)
 refine⟨m / sz,m%sz,hi,by rw[Nat.mul_comm];exact hd.symm,hj,?_⟩
 rw[←iY enc sz hsz l _ hi _ hj,Nat.mul_comm,hd]
 exact h
theorem tV {α:Type} (enc:α→List Value) (sz:Nat) (hsz:∀x,(enc x).length=sz) (hp:0<sz) (l:List α) (k:Nat) (hk:k<l.length) (x:α) (off:Nat) (cur:Array Value) (hfit:off+l.length*sz≤cur.size)
 (h:∀j u,(l.flatMap enc)[j]?=some u→cur[off+j]?=some u):∀j u,((l.set k x).flatMap enc)[j]?=some u→(bq cur (off+k*sz) (enc x))[off+j]?=some u:=by
 intro m u hm
 obtain⟨i,j,hi,rfl,hj,e⟩:=CX enc sz hsz hp _ m u hm
 have hi' : i<l.length:=by simpa using hi
 by_cases hik:i=k
 ·subst hik
  rw[show off+(i*sz+j)=(off+i*sz)+j from by omega]
  have h1:(i+1)*sz≤l.length*sz:=Nat.mul_le_mul_right _ hk
  rw[Nat.add_mul] at h1
  exact putAt_in _ _ _ _ _ (by rw[hsz];omega) (by simpa using e)
 ·have hne:off+(i*sz+j)<off+k*sz∨off+k*sz+(enc x).length≤off+(i*sz+j):=by
   rw[hsz]
   rcases Nat.lt_or_gt_of_ne hik with h1|h1
   ·have:=Nat.mul_le_mul_right sz h1
    rw[Nat.succ_mul] at this
    omega
   ·have:=Nat.mul_le_mul_right sz h1
    rw[Nat.succ_mul] at this
    omega
  rw[putAt_out _ _ _ _ hne]
  refine h _ _ ?_
  rw[iY enc sz hsz l i hi' j hj]
  rw[List.getElem_set_ne (fun e=>hik e.symm)] at e
  exact e
theorem Own.put {α:Type} {enc:α→List Value} (hsz:∀x,(enc x).length=sz) (hp:0<sz) {w:World} {l:List α} (h:Own w B e sz v l.length (l.flatMap enc)) (k:Nat) (hk:k<l.length) :
  ∃g off cap cur,v = .slice (some ⟨g,off,none⟩) l.length cap∧B≤g∧aD w g cur e∧off+k*sz+sz≤cur.size∧(∀j u,(enc l[k])[j]?=some u→w.cell? ⟨g,off+k*sz+j,none⟩=some u) ∧
   ∀w' x,aD w' g (bq cur (off+k*sz) (enc x)) e→Own w' B e sz v l.length ((l.set k x).flatMap enc):=by
 obtain⟨hl,h⟩:=h
 rcases h with ⟨_,h0⟩|⟨g,off,cap,cur,rfl,hB,hg,hc,hm,hs,ht⟩
 ·omega
 ·have h1:(k+1)*sz≤l.length*sz:=Nat.mul_le_mul_right _ hk
  have h2:l.length*sz≤cap*sz:=Nat.mul_le_mul_right _ hc
  rw[Nat.add_mul] at h1
  refine⟨g,off,cap,cur,rfl,hB,hg,by omega,fun j u hj => ?_,fun w' x hw=>⟨?_,.inr ⟨g,off,cap,_,rfl,hB,hw,hc,hm,by rw[size_putAt];exact hs,?_⟩⟩⟩
  ·rw[hg.cell,Nat.add_assoc]
   refine ht _ _ ?_
   have hj' : j<sz:=by
    rcases Nat.lt_or_ge j sz with h|h
    ·exact h
    ·rw[List.getElem?_eq_none (by rw[hsz];exact h)] at hj;cases hj
   rw[iY enc sz hsz l k hk j hj']
   exact hj
  ·rw[flat_len enc sz hsz,List.length_set]
  ·exact tV enc sz hsz hp l k hk x off cur (by omega) ht
theorem Own.put1 {f:Int→Value} {w:World} (h:Own w B e 1 v l.length (l.map f)) (k:Nat) (hk:k<l.length) :
  ∃g off cap,v = .slice (some ⟨g,off,none⟩) l.length cap∧B≤g∧g<w.heap.size∧w.cell? ⟨g,off+k,none⟩=some (f l[k])∧w.frozen? ⟨g,off+k,none⟩=false ∧
   ∀x,Own (w.setCell ⟨g,off+k,none⟩ (f x)) B e 1 v l.length ((l.set k x).map f):=by
 rw[←gJ] at h
 obtain⟨g,off,cap,cur,rfl,hB,hg,hs,hc,hw⟩:=h.put (sz:=1) (fun _=>rfl) Nat.one_pos k hk
 rw[Nat.mul_one] at hs hc hw
 refine⟨g,off,cap,rfl,hB,hg.lt,by simpa using hc 0 _ rfl,hg.free _,fun x => ?_⟩
 rw[←gJ]
 exact hw _ x (by simpa[bq] using hg.setCell (off+k) (f x))
theorem zD {α:Type} (enc:α→List Value) (sz:Nat) (hsz:∀x,(enc x).length=sz) (hp:0<sz) (z:Array Value) (x:α) (hz:z.toList=enc x) (n:Nat):(madeCells z (n*sz)).toList=(List.replicate n x).flatMap enc:=by
 have hzs:z.size=sz:=by rw[←hsz x,←hz];simp
 apply List.ext_getElem
 ·rw[flat_len enc sz hsz];simp[size_madeCells]
 intro m h1 h2
 have hm:m<n*sz:=by simpa[size_madeCells] using h1
 have h3:((List.replicate n x).flatMap enc)[m]?=some ((List.replicate n x).flatMap enc)[m]:=List.getElem?_eq_getElem h2
 obtain⟨i,j,hi,e,hj,he⟩:=CX enc sz hsz hp _ m _ h3
 rw[List.getElem_replicate] at he
 have hmod:m%z.size=j:=by rw[hzs,e,Nat.mul_comm,Nat.mul_add_mod,Nat.mod_eq_of_lt hj]
 simp only[madeCells,Array.toList_map,List.getElem_map,Array.toList_range,List.getElem_range,hmod]
 rw[←hz,Array.getElem?_toList] at he
 rw[Array.getElem!_eq_getD,Array.getD_eq_getD_getElem?,he]
 rfl
theorem qV (w:World) {a:Act} 
 (hg:o.guard=none) (l c:Operand) (t:TypeId) (hop:o.op=Op.makeSlice t l c)
 {α:Type} (enc:α→List Value) (e:TypeId) (z:Value) (size bytes:Nat) (x:α) (hsz:∀x,(enc x).length=size) (hp:0<size) (h1:P.underlying t=some (.slice e)) (h2:(P.info? e).map (fun i=>(i.zero,i.size,i.bytes))=some (some z,size,bytes)) (hz:z.cells.toList=enc x)
 (kl kc:IntKind) (L C:Int) (n:Nat) (hl:a.eval l = .int kl L) (hc:a.eval c = .int kc C) (hL:L=(n:Int)) (hC:C=(n:Int)) (b2:bytes*n≤281474976710656) (b3:n≤maxLen)
 (hK:∀w',Own w' w.heap.size e size (.slice (some ⟨w.heap.size,0,none⟩) n n) n ((List.replicate n x).flatMap enc)→w.grownBy w' none→wpList P ops Q rest (a.put o.dst (.slice (some ⟨w.heap.size,0,none⟩) n n)) w') :
  wpList P ops Q (o::rest) a w:=by
 obtain⟨i,hi,hzz,hs,hb⟩:=info_parts h2
 refine wpList_make_full w hg l c t hop w.heap.size e i z size h1 hi hzz hs kl kc L C n hl hc hL hC (by rw[hb];exact b2) b3 (Nat.le_refl _) fun w' ho hgr=>hK w' ?_ hgr
 rw[zD enc size hsz hp z.cells x hz] at ho
 exact Own.of_owns ho
theorem own_ne {w:World} (h:Own w B e sz v n xs) (hk:aD w g cs T) (hT:T≠e):∀g',v.ownBlock=some g'→some g≠some g':=by
 intro g' hg' he
 cases he
 rcases h.2 with ⟨rfl,_⟩|⟨g2,off,cap,cur,rfl,_,hb,_⟩
 ·cases hg'
 ·cases hg'
  unfold aD at hk hb
  rw[hk] at hb
  simp only[Option.some.injEq,Obj.cells.injEq] at hb
  exact hT hb.2.1
theorem ak {w:World} (h:Own w B e sz v n xs) (hk:aD w g cs T) (hT:T≠e) (hgr:w.grownBy w' (some g)):Own w' B e sz v n xs:=
 h.grown hgr (own_ne h hk hT)
def lh (B:Nat) (e:TypeId) (sz n:Nat) (xs:List Value):jJ:=⟨fun v w=>Own w B e sz v n xs,fun _ _ _ hb h=>h.below hb⟩
theorem gB {w:World} {X:Array Value} (m:World→Prop) (h:∀W,Below w.heap.size w W→aD W w.heap.size X TX→W.heap.size=w.heap.size+1→m W):m (w.alloc (.cells X TX)):=
 h _ ((Below.refl _ _).alloc (Nat.le_refl _) _) (aD.new _ _ _) (by simp)
theorem oJ {w:World} {X:Array Value} (m:World→Prop) (h:∀W,Below w.heap.size w W→aD W w.heap.size X TX→aD W (w.heap.size+1) Y TY→W.heap.size=w.heap.size+2→m W) :
  m ((w.alloc (.cells X TX)).alloc (.cells Y TY)):=by
 refine gB (fun W=>m (W.alloc (.cells Y TY))) fun W1 hb hx hs => ?_
 refine gB m fun W2 hb2 hy hs2 => ?_
 rw[hs] at hy hs2
 exact h W2 (ag hb hb2) (hx.ext hb2) hy (by omega)
theorem KQ {w:World} {X:Array Value} (m:World→Prop) (h:∀W,Below w.heap.size w W→aD W w.heap.size X TX→aD W (w.heap.size+1) Y TY→aD W (w.heap.size+2) Z TZ→W.heap.size=w.heap.size+3→m W) :
  m (((w.alloc (.cells X TX)).alloc (.cells Y TY)).alloc (.cells Z TZ)):=by
 refine oJ (fun W=>m (W.alloc (.cells Z TZ))) fun W1 hb hx hy hs => ?_
 refine gB m fun W2 hb2 hz hs2 => ?_
 rw[hs] at hz hs2
 exact h W2 (ag hb hb2) (hx.ext hb2) (hy.ext hb2) hz (by omega)
theorem Own.drop {α:Type} {enc:α→List Value} (hsz:∀x,(enc x).length=sz) {w:World} {l:List α} (h:Own w B e sz (.slice (some ⟨g,off,none⟩) l.length cap) l.length (l.flatMap enc)) (k:Nat) (hk:k≤l.length) :
  Own w B e sz (.slice (some ⟨g,off+k*sz,none⟩) (l.drop k).length (cap-k)) (l.drop k).length ((l.drop k).flatMap enc):=by
 obtain⟨hl,h⟩:=h
 rcases h with ⟨h1,_⟩|⟨g',off',cap',cur,hv,hB,hg,hc,hm,hs,ht⟩
 ·cases h1
 ·cases hv
  refine⟨flat_len enc sz hsz _,.inr ⟨g,off+k*sz,cap-k,cur,rfl,hB,hg,by simp;omega,by omega,?_,fun j u hj => ?_⟩⟩
  ·have:(cap-k)*sz+k*sz=cap*sz:=by rw[←Nat.add_mul];congr 1;omega
   omega
  ·rw[Nat.add_assoc]
   refine ht _ _ ?_
   have e:l.flatMap enc=(l.take k).flatMap enc++(l.drop k).flatMap enc:=by rw[←List.flatMap_append,List.take_append_drop]
   rw[e,List.getElem?_append_right (by rw[flat_len enc sz hsz,List.length_take,Nat.min_eq_left hk];omega),flat_len enc sz hsz,List.length_take,Nat.min_eq_left hk,Nat.add_sub_cancel_left]
   exact hj
theorem iG {w:World} {l:List jJ} (v:Value) (hw:Region.wanted o (eG ρ ops)=true) (hrun:(execOp ρ o).run P w = .ok (.value v) w') (hb:Below w.heap.size w w') (hR:rl l i v w') :
  if Region.wanted o (eG ρ ops)=true then cK P o ρ w (fun v w'=>Below w.heap.size w w'∧rl l i v w') else rl l i undef w:=by
 rw[if_pos hw]
 unfold cK
 rw[hrun]
 exact⟨hb,hR⟩
theorem ji {w:World} (h:w.grownBy w' none):Below w.heap.size w w':=(Below.refl _ _).grown h (Nat.le_refl _) (fun k hk=>by cases hk)
theorem Own.empty (w:World) (T:TypeId) (hB:B≤w.heap.size):Own (w.alloc (.cells #[] T)) B T sz (.slice (some ⟨w.heap.size,0,none⟩) 0 0) 0 []:=
 ⟨by simp,.inr ⟨w.heap.size,0,0,#[],rfl,hB,aD.new _ _ _,Nat.le_refl _,Nat.zero_le _,by simp,fun j u h=>by simp at h⟩⟩
def qP (ops:Array Oper):Nat→Nat→List Nat
 | 0,_=>[]
 | f+1,i=>match ops[i]? with
  | none=>[]
  | some o=>o.after.toList.flatMap fun e=>e.on::qP ops f e.on
def fK (ops:Array Oper) (m:Nat):Bool:=
 (List.range ops.size).all fun i=>decide (i<m)||(List.range i).all fun j=>(qP ops ops.size i).contains j
theorem pR {ops:Array Oper} {listed:Array Bool} (hc:∀i o,ops[i]?=some o→listed.getD i false=true→∀e∈o.after,listed.getD e.on false=true):∀(f i:Nat),(∀o,ops[i]?=some o→∀e∈o.after,listed.getD e.on false=true)→∀j∈qP ops f i,listed.getD j false=true
 | 0,_,_,j,hj=>by simp[qP] at hj
 | f+1,i,h,j,hj=>by
  unfold qP at hj
  cases ho:ops[i]? with
  | none=>simp[ho] at hj
  | some o=>
   simp only[ho,List.mem_flatMap] at hj
   obtain⟨e,he,hj⟩:=hj
   have he':=Array.mem_toList_iff.1 he
   rcases List.mem_cons.1 hj with rfl|hj
   ·exact h o ho e he'
   ·exact pR hc f e.on (fun o' ho'=>hc e.on o' ho' (h o ho e he')) j hj
theorem qc {m:Nat} (h:fK ops m=true) {listed:Array Bool} (hc:∀i o,ops[i]?=some o→listed.getD i false=true→∀e∈o.after,listed.getD e.on false=true) (hi:ops[i]?=some o) (hL:∀e∈o.after,listed.getD e.on false=true) (hm:m≤i) (j:Nat) (hj:j<i):listed.getD j false=true:=by
 have hlt:i<ops.size:=(Array.getElem?_eq_some_iff.1 hi).1
 have h1:=List.all_eq_true.1 h i (List.mem_range.2 hlt)
 simp only[Bool.or_eq_true,decide_eq_true_eq] at h1
 rcases h1 with h1|h1
 ·omega
 ·have h2:=List.all_eq_true.1 h1 j (List.mem_range.2 hj)
  refine pR hc ops.size i (fun o' ho' => ?_) j (by simpa using h2)
  rw[hi] at ho'
  cases ho'
  exact hL
theorem pz {m:Nat} (hok:gZ ops=true) (ht:fK ops m=true):∀(fuel k:Nat) (listed:Array Bool) (a:Act) (w:World),
  m≤k→k≤ops.size→ops.size-k≤fuel→listed.size=ops.size→(∀i,i<ops.size→listed.getD i false=decide (i<k))→wpList P ops Q (ops.toList.drop k) a w→wpAny P .any ops Q fuel listed a w:=by
 intro fuel
 induction fuel with
 | zero=>
  intro k listed a w hmk hk hf hsz hL h
  obtain rfl:k=ops.size:=by omega
  refine⟨?_,?_⟩
  ·rw[List.eq_nil_iff_forall_not_mem]
   intro i hi
   obtain⟨h1,o,ho,_⟩:=mem_ready.1 hi
   have hlt:i<ops.size:=(Array.getElem?_eq_some_iff.1 ho).1
   have:=hL i hlt
   simp[Array.getD_eq_getD_getElem?,show i<listed.size by omega] at h1 this
   rw[h1] at this
   simp[hlt] at this
  ·rw[List.drop_eq_nil_of_le (by simp)] at h
   simpa[wpList] using h
 | succ fuel ih=>
  intro k listed a w hmk hk hf hsz hL h
  have only:∀i∈Region.ready .any ops listed,i=k:=by
   intro i hi
   obtain⟨h1,o,ho,hdeps⟩:=mem_ready.1 hi
   have hlt:i<ops.size:=(Array.getElem?_eq_some_iff.1 ho).1
   have h2:=hL i hlt
   have h3:listed.getD i false=false:=by
    simp[Array.getD_eq_getD_getElem?,show i<listed.size by omega] at h1 ⊢
    exact h1
   rw[h3] at h2
   have hki:k≤i:=by
    have:=h2.symm
    simpa using this
   rcases Nat.lt_or_ge k i with hlt' | hge
   ·exfalso
    have h4:listed.getD k false=true:=qc ht (fun i' o' ho' hl' e he=>by
     have hi' : i' < ops.size:=(Array.getElem?_eq_some_iff.1 ho').1
     have h8:=(dV hok ho').2.1 e he
     rw[hL i' hi'] at hl'
     have h9:i' < k:=by simpa using hl'
     rw[hL e.on (by omega)]
     simp;omega) ho (fun e he=>hdeps e he ((dV hok ho).2.1 e he).1) (by omega) k hlt'
    have h5:=hL k (by omega)
    rw[h4] at h5
    simp at h5
   ·omega
  refine⟨fun hready => ?_,fun i hi => ?_⟩
  ·rcases Nat.lt_or_ge k ops.size with hlt|hge
   ·exfalso
    have:k∈Region.ready .any ops listed:=by
     rw[mem_ready]
     refine⟨?_,ops[k],by simp[hlt],fun e he hb => ?_⟩
     ·have:=hL k hlt
      simp[Array.getD_eq_getD_getElem?,show k<listed.size by omega] at this ⊢
      exact this
     ·have h6:=(dV hok (i:=k) (o:=ops[k]) (by simp[hlt])).2.1 e he
      rw[hL e.on (by omega)]
      simp[h6.2]
    rw[hready] at this
    cases this
   ·rw[List.drop_eq_nil_of_le (by simpa using hge)] at h
    simpa[wpList] using h
  ·obtain rfl:=only i hi
   obtain⟨_,o,ho,_⟩:=mem_ready.1 hi
   have hlt:i<ops.size:=(Array.getElem?_eq_some_iff.1 ho).1
   have hdrop:ops.toList.drop i=o::ops.toList.drop (i+1):=by
    rw[List.drop_eq_getElem_cons (by simpa using hlt)]
    congr 1
    have:=(Array.getElem?_eq_some_iff.1 ho).2
    simpa using this
   rw[hdrop] at h
   have hw:wpOp P ops Q i (wpList P ops Q (ops.toList.drop (i+1))) a w:=by
    unfold wpOp
    simp only[ho]
    simpa[wpList] using h
   refine wpOp_mono (fun a' w' h'=>ih (i+1) _ a' w' (by omega) (by omega) (by omega) (by simp[hsz]) (fun j hj => ?_) h') hw
   by_cases hji:j=i
   ·subst hji
    simp[Array.getD_eq_getD_getElem?,show j<listed.size by omega]
   ·have:=hL j hj
    simp only[Array.getD_eq_getD_getElem?,Array.getElem?_setIfInBounds_ne (Ne.symm hji)] at this ⊢
    rw[this]
    congr 1
    simp
    omega
def Fixed:List jJ→Prop
 | []=>True
 | R::l=>(∀v w w',R.r v w→R.r v w')∧Fixed l
theorem fix_nil:Fixed []:=trivial
theorem Cv {R:jJ} {l:List jJ} (h:∀v w w',R.r v w→R.r v w') (hl:Fixed l):Fixed (R::l):=⟨h,hl⟩
theorem Fixed.at:∀ {l:List jJ},Fixed l→∀i v w w',rl l i v w→rl l i v w'
 | [],_,_,_,_,_,_=>by unfold rl;simp[anyR]
 | R::l,h,0,v,w,w',hr=>by unfold rl at hr ⊢; simpa using h.1 v w w' (by simpa using hr)
 | R::l,h,i+1,v,w,w',hr=>by
  have:=Fixed.at h.2 i v w w'
  unfold rl at hr this ⊢
  simp only[List.getD_cons_succ] at hr ⊢
  exact this hr
def aR (F:Value→Prop):jJ:=⟨fun v _=>F v,fun _ _ _ _ h=>h⟩
def bZ (y:Nat→Value) (i:Nat) (v:Value):Nat→Value:=fun k=>if k=i then v else y k
def PG (ops:Array Oper) (m:Nat) (R:Nat→Value→World→Prop) (a0:Act) (J:(Nat→Bool)→(Nat→Value)→World→Prop) (listed:Array Bool) (a:Act) (w:World):Prop:=
 (∀i,m≤i→listed.getD i false=false)∧(∀i o,ops[i]?=some o→listed.getD i false=true→∀e∈o.after,listed.getD e.on false=true)∧∃y:Nat→Value,a = { a0 with tmps:=lay (fun i=>listed.getD i false) y ops.toList 0 a0.tmps }∧J (fun i=>listed.getD i false) y w∧∀i,i<ops.size→listed.getD i false=true→R i (y i) w
theorem vC (m:Nat) (hok:gZ ops=true) (ht:fK ops m=true) (hmn:m≤ops.size)
 (R:Nat→Value→World→Prop) (J:(Nat→Bool)→(Nat→Value)→World→Prop) (hJ0:∀y,J (fun _=>false) y w0.drew) (hstab:∀i v w w',R i v w→R i v w')
 (hstep:∀i o,i<m→ops[i]?=some o→∀L y w,L i=false→(∀j,o.after.toList.any (fun e=>e.on==j)=true→L j=true)→J L y w→(∀j,o.after.toList.any (fun e=>e.on==j)=true→R j (y j) w) →
 if Region.wanted o (yielded ops (lay (fun _=>true) y ops.toList 0 a0.tmps))=true then Gives P o { a0 with tmps:=lay (fun _=>true) y ops.toList 0 a0.tmps } w (fun v w'=>J (bK L i) (bZ y i v) w'∧R i v w') else J (bK L i) (bZ y i undef) w∧R i undef w)
 (hend:∀y w,J (fun i=>decide (i<m)) y w→(∀i,i<m→R i (y i) w)→wpList P ops Q (ops.toList.drop m) { a0 with tmps:=lay (fun i=>decide (i<m)) y ops.toList 0 a0.tmps } w) :
  wpAny P .any ops Q ops.size (Array.replicate ops.size false) a0 w0.drew:=by
 have hall:∀(fuel:Nat) (listed:Array Bool) (a:Act) (w:World),listed.size=ops.size→listed.toList.countP (!·)≤fuel→PG ops m R a0 J listed a w→wpAny P .any ops Q fuel listed a w:=by
  intro fuel
  induction fuel with
  | zero=>
   intro listed a w hsz hc hA
   have hl:∀i,i<ops.size→listed.getD i false=true:=by
    intro i hlt
    have h0:listed.toList.countP (!·)=0:=by omega
    have:=List.countP_eq_zero.1 h0 (listed[i]'(by omega)) (by simp)
    simpa[Array.getD_eq_getD_getElem?,show i<listed.size by omega] using this
   obtain⟨hno,hcl,y,ha,hb,hR⟩:=hA
   have hmn' : m=ops.size:=by
    rcases Nat.lt_or_ge m ops.size with h|h
    ·have h1:=hl m h
     rw[hno m (Nat.le_refl _)] at h1
     cases h1
    ·omega
   refine pz (m:=m) hok ht 0 ops.size listed a w (by omega) (Nat.le_refl _) (by omega) hsz (fun i hi=>by rw[hl i hi];simp[hi]) ?_
   have hfe:(fun i=>listed.getD i false)=fun i=>decide (i<m):=by
    funext i
    by_cases hi:i<m
    ·rw[hl i (by omega)];simp[hi]
    ·rw[hno i (by omega)];simp[hi]
   rw[hfe] at hb
   have:=hend y w hb fun i hi=>hR i (by omega) (hl i (by omega))
   rw[ha,mE (fun i=>listed.getD i false) (fun i=>decide (i<m)) y ops.toList 0 a0.tmps (fun k hk=>by
    have hk' : k<ops.size:=by simpa using hk
    simp only[Nat.zero_add]
    rw[hl k hk']
    simp;omega)]
   rw[hmn'] at this ⊢
   exact this
  | succ fuel ih=>
   intro listed a w hsz hc hA
   by_cases hfull:∀i,i<m→listed.getD i false=true
   ·obtain⟨hno,hcl,y,ha,hb,hR⟩:=hA
    have hL:∀i,i<ops.size→listed.getD i false=decide (i<m):=by
     intro i hi
     by_cases him:i<m
     ·rw[hfull i him];simp[him]
     ·rw[hno i (by omega)];simp[him]
    have hcount:ops.size-m≤fuel+1:=by
     have h1:listed.toList.countP (!·)=ops.size-m:=by
      have e:listed.toList=List.replicate m true++List.replicate (ops.size-m) false:=by
       apply List.ext_getElem?
       intro i
       by_cases hi:i<ops.size
       ·have h2:=hL i hi
        rw[Array.getElem?_toList,Array.getElem?_eq_getElem (show i<listed.size by omega)]
        simp only[Array.getD_eq_getD_getElem?,Array.getElem?_eq_getElem (show i<listed.size by omega),Option.getD_some] at h2
        rw[h2]
        by_cases him:i<m
        ·rw[List.getElem?_append_left (by simpa using him)]
         simp[him]
        ·rw[List.getElem?_append_right (by simp;omega)]
         rw[List.length_replicate,List.getElem?_replicate,if_pos (by omega)]
         simp[him]
       ·rw[List.getElem?_eq_none (by simp;omega),List.getElem?_eq_none (by simp;omega)]
      rw[e]
      simp[List.countP_append,List.countP_replicate]
     omega
    refine pz (m:=m) hok ht (fuel+1) m listed a w (Nat.le_refl _) hmn hcount hsz hL ?_
    have hfe:(fun i=>listed.getD i false)=fun i=>decide (i<m):=by
     funext i
     by_cases hi:i<m
     ·rw[hfull i hi];simp[hi]
     ·rw[hno i (by omega)];simp[hi]
    rw[hfe] at hb
    have:=hend y w hb fun i hi=>hR i (by omega) (hfull i hi)
    rw[ha,mE (fun i=>listed.getD i false) (fun i=>decide (i<m)) y ops.toList 0 a0.tmps (fun k hk=>by
     simp only[Nat.zero_add]
     exact hL k (by simpa using hk))]
    exact this
   ·have hready0:Region.ready .any ops listed≠[]:=by
     intro hready
     apply hfull
     intro i
     induction i using Nat.strongRecOn with
     | ind i ih'=>
      intro him
      by_cases hc' : listed.getD i false=true
      ·exact hc'
      ·exfalso
       have hi:i<ops.size:=by omega
       have hmem:i∈Region.ready .any ops listed:=by
        rw[mem_ready]
        refine⟨?_,ops[i],by simp[hi],fun e he _ => ?_⟩
        ·simpa[Array.getD_eq_getD_getElem?,show i<listed.size by omega] using hc'
        ·have:=(dV hok (i:=i) (o:=ops[i]) (by simp[hi])).2.1 e he
         exact ih' e.on this.2 (by omega)
       rw[hready] at hmem
       cases hmem
    refine⟨fun h=>absurd h hready0,fun i hi => ?_⟩
    obtain⟨h1,o,ho,hdeps⟩:=mem_ready.1 hi
    have hlt:i<ops.size:=(Array.getElem?_eq_some_iff.1 ho).1
    obtain⟨hsel,hbinds,_⟩:=dV hok ho
    have hL:∀e∈o.after,listed.getD e.on false=true:=fun e he=>hdeps e he (hbinds e he).1
    have him:i<m:=by
     rcases Nat.lt_or_ge i m with h|h
     ·exact h
     ·exfalso
      apply hfull
      intro j hj
      exact qc ht hA.2.1 ho hL h j (by omega)
    obtain⟨hno,hcl,y,ha,hb,hR⟩:=hA
    have hnext:∀v w',J (bK (fun i=>listed.getD i false) i) (bZ y i v) w'→R i v w'→wpAny P .any ops Q fuel (listed.setIfInBounds i true) (a.put o.dst v) w':=by
     intro v w' hbw hv
     have hfe:bK (fun i=>listed.getD i false) i=fun k=>(listed.setIfInBounds i true).getD k false:=by
      funext k
      unfold bK
      by_cases hki:k=i
      ·subst hki
       simp[Array.getD_eq_getD_getElem?,show k<listed.size by omega]
      ·rw[if_neg hki]
       simp[Array.getD_eq_getD_getElem?,Array.getElem?_setIfInBounds_ne (Ne.symm hki)]
     rw[hfe] at hbw
     refine ih _ _ _ (by simp[hsz]) ?_ ⟨fun k hk => ?_,fun k o' ho' hk e he => ?_,fun k=>if k=i then v else y k,?_,hbw,?_⟩
     ·have hil:i<listed.toList.length:=by simp;omega
      have hfalse:listed.toList[i]=false:=by
       simpa[Array.getD_eq_getD_getElem?,show i<listed.size by omega] using h1
      have:=List.countP_set (p:=(!·)) (l:=listed.toList) (i:=i) (a:=true) hil
      rw[hfalse] at this
      have hpos:0<listed.toList.countP (!·):=List.countP_pos_iff.2 ⟨listed.toList[i],List.getElem_mem hil,by rw[hfalse];rfl⟩
      simp only[Array.toList_setIfInBounds]
      simp only[Bool.not_false,Bool.not_true,if_true,Bool.false_eq_true,if_false] at this
      omega
     ·have:=hno k hk
      simp only[Array.getD_eq_getD_getElem?,Array.getElem?_setIfInBounds_ne (show i≠k by omega)] at this ⊢
      exact this
     ·have up:∀q,listed.getD q false=true→(listed.setIfInBounds i true).getD q false=true:=by
       intro q hq
       by_cases hqi:q=i
       ·subst hqi;simp[Array.getD_eq_getD_getElem?,show q<listed.size by omega]
       ·simpa[Array.getD_eq_getD_getElem?,Array.getElem?_setIfInBounds_ne (Ne.symm hqi)] using hq
      apply up
      by_cases hki:k=i
      ·subst hki
       rw[ho] at ho'
       cases ho'
       exact hL e he
      ·exact hcl k o' ho' (by simpa[Array.getD_eq_getD_getElem?,Array.getElem?_setIfInBounds_ne (Ne.symm hki)] using hk) e he
     ·rw[ha,AX hok ho hsz v]
     ·intro k hk hLk
      by_cases hki:k=i
      ·subst hki;simpa using hv
      ·have:listed.getD k false=true:=by
        simpa[Array.getD_eq_getD_getElem?,Array.getElem?_setIfInBounds_ne (Ne.symm hki)] using hLk
       simp only[hki,if_false]
       exact hstab _ _ _ _ (hR k hk this)
    have heval:∀t∈o.looksAt ops,a.tmps[t]?=(lay (fun _=>true) y ops.toList 0 a0.tmps)[t]?:=fun t ht=>by
     rw[ha];exact vk hok ho hL t ht
    have hexec:execOp a.eval o=execOp ({ a0 with tmps:=lay (fun _=>true) y ops.toList 0 a0.tmps }:Act).eval o:=by
     refine execOp_congr o hsel fun x hx => ?_
     cases x with
     | tmp t=>
      have:=heval t (List.mem_append_left _ (List.mem_filterMap.2 ⟨.tmp t,by simpa using hx,rfl⟩))
      simp[Act.eval,this]
     | _=>rfl
    have hwant:Region.wanted o (yielded ops a.tmps)=Region.wanted o (yielded ops (lay (fun _=>true) y ops.toList 0 a0.tmps)):=by
     unfold Region.wanted
     cases hg:o.guard with
     | none=>rfl
     | some gw=>
      obtain⟨g,want⟩:=gw
      have:yielded ops a.tmps g=yielded ops (lay (fun _=>true) y ops.toList 0 a0.tmps) g:=by
       unfold yielded
       cases hd:(ops[g]?).bind (·.dst) with
       | none=>rfl
       | some t=>
        have:=heval t (List.mem_append_right _ (by simp[hg,hd]))
        simp[this]
      simp only[this]
    have hs:=hstep i o him ho (fun i=>listed.getD i false) y w (by simpa[Array.getD_eq_getD_getElem?,show i<listed.size by omega] using h1) (fun j hj=>by
     obtain⟨e,he,hej⟩:=List.any_eq_true.1 hj
     have hej' : e.on=j:=by simpa using hej
     subst hej'
     exact hL e (Array.mem_toList_iff.1 he)) hb (fun j hj=>by
     obtain⟨e,he,hej⟩:=List.any_eq_true.1 hj
     have hej' : e.on=j:=by simpa using hej
     subst hej'
     have he':=Array.mem_toList_iff.1 he
     exact hR e.on (by have:=(hbinds e he').2;omega) (hL e he'))
    by_cases hwt:Region.wanted o (yielded ops (lay (fun _=>true) y ops.toList 0 a0.tmps))=true
    ·rw[if_pos hwt] at hs
     exact nA ho (by rw[hwant];exact hwt) hexec hs fun v w' h=>hnext v w' h.1 h.2
    ·rw[if_neg hwt] at hs
     unfold wpOp
     simp only[ho]
     rw[if_neg (by rw[hwant];exact hwt)]
     exact hnext undef w hs.1 hs.2
 refine hall ops.size _ _ _ (by simp) ?_ ⟨fun i _ => ?_,fun i o' ho' hi => ?_,fun _=>undef,?_,?_,?_⟩
 ·simpa using List.countP_le_length (p:=(!·)) (l:=List.replicate ops.size false)
 ·simp[Array.getD_eq_getD_getElem?,Array.getElem?_replicate];split<;>rfl
 ·exfalso
  have:i<ops.size:=(Array.getElem?_eq_some_iff.1 ho').1
  simp[Array.getD_eq_getD_getElem?,this] at hi
 ·have e:lay (fun i=>(Array.replicate ops.size false).getD i false) (fun _=>undef) ops.toList 0 a0.tmps=a0.tmps:=by
   apply Array.ext_getElem?
   intro s
   exact fZ _ _ s _ 0 _ fun k o' hk hd=>by simp[Array.getD_eq_getD_getElem?,Array.getElem?_replicate];split<;>rfl
  rw[e]
 ·have e:(fun i=>(Array.replicate ops.size false).getD i false)=fun _=>false:=by
   funext i
   simp[Array.getD_eq_getD_getElem?,Array.getElem?_replicate];split<;>rfl
  rw[e]
  exact hJ0 _
 ·intro i hi hL
  simp[Array.getD_eq_getD_getElem?,hi] at hL
def jH (P:Program) (ops:Array Oper) (a0:Act) (J:(Nat→Bool)→(Nat→Value)→World→Prop) (l:List jJ) (i:Nat) (o:Oper):Prop:=
 ∀(ρ:Operand→Value) (y:Nat→Value) (w:World) (L:Nat→Bool),(∀t j,writer ops t=some j→ρ (.tmp t)=y j)→(∀x,(match x with | .tmp t=>writer ops t=none | _=>True)→ρ x=a0.eval x) →
  L i=false→(∀j,o.after.toList.any (fun e=>e.on==j)=true→L j=true)→J L y w→(∀j,o.after.toList.any (fun e=>e.on==j)=true→rl l j (y j) w) →
  if Region.wanted o (eG ρ ops)=true then cK P o ρ w (fun v w'=>J (bK L i) (bZ y i v) w'∧rl l i v w') else J (bK L i) (bZ y i undef) w∧rl l i undef w
theorem zF (m:Nat) (l:List jJ) (J:(Nat→Bool)→(Nat→Value)→World→Prop) (hst:∀L y w w',Below w.heap.size w w'→J L y w→J L y w') (hJ0:∀y,J (fun _=>false) y w0) (hfix:Fixed l) (hok:gZ ops=true) (ht:fK ops m=true) (hmn:m≤ops.size)
 (n:Nat) (hn:a0.tmps.size=n) (hsz:iH ops n=true)
 (hstep:aP (jH P ops a0 J l) 0 (ops.toList.take m))
 (hend:∀y w,J (fun i=>decide (i<m)) y w→(∀i,i<m→rl l i (y i) w)→wpList P ops Q (ops.toList.drop m) { a0 with tmps:=lay (fun i=>decide (i<m)) y ops.toList 0 a0.tmps } w) :
  wpAny P .any ops Q ops.size (Array.replicate ops.size false) a0 w0.drew:=by
 refine vC m hok ht hmn (rl l) J (fun y=>hst _ y w0 w0.drew ⟨rfl,rfl,rfl,Nat.le_refl _,fun _ _=>rfl⟩ (hJ0 y)) (fun i v w w' h=>hfix.at i v w w' h) (fun i o him hi L y w hLi hLd hb hd => ?_) hend
 have hwr:∀t j,writer ops t=some j→({ a0 with tmps:=lay (fun _=>true) y ops.toList 0 a0.tmps }:Act).eval (.tmp t)=y j:=by
  intro t j hw
  unfold writer at hw
  have h1:=List.find?_some hw
  have h2:=List.mem_range.1 (List.mem_of_find?_eq_some hw)
  cases ho:ops[j]? with
  | none=>simp[ho] at h1
  | some p=>
   have hd' : p.dst=some t:=by simpa[ho] using h1
   have hlt:t<a0.tmps.size:=by
    have:=List.all_eq_true.1 hsz p (Array.mem_toList_iff.2 (Array.mem_of_getElem? ho))
    rw[hn]
    simpa[hd'] using this
   have hu:∀k' o',ops.toList[k']?=some o'→o'.dst=some t→k' = j:=by
    intro k' o' hk' hdk
    rcases ((dV hok (i:=k') (o:=o') (by simpa using hk')).2.2 j p t ho hd').1 with h|h
    ·exact h
    ·exact absurd hdk h
   have:=jl (fun _=>true) y t ops.toList 0 a0.tmps j p (by simpa using ho) hd' rfl hu hlt
   simp[Act.eval,this]
 have hno:∀x,(match x with | .tmp t=>writer ops t=none | _=>True)→({ a0 with tmps:=lay (fun _=>true) y ops.toList 0 a0.tmps }:Act).eval x=a0.eval x:=by
  intro x hx
  cases x with
  | tmp t=>
   have:(lay (fun _=>true) y ops.toList 0 a0.tmps)[t]?=a0.tmps[t]?:=by
    refine fZ _ y t _ 0 _ fun k o' hk hd' => ?_
    exfalso
    simp only[writer] at hx
    have hk' : ops[k]?=some o':=by simpa using hk
    have hklt:k<ops.size:=(Array.getElem?_eq_some_iff.1 hk').1
    have:=List.find?_eq_none.1 hx k (List.mem_range.2 hklt)
    simp[hk',hd'] at this
   simp[Act.eval,this]
  | _=>rfl
 have hsays:Region.wanted o (yielded ops (lay (fun _=>true) y ops.toList 0 a0.tmps))=Region.wanted o (eG ({ a0 with tmps:=lay (fun _=>true) y ops.toList 0 a0.tmps }:Act).eval ops):=by
  congr 1
  funext g
  unfold yielded eG
  cases (ops[g]?).bind (·.dst) with
  | none=>rfl
  | some d=>
   simp only[Option.bind_some,Act.eval,Array.getD_eq_getD_getElem?]
   generalize (lay (fun _=>true) y ops.toList 0 a0.tmps)[d]?=q
   cases q with
   | none=>rfl
   | some v=>cases v<;>rfl
 have hi' : (ops.toList.take m)[i]?=some o:=by rw[List.getElem?_take,if_pos him];simpa using hi
 have:=aP.at hstep i o hi' _ y w L hwr hno (by rw[Nat.zero_add];exact hLi) hLd hb hd
 rw[Nat.zero_add] at this
 rw[hsays]
 exact this
theorem KY (m:Nat) (l:List jJ) (J:(Nat→Bool)→(Nat→Value)→World→Prop) (hst:∀L y w w',Below w.heap.size w w'→J L y w→J L y w') (hJ0:∀y,J (fun _=>false) y w0) (hfix:Fixed l) (hm:P.follows .mixedOrders=true) (hok:gZ ops=true) (ht:fK ops m=true) (hmn:m≤ops.size)
 (n:Nat) (hn:a0.tmps.size=n) (hsz:iH ops n=true)
 (hstep:aP (jH P ops a0 J l) 0 (ops.toList.take m))
 (hend:∀y w,J (fun i=>decide (i<m)) y w→(∀i,i<m→rl l i (y i) w)→wpList P ops Q (ops.toList.drop m) { a0 with tmps:=lay (fun i=>decide (i<m)) y ops.toList 0 a0.tmps } w) :
  (Code.region id ops true).wp P Q a0 w0:=
 wp_region_any hm (zF m l J hst hJ0 hfix hok ht hmn n hn hsz hstep hend)
theorem bS {w:World} {l:List jJ} {J:(Nat→Bool)→(Nat→Value)→World→Prop} (hst:∀L y w w',Below w.heap.size w w'→J L y w→J L y w')
 (hpure:∀v w,J L y w→J (bK L i) (bZ y i v) w) (hJ:J L y w)
 (h:if Region.wanted o (eG ρ ops)=true then cK P o ρ w (fun v w'=>Below w.heap.size w w'∧rl l i v w') else rl l i undef w) :
  if Region.wanted o (eG ρ ops)=true then cK P o ρ w (fun v w'=>J (bK L i) (bZ y i v) w'∧rl l i v w') else J (bK L i) (bZ y i undef) w∧rl l i undef w:=by
 split at h
 ·rename_i hw
  rw[if_pos hw]
  unfold cK at h ⊢
  split at h
  ·exact⟨hpure _ _ (hst _ _ _ _ h.1 hJ),h.2⟩
  ·exact⟨hpure _ _ (hst _ _ _ _ h.1 hJ),h.2⟩
  ·refine Calls.mono h fun e w'' he => ?_
   cases e with
   | returned v=>exact⟨hpure _ _ (hst _ _ _ _ he.1 hJ),he.2⟩
   | panicked c=>exact he.elim
   | outgrown=>exact he.elim
  ·exact h.elim
 ·rename_i hw
  rw[if_neg hw]
  exact⟨hpure _ _ hJ,h⟩
theorem eu {w:World} {l:List jJ} {J:(Nat→Bool)→(Nat→Value)→World→Prop} (f:FuncId) (args:Array Value) (hw:Region.wanted o (eG ρ ops)=true) (hrun:(execOp ρ o).run P w = .ok (.enter f args) w)
 (hc:Calls P f args w fun e w' => ∃v,e = .returned v∧J (bK L i) (bZ y i v) w'∧rl l i v w') :
  if Region.wanted o (eG ρ ops)=true then cK P o ρ w (fun v w'=>J (bK L i) (bZ y i v) w'∧rl l i v w') else J (bK L i) (bZ y i undef) w∧rl l i undef w:=by
 rw[if_pos hw]
 unfold cK
 rw[hrun]
 refine hc.mono fun e w' ⟨v,he,h⟩ => ?_
 subst he
 exact h
theorem bO {w:World} {l:List jJ} {J:(Nat→Bool)→(Nat→Value)→World→Prop} (v:Value) (hw:Region.wanted o (eG ρ ops)=true) (hrun:(execOp ρ o).run P w = .ok (.value v) w')
 (hJ:J (bK L i) (bZ y i v) w') (hR:rl l i v w') :
  if Region.wanted o (eG ρ ops)=true then cK P o ρ w (fun v w'=>J (bK L i) (bZ y i v) w'∧rl l i v w') else J (bK L i) (bZ y i undef) w∧rl l i undef w:=by
 rw[if_pos hw]
 unfold cK
 rw[hrun]
 exact⟨hJ,hR⟩
theorem xk {a:Act} {w:World} {F G:Value→World→Prop} (h:Gives P o a w F) (hi:∀v w',F v w'→G v w'):Gives P o a w G:=by
 unfold Gives at h ⊢
 generalize (execOp a.eval o).run P w=r at h
 cases r with
 | ok n w'=>
  cases n<;>first
   | exact hi _ _ h
   | exact Calls.mono h fun e w'' he=>by cases e<;>first | exact hi _ _ he | exact he
   | exact h
 | halt x w'=>exact h
theorem Gi {R R' : Nat→Value→Prop} (h:∀k,L k=true→R k (y k)) (hv:R' i v) (hs:∀k v,R k v→R' k v) (k:Nat) (hk:bK L i k=true):R' k (bZ y i v k):=by
 unfold bK at hk
 unfold bZ
 by_cases e:k=i
 ·rw[if_pos e,e];exact hv
 ·rw[if_neg e] at hk ⊢
  exact hs _ _ (h k hk)
theorem wF (m:Nat) (hm:P.follows .mixedOrders=true) (hok:gZ ops=true) (ht:fK ops m=true) (hmn:m≤ops.size)
 (R:Nat→Value→World→Prop) (hstab:∀i v w w',Below w.heap.size w w'→R i v w→R i v w')
 (hstep:∀i o,i<m→ops[i]?=some o→∀y w,Below w0.heap.size w0 w→(∀j,o.after.toList.any (fun e=>e.on==j)=true→R j (y j) w) →
 if Region.wanted o (yielded ops (lay (fun _=>true) y ops.toList 0 a0.tmps))=true then Gives P o { a0 with tmps:=lay (fun _=>true) y ops.toList 0 a0.tmps } w (fun v w'=>Below w.heap.size w w'∧R i v w') else R i undef w)
 (hend:∀y w,Below w0.heap.size w0 w→(∀i,i<m→R i (y i) w)→wpList P ops Q (ops.toList.drop m) { a0 with tmps:=lay (fun i=>decide (i<m)) y ops.toList 0 a0.tmps } w) :
  (Code.region id ops true).wp P Q a0 w0:=
 wp_region_any hm (vC m hok ht hmn (fun _ _ _=>True) (fun L y w=>Below w0.heap.size w0 w∧∀i,L i=true→R i (y i) w) (fun y=>⟨⟨rfl,rfl,rfl,Nat.le_refl _,fun _ _=>rfl⟩,fun i h=>(by cases h)⟩) (fun _ _ _ _ _=>trivial) (fun i o hi ho L y w hL hd hJ _=>by
  have h:=hstep i o hi ho y w hJ.1 (fun j hj=>hJ.2 j (hd j hj))
  have hup:∀v w',Below w.heap.size w w'→R i v w'→Below w0.heap.size w0 w'∧∀k,bK L i k=true→R k (bZ y i v k) w':=fun v w' hb hr=>⟨ag hJ.1 hb,fun k hk=>Gi hJ.2 hr (fun k v h=>hstab k v _ _ hb h) k hk⟩
  split at h
  ·rename_i hw
   rw[if_pos hw]
   exact xk h fun v w' hh=>⟨hup v w' hh.1 hh.2,trivial⟩
  ·rename_i hw
   rw[if_neg hw]
   exact⟨hup undef w (Below.refl _ _) h,trivial⟩) (fun y w hJ _=>hend y w hJ.1 fun i hi=>hJ.2 i (decide_eq_true hi)))
theorem KJ (m:Nat) (l:List jJ) (hm:P.follows .mixedOrders=true) (hok:gZ ops=true) (ht:fK ops m=true) (hmn:m≤ops.size)
 (n:Nat) (hn:a0.tmps.size=n) (hsz:iH ops n=true)
 (hstep:aP (kS P ops a0 w0 l) 0 (ops.toList.take m))
 (hend:∀y w,Below w0.heap.size w0 w→(∀i,i<m→rl l i (y i) w)→wpList P ops Q (ops.toList.drop m) { a0 with tmps:=lay (fun i=>decide (i<m)) y ops.toList 0 a0.tmps } w) :
  (Code.region id ops true).wp P Q a0 w0:=by
 refine wF m hm hok ht hmn (rl l) (fun i v w w' hb h=>(l.getD i anyR).st v w w' hb h) (fun i o him hi y w hb hd => ?_) hend
 have hwr:∀t j,writer ops t=some j→({ a0 with tmps:=lay (fun _=>true) y ops.toList 0 a0.tmps }:Act).eval (.tmp t)=y j:=by
  intro t j hw
  unfold writer at hw
  have h1:=List.find?_some hw
  have h2:=List.mem_range.1 (List.mem_of_find?_eq_some hw)
  cases ho:ops[j]? with
  | none=>simp[ho] at h1
  | some p=>
   have hd' : p.dst=some t:=by simpa[ho] using h1
   have hlt:t<a0.tmps.size:=by
    have:=List.all_eq_true.1 hsz p (Array.mem_toList_iff.2 (Array.mem_of_getElem? ho))
    rw[hn]
    simpa[hd'] using this
   have hu:∀k' o',ops.toList[k']?=some o'→o'.dst=some t→k' = j:=by
    intro k' o' hk' hdk
    rcases ((dV hok (i:=k') (o:=o') (by simpa using hk')).2.2 j p t ho hd').1 with h|h
    ·exact h
    ·exact absurd hdk h
   have:=jl (fun _=>true) y t ops.toList 0 a0.tmps j p (by simpa using ho) hd' rfl hu hlt
   simp[Act.eval,this]
 have hno:∀x,(match x with | .tmp t=>writer ops t=none | _=>True)→({ a0 with tmps:=lay (fun _=>true) y ops.toList 0 a0.tmps }:Act).eval x=a0.eval x:=by
  intro x hx
  cases x with
  | tmp t=>
   have:(lay (fun _=>true) y ops.toList 0 a0.tmps)[t]?=a0.tmps[t]?:=by
    refine fZ _ y t _ 0 _ fun k o' hk hd' => ?_
    exfalso
    simp only[writer] at hx
    have hk' : ops[k]?=some o':=by simpa using hk
    have hklt:k<ops.size:=(Array.getElem?_eq_some_iff.1 hk').1
    have:=List.find?_eq_none.1 hx k (List.mem_range.2 hklt)
    simp[hk',hd'] at this
   simp[Act.eval,this]
  | _=>rfl
 have hsays:Region.wanted o (yielded ops (lay (fun _=>true) y ops.toList 0 a0.tmps))=Region.wanted o (eG ({ a0 with tmps:=lay (fun _=>true) y ops.toList 0 a0.tmps }:Act).eval ops):=by
  congr 1
  funext g
  unfold yielded eG
  cases (ops[g]?).bind (·.dst) with
  | none=>rfl
  | some d=>
   simp only[Option.bind_some,Act.eval,Array.getD_eq_getD_getElem?]
   generalize (lay (fun _=>true) y ops.toList 0 a0.tmps)[d]?=q
   cases q with
   | none=>rfl
   | some v=>cases v<;>rfl
 have hi' : (ops.toList.take m)[i]?=some o:=by rw[List.getElem?_take,if_pos him];simpa using hi
 have:=aP.at hstep i o hi' _ y w hwr hno hb hd
 rw[Nat.zero_add] at this
 rw[hsays]
 exact this
inductive RV where
 | v (V:Value)
 | r (i:Nat) (R:jJ)
def RV.R:RV→jJ
 | .v V=>oV V
 | .r _ R=>R
def rvs:List RV→List jJ
 | []=>[]
 | a::l=>a.R::rvs l
def rvN:RV:=.r 0 anyR
theorem rvs_at:∀(l:List RV) (i:Nat),(rvs l).getD i anyR=(l.getD i rvN).R
 | [],_=>rfl
 | _::_,0=>rfl
 | _::l,i+1=>by
  have:=rvs_at l i
  simpa[rvs] using this
theorem BQ {l:List RV} {w:World} (hr:l.getD i rvN = .v V) (e:v=V):rl (rvs l) i v w:=by
 unfold rl
 rw[rvs_at,hr]
 exact e
def rvK:List RV→Nat→Option Value
 | .v V::_,0=>some V
 | _::l,k+1=>rvK l k
 | _,_=>none
theorem rvK_at:∀ {l:List RV} {k:Nat} {V:Value},rvK l k=some V→l.getD k rvN = .v V
 | .v V::_,0,_,h=>by cases h;rfl
 | .v _::l,k+1,_,h=>by simpa using rvK_at (l:=l) (k:=k) h
 | .r _ _::l,k+1,_,h=>by simpa using rvK_at (l:=l) (k:=k) h
 | .r _ _::_,0,_,h=>by cases h
 | [],0,_,h=>by cases h
 | [],_+1,_,h=>by cases h
def kt (ops:Array Oper) (a0:Act) (l:List RV) (o:Oper) (t:Nat):Option Value:=
 match writer ops t with
 | some k=>cond (o.after.toList.any fun e=>e.on==k) (rvK l k) none
 | none=>a0.tmps.toList[t]?
def kx (ops:Array Oper) (a0:Act) (l:List RV) (o:Oper):Operand→Option Value
 | .tmp t=>kt ops a0 l o t
 | .const v=>some v
 | .func f=>some (.func (.func f) #[] #[])
 | .global g=>some (.pointer (some ⟨g,0,none⟩))
def kg (ops:Array Oper) (a0:Act) (l:List RV) (o:Oper):Option Bool:=
 match o.guard with
 | none=>some true
 | some (g,want)=>match (ops[g]?).bind (·.dst) with
  | none=>none
  | some d=>match kt ops a0 l o d with
   | some (.bool b)=>some (b==want)
   | some (.tuple _)=>some false
   | _=>none
def Ql (ops:Array Oper) (a0:Act) (l:List RV) (o:Oper):Option Value:=
 match o.op with
 | .move x=>kx ops a0 l o x
 | .assign x=>kx ops a0 l o x
 | .nilCheck x=>match kx ops a0 l o x with
  | some (.pointer (some a))=>some (.pointer (some a))
  | _=>none
 | .unOp .not _ x=>match kx ops a0 l o x with
  | some (.bool true)=>some (.bool false)
  | some (.bool false)=>some (.bool true)
  | _=>none
 | .pick c x y=>match kx ops a0 l o c with
  | some (.bool true)=>kx ops a0 l o x
  | some (.bool false)=>kx ops a0 l o y
  | _=>none
 | _=>none
def ks (ops:Array Oper) (a0:Act) (l:List RV) (o:Oper):Option Value:=
 match kg ops a0 l o with
 | some true=>Ql ops a0 l o
 | some false=>some undef
 | none=>none
section
variable {P:Program} {ops:Array Oper} {a0:Act} {w0:World} {l:List RV} {i:Nat} {o:Oper}
def Kn (ops:Array Oper) (a0:Act) (l:List RV) (o:Oper) (ρ:Operand→Value) (y:Nat→Value) (w:World):Prop:=
 (∀t j,writer ops t=some j→ρ (.tmp t)=y j)∧(∀x,(match x with | .tmp t=>writer ops t=none | _=>True)→ρ x=a0.eval x)∧∀j,o.after.toList.any (fun e=>e.on==j)=true→rl (rvs l) j (y j) w
theorem OD {t:Nat} (h:kt ops a0 l o t=some v) {w:World} (hk:Kn ops a0 l o ρ y w):ρ (.tmp t)=v:=by
 unfold kt at h
 cases hw:writer ops t with
 | none=>
  rw[hw] at h
  have h' : a0.tmps.toList[t]?=some v:=h
  rw[hk.2.1 (.tmp t) hw]
  simp only[Array.getElem?_toList] at h'
  simp[Act.eval,h']
 | some k=>
  rw[hw] at h
  have h' : cond (o.after.toList.any fun e=>e.on==k) (rvK l k) none=some v:=h
  cases ha:o.after.toList.any fun e=>e.on==k with
  | false=>rw[ha] at h'; cases h'
  | true=>
   rw[ha] at h'
   have h1:=hk.2.2 k ha
   unfold rl at h1
   rw[rvs_at,rvK_at h'] at h1
   exact (hk.1 t k hw).trans h1
theorem aF (h:kx ops a0 l o x=some v) {w:World} (hk:Kn ops a0 l o ρ y w):ρ x=v:=by
 cases x with
 | tmp t=>exact OD h hk
 | const c=>rw[hk.2.1 (.const c) trivial];cases h;rfl
 | func f=>rw[hk.2.1 (.func f) trivial];cases h;rfl
 | global g=>rw[hk.2.1 (.global g) trivial];cases h;rfl
theorem yL {b:Bool} (h:kg ops a0 l o=some b) {w:World} (hk:Kn ops a0 l o ρ y w):Region.wanted o (eG ρ ops)=b:=by
 unfold kg at h
 unfold Region.wanted
 cases hg:o.guard with
 | none=>rw[hg] at h;cases h;rfl
 | some q=>
  obtain⟨g,want⟩:=q
  rw[hg] at h
  simp only at h
  cases hd:(ops[g]?).bind (·.dst) with
  | none=>rw[hd] at h;cases h
  | some d=>
   rw[hd] at h
   simp only at h
   cases hv:kt ops a0 l o d with
   | none=>rw[hv] at h;cases h
   | some v=>
    rw[hv] at h
    have e:=OD hv hk
    unfold eG
    simp only[hd,e]
    cases v with
    | bool c=>cases h;cases c<;>cases want<;>rfl
    | tuple c=>cases h;rfl
    | _=>cases h
def tH (P:Program) (ops:Array Oper) (a0:Act) (l:List RV) (i:Nat) (o:Oper):Prop:=
 ∀(ρ:Operand→Value) (y:Nat→Value) (w:World),Kn ops a0 l o ρ y w→(Region.wanted o (eG ρ ops)=false∧rl (rvs l) i undef w)∨(Region.wanted o (eG ρ ops)=true∧∃v,(execOp ρ o).run P w = .ok (.value v) w∧rl (rvs l) i v w)
theorem tH.run (hg:kg ops a0 l o=some true) (hr:l.getD i rvN = .v V) (h:∀ρ y w,Kn ops a0 l o ρ y w→(execOp ρ o).run P w = .ok (.value V) w):tH P ops a0 l i o:=fun ρ y w hk => .inr ⟨yL hg hk,V,h ρ y w hk,BQ hr rfl⟩
theorem OB (h:ks ops a0 l o=some V) (hr:l.getD i rvN = .v V):tH P ops a0 l i o:=by
 unfold ks at h
 cases hg:kg ops a0 l o with
 | none=>rw[hg] at h;cases h
 | some b=>
  rw[hg] at h
  cases b with
  | false=>
   cases h
   exact fun ρ y w hk => .inl ⟨yL hg hk,BQ hr rfl⟩
  | true=>
   have h' : Ql ops a0 l o=some V:=h
   refine tH.run hg hr fun ρ y w hk => ?_
   unfold Ql at h'
   split at h'
   ·rename_i x ho;exact run_move (.inl ho) (aF h' hk)
   ·rename_i x ho;exact run_move (.inr ho) (aF h' hk)
   ·rename_i x ho
    split at h'
    ·rename_i a hx
     cases h'
     have e:=aF hx hk
     simp[execOp,go_sem,ho,e]
    ·cases h'
   ·rename_i t x ho
    split at h'
    ·rename_i hx;cases h'; exact wV ho (aF hx hk)
    ·rename_i hx;cases h'; exact wV ho (aF hx hk)
    ·cases h'
   ·rename_i c x y' ho
    split at h'
    ·rename_i hc;exact lS ho (aF hc hk) (aF h' hk)
    ·rename_i hc;exact lS ho (aF hc hk) (aF h' hk)
    ·cases h'
   ·cases h'
theorem tH.asked (h:tH P ops a0 l i o):kS P ops a0 w0 (rvs l) i o:=fun ρ y w hw hn _ hd=>by
 rcases h ρ y w ⟨hw,hn,hd⟩ with ⟨h1,h2⟩|⟨h1,v,h2,h3⟩
 ·exact yC h1 h2
 ·exact aj v h1 h2 h3
theorem tH.askedQ {J:(Nat→Bool)→(Nat→Value)→World→Prop} (hst:∀L y w w',Below w.heap.size w w'→J L y w→J L y w') (hp:∀L y v w,(∀j,o.after.toList.any (fun e=>e.on==j)=true→L j=true)→J L y w→J (bK L i) (bZ y i v) w) (h:tH P ops a0 l i o):jH P ops a0 J (rvs l) i o:=fun ρ y w L hw hn _ hLd hJ hd=>by
 rcases h ρ y w ⟨hw,hn,hd⟩ with ⟨h1,h2⟩|⟨h1,v,h2,h3⟩
 ·exact bS hst (fun v w=>hp L y v w hLd) hJ (yC h1 h2)
 ·exact bS hst (fun v w=>hp L y v w hLd) hJ (aj v h1 h2 h3)
variable {C:Nat→Oper→Prop} {r:List Oper}
theorem MP (hC:tH P ops a0 l i o→C i o) (h:(ks ops a0 l o).map RV.v=some (l.getD i rvN)) (hl:aP C (i+1) r):aP C i (o::r):=⟨hC (by
 cases hk:ks ops a0 l o with
 | none=>rw[hk] at h;cases h
 | some V=>
  rw[hk] at h
  exact OB hk (Option.some.inj h).symm),hl⟩
theorem Gk (h:(ks ops a0 l o).map RV.v=some (l.getD i rvN)) (hl:aP (kS P ops a0 w0 (rvs l)) (i+1) r):aP (kS P ops a0 w0 (rvs l)) i (o::r):=MP tH.asked h hl
def PK (ops:Array Oper) (a0:Act) (l:List RV) (o:Oper):Option (TypeId × Value × Nat):=
 match kg ops a0 l o with
 | some true=>match o.op with
  | .fieldAddr t x f=>(kx ops a0 l o x).map fun v=>(t,v,f)
  | _=>none
 | _=>none
theorem EJ (hC:tH P ops a0 l i o→C i o) (b k:Nat) (h:PK ops a0 l o=some (t,v,f)) (hr:l.getD i rvN = .v (.pointer (some ⟨b,k,none⟩))) (hl:aP C (i+1) r) (hf:∀w,(Instr.fieldAt t v f).run P w = .ok (.pointer (some ⟨b,k,none⟩)) w:=by intro _;kernel_rfl):aP C i (o::r):=by
 refine⟨hC ?_,hl⟩
 unfold PK at h
 split at h
 ·rename_i hg
  split at h
  ·rename_i t' x f' ho
   cases hx:kx ops a0 l o x with
   | none=>rw[hx] at h;cases h
   | some v'=>
    rw[hx] at h
    cases h
    exact tH.run hg hr fun ρ y w hk=>yY ho (aF hx hk) (hf w)
  ·cases h
 ·cases h
theorem Gf (b k:Nat) (h:PK ops a0 l o=some (t,v,f)) (hr:l.getD i rvN = .v (.pointer (some ⟨b,k,none⟩))) (hl:aP (kS P ops a0 w0 (rvs l)) (i+1) r) (hf:∀w,(Instr.fieldAt t v f).run P w = .ok (.pointer (some ⟨b,k,none⟩)) w:=by intro _;kernel_rfl):aP (kS P ops a0 w0 (rvs l)) i (o::r):=EJ tH.asked b k h hr hl hf
theorem Mc (hC:tH P ops a0 l i o→C i o) (hg:kg ops a0 l o=some true) (ho:o.op = .call { callee:=.builtin .len,args:=#[x],argTypes:=#[t] }) (hx:kx ops a0 l o x=some (.slice a n c)) (hr:l.getD i rvN = .v (.int .i64 n)) (hl:aP C (i+1) r) (ht:P.underlying t=some (.slice (P.elem t)):=by rfl):aP C i (o::r):=
 ⟨hC (tH.run hg hr fun ρ y w hk=>Cs ho (aF hx hk) ht),hl⟩
theorem Gn (hg:kg ops a0 l o=some true) (ho:o.op = .call { callee:=.builtin .len,args:=#[x],argTypes:=#[t] }) (hx:kx ops a0 l o x=some (.slice a n c)) (hr:l.getD i rvN = .v (.int .i64 n)) (hl:aP (kS P ops a0 w0 (rvs l)) (i+1) r) (ht:P.underlying t=some (.slice (P.elem t)):=by rfl):aP (kS P ops a0 w0 (rvs l)) i (o::r):=Mc tH.asked hg ho hx hr hl ht
theorem Kt (hC:tH P ops a0 l i o→C i o) (V:Value) {op:BinOp} {y:Operand} (hr:∀w,(do eqGuard op t x y vx vy;binOp op t vx vy:Sem Value).run P w = .ok V w) (hg:kg ops a0 l o=some true) (ho:o.op = .binOp op t x y t') (hx:kx ops a0 l o x=some vx) (hy:kx ops a0 l o y=some vy) (hv:l.getD i rvN = .v V) (hl:aP C (i+1) r):aP C i (o::r):=
 ⟨hC (tH.run hg hv fun ρ y w hk=>lH ho (aF hx hk) (aF hy hk) (hr w)),hl⟩
theorem Gb (V:Value) {op:BinOp} {y:Operand} (hr:∀w,(do eqGuard op t x y vx vy;binOp op t vx vy:Sem Value).run P w = .ok V w) (hg:kg ops a0 l o=some true) (ho:o.op = .binOp op t x y t') (hx:kx ops a0 l o x=some vx) (hy:kx ops a0 l o y=some vy) (hv:l.getD i rvN = .v V) (hl:aP (kS P ops a0 w0 (rvs l)) (i+1) r):aP (kS P ops a0 w0 (rvs l)) i (o::r):=Kt tH.asked V hr hg ho hx hy hv hl
theorem Pq (hC:tH P ops a0 l i o→C i o) (V:Value) (h:∀ρ y w,Kn ops a0 l o ρ y w→(execOp ρ o).run P w = .ok (.value V) w) (hg:kg ops a0 l o=some true) (hv:l.getD i rvN = .v V) (hl:aP C (i+1) r):aP C i (o::r):=⟨hC (tH.run hg hv h),hl⟩
section
variable {J:(Nat→Bool)→(Nat→Value)→World→Prop}
theorem Qk (hst:∀L y w w',Below w.heap.size w w'→J L y w→J L y w') (h:(ks ops a0 l o).map RV.v=some (l.getD i rvN)) (hl:aP (jH P ops a0 J (rvs l)) (i+1) r) (hp:∀L y v w,(∀j,o.after.toList.any (fun e=>e.on==j)=true→L j=true)→J L y w→J (bK L i) (bZ y i v) w:=by intro _ _ _ _ _ h;exact h):aP (jH P ops a0 J (rvs l)) i (o::r):=MP (tH.askedQ hst hp) h hl
theorem Qf (hst:∀L y w w',Below w.heap.size w w'→J L y w→J L y w') (b k:Nat) (h:PK ops a0 l o=some (t,v,f)) (hr:l.getD i rvN = .v (.pointer (some ⟨b,k,none⟩))) (hl:aP (jH P ops a0 J (rvs l)) (i+1) r) (hp:∀L y v w,(∀j,o.after.toList.any (fun e=>e.on==j)=true→L j=true)→J L y w→J (bK L i) (bZ y i v) w:=by intro _ _ _ _ _ h;exact h) (hf:∀w,(Instr.fieldAt t v f).run P w = .ok (.pointer (some ⟨b,k,none⟩)) w:=by intro _;kernel_rfl):aP (jH P ops a0 J (rvs l)) i (o::r):=EJ (tH.askedQ hst hp) b k h hr hl hf
theorem Qn (hst:∀L y w w',Below w.heap.size w w'→J L y w→J L y w') (hg:kg ops a0 l o=some true) (ho:o.op = .call { callee:=.builtin .len,args:=#[x],argTypes:=#[t] }) (hx:kx ops a0 l o x=some (.slice a n c)) (hr:l.getD i rvN = .v (.int .i64 n)) (hl:aP (jH P ops a0 J (rvs l)) (i+1) r) (hp:∀L y v w,(∀j,o.after.toList.any (fun e=>e.on==j)=true→L j=true)→J L y w→J (bK L i) (bZ y i v) w:=by intro _ _ _ _ _ h;exact h) (ht:P.underlying t=some (.slice (P.elem t)):=by rfl):aP (jH P ops a0 J (rvs l)) i (o::r):=Mc (tH.askedQ hst hp) hg ho hx hr hl ht
theorem Qb (hst:∀L y w w',Below w.heap.size w w'→J L y w→J L y w') (V:Value) {op:BinOp} {y:Operand} (hr:∀w,(do eqGuard op t x y vx vy;binOp op t vx vy:Sem Value).run P w = .ok V w) (hg:kg ops a0 l o=some true) (ho:o.op = .binOp op t x y t') (hx:kx ops a0 l o x=some vx) (hy:kx ops a0 l o y=some vy) (hv:l.getD i rvN = .v V) (hl:aP (jH P ops a0 J (rvs l)) (i+1) r) (hp:∀L y v w,(∀j,o.after.toList.any (fun e=>e.on==j)=true→L j=true)→J L y w→J (bK L i) (bZ y i v) w:=by intro _ _ _ _ _ h;exact h):aP (jH P ops a0 J (rvs l)) i (o::r):=Kt (tH.askedQ hst hp) V hr hg ho hx hy hv hl
theorem Qr (hst:∀L y w w',Below w.heap.size w w'→J L y w→J L y w') (V:Value) (h:∀ρ y w,Kn ops a0 l o ρ y w→(execOp ρ o).run P w = .ok (.value V) w) (hg:kg ops a0 l o=some true) (hv:l.getD i rvN = .v V) (hl:aP (jH P ops a0 J (rvs l)) (i+1) r) (hp:∀L y v w,(∀j,o.after.toList.any (fun e=>e.on==j)=true→L j=true)→J L y w→J (bK L i) (bZ y i v) w:=by intro _ _ _ _ _ h;exact h):aP (jH P ops a0 J (rvs l)) i (o::r):=Pq (tH.askedQ hst hp) V h hg hv hl
end
theorem Gr (V:Value) (h:∀ρ y w,Below w0.heap.size w0 w→Kn ops a0 l o ρ y w→(execOp ρ o).run P w = .ok (.value V) w) (hg:kg ops a0 l o=some true) (hv:l.getD i rvN = .v V) (hl:aP (kS P ops a0 w0 (rvs l)) (i+1) r):aP (kS P ops a0 w0 (rvs l)) i (o::r):=
 ⟨fun ρ y w hw hn hb hd=>aj V (yL hg ⟨hw,hn,hd⟩) (h ρ y w hb ⟨hw,hn,hd⟩) (BQ hv rfl),hl⟩
def PM (P:Program) (t:TypeId):Bool:=match P.underlying t with
 | some (.struct _)=>false
 | some (.array _ _)=>false
 | some _=>true
 | none=>false
theorem mQ {w:World} (hs:PM P t=true) (hc:w.cell? ⟨b,k,none⟩=some V):(loadVar t ⟨b,k,none⟩).run P w = .ok V w:=by
 unfold PM at hs
 cases hu:P.underlying t with
 | none=>rw[hu] at hs;cases hs
 | some d=>
  have ha:(isAgg t).run P w = .ok false w:=by
   unfold isAgg
   rw[Sem.run_bind,run_underlying hu w]
   rw[hu] at hs
   cases d<;>first | rfl | cases hs
  simp[loadVar,Sem.run_bind,ha,go_sem,hc]
theorem Gl (hb:aD w0 b cs T) (hv:cs.toList[k]?=some V) (hg:kg ops a0 l o=some true) (ho:o.op = .load t x) (hx:kx ops a0 l o x=some (.pointer (some ⟨b,k,none⟩))) (hr:l.getD i rvN = .v V) (hl:aP (kS P ops a0 w0 (rvs l)) (i+1) r) (hs:PM P t=true:=by kernel_rfl):aP (kS P ops a0 w0 (rvs l)) i (o::r):=by
 refine⟨fun ρ y w hw hn hB hd=>aj V (yL hg ⟨hw,hn,hd⟩) ?_ (BQ hr rfl),hl⟩
 have e:ρ x=_:=aF hx ⟨hw,hn,hd⟩
 have hc:w.cell? ⟨b,k,none⟩=some V:=by rw[(hb.ext hB).cell,←Array.getElem?_toList];exact hv
 refine run_load ho e ?_
 simp only[Instr.loadAt,Instr.sureAddr,Sem.run_bind,Sem.run_pure,Result.andThen_ok,mQ hs hc]
theorem Gc (V:Value) (hc:∀w,Below w0.heap.size w0 w→w.cell? ⟨b,k,none⟩=some V) (hg:kg ops a0 l o=some true) (ho:o.op = .load t x) (hx:kx ops a0 l o x=some (.pointer (some ⟨b,k,none⟩))) (hr:l.getD i rvN = .v V) (hl:aP (kS P ops a0 w0 (rvs l)) (i+1) r) (hs:PM P t=true:=by kernel_rfl):aP (kS P ops a0 w0 (rvs l)) i (o::r):=by
 refine⟨fun ρ y w hw hn hB hd=>aj V (yL hg ⟨hw,hn,hd⟩) ?_ (BQ hr rfl),hl⟩
 have e:ρ x=_:=aF hx ⟨hw,hn,hd⟩
 refine run_load ho e ?_
 simp only[Instr.loadAt,Instr.sureAddr,Sem.run_bind,Sem.run_pure,Result.andThen_ok,mQ hs (hc w hB)]
def revC:List Value→List Value→(List Value→Option (List Value))→Option (List Value)
 | [],r,k=>k r
 | a::l,r,k=>revC l (a::r) k
def ptC:List Value→Nat→Value→List Value→(List Value→Option (List Value))→Option (List Value)
 | [],_,_,acc,k=>revC acc [] k
 | _::l,0,v,acc,k=>revC acc (v::l) k
 | a::l,n+1,v,acc,k=>ptC l n v (a::acc) k
def sG (y:Nat→Value):List RV→List Oper→List Value→Option (List Value)
 | .v V::l,o::r,t=>match o.dst with
  | some d=>ptC t d V [] fun t'=>sG y l r t'
  | none=>sG y l r t
 | .r j _::l,o::r,t=>match o.dst with
  | some d=>ptC t d (y j) [] fun t'=>sG y l r t'
  | none=>sG y l r t
 | _,_,t=>some t
def idxOk:List RV→Nat→Bool
 | [],_=>true
 | .v _::l,i=>idxOk l (i+1)
 | .r j _::l,i=>(j==i)&&idxOk l (i+1)
theorem AB (k:List Value→Option (List Value)):∀(a r:List Value),revC a r k=k (a.reverse++r)
 | [],r=>rfl
 | x::a,r=>by rw[revC,AB k a];simp
theorem Fp (k:List Value→Option (List Value)):∀(t:List Value) (n:Nat) (v:Value) (acc:List Value),ptC t n v acc k=k (acc.reverse++t.set n v)
 | [],n,v,acc=>by simp[ptC,AB]
 | x::t,0,v,acc=>by simp[ptC,AB]
 | x::t,n+1,v,acc=>by rw[ptC,Fp k t];simp
theorem qU {y:Nat→Value} {w:World} {m:Nat}:∀(l:List RV) (r:List Oper) (k:Nat) (t:Array Value),idxOk l k=true→m=k+l.length→l.length≤r.length→(∀i,i<l.length→rl (rvs l) i (y (k+i)) w) →
  sG y l r t.toList=some (lay (fun i=>decide (i<m)) y r k t).toList
 | [],r,k,t,_,hm,_,_=>by
  have:sG y [] r t.toList=some t.toList:=by cases r<;>rfl
  rw[this]
  simp only[List.length_nil,Nat.add_zero] at hm
  subst hm
  have hno:∀(r:List Oper) (j:Nat) (t:Array Value),m≤j→lay (fun i=>decide (i<m)) y r j t=t:=by
   intro r
   induction r with
   | nil=>intro j t _;rfl
   | cons o r ih=>
    intro j t hj
    simp only[lay]
    rw[ih (j+1) _ (by omega)]
    cases o.dst with
    | none=>rfl
    | some d=>simp[show ¬j<m by omega]
  rw[hno r m t (Nat.le_refl _)]
 | a::l,[],k,t,_,_,hle,_=>by simp at hle
 | a::l,o::r,k,t,hi,hm,hle,hR=>by
  have hk:k<m:=by simp at hm;omega
  have hrest:∀i,i<l.length→rl (rvs l) i (y (k+1+i)) w:=fun i hl=>by
   have:=hR (i+1) (by simp;omega)
   rw[show k+1+i=k+(i+1) by omega]
   unfold rl at this ⊢
   simpa[rvs] using this
  cases a with
  | v V=>
   have h0:y k=V:=by
    have:=hR 0 (by simp)
    exact this
   have ih:=fun t'=>qU (m:=m) (w:=w) l r (k+1) t' hi (by rw[List.length_cons] at hm;omega) (by simpa using hle) hrest
   cases ho:o.dst with
   | none=>simp only[lay,ho,hk,decide_true,if_true,sG,ih]
   | some d=>
    simp only[lay,ho,hk,decide_true,if_true,sG,Fp,h0,List.reverse_nil,List.nil_append]
    rw[←ih (t.setIfInBounds d V),Array.toList_setIfInBounds]
  | r j R=>
   have hj:j=k∧idxOk l (k+1)=true:=by
    have h' : ((j==k)&&idxOk l (k+1))=true:=hi
    simpa using h'
   obtain⟨rfl,hi'⟩:=hj
   have ih:=fun t'=>qU (m:=m) (w:=w) l r (j+1) t' hi' (by rw[List.length_cons] at hm;omega) (by simpa using hle) hrest
   cases ho:o.dst with
   | none=>simp only[lay,ho,hk,decide_true,if_true,sG,ih]
   | some d=>
    simp only[lay,ho,hk,decide_true,if_true,sG,Fp,List.reverse_nil,List.nil_append]
    rw[←ih (t.setIfInBounds d (y j)),Array.toList_setIfInBounds]
end
theorem aG {df:List Deferred} (m:Nat) (l:List RV)
 (hstep:aP (kS P ops ⟨t0,df⟩ w0 (rvs l)) 0 (ops.toList.take m)) {tm:(Nat→Value)→List Value} (hf:∀y,sG y l ops.toList t0.toList=some (tm y)) (hd:wr (ops.toList.drop m)=some rest)
 (hend:∀y w,Below w0.heap.size w0 w→(∀i,i<m→rl (rvs l) i (y i) w)→wpList P ops Q rest ⟨(tm y).toArray,df⟩ w)
 (hm:P.follows .mixedOrders=true:=by kernel_rfl) (hok:gZ ops=true:=by kernel_rfl) (ht:fK ops m=true:=by kernel_rfl) (hmn:m≤ops.size:=by decide) (hll:l.length=m:=by rfl) (hix:idxOk l 0=true:=by kernel_rfl)
 (hsz:iH ops t0.size=true:=by kernel_rfl):(Code.region id ops true).wp P Q ⟨t0,df⟩ w0:=by
 refine KJ m (rvs l) hm hok ht hmn _ rfl hsz hstep fun y w hb hR => ?_
 have h:=hend y w hb hR
 rw[Gz hd]
 have e:=qU (m:=m) (y:=y) (w:=w) l ops.toList 0 t0 hix (by omega) (by simp;omega) fun i hi=>by rw[Nat.zero_add];exact hR i (by omega)
 show wpList P ops Q rest ⟨lay (fun i=>decide (i<m)) y ops.toList 0 t0,df⟩ w
 have e2:=Option.some.inj (e.symm.trans (hf y))
 have e3:lay (fun i=>decide (i<m)) y ops.toList 0 t0=(tm y).toArray:=by rw[←e2]
 rw[e3]
 exact h
theorem dW {df:List Deferred} (m:Nat) (l:List RV) (J:(Nat→Bool)→(Nat→Value)→World→Prop) (hst:∀L y w w',Below w.heap.size w w'→J L y w→J L y w') (hJ0:∀y,J (fun _=>false) y w0)
 (hstep:aP (jH P ops ⟨t0,df⟩ J (rvs l)) 0 (ops.toList.take m)) {tm:(Nat→Value)→List Value} (hf:∀y,sG y l ops.toList t0.toList=some (tm y)) (hd:wr (ops.toList.drop m)=some rest)
 (hend:∀y w,J (fun i=>decide (i<m)) y w→(∀i,i<m→rl (rvs l) i (y i) w)→wpList P ops Q rest ⟨(tm y).toArray,df⟩ w)
 (hfix:Fixed (rvs l):=by repeat (first | exact fix_nil | refine Cv (fun _ _ _ h=>h) ?_))
 (hm:P.follows .mixedOrders=true:=by kernel_rfl) (hok:gZ ops=true:=by kernel_rfl) (ht:fK ops m=true:=by kernel_rfl) (hmn:m≤ops.size:=by decide) (hll:l.length=m:=by rfl) (hix:idxOk l 0=true:=by kernel_rfl)
 (hsz:iH ops t0.size=true:=by kernel_rfl):(Code.region id ops true).wp P Q ⟨t0,df⟩ w0:=by
 refine KY m (rvs l) J hst hJ0 hfix hm hok ht hmn _ rfl hsz hstep fun y w hb hR => ?_
 have h:=hend y w hb hR
 rw[Gz hd]
 have e:=qU (m:=m) (y:=y) (w:=w) l ops.toList 0 t0 hix (by omega) (by simp;omega) fun i hi=>by rw[Nat.zero_add];exact hR i (by omega)
 show wpList P ops Q rest ⟨lay (fun i=>decide (i<m)) y ops.toList 0 t0,df⟩ w
 have e2:=Option.some.inj (e.symm.trans (hf y))
 have e3:lay (fun i=>decide (i<m)) y ops.toList 0 t0=(tm y).toArray:=by rw[←e2]
 rw[e3]
 exact h
theorem JG {w:World} {m:Nat} {l:List RV} (hix:idxOk l 0=true) (hll:l.length=m) (hmn:m≤ops.size) (hR:∀i,i<m→rl (rvs l) i (y i) w) (hf:sG y l ops.toList t0.toList=some tm):lay (fun i=>decide (i<m)) y ops.toList 0 t0=tm.toArray:=by
 have e:=qU (m:=m) (y:=y) (w:=w) l ops.toList 0 t0 hix (by omega) (by simp;omega) fun i hi=>by rw[Nat.zero_add];exact hR i (by omega)
 have e2:=Option.some.inj (e.symm.trans hf)
 rw[←e2]
def BV {α:Type} (P:Program) (t:TypeId) (enc:α→List Value) (good:α→Prop):Prop:=
 ∀(H:Type) (e:TypeId × Value→H) (w:World) (base:Nat) (spare:Nat→Bool) (held:Bool) (fuel:Nat) (cs:List Value) (x:DataW H × List MemPlace),
  DataW.trod e P w base spare held fuel t cs=some x→∃a:α,cs=enc a∧good a
theorem vE (ht:P.underlying t=some (.int .i64)):BV P t (fun n:Int=>[.int .i64 n]) i64:=by
 intro H e w base spare held fuel cs x h
 obtain⟨n,rfl,_,hn⟩:=DataW.trod_int ht h
 exact⟨n,rfl,bounds_i64 hn⟩
theorem Lx (ht:P.underlying t=some (.int .u8)):BV P t (fun b:UInt8=>[wU b]) (fun _=>True):=by
 intro H e w base spare held fuel cs x h
 obtain⟨n,rfl,_,hn⟩:=DataW.trod_int ht h
 have hb:=bounds_u8 hn
 refine⟨UInt8.ofNat n.toNat,?_,trivial⟩
 simp[wU]
 omega
theorem open_list {α:Type} {enc:α→List Value} {good:α→Prop} (ht:P.underlying t=some (.slice e)) (ho:BV P e enc good) (hsz:∀x,(enc x).length=P.cellsOf e)
 {H:Type} {en:TypeId × Value→H} {w:World} {cs:List Value} {x:DataW H × List MemPlace} (h:DataW.trod en P w base spare held fuel t cs=some x) :
  ∃(a:Option Addr) (l:List α) (c:Nat),cs=[.slice a l.length c]∧l.length≤c∧c≤maxLen∧(a=none→c=0)∧dA w a (l.flatMap enc)∧∀y∈l,good y:=by
 rcases DataW.trod_slice ht h with ⟨rfl,_⟩|⟨a,len,cap,elems,rest,n,_,rfl,_,_,hle,hcap,hlen,hel,_⟩
 ·exact⟨none,[],0,rfl,Nat.le_refl _,Nat.zero_le _,fun _=>rfl,dA.nil,fun y hy=>(by cases hy)⟩
 ·have key:∀i,i<len→∃y:α,good y∧∀j u,(enc y)[j]?=some u→w.cell? ((a.add (i*P.cellsOf e)).add j)=some u:=by
   intro i hi
   have h1:=hel i hi
   rw[List.getElem?_eq_getElem (by omega)] at h1
   obtain⟨cs',h2,h3⟩:=Option.bind_eq_some_iff.1 h1
   obtain⟨y,rfl,hy⟩:=ho H en w base spare held n cs' _ h3
   refine⟨y,hy,fun j u hj => ?_⟩
   unfold World.cells? at h2
   split at h2
   ·have h4:=mapM_some_get h2 j j (by
     have:j<(enc y).length:=by
      rcases Nat.lt_or_ge j (enc y).length with h|h
      ·exact h
      ·simp[List.getElem?_eq_none h] at hj
     rw[hsz y] at this
     simp[this])
    rw[hj] at h4
    exact h4
   ·cases h2
  have hall:=wh good (fun i y => ∀j u,(enc y)[j]?=some u→w.cell? ((a.add (i*P.cellsOf e)).add j)=some u) len key
  obtain⟨l,rfl,hg,hr⟩:=hall
  refine⟨some a,l,cap,rfl,hle,hcap,fun e=>(Option.some_ne_none _ e).elim,?_,hg⟩
  by_cases hz:P.cellsOf e=0
  ·have:l.flatMap enc=[]:=by
    apply List.eq_nil_of_length_eq_zero
    rw[flat_len enc (P.cellsOf e) hsz l,hz,Nat.mul_zero]
   rw[this]
   exact dA.nil
  ·intro k u hk
   have hkl:k<l.length*P.cellsOf e:=by
    rw[←flat_len enc (P.cellsOf e) hsz l]
    rcases Nat.lt_or_ge k (l.flatMap enc).length with h|h
    ·exact h
    ·simp[List.getElem?_eq_none h] at hk
   have hi:k / P.cellsOf e<l.length:=Nat.div_lt_of_lt_mul (by rw[Nat.mul_comm];exact hkl)
   have hj:k%P.cellsOf e<P.cellsOf e:=Nat.mod_lt _ (Nat.pos_of_ne_zero hz)
   have hk' : k / P.cellsOf e*P.cellsOf e+k%P.cellsOf e=k:=by rw[Nat.mul_comm];exact Nat.div_add_mod k _
   have hget:(enc l[k / P.cellsOf e])[k%P.cellsOf e]?=some u:=by
    have h5:k%P.cellsOf e<(enc l[k / P.cellsOf e]).length:=by rw[hsz];exact hj
    have h6:=flat_get enc (P.cellsOf e) hsz l _ hi _ _ (List.getElem?_eq_getElem h5)
    rw[hk',hk] at h6
    rw[List.getElem?_eq_getElem h5,h6]
   have h7:=hr _ hi _ u hget
   have hspot:a.spot=none:=by
    by_cases h8:a.spot=none
    ·exact h8
    ·exfalso
     -- the first cell of all is read at the address itself
     have h0:0<l.length:=Nat.lt_of_le_of_lt (Nat.zero_le _) hi
     have h9:0<(enc l[0]).length:=by rw[hsz];omega
     have h10:=hr 0 h0 0 _ (List.getElem?_eq_getElem h9)
     simp only[Nat.zero_mul,Addr.add,if_true] at h10
     have:=World.cell?_spot h10
     exact h8 this
   obtain⟨b,off,sp⟩:=a
   subst hspot
   refine⟨b,off,rfl,?_⟩
   rw[Addr.add_lit,Addr.add_lit,Nat.add_assoc,hk'] at h7
   exact h7
open Go.ChangeShapes Go.WideShapes Go.ChangeAt
def rZ {α:Type} (P:Program) (t:TypeId) (enc:α→List Value) (good:World→α→Prop):Prop:=
 ∀(H:Type) (e:TypeId × Value→H) (w:World) (base:Nat) (spare:Nat→Bool) (held:Bool) (fuel:Nat) (cs:List Value) (x:DataW H × List MemPlace),
  DataW.trod e P w base spare held fuel t cs=some x→∃a:α,cs=enc a∧good w a
theorem BV.w {α:Type} {enc:α→List Value} {good:α→Prop} (h:BV P t enc good):rZ P t enc (fun _=>good):=h
def rz {α:Type} (P:Program) (fs:Array Field) (L k off:Nat) (enc:α→List Value) (good:World→α→Prop):Prop:=
 ∀(H:Type) (e:TypeId × Value→H) (w:World) (base:Nat) (spare:Nat→Bool) (held:Bool) (n:Nat) (cs:List Value) (xs:List (DataW H × List MemPlace)),cs.length=L→xs.length=fs.size →
  (∀(i:Nat) (f:Field),fs[i]?=some f→DataW.trod e P w base spare held n f.type ((cs.drop f.offset).take (P.cellsOf f.type))=xs[i]?)→∃a:α,cs.drop off=enc a∧good w a
theorem yZ {fs:Array Field} {L:Nat} (h:L=off):rz P fs L k off (fun _:Unit=>[]) (fun _ _=>True):=by
 intro H e w base spare held n cs xs hl _ _
 exact⟨(),by rw[List.drop_eq_nil_of_le (by omega)],trivial⟩
theorem mK {α β:Type} {fs:Array Field} {L:Nat} {f:Field} {enc:α→List Value} {good:World→α→Prop} {enc' : β→List Value} {good' : World→β→Prop} (hf:fs[k]?=some f) (off' : Nat) (ho:f.offset=off) (hn:off+P.cellsOf f.type=off') (h0:rZ P f.type enc good)
 (h1:rz P fs L (k+1) off' enc' good'):rz P fs L k off (fun x:α × β=>enc x.1++enc' x.2) (fun w x=>good w x.1∧good' w x.2):=by
 intro H e w base spare held n cs xs hl hx h
 subst hn
 obtain⟨b,hb,gb⟩:=h1 H e w base spare held n cs xs hl hx h
 have hk:k<xs.length:=by
  rw[hx]
  exact (Array.getElem?_eq_some_iff.1 hf).1
 have h2:=h k f hf
 rw[List.getElem?_eq_getElem hk,ho] at h2
 obtain⟨a,ha,ga⟩:=h0 H e w base spare held n _ _ h2
 refine⟨(a,b),?_,ga,gb⟩
 show _=enc a++enc' b
 rw[←ha,←hb,←List.drop_drop,List.take_append_drop]
theorem Bb {α:Type} {fs:Array Field} {enc:α→List Value} {good:World→α→Prop} (ht:P.underlying t=some (.struct fs)) (h:rz P fs (P.cellsOf t) 0 0 enc good):rZ P t enc good:=by
 intro H e w base spare held fuel cs x hx
 obtain⟨xs,n,_,_,hl,hn,hel⟩:=DataW.trod_struct ht hx
 exact h H e w base spare held n cs xs hl hn hel
theorem rZ.of {α β:Type} {enc:α→List Value} {good:World→α→Prop} {enc' : β→List Value} {good' : World→β→Prop} (h:rZ P t enc good) (g:α→β) (he:∀a,enc a=enc' (g a)) (hg:∀w a,good w a→good' w (g a)):rZ P t enc' good':=by
 intro H e w base spare held fuel cs x hx
 obtain⟨a,ha,ga⟩:=h H e w base spare held fuel cs x hx
 exact⟨g a,by rw[ha,he],hg w a ga⟩
end Pw
namespace Go.Proofs.YtjkkoeijlhfneaaGreat
open Go.ChangeShapes Go.WideShapes Go.ChangeAt Go.RowKit Go.Maps Pw
variable {B B' b cap g n n' off sz sz':Nat} {P:Program} {T T' e e':TypeId} {cs cs':Array Value} {v v':Value} {vs xs xs':List Value} {w w':World}
theorem jd (h:Own w B e sz v n xs) (g:Nat) (hg:v.ownBlock=some g):∃cs,aD w g cs e:=by
 rcases h.2 with ⟨rfl,_⟩|⟨g2,off,cap,cur,rfl,_,hb,_⟩
 ·cases hg
 ·cases hg
  exact⟨_,hb⟩
theorem iR (h:aD w b cs T) (ho:Own w B e sz v n xs) (hT:T≠e) (hg:w.grownBy w' v.ownBlock):aD w' b cs T:=
 h.grown hg (fun he=>own_ne ho h hT b he rfl)
theorem uf (h:Own w B e sz v n xs) (ho:Own w B' e' sz' v' n' xs') (hT:e'≠e) (hg:w.grownBy w' v'.ownBlock):Own w' B e sz v n xs:=
 h.grown hg (fun g hv he=>by
  obtain⟨cs,hk⟩:=jd ho g he
  exact own_ne h hk hT g hv rfl)
theorem qf (h:Own w B e sz v n xs) (hk:aD w g cs T) (hT:T≠e) (o:Nat) (u:Value):Own (w.setCell ⟨g,o,none⟩ u) B e sz v n xs:=
 ak h hk hT (aA w g o [u])
theorem aW (h:aD w b cs T) (hk:aD w g cs' T') (hT:T'≠T) (hgr:w.grownBy w' (some g)):aD w' b cs T:=
 h.grown hgr (fun he=>by
  cases he
  unfold aD at h hk
  rw[hk] at h
  simp only[Option.some.injEq,Obj.cells.injEq] at h
  exact hT h.2.1)
theorem jW (a b:Option Addr) (n c m e:Nat):(#[Value.slice a n c,Value.slice b m e]:Array Value).all (·.oneCell')=true:=by simp[Value.oneCell']
theorem lJ {α:Type} {enc:α→List Value} (hsz:∀x,(enc x).length=sz) (hp:0<sz) {l:List α} (hl:l.length=n) (h:Own w B e sz v n (l.flatMap enc)) (k:Nat) (hk:k<n) :
  ∃g off cap cur,v = .slice (some ⟨g,off,none⟩) n cap∧B≤g∧aD w g cur e∧off+k*sz+sz≤cur.size ∧
   ∀w' x,aD w' g (bq cur (off+k*sz) (enc x)) e→Own w' B e sz v n ((l.set k x).flatMap enc):=by
 subst hl
 obtain⟨g,off,cap,cur,h1,h2,h3,h4,_,h6⟩:=h.put hsz hp k hk
 exact⟨g,off,cap,cur,h1,h2,h3,h4,h6⟩
theorem pW {a b c:World} {row:Option Nat} (h:a.grownBy b row) (k:b.grownBy c row):a.grownBy c row:=
 World.grownBy.andThen h k (fun j hj => .inr hj)
theorem iV (h:Own w B e sz v n xs) (hg:w.grownBy w' none):Own w' B e sz v n xs:=h.grown hg (by simp)
theorem ou (w:World) (t e ty:TypeId) (z:Value) (sz bytes:Nat) (ht:P.underlying t=some (.slice e)) (hi:(P.info? e).map (fun i=>(i.zero,i.size,i.bytes))=some (some z,sz,bytes)) (h1:∀u∈z.cells.toList,u.oneCell' = true) (h0:0<z.cells.size)
 (b o n c:Nat) (hn:0<n) (cur:Array Value) (T:TypeId) (hg:aD w b cur T) (hfit:o+n*z.cells.size≤cur.size) :
  (Builtin.clear_ #[t] ty #[.slice (some ⟨b,o,none⟩) n c]).run P w = .ok (.tuple #[]) (w.setCells b o (Builtin.zeroCells z.cells n).toList):=by
 have hl:(Builtin.zeroCells z.cells n).toList.length=n*z.cells.size:=by simp[Builtin.zeroCells]
 have hst:=run_storeCells_cells (P:=P) b o (Builtin.zeroCells z.cells n).toList 0 w
  (fun j hj=>by rw[Nat.add_zero,hg.cell];simp[show o+j<cur.size by omega]) (fun j hj=>hg.free _)
  (fun v hv=>by
   simp only[Builtin.zeroCells,Array.toList_map,List.mem_map] at hv
   obtain⟨i,_,rfl⟩:=hv
   have:i%z.cells.size<z.cells.size:=Nat.mod_lt _ h0
   rw[getElem!_pos z.cells _ this]
   exact h1 _ (by simp))
 simp only[Nat.add_zero] at hst
 obtain⟨m,rfl⟩:∃m,n=m+1:=⟨n-1,by omega⟩
 have hv:∀w,(zeroValue e).run P w = .ok z w:=by
  intro w
  cases hq:P.info? e with
  | none=>simp[hq] at hi
  | some i=>
   have hz:i.zero=some z:=by simp[hq] at hi;exact hi.1
   simp[zeroValue,typeInfo,run_program,hq,hz]
 simp[Builtin.clear_,run_underlying ht,hv,hst]
theorem IG {α:Type} {enc:α→List Value} (hsz:∀x,(enc x).length=sz) {l:List α} (h:Own w B e sz (.slice (some ⟨g,off,none⟩) n cap) n (l.flatMap enc)) (i:Nat) (hl:l.length=n) (hi:i≤n)
 (hw:∀cur,aD w g cur e→aD w' g (bq cur (off+i*sz) vs) e):Own w' B e sz (.slice (some ⟨g,off,none⟩) (l.take i).length cap) (l.take i).length ((l.take i).flatMap enc):=by
 subst hl
 obtain⟨hl,h⟩:=h
 rcases h with ⟨h1,_⟩|⟨g',off',cap',cur,hv,hB,hg,hc,hm,hs,ht⟩
 ·cases h1
 ·cases hv
  have hlen:(l.take i).length=i:=by simp;omega
  refine⟨by rw[Pw.flat_len enc sz hsz],.inr ⟨g,off,cap,_,rfl,hB,hw cur hg,by omega,hm,by rw[size_putAt];exact hs,fun j u hj => ?_⟩⟩
  have hj' : j<i*sz:=by
   rcases Nat.lt_or_ge j (i*sz) with h|h
   ·exact h
   ·rw[List.getElem?_eq_none (by rw[Pw.flat_len enc sz hsz,hlen];exact h)] at hj
    cases hj
  rw[putAt_out _ _ _ _ (.inl (by omega))]
  refine ht j u ?_
  have hsplit:l.flatMap enc=(l.take i).flatMap enc++(l.drop i).flatMap enc:=by rw[←List.flatMap_append,List.take_append_drop]
  rw[hsplit,List.getElem?_append_left (by rw[Pw.flat_len enc sz hsz,hlen];exact hj')]
  exact hj
theorem qC {α:Type} {enc:α→List Value} (hsz:∀x,(enc x).length=sz) (hp:0<sz) {l:List α} (hl:l.length=n) (h:Own w B e sz v n (l.flatMap enc)) (k:Nat) (hk:k<n) (j:Nat) (hj:j<sz) (u:Value) (x:α)
 (hx:enc x=(enc (l[k]'(by omega))).set j u) :
  ∃g off cap,v = .slice (some ⟨g,off,none⟩) n cap∧B≤g∧g<w.heap.size∧(∃cs,aD w g cs e)∧(∀i y,(enc (l[k]'(by omega)))[i]?=some y→w.cell? ⟨g,off+k*sz+i,none⟩=some y)∧w.frozen? ⟨g,off+k*sz+j,none⟩=false ∧
   Own (w.setCell ⟨g,off+k*sz+j,none⟩ u) B e sz v n ((l.set k x).flatMap enc):=by
 subst hl
 obtain⟨g,off,cap,cur,h1,h2,h3,h4,h5,h6⟩:=h.put hsz hp k hk
 refine⟨g,off,cap,h1,h2,h3.lt,⟨_,h3⟩,h5,h3.free _,h6 _ x ?_⟩
 have he:bq cur (off+k*sz) (enc x)=cur.setIfInBounds (off+k*sz+j) u:=by
  apply Array.ext_getElem?
  intro i
  by_cases hi:off+k*sz≤i∧i<off+k*sz+sz
  ·obtain⟨m,rfl⟩:∃m,i=off+k*sz+m:=⟨i-(off+k*sz),by omega⟩
   have hm:m<(enc x).length:=by rw[hsz];omega
   rw[putAt_in _ _ _ m (enc x)[m] (by rw[hsz];omega) (List.getElem?_eq_getElem hm)]
   by_cases hmj:m=j
   ·subst hmj
    rw[Array.getElem?_setIfInBounds_self_of_lt (by omega)]
    simp[hx]
   ·rw[Array.getElem?_setIfInBounds_ne (by omega)]
    have hm' : m<(enc l[k]).length:=by rw[hsz];omega
    have:=h5 m (enc l[k])[m] (List.getElem?_eq_getElem hm')
    rw[h3.cell] at this
    rw[this]
    simp[hx,List.getElem_set_ne (fun e=>hmj e.symm)]
  ·rw[putAt_out _ _ _ _ (by rw[hsz];omega),Array.getElem?_setIfInBounds_ne (by omega)]
 rw[he]
 exact h3.setCell _ _
theorem Ot {o:Nat} (h:w.cell? ⟨b,o,none⟩=some v):b<w.heap.size:=by
 rcases Nat.lt_or_ge b w.heap.size with h1|h1
 ·exact h1
 ·simp[World.cell?,Array.getElem?_eq_none h1] at h
theorem Fu {H:Type} {k:TypeId} {R:Value→Option (DataW H × List MemPlace)} {D:DataW H} (h:w.ownsMap P k R b n D) (hb:Below w.heap.size w w'):w'.ownsMap P k R b n D:=by
 have hl:=h.lt
 obtain⟨es,clock,h1,r⟩:=h
 exact⟨es,clock,(hb.block b hl).trans h1,r⟩
end Go.Proofs.YtjkkoeijlhfneaaGreat