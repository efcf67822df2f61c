import Derived.WalkKit
import Derived.ProofKit
import Derived.SizedLaws
import Derived.Maps.Own
import Derived.WalkSpells
import Derived.WalkLawsBesides
set_option linter.unusedSimpArgs false
set_option linter.unusedVariables false
set_option linter.defProp false
set_option maxHeartbeats 4000000
set_option maxRecDepth 100000
namespace Pw
def az :=@Nat.le_refl
def aI :=@List.getElem?_eq_getElem
def aJ :=@Option.some.inj
def aV :=@List.getD_eq_getElem?_getD
def aW :=@Nat.zero_le
def aY :=@Nat.le_trans
def bv :=@List.mem_singleton
def bA :=@List.map_cons
def bB :=@List.map_nil
def bH :=@List.map_toArray
def bP :=@List.length_set
def bN :=@List.mem_of_getElem?
def bO :=@Go.IntWalk.i64_in
def bT :=@Array.getD_eq_getD_getElem?
def bU :=@List.mem_cons
def bX :=@Int.toNat_natCast
def dn :=@List.getElem?_eq_some_iff
def dG :=@List.mem_range
def dF :=@List.all_eq_true
def dJ :=@List.getElem?_eq_none
def dM :=@List.getElem_mem
def dU :=@Bool.and_eq_true
def dZ :=@Nat.zero_add
def eG :=@Nat.not_lt_zero
def eH :=@List.length_map
def fu :=@List.flatMap_append
def fG :=@Nat.lt_or_ge
def fP :=@List.mem_map
def fO :=@Int.eq_ofNat_of_zero_le
def fV :=@List.mem_append
def gu :=@Array.getElem?_setIfInBounds_ne
def gz :=@List.map_append
def fZ :=@List.not_mem_nil
def ik :=@List.mem_cons_self
def iw :=@List.append_assoc
def iB :=@Array.getElem?_eq_some_iff
def iJ :=@List.take_of_length_le
def iH :=@Nat.add_zero
def iO :=@Array.length_toList
def iU :=@List.getElem?_map
def je :=@List.any_eq_true
def jg :=@Option.some.injEq
def jv :=@List.mem_cons_of_mem
def jr :=@Array.all_toList
def jK :=@List.mem_iff_getElem
def jN :=@List.length_replicate
def jP :=@List.length_append
def jW :=@List.eq_nil_of_length_eq_zero
def jY :=@List.mem_flatMap
def jX :=@Go.Sem.run_bind
def kR :=@List.getElem?_set
def kK :=@List.length_take
def kT :=@List.getElem?_append_right
def kQ :=@List.append_nil
def kM :=@Nat.succ.inj
def lm :=@List.getElem?_append_left
def lh :=@Bool.true_and
def lF :=@Array.getElem?_eq_none
def mg :=@Bool.eq_iff_iff
def mf :=@List.take_add_one
def lU :=@List.ext_getElem?
def lX :=@List.flatMap_cons
def lY :=@List.getElem?_take
def lS :=@Bool.false_and
def mr :=@Array.ext_getElem?
def mD :=@Go.Lib.run_eql_slice_nil
def mi :=@Go.Value.slice.injEq
def lV :=@Bool.and_false
def mY :=@Nat.add_assoc
def nu :=@List.mem_or_eq_of_mem_set
def mV :=@Array.mem_toList_iff
def ou :=@List.countP_cons
def nW :=@Bool.and_true
def nJ :=@Go.Value.slice.inj
def pz :=@Ne.symm
def pK :=@List.find?_eq_none
def oK :=@List.getElem?_replicate
def oV :=@List.mem_append_left
def pG :=@List.length_cons
def oL :=@Option.getD_some
def qx :=@List.getElem?_cons_zero
def qA :=@List.drop_eq_nil_of_le
def qi :=@Nat.lt_of_lt_of_le
def rU :=@Vector.getElem_ofFn
def rX :=@List.getElem?_drop
def sj :=@Go.Result.andThen_ok
def rR :=@Go.Sem.run_pure
def rH :=@Array.getElem?_setIfInBounds_self_of_lt
def uf :=@List.ext_getElem
def tZ :=@List.any_eq_false
def uH :=@Nat.mod_eq_of_lt
def ug :=@Classical.not_not
def uu :=@List.mem_of_find?_eq_some
def uB :=@List.mem_append_right
def uG :=@Bool.or_eq_true
def uh :=@Nat.sub_self
def uo :=@Nat.add_mul
def uF :=@Array.getElem?_toList
def uk :=@Nat.mul_le_mul_right
def qX :=@List.filter_append
def qR :=@Nat.mod_lt
def qY :=@Option.map_some
def qN :=@List.take_append_drop
def qM :=@List.find?_some
def qO :=@List.set_cons_zero
def qH :=@Nat.le_of_lt
def qI :=@Nat.mul_one
def qV :=@Array.getElem?_replicate
def tY :=@List.getElem?_set_ne
def sW :=@List.nodup_cons
def tQ :=@Int.le_refl
def sQ :=@List.getElem?_range
def tJ :=@List.set_getElem_self
def sP :=@List.countP_map
def tF :=@List.pairwise_cons
def sS :=@Nat.eq_zero_or_pos
def tH :=@List.countP_le_length
def sO :=@Go.Addr.add_lit
def tO :=@Go.Obj.cells.injEq
def vK :=@Bool.false_eq_true
def vW :=@List.findIdx?_eq_some_iff_getElem
def vw :=@List.getElem?_set_self
def vG :=@List.drop_eq_getElem_cons
def ww :=@List.map_congr_left
def vE :=@List.set_cons_succ
def vQ :=@List.getElem_map
def wC :=@Nat.lt_or_gt_of_ne
def vX :=@Classical.byContradiction
def vJ :=@Go.Addr.mk.injEq
def vV :=@List.getElem?_toArray
def xM :=@List.countP_pos_iff
def xR :=@List.range_succ
def yt :=@Vector.ext
def xY :=@Vector.getElem_set_ne
def xU :=@List.nodup_append
def yj :=@List.take_length
def xP :=@Int.toNat_of_nonneg
def xE :=@Bool.not_eq_true'
def xL :=@List.countP_eq_zero
def xO :=@Nat.zero_mul
def xG :=@Go.Calls.mono
def xV :=@Nat.mul_comm
def xQ :=@Nat.min_eq_left
def yn :=@List.getElem?_cons_succ
def yc :=@Nat.le_succ
def Ad :=@List.findIdx?_eq_none_iff
def Ba :=@List.length_filter_le
def zJ :=@Bool.or_eq_false_iff
def Ah :=@List.foldl_cons
def zW :=@List.findIdx?_cons
def zC :=@List.getElem_cons_zero
def zS :=@List.sum_cons
def Ai :=@List.pairwise_iff_getElem
def AU :=@List.getElem_set_ne
def AO :=@Nat.add_sub_cancel_left
def zK :=@List.length_nil
def Ap :=@Array.getElem?_eq_getElem
def zH :=@Array.mem_of_getElem?
def zI :=@Option.bind_some
def Au :=@Nat.one_mul
def Aw :=@List.drop_succ_cons
def Al :=@List.drop_nil
def Bb :=@Array.getElem?_setIfInBounds
def AJ :=@List.length_eraseIdx_of_lt
def Aa :=@Array.size_push
def CJ :=@Array.toList_setIfInBounds
def Dn :=@List.getElem_cons_succ
def CY :=@List.foldl_append
def CQ :=@List.getElem_set
def CV :=@Nat.add_mod_right
def CS :=@List.getLast?_concat
def CL :=@List.length_singleton
def Dp :=@List.mem_replicate
def CZ :=@List.map_set
def Di :=@Bool.not_or
def Da :=@List.mem_map_of_mem
def Dr :=@List.countP_append
def CK :=@List.length_range
def Dt :=@Nat.le_of_eq
def Dh :=@Nat.succ_mul
def CU :=@List.setIfInBounds_toArray
def De :=@List.drop_zero
def CX :=@List.flatMap_map
def Dc :=@Nat.not_lt
def Dj :=@Go.Value.agg.injEq
def IE :=@List.find?_range_eq_some
def IV :=@List.filter_cons
def IP :=@List.cons_append
def IU :=@Option.map_none
def Iz :=@Bool.and_eq_false_iff
def Ik :=@List.mem_filter
def Il :=@List.set_set
def Io :=@List.countP_eq_length_filter
def Ih :=@List.countP_filter
def Ir :=@Function.comp_apply
def JA :=@List.getElem_range
def Jk :=@Bool.eq_false_iff
def Ie :=@List.insertIdx_succ_cons
def JI :=@List.mem_insertIdx
def Iw :=@Nat.add_comm
def Jb :=@Go.World.grownBy.refl
def JC :=@Go.World.ownsRow_nil
def IX :=@List.map_map
def Jn :=@List.mem_filterMap
def Ii :=@List.nil_append
def IQ :=@List.getElem_set_self
def Iy :=@Int.natCast_emod
def Jo :=@Bool.or_true
def IR :=@List.take_zero
def Ji :=@List.flatMap_nil
def Ic :=@UInt8.toNat_ofNat'
open Go Go.RowKit
abbrev Page:=Vector UInt8 8
theorem Sa (p q:Page):(p==q)=((p[0]==q[0])&&(p[1]==q[1])&&(p[2]==q[2])&&(p[3]==q[3])&&(p[4]==q[4])&&(p[5]==q[5])&&(p[6]==q[6])&&(p[7]==q[7])):=by
 rw[mg];simp only[beq_iff_eq,dU];constructor
 ·rintro rfl;simp
 rintro⟨⟨⟨⟨⟨⟨⟨h0,h1⟩,h2⟩,h3⟩,h4⟩,h5⟩,h6⟩,h7⟩
 ext i hi
 match i,hi with
 | 0,_=>rw[h0]
 | 1,_=>rw[h1]
 | 2,_=>rw[h2]
 | 3,_=>rw[h3]
 | 4,_=>rw[h4]
 | 5,_=>rw[h5]
 | 6,_=>rw[h6]
 | 7,_=>rw[h7]
 | n+8,h=>omega
theorem VK (a b:UInt8):((a.toNat:Int)==(b.toNat:Int))=(a==b):=by
 rw[mg];simp only[beq_iff_eq,Int.natCast_inj,UInt8.toNat_inj]
def iX (p:Page) (a:Int) (k:Nat):Page:=Vector.ofFn fun i:Fin 8=>if a≤(i.val:Int)∧i.val<k then 0 else p[i.val]
def fJ (p:Page) (a:Int):Page:=Vector.ofFn fun i:Fin 8=>if a≤(i.val:Int) then 0 else p[i.val]
theorem Bu (p:Page) (a:Int) (k:Nat) (h:8≤k):iX p a k=fJ p a:=by
 ext i hi
 simp only[iX,fJ,rU];have hk:i<k:=by omega
 simp[hk]
theorem BI (p:Page) (a:Int) (k:Nat) (h:k<8) (ha:a≤k):(iX p a k).set k 0=iX p a (k+1):=by
 ext i hi
 simp only[iX,rU,Vector.getElem_set]
 by_cases e:k=i
 ·subst e;simp[ha]
 simp only[e,if_false]
 by_cases c:a≤(i:Int)∧i<k
 ·rw[if_pos c,if_pos ⟨c.1,by omega⟩]
 ·rw[if_neg c,if_neg (by omega)]
def bY (L:Nat→Bool) (i:Nat):Nat→Bool:=fun k=>if k=i then true else L k
def wr {α:Type}:List α→Option (List α)
 | []=>some []
 | a::r=>some (a::r)
theorem Lr {α:Type} {a b:List α} (h:wr a=some b):a=b:=by cases a<;>cases h<;>rfl
def i64 (n:Int):Prop:=-9223372036854775808≤n∧n≤9223372036854775807
theorem Cg {α:Type} (good:α→Prop) (R:Nat→α→Prop):∀(len:Nat),(∀i,i<len→∃y:α,good y∧R i y)→∃l:List α,l.length=len∧(∀y∈l,good y)∧∀i (hi:i<l.length),R i l[i]
 | 0,_=>⟨[],rfl,fun y hy=>(by cases hy),fun i hi=>absurd hi (eG _)⟩
 | len+1,key=>by
  obtain⟨l,hl,hg,hr⟩:=Cg good R len (fun i hi=>key i (by omega));obtain⟨y,hy,hyr⟩:=key len (by omega);refine⟨l++[y],by simp[hl],?_,?_⟩
  ·intro z hz;rcases fV.1 hz with hz|hz
   ·exact hg z hz
   ·rw[bv.1 hz];exact hy
  intro i hi
  by_cases hil:i<l.length
  ·rw[List.getElem_append_left hil];exact hr i hil
  have hi' : i=len:=by simp at hi;omega
  subst hi';rw[List.getElem_append_right (by omega)];simpa[hl] using hyr
end Pw
namespace Go.Proofs.YtjkkoeijlhfneaaGreat
open Go.ChangeShapes Go.WideShapes Go.ChangeAt Go.RowKit Go.Maps Pw
variable {k n:Nat}
theorem lN {P:∀i,i<n→Prop} (hp:∀i (h:i<n),i<k→P i h) (hlt:k<n) (hk:P k hlt):∀i (h:i<n),i<k+1→P i h:=by
 intro i h hi
 by_cases e:i=k
 ·subst e;exact hk
 ·exact hp i h (by omega)
theorem WV {α:Type} {l m:List α} (k:Nat) (h:k<l.length) (h' : k<m.length) (hne:l[k]≠m[k]):l≠m:=by rintro rfl;exact hne rfl
theorem Wj {α:Type} {l m:List α} (hl:l.length=m.length) (k:Nat) (hk:¬k<l.length) (h:∀i (h:i<l.length),i<k→l[i]=m[i]'(by omega)):l=m:=
 uf hl fun i h1 h2=>h i h1 (by omega)
theorem Xc {α:Type} {l m:List α} (hl:l.length=m.length) (hk:k<l.length) (h:∀i (h:i<l.length),i<k→l[i]=m[i]'(by omega)) (he:l[k]=m[k]'(by omega)):∀i (h:i<l.length),i<k+1→l[i]=m[i]'(by omega):=by
 intro i h1 h2
 by_cases e:i=k
 ·subst e;exact he
 ·exact h i h1 (by omega)
end Go.Proofs.YtjkkoeijlhfneaaGreat
namespace Pw
open Go Go.RowKit
variable {fuel i q:Nat} {l:List Int}
theorem yz {listed:Array Bool} (hi:i<listed.size) (q:Nat) (hq:listed.getD q false=true):(listed.setIfInBounds i true).getD q false=true:=by
 by_cases hqi:q=i
 ·subst hqi;simp[bT,hi]
 ·simpa[bT,gu (pz hqi)] using hq
theorem rA {listed:Array Bool} (h:q≠i):(listed.setIfInBounds i true).getD q false=listed.getD q false:=by
 simp[bT,gu (pz h)]
theorem JN {listed:Array Bool} (hi:i<listed.size):(listed.setIfInBounds i true).getD i false=true:=by
 simp[bT,hi]
theorem Fw {listed:Array Bool} (hi:i<listed.size) (h1:listed.getD i true=false) (hc:listed.toList.countP (!·)≤fuel+1):(listed.setIfInBounds i true).toList.countP (!·)≤fuel:=by
 have c:i<listed.toList.length:=by simp;omega
 have b:listed.toList[i]=false:=by simpa[bT,hi] using h1
 have:=List.countP_set (p:=(!·)) (l:=listed.toList) (i:=i) (a:=true) c;rw[b] at this;have d:0<listed.toList.countP (!·):=xM.2 ⟨listed.toList[i],dM c,by rw[b];rfl⟩;simp only[CJ];simp only[Bool.not_false,Bool.not_true,if_true,vK,if_false] at this;omega
open Go.ChangeShapes Go.WideShapes Go.ChangeAt
def firstE:List Int→Int
 | []=>0
 | x::r=>if x=0 then firstE r else x
theorem tX (h:∀i (hi:i<l.length),l[i]=0):firstE l=0:=by
 induction l with
 | nil=>rfl
 | cons x r ih=>
  have h0:=h 0 (by simp);simp at h0;simp only[firstE,h0,if_true];exact ih fun i hi=>by have:=h (i+1) (by simpa using hi);simpa using this
theorem xX (k:Nat) (hk:k<l.length) (h:∀i (hi:i<l.length),i<k→l[i]=0) (hne:l[k]≠0):firstE l=l[k]:=by
 induction l generalizing k with
 | nil=>simp at hk
 | cons x r ih=>
  cases k with
  | zero=>simp at hne;simp[firstE,hne]
  | succ k=>
   have h0:=h 0 (by simp) (by omega);simp at h0;simp only[firstE,h0,if_true,Dn];exact ih k (by simpa using hk) (fun i hi a=>by have:=h (i+1) (by simpa using hi) (by omega);simpa using this) (by simpa using hne)
theorem filter_all {α:Type} (p q:α→Bool) (l:List α):(l.filter p).all (fun e => !p e||q e)=l.all (fun e => !p e||q e):=by
 induction l with
 | nil=>rfl
 | cons x l ih=>
  cases hp:p x
  ·rw[List.filter_cons_of_neg (by simp[hp]),ih];simp[hp]
  ·rw[List.filter_cons_of_pos (by simp[hp])];simp[hp,ih]
end Pw
namespace Go.Proofs.YtjkkoeijlhfneaaGreat
open Go.RowKit Pw
variable {I K b c f g i j k n p q r s:Nat} {kd lo:Int} {l:List Int}
def idx {α:Type} (f:α→Bool) (l:List α):Int:=match l.findIdx? f with
 | some k=>k
 | none => -1
theorem uw {α:Type} (f:α→Bool) (l:List α) (k:Nat) (h:k<l.length) (hp:∀i (h:i<l.length),i<k→f l[i]=false) (hk:f l[k]=true):idx f l=k:=by
 unfold idx;rw[vW.2 ⟨h,hk,fun j hj=>by simpa using hp j (by omega) hj⟩]
theorem lG {α:Type} (f:α→Bool) (l:List α) (hp:∀i (h:i<l.length),f l[i]=false):idx f l = -1:=by
 unfold idx;rw[Ad.2 fun x hx=>by obtain⟨i,hi,rfl⟩:=jK.1 hx;exact hp i hi]
theorem Bt {α:Type} (f:α→Bool) (l:List α):(idx f l = -1∧∀i (h:i<l.length),f l[i]=false)∨∃k:Nat,∃h:k<l.length,idx f l=k∧f l[k]=true∧∀i (h:i<l.length),i<k→f l[i]=false:=by
 unfold idx;cases e:l.findIdx? f with
 | none=>exact .inl ⟨rfl,fun i h=>Ad.1 e _ (dM h)⟩
 | some k=>
  obtain⟨h,hk,hp⟩:=vW.1 e;exact .inr ⟨k,h,rfl,hk,fun i _ hi=>by simpa using hp i hi⟩
theorem nO {α:Type} (f:α→Bool) (l:List α):decide (0≤idx f l)=l.any f:=by
 rcases Bt f l with ⟨e,h⟩|⟨k,hk,e,h,_⟩
 ·rw[e];symm;simp only[show decide ((0:Int)≤-1)=false from rfl,tZ];intro x hx;obtain⟨i,hi,rfl⟩:=jK.1 hx;simpa using h i hi
 rw[e];symm;simp only[show decide ((0:Int)≤(k:Int))=true from by simp,je];exact⟨_,dM hk,h⟩
theorem upto {P:∀i,i<n→Prop} (hp:∀i (h:i<n),i<k→P i h) (hlt:k<n) (hk:P k hlt):∀i (h:i<n),i<k+1→P i h:=by
 intro i h hi
 by_cases e:i=k
 ·subst e;exact hk
 ·exact hp i h (by omega)
open Go.Maps
structure WB (D:DataW Unit) (f:Int→Bool):Prop where
 is:IsMap D
 at_:∀j:Int,D.atKey (.int .i64 j) (.lit (.bool false)) = .lit (.bool (f j))
theorem WB.empty:WB (.map []) (fun _=>false):=⟨isMap_empty,fun j=>rfl⟩
theorem WB.put {D:DataW Unit} {f:Int→Bool} (h:WB D f) (k:Int):WB (D.put (.int .i64 k) (.lit (.bool true))) (fun j=>f j||decide (j=k)):=by
 refine⟨h.is.put _ _,fun j => ?_⟩
 by_cases e:j=k
 ·subst e;rw[atKey_put_same h.is (by trivial)];simp
 rw[atKey_put_other (by intro e2;exact e (by cases e2;rfl)),h.at_ j];simp[e]
def dW (n:Int):Int:=if n≤0 then 0 else (n-1) / 8+1
def qL (n:Int):Bool:=decide (n<0)||decide (1000<n)
def dx (l:List Int):Int:=if 60<l.length then 4 else if l.any qL then 3 else 0
def JK (n:Int):Bool:=n==0
def Ct (n:Int):List Int:=if 0≤n∧n≤60 then List.replicate n.toNat 0 else []
def Im (n:Int):Int:=if 0≤n∧n≤60 then 0 else 4
theorem TD (l:List Int) (k:Nat) (hk:k<l.length) (h0:dx l=0):0≤l[k]∧l[k]≤1000:=by
 unfold dx at h0;split at h0
 ·omega
 split at h0
 ·omega
 rename_i h;have h1:qL l[k]=false:=by have:=tZ.1 (by simpa using h) _ (dM hk);simpa using this
 simp[qL] at h1;exact h1
theorem jf (h:dx l=0):l.length≤60:=by
 unfold dx at h;split at h
 ·omega
 ·omega
def iy (l:List Int) (n:Int):Int:=if dx l≠0 then dx l else if n<1∨1000<n then 3 else if idx JK l<0 then 10 else 0
def jM (l:List Int) (n:Int):Int:=if iy l n=0 then idx JK l else 0
def lL (l:List Int) (n:Int):List Int:=if iy l n=0 then l.set (idx JK l).toNat n else []
theorem MG (n:Int) (h:dx l≠0):iy l n=dx l∧jM l n=0∧lL l n=[]:=by
 have:iy l n=dx l:=by unfold iy;rw[if_pos h]
 exact⟨this,by unfold jM;rw[this,if_neg h],by unfold lL;rw[this,if_neg h]⟩
theorem MO {n:Int} (h0:dx l=0) (h:n<1∨1000<n):iy l n=3∧jM l n=0∧lL l n=[]:=by
 have:iy l n=3:=by unfold iy;rw[if_neg (by omega),if_pos h]
 exact⟨this,by unfold jM;rw[this];rfl,by unfold lL;rw[this];rfl⟩
theorem LM {n:Int} (h0:dx l=0) (h:1≤n∧n≤1000) (hf:idx JK l = -1):iy l n=10∧jM l n=0∧lL l n=[]:=by
 have:iy l n=10:=by unfold iy;rw[if_neg (by omega),if_neg (by omega),if_pos (by omega)]
 exact⟨this,by unfold jM;rw[this];rfl,by unfold lL;rw[this];rfl⟩
theorem Qt {n:Int} (h0:dx l=0) (h:1≤n∧n≤1000) (hf:idx JK l=k):iy l n=0∧jM l n=k∧lL l n=l.set k n:=by
 have:iy l n=0:=by unfold iy;rw[if_neg (by omega),if_neg (by omega),if_neg (by omega)]
 exact⟨this,by unfold jM;rw[this,if_pos rfl,hf],by unfold lL;rw[this,if_pos rfl,hf];rfl⟩
def IZ (l:List Int) (k:Int):Int:=l.getD k.toNat 0
def gK (l:List Int) (k n:Int):Int:=if dx l≠0 then dx l else if k<0∨l.length≤k∨IZ l k=0 then 5 else if n < -IZ l k∨1000-IZ l k<n then 3 else 0
def gM (l:List Int) (k n:Int):List Int:=if gK l k n=0 then l.set k.toNat (IZ l k+n) else []
theorem Nl (k n:Int) (h:dx l≠0):gK l k n=dx l∧gM l k n=[]:=by
 have:gK l k n=dx l:=by unfold gK;rw[if_pos h]
 exact⟨this,by unfold gM;rw[this,if_neg h]⟩
theorem Gt {k n:Int} (h0:dx l=0) (h:k<0∨l.length≤k∨IZ l k=0):gK l k n=5∧gM l k n=[]:=by
 have:gK l k n=5:=by unfold gK;rw[if_neg (by omega),if_pos h]
 exact⟨this,by unfold gM;rw[this];rfl⟩
theorem Nc {k n:Int} (h0:dx l=0) (h:¬(k<0∨l.length≤k∨IZ l k=0)) (hr:n < -IZ l k∨1000-IZ l k<n):gK l k n=3∧gM l k n=[]:=by
 have:gK l k n=3:=by unfold gK;rw[if_neg (by omega),if_neg h,if_pos hr]
 exact⟨this,by unfold gM;rw[this];rfl⟩
theorem PH {k n:Int} (h0:dx l=0) (h:¬(k<0∨l.length≤k∨IZ l k=0)) (hr:¬(n < -IZ l k∨1000-IZ l k<n)):gK l k n=0∧gM l k n=l.set k.toNat (IZ l k+n):=by
 have:gK l k n=0:=by unfold gK;rw[if_neg (by omega),if_neg h,if_neg hr]
 exact⟨this,by unfold gM;rw[this,if_pos rfl]⟩
theorem UI (h:k<l.length):IZ l k=l[k]:=by simp[IZ,h]
structure oD where
 blocks:List Page
 queue:List (Int × Page)
def zPg:Page:=#v[0,0,0,0,0,0,0,0]
def wL (n:Nat) (q:Int × Page):Bool:=decide (q.1<0)||decide ((n:Int)≤q.1)
def bi (d:oD):Int:=if 80<d.blocks.length∨400<d.queue.length then 4 else if d.queue.any (wL d.blocks.length) then 3 else 0
def aN (d:oD) (at_:Int):Int:=if bi d≠0 then bi d else if at_<0∨d.blocks.length≤at_ then 3 else 0
def over (k:Int) (p:Page) (q:List (Int × Page)):Page:=q.foldl (fun p x=>if x.1=k then x.2 else p) p
theorem BD (k:Int) (p:Page) (q:List (Int × Page)) (x:Int × Page):over k p (q++[x])=if x.1=k then x.2 else over k p q:=by simp[over,CY]
theorem Hl (k:Int) (p:Page) (q:List (Int × Page)) (i:Nat) (h:i<q.length):over k p (q.take (i+1))=if q[i].1=k then q[i].2 else over k p (q.take i):=by
 rw[mf,aI h,Option.toList,BD]
def jc (d:oD) (k:Int):Page:=if aN d k=0 then over k (d.blocks.getD k.toNat zPg) d.queue else zPg
def jb (d:oD) (x:Int × Page):oD:=
 match d.queue with
 | []=>⟨d.blocks,[x]⟩
 | q::r=>if (q::r).length=400 then ⟨d.blocks.set q.1.toNat q.2,r++[x]⟩ else ⟨d.blocks,(q::r)++[x]⟩
theorem Pv (d:oD) (x:Int × Page) (h:d.queue.length≠400):jb d x=⟨d.blocks,d.queue++[x]⟩:=by
 unfold jb;split
 ·rename_i e;rw[e];rfl
 ·rename_i q r e;rw[e] at h;rw[if_neg h,e]
theorem QH (d:oD) (x:Int × Page) (h:d.queue.length=400):jb d x=⟨d.blocks.set (d.queue[0]'(by omega)).1.toNat (d.queue[0]'(by omega)).2,d.queue.drop 1++[x]⟩:=by
 obtain⟨B,Q⟩:=d;unfold jb;cases Q with
 | nil=>simp at h
 | cons q r=>simp only[if_pos h];rfl
def dE (d:oD) (k:Int) (p:Page):oD:=if aN d k=0 then jb d (k,p) else ⟨[],[]⟩
theorem yh {d:oD} (h:bi d=0):d.blocks.length≤80∧d.queue.length≤400:=by
 unfold bi at h;split at h
 ·omega
 ·omega
theorem xN {d:oD} (h:bi d=0) (i:Nat) (hi:i<d.queue.length):0≤d.queue[i].1∧d.queue[i].1<d.blocks.length:=by
 unfold bi at h;split at h
 ·omega
 split at h
 ·omega
 rename_i h1;have:=tZ.1 (by simpa using h1) _ (dM hi);simp[wL] at this;omega
def nP (b:Int) (i:Nat):Bool:=Go.bits BinOp.and IntKind.i64 (b / 2 ^ (i%60)) 1==1
def qy (n:Int):oD:=if 0≤n∧n≤80 then ⟨List.replicate n.toNat zPg,[]⟩ else ⟨[],[]⟩
def Oa (n:Int):Int:=if 0≤n∧n≤80 then 0 else 4
def jE (f:Nat→Bool) (B:List Page) (Q:List (Int × Page)):Nat→List Page
 | 0=>B
 | k+1=>match Q[k]? with
  | some q=>if f k then (jE f B Q k).set q.1.toNat q.2 else jE f B Q k
  | none=>jE f B Q k
theorem kI (f:Nat→Bool) (B:List Page) (Q:List (Int × Page)) (k:Nat):(jE f B Q k).length=B.length:=by
 induction k with
 | zero=>rfl
 | succ k ih=>
  unfold jE;split
  ·split
   ·rw[bP,ih]
   ·exact ih
  ·exact ih
theorem xS {f:Nat→Bool} {B:List Page} {Q:List (Int × Page)} (h:k<Q.length) (hf:f k=true):jE f B Q (k+1)=(jE f B Q k).set Q[k].1.toNat Q[k].2:=by
 rw[jE,aI h];simp[hf]
theorem BG {f:Nat→Bool} {B:List Page} {Q:List (Int × Page)} (h:k<Q.length) (hf:f k=false):jE f B Q (k+1)=jE f B Q k:=by
 rw[jE,aI h];simp[hf]
def lc (f:Nat→Bool) (d:oD):oD:=if bi d=0 then ⟨jE f d.blocks d.queue d.queue.length,[]⟩ else ⟨[],[]⟩
theorem QE (k:Int) (p:Page) (q:Int × Page) (r:List (Int × Page)):over k p (q::r)=over k (if q.1=k then q.2 else p) r:=rfl
theorem gD (d:oD):bi d=0↔d.blocks.length≤80∧d.queue.length≤400∧∀x∈d.queue,0≤x.1∧x.1<d.blocks.length:=by
 unfold bi;constructor
 ·intro h;split at h
  ·omega
  split at h
  ·omega
  rename_i h1 h2;refine⟨by omega,by omega,fun x hx => ?_⟩;have:=tZ.1 (by simpa using h2) x hx;simp[wL] at this;omega
 rintro⟨h1,h2,h3⟩;rw[if_neg (by omega),if_neg];simp only[je,not_exists,not_and];intro x hx;have:=h3 x hx;simp[wL];omega
theorem nC {d:oD} {k:Int}:aN d k=0↔bi d=0∧0≤k∧k<d.blocks.length:=by
 unfold aN;constructor
 ·intro h;split at h
  ·omega
  split at h
  ·omega
  ·omega
 rintro⟨h1,h2,h3⟩;rw[if_neg (by omega),if_neg (by omega)]
theorem xe (d:oD) (x:Int × Page):(jb d x).blocks.length=d.blocks.length:=by
 unfold jb;split
 ·rfl
 split
 ·simp
 ·rfl
theorem zm {d:oD} {x:Int × Page} (h:bi d=0) (h0:0≤x.1) (h1:x.1<d.blocks.length):bi (jb d x)=0:=by
 obtain⟨h2,h3,h4⟩:=(gD d).1 h;rw[gD,xe];refine⟨h2,?_,?_⟩
 ·unfold jb;split
  ·simp
  rename_i q r e;rw[e] at h3;split
  ·rename_i e4;simp at e4 ⊢; omega
  ·rename_i e4;simp at e4 h3 ⊢; omega
 intro y hy;have:y=x∨y∈d.queue:=by
  unfold jb at hy;split at hy
  ·simp at hy;exact .inl hy
  rename_i q r e;rw[e];split at hy
  ·simp at hy ⊢; rcases hy with h | h
   ·exact .inr (.inr h)
   ·exact .inl h
  simp at hy ⊢; rcases hy with h | h | h
  ·exact .inr (.inl h)
  ·exact .inr (.inr h)
  ·exact .inl h
 rcases this with rfl|h
 ·exact⟨h0,h1⟩
 ·exact h4 y h
theorem PE (d:oD) (x:Int × Page) (o:Int) (hq:∀y∈d.queue,0≤y.1∧y.1<d.blocks.length) (ho:0≤o) (ho' : o<d.blocks.length) :
  over o ((jb d x).blocks.getD o.toNat zPg) (jb d x).queue=if x.1=o then x.2 else over o (d.blocks.getD o.toNat zPg) d.queue:=by
 unfold jb;split
 ·rename_i e;rw[e];rfl
 rename_i q r e;split
 ·have a:=hq q (by rw[e];exact ik ..);rw[BD];congr 1;rw[e,QE];congr 1;simp only[aV,kR]
  by_cases hqo:q.1=o
  ·rw[if_pos hqo,if_pos (by rw[hqo]),if_pos (by rw[hqo];omega)];rfl
  ·rw[if_neg hqo,if_neg (by omega)]
 ·rw[e,BD]
theorem JD {d:oD} {x:Int × Page} (h:bi d=0) (h0:0≤x.1) (h1:x.1<d.blocks.length) (o:Int):aN (jb d x) o=aN d o:=by
 unfold aN;rw[zm h h0 h1,h,xe]
theorem xD {d:oD} {x:Int × Page} (h:bi d=0) (h0:0≤x.1) (h1:x.1<d.blocks.length) (o:Int):jc (jb d x) o=if aN d o=0∧x.1=o then x.2 else jc d o:=by
 unfold jc;rw[JD h h0 h1]
 by_cases ho:aN d o=0
 ·obtain⟨_,g0,g1⟩:=nC.1 ho;rw[if_pos ho,if_pos ho,PE d x o ((gD d).1 h).2.2 g0 g1];simp[ho]
 ·rw[if_neg ho,if_neg ho,if_neg (fun h=>ho h.1)]
def d3:oD:=⟨[zPg,zPg,zPg],[]⟩
structure Fr where
 p:Page
 r:Int
 u:Bool
 d:Bool
 f:Int
 i:Int
 deriving DecidableEq
def DJ (f:Fr):Bool:=decide (f.r<0)||decide (1000<f.r)||decide (f.f < -1)||decide (5≤f.f)||decide (f.i<0)||decide (12≤f.i)
def Hf (f:Fr):Bool:=decide (f.r=0)&&(f.u||f.d||decide (0≤f.f)||f.p != zPg)
def BS (f:Fr):Bool:=decide (f.f<0)&&decide (f.i≠0)
def dR (f:Fr):Int:=if DJ f=true then 3 else if Hf f=true∨BS f=true then 7 else 0
structure Mem where
 fs:List Fr
 hand:Int
 deriving DecidableEq
def firstEf:List Fr→Int
 | []=>0
 | f::r=>if dR f≠0 then dR f else firstEf r
theorem firstEf_at:∀(l:List Fr) (k:Nat) (hk:k<l.length),(∀i (h:i<l.length),i<k→dR l[i]=0)→dR l[k]≠0→firstEf l=dR l[k]
 | f::r,0,_,_,h=>by unfold firstEf;exact if_pos h
 | f::r,k+1,hk,hp,h=>by unfold firstEf;rw[if_neg (fun hh=>hh (hp 0 (by simp) (by omega)))];exact firstEf_at r k (by simpa using hk) (fun i hi hik=>hp (i+1) (by simpa using hi) (by omega)) h
theorem firstEf_none:∀(l:List Fr),(∀i (h:i<l.length),dR l[i]=0)→firstEf l=0
 | [],_=>rfl
 | f::r,hp=>by unfold firstEf;rw[if_neg (fun hh=>hh (hp 0 (by simp)))];exact firstEf_none r (fun i hi=>hp (i+1) (by simpa using hi))
def bR (m:Mem):Int:=if 40<m.fs.length then 4 else if firstEf m.fs≠0 then firstEf m.fs else if m.hand<0∨(0<m.hand∧(m.fs.length:Int)≤m.hand) then 3 else 0
def mJ (l:List Fr):Nat:=(l.filter (fun f=>decide (f.r=0))).length
theorem Me (l:List Fr) (k:Nat) (hk:k<l.length):mJ (l.take (k+1))=if l[k].r=0 then mJ (l.take k)+1 else mJ (l.take k):=by
 unfold mJ;rw[mf,aI hk,Option.toList,qX]
 by_cases h:l[k].r=0<;>simp[h]
theorem EH (l:List Fr):mJ l≤l.length:=Ba _ _
def fr0:Fr:=⟨zPg,0,false,false,0,0⟩
def frZ:Fr:=⟨zPg,0,false,false,-1,0⟩
def zu (n:Int):Mem:=if 0≤n∧n≤40 then ⟨List.replicate n.toNat frZ,0⟩ else ⟨[],0⟩
def OD (n:Int):Int:=if 0≤n∧n≤40 then 0 else 4
def noM:Mem:=⟨[],0⟩
theorem firstEf_all:∀(l:List Fr),firstEf l=0→∀f∈l,dR f=0
 | [],_,_,h=>by cases h
 | g::r,h,f,hf=>by
  unfold firstEf at h
  by_cases hg:dR g=0
  ·rw[if_neg (fun e=>e hg)] at h;rcases bU.1 hf with rfl|hf
   ·exact hg
   ·exact firstEf_all r h f hf
  rw[if_pos hg] at h;exact absurd h hg
theorem eQ (m:Mem):bR m=0↔m.fs.length≤40∧(∀f∈m.fs,dR f=0)∧0≤m.hand∧(m.hand=0∨m.hand<m.fs.length):=by
 unfold bR;constructor
 ·intro h
  by_cases h1:40<m.fs.length
  ·rw[if_pos h1] at h;cases h
  rw[if_neg h1] at h
  by_cases h2:firstEf m.fs=0
  ·rw[if_neg (fun e=>e h2)] at h
   by_cases h3:m.hand<0∨(0<m.hand∧(m.fs.length:Int)≤m.hand)
   ·rw[if_pos h3] at h;cases h
   ·exact⟨by omega,firstEf_all _ h2,by omega,by omega⟩
  ·rw[if_pos h2] at h;exact absurd h h2
 rintro⟨h1,h2,h3,h4⟩;rw[if_neg (by omega)];have h5:firstEf m.fs=0:=firstEf_none _ (fun i hi=>h2 _ (dM hi));rw[h5,if_neg (fun e=>e rfl),if_neg (by omega)]
theorem iN (f:Fr):dR f=0↔(0≤f.r∧f.r≤1000∧-1≤f.f∧f.f<5∧0≤f.i∧f.i<12)∧(f.r=0→f.u=false∧f.d=false∧f.f<0∧f.p=zPg)∧(f.f<0→f.i=0):=by
 unfold dR;have hb:DJ f=false↔(0≤f.r∧f.r≤1000∧-1≤f.f∧f.f<5∧0≤f.i∧f.i<12):=by simp only[DJ,zJ,decide_eq_false_iff_not,Int.not_lt,Int.not_le];omega
 have hu:Hf f=false↔(f.r=0→f.u=false∧f.d=false∧f.f<0∧f.p=zPg):=by
  unfold Hf
  by_cases h:f.r=0
  ·simp[h,and_assoc]
  ·simp[h]
 have hf:BS f=false↔(f.f<0→f.i=0):=by
  unfold BS
  by_cases h:f.f<0
  ·simp[h]
  ·simp[h]
 rw[←hb,←hu,←hf];cases DJ f<;>cases Hf f<;>cases BS f<;>simp
def ny (m:Mem) (k n:Int):Int:=if bR m≠0 then bR m else if k<0∨(m.fs.length:Int)≤k∨(m.fs.getD k.toNat fr0).r=0 then 5 else if n < -(m.fs.getD k.toNat fr0).r∨1000-(m.fs.getD k.toNat fr0).r<n then 3 else 0
def jG (f:Fr) (n:Int):Fr:=if f.r+n=0 then frZ else { f with r:=f.r+n }
def lK (m:Mem) (k n:Int):Mem:=if ny m k n=0 then ⟨m.fs.set k.toNat (jG (m.fs.getD k.toNat fr0) n),m.hand⟩ else noM
def iZ (m:Mem) (s:Nat):Nat:=(m.hand.toNat+s)%m.fs.length
def Cf (m:Mem) (s i:Nat):Bool:=(List.range s).any (fun t=>iZ m t==i)
def unused (f:Fr):Fr:={ f with u:=false }
def nX (m:Mem) (s:Nat):List Fr:=m.fs.mapIdx (fun i f=>if Cf m s i then unused f else f)
def xh (m:Mem) (s:Nat):Bool:=decide (0<(m.fs.getD (iZ m s) fr0).r)&&(!(m.fs.getD (iZ m s) fr0).u||decide (m.fs.length≤s))
def iC (m:Mem):Nat:=((List.range (2*m.fs.length)).find? (xh m)).getD 0
def fU (m:Mem):Mem:=if bR m≠0 then noM else if mJ m.fs=m.fs.length then m else ⟨nX m (iC m),(iZ m (iC m+1):Nat)⟩
def iQ (m:Mem):Int:=if bR m≠0 then 0 else if mJ m.fs=m.fs.length then -1 else (iZ m (iC m):Nat)
theorem pI {m:Mem} (h:0<m.fs.length) (s:Nat):iZ m s<m.fs.length:=qR _ h
theorem iW (m:Mem) (s:Nat):(nX m s).length=m.fs.length:=by simp[nX]
theorem vD (m:Mem) (s i:Nat) (hi:i<m.fs.length):(nX m s)[i]'(by rw[iW];exact hi)=if Cf m s i then unused m.fs[i] else m.fs[i]:=by simp[nX]
theorem OO (m:Mem) (s i:Nat):Cf m (s+1) i=(Cf m s i||iZ m s==i):=by simp[Cf,xR]
theorem Rq (m:Mem):nX m 0=m.fs:=by
 apply uf
 ·rw[iW]
 intro i h1 h2;rw[vD m 0 i h2];rfl
theorem SL (m:Mem) (s:Nat) (h:0<m.fs.length):(nX m s).set (iZ m s) (unused ((nX m s)[iZ m s]'(by rw[iW];exact pI h s)))=nX m (s+1):=by
 apply uf
 ·simp[iW]
 intro i h1 h2;have hi:i<m.fs.length:=by rw[iW] at h2;exact h2
 rw[CQ,vD m (s+1) i hi,OO]
 by_cases e:iZ m s=i
 ·subst e;rw[if_pos rfl,vD m s _ hi];cases Cf m s (iZ m s)<;>simp[unused]
 rw[if_neg e,vD m s i hi];have:(iZ m s==i)=false:=by simpa using e
 rw[this,Bool.or_false]
theorem Sy (m:Mem) (s:Nat) (h:0<m.fs.length):Cf m s (iZ m s)=decide (m.fs.length≤s):=by
 rw[mg];simp only[Cf,je,dG,beq_iff_eq,decide_eq_true_eq];constructor
 ·rintro⟨t,ht,he⟩;unfold iZ at he;rcases fG s m.fs.length with hs|hs
  ·exfalso;have h1:(m.hand.toNat+s)%m.fs.length=(m.hand.toNat+t+(s-t))%m.fs.length:=by congr 1;omega
   rw[h1,Nat.add_mod (m.hand.toNat+t) (s-t)] at he;have h2:(s-t)%m.fs.length=s-t:=uH (by omega);rw[h2] at he;have h3:=qR (m.hand.toNat+t) h;generalize (m.hand.toNat+t)%m.fs.length=x at *
   rcases fG (x+(s-t)) m.fs.length with h4|h4
   ·rw[uH h4] at he;omega
   ·rw[Nat.mod_eq_sub_mod h4,uH (by omega)] at he;omega
  ·exact hs
 intro hs;refine⟨s-m.fs.length,by omega,?_⟩;unfold iZ;have:m.hand.toNat+s=(m.hand.toNat+(s-m.fs.length))+m.fs.length:=by omega
 rw[this,CV]
theorem Ws (m:Mem) (s:Nat) (h:0<m.fs.length):(nX m s)[iZ m s]'(by rw[iW];exact pI h s)=if m.fs.length≤s then unused (m.fs[iZ m s]'(pI h s)) else m.fs[iZ m s]'(pI h s):=by
 rw[vD m s _ (pI h s),Sy m s h];simp
theorem UB (m:Mem) (s:Nat) (h:0<m.fs.length):xh m s=(decide (0<((nX m s)[iZ m s]'(by rw[iW];exact pI h s)).r)&&!((nX m s)[iZ m s]'(by rw[iW];exact pI h s)).u):=by
 rw[Ws m s h];unfold xh;rw[show m.fs.getD (iZ m s) fr0=m.fs[iZ m s]'(pI h s) from by simp[pI h s]]
 by_cases hs:m.fs.length≤s
 ·rw[if_pos hs];simp[hs,unused];rfl
 ·rw[if_neg hs];simp[hs]
theorem OZ (l:List Fr):mJ l=l.length↔∀f∈l,f.r=0:=by
 unfold mJ;rw[List.length_filter_eq_length_iff];simp
theorem stops (m:Mem) (hw:bR m=0) (hf:mJ m.fs≠m.fs.length):∃s,s<2*m.fs.length∧xh m s=true:=by
 obtain⟨_,c,hh,_⟩:=(eQ m).1 hw;rw[Ne,OZ] at hf;obtain⟨f,d⟩:=Classical.not_forall.1 hf;obtain⟨hm,hr⟩:=Classical.not_imp.1 d;obtain⟨i,hi,rfl⟩:=jK.1 hm;have e:=((iN _).1 (c _ hm)).1.1;have a:0<m.fs.length:=by omega
 have hx:=qR m.hand.toNat a;refine⟨(i+m.fs.length-m.hand.toNat%m.fs.length)%m.fs.length+m.fs.length,by have:=qR (i+m.fs.length-m.hand.toNat%m.fs.length) a;omega,?_⟩;have b:iZ m ((i+m.fs.length-m.hand.toNat%m.fs.length)%m.fs.length+m.fs.length)=i:=by
  unfold iZ;rw[←mY,CV,Nat.add_mod,Nat.mod_mod];generalize m.hand.toNat%m.fs.length=x at *
  rcases fG i x with h|h
  ·rw[uH (show i+m.fs.length-x<m.fs.length by omega)];rw[show x+(i+m.fs.length-x)=i+m.fs.length from by omega,CV,uH hi]
  have h3:i+m.fs.length-x=(i-x)+m.fs.length:=by omega
  rw[h3,CV,uH (show i-x<m.fs.length by omega),show x+(i-x)=i from by omega,uH hi]
 unfold xh;rw[b];have:m.fs.getD i fr0=m.fs[i]:=by simp[hi]
 rw[this];have h1:0<m.fs[i].r:=by omega
 have h2:m.fs.length≤(i+m.fs.length-m.hand.toNat%m.fs.length)%m.fs.length+m.fs.length:=by omega
 simp[h1,h2]
theorem Sm (m:Mem) (hw:bR m=0) (hf:mJ m.fs≠m.fs.length):iC m<2*m.fs.length∧xh m (iC m)=true∧∀t,t<iC m→xh m t=false:=by
 obtain⟨s,hs,a⟩:=stops m hw hf;unfold iC;cases hfd:(List.range (2*m.fs.length)).find? (xh m) with
 | none=>
  rw[pK] at hfd;exact absurd a (hfd s (dG.2 hs))
 | some r=>
  rw[IE] at hfd;obtain⟨h1,h2,h3⟩:=hfd;exact⟨dG.1 h2,h1,fun t ht=>by simpa using h3 t ht⟩
structure En where
 k:Int
 n:Int
 w:Bool
 deriving DecidableEq
def zEn:En:=⟨0,0,false⟩
abbrev Tb:=Vector (List En) 8
def eT (e:En):Int:=if e.k<0∨2<e.k then 1 else if e.n<0∨40≤e.n∧e.k=1∨60≤e.n then 3 else if e.k=0∧(e.n≠0∨e.w=true)∨e.k=2∧e.w=true then 7 else 0
def lJ (h:List En):Int:=if h.length≠0∧h.length≠8 then 2 else if firstE (h.map eT)≠0 then firstE (h.map eT) else if 0<h.length∧h.any (fun e=>decide (e.k≠0))=false then 2 else 0
def dh (t:Tb):Int:=firstE (t.toList.map lJ)
def yD (h:List En) (k:Nat):Bool:=(h.take k).any (fun e=>decide (e.k≠0))
theorem Pm (h:List En):yD h 0=false:=rfl
theorem Gy (h:List En) (k:Nat) (hk:k<h.length):yD h (k+1)=(yD h k||decide (h[k].k≠0)):=by
 unfold yD;rw[mf,List.any_append,aI hk];simp
theorem KG (h:List En) (k:Nat) (hk:h.length≤k):yD h k=h.any (fun e=>decide (e.k≠0)):=by
 unfold yD;rw[iJ hk]
theorem wZ {t:Tb} (h:∀i (hi:i<8),lJ t[i]=0):dh t=0:=tX fun i hi=>by simpa using h i (by simpa using hi)
theorem rf {t:Tb} (k:Nat) (hk:k<8) (h:∀i (hi:i<8),i<k→lJ t[i]=0) (hne:lJ t[k]≠0):dh t=lJ t[k]:=by
 have:=xX (l:=t.toList.map lJ) k (by simpa using hk) (fun i hi a=>by simpa using h i (by simpa using hi) a) (by simpa using hne);rw[dh,this];simp
theorem yO {h:List En} (h1:h.length≠0∧h.length≠8):lJ h=2:=by unfold lJ;rw[if_pos h1]
theorem zB {h:List En} (h1:h.length=0∨h.length=8) (k:Nat) (hk:k<h.length) (hp:∀i (hi:i<h.length),i<k→eT h[i]=0) (hne:eT h[k]≠0):lJ h=eT h[k]:=by
 have:=xX (l:=h.map eT) k (by simpa using hk) (fun i hi a=>by simpa using hp i (by simpa using hi) a) (by simpa using hne);have e:firstE (h.map eT)=eT h[k]:=by rw[this];simp
 unfold lJ;rw[if_neg (by omega),e,if_pos hne]
theorem xH {h:List En} (h1:h.length=0∨h.length=8) (hp:∀i (hi:i<h.length),eT h[i]=0):lJ h=if 0<h.length∧h.any (fun e=>decide (e.k≠0))=false then 2 else 0:=by
 have:=tX (l:=h.map eT) (fun i hi=>by simpa using hp i (by simpa using hi));unfold lJ;rw[if_neg (by omega),this,if_neg (by omega)]
def FC (t:Tb):Prop:=∀k (h:k<8),t[k].length*24≤140737488355328
def dK (t:Tb) (n:Int):En:=if h:0≤n∧n<64 then (if (t[n.toNat / 8]'(by omega)).length=8 then (t[n.toNat / 8]'(by omega)).getD (n.toNat%8) zEn else zEn) else zEn
theorem sH {t:Tb} {n:Int} (h:n<0∨64≤n):dK t n=zEn:=by unfold dK;rw[dif_neg (by omega)]
theorem AP {t:Tb} (hq:q<8) (hr:r<8):dK t ((8*q+r:Nat):Int)=if t[q].length=8 then t[q].getD r zEn else zEn:=by
 unfold dK;rw[dif_pos (by omega)];have e1:(((8*q+r:Nat):Int).toNat / 8)=q:=by rw[bX];omega
 have e2:(((8*q+r:Nat):Int).toNat%8)=r:=by rw[bX];omega
 simp only[e1,e2]
theorem xZ {n:Int} (h:0≤n∧n<64):∃q r:Nat,q<8∧r<8∧n=((8*q+r:Nat):Int)∧n / 8=(q:Int)∧n%8=(r:Int):=by
 refine⟨(n / 8).toNat,(n%8).toNat,by omega,by omega,by omega,by omega,by omega⟩
def pM (e:En):Bool:=decide (e.k≠0)
def setE (t:Tb) (n:Int) (e:En):Int:=if dh t≠0 then dh t else if n<0∨64≤n then 3 else eT e
def VC (h:List En):List En:=if h.any pM then h else []
def setH (h:List En) (r:Nat) (e:En):List En:=VC ((if h.length=0 then List.replicate 8 zEn else h).set r e)
def zTb:Tb:=Vector.replicate 8 []
def setT (t:Tb) (n:Int) (e:En):Tb:=if h:(0≤n∧n<64)∧setE t n e=0 then t.set (n.toNat / 8) (setH (t[n.toNat / 8]'(by omega)) (n.toNat%8) e) (by omega) else zTb
theorem wY {t:Tb} {n:Int} {e:En} (h:setE t n e≠0):setT t n e=zTb:=by unfold setT;rw[dif_neg (fun h'=>h h'.2)]
theorem NV {t:Tb} {n:Int} {e:En} (h:setE t n e=0) (hq:q<8) (hr:r<8) (hn:n=((8*q+r:Nat):Int)):setT t n e=t.set q (setH t[q] r e):=by
 unfold setT;subst hn;rw[dif_pos ⟨by omega,h⟩];have e1:(((8*q+r:Nat):Int).toNat / 8)=q:=by rw[bX];omega
 have e2:(((8*q+r:Nat):Int).toNat%8)=r:=by rw[bX];omega
 simp only[e1,e2]
theorem oZ {h:List En} (h0:lJ h=0):h.length=0∨h.length=8:=by
 by_cases e:h.length≠0∧h.length≠8
 ·rw[yO e] at h0;cases h0
 ·omega
theorem lw {t:Tb} (h:dh t=0) (k:Nat) (hk:k<8):lJ t[k]=0:=by
 have key:∀(l:List Int),firstE l=0→∀x∈l,x=0:=by
  intro l
  induction l with
  | nil=>intro _ x hx;cases hx
  | cons y r ih=>
   intro h x hx
   by_cases e:y=0
   ·simp only[firstE,e,if_true] at h;rcases bU.1 hx with rfl|hx
    ·exact e
    ·exact ih h x hx
   ·simp only[firstE,e,if_false] at h
 exact key _ h _ (fP.2 ⟨t[k],by simp,rfl⟩)
def jI (t:Tb) (k:Nat):List Int:=((List.range k).filter fun n:Nat=>pM (dK t (n:Int))).map fun n:Nat=>(n:Int)
def aQ (t:Tb):List Int:=jI t 64
theorem sJ (t:Tb) (k:Nat):(jI t k).length≤k:=by
 unfold jI;rw[eH];exact aY (Ba _ _) (by simp)
theorem Lv {t:Tb} (h:pM (dK t (k:Int))=true):jI t (k+1)=jI t k++[(k:Int)]:=by
 unfold jI;rw[xR,qX,gz];simp[h]
theorem NE {t:Tb} (h:pM (dK t (k:Int))=false):jI t (k+1)=jI t k:=by
 unfold jI;rw[xR,qX,gz];simp[h]
structure Cz (p:Int→Bool) (l:List Int) (j i:Nat) (cur:List Int):Prop where
 len:cur.length=l.length
 lt:i<j
 le:j≤l.length
 done:cur.take i=(l.take j).filter (fun x => !p x)
 rest:∀t,j≤t→cur[t]?=l[t]?
theorem Cz.start {p:Int→Bool} (hi:i<l.length) (he:p l[i]=true) (hno:∀j (h:j<l.length),j<i→p l[j]=false):Cz p l (i+1) i l:=by
 refine⟨rfl,by omega,by omega,?_,fun _ _=>rfl⟩;rw[mf,qX,aI hi,Option.toList];have h1:(l.take i).filter (fun q => !p q)=l.take i:=by rw[List.filter_eq_self];intro q hq;obtain⟨j,hj,rfl⟩:=jK.1 hq;simp only[kK] at hj;rw[List.getElem_take];simpa using hno j (by omega) (by omega)
 simp[h1,he]
theorem Cz.keep {p:Int→Bool} {cur:List Int} (h:Cz p l j i cur) (hj:j<l.length) (hne:p l[j]=false):Cz p l (j+1) (i+1) (cur.set i l[j]):=by
 have h1:=h.lt;have h2:=h.len;refine⟨by simp[h.len],by omega,by omega,?_,fun t ht => ?_⟩
 ·have hi:i<cur.length:=by omega
  rw[mf,vw hi,Option.toList,List.take_set_of_le (az _),h.done];rw[mf,qX,aI hj,Option.toList];simp[hne]
 rw[tY (by omega)];exact h.rest t (by omega)
theorem Cz.skip {p:Int→Bool} {cur:List Int} (h:Cz p l j i cur) (hj:j<l.length) (he:p l[j]=true):Cz p l (j+1) i cur:=by
 have h1:=h.lt;refine⟨h.len,by omega,by omega,?_,fun t ht=>h.rest t (by omega)⟩;rw[h.done];rw[mf,qX,aI hj,Option.toList];simp[he]
theorem Cz.all {p:Int→Bool} (h:∀i (h:i<l.length),p l[i]=false):l.filter (fun x => !p x)=l:=by
 rw[List.filter_eq_self];intro q hq;obtain⟨j,hj,rfl⟩:=jK.1 hq;simpa using h j hj
def qB (t:Tb) (kind k:Int) (n:Int):Bool:=decide ((dK t n).k≠kind)||decide ((dK t n).n≠k)
def oJ (t:Tb) (kind k:Int):List Int:=(aQ t).filter fun n => !qB t kind k n
theorem Tq {h:List En} (hj:j<h.length) (hc:c=0↔yD h j=false) (h0:0≤h[j].k):((0<h[j].k)→(c+1=0↔yD h (j+1)=false))∧(¬0<h[j].k→(c=0↔yD h (j+1)=false)):=by
 rw[Gy h j hj];constructor
 ·intro hp;have:decide (h[j].k≠0)=true:=by simp;omega
  simp[this]
 intro hp;have:decide (h[j].k≠0)=false:=by simp;omega
 simp[this,hc]
theorem Wd (f g:En):(f==g)=(f.k==g.k&&(f.n==g.n&&f.w==g.w)):=by
 cases f;cases g;rw[mg];simp
def Ga (t u:Tb):Bool:=decide (t=u)
theorem Ho {t u:Tb} (k:Nat) (hk:k<8) (h:t[k]≠u[k]):Ga t u=false:=by
 unfold Ga;rw[decide_eq_false_iff_not];rintro rfl;exact h rfl
theorem Hd {t u:Tb} (h:∀i (hi:i<8),t[i]=u[i]):Ga t u=true:=by
 unfold Ga;rw[decide_eq_true_eq];exact yt h
def dA (t:Tb):List En:=(List.range 64).map fun n:Nat=>dK t (n:Int)
structure LB (t:Tb) (m:Nat) (l:List En):Prop where
 len:l.length=64
 at' : ∀n (h:n<64),l[n]?=some (if n<m then dK t (n:Int) else zEn)
theorem LB.start {t:Tb}:LB t 0 (List.replicate 64 zEn):=⟨jN,fun n h=>by rw[oK,if_pos h,if_neg (eG _)]⟩
theorem LB.step {t:Tb} {m:Nat} {l:List En} (h:LB t m l) (hm:m<64) {E:En} (hE:dK t (m:Int)=E):LB t (m+1) (l.set m E):=by
 refine⟨by simp[h.len],fun n hn => ?_⟩
 by_cases e:n=m
 ·subst e;rw[vw (by rw[h.len];exact hn),if_pos (by omega),hE]
 rw[tY (fun e2=>e e2.symm),h.at' n hn];congr 1
 by_cases e2:n<m
 ·rw[if_pos e2,if_pos (by omega)]
 ·rw[if_neg e2,if_neg (by omega)]
theorem Bl {t:Tb} (hq:q<8) (hr:r<8) (h:t[q].length=0):dK t ((8*q+r:Nat):Int)=zEn:=by
 rw[AP hq hr,if_neg (by omega)]
theorem Gw {t:Tb} (hq:q<8) (hr:r<8) (h:t[q].length=8) {E:En} (hE:t[q][r]?=some E):dK t ((8*q+r:Nat):Int)=E:=by
 rw[AP hq hr,if_pos h,aV,hE];rfl
theorem LB.skip {t:Tb} {l:List En} (h:LB t (8*q) l) (hq:q<8) (h0:t[q].length=0):LB t (8*(q+1)) l:=by
 refine⟨h.len,fun n hn => ?_⟩;rw[h.at' n hn];congr 1
 by_cases e2:n<8*q
 ·rw[if_pos e2,if_pos (by omega)]
 rw[if_neg e2]
 by_cases e3:n<8*(q+1)
 ·rw[if_pos e3];obtain⟨r,rfl⟩:∃r,n=8*q+r:=⟨n-8*q,by omega⟩;exact (Bl hq (by omega) h0).symm
 ·rw[if_neg e3]
theorem LB.fin {t:Tb} {l:List En} (h:LB t 64 l):l=dA t:=by
 apply lU;intro n;unfold dA
 by_cases hn:n<64
 ·rw[h.at' n hn,if_pos hn];simp[hn]
 ·rw[dJ (by rw[h.len];omega),dJ (by simp;omega)]
def II (e:En):Bool:=decide (0<e.k)
def lu (l:List En) (i:Nat):List En:=(l.drop (8*i)).take 8
def lZ (l:List En) (i:Nat):List En:=if (lu l i).any II then lu l i else []
def gG (l:List En):Tb:=Vector.ofFn fun i:Fin 8=>lZ l i.val
def yH (l:List En) (i k:Nat):Bool:=((l.drop (8*i)).take k).any II
theorem Kb {l:List En} (hl:l.length=64) (hi:i<8) (hk:k<8):∃E,l[8*i+k]?=some E∧(l.drop (8*i)).take (k+1)=(l.drop (8*i)).take k++[E]:=by
 refine⟨l[8*i+k]'(by omega),aI (by omega),?_⟩;rw[mf,rX,aI (by omega)];rfl
theorem Fu {l:List En} (hl:l.length=64) (hi:i<8) (hk:k≤8):((l.drop (8*i)).take k).length=k:=by
 simp;omega
structure GG (l:List En) (i:Nat) (h:List En) (t:Tb):Prop where
 lo:∀j (hj:j<8),j<i→t[j]=lZ l j
 at' : ∀(hi:i<8),t[i]=h
 hi:∀j (hj:j<8),i<j→t[j]=[]
theorem GG.start {l:List En}:GG l 0 [] zTb:=⟨fun _ _ h=>absurd h (eG _),fun _=>by simp[zTb],fun j hj _=>by simp[zTb]⟩
theorem GG.next {l:List En} {t:Tb} (h:GG l i (lZ l i) t) (hi:i<8):GG l (i+1) [] t:=by
 refine⟨fun j hj a => ?_,fun h2=>h.hi _ h2 (by omega),fun j hj a=>h.hi j hj (by omega)⟩
 by_cases e:j=i
 ·subst e;exact h.at' hj
 ·exact h.lo j hj (by omega)
theorem GG.set {l:List En} {h h2:List En} {t:Tb} (hh:GG l i h t) (hi:i<8):GG l i h2 (t.set i h2):=
 ⟨fun j hj hji=>by rw[xY hi hj (by omega)];exact hh.lo j hj hji,fun _=>by simp,fun j hj hji=>by rw[xY hi hj (by omega)];exact hh.hi j hj hji⟩
theorem GG.fin {l:List En} {h:List En} {t:Tb} (hh:GG l 8 h t):t=gG l:=by
 apply yt;intro i hi;rw[hh.lo i hi hi];simp[gG]
theorem UN {l:List En} (h:yH l i 8=false):lZ l i=[]:=by
 unfold lZ lu;unfold yH at h;rw[h];rfl
theorem SC {l:List En} (h:yH l i 8=true):lZ l i=(l.drop (8*i)).take 8:=by
 unfold lZ lu;unfold yH at h;rw[h];rfl
structure Fi where
 n:Int
 b:List Int
 deriving DecidableEq
structure St where
 fs:List Fi
 count:Int
 deriving DecidableEq
theorem yl {n:Int} (h:n≤96):dW n≤12:=by unfold dW;split<;>omega
def gL (c:Int):List Int→List Int→Int
 | _,[]=>0
 | seen,b::r=>if b < -1∨c≤b then 3 else if 0≤b∧b∈seen then 7 else gL c (seen++[b]) r
def nU (c:Int):List Int→List Fi→Int
 | _,[]=>0
 | seen,f::r=>if f.n<0∨96<f.n then 3 else if (f.b.length:Int)≠dW f.n then 2 else if gL c seen f.b≠0 then gL c seen f.b else nU c (seen++f.b) r
theorem vZ (c:Int) (seen:List Int) (b:Int) (r:List Int):gL c seen (b::r)=if b < -1∨c≤b then 3 else if 0≤b∧b∈seen then 7 else gL c (seen++[b]) r:=rfl
def aP (s:St):Int:=if 5<s.fs.length∨s.count<0∨80<s.count then 4 else nU s.count [] s.fs
def sN (l:List Int) (j:Int):Bool:=decide (j∈l)
theorem DI (l:List Int) (b:Int):(fun i=>sN l i||decide (i=b))=sN (l++[b]):=by
 funext i;unfold sN;rw[mg];simp
theorem drop_at {α:Type} {l:List α} {x:α} (h:l[k]?=some x):l.drop k=x::l.drop (k+1):=by
 have hk:=(dn.1 h).1;rw[vG hk,(dn.1 h).2]
theorem take_at {α:Type} {l:List α} {x:α} (h:l[k]?=some x):l.take (k+1)=l.take k++[x]:=by
 rw[mf,h];rfl
def newE (n:Int):Int:=if n<0∨80<n then 4 else 0
def UA (n:Int):Int:=if n<0∨80<n then 0 else n
def kF (s:St):List Int:=s.fs.flatMap Fi.b
def XA (l:List Int):Nat:=(l.filter fun x=>decide (0≤x)).length
def zg (s:St):Int:=s.count-XA (kF s)
def gW (s:St) (b:Int):Bool:=decide (b∈kF s)
theorem Vb (l:List Int) (x:Int):l.any (fun y=>decide (x=y))=decide (x∈l):=by
 rw[mg,je,decide_eq_true_eq];constructor
 ·rintro⟨y,hy,h⟩;rw[of_decide_eq_true h];exact hy
 ·intro h;exact⟨x,h,decide_eq_true rfl⟩
def gV (s:St):Int:=match (List.range s.count.toNat).find? (fun b:Nat => !gW s b) with
 | some b=>b
 | none => -1
theorem Qp {s:St} (hb:(b:Int)<s.count) (h:∀i:Nat,i<b→gW s i=true) (hf:gW s b=false):gV s=b:=by
 unfold gV;have:(List.range s.count.toNat).find? (fun b:Nat => !gW s b)=some b:=by rw[IE];exact⟨by simp[hf],dG.2 (by omega),fun j hj=>by simp[h j hj]⟩
 rw[this]
theorem Lb {s:St} (h:∀i:Nat,(i:Int)<s.count→gW s i=true):gV s = -1:=by
 unfold gV;have:(List.range s.count.toNat).find? (fun b:Nat => !gW s b)=none:=by rw[pK];intro i hi;have:=dG.1 hi;simp[h i (by omega)]
 rw[this]
def zSt:St:=⟨[],0⟩
theorem jC {s:St} (h:aP s=0):s.fs.length≤5∧0≤s.count∧s.count≤80:=by
 unfold aP at h
 by_cases g:5<s.fs.length∨s.count<0∨80<s.count
 ·rw[if_pos g] at h;cases h
 ·omega
theorem Fj {c:Int}:∀ {fs:List Fi} {seen:List Int},nU c seen fs=0→∀f∈fs,0≤f.n∧f.n≤96∧(f.b.length:Int)=dW f.n∧∀b∈f.b,-1≤b∧b<c
 | f0::r,seen,h,f,hf=>by
  unfold nU at h
  by_cases g1:f0.n<0∨96<f0.n
  ·rw[if_pos g1] at h;cases h
  rw[if_neg g1] at h
  by_cases g2:(f0.b.length:Int)≠dW f0.n
  ·rw[if_pos g2] at h;cases h
  rw[if_neg g2] at h
  by_cases g3:gL c seen f0.b≠0
  ·rw[if_pos g3] at h;exact absurd h g3
  rw[if_neg g3] at h;rcases bU.1 hf with rfl|hf
  ·refine⟨by omega,by omega,ug.1 g2,?_⟩;have key:∀(l:List Int) (sn:List Int),gL c sn l=0→∀b∈l,-1≤b∧b<c:=by
    intro l
    induction l with
    | nil=>intro _ _ b hb;cases hb
    | cons x r ih=>
     intro sn h b hb;rw[vZ] at h
     by_cases k1:x < -1∨c≤x
     ·rw[if_pos k1] at h;cases h
     rw[if_neg k1] at h
     by_cases k2:0≤x∧x∈sn
     ·rw[if_pos k2] at h;cases h
     rw[if_neg k2] at h;rcases bU.1 hb with rfl|hb
     ·omega
     ·exact ih _ h b hb
   exact key _ _ (ug.1 g3)
  ·exact Fj h f hf
theorem qJ {s:St} (h:aP s=0):∀f∈s.fs,0≤f.n∧f.n≤96∧(f.b.length:Int)=dW f.n∧∀b∈f.b,-1≤b∧b<s.count:=by
 have h1:=jC h;unfold aP at h;rw[if_neg (by omega)] at h;exact Fj h
def aM (s:St) (k:Int):Fi:=if 0≤k then s.fs.getD k.toNat ⟨0,[]⟩ else ⟨0,[]⟩
def AV (s:St) (k:Int) (f:Fi):St:=⟨s.fs.set k.toNat f,s.count⟩
def bM (s:St) (k i:Int):Int:=(aM s k).b.getD i.toNat 0
def dz (s:St) (k i:Int):Int:=
 if aP s≠0 then aP s else if k<0∨(s.fs.length:Int)≤k then 5 else if i<0∨((aM s k).b.length:Int)≤i then 9
 else if bM s k i<0∧gV s<0 then 10 else 0
def dS (s:St) (k i:Int):Int:=if dz s k i≠0 then 0 else if bM s k i<0 then gV s else bM s k i
def dO (s:St) (k i:Int):St:=if dz s k i≠0 then zSt else if bM s k i<0 then AV s k ⟨(aM s k).n,(aM s k).b.set i.toNat (gV s)⟩ else s
theorem yw {s:St} {k i e:Int} (h:dz s k i=e) (he:e≠0):dz s k i=e∧dS s k i=0∧dO s k i=zSt:=by
 refine⟨h,?_,?_⟩
 ·unfold dS;rw[if_pos (by rw[h];exact he)]
 ·unfold dO;rw[if_pos (by rw[h];exact he)]
theorem QJ {s:St} (h:s.count≤80):gV s<80∧-1≤gV s:=by
 unfold gV;cases hf:(List.range s.count.toNat).find? (fun b:Nat => !gW s b) with
 | none=>simp
 | some b=>
  have:=dG.1 (uu hf);simp;omega
def kE (l:List Int):List Int:=l.filter fun x=>decide (0≤x)
theorem uK (l m:List Int):kE (l++m)=kE l++kE m:=qX _ _
theorem jd {x:Int}:x∈kE l↔x∈l∧0≤x:=by unfold kE;simp
theorem Bn {c:Int}:∀ {l seen:List Int},gL c seen l=0↔(∀b∈l,-1≤b∧b<c)∧(kE l).Nodup∧∀b∈l,0≤b→¬b∈seen
 | [],seen=>by simp[gL,kE]
 | x::r,seen=>by
  rw[vZ]
  by_cases k1:x < -1∨c≤x
  ·rw[if_pos k1];refine⟨fun h=>(by cases h),fun h => ?_⟩;have:=h.1 x ik;omega
  rw[if_neg k1]
  by_cases k2:0≤x∧x∈seen
  ·rw[if_pos k2];refine⟨fun h=>(by cases h),fun h=>absurd k2.2 (h.2.2 x ik k2.1)⟩
  rw[if_neg k2,Bn (l:=r)];have hp:kE (x::r)=if 0≤x then x::kE r else kE r:=by unfold kE;rw[IV];simp
  rw[hp];constructor
  ·intro ⟨h1,h2,h3⟩;refine⟨fun b hb => ?_,?_,fun b hb h0 hs => ?_⟩
   ·rcases bU.1 hb with rfl|hb
    ·omega
    ·exact h1 b hb
   ·by_cases hx:0≤x
    ·rw[if_pos hx];refine sW.2 ⟨fun hm => ?_,h2⟩;exact h3 x (jd.1 hm).1 hx (uB _ (bv.2 rfl))
    ·rw[if_neg hx];exact h2
   rcases bU.1 hb with rfl|hb
   ·exact k2 ⟨h0,hs⟩
   ·exact h3 b hb h0 (oV _ hs)
  intro ⟨h1,h2,h3⟩;refine⟨fun b hb=>h1 b (jv _ hb),?_,fun b hb h0 hs => ?_⟩
  ·by_cases hx:0≤x
   ·rw[if_pos hx] at h2;exact (sW.1 h2).2
   ·rw[if_neg hx] at h2;exact h2
  rcases fV.1 hs with hs|hs
  ·exact h3 b (jv _ hb) h0 hs
  rw[bv.1 hs] at hb h0;rw[if_pos h0] at h2;exact (sW.1 h2).1 (jd.2 ⟨hb,h0⟩)
def Ew (c:Int) (f:Fi):Prop:=0≤f.n∧f.n≤96∧(f.b.length:Int)=dW f.n∧∀b∈f.b,-1≤b∧b<c
theorem GM {c:Int}:∀ {fs:List Fi} {seen:List Int},nU c seen fs=0↔(∀f∈fs,Ew c f)∧(kE (fs.flatMap Fi.b)).Nodup∧∀b∈fs.flatMap Fi.b,0≤b→¬b∈seen
 | [],seen=>by simp[nU,kE]
 | f::r,seen=>by
  unfold nU
  by_cases g1:f.n<0∨96<f.n
  ·rw[if_pos g1];refine⟨fun h=>(by cases h),fun h => ?_⟩;have:=h.1 f ik;unfold Ew at this;omega
  rw[if_neg g1]
  by_cases g2:(f.b.length:Int)≠dW f.n
  ·rw[if_pos g2];exact⟨fun h=>(by cases h),fun h=>absurd (h.1 f ik).2.2.1 g2⟩
  rw[if_neg g2,lX,uK]
  by_cases g3:gL c seen f.b≠0
  ·rw[if_pos g3];refine⟨fun h=>absurd h g3,fun h=>absurd (Bn.2 ⟨(h.1 f ik).2.2.2,(xU.1 h.2.1).1,fun b hb=>h.2.2 b (oV _ hb)⟩) g3⟩
  rw[if_neg g3,GM (fs:=r)];have g3':=Bn.1 (ug.1 g3);constructor
  ·intro ⟨h1,h2,h3⟩;refine⟨fun x hx => ?_,xU.2 ⟨g3'.2.1,h2,fun a ha b hb e => ?_⟩,fun b hb h0 hs => ?_⟩
   ·rcases bU.1 hx with rfl|hx
    ·exact⟨by omega,by omega,ug.1 g2,g3'.1⟩
    ·exact h1 x hx
   ·subst e;exact h3 a (jd.1 hb).1 (jd.1 hb).2 (uB _ (jd.1 ha).1)
   rcases fV.1 hb with hb|hb
   ·exact g3'.2.2 b hb h0 hs
   ·exact h3 b hb h0 (oV _ hs)
  intro ⟨h1,h2,h3⟩;obtain⟨n1,n2,n3⟩:=xU.1 h2;refine⟨fun x hx=>h1 x (jv _ hx),n2,fun b hb h0 hs => ?_⟩;rcases fV.1 hs with hs|hs
  ·exact h3 b (uB _ hb) h0 hs
  ·exact n3 b (jd.2 ⟨hs,h0⟩) b (jd.2 ⟨hb,h0⟩) rfl
theorem kZ {s:St}:aP s=0↔(s.fs.length≤5∧0≤s.count∧s.count≤80)∧(∀f∈s.fs,Ew s.count f)∧(kE (kF s)).Nodup:=by
 unfold aP
 by_cases g:5<s.fs.length∨s.count<0∨80<s.count
 ·rw[if_pos g];exact⟨fun h=>(by cases h),fun h=>by omega⟩
 rw[if_neg g,GM];exact⟨fun h=>⟨by omega,h.1,h.2.1⟩,fun h=>⟨h.2.1,h.2.2,fun b _ _ hm=>by cases hm⟩⟩
def xm (N:Nat) (seen:List Int):List Bool:=(List.range N).map fun i:Nat=>decide ((i:Int)∈seen)
theorem zR (N:Nat) (seen:List Int):(xm N seen).length=N:=by simp[xm]
theorem Tt (N:Nat):xm N []=List.replicate N false:=by
 apply lU;intro i;unfold xm
 by_cases hi:i<N
 ·simp[hi,oK]
 ·rw[dJ (by simp;omega),dJ (by simp;omega)]
theorem Jt (N:Nat) (seen:List Int) (i:Nat) (hi:i<N):(xm N seen)[i]?=some (decide ((i:Int)∈seen)):=by simp[xm,hi]
theorem RF (N:Nat) (seen:List Int) (x:Int) (hx:x<0):xm N (seen++[x])=xm N seen:=by
 unfold xm;apply ww;intro i _;have:¬(i:Int)=x:=by omega
 simp[this]
theorem Tz (N:Nat) (seen:List Int) (X:Nat) (hX:X<N):(xm N seen).set X true=xm N (seen++[(X:Int)]):=by
 apply lU;intro i
 by_cases hi:i<N
 ·rw[Jt N _ i hi,kR]
  by_cases e:X=i
  ·subst e;rw[if_pos rfl,if_pos (by rw[zR];exact hi)];simp
  rw[if_neg e,Jt N _ i hi];have:¬(i:Int)=(X:Int):=by omega
  simp[this]
 ·rw[dJ (by simp[zR];omega),dJ (by simp[zR];omega)]
structure Ar where
 fr:Int
 en:Int
 rd:Bool
 wr:Bool
 sh:Bool
 fi:Int
 ba:Int
 deriving DecidableEq
def aS (a:Ar):Int:=if a.fr<0∨a.en≤a.fr∨64<a.en∨a.fi < -1∨5≤a.fi∨a.ba<0 then 3 else if (a.fi<0∧(a.ba≠0∨a.sh=true))∨0≤a.fi∧12-(a.en-a.fr)<a.ba then 7 else 0
def jL (a:Ar):Int:=if 0≤a.fi then a.ba+a.en-a.fr else 0
def dC (a b:Ar):Bool:=a.en==b.fr&&a.rd==b.rd&&a.wr==b.wr&&a.sh==b.sh&&a.fi==b.fi&&b.ba==jL a
def Cq (a:Ar):Prop:=(0≤a.ba∧a.ba≤12)∧(0≤a.fr∧a.fr≤64)∧0≤a.en∧a.en≤64
theorem bI {a:Ar} (h:aS a=0):Cq a∧a.fr<a.en∧-1≤a.fi∧a.fi<5∧(a.fi<0→a.ba=0∧a.sh=false)∧(0≤a.fi→a.ba≤12-(a.en-a.fr)):=by
 unfold aS at h;split at h
 ·omega
 rename_i h1;split at h
 ·omega
 rename_i h2;have hs:a.fi<0→a.ba=0∧a.sh=false:=fun hf=>⟨Decidable.byContradiction fun h=>h2 (.inl ⟨hf,.inl h⟩),by
  cases hsh:a.sh
  ·rfl
  ·exact absurd (.inl ⟨hf,.inr hsh⟩) h2⟩
 have hb:0≤a.fi→a.ba≤12-(a.en-a.fr):=fun hf=>by omega
 unfold Cq;refine⟨⟨⟨by omega,?_⟩,by omega,by omega,by omega⟩,by omega,by omega,by omega,hs,hb⟩
 by_cases hf:a.fi<0
 ·have:=(hs hf).1;omega
 ·have:=hb (by omega);omega
def jk (p:Option Ar) (i:Nat):List Ar→Int × Int
 | []=>(0,0)
 | a::r=>if aS a≠0 then (aS a,i) else if (match p with | some q=>decide (a.fr<q.en)||dC q a | none=>false) then (2,i) else jk (some a) (i+1) r
def bJ (l:List Ar):Int × Int:=if 16<l.length then (4,0) else jk none 0 l
def qf (l:List Ar) (k:Nat):Option Ar:=if k=0 then none else l[k-1]?
theorem EI {l:List Ar} (hk:k<l.length):qf l (k+1)=some l[k]:=by simp[qf,hk]
def wI (p:Option Ar) (a:Ar):Bool:=match p with | some q=>decide (a.fr<q.en)||dC q a | none=>false
theorem nZ (p:Option Ar) (i:Nat) (a:Ar) (r:List Ar):jk p i (a::r)=if aS a≠0 then (aS a,(i:Int)) else if wI p a then (2,(i:Int)) else jk (some a) (i+1) r:=rfl
theorem vY {l:List Ar} (hlt:k<l.length) (he:aS l[k]=0) (hno:wI (qf l k) l[k]=false):jk (qf l k) k (l.drop k)=jk (qf l (k+1)) (k+1) (l.drop (k+1)):=by
 rw[vG hlt,nZ,if_neg (by rw[he];simp),hno,EI hlt];rfl
theorem wh {l:List Ar} (hlt:k<l.length) (he:aS l[k]=0) (hno:wI (qf l k) l[k]=true):jk (qf l k) k (l.drop k)=(2,(k:Int)):=by
 rw[vG hlt,nZ,if_neg (by rw[he];simp),hno];rfl
theorem Gs {l:List Ar} (hlt:k<l.length) (he:aS l[k]≠0):jk (qf l k) k (l.drop k)=(aS l[k],(k:Int)):=by
 rw[vG hlt,nZ,if_pos he]
theorem Kw {l:List Ar} {m:Nat} (hm:m+1<l.length):wI (qf l (m+1)) l[m+1]=(decide (l[m+1].fr<l[m].en)||dC l[m] l[m+1]):=by
 rw[EI (show m<l.length by omega)];rfl
def oI (n:Int) (a:Ar):Bool:=decide (a.fr≤n)&&decide (n<a.en)
def kH (l:List Ar) (n:Int):Int:=idx (oI n) l
def qw (b a:Ar):Bool:=decide (a.fr<b.en)&&decide (b.fr<a.en)
def Ay (b a:Ar):Bool:=decide (b.fr<a.fr)
def zAr:Ar:=⟨0,0,false,false,false,0,0⟩
def Am (acc:List Ar) (a:Ar):List Ar:=match acc.getLast? with
 | some q=>if dC q a then acc.set (acc.length-1) { q with en:=a.en } else acc++[a]
 | none=>acc++[a]
def tV (l:List Ar):List Ar:=l.foldl Am []
theorem vg {l:List Ar} (h:(bJ l).1=0):l.length≤16∧∀a∈l,aS a=0:=by
 unfold bJ at h;split at h
 ·exact absurd h (by decide)
 refine⟨by omega,?_⟩;have key:∀(l:List Ar) (p:Option Ar) (i:Nat),(jk p i l).1=0→∀a∈l,aS a=0:=by
  intro l
  induction l with
  | nil=>intro p i _ a ha;cases ha
  | cons b r ih=>
   intro p i h a ha;rw[nZ] at h;split at h
   ·rename_i hb;exact absurd h hb
   rename_i hb;split at h
   ·exact absurd (show (2:Int)=0 from h) (by decide)
   rcases bU.1 ha with rfl|ha
   ·exact Decidable.byContradiction hb
   ·exact ih _ _ h a ha
 exact key l none 0 h
def Wo (l:List Ar) (x:Ar):Nat:=match l.findIdx? (Ay x) with
 | some k=>k
 | none=>l.length
def Ea (l:List Ar) (x:Ar):List Ar:=l.take (Wo l x)++x::l.drop (Wo l x)
def BK (l:List Ar) (x:Ar):Int:=if (bJ l).1≠0 then (bJ l).1 else if aS x≠0 then aS x else if l.any (qw x)=true then 6 else if 16<(tV (Ea l x)).length then 4 else 0
def zn (l:List Ar) (x:Ar):List Ar:=if BK l x≠0 then [] else tV (Ea l x)
theorem Jp {l:List Ar} {x:Ar} {e:Int} (h:BK l x=e) (he:e≠0):BK l x=e∧zn l x=[]:=by
 refine⟨h,?_⟩;unfold zn;rw[if_pos (by rw[h];exact he)]
def Fp (n:Nat):Int:=if 16<n then 4 else 0
def aa:Ar:=⟨2,8,true,false,false,-1,0⟩
structure Pg where
 rd:Bool
 wr:Bool
 sh:Bool
 fi:Int
 pg:Int
 deriving DecidableEq
def ko (a:Ar) (n:Int):Pg:=⟨a.rd,a.wr,a.sh,a.fi,if 0≤a.fi then a.ba+n-a.fr else 0⟩
def onA:List Ar→Int→Option Pg
 | [],_=>none
 | a::r,n=>if oI n a then some (ko a n) else onA r n
theorem dH {n:Int} {a:Ar}:oI n a=true↔a.fr≤n∧n<a.en:=by unfold oI;simp
theorem dw (a:Ar) (r:List Ar) (n:Int):onA (a::r) n=if oI n a then some (ko a n) else onA r n:=rfl
theorem IC (l m:List Ar) (n:Int):onA (l++m) n=(onA l n).or (onA m n):=by
 induction l with
 | nil=>simp[onA]
 | cons a r ih=>rw[IP,dw,dw];split<;>simp[ih]
def srtF:Int→List Ar→Prop
 | _,[]=>True
 | lo,a::r=>aS a=0∧lo≤a.fr∧srtF a.en r
theorem srtF_ok:∀ {l:List Ar} {lo:Int},srtF lo l→∀a∈l,aS a=0∧lo≤a.fr
 | b::r,lo,h,a,ha=>by
  rcases bU.1 ha with rfl|ha
  ·exact⟨h.1,h.2.1⟩
  have h1:=srtF_ok h.2.2 a ha;have h2:=(bI h.1).2.1;have h3:=h.2.1;exact⟨h1.1,by omega⟩
theorem on_low:∀ {l:List Ar} {lo n:Int},srtF lo l→n<lo→onA l n=none
 | [],_,_,_,_=>rfl
 | a::r,lo,n,h,hn=>by have h1:=h.2.1;have h2:=(bI h.1).2.1;rw[dw,if_neg (by rw[dH];omega)];exact on_low h.2.2 (by omega)
def okF (p:Option Ar):List Ar→Prop
 | []=>True
 | a::r=>aS a=0∧wI p a=false∧okF (some a) r
theorem AQ {q a:Ar}:wI (some q) a=false↔q.en≤a.fr∧dC q a=false:=by
 unfold wI;simp
theorem okF_srt:∀ {l:List Ar} {q:Ar},okF (some q) l→srtF q.en l
 | [],_,_=>trivial
 | a::r,q,h=>⟨h.1,(AQ.1 h.2.1).1,okF_srt h.2.2⟩
theorem lD {l:List Ar} (h:okF none l):srtF 0 l:=by
 match l,h with
 | [],_=>trivial
 | a::r,h=>exact⟨h.1,by have:=(bI h.1).1.2.1.1;exact this,okF_srt h.2.2⟩
theorem wrongAt_iff:∀ {l:List Ar} {p:Option Ar} {i:Nat},(jk p i l).1=0↔okF p l
 | [],_,_=>⟨fun _=>trivial,fun _=>rfl⟩
 | a::r,p,i=>by
  rw[nZ]
  by_cases h:aS a=0
  ·rw[if_neg (by rw[h];simp)];cases hb:wI p a
   ·rw[if_neg (by simp),wrongAt_iff];exact⟨fun h2=>⟨h,hb,h2⟩,fun h2=>h2.2.2⟩
   rw[if_pos rfl];refine⟨fun h2=>absurd (show (2:Int)=0 from h2) (by decide),fun h2 => ?_⟩;have h3:=h2.2.1;rw[hb] at h3;cases h3
  rw[if_pos h];exact⟨fun h2=>absurd h2 h,fun h2=>absurd h2.1 h⟩
theorem iL {l:List Ar}:(bJ l).1=0↔l.length≤16∧okF none l:=by
 unfold bJ
 by_cases h:16<l.length
 ·rw[if_pos h];exact⟨fun h2=>absurd (show (4:Int)=0 from h2) (by decide),fun h2=>by omega⟩
 rw[if_neg h,wrongAt_iff];exact⟨fun h2=>⟨by omega,h2⟩,fun h2=>h2.2⟩
theorem uU {q a:Ar}:dC q a=true↔q.en=a.fr∧q.rd=a.rd∧q.wr=a.wr∧q.sh=a.sh∧q.fi=a.fi∧a.ba=jL q:=by
 unfold dC;simp[and_assoc]
theorem Ui {q a:Ar} (h:dC q a=true) (n:Int):ko a n=ko q n:=by
 obtain⟨h1,h2,h3,h4,h5,h6⟩:=uU.1 h;unfold ko jL at *
 rw[←h2,←h3,←h4,←h5];split
 ·rename_i hf;rw[h6,if_pos hf];congr 1;omega
 ·rfl
theorem on_uniq:∀ {l m:List Ar} {p q:Option Ar},okF p l→okF q m→(∀n,onA l n=onA m n)→l=m
 | [],[],_,_,_,_,_=>rfl
 | [],b::s,_,_,_,hm,h=>by have:=h b.fr;rw[dw,if_pos (dH.2 ⟨tQ _,(bI hm.1).2.1⟩)] at this;cases this
 | a::r,[],_,_,hl,_,h=>by have:=h a.fr;rw[dw,if_pos (dH.2 ⟨tQ _,(bI hl.1).2.1⟩)] at this;cases this
 | a::r,b::s,p,q,hl,hm,h=>by
  have ea:=bI hl.1;have eb:=bI hm.1;have sr:=okF_srt hl.2.2;have ss:=okF_srt hm.2.2;have half:∀ {a b:Ar} {r s:List Ar},aS a=0→aS b=0→srtF a.en r→srtF b.en s→(∀n,onA (a::r) n=onA (b::s) n)→¬a.fr<b.fr:=by intro a b r s ha hb hr hs h hlt;have h1:=h a.fr;have h2:=(bI ha).2.1;have h3:=(bI hb).2.1;rw[dw,if_pos (dH.2 ⟨tQ _,h2⟩),dw,if_neg (by rw[dH];omega),on_low hs (by omega)] at h1;cases h1
  have hfr:a.fr=b.fr:=by have h1:=half hl.1 hm.1 sr ss h;have h2:=half hm.1 hl.1 ss sr (fun n=>(h n).symm);omega
  have h1:=h a.fr;rw[dw,if_pos (dH.2 ⟨tQ _,ea.2.1⟩),dw,if_pos (dH.2 ⟨by omega,by have:=eb.2.1;omega⟩)] at h1;have hpg:=aJ h1;unfold ko at hpg;simp only[Pg.mk.injEq] at hpg;obtain⟨g1,g2,g3,g4,g5⟩:=hpg;have hba:a.ba=b.ba:=by
   by_cases hf:0≤a.fi
   ·rw[if_pos hf,if_pos (by omega)] at g5;omega
   ·rw[(ea.2.2.2.2.1 (by omega)).1,(eb.2.2.2.2.1 (by omega)).1]
  have half2:∀ {a b:Ar} {r s:List Ar},aS a=0→aS b=0→okF (some a) r→a.fr=b.fr→a.rd=b.rd→a.wr=b.wr→a.sh=b.sh→a.fi=b.fi→a.ba=b.ba→(∀n,onA (a::r) n=onA (b::s) n)→¬a.en<b.en:=by
   intro a b r s ha hb hr k1 k2 k3 k4 k5 k6 h hlt;have h1:=h a.en;have h2:=(bI ha).2.1;rw[dw,if_neg (by rw[dH];omega),dw,if_pos (dH.2 ⟨by omega,hlt⟩)] at h1
   match r,hr with
   | [],_=>cases h1
   | c::t,hr=>
    have hc:=AQ.1 hr.2.1;rw[dw] at h1;split at h1
    ·rename_i hin;rw[dH] at hin;have hp:=aJ h1;unfold ko at hp;simp only[Pg.mk.injEq] at hp;obtain⟨g1,g2,g3,g4,g5⟩:=hp;have:dC a c=true:=by
      rw[uU];refine⟨by omega,by rw[k2,g1],by rw[k3,g2],by rw[k4,g3],by omega,?_⟩;unfold jL
      by_cases hf:0≤a.fi
      ·rw[if_pos (by omega),if_pos (by omega)] at g5;rw[if_pos hf];omega
      rw[if_neg hf];exact ((bI hr.1).2.2.2.2.1 (by omega)).1
     rw[hc.2] at this;cases this
    rename_i hin;rw[dH] at hin;have:=(bI hr.1).2.1;rw[on_low (okF_srt hr.2.2) (by omega)] at h1;cases h1
  have hen:a.en=b.en:=by have h1:=half2 hl.1 hm.1 hl.2.2 hfr g1 g2 g3 g4 hba h;have h2:=half2 hm.1 hl.1 hm.2.2 hfr.symm g1.symm g2.symm g3.symm g4.symm hba.symm (fun n=>(h n).symm);omega
  have hab:a=b:=by
   cases a;cases b
   simp_all
  subst hab;congr 1;refine on_uniq hl.2.2 hm.2.2 fun n => ?_;have h1:=h n;rw[dw,dw] at h1;split at h1
  ·rename_i hin;rw[dH] at hin;rw[on_low sr (by omega),on_low ss (by omega)]
  ·exact h1
def um (q:Ar):List Ar→List Ar
 | []=>[q]
 | a::r=>if dC q a then um { q with en:=a.en } r else q::um a r
theorem KO (init:List Ar) (q a:Ar):Am (init++[q]) a=if dC q a then init++[{ q with en:=a.en }] else init++[q]++[a]:=by
 unfold Am;rw[CS];simp only[];split
 ·simp
 ·rfl
theorem tidy_go:∀(r:List Ar) (init:List Ar) (q:Ar),r.foldl Am (init++[q])=init++um q r
 | [],init,q=>rfl
 | a::r,init,q=>by
  rw[Ah,KO];unfold um;split
  ·exact tidy_go r init _
  ·rw[tidy_go r (init++[q]) a,iw];rfl
theorem yK (a:Ar) (r:List Ar):tV (a::r)=um a r:=by
 unfold tV;rw[Ah];exact tidy_go r [] a
theorem Cs {q a:Ar} (hq:aS q=0) (ha:aS a=0) (h:dC q a=true):aS { q with en:=a.en }=0:=by
 obtain⟨h1,h2,h3,h4,h5,h6⟩:=uU.1 h;have eq:=bI hq;have ea:=bI ha;unfold Cq at eq ea;unfold aS;rw[if_neg (by simp only[];omega),if_neg];simp only[];rintro (⟨k1,k2⟩|⟨k1,k2⟩)
 ·have:=eq.2.2.2.2.1 k1;rcases k2 with k2|k2
  ·exact k2 this.1
  ·rw[this.2] at k2;cases k2
 have h7:=ea.2.2.2.2.2 (by omega);unfold jL at h6;rw[if_pos k1] at h6;omega
theorem Rv {q a:Ar} {r:List Ar} (hq:aS q=0) (ha:aS a=0) (h:dC q a=true) (n:Int):onA ({ q with en:=a.en }::r) n=onA (q::a::r) n:=by
 have hp:=Ui h n;obtain⟨h1,_⟩:=uU.1 h;have h2:=(bI hq).2.1;have h3:=(bI ha).2.1;rw[dw,dw,dw];have b:ko { q with en:=a.en } n=ko q n:=rfl
 by_cases c1:oI n q=true
 ·rw[if_pos c1,if_pos (by rw[dH] at c1 ⊢; simp only[];omega),b]
 rw[if_neg c1]
 by_cases c2:oI n a=true
 ·rw[if_pos c2,if_pos (by rw[dH] at c2 ⊢; simp only[];omega),b,hp]
 rw[if_neg c2,if_neg];rw[dH] at c1 c2 ⊢;simp only[];omega
def ML (x:Ar):List Ar→List Ar
 | []=>[x]
 | a::r=>if x.fr<a.fr then x::a::r else a::ML x r
theorem Dx (x:Ar):∀l:List Ar,Ea l x=ML x l
 | []=>rfl
 | a::r=>by
  have ih:=Dx x r;unfold Ea Wo at ih ⊢;unfold ML;rw[zW]
  by_cases h:x.fr<a.fr
  ·rw[if_pos h,if_pos (show Ay x a=true from decide_eq_true h)];rfl
  rw[if_neg h,if_neg (show ¬Ay x a=true by unfold Ay;simpa using h)];cases hq:r.findIdx? (Ay x) with
  | none=>rw[hq] at ih;simp only[IU] at *; rw[←ih];simp
  | some k=>rw[hq] at ih;simp only[qY] at *; rw[←ih];simp
theorem Jq {x:Ar} (hx:aS x=0) (n:Int):∀ {l:List Ar} {lo:Int},srtF lo l→(∀a∈l,qw x a=false)→onA (ML x l) n=if oI n x then some (ko x n) else onA l n
 | [],_,_,_=>rfl
 | a::r,lo,h,hm=>by
  unfold ML;split
  ·rfl
  rename_i hlt;rw[dw,dw,Jq hx n h.2.2 (fun b hb=>hm b (jv _ hb))]
  by_cases c1:oI n a=true
  ·rw[if_pos c1,if_pos c1];rw[if_neg];rw[dH] at c1 ⊢;have hm1:=hm a ik;unfold qw at hm1;have h2:=(bI hx).2.1;have h3:=(bI h.1).2.1;simp only[Iz,decide_eq_false_iff_not] at hm1;omega
  ·rw[if_neg c1,if_neg c1]
theorem EM {x:Ar} (hx:aS x=0):∀ {l:List Ar} {lo:Int},srtF lo l→lo≤x.fr→(∀a∈l,qw x a=false)→srtF lo (ML x l)
 | [],lo,_,hl,_=>⟨hx,hl,trivial⟩
 | a::r,lo,h,hl,hm=>by
  have hm1:=hm a ik;unfold qw at hm1;have h2:=(bI hx).2.1;have h3:=(bI h.1).2.1;simp only[Iz,decide_eq_false_iff_not] at hm1;unfold ML;split
  ·exact⟨hx,hl,h.1,by omega,h.2.2⟩
  rename_i hlt;exact⟨h.1,h.2.1,EM hx h.2.2 (by omega) (fun b hb=>hm b (jv _ hb))⟩
theorem TP {a:Ar} (h:aS a=0) {k:Int} (hk:oI k a=true):0≤k∧k<64:=by
 have:=(bI h).1;unfold Cq at this;rw[dH] at hk;omega
theorem toList_map {α β:Type} (o:Option α) (f:α→β):(o.map f).toList=o.toList.map f:=by cases o<;>rfl
theorem Jw (l:List Ar) (n:Int):(0≤kH l n)↔onA l n≠none:=by
 have h:=nO (oI n) l;have h2:l.any (oI n)=true↔onA l n≠none:=by
  induction l with
  | nil=>simp[onA]
  | cons a r ih=>rw[List.any_cons,dw];cases oI n a<;>simp[ih (nO _ _)]
 rw[←h2,←h,decide_eq_true_eq];exact Iff.rfl
def oR (o:Option Pg):Bool:=match o with | some p=>p.rd | none=>false
def oW (o:Option Pg):Bool:=match o with | some p=>p.wr | none=>false
def oH (o:Option Pg):Bool:=match o with | some p=>p.sh | none=>false
def oF (o:Option Pg):Int:=match o with | some p=>p.fi | none=>0
def oP (o:Option Pg):Int:=match o with | some p=>p.pg | none=>0
def NW (f:Nat→Option Pg):List (Option Pg):=(List.range 64).map f
theorem yu (f:Nat→Option Pg):(NW f).length=64:=by simp[NW]
theorem Va (f:Nat→Option Pg) (k:Nat) (x:Option Pg):(NW f).set k x=NW (fun i=>if i=k then x else f i):=by
 unfold NW;apply lU;intro i;rw[kR]
 by_cases h:k=i
 ·subst h
  by_cases hk:k<64
  ·simp[hk]
  ·simp[hk]
 rw[if_neg h]
 by_cases hi:i<64
 ·simp[hi,pz h]
 ·simp[hi]
def f0:Nat→Option Pg:=fun _=>none
def Kz (A:Ar) (K:Int) (f:Nat→Option Pg):Nat→Option Pg:=fun i=>if A.fr≤(i:Int)∧(i:Int)<K then some (ko A i) else f i
theorem Px (A:Ar) (f:Nat→Option Pg):Kz A A.fr f=f:=by funext i;unfold Kz;rw[if_neg (by omega)]
theorem Ua {A:Ar} (hK:A.fr≤(K:Int)) (f:Nat→Option Pg):(fun i=>if i=K then some (ko A K) else Kz A K f i)=Kz A ((K:Int)+1) f:=by
 funext i;unfold Kz
 by_cases h:i=K
 ·subst h;rw[if_pos rfl,if_pos (by omega)]
 rw[if_neg h]
 by_cases c:A.fr≤(i:Int)∧(i:Int)<K
 ·rw[if_pos c,if_pos (by omega)]
 ·rw[if_neg c,if_neg (by omega)]
def bZ (l:List Ar):Nat→Option Pg:=l.foldl (fun f A=>Kz A A.en f) f0
theorem LQ {l:List Ar} (hk:k<l.length):bZ (l.take (k+1))=Kz l[k] l[k].en (bZ (l.take k)):=by
 unfold bZ;rw[mf,aI hk,Option.toList_some,CY];rfl
def qm (p q:Pg):Pg:=if 0≤p.fi then { q with pg:=q.pg+1 } else q
def lQ (f:Nat→Option Pg) (k:Nat) (p:Pg):Bool:=match k with
 | 0=>false
 | m+1=>match f m with
  | some q=>qm p q==p
  | none=>false
def fE (k:Nat) (p:Pg):Ar:=⟨k,(k:Int)+1,p.rd,p.wr,p.sh,p.fi,p.pg⟩
def wQ (l:List Ar) (e:Int):List Ar:=match l.getLast? with
 | some q=>l.set (l.length-1) { q with en:=e }
 | none=>l
def kV (f:Nat→Option Pg):Nat→List Ar
 | 0=>[]
 | k+1=>match f k with
  | none=>kV f k
  | some p=>if lQ f k p then wQ (kV f k) ((k:Int)+1) else kV f k++[fE k p]
theorem Gq (l:List Ar) (e:Int):(wQ l e).length=l.length:=by unfold wQ;split<;>simp
theorem Iq (f:Nat→Option Pg):∀k,(kV f k).length≤k
 | 0=>az _
 | k+1=>by
  have ih:=Iq f k;unfold kV;split
  ·omega
  split
  ·rw[Gq];omega
  ·rw[jP,CL];omega
theorem Re (f:Nat→Option Pg) {m:Nat} {q:Pg} (h:f m=some q):0<(kV f (m+1)).length:=by
 have a:∀k (q:Pg),f k=some q→0<(kV f (k+1)).length:=by
  intro k
  induction k with
  | zero=>intro q h;unfold kV;rw[h];simp[lQ]
  | succ k ih=>
   intro q h;rw[kV,h];simp only[]
   by_cases hs:lQ f (k+1) q=true
   ·rw[if_pos hs,Gq];cases hf:f k with
    | none=>
     have h2:lQ f (k+1) q=false:=by simp only[lQ,hf]
     rw[h2] at hs;cases hs
    | some z=>exact ih z hf
   ·rw[if_neg hs,jP,CL];omega
 exact a m q h
theorem VN (p q:Pg):(p==q)=(p.rd==q.rd&&(p.wr==q.wr&&(p.sh==q.sh&&(p.fi==q.fi&&p.pg==q.pg)))):=by
 cases p;cases q;rw[mg];simp
theorem SG {f:Nat→Option Pg} (h:f k=none):kV f (k+1)=kV f k:=by rw[kV,h]
theorem RH {f:Nat→Option Pg} {p:Pg} (h:f k=some p) (hs:lQ f k p=true):kV f (k+1)=wQ (kV f k) ((k:Int)+1):=by
 rw[kV,h];simp only[];rw[if_pos hs]
theorem CP {f:Nat→Option Pg} {p:Pg} (h:f k=some p) (hs:lQ f k p=false):kV f (k+1)=kV f k++[fE k p]:=by
 rw[kV,h];simp only[];rw[hs];rfl
theorem KP {l:List Ar} (hn:l.length=n+1) (e:Int):wQ l e=l.set n { (l[n]'(by omega)) with en:=e }:=by
 unfold wQ;have:l.getLast?=some (l[n]'(by omega)):=by rw[List.getLast?_eq_getElem?,aI (by omega)];simp[hn]
 rw[this];simp[hn]
theorem PQ {f:Nat→Option Pg} (h:f k=none):kV f (k+1)=kV f k:=by rw[kV,h]
theorem Uz {f:Nat→Option Pg} {p:Pg} (h:f k=some p) (hs:lQ f k p=true):kV f (k+1)=wQ (kV f k) ((k:Int)+1):=by
 rw[kV,h];simp only[];rw[if_pos hs]
theorem Tp {f:Nat→Option Pg} {p:Pg} (h:f k=some p) (hs:lQ f k p=false):kV f (k+1)=kV f k++[fE k p]:=by
 rw[kV,h];simp only[];rw[hs];rfl
def Qw (p:Pg):Prop:=-1≤p.fi∧p.fi<5∧0≤p.pg∧(p.fi<0→p.pg=0∧p.sh=false)∧(0≤p.fi→p.pg≤11)
theorem Dw {l:List Ar} {n:Int} (h:∀a∈l,a.en≤n):onA l n=none:=by
 induction l with
 | nil=>rfl
 | cons a r ih=>
  have:=h a ik;rw[dw,if_neg (by rw[dH];omega),ih (fun b hb=>h b (jv _ hb))]
theorem TC {l:List Ar} {a:Ar} {n:Int} (h:a∈l) (hn:oI n a=true):onA l n≠none:=by
 induction l with
 | nil=>cases h
 | cons b r ih=>
  rw[dw];split
  ·simp
  rename_i hb;rcases bU.1 h with rfl|h
  ·exact absurd hn hb
  ·exact ih h
theorem Ke {x y:Ar} (hy:aS y=0) (hb:∀p,wI p x=false→wI p y=false):∀ {l:List Ar} {p:Option Ar},okF p (l++[x])→okF p (l++[y])
 | [],p,h=>⟨hy,hb p h.2.1,trivial⟩
 | a::r,p,h=>⟨h.1,h.2.1,Ke hy hb h.2.2⟩
theorem KJ {x y:Ar} (hy:aS y=0) (hb:wI (some x) y=false):∀ {l:List Ar} {p:Option Ar},okF p (l++[x])→okF p (l++[x]++[y])
 | [],p,h=>⟨h.1,h.2.1,hy,hb,trivial⟩
 | a::r,p,h=>⟨h.1,h.2.1,KJ hy hb h.2.2⟩
theorem BB {x:Ar}:∀ {l:List Ar} {p:Option Ar},okF p (l++[x])→aS x=0
 | [],p,h=>h.1
 | a::r,p,h=>BB h.2.2
theorem QP (hk:k<64) {p:Pg} (hp:Qw p):aS (fE k p)=0:=by
 obtain⟨h1,h2,h3,h4,h5⟩:=hp;unfold aS fE;simp only[];rw[if_neg (by omega),if_neg];rintro (⟨a,b⟩|⟨a,b⟩)
 ·have:=h4 a;rcases b with b|b
  ·exact b this.1
  ·rw[this.2] at b;cases b
 ·have:=h5 a;omega
theorem Qz {a:Ar} {m:Nat} {p:Pg} (h:qm p (ko a m)=p):ko a ((m:Int)+1)=p:=by
 unfold qm at h
 by_cases hf:0≤p.fi
 ·rw[if_pos hf] at h;have b:a.fi=p.fi:=by rw[←h];rfl
  rw[←h];unfold ko;simp only[];rw[if_pos (by omega),if_pos (by omega)];congr 1;omega
 rw[if_neg hf] at h;have b:a.fi=p.fi:=by rw[←h];rfl
 rw[←h];unfold ko;rw[if_neg (by omega),if_neg (by omega)]
structure WY (f:Nat→Option Pg) (k:Nat):Prop where
 ok:okF none (kV f k)
 en:∀a∈kV f k,a.en≤(k:Int)
 on:∀i:Nat,i<k→onA (kV f k) i=f i
 last:∀m q,k=m+1→f m=some q→∃init a,kV f k=init++[a]∧a.en=(k:Int)∧a.fr≤(m:Int)∧ko a m=q
theorem Tx {f:Nat→Option Pg} (hf:∀i p,i<64→f i=some p→Qw p):∀k,k≤64→WY f k
 | 0,_=>⟨trivial,fun a ha=>(by cases ha),fun i hi=>absurd hi (eG _),fun m q h=>(by cases h)⟩
 | k+1,hk=>by
  have ih:=Tx hf k (by omega);have he:=ih.en;cases hfk:f k with
  | none=>
   have hst:=PQ hfk;refine⟨by rw[hst];exact ih.ok,fun a ha=>by rw[hst] at ha;have:=he a ha;omega,fun i hi => ?_,fun m q hm hq => ?_⟩
   ·rw[hst]
    by_cases hik:i=k
    ·subst hik;rw[hfk];exact Dw he
    ·exact ih.on i (by omega)
   obtain rfl:m=k:=by omega
   rw[hfk] at hq;cases hq
  | some p=>
   have hp:=hf k p (by omega) hfk;cases hs:lQ f k p
   ·have hst:=Tp hfk hs;have hx:=QP (by omega:k<64) hp;have hok:okF none (kV f (k+1)):=by
     rw[hst];rcases List.eq_nil_or_concat (kV f k) with h0|⟨init,a,h0⟩
     ·rw[h0];exact⟨hx,rfl,trivial⟩
     rw[List.concat_eq_append] at h0;have hoka:=ih.ok;have hon:=ih.on;rw[h0] at hoka hon he ⊢;have hae:=he a (uB _ ik);refine KJ hx (AQ.2 ⟨hae,?_⟩) hoka;cases hj:dC a (fE k p)
     ·rfl
     exfalso;obtain⟨j1,j2,j3,j4,j5,j6⟩:=uU.1 hj;have j1' : a.en=(k:Int):=j1;have ha0:=BB hoka;have hfr:=(bI ha0).1.2.1.1;have hlt:=(bI ha0).2.1;obtain⟨m,rfl⟩:∃m,k=m+1:=⟨k-1,by omega⟩;have hin:oI (m:Int) a=true:=dH.2 ⟨by omega,by omega⟩;cases hfm:f m with
     | none=>
      have h1:=hon m (by omega);rw[hfm] at h1;exact TC (uB _ ik) hin h1
     | some q=>
      obtain⟨init',a',e1,e2,e3,e4⟩:=ih.last m q rfl hfm;rw[h0] at e1;have haa:a=a':=by have:=congrArg List.getLast? e1;rw[CS,CS] at this;exact aJ this
      subst haa;have hsn:lQ f (m+1) p=(qm p q==p):=by simp only[lQ,hfm]
      rw[hsn] at hs;have:qm p q=p:=by
       rw[←e4];have k2:a.rd=p.rd:=j2;have k3:a.wr=p.wr:=j3;have k4:a.sh=p.sh:=j4;have k5:a.fi=p.fi:=j5;have k6:p.pg=jL a:=j6;unfold jL at k6;clear hx hfk hp hst hj hs e4 j2 j3 j4 j5 j6 hsn;cases p with
       | mk prd pwr psh pfi ppg=>
        have k2:a.rd=prd:=k2;have k3:a.wr=pwr:=k3;have k4:a.sh=psh:=k4;have k5:a.fi=pfi:=k5;have k6:ppg=if 0≤a.fi then a.ba+a.en-a.fr else 0:=k6;subst k2 k3 k4 k5 k6;unfold qm ko;show (if 0≤a.fi then (⟨a.rd,a.wr,a.sh,a.fi,(if 0≤a.fi then a.ba+(m:Int)-a.fr else 0)+1⟩:Pg) else ⟨a.rd,a.wr,a.sh,a.fi,if 0≤a.fi then a.ba+(m:Int)-a.fr else 0⟩)=_
        by_cases hfi:0≤a.fi
        ·rw[if_pos hfi,if_pos hfi,if_pos hfi];congr 1;omega
        ·rw[if_neg hfi,if_neg hfi,if_neg hfi]
      rw[this] at hs;simp at hs
    refine⟨hok,fun a ha => ?_,fun i hi => ?_,fun m q hm hq => ?_⟩
    ·rw[hst] at ha;rcases fV.1 ha with ha|ha
     ·have:=he a ha;omega
     ·rw[bv.1 ha];show (k:Int)+1≤_;omega
    ·rw[hst,IC];have hone:onA [fE k p] (i:Int)=if i=k then some p else none:=by
      rw[dw]
      by_cases hik:i=k
      ·subst hik;rw[if_pos rfl,if_pos (show oI (i:Int) (fE i p)=true from dH.2 ⟨tQ _,by show (i:Int)<i+1;omega⟩)];unfold ko fE;simp only[];congr 1;obtain⟨_,_,_,h4,_⟩:=hp;cases p with
       | mk rd wr sh fi pg=>
        simp only[Pg.mk.injEq,true_and];simp only[] at h4;split
        ·omega
        ·exact (h4 (by omega)).1.symm
      rw[if_neg hik,if_neg]
      ·rfl
      rw[dH];show ¬((k:Int)≤i∧(i:Int)<k+1);omega
     rw[hone]
     by_cases hik:i=k
     ·subst hik;rw[if_pos rfl,Dw he,hfk];rfl
     ·rw[if_neg hik,ih.on i (by omega),Option.or_none]
    obtain rfl:m=k:=by omega
    rw[hfk] at hq;cases hq;refine⟨kV f m,fE m p,hst,by show (m:Int)+1=_;omega,tQ _,?_⟩;unfold ko fE;simp only[];obtain⟨_,_,_,h4,_⟩:=hp;cases p with
    | mk rd wr sh fi pg=>
     simp only[Pg.mk.injEq,true_and];simp only[] at h4;split
     ·omega
     ·exact (h4 (by omega)).1.symm
   have hst:=Uz hfk hs;obtain⟨m,rfl⟩:∃m,k=m+1:=by
    cases k with
    | zero=>cases hs
    | succ m=>exact⟨m,rfl⟩
   have hsn:lQ f (m+1) p=(match f m with | some q=>qm p q==p | none=>false):=rfl;rw[hsn] at hs;cases hfm:f m with
   | none=>rw[hfm] at hs;cases hs
   | some q=>
    rw[hfm] at hs;have hnx:qm p q=p:=by simpa using hs
    obtain⟨init,a,e1,e2,e3,e4⟩:=ih.last m q rfl hfm;have hok:=ih.ok;have hon:=ih.on;rw[e1] at hok hon he hst;have ha0:=BB hok;have ef:=bI ha0;rw[←e4] at hnx;have hpk:=Qz hnx;have hset:wQ (init++[a]) (((m+1:Nat):Int)+1)=init++[{ a with en:=((m+1:Nat):Int)+1 }]:=by unfold wQ;rw[CS];simp
    rw[hset] at hst;have hy:aS { a with en:=((m+1:Nat):Int)+1 }=0:=by
     unfold Cq at ef;have e5:=ef.2.2.2.2.1;unfold aS;simp only[];rw[if_neg (by omega),if_neg];rintro (⟨b1,b2⟩|⟨b1,b2⟩)
     ·have:=e5 b1;rcases b2 with b2|b2
      ·exact b2 this.1
      ·rw[this.2] at b2;cases b2
     have h5:=hp.2.2.2.2;rw[←hpk] at h5;have h6:=h5 b1;unfold ko at h6;simp only[] at h6;rw[if_pos b1] at h6;omega
    have hinit:∀b∈init,b.en≤((m+1:Nat):Int):=fun b hb=>he b (oV _ hb);have hfi:∀n,ko { a with en:=((m+1:Nat):Int)+1 } n=ko a n:=fun n=>rfl;refine⟨?_,fun b hb => ?_,fun i hi => ?_,fun m' q' hm' hq' => ?_⟩
    ·rw[hst];refine Ke hy (fun z hz => ?_) hok;cases z with
     | none=>rfl
     | some z=>exact hz
    ·rw[hst] at hb;rcases fV.1 hb with hb|hb
     ·have:=hinit b hb;omega
     ·rw[bv.1 hb];show ((m+1:Nat):Int)+1≤_;omega
    ·rw[hst,IC]
     by_cases hik:i=m+1
     ·subst hik;rw[Dw hinit,dw,if_pos (dH.2 ⟨by show a.fr≤((m+1:Nat):Int);omega,by show ((m+1:Nat):Int)<((m+1:Nat):Int)+1;omega⟩),hfi,hfk];show some (ko a ((m+1:Nat):Int))=some p;rw[show ((m+1:Nat):Int)=(m:Int)+1 by omega,hpk]
     have h1:=hon i (by omega);rw[IC] at h1;rw[←h1];congr 1;rw[dw,dw,hfi]
     by_cases c:oI (i:Int) a=true
     ·rw[if_pos c,if_pos (by rw[dH] at c ⊢; show a.fr≤(i:Int)∧(i:Int)<((m+1:Nat):Int)+1;omega)]
     ·rw[if_neg c,if_neg (by rw[dH] at c ⊢; show ¬(a.fr≤(i:Int)∧(i:Int)<((m+1:Nat):Int)+1);omega)]
    obtain rfl:m' = m+1:=by omega
    rw[hfk] at hq';cases hq';refine⟨init,_,hst,by show ((m+1:Nat):Int)+1=_;omega,by show a.fr≤_;omega,?_⟩;rw[hfi,show ((m+1:Nat):Int)=(m:Int)+1 by omega,hpk]
theorem PN {f:Nat→Option Pg} (hf:∀i p,i<64→f i=some p→Qw p):okF none (kV f 64)∧∀n:Int,onA (kV f 64) n=if 0≤n∧n<64 then f n.toNat else none:=by
 have h:=Tx hf 64 (az _);refine⟨h.ok,fun n => ?_⟩
 by_cases hn:0≤n∧n<64
 ·rw[if_pos hn];have:=h.on n.toNat (by omega);rwa [show ((n.toNat:Nat):Int)=n by omega] at this
 rw[if_neg hn];cases ho:onA (kV f 64) n with
 | none=>rfl
 | some p=>
  exfalso;have hs:=lD h.ok
  by_cases h0:n<0
  ·rw[on_low hs h0] at ho;cases ho
  ·rw[Dw (fun a ha=>by have:=h.en a ha;omega)] at ho;cases ho
theorem fold_on:∀ {l:List Ar} {lo:Int} (g:Nat→Option Pg),srtF lo l→∀i:Nat,(l.foldl (fun f A=>Kz A A.en f) g) i=(onA l i).or (g i)
 | [],_,g,_,i=>by simp[onA]
 | a::r,lo,g,h,i=>by
  rw[Ah,fold_on _ h.2.2,dw]
  by_cases c:oI (i:Int) a=true
  ·rw[if_pos c,on_low h.2.2 (dH.1 c).2];unfold Kz;rw[if_pos (dH.1 c)];rfl
  rw[if_neg c];unfold Kz;rw[if_neg (fun h=>c (dH.2 h))]
theorem nS {l:List Ar} (h:srtF lo l) (i:Nat):bZ l i=onA l i:=by
 unfold bZ;rw[fold_on _ h];simp[f0]
theorem OH {a:Ar} (ha:aS a=0) {n:Int} (hn:oI n a=true):Qw (ko a n):=by
 have e:=bI ha;unfold Cq at e;rw[dH] at hn;have e5:=e.2.2.2.2.1;have e6:=e.2.2.2.2.2;unfold Qw ko;simp only[];refine⟨by omega,by omega,by split<;>omega,fun h=>⟨by rw[if_neg (by omega)],(e5 h).2⟩,fun h=>by rw[if_pos h];have:=e6 h;omega⟩
theorem Uk {l:List Ar} (h:srtF lo l) {n:Int} {p:Pg} (hp:onA l n=some p):Qw p:=by
 induction l generalizing lo with
 | nil=>cases hp
 | cons a r ih=>
  rw[dw] at hp;split at hp
  ·rename_i hn;cases hp;exact OH h.1 hn
  ·exact ih h.2.2 hp
theorem MI {f:Nat→Option Pg} {m:List Ar} (hm:okF none m) (hf:∀i:Nat,i<64→f i=onA m i):kV f 64=m:=by
 have hs:=lD hm;obtain⟨h1,h2⟩:=PN (f:=f) (fun i p hi hp=>Uk hs (by rw[←hf i hi];exact hp));refine on_uniq h1 hm fun n => ?_;rw[h2]
 by_cases hn:0≤n∧n<64
 ·rw[if_pos hn,hf _ (by omega),show ((n.toNat:Nat):Int)=n by omega]
 rw[if_neg hn];symm;cases ho:onA m n with
 | none=>rfl
 | some p=>
  exfalso;have:∃a∈m,oI n a=true:=by have hh:=(Jw m n).2 (by rw[ho];simp);have:=nO (oI n) m;rw[show decide (0≤idx (oI n) m)=true from decide_eq_true hh] at this;exact je.1 this.symm
  obtain⟨a,ha,b⟩:=this;have:=TP (srtF_ok hs a ha).1 b;omega
theorem La {l:List Ar} (h:srtF lo l):∀i p,bZ l i=some p→0≤p.pg∧p.pg≤100:=by
 intro i p hp;rw[nS h] at hp;obtain⟨_,_,h3,h4,h5⟩:=Uk h hp;refine⟨h3,?_⟩
 by_cases hf:p.fi<0
 ·rw[(h4 hf).1];decide
 ·have:=h5 (by omega);omega
def uy (x:Ar) (n:Nat) (f:Nat→Option Pg):Nat→Option Pg:=fun i=>if oI (i:Int) x=true∧i<n then some (ko x i) else f i
theorem Mx (x:Ar) (f:Nat→Option Pg):uy x 0 f=f:=by funext i;unfold uy;rw[if_neg (by omega)]
theorem Vs (x:Ar) (n:Nat) (f:Nat→Option Pg):uy x n f n=f n:=by unfold uy;rw[if_neg (by omega)]
theorem Qv {x:Ar} (h:¬oI (n:Int) x=true) (f:Nat→Option Pg):uy x (n+1) f=uy x n f:=by
 funext i;unfold uy
 by_cases c:i=n
 ·subst c;rw[if_neg (fun q=>h q.1),if_neg (fun q=>h q.1)]
 by_cases d:oI (i:Int) x=true∧i<n
 ·rw[if_pos d,if_pos ⟨d.1,by omega⟩]
 ·rw[if_neg d,if_neg (fun q=>d ⟨q.1,by omega⟩)]
theorem Tu {x:Ar} (h:oI (n:Int) x=true) (f:Nat→Option Pg):(fun i=>if i=n then some (ko x n) else uy x n f i)=uy x (n+1) f:=by
 funext i;unfold uy
 by_cases c:i=n
 ·subst c;rw[if_pos rfl,if_pos ⟨h,by omega⟩]
 rw[if_neg c]
 by_cases d:oI (i:Int) x=true∧i<n
 ·rw[if_pos d,if_pos ⟨d.1,by omega⟩]
 ·rw[if_neg d,if_neg (fun q=>d ⟨q.1,by omega⟩)]
theorem TI (x:Ar) (i:Nat):bZ [x] i=if oI (i:Int) x=true then some (ko x i) else none:=by
 unfold bZ;simp only[Ah,List.foldl_nil];unfold Kz f0
 by_cases c:oI (i:Int) x=true
 ·rw[if_pos c,if_pos (dH.1 c)]
 ·rw[if_neg c,if_neg (fun h=>c (dH.2 h))]
theorem SH {l:List Ar} {x:Ar} {i:Int} (hx:oI i x=true) (hl:onA l i≠none):l.any (qw x)=true:=by
 have hh:=(Jw l i).2 hl;have:=nO (oI i) l;rw[show decide (0≤idx (oI i) l)=true from decide_eq_true hh] at this;obtain⟨a,ha,b⟩:=je.1 this.symm;refine je.2 ⟨a,ha,?_⟩;rw[dH] at hx b;unfold qw;rw[decide_eq_true (by omega),decide_eq_true (by omega)];rfl
theorem UY {l:List Ar} {x:Ar} (hok:okF none l) (hx:aS x=0) (h:∀i:Nat,i<64→¬(oI (i:Int) x=true∧onA l i≠none)):l.any (qw x)=false:=by
 rw[tZ];intro a ha hm;have b:=(srtF_ok (lD hok) a ha).1;have e1:=bI b;have e2:=bI hx;unfold Cq at e1 e2;unfold qw at hm;rw[dU,decide_eq_true_eq,decide_eq_true_eq] at hm;refine h (max a.fr x.fr).toNat (by omega) ⟨dH.2 (by omega),TC ha (dH.2 (by omega))⟩
theorem DF {e:En} (h:eT e=0):pM e=II e:=by
 unfold eT at h;unfold pM II;split at h
 ·cases h
 rename_i h1;rw[mg];simp;omega
theorem Aj {h:List En} (h0:lJ h=0):∀e∈h,eT e=0:=by
 intro e he;obtain⟨i,hi,rfl⟩:=jK.1 he;have hl:=oZ h0
 by_cases hne:∀j (hj:j<h.length),eT h[j]=0
 ·exact hne i hi
 exfalso;have hf:firstE (h.map eT)≠0:=by
  intro hf;apply hne;intro j hj;have key:∀(l:List Int),firstE l=0→∀x∈l,x=0:=by
   intro l
   induction l with
   | nil=>intro _ x hx;cases hx
   | cons y r ih=>
    intro h x hx
    by_cases e:y=0
    ·simp only[firstE,e,if_true] at h;rcases bU.1 hx with rfl|hx
     ·exact e
     ·exact ih h x hx
    ·simp only[firstE,e,if_false] at h
  exact key _ hf _ (fP.2 ⟨h[j],dM hj,rfl⟩)
 unfold lJ at h0;rw[if_neg (by omega),if_pos hf] at h0;exact hf h0
theorem GI {t:Tb} (hi:i<8) (h:lJ t[i]=0):lu (dA t) i=if t[i].length=0 then List.replicate 8 zEn else t[i]:=by
 have hl:=oZ h;apply lU;intro r;unfold lu dA;rw[lY]
 by_cases hr:r<8
 ·rw[if_pos hr,rX,iU,sQ (by omega)];simp only[qY];rcases hl with hl|hl
  ·rw[if_pos hl,oK,if_pos hr,Bl hi hr hl]
  ·rw[if_neg (by omega),aI (by omega),Gw hi hr hl (aI (by omega))]
 rw[if_neg hr,dJ];split
 ·simp;omega
 ·omega
theorem HZ {h:List En} (h0:∀e∈h,eT e=0):h.any II=h.any pM:=by
 rw[mg];simp only[je];constructor
 ·rintro⟨e,he,h1⟩;exact⟨e,he,by rw[DF (h0 e he)];exact h1⟩
 ·rintro⟨e,he,h1⟩;exact⟨e,he,by rw[←DF (h0 e he)];exact h1⟩
theorem SV {h:List En} (h0:lJ h=0) (hl:h.length≠0):h.any pM=true:=by
 have h1:=xH (oZ h0) (fun i hi=>Aj h0 _ (dM hi));rw[h0] at h1
 by_cases hh:h.any (fun e=>decide (e.k≠0))=false
 ·rw[if_pos ⟨by omega,hh⟩] at h1;cases h1
 ·simpa[pM] using hh
theorem Ca {t:Tb} (hi:i<8) (h:lJ t[i]=0):lZ (dA t) i=t[i]:=by
 unfold lZ;rw[GI hi h]
 by_cases hl:t[i].length=0
 ·rw[if_pos hl];have:t[i]=[]:=jW hl;rw[this];decide
 rw[if_neg hl,HZ (Aj h),SV h hl];rfl
theorem DN {t:Tb} {n:Int} {e:En} (h:setE t n e=0):setT t n e=gG ((dA t).set n.toNat e):=by
 have h0:dh t=0:=by
  unfold setE at h
  by_cases hw:dh t=0
  ·exact hw
  ·rw[if_pos hw] at h;exact h
 have hn:0≤n∧n<64:=by
  unfold setE at h;rw[if_neg (by rw[h0];simp)] at h
  by_cases hn:n<0∨64≤n
  ·rw[if_pos hn] at h;cases h
  ·omega
 have he:eT e=0:=by unfold setE at h;rwa [if_neg (by rw[h0];simp),if_neg (by omega)] at h
 obtain⟨q,r,hq,hr,a,_,_⟩:=xZ hn;have hN:n.toNat=8*q+r:=by omega
 rw[NV h hq hr a,hN];apply yt;intro i hi;simp only[gG,rU];have hh:=lw h0 i hi
 by_cases ei:i=q
 ·subst ei;rw[Vector.getElem_set_self];have hp:lu ((dA t).set (8*i+r) e) i=(lu (dA t) i).set r e:=by
   apply lU;intro k;have b:(dA t).length=64:=by simp[dA]
   by_cases hk:k<8
   ·unfold lu;rw[lY,if_pos hk,rX]
    by_cases ek:k=r
    ·subst ek;rw[vw (by omega),vw (by simp;omega)]
    ·rw[tY (by omega),tY (fun h=>ek h.symm),lY,if_pos hk,rX]
   ·rw[dJ (by simp[lu];omega),dJ (by simp[lu];omega)]
  unfold lZ;rw[hp,GI hi hh];unfold setH VC;rw[HZ];intro x hx;rcases nu hx with hx|rfl
  ·split at hx
   ·rw[(Dp.1 hx).2];rfl
   ·exact Aj hh x hx
  ·exact he
 rw[xY hq hi (fun h=>ei h.symm)];have hp:lu ((dA t).set (8*q+r) e) i=lu (dA t) i:=by
  apply lU;intro k;unfold lu;rw[lY,lY]
  by_cases hk:k<8
  ·rw[if_pos hk,if_pos hk,rX,rX,tY (by omega)]
  ·rw[if_neg hk,if_neg hk]
 have:lZ ((dA t).set (8*q+r) e) i=lZ (dA t) i:=by unfold lZ;rw[hp]
 rw[this,Ca hi hh]
theorem Qx {m:List Int} (hlm:l.length=m.length) (h:∀i (hi:i<l.length),l[i]=m[i]'(by omega)):(l==m)=true:=by
 rw[beq_iff_eq];exact uf hlm fun i h1 h2=>h i h1
theorem PM {m:List Int} (k:Nat) (h1:k<l.length) (h2:k<m.length) (h:l[k]≠m[k]):(l==m)=false:=by
 rw[beq_eq_false_iff_ne];rintro rfl;exact h rfl
theorem Aq (t:Tb) (k:Nat) (h:k<64):(dA t)[k]?=some (dK t (k:Int)):=by
 unfold dA;simp[h]
theorem mZ (t:Tb):(dA t).length=64:=by simp[dA]
theorem LK (t:Tb):Ga t t=true:=Hd fun _ _=>rfl
theorem pY {t:Tb} (h:dh t=0) (n:Int):eT (dK t n)=0:=by
 by_cases hn:0≤n∧n<64
 ·obtain⟨q,r,hq,hr,rfl,_,_⟩:=xZ hn;rw[AP hq hr];split
  ·rename_i hl;rw[aV,aI (by omega)];exact Aj (lw h q hq) _ (dM _)
  ·rfl
 ·rw[sH (by omega)];rfl
theorem TT {e:En} (h:eT e=0) (h2:II e=false):e=zEn:=by
 have h3:=DF h;rw[h2] at h3;have hk:e.k=0:=by simpa[pM] using h3
 unfold eT at h;obtain⟨k,n,w⟩:=e;simp only at hk;subst hk;simp at h
 by_cases h4:n<0∨60≤n
 ·rw[if_pos h4] at h;cases h
 rw[if_neg h4] at h
 by_cases h5:¬n=0∨w=true
 ·rw[if_pos h5] at h;cases h
 simp only[not_or,ug,Bool.not_eq_true] at h5;obtain⟨rfl,rfl⟩:=h5;rfl
theorem Ex {l:List En} {x:En} (h:x∈lu l i):x∈l:=List.mem_of_mem_drop (List.mem_of_mem_take h)
theorem IL {l:List En} (h:∀x∈l,eT x=0) (hl:l.length=64) (hi:i<8):lJ (lZ l i)=0:=by
 unfold lZ
 by_cases hp:(lu l i).any II=true
 ·rw[if_pos hp];have a:(lu l i).length=8:=Fu hl hi (by omega);rw[xH (.inr a) (fun j hj=>h _ (Ex (dM hj))),if_neg];rintro⟨_,h2⟩;have h3:=HZ (h:=lu l i) (fun x hx=>h x (Ex hx));rw[hp] at h3;have h4:(lu l i).any pM=false:=h2;rw[h4] at h3;cases h3
 ·rw[if_neg hp];rfl
theorem Ch {l:List En} (h:∀x∈l,eT x=0) (hl:l.length=64):dh (gG l)=0:=
 wZ fun i hi=>by simp only[gG,rU];exact IL h hl hi
theorem yU {l:List En} (h:∀x∈l,eT x=0) (hl:l.length=64) (hn:n<64):dK (gG l) (n:Int)=l[n]'(by omega):=by
 obtain⟨q,r,hq,hr,d,_,_⟩:=xZ (n:=(n:Int)) (by omega);have c : n=8*q+r:=by omega
 subst c;rw[AP hq hr];simp only[gG,rU];unfold lZ;have b:(lu l q).length=8:=Fu hl hq (by omega);have a:(lu l q)[r]'(by omega)=l[8*q+r]'(by omega):=by simp[lu]
 by_cases hp:(lu l q).any II=true
 ·simp only[if_pos hp,if_pos b];rw[aV,aI (by omega),←a];rfl
 simp only[if_neg hp];rw[if_neg (by decide),←a];symm;refine TT (h _ (Ex (dM _))) ?_;simp only[je,not_exists,not_and,Bool.not_eq_true] at hp;exact hp _ (dM _)
theorem yR {t:Tb} (h:dh t=0):gG (dA t)=t:=by
 apply yt;intro i hi;simp only[gG,rU];exact Ca hi (lw h i hi)
theorem Ey {l:List En} (h:∀x∈l,eT x=0) (hl:l.length=64):dA (gG l)=l:=by
 apply uf
 ·rw[mZ,hl]
 intro i h1 h2;have:=Aq (gG l) i (by omega);rw[yU h hl (by omega),aI h1] at this;exact aJ this
theorem Rs {t:Tb} (h:dh t=0):∀x∈dA t,eT x=0:=by
 intro x hx;obtain⟨i,hi,rfl⟩:=fP.1 hx;exact pY h _
theorem wu {t:Tb} {n:Int} {e:En} (h:setE t n e=0):dh t=0∧(0≤n∧n<64)∧eT e=0:=by
 unfold setE at h
 by_cases hw:dh t=0
 ·rw[if_neg (by rw[hw];simp)] at h
  by_cases hn:n<0∨64≤n
  ·rw[if_pos hn] at h;cases h
  rw[if_neg hn] at h;exact⟨hw,by omega,h⟩
 ·rw[if_pos hw] at h;exact absurd h hw
theorem Ob {t:Tb} {n:Int} {e:En} (h1:dh t=0) (h2:0≤n∧n<64) (h3:eT e=0):setE t n e=0:=by
 unfold setE;rw[if_neg (by rw[h1];simp),if_neg (by omega),h3]
theorem Ip {t:Tb} {e:En} (h1:dh t=0) (h3:eT e=0):∀x∈(dA t).set n e,eT x=0:=by
 intro x hx;rcases nu hx with hx|rfl
 ·exact Rs h1 x hx
 ·exact h3
theorem ze {t:Tb} {n:Int} {e:En} (h:setE t n e=0):dh (setT t n e)=0:=by
 obtain⟨h1,h2,h3⟩:=wu h;rw[DN h];exact Ch (Ip h1 h3) (by rw[bP,mZ])
theorem Uf {t:Tb} {n:Int} {e:En} (h:setE t n e=0) (k:Int):dK (setT t n e) k=if k=n then e else dK t k:=by
 obtain⟨h1,h2,h3⟩:=wu h;rw[DN h]
 by_cases hk:0≤k∧k<64
 ·obtain⟨j,rfl⟩:=fO hk.1;rw[yU (Ip h1 h3) (by rw[bP,mZ]) (by omega)];rw[CQ]
  by_cases e0:(j:Int)=n
  ·rw[if_pos (by omega),if_pos e0]
  rw[if_neg (by omega),if_neg e0];have:=Aq t j (by omega);rw[aI (by rw[mZ];omega)] at this;exact aJ this
 ·rw[if_neg (by omega),sH (by omega),sH (by omega)]
theorem TU (t:Tb):∀n∈aQ t,0≤n∧n<64:=by
 intro n hn;unfold aQ jI at hn;obtain⟨m,hm,rfl⟩:=fP.1 hn;have:=dG.1 (Ik.1 hm).1;omega
theorem KY {t:Tb} (h:dh t=0):FC t:=fun k hk=>by
 have:=oZ (lw h k hk);omega
theorem zTb_right:dh zTb=0:=by decide
theorem NN {m:Mem} {f:Fr} (hw:bR m=0) (hf:dR f=0):bR ⟨m.fs.set k f,m.hand⟩=0:=by
 obtain⟨h1,h2,h3,h4⟩:=(eQ m).1 hw;rw[eQ];simp only[bP];refine⟨h1,fun g hg => ?_,h3,h4⟩;rcases nu hg with h|rfl
 ·exact h2 g h
 ·exact hf
theorem UX {f:Fr} (h:dR f=0) (hr:f.r=0):f=frZ:=by
 obtain⟨⟨_,_,h1,_,_,_⟩,h2,h3⟩:=(iN f).1 h;obtain⟨h4,h5,h6,h7⟩:=h2 hr;have h8:=h3 h6;have h9:f.f = -1:=by omega
 obtain⟨p,r,u,d,ff,i⟩:=f;simp only at *
 subst hr h4 h5 h7 h8 h9;rfl
theorem ES (h:dx l=0):∀x∈l,qL x=false:=by
 unfold dx at h;split at h
 ·omega
 split at h
 ·omega
 rename_i h1;intro x hx;have:=tZ.1 (by simpa using h1) x hx;simpa using this
theorem Gh (hl:l.length≤60) (h:∀x∈l,qL x=false):dx l=0:=by
 unfold dx;rw[if_neg (by omega),if_neg];simp only[je,not_exists,not_and];intro x hx;simp[h x hx]
theorem Fh (k:Nat) (x:Int) (h:dx l=0) (h0:0≤x) (h1:x≤1000):dx (l.set k x)=0:=by
 refine Gh (by rw[bP];exact jf h) fun y hy => ?_;rcases nu hy with hm|rfl
 ·exact ES h _ hm
 ·simp[qL];omega
theorem TW (f:Nat→Bool) (B:List Page) (Q:List (Int × Page)) (hq:∀x∈Q,0≤x.1) (n i:Nat) (hi:i<B.length):(jE f B Q n)[i]?=some B[i]∨∃x∈Q,x.1=(i:Int)∧(jE f B Q n)[i]?=some x.2:=by
 induction n with
 | zero=>exact .inl (aI hi)
 | succ n ih=>
  by_cases hn:n<Q.length
  ·cases hf:f n with
   | false=>rw[BG hn hf];exact ih
   | true=>
    rw[xS hn hf,kR]
    by_cases he:Q[n].1.toNat=i
    ·have h0:=hq _ (dM hn);rw[if_pos he,if_pos (by rw[kI];omega)];exact .inr ⟨Q[n],dM hn,by omega,rfl⟩
    ·rw[if_neg he];exact ih
  have:jE f B Q (n+1)=jE f B Q n:=by rw[jE,dJ (by omega)]
  rw[this];exact ih
theorem QM (B:List Page) (Q:List (Int × Page)) (hq:∀x∈Q,0≤x.1) (n i:Nat) (hn:n≤Q.length) (hi:i<B.length):(jE (fun _=>true) B Q n)[i]?=some (over (i:Int) B[i] (Q.take n)):=by
 induction n with
 | zero=>simp[jE,over,hi]
 | succ n ih=>
  have a : n<Q.length:=by omega
  rw[xS a rfl,kR,Hl _ _ _ _ a];have h0:=hq _ (dM a)
  by_cases he:Q[n].1.toNat=i
  ·rw[if_pos he,if_pos (by rw[kI];omega),if_pos (by omega)]
  ·rw[if_neg he,if_neg (by omega)];exact ih (by omega)
theorem Ff (f:Nat→Bool) {d:oD} (hw:bi d=0):bi (lc f d)=0:=by
 obtain⟨h2,h3,h4⟩:=(gD d).1 hw;rw[gD];unfold lc;rw[if_pos hw];simp only[kI];exact⟨h2,by simp,by simp⟩
theorem RY (f:Nat→Bool) {d:oD} (hw:bi d=0) (k:Int):aN (lc f d) k=aN d k:=by
 unfold aN;rw[Ff f hw,hw];unfold lc;rw[if_pos hw];simp only[kI]
theorem Nw {d:oD} (hw:bi d=0) (k:Int):jc (lc (fun _=>true) d) k=jc d k:=by
 unfold jc;rw[RY _ hw]
 by_cases h:aN d k=0
 ·obtain⟨_,h0,h1⟩:=nC.1 h;obtain⟨h2,h3,h4⟩:=(gD d).1 hw;rw[if_pos h,if_pos h];unfold lc;rw[if_pos hw];obtain⟨k,rfl⟩:=fO h0;have:=QM d.blocks d.queue (fun x hx=>(h4 x hx).1) d.queue.length k (az _) (by omega);simp only[bX,over,List.foldl_nil,aV];rw[this,yj,aI (by omega)];rfl
 ·rw[if_neg h,if_neg h]
theorem FX {α:Type} {l:List α} {x:α} (h:l[i]?=some x) (y:α):l=l.take i++x::l.drop (i+1)∧l.set i y=l.take i++y::l.drop (i+1):=by
 obtain⟨hi,rfl⟩:=dn.1 h;refine⟨?_,?_⟩
 ·rw[List.getElem_cons_drop,qN]
 ·rw[List.set_eq_take_append_cons_drop,if_pos hi]
theorem Uh {x:Int} (h:x<0) (l:List Int):kE (x::l)=kE l:=by unfold kE;rw[IV,if_neg (by simp;omega)]
theorem Jj {x:Int} (h:0≤x) (l:List Int):kE (x::l)=x::kE l:=by unfold kE;rw[IV,if_pos (by simpa using h)]
theorem Kh {s:St} {F:Nat} {f:Fi} (hf:s.fs[F]?=some f) {v:Int} (hv:f.b[I]?=some v) (hn:v<0) {X:Int} (hX:0≤X) (n c:Int) :
  (kE (kF ⟨s.fs.set F ⟨n,f.b.set I X⟩,c⟩)).Perm (X::kE (kF s)):=by
 have e1:=FX hf ⟨n,f.b.set I X⟩;have e2:=FX hv X;unfold kF;show (kE ((s.fs.set F ⟨n,f.b.set I X⟩).flatMap Fi.b)).Perm (X::kE (s.fs.flatMap Fi.b));rw[e1.2]
 conv=>rhs;rw[e1.1]
 simp only[fu,lX,uK];rw[e2.2]
 conv=>rhs;rw[show f.b=f.b.take I++v::f.b.drop (I+1) from e2.1]
 simp only[uK,Uh hn,Jj hX];refine List.Perm.trans ?_ List.perm_middle;refine List.Perm.append_left _ ?_;rw[iw,iw];exact List.perm_middle
theorem He {s:St} (h:0≤gV s):gV s<s.count∧gW s (gV s)=false:=by
 unfold gV at h ⊢;cases hf:(List.range s.count.toNat).find? (fun b:Nat => !gW s b) with
 | none=>rw[hf] at h;simp at h
 | some b=>
  have h1:=dG.1 (uu hf);have h2:=qM hf;simp only;refine⟨by omega,by simpa using h2⟩
theorem BV {s:St} {k i:Int} (h:dz s k i=0):aP s=0∧∃(F I:Nat) (f:Fi) (v:Int),k=F∧i=I∧s.fs[F]?=some f∧f.b[I]?=some v∧aM s k=f∧bM s k i=v ∧
  ((0≤v∧dO s k i=s∧dS s k i=v)∨(v<0∧0≤gV s∧dS s k i=gV s∧dO s k i=⟨s.fs.set F ⟨f.n,f.b.set I (gV s)⟩,s.count⟩)):=by
 have h':=h;unfold dz at h'
 by_cases g1:aP s≠0
 ·rw[if_pos g1] at h'; exact absurd h' g1
 rw[if_neg g1] at h'
 by_cases g2:k<0∨(s.fs.length:Int)≤k
 ·rw[if_pos g2] at h'; cases h'
 rw[if_neg g2] at h'
 by_cases g3:i<0∨((aM s k).b.length:Int)≤i
 ·rw[if_pos g3] at h'; cases h'
 rw[if_neg g3] at h'
 by_cases g4:bM s k i<0∧gV s<0
 ·rw[if_pos g4] at h'; cases h'
 obtain⟨F,rfl⟩:=fO (show 0≤k by omega);obtain⟨I,rfl⟩:=fO (show 0≤i by omega);have hF:F<s.fs.length:=by omega
 have a:aM s F=s.fs[F]:=by unfold aM;rw[if_pos (by omega),bX,aV,aI hF];rfl
 rw[a] at g3;have hI:I<s.fs[F].b.length:=by omega
 have c:bM s F I=s.fs[F].b[I]:=by unfold bM;rw[a,bX,aV,aI hI];rfl
 refine⟨ug.1 g1,F,I,s.fs[F],s.fs[F].b[I],rfl,rfl,aI hF,aI hI,a,c,?_⟩;have hS:dO s F I=if bM s F I<0 then AV s F ⟨(aM s F).n,(aM s F).b.set ((I:Int)).toNat (gV s)⟩ else s:=by unfold dO;rw[if_neg (by rw[h];simp)]
 have hN:dS s F I=if bM s F I<0 then gV s else bM s F I:=by unfold dS;rw[if_neg (by rw[h];simp)]
 rw[hS,hN,c];rw[c] at g4
 by_cases g5:s.fs[F].b[I]<0
 ·refine .inr ⟨g5,by omega,if_pos g5,?_⟩;rw[if_pos g5,a,bX];unfold AV;rw[bX]
 ·exact .inl ⟨by omega,if_neg g5,if_neg g5⟩
theorem Ia {s:St} {x:Int} (h:gW s x=false):¬x∈kF s:=by
 unfold gW at h;simpa using h
theorem Pj {s:St} {F:Nat} {f:Fi} {v:Int} (h:aP s=0) (hf:s.fs[F]?=some f) (hv:f.b[I]?=some v) (h0:0≤v):dz s F I=0∧dS s F I=v∧dO s F I=s:=by
 have hF:=(dn.1 hf).1;have hI:=(dn.1 hv).1;have c:aM s F=f:=by unfold aM;rw[if_pos (by omega),bX,aV,hf];rfl
 have a:bM s F I=v:=by unfold bM;rw[c,bX,aV,hv];rfl
 have hE:dz s F I=0:=by unfold dz;rw[if_neg (by rw[h];simp),if_neg (by omega),c,if_neg (by omega),a,if_neg (by omega)]
 refine⟨hE,?_,?_⟩
 ·unfold dS;rw[if_neg (by rw[hE];simp),a,if_neg (by omega)]
 ·unfold dO;rw[if_neg (by rw[hE];simp),a,if_neg (by omega)]
theorem Cy {s:St} (h:aP s=0) {F:Nat} {f:Fi} {v:Int} (hf:s.fs[F]?=some f) (hv:f.b[I]?=some v) (hn:v<0) {X:Int} (hX:0≤X) (hXc:X<s.count) (hu:gW s X=false) :
  aP ⟨s.fs.set F ⟨f.n,f.b.set I X⟩,s.count⟩=0:=by
 obtain⟨h1,h2,h3⟩:=kZ.1 h;have a:=h2 f (bN hf);refine kZ.2 ⟨by simpa using h1,fun g hg => ?_,?_⟩
 ·rcases nu hg with hg|rfl
  ·exact h2 g hg
  refine⟨a.1,a.2.1,by simpa using a.2.2.1,fun b hb => ?_⟩;rcases nu hb with hb|rfl
  ·exact a.2.2.2 b hb
  show -1≤b∧b<s.count;omega
 ·exact (Kh hf hv hn hX f.n s.count).nodup_iff.2 (sW.2 ⟨fun hm=>Ia hu (jd.1 hm).1,h3⟩)
theorem Le {s:St} {k i:Int} (h:dz s k i=0):aP (dO s k i)=0∧dz (dO s k i) k i=0∧dS (dO s k i) k i=dS s k i∧dO (dO s k i) k i=dO s k i ∧
  ((0≤bM s k i∧dO s k i=s)∨(bM s k i<0∧gW s (dS s k i)=false∧zg (dO s k i)=zg s-1)):=by
 obtain⟨hw,F,I,f,v,rfl,rfl,hf,hv,e,c,hc⟩:=BV h;rcases hc with ⟨h0,hS,hN⟩|⟨hn,h0,hN,hS⟩
 ·rw[hS];exact⟨hw,h,rfl,hS,.inl ⟨by rw[c];exact h0,rfl⟩⟩
 obtain⟨d,hu⟩:=He h0;have a:=Cy hw hf hv hn h0 d hu;have hF:=(dn.1 hf).1;have hI:=(dn.1 hv).1;have hb:=Pj (F:=F) (I:=I) (f:=⟨f.n,f.b.set I (gV s)⟩) (v:=gV s) a (vw hF) (vw hI) h0;rw[hS,hN];refine⟨a,hb.1,hb.2.1,hb.2.2,.inr ⟨by rw[c];exact hn,hu,?_⟩⟩;have hp:=(Kh hf hv hn h0 f.n s.count).length_eq;unfold zg;show s.count-((kE _).length:Int)=s.count-((kE _).length:Int)-1;rw[hp,pG];omega
structure Cc where
 f:Int
 i:Int
 k:Int
 deriving DecidableEq
def Bf (c:Cc):Array Value:=#[.int .i64 c.f,.int .i64 c.i,.int .i64 c.k]
def mE (c:Cc):List Value:=(Bf c).toList
theorem pR (c:Cc):(mE c).length=3:=rfl
structure Sp where
 lv:Bool
 ar:List Ar
 tb:Tb
 deriving DecidableEq
structure Ma where
 m:Mem
 sl:List Int
 sw:oD
 dk:oD
 st:St
 ca:List Cc
 sp:List Sp
def zCc:Cc:=⟨0,0,0⟩
def zSp:Sp:=⟨false,[],zTb⟩
def zMa:Ma:=⟨noM,[],⟨[],[]⟩,⟨[],[]⟩,zSt,[],[]⟩
def cnt (l:List Int) (k:Int):Nat:=l.countP fun x=>decide (x=k)
def trimB (m:Ma):Bool:=
 (List.range m.dk.blocks.length).all (fun b:Nat=>decide ((b:Int)∈kF m.st)||decide (m.dk.blocks.getD b zPg=zPg))&&m.dk.queue.all fun q=>decide (q.1∈kF m.st)
def jO (s:Sp):Int:=if (bJ s.ar).1≠0 then (bJ s.ar).1 else if dh s.tb≠0 then dh s.tb else if s.lv=false∧0<s.ar.length+(aQ s.tb).length then 7 else 0
def iq (m:Ma):Int:=
 if bR m.m≠0 then bR m.m else if dx m.sl≠0 then dx m.sl else if bi m.sw≠0 then bi m.sw else if bi m.dk≠0 then bi m.dk else if aP m.st≠0 then aP m.st
 else if m.sw.blocks.length≠m.sl.length∨(m.dk.blocks.length:Int)≠m.st.count∨trimB m=false then 7
 else if 4<m.sp.length then 4 else firstE (m.sp.map jO)
def qG (m:Ma) (k:Int):Fr:=m.m.fs.getD k.toNat fr0
def uA (m:Ma) (p:Option Cc) (c:Cc):Int:=
 if c.f<0∨(m.st.fs.length:Int)≤c.f∨c.i<0∨((aM m.st c.f).b.length:Int)≤c.i∨c.k<0∨(m.m.fs.length:Int)≤c.k then 3
 else if (qG m c.k).r<1∨(qG m c.k).f≠c.f∨(qG m c.k).i≠c.i then 7
 else match p with
  | none=>0
  | some q=>if c.f<q.f∨q.f=c.f∧c.i≤q.i then 2 else 0
def yJ (l:List Cc) (k:Nat):Option Cc:=if k=0 then none else l[k-1]?
def cachedE (m:Ma):Int:=firstE ((List.range m.ca.length).map fun k=>uA m (yJ m.ca k) (m.ca.getD k zCc))
def bW (m:Ma) (s:Sp) (n:Int):Int:=
 if kH s.ar n<0 then 5 else
 let a:=s.ar.getD (kH s.ar n).toNat zAr;let e:=dK s.tb n
 if e.k=2 then (if (m.sl.length:Int)≤e.n∨a.sh=true then 7 else 0)
 else if (m.m.fs.length:Int)≤e.n then 3 else
 let f:=qG m e.n;let of:=decide (0≤a.fi)&&decide (f.f=a.fi)&&decide (f.i=a.ba+n-a.fr)
 if 0≤f.f∧of=false∨a.sh=true∧of=false∨a.sh=false∧of=true∧e.w=true∨e.w=true∧a.wr=false then 7
 else if f.f<0∧e.w=true∧1<f.r then 7 else 0
def mK (m:Ma):Int:=firstE (m.sp.flatMap fun s=>(aQ s.tb).map (bW m s))
def nI (t:Tb) (l:List Int):List Int:=(l.filter fun n=>decide ((dK t n).k=1)).map fun n=>(dK t n).n
def swapT (t:Tb) (l:List Int):List Int:=(l.filter fun n => !decide ((dK t n).k=1)).map fun n=>(dK t n).n
def sG (m:Ma):List Int:=m.ca.map Cc.k++m.sp.flatMap fun s=>nI s.tb (aQ s.tb)
def qd (m:Ma):List Int:=m.sp.flatMap fun s=>swapT s.tb (aQ s.tb)
def ky (n:Nat) (l:List Int):List Int:=(List.range n).map fun i:Nat=>(cnt l i:Int)
def countB (m:Ma):Bool:=
 (List.range m.m.fs.length).all (fun i:Nat=>decide ((qG m i).r=cnt (sG m) i)&&(decide ((qG m i).f<0)||m.ca.any fun c=>decide (c.k=i)))&&decide (m.sl=ky m.sl.length (qd m))
def jR (m:Ma):Int:=if iq m≠0 then iq m else if cachedE m≠0 then cachedE m else if mK m≠0 then mK m else if countB m=true then 0 else 7
def bC (m:Ma) (f i:Int):Page:=
 match m.ca.find? fun c=>decide (c.f=f)&&decide (c.i=i) with
 | some c=>(qG m c.k).p
 | none=>if 0≤bM m.st f i then fJ (jc m.dk (bM m.st f i)) ((aM m.st f).n-i*8) else zPg
def Ab (s:St) (f i:Int):Bool:=decide (dW (aM s f).n≤i)
structure Kp where
 m:Ma
 e:Int
def jo (k e:Int):Int:=if k=0 then e else k
def fH (m:Ma) (p:Nat):Sp:=m.sp.getD p zSp
def setTb (m:Ma) (p:Nat) (t:Tb):Ma:={ m with sp:=m.sp.set p { fH m p with tb:=t } }
def jV (k:Kp) (p:Nat) (n:Int) (x:En):Kp:=
 if setE (fH k.m p).tb n x=0 then ⟨setTb k.m p (setT (fH k.m p).tb n x),k.e⟩ else ⟨k.m,jo k.e (setE (fH k.m p).tb n x)⟩
def iM (k:Kp) (f n:Int):Kp:=
 if ny k.m.m f n=0 then ⟨{ k.m with m:=lK k.m.m f n },k.e⟩ else ⟨k.m,jo k.e (ny k.m.m f n)⟩
def pq (k:Kp) (s n:Int):Kp:=
 if gK k.m.sl s n=0 then ⟨{ k.m with sl:=gM k.m.sl s n },k.e⟩ else ⟨k.m,jo k.e (gK k.m.sl s n)⟩
def qD (k:Kp) (p:Nat) (n:Int):Kp:=
 let x:=dK (fH k.m p).tb n
 if x.k=1 then jV (iM k x.n (-1)) p n zEn else if x.k=2 then jV (pq k x.n (-1)) p n zEn else k
def Bw (f i:Int) (c:Cc):Bool:=decide (f<c.f)||(decide (c.f=f)&&decide (i≤c.i))
def zy (l:List Cc) (f i:Int):Nat:=(l.findIdx? (Bw f i)).getD l.length
def Rc (l:List Cc) (f i:Int):Bool:=match l[zy l f i]? with
 | some c=>decide (c.f=f)&&decide (c.i=i)
 | none=>false
def setFr (m:Ma) (f:Nat) (x:Fr):Ma:={ m with m:={ m.m with fs:=m.m.fs.set f x } }
def aR (m:Ma) (f:Nat):Fr:=m.m.fs.getD f fr0
def iI (m:Ma) (f:Nat):Bool:=decide ((aR m f).f<0)||!(aR m f).d||decide (dz m.st (aR m f).f (aR m f).i=0)
def gU (k:Kp) (f:Nat):Kp:=
 let x:=aR k.m f
 if x.f<0∨x.d=false∨dz k.m.st x.f x.i≠0 then k
 else ⟨setFr { k.m with st:=dO k.m.st x.f x.i,dk:=dE k.m.dk (dS k.m.st x.f x.i) x.p } f { x with d:=false },jo k.e (aN k.m.dk (dS k.m.st x.f x.i))⟩
def bq (m:Ma) (f:Int):List (Nat × Int):=(List.range m.sp.length).flatMap fun p=>(oJ (fH m p).tb 1 f).map fun n=>(p,n)
def kL (k:Kp) (l:List (Nat × Int)):Kp:=l.foldl (fun k u=>qD k u.1 u.2) k
def GY (f n:Int) (k:Kp) (u:Nat × Int):Kp:=jV (iM k f (-1)) u.1 u.2 ⟨2,n,false⟩
def sF (k:Kp) (f n:Int) (l:List (Nat × Int)):Kp:=l.foldl (GY f n) k
def lW (m:Ma) (f:Nat):Bool:=if 0≤(aR m f).f then iI m f else decide (iy m.sl (bq m f).length=0)
def fF (k:Kp) (f:Nat):Kp:=
 let x:=aR k.m f;let l:=bq k.m f
 if 0≤x.f then
  if iI k.m f=false then k else
  let k2:=kL (gU k f) l
  if Rc k2.m.ca x.f x.i=true then iM ⟨{ k2.m with ca:=k2.m.ca.eraseIdx (zy k2.m.ca x.f x.i) },k2.e⟩ f (-1) else k2
 else if iy k.m.sl l.length≠0 then k
 else sF ⟨{ k.m with sl:=lL k.m.sl l.length,sw:=dE k.m.sw (jM k.m.sl l.length) x.p },jo k.e (aN k.m.sw (jM k.m.sl l.length))⟩ f (jM k.m.sl l.length) l
def reclaimN:Nat→Kp→Kp × Bool
 | 0,k=>(k,false)
 | t+1,k=>
  if bR k.m.m≠0∨iQ k.m.m<0 then (⟨k.m,jo k.e (bR k.m.m)⟩,false) else
  let k1:Kp:=⟨{ k.m with m:=fU k.m.m },k.e⟩
  if lW k1.m (iQ k.m.m).toNat=true then (fF k1 (iQ k.m.m).toNat,true) else reclaimN t (fF k1 (iQ k.m.m).toNat)
def eF (k:Kp):Kp × Bool:=reclaimN (2*k.m.m.fs.length+1) k
def RB (m:Ma) (i:Nat):Cc:=m.ca.getD i zCc
def ic (m:Ma) (f i:Int):Page:=if 0≤bM m.st f i then fJ (jc m.dk (bM m.st f i)) ((aM m.st f).n-i*8) else zPg
def Du (k:Kp) (i:Nat):Kp:=
 let c:=RB k.m i;let k1:=kL k (bq k.m c.k)
 iM ⟨{ k1.m with ca:=k1.m.ca.eraseIdx i },k1.e⟩ c.k (-1)
def ent (m:Ma) (p:Nat) (n:Int):En:=dK (fH m p).tb n
structure Pt (m:Ma):Prop where
 fr:bR m.m=0
 sl:dx m.sl=0
 sw:bi m.sw=0
 dk:bi m.dk=0
 st:aP m.st=0
 swl:m.sw.blocks.length=m.sl.length
 dkl:(m.dk.blocks.length:Int)=m.st.count
 spl:m.sp.length≤4
 ar:∀s∈m.sp,(bJ s.ar).1=0
 tb:∀s∈m.sp,dh s.tb=0
theorem DL {m:Ma} (h:p<m.sp.length):m.sp[p]?=some (fH m p):=by
 unfold fH;rw[aV,aI h];rfl
theorem Df {m:Ma} (h:p<m.sp.length):fH m p∈m.sp:=bN (DL h)
theorem qW {m:Ma} (h:m.sp.length≤p):fH m p=zSp:=by
 unfold fH;rw[aV,dJ h];rfl
theorem Oi {m:Ma} {s:Sp} (h:s∈m.sp):∃p,p<m.sp.length∧s=fH m p:=by
 obtain⟨i,hi,rfl⟩:=jK.1 h;refine⟨i,hi,?_⟩;have:=DL (m:=m) hi;rw[aI hi] at this;exact aJ this
theorem Pt.tbN {m:Ma} (h:Pt m) (p:Nat):dh (fH m p).tb=0:=by
 rcases fG p m.sp.length with hp|hp
 ·exact h.tb _ (Df hp)
 ·rw[qW hp];decide
theorem Pt.arN {m:Ma} (h:Pt m) (p:Nat):(bJ (fH m p).ar).1=0:=by
 rcases fG p m.sp.length with hp|hp
 ·exact h.ar _ (Df hp)
 ·rw[qW hp];decide
theorem ul {m:Ma} (h:Pt m) (p:Nat) (n:Int):eT (ent m p n)=0:=pY (h.tbN p) n
theorem Oq {m:Ma} (p:Nat) {n:Int} (h:n<0∨64≤n):ent m p n=zEn:=sH h
theorem cO (e:En):eT e=0↔(e.k=0∧e.n=0∧e.w=false)∨(e.k=1∧0≤e.n∧e.n<40)∨(e.k=2∧0≤e.n∧e.n<60∧e.w=false):=by
 obtain⟨k,n,w⟩:=e;unfold eT;simp only;cases w
 all_goals
  simp only[vK,reduceCtorEq,and_true,and_false,or_false,false_or,or_true];constructor
  ·intro h;split at h
   ·omega
   split at h
   ·omega
   ·split at h<;>omega
  intro h;split
  ·omega
  split
  ·omega
  split
  ·omega
  ·rfl
theorem FZ {m:Ma} {t:Tb} (hp:p<m.sp.length) (q:Nat):fH (setTb m p t) q=if q=p then { fH m p with tb:=t } else fH m q:=by
 unfold setTb;show (m.sp.set p _).getD q zSp=_;rw[aV,kR]
 by_cases e:q=p
 ·subst e;rw[if_pos rfl,if_pos hp,if_pos rfl];rfl
 ·rw[if_neg (fun h=>e h.symm),if_neg e];unfold fH;rw[aV]
theorem Py {m:Ma} {t:Tb} (hp:p<m.sp.length) (q:Nat) (n:Int):ent (setTb m p t) q n=if q=p then dK t n else ent m q n:=by
 unfold ent;rw[FZ hp]
 by_cases e:q=p
 ·rw[if_pos e,if_pos e]
 ·rw[if_neg e,if_neg e]
theorem uR {m:Ma} {t:Tb}:(setTb m p t).sp.length=m.sp.length:=bP
theorem Pt.setTb {m:Ma} (h:Pt m) {p:Nat} {t:Tb} (ht:dh t=0):Pt (setTb m p t):=by
 by_cases hp:p<m.sp.length
 ·refine { h with spl:=by rw[uR];exact h.spl,ar:=fun s hs => ?_,tb:=fun s hs => ?_ }
  ·rcases nu hs with hs|rfl
   ·exact h.ar s hs
   ·exact h.arN p
  rcases nu hs with hs|rfl
  ·exact h.tb s hs
  ·exact ht
 have:Go.Proofs.YtjkkoeijlhfneaaGreat.setTb m p t=m:=by unfold Go.Proofs.YtjkkoeijlhfneaaGreat.setTb;rw[List.set_eq_of_length_le (by omega)]
 rw[this];exact h
def rD (kd i:Int) (e:En):Bool:=decide (e.k=kd)&&decide (e.n=i)
def dD (m:Ma) (kd i:Int):Nat:=(m.sp.map fun s=>(dA s.tb).countP (rD kd i)).sum
def wM (b:Bool):Nat:=if b=true then 1 else 0
theorem countP_set {α:Type} (q:α→Bool):∀(l:List α) (k:Nat) (h:k<l.length) (x:α),(l.set k x).countP q+wM (q l[k])=l.countP q+wM (q x)
 | a::l,0,_,x=>by simp only[qO,zC,ou,wM];omega
 | a::l,k+1,h,x=>by have:=countP_set q l k (by simpa using h) x;simp only[vE,Dn,ou];omega
theorem sum_set:∀(l:List Nat) (k:Nat) (h:k<l.length) (x:Nat),(l.set k x).sum+l[k]=l.sum+x
 | a::l,0,_,x=>by simp only[qO,zC,zS];omega
 | a::l,k+1,h,x=>by have:=sum_set l k (by simpa using h) x;simp only[vE,Dn,zS];omega
theorem Ag {t:Tb} {n:Int} {e:En} (h:setE t n e=0):dA (setT t n e)=(dA t).set n.toNat e:=by
 obtain⟨h1,h2,h3⟩:=wu h;rw[DN h,Ey (Ip h1 h3) (by rw[bP,mZ])]
theorem Mc {t:Tb} {n:Int} {e:En} (h:setE t n e=0) (q:En→Bool):(dA (setT t n e)).countP q+wM (q (dK t n))=(dA t).countP q+wM (q e):=by
 obtain⟨h1,h2,h3⟩:=wu h;have hl:n.toNat<(dA t).length:=by rw[mZ];omega
 have h4:=countP_set q (dA t) n.toNat hl e;have h5:=Aq t n.toNat (by omega);rw[aI hl,xP h2.1] at h5;rw[aJ h5] at h4;rw[Ag h];exact h4
theorem wS {m:Ma} (hp:p<m.sp.length) {n:Int} {x:En} (h:setE (fH m p).tb n x=0) (kd i:Int) :
  dD (setTb m p (setT (fH m p).tb n x)) kd i+wM (rD kd i (ent m p n))=dD m kd i+wM (rD kd i x):=by
 have h1:=Mc h (rD kd i);have h2:=sum_set (m.sp.map fun s=>(dA s.tb).countP (rD kd i)) p (by simpa using hp) ((dA (setT (fH m p).tb n x)).countP (rD kd i));unfold dD setTb;rw[CZ];have h3:(m.sp.map fun s=>(dA s.tb).countP (rD kd i))[p]'(by simpa using hp)=(dA (fH m p).tb).countP (rD kd i):=by rw[vQ];have:=DL hp;rw[aI hp] at this;rw[aJ this]
 rw[h3] at h2;have h4:wM (rD kd i (ent m p n))=wM (rD kd i (dK (fH m p).tb n)):=rfl;simp only;omega
theorem UU {l:List Nat}:0<l.sum↔∃k,∃h:k<l.length,0<l[k]:=by
 induction l with
 | nil=>simp
 | cons a l ih=>
  rw[zS];constructor
  ·intro h
   by_cases ha:0<a
   ·exact⟨0,by simp,by simpa using ha⟩
   obtain⟨k,hk,hx⟩:=ih.1 (by omega);exact⟨k+1,by simpa using hk,by simpa using hx⟩
  rintro⟨k,hk,hx⟩;cases k with
  | zero=>simp at hx;omega
  | succ k=>
   have:=ih.2 ⟨k,by simpa using hk,by simpa using hx⟩;omega
theorem zD {m:Ma} {i:Int} (hk:kd≠0):0<dD m kd i↔∃p n,p<m.sp.length∧(0≤n∧n<64)∧(ent m p n).k=kd∧(ent m p n).n=i:=by
 unfold dD;rw[UU];constructor
 ·rintro⟨p,hp,h⟩;have a : p<m.sp.length:=by simpa using hp
  rw[vQ] at h;obtain⟨e,he,hq⟩:=xM.1 h;obtain⟨j,hj,rfl⟩:=jK.1 he;have b : j<64:=by rw[mZ] at hj;exact hj
  have hs:m.sp[p]=fH m p:=by have:=DL a;rw[aI a] at this;exact aJ this
  have h5:=Aq m.sp[p].tb j b;rw[aI hj] at h5;rw[aJ h5,hs] at hq;unfold rD at hq;simp only[dU,decide_eq_true_eq] at hq;exact⟨p,j,a,by omega,hq.1,hq.2⟩
 rintro⟨p,n,hp,hn,h1,h2⟩;refine⟨p,by simpa using hp,?_⟩;rw[vQ,xM];have hs:m.sp[p]=fH m p:=by have:=DL hp;rw[aI hp] at this;exact aJ this
 refine⟨ent m p n,?_,by unfold rD;rw[h1,h2];simp⟩;rw[hs];have h5:=Aq (fH m p).tb n.toNat (by omega);rw[xP hn.1] at h5;exact bN h5
theorem yQ {m:Ma} (h:f<m.m.fs.length):m.m.fs[f]?=some (aR m f):=by
 unfold aR;rw[aV,aI h];rfl
theorem UV {m:Ma} (h:f<m.m.fs.length):aR m f∈m.m.fs:=bN (yQ h)
theorem Om {m:Ma} (h:m.m.fs.length≤f):aR m f=fr0:=by
 unfold aR;rw[aV,dJ h];rfl
theorem nT {m:Ma} {x:Fr} (h:f<m.m.fs.length) (g:Nat):aR (setFr m f x) g=if g=f then x else aR m g:=by
 unfold aR setFr;simp only;rw[aV,kR]
 by_cases e:g=f
 ·subst e;rw[if_pos rfl,if_pos h,if_pos rfl];rfl
 ·rw[if_neg (fun e'=>e e'.symm),if_neg e,aV]
theorem nE {m:Ma} {x:Fr}:(setFr m f x).m.fs.length=m.m.fs.length:=bP
theorem Pt.frE {m:Ma} (h:Pt m) (hf:f<m.m.fs.length):dR (aR m f)=0:=((eQ _).1 h.fr).2.1 _ (UV hf)
theorem Pt.setFr {m:Ma} (h:Pt m) {f:Nat} {x:Fr} (hx:dR x=0):Pt (setFr m f x):={ h with fr:=NN h.fr hx }
theorem Sg {x:Fr} {n:Int} (h:dR x=0) (hr:x.r≠0) (h1 : -x.r≤n) (h2:n≤1000-x.r):dR (jG x n)=0:=by
 unfold jG
 by_cases h0:x.r+n=0
 ·rw[if_pos h0];decide
 rw[if_neg h0,iN];have:=(iN x).1 h;refine⟨by simp only;omega,fun h3=>absurd h3 h0,this.2.2⟩
theorem Si {m:Mem} {k n:Int} (h:bR m=0) (hk:0≤k∧k<m.fs.length) (hr:(m.fs.getD k.toNat fr0).r≠0) (h1 : -(m.fs.getD k.toNat fr0).r≤n) (h2:n≤1000-(m.fs.getD k.toNat fr0).r):ny m k n=0:=by
 unfold ny;rw[if_neg (by rw[h];simp),if_neg (by omega),if_neg (by omega)]
theorem JW {k:Kp} {n:Int} (h:Pt k.m) (hf:f<k.m.m.fs.length) (hr:(aR k.m f).r≠0) (h1 : -(aR k.m f).r≤n) (h2:n≤1000-(aR k.m f).r) :
  iM k f n=⟨setFr k.m f (jG (aR k.m f) n),k.e⟩∧Pt (setFr k.m f (jG (aR k.m f) n)):=by
 have h0:ny k.m.m (f:Int) n=0:=Si h.fr (by omega) hr h1 h2;refine⟨?_,h.setFr (Sg (h.frE hf) hr h1 h2)⟩;unfold iM;rw[if_pos h0];congr 1;unfold lK;rw[if_pos h0];rfl
def pu (m:Ma) (s:Nat):Int:=m.sl.getD s 0
def setSl (m:Ma) (s:Nat) (n:Int):Ma:={ m with sl:=m.sl.set s n }
theorem MF {m:Ma} (h:f<m.sl.length):m.sl[f]?=some (pu m f):=by
 unfold pu;rw[aV,aI h];rfl
theorem Og {m:Ma} {x:Int} (h:f<m.sl.length) (g:Nat):pu (setSl m f x) g=if g=f then x else pu m g:=by
 unfold pu setSl;simp only;rw[aV,kR]
 by_cases e:g=f
 ·subst e;rw[if_pos rfl,if_pos h,if_pos rfl];rfl
 ·rw[if_neg (fun e'=>e e'.symm),if_neg e,aV]
theorem Pt.slB {m:Ma} (h:Pt m) (s:Nat):0≤pu m s∧pu m s≤1000:=by
 rcases fG s m.sl.length with hs|hs
 ·have:=ES h.sl _ (bN (MF hs));unfold qL at this;simp only[zJ,decide_eq_false_iff_not] at this;omega
 ·unfold pu;rw[aV,dJ hs];simp
theorem Pt.setSl {m:Ma} (h:Pt m) {s:Nat} {n:Int} (h0:0≤n) (h1:n≤1000):Pt (setSl m s n):=
 { h with sl:=Fh s n h.sl h0 h1,swl:=h.swl.trans bP.symm }
theorem uI {k:Kp} {n:Int} {x:En} (h:Pt k.m) (hn:0≤n∧n<64) (hx:eT x=0) :
  setE (fH k.m p).tb n x=0∧jV k p n x=⟨setTb k.m p (setT (fH k.m p).tb n x),k.e⟩∧Pt (setTb k.m p (setT (fH k.m p).tb n x)):=by
 have h0:=Ob (h.tbN p) hn hx;refine⟨h0,?_,h.setTb (ze h0)⟩;unfold jV;rw[if_pos h0]
theorem xB {m:Ma} {n:Int} {x:En} (hp:p<m.sp.length) (h:setE (fH m p).tb n x=0) (q:Nat) (j:Int):ent (setTb m p (setT (fH m p).tb n x)) q j=if q=p∧j=n then x else ent m q j:=by
 rw[Py hp]
 by_cases e:q=p
 ·subst e;rw[if_pos rfl,Uf h]
  by_cases e2:j=n
  ·rw[if_pos e2,if_pos ⟨rfl,e2⟩]
  ·rw[if_neg e2,if_neg (fun h'=>e2 h'.2)];rfl
 ·rw[if_neg e,if_neg (fun h'=>e h'.1)]
structure kS (m m' : Ma):Prop where
 len:m'.sp.length=m.sp.length
 lv:∀p,(fH m' p).lv=(fH m p).lv
 ar:∀p,(fH m' p).ar=(fH m p).ar
theorem kS.refl (m:Ma):kS m m:=⟨rfl,fun _=>rfl,fun _=>rfl⟩
theorem kS.trans {a b c:Ma} (h:kS a b) (k:kS b c):kS a c:=⟨k.len.trans h.len,fun p=>(k.lv p).trans (h.lv p),fun p=>(k.ar p).trans (h.ar p)⟩
theorem kS.of {m m' : Ma} (h:m'.sp=m.sp):kS m m':=⟨by rw[h],fun p=>by unfold fH;rw[h],fun p=>by unfold fH;rw[h]⟩
theorem kS.setTb {m:Ma} {p:Nat} {t:Tb}:kS m (setTb m p t):=by
 by_cases hp:p<m.sp.length
 ·refine⟨uR,fun q => ?_,fun q => ?_⟩
  all_goals
   rw[FZ hp]
   by_cases e:q=p
   ·rw[if_pos e,e]
   ·rw[if_neg e]
 have:Go.Proofs.YtjkkoeijlhfneaaGreat.setTb m p t=m:=by unfold Go.Proofs.YtjkkoeijlhfneaaGreat.setTb;rw[List.set_eq_of_length_le (by omega)]
 rw[this];exact .refl _
structure Rest (m m' : Ma):Prop where
 sl:m'.sl=m.sl
 sw:m'.sw=m.sw
 dk:m'.dk=m.dk
 st:m'.st=m.st
 ca:m'.ca=m.ca
theorem Rest.refl (m:Ma):Rest m m:=⟨rfl,rfl,rfl,rfl,rfl⟩
theorem Rest.trans {a b c:Ma} (h:Rest a b) (k:Rest b c):Rest a c:=⟨k.sl.trans h.sl,k.sw.trans h.sw,k.dk.trans h.dk,k.st.trans h.st,k.ca.trans h.ca⟩
structure Vz (m:Ma) (f:Nat) (l:List (Nat × Int)):Prop where
 nd:l.Nodup
 mem:∀u∈l,u.1<m.sp.length∧(0≤u.2∧u.2<64)∧(ent m u.1 u.2).k=1∧(ent m u.1 u.2).n=f
theorem Hy {x:Fr} (h:dR x=0):jG x 0=x:=by
 unfold jG
 by_cases h0:x.r=0
 ·rw[if_pos (by omega)];exact (UX h h0).symm
 rw[if_neg (by omega)];obtain⟨p,r,u,d,f,i⟩:=x;simp
theorem QT {x:Fr} (h:dR x=0) (j:Nat) (hr:(j:Int)+1≤x.r):jG (jG x (-1)) (-(j:Int))=jG x (-((j:Int)+1)):=by
 by_cases h0:x.r=1
 ·have:j=0:=by omega
  subst this;have h1:jG x (-1)=frZ:=by unfold jG;rw[if_pos (by omega)]
  rw[show -((0:Nat):Int)=0 from rfl,show -(((0:Nat):Int)+1) = -1 from rfl,h1];exact Hy (by decide)
 have h1:jG x (-1) = { x with r:=x.r + -1 }:=by unfold jG;rw[if_neg (by omega)]
 rw[h1];unfold jG;simp only
 by_cases h2:x.r=(j:Int)+1
 ·rw[if_pos (by omega),if_pos (by omega)]
 rw[if_neg (by omega),if_neg (by omega)];congr 1;omega
def Vo (f:Nat) (e' : En) (k:Kp) (u:Nat × Int):Kp:=jV (iM k f (-1)) u.1 u.2 e'
theorem Ez {m:Ma} (hf:f<m.m.fs.length):setFr m f (aR m f)=m:=by
 have h2:m.m.fs.set f (aR m f)=m.m.fs:=by have:=yQ hf;rw[aI hf] at this;rw[←aJ this,tJ]
 unfold setFr;rw[h2]
theorem Dl {f:Nat} {e' : En} (he:eT e' = 0) (step:Kp→(Nat × Int)→Kp) (hstep:∀k u,(ent k.m u.1 u.2).k=1→(ent k.m u.1 u.2).n=f→step k u=Vo f e' k u):∀(l:List (Nat × Int)) (k:Kp),Pt k.m→Vz k.m f l→f<k.m.m.fs.length→(l.length:Int)≤(aR k.m f).r →
  (l.foldl step k).e=k.e∧Pt (l.foldl step k).m∧Rest k.m (l.foldl step k).m∧kS k.m (l.foldl step k).m∧(l.foldl step k).m.m=(setFr k.m f (jG (aR k.m f) (-(l.length:Int)))).m ∧
   (∀p n,ent (l.foldl step k).m p n=if (p,n)∈l then e' else ent k.m p n)∧∀kd i,dD (l.foldl step k).m kd i+(if kd=1∧i=f then l.length else 0)=dD k.m kd i+(if kd=e'.k∧i=e'.n then l.length else 0)
 | [],k,h,hu,hf,hr=>by refine⟨rfl,h,.refl _,.refl _,?_,fun p n=>by simp,fun kd i=>by simp⟩;show k.m.m=_;rw[show -(([]:List (Nat × Int)).length:Int)=0 from rfl,Hy (h.frE hf),Ez hf]
 | u::l,k,h,hu,hf,hr=>by
  obtain⟨hp,hn,hk1,hkn⟩:=hu.mem u ik;simp only[pG] at hr;have hfr:=h.frE hf;have hb:=((iN _).1 hfr).1;obtain⟨e1,p1⟩:=JW (k:=k) (f:=f) (n:=-1) h hf (by omega) (by omega) (by omega);have hheld:=QT hfr l.length (by omega);generalize hX:jG (aR k.m f) (-1)=X at e1 p1 hheld;obtain⟨s0,e2,p2⟩:=uI (k:=⟨setFr k.m f X,k.e⟩) (p:=u.1) (n:=u.2) (x:=e') p1 hn he;have hd:step k u=⟨setTb (setFr k.m f X) u.1 (setT (fH k.m u.1).tb u.2 e'),k.e⟩:=by rw[hstep k u hk1 hkn];unfold Vo;rw[e1,e2];rfl
  have hent:=fun q j=>xB (m:=setFr k.m f X) (p:=u.1) (n:=u.2) (x:=e') hp s0 q j;have hhold:=fun kd i=>wS (m:=setFr k.m f X) (p:=u.1) (n:=u.2) (x:=e') hp s0 kd i;have hnd:=sW.1 hu.nd;have hm1:(step k u).m.m=(setFr k.m f X).m:=by rw[hd];rfl
  have hfN:aR (step k u).m f=X:=by
   have:aR (step k u).m f=aR (setFr k.m f X) f:=by unfold aR;rw[hm1]
   rw[this,nT hf,if_pos rfl]
  have hentd:∀q j,ent (step k u).m q j=if q=u.1∧j=u.2 then e' else ent k.m q j:=fun q j=>by rw[hd];exact hent q j
  have hlen:(step k u).m.sp.length=k.m.sp.length:=by rw[hd];exact uR
  have hXr:X.r=(aR k.m f).r-1:=by
   rw[←hX];unfold jG
   by_cases h0:(aR k.m f).r + -1=0
   ·rw[if_pos h0];show (0:Int)=_;omega
   ·rw[if_neg h0];rfl
  have ih:=Dl he step hstep l (step k u) (by rw[hd];exact p2) ⟨hnd.2,fun v hv=>by obtain⟨a1,a2,a3,a4⟩:=hu.mem v (jv _ hv);have hne:¬(v.1=u.1∧v.2=u.2):=fun e=>hnd.1 (by rw[←show v=u from Prod.ext e.1 e.2];exact hv);rw[hlen,hentd,if_neg hne];exact⟨a1,a2,a3,a4⟩⟩ (by rw[hm1,nE];exact hf) (by rw[hfN,hXr];omega);obtain⟨i1,i2,i3,i4,i5,i6,i7⟩:=ih;rw[Ah];refine⟨by rw[i1,hd],i2,Rest.trans (by rw[hd];exact⟨rfl,rfl,rfl,rfl,rfl⟩) i3,kS.trans (by rw[hd];exact kS.trans (b:=setFr k.m f X) (kS.of rfl) kS.setTb) i4,?_,fun q j => ?_,fun kd i => ?_⟩
  ·rw[i5,hfN,hheld];unfold setFr;simp only;rw[hm1];unfold setFr;simp only[Il,pG];rfl
  ·rw[i6,hentd]
   by_cases e1:(q,j)∈l
   ·rw[if_pos e1,if_pos (jv _ e1)]
   rw[if_neg e1]
   by_cases e2:q=u.1∧j=u.2
   ·rw[if_pos e2,if_pos (by rw[show (q,j)=u from Prod.ext e2.1 e2.2];exact ik)]
   rw[if_neg e2,if_neg];intro e3;rcases bU.1 e3 with e3|e3
   ·exact e2 ⟨congrArg Prod.fst e3,congrArg Prod.snd e3⟩
   ·exact e1 e3
  have a1:=i7 kd i;have a2:=hhold kd i;have a3:dD (step k u).m kd i=dD (setTb (setFr k.m f X) u.1 (setT (fH (setFr k.m f X) u.1).tb u.2 e')) kd i:=by rw[hd];rfl
  have a4:dD (setFr k.m f X) kd i=dD k.m kd i:=rfl;have a5:wM (rD kd i (ent (setFr k.m f X) u.1 u.2))=if kd=1∧i=f then 1 else 0:=by
   have:ent (setFr k.m f X) u.1 u.2=ent k.m u.1 u.2:=rfl;rw[this];unfold rD wM;rw[hk1,hkn]
   by_cases e:kd=1∧i=f
   ·rw[if_pos e,e.1,e.2];simp
   rw[if_neg e,if_neg];simp only[dU,decide_eq_true_eq];exact fun h'=>e ⟨h'.1.symm,h'.2.symm⟩
  have a6:wM (rD kd i e')=if kd=e'.k∧i=e'.n then 1 else 0:=by
   unfold rD wM
   by_cases e:kd=e'.k∧i=e'.n
   ·rw[if_pos e,e.1,e.2];simp
   rw[if_neg e,if_neg];simp only[dU,decide_eq_true_eq];exact fun h'=>e ⟨h'.1.symm,h'.2.symm⟩
  rw[a3] at a1;rw[a4,a5,a6] at a2;rw[pG]
  by_cases c1:kd=1∧i=f
  ·rw[if_pos c1] at a1 a2 ⊢
   by_cases c2:kd=e'.k∧i=e'.n
   ·rw[if_pos c2] at a1 a2 ⊢; omega
   ·rw[if_neg c2] at a1 a2 ⊢; omega
  rw[if_neg c1] at a1 a2 ⊢
  by_cases c2:kd=e'.k∧i=e'.n
  ·rw[if_pos c2] at a1 a2 ⊢; omega
  ·rw[if_neg c2] at a1 a2 ⊢; omega
theorem Gg {α β:Type} {f:α→β} (hf:∀a b,f a=f b→a=b) {l:List α} (h:l.Nodup):(l.map f).Nodup:=List.Pairwise.map _ (fun a b hne e=>hne (hf a b e)) h
theorem oM {t:Tb} {n:Int}:n∈aQ t↔(0≤n∧n<64)∧(dK t n).k≠0:=by
 unfold aQ jI;simp only[fP,Ik,dG,pM,decide_eq_true_eq];constructor
 ·rintro⟨j,⟨h1,h2⟩,rfl⟩;exact⟨by omega,h2⟩
 rintro⟨h1,h2⟩;refine⟨n.toNat,⟨by omega,?_⟩,by omega⟩;rw[xP h1.1];exact h2
theorem KD {t:Tb} {i n:Int} (hk:kd≠0):n∈oJ t kd i↔(0≤n∧n<64)∧(dK t n).k=kd∧(dK t n).n=i:=by
 unfold oJ qB;rw[Ik,oM];simp only[Di,dU,xE,decide_eq_false_iff_not,ug];constructor
 ·rintro⟨⟨h1,_⟩,h2⟩;exact⟨h1,h2⟩
 ·rintro⟨h1,h2⟩;exact⟨⟨h1,by rw[h2.1];exact hk⟩,h2⟩
theorem KU (t:Tb):(aQ t).Nodup:=by
 unfold aQ jI;exact Gg (fun a b h=>by have h' : (a:Int)=b:=h;omega) (List.nodup_range.filter _)
theorem DD {t:Tb} {i:Int} (hk:kd≠0):(oJ t kd i).length=(dA t).countP (rD kd i):=by
 unfold oJ aQ jI dA;rw[←Io,sP,Ih,sP];congr 1;funext n;simp only[Ir,qB,rD,pM,Di];rw[mg];simp only[dU,xE,decide_eq_false_iff_not,ug,decide_eq_true_eq];constructor
 ·rintro⟨h,_⟩;exact h
 ·intro h;exact⟨h,by rw[h.1];exact hk⟩
theorem vk {m:Ma} {f:Int} {u:Nat × Int}:u∈bq m f↔u.1<m.sp.length∧(0≤u.2∧u.2<64)∧(ent m u.1 u.2).k=1∧(ent m u.1 u.2).n=f:=by
 unfold bq;simp only[jY,dG,fP];constructor
 ·rintro⟨p,hp,n,hn,rfl⟩;exact⟨hp,(KD (by decide)).1 hn⟩
 rintro⟨hp,h⟩;exact⟨u.1,hp,u.2,(KD (by decide)).2 h,rfl⟩
theorem Ep {α β:Type} (g:α→List β):∀(l:List α),l.Nodup→(∀x∈l,(g x).Nodup)→(∀x∈l,∀y∈l,∀z,z∈g x→z∈g y→x=y)→(l.flatMap g).Nodup
 | [],_,_,_=>by simp
 | a::l,h1,h2,h3=>by rw[lX,xU];have h4:=sW.1 h1;refine⟨h2 a ik,Ep g l h4.2 (fun x hx=>h2 x (jv _ hx)) (fun x hx y hy=>h3 x (jv _ hx) y (jv _ hy)),?_⟩;rintro z hz w hw rfl;obtain⟨y,hy,hzy⟩:=jY.1 hw;exact h4.1 (by rw[h3 a ik y (jv _ hy) z hz hzy];exact hy)
theorem KW (m:Ma) (f:Int):(bq m f).Nodup:=by
 unfold bq;refine Ep _ _ List.nodup_range (fun p hp => ?_) (fun p _ q _ z h1 h2 => ?_)
 ·unfold oJ;exact Gg (fun a b h=>by simpa using h) ((KU _).filter _)
 obtain⟨_,_,rfl⟩:=fP.1 h1;obtain⟨_,_,e⟩:=fP.1 h2;exact (congrArg Prod.fst e).symm
theorem Ec (m:Ma) (f:Nat):Vz m f (bq m f):=⟨KW m f,fun u hu=>vk.1 hu⟩
theorem Pp {α:Type} (l:List α) (d:α) {β:Type} (g:α→β):(List.range l.length).map (fun p=>g (l.getD p d))=l.map g:=by
 apply uf
 ·simp
 intro i h1 h2;simp only[vQ,JA];rw[aV,aI (by simpa using h2)];rfl
theorem uW (m:Ma) (f:Int):(bq m f).length=dD m 1 f:=by
 unfold bq dD;rw[List.length_flatMap];simp only[eH,DD (show (1:Int)≠0 by decide)];rw[←Pp m.sp zSp];rfl
def zz (s:St) (f i:Int):Prop:=(0≤f∧f<s.fs.length)∧0≤i∧i<(aM s f).b.length
theorem mW {s:St} {F:Nat} {x:Fi} (h:s.fs[F]?=some x):aM s F=x:=by
 unfold aM;rw[if_pos (by omega),bX,aV,h];rfl
theorem uX {s:St} {f:Int} (h:0≤f∧f<s.fs.length):s.fs[f.toNat]?=some (aM s f):=by
 unfold aM;rw[if_pos h.1,aV,aI (by omega)];rfl
theorem uS {s:St} {f i:Int} (h:zz s f i):(aM s f).b[i.toNat]?=some (bM s f i):=by
 unfold bM;rw[aV,aI (by have:=h.2;omega)];rfl
theorem uP {s:St} {f i:Int} (h:zz s f i):bM s f i∈kF s:=
 jY.2 ⟨_,bN (uX h.1),bN (uS h)⟩
theorem Lj {s:St} {x:Int} (h:x∈kF s):∃f i,zz s f i∧bM s f i=x:=by
 obtain⟨fi,h1,h2⟩:=jY.1 h;obtain⟨F,hF,rfl⟩:=jK.1 h1;obtain⟨I,hI,rfl⟩:=jK.1 h2;have hf:aM s F=s.fs[F]:=mW (aI hF);have a:zz s F I:=⟨by omega,by omega,by rw[hf];omega⟩;refine⟨F,I,a,?_⟩;have:=uS a;rw[hf,bX,aI hI] at this;exact (aJ this).symm
theorem posB_inj:∀ {l:List Int} {I J:Nat} {v:Int},(kE l).Nodup→l[I]?=some v→l[J]?=some v→0≤v→I=J
 | [],_,_,_,_,h,_,_=>by simp at h
 | a::l,0,0,_,_,_,_,_=>rfl
 | a::l,0,J+1,v,hn,h1,h2,h0=>by simp only[qx,jg] at h1;subst h1;rw[Jj h0] at hn;exact ((sW.1 hn).1 (jd.2 ⟨bN (by simpa using h2:l[J]?=some a),h0⟩)).elim
 | a::l,I+1,0,v,hn,h1,h2,h0=>by simp only[qx,jg] at h2;subst h2;rw[Jj h0] at hn;exact ((sW.1 hn).1 (jd.2 ⟨bN (by simpa using h1:l[I]?=some a),h0⟩)).elim
 | a::l,I+1,J+1,v,hn,h1,h2,h0=>by
  have:(kE l).Nodup:=by have hs:(kE l).Sublist (kE (a::l)):=(List.sublist_cons_self a l).filter _;exact hn.sublist hs
  have h3:=posB_inj (I:=I) (J:=J) this (by simpa using h1) (by simpa using h2) h0;omega
theorem flat_inj:∀ {fs:List Fi} {F G I J:Nat} {x y:Fi} {v:Int},(kE (fs.flatMap Fi.b)).Nodup→fs[F]?=some x→fs[G]?=some y→x.b[I]?=some v→y.b[J]?=some v→0≤v→F=G∧I=J
 | [],_,_,_,_,_,_,_,_,h,_,_,_,_=>by simp at h
 | a::fs,F,G,I,J,x,y,v,hn,hF,hG,hI,hJ,h0=>by
  rw[lX,uK,xU] at hn;obtain⟨n1,n2,n3⟩:=hn;cases F with
  | zero=>
   simp only[qx,jg] at hF;subst hF;cases G with
   | zero=>
    simp only[qx,jg] at hG;subst hG;exact⟨rfl,posB_inj n1 hI hJ h0⟩
   | succ G=>
    exact absurd rfl (n3 v (jd.2 ⟨bN hI,h0⟩) v (jd.2 ⟨jY.2 ⟨y,bN (by simpa using hG),bN hJ⟩,h0⟩))
  | succ F=>
   cases G with
   | zero=>
    simp only[qx,jg] at hG;subst hG;exact absurd rfl (n3 v (jd.2 ⟨bN hJ,h0⟩) v (jd.2 ⟨jY.2 ⟨x,bN (by simpa using hF),bN hI⟩,h0⟩))
   | succ G=>
    obtain⟨e1,e2⟩:=flat_inj n2 (by simpa using hF) (by simpa using hG) hI hJ h0;exact⟨by omega,e2⟩
theorem ND {s:St} (h:aP s=0) {f i g j:Int} (h1:zz s f i) (h2:zz s g j) (h0:0≤bM s f i) (he:bM s f i=bM s g j):f=g∧i=j:=by
 have hn:=(kZ.1 h).2.2;obtain⟨e1,e2⟩:=flat_inj hn (uX h1.1) (uX h2.1) (uS h1) (by rw[he];exact uS h2) h0;have:=h1.1;have:=h1.2;have:=h2.1;have:=h2.2;omega
theorem Ae {s:St} (h:aP s=0) {f:Int} (hf:0≤f∧f<s.fs.length):Ew s.count (aM s f):=(kZ.1 h).2.1 _ (bN (uX hf))
theorem block_lt {s:St} (h:aP s=0) {f i:Int} (hi:zz s f i) : -1≤bM s f i∧bM s f i<s.count:=
 (Ae h hi.1).2.2.2 _ (bN (uS hi))
theorem JG {s:St} (h:aP s=0) {f i:Int} (hi:zz s f i):f<5∧i<12∧i*8<(aM s f).n∧(aM s f).n≤96:=by
 have h1:=(kZ.1 h).1;obtain⟨a1,a2,a3,_⟩:=Ae h hi.1;have h2:=hi.1;have h3:=hi.2;rw[a3] at h3;unfold dW at h3;split at h3<;>omega
structure Blocked (s s' : St) (f i b:Int):Prop where
 right:aP s' = 0
 count:s'.count=s.count
 len:s'.fs.length=s.fs.length
 size:∀g,(aM s' g).n=(aM s g).n
 lenb:∀g,(aM s' g).b.length=(aM s g).b.length
 at_:bM s' f i=b
 other:∀g j,0≤j→¬(g=f∧j=i)→bM s' g j=bM s g j
 b0:0≤b
 bc:b<s.count
 used:∀x,0≤x→(x∈kF s'↔x=b∨x∈kF s)
 was:(bM s f i=b∧s' = s)∨(bM s f i<0∧b ∉ kF s∧zg s' = zg s-1)
theorem zz.same {s s' : St} {f i:Int} (h:zz s f i) (h1:s'.fs.length=s.fs.length) (h2:∀g,(aM s' g).b.length=(aM s g).b.length):zz s' f i:=⟨by rw[h1];exact h.1,by rw[h2];exact h.2⟩
theorem blocked {s:St} {f i:Int} (h:dz s f i=0):zz s f i∧Blocked s (dO s f i) f i (dS s f i):=by
 have ha:=Le h;obtain⟨hw,F,I,x,v,rfl,rfl,hf,hv,t,m,hc⟩:=BV h;have hF:=(dn.1 hf).1;have hI:=(dn.1 hv).1;have r:zz s F I:=⟨by omega,by omega,by rw[t];omega⟩;refine⟨r,?_⟩;have hb:=block_lt hw r;rcases hc with ⟨h0,hS,hN⟩|⟨hn,h0,hN,hS⟩
 ·rw[hS,hN];rw[m] at hb;exact⟨hw,rfl,rfl,fun _=>rfl,fun _=>rfl,m,fun _ _ _ _=>rfl,h0,hb.2,fun y _=>⟨.inr,fun h=>h.elim (fun e=>by rw[e,←m];exact uP r) id⟩,.inl ⟨m,rfl⟩⟩
 obtain⟨z,hu⟩:=He h0;have w:=Ia hu;have a:=ha.2.2.2.2;rw[m] at a;have a:zg (dO s F I)=zg s-1:=by
  rcases a with ⟨e,_⟩|⟨_,_,e⟩
  ·omega
  ·exact e
 have o:=ha.1;rw[hS] at o a;rw[hS,hN];generalize hs' : (⟨s.fs.set F ⟨x.n,x.b.set I (gV s)⟩,s.count⟩:St)=s' at *
 have k:∀g,aM s' g=if g=F then ⟨x.n,x.b.set I (gV s)⟩ else aM s g:=by
  intro g;rw[←hs'];unfold aM;simp only
  by_cases g0:0≤g
  ·rw[if_pos g0,if_pos g0,aV,kR]
   by_cases e:g=F
   ·rw[if_pos e,if_pos (by omega),if_pos (by omega)];rfl
   ·rw[if_neg e,if_neg (by omega),aV]
  ·rw[if_neg g0,if_neg g0,if_neg (by omega)]
 have p:s'.fs.length=s.fs.length:=by rw[←hs'];exact bP
 have d:∀g,(aM s' g).b.length=(aM s g).b.length:=by
  intro g;rw[k]
  by_cases e:g=F
  ·rw[if_pos e,e,t];exact bP
  ·rw[if_neg e]
 have u:bM s' F I=gV s:=by unfold bM;rw[k,if_pos rfl,bX,aV,vw hI];rfl
 have q:∀g j,0≤j→¬(g=(F:Int)∧j=(I:Int))→bM s' g j=bM s g j:=by
  intro g j hj hd;unfold bM;rw[k]
  by_cases e:g=F
  ·rw[if_pos e,e,t];simp only;rw[aV,tY (by omega),aV]
  ·rw[if_neg e]
 refine⟨o,by rw[←hs'],p,fun g => ?_,d,u,q,h0,z,fun y hy => ?_,.inr ⟨by rw[m];exact hn,w,a⟩⟩
 ·rw[k]
  by_cases e:g=F
  ·rw[if_pos e,e,t]
  ·rw[if_neg e]
 constructor
 ·intro hm;obtain⟨g,j,c,l⟩:=Lj hm
  by_cases e:g=(F:Int)∧j=(I:Int)
  ·rw[e.1,e.2,u] at l;exact .inl l.symm
  rw[q g j c.2.1 e] at l;refine .inr ?_;rw[←l];exact uP ⟨by rw[←p];exact c.1,by rw[←d];exact c.2⟩
 rintro (e|hm)
 ·rw[e,←u];exact uP (r.same p d)
 obtain⟨g,j,c,l⟩:=Lj hm;have e:¬(g=(F:Int)∧j=(I:Int)):=by rintro⟨e1,e2⟩;rw[e1,e2,m] at l;omega
 rw[←l,←q g j c.2.1 e];exact uP (c.same p d)
def ni (m:Ma) (p:Nat) (n:Int):Option Pg:=onA (fH m p).ar n
def CB (a b:Cc):Prop:=a.f<b.f∨a.f=b.f∧a.i<b.i
def Qc (x:Fr) (g:Pg) (w:Bool):Prop:=
 (0≤x.f→x.f=g.fi∧x.i=g.pg)∧(g.sh=true→0≤x.f)∧(w=true→g.wr=true)∧(w=true→0≤x.f→g.sh=true)∧(w=true→x.f<0→x.r≤1)
structure Tn (m:Ma) (g:Pg) (e:En):Prop where
 sw:e.k=2→e.n<m.sl.length∧g.sh=false
 lt:e.k=1→e.n<m.m.fs.length
 fr:e.k=1→Qc (aR m e.n.toNat) g e.w
structure vB (m:Ma):Prop where
 file:∀c∈m.ca,zz m.st c.f c.i
 lt:∀c∈m.ca,0≤c.k∧c.k<m.m.fs.length
 fr:∀c∈m.ca,1≤(aR m c.k.toNat).r∧(aR m c.k.toNat).f=c.f∧(aR m c.k.toNat).i=c.i
 srt:m.ca.Pairwise CB
def xw (m:Ma) (i:Int):Nat:=m.ca.countP fun c=>decide (c.k=i)
structure Rt (m:Ma):Prop where
 pt:Pt m
 trim:(∀b:Int,0≤b→b<m.dk.blocks.length→b∈kF m.st∨m.dk.blocks.getD b.toNat zPg=zPg)∧∀q∈m.dk.queue,q.1∈kF m.st
 live:∀p,(fH m p).lv=false→(fH m p).ar=[]∧∀n,(ent m p n).k=0
 ca:vB m
 en:∀p n,(ent m p n).k≠0→∃g,ni m p n=some g∧Tn m g (ent m p n)
 cf:∀i:Nat,i<m.m.fs.length→(aR m i).r=xw m i+dD m 1 i
 fc:∀i:Nat,i<m.m.fs.length→0≤(aR m i).f→∃c∈m.ca,c.k=i
 cs:∀s:Nat,s<m.sl.length→pu m s=dD m 2 s
structure Co (m:Ma):Prop where
 tail:∀c∈m.ca,fJ (aR m c.k.toNat).p ((aM m.st c.f).n-c.i*8)=(aR m c.k.toNat).p
 clean:∀c∈m.ca,(aR m c.k.toNat).d=false→(aR m c.k.toNat).p=ic m c.f c.i
 anon:∀i:Nat,i<m.m.fs.length→(aR m i).d=true→0≤(aR m i).f
def qa (m:Ma) (p:Nat) (n:Int):Page × Bool × Int:=
 match ni m p n with
 | none=>(zPg,false,5)
 | some g=>
  if (ent m p n).k=1 then ((qG m (ent m p n).n).p,decide ((qG m (ent m p n).n).f<0),0)
  else if (ent m p n).k=2 then (jc m.sw (ent m p n).n,true,aN m.sw (ent m p n).n)
  else if g.fi<0 then (zPg,false,0)
  else if (m.st.fs.length:Int)≤g.fi∨Ab m.st g.fi g.pg=true then (zPg,false,9)
  else (bC m g.fi g.pg,false,0)
structure Fz (m m' : Ma):Prop where
 sk:kS m m'
 files:m'.st.fs.length=m.st.fs.length
 size:∀f,(aM m'.st f).n=(aM m.st f).n
 lenb:∀f,(aM m'.st f).b.length=(aM m.st f).b.length
 see:∀p n,qa m' p n=qa m p n
 con:∀f i,zz m.st f i→bC m' f i=bC m f i
theorem Fz.refl (m:Ma):Fz m m:=⟨.refl m,rfl,fun _=>rfl,fun _=>rfl,fun _ _=>rfl,fun _ _ _=>rfl⟩
theorem Fz.trans {a b c:Ma} (h:Fz a b) (k:Fz b c):Fz a c:=
 ⟨h.sk.trans k.sk,k.files.trans h.files,fun f=>(k.size f).trans (h.size f),fun f=>(k.lenb f).trans (h.lenb f),fun p n=>(k.see p n).trans (h.see p n),fun f i hi=>(k.con f i (hi.same h.files h.lenb)).trans (h.con f i hi)⟩
theorem Jg (a:Cc):¬CB a a:=fun h=>by unfold CB at h;omega
theorem srt_eq:∀ {l:List Cc},l.Pairwise CB→∀ {a b:Cc},a∈l→b∈l→a.f=b.f→a.i=b.i→a=b
 | [],_,_,_,h,_,_,_=>by cases h
 | c::l,hs,a,b,ha,hb,e1,e2=>by
  obtain⟨h1,h2⟩:=tF.1 hs;rcases bU.1 ha with e|ha<;>rcases bU.1 hb with e' | hb
  ·rw[e,e']
  ·have:=h1 b hb;rw[e] at e1 e2;unfold CB at this;omega
  ·have:=h1 a ha;rw[e'] at e1 e2;unfold CB at this;omega
  ·exact srt_eq h2 ha hb e1 e2
theorem vB.uniq {m:Ma} (h:vB m) {a b:Cc} (ha:a∈m.ca) (hb:b∈m.ca) (hk:a.k=b.k):a=b:=by
 have h1:=h.fr a ha;have h2:=h.fr b hb;rw[hk] at h1;exact srt_eq h.srt ha hb (h1.2.1.symm.trans h2.2.1) (h1.2.2.symm.trans h2.2.2)
theorem BA {k:Int}:∀ {l:List Cc},l.Pairwise CB→(∀a∈l,∀b∈l,a.k=b.k→a=b)→l.countP (fun c=>decide (c.k=k))≤1
 | [],_,_=>aW _
 | c::l,hs,hu=>by
  obtain⟨h1,h2⟩:=tF.1 hs;have ih:=BA (k:=k) h2 (fun a ha b hb=>hu a (jv _ ha) b (jv _ hb));rw[ou]
  by_cases hc:c.k=k
  ·rw[if_pos (by simpa using hc)];have:l.countP (fun c=>decide (c.k=k))=0:=by rw[xL];intro d hd hdk;have e:=hu c ik d (jv _ hd) (by rw[hc];exact (of_decide_eq_true hdk).symm);have:=h1 d hd;rw[←e] at this;exact Jg _ this
   omega
  ·rw[if_neg (by simpa using hc)];omega
theorem vB.one {m:Ma} (h:vB m) {c:Cc} (hc:c∈m.ca):xw m c.k=1:=by
 have h1:=BA (k:=c.k) h.srt (fun a ha b hb=>h.uniq ha hb);have h2:0<m.ca.countP (fun d=>decide (d.k=c.k)):=xM.2 ⟨c,hc,by simp⟩;unfold xw;omega
theorem vB.none {m:Ma} {i:Int} (h:∀c∈m.ca,c.k≠i):xw m i=0:=by
 unfold xw;rw[xL];intro c hc hk;exact h c hc (of_decide_eq_true hk)
theorem xW {f i:Int} {c:Cc}:Bw f i c=true↔f<c.f∨c.f=f∧i≤c.i:=by unfold Bw;simp
theorem Ti (l:List Cc) (f i:Int):zy l f i≤l.length:=by
 unfold zy;cases h:l.findIdx? (Bw f i) with
 | none=>exact az _
 | some k=>exact qH (vW.1 h).1
theorem NU {l:List Cc} (hs:l.Pairwise CB) {f i:Int}:Rc l f i=true↔∃c∈l,c.f=f∧c.i=i:=by
 unfold Rc;constructor
 ·intro h;cases hc:l[zy l f i]? with
  | none=>rw[hc] at h;cases h
  | some c=>
   rw[hc] at h;simp only[dU,decide_eq_true_eq] at h;exact⟨c,bN hc,h⟩
 rintro⟨c,hc,h1,h2⟩;obtain⟨j,hj,rfl⟩:=jK.1 hc;unfold zy;cases h:l.findIdx? (Bw f i) with
 | none=>
  have:=Ad.1 h _ hc;rw[Jk] at this;exact absurd (xW.2 (.inr ⟨h1,by omega⟩)) this
 | some k=>
  obtain⟨hk,hg,b⟩:=vW.1 h;have d:¬j<k:=fun a=>b j a (xW.2 (.inr ⟨h1,by omega⟩));have hg:=xW.1 hg;have:k=j:=by
   rcases fG k j with a|hge
   ·have:=Ai.1 hs k j hk hj a;unfold CB at this;omega
   ·omega
  subst this;simp only[oL,aI hk,h1,h2,decide_true,Bool.and_self]
theorem RJ {l:List Cc} {f i:Int} (h:Rc l f i=true):∃c,l[zy l f i]?=some c∧c.f=f∧c.i=i:=by
 unfold Rc at h;cases hc:l[zy l f i]? with
 | none=>rw[hc] at h;cases h
 | some c=>
  rw[hc] at h;simp only[dU,decide_eq_true_eq] at h;exact⟨c,rfl,h⟩
def tu (m:Ma) (f i:Int):Option Cc:=m.ca.find? fun c=>decide (c.f=f)&&decide (c.i=i)
theorem Pi {m:Ma} (h:vB m) {c:Cc} (hc:c∈m.ca):tu m c.f c.i=some c:=by
 cases hl:tu m c.f c.i with
 | none=>
  have:=pK.1 hl c hc;simp at this
 | some d=>
  have h1:=qM hl;simp only[dU,decide_eq_true_eq] at h1;rw[srt_eq h.srt (uu hl) hc h1.1 h1.2]
theorem QL {m:Ma} {f i:Int} (h:∀c∈m.ca,¬(c.f=f∧c.i=i)):tu m f i=none:=by
 unfold tu;rw[pK];intro c hc hk;simp only[dU,decide_eq_true_eq] at hk;exact h c hc hk
theorem yN (m:Ma) (f i:Int):(∃c,tu m f i=some c∧c∈m.ca∧c.f=f∧c.i=i)∨(tu m f i=none∧∀c∈m.ca,¬(c.f=f∧c.i=i)):=by
 cases hl:tu m f i with
 | none=>
  refine .inr ⟨rfl,fun c hc hk => ?_⟩;have:=pK.1 hl c hc;simp only[dU,decide_eq_true_eq] at this;exact this hk
 | some d=>
  have h1:=qM hl;simp only[dU,decide_eq_true_eq] at h1;exact .inl ⟨d,rfl,uu hl,h1⟩
theorem pQ (m:Ma) (f i:Int):bC m f i=match tu m f i with
  | some c=>(qG m c.k).p
  | none=>ic m f i:=rfl
theorem oN {m:Ma} (h:vB m) {c:Cc} (hc:c∈m.ca):bC m c.f c.i=(aR m c.k.toNat).p:=by
 rw[pQ,Pi h hc];rfl
theorem qg {m:Ma} {f i:Int} (h:∀c∈m.ca,¬(c.f=f∧c.i=i)):bC m f i=ic m f i:=by
 rw[pQ,QL h]
theorem xy {m:Ma} (k:Nat):qG m (k:Int)=aR m k:=rfl
theorem NQ {l:List Ar} {n:Int} (h:0≤kH l n):onA l n=some (ko (l.getD (kH l n).toNat zAr) n)∧oI n (l.getD (kH l n).toNat zAr)=true:=by
 induction l with
 | nil=>unfold kH idx at h;simp at h
 | cons a r ih=>
  rw[dw]
  by_cases ha:oI n a=true
  ·have h0:kH (a::r) n=0:=by unfold kH idx;rw[zW,if_pos ha];rfl
   rw[h0,if_pos ha];exact⟨rfl,ha⟩
  have h1:kH (a::r) n=if 0≤kH r n then kH r n+1 else -1:=by
   unfold kH idx;rw[zW,if_neg ha];cases r.findIdx? (oI n) with
   | none=>rfl
   | some k=>
    simp only[qY];rw[if_pos (by omega)];rfl
  rw[if_neg ha]
  by_cases h2:0≤kH r n
  ·rw[h1,if_pos h2];have e:(kH r n+1).toNat=(kH r n).toNat+1:=by omega
   rw[e];exact ih h2
  rw[h1,if_neg h2] at h;omega
def FN (m:Ma) (g:Pg) (e:En):Page × Bool × Int:=
 if e.k=1 then ((qG m e.n).p,decide ((qG m e.n).f<0),0)
 else if e.k=2 then (jc m.sw e.n,true,aN m.sw e.n)
 else if g.fi<0 then (zPg,false,0)
 else if (m.st.fs.length:Int)≤g.fi∨Ab m.st g.fi g.pg=true then (zPg,false,9)
 else (bC m g.fi g.pg,false,0)
theorem FW {m:Ma} {n:Int} {g:Pg} (h:ni m p n=some g):qa m p n=FN m g (ent m p n):=by
 unfold qa;rw[h];rfl
theorem GJ {m:Ma} {n:Int} (h:ni m p n=none):qa m p n=(zPg,false,5):=by
 unfold qa;rw[h]
theorem pg_in:∀ {l:List Ar} {lo:Int} {n:Int} {g:Pg},srtF lo l→onA l n=some g→0≤g.pg∧g.pg<12∧-1≤g.fi∧g.fi<5∧(g.fi<0→g.sh=false∧g.pg=0)∧0≤n∧n<64
 | [],_,_,_,_,h=>by cases h
 | a::r,lo,n,g,hs,h=>by
  rw[dw] at h
  by_cases ha:oI n a=true
  ·rw[if_pos ha] at h;have h1:=dH.1 ha;have h2:=hs.1;unfold aS at h2;split at h2
   ·cases h2
   split at h2
   ·cases h2
   rename_i h3 h4;cases h;unfold ko;simp only;have h5:¬(a.fi<0∧(a.ba≠0∨a.sh=true)):=fun h=>h4 (.inl h);have h6:¬(0≤a.fi∧12-(a.en-a.fr)<a.ba):=fun h=>h4 (.inr h);refine⟨?_,?_,by omega,by omega,fun h7=>⟨?_,if_neg (by omega)⟩,by omega,by omega⟩
   ·split<;>omega
   ·split<;>omega
   cases hsh:a.sh with
   | false=>rfl
   | true=>exact absurd ⟨h7,.inr hsh⟩ h5
  rw[if_neg ha] at h;exact pg_in hs.2.2 h
theorem Pt.pg {m:Ma} (h:Pt m) {n:Int} {g:Pg} (hg:ni m p n=some g):0≤g.pg∧g.pg<12∧-1≤g.fi∧g.fi<5∧(g.fi<0→g.sh=false∧g.pg=0)∧0≤n∧n<64:=
 pg_in (lD (iL.1 (h.arN p)).2) hg
theorem OI {s:St} (h:aP s=0) {f i:Int} (hf:0≤f) (hi:0≤i) (hn:¬((s.fs.length:Int)≤f∨Ab s f i=true)):zz s f i:=by
 have h1:¬(s.fs.length:Int)≤f:=fun h=>hn (.inl h);have h2:¬Ab s f i=true:=fun h=>hn (.inr h);have h3:=(Ae h (f:=f) (by omega)).2.2.1;refine⟨by omega,hi,?_⟩;rw[h3];unfold Ab at h2;simpa using h2
theorem EJ {s:St} (h:aP s=0) {f i:Int} (hi:zz s f i):¬((s.fs.length:Int)≤f∨Ab s f i=true):=by
 have h3:=(Ae h hi.1).2.2.1;have h4:=hi.1;have h5:=hi.2;rintro (h|h)
 ·omega
 unfold Ab at h;have:=of_decide_eq_true h;omega
structure sZ (s s' : St):Prop where
 len:s'.fs.length=s.fs.length
 size:∀f,(aM s' f).n=(aM s f).n
 lenb:∀f,(aM s' f).b.length=(aM s f).b.length
theorem sZ.refl (s:St):sZ s s:=⟨rfl,fun _=>rfl,fun _=>rfl⟩
theorem sZ.of {s s' : St} (h:s' = s):sZ s s':=by subst h;exact .refl _
theorem QZ {s s' : St} (h:sZ s s') (f i:Int):Ab s' f i=Ab s f i:=by unfold Ab;rw[h.size]
theorem zT {m m' : Ma} {g:Pg} {e:En} (hw:aP m.st=0) (hg:0≤g.pg) (hf:sZ m.st m'.st) (hc:∀f i,zz m.st f i→bC m' f i=bC m f i)
 (h1:e.k=1→(qG m' e.n).p=(qG m e.n).p∧(qG m' e.n).f=(qG m e.n).f) (h2:e.k=2→jc m'.sw e.n=jc m.sw e.n∧aN m'.sw e.n=aN m.sw e.n):FN m' g e=FN m g e:=by
 unfold FN
 by_cases k1:e.k=1
 ·rw[if_pos k1,if_pos k1,(h1 k1).1,(h1 k1).2]
 rw[if_neg k1,if_neg k1]
 by_cases k2:e.k=2
 ·rw[if_pos k2,if_pos k2,(h2 k2).1,(h2 k2).2]
 rw[if_neg k2,if_neg k2,hf.len,QZ hf]
 by_cases g0:g.fi<0
 ·rw[if_pos g0,if_pos g0]
 rw[if_neg g0,if_neg g0]
 by_cases he:(m.st.fs.length:Int)≤g.fi∨Ab m.st g.fi g.pg=true
 ·rw[if_pos he,if_pos he]
 ·rw[if_neg he,if_neg he,hc _ _ (OI hw (by omega) hg he)]
theorem Iu {m m' : Ma} (h:Pt m) (sk:kS m m') (hf:sZ m.st m'.st) (hc:∀f i,zz m.st f i→bC m' f i=bC m f i)
 (hs:∀p n g,ni m p n=some g→FN m' g (ent m' p n)=FN m g (ent m p n)):Fz m m':=by
 refine⟨sk,hf.len,hf.size,hf.lenb,fun p n => ?_,hc⟩;have hp:ni m' p n=ni m p n:=by unfold ni;rw[sk.ar]
 cases hg:ni m p n with
 | none=>rw[GJ hg,GJ (hp.trans hg)]
 | some g=>rw[FW hg,FW (hp.trans hg)];exact hs p n g hg
theorem Qu {x:Fr} (h:dR x=0):dR { x with d:=false }=0:=by
 rw[iN] at h ⊢;exact⟨h.1,fun h0=>⟨(h.2.1 h0).1,rfl,(h.2.1 h0).2.2.1,(h.2.1 h0).2.2.2⟩,h.2.2⟩
theorem Rf {d:oD} {x:Int × Page} {b:Int} (h0:0≤b) (hq:∀q∈d.queue,q.1≠b∧0≤q.1):(jb d x).blocks.getD b.toNat zPg=d.blocks.getD b.toNat zPg:=by
 unfold jb;cases hd:d.queue with
 | nil=>rfl
 | cons q r=>
  simp only;split
  ·have:=hq q (by rw[hd];exact ik);rw[aV,tY (by omega),aV]
  ·rfl
theorem SA {d:oD} {x q:Int × Page} (h:q∈(jb d x).queue):q∈d.queue∨q=x:=by
 unfold jb at h;cases hd:d.queue with
 | nil=>rw[hd] at h;simp at h;exact .inr h
 | cons a r=>
  rw[hd] at h;simp only at h;split at h
  ·rcases fV.1 h with h|h
   ·exact .inl (jv _ h)
   ·exact .inr (bv.1 h)
  rcases fV.1 h with h|h
  ·exact .inl h
  ·exact .inr (bv.1 h)
def il (m:Ma) (f:Nat):Ma:=
 let x:=aR m f
 setFr { m with st:=dO m.st x.f x.i,dk:=jb m.dk (dS m.st x.f x.i,x.p) } f { x with d:=false }
theorem DV {k:Kp} (h:Rt k.m) (hf:f<k.m.m.fs.length):gU k f=if (aR k.m f).f<0∨(aR k.m f).d=false∨dz k.m.st (aR k.m f).f (aR k.m f).i≠0 then k else ⟨il k.m f,k.e⟩:=by
 unfold gU
 by_cases hc:(aR k.m f).f<0∨(aR k.m f).d=false∨dz k.m.st (aR k.m f).f (aR k.m f).i≠0
 ·simp only[if_pos hc]
 have hb:dz k.m.st (aR k.m f).f (aR k.m f).i=0:=by
  by_cases e:dz k.m.st (aR k.m f).f (aR k.m f).i=0
  ·exact e
  ·exact absurd (.inr (.inr e)) hc
 have hB:=(blocked hb).2;have a:aN k.m.dk (dS k.m.st (aR k.m f).f (aR k.m f).i)=0:=nC.2 ⟨h.pt.dk,hB.b0,by rw[h.pt.dkl];exact hB.bc⟩;simp only[if_neg hc];unfold il dE;rw[a];simp only[jo,if_true];congr 1;split<;>simp_all
structure Cleaned (m m' : Ma) (f:Nat):Prop where
 rt:Rt m'
 co:Co m'
 vis:Fz m m'
 sl:m'.sl=m.sl
 sw:m'.sw=m.sw
 ca:m'.ca=m.ca
 sp:m'.sp=m.sp
 fs:m'.m=(setFr m f { aR m f with d:=false }).m
theorem GL {m:Ma} (h:Rt m) (hc:Co m) (hf:f<m.m.fs.length) (h0:0≤(aR m f).f) (hb:dz m.st (aR m f).f (aR m f).i=0):Cleaned m (il m f) f:=by
 obtain⟨hF,hB⟩:=blocked hb;obtain⟨c,v,hp⟩:=h.fc f hf h0;have l:=h.ca.fr c v;rw[hp,bX] at l;have hD:aN m.dk (dS m.st (aR m f).f (aR m f).i)=0:=nC.2 ⟨h.pt.dk,hB.b0,by rw[h.pt.dkl];exact hB.bc⟩;have z:dS m.st (aR m f).f (aR m f).i<m.dk.blocks.length:=by rw[h.pt.dkl];exact hB.bc
 have hj:∀g,aR (il m f) g=if g=f then { aR m f with d:=false } else aR m g:=fun g=>nT (m:={ m with st:=dO m.st (aR m f).f (aR m f).i,dk:=jb m.dk (dS m.st (aR m f).f (aR m f).i,(aR m f).p) }) (x:={ aR m f with d:=false }) hf g;have a:∀g,(aR (il m f) g).p=(aR m g).p∧(aR (il m f) g).f=(aR m g).f∧(aR (il m f) g).i=(aR m g).i∧(aR (il m f) g).r=(aR m g).r:=by
  intro g;rw[hj]
  by_cases e:g=f
  ·rw[if_pos e,e];exact⟨rfl,rfl,rfl,rfl⟩
  ·rw[if_neg e];exact⟨rfl,rfl,rfl,rfl⟩
 have o:(il m f).m.fs.length=m.m.fs.length:=bP;have s:sZ m.st (il m f).st:=⟨hB.len,hB.size,hB.lenb⟩;have w:∀p n,ent (il m f) p n=ent m p n:=fun _ _=>rfl;have hz:∀g j,zz m.st g j→¬(g=(aR m f).f∧j=(aR m f).i)→ic (il m f) g j=ic m g j:=by
  intro g j t hx;have hs:bM (il m f).st g j=bM m.st g j:=hB.other g j t.2.1 hx;unfold ic;rw[hs,hB.size g |> (fun e=>show (aM (il m f).st g).n=(aM m.st g).n from e)]
  by_cases hb0:0≤bM m.st g j
  ·rw[if_pos hb0,if_pos hb0];congr 1;show jc (jb m.dk _) _=_;rw[xD h.pt.dk hB.b0 z,if_neg];rintro⟨_,e⟩;simp only at e;rcases hB.was with ⟨hw,_⟩|⟨_,hn,_⟩
   ·exact hx (ND h.pt.st t hF (by omega) (by omega))
   ·exact hn (by rw[e];exact uP t)
  ·rw[if_neg hb0,if_neg hb0]
 have hv:ic (il m f) (aR m f).f (aR m f).i=(aR m f).p:=by have hs:bM (il m f).st (aR m f).f (aR m f).i=dS m.st (aR m f).f (aR m f).i:=hB.at_;have ht:=hc.tail c v;rw[hp,bX,←l.2.1,←l.2.2] at ht;unfold ic;rw[hs,if_pos hB.b0,show (aM (il m f).st (aR m f).f).n=(aM m.st (aR m f).f).n from hB.size _];show fJ (jc (jb m.dk _) _) _=_;rw[xD h.pt.dk hB.b0 z,if_pos ⟨hD,rfl⟩];exact ht
 have y:∀g j,zz m.st g j→bC (il m f) g j=bC m g j:=by
  intro g j t;have hl:tu (il m f) g j=tu m g j:=rfl;rw[pQ,pQ,hl];rcases yN m g j with ⟨d,hd,hdm,_⟩|⟨hd,hno⟩
  ·rw[hd];exact (a d.k.toNat).1
  rw[hd];exact hz g j t fun e=>hno c v ⟨by rw[e.1];exact l.2.1.symm,by rw[e.2];exact l.2.2.symm⟩
 have hE:Pt (il m f):=by have hd:bi (jb m.dk (dS m.st (aR m f).f (aR m f).i,(aR m f).p))=0:=zm h.pt.dk hB.b0 z;exact { fr:=NN h.pt.fr (Qu (h.pt.frE hf)),sl:=h.pt.sl,sw:=h.pt.sw,dk:=hd,st:=hB.right,swl:=h.pt.swl,dkl:=by show ((jb m.dk _).blocks.length:Int)=_;rw[xe,h.pt.dkl];exact hB.count.symm,spl:=h.pt.spl,ar:=h.pt.ar,tb:=h.pt.tb }
 have hr:vB (il m f):=⟨fun d hd=>(h.ca.file d hd).same hB.len hB.lenb,fun d hd=>by rw[o];exact h.ca.lt d hd,fun d hd=>by have:=a d.k.toNat;rw[this.2.1,this.2.2.1,this.2.2.2];exact h.ca.fr d hd,h.ca.srt⟩;refine⟨⟨hE,⟨fun b hb0 hG => ?_,fun q hq => ?_⟩,h.live,hr,fun p n hk => ?_,fun i hi => ?_,fun i hi hy => ?_,h.cs⟩,⟨fun d hd => ?_,fun d hd hA => ?_,fun i hi hh => ?_⟩,?_,rfl,rfl,rfl,rfl,rfl⟩
 ·have hC : b<m.dk.blocks.length:=by have:((il m f).dk.blocks.length)=m.dk.blocks.length:=xe _ _;omega
  by_cases hu:b∈kF m.st
  ·exact .inl ((hB.used b hb0).2 (.inr hu))
  by_cases e:b=dS m.st (aR m f).f (aR m f).i
  ·exact .inl ((hB.used b hb0).2 (.inl e))
  refine .inr ?_;show (jb m.dk _).blocks.getD b.toNat zPg=zPg;rw[Rf hb0 (fun q hq=>⟨fun e=>hu (by rw[←e];exact h.trim.2 q hq),((gD _).1 h.pt.dk).2.2 q hq |>.1⟩)];exact (h.trim.1 b hb0 hC).resolve_left hu
 ·rcases SA hq with hq|rfl
  ·exact (hB.used _ (((gD _).1 h.pt.dk).2.2 q hq).1).2 (.inr (h.trim.2 q hq))
  ·exact (hB.used _ hB.b0).2 (.inl rfl)
 ·obtain⟨g,hg,u⟩:=h.en p n hk;refine⟨g,hg,u.sw,fun ha=>by rw[o];exact u.lt ha,fun ha => ?_⟩;have h1:=u.fr ha;have h2:=a (ent m p n).n.toNat;unfold Qc at h1 ⊢;rw[w,h2.2.1,h2.2.2.1,h2.2.2.2];exact h1
 ·rw[(a i).2.2.2];exact h.cf i (by rw[←o];exact hi)
 ·rw[(a i).2.1] at hy;exact h.fc i (by rw[←o];exact hi) hy
 ·rw[(a d.k.toNat).1,show (aM (il m f).st d.f).n=(aM m.st d.f).n from hB.size _];exact hc.tail d hd
 ·by_cases e:d.k.toNat=f
  ·have hm:d=c:=h.ca.uniq hd v (by have:=h.ca.lt d hd;omega);subst hm;rw[(a d.k.toNat).1,e];rw[←l.2.1,←l.2.2];exact hv.symm
  rw[hj,if_neg e] at hA;rw[(a d.k.toNat).1,hc.clean d hd hA];refine (hz d.f d.i (h.ca.file d hd) fun e2=>e ?_).symm;have hm:d=c:=srt_eq h.ca.srt hd v (by rw[e2.1];exact l.2.1) (by rw[e2.2];exact l.2.2);rw[hm,hp];exact bX f
 ·rw[(a i).2.1];rw[hj] at hh
  by_cases e:i=f
  ·rw[e];exact h0
  ·rw[if_neg e] at hh;exact hc.anon i (by rw[←o];exact hi) hh
 refine Iu h.pt (kS.of rfl) s y fun p n g hg => ?_;rw[w];exact zT h.pt.st (h.pt.pg hg).1 s y (fun _=>⟨(a _).1,(a _).2.1⟩) (fun _=>⟨rfl,rfl⟩)
theorem xC (n:Int):dK zTb n=zEn:=by
 by_cases h:0≤n∧n<64
 ·obtain⟨q,r,hq,hr,rfl,_,_⟩:=xZ h;exact Bl hq hr (by simp[zTb])
 ·exact sH (by omega)
theorem zk {m m' : Ma} (h:m'.m=m.m) (g:Nat):aR m' g=aR m g:=by unfold aR;rw[h]
theorem su {m:Ma} {n:Int} (h:(ent m p n).k≠0):p<m.sp.length∧0≤n∧n<64:=by
 refine⟨?_,?_⟩
 ·rcases fG p m.sp.length with hp|hp
  ·exact hp
  refine absurd ?_ h;unfold ent;rw[qW hp,show zSp.tb=zTb from rfl,xC];rfl
 by_cases hn:n<0∨64≤n
 ·exact absurd (by rw[Oq p hn];rfl) h
 ·omega
theorem Ku (k:Kp) (u:Nat × Int) (h1:(ent k.m u.1 u.2).k=1) (h2:(ent k.m u.1 u.2).n=f):qD k u.1 u.2=Vo f zEn k u:=by
 unfold qD Vo;have b : (dK (fH k.m u.1).tb u.2).k=1:=h1;have a : (dK (fH k.m u.1).tb u.2).n=f:=h2;simp only[b,a,if_true]
theorem Bi {k:Kp} (h:Rt k.m) (hc:Co k.m) (hf:f<k.m.m.fs.length) (h0:0≤(aR k.m f).f) (hb:iI k.m f=true):∃m1,gU k f=⟨m1,k.e⟩∧Cleaned k.m m1 f:=by
 rw[DV h hf]
 by_cases hd:(aR k.m f).d=false
 ·rw[if_pos (.inr (.inl hd))];refine⟨k.m,rfl,h,hc,.refl _,rfl,rfl,rfl,rfl,?_⟩;have:({ aR k.m f with d:=false }:Fr)=aR k.m f:=by rw[←hd]
  rw[this,Ez hf]
 have a:dz k.m.st (aR k.m f).f (aR k.m f).i=0:=by
  unfold iI at hb;simp only[uG,decide_eq_true_eq,xE] at hb;rcases hb with (h1|h1)|h1
  ·omega
  ·exact absurd h1 hd
  ·exact h1
 rw[if_neg]
 ·exact⟨_,rfl,GL h hc hf h0 a⟩
 rintro (h1|h1|h1)
 ·omega
 ·exact hd h1
 ·exact h1 a
theorem TQ {k:Kp} (h:Rt k.m) (hf:f<k.m.m.fs.length) (hb:iI k.m f=false):gU k f=k:=by
 rw[DV h hf,if_pos];unfold iI at hb;simp only[zJ,decide_eq_false_iff_not] at hb;exact .inr (.inr hb.2)
structure vL (m m' : Ma) (f:Nat):Prop where
 rt:Rt m'
 co:Co m'
 vis:Fz m m'
 len:m'.m.fs.length=m.m.fs.length
 hand:m'.m.hand=m.m.hand
 free:aR m' f=frZ
 oth:∀g,g≠f→aR m' g=aR m g
 sll:m'.sl.length=m.sl.length
 ents:∀p n,¬((ent m p n).k=1∧(ent m p n).n=f)→ent m' p n=ent m p n
 cas:∀c,c∈m'.ca↔c∈m.ca∧c.k≠f
 std:(m'.st=m.st∧m'.dk=m.dk)∨(0≤(aR m f).f∧(aR m f).d=true∧dz m.st (aR m f).f (aR m f).i=0∧m'.st=(il m f).st∧m'.dk=(il m f).dk)
theorem QK {l:List Cc} (hs:l.Pairwise CB) {c:Cc} (hj:l[j]?=some c) (d:Cc):d∈l.eraseIdx j↔d∈l∧¬(d.f=c.f∧d.i=c.i):=by
 have b:=(dn.1 hj).1;have a:=(dn.1 hj).2;rw[List.mem_eraseIdx_iff_getElem];constructor
 ·rintro⟨i,hi,hne,rfl⟩;refine⟨dM _,fun e => ?_⟩;have:=srt_eq hs (dM hi) (bN hj) e.1 e.2;rcases wC hne with h1|h1
  ·have h2:=Ai.1 hs i j hi b h1;rw[a,this] at h2;exact Jg _ h2
  have h2:=Ai.1 hs j i b hi h1;rw[a,this] at h2;exact Jg _ h2
 rintro⟨hd,hne⟩;obtain⟨i,hi,rfl⟩:=jK.1 hd;exact⟨i,hi,fun e=>hne (by subst e;rw[a];exact⟨rfl,rfl⟩),rfl⟩
theorem AC {α:Type} (q:α→Bool):∀(l:List α) (j:Nat) (h:j<l.length),(l.eraseIdx j).countP q+wM (q l[j])=l.countP q
 | a::l,0,_=>by simp only[List.eraseIdx_cons_zero,zC,ou,wM]
 | a::l,j+1,h=>by have:=AC q l j (by simpa using h);simp only[List.eraseIdx_cons_succ,Dn,ou];omega
structure Xv (m M:Ma) (j:Nat) (d:Cc):Prop where
 rt:Rt M
 co:Co M
 sk:kS m M
 len:M.m.fs.length=m.m.fs.length
 hand:M.m.hand=m.m.hand
 sl:M.sl=m.sl
 sw:M.sw=m.sw
 dk:M.dk=m.dk
 st:M.st=m.st
 ca:M.ca=m.ca.eraseIdx j
 fr:∀g,aR M g=if g=d.k.toNat then frZ else aR m g
 cas:∀e,e∈M.ca↔e∈m.ca∧¬(e.f=d.f∧e.i=d.i)
 cak:∀e,e∈M.ca→e∈m.ca∧e.k.toNat≠d.k.toNat
 ents:∀p n,ent M p n=if (ent m p n).k=1∧(ent m p n).n=d.k then zEn else ent m p n
theorem Wm {k:Kp} (h:Rt k.m) (hc:Co k.m) {d:Cc} (hd:k.m.ca[j]?=some d):∃M,Du k j=⟨M,k.e⟩∧Xv k.m M j d:=by
 have hb:=bN hd;have hR:=h.ca.lt d hb;obtain⟨f,hk⟩:∃f:Nat,d.k=f:=⟨d.k.toNat,by omega⟩;have hf:f<k.m.m.fs.length:=by omega
 have hP:=h.ca.fr d hb;rw[hk,bX] at hP;have hq:xw k.m f=1:=by rw[←hk];exact h.ca.one hb
 have hr:=h.cf f hf;rw[hq,←uW] at hr;have hv:=Dl (f:=f) (e':=zEn) (by decide) (fun k u=>qD k u.1 u.2) Ku (bq k.m f) k h.pt (Ec k.m f) hf (by omega);obtain⟨r1,r2,r3,r4,r5,r6,r7⟩:=hv;have hG:(bq k.m f).foldl (fun k u=>qD k u.1 u.2) k=kL k (bq k.m f):=rfl;rw[hG] at r1 r2 r3 r4 r5 r6 r7;generalize hk2:kL k (bq k.m f)=k2 at r1 r2 r3 r4 r5 r6 r7;have hy:jG (aR k.m f) (-((bq k.m f).length:Int)) = { aR k.m f with r:=1 }:=by unfold jG;rw[if_neg (by omega)];congr 1;omega
 simp only[hy] at r5;have hQ:RB k.m j=d:=by unfold RB;rw[aV,hd];rfl
 have hO:Du k j=iM ⟨{ k2.m with ca:=k2.m.ca.eraseIdx j },k2.e⟩ f (-1):=by unfold Du;simp only[hQ,hk,hk2]
 have hE:f<k2.m.m.fs.length:=by rw[r5,nE];exact hf
 have hj:aR k2.m f = { aR k.m f with r:=1 }:=by have:aR k2.m f=aR (setFr k.m f { aR k.m f with r:=1 }) f:=zk r5 f;rw[this,nT hf,if_pos rfl]
 have hw:∀g,g≠f→aR k2.m g=aR k.m g:=by intro g hg;have:aR k2.m g=aR (setFr k.m f { aR k.m f with r:=1 }) g:=zk r5 g;rw[this,nT hf,if_neg hg]
 have hC:Pt { k2.m with ca:=k2.m.ca.eraseIdx j }:={ fr:=r2.fr,sl:=r2.sl,sw:=r2.sw,dk:=r2.dk,st:=r2.st,swl:=r2.swl,dkl:=r2.dkl,spl:=r2.spl,ar:=r2.ar,tb:=r2.tb };obtain⟨e3,p3⟩:=JW (k:=⟨{ k2.m with ca:=k2.m.ca.eraseIdx j },k2.e⟩) (f:=f) (n:=-1) hC hE (by show (aR k2.m f).r≠0;rw[hj];show (1:Int)≠0;decide) (by show -(aR k2.m f).r≤-1;rw[hj];show -(1:Int)≤-1;decide) (by show -1≤1000-(aR k2.m f).r;rw[hj];show -1≤(1000:Int)-1;decide);have hz:jG (aR { k2.m with ca:=k2.m.ca.eraseIdx j } f) (-1)=frZ:=by show jG (aR k2.m f) (-1)=frZ;rw[hj];rfl
 rw[hz] at e3 p3;refine⟨_,hO.trans (e3.trans (by rw[r1])),?_⟩;generalize hM:setFr { k2.m with ca:=k2.m.ca.eraseIdx j } f frZ=M at p3 ⊢;have y:∀g,aR M g=if g=f then frZ else aR k.m g:=by
  intro g;rw[←hM,nT (m:={ k2.m with ca:=k2.m.ca.eraseIdx j }) hE]
  by_cases e:g=f
  ·rw[if_pos e,if_pos e]
  ·rw[if_neg e,if_neg e,←hw g e];rfl
 have b:M.m.fs.length=k.m.m.fs.length:=by rw[←hM,nE];show k2.m.m.fs.length=_;rw[r5,nE]
 have v:M.sl=k.m.sl:=by rw[←hM];exact r3.sl
 have hI:M.sw=k.m.sw:=by rw[←hM];exact r3.sw
 have w:M.dk=k.m.dk:=by rw[←hM];exact r3.dk
 have o:M.st=k.m.st:=by rw[←hM];exact r3.st
 have x:M.ca=k.m.ca.eraseIdx j:=by rw[←hM];show k2.m.ca.eraseIdx j=_;rw[r3.ca]
 have hL:=(dn.1 hd).1;have hl:kS k.m M:=by rw[←hM];exact r4.trans (kS.of rfl)
 have hx:∀p n,(p,n)∈bq k.m f↔(ent k.m p n).k=1∧(ent k.m p n).n=f:=by
  intro p n;rw[vk];constructor
  ·rintro⟨_,_,h3⟩;exact h3
  intro h3;have h4:=su (m:=k.m) (p:=p) (n:=n) (by rw[h3.1];decide);exact⟨h4.1,h4.2,h3⟩
 have q:∀p n,ent M p n=if (ent k.m p n).k=1∧(ent k.m p n).n=f then zEn else ent k.m p n:=fun p n=>by
  have:ent M p n=if (p,n)∈bq k.m f then zEn else ent k.m p n:=by rw[←hM];exact r6 p n
  rw[this];simp only[hx]
 have t:∀kd i,dD M kd i+(if kd=1∧i=f then (bq k.m f).length else 0)=dD k.m kd i+(if kd=zEn.k∧i=zEn.n then (bq k.m f).length else 0):=fun kd i=>by rw[←hM];exact r7 kd i
 have hh:∀e,e∈M.ca↔e∈k.m.ca∧¬(e.f=d.f∧e.i=d.i):=fun e=>by rw[x];exact QK h.ca.srt hd e
 have a:∀e,e∈M.ca→e∈k.m.ca∧e.k.toNat≠f:=fun e he=>by have h1:=(hh e).1 he;refine⟨h1.1,fun h2=>h1.2 ?_⟩;have h3:=h.ca.uniq h1.1 hb (by have:=h.ca.lt e h1.1;omega);rw[h3];exact⟨rfl,rfl⟩
 have l:∀g,g≠f→aR M g=aR k.m g:=fun g hg=>by rw[y,if_neg hg]
 have hB:vB M:=⟨fun e he=>by rw[o];exact h.ca.file e (a e he).1,fun e he=>by rw[b];exact h.ca.lt e (a e he).1,
  fun e he=>by rw[l _ (a e he).2];exact h.ca.fr e (a e he).1,by rw[x];exact h.ca.srt.sublist (List.eraseIdx_sublist _ _)⟩
 have hA:∀g i,ic M g i=ic k.m g i:=fun g i=>by unfold ic;rw[o,w]
 refine⟨⟨p3,⟨?_,?_⟩,fun p hp => ?_,hB,fun p n z => ?_,fun i hi => ?_,fun i hi hn => ?_,fun s hs => ?_⟩,⟨fun e he => ?_,fun e he hF => ?_,fun i hi hm => ?_⟩,hl,b,?_,v,hI,w,o,x,by rw[hk,bX];exact y,hh,by rw[hk,bX];exact a,by rw[hk];exact q⟩
 ·rw[w,o];exact h.trim.1
 ·rw[w,o];exact h.trim.2
 ·rw[hl.lv] at hp;have h1:=h.live p hp;rw[hl.ar];refine⟨h1.1,fun n => ?_⟩;rw[q]
  by_cases hu:(ent k.m p n).k=1∧(ent k.m p n).n=f
  ·rw[if_pos hu];rfl
  ·rw[if_neg hu];exact h1.2 n
 ·rw[q] at z ⊢
  by_cases hu:(ent k.m p n).k=1∧(ent k.m p n).n=f
  ·rw[if_pos hu] at z; exact absurd rfl z
  rw[if_neg hu] at z ⊢;obtain⟨g,hg,ha⟩:=h.en p n z;refine⟨g,by unfold ni;rw[hl.ar];exact hg,by rw[v];exact ha.sw,by rw[b];exact ha.lt,fun hD => ?_⟩;have hK:(ent k.m p n).n.toNat≠f:=by intro e;have h5:=((cO _).1 (ul h.pt p n));exact hu ⟨hD,by omega⟩
  rw[y,if_neg hK];exact ha.fr hD
 ·have a1:=t 1 i;have hJ:¬((1:Int)=zEn.k∧(i:Int)=zEn.n):=fun e=>by cases e.1
  rw[if_neg hJ] at a1;have a2:=AC (fun c=>decide (c.k=(i:Int))) k.m.ca j hL;have hN:=(dn.1 hd).2;rw[hN] at a2;have a3:xw M i=(k.m.ca.eraseIdx j).countP (fun c=>decide (c.k=(i:Int))):=by unfold xw;rw[x]
  by_cases e:i=f
  ·subst e;rw[if_pos ⟨rfl,rfl⟩] at a1;have a4:wM (decide (d.k=(i:Int)))=1:=by rw[hk];simp[wM]
   have a5:k.m.ca.countP (fun c=>decide (c.k=(i:Int)))=1:=hq;rw[uW] at a1;rw[y,if_pos rfl,a3];show (0:Int)=_;omega
  rw[if_neg (fun h'=>e (by have:=h'.2;omega))] at a1;have a4:wM (decide (d.k=(i:Int)))=0:=by unfold wM;rw[if_neg];simp only[decide_eq_true_eq,hk];omega
  have a5:=h.cf i (by rw[←b];exact hi);have a6:xw k.m i=k.m.ca.countP (fun c=>decide (c.k=(i:Int))):=rfl;rw[l i e,a3];omega
 ·by_cases e:i=f
  ·subst e;rw[y,if_pos rfl] at hn;exact absurd hn (by decide)
  rw[l i e] at hn;obtain⟨c',hH,ht⟩:=h.fc i (by rw[←b];exact hi) hn;refine⟨c',(hh c').2 ⟨hH,fun h2 => ?_⟩,ht⟩;have:=srt_eq h.ca.srt hH hb h2.1 h2.2;rw[this,hk] at ht;omega
 ·have a1:=t 2 s;rw[if_neg (fun e=>by cases e.1),if_neg (fun e=>by cases e.1)] at a1;have a2:=h.cs s (by rw[←v];exact hs);have a3:pu M s=pu k.m s:=by unfold pu;rw[v]
  rw[a3,a2];omega
 ·have h1:=a e he;rw[l _ h1.2,o];exact hc.tail e h1.1
 ·have h1:=a e he;rw[l _ h1.2] at hF ⊢;rw[hA];exact hc.clean e h1.1 hF
 ·by_cases e:i=f
  ·rw[y,if_pos e] at hm;cases hm
  rw[l i e] at hm ⊢;exact hc.anon i (by rw[←b];exact hi) hm
 rw[←hM];show k2.m.m.hand=_;rw[r5];rfl
theorem Xv.con {m M:Ma} {d:Cc} (h:Rt m) (U:Xv m M j d) {g i:Int} (hn:¬(g=d.f∧i=d.i)):bC M g i=bC m g i:=by
 rcases yN m g i with ⟨e,he,hem,hef,hei⟩|⟨he,hno⟩
 ·subst hef;subst hei;have a:=(U.cas e).2 ⟨hem,hn⟩;rw[oN h.ca hem,oN U.rt.ca a,U.fr,if_neg (U.cak e a).2]
 rw[qg hno,qg (fun e' b=>hno e' ((U.cas e').1 b).1)];unfold ic;rw[U.st,U.dk]
theorem NK {k:Kp} (h:Rt k.m) (hc:Co k.m) (hf:f<k.m.m.fs.length) (h0:0≤(aR k.m f).f) (hb:iI k.m f=true) :
  (fF k f).e=k.e∧vL k.m (fF k f).m f:=by
 obtain⟨m1,hi,hC⟩:=Bi h hc hf h0 hb;have hq:bq k.m f=bq m1 f:=by unfold bq fH;rw[hC.sp]
 have q:aR m1 f = { aR k.m f with d:=false }:=by have:aR m1 f=aR (setFr k.m f { aR k.m f with d:=false }) f:=zk hC.fs f;rw[this,nT hf,if_pos rfl]
 have w:∀g,g≠f→aR m1 g=aR k.m g:=by intro g hg;have:aR m1 g=aR (setFr k.m f { aR k.m f with d:=false }) g:=zk hC.fs g;rw[this,nT hf,if_neg hg]
 have hh:m1.m.fs.length=k.m.m.fs.length:=by rw[hC.fs];exact nE
 have y:f<m1.m.fs.length:=by rw[hh];exact hf
 obtain⟨c,a,b⟩:=hC.rt.fc f y (by rw[q];exact h0);have j:=hC.rt.ca.fr c a;rw[b,bX] at j;have o : (aR k.m f).f=c.f∧(aR k.m f).i=c.i:=by rw[←j.2.1,←j.2.2,q];exact⟨rfl,rfl⟩
 obtain⟨d,hd,hy,hx⟩:=RJ ((NU hC.rt.ca.srt).2 ⟨c,a,o.1.symm,o.2.symm⟩:Rc m1.ca (aR k.m f).f (aR k.m f).i=true);have hz:d=c:=srt_eq hC.rt.ca.srt (bN hd) a (hy.trans o.1) (hx.trans o.2);subst hz;obtain⟨M,hM,U⟩:=Wm (k:=⟨m1,k.e⟩) hC.rt hC.co hd;have hp:(kL ⟨m1,k.e⟩ (bq m1 f)).m.ca=m1.ca:=by have:=Dl (f:=f) (e':=zEn) (by decide) (fun k u=>qD k u.1 u.2) Ku (bq m1 f) ⟨m1,k.e⟩ hC.rt.pt (Ec m1 f) y (by have hr:=hC.rt.cf f y;rw[←uW] at hr;show _≤(aR m1 f).r;omega);exact this.2.2.1.ca
 have hv:fF k f=⟨M,k.e⟩:=by
  rw[←hM];unfold fF Du;simp only;have hA:RB m1 (zy m1.ca (aR k.m f).f (aR k.m f).i)=d:=by unfold RB;rw[aV,hd];rfl
  rw[if_pos h0,if_neg (by rw[hb];decide),hi,hq,hA,b];simp only[hp];rw[if_pos ((NU hC.rt.ca.srt).2 ⟨d,a,o.1.symm,o.2.symm⟩)]
 rw[hv];refine⟨rfl,?_⟩;change vL k.m M f;have hs:d.k.toNat=f:=by omega
 have hm:∀g,aR M g=if g=f then frZ else aR k.m g:=fun g=>by
  rw[U.fr,hs]
  by_cases e:g=f
  ·rw[if_pos e,if_pos e]
  ·rw[if_neg e,if_neg e];exact w g e
 have ha:kS k.m m1:=hC.vis.sk;have hB:kS k.m M:=ha.trans U.sk;have z:∀p n,ent m1 p n=ent k.m p n:=fun p n=>by unfold ent fH;rw[hC.sp]
 have l:sZ m1.st M.st:=sZ.of U.st;have t:∀g i,zz m1.st g i→bC M g i=bC m1 g i:=by
  intro g i _
  by_cases hed:g=d.f∧i=d.i
  ·rw[hed.1,hed.2,oN hC.rt.ca a,qg (fun e' hw=>((U.cas e').1 hw).2)];rw[show ic M d.f d.i=ic m1 d.f d.i by unfold ic;rw[U.st,U.dk]];exact (hC.co.clean d a (by rw[b,bX,q])).symm
  ·exact U.con hC.rt hed
 have v:Fz m1 M:=by
  refine Iu hC.rt.pt U.sk l t fun p n g hg => ?_;rw[U.ents]
  by_cases hu:(ent m1 p n).k=1∧(ent m1 p n).n=d.k
  ·rw[if_pos hu];obtain⟨g',hj,hn⟩:=hC.rt.en p n (by rw[hu.1];decide);rw[hg] at hj;cases hj;have h2:=hn.fr hu.1;rw[hu.2,b,bX] at h2;have h3:=h2.1 (by rw[q];exact h0);have x:zz m1.st g.fi g.pg:=by rw[←h3.1,←h3.2,j.2.1,j.2.2];exact hC.rt.ca.file d a
   have ht:¬g.fi<0:=by have:=x.1;omega
   have s:¬((M.st.fs.length:Int)≤g.fi∨Ab M.st g.fi g.pg=true):=by rw[U.st];exact EJ hC.rt.pt.st x
   have hl:FN m1 g (ent m1 p n)=((aR m1 f).p,false,0):=by unfold FN;rw[if_pos hu.1,hu.2,b,xy,q];simp only[Prod.mk.injEq,true_and,and_true];exact decide_eq_false (by omega)
   rw[hl];unfold FN;rw[if_neg (by decide),if_neg (by decide),if_neg ht,if_neg s,t _ _ x];have:g.fi=d.f∧g.pg=d.i:=⟨by rw[←h3.1,j.2.1],by rw[←h3.2,j.2.2]⟩;rw[this.1,this.2,oN hC.rt.ca a,b,bX]
  rw[if_neg hu];refine zT hC.rt.pt.st (hC.rt.pt.pg hg).1 l t (fun hk => ?_) (fun hk=>by rw[U.sw];exact⟨rfl,rfl⟩);have s:(ent m1 p n).n.toNat≠d.k.toNat:=by intro e;have h5:=((cO _).1 (ul hC.rt.pt p n));exact hu ⟨hk,by omega⟩
  have:aR M (ent m1 p n).n.toNat=aR m1 (ent m1 p n).n.toNat:=by rw[U.fr,if_neg s]
  exact⟨congrArg Fr.p this,congrArg Fr.f this⟩
 refine⟨U.rt,U.co,hC.vis.trans v,U.len.trans hh,?_,by rw[hm,if_pos rfl],fun g hg=>by rw[hm,if_neg hg],by rw[U.sl,hC.sl],fun p n s=>by rw[U.ents,z,b,if_neg s],fun e => ?_,?_⟩
 ·rw[U.hand,hC.fs];rfl
 ·rw[U.cas,hC.ca];constructor
  ·rintro⟨h1,h2⟩;refine⟨h1,fun h3=>h2 ?_⟩;rw[h.ca.uniq h1 (by rw[←hC.ca];exact a) (by rw[h3,b])];exact⟨rfl,rfl⟩
  rintro⟨h1,h2⟩;refine⟨h1,fun h3=>h2 ?_⟩;rw[srt_eq h.ca.srt h1 (by rw[←hC.ca];exact a) h3.1 h3.2,b]
 rw[U.st,U.dk];have h1:=DV h hf;rw[hi] at h1
 by_cases hcd:(aR k.m f).f<0∨(aR k.m f).d=false∨dz k.m.st (aR k.m f).f (aR k.m f).i≠0
 ·rw[if_pos hcd] at h1;have h2:m1=k.m:=congrArg Kp.m h1;rw[h2];exact .inl ⟨rfl,rfl⟩
 rw[if_neg hcd] at h1;have h2:m1=il k.m f:=congrArg Kp.m h1;rw[h2];refine .inr ⟨h0,?_,?_,rfl,rfl⟩
 ·cases e:(aR k.m f).d with
  | true=>rfl
  | false=>exact absurd (.inr (.inl e)) hcd
 by_cases e:dz k.m.st (aR k.m f).f (aR k.m f).i=0
 ·exact e
 ·exact absurd (.inr (.inr e)) hcd
def OB (m:Ma) (f i:Int) (P:Page):Prop:=∃c∈m.ca,c.f=f∧c.i=i∧(aR m c.k.toNat).d=true∧(aR m c.k.toNat).p=P
structure VE (m m' : Ma):Prop where
 st:m'.st=m.st
 dk:m'.dk=m.dk
 di:∀f i P,OB m' f i P→OB m f i P
structure XF (P:Ma→Prop):Prop where
 cl:∀m f,Rt m→Co m→P m→f<m.m.fs.length→0≤(aR m f).f→(aR m f).d=true→dz m.st (aR m f).f (aR m f).i=0→P (il m f)
 sub:∀m m',Rt m→Co m→P m→Rt m'→Co m'→VE m m'→P m'
def Inv (m m' : Ma):Prop:=∀P,XF P→P m→P m'
theorem Inv.refl (m:Ma):Inv m m:=fun _ _ h=>h
theorem Inv.trans {a b c:Ma} (h:Inv a b) (k:Inv b c):Inv a c:=fun P hp ha=>k P hp (h P hp ha)
theorem VE.inv {m m' : Ma} (h:VE m m') (h1:Rt m) (h2:Co m) (h3:Rt m') (h4:Co m'):Inv m m':=fun P hp hm=>hp.sub m m' h1 h2 hm h3 h4 h
theorem VE.of {m m' : Ma} (st:m'.st=m.st) (dk:m'.dk=m.dk) (hc:∀c∈m'.ca,(aR m' c.k.toNat).d=true→c∈m.ca∧(aR m' c.k.toNat).d=(aR m c.k.toNat).d∧(aR m' c.k.toNat).p=(aR m c.k.toNat).p):VE m m':=
 ⟨st,dk,fun f i P ⟨c,a1,a2,a3,a4,a5⟩=>have ⟨b1,b2,b3⟩:=hc c a1 a4;⟨c,b1,a2,a3,by rw[←b2];exact a4,by rw[←b3];exact a5⟩⟩
theorem vL.inv {m m' : Ma} (h:Rt m) (hc:Co m) (hf:f<m.m.fs.length) (E:vL m m' f):Inv m m':=by
 have b:∀c∈m'.ca,c∈m.ca∧c.k.toNat≠f:=fun c a=>by have h1:=(E.cas c).1 a;have h2:=h.ca.lt c h1.1;exact⟨h1.1,fun e=>h1.2 (by omega)⟩
 rcases E.std with ⟨h1,h2⟩|⟨h0,hd,hb,h1,h2⟩
 ·refine VE.inv (.of h1 h2 fun c a _ => ?_) h hc E.rt E.co;rw[E.oth _ (b c a).2];exact⟨(b c a).1,rfl,rfl⟩
 have hC:=GL h hc hf h0 hb;refine Inv.trans (fun P hp hm=>hp.cl m f h hc hm hf h0 hd hb) (VE.inv (.of h1 h2 fun c a _ => ?_) hC.rt hC.co E.rt E.co);have h3:aR (il m f) c.k.toNat=aR m c.k.toNat:=by rw[zk hC.fs,nT hf,if_neg (b c a).2]
 rw[E.oth _ (b c a).2,h3];exact⟨(b c a).1,rfl,rfl⟩
theorem Ot {α:Type} {q:α→Bool} {l:List α} (h:0≤idx q l):∃k:Nat,idx q l=k∧∃hk:k<l.length,q l[k]=true:=by
 unfold idx at h ⊢;cases hf:l.findIdx? q with
 | none=>rw[hf] at h;simp at h
 | some k=>
  obtain⟨hk,hq,_⟩:=vW.1 hf;exact⟨k,rfl,hk,hq⟩
theorem UR {α:Type} {q:α→Bool} {l:List α} (h:idx q l<0):∀x∈l,q x=false:=by
 unfold idx at h;cases hf:l.findIdx? q with
 | none=>exact Ad.1 hf
 | some k=>rw[hf] at h;simp at h;omega
theorem Ub {m:Ma} (h:Pt m) {n:Int} (h1:1≤n) (h2:n≤1000) :
  (iy m.sl n=0∧∃s:Nat,s<m.sl.length∧pu m s=0∧jM m.sl n=s∧lL m.sl n=m.sl.set s n)∨(iy m.sl n=10∧∀s:Nat,s<m.sl.length→pu m s≠0):=by
 by_cases hi:idx JK m.sl<0
 ·refine .inr ⟨?_,fun s hs he => ?_⟩
  ·unfold iy;rw[if_neg (by rw[h.sl];simp),if_neg (by omega),if_pos hi]
  have:=UR hi _ (bN (MF hs));rw[he] at this;simp[JK] at this
 obtain⟨k,hk,a,hz⟩:=Ot (by omega:0≤idx JK m.sl);have hE:iy m.sl n=0:=by unfold iy;rw[if_neg (by rw[h.sl];simp),if_neg (by omega),if_neg hi]
 refine .inl ⟨hE,k,a,?_,?_,?_⟩
 ·have h3:=MF a;rw[aI a] at h3;rw[←aJ h3];simpa[JK] using hz
 ·unfold jM;rw[if_pos hE,hk]
 ·unfold lL;rw[if_pos hE,hk,bX]
theorem Qo {m:Ma} (h:Rt m) (hf:f<m.m.fs.length) (h0:(aR m f).f<0):xw m f=0∧(aR m f).r=(bq m f).length:=by
 have hc:xw m f=0:=vB.none (m:=m) (i:=f) fun c hc hk=>by have h1:=(h.ca.fr c hc).2.1;have h2:=(h.ca.file c hc).1;rw[hk,bX] at h1;omega
 refine⟨hc,?_⟩;have:=h.cf f hf;rw[hc,←uW] at this;omega
theorem Nk {k:Kp} (h:Rt k.m) (hc:Co k.m) (hf:f<k.m.m.fs.length) (h0:(aR k.m f).f<0) (hr:(aR k.m f).r≠0) (hb:iy k.m.sl (bq k.m f).length=0) :
  (fF k f).e=k.e∧vL k.m (fF k f).m f:=by
 obtain⟨hS,hV⟩:=Qo h hf h0;have h7:=((iN _).1 (h.pt.frE hf)).1;obtain⟨_,s,hs,hZ,z,hU⟩:=(Ub h.pt (n:=(bq k.m f).length) (by omega) (by omega)).resolve_right (fun e=>by rw[hb] at e;cases e.1);have hY:s<60:=by have:=jf h.pt.sl;omega
 have q:(s:Int)<k.m.sw.blocks.length:=by rw[h.pt.swl];omega
 have hC:aN k.m.sw (s:Int)=0:=nC.2 ⟨h.pt.sw,by omega,q⟩;have hl:∃L:Nat,L=(bq k.m f).length:=⟨_,rfl⟩;obtain⟨L,hL⟩:=hl;generalize hm1:({ k.m with sl:=k.m.sl.set s (L:Int),sw:=jb k.m.sw ((s:Int),(aR k.m f).p) }:Ma)=m1;have hX:fF k f=sF ⟨m1,k.e⟩ f s (bq k.m f):=by
  unfold fF;simp only;rw[if_neg (by omega),if_neg (by rw[hb];simp),z,hC,hU];have hw:dE k.m.sw (s:Int) (aR k.m f).p=jb k.m.sw ((s:Int),(aR k.m f).p):=by unfold dE;rw[if_pos hC]
  have he:jo k.e 0=k.e:=by unfold jo;split<;>simp_all
  rw[hw,he,←hm1,hL]
 have o:m1.m=k.m.m:=by rw[←hm1]
 have a:m1.sp=k.m.sp:=by rw[←hm1]
 have hh:m1.sl=k.m.sl.set s (L:Int):=by rw[←hm1]
 have ha:m1.sw=jb k.m.sw ((s:Int),(aR k.m f).p):=by rw[←hm1]
 have hm:m1.dk=k.m.dk:=by rw[←hm1]
 have hd:m1.st=k.m.st:=by rw[←hm1]
 have hI:m1.ca=k.m.ca:=by rw[←hm1]
 have hM:Pt m1:={ fr:=by rw[o];exact h.pt.fr,sl:=by rw[hh];exact Fh s _ h.pt.sl (by omega) (by omega),sw:=by rw[ha];exact zm h.pt.sw (by show (0:Int)≤s;omega) q,dk:=by rw[hm];exact h.pt.dk,st:=by rw[hd];exact h.pt.st,swl:=by rw[ha,hh,xe,bP];exact h.pt.swl,dkl:=by rw[hm,hd];exact h.pt.dkl,spl:=by rw[a];exact h.pt.spl,ar:=by rw[a];exact h.pt.ar,tb:=by rw[a];exact h.pt.tb };have hJ:∀p n,ent m1 p n=ent k.m p n:=fun p n=>by unfold ent fH;rw[a]
 have hT:bq k.m f=bq m1 f:=by unfold bq fH;rw[a]
 have ht:∀g,aR m1 g=aR k.m g:=fun g=>zk o g;have hH:=Dl (f:=f) (e':=⟨2,s,false⟩) ((cO _).2 (.inr (.inr ⟨rfl,by show (0:Int)≤s;omega,by show (s:Int)<60;omega,rfl⟩))) (GY f s) (fun _ _ _ _=>rfl) (bq k.m f) ⟨m1,k.e⟩ hM (by rw[hT];exact Ec m1 f) (by show f<m1.m.fs.length;rw[o];exact hf) (by show _≤(aR m1 f).r;rw[ht];omega);obtain⟨r1,r2,r3,r4,r5,r6,r7⟩:=hH;have hR:(bq k.m f).foldl (GY f s) ⟨m1,k.e⟩=sF ⟨m1,k.e⟩ f s (bq k.m f):=rfl;rw[hR,←hX] at r1 r2 r3 r4 r5 r6 r7;refine⟨r1,?_⟩;generalize fF k f=k2 at *
 obtain⟨M,eM⟩:=k2;change vL k.m M f;simp only at r1 r2 r3 r4 r5 r6 r7;have hz:jG (aR m1 f) (-((bq k.m f).length:Int))=frZ:=by unfold jG;rw[if_pos (by rw[ht];omega)]
 rw[hz] at r5;have hv:∀g,aR M g=if g=f then frZ else aR k.m g:=by intro g;rw[zk r5 g,nT (by rw[o];exact hf),ht]
 have d:∀g,g≠f→aR M g=aR k.m g:=fun g hg=>by rw[hv,if_neg hg]
 have t:M.m.fs.length=k.m.m.fs.length:=by rw[r5,nE,o]
 have y:M.sl=k.m.sl.set s (L:Int):=r3.sl.trans hh;have hG:M.sw=jb k.m.sw ((s:Int),(aR k.m f).p):=r3.sw.trans ha;have hB:M.dk=k.m.dk:=r3.dk.trans hm;have u:M.st=k.m.st:=r3.st.trans hd;have b:M.ca=k.m.ca:=r3.ca.trans hI;have z:kS k.m M:=(kS.of a).trans r4;have v:∀p n,ent M p n=if (p,n)∈bq k.m f then ⟨2,s,false⟩ else ent k.m p n:=fun p n=>by rw[r6,hJ]
 have l:∀p n,(p,n)∈bq k.m f↔(ent k.m p n).k=1∧(ent k.m p n).n=f:=by
  intro p n;rw[vk];constructor
  ·rintro⟨_,_,h3⟩;exact h3
  intro h3;have h4:=su (m:=k.m) (p:=p) (n:=n) (by rw[h3.1];decide);exact⟨h4.1,h4.2,h3⟩
 have hn:sZ k.m.st M.st:=sZ.of u;have hx:∀g i,ic M g i=ic k.m g i:=fun g i=>by unfold ic;rw[u,hB]
 have hy:∀c∈k.m.ca,c.k.toNat≠f:=fun c hc e=>by have h1:=(h.ca.fr c hc).2.1;have h2:=(h.ca.file c hc).1;rw[e] at h1;omega
 have hA:vB M:=⟨by rw[b,u];exact h.ca.file,by rw[b,t];exact h.ca.lt,fun c hc=>by rw[b] at hc;rw[d _ (hy c hc)];exact h.ca.fr c hc,by rw[b];exact h.ca.srt⟩;have hF:∀g i,zz k.m.st g i→bC M g i=bC k.m g i:=by
  intro g i h6;rcases yN k.m g i with ⟨e,he,hem,hef,hei⟩|⟨he,hno⟩
  ·subst hef;subst hei;rw[oN h.ca hem,oN hA (by rw[b];exact hem),d _ (hy e hem)]
  ·rw[qg hno,qg (by rw[b];exact hno),hx]
 have hN:∀p n,(ent k.m p n).k=2→(ent k.m p n).n≠s:=by intro p n hO he;have h3:=su (m:=k.m) (p:=p) (n:=n) (by rw[hO];decide);have h4:=(zD (m:=k.m) (kd:=2) (i:=s) (by decide)).2 ⟨p,n,h3.1,h3.2,hO,he⟩;have h5:=h.cs s hs;omega
 have hK:Fz k.m M:=by
  refine Iu h.pt z hn hF fun p n g hg => ?_;rw[v]
  by_cases hu:(p,n)∈bq k.m f
  ·rw[if_pos hu];have h1:=(l p n).1 hu;unfold FN;rw[if_neg (show ¬(2:Int)=1 by decide),if_pos rfl,if_pos h1.1,h1.2,xy,hG];rw[xD h.pt.sw (by show (0:Int)≤s;omega) q,if_pos ⟨hC,rfl⟩,JD h.pt.sw (by show (0:Int)≤s;omega) q,hC,decide_eq_true h0]
  rw[if_neg hu];refine zT h.pt.st (h.pt.pg hg).1 hn hF (fun hk => ?_) (fun hk => ?_)
  ·have hq:(ent k.m p n).n.toNat≠f:=by intro e;have h5:=((cO _).1 (ul h.pt p n));exact hu ((l p n).2 ⟨hk,by omega⟩)
   have:=d _ hq;exact⟨congrArg Fr.p this,congrArg Fr.f this⟩
  rw[hG,xD h.pt.sw (by show (0:Int)≤s;omega) q,if_neg (fun e=>hN p n hk e.2.symm),JD h.pt.sw (by show (0:Int)≤s;omega) q];exact⟨rfl,rfl⟩
 refine⟨⟨r2,by rw[hB,u];exact h.trim,fun p hp => ?_,hA,fun p n hk => ?_,fun i hi => ?_,fun i hi hE => ?_,fun j hj => ?_⟩,⟨fun e he => ?_,fun e he hQ => ?_,fun i hi hD => ?_⟩,hK,t,?_,by rw[hv,if_pos rfl],d,by rw[y,bP],fun p n hq=>by rw[v,if_neg (fun hu=>hq ((l p n).1 hu))],fun e => ?_,.inl ⟨u,hB⟩⟩
 ·rw[z.lv] at hp;have h1:=h.live p hp;rw[z.ar];refine⟨h1.1,fun n => ?_⟩;rw[v,if_neg]
  ·exact h1.2 n
  intro hu;have:=(l p n).1 hu;rw[h1.2 n] at this;exact absurd this.1 (by decide)
 ·rw[v] at hk ⊢
  by_cases hu:(p,n)∈bq k.m f
  ·rw[if_pos hu];have h1:=(l p n).1 hu;obtain⟨g,hg,w⟩:=h.en p n (by rw[h1.1];decide);refine⟨g,by unfold ni;rw[z.ar];exact hg,fun _=>⟨by rw[y,bP];show (s:Int)<_;omega,?_⟩,fun (e:(2:Int)=1)=>absurd e (by decide),fun (e:(2:Int)=1)=>absurd e (by decide)⟩;have h2:=w.fr h1.1;rw[h1.2,bX] at h2;cases hsh:g.sh with
   | false=>rfl
   | true=>have:=h2.2.1 hsh;omega
  rw[if_neg hu] at hk ⊢;obtain⟨g,hg,w⟩:=h.en p n hk;refine⟨g,by unfold ni;rw[z.ar];exact hg,by rw[y,bP];exact w.sw,by rw[t];exact w.lt,fun hP => ?_⟩;have hq:(ent k.m p n).n.toNat≠f:=by intro e;have h5:=((cO _).1 (ul h.pt p n));exact hu ((l p n).2 ⟨hP,by omega⟩)
  rw[d _ hq];exact w.fr hP
 ·have a1:=r7 1 i;rw[if_neg (fun e=>by cases e.1:¬((1:Int)=(⟨2,s,false⟩:En).k∧(i:Int)=(⟨2,s,false⟩:En).n))] at a1;have a2:dD m1 1 i=dD k.m 1 i:=by unfold dD;rw[a]
  have a3:xw M i=xw k.m i:=by unfold xw;rw[b]
  by_cases e:i=f
  ·subst e;rw[if_pos ⟨rfl,rfl⟩] at a1;rw[uW] at a1;rw[hv,if_pos rfl,a3,hS];show (0:Int)=_;omega
  rw[if_neg (fun h'=>e (by have:=h'.2;omega))] at a1;have a5:=h.cf i (by rw[←t];exact hi);rw[d i e,a3];omega
 ·by_cases e:i=f
  ·subst e;rw[hv,if_pos rfl] at hE;exact absurd hE (by decide)
  rw[d i e] at hE;rw[b];exact h.fc i (by rw[←t];exact hi) hE
 ·have a1:=r7 2 j;rw[if_neg (fun e=>by cases e.1)] at a1;have a2:dD m1 2 j=dD k.m 2 j:=by unfold dD;rw[a]
  have hW : j<k.m.sl.length:=by rw[y,bP] at hj;exact hj
  have a3:pu M j=if j=s then (L:Int) else pu k.m j:=by have:=Og (m:=k.m) (x:=(L:Int)) hs j;rw[←this];unfold pu setSl;rw[y]
  have a4:=h.cs j hW;rw[a3]
  by_cases e:j=s
  ·subst e;rw[if_pos ⟨rfl,rfl⟩] at a1;rw[if_pos rfl];omega
  rw[if_neg (fun h'=>e (by have h2:(j:Int)=(s:Int):=h'.2;omega))] at a1;rw[if_neg e];omega
 ·rw[b] at he;rw[d _ (hy e he),u];exact hc.tail e he
 ·rw[b] at he;rw[d _ (hy e he)] at hQ ⊢;rw[hx];exact hc.clean e he hQ
 ·by_cases e:i=f
  ·rw[hv,if_pos e] at hD;cases hD
  rw[d i e] at hD ⊢;exact hc.anon i (by rw[←t];exact hi) hD
 ·rw[r5];show m1.m.hand=_;rw[o]
 rw[b];constructor
 ·intro h1;exact⟨h1,fun h2=>hy e h1 (by rw[h2];exact bX f)⟩
 ·exact fun h1=>h1.1
theorem Sb {k:Kp} (h:Rt k.m) (hc:Co k.m) (hf:f<k.m.m.fs.length) (hr:(aR k.m f).r≠0) :
  if lW k.m f=true then (fF k f).e=k.e∧vL k.m (fF k f).m f else fF k f=k:=by
 unfold lW
 by_cases h0:0≤(aR k.m f).f
 ·rw[if_pos h0]
  by_cases hb:iI k.m f=true
  ·rw[if_pos hb];exact NK h hc hf h0 hb
  rw[if_neg hb];unfold fF;simp only;rw[if_pos h0,if_pos (by simpa using hb)]
 rw[if_neg h0]
 by_cases hb:iy k.m.sl (bq k.m f).length=0
 ·rw[if_pos (by simpa using hb)];exact Nk h hc hf (by omega) hr hb
 rw[if_neg (by simpa using hb)];unfold fF;simp only;rw[if_neg h0,if_pos hb]
def zZ (x y:Fr):Prop:=y.p=x.p∧y.r=x.r∧y.d=x.d∧y.f=x.f∧y.i=x.i
theorem zZ.refl (x:Fr):zZ x x:=⟨rfl,rfl,rfl,rfl,rfl⟩
theorem zZ.trans {x y z:Fr} (h:zZ x y) (k:zZ y z):zZ x z:=⟨k.1.trans h.1,k.2.1.trans h.2.1,k.2.2.1.trans h.2.2.1,k.2.2.2.1.trans h.2.2.2.1,k.2.2.2.2.trans h.2.2.2.2⟩
theorem VU {m m' : Ma} (h:Rt m) (hc:Co m) (hr:Rest m m') (hs:m'.sp=m.sp) (hw:bR m'.m=0) (hl:m'.m.fs.length=m.m.fs.length) (hf:∀g,zZ (aR m g) (aR m' g)):Rt m'∧Co m'∧Fz m m':=by
 have e:∀p n,ent m' p n=ent m p n:=fun p n=>by unfold ent fH;rw[hs]
 have u:∀p n,ni m' p n=ni m p n:=fun p n=>by unfold ni fH;rw[hs]
 have w:∀i,xw m' i=xw m i:=fun i=>by unfold xw;rw[hr.ca]
 have q:∀kd i,dD m' kd i=dD m kd i:=fun kd i=>by unfold dD;rw[hs]
 have j:∀f i,ic m' f i=ic m f i:=fun f i=>by unfold ic;rw[hr.st,hr.dk]
 have t:Pt m':={ fr:=hw,sl:=by rw[hr.sl];exact h.pt.sl,sw:=by rw[hr.sw];exact h.pt.sw,dk:=by rw[hr.dk];exact h.pt.dk,st:=by rw[hr.st];exact h.pt.st,swl:=by rw[hr.sw,hr.sl];exact h.pt.swl,dkl:=by rw[hr.dk,hr.st];exact h.pt.dkl,spl:=by rw[hs];exact h.pt.spl,ar:=by rw[hs];exact h.pt.ar,tb:=by rw[hs];exact h.pt.tb };have o:vB m':=⟨by rw[hr.ca,hr.st];exact h.ca.file,by rw[hr.ca,hl];exact h.ca.lt,fun c a=>by rw[hr.ca] at a;have h1:=hf c.k.toNat;rw[h1.2.1,h1.2.2.2.1,h1.2.2.2.2];exact h.ca.fr c a,by rw[hr.ca];exact h.ca.srt⟩;have l:∀f i,bC m' f i=bC m f i:=by
  intro f i;have hl:tu m' f i=tu m f i:=by unfold tu;rw[hr.ca]
  rw[pQ,pQ,hl];cases tu m f i with
  | none=>exact j f i
  | some c=>exact (hf c.k.toNat).1
 have b:sZ m.st m'.st:=sZ.of hr.st;refine⟨⟨t,by rw[hr.dk,hr.st];exact h.trim,fun p hp => ?_,o,fun p n hk => ?_,fun i hi => ?_,fun i hi h0 => ?_,fun s r => ?_⟩,⟨fun c a => ?_,fun c a hd => ?_,fun i hi hd => ?_⟩,?_⟩
 ·have:fH m' p=fH m p:=by unfold fH;rw[hs]
  rw[this] at hp ⊢;exact⟨(h.live p hp).1,fun n=>by rw[e];exact (h.live p hp).2 n⟩
 ·rw[e] at hk ⊢;obtain⟨g,hg,d⟩:=h.en p n hk;refine⟨g,by rw[u];exact hg,by rw[hr.sl];exact d.sw,by rw[hl];exact d.lt,fun v => ?_⟩;have h1:=d.fr v;have h2:=hf (ent m p n).n.toNat;unfold Qc at h1 ⊢;rw[h2.2.1,h2.2.2.2.1,h2.2.2.2.2];exact h1
 ·rw[(hf i).2.1,w,q];exact h.cf i (by rw[←hl];exact hi)
 ·rw[(hf i).2.2.2.1] at h0;rw[hr.ca];exact h.fc i (by rw[←hl];exact hi) h0
 ·rw[q];have:pu m' s=pu m s:=by unfold pu;rw[hr.sl]
  rw[this];exact h.cs s (by rw[←hr.sl];exact r)
 ·rw[hr.ca] at a;rw[(hf c.k.toNat).1,hr.st];exact hc.tail c a
 ·rw[hr.ca] at a;rw[(hf c.k.toNat).2.2.1] at hd;rw[(hf c.k.toNat).1,j];exact hc.clean c a hd
 ·rw[(hf i).2.2.1] at hd;rw[(hf i).2.2.2.1];exact hc.anon i (by rw[←hl];exact hi) hd
 refine Iu h.pt (kS.of hs) b (fun f i _=>l f i) fun p n g hg => ?_;rw[e];exact zT h.pt.st (h.pt.pg hg).1 b (fun f i _=>l f i) (fun _=>⟨(hf _).1,(hf _).2.2.2.1⟩) (fun _=>by rw[hr.sw];exact⟨rfl,rfl⟩)
def qC (m:Ma) (x:Mem):Ma:={ m with m:=x }
theorem QF {m:Ma} (hw:bR m.m=0) (hk:0≤iQ m.m):(iQ m.m).toNat<m.m.fs.length∧(aR m (iQ m.m).toNat).r≠0∧bR (fU m.m)=0∧(fU m.m).fs.length=m.m.fs.length∧∀g,zZ (aR m g) (aR (qC m (fU m.m)) g):=by
 have hf:mJ m.m.fs≠m.m.fs.length:=fun e=>by unfold iQ at hk;rw[if_neg (by rw[hw];simp),if_pos e] at hk;omega
 obtain⟨h,b,f⟩:=Sm m.m hw hf;have hM:fU m.m=⟨nX m.m (iC m.m),(iZ m.m (iC m.m+1):Nat)⟩:=by unfold fU;rw[if_neg (by rw[hw];simp),if_neg hf]
 have hK:iQ m.m=(iZ m.m (iC m.m):Nat):=by unfold iQ;rw[if_neg (by rw[hw];simp),if_neg hf]
 have a:0<m.m.fs.length:=by
  rcases sS m.m.fs.length with h0|h0
  ·exact absurd (by have:=EH m.m.fs;omega) hf
  ·exact h0
 have c:=pI a (iC m.m);have d:=pI a (iC m.m+1);obtain⟨w1,w2,w3,w4⟩:=(eQ _).1 hw;rw[hK,hM,bX];refine⟨c,?_,(eQ _).2 ⟨by simp only;rw[iW];exact w1,fun x hx => ?_,by simp only;omega,by simp only;rw[iW];omega⟩,iW _ _,fun g => ?_⟩
 ·unfold xh at b;simp only[dU,decide_eq_true_eq] at b;have h1:(aR m (iZ m.m (iC m.m))).r=(m.m.fs.getD (iZ m.m (iC m.m)) fr0).r:=rfl;rw[h1];omega
 ·obtain⟨i,hi,rfl⟩:=jK.1 hx;simp only at hi ⊢;rw[iW] at hi;rw[vD m.m _ i hi];have h3:=w2 m.m.fs[i] (dM hi);split
  ·rw[iN] at h3 ⊢;exact⟨h3.1,fun e=>⟨rfl,(h3.2.1 e).2.1,(h3.2.1 e).2.2.1,(h3.2.1 e).2.2.2⟩,h3.2.2⟩
  ·exact h3
 rcases fG g m.m.fs.length with hg|hg
 ·have e1:aR (qC m ⟨nX m.m (iC m.m),(iZ m.m (iC m.m+1):Nat)⟩) g=(nX m.m (iC m.m))[g]'(by rw[iW];exact hg):=by show (nX m.m (iC m.m)).getD g fr0=_;rw[aV,aI (by rw[iW];exact hg)];rfl
  have e2:aR m g=m.m.fs[g]:=by have:=yQ hg;rw[aI hg] at this;exact (aJ this).symm
  rw[e1,e2,vD m.m _ g hg];split
  ·exact⟨rfl,rfl,rfl,rfl,rfl⟩
  ·exact .refl _
 have e1:aR (qC m ⟨nX m.m (iC m.m),(iZ m.m (iC m.m+1):Nat)⟩) g=fr0:=Om (m:=qC m ⟨nX m.m (iC m.m),(iZ m.m (iC m.m+1):Nat)⟩) (by show (nX m.m (iC m.m)).length≤g;rw[iW];exact hg);rw[e1,Om hg];exact .refl _
structure EU (m m' : Ma) (o:Option Nat):Prop where
 rt:Rt m'
 co:Co m'
 vis:Fz m m'
 len:m'.m.fs.length=m.m.fs.length
 sll:m'.sl.length=m.sl.length
 fr:∀g,o≠some g→zZ (aR m g) (aR m' g)
 free:∀f,o=some f→f<m.m.fs.length∧aR m' f=frZ∧(aR m f).r≠0
 ents:∀p n,((ent m p n).k=1→o≠some (ent m p n).n.toNat)→ent m' p n=ent m p n
 cas:∀c,c∈m'.ca↔c∈m.ca∧o≠some c.k.toNat
 inv:Inv m m'
theorem EU.refl {m:Ma} (h:Rt m) (hc:Co m):EU m m none:=⟨h,hc,.refl m,rfl,rfl,fun _ _ => .refl _,(fun _ e=>by cases e),fun _ _ _=>rfl,fun c=>⟨fun h=>⟨h,by simp⟩,fun h=>h.1⟩,.refl m⟩
theorem reclaimN_ok:∀(t:Nat) (k:Kp),Rt k.m→Co k.m→(reclaimN t k).1.e=k.e∧∃o,EU k.m (reclaimN t k).1.m o∧((reclaimN t k).2=true↔o≠none)
 | 0,k,h,hc=>⟨rfl,none,EU.refl h hc,by simp[reclaimN]⟩
 | t+1,k,h,hc=>by
  have hw:=h.pt.fr;have hmust:jo k.e (bR k.m.m)=k.e:=by rw[hw];unfold jo;split<;>simp_all
  by_cases hn:iQ k.m.m<0
  ·have hd:reclaimN (t+1) k=(k,false):=by unfold reclaimN;rw[if_pos (.inr hn),hmust]
   rw[hd];exact⟨rfl,none,EU.refl h hc,by simp⟩
  obtain⟨n1,n2,n3,n4,n5⟩:=QF hw (by omega:0≤iQ k.m.m);have hd:reclaimN (t+1) k=if lW (qC k.m (fU k.m.m)) (iQ k.m.m).toNat=true then (fF ⟨qC k.m (fU k.m.m),k.e⟩ (iQ k.m.m).toNat,true) else reclaimN t (fF ⟨qC k.m (fU k.m.m),k.e⟩ (iQ k.m.m).toNat):=by
   conv=>lhs;unfold reclaimN
   rw[if_neg (by rintro (e | e);exact e hw;exact hn e)];rfl
  generalize hF:(iQ k.m.m).toNat=F at *
  obtain⟨hr1,hc1,hv1⟩:=VU (m:=k.m) (m':=qC k.m (fU k.m.m)) h hc ⟨rfl,rfl,rfl,rfl,rfl⟩ rfl n3 n4 n5;have hi1:Inv k.m (qC k.m (fU k.m.m)):=VE.inv (.of rfl rfl fun c hcm _=>⟨hcm,(n5 _).2.2.1,(n5 _).1⟩) h hc hr1 hc1;have hF1:F<(qC k.m (fU k.m.m)).m.fs.length:=by show F<(fU k.m.m).fs.length;rw[n4];exact n1
  have hfr1:(aR (qC k.m (fU k.m.m)) F).r≠0:=by rw[(n5 F).2.1];exact n2
  have hev:=Sb (k:=⟨qC k.m (fU k.m.m),k.e⟩) hr1 hc1 hF1 hfr1;rw[hd]
  by_cases hb:lW (qC k.m (fU k.m.m)) F=true
  ·rw[if_pos hb] at hev;obtain⟨he,hE⟩:=hev;rw[if_pos hb];refine⟨he,some F,⟨hE.rt,hE.co,hv1.trans hE.vis,hE.len.trans n4,hE.sll,fun g hg => ?_,fun f e => ?_,fun p n hne => ?_,fun c => ?_,hi1.trans (hE.inv hr1 hc1 hF1)⟩,by simp⟩
   ·have hne:g≠F:=fun e=>hg (by rw[e]);exact (n5 g).trans (by rw[hE.oth g hne];exact .refl _)
   ·cases e;exact⟨n1,hE.free,n2⟩
   ·exact hE.ents p n (fun e=>by have h2:((ent k.m p n).n:Int)=F:=e.2;exact hne e.1 (by rw[h2,bX]))
   refine (hE.cas c).trans ⟨fun h1=>⟨h1.1,fun e=>h1.2 ?_⟩,fun h1=>⟨h1.1,fun e=>h1.2 (by rw[e,bX])⟩⟩;have:=(h.ca.lt c h1.1).1;simp only[jg] at e;omega
  rw[if_neg hb] at hev;rw[if_neg hb,hev];obtain⟨i1,o,hI,i2⟩:=reclaimN_ok t ⟨qC k.m (fU k.m.m),k.e⟩ hr1 hc1;refine⟨i1,o,⟨hI.rt,hI.co,hv1.trans hI.vis,hI.len.trans n4,hI.sll,fun g hg=>(n5 g).trans (hI.fr g hg),fun f e => ?_,hI.ents,hI.cas,hi1.trans hI.inv⟩,i2⟩;obtain⟨a1,a2,a3⟩:=hI.free f e;refine⟨?_,a2,?_⟩
  ·have a1:f<(qC k.m (fU k.m.m)).m.fs.length:=a1;have:(qC k.m (fU k.m.m)).m.fs.length=k.m.m.fs.length:=n4;omega
  ·rw[(n5 f).2.1] at a3;exact a3
theorem Eu {k:Kp} (h:Rt k.m) (hc:Co k.m):(eF k).1.e=k.e∧∃o,EU k.m (eF k).1.m o∧((eF k).2=true↔o≠none):=reclaimN_ok _ k h hc
theorem Oo (p:Page) (n:Int):fJ (fJ p n) n=fJ p n:=by
 apply yt;intro i hi;simp only[fJ,rU];split<;>rfl
theorem Rj (n:Int):fJ zPg n=zPg:=by
 apply yt;intro i hi;simp only[fJ,rU];have hz:zPg[i]=0:=by
  match i,hi with
  | 0,_=>rfl
  | 1,_=>rfl
  | 2,_=>rfl
  | 3,_=>rfl
  | 4,_=>rfl
  | 5,_=>rfl
  | 6,_=>rfl
  | 7,_=>rfl
  | n+8,h=>omega
 split<;>rw[hz]
theorem PG (m:Ma) (f i:Int):fJ (ic m f i) ((aM m.st f).n-i*8)=ic m f i:=by
 unfold ic;split
 ·exact Oo _ _
 ·exact Rj _
theorem EK {f i k:Int}:∀ {l:List Cc},l.Pairwise CB→(∀c∈l,¬(c.f=f∧c.i=i))→(l.insertIdx (zy l f i) ⟨f,i,k⟩).Pairwise CB
 | [],_,_=>by simp[zy]
 | c::l,hs,hno=>by
  obtain⟨h1,h2⟩:=tF.1 hs;have hnc:=hno c ik
  by_cases hg:Bw f i c=true
  ·have:zy (c::l) f i=0:=by unfold zy;rw[zW,if_pos hg];rfl
   rw[this,List.insertIdx_zero];have hlt:CB ⟨f,i,k⟩ c:=by have:=xW.1 hg;unfold CB;simp only;omega
   refine tF.2 ⟨fun d hd => ?_,hs⟩;rcases bU.1 hd with rfl|hd
   ·exact hlt
   have:=h1 d hd;unfold CB at this hlt ⊢;omega
  have:zy (c::l) f i=zy l f i+1:=by unfold zy;rw[zW,if_neg hg];cases l.findIdx? (Bw f i)<;>rfl
  rw[this,Ie];refine tF.2 ⟨fun d hd => ?_,EK h2 fun d hd=>hno d (jv _ hd)⟩;rcases (JI (Ti l f i)).1 hd with rfl|hd
  ·have:¬(f<c.f∨c.f=f∧i≤c.i):=fun h=>hg (xW.2 h);unfold CB;simp only;omega
  ·exact h1 d hd
theorem yF {α:Type} (q:α→Bool) (x:α):∀(l:List α) (j:Nat),j≤l.length→(l.insertIdx j x).countP q=l.countP q+wM (q x)
 | l,0,_=>by rw[List.insertIdx_zero,ou];rfl
 | [],j+1,h=>by simp at h
 | a::l,j+1,h=>by rw[Ie,ou,ou,yF q x l j (by simpa using h)];omega
theorem firstE_zero:∀ {l:List Int},firstE l=0↔∀x∈l,x=0
 | []=>by simp[firstE]
 | x::l=>by
  unfold firstE
  by_cases hx:x=0
  ·rw[if_pos hx,firstE_zero];constructor
   ·intro h y hy;rcases bU.1 hy with e|hy
    ·rw[e,hx]
    ·exact h y hy
   ·exact fun h y hy=>h y (jv _ hy)
  rw[if_neg hx];exact⟨fun h=>absurd h hx,fun h=>absurd (h x ik) hx⟩
theorem nk {p:Prop} [Decidable p] {a b:Int} (ha:a≠0):(if p then a else b)=0↔¬p∧b=0:=by
 by_cases h:p
 ·rw[if_pos h];exact⟨fun h'=>absurd h' ha,fun h'=>absurd h h'.1⟩
 ·rw[if_neg h];exact⟨fun h'=>⟨h,h'⟩,fun h'=>h'.2⟩
theorem mH {a b:Int}:(if a≠0 then a else b)=0↔a=0∧b=0:=by
 by_cases h:a=0
 ·rw[if_neg (fun h'=>h' h)];exact⟨fun h'=>⟨h,h'⟩,fun h'=>h'.2⟩
 ·rw[if_pos h];exact⟨fun h'=>absurd h' h,fun h'=>absurd h'.1 h⟩
theorem Ce {s:Sp}:jO s=0↔(bJ s.ar).1=0∧dh s.tb=0∧(s.lv=false→s.ar=[]∧∀n,(dK s.tb n).k=0):=by
 unfold jO;rw[mH,mH,nk (by decide)];refine and_congr_right fun _=>and_congr_right fun _ => ?_;constructor
 ·rintro⟨h,_⟩ hl;have h1:s.ar.length+(aQ s.tb).length=0:=by
   rcases sS (s.ar.length+(aQ s.tb).length) with h0|h0
   ·exact h0
   ·exact absurd ⟨hl,h0⟩ h
  refine⟨jW (by omega),fun n => ?_⟩
  by_cases hn:0≤n∧n<64
  ·have h2:aQ s.tb=[]:=jW (by omega)
   by_cases hk:(dK s.tb n).k=0
   ·exact hk
   have:=oM.2 ⟨hn,hk⟩;rw[h2] at this;cases this
  ·rw[sH (by omega)];rfl
 refine fun h=>⟨?_,rfl⟩;rintro⟨hl,h0⟩;obtain⟨h1,h2⟩:=h hl;have h3:aQ s.tb=[]:=by rw[List.eq_nil_iff_forall_not_mem];intro n hn;exact (oM.1 hn).2 (h2 n)
 rw[h1,h3] at h0;exact absurd h0 (by simp)
theorem GQ {m:Ma}:trimB m=true↔(∀b:Int,0≤b→b<m.dk.blocks.length→b∈kF m.st∨m.dk.blocks.getD b.toNat zPg=zPg)∧∀q∈m.dk.queue,q.1∈kF m.st:=by
 unfold trimB;rw[dU,dF,dF];refine and_congr ⟨fun h b h0 hb => ?_,fun h b hb => ?_⟩ ⟨fun h q hq=>by simpa using h q hq,fun h q hq=>by simpa using h q hq⟩
 ·have:=h b.toNat (dG.2 (by omega));rw[xP h0] at this;simpa using this
 have:=h (b:Int) (by omega) (by have:=dG.1 hb;omega);simpa using this
theorem wU {m:Ma}:iq m=0↔Pt m∧trimB m=true∧∀s∈m.sp,s.lv=false→s.ar=[]∧∀n,(dK s.tb n).k=0:=by
 unfold iq;rw[mH,mH,mH,mH,mH,nk (by decide),nk (by decide),firstE_zero];constructor
 ·rintro⟨h1,h2,h3,h4,h5,h6,h7,h8⟩;have h9:∀s∈m.sp,_:=fun s hs=>Ce.1 (h8 _ (Da hs));refine⟨⟨h1,h2,h3,h4,h5,?_,?_,by omega,fun s hs=>(h9 s hs).1,fun s hs=>(h9 s hs).2.1⟩,?_,fun s hs=>(h9 s hs).2.2⟩
  ·exact vX fun h=>h6 (.inl h)
  ·exact vX fun h=>h6 (.inr (.inl h))
  cases h:trimB m with
  | true=>rfl
  | false=>exact absurd (.inr (.inr h)) h6
 rintro⟨h,ht,hl⟩;refine⟨h.fr,h.sl,h.sw,h.dk,h.st,?_,by have:=h.spl;omega,?_⟩
 ·rintro (h1|h1|h1)
  ·exact h1 h.swl
  ·exact h1 h.dkl
  ·rw[ht] at h1;cases h1
 intro x hx;obtain⟨s,hs,rfl⟩:=fP.1 hx;exact Ce.2 ⟨h.ar s hs,h.tb s hs,hl s hs⟩
theorem wR {m:Ma} {p:Option Cc} {c:Cc}:uA m p c=0↔(zz m.st c.f c.i∧0≤c.k∧c.k<m.m.fs.length)∧(1≤(aR m c.k.toNat).r∧(aR m c.k.toNat).f=c.f∧(aR m c.k.toNat).i=c.i)∧∀q,p=some q→CB q c:=by
 have a:qG m c.k=aR m c.k.toNat:=rfl;unfold uA;rw[nk (by decide),nk (by decide),a];refine and_congr ⟨fun h=>⟨⟨by omega,by omega⟩,by omega⟩,fun h=>by obtain⟨⟨_,_⟩,_⟩:=h;omega⟩ (and_congr ⟨fun h=>by omega,fun h=>by omega⟩ ?_);cases p with
 | none=>simp
 | some q=>
  simp only[jg,forall_eq'];rw[nk (by decide)];unfold CB;omega
theorem Hz {l:List Cc} (h:∀k (hk:k+1<l.length),CB (l[k]'(by omega)) l[k+1]):l.Pairwise CB:=by
 induction l with
 | nil=>exact List.Pairwise.nil
 | cons a l ih=>
  have ih:=ih fun k hk=>h (k+1) (by simpa using hk);refine tF.2 ⟨?_,ih⟩;cases l with
  | nil=>simp
  | cons b l=>
   have h0:CB a b:=h 0 (by simp);intro c hc;rcases bU.1 hc with e|hc
   ·rw[e];exact h0
   have h1:=(tF.1 ih).1 c hc;unfold CB at *; omega
theorem zY {m:Ma}:cachedE m=0↔vB m:=by
 unfold cachedE;rw[firstE_zero];constructor
 ·intro h;have h1:∀k (hk:k<m.ca.length),uA m (yJ m.ca k) m.ca[k]=0:=fun k hk=>by have:=h _ (Da (dG.2 hk));rw[aV,aI hk] at this;exact this
  have h2:∀c∈m.ca,(zz m.st c.f c.i∧0≤c.k∧c.k<m.m.fs.length)∧(1≤(aR m c.k.toNat).r∧(aR m c.k.toNat).f=c.f∧(aR m c.k.toNat).i=c.i):=fun c hc=>by obtain⟨k,hk,rfl⟩:=jK.1 hc;have:=wR.1 (h1 k hk);exact⟨this.1,this.2.1⟩
  refine⟨fun c hc=>(h2 c hc).1.1,fun c hc=>(h2 c hc).1.2,fun c hc=>(h2 c hc).2,Hz fun k hk => ?_⟩;refine (wR.1 (h1 (k+1) hk)).2.2 _ ?_;unfold yJ;rw[if_neg (by omega),Nat.add_sub_cancel,aI]
 intro h x hx;obtain⟨k,hk,rfl⟩:=fP.1 hx;have hk:=dG.1 hk;rw[aV,aI hk,oL];have hm:m.ca[k]∈m.ca:=dM hk;refine wR.2 ⟨⟨h.file _ hm,h.lt _ hm⟩,h.fr _ hm,fun q hq => ?_⟩;unfold yJ at hq;split at hq
 ·cases hq
 rw[aI (by omega)] at hq;rw[←aJ hq];exact Ai.1 h.srt _ _ (by omega) hk (by omega)
theorem Fa {m:Ma} (hp:Pt m) {n:Int} (hk:(ent m p n).k≠0):bW m (fH m p) n=0↔∃g,ni m p n=some g∧Tn m g (ent m p n):=by
 have hE:=(cO _).1 (ul hp p n);unfold bW;rw[nk (by decide)];have j:=Jw (fH m p).ar n;constructor
 ·rintro⟨h1,h2⟩;obtain⟨h3,h4⟩:=NQ (l:=(fH m p).ar) (n:=n) (by omega);refine⟨_,h3,?_⟩;generalize (fH m p).ar.getD (kH (fH m p).ar n).toNat zAr=a at *
  have he:dK (fH m p).tb n=ent m p n:=rfl;rw[he] at h2;generalize ent m p n=e at *
  simp only at h2
  by_cases h5:e.k=2
  ·rw[if_pos h5,nk (by decide)] at h2;refine⟨fun _=>⟨by omega,?_⟩,fun h=>by omega,fun h=>by omega⟩;show a.sh=false;cases hs:a.sh with
   | false=>rfl
   | true=>exact absurd (.inr hs) h2.1
  rw[if_neg h5,nk (by decide),nk (by decide),nk (by decide)] at h2;have c:qG m e.n=aR m e.n.toNat:=rfl;rw[c] at h2;obtain⟨h6,h7,h8,_⟩:=h2;refine⟨fun h=>absurd h h5,fun _=>by omega,fun _ => ?_⟩;show Qc (aR m e.n.toNat) (ko a n) e.w;generalize aR m e.n.toNat=f at *
  have b:0≤f.f→(0≤a.fi∧f.f=a.fi∧f.i=a.ba+n-a.fr):=fun h0=>by refine vX fun hn=>h7 (.inl ⟨h0,?_⟩);rw[Jk];simp only[ne_eq,dU,decide_eq_true_eq];exact fun h=>hn ⟨h.1.1,h.1.2,h.2⟩
  refine⟨fun h0 => ?_,fun hs => ?_,fun hw => ?_,fun hw h0 => ?_,fun hw h0 => ?_⟩
  ·obtain⟨k1,k2,k3⟩:=b h0;refine⟨k2,?_⟩;unfold ko;simp only;rw[if_pos k1];exact k3
  ·refine vX fun hn=>h7 (.inr (.inl ⟨hs,?_⟩));rw[Jk];simp only[ne_eq,dU,decide_eq_true_eq];exact fun h=>by omega
  ·show a.wr=true;cases hs:a.wr with
   | true=>rfl
   | false=>exact absurd (.inr (.inr (.inr ⟨hw,hs⟩))) h7
  ·show a.sh=true;cases hs:a.sh with
   | true=>rfl
   | false=>
    refine absurd (.inr (.inr (.inl ⟨hs,?_,hw⟩))) h7;have:=b h0;simp only[dU,decide_eq_true_eq];exact⟨⟨this.1,this.2.1⟩,this.2.2⟩
  ·exact vX fun hn=>h8 ⟨h0,hw,by omega⟩
 rintro⟨g,hg,hf⟩;have o:onA (fH m p).ar n≠none:=by have:ni m p n=onA (fH m p).ar n:=rfl;rw[←this,hg];exact fun h=>by cases h
 have h1:=j.2 o;refine⟨by omega,?_⟩;obtain⟨h3,h4⟩:=NQ (l:=(fH m p).ar) (n:=n) h1;have q : g=ko ((fH m p).ar.getD (kH (fH m p).ar n).toNat zAr) n:=by have:ni m p n=onA (fH m p).ar n:=rfl;rw[this,h3] at hg;exact (aJ hg).symm
 subst q;generalize (fH m p).ar.getD (kH (fH m p).ar n).toNat zAr=a at *
 have he:dK (fH m p).tb n=ent m p n:=rfl;rw[he];generalize ent m p n=e at *
 simp only
 by_cases h5:e.k=2
 ·obtain⟨k1,k2⟩:=hf.sw h5;have k2:a.sh=false:=k2;rw[if_pos h5,nk (by decide)];refine⟨?_,rfl⟩;rintro (h|h)
  ·omega
  ·rw[k2] at h;cases h
 have h1:e.k=1:=by omega
 have k1:=hf.lt h1;obtain⟨f1,f2,f3,f4,f5⟩:=hf.fr h1;have c:qG m e.n=aR m e.n.toNat:=rfl;rw[if_neg h5,nk (by decide),nk (by decide),nk (by decide),c];generalize aR m e.n.toNat=f at *
 have f2:a.sh=true→0≤f.f:=f2;have f3:e.w=true→a.wr=true:=f3;have f4:e.w=true→0≤f.f→a.sh=true:=f4;have b:0≤f.f→(decide (0≤a.fi)&&decide (f.f=a.fi)&&decide (f.i=a.ba+n-a.fr))=true:=fun h0=>by obtain⟨k2,k3⟩:=f1 h0;have k2:f.f=a.fi:=k2;unfold ko at k3;simp only at k3;rw[if_pos (by omega)] at k3;simp only[dU,decide_eq_true_eq];exact⟨⟨by omega,k2⟩,k3⟩
 have d : (decide (0≤a.fi)&&decide (f.f=a.fi)&&decide (f.i=a.ba+n-a.fr))=true→0≤f.f:=fun h=>by simp only[dU,decide_eq_true_eq] at h;omega
 generalize (decide (0≤a.fi)&&decide (f.f=a.fi)&&decide (f.i=a.ba+n-a.fr))=of at *
 refine⟨by omega,?_,?_,rfl⟩
 ·rintro (⟨k2,k3⟩|⟨k2,k3⟩|⟨k2,k3,k4⟩|⟨k2,k3⟩)
  ·rw[b k2] at k3;cases k3
  ·rw[b (f2 k2)] at k3;cases k3
  ·rw[f4 k4 (d k3)] at k2;cases k2
  ·rw[f3 k2] at k3;cases k3
 rintro⟨k2,k3,k4⟩;have:=f5 k3 k2;omega
theorem Af {m:Ma} (hp:Pt m):mK m=0↔∀p n,(ent m p n).k≠0→∃g,ni m p n=some g∧Tn m g (ent m p n):=by
 unfold mK;rw[firstE_zero];constructor
 ·intro h p n hk;have a : p<m.sp.length:=vX fun hn=>hk (by unfold ent;rw[qW (by omega)];have:dK zSp.tb n=zEn:=xC n;rw[this];rfl);have hn:0≤n∧n<64:=vX fun hn=>hk (by rw[Oq p (by omega)];rfl);refine (Fa hp hk).1 (h _ (jY.2 ⟨fH m p,Df a,Da (oM.2 ⟨hn,hk⟩)⟩))
 intro h x hx;obtain⟨s,hs,hx⟩:=jY.1 hx;obtain⟨n,hn,rfl⟩:=fP.1 hx;obtain⟨p,a,rfl⟩:=Oi hs;have hk:=(oM.1 hn).2;exact (Fa hp hk).2 (h p n hk)
theorem Rh (t:Tb) (i:Int):cnt (nI t (aQ t)) i=(dA t).countP (rD 1 i):=by
 rw[←DD (show (1:Int)≠0 by decide)];unfold cnt nI oJ qB;rw[sP,Ih,←Io];congr 1;funext n;simp only[Ir,Di];rw[mg];simp only[dU,xE,decide_eq_false_iff_not,ug,decide_eq_true_eq];exact and_comm
theorem TN {t:Tb} (h:dh t=0) (i:Int):cnt (swapT t (aQ t)) i=(dA t).countP (rD 2 i):=by
 rw[←DD (show (2:Int)≠0 by decide)];unfold cnt swapT oJ qB;rw[sP,Ih,←Io];refine List.countP_congr fun n hn => ?_;have hE:=(cO _).1 (pY h n);have hk:=(oM.1 hn).2;simp only[Ir,Di,dU,xE,decide_eq_false_iff_not,ug,decide_eq_true_eq];constructor
 ·rintro⟨h1,h2⟩;exact⟨by omega,h1⟩
 ·rintro⟨h1,h2⟩;exact⟨h2,by omega⟩
theorem zU (l r:List Int) (i:Int):cnt (l++r) i=cnt l i+cnt r i:=by unfold cnt;rw[Dr]
theorem EZ {α:Type} (g:α→List Int) (i:Int):∀l:List α,cnt (l.flatMap g) i=(l.map fun s=>cnt (g s) i).sum
 | []=>rfl
 | a::l=>by rw[lX,zU,EZ g i l,bA,zS]
theorem JS (m:Ma) (i:Int):cnt (sG m) i=xw m i+dD m 1 i:=by
 unfold sG;rw[zU,EZ];congr 1
 ·unfold cnt xw;rw[sP];rfl
 unfold dD;congr 1;exact ww fun s _=>Rh s.tb i
theorem Gz {m:Ma} (hp:Pt m) (i:Int):cnt (qd m) i=dD m 2 i:=by
 unfold qd dD;rw[EZ];congr 1;exact ww fun s hs=>TN (hp.tb s hs) i
theorem EL {m:Ma} (hp:Pt m):countB m=true↔(∀i:Nat,i<m.m.fs.length→(aR m i).r=xw m i+dD m 1 i)∧(∀i:Nat,i<m.m.fs.length→0≤(aR m i).f→∃c∈m.ca,c.k=i)∧∀s:Nat,s<m.sl.length→pu m s=dD m 2 s:=by
 unfold countB;rw[dU,dF,decide_eq_true_eq];constructor
 ·rintro⟨h1,h2⟩;have h1:∀i:Nat,i<m.m.fs.length→_:=fun i hi=>h1 i (dG.2 hi);simp only[dU,decide_eq_true_eq,uG,je,JS,xy] at h1;refine⟨fun i hi=>by rw[(h1 i hi).1];omega,fun i hi h0 => ?_,fun s hs => ?_⟩
  ·rcases (h1 i hi).2 with h|⟨c,hc,hk⟩
   ·have h:(aR m i).f<0:=of_decide_eq_true h;omega
   ·exact⟨c,hc,hk⟩
  have:pu m s=(ky m.sl.length (qd m)).getD s 0:=by rw[←h2];rfl
  rw[this];unfold ky;rw[aV,iU,sQ hs];show ((cnt (qd m) s:Nat):Int)=_;rw[Gz hp]
 rintro⟨h1,h2,h3⟩;refine⟨fun i hi => ?_,?_⟩
 ·have hi:=dG.1 hi;simp only[dU,decide_eq_true_eq,uG,je,JS,xy];refine⟨by rw[h1 i hi];omega,?_⟩
  by_cases h0:0≤(aR m i).f
  ·obtain⟨c,hc,hk⟩:=h2 i hi h0;exact .inr ⟨c,hc,hk⟩
  ·exact .inl (decide_eq_true (show (aR m i).f<0 by omega))
 apply uf
 ·unfold ky;simp
 intro s k1 k2;have:=h3 s k1;have e2:(ky m.sl.length (qd m))[s]'k2=((cnt (qd m) (s:Int):Nat):Int):=by simp[ky]
 rw[e2,Gz hp,←this];unfold pu;rw[aV,aI k1];rfl
theorem Ef {m:Ma}:jR m=0↔Rt m:=by
 unfold jR;rw[mH,mH,mH,wU,zY];constructor
 ·rintro⟨⟨hp,ht,hl⟩,hc,he,hb⟩;have hb:countB m=true:=by
   cases h:countB m with
   | true=>rfl
   | false=>rw[h] at hb;exact absurd hb (by decide)
  obtain⟨b1,b2,b3⟩:=(EL hp).1 hb;refine⟨hp,GQ.1 ht,fun p a => ?_,hc,(Af hp).1 he,b1,b2,b3⟩;rcases fG p m.sp.length with h|h
  ·exact hl _ (Df h) a
  rw[qW h];refine⟨rfl,fun n => ?_⟩;unfold ent;rw[qW h];have:dK zSp.tb n=zEn:=xC n;rw[this];rfl
 intro h;refine⟨⟨h.pt,GQ.2 h.trim,fun s hs b => ?_⟩,h.ca,(Af h.pt).2 h.en,?_⟩
 ·obtain⟨p,hp,rfl⟩:=Oi hs;exact h.live p b
 ·rw[if_pos ((EL h.pt).2 ⟨h.cf,h.fc,h.cs⟩)]
def eB (m:Ma) (p:Nat) (n:Int) (x:En):Ma:=setTb m p (setT (fH m p).tb n x)
theorem EG {i:Int} {e:En} (h:e.k=0) (hk:kd≠0):wM (rD kd i e)=0:=by
 unfold wM rD;rw[if_neg];simp only[dU,decide_eq_true_eq];intro h'; omega
theorem yY {i:Int} {e:En}:wM (rD kd i e)=if e.k=kd∧e.n=i then 1 else 0:=by
 unfold wM rD
 by_cases h:e.k=kd∧e.n=i
 ·rw[if_pos h,if_pos (by simp[h.1,h.2])]
 rw[if_neg h,if_neg];simp only[dU,decide_eq_true_eq];exact h
theorem JJ {m:Ma} (h:Rt m) {j:Int} (hk:(ent m q j).k=1) (he:(ent m q j).n.toNat=f):0<dD m 1 f∧f<m.m.fs.length:=by
 have h3:=su (m:=m) (p:=q) (n:=j) (by rw[hk];decide);have h5:=(cO _).1 (ul h.pt q j);have h4:=(zD (m:=m) (kd:=1) (i:=f) (by decide)).2 ⟨q,j,h3.1,h3.2,hk,by omega⟩;obtain⟨g,_,hg⟩:=h.en q j (by rw[hk];decide);have:=hg.lt hk;exact⟨h4,by omega⟩
theorem yV {m:Ma} (h:Rt m) (hc:Co m) {n:Int} {X:Fr} {x:En} {g:Pg} (hp:p<m.sp.length) (hn:0≤n∧n<64) (h0:(ent m p n).k=0) (hf:f<m.m.fs.length)
 (hxk:x.k=1) (hxn:x.n=f) (hX:dR X=0) (hr:X.r=(aR m f).r+1)
 (hold:(aR m f).r≠0→X.f=(aR m f).f∧X.i=(aR m f).i∧X.p=(aR m f).p∧X.d=(aR m f).d)
 (hnew:(aR m f).r=0→X.f<0∧X.d=false)
 (hw:X.f<0→∀q j,(ent m q j).k=1→(ent m q j).n.toNat=f→(ent m q j).w=false)
 (hg:ni m p n=some g) (hfit:Qc X g x.w):Rt (eB (setFr m f X) p n x)∧Co (eB (setFr m f X) p n x):=by
 have hm:Pt (setFr m f X):=h.pt.setFr hX;have hu:eT x=0:=(cO x).2 (.inr (.inl ⟨hxk,by have:=((eQ _).1 h.pt.fr).1;omega⟩));obtain⟨hl,_,hx⟩:=uI (k:=⟨setFr m f X,0⟩) (p:=p) (n:=n) (x:=x) hm hn hu;have ht:p<(setFr m f X).sp.length:=hp;have z:∀q j,ent (eB (setFr m f X) p n x) q j=if q=p∧j=n then x else ent m q j:=fun q j=>xB ht hl q j;have l:∀y,aR (eB (setFr m f X) p n x) y=if y=f then X else aR m y:=fun y=>nT hf y;have b:(eB (setFr m f X) p n x).m.fs.length=m.m.fs.length:=nE;have ha:∀kd i,kd≠0→dD (eB (setFr m f X) p n x) kd i=dD m kd i+wM (rD kd i x):=fun kd i hk=>by have h1:=wS ht hl kd i;have h2:wM (rD kd i (ent (setFr m f X) p n))=0:=EG (e:=ent (setFr m f X) p n) h0 hk;have h3:dD (setFr m f X) kd i=dD m kd i:=rfl;unfold eB;omega
 have hj:kS m (setFr m f X):=kS.of rfl;have hb:kS m (eB (setFr m f X) p n x):=hj.trans (kS.setTb (m:=setFr m f X) (p:=p) (t:=setT (fH (setFr m f X) p).tb n x));have hA:vB (eB (setFr m f X) p n x):=by
  refine⟨h.ca.file,fun c a => ?_,fun c a => ?_,h.ca.srt⟩
  ·rw[b];exact h.ca.lt c a
  have h1:=h.ca.fr c a;rw[l]
  by_cases e:c.k.toNat=f
  ·rw[if_pos e];rw[e] at h1;obtain⟨k1,k2,_⟩:=hold (by omega);exact⟨by omega,by omega,by omega⟩
  ·rw[if_neg e];exact h1
 refine⟨⟨hx,h.trim,fun q hq => ?_,hA,fun q j hk => ?_,fun i hi => ?_,fun i hi v => ?_,fun s hs => ?_⟩,⟨fun c a => ?_,fun c a hd => ?_,fun i hi hd => ?_⟩⟩
 ·rw[hb.lv] at hq;obtain⟨a1,a2⟩:=h.live q hq;refine⟨by rw[hb.ar];exact a1,fun j => ?_⟩;rw[z,if_neg]
  ·exact a2 j
  rintro⟨rfl,rfl⟩;have:ni m q j=onA (fH m q).ar j:=rfl;rw[this,a1] at hg;cases hg
 ·have hz:ni (eB (setFr m f X) p n x) q j=ni m q j:=by unfold ni;rw[hb.ar]
  rw[hz];rw[z] at hk ⊢
  by_cases e:q=p∧j=n
  ·rw[if_pos e] at hk ⊢;rw[e.1,e.2];refine⟨g,hg,fun hB=>by omega,fun _=>by rw[b];omega,fun _ => ?_⟩;rw[l,if_pos (by omega)];exact hfit
  rw[if_neg e] at hk ⊢;obtain⟨y,hy,o⟩:=h.en q j hk;refine⟨y,hy,o.sw,by rw[b];exact o.lt,fun u => ?_⟩;rw[l]
  by_cases e2:(ent m q j).n.toNat=f
  ·rw[if_pos e2];have h1:=o.fr u;rw[e2] at h1;have h2:=JJ h u e2;have h3:=h.cf f hf;obtain⟨k1,k2,_,_⟩:=hold (by omega);obtain⟨f1,f2,f3,f4,f5⟩:=h1;refine⟨by rw[k1,k2];exact f1,by rw[k1];exact f2,f3,by rw[k1];exact f4,fun hh hv => ?_⟩;rw[hw hv q j u e2] at hh;cases hh
  ·rw[if_neg e2];exact o.fr u
 ·have a1:xw (eB (setFr m f X) p n x) i=xw m i:=rfl;rw[l,a1,ha 1 i (by decide),yY];have h3:=h.cf i (by rw[←b];exact hi)
  by_cases e:i=f
  ·subst e;rw[if_pos rfl,if_pos ⟨hxk,hxn⟩,hr];omega
  ·rw[if_neg e,if_neg (fun h'=>e (by omega))];omega
 ·rw[l] at v
  by_cases e:i=f
  ·subst e;rw[if_pos rfl] at v
   by_cases hr0:(aR m i).r=0
   ·have:=(hnew hr0).1;omega
   obtain⟨k1,_⟩:=hold hr0;exact h.fc i hf (by omega)
  rw[if_neg e] at v;exact h.fc i (by rw[←b];exact hi) v
 ·rw[ha 2 s (by decide),yY,if_neg (fun h'=>by omega)];exact h.cs s hs
 ·have h1:=h.ca.fr c a;rw[l]
  by_cases e:c.k.toNat=f
  ·rw[if_pos e];rw[e] at h1;obtain⟨_,_,k3,_⟩:=hold (by omega);rw[k3,←e];exact hc.tail c a
  ·rw[if_neg e];exact hc.tail c a
 ·have h1:=h.ca.fr c a;rw[l] at hd ⊢
  by_cases e:c.k.toNat=f
  ·rw[if_pos e] at hd ⊢;rw[e] at h1;obtain⟨_,_,k3,k4⟩:=hold (by omega);rw[k3,←e];exact hc.clean c a (by rw[e,←k4];exact hd)
  ·rw[if_neg e] at hd ⊢; exact hc.clean c a hd
 rw[l] at hd ⊢
 by_cases e:i=f
 ·subst e;rw[if_pos rfl] at hd ⊢
  by_cases hr0:(aR m i).r=0
  ·rw[(hnew hr0).2] at hd;cases hd
  obtain⟨k1,_,_,k4⟩:=hold hr0;rw[k1];exact hc.anon i hf (by rw[←k4];exact hd)
 ·rw[if_neg e] at hd ⊢; exact hc.anon i (by rw[←b];exact hi) hd
theorem Ht {m:Ma} (h:Rt m) (hc:Co m) {n:Int} {d:oD} {x:En} {g:Pg} (hp:p<m.sp.length) (hn:0≤n∧n<64) (h0:(ent m p n).k=0) (hs:s<m.sl.length)
 (hxk:x.k=2) (hxn:x.n=s) (hxw:x.w=false) (h1k:pu m s+1≤1000) (hd:bi d=0) (hdl:d.blocks.length=m.sw.blocks.length) (hg:ni m p n=some g) (hsh:g.sh=false) :
  Rt (eB { setSl m s (pu m s+1) with sw:=d } p n x)∧Co (eB { setSl m s (pu m s+1) with sw:=d } p n x):=by
 have hb:=h.pt.slB s;have ha:Pt (setSl m s (pu m s+1)):=h.pt.setSl (by omega) h1k;have hz:Pt { setSl m s (pu m s+1) with sw:=d }:={ ha with sw:=hd,swl:=by show d.blocks.length=_;rw[hdl];exact ha.swl };have hE:eT x=0:=(cO x).2 (.inr (.inr ⟨hxk,by have:=jf h.pt.sl;omega,by have:=jf h.pt.sl;omega,hxw⟩));obtain⟨hx,_,hG⟩:=uI (k:=⟨{ setSl m s (pu m s+1) with sw:=d },0⟩) (p:=p) (n:=n) (x:=x) hz hn hE;have hA:p<({ setSl m s (pu m s+1) with sw:=d }:Ma).sp.length:=hp;generalize hm1:({ setSl m s (pu m s+1) with sw:=d }:Ma)=m1 at *
 have hr:m1.sp=m.sp:=by rw[←hm1];rfl
 have hm:m1.m=m.m:=by rw[←hm1];rfl
 have hD:m1.ca=m.ca:=by rw[←hm1];rfl
 have hw:m1.st=m.st:=by rw[←hm1];rfl
 have hC:m1.dk=m.dk:=by rw[←hm1];rfl
 have u:m1.sl=m.sl.set s (pu m s+1):=by rw[←hm1];rfl
 have v:∀q j,ent m1 q j=ent m q j:=fun q j=>by unfold ent fH;rw[hr]
 have hf:∀q j,ent (eB m1 p n x) q j=if q=p∧j=n then x else ent m q j:=fun q j=>by rw[←v];exact xB hA hx q j
 have o:∀y,aR (eB m1 p n x) y=aR m y:=fun y=>by unfold aR eB setTb;simp only;rw[hm]
 have l:(eB m1 p n x).m.fs.length=m.m.fs.length:=by unfold eB setTb;simp only;rw[hm]
 have hj:∀kd i,kd≠0→dD (eB m1 p n x) kd i=dD m kd i+wM (rD kd i x):=fun kd i hk=>by
  have h1:=wS hA hx kd i;have h2:wM (rD kd i (ent m1 p n))=0:=EG (by rw[v];exact h0) hk;have h3:dD m1 kd i=dD m kd i:=by unfold dD;rw[hr]
  unfold eB;omega
 have ht:kS m (eB m1 p n x):=(kS.of hr).trans kS.setTb;have f:(eB m1 p n x).ca=m.ca:=hD;have t:(eB m1 p n x).st=m.st:=hw;have hh:(eB m1 p n x).dk=m.dk:=hC;have hv:∀a b,ic (eB m1 p n x) a b=ic m a b:=fun a b=>by unfold ic;rw[t,hh]
 refine⟨⟨hG,by rw[hh,t];exact h.trim,fun q hq => ?_,⟨by rw[f,t];exact h.ca.file,by rw[f,l];exact h.ca.lt,fun c r=>by rw[o];exact h.ca.fr c (by rw[←f];exact r),by rw[f];exact h.ca.srt⟩,fun q j hk => ?_,fun i hi => ?_,fun i hi hB => ?_,fun i hi => ?_⟩,⟨fun c r => ?_,fun c r hd => ?_,fun i hi hd => ?_⟩⟩
 ·rw[ht.lv] at hq;obtain⟨a1,a2⟩:=h.live q hq;refine⟨by rw[ht.ar];exact a1,fun j => ?_⟩;rw[hf,if_neg]
  ·exact a2 j
  rintro⟨rfl,rfl⟩;have:ni m q j=onA (fH m q).ar j:=rfl;rw[this,a1] at hg;cases hg
 ·have hH:ni (eB m1 p n x) q j=ni m q j:=by unfold ni;rw[ht.ar]
  have z:(eB m1 p n x).sl.length=m.sl.length:=by show m1.sl.length=_;rw[u,bP]
  rw[hH];rw[hf] at hk ⊢
  by_cases e:q=p∧j=n
  ·rw[if_pos e] at hk ⊢;rw[e.1,e.2];exact⟨g,hg,fun _=>⟨by rw[z];omega,hsh⟩,fun hu=>by omega,fun hu=>by omega⟩
  rw[if_neg e] at hk ⊢;obtain⟨y,hy,hl⟩:=h.en q j hk;exact⟨y,hy,by rw[z];exact hl.sw,by rw[l];exact hl.lt,fun hu=>by rw[o];exact hl.fr hu⟩
 ·have a1:xw (eB m1 p n x) i=xw m i:=by unfold xw;rw[f]
  rw[o,a1,hj 1 i (by decide),yY,if_neg (fun h'=>by omega)];exact h.cf i (by rw[←l];exact hi)
 ·rw[f];rw[o] at hB;exact h.fc i (by rw[←l];exact hi) hB
 ·have hI : i<m.sl.length:=by have:(eB m1 p n x).sl=m1.sl:=rfl;rw[this,u,bP] at hi;exact hi
  have hF:pu (eB m1 p n x) i=if i=s then pu m s+1 else pu m i:=by
   have h1:=Og (x:=pu m s+1) hs i;have h2:pu (eB m1 p n x) i=pu (setSl m s (pu m s+1)) i:=by unfold pu;show m1.sl.getD i 0=_;rw[u];rfl
   rw[h2,h1]
  rw[hF,hj 2 i (by decide),yY];have h3:=h.cs i hI
  by_cases e:i=s
  ·subst e;rw[if_pos rfl,if_pos ⟨hxk,hxn⟩];omega
  ·rw[if_neg e,if_neg (fun h'=>e (by omega))];omega
 ·rw[o,t];rw[f] at r;exact hc.tail c r
 ·rw[f] at r;rw[o] at hd ⊢; rw[hv];exact hc.clean c r hd
 ·rw[o] at hd ⊢; exact hc.anon i (by rw[←l];exact hi) hd
theorem MZ {m:Ma} (h:Rt m) (hc:Co m) {n:Int} (hk:(ent m p n).k=1):Rt (eB m p n ⟨1,(ent m p n).n,false⟩)∧Co (eB m p n ⟨1,(ent m p n).n,false⟩):=by
 have l:=su (m:=m) (p:=p) (n:=n) (by rw[hk];decide);have hE:=(cO _).1 (ul h.pt p n);have u:eT ⟨1,(ent m p n).n,false⟩=0:=(cO _).2 (.inr (.inl ⟨rfl,by show 0≤(ent m p n).n;omega,by show (ent m p n).n<40;omega⟩));generalize hx:(⟨1,(ent m p n).n,false⟩:En)=x at *
 have t:x.k=1:=by rw[←hx]
 have f:x.n=(ent m p n).n:=by rw[←hx]
 have r:x.w=false:=by rw[←hx]
 obtain⟨o,_,v⟩:=uI (k:=⟨m,0⟩) (p:=p) (n:=n) (x:=x) h.pt l.2 u;have c:∀q j,ent (eB m p n x) q j=if q=p∧j=n then x else ent m q j:=fun q j=>xB l.1 o q j;have d:∀kd i,dD (eB m p n x) kd i=dD m kd i:=fun kd i=>by
  have h1:=wS l.1 o kd i;have h2:wM (rD kd i (ent m p n))=wM (rD kd i x):=by rw[yY,yY,t,f,hk]
  unfold eB;omega
 have g:kS m (eB m p n x):=kS.setTb;refine⟨⟨v,h.trim,fun q hq => ?_,⟨h.ca.file,h.ca.lt,h.ca.fr,h.ca.srt⟩,fun q j b => ?_,fun i hi=>by rw[d];exact h.cf i hi,h.fc,fun s hs=>by rw[d];exact h.cs s hs⟩,⟨hc.tail,hc.clean,hc.anon⟩⟩
 ·rw[g.lv] at hq;obtain⟨a1,a2⟩:=h.live q hq;refine⟨by rw[g.ar];exact a1,fun j => ?_⟩;rw[c,if_neg]
  ·exact a2 j
  rintro⟨rfl,rfl⟩;have:=a2 j;omega
 have z:ni (eB m p n x) q j=ni m q j:=by unfold ni;rw[g.ar]
 rw[z];rw[c] at b ⊢
 by_cases e:q=p∧j=n
 ·rw[if_pos e] at b ⊢;rw[e.1,e.2];obtain⟨y,hy,a⟩:=h.en p n (by rw[hk];decide);have h1:=a.lt hk;obtain⟨f1,f2,f3,f4,f5⟩:=a.fr hk;refine⟨y,hy,fun ha=>by omega,fun _=>by rw[f];exact h1,fun _ => ?_⟩;rw[f,r];exact⟨f1,f2,fun h=>(by cases h),fun h=>(by cases h),fun h=>(by cases h)⟩
 rw[if_neg e] at b ⊢;obtain⟨y,hy,a⟩:=h.en q j b;exact⟨y,hy,a.sw,a.lt,a.fr⟩
theorem LW {m:Ma} (h:Rt m) (hc:Co m) {s:Sp} (hl:m.sp.length<4) (hv:s.lv=true) (ha:(bJ s.ar).1=0) (ht:s.tb=zTb):Rt { m with sp:=m.sp++[s] }∧Co { m with sp:=m.sp++[s] }:=by
 have a:∀q,fH { m with sp:=m.sp++[s] } q=if q=m.sp.length then s else fH m q:=fun q=>by
  unfold fH;show (m.sp++[s]).getD q zSp=_;rw[aV,List.getElem?_append]
  by_cases e:q<m.sp.length
  ·rw[if_pos e,if_neg (by omega),aV]
  rw[if_neg e]
  by_cases e2:q=m.sp.length
  ·rw[if_pos e2,e2,uh];rfl
  ·rw[if_neg e2,aV,dJ (by simp;omega),dJ (by omega)]
 have b:∀q j,ent { m with sp:=m.sp++[s] } q j=ent m q j:=fun q j=>by
  unfold ent;rw[a]
  by_cases e:q=m.sp.length
  ·rw[if_pos e,qW (by omega),ht];rfl
  ·rw[if_neg e]
 have c:∀kd i,kd≠0→dD { m with sp:=m.sp++[s] } kd i=dD m kd i:=fun kd i hk=>by
  unfold dD;show ((m.sp++[s]).map _).sum=_;rw[gz,List.sum_append];have:([s].map fun s=>(dA s.tb).countP (rD kd i)).sum=0:=by rw[List.map_singleton,List.sum_singleton,ht,xL];intro e he;unfold dA at he;obtain⟨j,_,rfl⟩:=fP.1 he;rw[xC];unfold rD;simp only[dU,decide_eq_true_eq];rintro⟨h1,_⟩;exact hk h1.symm
  omega
 refine⟨⟨{ h.pt with spl:=by simp;omega,ar:=fun y hy => ?_,tb:=fun y hy => ?_ },h.trim,fun q hq => ?_,⟨h.ca.file,h.ca.lt,h.ca.fr,h.ca.srt⟩,fun q j hk => ?_,fun i hi=>by rw[c 1 i (by decide)];exact h.cf i hi,h.fc,fun i hi=>by rw[c 2 i (by decide)];exact h.cs i hi⟩,⟨hc.tail,hc.clean,hc.anon⟩⟩
 ·rcases fV.1 hy with hy|hy
  ·exact h.pt.ar y hy
  ·rw[bv.1 hy];exact ha
 ·rcases fV.1 hy with hy|hy
  ·exact h.pt.tb y hy
  ·rw[bv.1 hy,ht];decide
 ·rw[a] at hq ⊢
  by_cases e:q=m.sp.length
  ·rw[if_pos e,hv] at hq;cases hq
  rw[if_neg e] at hq ⊢;refine⟨(h.live q hq).1,fun j=>by rw[b];exact (h.live q hq).2 j⟩
 rw[b] at hk ⊢;obtain⟨y,hy,d⟩:=h.en q j hk;have hq:=su hk;refine⟨y,?_,d.sw,d.lt,d.fr⟩;unfold ni at hy ⊢;rw[a,if_neg (by omega)];exact hy
def eY (T:List (List En)) (p:Nat):List En:=T.getD p []
def fq (T:List (List En)) (p n:Nat):En:=(eY T p).getD n zEn
def dV (m:Ma) (T:List (List En)):Ma:={ m with sp:=(List.range m.sp.length).map fun p => { fH m p with tb:=gG (eY T p) } }
structure Bg (m:Ma) (T:List (List En)):Prop where
 len:T.length=m.sp.length
 ln:∀t∈T,t.length=64
 en:∀t∈T,∀x∈t,eT x=0
theorem kJ {m:Ma} {T:List (List En)}:(dV m T).sp.length=m.sp.length:=by unfold dV;simp
theorem Az {m:Ma} {T:List (List En)} (hp:p<m.sp.length):fH (dV m T) p = { fH m p with tb:=gG (eY T p) }:=by
 have:fH (dV m T) p=((List.range m.sp.length).map fun p=>({ fH m p with tb:=gG (eY T p) }:Sp)).getD p zSp:=rfl;rw[this,aV,iU,sQ hp];rfl
theorem Bg.mem {m:Ma} {T:List (List En)} (h:Bg m T) (hp:p<m.sp.length):eY T p∈T:=by
 unfold eY;rw[aV,aI (by rw[h.len];exact hp)];exact dM _
theorem Bg.l64 {m:Ma} {T:List (List En)} (h:Bg m T) (hp:p<m.sp.length):(eY T p).length=64:=h.ln _ (h.mem hp)
theorem Bg.right {m:Ma} {T:List (List En)} (h:Bg m T) (hp:p<m.sp.length):dh (gG (eY T p))=0:=Ch (h.en _ (h.mem hp)) (h.l64 hp)
theorem lH {m:Ma} {T:List (List En)} (h:Bg m T) (hp:p<m.sp.length) (hn:n<64):ent (dV m T) p n=fq T p n:=by
 unfold ent fq;rw[Az hp];show dK (gG (eY T p)) n=_;rw[yU (h.en _ (h.mem hp)) (h.l64 hp) hn,aV,aI (by rw[h.l64 hp];exact hn)];rfl
theorem za {m:Ma} {T:List (List En)} (h:Bg m T) (hp:p<m.sp.length) (hn:n<64):eT (fq T p n)=0:=by
 unfold fq;rw[aV,aI (by rw[h.l64 hp];exact hn)];exact h.en _ (h.mem hp) _ (dM _)
def setL (T:List (List En)) (p n:Nat) (x:En):List (List En):=T.set p ((eY T p).set n x)
theorem rJ {T:List (List En)} (hp:p<T.length) {x:En} (q:Nat):eY (setL T p n x) q=if q=p then (eY T p).set n x else eY T q:=by
 unfold eY setL;rw[aV,kR]
 by_cases e:q=p
 ·subst e;rw[if_pos rfl,if_pos hp,if_pos rfl];rfl
 ·rw[if_neg (fun h=>e h.symm),if_neg e,aV]
theorem Bg.set {m:Ma} {T:List (List En)} (h:Bg m T) {x:En} (hp:p<m.sp.length) (hx:eT x=0):Bg m (setL T p n x):=by
 refine⟨by unfold setL;rw[bP];exact h.len,fun t ht => ?_,fun t ht y hy => ?_⟩
 ·rcases nu ht with ht|rfl
  ·exact h.ln t ht
  ·rw[bP];exact h.l64 hp
 rcases nu ht with ht|rfl
 ·exact h.en t ht y hy
 rcases nu hy with hy|rfl
 ·exact h.en _ (h.mem hp) y hy
 ·exact hx
theorem wO {m:Ma} {T:List (List En)} (h:Bg m T) {x:En} (hp:p<m.sp.length) (hn:n<64) (q j:Nat):fq (setL T p n x) q j=if q=p∧j=n then x else fq T q j:=by
 unfold fq;rw[rJ (by rw[h.len];exact hp)]
 by_cases e:q=p
 ·subst e;rw[if_pos rfl,aV,kR]
  by_cases e2:j=n
  ·subst e2;rw[if_pos rfl,if_pos (by rw[h.l64 hp];exact hn),if_pos ⟨rfl,rfl⟩];rfl
  ·rw[if_neg (fun h=>e2 h.symm),if_neg (fun h=>e2 h.2),aV]
 ·rw[if_neg e,if_neg (fun h=>e h.1)]
theorem rz {m:Ma} {T:List (List En)} (h:Bg m T) {x:En} (hp:p<m.sp.length) (hn:n<64) (hx:eT x=0):eB (dV m T) p n x=dV m (setL T p n x):=by
 have hl:=h.l64 hp;have hw:=h.right hp;have a:setE (gG (eY T p)) n x=0:=Ob hw ⟨by omega,by omega⟩ hx;have ht:setT (gG (eY T p)) n x=gG ((eY T p).set n x):=by rw[←yR (ze a),Ag a,Ey (h.en _ (h.mem hp)) hl,bX]
 unfold eB setTb;rw[Az hp];show { dV m T with sp:=(dV m T).sp.set p { fH m p with tb:=setT (gG (eY T p)) n x } }=dV m (setL T p n x);rw[ht];refine congrArg (fun s=>({ m with sp:=s }:Ma)) (?_:((List.range m.sp.length).map fun p=>({ fH m p with tb:=gG (eY T p) }:Sp)).set p { fH m p with tb:=gG ((eY T p).set n x) }=(List.range m.sp.length).map fun q=>({ fH m q with tb:=gG (eY (setL T p n x) q) }:Sp));apply lU;intro q;rw[kR,iU,iU];simp only[eH,CK]
 by_cases e:q=p
 ·subst e;rw[if_pos rfl,if_pos hp,sQ hp,qY,rJ (by rw[h.len];exact hp),if_pos rfl]
 rw[if_neg (fun h=>e h.symm)]
 by_cases hq:q<m.sp.length
 ·rw[sQ hq,qY,qY,rJ (by rw[h.len];exact hp),if_neg e]
 ·rw[dJ (by simp;omega),IU,IU]
theorem zX {m:Ma} {T:List (List En)} {X:Fr}:setFr (dV m T) f X=dV (setFr m f X) T:=rfl
theorem Bg.fr {m:Ma} {T:List (List En)} (h:Bg m T) {X:Fr}:Bg (setFr m f X) T:=⟨h.len,h.ln,h.en⟩
theorem Bg.sps {m m' : Ma} {T:List (List En)} (h:Bg m T) (e:m'.sp.length=m.sp.length):Bg m' T:=⟨by rw[e];exact h.len,h.ln,h.en⟩
theorem nN {m:Ma} {T:List (List En)} (hp:p<m.sp.length) (n:Int):ni (dV m T) p n=onA (fH m p).ar n:=by
 unfold ni;rw[Az hp]
theorem ME {m:Ma} {T:List (List En)} (h:Bg m T) (s:Sp):dV { m with sp:=m.sp++[s] } (T++[List.replicate 64 zEn]) = { dV m T with sp:=(dV m T).sp++[{ s with tb:=zTb }] }:=by
 have hz:gG (List.replicate 64 zEn)=zTb:=by decide +kernel
 unfold dV;simp only[Ma.mk.injEq,true_and,jP,CL];rw[xR,gz];congr 1
 ·apply ww;intro p hp;have a:=dG.1 hp;unfold fH eY;simp only[aV];rw[lm a,lm (by rw[h.len];exact a)]
 unfold fH eY;simp only[bA,bB,aV];rw[kT (az _),uh,←h.len,kT (az _),uh];simp only[qx,oL];rw[hz]
theorem Bg.more {m:Ma} {T:List (List En)} (h:Bg m T) (s:Sp):Bg { m with sp:=m.sp++[s] } (T++[List.replicate 64 zEn]):=by
 refine⟨by simp[h.len],fun t ht => ?_,fun t ht x hx => ?_⟩
 ·rcases fV.1 ht with ht|ht
  ·exact h.ln t ht
  ·rw[bv.1 ht,jN]
 rcases fV.1 ht with ht|ht
 ·exact h.en t ht x hx
 rw[bv.1 ht] at hx;rw[(Dp.1 hx).2];decide
def zG (m1:Ma) (g:Nat) (X:Fr) (f i:Int):Ma:={ setFr m1 g X with ca:=m1.ca.insertIdx (zy m1.ca f i) ⟨f,i,g⟩ }
theorem Vd {m1:Ma} {f i:Int} {X:Fr} (h:Rt m1) (hc:Co m1) (hg:g<m1.m.fs.length) (hz:(aR m1 g).r=0) (hin:zz m1.st f i) (hno:∀c∈m1.ca,¬(c.f=f∧c.i=i))
 (hX:X.r=1∧X.f=f∧X.i=i) (ht:fJ X.p ((aM m1.st f).n-i*8)=X.p) (hd:X.d=false→X.p=ic m1 f i) :
  Rt (zG m1 g X f i)∧Co (zG m1 g X f i):=by
 have hi:=JG h.pt.st hin;have hb:dR X=0:=by rw[iN];have h1:=hin.1;have h2:=hin.2;exact⟨⟨by omega,by omega,by omega,by omega,by omega,by omega⟩,fun e=>by omega,fun e=>by omega⟩
 have q:∀x,aR (zG m1 g X f i) x=if x=g then X else aR m1 x:=fun x=>nT hg x;have b:∀x,x≠g→aR (zG m1 g X f i) x=aR m1 x:=fun x hx=>by rw[q,if_neg hx]
 have j:(zG m1 g X f i).m.fs.length=m1.m.fs.length:=nE;have a:∀c,c∈(zG m1 g X f i).ca↔c=⟨f,i,g⟩∨c∈m1.ca:=fun c=>JI (Ti _ _ _);have u:∀c∈m1.ca,c.k.toNat≠g:=fun c hcm e=>by have:=(h.ca.fr c hcm).1;rw[e,hz] at this;exact absurd this (by decide)
 have t:∀f' i',ic (zG m1 g X f i) f' i' = ic m1 f' i':=fun _ _=>rfl;have o:dD m1 1 g=0∧xw m1 g=0:=by have:=h.cf g hg;omega
 have hf:Pt (zG m1 g X f i):={ fr:=NN h.pt.fr hb,sl:=h.pt.sl,sw:=h.pt.sw,dk:=h.pt.dk,st:=h.pt.st,swl:=h.pt.swl,dkl:=h.pt.dkl,spl:=h.pt.spl,ar:=h.pt.ar,tb:=h.pt.tb };have w:vB (zG m1 g X f i):=by
  refine⟨fun c hcm => ?_,fun c hcm => ?_,fun c hcm => ?_,EK h.ca.srt hno⟩
  ·rcases (a c).1 hcm with rfl|hcm
   ·exact hin
   ·exact h.ca.file c hcm
  ·rw[j];rcases (a c).1 hcm with rfl|hcm
   ·show 0≤(g:Int)∧(g:Int)<_;omega
   ·exact h.ca.lt c hcm
  rcases (a c).1 hcm with rfl|hcm
  ·rw[q,if_pos (bX g)];exact⟨by omega,hX.2.1,hX.2.2⟩
  ·rw[b _ (u c hcm)];exact h.ca.fr c hcm
 have ha:∀p n,ent (zG m1 g X f i) p n=ent m1 p n:=fun _ _=>rfl;have v:∀p n,(ent m1 p n).k=1→(ent m1 p n).n.toNat≠g:=by intro p n hk e;have h3:=su (m:=m1) (p:=p) (n:=n) (by rw[hk];decide);have h5:=(cO _).1 (ul h.pt p n);have h4:=(zD (m:=m1) (kd:=1) (i:=g) (by decide)).2 ⟨p,n,h3.1,h3.2,hk,by omega⟩;omega
 refine⟨⟨hf,h.trim,h.live,w,fun p n hk => ?_,fun x hx => ?_,fun x hx h0 => ?_,h.cs⟩,⟨fun c hcm => ?_,fun c hcm l => ?_,fun x hx l => ?_⟩⟩
 ·rw[ha] at hk ⊢;obtain⟨y,hy,s⟩:=h.en p n hk;exact⟨y,hy,s.sw,by rw[j];exact s.lt,fun z=>by rw[b _ (v p n z)];exact s.fr z⟩
 ·have a1:xw (zG m1 g X f i) x=xw m1 x+wM (decide ((g:Int)=x)):=yF _ _ _ _ (Ti _ _ _);have a2:dD (zG m1 g X f i) 1 x=dD m1 1 x:=rfl;rw[q,a1,a2]
  by_cases e:x=g
  ·subst e;rw[if_pos rfl,o.1,o.2];have:wM (decide ((x:Int)=(x:Int)))=1:=by simp[wM]
   rw[this,hX.1];rfl
  rw[if_neg e];have:wM (decide ((g:Int)=(x:Int)))=0:=by unfold wM;rw[if_neg];simp only[decide_eq_true_eq];omega
  rw[this];exact h.cf x (by rw[←j];exact hx)
 ·by_cases e:x=g
  ·exact⟨⟨f,i,g⟩,(a _).2 (.inl rfl),by rw[e]⟩
  rw[b x e] at h0;obtain⟨c,hcm,hh⟩:=h.fc x (by rw[←j];exact hx) h0;exact⟨c,(a c).2 (.inr hcm),hh⟩
 ·rcases (a c).1 hcm with rfl|hcm
  ·rw[q,if_pos (bX g)];exact ht
  ·rw[b _ (u c hcm)];exact hc.tail c hcm
 ·rcases (a c).1 hcm with rfl|hcm
  ·rw[q,if_pos (bX g)] at l ⊢; rw[t];exact hd l
  rw[b _ (u c hcm)] at l ⊢;rw[t];exact hc.clean c hcm l
 by_cases e:x=g
 ·rw[q,if_pos e];have:=hin.1.1;omega
 ·rw[b x e] at l ⊢; exact hc.anon x (by rw[←j];exact hx) l
theorem Vp {m:Ma} (h:Rt m) (hc:Co m) {x:Int} (hx:bR ⟨m.m.fs,x⟩=0):Rt { m with m:=⟨m.m.fs,x⟩ }∧Co { m with m:=⟨m.m.fs,x⟩ }:=
 ⟨⟨{ h.pt with fr:=hx },h.trim,h.live,⟨h.ca.file,h.ca.lt,h.ca.fr,h.ca.srt⟩,fun p n hk=>have ⟨y,hy,hf⟩:=h.en p n hk;⟨y,hy,hf.sw,hf.lt,hf.fr⟩,h.cf,h.fc,h.cs⟩,⟨hc.tail,hc.clean,hc.anon⟩⟩
end Go.Proofs.YtjkkoeijlhfneaaGreat