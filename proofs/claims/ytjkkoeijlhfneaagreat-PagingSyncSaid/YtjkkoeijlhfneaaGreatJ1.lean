import Derived.WalkKit
import Derived.ProofKit
import Derived.SizedLaws
import Derived.Maps.Own
import Derived.WalkSpells
import Derived.WalkLawsBesides
set_option linter.unusedSimpArgs false
set_option linter.unusedVariables false
set_option linter.defProp false
set_option maxHeartbeats 4000000
set_option maxRecDepth 100000
namespace Pw
def ay :=@Nat.le_refl
def aH :=@List.getElem?_eq_getElem
def aJ :=@Option.some.inj
def aS :=@List.getD_eq_getElem?_getD
def aV :=@Nat.zero_le
def bi :=@Nat.le_trans
def bv :=@List.mem_singleton
def bP :=@List.map_cons
def bT :=@List.map_nil
def bH :=@List.length_set
def bM :=@Go.IntWalk.i64_in
def bN :=@Array.getD_eq_getD_getElem?
def bO :=@List.mem_of_getElem?
def bR :=@Int.toNat_natCast
def bV :=@List.map_toArray
def bZ :=@List.mem_cons
def cK :=@List.getElem?_eq_some_iff
def dE :=@List.mem_range
def dI :=@List.getElem?_eq_none
def dK :=@List.all_eq_true
def dN :=@List.getElem_mem
def dS :=@Bool.and_eq_true
def dV :=@Nat.not_lt_zero
def eu :=@Nat.zero_add
def fo :=@List.length_map
def eY :=@List.flatMap_append
def fG :=@Nat.lt_or_ge
def fE :=@Int.eq_ofNat_of_zero_le
def fO :=@List.mem_append
def fQ :=@Array.getElem?_setIfInBounds_ne
def fP :=@List.not_mem_nil
def gV :=@List.mem_cons_self
def gW :=@List.mem_map
def ib :=@Array.getElem?_eq_some_iff
def iq :=@Nat.add_zero
def iI :=@Array.length_toList
def iN :=@List.take_of_length_le
def iX :=@List.any_eq_true
def jb :=@List.map_append
def iY :=@Option.some.injEq
def ji :=@List.mem_cons_of_mem
def jC :=@List.mem_iff_getElem
def jD :=@List.length_replicate
def jG :=@List.append_assoc
def jH :=@List.length_append
def jO :=@List.getElem?_map
def jM :=@List.eq_nil_of_length_eq_zero
def jP :=@List.mem_flatMap
def jV :=@Array.all_toList
def kC :=@Go.Sem.run_bind
def kK :=@List.getElem?_append_right
def kM :=@Nat.succ.inj
def kW :=@List.getElem?_set
def lC :=@List.length_take
def kY :=@List.getElem?_append_left
def lu :=@Bool.true_and
def lg :=@Array.getElem?_eq_none
def lT :=@Bool.eq_iff_iff
def lX :=@List.flatMap_cons
def mh :=@List.getElem?_take
def lY :=@Bool.false_and
def lS :=@Array.ext_getElem?
def lV :=@Go.Lib.run_eql_slice_nil
def lU :=@Go.Value.slice.injEq
def mi :=@Bool.and_false
def mV :=@List.take_add_one
def mZ :=@Nat.add_assoc
def mR :=@List.ext_getElem?
def ni :=@List.mem_or_eq_of_mem_set
def mX :=@Array.mem_toList_iff
def mY :=@List.append_nil
def ng :=@Go.Value.slice.inj
def nI :=@List.getElem?_replicate
def nJ :=@List.countP_cons
def nN :=@Bool.and_true
def oK :=@Ne.symm
def oC :=@List.find?_eq_none
def oG :=@List.mem_append_left
def pq :=@List.length_cons
def oq :=@Option.getD_some
def pV :=@List.getElem?_cons_zero
def qa :=@List.drop_eq_nil_of_le
def pY :=@Nat.lt_of_lt_of_le
def rR :=@Vector.getElem_ofFn
def rO :=@List.getElem?_drop
def rM :=@Go.Result.andThen_ok
def rU :=@Go.Sem.run_pure
def qW :=@Array.getElem?_setIfInBounds_self_of_lt
def tO :=@List.ext_getElem
def tY :=@List.any_eq_false
def uf :=@Classical.not_not
def tZ :=@List.mem_of_find?_eq_some
def tC :=@List.mem_append_right
def tF :=@Bool.or_eq_true
def tV :=@Nat.sub_self
def tH :=@Nat.add_mul
def tJ :=@Array.getElem?_toList
def tX :=@Nat.mul_le_mul_right
def uT :=@List.filter_append
def qx :=@Nat.mod_lt
def qy :=@Nat.mod_eq_of_lt
def qA :=@Option.map_some
def qp :=@List.take_append_drop
def qo :=@List.find?_some
def qC :=@List.set_cons_zero
def qz :=@Nat.le_of_lt
def qB :=@Array.getElem?_replicate
def sQ :=@List.getElem?_set_ne
def sF :=@List.nodup_cons
def rZ :=@Int.le_refl
def sG :=@List.getElem?_range
def sI :=@List.set_getElem_self
def su :=@List.pairwise_cons
def sS :=@Nat.eq_zero_or_pos
def sj :=@Go.Addr.add_lit
def sH :=@Nat.mul_one
def rX :=@Go.Obj.cells.injEq
def uQ :=@Bool.false_eq_true
def vN :=@List.findIdx?_eq_some_iff_getElem
def vC :=@List.getElem?_set_self
def vv :=@List.drop_eq_getElem_cons
def uK :=@List.map_congr_left
def uZ :=@List.set_cons_succ
def uS :=@List.getElem_map
def uI :=@List.countP_map
def vK :=@Nat.lt_or_gt_of_ne
def vz :=@Classical.byContradiction
def vM :=@Go.Addr.mk.injEq
def wU :=@List.countP_pos_iff
def xn :=@List.range_succ
def xJ :=@Vector.ext
def wT :=@Vector.getElem_set_ne
def xm :=@List.nodup_append
def xQ :=@List.take_length
def xx :=@Int.toNat_of_nonneg
def xH :=@Bool.not_eq_true'
def xy :=@List.countP_eq_zero
def xG :=@List.countP_le_length
def xM :=@Nat.zero_mul
def xK :=@Go.Calls.mono
def wQ :=@Nat.mul_comm
def xI :=@Nat.min_eq_left
def wV :=@List.getElem?_toArray
def xC :=@List.getElem?_cons_succ
def xA :=@Nat.le_succ
def Ad :=@List.findIdx?_eq_none_iff
def zR :=@List.length_filter_le
def zx :=@Bool.or_eq_false_iff
def Al :=@List.foldl_cons
def zi :=@List.findIdx?_cons
def zH :=@List.getElem_cons_zero
def zm :=@List.sum_cons
def zP :=@Bool.eq_false_iff
def zJ :=@List.pairwise_iff_getElem
def zt :=@List.getElem_set_ne
def Ag :=@Nat.add_sub_cancel_left
def zX :=@List.length_nil
def Af :=@Array.getElem?_eq_getElem
def yZ :=@Array.mem_of_getElem?
def zO :=@Option.bind_some
def zN :=@Nat.one_mul
def zz :=@List.drop_succ_cons
def Ab :=@List.drop_nil
def zF :=@Array.getElem?_setIfInBounds
def yV :=@List.length_eraseIdx_of_lt
def zk :=@Array.size_push
def CE :=@Array.toList_setIfInBounds
def Cz :=@List.getElem_cons_succ
def CX :=@List.foldl_append
def CQ :=@List.getElem_set
def Cg :=@Nat.add_mod_right
def CK :=@List.getLast?_concat
def Cv :=@List.length_singleton
def Cs :=@List.mem_replicate
def CU :=@List.map_set
def CR :=@Bool.not_or
def Cj :=@List.mem_map_of_mem
def Cn :=@List.countP_append
def Ct :=@List.length_range
def Cq :=@Nat.le_of_eq
def CF :=@Nat.succ_mul
def Cf :=@List.setIfInBounds_toArray
def CZ :=@List.drop_zero
def Cr :=@List.flatMap_map
def CV :=@Nat.not_lt
def Cu :=@Go.Value.agg.injEq
def IZ :=@List.find?_range_eq_some
def Il :=@List.filter_cons
def He :=@List.cons_append
def Iu :=@Option.map_none
def IG :=@Bool.and_eq_false_iff
def Ho :=@List.mem_filter
def Jf :=@List.set_set
def Ih :=@List.countP_eq_length_filter
def IR :=@List.countP_filter
def Ia :=@Function.comp_apply
def Ha :=@List.getElem_range
def GM :=@List.insertIdx_succ_cons
def GL :=@List.mem_insertIdx
def Jb :=@Nat.add_comm
def IV :=@Go.World.grownBy.refl
def IU :=@Go.World.ownsRow_nil
def GZ :=@List.map_map
def Jc :=@List.countP_replicate
def Hl :=@List.mem_filterMap
def GV :=@List.nil_append
def Jh :=@List.getElem_set_self
def Iz :=@Int.natCast_emod
def IP :=@Bool.or_true
def HZ :=@List.flatMap_nil
open Go Go.RowKit
abbrev Page:=Vector UInt8 8
theorem SC (p q:Page):(p==q)=((p[0]==q[0])&&(p[1]==q[1])&&(p[2]==q[2])&&(p[3]==q[3])&&(p[4]==q[4])&&(p[5]==q[5])&&(p[6]==q[6])&&(p[7]==q[7])):=by
 rw[lT];simp only[beq_iff_eq,dS];constructor
 ·rintro rfl;simp
 rintro⟨⟨⟨⟨⟨⟨⟨h0,h1⟩,h2⟩,h3⟩,h4⟩,h5⟩,h6⟩,h7⟩
 ext i hi
 match i,hi with
 | 0,_=>rw[h0]
 | 1,_=>rw[h1]
 | 2,_=>rw[h2]
 | 3,_=>rw[h3]
 | 4,_=>rw[h4]
 | 5,_=>rw[h5]
 | 6,_=>rw[h6]
 | 7,_=>rw[h7]
 | n+8,h=>omega
theorem VT (a b:UInt8):((a.toNat:Int)==(b.toNat:Int))=(a==b):=by
 rw[lT];simp only[beq_iff_eq,Int.natCast_inj,UInt8.toNat_inj]
def iR (p:Page) (a:Int) (k:Nat):Page:=Vector.ofFn fun i:Fin 8=>if a≤(i.val:Int)∧i.val<k then 0 else p[i.val]
def fu (p:Page) (a:Int):Page:=Vector.ofFn fun i:Fin 8=>if a≤(i.val:Int) then 0 else p[i.val]
theorem Ba (p:Page) (a:Int) (k:Nat) (h:8≤k):iR p a k=fu p a:=by
 ext i hi
 simp only[iR,fu,rR];have hk:i<k:=by omega
 simp[hk]
theorem AR (p:Page) (a:Int) (k:Nat) (h:k<8) (ha:a≤k):(iR p a k).set k 0=iR p a (k+1):=by
 ext i hi
 simp only[iR,rR,Vector.getElem_set]
 by_cases e:k=i
 ·subst e;simp[ha]
 simp only[e,if_false]
 by_cases c:a≤(i:Int)∧i<k
 ·rw[if_pos c,if_pos ⟨c.1,by omega⟩]
 ·rw[if_neg c,if_neg (by omega)]
def cO (L:Nat→Bool) (i:Nat):Nat→Bool:=fun k=>if k=i then true else L k
def wr {α:Type}:List α→Option (List α)
 | []=>some []
 | a::r=>some (a::r)
theorem Ny {α:Type} {a b:List α} (h:wr a=some b):a=b:=by cases a<;>cases h<;>rfl
def i64 (n:Int):Prop:=-9223372036854775808≤n∧n≤9223372036854775807
theorem BH {α:Type} (good:α→Prop) (R:Nat→α→Prop):∀(len:Nat),(∀i,i<len→∃y:α,good y∧R i y)→∃l:List α,l.length=len∧(∀y∈l,good y)∧∀i (hi:i<l.length),R i l[i]
 | 0,_=>⟨[],rfl,fun y hy=>(by cases hy),fun i hi=>absurd hi (dV _)⟩
 | len+1,key=>by
  obtain⟨l,hl,hg,hr⟩:=BH good R len (fun i hi=>key i (by omega));obtain⟨y,hy,hyr⟩:=key len (by omega);refine⟨l++[y],by simp[hl],?_,?_⟩
  ·intro z hz;rcases fO.1 hz with hz|hz
   ·exact hg z hz
   ·rw[bv.1 hz];exact hy
  intro i hi
  by_cases hil:i<l.length
  ·rw[List.getElem_append_left hil];exact hr i hil
  have hi' : i=len:=by simp at hi;omega
  subst hi';rw[List.getElem_append_right (by omega)];simpa[hl] using hyr
end Pw
namespace Go.Proofs.YtjkkoeijlhfneaaGreat
open Go.ChangeShapes Go.WideShapes Go.ChangeAt Go.RowKit Go.Maps Pw
variable {k n:Nat}
theorem lN {P:∀i,i<n→Prop} (hp:∀i (h:i<n),i<k→P i h) (hlt:k<n) (hk:P k hlt):∀i (h:i<n),i<k+1→P i h:=by
 intro i h hi
 by_cases e:i=k
 ·subst e;exact hk
 ·exact hp i h (by omega)
theorem Wn {α:Type} {l m:List α} (k:Nat) (h:k<l.length) (h' : k<m.length) (hne:l[k]≠m[k]):l≠m:=by rintro rfl;exact hne rfl
theorem VL {α:Type} {l m:List α} (hl:l.length=m.length) (k:Nat) (hk:¬k<l.length) (h:∀i (h:i<l.length),i<k→l[i]=m[i]'(by omega)):l=m:=
 tO hl fun i h1 h2=>h i h1 (by omega)
theorem Wx {α:Type} {l m:List α} (hl:l.length=m.length) (hk:k<l.length) (h:∀i (h:i<l.length),i<k→l[i]=m[i]'(by omega)) (he:l[k]=m[k]'(by omega)):∀i (h:i<l.length),i<k+1→l[i]=m[i]'(by omega):=by
 intro i h1 h2
 by_cases e:i=k
 ·subst e;exact he
 ·exact h i h1 (by omega)
end Go.Proofs.YtjkkoeijlhfneaaGreat
namespace Pw
open Go Go.RowKit
variable {fuel i q:Nat} {l:List Int}
theorem xe {listed:Array Bool} (hi:i<listed.size) (q:Nat) (hq:listed.getD q false=true):(listed.setIfInBounds i true).getD q false=true:=by
 by_cases hqi:q=i
 ·subst hqi;simp[bN,hi]
 ·simpa[bN,fQ (oK hqi)] using hq
theorem qI {listed:Array Bool} (h:q≠i):(listed.setIfInBounds i true).getD q false=listed.getD q false:=by
 simp[bN,fQ (oK h)]
theorem Kt {listed:Array Bool} (hi:i<listed.size):(listed.setIfInBounds i true).getD i false=true:=by
 simp[bN,hi]
theorem EH {listed:Array Bool} (hi:i<listed.size) (h1:listed.getD i true=false) (hc:listed.toList.countP (!·)≤fuel+1):(listed.setIfInBounds i true).toList.countP (!·)≤fuel:=by
 have c:i<listed.toList.length:=by simp;omega
 have b:listed.toList[i]=false:=by simpa[bN,hi] using h1
 have:=List.countP_set (p:=(!·)) (l:=listed.toList) (i:=i) (a:=true) c;rw[b] at this;have d:0<listed.toList.countP (!·):=wU.2 ⟨listed.toList[i],dN c,by rw[b];rfl⟩;simp only[CE];simp only[Bool.not_false,Bool.not_true,if_true,uQ,if_false] at this;omega
open Go.ChangeShapes Go.WideShapes Go.ChangeAt
def firstE:List Int→Int
 | []=>0
 | x::r=>if x=0 then firstE r else x
theorem sK (h:∀i (hi:i<l.length),l[i]=0):firstE l=0:=by
 induction l with
 | nil=>rfl
 | cons x r ih=>
  have h0:=h 0 (by simp);simp at h0;simp only[firstE,h0,if_true];exact ih fun i hi=>by have:=h (i+1) (by simpa using hi);simpa using this
theorem xu (k:Nat) (hk:k<l.length) (h:∀i (hi:i<l.length),i<k→l[i]=0) (hne:l[k]≠0):firstE l=l[k]:=by
 induction l generalizing k with
 | nil=>simp at hk
 | cons x r ih=>
  cases k with
  | zero=>simp at hne;simp[firstE,hne]
  | succ k=>
   have h0:=h 0 (by simp) (by omega);simp at h0;simp only[firstE,h0,if_true,Cz];exact ih k (by simpa using hk) (fun i hi a=>by have:=h (i+1) (by simpa using hi) (by omega);simpa using this) (by simpa using hne)
theorem filter_all {α:Type} (p q:α→Bool) (l:List α):(l.filter p).all (fun e => !p e||q e)=l.all (fun e => !p e||q e):=by
 induction l with
 | nil=>rfl
 | cons x l ih=>
  cases hp:p x
  ·rw[List.filter_cons_of_neg (by simp[hp]),ih];simp[hp]
  ·rw[List.filter_cons_of_pos (by simp[hp])];simp[hp,ih]
end Pw
namespace Go.Proofs.YtjkkoeijlhfneaaGreat
open Go.RowKit Pw
variable {I K b c f g i j k n p q r s:Nat} {kd lo:Int} {l:List Int}
def idx {α:Type} (f:α→Bool) (l:List α):Int:=match l.findIdx? f with
 | some k=>k
 | none => -1
theorem tN {α:Type} (f:α→Bool) (l:List α) (k:Nat) (h:k<l.length) (hp:∀i (h:i<l.length),i<k→f l[i]=false) (hk:f l[k]=true):idx f l=k:=by
 unfold idx;rw[vN.2 ⟨h,hk,fun j hj=>by simpa using hp j (by omega) hj⟩]
theorem lc {α:Type} (f:α→Bool) (l:List α) (hp:∀i (h:i<l.length),f l[i]=false):idx f l = -1:=by
 unfold idx;rw[Ad.2 fun x hx=>by obtain⟨i,hi,rfl⟩:=jC.1 hx;exact hp i hi]
theorem Bb {α:Type} (f:α→Bool) (l:List α):(idx f l = -1∧∀i (h:i<l.length),f l[i]=false)∨∃k:Nat,∃h:k<l.length,idx f l=k∧f l[k]=true∧∀i (h:i<l.length),i<k→f l[i]=false:=by
 unfold idx;cases e:l.findIdx? f with
 | none=>exact .inl ⟨rfl,fun i h=>Ad.1 e _ (dN h)⟩
 | some k=>
  obtain⟨h,hk,hp⟩:=vN.1 e;exact .inr ⟨k,h,rfl,hk,fun i _ hi=>by simpa using hp i hi⟩
theorem nE {α:Type} (f:α→Bool) (l:List α):decide (0≤idx f l)=l.any f:=by
 rcases Bb f l with ⟨e,h⟩|⟨k,hk,e,h,_⟩
 ·rw[e];symm;simp only[show decide ((0:Int)≤-1)=false from rfl,tY];intro x hx;obtain⟨i,hi,rfl⟩:=jC.1 hx;simpa using h i hi
 rw[e];symm;simp only[show decide ((0:Int)≤(k:Int))=true from by simp,iX];exact⟨_,dN hk,h⟩
theorem upto {P:∀i,i<n→Prop} (hp:∀i (h:i<n),i<k→P i h) (hlt:k<n) (hk:P k hlt):∀i (h:i<n),i<k+1→P i h:=by
 intro i h hi
 by_cases e:i=k
 ·subst e;exact hk
 ·exact hp i h (by omega)
open Go.Maps
structure VR (D:DataW Unit) (f:Int→Bool):Prop where
 is:IsMap D
 at_:∀j:Int,D.atKey (.int .i64 j) (.lit (.bool false)) = .lit (.bool (f j))
theorem VR.empty:VR (.map []) (fun _=>false):=⟨isMap_empty,fun j=>rfl⟩
theorem VR.put {D:DataW Unit} {f:Int→Bool} (h:VR D f) (k:Int):VR (D.put (.int .i64 k) (.lit (.bool true))) (fun j=>f j||decide (j=k)):=by
 refine⟨h.is.put _ _,fun j => ?_⟩
 by_cases e:j=k
 ·subst e;rw[atKey_put_same h.is (by trivial)];simp
 rw[atKey_put_other (by intro e2;exact e (by cases e2;rfl)),h.at_ j];simp[e]
def dW (n:Int):Int:=if n≤0 then 0 else (n-1) / 8+1
def qD (n:Int):Bool:=decide (n<0)||decide (1000<n)
def dn (l:List Int):Int:=if 60<l.length then 4 else if l.any qD then 3 else 0
def Jk (n:Int):Bool:=n==0
def AJ (n:Int):List Int:=if 0≤n∧n≤60 then List.replicate n.toNat 0 else []
def Ik (n:Int):Int:=if 0≤n∧n≤60 then 0 else 4
theorem Rq (l:List Int) (k:Nat) (hk:k<l.length) (h0:dn l=0):0≤l[k]∧l[k]≤1000:=by
 unfold dn at h0;split at h0
 ·omega
 split at h0
 ·omega
 rename_i h;have h1:qD l[k]=false:=by have:=tY.1 (by simpa using h) _ (dN hk);simpa using this
 simp[qD] at h1;exact h1
theorem ja (h:dn l=0):l.length≤60:=by
 unfold dn at h;split at h
 ·omega
 ·omega
def ig (l:List Int) (n:Int):Int:=if dn l≠0 then dn l else if n<1∨1000<n then 3 else if idx Jk l<0 then 10 else 0
def jF (l:List Int) (n:Int):Int:=if ig l n=0 then idx Jk l else 0
def lM (l:List Int) (n:Int):List Int:=if ig l n=0 then l.set (idx Jk l).toNat n else []
theorem Lj (n:Int) (h:dn l≠0):ig l n=dn l∧jF l n=0∧lM l n=[]:=by
 have:ig l n=dn l:=by unfold ig;rw[if_pos h]
 exact⟨this,by unfold jF;rw[this,if_neg h],by unfold lM;rw[this,if_neg h]⟩
theorem MU {n:Int} (h0:dn l=0) (h:n<1∨1000<n):ig l n=3∧jF l n=0∧lM l n=[]:=by
 have:ig l n=3:=by unfold ig;rw[if_neg (by omega),if_pos h]
 exact⟨this,by unfold jF;rw[this];rfl,by unfold lM;rw[this];rfl⟩
theorem ML {n:Int} (h0:dn l=0) (h:1≤n∧n≤1000) (hf:idx Jk l = -1):ig l n=10∧jF l n=0∧lM l n=[]:=by
 have:ig l n=10:=by unfold ig;rw[if_neg (by omega),if_neg (by omega),if_pos (by omega)]
 exact⟨this,by unfold jF;rw[this];rfl,by unfold lM;rw[this];rfl⟩
theorem Qo {n:Int} (h0:dn l=0) (h:1≤n∧n≤1000) (hf:idx Jk l=k):ig l n=0∧jF l n=k∧lM l n=l.set k n:=by
 have:ig l n=0:=by unfold ig;rw[if_neg (by omega),if_neg (by omega),if_neg (by omega)]
 exact⟨this,by unfold jF;rw[this,if_pos rfl,hf],by unfold lM;rw[this,if_pos rfl,hf];rfl⟩
def Ic (l:List Int) (k:Int):Int:=l.getD k.toNat 0
def gD (l:List Int) (k n:Int):Int:=if dn l≠0 then dn l else if k<0∨l.length≤k∨Ic l k=0 then 5 else if n < -Ic l k∨1000-Ic l k<n then 3 else 0
def gG (l:List Int) (k n:Int):List Int:=if gD l k n=0 then l.set k.toNat (Ic l k+n) else []
theorem Nh (k n:Int) (h:dn l≠0):gD l k n=dn l∧gG l k n=[]:=by
 have:gD l k n=dn l:=by unfold gD;rw[if_pos h]
 exact⟨this,by unfold gG;rw[this,if_neg h]⟩
theorem FX {k n:Int} (h0:dn l=0) (h:k<0∨l.length≤k∨Ic l k=0):gD l k n=5∧gG l k n=[]:=by
 have:gD l k n=5:=by unfold gD;rw[if_neg (by omega),if_pos h]
 exact⟨this,by unfold gG;rw[this];rfl⟩
theorem MG {k n:Int} (h0:dn l=0) (h:¬(k<0∨l.length≤k∨Ic l k=0)) (hr:n < -Ic l k∨1000-Ic l k<n):gD l k n=3∧gG l k n=[]:=by
 have:gD l k n=3:=by unfold gD;rw[if_neg (by omega),if_neg h,if_pos hr]
 exact⟨this,by unfold gG;rw[this];rfl⟩
theorem Qg {k n:Int} (h0:dn l=0) (h:¬(k<0∨l.length≤k∨Ic l k=0)) (hr:¬(n < -Ic l k∨1000-Ic l k<n)):gD l k n=0∧gG l k n=l.set k.toNat (Ic l k+n):=by
 have:gD l k n=0:=by unfold gD;rw[if_neg (by omega),if_neg h,if_neg hr]
 exact⟨this,by unfold gG;rw[this,if_pos rfl]⟩
theorem Ul (h:k<l.length):Ic l k=l[k]:=by simp[Ic,h]
structure pR where
 blocks:List Page
 queue:List (Int × Page)
def zPg:Page:=#v[0,0,0,0,0,0,0,0]
def vR (n:Nat) (q:Int × Page):Bool:=decide (q.1<0)||decide ((n:Int)≤q.1)
def aY (d:pR):Int:=if 80<d.blocks.length∨400<d.queue.length then 4 else if d.queue.any (vR d.blocks.length) then 3 else 0
def aL (d:pR) (at_:Int):Int:=if aY d≠0 then aY d else if at_<0∨d.blocks.length≤at_ then 3 else 0
def over (k:Int) (p:Page) (q:List (Int × Page)):Page:=q.foldl (fun p x=>if x.1=k then x.2 else p) p
theorem Bt (k:Int) (p:Page) (q:List (Int × Page)) (x:Int × Page):over k p (q++[x])=if x.1=k then x.2 else over k p q:=by simp[over,CX]
theorem Gy (k:Int) (p:Page) (q:List (Int × Page)) (i:Nat) (h:i<q.length):over k p (q.take (i+1))=if q[i].1=k then q[i].2 else over k p (q.take i):=by
 rw[mV,aH h,Option.toList,Bt]
def jc (d:pR) (k:Int):Page:=if aL d k=0 then over k (d.blocks.getD k.toNat zPg) d.queue else zPg
def iC (d:pR) (x:Int × Page):pR:=
 match d.queue with
 | []=>⟨d.blocks,[x]⟩
 | q::r=>if (q::r).length=400 then ⟨d.blocks.set q.1.toNat q.2,r++[x]⟩ else ⟨d.blocks,(q::r)++[x]⟩
theorem OD (d:pR) (x:Int × Page) (h:d.queue.length≠400):iC d x=⟨d.blocks,d.queue++[x]⟩:=by
 unfold iC;split
 ·rename_i e;rw[e];rfl
 ·rename_i q r e;rw[e] at h;rw[if_neg h,e]
theorem Pf (d:pR) (x:Int × Page) (h:d.queue.length=400):iC d x=⟨d.blocks.set (d.queue[0]'(by omega)).1.toNat (d.queue[0]'(by omega)).2,d.queue.drop 1++[x]⟩:=by
 obtain⟨B,Q⟩:=d;unfold iC;cases Q with
 | nil=>simp at h
 | cons q r=>simp only[if_pos h];rfl
def dC (d:pR) (k:Int) (p:Page):pR:=if aL d k=0 then iC d (k,p) else ⟨[],[]⟩
theorem xL {d:pR} (h:aY d=0):d.blocks.length≤80∧d.queue.length≤400:=by
 unfold aY at h;split at h
 ·omega
 ·omega
theorem xD {d:pR} (h:aY d=0) (i:Nat) (hi:i<d.queue.length):0≤d.queue[i].1∧d.queue[i].1<d.blocks.length:=by
 unfold aY at h;split at h
 ·omega
 split at h
 ·omega
 rename_i h1;have:=tY.1 (by simpa using h1) _ (dN hi);simp[vR] at this;omega
def ko (b:Int) (i:Nat):Bool:=Go.bits BinOp.and IntKind.i64 (b / 2 ^ (i%60)) 1==1
def oI (n:Int):pR:=if 0≤n∧n≤80 then ⟨List.replicate n.toNat zPg,[]⟩ else ⟨[],[]⟩
def NK (n:Int):Int:=if 0≤n∧n≤80 then 0 else 4
def iF (f:Nat→Bool) (B:List Page) (Q:List (Int × Page)):Nat→List Page
 | 0=>B
 | k+1=>match Q[k]? with
  | some q=>if f k then (iF f B Q k).set q.1.toNat q.2 else iF f B Q k
  | none=>iF f B Q k
theorem jk (f:Nat→Bool) (B:List Page) (Q:List (Int × Page)) (k:Nat):(iF f B Q k).length=B.length:=by
 induction k with
 | zero=>rfl
 | succ k ih=>
  unfold iF;split
  ·split
   ·rw[bH,ih]
   ·exact ih
  ·exact ih
theorem xS {f:Nat→Bool} {B:List Page} {Q:List (Int × Page)} (h:k<Q.length) (hf:f k=true):iF f B Q (k+1)=(iF f B Q k).set Q[k].1.toNat Q[k].2:=by
 rw[iF,aH h];simp[hf]
theorem Az {f:Nat→Bool} {B:List Page} {Q:List (Int × Page)} (h:k<Q.length) (hf:f k=false):iF f B Q (k+1)=iF f B Q k:=by
 rw[iF,aH h];simp[hf]
def jo (f:Nat→Bool) (d:pR):pR:=if aY d=0 then ⟨iF f d.blocks d.queue d.queue.length,[]⟩ else ⟨[],[]⟩
theorem Pe (k:Int) (p:Page) (q:Int × Page) (r:List (Int × Page)):over k p (q::r)=over k (if q.1=k then q.2 else p) r:=rfl
theorem eO (d:pR):aY d=0↔d.blocks.length≤80∧d.queue.length≤400∧∀x∈d.queue,0≤x.1∧x.1<d.blocks.length:=by
 unfold aY;constructor
 ·intro h;split at h
  ·omega
  split at h
  ·omega
  rename_i h1 h2;refine⟨by omega,by omega,fun x hx => ?_⟩;have:=tY.1 (by simpa using h2) x hx;simp[vR] at this;omega
 rintro⟨h1,h2,h3⟩;rw[if_neg (by omega),if_neg];simp only[iX,not_exists,not_and];intro x hx;have:=h3 x hx;simp[vR];omega
theorem kX {d:pR} {k:Int}:aL d k=0↔aY d=0∧0≤k∧k<d.blocks.length:=by
 unfold aL;constructor
 ·intro h;split at h
  ·omega
  split at h
  ·omega
  ·omega
 rintro⟨h1,h2,h3⟩;rw[if_neg (by omega),if_neg (by omega)]
theorem wG (d:pR) (x:Int × Page):(iC d x).blocks.length=d.blocks.length:=by
 unfold iC;split
 ·rfl
 split
 ·simp
 ·rfl
theorem yA {d:pR} {x:Int × Page} (h:aY d=0) (h0:0≤x.1) (h1:x.1<d.blocks.length):aY (iC d x)=0:=by
 obtain⟨h2,h3,h4⟩:=(eO d).1 h;rw[eO,wG];refine⟨h2,?_,?_⟩
 ·unfold iC;split
  ·simp
  rename_i q r e;rw[e] at h3;split
  ·rename_i e4;simp at e4 ⊢; omega
  ·rename_i e4;simp at e4 h3 ⊢; omega
 intro y hy;have:y=x∨y∈d.queue:=by
  unfold iC at hy;split at hy
  ·simp at hy;exact .inl hy
  rename_i q r e;rw[e];split at hy
  ·simp at hy ⊢; rcases hy with h | h
   ·exact .inr (.inr h)
   ·exact .inl h
  simp at hy ⊢; rcases hy with h | h | h
  ·exact .inr (.inl h)
  ·exact .inr (.inr h)
  ·exact .inl h
 rcases this with rfl|h
 ·exact⟨h0,h1⟩
 ·exact h4 y h
theorem Ov (d:pR) (x:Int × Page) (o:Int) (hq:∀y∈d.queue,0≤y.1∧y.1<d.blocks.length) (ho:0≤o) (ho' : o<d.blocks.length) :
  over o ((iC d x).blocks.getD o.toNat zPg) (iC d x).queue=if x.1=o then x.2 else over o (d.blocks.getD o.toNat zPg) d.queue:=by
 unfold iC;split
 ·rename_i e;rw[e];rfl
 rename_i q r e;split
 ·have a:=hq q (by rw[e];exact gV ..);rw[Bt];congr 1;rw[e,Pe];congr 1;simp only[aS,kW]
  by_cases hqo:q.1=o
  ·rw[if_pos hqo,if_pos (by rw[hqo]),if_pos (by rw[hqo];omega)];rfl
  ·rw[if_neg hqo,if_neg (by omega)]
 ·rw[e,Bt]
theorem Hz {d:pR} {x:Int × Page} (h:aY d=0) (h0:0≤x.1) (h1:x.1<d.blocks.length) (o:Int):aL (iC d x) o=aL d o:=by
 unfold aL;rw[yA h h0 h1,h,wG]
theorem wR {d:pR} {x:Int × Page} (h:aY d=0) (h0:0≤x.1) (h1:x.1<d.blocks.length) (o:Int):jc (iC d x) o=if aL d o=0∧x.1=o then x.2 else jc d o:=by
 unfold jc;rw[Hz h h0 h1]
 by_cases ho:aL d o=0
 ·obtain⟨_,g0,g1⟩:=kX.1 ho;rw[if_pos ho,if_pos ho,Ov d x o ((eO d).1 h).2.2 g0 g1];simp[ho]
 ·rw[if_neg ho,if_neg ho,if_neg (fun h=>ho h.1)]
def d3:pR:=⟨[zPg,zPg,zPg],[]⟩
structure Fr where
 p:Page
 r:Int
 u:Bool
 d:Bool
 f:Int
 i:Int
 deriving DecidableEq
def Dt (f:Fr):Bool:=decide (f.r<0)||decide (1000<f.r)||decide (f.f < -1)||decide (5≤f.f)||decide (f.i<0)||decide (12≤f.i)
def FI (f:Fr):Bool:=decide (f.r=0)&&(f.u||f.d||decide (0≤f.f)||f.p != zPg)
def Bl (f:Fr):Bool:=decide (f.f<0)&&decide (f.i≠0)
def dR (f:Fr):Int:=if Dt f=true then 3 else if FI f=true∨Bl f=true then 7 else 0
structure Mem where
 fs:List Fr
 hand:Int
 deriving DecidableEq
def firstEf:List Fr→Int
 | []=>0
 | f::r=>if dR f≠0 then dR f else firstEf r
theorem firstEf_at:∀(l:List Fr) (k:Nat) (hk:k<l.length),(∀i (h:i<l.length),i<k→dR l[i]=0)→dR l[k]≠0→firstEf l=dR l[k]
 | f::r,0,_,_,h=>by unfold firstEf;exact if_pos h
 | f::r,k+1,hk,hp,h=>by unfold firstEf;rw[if_neg (fun hh=>hh (hp 0 (by simp) (by omega)))];exact firstEf_at r k (by simpa using hk) (fun i hi hik=>hp (i+1) (by simpa using hi) (by omega)) h
theorem firstEf_none:∀(l:List Fr),(∀i (h:i<l.length),dR l[i]=0)→firstEf l=0
 | [],_=>rfl
 | f::r,hp=>by unfold firstEf;rw[if_neg (fun hh=>hh (hp 0 (by simp)))];exact firstEf_none r (fun i hi=>hp (i+1) (by simpa using hi))
def bL (m:Mem):Int:=if 40<m.fs.length then 4 else if firstEf m.fs≠0 then firstEf m.fs else if m.hand<0∨(0<m.hand∧(m.fs.length:Int)≤m.hand) then 3 else 0
def mI (l:List Fr):Nat:=(l.filter (fun f=>decide (f.r=0))).length
theorem Mf (l:List Fr) (k:Nat) (hk:k<l.length):mI (l.take (k+1))=if l[k].r=0 then mI (l.take k)+1 else mI (l.take k):=by
 unfold mI;rw[mV,aH hk,Option.toList,uT]
 by_cases h:l[k].r=0<;>simp[h]
theorem EO (l:List Fr):mI l≤l.length:=zR _ _
def fr0:Fr:=⟨zPg,0,false,false,0,0⟩
def frZ:Fr:=⟨zPg,0,false,false,-1,0⟩
def uh (n:Int):Mem:=if 0≤n∧n≤40 then ⟨List.replicate n.toNat frZ,0⟩ else ⟨[],0⟩
def Og (n:Int):Int:=if 0≤n∧n≤40 then 0 else 4
def noM:Mem:=⟨[],0⟩
theorem firstEf_all:∀(l:List Fr),firstEf l=0→∀f∈l,dR f=0
 | [],_,_,h=>by cases h
 | g::r,h,f,hf=>by
  unfold firstEf at h
  by_cases hg:dR g=0
  ·rw[if_neg (fun e=>e hg)] at h;rcases bZ.1 hf with rfl|hf
   ·exact hg
   ·exact firstEf_all r h f hf
  rw[if_pos hg] at h;exact absurd h hg
theorem eH (m:Mem):bL m=0↔m.fs.length≤40∧(∀f∈m.fs,dR f=0)∧0≤m.hand∧(m.hand=0∨m.hand<m.fs.length):=by
 unfold bL;constructor
 ·intro h
  by_cases h1:40<m.fs.length
  ·rw[if_pos h1] at h;cases h
  rw[if_neg h1] at h
  by_cases h2:firstEf m.fs=0
  ·rw[if_neg (fun e=>e h2)] at h
   by_cases h3:m.hand<0∨(0<m.hand∧(m.fs.length:Int)≤m.hand)
   ·rw[if_pos h3] at h;cases h
   ·exact⟨by omega,firstEf_all _ h2,by omega,by omega⟩
  ·rw[if_pos h2] at h;exact absurd h h2
 rintro⟨h1,h2,h3,h4⟩;rw[if_neg (by omega)];have h5:firstEf m.fs=0:=firstEf_none _ (fun i hi=>h2 _ (dN hi));rw[h5,if_neg (fun e=>e rfl),if_neg (by omega)]
theorem iH (f:Fr):dR f=0↔(0≤f.r∧f.r≤1000∧-1≤f.f∧f.f<5∧0≤f.i∧f.i<12)∧(f.r=0→f.u=false∧f.d=false∧f.f<0∧f.p=zPg)∧(f.f<0→f.i=0):=by
 unfold dR;have hb:Dt f=false↔(0≤f.r∧f.r≤1000∧-1≤f.f∧f.f<5∧0≤f.i∧f.i<12):=by simp only[Dt,zx,decide_eq_false_iff_not,Int.not_lt,Int.not_le];omega
 have hu:FI f=false↔(f.r=0→f.u=false∧f.d=false∧f.f<0∧f.p=zPg):=by
  unfold FI
  by_cases h:f.r=0
  ·simp[h,and_assoc]
  ·simp[h]
 have hf:Bl f=false↔(f.f<0→f.i=0):=by
  unfold Bl
  by_cases h:f.f<0
  ·simp[h]
  ·simp[h]
 rw[←hb,←hu,←hf];cases Dt f<;>cases FI f<;>cases Bl f<;>simp
def nz (m:Mem) (k n:Int):Int:=if bL m≠0 then bL m else if k<0∨(m.fs.length:Int)≤k∨(m.fs.getD k.toNat fr0).r=0 then 5 else if n < -(m.fs.getD k.toNat fr0).r∨1000-(m.fs.getD k.toNat fr0).r<n then 3 else 0
def jA (f:Fr) (n:Int):Fr:=if f.r+n=0 then frZ else { f with r:=f.r+n }
def lL (m:Mem) (k n:Int):Mem:=if nz m k n=0 then ⟨m.fs.set k.toNat (jA (m.fs.getD k.toNat fr0) n),m.hand⟩ else noM
def iU (m:Mem) (s:Nat):Nat:=(m.hand.toNat+s)%m.fs.length
def BL (m:Mem) (s i:Nat):Bool:=(List.range s).any (fun t=>iU m t==i)
def unused (f:Fr):Fr:={ f with u:=false }
def nS (m:Mem) (s:Nat):List Fr:=m.fs.mapIdx (fun i f=>if BL m s i then unused f else f)
def wh (m:Mem) (s:Nat):Bool:=decide (0<(m.fs.getD (iU m s) fr0).r)&&(!(m.fs.getD (iU m s) fr0).u||decide (m.fs.length≤s))
def ik (m:Mem):Nat:=((List.range (2*m.fs.length)).find? (wh m)).getD 0
def fM (m:Mem):Mem:=if bL m≠0 then noM else if mI m.fs=m.fs.length then m else ⟨nS m (ik m),(iU m (ik m+1):Nat)⟩
def iM (m:Mem):Int:=if bL m≠0 then 0 else if mI m.fs=m.fs.length then -1 else (iU m (ik m):Nat)
theorem oh {m:Mem} (h:0<m.fs.length) (s:Nat):iU m s<m.fs.length:=qx _ h
theorem iP (m:Mem) (s:Nat):(nS m s).length=m.fs.length:=by simp[nS]
theorem uM (m:Mem) (s i:Nat) (hi:i<m.fs.length):(nS m s)[i]'(by rw[iP];exact hi)=if BL m s i then unused m.fs[i] else m.fs[i]:=by simp[nS]
theorem Qp (m:Mem) (s i:Nat):BL m (s+1) i=(BL m s i||iU m s==i):=by simp[BL,xn]
theorem RZ (m:Mem):nS m 0=m.fs:=by
 apply tO
 ·rw[iP]
 intro i h1 h2;rw[uM m 0 i h2];rfl
theorem RB (m:Mem) (s:Nat) (h:0<m.fs.length):(nS m s).set (iU m s) (unused ((nS m s)[iU m s]'(by rw[iP];exact oh h s)))=nS m (s+1):=by
 apply tO
 ·simp[iP]
 intro i h1 h2;have hi:i<m.fs.length:=by rw[iP] at h2;exact h2
 rw[CQ,uM m (s+1) i hi,Qp]
 by_cases e:iU m s=i
 ·subst e;rw[if_pos rfl,uM m s _ hi];cases BL m s (iU m s)<;>simp[unused]
 rw[if_neg e,uM m s i hi];have:(iU m s==i)=false:=by simpa using e
 rw[this,Bool.or_false]
theorem RO (m:Mem) (s:Nat) (h:0<m.fs.length):BL m s (iU m s)=decide (m.fs.length≤s):=by
 rw[lT];simp only[BL,iX,dE,beq_iff_eq,decide_eq_true_eq];constructor
 ·rintro⟨t,ht,he⟩;unfold iU at he;rcases fG s m.fs.length with hs|hs
  ·exfalso;have h1:(m.hand.toNat+s)%m.fs.length=(m.hand.toNat+t+(s-t))%m.fs.length:=by congr 1;omega
   rw[h1,Nat.add_mod (m.hand.toNat+t) (s-t)] at he;have h2:(s-t)%m.fs.length=s-t:=qy (by omega);rw[h2] at he;have h3:=qx (m.hand.toNat+t) h;generalize (m.hand.toNat+t)%m.fs.length=x at *
   rcases fG (x+(s-t)) m.fs.length with h4|h4
   ·rw[qy h4] at he;omega
   ·rw[Nat.mod_eq_sub_mod h4,qy (by omega)] at he;omega
  ·exact hs
 intro hs;refine⟨s-m.fs.length,by omega,?_⟩;unfold iU;have:m.hand.toNat+s=(m.hand.toNat+(s-m.fs.length))+m.fs.length:=by omega
 rw[this,Cg]
theorem VO (m:Mem) (s:Nat) (h:0<m.fs.length):(nS m s)[iU m s]'(by rw[iP];exact oh h s)=if m.fs.length≤s then unused (m.fs[iU m s]'(oh h s)) else m.fs[iU m s]'(oh h s):=by
 rw[uM m s _ (oh h s),RO m s h];simp
theorem TG (m:Mem) (s:Nat) (h:0<m.fs.length):wh m s=(decide (0<((nS m s)[iU m s]'(by rw[iP];exact oh h s)).r)&&!((nS m s)[iU m s]'(by rw[iP];exact oh h s)).u):=by
 rw[VO m s h];unfold wh;rw[show m.fs.getD (iU m s) fr0=m.fs[iU m s]'(oh h s) from by simp[oh h s]]
 by_cases hs:m.fs.length≤s
 ·rw[if_pos hs];simp[hs,unused];rfl
 ·rw[if_neg hs];simp[hs]
theorem OC (l:List Fr):mI l=l.length↔∀f∈l,f.r=0:=by
 unfold mI;rw[List.length_filter_eq_length_iff];simp
theorem stops (m:Mem) (hw:bL m=0) (hf:mI m.fs≠m.fs.length):∃s,s<2*m.fs.length∧wh m s=true:=by
 obtain⟨_,c,hh,_⟩:=(eH m).1 hw;rw[Ne,OC] at hf;obtain⟨f,d⟩:=Classical.not_forall.1 hf;obtain⟨hm,hr⟩:=Classical.not_imp.1 d;obtain⟨i,hi,rfl⟩:=jC.1 hm;have e:=((iH _).1 (c _ hm)).1.1;have a:0<m.fs.length:=by omega
 have hx:=qx m.hand.toNat a;refine⟨(i+m.fs.length-m.hand.toNat%m.fs.length)%m.fs.length+m.fs.length,by have:=qx (i+m.fs.length-m.hand.toNat%m.fs.length) a;omega,?_⟩;have b:iU m ((i+m.fs.length-m.hand.toNat%m.fs.length)%m.fs.length+m.fs.length)=i:=by
  unfold iU;rw[←mZ,Cg,Nat.add_mod,Nat.mod_mod];generalize m.hand.toNat%m.fs.length=x at *
  rcases fG i x with h|h
  ·rw[qy (show i+m.fs.length-x<m.fs.length by omega)];rw[show x+(i+m.fs.length-x)=i+m.fs.length from by omega,Cg,qy hi]
  have h3:i+m.fs.length-x=(i-x)+m.fs.length:=by omega
  rw[h3,Cg,qy (show i-x<m.fs.length by omega),show x+(i-x)=i from by omega,qy hi]
 unfold wh;rw[b];have:m.fs.getD i fr0=m.fs[i]:=by simp[hi]
 rw[this];have h1:0<m.fs[i].r:=by omega
 have h2:m.fs.length≤(i+m.fs.length-m.hand.toNat%m.fs.length)%m.fs.length+m.fs.length:=by omega
 simp[h1,h2]
theorem QI (m:Mem) (hw:bL m=0) (hf:mI m.fs≠m.fs.length):ik m<2*m.fs.length∧wh m (ik m)=true∧∀t,t<ik m→wh m t=false:=by
 obtain⟨s,hs,a⟩:=stops m hw hf;unfold ik;cases hfd:(List.range (2*m.fs.length)).find? (wh m) with
 | none=>
  rw[oC] at hfd;exact absurd a (hfd s (dE.2 hs))
 | some r=>
  rw[IZ] at hfd;obtain⟨h1,h2,h3⟩:=hfd;exact⟨dE.1 h2,h1,fun t ht=>by simpa using h3 t ht⟩
structure En where
 k:Int
 n:Int
 w:Bool
 deriving DecidableEq
def zEn:En:=⟨0,0,false⟩
abbrev Tb:=Vector (List En) 8
def eX (e:En):Int:=if e.k<0∨2<e.k then 1 else if e.n<0∨40≤e.n∧e.k=1∨60≤e.n then 3 else if e.k=0∧(e.n≠0∨e.w=true)∨e.k=2∧e.w=true then 7 else 0
def lI (h:List En):Int:=if h.length≠0∧h.length≠8 then 2 else if firstE (h.map eX)≠0 then firstE (h.map eX) else if 0<h.length∧h.any (fun e=>decide (e.k≠0))=false then 2 else 0
def cB (t:Tb):Int:=firstE (t.toList.map lI)
def xU (h:List En) (k:Nat):Bool:=(h.take k).any (fun e=>decide (e.k≠0))
theorem Qt (h:List En):xU h 0=false:=rfl
theorem FM (h:List En) (k:Nat) (hk:k<h.length):xU h (k+1)=(xU h k||decide (h[k].k≠0)):=by
 unfold xU;rw[mV,List.any_append,aH hk];simp
theorem JH (h:List En) (k:Nat) (hk:h.length≤k):xU h k=h.any (fun e=>decide (e.k≠0)):=by
 unfold xU;rw[iN hk]
theorem wH {t:Tb} (h:∀i (hi:i<8),lI t[i]=0):cB t=0:=sK fun i hi=>by simpa using h i (by simpa using hi)
theorem qK {t:Tb} (k:Nat) (hk:k<8) (h:∀i (hi:i<8),i<k→lI t[i]=0) (hne:lI t[k]≠0):cB t=lI t[k]:=by
 have:=xu (l:=t.toList.map lI) k (by simpa using hk) (fun i hi a=>by simpa using h i (by simpa using hi) a) (by simpa using hne);rw[cB,this];simp
theorem yh {h:List En} (h1:h.length≠0∧h.length≠8):lI h=2:=by unfold lI;rw[if_pos h1]
theorem zT {h:List En} (h1:h.length=0∨h.length=8) (k:Nat) (hk:k<h.length) (hp:∀i (hi:i<h.length),i<k→eX h[i]=0) (hne:eX h[k]≠0):lI h=eX h[k]:=by
 have:=xu (l:=h.map eX) k (by simpa using hk) (fun i hi a=>by simpa using hp i (by simpa using hi) a) (by simpa using hne);have e:firstE (h.map eX)=eX h[k]:=by rw[this];simp
 unfold lI;rw[if_neg (by omega),e,if_pos hne]
theorem xk {h:List En} (h1:h.length=0∨h.length=8) (hp:∀i (hi:i<h.length),eX h[i]=0):lI h=if 0<h.length∧h.any (fun e=>decide (e.k≠0))=false then 2 else 0:=by
 have:=sK (l:=h.map eX) (fun i hi=>by simpa using hp i (by simpa using hi));unfold lI;rw[if_neg (by omega),this,if_neg (by omega)]
def Fu (t:Tb):Prop:=∀k (h:k<8),t[k].length*24≤140737488355328
def dH (t:Tb) (n:Int):En:=if h:0≤n∧n<64 then (if (t[n.toNat / 8]'(by omega)).length=8 then (t[n.toNat / 8]'(by omega)).getD (n.toNat%8) zEn else zEn) else zEn
theorem qN {t:Tb} {n:Int} (h:n<0∨64≤n):dH t n=zEn:=by unfold dH;rw[dif_neg (by omega)]
theorem zu {t:Tb} (hq:q<8) (hr:r<8):dH t ((8*q+r:Nat):Int)=if t[q].length=8 then t[q].getD r zEn else zEn:=by
 unfold dH;rw[dif_pos (by omega)];have e1:(((8*q+r:Nat):Int).toNat / 8)=q:=by rw[bR];omega
 have e2:(((8*q+r:Nat):Int).toNat%8)=r:=by rw[bR];omega
 simp only[e1,e2]
theorem xz {n:Int} (h:0≤n∧n<64):∃q r:Nat,q<8∧r<8∧n=((8*q+r:Nat):Int)∧n / 8=(q:Int)∧n%8=(r:Int):=by
 refine⟨(n / 8).toNat,(n%8).toNat,by omega,by omega,by omega,by omega,by omega⟩
def oN (e:En):Bool:=decide (e.k≠0)
def setE (t:Tb) (n:Int) (e:En):Int:=if cB t≠0 then cB t else if n<0∨64≤n then 3 else eX e
def Va (h:List En):List En:=if h.any oN then h else []
def setH (h:List En) (r:Nat) (e:En):List En:=Va ((if h.length=0 then List.replicate 8 zEn else h).set r e)
def zTb:Tb:=Vector.replicate 8 []
def setT (t:Tb) (n:Int) (e:En):Tb:=if h:(0≤n∧n<64)∧setE t n e=0 then t.set (n.toNat / 8) (setH (t[n.toNat / 8]'(by omega)) (n.toNat%8) e) (by omega) else zTb
theorem wo {t:Tb} {n:Int} {e:En} (h:setE t n e≠0):setT t n e=zTb:=by unfold setT;rw[dif_neg (fun h'=>h h'.2)]
theorem NW {t:Tb} {n:Int} {e:En} (h:setE t n e=0) (hq:q<8) (hr:r<8) (hn:n=((8*q+r:Nat):Int)):setT t n e=t.set q (setH t[q] r e):=by
 unfold setT;subst hn;rw[dif_pos ⟨by omega,h⟩];have e1:(((8*q+r:Nat):Int).toNat / 8)=q:=by rw[bR];omega
 have e2:(((8*q+r:Nat):Int).toNat%8)=r:=by rw[bR];omega
 simp only[e1,e2]
theorem oL {h:List En} (h0:lI h=0):h.length=0∨h.length=8:=by
 by_cases e:h.length≠0∧h.length≠8
 ·rw[yh e] at h0;cases h0
 ·omega
theorem lF {t:Tb} (h:cB t=0) (k:Nat) (hk:k<8):lI t[k]=0:=by
 have key:∀(l:List Int),firstE l=0→∀x∈l,x=0:=by
  intro l
  induction l with
  | nil=>intro _ x hx;cases hx
  | cons y r ih=>
   intro h x hx
   by_cases e:y=0
   ·simp only[firstE,e,if_true] at h;rcases bZ.1 hx with rfl|hx
    ·exact e
    ·exact ih h x hx
   ·simp only[firstE,e,if_false] at h
 exact key _ h _ (gW.2 ⟨t[k],by simp,rfl⟩)
def jr (t:Tb) (k:Nat):List Int:=((List.range k).filter fun n:Nat=>oN (dH t (n:Int))).map fun n:Nat=>(n:Int)
def aP (t:Tb):List Int:=jr t 64
theorem qO (t:Tb) (k:Nat):(jr t k).length≤k:=by
 unfold jr;rw[fo];exact bi (zR _ _) (by simp)
theorem Kb {t:Tb} (h:oN (dH t (k:Int))=true):jr t (k+1)=jr t k++[(k:Int)]:=by
 unfold jr;rw[xn,uT,jb];simp[h]
theorem Mk {t:Tb} (h:oN (dH t (k:Int))=false):jr t (k+1)=jr t k:=by
 unfold jr;rw[xn,uT,jb];simp[h]
structure Ce (p:Int→Bool) (l:List Int) (j i:Nat) (cur:List Int):Prop where
 len:cur.length=l.length
 lt:i<j
 le:j≤l.length
 done:cur.take i=(l.take j).filter (fun x => !p x)
 rest:∀t,j≤t→cur[t]?=l[t]?
theorem Ce.start {p:Int→Bool} (hi:i<l.length) (he:p l[i]=true) (hno:∀j (h:j<l.length),j<i→p l[j]=false):Ce p l (i+1) i l:=by
 refine⟨rfl,by omega,by omega,?_,fun _ _=>rfl⟩;rw[mV,uT,aH hi,Option.toList];have h1:(l.take i).filter (fun q => !p q)=l.take i:=by rw[List.filter_eq_self];intro q hq;obtain⟨j,hj,rfl⟩:=jC.1 hq;simp only[lC] at hj;rw[List.getElem_take];simpa using hno j (by omega) (by omega)
 simp[h1,he]
theorem Ce.keep {p:Int→Bool} {cur:List Int} (h:Ce p l j i cur) (hj:j<l.length) (hne:p l[j]=false):Ce p l (j+1) (i+1) (cur.set i l[j]):=by
 have h1:=h.lt;have h2:=h.len;refine⟨by simp[h.len],by omega,by omega,?_,fun t ht => ?_⟩
 ·have hi:i<cur.length:=by omega
  rw[mV,vC hi,Option.toList,List.take_set_of_le (ay _),h.done];rw[mV,uT,aH hj,Option.toList];simp[hne]
 rw[sQ (by omega)];exact h.rest t (by omega)
theorem Ce.skip {p:Int→Bool} {cur:List Int} (h:Ce p l j i cur) (hj:j<l.length) (he:p l[j]=true):Ce p l (j+1) i cur:=by
 have h1:=h.lt;refine⟨h.len,by omega,by omega,?_,fun t ht=>h.rest t (by omega)⟩;rw[h.done];rw[mV,uT,aH hj,Option.toList];simp[he]
theorem Ce.all {p:Int→Bool} (h:∀i (h:i<l.length),p l[i]=false):l.filter (fun x => !p x)=l:=by
 rw[List.filter_eq_self];intro q hq;obtain⟨j,hj,rfl⟩:=jC.1 hq;simpa using h j hj
def pW (t:Tb) (kind k:Int) (n:Int):Bool:=decide ((dH t n).k≠kind)||decide ((dH t n).n≠k)
def nY (t:Tb) (kind k:Int):List Int:=(aP t).filter fun n => !pW t kind k n
theorem Sy {h:List En} (hj:j<h.length) (hc:c=0↔xU h j=false) (h0:0≤h[j].k):((0<h[j].k)→(c+1=0↔xU h (j+1)=false))∧(¬0<h[j].k→(c=0↔xU h (j+1)=false)):=by
 rw[FM h j hj];constructor
 ·intro hp;have:decide (h[j].k≠0)=true:=by simp;omega
  simp[this]
 intro hp;have:decide (h[j].k≠0)=false:=by simp;omega
 simp[this,hc]
theorem Vq (f g:En):(f==g)=(f.k==g.k&&(f.n==g.n&&f.w==g.w)):=by
 cases f;cases g;rw[lT];simp
def FQ (t u:Tb):Bool:=decide (t=u)
theorem FY {t u:Tb} (k:Nat) (hk:k<8) (h:t[k]≠u[k]):FQ t u=false:=by
 unfold FQ;rw[decide_eq_false_iff_not];rintro rfl;exact h rfl
theorem GK {t u:Tb} (h:∀i (hi:i<8),t[i]=u[i]):FQ t u=true:=by
 unfold FQ;rw[decide_eq_true_eq];exact xJ h
def dB (t:Tb):List En:=(List.range 64).map fun n:Nat=>dH t (n:Int)
structure La (t:Tb) (m:Nat) (l:List En):Prop where
 len:l.length=64
 at' : ∀n (h:n<64),l[n]?=some (if n<m then dH t (n:Int) else zEn)
theorem La.start {t:Tb}:La t 0 (List.replicate 64 zEn):=⟨jD,fun n h=>by rw[nI,if_pos h,if_neg (dV _)]⟩
theorem La.step {t:Tb} {m:Nat} {l:List En} (h:La t m l) (hm:m<64) {E:En} (hE:dH t (m:Int)=E):La t (m+1) (l.set m E):=by
 refine⟨by simp[h.len],fun n hn => ?_⟩
 by_cases e:n=m
 ·subst e;rw[vC (by rw[h.len];exact hn),if_pos (by omega),hE]
 rw[sQ (fun e2=>e e2.symm),h.at' n hn];congr 1
 by_cases e2:n<m
 ·rw[if_pos e2,if_pos (by omega)]
 ·rw[if_neg e2,if_neg (by omega)]
theorem AB {t:Tb} (hq:q<8) (hr:r<8) (h:t[q].length=0):dH t ((8*q+r:Nat):Int)=zEn:=by
 rw[zu hq hr,if_neg (by omega)]
theorem FR {t:Tb} (hq:q<8) (hr:r<8) (h:t[q].length=8) {E:En} (hE:t[q][r]?=some E):dH t ((8*q+r:Nat):Int)=E:=by
 rw[zu hq hr,if_pos h,aS,hE];rfl
theorem La.skip {t:Tb} {l:List En} (h:La t (8*q) l) (hq:q<8) (h0:t[q].length=0):La t (8*(q+1)) l:=by
 refine⟨h.len,fun n hn => ?_⟩;rw[h.at' n hn];congr 1
 by_cases e2:n<8*q
 ·rw[if_pos e2,if_pos (by omega)]
 rw[if_neg e2]
 by_cases e3:n<8*(q+1)
 ·rw[if_pos e3];obtain⟨r,rfl⟩:∃r,n=8*q+r:=⟨n-8*q,by omega⟩;exact (AB hq (by omega) h0).symm
 ·rw[if_neg e3]
theorem La.fin {t:Tb} {l:List En} (h:La t 64 l):l=dB t:=by
 apply mR;intro n;unfold dB
 by_cases hn:n<64
 ·rw[h.at' n hn,if_pos hn];simp[hn]
 ·rw[dI (by rw[h.len];omega),dI (by simp;omega)]
def Hr (e:En):Bool:=decide (0<e.k)
def lh (l:List En) (i:Nat):List En:=(l.drop (8*i)).take 8
def mf (l:List En) (i:Nat):List En:=if (lh l i).any Hr then lh l i else []
def fU (l:List En):Tb:=Vector.ofFn fun i:Fin 8=>mf l i.val
def xZ (l:List En) (i k:Nat):Bool:=((l.drop (8*i)).take k).any Hr
theorem JX {l:List En} (hl:l.length=64) (hi:i<8) (hk:k<8):∃E,l[8*i+k]?=some E∧(l.drop (8*i)).take (k+1)=(l.drop (8*i)).take k++[E]:=by
 refine⟨l[8*i+k]'(by omega),aH (by omega),?_⟩;rw[mV,rO,aH (by omega)];rfl
theorem Dn {l:List En} (hl:l.length=64) (hi:i<8) (hk:k≤8):((l.drop (8*i)).take k).length=k:=by
 simp;omega
structure Fw (l:List En) (i:Nat) (h:List En) (t:Tb):Prop where
 lo:∀j (hj:j<8),j<i→t[j]=mf l j
 at' : ∀(hi:i<8),t[i]=h
 hi:∀j (hj:j<8),i<j→t[j]=[]
theorem Fw.start {l:List En}:Fw l 0 [] zTb:=⟨fun _ _ h=>absurd h (dV _),fun _=>by simp[zTb],fun j hj _=>by simp[zTb]⟩
theorem Fw.next {l:List En} {t:Tb} (h:Fw l i (mf l i) t) (hi:i<8):Fw l (i+1) [] t:=by
 refine⟨fun j hj a => ?_,fun h2=>h.hi _ h2 (by omega),fun j hj a=>h.hi j hj (by omega)⟩
 by_cases e:j=i
 ·subst e;exact h.at' hj
 ·exact h.lo j hj (by omega)
theorem Fw.set {l:List En} {h h2:List En} {t:Tb} (hh:Fw l i h t) (hi:i<8):Fw l i h2 (t.set i h2):=
 ⟨fun j hj hji=>by rw[wT hi hj (by omega)];exact hh.lo j hj hji,fun _=>by simp,fun j hj hji=>by rw[wT hi hj (by omega)];exact hh.hi j hj hji⟩
theorem Fw.fin {l:List En} {h:List En} {t:Tb} (hh:Fw l 8 h t):t=fU l:=by
 apply xJ;intro i hi;rw[hh.lo i hi hi];simp[fU]
theorem Uc {l:List En} (h:xZ l i 8=false):mf l i=[]:=by
 unfold mf lh;unfold xZ at h;rw[h];rfl
theorem QZ {l:List En} (h:xZ l i 8=true):mf l i=(l.drop (8*i)).take 8:=by
 unfold mf lh;unfold xZ at h;rw[h];rfl
structure Fi where
 n:Int
 b:List Int
 deriving DecidableEq
structure St where
 fs:List Fi
 count:Int
 deriving DecidableEq
theorem wX {n:Int} (h:n≤96):dW n≤12:=by unfold dW;split<;>omega
def gH (c:Int):List Int→List Int→Int
 | _,[]=>0
 | seen,b::r=>if b < -1∨c≤b then 3 else if 0≤b∧b∈seen then 7 else gH c (seen++[b]) r
def nO (c:Int):List Int→List Fi→Int
 | _,[]=>0
 | seen,f::r=>if f.n<0∨96<f.n then 3 else if (f.b.length:Int)≠dW f.n then 2 else if gH c seen f.b≠0 then gH c seen f.b else nO c (seen++f.b) r
theorem vk (c:Int) (seen:List Int) (b:Int) (r:List Int):gH c seen (b::r)=if b < -1∨c≤b then 3 else if 0≤b∧b∈seen then 7 else gH c (seen++[b]) r:=rfl
def aO (s:St):Int:=if 5<s.fs.length∨s.count<0∨80<s.count then 4 else nO s.count [] s.fs
def rW (l:List Int) (j:Int):Bool:=decide (j∈l)
theorem DT (l:List Int) (b:Int):(fun i=>rW l i||decide (i=b))=rW (l++[b]):=by
 funext i;unfold rW;rw[lT];simp
theorem drop_at {α:Type} {l:List α} {x:α} (h:l[k]?=some x):l.drop k=x::l.drop (k+1):=by
 have hk:=(cK.1 h).1;rw[vv hk,(cK.1 h).2]
theorem take_at {α:Type} {l:List α} {x:α} (h:l[k]?=some x):l.take (k+1)=l.take k++[x]:=by
 rw[mV,h];rfl
def newE (n:Int):Int:=if n<0∨80<n then 4 else 0
def Ug (n:Int):Int:=if n<0∨80<n then 0 else n
def kE (s:St):List Int:=s.fs.flatMap Fi.b
def WS (l:List Int):Nat:=(l.filter fun x=>decide (0≤x)).length
def yw (s:St):Int:=s.count-WS (kE s)
def gL (s:St) (b:Int):Bool:=decide (b∈kE s)
theorem Uq (l:List Int) (x:Int):l.any (fun y=>decide (x=y))=decide (x∈l):=by
 rw[lT,iX,decide_eq_true_eq];constructor
 ·rintro⟨y,hy,h⟩;rw[of_decide_eq_true h];exact hy
 ·intro h;exact⟨x,h,decide_eq_true rfl⟩
def gK (s:St):Int:=match (List.range s.count.toNat).find? (fun b:Nat => !gL s b) with
 | some b=>b
 | none => -1
theorem Ot {s:St} (hb:(b:Int)<s.count) (h:∀i:Nat,i<b→gL s i=true) (hf:gL s b=false):gK s=b:=by
 unfold gK;have:(List.range s.count.toNat).find? (fun b:Nat => !gL s b)=some b:=by rw[IZ];exact⟨by simp[hf],dE.2 (by omega),fun j hj=>by simp[h j hj]⟩
 rw[this]
theorem Jo {s:St} (h:∀i:Nat,(i:Int)<s.count→gL s i=true):gK s = -1:=by
 unfold gK;have:(List.range s.count.toNat).find? (fun b:Nat => !gL s b)=none:=by rw[oC];intro i hi;have:=dE.1 hi;simp[h i (by omega)]
 rw[this]
def zSt:St:=⟨[],0⟩
theorem jY {s:St} (h:aO s=0):s.fs.length≤5∧0≤s.count∧s.count≤80:=by
 unfold aO at h
 by_cases g:5<s.fs.length∨s.count<0∨80<s.count
 ·rw[if_pos g] at h;cases h
 ·omega
theorem Eu {c:Int}:∀ {fs:List Fi} {seen:List Int},nO c seen fs=0→∀f∈fs,0≤f.n∧f.n≤96∧(f.b.length:Int)=dW f.n∧∀b∈f.b,-1≤b∧b<c
 | f0::r,seen,h,f,hf=>by
  unfold nO at h
  by_cases g1:f0.n<0∨96<f0.n
  ·rw[if_pos g1] at h;cases h
  rw[if_neg g1] at h
  by_cases g2:(f0.b.length:Int)≠dW f0.n
  ·rw[if_pos g2] at h;cases h
  rw[if_neg g2] at h
  by_cases g3:gH c seen f0.b≠0
  ·rw[if_pos g3] at h;exact absurd h g3
  rw[if_neg g3] at h;rcases bZ.1 hf with rfl|hf
  ·refine⟨by omega,by omega,uf.1 g2,?_⟩;have key:∀(l:List Int) (sn:List Int),gH c sn l=0→∀b∈l,-1≤b∧b<c:=by
    intro l
    induction l with
    | nil=>intro _ _ b hb;cases hb
    | cons x r ih=>
     intro sn h b hb;rw[vk] at h
     by_cases k1:x < -1∨c≤x
     ·rw[if_pos k1] at h;cases h
     rw[if_neg k1] at h
     by_cases k2:0≤x∧x∈sn
     ·rw[if_pos k2] at h;cases h
     rw[if_neg k2] at h;rcases bZ.1 hb with rfl|hb
     ·omega
     ·exact ih _ h b hb
   exact key _ _ (uf.1 g3)
  ·exact Eu h f hf
theorem vg {s:St} (h:aO s=0):∀f∈s.fs,0≤f.n∧f.n≤96∧(f.b.length:Int)=dW f.n∧∀b∈f.b,-1≤b∧b<s.count:=by
 have h1:=jY h;unfold aO at h;rw[if_neg (by omega)] at h;exact Eu h
def aK (s:St) (k:Int):Fi:=if 0≤k then s.fs.getD k.toNat ⟨0,[]⟩ else ⟨0,[]⟩
def zL (s:St) (k:Int) (f:Fi):St:=⟨s.fs.set k.toNat f,s.count⟩
def aX (s:St) (k i:Int):Int:=(aK s k).b.getD i.toNat 0
def dw (s:St) (k i:Int):Int:=
 if aO s≠0 then aO s else if k<0∨(s.fs.length:Int)≤k then 5 else if i<0∨((aK s k).b.length:Int)≤i then 9
 else if aX s k i<0∧gK s<0 then 10 else 0
def dD (s:St) (k i:Int):Int:=if dw s k i≠0 then 0 else if aX s k i<0 then gK s else aX s k i
def dJ (s:St) (k i:Int):St:=if dw s k i≠0 then zSt else if aX s k i<0 then zL s k ⟨(aK s k).n,(aK s k).b.set i.toNat (gK s)⟩ else s
theorem wS {s:St} {k i e:Int} (h:dw s k i=e) (he:e≠0):dw s k i=e∧dD s k i=0∧dJ s k i=zSt:=by
 refine⟨h,?_,?_⟩
 ·unfold dD;rw[if_pos (by rw[h];exact he)]
 ·unfold dJ;rw[if_pos (by rw[h];exact he)]
theorem PY {s:St} (h:s.count≤80):gK s<80∧-1≤gK s:=by
 unfold gK;cases hf:(List.range s.count.toNat).find? (fun b:Nat => !gL s b) with
 | none=>simp
 | some b=>
  have:=dE.1 (tZ hf);simp;omega
def ku (l:List Int):List Int:=l.filter fun x=>decide (0≤x)
theorem uo (l m:List Int):ku (l++m)=ku l++ku m:=uT _ _
theorem iW {x:Int}:x∈ku l↔x∈l∧0≤x:=by unfold ku;simp
theorem Bj {c:Int}:∀ {l seen:List Int},gH c seen l=0↔(∀b∈l,-1≤b∧b<c)∧(ku l).Nodup∧∀b∈l,0≤b→¬b∈seen
 | [],seen=>by simp[gH,ku]
 | x::r,seen=>by
  rw[vk]
  by_cases k1:x < -1∨c≤x
  ·rw[if_pos k1];refine⟨fun h=>(by cases h),fun h => ?_⟩;have:=h.1 x gV;omega
  rw[if_neg k1]
  by_cases k2:0≤x∧x∈seen
  ·rw[if_pos k2];refine⟨fun h=>(by cases h),fun h=>absurd k2.2 (h.2.2 x gV k2.1)⟩
  rw[if_neg k2,Bj (l:=r)];have hp:ku (x::r)=if 0≤x then x::ku r else ku r:=by unfold ku;rw[Il];simp
  rw[hp];constructor
  ·intro ⟨h1,h2,h3⟩;refine⟨fun b hb => ?_,?_,fun b hb h0 hs => ?_⟩
   ·rcases bZ.1 hb with rfl|hb
    ·omega
    ·exact h1 b hb
   ·by_cases hx:0≤x
    ·rw[if_pos hx];refine sF.2 ⟨fun hm => ?_,h2⟩;exact h3 x (iW.1 hm).1 hx (tC _ (bv.2 rfl))
    ·rw[if_neg hx];exact h2
   rcases bZ.1 hb with rfl|hb
   ·exact k2 ⟨h0,hs⟩
   ·exact h3 b hb h0 (oG _ hs)
  intro ⟨h1,h2,h3⟩;refine⟨fun b hb=>h1 b (ji _ hb),?_,fun b hb h0 hs => ?_⟩
  ·by_cases hx:0≤x
   ·rw[if_pos hx] at h2;exact (sF.1 h2).2
   ·rw[if_neg hx] at h2;exact h2
  rcases fO.1 hs with hs|hs
  ·exact h3 b (ji _ hb) h0 hs
  rw[bv.1 hs] at hb h0;rw[if_pos h0] at h2;exact (sF.1 h2).1 (iW.2 ⟨hb,h0⟩)
def EK (c:Int) (f:Fi):Prop:=0≤f.n∧f.n≤96∧(f.b.length:Int)=dW f.n∧∀b∈f.b,-1≤b∧b<c
theorem Gu {c:Int}:∀ {fs:List Fi} {seen:List Int},nO c seen fs=0↔(∀f∈fs,EK c f)∧(ku (fs.flatMap Fi.b)).Nodup∧∀b∈fs.flatMap Fi.b,0≤b→¬b∈seen
 | [],seen=>by simp[nO,ku]
 | f::r,seen=>by
  unfold nO
  by_cases g1:f.n<0∨96<f.n
  ·rw[if_pos g1];refine⟨fun h=>(by cases h),fun h => ?_⟩;have:=h.1 f gV;unfold EK at this;omega
  rw[if_neg g1]
  by_cases g2:(f.b.length:Int)≠dW f.n
  ·rw[if_pos g2];exact⟨fun h=>(by cases h),fun h=>absurd (h.1 f gV).2.2.1 g2⟩
  rw[if_neg g2,lX,uo]
  by_cases g3:gH c seen f.b≠0
  ·rw[if_pos g3];refine⟨fun h=>absurd h g3,fun h=>absurd (Bj.2 ⟨(h.1 f gV).2.2.2,(xm.1 h.2.1).1,fun b hb=>h.2.2 b (oG _ hb)⟩) g3⟩
  rw[if_neg g3,Gu (fs:=r)];have g3':=Bj.1 (uf.1 g3);constructor
  ·intro ⟨h1,h2,h3⟩;refine⟨fun x hx => ?_,xm.2 ⟨g3'.2.1,h2,fun a ha b hb e => ?_⟩,fun b hb h0 hs => ?_⟩
   ·rcases bZ.1 hx with rfl|hx
    ·exact⟨by omega,by omega,uf.1 g2,g3'.1⟩
    ·exact h1 x hx
   ·subst e;exact h3 a (iW.1 hb).1 (iW.1 hb).2 (tC _ (iW.1 ha).1)
   rcases fO.1 hb with hb|hb
   ·exact g3'.2.2 b hb h0 hs
   ·exact h3 b hb h0 (oG _ hs)
  intro ⟨h1,h2,h3⟩;obtain⟨n1,n2,n3⟩:=xm.1 h2;refine⟨fun x hx=>h1 x (ji _ hx),n2,fun b hb h0 hs => ?_⟩;rcases fO.1 hs with hs|hs
  ·exact h3 b (tC _ hb) h0 hs
  ·exact n3 b (iW.2 ⟨hs,h0⟩) b (iW.2 ⟨hb,h0⟩) rfl
theorem kZ {s:St}:aO s=0↔(s.fs.length≤5∧0≤s.count∧s.count≤80)∧(∀f∈s.fs,EK s.count f)∧(ku (kE s)).Nodup:=by
 unfold aO
 by_cases g:5<s.fs.length∨s.count<0∨80<s.count
 ·rw[if_pos g];exact⟨fun h=>(by cases h),fun h=>by omega⟩
 rw[if_neg g,Gu];exact⟨fun h=>⟨by omega,h.1,h.2.1⟩,fun h=>⟨h.2.1,h.2.2,fun b _ _ hm=>by cases hm⟩⟩
def wN (N:Nat) (seen:List Int):List Bool:=(List.range N).map fun i:Nat=>decide ((i:Int)∈seen)
theorem yX (N:Nat) (seen:List Int):(wN N seen).length=N:=by simp[wN]
theorem Rb (N:Nat):wN N []=List.replicate N false:=by
 apply mR;intro i;unfold wN
 by_cases hi:i<N
 ·simp[hi,nI]
 ·rw[dI (by simp;omega),dI (by simp;omega)]
theorem Ig (N:Nat) (seen:List Int) (i:Nat) (hi:i<N):(wN N seen)[i]?=some (decide ((i:Int)∈seen)):=by simp[wN,hi]
theorem SG (N:Nat) (seen:List Int) (x:Int) (hx:x<0):wN N (seen++[x])=wN N seen:=by
 unfold wN;apply uK;intro i _;have:¬(i:Int)=x:=by omega
 simp[this]
theorem Rc (N:Nat) (seen:List Int) (X:Nat) (hX:X<N):(wN N seen).set X true=wN N (seen++[(X:Int)]):=by
 apply mR;intro i
 by_cases hi:i<N
 ·rw[Ig N _ i hi,kW]
  by_cases e:X=i
  ·subst e;rw[if_pos rfl,if_pos (by rw[yX];exact hi)];simp
  rw[if_neg e,Ig N _ i hi];have:¬(i:Int)=(X:Int):=by omega
  simp[this]
 ·rw[dI (by simp[yX];omega),dI (by simp[yX];omega)]
structure Ar where
 fr:Int
 en:Int
 rd:Bool
 wr:Bool
 sh:Bool
 fi:Int
 ba:Int
 deriving DecidableEq
def aQ (a:Ar):Int:=if a.fr<0∨a.en≤a.fr∨64<a.en∨a.fi < -1∨5≤a.fi∨a.ba<0 then 3 else if (a.fi<0∧(a.ba≠0∨a.sh=true))∨0≤a.fi∧12-(a.en-a.fr)<a.ba then 7 else 0
def jE (a:Ar):Int:=if 0≤a.fi then a.ba+a.en-a.fr else 0
def dz (a b:Ar):Bool:=a.en==b.fr&&a.rd==b.rd&&a.wr==b.wr&&a.sh==b.sh&&a.fi==b.fi&&b.ba==jE a
def BG (a:Ar):Prop:=(0≤a.ba∧a.ba≤12)∧(0≤a.fr∧a.fr≤64)∧0≤a.en∧a.en≤64
theorem bD {a:Ar} (h:aQ a=0):BG a∧a.fr<a.en∧-1≤a.fi∧a.fi<5∧(a.fi<0→a.ba=0∧a.sh=false)∧(0≤a.fi→a.ba≤12-(a.en-a.fr)):=by
 unfold aQ at h;split at h
 ·omega
 rename_i h1;split at h
 ·omega
 rename_i h2;have hs:a.fi<0→a.ba=0∧a.sh=false:=fun hf=>⟨Decidable.byContradiction fun h=>h2 (.inl ⟨hf,.inl h⟩),by
  cases hsh:a.sh
  ·rfl
  ·exact absurd (.inl ⟨hf,.inr hsh⟩) h2⟩
 have hb:0≤a.fi→a.ba≤12-(a.en-a.fr):=fun hf=>by omega
 unfold BG;refine⟨⟨⟨by omega,?_⟩,by omega,by omega,by omega⟩,by omega,by omega,by omega,hs,hb⟩
 by_cases hf:a.fi<0
 ·have:=(hs hf).1;omega
 ·have:=hb (by omega);omega
def jd (p:Option Ar) (i:Nat):List Ar→Int × Int
 | []=>(0,0)
 | a::r=>if aQ a≠0 then (aQ a,i) else if (match p with | some q=>decide (a.fr<q.en)||dz q a | none=>false) then (2,i) else jd (some a) (i+1) r
def bI (l:List Ar):Int × Int:=if 16<l.length then (4,0) else jd none 0 l
def pO (l:List Ar) (k:Nat):Option Ar:=if k=0 then none else l[k-1]?
theorem Dw {l:List Ar} (hk:k<l.length):pO l (k+1)=some l[k]:=by simp[pO,hk]
def vP (p:Option Ar) (a:Ar):Bool:=match p with | some q=>decide (a.fr<q.en)||dz q a | none=>false
theorem nL (p:Option Ar) (i:Nat) (a:Ar) (r:List Ar):jd p i (a::r)=if aQ a≠0 then (aQ a,(i:Int)) else if vP p a then (2,(i:Int)) else jd (some a) (i+1) r:=rfl
theorem uU {l:List Ar} (hlt:k<l.length) (he:aQ l[k]=0) (hno:vP (pO l k) l[k]=false):jd (pO l k) k (l.drop k)=jd (pO l (k+1)) (k+1) (l.drop (k+1)):=by
 rw[vv hlt,nL,if_neg (by rw[he];simp),hno,Dw hlt];rfl
theorem uR {l:List Ar} (hlt:k<l.length) (he:aQ l[k]=0) (hno:vP (pO l k) l[k]=true):jd (pO l k) k (l.drop k)=(2,(k:Int)):=by
 rw[vv hlt,nL,if_neg (by rw[he];simp),hno];rfl
theorem Gz {l:List Ar} (hlt:k<l.length) (he:aQ l[k]≠0):jd (pO l k) k (l.drop k)=(aQ l[k],(k:Int)):=by
 rw[vv hlt,nL,if_pos he]
theorem JS {l:List Ar} {m:Nat} (hm:m+1<l.length):vP (pO l (m+1)) l[m+1]=(decide (l[m+1].fr<l[m].en)||dz l[m] l[m+1]):=by
 rw[Dw (show m<l.length by omega)];rfl
def nZ (n:Int) (a:Ar):Bool:=decide (a.fr≤n)&&decide (n<a.en)
def kH (l:List Ar) (n:Int):Int:=idx (nZ n) l
def pX (b a:Ar):Bool:=decide (a.fr<b.en)&&decide (b.fr<a.en)
def Ak (b a:Ar):Bool:=decide (b.fr<a.fr)
def zAr:Ar:=⟨0,0,false,false,false,0,0⟩
def yU (acc:List Ar) (a:Ar):List Ar:=match acc.getLast? with
 | some q=>if dz q a then acc.set (acc.length-1) { q with en:=a.en } else acc++[a]
 | none=>acc++[a]
def rY (l:List Ar):List Ar:=l.foldl yU []
theorem Bn {l:List Ar} (h:(bI l).1=0):l.length≤16∧∀a∈l,aQ a=0:=by
 unfold bI at h;split at h
 ·exact absurd h (by decide)
 refine⟨by omega,?_⟩;have key:∀(l:List Ar) (p:Option Ar) (i:Nat),(jd p i l).1=0→∀a∈l,aQ a=0:=by
  intro l
  induction l with
  | nil=>intro p i _ a ha;cases ha
  | cons b r ih=>
   intro p i h a ha;rw[nL] at h;split at h
   ·rename_i hb;exact absurd h hb
   rename_i hb;split at h
   ·exact absurd (show (2:Int)=0 from h) (by decide)
   rcases bZ.1 ha with rfl|ha
   ·exact Decidable.byContradiction hb
   ·exact ih _ _ h a ha
 exact key l none 0 h
def Vm (l:List Ar) (x:Ar):Nat:=match l.findIdx? (Ak x) with
 | some k=>k
 | none=>l.length
def EP (l:List Ar) (x:Ar):List Ar:=l.take (Vm l x)++x::l.drop (Vm l x)
def AO (l:List Ar) (x:Ar):Int:=if (bI l).1≠0 then (bI l).1 else if aQ x≠0 then aQ x else if l.any (pX x)=true then 6 else if 16<(rY (EP l x)).length then 4 else 0
def yg (l:List Ar) (x:Ar):List Ar:=if AO l x≠0 then [] else rY (EP l x)
theorem Io {l:List Ar} {x:Ar} {e:Int} (h:AO l x=e) (he:e≠0):AO l x=e∧yg l x=[]:=by
 refine⟨h,?_⟩;unfold yg;rw[if_pos (by rw[h];exact he)]
def Dc (n:Nat):Int:=if 16<n then 4 else 0
def aa:Ar:=⟨2,8,true,false,false,-1,0⟩
structure Pg where
 rd:Bool
 wr:Bool
 sh:Bool
 fi:Int
 pg:Int
 deriving DecidableEq
def jW (a:Ar) (n:Int):Pg:=⟨a.rd,a.wr,a.sh,a.fi,if 0≤a.fi then a.ba+n-a.fr else 0⟩
def onA:List Ar→Int→Option Pg
 | [],_=>none
 | a::r,n=>if nZ n a then some (jW a n) else onA r n
theorem dF {n:Int} {a:Ar}:nZ n a=true↔a.fr≤n∧n<a.en:=by unfold nZ;simp
theorem dm (a:Ar) (r:List Ar) (n:Int):onA (a::r) n=if nZ n a then some (jW a n) else onA r n:=rfl
theorem Ij (l m:List Ar) (n:Int):onA (l++m) n=(onA l n).or (onA m n):=by
 induction l with
 | nil=>simp[onA]
 | cons a r ih=>rw[He,dm,dm];split<;>simp[ih]
def srtF:Int→List Ar→Prop
 | _,[]=>True
 | lo,a::r=>aQ a=0∧lo≤a.fr∧srtF a.en r
theorem srtF_ok:∀ {l:List Ar} {lo:Int},srtF lo l→∀a∈l,aQ a=0∧lo≤a.fr
 | b::r,lo,h,a,ha=>by
  rcases bZ.1 ha with rfl|ha
  ·exact⟨h.1,h.2.1⟩
  have h1:=srtF_ok h.2.2 a ha;have h2:=(bD h.1).2.1;have h3:=h.2.1;exact⟨h1.1,by omega⟩
theorem on_low:∀ {l:List Ar} {lo n:Int},srtF lo l→n<lo→onA l n=none
 | [],_,_,_,_=>rfl
 | a::r,lo,n,h,hn=>by have h1:=h.2.1;have h2:=(bD h.1).2.1;rw[dm,if_neg (by rw[dF];omega)];exact on_low h.2.2 (by omega)
def okF (p:Option Ar):List Ar→Prop
 | []=>True
 | a::r=>aQ a=0∧vP p a=false∧okF (some a) r
theorem za {q a:Ar}:vP (some q) a=false↔q.en≤a.fr∧dz q a=false:=by
 unfold vP;simp
theorem okF_srt:∀ {l:List Ar} {q:Ar},okF (some q) l→srtF q.en l
 | [],_,_=>trivial
 | a::r,q,h=>⟨h.1,(za.1 h.2.1).1,okF_srt h.2.2⟩
theorem nM {l:List Ar} (h:okF none l):srtF 0 l:=by
 match l,h with
 | [],_=>trivial
 | a::r,h=>exact⟨h.1,by have:=(bD h.1).1.2.1.1;exact this,okF_srt h.2.2⟩
theorem wrongAt_iff:∀ {l:List Ar} {p:Option Ar} {i:Nat},(jd p i l).1=0↔okF p l
 | [],_,_=>⟨fun _=>trivial,fun _=>rfl⟩
 | a::r,p,i=>by
  rw[nL]
  by_cases h:aQ a=0
  ·rw[if_neg (by rw[h];simp)];cases hb:vP p a
   ·rw[if_neg (by simp),wrongAt_iff];exact⟨fun h2=>⟨h,hb,h2⟩,fun h2=>h2.2.2⟩
   rw[if_pos rfl];refine⟨fun h2=>absurd (show (2:Int)=0 from h2) (by decide),fun h2 => ?_⟩;have h3:=h2.2.1;rw[hb] at h3;cases h3
  rw[if_pos h];exact⟨fun h2=>absurd h2 h,fun h2=>absurd h2.1 h⟩
theorem jI {l:List Ar}:(bI l).1=0↔l.length≤16∧okF none l:=by
 unfold bI
 by_cases h:16<l.length
 ·rw[if_pos h];exact⟨fun h2=>absurd (show (4:Int)=0 from h2) (by decide),fun h2=>by omega⟩
 rw[if_neg h,wrongAt_iff];exact⟨fun h2=>⟨by omega,h2⟩,fun h2=>h2.2⟩
theorem uB {q a:Ar}:dz q a=true↔q.en=a.fr∧q.rd=a.rd∧q.wr=a.wr∧q.sh=a.sh∧q.fi=a.fi∧a.ba=jE q:=by
 unfold dz;simp[and_assoc]
theorem Sk {q a:Ar} (h:dz q a=true) (n:Int):jW a n=jW q n:=by
 obtain⟨h1,h2,h3,h4,h5,h6⟩:=uB.1 h;unfold jW jE at *
 rw[←h2,←h3,←h4,←h5];split
 ·rename_i hf;rw[h6,if_pos hf];congr 1;omega
 ·rfl
theorem on_uniq:∀ {l m:List Ar} {p q:Option Ar},okF p l→okF q m→(∀n,onA l n=onA m n)→l=m
 | [],[],_,_,_,_,_=>rfl
 | [],b::s,_,_,_,hm,h=>by have:=h b.fr;rw[dm,if_pos (dF.2 ⟨rZ _,(bD hm.1).2.1⟩)] at this;cases this
 | a::r,[],_,_,hl,_,h=>by have:=h a.fr;rw[dm,if_pos (dF.2 ⟨rZ _,(bD hl.1).2.1⟩)] at this;cases this
 | a::r,b::s,p,q,hl,hm,h=>by
  have ea:=bD hl.1;have eb:=bD hm.1;have sr:=okF_srt hl.2.2;have ss:=okF_srt hm.2.2;have half:∀ {a b:Ar} {r s:List Ar},aQ a=0→aQ b=0→srtF a.en r→srtF b.en s→(∀n,onA (a::r) n=onA (b::s) n)→¬a.fr<b.fr:=by intro a b r s ha hb hr hs h hlt;have h1:=h a.fr;have h2:=(bD ha).2.1;have h3:=(bD hb).2.1;rw[dm,if_pos (dF.2 ⟨rZ _,h2⟩),dm,if_neg (by rw[dF];omega),on_low hs (by omega)] at h1;cases h1
  have hfr:a.fr=b.fr:=by have h1:=half hl.1 hm.1 sr ss h;have h2:=half hm.1 hl.1 ss sr (fun n=>(h n).symm);omega
  have h1:=h a.fr;rw[dm,if_pos (dF.2 ⟨rZ _,ea.2.1⟩),dm,if_pos (dF.2 ⟨by omega,by have:=eb.2.1;omega⟩)] at h1;have hpg:=aJ h1;unfold jW at hpg;simp only[Pg.mk.injEq] at hpg;obtain⟨g1,g2,g3,g4,g5⟩:=hpg;have hba:a.ba=b.ba:=by
   by_cases hf:0≤a.fi
   ·rw[if_pos hf,if_pos (by omega)] at g5;omega
   ·rw[(ea.2.2.2.2.1 (by omega)).1,(eb.2.2.2.2.1 (by omega)).1]
  have half2:∀ {a b:Ar} {r s:List Ar},aQ a=0→aQ b=0→okF (some a) r→a.fr=b.fr→a.rd=b.rd→a.wr=b.wr→a.sh=b.sh→a.fi=b.fi→a.ba=b.ba→(∀n,onA (a::r) n=onA (b::s) n)→¬a.en<b.en:=by
   intro a b r s ha hb hr k1 k2 k3 k4 k5 k6 h hlt;have h1:=h a.en;have h2:=(bD ha).2.1;rw[dm,if_neg (by rw[dF];omega),dm,if_pos (dF.2 ⟨by omega,hlt⟩)] at h1
   match r,hr with
   | [],_=>cases h1
   | c::t,hr=>
    have hc:=za.1 hr.2.1;rw[dm] at h1;split at h1
    ·rename_i hin;rw[dF] at hin;have hp:=aJ h1;unfold jW at hp;simp only[Pg.mk.injEq] at hp;obtain⟨g1,g2,g3,g4,g5⟩:=hp;have:dz a c=true:=by
      rw[uB];refine⟨by omega,by rw[k2,g1],by rw[k3,g2],by rw[k4,g3],by omega,?_⟩;unfold jE
      by_cases hf:0≤a.fi
      ·rw[if_pos (by omega),if_pos (by omega)] at g5;rw[if_pos hf];omega
      rw[if_neg hf];exact ((bD hr.1).2.2.2.2.1 (by omega)).1
     rw[hc.2] at this;cases this
    rename_i hin;rw[dF] at hin;have:=(bD hr.1).2.1;rw[on_low (okF_srt hr.2.2) (by omega)] at h1;cases h1
  have hen:a.en=b.en:=by have h1:=half2 hl.1 hm.1 hl.2.2 hfr g1 g2 g3 g4 hba h;have h2:=half2 hm.1 hl.1 hm.2.2 hfr.symm g1.symm g2.symm g3.symm g4.symm hba.symm (fun n=>(h n).symm);omega
  have hab:a=b:=by
   cases a;cases b
   simp_all
  subst hab;congr 1;refine on_uniq hl.2.2 hm.2.2 fun n => ?_;have h1:=h n;rw[dm,dm] at h1;split at h1
  ·rename_i hin;rw[dF] at hin;rw[on_low sr (by omega),on_low ss (by omega)]
  ·exact h1
def tK (q:Ar):List Ar→List Ar
 | []=>[q]
 | a::r=>if dz q a then tK { q with en:=a.en } r else q::tK a r
theorem Ke (init:List Ar) (q a:Ar):yU (init++[q]) a=if dz q a then init++[{ q with en:=a.en }] else init++[q]++[a]:=by
 unfold yU;rw[CK];simp only[];split
 ·simp
 ·rfl
theorem tidy_go:∀(r:List Ar) (init:List Ar) (q:Ar),r.foldl yU (init++[q])=init++tK q r
 | [],init,q=>rfl
 | a::r,init,q=>by
  rw[Al,Ke];unfold tK;split
  ·exact tidy_go r init _
  ·rw[tidy_go r (init++[q]) a,jG];rfl
theorem yn (a:Ar) (r:List Ar):rY (a::r)=tK a r:=by
 unfold rY;rw[Al];exact tidy_go r [] a
theorem BM {q a:Ar} (hq:aQ q=0) (ha:aQ a=0) (h:dz q a=true):aQ { q with en:=a.en }=0:=by
 obtain⟨h1,h2,h3,h4,h5,h6⟩:=uB.1 h;have eq:=bD hq;have ea:=bD ha;unfold BG at eq ea;unfold aQ;rw[if_neg (by simp only[];omega),if_neg];simp only[];rintro (⟨k1,k2⟩|⟨k1,k2⟩)
 ·have:=eq.2.2.2.2.1 k1;rcases k2 with k2|k2
  ·exact k2 this.1
  ·rw[this.2] at k2;cases k2
 have h7:=ea.2.2.2.2.2 (by omega);unfold jE at h6;rw[if_pos k1] at h6;omega
theorem RU {q a:Ar} {r:List Ar} (hq:aQ q=0) (ha:aQ a=0) (h:dz q a=true) (n:Int):onA ({ q with en:=a.en }::r) n=onA (q::a::r) n:=by
 have hp:=Sk h n;obtain⟨h1,_⟩:=uB.1 h;have h2:=(bD hq).2.1;have h3:=(bD ha).2.1;rw[dm,dm,dm];have b:jW { q with en:=a.en } n=jW q n:=rfl
 by_cases c1:nZ n q=true
 ·rw[if_pos c1,if_pos (by rw[dF] at c1 ⊢; simp only[];omega),b]
 rw[if_neg c1]
 by_cases c2:nZ n a=true
 ·rw[if_pos c2,if_pos (by rw[dF] at c2 ⊢; simp only[];omega),b,hp]
 rw[if_neg c2,if_neg];rw[dF] at c1 c2 ⊢;simp only[];omega
theorem tdOn:∀ {r:List Ar} {q:Ar},aQ q=0→srtF q.en r→∀n,onA (tK q r) n=onA (q::r) n
 | [],q,_,_,n=>rfl
 | a::r,q,hq,h,n=>by
  unfold tK;split
  ·rename_i hj;rw[tdOn (BM hq h.1 hj) (by simpa using h.2.2) n,RU hq h.1 hj]
  ·rw[dm,tdOn h.1 h.2.2 n,←dm]
theorem tdOk:∀ {r:List Ar} {q:Ar} {p:Option Ar},aQ q=0→srtF q.en r→vP p q=false→okF p (tK q r)
 | [],q,p,hq,_,hb=>⟨hq,hb,trivial⟩
 | a::r,q,p,hq,h,hb=>by
  unfold tK;split
  ·rename_i hj;refine tdOk (BM hq h.1 hj) (by simpa using h.2.2) ?_;cases p with
   | none=>rfl
   | some z=>exact hb
  rename_i hj;exact⟨hq,hb,tdOk h.1 h.2.2 (za.2 ⟨h.2.1,by simpa using hj⟩)⟩
theorem Ir {l:List Ar} (h:srtF lo l) (n:Int):onA (rY l) n=onA l n:=by
 match l,h with
 | [],_=>rfl
 | a::r,h=>rw[yn,tdOn h.1 h.2.2]
theorem Ib {l:List Ar} (h:srtF lo l):okF none (rY l):=by
 match l,h with
 | [],_=>trivial
 | a::r,h=>rw[yn];exact tdOk h.1 h.2.2 rfl
def Le (x:Ar):List Ar→List Ar
 | []=>[x]
 | a::r=>if x.fr<a.fr then x::a::r else a::Le x r
theorem CY (x:Ar):∀l:List Ar,EP l x=Le x l
 | []=>rfl
 | a::r=>by
  have ih:=CY x r;unfold EP Vm at ih ⊢;unfold Le;rw[zi]
  by_cases h:x.fr<a.fr
  ·rw[if_pos h,if_pos (show Ak x a=true from decide_eq_true h)];rfl
  rw[if_neg h,if_neg (show ¬Ak x a=true by unfold Ak;simpa using h)];cases hq:r.findIdx? (Ak x) with
  | none=>rw[hq] at ih;simp only[Iu] at *; rw[←ih];simp
  | some k=>rw[hq] at ih;simp only[qA] at *; rw[←ih];simp
theorem IA {x:Ar} (hx:aQ x=0) (n:Int):∀ {l:List Ar} {lo:Int},srtF lo l→(∀a∈l,pX x a=false)→onA (Le x l) n=if nZ n x then some (jW x n) else onA l n
 | [],_,_,_=>rfl
 | a::r,lo,h,hm=>by
  unfold Le;split
  ·rfl
  rename_i hlt;rw[dm,dm,IA hx n h.2.2 (fun b hb=>hm b (ji _ hb))]
  by_cases c1:nZ n a=true
  ·rw[if_pos c1,if_pos c1];rw[if_neg];rw[dF] at c1 ⊢;have hm1:=hm a gV;unfold pX at hm1;have h2:=(bD hx).2.1;have h3:=(bD h.1).2.1;simp only[IG,decide_eq_false_iff_not] at hm1;omega
  ·rw[if_neg c1,if_neg c1]
theorem Di {x:Ar} (hx:aQ x=0):∀ {l:List Ar} {lo:Int},srtF lo l→lo≤x.fr→(∀a∈l,pX x a=false)→srtF lo (Le x l)
 | [],lo,_,hl,_=>⟨hx,hl,trivial⟩
 | a::r,lo,h,hl,hm=>by
  have hm1:=hm a gV;unfold pX at hm1;have h2:=(bD hx).2.1;have h3:=(bD h.1).2.1;simp only[IG,decide_eq_false_iff_not] at hm1;unfold Le;split
  ·exact⟨hx,hl,h.1,by omega,h.2.2⟩
  rename_i hlt;exact⟨h.1,h.2.1,Di hx h.2.2 (by omega) (fun b hb=>hm b (ji _ hb))⟩
theorem Re {a:Ar} (h:aQ a=0) {k:Int} (hk:nZ k a=true):0≤k∧k<64:=by
 have:=(bD h).1;unfold BG at this;rw[dF] at hk;omega
theorem toList_map {α β:Type} (o:Option α) (f:α→β):(o.map f).toList=o.toList.map f:=by cases o<;>rfl
theorem GY (l:List Ar) (n:Int):(0≤kH l n)↔onA l n≠none:=by
 have h:=nE (nZ n) l;have h2:l.any (nZ n)=true↔onA l n≠none:=by
  induction l with
  | nil=>simp[onA]
  | cons a r ih=>rw[List.any_cons,dm];cases nZ n a<;>simp[ih (nE _ _)]
 rw[←h2,←h,decide_eq_true_eq];exact Iff.rfl
def oR (o:Option Pg):Bool:=match o with | some p=>p.rd | none=>false
def oW (o:Option Pg):Bool:=match o with | some p=>p.wr | none=>false
def oH (o:Option Pg):Bool:=match o with | some p=>p.sh | none=>false
def oF (o:Option Pg):Int:=match o with | some p=>p.fi | none=>0
def oP (o:Option Pg):Int:=match o with | some p=>p.pg | none=>0
def NF (f:Nat→Option Pg):List (Option Pg):=(List.range 64).map f
theorem xg (f:Nat→Option Pg):(NF f).length=64:=by simp[NF]
theorem Ud (f:Nat→Option Pg) (k:Nat) (x:Option Pg):(NF f).set k x=NF (fun i=>if i=k then x else f i):=by
 unfold NF;apply mR;intro i;rw[kW]
 by_cases h:k=i
 ·subst h
  by_cases hk:k<64
  ·simp[hk]
  ·simp[hk]
 rw[if_neg h]
 by_cases hi:i<64
 ·simp[hi,oK h]
 ·simp[hi]
def f0:Nat→Option Pg:=fun _=>none
def JV (A:Ar) (K:Int) (f:Nat→Option Pg):Nat→Option Pg:=fun i=>if A.fr≤(i:Int)∧(i:Int)<K then some (jW A i) else f i
theorem OP (A:Ar) (f:Nat→Option Pg):JV A A.fr f=f:=by funext i;unfold JV;rw[if_neg (by omega)]
theorem Tv {A:Ar} (hK:A.fr≤(K:Int)) (f:Nat→Option Pg):(fun i=>if i=K then some (jW A K) else JV A K f i)=JV A ((K:Int)+1) f:=by
 funext i;unfold JV
 by_cases h:i=K
 ·subst h;rw[if_pos rfl,if_pos (by omega)]
 rw[if_neg h]
 by_cases c:A.fr≤(i:Int)∧(i:Int)<K
 ·rw[if_pos c,if_pos (by omega)]
 ·rw[if_neg c,if_neg (by omega)]
def cz (l:List Ar):Nat→Option Pg:=l.foldl (fun f A=>JV A A.en f) f0
theorem Ls {l:List Ar} (hk:k<l.length):cz (l.take (k+1))=JV l[k] l[k].en (cz (l.take k)):=by
 unfold cz;rw[mV,aH hk,Option.toList_some,CX];rfl
def pU (p q:Pg):Pg:=if 0≤p.fi then { q with pg:=q.pg+1 } else q
def lW (f:Nat→Option Pg) (k:Nat) (p:Pg):Bool:=match k with
 | 0=>false
 | m+1=>match f m with
  | some q=>pU p q==p
  | none=>false
def fD (k:Nat) (p:Pg):Ar:=⟨k,(k:Int)+1,p.rd,p.wr,p.sh,p.fi,p.pg⟩
def vX (l:List Ar) (e:Int):List Ar:=match l.getLast? with
 | some q=>l.set (l.length-1) { q with en:=e }
 | none=>l
def kR (f:Nat→Option Pg):Nat→List Ar
 | 0=>[]
 | k+1=>match f k with
  | none=>kR f k
  | some p=>if lW f k p then vX (kR f k) ((k:Int)+1) else kR f k++[fD k p]
theorem FW (l:List Ar) (e:Int):(vX l e).length=l.length:=by unfold vX;split<;>simp
theorem IM (f:Nat→Option Pg):∀k,(kR f k).length≤k
 | 0=>ay _
 | k+1=>by
  have ih:=IM f k;unfold kR;split
  ·omega
  split
  ·rw[FW];omega
  ·rw[jH,Cv];omega
theorem SA (f:Nat→Option Pg) {m:Nat} {q:Pg} (h:f m=some q):0<(kR f (m+1)).length:=by
 have a:∀k (q:Pg),f k=some q→0<(kR f (k+1)).length:=by
  intro k
  induction k with
  | zero=>intro q h;unfold kR;rw[h];simp[lW]
  | succ k ih=>
   intro q h;rw[kR,h];simp only[]
   by_cases hs:lW f (k+1) q=true
   ·rw[if_pos hs,FW];cases hf:f k with
    | none=>
     have h2:lW f (k+1) q=false:=by simp only[lW,hf]
     rw[h2] at hs;cases hs
    | some z=>exact ih z hf
   ·rw[if_neg hs,jH,Cv];omega
 exact a m q h
theorem Vv (p q:Pg):(p==q)=(p.rd==q.rd&&(p.wr==q.wr&&(p.sh==q.sh&&(p.fi==q.fi&&p.pg==q.pg)))):=by
 cases p;cases q;rw[lT];simp
theorem Sg {f:Nat→Option Pg} (h:f k=none):kR f (k+1)=kR f k:=by rw[kR,h]
theorem Rv {f:Nat→Option Pg} {p:Pg} (h:f k=some p) (hs:lW f k p=true):kR f (k+1)=vX (kR f k) ((k:Int)+1):=by
 rw[kR,h];simp only[];rw[if_pos hs]
theorem CB {f:Nat→Option Pg} {p:Pg} (h:f k=some p) (hs:lW f k p=false):kR f (k+1)=kR f k++[fD k p]:=by
 rw[kR,h];simp only[];rw[hs];rfl
theorem Kg {l:List Ar} (hn:l.length=n+1) (e:Int):vX l e=l.set n { (l[n]'(by omega)) with en:=e }:=by
 unfold vX;have:l.getLast?=some (l[n]'(by omega)):=by rw[List.getLast?_eq_getElem?,aH (by omega)];simp[hn]
 rw[this];simp[hn]
theorem OA {f:Nat→Option Pg} (h:f k=none):kR f (k+1)=kR f k:=by rw[kR,h]
theorem UE {f:Nat→Option Pg} {p:Pg} (h:f k=some p) (hs:lW f k p=true):kR f (k+1)=vX (kR f k) ((k:Int)+1):=by
 rw[kR,h];simp only[];rw[if_pos hs]
theorem RP {f:Nat→Option Pg} {p:Pg} (h:f k=some p) (hs:lW f k p=false):kR f (k+1)=kR f k++[fD k p]:=by
 rw[kR,h];simp only[];rw[hs];rfl
def PV (p:Pg):Prop:=-1≤p.fi∧p.fi<5∧0≤p.pg∧(p.fi<0→p.pg=0∧p.sh=false)∧(0≤p.fi→p.pg≤11)
theorem CS {l:List Ar} {n:Int} (h:∀a∈l,a.en≤n):onA l n=none:=by
 induction l with
 | nil=>rfl
 | cons a r ih=>
  have:=h a gV;rw[dm,if_neg (by rw[dF];omega),ih (fun b hb=>h b (ji _ hb))]
theorem SV {l:List Ar} {a:Ar} {n:Int} (h:a∈l) (hn:nZ n a=true):onA l n≠none:=by
 induction l with
 | nil=>cases h
 | cons b r ih=>
  rw[dm];split
  ·simp
  rename_i hb;rcases bZ.1 h with rfl|h
  ·exact absurd hn hb
  ·exact ih h
theorem Jv {x y:Ar} (hy:aQ y=0) (hb:∀p,vP p x=false→vP p y=false):∀ {l:List Ar} {p:Option Ar},okF p (l++[x])→okF p (l++[y])
 | [],p,h=>⟨hy,hb p h.2.1,trivial⟩
 | a::r,p,h=>⟨h.1,h.2.1,Jv hy hb h.2.2⟩
theorem KT {x y:Ar} (hy:aQ y=0) (hb:vP (some x) y=false):∀ {l:List Ar} {p:Option Ar},okF p (l++[x])→okF p (l++[x]++[y])
 | [],p,h=>⟨h.1,h.2.1,hy,hb,trivial⟩
 | a::r,p,h=>⟨h.1,h.2.1,KT hy hb h.2.2⟩
theorem AX {x:Ar}:∀ {l:List Ar} {p:Option Ar},okF p (l++[x])→aQ x=0
 | [],p,h=>h.1
 | a::r,p,h=>AX h.2.2
theorem Qh (hk:k<64) {p:Pg} (hp:PV p):aQ (fD k p)=0:=by
 obtain⟨h1,h2,h3,h4,h5⟩:=hp;unfold aQ fD;simp only[];rw[if_neg (by omega),if_neg];rintro (⟨a,b⟩|⟨a,b⟩)
 ·have:=h4 a;rcases b with b|b
  ·exact b this.1
  ·rw[this.2] at b;cases b
 ·have:=h5 a;omega
theorem QA {a:Ar} {m:Nat} {p:Pg} (h:pU p (jW a m)=p):jW a ((m:Int)+1)=p:=by
 unfold pU at h
 by_cases hf:0≤p.fi
 ·rw[if_pos hf] at h;have b:a.fi=p.fi:=by rw[←h];rfl
  rw[←h];unfold jW;simp only[];rw[if_pos (by omega),if_pos (by omega)];congr 1;omega
 rw[if_neg hf] at h;have b:a.fi=p.fi:=by rw[←h];rfl
 rw[←h];unfold jW;rw[if_neg (by omega),if_neg (by omega)]
structure Wp (f:Nat→Option Pg) (k:Nat):Prop where
 ok:okF none (kR f k)
 en:∀a∈kR f k,a.en≤(k:Int)
 on:∀i:Nat,i<k→onA (kR f k) i=f i
 last:∀m q,k=m+1→f m=some q→∃init a,kR f k=init++[a]∧a.en=(k:Int)∧a.fr≤(m:Int)∧jW a m=q
theorem Tz {f:Nat→Option Pg} (hf:∀i p,i<64→f i=some p→PV p):∀k,k≤64→Wp f k
 | 0,_=>⟨trivial,fun a ha=>(by cases ha),fun i hi=>absurd hi (dV _),fun m q h=>(by cases h)⟩
 | k+1,hk=>by
  have ih:=Tz hf k (by omega);have he:=ih.en;cases hfk:f k with
  | none=>
   have hst:=OA hfk;refine⟨by rw[hst];exact ih.ok,fun a ha=>by rw[hst] at ha;have:=he a ha;omega,fun i hi => ?_,fun m q hm hq => ?_⟩
   ·rw[hst]
    by_cases hik:i=k
    ·subst hik;rw[hfk];exact CS he
    ·exact ih.on i (by omega)
   obtain rfl:m=k:=by omega
   rw[hfk] at hq;cases hq
  | some p=>
   have hp:=hf k p (by omega) hfk;cases hs:lW f k p
   ·have hst:=RP hfk hs;have hx:=Qh (by omega:k<64) hp;have hok:okF none (kR f (k+1)):=by
     rw[hst];rcases List.eq_nil_or_concat (kR f k) with h0|⟨init,a,h0⟩
     ·rw[h0];exact⟨hx,rfl,trivial⟩
     rw[List.concat_eq_append] at h0;have hoka:=ih.ok;have hon:=ih.on;rw[h0] at hoka hon he ⊢;have hae:=he a (tC _ gV);refine KT hx (za.2 ⟨hae,?_⟩) hoka;cases hj:dz a (fD k p)
     ·rfl
     exfalso;obtain⟨j1,j2,j3,j4,j5,j6⟩:=uB.1 hj;have j1' : a.en=(k:Int):=j1;have ha0:=AX hoka;have hfr:=(bD ha0).1.2.1.1;have hlt:=(bD ha0).2.1;obtain⟨m,rfl⟩:∃m,k=m+1:=⟨k-1,by omega⟩;have hin:nZ (m:Int) a=true:=dF.2 ⟨by omega,by omega⟩;cases hfm:f m with
     | none=>
      have h1:=hon m (by omega);rw[hfm] at h1;exact SV (tC _ gV) hin h1
     | some q=>
      obtain⟨init',a',e1,e2,e3,e4⟩:=ih.last m q rfl hfm;rw[h0] at e1;have haa:a=a':=by have:=congrArg List.getLast? e1;rw[CK,CK] at this;exact aJ this
      subst haa;have hsn:lW f (m+1) p=(pU p q==p):=by simp only[lW,hfm]
      rw[hsn] at hs;have:pU p q=p:=by
       rw[←e4];have k2:a.rd=p.rd:=j2;have k3:a.wr=p.wr:=j3;have k4:a.sh=p.sh:=j4;have k5:a.fi=p.fi:=j5;have k6:p.pg=jE a:=j6;unfold jE at k6;clear hx hfk hp hst hj hs e4 j2 j3 j4 j5 j6 hsn;cases p with
       | mk prd pwr psh pfi ppg=>
        have k2:a.rd=prd:=k2;have k3:a.wr=pwr:=k3;have k4:a.sh=psh:=k4;have k5:a.fi=pfi:=k5;have k6:ppg=if 0≤a.fi then a.ba+a.en-a.fr else 0:=k6;subst k2 k3 k4 k5 k6;unfold pU jW;show (if 0≤a.fi then (⟨a.rd,a.wr,a.sh,a.fi,(if 0≤a.fi then a.ba+(m:Int)-a.fr else 0)+1⟩:Pg) else ⟨a.rd,a.wr,a.sh,a.fi,if 0≤a.fi then a.ba+(m:Int)-a.fr else 0⟩)=_
        by_cases hfi:0≤a.fi
        ·rw[if_pos hfi,if_pos hfi,if_pos hfi];congr 1;omega
        ·rw[if_neg hfi,if_neg hfi,if_neg hfi]
      rw[this] at hs;simp at hs
    refine⟨hok,fun a ha => ?_,fun i hi => ?_,fun m q hm hq => ?_⟩
    ·rw[hst] at ha;rcases fO.1 ha with ha|ha
     ·have:=he a ha;omega
     ·rw[bv.1 ha];show (k:Int)+1≤_;omega
    ·rw[hst,Ij];have hone:onA [fD k p] (i:Int)=if i=k then some p else none:=by
      rw[dm]
      by_cases hik:i=k
      ·subst hik;rw[if_pos rfl,if_pos (show nZ (i:Int) (fD i p)=true from dF.2 ⟨rZ _,by show (i:Int)<i+1;omega⟩)];unfold jW fD;simp only[];congr 1;obtain⟨_,_,_,h4,_⟩:=hp;cases p with
       | mk rd wr sh fi pg=>
        simp only[Pg.mk.injEq,true_and];simp only[] at h4;split
        ·omega
        ·exact (h4 (by omega)).1.symm
      rw[if_neg hik,if_neg]
      ·rfl
      rw[dF];show ¬((k:Int)≤i∧(i:Int)<k+1);omega
     rw[hone]
     by_cases hik:i=k
     ·subst hik;rw[if_pos rfl,CS he,hfk];rfl
     ·rw[if_neg hik,ih.on i (by omega),Option.or_none]
    obtain rfl:m=k:=by omega
    rw[hfk] at hq;cases hq;refine⟨kR f m,fD m p,hst,by show (m:Int)+1=_;omega,rZ _,?_⟩;unfold jW fD;simp only[];obtain⟨_,_,_,h4,_⟩:=hp;cases p with
    | mk rd wr sh fi pg=>
     simp only[Pg.mk.injEq,true_and];simp only[] at h4;split
     ·omega
     ·exact (h4 (by omega)).1.symm
   have hst:=UE hfk hs;obtain⟨m,rfl⟩:∃m,k=m+1:=by
    cases k with
    | zero=>cases hs
    | succ m=>exact⟨m,rfl⟩
   have hsn:lW f (m+1) p=(match f m with | some q=>pU p q==p | none=>false):=rfl;rw[hsn] at hs;cases hfm:f m with
   | none=>rw[hfm] at hs;cases hs
   | some q=>
    rw[hfm] at hs;have hnx:pU p q=p:=by simpa using hs
    obtain⟨init,a,e1,e2,e3,e4⟩:=ih.last m q rfl hfm;have hok:=ih.ok;have hon:=ih.on;rw[e1] at hok hon he hst;have ha0:=AX hok;have ef:=bD ha0;rw[←e4] at hnx;have hpk:=QA hnx;have hset:vX (init++[a]) (((m+1:Nat):Int)+1)=init++[{ a with en:=((m+1:Nat):Int)+1 }]:=by unfold vX;rw[CK];simp
    rw[hset] at hst;have hy:aQ { a with en:=((m+1:Nat):Int)+1 }=0:=by
     unfold BG at ef;have e5:=ef.2.2.2.2.1;unfold aQ;simp only[];rw[if_neg (by omega),if_neg];rintro (⟨b1,b2⟩|⟨b1,b2⟩)
     ·have:=e5 b1;rcases b2 with b2|b2
      ·exact b2 this.1
      ·rw[this.2] at b2;cases b2
     have h5:=hp.2.2.2.2;rw[←hpk] at h5;have h6:=h5 b1;unfold jW at h6;simp only[] at h6;rw[if_pos b1] at h6;omega
    have hinit:∀b∈init,b.en≤((m+1:Nat):Int):=fun b hb=>he b (oG _ hb);have hfi:∀n,jW { a with en:=((m+1:Nat):Int)+1 } n=jW a n:=fun n=>rfl;refine⟨?_,fun b hb => ?_,fun i hi => ?_,fun m' q' hm' hq' => ?_⟩
    ·rw[hst];refine Jv hy (fun z hz => ?_) hok;cases z with
     | none=>rfl
     | some z=>exact hz
    ·rw[hst] at hb;rcases fO.1 hb with hb|hb
     ·have:=hinit b hb;omega
     ·rw[bv.1 hb];show ((m+1:Nat):Int)+1≤_;omega
    ·rw[hst,Ij]
     by_cases hik:i=m+1
     ·subst hik;rw[CS hinit,dm,if_pos (dF.2 ⟨by show a.fr≤((m+1:Nat):Int);omega,by show ((m+1:Nat):Int)<((m+1:Nat):Int)+1;omega⟩),hfi,hfk];show some (jW a ((m+1:Nat):Int))=some p;rw[show ((m+1:Nat):Int)=(m:Int)+1 by omega,hpk]
     have h1:=hon i (by omega);rw[Ij] at h1;rw[←h1];congr 1;rw[dm,dm,hfi]
     by_cases c:nZ (i:Int) a=true
     ·rw[if_pos c,if_pos (by rw[dF] at c ⊢; show a.fr≤(i:Int)∧(i:Int)<((m+1:Nat):Int)+1;omega)]
     ·rw[if_neg c,if_neg (by rw[dF] at c ⊢; show ¬(a.fr≤(i:Int)∧(i:Int)<((m+1:Nat):Int)+1);omega)]
    obtain rfl:m' = m+1:=by omega
    rw[hfk] at hq';cases hq';refine⟨init,_,hst,by show ((m+1:Nat):Int)+1=_;omega,by show a.fr≤_;omega,?_⟩;rw[hfi,show ((m+1:Nat):Int)=(m:Int)+1 by omega,hpk]
theorem Qi {f:Nat→Option Pg} (hf:∀i p,i<64→f i=some p→PV p):okF none (kR f 64)∧∀n:Int,onA (kR f 64) n=if 0≤n∧n<64 then f n.toNat else none:=by
 have h:=Tz hf 64 (ay _);refine⟨h.ok,fun n => ?_⟩
 by_cases hn:0≤n∧n<64
 ·rw[if_pos hn];have:=h.on n.toNat (by omega);rwa [show ((n.toNat:Nat):Int)=n by omega] at this
 rw[if_neg hn];cases ho:onA (kR f 64) n with
 | none=>rfl
 | some p=>
  exfalso;have hs:=nM h.ok
  by_cases h0:n<0
  ·rw[on_low hs h0] at ho;cases ho
  ·rw[CS (fun a ha=>by have:=h.en a ha;omega)] at ho;cases ho
theorem fold_on:∀ {l:List Ar} {lo:Int} (g:Nat→Option Pg),srtF lo l→∀i:Nat,(l.foldl (fun f A=>JV A A.en f) g) i=(onA l i).or (g i)
 | [],_,g,_,i=>by simp[onA]
 | a::r,lo,g,h,i=>by
  rw[Al,fold_on _ h.2.2,dm]
  by_cases c:nZ (i:Int) a=true
  ·rw[if_pos c,on_low h.2.2 (dF.1 c).2];unfold JV;rw[if_pos (dF.1 c)];rfl
  rw[if_neg c];unfold JV;rw[if_neg (fun h=>c (dF.2 h))]
theorem qZ {l:List Ar} (h:srtF lo l) (i:Nat):cz l i=onA l i:=by
 unfold cz;rw[fold_on _ h];simp[f0]
theorem NE {a:Ar} (ha:aQ a=0) {n:Int} (hn:nZ n a=true):PV (jW a n):=by
 have e:=bD ha;unfold BG at e;rw[dF] at hn;have e5:=e.2.2.2.2.1;have e6:=e.2.2.2.2.2;unfold PV jW;simp only[];refine⟨by omega,by omega,by split<;>omega,fun h=>⟨by rw[if_neg (by omega)],(e5 h).2⟩,fun h=>by rw[if_pos h];have:=e6 h;omega⟩
theorem Tx {l:List Ar} (h:srtF lo l) {n:Int} {p:Pg} (hp:onA l n=some p):PV p:=by
 induction l generalizing lo with
 | nil=>cases hp
 | cons a r ih=>
  rw[dm] at hp;split at hp
  ·rename_i hn;cases hp;exact NE h.1 hn
  ·exact ih h.2.2 hp
theorem Nj {f:Nat→Option Pg} {m:List Ar} (hm:okF none m) (hf:∀i:Nat,i<64→f i=onA m i):kR f 64=m:=by
 have hs:=nM hm;obtain⟨h1,h2⟩:=Qi (f:=f) (fun i p hi hp=>Tx hs (by rw[←hf i hi];exact hp));refine on_uniq h1 hm fun n => ?_;rw[h2]
 by_cases hn:0≤n∧n<64
 ·rw[if_pos hn,hf _ (by omega),show ((n.toNat:Nat):Int)=n by omega]
 rw[if_neg hn];symm;cases ho:onA m n with
 | none=>rfl
 | some p=>
  exfalso;have:∃a∈m,nZ n a=true:=by have hh:=(GY m n).2 (by rw[ho];simp);have:=nE (nZ n) m;rw[show decide (0≤idx (nZ n) m)=true from decide_eq_true hh] at this;exact iX.1 this.symm
  obtain⟨a,ha,b⟩:=this;have:=Re (srtF_ok hs a ha).1 b;omega
theorem Tp {a b:Ar} (ha:aQ a=0) (hb:aQ b=0) (h:a.en≤b.fr):(kR (cz [a,b]) 64).length=if dz a b=true then 1 else 2:=by
 have hs:srtF 0 [a,b]:=⟨ha,(bD ha).1.2.1.1,hb,h,trivial⟩;have e:kR (cz [a,b]) 64=rY [a,b]:=Nj (Ib hs) fun i _=>by rw[qZ hs,Ir hs]
 rw[e,yn];unfold tK;split<;>rfl
theorem JW {l:List Ar} (h:srtF lo l):∀i p,cz l i=some p→0≤p.pg∧p.pg≤100:=by
 intro i p hp;rw[qZ h] at hp;obtain⟨_,_,h3,h4,h5⟩:=Tx h hp;refine⟨h3,?_⟩
 by_cases hf:p.fi<0
 ·rw[(h4 hf).1];decide
 ·have:=h5 (by omega);omega
def sZ (x:Ar) (n:Nat) (f:Nat→Option Pg):Nat→Option Pg:=fun i=>if nZ (i:Int) x=true∧i<n then some (jW x i) else f i
theorem Mg (x:Ar) (f:Nat→Option Pg):sZ x 0 f=f:=by funext i;unfold sZ;rw[if_neg (by omega)]
theorem UR (x:Ar) (n:Nat) (f:Nat→Option Pg):sZ x n f n=f n:=by unfold sZ;rw[if_neg (by omega)]
theorem Oz {x:Ar} (h:¬nZ (n:Int) x=true) (f:Nat→Option Pg):sZ x (n+1) f=sZ x n f:=by
 funext i;unfold sZ
 by_cases c:i=n
 ·subst c;rw[if_neg (fun q=>h q.1),if_neg (fun q=>h q.1)]
 by_cases d:nZ (i:Int) x=true∧i<n
 ·rw[if_pos d,if_pos ⟨d.1,by omega⟩]
 ·rw[if_neg d,if_neg (fun q=>d ⟨q.1,by omega⟩)]
theorem Ta {x:Ar} (h:nZ (n:Int) x=true) (f:Nat→Option Pg):(fun i=>if i=n then some (jW x n) else sZ x n f i)=sZ x (n+1) f:=by
 funext i;unfold sZ
 by_cases c:i=n
 ·subst c;rw[if_pos rfl,if_pos ⟨h,by omega⟩]
 rw[if_neg c]
 by_cases d:nZ (i:Int) x=true∧i<n
 ·rw[if_pos d,if_pos ⟨d.1,by omega⟩]
 ·rw[if_neg d,if_neg (fun q=>d ⟨q.1,by omega⟩)]
theorem Td (x:Ar) (i:Nat):cz [x] i=if nZ (i:Int) x=true then some (jW x i) else none:=by
 unfold cz;simp only[Al,List.foldl_nil];unfold JV f0
 by_cases c:nZ (i:Int) x=true
 ·rw[if_pos c,if_pos (dF.1 c)]
 ·rw[if_neg c,if_neg (fun h=>c (dF.2 h))]
theorem Tj {l:List Ar} {x:Ar} {i:Int} (hx:nZ i x=true) (hl:onA l i≠none):l.any (pX x)=true:=by
 have hh:=(GY l i).2 hl;have:=nE (nZ i) l;rw[show decide (0≤idx (nZ i) l)=true from decide_eq_true hh] at this;obtain⟨a,ha,b⟩:=iX.1 this.symm;refine iX.2 ⟨a,ha,?_⟩;rw[dF] at hx b;unfold pX;rw[decide_eq_true (by omega),decide_eq_true (by omega)];rfl
theorem TL {l:List Ar} {x:Ar} (hok:okF none l) (hx:aQ x=0) (h:∀i:Nat,i<64→¬(nZ (i:Int) x=true∧onA l i≠none)):l.any (pX x)=false:=by
 rw[tY];intro a ha hm;have b:=(srtF_ok (nM hok) a ha).1;have e1:=bD b;have e2:=bD hx;unfold BG at e1 e2;unfold pX at hm;rw[dS,decide_eq_true_eq,decide_eq_true_eq] at hm;refine h (max a.fr x.fr).toNat (by omega) ⟨dF.2 (by omega),SV ha (dF.2 (by omega))⟩
theorem EN {e:En} (h:eX e=0):oN e=Hr e:=by
 unfold eX at h;unfold oN Hr;split at h
 ·cases h
 rename_i h1;rw[lT];simp;omega
theorem zG {h:List En} (h0:lI h=0):∀e∈h,eX e=0:=by
 intro e he;obtain⟨i,hi,rfl⟩:=jC.1 he;have hl:=oL h0
 by_cases hne:∀j (hj:j<h.length),eX h[j]=0
 ·exact hne i hi
 exfalso;have hf:firstE (h.map eX)≠0:=by
  intro hf;apply hne;intro j hj;have key:∀(l:List Int),firstE l=0→∀x∈l,x=0:=by
   intro l
   induction l with
   | nil=>intro _ x hx;cases hx
   | cons y r ih=>
    intro h x hx
    by_cases e:y=0
    ·simp only[firstE,e,if_true] at h;rcases bZ.1 hx with rfl|hx
     ·exact e
     ·exact ih h x hx
    ·simp only[firstE,e,if_false] at h
  exact key _ hf _ (gW.2 ⟨h[j],dN hj,rfl⟩)
 unfold lI at h0;rw[if_neg (by omega),if_pos hf] at h0;exact hf h0
theorem Fx {t:Tb} (hi:i<8) (h:lI t[i]=0):lh (dB t) i=if t[i].length=0 then List.replicate 8 zEn else t[i]:=by
 have hl:=oL h;apply mR;intro r;unfold lh dB;rw[mh]
 by_cases hr:r<8
 ·rw[if_pos hr,rO,jO,sG (by omega)];simp only[qA];rcases hl with hl|hl
  ·rw[if_pos hl,nI,if_pos hr,AB hi hr hl]
  ·rw[if_neg (by omega),aH (by omega),FR hi hr hl (aH (by omega))]
 rw[if_neg hr,dI];split
 ·simp;omega
 ·omega
theorem GQ {h:List En} (h0:∀e∈h,eX e=0):h.any Hr=h.any oN:=by
 rw[lT];simp only[iX];constructor
 ·rintro⟨e,he,h1⟩;exact⟨e,he,by rw[EN (h0 e he)];exact h1⟩
 ·rintro⟨e,he,h1⟩;exact⟨e,he,by rw[←EN (h0 e he)];exact h1⟩
theorem Tw {h:List En} (h0:lI h=0) (hl:h.length≠0):h.any oN=true:=by
 have h1:=xk (oL h0) (fun i hi=>zG h0 _ (dN hi));rw[h0] at h1
 by_cases hh:h.any (fun e=>decide (e.k≠0))=false
 ·rw[if_pos ⟨by omega,hh⟩] at h1;cases h1
 ·simpa[oN] using hh
theorem Bw {t:Tb} (hi:i<8) (h:lI t[i]=0):mf (dB t) i=t[i]:=by
 unfold mf;rw[Fx hi h]
 by_cases hl:t[i].length=0
 ·rw[if_pos hl];have:t[i]=[]:=jM hl;rw[this];decide
 rw[if_neg hl,GQ (zG h),Tw h hl];rfl
theorem Dm {t:Tb} {n:Int} {e:En} (h:setE t n e=0):setT t n e=fU ((dB t).set n.toNat e):=by
 have h0:cB t=0:=by
  unfold setE at h
  by_cases hw:cB t=0
  ·exact hw
  ·rw[if_pos hw] at h;exact h
 have hn:0≤n∧n<64:=by
  unfold setE at h;rw[if_neg (by rw[h0];simp)] at h
  by_cases hn:n<0∨64≤n
  ·rw[if_pos hn] at h;cases h
  ·omega
 have he:eX e=0:=by unfold setE at h;rwa [if_neg (by rw[h0];simp),if_neg (by omega)] at h
 obtain⟨q,r,hq,hr,a,_,_⟩:=xz hn;have hN:n.toNat=8*q+r:=by omega
 rw[NW h hq hr a,hN];apply xJ;intro i hi;simp only[fU,rR];have hh:=lF h0 i hi
 by_cases ei:i=q
 ·subst ei;rw[Vector.getElem_set_self];have hp:lh ((dB t).set (8*i+r) e) i=(lh (dB t) i).set r e:=by
   apply mR;intro k;have b:(dB t).length=64:=by simp[dB]
   by_cases hk:k<8
   ·unfold lh;rw[mh,if_pos hk,rO]
    by_cases ek:k=r
    ·subst ek;rw[vC (by omega),vC (by simp;omega)]
    ·rw[sQ (by omega),sQ (fun h=>ek h.symm),mh,if_pos hk,rO]
   ·rw[dI (by simp[lh];omega),dI (by simp[lh];omega)]
  unfold mf;rw[hp,Fx hi hh];unfold setH Va;rw[GQ];intro x hx;rcases ni hx with hx|rfl
  ·split at hx
   ·rw[(Cs.1 hx).2];rfl
   ·exact zG hh x hx
  ·exact he
 rw[wT hq hi (fun h=>ei h.symm)];have hp:lh ((dB t).set (8*q+r) e) i=lh (dB t) i:=by
  apply mR;intro k;unfold lh;rw[mh,mh]
  by_cases hk:k<8
  ·rw[if_pos hk,if_pos hk,rO,rO,sQ (by omega)]
  ·rw[if_neg hk,if_neg hk]
 have:mf ((dB t).set (8*q+r) e) i=mf (dB t) i:=by unfold mf;rw[hp]
 rw[this,Bw hi hh]
theorem Qq {m:List Int} (hlm:l.length=m.length) (h:∀i (hi:i<l.length),l[i]=m[i]'(by omega)):(l==m)=true:=by
 rw[beq_iff_eq];exact tO hlm fun i h1 h2=>h i h1
theorem Qu {m:List Int} (k:Nat) (h1:k<l.length) (h2:k<m.length) (h:l[k]≠m[k]):(l==m)=false:=by
 rw[beq_eq_false_iff_ne];rintro rfl;exact h rfl
theorem zZ (t:Tb) (k:Nat) (h:k<64):(dB t)[k]?=some (dH t (k:Int)):=by
 unfold dB;simp[h]
theorem mU (t:Tb):(dB t).length=64:=by simp[dB]
theorem Nb (t:Tb):FQ t t=true:=GK fun _ _=>rfl
theorem rC {t:Tb} (h:cB t=0) (n:Int):eX (dH t n)=0:=by
 by_cases hn:0≤n∧n<64
 ·obtain⟨q,r,hq,hr,rfl,_,_⟩:=xz hn;rw[zu hq hr];split
  ·rename_i hl;rw[aS,aH (by omega)];exact zG (lF h q hq) _ (dN _)
  ·rfl
 ·rw[qN (by omega)];rfl
theorem QM {e:En} (h:eX e=0) (h2:Hr e=false):e=zEn:=by
 have h3:=EN h;rw[h2] at h3;have hk:e.k=0:=by simpa[oN] using h3
 unfold eX at h;obtain⟨k,n,w⟩:=e;simp only at hk;subst hk;simp at h
 by_cases h4:n<0∨60≤n
 ·rw[if_pos h4] at h;cases h
 rw[if_neg h4] at h
 by_cases h5:¬n=0∨w=true
 ·rw[if_pos h5] at h;cases h
 simp only[not_or,uf,Bool.not_eq_true] at h5;obtain⟨rfl,rfl⟩:=h5;rfl
theorem EJ {l:List En} {x:En} (h:x∈lh l i):x∈l:=List.mem_of_mem_drop (List.mem_of_mem_take h)
theorem HY {l:List En} (h:∀x∈l,eX x=0) (hl:l.length=64) (hi:i<8):lI (mf l i)=0:=by
 unfold mf
 by_cases hp:(lh l i).any Hr=true
 ·rw[if_pos hp];have a:(lh l i).length=8:=Dn hl hi (by omega);rw[xk (.inr a) (fun j hj=>h _ (EJ (dN hj))),if_neg];rintro⟨_,h2⟩;have h3:=GQ (h:=lh l i) (fun x hx=>h x (EJ hx));rw[hp] at h3;have h4:(lh l i).any oN=false:=h2;rw[h4] at h3;cases h3
 ·rw[if_neg hp];rfl
theorem BF {l:List En} (h:∀x∈l,eX x=0) (hl:l.length=64):cB (fU l)=0:=
 wH fun i hi=>by simp only[fU,rR];exact HY h hl hi
theorem yt {l:List En} (h:∀x∈l,eX x=0) (hl:l.length=64) (hn:n<64):dH (fU l) (n:Int)=l[n]'(by omega):=by
 obtain⟨q,r,hq,hr,d,_,_⟩:=xz (n:=(n:Int)) (by omega);have c : n=8*q+r:=by omega
 subst c;rw[zu hq hr];simp only[fU,rR];unfold mf;have b:(lh l q).length=8:=Dn hl hq (by omega);have a:(lh l q)[r]'(by omega)=l[8*q+r]'(by omega):=by simp[lh]
 by_cases hp:(lh l q).any Hr=true
 ·simp only[if_pos hp,if_pos b];rw[aS,aH (by omega),←a];rfl
 simp only[if_neg hp];rw[if_neg (by decide),←a];symm;refine QM (h _ (EJ (dN _))) ?_;simp only[iX,not_exists,not_and,Bool.not_eq_true] at hp;exact hp _ (dN _)
theorem yD {t:Tb} (h:cB t=0):fU (dB t)=t:=by
 apply xJ;intro i hi;simp only[fU,rR];exact Bw hi (lF h i hi)
theorem Dz {l:List En} (h:∀x∈l,eX x=0) (hl:l.length=64):dB (fU l)=l:=by
 apply tO
 ·rw[mU,hl]
 intro i h1 h2;have:=zZ (fU l) i (by omega);rw[yt h hl (by omega),aH h1] at this;exact aJ this
theorem Sl {t:Tb} (h:cB t=0):∀x∈dB t,eX x=0:=by
 intro x hx;obtain⟨i,hi,rfl⟩:=gW.1 hx;exact rC h _
theorem uX {t:Tb} {n:Int} {e:En} (h:setE t n e=0):cB t=0∧(0≤n∧n<64)∧eX e=0:=by
 unfold setE at h
 by_cases hw:cB t=0
 ·rw[if_neg (by rw[hw];simp)] at h
  by_cases hn:n<0∨64≤n
  ·rw[if_pos hn] at h;cases h
  rw[if_neg hn] at h;exact⟨hw,by omega,h⟩
 ·rw[if_pos hw] at h;exact absurd h hw
theorem NR {t:Tb} {n:Int} {e:En} (h1:cB t=0) (h2:0≤n∧n<64) (h3:eX e=0):setE t n e=0:=by
 unfold setE;rw[if_neg (by rw[h1];simp),if_neg (by omega),h3]
theorem GX {t:Tb} {e:En} (h1:cB t=0) (h3:eX e=0):∀x∈(dB t).set n e,eX x=0:=by
 intro x hx;rcases ni hx with hx|rfl
 ·exact Sl h1 x hx
 ·exact h3
theorem yB {t:Tb} {n:Int} {e:En} (h:setE t n e=0):cB (setT t n e)=0:=by
 obtain⟨h1,h2,h3⟩:=uX h;rw[Dm h];exact BF (GX h1 h3) (by rw[bH,mU])
theorem Tn {t:Tb} {n:Int} {e:En} (h:setE t n e=0) (k:Int):dH (setT t n e) k=if k=n then e else dH t k:=by
 obtain⟨h1,h2,h3⟩:=uX h;rw[Dm h]
 by_cases hk:0≤k∧k<64
 ·obtain⟨j,rfl⟩:=fE hk.1;rw[yt (GX h1 h3) (by rw[bH,mU]) (by omega)];rw[CQ]
  by_cases e0:(j:Int)=n
  ·rw[if_pos (by omega),if_pos e0]
  rw[if_neg (by omega),if_neg e0];have:=zZ t j (by omega);rw[aH (by rw[mU];omega)] at this;exact aJ this
 ·rw[if_neg (by omega),qN (by omega),qN (by omega)]
theorem Rx (t:Tb):∀n∈aP t,0≤n∧n<64:=by
 intro n hn;unfold aP jr at hn;obtain⟨m,hm,rfl⟩:=gW.1 hn;have:=dE.1 (Ho.1 hm).1;omega
theorem JG {t:Tb} (h:cB t=0):Fu t:=fun k hk=>by
 have:=oL (lF h k hk);omega
theorem zTb_right:cB zTb=0:=by decide
theorem ME {m:Mem} {f:Fr} (hw:bL m=0) (hf:dR f=0):bL ⟨m.fs.set k f,m.hand⟩=0:=by
 obtain⟨h1,h2,h3,h4⟩:=(eH m).1 hw;rw[eH];simp only[bH];refine⟨h1,fun g hg => ?_,h3,h4⟩;rcases ni hg with h|rfl
 ·exact h2 g h
 ·exact hf
theorem Uo {f:Fr} (h:dR f=0) (hr:f.r=0):f=frZ:=by
 obtain⟨⟨_,_,h1,_,_,_⟩,h2,h3⟩:=(iH f).1 h;obtain⟨h4,h5,h6,h7⟩:=h2 hr;have h8:=h3 h6;have h9:f.f = -1:=by omega
 obtain⟨p,r,u,d,ff,i⟩:=f;simp only at *
 subst hr h4 h5 h7 h8 h9;rfl
theorem Dj (h:dn l=0):∀x∈l,qD x=false:=by
 unfold dn at h;split at h
 ·omega
 split at h
 ·omega
 rename_i h1;intro x hx;have:=tY.1 (by simpa using h1) x hx;simpa using this
theorem FH (hl:l.length≤60) (h:∀x∈l,qD x=false):dn l=0:=by
 unfold dn;rw[if_neg (by omega),if_neg];simp only[iX,not_exists,not_and];intro x hx;simp[h x hx]
theorem Dq (k:Nat) (x:Int) (h:dn l=0) (h0:0≤x) (h1:x≤1000):dn (l.set k x)=0:=by
 refine FH (by rw[bH];exact ja h) fun y hy => ?_;rcases ni hy with hm|rfl
 ·exact Dj h _ hm
 ·simp[qD];omega
theorem DD (f:Nat→Bool) (B:List Page) (Q:List (Int × Page)) (hq:∀x∈Q,0≤x.1) (n i:Nat) (hi:i<B.length):(iF f B Q n)[i]?=some B[i]∨∃x∈Q,x.1=(i:Int)∧(iF f B Q n)[i]?=some x.2:=by
 induction n with
 | zero=>exact .inl (aH hi)
 | succ n ih=>
  by_cases hn:n<Q.length
  ·cases hf:f n with
   | false=>rw[Az hn hf];exact ih
   | true=>
    rw[xS hn hf,kW]
    by_cases he:Q[n].1.toNat=i
    ·have h0:=hq _ (dN hn);rw[if_pos he,if_pos (by rw[jk];omega)];exact .inr ⟨Q[n],dN hn,by omega,rfl⟩
    ·rw[if_neg he];exact ih
  have:iF f B Q (n+1)=iF f B Q n:=by rw[iF,dI (by omega)]
  rw[this];exact ih
theorem Qc (B:List Page) (Q:List (Int × Page)) (hq:∀x∈Q,0≤x.1) (n i:Nat) (hn:n≤Q.length) (hi:i<B.length):(iF (fun _=>true) B Q n)[i]?=some (over (i:Int) B[i] (Q.take n)):=by
 induction n with
 | zero=>simp[iF,over,hi]
 | succ n ih=>
  have a : n<Q.length:=by omega
  rw[xS a rfl,kW,Gy _ _ _ _ a];have h0:=hq _ (dN a)
  by_cases he:Q[n].1.toNat=i
  ·rw[if_pos he,if_pos (by rw[jk];omega),if_pos (by omega)]
  ·rw[if_neg he,if_neg (by omega)];exact ih (by omega)
theorem yE (f:Nat→Bool) {d:pR} (hw:aY d=0):aY (jo f d)=0:=by
 obtain⟨h2,h3,h4⟩:=(eO d).1 hw;rw[eO];unfold jo;rw[if_pos hw];simp only[jk];exact⟨h2,by simp,by simp⟩
theorem Kj (f:Nat→Bool) {d:pR} (hw:aY d=0) (k:Int):aL (jo f d) k=aL d k:=by
 unfold aL;rw[yE f hw,hw];unfold jo;rw[if_pos hw];simp only[jk]
theorem Mo {d:pR} (hw:aY d=0) (k:Int):jc (jo (fun _=>true) d) k=jc d k:=by
 unfold jc;rw[Kj _ hw]
 by_cases h:aL d k=0
 ·obtain⟨_,h0,h1⟩:=kX.1 h;obtain⟨h2,h3,h4⟩:=(eO d).1 hw;rw[if_pos h,if_pos h];unfold jo;rw[if_pos hw];obtain⟨k,rfl⟩:=fE h0;have:=Qc d.blocks d.queue (fun x hx=>(h4 x hx).1) d.queue.length k (ay _) (by omega);simp only[bR,over,List.foldl_nil,aS];rw[this,xQ,aH (by omega)];rfl
 ·rw[if_neg h,if_neg h]
theorem Gj {α:Type} {l:List α} {x:α} (h:l[i]?=some x) (y:α):l=l.take i++x::l.drop (i+1)∧l.set i y=l.take i++y::l.drop (i+1):=by
 obtain⟨hi,rfl⟩:=cK.1 h;refine⟨?_,?_⟩
 ·rw[List.getElem_cons_drop,qp]
 ·rw[List.set_eq_take_append_cons_drop,if_pos hi]
theorem RH {x:Int} (h:x<0) (l:List Int):ku (x::l)=ku l:=by unfold ku;rw[Il,if_neg (by simp;omega)]
theorem GU {x:Int} (h:0≤x) (l:List Int):ku (x::l)=x::ku l:=by unfold ku;rw[Il,if_pos (by simpa using h)]
theorem Ky {s:St} {F:Nat} {f:Fi} (hf:s.fs[F]?=some f) {v:Int} (hv:f.b[I]?=some v) (hn:v<0) {X:Int} (hX:0≤X) (n c:Int) :
  (ku (kE ⟨s.fs.set F ⟨n,f.b.set I X⟩,c⟩)).Perm (X::ku (kE s)):=by
 have e1:=Gj hf ⟨n,f.b.set I X⟩;have e2:=Gj hv X;unfold kE;show (ku ((s.fs.set F ⟨n,f.b.set I X⟩).flatMap Fi.b)).Perm (X::ku (s.fs.flatMap Fi.b));rw[e1.2]
 conv=>rhs;rw[e1.1]
 simp only[eY,lX,uo];rw[e2.2]
 conv=>rhs;rw[show f.b=f.b.take I++v::f.b.drop (I+1) from e2.1]
 simp only[uo,RH hn,GU hX];refine List.Perm.trans ?_ List.perm_middle;refine List.Perm.append_left _ ?_;rw[jG,jG];exact List.perm_middle
theorem FE {s:St} (h:0≤gK s):gK s<s.count∧gL s (gK s)=false:=by
 unfold gK at h ⊢;cases hf:(List.range s.count.toNat).find? (fun b:Nat => !gL s b) with
 | none=>rw[hf] at h;simp at h
 | some b=>
  have h1:=dE.1 (tZ hf);have h2:=qo hf;simp only;refine⟨by omega,by simpa using h2⟩
theorem BK {s:St} {k i:Int} (h:dw s k i=0):aO s=0∧∃(F I:Nat) (f:Fi) (v:Int),k=F∧i=I∧s.fs[F]?=some f∧f.b[I]?=some v∧aK s k=f∧aX s k i=v ∧
  ((0≤v∧dJ s k i=s∧dD s k i=v)∨(v<0∧0≤gK s∧dD s k i=gK s∧dJ s k i=⟨s.fs.set F ⟨f.n,f.b.set I (gK s)⟩,s.count⟩)):=by
 have h':=h;unfold dw at h'
 by_cases g1:aO s≠0
 ·rw[if_pos g1] at h'; exact absurd h' g1
 rw[if_neg g1] at h'
 by_cases g2:k<0∨(s.fs.length:Int)≤k
 ·rw[if_pos g2] at h'; cases h'
 rw[if_neg g2] at h'
 by_cases g3:i<0∨((aK s k).b.length:Int)≤i
 ·rw[if_pos g3] at h'; cases h'
 rw[if_neg g3] at h'
 by_cases g4:aX s k i<0∧gK s<0
 ·rw[if_pos g4] at h'; cases h'
 obtain⟨F,rfl⟩:=fE (show 0≤k by omega);obtain⟨I,rfl⟩:=fE (show 0≤i by omega);have hF:F<s.fs.length:=by omega
 have a:aK s F=s.fs[F]:=by unfold aK;rw[if_pos (by omega),bR,aS,aH hF];rfl
 rw[a] at g3;have hI:I<s.fs[F].b.length:=by omega
 have c:aX s F I=s.fs[F].b[I]:=by unfold aX;rw[a,bR,aS,aH hI];rfl
 refine⟨uf.1 g1,F,I,s.fs[F],s.fs[F].b[I],rfl,rfl,aH hF,aH hI,a,c,?_⟩;have hS:dJ s F I=if aX s F I<0 then zL s F ⟨(aK s F).n,(aK s F).b.set ((I:Int)).toNat (gK s)⟩ else s:=by unfold dJ;rw[if_neg (by rw[h];simp)]
 have hN:dD s F I=if aX s F I<0 then gK s else aX s F I:=by unfold dD;rw[if_neg (by rw[h];simp)]
 rw[hS,hN,c];rw[c] at g4
 by_cases g5:s.fs[F].b[I]<0
 ·refine .inr ⟨g5,by omega,if_pos g5,?_⟩;rw[if_pos g5,a,bR];unfold zL;rw[bR]
 ·exact .inl ⟨by omega,if_neg g5,if_neg g5⟩
theorem Hy {s:St} {x:Int} (h:gL s x=false):¬x∈kE s:=by
 unfold gL at h;simpa using h
theorem Qm {s:St} {F:Nat} {f:Fi} {v:Int} (h:aO s=0) (hf:s.fs[F]?=some f) (hv:f.b[I]?=some v) (h0:0≤v):dw s F I=0∧dD s F I=v∧dJ s F I=s:=by
 have hF:=(cK.1 hf).1;have hI:=(cK.1 hv).1;have c:aK s F=f:=by unfold aK;rw[if_pos (by omega),bR,aS,hf];rfl
 have a:aX s F I=v:=by unfold aX;rw[c,bR,aS,hv];rfl
 have hE:dw s F I=0:=by unfold dw;rw[if_neg (by rw[h];simp),if_neg (by omega),c,if_neg (by omega),a,if_neg (by omega)]
 refine⟨hE,?_,?_⟩
 ·unfold dD;rw[if_neg (by rw[hE];simp),a,if_neg (by omega)]
 ·unfold dJ;rw[if_neg (by rw[hE];simp),a,if_neg (by omega)]
theorem Cb {s:St} (h:aO s=0) {F:Nat} {f:Fi} {v:Int} (hf:s.fs[F]?=some f) (hv:f.b[I]?=some v) (hn:v<0) {X:Int} (hX:0≤X) (hXc:X<s.count) (hu:gL s X=false) :
  aO ⟨s.fs.set F ⟨f.n,f.b.set I X⟩,s.count⟩=0:=by
 obtain⟨h1,h2,h3⟩:=kZ.1 h;have a:=h2 f (bO hf);refine kZ.2 ⟨by simpa using h1,fun g hg => ?_,?_⟩
 ·rcases ni hg with hg|rfl
  ·exact h2 g hg
  refine⟨a.1,a.2.1,by simpa using a.2.2.1,fun b hb => ?_⟩;rcases ni hb with hb|rfl
  ·exact a.2.2.2 b hb
  show -1≤b∧b<s.count;omega
 ·exact (Ky hf hv hn hX f.n s.count).nodup_iff.2 (sF.2 ⟨fun hm=>Hy hu (iW.1 hm).1,h3⟩)
theorem KC {s:St} {k i:Int} (h:dw s k i=0):aO (dJ s k i)=0∧dw (dJ s k i) k i=0∧dD (dJ s k i) k i=dD s k i∧dJ (dJ s k i) k i=dJ s k i ∧
  ((0≤aX s k i∧dJ s k i=s)∨(aX s k i<0∧gL s (dD s k i)=false∧yw (dJ s k i)=yw s-1)):=by
 obtain⟨hw,F,I,f,v,rfl,rfl,hf,hv,e,c,hc⟩:=BK h;rcases hc with ⟨h0,hS,hN⟩|⟨hn,h0,hN,hS⟩
 ·rw[hS];exact⟨hw,h,rfl,hS,.inl ⟨by rw[c];exact h0,rfl⟩⟩
 obtain⟨d,hu⟩:=FE h0;have a:=Cb hw hf hv hn h0 d hu;have hF:=(cK.1 hf).1;have hI:=(cK.1 hv).1;have hb:=Qm (F:=F) (I:=I) (f:=⟨f.n,f.b.set I (gK s)⟩) (v:=gK s) a (vC hF) (vC hI) h0;rw[hS,hN];refine⟨a,hb.1,hb.2.1,hb.2.2,.inr ⟨by rw[c];exact hn,hu,?_⟩⟩;have hp:=(Ky hf hv hn h0 f.n s.count).length_eq;unfold yw;show s.count-((ku _).length:Int)=s.count-((ku _).length:Int)-1;rw[hp,pq];omega
structure Cc where
 f:Int
 i:Int
 k:Int
 deriving DecidableEq
def Ao (c:Cc):Array Value:=#[.int .i64 c.f,.int .i64 c.i,.int .i64 c.k]
def mD (c:Cc):List Value:=(Ao c).toList
theorem pE (c:Cc):(mD c).length=3:=rfl
structure Sp where
 lv:Bool
 ar:List Ar
 tb:Tb
 deriving DecidableEq
structure Ma where
 m:Mem
 sl:List Int
 sw:pR
 dk:pR
 st:St
 ca:List Cc
 sp:List Sp
def zCc:Cc:=⟨0,0,0⟩
def zSp:Sp:=⟨false,[],zTb⟩
def zMa:Ma:=⟨noM,[],⟨[],[]⟩,⟨[],[]⟩,zSt,[],[]⟩
def cnt (l:List Int) (k:Int):Nat:=l.countP fun x=>decide (x=k)
def trimB (m:Ma):Bool:=
 (List.range m.dk.blocks.length).all (fun b:Nat=>decide ((b:Int)∈kE m.st)||decide (m.dk.blocks.getD b zPg=zPg))&&m.dk.queue.all fun q=>decide (q.1∈kE m.st)
def jB (s:Sp):Int:=if (bI s.ar).1≠0 then (bI s.ar).1 else if cB s.tb≠0 then cB s.tb else if s.lv=false∧0<s.ar.length+(aP s.tb).length then 7 else 0
def ic (m:Ma):Int:=
 if bL m.m≠0 then bL m.m else if dn m.sl≠0 then dn m.sl else if aY m.sw≠0 then aY m.sw else if aY m.dk≠0 then aY m.dk else if aO m.st≠0 then aO m.st
 else if m.sw.blocks.length≠m.sl.length∨(m.dk.blocks.length:Int)≠m.st.count∨trimB m=false then 7
 else if 4<m.sp.length then 4 else firstE (m.sp.map jB)
def rH (m:Ma) (k:Int):Fr:=m.m.fs.getD k.toNat fr0
def sU (m:Ma) (p:Option Cc) (c:Cc):Int:=
 if c.f<0∨(m.st.fs.length:Int)≤c.f∨c.i<0∨((aK m.st c.f).b.length:Int)≤c.i∨c.k<0∨(m.m.fs.length:Int)≤c.k then 3
 else if (rH m c.k).r<1∨(rH m c.k).f≠c.f∨(rH m c.k).i≠c.i then 7
 else match p with
  | none=>0
  | some q=>if c.f<q.f∨q.f=c.f∧c.i≤q.i then 2 else 0
def xX (l:List Cc) (k:Nat):Option Cc:=if k=0 then none else l[k-1]?
def cachedE (m:Ma):Int:=firstE ((List.range m.ca.length).map fun k=>sU m (xX m.ca k) (m.ca.getD k zCc))
def bQ (m:Ma) (s:Sp) (n:Int):Int:=
 if kH s.ar n<0 then 5 else
 let a:=s.ar.getD (kH s.ar n).toNat zAr;let e:=dH s.tb n
 if e.k=2 then (if (m.sl.length:Int)≤e.n∨a.sh=true then 7 else 0)
 else if (m.m.fs.length:Int)≤e.n then 3 else
 let f:=rH m e.n;let of:=decide (0≤a.fi)&&decide (f.f=a.fi)&&decide (f.i=a.ba+n-a.fr)
 if 0≤f.f∧of=false∨a.sh=true∧of=false∨a.sh=false∧of=true∧e.w=true∨e.w=true∧a.wr=false then 7
 else if f.f<0∧e.w=true∧1<f.r then 7 else 0
def mH (m:Ma):Int:=firstE (m.sp.flatMap fun s=>(aP s.tb).map (bQ m s))
def nD (t:Tb) (l:List Int):List Int:=(l.filter fun n=>decide ((dH t n).k=1)).map fun n=>(dH t n).n
def swapT (t:Tb) (l:List Int):List Int:=(l.filter fun n => !decide ((dH t n).k=1)).map fun n=>(dH t n).n
def rP (m:Ma):List Int:=m.ca.map Cc.k++m.sp.flatMap fun s=>nD s.tb (aP s.tb)
def pQ (m:Ma):List Int:=m.sp.flatMap fun s=>swapT s.tb (aP s.tb)
def kF (n:Nat) (l:List Int):List Int:=(List.range n).map fun i:Nat=>(cnt l i:Int)
def countB (m:Ma):Bool:=
 (List.range m.m.fs.length).all (fun i:Nat=>decide ((rH m i).r=cnt (rP m) i)&&(decide ((rH m i).f<0)||m.ca.any fun c=>decide (c.k=i)))&&decide (m.sl=kF m.sl.length (pQ m))
def jK (m:Ma):Int:=if ic m≠0 then ic m else if cachedE m≠0 then cachedE m else if mH m≠0 then mH m else if countB m=true then 0 else 7
def bA (m:Ma) (f i:Int):Page:=
 match m.ca.find? fun c=>decide (c.f=f)&&decide (c.i=i) with
 | some c=>(rH m c.k).p
 | none=>if 0≤aX m.st f i then fu (jc m.dk (aX m.st f i)) ((aK m.st f).n-i*8) else zPg
def Ca (s:St) (f i:Int):Bool:=decide (dW (aK s f).n≤i)
structure Kp where
 m:Ma
 e:Int
def jg (k e:Int):Int:=if k=0 then e else k
def fF (m:Ma) (p:Nat):Sp:=m.sp.getD p zSp
def setTb (m:Ma) (p:Nat) (t:Tb):Ma:={ m with sp:=m.sp.set p { fF m p with tb:=t } }
def jT (k:Kp) (p:Nat) (n:Int) (x:En):Kp:=
 if setE (fF k.m p).tb n x=0 then ⟨setTb k.m p (setT (fF k.m p).tb n x),k.e⟩ else ⟨k.m,jg k.e (setE (fF k.m p).tb n x)⟩
def iJ (k:Kp) (f n:Int):Kp:=
 if nz k.m.m f n=0 then ⟨{ k.m with m:=lL k.m.m f n },k.e⟩ else ⟨k.m,jg k.e (nz k.m.m f n)⟩
def pu (k:Kp) (s n:Int):Kp:=
 if gD k.m.sl s n=0 then ⟨{ k.m with sl:=gG k.m.sl s n },k.e⟩ else ⟨k.m,jg k.e (gD k.m.sl s n)⟩
def qh (k:Kp) (p:Nat) (n:Int):Kp:=
 let x:=dH (fF k.m p).tb n
 if x.k=1 then jT (iJ k x.n (-1)) p n zEn else if x.k=2 then jT (pu k x.n (-1)) p n zEn else k
def Aw (f i:Int) (c:Cc):Bool:=decide (f<c.f)||(decide (c.f=f)&&decide (i≤c.i))
def yR (l:List Cc) (f i:Int):Nat:=(l.findIdx? (Aw f i)).getD l.length
def QF (l:List Cc) (f i:Int):Bool:=match l[yR l f i]? with
 | some c=>decide (c.f=f)&&decide (c.i=i)
 | none=>false
def setFr (m:Ma) (f:Nat) (x:Fr):Ma:={ m with m:={ m.m with fs:=m.m.fs.set f x } }
def aN (m:Ma) (f:Nat):Fr:=m.m.fs.getD f fr0
def iA (m:Ma) (f:Nat):Bool:=decide ((aN m f).f<0)||!(aN m f).d||decide (dw m.st (aN m f).f (aN m f).i=0)
def iG (k:Kp) (f:Nat):Kp:=
 let x:=aN k.m f
 if x.f<0∨x.d=false∨dw k.m.st x.f x.i≠0 then k
 else ⟨setFr { k.m with st:=dJ k.m.st x.f x.i,dk:=dC k.m.dk (dD k.m.st x.f x.i) x.p } f { x with d:=false },jg k.e (aL k.m.dk (dD k.m.st x.f x.i))⟩
def bn (m:Ma) (f:Int):List (Nat × Int):=(List.range m.sp.length).flatMap fun p=>(nY (fF m p).tb 1 f).map fun n=>(p,n)
def kP (k:Kp) (l:List (Nat × Int)):Kp:=l.foldl (fun k u=>qh k u.1 u.2) k
def Ga (f n:Int) (k:Kp) (u:Nat × Int):Kp:=jT (iJ k f (-1)) u.1 u.2 ⟨2,n,false⟩
def rG (k:Kp) (f n:Int) (l:List (Nat × Int)):Kp:=l.foldl (Ga f n) k
def mr (m:Ma) (f:Nat):Bool:=if 0≤(aN m f).f then iA m f else decide (ig m.sl (bn m f).length=0)
def fH (k:Kp) (f:Nat):Kp:=
 let x:=aN k.m f;let l:=bn k.m f
 if 0≤x.f then
  if iA k.m f=false then k else
  let k2:=kP (iG k f) l
  if QF k2.m.ca x.f x.i=true then iJ ⟨{ k2.m with ca:=k2.m.ca.eraseIdx (yR k2.m.ca x.f x.i) },k2.e⟩ f (-1) else k2
 else if ig k.m.sl l.length≠0 then k
 else rG ⟨{ k.m with sl:=lM k.m.sl l.length,sw:=dC k.m.sw (jF k.m.sl l.length) x.p },jg k.e (aL k.m.sw (jF k.m.sl l.length))⟩ f (jF k.m.sl l.length) l
def reclaimN:Nat→Kp→Kp × Bool
 | 0,k=>(k,false)
 | t+1,k=>
  if bL k.m.m≠0∨iM k.m.m<0 then (⟨k.m,jg k.e (bL k.m.m)⟩,false) else
  let k1:Kp:=⟨{ k.m with m:=fM k.m.m },k.e⟩
  if mr k1.m (iM k.m.m).toNat=true then (fH k1 (iM k.m.m).toNat,true) else reclaimN t (fH k1 (iM k.m.m).toNat)
def eB (k:Kp):Kp × Bool:=reclaimN (2*k.m.m.fs.length+1) k
def Rm (m:Ma) (i:Nat):Cc:=m.ca.getD i zCc
def fV (m:Ma) (f i:Int):Page:=if 0≤aX m.st f i then fu (jc m.dk (aX m.st f i)) ((aK m.st f).n-i*8) else zPg
def Cy (k:Kp) (i:Nat):Kp:=
 let c:=Rm k.m i;let k1:=kP k (bn k.m c.k)
 iJ ⟨{ k1.m with ca:=k1.m.ca.eraseIdx i },k1.e⟩ c.k (-1)
def ent (m:Ma) (p:Nat) (n:Int):En:=dH (fF m p).tb n
structure Pt (m:Ma):Prop where
 fr:bL m.m=0
 sl:dn m.sl=0
 sw:aY m.sw=0
 dk:aY m.dk=0
 st:aO m.st=0
 swl:m.sw.blocks.length=m.sl.length
 dkl:(m.dk.blocks.length:Int)=m.st.count
 spl:m.sp.length≤4
 ar:∀s∈m.sp,(bI s.ar).1=0
 tb:∀s∈m.sp,cB s.tb=0
theorem EA {m:Ma} (h:p<m.sp.length):m.sp[p]?=some (fF m p):=by
 unfold fF;rw[aS,aH h];rfl
theorem CP {m:Ma} (h:p<m.sp.length):fF m p∈m.sp:=bO (EA h)
theorem nR {m:Ma} (h:m.sp.length≤p):fF m p=zSp:=by
 unfold fF;rw[aS,dI h];rfl
theorem NT {m:Ma} {s:Sp} (h:s∈m.sp):∃p,p<m.sp.length∧s=fF m p:=by
 obtain⟨i,hi,rfl⟩:=jC.1 h;refine⟨i,hi,?_⟩;have:=EA (m:=m) hi;rw[aH hi] at this;exact aJ this
theorem Pt.tbN {m:Ma} (h:Pt m) (p:Nat):cB (fF m p).tb=0:=by
 rcases fG p m.sp.length with hp|hp
 ·exact h.tb _ (CP hp)
 ·rw[nR hp];decide
theorem Pt.arN {m:Ma} (h:Pt m) (p:Nat):(bI (fF m p).ar).1=0:=by
 rcases fG p m.sp.length with hp|hp
 ·exact h.ar _ (CP hp)
 ·rw[nR hp];decide
theorem tT {m:Ma} (h:Pt m) (p:Nat) (n:Int):eX (ent m p n)=0:=rC (h.tbN p) n
theorem Oj {m:Ma} (p:Nat) {n:Int} (h:n<0∨64≤n):ent m p n=zEn:=qN h
theorem dx (e:En):eX e=0↔(e.k=0∧e.n=0∧e.w=false)∨(e.k=1∧0≤e.n∧e.n<40)∨(e.k=2∧0≤e.n∧e.n<60∧e.w=false):=by
 obtain⟨k,n,w⟩:=e;unfold eX;simp only;cases w
 all_goals
  simp only[uQ,reduceCtorEq,and_true,and_false,or_false,false_or,or_true];constructor
  ·intro h;split at h
   ·omega
   split at h
   ·omega
   ·split at h<;>omega
  intro h;split
  ·omega
  split
  ·omega
  split
  ·omega
  ·rfl
theorem FP {m:Ma} {t:Tb} (hp:p<m.sp.length) (q:Nat):fF (setTb m p t) q=if q=p then { fF m p with tb:=t } else fF m q:=by
 unfold setTb;show (m.sp.set p _).getD q zSp=_;rw[aS,kW]
 by_cases e:q=p
 ·subst e;rw[if_pos rfl,if_pos hp,if_pos rfl];rfl
 ·rw[if_neg (fun h=>e h.symm),if_neg e];unfold fF;rw[aS]
theorem PD {m:Ma} {t:Tb} (hp:p<m.sp.length) (q:Nat) (n:Int):ent (setTb m p t) q n=if q=p then dH t n else ent m q n:=by
 unfold ent;rw[FP hp]
 by_cases e:q=p
 ·rw[if_pos e,if_pos e]
 ·rw[if_neg e,if_neg e]
theorem uF {m:Ma} {t:Tb}:(setTb m p t).sp.length=m.sp.length:=bH
theorem Pt.setTb {m:Ma} (h:Pt m) {p:Nat} {t:Tb} (ht:cB t=0):Pt (setTb m p t):=by
 by_cases hp:p<m.sp.length
 ·refine { h with spl:=by rw[uF];exact h.spl,ar:=fun s hs => ?_,tb:=fun s hs => ?_ }
  ·rcases ni hs with hs|rfl
   ·exact h.ar s hs
   ·exact h.arN p
  rcases ni hs with hs|rfl
  ·exact h.tb s hs
  ·exact ht
 have:Go.Proofs.YtjkkoeijlhfneaaGreat.setTb m p t=m:=by unfold Go.Proofs.YtjkkoeijlhfneaaGreat.setTb;rw[List.set_eq_of_length_le (by omega)]
 rw[this];exact h
def qM (kd i:Int) (e:En):Bool:=decide (e.k=kd)&&decide (e.n=i)
def dA (m:Ma) (kd i:Int):Nat:=(m.sp.map fun s=>(dB s.tb).countP (qM kd i)).sum
def vU (b:Bool):Nat:=if b=true then 1 else 0
theorem countP_set {α:Type} (q:α→Bool):∀(l:List α) (k:Nat) (h:k<l.length) (x:α),(l.set k x).countP q+vU (q l[k])=l.countP q+vU (q x)
 | a::l,0,_,x=>by simp only[qC,zH,nJ,vU];omega
 | a::l,k+1,h,x=>by have:=countP_set q l k (by simpa using h) x;simp only[uZ,Cz,nJ];omega
theorem sum_set:∀(l:List Nat) (k:Nat) (h:k<l.length) (x:Nat),(l.set k x).sum+l[k]=l.sum+x
 | a::l,0,_,x=>by simp only[qC,zH,zm];omega
 | a::l,k+1,h,x=>by have:=sum_set l k (by simpa using h) x;simp only[uZ,Cz,zm];omega
theorem Ac {t:Tb} {n:Int} {e:En} (h:setE t n e=0):dB (setT t n e)=(dB t).set n.toNat e:=by
 obtain⟨h1,h2,h3⟩:=uX h;rw[Dm h,Dz (GX h1 h3) (by rw[bH,mU])]
theorem Ms {t:Tb} {n:Int} {e:En} (h:setE t n e=0) (q:En→Bool):(dB (setT t n e)).countP q+vU (q (dH t n))=(dB t).countP q+vU (q e):=by
 obtain⟨h1,h2,h3⟩:=uX h;have hl:n.toNat<(dB t).length:=by rw[mU];omega
 have h4:=countP_set q (dB t) n.toNat hl e;have h5:=zZ t n.toNat (by omega);rw[aH hl,xx h2.1] at h5;rw[aJ h5] at h4;rw[Ac h];exact h4
theorem wO {m:Ma} (hp:p<m.sp.length) {n:Int} {x:En} (h:setE (fF m p).tb n x=0) (kd i:Int) :
  dA (setTb m p (setT (fF m p).tb n x)) kd i+vU (qM kd i (ent m p n))=dA m kd i+vU (qM kd i x):=by
 have h1:=Ms h (qM kd i);have h2:=sum_set (m.sp.map fun s=>(dB s.tb).countP (qM kd i)) p (by simpa using hp) ((dB (setT (fF m p).tb n x)).countP (qM kd i));unfold dA setTb;rw[CU];have h3:(m.sp.map fun s=>(dB s.tb).countP (qM kd i))[p]'(by simpa using hp)=(dB (fF m p).tb).countP (qM kd i):=by rw[uS];have:=EA hp;rw[aH hp] at this;rw[aJ this]
 rw[h3] at h2;have h4:vU (qM kd i (ent m p n))=vU (qM kd i (dH (fF m p).tb n)):=rfl;simp only;omega
theorem UN {l:List Nat}:0<l.sum↔∃k,∃h:k<l.length,0<l[k]:=by
 induction l with
 | nil=>simp
 | cons a l ih=>
  rw[zm];constructor
  ·intro h
   by_cases ha:0<a
   ·exact⟨0,by simp,by simpa using ha⟩
   obtain⟨k,hk,hx⟩:=ih.1 (by omega);exact⟨k+1,by simpa using hk,by simpa using hx⟩
  rintro⟨k,hk,hx⟩;cases k with
  | zero=>simp at hx;omega
  | succ k=>
   have:=ih.2 ⟨k,by simpa using hk,by simpa using hx⟩;omega
theorem zA {m:Ma} {i:Int} (hk:kd≠0):0<dA m kd i↔∃p n,p<m.sp.length∧(0≤n∧n<64)∧(ent m p n).k=kd∧(ent m p n).n=i:=by
 unfold dA;rw[UN];constructor
 ·rintro⟨p,hp,h⟩;have a : p<m.sp.length:=by simpa using hp
  rw[uS] at h;obtain⟨e,he,hq⟩:=wU.1 h;obtain⟨j,hj,rfl⟩:=jC.1 he;have b : j<64:=by rw[mU] at hj;exact hj
  have hs:m.sp[p]=fF m p:=by have:=EA a;rw[aH a] at this;exact aJ this
  have h5:=zZ m.sp[p].tb j b;rw[aH hj] at h5;rw[aJ h5,hs] at hq;unfold qM at hq;simp only[dS,decide_eq_true_eq] at hq;exact⟨p,j,a,by omega,hq.1,hq.2⟩
 rintro⟨p,n,hp,hn,h1,h2⟩;refine⟨p,by simpa using hp,?_⟩;rw[uS,wU];have hs:m.sp[p]=fF m p:=by have:=EA hp;rw[aH hp] at this;exact aJ this
 refine⟨ent m p n,?_,by unfold qM;rw[h1,h2];simp⟩;rw[hs];have h5:=zZ (fF m p).tb n.toNat (by omega);rw[xx hn.1] at h5;exact bO h5
theorem yG {m:Ma} (h:f<m.m.fs.length):m.m.fs[f]?=some (aN m f):=by
 unfold aN;rw[aS,aH h];rfl
theorem UF {m:Ma} (h:f<m.m.fs.length):aN m f∈m.m.fs:=bO (yG h)
theorem NI {m:Ma} (h:m.m.fs.length≤f):aN m f=fr0:=by
 unfold aN;rw[aS,dI h];rfl
theorem lH {m:Ma} {x:Fr} (h:f<m.m.fs.length) (g:Nat):aN (setFr m f x) g=if g=f then x else aN m g:=by
 unfold aN setFr;simp only;rw[aS,kW]
 by_cases e:g=f
 ·subst e;rw[if_pos rfl,if_pos h,if_pos rfl];rfl
 ·rw[if_neg (fun e'=>e e'.symm),if_neg e,aS]
theorem ny {m:Ma} {x:Fr}:(setFr m f x).m.fs.length=m.m.fs.length:=bH
theorem Pt.frE {m:Ma} (h:Pt m) (hf:f<m.m.fs.length):dR (aN m f)=0:=((eH _).1 h.fr).2.1 _ (UF hf)
theorem Pt.setFr {m:Ma} (h:Pt m) {f:Nat} {x:Fr} (hx:dR x=0):Pt (setFr m f x):={ h with fr:=ME h.fr hx }
theorem TA {x:Fr} {n:Int} (h:dR x=0) (hr:x.r≠0) (h1 : -x.r≤n) (h2:n≤1000-x.r):dR (jA x n)=0:=by
 unfold jA
 by_cases h0:x.r+n=0
 ·rw[if_pos h0];decide
 rw[if_neg h0,iH];have:=(iH x).1 h;refine⟨by simp only;omega,fun h3=>absurd h3 h0,this.2.2⟩
theorem Su {m:Mem} {k n:Int} (h:bL m=0) (hk:0≤k∧k<m.fs.length) (hr:(m.fs.getD k.toNat fr0).r≠0) (h1 : -(m.fs.getD k.toNat fr0).r≤n) (h2:n≤1000-(m.fs.getD k.toNat fr0).r):nz m k n=0:=by
 unfold nz;rw[if_neg (by rw[h];simp),if_neg (by omega),if_neg (by omega)]
theorem KF {k:Kp} {n:Int} (h:Pt k.m) (hf:f<k.m.m.fs.length) (hr:(aN k.m f).r≠0) (h1 : -(aN k.m f).r≤n) (h2:n≤1000-(aN k.m f).r) :
  iJ k f n=⟨setFr k.m f (jA (aN k.m f) n),k.e⟩∧Pt (setFr k.m f (jA (aN k.m f) n)):=by
 have h0:nz k.m.m (f:Int) n=0:=Su h.fr (by omega) hr h1 h2;refine⟨?_,h.setFr (TA (h.frE hf) hr h1 h2)⟩;unfold iJ;rw[if_pos h0];congr 1;unfold lL;rw[if_pos h0];rfl
def oZ (m:Ma) (s:Nat):Int:=m.sl.getD s 0
def setSl (m:Ma) (s:Nat) (n:Int):Ma:={ m with sl:=m.sl.set s n }
theorem LV {m:Ma} (h:f<m.sl.length):m.sl[f]?=some (oZ m f):=by
 unfold oZ;rw[aS,aH h];rfl
theorem Ob {m:Ma} {x:Int} (h:f<m.sl.length) (g:Nat):oZ (setSl m f x) g=if g=f then x else oZ m g:=by
 unfold oZ setSl;simp only;rw[aS,kW]
 by_cases e:g=f
 ·subst e;rw[if_pos rfl,if_pos h,if_pos rfl];rfl
 ·rw[if_neg (fun e'=>e e'.symm),if_neg e,aS]
theorem Pt.slB {m:Ma} (h:Pt m) (s:Nat):0≤oZ m s∧oZ m s≤1000:=by
 rcases fG s m.sl.length with hs|hs
 ·have:=Dj h.sl _ (bO (LV hs));unfold qD at this;simp only[zx,decide_eq_false_iff_not] at this;omega
 ·unfold oZ;rw[aS,dI hs];simp
theorem Pt.setSl {m:Ma} (h:Pt m) {s:Nat} {n:Int} (h0:0≤n) (h1:n≤1000):Pt (setSl m s n):=
 { h with sl:=Dq s n h.sl h0 h1,swl:=h.swl.trans bH.symm }
theorem uu {k:Kp} {n:Int} {x:En} (h:Pt k.m) (hn:0≤n∧n<64) (hx:eX x=0) :
  setE (fF k.m p).tb n x=0∧jT k p n x=⟨setTb k.m p (setT (fF k.m p).tb n x),k.e⟩∧Pt (setTb k.m p (setT (fF k.m p).tb n x)):=by
 have h0:=NR (h.tbN p) hn hx;refine⟨h0,?_,h.setTb (yB h0)⟩;unfold jT;rw[if_pos h0]
theorem wY {m:Ma} {n:Int} {x:En} (hp:p<m.sp.length) (h:setE (fF m p).tb n x=0) (q:Nat) (j:Int):ent (setTb m p (setT (fF m p).tb n x)) q j=if q=p∧j=n then x else ent m q j:=by
 rw[PD hp]
 by_cases e:q=p
 ·subst e;rw[if_pos rfl,Tn h]
  by_cases e2:j=n
  ·rw[if_pos e2,if_pos ⟨rfl,e2⟩]
  ·rw[if_neg e2,if_neg (fun h'=>e2 h'.2)];rfl
 ·rw[if_neg e,if_neg (fun h'=>e h'.1)]
structure kL (m m' : Ma):Prop where
 len:m'.sp.length=m.sp.length
 lv:∀p,(fF m' p).lv=(fF m p).lv
 ar:∀p,(fF m' p).ar=(fF m p).ar
theorem kL.refl (m:Ma):kL m m:=⟨rfl,fun _=>rfl,fun _=>rfl⟩
theorem kL.trans {a b c:Ma} (h:kL a b) (k:kL b c):kL a c:=⟨k.len.trans h.len,fun p=>(k.lv p).trans (h.lv p),fun p=>(k.ar p).trans (h.ar p)⟩
theorem kL.of {m m' : Ma} (h:m'.sp=m.sp):kL m m':=⟨by rw[h],fun p=>by unfold fF;rw[h],fun p=>by unfold fF;rw[h]⟩
theorem kL.setTb {m:Ma} {p:Nat} {t:Tb}:kL m (setTb m p t):=by
 by_cases hp:p<m.sp.length
 ·refine⟨uF,fun q => ?_,fun q => ?_⟩
  all_goals
   rw[FP hp]
   by_cases e:q=p
   ·rw[if_pos e,e]
   ·rw[if_neg e]
 have:Go.Proofs.YtjkkoeijlhfneaaGreat.setTb m p t=m:=by unfold Go.Proofs.YtjkkoeijlhfneaaGreat.setTb;rw[List.set_eq_of_length_le (by omega)]
 rw[this];exact .refl _
structure Rest (m m' : Ma):Prop where
 sl:m'.sl=m.sl
 sw:m'.sw=m.sw
 dk:m'.dk=m.dk
 st:m'.st=m.st
 ca:m'.ca=m.ca
theorem Rest.refl (m:Ma):Rest m m:=⟨rfl,rfl,rfl,rfl,rfl⟩
theorem Rest.trans {a b c:Ma} (h:Rest a b) (k:Rest b c):Rest a c:=⟨k.sl.trans h.sl,k.sw.trans h.sw,k.dk.trans h.dk,k.st.trans h.st,k.ca.trans h.ca⟩
structure Vd (m:Ma) (f:Nat) (l:List (Nat × Int)):Prop where
 nd:l.Nodup
 mem:∀u∈l,u.1<m.sp.length∧(0≤u.2∧u.2<64)∧(ent m u.1 u.2).k=1∧(ent m u.1 u.2).n=f
theorem FU {x:Fr} (h:dR x=0):jA x 0=x:=by
 unfold jA
 by_cases h0:x.r=0
 ·rw[if_pos (by omega)];exact (Uo h h0).symm
 rw[if_neg (by omega)];obtain⟨p,r,u,d,f,i⟩:=x;simp
theorem Pq {x:Fr} (h:dR x=0) (j:Nat) (hr:(j:Int)+1≤x.r):jA (jA x (-1)) (-(j:Int))=jA x (-((j:Int)+1)):=by
 by_cases h0:x.r=1
 ·have:j=0:=by omega
  subst this;have h1:jA x (-1)=frZ:=by unfold jA;rw[if_pos (by omega)]
  rw[show -((0:Nat):Int)=0 from rfl,show -(((0:Nat):Int)+1) = -1 from rfl,h1];exact FU (by decide)
 have h1:jA x (-1) = { x with r:=x.r + -1 }:=by unfold jA;rw[if_neg (by omega)]
 rw[h1];unfold jA;simp only
 by_cases h2:x.r=(j:Int)+1
 ·rw[if_pos (by omega),if_pos (by omega)]
 rw[if_neg (by omega),if_neg (by omega)];congr 1;omega
def TW (f:Nat) (e' : En) (k:Kp) (u:Nat × Int):Kp:=jT (iJ k f (-1)) u.1 u.2 e'
theorem DK {m:Ma} (hf:f<m.m.fs.length):setFr m f (aN m f)=m:=by
 have h2:m.m.fs.set f (aN m f)=m.m.fs:=by have:=yG hf;rw[aH hf] at this;rw[←aJ this,sI]
 unfold setFr;rw[h2]
theorem CJ {f:Nat} {e' : En} (he:eX e' = 0) (step:Kp→(Nat × Int)→Kp) (hstep:∀k u,(ent k.m u.1 u.2).k=1→(ent k.m u.1 u.2).n=f→step k u=TW f e' k u):∀(l:List (Nat × Int)) (k:Kp),Pt k.m→Vd k.m f l→f<k.m.m.fs.length→(l.length:Int)≤(aN k.m f).r →
  (l.foldl step k).e=k.e∧Pt (l.foldl step k).m∧Rest k.m (l.foldl step k).m∧kL k.m (l.foldl step k).m∧(l.foldl step k).m.m=(setFr k.m f (jA (aN k.m f) (-(l.length:Int)))).m ∧
   (∀p n,ent (l.foldl step k).m p n=if (p,n)∈l then e' else ent k.m p n)∧∀kd i,dA (l.foldl step k).m kd i+(if kd=1∧i=f then l.length else 0)=dA k.m kd i+(if kd=e'.k∧i=e'.n then l.length else 0)
 | [],k,h,hu,hf,hr=>by refine⟨rfl,h,.refl _,.refl _,?_,fun p n=>by simp,fun kd i=>by simp⟩;show k.m.m=_;rw[show -(([]:List (Nat × Int)).length:Int)=0 from rfl,FU (h.frE hf),DK hf]
 | u::l,k,h,hu,hf,hr=>by
  obtain⟨hp,hn,hk1,hkn⟩:=hu.mem u gV;simp only[pq] at hr;have hfr:=h.frE hf;have hb:=((iH _).1 hfr).1;obtain⟨e1,p1⟩:=KF (k:=k) (f:=f) (n:=-1) h hf (by omega) (by omega) (by omega);have hheld:=Pq hfr l.length (by omega);generalize hX:jA (aN k.m f) (-1)=X at e1 p1 hheld;obtain⟨s0,e2,p2⟩:=uu (k:=⟨setFr k.m f X,k.e⟩) (p:=u.1) (n:=u.2) (x:=e') p1 hn he;have hd:step k u=⟨setTb (setFr k.m f X) u.1 (setT (fF k.m u.1).tb u.2 e'),k.e⟩:=by rw[hstep k u hk1 hkn];unfold TW;rw[e1,e2];rfl
  have hent:=fun q j=>wY (m:=setFr k.m f X) (p:=u.1) (n:=u.2) (x:=e') hp s0 q j;have hhold:=fun kd i=>wO (m:=setFr k.m f X) (p:=u.1) (n:=u.2) (x:=e') hp s0 kd i;have hnd:=sF.1 hu.nd;have hm1:(step k u).m.m=(setFr k.m f X).m:=by rw[hd];rfl
  have hfN:aN (step k u).m f=X:=by
   have:aN (step k u).m f=aN (setFr k.m f X) f:=by unfold aN;rw[hm1]
   rw[this,lH hf,if_pos rfl]
  have hentd:∀q j,ent (step k u).m q j=if q=u.1∧j=u.2 then e' else ent k.m q j:=fun q j=>by rw[hd];exact hent q j
  have hlen:(step k u).m.sp.length=k.m.sp.length:=by rw[hd];exact uF
  have hXr:X.r=(aN k.m f).r-1:=by
   rw[←hX];unfold jA
   by_cases h0:(aN k.m f).r + -1=0
   ·rw[if_pos h0];show (0:Int)=_;omega
   ·rw[if_neg h0];rfl
  have ih:=CJ he step hstep l (step k u) (by rw[hd];exact p2) ⟨hnd.2,fun v hv=>by obtain⟨a1,a2,a3,a4⟩:=hu.mem v (ji _ hv);have hne:¬(v.1=u.1∧v.2=u.2):=fun e=>hnd.1 (by rw[←show v=u from Prod.ext e.1 e.2];exact hv);rw[hlen,hentd,if_neg hne];exact⟨a1,a2,a3,a4⟩⟩ (by rw[hm1,ny];exact hf) (by rw[hfN,hXr];omega);obtain⟨i1,i2,i3,i4,i5,i6,i7⟩:=ih;rw[Al];refine⟨by rw[i1,hd],i2,Rest.trans (by rw[hd];exact⟨rfl,rfl,rfl,rfl,rfl⟩) i3,kL.trans (by rw[hd];exact kL.trans (b:=setFr k.m f X) (kL.of rfl) kL.setTb) i4,?_,fun q j => ?_,fun kd i => ?_⟩
  ·rw[i5,hfN,hheld];unfold setFr;simp only;rw[hm1];unfold setFr;simp only[Jf,pq];rfl
  ·rw[i6,hentd]
   by_cases e1:(q,j)∈l
   ·rw[if_pos e1,if_pos (ji _ e1)]
   rw[if_neg e1]
   by_cases e2:q=u.1∧j=u.2
   ·rw[if_pos e2,if_pos (by rw[show (q,j)=u from Prod.ext e2.1 e2.2];exact gV)]
   rw[if_neg e2,if_neg];intro e3;rcases bZ.1 e3 with e3|e3
   ·exact e2 ⟨congrArg Prod.fst e3,congrArg Prod.snd e3⟩
   ·exact e1 e3
  have a1:=i7 kd i;have a2:=hhold kd i;have a3:dA (step k u).m kd i=dA (setTb (setFr k.m f X) u.1 (setT (fF (setFr k.m f X) u.1).tb u.2 e')) kd i:=by rw[hd];rfl
  have a4:dA (setFr k.m f X) kd i=dA k.m kd i:=rfl;have a5:vU (qM kd i (ent (setFr k.m f X) u.1 u.2))=if kd=1∧i=f then 1 else 0:=by
   have:ent (setFr k.m f X) u.1 u.2=ent k.m u.1 u.2:=rfl;rw[this];unfold qM vU;rw[hk1,hkn]
   by_cases e:kd=1∧i=f
   ·rw[if_pos e,e.1,e.2];simp
   rw[if_neg e,if_neg];simp only[dS,decide_eq_true_eq];exact fun h'=>e ⟨h'.1.symm,h'.2.symm⟩
  have a6:vU (qM kd i e')=if kd=e'.k∧i=e'.n then 1 else 0:=by
   unfold qM vU
   by_cases e:kd=e'.k∧i=e'.n
   ·rw[if_pos e,e.1,e.2];simp
   rw[if_neg e,if_neg];simp only[dS,decide_eq_true_eq];exact fun h'=>e ⟨h'.1.symm,h'.2.symm⟩
  rw[a3] at a1;rw[a4,a5,a6] at a2;rw[pq]
  by_cases c1:kd=1∧i=f
  ·rw[if_pos c1] at a1 a2 ⊢
   by_cases c2:kd=e'.k∧i=e'.n
   ·rw[if_pos c2] at a1 a2 ⊢; omega
   ·rw[if_neg c2] at a1 a2 ⊢; omega
  rw[if_neg c1] at a1 a2 ⊢
  by_cases c2:kd=e'.k∧i=e'.n
  ·rw[if_pos c2] at a1 a2 ⊢; omega
  ·rw[if_neg c2] at a1 a2 ⊢; omega
theorem Fz {α β:Type} {f:α→β} (hf:∀a b,f a=f b→a=b) {l:List α} (h:l.Nodup):(l.map f).Nodup:=List.Pairwise.map _ (fun a b hne e=>hne (hf a b e)) h
theorem oJ {t:Tb} {n:Int}:n∈aP t↔(0≤n∧n<64)∧(dH t n).k≠0:=by
 unfold aP jr;simp only[gW,Ho,dE,oN,decide_eq_true_eq];constructor
 ·rintro⟨j,⟨h1,h2⟩,rfl⟩;exact⟨by omega,h2⟩
 rintro⟨h1,h2⟩;refine⟨n.toNat,⟨by omega,?_⟩,by omega⟩;rw[xx h1.1];exact h2
theorem KE {t:Tb} {i n:Int} (hk:kd≠0):n∈nY t kd i↔(0≤n∧n<64)∧(dH t n).k=kd∧(dH t n).n=i:=by
 unfold nY pW;rw[Ho,oJ];simp only[CR,dS,xH,decide_eq_false_iff_not,uf];constructor
 ·rintro⟨⟨h1,_⟩,h2⟩;exact⟨h1,h2⟩
 ·rintro⟨h1,h2⟩;exact⟨⟨h1,by rw[h2.1];exact hk⟩,h2⟩
theorem JC (t:Tb):(aP t).Nodup:=by
 unfold aP jr;exact Fz (fun a b h=>by have h' : (a:Int)=b:=h;omega) (List.nodup_range.filter _)
theorem DF {t:Tb} {i:Int} (hk:kd≠0):(nY t kd i).length=(dB t).countP (qM kd i):=by
 unfold nY aP jr dB;rw[←Ih,uI,IR,uI];congr 1;funext n;simp only[Ia,pW,qM,oN,CR];rw[lT];simp only[dS,xH,decide_eq_false_iff_not,uf,decide_eq_true_eq];constructor
 ·rintro⟨h,_⟩;exact h
 ·intro h;exact⟨h,by rw[h.1];exact hk⟩
theorem um {m:Ma} {f:Int} {u:Nat × Int}:u∈bn m f↔u.1<m.sp.length∧(0≤u.2∧u.2<64)∧(ent m u.1 u.2).k=1∧(ent m u.1 u.2).n=f:=by
 unfold bn;simp only[jP,dE,gW];constructor
 ·rintro⟨p,hp,n,hn,rfl⟩;exact⟨hp,(KE (by decide)).1 hn⟩
 rintro⟨hp,h⟩;exact⟨u.1,hp,u.2,(KE (by decide)).2 h,rfl⟩
theorem Er {α β:Type} (g:α→List β):∀(l:List α),l.Nodup→(∀x∈l,(g x).Nodup)→(∀x∈l,∀y∈l,∀z,z∈g x→z∈g y→x=y)→(l.flatMap g).Nodup
 | [],_,_,_=>by simp
 | a::l,h1,h2,h3=>by rw[lX,xm];have h4:=sF.1 h1;refine⟨h2 a gV,Er g l h4.2 (fun x hx=>h2 x (ji _ hx)) (fun x hx y hy=>h3 x (ji _ hx) y (ji _ hy)),?_⟩;rintro z hz w hw rfl;obtain⟨y,hy,hzy⟩:=jP.1 hw;exact h4.1 (by rw[h3 a gV y (ji _ hy) z hz hzy];exact hy)
theorem KI (m:Ma) (f:Int):(bn m f).Nodup:=by
 unfold bn;refine Er _ _ List.nodup_range (fun p hp => ?_) (fun p _ q _ z h1 h2 => ?_)
 ·unfold nY;exact Fz (fun a b h=>by simpa using h) ((JC _).filter _)
 obtain⟨_,_,rfl⟩:=gW.1 h1;obtain⟨_,_,e⟩:=gW.1 h2;exact (congrArg Prod.fst e).symm
theorem Eb (m:Ma) (f:Nat):Vd m f (bn m f):=⟨KI m f,fun u hu=>um.1 hu⟩
theorem QD {α:Type} (l:List α) (d:α) {β:Type} (g:α→β):(List.range l.length).map (fun p=>g (l.getD p d))=l.map g:=by
 apply tO
 ·simp
 intro i h1 h2;simp only[uS,Ha];rw[aS,aH (by simpa using h2)];rfl
theorem uj (m:Ma) (f:Int):(bn m f).length=dA m 1 f:=by
 unfold bn dA;rw[List.length_flatMap];simp only[fo,DF (show (1:Int)≠0 by decide)];rw[←QD m.sp zSp];rfl
def vS (s:St) (f i:Int):Prop:=(0≤f∧f<s.fs.length)∧0≤i∧i<(aK s f).b.length
theorem oz {s:St} {F:Nat} {x:Fi} (h:s.fs[F]?=some x):aK s F=x:=by
 unfold aK;rw[if_pos (by omega),bR,aS,h];rfl
theorem wm {s:St} {f:Int} (h:0≤f∧f<s.fs.length):s.fs[f.toNat]?=some (aK s f):=by
 unfold aK;rw[if_pos h.1,aS,aH (by omega)];rfl
theorem uE {s:St} {f i:Int} (h:vS s f i):(aK s f).b[i.toNat]?=some (aX s f i):=by
 unfold aX;rw[aS,aH (by have:=h.2;omega)];rfl
theorem qH {s:St} {f i:Int} (h:vS s f i):aX s f i∈kE s:=
 jP.2 ⟨_,bO (wm h.1),bO (uE h)⟩
theorem Jl {s:St} {x:Int} (h:x∈kE s):∃f i,vS s f i∧aX s f i=x:=by
 obtain⟨fi,h1,h2⟩:=jP.1 h;obtain⟨F,hF,rfl⟩:=jC.1 h1;obtain⟨I,hI,rfl⟩:=jC.1 h2;have hf:aK s F=s.fs[F]:=oz (aH hF);have a:vS s F I:=⟨by omega,by omega,by rw[hf];omega⟩;refine⟨F,I,a,?_⟩;have:=uE a;rw[hf,bR,aH hI] at this;exact (aJ this).symm
theorem posB_inj:∀ {l:List Int} {I J:Nat} {v:Int},(ku l).Nodup→l[I]?=some v→l[J]?=some v→0≤v→I=J
 | [],_,_,_,_,h,_,_=>by simp at h
 | a::l,0,0,_,_,_,_,_=>rfl
 | a::l,0,J+1,v,hn,h1,h2,h0=>by simp only[pV,iY] at h1;subst h1;rw[GU h0] at hn;exact ((sF.1 hn).1 (iW.2 ⟨bO (by simpa using h2:l[J]?=some a),h0⟩)).elim
 | a::l,I+1,0,v,hn,h1,h2,h0=>by simp only[pV,iY] at h2;subst h2;rw[GU h0] at hn;exact ((sF.1 hn).1 (iW.2 ⟨bO (by simpa using h1:l[I]?=some a),h0⟩)).elim
 | a::l,I+1,J+1,v,hn,h1,h2,h0=>by
  have:(ku l).Nodup:=by have hs:(ku l).Sublist (ku (a::l)):=(List.sublist_cons_self a l).filter _;exact hn.sublist hs
  have h3:=posB_inj (I:=I) (J:=J) this (by simpa using h1) (by simpa using h2) h0;omega
theorem flat_inj:∀ {fs:List Fi} {F G I J:Nat} {x y:Fi} {v:Int},(ku (fs.flatMap Fi.b)).Nodup→fs[F]?=some x→fs[G]?=some y→x.b[I]?=some v→y.b[J]?=some v→0≤v→F=G∧I=J
 | [],_,_,_,_,_,_,_,_,h,_,_,_,_=>by simp at h
 | a::fs,F,G,I,J,x,y,v,hn,hF,hG,hI,hJ,h0=>by
  rw[lX,uo,xm] at hn;obtain⟨n1,n2,n3⟩:=hn;cases F with
  | zero=>
   simp only[pV,iY] at hF;subst hF;cases G with
   | zero=>
    simp only[pV,iY] at hG;subst hG;exact⟨rfl,posB_inj n1 hI hJ h0⟩
   | succ G=>
    exact absurd rfl (n3 v (iW.2 ⟨bO hI,h0⟩) v (iW.2 ⟨jP.2 ⟨y,bO (by simpa using hG),bO hJ⟩,h0⟩))
  | succ F=>
   cases G with
   | zero=>
    simp only[pV,iY] at hG;subst hG;exact absurd rfl (n3 v (iW.2 ⟨bO hJ,h0⟩) v (iW.2 ⟨jP.2 ⟨x,bO (by simpa using hF),bO hI⟩,h0⟩))
   | succ G=>
    obtain⟨e1,e2⟩:=flat_inj n2 (by simpa using hF) (by simpa using hG) hI hJ h0;exact⟨by omega,e2⟩
theorem Et {s:St} (h:aO s=0) {f i g j:Int} (h1:vS s f i) (h2:vS s g j) (h0:0≤aX s f i) (he:aX s f i=aX s g j):f=g∧i=j:=by
 have hn:=(kZ.1 h).2.2;obtain⟨e1,e2⟩:=flat_inj hn (wm h1.1) (wm h2.1) (uE h1) (by rw[he];exact uE h2) h0;have:=h1.1;have:=h1.2;have:=h2.1;have:=h2.2;omega
theorem zS {s:St} (h:aO s=0) {f:Int} (hf:0≤f∧f<s.fs.length):EK s.count (aK s f):=(kZ.1 h).2.1 _ (bO (wm hf))
theorem block_lt {s:St} (h:aO s=0) {f i:Int} (hi:vS s f i) : -1≤aX s f i∧aX s f i<s.count:=
 (zS h hi.1).2.2.2 _ (bO (uE hi))
theorem GR {s:St} (h:aO s=0) {f i:Int} (hi:vS s f i):f<5∧i<12∧i*8<(aK s f).n∧(aK s f).n≤96:=by
 have h1:=(kZ.1 h).1;obtain⟨a1,a2,a3,_⟩:=zS h hi.1;have h2:=hi.1;have h3:=hi.2;rw[a3] at h3;unfold dW at h3;split at h3<;>omega
structure Blocked (s s' : St) (f i b:Int):Prop where
 right:aO s' = 0
 count:s'.count=s.count
 len:s'.fs.length=s.fs.length
 size:∀g,(aK s' g).n=(aK s g).n
 lenb:∀g,(aK s' g).b.length=(aK s g).b.length
 at_:aX s' f i=b
 other:∀g j,0≤j→¬(g=f∧j=i)→aX s' g j=aX s g j
 b0:0≤b
 bc:b<s.count
 used:∀x,0≤x→(x∈kE s'↔x=b∨x∈kE s)
 was:(aX s f i=b∧s' = s)∨(aX s f i<0∧b ∉ kE s∧yw s' = yw s-1)
theorem vS.same {s s' : St} {f i:Int} (h:vS s f i) (h1:s'.fs.length=s.fs.length) (h2:∀g,(aK s' g).b.length=(aK s g).b.length):vS s' f i:=⟨by rw[h1];exact h.1,by rw[h2];exact h.2⟩
theorem blocked {s:St} {f i:Int} (h:dw s f i=0):vS s f i∧Blocked s (dJ s f i) f i (dD s f i):=by
 have ha:=KC h;obtain⟨hw,F,I,x,v,rfl,rfl,hf,hv,t,m,hc⟩:=BK h;have hF:=(cK.1 hf).1;have hI:=(cK.1 hv).1;have r:vS s F I:=⟨by omega,by omega,by rw[t];omega⟩;refine⟨r,?_⟩;have hb:=block_lt hw r;rcases hc with ⟨h0,hS,hN⟩|⟨hn,h0,hN,hS⟩
 ·rw[hS,hN];rw[m] at hb;exact⟨hw,rfl,rfl,fun _=>rfl,fun _=>rfl,m,fun _ _ _ _=>rfl,h0,hb.2,fun y _=>⟨.inr,fun h=>h.elim (fun e=>by rw[e,←m];exact qH r) id⟩,.inl ⟨m,rfl⟩⟩
 obtain⟨z,hu⟩:=FE h0;have w:=Hy hu;have a:=ha.2.2.2.2;rw[m] at a;have a:yw (dJ s F I)=yw s-1:=by
  rcases a with ⟨e,_⟩|⟨_,_,e⟩
  ·omega
  ·exact e
 have o:=ha.1;rw[hS] at o a;rw[hS,hN];generalize hs' : (⟨s.fs.set F ⟨x.n,x.b.set I (gK s)⟩,s.count⟩:St)=s' at *
 have k:∀g,aK s' g=if g=F then ⟨x.n,x.b.set I (gK s)⟩ else aK s g:=by
  intro g;rw[←hs'];unfold aK;simp only
  by_cases g0:0≤g
  ·rw[if_pos g0,if_pos g0,aS,kW]
   by_cases e:g=F
   ·rw[if_pos e,if_pos (by omega),if_pos (by omega)];rfl
   ·rw[if_neg e,if_neg (by omega),aS]
  ·rw[if_neg g0,if_neg g0,if_neg (by omega)]
 have p:s'.fs.length=s.fs.length:=by rw[←hs'];exact bH
 have d:∀g,(aK s' g).b.length=(aK s g).b.length:=by
  intro g;rw[k]
  by_cases e:g=F
  ·rw[if_pos e,e,t];exact bH
  ·rw[if_neg e]
 have u:aX s' F I=gK s:=by unfold aX;rw[k,if_pos rfl,bR,aS,vC hI];rfl
 have q:∀g j,0≤j→¬(g=(F:Int)∧j=(I:Int))→aX s' g j=aX s g j:=by
  intro g j hj hd;unfold aX;rw[k]
  by_cases e:g=F
  ·rw[if_pos e,e,t];simp only;rw[aS,sQ (by omega),aS]
  ·rw[if_neg e]
 refine⟨o,by rw[←hs'],p,fun g => ?_,d,u,q,h0,z,fun y hy => ?_,.inr ⟨by rw[m];exact hn,w,a⟩⟩
 ·rw[k]
  by_cases e:g=F
  ·rw[if_pos e,e,t]
  ·rw[if_neg e]
 constructor
 ·intro hm;obtain⟨g,j,c,l⟩:=Jl hm
  by_cases e:g=(F:Int)∧j=(I:Int)
  ·rw[e.1,e.2,u] at l;exact .inl l.symm
  rw[q g j c.2.1 e] at l;refine .inr ?_;rw[←l];exact qH ⟨by rw[←p];exact c.1,by rw[←d];exact c.2⟩
 rintro (e|hm)
 ·rw[e,←u];exact qH (r.same p d)
 obtain⟨g,j,c,l⟩:=Jl hm;have e:¬(g=(F:Int)∧j=(I:Int)):=by rintro⟨e1,e2⟩;rw[e1,e2,m] at l;omega
 rw[←l,←q g j c.2.1 e];exact qH (c.same p d)
def oU (m:Ma) (p:Nat) (n:Int):Option Pg:=onA (fF m p).ar n
def BZ (a b:Cc):Prop:=a.f<b.f∨a.f=b.f∧a.i<b.i
def OB (x:Fr) (g:Pg) (w:Bool):Prop:=
 (0≤x.f→x.f=g.fi∧x.i=g.pg)∧(g.sh=true→0≤x.f)∧(w=true→g.wr=true)∧(w=true→0≤x.f→g.sh=true)∧(w=true→x.f<0→x.r≤1)
structure Uw (m:Ma) (g:Pg) (e:En):Prop where
 sw:e.k=2→e.n<m.sl.length∧g.sh=false
 lt:e.k=1→e.n<m.m.fs.length
 fr:e.k=1→OB (aN m e.n.toNat) g e.w
structure vJ (m:Ma):Prop where
 file:∀c∈m.ca,vS m.st c.f c.i
 lt:∀c∈m.ca,0≤c.k∧c.k<m.m.fs.length
 fr:∀c∈m.ca,1≤(aN m c.k.toNat).r∧(aN m c.k.toNat).f=c.f∧(aN m c.k.toNat).i=c.i
 srt:m.ca.Pairwise BZ
def vY (m:Ma) (i:Int):Nat:=m.ca.countP fun c=>decide (c.k=i)
structure Rt (m:Ma):Prop where
 pt:Pt m
 trim:(∀b:Int,0≤b→b<m.dk.blocks.length→b∈kE m.st∨m.dk.blocks.getD b.toNat zPg=zPg)∧∀q∈m.dk.queue,q.1∈kE m.st
 live:∀p,(fF m p).lv=false→(fF m p).ar=[]∧∀n,(ent m p n).k=0
 ca:vJ m
 en:∀p n,(ent m p n).k≠0→∃g,oU m p n=some g∧Uw m g (ent m p n)
 cf:∀i:Nat,i<m.m.fs.length→(aN m i).r=vY m i+dA m 1 i
 fc:∀i:Nat,i<m.m.fs.length→0≤(aN m i).f→∃c∈m.ca,c.k=i
 cs:∀s:Nat,s<m.sl.length→oZ m s=dA m 2 s
structure Co (m:Ma):Prop where
 tail:∀c∈m.ca,fu (aN m c.k.toNat).p ((aK m.st c.f).n-c.i*8)=(aN m c.k.toNat).p
 clean:∀c∈m.ca,(aN m c.k.toNat).d=false→(aN m c.k.toNat).p=fV m c.f c.i
 anon:∀i:Nat,i<m.m.fs.length→(aN m i).d=true→0≤(aN m i).f
def MB (m:Ma) (p:Nat) (n:Int):Page × Bool × Int:=
 match oU m p n with
 | none=>(zPg,false,5)
 | some g=>
  if (ent m p n).k=1 then ((rH m (ent m p n).n).p,decide ((rH m (ent m p n).n).f<0),0)
  else if (ent m p n).k=2 then (jc m.sw (ent m p n).n,true,aL m.sw (ent m p n).n)
  else if g.fi<0 then (zPg,false,0)
  else if (m.st.fs.length:Int)≤g.fi∨Ca m.st g.fi g.pg=true then (zPg,false,9)
  else (bA m g.fi g.pg,false,0)
structure LB (m m' : Ma):Prop where
 sk:kL m m'
 files:m'.st.fs.length=m.st.fs.length
 size:∀f,(aK m'.st f).n=(aK m.st f).n
 lenb:∀f,(aK m'.st f).b.length=(aK m.st f).b.length
 see:∀p n,MB m' p n=MB m p n
 con:∀f i,vS m.st f i→bA m' f i=bA m f i
theorem LB.refl (m:Ma):LB m m:=⟨.refl m,rfl,fun _=>rfl,fun _=>rfl,fun _ _=>rfl,fun _ _ _=>rfl⟩
theorem LB.trans {a b c:Ma} (h:LB a b) (k:LB b c):LB a c:=
 ⟨h.sk.trans k.sk,k.files.trans h.files,fun f=>(k.size f).trans (h.size f),fun f=>(k.lenb f).trans (h.lenb f),fun p n=>(k.see p n).trans (h.see p n),fun f i hi=>(k.con f i (hi.same h.files h.lenb)).trans (h.con f i hi)⟩
theorem Hw (a:Cc):¬BZ a a:=fun h=>by unfold BZ at h;omega
theorem srt_eq:∀ {l:List Cc},l.Pairwise BZ→∀ {a b:Cc},a∈l→b∈l→a.f=b.f→a.i=b.i→a=b
 | [],_,_,_,h,_,_,_=>by cases h
 | c::l,hs,a,b,ha,hb,e1,e2=>by
  obtain⟨h1,h2⟩:=su.1 hs;rcases bZ.1 ha with e|ha<;>rcases bZ.1 hb with e' | hb
  ·rw[e,e']
  ·have:=h1 b hb;rw[e] at e1 e2;unfold BZ at this;omega
  ·have:=h1 a ha;rw[e'] at e1 e2;unfold BZ at this;omega
  ·exact srt_eq h2 ha hb e1 e2
theorem vJ.uniq {m:Ma} (h:vJ m) {a b:Cc} (ha:a∈m.ca) (hb:b∈m.ca) (hk:a.k=b.k):a=b:=by
 have h1:=h.fr a ha;have h2:=h.fr b hb;rw[hk] at h1;exact srt_eq h.srt ha hb (h1.2.1.symm.trans h2.2.1) (h1.2.2.symm.trans h2.2.2)
theorem Bo {k:Int}:∀ {l:List Cc},l.Pairwise BZ→(∀a∈l,∀b∈l,a.k=b.k→a=b)→l.countP (fun c=>decide (c.k=k))≤1
 | [],_,_=>aV _
 | c::l,hs,hu=>by
  obtain⟨h1,h2⟩:=su.1 hs;have ih:=Bo (k:=k) h2 (fun a ha b hb=>hu a (ji _ ha) b (ji _ hb));rw[nJ]
  by_cases hc:c.k=k
  ·rw[if_pos (by simpa using hc)];have:l.countP (fun c=>decide (c.k=k))=0:=by rw[xy];intro d hd hdk;have e:=hu c gV d (ji _ hd) (by rw[hc];exact (of_decide_eq_true hdk).symm);have:=h1 d hd;rw[←e] at this;exact Hw _ this
   omega
  ·rw[if_neg (by simpa using hc)];omega
theorem vJ.one {m:Ma} (h:vJ m) {c:Cc} (hc:c∈m.ca):vY m c.k=1:=by
 have h1:=Bo (k:=c.k) h.srt (fun a ha b hb=>h.uniq ha hb);have h2:0<m.ca.countP (fun d=>decide (d.k=c.k)):=wU.2 ⟨c,hc,by simp⟩;unfold vY;omega
theorem vJ.none {m:Ma} {i:Int} (h:∀c∈m.ca,c.k≠i):vY m i=0:=by
 unfold vY;rw[xy];intro c hc hk;exact h c hc (of_decide_eq_true hk)
theorem xB {f i:Int} {c:Cc}:Aw f i c=true↔f<c.f∨c.f=f∧i≤c.i:=by unfold Aw;simp
theorem SL (l:List Cc) (f i:Int):yR l f i≤l.length:=by
 unfold yR;cases h:l.findIdx? (Aw f i) with
 | none=>exact ay _
 | some k=>exact qz (vN.1 h).1
theorem NH {l:List Cc} (hs:l.Pairwise BZ) {f i:Int}:QF l f i=true↔∃c∈l,c.f=f∧c.i=i:=by
 unfold QF;constructor
 ·intro h;cases hc:l[yR l f i]? with
  | none=>rw[hc] at h;cases h
  | some c=>
   rw[hc] at h;simp only[dS,decide_eq_true_eq] at h;exact⟨c,bO hc,h⟩
 rintro⟨c,hc,h1,h2⟩;obtain⟨j,hj,rfl⟩:=jC.1 hc;unfold yR;cases h:l.findIdx? (Aw f i) with
 | none=>
  have:=Ad.1 h _ hc;rw[zP] at this;exact absurd (xB.2 (.inr ⟨h1,by omega⟩)) this
 | some k=>
  obtain⟨hk,hg,b⟩:=vN.1 h;have d:¬j<k:=fun a=>b j a (xB.2 (.inr ⟨h1,by omega⟩));have hg:=xB.1 hg;have:k=j:=by
   rcases fG k j with a|hge
   ·have:=zJ.1 hs k j hk hj a;unfold BZ at this;omega
   ·omega
  subst this;simp only[oq,aH hk,h1,h2,decide_true,Bool.and_self]
theorem Ti {l:List Cc} {f i:Int} (h:QF l f i=true):∃c,l[yR l f i]?=some c∧c.f=f∧c.i=i:=by
 unfold QF at h;cases hc:l[yR l f i]? with
 | none=>rw[hc] at h;cases h
 | some c=>
  rw[hc] at h;simp only[dS,decide_eq_true_eq] at h;exact⟨c,rfl,h⟩
def qm (m:Ma) (f i:Int):Option Cc:=m.ca.find? fun c=>decide (c.f=f)&&decide (c.i=i)
theorem OM {m:Ma} (h:vJ m) {c:Cc} (hc:c∈m.ca):qm m c.f c.i=some c:=by
 cases hl:qm m c.f c.i with
 | none=>
  have:=oC.1 hl c hc;simp at this
 | some d=>
  have h1:=qo hl;simp only[dS,decide_eq_true_eq] at h1;rw[srt_eq h.srt (tZ hl) hc h1.1 h1.2]
theorem OO {m:Ma} {f i:Int} (h:∀c∈m.ca,¬(c.f=f∧c.i=i)):qm m f i=none:=by
 unfold qm;rw[oC];intro c hc hk;simp only[dS,decide_eq_true_eq] at hk;exact h c hc hk
theorem ve (m:Ma) (f i:Int):(∃c,qm m f i=some c∧c∈m.ca∧c.f=f∧c.i=i)∨(qm m f i=none∧∀c∈m.ca,¬(c.f=f∧c.i=i)):=by
 cases hl:qm m f i with
 | none=>
  refine .inr ⟨rfl,fun c hc hk => ?_⟩;have:=oC.1 hl c hc;simp only[dS,decide_eq_true_eq] at this;exact this hk
 | some d=>
  have h1:=qo hl;simp only[dS,decide_eq_true_eq] at h1;exact .inl ⟨d,rfl,tZ hl,h1⟩
theorem lw (m:Ma) (f i:Int):bA m f i=match qm m f i with
  | some c=>(rH m c.k).p
  | none=>fV m f i:=rfl
theorem oD {m:Ma} (h:vJ m) {c:Cc} (hc:c∈m.ca):bA m c.f c.i=(aN m c.k.toNat).p:=by
 rw[lw,OM h hc];rfl
theorem pJ {m:Ma} {f i:Int} (h:∀c∈m.ca,¬(c.f=f∧c.i=i)):bA m f i=fV m f i:=by
 rw[lw,OO h]
theorem zC {m:Ma} (k:Nat):rH m (k:Int)=aN m k:=rfl
theorem NV {l:List Ar} {n:Int} (h:0≤kH l n):onA l n=some (jW (l.getD (kH l n).toNat zAr) n)∧nZ n (l.getD (kH l n).toNat zAr)=true:=by
 induction l with
 | nil=>unfold kH idx at h;simp at h
 | cons a r ih=>
  rw[dm]
  by_cases ha:nZ n a=true
  ·have h0:kH (a::r) n=0:=by unfold kH idx;rw[zi,if_pos ha];rfl
   rw[h0,if_pos ha];exact⟨rfl,ha⟩
  have h1:kH (a::r) n=if 0≤kH r n then kH r n+1 else -1:=by
   unfold kH idx;rw[zi,if_neg ha];cases r.findIdx? (nZ n) with
   | none=>rfl
   | some k=>
    simp only[qA];rw[if_pos (by omega)];rfl
  rw[if_neg ha]
  by_cases h2:0≤kH r n
  ·rw[h1,if_pos h2];have e:(kH r n+1).toNat=(kH r n).toNat+1:=by omega
   rw[e];exact ih h2
  rw[h1,if_neg h2] at h;omega
def Fv (m:Ma) (g:Pg) (e:En):Page × Bool × Int:=
 if e.k=1 then ((rH m e.n).p,decide ((rH m e.n).f<0),0)
 else if e.k=2 then (jc m.sw e.n,true,aL m.sw e.n)
 else if g.fi<0 then (zPg,false,0)
 else if (m.st.fs.length:Int)≤g.fi∨Ca m.st g.fi g.pg=true then (zPg,false,9)
 else (bA m g.fi g.pg,false,0)
theorem Gi {m:Ma} {n:Int} {g:Pg} (h:oU m p n=some g):MB m p n=Fv m g (ent m p n):=by
 unfold MB;rw[h];rfl
theorem FC {m:Ma} {n:Int} (h:oU m p n=none):MB m p n=(zPg,false,5):=by
 unfold MB;rw[h]
theorem pg_in:∀ {l:List Ar} {lo:Int} {n:Int} {g:Pg},srtF lo l→onA l n=some g→0≤g.pg∧g.pg<12∧-1≤g.fi∧g.fi<5∧(g.fi<0→g.sh=false∧g.pg=0)∧0≤n∧n<64
 | [],_,_,_,_,h=>by cases h
 | a::r,lo,n,g,hs,h=>by
  rw[dm] at h
  by_cases ha:nZ n a=true
  ·rw[if_pos ha] at h;have h1:=dF.1 ha;have h2:=hs.1;unfold aQ at h2;split at h2
   ·cases h2
   split at h2
   ·cases h2
   rename_i h3 h4;cases h;unfold jW;simp only;have h5:¬(a.fi<0∧(a.ba≠0∨a.sh=true)):=fun h=>h4 (.inl h);have h6:¬(0≤a.fi∧12-(a.en-a.fr)<a.ba):=fun h=>h4 (.inr h);refine⟨?_,?_,by omega,by omega,fun h7=>⟨?_,if_neg (by omega)⟩,by omega,by omega⟩
   ·split<;>omega
   ·split<;>omega
   cases hsh:a.sh with
   | false=>rfl
   | true=>exact absurd ⟨h7,.inr hsh⟩ h5
  rw[if_neg ha] at h;exact pg_in hs.2.2 h
theorem Pt.pg {m:Ma} (h:Pt m) {n:Int} {g:Pg} (hg:oU m p n=some g):0≤g.pg∧g.pg<12∧-1≤g.fi∧g.fi<5∧(g.fi<0→g.sh=false∧g.pg=0)∧0≤n∧n<64:=
 pg_in (nM (jI.1 (h.arN p)).2) hg
theorem TP {s:St} (h:aO s=0) {f i:Int} (hf:0≤f) (hi:0≤i) (hn:¬((s.fs.length:Int)≤f∨Ca s f i=true)):vS s f i:=by
 have h1:¬(s.fs.length:Int)≤f:=fun h=>hn (.inl h);have h2:¬Ca s f i=true:=fun h=>hn (.inr h);have h3:=(zS h (f:=f) (by omega)).2.2.1;refine⟨by omega,hi,?_⟩;rw[h3];unfold Ca at h2;simpa using h2
theorem MJ {s:St} (h:aO s=0) {f i:Int} (hi:vS s f i):¬((s.fs.length:Int)≤f∨Ca s f i=true):=by
 have h3:=(zS h hi.1).2.2.1;have h4:=hi.1;have h5:=hi.2;rintro (h|h)
 ·omega
 unfold Ca at h;have:=of_decide_eq_true h;omega
structure qV (s s' : St):Prop where
 len:s'.fs.length=s.fs.length
 size:∀f,(aK s' f).n=(aK s f).n
 lenb:∀f,(aK s' f).b.length=(aK s f).b.length
theorem qV.refl (s:St):qV s s:=⟨rfl,fun _=>rfl,fun _=>rfl⟩
theorem qV.of {s s' : St} (h:s' = s):qV s s':=by subst h;exact .refl _
theorem Oq {s s' : St} (h:qV s s') (f i:Int):Ca s' f i=Ca s f i:=by unfold Ca;rw[h.size]
theorem zI {m m' : Ma} {g:Pg} {e:En} (hw:aO m.st=0) (hg:0≤g.pg) (hf:qV m.st m'.st) (hc:∀f i,vS m.st f i→bA m' f i=bA m f i)
 (h1:e.k=1→(rH m' e.n).p=(rH m e.n).p∧(rH m' e.n).f=(rH m e.n).f) (h2:e.k=2→jc m'.sw e.n=jc m.sw e.n∧aL m'.sw e.n=aL m.sw e.n):Fv m' g e=Fv m g e:=by
 unfold Fv
 by_cases k1:e.k=1
 ·rw[if_pos k1,if_pos k1,(h1 k1).1,(h1 k1).2]
 rw[if_neg k1,if_neg k1]
 by_cases k2:e.k=2
 ·rw[if_pos k2,if_pos k2,(h2 k2).1,(h2 k2).2]
 rw[if_neg k2,if_neg k2,hf.len,Oq hf]
 by_cases g0:g.fi<0
 ·rw[if_pos g0,if_pos g0]
 rw[if_neg g0,if_neg g0]
 by_cases he:(m.st.fs.length:Int)≤g.fi∨Ca m.st g.fi g.pg=true
 ·rw[if_pos he,if_pos he]
 ·rw[if_neg he,if_neg he,hc _ _ (TP hw (by omega) hg he)]
theorem Iq {m m' : Ma} (h:Pt m) (sk:kL m m') (hf:qV m.st m'.st) (hc:∀f i,vS m.st f i→bA m' f i=bA m f i)
 (hs:∀p n g,oU m p n=some g→Fv m' g (ent m' p n)=Fv m g (ent m p n)):LB m m':=by
 refine⟨sk,hf.len,hf.size,hf.lenb,fun p n => ?_,hc⟩;have hp:oU m' p n=oU m p n:=by unfold oU;rw[sk.ar]
 cases hg:oU m p n with
 | none=>rw[FC hg,FC (hp.trans hg)]
 | some g=>rw[Gi hg,Gi (hp.trans hg)];exact hs p n g hg
theorem OY {x:Fr} (h:dR x=0):dR { x with d:=false }=0:=by
 rw[iH] at h ⊢;exact⟨h.1,fun h0=>⟨(h.2.1 h0).1,rfl,(h.2.1 h0).2.2.1,(h.2.1 h0).2.2.2⟩,h.2.2⟩
theorem KM {d:pR} {x:Int × Page} {b:Int} (h0:0≤b) (hq:∀q∈d.queue,q.1≠b∧0≤q.1):(iC d x).blocks.getD b.toNat zPg=d.blocks.getD b.toNat zPg:=by
 unfold iC;cases hd:d.queue with
 | nil=>rfl
 | cons q r=>
  simp only;split
  ·have:=hq q (by rw[hd];exact gV);rw[aS,sQ (by omega),aS]
  ·rfl
theorem Kz {d:pR} {x q:Int × Page} (h:q∈(iC d x).queue):q∈d.queue∨q=x:=by
 unfold iC at h;cases hd:d.queue with
 | nil=>rw[hd] at h;simp at h;exact .inr h
 | cons a r=>
  rw[hd] at h;simp only at h;split at h
  ·rcases fO.1 h with h|h
   ·exact .inl (ji _ h)
   ·exact .inr (bv.1 h)
  rcases fO.1 h with h|h
  ·exact .inl h
  ·exact .inr (bv.1 h)
def gM (m:Ma) (f:Nat):Ma:=
 let x:=aN m f
 setFr { m with st:=dJ m.st x.f x.i,dk:=iC m.dk (dD m.st x.f x.i,x.p) } f { x with d:=false }
theorem Ec {k:Kp} (h:Rt k.m) (hf:f<k.m.m.fs.length):iG k f=if (aN k.m f).f<0∨(aN k.m f).d=false∨dw k.m.st (aN k.m f).f (aN k.m f).i≠0 then k else ⟨gM k.m f,k.e⟩:=by
 unfold iG
 by_cases hc:(aN k.m f).f<0∨(aN k.m f).d=false∨dw k.m.st (aN k.m f).f (aN k.m f).i≠0
 ·simp only[if_pos hc]
 have hb:dw k.m.st (aN k.m f).f (aN k.m f).i=0:=by
  by_cases e:dw k.m.st (aN k.m f).f (aN k.m f).i=0
  ·exact e
  ·exact absurd (.inr (.inr e)) hc
 have hB:=(blocked hb).2;have a:aL k.m.dk (dD k.m.st (aN k.m f).f (aN k.m f).i)=0:=kX.2 ⟨h.pt.dk,hB.b0,by rw[h.pt.dkl];exact hB.bc⟩;simp only[if_neg hc];unfold gM dC;rw[a];simp only[jg,if_true];congr 1;split<;>simp_all
structure Cleaned (m m' : Ma) (f:Nat):Prop where
 rt:Rt m'
 co:Co m'
 vis:LB m m'
 sl:m'.sl=m.sl
 sw:m'.sw=m.sw
 ca:m'.ca=m.ca
 sp:m'.sp=m.sp
 fs:m'.m=(setFr m f { aN m f with d:=false }).m
theorem FB {m:Ma} (h:Rt m) (hc:Co m) (hf:f<m.m.fs.length) (h0:0≤(aN m f).f) (hb:dw m.st (aN m f).f (aN m f).i=0):Cleaned m (gM m f) f:=by
 obtain⟨hF,hB⟩:=blocked hb;obtain⟨c,v,hp⟩:=h.fc f hf h0;have l:=h.ca.fr c v;rw[hp,bR] at l;have hD:aL m.dk (dD m.st (aN m f).f (aN m f).i)=0:=kX.2 ⟨h.pt.dk,hB.b0,by rw[h.pt.dkl];exact hB.bc⟩;have z:dD m.st (aN m f).f (aN m f).i<m.dk.blocks.length:=by rw[h.pt.dkl];exact hB.bc
 have hj:∀g,aN (gM m f) g=if g=f then { aN m f with d:=false } else aN m g:=fun g=>lH (m:={ m with st:=dJ m.st (aN m f).f (aN m f).i,dk:=iC m.dk (dD m.st (aN m f).f (aN m f).i,(aN m f).p) }) (x:={ aN m f with d:=false }) hf g;have a:∀g,(aN (gM m f) g).p=(aN m g).p∧(aN (gM m f) g).f=(aN m g).f∧(aN (gM m f) g).i=(aN m g).i∧(aN (gM m f) g).r=(aN m g).r:=by
  intro g;rw[hj]
  by_cases e:g=f
  ·rw[if_pos e,e];exact⟨rfl,rfl,rfl,rfl⟩
  ·rw[if_neg e];exact⟨rfl,rfl,rfl,rfl⟩
 have o:(gM m f).m.fs.length=m.m.fs.length:=bH;have s:qV m.st (gM m f).st:=⟨hB.len,hB.size,hB.lenb⟩;have w:∀p n,ent (gM m f) p n=ent m p n:=fun _ _=>rfl;have hz:∀g j,vS m.st g j→¬(g=(aN m f).f∧j=(aN m f).i)→fV (gM m f) g j=fV m g j:=by
  intro g j t hx;have hs:aX (gM m f).st g j=aX m.st g j:=hB.other g j t.2.1 hx;unfold fV;rw[hs,hB.size g |> (fun e=>show (aK (gM m f).st g).n=(aK m.st g).n from e)]
  by_cases hb0:0≤aX m.st g j
  ·rw[if_pos hb0,if_pos hb0];congr 1;show jc (iC m.dk _) _=_;rw[wR h.pt.dk hB.b0 z,if_neg];rintro⟨_,e⟩;simp only at e;rcases hB.was with ⟨hw,_⟩|⟨_,hn,_⟩
   ·exact hx (Et h.pt.st t hF (by omega) (by omega))
   ·exact hn (by rw[e];exact qH t)
  ·rw[if_neg hb0,if_neg hb0]
 have hv:fV (gM m f) (aN m f).f (aN m f).i=(aN m f).p:=by have hs:aX (gM m f).st (aN m f).f (aN m f).i=dD m.st (aN m f).f (aN m f).i:=hB.at_;have ht:=hc.tail c v;rw[hp,bR,←l.2.1,←l.2.2] at ht;unfold fV;rw[hs,if_pos hB.b0,show (aK (gM m f).st (aN m f).f).n=(aK m.st (aN m f).f).n from hB.size _];show fu (jc (iC m.dk _) _) _=_;rw[wR h.pt.dk hB.b0 z,if_pos ⟨hD,rfl⟩];exact ht
 have y:∀g j,vS m.st g j→bA (gM m f) g j=bA m g j:=by
  intro g j t;have hl:qm (gM m f) g j=qm m g j:=rfl;rw[lw,lw,hl];rcases ve m g j with ⟨d,hd,hdm,_⟩|⟨hd,hno⟩
  ·rw[hd];exact (a d.k.toNat).1
  rw[hd];exact hz g j t fun e=>hno c v ⟨by rw[e.1];exact l.2.1.symm,by rw[e.2];exact l.2.2.symm⟩
 have hE:Pt (gM m f):=by have hd:aY (iC m.dk (dD m.st (aN m f).f (aN m f).i,(aN m f).p))=0:=yA h.pt.dk hB.b0 z;exact { fr:=ME h.pt.fr (OY (h.pt.frE hf)),sl:=h.pt.sl,sw:=h.pt.sw,dk:=hd,st:=hB.right,swl:=h.pt.swl,dkl:=by show ((iC m.dk _).blocks.length:Int)=_;rw[wG,h.pt.dkl];exact hB.count.symm,spl:=h.pt.spl,ar:=h.pt.ar,tb:=h.pt.tb }
 have hr:vJ (gM m f):=⟨fun d hd=>(h.ca.file d hd).same hB.len hB.lenb,fun d hd=>by rw[o];exact h.ca.lt d hd,fun d hd=>by have:=a d.k.toNat;rw[this.2.1,this.2.2.1,this.2.2.2];exact h.ca.fr d hd,h.ca.srt⟩;refine⟨⟨hE,⟨fun b hb0 hG => ?_,fun q hq => ?_⟩,h.live,hr,fun p n hk => ?_,fun i hi => ?_,fun i hi hy => ?_,h.cs⟩,⟨fun d hd => ?_,fun d hd hA => ?_,fun i hi hh => ?_⟩,?_,rfl,rfl,rfl,rfl,rfl⟩
 ·have hC : b<m.dk.blocks.length:=by have:((gM m f).dk.blocks.length)=m.dk.blocks.length:=wG _ _;omega
  by_cases hu:b∈kE m.st
  ·exact .inl ((hB.used b hb0).2 (.inr hu))
  by_cases e:b=dD m.st (aN m f).f (aN m f).i
  ·exact .inl ((hB.used b hb0).2 (.inl e))
  refine .inr ?_;show (iC m.dk _).blocks.getD b.toNat zPg=zPg;rw[KM hb0 (fun q hq=>⟨fun e=>hu (by rw[←e];exact h.trim.2 q hq),((eO _).1 h.pt.dk).2.2 q hq |>.1⟩)];exact (h.trim.1 b hb0 hC).resolve_left hu
 ·rcases Kz hq with hq|rfl
  ·exact (hB.used _ (((eO _).1 h.pt.dk).2.2 q hq).1).2 (.inr (h.trim.2 q hq))
  ·exact (hB.used _ hB.b0).2 (.inl rfl)
 ·obtain⟨g,hg,u⟩:=h.en p n hk;refine⟨g,hg,u.sw,fun ha=>by rw[o];exact u.lt ha,fun ha => ?_⟩;have h1:=u.fr ha;have h2:=a (ent m p n).n.toNat;unfold OB at h1 ⊢;rw[w,h2.2.1,h2.2.2.1,h2.2.2.2];exact h1
 ·rw[(a i).2.2.2];exact h.cf i (by rw[←o];exact hi)
 ·rw[(a i).2.1] at hy;exact h.fc i (by rw[←o];exact hi) hy
 ·rw[(a d.k.toNat).1,show (aK (gM m f).st d.f).n=(aK m.st d.f).n from hB.size _];exact hc.tail d hd
 ·by_cases e:d.k.toNat=f
  ·have hm:d=c:=h.ca.uniq hd v (by have:=h.ca.lt d hd;omega);subst hm;rw[(a d.k.toNat).1,e];rw[←l.2.1,←l.2.2];exact hv.symm
  rw[hj,if_neg e] at hA;rw[(a d.k.toNat).1,hc.clean d hd hA];refine (hz d.f d.i (h.ca.file d hd) fun e2=>e ?_).symm;have hm:d=c:=srt_eq h.ca.srt hd v (by rw[e2.1];exact l.2.1) (by rw[e2.2];exact l.2.2);rw[hm,hp];exact bR f
 ·rw[(a i).2.1];rw[hj] at hh
  by_cases e:i=f
  ·rw[e];exact h0
  ·rw[if_neg e] at hh;exact hc.anon i (by rw[←o];exact hi) hh
 refine Iq h.pt (kL.of rfl) s y fun p n g hg => ?_;rw[w];exact zI h.pt.st (h.pt.pg hg).1 s y (fun _=>⟨(a _).1,(a _).2.1⟩) (fun _=>⟨rfl,rfl⟩)
theorem uW (n:Int):dH zTb n=zEn:=by
 by_cases h:0≤n∧n<64
 ·obtain⟨q,r,hq,hr,rfl,_,_⟩:=xz h;exact AB hq hr (by simp[zTb])
 ·exact qN (by omega)
theorem yJ {m m' : Ma} (h:m'.m=m.m) (g:Nat):aN m' g=aN m g:=by unfold aN;rw[h]
theorem qR {m:Ma} {n:Int} (h:(ent m p n).k≠0):p<m.sp.length∧0≤n∧n<64:=by
 refine⟨?_,?_⟩
 ·rcases fG p m.sp.length with hp|hp
  ·exact hp
  refine absurd ?_ h;unfold ent;rw[nR hp,show zSp.tb=zTb from rfl,uW];rfl
 by_cases hn:n<0∨64≤n
 ·exact absurd (by rw[Oj p hn];rfl) h
 ·omega
theorem JJ (k:Kp) (u:Nat × Int) (h1:(ent k.m u.1 u.2).k=1) (h2:(ent k.m u.1 u.2).n=f):qh k u.1 u.2=TW f zEn k u:=by
 unfold qh TW;have b : (dH (fF k.m u.1).tb u.2).k=1:=h1;have a : (dH (fF k.m u.1).tb u.2).n=f:=h2;simp only[b,a,if_true]
theorem Bf {k:Kp} (h:Rt k.m) (hc:Co k.m) (hf:f<k.m.m.fs.length) (h0:0≤(aN k.m f).f) (hb:iA k.m f=true):∃m1,iG k f=⟨m1,k.e⟩∧Cleaned k.m m1 f:=by
 rw[Ec h hf]
 by_cases hd:(aN k.m f).d=false
 ·rw[if_pos (.inr (.inl hd))];refine⟨k.m,rfl,h,hc,.refl _,rfl,rfl,rfl,rfl,?_⟩;have:({ aN k.m f with d:=false }:Fr)=aN k.m f:=by rw[←hd]
  rw[this,DK hf]
 have a:dw k.m.st (aN k.m f).f (aN k.m f).i=0:=by
  unfold iA at hb;simp only[tF,decide_eq_true_eq,xH] at hb;rcases hb with (h1|h1)|h1
  ·omega
  ·exact absurd h1 hd
  ·exact h1
 rw[if_neg]
 ·exact⟨_,rfl,FB h hc hf h0 a⟩
 rintro (h1|h1|h1)
 ·omega
 ·exact hd h1
 ·exact h1 a
theorem Sz {k:Kp} (h:Rt k.m) (hf:f<k.m.m.fs.length) (hb:iA k.m f=false):iG k f=k:=by
 rw[Ec h hf,if_pos];unfold iA at hb;simp only[zx,decide_eq_false_iff_not] at hb;exact .inr (.inr hb.2)
structure vG (m m' : Ma) (f:Nat):Prop where
 rt:Rt m'
 co:Co m'
 vis:LB m m'
 len:m'.m.fs.length=m.m.fs.length
 hand:m'.m.hand=m.m.hand
 free:aN m' f=frZ
 oth:∀g,g≠f→aN m' g=aN m g
 sll:m'.sl.length=m.sl.length
 ents:∀p n,¬((ent m p n).k=1∧(ent m p n).n=f)→ent m' p n=ent m p n
 cas:∀c,c∈m'.ca↔c∈m.ca∧c.k≠f
 std:(m'.st=m.st∧m'.dk=m.dk)∨(0≤(aN m f).f∧(aN m f).d=true∧dw m.st (aN m f).f (aN m f).i=0∧m'.st=(gM m f).st∧m'.dk=(gM m f).dk)
theorem OZ {l:List Cc} (hs:l.Pairwise BZ) {c:Cc} (hj:l[j]?=some c) (d:Cc):d∈l.eraseIdx j↔d∈l∧¬(d.f=c.f∧d.i=c.i):=by
 have b:=(cK.1 hj).1;have a:=(cK.1 hj).2;rw[List.mem_eraseIdx_iff_getElem];constructor
 ·rintro⟨i,hi,hne,rfl⟩;refine⟨dN _,fun e => ?_⟩;have:=srt_eq hs (dN hi) (bO hj) e.1 e.2;rcases vK hne with h1|h1
  ·have h2:=zJ.1 hs i j hi b h1;rw[a,this] at h2;exact Hw _ h2
  have h2:=zJ.1 hs j i b hi h1;rw[a,this] at h2;exact Hw _ h2
 rintro⟨hd,hne⟩;obtain⟨i,hi,rfl⟩:=jC.1 hd;exact⟨i,hi,fun e=>hne (by subst e;rw[a];exact⟨rfl,rfl⟩),rfl⟩
theorem yT {α:Type} (q:α→Bool):∀(l:List α) (j:Nat) (h:j<l.length),(l.eraseIdx j).countP q+vU (q l[j])=l.countP q
 | a::l,0,_=>by simp only[List.eraseIdx_cons_zero,zH,nJ,vU]
 | a::l,j+1,h=>by have:=yT q l j (by simpa using h);simp only[List.eraseIdx_cons_succ,Cz,nJ];omega
structure WO (m M:Ma) (j:Nat) (d:Cc):Prop where
 rt:Rt M
 co:Co M
 sk:kL m M
 len:M.m.fs.length=m.m.fs.length
 hand:M.m.hand=m.m.hand
 sl:M.sl=m.sl
 sw:M.sw=m.sw
 dk:M.dk=m.dk
 st:M.st=m.st
 ca:M.ca=m.ca.eraseIdx j
 fr:∀g,aN M g=if g=d.k.toNat then frZ else aN m g
 cas:∀e,e∈M.ca↔e∈m.ca∧¬(e.f=d.f∧e.i=d.i)
 cak:∀e,e∈M.ca→e∈m.ca∧e.k.toNat≠d.k.toNat
 ents:∀p n,ent M p n=if (ent m p n).k=1∧(ent m p n).n=d.k then zEn else ent m p n
theorem VG {k:Kp} (h:Rt k.m) (hc:Co k.m) {d:Cc} (hd:k.m.ca[j]?=some d):∃M,Cy k j=⟨M,k.e⟩∧WO k.m M j d:=by
 have hb:=bO hd;have hR:=h.ca.lt d hb;obtain⟨f,hk⟩:∃f:Nat,d.k=f:=⟨d.k.toNat,by omega⟩;have hf:f<k.m.m.fs.length:=by omega
 have hP:=h.ca.fr d hb;rw[hk,bR] at hP;have hq:vY k.m f=1:=by rw[←hk];exact h.ca.one hb
 have hr:=h.cf f hf;rw[hq,←uj] at hr;have hv:=CJ (f:=f) (e':=zEn) (by decide) (fun k u=>qh k u.1 u.2) JJ (bn k.m f) k h.pt (Eb k.m f) hf (by omega);obtain⟨r1,r2,r3,r4,r5,r6,r7⟩:=hv;have hG:(bn k.m f).foldl (fun k u=>qh k u.1 u.2) k=kP k (bn k.m f):=rfl;rw[hG] at r1 r2 r3 r4 r5 r6 r7;generalize hk2:kP k (bn k.m f)=k2 at r1 r2 r3 r4 r5 r6 r7;have hy:jA (aN k.m f) (-((bn k.m f).length:Int)) = { aN k.m f with r:=1 }:=by unfold jA;rw[if_neg (by omega)];congr 1;omega
 simp only[hy] at r5;have hQ:Rm k.m j=d:=by unfold Rm;rw[aS,hd];rfl
 have hO:Cy k j=iJ ⟨{ k2.m with ca:=k2.m.ca.eraseIdx j },k2.e⟩ f (-1):=by unfold Cy;simp only[hQ,hk,hk2]
 have hE:f<k2.m.m.fs.length:=by rw[r5,ny];exact hf
 have hj:aN k2.m f = { aN k.m f with r:=1 }:=by have:aN k2.m f=aN (setFr k.m f { aN k.m f with r:=1 }) f:=yJ r5 f;rw[this,lH hf,if_pos rfl]
 have hw:∀g,g≠f→aN k2.m g=aN k.m g:=by intro g hg;have:aN k2.m g=aN (setFr k.m f { aN k.m f with r:=1 }) g:=yJ r5 g;rw[this,lH hf,if_neg hg]
 have hC:Pt { k2.m with ca:=k2.m.ca.eraseIdx j }:={ fr:=r2.fr,sl:=r2.sl,sw:=r2.sw,dk:=r2.dk,st:=r2.st,swl:=r2.swl,dkl:=r2.dkl,spl:=r2.spl,ar:=r2.ar,tb:=r2.tb };obtain⟨e3,p3⟩:=KF (k:=⟨{ k2.m with ca:=k2.m.ca.eraseIdx j },k2.e⟩) (f:=f) (n:=-1) hC hE (by show (aN k2.m f).r≠0;rw[hj];show (1:Int)≠0;decide) (by show -(aN k2.m f).r≤-1;rw[hj];show -(1:Int)≤-1;decide) (by show -1≤1000-(aN k2.m f).r;rw[hj];show -1≤(1000:Int)-1;decide);have hz:jA (aN { k2.m with ca:=k2.m.ca.eraseIdx j } f) (-1)=frZ:=by show jA (aN k2.m f) (-1)=frZ;rw[hj];rfl
 rw[hz] at e3 p3;refine⟨_,hO.trans (e3.trans (by rw[r1])),?_⟩;generalize hM:setFr { k2.m with ca:=k2.m.ca.eraseIdx j } f frZ=M at p3 ⊢;have y:∀g,aN M g=if g=f then frZ else aN k.m g:=by
  intro g;rw[←hM,lH (m:={ k2.m with ca:=k2.m.ca.eraseIdx j }) hE]
  by_cases e:g=f
  ·rw[if_pos e,if_pos e]
  ·rw[if_neg e,if_neg e,←hw g e];rfl
 have b:M.m.fs.length=k.m.m.fs.length:=by rw[←hM,ny];show k2.m.m.fs.length=_;rw[r5,ny]
 have v:M.sl=k.m.sl:=by rw[←hM];exact r3.sl
 have hI:M.sw=k.m.sw:=by rw[←hM];exact r3.sw
 have w:M.dk=k.m.dk:=by rw[←hM];exact r3.dk
 have o:M.st=k.m.st:=by rw[←hM];exact r3.st
 have x:M.ca=k.m.ca.eraseIdx j:=by rw[←hM];show k2.m.ca.eraseIdx j=_;rw[r3.ca]
 have hL:=(cK.1 hd).1;have hl:kL k.m M:=by rw[←hM];exact r4.trans (kL.of rfl)
 have hx:∀p n,(p,n)∈bn k.m f↔(ent k.m p n).k=1∧(ent k.m p n).n=f:=by
  intro p n;rw[um];constructor
  ·rintro⟨_,_,h3⟩;exact h3
  intro h3;have h4:=qR (m:=k.m) (p:=p) (n:=n) (by rw[h3.1];decide);exact⟨h4.1,h4.2,h3⟩
 have q:∀p n,ent M p n=if (ent k.m p n).k=1∧(ent k.m p n).n=f then zEn else ent k.m p n:=fun p n=>by
  have:ent M p n=if (p,n)∈bn k.m f then zEn else ent k.m p n:=by rw[←hM];exact r6 p n
  rw[this];simp only[hx]
 have t:∀kd i,dA M kd i+(if kd=1∧i=f then (bn k.m f).length else 0)=dA k.m kd i+(if kd=zEn.k∧i=zEn.n then (bn k.m f).length else 0):=fun kd i=>by rw[←hM];exact r7 kd i
 have hh:∀e,e∈M.ca↔e∈k.m.ca∧¬(e.f=d.f∧e.i=d.i):=fun e=>by rw[x];exact OZ h.ca.srt hd e
 have a:∀e,e∈M.ca→e∈k.m.ca∧e.k.toNat≠f:=fun e he=>by have h1:=(hh e).1 he;refine⟨h1.1,fun h2=>h1.2 ?_⟩;have h3:=h.ca.uniq h1.1 hb (by have:=h.ca.lt e h1.1;omega);rw[h3];exact⟨rfl,rfl⟩
 have l:∀g,g≠f→aN M g=aN k.m g:=fun g hg=>by rw[y,if_neg hg]
 have hB:vJ M:=⟨fun e he=>by rw[o];exact h.ca.file e (a e he).1,fun e he=>by rw[b];exact h.ca.lt e (a e he).1,
  fun e he=>by rw[l _ (a e he).2];exact h.ca.fr e (a e he).1,by rw[x];exact h.ca.srt.sublist (List.eraseIdx_sublist _ _)⟩
 have hA:∀g i,fV M g i=fV k.m g i:=fun g i=>by unfold fV;rw[o,w]
 refine⟨⟨p3,⟨?_,?_⟩,fun p hp => ?_,hB,fun p n z => ?_,fun i hi => ?_,fun i hi hn => ?_,fun s hs => ?_⟩,⟨fun e he => ?_,fun e he hF => ?_,fun i hi hm => ?_⟩,hl,b,?_,v,hI,w,o,x,by rw[hk,bR];exact y,hh,by rw[hk,bR];exact a,by rw[hk];exact q⟩
 ·rw[w,o];exact h.trim.1
 ·rw[w,o];exact h.trim.2
 ·rw[hl.lv] at hp;have h1:=h.live p hp;rw[hl.ar];refine⟨h1.1,fun n => ?_⟩;rw[q]
  by_cases hu:(ent k.m p n).k=1∧(ent k.m p n).n=f
  ·rw[if_pos hu];rfl
  ·rw[if_neg hu];exact h1.2 n
 ·rw[q] at z ⊢
  by_cases hu:(ent k.m p n).k=1∧(ent k.m p n).n=f
  ·rw[if_pos hu] at z; exact absurd rfl z
  rw[if_neg hu] at z ⊢;obtain⟨g,hg,ha⟩:=h.en p n z;refine⟨g,by unfold oU;rw[hl.ar];exact hg,by rw[v];exact ha.sw,by rw[b];exact ha.lt,fun hD => ?_⟩;have hK:(ent k.m p n).n.toNat≠f:=by intro e;have h5:=((dx _).1 (tT h.pt p n));exact hu ⟨hD,by omega⟩
  rw[y,if_neg hK];exact ha.fr hD
 ·have a1:=t 1 i;have hJ:¬((1:Int)=zEn.k∧(i:Int)=zEn.n):=fun e=>by cases e.1
  rw[if_neg hJ] at a1;have a2:=yT (fun c=>decide (c.k=(i:Int))) k.m.ca j hL;have hN:=(cK.1 hd).2;rw[hN] at a2;have a3:vY M i=(k.m.ca.eraseIdx j).countP (fun c=>decide (c.k=(i:Int))):=by unfold vY;rw[x]
  by_cases e:i=f
  ·subst e;rw[if_pos ⟨rfl,rfl⟩] at a1;have a4:vU (decide (d.k=(i:Int)))=1:=by rw[hk];simp[vU]
   have a5:k.m.ca.countP (fun c=>decide (c.k=(i:Int)))=1:=hq;rw[uj] at a1;rw[y,if_pos rfl,a3];show (0:Int)=_;omega
  rw[if_neg (fun h'=>e (by have:=h'.2;omega))] at a1;have a4:vU (decide (d.k=(i:Int)))=0:=by unfold vU;rw[if_neg];simp only[decide_eq_true_eq,hk];omega
  have a5:=h.cf i (by rw[←b];exact hi);have a6:vY k.m i=k.m.ca.countP (fun c=>decide (c.k=(i:Int))):=rfl;rw[l i e,a3];omega
 ·by_cases e:i=f
  ·subst e;rw[y,if_pos rfl] at hn;exact absurd hn (by decide)
  rw[l i e] at hn;obtain⟨c',hH,ht⟩:=h.fc i (by rw[←b];exact hi) hn;refine⟨c',(hh c').2 ⟨hH,fun h2 => ?_⟩,ht⟩;have:=srt_eq h.ca.srt hH hb h2.1 h2.2;rw[this,hk] at ht;omega
 ·have a1:=t 2 s;rw[if_neg (fun e=>by cases e.1),if_neg (fun e=>by cases e.1)] at a1;have a2:=h.cs s (by rw[←v];exact hs);have a3:oZ M s=oZ k.m s:=by unfold oZ;rw[v]
  rw[a3,a2];omega
 ·have h1:=a e he;rw[l _ h1.2,o];exact hc.tail e h1.1
 ·have h1:=a e he;rw[l _ h1.2] at hF ⊢;rw[hA];exact hc.clean e h1.1 hF
 ·by_cases e:i=f
  ·rw[y,if_pos e] at hm;cases hm
  rw[l i e] at hm ⊢;exact hc.anon i (by rw[←b];exact hi) hm
 rw[←hM];show k2.m.m.hand=_;rw[r5];rfl
theorem WO.con {m M:Ma} {d:Cc} (h:Rt m) (U:WO m M j d) {g i:Int} (hn:¬(g=d.f∧i=d.i)):bA M g i=bA m g i:=by
 rcases ve m g i with ⟨e,he,hem,hef,hei⟩|⟨he,hno⟩
 ·subst hef;subst hei;have a:=(U.cas e).2 ⟨hem,hn⟩;rw[oD h.ca hem,oD U.rt.ca a,U.fr,if_neg (U.cak e a).2]
 rw[pJ hno,pJ (fun e' b=>hno e' ((U.cas e').1 b).1)];unfold fV;rw[U.st,U.dk]
theorem LY {k:Kp} (h:Rt k.m) (hc:Co k.m) (hf:f<k.m.m.fs.length) (h0:0≤(aN k.m f).f) (hb:iA k.m f=true) :
  (fH k f).e=k.e∧vG k.m (fH k f).m f:=by
 obtain⟨m1,hi,hC⟩:=Bf h hc hf h0 hb;have hq:bn k.m f=bn m1 f:=by unfold bn fF;rw[hC.sp]
 have q:aN m1 f = { aN k.m f with d:=false }:=by have:aN m1 f=aN (setFr k.m f { aN k.m f with d:=false }) f:=yJ hC.fs f;rw[this,lH hf,if_pos rfl]
 have w:∀g,g≠f→aN m1 g=aN k.m g:=by intro g hg;have:aN m1 g=aN (setFr k.m f { aN k.m f with d:=false }) g:=yJ hC.fs g;rw[this,lH hf,if_neg hg]
 have hh:m1.m.fs.length=k.m.m.fs.length:=by rw[hC.fs];exact ny
 have y:f<m1.m.fs.length:=by rw[hh];exact hf
 obtain⟨c,a,b⟩:=hC.rt.fc f y (by rw[q];exact h0);have j:=hC.rt.ca.fr c a;rw[b,bR] at j;have o : (aN k.m f).f=c.f∧(aN k.m f).i=c.i:=by rw[←j.2.1,←j.2.2,q];exact⟨rfl,rfl⟩
 obtain⟨d,hd,hy,hx⟩:=Ti ((NH hC.rt.ca.srt).2 ⟨c,a,o.1.symm,o.2.symm⟩:QF m1.ca (aN k.m f).f (aN k.m f).i=true);have hz:d=c:=srt_eq hC.rt.ca.srt (bO hd) a (hy.trans o.1) (hx.trans o.2);subst hz;obtain⟨M,hM,U⟩:=VG (k:=⟨m1,k.e⟩) hC.rt hC.co hd;have hp:(kP ⟨m1,k.e⟩ (bn m1 f)).m.ca=m1.ca:=by have:=CJ (f:=f) (e':=zEn) (by decide) (fun k u=>qh k u.1 u.2) JJ (bn m1 f) ⟨m1,k.e⟩ hC.rt.pt (Eb m1 f) y (by have hr:=hC.rt.cf f y;rw[←uj] at hr;show _≤(aN m1 f).r;omega);exact this.2.2.1.ca
 have hv:fH k f=⟨M,k.e⟩:=by
  rw[←hM];unfold fH Cy;simp only;have hA:Rm m1 (yR m1.ca (aN k.m f).f (aN k.m f).i)=d:=by unfold Rm;rw[aS,hd];rfl
  rw[if_pos h0,if_neg (by rw[hb];decide),hi,hq,hA,b];simp only[hp];rw[if_pos ((NH hC.rt.ca.srt).2 ⟨d,a,o.1.symm,o.2.symm⟩)]
 rw[hv];refine⟨rfl,?_⟩;change vG k.m M f;have hs:d.k.toNat=f:=by omega
 have hm:∀g,aN M g=if g=f then frZ else aN k.m g:=fun g=>by
  rw[U.fr,hs]
  by_cases e:g=f
  ·rw[if_pos e,if_pos e]
  ·rw[if_neg e,if_neg e];exact w g e
 have ha:kL k.m m1:=hC.vis.sk;have hB:kL k.m M:=ha.trans U.sk;have z:∀p n,ent m1 p n=ent k.m p n:=fun p n=>by unfold ent fF;rw[hC.sp]
 have l:qV m1.st M.st:=qV.of U.st;have t:∀g i,vS m1.st g i→bA M g i=bA m1 g i:=by
  intro g i _
  by_cases hed:g=d.f∧i=d.i
  ·rw[hed.1,hed.2,oD hC.rt.ca a,pJ (fun e' hw=>((U.cas e').1 hw).2)];rw[show fV M d.f d.i=fV m1 d.f d.i by unfold fV;rw[U.st,U.dk]];exact (hC.co.clean d a (by rw[b,bR,q])).symm
  ·exact U.con hC.rt hed
 have v:LB m1 M:=by
  refine Iq hC.rt.pt U.sk l t fun p n g hg => ?_;rw[U.ents]
  by_cases hu:(ent m1 p n).k=1∧(ent m1 p n).n=d.k
  ·rw[if_pos hu];obtain⟨g',hj,hn⟩:=hC.rt.en p n (by rw[hu.1];decide);rw[hg] at hj;cases hj;have h2:=hn.fr hu.1;rw[hu.2,b,bR] at h2;have h3:=h2.1 (by rw[q];exact h0);have x:vS m1.st g.fi g.pg:=by rw[←h3.1,←h3.2,j.2.1,j.2.2];exact hC.rt.ca.file d a
   have ht:¬g.fi<0:=by have:=x.1;omega
   have s:¬((M.st.fs.length:Int)≤g.fi∨Ca M.st g.fi g.pg=true):=by rw[U.st];exact MJ hC.rt.pt.st x
   have hl:Fv m1 g (ent m1 p n)=((aN m1 f).p,false,0):=by unfold Fv;rw[if_pos hu.1,hu.2,b,zC,q];simp only[Prod.mk.injEq,true_and,and_true];exact decide_eq_false (by omega)
   rw[hl];unfold Fv;rw[if_neg (by decide),if_neg (by decide),if_neg ht,if_neg s,t _ _ x];have:g.fi=d.f∧g.pg=d.i:=⟨by rw[←h3.1,j.2.1],by rw[←h3.2,j.2.2]⟩;rw[this.1,this.2,oD hC.rt.ca a,b,bR]
  rw[if_neg hu];refine zI hC.rt.pt.st (hC.rt.pt.pg hg).1 l t (fun hk => ?_) (fun hk=>by rw[U.sw];exact⟨rfl,rfl⟩);have s:(ent m1 p n).n.toNat≠d.k.toNat:=by intro e;have h5:=((dx _).1 (tT hC.rt.pt p n));exact hu ⟨hk,by omega⟩
  have:aN M (ent m1 p n).n.toNat=aN m1 (ent m1 p n).n.toNat:=by rw[U.fr,if_neg s]
  exact⟨congrArg Fr.p this,congrArg Fr.f this⟩
 refine⟨U.rt,U.co,hC.vis.trans v,U.len.trans hh,?_,by rw[hm,if_pos rfl],fun g hg=>by rw[hm,if_neg hg],by rw[U.sl,hC.sl],fun p n s=>by rw[U.ents,z,b,if_neg s],fun e => ?_,?_⟩
 ·rw[U.hand,hC.fs];rfl
 ·rw[U.cas,hC.ca];constructor
  ·rintro⟨h1,h2⟩;refine⟨h1,fun h3=>h2 ?_⟩;rw[h.ca.uniq h1 (by rw[←hC.ca];exact a) (by rw[h3,b])];exact⟨rfl,rfl⟩
  rintro⟨h1,h2⟩;refine⟨h1,fun h3=>h2 ?_⟩;rw[srt_eq h.ca.srt h1 (by rw[←hC.ca];exact a) h3.1 h3.2,b]
 rw[U.st,U.dk];have h1:=Ec h hf;rw[hi] at h1
 by_cases hcd:(aN k.m f).f<0∨(aN k.m f).d=false∨dw k.m.st (aN k.m f).f (aN k.m f).i≠0
 ·rw[if_pos hcd] at h1;have h2:m1=k.m:=congrArg Kp.m h1;rw[h2];exact .inl ⟨rfl,rfl⟩
 rw[if_neg hcd] at h1;have h2:m1=gM k.m f:=congrArg Kp.m h1;rw[h2];refine .inr ⟨h0,?_,?_,rfl,rfl⟩
 ·cases e:(aN k.m f).d with
  | true=>rfl
  | false=>exact absurd (.inr (.inl e)) hcd
 by_cases e:dw k.m.st (aN k.m f).f (aN k.m f).i=0
 ·exact e
 ·exact absurd (.inr (.inr e)) hcd
def zh (m:Ma) (f i:Int) (P:Page):Prop:=∃c∈m.ca,c.f=f∧c.i=i∧(aN m c.k.toNat).d=true∧(aN m c.k.toNat).p=P
structure UZ (m m' : Ma):Prop where
 st:m'.st=m.st
 dk:m'.dk=m.dk
 di:∀f i P,zh m' f i P→zh m f i P
structure Wu (P:Ma→Prop):Prop where
 cl:∀m f,Rt m→Co m→P m→f<m.m.fs.length→0≤(aN m f).f→(aN m f).d=true→dw m.st (aN m f).f (aN m f).i=0→P (gM m f)
 sub:∀m m',Rt m→Co m→P m→Rt m'→Co m'→UZ m m'→P m'
def Inv (m m' : Ma):Prop:=∀P,Wu P→P m→P m'
theorem Inv.refl (m:Ma):Inv m m:=fun _ _ h=>h
theorem Inv.trans {a b c:Ma} (h:Inv a b) (k:Inv b c):Inv a c:=fun P hp ha=>k P hp (h P hp ha)
theorem UZ.inv {m m' : Ma} (h:UZ m m') (h1:Rt m) (h2:Co m) (h3:Rt m') (h4:Co m'):Inv m m':=fun P hp hm=>hp.sub m m' h1 h2 hm h3 h4 h
theorem UZ.of {m m' : Ma} (st:m'.st=m.st) (dk:m'.dk=m.dk) (hc:∀c∈m'.ca,(aN m' c.k.toNat).d=true→c∈m.ca∧(aN m' c.k.toNat).d=(aN m c.k.toNat).d∧(aN m' c.k.toNat).p=(aN m c.k.toNat).p):UZ m m':=
 ⟨st,dk,fun f i P ⟨c,a1,a2,a3,a4,a5⟩=>have ⟨b1,b2,b3⟩:=hc c a1 a4;⟨c,b1,a2,a3,by rw[←b2];exact a4,by rw[←b3];exact a5⟩⟩
theorem vG.inv {m m' : Ma} (h:Rt m) (hc:Co m) (hf:f<m.m.fs.length) (E:vG m m' f):Inv m m':=by
 have b:∀c∈m'.ca,c∈m.ca∧c.k.toNat≠f:=fun c a=>by have h1:=(E.cas c).1 a;have h2:=h.ca.lt c h1.1;exact⟨h1.1,fun e=>h1.2 (by omega)⟩
 rcases E.std with ⟨h1,h2⟩|⟨h0,hd,hb,h1,h2⟩
 ·refine UZ.inv (.of h1 h2 fun c a _ => ?_) h hc E.rt E.co;rw[E.oth _ (b c a).2];exact⟨(b c a).1,rfl,rfl⟩
 have hC:=FB h hc hf h0 hb;refine Inv.trans (fun P hp hm=>hp.cl m f h hc hm hf h0 hd hb) (UZ.inv (.of h1 h2 fun c a _ => ?_) hC.rt hC.co E.rt E.co);have h3:aN (gM m f) c.k.toNat=aN m c.k.toNat:=by rw[yJ hC.fs,lH hf,if_neg (b c a).2]
 rw[E.oth _ (b c a).2,h3];exact⟨(b c a).1,rfl,rfl⟩
theorem NZ {α:Type} {q:α→Bool} {l:List α} (h:0≤idx q l):∃k:Nat,idx q l=k∧∃hk:k<l.length,q l[k]=true:=by
 unfold idx at h ⊢;cases hf:l.findIdx? q with
 | none=>rw[hf] at h;simp at h
 | some k=>
  obtain⟨hk,hq,_⟩:=vN.1 hf;exact⟨k,rfl,hk,hq⟩
theorem Uk {α:Type} {q:α→Bool} {l:List α} (h:idx q l<0):∀x∈l,q x=false:=by
 unfold idx at h;cases hf:l.findIdx? q with
 | none=>exact Ad.1 hf
 | some k=>rw[hf] at h;simp at h;omega
theorem RL {m:Ma} (h:Pt m) {n:Int} (h1:1≤n) (h2:n≤1000) :
  (ig m.sl n=0∧∃s:Nat,s<m.sl.length∧oZ m s=0∧jF m.sl n=s∧lM m.sl n=m.sl.set s n)∨(ig m.sl n=10∧∀s:Nat,s<m.sl.length→oZ m s≠0):=by
 by_cases hi:idx Jk m.sl<0
 ·refine .inr ⟨?_,fun s hs he => ?_⟩
  ·unfold ig;rw[if_neg (by rw[h.sl];simp),if_neg (by omega),if_pos hi]
  have:=Uk hi _ (bO (LV hs));rw[he] at this;simp[Jk] at this
 obtain⟨k,hk,a,hz⟩:=NZ (by omega:0≤idx Jk m.sl);have hE:ig m.sl n=0:=by unfold ig;rw[if_neg (by rw[h.sl];simp),if_neg (by omega),if_neg hi]
 refine .inl ⟨hE,k,a,?_,?_,?_⟩
 ·have h3:=LV a;rw[aH a] at h3;rw[←aJ h3];simpa[Jk] using hz
 ·unfold jF;rw[if_pos hE,hk]
 ·unfold lM;rw[if_pos hE,hk,bR]
theorem Pv {m:Ma} (h:Rt m) (hf:f<m.m.fs.length) (h0:(aN m f).f<0):vY m f=0∧(aN m f).r=(bn m f).length:=by
 have hc:vY m f=0:=vJ.none (m:=m) (i:=f) fun c hc hk=>by have h1:=(h.ca.fr c hc).2.1;have h2:=(h.ca.file c hc).1;rw[hk,bR] at h1;omega
 refine⟨hc,?_⟩;have:=h.cf f hf;rw[hc,←uj] at this;omega
theorem MZ {k:Kp} (h:Rt k.m) (hc:Co k.m) (hf:f<k.m.m.fs.length) (h0:(aN k.m f).f<0) (hr:(aN k.m f).r≠0) (hb:ig k.m.sl (bn k.m f).length=0) :
  (fH k f).e=k.e∧vG k.m (fH k f).m f:=by
 obtain⟨hS,hV⟩:=Pv h hf h0;have h7:=((iH _).1 (h.pt.frE hf)).1;obtain⟨_,s,hs,hZ,z,hU⟩:=(RL h.pt (n:=(bn k.m f).length) (by omega) (by omega)).resolve_right (fun e=>by rw[hb] at e;cases e.1);have hY:s<60:=by have:=ja h.pt.sl;omega
 have q:(s:Int)<k.m.sw.blocks.length:=by rw[h.pt.swl];omega
 have hC:aL k.m.sw (s:Int)=0:=kX.2 ⟨h.pt.sw,by omega,q⟩;have hl:∃L:Nat,L=(bn k.m f).length:=⟨_,rfl⟩;obtain⟨L,hL⟩:=hl;generalize hm1:({ k.m with sl:=k.m.sl.set s (L:Int),sw:=iC k.m.sw ((s:Int),(aN k.m f).p) }:Ma)=m1;have hX:fH k f=rG ⟨m1,k.e⟩ f s (bn k.m f):=by
  unfold fH;simp only;rw[if_neg (by omega),if_neg (by rw[hb];simp),z,hC,hU];have hw:dC k.m.sw (s:Int) (aN k.m f).p=iC k.m.sw ((s:Int),(aN k.m f).p):=by unfold dC;rw[if_pos hC]
  have he:jg k.e 0=k.e:=by unfold jg;split<;>simp_all
  rw[hw,he,←hm1,hL]
 have o:m1.m=k.m.m:=by rw[←hm1]
 have a:m1.sp=k.m.sp:=by rw[←hm1]
 have hh:m1.sl=k.m.sl.set s (L:Int):=by rw[←hm1]
 have ha:m1.sw=iC k.m.sw ((s:Int),(aN k.m f).p):=by rw[←hm1]
 have hm:m1.dk=k.m.dk:=by rw[←hm1]
 have hd:m1.st=k.m.st:=by rw[←hm1]
 have hI:m1.ca=k.m.ca:=by rw[←hm1]
 have hM:Pt m1:={ fr:=by rw[o];exact h.pt.fr,sl:=by rw[hh];exact Dq s _ h.pt.sl (by omega) (by omega),sw:=by rw[ha];exact yA h.pt.sw (by show (0:Int)≤s;omega) q,dk:=by rw[hm];exact h.pt.dk,st:=by rw[hd];exact h.pt.st,swl:=by rw[ha,hh,wG,bH];exact h.pt.swl,dkl:=by rw[hm,hd];exact h.pt.dkl,spl:=by rw[a];exact h.pt.spl,ar:=by rw[a];exact h.pt.ar,tb:=by rw[a];exact h.pt.tb };have hJ:∀p n,ent m1 p n=ent k.m p n:=fun p n=>by unfold ent fF;rw[a]
 have hT:bn k.m f=bn m1 f:=by unfold bn fF;rw[a]
 have ht:∀g,aN m1 g=aN k.m g:=fun g=>yJ o g;have hH:=CJ (f:=f) (e':=⟨2,s,false⟩) ((dx _).2 (.inr (.inr ⟨rfl,by show (0:Int)≤s;omega,by show (s:Int)<60;omega,rfl⟩))) (Ga f s) (fun _ _ _ _=>rfl) (bn k.m f) ⟨m1,k.e⟩ hM (by rw[hT];exact Eb m1 f) (by show f<m1.m.fs.length;rw[o];exact hf) (by show _≤(aN m1 f).r;rw[ht];omega);obtain⟨r1,r2,r3,r4,r5,r6,r7⟩:=hH;have hR:(bn k.m f).foldl (Ga f s) ⟨m1,k.e⟩=rG ⟨m1,k.e⟩ f s (bn k.m f):=rfl;rw[hR,←hX] at r1 r2 r3 r4 r5 r6 r7;refine⟨r1,?_⟩;generalize fH k f=k2 at *
 obtain⟨M,eM⟩:=k2;change vG k.m M f;simp only at r1 r2 r3 r4 r5 r6 r7;have hz:jA (aN m1 f) (-((bn k.m f).length:Int))=frZ:=by unfold jA;rw[if_pos (by rw[ht];omega)]
 rw[hz] at r5;have hv:∀g,aN M g=if g=f then frZ else aN k.m g:=by intro g;rw[yJ r5 g,lH (by rw[o];exact hf),ht]
 have d:∀g,g≠f→aN M g=aN k.m g:=fun g hg=>by rw[hv,if_neg hg]
 have t:M.m.fs.length=k.m.m.fs.length:=by rw[r5,ny,o]
 have y:M.sl=k.m.sl.set s (L:Int):=r3.sl.trans hh;have hG:M.sw=iC k.m.sw ((s:Int),(aN k.m f).p):=r3.sw.trans ha;have hB:M.dk=k.m.dk:=r3.dk.trans hm;have u:M.st=k.m.st:=r3.st.trans hd;have b:M.ca=k.m.ca:=r3.ca.trans hI;have z:kL k.m M:=(kL.of a).trans r4;have v:∀p n,ent M p n=if (p,n)∈bn k.m f then ⟨2,s,false⟩ else ent k.m p n:=fun p n=>by rw[r6,hJ]
 have l:∀p n,(p,n)∈bn k.m f↔(ent k.m p n).k=1∧(ent k.m p n).n=f:=by
  intro p n;rw[um];constructor
  ·rintro⟨_,_,h3⟩;exact h3
  intro h3;have h4:=qR (m:=k.m) (p:=p) (n:=n) (by rw[h3.1];decide);exact⟨h4.1,h4.2,h3⟩
 have hn:qV k.m.st M.st:=qV.of u;have hx:∀g i,fV M g i=fV k.m g i:=fun g i=>by unfold fV;rw[u,hB]
 have hy:∀c∈k.m.ca,c.k.toNat≠f:=fun c hc e=>by have h1:=(h.ca.fr c hc).2.1;have h2:=(h.ca.file c hc).1;rw[e] at h1;omega
 have hA:vJ M:=⟨by rw[b,u];exact h.ca.file,by rw[b,t];exact h.ca.lt,fun c hc=>by rw[b] at hc;rw[d _ (hy c hc)];exact h.ca.fr c hc,by rw[b];exact h.ca.srt⟩;have hF:∀g i,vS k.m.st g i→bA M g i=bA k.m g i:=by
  intro g i h6;rcases ve k.m g i with ⟨e,he,hem,hef,hei⟩|⟨he,hno⟩
  ·subst hef;subst hei;rw[oD h.ca hem,oD hA (by rw[b];exact hem),d _ (hy e hem)]
  ·rw[pJ hno,pJ (by rw[b];exact hno),hx]
 have hN:∀p n,(ent k.m p n).k=2→(ent k.m p n).n≠s:=by intro p n hO he;have h3:=qR (m:=k.m) (p:=p) (n:=n) (by rw[hO];decide);have h4:=(zA (m:=k.m) (kd:=2) (i:=s) (by decide)).2 ⟨p,n,h3.1,h3.2,hO,he⟩;have h5:=h.cs s hs;omega
 have hK:LB k.m M:=by
  refine Iq h.pt z hn hF fun p n g hg => ?_;rw[v]
  by_cases hu:(p,n)∈bn k.m f
  ·rw[if_pos hu];have h1:=(l p n).1 hu;unfold Fv;rw[if_neg (show ¬(2:Int)=1 by decide),if_pos rfl,if_pos h1.1,h1.2,zC,hG];rw[wR h.pt.sw (by show (0:Int)≤s;omega) q,if_pos ⟨hC,rfl⟩,Hz h.pt.sw (by show (0:Int)≤s;omega) q,hC,decide_eq_true h0]
  rw[if_neg hu];refine zI h.pt.st (h.pt.pg hg).1 hn hF (fun hk => ?_) (fun hk => ?_)
  ·have hq:(ent k.m p n).n.toNat≠f:=by intro e;have h5:=((dx _).1 (tT h.pt p n));exact hu ((l p n).2 ⟨hk,by omega⟩)
   have:=d _ hq;exact⟨congrArg Fr.p this,congrArg Fr.f this⟩
  rw[hG,wR h.pt.sw (by show (0:Int)≤s;omega) q,if_neg (fun e=>hN p n hk e.2.symm),Hz h.pt.sw (by show (0:Int)≤s;omega) q];exact⟨rfl,rfl⟩
 refine⟨⟨r2,by rw[hB,u];exact h.trim,fun p hp => ?_,hA,fun p n hk => ?_,fun i hi => ?_,fun i hi hE => ?_,fun j hj => ?_⟩,⟨fun e he => ?_,fun e he hQ => ?_,fun i hi hD => ?_⟩,hK,t,?_,by rw[hv,if_pos rfl],d,by rw[y,bH],fun p n hq=>by rw[v,if_neg (fun hu=>hq ((l p n).1 hu))],fun e => ?_,.inl ⟨u,hB⟩⟩
 ·rw[z.lv] at hp;have h1:=h.live p hp;rw[z.ar];refine⟨h1.1,fun n => ?_⟩;rw[v,if_neg]
  ·exact h1.2 n
  intro hu;have:=(l p n).1 hu;rw[h1.2 n] at this;exact absurd this.1 (by decide)
 ·rw[v] at hk ⊢
  by_cases hu:(p,n)∈bn k.m f
  ·rw[if_pos hu];have h1:=(l p n).1 hu;obtain⟨g,hg,w⟩:=h.en p n (by rw[h1.1];decide);refine⟨g,by unfold oU;rw[z.ar];exact hg,fun _=>⟨by rw[y,bH];show (s:Int)<_;omega,?_⟩,fun (e:(2:Int)=1)=>absurd e (by decide),fun (e:(2:Int)=1)=>absurd e (by decide)⟩;have h2:=w.fr h1.1;rw[h1.2,bR] at h2;cases hsh:g.sh with
   | false=>rfl
   | true=>have:=h2.2.1 hsh;omega
  rw[if_neg hu] at hk ⊢;obtain⟨g,hg,w⟩:=h.en p n hk;refine⟨g,by unfold oU;rw[z.ar];exact hg,by rw[y,bH];exact w.sw,by rw[t];exact w.lt,fun hP => ?_⟩;have hq:(ent k.m p n).n.toNat≠f:=by intro e;have h5:=((dx _).1 (tT h.pt p n));exact hu ((l p n).2 ⟨hP,by omega⟩)
  rw[d _ hq];exact w.fr hP
 ·have a1:=r7 1 i;rw[if_neg (fun e=>by cases e.1:¬((1:Int)=(⟨2,s,false⟩:En).k∧(i:Int)=(⟨2,s,false⟩:En).n))] at a1;have a2:dA m1 1 i=dA k.m 1 i:=by unfold dA;rw[a]
  have a3:vY M i=vY k.m i:=by unfold vY;rw[b]
  by_cases e:i=f
  ·subst e;rw[if_pos ⟨rfl,rfl⟩] at a1;rw[uj] at a1;rw[hv,if_pos rfl,a3,hS];show (0:Int)=_;omega
  rw[if_neg (fun h'=>e (by have:=h'.2;omega))] at a1;have a5:=h.cf i (by rw[←t];exact hi);rw[d i e,a3];omega
 ·by_cases e:i=f
  ·subst e;rw[hv,if_pos rfl] at hE;exact absurd hE (by decide)
  rw[d i e] at hE;rw[b];exact h.fc i (by rw[←t];exact hi) hE
 ·have a1:=r7 2 j;rw[if_neg (fun e=>by cases e.1)] at a1;have a2:dA m1 2 j=dA k.m 2 j:=by unfold dA;rw[a]
  have hW : j<k.m.sl.length:=by rw[y,bH] at hj;exact hj
  have a3:oZ M j=if j=s then (L:Int) else oZ k.m j:=by have:=Ob (m:=k.m) (x:=(L:Int)) hs j;rw[←this];unfold oZ setSl;rw[y]
  have a4:=h.cs j hW;rw[a3]
  by_cases e:j=s
  ·subst e;rw[if_pos ⟨rfl,rfl⟩] at a1;rw[if_pos rfl];omega
  rw[if_neg (fun h'=>e (by have h2:(j:Int)=(s:Int):=h'.2;omega))] at a1;rw[if_neg e];omega
 ·rw[b] at he;rw[d _ (hy e he),u];exact hc.tail e he
 ·rw[b] at he;rw[d _ (hy e he)] at hQ ⊢;rw[hx];exact hc.clean e he hQ
 ·by_cases e:i=f
  ·rw[hv,if_pos e] at hD;cases hD
  rw[d i e] at hD ⊢;exact hc.anon i (by rw[←t];exact hi) hD
 ·rw[r5];show m1.m.hand=_;rw[o]
 rw[b];constructor
 ·intro h1;exact⟨h1,fun h2=>hy e h1 (by rw[h2];exact bR f)⟩
 ·exact fun h1=>h1.1
theorem Rw {k:Kp} (h:Rt k.m) (hc:Co k.m) (hf:f<k.m.m.fs.length) (hr:(aN k.m f).r≠0) :
  if mr k.m f=true then (fH k f).e=k.e∧vG k.m (fH k f).m f else fH k f=k:=by
 unfold mr
 by_cases h0:0≤(aN k.m f).f
 ·rw[if_pos h0]
  by_cases hb:iA k.m f=true
  ·rw[if_pos hb];exact LY h hc hf h0 hb
  rw[if_neg hb];unfold fH;simp only;rw[if_pos h0,if_pos (by simpa using hb)]
 rw[if_neg h0]
 by_cases hb:ig k.m.sl (bn k.m f).length=0
 ·rw[if_pos (by simpa using hb)];exact MZ h hc hf (by omega) hr hb
 rw[if_neg (by simpa using hb)];unfold fH;simp only;rw[if_neg h0,if_pos hb]
def zB (x y:Fr):Prop:=y.p=x.p∧y.r=x.r∧y.d=x.d∧y.f=x.f∧y.i=x.i
theorem zB.refl (x:Fr):zB x x:=⟨rfl,rfl,rfl,rfl,rfl⟩
theorem zB.trans {x y z:Fr} (h:zB x y) (k:zB y z):zB x z:=⟨k.1.trans h.1,k.2.1.trans h.2.1,k.2.2.1.trans h.2.2.1,k.2.2.2.1.trans h.2.2.2.1,k.2.2.2.2.trans h.2.2.2.2⟩
theorem VV {m m' : Ma} (h:Rt m) (hc:Co m) (hr:Rest m m') (hs:m'.sp=m.sp) (hw:bL m'.m=0) (hl:m'.m.fs.length=m.m.fs.length) (hf:∀g,zB (aN m g) (aN m' g)):Rt m'∧Co m'∧LB m m':=by
 have e:∀p n,ent m' p n=ent m p n:=fun p n=>by unfold ent fF;rw[hs]
 have u:∀p n,oU m' p n=oU m p n:=fun p n=>by unfold oU fF;rw[hs]
 have w:∀i,vY m' i=vY m i:=fun i=>by unfold vY;rw[hr.ca]
 have q:∀kd i,dA m' kd i=dA m kd i:=fun kd i=>by unfold dA;rw[hs]
 have j:∀f i,fV m' f i=fV m f i:=fun f i=>by unfold fV;rw[hr.st,hr.dk]
 have t:Pt m':={ fr:=hw,sl:=by rw[hr.sl];exact h.pt.sl,sw:=by rw[hr.sw];exact h.pt.sw,dk:=by rw[hr.dk];exact h.pt.dk,st:=by rw[hr.st];exact h.pt.st,swl:=by rw[hr.sw,hr.sl];exact h.pt.swl,dkl:=by rw[hr.dk,hr.st];exact h.pt.dkl,spl:=by rw[hs];exact h.pt.spl,ar:=by rw[hs];exact h.pt.ar,tb:=by rw[hs];exact h.pt.tb };have o:vJ m':=⟨by rw[hr.ca,hr.st];exact h.ca.file,by rw[hr.ca,hl];exact h.ca.lt,fun c a=>by rw[hr.ca] at a;have h1:=hf c.k.toNat;rw[h1.2.1,h1.2.2.2.1,h1.2.2.2.2];exact h.ca.fr c a,by rw[hr.ca];exact h.ca.srt⟩;have l:∀f i,bA m' f i=bA m f i:=by
  intro f i;have hl:qm m' f i=qm m f i:=by unfold qm;rw[hr.ca]
  rw[lw,lw,hl];cases qm m f i with
  | none=>exact j f i
  | some c=>exact (hf c.k.toNat).1
 have b:qV m.st m'.st:=qV.of hr.st;refine⟨⟨t,by rw[hr.dk,hr.st];exact h.trim,fun p hp => ?_,o,fun p n hk => ?_,fun i hi => ?_,fun i hi h0 => ?_,fun s r => ?_⟩,⟨fun c a => ?_,fun c a hd => ?_,fun i hi hd => ?_⟩,?_⟩
 ·have:fF m' p=fF m p:=by unfold fF;rw[hs]
  rw[this] at hp ⊢;exact⟨(h.live p hp).1,fun n=>by rw[e];exact (h.live p hp).2 n⟩
 ·rw[e] at hk ⊢;obtain⟨g,hg,d⟩:=h.en p n hk;refine⟨g,by rw[u];exact hg,by rw[hr.sl];exact d.sw,by rw[hl];exact d.lt,fun v => ?_⟩;have h1:=d.fr v;have h2:=hf (ent m p n).n.toNat;unfold OB at h1 ⊢;rw[h2.2.1,h2.2.2.2.1,h2.2.2.2.2];exact h1
 ·rw[(hf i).2.1,w,q];exact h.cf i (by rw[←hl];exact hi)
 ·rw[(hf i).2.2.2.1] at h0;rw[hr.ca];exact h.fc i (by rw[←hl];exact hi) h0
 ·rw[q];have:oZ m' s=oZ m s:=by unfold oZ;rw[hr.sl]
  rw[this];exact h.cs s (by rw[←hr.sl];exact r)
 ·rw[hr.ca] at a;rw[(hf c.k.toNat).1,hr.st];exact hc.tail c a
 ·rw[hr.ca] at a;rw[(hf c.k.toNat).2.2.1] at hd;rw[(hf c.k.toNat).1,j];exact hc.clean c a hd
 ·rw[(hf i).2.2.1] at hd;rw[(hf i).2.2.2.1];exact hc.anon i (by rw[←hl];exact hi) hd
 refine Iq h.pt (kL.of hs) b (fun f i _=>l f i) fun p n g hg => ?_;rw[e];exact zI h.pt.st (h.pt.pg hg).1 b (fun f i _=>l f i) (fun _=>⟨(hf _).1,(hf _).2.2.2.1⟩) (fun _=>by rw[hr.sw];exact⟨rfl,rfl⟩)
def qi (m:Ma) (x:Mem):Ma:={ m with m:=x }
theorem OJ {m:Ma} (hw:bL m.m=0) (hk:0≤iM m.m):(iM m.m).toNat<m.m.fs.length∧(aN m (iM m.m).toNat).r≠0∧bL (fM m.m)=0∧(fM m.m).fs.length=m.m.fs.length∧∀g,zB (aN m g) (aN (qi m (fM m.m)) g):=by
 have hf:mI m.m.fs≠m.m.fs.length:=fun e=>by unfold iM at hk;rw[if_neg (by rw[hw];simp),if_pos e] at hk;omega
 obtain⟨h,b,f⟩:=QI m.m hw hf;have hM:fM m.m=⟨nS m.m (ik m.m),(iU m.m (ik m.m+1):Nat)⟩:=by unfold fM;rw[if_neg (by rw[hw];simp),if_neg hf]
 have hK:iM m.m=(iU m.m (ik m.m):Nat):=by unfold iM;rw[if_neg (by rw[hw];simp),if_neg hf]
 have a:0<m.m.fs.length:=by
  rcases sS m.m.fs.length with h0|h0
  ·exact absurd (by have:=EO m.m.fs;omega) hf
  ·exact h0
 have c:=oh a (ik m.m);have d:=oh a (ik m.m+1);obtain⟨w1,w2,w3,w4⟩:=(eH _).1 hw;rw[hK,hM,bR];refine⟨c,?_,(eH _).2 ⟨by simp only;rw[iP];exact w1,fun x hx => ?_,by simp only;omega,by simp only;rw[iP];omega⟩,iP _ _,fun g => ?_⟩
 ·unfold wh at b;simp only[dS,decide_eq_true_eq] at b;have h1:(aN m (iU m.m (ik m.m))).r=(m.m.fs.getD (iU m.m (ik m.m)) fr0).r:=rfl;rw[h1];omega
 ·obtain⟨i,hi,rfl⟩:=jC.1 hx;simp only at hi ⊢;rw[iP] at hi;rw[uM m.m _ i hi];have h3:=w2 m.m.fs[i] (dN hi);split
  ·rw[iH] at h3 ⊢;exact⟨h3.1,fun e=>⟨rfl,(h3.2.1 e).2.1,(h3.2.1 e).2.2.1,(h3.2.1 e).2.2.2⟩,h3.2.2⟩
  ·exact h3
 rcases fG g m.m.fs.length with hg|hg
 ·have e1:aN (qi m ⟨nS m.m (ik m.m),(iU m.m (ik m.m+1):Nat)⟩) g=(nS m.m (ik m.m))[g]'(by rw[iP];exact hg):=by show (nS m.m (ik m.m)).getD g fr0=_;rw[aS,aH (by rw[iP];exact hg)];rfl
  have e2:aN m g=m.m.fs[g]:=by have:=yG hg;rw[aH hg] at this;exact (aJ this).symm
  rw[e1,e2,uM m.m _ g hg];split
  ·exact⟨rfl,rfl,rfl,rfl,rfl⟩
  ·exact .refl _
 have e1:aN (qi m ⟨nS m.m (ik m.m),(iU m.m (ik m.m+1):Nat)⟩) g=fr0:=NI (m:=qi m ⟨nS m.m (ik m.m),(iU m.m (ik m.m+1):Nat)⟩) (by show (nS m.m (ik m.m)).length≤g;rw[iP];exact hg);rw[e1,NI hg];exact .refl _
structure DN (m m' : Ma) (o:Option Nat):Prop where
 rt:Rt m'
 co:Co m'
 vis:LB m m'
 len:m'.m.fs.length=m.m.fs.length
 sll:m'.sl.length=m.sl.length
 fr:∀g,o≠some g→zB (aN m g) (aN m' g)
 free:∀f,o=some f→f<m.m.fs.length∧aN m' f=frZ∧(aN m f).r≠0
 ents:∀p n,((ent m p n).k=1→o≠some (ent m p n).n.toNat)→ent m' p n=ent m p n
 cas:∀c,c∈m'.ca↔c∈m.ca∧o≠some c.k.toNat
 inv:Inv m m'
theorem DN.refl {m:Ma} (h:Rt m) (hc:Co m):DN m m none:=⟨h,hc,.refl m,rfl,rfl,fun _ _ => .refl _,(fun _ e=>by cases e),fun _ _ _=>rfl,fun c=>⟨fun h=>⟨h,by simp⟩,fun h=>h.1⟩,.refl m⟩
theorem reclaimN_ok:∀(t:Nat) (k:Kp),Rt k.m→Co k.m→(reclaimN t k).1.e=k.e∧∃o,DN k.m (reclaimN t k).1.m o∧((reclaimN t k).2=true↔o≠none)
 | 0,k,h,hc=>⟨rfl,none,DN.refl h hc,by simp[reclaimN]⟩
 | t+1,k,h,hc=>by
  have hw:=h.pt.fr;have hmust:jg k.e (bL k.m.m)=k.e:=by rw[hw];unfold jg;split<;>simp_all
  by_cases hn:iM k.m.m<0
  ·have hd:reclaimN (t+1) k=(k,false):=by unfold reclaimN;rw[if_pos (.inr hn),hmust]
   rw[hd];exact⟨rfl,none,DN.refl h hc,by simp⟩
  obtain⟨n1,n2,n3,n4,n5⟩:=OJ hw (by omega:0≤iM k.m.m);have hd:reclaimN (t+1) k=if mr (qi k.m (fM k.m.m)) (iM k.m.m).toNat=true then (fH ⟨qi k.m (fM k.m.m),k.e⟩ (iM k.m.m).toNat,true) else reclaimN t (fH ⟨qi k.m (fM k.m.m),k.e⟩ (iM k.m.m).toNat):=by
   conv=>lhs;unfold reclaimN
   rw[if_neg (by rintro (e | e);exact e hw;exact hn e)];rfl
  generalize hF:(iM k.m.m).toNat=F at *
  obtain⟨hr1,hc1,hv1⟩:=VV (m:=k.m) (m':=qi k.m (fM k.m.m)) h hc ⟨rfl,rfl,rfl,rfl,rfl⟩ rfl n3 n4 n5;have hi1:Inv k.m (qi k.m (fM k.m.m)):=UZ.inv (.of rfl rfl fun c hcm _=>⟨hcm,(n5 _).2.2.1,(n5 _).1⟩) h hc hr1 hc1;have hF1:F<(qi k.m (fM k.m.m)).m.fs.length:=by show F<(fM k.m.m).fs.length;rw[n4];exact n1
  have hfr1:(aN (qi k.m (fM k.m.m)) F).r≠0:=by rw[(n5 F).2.1];exact n2
  have hev:=Rw (k:=⟨qi k.m (fM k.m.m),k.e⟩) hr1 hc1 hF1 hfr1;rw[hd]
  by_cases hb:mr (qi k.m (fM k.m.m)) F=true
  ·rw[if_pos hb] at hev;obtain⟨he,hE⟩:=hev;rw[if_pos hb];refine⟨he,some F,⟨hE.rt,hE.co,hv1.trans hE.vis,hE.len.trans n4,hE.sll,fun g hg => ?_,fun f e => ?_,fun p n hne => ?_,fun c => ?_,hi1.trans (hE.inv hr1 hc1 hF1)⟩,by simp⟩
   ·have hne:g≠F:=fun e=>hg (by rw[e]);exact (n5 g).trans (by rw[hE.oth g hne];exact .refl _)
   ·cases e;exact⟨n1,hE.free,n2⟩
   ·exact hE.ents p n (fun e=>by have h2:((ent k.m p n).n:Int)=F:=e.2;exact hne e.1 (by rw[h2,bR]))
   refine (hE.cas c).trans ⟨fun h1=>⟨h1.1,fun e=>h1.2 ?_⟩,fun h1=>⟨h1.1,fun e=>h1.2 (by rw[e,bR])⟩⟩;have:=(h.ca.lt c h1.1).1;simp only[iY] at e;omega
  rw[if_neg hb] at hev;rw[if_neg hb,hev];obtain⟨i1,o,hI,i2⟩:=reclaimN_ok t ⟨qi k.m (fM k.m.m),k.e⟩ hr1 hc1;refine⟨i1,o,⟨hI.rt,hI.co,hv1.trans hI.vis,hI.len.trans n4,hI.sll,fun g hg=>(n5 g).trans (hI.fr g hg),fun f e => ?_,hI.ents,hI.cas,hi1.trans hI.inv⟩,i2⟩;obtain⟨a1,a2,a3⟩:=hI.free f e;refine⟨?_,a2,?_⟩
  ·have a1:f<(qi k.m (fM k.m.m)).m.fs.length:=a1;have:(qi k.m (fM k.m.m)).m.fs.length=k.m.m.fs.length:=n4;omega
  ·rw[(n5 f).2.1] at a3;exact a3
theorem yu {k:Kp} (h:Rt k.m) (hc:Co k.m):(eB k).1.e=k.e∧∃o,DN k.m (eB k).1.m o∧((eB k).2=true↔o≠none):=reclaimN_ok _ k h hc
theorem NB (p:Page) (n:Int):fu (fu p n) n=fu p n:=by
 apply xJ;intro i hi;simp only[fu,rR];split<;>rfl
theorem QQ (n:Int):fu zPg n=zPg:=by
 apply xJ;intro i hi;simp only[fu,rR];have hz:zPg[i]=0:=by
  match i,hi with
  | 0,_=>rfl
  | 1,_=>rfl
  | 2,_=>rfl
  | 3,_=>rfl
  | 4,_=>rfl
  | 5,_=>rfl
  | 6,_=>rfl
  | 7,_=>rfl
  | n+8,h=>omega
 split<;>rw[hz]
theorem Pp (m:Ma) (f i:Int):fu (fV m f i) ((aK m.st f).n-i*8)=fV m f i:=by
 unfold fV;split
 ·exact NB _ _
 ·exact QQ _
theorem DZ {f i k:Int}:∀ {l:List Cc},l.Pairwise BZ→(∀c∈l,¬(c.f=f∧c.i=i))→(l.insertIdx (yR l f i) ⟨f,i,k⟩).Pairwise BZ
 | [],_,_=>by simp[yR]
 | c::l,hs,hno=>by
  obtain⟨h1,h2⟩:=su.1 hs;have hnc:=hno c gV
  by_cases hg:Aw f i c=true
  ·have:yR (c::l) f i=0:=by unfold yR;rw[zi,if_pos hg];rfl
   rw[this,List.insertIdx_zero];have hlt:BZ ⟨f,i,k⟩ c:=by have:=xB.1 hg;unfold BZ;simp only;omega
   refine su.2 ⟨fun d hd => ?_,hs⟩;rcases bZ.1 hd with rfl|hd
   ·exact hlt
   have:=h1 d hd;unfold BZ at this hlt ⊢;omega
  have:yR (c::l) f i=yR l f i+1:=by unfold yR;rw[zi,if_neg hg];cases l.findIdx? (Aw f i)<;>rfl
  rw[this,GM];refine su.2 ⟨fun d hd => ?_,DZ h2 fun d hd=>hno d (ji _ hd)⟩;rcases (GL (SL l f i)).1 hd with rfl|hd
  ·have:¬(f<c.f∨c.f=f∧i≤c.i):=fun h=>hg (xB.2 h);unfold BZ;simp only;omega
  ·exact h1 d hd
theorem xY {α:Type} (q:α→Bool) (x:α):∀(l:List α) (j:Nat),j≤l.length→(l.insertIdx j x).countP q=l.countP q+vU (q x)
 | l,0,_=>by rw[List.insertIdx_zero,nJ];rfl
 | [],j+1,h=>by simp at h
 | a::l,j+1,h=>by rw[GM,nJ,nJ,xY q x l j (by simpa using h)];omega
theorem firstE_zero:∀ {l:List Int},firstE l=0↔∀x∈l,x=0
 | []=>by simp[firstE]
 | x::l=>by
  unfold firstE
  by_cases hx:x=0
  ·rw[if_pos hx,firstE_zero];constructor
   ·intro h y hy;rcases bZ.1 hy with e|hy
    ·rw[e,hx]
    ·exact h y hy
   ·exact fun h y hy=>h y (ji _ hy)
  rw[if_neg hx];exact⟨fun h=>absurd h hx,fun h=>absurd (h x gV) hx⟩
theorem nk {p:Prop} [Decidable p] {a b:Int} (ha:a≠0):(if p then a else b)=0↔¬p∧b=0:=by
 by_cases h:p
 ·rw[if_pos h];exact⟨fun h'=>absurd h' ha,fun h'=>absurd h h'.1⟩
 ·rw[if_neg h];exact⟨fun h'=>⟨h,h'⟩,fun h'=>h'.2⟩
theorem mJ {a b:Int}:(if a≠0 then a else b)=0↔a=0∧b=0:=by
 by_cases h:a=0
 ·rw[if_neg (fun h'=>h' h)];exact⟨fun h'=>⟨h,h'⟩,fun h'=>h'.2⟩
 ·rw[if_pos h];exact⟨fun h'=>absurd h' h,fun h'=>absurd h'.1 h⟩
theorem BD {s:Sp}:jB s=0↔(bI s.ar).1=0∧cB s.tb=0∧(s.lv=false→s.ar=[]∧∀n,(dH s.tb n).k=0):=by
 unfold jB;rw[mJ,mJ,nk (by decide)];refine and_congr_right fun _=>and_congr_right fun _ => ?_;constructor
 ·rintro⟨h,_⟩ hl;have h1:s.ar.length+(aP s.tb).length=0:=by
   rcases sS (s.ar.length+(aP s.tb).length) with h0|h0
   ·exact h0
   ·exact absurd ⟨hl,h0⟩ h
  refine⟨jM (by omega),fun n => ?_⟩
  by_cases hn:0≤n∧n<64
  ·have h2:aP s.tb=[]:=jM (by omega)
   by_cases hk:(dH s.tb n).k=0
   ·exact hk
   have:=oJ.2 ⟨hn,hk⟩;rw[h2] at this;cases this
  ·rw[qN (by omega)];rfl
 refine fun h=>⟨?_,rfl⟩;rintro⟨hl,h0⟩;obtain⟨h1,h2⟩:=h hl;have h3:aP s.tb=[]:=by rw[List.eq_nil_iff_forall_not_mem];intro n hn;exact (oJ.1 hn).2 (h2 n)
 rw[h1,h3] at h0;exact absurd h0 (by simp)
theorem Gt {m:Ma}:trimB m=true↔(∀b:Int,0≤b→b<m.dk.blocks.length→b∈kE m.st∨m.dk.blocks.getD b.toNat zPg=zPg)∧∀q∈m.dk.queue,q.1∈kE m.st:=by
 unfold trimB;rw[dS,dK,dK];refine and_congr ⟨fun h b h0 hb => ?_,fun h b hb => ?_⟩ ⟨fun h q hq=>by simpa using h q hq,fun h q hq=>by simpa using h q hq⟩
 ·have:=h b.toNat (dE.2 (by omega));rw[xx h0] at this;simpa using this
 have:=h (b:Int) (by omega) (by have:=dE.1 hb;omega);simpa using this
theorem wD {m:Ma}:ic m=0↔Pt m∧trimB m=true∧∀s∈m.sp,s.lv=false→s.ar=[]∧∀n,(dH s.tb n).k=0:=by
 unfold ic;rw[mJ,mJ,mJ,mJ,mJ,nk (by decide),nk (by decide),firstE_zero];constructor
 ·rintro⟨h1,h2,h3,h4,h5,h6,h7,h8⟩;have h9:∀s∈m.sp,_:=fun s hs=>BD.1 (h8 _ (Cj hs));refine⟨⟨h1,h2,h3,h4,h5,?_,?_,by omega,fun s hs=>(h9 s hs).1,fun s hs=>(h9 s hs).2.1⟩,?_,fun s hs=>(h9 s hs).2.2⟩
  ·exact vz fun h=>h6 (.inl h)
  ·exact vz fun h=>h6 (.inr (.inl h))
  cases h:trimB m with
  | true=>rfl
  | false=>exact absurd (.inr (.inr h)) h6
 rintro⟨h,ht,hl⟩;refine⟨h.fr,h.sl,h.sw,h.dk,h.st,?_,by have:=h.spl;omega,?_⟩
 ·rintro (h1|h1|h1)
  ·exact h1 h.swl
  ·exact h1 h.dkl
  ·rw[ht] at h1;cases h1
 intro x hx;obtain⟨s,hs,rfl⟩:=gW.1 hx;exact BD.2 ⟨h.ar s hs,h.tb s hs,hl s hs⟩
theorem vZ {m:Ma} {p:Option Cc} {c:Cc}:sU m p c=0↔(vS m.st c.f c.i∧0≤c.k∧c.k<m.m.fs.length)∧(1≤(aN m c.k.toNat).r∧(aN m c.k.toNat).f=c.f∧(aN m c.k.toNat).i=c.i)∧∀q,p=some q→BZ q c:=by
 have a:rH m c.k=aN m c.k.toNat:=rfl;unfold sU;rw[nk (by decide),nk (by decide),a];refine and_congr ⟨fun h=>⟨⟨by omega,by omega⟩,by omega⟩,fun h=>by obtain⟨⟨_,_⟩,_⟩:=h;omega⟩ (and_congr ⟨fun h=>by omega,fun h=>by omega⟩ ?_);cases p with
 | none=>simp
 | some q=>
  simp only[iY,forall_eq'];rw[nk (by decide)];unfold BZ;omega
theorem IJ {l:List Cc} (h:∀k (hk:k+1<l.length),BZ (l[k]'(by omega)) l[k+1]):l.Pairwise BZ:=by
 induction l with
 | nil=>exact List.Pairwise.nil
 | cons a l ih=>
  have ih:=ih fun k hk=>h (k+1) (by simpa using hk);refine su.2 ⟨?_,ih⟩;cases l with
  | nil=>simp
  | cons b l=>
   have h0:BZ a b:=h 0 (by simp);intro c hc;rcases bZ.1 hc with e|hc
   ·rw[e];exact h0
   have h1:=(su.1 ih).1 c hc;unfold BZ at *; omega
theorem zM {m:Ma}:cachedE m=0↔vJ m:=by
 unfold cachedE;rw[firstE_zero];constructor
 ·intro h;have h1:∀k (hk:k<m.ca.length),sU m (xX m.ca k) m.ca[k]=0:=fun k hk=>by have:=h _ (Cj (dE.2 hk));rw[aS,aH hk] at this;exact this
  have h2:∀c∈m.ca,(vS m.st c.f c.i∧0≤c.k∧c.k<m.m.fs.length)∧(1≤(aN m c.k.toNat).r∧(aN m c.k.toNat).f=c.f∧(aN m c.k.toNat).i=c.i):=fun c hc=>by obtain⟨k,hk,rfl⟩:=jC.1 hc;have:=vZ.1 (h1 k hk);exact⟨this.1,this.2.1⟩
  refine⟨fun c hc=>(h2 c hc).1.1,fun c hc=>(h2 c hc).1.2,fun c hc=>(h2 c hc).2,IJ fun k hk => ?_⟩;refine (vZ.1 (h1 (k+1) hk)).2.2 _ ?_;unfold xX;rw[if_neg (by omega),Nat.add_sub_cancel,aH]
 intro h x hx;obtain⟨k,hk,rfl⟩:=gW.1 hx;have hk:=dE.1 hk;rw[aS,aH hk,oq];have hm:m.ca[k]∈m.ca:=dN hk;refine vZ.2 ⟨⟨h.file _ hm,h.lt _ hm⟩,h.fr _ hm,fun q hq => ?_⟩;unfold xX at hq;split at hq
 ·cases hq
 rw[aH (by omega)] at hq;rw[←aJ hq];exact zJ.1 h.srt _ _ (by omega) hk (by omega)
theorem ED {m:Ma} (hp:Pt m) {n:Int} (hk:(ent m p n).k≠0):bQ m (fF m p) n=0↔∃g,oU m p n=some g∧Uw m g (ent m p n):=by
 have hE:=(dx _).1 (tT hp p n);unfold bQ;rw[nk (by decide)];have j:=GY (fF m p).ar n;constructor
 ·rintro⟨h1,h2⟩;obtain⟨h3,h4⟩:=NV (l:=(fF m p).ar) (n:=n) (by omega);refine⟨_,h3,?_⟩;generalize (fF m p).ar.getD (kH (fF m p).ar n).toNat zAr=a at *
  have he:dH (fF m p).tb n=ent m p n:=rfl;rw[he] at h2;generalize ent m p n=e at *
  simp only at h2
  by_cases h5:e.k=2
  ·rw[if_pos h5,nk (by decide)] at h2;refine⟨fun _=>⟨by omega,?_⟩,fun h=>by omega,fun h=>by omega⟩;show a.sh=false;cases hs:a.sh with
   | false=>rfl
   | true=>exact absurd (.inr hs) h2.1
  rw[if_neg h5,nk (by decide),nk (by decide),nk (by decide)] at h2;have c:rH m e.n=aN m e.n.toNat:=rfl;rw[c] at h2;obtain⟨h6,h7,h8,_⟩:=h2;refine⟨fun h=>absurd h h5,fun _=>by omega,fun _ => ?_⟩;show OB (aN m e.n.toNat) (jW a n) e.w;generalize aN m e.n.toNat=f at *
  have b:0≤f.f→(0≤a.fi∧f.f=a.fi∧f.i=a.ba+n-a.fr):=fun h0=>by refine vz fun hn=>h7 (.inl ⟨h0,?_⟩);rw[zP];simp only[ne_eq,dS,decide_eq_true_eq];exact fun h=>hn ⟨h.1.1,h.1.2,h.2⟩
  refine⟨fun h0 => ?_,fun hs => ?_,fun hw => ?_,fun hw h0 => ?_,fun hw h0 => ?_⟩
  ·obtain⟨k1,k2,k3⟩:=b h0;refine⟨k2,?_⟩;unfold jW;simp only;rw[if_pos k1];exact k3
  ·refine vz fun hn=>h7 (.inr (.inl ⟨hs,?_⟩));rw[zP];simp only[ne_eq,dS,decide_eq_true_eq];exact fun h=>by omega
  ·show a.wr=true;cases hs:a.wr with
   | true=>rfl
   | false=>exact absurd (.inr (.inr (.inr ⟨hw,hs⟩))) h7
  ·show a.sh=true;cases hs:a.sh with
   | true=>rfl
   | false=>
    refine absurd (.inr (.inr (.inl ⟨hs,?_,hw⟩))) h7;have:=b h0;simp only[dS,decide_eq_true_eq];exact⟨⟨this.1,this.2.1⟩,this.2.2⟩
  ·exact vz fun hn=>h8 ⟨h0,hw,by omega⟩
 rintro⟨g,hg,hf⟩;have o:onA (fF m p).ar n≠none:=by have:oU m p n=onA (fF m p).ar n:=rfl;rw[←this,hg];exact fun h=>by cases h
 have h1:=j.2 o;refine⟨by omega,?_⟩;obtain⟨h3,h4⟩:=NV (l:=(fF m p).ar) (n:=n) h1;have q : g=jW ((fF m p).ar.getD (kH (fF m p).ar n).toNat zAr) n:=by have:oU m p n=onA (fF m p).ar n:=rfl;rw[this,h3] at hg;exact (aJ hg).symm
 subst q;generalize (fF m p).ar.getD (kH (fF m p).ar n).toNat zAr=a at *
 have he:dH (fF m p).tb n=ent m p n:=rfl;rw[he];generalize ent m p n=e at *
 simp only
 by_cases h5:e.k=2
 ·obtain⟨k1,k2⟩:=hf.sw h5;have k2:a.sh=false:=k2;rw[if_pos h5,nk (by decide)];refine⟨?_,rfl⟩;rintro (h|h)
  ·omega
  ·rw[k2] at h;cases h
 have h1:e.k=1:=by omega
 have k1:=hf.lt h1;obtain⟨f1,f2,f3,f4,f5⟩:=hf.fr h1;have c:rH m e.n=aN m e.n.toNat:=rfl;rw[if_neg h5,nk (by decide),nk (by decide),nk (by decide),c];generalize aN m e.n.toNat=f at *
 have f2:a.sh=true→0≤f.f:=f2;have f3:e.w=true→a.wr=true:=f3;have f4:e.w=true→0≤f.f→a.sh=true:=f4;have b:0≤f.f→(decide (0≤a.fi)&&decide (f.f=a.fi)&&decide (f.i=a.ba+n-a.fr))=true:=fun h0=>by obtain⟨k2,k3⟩:=f1 h0;have k2:f.f=a.fi:=k2;unfold jW at k3;simp only at k3;rw[if_pos (by omega)] at k3;simp only[dS,decide_eq_true_eq];exact⟨⟨by omega,k2⟩,k3⟩
 have d : (decide (0≤a.fi)&&decide (f.f=a.fi)&&decide (f.i=a.ba+n-a.fr))=true→0≤f.f:=fun h=>by simp only[dS,decide_eq_true_eq] at h;omega
 generalize (decide (0≤a.fi)&&decide (f.f=a.fi)&&decide (f.i=a.ba+n-a.fr))=of at *
 refine⟨by omega,?_,?_,rfl⟩
 ·rintro (⟨k2,k3⟩|⟨k2,k3⟩|⟨k2,k3,k4⟩|⟨k2,k3⟩)
  ·rw[b k2] at k3;cases k3
  ·rw[b (f2 k2)] at k3;cases k3
  ·rw[f4 k4 (d k3)] at k2;cases k2
  ·rw[f3 k2] at k3;cases k3
 rintro⟨k2,k3,k4⟩;have:=f5 k3 k2;omega
theorem zQ {m:Ma} (hp:Pt m):mH m=0↔∀p n,(ent m p n).k≠0→∃g,oU m p n=some g∧Uw m g (ent m p n):=by
 unfold mH;rw[firstE_zero];constructor
 ·intro h p n hk;have a : p<m.sp.length:=vz fun hn=>hk (by unfold ent;rw[nR (by omega)];have:dH zSp.tb n=zEn:=uW n;rw[this];rfl);have hn:0≤n∧n<64:=vz fun hn=>hk (by rw[Oj p (by omega)];rfl);refine (ED hp hk).1 (h _ (jP.2 ⟨fF m p,CP a,Cj (oJ.2 ⟨hn,hk⟩)⟩))
 intro h x hx;obtain⟨s,hs,hx⟩:=jP.1 hx;obtain⟨n,hn,rfl⟩:=gW.1 hx;obtain⟨p,a,rfl⟩:=NT hs;have hk:=(oJ.1 hn).2;exact (ED hp hk).2 (h p n hk)
theorem RA (t:Tb) (i:Int):cnt (nD t (aP t)) i=(dB t).countP (qM 1 i):=by
 rw[←DF (show (1:Int)≠0 by decide)];unfold cnt nD nY pW;rw[uI,IR,←Ih];congr 1;funext n;simp only[Ia,CR];rw[lT];simp only[dS,xH,decide_eq_false_iff_not,uf,decide_eq_true_eq];exact and_comm
theorem RQ {t:Tb} (h:cB t=0) (i:Int):cnt (swapT t (aP t)) i=(dB t).countP (qM 2 i):=by
 rw[←DF (show (2:Int)≠0 by decide)];unfold cnt swapT nY pW;rw[uI,IR,←Ih];refine List.countP_congr fun n hn => ?_;have hE:=(dx _).1 (rC h n);have hk:=(oJ.1 hn).2;simp only[Ia,CR,dS,xH,decide_eq_false_iff_not,uf,decide_eq_true_eq];constructor
 ·rintro⟨h1,h2⟩;exact⟨by omega,h1⟩
 ·rintro⟨h1,h2⟩;exact⟨h2,by omega⟩
theorem Ai (l r:List Int) (i:Int):cnt (l++r) i=cnt l i+cnt r i:=by unfold cnt;rw[Cn]
theorem EG {α:Type} (g:α→List Int) (i:Int):∀l:List α,cnt (l.flatMap g) i=(l.map fun s=>cnt (g s) i).sum
 | []=>rfl
 | a::l=>by rw[lX,Ai,EG g i l,bP,zm]
theorem Jw (m:Ma) (i:Int):cnt (rP m) i=vY m i+dA m 1 i:=by
 unfold rP;rw[Ai,EG];congr 1
 ·unfold cnt vY;rw[uI];rfl
 unfold dA;congr 1;exact uK fun s _=>RA s.tb i
theorem GG {m:Ma} (hp:Pt m) (i:Int):cnt (pQ m) i=dA m 2 i:=by
 unfold pQ dA;rw[EG];congr 1;exact uK fun s hs=>RQ (hp.tb s hs) i
theorem DL {m:Ma} (hp:Pt m):countB m=true↔(∀i:Nat,i<m.m.fs.length→(aN m i).r=vY m i+dA m 1 i)∧(∀i:Nat,i<m.m.fs.length→0≤(aN m i).f→∃c∈m.ca,c.k=i)∧∀s:Nat,s<m.sl.length→oZ m s=dA m 2 s:=by
 unfold countB;rw[dS,dK,decide_eq_true_eq];constructor
 ·rintro⟨h1,h2⟩;have h1:∀i:Nat,i<m.m.fs.length→_:=fun i hi=>h1 i (dE.2 hi);simp only[dS,decide_eq_true_eq,tF,iX,Jw,zC] at h1;refine⟨fun i hi=>by rw[(h1 i hi).1];omega,fun i hi h0 => ?_,fun s hs => ?_⟩
  ·rcases (h1 i hi).2 with h|⟨c,hc,hk⟩
   ·have h:(aN m i).f<0:=of_decide_eq_true h;omega
   ·exact⟨c,hc,hk⟩
  have:oZ m s=(kF m.sl.length (pQ m)).getD s 0:=by rw[←h2];rfl
  rw[this];unfold kF;rw[aS,jO,sG hs];show ((cnt (pQ m) s:Nat):Int)=_;rw[GG hp]
 rintro⟨h1,h2,h3⟩;refine⟨fun i hi => ?_,?_⟩
 ·have hi:=dE.1 hi;simp only[dS,decide_eq_true_eq,tF,iX,Jw,zC];refine⟨by rw[h1 i hi];omega,?_⟩
  by_cases h0:0≤(aN m i).f
  ·obtain⟨c,hc,hk⟩:=h2 i hi h0;exact .inr ⟨c,hc,hk⟩
  ·exact .inl (decide_eq_true (show (aN m i).f<0 by omega))
 apply tO
 ·unfold kF;simp
 intro s k1 k2;have:=h3 s k1;have e2:(kF m.sl.length (pQ m))[s]'k2=((cnt (pQ m) (s:Int):Nat):Int):=by simp[kF]
 rw[e2,GG hp,←this];unfold oZ;rw[aS,aH k1];rfl
theorem Db {m:Ma}:jK m=0↔Rt m:=by
 unfold jK;rw[mJ,mJ,mJ,wD,zM];constructor
 ·rintro⟨⟨hp,ht,hl⟩,hc,he,hb⟩;have hb:countB m=true:=by
   cases h:countB m with
   | true=>rfl
   | false=>rw[h] at hb;exact absurd hb (by decide)
  obtain⟨b1,b2,b3⟩:=(DL hp).1 hb;refine⟨hp,Gt.1 ht,fun p a => ?_,hc,(zQ hp).1 he,b1,b2,b3⟩;rcases fG p m.sp.length with h|h
  ·exact hl _ (CP h) a
  rw[nR h];refine⟨rfl,fun n => ?_⟩;unfold ent;rw[nR h];have:dH zSp.tb n=zEn:=uW n;rw[this];rfl
 intro h;refine⟨⟨h.pt,Gt.2 h.trim,fun s hs b => ?_⟩,h.ca,(zQ h.pt).2 h.en,?_⟩
 ·obtain⟨p,hp,rfl⟩:=NT hs;exact h.live p b
 ·rw[if_pos ((DL h.pt).2 ⟨h.cf,h.fc,h.cs⟩)]
def dZ (m:Ma) (p:Nat) (n:Int) (x:En):Ma:=setTb m p (setT (fF m p).tb n x)
theorem El {i:Int} {e:En} (h:e.k=0) (hk:kd≠0):vU (qM kd i e)=0:=by
 unfold vU qM;rw[if_neg];simp only[dS,decide_eq_true_eq];intro h'; omega
theorem yI {i:Int} {e:En}:vU (qM kd i e)=if e.k=kd∧e.n=i then 1 else 0:=by
 unfold vU qM
 by_cases h:e.k=kd∧e.n=i
 ·rw[if_pos h,if_pos (by simp[h.1,h.2])]
 rw[if_neg h,if_neg];simp only[dS,decide_eq_true_eq];exact h
theorem Im {m:Ma} (h:Rt m) {j:Int} (hk:(ent m q j).k=1) (he:(ent m q j).n.toNat=f):0<dA m 1 f∧f<m.m.fs.length:=by
 have h3:=qR (m:=m) (p:=q) (n:=j) (by rw[hk];decide);have h5:=(dx _).1 (tT h.pt q j);have h4:=(zA (m:=m) (kd:=1) (i:=f) (by decide)).2 ⟨q,j,h3.1,h3.2,hk,by omega⟩;obtain⟨g,_,hg⟩:=h.en q j (by rw[hk];decide);have:=hg.lt hk;exact⟨h4,by omega⟩
theorem yl {m:Ma} (h:Rt m) (hc:Co m) {n:Int} {X:Fr} {x:En} {g:Pg} (hp:p<m.sp.length) (hn:0≤n∧n<64) (h0:(ent m p n).k=0) (hf:f<m.m.fs.length)
 (hxk:x.k=1) (hxn:x.n=f) (hX:dR X=0) (hr:X.r=(aN m f).r+1)
 (hold:(aN m f).r≠0→X.f=(aN m f).f∧X.i=(aN m f).i∧X.p=(aN m f).p∧X.d=(aN m f).d)
 (hnew:(aN m f).r=0→X.f<0∧X.d=false)
 (hw:X.f<0→∀q j,(ent m q j).k=1→(ent m q j).n.toNat=f→(ent m q j).w=false)
 (hg:oU m p n=some g) (hfit:OB X g x.w):Rt (dZ (setFr m f X) p n x)∧Co (dZ (setFr m f X) p n x):=by
 have hm:Pt (setFr m f X):=h.pt.setFr hX;have hu:eX x=0:=(dx x).2 (.inr (.inl ⟨hxk,by have:=((eH _).1 h.pt.fr).1;omega⟩));obtain⟨hl,_,hx⟩:=uu (k:=⟨setFr m f X,0⟩) (p:=p) (n:=n) (x:=x) hm hn hu;have ht:p<(setFr m f X).sp.length:=hp;have z:∀q j,ent (dZ (setFr m f X) p n x) q j=if q=p∧j=n then x else ent m q j:=fun q j=>wY ht hl q j;have l:∀y,aN (dZ (setFr m f X) p n x) y=if y=f then X else aN m y:=fun y=>lH hf y;have b:(dZ (setFr m f X) p n x).m.fs.length=m.m.fs.length:=ny;have ha:∀kd i,kd≠0→dA (dZ (setFr m f X) p n x) kd i=dA m kd i+vU (qM kd i x):=fun kd i hk=>by have h1:=wO ht hl kd i;have h2:vU (qM kd i (ent (setFr m f X) p n))=0:=El (e:=ent (setFr m f X) p n) h0 hk;have h3:dA (setFr m f X) kd i=dA m kd i:=rfl;unfold dZ;omega
 have hj:kL m (setFr m f X):=kL.of rfl;have hb:kL m (dZ (setFr m f X) p n x):=hj.trans (kL.setTb (m:=setFr m f X) (p:=p) (t:=setT (fF (setFr m f X) p).tb n x));have hA:vJ (dZ (setFr m f X) p n x):=by
  refine⟨h.ca.file,fun c a => ?_,fun c a => ?_,h.ca.srt⟩
  ·rw[b];exact h.ca.lt c a
  have h1:=h.ca.fr c a;rw[l]
  by_cases e:c.k.toNat=f
  ·rw[if_pos e];rw[e] at h1;obtain⟨k1,k2,_⟩:=hold (by omega);exact⟨by omega,by omega,by omega⟩
  ·rw[if_neg e];exact h1
 refine⟨⟨hx,h.trim,fun q hq => ?_,hA,fun q j hk => ?_,fun i hi => ?_,fun i hi v => ?_,fun s hs => ?_⟩,⟨fun c a => ?_,fun c a hd => ?_,fun i hi hd => ?_⟩⟩
 ·rw[hb.lv] at hq;obtain⟨a1,a2⟩:=h.live q hq;refine⟨by rw[hb.ar];exact a1,fun j => ?_⟩;rw[z,if_neg]
  ·exact a2 j
  rintro⟨rfl,rfl⟩;have:oU m q j=onA (fF m q).ar j:=rfl;rw[this,a1] at hg;cases hg
 ·have hz:oU (dZ (setFr m f X) p n x) q j=oU m q j:=by unfold oU;rw[hb.ar]
  rw[hz];rw[z] at hk ⊢
  by_cases e:q=p∧j=n
  ·rw[if_pos e] at hk ⊢;rw[e.1,e.2];refine⟨g,hg,fun hB=>by omega,fun _=>by rw[b];omega,fun _ => ?_⟩;rw[l,if_pos (by omega)];exact hfit
  rw[if_neg e] at hk ⊢;obtain⟨y,hy,o⟩:=h.en q j hk;refine⟨y,hy,o.sw,by rw[b];exact o.lt,fun u => ?_⟩;rw[l]
  by_cases e2:(ent m q j).n.toNat=f
  ·rw[if_pos e2];have h1:=o.fr u;rw[e2] at h1;have h2:=Im h u e2;have h3:=h.cf f hf;obtain⟨k1,k2,_,_⟩:=hold (by omega);obtain⟨f1,f2,f3,f4,f5⟩:=h1;refine⟨by rw[k1,k2];exact f1,by rw[k1];exact f2,f3,by rw[k1];exact f4,fun hh hv => ?_⟩;rw[hw hv q j u e2] at hh;cases hh
  ·rw[if_neg e2];exact o.fr u
 ·have a1:vY (dZ (setFr m f X) p n x) i=vY m i:=rfl;rw[l,a1,ha 1 i (by decide),yI];have h3:=h.cf i (by rw[←b];exact hi)
  by_cases e:i=f
  ·subst e;rw[if_pos rfl,if_pos ⟨hxk,hxn⟩,hr];omega
  ·rw[if_neg e,if_neg (fun h'=>e (by omega))];omega
 ·rw[l] at v
  by_cases e:i=f
  ·subst e;rw[if_pos rfl] at v
   by_cases hr0:(aN m i).r=0
   ·have:=(hnew hr0).1;omega
   obtain⟨k1,_⟩:=hold hr0;exact h.fc i hf (by omega)
  rw[if_neg e] at v;exact h.fc i (by rw[←b];exact hi) v
 ·rw[ha 2 s (by decide),yI,if_neg (fun h'=>by omega)];exact h.cs s hs
 ·have h1:=h.ca.fr c a;rw[l]
  by_cases e:c.k.toNat=f
  ·rw[if_pos e];rw[e] at h1;obtain⟨_,_,k3,_⟩:=hold (by omega);rw[k3,←e];exact hc.tail c a
  ·rw[if_neg e];exact hc.tail c a
 ·have h1:=h.ca.fr c a;rw[l] at hd ⊢
  by_cases e:c.k.toNat=f
  ·rw[if_pos e] at hd ⊢;rw[e] at h1;obtain⟨_,_,k3,k4⟩:=hold (by omega);rw[k3,←e];exact hc.clean c a (by rw[e,←k4];exact hd)
  ·rw[if_neg e] at hd ⊢; exact hc.clean c a hd
 rw[l] at hd ⊢
 by_cases e:i=f
 ·subst e;rw[if_pos rfl] at hd ⊢
  by_cases hr0:(aN m i).r=0
  ·rw[(hnew hr0).2] at hd;cases hd
  obtain⟨k1,_,_,k4⟩:=hold hr0;rw[k1];exact hc.anon i hf (by rw[←k4];exact hd)
 ·rw[if_neg e] at hd ⊢; exact hc.anon i (by rw[←b];exact hi) hd
theorem FD {m:Ma} (h:Rt m) (hc:Co m) {n:Int} {d:pR} {x:En} {g:Pg} (hp:p<m.sp.length) (hn:0≤n∧n<64) (h0:(ent m p n).k=0) (hs:s<m.sl.length)
 (hxk:x.k=2) (hxn:x.n=s) (hxw:x.w=false) (h1k:oZ m s+1≤1000) (hd:aY d=0) (hdl:d.blocks.length=m.sw.blocks.length) (hg:oU m p n=some g) (hsh:g.sh=false) :
  Rt (dZ { setSl m s (oZ m s+1) with sw:=d } p n x)∧Co (dZ { setSl m s (oZ m s+1) with sw:=d } p n x):=by
 have hb:=h.pt.slB s;have ha:Pt (setSl m s (oZ m s+1)):=h.pt.setSl (by omega) h1k;have hz:Pt { setSl m s (oZ m s+1) with sw:=d }:={ ha with sw:=hd,swl:=by show d.blocks.length=_;rw[hdl];exact ha.swl };have hE:eX x=0:=(dx x).2 (.inr (.inr ⟨hxk,by have:=ja h.pt.sl;omega,by have:=ja h.pt.sl;omega,hxw⟩));obtain⟨hx,_,hG⟩:=uu (k:=⟨{ setSl m s (oZ m s+1) with sw:=d },0⟩) (p:=p) (n:=n) (x:=x) hz hn hE;have hA:p<({ setSl m s (oZ m s+1) with sw:=d }:Ma).sp.length:=hp;generalize hm1:({ setSl m s (oZ m s+1) with sw:=d }:Ma)=m1 at *
 have hr:m1.sp=m.sp:=by rw[←hm1];rfl
 have hm:m1.m=m.m:=by rw[←hm1];rfl
 have hD:m1.ca=m.ca:=by rw[←hm1];rfl
 have hw:m1.st=m.st:=by rw[←hm1];rfl
 have hC:m1.dk=m.dk:=by rw[←hm1];rfl
 have u:m1.sl=m.sl.set s (oZ m s+1):=by rw[←hm1];rfl
 have v:∀q j,ent m1 q j=ent m q j:=fun q j=>by unfold ent fF;rw[hr]
 have hf:∀q j,ent (dZ m1 p n x) q j=if q=p∧j=n then x else ent m q j:=fun q j=>by rw[←v];exact wY hA hx q j
 have o:∀y,aN (dZ m1 p n x) y=aN m y:=fun y=>by unfold aN dZ setTb;simp only;rw[hm]
 have l:(dZ m1 p n x).m.fs.length=m.m.fs.length:=by unfold dZ setTb;simp only;rw[hm]
 have hj:∀kd i,kd≠0→dA (dZ m1 p n x) kd i=dA m kd i+vU (qM kd i x):=fun kd i hk=>by
  have h1:=wO hA hx kd i;have h2:vU (qM kd i (ent m1 p n))=0:=El (by rw[v];exact h0) hk;have h3:dA m1 kd i=dA m kd i:=by unfold dA;rw[hr]
  unfold dZ;omega
 have ht:kL m (dZ m1 p n x):=(kL.of hr).trans kL.setTb;have f:(dZ m1 p n x).ca=m.ca:=hD;have t:(dZ m1 p n x).st=m.st:=hw;have hh:(dZ m1 p n x).dk=m.dk:=hC;have hv:∀a b,fV (dZ m1 p n x) a b=fV m a b:=fun a b=>by unfold fV;rw[t,hh]
 refine⟨⟨hG,by rw[hh,t];exact h.trim,fun q hq => ?_,⟨by rw[f,t];exact h.ca.file,by rw[f,l];exact h.ca.lt,fun c r=>by rw[o];exact h.ca.fr c (by rw[←f];exact r),by rw[f];exact h.ca.srt⟩,fun q j hk => ?_,fun i hi => ?_,fun i hi hB => ?_,fun i hi => ?_⟩,⟨fun c r => ?_,fun c r hd => ?_,fun i hi hd => ?_⟩⟩
 ·rw[ht.lv] at hq;obtain⟨a1,a2⟩:=h.live q hq;refine⟨by rw[ht.ar];exact a1,fun j => ?_⟩;rw[hf,if_neg]
  ·exact a2 j
  rintro⟨rfl,rfl⟩;have:oU m q j=onA (fF m q).ar j:=rfl;rw[this,a1] at hg;cases hg
 ·have hH:oU (dZ m1 p n x) q j=oU m q j:=by unfold oU;rw[ht.ar]
  have z:(dZ m1 p n x).sl.length=m.sl.length:=by show m1.sl.length=_;rw[u,bH]
  rw[hH];rw[hf] at hk ⊢
  by_cases e:q=p∧j=n
  ·rw[if_pos e] at hk ⊢;rw[e.1,e.2];exact⟨g,hg,fun _=>⟨by rw[z];omega,hsh⟩,fun hu=>by omega,fun hu=>by omega⟩
  rw[if_neg e] at hk ⊢;obtain⟨y,hy,hl⟩:=h.en q j hk;exact⟨y,hy,by rw[z];exact hl.sw,by rw[l];exact hl.lt,fun hu=>by rw[o];exact hl.fr hu⟩
 ·have a1:vY (dZ m1 p n x) i=vY m i:=by unfold vY;rw[f]
  rw[o,a1,hj 1 i (by decide),yI,if_neg (fun h'=>by omega)];exact h.cf i (by rw[←l];exact hi)
 ·rw[f];rw[o] at hB;exact h.fc i (by rw[←l];exact hi) hB
 ·have hI : i<m.sl.length:=by have:(dZ m1 p n x).sl=m1.sl:=rfl;rw[this,u,bH] at hi;exact hi
  have hF:oZ (dZ m1 p n x) i=if i=s then oZ m s+1 else oZ m i:=by
   have h1:=Ob (x:=oZ m s+1) hs i;have h2:oZ (dZ m1 p n x) i=oZ (setSl m s (oZ m s+1)) i:=by unfold oZ;show m1.sl.getD i 0=_;rw[u];rfl
   rw[h2,h1]
  rw[hF,hj 2 i (by decide),yI];have h3:=h.cs i hI
  by_cases e:i=s
  ·subst e;rw[if_pos rfl,if_pos ⟨hxk,hxn⟩];omega
  ·rw[if_neg e,if_neg (fun h'=>e (by omega))];omega
 ·rw[o,t];rw[f] at r;exact hc.tail c r
 ·rw[f] at r;rw[o] at hd ⊢; rw[hv];exact hc.clean c r hd
 ·rw[o] at hd ⊢; exact hc.anon i (by rw[←l];exact hi) hd
theorem Lv {m:Ma} (h:Rt m) (hc:Co m) {n:Int} (hk:(ent m p n).k=1):Rt (dZ m p n ⟨1,(ent m p n).n,false⟩)∧Co (dZ m p n ⟨1,(ent m p n).n,false⟩):=by
 have l:=qR (m:=m) (p:=p) (n:=n) (by rw[hk];decide);have hE:=(dx _).1 (tT h.pt p n);have u:eX ⟨1,(ent m p n).n,false⟩=0:=(dx _).2 (.inr (.inl ⟨rfl,by show 0≤(ent m p n).n;omega,by show (ent m p n).n<40;omega⟩));generalize hx:(⟨1,(ent m p n).n,false⟩:En)=x at *
 have t:x.k=1:=by rw[←hx]
 have f:x.n=(ent m p n).n:=by rw[←hx]
 have r:x.w=false:=by rw[←hx]
 obtain⟨o,_,v⟩:=uu (k:=⟨m,0⟩) (p:=p) (n:=n) (x:=x) h.pt l.2 u;have c:∀q j,ent (dZ m p n x) q j=if q=p∧j=n then x else ent m q j:=fun q j=>wY l.1 o q j;have d:∀kd i,dA (dZ m p n x) kd i=dA m kd i:=fun kd i=>by
  have h1:=wO l.1 o kd i;have h2:vU (qM kd i (ent m p n))=vU (qM kd i x):=by rw[yI,yI,t,f,hk]
  unfold dZ;omega
 have g:kL m (dZ m p n x):=kL.setTb;refine⟨⟨v,h.trim,fun q hq => ?_,⟨h.ca.file,h.ca.lt,h.ca.fr,h.ca.srt⟩,fun q j b => ?_,fun i hi=>by rw[d];exact h.cf i hi,h.fc,fun s hs=>by rw[d];exact h.cs s hs⟩,⟨hc.tail,hc.clean,hc.anon⟩⟩
 ·rw[g.lv] at hq;obtain⟨a1,a2⟩:=h.live q hq;refine⟨by rw[g.ar];exact a1,fun j => ?_⟩;rw[c,if_neg]
  ·exact a2 j
  rintro⟨rfl,rfl⟩;have:=a2 j;omega
 have z:oU (dZ m p n x) q j=oU m q j:=by unfold oU;rw[g.ar]
 rw[z];rw[c] at b ⊢
 by_cases e:q=p∧j=n
 ·rw[if_pos e] at b ⊢;rw[e.1,e.2];obtain⟨y,hy,a⟩:=h.en p n (by rw[hk];decide);have h1:=a.lt hk;obtain⟨f1,f2,f3,f4,f5⟩:=a.fr hk;refine⟨y,hy,fun ha=>by omega,fun _=>by rw[f];exact h1,fun _ => ?_⟩;rw[f,r];exact⟨f1,f2,fun h=>(by cases h),fun h=>(by cases h),fun h=>(by cases h)⟩
 rw[if_neg e] at b ⊢;obtain⟨y,hy,a⟩:=h.en q j b;exact⟨y,hy,a.sw,a.lt,a.fr⟩
theorem LZ {m:Ma} (h:Rt m) (hc:Co m) {s:Sp} (hl:m.sp.length<4) (hv:s.lv=true) (ha:(bI s.ar).1=0) (ht:s.tb=zTb):Rt { m with sp:=m.sp++[s] }∧Co { m with sp:=m.sp++[s] }:=by
 have a:∀q,fF { m with sp:=m.sp++[s] } q=if q=m.sp.length then s else fF m q:=fun q=>by
  unfold fF;show (m.sp++[s]).getD q zSp=_;rw[aS,List.getElem?_append]
  by_cases e:q<m.sp.length
  ·rw[if_pos e,if_neg (by omega),aS]
  rw[if_neg e]
  by_cases e2:q=m.sp.length
  ·rw[if_pos e2,e2,tV];rfl
  ·rw[if_neg e2,aS,dI (by simp;omega),dI (by omega)]
 have b:∀q j,ent { m with sp:=m.sp++[s] } q j=ent m q j:=fun q j=>by
  unfold ent;rw[a]
  by_cases e:q=m.sp.length
  ·rw[if_pos e,nR (by omega),ht];rfl
  ·rw[if_neg e]
 have c:∀kd i,kd≠0→dA { m with sp:=m.sp++[s] } kd i=dA m kd i:=fun kd i hk=>by
  unfold dA;show ((m.sp++[s]).map _).sum=_;rw[jb,List.sum_append];have:([s].map fun s=>(dB s.tb).countP (qM kd i)).sum=0:=by rw[List.map_singleton,List.sum_singleton,ht,xy];intro e he;unfold dB at he;obtain⟨j,_,rfl⟩:=gW.1 he;rw[uW];unfold qM;simp only[dS,decide_eq_true_eq];rintro⟨h1,_⟩;exact hk h1.symm
  omega
 refine⟨⟨{ h.pt with spl:=by simp;omega,ar:=fun y hy => ?_,tb:=fun y hy => ?_ },h.trim,fun q hq => ?_,⟨h.ca.file,h.ca.lt,h.ca.fr,h.ca.srt⟩,fun q j hk => ?_,fun i hi=>by rw[c 1 i (by decide)];exact h.cf i hi,h.fc,fun i hi=>by rw[c 2 i (by decide)];exact h.cs i hi⟩,⟨hc.tail,hc.clean,hc.anon⟩⟩
 ·rcases fO.1 hy with hy|hy
  ·exact h.pt.ar y hy
  ·rw[bv.1 hy];exact ha
 ·rcases fO.1 hy with hy|hy
  ·exact h.pt.tb y hy
  ·rw[bv.1 hy,ht];decide
 ·rw[a] at hq ⊢
  by_cases e:q=m.sp.length
  ·rw[if_pos e,hv] at hq;cases hq
  rw[if_neg e] at hq ⊢;refine⟨(h.live q hq).1,fun j=>by rw[b];exact (h.live q hq).2 j⟩
 rw[b] at hk ⊢;obtain⟨y,hy,d⟩:=h.en q j hk;have hq:=qR hk;refine⟨y,?_,d.sw,d.lt,d.fr⟩;unfold oU at hy ⊢;rw[a,if_neg (by omega)];exact hy
def eU (T:List (List En)) (p:Nat):List En:=T.getD p []
def fe (T:List (List En)) (p n:Nat):En:=(eU T p).getD n zEn
def dU (m:Ma) (T:List (List En)):Ma:={ m with sp:=(List.range m.sp.length).map fun p => { fF m p with tb:=fU (eU T p) } }
structure Am (m:Ma) (T:List (List En)):Prop where
 len:T.length=m.sp.length
 ln:∀t∈T,t.length=64
 en:∀t∈T,∀x∈t,eX x=0
theorem kI {m:Ma} {T:List (List En)}:(dU m T).sp.length=m.sp.length:=by unfold dU;simp
theorem yY {m:Ma} {T:List (List En)} (hp:p<m.sp.length):fF (dU m T) p = { fF m p with tb:=fU (eU T p) }:=by
 have:fF (dU m T) p=((List.range m.sp.length).map fun p=>({ fF m p with tb:=fU (eU T p) }:Sp)).getD p zSp:=rfl;rw[this,aS,jO,sG hp];rfl
theorem Am.mem {m:Ma} {T:List (List En)} (h:Am m T) (hp:p<m.sp.length):eU T p∈T:=by
 unfold eU;rw[aS,aH (by rw[h.len];exact hp)];exact dN _
theorem Am.l64 {m:Ma} {T:List (List En)} (h:Am m T) (hp:p<m.sp.length):(eU T p).length=64:=h.ln _ (h.mem hp)
theorem Am.right {m:Ma} {T:List (List En)} (h:Am m T) (hp:p<m.sp.length):cB (fU (eU T p))=0:=BF (h.en _ (h.mem hp)) (h.l64 hp)
theorem lG {m:Ma} {T:List (List En)} (h:Am m T) (hp:p<m.sp.length) (hn:n<64):ent (dU m T) p n=fe T p n:=by
 unfold ent fe;rw[yY hp];show dH (fU (eU T p)) n=_;rw[yt (h.en _ (h.mem hp)) (h.l64 hp) hn,aS,aH (by rw[h.l64 hp];exact hn)];rfl
theorem yN {m:Ma} {T:List (List En)} (h:Am m T) (hp:p<m.sp.length) (hn:n<64):eX (fe T p n)=0:=by
 unfold fe;rw[aS,aH (by rw[h.l64 hp];exact hn)];exact h.en _ (h.mem hp) _ (dN _)
def setL (T:List (List En)) (p n:Nat) (x:En):List (List En):=T.set p ((eU T p).set n x)
theorem rQ {T:List (List En)} (hp:p<T.length) {x:En} (q:Nat):eU (setL T p n x) q=if q=p then (eU T p).set n x else eU T q:=by
 unfold eU setL;rw[aS,kW]
 by_cases e:q=p
 ·subst e;rw[if_pos rfl,if_pos hp,if_pos rfl];rfl
 ·rw[if_neg (fun h=>e h.symm),if_neg e,aS]
theorem Am.set {m:Ma} {T:List (List En)} (h:Am m T) {x:En} (hp:p<m.sp.length) (hx:eX x=0):Am m (setL T p n x):=by
 refine⟨by unfold setL;rw[bH];exact h.len,fun t ht => ?_,fun t ht y hy => ?_⟩
 ·rcases ni ht with ht|rfl
  ·exact h.ln t ht
  ·rw[bH];exact h.l64 hp
 rcases ni ht with ht|rfl
 ·exact h.en t ht y hy
 rcases ni hy with hy|rfl
 ·exact h.en _ (h.mem hp) y hy
 ·exact hx
theorem wK {m:Ma} {T:List (List En)} (h:Am m T) {x:En} (hp:p<m.sp.length) (hn:n<64) (q j:Nat):fe (setL T p n x) q j=if q=p∧j=n then x else fe T q j:=by
 unfold fe;rw[rQ (by rw[h.len];exact hp)]
 by_cases e:q=p
 ·subst e;rw[if_pos rfl,aS,kW]
  by_cases e2:j=n
  ·subst e2;rw[if_pos rfl,if_pos (by rw[h.l64 hp];exact hn),if_pos ⟨rfl,rfl⟩];rfl
  ·rw[if_neg (fun h=>e2 h.symm),if_neg (fun h=>e2 h.2),aS]
 ·rw[if_neg e,if_neg (fun h=>e h.1)]
theorem qJ {m:Ma} {T:List (List En)} (h:Am m T) {x:En} (hp:p<m.sp.length) (hn:n<64) (hx:eX x=0):dZ (dU m T) p n x=dU m (setL T p n x):=by
 have hl:=h.l64 hp;have hw:=h.right hp;have a:setE (fU (eU T p)) n x=0:=NR hw ⟨by omega,by omega⟩ hx;have ht:setT (fU (eU T p)) n x=fU ((eU T p).set n x):=by rw[←yD (yB a),Ac a,Dz (h.en _ (h.mem hp)) hl,bR]
 unfold dZ setTb;rw[yY hp];show { dU m T with sp:=(dU m T).sp.set p { fF m p with tb:=setT (fU (eU T p)) n x } }=dU m (setL T p n x);rw[ht];refine congrArg (fun s=>({ m with sp:=s }:Ma)) (?_:((List.range m.sp.length).map fun p=>({ fF m p with tb:=fU (eU T p) }:Sp)).set p { fF m p with tb:=fU ((eU T p).set n x) }=(List.range m.sp.length).map fun q=>({ fF m q with tb:=fU (eU (setL T p n x) q) }:Sp));apply mR;intro q;rw[kW,jO,jO];simp only[fo,Ct]
 by_cases e:q=p
 ·subst e;rw[if_pos rfl,if_pos hp,sG hp,qA,rQ (by rw[h.len];exact hp),if_pos rfl]
 rw[if_neg (fun h=>e h.symm)]
 by_cases hq:q<m.sp.length
 ·rw[sG hq,qA,qA,rQ (by rw[h.len];exact hp),if_neg e]
 ·rw[dI (by simp;omega),Iu,Iu]
theorem zq {m:Ma} {T:List (List En)} {X:Fr}:setFr (dU m T) f X=dU (setFr m f X) T:=rfl
theorem Am.fr {m:Ma} {T:List (List En)} (h:Am m T) {X:Fr}:Am (setFr m f X) T:=⟨h.len,h.ln,h.en⟩
theorem Am.sps {m m' : Ma} {T:List (List En)} (h:Am m T) (e:m'.sp.length=m.sp.length):Am m' T:=⟨by rw[e];exact h.len,h.ln,h.en⟩
theorem nU {m:Ma} {T:List (List En)} (hp:p<m.sp.length) (n:Int):oU (dU m T) p n=onA (fF m p).ar n:=by
 unfold oU;rw[yY hp]
theorem Lc {m:Ma} {T:List (List En)} (h:Am m T) (s:Sp):dU { m with sp:=m.sp++[s] } (T++[List.replicate 64 zEn]) = { dU m T with sp:=(dU m T).sp++[{ s with tb:=zTb }] }:=by
 have hz:fU (List.replicate 64 zEn)=zTb:=by decide +kernel
 unfold dU;simp only[Ma.mk.injEq,true_and,jH,Cv];rw[xn,jb];congr 1
 ·apply uK;intro p hp;have a:=dE.1 hp;unfold fF eU;simp only[aS];rw[kY a,kY (by rw[h.len];exact a)]
 unfold fF eU;simp only[bP,bT,aS];rw[kK (ay _),tV,←h.len,kK (ay _),tV];simp only[pV,oq];rw[hz]
theorem Am.more {m:Ma} {T:List (List En)} (h:Am m T) (s:Sp):Am { m with sp:=m.sp++[s] } (T++[List.replicate 64 zEn]):=by
 refine⟨by simp[h.len],fun t ht => ?_,fun t ht x hx => ?_⟩
 ·rcases fO.1 ht with ht|ht
  ·exact h.ln t ht
  ·rw[bv.1 ht,jD]
 rcases fO.1 ht with ht|ht
 ·exact h.en t ht x hx
 rw[bv.1 ht] at hx;rw[(Cs.1 hx).2];decide
def Aj (m1:Ma) (g:Nat) (X:Fr) (f i:Int):Ma:={ setFr m1 g X with ca:=m1.ca.insertIdx (yR m1.ca f i) ⟨f,i,g⟩ }
theorem Ut {m1:Ma} {f i:Int} {X:Fr} (h:Rt m1) (hc:Co m1) (hg:g<m1.m.fs.length) (hz:(aN m1 g).r=0) (hin:vS m1.st f i) (hno:∀c∈m1.ca,¬(c.f=f∧c.i=i))
 (hX:X.r=1∧X.f=f∧X.i=i) (ht:fu X.p ((aK m1.st f).n-i*8)=X.p) (hd:X.d=false→X.p=fV m1 f i) :
  Rt (Aj m1 g X f i)∧Co (Aj m1 g X f i):=by
 have hi:=GR h.pt.st hin;have hb:dR X=0:=by rw[iH];have h1:=hin.1;have h2:=hin.2;exact⟨⟨by omega,by omega,by omega,by omega,by omega,by omega⟩,fun e=>by omega,fun e=>by omega⟩
 have q:∀x,aN (Aj m1 g X f i) x=if x=g then X else aN m1 x:=fun x=>lH hg x;have b:∀x,x≠g→aN (Aj m1 g X f i) x=aN m1 x:=fun x hx=>by rw[q,if_neg hx]
 have j:(Aj m1 g X f i).m.fs.length=m1.m.fs.length:=ny;have a:∀c,c∈(Aj m1 g X f i).ca↔c=⟨f,i,g⟩∨c∈m1.ca:=fun c=>GL (SL _ _ _);have u:∀c∈m1.ca,c.k.toNat≠g:=fun c hcm e=>by have:=(h.ca.fr c hcm).1;rw[e,hz] at this;exact absurd this (by decide)
 have t:∀f' i',fV (Aj m1 g X f i) f' i' = fV m1 f' i':=fun _ _=>rfl;have o:dA m1 1 g=0∧vY m1 g=0:=by have:=h.cf g hg;omega
 have hf:Pt (Aj m1 g X f i):={ fr:=ME h.pt.fr hb,sl:=h.pt.sl,sw:=h.pt.sw,dk:=h.pt.dk,st:=h.pt.st,swl:=h.pt.swl,dkl:=h.pt.dkl,spl:=h.pt.spl,ar:=h.pt.ar,tb:=h.pt.tb };have w:vJ (Aj m1 g X f i):=by
  refine⟨fun c hcm => ?_,fun c hcm => ?_,fun c hcm => ?_,DZ h.ca.srt hno⟩
  ·rcases (a c).1 hcm with rfl|hcm
   ·exact hin
   ·exact h.ca.file c hcm
  ·rw[j];rcases (a c).1 hcm with rfl|hcm
   ·show 0≤(g:Int)∧(g:Int)<_;omega
   ·exact h.ca.lt c hcm
  rcases (a c).1 hcm with rfl|hcm
  ·rw[q,if_pos (bR g)];exact⟨by omega,hX.2.1,hX.2.2⟩
  ·rw[b _ (u c hcm)];exact h.ca.fr c hcm
 have ha:∀p n,ent (Aj m1 g X f i) p n=ent m1 p n:=fun _ _=>rfl;have v:∀p n,(ent m1 p n).k=1→(ent m1 p n).n.toNat≠g:=by intro p n hk e;have h3:=qR (m:=m1) (p:=p) (n:=n) (by rw[hk];decide);have h5:=(dx _).1 (tT h.pt p n);have h4:=(zA (m:=m1) (kd:=1) (i:=g) (by decide)).2 ⟨p,n,h3.1,h3.2,hk,by omega⟩;omega
 refine⟨⟨hf,h.trim,h.live,w,fun p n hk => ?_,fun x hx => ?_,fun x hx h0 => ?_,h.cs⟩,⟨fun c hcm => ?_,fun c hcm l => ?_,fun x hx l => ?_⟩⟩
 ·rw[ha] at hk ⊢;obtain⟨y,hy,s⟩:=h.en p n hk;exact⟨y,hy,s.sw,by rw[j];exact s.lt,fun z=>by rw[b _ (v p n z)];exact s.fr z⟩
 ·have a1:vY (Aj m1 g X f i) x=vY m1 x+vU (decide ((g:Int)=x)):=xY _ _ _ _ (SL _ _ _);have a2:dA (Aj m1 g X f i) 1 x=dA m1 1 x:=rfl;rw[q,a1,a2]
  by_cases e:x=g
  ·subst e;rw[if_pos rfl,o.1,o.2];have:vU (decide ((x:Int)=(x:Int)))=1:=by simp[vU]
   rw[this,hX.1];rfl
  rw[if_neg e];have:vU (decide ((g:Int)=(x:Int)))=0:=by unfold vU;rw[if_neg];simp only[decide_eq_true_eq];omega
  rw[this];exact h.cf x (by rw[←j];exact hx)
 ·by_cases e:x=g
  ·exact⟨⟨f,i,g⟩,(a _).2 (.inl rfl),by rw[e]⟩
  rw[b x e] at h0;obtain⟨c,hcm,hh⟩:=h.fc x (by rw[←j];exact hx) h0;exact⟨c,(a c).2 (.inr hcm),hh⟩
 ·rcases (a c).1 hcm with rfl|hcm
  ·rw[q,if_pos (bR g)];exact ht
  ·rw[b _ (u c hcm)];exact hc.tail c hcm
 ·rcases (a c).1 hcm with rfl|hcm
  ·rw[q,if_pos (bR g)] at l ⊢; rw[t];exact hd l
  rw[b _ (u c hcm)] at l ⊢;rw[t];exact hc.clean c hcm l
 by_cases e:x=g
 ·rw[q,if_pos e];have:=hin.1.1;omega
 ·rw[b x e] at l ⊢; exact hc.anon x (by rw[←j];exact hx) l
theorem UB {m:Ma} (h:Rt m) (hc:Co m) {x:Int} (hx:bL ⟨m.m.fs,x⟩=0):Rt { m with m:=⟨m.m.fs,x⟩ }∧Co { m with m:=⟨m.m.fs,x⟩ }:=
 ⟨⟨{ h.pt with fr:=hx },h.trim,h.live,⟨h.ca.file,h.ca.lt,h.ca.fr,h.ca.srt⟩,fun p n hk=>have ⟨y,hy,hf⟩:=h.en p n hk;⟨y,hy,hf.sw,hf.lt,hf.fr⟩,h.cf,h.fc,h.cs⟩,⟨hc.tail,hc.clean,hc.anon⟩⟩
end Go.Proofs.YtjkkoeijlhfneaaGreat