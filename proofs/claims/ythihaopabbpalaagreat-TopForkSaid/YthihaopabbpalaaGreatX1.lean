import Derived.WalkKit
import Derived.ProofKit
import Derived.SizedLaws
import Derived.Maps.Own
import Derived.WalkSpells
import Derived.WalkLawsBesides
import Derived.ArgAppend
import Derived.Deep.MidRow
import Derived.Deep.Slices
import Derived.Laws.AppendOwnNone
import Derived.Laws.CopyOwn
import Derived.Laws.OwnMore
import Derived.Lib.Hide
import Derived.Maps.Range
import Derived.Maps.Views
import Derived.OpenShut
import Derived.Orders
import Derived.OwnWalk
set_option linter.unusedSimpArgs false
set_option linter.unusedVariables false
set_option linter.defProp false
set_option maxHeartbeats 4000000
set_option maxRecDepth 100000
namespace Pw
def ae :=@Go.Lib.hid
def aC :=@Nat.le_refl
def aM :=@List.getElem?_eq_getElem
def aU :=@Option.some.inj
def aX :=@Nat.le_trans
def bu :=@Int.toNat_natCast
def bA :=@List.getD_eq_getElem?_getD
def bM :=@List.map_cons
def bP :=@List.map_nil
def bF :=@List.mem_singleton
def bG :=@Array.getD_eq_getD_getElem?
def bN :=@Nat.zero_le
def bU :=@List.map_toArray
def bV :=@List.length_set
def dw :=@List.getElem?_eq_some_iff
def dx :=@List.mem_range
def dz :=@Go.IntWalk.i64_in
def dB :=@List.mem_of_getElem?
def dG :=@List.all_eq_true
def dJ :=@Bool.and_eq_true
def dL :=@Nat.zero_add
def dP :=@List.getElem?_eq_none
def eG :=@List.length_take
def fA :=@List.getElem_mem
def fq :=@List.mem_cons
def fD :=@List.mem_map
def fE :=@List.length_map
def fM :=@Option.some.injEq
def fI :=@List.length_append
def gB :=@Nat.lt_or_ge
def gT :=@Array.getElem?_setIfInBounds_ne
def ik :=@List.mem_append
def iq :=@List.flatMap_append
def ig :=@Nat.not_lt_zero
def iB :=@Array.getElem?_eq_some_iff
def iH :=@List.getElem?_map
def jb :=@List.getElem?_append_left
def iX :=@Array.all_toList
def iW :=@Go.Value.slice.injEq
def jh :=@List.mem_cons_of_mem
def jv :=@List.getElem?_append_right
def jq :=@Nat.lt_of_lt_of_le
def jK :=@List.mem_iff_getElem
def jN :=@List.mem_cons_self
def jL :=@List.map_append
def jO :=@List.getElem?_take
def jS :=@List.mem_flatMap
def kW :=@List.any_eq_true
def kV :=@List.eq_nil_of_length_eq_zero
def kZ :=@List.not_mem_nil
def lF :=@List.append_assoc
def lM :=@Int.eq_ofNat_of_zero_le
def lD :=@Go.Sem.run_bind
def lH :=@Array.length_toList
def mH :=@Vector.getElem_ofFn
def mF :=@Ne.symm
def mK :=@List.take_add_one
def mE :=@List.take_of_length_le
def mr :=@List.mem_or_eq_of_mem_set
def mD :=@Go.Addr.mk.injEq
def mG :=@Nat.add_zero
def mf :=@List.length_nil
def mg :=@Bool.true_and
def mY :=@List.length_replicate
def mX :=@Bool.false_and
def ng :=@Bool.and_false
def nM :=@Array.mem_toList_iff
def nN :=@Go.Lib.run_eql_slice_nil
def nO :=@List.map_set
def oz :=@Bool.false_eq_true
def oD :=@List.getElem?_set_self
def ou :=@List.length_cons
def oF :=@Go.Addr.add_lit
def qd :=@List.getElem?_set
def pW :=@List.filter_append
def pF :=@List.flatMap_cons
def pG :=@List.getElem?_drop
def pU :=@List.append_nil
def qh :=@Bool.and_true
def qK :=@Bool.eq_iff_iff
def qX :=@Nat.add_assoc
def qL :=@Classical.not_not
def qB :=@List.ext_getElem?
def qz :=@Array.getElem?_toList
def qV :=@List.set_cons_zero
def rf :=@List.set_cons_succ
def qN :=@List.countP_cons
def rZ :=@Nat.mod_lt
def sI :=@List.ext_getElem
def sG :=@List.find?_eq_none
def sM :=@Array.ext_getElem?
def sH :=@Go.Result.andThen_ok
def sF :=@Go.Sem.run_pure
def uz :=@List.getElem?_set_ne
def uK :=@Decidable.byContradiction
def uA :=@List.getElem?_replicate
def uH :=@List.mem_filter
def uN :=@Bool.or_eq_true
def uW :=@Nat.min_eq_left
def pJ :=@Array.getElem?_replicate
def pK :=@List.getElem?_cons_zero
def pO :=@List.set_set
def pR :=@List.length_singleton
def rz :=@List.findIdx?_eq_some_iff_getElem
def rP :=@Nat.add_mul
def rA :=@Nat.mul_le_mul_right
def rO :=@Nat.lt_or_gt_of_ne
def rJ :=@List.getElem_map
def rM :=@Go.Obj.cells.injEq
def rD :=@List.setIfInBounds_toArray
def rF :=@List.drop_succ_cons
def rC :=@List.drop_zero
def rH :=@List.drop_nil
def tQ :=@Nat.mod_eq_of_lt
def sZ :=@List.mem_of_find?_eq_some
def tY :=@List.nodup_cons
def tZ :=@List.take_append_drop
def tT :=@Array.getElem?_eq_none
def tO :=@Bool.not_eq_true'
def tu :=@List.drop_eq_nil_of_le
def sQ :=@Option.getD_some
def sU :=@List.length_drop
def vI :=@Nat.le_of_lt
def vD :=@List.mem_replicate
def vM :=@List.find?_some
def vG :=@Array.getElem?_setIfInBounds_self_of_lt
def vB :=@List.countP_eq_zero
def vK :=@Nat.min_def
def vJ :=@List.pairwise_cons
def vz :=@Classical.byContradiction
def xK :=@List.any_eq_false
def wS :=@List.length_filter_le
def xL :=@List.drop_eq_getElem_cons
def xB :=@List.mem_append_right
def xm :=@List.mem_append_left
def xu :=@Option.map_some
def xn :=@List.getElem?_range
def wO :=@List.map_take
def wX :=@Array.getElem?_eq_getElem
def xI :=@List.length_eraseIdx_of_lt
def xA :=@List.countP_map
def zu :=@List.countP_pos_iff
def zh :=@List.findIdx?_eq_none_iff
def zt :=@List.filter_cons
def ze :=@List.nodup_append
def zg :=@Go.Calls.mono
def za :=@List.countP_le_length
def zk :=@List.take_length
def zq :=@Nat.eq_zero_or_pos
def yU :=@Nat.sub_self
def yS :=@Go.Value.agg.injEq
def zA :=@Bool.eq_false_iff
def yP :=@List.getElem?_append
def BL :=@Array.toList_setIfInBounds
def Be :=@List.foldl_append
def BM :=@List.filter_eq_self
def Ay :=@List.range_succ
def Bn :=@List.mem_of_mem_take
def BQ :=@List.foldl_cons
def BZ :=@List.findIdx?_cons
def Aq :=@Iff.rfl
def Cb :=@List.getElem_cons_zero
def BN :=@Go.World.grownBy.refl
def Ap :=@Array.mem_of_getElem?
def Ci :=@Option.bind_some
def Bb :=@List.getElem?_toArray
def AA :=@List.getElem?_cons_succ
def AU :=@List.mem_map_of_mem
def BF :=@Array.getElem?_setIfInBounds
def BV :=@List.sum_cons
def Bl :=@List.nodup_range
def AC :=@List.map_congr_left
def BH :=@Array.size_push
def BA :=@List.length_range
def Em :=@Bool.not_true
def El :=@List.getElem_cons_succ
def EJ :=@Bool.or_eq_false_iff
def Er :=@List.getElem_set
def Eg :=@Nat.add_mod_right
def Ey :=@Bool.and_eq_false_iff
def EA :=@Vector.ext
def EH :=@Nat.add_sub_cancel_left
def Ex :=@Nat.mul_comm
def Eo :=@Nat.mul_one
def EK :=@List.countP_append
def Ef :=@List.mem_filterMap
def Ew :=@Int.toNat_of_nonneg
def EM :=@Bool.not_or
def Eu :=@List.length_flatMap
def Et :=@List.pairwise_iff_getElem
def Es :=@List.mem_insertIdx
def EE :=@List.cons_append
def Jy :=@List.countP_set
def JC :=@Bool.not_false
def Jz :=@List.find?_range_eq_some
def KV :=@Vector.getElem_set_ne
def KZ :=@Go.World.ownsRow_nil
def KI :=@List.getElem_set_ne
def JE :=@List.getElem_range
def KU :=@List.countP_replicate
def JX :=@List.nil_append
def Kl :=@Go.World.grownBy_alloc
def KC :=@Nat.le_succ
def JM :=@List.replicate_succ'
def KY :=@Nat.not_lt
def KF :=@List.countP_eq_length_filter
def Ld :=@List.countP_filter
def KJ :=@Function.comp_apply
def KE :=@Prod.mk.injEq
def JJ :=@List.insertIdx_succ_cons
def JA :=@Int.natCast_add
def Kt :=@Option.getD_none
def Li :=@Int.lt_or_le
def Kw :=@List.Nodup.length_le_of_subset
def JQ :=@Int.ofNat_inj
def JY :=@List.Nodup.sublist
def KL :=@List.filter_sublist
def Kc :=@List.replicate_succ
open Go Go.RowKit
abbrev Page:=Vector UInt8 8
def fF(p:Page)(a:Int)(b:List UInt8):Page:=if 0<=a/\a<8 then Vector.ofFn λi:Fin 8=>if a.toNat<=i.val then b.getD (i.val-a.toNat) p[i.val]else p[i.val]else p
theorem yN(p:Page)(a:Nat)(b:List UInt8)(m:a<8)(i:Nat)(d:i<8):(fF p a b)[i]=if a<=i then(b[i-a]?).getD p[i]else p[i]:=by
 have h:fF p a b=Vector.ofFn λi:Fin 8=>if a<=i.val then b.getD (i.val-a) p[i.val]else p[i.val]:=by unfold fF;rw[if_pos (by omega)];rfl
 rw[h,mH];simp[List.getD]
theorem UW(p q:Page):(p==q)=((p[0]==q[0])&&(p[1]==q[1])&&(p[2]==q[2])&&(p[3]==q[3])&&(p[4]==q[4])&&(p[5]==q[5])&&(p[6]==q[6])&&(p[7]==q[7])):=by
 rw[qK];simp only[beq_iff_eq,dJ];constructor
 ·rintro rfl;simp
 rintro⟨⟨⟨⟨⟨⟨⟨E,D⟩,A⟩,z⟩,u⟩,s⟩,m⟩,d⟩
 ext i hi
 match i,hi with
 | 0,_=>rw[E]
 | 1,_=>rw[D]
 | 2,_=>rw[A]
 | 3,_=>rw[z]
 | 4,_=>rw[u]
 | 5,_=>rw[s]
 | 6,_=>rw[m]
 | 7,_=>rw[d]
 | n+8,h=>omega
theorem ZX(a b:UInt8):((a.toNat:Int)==(b.toNat:Int))=(a==b):=by
 rw[qK];simp only[beq_iff_eq,Int.natCast_inj,UInt8.toNat_inj]
def yF(p:Page)(a:Int)(k:Nat):Page:=Vector.ofFn λi:Fin 8=>if a<=(i.val:Int)/\i.val<k then 0 else p[i.val]
def aO(p:Page)(a:Int):Page:=Vector.ofFn λi:Fin 8=>if a<=(i.val:Int)then 0 else p[i.val]
theorem Ud(p:Page)(a:Int)(k:Nat)(h:8<=k):yF p a k=aO p a:=by
 ext i hi
 simp only[yF,aO,mH];have d:i<k:=by omega
 simp[d]
theorem Mr(p:Page)(a:Int)(k:Nat)(h:k=a.toNat):yF p a k=p:=by
 ext i hi
 simp only[yF,mH];rw[if_neg (by omega)]
theorem SA(p:Page)(a:Int)(k:Nat)(h:k<8)(d:a<=k):(yF p a k).set k 0=yF p a (k+1):=by
 ext i hi
 simp only[yF,mH,Vector.getElem_set]
 by_cases e:k=i
 ·subst e;simp[d]
 simp only[e,if_false]
 by_cases c:a<=(i:Int)/\i<k
 ·rw[if_pos c,if_pos ⟨c.1,by omega⟩]
 ·rw[if_neg c,if_neg (by omega)]
def jr(L:Nat->Bool)(i:Nat):Nat->Bool:=λk=>if k=i then true else L k
def wr{α:Type}:List α->Option (List α)
 | []=>some []
 | a::r=>some (a::r)
theorem QO{α:Type}{a b:List α}(h:wr a=some b):a=b:=by cases a<;>cases h<;>rfl
def i64(n:Int):Prop:=-9223372036854775808<=n/\n<=9223372036854775807
end Pw
namespace Go.Proofs.YthihaopabbpalaaGreat
open Go.ChangeShapes Go.WideShapes Go.ChangeAt Go.RowKit Go.Maps Pw
variable {k:Nat}
theorem oO{n:Nat}{P:∀i,i<n->Prop}(m:∀i (h:i<n),i<k->P i h)(d:k<n)(p:P k d):∀i (h:i<n),i<k+1->P i h:=by
 intro i h s
 by_cases e:i=k
 ·subst e;exact p
 ·exact m i h (by omega)
end Go.Proofs.YthihaopabbpalaaGreat
namespace Pw
open Go Go.RowKit
variable {fuel i q:Nat} {l:List Int}
theorem yR{d:Array Bool}(p:i<d.size)(q:Nat)(m:d.getD q false=true):(d.setIfInBounds i true).getD q false=true:=by
 by_cases h:q=i
 ·subst h;simp[bG,p]
 ·simpa[bG,gT (mF h)]using m
theorem uu{d:Array Bool}(h:q≠i):(d.setIfInBounds i true).getD q false=d.getD q false:=by
 simp[bG,gT (mF h)]
theorem Ns{d:Array Bool}(h:i<d.size):(d.setIfInBounds i true).getD i false=true:=by
 simp[bG,h]
theorem FY{h:Array Bool}(m:i<h.size)(s:h.getD i true=false)(u:h.toList.countP (!·)<=fuel+1):(h.setIfInBounds i true).toList.countP (!·)<=fuel:=by
 have c:i<h.toList.length:=by simp;omega
 have b:h.toList[i]=false:=by simpa[bG,m]using s
 have:=Jy (p:=(!·)) (l:=h.toList) (i:=i) (a:=true) c;rw[b]at this;have d:0<h.toList.countP (!·):=zu.2 ⟨h.toList[i],fA c,by rw[b];rfl⟩;simp only[BL];simp only[JC,Em,if_true,oz,if_false]at this;omega
open Go.ChangeShapes Go.WideShapes Go.ChangeAt
def firstE:List Int->Int
 | []=>0
 | x::r=>if x=0 then firstE r else x
theorem vw(h:∀i (d:i<l.length),l[i]=0):firstE l=0:=by
 induction l with
 | nil=>rfl
 | cons x r ih=>
  have m:=h 0 (by simp);simp at m;simp only[firstE,m,if_true];exact ih λi d=>by have:=h (i+1) (by simpa using d);simpa using this
theorem yQ(k:Nat)(m:k<l.length)(h:∀i (p:i<l.length),i<k->l[i]=0)(d:l[k]≠0):firstE l=l[k]:=by
 induction l generalizing k with
 | nil=>simp at m
 | cons x r ih=>
  cases k with
  | zero=>simp at d;simp[firstE,d]
  | succ k=>
   have s:=h 0 (by simp) (by omega);simp at s;simp only[firstE,s,if_true,El];exact ih k (by simpa using m) (λi p a=>by have:=h (i+1) (by simpa using p) (by omega);simpa using this) (by simpa using d)
theorem filter_all{α:Type}(p q:α->Bool)(l:List α):(l.filter p).all (λe => !p e||q e)=l.all (λe => !p e||q e):=by
 induction l with
 | nil=>rfl
 | cons x l ih=>
  cases hp:p x
  ·rw[List.filter_cons_of_neg (by simp[hp]),ih];simp[hp]
  ·rw[List.filter_cons_of_pos (by simp[hp])];simp[hp,ih]
end Pw
namespace Go.Proofs.YthihaopabbpalaaGreat
open Go.RowKit Pw
variable {F I b i j k q r:Nat} {e file index lo n:Int} {l:List Int}
def idx{α:Type}(f:α->Bool)(l:List α):Int:=match l.findIdx? f with
 | some k=>k
 | none => -1
theorem qH{α:Type}(f:α->Bool)(l:List α)(k:Nat)(h:k<l.length)(d:∀i (h:i<l.length),i<k->f l[i]=false)(m:f l[k]=true):idx f l=k:=by
 unfold idx;rw[rz.2 ⟨h,m,λj p=>by simpa using d j (by omega) p⟩]
theorem ll{α:Type}(f:α->Bool)(l:List α)(m:∀i (h:i<l.length),f l[i]=false):idx f l = -1:=by
 unfold idx;rw[zh.2 λx d=>by obtain⟨i,p,rfl⟩:=jK.1 d;exact m i p]
theorem yT{α:Type}(f:α->Bool)(l:List α):(idx f l = -1/\∀i (h:i<l.length),f l[i]=false)\/∃k:Nat,∃h:k<l.length,idx f l=k/\f l[k]=true/\∀i (h:i<l.length),i<k->f l[i]=false:=by
 unfold idx;cases e:l.findIdx? f with
 | none=>exact .inl ⟨rfl,λi h=>zh.1 e _ (fA h)⟩
 | some k=>
  obtain⟨h,m,d⟩:=rz.1 e;exact .inr ⟨k,h,rfl,m,λi _ p=>by simpa using d i p⟩
theorem tN{α:Type}(f:α->Bool)(l:List α):decide (0<=idx f l)=l.any f:=by
 rcases yT f l with⟨e,h⟩|⟨k,m,e,h,_⟩
 ·rw[e];symm;simp only[show decide ((0:Int)<=-1)=false from rfl,xK];intro x d;obtain⟨i,p,rfl⟩:=jK.1 d;simpa using h i p
 rw[e];symm;simp only[show decide ((0:Int)<=(k:Int))=true from by simp,kW];exact⟨_,fA m,h⟩
theorem upto{n:Nat}{P:∀i,i<n->Prop}(m:∀i (h:i<n),i<k->P i h)(d:k<n)(p:P k d):∀i (h:i<n),i<k+1->P i h:=by
 intro i h s
 by_cases e:i=k
 ·subst e;exact p
 ·exact m i h (by omega)
open Go.Maps
structure ZB (D:DataW Unit) (f:Int->Bool):Prop where
 is:IsMap D
 at_:∀j:Int,D.atKey (.int .i64 j) (.lit (.bool false)) = .lit (.bool (f j))
theorem ZB.empty:ZB (.map []) (λ_=>false):=⟨isMap_empty,λj=>rfl⟩
theorem ZB.put{D:DataW Unit}{f:Int->Bool}(h:ZB D f)(k:Int):ZB (D.put (.int .i64 k) (.lit (.bool true))) (λj=>f j||decide (j=k)):=by
 refine⟨h.is.put _ _,λj => ?_⟩
 by_cases e:j=k
 ·subst e;rw[atKey_put_same h.is (by trivial)];simp
 rw[atKey_put_other (by intro d;exact e (by cases d;rfl)),h.at_ j];simp[e]
theorem QX(p:Page)(a n:Nat)(h:n<=8-a):((p.toList.drop a).take n).length=n:=by simp;omega
def qM(p:Page)(a n:Int):List UInt8:=if a<0\/n<0\/8<a\/8-a<n then[]else(p.toList.drop a.toNat).take n.toNat
def bn(n:Int):Int:=if n<=0 then 0 else(n-1) / 8+1
def sW(a n:Int):Bool:=decide (0<=a)&&decide (0<=n)&&decide (n<=8)&&decide (a%8<=8-n)
def zG(n:Int):Bool:=decide (n<0)||decide (1000<n)
def dZ(l:List Int):Int:=if 60<l.length then 4 else if l.any zG then 3 else 0
def Kk(n:Int):Bool:=n==0
def GJ(n:Int):List Int:=if 0<=n/\n<=60 then List.replicate n.toNat 0 else[]
def Lf(n:Int):Int:=if 0<=n/\n<=60 then 0 else 4
theorem Wo(l:List Int)(k:Nat)(p:k<l.length)(d:dZ l=0):0<=l[k]/\l[k]<=1000:=by
 unfold dZ at d;split at d
 ·omega
 split at d
 ·omega
 rename_i h;have m:zG l[k]=false:=by have:=xK.1 (by simpa using h) _ (fA p);simpa using this
 simp[zG]at m;exact m
theorem lK(h:dZ l=0):l.length<=60:=by
 unfold dZ at h;split at h
 ·omega
 ·omega
def iI(l:List Int)(n:Int):Int:=if dZ l≠0 then dZ l else if n<1\/1000<n then 3 else if idx Kk l<0 then 10 else 0
def kJ(l:List Int)(n:Int):Int:=if iI l n=0 then idx Kk l else 0
def nJ(l:List Int)(n:Int):List Int:=if iI l n=0 then l.set (idx Kk l).toNat n else[]
theorem Pq(n:Int)(h:dZ l≠0):iI l n=dZ l/\kJ l n=0/\nJ l n=[]:=by
 have:iI l n=dZ l:=by unfold iI;rw[if_pos h]
 exact⟨this,by unfold kJ;rw[this,if_neg h],by unfold nJ;rw[this,if_neg h]⟩
theorem PU(d:dZ l=0)(h:n<1\/1000<n):iI l n=3/\kJ l n=0/\nJ l n=[]:=by
 have:iI l n=3:=by unfold iI;rw[if_neg (by omega),if_pos h]
 exact⟨this,by unfold kJ;rw[this];rfl,by unfold nJ;rw[this];rfl⟩
theorem OY(m:dZ l=0)(h:1<=n/\n<=1000)(d:idx Kk l = -1):iI l n=10/\kJ l n=0/\nJ l n=[]:=by
 have:iI l n=10:=by unfold iI;rw[if_neg (by omega),if_neg (by omega),if_pos (by omega)]
 exact⟨this,by unfold kJ;rw[this];rfl,by unfold nJ;rw[this];rfl⟩
theorem Tw(m:dZ l=0)(h:1<=n/\n<=1000)(d:idx Kk l=k):iI l n=0/\kJ l n=k/\nJ l n=l.set k n:=by
 have:iI l n=0:=by unfold iI;rw[if_neg (by omega),if_neg (by omega),if_neg (by omega)]
 exact⟨this,by unfold kJ;rw[this,if_pos rfl,d],by unfold nJ;rw[this,if_pos rfl,d];rfl⟩
def GI(l:List Int)(k:Int):Int:=l.getD k.toNat 0
def bK(l:List Int)(k n:Int):Int:=if dZ l≠0 then dZ l else if k<0\/l.length<=k\/GI l k=0 then 5 else if n < -GI l k\/1000-GI l k<n then 3 else 0
def bq(l:List Int)(k n:Int):List Int:=if bK l k n=0 then l.set k.toNat (GI l k+n)else[]
theorem Oz(k n:Int)(h:dZ l≠0):bK l k n=dZ l/\bq l k n=[]:=by
 have:bK l k n=dZ l:=by unfold bK;rw[if_pos h]
 exact⟨this,by unfold bq;rw[this,if_neg h]⟩
theorem Ju{k:Int}(d:dZ l=0)(h:k<0\/l.length<=k\/GI l k=0):bK l k n=5/\bq l k n=[]:=by
 have:bK l k n=5:=by unfold bK;rw[if_neg (by omega),if_pos h]
 exact⟨this,by unfold bq;rw[this];rfl⟩
theorem PH{k:Int}(m:dZ l=0)(h:¬(k<0\/l.length<=k\/GI l k=0))(d:n < -GI l k\/1000-GI l k<n):bK l k n=3/\bq l k n=[]:=by
 have:bK l k n=3:=by unfold bK;rw[if_neg (by omega),if_neg h,if_pos d]
 exact⟨this,by unfold bq;rw[this];rfl⟩
theorem RG{k:Int}(m:dZ l=0)(h:¬(k<0\/l.length<=k\/GI l k=0))(d:¬(n < -GI l k\/1000-GI l k<n)):bK l k n=0/\bq l k n=l.set k.toNat (GI l k+n):=by
 have:bK l k n=0:=by unfold bK;rw[if_neg (by omega),if_neg h,if_neg d]
 exact⟨this,by unfold bq;rw[this,if_pos rfl]⟩
theorem XQ(h:k<l.length):GI l k=l[k]:=by simp[GI,h]
structure qo where
 blocks:List Page
 queue:List (Int × Page)
def zPg:Page:=#v[0,0,0,0,0,0,0,0]
def Ga(n:Nat)(q:Int × Page):Bool:=decide (q.1<0)||decide ((n:Int)<=q.1)
def bZ(d:qo):Int:=if 80<d.blocks.length\/400<d.queue.length then 4 else if d.queue.any (Ga d.blocks.length)then 3 else 0
def aI(d:qo)(at_:Int):Int:=if bZ d≠0 then bZ d else if at_<0\/d.blocks.length<=at_ then 3 else 0
def over(k:Int)(p:Page)(q:List (Int × Page)):Page:=q.foldl (λp x=>if x.1=k then x.2 else p) p
theorem Cm(k:Int)(p:Page)(q:List (Int × Page))(x:Int × Page):over k p (q++[x])=if x.1=k then x.2 else over k p q:=by simp[over,Be]
theorem Sz(k:Int)(p:Page)(q:List (Int × Page))(i:Nat)(h:i<q.length):over k p (q.take (i+1))=if q[i].1=k then q[i].2 else over k p (q.take i):=by
 rw[mK,aM h,Option.toList,Cm]
def dN(d:qo)(k:Int):Page:=if aI d k=0 then over k (d.blocks.getD k.toNat zPg) d.queue else zPg
def jR(d:qo)(x:Int × Page):qo:=
 match d.queue with
 | []=>⟨d.blocks,[x]⟩
 | q::r=>if(q::r).length=400 then⟨d.blocks.set q.1.toNat q.2,r++[x]⟩else⟨d.blocks,(q::r)++[x]⟩
theorem Ul(d:qo)(x:Int × Page)(h:d.queue.length≠400):jR d x=⟨d.blocks,d.queue++[x]⟩:=by
 unfold jR;split
 ·rename_i e;rw[e];rfl
 ·rename_i q r e;rw[e]at h;rw[if_neg h,e]
theorem Tg(d:qo)(x:Int × Page)(h:d.queue.length=400):jR d x=⟨d.blocks.set (d.queue[0]'(by omega)).1.toNat (d.queue[0]'(by omega)).2,d.queue.drop 1++[x]⟩:=by
 obtain⟨B,Q⟩:=d;unfold jR;cases Q with
 | nil=>simp at h
 | cons q r=>simp only[if_pos h];rfl
def dW(d:qo)(k:Int)(p:Page):qo:=if aI d k=0 then jR d (k,p)else⟨[],[]⟩
theorem CO{d:qo}(h:bZ d=0):d.blocks.length<=80/\d.queue.length<=400:=by
 unfold bZ at h;split at h
 ·omega
 ·omega
theorem Jl{d:qo}(h:bZ d=0)(i:Nat)(m:i<d.queue.length):0<=d.queue[i].1/\d.queue[i].1<d.blocks.length:=by
 unfold bZ at h;split at h
 ·omega
 split at h
 ·omega
 rename_i p;have:=xK.1 (by simpa using p) _ (fA m);simp[Ga]at this;omega
def ZM(b:Int)(i:Nat):Bool:=Go.bits BinOp.and IntKind.i64 (b / 2 ^ (i%60)) 1==1
def wU(n:Int):qo:=if 0<=n/\n<=80 then⟨List.replicate n.toNat zPg,[]⟩else⟨[],[]⟩
def QQ(n:Int):Int:=if 0<=n/\n<=80 then 0 else 4
def keepN(f:Nat->Bool)(B:List Page)(Q:List (Int × Page)):Nat->List Page
 | 0=>B
 | k+1=>match Q[k]? with
  | some q=>if f k then(keepN f B Q k).set q.1.toNat q.2 else keepN f B Q k
  | none=>keepN f B Q k
def Zu(f:Nat->Bool)(d:qo):qo:=if bZ d=0 then⟨keepN f d.blocks d.queue d.queue.length,[]⟩else⟨[],[]⟩
theorem Cy(k:Int)(p:Page)(q:Int × Page)(r:List (Int × Page)):over k p (q::r)=over k (if q.1=k then q.2 else p) r:=rfl
theorem jg(d:qo):bZ d=0↔d.blocks.length<=80/\d.queue.length<=400/\∀x∈d.queue,0<=x.1/\x.1<d.blocks.length:=by
 unfold bZ;constructor
 ·intro h;split at h
  ·omega
  split at h
  ·omega
  rename_i u p;refine⟨by omega,by omega,λx m => ?_⟩;have:=xK.1 (by simpa using p) x m;simp[Ga]at this;omega
 rintro⟨u,p,s⟩;rw[if_neg (by omega),if_neg];simp only[kW,not_exists,not_and];intro x m;have:=s x m;simp[Ga];omega
theorem fH{d:qo}{k:Int}:aI d k=0↔bZ d=0/\0<=k/\k<d.blocks.length:=by
 unfold aI;constructor
 ·intro h;split at h
  ·omega
  split at h
  ·omega
  ·omega
 rintro⟨s,p,m⟩;rw[if_neg (by omega),if_neg (by omega)]
theorem yH(d:qo)(x:Int × Page):(jR d x).blocks.length=d.blocks.length:=by
 unfold jR;split
 ·rfl
 split
 ·simp
 ·rfl
theorem zX{d:qo}{x:Int × Page}(h:bZ d=0)(D:0<=x.1)(A:x.1<d.blocks.length):bZ (jR d x)=0:=by
 obtain⟨z,s,u⟩:=(jg d).1 h;rw[jg,yH];refine⟨z,?_,?_⟩
 ·unfold jR;split
  ·simp
  rename_i q r e;rw[e]at s;split
  ·rename_i p;simp at p ⊢; omega
  ·rename_i p;simp at p s ⊢; omega
 intro y m;have:y=x\/y∈d.queue:=by
  unfold jR at m;split at m
  ·simp at m;exact .inl m
  rename_i q r e;rw[e];split at m
  ·simp at m ⊢; rcases m with h | h
   ·exact .inr (.inr h)
   ·exact .inl h
  simp at m ⊢; rcases m with h | h | h
  ·exact .inr (.inl h)
  ·exact .inr (.inr h)
  ·exact .inl h
 rcases this with rfl|h
 ·exact⟨D,A⟩
 ·exact u y h
theorem SF(d:qo)(x:Int × Page)(o:Int)(m:∀y∈d.queue,0<=y.1/\y.1<d.blocks.length)(p:0<=o)(ho' : o<d.blocks.length) :
  over o ((jR d x).blocks.getD o.toNat zPg) (jR d x).queue=if x.1=o then x.2 else over o (d.blocks.getD o.toNat zPg) d.queue:=by
 unfold jR;split
 ·rename_i e;rw[e];rfl
 rename_i q r e;split
 ·have a:=m q (by rw[e];exact jN ..);rw[Cm];congr 1;rw[e,Cy];congr 1;simp only[bA,qd]
  by_cases h:q.1=o
  ·rw[if_pos h,if_pos (by rw[h]),if_pos (by rw[h];omega)];rfl
  ·rw[if_neg h,if_neg (by omega)]
 ·rw[e,Cm]
theorem Kv{d:qo}{x:Int × Page}(h:bZ d=0)(p:0<=x.1)(m:x.1<d.blocks.length)(o:Int):aI (jR d x) o=aI d o:=by
 unfold aI;rw[zX h p m,h,yH]
theorem zy{d:qo}{x:Int × Page}(h:bZ d=0)(s:0<=x.1)(p:x.1<d.blocks.length)(o:Int):dN (jR d x) o=if aI d o=0/\x.1=o then x.2 else dN d o:=by
 unfold dN;rw[Kv h s p]
 by_cases m:aI d o=0
 ·obtain⟨_,g0,u⟩:=fH.1 m;rw[if_pos m,if_pos m,SF d x o ((jg d).1 h).2.2 g0 u];simp[m]
 ·rw[if_neg m,if_neg m,if_neg (λh=>m h.1)]
def pg5:Page:=#v[5,0,0,0,0,0,0,0]
def d3:qo:=⟨[zPg,zPg,zPg],[]⟩
def nI(k:Int)(l:List (Int × Page)):List (Int × Page):=l.filter (λq => !(q.1==k))
structure Io (l:List (Int × Page)) (k:Int) (j i:Nat) (cur:List (Int × Page)):Prop where
 len:cur.length=l.length
 lt:i<j
 le:j<=l.length
 done:cur.take i=nI k (l.take j)
 rest:∀t,j<=t->cur[t]?=l[t]?
theorem Io.start{l:List (Int × Page)}{k:Int}(s:i<l.length)(u:l[i].1=k)(d:∀j (h:j<l.length),j<i->¬l[j].1=k):Io l k (i+1) i l:=by
 refine⟨rfl,by omega,by omega,?_,λ_ _=>rfl⟩;unfold nI;rw[mK,pW,aM s,Option.toList];have z:(l.take i).filter (λq => !(q.1==k))=l.take i:=by rw[BM];intro q m;obtain⟨j,p,rfl⟩:=jK.1 m;simp only[eG]at p;rw[List.getElem_take];simpa using d j (by omega) (by omega)
 simp[z,u]
theorem Io.keep{l:List (Int × Page)}{k:Int}{d:List (Int × Page)}(h:Io l k j i d)(p:j<l.length)(m:¬l[j].1=k):Io l k (j+1) (i+1) (d.set i l[j]):=by
 have A:=h.lt;have z:=h.len;refine⟨by simp[h.len],by omega,by omega,?_,λt u => ?_⟩
 ·have s:i<d.length:=by omega
  rw[mK,oD s,Option.toList,List.take_set_of_le (aC _),h.done];unfold nI;rw[mK,pW,aM p,Option.toList];simp[m]
 rw[uz (by omega)];exact h.rest t (by omega)
theorem Io.skip{l:List (Int × Page)}{k:Int}{d:List (Int × Page)}(h:Io l k j i d)(m:j<l.length)(p:l[j].1=k):Io l k (j+1) i d:=by
 have u:=h.lt;refine⟨h.len,by omega,by omega,?_,λt s=>h.rest t (by omega)⟩;rw[h.done];unfold nI;rw[mK,pW,aM m,Option.toList];simp[p]
theorem RU{l:List (Int × Page)}{k:Int}(h:∀i (h:i<l.length),i<l.length->¬l[i].1=k):nI k l=l:=by
 unfold nI;rw[BM];intro q m;obtain⟨j,d,rfl⟩:=jK.1 m;simpa using h j d d
def pQ(d:qo)(k:Int):qo:=⟨d.blocks.set k.toNat zPg,nI k d.queue⟩
def wB(d:qo)(k:Int):qo:=if aI d k=0 then pQ d k else⟨[],[]⟩
theorem Vs(k:Int)(l:List (Int × Page)):(nI k l).length<=l.length:=wS _ _
structure Fr where
 p:Page
 r:Int
 u:Bool
 d:Bool
 f:Int
 i:Int
 deriving DecidableEq
def NK(f:Fr):Bool:=decide (f.r<0)||decide (1000<f.r)||decide (f.f < -1)||decide (5<=f.f)||decide (f.i<0)||decide (12<=f.i)
def LV(f:Fr):Bool:=decide (f.r=0)&&(f.u||f.d||decide (0<=f.f)||f.p != zPg)
def GH(f:Fr):Bool:=decide (f.f<0)&&decide (f.i≠0)
def dn(f:Fr):Int:=if NK f=true then 3 else if LV f=true\/GH f=true then 7 else 0
structure Mem where
 fs:List Fr
 hand:Int
 deriving DecidableEq
def firstEf:List Fr->Int
 | []=>0
 | f::r=>if dn f≠0 then dn f else firstEf r
theorem firstEf_at:∀(l:List Fr) (k:Nat) (d:k<l.length),(∀i (h:i<l.length),i<k->dn l[i]=0)->dn l[k]≠0->firstEf l=dn l[k]
 | f::r,0,_,_,h=>by unfold firstEf;exact if_pos h
 | f::r,k+1,d,hp,h=>by unfold firstEf;rw[if_neg (λs=>s (hp 0 (by simp) (by omega)))];exact firstEf_at r k (by simpa using d) (λi p m=>hp (i+1) (by simpa using p) (by omega)) h
theorem firstEf_none:∀(l:List Fr),(∀i (h:i<l.length),dn l[i]=0)->firstEf l=0
 | [],_=>rfl
 | f::r,hp=>by unfold firstEf;rw[if_neg (λm=>m (hp 0 (by simp)))];exact firstEf_none r (λi d=>hp (i+1) (by simpa using d))
def bT(m:Mem):Int:=if 40<m.fs.length then 4 else if firstEf m.fs≠0 then firstEf m.fs else if m.hand<0\/(0<m.hand/\(m.fs.length:Int)<=m.hand)then 3 else 0
def fO(l:List Fr):Nat:=(l.filter (λf=>decide (f.r=0))).length
theorem Qa(l:List Fr)(k:Nat)(d:k<l.length):fO (l.take (k+1))=if l[k].r=0 then fO (l.take k)+1 else fO (l.take k):=by
 unfold fO;rw[mK,aM d,Option.toList,pW]
 by_cases h:l[k].r=0<;>simp[h]
theorem Fa(l:List Fr):fO l<=l.length:=wS _ _
def fr0:Fr:=⟨zPg,0,false,false,0,0⟩
def frZ:Fr:=⟨zPg,0,false,false,-1,0⟩
def yu(n:Int):Mem:=if 0<=n/\n<=40 then⟨List.replicate n.toNat frZ,0⟩else⟨[],0⟩
def Qw(n:Int):Int:=if 0<=n/\n<=40 then 0 else 4
def xP(l:List Fr):Option Nat:=l.findIdx? (λf=>decide (f.r=0))
theorem PE{l:List Fr}(h:∀i (h:i<l.length),i<l.length->¬l[i].r=0):xP l=none:=by
 unfold xP;rw[zh];intro x m;obtain⟨i,d,rfl⟩:=jK.1 m;simpa using h i d d
theorem Qo{l:List Fr}(p:i<l.length)(h:l[i].r=0)(d:∀j (h:j<l.length),j<i->¬l[j].r=0):xP l=some i:=by
 unfold xP;rw[rz];exact⟨p,by simpa using h,λj m=>by simpa using d j (by omega) m⟩
def noM:Mem:=⟨[],0⟩
def bL(p:Page)(file index:Int):Fr:=⟨p,1,true,false,file,index⟩
def iy(m:Mem)(p:Page)(file index:Int):Int:=if bT m≠0 then bT m else if dn (bL p file index)≠0 then dn (bL p file index)else if xP m.fs=none then 10 else 0
def iG(m:Mem)(p:Page)(file index:Int):Nat:=if iy m p file index=0 then(xP m.fs).getD 0 else 0
def fG(m:Mem)(p:Page)(file index:Int):Mem:=if iy m p file index=0 then⟨m.fs.set (iG m p file index) (bL p file index),m.hand⟩else noM
theorem firstEf_all:∀(l:List Fr),firstEf l=0->∀f∈l,dn f=0
 | [],_,_,h=>by cases h
 | g::r,h,f,hf=>by
  unfold firstEf at h
  by_cases d:dn g=0
  ·rw[if_neg (λe=>e d)]at h;rcases fq.1 hf with rfl|hf
   ·exact d
   ·exact firstEf_all r h f hf
  rw[if_pos d]at h;exact absurd h d
theorem eF(m:Mem):bT m=0↔m.fs.length<=40/\(∀f∈m.fs,dn f=0)/\0<=m.hand/\(m.hand=0\/m.hand<m.fs.length):=by
 unfold bT;constructor
 ·intro h
  by_cases p:40<m.fs.length
  ·rw[if_pos p]at h;cases h
  rw[if_neg p]at h
  by_cases d:firstEf m.fs=0
  ·rw[if_neg (λe=>e d)]at h
   by_cases s:m.hand<0\/(0<m.hand/\(m.fs.length:Int)<=m.hand)
   ·rw[if_pos s]at h;cases h
   ·exact⟨by omega,firstEf_all _ d,by omega,by omega⟩
  ·rw[if_pos d]at h;exact absurd h d
 rintro⟨p,d,s,A⟩;rw[if_neg (by omega)];have z:firstEf m.fs=0:=firstEf_none _ (λi u=>d _ (fA u));rw[z,if_neg (λe=>e rfl),if_neg (by omega)]
theorem dV(f:Fr):dn f=0↔(0<=f.r/\f.r<=1000/\-1<=f.f/\f.f<5/\0<=f.i/\f.i<12)/\(f.r=0->f.u=false/\f.d=false/\f.f<0/\f.p=zPg)/\(f.f<0->f.i=0):=by
 unfold dn;have z:NK f=false↔(0<=f.r/\f.r<=1000/\-1<=f.f/\f.f<5/\0<=f.i/\f.i<12):=by simp only[NK,EJ,decide_eq_false_iff_not,Int.not_lt,Int.not_le];omega
 have m:LV f=false↔(f.r=0->f.u=false/\f.d=false/\f.f<0/\f.p=zPg):=by
  unfold LV
  by_cases h:f.r=0
  ·simp[h,and_assoc]
  ·simp[h]
 have s:GH f=false↔(f.f<0->f.i=0):=by
  unfold GH
  by_cases h:f.f<0
  ·simp[h]
  ·simp[h]
 rw[<-z,<-m,<-s];cases NK f<;>cases LV f<;>cases GH f<;>simp
def oQ(m:Mem)(k n:Int):Int:=if bT m≠0 then bT m else if k<0\/(m.fs.length:Int)<=k\/(m.fs.getD k.toNat fr0).r=0 then 5 else if n < -(m.fs.getD k.toNat fr0).r\/1000-(m.fs.getD k.toNat fr0).r<n then 3 else 0
def gV(f:Fr)(n:Int):Fr:=if f.r+n=0 then frZ else{ f with r:=f.r+n }
def nK(m:Mem)(k n:Int):Mem:=if oQ m k n=0 then⟨m.fs.set k.toNat (gV (m.fs.getD k.toNat fr0) n),m.hand⟩else noM
def jH(m:Mem)(s:Nat):Nat:=(m.hand.toNat+s)%m.fs.length
def DT(m:Mem)(s i:Nat):Bool:=(List.range s).any (λt=>jH m t==i)
def unused(f:Fr):Fr:={ f with u:=false }
def pu(m:Mem)(s:Nat):List Fr:=m.fs.mapIdx (λi f=>if DT m s i then unused f else f)
def yG(m:Mem)(s:Nat):Bool:=decide (0<(m.fs.getD (jH m s) fr0).r)&&(!(m.fs.getD (jH m s) fr0).u||decide (m.fs.length<=s))
def iQ(m:Mem):Nat:=((List.range (2*m.fs.length)).find? (yG m)).getD 0
def gy(m:Mem):Mem:=if bT m≠0 then noM else if fO m.fs=m.fs.length then m else⟨pu m (iQ m),(jH m (iQ m+1):Nat)⟩
def iR(m:Mem):Int:=if bT m≠0 then 0 else if fO m.fs=m.fs.length then -1 else(jH m (iQ m):Nat)
theorem qZ{m:Mem}(h:0<m.fs.length)(s:Nat):jH m s<m.fs.length:=rZ _ h
theorem jw(m:Mem)(s:Nat):(pu m s).length=m.fs.length:=by simp[pu]
theorem xy(m:Mem)(s i:Nat)(d:i<m.fs.length):(pu m s)[i]'(by rw[jw];exact d)=if DT m s i then unused m.fs[i]else m.fs[i]:=by simp[pu]
theorem Sq(m:Mem)(s i:Nat):DT m (s+1) i=(DT m s i||jH m s==i):=by simp[DT,Ay]
theorem We(m:Mem):pu m 0=m.fs:=by
 apply sI
 ·rw[jw]
 intro i h d;rw[xy m 0 i d];rfl
theorem Vu(m:Mem)(s:Nat)(h:0<m.fs.length):(pu m s).set (jH m s) (unused ((pu m s)[jH m s]'(by rw[jw];exact qZ h s)))=pu m (s+1):=by
 apply sI
 ·simp[jw]
 intro i u p;have d:i<m.fs.length:=by rw[jw]at p;exact p
 rw[Er,xy m (s+1) i d,Sq]
 by_cases e:jH m s=i
 ·subst e;rw[if_pos rfl,xy m s _ d];cases DT m s (jH m s)<;>simp[unused]
 rw[if_neg e,xy m s i d];have:(jH m s==i)=false:=by simpa using e
 rw[this,Bool.or_false]
theorem VP(m:Mem)(s:Nat)(h:0<m.fs.length):DT m s (jH m s)=decide (m.fs.length<=s):=by
 rw[qK];simp only[DT,kW,dx,beq_iff_eq,decide_eq_true_eq];constructor
 ·rintro⟨t,D,d⟩;unfold jH at d;rcases gB s m.fs.length with p|p
  ·exfalso;have A:(m.hand.toNat+s)%m.fs.length=(m.hand.toNat+t+(s-t))%m.fs.length:=by congr 1;omega
   rw[A,Nat.add_mod (m.hand.toNat+t) (s-t)]at d;have z:(s-t)%m.fs.length=s-t:=tQ (by omega);rw[z]at d;have E:=rZ (m.hand.toNat+t) h;generalize (m.hand.toNat+t)%m.fs.length=x at *
   rcases gB (x+(s-t)) m.fs.length with u|u
   ·rw[tQ u]at d;omega
   ·rw[Nat.mod_eq_sub_mod u,tQ (by omega)]at d;omega
  ·exact p
 intro p;refine⟨s-m.fs.length,by omega,?_⟩;unfold jH;have:m.hand.toNat+s=(m.hand.toNat+(s-m.fs.length))+m.fs.length:=by omega
 rw[this,Eg]
theorem aad(m:Mem)(s:Nat)(h:0<m.fs.length):(pu m s)[jH m s]'(by rw[jw];exact qZ h s)=if m.fs.length<=s then unused (m.fs[jH m s]'(qZ h s))else m.fs[jH m s]'(qZ h s):=by
 rw[xy m s _ (qZ h s),VP m s h];simp
theorem Xx(m:Mem)(s:Nat)(h:0<m.fs.length):yG m s=(decide (0<((pu m s)[jH m s]'(by rw[jw];exact qZ h s)).r)&&!((pu m s)[jH m s]'(by rw[jw];exact qZ h s)).u):=by
 rw[aad m s h];unfold yG;rw[show m.fs.getD (jH m s) fr0=m.fs[jH m s]'(qZ h s)from by simp[qZ h s]]
 by_cases d:m.fs.length<=s
 ·rw[if_pos d];simp[d,unused];rfl
 ·rw[if_neg d];simp[d]
theorem Tm(l:List Fr):fO l=l.length↔∀f∈l,f.r=0:=by
 unfold fO;rw[List.length_filter_eq_length_iff];simp
theorem stops(m:Mem)(A:bT m=0)(z:fO m.fs≠m.fs.length):∃s,s<2*m.fs.length/\yG m s=true:=by
 obtain⟨_,c,M,_⟩:=(eF m).1 A;rw[Ne,Tm]at z;obtain⟨f,d⟩:=Classical.not_forall.1 z;obtain⟨u,K⟩:=Classical.not_imp.1 d;obtain⟨i,p,rfl⟩:=jK.1 u;have e:=((dV _).1 (c _ u)).1.1;have a:0<m.fs.length:=by omega
 have H:=rZ m.hand.toNat a;refine⟨(i+m.fs.length-m.hand.toNat%m.fs.length)%m.fs.length+m.fs.length,by have:=rZ (i+m.fs.length-m.hand.toNat%m.fs.length) a;omega,?_⟩;have b:jH m ((i+m.fs.length-m.hand.toNat%m.fs.length)%m.fs.length+m.fs.length)=i:=by
  unfold jH;rw[<-qX,Eg,Nat.add_mod,Nat.mod_mod];generalize m.hand.toNat%m.fs.length=x at *
  rcases gB i x with h|h
  ·rw[tQ (show i+m.fs.length-x<m.fs.length by omega)];rw[show x+(i+m.fs.length-x)=i+m.fs.length from by omega,Eg,tQ p]
  have D:i+m.fs.length-x=(i-x)+m.fs.length:=by omega
  rw[D,Eg,tQ (show i-x<m.fs.length by omega),show x+(i-x)=i from by omega,tQ p]
 unfold yG;rw[b];have:m.fs.getD i fr0=m.fs[i]:=by simp[p]
 rw[this];have G:0<m.fs[i].r:=by omega
 have E:m.fs.length<=(i+m.fs.length-m.hand.toNat%m.fs.length)%m.fs.length+m.fs.length:=by omega
 simp[G,E]
theorem UT(m:Mem)(d:bT m=0)(u:fO m.fs≠m.fs.length):iQ m<2*m.fs.length/\yG m (iQ m)=true/\∀t,t<iQ m->yG m t=false:=by
 obtain⟨s,p,a⟩:=stops m d u;unfold iQ;cases hfd:(List.range (2*m.fs.length)).find? (yG m)with
 | none=>
  rw[sG]at hfd;exact absurd a (hfd s (dx.2 p))
 | some r=>
  rw[Jz]at hfd;obtain⟨D,A,z⟩:=hfd;exact⟨dx.1 A,D,λt h=>by simpa using z t h⟩
structure En where
 k:Int
 n:Int
 w:Bool
 deriving DecidableEq
def zEn:En:=⟨0,0,false⟩
abbrev Tb:=Vector (List En) 8
def iE(e:En):Int:=if e.k<0\/2<e.k then 1 else if e.n<0\/40<=e.n/\e.k=1\/60<=e.n then 3 else if e.k=0/\(e.n≠0\/e.w=true)\/e.k=2/\e.w=true then 7 else 0
def nQ(h:List En):Int:=if h.length≠0/\h.length≠8 then 2 else if firstE (h.map iE)≠0 then firstE (h.map iE)else if 0<h.length/\h.any (λe=>decide (e.k≠0))=false then 2 else 0
def eU(t:Tb):Int:=firstE (t.toList.map nQ)
def La(h:List En)(k:Nat):Bool:=(h.take k).any (λe=>decide (e.k≠0))
theorem SB(h:List En)(k:Nat)(d:k<h.length):La h (k+1)=(La h k||decide (h[k].k≠0)):=by
 unfold La;rw[mK,List.any_append,aM d];simp
theorem Wz(h:List En)(k:Nat)(d:h.length<=k):La h k=h.any (λe=>decide (e.k≠0)):=by
 unfold La;rw[mE d]
theorem DJ{t:Tb}(h:∀i (d:i<8),nQ t[i]=0):eU t=0:=vw λi d=>by simpa using h i (by simpa using d)
theorem Dh{t:Tb}(k:Nat)(p:k<8)(h:∀i (m:i<8),i<k->nQ t[i]=0)(d:nQ t[k]≠0):eU t=nQ t[k]:=by
 have:=yQ (l:=t.toList.map nQ) k (by simpa using p) (λi m a=>by simpa using h i (by simpa using m) a) (by simpa using d);rw[eU,this];simp
theorem Ho{h:List En}(d:h.length≠0/\h.length≠8):nQ h=2:=by unfold nQ;rw[if_pos d]
theorem Nc{h:List En}(u:h.length=0\/h.length=8)(k:Nat)(s:k<h.length)(p:∀i (m:i<h.length),i<k->iE h[i]=0)(d:iE h[k]≠0):nQ h=iE h[k]:=by
 have:=yQ (l:=h.map iE) k (by simpa using s) (λi m a=>by simpa using p i (by simpa using m) a) (by simpa using d);have e:firstE (h.map iE)=iE h[k]:=by rw[this];simp
 unfold nQ;rw[if_neg (by omega),e,if_pos d]
theorem CY{h:List En}(p:h.length=0\/h.length=8)(m:∀i (d:i<h.length),iE h[i]=0):nQ h=if 0<h.length/\h.any (λe=>decide (e.k≠0))=false then 2 else 0:=by
 have:=vw (l:=h.map iE) (λi d=>by simpa using m i (by simpa using d));unfold nQ;rw[if_neg (by omega),this,if_neg (by omega)]
def CU(t:Tb):Prop:=∀k (h:k<8),t[k].length*24<=140737488355328
def dR(t:Tb)(n:Int):En:=if h:0<=n/\n<64 then(if(t[n.toNat / 8]'(by omega)).length=8 then(t[n.toNat / 8]'(by omega)).getD (n.toNat%8) zEn else zEn)else zEn
theorem uP{t:Tb}(h:n<0\/64<=n:=by omega):dR t n=zEn:=by unfold dR;rw[dif_neg (by omega)]
theorem Bz{t:Tb}(p:q<8)(m:r<8):dR t ((8*q+r:Nat):Int)=if t[q].length=8 then t[q].getD r zEn else zEn:=by
 unfold dR;rw[dif_pos (by omega)];have h:(((8*q+r:Nat):Int).toNat / 8)=q:=by rw[bu];omega
 have d:(((8*q+r:Nat):Int).toNat%8)=r:=by rw[bu];omega
 simp only[h,d]
theorem zi(h:0<=n/\n<64):∃q r:Nat,q<8/\r<8/\n=((8*q+r:Nat):Int)/\n / 8=(q:Int)/\n%8=(r:Int):=by
 refine⟨(n / 8).toNat,(n%8).toNat,by omega,by omega,by omega,by omega,by omega⟩
def qA(e:En):Bool:=decide (e.k≠0)
def setE(t:Tb)(n:Int)(e:En):Int:=if eU t≠0 then eU t else if n<0\/64<=n then 3 else iE e
def Zq(h:List En):List En:=if h.any qA then h else[]
def setH(h:List En)(r:Nat)(e:En):List En:=Zq ((if h.length=0 then List.replicate 8 zEn else h).set r e)
def zTb:Tb:=Vector.replicate 8 []
def setT(t:Tb)(n:Int)(e:En):Tb:=if h:(0<=n/\n<64)/\setE t n e=0 then t.set (n.toNat / 8) (setH (t[n.toNat / 8]'(by omega)) (n.toNat%8) e) (by omega)else zTb
theorem yL{t:Tb}{e:En}(h:setE t n e≠0):setT t n e=zTb:=by unfold setT;rw[dif_neg (λd=>h d.2)]
theorem Qv{t:Tb}{e:En}(h:setE t n e=0)(u:q<8)(s:r<8)(d:n=((8*q+r:Nat):Int)):setT t n e=t.set q (setH t[q] r e):=by
 unfold setT;subst d;rw[dif_pos ⟨by omega,h⟩];have p:(((8*q+r:Nat):Int).toNat / 8)=q:=by rw[bu];omega
 have m:(((8*q+r:Nat):Int).toNat%8)=r:=by rw[bu];omega
 simp only[p,m]
theorem ui{h:List En}(d:nQ h=0):h.length=0\/h.length=8:=by
 by_cases e:h.length≠0/\h.length≠8
 ·rw[Ho e]at d;cases d
 ·omega
theorem oP{t:Tb}(h:eU t=0)(k:Nat)(p:k<8):nQ t[k]=0:=by
 have m:∀(l:List Int),firstE l=0->∀x∈l,x=0:=by
  intro l
  induction l with
  | nil=>intro _ x d;cases d
  | cons y r ih=>
   intro h x d
   by_cases e:y=0
   ·simp only[firstE,e,if_true]at h;rcases fq.1 d with rfl|d
    ·exact e
    ·exact ih h x d
   ·simp only[firstE,e,if_false]at h
 exact m _ h _ (fD.2 ⟨t[k],by simp,rfl⟩)
def kC(t:Tb)(k:Nat):List Int:=((List.range k).filter λn:Nat=>qA (dR t (n:Int))).map λn:Nat=>(n:Int)
def aV(t:Tb):List Int:=kC t 64
theorem uR(t:Tb)(k:Nat):(kC t k).length<=k:=by
 unfold kC;rw[fE];exact aX (wS _ _) (by simp)
theorem Ny{t:Tb}(h:qA (dR t (k:Int))=true):kC t (k+1)=kC t k++[(k:Int)]:=by
 unfold kC;rw[Ay,pW,jL];simp[h]
theorem OV{t:Tb}(h:qA (dR t (k:Int))=false):kC t (k+1)=kC t k:=by
 unfold kC;rw[Ay,pW,jL];simp[h]
structure Eb (p:Int->Bool) (l:List Int) (j i:Nat) (cur:List Int):Prop where
 len:cur.length=l.length
 lt:i<j
 le:j<=l.length
 done:cur.take i=(l.take j).filter (λx => !p x)
 rest:∀t,j<=t->cur[t]?=l[t]?
theorem Eb.start{p:Int->Bool}(u:i<l.length)(z:p l[i]=true)(d:∀j (h:j<l.length),j<i->p l[j]=false):Eb p l (i+1) i l:=by
 refine⟨rfl,by omega,by omega,?_,λ_ _=>rfl⟩;rw[mK,pW,aM u,Option.toList];have A:(l.take i).filter (λq => !p q)=l.take i:=by rw[BM];intro q m;obtain⟨j,s,rfl⟩:=jK.1 m;simp only[eG]at s;rw[List.getElem_take];simpa using d j (by omega) (by omega)
 simp[A,z]
theorem Eb.keep{p:Int->Bool}{d:List Int}(h:Eb p l j i d)(s:j<l.length)(m:p l[j]=false):Eb p l (j+1) (i+1) (d.set i l[j]):=by
 have D:=h.lt;have A:=h.len;refine⟨by simp[h.len],by omega,by omega,?_,λt z => ?_⟩
 ·have u:i<d.length:=by omega
  rw[mK,oD u,Option.toList,List.take_set_of_le (aC _),h.done];rw[mK,pW,aM s,Option.toList];simp[m]
 rw[uz (by omega)];exact h.rest t (by omega)
theorem Eb.skip{p:Int->Bool}{d:List Int}(h:Eb p l j i d)(m:j<l.length)(s:p l[j]=true):Eb p l (j+1) i d:=by
 have z:=h.lt;refine⟨h.len,by omega,by omega,?_,λt u=>h.rest t (by omega)⟩;rw[h.done];rw[mK,pW,aM m,Option.toList];simp[s]
theorem Eb.all{p:Int->Bool}(h:∀i (h:i<l.length),p l[i]=false):l.filter (λx => !p x)=l:=by
 rw[BM];intro q d;obtain⟨j,m,rfl⟩:=jK.1 d;simpa using h j m
def sJ(t:Tb)(kind k:Int)(n:Int):Bool:=decide ((dR t n).k≠kind)||decide ((dR t n).n≠k)
def qx(t:Tb)(kind k:Int):List Int:=(aV t).filter λn => !sJ t kind k n
def fU(t:Tb):List En:=(List.range 64).map λn:Nat=>dR t (n:Int)
structure FlI (t:Tb) (m:Nat) (l:List En):Prop where
 len:l.length=64
 at' : ∀n (h:n<64),l[n]?=some (if n<m then dR t (n:Int)else zEn)
theorem FlI.step{t:Tb}{m:Nat}{l:List En}(h:FlI t m l)(u:m<64){E:En}(s:dR t (m:Int)=E):FlI t (m+1) (l.set m E):=by
 refine⟨by simp[h.len],λn p => ?_⟩
 by_cases e:n=m
 ·subst e;rw[oD (by rw[h.len];exact p),if_pos (by omega),s]
 rw[uz (λd=>e d.symm),h.at' n p];congr 1
 by_cases d:n<m
 ·rw[if_pos d,if_pos (by omega)]
 ·rw[if_neg d,if_neg (by omega)]
theorem Iw{t:Tb}(m:q<8)(d:r<8)(h:t[q].length=0):dR t ((8*q+r:Nat):Int)=zEn:=by
 rw[Bz m d,if_neg (by omega)]
theorem RQ{t:Tb}(m:q<8)(d:r<8)(h:t[q].length=8){E:En}(p:t[q][r]?=some E):dR t ((8*q+r:Nat):Int)=E:=by
 rw[Bz m d,if_pos h,bA,p];rfl
def Ol(e:En):Bool:=decide (0<e.k)
def nY(l:List En)(i:Nat):List En:=(l.drop (8*i)).take 8
def vS(l:List En)(i:Nat):List En:=if(nY l i).any Ol then nY l i else[]
def uy(l:List En):Tb:=Vector.ofFn λi:Fin 8=>vS l i.val
theorem Mc{l:List En}(d:l.length=64)(m:i<8)(h:k<=8):((l.drop (8*i)).take k).length=k:=by
 simp;omega
structure Fi where
 n:Int
 b:List Int
 deriving DecidableEq
structure St where
 fs:List Fi
 count:Int
 deriving DecidableEq
theorem ul(h:n<=96):bn n<=12:=by unfold bn;split<;>omega
theorem Di(n:Int):0<=bn n:=by unfold bn;split<;>omega
def lU(c:Int):List Int->List Int->Int
 | _,[]=>0
 | seen,b::r=>if b < -1\/c<=b then 3 else if 0<=b/\b∈seen then 7 else lU c (seen++[b]) r
def vN(c:Int):List Int->List Fi->Int
 | _,[]=>0
 | seen,f::r=>if f.n<0\/96<f.n then 3 else if(f.b.length:Int)≠bn f.n then 2 else if lU c seen f.b≠0 then lU c seen f.b else vN c (seen++f.b) r
theorem zW(c:Int)(d:List Int)(b:Int)(r:List Int):lU c d (b::r)=if b < -1\/c<=b then 3 else if 0<=b/\b∈d then 7 else lU c (d++[b]) r:=rfl
def aQ(s:St):Int:=if 5<s.fs.length\/s.count<0\/80<s.count then 4 else vN s.count [] s.fs
def ve(l:List Int)(j:Int):Bool:=decide (j∈l)
theorem Gm(l:List Int)(b:Int):(λi=>ve l i||decide (i=b))=ve (l++[b]):=by
 funext i;unfold ve;rw[qK];simp
theorem drop_at{α:Type}{l:List α}{x:α}(h:l[k]?=some x):l.drop k=x::l.drop (k+1):=by
 have d:=(dw.1 h).1;rw[xL d,(dw.1 h).2]
theorem take_at{α:Type}{l:List α}{x:α}(h:l[k]?=some x):l.take (k+1)=l.take k++[x]:=by
 rw[mK,h];rfl
def Yn(n:Int):Int:=if n<0\/80<n then 4 else 0
def Yz(n:Int):Int:=if n<0\/80<n then 0 else n
def gZ(s:St):List Int:=s.fs.flatMap Fi.b
def YD(l:List Int):Nat:=(l.filter λx=>decide (0<=x)).length
def uS(s:St):Int:=s.count-YD (gZ s)
def kL(s:St)(b:Int):Bool:=decide (b∈gZ s)
theorem XK(l:List Int)(x:Int):l.any (λy=>decide (x=y))=decide (x∈l):=by
 rw[qK,kW,decide_eq_true_eq];constructor
 ·rintro⟨y,d,h⟩;rw[of_decide_eq_true h];exact d
 ·intro h;exact⟨x,h,decide_eq_true rfl⟩
def fT(s:St):Int:=match (List.range s.count.toNat).find? (λb:Nat => !kL s b)with
 | some b=>b
 | none => -1
theorem RN{s:St}(p:(b:Int)<s.count)(h:∀i:Nat,i<b->kL s i=true)(m:kL s b=false):fT s=b:=by
 unfold fT;have:(List.range s.count.toNat).find? (λb:Nat => !kL s b)=some b:=by rw[Jz];exact⟨by simp[m],dx.2 (by omega),λj d=>by simp[h j d]⟩
 rw[this]
theorem Na{s:St}(h:∀i:Nat,(i:Int)<s.count->kL s i=true):fT s = -1:=by
 unfold fT;have:(List.range s.count.toNat).find? (λb:Nat => !kL s b)=none:=by rw[sG];intro i d;have:=dx.1 d;simp[h i (by omega)]
 rw[this]
def zSt:St:=⟨[],0⟩
def jV(s:St):Int:=if aQ s≠0 then aQ s else if s.fs.length=5 then 4 else 0
def mR(s:St):St:=if jV s=0 then⟨s.fs++[⟨0,[]⟩],s.count⟩else zSt
def jX(s:St):Int:=if jV s=0 then s.fs.length else 0
theorem jC{s:St}(h:aQ s=0):s.fs.length<=5/\0<=s.count/\s.count<=80:=by
 unfold aQ at h
 by_cases g:5<s.fs.length\/s.count<0\/80<s.count
 ·rw[if_pos g]at h;cases h
 ·omega
theorem GM{c:Int}:∀ {fs:List Fi} {d:List Int},vN c d fs=0->∀f∈fs,0<=f.n/\f.n<=96/\(f.b.length:Int)=bn f.n/\∀b∈f.b,-1<=b/\b<c
 | f0::r,d,h,f,hf=>by
  unfold vN at h
  by_cases D:f0.n<0\/96<f0.n
  ·rw[if_pos D]at h;cases h
  rw[if_neg D]at h
  by_cases z:(f0.b.length:Int)≠bn f0.n
  ·rw[if_pos z]at h;cases h
  rw[if_neg z]at h
  by_cases p:lU c d f0.b≠0
  ·rw[if_pos p]at h;exact absurd h p
  rw[if_neg p]at h;rcases fq.1 hf with rfl|hf
  ·refine⟨by omega,by omega,qL.1 z,?_⟩;have u:∀(l:List Int) (s:List Int),lU c s l=0->∀b∈l,-1<=b/\b<c:=by
    intro l
    induction l with
    | nil=>intro _ _ b m;cases m
    | cons x r ih=>
     intro s h b m;rw[zW]at h
     by_cases k1:x < -1\/c<=x
     ·rw[if_pos k1]at h;cases h
     rw[if_neg k1]at h
     by_cases A:0<=x/\x∈s
     ·rw[if_pos A]at h;cases h
     rw[if_neg A]at h;rcases fq.1 m with rfl|m
     ·omega
     ·exact ih _ h b m
   exact u _ _ (qL.1 p)
  ·exact GM h f hf
theorem wQ{s:St}(h:aQ s=0):∀f∈s.fs,0<=f.n/\f.n<=96/\(f.b.length:Int)=bn f.n/\∀b∈f.b,-1<=b/\b<s.count:=by
 have d:=jC h;unfold aQ at h;rw[if_neg (by omega)]at h;exact GM h
theorem Gj{s:St}(h:jV s=e)(d:e≠0):jV s=e/\jX s=0/\mR s=zSt:=by
 refine⟨h,?_,?_⟩
 ·unfold jX;rw[if_neg (by rw[h];exact d)]
 ·unfold mR;rw[if_neg (by rw[h];exact d)]
def az(s:St)(k:Int):Fi:=if 0<=k then s.fs.getD k.toNat ⟨0,[]⟩else⟨0,[]⟩
def nW(s:St)(k:Int)(f:Fi):St:=⟨s.fs.set k.toNat f,s.count⟩
def aZ(s:St)(k i:Int):Int:=(az s k).b.getD i.toNat 0
def dF(s:St)(k i:Int):Int:=
 if aQ s≠0 then aQ s else if k<0\/(s.fs.length:Int)<=k then 5 else if i<0\/((az s k).b.length:Int)<=i then 9
 else if aZ s k i<0/\fT s<0 then 10 else 0
def eY(s:St)(k i:Int):Int:=if dF s k i≠0 then 0 else if aZ s k i<0 then fT s else aZ s k i
def eH(s:St)(k i:Int):St:=if dF s k i≠0 then zSt else if aZ s k i<0 then nW s k ⟨(az s k).n,(az s k).b.set i.toNat (fT s)⟩else s
theorem zb{s:St}{k i:Int}(h:dF s k i=e)(d:e≠0):dF s k i=e/\eY s k i=0/\eH s k i=zSt:=by
 refine⟨h,?_,?_⟩
 ·unfold eY;rw[if_pos (by rw[h];exact d)]
 ·unfold eH;rw[if_pos (by rw[h];exact d)]
theorem Tj{s:St}(h:s.count<=80):fT s<80/\-1<=fT s:=by
 unfold fT;cases hf:(List.range s.count.toNat).find? (λb:Nat => !kL s b)with
 | none=>simp
 | some b=>
  have:=dx.1 (sZ hf);simp;omega
def lG(b:List Int)(kk:Nat):List Int:=b.take kk++List.replicate (kk-b.length) (-1)
theorem Dz(b:List Int)(d:Nat):(lG b d).length=d:=by unfold lG;simp;omega
def jE(s:St)(k n:Int):Int:=
 if aQ s≠0 then aQ s else if k<0\/(s.fs.length:Int)<=k then 5 else if n<0\/96<n then 3 else 0
def jU(s:St)(k n:Int):St:=if jE s k n≠0 then zSt else nW s k ⟨n,lG (az s k).b (bn n).toNat⟩
theorem Gt{s:St}{k:Int}(h:jE s k n=e)(d:e≠0):jE s k n=e/\jU s k n=zSt:=by
 refine⟨h,?_⟩;unfold jU;rw[if_pos (by rw[h];exact d)]
def lS(l:List Int):List Int:=l.filter λx=>decide (0<=x)
theorem wC(l m:List Int):lS (l++m)=lS l++lS m:=pW _ _
theorem ji{x:Int}:x∈lS l↔x∈l/\0<=x:=by unfold lS;simp
theorem CG{c:Int}:∀ {l d:List Int},lU c d l=0↔(∀b∈l,-1<=b/\b<c)/\(lS l).Nodup/\∀b∈l,0<=b->¬b∈d
 | [],d=>by simp[lU,lS]
 | x::r,d=>by
  rw[zW]
  by_cases k1:x < -1\/c<=x
  ·rw[if_pos k1];refine⟨λh=>(by cases h),λh => ?_⟩;have:=h.1 x jN;omega
  rw[if_neg k1]
  by_cases z:0<=x/\x∈d
  ·rw[if_pos z];refine⟨λh=>(by cases h),λh=>absurd z.2 (h.2.2 x jN z.1)⟩
  rw[if_neg z,CG (l:=r)];have A:lS (x::r)=if 0<=x then x::lS r else lS r:=by unfold lS;rw[zt];simp
  rw[A];constructor
  ·intro ⟨h1,h2,h3⟩;refine⟨λb m => ?_,?_,λb m s p => ?_⟩
   ·rcases fq.1 m with rfl|m
    ·omega
    ·exact h1 b m
   ·by_cases u:0<=x
    ·rw[if_pos u];refine tY.2 ⟨λD => ?_,h2⟩;exact h3 x (ji.1 D).1 u (xB _ (bF.2 rfl))
    ·rw[if_neg u];exact h2
   rcases fq.1 m with rfl|m
   ·exact z ⟨s,p⟩
   ·exact h3 b m s (xm _ p)
  intro ⟨h1,h2,h3⟩;refine⟨λb m=>h1 b (jh _ m),?_,λb m s p => ?_⟩
  ·by_cases u:0<=x
   ·rw[if_pos u]at h2;exact(tY.1 h2).2
   ·rw[if_neg u]at h2;exact h2
  rcases ik.1 p with p|p
  ·exact h3 b (jh _ m) s p
  rw[bF.1 p]at m s;rw[if_pos s]at h2;exact(tY.1 h2).1 (ji.2 ⟨m,s⟩)
def Gq(c:Int)(f:Fi):Prop:=0<=f.n/\f.n<=96/\(f.b.length:Int)=bn f.n/\∀b∈f.b,-1<=b/\b<c
theorem IA{c:Int}:∀ {fs:List Fi} {d:List Int},vN c d fs=0↔(∀f∈fs,Gq c f)/\(lS (fs.flatMap Fi.b)).Nodup/\∀b∈fs.flatMap Fi.b,0<=b->¬b∈d
 | [],d=>by simp[vN,lS]
 | f::r,d=>by
  unfold vN
  by_cases E:f.n<0\/96<f.n
  ·rw[if_pos E];refine⟨λh=>(by cases h),λh => ?_⟩;have:=h.1 f jN;unfold Gq at this;omega
  rw[if_neg E]
  by_cases D:(f.b.length:Int)≠bn f.n
  ·rw[if_pos D];exact⟨λh=>(by cases h),λh=>absurd (h.1 f jN).2.2.1 D⟩
  rw[if_neg D,pF,wC]
  by_cases A:lU c d f.b≠0
  ·rw[if_pos A];refine⟨λh=>absurd h A,λh=>absurd (CG.2 ⟨(h.1 f jN).2.2.2,(ze.1 h.2.1).1,λb m=>h.2.2 b (xm _ m)⟩) A⟩
  rw[if_neg A,IA (fs:=r)];have s:=CG.1 (qL.1 A);constructor
  ·intro ⟨h1,h2,h3⟩;refine⟨λx z => ?_,ze.2 ⟨s.2.1,h2,λa K b m e => ?_⟩,λb m u p => ?_⟩
   ·rcases fq.1 z with rfl|z
    ·exact⟨by omega,by omega,qL.1 D,s.1⟩
    ·exact h1 x z
   ·subst e;exact h3 a (ji.1 m).1 (ji.1 m).2 (xB _ (ji.1 K).1)
   rcases ik.1 m with m|m
   ·exact s.2.2 b m u p
   ·exact h3 b m u (xm _ p)
  intro ⟨h1,h2,h3⟩;obtain⟨M,H,G⟩:=ze.1 h2;refine⟨λx z=>h1 x (jh _ z),H,λb m u p => ?_⟩;rcases ik.1 p with p|p
  ·exact h3 b (xB _ m) u p
  ·exact G b (ji.2 ⟨p,u⟩) b (ji.2 ⟨m,u⟩) rfl
theorem iU{s:St}:aQ s=0↔(s.fs.length<=5/\0<=s.count/\s.count<=80)/\(∀f∈s.fs,Gq s.count f)/\(lS (gZ s)).Nodup:=by
 unfold aQ
 by_cases g:5<s.fs.length\/s.count<0\/80<s.count
 ·rw[if_pos g];exact⟨λh=>(by cases h),λh=>by omega⟩
 rw[if_neg g,IA];exact⟨λh=>⟨by omega,h.1,h.2.1⟩,λh=>⟨h.2.1,h.2.2,λb _ _ d=>by cases d⟩⟩
structure Ar where
 fr:Int
 en:Int
 rd:Bool
 wr:Bool
 sh:Bool
 fi:Int
 ba:Int
 deriving DecidableEq
def dM(a:Ar):Int:=if a.fr<0\/a.en<=a.fr\/64<a.en\/a.fi < -1\/5<=a.fi\/a.ba<0 then 3 else if(a.fi<0/\(a.ba≠0\/a.sh=true))\/0<=a.fi/\12-(a.en-a.fr)<a.ba then 7 else 0
def mI(a:Ar):Int:=if 0<=a.fi then a.ba+a.en-a.fr else 0
def eu(a b:Ar):Bool:=a.en==b.fr&&a.rd==b.rd&&a.wr==b.wr&&a.sh==b.sh&&a.fi==b.fi&&b.ba==mI a
def uG(a:Ar):Prop:=(0<=a.ba/\a.ba<=12)/\(0<=a.fr/\a.fr<=64)/\0<=a.en/\a.en<=64
theorem gN{a:Ar}(h:dM a=0):uG a/\a.fr<a.en/\-1<=a.fi/\a.fi<5/\(a.fi<0->a.ba=0/\a.sh=false)/\(0<=a.fi->a.ba<=12-(a.en-a.fr)):=by
 unfold dM at h;split at h
 ·omega
 rename_i u;split at h
 ·omega
 rename_i s;have m:a.fi<0->a.ba=0/\a.sh=false:=λd=>⟨uK λh=>s (.inl ⟨d,.inl h⟩),by
  cases hsh:a.sh
  ·rfl
  ·exact absurd (.inl ⟨d,.inr hsh⟩) s⟩
 have p:0<=a.fi->a.ba<=12-(a.en-a.fr):=λd=>by omega
 unfold uG;refine⟨⟨⟨by omega,?_⟩,by omega,by omega,by omega⟩,by omega,by omega,by omega,m,p⟩
 by_cases d:a.fi<0
 ·have:=(m d).1;omega
 ·have:=p (by omega);omega
def mM(p:Option Ar)(i:Nat):List Ar->Int × Int
 | []=>(0,0)
 | a::r=>if dM a≠0 then(dM a,i)else if(match p with | some q=>decide (a.fr<q.en)||eu q a | none=>false)then(2,i)else mM (some a) (i+1) r
def dY(l:List Ar):Int × Int:=if 16<l.length then(4,0)else mM none 0 l
def wE(l:List Ar)(k:Nat):Option Ar:=if k=0 then none else l[k-1]?
theorem Fe{l:List Ar}(d:k<l.length):wE l (k+1)=some l[k]:=by simp[wE,d]
def BD(p:Option Ar)(a:Ar):Bool:=match p with | some q=>decide (a.fr<q.en)||eu q a | none=>false
theorem pI(p:Option Ar)(i:Nat)(a:Ar)(r:List Ar):mM p i (a::r)=if dM a≠0 then(dM a,(i:Int))else if BD p a then(2,(i:Int))else mM (some a) (i+1) r:=rfl
theorem FW{l:List Ar}(d:k<l.length)(m:dM l[k]=0)(h:BD (wE l k) l[k]=false):mM (wE l k) k (l.drop k)=mM (wE l (k+1)) (k+1) (l.drop (k+1)):=by
 rw[xL d,pI,if_neg (by rw[m];simp),h,Fe d];rfl
theorem GL{l:List Ar}(h:k<l.length)(m:dM l[k]=0)(d:BD (wE l k) l[k]=true):mM (wE l k) k (l.drop k)=(2,(k:Int)):=by
 rw[xL h,pI,if_neg (by rw[m];simp),d];rfl
theorem SL{l:List Ar}(d:k<l.length)(h:dM l[k]≠0):mM (wE l k) k (l.drop k)=(dM l[k],(k:Int)):=by
 rw[xL d,pI,if_pos h]
theorem VU{l:List Ar}{m:Nat}(d:m+1<l.length):BD (wE l (m+1)) l[m+1]=(decide (l[m+1].fr<l[m].en)||eu l[m] l[m+1]):=by
 rw[Fe (show m<l.length by omega)];rfl
def wY(n:Int)(a:Ar):Bool:=decide (a.fr<=n)&&decide (n<a.en)
def fB(l:List Ar)(n:Int):Int:=idx (wY n) l
def jA(b a:Ar):Bool:=decide (a.fr<b.en)&&decide (b.fr<a.en)
def mP(b a:Ar):Bool:=decide (b.fr<a.fr)
def Re(at_ n:Int):Int:=if at_<0\/n<1\/64<=at_\/64-at_<n then 3 else 0
def loA(a:Ar)(f:Int):Int:=if a.fr<f then f else a.fr
def hiA(a:Ar)(t:Int):Int:=if t<a.en then t else a.en
def Mi(a:Ar)(f t:Int):Option Ar:=if hiA a t<=loA a f then none else some { a with fr:=loA a f,en:=hiA a t,ba:=if 0<=a.fi then a.ba+(loA a f-a.fr)else a.ba }
def zAr:Ar:=⟨0,0,false,false,false,0,0⟩
def qf(acc:List Ar)(a:Ar):List Ar:=match acc.getLast? with
 | some q=>if eu q a then acc.set (acc.length-1) { q with en:=a.en }else acc++[a]
 | none=>acc++[a]
def bW(l:List Ar):List Ar:=l.foldl qf []
theorem Dg{l:List Ar}(d:k<l.length):bW (l.take (k+1))=qf (bW (l.take k)) l[k]:=by
 have:l.take (k+1)=l.take k++[l[k]]:=by rw[mK,aM d];rfl
 unfold bW;rw[this,Be];rfl
theorem LQ(l:List Ar):∀k,k<=l.length->(bW (l.take k)).length<=k
 | 0,_=>by simp[bW]
 | k+1,hk=>by
  rw[Dg (show k<l.length by omega)];have:=LQ l k (by omega);unfold qf;split
  ·split<;>simp<;>omega
  ·simp;omega
theorem Nj{l:List Ar}(h:∀a∈l,uG a):∀k,k<=l.length->∀a∈bW (l.take k),uG a
 | 0,_,a,ha=>by simp[bW]at ha
 | k+1,hk,a,ha=>by
  have m:=Nj h k (by omega);have p:=h l[k] (fA _);rw[Dg (show k<l.length by omega)]at ha;unfold qf at ha;split at ha
  ·rename_i q s;have d:=m q (List.mem_of_getLast? s);split at ha
   ·rcases mr ha with ha|rfl
    ·exact m a ha
    ·exact⟨d.1,d.2.1,p.2.2⟩
   rcases ik.1 ha with ha|ha
   ·exact m a ha
   ·rw[bF.1 ha];exact p
  rcases ik.1 ha with ha|ha
  ·exact m a ha
  ·rw[bF.1 ha];exact p
theorem ug{l:List Ar}(h:(dY l).1=0):l.length<=16/\∀a∈l,dM a=0:=by
 unfold dY at h;split at h
 ·exact absurd h (by decide)
 refine⟨by omega,?_⟩;have m:∀(l:List Ar) (p:Option Ar) (i:Nat),(mM p i l).1=0->∀a∈l,dM a=0:=by
  intro l
  induction l with
  | nil=>intro p i _ a d;cases d
  | cons b r ih=>
   intro p i h a d;rw[pI]at h;split at h
   ·rename_i s;exact absurd h s
   rename_i s;split at h
   ·exact absurd (show(2:Int)=0 from h) (by decide)
   rcases fq.1 d with rfl|d
   ·exact uK s
   ·exact ih _ _ h a d
 exact m l none 0 h
def oh(n:Int):Int->List Ar->Int
 | t,[]=>t
 | t,a::r=>if n<=a.fr-t then t else oh n (if t<a.en then a.en else t) r
def uM(l:List Ar)(n:Int):Int:=if n<1\/64-oh n 0 l<n then -1 else oh n 0 l
theorem MV(n t:Int)(a:Ar)(r:List Ar):oh n t (a::r)=if n<=a.fr-t then t else oh n (if t<a.en then a.en else t) r:=rfl
def JH(l:List Ar)(x:Ar):Nat:=match l.findIdx? (mP x)with
 | some k=>k
 | none=>l.length
theorem Yw(l:List Ar)(x:Ar):JH l x<=l.length:=by
 unfold JH;split
 ·rename_i k d;exact vI (rz.1 d).1
 ·exact aC _
def fo(l:List Ar)(x:Ar):List Ar:=l.take (JH l x)++x::l.drop (JH l x)
theorem Bf(l:List Ar)(x:Ar):(fo l x).length=l.length+1:=by
 have:=Yw l x;unfold fo;simp;omega
theorem Wi{l:List Ar}{x y:Ar}(h:y∈fo l x):y=x\/y∈l:=by
 unfold fo at h;rcases ik.1 h with h|h
 ·exact .inr (Bn h)
 rcases fq.1 h with h|h
 ·exact .inl h
 ·exact .inr (List.mem_of_mem_drop h)
def oH(l:List Ar)(x:Ar):Int:=if(dY l).1≠0 then(dY l).1 else if dM x≠0 then dM x else if l.any (jA x)=true then 6 else if 16<(bW (fo l x)).length then 4 else 0
def jl(l:List Ar)(x:Ar):List Ar:=if oH l x≠0 then[]else bW (fo l x)
theorem JF{l:List Ar}{x:Ar}(h:oH l x=e)(d:e≠0):oH l x=e/\jl l x=[]:=by
 refine⟨h,?_⟩;unfold jl;rw[if_pos (by rw[h];exact d)]
def zM(n:Nat):Int:=if 16<n then 4 else 0
def abt(s n:Int)(a:Ar):List Ar:=(Mi a 0 s).toList++(Mi a (s+n) 64).toList
def aaU(l:List Ar)(s n:Int):List Ar:=l.flatMap (abt s n)
def UB(l:List Ar)(s n:Int):Int:=if(dY l).1≠0 then(dY l).1 else if Re s n≠0 then Re s n else zM (aaU l s n).length
def aaB(l:List Ar)(s n:Int):List Ar:=if UB l s n≠0 then[]else aaU l s n
def aaI(rd wr:Bool)(a:Ar):Ar:={ a with rd:=rd,wr:=wr }
def abu(s n:Int)(rd wr:Bool)(a:Ar):List Ar:=((Mi a s (s+n)).map (aaI rd wr)).toList
def abb(s n:Int)(rd wr:Bool)(a:Ar):List Ar:=(Mi a 0 s).toList++abu s n rd wr a++(Mi a (s+n) 64).toList
def aaN(l:List Ar)(s n:Int)(rd wr:Bool):List Ar:=l.flatMap (abb s n rd wr)
def aaO(l:List Ar)(s n:Int):Bool:=(List.range n.toNat).any λk:Nat=>decide (fB l (s+k)<0)
def VM(l:List Ar)(s n:Int)(rd wr:Bool):Int:=if(dY l).1≠0 then(dY l).1 else if Re s n≠0 then Re s n else if aaO l s n=true then 5 else zM (bW (aaN l s n rd wr)).length
def aau(l:List Ar)(s n:Int)(rd wr:Bool):List Ar:=if VM l s n rd wr≠0 then[]else bW (aaN l s n rd wr)
def aa:Ar:=⟨2,8,true,false,false,-1,0⟩
structure Pg where
 rd:Bool
 wr:Bool
 sh:Bool
 fi:Int
 pg:Int
 deriving DecidableEq
def xU(a:Ar)(n:Int):Pg:=⟨a.rd,a.wr,a.sh,a.fi,if 0<=a.fi then a.ba+n-a.fr else 0⟩
def onA:List Ar->Int->Option Pg
 | [],_=>none
 | a::r,n=>if wY n a then some (xU a n)else onA r n
theorem tF{a:Ar}:wY n a=true↔a.fr<=n/\n<a.en:=by unfold wY;simp
theorem kF(a:Ar)(r:List Ar)(n:Int):onA (a::r) n=if wY n a then some (xU a n)else onA r n:=rfl
def srtF:Int->List Ar->Prop
 | _,[]=>True
 | lo,a::r=>dM a=0/\lo<=a.fr/\srtF a.en r
theorem on_low:∀ {l:List Ar} {lo n:Int},srtF lo l->n<lo->onA l n=none
 | [],_,_,_,_=>rfl
 | a::r,lo,n,h,hn=>by have m:=h.2.1;have d:=(gN h.1).2.1;rw[kF,if_neg (by rw[tF];omega)];exact on_low h.2.2 (by omega)
def okF(p:Option Ar):List Ar->Prop
 | []=>True
 | a::r=>dM a=0/\BD p a=false/\okF (some a) r
theorem Lr{q a:Ar}:BD (some q) a=false↔q.en<=a.fr/\eu q a=false:=by
 unfold BD;simp
theorem okF_srt:∀ {l:List Ar} {q:Ar},okF (some q) l->srtF q.en l
 | [],_,_=>trivial
 | a::r,q,h=>⟨h.1,(Lr.1 h.2.1).1,okF_srt h.2.2⟩
theorem FE{l:List Ar}(h:okF none l):srtF 0 l:=by
 match l,h with
 | [],_=>trivial
 | a::r,h=>exact⟨h.1,by have:=(gN h.1).1.2.1.1;exact this,okF_srt h.2.2⟩
theorem wrongAt_iff:∀ {l:List Ar} {p:Option Ar} {i:Nat},(mM p i l).1=0↔okF p l
 | [],_,_=>⟨λ_=>trivial,λ_=>rfl⟩
 | a::r,p,i=>by
  rw[pI]
  by_cases h:dM a=0
  ·rw[if_neg (by rw[h];simp)];cases hb:BD p a
   ·rw[if_neg (by simp),wrongAt_iff];exact⟨λd=>⟨h,hb,d⟩,λd=>d.2.2⟩
   rw[if_pos rfl];refine⟨λd=>absurd (show(2:Int)=0 from d) (by decide),λd => ?_⟩;have m:=d.2.1;rw[hb]at m;cases m
  rw[if_pos h];exact⟨λd=>absurd d h,λd=>absurd d.1 h⟩
theorem qP{l:List Ar}:(dY l).1=0↔l.length<=16/\okF none l:=by
 unfold dY
 by_cases h:16<l.length
 ·rw[if_pos h];exact⟨λd=>absurd (show(4:Int)=0 from d) (by decide),λd=>by omega⟩
 rw[if_neg h,wrongAt_iff];exact⟨λd=>⟨by omega,d⟩,λd=>d.2⟩
theorem CZ{q a:Ar}:eu q a=true↔q.en=a.fr/\q.rd=a.rd/\q.wr=a.wr/\q.sh=a.sh/\q.fi=a.fi/\a.ba=mI q:=by
 unfold eu;simp[and_assoc]
theorem VH{q a:Ar}(h:eu q a=true)(n:Int):xU a n=xU q n:=by
 obtain⟨A,z,u,s,p,m⟩:=CZ.1 h;unfold xU mI at *
 rw[<-z,<-u,<-s,<-p];split
 ·rename_i d;rw[m,if_pos d];congr 1;omega
 ·rfl
def xg(q:Ar):List Ar->List Ar
 | []=>[q]
 | a::r=>if eu q a then xg { q with en:=a.en } r else q::xg a r
theorem Nu(d:List Ar)(q a:Ar):qf (d++[q]) a=if eu q a then d++[{ q with en:=a.en }]else d++[q]++[a]:=by
 unfold qf;rw[List.getLast?_concat];simp only[];split
 ·simp
 ·rfl
theorem tidy_go:∀(r:List Ar) (d:List Ar) (q:Ar),r.foldl qf (d++[q])=d++xg q r
 | [],d,q=>rfl
 | a::r,d,q=>by
  rw[BQ,Nu];unfold xg;split
  ·exact tidy_go r d _
  ·rw[tidy_go r (d++[q]) a,lF];rfl
theorem FI(a:Ar)(r:List Ar):bW (a::r)=xg a r:=by
 unfold bW;rw[BQ];exact tidy_go r [] a
theorem Dt{q a:Ar}(s:dM q=0)(u:dM a=0)(h:eu q a=true):dM { q with en:=a.en }=0:=by
 obtain⟨H,G,E,D,A,d⟩:=CZ.1 h;have m:=gN s;have p:=gN u;unfold uG at m p;unfold dM;rw[if_neg (by simp only[];omega),if_neg];simp only[];rintro(⟨k1,k2⟩|⟨k1,k2⟩)
 ·have:=m.2.2.2.2.1 k1;rcases k2 with k2|k2
  ·exact k2 this.1
  ·rw[this.2]at k2;cases k2
 have z:=p.2.2.2.2.2 (by omega);unfold mI at d;rw[if_pos k1]at d;omega
theorem UK{q a:Ar}{r:List Ar}(d:dM q=0)(p:dM a=0)(h:eu q a=true)(n:Int):onA ({ q with en:=a.en }::r) n=onA (q::a::r) n:=by
 have m:=VH h n;obtain⟨z,_⟩:=CZ.1 h;have u:=(gN d).2.1;have s:=(gN p).2.1;rw[kF,kF,kF];have b:xU { q with en:=a.en } n=xU q n:=rfl
 by_cases c1:wY n q=true
 ·rw[if_pos c1,if_pos (by rw[tF]at c1 ⊢; simp only[];omega),b]
 rw[if_neg c1]
 by_cases c2:wY n a=true
 ·rw[if_pos c2,if_pos (by rw[tF]at c2 ⊢; simp only[];omega),b,m]
 rw[if_neg c2,if_neg];rw[tF]at c1 c2 ⊢;simp only[];omega
theorem tdOn:∀ {r:List Ar} {q:Ar},dM q=0->srtF q.en r->∀n,onA (xg q r) n=onA (q::r) n
 | [],q,_,_,n=>rfl
 | a::r,q,hq,h,n=>by
  unfold xg;split
  ·rename_i d;rw[tdOn (Dt hq h.1 d) (by simpa using h.2.2) n,UK hq h.1 d]
  ·rw[kF,tdOn h.1 h.2.2 n,<-kF]
theorem tdOk:∀ {r:List Ar} {q:Ar} {p:Option Ar},dM q=0->srtF q.en r->BD p q=false->okF p (xg q r)
 | [],q,p,hq,_,hb=>⟨hq,hb,trivial⟩
 | a::r,q,p,hq,h,hb=>by
  unfold xg;split
  ·rename_i d;refine tdOk (Dt hq h.1 d) (by simpa using h.2.2) ?_;cases p with
   | none=>rfl
   | some z=>exact hb
  rename_i d;exact⟨hq,hb,tdOk h.1 h.2.2 (Lr.2 ⟨h.2.1,by simpa using d⟩)⟩
theorem YT{l:List Ar}(h:srtF lo l)(n:Int):onA (bW l) n=onA l n:=by
 match l,h with
 | [],_=>rfl
 | a::r,h=>rw[FI,tdOn h.1 h.2.2]
theorem YB{l:List Ar}(h:srtF lo l):okF none (bW l):=by
 match l,h with
 | [],_=>trivial
 | a::r,h=>rw[FI];exact tdOk h.1 h.2.2 rfl
def OO(x:Ar):List Ar->List Ar
 | []=>[x]
 | a::r=>if x.fr<a.fr then x::a::r else a::OO x r
theorem Ra(x:Ar):∀l:List Ar,fo l x=OO x l
 | []=>rfl
 | a::r=>by
  have d:=Ra x r;unfold fo JH at d ⊢;unfold OO;rw[BZ]
  by_cases h:x.fr<a.fr
  ·rw[if_pos h,if_pos (show mP x a=true from decide_eq_true h)];rfl
  rw[if_neg h,if_neg (show ¬mP x a=true by unfold mP;simpa using h)];cases hq:r.findIdx? (mP x)with
  | none=>rw[hq]at d;simp only[Option.map_none]at *; rw[<-d];simp
  | some k=>rw[hq]at d;simp only[xu]at *; rw[<-d];simp
theorem QN{x:Ar}(m:dM x=0)(n:Int):∀ {l:List Ar} {lo:Int},srtF lo l->(∀a∈l,jA x a=false)->onA (OO x l) n=if wY n x then some (xU x n)else onA l n
 | [],_,_,_=>rfl
 | a::r,lo,h,hm=>by
  unfold OO;split
  ·rfl
  rename_i p;rw[kF,kF,QN m n h.2.2 (λb s=>hm b (jh _ s))]
  by_cases c1:wY n a=true
  ·rw[if_pos c1,if_pos c1];rw[if_neg];rw[tF]at c1 ⊢;have d:=hm a jN;unfold jA at d;have z:=(gN m).2.1;have u:=(gN h.1).2.1;simp only[Ey,decide_eq_false_iff_not]at d;omega
  ·rw[if_neg c1,if_neg c1]
theorem Nz{x:Ar}(m:dM x=0):∀ {l:List Ar} {lo:Int},srtF lo l->lo<=x.fr->(∀a∈l,jA x a=false)->srtF lo (OO x l)
 | [],lo,_,hl,_=>⟨m,hl,trivial⟩
 | a::r,lo,h,hl,hm=>by
  have d:=hm a jN;unfold jA at d;have z:=(gN m).2.1;have u:=(gN h.1).2.1;simp only[Ey,decide_eq_false_iff_not]at d;unfold OO;split
  ·exact⟨m,hl,h.1,by omega,h.2.2⟩
  rename_i p;exact⟨h.1,h.2.1,Nz m h.2.2 (by omega) (λb s=>hm b (jh _ s))⟩
theorem toList_map{α β:Type}(o:Option α)(f:α->β):(o.map f).toList=o.toList.map f:=by cases o<;>rfl
theorem Ba(l:List Ar)(n:Int):(0<=fB l n)↔onA l n≠none:=by
 have h:=tN (wY n) l;have d:l.any (wY n)=true↔onA l n≠none:=by
  induction l with
  | nil=>simp[onA]
  | cons a r ih=>rw[List.any_cons,kF];cases wY n a<;>simp[ih (tN _ _)]
 rw[<-d,<-h,decide_eq_true_eq];exact Aq
def f0:Nat->Option Pg:=λ_=>none
theorem Fg{e:En}(h:iE e=0):qA e=Ol e:=by
 unfold iE at h;unfold qA Ol;split at h
 ·cases h
 rename_i d;rw[qK];simp;omega
theorem Az{h:List En}(s:nQ h=0):∀e∈h,iE e=0:=by
 intro e D;obtain⟨i,A,rfl⟩:=jK.1 D;have E:=ui s
 by_cases m:∀j (z:j<h.length),iE h[j]=0
 ·exact m i A
 exfalso;have p:firstE (h.map iE)≠0:=by
  intro p;apply m;intro j z;have u:∀(l:List Int),firstE l=0->∀x∈l,x=0:=by
   intro l
   induction l with
   | nil=>intro _ x d;cases d
   | cons y r ih=>
    intro h x d
    by_cases e:y=0
    ·simp only[firstE,e,if_true]at h;rcases fq.1 d with rfl|d
     ·exact e
     ·exact ih h x d
    ·simp only[firstE,e,if_false]at h
  exact u _ p _ (fD.2 ⟨h[j],fA z,rfl⟩)
 unfold nQ at s;rw[if_neg (by omega),if_pos p]at s;exact p s
theorem Jg{t:Tb}(p:i<8)(h:nQ t[i]=0):nY (fU t) i=if t[i].length=0 then List.replicate 8 zEn else t[i]:=by
 have d:=ui h;apply qB;intro r;unfold nY fU;rw[jO]
 by_cases m:r<8
 ·rw[if_pos m,pG,iH,xn (by omega)];simp only[xu];rcases d with d|d
  ·rw[if_pos d,uA,if_pos m,Iw p m d]
  ·rw[if_neg (by omega),aM (by omega),RQ p m d (aM (by omega))]
 rw[if_neg m,dP];split
 ·simp;omega
 ·omega
theorem JI{h:List En}(p:∀e∈h,iE e=0):h.any Ol=h.any qA:=by
 rw[qK];simp only[kW];constructor
 ·rintro⟨e,d,m⟩;exact⟨e,d,by rw[Fg (p e d)];exact m⟩
 ·rintro⟨e,d,m⟩;exact⟨e,d,by rw[<-Fg (p e d)];exact m⟩
theorem Uu{h:List En}(m:nQ h=0)(u:h.length≠0):h.any qA=true:=by
 have d:=CY (ui m) (λi s=>Az m _ (fA s));rw[m]at d
 by_cases p:h.any (λe=>decide (e.k≠0))=false
 ·rw[if_pos ⟨by omega,p⟩]at d;cases d
 ·simpa[qA]using p
theorem Du{t:Tb}(m:i<8)(h:nQ t[i]=0):vS (fU t) i=t[i]:=by
 unfold vS;rw[Jg m h]
 by_cases d:t[i].length=0
 ·rw[if_pos d];have:t[i]=[]:=kV d;rw[this];decide
 rw[if_neg d,JI (Az h),Uu h d];rfl
theorem FD{t:Tb}{e:En}(h:setE t n e=0):setT t n e=uy ((fU t).set n.toNat e):=by
 have A:eU t=0:=by
  unfold setE at h
  by_cases D:eU t=0
  ·exact D
  ·rw[if_pos D]at h;exact h
 have u:0<=n/\n<64:=by
  unfold setE at h;rw[if_neg (by rw[A];simp)]at h
  by_cases u:n<0\/64<=n
  ·rw[if_pos u]at h;cases h
  ·omega
 have M:iE e=0:=by unfold setE at h;rwa [if_neg (by rw[A];simp),if_neg (by omega)]at h
 obtain⟨q,r,E,K,a,_,_⟩:=zi u;have N:n.toNat=8*q+r:=by omega
 rw[Qv h E K a,N];apply EA;intro i p;simp only[uy,mH];have z:=oP A i p
 by_cases H:i=q
 ·subst H;rw[Vector.getElem_set_self];have s:nY ((fU t).set (8*i+r) e) i=(nY (fU t) i).set r e:=by
   apply qB;intro k;have b:(fU t).length=64:=by simp[fU]
   by_cases d:k<8
   ·unfold nY;rw[jO,if_pos d,pG]
    by_cases G:k=r
    ·subst G;rw[oD (by omega),oD (by simp;omega)]
    ·rw[uz (by omega),uz (λh=>G h.symm),jO,if_pos d,pG]
   ·rw[dP (by simp[nY];omega),dP (by simp[nY];omega)]
  unfold vS;rw[s,Jg p z];unfold setH Zq;rw[JI];intro x m;rcases mr m with m|rfl
  ·split at m
   ·rw[(vD.1 m).2];rfl
   ·exact Az z x m
  ·exact M
 rw[KV E p (λh=>H h.symm)];have s:nY ((fU t).set (8*q+r) e) i=nY (fU t) i:=by
  apply qB;intro k;unfold nY;rw[jO,jO]
  by_cases d:k<8
  ·rw[if_pos d,if_pos d,pG,pG,uz (by omega)]
  ·rw[if_neg d,if_neg d]
 have:vS ((fU t).set (8*q+r) e) i=vS (fU t) i:=by unfold vS;rw[s]
 rw[this,Du p z]
theorem Tx{m:List Int}(d:l.length=m.length)(h:∀i (s:i<l.length),l[i]=m[i]'(by omega)):(l==m)=true:=by
 rw[beq_iff_eq];exact sI d λi p u=>h i p
theorem Te{m:List Int}(k:Nat)(p:k<l.length)(d:k<m.length)(h:l[k]≠m[k]):(l==m)=false:=by
 rw[beq_eq_false_iff_ne];rintro rfl;exact h rfl
theorem Bu(t:Tb)(k:Nat)(h:k<64):(fU t)[k]?=some (dR t (k:Int)):=by
 unfold fU;simp[h]
theorem oG(t:Tb):(fU t).length=64:=by simp[fU]
theorem yh{t:Tb}(h:eU t=0)(n:Int):iE (dR t n)=0:=by
 by_cases p:0<=n/\n<64
 ·obtain⟨q,r,d,m,rfl,_,_⟩:=zi p;rw[Bz d m];split
  ·rename_i s;rw[bA,aM (by omega)];exact Az (oP h q d) _ (fA _)
  ·rfl
 ·rw[uP];rfl
theorem Wl{e:En}(h:iE e=0)(u:Ol e=false):e=zEn:=by
 have s:=Fg h;rw[u]at s;have m:e.k=0:=by simpa[qA]using s
 unfold iE at h;obtain⟨k,n,w⟩:=e;simp only at m;subst m;simp at h
 by_cases p:n<0\/60<=n
 ·rw[if_pos p]at h;cases h
 rw[if_neg p]at h
 by_cases d:¬n=0\/w=true
 ·rw[if_pos d]at h;cases h
 simp only[not_or,qL,Bool.not_eq_true]at d;obtain⟨rfl,rfl⟩:=d;rfl
theorem HY{l:List En}{x:En}(h:x∈nY l i):x∈l:=List.mem_of_mem_drop (Bn h)
theorem JV{l:List En}(h:∀x∈l,iE x=0)(s:l.length=64)(z:i<8):nQ (vS l i)=0:=by
 unfold vS
 by_cases d:(nY l i).any Ol=true
 ·rw[if_pos d];have a:(nY l i).length=8:=Mc s z (by omega);rw[CY (.inr a) (λj u=>h _ (HY (fA u))),if_neg];rintro⟨_,D⟩;have m:=JI (h:=nY l i) (λx p=>h x (HY p));rw[d]at m;have A:(nY l i).any qA=false:=D;rw[A]at m;cases m
 ·rw[if_neg d];rfl
theorem MP{l:List En}(h:∀x∈l,iE x=0)(d:l.length=64):eU (uy l)=0:=
 DJ λi m=>by simp only[uy,mH];exact JV h d m
theorem FO{l:List En}(h:∀x∈l,iE x=0)(u:l.length=64){n:Nat}(z:n<64):dR (uy l) (n:Int)=l[n]'(by omega):=by
 obtain⟨q,r,p,s,d,_,_⟩:=zi (n:=(n:Int)) (by omega);have c : n=8*q+r:=by omega
 subst c;rw[Bz p s];simp only[uy,mH];unfold vS;have b:(nY l q).length=8:=Mc u p (by omega);have a:(nY l q)[r]'(by omega)=l[8*q+r]'(by omega):=by simp[nY]
 by_cases m:(nY l q).any Ol=true
 ·simp only[if_pos m,if_pos b];rw[bA,aM (by omega),<-a];rfl
 simp only[if_neg m];rw[if_neg (by decide),<-a];symm;refine Wl (h _ (HY (fA _))) ?_;simp only[kW,not_exists,not_and,Bool.not_eq_true]at m;exact m _ (fA _)
theorem Hd{t:Tb}(h:eU t=0):uy (fU t)=t:=by
 apply EA;intro i d;simp only[uy,mH];exact Du d (oP h i d)
theorem OU{l:List En}(h:∀x∈l,iE x=0)(d:l.length=64):fU (uy l)=l:=by
 apply sI
 ·rw[oG,d]
 intro i m p;have:=Bu (uy l) i (by omega);rw[FO h d (by omega),aM m]at this;exact aU this
theorem UM{t:Tb}(h:eU t=0):∀x∈fU t,iE x=0:=by
 intro x d;obtain⟨i,m,rfl⟩:=fD.1 d;exact yh h _
theorem xC{t:Tb}{e:En}(h:setE t n e=0):eU t=0/\(0<=n/\n<64)/\iE e=0:=by
 unfold setE at h
 by_cases d:eU t=0
 ·rw[if_neg (by rw[d];simp)]at h
  by_cases m:n<0\/64<=n
  ·rw[if_pos m]at h;cases h
  rw[if_neg m]at h;exact⟨d,by omega,h⟩
 ·rw[if_pos d]at h;exact absurd h d
theorem ES{t:Tb}{e:En}(h:eU t=0)(m:0<=n/\n<64)(d:iE e=0):setE t n e=0:=by
 unfold setE;rw[if_neg (by rw[h];simp),if_neg (by omega),d]
theorem JN{t:Tb}{n:Nat}{e:En}(m:eU t=0)(h:iE e=0):∀x∈(fU t).set n e,iE x=0:=by
 intro x d;rcases mr d with d|rfl
 ·exact UM m x d
 ·exact h
theorem uJ{t:Tb}{e:En}(h:setE t n e=0):eU (setT t n e)=0:=by
 obtain⟨m,p,d⟩:=xC h;rw[FD h];exact MP (JN m d) (by rw[bV,oG])
theorem Bi{t:Tb}{e:En}(h:setE t n e=0)(k:Int):dR (setT t n e) k=if k=n then e else dR t k:=by
 obtain⟨s,u,p⟩:=xC h;rw[FD h]
 by_cases m:0<=k/\k<64
 ·obtain⟨j,rfl⟩:=lM m.1;rw[FO (JN s p) (by rw[bV,oG]) (by omega)];rw[Er]
  by_cases d:(j:Int)=n
  ·rw[if_pos (by omega),if_pos d]
  rw[if_neg (by omega),if_neg d];have:=Bu t j (by omega);rw[aM (by rw[oG];omega)]at this;exact aU this
 ·rw[if_neg (by omega),uP,uP]
theorem Xb(t:Tb):∀n∈aV t,0<=n/\n<64:=by
 intro n d;unfold aV kC at d;obtain⟨m,h,rfl⟩:=fD.1 d;have:=dx.1 (uH.1 h).1;omega
theorem AB{t:Tb}(h:eU t=0):CU t:=λk d=>by
 have:=ui (oP h k d);omega
theorem zTb_right:eU zTb=0:=by decide
theorem Kz{m:Mem}{f:Fr}(d:bT m=0)(s:dn f=0):bT ⟨m.fs.set k f,m.hand⟩=0:=by
 obtain⟨D,A,z,u⟩:=(eF m).1 d;rw[eF];simp only[bV];refine⟨D,λg p => ?_,z,u⟩;rcases mr p with h|rfl
 ·exact A g h
 ·exact s
theorem EY(f:Fr):dn f=0\/dn f=3\/dn f=7:=by
 unfold dn;split
 ·exact .inr (.inl rfl)
 split
 ·exact .inr (.inr rfl)
 ·exact .inl rfl
theorem firstEf_mem:∀l:List Fr,firstEf l=0\/firstEf l=3\/firstEf l=7
 | [] => .inl rfl
 | f::r=>by
  unfold firstEf;split
  ·exact EY f
  ·exact firstEf_mem r
theorem PO(m:Mem):bT m=0\/bT m=3\/bT m=4\/bT m=7:=by
 unfold bT;have:=firstEf_mem m.fs;split
 ·omega
 split
 ·omega
 ·split<;>omega
theorem Tk{l:List Fr}(h:xP l=some k):∃d:k<l.length,l[k].r=0:=by
 unfold xP at h;rw[rz]at h;obtain⟨d,m,_⟩:=h;exact⟨d,by simpa using m⟩
theorem WU{l:List Fr}(h:xP l=none):fO l=0:=by
 unfold xP at h;rw[zh]at h;unfold fO;rw[List.length_eq_zero_iff,List.filter_eq_nil_iff];exactλf d=>by simpa using h f d
theorem RD{m:Mem}{p:Page}(h:iy m p file index=10):fO m.fs=0:=by
 unfold iy at h;have s:=PO m;have d:=EY (bL p file index);split at h
 ·omega
 split at h
 ·omega
 split at h
 ·exact WU ‹_›
 ·cases h
theorem XE{m:Mem}{p:Page}(h:iy m p file index=0):bT m=0/\dn (bL p file index)=0/\∃k,∃d:k<m.fs.length,m.fs[k].r=0/\iG m p file index=k/\fG m p file index=⟨m.fs.set k (bL p file index),m.hand⟩:=by
 have u:=h;unfold iy at h;split at h
 ·exact absurd h ‹_›
 rename_i E;split at h
 ·exact absurd h ‹_›
 rename_i D;split at h
 ·cases h
 rename_i A;cases hf:xP m.fs with
 | none=>exact absurd hf A
 | some k=>
  obtain⟨d,z⟩:=Tk hf;have s:iG m p file index=k:=by unfold iG;rw[if_pos u,hf];rfl
  exact⟨by omega,by omega,k,d,z,s,by unfold fG;rw[if_pos u,s]⟩
theorem Rc{f:Fr}(h:dn f=0)(m:f.r=0):f=frZ:=by
 obtain⟨⟨_,_,M,_,_,_⟩,K,H⟩:=(dV f).1 h;obtain⟨G,E,D,A⟩:=K m;have z:=H D;have s:f.f = -1:=by omega
 obtain⟨p,r,u,d,N,i⟩:=f;simp only at *
 subst m G E A z s;rfl
theorem FN(h:dZ l=0):∀x∈l,zG x=false:=by
 unfold dZ at h;split at h
 ·omega
 split at h
 ·omega
 rename_i m;intro x d;have:=xK.1 (by simpa using m) x d;simpa using this
theorem IZ(m:l.length<=60)(h:∀x∈l,zG x=false):dZ l=0:=by
 unfold dZ;rw[if_neg (by omega),if_neg];simp only[kW,not_exists,not_and];intro x d;simp[h x d]
theorem Gy(k:Nat)(x:Int)(h:dZ l=0)(s:0<=x)(p:x<=1000):dZ (l.set k x)=0:=by
 refine IZ (by rw[bV];exact lK h) λy d => ?_;rcases mr d with m|rfl
 ·exact FN h _ m
 ·simp[zG];omega
theorem IV{k:Int}{l:List (Int × Page)}{x:Int × Page}(h:x∈nI k l):x∈l/\x.1≠k:=by
 unfold nI at h;rw[uH]at h;exact⟨h.1,by simpa using h.2⟩
theorem Aa{d:qo}{k:Int}(h:aI d k=0):bZ (pQ d k)=0:=by
 obtain⟨p,D,A⟩:=fH.1 h;obtain⟨z,u,s⟩:=(jg d).1 p;rw[jg];simp only[pQ,bV];exact⟨z,aX (Vs _ _) u,λx m=>s x (IV m).1⟩
theorem Yl{d:qo}{k:Int}(h:aI d k=0)(o:Int):aI (pQ d k) o=aI d o:=by
 unfold aI;rw[Aa h,(fH.1 h).1];simp only[pQ,bV]
theorem Ae{k o:Int}(h:o≠k):∀(q:List (Int × Page)) (p:Page),over o p (nI k q)=over o p q
 | [],_=>rfl
 | x::r,p=>by
  unfold nI;rw[Cy,zt]
  by_cases d:x.1=k
  ·have m:¬x.1=o:=by rw[d];exactλe=>h e.symm
   simp only[d,beq_self_eq_true,Em,oz,if_false];rw[if_neg (by rw[<-d];exact m)];exact Ae h r p
  have:(!(x.1==k))=true:=by simpa using d
  rw[if_pos this,Cy];exact Ae h r _
theorem Tz{d:qo}{k:Int}(h:aI d k=0){o:Int}(p:¬o=k):dN (pQ d k) o=dN d o:=by
 unfold dN;rw[Yl h]
 by_cases m:aI d o=0
 ·rw[if_pos m,if_pos m];obtain⟨_,z,u⟩:=fH.1 m;obtain⟨_,s,k1⟩:=fH.1 h;simp only[pQ];rw[Ae p,bA,bA,uz (by omega)]
 ·rw[if_neg m,if_neg m]
theorem Dj{α:Type}{l:List α}{x:α}(h:l[i]?=some x)(y:α):l=l.take i++x::l.drop (i+1)/\l.set i y=l.take i++y::l.drop (i+1):=by
 obtain⟨d,rfl⟩:=dw.1 h;refine⟨?_,?_⟩
 ·rw[List.getElem_cons_drop,tZ]
 ·rw[List.set_eq_take_append_cons_drop,if_pos d]
theorem Xg{x:Int}(h:x<0)(l:List Int):lS (x::l)=lS l:=by unfold lS;rw[zt,if_neg (by simp;omega)]
theorem Le{x:Int}(h:0<=x)(l:List Int):lS (x::l)=x::lS l:=by unfold lS;rw[zt,if_pos (by simpa using h)]
theorem LG{s:St}{f:Fi}(u:s.fs[F]?=some f){v:Int}(m:f.b[I]?=some v)(p:v<0){X:Int}(z:0<=X)(n c:Int) :
  (lS (gZ ⟨s.fs.set F ⟨n,f.b.set I X⟩,c⟩)).Perm (X::lS (gZ s)):=by
 have h:=Dj u ⟨n,f.b.set I X⟩;have d:=Dj m X;unfold gZ;show(lS ((s.fs.set F ⟨n,f.b.set I X⟩).flatMap Fi.b)).Perm (X::lS (s.fs.flatMap Fi.b));rw[h.2]
 conv=>rhs;rw[h.1]
 simp only[iq,pF,wC];rw[d.2]
 conv=>rhs;rw[show f.b=f.b.take I++v::f.b.drop (I+1)from d.1]
 simp only[wC,Xg p,Le z];refine List.Perm.trans ?_ List.perm_middle;refine List.Perm.append_left _ ?_;rw[lF,lF];exact List.perm_middle
theorem Jc{s:St}(h:0<=fT s):fT s<s.count/\kL s (fT s)=false:=by
 unfold fT at h ⊢;cases hf:(List.range s.count.toNat).find? (λb:Nat => !kL s b)with
 | none=>rw[hf]at h;simp at h
 | some b=>
  have m:=dx.1 (sZ hf);have d:=vM hf;simp only;refine⟨by omega,by simpa using d⟩
theorem PG{s:St}(h:fT s<0)(b:Nat)(d:(b:Int)<s.count):kL s b=true:=by
 unfold fT at h;cases hf:(List.range s.count.toNat).find? (λb:Nat => !kL s b)with
 | none=>
  have:=sG.1 hf b (dx.2 (by omega));simpa using this
 | some c=>
  rw[hf]at h;simp only at h;omega
theorem Dr{s:St}{k i:Int}(h:dF s k i=0):aQ s=0/\∃(F I:Nat) (f:Fi) (v:Int),k=F/\i=I/\s.fs[F]?=some f/\f.b[I]?=some v/\az s k=f/\aZ s k i=v /\
  ((0<=v/\eH s k i=s/\eY s k i=v)\/(v<0/\0<=fT s/\eY s k i=fT s/\eH s k i=⟨s.fs.set F ⟨f.n,f.b.set I (fT s)⟩,s.count⟩)):=by
 have d:=h;unfold dF at d
 by_cases p:aQ s≠0
 ·rw[if_pos p]at d; exact absurd d p
 rw[if_neg p]at d
 by_cases E:k<0\/(s.fs.length:Int)<=k
 ·rw[if_pos E]at d; cases d
 rw[if_neg E]at d
 by_cases u:i<0\/((az s k).b.length:Int)<=i
 ·rw[if_pos u]at d; cases d
 rw[if_neg u]at d
 by_cases D:aZ s k i<0/\fT s<0
 ·rw[if_pos D]at d; cases d
 obtain⟨F,rfl⟩:=lM (show 0<=k by omega);obtain⟨I,rfl⟩:=lM (show 0<=i by omega);have A:F<s.fs.length:=by omega
 have a:az s F=s.fs[F]:=by unfold az;rw[if_pos (by omega),bu,bA,aM A];rfl
 rw[a]at u;have z:I<s.fs[F].b.length:=by omega
 have c:aZ s F I=s.fs[F].b[I]:=by unfold aZ;rw[a,bu,bA,aM z];rfl
 refine⟨qL.1 p,F,I,s.fs[F],s.fs[F].b[I],rfl,rfl,aM A,aM z,a,c,?_⟩;have G:eH s F I=if aZ s F I<0 then nW s F ⟨(az s F).n,(az s F).b.set ((I:Int)).toNat (fT s)⟩else s:=by unfold eH;rw[if_neg (by rw[h];simp)]
 have H:eY s F I=if aZ s F I<0 then fT s else aZ s F I:=by unfold eY;rw[if_neg (by rw[h];simp)]
 rw[G,H,c];rw[c]at D
 by_cases m:s.fs[F].b[I]<0
 ·refine .inr ⟨m,by omega,if_pos m,?_⟩;rw[if_pos m,a,bu];unfold nW;rw[bu]
 ·exact .inl ⟨by omega,if_neg m,if_neg m⟩
theorem QL{s:St}{x:Int}(h:kL s x=false):¬x∈gZ s:=by
 unfold kL at h;simpa using h
theorem Sl{s:St}{f:Fi}{v:Int}(h:aQ s=0)(p:s.fs[F]?=some f)(m:f.b[I]?=some v)(A:0<=v):dF s F I=0/\eY s F I=v/\eH s F I=s:=by
 have z:=(dw.1 p).1;have u:=(dw.1 m).1;have c:az s F=f:=by unfold az;rw[if_pos (by omega),bu,bA,p];rfl
 have a:aZ s F I=v:=by unfold aZ;rw[c,bu,bA,m];rfl
 have d:dF s F I=0:=by unfold dF;rw[if_neg (by rw[h];simp),if_neg (by omega),c,if_neg (by omega),a,if_neg (by omega)]
 refine⟨d,?_,?_⟩
 ·unfold eY;rw[if_neg (by rw[d];simp),a,if_neg (by omega)]
 ·unfold eH;rw[if_neg (by rw[d];simp),a,if_neg (by omega)]
theorem DX{s:St}(h:aQ s=0){f:Fi}{v:Int}(p:s.fs[F]?=some f)(z:f.b[I]?=some v)(D:v<0){X:Int}(H:0<=X)(G:X<s.count)(A:kL s X=false) :
  aQ ⟨s.fs.set F ⟨f.n,f.b.set I X⟩,s.count⟩=0:=by
 obtain⟨M,u,K⟩:=iU.1 h;have a:=u f (dB p);refine iU.2 ⟨by simpa using M,λg d => ?_,?_⟩
 ·rcases mr d with d|rfl
  ·exact u g d
  refine⟨a.1,a.2.1,by simpa using a.2.2.1,λb m => ?_⟩;rcases mr m with m|rfl
  ·exact a.2.2.2 b m
  show -1<=b/\b<s.count;omega
 ·exact(LG p z D H f.n s.count).nodup_iff.2 (tY.2 ⟨λE=>QL A (ji.1 E).1,K⟩)
theorem Lu{s:St}{k i:Int}(h:dF s k i=0):aQ (eH s k i)=0/\dF (eH s k i) k i=0/\eY (eH s k i) k i=eY s k i/\eH (eH s k i) k i=eH s k i /\
  ((0<=aZ s k i/\eH s k i=s)\/(aZ s k i<0/\kL s (eY s k i)=false/\uS (eH s k i)=uS s-1)):=by
 obtain⟨E,F,I,f,v,rfl,rfl,A,u,e,c,M⟩:=Dr h;rcases M with⟨m,p,H⟩|⟨z,m,H,p⟩
 ·rw[p];exact⟨E,h,rfl,p,.inl ⟨by rw[c];exact m,rfl⟩⟩
 obtain⟨d,G⟩:=Jc m;have a:=DX E A u z m d G;have O:=(dw.1 A).1;have N:=(dw.1 u).1;have D:=Sl (F:=F) (I:=I) (f:=⟨f.n,f.b.set I (fT s)⟩) (v:=fT s) a (oD O) (oD N) m;rw[p,H];refine⟨a,D.1,D.2.1,D.2.2,.inr ⟨by rw[c];exact z,G,?_⟩⟩;have K:=(LG A u z m f.n s.count).length_eq;unfold uS;show s.count-((lS _).length:Int)=s.count-((lS _).length:Int)-1;rw[K,ou];omega
theorem RY(l:List Int):YD l=(lS l).length:=rfl
theorem all_once:∀(c:Nat) (l:List Int),l.Nodup->(∀x∈l,0<=x/\x<(c:Int))->(∀b:Nat,b<c->(b:Int)∈l)->l.length=c
 | 0,l,_,h,_=>by
  match l with
  | []=>rfl
  | x::r=>have:=h x jN;omega
 | c+1,l,hn,h,ha=>by
  have p:=ha c (by omega);have u:=List.length_erase_of_mem p;have m:=List.length_pos_of_mem p;have:=all_once c (l.erase (c:Int)) (hn.erase _) (λx d=>by
   have s:=h x (List.mem_of_mem_erase d);have A:x≠(c:Int):=λe=>by subst e;exact hn.not_mem_erase d
   omega) (λb z=>by
   have s:=ha b (by omega);exact(List.mem_erase_of_ne (by omega)).2 s)
  omega
theorem Pi{s:St}(h:aQ s=0)(m:fT s<0):uS s=0:=by
 obtain⟨A,u,p⟩:=iU.1 h;have:=all_once s.count.toNat (lS (gZ s)) p (λx d=>by
  obtain⟨d,D⟩:=ji.1 d;unfold gZ at d;obtain⟨f,c,a⟩:=jS.1 d;have:=(u f c).2.2.2 x a;omega) (λb z=>by
  have:=PG m b (by omega);unfold kL at this;exact ji.2 ⟨by simpa using this,by omega⟩)
 unfold uS;rw[RY,this];omega
theorem Mh{l:List Ar}{x:Ar}(h:oH l x=0):(l.length<=16/\okF none l)/\dM x=0/\(∀a∈l,jA x a=false)/\(bW (fo l x)).length<=16/\jl l x=bW (fo l x):=by
 have s:=h;unfold oH at h
 by_cases d:(dY l).1=0
 ·rw[if_neg (by omega)]at h
  by_cases m:dM x=0
  ·rw[if_neg (by omega)]at h;cases hm:l.any (jA x)
   ·rw[hm,if_neg (by simp)]at h;refine⟨qP.1 d,m,λa p => ?_,?_,?_⟩
    ·have:=xK.1 hm a p;simpa using this
    ·split at h
     ·omega
     ·omega
    ·unfold jl;rw[if_neg (by omega)]
   ·rw[hm,if_pos rfl]at h;omega
  ·rw[if_pos m]at h;exact absurd h m
 ·rw[if_pos d]at h;exact absurd h d
theorem JB(h:∀x∈l,x<0):lS l=[]:=by
 unfold lS;rw[List.filter_eq_nil_iff];intro x d;have:=h x d;simp;omega
theorem FU{s:St}{k:Int}(h:jE s k n=0):aQ s=0/\∃(F:Nat) (f:Fi),k=F/\s.fs[F]?=some f/\0<=n/\n<=96/\jU s k n=⟨s.fs.set F ⟨n,lG f.b (bn n).toNat⟩,s.count⟩:=by
 have z:=h;unfold jE at h;split at h
 ·exact absurd h (by assumption)
 rename_i m;split at h
 ·omega
 rename_i u;split at h
 ·omega
 rename_i p;obtain⟨F,rfl⟩:∃F:Nat,k=F:=⟨k.toNat,by omega⟩;have d:F<s.fs.length:=by omega
 refine⟨by omega,F,s.fs[F],rfl,aM d,by omega,by omega,?_⟩;unfold jU;rw[if_neg (by omega)];unfold nW az;rw[if_pos (by omega)];simp[aM d]
theorem GZ{s:St}{k:Int}(h:jE s k n=0):aQ (jU s k n)=0:=by
 obtain⟨E,F,f,rfl,z,H,c,G⟩:=FU h;obtain⟨p,A,m⟩:=iU.1 E;rw[G];have N:=Di n;have a:=A f (dB z);apply iU.2;obtain⟨M,K⟩:=Dj z ⟨n,lG f.b (bn n).toNat⟩;refine⟨⟨by simpa using p.1,p.2.1,p.2.2⟩,λg u => ?_,?_⟩
 ·rcases mr u with u|rfl
  ·exact A g u
  refine⟨H,c,by simp only[Dz];omega,λb d => ?_⟩;rcases ik.1 d with d|d
  ·exact a.2.2.2 b (Bn d)
  have:=(vD.1 d).2;have:=p.2.1;show -1<=b/\b<s.count;omega
 unfold gZ at m ⊢;rw[show(⟨s.fs.set F ⟨n,lG f.b (bn n).toNat⟩,s.count⟩:St).fs=s.fs.set F ⟨n,lG f.b (bn n).toNat⟩from rfl,K];rw[M]at m;simp only[iq,pF,wC]at m ⊢;refine m.sublist ?_;refine List.Sublist.append (List.Sublist.refl _) (List.Sublist.append ?_ (List.Sublist.refl _));show(lS (lG f.b (bn n).toNat)).Sublist (lS f.b);unfold lG;rw[wC,JB (l:=List.replicate _ (-1)) (λx D=>by have:=(vD.1 D).2;omega),pU];exact(List.take_sublist _ _).filter _
structure Cc where
 f:Int
 i:Int
 k:Int
 deriving DecidableEq
def zF(c:Cc):Array Value:=#[.int .i64 c.f,.int .i64 c.i,.int .i64 c.k]
def kM(c:Cc):List Value:=(zF c).toList
theorem kD(c:Cc):(kM c).length=3:=rfl
structure Sp where
 lv:Bool
 ar:List Ar
 tb:Tb
 deriving DecidableEq
structure Ma where
 m:Mem
 sl:List Int
 sw:qo
 dk:qo
 st:St
 ca:List Cc
 sp:List Sp
def zCc:Cc:=⟨0,0,0⟩
def zSp:Sp:=⟨false,[],zTb⟩
def zMa:Ma:=⟨noM,[],⟨[],[]⟩,⟨[],[]⟩,zSt,[],[]⟩
def cnt(l:List Int)(k:Int):Nat:=l.countP λx=>decide (x=k)
def trimB(m:Ma):Bool:=
 (List.range m.dk.blocks.length).all (λb:Nat=>decide ((b:Int)∈gZ m.st)||decide (m.dk.blocks.getD b zPg=zPg))&&m.dk.queue.all λq=>decide (q.1∈gZ m.st)
def kH(s:Sp):Int:=if(dY s.ar).1≠0 then(dY s.ar).1 else if eU s.tb≠0 then eU s.tb else if s.lv=false/\0<s.ar.length+(aV s.tb).length then 7 else 0
def iO(m:Ma):Int:=
 if bT m.m≠0 then bT m.m else if dZ m.sl≠0 then dZ m.sl else if bZ m.sw≠0 then bZ m.sw else if bZ m.dk≠0 then bZ m.dk else if aQ m.st≠0 then aQ m.st
 else if m.sw.blocks.length≠m.sl.length\/(m.dk.blocks.length:Int)≠m.st.count\/trimB m=false then 7
 else if 4<m.sp.length then 4 else firstE (m.sp.map kH)
def gQ(m:Ma)(k:Int):Fr:=m.m.fs.getD k.toNat fr0
def vU(m:Ma)(p:Option Cc)(c:Cc):Int:=
 if c.f<0\/(m.st.fs.length:Int)<=c.f\/c.i<0\/((az m.st c.f).b.length:Int)<=c.i\/c.k<0\/(m.m.fs.length:Int)<=c.k then 3
 else if(gQ m c.k).r<1\/(gQ m c.k).f≠c.f\/(gQ m c.k).i≠c.i then 7
 else match p with
  | none=>0
  | some q=>if c.f<q.f\/q.f=c.f/\c.i<=q.i then 2 else 0
def zK(l:List Cc)(k:Nat):Option Cc:=if k=0 then none else l[k-1]?
def iL(m:Ma):Int:=firstE ((List.range m.ca.length).map λk=>vU m (zK m.ca k) (m.ca.getD k zCc))
def dm(m:Ma)(s:Sp)(n:Int):Int:=
 if fB s.ar n<0 then 5 else
 let a:=s.ar.getD (fB s.ar n).toNat zAr;let e:=dR s.tb n
 if e.k=2 then(if(m.sl.length:Int)<=e.n\/a.sh=true then 7 else 0)
 else if(m.m.fs.length:Int)<=e.n then 3 else
 let f:=gQ m e.n;let of:=decide (0<=a.fi)&&decide (f.f=a.fi)&&decide (f.i=a.ba+n-a.fr)
 if 0<=f.f/\of=false\/a.sh=true/\of=false\/a.sh=false/\of=true/\e.w=true\/e.w=true/\a.wr=false then 7
 else if f.f<0/\e.w=true/\1<f.r then 7 else 0
def nX(m:Ma):Int:=firstE (m.sp.flatMap λs=>(aV s.tb).map (dm m s))
def pz(t:Tb)(l:List Int):List Int:=(l.filter λn=>decide ((dR t n).k=1)).map λn=>(dR t n).n
def swapT(t:Tb)(l:List Int):List Int:=(l.filter λn => !decide ((dR t n).k=1)).map λn=>(dR t n).n
def uV(m:Ma):List Int:=m.ca.map Cc.k++m.sp.flatMap λs=>pz s.tb (aV s.tb)
def rW(m:Ma):List Int:=m.sp.flatMap λs=>swapT s.tb (aV s.tb)
def lL(n:Nat)(l:List Int):List Int:=(List.range n).map λi:Nat=>(cnt l i:Int)
def countB(m:Ma):Bool:=
 (List.range m.m.fs.length).all (λi:Nat=>decide ((gQ m i).r=cnt (uV m) i)&&(decide ((gQ m i).f<0)||m.ca.any λc=>decide (c.k=i)))&&decide (m.sl=lL m.sl.length (rW m))
def jW(m:Ma):Int:=if iO m≠0 then iO m else if iL m≠0 then iL m else if nX m≠0 then nX m else if countB m=true then 0 else 7
def aN(m:Ma)(f i:Int):Page:=
 match m.ca.find? λc=>decide (c.f=f)&&decide (c.i=i)with
 | some c=>(gQ m c.k).p
 | none=>if 0<=aZ m.st f i then aO (dN m.dk (aZ m.st f i)) ((az m.st f).n-i*8)else zPg
def qC(s:St)(f i:Int):Bool:=decide (bn (az s f).n<=i)
structure Kp where
 m:Ma
 e:Int
def iD(k e:Int):Int:=if k=0 then e else k
def bQ(m:Ma)(p:Nat):Sp:=m.sp.getD p zSp
def setTb(m:Ma)(p:Nat)(t:Tb):Ma:={ m with sp:=m.sp.set p { bQ m p with tb:=t } }
def dD(k:Kp)(p:Nat)(n:Int)(x:En):Kp:=
 if setE (bQ k.m p).tb n x=0 then⟨setTb k.m p (setT (bQ k.m p).tb n x),k.e⟩else⟨k.m,iD k.e (setE (bQ k.m p).tb n x)⟩
def dU(k:Kp)(f n:Int):Kp:=
 if oQ k.m.m f n=0 then⟨{ k.m with m:=nK k.m.m f n },k.e⟩else⟨k.m,iD k.e (oQ k.m.m f n)⟩
def oI(k:Kp)(s n:Int):Kp:=
 if bK k.m.sl s n=0 then⟨{ k.m with sl:=bq k.m.sl s n },k.e⟩else⟨k.m,iD k.e (bK k.m.sl s n)⟩
def jM(k:Kp)(p:Nat)(n:Int):Kp:=
 let x:=dR (bQ k.m p).tb n
 if x.k=1 then dD (dU k x.n (-1)) p n zEn else if x.k=2 then dD (oI k x.n (-1)) p n zEn else k
def Ie(f i:Int)(c:Cc):Bool:=decide (f<c.f)||(decide (c.f=f)&&decide (i<=c.i))
def vZ(l:List Cc)(f i:Int):Nat:=(l.findIdx? (Ie f i)).getD l.length
def KW(l:List Cc)(f i:Int):Bool:=match l[vZ l f i]? with
 | some c=>decide (c.f=f)&&decide (c.i=i)
 | none=>false
def setFr(m:Ma)(f:Nat)(x:Fr):Ma:={ m with m:={ m.m with fs:=m.m.fs.set f x } }
def aF(m:Ma)(f:Nat):Fr:=m.m.fs.getD f fr0
def jQ(m:Ma)(f:Nat):Bool:=decide ((aF m f).f<0)||!(aF m f).d||decide (dF m.st (aF m f).f (aF m f).i=0)
def kI(k:Kp)(f:Nat):Kp:=
 let x:=aF k.m f
 if x.f<0\/x.d=false\/dF k.m.st x.f x.i≠0 then k
 else⟨setFr { k.m with st:=eH k.m.st x.f x.i,dk:=dW k.m.dk (eY k.m.st x.f x.i) x.p } f { x with d:=false },iD k.e (aI k.m.dk (eY k.m.st x.f x.i))⟩
def bB(m:Ma)(f:Int):List (Nat × Int):=(List.range m.sp.length).flatMap λp=>(qx (bQ m p).tb 1 f).map λn=>(p,n)
def kv(k:Kp)(l:List (Nat × Int)):Kp:=l.foldl (λk u=>jM k u.1 u.2) k
def IJ(f n:Int)(k:Kp)(u:Nat × Int):Kp:=dD (dU k f (-1)) u.1 u.2 ⟨2,n,false⟩
def uT(k:Kp)(f n:Int)(l:List (Nat × Int)):Kp:=l.foldl (IJ f n) k
def ky(m:Ma)(f:Nat):Bool:=if 0<=(aF m f).f then jQ m f else decide (iI m.sl (bB m f).length=0)
def gI(k:Kp)(f:Nat):Kp:=
 let x:=aF k.m f;let l:=bB k.m f
 if 0<=x.f then
  if jQ k.m f=false then k else
  let k2:=kv (kI k f) l
  if KW k2.m.ca x.f x.i=true then dU ⟨{ k2.m with ca:=k2.m.ca.eraseIdx (vZ k2.m.ca x.f x.i) },k2.e⟩ f (-1)else k2
 else if iI k.m.sl l.length≠0 then k
 else uT ⟨{ k.m with sl:=nJ k.m.sl l.length,sw:=dW k.m.sw (kJ k.m.sl l.length) x.p },iD k.e (aI k.m.sw (kJ k.m.sl l.length))⟩ f (kJ k.m.sl l.length) l
def reclaimN:Nat->Kp->Kp × Bool
 | 0,k=>(k,false)
 | t+1,k=>
  if bT k.m.m≠0\/iR k.m.m<0 then(⟨k.m,iD k.e (bT k.m.m)⟩,false)else
  let k1:Kp:=⟨{ k.m with m:=gy k.m.m },k.e⟩
  if ky k1.m (iR k.m.m).toNat=true then(gI k1 (iR k.m.m).toNat,true)else reclaimN t (gI k1 (iR k.m.m).toNat)
def cZ(k:Kp):Kp × Bool:=reclaimN (2*k.m.m.fs.length+1) k
def lT(k:Kp)(p:Page)(f i:Int):Kp × Int:=
 if iy k.m.m p f i≠0 then(k,-1)else(⟨{ k.m with m:=fG k.m.m p f i },k.e⟩,iG k.m.m p f i)
def fC(k:Kp)(p:Page)(f i:Int):Kp × Int:=
 if fO k.m.m.fs=0 then(if(cZ k).2=true then lT (cZ k).1 p f i else((cZ k).1,-1))else lT k p f i
def lN(x:Fr):Fr:={ x with u:=true }
def oV(m:Ma)(i:Nat):Cc:=m.ca.getD i zCc
def dh(m:Ma)(f i:Int):Page:=if 0<=aZ m.st f i then aO (dN m.dk (aZ m.st f i)) ((az m.st f).n-i*8)else zPg
def Fz(k:Kp)(f i:Int):Int:=if 0<=aZ k.m.st f i then iD k.e (aI k.m.dk (aZ k.m.st f i))else k.e
def cO(k:Kp)(f i:Int):Kp × Int:=
 if KW k.m.ca f i=true then
  let g:=(oV k.m (vZ k.m.ca f i)).k
  (⟨setFr k.m g.toNat (lN (aF k.m g.toNat)),k.e⟩,g)
 else
  let r:=fC ⟨k.m,Fz k f i⟩ (dh k.m f i) f i
  if r.2<0 then(r.1,-1)else(⟨{ r.1.m with ca:=r.1.m.ca.insertIdx (vZ r.1.m.ca f i) ⟨f,i,r.2⟩ },r.1.e⟩,r.2)
def kP(k:Kp)(i:Nat):Kp:=
 let c:=oV k.m i;let k1:=kv k (bB k.m c.k)
 dU ⟨{ k1.m with ca:=k1.m.ca.eraseIdx i },k1.e⟩ c.k (-1)
def jc(f i:Int):Nat->Kp->Kp
 | 0,k=>k
 | j+1,k=>if(oV k.m j).f≠f\/(oV k.m j).i<i then jc f i j k else jc f i j (kP k j)
def yV(k:Kp)(f i:Int):Kp:=jc f i k.m.ca.length k
def mi(n:Int)(k:Kp):Nat->List Int->Kp
 | _,[]=>k
 | j,b::r=>mi n (if 0<=b/\bn n<=j then⟨{ k.m with dk:=wB k.m.dk b },iD k.e (aI k.m.dk b)⟩else k) (j+1) r
def xO(x:Fr)(n:Int):Fr:={ x with p:=aO x.p n,d:=true }
def mU(k:Kp)(f n:Int):Kp × Int:=
 if jE k.m.st f n≠0 then(k,jE k.m.st f n)else
 let k1:=yV k f (bn n);let k2:=mi n k1 0 (az k1.m.st f).b
 (⟨{ k2.m with st:=jU k.m.st f n },k2.e⟩,0)
def lw(k:Kp)(f n:Int):Kp × Int:=
 let old:=(az k.m.st f).n;let lo:=min n old
 if n≠old/\0<lo%8 then
  let r:=cO k f (lo / 8)
  if r.2<0 then(r.1,10)else mU ⟨setFr r.1.m r.2.toNat (xO (aF r.1.m r.2.toNat) (lo%8)),r.1.e⟩ f n
 else mU k f n
end Go.Proofs.YthihaopabbpalaaGreat
namespace Pw
open Go Go.RowKit
variable {B B' b c cap f g i id k off sz:Nat} {L:Nat -> Bool} {P:Program} {Q:Exit -> Act -> World -> Prop} {T TV TX TY TZ t t' ty:TypeId} {V v vx vy:Value} {W w w' w0 w1:World} {X Y Z args cs t0:Array Value} {a:Option Addr} {a0:Act} {l:List Int} {o op:Oper} {ops:Array Oper} {rest:List Oper} {tm vs xs:List Value} {x:Operand} {y:Nat -> Value} {ρ:Operand -> Value}
theorem bI{k:IntKind}{a b:Int}(h:a=b):Ending.returned (.int k a) = .returned (.int k b):=by rw[h]
theorem cB{a b:Bool}(h:a=b):Ending.returned (.bool a) = .returned (.bool b):=by rw[h]
theorem ah(h:Below w.heap.size w W)(d:Below W.heap.size W w1):Below w.heap.size w w1:=
 h.trans (d.mono h.size)
theorem fe{w:World}{o:Obj}:w.heap.size<=(w.alloc o).heap.size:=((Below.refl 0 w).alloc (bN _) o).size
theorem eO(h:B<=w.heap.size){o:Obj}:B<=(w.alloc o).heap.size:=aX h (fe (w:=w) (o:=o))
def aK(w:World)(b:Nat)(cs:Array Value)(T:TypeId):Prop:=w.heap[b]?=some (.cells cs T (0,0))
theorem aK.cell(h:aK w b cs T):∀o,w.cell? ⟨b,o,none⟩=cs[o]?:=by
 intro o;unfold aK at h;simp[World.cell?,h]
theorem aK.free(h:aK w b cs T):∀o,w.frozen? ⟨b,o,none⟩=false:=by
 intro o;unfold aK at h;simp[World.frozen?,h]
theorem aK.lt(h:aK w b cs T):b<w.heap.size:=lt_of_block h
theorem aK.below(h:aK w b cs T)(d:Below B w w')(m:b<B):aK w' b cs T:=
 (d.block b m).trans h
theorem aK.ext(h:aK w b cs T)(d:Below w.heap.size w w'):aK w' b cs T:=h.below d h.lt
theorem aK.new(w:World)(cs:Array Value)(T:TypeId):aK (w.alloc (.cells cs T)) w.heap.size cs T:=heap_alloc_new w _
theorem aK.alloc(h:aK w b cs T)(o:Obj):aK (w.alloc o) b cs T:=(Below.heap_alloc w o b h.lt).trans h
theorem aK.drewN(h:aK w b cs T)(n:Nat):aK (w.drewN n) b cs T:=h
theorem aK.drew(h:aK w b cs T):aK w.drew b cs T:=h
def eD(w:World)(a:Option Addr)(vs:List Value):Prop:=
 ∀i u,vs[i]?=some u->∃b off,a=some ⟨b,off,none⟩/\w.cell? ⟨b,off+i,none⟩=some u
theorem eD.below(h:eD w a vs)(p:Below w.heap.size w w'):eD w' a vs:=by
 intro i u d;obtain⟨b,off,s,m⟩:=h i u d;exact⟨b,off,s,cell_later p m⟩
theorem eD.nil :eD w a []:=λi u h=>by simp at h
theorem eD.at{w:World}{a:Option Addr}{vs:List Value}(h:eD w a vs)(m:0<vs.length):∃b off,a=some ⟨b,off,none⟩/\∀i u,vs[i]?=some u->w.cell? ⟨b,off+i,none⟩=some u:=by
 obtain⟨b,off,rfl,s⟩:=h 0 _ (aM m);refine⟨b,off,rfl,λi u p => ?_⟩;obtain⟨z,d,e,c⟩:=h i u p;simp only[fM,mD,and_true]at e;obtain⟨rfl,rfl⟩:=e;exact c
theorem flat_get{α:Type}(enc:α->List Value)(sz:Nat)(d:∀x,(enc x).length=sz):∀(l:List α) (i:Nat) (h:i<l.length) (j:Nat) (u:Value),(enc l[i])[j]?=some u->(l.flatMap enc)[i*sz+j]?=some u
 | [],i,h,_,_,_=>absurd h (ig _)
 | x::l,0,_,j,u,hj=>by
  simp only[pF,Nat.zero_mul,dL];simp only[Cb]at hj;have m:j<(enc x).length:=by
   rcases gB j (enc x).length with h|h
   ·exact h
   ·simp[dP h]at hj
  rw[jb m];exact hj
 | x::l,i+1,h,j,u,hj=>by
  simp only[pF];have e:(i+1)*sz+j=(enc x).length+(i*sz+j):=by rw[d x,rP];omega
  rw[e,jv (by omega),EH];exact flat_get enc sz d l i (by simpa using h) j u (by simpa using hj)
theorem flat_len{α:Type}(enc:α->List Value)(sz:Nat)(d:∀x,(enc x).length=sz)(l:List α):(l.flatMap enc).length=l.length*sz:=by
 induction l with
 | nil=>simp
 | cons x l ih=>simp[pF,ih,d x,rP,Nat.add_comm]
theorem eD.elem{α:Type}{enc:α->List Value}(d:∀x,(enc x).length=sz)(m:0<sz){l:List α}(h:eD w a (l.flatMap enc))(i:Nat)(s:i<l.length) :
  ∃b off,a=some ⟨b,off,none⟩/\∀j u,(enc l[i])[j]?=some u->w.cell? ⟨b,off+i*sz+j,none⟩=some u:=by
 obtain⟨b,off,A,z⟩:=h.at (by rw[flat_len enc sz d];exact Nat.mul_pos (by omega) m);exact⟨b,off,A,λj u p=>by rw[qX];exact z _ _ (flat_get enc sz d l i s j u p)⟩
def dO(cur:Array Value):Nat->List Value->Array Value
 | _,[]=>cur
 | o,v::r=>dO (cur.setIfInBounds o v) (o+1) r
theorem size_putAt:∀(vs:List Value) (d:Array Value) (o:Nat),(dO d o vs).size=d.size
 | [],_,_=>rfl
 | v::r,d,o=>by simp[dO,size_putAt r]
theorem putAt_out:∀(vs:List Value) (d:Array Value) (o k:Nat),(k<o\/o+vs.length<=k)->(dO d o vs)[k]?=d[k]?
 | [],_,_,_,_=>rfl
 | v::r,d,o,k,h=>by simp only[ou]at h;simp only[dO];rw[putAt_out r _ _ _ (by omega),gT (by omega)]
theorem putAt_in:∀(vs:List Value) (d:Array Value) (o j:Nat) (u:Value),o+vs.length<=d.size->vs[j]?=some u->(dO d o vs)[o+j]?=some u
 | [],_,_,_,_,_,h=>by simp at h
 | v::r,d,o,0,u,hs,h=>by simp only[ou]at hs;simp only[dO];rw[putAt_out r _ _ _ (by omega)];simp at h;subst h;simp[show o<d.size by omega]
 | v::r,d,o,j+1,u,hs,h=>by simp only[ou]at hs;simp only[dO];rw[show o+(j+1)=o+1+j by omega];exact putAt_in r _ _ _ u (by simp;omega) (by simpa using h)
theorem aK.setCell(h:aK w b cs T)(o:Nat)(v:Value):aK (w.setCell ⟨b,o,none⟩ v) b (cs.setIfInBounds o v) T:=
 heap_setCell_same w b o cs T v h
theorem aK.setCell_other(h:aK w b cs T)(a:Addr)(v:Value)(d:b≠a.block):aK (w.setCell a v) b cs T:=
 (heap_setCell_other w a b v d).trans h
theorem aK.setCells :∀(vs:List Value) (o:Nat) {w:World} {cs:Array Value},aK w b cs T->aK (w.setCells b o vs) b (dO cs o vs) T
 | [],_,_,_,h=>h
 | v::r,o,_,_,h=>aK.setCells r (o+1) (h.setCell o v)
theorem heap_setCells_other(b:Nat):∀(vs:List Value) (o:Nat) (w:World) (k:Nat),k≠b->(w.setCells b o vs).heap[k]?=w.heap[k]?
 | [],_,_,_,_=>rfl
 | v::r,o,w,k,h=>(heap_setCells_other b r (o+1) _ k h).trans (heap_setCell_other w ⟨b,o,none⟩ k v h)
theorem size_setCells(b:Nat):∀(vs:List Value) (o:Nat) (w:World),(w.setCells b o vs).heap.size=w.heap.size
 | [],_,_=>rfl
 | v::r,o,w=>(size_setCells b r (o+1) _).trans (by simp[World.setCell])
theorem rE(b:Nat):∀(vs:List Value) (o:Nat) (w:World),(w.setCells b o vs).os=w.os/\(w.setCells b o vs).tape=w.tape/\(w.setCells b o vs).output=w.output
 | [],_,_=>⟨rfl,rfl,rfl⟩
 | _::r,o,_=>rE b r (o+1) _
theorem aD(w:World)(b o:Nat)(vs:List Value):w.grownBy (w.setCells b o vs) (some b):=
 ⟨(rE b vs o w).1,(rE b vs o w).2.1,(rE b vs o w).2.2,Nat.le_of_eq (size_setCells b vs o w).symm,
  λk _ d=>heap_setCells_other b vs o w k (λe=>d (by rw[e]))⟩
def Own(w:World)(B:Nat)(e:TypeId)(sz:Nat)(v:Value)(n:Nat)(xs:List Value):Prop:=
 xs.length=n*sz/\((v = .slice none 0 0/\n=0) \/
  ∃g off cap cur,v = .slice (some ⟨g,off,none⟩) n cap/\B<=g/\aK w g cur e/\n<=cap/\cap<=maxLen/\off+cap*sz<=cur.size/\∀j u,xs[j]?=some u->cur[off+j]?=some u)
theorem Own.nil(w:World)(B:Nat)(e:TypeId)(sz:Nat):Own w B e sz (.slice none 0 0) 0 []:=⟨by simp,.inl ⟨rfl,rfl⟩⟩
theorem Own.of_owns{e:TypeId}{n:Nat}(h:w.ownsRow B e sz v n xs):Own w B e sz v n xs:=by
 obtain⟨A,h⟩:=h;refine⟨A,h.imp id λ⟨g,cap,m,p,G,D,E,z,H,s⟩=>⟨g,0,cap,m,p,G,D,E,z,by omega,λj u d => ?_⟩⟩;rw[dL,<-qz];rw[<-s,jO]at d;split at d
 ·exact d
 ·cases d
theorem Own.mono{e:TypeId}{n:Nat}(h:Own w B e sz v n xs)(s:B'<=B):Own w B' e sz v n xs:=
 ⟨h.1,h.2.imp id λ⟨g,off,cap,d,m,p,r⟩=>⟨g,off,cap,d,m,aX s p,r⟩⟩
theorem Own.below{e:TypeId}{n:Nat}(h:Own w B e sz v n xs)(u:Below w.heap.size w w'):Own w' B e sz v n xs:=
 ⟨h.1,h.2.imp id λ⟨g,off,cap,d,m,s,p,r⟩=>⟨g,off,cap,d,m,s,p.ext u,r⟩⟩
theorem Own.grown{row:Option Nat}{e:TypeId}{n:Nat}(h:Own w B e sz v n xs)(u:w.grownBy w' row)(d:∀g,v.ownBlock=some g->row≠some g):Own w' B e sz v n xs:=
 ⟨h.1,h.2.imp id λ⟨g,off,cap,m,p,z,s,r⟩=>⟨g,off,cap,m,p,z,(u.block g s.lt (λe=>d g (by rw[p];rfl) e.symm)).trans s,r⟩⟩
theorem Own.rd{e:TypeId}{n:Nat}(h:Own w B e sz v n xs):∃a c,v = .slice a n c/\n<=c/\c<=maxLen/\(a=none->c=0)/\eD w a xs:=by
 obtain⟨p,h⟩:=h;rcases h with⟨rfl,rfl⟩|⟨g,off,cap,D,rfl,_,z,A,m,E,d⟩
 ·have:xs=[]:=kV (by simpa using p);subst this;exact⟨none,0,rfl,aC _,bN _,λ_=>rfl,eD.nil⟩
 ·exact⟨_,cap,rfl,A,m,λe=>(Option.some_ne_none _ e).elim,λi u s=>⟨g,off,rfl,by rw[z.cell];exact d i u s⟩⟩
theorem Own.ge{e:TypeId}{n:Nat}(h:Own w B e sz v n xs):∀k,v.ownBlock=some k->B<=k:=by
 rcases h.2 with⟨rfl,_⟩|⟨g,off,cap,p,rfl,m,_⟩
 ·intro k d;cases d
 ·intro k d;cases d;exact m
theorem aK.grown{row:Option Nat}(h:aK w b cs T)(m:w.grownBy w' row)(d:row≠some b):aK w' b cs T:=
 (m.block b h.lt (λe=>d e.symm)).trans h
theorem Own.alloc{e:TypeId}{n:Nat}(h:Own w B e sz v n xs)(o:Obj):Own (w.alloc o) B e sz v n xs:=
 h.below ((Below.refl _ _).alloc (aC _) _)
theorem eD.one(w:World)(v:Value)(T:TypeId):eD (w.alloc (.cells #[v] T)) (some ⟨w.heap.size,0,none⟩) [v]:=by
 intro i u d;refine⟨_,_,rfl,?_⟩;rw[(aK.new w #[v] T).cell];cases i with
 | zero=>simpa using d
 | succ i=>simp at d
theorem eD.new(w:World)(cs:Array Value)(T:TypeId):eD (w.alloc (.cells cs T)) (some ⟨w.heap.size,0,none⟩) cs.toList:=by
 intro i u d;refine⟨_,_,rfl,?_⟩;rw[(aK.new w cs T).cell,dL];simpa using d
theorem zx(k:IntKind)(n:Int):∀u∈[Value.int k n],u.oneCell' = true:=by
 intro u d;cases bF.1 d;rfl
theorem fJ{a:Act}{s:Operand}{x:Operand}(t:TypeId)(N:o.op=Op.call { callee:=Callee.builtin Builtin.append,args:=#[s,x],argTypes:=#[t,t] })(B:Nat)(e:TypeId)(z:Value)(A E:Nat)(h1:P.underlying t=some (.slice e))(h2:(P.info? e).map (λi=>(i.zero,i.size,i.bytes))=some (some z,A,E)){v:Value}(n:Nat)(xs:List Value)(hs:a.eval s=v)(M:Own w B e A v n xs)(ao:Option Addr)(m c:Nat)(D:List Value)(hx:a.eval x = .slice ao m c)(S:ao=none->c=0)(hmc:m<=c)(hn:D.length=m*A)(hrd:eD w ao D)(h1c:∀u∈D,u.oneCell' = true)(b1:n+m<=maxLen)(b2:(n+m)*E<=140737488355328)(hB:B<=w.heap.size)(hK:∀v' w',Own w' B e A v' (n+m) (xs++D)->w.grownBy w' v.ownBlock->wpList P ops Q rest (a.put o.dst v') w')(hg:o.guard=none:=by exact rfl)(h6:z.cells.size=A:=by exact rfl)(h7:0<A:=by decide) :
  wpList P ops Q (o::rest) a w:=by
 obtain⟨i,hi,hz,f,h⟩:=info_parts h2;cases ao with
 | none=>
  obtain rfl:=S rfl;obtain rfl:m=0:=by omega
  obtain rfl:D=[]:=kV (by simpa using hn);have key:wpList P ops Q rest (a.put o.dst v) w:=by have:=hK v w (by simpa using M) (BN _ _);exact this
  rcases M with⟨hl,⟨rfl,rfl⟩|⟨g,off,cap,U,rfl,hBg,hk,hc,hm,H,G⟩⟩
  ·obtain rfl:xs=[]:=kV (by simpa using hl);exact wpList_append_own_none hg s x t N B e i A h1 hi _ 0 [] hs (KZ w B e A) hx key
  refine wpList_plain hg λK p => ?_;unfold Oper.wp;simp[execOp,N,resolve,invoke,builtin,hs,hx,Builtin.append_,run_underlying h1,Go.sizeOf,typeInfo,hi,Builtin.lenOf,Builtin.firstCells,hc,storeCells,Result.andThen];exact p _ _ key
 | some ad=>
  have d:∀j u,D[j]?=some u->w.cell? (ad.add j)=some u:=by intro j u O;obtain⟨b,off,e',hc⟩:=hrd j u O;cases e';rw[oF];exact hc
  rcases M with⟨hl,⟨rfl,rfl⟩|⟨g,off,cap,U,rfl,hBg,hk,hc,hm,H,G⟩⟩
  ·obtain rfl:xs=[]:=kV (by simpa using hl);exact wpList_append_own w hg s x t N B e i z A E h1 hi hz f h h6 h7 _ 0 [] hs (KZ w B e A) ad m c D hx hn d h1c b1 b2 hB
    λv' w' r1 R _=>hK v' w' (.of_owns r1) R
  have q:n*A<=cap*A:=rA _ hc;refine wpList_append_arg w hg s x t N e i z A E h1 hi hz f h h6 h7 g off n cap xs hs hl (λj u O=>by rw[hk.cell];exact G j u O) ad m c D hx hn d h1c (λhr j O => ?_) b1 b2 (λhr => ?_) (λhr v' w' r1 R => ?_)
  ·have h3:(n+m)*A<=cap*A:=rA _ hr;rw[rP]at h3;have:off+n*A+j<U.size:=by omega
   exact⟨by rw[hk.cell];simp[this],hk.free _⟩
  ·have h3:(n+m)*A<=cap*A:=rA _ hr;rw[rP]at h3;refine hK _ _ ⟨by rw[fI,hl,hn,rP],.inr ⟨g,off,cap,_,rfl,hBg,hk.setCells D (off+n*A),hr,hm,by rw[size_putAt];exact H,λj u O => ?_⟩⟩ (aD _ _ _ _)
   by_cases hjl:j<xs.length
   ·rw[jb hjl]at O;rw[putAt_out _ _ _ _ (.inl (by omega))];exact G j u O
   rw[jv (by omega)]at O;have:=putAt_in D U (off+n*A) (j-xs.length) u (by omega) O;rwa [show off+n*A+(j-xs.length)=off+j by omega]at this
  have r2' : w.grownBy w' (Value.ownBlock (.slice (some ⟨g,off,none⟩) n cap)):=⟨R.os,R.tape,R.output,R.size,λk l _=>R.block k l (by simp)⟩;exact hK v' w' ((Own.of_owns r1).mono hB) r2'
theorem Qd{a:Act}(E:o.guard=none)(d s:Operand)(H K:TypeId)
 (U:o.op = .call { callee:=.builtin .copy,args:=#[d,s],argTypes:=#[H,K] }) (elem:TypeId) (R:P.underlying H=some (.slice elem)) (D:(P.info? elem).map (·.size)=some 1)
 (g off m z:Nat) (sp:Option Addr) (p u:Nat) (hd:a.eval d = .slice (some ⟨g,off,none⟩) m z) (S:a.eval s = .slice sp p u)
 (A:List Value) (T:TypeId) (N:aK w g A.toArray T) (vs:List Value) (hn:vs.length=p) (M:eD w sp vs)
 (hfit:off+m<=A.length) (h1:∀v∈vs,v.oneCell' = true)
 (h:∀w',aK w' g (splice A off (vs.take m)).toArray T->w.grownBy w' (some g)->wpList P ops Q rest (a.put o.dst (goInt (Nat.min p m))) w') :
  wpList P ops Q (o::rest) a w:=by
 have c:(vs.take m).length=Nat.min p m:=by rw[eG,hn];exact Nat.min_comm _ _
 have i:Nat.min p m<=m:=Nat.min_le_right _ _
 by_cases O:(vs.take m).length=0
 ·have e:vs.take m=[]:=kV O;have hm:Nat.min p m=0:=by rw[<-c];exact O
  refine wpList_copy_nothing E d s H K U elem R D _ sp m z p u hd S hm ?_;have:=h w (by rw[e];simpa[splice]using N) (BN _ _);rw[hm]at this;exact this
 have f:0<vs.length:=by rw[eG]at O;have:min m vs.length<=vs.length:=Nat.min_le_right _ _;omega
 obtain⟨b,so,rfl,hc⟩:=M.at f;refine wpList_copy_own E d s H K U elem R D g off m z _ p u hd S A.toArray T N (vs.take m) c (λj v G => ?_) (by rw[c,List.size_toArray];omega) (λv hv=>h1 v (Bn hv)) ?_
 ·rw[oF];rw[jO]at G;split at G
  ·exact hc j v G
  ·cases G
 have:=h (w.setRow g (splice A off (vs.take m)).toArray) (setRow_heap w g _ _ T _ N) ⟨rfl,rfl,rfl,by simp,λk _ hk=>setRow_other w g k _ (λe=>hk (by rw[e]))⟩;rw[c];simpa[splice,c,hn,Nat.min_comm]using this
theorem eT(d cs:Array Value)(h:cs.size=d.size):dO d 0 cs.toList=cs:=by
 apply sM;intro i
 by_cases m:i<cs.size
 ·have:=putAt_in cs.toList d 0 i cs[i] (by simp;omega) (by simp[m]);rw[dL]at this;rw[this];simp[m]
 ·rw[tT (by rw[size_putAt];omega),tT (by omega)]
theorem fV{a:Act}{ty:TypeId}(x y:Operand)(b o:Nat)(cells:Array Value)(d:Array Value)(T:TypeId)(p:aK w b d T)(s:o+cells.size<=d.size)(D:(P.info? ty).map (·.size)=some cells.size)(E:cells.all (·.oneCell')=true)(h:∀w',aK w' b (dO d o cells.toList) T->w.grownBy w' (some b)->wpList P ops Q rest (a.put op.dst undef) w')(m:op.guard=none:=by exact rfl)(A:op.op = .store ty x y:=by exact rfl)(z:a.eval x = .pointer (some ⟨b,o,none⟩):=by exact rfl)(u:a.eval y = .agg cells:=by exact rfl):wpList P ops Q (op::rest) a w:=by
 refine wpList_store_mid m ty x y A b o cells z u (λj G=>⟨?_,p.free _⟩) D E (h _ (p.setCells _ _) (aD _ _ _ _));rw[p.cell];simp[show o+j<d.size by omega]
theorem ax{a:Act}{ty:TypeId}(x y:Operand)(b:Nat)(cells:Array Value){d:Array Value}{T:TypeId}(E:aK w b d T)(D:(P.info? ty).map (·.size)=some cells.size)(h:∀w',aK w' b cells T->w.grownBy w' (some b)->wpList P ops Q rest (a.put op.dst undef) w')(p:op.guard=none:=by exact rfl)(A:op.op = .store ty x y:=by exact rfl)(z:a.eval x = .pointer (some ⟨b,0,none⟩):=by exact rfl)(u:a.eval y = .agg cells:=by exact rfl)(m:cells.size=d.size:=by exact rfl)(G:cells.all (·.oneCell')=true:=by exact(bC _ _ _ _ _)):wpList P ops Q (op::rest) a w:=by
 refine fV (m:=p) (ty:=ty) x y (A:=A) b 0 cells (z:=z) (u:=u) d T E (by omega) D G λw' s c => ?_;rw[eT d cells m]at s;exact h w' s c
theorem pE{α:Type}(f:α->Value)(l:List α):l.flatMap (λx=>[f x])=l.map f:=by
 induction l with
 | nil=>rfl
 | cons x l ih=>simp[ih]
def nD(b:UInt8):Value:=.int .u8 b.toNat
def ib(n:Int):Value:=.int .i64 n
def gW(p:Page):Array Value:=#[Value.int .u8 p[0].toNat,Value.int .u8 p[1].toNat,Value.int .u8 p[2].toNat,Value.int .u8 p[3].toNat,Value.int .u8 p[4].toNat,Value.int .u8 p[5].toNat,Value.int .u8 p[6].toNat,Value.int .u8 p[7].toNat]
theorem FP(p:Page):(gW p).size=8:=rfl
theorem JZ(p:Page)(k:Nat)(h:k<8):(gW p)[k]?=some (Value.int .u8 p[k].toNat):=by
 match k,h with
 | 0,_=>rfl
 | 1,_=>rfl
 | 2,_=>rfl
 | 3,_=>rfl
 | 4,_=>rfl
 | 5,_=>rfl
 | 6,_=>rfl
 | 7,_=>rfl
 | n+8,h=>omega
theorem XD(p:Page)(k:Nat)(h:k<8)(b:UInt8):(gW p).setIfInBounds k (.int .u8 b.toNat)=gW (p.set k b):=by
 match k,h with
 | 0,_=>simp[gW]
 | 1,_=>simp[gW]
 | 2,_=>simp[gW]
 | 3,_=>simp[gW]
 | 4,_=>simp[gW]
 | 5,_=>simp[gW]
 | 6,_=>simp[gW]
 | 7,_=>simp[gW]
 | n+8,h=>omega
theorem xD(p:Page):(gW p)[0]?=some (Value.int .u8 p[0].toNat)/\(gW p)[1]?=some (Value.int .u8 p[1].toNat)/\(gW p)[2]?=some (Value.int .u8 p[2].toNat)/\(gW p)[3]?=some (Value.int .u8 p[3].toNat)/\(gW p)[4]?=some (Value.int .u8 p[4].toNat)/\(gW p)[5]?=some (Value.int .u8 p[5].toNat)/\(gW p)[6]?=some (Value.int .u8 p[6].toNat)/\(gW p)[7]?=some (Value.int .u8 p[7].toNat):=
 ⟨rfl,rfl,rfl,rfl,rfl,rfl,rfl,rfl⟩
theorem pX(p:Page):(gW p).all (·.oneCell')=true:=by simp[gW,Value.oneCell']
theorem Mt(p:Page):(gW p).toList=p.toList.map nD:=by
 apply qB;intro i
 by_cases h:i<8
 ·rw[qz,JZ p i h];simp[h,nD]
 ·rw[qz,tT (by rw[FP];omega),dP (by simp;omega)]
theorem aaD{p:Page}(h:aK w b (gW p) T)(a n:Nat):eD w (some ⟨b,a,none⟩) (((p.toList.drop a).take n).map nD):=by
 intro i u d;refine⟨b,a,rfl,?_⟩;rw[h.cell,<-qz,Mt];rw[wO,List.map_drop,jO]at d;split at d
 ·rw[pG]at d;exact d
 ·cases d
theorem WZ(l:List UInt8):∀u∈l.map nD,u.oneCell' = true:=by
 intro u d;obtain⟨_,_,rfl⟩:=fD.1 d;rfl
theorem Rb(p:Page):gW p=(p.toList.map nD).toArray:=by rw[<-Mt]
theorem Qj(p:Page)(a:Nat)(b:List UInt8)(z:a<8):(splice (p.toList.map nD) a ((b.map nD).take (8-a))).toArray=gW (fF p a b):=by
 rw[Rb];congr 1;unfold splice;rw[<-wO,<-wO,<-List.map_drop,<-jL,<-jL];congr 1;apply qB;intro i;simp only[eG,fE]
 by_cases h:i<8
 ·have e:(fF p a b).toList[i]?=some (if a<=i then b.getD (i-a) p[i]else p[i]):=by simp[fF,h,show(a:Int)<8 by omega]
  rw[e];have m:(List.take a p.toList).length=a:=by simp;omega
  by_cases u:i<a
  ·rw[jb (by omega),if_neg (by omega)];simp[u,h]
  rw[jv (by omega),if_pos (by omega),m]
  by_cases s:i-a<min (8-a) b.length
  ·rw[jb (by simpa using s),jO,if_pos (by omega)];simp[List.getD,show i-a<b.length by omega]
  rw[jv (by simp;omega),pG];have d:(List.take (8-a) b).length=min (8-a) b.length:=by simp
  rw[d,show a+min (8-a) b.length+(i-a-min (8-a) b.length)=i by omega];simp[List.getD,h,dP (show b.length<=i-a by omega)]
 ·rw[dP (by simp;omega),dP (by simp;omega)]
theorem Ik(w:World)(e:TypeId)(k:IntKind)(cs:Array Value)(off:Nat)(v:Value)(h:P.underlying e=some (.int k))(d:cs[off]?=some v) :
  (part e cs off).run P w = .ok v w:=by
 simp[part,isAgg,run_underlying h,d]
theorem LP(w:World)(d:Nat)(t e:TypeId)(u:P.underlying t=some (.array 8 e))(s:P.underlying e=some (.int .u8))(m:(P.info? e).map (·.size)=some 1)(p q:Page) :
  (Op.equalIn (d+2) t (.agg (gW p)) (.agg (gW q))).run P w = .ok (p==q) w:=by
 cases hq:P.info? e with
 | none=>simp[hq]at m
 | some i=>
 have z:i.size=1:=by simpa[hq]using m
 rw[UW];unfold Op.equalIn;simp only[lD,run_underlying u,sH,Go.sizeOf,typeInfo,run_program,hq,z,sF];simp only[Std.Legacy.Range.forIn_eq_forIn_range',List.range',Std.Legacy.Range.size];have g:∀(r:Page) (k:Nat) (h:k<8) (w:World),(part e (gW r) k).run P w = .ok (.int .u8 r[k].toNat) w:=λr k h w=>Ik w e .u8 _ _ _ s (JZ r k h);have c:∀(a b:UInt8) (w:World),(Op.equalIn (d+1) e (.int .u8 a.toNat) (.int .u8 b.toNat)).run P w = .ok (a==b) w:=λa b w=>by rw[run_equalIn_int w d e .u8 .u8 _ _ s,ZX]
 simp[g,c]
 repeat' split
 all_goals simp_all
def Gives(P:Program)(o:Oper)(a:Act)(w:World)(F:Value->World->Prop):Prop:=
 match (execOp a.eval o).run P w with
 | .ok (.value v) w'=>F v w'
 | .ok .skip w'=>F undef w'
 | .ok (.enter f args) w'=>Calls P f args w' fun | .returned v,w''=>F v w'' | _,_=>False
 | _=>False
def lay(L:Nat->Bool)(y:Nat->Value):List Oper->Nat->Array Value->Array Value
 | [],_,t=>t
 | o::r,i,t=>lay L y r (i+1) (match o.dst with | some d=>if L i then t.setIfInBounds d (y i)else t | none=>t)
theorem lay_size(L:Nat->Bool)(y:Nat->Value):∀(l:List Oper) (i:Nat) (t:Array Value),(lay L y l i t).size=t.size
 | [],_,_=>rfl
 | o::r,i,t=>by
  simp only[lay];rw[lay_size L y r];cases o.dst with
  | none=>rfl
  | some d=>simp only[];split<;>simp
theorem ja(L:Nat->Bool)(y:Nat->Value)(s:Nat):∀(l:List Oper) (i:Nat) (t:Array Value),(∀k o,l[k]?=some o->o.dst=some s->L (i+k)=false)->(lay L y l i t)[s]?=t[s]?
 | [],_,_,_=>rfl
 | o::r,i,t,h=>by
  simp only[lay];rw[ja L y s r (i+1) _ (λk u z p=>by have:=h (k+1) u (by simpa using z) p;rwa [show i+(k+1)=i+1+k by omega]at this)];cases p:o.dst with
  | none=>rfl
  | some d=>
   simp only[];split
   ·rename_i A;have m:d≠s:=by intro e;subst e;have:=h 0 o (by simp) p;simp[A]at this
    rw[gT m]
   ·rfl
theorem mV(L:Nat->Bool)(y:Nat->Value)(s:Nat):∀(l:List Oper) (i:Nat) (t:Array Value) (k:Nat) (o:Oper),l[k]?=some o->o.dst=some s->L (i+k)=true ->
  (∀z u,l[z]?=some u->u.dst=some s->z = k)->s<t.size->(lay L y l i t)[s]?=some (y (i+k))
 | [],_,_,_,_,h,_,_,_,_=>by simp at h
 | o0::r,i,t,0,o,hk,hd,hL,hu,hs=>by simp at hk;subst hk;simp only[lay,hd];rw[ja L y s r (i+1) _ (λk u m p=>by have:=hu (k+1) u (by simpa using m) p; omega)];rw[mG]at hL;simp[hL,hs]
 | o0::r,i,t,k+1,o,hk,hd,hL,hu,hs=>by
  simp only[lay];have:=mV L y s r (i+1) (match o0.dst with | some d=>if L i then t.setIfInBounds d (y i)else t | none=>t) k o (by simpa using hk) hd (by rwa [show i+1+k=i+(k+1) by omega])
   (λz u m p=>by have:=hu (z + 1) u (by simpa using m) p; omega)
   (by cases o0.dst with
     | none=>exact hs
     | some d=>simp only[];split<;>simpa using hs)
  rw[this];congr 2;omega
theorem oL(L L' : Nat->Bool)(y:Nat->Value):∀(l:List Oper) (i:Nat) (t:Array Value),(∀k,k<l.length->L (i+k)=L' (i+k))->lay L y l i t=lay L' y l i t
 | [],_,_,_=>rfl
 | o::r,i,t,h=>by
  simp only[lay];have d:L i=L' i:=by simpa using h 0 (by simp)
  rw[d];exact oL L L' y r (i+1) _ λk m=>by have:=h (k+1) (by simp;omega);rwa [show i+(k+1)=i+1+k by omega]at this
def kw(ops:Array Oper):Bool:=
 (List.range ops.size).all λi=>match ops[i]? with
  | none=>true
  | some o=>
   (match o.op with | .select ..=>false | _=>true) &&
   o.after.toList.all (λe=>Region.binds .any e&&decide (e.on<i)) &&
   (List.range ops.size).all λj=>match ops[j]? with
    | none=>true
    | some p=>match p.dst with
     | none=>true
     | some d=>(decide (i=j)||o.dst != some d)&&(!(o.looksAt ops).contains d||o.after.toList.any (λe=>decide (e.on=j)))
theorem gD(h:kw ops=true)(A:ops[i]?=some o) :
  (∀cs b,o.op ≠ .select cs b)/\(∀e∈o.after,Region.binds .any e=true/\e.on<i) /\
  ∀j p d,ops[j]?=some p->p.dst=some d->(i=j\/o.dst≠some d)/\(d∈o.looksAt ops->∃e∈o.after,e.on=j):=by
 have c:i<ops.size:=(iB.1 A).1;have D:=dG.1 h i (dx.2 c);simp only[A,dJ]at D;obtain⟨⟨M,K⟩,H⟩:=D;refine⟨?_,?_,?_⟩
 ·intro cs b e;simp[e]at M
 ·intro e s;have:=dG.1 K e (nM.2 s);simpa using this
 intro j p d z E;have f:j<ops.size:=(iB.1 z).1;have u:=dG.1 H j (dx.2 f);simp only[z,E,dJ,uN,decide_eq_true_eq,bne_iff_ne,ne_eq,tO,kW]at u;refine⟨u.1,λa => ?_⟩;rcases u.2 with m|⟨e,s,m⟩
 ·have G:(o.looksAt ops).contains d=true:=List.contains_iff_mem.2 a;rw[G]at m;cases m
 ·exact⟨e,nM.1 s,m⟩
theorem zz(z:kw ops=true)(M:ops[i]?=some o)(O:∀e∈o.after,L e.on=true)(t:Nat)(K:t∈o.looksAt ops) :
  (lay L y ops.toList 0 a0.tmps)[t]?=(lay (λ_=>true) y ops.toList 0 a0.tmps)[t]?:=by
 obtain⟨_,_,H⟩:=gD z M
 by_cases u:t<a0.tmps.size
 ·by_cases s:∃(j:Nat) (p:Oper),ops[j]?=some p/\p.dst=some t
  ·obtain⟨j,p,D,m⟩:=s;obtain⟨e,N,b⟩:=(H j p t D m).2 K;have G:∀A d,ops.toList[A]?=some d->d.dst=some t->A = j:=by
    intro A d a c;have:=(gD z (i:=A) (o:=d) (by simpa using a)).2.2 j p t D m;rcases this.1 with h|h
    ·exact h
    ·exact absurd c h
   rw[mV L y t _ 0 _ j p (by simpa using D) m (by rw[dL,<-b];exact O e N) G u,
    mV (λ_=>true) y t _ 0 _ j p (by simpa using D) m rfl G u]
  ·rw[ja L y t _ 0 _ (λk d E m=>absurd ⟨k,d,by simpa using E,m⟩ s),ja (λ_=>true) y t _ 0 _ (λk d E m=>absurd ⟨k,d,by simpa using E,m⟩ s)]
 ·rw[tT (by rw[lay_size];omega),tT (by rw[lay_size];omega)]
theorem Ej(S:kw ops=true){m:Array Bool}(M:ops[i]?=some o)(U:m.size=ops.size)(v:Value) :
  ({ a0 with tmps:=lay (λi=>m.getD i false) y ops.toList 0 a0.tmps }:Act).put o.dst v =
   { a0 with tmps:=lay (λk=>(m.setIfInBounds i true).getD k false) (λk=>if k=i then v else y k) ops.toList 0 a0.tmps }:=by
 have l:i<ops.size:=(iB.1 M).1;have g:(m.setIfInBounds i true).getD i false=true:=by simp[bG,show i<m.size by omega]
 have c:∀k,k≠i->(m.setIfInBounds i true).getD k false=m.getD k false:=λk D=>by simp[bG,gT (mF D)]
 have u:(({ a0 with tmps:=lay (λi=>m.getD i false) y ops.toList 0 a0.tmps }:Act).put o.dst v).tmps=lay (λk=>(m.setIfInBounds i true).getD k false) (λk=>if k=i then v else y k) ops.toList 0 a0.tmps:=by
  apply sM;intro s
  by_cases R:s<a0.tmps.size
  ·by_cases E:∃(j:Nat) (p:Oper),ops[j]?=some p/\p.dst=some s
   ·obtain⟨j,p,K,G⟩:=E;have H:∀O z,ops.toList[O]?=some z->z.dst=some s->O = j:=by
     intro O z f a;rcases((gD S (i:=O) (o:=z) (by simpa using f)).2.2 j p s K G).1 with h|h
     ·exact h
     ·exact absurd a h
    by_cases A:j=i
    ·subst A;obtain rfl:o=p:=by rw[M]at K;exact aU K
     rw[mV (λk=>(m.setIfInBounds j true).getD k false) _ s _ 0 _ j o (by simpa using M) G (by simpa using g) H R];simp only[Act.put,G,dL,if_true];rw[vG (by rw[lay_size];exact R)]
    have b:o.dst≠some s:=λe=>A ((H i o (by simpa using M) e).symm);have N:(({ a0 with tmps:=lay (λi=>m.getD i false) y ops.toList 0 a0.tmps }:Act).put o.dst v).tmps[s]?=(lay (λi=>m.getD i false) y ops.toList 0 a0.tmps)[s]?:=by
     cases ho:o.dst with
     | none=>rfl
     | some d=>
      have:d≠s:=λe=>b (by rw[ho,e]);simp only[Act.put];rw[gT this]
    rw[N];cases hLj:m.getD j false with
    | true=>
     rw[mV (λi=>m.getD i false) y s _ 0 _ j p (by simpa using K) G (by simpa using hLj) H R,
      mV (λk=>(m.setIfInBounds i true).getD k false) _ s _ 0 _ j p (by simpa using K) G (by rw[dL,c j A];exact hLj) H R]
     simp[A]
    | false=>
     rw[ja (λi=>m.getD i false) y s _ 0 _ (λk z D a=>by rw[dL,H k z D a];exact hLj),
      ja (λk=>(m.setIfInBounds i true).getD k false) _ s _ 0 _ (λk z D a=>by rw[dL,H k z D a,c j A];exact hLj)]
   have b:o.dst≠some s:=λe=>E ⟨i,o,M,e⟩;have N:(({ a0 with tmps:=lay (λi=>m.getD i false) y ops.toList 0 a0.tmps }:Act).put o.dst v).tmps[s]?=(lay (λi=>m.getD i false) y ops.toList 0 a0.tmps)[s]?:=by
    cases ho:o.dst with
    | none=>rfl
    | some d=>
     have:d≠s:=λe=>b (by rw[ho,e]);simp only[Act.put];rw[gT this]
   rw[N,ja _ y s _ 0 _ (λk z D G=>absurd ⟨k,z,by simpa using D,G⟩ E),ja _ _ s _ 0 _ (λk z D G=>absurd ⟨k,z,by simpa using D,G⟩ E)]
  have N:(({ a0 with tmps:=lay (λi=>m.getD i false) y ops.toList 0 a0.tmps }:Act).put o.dst v).tmps.size=a0.tmps.size:=by
   cases o.dst with
   | none=>exact lay_size _ _ _ _ _
   | some d=>simp[Act.put,lay_size]
  rw[tT (by rw[N];omega),tT (by rw[lay_size];omega)]
 cases hdst:o.dst with
 | none=>rw[hdst]at u;simp only[Act.put]at u ⊢; rw[u]
 | some d=>rw[hdst]at u;simp only[Act.put]at u ⊢; rw[u]
theorem qE{a b:Act}{F:Value->World->Prop}{K:Act->World->Prop}(z:ops[i]?=some o)
 (d:Region.wanted o (yielded ops a.tmps)=true) (m:execOp a.eval o=execOp b.eval o) (h:Gives P o b w F) (s:∀v w',F v w'->K (a.put o.dst v) w'):wpOp P ops Q i K a w:=by
 unfold wpOp;simp only[z,d,if_true];refine .inl ?_;unfold Oper.wp;rw[m];unfold Gives at h;generalize (execOp b.eval o).run P w=r at h ⊢;cases r with
 | ok n w'=>
  cases n with
  | value v=>exact s _ _ h
  | skip=>exact s _ _ h
  | enter f args=>
   refine zg h λe u p => ?_;cases e with
   | returned v=>exact s _ _ p
   | panicked c=>exact p.elim
   | outgrown=>exact p.elim
  | _=>exact h.elim
 | halt x w'=>exact h.elim
def writer(ops:Array Oper)(t:Nat):Option Nat:=(List.range ops.size).find? λi=>match ops[i]? with | some o=>o.dst==some t | none=>false
def iC(ρ:Operand->Value)(ops:Array Oper)(g:Nat):Option Bool:=
 match (ops[g]?).bind (·.dst)with
 | some d=>match ρ (.tmp d)with | .bool b=>some b | _=>none
 | none=>none
def dX(P:Program)(o:Oper)(ρ:Operand->Value)(w:World)(F:Value->World->Prop):Prop:=
 match (execOp ρ o).run P w with
 | .ok (.value v) w'=>F v w'
 | .ok .skip w'=>F undef w'
 | .ok (.enter f args) w'=>Calls P f args w' fun | .returned v,w''=>F v w'' | _,_=>False
 | _=>False
structure oW where
 r:Value->World->Prop
 st:∀v w w',Below w.heap.size w w'->r v w->r v w'
def fQ(V:Value):oW:=⟨λv _=>v=V,λ_ _ _ _ h=>h⟩
def anyR:oW:=⟨λ_ _=>True,λ_ _ _ _ _=>trivial⟩
def rl(l:List oW)(i:Nat)(v:Value)(w:World):Prop:=(l.getD i anyR).r v w
def bE(C:Nat->Oper->Prop):Nat->List Oper->Prop
 | _,[]=>True
 | k,o::r=>C k o/\bE C (k+1) r
theorem aH{C:Nat->Oper->Prop} :bE C k []:=trivial
theorem aj{C:Nat->Oper->Prop}{r:List Oper}(h:C k o)(d:bE C (k+1) r):bE C k (o::r):=⟨h,d⟩
theorem bE.at{C:Nat->Oper->Prop}:∀ {l:List Oper} {k:Nat},bE C k l->∀i o,l[i]?=some o->C (k+i) o
 | [],_,_,_,_,h=>by simp at h
 | o::r,k,h,0,o',hi=>by simp at hi;subst hi;exact h.1
 | o::r,k,h,i+1,o',hi=>by have:=bE.at h.2 i o' (by simpa using hi);rwa [show k+(i+1)=k+1+i by omega]
def qy(P:Program)(ops:Array Oper)(a0:Act)(w0:World)(l:List oW)(i:Nat)(o:Oper):Prop:=
 ∀(ρ:Operand->Value) (y:Nat->Value) (w:World),(∀t j,writer ops t=some j->ρ (.tmp t)=y j)->(∀x,(match x with | .tmp t=>writer ops t=none | _=>True)->ρ x=a0.eval x) ->
  Below w0.heap.size w0 w->(∀j,o.after.toList.any (λe=>e.on==j)=true->rl l j (y j) w) ->
  if Region.wanted o (iC ρ ops)=true then dX P o ρ w (λv w'=>Below w.heap.size w w'/\rl l i v w')else rl l i undef w
def kT(ops:Array Oper)(n:Nat):Bool:=ops.toList.all λo=>match o.dst with | some d=>decide (d<n) | none=>true
theorem ak{l:List oW}(v:Value)(d:(execOp ρ o).run P w = .ok (.value v) w)(h:Region.wanted o (iC ρ ops)=true:=by exact(ag rfl))(m:rl l i v w:=by exact rfl) :
  if Region.wanted o (iC ρ ops)=true then dX P o ρ w (λv w'=>Below w.heap.size w w'/\rl l i v w')else rl l i undef w:=by
 rw[if_pos h];unfold dX;rw[d];exact⟨Below.refl _ _,m⟩
theorem FZ{l:List oW}(d:Region.wanted o (iC ρ ops)=false)(h:rl l i undef w) :
  if Region.wanted o (iC ρ ops)=true then dX P o ρ w (λv w'=>Below w.heap.size w w'/\rl l i v w')else rl l i undef w:=by
 rw[if_neg (by rw[d];exact Bool.false_ne_true)];exact h
theorem aL{l:List oW}{f:FuncId}{args:Array Value}(d:(execOp ρ o).run P w = .ok (.enter f args) w)(p:Calls P f args w λe w' => ∃v,e = .returned v/\Below w.heap.size w w'/\rl l i v w')(m:Region.wanted o (iC ρ ops)=true:=by exact(ag rfl)) :
  if Region.wanted o (iC ρ ops)=true then dX P o ρ w (λv w'=>Below w.heap.size w w'/\rl l i v w')else rl l i undef w:=by
 rw[if_pos m];unfold dX;rw[d];refine p.mono λe w' ⟨v,he,h⟩ => ?_;subst he;exact h
theorem ag{y:Nat->Option Bool}(d:o.guard=none:=by exact rfl):Region.wanted o y=true:=by simp[Region.wanted,d]
theorem ic(g d:Nat)(b h:Bool)(m:ρ (.tmp d) = .bool b)(p:o.guard=some (g,h):=by exact rfl)(s:(ops[g]?).bind (·.dst)=some d:=by exact rfl):Region.wanted o (iC ρ ops)=(b==h):=by
 simp only[Region.wanted,p,iC,s,m];cases b<;>cases h<;>rfl
theorem cz{d:TypeDesc}(p:o.op = .load ty x)(h:ρ x = .pointer (some ⟨b,0,none⟩))(z:aK w b cs T)(m:P.underlying ty=some d)(s:(P.info? ty).map (·.size)=some cs.size)(u:(match d with | .struct _ | .array _ _=>true | _=>false)=true:=by exact rfl):(execOp ρ o).run P w = .ok (.value (.agg cs)) w:=by
 unfold execOp;simp only[p,h,Instr.loadAt,Instr.sureAddr,lD,sF,sH,run_loadVar_row w b T ty cs (0,0) d z m u s]
theorem run_move(d:o.op = .move x\/o.op = .assign x)(h:ρ x=v):(execOp ρ o).run P w = .ok (.value v) w:=by
 rcases d with d|d<;>simp[execOp,d,h]
theorem aW{f:FuncId}{xs:Array Operand}{m:Array TypeId}{d:Func}(p:o.op = .call { callee:=.value (.func f),args:=xs,argTypes:=m })(hρ: ρ (.func f) = .func (.func f) #[] #[])(hf: P.funcs[f]? = some d)(ha: xs.map ρ = args)(hn: (d.name == "runtime.NumGoroutine") = false:=by kernel_rfl)(hb: d.body.isNone = false:=by kernel_rfl) : (execOp ρ o).run P w = .ok (.enter f args) w := by
 have u:execOp ρ o=callFunc f args:=by
  unfold execOp;simp only[p];have s:resolve ρ { callee:=.value (.func f),args:=xs,argTypes:=m } o.type=Sem.pure { target:=.fn (.func f) #[],args:=args }:=by unfold resolve;simp only[hρ,ha];simp[Deferred.ofValue];rfl
  rw[s];show callFunc f (args++#[])=_;simp
 rw[u];have a : ¬ d.name = "runtime.NumGoroutine" := by simpa using hn
 have b : ¬d.body=none:=λh=>by simp[h]at hb
 unfold callFunc;simp[hf,a,b]
theorem QB{op:BinOp}{y:Operand}(p:o.op = .binOp op t x y t')(h:ρ x=vx)(d:ρ y=vy)
 (m:(do eqGuard op t x y vx vy;binOp op t vx vy:Sem Value).run P w = .ok v w):(execOp ρ o).run P w = .ok (.value v) w:=by
 unfold execOp;simp only[p,h,d];rw[lD,m];rfl
theorem NE{c y:Operand}{b:Bool}(h:o.op = .pick c x y)(m:ρ c = .bool b)(d:(if b then ρ x else ρ y)=v):(execOp ρ o).run P w = .ok (.value v) w:=by
 unfold execOp;simp only[h,m];subst d;cases b<;>rfl
theorem Ez{b:Bool}(h:o.op = .unOp .not t x)(d:ρ x = .bool b):(execOp ρ o).run P w = .ok (.value (.bool (!b))) w:=by
 unfold execOp;simp only[h,d];rfl
theorem MW{n:Nat}(m:o.op = .call { callee:=.builtin .len,args:=#[x],argTypes:=#[t] })(d:ρ x = .slice a n c)(h:P.underlying t=some (.slice (P.elem t))):(execOp ρ o).run P w = .ok (.value (.int .i64 n)) w:=by
 unfold execOp;simp only[m];simp[d,resolve,invoke,builtin,run_len_slice _ t o.type a n c h];rfl
theorem Ih(m:o.op = .fieldAddr t x f)(d:ρ x=vx)(h:(Instr.fieldAt t vx f).run P w = .ok v w):(execOp ρ o).run P w = .ok (.value v) w:=by
 unfold execOp;simp only[m,d];rw[lD,h];rfl
theorem run_load(m:o.op = .load t x)(d:ρ x=vx)(h:(Instr.loadAt t vx).run P w = .ok v w):(execOp ρ o).run P w = .ok (.value v) w:=by
 unfold execOp;simp only[m,d];rw[lD,h];rfl
section
variable {P:Program} {ops:Array Oper} {a0:Act} {w0:World} {l:List oW} {i:Nat} {o:Oper}
end
theorem wm{α:Type}(enc:α->List Value)(sz:Nat)(d:∀x,(enc x).length=sz)(l:List α)(i:Nat)(h:i<l.length)(j:Nat)(m:j<sz):(l.flatMap enc)[i*sz+j]?=(enc l[i])[j]?:=by
 have e:(enc l[i])[j]?=some ((enc l[i])[j]'(by rw[d];exact m)):=aM _;rw[e];exact flat_get enc sz d l i h j _ e
theorem NF{α:Type}(enc:α->List Value)(sz:Nat)(d:∀x,(enc x).length=sz)(D:0<sz)(l:List α)(m:Nat)(u:Value)(h:(l.flatMap enc)[m]?=some u) :
  ∃i j,∃p:i<l.length,m=i*sz+j/\j<sz/\(enc l[i])[j]?=some u:=by
 have E:m<l.length*sz:=by
  rcases gB m (l.flatMap enc).length with s|s
  ·rwa [flat_len enc sz d]at s
  ·rw[dP s]at h;cases h
 have z:=rZ m D;have A:=Nat.div_add_mod m sz;have p:m / sz<l.length:=Nat.div_lt_of_lt_mul (by rw[Ex];exact E);refine⟨m / sz,m%sz,p,by rw[Ex];exact A.symm,z,?_⟩;rw[<-wm enc sz d l _ p _ z,Ex,A];exact h
theorem Hg{α:Type}(enc:α->List Value)(sz:Nat)(d:∀x,(enc x).length=sz)(D:0<sz)(l:List α)(k:Nat)(G:k<l.length)(x:α)(off:Nat)(s:Array Value)(A:off+l.length*sz<=s.size)
 (h:∀j u,(l.flatMap enc)[j]?=some u->s[off+j]?=some u):∀j u,((l.set k x).flatMap enc)[j]?=some u->(dO s (off+k*sz) (enc x))[off+j]?=some u:=by
 intro m u E;obtain⟨i,j,K,rfl,H,e⟩:=NF enc sz d D _ m u E;have b : i<l.length:=by simpa using K
 by_cases p:i=k
 ·subst p;rw[show off+(i*sz+j)=(off+i*sz)+j from by omega];have z:(i+1)*sz<=l.length*sz:=rA _ G;rw[rP]at z;exact putAt_in _ _ _ _ _ (by rw[d];omega) (by simpa using e)
 have a:off+(i*sz+j)<off+k*sz\/off+k*sz+(enc x).length<=off+(i*sz+j):=by
  rw[d];rcases rO p with z|z
  ·have:=rA sz z;rw[Nat.succ_mul]at this;omega
  have:=rA sz z;rw[Nat.succ_mul]at this;omega
 rw[putAt_out _ _ _ _ a];refine h _ _ ?_;rw[wm enc sz d l i b j H];rw[KI (λe=>p e.symm)]at e;exact e
theorem Own.put{α:Type}{enc:α->List Value}(m:∀x,(enc x).length=sz)(K:0<sz){e:TypeId}{l:List α}(h:Own w B e sz v l.length (l.flatMap enc))(k:Nat)(p:k<l.length) :
  ∃g off cap d,v = .slice (some ⟨g,off,none⟩) l.length cap/\B<=g/\aK w g d e/\off+k*sz+sz<=d.size/\(∀j u,(enc l[k])[j]?=some u->w.cell? ⟨g,off+k*sz+j,none⟩=some u) /\
   ∀w' x,aK w' g (dO d (off+k*sz) (enc x)) e->Own w' B e sz v l.length ((l.set k x).flatMap enc):=by
 obtain⟨O,h⟩:=h;rcases h with⟨_,S⟩|⟨g,off,cap,d,rfl,E,A,D,M,H,z⟩
 ·omega
 have N:(k+1)*sz<=l.length*sz:=rA _ p;have R:l.length*sz<=cap*sz:=rA _ D;rw[rP]at N;refine⟨g,off,cap,d,rfl,E,A,by omega,λj u s => ?_,λw' x G=>⟨?_,.inr ⟨g,off,cap,_,rfl,E,G,D,M,by rw[size_putAt];exact H,?_⟩⟩⟩
 ·rw[A.cell,qX];refine z _ _ ?_;have a : j<sz:=by
   rcases gB j sz with h|h
   ·exact h
   ·rw[dP (by rw[m];exact h)]at s;cases s
  rw[wm enc sz m l k p j a];exact s
 ·rw[flat_len enc sz m,bV]
 ·exact Hg enc sz m K l k p x off d (by omega) z
theorem Own.put1{f:Int->Value}{e:TypeId}(h:Own w B e 1 v l.length (l.map f))(k:Nat)(u:k<l.length) :
  ∃g off cap,v = .slice (some ⟨g,off,none⟩) l.length cap/\B<=g/\g<w.heap.size/\w.cell? ⟨g,off+k,none⟩=some (f l[k])/\w.frozen? ⟨g,off+k,none⟩=false /\
   ∀x,Own (w.setCell ⟨g,off+k,none⟩ (f x)) B e 1 v l.length ((l.set k x).map f):=by
 rw[<-pE]at h;obtain⟨g,off,cap,A,rfl,z,d,s,p,m⟩:=h.put (sz:=1) (λ_=>rfl) Nat.one_pos k u;rw[Eo]at s p m;refine⟨g,off,cap,rfl,z,d.lt,by simpa using p 0 _ rfl,d.free _,λx => ?_⟩;rw[<-pE];exact m _ x (by simpa[dO]using d.setCell (off+k) (f x))
theorem Sv{α:Type}(enc:α->List Value)(sz:Nat)(d:∀x,(enc x).length=sz)(s:0<sz)(z:Array Value)(x:α)(p:z.toList=enc x)(n:Nat):(madeCells z (n*sz)).toList=(List.replicate n x).flatMap enc:=by
 have b:z.size=sz:=by rw[<-d x,<-p];simp
 apply sI
 ·rw[flat_len enc sz d];simp[size_madeCells]
 intro m E D;have G:m<n*sz:=by simpa[size_madeCells]using E
 have A:((List.replicate n x).flatMap enc)[m]?=some ((List.replicate n x).flatMap enc)[m]:=aM D;obtain⟨i,j,H,e,u,h⟩:=NF enc sz d s _ m _ A;rw[List.getElem_replicate]at h;have a:m%z.size=j:=by rw[b,e,Ex,Nat.mul_add_mod,tQ u]
 simp only[madeCells,Array.toList_map,rJ,Array.toList_range,JE,a];rw[<-p,qz]at h;rw[Array.getElem!_eq_getD,bG,h];rfl
theorem zD(w:World){a:Act}(N:o.guard=none)(l c:Operand)(t:TypeId)(s:o.op=Op.makeSlice t l c){α:Type}(enc:α->List Value)(e:TypeId)(z:Value)(h m:Nat)(x:α)(p:∀x,(enc x).length=h)(h1:P.underlying t=some (.slice e))(h2:(P.info? e).map (λi=>(i.zero,i.size,i.bytes))=some (some z,h,m))(E:z.cells.toList=enc x)(u A:IntKind)(L C:Int)(n:Nat)(K:a.eval l = .int u L)(O:a.eval c = .int A C)(S:L=(n:Int))(hC:C=(n:Int))(b3:n<=maxLen)(U:∀w',Own w' w.heap.size e h (.slice (some ⟨w.heap.size,0,none⟩) n n) n ((List.replicate n x).flatMap enc)->w.grownBy w' none->wpList P ops Q rest (a.put o.dst (.slice (some ⟨w.heap.size,0,none⟩) n n)) w')(H:0<h:=by decide)(b2:m*n<=281474976710656:=by omega) :
  wpList P ops Q (o::rest) a w:=by
 obtain⟨i,M,b,G,R⟩:=info_parts h2;refine wpList_make_full w N l c t s w.heap.size e i z h h1 M b G u A L C n K O S hC (by rw[R];exact b2) b3 (aC _) λw' D d=>U w' ?_ d;rw[Sv enc h p H z.cells x E]at D;exact Own.of_owns D
theorem own_ne{e:TypeId}{n:Nat}(h:Own w B e sz v n xs)(p:aK w g cs T)(u:T≠e):∀m,v.ownBlock=some m->some g≠some m:=by
 intro m a s;cases s;rcases h.2 with⟨rfl,_⟩|⟨A,off,cap,z,rfl,_,d,_⟩
 ·cases a
 cases a;unfold aK at p d;rw[p]at d;simp only[fM,rM]at d;exact u d.2.1
theorem aA{e:TypeId}{n:Nat}(h:Own w B e sz v n xs)(m:aK w g cs T)(d:w.grownBy w' (some g))(p:T≠e:=by decide):Own w' B e sz v n xs:=
 h.grown d (own_ne h m p)
def il(B:Nat)(e:TypeId)(sz n:Nat)(xs:List Value):oW:=⟨λv w=>Own w B e sz v n xs,λ_ _ _ hb h=>h.below hb⟩
theorem iP(m:World->Prop)(h:∀W,Below w.heap.size w W->aK W w.heap.size X TX->W.heap.size=w.heap.size+1->m W):m (w.alloc (.cells X TX)):=
 h _ ((Below.refl _ _).alloc (aC _) _) (aK.new _ _ _) (by simp)
theorem uY(m:World->Prop)(h:∀W,Below w.heap.size w W->aK W w.heap.size X TX->aK W (w.heap.size+1) Y TY->W.heap.size=w.heap.size+2->m W) :
  m ((w.alloc (.cells X TX)).alloc (.cells Y TY)):=by
 refine iP (λW=>m (W.alloc (.cells Y TY))) λA u p s => ?_;refine iP m λz a d b => ?_;rw[s]at d b;exact h z (ah u a) (p.ext a) d (by omega)
theorem SX(m:World->Prop)(h:∀W,Below w.heap.size w W->aK W w.heap.size X TX->aK W (w.heap.size+1) Y TY->aK W (w.heap.size+2) Z TZ->W.heap.size=w.heap.size+3->m W) :
  m (((w.alloc (.cells X TX)).alloc (.cells Y TY)).alloc (.cells Z TZ)):=by
 refine uY (λW=>m (W.alloc (.cells Z TZ))) λD z s p u => ?_;refine iP m λA a d b => ?_;rw[u]at d b;exact h A (ah z a) (s.ext a) (p.ext a) d (by omega)
theorem abg{V:Array Value}(m:World->Prop)(h:∀W,Below w.heap.size w W->aK W w.heap.size X TX->aK W (w.heap.size+1) Y TY->aK W (w.heap.size+2) Z TZ->aK W (w.heap.size+3) V TV->W.heap.size=w.heap.size+4->m W) :
  m ((((w.alloc (.cells X TX)).alloc (.cells Y TY)).alloc (.cells Z TZ)).alloc (.cells V TV)):=by
 refine SX (λW=>m (W.alloc (.cells V TV))) λE A u s p z => ?_;refine iP m λD a d b => ?_;rw[z]at d b;exact h D (ah A a) (u.ext a) (s.ext a) (p.ext a) d (by omega)
theorem Own.drop{α:Type}{enc:α->List Value}(d:∀x,(enc x).length=sz){e:TypeId}{l:List α}(h:Own w B e sz (.slice (some ⟨g,off,none⟩) l.length cap) l.length (l.flatMap enc))(k:Nat)(s:k<=l.length) :
  Own w B e sz (.slice (some ⟨g,off+k*sz,none⟩) (l.drop k).length (cap-k)) (l.drop k).length ((l.drop k).flatMap enc):=by
 obtain⟨O,h⟩:=h;rcases h with⟨K,_⟩|⟨S,p,z,m,A,H,G,R,N,M,D⟩
 ·cases K
 cases A;refine⟨flat_len enc sz d _,.inr ⟨g,off+k*sz,cap-k,m,rfl,H,G,by simp;omega,by omega,?_,λj u E => ?_⟩⟩
 ·have:(cap-k)*sz+k*sz=cap*sz:=by rw[<-rP];congr 1;omega
  omega
 rw[qX];refine D _ _ ?_;have e:l.flatMap enc=(l.take k).flatMap enc++(l.drop k).flatMap enc:=by rw[<-iq,tZ]
 rw[e,jv (by rw[flat_len enc sz d,eG,uW s];omega),flat_len enc sz d,eG,uW s,EH];exact E
theorem gM{l:List oW}(v:Value)(h:Region.wanted o (iC ρ ops)=true)(d:(execOp ρ o).run P w = .ok (.value v) w')(m:Below w.heap.size w w')(p:rl l i v w') :
  if Region.wanted o (iC ρ ops)=true then dX P o ρ w (λv w'=>Below w.heap.size w w'/\rl l i v w')else rl l i undef w:=by
 rw[if_pos h];unfold dX;rw[d];exact⟨m,p⟩
theorem vF(h:w.grownBy w' none):Below w.heap.size w w':=(Below.refl _ _).grown h (aC _) (λk d=>by cases d)
def qg(ops:Array Oper):Nat->Nat->List Nat
 | 0,_=>[]
 | f+1,i=>match ops[i]? with
  | none=>[]
  | some o=>o.after.toList.flatMap λe=>e.on::qg ops f e.on
def je(ops:Array Oper)(m:Nat):Bool:=
 (List.range ops.size).all λi=>decide (i<m)||(List.range i).all λj=>(qg ops ops.size i).contains j
theorem tV{ops:Array Oper}{d:Array Bool}(s:∀i o,ops[i]?=some o->d.getD i false=true->∀e∈o.after,d.getD e.on false=true):∀(f i:Nat),(∀o,ops[i]?=some o->∀e∈o.after,d.getD e.on false=true)->∀j∈qg ops f i,d.getD j false=true
 | 0,_,_,j,hj=>by simp[qg]at hj
 | f+1,i,h,j,hj=>by
  unfold qg at hj;cases ho:ops[i]? with
  | none=>simp[ho]at hj
  | some o=>
   simp only[ho,jS]at hj;obtain⟨e,z,hj⟩:=hj;have m:=nM.1 z;rcases fq.1 hj with rfl|hj
   ·exact h o ho e m
   ·exact tV s f e.on (λu p=>s e.on u p (h o ho e m)) j hj
theorem uE{m:Nat}(h:je ops m=true){d:Array Bool}(z:∀i o,ops[i]?=some o->d.getD i false=true->∀e∈o.after,d.getD e.on false=true)(s:ops[i]?=some o)(A:∀e∈o.after,d.getD e.on false=true)(G:m<=i)(j:Nat)(u:j<i):d.getD j false=true:=by
 have b:i<ops.size:=(iB.1 s).1;have p:=dG.1 h i (dx.2 b);simp only[uN,decide_eq_true_eq]at p;rcases p with p|p
 ·omega
 have D:=dG.1 p j (dx.2 u);refine tV z ops.size i (λE a => ?_) j (by simpa using D);rw[s]at a;cases a;exact A
theorem qJ{m:Nat}(A:kw ops=true)(U:je ops m=true):∀(fuel k:Nat) (s:Array Bool) (a:Act) (w:World),
  m<=k->k<=ops.size->ops.size-k<=fuel->s.size=ops.size->(∀i,i<ops.size->s.getD i false=decide (i<k))->wpList P ops Q (ops.toList.drop k) a w->wpAny P .any ops Q fuel s a w:=by
 intro fuel
 induction fuel with
 | zero=>
  intro k s a w p hk hf g z h;obtain rfl:k=ops.size:=by omega
  refine⟨?_,?_⟩
  ·rw[List.eq_nil_iff_forall_not_mem];intro i D;obtain⟨M,o,u,_⟩:=mem_ready.1 D;have b:i<ops.size:=(iB.1 u).1;have:=z i b;simp[bG,show i<s.size by omega]at M this;rw[M]at this;simp[b]at this
  rw[tu (by simp)]at h;simpa[wpList]using h
 | succ fuel ih=>
  intro k s a w p hk hf g z h;have only:∀i∈Region.ready .any ops s,i=k:=by
   intro i D;obtain⟨M,o,u,f⟩:=mem_ready.1 D;have b:i<ops.size:=(iB.1 u).1;have R:=z i b;have h3:s.getD i false=false:=by simp[bG,show i<s.size by omega]at M ⊢;exact M
   rw[h3]at R;have r:k<=i:=by have:=R.symm;simpa using this
   rcases gB k i with G | K
   ·exfalso;have h4:s.getD k false=true:=uE U (λN o' l n e E=>by
     have q : N < ops.size:=(iB.1 l).1;have h8:=(gD A l).2.1 e E;rw[z N q]at n;have h9:N < k:=by simpa using n
     rw[z e.on (by omega)];simp;omega) u (λe E=>f e E ((gD A u).2.1 e E).1) (by omega) k G
    have O:=z k (by omega);rw[h4]at O;simp at O
   ·omega
  refine⟨λc => ?_,λi D => ?_⟩
  ·rcases gB k ops.size with b|K
   ·exfalso;have:k∈Region.ready .any ops s:=by
     rw[mem_ready];refine⟨?_,ops[k],by simp[b],λe E hb => ?_⟩
     ·have:=z k b;simp[bG,show k<s.size by omega]at this ⊢;exact this
     have h6:=(gD A (i:=k) (o:=ops[k]) (by simp[b])).2.1 e E;rw[z e.on (by omega)];simp[h6.2]
    rw[c]at this;cases this
   rw[tu (by simpa using K)]at h;simpa[wpList]using h
  obtain rfl:=only i D;obtain⟨_,o,u,_⟩:=mem_ready.1 D;have b:i<ops.size:=(iB.1 u).1;have d:ops.toList.drop i=o::ops.toList.drop (i+1):=by rw[xL (by simpa using b)];congr 1;have:=(iB.1 u).2;simpa using this
  rw[d]at h;have S:wpOp P ops Q i (wpList P ops Q (ops.toList.drop (i+1))) a w:=by unfold wpOp;simp only[u];simpa[wpList]using h
  refine wpOp_mono (λa' w' h'=>ih (i+1) _ a' w' (by omega) (by omega) (by omega) (by simp[g]) (λj hj => ?_) h') S
  by_cases H:j=i
  ·subst H;simp[bG,show j<s.size by omega]
  have:=z j hj;simp only[bG,gT (mF H)]at this ⊢;rw[this];congr 1;simp;omega
def Fixed:List oW->Prop
 | []=>True
 | R::l=>(∀v w w',R.r v w->R.r v w')/\Fixed l
theorem fix_nil:Fixed []:=trivial
theorem MR{R:oW}{l:List oW}(h:∀v w w',R.r v w->R.r v w')(d:Fixed l):Fixed (R::l):=⟨h,d⟩
theorem Fixed.at:∀ {l:List oW},Fixed l->∀i v w w',rl l i v w->rl l i v w'
 | [],_,_,_,_,_,_=>by unfold rl;simp[anyR]
 | R::l,h,0,v,w,w',hr=>by unfold rl at hr ⊢; simpa using h.1 v w w' (by simpa using hr)
 | R::l,h,i+1,v,w,w',hr=>by have:=Fixed.at h.2 i v w w';unfold rl at hr this ⊢;simp only[List.getD_cons_succ]at hr ⊢;exact this hr
def yC(F:Value->Prop):oW:=⟨λv _=>F v,λ_ _ _ _ h=>h⟩
def lX(y:Nat->Value)(i:Nat)(v:Value):Nat->Value:=λk=>if k=i then v else y k
def aaK(ops:Array Oper)(m:Nat)(R:Nat->Value->World->Prop)(a0:Act)(J:(Nat->Bool)->(Nat->Value)->World->Prop)(listed:Array Bool)(a:Act)(w:World):Prop:=
 (∀i,m<=i->listed.getD i false=false)/\(∀i o,ops[i]?=some o->listed.getD i false=true->∀e∈o.after,listed.getD e.on false=true)/\∃y:Nat->Value,a = { a0 with tmps:=lay (λi=>listed.getD i false) y ops.toList 0 a0.tmps }/\J (λi=>listed.getD i false) y w/\∀i,i<ops.size->listed.getD i false=true->R i (y i) w
theorem II(m:Nat)(K:kw ops=true)(ht:je ops m=true)(hmn:m<=ops.size)
 (R:Nat->Value->World->Prop) (J:(Nat->Bool)->(Nat->Value)->World->Prop) (hJ0:∀y,J (λ_=>false) y w0.drew) (hstab:∀i v w w',R i v w->R i v w')
 (hstep:∀i o,i<m->ops[i]?=some o->∀L y w,L i=false->(∀j,o.after.toList.any (λe=>e.on==j)=true->L j=true)->J L y w->(∀j,o.after.toList.any (λe=>e.on==j)=true->R j (y j) w) ->
 if Region.wanted o (yielded ops (lay (λ_=>true) y ops.toList 0 a0.tmps))=true then Gives P o { a0 with tmps:=lay (λ_=>true) y ops.toList 0 a0.tmps } w (λv w'=>J (jr L i) (lX y i v) w'/\R i v w')else J (jr L i) (lX y i undef) w/\R i undef w)
 (hend:∀y w,J (λi=>decide (i<m)) y w->(∀i,i<m->R i (y i) w)->wpList P ops Q (ops.toList.drop m) { a0 with tmps:=lay (λi=>decide (i<m)) y ops.toList 0 a0.tmps } w) :
  wpAny P .any ops Q ops.size (Array.replicate ops.size false) a0 w0.drew:=by
 have hG:∀(fuel:Nat) (A:Array Bool) (a:Act) (w:World),A.size=ops.size->A.toList.countP (!·)<=fuel->aaK ops m R a0 J A a w->wpAny P .any ops Q fuel A a w:=by
  intro fuel
  induction fuel with
  | zero=>
   intro A a w n hc hA;have hl:∀i,i<ops.size->A.getD i false=true:=by
    intro i hH;have h0:A.toList.countP (!·)=0:=by omega
    have:=vB.1 h0 (A[i]'(by omega)) (by simp);simpa[bG,show i<A.size by omega]using this
   obtain⟨b,hz,y,ha,hb,hR⟩:=hA;have hC : m=ops.size:=by
    rcases gB m ops.size with h|h
    ·have h1:=hl m h;rw[b m (aC _)]at h1;cases h1
    ·omega
   refine qJ (m:=m) K ht 0 ops.size A a w (by omega) (aC _) (by omega) n (λi D=>by rw[hl i D];simp[D]) ?_;have hf:(λi=>A.getD i false)=λi=>decide (i<m):=by
    funext i
    by_cases D:i<m
    ·rw[hl i (by omega)];simp[D]
    ·rw[b i (by omega)];simp[D]
   rw[hf]at hb;have:=hend y w hb λi D=>hR i (by omega) (hl i (by omega));rw[ha,oL (λi=>A.getD i false) (λi=>decide (i<m)) y ops.toList 0 a0.tmps (λk O=>by
    have hI : k<ops.size:=by simpa using O
    simp only[dL];rw[hl k hI];simp;omega)]
   rw[hC]at this ⊢;exact this
  | succ fuel ih=>
   intro A a w n hc hA
   by_cases E:∀i,i<m->A.getD i false=true
   ·obtain⟨b,hz,y,ha,hb,hR⟩:=hA;have N:∀i,i<ops.size->A.getD i false=decide (i<m):=by
     intro i D
     by_cases H:i<m
     ·rw[E i H];simp[H]
     ·rw[b i (by omega)];simp[H]
    have hp:ops.size-m<=fuel+1:=by
     have h1:A.toList.countP (!·)=ops.size-m:=by
      have e:A.toList=List.replicate m true++List.replicate (ops.size-m) false:=by
       apply qB;intro i
       by_cases D:i<ops.size
       ·have h2:=N i D;rw[qz,wX (show i<A.size by omega)];simp only[bG,wX (show i<A.size by omega),sQ]at h2;rw[h2]
        by_cases H:i<m
        ·rw[jb (by simpa using H)];simp[H]
        rw[jv (by simp;omega)];rw[mY,uA,if_pos (by omega)];simp[H]
       ·rw[dP (by simp;omega),dP (by simp;omega)]
      rw[e];simp[EK,KU]
     omega
    refine qJ (m:=m) K ht (fuel+1) m A a w (aC _) hmn hp n N ?_;have hf:(λi=>A.getD i false)=λi=>decide (i<m):=by
     funext i
     by_cases D:i<m
     ·rw[E i D];simp[D]
     ·rw[b i (by omega)];simp[D]
    rw[hf]at hb;have:=hend y w hb λi D=>hR i (by omega) (E i D);rw[ha,oL (λi=>A.getD i false) (λi=>decide (i<m)) y ops.toList 0 a0.tmps (λk O=>by simp only[dL];exact N k (by simpa using O))];exact this
   have r:Region.ready .any ops A≠[]:=by
    intro hn;apply E;intro i
    induction i using Nat.strongRecOn with
    | ind i ih'=>
     intro H
     by_cases hc' : A.getD i false=true
     ·exact hc'
     exfalso;have D:i<ops.size:=by omega
     have hr:i∈Region.ready .any ops A:=by
      rw[mem_ready];refine⟨?_,ops[i],by simp[D],λe M _ => ?_⟩
      ·simpa[bG,show i<A.size by omega]using hc'
      have:=(gD K (i:=i) (o:=ops[i]) (by simp[D])).2.1 e M;exact ih' e.on this.2 (by omega)
     rw[hn]at hr;cases hr
   refine⟨λh=>absurd h r,λi D => ?_⟩;obtain⟨h1,o,U,hy⟩:=mem_ready.1 D;have hH:i<ops.size:=(iB.1 U).1;obtain⟨hB,d,_⟩:=gD K U;have N:∀e∈o.after,A.getD e.on false=true:=λe M=>hy e M (d e M).1;have H:i<m:=by
    rcases gB i m with h|h
    ·exact h
    exfalso;apply E;intro j hj;exact uE ht hA.2.1 U N h j (by omega)
   obtain⟨b,hz,y,ha,hb,hR⟩:=hA;have z:∀v w',J (jr (λi=>A.getD i false) i) (lX y i v) w'->R i v w'->wpAny P .any ops Q fuel (A.setIfInBounds i true) (a.put o.dst v) w':=by
    intro v w' hF hv;have hf:jr (λi=>A.getD i false) i=λk=>(A.setIfInBounds i true).getD k false:=by
     funext k;unfold jr
     by_cases G:k=i
     ·subst G;simp[bG,show k<A.size by omega]
     rw[if_neg G];simp[bG,gT (mF G)]
    rw[hf]at hF;refine ih _ _ _ (by simp[n]) ?_ ⟨λk O => ?_,λk o' u O e M => ?_,λk=>if k=i then v else y k,?_,hF,?_⟩
    ·have hD:i<A.toList.length:=by simp;omega
     have c:A.toList[i]=false:=by simpa[bG,show i<A.size by omega]using h1
     have:=Jy (p:=(!·)) (l:=A.toList) (i:=i) (a:=true) hD;rw[c]at this;have hK:0<A.toList.countP (!·):=zu.2 ⟨A.toList[i],fA hD,by rw[c];rfl⟩;simp only[BL];simp only[JC,Em,if_true,oz,if_false]at this;omega
    ·have:=b k O;simp only[bG,gT (show i≠k by omega)]at this ⊢;exact this
    ·have up:∀q,A.getD q false=true->(A.setIfInBounds i true).getD q false=true:=by
      intro q hq
      by_cases hqi:q=i
      ·subst hqi;simp[bG,show q<A.size by omega]
      ·simpa[bG,gT (mF hqi)]using hq
     apply up
     by_cases G:k=i
     ·subst G;rw[U]at u;cases u;exact N e M
     ·exact hz k o' u (by simpa[bG,gT (mF G)]using O) e M
    ·rw[ha,Ej K U n v]
    intro k O hJ
    by_cases G:k=i
    ·subst G;simpa using hv
    have:A.getD k false=true:=by simpa[bG,gT (mF G)]using hJ
    simp only[G,if_false];exact hstab _ _ _ _ (hR k O this)
   have hh:∀t∈o.looksAt ops,a.tmps[t]?=(lay (λ_=>true) y ops.toList 0 a0.tmps)[t]?:=λt ht=>by rw[ha];exact zz K U N t ht
   have hu:execOp a.eval o=execOp ({ a0 with tmps:=lay (λ_=>true) y ops.toList 0 a0.tmps }:Act).eval o:=by
    refine execOp_congr o hB λx hx => ?_;cases x with
    | tmp t=>
     have:=hh t (xm _ (Ef.2 ⟨.tmp t,by simpa using hx,rfl⟩));simp[Act.eval,this]
    | _=>rfl
   have f:Region.wanted o (yielded ops a.tmps)=Region.wanted o (yielded ops (lay (λ_=>true) y ops.toList 0 a0.tmps)):=by
    unfold Region.wanted;cases hg:o.guard with
    | none=>rfl
    | some gw=>
     obtain⟨g,want⟩:=gw;have:yielded ops a.tmps g=yielded ops (lay (λ_=>true) y ops.toList 0 a0.tmps) g:=by
      unfold yielded;cases hd:(ops[g]?).bind (·.dst)with
      | none=>rfl
      | some t=>
       have:=hh t (xB _ (by simp[hg,hd]));simp[this]
     simp only[this]
   have hs:=hstep i o H U (λi=>A.getD i false) y w (by simpa[bG,show i<A.size by omega]using h1) (λj hj=>by
    obtain⟨e,M,hw⟩:=kW.1 hj;have hm : e.on=j:=by simpa using hw
    subst hm;exact N e (nM.1 M)) hb (λj hj=>by
    obtain⟨e,M,hw⟩:=kW.1 hj;have hm : e.on=j:=by simpa using hw
    subst hm;have hE:=nM.1 M;exact hR e.on (by have:=(d e hE).2;omega) (N e hE))
   by_cases S:Region.wanted o (yielded ops (lay (λ_=>true) y ops.toList 0 a0.tmps))=true
   ·rw[if_pos S]at hs;exact qE U (by rw[f];exact S) hu hs λv w' h=>z v w' h.1 h.2
   rw[if_neg S]at hs;unfold wpOp;simp only[U];rw[if_neg (by rw[f];exact S)];exact z undef w hs.1 hs.2
 refine hG ops.size _ _ _ (by simp) ?_ ⟨λi _ => ?_,λi o' u D => ?_,λ_=>undef,?_,?_,?_⟩
 ·simpa using za (p:=(!·)) (l:=List.replicate ops.size false)
 ·simp[bG,pJ];split<;>rfl
 ·exfalso;have:i<ops.size:=(iB.1 u).1;simp[bG,this]at D
 ·have e:lay (λi=>(Array.replicate ops.size false).getD i false) (λ_=>undef) ops.toList 0 a0.tmps=a0.tmps:=by apply sM;intro s;exact ja _ _ s _ 0 _ λk o' O hd=>by simp[bG,pJ];split<;>rfl
  rw[e]
 ·have e:(λi=>(Array.replicate ops.size false).getD i false)=λ_=>false:=by funext i;simp[bG,pJ];split<;>rfl
  rw[e];exact hJ0 _
 intro i D N;simp[bG,D]at N
def sD(P:Program)(ops:Array Oper)(a0:Act)(J:(Nat->Bool)->(Nat->Value)->World->Prop)(l:List oW)(i:Nat)(o:Oper):Prop:=
 ∀(ρ:Operand->Value) (y:Nat->Value) (w:World) (L:Nat->Bool),(∀t j,writer ops t=some j->ρ (.tmp t)=y j)->(∀x,(match x with | .tmp t=>writer ops t=none | _=>True)->ρ x=a0.eval x) ->
  L i=false->(∀j,o.after.toList.any (λe=>e.on==j)=true->L j=true)->J L y w->(∀j,o.after.toList.any (λe=>e.on==j)=true->rl l j (y j) w) ->
  if Region.wanted o (iC ρ ops)=true then dX P o ρ w (λv w'=>J (jr L i) (lX y i v) w'/\rl l i v w')else J (jr L i) (lX y i undef) w/\rl l i undef w
theorem IW(m:Nat)(l:List oW)(J:(Nat->Bool)->(Nat->Value)->World->Prop)(O:∀L y w w',Below w.heap.size w w'->J L y w->J L y w')(S:∀y,J (λ_=>false) y w0)(G:Fixed l)(E:kw ops=true)(ht:je ops m=true)(R:m<=ops.size)
 (n:Nat) (hn:a0.tmps.size=n) (N:kT ops n=true)
 (A:bE (sD P ops a0 J l) 0 (ops.toList.take m))
 (H:∀y w,J (λi=>decide (i<m)) y w->(∀i,i<m->rl l i (y i) w)->wpList P ops Q (ops.toList.drop m) { a0 with tmps:=lay (λi=>decide (i<m)) y ops.toList 0 a0.tmps } w) :
  wpAny P .any ops Q ops.size (Array.replicate ops.size false) a0 w0.drew:=by
 refine II m E ht R (rl l) J (λy=>O _ y w0 w0.drew ⟨rfl,rfl,rfl,aC _,λ_ _=>rfl⟩ (S y)) (λi v w w' h=>G.at i v w w' h) (λi o u hi L y w hc hf hb hd => ?_) H;have f:∀t j,writer ops t=some j->({ a0 with tmps:=lay (λ_=>true) y ops.toList 0 a0.tmps }:Act).eval (.tmp t)=y j:=by
  intro t j M;unfold writer at M;have h1:=vM M;have h2:=dx.1 (sZ M);cases ho:ops[j]? with
  | none=>simp[ho]at h1
  | some p=>
   have a : p.dst=some t:=by simpa[ho]using h1
   have s:t<a0.tmps.size:=by have:=dG.1 N p (nM.2 (Ap ho));rw[hn];simpa[a]using this
   have hu:∀K D,ops.toList[K]?=some D->D.dst=some t->K = j:=by
    intro K D b ha;rcases((gD E (i:=K) (o:=D) (by simpa using b)).2.2 j p t ho a).1 with h|h
    ·exact h
    ·exact absurd ha h
   have:=mV (λ_=>true) y t ops.toList 0 a0.tmps j p (by simpa using ho) a rfl hu s;simp[Act.eval,this]
 have r:∀x,(match x with | .tmp t=>writer ops t=none | _=>True)->({ a0 with tmps:=lay (λ_=>true) y ops.toList 0 a0.tmps }:Act).eval x=a0.eval x:=by
  intro x U;cases x with
  | tmp t=>
   have:(lay (λ_=>true) y ops.toList 0 a0.tmps)[t]?=a0.tmps[t]?:=by
    refine ja _ y t _ 0 _ λk D hk a => ?_;exfalso;simp only[writer]at U;have b : ops[k]?=some D:=by simpa using hk
    have e:k<ops.size:=(iB.1 b).1;have:=sG.1 U k (dx.2 e);simp[b,a]at this
   simp[Act.eval,this]
  | _=>rfl
 have c:Region.wanted o (yielded ops (lay (λ_=>true) y ops.toList 0 a0.tmps))=Region.wanted o (iC ({ a0 with tmps:=lay (λ_=>true) y ops.toList 0 a0.tmps }:Act).eval ops):=by
  congr 1;funext g;unfold yielded iC;cases (ops[g]?).bind (·.dst)with
  | none=>rfl
  | some d=>
   simp only[Ci,Act.eval,bG];generalize (lay (λ_=>true) y ops.toList 0 a0.tmps)[d]?=q;cases q with
   | none=>rfl
   | some v=>cases v<;>rfl
 have z : (ops.toList.take m)[i]?=some o:=by rw[jO,if_pos u];simpa using hi
 have:=bE.at A i o z _ y w L f r (by rw[dL];exact hc) hf hb hd;rw[dL]at this;rw[c];exact this
theorem UD(m:Nat)(l:List oW)(J:(Nat->Bool)->(Nat->Value)->World->Prop)(u:∀L y w w',Below w.heap.size w w'->J L y w->J L y w')(D:∀y,J (λ_=>false) y w0)(h:Fixed l)(H:P.follows .mixedOrders=true)(z:kw ops=true)(E:je ops m=true)(A:m<=ops.size)
 (n:Nat) (G:a0.tmps.size=n) (s:kT ops n=true)
 (d:bE (sD P ops a0 J l) 0 (ops.toList.take m))
 (p:∀y w,J (λi=>decide (i<m)) y w->(∀i,i<m->rl l i (y i) w)->wpList P ops Q (ops.toList.drop m) { a0 with tmps:=lay (λi=>decide (i<m)) y ops.toList 0 a0.tmps } w) :
  (Code.region id ops true).wp P Q a0 w0:=
 wp_region_any H (IW m l J u D h z E A n G s d p)
theorem yM{l:List oW}{J:(Nat->Bool)->(Nat->Value)->World->Prop}(m:∀L y w w',Below w.heap.size w w'->J L y w->J L y w')(s:J L y w)(h:if Region.wanted o (iC ρ ops)=true then dX P o ρ w (λv w'=>Below w.heap.size w w'/\rl l i v w')else rl l i undef w)(d:∀v w,J L y w->J (jr L i) (lX y i v) w:=by exact(λ_ _ h=>gK (by decide) h)) :
  if Region.wanted o (iC ρ ops)=true then dX P o ρ w (λv w'=>J (jr L i) (lX y i v) w'/\rl l i v w')else J (jr L i) (lX y i undef) w/\rl l i undef w:=by
 split at h
 ·rename_i u;rw[if_pos u];unfold dX at h ⊢;split at h
  ·exact⟨d _ _ (m _ _ _ _ h.1 s),h.2⟩
  ·exact⟨d _ _ (m _ _ _ _ h.1 s),h.2⟩
  ·refine zg h λe z p => ?_;cases e with
   | returned v=>exact⟨d _ _ (m _ _ _ _ p.1 s),p.2⟩
   | panicked c=>exact p.elim
   | outgrown=>exact p.elim
  ·exact h.elim
 rename_i u;rw[if_neg u];exact⟨d _ _ s,h⟩
theorem Mk{l:List oW}{J:(Nat->Bool)->(Nat->Value)->World->Prop}(f:FuncId)(args:Array Value)(m:Region.wanted o (iC ρ ops)=true)(d:(execOp ρ o).run P w = .ok (.enter f args) w)
 (p:Calls P f args w λe w' => ∃v,e = .returned v/\J (jr L i) (lX y i v) w'/\rl l i v w') :
  if Region.wanted o (iC ρ ops)=true then dX P o ρ w (λv w'=>J (jr L i) (lX y i v) w'/\rl l i v w')else J (jr L i) (lX y i undef) w/\rl l i undef w:=by
 rw[if_pos m];unfold dX;rw[d];refine p.mono λe w' ⟨v,he,h⟩ => ?_;subst he;exact h
theorem Oj{l:List oW}{J:(Nat->Bool)->(Nat->Value)->World->Prop}(v:Value)(h:Region.wanted o (iC ρ ops)=true)(d:(execOp ρ o).run P w = .ok (.value v) w')
 (p:J (jr L i) (lX y i v) w') (m:rl l i v w') :
  if Region.wanted o (iC ρ ops)=true then dX P o ρ w (λv w'=>J (jr L i) (lX y i v) w'/\rl l i v w')else J (jr L i) (lX y i undef) w/\rl l i undef w:=by
 rw[if_pos h];unfold dX;rw[d];exact⟨p,m⟩
theorem Oy{a:Act}{F G:Value->World->Prop}(h:Gives P o a w F)(d:∀v w',F v w'->G v w'):Gives P o a w G:=by
 unfold Gives at h ⊢;generalize (execOp a.eval o).run P w=r at h;cases r with
 | ok n w'=>
  cases n<;>first
   | exact d _ _ h
   | exact zg h λe p m=>by cases e<;>first | exact d _ _ m | exact m
   | exact h
 | halt x w'=>exact h
theorem YY{R R' : Nat->Value->Prop}(h:∀k,L k=true->R k (y k))(m:R' i v)(p:∀k v,R k v->R' k v)(k:Nat)(d:jr L i k=true):R' k (lX y i v k):=by
 unfold jr at d;unfold lX
 by_cases e:k=i
 ·rw[if_pos e,e];exact m
 rw[if_neg e]at d ⊢;exact p _ _ (h k d)
theorem Ec(m:Nat)(S:P.follows .mixedOrders=true)(D:kw ops=true)(M:je ops m=true)(E:m<=ops.size)
 (R:Nat->Value->World->Prop) (p:∀i v w w',Below w.heap.size w w'->R i v w->R i v w')
 (d:∀i o,i<m->ops[i]?=some o->∀y w,Below w0.heap.size w0 w->(∀j,o.after.toList.any (λe=>e.on==j)=true->R j (y j) w) ->
 if Region.wanted o (yielded ops (lay (λ_=>true) y ops.toList 0 a0.tmps))=true then Gives P o { a0 with tmps:=lay (λ_=>true) y ops.toList 0 a0.tmps } w (λv w'=>Below w.heap.size w w'/\R i v w')else R i undef w)
 (z:∀y w,Below w0.heap.size w0 w->(∀i,i<m->R i (y i) w)->wpList P ops Q (ops.toList.drop m) { a0 with tmps:=lay (λi=>decide (i<m)) y ops.toList 0 a0.tmps } w) :
  (Code.region id ops true).wp P Q a0 w0:=
 wp_region_any S (II m D M E (λ_ _ _=>True) (λL y w=>Below w0.heap.size w0 w/\∀i,L i=true->R i (y i) w) (λy=>⟨⟨rfl,rfl,rfl,aC _,λ_ _=>rfl⟩,λi h=>(by cases h)⟩) (λ_ _ _ _ _=>trivial) (λi o G O L y w hL hd s _=>by
  have h:=d i o G O y w s.1 (λj hj=>s.2 j (hd j hj));have u:∀v w',Below w.heap.size w w'->R i v w'->Below w0.heap.size w0 w'/\∀k,jr L i k=true->R k (lX y i v k) w':=λv w' K N=>⟨ah s.1 K,λk U=>YY s.2 N (λk v h=>p k v _ _ K h) k U⟩;split at h
  ·rename_i A;rw[if_pos A];exact Oy h λv w' H=>⟨u v w' H.1 H.2,trivial⟩
  rename_i A;rw[if_neg A];exact⟨u undef w (Below.refl _ _) h,trivial⟩) (λy w s _=>z y w s.1 λi G=>s.2 i (decide_eq_true G)))
theorem WN(m:Nat)(l:List oW)(hm:P.follows .mixedOrders=true)(E:kw ops=true)(ht:je ops m=true)(N:m<=ops.size)
 (n:Nat) (hn:a0.tmps.size=n) (M:kT ops n=true)
 (A:bE (qy P ops a0 w0 l) 0 (ops.toList.take m))
 (G:∀y w,Below w0.heap.size w0 w->(∀i,i<m->rl l i (y i) w)->wpList P ops Q (ops.toList.drop m) { a0 with tmps:=lay (λi=>decide (i<m)) y ops.toList 0 a0.tmps } w) :
  (Code.region id ops true).wp P Q a0 w0:=by
 refine Ec m hm E ht N (rl l) (λi v w w' O h=>(l.getD i anyR).st v w w' O h) (λi o u hi y w O hd => ?_) G;have f:∀t j,writer ops t=some j->({ a0 with tmps:=lay (λ_=>true) y ops.toList 0 a0.tmps }:Act).eval (.tmp t)=y j:=by
  intro t j K;unfold writer at K;have S:=vM K;have h2:=dx.1 (sZ K);cases ho:ops[j]? with
  | none=>simp[ho]at S
  | some p=>
   have a : p.dst=some t:=by simpa[ho]using S
   have s:t<a0.tmps.size:=by have:=dG.1 M p (nM.2 (Ap ho));rw[hn];simpa[a]using this
   have U:∀H D,ops.toList[H]?=some D->D.dst=some t->H = j:=by
    intro H D b ha;rcases((gD E (i:=H) (o:=D) (by simpa using b)).2.2 j p t ho a).1 with h|h
    ·exact h
    ·exact absurd ha h
   have:=mV (λ_=>true) y t ops.toList 0 a0.tmps j p (by simpa using ho) a rfl U s;simp[Act.eval,this]
 have r:∀x,(match x with | .tmp t=>writer ops t=none | _=>True)->({ a0 with tmps:=lay (λ_=>true) y ops.toList 0 a0.tmps }:Act).eval x=a0.eval x:=by
  intro x R;cases x with
  | tmp t=>
   have:(lay (λ_=>true) y ops.toList 0 a0.tmps)[t]?=a0.tmps[t]?:=by
    refine ja _ y t _ 0 _ λk D hk a => ?_;exfalso;simp only[writer]at R;have b : ops[k]?=some D:=by simpa using hk
    have e:k<ops.size:=(iB.1 b).1;have:=sG.1 R k (dx.2 e);simp[b,a]at this
   simp[Act.eval,this]
  | _=>rfl
 have c:Region.wanted o (yielded ops (lay (λ_=>true) y ops.toList 0 a0.tmps))=Region.wanted o (iC ({ a0 with tmps:=lay (λ_=>true) y ops.toList 0 a0.tmps }:Act).eval ops):=by
  congr 1;funext g;unfold yielded iC;cases (ops[g]?).bind (·.dst)with
  | none=>rfl
  | some d=>
   simp only[Ci,Act.eval,bG];generalize (lay (λ_=>true) y ops.toList 0 a0.tmps)[d]?=q;cases q with
   | none=>rfl
   | some v=>cases v<;>rfl
 have z : (ops.toList.take m)[i]?=some o:=by rw[jO,if_pos u];simpa using hi
 have:=bE.at A i o z _ y w f r O hd;rw[dL]at this;rw[c];exact this
inductive RV where
 | v (V:Value)
 | r (i:Nat) (R:oW)
def RV.R:RV->oW
 | .v V=>fQ V
 | .r _ R=>R
def rvs:List RV->List oW
 | []=>[]
 | a::l=>a.R::rvs l
def rvN:RV:=.r 0 anyR
theorem rvs_at:∀(l:List RV) (i:Nat),(rvs l).getD i anyR=(l.getD i rvN).R
 | [],_=>rfl
 | _::_,0=>rfl
 | _::l,i+1=>by have:=rvs_at l i;simpa[rvs]using this
theorem LK{l:List RV}(d:l.getD i rvN = .v V)(e:v=V):rl (rvs l) i v w:=by
 unfold rl;rw[rvs_at,d];exact e
def rvK:List RV->Nat->Option Value
 | .v V::_,0=>some V
 | _::l,k+1=>rvK l k
 | _,_=>none
theorem rvK_at:∀ {l:List RV} {k:Nat} {V:Value},rvK l k=some V->l.getD k rvN = .v V
 | .v V::_,0,_,h=>by cases h;rfl
 | .v _::l,k+1,_,h=>by simpa using rvK_at (l:=l) (k:=k) h
 | .r _ _::l,k+1,_,h=>by simpa using rvK_at (l:=l) (k:=k) h
 | .r _ _::_,0,_,h=>by cases h
 | [],0,_,h=>by cases h
 | [],_+1,_,h=>by cases h
def kt(ops:Array Oper)(a0:Act)(l:List RV)(o:Oper)(t:Nat):Option Value:=
 match writer ops t with
 | some k=>cond (o.after.toList.any λe=>e.on==k) (rvK l k) none
 | none=>a0.tmps.toList[t]?
def kx(ops:Array Oper)(a0:Act)(l:List RV)(o:Oper):Operand->Option Value
 | .tmp t=>kt ops a0 l o t
 | .const v=>some v
 | .func f=>some (.func (.func f) #[] #[])
 | .global g=>some (.pointer (some ⟨g,0,none⟩))
def kg(ops:Array Oper)(a0:Act)(l:List RV)(o:Oper):Option Bool:=
 match o.guard with
 | none=>some true
 | some (g,want)=>match (ops[g]?).bind (·.dst)with
  | none=>none
  | some d=>match kt ops a0 l o d with
   | some (.bool b)=>some (b==want)
   | some (.tuple _)=>some false
   | _=>none
def kop(ops:Array Oper)(a0:Act)(l:List RV)(o:Oper):Option Value:=
 match o.op with
 | .move x=>kx ops a0 l o x
 | .assign x=>kx ops a0 l o x
 | .nilCheck x=>match kx ops a0 l o x with
  | some (.pointer (some a))=>some (.pointer (some a))
  | _=>none
 | .unOp .not _ x=>match kx ops a0 l o x with
  | some (.bool true)=>some (.bool false)
  | some (.bool false)=>some (.bool true)
  | _=>none
 | .pick c x y=>match kx ops a0 l o c with
  | some (.bool true)=>kx ops a0 l o x
  | some (.bool false)=>kx ops a0 l o y
  | _=>none
 | _=>none
def ks(ops:Array Oper)(a0:Act)(l:List RV)(o:Oper):Option Value:=
 match kg ops a0 l o with
 | some true=>kop ops a0 l o
 | some false=>some undef
 | none=>none
section
variable {P:Program} {ops:Array Oper} {a0:Act} {w0:World} {l:List RV} {i:Nat} {o:Oper}
def Kn(ops:Array Oper)(a0:Act)(l:List RV)(o:Oper)(ρ:Operand->Value)(y:Nat->Value)(w:World):Prop:=
 (∀t j,writer ops t=some j->ρ (.tmp t)=y j)/\(∀x,(match x with | .tmp t=>writer ops t=none | _=>True)->ρ x=a0.eval x)/\∀j,o.after.toList.any (λe=>e.on==j)=true->rl (rvs l) j (y j) w
theorem Zp{t:Nat}(h:kt ops a0 l o t=some v)(m:Kn ops a0 l o ρ y w):ρ (.tmp t)=v:=by
 unfold kt at h;cases hw:writer ops t with
 | none=>
  rw[hw]at h;have d : a0.tmps.toList[t]?=some v:=h;rw[m.2.1 (.tmp t) hw];simp only[qz]at d;simp[Act.eval,d]
 | some k=>
  rw[hw]at h;have d : cond (o.after.toList.any λe=>e.on==k) (rvK l k) none=some v:=h;cases ha:o.after.toList.any λe=>e.on==k with
  | false=>rw[ha]at d; cases d
  | true=>
   rw[ha]at d;have p:=m.2.2 k ha;unfold rl at p;rw[rvs_at,rvK_at d]at p;exact(m.1 t k hw).trans p
theorem bi(h:kx ops a0 l o x=some v)(d:Kn ops a0 l o ρ y w):ρ x=v:=by
 cases x with
 | tmp t=>exact Zp h d
 | const c=>rw[d.2.1 (.const c) trivial];cases h;rfl
 | func f=>rw[d.2.1 (.func f) trivial];cases h;rfl
 | global g=>rw[d.2.1 (.global g) trivial];cases h;rfl
theorem Hz{b:Bool}(h:kg ops a0 l o=some b)(p:Kn ops a0 l o ρ y w):Region.wanted o (iC ρ ops)=b:=by
 unfold kg at h;unfold Region.wanted;cases hg:o.guard with
 | none=>rw[hg]at h;cases h;rfl
 | some q=>
  obtain⟨g,m⟩:=q;rw[hg]at h;simp only at h;cases hd:(ops[g]?).bind (·.dst)with
  | none=>rw[hd]at h;cases h
  | some d=>
   rw[hd]at h;simp only at h;cases hv:kt ops a0 l o d with
   | none=>rw[hv]at h;cases h
   | some v=>
    rw[hv]at h;have e:=Zp hv p;unfold iC;simp only[hd,e];cases v with
    | bool c=>cases h;cases c<;>cases m<;>rfl
    | tuple c=>cases h;rfl
    | _=>cases h
def AQ(P:Program)(ops:Array Oper)(a0:Act)(l:List RV)(i:Nat)(o:Oper):Prop:=
 ∀(ρ:Operand->Value) (y:Nat->Value) (w:World),Kn ops a0 l o ρ y w->(Region.wanted o (iC ρ ops)=false/\rl (rvs l) i undef w)\/(Region.wanted o (iC ρ ops)=true/\∃v,(execOp ρ o).run P w = .ok (.value v) w/\rl (rvs l) i v w)
theorem AQ.run(p:kg ops a0 l o=some true)(m:l.getD i rvN = .v V)(h:∀ρ y w,Kn ops a0 l o ρ y w->(execOp ρ o).run P w = .ok (.value V) w):AQ P ops a0 l i o:=λρ y w d => .inr ⟨Hz p d,V,h ρ y w d,LK m rfl⟩
theorem Zf(h:ks ops a0 l o=some V)(z:l.getD i rvN = .v V):AQ P ops a0 l i o:=by
 unfold ks at h;cases hg:kg ops a0 l o with
 | none=>rw[hg]at h;cases h
 | some b=>
  rw[hg]at h;cases b with
  | false=>
   cases h;exactλρ y w p => .inl ⟨Hz hg p,LK z rfl⟩
  | true=>
   have d : kop ops a0 l o=some V:=h;refine AQ.run hg z λρ y w p => ?_;unfold kop at d;split at d
   ·rename_i x m;exact run_move (.inl m) (bi d p)
   ·rename_i x m;exact run_move (.inr m) (bi d p)
   ·rename_i x m;split at d
    ·rename_i a s;cases d;have e:=bi s p;simp[execOp,go_sem,m,e]
    ·cases d
   ·rename_i t x m;split at d
    ·rename_i s;cases d; exact Ez m (bi s p)
    ·rename_i s;cases d; exact Ez m (bi s p)
    ·cases d
   ·rename_i c x A m;split at d
    ·rename_i u;exact NE m (bi u p) (bi d p)
    ·rename_i u;exact NE m (bi u p) (bi d p)
    ·cases d
   ·cases d
theorem AQ.asked(h:AQ P ops a0 l i o):qy P ops a0 w0 (rvs l) i o:=λρ y w p s _ u=>by
 rcases h ρ y w ⟨p,s,u⟩with⟨m,d⟩|⟨m,v,d,z⟩
 ·exact FZ m d
 ·exact ak v (h:=m) d (m:=z)
theorem AQ.askedQ{J:(Nat->Bool)->(Nat->Value)->World->Prop}(d:∀L y w w',Below w.heap.size w w'->J L y w->J L y w')(u:∀L y v w,(∀j,o.after.toList.any (λe=>e.on==j)=true->L j=true)->J L y w->J (jr L i) (lX y i v) w)(h:AQ P ops a0 l i o):sD P ops a0 J (rvs l) i o:=λρ y w L A D _ m z E=>by
 rcases h ρ y w ⟨A,D,E⟩with⟨s,p⟩|⟨s,v,p,G⟩
 ·exact yM d (d:=(λv w=>u L y v w m)) z (FZ s p)
 ·exact yM d (d:=(λv w=>u L y v w m)) z (ak v (h:=s) p (m:=G))
variable {C:Nat->Oper->Prop} {r:List Oper}
theorem Xo(m:AQ P ops a0 l i o->C i o)(h:(ks ops a0 l o).map RV.v=some (l.getD i rvN))(d:bE C (i+1) r):bE C i (o::r):=⟨m (by
 cases hk:ks ops a0 l o with
 | none=>rw[hk]at h;cases h
 | some V=>
  rw[hk]at h;exact Zf hk (aU h).symm),d⟩
theorem Gk(h:(ks ops a0 l o).map RV.v=some (l.getD i rvN))(d:bE (qy P ops a0 w0 (rvs l)) (i+1) r):bE (qy P ops a0 w0 (rvs l)) i (o::r):=Xo AQ.asked h d
def kfa(ops:Array Oper)(a0:Act)(l:List RV)(o:Oper):Option (TypeId × Value × Nat):=
 match kg ops a0 l o with
 | some true=>match o.op with
  | .fieldAddr t x f=>(kx ops a0 l o x).map λv=>(t,v,f)
  | _=>none
 | _=>none
theorem Po(A:AQ P ops a0 l i o->C i o)(b k:Nat)(h:kfa ops a0 l o=some (t,v,f))(d:l.getD i rvN = .v (.pointer (some ⟨b,k,none⟩)))(p:bE C (i+1) r)(z:∀w,(Instr.fieldAt t v f).run P w = .ok (.pointer (some ⟨b,k,none⟩)) w:=by intro _;kernel_rfl):bE C i (o::r):=by
 refine⟨A ?_,p⟩;unfold kfa at h;split at h
 ·rename_i u;split at h
  ·rename_i t' x D m;cases hx:kx ops a0 l o x with
   | none=>rw[hx]at h;cases h
   | some v'=>
    rw[hx]at h;cases h;exact AQ.run u d λρ y w s=>Ih m (bi hx s) (z w)
  ·cases h
 ·cases h
theorem Gf(b k:Nat)(h:kfa ops a0 l o=some (t,v,f))(d:l.getD i rvN = .v (.pointer (some ⟨b,k,none⟩)))(m:bE (qy P ops a0 w0 (rvs l)) (i+1) r)(p:∀w,(Instr.fieldAt t v f).run P w = .ok (.pointer (some ⟨b,k,none⟩)) w:=by intro _;kernel_rfl):bE (qy P ops a0 w0 (rvs l)) i (o::r):=Po AQ.asked b k h d m p
theorem ZA(A:AQ P ops a0 l i o->C i o){n:Nat}(z:kg ops a0 l o=some true)(p:o.op = .call { callee:=.builtin .len,args:=#[x],argTypes:=#[t] })(d:kx ops a0 l o x=some (.slice a n c))(m:l.getD i rvN = .v (.int .i64 n))(s:bE C (i+1) r)(h:P.underlying t=some (.slice (P.elem t)):=by rfl):bE C i (o::r):=
 ⟨A (AQ.run z m λρ y w u=>MW p (bi d u) h),s⟩
theorem Gn{n:Nat}(u:kg ops a0 l o=some true)(p:o.op = .call { callee:=.builtin .len,args:=#[x],argTypes:=#[t] })(d:kx ops a0 l o x=some (.slice a n c))(m:l.getD i rvN = .v (.int .i64 n))(s:bE (qy P ops a0 w0 (rvs l)) (i+1) r)(h:P.underlying t=some (.slice (P.elem t)):=by rfl):bE (qy P ops a0 w0 (rvs l)) i (o::r):=ZA AQ.asked u p d m s h
theorem ZJ(D:AQ P ops a0 l i o->C i o)(V:Value){op:BinOp}{y:Operand}(s:∀w,(do eqGuard op t x y vx vy;binOp op t vx vy:Sem Value).run P w = .ok V w)(A:kg ops a0 l o=some true)(u:o.op = .binOp op t x y t')(m:kx ops a0 l o x=some vx)(h:kx ops a0 l o y=some vy)(p:l.getD i rvN = .v V)(z:bE C (i+1) r):bE C i (o::r):=
 ⟨D (AQ.run A p λρ y w d=>QB u (bi m d) (bi h d) (s w)),z⟩
theorem Gb(V:Value){op:BinOp}{y:Operand}(p:∀w,(do eqGuard op t x y vx vy;binOp op t vx vy:Sem Value).run P w = .ok V w)(z:kg ops a0 l o=some true)(s:o.op = .binOp op t x y t')(h:kx ops a0 l o x=some vx)(d:kx ops a0 l o y=some vy)(m:l.getD i rvN = .v V)(u:bE (qy P ops a0 w0 (rvs l)) (i+1) r):bE (qy P ops a0 w0 (rvs l)) i (o::r):=ZJ AQ.asked V p z s h d m u
theorem aac(s:AQ P ops a0 l i o->C i o)(V:Value)(h:∀ρ y w,Kn ops a0 l o ρ y w->(execOp ρ o).run P w = .ok (.value V) w)(p:kg ops a0 l o=some true)(d:l.getD i rvN = .v V)(m:bE C (i+1) r):bE C i (o::r):=⟨s (AQ.run p d h),m⟩
section
variable {J:(Nat->Bool)->(Nat->Value)->World->Prop}
theorem Qk(d:∀L y w w',Below w.heap.size w w'->J L y w->J L y w')(h:(ks ops a0 l o).map RV.v=some (l.getD i rvN))(p:bE (sD P ops a0 J (rvs l)) (i+1) r)(m:∀L y v w,(∀j,o.after.toList.any (λe=>e.on==j)=true->L j=true)->J L y w->J (jr L i) (lX y i v) w:=by intro _ _ _ _ _ h;exact h):bE (sD P ops a0 J (rvs l)) i (o::r):=Xo (AQ.askedQ d m) h p
theorem Qf(d:∀L y w w',Below w.heap.size w w'->J L y w->J L y w')(b k:Nat)(h:kfa ops a0 l o=some (t,v,f))(m:l.getD i rvN = .v (.pointer (some ⟨b,k,none⟩)))(s:bE (sD P ops a0 J (rvs l)) (i+1) r)(p:∀L y v w,(∀j,o.after.toList.any (λe=>e.on==j)=true->L j=true)->J L y w->J (jr L i) (lX y i v) w:=by intro _ _ _ _ _ h;exact h)(u:∀w,(Instr.fieldAt t v f).run P w = .ok (.pointer (some ⟨b,k,none⟩)) w:=by intro _;kernel_rfl):bE (sD P ops a0 J (rvs l)) i (o::r):=Po (AQ.askedQ d p) b k h m s u
theorem Qr(d:∀L y w w',Below w.heap.size w w'->J L y w->J L y w')(V:Value)(h:∀ρ y w,Kn ops a0 l o ρ y w->(execOp ρ o).run P w = .ok (.value V) w)(u:kg ops a0 l o=some true)(m:l.getD i rvN = .v V)(s:bE (sD P ops a0 J (rvs l)) (i+1) r)(p:∀L y v w,(∀j,o.after.toList.any (λe=>e.on==j)=true->L j=true)->J L y w->J (jr L i) (lX y i v) w:=by intro _ _ _ _ _ h;exact h):bE (sD P ops a0 J (rvs l)) i (o::r):=aac (AQ.askedQ d p) V h u m s
end
theorem Gr(V:Value)(h:∀ρ y w,Below w0.heap.size w0 w->Kn ops a0 l o ρ y w->(execOp ρ o).run P w = .ok (.value V) w)(z:kg ops a0 l o=some true)(s:l.getD i rvN = .v V)(u:bE (qy P ops a0 w0 (rvs l)) (i+1) r):bE (qy P ops a0 w0 (rvs l)) i (o::r):=
 ⟨λρ y w d m A p=>ak V (h:=Hz z ⟨d,m,p⟩) (h ρ y w A ⟨d,m,p⟩) (m:=LK s rfl),u⟩
def scB(P:Program)(t:TypeId):Bool:=match P.underlying t with
 | some (.struct _)=>false
 | some (.array _ _)=>false
 | some _=>true
 | none=>false
theorem uZ(h:scB P t=true)(m:w.cell? ⟨b,k,none⟩=some V):(loadVar t ⟨b,k,none⟩).run P w = .ok V w:=by
 unfold scB at h;cases hu:P.underlying t with
 | none=>rw[hu]at h;cases h
 | some d=>
  have p:(isAgg t).run P w = .ok false w:=by unfold isAgg;rw[lD,run_underlying hu w];rw[hu]at h;cases d<;>first | rfl | cases h
  simp[loadVar,lD,p,go_sem,m]
theorem Gl(H:aK w0 b cs T)(s:cs.toList[k]?=some V)(E:kg ops a0 l o=some true)(A:o.op = .load t x)(p:kx ops a0 l o x=some (.pointer (some ⟨b,k,none⟩)))(z:l.getD i rvN = .v V)(D:bE (qy P ops a0 w0 (rvs l)) (i+1) r)(u:scB P t=true:=by kernel_rfl):bE (qy P ops a0 w0 (rvs l)) i (o::r):=by
 refine⟨λρ y w d h K m=>ak V (h:=Hz E ⟨d,h,m⟩) ?_ (m:=LK z rfl),D⟩;have e:ρ x=_:=bi p ⟨d,h,m⟩;have G:w.cell? ⟨b,k,none⟩=some V:=by rw[(H.ext K).cell,<-qz];exact s
 refine run_load A e ?_;simp only[Instr.loadAt,Instr.sureAddr,lD,sF,sH,uZ u G]
theorem Gc(V:Value)(E:∀w,Below w0.heap.size w0 w->w.cell? ⟨b,k,none⟩=some V)(D:kg ops a0 l o=some true)(z:o.op = .load t x)(p:kx ops a0 l o x=some (.pointer (some ⟨b,k,none⟩)))(u:l.getD i rvN = .v V)(A:bE (qy P ops a0 w0 (rvs l)) (i+1) r)(s:scB P t=true:=by kernel_rfl):bE (qy P ops a0 w0 (rvs l)) i (o::r):=by
 refine⟨λρ y w d h G m=>ak V (h:=Hz D ⟨d,h,m⟩) ?_ (m:=LK u rfl),A⟩;have e:ρ x=_:=bi p ⟨d,h,m⟩;refine run_load z e ?_;simp only[Instr.loadAt,Instr.sureAddr,lD,sF,sH,uZ s (E w G)]
def revC:List Value->List Value->(List Value->Option (List Value))->Option (List Value)
 | [],r,k=>k r
 | a::l,r,k=>revC l (a::r) k
def ptC:List Value->Nat->Value->List Value->(List Value->Option (List Value))->Option (List Value)
 | [],_,_,acc,k=>revC acc [] k
 | _::l,0,v,acc,k=>revC acc (v::l) k
 | a::l,n+1,v,acc,k=>ptC l n v (a::acc) k
def zT(y:Nat->Value):List RV->List Oper->List Value->Option (List Value)
 | .v V::l,o::r,t=>match o.dst with
  | some d=>ptC t d V [] λt'=>zT y l r t'
  | none=>zT y l r t
 | .r j _::l,o::r,t=>match o.dst with
  | some d=>ptC t d (y j) [] λt'=>zT y l r t'
  | none=>zT y l r t
 | _,_,t=>some t
def idxOk:List RV->Nat->Bool
 | [],_=>true
 | .v _::l,i=>idxOk l (i+1)
 | .r j _::l,i=>(j==i)&&idxOk l (i+1)
theorem Km(k:List Value->Option (List Value)):∀(a r:List Value),revC a r k=k (a.reverse++r)
 | [],r=>rfl
 | x::a,r=>by rw[revC,Km k a];simp
theorem Qc(k:List Value->Option (List Value)):∀(t:List Value) (n:Nat) (v:Value) (d:List Value),ptC t n v d k=k (d.reverse++t.set n v)
 | [],n,v,d=>by simp[ptC,Km]
 | x::t,0,v,d=>by simp[ptC,Km]
 | x::t,n+1,v,d=>by rw[ptC,Qc k t];simp
theorem zo{y:Nat->Value}{w:World}{m:Nat}:∀(l:List RV) (r:List Oper) (k:Nat) (t:Array Value),idxOk l k=true->m=k+l.length->l.length<=r.length->(∀i,i<l.length->rl (rvs l) i (y (k+i)) w) ->
  zT y l r t.toList=some (lay (λi=>decide (i<m)) y r k t).toList
 | [],r,k,t,_,hm,_,_=>by
  have:zT y [] r t.toList=some t.toList:=by cases r<;>rfl
  rw[this];simp only[mf,mG]at hm;subst hm;have c:∀(r:List Oper) (j:Nat) (t:Array Value),m<=j->lay (λi=>decide (i<m)) y r j t=t:=by
   intro r
   induction r with
   | nil=>intro j t _;rfl
   | cons o r ih=>
    intro j t p;simp only[lay];rw[ih (j+1) _ (by omega)];cases o.dst with
    | none=>rfl
    | some d=>simp[show ¬j<m by omega]
  rw[c r m t (aC _)]
 | a::l,[],k,t,_,_,hle,_=>by simp at hle
 | a::l,o::r,k,t,hi,hm,hle,hR=>by
  have h:k<m:=by simp at hm;omega
  have b:∀i,i<l.length->rl (rvs l) i (y (k+1+i)) w:=λi z=>by have:=hR (i+1) (by simp;omega);rw[show k+1+i=k+(i+1) by omega];unfold rl at this ⊢;simpa[rvs]using this
  cases a with
  | v V=>
   have s:y k=V:=by have:=hR 0 (by simp);exact this
   have ih:=λt'=>zo (m:=m) (w:=w) l r (k+1) t' hi (by rw[ou]at hm;omega) (by simpa using hle) b;cases ho:o.dst with
   | none=>simp only[lay,ho,h,decide_true,if_true,zT,ih]
   | some d=>
    simp only[lay,ho,h,decide_true,if_true,zT,Qc,s,List.reverse_nil,JX];rw[<-ih (t.setIfInBounds d V),BL]
  | r j R=>
   have p:j=k/\idxOk l (k+1)=true:=by have u : ((j==k)&&idxOk l (k+1))=true:=hi;simpa using u
   obtain⟨rfl,e⟩:=p;have ih:=λt'=>zo (m:=m) (w:=w) l r (j+1) t' e (by rw[ou]at hm;omega) (by simpa using hle) b;cases ho:o.dst with
   | none=>simp only[lay,ho,h,decide_true,if_true,zT,ih]
   | some d=>
    simp only[lay,ho,h,decide_true,if_true,zT,Qc,List.reverse_nil,JX];rw[<-ih (t.setIfInBounds d (y j)),BL]
end
theorem aR{s:List Deferred}(m:Nat)(l:List RV)
 (d:bE (qy P ops ⟨t0,s⟩ w0 (rvs l)) 0 (ops.toList.take m)) {tm:(Nat->Value)->List Value} (M:∀y,zT y l ops.toList t0.toList=some (tm y)) (N:wr (ops.toList.drop m)=some rest)
 (p:∀y w,Below w0.heap.size w0 w->(∀i,i<m->rl (rvs l) i (y i) w)->wpList P ops Q rest ⟨(tm y).toArray,s⟩ w)
 (H:P.follows .mixedOrders=true:=by kernel_rfl) (z:kw ops=true:=by kernel_rfl) (G:je ops m=true:=by kernel_rfl) (A:m<=ops.size:=by decide) (K:l.length=m:=by rfl) (D:idxOk l 0=true:=by kernel_rfl)
 (u:kT ops t0.size=true:=by kernel_rfl):(Code.region id ops true).wp P Q ⟨t0,s⟩ w0:=by
 refine WN m (rvs l) H z G A _ rfl u d λy w O E => ?_;have h:=p y w O E;rw[QO N];have e:=zo (m:=m) (y:=y) (w:=w) l ops.toList 0 t0 D (by omega) (by simp;omega) λi U=>by rw[dL];exact E i (by omega)
 show wpList P ops Q rest ⟨lay (λi=>decide (i<m)) y ops.toList 0 t0,s⟩ w;have S:=aU (e.symm.trans (M y));have R:lay (λi=>decide (i<m)) y ops.toList 0 t0=(tm y).toArray:=by rw[<-S]
 rw[R];exact h
theorem RF{u:List Deferred}(m:Nat)(l:List RV)(J:(Nat->Bool)->(Nat->Value)->World->Prop)(A:∀L y w w',Below w.heap.size w w'->J L y w->J L y w')(H:∀y,J (λ_=>false) y w0)
 (d:bE (sD P ops ⟨t0,u⟩ J (rvs l)) 0 (ops.toList.take m)) {tm:(Nat->Value)->List Value} (R:∀y,zT y l ops.toList t0.toList=some (tm y)) (S:wr (ops.toList.drop m)=some rest)
 (s:∀y w,J (λi=>decide (i<m)) y w->(∀i,i<m->rl (rvs l) i (y i) w)->wpList P ops Q rest ⟨(tm y).toArray,u⟩ w)
 (p:Fixed (rvs l):=by repeat (first | exact fix_nil | refine MR (λ_ _ _ h=>h) ?_))
 (N:P.follows .mixedOrders=true:=by kernel_rfl) (D:kw ops=true:=by kernel_rfl) (M:je ops m=true:=by kernel_rfl) (E:m<=ops.size:=by decide) (O:l.length=m:=by rfl) (G:idxOk l 0=true:=by kernel_rfl)
 (z:kT ops t0.size=true:=by kernel_rfl):(Code.region id ops true).wp P Q ⟨t0,u⟩ w0:=by
 refine UD m (rvs l) J A H p N D M E _ rfl z d λy w U K => ?_;have h:=s y w U K;rw[QO S];have e:=zo (m:=m) (y:=y) (w:=w) l ops.toList 0 t0 G (by omega) (by simp;omega) λi hi=>by rw[dL];exact K i (by omega)
 show wpList P ops Q rest ⟨lay (λi=>decide (i<m)) y ops.toList 0 t0,u⟩ w;have e2:=aU (e.symm.trans (R y));have e3:lay (λi=>decide (i<m)) y ops.toList 0 t0=(tm y).toArray:=by rw[<-e2]
 rw[e3];exact h
theorem Ug{m:Nat}{l:List RV}(d:idxOk l 0=true)(p:l.length=m)(h:m<=ops.size)(u:∀i,i<m->rl (rvs l) i (y i) w)(s:zT y l ops.toList t0.toList=some tm):lay (λi=>decide (i<m)) y ops.toList 0 t0=tm.toArray:=by
 have e:=zo (m:=m) (y:=y) (w:=w) l ops.toList 0 t0 d (by omega) (by simp;omega) λi A=>by rw[dL];exact u i (by omega)
 have z:=aU (e.symm.trans s);rw[<-z]
open Go.ChangeShapes Go.WideShapes Go.ChangeAt
end Pw
namespace Go.Proofs.YthihaopabbpalaaGreat
open Go.ChangeShapes Go.WideShapes Go.ChangeAt Go.RowKit Go.Maps Pw
variable {B B' b cap g n' off sz sz':Nat} {P:Program} {T T' TX:TypeId} {X cs cs':Array Value} {v v':Value} {vs xs xs':List Value} {w w':World}
theorem sS{e:TypeId}{n:Nat}(h:Own w B e sz v n xs)(g:Nat)(d:v.ownBlock=some g):∃cs,aK w g cs e:=by
 rcases h.2 with⟨rfl,_⟩|⟨s,off,cap,p,rfl,_,m,_⟩
 ·cases d
 cases d;exact⟨_,m⟩
theorem kS{e:TypeId}{n:Nat}(h:aK w b cs T)(d:Own w B e sz v n xs)(s:T≠e)(m:w.grownBy w' v.ownBlock):aK w' b cs T:=
 h.grown m (λp=>own_ne d h s b p rfl)
theorem xe{e e' : TypeId}{n:Nat}(h:Own w B e sz v n xs)(m:Own w B' e' sz' v' n' xs')(s:w.grownBy w' v'.ownBlock)(z:e'≠e:=by decide):Own w' B e sz v n xs:=
 h.grown s (λg d u=>by obtain⟨cs,p⟩:=sS m g u;exact own_ne h p z g d rfl)
theorem tK{e:TypeId}{n:Nat}(h:Own w B e sz v n xs)(d:aK w g cs T)(o:Nat)(u:Value)(m:T≠e:=by decide):Own (w.setCell ⟨g,o,none⟩ u) B e sz v n xs:=
 aA h d (p:=m) (aD w g o [u])
theorem aG(h:aK w b cs T)(m:aK w g cs' T')(d:w.grownBy w' (some g))(s:T'≠T:=by decide):aK w' b cs T:=
 h.grown d (λp=>by cases p;unfold aK at h m;rw[m]at h;simp only[fM,rM]at h;exact s h.2.1)
theorem ow{a:Option Addr}{b:Option Addr}{n:Nat}{c:Nat}{m:Nat}{e:Nat}:(#[Value.slice a n c,Value.slice b m e]:Array Value).all (·.oneCell')=true:=by simp[Value.oneCell']
theorem nS{α:Type}{enc:α->List Value}(m:∀x,(enc x).length=sz){n:Nat}{e:TypeId}{l:List α}(s:l.length=n)(h:Own w B e sz v n (l.flatMap enc))(k:Nat)(u:k<n)(p:0<sz:=by decide) :
  ∃g off cap d,v = .slice (some ⟨g,off,none⟩) n cap/\B<=g/\aK w g d e/\off+k*sz+sz<=d.size /\
   ∀w' x,aK w' g (dO d (off+k*sz) (enc x)) e->Own w' B e sz v n ((l.set k x).flatMap enc):=by
 subst s;obtain⟨g,off,cap,d,G,E,D,A,_,z⟩:=h.put m p k u;exact⟨g,off,cap,d,G,E,D,A,z⟩
theorem yZ{a c:World}(h:a.grownBy c none)(row:Option Nat):a.grownBy c row:=⟨h.os,h.tape,h.output,h.size,λi d _=>h.block i d (by simp)⟩
theorem gu{a b c:World}{row:Option Nat}(h:a.grownBy b row)(k:b.grownBy c row):a.grownBy c row:=
 World.grownBy.andThen h k (λj d => .inr d)
theorem Dv(w:World)(o:Obj)(row:Option Nat):w.grownBy (w.alloc o) row:=Kl w o row
theorem iM{e:TypeId}{n:Nat}(h:Own w B e sz v n xs)(d:w.grownBy w' none):Own w' B e sz v n xs:=h.grown d (by simp)
theorem rV(h:aK w b cs T)(d:w.grownBy w' none):aK w' b cs T:=h.grown d (by simp)
theorem ru(w:World)(t e ty:TypeId)(z:Value)(sz h:Nat)(G:P.underlying t=some (.slice e))(s:(P.info? e).map (λi=>(i.zero,i.size,i.bytes))=some (some z,sz,h))(b o n c:Nat)(d:Array Value)(T:TypeId)(A:aK w b d T)(D:o+n*z.cells.size<=d.size)(K:∀u∈z.cells.toList,u.oneCell' = true:=by decide)(M:0<z.cells.size:=by decide)(N:0<n:=by omega) :
  (Builtin.clear_ #[t] ty #[.slice (some ⟨b,o,none⟩) n c]).run P w = .ok (.tuple #[]) (w.setCells b o (Builtin.zeroCells z.cells n).toList):=by
 have O:(Builtin.zeroCells z.cells n).toList.length=n*z.cells.size:=by simp[Builtin.zeroCells]
 have a:=run_storeCells_cells (P:=P) b o (Builtin.zeroCells z.cells n).toList 0 w
  (λj H=>by rw[mG,A.cell];simp[show o+j<d.size by omega]) (λj H=>A.free _)
  (λv p=>by simp only[Builtin.zeroCells,Array.toList_map,fD]at p;obtain⟨i,_,rfl⟩:=p;have:i%z.cells.size<z.cells.size:=rZ _ M;rw[getElem!_pos z.cells _ this];exact K _ (by simp))
 simp only[mG]at a;obtain⟨m,rfl⟩:∃m,n=m+1:=⟨n-1,by omega⟩;have p:∀w,(zeroValue e).run P w = .ok z w:=by
  intro w;cases hq:P.info? e with
  | none=>simp[hq]at s
  | some i=>
   have E:i.zero=some z:=by simp[hq]at s;exact s.1
   simp[zeroValue,typeInfo,run_program,hq,E]
 simp[Builtin.clear_,run_underlying G,p,a]
theorem Ja{α:Type}{enc:α->List Value}(m:∀x,(enc x).length=sz){e:TypeId}{l:List α}{n:Nat}(h:Own w B e sz (.slice (some ⟨g,off,none⟩) n cap) n (l.flatMap enc))(i:Nat)(z:l.length=n)(R:i<=n)
 (D:∀d,aK w g d e->aK w' g (dO d (off+i*sz) vs) e):Own w' B e sz (.slice (some ⟨g,off,none⟩) (l.take i).length cap) (l.take i).length ((l.take i).flatMap enc):=by
 subst z;obtain⟨z,h⟩:=h;rcases h with⟨O,_⟩|⟨U,s,A,d,E,N,M,S,K,H,G⟩
 ·cases O
 cases E;have b:(l.take i).length=i:=by simp;omega
 refine⟨by rw[Pw.flat_len enc sz m],.inr ⟨g,off,cap,_,rfl,N,D d M,by omega,K,by rw[size_putAt];exact H,λj u p => ?_⟩⟩;have c : j<i*sz:=by
  rcases gB j (i*sz)with h|h
  ·exact h
  rw[dP (by rw[Pw.flat_len enc sz m,b];exact h)]at p;cases p
 rw[putAt_out _ _ _ _ (.inl (by omega))];refine G j u ?_;have a:l.flatMap enc=(l.take i).flatMap enc++(l.drop i).flatMap enc:=by rw[<-iq,tZ]
 rw[a,jb (by rw[Pw.flat_len enc sz m,b];exact c)];exact p
theorem abd(m:World->Prop)(h:∀W,w.grownBy W none->Below w.heap.size w W->aK W w.heap.size X TX->m W):m (w.alloc (.cells X TX)):=
 h _ (Dv _ _ _) ((Below.refl _ _).alloc (aC _) _) (aK.new _ _ _)
theorem yD{α:Type}{enc:α->List Value}(d:∀x,(enc x).length=sz){n:Nat}{e:TypeId}{l:List α}(H:l.length=n)(h:Own w B e sz v n (l.flatMap enc))(k:Nat)(K:k<n)(j:Nat)(u:Value)(x:α)(A:enc x=(enc (l[k]'(by omega))).set j u)(E:0<sz:=by decide)(S:j<sz:=by decide) :
  ∃g off cap,v = .slice (some ⟨g,off,none⟩) n cap/\B<=g/\g<w.heap.size/\(∃cs,aK w g cs e)/\(∀i y,(enc (l[k]'(by omega)))[i]?=some y->w.cell? ⟨g,off+k*sz+i,none⟩=some y)/\w.frozen? ⟨g,off+k*sz+j,none⟩=false /\
   Own (w.setCell ⟨g,off+k*sz+j,none⟩ u) B e sz v n ((l.set k x).flatMap enc):=by
 subst H;obtain⟨g,off,cap,z,R,O,s,h4,D,N⟩:=h.put d E k K;refine⟨g,off,cap,R,O,s.lt,⟨_,s⟩,D,s.free _,N _ x ?_⟩;have M:dO z (off+k*sz) (enc x)=z.setIfInBounds (off+k*sz+j) u:=by
  apply sM;intro i
  by_cases U:off+k*sz<=i/\i<off+k*sz+sz
  ·obtain⟨m,rfl⟩:∃m,i=off+k*sz+m:=⟨i-(off+k*sz),by omega⟩;have G:m<(enc x).length:=by rw[d];omega
   rw[putAt_in _ _ _ m (enc x)[m] (by rw[d];omega) (aM G)]
   by_cases p:m=j
   ·subst p;rw[vG (by omega)];simp[A]
   rw[gT (by omega)];have a : m<(enc l[k]).length:=by rw[d];omega
   have:=D m (enc l[k])[m] (aM a);rw[s.cell]at this;rw[this];simp[A,KI (λe=>p e.symm)]
  ·rw[putAt_out _ _ _ _ (by rw[d];omega),gT (by omega)]
 rw[M];exact s.setCell _ _
theorem NU{H:Type}{k:TypeId}{R:Value->Option (DataW H × List MemPlace)}{n:Nat}{D:DataW H}(h:w.ownsMap P k R b n D)(p:Below w.heap.size w w'):w'.ownsMap P k R b n D:=by
 have m:=h.lt;obtain⟨u,d,s,r⟩:=h;exact⟨u,d,(p.block b m).trans s,r⟩
end Go.Proofs.YthihaopabbpalaaGreat