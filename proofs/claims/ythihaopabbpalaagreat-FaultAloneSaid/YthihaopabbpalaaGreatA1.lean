import Derived.WalkKit
import Derived.ProofKit
import Derived.SizedLaws
import Derived.Maps.Own
import Derived.WalkSpells
import Derived.WalkLawsBesides
import Derived.ArgAppend
import Derived.Deep.MidRow
import Derived.Deep.Slices
import Derived.Laws.AppendOwnNone
import Derived.Laws.CopyOwn
import Derived.Laws.OwnMore
import Derived.Lib.Hide
import Derived.Maps.Range
import Derived.Maps.Views
import Derived.OpenShut
import Derived.Orders
import Derived.OwnWalk
set_option linter.unusedSimpArgs false
set_option linter.unusedVariables false
set_option linter.unnecessarySimpa false
set_option linter.defProp false
set_option maxHeartbeats 4000000
set_option maxRecDepth 100000
namespace Pw
def ae :=@Go.Lib.hid
def az :=@Nat.le_refl
def aI :=@List.getElem?_eq_getElem
def aM :=@Option.some.inj
def aW :=@List.getD_eq_getElem?_getD
def bi :=@Nat.le_trans
def bq :=@Nat.zero_le
def bC :=@List.mem_singleton
def bS :=@List.map_cons
def aZ :=@List.map_nil
def bv :=@Int.toNat_natCast
def bI :=@List.length_set
def bK :=@Go.IntWalk.i64_in
def bP :=@List.mem_of_getElem?
def bU :=@List.map_toArray
def bZ :=@List.getElem?_eq_some_iff
def cK :=@Array.getD_eq_getD_getElem?
def dz :=@List.mem_cons
def ed :=@Bool.and_eq_true
def eB :=@Nat.zero_add
def eO :=@List.mem_range
def eQ :=@List.length_map
def fe :=@List.getElem_mem
def fA :=@Nat.not_lt_zero
def fD :=@List.all_eq_true
def fH :=@List.getElem?_eq_none
def fM :=@List.flatMap_append
def gu :=@Nat.lt_or_ge
def gV :=@List.mem_append
def gZ :=@Array.getElem?_setIfInBounds_ne
def ib :=@List.not_mem_nil
def iA :=@List.mem_map
def iN :=@List.mem_cons_self
def iQ :=@List.length_take
def iO :=@Int.eq_ofNat_of_zero_le
def iK :=@Nat.add_zero
def iV :=@Array.getElem?_eq_some_iff
def jd :=@List.getElem?_map
def jq :=@List.length_append
def jo :=@Option.some.injEq
def jk :=@Array.length_toList
def jD :=@List.take_of_length_le
def jJ :=@List.mem_iff_getElem
def jP :=@List.any_eq_true
def jM :=@List.map_append
def jR :=@List.append_assoc
def jY :=@List.mem_cons_of_mem
def jX :=@List.getElem?_append_right
def kQ :=@List.length_replicate
def kN :=@List.getElem?_append_left
def kV :=@List.eq_nil_of_length_eq_zero
def kY :=@Go.Sem.run_bind
def lg :=@List.mem_flatMap
def lS :=@List.mem_or_eq_of_mem_set
def lU :=@Go.Value.slice.injEq
def lV :=@Bool.true_and
def lM :=@Nat.succ.inj
def mE :=@List.getElem?_take
def mI :=@Array.ext_getElem?
def mM :=@Array.getElem?_eq_none
def mD :=@Array.all_toList
def mf :=@Bool.false_and
def nz :=@Bool.eq_iff_iff
def nE :=@List.getElem?_set
def ng :=@Nat.add_assoc
def mY :=@Go.Lib.run_eql_slice_nil
def nk :=@Bool.and_false
def oC :=@List.take_add_one
def oG :=@List.ext_getElem?
def nV :=@List.flatMap_cons
def nW :=@Array.mem_toList_iff
def pO :=@Ne.symm
def pI :=@Bool.and_true
def pu :=@Nat.lt_of_lt_of_le
def oL :=@List.append_nil
def oO :=@Go.Value.slice.inj
def qw :=@List.getElem?_replicate
def qh :=@List.mem_append_left
def qz :=@List.length_cons
def qo :=@Go.Addr.add_lit
def qy :=@Option.getD_some
def qX :=@Vector.getElem_ofFn
def qR :=@List.find?_eq_none
def qY :=@List.getElem?_drop
def ru :=@Classical.not_not
def qV :=@Go.Result.andThen_ok
def rf :=@Go.Sem.run_pure
def rA :=@List.drop_eq_nil_of_le
def rz :=@List.getElem?_cons_zero
def sW :=@Array.getElem?_setIfInBounds_self_of_lt
def uZ :=@List.ext_getElem
def uY :=@List.any_eq_false
def uO :=@List.mem_append_right
def uJ :=@Nat.add_mul
def uQ :=@Array.getElem?_toList
def uN :=@Nat.mul_le_mul_right
def uP :=@Bool.or_eq_true
def uT :=@List.set_cons_zero
def uU :=@List.countP_cons
def qD :=@Nat.sub_self
def si :=@List.findIdx?_eq_some_iff_getElem
def rO :=@List.filter_append
def rM :=@Nat.mod_lt
def rW :=@Nat.mod_eq_of_lt
def rP :=@List.mem_of_find?_eq_some
def rT :=@Option.map_some
def rJ :=@List.take_append_drop
def rH :=@Go.Addr.mk.injEq
def rV :=@Array.getElem?_replicate
def rU :=@Nat.le_of_lt
def uA :=@Bool.false_eq_true
def uH :=@List.getElem?_set_ne
def uz :=@List.nodup_cons
def uh :=@Int.le_refl
def uu :=@List.getElem?_range
def uD :=@List.find?_some
def uG :=@Bool.not_eq_true'
def uo :=@Nat.mul_one
def uj :=@Go.Obj.cells.injEq
def uy :=@Nat.min_eq_left
def ut :=@Nat.eq_zero_or_pos
def uB :=@List.set_cons_succ
def ui :=@List.pairwise_cons
def wu :=@List.findIdx?_eq_none_iff
def vU :=@List.getElem?_set_self
def vK :=@List.drop_eq_getElem_cons
def wR :=@List.filter_cons
def vS :=@List.map_congr_left
def vR :=@Nat.zero_mul
def vL :=@Nat.lt_or_gt_of_ne
def wJ :=@List.getElem_map
def vJ :=@List.set_getElem_self
def vZ :=@Classical.byContradiction
def yT :=@List.countP_pos_iff
def yo :=@List.range_succ
def yC :=@Vector.ext
def yE :=@Vector.getElem_set_ne
def yw :=@List.nodup_append
def yD :=@Decidable.byContradiction
def xZ :=@Go.Calls.mono
def yt :=@Nat.mul_comm
def yX :=@List.countP_eq_zero
def xY :=@List.countP_le_length
def yK :=@List.getElem?_toArray
def yJ :=@List.getElem?_cons_succ
def yu :=@List.take_length
def yL :=@List.drop_succ_cons
def yZ :=@List.drop_nil
def yQ :=@Go.Value.agg.injEq
def yh :=@List.countP_map
def yS :=@List.mem_insertIdx
def AC :=@List.length_filter_le
def Bo :=@List.foldl_cons
def Aj :=@List.findIdx?_cons
def Ab :=@List.mem_filter
def Aa :=@Nat.add_sub_cancel_left
def Aw :=@List.length_nil
def AV :=@Array.getElem?_eq_getElem
def AQ :=@Array.mem_of_getElem?
def Bg :=@Option.bind_some
def Bw :=@Nat.one_mul
def Bj :=@List.set_set
def zX :=@List.setIfInBounds_toArray
def AL :=@List.drop_zero
def BC :=@Array.getElem?_setIfInBounds
def AB :=@List.map_set
def AA :=@List.length_drop
def Bc :=@List.length_eraseIdx_of_lt
def Bq :=@List.sum_cons
def Af :=@List.pairwise_iff_getElem
def DX :=@Array.toList_setIfInBounds
def Ef :=@List.getElem_cons_succ
def Dz :=@List.foldl_append
def Df :=@Bool.or_eq_false_iff
def DF :=@List.getElem_set
def Dq :=@Nat.add_mod_right
def Di :=@List.getLast?_concat
def DK :=@List.length_singleton
def DJ :=@List.mem_replicate
def Eh :=@List.length_eq_zero_iff
def Dp :=@List.getElem_cons_zero
def DY :=@Nat.le_of_eq
def Ec :=@List.map_map
def Dm :=@Nat.succ_mul
def Dj :=@List.getElem_set_ne
def DR :=@List.countP_append
def Dw :=@List.flatMap_map
def DD :=@List.mem_map_of_mem
def DV :=@Nat.not_lt
def El :=@Int.toNat_of_nonneg
def DU :=@Bool.not_or
def Em :=@List.countP_eq_length_filter
def Dg :=@List.insertIdx_succ_cons
def Dx :=@Nat.min_def
def Ea :=@List.length_range
def Dh :=@Array.size_push
def Jb :=@List.cons_append
def JF :=@Option.map_none
def IY :=@Bool.and_eq_false_iff
def IE :=@Nat.add_comm
def Jf :=@Go.World.grownBy.refl
def IQ :=@Go.World.ownsRow_nil
def JC :=@List.getElem_range
def II :=@List.mem_filterMap
def JR :=@List.nil_append
def JE :=@List.getElem_set_self
def IJ :=@Int.natCast_emod
def Jk :=@Bool.or_true
def IZ :=@List.countP_filter
def Jj :=@Function.comp_apply
def IM :=@Bool.eq_false_iff
open Go Go.RowKit
abbrev Page:=Vector UInt8 8
theorem Sl(p q:Page):(p==q)=((p[0]==q[0])&&(p[1]==q[1])&&(p[2]==q[2])&&(p[3]==q[3])&&(p[4]==q[4])&&(p[5]==q[5])&&(p[6]==q[6])&&(p[7]==q[7])):=by
 rw[nz];simp only[beq_iff_eq,ed];constructor
 ·rintro rfl;simp
 rintro⟨⟨⟨⟨⟨⟨⟨D,A⟩,h2⟩,z⟩,u⟩,s⟩,m⟩,d⟩
 ext i hi
 match i,hi with
 | 0,_=>rw[D]
 | 1,_=>rw[A]
 | 2,_=>rw[h2]
 | 3,_=>rw[z]
 | 4,_=>rw[u]
 | 5,_=>rw[s]
 | 6,_=>rw[m]
 | 7,_=>rw[d]
 | n+8,h=>omega
theorem WW(a b:UInt8):((a.toNat:Int)==(b.toNat:Int))=(a==b):=by
 rw[nz];simp only[beq_iff_eq,Int.natCast_inj,UInt8.toNat_inj]
def iI(p:Page)(a:Int)(k:Nat):Page:=Vector.ofFn λi:Fin 8=>if a<=(i.val:Int)/\i.val<k then 0 else p[i.val]
def dx(p:Page)(a:Int):Page:=Vector.ofFn λi:Fin 8=>if a<=(i.val:Int)then 0 else p[i.val]
theorem xW(p:Page)(a:Int)(k:Nat)(h:8<=k:=by omega):iI p a k=dx p a:=by
 ext i hi
 simp only[iI,dx,qX];have d:i<k:=by omega
 simp[d]
theorem LC(p:Page)(a:Int)(k:Nat)(h:k=a.toNat):iI p a k=p:=by
 ext i hi
 simp only[iI,qX];rw[if_neg (by omega)]
theorem yj(p:Page)(a:Int)(k:Nat)(h:k<8)(d:a<=k):(iI p a k).set k 0=iI p a (k+1):=by
 ext i hi
 simp only[iI,qX,Vector.getElem_set]
 by_cases e:k=i
 ·subst e;simp[d]
 simp only[e,if_false]
 by_cases c:a<=(i:Int)/\i<k
 ·rw[if_pos c,if_pos ⟨c.1,by omega⟩]
 ·rw[if_neg c,if_neg (by omega)]
def dS(L:Nat->Bool)(i:Nat):Nat->Bool:=λk=>if k=i then true else L k
def wr{α:Type}:List α->Option (List α)
 | []=>some []
 | a::r=>some (a::r)
theorem Pe{α:Type}{a b:List α}(h:wr a=some b):a=b:=by cases a<;>cases h<;>rfl
def i64(n:Int):Prop:=-9223372036854775808<=n/\n<=9223372036854775807
theorem CF{α:Type}(good:α->Prop)(R:Nat->α->Prop):∀(d:Nat),(∀i,i<d->∃y:α,good y/\R i y)->∃l:List α,l.length=d/\(∀y∈l,good y)/\∀i (p:i<l.length),R i l[i]
 | 0,_=>⟨[],rfl,λy u=>(by cases u),λi p=>absurd p (fA _)⟩
 | d+1,key=>by
  obtain⟨l,D,F,E⟩:=CF good R d (λi p=>key i (by omega));obtain⟨y,u,s⟩:=key d (by omega);refine⟨l++[y],by simp[D],?_,?_⟩
  ·intro z h;rcases gV.1 h with h|h
   ·exact F z h
   ·rw[bC.1 h];exact u
  intro i p
  by_cases m:i<l.length
  ·rw[List.getElem_append_left m];exact E i m
  have A : i=d:=by simp at p;omega
  subst A;rw[List.getElem_append_right (by omega)];simpa[D]using s
end Pw
namespace Go.Proofs.YthihaopabbpalaaGreat
open Go.ChangeShapes Go.WideShapes Go.ChangeAt Go.RowKit Go.Maps Pw
variable {k:Nat}
theorem mJ{n:Nat}{P:∀i,i<n->Prop}(m:∀i (h:i<n),i<k->P i h)(d:k<n)(p:P k d):∀i (h:i<n),i<k+1->P i h:=by
 intro i h s
 by_cases e:i=k
 ·subst e;exact p
 ·exact m i h (by omega)
theorem Xt{α:Type}{l m:List α}(k:Nat)(h:k<l.length)(h' : k<m.length)(d:l[k]≠m[k]):l≠m:=by rintro rfl;exact d rfl
theorem Wz{α:Type}{l m:List α}(d:l.length=m.length)(k:Nat)(s:¬k<l.length)(h:∀i (h:i<l.length),i<k->l[i]=m[i]'(by omega)):l=m:=
 uZ d λi p h2=>h i p (by omega)
theorem XN{α:Type}{l m:List α}(s:l.length=m.length)(u:k<l.length)(h:∀i (h:i<l.length),i<k->l[i]=m[i]'(by omega))(d:l[k]=m[k]'(by omega)):∀i (h:i<l.length),i<k+1->l[i]=m[i]'(by omega):=by
 intro i p h2
 by_cases e:i=k
 ·subst e;exact d
 ·exact h i p (by omega)
end Go.Proofs.YthihaopabbpalaaGreat
namespace Pw
open Go Go.RowKit
variable {fuel i q:Nat} {l:List Int}
theorem yP{d:Array Bool}(p:i<d.size)(q:Nat)(m:d.getD q false=true):(d.setIfInBounds i true).getD q false=true:=by
 by_cases h:q=i
 ·subst h;simp[cK,p]
 ·simpa[cK,gZ (pO h)]using m
theorem sj{d:Array Bool}(h:q≠i):(d.setIfInBounds i true).getD q false=d.getD q false:=by
 simp[cK,gZ (pO h)]
theorem LG{d:Array Bool}(h:i<d.size):(d.setIfInBounds i true).getD i false=true:=by
 simp[cK,h]
theorem ES{h:Array Bool}(m:i<h.size)(s:h.getD i true=false)(u:h.toList.countP (!·)<=fuel+1):(h.setIfInBounds i true).toList.countP (!·)<=fuel:=by
 have c:i<h.toList.length:=by simp;omega
 have b:h.toList[i]=false:=by simpa[cK,m]using s
 have:=List.countP_set (p:=(!·)) (l:=h.toList) (i:=i) (a:=true) c;rw[b]at this;have d:0<h.toList.countP (!·):=yT.2 ⟨h.toList[i],fe c,by rw[b];rfl⟩;simp only[DX];simp only[Bool.not_false,Bool.not_true,if_true,uA,if_false]at this;omega
open Go.ChangeShapes Go.WideShapes Go.ChangeAt
def firstE:List Int->Int
 | []=>0
 | x::r=>if x=0 then firstE r else x
theorem ul(h:∀i (d:i<l.length),l[i]=0):firstE l=0:=by
 induction l with
 | nil=>rfl
 | cons x r ih=>
  have m:=h 0 (by simp);simp at m;simp only[firstE,m,if_true];exact ih λi d=>by have:=h (i+1) (by simpa using d);simpa using this
theorem yU(k:Nat)(m:k<l.length)(h:∀i (p:i<l.length),i<k->l[i]=0)(d:l[k]≠0):firstE l=l[k]:=by
 induction l generalizing k with
 | nil=>simp at m
 | cons x r ih=>
  cases k with
  | zero=>simp at d;simp[firstE,d]
  | succ k=>
   have s:=h 0 (by simp) (by omega);simp at s;simp only[firstE,s,if_true,Ef];exact ih k (by simpa using m) (λi p a=>by have:=h (i+1) (by simpa using p) (by omega);simpa using this) (by simpa using d)
theorem filter_all{α:Type}(p q:α->Bool)(l:List α):(l.filter p).all (λe => !p e||q e)=l.all (λe => !p e||q e):=by
 induction l with
 | nil=>rfl
 | cons x l ih=>
  cases hp:p x
  ·rw[List.filter_cons_of_neg (by simp[hp]),ih];simp[hp]
  ·rw[List.filter_cons_of_pos (by simp[hp])];simp[hp,ih]
end Pw
namespace Go.Proofs.YthihaopabbpalaaGreat
open Go.RowKit Pw
variable {I b c i j k q r:Nat} {file index lo n:Int} {l:List Int}
def idx{α:Type}(f:α->Bool)(l:List α):Int:=match l.findIdx? f with
 | some k=>k
 | none => -1
theorem uR{α:Type}(f:α->Bool)(l:List α)(k:Nat)(h:k<l.length)(d:∀i (h:i<l.length),i<k->f l[i]=false)(m:f l[k]=true):idx f l=k:=by
 unfold idx;rw[si.2 ⟨h,m,λj p=>by simpa using d j (by omega) p⟩]
theorem mo{α:Type}(f:α->Bool)(l:List α)(m:∀i (h:i<l.length),f l[i]=false):idx f l = -1:=by
 unfold idx;rw[wu.2 λx d=>by obtain⟨i,p,rfl⟩:=jJ.1 d;exact m i p]
theorem Ce{α:Type}(f:α->Bool)(l:List α):(idx f l = -1/\∀i (h:i<l.length),f l[i]=false)\/∃k:Nat,∃h:k<l.length,idx f l=k/\f l[k]=true/\∀i (h:i<l.length),i<k->f l[i]=false:=by
 unfold idx;cases e:l.findIdx? f with
 | none=>exact .inl ⟨rfl,λi h=>wu.1 e _ (fe h)⟩
 | some k=>
  obtain⟨h,m,d⟩:=si.1 e;exact .inr ⟨k,h,rfl,m,λi _ p=>by simpa using d i p⟩
theorem pM{α:Type}(f:α->Bool)(l:List α):decide (0<=idx f l)=l.any f:=by
 rcases Ce f l with⟨e,h⟩|⟨k,m,e,h,_⟩
 ·rw[e];symm;simp only[show decide ((0:Int)<=-1)=false from rfl,uY];intro x d;obtain⟨i,p,rfl⟩:=jJ.1 d;simpa using h i p
 rw[e];symm;simp only[show decide ((0:Int)<=(k:Int))=true from by simp,jP];exact⟨_,fe m,h⟩
theorem upto{n:Nat}{P:∀i,i<n->Prop}(m:∀i (h:i<n),i<k->P i h)(d:k<n)(p:P k d):∀i (h:i<n),i<k+1->P i h:=by
 intro i h s
 by_cases e:i=k
 ·subst e;exact p
 ·exact m i h (by omega)
open Go.Maps
structure WF (D:DataW Unit) (f:Int->Bool):Prop where
 is:IsMap D
 at_:∀j:Int,D.atKey (.int .i64 j) (.lit (.bool false)) = .lit (.bool (f j))
theorem WF.empty:WF (.map []) (λ_=>false):=⟨isMap_empty,λj=>rfl⟩
theorem WF.put{D:DataW Unit}{f:Int->Bool}(h:WF D f)(k:Int):WF (D.put (.int .i64 k) (.lit (.bool true))) (λj=>f j||decide (j=k)):=by
 refine⟨h.is.put _ _,λj => ?_⟩
 by_cases e:j=k
 ·subst e;rw[atKey_put_same h.is (by trivial)];simp
 rw[atKey_put_other (by intro d;exact e (by cases d;rfl)),h.at_ j];simp[e]
def eY(n:Int):Int:=if n<=0 then 0 else(n-1) / 8+1
def rR(n:Int):Bool:=decide (n<0)||decide (1000<n)
def dL(l:List Int):Int:=if 60<l.length then 4 else if l.any rR then 3 else 0
def JZ(n:Int):Bool:=n==0
def Pq(n:Int):List Int:=if 0<=n/\n<=60 then List.replicate n.toNat 0 else[]
theorem Sg(l:List Int)(k:Nat)(p:k<l.length)(d:dL l=0):0<=l[k]/\l[k]<=1000:=by
 unfold dL at d;split at d
 ·omega
 split at d
 ·omega
 rename_i h;have m:rR l[k]=false:=by have:=uY.1 (by simpa using h) _ (fe p);simpa using this
 simp[rR]at m;exact m
theorem kJ(h:dL l=0):l.length<=60:=by
 unfold dL at h;split at h
 ·omega
 ·omega
def iY(l:List Int)(n:Int):Int:=if dL l≠0 then dL l else if n<1\/1000<n then 3 else if idx JZ l<0 then 10 else 0
def kL(l:List Int)(n:Int):Int:=if iY l n=0 then idx JZ l else 0
def mU(l:List Int)(n:Int):List Int:=if iY l n=0 then l.set (idx JZ l).toNat n else[]
theorem Mw(n:Int)(h:dL l≠0):iY l n=dL l/\kL l n=0/\mU l n=[]:=by
 have:iY l n=dL l:=by unfold iY;rw[if_pos h]
 exact⟨this,by unfold kL;rw[this,if_neg h],by unfold mU;rw[this,if_neg h]⟩
theorem Ms(d:dL l=0)(h:n<1\/1000<n):iY l n=3/\kL l n=0/\mU l n=[]:=by
 have:iY l n=3:=by unfold iY;rw[if_neg (by omega),if_pos h]
 exact⟨this,by unfold kL;rw[this];rfl,by unfold mU;rw[this];rfl⟩
theorem MV(m:dL l=0)(h:1<=n/\n<=1000)(d:idx JZ l = -1):iY l n=10/\kL l n=0/\mU l n=[]:=by
 have:iY l n=10:=by unfold iY;rw[if_neg (by omega),if_neg (by omega),if_pos (by omega)]
 exact⟨this,by unfold kL;rw[this];rfl,by unfold mU;rw[this];rfl⟩
theorem PR(m:dL l=0)(h:1<=n/\n<=1000)(d:idx JZ l=k):iY l n=0/\kL l n=k/\mU l n=l.set k n:=by
 have:iY l n=0:=by unfold iY;rw[if_neg (by omega),if_neg (by omega),if_neg (by omega)]
 exact⟨this,by unfold kL;rw[this,if_pos rfl,d],by unfold mU;rw[this,if_pos rfl,d];rfl⟩
def Gv(l:List Int)(k:Int):Int:=l.getD k.toNat 0
def dH(l:List Int)(k n:Int):Int:=if dL l≠0 then dL l else if k<0\/l.length<=k\/Gv l k=0 then 5 else if n < -Gv l k\/1000-Gv l k<n then 3 else 0
def cO(l:List Int)(k n:Int):List Int:=if dH l k n=0 then l.set k.toNat (Gv l k+n)else[]
theorem Nh(k n:Int)(h:dL l≠0):dH l k n=dL l/\cO l k n=[]:=by
 have:dH l k n=dL l:=by unfold dH;rw[if_pos h]
 exact⟨this,by unfold cO;rw[this,if_neg h]⟩
theorem GN{k:Int}(d:dL l=0)(h:k<0\/l.length<=k\/Gv l k=0):dH l k n=5/\cO l k n=[]:=by
 have:dH l k n=5:=by unfold dH;rw[if_neg (by omega),if_pos h]
 exact⟨this,by unfold cO;rw[this];rfl⟩
theorem MG{k:Int}(m:dL l=0)(h:¬(k<0\/l.length<=k\/Gv l k=0))(d:n < -Gv l k\/1000-Gv l k<n):dH l k n=3/\cO l k n=[]:=by
 have:dH l k n=3:=by unfold dH;rw[if_neg (by omega),if_neg h,if_pos d]
 exact⟨this,by unfold cO;rw[this];rfl⟩
theorem PL{k:Int}(m:dL l=0)(h:¬(k<0\/l.length<=k\/Gv l k=0))(d:¬(n < -Gv l k\/1000-Gv l k<n)):dH l k n=0/\cO l k n=l.set k.toNat (Gv l k+n):=by
 have:dH l k n=0:=by unfold dH;rw[if_neg (by omega),if_neg h,if_neg d]
 exact⟨this,by unfold cO;rw[this,if_pos rfl]⟩
theorem VM(h:k<l.length):Gv l k=l[k]:=by simp[Gv,h]
structure vW where
 blocks:List Page
 queue:List (Int × Page)
def zPg:Page:=#v[0,0,0,0,0,0,0,0]
def xe(n:Nat)(q:Int × Page):Bool:=decide (q.1<0)||decide ((n:Int)<=q.1)
def bX(d:vW):Int:=if 80<d.blocks.length\/400<d.queue.length then 4 else if d.queue.any (xe d.blocks.length)then 3 else 0
def aL(d:vW)(at_:Int):Int:=if bX d≠0 then bX d else if at_<0\/d.blocks.length<=at_ then 3 else 0
def over(k:Int)(p:Page)(q:List (Int × Page)):Page:=q.foldl (λp x=>if x.1=k then x.2 else p) p
theorem Ck(k:Int)(p:Page)(q:List (Int × Page))(x:Int × Page):over k p (q++[x])=if x.1=k then x.2 else over k p q:=by simp[over,Dz]
theorem Hw(k:Int)(p:Page)(q:List (Int × Page))(i:Nat)(h:i<q.length):over k p (q.take (i+1))=if q[i].1=k then q[i].2 else over k p (q.take i):=by
 rw[oC,aI h,Option.toList,Ck]
def dD(d:vW)(k:Int):Page:=if aL d k=0 then over k (d.blocks.getD k.toNat zPg) d.queue else zPg
def jQ(d:vW)(x:Int × Page):vW:=
 match d.queue with
 | []=>⟨d.blocks,[x]⟩
 | q::r=>if(q::r).length=400 then⟨d.blocks.set q.1.toNat q.2,r++[x]⟩else⟨d.blocks,(q::r)++[x]⟩
theorem Ru(d:vW)(x:Int × Page)(h:d.queue.length≠400):jQ d x=⟨d.blocks,d.queue++[x]⟩:=by
 unfold jQ;split
 ·rename_i e;rw[e];rfl
 ·rename_i q r e;rw[e]at h;rw[if_neg h,e]
theorem Qt(d:vW)(x:Int × Page)(h:d.queue.length=400):jQ d x=⟨d.blocks.set (d.queue[0]'(by omega)).1.toNat (d.queue[0]'(by omega)).2,d.queue.drop 1++[x]⟩:=by
 obtain⟨B,Q⟩:=d;unfold jQ;cases Q with
 | nil=>simp at h
 | cons q r=>simp only[if_pos h];rfl
def dR(d:vW)(k:Int)(p:Page):vW:=if aL d k=0 then jQ d (k,p)else⟨[],[]⟩
theorem Io{d:vW}(h:bX d=0):d.blocks.length<=80/\d.queue.length<=400:=by
 unfold bX at h;split at h
 ·omega
 ·omega
theorem Hq{d:vW}(h:bX d=0)(i:Nat)(m:i<d.queue.length):0<=d.queue[i].1/\d.queue[i].1<d.blocks.length:=by
 unfold bX at h;split at h
 ·omega
 split at h
 ·omega
 rename_i p;have:=uY.1 (by simpa using p) _ (fe m);simp[xe]at this;omega
def EZ(n:Int):vW:=if 0<=n/\n<=80 then⟨List.replicate n.toNat zPg,[]⟩else⟨[],[]⟩
theorem PG(k:Int)(p:Page)(q:Int × Page)(r:List (Int × Page)):over k p (q::r)=over k (if q.1=k then q.2 else p) r:=rfl
theorem jK(d:vW):bX d=0↔d.blocks.length<=80/\d.queue.length<=400/\∀x∈d.queue,0<=x.1/\x.1<d.blocks.length:=by
 unfold bX;constructor
 ·intro h;split at h
  ·omega
  split at h
  ·omega
  rename_i s h2;refine⟨by omega,by omega,λx m => ?_⟩;have:=uY.1 (by simpa using h2) x m;simp[xe]at this;omega
 rintro⟨s,h2,p⟩;rw[if_neg (by omega),if_neg];simp only[jP,not_exists,not_and];intro x m;have:=p x m;simp[xe];omega
theorem kF{d:vW}{k:Int}:aL d k=0↔bX d=0/\0<=k/\k<d.blocks.length:=by
 unfold aL;constructor
 ·intro h;split at h
  ·omega
  split at h
  ·omega
  ·omega
 rintro⟨p,h2,m⟩;rw[if_neg (by omega),if_neg (by omega)]
theorem xg(d:vW)(x:Int × Page):(jQ d x).blocks.length=d.blocks.length:=by
 unfold jQ;split
 ·rfl
 split
 ·simp
 ·rfl
theorem zK{d:vW}{x:Int × Page}(h:bX d=0)(A:0<=x.1)(z:x.1<d.blocks.length):bX (jQ d x)=0:=by
 obtain⟨h2,s,u⟩:=(jK d).1 h;rw[jK,xg];refine⟨h2,?_,?_⟩
 ·unfold jQ;split
  ·simp
  rename_i q r e;rw[e]at s;split
  ·rename_i p;simp at p ⊢; omega
  ·rename_i p;simp at p s ⊢; omega
 intro y m;have:y=x\/y∈d.queue:=by
  unfold jQ at m;split at m
  ·simp at m;exact .inl m
  rename_i q r e;rw[e];split at m
  ·simp at m ⊢; rcases m with h | h
   ·exact .inr (.inr h)
   ·exact .inl h
  simp at m ⊢; rcases m with h | h | h
  ·exact .inr (.inl h)
  ·exact .inr (.inr h)
  ·exact .inl h
 rcases this with rfl|h
 ·exact⟨A,z⟩
 ·exact u y h
theorem Ps(d:vW)(x:Int × Page)(o:Int)(m:∀y∈d.queue,0<=y.1/\y.1<d.blocks.length)(p:0<=o)(ho' : o<d.blocks.length) :
  over o ((jQ d x).blocks.getD o.toNat zPg) (jQ d x).queue=if x.1=o then x.2 else over o (d.blocks.getD o.toNat zPg) d.queue:=by
 unfold jQ;split
 ·rename_i e;rw[e];rfl
 rename_i q r e;split
 ·have a:=m q (by rw[e];exact iN ..);rw[Ck];congr 1;rw[e,PG];congr 1;simp only[aW,nE]
  by_cases h:q.1=o
  ·rw[if_pos h,if_pos (by rw[h]),if_pos (by rw[h];omega)];rfl
  ·rw[if_neg h,if_neg (by omega)]
 ·rw[e,Ck]
theorem Je{d:vW}{x:Int × Page}(h:bX d=0)(p:0<=x.1)(m:x.1<d.blocks.length)(o:Int):aL (jQ d x) o=aL d o:=by
 unfold aL;rw[zK h p m,h,xg]
theorem zb{d:vW}{x:Int × Page}(h:bX d=0)(s:0<=x.1)(p:x.1<d.blocks.length)(o:Int):dD (jQ d x) o=if aL d o=0/\x.1=o then x.2 else dD d o:=by
 unfold dD;rw[Je h s p]
 by_cases m:aL d o=0
 ·obtain⟨_,z,u⟩:=kF.1 m;rw[if_pos m,if_pos m,Ps d x o ((jK d).1 h).2.2 z u];simp[m]
 ·rw[if_neg m,if_neg m,if_neg (λh=>m h.1)]
def pg5:Page:=#v[5,0,0,0,0,0,0,0]
def d3:vW:=⟨[zPg,zPg,zPg],[]⟩
structure Fr where
 p:Page
 r:Int
 u:Bool
 d:Bool
 f:Int
 i:Int
 deriving DecidableEq
def Ew(f:Fr):Bool:=decide (f.r<0)||decide (1000<f.r)||decide (f.f < -1)||decide (5<=f.f)||decide (f.i<0)||decide (12<=f.i)
def Il(f:Fr):Bool:=decide (f.r=0)&&(f.u||f.d||decide (0<=f.f)||f.p != zPg)
def Cw(f:Fr):Bool:=decide (f.f<0)&&decide (f.i≠0)
def bT(f:Fr):Int:=if Ew f=true then 3 else if Il f=true\/Cw f=true then 7 else 0
structure Mem where
 fs:List Fr
 hand:Int
 deriving DecidableEq
def firstEf:List Fr->Int
 | []=>0
 | f::r=>if bT f≠0 then bT f else firstEf r
theorem firstEf_at:∀(l:List Fr) (k:Nat) (d:k<l.length),(∀i (h:i<l.length),i<k->bT l[i]=0)->bT l[k]≠0->firstEf l=bT l[k]
 | f::r,0,_,_,h=>by unfold firstEf;exact if_pos h
 | f::r,k+1,d,hp,h=>by unfold firstEf;rw[if_neg (λs=>s (hp 0 (by simp) (by omega)))];exact firstEf_at r k (by simpa using d) (λi p m=>hp (i+1) (by simpa using p) (by omega)) h
theorem firstEf_none:∀(l:List Fr),(∀i (h:i<l.length),bT l[i]=0)->firstEf l=0
 | [],_=>rfl
 | f::r,hp=>by unfold firstEf;rw[if_neg (λm=>m (hp 0 (by simp)))];exact firstEf_none r (λi d=>hp (i+1) (by simpa using d))
def bu(m:Mem):Int:=if 40<m.fs.length then 4 else if firstEf m.fs≠0 then firstEf m.fs else if m.hand<0\/(0<m.hand/\(m.fs.length:Int)<=m.hand)then 3 else 0
def dU(l:List Fr):Nat:=(l.filter (λf=>decide (f.r=0))).length
theorem Nk(l:List Fr)(k:Nat)(d:k<l.length):dU (l.take (k+1))=if l[k].r=0 then dU (l.take k)+1 else dU (l.take k):=by
 unfold dU;rw[oC,aI d,Option.toList,rO]
 by_cases h:l[k].r=0<;>simp[h]
theorem EH(l:List Fr):dU l<=l.length:=AC _ _
def fr0:Fr:=⟨zPg,0,false,false,0,0⟩
def frZ:Fr:=⟨zPg,0,false,false,-1,0⟩
def Oj(n:Int):Mem:=if 0<=n/\n<=40 then⟨List.replicate n.toNat frZ,0⟩else⟨[],0⟩
def wU(l:List Fr):Option Nat:=l.findIdx? (λf=>decide (f.r=0))
theorem NE{l:List Fr}(h:∀i (h:i<l.length),i<l.length->¬l[i].r=0):wU l=none:=by
 unfold wU;rw[wu];intro x m;obtain⟨i,d,rfl⟩:=jJ.1 m;simpa using h i d d
theorem Oh{l:List Fr}(p:i<l.length)(h:l[i].r=0)(d:∀j (h:j<l.length),j<i->¬l[j].r=0):wU l=some i:=by
 unfold wU;rw[si];exact⟨p,by simpa using h,λj m=>by simpa using d j (by omega) m⟩
def noM:Mem:=⟨[],0⟩
def bL(p:Page)(file index:Int):Fr:=⟨p,1,true,false,file,index⟩
def ig(m:Mem)(p:Page)(file index:Int):Int:=if bu m≠0 then bu m else if bT (bL p file index)≠0 then bT (bL p file index)else if wU m.fs=none then 10 else 0
def iJ(m:Mem)(p:Page)(file index:Int):Nat:=if ig m p file index=0 then(wU m.fs).getD 0 else 0
def fE(m:Mem)(p:Page)(file index:Int):Mem:=if ig m p file index=0 then⟨m.fs.set (iJ m p file index) (bL p file index),m.hand⟩else noM
theorem firstEf_all:∀(l:List Fr),firstEf l=0->∀f∈l,bT f=0
 | [],_,_,h=>by cases h
 | g::r,h,f,hf=>by
  unfold firstEf at h
  by_cases d:bT g=0
  ·rw[if_neg (λe=>e d)]at h;rcases dz.1 hf with rfl|hf
   ·exact d
   ·exact firstEf_all r h f hf
  rw[if_pos d]at h;exact absurd h d
theorem dO(m:Mem):bu m=0↔m.fs.length<=40/\(∀f∈m.fs,bT f=0)/\0<=m.hand/\(m.hand=0\/m.hand<m.fs.length):=by
 unfold bu;constructor
 ·intro h
  by_cases d:40<m.fs.length
  ·rw[if_pos d]at h;cases h
  rw[if_neg d]at h
  by_cases h2:firstEf m.fs=0
  ·rw[if_neg (λe=>e h2)]at h
   by_cases p:m.hand<0\/(0<m.hand/\(m.fs.length:Int)<=m.hand)
   ·rw[if_pos p]at h;cases h
   ·exact⟨by omega,firstEf_all _ h2,by omega,by omega⟩
  ·rw[if_pos h2]at h;exact absurd h h2
 rintro⟨d,h2,p,z⟩;rw[if_neg (by omega)];have u:firstEf m.fs=0:=firstEf_none _ (λi s=>h2 _ (fe s));rw[u,if_neg (λe=>e rfl),if_neg (by omega)]
theorem dN(f:Fr):bT f=0↔(0<=f.r/\f.r<=1000/\-1<=f.f/\f.f<5/\0<=f.i/\f.i<12)/\(f.r=0->f.u=false/\f.d=false/\f.f<0/\f.p=zPg)/\(f.f<0->f.i=0):=by
 unfold bT;have z:Ew f=false↔(0<=f.r/\f.r<=1000/\-1<=f.f/\f.f<5/\0<=f.i/\f.i<12):=by simp only[Ew,Df,decide_eq_false_iff_not,Int.not_lt,Int.not_le];omega
 have m:Il f=false↔(f.r=0->f.u=false/\f.d=false/\f.f<0/\f.p=zPg):=by
  unfold Il
  by_cases h:f.r=0
  ·simp[h,and_assoc]
  ·simp[h]
 have s:Cw f=false↔(f.f<0->f.i=0):=by
  unfold Cw
  by_cases h:f.f<0
  ·simp[h]
  ·simp[h]
 rw[<-z,<-m,<-s];cases Ew f<;>cases Il f<;>cases Cw f<;>simp
def oI(m:Mem)(k n:Int):Int:=if bu m≠0 then bu m else if k<0\/(m.fs.length:Int)<=k\/(m.fs.getD k.toNat fr0).r=0 then 5 else if n < -(m.fs.getD k.toNat fr0).r\/1000-(m.fs.getD k.toNat fr0).r<n then 3 else 0
def il(f:Fr)(n:Int):Fr:=if f.r+n=0 then frZ else{ f with r:=f.r+n }
def lX(m:Mem)(k n:Int):Mem:=if oI m k n=0 then⟨m.fs.set k.toNat (il (m.fs.getD k.toNat fr0) n),m.hand⟩else noM
def jG(m:Mem)(s:Nat):Nat:=(m.hand.toNat+s)%m.fs.length
def CU(m:Mem)(s i:Nat):Bool:=(List.range s).any (λt=>jG m t==i)
def unused(f:Fr):Fr:={ f with u:=false }
def pE(m:Mem)(s:Nat):List Fr:=m.fs.mapIdx (λi f=>if CU m s i then unused f else f)
def xJ(m:Mem)(s:Nat):Bool:=decide (0<(m.fs.getD (jG m s) fr0).r)&&(!(m.fs.getD (jG m s) fr0).u||decide (m.fs.length<=s))
def ja(m:Mem):Nat:=((List.range (2*m.fs.length)).find? (xJ m)).getD 0
def gN(m:Mem):Mem:=if bu m≠0 then noM else if dU m.fs=m.fs.length then m else⟨pE m (ja m),(jG m (ja m+1):Nat)⟩
def jv(m:Mem):Int:=if bu m≠0 then 0 else if dU m.fs=m.fs.length then -1 else(jG m (ja m):Nat)
theorem qp{m:Mem}(h:0<m.fs.length)(s:Nat):jG m s<m.fs.length:=rM _ h
theorem jC(m:Mem)(s:Nat):(pE m s).length=m.fs.length:=by simp[pE]
theorem wC(m:Mem)(s i:Nat)(d:i<m.fs.length):(pE m s)[i]'(by rw[jC];exact d)=if CU m s i then unused m.fs[i]else m.fs[i]:=by simp[pE]
theorem Qd(m:Mem)(s i:Nat):CU m (s+1) i=(CU m s i||jG m s==i):=by simp[CU,yo]
theorem Tu(m:Mem):pE m 0=m.fs:=by
 apply uZ
 ·rw[jC]
 intro i d h2;rw[wC m 0 i h2];rfl
theorem TA(m:Mem)(s:Nat)(h:0<m.fs.length):(pE m s).set (jG m s) (unused ((pE m s)[jG m s]'(by rw[jC];exact qp h s)))=pE m (s+1):=by
 apply uZ
 ·simp[jC]
 intro i p h2;have d:i<m.fs.length:=by rw[jC]at h2;exact h2
 rw[DF,wC m (s+1) i d,Qd]
 by_cases e:jG m s=i
 ·subst e;rw[if_pos rfl,wC m s _ d];cases CU m s (jG m s)<;>simp[unused]
 rw[if_neg e,wC m s i d];have:(jG m s==i)=false:=by simpa using e
 rw[this,Bool.or_false]
theorem Sc(m:Mem)(s:Nat)(h:0<m.fs.length):CU m s (jG m s)=decide (m.fs.length<=s):=by
 rw[nz];simp only[CU,jP,eO,beq_iff_eq,decide_eq_true_eq];constructor
 ·rintro⟨t,A,d⟩;unfold jG at d;rcases gu s m.fs.length with p|p
  ·exfalso;have z:(m.hand.toNat+s)%m.fs.length=(m.hand.toNat+t+(s-t))%m.fs.length:=by congr 1;omega
   rw[z,Nat.add_mod (m.hand.toNat+t) (s-t)]at d;have h2:(s-t)%m.fs.length=s-t:=rW (by omega);rw[h2]at d;have D:=rM (m.hand.toNat+t) h;generalize (m.hand.toNat+t)%m.fs.length=x at *
   rcases gu (x+(s-t)) m.fs.length with u|u
   ·rw[rW u]at d;omega
   ·rw[Nat.mod_eq_sub_mod u,rW (by omega)]at d;omega
  ·exact p
 intro p;refine⟨s-m.fs.length,by omega,?_⟩;unfold jG;have:m.hand.toNat+s=(m.hand.toNat+(s-m.fs.length))+m.fs.length:=by omega
 rw[this,Dq]
theorem WQ(m:Mem)(s:Nat)(h:0<m.fs.length):(pE m s)[jG m s]'(by rw[jC];exact qp h s)=if m.fs.length<=s then unused (m.fs[jG m s]'(qp h s))else m.fs[jG m s]'(qp h s):=by
 rw[wC m s _ (qp h s),Sc m s h];simp
theorem VL(m:Mem)(s:Nat)(h:0<m.fs.length):xJ m s=(decide (0<((pE m s)[jG m s]'(by rw[jC];exact qp h s)).r)&&!((pE m s)[jG m s]'(by rw[jC];exact qp h s)).u):=by
 rw[WQ m s h];unfold xJ;rw[show m.fs.getD (jG m s) fr0=m.fs[jG m s]'(qp h s)from by simp[qp h s]]
 by_cases d:m.fs.length<=s
 ·rw[if_pos d];simp[d,unused];rfl
 ·rw[if_neg d];simp[d]
theorem PI(l:List Fr):dU l=l.length↔∀f∈l,f.r=0:=by
 unfold dU;rw[List.length_filter_eq_length_iff];simp
theorem stops(m:Mem)(A:bu m=0)(z:dU m.fs≠m.fs.length):∃s,s<2*m.fs.length/\xJ m s=true:=by
 obtain⟨_,c,H,_⟩:=(dO m).1 A;rw[Ne,PI]at z;obtain⟨f,d⟩:=Classical.not_forall.1 z;obtain⟨u,G⟩:=Classical.not_imp.1 d;obtain⟨i,p,rfl⟩:=jJ.1 u;have e:=((dN _).1 (c _ u)).1.1;have a:0<m.fs.length:=by omega
 have F:=rM m.hand.toNat a;refine⟨(i+m.fs.length-m.hand.toNat%m.fs.length)%m.fs.length+m.fs.length,by have:=rM (i+m.fs.length-m.hand.toNat%m.fs.length) a;omega,?_⟩;have b:jG m ((i+m.fs.length-m.hand.toNat%m.fs.length)%m.fs.length+m.fs.length)=i:=by
  unfold jG;rw[<-ng,Dq,Nat.add_mod,Nat.mod_mod];generalize m.hand.toNat%m.fs.length=x at *
  rcases gu i x with h|h
  ·rw[rW (show i+m.fs.length-x<m.fs.length by omega)];rw[show x+(i+m.fs.length-x)=i+m.fs.length from by omega,Dq,rW p]
  have D:i+m.fs.length-x=(i-x)+m.fs.length:=by omega
  rw[D,Dq,rW (show i-x<m.fs.length by omega),show x+(i-x)=i from by omega,rW p]
 unfold xJ;rw[b];have:m.fs.getD i fr0=m.fs[i]:=by simp[p]
 rw[this];have E:0<m.fs[i].r:=by omega
 have h2:m.fs.length<=(i+m.fs.length-m.hand.toNat%m.fs.length)%m.fs.length+m.fs.length:=by omega
 simp[E,h2]
theorem TR(m:Mem)(d:bu m=0)(u:dU m.fs≠m.fs.length):ja m<2*m.fs.length/\xJ m (ja m)=true/\∀t,t<ja m->xJ m t=false:=by
 obtain⟨s,p,a⟩:=stops m d u;unfold ja;cases hfd:(List.range (2*m.fs.length)).find? (xJ m)with
 | none=>
  rw[qR]at hfd;exact absurd a (hfd s (eO.2 p))
 | some r=>
  rw[List.find?_range_eq_some]at hfd;obtain⟨A,h2,z⟩:=hfd;exact⟨eO.1 h2,A,λt h=>by simpa using z t h⟩
structure En where
 k:Int
 n:Int
 w:Bool
 deriving DecidableEq
def zEn:En:=⟨0,0,false⟩
abbrev Tb:=Vector (List En) 8
def eP(e:En):Int:=if e.k<0\/2<e.k then 1 else if e.n<0\/40<=e.n/\e.k=1\/60<=e.n then 3 else if e.k=0/\(e.n≠0\/e.w=true)\/e.k=2/\e.w=true then 7 else 0
def mR(h:List En):Int:=if h.length≠0/\h.length≠8 then 2 else if firstE (h.map eP)≠0 then firstE (h.map eP)else if 0<h.length/\h.any (λe=>decide (e.k≠0))=false then 2 else 0
def dA(t:Tb):Int:=firstE (t.toList.map mR)
def zh(h:List En)(k:Nat):Bool:=(h.take k).any (λe=>decide (e.k≠0))
theorem Py(h:List En):zh h 0=false:=rfl
theorem GR(h:List En)(k:Nat)(d:k<h.length):zh h (k+1)=(zh h k||decide (h[k].k≠0)):=by
 unfold zh;rw[oC,List.any_append,aI d];simp
theorem Lp(h:List En)(k:Nat)(d:h.length<=k):zh h k=h.any (λe=>decide (e.k≠0)):=by
 unfold zh;rw[jD d]
theorem xN{t:Tb}(h:∀i (d:i<8),mR t[i]=0):dA t=0:=ul λi d=>by simpa using h i (by simpa using d)
theorem sG{t:Tb}(k:Nat)(p:k<8)(h:∀i (m:i<8),i<k->mR t[i]=0)(d:mR t[k]≠0):dA t=mR t[k]:=by
 have:=yU (l:=t.toList.map mR) k (by simpa using p) (λi m a=>by simpa using h i (by simpa using m) a) (by simpa using d);rw[dA,this];simp
theorem zP{h:List En}(d:h.length≠0/\h.length≠8):mR h=2:=by unfold mR;rw[if_pos d]
theorem zZ{h:List En}(u:h.length=0\/h.length=8)(k:Nat)(s:k<h.length)(p:∀i (m:i<h.length),i<k->eP h[i]=0)(d:eP h[k]≠0):mR h=eP h[k]:=by
 have:=yU (l:=h.map eP) k (by simpa using s) (λi m a=>by simpa using p i (by simpa using m) a) (by simpa using d);have e:firstE (h.map eP)=eP h[k]:=by rw[this];simp
 unfold mR;rw[if_neg (by omega),e,if_pos d]
theorem za{h:List En}(p:h.length=0\/h.length=8)(m:∀i (d:i<h.length),eP h[i]=0):mR h=if 0<h.length/\h.any (λe=>decide (e.k≠0))=false then 2 else 0:=by
 have:=ul (l:=h.map eP) (λi d=>by simpa using m i (by simpa using d));unfold mR;rw[if_neg (by omega),this,if_neg (by omega)]
def Gq(t:Tb):Prop:=∀k (h:k<8),t[k].length*24<=140737488355328
def dM(t:Tb)(n:Int):En:=if h:0<=n/\n<64 then(if(t[n.toNat / 8]'(by omega)).length=8 then(t[n.toNat / 8]'(by omega)).getD (n.toNat%8) zEn else zEn)else zEn
theorem sU{t:Tb}(h:n<0\/64<=n:=by omega):dM t n=zEn:=by unfold dM;rw[dif_neg (by omega)]
theorem Br{t:Tb}(p:q<8)(m:r<8):dM t ((8*q+r:Nat):Int)=if t[q].length=8 then t[q].getD r zEn else zEn:=by
 unfold dM;rw[dif_pos (by omega)];have h:(((8*q+r:Nat):Int).toNat / 8)=q:=by rw[bv];omega
 have d:(((8*q+r:Nat):Int).toNat%8)=r:=by rw[bv];omega
 simp only[h,d]
theorem yB(h:0<=n/\n<64):∃q r:Nat,q<8/\r<8/\n=((8*q+r:Nat):Int)/\n / 8=(q:Int)/\n%8=(r:Int):=by
 refine⟨(n / 8).toNat,(n%8).toNat,by omega,by omega,by omega,by omega,by omega⟩
def qi(e:En):Bool:=decide (e.k≠0)
def setE(t:Tb)(n:Int)(e:En):Int:=if dA t≠0 then dA t else if n<0\/64<=n then 3 else eP e
def Wp(h:List En):List En:=if h.any qi then h else[]
def setH(h:List En)(r:Nat)(e:En):List En:=Wp ((if h.length=0 then List.replicate 8 zEn else h).set r e)
def zTb:Tb:=Vector.replicate 8 []
def setT(t:Tb)(n:Int)(e:En):Tb:=if h:(0<=n/\n<64)/\setE t n e=0 then t.set (n.toNat / 8) (setH (t[n.toNat / 8]'(by omega)) (n.toNat%8) e) (by omega)else zTb
theorem xA{t:Tb}{e:En}(h:setE t n e≠0):setT t n e=zTb:=by unfold setT;rw[dif_neg (λd=>h d.2)]
theorem Pd{t:Tb}{e:En}(h:setE t n e=0)(u:q<8)(s:r<8)(d:n=((8*q+r:Nat):Int)):setT t n e=t.set q (setH t[q] r e):=by
 unfold setT;subst d;rw[dif_pos ⟨by omega,h⟩];have p:(((8*q+r:Nat):Int).toNat / 8)=q:=by rw[bv];omega
 have m:(((8*q+r:Nat):Int).toNat%8)=r:=by rw[bv];omega
 simp only[p,m]
theorem qm{h:List En}(d:mR h=0):h.length=0\/h.length=8:=by
 by_cases e:h.length≠0/\h.length≠8
 ·rw[zP e]at d;cases d
 ·omega
theorem mi{t:Tb}(h:dA t=0)(k:Nat)(p:k<8):mR t[k]=0:=by
 have m:∀(l:List Int),firstE l=0->∀x∈l,x=0:=by
  intro l
  induction l with
  | nil=>intro _ x d;cases d
  | cons y r ih=>
   intro h x d
   by_cases e:y=0
   ·simp only[firstE,e,if_true]at h;rcases dz.1 d with rfl|d
    ·exact e
    ·exact ih h x d
   ·simp only[firstE,e,if_false]at h
 exact m _ h _ (iA.2 ⟨t[k],by simp,rfl⟩)
def kG(t:Tb)(k:Nat):List Int:=((List.range k).filter λn:Nat=>qi (dM t (n:Int))).map λn:Nat=>(n:Int)
def aV(t:Tb):List Int:=kG t 64
theorem tO(t:Tb)(k:Nat):(kG t k).length<=k:=by
 unfold kG;rw[eQ];exact bi (AC _ _) (by simp)
theorem KC{t:Tb}(h:qi (dM t (k:Int))=true):kG t (k+1)=kG t k++[(k:Int)]:=by
 unfold kG;rw[yo,rO,jM];simp[h]
theorem NV{t:Tb}(h:qi (dM t (k:Int))=false):kG t (k+1)=kG t k:=by
 unfold kG;rw[yo,rO,jM];simp[h]
structure CX (p:Int->Bool) (l:List Int) (j i:Nat) (cur:List Int):Prop where
 len:cur.length=l.length
 lt:i<j
 le:j<=l.length
 done:cur.take i=(l.take j).filter (λx => !p x)
 rest:∀t,j<=t->cur[t]?=l[t]?
theorem CX.start{p:Int->Bool}(u:i<l.length)(z:p l[i]=true)(d:∀j (h:j<l.length),j<i->p l[j]=false):CX p l (i+1) i l:=by
 refine⟨rfl,by omega,by omega,?_,λ_ _=>rfl⟩;rw[oC,rO,aI u,Option.toList];have A:(l.take i).filter (λq => !p q)=l.take i:=by rw[List.filter_eq_self];intro q m;obtain⟨j,s,rfl⟩:=jJ.1 m;simp only[iQ]at s;rw[List.getElem_take];simpa using d j (by omega) (by omega)
 simp[A,z]
theorem CX.keep{p:Int->Bool}{d:List Int}(h:CX p l j i d)(s:j<l.length)(m:p l[j]=false):CX p l (j+1) (i+1) (d.set i l[j]):=by
 have A:=h.lt;have h2:=h.len;refine⟨by simp[h.len],by omega,by omega,?_,λt z => ?_⟩
 ·have u:i<d.length:=by omega
  rw[oC,vU u,Option.toList,List.take_set_of_le (az _),h.done];rw[oC,rO,aI s,Option.toList];simp[m]
 rw[uH (by omega)];exact h.rest t (by omega)
theorem CX.skip{p:Int->Bool}{d:List Int}(h:CX p l j i d)(m:j<l.length)(s:p l[j]=true):CX p l (j+1) i d:=by
 have z:=h.lt;refine⟨h.len,by omega,by omega,?_,λt u=>h.rest t (by omega)⟩;rw[h.done];rw[oC,rO,aI m,Option.toList];simp[s]
theorem CX.all{p:Int->Bool}(h:∀i (h:i<l.length),p l[i]=false):l.filter (λx => !p x)=l:=by
 rw[List.filter_eq_self];intro q d;obtain⟨j,m,rfl⟩:=jJ.1 d;simpa using h j m
def qZ(t:Tb)(kind k:Int)(n:Int):Bool:=decide ((dM t n).k≠kind)||decide ((dM t n).n≠k)
def pX(t:Tb)(kind k:Int):List Int:=(aV t).filter λn => !qZ t kind k n
theorem Tn{h:List En}(m:j<h.length)(p:c=0↔zh h j=false)(s:0<=h[j].k):((0<h[j].k)->(c+1=0↔zh h (j+1)=false))/\(¬0<h[j].k->(c=0↔zh h (j+1)=false)):=by
 rw[GR h j m];constructor
 ·intro d;have:decide (h[j].k≠0)=true:=by simp;omega
  simp[this]
 intro d;have:decide (h[j].k≠0)=false:=by simp;omega
 simp[this,p]
theorem Xd(f g:En):(f==g)=(f.k==g.k&&(f.n==g.n&&f.w==g.w)):=by
 cases f;cases g;rw[nz];simp
def Ib(t u:Tb):Bool:=decide (t=u)
theorem Ht{t u:Tb}(k:Nat)(d:k<8)(h:t[k]≠u[k]):Ib t u=false:=by
 unfold Ib;rw[decide_eq_false_iff_not];rintro rfl;exact h rfl
theorem Ho{t u:Tb}(h:∀i (d:i<8),t[i]=u[i]):Ib t u=true:=by
 unfold Ib;rw[decide_eq_true_eq];exact yC h
def dC(t:Tb):List En:=(List.range 64).map λn:Nat=>dM t (n:Int)
structure Mh (t:Tb) (m:Nat) (l:List En):Prop where
 len:l.length=64
 at' : ∀n (h:n<64),l[n]?=some (if n<m then dM t (n:Int)else zEn)
theorem Mh.start{t:Tb}:Mh t 0 (List.replicate 64 zEn):=⟨kQ,λn h=>by rw[qw,if_pos h,if_neg (fA _)]⟩
theorem Mh.step{t:Tb}{m:Nat}{l:List En}(h:Mh t m l)(u:m<64){E:En}(s:dM t (m:Int)=E):Mh t (m+1) (l.set m E):=by
 refine⟨by simp[h.len],λn p => ?_⟩
 by_cases e:n=m
 ·subst e;rw[vU (by rw[h.len];exact p),if_pos (by omega),s]
 rw[uH (λd=>e d.symm),h.at' n p];congr 1
 by_cases d:n<m
 ·rw[if_pos d,if_pos (by omega)]
 ·rw[if_neg d,if_neg (by omega)]
theorem BN{t:Tb}(m:q<8)(d:r<8)(h:t[q].length=0):dM t ((8*q+r:Nat):Int)=zEn:=by
 rw[Br m d,if_neg (by omega)]
theorem Gz{t:Tb}(m:q<8)(d:r<8)(h:t[q].length=8){E:En}(p:t[q][r]?=some E):dM t ((8*q+r:Nat):Int)=E:=by
 rw[Br m d,if_pos h,aW,p];rfl
theorem Mh.skip{t:Tb}{l:List En}(h:Mh t (8*q) l)(p:q<8)(u:t[q].length=0):Mh t (8*(q+1)) l:=by
 refine⟨h.len,λn s => ?_⟩;rw[h.at' n s];congr 1
 by_cases m:n<8*q
 ·rw[if_pos m,if_pos (by omega)]
 rw[if_neg m]
 by_cases d:n<8*(q+1)
 ·rw[if_pos d];obtain⟨r,rfl⟩:∃r,n=8*q+r:=⟨n-8*q,by omega⟩;exact(BN p (by omega) u).symm
 ·rw[if_neg d]
theorem Mh.fin{t:Tb}{l:List En}(h:Mh t 64 l):l=dC t:=by
 apply oG;intro n;unfold dC
 by_cases d:n<64
 ·rw[h.at' n d,if_pos d];simp[d]
 ·rw[fH (by rw[h.len];omega),fH (by simp;omega)]
def Jq(e:En):Bool:=decide (0<e.k)
def mh(l:List En)(i:Nat):List En:=(l.drop (8*i)).take 8
def nD(l:List En)(i:Nat):List En:=if(mh l i).any Jq then mh l i else[]
def iw(l:List En):Tb:=Vector.ofFn λi:Fin 8=>nD l i.val
def zk(l:List En)(i k:Nat):Bool:=((l.drop (8*i)).take k).any Jq
theorem LQ{l:List En}(d:l.length=64)(m:i<8)(h:k<8):∃E,l[8*i+k]?=some E/\(l.drop (8*i)).take (k+1)=(l.drop (8*i)).take k++[E]:=by
 refine⟨l[8*i+k]'(by omega),aI (by omega),?_⟩;rw[oC,qY,aI (by omega)];rfl
theorem Fv{l:List En}(d:l.length=64)(m:i<8)(h:k<=8):((l.drop (8*i)).take k).length=k:=by
 simp;omega
structure GA (l:List En) (i:Nat) (h:List En) (t:Tb):Prop where
 lo:∀j (hj:j<8),j<i->t[j]=nD l j
 at' : ∀(hi:i<8),t[i]=h
 hi:∀j (hj:j<8),i<j->t[j]=[]
theorem GA.start{l:List En}:GA l 0 [] zTb:=⟨λ_ _ h=>absurd h (fA _),λ_=>by simp[zTb],λj d _=>by simp[zTb]⟩
theorem GA.next{l:List En}{t:Tb}(h:GA l i (nD l i) t)(m:i<8):GA l (i+1) [] t:=by
 refine⟨λj d a => ?_,λh2=>h.hi _ h2 (by omega),λj d a=>h.hi j d (by omega)⟩
 by_cases e:j=i
 ·subst e;exact h.at' d
 ·exact h.lo j d (by omega)
theorem GA.set{l:List En}{h h2:List En}{t:Tb}(s:GA l i h t)(p:i<8):GA l i h2 (t.set i h2):=
 ⟨λj m d=>by rw[yE p m (by omega)];exact s.lo j m d,λ_=>by simp,λj m d=>by rw[yE p m (by omega)];exact s.hi j m d⟩
theorem GA.fin{l:List En}{h:List En}{t:Tb}(m:GA l 8 h t):t=iw l:=by
 apply yC;intro i d;rw[m.lo i d d];simp[iw]
theorem UY{l:List En}(h:zk l i 8=false):nD l i=[]:=by
 unfold nD mh;unfold zk at h;rw[h];rfl
theorem Su{l:List En}(h:zk l i 8=true):nD l i=(l.drop (8*i)).take 8:=by
 unfold nD mh;unfold zk at h;rw[h];rfl
structure Fi where
 n:Int
 b:List Int
 deriving DecidableEq
structure St where
 fs:List Fi
 count:Int
 deriving DecidableEq
theorem yM(h:n<=96):eY n<=12:=by unfold eY;split<;>omega
def iB(c:Int):List Int->List Int->Int
 | _,[]=>0
 | seen,b::r=>if b < -1\/c<=b then 3 else if 0<=b/\b∈seen then 7 else iB c (seen++[b]) r
def pG(c:Int):List Int->List Fi->Int
 | _,[]=>0
 | seen,f::r=>if f.n<0\/96<f.n then 3 else if(f.b.length:Int)≠eY f.n then 2 else if iB c seen f.b≠0 then iB c seen f.b else pG c (seen++f.b) r
theorem wh(c:Int)(d:List Int)(b:Int)(r:List Int):iB c d (b::r)=if b < -1\/c<=b then 3 else if 0<=b/\b∈d then 7 else iB c (d++[b]) r:=rfl
def aT(s:St):Int:=if 5<s.fs.length\/s.count<0\/80<s.count then 4 else pG s.count [] s.fs
def tX(l:List Int)(j:Int):Bool:=decide (j∈l)
theorem Ff(l:List Int)(b:Int):(λi=>tX l i||decide (i=b))=tX (l++[b]):=by
 funext i;unfold tX;rw[nz];simp
theorem drop_at{α:Type}{l:List α}{x:α}(h:l[k]?=some x):l.drop k=x::l.drop (k+1):=by
 have d:=(bZ.1 h).1;rw[vK d,(bZ.1 h).2]
theorem take_at{α:Type}{l:List α}{x:α}(h:l[k]?=some x):l.take (k+1)=l.take k++[x]:=by
 rw[oC,h];rfl
def newE(n:Int):Int:=if n<0\/80<n then 4 else 0
def lT(s:St):List Int:=s.fs.flatMap Fi.b
def Yj(l:List Int):Nat:=(l.filter λx=>decide (0<=x)).length
def zu(s:St):Int:=s.count-Yj (lT s)
def iE(s:St)(b:Int):Bool:=decide (b∈lT s)
theorem Vi(l:List Int)(x:Int):l.any (λy=>decide (x=y))=decide (x∈l):=by
 rw[nz,jP,decide_eq_true_eq];constructor
 ·rintro⟨y,d,h⟩;rw[of_decide_eq_true h];exact d
 ·intro h;exact⟨x,h,decide_eq_true rfl⟩
def iD(s:St):Int:=match (List.range s.count.toNat).find? (λb:Nat => !iE s b)with
 | some b=>b
 | none => -1
theorem QO{s:St}(p:(b:Int)<s.count)(h:∀i:Nat,i<b->iE s i=true)(m:iE s b=false):iD s=b:=by
 unfold iD;have:(List.range s.count.toNat).find? (λb:Nat => !iE s b)=some b:=by rw[List.find?_range_eq_some];exact⟨by simp[m],eO.2 (by omega),λj d=>by simp[h j d]⟩
 rw[this]
theorem LD{s:St}(h:∀i:Nat,(i:Int)<s.count->iE s i=true):iD s = -1:=by
 unfold iD;have:(List.range s.count.toNat).find? (λb:Nat => !iE s b)=none:=by rw[qR];intro i d;have:=eO.1 d;simp[h i (by omega)]
 rw[this]
def zSt:St:=⟨[],0⟩
theorem lu{s:St}(h:aT s=0):s.fs.length<=5/\0<=s.count/\s.count<=80:=by
 unfold aT at h
 by_cases g:5<s.fs.length\/s.count<0\/80<s.count
 ·rw[if_pos g]at h;cases h
 ·omega
theorem Fy{c:Int}:∀ {fs:List Fi} {d:List Int},pG c d fs=0->∀f∈fs,0<=f.n/\f.n<=96/\(f.b.length:Int)=eY f.n/\∀b∈f.b,-1<=b/\b<c
 | f0::r,d,h,f,hf=>by
  unfold pG at h
  by_cases A:f0.n<0\/96<f0.n
  ·rw[if_pos A]at h;cases h
  rw[if_neg A]at h
  by_cases u:(f0.b.length:Int)≠eY f0.n
  ·rw[if_pos u]at h;cases h
  rw[if_neg u]at h
  by_cases p:iB c d f0.b≠0
  ·rw[if_pos p]at h;exact absurd h p
  rw[if_neg p]at h;rcases dz.1 hf with rfl|hf
  ·refine⟨by omega,by omega,ru.1 u,?_⟩;have s:∀(l:List Int) (sn:List Int),iB c sn l=0->∀b∈l,-1<=b/\b<c:=by
    intro l
    induction l with
    | nil=>intro _ _ b m;cases m
    | cons x r ih=>
     intro sn h b m;rw[wh]at h
     by_cases k1:x < -1\/c<=x
     ·rw[if_pos k1]at h;cases h
     rw[if_neg k1]at h
     by_cases z:0<=x/\x∈sn
     ·rw[if_pos z]at h;cases h
     rw[if_neg z]at h;rcases dz.1 m with rfl|m
     ·omega
     ·exact ih _ h b m
   exact s _ _ (ru.1 p)
  ·exact Fy h f hf
theorem wB{s:St}(h:aT s=0):∀f∈s.fs,0<=f.n/\f.n<=96/\(f.b.length:Int)=eY f.n/\∀b∈f.b,-1<=b/\b<s.count:=by
 have d:=lu h;unfold aT at h;rw[if_neg (by omega)]at h;exact Fy h
def aN(s:St)(k:Int):Fi:=if 0<=k then s.fs.getD k.toNat ⟨0,[]⟩else⟨0,[]⟩
def Bh(s:St)(k:Int)(f:Fi):St:=⟨s.fs.set k.toNat f,s.count⟩
def bO(s:St)(k i:Int):Int:=(aN s k).b.getD i.toNat 0
def dK(s:St)(k i:Int):Int:=
 if aT s≠0 then aT s else if k<0\/(s.fs.length:Int)<=k then 5 else if i<0\/((aN s k).b.length:Int)<=i then 9
 else if bO s k i<0/\iD s<0 then 10 else 0
def eZ(s:St)(k i:Int):Int:=if dK s k i≠0 then 0 else if bO s k i<0 then iD s else bO s k i
def eU(s:St)(k i:Int):St:=if dK s k i≠0 then zSt else if bO s k i<0 then Bh s k ⟨(aN s k).n,(aN s k).b.set i.toNat (iD s)⟩else s
theorem ym{s:St}{k i e:Int}(h:dK s k i=e)(d:e≠0):dK s k i=e/\eZ s k i=0/\eU s k i=zSt:=by
 refine⟨h,?_,?_⟩
 ·unfold eZ;rw[if_pos (by rw[h];exact d)]
 ·unfold eU;rw[if_pos (by rw[h];exact d)]
theorem Ra{s:St}(h:s.count<=80):iD s<80/\-1<=iD s:=by
 unfold iD;cases hf:(List.range s.count.toNat).find? (λb:Nat => !iE s b)with
 | none=>simp
 | some b=>
  have:=eO.1 (rP hf);simp;omega
def lG(l:List Int):List Int:=l.filter λx=>decide (0<=x)
theorem vk(l m:List Int):lG (l++m)=lG l++lG m:=rO _ _
theorem jL{x:Int}:x∈lG l↔x∈l/\0<=x:=by unfold lG;simp
theorem Cg{c:Int}:∀ {l d:List Int},iB c d l=0↔(∀b∈l,-1<=b/\b<c)/\(lG l).Nodup/\∀b∈l,0<=b->¬b∈d
 | [],d=>by simp[iB,lG]
 | x::r,d=>by
  rw[wh]
  by_cases k1:x < -1\/c<=x
  ·rw[if_pos k1];refine⟨λh=>(by cases h),λh => ?_⟩;have:=h.1 x iN;omega
  rw[if_neg k1]
  by_cases z:0<=x/\x∈d
  ·rw[if_pos z];refine⟨λh=>(by cases h),λh=>absurd z.2 (h.2.2 x iN z.1)⟩
  rw[if_neg z,Cg (l:=r)];have A:lG (x::r)=if 0<=x then x::lG r else lG r:=by unfold lG;rw[wR];simp
  rw[A];constructor
  ·intro ⟨h1,h2,h3⟩;refine⟨λb m => ?_,?_,λb m s p => ?_⟩
   ·rcases dz.1 m with rfl|m
    ·omega
    ·exact h1 b m
   ·by_cases u:0<=x
    ·rw[if_pos u];refine uz.2 ⟨λD => ?_,h2⟩;exact h3 x (jL.1 D).1 u (uO _ (bC.2 rfl))
    ·rw[if_neg u];exact h2
   rcases dz.1 m with rfl|m
   ·exact z ⟨s,p⟩
   ·exact h3 b m s (qh _ p)
  intro ⟨h1,h2,h3⟩;refine⟨λb m=>h1 b (jY _ m),?_,λb m s p => ?_⟩
  ·by_cases u:0<=x
   ·rw[if_pos u]at h2;exact(uz.1 h2).2
   ·rw[if_neg u]at h2;exact h2
  rcases gV.1 p with p|p
  ·exact h3 b (jY _ m) s p
  rw[bC.1 p]at m s;rw[if_pos s]at h2;exact(uz.1 h2).1 (jL.2 ⟨m,s⟩)
def FD(c:Int)(f:Fi):Prop:=0<=f.n/\f.n<=96/\(f.b.length:Int)=eY f.n/\∀b∈f.b,-1<=b/\b<c
theorem Hy{c:Int}:∀ {fs:List Fi} {d:List Int},pG c d fs=0↔(∀f∈fs,FD c f)/\(lG (fs.flatMap Fi.b)).Nodup/\∀b∈fs.flatMap Fi.b,0<=b->¬b∈d
 | [],d=>by simp[pG,lG]
 | f::r,d=>by
  unfold pG
  by_cases E:f.n<0\/96<f.n
  ·rw[if_pos E];refine⟨λh=>(by cases h),λh => ?_⟩;have:=h.1 f iN;unfold FD at this;omega
  rw[if_neg E]
  by_cases D:(f.b.length:Int)≠eY f.n
  ·rw[if_pos D];exact⟨λh=>(by cases h),λh=>absurd (h.1 f iN).2.2.1 D⟩
  rw[if_neg D,nV,vk]
  by_cases A:iB c d f.b≠0
  ·rw[if_pos A];refine⟨λh=>absurd h A,λh=>absurd (Cg.2 ⟨(h.1 f iN).2.2.2,(yw.1 h.2.1).1,λb m=>h.2.2 b (qh _ m)⟩) A⟩
  rw[if_neg A,Hy (fs:=r)];have s:=Cg.1 (ru.1 A);constructor
  ·intro ⟨h1,h2,h3⟩;refine⟨λx z => ?_,yw.2 ⟨s.2.1,h2,λa H b m e => ?_⟩,λb m u p => ?_⟩
   ·rcases dz.1 z with rfl|z
    ·exact⟨by omega,by omega,ru.1 D,s.1⟩
    ·exact h1 x z
   ·subst e;exact h3 a (jL.1 m).1 (jL.1 m).2 (uO _ (jL.1 H).1)
   rcases gV.1 m with m|m
   ·exact s.2.2 b m u p
   ·exact h3 b m u (qh _ p)
  intro ⟨h1,h2,h3⟩;obtain⟨K,G,F⟩:=yw.1 h2;refine⟨λx z=>h1 x (jY _ z),G,λb m u p => ?_⟩;rcases gV.1 p with p|p
  ·exact h3 b (uO _ m) u p
  ·exact F b (jL.2 ⟨p,u⟩) b (jL.2 ⟨m,u⟩) rfl
theorem mF{s:St}:aT s=0↔(s.fs.length<=5/\0<=s.count/\s.count<=80)/\(∀f∈s.fs,FD s.count f)/\(lG (lT s)).Nodup:=by
 unfold aT
 by_cases g:5<s.fs.length\/s.count<0\/80<s.count
 ·rw[if_pos g];exact⟨λh=>(by cases h),λh=>by omega⟩
 rw[if_neg g,Hy];exact⟨λh=>⟨by omega,h.1,h.2.1⟩,λh=>⟨h.2.1,h.2.2,λb _ _ d=>by cases d⟩⟩
def xS(N:Nat)(seen:List Int):List Bool:=(List.range N).map λi:Nat=>decide ((i:Int)∈seen)
theorem BA(N:Nat)(d:List Int):(xS N d).length=N:=by simp[xS]
theorem TV(N:Nat):xS N []=List.replicate N false:=by
 apply oG;intro i;unfold xS
 by_cases d:i<N
 ·simp[d,qw]
 ·rw[fH (by simp;omega),fH (by simp;omega)]
theorem JA(N:Nat)(d:List Int)(i:Nat)(h:i<N):(xS N d)[i]?=some (decide ((i:Int)∈d)):=by simp[xS,h]
theorem Td(N:Nat)(d:List Int)(x:Int)(h:x<0):xS N (d++[x])=xS N d:=by
 unfold xS;apply vS;intro i _;have:¬(i:Int)=x:=by omega
 simp[this]
theorem RL(N:Nat)(d:List Int)(X:Nat)(m:X<N):(xS N d).set X true=xS N (d++[(X:Int)]):=by
 apply oG;intro i
 by_cases h:i<N
 ·rw[JA N _ i h,nE]
  by_cases e:X=i
  ·subst e;rw[if_pos rfl,if_pos (by rw[BA];exact h)];simp
  rw[if_neg e,JA N _ i h];have:¬(i:Int)=(X:Int):=by omega
  simp[this]
 ·rw[fH (by simp[BA];omega),fH (by simp[BA];omega)]
structure Ar where
 fr:Int
 en:Int
 rd:Bool
 wr:Bool
 sh:Bool
 fi:Int
 ba:Int
 deriving DecidableEq
def aX(a:Ar):Int:=if a.fr<0\/a.en<=a.fr\/64<a.en\/a.fi < -1\/5<=a.fi\/a.ba<0 then 3 else if(a.fi<0/\(a.ba≠0\/a.sh=true))\/0<=a.fi/\12-(a.en-a.fr)<a.ba then 7 else 0
def kK(a:Ar):Int:=if 0<=a.fi then a.ba+a.en-a.fr else 0
def dP(a b:Ar):Bool:=a.en==b.fr&&a.rd==b.rd&&a.wr==b.wr&&a.sh==b.sh&&a.fi==b.fi&&b.ba==kK a
def vo(a:Ar):Prop:=(0<=a.ba/\a.ba<=12)/\(0<=a.fr/\a.fr<=64)/\0<=a.en/\a.en<=64
theorem bM{a:Ar}(h:aX a=0):vo a/\a.fr<a.en/\-1<=a.fi/\a.fi<5/\(a.fi<0->a.ba=0/\a.sh=false)/\(0<=a.fi->a.ba<=12-(a.en-a.fr)):=by
 unfold aX at h;split at h
 ·omega
 rename_i s;split at h
 ·omega
 rename_i h2;have m:a.fi<0->a.ba=0/\a.sh=false:=λd=>⟨yD λh=>h2 (.inl ⟨d,.inl h⟩),by
  cases hsh:a.sh
  ·rfl
  ·exact absurd (.inl ⟨d,.inr hsh⟩) h2⟩
 have p:0<=a.fi->a.ba<=12-(a.en-a.fr):=λd=>by omega
 unfold vo;refine⟨⟨⟨by omega,?_⟩,by omega,by omega,by omega⟩,by omega,by omega,by omega,m,p⟩
 by_cases d:a.fi<0
 ·have:=(m d).1;omega
 ·have:=p (by omega);omega
def jS(p:Option Ar)(i:Nat):List Ar->Int × Int
 | []=>(0,0)
 | a::r=>if aX a≠0 then(aX a,i)else if(match p with | some q=>decide (a.fr<q.en)||dP q a | none=>false)then(2,i)else jS (some a) (i+1) r
def bQ(l:List Ar):Int × Int:=if 16<l.length then(4,0)else jS none 0 l
def qJ(l:List Ar)(k:Nat):Option Ar:=if k=0 then none else l[k-1]?
theorem FH{l:List Ar}(d:k<l.length):qJ l (k+1)=some l[k]:=by simp[qJ,d]
def wW(p:Option Ar)(a:Ar):Bool:=match p with | some q=>decide (a.fr<q.en)||dP q a | none=>false
theorem oM(p:Option Ar)(i:Nat)(a:Ar)(r:List Ar):jS p i (a::r)=if aX a≠0 then(aX a,(i:Int))else if wW p a then(2,(i:Int))else jS (some a) (i+1) r:=rfl
theorem vN{l:List Ar}(d:k<l.length)(m:aX l[k]=0)(h:wW (qJ l k) l[k]=false):jS (qJ l k) k (l.drop k)=jS (qJ l (k+1)) (k+1) (l.drop (k+1)):=by
 rw[vK d,oM,if_neg (by rw[m];simp),h,FH d];rfl
theorem vQ{l:List Ar}(h:k<l.length)(m:aX l[k]=0)(d:wW (qJ l k) l[k]=true):jS (qJ l k) k (l.drop k)=(2,(k:Int)):=by
 rw[vK h,oM,if_neg (by rw[m];simp),d];rfl
theorem Ia{l:List Ar}(d:k<l.length)(h:aX l[k]≠0):jS (qJ l k) k (l.drop k)=(aX l[k],(k:Int)):=by
 rw[vK d,oM,if_pos h]
theorem LX{l:List Ar}{m:Nat}(d:m+1<l.length):wW (qJ l (m+1)) l[m+1]=(decide (l[m+1].fr<l[m].en)||dP l[m] l[m+1]):=by
 rw[FH (show m<l.length by omega)];rfl
def pU(n:Int)(a:Ar):Bool:=decide (a.fr<=n)&&decide (n<a.en)
def ik(l:List Ar)(n:Int):Int:=idx (pU n) l
def qQ(b a:Ar):Bool:=decide (a.fr<b.en)&&decide (b.fr<a.en)
def Ad(b a:Ar):Bool:=decide (b.fr<a.fr)
def zAr:Ar:=⟨0,0,false,false,false,0,0⟩
def Ac(acc:List Ar)(a:Ar):List Ar:=match acc.getLast? with
 | some q=>if dP q a then acc.set (acc.length-1) { q with en:=a.en }else acc++[a]
 | none=>acc++[a]
def um(l:List Ar):List Ar:=l.foldl Ac []
theorem sK{l:List Ar}(h:(bQ l).1=0):l.length<=16/\∀a∈l,aX a=0:=by
 unfold bQ at h;split at h
 ·exact absurd h (by decide)
 refine⟨by omega,?_⟩;have m:∀(l:List Ar) (p:Option Ar) (i:Nat),(jS p i l).1=0->∀a∈l,aX a=0:=by
  intro l
  induction l with
  | nil=>intro p i _ a d;cases d
  | cons b r ih=>
   intro p i h a d;rw[oM]at h;split at h
   ·rename_i s;exact absurd h s
   rename_i s;split at h
   ·exact absurd (show(2:Int)=0 from h) (by decide)
   rcases dz.1 d with rfl|d
   ·exact yD s
   ·exact ih _ _ h a d
 exact m l none 0 h
def Xg(l:List Ar)(x:Ar):Nat:=match l.findIdx? (Ad x)with
 | some k=>k
 | none=>l.length
def Es(l:List Ar)(x:Ar):List Ar:=l.take (Xg l x)++x::l.drop (Xg l x)
def Ca(l:List Ar)(x:Ar):Int:=if(bQ l).1≠0 then(bQ l).1 else if aX x≠0 then aX x else if l.any (qQ x)=true then 6 else if 16<(um (Es l x)).length then 4 else 0
def zD(l:List Ar)(x:Ar):List Ar:=if Ca l x≠0 then[]else um (Es l x)
theorem Ju{l:List Ar}{x:Ar}{e:Int}(h:Ca l x=e)(d:e≠0):Ca l x=e/\zD l x=[]:=by
 refine⟨h,?_⟩;unfold zD;rw[if_pos (by rw[h];exact d)]
def EJ(n:Nat):Int:=if 16<n then 4 else 0
def aa:Ar:=⟨2,8,true,false,false,-1,0⟩
structure Pg where
 rd:Bool
 wr:Bool
 sh:Bool
 fi:Int
 pg:Int
 deriving DecidableEq
def kS(a:Ar)(n:Int):Pg:=⟨a.rd,a.wr,a.sh,a.fi,if 0<=a.fi then a.ba+n-a.fr else 0⟩
def onA:List Ar->Int->Option Pg
 | [],_=>none
 | a::r,n=>if pU n a then some (kS a n)else onA r n
theorem dQ{a:Ar}:pU n a=true↔a.fr<=n/\n<a.en:=by unfold pU;simp
theorem dw(a:Ar)(r:List Ar)(n:Int):onA (a::r) n=if pU n a then some (kS a n)else onA r n:=rfl
theorem Iz(l m:List Ar)(n:Int):onA (l++m) n=(onA l n).or (onA m n):=by
 induction l with
 | nil=>simp[onA]
 | cons a r ih=>rw[Jb,dw,dw];split<;>simp[ih]
def srtF:Int->List Ar->Prop
 | _,[]=>True
 | lo,a::r=>aX a=0/\lo<=a.fr/\srtF a.en r
theorem srtF_ok:∀ {l:List Ar} {lo:Int},srtF lo l->∀a∈l,aX a=0/\lo<=a.fr
 | b::r,lo,h,a,ha=>by
  rcases dz.1 ha with rfl|ha
  ·exact⟨h.1,h.2.1⟩
  have d:=srtF_ok h.2.2 a ha;have h2:=(bM h.1).2.1;have m:=h.2.1;exact⟨d.1,by omega⟩
theorem on_low:∀ {l:List Ar} {lo n:Int},srtF lo l->n<lo->onA l n=none
 | [],_,_,_,_=>rfl
 | a::r,lo,n,h,hn=>by have d:=h.2.1;have h2:=(bM h.1).2.1;rw[dw,if_neg (by rw[dQ];omega)];exact on_low h.2.2 (by omega)
def okF(p:Option Ar):List Ar->Prop
 | []=>True
 | a::r=>aX a=0/\wW p a=false/\okF (some a) r
theorem zT{q a:Ar}:wW (some q) a=false↔q.en<=a.fr/\dP q a=false:=by
 unfold wW;simp
theorem okF_srt:∀ {l:List Ar} {q:Ar},okF (some q) l->srtF q.en l
 | [],_,_=>trivial
 | a::r,q,h=>⟨h.1,(zT.1 h.2.1).1,okF_srt h.2.2⟩
theorem lK{l:List Ar}(h:okF none l):srtF 0 l:=by
 match l,h with
 | [],_=>trivial
 | a::r,h=>exact⟨h.1,by have:=(bM h.1).1.2.1.1;exact this,okF_srt h.2.2⟩
theorem wrongAt_iff:∀ {l:List Ar} {p:Option Ar} {i:Nat},(jS p i l).1=0↔okF p l
 | [],_,_=>⟨λ_=>trivial,λ_=>rfl⟩
 | a::r,p,i=>by
  rw[oM]
  by_cases h:aX a=0
  ·rw[if_neg (by rw[h];simp)];cases hb:wW p a
   ·rw[if_neg (by simp),wrongAt_iff];exact⟨λh2=>⟨h,hb,h2⟩,λh2=>h2.2.2⟩
   rw[if_pos rfl];refine⟨λh2=>absurd (show(2:Int)=0 from h2) (by decide),λh2 => ?_⟩;have d:=h2.2.1;rw[hb]at d;cases d
  rw[if_pos h];exact⟨λh2=>absurd h2 h,λh2=>absurd h2.1 h⟩
theorem iX{l:List Ar}:(bQ l).1=0↔l.length<=16/\okF none l:=by
 unfold bQ
 by_cases h:16<l.length
 ·rw[if_pos h];exact⟨λh2=>absurd (show(4:Int)=0 from h2) (by decide),λh2=>by omega⟩
 rw[if_neg h,wrongAt_iff];exact⟨λh2=>⟨by omega,h2⟩,λh2=>h2.2⟩
theorem vv{q a:Ar}:dP q a=true↔q.en=a.fr/\q.rd=a.rd/\q.wr=a.wr/\q.sh=a.sh/\q.fi=a.fi/\a.ba=kK q:=by
 unfold dP;simp[and_assoc]
theorem RU{q a:Ar}(h:dP q a=true)(n:Int):kS a n=kS q n:=by
 obtain⟨z,h2,u,s,p,m⟩:=vv.1 h;unfold kS kK at *
 rw[<-h2,<-u,<-s,<-p];split
 ·rename_i d;rw[m,if_pos d];congr 1;omega
 ·rfl
theorem on_uniq:∀ {l m:List Ar} {p q:Option Ar},okF p l->okF q m->(∀n,onA l n=onA m n)->l=m
 | [],[],_,_,_,_,_=>rfl
 | [],b::s,_,_,_,hm,h=>by have:=h b.fr;rw[dw,if_pos (dQ.2 ⟨uh _,(bM hm.1).2.1⟩)]at this;cases this
 | a::r,[],_,_,hl,_,h=>by have:=h a.fr;rw[dw,if_pos (dQ.2 ⟨uh _,(bM hl.1).2.1⟩)]at this;cases this
 | a::r,b::s,p,q,hl,hm,h=>by
  have ea:=bM hl.1;have eb:=bM hm.1;have S:=okF_srt hl.2.2;have R:=okF_srt hm.2.2;have A:∀ {a b:Ar} {r s:List Ar},aX a=0->aX b=0->srtF a.en r->srtF b.en s->(∀n,onA (a::r) n=onA (b::s) n)->¬a.fr<b.fr:=by intro a b r s ha hb D hs h F;have d:=h a.fr;have h2:=(bM ha).2.1;have h3:=(bM hb).2.1;rw[dw,if_pos (dQ.2 ⟨uh _,h2⟩),dw,if_neg (by rw[dQ];omega),on_low hs (by omega)]at d;cases d
  have G:a.fr=b.fr:=by have d:=A hl.1 hm.1 S R h;have h2:=A hm.1 hl.1 R S (λn=>(h n).symm);omega
  have d:=h a.fr;rw[dw,if_pos (dQ.2 ⟨uh _,ea.2.1⟩),dw,if_pos (dQ.2 ⟨by omega,by have:=eb.2.1;omega⟩)]at d;have E:=aM d;unfold kS at E;simp only[Pg.mk.injEq]at E;obtain⟨O,N,M,g4,g5⟩:=E;have H:a.ba=b.ba:=by
   by_cases K:0<=a.fi
   ·rw[if_pos K,if_pos (by omega)]at g5;omega
   ·rw[(ea.2.2.2.2.1 (by omega)).1,(eb.2.2.2.2.1 (by omega)).1]
  have z:∀ {a b:Ar} {r s:List Ar},aX a=0->aX b=0->okF (some a) r->a.fr=b.fr->a.rd=b.rd->a.wr=b.wr->a.sh=b.sh->a.fi=b.fi->a.ba=b.ba->(∀n,onA (a::r) n=onA (b::s) n)->¬a.en<b.en:=by
   intro a b r s ha hb D k1 k2 k3 k4 k5 k6 h F;have d:=h a.en;have h2:=(bM ha).2.1;rw[dw,if_neg (by rw[dQ];omega),dw,if_pos (dQ.2 ⟨by omega,F⟩)]at d
   match r,D with
   | [],_=>cases d
   | c::t,D=>
    have hc:=zT.1 D.2.1;rw[dw]at d;split at d
    ·rename_i u;rw[dQ]at u;have U:=aM d;unfold kS at U;simp only[Pg.mk.injEq]at U;obtain⟨O,N,M,g4,g5⟩:=U;have:dP a c=true:=by
      rw[vv];refine⟨by omega,by rw[k2,O],by rw[k3,N],by rw[k4,M],by omega,?_⟩;unfold kK
      by_cases K:0<=a.fi
      ·rw[if_pos (by omega),if_pos (by omega)]at g5;rw[if_pos K];omega
      rw[if_neg K];exact((bM D.1).2.2.2.2.1 (by omega)).1
     rw[hc.2]at this;cases this
    rename_i u;rw[dQ]at u;have:=(bM D.1).2.1;rw[on_low (okF_srt D.2.2) (by omega)]at d;cases d
  have hen:a.en=b.en:=by have d:=z hl.1 hm.1 hl.2.2 G O N M g4 H h;have h2:=z hm.1 hl.1 hm.2.2 G.symm O.symm N.symm M.symm g4.symm H.symm (λn=>(h n).symm);omega
  have X:a=b:=by
   cases a;cases b
   simp_all
  subst X;congr 1;refine on_uniq hl.2.2 hm.2.2 λn => ?_;have d:=h n;rw[dw,dw]at d;split at d
  ·rename_i u;rw[dQ]at u;rw[on_low S (by omega),on_low R (by omega)]
  ·exact d
def uS(q:Ar):List Ar->List Ar
 | []=>[q]
 | a::r=>if dP q a then uS { q with en:=a.en } r else q::uS a r
theorem Kh(d:List Ar)(q a:Ar):Ac (d++[q]) a=if dP q a then d++[{ q with en:=a.en }]else d++[q]++[a]:=by
 unfold Ac;rw[Di];simp only[];split
 ·simp
 ·rfl
theorem tidy_go:∀(r:List Ar) (d:List Ar) (q:Ar),r.foldl Ac (d++[q])=d++uS q r
 | [],d,q=>rfl
 | a::r,d,q=>by
  rw[Bo,Kh];unfold uS;split
  ·exact tidy_go r d _
  ·rw[tidy_go r (d++[q]) a,jR];rfl
theorem zt(a:Ar)(r:List Ar):um (a::r)=uS a r:=by
 unfold um;rw[Bo];exact tidy_go r [] a
theorem CG{q a:Ar}(s:aX q=0)(u:aX a=0)(h:dP q a=true):aX { q with en:=a.en }=0:=by
 obtain⟨F,h2,E,D,A,d⟩:=vv.1 h;have m:=bM s;have p:=bM u;unfold vo at m p;unfold aX;rw[if_neg (by simp only[];omega),if_neg];simp only[];rintro(⟨k1,k2⟩|⟨k1,k2⟩)
 ·have:=m.2.2.2.2.1 k1;rcases k2 with k2|k2
  ·exact k2 this.1
  ·rw[this.2]at k2;cases k2
 have z:=p.2.2.2.2.2 (by omega);unfold kK at d;rw[if_pos k1]at d;omega
theorem Uw{q a:Ar}{r:List Ar}(p:aX q=0)(u:aX a=0)(h:dP q a=true)(n:Int):onA ({ q with en:=a.en }::r) n=onA (q::a::r) n:=by
 have s:=RU h n;obtain⟨A,_⟩:=vv.1 h;have h2:=(bM p).2.1;have z:=(bM u).2.1;rw[dw,dw,dw];have b:kS { q with en:=a.en } n=kS q n:=rfl
 by_cases m:pU n q=true
 ·rw[if_pos m,if_pos (by rw[dQ]at m ⊢; simp only[];omega),b]
 rw[if_neg m]
 by_cases d:pU n a=true
 ·rw[if_pos d,if_pos (by rw[dQ]at d ⊢; simp only[];omega),b,s]
 rw[if_neg d,if_neg];rw[dQ]at m d ⊢;simp only[];omega
theorem tdOn:∀ {r:List Ar} {q:Ar},aX q=0->srtF q.en r->∀n,onA (uS q r) n=onA (q::r) n
 | [],q,_,_,n=>rfl
 | a::r,q,hq,h,n=>by
  unfold uS;split
  ·rename_i d;rw[tdOn (CG hq h.1 d) (by simpa using h.2.2) n,Uw hq h.1 d]
  ·rw[dw,tdOn h.1 h.2.2 n,<-dw]
theorem tdOk:∀ {r:List Ar} {q:Ar} {p:Option Ar},aX q=0->srtF q.en r->wW p q=false->okF p (uS q r)
 | [],q,p,hq,_,hb=>⟨hq,hb,trivial⟩
 | a::r,q,p,hq,h,hb=>by
  unfold uS;split
  ·rename_i d;refine tdOk (CG hq h.1 d) (by simpa using h.2.2) ?_;cases p with
   | none=>rfl
   | some z=>exact hb
  rename_i d;exact⟨hq,hb,tdOk h.1 h.2.2 (zT.2 ⟨h.2.1,by simpa using d⟩)⟩
theorem JJ{l:List Ar}(h:srtF lo l)(n:Int):onA (um l) n=onA l n:=by
 match l,h with
 | [],_=>rfl
 | a::r,h=>rw[zt,tdOn h.1 h.2.2]
theorem Jd{l:List Ar}(h:srtF lo l):okF none (um l):=by
 match l,h with
 | [],_=>trivial
 | a::r,h=>rw[zt];exact tdOk h.1 h.2.2 rfl
def Mq(x:Ar):List Ar->List Ar
 | []=>[x]
 | a::r=>if x.fr<a.fr then x::a::r else a::Mq x r
theorem Dr(x:Ar):∀l:List Ar,Es l x=Mq x l
 | []=>rfl
 | a::r=>by
  have d:=Dr x r;unfold Es Xg at d ⊢;unfold Mq;rw[Aj]
  by_cases h:x.fr<a.fr
  ·rw[if_pos h,if_pos (show Ad x a=true from decide_eq_true h)];rfl
  rw[if_neg h,if_neg (show ¬Ad x a=true by unfold Ad;simpa using h)];cases hq:r.findIdx? (Ad x)with
  | none=>rw[hq]at d;simp only[JF]at *; rw[<-d];simp
  | some k=>rw[hq]at d;simp only[rT]at *; rw[<-d];simp
theorem Jp{x:Ar}(p:aX x=0)(n:Int):∀ {l:List Ar} {lo:Int},srtF lo l->(∀a∈l,qQ x a=false)->onA (Mq x l) n=if pU n x then some (kS x n)else onA l n
 | [],_,_,_=>rfl
 | a::r,lo,h,hm=>by
  unfold Mq;split
  ·rfl
  rename_i s;rw[dw,dw,Jp p n h.2.2 (λb u=>hm b (jY _ u))]
  by_cases m:pU n a=true
  ·rw[if_pos m,if_pos m];rw[if_neg];rw[dQ]at m ⊢;have d:=hm a iN;unfold qQ at d;have h2:=(bM p).2.1;have z:=(bM h.1).2.1;simp only[IY,decide_eq_false_iff_not]at d;omega
  ·rw[if_neg m,if_neg m]
theorem Fj{x:Ar}(m:aX x=0):∀ {l:List Ar} {lo:Int},srtF lo l->lo<=x.fr->(∀a∈l,qQ x a=false)->srtF lo (Mq x l)
 | [],lo,_,hl,_=>⟨m,hl,trivial⟩
 | a::r,lo,h,hl,hm=>by
  have d:=hm a iN;unfold qQ at d;have h2:=(bM m).2.1;have u:=(bM h.1).2.1;simp only[IY,decide_eq_false_iff_not]at d;unfold Mq;split
  ·exact⟨m,hl,h.1,by omega,h.2.2⟩
  rename_i p;exact⟨h.1,h.2.1,Fj m h.2.2 (by omega) (λb s=>hm b (jY _ s))⟩
theorem RY{a:Ar}(h:aX a=0){k:Int}(d:pU k a=true):0<=k/\k<64:=by
 have:=(bM h).1;unfold vo at this;rw[dQ]at d;omega
theorem toList_map{α β:Type}(o:Option α)(f:α->β):(o.map f).toList=o.toList.map f:=by cases o<;>rfl
theorem yI(l:List Ar)(n:Int):(0<=ik l n)↔onA l n≠none:=by
 have h:=pM (pU n) l;have h2:l.any (pU n)=true↔onA l n≠none:=by
  induction l with
  | nil=>simp[onA]
  | cons a r ih=>rw[List.any_cons,dw];cases pU n a<;>simp[ih (pM _ _)]
 rw[<-h2,<-h,decide_eq_true_eq];exact Iff.rfl
def oR(o:Option Pg):Bool:=match o with | some p=>p.rd | none=>false
def oW(o:Option Pg):Bool:=match o with | some p=>p.wr | none=>false
def oH(o:Option Pg):Bool:=match o with | some p=>p.sh | none=>false
def oF(o:Option Pg):Int:=match o with | some p=>p.fi | none=>0
def oP(o:Option Pg):Int:=match o with | some p=>p.pg | none=>0
def OT(f:Nat->Option Pg):List (Option Pg):=(List.range 64).map f
theorem xU(f:Nat->Option Pg):(OT f).length=64:=by simp[OT]
theorem Vo(f:Nat->Option Pg)(k:Nat)(x:Option Pg):(OT f).set k x=OT (λi=>if i=k then x else f i):=by
 unfold OT;apply oG;intro i;rw[nE]
 by_cases h:k=i
 ·subst h
  by_cases d:k<64
  ·simp[d]
  ·simp[d]
 rw[if_neg h]
 by_cases m:i<64
 ·simp[m,pO h]
 ·simp[m]
def f0:Nat->Option Pg:=λ_=>none
def Kq(A:Ar)(K:Int)(f:Nat->Option Pg):Nat->Option Pg:=λi=>if A.fr<=(i:Int)/\(i:Int)<K then some (kS A i)else f i
theorem Re(A:Ar)(f:Nat->Option Pg):Kq A A.fr f=f:=by funext i;unfold Kq;rw[if_neg (by omega)]
theorem Us{A:Ar}{K:Nat}(d:A.fr<=(K:Int))(f:Nat->Option Pg):(λi=>if i=K then some (kS A K)else Kq A K f i)=Kq A ((K:Int)+1) f:=by
 funext i;unfold Kq
 by_cases h:i=K
 ·subst h;rw[if_pos rfl,if_pos (by omega)]
 rw[if_neg h]
 by_cases c:A.fr<=(i:Int)/\(i:Int)<K
 ·rw[if_pos c,if_pos (by omega)]
 ·rw[if_neg c,if_neg (by omega)]
def dm(l:List Ar):Nat->Option Pg:=l.foldl (λf A=>Kq A A.en f) f0
theorem NU{l:List Ar}(d:k<l.length):dm (l.take (k+1))=Kq l[k] l[k].en (dm (l.take k)):=by
 unfold dm;rw[oC,aI d,Option.toList_some,Dz];rfl
def qU(p q:Pg):Pg:=if 0<=p.fi then{ q with pg:=q.pg+1 }else q
def nC(f:Nat->Option Pg)(k:Nat)(p:Pg):Bool:=match k with
 | 0=>false
 | m+1=>match f m with
  | some q=>qU p q==p
  | none=>false
def gG(k:Nat)(p:Pg):Ar:=⟨k,(k:Int)+1,p.rd,p.wr,p.sh,p.fi,p.pg⟩
def xm(l:List Ar)(e:Int):List Ar:=match l.getLast? with
 | some q=>l.set (l.length-1) { q with en:=e }
 | none=>l
def lY(f:Nat->Option Pg):Nat->List Ar
 | 0=>[]
 | k+1=>match f k with
  | none=>lY f k
  | some p=>if nC f k p then xm (lY f k) ((k:Int)+1)else lY f k++[gG k p]
theorem Hm(l:List Ar)(e:Int):(xm l e).length=l.length:=by unfold xm;split<;>simp
theorem JP(f:Nat->Option Pg):∀k,(lY f k).length<=k
 | 0=>az _
 | k+1=>by
  have d:=JP f k;unfold lY;split
  ·omega
  split
  ·rw[Hm];omega
  ·rw[jq,DK];omega
theorem SN(f:Nat->Option Pg){m:Nat}{q:Pg}(h:f m=some q):0<(lY f (m+1)).length:=by
 have a:∀k (q:Pg),f k=some q->0<(lY f (k+1)).length:=by
  intro k
  induction k with
  | zero=>intro q h;unfold lY;rw[h];simp[nC]
  | succ k ih=>
   intro q h;rw[lY,h];simp only[]
   by_cases d:nC f (k+1) q=true
   ·rw[if_pos d,Hm];cases hf:f k with
    | none=>
     have h2:nC f (k+1) q=false:=by simp only[nC,hf]
     rw[h2]at d;cases d
    | some z=>exact ih z hf
   ·rw[if_neg d,jq,DK];omega
 exact a m q h
theorem Xo(p q:Pg):(p==q)=(p.rd==q.rd&&(p.wr==q.wr&&(p.sh==q.sh&&(p.fi==q.fi&&p.pg==q.pg)))):=by
 cases p;cases q;rw[nz];simp
theorem Sa{f:Nat->Option Pg}(h:f k=none):lY f (k+1)=lY f k:=by rw[lY,h]
theorem Ua{f:Nat->Option Pg}{p:Pg}(h:f k=some p)(d:nC f k p=true):lY f (k+1)=xm (lY f k) ((k:Int)+1):=by
 rw[lY,h];simp only[];rw[if_pos d]
theorem Du{f:Nat->Option Pg}{p:Pg}(h:f k=some p)(d:nC f k p=false):lY f (k+1)=lY f k++[gG k p]:=by
 rw[lY,h];simp only[];rw[d];rfl
theorem Lr{l:List Ar}{n:Nat}(d:l.length=n+1)(e:Int):xm l e=l.set n { (l[n]'(by omega))with en:=e }:=by
 unfold xm;have:l.getLast?=some (l[n]'(by omega)):=by rw[List.getLast?_eq_getElem?,aI (by omega)];simp[d]
 rw[this];simp[d]
theorem Rs{f:Nat->Option Pg}(h:f k=none):lY f (k+1)=lY f k:=by rw[lY,h]
theorem VA{f:Nat->Option Pg}{p:Pg}(h:f k=some p)(d:nC f k p=true):lY f (k+1)=xm (lY f k) ((k:Int)+1):=by
 rw[lY,h];simp only[];rw[if_pos d]
theorem Ub{f:Nat->Option Pg}{p:Pg}(h:f k=some p)(d:nC f k p=false):lY f (k+1)=lY f k++[gG k p]:=by
 rw[lY,h];simp only[];rw[d];rfl
def Rw(p:Pg):Prop:=-1<=p.fi/\p.fi<5/\0<=p.pg/\(p.fi<0->p.pg=0/\p.sh=false)/\(0<=p.fi->p.pg<=11)
theorem DL{l:List Ar}(h:∀a∈l,a.en<=n):onA l n=none:=by
 induction l with
 | nil=>rfl
 | cons a r ih=>
  have:=h a iN;rw[dw,if_neg (by rw[dQ];omega),ih (λb d=>h b (jY _ d))]
theorem RN{l:List Ar}{a:Ar}(h:a∈l)(d:pU n a=true):onA l n≠none:=by
 induction l with
 | nil=>cases h
 | cons b r ih=>
  rw[dw];split
  ·simp
  rename_i m;rcases dz.1 h with rfl|h
  ·exact absurd d m
  ·exact ih h
theorem KF{x y:Ar}(d:aX y=0)(m:∀p,wW p x=false->wW p y=false):∀ {l:List Ar} {p:Option Ar},okF p (l++[x])->okF p (l++[y])
 | [],p,h=>⟨d,m p h.2.1,trivial⟩
 | a::r,p,h=>⟨h.1,h.2.1,KF d m h.2.2⟩
theorem LK{x y:Ar}(d:aX y=0)(m:wW (some x) y=false):∀ {l:List Ar} {p:Option Ar},okF p (l++[x])->okF p (l++[x]++[y])
 | [],p,h=>⟨h.1,h.2.1,d,m,trivial⟩
 | a::r,p,h=>⟨h.1,h.2.1,LK d m h.2.2⟩
theorem Ci{x:Ar}:∀ {l:List Ar} {p:Option Ar},okF p (l++[x])->aX x=0
 | [],p,h=>h.1
 | a::r,p,h=>Ci h.2.2
theorem Qy(s:k<64){p:Pg}(d:Rw p):aX (gG k p)=0:=by
 obtain⟨z,h2,u,m,h⟩:=d;unfold aX gG;simp only[];rw[if_neg (by omega),if_neg];rintro(⟨a,b⟩|⟨a,b⟩)
 ·have:=m a;rcases b with b|b
  ·exact b this.1
  ·rw[this.2]at b;cases b
 ·have:=h a;omega
theorem QZ{a:Ar}{m:Nat}{p:Pg}(h:qU p (kS a m)=p):kS a ((m:Int)+1)=p:=by
 unfold qU at h
 by_cases d:0<=p.fi
 ·rw[if_pos d]at h;have b:a.fi=p.fi:=by rw[<-h];rfl
  rw[<-h];unfold kS;simp only[];rw[if_pos (by omega),if_pos (by omega)];congr 1;omega
 rw[if_neg d]at h;have b:a.fi=p.fi:=by rw[<-h];rfl
 rw[<-h];unfold kS;rw[if_neg (by omega),if_neg (by omega)]
structure XC (f:Nat->Option Pg) (k:Nat):Prop where
 ok:okF none (lY f k)
 en:∀a∈lY f k,a.en<=(k:Int)
 on:∀i:Nat,i<k->onA (lY f k) i=f i
 last:∀m q,k=m+1->f m=some q->∃init a,lY f k=init++[a]/\a.en=(k:Int)/\a.fr<=(m:Int)/\kS a m=q
theorem Tq{f:Nat->Option Pg}(hf:∀i p,i<64->f i=some p->Rw p):∀k,k<=64->XC f k
 | 0,_=>⟨trivial,λa H=>(by cases H),λi hi=>absurd hi (fA _),λm q h=>(by cases h)⟩
 | k+1,hk=>by
  have K:=Tq hf k (by omega);have O:=K.en;cases hfk:f k with
  | none=>
   have d:=Rs hfk;refine⟨by rw[d];exact K.ok,λa H=>by rw[d]at H;have:=O a H;omega,λi hi => ?_,λm q hm hq => ?_⟩
   ·rw[d]
    by_cases u:i=k
    ·subst u;rw[hfk];exact DL O
    ·exact K.on i (by omega)
   obtain rfl:m=k:=by omega
   rw[hfk]at hq;cases hq
  | some p=>
   have hp:=hf k p (by omega) hfk;cases hs:nC f k p
   ·have d:=Ub hfk hs;have hx:=Qy (by omega:k<64) hp;have F:okF none (lY f (k+1)):=by
     rw[d];rcases List.eq_nil_or_concat (lY f k)with h0|⟨A,a,h0⟩
     ·rw[h0];exact⟨hx,rfl,trivial⟩
     rw[List.concat_eq_append]at h0;have E:=K.ok;have D:=K.on;rw[h0]at E D O ⊢;have hae:=O a (uO _ iN);refine LK hx (zT.2 ⟨hae,?_⟩) E;cases hj:dP a (gG k p)
     ·rfl
     exfalso;obtain⟨j1,j2,j3,j4,j5,j6⟩:=vv.1 hj;have j1' : a.en=(k:Int):=j1;have N:=Ci E;have hfr:=(bM N).1.2.1.1;have hlt:=(bM N).2.1;obtain⟨m,rfl⟩:∃m,k=m+1:=⟨k-1,by omega⟩;have hin:pU (m:Int) a=true:=dQ.2 ⟨by omega,by omega⟩;cases hfm:f m with
     | none=>
      have h1:=D m (by omega);rw[hfm]at h1;exact RN (uO _ iN) hin h1
     | some q=>
      obtain⟨init',a',e1,e2,e3,e4⟩:=K.last m q rfl hfm;rw[h0]at e1;have haa:a=a':=by have:=congrArg List.getLast? e1;rw[Di,Di]at this;exact aM this
      subst haa;have M:nC f (m+1) p=(qU p q==p):=by simp only[nC,hfm]
      rw[M]at hs;have:qU p q=p:=by
       rw[<-e4];have k2:a.rd=p.rd:=j2;have k3:a.wr=p.wr:=j3;have k4:a.sh=p.sh:=j4;have k5:a.fi=p.fi:=j5;have k6:p.pg=kK a:=j6;unfold kK at k6;clear hx hfk hp d hj hs e4 j2 j3 j4 j5 j6 M;cases p with
       | mk prd pwr psh pfi ppg=>
        have k2:a.rd=prd:=k2;have k3:a.wr=pwr:=k3;have k4:a.sh=psh:=k4;have k5:a.fi=pfi:=k5;have k6:ppg=if 0<=a.fi then a.ba+a.en-a.fr else 0:=k6;subst k2 k3 k4 k5 k6;unfold qU kS;show(if 0<=a.fi then(⟨a.rd,a.wr,a.sh,a.fi,(if 0<=a.fi then a.ba+(m:Int)-a.fr else 0)+1⟩:Pg)else⟨a.rd,a.wr,a.sh,a.fi,if 0<=a.fi then a.ba+(m:Int)-a.fr else 0⟩)=_
        by_cases s:0<=a.fi
        ·rw[if_pos s,if_pos s,if_pos s];congr 1;omega
        ·rw[if_neg s,if_neg s,if_neg s]
      rw[this]at hs;simp at hs
    refine⟨F,λa H => ?_,λi hi => ?_,λm q hm hq => ?_⟩
    ·rw[d]at H;rcases gV.1 H with H|H
     ·have:=O a H;omega
     ·rw[bC.1 H];show(k:Int)+1<=_;omega
    ·rw[d,Iz];have hone:onA [gG k p] (i:Int)=if i=k then some p else none:=by
      rw[dw]
      by_cases u:i=k
      ·subst u;rw[if_pos rfl,if_pos (show pU (i:Int) (gG i p)=true from dQ.2 ⟨uh _,by show(i:Int)<i+1;omega⟩)];unfold kS gG;simp only[];congr 1;obtain⟨_,_,_,h4,_⟩:=hp;cases p with
       | mk rd wr sh fi pg=>
        simp only[Pg.mk.injEq,true_and];simp only[]at h4;split
        ·omega
        ·exact(h4 (by omega)).1.symm
      rw[if_neg u,if_neg]
      ·rfl
      rw[dQ];show ¬((k:Int)<=i/\(i:Int)<k+1);omega
     rw[hone]
     by_cases u:i=k
     ·subst u;rw[if_pos rfl,DL O,hfk];rfl
     ·rw[if_neg u,K.on i (by omega),Option.or_none]
    obtain rfl:m=k:=by omega
    rw[hfk]at hq;cases hq;refine⟨lY f m,gG m p,d,by show(m:Int)+1=_;omega,uh _,?_⟩;unfold kS gG;simp only[];obtain⟨_,_,_,h4,_⟩:=hp;cases p with
    | mk rd wr sh fi pg=>
     simp only[Pg.mk.injEq,true_and];simp only[]at h4;split
     ·omega
     ·exact(h4 (by omega)).1.symm
   have d:=VA hfk hs;obtain⟨m,rfl⟩:∃m,k=m+1:=by
    cases k with
    | zero=>cases hs
    | succ m=>exact⟨m,rfl⟩
   have M:nC f (m+1) p=(match f m with | some q=>qU p q==p | none=>false):=rfl;rw[M]at hs;cases hfm:f m with
   | none=>rw[hfm]at hs;cases hs
   | some q=>
    rw[hfm]at hs;have hnx:qU p q=p:=by simpa using hs
    obtain⟨A,a,e1,e2,e3,e4⟩:=K.last m q rfl hfm;have F:=K.ok;have D:=K.on;rw[e1]at F D O d;have N:=Ci F;have ef:=bM N;rw[<-e4]at hnx;have S:=QZ hnx;have U:xm (A++[a]) (((m+1:Nat):Int)+1)=A++[{ a with en:=((m+1:Nat):Int)+1 }]:=by unfold xm;rw[Di];simp
    rw[U]at d;have hy:aX { a with en:=((m+1:Nat):Int)+1 }=0:=by
     unfold vo at ef;have e5:=ef.2.2.2.2.1;unfold aX;simp only[];rw[if_neg (by omega),if_neg];rintro(⟨b1,b2⟩|⟨b1,b2⟩)
     ·have:=e5 b1;rcases b2 with b2|b2
      ·exact b2 this.1
      ·rw[this.2]at b2;cases b2
     have h5:=hp.2.2.2.2;rw[<-S]at h5;have h6:=h5 b1;unfold kS at h6;simp only[]at h6;rw[if_pos b1]at h6;omega
    have G:∀b∈A,b.en<=((m+1:Nat):Int):=λb R=>O b (qh _ R);have s:∀n,kS { a with en:=((m+1:Nat):Int)+1 } n=kS a n:=λn=>rfl;refine⟨?_,λb R => ?_,λi hi => ?_,λm' q' hm' X => ?_⟩
    ·rw[d];refine KF hy (λz hz => ?_) F;cases z with
     | none=>rfl
     | some z=>exact hz
    ·rw[d]at R;rcases gV.1 R with R|R
     ·have:=G b R;omega
     ·rw[bC.1 R];show((m+1:Nat):Int)+1<=_;omega
    ·rw[d,Iz]
     by_cases u:i=m+1
     ·subst u;rw[DL G,dw,if_pos (dQ.2 ⟨by show a.fr<=((m+1:Nat):Int);omega,by show((m+1:Nat):Int)<((m+1:Nat):Int)+1;omega⟩),s,hfk];show some (kS a ((m+1:Nat):Int))=some p;rw[show((m+1:Nat):Int)=(m:Int)+1 by omega,S]
     have h1:=D i (by omega);rw[Iz]at h1;rw[<-h1];congr 1;rw[dw,dw,s]
     by_cases c:pU (i:Int) a=true
     ·rw[if_pos c,if_pos (by rw[dQ]at c ⊢; show a.fr<=(i:Int)/\(i:Int)<((m+1:Nat):Int)+1;omega)]
     ·rw[if_neg c,if_neg (by rw[dQ]at c ⊢; show ¬(a.fr<=(i:Int)/\(i:Int)<((m+1:Nat):Int)+1);omega)]
    obtain rfl:m' = m+1:=by omega
    rw[hfk]at X;cases X;refine⟨A,_,d,by show((m+1:Nat):Int)+1=_;omega,by show a.fr<=_;omega,?_⟩;rw[s,show((m+1:Nat):Int)=(m:Int)+1 by omega,S]
theorem Qw{f:Nat->Option Pg}(s:∀i p,i<64->f i=some p->Rw p):okF none (lY f 64)/\∀n:Int,onA (lY f 64) n=if 0<=n/\n<64 then f n.toNat else none:=by
 have h:=Tq s 64 (az _);refine⟨h.ok,λn => ?_⟩
 by_cases d:0<=n/\n<64
 ·rw[if_pos d];have:=h.on n.toNat (by omega);rwa [show((n.toNat:Nat):Int)=n by omega]at this
 rw[if_neg d];cases ho:onA (lY f 64) n with
 | none=>rfl
 | some p=>
  exfalso;have m:=lK h.ok
  by_cases z:n<0
  ·rw[on_low m z]at ho;cases ho
  ·rw[DL (λa u=>by have:=h.en a u;omega)]at ho;cases ho
theorem fold_on:∀ {l:List Ar} {lo:Int} (g:Nat->Option Pg),srtF lo l->∀i:Nat,(l.foldl (λf A=>Kq A A.en f) g) i=(onA l i).or (g i)
 | [],_,g,_,i=>by simp[onA]
 | a::r,lo,g,h,i=>by
  rw[Bo,fold_on _ h.2.2,dw]
  by_cases c:pU (i:Int) a=true
  ·rw[if_pos c,on_low h.2.2 (dQ.1 c).2];unfold Kq;rw[if_pos (dQ.1 c)];rfl
  rw[if_neg c];unfold Kq;rw[if_neg (λh=>c (dQ.2 h))]
theorem oN{l:List Ar}(h:srtF lo l)(i:Nat):dm l i=onA l i:=by
 unfold dm;rw[fold_on _ h];simp[f0]
theorem OX{a:Ar}(m:aX a=0)(d:pU n a=true):Rw (kS a n):=by
 have e:=bM m;unfold vo at e;rw[dQ]at d;have s:=e.2.2.2.2.1;have p:=e.2.2.2.2.2;unfold Rw kS;simp only[];refine⟨by omega,by omega,by split<;>omega,λh=>⟨by rw[if_neg (by omega)],(s h).2⟩,λh=>by rw[if_pos h];have:=p h;omega⟩
theorem RS{l:List Ar}(h:srtF lo l){p:Pg}(d:onA l n=some p):Rw p:=by
 induction l generalizing lo with
 | nil=>cases d
 | cons a r ih=>
  rw[dw]at d;split at d
  ·rename_i m;cases d;exact OX h.1 m
  ·exact ih h.2.2 d
theorem Nb{f:Nat->Option Pg}{m:List Ar}(s:okF none m)(u:∀i:Nat,i<64->f i=onA m i):lY f 64=m:=by
 have d:=lK s;obtain⟨F,h2⟩:=Qw (f:=f) (λi p A z=>RS d (by rw[<-u i A];exact z));refine on_uniq F s λn => ?_;rw[h2]
 by_cases h:0<=n/\n<64
 ·rw[if_pos h,u _ (by omega),show((n.toNat:Nat):Int)=n by omega]
 rw[if_neg h];symm;cases ho:onA m n with
 | none=>rfl
 | some p=>
  exfalso;have:∃a∈m,pU n a=true:=by have D:=(yI m n).2 (by rw[ho];simp);have:=pM (pU n) m;rw[show decide (0<=idx (pU n) m)=true from decide_eq_true D]at this;exact jP.1 this.symm
  obtain⟨a,E,b⟩:=this;have:=RY (srtF_ok d a E).1 b;omega
theorem TS{a b:Ar}(m:aX a=0)(p:aX b=0)(h:a.en<=b.fr):(lY (dm [a,b]) 64).length=if dP a b=true then 1 else 2:=by
 have d:srtF 0 [a,b]:=⟨m,(bM m).1.2.1.1,p,h,trivial⟩;have e:lY (dm [a,b]) 64=um [a,b]:=Nb (Jd d) λi _=>by rw[oN d,JJ d]
 rw[e,zt];unfold uS;split<;>rfl
theorem KZ{l:List Ar}(h:srtF lo l):∀i p,dm l i=some p->0<=p.pg/\p.pg<=100:=by
 intro i p d;rw[oN h]at d;obtain⟨_,_,z,u,s⟩:=RS h d;refine⟨z,?_⟩
 by_cases m:p.fi<0
 ·rw[(u m).1];decide
 ·have:=s (by omega);omega
def uM(x:Ar)(n:Nat)(f:Nat->Option Pg):Nat->Option Pg:=λi=>if pU (i:Int) x=true/\i<n then some (kS x i)else f i
theorem Nl(x:Ar)(f:Nat->Option Pg):uM x 0 f=f:=by funext i;unfold uM;rw[if_neg (by omega)]
theorem UK(x:Ar)(n:Nat)(f:Nat->Option Pg):uM x n f n=f n:=by unfold uM;rw[if_neg (by omega)]
theorem QB{x:Ar}{n:Nat}(h:¬pU (n:Int) x=true)(f:Nat->Option Pg):uM x (n+1) f=uM x n f:=by
 funext i;unfold uM
 by_cases c:i=n
 ·subst c;rw[if_neg (λq=>h q.1),if_neg (λq=>h q.1)]
 by_cases d:pU (i:Int) x=true/\i<n
 ·rw[if_pos d,if_pos ⟨d.1,by omega⟩]
 ·rw[if_neg d,if_neg (λq=>d ⟨q.1,by omega⟩)]
theorem Sm{x:Ar}{n:Nat}(h:pU (n:Int) x=true)(f:Nat->Option Pg):(λi=>if i=n then some (kS x n)else uM x n f i)=uM x (n+1) f:=by
 funext i;unfold uM
 by_cases c:i=n
 ·subst c;rw[if_pos rfl,if_pos ⟨h,by omega⟩]
 rw[if_neg c]
 by_cases d:pU (i:Int) x=true/\i<n
 ·rw[if_pos d,if_pos ⟨d.1,by omega⟩]
 ·rw[if_neg d,if_neg (λq=>d ⟨q.1,by omega⟩)]
theorem TD(x:Ar)(i:Nat):dm [x] i=if pU (i:Int) x=true then some (kS x i)else none:=by
 unfold dm;simp only[Bo,List.foldl_nil];unfold Kq f0
 by_cases c:pU (i:Int) x=true
 ·rw[if_pos c,if_pos (dQ.1 c)]
 ·rw[if_neg c,if_neg (λh=>c (dQ.2 h))]
theorem Ud{l:List Ar}{x:Ar}{i:Int}(d:pU i x=true)(h:onA l i≠none):l.any (qQ x)=true:=by
 have m:=(yI l i).2 h;have:=pM (pU i) l;rw[show decide (0<=idx (pU i) l)=true from decide_eq_true m]at this;obtain⟨a,p,b⟩:=jP.1 this.symm;refine jP.2 ⟨a,p,?_⟩;rw[dQ]at d b;unfold qQ;rw[decide_eq_true (by omega),decide_eq_true (by omega)];rfl
theorem Vl{l:List Ar}{x:Ar}(d:okF none l)(s:aX x=0)(h:∀i:Nat,i<64->¬(pU (i:Int) x=true/\onA l i≠none)):l.any (qQ x)=false:=by
 rw[uY];intro a p m;have b:=(srtF_ok (lK d) a p).1;have z:=bM b;have u:=bM s;unfold vo at z u;unfold qQ at m;rw[ed,decide_eq_true_eq,decide_eq_true_eq]at m;refine h (max a.fr x.fr).toNat (by omega) ⟨dQ.2 (by omega),RN p (dQ.2 (by omega))⟩
theorem FW{e:En}(h:eP e=0):qi e=Jq e:=by
 unfold eP at h;unfold qi Jq;split at h
 ·cases h
 rename_i d;rw[nz];simp;omega
theorem Be{h:List En}(s:mR h=0):∀e∈h,eP e=0:=by
 intro e D;obtain⟨i,A,rfl⟩:=jJ.1 D;have E:=qm s
 by_cases m:∀j (z:j<h.length),eP h[j]=0
 ·exact m i A
 exfalso;have p:firstE (h.map eP)≠0:=by
  intro p;apply m;intro j z;have u:∀(l:List Int),firstE l=0->∀x∈l,x=0:=by
   intro l
   induction l with
   | nil=>intro _ x d;cases d
   | cons y r ih=>
    intro h x d
    by_cases e:y=0
    ·simp only[firstE,e,if_true]at h;rcases dz.1 d with rfl|d
     ·exact e
     ·exact ih h x d
    ·simp only[firstE,e,if_false]at h
  exact u _ p _ (iA.2 ⟨h[j],fe z,rfl⟩)
 unfold mR at s;rw[if_neg (by omega),if_pos p]at s;exact p s
theorem Hl{t:Tb}(p:i<8)(h:mR t[i]=0):mh (dC t) i=if t[i].length=0 then List.replicate 8 zEn else t[i]:=by
 have d:=qm h;apply oG;intro r;unfold mh dC;rw[mE]
 by_cases m:r<8
 ·rw[if_pos m,qY,jd,uu (by omega)];simp only[rT];rcases d with d|d
  ·rw[if_pos d,qw,if_pos m,BN p m d]
  ·rw[if_neg (by omega),aI (by omega),Gz p m d (aI (by omega))]
 rw[if_neg m,fH];split
 ·simp;omega
 ·omega
theorem Ja{h:List En}(p:∀e∈h,eP e=0):h.any Jq=h.any qi:=by
 rw[nz];simp only[jP];constructor
 ·rintro⟨e,d,m⟩;exact⟨e,d,by rw[FW (p e d)];exact m⟩
 ·rintro⟨e,d,m⟩;exact⟨e,d,by rw[<-FW (p e d)];exact m⟩
theorem SG{h:List En}(m:mR h=0)(u:h.length≠0):h.any qi=true:=by
 have d:=za (qm m) (λi s=>Be m _ (fe s));rw[m]at d
 by_cases p:h.any (λe=>decide (e.k≠0))=false
 ·rw[if_pos ⟨by omega,p⟩]at d;cases d
 ·simpa[qi]using p
theorem CQ{t:Tb}(m:i<8)(h:mR t[i]=0):nD (dC t) i=t[i]:=by
 unfold nD;rw[Hl m h]
 by_cases d:t[i].length=0
 ·rw[if_pos d];have:t[i]=[]:=kV d;rw[this];decide
 rw[if_neg d,Ja (Be h),SG h d];rfl
theorem FL{t:Tb}{e:En}(h:setE t n e=0):setT t n e=iw ((dC t).set n.toNat e):=by
 have A:dA t=0:=by
  unfold setE at h
  by_cases D:dA t=0
  ·exact D
  ·rw[if_pos D]at h;exact h
 have u:0<=n/\n<64:=by
  unfold setE at h;rw[if_neg (by rw[A];simp)]at h
  by_cases u:n<0\/64<=n
  ·rw[if_pos u]at h;cases h
  ·omega
 have K:eP e=0:=by unfold setE at h;rwa [if_neg (by rw[A];simp),if_neg (by omega)]at h
 obtain⟨q,r,E,H,a,_,_⟩:=yB u;have M:n.toNat=8*q+r:=by omega
 rw[Pd h E H a,M];apply yC;intro i p;simp only[iw,qX];have z:=mi A i p
 by_cases G:i=q
 ·subst G;rw[Vector.getElem_set_self];have s:mh ((dC t).set (8*i+r) e) i=(mh (dC t) i).set r e:=by
   apply oG;intro k;have b:(dC t).length=64:=by simp[dC]
   by_cases d:k<8
   ·unfold mh;rw[mE,if_pos d,qY]
    by_cases F:k=r
    ·subst F;rw[vU (by omega),vU (by simp;omega)]
    ·rw[uH (by omega),uH (λh=>F h.symm),mE,if_pos d,qY]
   ·rw[fH (by simp[mh];omega),fH (by simp[mh];omega)]
  unfold nD;rw[s,Hl p z];unfold setH Wp;rw[Ja];intro x m;rcases lS m with m|rfl
  ·split at m
   ·rw[(DJ.1 m).2];rfl
   ·exact Be z x m
  ·exact K
 rw[yE E p (λh=>G h.symm)];have s:mh ((dC t).set (8*q+r) e) i=mh (dC t) i:=by
  apply oG;intro k;unfold mh;rw[mE,mE]
  by_cases d:k<8
  ·rw[if_pos d,if_pos d,qY,qY,uH (by omega)]
  ·rw[if_neg d,if_neg d]
 have:nD ((dC t).set (8*q+r) e) i=nD (dC t) i:=by unfold nD;rw[s]
 rw[this,CQ p z]
theorem QV{m:List Int}(d:l.length=m.length)(h:∀i (s:i<l.length),l[i]=m[i]'(by omega)):(l==m)=true:=by
 rw[beq_iff_eq];exact uZ d λi p h2=>h i p
theorem PV{m:List Int}(k:Nat)(d:k<l.length)(h2:k<m.length)(h:l[k]≠m[k]):(l==m)=false:=by
 rw[beq_eq_false_iff_ne];rintro rfl;exact h rfl
theorem Bb(t:Tb)(k:Nat)(h:k<64):(dC t)[k]?=some (dM t (k:Int)):=by
 unfold dC;simp[h]
theorem oD(t:Tb):(dC t).length=64:=by simp[dC]
theorem MU(t:Tb):Ib t t=true:=Ho λ_ _=>rfl
theorem qH{t:Tb}(h:dA t=0)(n:Int):eP (dM t n)=0:=by
 by_cases p:0<=n/\n<64
 ·obtain⟨q,r,d,m,rfl,_,_⟩:=yB p;rw[Br d m];split
  ·rename_i s;rw[aW,aI (by omega)];exact Be (mi h q d) _ (fe _)
  ·rfl
 ·rw[sU];rfl
theorem SA{e:En}(h:eP e=0)(h2:Jq e=false):e=zEn:=by
 have s:=FW h;rw[h2]at s;have m:e.k=0:=by simpa[qi]using s
 unfold eP at h;obtain⟨k,n,w⟩:=e;simp only at m;subst m;simp at h
 by_cases p:n<0\/60<=n
 ·rw[if_pos p]at h;cases h
 rw[if_neg p]at h
 by_cases d:¬n=0\/w=true
 ·rw[if_pos d]at h;cases h
 simp only[not_or,ru,Bool.not_eq_true]at d;obtain⟨rfl,rfl⟩:=d;rfl
theorem Fg{l:List En}{x:En}(h:x∈mh l i):x∈l:=List.mem_of_mem_drop (List.mem_of_mem_take h)
theorem Jv{l:List En}(h:∀x∈l,eP x=0)(s:l.length=64)(z:i<8):mR (nD l i)=0:=by
 unfold nD
 by_cases d:(mh l i).any Jq=true
 ·rw[if_pos d];have a:(mh l i).length=8:=Fv s z (by omega);rw[za (.inr a) (λj u=>h _ (Fg (fe u))),if_neg];rintro⟨_,h2⟩;have m:=Ja (h:=mh l i) (λx p=>h x (Fg p));rw[d]at m;have A:(mh l i).any qi=false:=h2;rw[A]at m;cases m
 ·rw[if_neg d];rfl
theorem CV{l:List En}(h:∀x∈l,eP x=0)(d:l.length=64):dA (iw l)=0:=
 xN λi m=>by simp only[iw,qX];exact Jv h d m
theorem zI{l:List En}(h:∀x∈l,eP x=0)(u:l.length=64){n:Nat}(z:n<64):dM (iw l) (n:Int)=l[n]'(by omega):=by
 obtain⟨q,r,p,s,d,_,_⟩:=yB (n:=(n:Int)) (by omega);have c : n=8*q+r:=by omega
 subst c;rw[Br p s];simp only[iw,qX];unfold nD;have b:(mh l q).length=8:=Fv u p (by omega);have a:(mh l q)[r]'(by omega)=l[8*q+r]'(by omega):=by simp[mh]
 by_cases m:(mh l q).any Jq=true
 ·simp only[if_pos m,if_pos b];rw[aW,aI (by omega),<-a];rfl
 simp only[if_neg m];rw[if_neg (by decide),<-a];symm;refine SA (h _ (Fg (fe _))) ?_;simp only[jP,not_exists,not_and,Bool.not_eq_true]at m;exact m _ (fe _)
theorem zH{t:Tb}(h:dA t=0):iw (dC t)=t:=by
 apply yC;intro i d;simp only[iw,qX];exact CQ d (mi h i d)
theorem Ex{l:List En}(h:∀x∈l,eP x=0)(d:l.length=64):dC (iw l)=l:=by
 apply uZ
 ·rw[oD,d]
 intro i m h2;have:=Bb (iw l) i (by omega);rw[zI h d (by omega),aI m]at this;exact aM this
theorem RQ{t:Tb}(h:dA t=0):∀x∈dC t,eP x=0:=by
 intro x d;obtain⟨i,m,rfl⟩:=iA.1 d;exact qH h _
theorem wM{t:Tb}{e:En}(h:setE t n e=0):dA t=0/\(0<=n/\n<64)/\eP e=0:=by
 unfold setE at h
 by_cases d:dA t=0
 ·rw[if_neg (by rw[d];simp)]at h
  by_cases m:n<0\/64<=n
  ·rw[if_pos m]at h;cases h
  rw[if_neg m]at h;exact⟨d,by omega,h⟩
 ·rw[if_pos d]at h;exact absurd h d
theorem AX{t:Tb}{e:En}(h:dA t=0)(h2:0<=n/\n<64)(d:eP e=0):setE t n e=0:=by
 unfold setE;rw[if_neg (by rw[h];simp),if_neg (by omega),d]
theorem Jh{t:Tb}{n:Nat}{e:En}(m:dA t=0)(h:eP e=0):∀x∈(dC t).set n e,eP x=0:=by
 intro x d;rcases lS d with d|rfl
 ·exact RQ m x d
 ·exact h
theorem qf{t:Tb}{e:En}(h:setE t n e=0):dA (setT t n e)=0:=by
 obtain⟨m,h2,d⟩:=wM h;rw[FL h];exact CV (Jh m d) (by rw[bI,oD])
theorem zU{t:Tb}{e:En}(h:setE t n e=0)(k:Int):dM (setT t n e) k=if k=n then e else dM t k:=by
 obtain⟨s,h2,p⟩:=wM h;rw[FL h]
 by_cases m:0<=k/\k<64
 ·obtain⟨j,rfl⟩:=iO m.1;rw[zI (Jh s p) (by rw[bI,oD]) (by omega)];rw[DF]
  by_cases d:(j:Int)=n
  ·rw[if_pos (by omega),if_pos d]
  rw[if_neg (by omega),if_neg d];have:=Bb t j (by omega);rw[aI (by rw[oD];omega)]at this;exact aM this
 ·rw[if_neg (by omega),sU,sU]
theorem UD(t:Tb):∀n∈aV t,0<=n/\n<64:=by
 intro n d;unfold aV kG at d;obtain⟨m,h,rfl⟩:=iA.1 d;have:=eO.1 (Ab.1 h).1;omega
theorem KX{t:Tb}(h:dA t=0):Gq t:=λk d=>by
 have:=qm (mi h k d);omega
theorem zTb_right:dA zTb=0:=by decide
theorem FK{m:Mem}{f:Fr}(d:bu m=0)(s:bT f=0):bu ⟨m.fs.set k f,m.hand⟩=0:=by
 obtain⟨A,h2,z,u⟩:=(dO m).1 d;rw[dO];simp only[bI];refine⟨A,λg p => ?_,z,u⟩;rcases lS p with h|rfl
 ·exact h2 g h
 ·exact s
theorem Fe(f:Fr):bT f=0\/bT f=3\/bT f=7:=by
 unfold bT;split
 ·exact .inr (.inl rfl)
 split
 ·exact .inr (.inr rfl)
 ·exact .inl rfl
theorem firstEf_mem:∀l:List Fr,firstEf l=0\/firstEf l=3\/firstEf l=7
 | [] => .inl rfl
 | f::r=>by
  unfold firstEf;split
  ·exact Fe f
  ·exact firstEf_mem r
theorem NK(m:Mem):bu m=0\/bu m=3\/bu m=4\/bu m=7:=by
 unfold bu;have:=firstEf_mem m.fs;split
 ·omega
 split
 ·omega
 ·split<;>omega
theorem Qu{l:List Fr}(h:wU l=some k):∃d:k<l.length,l[k].r=0:=by
 unfold wU at h;rw[si]at h;obtain⟨d,m,_⟩:=h;exact⟨d,by simpa using m⟩
theorem Ut{l:List Fr}(h:wU l=none):dU l=0:=by
 unfold wU at h;rw[wu]at h;unfold dU;rw[Eh,List.filter_eq_nil_iff];exactλf d=>by simpa using h f d
theorem QT{m:Mem}{p:Page}(h:ig m p file index=10):dU m.fs=0:=by
 unfold ig at h;have d:=NK m;have h2:=Fe (bL p file index);split at h
 ·omega
 split at h
 ·omega
 split at h
 ·exact Ut ‹_›
 ·cases h
theorem VX{m:Mem}{p:Page}(h:ig m p file index=0):bu m=0/\bT (bL p file index)=0/\∃k,∃d:k<m.fs.length,m.fs[k].r=0/\iJ m p file index=k/\fE m p file index=⟨m.fs.set k (bL p file index),m.hand⟩:=by
 have u:=h;unfold ig at h;split at h
 ·exact absurd h ‹_›
 rename_i D;split at h
 ·exact absurd h ‹_›
 rename_i h2;split at h
 ·cases h
 rename_i A;cases hf:wU m.fs with
 | none=>exact absurd hf A
 | some k=>
  obtain⟨d,z⟩:=Qu hf;have s:iJ m p file index=k:=by unfold iJ;rw[if_pos u,hf];rfl
  exact⟨by omega,by omega,k,d,z,s,by unfold fE;rw[if_pos u,s]⟩
theorem OY{f:Fr}(h:bT f=0)(m:f.r=0):f=frZ:=by
 obtain⟨⟨_,_,H,_,_,_⟩,h2,G⟩:=(dN f).1 h;obtain⟨F,E,D,A⟩:=h2 m;have z:=G D;have s:f.f = -1:=by omega
 obtain⟨p,r,u,d,K,i⟩:=f;simp only at *
 subst m F E A z s;rfl
theorem Fq(h:dL l=0):∀x∈l,rR x=false:=by
 unfold dL at h;split at h
 ·omega
 split at h
 ·omega
 rename_i m;intro x d;have:=uY.1 (by simpa using m) x d;simpa using this
theorem Ir(m:l.length<=60)(h:∀x∈l,rR x=false):dL l=0:=by
 unfold dL;rw[if_neg (by omega),if_neg];simp only[jP,not_exists,not_and];intro x d;simp[h x d]
theorem EX(k:Nat)(x:Int)(h:dL l=0)(s:0<=x)(p:x<=1000):dL (l.set k x)=0:=by
 refine Ir (by rw[bI];exact kJ h) λy d => ?_;rcases lS d with m|rfl
 ·exact Fq h _ m
 ·simp[rR];omega
theorem Hu{α:Type}{l:List α}{x:α}(h:l[i]?=some x)(y:α):l=l.take i++x::l.drop (i+1)/\l.set i y=l.take i++y::l.drop (i+1):=by
 obtain⟨d,rfl⟩:=bZ.1 h;refine⟨?_,?_⟩
 ·rw[List.getElem_cons_drop,rJ]
 ·rw[List.set_eq_take_append_cons_drop,if_pos d]
theorem Ul{x:Int}(h:x<0)(l:List Int):lG (x::l)=lG l:=by unfold lG;rw[wR,if_neg (by simp;omega)]
theorem JN{x:Int}(h:0<=x)(l:List Int):lG (x::l)=x::lG l:=by unfold lG;rw[wR,if_pos (by simpa using h)]
theorem Ke{s:St}{F:Nat}{f:Fi}(u:s.fs[F]?=some f){v:Int}(m:f.b[I]?=some v)(p:v<0){X:Int}(z:0<=X)(n c:Int) :
  (lG (lT ⟨s.fs.set F ⟨n,f.b.set I X⟩,c⟩)).Perm (X::lG (lT s)):=by
 have h:=Hu u ⟨n,f.b.set I X⟩;have d:=Hu m X;unfold lT;show(lG ((s.fs.set F ⟨n,f.b.set I X⟩).flatMap Fi.b)).Perm (X::lG (s.fs.flatMap Fi.b));rw[h.2]
 conv=>rhs;rw[h.1]
 simp only[fM,nV,vk];rw[d.2]
 conv=>rhs;rw[show f.b=f.b.take I++v::f.b.drop (I+1)from d.1]
 simp only[vk,Ul p,JN z];refine List.Perm.trans ?_ List.perm_middle;refine List.Perm.append_left _ ?_;rw[jR,jR];exact List.perm_middle
theorem GK{s:St}(h:0<=iD s):iD s<s.count/\iE s (iD s)=false:=by
 unfold iD at h ⊢;cases hf:(List.range s.count.toNat).find? (λb:Nat => !iE s b)with
 | none=>rw[hf]at h;simp at h
 | some b=>
  have d:=eO.1 (rP hf);have h2:=uD hf;simp only;refine⟨by omega,by simpa using h2⟩
theorem CB{s:St}{k i:Int}(h:dK s k i=0):aT s=0/\∃(F I:Nat) (f:Fi) (v:Int),k=F/\i=I/\s.fs[F]?=some f/\f.b[I]?=some v/\aN s k=f/\bO s k i=v /\
  ((0<=v/\eU s k i=s/\eZ s k i=v)\/(v<0/\0<=iD s/\eZ s k i=iD s/\eU s k i=⟨s.fs.set F ⟨f.n,f.b.set I (iD s)⟩,s.count⟩)):=by
 have d:=h;unfold dK at d
 by_cases p:aT s≠0
 ·rw[if_pos p]at d; exact absurd d p
 rw[if_neg p]at d
 by_cases E:k<0\/(s.fs.length:Int)<=k
 ·rw[if_pos E]at d; cases d
 rw[if_neg E]at d
 by_cases u:i<0\/((aN s k).b.length:Int)<=i
 ·rw[if_pos u]at d; cases d
 rw[if_neg u]at d
 by_cases D:bO s k i<0/\iD s<0
 ·rw[if_pos D]at d; cases d
 obtain⟨F,rfl⟩:=iO (show 0<=k by omega);obtain⟨I,rfl⟩:=iO (show 0<=i by omega);have A:F<s.fs.length:=by omega
 have a:aN s F=s.fs[F]:=by unfold aN;rw[if_pos (by omega),bv,aW,aI A];rfl
 rw[a]at u;have z:I<s.fs[F].b.length:=by omega
 have c:bO s F I=s.fs[F].b[I]:=by unfold bO;rw[a,bv,aW,aI z];rfl
 refine⟨ru.1 p,F,I,s.fs[F],s.fs[F].b[I],rfl,rfl,aI A,aI z,a,c,?_⟩;have G:eU s F I=if bO s F I<0 then Bh s F ⟨(aN s F).n,(aN s F).b.set ((I:Int)).toNat (iD s)⟩else s:=by unfold eU;rw[if_neg (by rw[h];simp)]
 have H:eZ s F I=if bO s F I<0 then iD s else bO s F I:=by unfold eZ;rw[if_neg (by rw[h];simp)]
 rw[G,H,c];rw[c]at D
 by_cases m:s.fs[F].b[I]<0
 ·refine .inr ⟨m,by omega,if_pos m,?_⟩;rw[if_pos m,a,bv];unfold Bh;rw[bv]
 ·exact .inl ⟨by omega,if_neg m,if_neg m⟩
theorem Jr{s:St}{x:Int}(h:iE s x=false):¬x∈lT s:=by
 unfold iE at h;simpa using h
theorem PD{s:St}{F:Nat}{f:Fi}{v:Int}(h:aT s=0)(p:s.fs[F]?=some f)(m:f.b[I]?=some v)(A:0<=v):dK s F I=0/\eZ s F I=v/\eU s F I=s:=by
 have z:=(bZ.1 p).1;have u:=(bZ.1 m).1;have c:aN s F=f:=by unfold aN;rw[if_pos (by omega),bv,aW,p];rfl
 have a:bO s F I=v:=by unfold bO;rw[c,bv,aW,m];rfl
 have d:dK s F I=0:=by unfold dK;rw[if_neg (by rw[h];simp),if_neg (by omega),c,if_neg (by omega),a,if_neg (by omega)]
 refine⟨d,?_,?_⟩
 ·unfold eZ;rw[if_neg (by rw[d];simp),a,if_neg (by omega)]
 ·unfold eU;rw[if_neg (by rw[d];simp),a,if_neg (by omega)]
theorem CY{s:St}(h:aT s=0){F:Nat}{f:Fi}{v:Int}(p:s.fs[F]?=some f)(u:f.b[I]?=some v)(A:v<0){X:Int}(G:0<=X)(E:X<s.count)(z:iE s X=false) :
  aT ⟨s.fs.set F ⟨f.n,f.b.set I X⟩,s.count⟩=0:=by
 obtain⟨K,h2,H⟩:=mF.1 h;have a:=h2 f (bP p);refine mF.2 ⟨by simpa using K,λg d => ?_,?_⟩
 ·rcases lS d with d|rfl
  ·exact h2 g d
  refine⟨a.1,a.2.1,by simpa using a.2.2.1,λb m => ?_⟩;rcases lS m with m|rfl
  ·exact a.2.2.2 b m
  show -1<=b/\b<s.count;omega
 ·exact(Ke p u A G f.n s.count).nodup_iff.2 (uz.2 ⟨λD=>Jr z (jL.1 D).1,H⟩)
theorem Kc{s:St}{k i:Int}(h:dK s k i=0):aT (eU s k i)=0/\dK (eU s k i) k i=0/\eZ (eU s k i) k i=eZ s k i/\eU (eU s k i) k i=eU s k i /\
  ((0<=bO s k i/\eU s k i=s)\/(bO s k i<0/\iE s (eZ s k i)=false/\zu (eU s k i)=zu s-1)):=by
 obtain⟨E,F,I,f,v,rfl,rfl,A,u,e,c,M⟩:=CB h;rcases M with⟨m,p,H⟩|⟨z,m,H,p⟩
 ·rw[p];exact⟨E,h,rfl,p,.inl ⟨by rw[c];exact m,rfl⟩⟩
 obtain⟨d,G⟩:=GK m;have a:=CY E A u z m d G;have O:=(bZ.1 A).1;have N:=(bZ.1 u).1;have D:=PD (F:=F) (I:=I) (f:=⟨f.n,f.b.set I (iD s)⟩) (v:=iD s) a (vU O) (vU N) m;rw[p,H];refine⟨a,D.1,D.2.1,D.2.2,.inr ⟨by rw[c];exact z,G,?_⟩⟩;have K:=(Ke A u z m f.n s.count).length_eq;unfold zu;show s.count-((lG _).length:Int)=s.count-((lG _).length:Int)-1;rw[K,qz];omega
structure Cc where
 f:Int
 i:Int
 k:Int
 deriving DecidableEq
def vT(c:Cc):Array Value:=#[.int .i64 c.f,.int .i64 c.i,.int .i64 c.k]
def iL(c:Cc):List Value:=(vT c).toList
theorem jb(c:Cc):(iL c).length=3:=rfl
structure Sp where
 lv:Bool
 ar:List Ar
 tb:Tb
 deriving DecidableEq
structure Ma where
 m:Mem
 sl:List Int
 sw:vW
 dk:vW
 st:St
 ca:List Cc
 sp:List Sp
def zCc:Cc:=⟨0,0,0⟩
def zSp:Sp:=⟨false,[],zTb⟩
def zMa:Ma:=⟨noM,[],⟨[],[]⟩,⟨[],[]⟩,zSt,[],[]⟩
def cnt(l:List Int)(k:Int):Nat:=l.countP λx=>decide (x=k)
def trimB(m:Ma):Bool:=
 (List.range m.dk.blocks.length).all (λb:Nat=>decide ((b:Int)∈lT m.st)||decide (m.dk.blocks.getD b zPg=zPg))&&m.dk.queue.all λq=>decide (q.1∈lT m.st)
def kR(s:Sp):Int:=if(bQ s.ar).1≠0 then(bQ s.ar).1 else if dA s.tb≠0 then dA s.tb else if s.lv=false/\0<s.ar.length+(aV s.tb).length then 7 else 0
def iU(m:Ma):Int:=
 if bu m.m≠0 then bu m.m else if dL m.sl≠0 then dL m.sl else if bX m.sw≠0 then bX m.sw else if bX m.dk≠0 then bX m.dk else if aT m.st≠0 then aT m.st
 else if m.sw.blocks.length≠m.sl.length\/(m.dk.blocks.length:Int)≠m.st.count\/trimB m=false then 7
 else if 4<m.sp.length then 4 else firstE (m.sp.map kR)
def jw(m:Ma)(k:Int):Fr:=m.m.fs.getD k.toNat fr0
def uX(m:Ma)(p:Option Cc)(c:Cc):Int:=
 if c.f<0\/(m.st.fs.length:Int)<=c.f\/c.i<0\/((aN m.st c.f).b.length:Int)<=c.i\/c.k<0\/(m.m.fs.length:Int)<=c.k then 3
 else if(jw m c.k).r<1\/(jw m c.k).f≠c.f\/(jw m c.k).i≠c.i then 7
 else match p with
  | none=>0
  | some q=>if c.f<q.f\/q.f=c.f/\c.i<=q.i then 2 else 0
def zm(l:List Cc)(k:Nat):Option Cc:=if k=0 then none else l[k-1]?
def cachedE(m:Ma):Int:=firstE ((List.range m.ca.length).map λk=>uX m (zm m.ca k) (m.ca.getD k zCc))
def dh(m:Ma)(s:Sp)(n:Int):Int:=
 if ik s.ar n<0 then 5 else
 let a:=s.ar.getD (ik s.ar n).toNat zAr;let e:=dM s.tb n
 if e.k=2 then(if(m.sl.length:Int)<=e.n\/a.sh=true then 7 else 0)
 else if(m.m.fs.length:Int)<=e.n then 3 else
 let f:=jw m e.n;let of:=decide (0<=a.fi)&&decide (f.f=a.fi)&&decide (f.i=a.ba+n-a.fr)
 if 0<=f.f/\of=false\/a.sh=true/\of=false\/a.sh=false/\of=true/\e.w=true\/e.w=true/\a.wr=false then 7
 else if f.f<0/\e.w=true/\1<f.r then 7 else 0
def nN(m:Ma):Int:=firstE (m.sp.flatMap λs=>(aV s.tb).map (dh m s))
def pz(t:Tb)(l:List Int):List Int:=(l.filter λn=>decide ((dM t n).k=1)).map λn=>(dM t n).n
def swapT(t:Tb)(l:List Int):List Int:=(l.filter λn => !decide ((dM t n).k=1)).map λn=>(dM t n).n
def tN(m:Ma):List Int:=m.ca.map Cc.k++m.sp.flatMap λs=>pz s.tb (aV s.tb)
def qL(m:Ma):List Int:=m.sp.flatMap λs=>swapT s.tb (aV s.tb)
def lw(n:Nat)(l:List Int):List Int:=(List.range n).map λi:Nat=>(cnt l i:Int)
def countB(m:Ma):Bool:=
 (List.range m.m.fs.length).all (λi:Nat=>decide ((jw m i).r=cnt (tN m) i)&&(decide ((jw m i).f<0)||m.ca.any λc=>decide (c.k=i)))&&decide (m.sl=lw m.sl.length (qL m))
def jU(m:Ma):Int:=if iU m≠0 then iU m else if cachedE m≠0 then cachedE m else if nN m≠0 then nN m else if countB m=true then 0 else 7
def aU(m:Ma)(f i:Int):Page:=
 match m.ca.find? λc=>decide (c.f=f)&&decide (c.i=i)with
 | some c=>(jw m c.k).p
 | none=>if 0<=bO m.st f i then dx (dD m.dk (bO m.st f i)) ((aN m.st f).n-i*8)else zPg
def qx(s:St)(f i:Int):Bool:=decide (eY (aN s f).n<=i)
structure Kp where
 m:Ma
 e:Int
def jr(k e:Int):Int:=if k=0 then e else k
def dI(m:Ma)(p:Nat):Sp:=m.sp.getD p zSp
def setTb(m:Ma)(p:Nat)(t:Tb):Ma:={ m with sp:=m.sp.set p { dI m p with tb:=t } }
def fo(k:Kp)(p:Nat)(n:Int)(x:En):Kp:=
 if setE (dI k.m p).tb n x=0 then⟨setTb k.m p (setT (dI k.m p).tb n x),k.e⟩else⟨k.m,jr k.e (setE (dI k.m p).tb n x)⟩
def gH(k:Kp)(f n:Int):Kp:=
 if oI k.m.m f n=0 then⟨{ k.m with m:=lX k.m.m f n },k.e⟩else⟨k.m,jr k.e (oI k.m.m f n)⟩
def oq(k:Kp)(s n:Int):Kp:=
 if dH k.m.sl s n=0 then⟨{ k.m with sl:=cO k.m.sl s n },k.e⟩else⟨k.m,jr k.e (dH k.m.sl s n)⟩
def jV(k:Kp)(p:Nat)(n:Int):Kp:=
 let x:=dM (dI k.m p).tb n
 if x.k=1 then fo (gH k x.n (-1)) p n zEn else if x.k=2 then fo (oq k x.n (-1)) p n zEn else k
def Cq(f i:Int)(c:Cc):Bool:=decide (f<c.f)||(decide (c.f=f)&&decide (i<=c.i))
def sP(l:List Cc)(f i:Int):Nat:=(l.findIdx? (Cq f i)).getD l.length
def JY(l:List Cc)(f i:Int):Bool:=match l[sP l f i]? with
 | some c=>decide (c.f=f)&&decide (c.i=i)
 | none=>false
def setFr(m:Ma)(f:Nat)(x:Fr):Ma:={ m with m:={ m.m with fs:=m.m.fs.set f x } }
def aB(m:Ma)(f:Nat):Fr:=m.m.fs.getD f fr0
def lN(m:Ma)(f:Nat):Bool:=decide ((aB m f).f<0)||!(aB m f).d||decide (dK m.st (aB m f).f (aB m f).i=0)
def lF(k:Kp)(f:Nat):Kp:=
 let x:=aB k.m f
 if x.f<0\/x.d=false\/dK k.m.st x.f x.i≠0 then k
 else⟨setFr { k.m with st:=eU k.m.st x.f x.i,dk:=dR k.m.dk (eZ k.m.st x.f x.i) x.p } f { x with d:=false },jr k.e (aL k.m.dk (eZ k.m.st x.f x.i))⟩
def bD(m:Ma)(f:Int):List (Nat × Int):=(List.range m.sp.length).flatMap λp=>(pX (dI m p).tb 1 f).map λn=>(p,n)
def lW(k:Kp)(l:List (Nat × Int)):Kp:=l.foldl (λk u=>jV k u.1 u.2) k
def GV(f n:Int)(k:Kp)(u:Nat × Int):Kp:=fo (gH k f (-1)) u.1 u.2 ⟨2,n,false⟩
def tK(k:Kp)(f n:Int)(l:List (Nat × Int)):Kp:=l.foldl (GV f n) k
def nH(m:Ma)(f:Nat):Bool:=if 0<=(aB m f).f then lN m f else decide (iY m.sl (bD m f).length=0)
def gI(k:Kp)(f:Nat):Kp:=
 let x:=aB k.m f;let l:=bD k.m f
 if 0<=x.f then
  if lN k.m f=false then k else
  let k2:=lW (lF k f) l
  if JY k2.m.ca x.f x.i=true then gH ⟨{ k2.m with ca:=k2.m.ca.eraseIdx (sP k2.m.ca x.f x.i) },k2.e⟩ f (-1)else k2
 else if iY k.m.sl l.length≠0 then k
 else tK ⟨{ k.m with sl:=mU k.m.sl l.length,sw:=dR k.m.sw (kL k.m.sl l.length) x.p },jr k.e (aL k.m.sw (kL k.m.sl l.length))⟩ f (kL k.m.sl l.length) l
def reclaimN:Nat->Kp->Kp × Bool
 | 0,k=>(k,false)
 | t+1,k=>
  if bu k.m.m≠0\/jv k.m.m<0 then(⟨k.m,jr k.e (bu k.m.m)⟩,false)else
  let k1:Kp:=⟨{ k.m with m:=gN k.m.m },k.e⟩
  if nH k1.m (jv k.m.m).toNat=true then(gI k1 (jv k.m.m).toNat,true)else reclaimN t (gI k1 (jv k.m.m).toNat)
def gP(k:Kp):Kp × Bool:=reclaimN (2*k.m.m.fs.length+1) k
def kZ(k:Kp)(p:Page)(f i:Int):Kp × Int:=
 if ig k.m.m p f i≠0 then(k,-1)else(⟨{ k.m with m:=fE k.m.m p f i },k.e⟩,iJ k.m.m p f i)
def eG(k:Kp)(p:Page)(f i:Int):Kp × Int:=
 if dU k.m.m.fs=0 then(if(gP k).2=true then kZ (gP k).1 p f i else((gP k).1,-1))else kZ k p f i
def lC(x:Fr):Fr:={ x with u:=true }
def Cv(m:Ma)(i:Nat):Cc:=m.ca.getD i zCc
def dB(m:Ma)(f i:Int):Page:=if 0<=bO m.st f i then dx (dD m.dk (bO m.st f i)) ((aN m.st f).n-i*8)else zPg
def Fs(k:Kp)(f i:Int):Int:=if 0<=bO k.m.st f i then jr k.e (aL k.m.dk (bO k.m.st f i))else k.e
def fB(k:Kp)(f i:Int):Kp × Int:=
 if JY k.m.ca f i=true then
  let g:=(Cv k.m (sP k.m.ca f i)).k
  (⟨setFr k.m g.toNat (lC (aB k.m g.toNat)),k.e⟩,g)
 else
  let r:=eG ⟨k.m,Fs k f i⟩ (dB k.m f i) f i
  if r.2<0 then(r.1,-1)else(⟨{ r.1.m with ca:=r.1.m.ca.insertIdx (sP r.1.m.ca f i) ⟨f,i,r.2⟩ },r.1.e⟩,r.2)
def Eg(k:Kp)(i:Nat):Kp:=
 let c:=Cv k.m i;let k1:=lW k (bD k.m c.k)
 gH ⟨{ k1.m with ca:=k1.m.ca.eraseIdx i },k1.e⟩ c.k (-1)
end Go.Proofs.YthihaopabbpalaaGreat
namespace Pw
open Go Go.RowKit
variable {B B' b base c cap f fuel g i id k off sz:Nat} {L spare:Nat -> Bool} {P:Program} {Q:Exit -> Act -> World -> Prop} {T TX TY TZ e src t t' ty:TypeId} {V v vx vy:Value} {W w' w0 w1:World} {Y Z args cs t0:Array Value} {a:Option Addr} {a0:Act} {held:Bool} {l:List Int} {o op:Oper} {ops:Array Oper} {rest:List Oper} {tm vs xs:List Value} {x:Operand} {y:Nat -> Value} {ρ:Operand -> Value}
theorem aY{k:IntKind}{a b:Int}(h:a=b):Ending.returned (.int k a) = .returned (.int k b):=by rw[h]
theorem bY{a b:Bool}(h:a=b):Ending.returned (.bool a) = .returned (.bool b):=by rw[h]
theorem ag{w:World}(h:Below w.heap.size w W)(d:Below W.heap.size W w1):Below w.heap.size w w1:=
 h.trans (d.mono h.size)
theorem gU(w:World)(o:Obj):w.heap.size<=(w.alloc o).heap.size:=((Below.refl 0 w).alloc (bq _) o).size
theorem dE{w:World}(h:B<=w.heap.size){o:Obj}:B<=(w.alloc o).heap.size:=bi h (gU w o)
def aG(w:World)(b:Nat)(cs:Array Value)(T:TypeId):Prop:=w.heap[b]?=some (.cells cs T (0,0))
theorem aG.cell{w:World}(h:aG w b cs T):∀o,w.cell? ⟨b,o,none⟩=cs[o]?:=by
 intro o;unfold aG at h;simp[World.cell?,h]
theorem aG.free{w:World}(h:aG w b cs T):∀o,w.frozen? ⟨b,o,none⟩=false:=by
 intro o;unfold aG at h;simp[World.frozen?,h]
theorem aG.lt{w:World}(h:aG w b cs T):b<w.heap.size:=lt_of_block h
theorem aG.below{w:World}(h:aG w b cs T)(d:Below B w w')(m:b<B):aG w' b cs T:=
 (d.block b m).trans h
theorem aG.ext{w:World}(h:aG w b cs T)(d:Below w.heap.size w w'):aG w' b cs T:=h.below d h.lt
theorem aG.new(w:World)(cs:Array Value)(T:TypeId):aG (w.alloc (.cells cs T)) w.heap.size cs T:=heap_alloc_new w _
theorem aG.alloc{w:World}(h:aG w b cs T)(o:Obj):aG (w.alloc o) b cs T:=(Below.heap_alloc w o b h.lt).trans h
theorem aG.drewN{w:World}(h:aG w b cs T)(n:Nat):aG (w.drewN n) b cs T:=h
theorem aG.drew{w:World}(h:aG w b cs T):aG w.drew b cs T:=h
def eu(w:World)(a:Option Addr)(vs:List Value):Prop:=
 ∀i u,vs[i]?=some u->∃b off,a=some ⟨b,off,none⟩/\w.cell? ⟨b,off+i,none⟩=some u
theorem eu.below{w:World}(h:eu w a vs)(p:Below w.heap.size w w'):eu w' a vs:=by
 intro i u d;obtain⟨b,off,s,m⟩:=h i u d;exact⟨b,off,s,cell_later p m⟩
theorem eu.nil{w:World} :eu w a []:=λi u h=>by simp at h
theorem eu.at{w:World}{a:Option Addr}{vs:List Value}(h:eu w a vs)(m:0<vs.length):∃b off,a=some ⟨b,off,none⟩/\∀i u,vs[i]?=some u->w.cell? ⟨b,off+i,none⟩=some u:=by
 obtain⟨b,off,rfl,s⟩:=h 0 _ (aI m);refine⟨b,off,rfl,λi u p => ?_⟩;obtain⟨z,d,e,c⟩:=h i u p;simp only[jo,rH,and_true]at e;obtain⟨rfl,rfl⟩:=e;exact c
theorem flat_get{α:Type}(enc:α->List Value)(sz:Nat)(d:∀x,(enc x).length=sz):∀(l:List α) (i:Nat) (h:i<l.length) (j:Nat) (u:Value),(enc l[i])[j]?=some u->(l.flatMap enc)[i*sz+j]?=some u
 | [],i,h,_,_,_=>absurd h (fA _)
 | x::l,0,_,j,u,hj=>by
  simp only[nV,vR,eB];simp only[Dp]at hj;have m:j<(enc x).length:=by
   rcases gu j (enc x).length with h|h
   ·exact h
   ·simp[fH h]at hj
  rw[kN m];exact hj
 | x::l,i+1,h,j,u,hj=>by
  simp only[nV];have e:(i+1)*sz+j=(enc x).length+(i*sz+j):=by rw[d x,uJ];omega
  rw[e,jX (by omega),Aa];exact flat_get enc sz d l i (by simpa using h) j u (by simpa using hj)
theorem flat_len{α:Type}(enc:α->List Value)(sz:Nat)(d:∀x,(enc x).length=sz)(l:List α):(l.flatMap enc).length=l.length*sz:=by
 induction l with
 | nil=>simp
 | cons x l ih=>simp[nV,ih,d x,uJ,IE]
theorem eu.elem{α:Type}{enc:α->List Value}(d:∀x,(enc x).length=sz)(m:0<sz){w:World}{l:List α}(h:eu w a (l.flatMap enc))(i:Nat)(s:i<l.length) :
  ∃b off,a=some ⟨b,off,none⟩/\∀j u,(enc l[i])[j]?=some u->w.cell? ⟨b,off+i*sz+j,none⟩=some u:=by
 obtain⟨b,off,A,z⟩:=h.at (by rw[flat_len enc sz d];exact Nat.mul_pos (by omega) m);exact⟨b,off,A,λj u p=>by rw[ng];exact z _ _ (flat_get enc sz d l i s j u p)⟩
def bH(cur:Array Value):Nat->List Value->Array Value
 | _,[]=>cur
 | o,v::r=>bH (cur.setIfInBounds o v) (o+1) r
theorem size_putAt:∀(vs:List Value) (d:Array Value) (o:Nat),(bH d o vs).size=d.size
 | [],_,_=>rfl
 | v::r,d,o=>by simp[bH,size_putAt r]
theorem putAt_out:∀(vs:List Value) (d:Array Value) (o k:Nat),(k<o\/o+vs.length<=k)->(bH d o vs)[k]?=d[k]?
 | [],_,_,_,_=>rfl
 | v::r,d,o,k,h=>by simp only[qz]at h;simp only[bH];rw[putAt_out r _ _ _ (by omega),gZ (by omega)]
theorem putAt_in:∀(vs:List Value) (d:Array Value) (o j:Nat) (u:Value),o+vs.length<=d.size->vs[j]?=some u->(bH d o vs)[o+j]?=some u
 | [],_,_,_,_,_,h=>by simp at h
 | v::r,d,o,0,u,hs,h=>by simp only[qz]at hs;simp only[bH];rw[putAt_out r _ _ _ (by omega)];simp at h;subst h;simp[show o<d.size by omega]
 | v::r,d,o,j+1,u,hs,h=>by simp only[qz]at hs;simp only[bH];rw[show o+(j+1)=o+1+j by omega];exact putAt_in r _ _ _ u (by simp;omega) (by simpa using h)
theorem aG.setCell{w:World}(h:aG w b cs T)(o:Nat)(v:Value):aG (w.setCell ⟨b,o,none⟩ v) b (cs.setIfInBounds o v) T:=
 heap_setCell_same w b o cs T v h
theorem aG.setCell_other{w:World}(h:aG w b cs T)(a:Addr)(v:Value)(d:b≠a.block):aG (w.setCell a v) b cs T:=
 (heap_setCell_other w a b v d).trans h
theorem aG.setCells :∀(vs:List Value) (o:Nat) {w:World} {cs:Array Value},aG w b cs T->aG (w.setCells b o vs) b (bH cs o vs) T
 | [],_,_,_,h=>h
 | v::r,o,_,_,h=>aG.setCells r (o+1) (h.setCell o v)
theorem heap_setCells_other(b:Nat):∀(vs:List Value) (o:Nat) (w:World) (k:Nat),k≠b->(w.setCells b o vs).heap[k]?=w.heap[k]?
 | [],_,_,_,_=>rfl
 | v::r,o,w,k,h=>(heap_setCells_other b r (o+1) _ k h).trans (heap_setCell_other w ⟨b,o,none⟩ k v h)
theorem size_setCells(b:Nat):∀(vs:List Value) (o:Nat) (w:World),(w.setCells b o vs).heap.size=w.heap.size
 | [],_,_=>rfl
 | v::r,o,w=>(size_setCells b r (o+1) _).trans (by simp[World.setCell])
theorem qE(b:Nat):∀(vs:List Value) (o:Nat) (w:World),(w.setCells b o vs).os=w.os/\(w.setCells b o vs).tape=w.tape/\(w.setCells b o vs).output=w.output
 | [],_,_=>⟨rfl,rfl,rfl⟩
 | _::r,o,_=>qE b r (o+1) _
theorem aD(w:World)(b o:Nat)(vs:List Value):w.grownBy (w.setCells b o vs) (some b):=
 ⟨(qE b vs o w).1,(qE b vs o w).2.1,(qE b vs o w).2.2,DY (size_setCells b vs o w).symm,
  λk _ d=>heap_setCells_other b vs o w k (λe=>d (by rw[e]))⟩
def Own(w:World)(B:Nat)(e:TypeId)(sz:Nat)(v:Value)(n:Nat)(xs:List Value):Prop:=
 xs.length=n*sz/\((v = .slice none 0 0/\n=0) \/
  ∃g off cap cur,v = .slice (some ⟨g,off,none⟩) n cap/\B<=g/\aG w g cur e/\n<=cap/\cap<=maxLen/\off+cap*sz<=cur.size/\∀j u,xs[j]?=some u->cur[off+j]?=some u)
theorem Own.nil(w:World)(B:Nat)(e:TypeId)(sz:Nat):Own w B e sz (.slice none 0 0) 0 []:=⟨by simp,.inl ⟨rfl,rfl⟩⟩
theorem Own.of_owns{w:World}{n:Nat}(h:w.ownsRow B e sz v n xs):Own w B e sz v n xs:=by
 obtain⟨A,h⟩:=h;refine⟨A,h.imp id λ⟨g,cap,m,p,F,D,E,z,G,s⟩=>⟨g,0,cap,m,p,F,D,E,z,by omega,λj u d => ?_⟩⟩;rw[eB,<-uQ];rw[<-s,mE]at d;split at d
 ·exact d
 ·cases d
theorem Own.mono{w:World}{n:Nat}(h:Own w B e sz v n xs)(s:B'<=B):Own w B' e sz v n xs:=
 ⟨h.1,h.2.imp id λ⟨g,off,cap,d,m,p,r⟩=>⟨g,off,cap,d,m,bi s p,r⟩⟩
theorem Own.below{w:World}{n:Nat}(h:Own w B e sz v n xs)(u:Below w.heap.size w w'):Own w' B e sz v n xs:=
 ⟨h.1,h.2.imp id λ⟨g,off,cap,d,m,s,p,r⟩=>⟨g,off,cap,d,m,s,p.ext u,r⟩⟩
theorem Own.grown{w:World}{row:Option Nat}{n:Nat}(h:Own w B e sz v n xs)(u:w.grownBy w' row)(d:∀g,v.ownBlock=some g->row≠some g):Own w' B e sz v n xs:=
 ⟨h.1,h.2.imp id λ⟨g,off,cap,m,p,z,s,r⟩=>⟨g,off,cap,m,p,z,(u.block g s.lt (λe=>d g (by rw[p];rfl) e.symm)).trans s,r⟩⟩
theorem Own.rd{w:World}{n:Nat}(h:Own w B e sz v n xs):∃a c,v = .slice a n c/\n<=c/\c<=maxLen/\(a=none->c=0)/\eu w a xs:=by
 obtain⟨p,h⟩:=h;rcases h with⟨rfl,rfl⟩|⟨g,off,cap,D,rfl,_,z,A,m,E,d⟩
 ·have:xs=[]:=kV (by simpa using p);subst this;exact⟨none,0,rfl,az _,bq _,λ_=>rfl,eu.nil⟩
 ·exact⟨_,cap,rfl,A,m,λe=>(Option.some_ne_none _ e).elim,λi u s=>⟨g,off,rfl,by rw[z.cell];exact d i u s⟩⟩
theorem Own.ge{w:World}{n:Nat}(h:Own w B e sz v n xs):∀k,v.ownBlock=some k->B<=k:=by
 rcases h.2 with⟨rfl,_⟩|⟨g,off,cap,p,rfl,m,_⟩
 ·intro k d;cases d
 ·intro k d;cases d;exact m
theorem aG.grown{w:World}{row:Option Nat}(h:aG w b cs T)(m:w.grownBy w' row)(d:row≠some b):aG w' b cs T:=
 (m.block b h.lt (λe=>d e.symm)).trans h
theorem Own.alloc{w:World}{n:Nat}(h:Own w B e sz v n xs)(o:Obj):Own (w.alloc o) B e sz v n xs:=
 h.below ((Below.refl _ _).alloc (az _) _)
theorem eu.one(w:World)(v:Value)(T:TypeId):eu (w.alloc (.cells #[v] T)) (some ⟨w.heap.size,0,none⟩) [v]:=by
 intro i u d;refine⟨_,_,rfl,?_⟩;rw[(aG.new w #[v] T).cell];cases i with
 | zero=>simpa using d
 | succ i=>simp at d
theorem eu.new(w:World)(cs:Array Value)(T:TypeId):eu (w.alloc (.cells cs T)) (some ⟨w.heap.size,0,none⟩) cs.toList:=by
 intro i u d;refine⟨_,_,rfl,?_⟩;rw[(aG.new w cs T).cell,eB];simpa using d
theorem JQ(k:IntKind)(n:Int):∀u∈[Value.int k n],u.oneCell' = true:=by
 intro u d;cases bC.1 d;rfl
theorem fQ{w:World}{a:Act}{s:Operand}{x:Operand}(t:TypeId)(M:o.op=Op.call { callee:=Callee.builtin Builtin.append,args:=#[s,x],argTypes:=#[t,t] })(B:Nat)(e:TypeId)(z:Value)(A E:Nat)(h1:P.underlying t=some (.slice e))(h2:(P.info? e).map (λi=>(i.zero,i.size,i.bytes))=some (some z,A,E)){v:Value}(n:Nat)(xs:List Value)(hs:a.eval s=v)(H:Own w B e A v n xs)(ao:Option Addr)(m c:Nat)(D:List Value)(hx:a.eval x = .slice ao m c)(R:ao=none->c=0)(hmc:m<=c)(hn:D.length=m*A)(hrd:eu w ao D)(h1c:∀u∈D,u.oneCell' = true)(b1:n+m<=maxLen)(b2:(n+m)*E<=140737488355328)(hB:B<=w.heap.size)(hK:∀v' w',Own w' B e A v' (n+m) (xs++D)->w.grownBy w' v.ownBlock->wpList P ops Q rest (a.put o.dst v') w')(hg:o.guard=none:=by exact rfl)(h6:z.cells.size=A:=by exact rfl)(h7:0<A:=by decide) :
  wpList P ops Q (o::rest) a w:=by
 obtain⟨i,hi,hz,f,h⟩:=info_parts h2;cases ao with
 | none=>
  obtain rfl:=R rfl;obtain rfl:m=0:=by omega
  obtain rfl:D=[]:=kV (by simpa using hn);have U:wpList P ops Q rest (a.put o.dst v) w:=by have:=hK v w (by simpa using H) (Jf _ _);exact this
  rcases H with⟨hl,⟨rfl,rfl⟩|⟨g,off,cap,S,rfl,hBg,hk,hc,hm,G,F⟩⟩
  ·obtain rfl:xs=[]:=kV (by simpa using hl);exact wpList_append_own_none hg s x t M B e i A h1 hi _ 0 [] hs (IQ w B e A) hx U
  refine wpList_plain hg λK p => ?_;unfold Oper.wp;simp[execOp,M,resolve,invoke,builtin,hs,hx,Builtin.append_,run_underlying h1,Go.sizeOf,typeInfo,hi,Builtin.lenOf,Builtin.firstCells,hc,storeCells,Result.andThen];exact p _ _ U
 | some ad=>
  have d:∀j u,D[j]?=some u->w.cell? (ad.add j)=some u:=by intro j u N;obtain⟨b,off,e',hc⟩:=hrd j u N;cases e';rw[qo];exact hc
  rcases H with⟨hl,⟨rfl,rfl⟩|⟨g,off,cap,S,rfl,hBg,hk,hc,hm,G,F⟩⟩
  ·obtain rfl:xs=[]:=kV (by simpa using hl);exact wpList_append_own w hg s x t M B e i z A E h1 hi hz f h h6 h7 _ 0 [] hs (IQ w B e A) ad m c D hx hn d h1c b1 b2 hB
    λv' w' r1 O _=>hK v' w' (.of_owns r1) O
  have q:n*A<=cap*A:=uN _ hc;refine wpList_append_arg w hg s x t M e i z A E h1 hi hz f h h6 h7 g off n cap xs hs hl (λj u N=>by rw[hk.cell];exact F j u N) ad m c D hx hn d h1c (λX j N => ?_) b1 b2 (λX => ?_) (λX v' w' r1 O => ?_)
  ·have h3:(n+m)*A<=cap*A:=uN _ X;rw[uJ]at h3;have:off+n*A+j<S.size:=by omega
   exact⟨by rw[hk.cell];simp[this],hk.free _⟩
  ·have h3:(n+m)*A<=cap*A:=uN _ X;rw[uJ]at h3;refine hK _ _ ⟨by rw[jq,hl,hn,uJ],.inr ⟨g,off,cap,_,rfl,hBg,hk.setCells D (off+n*A),X,hm,by rw[size_putAt];exact G,λj u N => ?_⟩⟩ (aD _ _ _ _)
   by_cases hjl:j<xs.length
   ·rw[kN hjl]at N;rw[putAt_out _ _ _ _ (.inl (by omega))];exact F j u N
   rw[jX (by omega)]at N;have:=putAt_in D S (off+n*A) (j-xs.length) u (by omega) N;rwa [show off+n*A+(j-xs.length)=off+j by omega]at this
  have r2' : w.grownBy w' (Value.ownBlock (.slice (some ⟨g,off,none⟩) n cap)):=⟨O.os,O.tape,O.output,O.size,λk l _=>O.block k l (by simp)⟩;exact hK v' w' ((Own.of_owns r1).mono hB) r2'
theorem gK(d cs:Array Value)(h:cs.size=d.size):bH d 0 cs.toList=cs:=by
 apply mI;intro i
 by_cases m:i<cs.size
 ·have:=putAt_in cs.toList d 0 i cs[i] (by simp;omega) (by simp[m]);rw[eB]at this;rw[this];simp[m]
 ·rw[mM (by rw[size_putAt];omega),mM (by omega)]
theorem gD{w:World}{a:Act}(m:op.guard=none)(ty:TypeId)(x y:Operand)(A:op.op = .store ty x y)
 (b o:Nat) (cells:Array Value) (z:a.eval x = .pointer (some ⟨b,o,none⟩)) (u:a.eval y = .agg cells) (d:Array Value) (T:TypeId) (p:aG w b d T)
 (s:o+cells.size<=d.size) (D:(P.info? ty).map (·.size)=some cells.size) (E:cells.all (·.oneCell')=true)
 (h:∀w',aG w' b (bH d o cells.toList) T->w.grownBy w' (some b)->wpList P ops Q rest (a.put op.dst undef) w'):wpList P ops Q (op::rest) a w:=by
 refine wpList_store_mid m ty x y A b o cells z u (λj F=>⟨?_,p.free _⟩) D E (h _ (p.setCells _ _) (aD _ _ _ _));rw[p.cell];simp[show o+j<d.size by omega]
theorem aA{w:World}{a:Act}(p:op.guard=none){ty:TypeId}(x y:Operand)(A:op.op = .store ty x y)(b:Nat)(cells:Array Value)(z:a.eval x = .pointer (some ⟨b,0,none⟩))(u:a.eval y = .agg cells){d:Array Value}{T:TypeId}(E:aG w b d T)(m:cells.size=d.size)(D:(P.info? ty).map (·.size)=some cells.size)(F:cells.all (·.oneCell')=true)(h:∀w',aG w' b cells T->w.grownBy w' (some b)->wpList P ops Q rest (a.put op.dst undef) w'):wpList P ops Q (op::rest) a w:=by
 refine gD p ty x y A b 0 cells z u d T E (by omega) D F λw' s c => ?_;rw[gK d cells m]at s;exact h w' s c
theorem kI{α:Type}(f:α->Value)(l:List α):l.flatMap (λx=>[f x])=l.map f:=by
 induction l with
 | nil=>rfl
 | cons x l ih=>simp[ih]
def zS(b:UInt8):Value:=.int .u8 b.toNat
def gF(n:Int):Value:=.int .i64 n
theorem Fz{w:World}(m:P.underlying src=some (.slice e))(u:P.underlying e=some (.int .u8)){l:List UInt8}(c:Nat)(h:eu w a (l.map zS)) :
  ∀d,P.underlying d=some .string->(convert src d (.slice a l.length c)).run P w = .ok (.string ⟨l.toArray⟩) w:=by
 intro d z
 by_cases p:l=[]
 ·subst p;have:=run_convert_bytes_string w src d e a 0 c m u z;simp only[Aw];rw[this];cases a with
  | none=>rfl
  | some a=>
   rw[run_bytesToString w a 0 c [] (by simpa using run_loadCells_list (P:=P) w a [] (by simp))];rfl
 obtain⟨b,off,rfl,A⟩:=h.at (by simpa using List.length_pos_iff.2 p);rw[run_convert_bytes_arg w src e m u b off l.length c (l.map λx=>(x.toNat:Int)) (by simp) (λi s=>by rw[A i (zS l[i]) (by simp[s])];simp[zS,List.getD,s]) d z];congr 2;apply ByteArray.ext;apply Array.ext';rw[strOfNums_data];simp[Ec,Function.comp_def]
def dW(p:Page):Array Value:=#[Value.int .u8 p[0].toNat,Value.int .u8 p[1].toNat,Value.int .u8 p[2].toNat,Value.int .u8 p[3].toNat,Value.int .u8 p[4].toNat,Value.int .u8 p[5].toNat,Value.int .u8 p[6].toNat,Value.int .u8 p[7].toNat]
theorem UC(p:Page):(dW p).size=8:=rfl
theorem Ap(p:Page)(k:Nat)(h:k<8):(dW p)[k]?=some (Value.int .u8 p[k].toNat):=by
 match k,h with
 | 0,_=>rfl
 | 1,_=>rfl
 | 2,_=>rfl
 | 3,_=>rfl
 | 4,_=>rfl
 | 5,_=>rfl
 | 6,_=>rfl
 | 7,_=>rfl
 | n+8,h=>omega
theorem BB(p:Page)(k:Nat)(h:k<8)(b:UInt8):(dW p).setIfInBounds k (.int .u8 b.toNat)=dW (p.set k b):=by
 match k,h with
 | 0,_=>simp[dW]
 | 1,_=>simp[dW]
 | 2,_=>simp[dW]
 | 3,_=>simp[dW]
 | 4,_=>simp[dW]
 | 5,_=>simp[dW]
 | 6,_=>simp[dW]
 | 7,_=>simp[dW]
 | n+8,h=>omega
theorem yH(p:Page):(dW p)[0]?=some (Value.int .u8 p[0].toNat)/\(dW p)[1]?=some (Value.int .u8 p[1].toNat)/\(dW p)[2]?=some (Value.int .u8 p[2].toNat)/\(dW p)[3]?=some (Value.int .u8 p[3].toNat)/\(dW p)[4]?=some (Value.int .u8 p[4].toNat)/\(dW p)[5]?=some (Value.int .u8 p[5].toNat)/\(dW p)[6]?=some (Value.int .u8 p[6].toNat)/\(dW p)[7]?=some (Value.int .u8 p[7].toNat):=
 ⟨rfl,rfl,rfl,rfl,rfl,rfl,rfl,rfl⟩
theorem eF(p:Page):(dW p).all (·.oneCell')=true:=by simp[dW,Value.oneCell']
theorem Gu(w:World)(e:TypeId)(k:IntKind)(cs:Array Value)(off:Nat)(v:Value)(h:P.underlying e=some (.int k))(d:cs[off]?=some v) :
  (part e cs off).run P w = .ok v w:=by
 simp[part,isAgg,run_underlying h,d]
theorem CK(w:World)(d:Nat)(t e:TypeId)(u:P.underlying t=some (.array 8 e))(s:P.underlying e=some (.int .u8))(m:(P.info? e).map (·.size)=some 1)(p q:Page) :
  (Op.equalIn (d+2) t (.agg (dW p)) (.agg (dW q))).run P w = .ok (p==q) w:=by
 cases hq:P.info? e with
 | none=>simp[hq]at m
 | some i=>
 have z:i.size=1:=by simpa[hq]using m
 rw[Sl];unfold Op.equalIn;simp only[kY,run_underlying u,qV,Go.sizeOf,typeInfo,run_program,hq,z,rf];simp only[Std.Legacy.Range.forIn_eq_forIn_range',List.range',Std.Legacy.Range.size];have g:∀(r:Page) (k:Nat) (h:k<8) (w:World),(part e (dW r) k).run P w = .ok (.int .u8 r[k].toNat) w:=λr k h w=>Gu w e .u8 _ _ _ s (Ap r k h);have c:∀(a b:UInt8) (w:World),(Op.equalIn (d+1) e (.int .u8 a.toNat) (.int .u8 b.toNat)).run P w = .ok (a==b) w:=λa b w=>by rw[run_equalIn_int w d e .u8 .u8 _ _ s,WW]
 simp[g,c]
 repeat' split
 all_goals simp_all
def Gives(P:Program)(o:Oper)(a:Act)(w:World)(F:Value->World->Prop):Prop:=
 match (execOp a.eval o).run P w with
 | .ok (.value v) w'=>F v w'
 | .ok .skip w'=>F undef w'
 | .ok (.enter f args) w'=>Calls P f args w' fun | .returned v,w''=>F v w'' | _,_=>False
 | _=>False
def lay(L:Nat->Bool)(y:Nat->Value):List Oper->Nat->Array Value->Array Value
 | [],_,t=>t
 | o::r,i,t=>lay L y r (i+1) (match o.dst with | some d=>if L i then t.setIfInBounds d (y i)else t | none=>t)
theorem lay_size(L:Nat->Bool)(y:Nat->Value):∀(l:List Oper) (i:Nat) (t:Array Value),(lay L y l i t).size=t.size
 | [],_,_=>rfl
 | o::r,i,t=>by
  simp only[lay];rw[lay_size L y r];cases o.dst with
  | none=>rfl
  | some d=>simp only[];split<;>simp
theorem jy(L:Nat->Bool)(y:Nat->Value)(s:Nat):∀(l:List Oper) (i:Nat) (t:Array Value),(∀k o,l[k]?=some o->o.dst=some s->L (i+k)=false)->(lay L y l i t)[s]?=t[s]?
 | [],_,_,_=>rfl
 | o::r,i,t,h=>by
  simp only[lay];rw[jy L y s r (i+1) _ (λk u z p=>by have:=h (k+1) u (by simpa using z) p;rwa [show i+(k+1)=i+1+k by omega]at this)];cases p:o.dst with
  | none=>rfl
  | some d=>
   simp only[];split
   ·rename_i A;have m:d≠s:=by intro e;subst e;have:=h 0 o (by simp) p;simp[A]at this
    rw[gZ m]
   ·rfl
theorem mg(L:Nat->Bool)(y:Nat->Value)(s:Nat):∀(l:List Oper) (i:Nat) (t:Array Value) (k:Nat) (o:Oper),l[k]?=some o->o.dst=some s->L (i+k)=true ->
  (∀z u,l[z]?=some u->u.dst=some s->z = k)->s<t.size->(lay L y l i t)[s]?=some (y (i+k))
 | [],_,_,_,_,h,_,_,_,_=>by simp at h
 | o0::r,i,t,0,o,hk,hd,hL,hu,hs=>by simp at hk;subst hk;simp only[lay,hd];rw[jy L y s r (i+1) _ (λk u m p=>by have:=hu (k+1) u (by simpa using m) p; omega)];rw[iK]at hL;simp[hL,hs]
 | o0::r,i,t,k+1,o,hk,hd,hL,hu,hs=>by
  simp only[lay];have:=mg L y s r (i+1) (match o0.dst with | some d=>if L i then t.setIfInBounds d (y i)else t | none=>t) k o (by simpa using hk) hd (by rwa [show i+1+k=i+(k+1) by omega])
   (λz u m p=>by have:=hu (z + 1) u (by simpa using m) p; omega)
   (by cases o0.dst with
     | none=>exact hs
     | some d=>simp only[];split<;>simpa using hs)
  rw[this];congr 2;omega
theorem sH(L L' : Nat->Bool)(y:Nat->Value):∀(l:List Oper) (i:Nat) (t:Array Value),(∀k,k<l.length->L (i+k)=L' (i+k))->lay L y l i t=lay L' y l i t
 | [],_,_,_=>rfl
 | o::r,i,t,h=>by
  simp only[lay];have d:L i=L' i:=by simpa using h 0 (by simp)
  rw[d];exact sH L L' y r (i+1) _ λk m=>by have:=h (k+1) (by simp;omega);rwa [show i+(k+1)=i+1+k by omega]at this
def ko(ops:Array Oper):Bool:=
 (List.range ops.size).all λi=>match ops[i]? with
  | none=>true
  | some o=>
   (match o.op with | .select ..=>false | _=>true) &&
   o.after.toList.all (λe=>Region.binds .any e&&decide (e.on<i)) &&
   (List.range ops.size).all λj=>match ops[j]? with
    | none=>true
    | some p=>match p.dst with
     | none=>true
     | some d=>(decide (i=j)||o.dst != some d)&&(!(o.looksAt ops).contains d||o.after.toList.any (λe=>decide (e.on=j)))
theorem ic(h:ko ops=true)(A:ops[i]?=some o) :
  (∀cs b,o.op ≠ .select cs b)/\(∀e∈o.after,Region.binds .any e=true/\e.on<i) /\
  ∀j p d,ops[j]?=some p->p.dst=some d->(i=j\/o.dst≠some d)/\(d∈o.looksAt ops->∃e∈o.after,e.on=j):=by
 have c:i<ops.size:=(iV.1 A).1;have D:=fD.1 h i (eO.2 c);simp only[A,ed]at D;obtain⟨⟨h2,H⟩,G⟩:=D;refine⟨?_,?_,?_⟩
 ·intro cs b e;simp[e]at h2
 ·intro e s;have:=fD.1 H e (nW.2 s);simpa using this
 intro j p d z E;have f:j<ops.size:=(iV.1 z).1;have u:=fD.1 G j (eO.2 f);simp only[z,E,ed,uP,decide_eq_true_eq,bne_iff_ne,ne_eq,uG,jP]at u;refine⟨u.1,λa => ?_⟩;rcases u.2 with m|⟨e,s,m⟩
 ·have F:(o.looksAt ops).contains d=true:=List.contains_iff_mem.2 a;rw[F]at m;cases m
 ·exact⟨e,nW.1 s,m⟩
theorem BO(z:ko ops=true)(K:ops[i]?=some o)(N:∀e∈o.after,L e.on=true)(t:Nat)(H:t∈o.looksAt ops) :
  (lay L y ops.toList 0 a0.tmps)[t]?=(lay (λ_=>true) y ops.toList 0 a0.tmps)[t]?:=by
 obtain⟨_,_,G⟩:=ic z K
 by_cases u:t<a0.tmps.size
 ·by_cases s:∃(j:Nat) (p:Oper),ops[j]?=some p/\p.dst=some t
  ·obtain⟨j,p,D,m⟩:=s;obtain⟨e,M,b⟩:=(G j p t D m).2 H;have F:∀A d,ops.toList[A]?=some d->d.dst=some t->A = j:=by
    intro A d a c;have:=(ic z (i:=A) (o:=d) (by simpa using a)).2.2 j p t D m;rcases this.1 with h|h
    ·exact h
    ·exact absurd c h
   rw[mg L y t _ 0 _ j p (by simpa using D) m (by rw[eB,<-b];exact N e M) F u,
    mg (λ_=>true) y t _ 0 _ j p (by simpa using D) m rfl F u]
  ·rw[jy L y t _ 0 _ (λk d E m=>absurd ⟨k,d,by simpa using E,m⟩ s),jy (λ_=>true) y t _ 0 _ (λk d E m=>absurd ⟨k,d,by simpa using E,m⟩ s)]
 ·rw[mM (by rw[lay_size];omega),mM (by rw[lay_size];omega)]
theorem IK(R:ko ops=true){m:Array Bool}(K:ops[i]?=some o)(S:m.size=ops.size)(v:Value) :
  ({ a0 with tmps:=lay (λi=>m.getD i false) y ops.toList 0 a0.tmps }:Act).put o.dst v =
   { a0 with tmps:=lay (λk=>(m.setIfInBounds i true).getD k false) (λk=>if k=i then v else y k) ops.toList 0 a0.tmps }:=by
 have l:i<ops.size:=(iV.1 K).1;have g:(m.setIfInBounds i true).getD i false=true:=by simp[cK,show i<m.size by omega]
 have c:∀k,k≠i->(m.setIfInBounds i true).getD k false=m.getD k false:=λk D=>by simp[cK,gZ (pO D)]
 have u:(({ a0 with tmps:=lay (λi=>m.getD i false) y ops.toList 0 a0.tmps }:Act).put o.dst v).tmps=lay (λk=>(m.setIfInBounds i true).getD k false) (λk=>if k=i then v else y k) ops.toList 0 a0.tmps:=by
  apply mI;intro s
  by_cases O:s<a0.tmps.size
  ·by_cases E:∃(j:Nat) (p:Oper),ops[j]?=some p/\p.dst=some s
   ·obtain⟨j,p,H,F⟩:=E;have G:∀N z,ops.toList[N]?=some z->z.dst=some s->N = j:=by
     intro N z f a;rcases((ic R (i:=N) (o:=z) (by simpa using f)).2.2 j p s H F).1 with h|h
     ·exact h
     ·exact absurd a h
    by_cases A:j=i
    ·subst A;obtain rfl:o=p:=by rw[K]at H;exact aM H
     rw[mg (λk=>(m.setIfInBounds j true).getD k false) _ s _ 0 _ j o (by simpa using K) F (by simpa using g) G O];simp only[Act.put,F,eB,if_true];rw[sW (by rw[lay_size];exact O)]
    have b:o.dst≠some s:=λe=>A ((G i o (by simpa using K) e).symm);have M:(({ a0 with tmps:=lay (λi=>m.getD i false) y ops.toList 0 a0.tmps }:Act).put o.dst v).tmps[s]?=(lay (λi=>m.getD i false) y ops.toList 0 a0.tmps)[s]?:=by
     cases ho:o.dst with
     | none=>rfl
     | some d=>
      have:d≠s:=λe=>b (by rw[ho,e]);simp only[Act.put];rw[gZ this]
    rw[M];cases hLj:m.getD j false with
    | true=>
     rw[mg (λi=>m.getD i false) y s _ 0 _ j p (by simpa using H) F (by simpa using hLj) G O,
      mg (λk=>(m.setIfInBounds i true).getD k false) _ s _ 0 _ j p (by simpa using H) F (by rw[eB,c j A];exact hLj) G O]
     simp[A]
    | false=>
     rw[jy (λi=>m.getD i false) y s _ 0 _ (λk z D a=>by rw[eB,G k z D a];exact hLj),
      jy (λk=>(m.setIfInBounds i true).getD k false) _ s _ 0 _ (λk z D a=>by rw[eB,G k z D a,c j A];exact hLj)]
   have b:o.dst≠some s:=λe=>E ⟨i,o,K,e⟩;have M:(({ a0 with tmps:=lay (λi=>m.getD i false) y ops.toList 0 a0.tmps }:Act).put o.dst v).tmps[s]?=(lay (λi=>m.getD i false) y ops.toList 0 a0.tmps)[s]?:=by
    cases ho:o.dst with
    | none=>rfl
    | some d=>
     have:d≠s:=λe=>b (by rw[ho,e]);simp only[Act.put];rw[gZ this]
   rw[M,jy _ y s _ 0 _ (λk z D F=>absurd ⟨k,z,by simpa using D,F⟩ E),jy _ _ s _ 0 _ (λk z D F=>absurd ⟨k,z,by simpa using D,F⟩ E)]
  have M:(({ a0 with tmps:=lay (λi=>m.getD i false) y ops.toList 0 a0.tmps }:Act).put o.dst v).tmps.size=a0.tmps.size:=by
   cases o.dst with
   | none=>exact lay_size _ _ _ _ _
   | some d=>simp[Act.put,lay_size]
  rw[mM (by rw[M];omega),mM (by rw[lay_size];omega)]
 cases hdst:o.dst with
 | none=>rw[hdst]at u;simp only[Act.put]at u ⊢; rw[u]
 | some d=>rw[hdst]at u;simp only[Act.put]at u ⊢; rw[u]
theorem tu{a b:Act}{w:World}{F:Value->World->Prop}{K:Act->World->Prop}(z:ops[i]?=some o)
 (d:Region.wanted o (yielded ops a.tmps)=true) (m:execOp a.eval o=execOp b.eval o) (h:Gives P o b w F) (s:∀v w',F v w'->K (a.put o.dst v) w'):wpOp P ops Q i K a w:=by
 unfold wpOp;simp only[z,d,if_true];refine .inl ?_;unfold Oper.wp;rw[m];unfold Gives at h;generalize (execOp b.eval o).run P w=r at h ⊢;cases r with
 | ok n w'=>
  cases n with
  | value v=>exact s _ _ h
  | skip=>exact s _ _ h
  | enter f args=>
   refine xZ h λe u p => ?_;cases e with
   | returned v=>exact s _ _ p
   | panicked c=>exact p.elim
   | outgrown=>exact p.elim
  | _=>exact h.elim
 | halt x w'=>exact h.elim
def writer(ops:Array Oper)(t:Nat):Option Nat:=(List.range ops.size).find? λi=>match ops[i]? with | some o=>o.dst==some t | none=>false
def iq(ρ:Operand->Value)(ops:Array Oper)(g:Nat):Option Bool:=
 match (ops[g]?).bind (·.dst)with
 | some d=>match ρ (.tmp d)with | .bool b=>some b | _=>none
 | none=>none
def dZ(P:Program)(o:Oper)(ρ:Operand->Value)(w:World)(F:Value->World->Prop):Prop:=
 match (execOp ρ o).run P w with
 | .ok (.value v) w'=>F v w'
 | .ok .skip w'=>F undef w'
 | .ok (.enter f args) w'=>Calls P f args w' fun | .returned v,w''=>F v w'' | _,_=>False
 | _=>False
structure mP where
 r:Value->World->Prop
 st:∀v w w',Below w.heap.size w w'->r v w->r v w'
def mW(V:Value):mP:=⟨λv _=>v=V,λ_ _ _ _ h=>h⟩
def anyR:mP:=⟨λ_ _=>True,λ_ _ _ _ _=>trivial⟩
def Yw(n:Nat)(vs:List Value):mP:=⟨λv w => ∃a c,v = .slice a n c/\n<=c/\c<=maxLen/\(a=none->c=0)/\eu w a vs,
 λ_ _ _ hb ⟨a,c,h1,h2,h3,h4,h5⟩=>⟨a,c,h1,h2,h3,h4,h5.below hb⟩⟩
def rl(l:List mP)(i:Nat)(v:Value)(w:World):Prop:=(l.getD i anyR).r v w
def bn(C:Nat->Oper->Prop):Nat->List Oper->Prop
 | _,[]=>True
 | k,o::r=>C k o/\bn C (k+1) r
theorem aF{C:Nat->Oper->Prop} :bn C k []:=trivial
theorem ah{C:Nat->Oper->Prop}{r:List Oper}(h:C k o)(d:bn C (k+1) r):bn C k (o::r):=⟨h,d⟩
theorem bn.at{C:Nat->Oper->Prop}:∀ {l:List Oper} {k:Nat},bn C k l->∀i o,l[i]?=some o->C (k+i) o
 | [],_,_,_,_,h=>by simp at h
 | o::r,k,h,0,o',hi=>by simp at hi;subst hi;exact h.1
 | o::r,k,h,i+1,o',hi=>by have:=bn.at h.2 i o' (by simpa using hi);rwa [show k+(i+1)=k+1+i by omega]
def pJ(P:Program)(ops:Array Oper)(a0:Act)(w0:World)(l:List mP)(i:Nat)(o:Oper):Prop:=
 ∀(ρ:Operand->Value) (y:Nat->Value) (w:World),(∀t j,writer ops t=some j->ρ (.tmp t)=y j)->(∀x,(match x with | .tmp t=>writer ops t=none | _=>True)->ρ x=a0.eval x) ->
  Below w0.heap.size w0 w->(∀j,o.after.toList.any (λe=>e.on==j)=true->rl l j (y j) w) ->
  if Region.wanted o (iq ρ ops)=true then dZ P o ρ w (λv w'=>Below w.heap.size w w'/\rl l i v w')else rl l i undef w
def lc(ops:Array Oper)(n:Nat):Bool:=ops.toList.all λo=>match o.dst with | some d=>decide (d<n) | none=>true
theorem ak{w:World}{l:List mP}(v:Value)(d:(execOp ρ o).run P w = .ok (.value v) w)(h:Region.wanted o (iq ρ ops)=true:=by exact(aj rfl))(m:rl l i v w:=by exact rfl) :
  if Region.wanted o (iq ρ ops)=true then dZ P o ρ w (λv w'=>Below w.heap.size w w'/\rl l i v w')else rl l i undef w:=by
 rw[if_pos h];unfold dZ;rw[d];exact⟨Below.refl _ _,m⟩
theorem EW{w:World}{l:List mP}(d:Region.wanted o (iq ρ ops)=false)(h:rl l i undef w) :
  if Region.wanted o (iq ρ ops)=true then dZ P o ρ w (λv w'=>Below w.heap.size w w'/\rl l i v w')else rl l i undef w:=by
 rw[if_neg (by rw[d];exact Bool.false_ne_true)];exact h
theorem aP{w:World}{l:List mP}{f:FuncId}{args:Array Value}(d:(execOp ρ o).run P w = .ok (.enter f args) w)(p:Calls P f args w λe w' => ∃v,e = .returned v/\Below w.heap.size w w'/\rl l i v w')(m:Region.wanted o (iq ρ ops)=true:=by exact(aj rfl)) :
  if Region.wanted o (iq ρ ops)=true then dZ P o ρ w (λv w'=>Below w.heap.size w w'/\rl l i v w')else rl l i undef w:=by
 rw[if_pos m];unfold dZ;rw[d];refine p.mono λe w' ⟨v,he,h⟩ => ?_;subst he;exact h
theorem aj{y:Nat->Option Bool}(d:o.guard=none:=by exact rfl):Region.wanted o y=true:=by simp[Region.wanted,d]
theorem bB(g d:Nat)(b h:Bool)(m:ρ (.tmp d) = .bool b)(p:o.guard=some (g,h):=by exact rfl)(s:(ops[g]?).bind (·.dst)=some d:=by exact rfl):Region.wanted o (iq ρ ops)=(b==h):=by
 simp only[Region.wanted,p,iq,s,m];cases b<;>cases h<;>rfl
theorem dG{w:World}{d:TypeDesc}(p:o.op = .load ty x)(h:ρ x = .pointer (some ⟨b,0,none⟩))(z:aG w b cs T)(m:P.underlying ty=some d)(s:(P.info? ty).map (·.size)=some cs.size)(u:(match d with | .struct _ | .array _ _=>true | _=>false)=true:=by exact rfl):(execOp ρ o).run P w = .ok (.value (.agg cs)) w:=by
 unfold execOp;simp only[p,h,Instr.loadAt,Instr.sureAddr,kY,rf,qV,run_loadVar_row w b T ty cs (0,0) d z m u s]
theorem run_move{w:World}(d:o.op = .move x\/o.op = .assign x)(h:ρ x=v):(execOp ρ o).run P w = .ok (.value v) w:=by
 rcases d with d|d<;>simp[execOp,d,h]
theorem aS{w:World}{f:FuncId}{xs:Array Operand}{m:Array TypeId}{d:Func}(p:o.op = .call { callee:=.value (.func f),args:=xs,argTypes:=m })(hρ: ρ (.func f) = .func (.func f) #[] #[])(hf: P.funcs[f]? = some d)(ha: xs.map ρ = args)(hn: (d.name == "runtime.NumGoroutine") = false:=by kernel_rfl)(hb: d.body.isNone = false:=by kernel_rfl) : (execOp ρ o).run P w = .ok (.enter f args) w := by
 have u:execOp ρ o=callFunc f args:=by
  unfold execOp;simp only[p];have s:resolve ρ { callee:=.value (.func f),args:=xs,argTypes:=m } o.type=Sem.pure { target:=.fn (.func f) #[],args:=args }:=by unfold resolve;simp only[hρ,ha];simp[Deferred.ofValue];rfl
  rw[s];show callFunc f (args++#[])=_;simp
 rw[u];have a : ¬ d.name = "runtime.NumGoroutine" := by simpa using hn
 have b : ¬d.body=none:=λh=>by simp[h]at hb
 unfold callFunc;simp[hf,a,b]
theorem qC{w:World}{op:BinOp}{y:Operand}(p:o.op = .binOp op t x y t')(h:ρ x=vx)(d:ρ y=vy)
 (m:(do eqGuard op t x y vx vy;binOp op t vx vy:Sem Value).run P w = .ok v w):(execOp ρ o).run P w = .ok (.value v) w:=by
 unfold execOp;simp only[p,h,d];rw[kY,m];rfl
theorem qM{w:World}{c y:Operand}{b:Bool}(h:o.op = .pick c x y)(m:ρ c = .bool b)(d:(if b then ρ x else ρ y)=v):(execOp ρ o).run P w = .ok (.value v) w:=by
 unfold execOp;simp only[h,m];subst d;cases b<;>rfl
theorem Ee{w:World}{b:Bool}(h:o.op = .unOp .not t x)(d:ρ x = .bool b):(execOp ρ o).run P w = .ok (.value (.bool (!b))) w:=by
 unfold execOp;simp only[h,d];rfl
theorem KL{w:World}{n:Nat}(m:o.op = .call { callee:=.builtin .len,args:=#[x],argTypes:=#[t] })(d:ρ x = .slice a n c)(h:P.underlying t=some (.slice (P.elem t))):(execOp ρ o).run P w = .ok (.value (.int .i64 n)) w:=by
 unfold execOp;simp only[m];simp[d,resolve,invoke,builtin,run_len_slice _ t o.type a n c h];rfl
theorem Gg{w:World}(m:o.op = .fieldAddr t x f)(d:ρ x=vx)(h:(Instr.fieldAt t vx f).run P w = .ok v w):(execOp ρ o).run P w = .ok (.value v) w:=by
 unfold execOp;simp only[m,d];rw[kY,h];rfl
theorem run_load{w:World}(m:o.op = .load t x)(d:ρ x=vx)(h:(Instr.loadAt t vx).run P w = .ok v w):(execOp ρ o).run P w = .ok (.value v) w:=by
 unfold execOp;simp only[m,d];rw[kY,h];rfl
def KV(ops:Array Oper)(a0:Act)(l:List mP)(o:Oper)(t:Nat)(v:Value):Prop:=
 (∃k,writer ops t=some k/\o.after.toList.any (λe=>e.on==k)=true/\l.getD k anyR=mW v)\/(writer ops t=none/\a0.eval (.tmp t)=v)
theorem Yx{l:List mP}{t:Nat}(d:writer ops t=none)(h2:a0.eval (.tmp t)=v):KV ops a0 l o t v:=.inr ⟨d,h2⟩
def Yp(P:Program)(ops:Array Oper)(a0:Act)(l:List mP)(i:Nat)(o:Oper):Prop:=
 ∀(ρ:Operand->Value) (y:Nat->Value) (w:World),(∀t j,writer ops t=some j->ρ (.tmp t)=y j)->(∀x,(match x with | .tmp t=>writer ops t=none | _=>True)->ρ x=a0.eval x) ->
  (∀j,o.after.toList.any (λe=>e.on==j)=true->rl l j (y j) w)->∃v,(execOp ρ o).run P w = .ok (.value v) w/\rl l i v w
def OkW(ops:Array Oper)(l:List mP)(o:Oper)(b:Bool):Prop:=
 ∀(ρ:Operand->Value) (y:Nat->Value) (w:World),(∀t j,writer ops t=some j->ρ (.tmp t)=y j)->(∀j,o.after.toList.any (λe=>e.on==j)=true->rl l j (y j) w)->Region.wanted o (iq ρ ops)=b
theorem Yy{l:List mP}(d:o.guard=none):OkW ops l o true:=λ_ _ _ _ _=>aj (d:=d)
section
variable {P:Program} {ops:Array Oper} {a0:Act} {w0:World} {l:List mP} {i:Nat} {o:Oper}
theorem KV.at{t:Nat}{v:Value}(h:KV ops a0 l o t v){ρ:Operand->Value}{y:Nat->Value}{w:World}(p:∀t j,writer ops t=some j->ρ (.tmp t)=y j)(s:∀x,(match x with | .tmp t=>writer ops t=none | _=>True)->ρ x=a0.eval x)(u:∀j,o.after.toList.any (λe=>e.on==j)=true->rl l j (y j) w):ρ (.tmp t)=v:=by
 rcases h with⟨k,m,h2,z⟩|⟨m,h2⟩
 ·have d:=u k h2;unfold rl at d;rw[z]at d;exact(p t k m).trans d
 ·exact(s (.tmp t) m).trans h2
theorem Xy{w:World}(d:l.getD i anyR=mW V)(e:v=V):rl l i v w:=by unfold rl;rw[d];exact e
theorem YA{t:Nat}(p:o.op = .move (.tmp t))(d:KV ops a0 l o t V)(m:l.getD i anyR=mW V):Yp P ops a0 l i o:=λρ y w h s u=>⟨V,run_move (.inl p) (d.at h s u),Xy m rfl⟩
theorem Yu(s:OkW ops l o true)(h:Yp P ops a0 l i o):pJ P ops a0 w0 l i o:=λρ y w d p _ m=>by
 obtain⟨v,u,h2⟩:=h ρ y w d p m;exact ak v (h:=s ρ y w d m) u (m:=h2)
end
theorem ku{α:Type}(enc:α->List Value)(sz:Nat)(d:∀x,(enc x).length=sz)(l:List α)(i:Nat)(h:i<l.length)(j:Nat)(m:j<sz):(l.flatMap enc)[i*sz+j]?=(enc l[i])[j]?:=by
 have e:(enc l[i])[j]?=some ((enc l[i])[j]'(by rw[d];exact m)):=aI _;rw[e];exact flat_get enc sz d l i h j _ e
theorem Lb{α:Type}(enc:α->List Value)(sz:Nat)(d:∀x,(enc x).length=sz)(D:0<sz)(l:List α)(m:Nat)(u:Value)(h:(l.flatMap enc)[m]?=some u) :
  ∃i j,∃p:i<l.length,m=i*sz+j/\j<sz/\(enc l[i])[j]?=some u:=by
 have E:m<l.length*sz:=by
  rcases gu m (l.flatMap enc).length with s|s
  ·rwa [flat_len enc sz d]at s
  ·rw[fH s]at h;cases h
 have z:=rM m D;have A:=Nat.div_add_mod m sz;have p:m / sz<l.length:=Nat.div_lt_of_lt_mul (by rw[yt];exact E);refine⟨m / sz,m%sz,p,by rw[yt];exact A.symm,z,?_⟩;rw[<-ku enc sz d l _ p _ z,yt,A];exact h
theorem Al{α:Type}(enc:α->List Value)(sz:Nat)(d:∀x,(enc x).length=sz)(D:0<sz)(l:List α)(k:Nat)(F:k<l.length)(x:α)(off:Nat)(s:Array Value)(A:off+l.length*sz<=s.size)
 (h:∀j u,(l.flatMap enc)[j]?=some u->s[off+j]?=some u):∀j u,((l.set k x).flatMap enc)[j]?=some u->(bH s (off+k*sz) (enc x))[off+j]?=some u:=by
 intro m u E;obtain⟨i,j,H,rfl,G,e⟩:=Lb enc sz d D _ m u E;have b : i<l.length:=by simpa using H
 by_cases p:i=k
 ·subst p;rw[show off+(i*sz+j)=(off+i*sz)+j from by omega];have z:(i+1)*sz<=l.length*sz:=uN _ F;rw[uJ]at z;exact putAt_in _ _ _ _ _ (by rw[d];omega) (by simpa using e)
 have a:off+(i*sz+j)<off+k*sz\/off+k*sz+(enc x).length<=off+(i*sz+j):=by
  rw[d];rcases vL p with z|z
  ·have:=uN sz z;rw[Dm]at this;omega
  have:=uN sz z;rw[Dm]at this;omega
 rw[putAt_out _ _ _ _ a];refine h _ _ ?_;rw[ku enc sz d l i b j G];rw[Dj (λe=>p e.symm)]at e;exact e
theorem Own.put{α:Type}{enc:α->List Value}(m:∀x,(enc x).length=sz)(H:0<sz){w:World}{l:List α}(h:Own w B e sz v l.length (l.flatMap enc))(k:Nat)(p:k<l.length) :
  ∃g off cap d,v = .slice (some ⟨g,off,none⟩) l.length cap/\B<=g/\aG w g d e/\off+k*sz+sz<=d.size/\(∀j u,(enc l[k])[j]?=some u->w.cell? ⟨g,off+k*sz+j,none⟩=some u) /\
   ∀w' x,aG w' g (bH d (off+k*sz) (enc x)) e->Own w' B e sz v l.length ((l.set k x).flatMap enc):=by
 obtain⟨N,h⟩:=h;rcases h with⟨_,O⟩|⟨g,off,cap,d,rfl,E,A,D,K,G,z⟩
 ·omega
 have M:(k+1)*sz<=l.length*sz:=uN _ p;have h2:l.length*sz<=cap*sz:=uN _ D;rw[uJ]at M;refine⟨g,off,cap,d,rfl,E,A,by omega,λj u s => ?_,λw' x F=>⟨?_,.inr ⟨g,off,cap,_,rfl,E,F,D,K,by rw[size_putAt];exact G,?_⟩⟩⟩
 ·rw[A.cell,ng];refine z _ _ ?_;have a : j<sz:=by
   rcases gu j sz with h|h
   ·exact h
   ·rw[fH (by rw[m];exact h)]at s;cases s
  rw[ku enc sz m l k p j a];exact s
 ·rw[flat_len enc sz m,bI]
 ·exact Al enc sz m H l k p x off d (by omega) z
theorem Own.put1{f:Int->Value}{w:World}(h:Own w B e 1 v l.length (l.map f))(k:Nat)(u:k<l.length) :
  ∃g off cap,v = .slice (some ⟨g,off,none⟩) l.length cap/\B<=g/\g<w.heap.size/\w.cell? ⟨g,off+k,none⟩=some (f l[k])/\w.frozen? ⟨g,off+k,none⟩=false /\
   ∀x,Own (w.setCell ⟨g,off+k,none⟩ (f x)) B e 1 v l.length ((l.set k x).map f):=by
 rw[<-kI]at h;obtain⟨g,off,cap,A,rfl,z,d,s,p,m⟩:=h.put (sz:=1) (λ_=>rfl) Nat.one_pos k u;rw[uo]at s p m;refine⟨g,off,cap,rfl,z,d.lt,by simpa using p 0 _ rfl,d.free _,λx => ?_⟩;rw[<-kI];exact m _ x (by simpa[bH]using d.setCell (off+k) (f x))
theorem HY{α:Type}(enc:α->List Value)(sz:Nat)(d:∀x,(enc x).length=sz)(s:0<sz)(z:Array Value)(x:α)(p:z.toList=enc x)(n:Nat):(madeCells z (n*sz)).toList=(List.replicate n x).flatMap enc:=by
 have b:z.size=sz:=by rw[<-d x,<-p];simp
 apply uZ
 ·rw[flat_len enc sz d];simp[size_madeCells]
 intro m D h2;have E:m<n*sz:=by simpa[size_madeCells]using D
 have A:((List.replicate n x).flatMap enc)[m]?=some ((List.replicate n x).flatMap enc)[m]:=aI h2;obtain⟨i,j,F,e,u,h⟩:=Lb enc sz d s _ m _ A;rw[List.getElem_replicate]at h;have a:m%z.size=j:=by rw[b,e,yt,Nat.mul_add_mod,rW u]
 simp only[madeCells,Array.toList_map,wJ,Array.toList_range,JC,a];rw[<-p,uQ]at h;rw[Array.getElem!_eq_getD,cK,h];rfl
theorem Ii(w:World){a:Act} 
 (M:o.guard=none) (l c:Operand) (t:TypeId) (s:o.op=Op.makeSlice t l c)
 {α:Type} (enc:α->List Value) (e:TypeId) (z:Value) (h m:Nat) (x:α) (p:∀x,(enc x).length=h) (G:0<h) (X:P.underlying t=some (.slice e)) (h2:(P.info? e).map (λi=>(i.zero,i.size,i.bytes))=some (some z,h,m)) (E:z.cells.toList=enc x)
 (u A:IntKind) (L C:Int) (n:Nat) (H:a.eval l = .int u L) (N:a.eval c = .int A C) (R:L=(n:Int)) (U:C=(n:Int)) (b2:m*n<=281474976710656) (b3:n<=maxLen)
 (S:∀w',Own w' w.heap.size e h (.slice (some ⟨w.heap.size,0,none⟩) n n) n ((List.replicate n x).flatMap enc)->w.grownBy w' none->wpList P ops Q rest (a.put o.dst (.slice (some ⟨w.heap.size,0,none⟩) n n)) w') :
  wpList P ops Q (o::rest) a w:=by
 obtain⟨i,K,b,F,O⟩:=info_parts h2;refine wpList_make_full w M l c t s w.heap.size e i z h X K b F u A L C n H N R U (by rw[O];exact b2) b3 (az _) λw' D d=>S w' ?_ d;rw[HY enc h p G z.cells x E]at D;exact Own.of_owns D
theorem own_ne{w:World}{n:Nat}(h:Own w B e sz v n xs)(p:aG w g cs T)(u:T≠e):∀m,v.ownBlock=some m->some g≠some m:=by
 intro m a s;cases s;rcases h.2 with⟨rfl,_⟩|⟨A,off,cap,z,rfl,_,d,_⟩
 ·cases a
 cases a;unfold aG at p d;rw[p]at d;simp only[jo,uj]at d;exact u d.2.1
theorem ax{w:World}{n:Nat}(h:Own w B e sz v n xs)(m:aG w g cs T)(d:w.grownBy w' (some g))(p:T≠e:=by decide):Own w' B e sz v n xs:=
 h.grown d (own_ne h m p)
def nA(B:Nat)(e:TypeId)(sz n:Nat)(xs:List Value):mP:=⟨λv w=>Own w B e sz v n xs,λ_ _ _ hb h=>h.below hb⟩
theorem iC{w:World}{X:Array Value}(m:World->Prop)(h:∀W,Below w.heap.size w W->aG W w.heap.size X TX->W.heap.size=w.heap.size+1->m W):m (w.alloc (.cells X TX)):=
 h _ ((Below.refl _ _).alloc (az _) _) (aG.new _ _ _) (by simp)
theorem tY{w:World}{X:Array Value}(m:World->Prop)(h:∀W,Below w.heap.size w W->aG W w.heap.size X TX->aG W (w.heap.size+1) Y TY->W.heap.size=w.heap.size+2->m W) :
  m ((w.alloc (.cells X TX)).alloc (.cells Y TY)):=by
 refine iC (λW=>m (W.alloc (.cells Y TY))) λA u p s => ?_;refine iC m λz a d b => ?_;rw[s]at d b;exact h z (ag u a) (p.ext a) d (by omega)
theorem Kz{w:World}{X:Array Value}(m:World->Prop)(h:∀W,Below w.heap.size w W->aG W w.heap.size X TX->aG W (w.heap.size+1) Y TY->aG W (w.heap.size+2) Z TZ->W.heap.size=w.heap.size+3->m W) :
  m (((w.alloc (.cells X TX)).alloc (.cells Y TY)).alloc (.cells Z TZ)):=by
 refine tY (λW=>m (W.alloc (.cells Z TZ))) λD z s p u => ?_;refine iC m λA a d b => ?_;rw[u]at d b;exact h A (ag z a) (s.ext a) (p.ext a) d (by omega)
theorem Own.drop{α:Type}{enc:α->List Value}(d:∀x,(enc x).length=sz){w:World}{l:List α}(h:Own w B e sz (.slice (some ⟨g,off,none⟩) l.length cap) l.length (l.flatMap enc))(k:Nat)(s:k<=l.length) :
  Own w B e sz (.slice (some ⟨g,off+k*sz,none⟩) (l.drop k).length (cap-k)) (l.drop k).length ((l.drop k).flatMap enc):=by
 obtain⟨N,h⟩:=h;rcases h with⟨H,_⟩|⟨R,p,z,m,A,G,F,O,M,K,D⟩
 ·cases H
 cases A;refine⟨flat_len enc sz d _,.inr ⟨g,off+k*sz,cap-k,m,rfl,G,F,by simp;omega,by omega,?_,λj u E => ?_⟩⟩
 ·have:(cap-k)*sz+k*sz=cap*sz:=by rw[<-uJ];congr 1;omega
  omega
 rw[ng];refine D _ _ ?_;have e:l.flatMap enc=(l.take k).flatMap enc++(l.drop k).flatMap enc:=by rw[<-fM,rJ]
 rw[e,jX (by rw[flat_len enc sz d,iQ,uy s];omega),flat_len enc sz d,iQ,uy s,Aa];exact E
theorem jg{w:World}{l:List mP}(v:Value)(h:Region.wanted o (iq ρ ops)=true)(d:(execOp ρ o).run P w = .ok (.value v) w')(m:Below w.heap.size w w')(p:rl l i v w') :
  if Region.wanted o (iq ρ ops)=true then dZ P o ρ w (λv w'=>Below w.heap.size w w'/\rl l i v w')else rl l i undef w:=by
 rw[if_pos h];unfold dZ;rw[d];exact⟨m,p⟩
theorem lm{w:World}(h:w.grownBy w' none):Below w.heap.size w w':=(Below.refl _ _).grown h (az _) (λk d=>by cases d)
theorem Own.empty(w:World)(T:TypeId)(d:B<=w.heap.size):Own (w.alloc (.cells #[] T)) B T sz (.slice (some ⟨w.heap.size,0,none⟩) 0 0) 0 []:=
 ⟨by simp,.inr ⟨w.heap.size,0,0,#[],rfl,d,aG.new _ _ _,az _,bq _,by simp,λj u h=>by simp at h⟩⟩
def xV(ops:Array Oper):Nat->Nat->List Nat
 | 0,_=>[]
 | f+1,i=>match ops[i]? with
  | none=>[]
  | some o=>o.after.toList.flatMap λe=>e.on::xV ops f e.on
def jh(ops:Array Oper)(m:Nat):Bool:=
 (List.range ops.size).all λi=>decide (i<m)||(List.range i).all λj=>(xV ops ops.size i).contains j
theorem vY{ops:Array Oper}{d:Array Bool}(s:∀i o,ops[i]?=some o->d.getD i false=true->∀e∈o.after,d.getD e.on false=true):∀(f i:Nat),(∀o,ops[i]?=some o->∀e∈o.after,d.getD e.on false=true)->∀j∈xV ops f i,d.getD j false=true
 | 0,_,_,j,hj=>by simp[xV]at hj
 | f+1,i,h,j,hj=>by
  unfold xV at hj;cases ho:ops[i]? with
  | none=>simp[ho]at hj
  | some o=>
   simp only[ho,lg]at hj;obtain⟨e,z,hj⟩:=hj;have m:=nW.1 z;rcases dz.1 hj with rfl|hj
   ·exact h o ho e m
   ·exact vY s f e.on (λu p=>s e.on u p (h o ho e m)) j hj
theorem wG{m:Nat}(h:jh ops m=true){d:Array Bool}(z:∀i o,ops[i]?=some o->d.getD i false=true->∀e∈o.after,d.getD e.on false=true)(s:ops[i]?=some o)(A:∀e∈o.after,d.getD e.on false=true)(E:m<=i)(j:Nat)(u:j<i):d.getD j false=true:=by
 have b:i<ops.size:=(iV.1 s).1;have p:=fD.1 h i (eO.2 b);simp only[uP,decide_eq_true_eq]at p;rcases p with p|p
 ·omega
 have h2:=fD.1 p j (eO.2 u);refine vY z ops.size i (λD a => ?_) j (by simpa using h2);rw[s]at a;cases a;exact A
theorem vH{m:Nat}(A:ko ops=true)(R:jh ops m=true):∀(fuel k:Nat) (s:Array Bool) (a:Act) (w:World),
  m<=k->k<=ops.size->ops.size-k<=fuel->s.size=ops.size->(∀i,i<ops.size->s.getD i false=decide (i<k))->wpList P ops Q (ops.toList.drop k) a w->wpAny P .any ops Q fuel s a w:=by
 intro fuel
 induction fuel with
 | zero=>
  intro k s a w p S X g z h;obtain rfl:k=ops.size:=by omega
  refine⟨?_,?_⟩
  ·rw[List.eq_nil_iff_forall_not_mem];intro i D;obtain⟨K,o,u,_⟩:=mem_ready.1 D;have b:i<ops.size:=(iV.1 u).1;have:=z i b;simp[cK,show i<s.size by omega]at K this;rw[K]at this;simp[b]at this
  rw[rA (by simp)]at h;simpa[wpList]using h
 | succ fuel ih=>
  intro k s a w p S X g z h;have only:∀i∈Region.ready .any ops s,i=k:=by
   intro i D;obtain⟨K,o,u,f⟩:=mem_ready.1 D;have b:i<ops.size:=(iV.1 u).1;have h2:=z i b;have h3:s.getD i false=false:=by simp[cK,show i<s.size by omega]at K ⊢;exact K
   rw[h3]at h2;have r:k<=i:=by have:=h2.symm;simpa using this
   rcases gu k i with F | H
   ·exfalso;have h4:s.getD k false=true:=wG R (λM o' l n e E=>by
     have q : M < ops.size:=(iV.1 l).1;have h8:=(ic A l).2.1 e E;rw[z M q]at n;have h9:M < k:=by simpa using n
     rw[z e.on (by omega)];simp;omega) u (λe E=>f e E ((ic A u).2.1 e E).1) (by omega) k F
    have N:=z k (by omega);rw[h4]at N;simp at N
   ·omega
  refine⟨λc => ?_,λi D => ?_⟩
  ·rcases gu k ops.size with b|H
   ·exfalso;have:k∈Region.ready .any ops s:=by
     rw[mem_ready];refine⟨?_,ops[k],by simp[b],λe E hb => ?_⟩
     ·have:=z k b;simp[cK,show k<s.size by omega]at this ⊢;exact this
     have h6:=(ic A (i:=k) (o:=ops[k]) (by simp[b])).2.1 e E;rw[z e.on (by omega)];simp[h6.2]
    rw[c]at this;cases this
   rw[rA (by simpa using H)]at h;simpa[wpList]using h
  obtain rfl:=only i D;obtain⟨_,o,u,_⟩:=mem_ready.1 D;have b:i<ops.size:=(iV.1 u).1;have d:ops.toList.drop i=o::ops.toList.drop (i+1):=by rw[vK (by simpa using b)];congr 1;have:=(iV.1 u).2;simpa using this
  rw[d]at h;have O:wpOp P ops Q i (wpList P ops Q (ops.toList.drop (i+1))) a w:=by unfold wpOp;simp only[u];simpa[wpList]using h
  refine wpOp_mono (λa' w' h'=>ih (i+1) _ a' w' (by omega) (by omega) (by omega) (by simp[g]) (λj U => ?_) h') O
  by_cases G:j=i
  ·subst G;simp[cK,show j<s.size by omega]
  have:=z j U;simp only[cK,gZ (pO G)]at this ⊢;rw[this];congr 1;simp;omega
def Fixed:List mP->Prop
 | []=>True
 | R::l=>(∀v w w',R.r v w->R.r v w')/\Fixed l
theorem fix_nil:Fixed []:=trivial
theorem KE{R:mP}{l:List mP}(h:∀v w w',R.r v w->R.r v w')(d:Fixed l):Fixed (R::l):=⟨h,d⟩
theorem Fixed.at:∀ {l:List mP},Fixed l->∀i v w w',rl l i v w->rl l i v w'
 | [],_,_,_,_,_,_=>by unfold rl;simp[anyR]
 | R::l,h,0,v,w,w',hr=>by unfold rl at hr ⊢; simpa using h.1 v w w' (by simpa using hr)
 | R::l,h,i+1,v,w,w',hr=>by have:=Fixed.at h.2 i v w w';unfold rl at hr this ⊢;simp only[List.getD_cons_succ]at hr ⊢;exact this hr
def dJ(F:Value->Prop):mP:=⟨λv _=>F v,λ_ _ _ _ h=>h⟩
def fG(y:Nat->Value)(i:Nat)(v:Value):Nat->Value:=λk=>if k=i then v else y k
def Xv(ops:Array Oper)(m:Nat)(R:Nat->Value->World->Prop)(a0:Act)(J:(Nat->Bool)->(Nat->Value)->World->Prop)(listed:Array Bool)(a:Act)(w:World):Prop:=
 (∀i,m<=i->listed.getD i false=false)/\(∀i o,ops[i]?=some o->listed.getD i false=true->∀e∈o.after,listed.getD e.on false=true)/\∃y:Nat->Value,a = { a0 with tmps:=lay (λi=>listed.getD i false) y ops.toList 0 a0.tmps }/\J (λi=>listed.getD i false) y w/\∀i,i<ops.size->listed.getD i false=true->R i (y i) w
theorem Ct(m:Nat)(H:ko ops=true)(ht:jh ops m=true)(hmn:m<=ops.size)
 (R:Nat->Value->World->Prop) (J:(Nat->Bool)->(Nat->Value)->World->Prop) (hJ0:∀y,J (λ_=>false) y w0.drew) (hstab:∀i v w w',R i v w->R i v w')
 (X:∀i o,i<m->ops[i]?=some o->∀L y w,L i=false->(∀j,o.after.toList.any (λe=>e.on==j)=true->L j=true)->J L y w->(∀j,o.after.toList.any (λe=>e.on==j)=true->R j (y j) w) ->
 if Region.wanted o (yielded ops (lay (λ_=>true) y ops.toList 0 a0.tmps))=true then Gives P o { a0 with tmps:=lay (λ_=>true) y ops.toList 0 a0.tmps } w (λv w'=>J (dS L i) (fG y i v) w'/\R i v w')else J (dS L i) (fG y i undef) w/\R i undef w)
 (U:∀y w,J (λi=>decide (i<m)) y w->(∀i,i<m->R i (y i) w)->wpList P ops Q (ops.toList.drop m) { a0 with tmps:=lay (λi=>decide (i<m)) y ops.toList 0 a0.tmps } w) :
  wpAny P .any ops Q ops.size (Array.replicate ops.size false) a0 w0.drew:=by
 have hG:∀(fuel:Nat) (A:Array Bool) (a:Act) (w:World),A.size=ops.size->A.toList.countP (!·)<=fuel->Xv ops m R a0 J A a w->wpAny P .any ops Q fuel A a w:=by
  intro fuel
  induction fuel with
  | zero=>
   intro A a w n hc hA;have hl:∀i,i<ops.size->A.getD i false=true:=by
    intro i hH;have h0:A.toList.countP (!·)=0:=by omega
    have:=yX.1 h0 (A[i]'(by omega)) (by simp);simpa[cK,show i<A.size by omega]using this
   obtain⟨b,hz,y,ha,hb,hR⟩:=hA;have hC : m=ops.size:=by
    rcases gu m ops.size with h|h
    ·have h1:=hl m h;rw[b m (az _)]at h1;cases h1
    ·omega
   refine vH (m:=m) H ht 0 ops.size A a w (by omega) (az _) (by omega) n (λi D=>by rw[hl i D];simp[D]) ?_;have hf:(λi=>A.getD i false)=λi=>decide (i<m):=by
    funext i
    by_cases D:i<m
    ·rw[hl i (by omega)];simp[D]
    ·rw[b i (by omega)];simp[D]
   rw[hf]at hb;have:=U y w hb λi D=>hR i (by omega) (hl i (by omega));rw[ha,sH (λi=>A.getD i false) (λi=>decide (i<m)) y ops.toList 0 a0.tmps (λk N=>by
    have hI : k<ops.size:=by simpa using N
    simp only[eB];rw[hl k hI];simp;omega)]
   rw[hC]at this ⊢;exact this
  | succ fuel ih=>
   intro A a w n hc hA
   by_cases E:∀i,i<m->A.getD i false=true
   ·obtain⟨b,hz,y,ha,hb,hR⟩:=hA;have M:∀i,i<ops.size->A.getD i false=decide (i<m):=by
     intro i D
     by_cases G:i<m
     ·rw[E i G];simp[G]
     ·rw[b i (by omega)];simp[G]
    have hp:ops.size-m<=fuel+1:=by
     have h1:A.toList.countP (!·)=ops.size-m:=by
      have e:A.toList=List.replicate m true++List.replicate (ops.size-m) false:=by
       apply oG;intro i
       by_cases D:i<ops.size
       ·have h2:=M i D;rw[uQ,AV (show i<A.size by omega)];simp only[cK,AV (show i<A.size by omega),qy]at h2;rw[h2]
        by_cases G:i<m
        ·rw[kN (by simpa using G)];simp[G]
        rw[jX (by simp;omega)];rw[kQ,qw,if_pos (by omega)];simp[G]
       ·rw[fH (by simp;omega),fH (by simp;omega)]
      rw[e];simp[DR,List.countP_replicate]
     omega
    refine vH (m:=m) H ht (fuel+1) m A a w (az _) hmn hp n M ?_;have hf:(λi=>A.getD i false)=λi=>decide (i<m):=by
     funext i
     by_cases D:i<m
     ·rw[E i D];simp[D]
     ·rw[b i (by omega)];simp[D]
    rw[hf]at hb;have:=U y w hb λi D=>hR i (by omega) (E i D);rw[ha,sH (λi=>A.getD i false) (λi=>decide (i<m)) y ops.toList 0 a0.tmps (λk N=>by simp only[eB];exact M k (by simpa using N))];exact this
   have r:Region.ready .any ops A≠[]:=by
    intro hn;apply E;intro i
    induction i using Nat.strongRecOn with
    | ind i ih'=>
     intro G
     by_cases hc' : A.getD i false=true
     ·exact hc'
     exfalso;have D:i<ops.size:=by omega
     have hr:i∈Region.ready .any ops A:=by
      rw[mem_ready];refine⟨?_,ops[i],by simp[D],λe K _ => ?_⟩
      ·simpa[cK,show i<A.size by omega]using hc'
      have:=(ic H (i:=i) (o:=ops[i]) (by simp[D])).2.1 e K;exact ih' e.on this.2 (by omega)
     rw[hn]at hr;cases hr
   refine⟨λh=>absurd h r,λi D => ?_⟩;obtain⟨h1,o,S,hy⟩:=mem_ready.1 D;have hH:i<ops.size:=(iV.1 S).1;obtain⟨hB,d,_⟩:=ic H S;have M:∀e∈o.after,A.getD e.on false=true:=λe K=>hy e K (d e K).1;have G:i<m:=by
    rcases gu i m with h|h
    ·exact h
    exfalso;apply E;intro j hj;exact wG ht hA.2.1 S M h j (by omega)
   obtain⟨b,hz,y,ha,hb,hR⟩:=hA;have z:∀v w',J (dS (λi=>A.getD i false) i) (fG y i v) w'->R i v w'->wpAny P .any ops Q fuel (A.setIfInBounds i true) (a.put o.dst v) w':=by
    intro v w' hF hv;have hf:dS (λi=>A.getD i false) i=λk=>(A.setIfInBounds i true).getD k false:=by
     funext k;unfold dS
     by_cases F:k=i
     ·subst F;simp[cK,show k<A.size by omega]
     rw[if_neg F];simp[cK,gZ (pO F)]
    rw[hf]at hF;refine ih _ _ _ (by simp[n]) ?_ ⟨λk N => ?_,λk o' u N e K => ?_,λk=>if k=i then v else y k,?_,hF,?_⟩
    ·have hD:i<A.toList.length:=by simp;omega
     have c:A.toList[i]=false:=by simpa[cK,show i<A.size by omega]using h1
     have:=List.countP_set (p:=(!·)) (l:=A.toList) (i:=i) (a:=true) hD;rw[c]at this;have hK:0<A.toList.countP (!·):=yT.2 ⟨A.toList[i],fe hD,by rw[c];rfl⟩;simp only[DX];simp only[Bool.not_false,Bool.not_true,if_true,uA,if_false]at this;omega
    ·have:=b k N;simp only[cK,gZ (show i≠k by omega)]at this ⊢;exact this
    ·have up:∀q,A.getD q false=true->(A.setIfInBounds i true).getD q false=true:=by
      intro q hq
      by_cases hqi:q=i
      ·subst hqi;simp[cK,show q<A.size by omega]
      ·simpa[cK,gZ (pO hqi)]using hq
     apply up
     by_cases F:k=i
     ·subst F;rw[S]at u;cases u;exact M e K
     ·exact hz k o' u (by simpa[cK,gZ (pO F)]using N) e K
    ·rw[ha,IK H S n v]
    intro k N hJ
    by_cases F:k=i
    ·subst F;simpa using hv
    have:A.getD k false=true:=by simpa[cK,gZ (pO F)]using hJ
    simp only[F,if_false];exact hstab _ _ _ _ (hR k N this)
   have hh:∀t∈o.looksAt ops,a.tmps[t]?=(lay (λ_=>true) y ops.toList 0 a0.tmps)[t]?:=λt ht=>by rw[ha];exact BO H S M t ht
   have hu:execOp a.eval o=execOp ({ a0 with tmps:=lay (λ_=>true) y ops.toList 0 a0.tmps }:Act).eval o:=by
    refine execOp_congr o hB λx hx => ?_;cases x with
    | tmp t=>
     have:=hh t (qh _ (II.2 ⟨.tmp t,by simpa using hx,rfl⟩));simp[Act.eval,this]
    | _=>rfl
   have f:Region.wanted o (yielded ops a.tmps)=Region.wanted o (yielded ops (lay (λ_=>true) y ops.toList 0 a0.tmps)):=by
    unfold Region.wanted;cases hg:o.guard with
    | none=>rfl
    | some gw=>
     obtain⟨g,want⟩:=gw;have:yielded ops a.tmps g=yielded ops (lay (λ_=>true) y ops.toList 0 a0.tmps) g:=by
      unfold yielded;cases hd:(ops[g]?).bind (·.dst)with
      | none=>rfl
      | some t=>
       have:=hh t (uO _ (by simp[hg,hd]));simp[this]
     simp only[this]
   have hs:=X i o G S (λi=>A.getD i false) y w (by simpa[cK,show i<A.size by omega]using h1) (λj hj=>by
    obtain⟨e,K,hw⟩:=jP.1 hj;have hm : e.on=j:=by simpa using hw
    subst hm;exact M e (nW.1 K)) hb (λj hj=>by
    obtain⟨e,K,hw⟩:=jP.1 hj;have hm : e.on=j:=by simpa using hw
    subst hm;have hE:=nW.1 K;exact hR e.on (by have:=(d e hE).2;omega) (M e hE))
   by_cases O:Region.wanted o (yielded ops (lay (λ_=>true) y ops.toList 0 a0.tmps))=true
   ·rw[if_pos O]at hs;exact tu S (by rw[f];exact O) hu hs λv w' h=>z v w' h.1 h.2
   rw[if_neg O]at hs;unfold wpOp;simp only[S];rw[if_neg (by rw[f];exact O)];exact z undef w hs.1 hs.2
 refine hG ops.size _ _ _ (by simp) ?_ ⟨λi _ => ?_,λi o' u D => ?_,λ_=>undef,?_,?_,?_⟩
 ·simpa using xY (p:=(!·)) (l:=List.replicate ops.size false)
 ·simp[cK,rV];split<;>rfl
 ·exfalso;have:i<ops.size:=(iV.1 u).1;simp[cK,this]at D
 ·have e:lay (λi=>(Array.replicate ops.size false).getD i false) (λ_=>undef) ops.toList 0 a0.tmps=a0.tmps:=by apply mI;intro s;exact jy _ _ s _ 0 _ λk o' N hd=>by simp[cK,rV];split<;>rfl
  rw[e]
 ·have e:(λi=>(Array.replicate ops.size false).getD i false)=λ_=>false:=by funext i;simp[cK,rV];split<;>rfl
  rw[e];exact hJ0 _
 intro i D M;simp[cK,D]at M
def ny(P:Program)(ops:Array Oper)(a0:Act)(J:(Nat->Bool)->(Nat->Value)->World->Prop)(l:List mP)(i:Nat)(o:Oper):Prop:=
 ∀(ρ:Operand->Value) (y:Nat->Value) (w:World) (L:Nat->Bool),(∀t j,writer ops t=some j->ρ (.tmp t)=y j)->(∀x,(match x with | .tmp t=>writer ops t=none | _=>True)->ρ x=a0.eval x) ->
  L i=false->(∀j,o.after.toList.any (λe=>e.on==j)=true->L j=true)->J L y w->(∀j,o.after.toList.any (λe=>e.on==j)=true->rl l j (y j) w) ->
  if Region.wanted o (iq ρ ops)=true then dZ P o ρ w (λv w'=>J (dS L i) (fG y i v) w'/\rl l i v w')else J (dS L i) (fG y i undef) w/\rl l i undef w
theorem Iq(m:Nat)(l:List mP)(J:(Nat->Bool)->(Nat->Value)->World->Prop)(N:∀L y w w',Below w.heap.size w w'->J L y w->J L y w')(R:∀y,J (λ_=>false) y w0)(F:Fixed l)(E:ko ops=true)(ht:jh ops m=true)(O:m<=ops.size)
 (n:Nat) (hn:a0.tmps.size=n) (M:lc ops n=true)
 (A:bn (ny P ops a0 J l) 0 (ops.toList.take m))
 (G:∀y w,J (λi=>decide (i<m)) y w->(∀i,i<m->rl l i (y i) w)->wpList P ops Q (ops.toList.drop m) { a0 with tmps:=lay (λi=>decide (i<m)) y ops.toList 0 a0.tmps } w) :
  wpAny P .any ops Q ops.size (Array.replicate ops.size false) a0 w0.drew:=by
 refine Ct m E ht O (rl l) J (λy=>N _ y w0 w0.drew ⟨rfl,rfl,rfl,az _,λ_ _=>rfl⟩ (R y)) (λi v w w' h=>F.at i v w w' h) (λi o u hi L y w hc hf hb hd => ?_) G;have f:∀t j,writer ops t=some j->({ a0 with tmps:=lay (λ_=>true) y ops.toList 0 a0.tmps }:Act).eval (.tmp t)=y j:=by
  intro t j K;unfold writer at K;have U:=uD K;have h2:=eO.1 (rP K);cases ho:ops[j]? with
  | none=>simp[ho]at U
  | some p=>
   have a : p.dst=some t:=by simpa[ho]using U
   have s:t<a0.tmps.size:=by have:=fD.1 M p (nW.2 (AQ ho));rw[hn];simpa[a]using this
   have X:∀H D,ops.toList[H]?=some D->D.dst=some t->H = j:=by
    intro H D b ha;rcases((ic E (i:=H) (o:=D) (by simpa using b)).2.2 j p t ho a).1 with h|h
    ·exact h
    ·exact absurd ha h
   have:=mg (λ_=>true) y t ops.toList 0 a0.tmps j p (by simpa using ho) a rfl X s;simp[Act.eval,this]
 have r:∀x,(match x with | .tmp t=>writer ops t=none | _=>True)->({ a0 with tmps:=lay (λ_=>true) y ops.toList 0 a0.tmps }:Act).eval x=a0.eval x:=by
  intro x S;cases x with
  | tmp t=>
   have:(lay (λ_=>true) y ops.toList 0 a0.tmps)[t]?=a0.tmps[t]?:=by
    refine jy _ y t _ 0 _ λk D hk a => ?_;exfalso;simp only[writer]at S;have b : ops[k]?=some D:=by simpa using hk
    have e:k<ops.size:=(iV.1 b).1;have:=qR.1 S k (eO.2 e);simp[b,a]at this
   simp[Act.eval,this]
  | _=>rfl
 have c:Region.wanted o (yielded ops (lay (λ_=>true) y ops.toList 0 a0.tmps))=Region.wanted o (iq ({ a0 with tmps:=lay (λ_=>true) y ops.toList 0 a0.tmps }:Act).eval ops):=by
  congr 1;funext g;unfold yielded iq;cases (ops[g]?).bind (·.dst)with
  | none=>rfl
  | some d=>
   simp only[Bg,Act.eval,cK];generalize (lay (λ_=>true) y ops.toList 0 a0.tmps)[d]?=q;cases q with
   | none=>rfl
   | some v=>cases v<;>rfl
 have z : (ops.toList.take m)[i]?=some o:=by rw[mE,if_pos u];simpa using hi
 have:=bn.at A i o z _ y w L f r (by rw[eB];exact hc) hf hb hd;rw[eB]at this;rw[c];exact this
theorem TI(m:Nat)(l:List mP)(J:(Nat->Bool)->(Nat->Value)->World->Prop)(u:∀L y w w',Below w.heap.size w w'->J L y w->J L y w')(D:∀y,J (λ_=>false) y w0)(h:Fixed l)(G:P.follows .mixedOrders=true)(z:ko ops=true)(E:jh ops m=true)(A:m<=ops.size)
 (n:Nat) (F:a0.tmps.size=n) (s:lc ops n=true)
 (d:bn (ny P ops a0 J l) 0 (ops.toList.take m))
 (p:∀y w,J (λi=>decide (i<m)) y w->(∀i,i<m->rl l i (y i) w)->wpList P ops Q (ops.toList.drop m) { a0 with tmps:=lay (λi=>decide (i<m)) y ops.toList 0 a0.tmps } w) :
  (Code.region id ops true).wp P Q a0 w0:=
 wp_region_any G (Iq m l J u D h z E A n F s d p)
theorem fV{w:World}{l:List mP}{J:(Nat->Bool)->(Nat->Value)->World->Prop}(m:∀L y w w',Below w.heap.size w w'->J L y w->J L y w')(s:J L y w)(h:if Region.wanted o (iq ρ ops)=true then dZ P o ρ w (λv w'=>Below w.heap.size w w'/\rl l i v w')else rl l i undef w)(d:∀v w,J L y w->J (dS L i) (fG y i v) w:=by exact(λ_ _ h=>h)) :
  if Region.wanted o (iq ρ ops)=true then dZ P o ρ w (λv w'=>J (dS L i) (fG y i v) w'/\rl l i v w')else J (dS L i) (fG y i undef) w/\rl l i undef w:=by
 split at h
 ·rename_i u;rw[if_pos u];unfold dZ at h ⊢;split at h
  ·exact⟨d _ _ (m _ _ _ _ h.1 s),h.2⟩
  ·exact⟨d _ _ (m _ _ _ _ h.1 s),h.2⟩
  ·refine xZ h λe z p => ?_;cases e with
   | returned v=>exact⟨d _ _ (m _ _ _ _ p.1 s),p.2⟩
   | panicked c=>exact p.elim
   | outgrown=>exact p.elim
  ·exact h.elim
 rename_i u;rw[if_neg u];exact⟨d _ _ s,h⟩
theorem je{w:World}{l:List mP}{J:(Nat->Bool)->(Nat->Value)->World->Prop}(f:FuncId)(args:Array Value)(m:Region.wanted o (iq ρ ops)=true)(d:(execOp ρ o).run P w = .ok (.enter f args) w)
 (p:Calls P f args w λe w' => ∃v,e = .returned v/\J (dS L i) (fG y i v) w'/\rl l i v w') :
  if Region.wanted o (iq ρ ops)=true then dZ P o ρ w (λv w'=>J (dS L i) (fG y i v) w'/\rl l i v w')else J (dS L i) (fG y i undef) w/\rl l i undef w:=by
 rw[if_pos m];unfold dZ;rw[d];refine p.mono λe w' ⟨v,he,h⟩ => ?_;subst he;exact h
theorem fJ{w:World}{l:List mP}{J:(Nat->Bool)->(Nat->Value)->World->Prop}(v:Value)(d:(execOp ρ o).run P w = .ok (.value v) w')(p:J (dS L i) (fG y i v) w')(h:Region.wanted o (iq ρ ops)=true:=by exact(aj rfl))(m:rl l i v w':=by exact trivial) :
  if Region.wanted o (iq ρ ops)=true then dZ P o ρ w (λv w'=>J (dS L i) (fG y i v) w'/\rl l i v w')else J (dS L i) (fG y i undef) w/\rl l i undef w:=by
 rw[if_pos h];unfold dZ;rw[d];exact⟨p,m⟩
theorem Ey{a:Act}{w:World}{F G:Value->World->Prop}(h:Gives P o a w F)(d:∀v w',F v w'->G v w'):Gives P o a w G:=by
 unfold Gives at h ⊢;generalize (execOp a.eval o).run P w=r at h;cases r with
 | ok n w'=>
  cases n<;>first
   | exact d _ _ h
   | exact xZ h λe p m=>by cases e<;>first | exact d _ _ m | exact m
   | exact h
 | halt x w'=>exact h
theorem OG{R R' : Nat->Value->Prop}(h:∀k,L k=true->R k (y k))(m:R' i v)(p:∀k v,R k v->R' k v)(k:Nat)(d:dS L i k=true):R' k (fG y i v k):=by
 unfold dS at d;unfold fG
 by_cases e:k=i
 ·rw[if_pos e,e];exact m
 rw[if_neg e]at d ⊢;exact p _ _ (h k d)
theorem Da(m:Nat)(O:P.follows .mixedOrders=true)(D:ko ops=true)(K:jh ops m=true)(E:m<=ops.size)
 (R:Nat->Value->World->Prop) (p:∀i v w w',Below w.heap.size w w'->R i v w->R i v w')
 (d:∀i o,i<m->ops[i]?=some o->∀y w,Below w0.heap.size w0 w->(∀j,o.after.toList.any (λe=>e.on==j)=true->R j (y j) w) ->
 if Region.wanted o (yielded ops (lay (λ_=>true) y ops.toList 0 a0.tmps))=true then Gives P o { a0 with tmps:=lay (λ_=>true) y ops.toList 0 a0.tmps } w (λv w'=>Below w.heap.size w w'/\R i v w')else R i undef w)
 (z:∀y w,Below w0.heap.size w0 w->(∀i,i<m->R i (y i) w)->wpList P ops Q (ops.toList.drop m) { a0 with tmps:=lay (λi=>decide (i<m)) y ops.toList 0 a0.tmps } w) :
  (Code.region id ops true).wp P Q a0 w0:=
 wp_region_any O (Ct m D K E (λ_ _ _=>True) (λL y w=>Below w0.heap.size w0 w/\∀i,L i=true->R i (y i) w) (λy=>⟨⟨rfl,rfl,rfl,az _,λ_ _=>rfl⟩,λi h=>(by cases h)⟩) (λ_ _ _ _ _=>trivial) (λi o F N L y w hL X s _=>by
  have h:=d i o F N y w s.1 (λj U=>s.2 j (X j U));have u:∀v w',Below w.heap.size w w'->R i v w'->Below w0.heap.size w0 w'/\∀k,dS L i k=true->R k (fG y i v k) w':=λv w' H M=>⟨ag s.1 H,λk S=>OG s.2 M (λk v h=>p k v _ _ H h) k S⟩;split at h
  ·rename_i A;rw[if_pos A];exact Ey h λv w' G=>⟨u v w' G.1 G.2,trivial⟩
  rename_i A;rw[if_neg A];exact⟨u undef w (Below.refl _ _) h,trivial⟩) (λy w s _=>z y w s.1 λi F=>s.2 i (decide_eq_true F)))
theorem TG(m:Nat)(l:List mP)(hm:P.follows .mixedOrders=true)(E:ko ops=true)(U:jh ops m=true)(M:m<=ops.size)
 (n:Nat) (X:a0.tmps.size=n) (K:lc ops n=true)
 (A:bn (pJ P ops a0 w0 l) 0 (ops.toList.take m))
 (F:∀y w,Below w0.heap.size w0 w->(∀i,i<m->rl l i (y i) w)->wpList P ops Q (ops.toList.drop m) { a0 with tmps:=lay (λi=>decide (i<m)) y ops.toList 0 a0.tmps } w) :
  (Code.region id ops true).wp P Q a0 w0:=by
 refine Da m hm E U M (rl l) (λi v w w' N h=>(l.getD i anyR).st v w w' N h) (λi o u hi y w N hd => ?_) F;have f:∀t j,writer ops t=some j->({ a0 with tmps:=lay (λ_=>true) y ops.toList 0 a0.tmps }:Act).eval (.tmp t)=y j:=by
  intro t j H;unfold writer at H;have R:=uD H;have h2:=eO.1 (rP H);cases ho:ops[j]? with
  | none=>simp[ho]at R
  | some p=>
   have a : p.dst=some t:=by simpa[ho]using R
   have s:t<a0.tmps.size:=by have:=fD.1 K p (nW.2 (AQ ho));rw[X];simpa[a]using this
   have S:∀G D,ops.toList[G]?=some D->D.dst=some t->G = j:=by
    intro G D b ha;rcases((ic E (i:=G) (o:=D) (by simpa using b)).2.2 j p t ho a).1 with h|h
    ·exact h
    ·exact absurd ha h
   have:=mg (λ_=>true) y t ops.toList 0 a0.tmps j p (by simpa using ho) a rfl S s;simp[Act.eval,this]
 have r:∀x,(match x with | .tmp t=>writer ops t=none | _=>True)->({ a0 with tmps:=lay (λ_=>true) y ops.toList 0 a0.tmps }:Act).eval x=a0.eval x:=by
  intro x O;cases x with
  | tmp t=>
   have:(lay (λ_=>true) y ops.toList 0 a0.tmps)[t]?=a0.tmps[t]?:=by
    refine jy _ y t _ 0 _ λk D hk a => ?_;exfalso;simp only[writer]at O;have b : ops[k]?=some D:=by simpa using hk
    have e:k<ops.size:=(iV.1 b).1;have:=qR.1 O k (eO.2 e);simp[b,a]at this
   simp[Act.eval,this]
  | _=>rfl
 have c:Region.wanted o (yielded ops (lay (λ_=>true) y ops.toList 0 a0.tmps))=Region.wanted o (iq ({ a0 with tmps:=lay (λ_=>true) y ops.toList 0 a0.tmps }:Act).eval ops):=by
  congr 1;funext g;unfold yielded iq;cases (ops[g]?).bind (·.dst)with
  | none=>rfl
  | some d=>
   simp only[Bg,Act.eval,cK];generalize (lay (λ_=>true) y ops.toList 0 a0.tmps)[d]?=q;cases q with
   | none=>rfl
   | some v=>cases v<;>rfl
 have z : (ops.toList.take m)[i]?=some o:=by rw[mE,if_pos u];simpa using hi
 have:=bn.at A i o z _ y w f r N hd;rw[eB]at this;rw[c];exact this
inductive RV where
 | v (V:Value)
 | r (i:Nat) (R:mP)
def RV.R:RV->mP
 | .v V=>mW V
 | .r _ R=>R
def rvs:List RV->List mP
 | []=>[]
 | a::l=>a.R::rvs l
def rvN:RV:=.r 0 anyR
theorem rvs_at:∀(l:List RV) (i:Nat),(rvs l).getD i anyR=(l.getD i rvN).R
 | [],_=>rfl
 | _::_,0=>rfl
 | _::l,i+1=>by have:=rvs_at l i;simpa[rvs]using this
theorem Ky{l:List RV}{w:World}(d:l.getD i rvN = .v V)(e:v=V):rl (rvs l) i v w:=by
 unfold rl;rw[rvs_at,d];exact e
def rvK:List RV->Nat->Option Value
 | .v V::_,0=>some V
 | _::l,k+1=>rvK l k
 | _,_=>none
theorem rvK_at:∀ {l:List RV} {k:Nat} {V:Value},rvK l k=some V->l.getD k rvN = .v V
 | .v V::_,0,_,h=>by cases h;rfl
 | .v _::l,k+1,_,h=>by simpa using rvK_at (l:=l) (k:=k) h
 | .r _ _::l,k+1,_,h=>by simpa using rvK_at (l:=l) (k:=k) h
 | .r _ _::_,0,_,h=>by cases h
 | [],0,_,h=>by cases h
 | [],_+1,_,h=>by cases h
def kt(ops:Array Oper)(a0:Act)(l:List RV)(o:Oper)(t:Nat):Option Value:=
 match writer ops t with
 | some k=>cond (o.after.toList.any λe=>e.on==k) (rvK l k) none
 | none=>a0.tmps.toList[t]?
def kx(ops:Array Oper)(a0:Act)(l:List RV)(o:Oper):Operand->Option Value
 | .tmp t=>kt ops a0 l o t
 | .const v=>some v
 | .func f=>some (.func (.func f) #[] #[])
 | .global g=>some (.pointer (some ⟨g,0,none⟩))
def kg(ops:Array Oper)(a0:Act)(l:List RV)(o:Oper):Option Bool:=
 match o.guard with
 | none=>some true
 | some (g,want)=>match (ops[g]?).bind (·.dst)with
  | none=>none
  | some d=>match kt ops a0 l o d with
   | some (.bool b)=>some (b==want)
   | some (.tuple _)=>some false
   | _=>none
def Yg(ops:Array Oper)(a0:Act)(l:List RV)(o:Oper):Option Value:=
 match o.op with
 | .move x=>kx ops a0 l o x
 | .assign x=>kx ops a0 l o x
 | .nilCheck x=>match kx ops a0 l o x with
  | some (.pointer (some a))=>some (.pointer (some a))
  | _=>none
 | .unOp .not _ x=>match kx ops a0 l o x with
  | some (.bool true)=>some (.bool false)
  | some (.bool false)=>some (.bool true)
  | _=>none
 | .pick c x y=>match kx ops a0 l o c with
  | some (.bool true)=>kx ops a0 l o x
  | some (.bool false)=>kx ops a0 l o y
  | _=>none
 | _=>none
def ks(ops:Array Oper)(a0:Act)(l:List RV)(o:Oper):Option Value:=
 match kg ops a0 l o with
 | some true=>Yg ops a0 l o
 | some false=>some undef
 | none=>none
section
variable {P:Program} {ops:Array Oper} {a0:Act} {w0:World} {l:List RV} {i:Nat} {o:Oper}
def Kn(ops:Array Oper)(a0:Act)(l:List RV)(o:Oper)(ρ:Operand->Value)(y:Nat->Value)(w:World):Prop:=
 (∀t j,writer ops t=some j->ρ (.tmp t)=y j)/\(∀x,(match x with | .tmp t=>writer ops t=none | _=>True)->ρ x=a0.eval x)/\∀j,o.after.toList.any (λe=>e.on==j)=true->rl (rvs l) j (y j) w
theorem Wj{t:Nat}(h:kt ops a0 l o t=some v){w:World}(m:Kn ops a0 l o ρ y w):ρ (.tmp t)=v:=by
 unfold kt at h;cases hw:writer ops t with
 | none=>
  rw[hw]at h;have d : a0.tmps.toList[t]?=some v:=h;rw[m.2.1 (.tmp t) hw];simp only[uQ]at d;simp[Act.eval,d]
 | some k=>
  rw[hw]at h;have d : cond (o.after.toList.any λe=>e.on==k) (rvK l k) none=some v:=h;cases ha:o.after.toList.any λe=>e.on==k with
  | false=>rw[ha]at d; cases d
  | true=>
   rw[ha]at d;have p:=m.2.2 k ha;unfold rl at p;rw[rvs_at,rvK_at d]at p;exact(m.1 t k hw).trans p
theorem aH(h:kx ops a0 l o x=some v){w:World}(d:Kn ops a0 l o ρ y w):ρ x=v:=by
 cases x with
 | tmp t=>exact Wj h d
 | const c=>rw[d.2.1 (.const c) trivial];cases h;rfl
 | func f=>rw[d.2.1 (.func f) trivial];cases h;rfl
 | global g=>rw[d.2.1 (.global g) trivial];cases h;rfl
theorem FU{b:Bool}(h:kg ops a0 l o=some b){w:World}(p:Kn ops a0 l o ρ y w):Region.wanted o (iq ρ ops)=b:=by
 unfold kg at h;unfold Region.wanted;cases hg:o.guard with
 | none=>rw[hg]at h;cases h;rfl
 | some q=>
  obtain⟨g,m⟩:=q;rw[hg]at h;simp only at h;cases hd:(ops[g]?).bind (·.dst)with
  | none=>rw[hd]at h;cases h
  | some d=>
   rw[hd]at h;simp only at h;cases hv:kt ops a0 l o d with
   | none=>rw[hv]at h;cases h
   | some v=>
    rw[hv]at h;have e:=Wj hv p;unfold iq;simp only[hd,e];cases v with
    | bool c=>cases h;cases c<;>cases m<;>rfl
    | tuple c=>cases h;rfl
    | _=>cases h
def zR(P:Program)(ops:Array Oper)(a0:Act)(l:List RV)(i:Nat)(o:Oper):Prop:=
 ∀(ρ:Operand->Value) (y:Nat->Value) (w:World),Kn ops a0 l o ρ y w->(Region.wanted o (iq ρ ops)=false/\rl (rvs l) i undef w)\/(Region.wanted o (iq ρ ops)=true/\∃v,(execOp ρ o).run P w = .ok (.value v) w/\rl (rvs l) i v w)
theorem zR.run(p:kg ops a0 l o=some true)(m:l.getD i rvN = .v V)(h:∀ρ y w,Kn ops a0 l o ρ y w->(execOp ρ o).run P w = .ok (.value V) w):zR P ops a0 l i o:=λρ y w d => .inr ⟨FU p d,V,h ρ y w d,Ky m rfl⟩
theorem Wm(h:ks ops a0 l o=some V)(z:l.getD i rvN = .v V):zR P ops a0 l i o:=by
 unfold ks at h;cases hg:kg ops a0 l o with
 | none=>rw[hg]at h;cases h
 | some b=>
  rw[hg]at h;cases b with
  | false=>
   cases h;exactλρ y w p => .inl ⟨FU hg p,Ky z rfl⟩
  | true=>
   have d : Yg ops a0 l o=some V:=h;refine zR.run hg z λρ y w p => ?_;unfold Yg at d;split at d
   ·rename_i x m;exact run_move (.inl m) (aH d p)
   ·rename_i x m;exact run_move (.inr m) (aH d p)
   ·rename_i x m;split at d
    ·rename_i a s;cases d;have e:=aH s p;simp[execOp,go_sem,m,e]
    ·cases d
   ·rename_i t x m;split at d
    ·rename_i s;cases d; exact Ee m (aH s p)
    ·rename_i s;cases d; exact Ee m (aH s p)
    ·cases d
   ·rename_i c x A m;split at d
    ·rename_i u;exact qM m (aH u p) (aH d p)
    ·rename_i u;exact qM m (aH u p) (aH d p)
    ·cases d
   ·cases d
theorem zR.asked(h:zR P ops a0 l i o):pJ P ops a0 w0 (rvs l) i o:=λρ y w m p _ s=>by
 rcases h ρ y w ⟨m,p,s⟩with⟨d,h2⟩|⟨d,v,h2,u⟩
 ·exact EW d h2
 ·exact ak v (h:=d) h2 (m:=u)
theorem zR.askedQ{J:(Nat->Bool)->(Nat->Value)->World->Prop}(d:∀L y w w',Below w.heap.size w w'->J L y w->J L y w')(s:∀L y v w,(∀j,o.after.toList.any (λe=>e.on==j)=true->L j=true)->J L y w->J (dS L i) (fG y i v) w)(h:zR P ops a0 l i o):ny P ops a0 J (rvs l) i o:=λρ y w L z A _ m u D=>by
 rcases h ρ y w ⟨z,A,D⟩with⟨p,h2⟩|⟨p,v,h2,E⟩
 ·exact fV d (d:=(λv w=>s L y v w m)) u (EW p h2)
 ·exact fV d (d:=(λv w=>s L y v w m)) u (ak v (h:=p) h2 (m:=E))
variable {C:Nat->Oper->Prop} {r:List Oper}
theorem Ui(m:zR P ops a0 l i o->C i o)(h:(ks ops a0 l o).map RV.v=some (l.getD i rvN))(d:bn C (i+1) r):bn C i (o::r):=⟨m (by
 cases hk:ks ops a0 l o with
 | none=>rw[hk]at h;cases h
 | some V=>
  rw[hk]at h;exact Wm hk (aM h).symm),d⟩
theorem Gk(h:(ks ops a0 l o).map RV.v=some (l.getD i rvN))(d:bn (pJ P ops a0 w0 (rvs l)) (i+1) r):bn (pJ P ops a0 w0 (rvs l)) i (o::r):=Ui zR.asked h d
def XR(ops:Array Oper)(a0:Act)(l:List RV)(o:Oper):Option (TypeId × Value × Nat):=
 match kg ops a0 l o with
 | some true=>match o.op with
  | .fieldAddr t x f=>(kx ops a0 l o x).map λv=>(t,v,f)
  | _=>none
 | _=>none
theorem MR(A:zR P ops a0 l i o->C i o)(b k:Nat)(h:XR ops a0 l o=some (t,v,f))(d:l.getD i rvN = .v (.pointer (some ⟨b,k,none⟩)))(p:bn C (i+1) r)(z:∀w,(Instr.fieldAt t v f).run P w = .ok (.pointer (some ⟨b,k,none⟩)) w:=by intro _;kernel_rfl):bn C i (o::r):=by
 refine⟨A ?_,p⟩;unfold XR at h;split at h
 ·rename_i u;split at h
  ·rename_i t' x D m;cases hx:kx ops a0 l o x with
   | none=>rw[hx]at h;cases h
   | some v'=>
    rw[hx]at h;cases h;exact zR.run u d λρ y w s=>Gg m (aH hx s) (z w)
  ·cases h
 ·cases h
theorem Gf(b k:Nat)(h:XR ops a0 l o=some (t,v,f))(d:l.getD i rvN = .v (.pointer (some ⟨b,k,none⟩)))(m:bn (pJ P ops a0 w0 (rvs l)) (i+1) r)(p:∀w,(Instr.fieldAt t v f).run P w = .ok (.pointer (some ⟨b,k,none⟩)) w:=by intro _;kernel_rfl):bn (pJ P ops a0 w0 (rvs l)) i (o::r):=MR zR.asked b k h d m p
theorem RG(A:zR P ops a0 l i o->C i o){n:Nat}(z:kg ops a0 l o=some true)(p:o.op = .call { callee:=.builtin .len,args:=#[x],argTypes:=#[t] })(d:kx ops a0 l o x=some (.slice a n c))(m:l.getD i rvN = .v (.int .i64 n))(s:bn C (i+1) r)(h:P.underlying t=some (.slice (P.elem t)):=by rfl):bn C i (o::r):=
 ⟨A (zR.run z m λρ y w u=>KL p (aH d u) h),s⟩
theorem Gn{n:Nat}(u:kg ops a0 l o=some true)(p:o.op = .call { callee:=.builtin .len,args:=#[x],argTypes:=#[t] })(d:kx ops a0 l o x=some (.slice a n c))(m:l.getD i rvN = .v (.int .i64 n))(s:bn (pJ P ops a0 w0 (rvs l)) (i+1) r)(h:P.underlying t=some (.slice (P.elem t)):=by rfl):bn (pJ P ops a0 w0 (rvs l)) i (o::r):=RG zR.asked u p d m s h
theorem Tt(D:zR P ops a0 l i o->C i o)(V:Value){op:BinOp}{y:Operand}(s:∀w,(do eqGuard op t x y vx vy;binOp op t vx vy:Sem Value).run P w = .ok V w)(A:kg ops a0 l o=some true)(u:o.op = .binOp op t x y t')(m:kx ops a0 l o x=some vx)(h:kx ops a0 l o y=some vy)(p:l.getD i rvN = .v V)(z:bn C (i+1) r):bn C i (o::r):=
 ⟨D (zR.run A p λρ y w d=>qC u (aH m d) (aH h d) (s w)),z⟩
theorem Gb(V:Value){op:BinOp}{y:Operand}(p:∀w,(do eqGuard op t x y vx vy;binOp op t vx vy:Sem Value).run P w = .ok V w)(z:kg ops a0 l o=some true)(s:o.op = .binOp op t x y t')(h:kx ops a0 l o x=some vx)(d:kx ops a0 l o y=some vy)(m:l.getD i rvN = .v V)(u:bn (pJ P ops a0 w0 (rvs l)) (i+1) r):bn (pJ P ops a0 w0 (rvs l)) i (o::r):=Tt zR.asked V p z s h d m u
theorem Xk(s:zR P ops a0 l i o->C i o)(V:Value)(h:∀ρ y w,Kn ops a0 l o ρ y w->(execOp ρ o).run P w = .ok (.value V) w)(p:kg ops a0 l o=some true)(d:l.getD i rvN = .v V)(m:bn C (i+1) r):bn C i (o::r):=⟨s (zR.run p d h),m⟩
section
variable {J:(Nat->Bool)->(Nat->Value)->World->Prop}
theorem Qk(d:∀L y w w',Below w.heap.size w w'->J L y w->J L y w')(h:(ks ops a0 l o).map RV.v=some (l.getD i rvN))(p:bn (ny P ops a0 J (rvs l)) (i+1) r)(m:∀L y v w,(∀j,o.after.toList.any (λe=>e.on==j)=true->L j=true)->J L y w->J (dS L i) (fG y i v) w:=by intro _ _ _ _ _ h;exact h):bn (ny P ops a0 J (rvs l)) i (o::r):=Ui (zR.askedQ d m) h p
theorem Qf(d:∀L y w w',Below w.heap.size w w'->J L y w->J L y w')(b k:Nat)(h:XR ops a0 l o=some (t,v,f))(m:l.getD i rvN = .v (.pointer (some ⟨b,k,none⟩)))(s:bn (ny P ops a0 J (rvs l)) (i+1) r)(p:∀L y v w,(∀j,o.after.toList.any (λe=>e.on==j)=true->L j=true)->J L y w->J (dS L i) (fG y i v) w:=by intro _ _ _ _ _ h;exact h)(u:∀w,(Instr.fieldAt t v f).run P w = .ok (.pointer (some ⟨b,k,none⟩)) w:=by intro _;kernel_rfl):bn (ny P ops a0 J (rvs l)) i (o::r):=MR (zR.askedQ d p) b k h m s u
theorem Qn(d:∀L y w w',Below w.heap.size w w'->J L y w->J L y w'){n:Nat}(D:kg ops a0 l o=some true)(z:o.op = .call { callee:=.builtin .len,args:=#[x],argTypes:=#[t] })(m:kx ops a0 l o x=some (.slice a n c))(s:l.getD i rvN = .v (.int .i64 n))(A:bn (ny P ops a0 J (rvs l)) (i+1) r)(u:∀L y v w,(∀j,o.after.toList.any (λe=>e.on==j)=true->L j=true)->J L y w->J (dS L i) (fG y i v) w:=by intro _ _ _ _ _ h;exact h)(p:P.underlying t=some (.slice (P.elem t)):=by rfl):bn (ny P ops a0 J (rvs l)) i (o::r):=RG (zR.askedQ d u) D z m s A p
theorem Qb(d:∀L y w w',Below w.heap.size w w'->J L y w->J L y w')(V:Value){op:BinOp}{y:Operand}(u:∀w,(do eqGuard op t x y vx vy;binOp op t vx vy:Sem Value).run P w = .ok V w)(E:kg ops a0 l o=some true)(A:o.op = .binOp op t x y t')(p:kx ops a0 l o x=some vx)(m:kx ops a0 l o y=some vy)(s:l.getD i rvN = .v V)(D:bn (ny P ops a0 J (rvs l)) (i+1) r)(z:∀L y v w,(∀j,o.after.toList.any (λe=>e.on==j)=true->L j=true)->J L y w->J (dS L i) (fG y i v) w:=by intro _ _ _ _ _ h;exact h):bn (ny P ops a0 J (rvs l)) i (o::r):=Tt (zR.askedQ d z) V u E A p m s D
theorem Qr(d:∀L y w w',Below w.heap.size w w'->J L y w->J L y w')(V:Value)(h:∀ρ y w,Kn ops a0 l o ρ y w->(execOp ρ o).run P w = .ok (.value V) w)(u:kg ops a0 l o=some true)(m:l.getD i rvN = .v V)(s:bn (ny P ops a0 J (rvs l)) (i+1) r)(p:∀L y v w,(∀j,o.after.toList.any (λe=>e.on==j)=true->L j=true)->J L y w->J (dS L i) (fG y i v) w:=by intro _ _ _ _ _ h;exact h):bn (ny P ops a0 J (rvs l)) i (o::r):=Xk (zR.askedQ d p) V h u m s
end
theorem Gr(V:Value)(h:∀ρ y w,Below w0.heap.size w0 w->Kn ops a0 l o ρ y w->(execOp ρ o).run P w = .ok (.value V) w)(z:kg ops a0 l o=some true)(s:l.getD i rvN = .v V)(u:bn (pJ P ops a0 w0 (rvs l)) (i+1) r):bn (pJ P ops a0 w0 (rvs l)) i (o::r):=
 ⟨λρ y w d m A p=>ak V (h:=FU z ⟨d,m,p⟩) (h ρ y w A ⟨d,m,p⟩) (m:=Ky s rfl),u⟩
def Xx(P:Program)(t:TypeId):Bool:=match P.underlying t with
 | some (.struct _)=>false
 | some (.array _ _)=>false
 | some _=>true
 | none=>false
theorem tH{w:World}(h:Xx P t=true)(m:w.cell? ⟨b,k,none⟩=some V):(loadVar t ⟨b,k,none⟩).run P w = .ok V w:=by
 unfold Xx at h;cases hu:P.underlying t with
 | none=>rw[hu]at h;cases h
 | some d=>
  have p:(isAgg t).run P w = .ok false w:=by unfold isAgg;rw[kY,run_underlying hu w];rw[hu]at h;cases d<;>first | rfl | cases h
  simp[loadVar,kY,p,go_sem,m]
theorem Gl(G:aG w0 b cs T)(s:cs.toList[k]?=some V)(E:kg ops a0 l o=some true)(A:o.op = .load t x)(p:kx ops a0 l o x=some (.pointer (some ⟨b,k,none⟩)))(z:l.getD i rvN = .v V)(D:bn (pJ P ops a0 w0 (rvs l)) (i+1) r)(u:Xx P t=true:=by kernel_rfl):bn (pJ P ops a0 w0 (rvs l)) i (o::r):=by
 refine⟨λρ y w d h H m=>ak V (h:=FU E ⟨d,h,m⟩) ?_ (m:=Ky z rfl),D⟩;have e:ρ x=_:=aH p ⟨d,h,m⟩;have F:w.cell? ⟨b,k,none⟩=some V:=by rw[(G.ext H).cell,<-uQ];exact s
 refine run_load A e ?_;simp only[Instr.loadAt,Instr.sureAddr,kY,rf,qV,tH u F]
theorem Gc(V:Value)(E:∀w,Below w0.heap.size w0 w->w.cell? ⟨b,k,none⟩=some V)(D:kg ops a0 l o=some true)(z:o.op = .load t x)(p:kx ops a0 l o x=some (.pointer (some ⟨b,k,none⟩)))(u:l.getD i rvN = .v V)(A:bn (pJ P ops a0 w0 (rvs l)) (i+1) r)(s:Xx P t=true:=by kernel_rfl):bn (pJ P ops a0 w0 (rvs l)) i (o::r):=by
 refine⟨λρ y w d h F m=>ak V (h:=FU D ⟨d,h,m⟩) ?_ (m:=Ky u rfl),A⟩;have e:ρ x=_:=aH p ⟨d,h,m⟩;refine run_load z e ?_;simp only[Instr.loadAt,Instr.sureAddr,kY,rf,qV,tH s (E w F)]
def revC:List Value->List Value->(List Value->Option (List Value))->Option (List Value)
 | [],r,k=>k r
 | a::l,r,k=>revC l (a::r) k
def ptC:List Value->Nat->Value->List Value->(List Value->Option (List Value))->Option (List Value)
 | [],_,_,acc,k=>revC acc [] k
 | _::l,0,v,acc,k=>revC acc (v::l) k
 | a::l,n+1,v,acc,k=>ptC l n v (a::acc) k
def zz(y:Nat->Value):List RV->List Oper->List Value->Option (List Value)
 | .v V::l,o::r,t=>match o.dst with
  | some d=>ptC t d V [] λt'=>zz y l r t'
  | none=>zz y l r t
 | .r j _::l,o::r,t=>match o.dst with
  | some d=>ptC t d (y j) [] λt'=>zz y l r t'
  | none=>zz y l r t
 | _,_,t=>some t
def idxOk:List RV->Nat->Bool
 | [],_=>true
 | .v _::l,i=>idxOk l (i+1)
 | .r j _::l,i=>(j==i)&&idxOk l (i+1)
theorem JV(k:List Value->Option (List Value)):∀(a r:List Value),revC a r k=k (a.reverse++r)
 | [],r=>rfl
 | x::a,r=>by rw[revC,JV k a];simp
theorem NI(k:List Value->Option (List Value)):∀(t:List Value) (n:Nat) (v:Value) (d:List Value),ptC t n v d k=k (d.reverse++t.set n v)
 | [],n,v,d=>by simp[ptC,JV]
 | x::t,0,v,d=>by simp[ptC,JV]
 | x::t,n+1,v,d=>by rw[ptC,NI k t];simp
theorem yf{y:Nat->Value}{w:World}{m:Nat}:∀(l:List RV) (r:List Oper) (k:Nat) (t:Array Value),idxOk l k=true->m=k+l.length->l.length<=r.length->(∀i,i<l.length->rl (rvs l) i (y (k+i)) w) ->
  zz y l r t.toList=some (lay (λi=>decide (i<m)) y r k t).toList
 | [],r,k,t,_,hm,_,_=>by
  have:zz y [] r t.toList=some t.toList:=by cases r<;>rfl
  rw[this];simp only[Aw,iK]at hm;subst hm;have c:∀(r:List Oper) (j:Nat) (t:Array Value),m<=j->lay (λi=>decide (i<m)) y r j t=t:=by
   intro r
   induction r with
   | nil=>intro j t _;rfl
   | cons o r ih=>
    intro j t p;simp only[lay];rw[ih (j+1) _ (by omega)];cases o.dst with
    | none=>rfl
    | some d=>simp[show ¬j<m by omega]
  rw[c r m t (az _)]
 | a::l,[],k,t,_,_,hle,_=>by simp at hle
 | a::l,o::r,k,t,hi,hm,hle,hR=>by
  have h:k<m:=by simp at hm;omega
  have b:∀i,i<l.length->rl (rvs l) i (y (k+1+i)) w:=λi z=>by have:=hR (i+1) (by simp;omega);rw[show k+1+i=k+(i+1) by omega];unfold rl at this ⊢;simpa[rvs]using this
  cases a with
  | v V=>
   have s:y k=V:=by have:=hR 0 (by simp);exact this
   have ih:=λt'=>yf (m:=m) (w:=w) l r (k+1) t' hi (by rw[qz]at hm;omega) (by simpa using hle) b;cases ho:o.dst with
   | none=>simp only[lay,ho,h,decide_true,if_true,zz,ih]
   | some d=>
    simp only[lay,ho,h,decide_true,if_true,zz,NI,s,List.reverse_nil,JR];rw[<-ih (t.setIfInBounds d V),DX]
  | r j R=>
   have p:j=k/\idxOk l (k+1)=true:=by have u : ((j==k)&&idxOk l (k+1))=true:=hi;simpa using u
   obtain⟨rfl,e⟩:=p;have ih:=λt'=>yf (m:=m) (w:=w) l r (j+1) t' e (by rw[qz]at hm;omega) (by simpa using hle) b;cases ho:o.dst with
   | none=>simp only[lay,ho,h,decide_true,if_true,zz,ih]
   | some d=>
    simp only[lay,ho,h,decide_true,if_true,zz,NI,List.reverse_nil,JR];rw[<-ih (t.setIfInBounds d (y j)),DX]
end
theorem aO{s:List Deferred}(m:Nat)(l:List RV)
 (d:bn (pJ P ops ⟨t0,s⟩ w0 (rvs l)) 0 (ops.toList.take m)) {tm:(Nat->Value)->List Value} (K:∀y,zz y l ops.toList t0.toList=some (tm y)) (M:wr (ops.toList.drop m)=some rest)
 (p:∀y w,Below w0.heap.size w0 w->(∀i,i<m->rl (rvs l) i (y i) w)->wpList P ops Q rest ⟨(tm y).toArray,s⟩ w)
 (G:P.follows .mixedOrders=true:=by kernel_rfl) (z:ko ops=true:=by kernel_rfl) (F:jh ops m=true:=by kernel_rfl) (A:m<=ops.size:=by decide) (H:l.length=m:=by rfl) (D:idxOk l 0=true:=by kernel_rfl)
 (u:lc ops t0.size=true:=by kernel_rfl):(Code.region id ops true).wp P Q ⟨t0,s⟩ w0:=by
 refine TG m (rvs l) G z F A _ rfl u d λy w N E => ?_;have h:=p y w N E;rw[Pe M];have e:=yf (m:=m) (y:=y) (w:=w) l ops.toList 0 t0 D (by omega) (by simp;omega) λi S=>by rw[eB];exact E i (by omega)
 show wpList P ops Q rest ⟨lay (λi=>decide (i<m)) y ops.toList 0 t0,s⟩ w;have R:=aM (e.symm.trans (K y));have O:lay (λi=>decide (i<m)) y ops.toList 0 t0=(tm y).toArray:=by rw[<-R]
 rw[O];exact h
theorem iH{u:List Deferred}(m:Nat)(l:List RV)(J:(Nat->Bool)->(Nat->Value)->World->Prop)(A:∀L y w w',Below w.heap.size w w'->J L y w->J L y w')(G:∀y,J (λ_=>false) y w0)
 (d:bn (ny P ops ⟨t0,u⟩ J (rvs l)) 0 (ops.toList.take m)) {tm:(Nat->Value)->List Value} (O:∀y,zz y l ops.toList t0.toList=some (tm y)) (R:wr (ops.toList.drop m)=some rest)
 (s:∀y w,J (λi=>decide (i<m)) y w->(∀i,i<m->rl (rvs l) i (y i) w)->wpList P ops Q rest ⟨(tm y).toArray,u⟩ w)
 (p:Fixed (rvs l):=by repeat (first | exact fix_nil | refine KE (λ_ _ _ h=>h) ?_))
 (M:P.follows .mixedOrders=true:=by kernel_rfl) (D:ko ops=true:=by kernel_rfl) (K:jh ops m=true:=by kernel_rfl) (E:m<=ops.size:=by decide) (N:l.length=m:=by rfl) (F:idxOk l 0=true:=by kernel_rfl)
 (z:lc ops t0.size=true:=by kernel_rfl):(Code.region id ops true).wp P Q ⟨t0,u⟩ w0:=by
 refine TI m (rvs l) J A G p M D K E _ rfl z d λy w S H => ?_;have h:=s y w S H;rw[Pe R];have e:=yf (m:=m) (y:=y) (w:=w) l ops.toList 0 t0 F (by omega) (by simp;omega) λi hi=>by rw[eB];exact H i (by omega)
 show wpList P ops Q rest ⟨lay (λi=>decide (i<m)) y ops.toList 0 t0,u⟩ w;have X:=aM (e.symm.trans (O y));have U:lay (λi=>decide (i<m)) y ops.toList 0 t0=(tm y).toArray:=by rw[<-X]
 rw[U];exact h
theorem Qg{w:World}{m:Nat}{l:List RV}(d:idxOk l 0=true)(p:l.length=m)(h:m<=ops.size)(u:∀i,i<m->rl (rvs l) i (y i) w)(s:zz y l ops.toList t0.toList=some tm):lay (λi=>decide (i<m)) y ops.toList 0 t0=tm.toArray:=by
 have e:=yf (m:=m) (y:=y) (w:=w) l ops.toList 0 t0 d (by omega) (by simp;omega) λi A=>by rw[eB];exact u i (by omega)
 have z:=aM (e.symm.trans s);rw[<-z]
def KM{α:Type}(P:Program)(t:TypeId)(enc:α->List Value)(good:α->Prop):Prop:=
 ∀(H:Type) (e:TypeId × Value->H) (w:World) (base:Nat) (spare:Nat->Bool) (held:Bool) (fuel:Nat) (cs:List Value) (x:DataW H × List MemPlace),
  DataW.trod e P w base spare held fuel t cs=some x->∃a:α,cs=enc a/\good a
theorem BP(d:P.underlying t=some (.int .i64)):KM P t (λn:Int=>[.int .i64 n]) i64:=by
 intro H e w base spare a fuel cs x h;obtain⟨n,rfl,_,m⟩:=DataW.trod_int d h;exact⟨n,rfl,bounds_i64 m⟩
theorem Te(d:P.underlying t=some (.int .u8)):KM P t (λb:UInt8=>[zS b]) (λ_=>True):=by
 intro H e w base spare a fuel cs x h;obtain⟨n,rfl,_,m⟩:=DataW.trod_int d h;have p:=bounds_u8 m;refine⟨UInt8.ofNat n.toNat,?_,trivial⟩;simp[zS];omega
theorem open_list{α:Type}{enc:α->List Value}{good:α->Prop}(ht:P.underlying t=some (.slice e))(ho:KM P e enc good)(s:∀x,(enc x).length=P.cellsOf e)
 {H:Type} {en:TypeId × Value->H} {w:World} {cs:List Value} {x:DataW H × List MemPlace} (h:DataW.trod en P w base spare held fuel t cs=some x) :
  ∃(a:Option Addr) (l:List α) (c:Nat),cs=[.slice a l.length c]/\l.length<=c/\c<=maxLen/\(a=none->c=0)/\eu w a (l.flatMap enc)/\∀y∈l,good y:=by
 rcases DataW.trod_slice ht h with⟨rfl,_⟩|⟨a,z,cap,N,rest,n,_,rfl,_,_,K,D,S,M,_⟩
 ·exact⟨none,[],0,rfl,az _,bq _,λ_=>rfl,eu.nil,λy G=>(by cases G)⟩
 have F:∀i,i<z->∃y:α,good y/\∀j u,(enc y)[j]?=some u->w.cell? ((a.add (i*P.cellsOf e)).add j)=some u:=by
  intro i A;have h1:=M i A;rw[aI (by omega)]at h1;obtain⟨cs',h2,h3⟩:=Option.bind_eq_some_iff.1 h1;obtain⟨y,rfl,G⟩:=ho H en w base spare held n cs' _ h3;refine⟨y,G,λj u E => ?_⟩;unfold World.cells? at h2;split at h2
  ·have h4:=mapM_some_get h2 j j (by
    have:j<(enc y).length:=by
     rcases gu j (enc y).length with h|h
     ·exact h
     ·simp[fH h]at E
    rw[s y]at this;simp[this])
   rw[E]at h4;exact h4
  ·cases h2
 have m:=CF good (λi y => ∀j u,(enc y)[j]?=some u->w.cell? ((a.add (i*P.cellsOf e)).add j)=some u) z F;obtain⟨l,rfl,hg,R⟩:=m;refine⟨some a,l,cap,rfl,K,D,λe=>(Option.some_ne_none _ e).elim,?_,hg⟩
 by_cases O:P.cellsOf e=0
 ·have:l.flatMap enc=[]:=by apply kV;rw[flat_len enc (P.cellsOf e) s l,O,Nat.mul_zero]
  rw[this];exact eu.nil
 intro k u U;have p:k<l.length*P.cellsOf e:=by
  rw[<-flat_len enc (P.cellsOf e) s l];rcases gu k (l.flatMap enc).length with h|h
  ·exact h
  ·simp[fH h]at U
 have A:k / P.cellsOf e<l.length:=Nat.div_lt_of_lt_mul (by rw[yt];exact p);have E:k%P.cellsOf e<P.cellsOf e:=rM _ (Nat.pos_of_ne_zero O);have f : k / P.cellsOf e*P.cellsOf e+k%P.cellsOf e=k:=by rw[yt];exact Nat.div_add_mod k _
 have g:(enc l[k / P.cellsOf e])[k%P.cellsOf e]?=some u:=by
  have h5:k%P.cellsOf e<(enc l[k / P.cellsOf e]).length:=by rw[s];exact E
  have h6:=flat_get enc (P.cellsOf e) s l _ A _ _ (aI h5);rw[f,U]at h6;rw[aI h5,h6]
 have h7:=R _ A _ u g;have d:a.spot=none:=by
  by_cases X:a.spot=none
  ·exact X
  exfalso
  -- the first cell of all is read at the address itself
  have h0:0<l.length:=Nat.lt_of_le_of_lt (bq _) A;have h9:0<(enc l[0]).length:=by rw[s];omega
  have o:=R 0 h0 0 _ (aI h9);simp only[vR,Addr.add,if_true]at o;have:=World.cell?_spot o;exact X this
 obtain⟨b,off,sp⟩:=a;subst d;refine⟨b,off,rfl,?_⟩;rw[qo,qo,ng,f]at h7;exact h7
open Go.ChangeShapes Go.WideShapes Go.ChangeAt
def zO{α:Type}(P:Program)(t:TypeId)(enc:α->List Value)(good:World->α->Prop):Prop:=
 ∀(H:Type) (e:TypeId × Value->H) (w:World) (base:Nat) (spare:Nat->Bool) (held:Bool) (fuel:Nat) (cs:List Value) (x:DataW H × List MemPlace),
  DataW.trod e P w base spare held fuel t cs=some x->∃a:α,cs=enc a/\good w a
theorem KM.w{α:Type}{enc:α->List Value}{good:α->Prop}(h:KM P t enc good):zO P t enc (λ_=>good):=h
def yG{α:Type}(P:Program)(fs:Array Field)(L k off:Nat)(enc:α->List Value)(good:World->α->Prop):Prop:=
 ∀(H:Type) (e:TypeId × Value->H) (w:World) (base:Nat) (spare:Nat->Bool) (held:Bool) (n:Nat) (cs:List Value) (xs:List (DataW H × List MemPlace)),cs.length=L->xs.length=fs.size ->
  (∀(i:Nat) (f:Field),fs[i]?=some f->DataW.trod e P w base spare held n f.type ((cs.drop f.offset).take (P.cellsOf f.type))=xs[i]?)->∃a:α,cs.drop off=enc a/\good w a
theorem Gi{fs:Array Field}{L:Nat}(h:L=off):yG P fs L k off (λ_:Unit=>[]) (λ_ _=>True):=by
 intro H e w base spare a n cs xs d _ _;exact⟨(),by rw[rA (by omega)],trivial⟩
theorem tQ{α β:Type}{fs:Array Field}{L:Nat}{f:Field}{enc:α->List Value}{good:World->α->Prop}{enc' : β->List Value}{good' : World->β->Prop}(m:fs[k]?=some f)(off': Nat)(p:f.offset=off)(F:zO P f.type enc good)(E:yG P fs L (k+1) off' enc' good')(s:off+P.cellsOf f.type=off':=by kernel_rfl):yG P fs L k off (λx:α × β=>enc x.1++enc' x.2) (λw x=>good w x.1/\good' w x.2):=by
 intro H e w base spare c n cs xs u d h;subst s;obtain⟨b,A,G⟩:=E H e w base spare c n cs xs u d h;have z:k<xs.length:=by rw[d];exact(iV.1 m).1
 have h2:=h k f m;rw[aI z,p]at h2;obtain⟨a,D,K⟩:=F H e w base spare c n _ _ h2;refine⟨(a,b),?_,K,G⟩;show _=enc a++enc' b;rw[<-D,<-A,<-List.drop_drop,rJ]
theorem JK{α:Type}{fs:Array Field}{enc:α->List Value}{good:World->α->Prop}(m:P.underlying t=some (.struct fs))(h:yG P fs (P.cellsOf t) 0 0 enc good):zO P t enc good:=by
 intro H e w base spare a fuel cs x d;obtain⟨xs,n,_,_,s,p,b⟩:=DataW.trod_struct m d;exact h H e w base spare a n cs xs s p b
theorem zO.of{α β:Type}{enc:α->List Value}{good:World->α->Prop}{enc' : β->List Value}{good' : World->β->Prop}(h:zO P t enc good)(g:α->β)(p:∀a,enc a=enc' (g a))(m:∀w a,good w a->good' w (g a)):zO P t enc' good':=by
 intro H e w base spare b fuel cs x d;obtain⟨a,s,u⟩:=h H e w base spare b fuel cs x d;exact⟨g a,by rw[s,p],m w a u⟩
end Pw
namespace Go.Proofs.YthihaopabbpalaaGreat
open Go.ChangeShapes Go.WideShapes Go.ChangeAt Go.RowKit Go.Maps Pw
variable {B B' b cap g n' off sz sz':Nat} {P:Program} {T T' e e':TypeId} {cs cs':Array Value} {v v':Value} {vs xs xs':List Value} {w w':World}
theorem mQ{n:Nat}(h:Own w B e sz v n xs)(g:Nat)(d:v.ownBlock=some g):∃cs,aG w g cs e:=by
 rcases h.2 with⟨rfl,_⟩|⟨s,off,cap,p,rfl,_,m,_⟩
 ·cases d
 cases d;exact⟨_,m⟩
theorem lI{n:Nat}(h:aG w b cs T)(d:Own w B e sz v n xs)(m:w.grownBy w' v.ownBlock)(s:T≠e:=by decide):aG w' b cs T:=
 h.grown m (λp=>own_ne d h s b p rfl)
theorem zY{n:Nat}(h:Own w B e sz v n xs)(m:Own w B' e' sz' v' n' xs')(s:w.grownBy w' v'.ownBlock)(z:e'≠e:=by decide):Own w' B e sz v n xs:=
 h.grown s (λg d u=>by obtain⟨cs,p⟩:=mQ m g u;exact own_ne h p z g d rfl)
theorem wH{n:Nat}(h:Own w B e sz v n xs)(d:aG w g cs T)(o:Nat)(u:Value)(m:T≠e:=by decide):Own (w.setCell ⟨g,o,none⟩ u) B e sz v n xs:=
 ax h d (p:=m) (aD w g o [u])
theorem cB(h:aG w b cs T)(m:aG w g cs' T')(d:w.grownBy w' (some g))(s:T'≠T:=by decide):aG w' b cs T:=
 h.grown d (λp=>by cases p;unfold aG at h m;rw[m]at h;simp only[jo,uj]at h;exact s h.2.1)
theorem xn(a b:Option Addr)(n c m e:Nat):(#[Value.slice a n c,Value.slice b m e]:Array Value).all (·.oneCell')=true:=by simp[Value.oneCell']
theorem nP{α:Type}{enc:α->List Value}(m:∀x,(enc x).length=sz){n:Nat}{l:List α}(s:l.length=n)(h:Own w B e sz v n (l.flatMap enc))(k:Nat)(u:k<n)(p:0<sz:=by decide) :
  ∃g off cap d,v = .slice (some ⟨g,off,none⟩) n cap/\B<=g/\aG w g d e/\off+k*sz+sz<=d.size /\
   ∀w' x,aG w' g (bH d (off+k*sz) (enc x)) e->Own w' B e sz v n ((l.set k x).flatMap enc):=by
 subst s;obtain⟨g,off,cap,d,E,h2,D,A,_,z⟩:=h.put m p k u;exact⟨g,off,cap,d,E,h2,D,A,z⟩
theorem nY{a b c:World}{row:Option Nat}(h:a.grownBy b row)(k:b.grownBy c row):a.grownBy c row:=
 World.grownBy.andThen h k (λj d => .inr d)
theorem lJ{n:Nat}(h:Own w B e sz v n xs)(d:w.grownBy w' none):Own w' B e sz v n xs:=h.grown d (by simp)
theorem uV(w:World)(t e ty:TypeId)(z:Value)(sz h:Nat)(F:P.underlying t=some (.slice e))(s:(P.info? e).map (λi=>(i.zero,i.size,i.bytes))=some (some z,sz,h))(H:∀u∈z.cells.toList,u.oneCell' = true)(K:0<z.cells.size)
 (b o n c:Nat) (M:0<n) (d:Array Value) (T:TypeId) (A:aG w b d T) (D:o+n*z.cells.size<=d.size) :
  (Builtin.clear_ #[t] ty #[.slice (some ⟨b,o,none⟩) n c]).run P w = .ok (.tuple #[]) (w.setCells b o (Builtin.zeroCells z.cells n).toList):=by
 have N:(Builtin.zeroCells z.cells n).toList.length=n*z.cells.size:=by simp[Builtin.zeroCells]
 have a:=run_storeCells_cells (P:=P) b o (Builtin.zeroCells z.cells n).toList 0 w
  (λj G=>by rw[iK,A.cell];simp[show o+j<d.size by omega]) (λj G=>A.free _)
  (λv p=>by simp only[Builtin.zeroCells,Array.toList_map,iA]at p;obtain⟨i,_,rfl⟩:=p;have:i%z.cells.size<z.cells.size:=rM _ K;rw[getElem!_pos z.cells _ this];exact H _ (by simp))
 simp only[iK]at a;obtain⟨m,rfl⟩:∃m,n=m+1:=⟨n-1,by omega⟩;have p:∀w,(zeroValue e).run P w = .ok z w:=by
  intro w;cases hq:P.info? e with
  | none=>simp[hq]at s
  | some i=>
   have E:i.zero=some z:=by simp[hq]at s;exact s.1
   simp[zeroValue,typeInfo,run_program,hq,E]
 simp[Builtin.clear_,run_underlying F,p,a]
theorem Pp{α:Type}{enc:α->List Value}(m:∀x,(enc x).length=sz){l:List α}{n:Nat}(h:Own w B e sz (.slice (some ⟨g,off,none⟩) n cap) n (l.flatMap enc))(i:Nat)(z:l.length=n)(O:i<=n)
 (D:∀d,aG w g d e->aG w' g (bH d (off+i*sz) vs) e):Own w' B e sz (.slice (some ⟨g,off,none⟩) (l.take i).length cap) (l.take i).length ((l.take i).flatMap enc):=by
 subst z;obtain⟨z,h⟩:=h;rcases h with⟨N,_⟩|⟨S,s,A,d,E,M,K,R,H,G,F⟩
 ·cases N
 cases E;have b:(l.take i).length=i:=by simp;omega
 refine⟨by rw[Pw.flat_len enc sz m],.inr ⟨g,off,cap,_,rfl,M,D d K,by omega,H,by rw[size_putAt];exact G,λj u p => ?_⟩⟩;have c : j<i*sz:=by
  rcases gu j (i*sz)with h|h
  ·exact h
  rw[fH (by rw[Pw.flat_len enc sz m,b];exact h)]at p;cases p
 rw[putAt_out _ _ _ _ (.inl (by omega))];refine F j u ?_;have a:l.flatMap enc=(l.take i).flatMap enc++(l.drop i).flatMap enc:=by rw[<-fM,rJ]
 rw[a,kN (by rw[Pw.flat_len enc sz m,b];exact c)];exact p
theorem AP{α:Type}{enc:α->List Value}(d:∀x,(enc x).length=sz){n:Nat}{l:List α}(G:l.length=n)(h:Own w B e sz v n (l.flatMap enc))(k:Nat)(H:k<n)(j:Nat)(u:Value)(x:α)(A:enc x=(enc (l[k]'(by omega))).set j u)(E:0<sz:=by decide)(O:j<sz:=by decide) :
  ∃g off cap,v = .slice (some ⟨g,off,none⟩) n cap/\B<=g/\g<w.heap.size/\(∃cs,aG w g cs e)/\(∀i y,(enc (l[k]'(by omega)))[i]?=some y->w.cell? ⟨g,off+k*sz+i,none⟩=some y)/\w.frozen? ⟨g,off+k*sz+j,none⟩=false /\
   Own (w.setCell ⟨g,off+k*sz+j,none⟩ u) B e sz v n ((l.set k x).flatMap enc):=by
 subst G;obtain⟨g,off,cap,z,N,h2,s,S,D,M⟩:=h.put d E k H;refine⟨g,off,cap,N,h2,s.lt,⟨_,s⟩,D,s.free _,M _ x ?_⟩;have K:bH z (off+k*sz) (enc x)=z.setIfInBounds (off+k*sz+j) u:=by
  apply mI;intro i
  by_cases R:off+k*sz<=i/\i<off+k*sz+sz
  ·obtain⟨m,rfl⟩:∃m,i=off+k*sz+m:=⟨i-(off+k*sz),by omega⟩;have F:m<(enc x).length:=by rw[d];omega
   rw[putAt_in _ _ _ m (enc x)[m] (by rw[d];omega) (aI F)]
   by_cases p:m=j
   ·subst p;rw[sW (by omega)];simp[A]
   rw[gZ (by omega)];have a : m<(enc l[k]).length:=by rw[d];omega
   have:=D m (enc l[k])[m] (aI a);rw[s.cell]at this;rw[this];simp[A,Dj (λe=>p e.symm)]
  ·rw[putAt_out _ _ _ _ (by rw[d];omega),gZ (by omega)]
 rw[K];exact s.setCell _ _
theorem UL{o:Nat}(h:w.cell? ⟨b,o,none⟩=some v):b<w.heap.size:=by
 rcases gu b w.heap.size with d|d
 ·exact d
 ·simp[World.cell?,mM d]at h
theorem Oo{H:Type}{k:TypeId}{R:Value->Option (DataW H × List MemPlace)}{n:Nat}{D:DataW H}(h:w.ownsMap P k R b n D)(p:Below w.heap.size w w'):w'.ownsMap P k R b n D:=by
 have m:=h.lt;obtain⟨u,d,s,r⟩:=h;exact⟨u,d,(p.block b m).trans s,r⟩
end Go.Proofs.YthihaopabbpalaaGreat