import Derived.WalkKit
import Derived.ProofKit
import Derived.SizedLaws
import Derived.Maps.Own
import Derived.WalkSpells
import Derived.WalkLawsBesides
import Derived.ArgAppend
import Derived.Deep.MidRow
import Derived.Deep.Slices
import Derived.Laws.AppendOwnNone
import Derived.Laws.CopyOwn
import Derived.Laws.OwnMore
import Derived.Lib.Hide
import Derived.Maps.Range
import Derived.Maps.Views
import Derived.OpenShut
import Derived.Orders
import Derived.OwnWalk
set_option linter.unusedSimpArgs false
set_option linter.unusedVariables false
set_option linter.unnecessarySimpa false
set_option linter.defProp false
set_option maxHeartbeats 4000000
set_option maxRecDepth 100000
namespace Pw
def ae :=@Go.Lib.hid
def az :=@Nat.le_refl
def aF :=@List.getElem?_eq_getElem
def aM :=@Option.some.inj
def aY :=@List.getD_eq_getElem?_getD
def bi :=@Nat.le_trans
def bq :=@Nat.zero_le
def bB :=@List.mem_singleton
def bQ :=@List.map_cons
def aZ :=@List.map_nil
def bu :=@Int.toNat_natCast
def bI :=@Go.IntWalk.i64_in
def bL :=@List.length_set
def bS :=@List.mem_of_getElem?
def bW :=@List.map_toArray
def cz :=@List.getElem?_eq_some_iff
def dh :=@Array.getD_eq_getD_getElem?
def dx :=@List.mem_cons
def dG :=@List.mem_range
def dW :=@Bool.and_eq_true
def dV :=@List.length_map
def eu :=@List.getElem_mem
def ed :=@Nat.zero_add
def eU :=@List.mem_map
def eY :=@List.getElem?_eq_none
def fq :=@Nat.not_lt_zero
def fA :=@List.all_eq_true
def fI :=@List.flatMap_append
def gu :=@Nat.lt_or_ge
def gH :=@List.mem_append
def ib :=@Array.getElem?_setIfInBounds_ne
def gW :=@List.not_mem_nil
def iM :=@List.mem_cons_self
def iO :=@List.length_take
def iL :=@Int.eq_ofNat_of_zero_le
def iP :=@Nat.add_zero
def iV :=@List.getElem?_map
def iX :=@Array.getElem?_eq_some_iff
def jk :=@List.length_append
def jm :=@Array.length_toList
def jD :=@List.take_of_length_le
def jA :=@Option.some.injEq
def jM :=@List.mem_iff_getElem
def jK :=@List.any_eq_true
def jJ :=@List.map_append
def jN :=@List.append_assoc
def jW :=@List.mem_cons_of_mem
def jU :=@List.getElem?_append_right
def jV :=@List.mem_flatMap
def kL :=@List.length_replicate
def kK :=@List.getElem?_append_left
def kU :=@List.eq_nil_of_length_eq_zero
def kY :=@Go.Sem.run_bind
def lF :=@List.length_cons
def lU :=@List.mem_or_eq_of_mem_set
def lQ :=@Bool.true_and
def lS :=@Nat.succ.inj
def mg :=@List.getElem?_take
def mI :=@Array.ext_getElem?
def mP :=@Array.getElem?_eq_none
def mO :=@Array.all_toList
def mK :=@Go.Value.slice.injEq
def mH :=@Bool.false_and
def nC :=@Bool.eq_iff_iff
def ni :=@Go.Lib.run_eql_slice_nil
def ny :=@Bool.and_false
def nR :=@List.take_add_one
def oq :=@List.getElem?_set
def nV :=@Nat.add_assoc
def nY :=@List.ext_getElem?
def ou :=@List.filter_cons
def nX :=@List.flatMap_cons
def nZ :=@Array.mem_toList_iff
def pu :=@Ne.symm
def oJ :=@Bool.and_true
def oL :=@Nat.lt_of_lt_of_le
def oZ :=@List.append_nil
def oU :=@Go.Value.slice.inj
def qa :=@List.getElem?_replicate
def qg :=@List.mem_append_left
def qo :=@Go.Addr.add_lit
def qh :=@Option.getD_some
def qY :=@Vector.getElem_ofFn
def qZ :=@List.ext_getElem
def ru :=@List.find?_eq_none
def qQ :=@List.getElem?_drop
def rf :=@Classical.not_not
def rA :=@Go.Result.andThen_ok
def qR :=@Go.Sem.run_pure
def qX :=@List.drop_eq_nil_of_le
def qV :=@List.getElem?_cons_zero
def sQ :=@Array.getElem?_setIfInBounds_self_of_lt
def uU :=@Bool.false_eq_true
def uX :=@List.any_eq_false
def uQ :=@List.mem_append_right
def uO :=@List.mem_filter
def uY :=@Nat.add_mul
def uZ :=@Array.getElem?_toList
def uH :=@Nat.mul_le_mul_right
def qy :=@Bool.or_eq_true
def qD :=@List.set_cons_zero
def qE :=@List.countP_cons
def qx :=@Nat.sub_self
def sj :=@List.findIdx?_eq_some_iff_getElem
def rP :=@List.filter_append
def rQ :=@Nat.mod_eq_of_lt
def rR :=@List.mem_of_find?_eq_some
def rV :=@Decidable.byContradiction
def rY :=@Option.map_some
def rT :=@List.getElem?_range
def rX :=@List.take_append_drop
def su :=@Array.getElem?_replicate
def rZ :=@Nat.le_of_lt
def rJ :=@List.length_range
def uB :=@Nat.mod_lt
def uw :=@List.getElem?_set_ne
def uD :=@List.nodup_cons
def ul :=@Int.le_refl
def ut :=@List.find?_some
def ui :=@Go.Addr.mk.injEq
def uy :=@Bool.not_eq_true'
def uu :=@Nat.mul_one
def uj :=@Go.Obj.cells.injEq
def uz :=@Nat.min_eq_left
def ug :=@Nat.eq_zero_or_pos
def uf :=@List.set_cons_succ
def uA :=@List.pairwise_cons
def vU :=@List.findIdx?_eq_none_iff
def wy :=@List.getElem?_set_self
def vY :=@List.drop_eq_getElem_cons
def wJ :=@List.nodup_append
def vS :=@Nat.zero_mul
def wC :=@Nat.lt_or_gt_of_ne
def wR :=@List.getElem_map
def wu :=@List.set_getElem_self
def ww :=@List.countP_map
def vT :=@Classical.byContradiction
def xV :=@List.countP_pos_iff
def yf :=@List.range_succ
def yL :=@Vector.ext
def yw :=@Vector.getElem_set_ne
def xZ :=@Go.Calls.mono
def yt :=@Nat.mul_comm
def yl :=@List.countP_eq_zero
def yG :=@List.countP_le_length
def xU :=@List.getElem?_toArray
def yz :=@List.getElem?_cons_succ
def yB :=@List.take_length
def yx :=@List.drop_succ_cons
def xY :=@List.drop_nil
def ym :=@Go.Value.agg.injEq
def yh :=@List.sum_cons
def yj :=@List.nodup_range
def yJ :=@List.mem_insertIdx
def zL :=@List.length_filter_le
def AP :=@List.map_congr_left
def Am :=@List.foldl_cons
def zJ :=@List.findIdx?_cons
def Bc :=@Nat.add_sub_cancel_left
def Ag :=@Array.getElem?_eq_getElem
def Ab :=@Array.mem_of_getElem?
def Bg :=@Option.bind_some
def Br :=@Nat.one_mul
def Ak :=@List.setIfInBounds_toArray
def AA :=@List.drop_zero
def Al :=@Array.getElem?_setIfInBounds
def AV :=@List.map_set
def AX :=@List.length_drop
def AO :=@List.length_eraseIdx_of_lt
def Ah :=@List.countP_eq_length_filter
def Aq :=@List.length_flatMap
def Af :=@List.pairwise_iff_getElem
def Dg :=@Array.toList_setIfInBounds
def Dh :=@List.getElem_cons_succ
def DI :=@List.foldl_append
def Eh :=@Bool.or_eq_false_iff
def DC :=@List.getElem_set
def Ed :=@Nat.add_mod_right
def DZ :=@List.getLast?_concat
def Ec :=@List.length_singleton
def Dl :=@List.mem_replicate
def Di :=@List.length_eq_zero_iff
def El :=@List.getElem_cons_zero
def Ea :=@Nat.le_of_eq
def De :=@Nat.succ_mul
def Dw :=@List.getElem_set_ne
def Db :=@List.countP_append
def DW :=@List.length_nil
def DJ :=@List.set_set
def Eb :=@List.flatMap_map
def Dx :=@List.mem_map_of_mem
def Df :=@Nat.not_lt
def Dn :=@Int.toNat_of_nonneg
def Dk :=@Bool.not_or
def Dm :=@List.insertIdx_succ_cons
def Ee :=@Nat.min_def
def Dq :=@Array.size_push
def DN :=@List.Nodup.length_le_of_subset
def DU :=@List.Nodup.sublist
def DT :=@List.filter_sublist
def IQ :=@List.cons_append
def IL :=@Option.map_none
def IY :=@Bool.and_eq_false_iff
def Jb :=@Nat.add_comm
def Jo :=@Go.World.grownBy.refl
def Jv :=@Go.World.ownsRow_nil
def Je :=@List.getElem_range
def JQ :=@List.mem_filterMap
def JC :=@List.nil_append
def Ja :=@List.getElem_set_self
def Jt :=@Int.natCast_emod
def Jp :=@Bool.or_true
def Jm :=@List.countP_filter
def JH :=@Function.comp_apply
def IA :=@Bool.eq_false_iff
def JL :=@Prod.mk.injEq
def Iz :=@List.sum_append
def Jy :=@Nat.mul_succ
def Jd :=@Int.ofNat_inj
open Go Go.RowKit
abbrev Page:=Vector UInt8 8
theorem Sc(p q:Page):(p==q)=((p[0]==q[0])&&(p[1]==q[1])&&(p[2]==q[2])&&(p[3]==q[3])&&(p[4]==q[4])&&(p[5]==q[5])&&(p[6]==q[6])&&(p[7]==q[7])):=by
 rw[nC];simp only[beq_iff_eq,dW];constructor
 .rintro rfl;simp
 rintro⟨⟨⟨⟨⟨⟨⟨D,A⟩,h2⟩,z⟩,u⟩,s⟩,m⟩,d⟩
 ext i hi
 match i,hi with
 | 0,_=>rw[D]
 | 1,_=>rw[A]
 | 2,_=>rw[h2]
 | 3,_=>rw[z]
 | 4,_=>rw[u]
 | 5,_=>rw[s]
 | 6,_=>rw[m]
 | 7,_=>rw[d]
 | n+8,h=>omega
theorem WI(a b:UInt8):((a.toNat:Int)==(b.toNat:Int))=(a==b):=by
 rw[nC];simp only[beq_iff_eq,Int.natCast_inj,UInt8.toNat_inj]
def iK(p:Page)(a:Int)(k:Nat):Page:=Vector.ofFn λi:Fin 8=>if a<=(i.val:Int)/\i.val<k then 0 else p[i.val]
def dw(p:Page)(a:Int):Page:=Vector.ofFn λi:Fin 8=>if a<=(i.val:Int)then 0 else p[i.val]
theorem yg(p:Page)(a:Int)(k:Nat)(h:8<=k):iK p a k=dw p a:=by
 ext i hi
 simp only[iK,dw,qY];have d:i<k:=by omega
 simp[d]
theorem KL(p:Page)(a:Int)(k:Nat)(h:k=a.toNat):iK p a k=p:=by
 ext i hi
 simp only[iK,qY];rw[if_neg (by omega)]
theorem yV(p:Page)(a:Int)(k:Nat)(h:k<8)(d:a<=k):(iK p a k).set k 0=iK p a (k+1):=by
 ext i hi
 simp only[iK,qY,Vector.getElem_set]
 by_cases e:k=i
 .subst e;simp[d]
 simp only[e,if_false]
 by_cases c:a<=(i:Int)/\i<k
 .rw[if_pos c,if_pos ⟨c.1,by omega⟩]
 .rw[if_neg c,if_neg (by omega)]
def dQ(L:Nat->Bool)(i:Nat):Nat->Bool:=λk=>if k=i then true else L k
def wr{α:Type}:List α->Option (List α)
 | []=>some []
 | a::r=>some (a::r)
theorem OJ{α:Type}{a b:List α}(h:wr a=some b):a=b:=by cases a<;>cases h<;>rfl
def i64(n:Int):Prop:=-9223372036854775808<=n/\n<=9223372036854775807
theorem Cs{α:Type}(good:α->Prop)(R:Nat->α->Prop):∀(d:Nat),(∀i,i<d->∃y:α,good y/\R i y)->∃l:List α,l.length=d/\(∀y∈l,good y)/\∀i (p:i<l.length),R i l[i]
 | 0,_=>⟨[],rfl,λy u=>(by cases u),λi p=>absurd p (fq _)⟩
 | d+1,key=>by
  obtain⟨l,D,F,E⟩:=Cs good R d (λi p=>key i (by omega));obtain⟨y,u,s⟩:=key d (by omega);refine⟨l++[y],by simp[D],?_,?_⟩
  .intro z h;rcases gH.1 h with h|h
   .exact F z h
   .rw[bB.1 h];exact u
  intro i p
  by_cases m:i<l.length
  .rw[List.getElem_append_left m];exact E i m
  have A : i=d:=by simp at p;omega
  subst A;rw[List.getElem_append_right (by omega)];simpa[D]using s
end Pw
namespace Go.Proofs.YthihaopabbpalaaGreat
open Go.ChangeShapes Go.WideShapes Go.ChangeAt Go.RowKit Go.Maps Pw
variable {k:Nat}
theorem mM{n:Nat}{P:∀i,i<n->Prop}(m:∀i (h:i<n),i<k->P i h)(d:k<n)(p:P k d):∀i (h:i<n),i<k+1->P i h:=by
 intro i h s
 by_cases e:i=k
 .subst e;exact p
 .exact m i h (by omega)
theorem XT{α:Type}{l m:List α}(k:Nat)(h:k<l.length)(h' : k<m.length)(d:l[k]≠m[k]):l≠m:=by rintro rfl;exact d rfl
theorem Xj{α:Type}{l m:List α}(d:l.length=m.length)(k:Nat)(s:¬k<l.length)(h:∀i (h:i<l.length),i<k->l[i]=m[i]'(by omega)):l=m:=
 qZ d λi p h2=>h i p (by omega)
theorem XB{α:Type}{l m:List α}(s:l.length=m.length)(u:k<l.length)(h:∀i (h:i<l.length),i<k->l[i]=m[i]'(by omega))(d:l[k]=m[k]'(by omega)):∀i (h:i<l.length),i<k+1->l[i]=m[i]'(by omega):=by
 intro i p h2
 by_cases e:i=k
 .subst e;exact d
 .exact h i p (by omega)
end Go.Proofs.YthihaopabbpalaaGreat
namespace Pw
open Go Go.RowKit
variable {fuel i q:Nat} {l:List Int}
theorem yn{d:Array Bool}(p:i<d.size)(q:Nat)(m:d.getD q false=true):(d.setIfInBounds i true).getD q false=true:=by
 by_cases h:q=i
 .subst h;simp[dh,p]
 .simpa[dh,ib (pu h)]using m
theorem sF{d:Array Bool}(h:q≠i):(d.setIfInBounds i true).getD q false=d.getD q false:=by
 simp[dh,ib (pu h)]
theorem Md{d:Array Bool}(h:i<d.size):(d.setIfInBounds i true).getD i false=true:=by
 simp[dh,h]
theorem EZ{h:Array Bool}(m:i<h.size)(s:h.getD i true=false)(u:h.toList.countP (!·)<=fuel+1):(h.setIfInBounds i true).toList.countP (!·)<=fuel:=by
 have c:i<h.toList.length:=by simp;omega
 have b:h.toList[i]=false:=by simpa[dh,m]using s
 have:=List.countP_set (p:=(!·)) (l:=h.toList) (i:=i) (a:=true) c;rw[b]at this;have d:0<h.toList.countP (!·):=xV.2 ⟨h.toList[i],eu c,by rw[b];rfl⟩;simp only[Dg];simp only[Bool.not_false,Bool.not_true,if_true,uU,if_false]at this;omega
open Go.ChangeShapes Go.WideShapes Go.ChangeAt
def firstE:List Int->Int
 | []=>0
 | x::r=>if x=0 then firstE r else x
theorem CE(h:∀i (d:i<l.length),l[i]=0):firstE l=0:=by
 induction l with
 | nil=>rfl
 | cons x r ih=>
  have m:=h 0 (by simp);simp at m;simp only[firstE,m,if_true];exact ih λi d=>by have:=h (i+1) (by simpa using d);simpa using this
theorem yR(k:Nat)(m:k<l.length)(h:∀i (p:i<l.length),i<k->l[i]=0)(d:l[k]≠0):firstE l=l[k]:=by
 induction l generalizing k with
 | nil=>simp at m
 | cons x r ih=>
  cases k with
  | zero=>simp at d;simp[firstE,d]
  | succ k=>
   have s:=h 0 (by simp) (by omega);simp at s;simp only[firstE,s,if_true,Dh];exact ih k (by simpa using m) (λi p a=>by have:=h (i+1) (by simpa using p) (by omega);simpa using this) (by simpa using d)
theorem filter_all{α:Type}(p q:α->Bool)(l:List α):(l.filter p).all (λe => !p e||q e)=l.all (λe => !p e||q e):=by
 induction l with
 | nil=>rfl
 | cons x l ih=>
  cases hp:p x
  .rw[List.filter_cons_of_neg (by simp[hp]),ih];simp[hp]
  .rw[List.filter_cons_of_pos (by simp[hp])];simp[hp,ih]
end Pw
namespace Go.Proofs.YthihaopabbpalaaGreat
open Go.RowKit Pw
variable {I K b c i j k q r:Nat} {file index lo n:Int} {l:List Int}
def idx{α:Type}(f:α->Bool)(l:List α):Int:=match l.findIdx? f with
 | some k=>k
 | none => -1
theorem uJ{α:Type}(f:α->Bool)(l:List α)(k:Nat)(h:k<l.length)(d:∀i (h:i<l.length),i<k->f l[i]=false)(m:f l[k]=true):idx f l=k:=by
 unfold idx;rw[sj.2 ⟨h,m,λj p=>by simpa using d j (by omega) p⟩]
theorem mr{α:Type}(f:α->Bool)(l:List α)(m:∀i (h:i<l.length),f l[i]=false):idx f l = -1:=by
 unfold idx;rw[vU.2 λx d=>by obtain⟨i,p,rfl⟩:=jM.1 d;exact m i p]
theorem BS{α:Type}(f:α->Bool)(l:List α):(idx f l = -1/\∀i (h:i<l.length),f l[i]=false)\/∃k:Nat,∃h:k<l.length,idx f l=k/\f l[k]=true/\∀i (h:i<l.length),i<k->f l[i]=false:=by
 unfold idx;cases e:l.findIdx? f with
 | none=>exact .inl ⟨rfl,λi h=>vU.1 e _ (eu h)⟩
 | some k=>
  obtain⟨h,m,d⟩:=sj.1 e;exact .inr ⟨k,h,rfl,m,λi _ p=>by simpa using d i p⟩
theorem pK{α:Type}(f:α->Bool)(l:List α):decide (0<=idx f l)=l.any f:=by
 rcases BS f l with⟨e,h⟩|⟨k,m,e,h,_⟩
 .rw[e];symm;simp only[show decide ((0:Int)<=-1)=false from rfl,uX];intro x d;obtain⟨i,p,rfl⟩:=jM.1 d;simpa using h i p
 rw[e];symm;simp only[show decide ((0:Int)<=(k:Int))=true from by simp,jK];exact⟨_,eu m,h⟩
theorem upto{n:Nat}{P:∀i,i<n->Prop}(m:∀i (h:i<n),i<k->P i h)(d:k<n)(p:P k d):∀i (h:i<n),i<k+1->P i h:=by
 intro i h s
 by_cases e:i=k
 .subst e;exact p
 .exact m i h (by omega)
open Go.Maps
structure Xz (D:DataW Unit) (f:Int->Bool):Prop where
 is:IsMap D
 at_:∀j:Int,D.atKey (.int .i64 j) (.lit (.bool false)) = .lit (.bool (f j))
theorem Xz.empty:Xz (.map []) (λ_=>false):=⟨isMap_empty,λj=>rfl⟩
theorem Xz.put{D:DataW Unit}{f:Int->Bool}(h:Xz D f)(k:Int):Xz (D.put (.int .i64 k) (.lit (.bool true))) (λj=>f j||decide (j=k)):=by
 refine⟨h.is.put _ _,λj => ?_⟩
 by_cases e:j=k
 .subst e;rw[atKey_put_same h.is (by trivial)];simp
 rw[atKey_put_other (by intro d;exact e (by cases d;rfl)),h.at_ j];simp[e]
def fw(n:Int):Int:=if n<=0 then 0 else(n-1) / 8+1
def rU(n:Int):Bool:=decide (n<0)||decide (1000<n)
def dH(l:List Int):Int:=if 60<l.length then 4 else if l.any rU then 3 else 0
def JY(n:Int):Bool:=n==0
def Po(n:Int):List Int:=if 0<=n/\n<=60 then List.replicate n.toNat 0 else[]
theorem RA(l:List Int)(k:Nat)(p:k<l.length)(d:dH l=0):0<=l[k]/\l[k]<=1000:=by
 unfold dH at d;split at d
 .omega
 split at d
 .omega
 rename_i h;have m:rU l[k]=false:=by have:=uX.1 (by simpa using h) _ (eu p);simpa using this
 simp[rU]at m;exact m
theorem lu(h:dH l=0):l.length<=60:=by
 unfold dH at h;split at h
 .omega
 .omega
def ja(l:List Int)(n:Int):Int:=if dH l≠0 then dH l else if n<1\/1000<n then 3 else if idx JY l<0 then 10 else 0
def kI(l:List Int)(n:Int):Int:=if ja l n=0 then idx JY l else 0
def ng(l:List Int)(n:Int):List Int:=if ja l n=0 then l.set (idx JY l).toNat n else[]
theorem Nj(n:Int)(h:dH l≠0):ja l n=dH l/\kI l n=0/\ng l n=[]:=by
 have:ja l n=dH l:=by unfold ja;rw[if_pos h]
 exact⟨this,by unfold kI;rw[this,if_neg h],by unfold ng;rw[this,if_neg h]⟩
theorem Og(d:dH l=0)(h:n<1\/1000<n):ja l n=3/\kI l n=0/\ng l n=[]:=by
 have:ja l n=3:=by unfold ja;rw[if_neg (by omega),if_pos h]
 exact⟨this,by unfold kI;rw[this];rfl,by unfold ng;rw[this];rfl⟩
theorem NN(m:dH l=0)(h:1<=n/\n<=1000)(d:idx JY l = -1):ja l n=10/\kI l n=0/\ng l n=[]:=by
 have:ja l n=10:=by unfold ja;rw[if_neg (by omega),if_neg (by omega),if_pos (by omega)]
 exact⟨this,by unfold kI;rw[this];rfl,by unfold ng;rw[this];rfl⟩
theorem PE(m:dH l=0)(h:1<=n/\n<=1000)(d:idx JY l=k):ja l n=0/\kI l n=k/\ng l n=l.set k n:=by
 have:ja l n=0:=by unfold ja;rw[if_neg (by omega),if_neg (by omega),if_neg (by omega)]
 exact⟨this,by unfold kI;rw[this,if_pos rfl,d],by unfold ng;rw[this,if_pos rfl,d];rfl⟩
def Gd(l:List Int)(k:Int):Int:=l.getD k.toNat 0
def dC(l:List Int)(k n:Int):Int:=if dH l≠0 then dH l else if k<0\/l.length<=k\/Gd l k=0 then 5 else if n < -Gd l k\/1000-Gd l k<n then 3 else 0
def cB(l:List Int)(k n:Int):List Int:=if dC l k n=0 then l.set k.toNat (Gd l k+n)else[]
theorem Na(k n:Int)(h:dH l≠0):dC l k n=dH l/\cB l k n=[]:=by
 have:dC l k n=dH l:=by unfold dC;rw[if_pos h]
 exact⟨this,by unfold cB;rw[this,if_neg h]⟩
theorem Hz{k:Int}(d:dH l=0)(h:k<0\/l.length<=k\/Gd l k=0):dC l k n=5/\cB l k n=[]:=by
 have:dC l k n=5:=by unfold dC;rw[if_neg (by omega),if_pos h]
 exact⟨this,by unfold cB;rw[this];rfl⟩
theorem Nr{k:Int}(m:dH l=0)(h:¬(k<0\/l.length<=k\/Gd l k=0))(d:n < -Gd l k\/1000-Gd l k<n):dC l k n=3/\cB l k n=[]:=by
 have:dC l k n=3:=by unfold dC;rw[if_neg (by omega),if_neg h,if_pos d]
 exact⟨this,by unfold cB;rw[this];rfl⟩
theorem Rb{k:Int}(m:dH l=0)(h:¬(k<0\/l.length<=k\/Gd l k=0))(d:¬(n < -Gd l k\/1000-Gd l k<n)):dC l k n=0/\cB l k n=l.set k.toNat (Gd l k+n):=by
 have:dC l k n=0:=by unfold dC;rw[if_neg (by omega),if_neg h,if_neg d]
 exact⟨this,by unfold cB;rw[this,if_pos rfl]⟩
theorem Vp(h:k<l.length):Gd l k=l[k]:=by simp[Gd,h]
structure vQ where
 blocks:List Page
 queue:List (Int × Page)
def zPg:Page:=#v[0,0,0,0,0,0,0,0]
def wY(n:Nat)(q:Int × Page):Bool:=decide (q.1<0)||decide ((n:Int)<=q.1)
def bV(d:vQ):Int:=if 80<d.blocks.length\/400<d.queue.length then 4 else if d.queue.any (wY d.blocks.length)then 3 else 0
def aJ(d:vQ)(at_:Int):Int:=if bV d≠0 then bV d else if at_<0\/d.blocks.length<=at_ then 3 else 0
def over(k:Int)(p:Page)(q:List (Int × Page)):Page:=q.foldl (λp x=>if x.1=k then x.2 else p) p
theorem Ch(k:Int)(p:Page)(q:List (Int × Page))(x:Int × Page):over k p (q++[x])=if x.1=k then x.2 else over k p q:=by simp[over,DI]
theorem GR(k:Int)(p:Page)(q:List (Int × Page))(i:Nat)(h:i<q.length):over k p (q.take (i+1))=if q[i].1=k then q[i].2 else over k p (q.take i):=by
 rw[nR,aF h,Option.toList,Ch]
def dA(d:vQ)(k:Int):Page:=if aJ d k=0 then over k (d.blocks.getD k.toNat zPg) d.queue else zPg
def jO(d:vQ)(x:Int × Page):vQ:=
 match d.queue with
 | []=>⟨d.blocks,[x]⟩
 | q::r=>if(q::r).length=400 then⟨d.blocks.set q.1.toNat q.2,r++[x]⟩else⟨d.blocks,(q::r)++[x]⟩
theorem PQ(d:vQ)(x:Int × Page)(h:d.queue.length≠400):jO d x=⟨d.blocks,d.queue++[x]⟩:=by
 unfold jO;split
 .rename_i e;rw[e];rfl
 .rename_i q r e;rw[e]at h;rw[if_neg h,e]
theorem QM(d:vQ)(x:Int × Page)(h:d.queue.length=400):jO d x=⟨d.blocks.set (d.queue[0]'(by omega)).1.toNat (d.queue[0]'(by omega)).2,d.queue.drop 1++[x]⟩:=by
 obtain⟨B,Q⟩:=d;unfold jO;cases Q with
 | nil=>simp at h
 | cons q r=>simp only[if_pos h];rfl
def dP(d:vQ)(k:Int)(p:Page):vQ:=if aJ d k=0 then jO d (k,p)else⟨[],[]⟩
theorem Ia{d:vQ}(h:bV d=0):d.blocks.length<=80/\d.queue.length<=400:=by
 unfold bV at h;split at h
 .omega
 .omega
theorem GQ{d:vQ}(h:bV d=0)(i:Nat)(m:i<d.queue.length):0<=d.queue[i].1/\d.queue[i].1<d.blocks.length:=by
 unfold bV at h;split at h
 .omega
 split at h
 .omega
 rename_i p;have:=uX.1 (by simpa using p) _ (eu m);simp[wY]at this;omega
def Fe(n:Int):vQ:=if 0<=n/\n<=80 then⟨List.replicate n.toNat zPg,[]⟩else⟨[],[]⟩
theorem PM(k:Int)(p:Page)(q:Int × Page)(r:List (Int × Page)):over k p (q::r)=over k (if q.1=k then q.2 else p) r:=rfl
theorem jL(d:vQ):bV d=0↔d.blocks.length<=80/\d.queue.length<=400/\∀x∈d.queue,0<=x.1/\x.1<d.blocks.length:=by
 unfold bV;constructor
 .intro h;split at h
  .omega
  split at h
  .omega
  rename_i s h2;refine⟨by omega,by omega,λx m => ?_⟩;have:=uX.1 (by simpa using h2) x m;simp[wY]at this;omega
 rintro⟨s,h2,p⟩;rw[if_neg (by omega),if_neg];simp only[jK,not_exists,not_and];intro x m;have:=p x m;simp[wY];omega
theorem jG{d:vQ}{k:Int}:aJ d k=0↔bV d=0/\0<=k/\k<d.blocks.length:=by
 unfold aJ;constructor
 .intro h;split at h
  .omega
  split at h
  .omega
  .omega
 rintro⟨p,h2,m⟩;rw[if_neg (by omega),if_neg (by omega)]
theorem xK(d:vQ)(x:Int × Page):(jO d x).blocks.length=d.blocks.length:=by
 unfold jO;split
 .rfl
 split
 .simp
 .rfl
theorem zA{d:vQ}{x:Int × Page}(h:bV d=0)(A:0<=x.1)(z:x.1<d.blocks.length):bV (jO d x)=0:=by
 obtain⟨h2,s,u⟩:=(jL d).1 h;rw[jL,xK];refine⟨h2,?_,?_⟩
 .unfold jO;split
  .simp
  rename_i q r e;rw[e]at s;split
  .rename_i p;simp at p ⊢; omega
  .rename_i p;simp at p s ⊢; omega
 intro y m;have:y=x\/y∈d.queue:=by
  unfold jO at m;split at m
  .simp at m;exact .inl m
  rename_i q r e;rw[e];split at m
  .simp at m ⊢; rcases m with h | h
   .exact .inr (.inr h)
   .exact .inl h
  simp at m ⊢; rcases m with h | h | h
  .exact .inr (.inl h)
  .exact .inr (.inr h)
  .exact .inl h
 rcases this with rfl|h
 .exact⟨A,z⟩
 .exact u y h
theorem QT(d:vQ)(x:Int × Page)(o:Int)(m:∀y∈d.queue,0<=y.1/\y.1<d.blocks.length)(p:0<=o)(ho' : o<d.blocks.length) :
  over o ((jO d x).blocks.getD o.toNat zPg) (jO d x).queue=if x.1=o then x.2 else over o (d.blocks.getD o.toNat zPg) d.queue:=by
 unfold jO;split
 .rename_i e;rw[e];rfl
 rename_i q r e;split
 .have a:=m q (by rw[e];exact iM ..);rw[Ch];congr 1;rw[e,PM];congr 1;simp only[aY,oq]
  by_cases h:q.1=o
  .rw[if_pos h,if_pos (by rw[h]),if_pos (by rw[h];omega)];rfl
  .rw[if_neg h,if_neg (by omega)]
 .rw[e,Ch]
theorem IP{d:vQ}{x:Int × Page}(h:bV d=0)(p:0<=x.1)(m:x.1<d.blocks.length)(o:Int):aJ (jO d x) o=aJ d o:=by
 unfold aJ;rw[zA h p m,h,xK]
theorem yA{d:vQ}{x:Int × Page}(h:bV d=0)(s:0<=x.1)(p:x.1<d.blocks.length)(o:Int):dA (jO d x) o=if aJ d o=0/\x.1=o then x.2 else dA d o:=by
 unfold dA;rw[IP h s p]
 by_cases m:aJ d o=0
 .obtain⟨_,z,u⟩:=jG.1 m;rw[if_pos m,if_pos m,QT d x o ((jL d).1 h).2.2 z u];simp[m]
 .rw[if_neg m,if_neg m,if_neg (λh=>m h.1)]
def pg5:Page:=#v[5,0,0,0,0,0,0,0]
def d3:vQ:=⟨[zPg,zPg,zPg],[]⟩
structure Fr where
 p:Page
 r:Int
 u:Bool
 d:Bool
 f:Int
 i:Int
 deriving DecidableEq
def Fj(f:Fr):Bool:=decide (f.r<0)||decide (1000<f.r)||decide (f.f < -1)||decide (5<=f.f)||decide (f.i<0)||decide (12<=f.i)
def Hr(f:Fr):Bool:=decide (f.r=0)&&(f.u||f.d||decide (0<=f.f)||f.p != zPg)
def BG(f:Fr):Bool:=decide (f.f<0)&&decide (f.i≠0)
def bR(f:Fr):Int:=if Fj f=true then 3 else if Hr f=true\/BG f=true then 7 else 0
structure Mem where
 fs:List Fr
 hand:Int
 deriving DecidableEq
def firstEf:List Fr->Int
 | []=>0
 | f::r=>if bR f≠0 then bR f else firstEf r
theorem firstEf_at:∀(l:List Fr) (k:Nat) (d:k<l.length),(∀i (h:i<l.length),i<k->bR l[i]=0)->bR l[k]≠0->firstEf l=bR l[k]
 | f::r,0,_,_,h=>by unfold firstEf;exact if_pos h
 | f::r,k+1,d,hp,h=>by unfold firstEf;rw[if_neg (λs=>s (hp 0 (by simp) (by omega)))];exact firstEf_at r k (by simpa using d) (λi p m=>hp (i+1) (by simpa using p) (by omega)) h
theorem firstEf_none:∀(l:List Fr),(∀i (h:i<l.length),bR l[i]=0)->firstEf l=0
 | [],_=>rfl
 | f::r,hp=>by unfold firstEf;rw[if_neg (λm=>m (hp 0 (by simp)))];exact firstEf_none r (λi d=>hp (i+1) (by simpa using d))
def bv(m:Mem):Int:=if 40<m.fs.length then 4 else if firstEf m.fs≠0 then firstEf m.fs else if m.hand<0\/(0<m.hand/\(m.fs.length:Int)<=m.hand)then 3 else 0
def dR(l:List Fr):Nat:=(l.filter (λf=>decide (f.r=0))).length
theorem NM(l:List Fr)(k:Nat)(d:k<l.length):dR (l.take (k+1))=if l[k].r=0 then dR (l.take k)+1 else dR (l.take k):=by
 unfold dR;rw[nR,aF d,Option.toList,rP]
 by_cases h:l[k].r=0<;>simp[h]
theorem Ew(l:List Fr):dR l<=l.length:=zL _ _
def fr0:Fr:=⟨zPg,0,false,false,0,0⟩
def frZ:Fr:=⟨zPg,0,false,false,-1,0⟩
def Np(n:Int):Mem:=if 0<=n/\n<=40 then⟨List.replicate n.toNat frZ,0⟩else⟨[],0⟩
def wT(l:List Fr):Option Nat:=l.findIdx? (λf=>decide (f.r=0))
theorem Nh{l:List Fr}(h:∀i (h:i<l.length),i<l.length->¬l[i].r=0):wT l=none:=by
 unfold wT;rw[vU];intro x m;obtain⟨i,d,rfl⟩:=jM.1 m;simpa using h i d d
theorem Ng{l:List Fr}(p:i<l.length)(h:l[i].r=0)(d:∀j (h:j<l.length),j<i->¬l[j].r=0):wT l=some i:=by
 unfold wT;rw[sj];exact⟨p,by simpa using h,λj m=>by simpa using d j (by omega) m⟩
def noM:Mem:=⟨[],0⟩
def bK(p:Page)(file index:Int):Fr:=⟨p,1,true,false,file,index⟩
def iq(m:Mem)(p:Page)(file index:Int):Int:=if bv m≠0 then bv m else if bR (bK p file index)≠0 then bR (bK p file index)else if wT m.fs=none then 10 else 0
def iJ(m:Mem)(p:Page)(file index:Int):Nat:=if iq m p file index=0 then(wT m.fs).getD 0 else 0
def fB(m:Mem)(p:Page)(file index:Int):Mem:=if iq m p file index=0 then⟨m.fs.set (iJ m p file index) (bK p file index),m.hand⟩else noM
theorem firstEf_all:∀(l:List Fr),firstEf l=0->∀f∈l,bR f=0
 | [],_,_,h=>by cases h
 | g::r,h,f,hf=>by
  unfold firstEf at h
  by_cases d:bR g=0
  .rw[if_neg (λe=>e d)]at h;rcases dx.1 hf with rfl|hf
   .exact d
   .exact firstEf_all r h f hf
  rw[if_pos d]at h;exact absurd h d
theorem dO(m:Mem):bv m=0↔m.fs.length<=40/\(∀f∈m.fs,bR f=0)/\0<=m.hand/\(m.hand=0\/m.hand<m.fs.length):=by
 unfold bv;constructor
 .intro h
  by_cases d:40<m.fs.length
  .rw[if_pos d]at h;cases h
  rw[if_neg d]at h
  by_cases h2:firstEf m.fs=0
  .rw[if_neg (λe=>e h2)]at h
   by_cases p:m.hand<0\/(0<m.hand/\(m.fs.length:Int)<=m.hand)
   .rw[if_pos p]at h;cases h
   .exact⟨by omega,firstEf_all _ h2,by omega,by omega⟩
  .rw[if_pos h2]at h;exact absurd h h2
 rintro⟨d,h2,p,z⟩;rw[if_neg (by omega)];have u:firstEf m.fs=0:=firstEf_none _ (λi s=>h2 _ (eu s));rw[u,if_neg (λe=>e rfl),if_neg (by omega)]
theorem dL(f:Fr):bR f=0↔(0<=f.r/\f.r<=1000/\-1<=f.f/\f.f<5/\0<=f.i/\f.i<12)/\(f.r=0->f.u=false/\f.d=false/\f.f<0/\f.p=zPg)/\(f.f<0->f.i=0):=by
 unfold bR;have z:Fj f=false↔(0<=f.r/\f.r<=1000/\-1<=f.f/\f.f<5/\0<=f.i/\f.i<12):=by simp only[Fj,Eh,decide_eq_false_iff_not,Int.not_lt,Int.not_le];omega
 have m:Hr f=false↔(f.r=0->f.u=false/\f.d=false/\f.f<0/\f.p=zPg):=by
  unfold Hr
  by_cases h:f.r=0
  .simp[h,and_assoc]
  .simp[h]
 have s:BG f=false↔(f.f<0->f.i=0):=by
  unfold BG
  by_cases h:f.f<0
  .simp[h]
  .simp[h]
 rw[<-z,<-m,<-s];cases Fj f<;>cases Hr f<;>cases BG f<;>simp
def oC(m:Mem)(k n:Int):Int:=if bv m≠0 then bv m else if k<0\/(m.fs.length:Int)<=k\/(m.fs.getD k.toNat fr0).r=0 then 5 else if n < -(m.fs.getD k.toNat fr0).r\/1000-(m.fs.getD k.toNat fr0).r<n then 3 else 0
def ik(f:Fr)(n:Int):Fr:=if f.r+n=0 then frZ else{ f with r:=f.r+n }
def lW(m:Mem)(k n:Int):Mem:=if oC m k n=0 then⟨m.fs.set k.toNat (ik (m.fs.getD k.toNat fr0) n),m.hand⟩else noM
def jH(m:Mem)(s:Nat):Nat:=(m.hand.toNat+s)%m.fs.length
def CO(m:Mem)(s i:Nat):Bool:=(List.range s).any (λt=>jH m t==i)
def unused(f:Fr):Fr:={ f with u:=false }
def oN(m:Mem)(s:Nat):List Fr:=m.fs.mapIdx (λi f=>if CO m s i then unused f else f)
def xH(m:Mem)(s:Nat):Bool:=decide (0<(m.fs.getD (jH m s) fr0).r)&&(!(m.fs.getD (jH m s) fr0).u||decide (m.fs.length<=s))
def jb(m:Mem):Nat:=((List.range (2*m.fs.length)).find? (xH m)).getD 0
def gP(m:Mem):Mem:=if bv m≠0 then noM else if dR m.fs=m.fs.length then m else⟨oN m (jb m),(jH m (jb m+1):Nat)⟩
def jq(m:Mem):Int:=if bv m≠0 then 0 else if dR m.fs=m.fs.length then -1 else(jH m (jb m):Nat)
theorem qw{m:Mem}(h:0<m.fs.length)(s:Nat):jH m s<m.fs.length:=uB _ h
theorem jE(m:Mem)(s:Nat):(oN m s).length=m.fs.length:=by simp[oN]
theorem wK(m:Mem)(s i:Nat)(d:i<m.fs.length):(oN m s)[i]'(by rw[jE];exact d)=if CO m s i then unused m.fs[i]else m.fs[i]:=by simp[oN]
theorem PZ(m:Mem)(s i:Nat):CO m (s+1) i=(CO m s i||jH m s==i):=by simp[CO,yf]
theorem TI(m:Mem):oN m 0=m.fs:=by
 apply qZ
 .rw[jE]
 intro i d h2;rw[wK m 0 i h2];rfl
theorem Uf(m:Mem)(s:Nat)(h:0<m.fs.length):(oN m s).set (jH m s) (unused ((oN m s)[jH m s]'(by rw[jE];exact qw h s)))=oN m (s+1):=by
 apply qZ
 .simp[jE]
 intro i p h2;have d:i<m.fs.length:=by rw[jE]at h2;exact h2
 rw[DC,wK m (s+1) i d,PZ]
 by_cases e:jH m s=i
 .subst e;rw[if_pos rfl,wK m s _ d];cases CO m s (jH m s)<;>simp[unused]
 rw[if_neg e,wK m s i d];have:(jH m s==i)=false:=by simpa using e
 rw[this,Bool.or_false]
theorem RO(m:Mem)(s:Nat)(h:0<m.fs.length):CO m s (jH m s)=decide (m.fs.length<=s):=by
 rw[nC];simp only[CO,jK,dG,beq_iff_eq,decide_eq_true_eq];constructor
 .rintro⟨t,A,d⟩;unfold jH at d;rcases gu s m.fs.length with p|p
  .exfalso;have z:(m.hand.toNat+s)%m.fs.length=(m.hand.toNat+t+(s-t))%m.fs.length:=by congr 1;omega
   rw[z,Nat.add_mod (m.hand.toNat+t) (s-t)]at d;have h2:(s-t)%m.fs.length=s-t:=rQ (by omega);rw[h2]at d;have D:=uB (m.hand.toNat+t) h;generalize (m.hand.toNat+t)%m.fs.length=x at *
   rcases gu (x+(s-t)) m.fs.length with u|u
   .rw[rQ u]at d;omega
   .rw[Nat.mod_eq_sub_mod u,rQ (by omega)]at d;omega
  .exact p
 intro p;refine⟨s-m.fs.length,by omega,?_⟩;unfold jH;have:m.hand.toNat+s=(m.hand.toNat+(s-m.fs.length))+m.fs.length:=by omega
 rw[this,Ed]
theorem Xg(m:Mem)(s:Nat)(h:0<m.fs.length):(oN m s)[jH m s]'(by rw[jE];exact qw h s)=if m.fs.length<=s then unused (m.fs[jH m s]'(qw h s))else m.fs[jH m s]'(qw h s):=by
 rw[wK m s _ (qw h s),RO m s h];simp
theorem Vv(m:Mem)(s:Nat)(h:0<m.fs.length):xH m s=(decide (0<((oN m s)[jH m s]'(by rw[jE];exact qw h s)).r)&&!((oN m s)[jH m s]'(by rw[jE];exact qw h s)).u):=by
 rw[Xg m s h];unfold xH;rw[show m.fs.getD (jH m s) fr0=m.fs[jH m s]'(qw h s)from by simp[qw h s]]
 by_cases d:m.fs.length<=s
 .rw[if_pos d];simp[d,unused];rfl
 .rw[if_neg d];simp[d]
theorem Rq(l:List Fr):dR l=l.length↔∀f∈l,f.r=0:=by
 unfold dR;rw[List.length_filter_eq_length_iff];simp
theorem stops(m:Mem)(A:bv m=0)(z:dR m.fs≠m.fs.length):∃s,s<2*m.fs.length/\xH m s=true:=by
 obtain⟨_,c,H,_⟩:=(dO m).1 A;rw[Ne,Rq]at z;obtain⟨f,d⟩:=Classical.not_forall.1 z;obtain⟨u,G⟩:=Classical.not_imp.1 d;obtain⟨i,p,rfl⟩:=jM.1 u;have e:=((dL _).1 (c _ u)).1.1;have a:0<m.fs.length:=by omega
 have F:=uB m.hand.toNat a;refine⟨(i+m.fs.length-m.hand.toNat%m.fs.length)%m.fs.length+m.fs.length,by have:=uB (i+m.fs.length-m.hand.toNat%m.fs.length) a;omega,?_⟩;have b:jH m ((i+m.fs.length-m.hand.toNat%m.fs.length)%m.fs.length+m.fs.length)=i:=by
  unfold jH;rw[<-nV,Ed,Nat.add_mod,Nat.mod_mod];generalize m.hand.toNat%m.fs.length=x at *
  rcases gu i x with h|h
  .rw[rQ (show i+m.fs.length-x<m.fs.length by omega)];rw[show x+(i+m.fs.length-x)=i+m.fs.length from by omega,Ed,rQ p]
  have D:i+m.fs.length-x=(i-x)+m.fs.length:=by omega
  rw[D,Ed,rQ (show i-x<m.fs.length by omega),show x+(i-x)=i from by omega,rQ p]
 unfold xH;rw[b];have:m.fs.getD i fr0=m.fs[i]:=by simp[p]
 rw[this];have E:0<m.fs[i].r:=by omega
 have h2:m.fs.length<=(i+m.fs.length-m.hand.toNat%m.fs.length)%m.fs.length+m.fs.length:=by omega
 simp[E,h2]
theorem Rx(m:Mem)(d:bv m=0)(u:dR m.fs≠m.fs.length):jb m<2*m.fs.length/\xH m (jb m)=true/\∀t,t<jb m->xH m t=false:=by
 obtain⟨s,p,a⟩:=stops m d u;unfold jb;cases hfd:(List.range (2*m.fs.length)).find? (xH m)with
 | none=>
  rw[ru]at hfd;exact absurd a (hfd s (dG.2 p))
 | some r=>
  rw[List.find?_range_eq_some]at hfd;obtain⟨A,h2,z⟩:=hfd;exact⟨dG.1 h2,A,λt h=>by simpa using z t h⟩
structure En where
 k:Int
 n:Int
 w:Bool
 deriving DecidableEq
def zEn:En:=⟨0,0,false⟩
abbrev Tb:=Vector (List En) 8
def eF(e:En):Int:=if e.k<0\/2<e.k then 1 else if e.n<0\/40<=e.n/\e.k=1\/60<=e.n then 3 else if e.k=0/\(e.n≠0\/e.w=true)\/e.k=2/\e.w=true then 7 else 0
def mY(h:List En):Int:=if h.length≠0/\h.length≠8 then 2 else if firstE (h.map eF)≠0 then firstE (h.map eF)else if 0<h.length/\h.any (λe=>decide (e.k≠0))=false then 2 else 0
def dB(t:Tb):Int:=firstE (t.toList.map mY)
def yZ(h:List En)(k:Nat):Bool:=(h.take k).any (λe=>decide (e.k≠0))
theorem QO(h:List En):yZ h 0=false:=rfl
theorem Hl(h:List En)(k:Nat)(d:k<h.length):yZ h (k+1)=(yZ h k||decide (h[k].k≠0)):=by
 unfold yZ;rw[nR,List.any_append,aF d];simp
theorem Kg(h:List En)(k:Nat)(d:h.length<=k):yZ h k=h.any (λe=>decide (e.k≠0)):=by
 unfold yZ;rw[jD d]
theorem xm{t:Tb}(h:∀i (d:i<8),mY t[i]=0):dB t=0:=CE λi d=>by simpa using h i (by simpa using d)
theorem sH{t:Tb}(k:Nat)(p:k<8)(h:∀i (m:i<8),i<k->mY t[i]=0)(d:mY t[k]≠0):dB t=mY t[k]:=by
 have:=yR (l:=t.toList.map mY) k (by simpa using p) (λi m a=>by simpa using h i (by simpa using m) a) (by simpa using d);rw[dB,this];simp
theorem zx{h:List En}(d:h.length≠0/\h.length≠8):mY h=2:=by unfold mY;rw[if_pos d]
theorem Bf{h:List En}(u:h.length=0\/h.length=8)(k:Nat)(s:k<h.length)(p:∀i (m:i<h.length),i<k->eF h[i]=0)(d:eF h[k]≠0):mY h=eF h[k]:=by
 have:=yR (l:=h.map eF) k (by simpa using s) (λi m a=>by simpa using p i (by simpa using m) a) (by simpa using d);have e:firstE (h.map eF)=eF h[k]:=by rw[this];simp
 unfold mY;rw[if_neg (by omega),e,if_pos d]
theorem xR{h:List En}(p:h.length=0\/h.length=8)(m:∀i (d:i<h.length),eF h[i]=0):mY h=if 0<h.length/\h.any (λe=>decide (e.k≠0))=false then 2 else 0:=by
 have:=CE (l:=h.map eF) (λi d=>by simpa using m i (by simpa using d));unfold mY;rw[if_neg (by omega),this,if_neg (by omega)]
def Gi(t:Tb):Prop:=∀k (h:k<8),t[k].length*24<=140737488355328
def dK(t:Tb)(n:Int):En:=if h:0<=n/\n<64 then(if(t[n.toNat / 8]'(by omega)).length=8 then(t[n.toNat / 8]'(by omega)).getD (n.toNat%8) zEn else zEn)else zEn
theorem sZ{t:Tb}(h:n<0\/64<=n):dK t n=zEn:=by unfold dK;rw[dif_neg (by omega)]
theorem zX{t:Tb}(p:q<8)(m:r<8):dK t ((8*q+r:Nat):Int)=if t[q].length=8 then t[q].getD r zEn else zEn:=by
 unfold dK;rw[dif_pos (by omega)];have h:(((8*q+r:Nat):Int).toNat / 8)=q:=by rw[bu];omega
 have d:(((8*q+r:Nat):Int).toNat%8)=r:=by rw[bu];omega
 simp only[h,d]
theorem yc(h:0<=n/\n<64):∃q r:Nat,q<8/\r<8/\n=((8*q+r:Nat):Int)/\n / 8=(q:Int)/\n%8=(r:Int):=by
 refine⟨(n / 8).toNat,(n%8).toNat,by omega,by omega,by omega,by omega,by omega⟩
def qi(e:En):Bool:=decide (e.k≠0)
def setE(t:Tb)(n:Int)(e:En):Int:=if dB t≠0 then dB t else if n<0\/64<=n then 3 else eF e
def Wv(h:List En):List En:=if h.any qi then h else[]
def setH(h:List En)(r:Nat)(e:En):List En:=Wv ((if h.length=0 then List.replicate 8 zEn else h).set r e)
def zTb:Tb:=Vector.replicate 8 []
def setT(t:Tb)(n:Int)(e:En):Tb:=if h:(0<=n/\n<64)/\setE t n e=0 then t.set (n.toNat / 8) (setH (t[n.toNat / 8]'(by omega)) (n.toNat%8) e) (by omega)else zTb
theorem xL{t:Tb}{e:En}(h:setE t n e≠0):setT t n e=zTb:=by unfold setT;rw[dif_neg (λd=>h d.2)]
theorem Pd{t:Tb}{e:En}(h:setE t n e=0)(u:q<8)(s:r<8)(d:n=((8*q+r:Nat):Int)):setT t n e=t.set q (setH t[q] r e):=by
 unfold setT;subst d;rw[dif_pos ⟨by omega,h⟩];have p:(((8*q+r:Nat):Int).toNat / 8)=q:=by rw[bu];omega
 have m:(((8*q+r:Nat):Int).toNat%8)=r:=by rw[bu];omega
 simp only[p,m]
theorem qc{h:List En}(d:mY h=0):h.length=0\/h.length=8:=by
 by_cases e:h.length≠0/\h.length≠8
 .rw[zx e]at d;cases d
 .omega
theorem mQ{t:Tb}(h:dB t=0)(k:Nat)(p:k<8):mY t[k]=0:=by
 have m:∀(l:List Int),firstE l=0->∀x∈l,x=0:=by
  intro l
  induction l with
  | nil=>intro _ x d;cases d
  | cons y r ih=>
   intro h x d
   by_cases e:y=0
   .simp only[firstE,e,if_true]at h;rcases dx.1 d with rfl|d
    .exact e
    .exact ih h x d
   .simp only[firstE,e,if_false]at h
 exact m _ h _ (eU.2 ⟨t[k],by simp,rfl⟩)
def kC(t:Tb)(k:Nat):List Int:=((List.range k).filter λn:Nat=>qi (dK t (n:Int))).map λn:Nat=>(n:Int)
def aT(t:Tb):List Int:=kC t 64
theorem tK(t:Tb)(k:Nat):(kC t k).length<=k:=by
 unfold kC;rw[dV];exact bi (zL _ _) (by simp)
theorem LD{t:Tb}(h:qi (dK t (k:Int))=true):kC t (k+1)=kC t k++[(k:Int)]:=by
 unfold kC;rw[yf,rP,jJ];simp[h]
theorem Ni{t:Tb}(h:qi (dK t (k:Int))=false):kC t (k+1)=kC t k:=by
 unfold kC;rw[yf,rP,jJ];simp[h]
structure CU (p:Int->Bool) (l:List Int) (j i:Nat) (cur:List Int):Prop where
 len:cur.length=l.length
 lt:i<j
 le:j<=l.length
 done:cur.take i=(l.take j).filter (λx => !p x)
 rest:∀t,j<=t->cur[t]?=l[t]?
theorem CU.start{p:Int->Bool}(u:i<l.length)(z:p l[i]=true)(d:∀j (h:j<l.length),j<i->p l[j]=false):CU p l (i+1) i l:=by
 refine⟨rfl,by omega,by omega,?_,λ_ _=>rfl⟩;rw[nR,rP,aF u,Option.toList];have A:(l.take i).filter (λq => !p q)=l.take i:=by rw[List.filter_eq_self];intro q m;obtain⟨j,s,rfl⟩:=jM.1 m;simp only[iO]at s;rw[List.getElem_take];simpa using d j (by omega) (by omega)
 simp[A,z]
theorem CU.keep{p:Int->Bool}{d:List Int}(h:CU p l j i d)(s:j<l.length)(m:p l[j]=false):CU p l (j+1) (i+1) (d.set i l[j]):=by
 have A:=h.lt;have h2:=h.len;refine⟨by simp[h.len],by omega,by omega,?_,λt z => ?_⟩
 .have u:i<d.length:=by omega
  rw[nR,wy u,Option.toList,List.take_set_of_le (az _),h.done];rw[nR,rP,aF s,Option.toList];simp[m]
 rw[uw (by omega)];exact h.rest t (by omega)
theorem CU.skip{p:Int->Bool}{d:List Int}(h:CU p l j i d)(m:j<l.length)(s:p l[j]=true):CU p l (j+1) i d:=by
 have z:=h.lt;refine⟨h.len,by omega,by omega,?_,λt u=>h.rest t (by omega)⟩;rw[h.done];rw[nR,rP,aF m,Option.toList];simp[s]
theorem CU.all{p:Int->Bool}(h:∀i (h:i<l.length),p l[i]=false):l.filter (λx => !p x)=l:=by
 rw[List.filter_eq_self];intro q d;obtain⟨j,m,rfl⟩:=jM.1 d;simpa using h j m
def qP(t:Tb)(kind k:Int)(n:Int):Bool:=decide ((dK t n).k≠kind)||decide ((dK t n).n≠k)
def pU(t:Tb)(kind k:Int):List Int:=(aT t).filter λn => !qP t kind k n
theorem TC{h:List En}(m:j<h.length)(p:c=0↔yZ h j=false)(s:0<=h[j].k):((0<h[j].k)->(c+1=0↔yZ h (j+1)=false))/\(¬0<h[j].k->(c=0↔yZ h (j+1)=false)):=by
 rw[Hl h j m];constructor
 .intro d;have:decide (h[j].k≠0)=true:=by simp;omega
  simp[this]
 intro d;have:decide (h[j].k≠0)=false:=by simp;omega
 simp[this,p]
theorem WY(f g:En):(f==g)=(f.k==g.k&&(f.n==g.n&&f.w==g.w)):=by
 cases f;cases g;rw[nC];simp
def Ht(t u:Tb):Bool:=decide (t=u)
theorem Gy{t u:Tb}(k:Nat)(d:k<8)(h:t[k]≠u[k]):Ht t u=false:=by
 unfold Ht;rw[decide_eq_false_iff_not];rintro rfl;exact h rfl
theorem Hd{t u:Tb}(h:∀i (d:i<8),t[i]=u[i]):Ht t u=true:=by
 unfold Ht;rw[decide_eq_true_eq];exact yL h
def dE(t:Tb):List En:=(List.range 64).map λn:Nat=>dK t (n:Int)
structure Mf (t:Tb) (m:Nat) (l:List En):Prop where
 len:l.length=64
 at' : ∀n (h:n<64),l[n]?=some (if n<m then dK t (n:Int)else zEn)
theorem Mf.start{t:Tb}:Mf t 0 (List.replicate 64 zEn):=⟨kL,λn h=>by rw[qa,if_pos h,if_neg (fq _)]⟩
theorem Mf.step{t:Tb}{m:Nat}{l:List En}(h:Mf t m l)(u:m<64){E:En}(s:dK t (m:Int)=E):Mf t (m+1) (l.set m E):=by
 refine⟨by simp[h.len],λn p => ?_⟩
 by_cases e:n=m
 .subst e;rw[wy (by rw[h.len];exact p),if_pos (by omega),s]
 rw[uw (λd=>e d.symm),h.at' n p];congr 1
 by_cases d:n<m
 .rw[if_pos d,if_pos (by omega)]
 .rw[if_neg d,if_neg (by omega)]
theorem Ce{t:Tb}(m:q<8)(d:r<8)(h:t[q].length=0):dK t ((8*q+r:Nat):Int)=zEn:=by
 rw[zX m d,if_neg (by omega)]
theorem Hu{t:Tb}(m:q<8)(d:r<8)(h:t[q].length=8){E:En}(p:t[q][r]?=some E):dK t ((8*q+r:Nat):Int)=E:=by
 rw[zX m d,if_pos h,aY,p];rfl
theorem Mf.skip{t:Tb}{l:List En}(h:Mf t (8*q) l)(p:q<8)(u:t[q].length=0):Mf t (8*(q+1)) l:=by
 refine⟨h.len,λn s => ?_⟩;rw[h.at' n s];congr 1
 by_cases m:n<8*q
 .rw[if_pos m,if_pos (by omega)]
 rw[if_neg m]
 by_cases d:n<8*(q+1)
 .rw[if_pos d];obtain⟨r,rfl⟩:∃r,n=8*q+r:=⟨n-8*q,by omega⟩;exact(Ce p (by omega) u).symm
 .rw[if_neg d]
theorem Mf.fin{t:Tb}{l:List En}(h:Mf t 64 l):l=dE t:=by
 apply nY;intro n;unfold dE
 by_cases d:n<64
 .rw[h.at' n d,if_pos d];simp[d]
 .rw[eY (by rw[h.len];omega),eY (by simp;omega)]
def Jl(e:En):Bool:=decide (0<e.k)
def mF(l:List En)(i:Nat):List En:=(l.drop (8*i)).take 8
def nz(l:List En)(i:Nat):List En:=if(mF l i).any Jl then mF l i else[]
def ig(l:List En):Tb:=Vector.ofFn λi:Fin 8=>nz l i.val
def ze(l:List En)(i k:Nat):Bool:=((l.drop (8*i)).take k).any Jl
theorem Lt{l:List En}(d:l.length=64)(m:i<8)(h:k<8):∃E,l[8*i+k]?=some E/\(l.drop (8*i)).take (k+1)=(l.drop (8*i)).take k++[E]:=by
 refine⟨l[8*i+k]'(by omega),aF (by omega),?_⟩;rw[nR,qQ,aF (by omega)];rfl
theorem Fx{l:List En}(d:l.length=64)(m:i<8)(h:k<=8):((l.drop (8*i)).take k).length=k:=by
 simp;omega
structure Hy (l:List En) (i:Nat) (h:List En) (t:Tb):Prop where
 lo:∀j (hj:j<8),j<i->t[j]=nz l j
 at' : ∀(hi:i<8),t[i]=h
 hi:∀j (hj:j<8),i<j->t[j]=[]
theorem Hy.start{l:List En}:Hy l 0 [] zTb:=⟨λ_ _ h=>absurd h (fq _),λ_=>by simp[zTb],λj d _=>by simp[zTb]⟩
theorem Hy.next{l:List En}{t:Tb}(h:Hy l i (nz l i) t)(m:i<8):Hy l (i+1) [] t:=by
 refine⟨λj d a => ?_,λh2=>h.hi _ h2 (by omega),λj d a=>h.hi j d (by omega)⟩
 by_cases e:j=i
 .subst e;exact h.at' d
 .exact h.lo j d (by omega)
theorem Hy.set{l:List En}{h h2:List En}{t:Tb}(s:Hy l i h t)(p:i<8):Hy l i h2 (t.set i h2):=
 ⟨λj m d=>by rw[yw p m (by omega)];exact s.lo j m d,λ_=>by simp,λj m d=>by rw[yw p m (by omega)];exact s.hi j m d⟩
theorem Hy.fin{l:List En}{h:List En}{t:Tb}(m:Hy l 8 h t):t=ig l:=by
 apply yL;intro i d;rw[m.lo i d d];simp[ig]
theorem Vq{l:List En}(h:ze l i 8=false):nz l i=[]:=by
 unfold nz mF;unfold ze at h;rw[h];rfl
theorem RP{l:List En}(h:ze l i 8=true):nz l i=(l.drop (8*i)).take 8:=by
 unfold nz mF;unfold ze at h;rw[h];rfl
structure Fi where
 n:Int
 b:List Int
 deriving DecidableEq
structure St where
 fs:List Fi
 count:Int
 deriving DecidableEq
theorem yC(h:n<=96):fw n<=12:=by unfold fw;split<;>omega
def iC(c:Int):List Int->List Int->Int
 | _,[]=>0
 | seen,b::r=>if b < -1\/c<=b then 3 else if 0<=b/\b∈seen then 7 else iC c (seen++[b]) r
def pI(c:Int):List Int->List Fi->Int
 | _,[]=>0
 | seen,f::r=>if f.n<0\/96<f.n then 3 else if(f.b.length:Int)≠fw f.n then 2 else if iC c seen f.b≠0 then iC c seen f.b else pI c (seen++f.b) r
theorem vL(c:Int)(d:List Int)(b:Int)(r:List Int):iC c d (b::r)=if b < -1\/c<=b then 3 else if 0<=b/\b∈d then 7 else iC c (d++[b]) r:=rfl
def aR(s:St):Int:=if 5<s.fs.length\/s.count<0\/80<s.count then 4 else pI s.count [] s.fs
def tZ(l:List Int)(j:Int):Bool:=decide (j∈l)
theorem Er(l:List Int)(b:Int):(λi=>tZ l i||decide (i=b))=tZ (l++[b]):=by
 funext i;unfold tZ;rw[nC];simp
theorem drop_at{α:Type}{l:List α}{x:α}(h:l[k]?=some x):l.drop k=x::l.drop (k+1):=by
 have d:=(cz.1 h).1;rw[vY d,(cz.1 h).2]
theorem take_at{α:Type}{l:List α}{x:α}(h:l[k]?=some x):l.take (k+1)=l.take k++[x]:=by
 rw[nR,h];rfl
def newE(n:Int):Int:=if n<0\/80<n then 4 else 0
def kJ(s:St):List Int:=s.fs.flatMap Fi.b
def Yt(l:List Int):Nat:=(l.filter λx=>decide (0<=x)).length
def zh(s:St):Int:=s.count-Yt (kJ s)
def iH(s:St)(b:Int):Bool:=decide (b∈kJ s)
theorem Vr(l:List Int)(x:Int):l.any (λy=>decide (x=y))=decide (x∈l):=by
 rw[nC,jK,decide_eq_true_eq];constructor
 .rintro⟨y,d,h⟩;rw[of_decide_eq_true h];exact d
 .intro h;exact⟨x,h,decide_eq_true rfl⟩
def iD(s:St):Int:=match (List.range s.count.toNat).find? (λb:Nat => !iH s b)with
 | some b=>b
 | none => -1
theorem Qg{s:St}(p:(b:Int)<s.count)(h:∀i:Nat,i<b->iH s i=true)(m:iH s b=false):iD s=b:=by
 unfold iD;have:(List.range s.count.toNat).find? (λb:Nat => !iH s b)=some b:=by rw[List.find?_range_eq_some];exact⟨by simp[m],dG.2 (by omega),λj d=>by simp[h j d]⟩
 rw[this]
theorem LG{s:St}(h:∀i:Nat,(i:Int)<s.count->iH s i=true):iD s = -1:=by
 unfold iD;have:(List.range s.count.toNat).find? (λb:Nat => !iH s b)=none:=by rw[ru];intro i d;have:=dG.1 d;simp[h i (by omega)]
 rw[this]
def zSt:St:=⟨[],0⟩
theorem lZ{s:St}(h:aR s=0):s.fs.length<=5/\0<=s.count/\s.count<=80:=by
 unfold aR at h
 by_cases g:5<s.fs.length\/s.count<0\/80<s.count
 .rw[if_pos g]at h;cases h
 .omega
theorem Et{c:Int}:∀ {fs:List Fi} {d:List Int},pI c d fs=0->∀f∈fs,0<=f.n/\f.n<=96/\(f.b.length:Int)=fw f.n/\∀b∈f.b,-1<=b/\b<c
 | f0::r,d,h,f,hf=>by
  unfold pI at h
  by_cases A:f0.n<0\/96<f0.n
  .rw[if_pos A]at h;cases h
  rw[if_neg A]at h
  by_cases u:(f0.b.length:Int)≠fw f0.n
  .rw[if_pos u]at h;cases h
  rw[if_neg u]at h
  by_cases p:iC c d f0.b≠0
  .rw[if_pos p]at h;exact absurd h p
  rw[if_neg p]at h;rcases dx.1 hf with rfl|hf
  .refine⟨by omega,by omega,rf.1 u,?_⟩;have s:∀(l:List Int) (sn:List Int),iC c sn l=0->∀b∈l,-1<=b/\b<c:=by
    intro l
    induction l with
    | nil=>intro _ _ b m;cases m
    | cons x r ih=>
     intro sn h b m;rw[vL]at h
     by_cases k1:x < -1\/c<=x
     .rw[if_pos k1]at h;cases h
     rw[if_neg k1]at h
     by_cases z:0<=x/\x∈sn
     .rw[if_pos z]at h;cases h
     rw[if_neg z]at h;rcases dx.1 m with rfl|m
     .omega
     .exact ih _ h b m
   exact s _ _ (rf.1 p)
  .exact Et h f hf
theorem zP{s:St}(h:aR s=0):∀f∈s.fs,0<=f.n/\f.n<=96/\(f.b.length:Int)=fw f.n/\∀b∈f.b,-1<=b/\b<s.count:=by
 have d:=lZ h;unfold aR at h;rw[if_neg (by omega)]at h;exact Et h
def aN(s:St)(k:Int):Fi:=if 0<=k then s.fs.getD k.toNat ⟨0,[]⟩else⟨0,[]⟩
def zW(s:St)(k:Int)(f:Fi):St:=⟨s.fs.set k.toNat f,s.count⟩
def bN(s:St)(k i:Int):Int:=(aN s k).b.getD i.toNat 0
def dJ(s:St)(k i:Int):Int:=
 if aR s≠0 then aR s else if k<0\/(s.fs.length:Int)<=k then 5 else if i<0\/((aN s k).b.length:Int)<=i then 9
 else if bN s k i<0/\iD s<0 then 10 else 0
def eX(s:St)(k i:Int):Int:=if dJ s k i≠0 then 0 else if bN s k i<0 then iD s else bN s k i
def eG(s:St)(k i:Int):St:=if dJ s k i≠0 then zSt else if bN s k i<0 then zW s k ⟨(aN s k).n,(aN s k).b.set i.toNat (iD s)⟩else s
theorem yO{s:St}{k i e:Int}(h:dJ s k i=e)(d:e≠0):dJ s k i=e/\eX s k i=0/\eG s k i=zSt:=by
 refine⟨h,?_,?_⟩
 .unfold eX;rw[if_pos (by rw[h];exact d)]
 .unfold eG;rw[if_pos (by rw[h];exact d)]
theorem QW{s:St}(h:s.count<=80):iD s<80/\-1<=iD s:=by
 unfold iD;cases hf:(List.range s.count.toNat).find? (λb:Nat => !iH s b)with
 | none=>simp
 | some b=>
  have:=dG.1 (rR hf);simp;omega
def lh(l:List Int):List Int:=l.filter λx=>decide (0<=x)
theorem vC(l m:List Int):lh (l++m)=lh l++lh m:=rP _ _
theorem jP{x:Int}:x∈lh l↔x∈l/\0<=x:=by unfold lh;simp
theorem BN{c:Int}:∀ {l d:List Int},iC c d l=0↔(∀b∈l,-1<=b/\b<c)/\(lh l).Nodup/\∀b∈l,0<=b->¬b∈d
 | [],d=>by simp[iC,lh]
 | x::r,d=>by
  rw[vL]
  by_cases k1:x < -1\/c<=x
  .rw[if_pos k1];refine⟨λh=>(by cases h),λh => ?_⟩;have:=h.1 x iM;omega
  rw[if_neg k1]
  by_cases z:0<=x/\x∈d
  .rw[if_pos z];refine⟨λh=>(by cases h),λh=>absurd z.2 (h.2.2 x iM z.1)⟩
  rw[if_neg z,BN (l:=r)];have A:lh (x::r)=if 0<=x then x::lh r else lh r:=by unfold lh;rw[ou];simp
  rw[A];constructor
  .intro ⟨h1,h2,h3⟩;refine⟨λb m => ?_,?_,λb m s p => ?_⟩
   .rcases dx.1 m with rfl|m
    .omega
    .exact h1 b m
   .by_cases u:0<=x
    .rw[if_pos u];refine uD.2 ⟨λD => ?_,h2⟩;exact h3 x (jP.1 D).1 u (uQ _ (bB.2 rfl))
    .rw[if_neg u];exact h2
   rcases dx.1 m with rfl|m
   .exact z ⟨s,p⟩
   .exact h3 b m s (qg _ p)
  intro ⟨h1,h2,h3⟩;refine⟨λb m=>h1 b (jW _ m),?_,λb m s p => ?_⟩
  .by_cases u:0<=x
   .rw[if_pos u]at h2;exact(uD.1 h2).2
   .rw[if_neg u]at h2;exact h2
  rcases gH.1 p with p|p
  .exact h3 b (jW _ m) s p
  rw[bB.1 p]at m s;rw[if_pos s]at h2;exact(uD.1 h2).1 (jP.2 ⟨m,s⟩)
def FN(c:Int)(f:Fi):Prop:=0<=f.n/\f.n<=96/\(f.b.length:Int)=fw f.n/\∀b∈f.b,-1<=b/\b<c
theorem Ho{c:Int}:∀ {fs:List Fi} {d:List Int},pI c d fs=0↔(∀f∈fs,FN c f)/\(lh (fs.flatMap Fi.b)).Nodup/\∀b∈fs.flatMap Fi.b,0<=b->¬b∈d
 | [],d=>by simp[pI,lh]
 | f::r,d=>by
  unfold pI
  by_cases E:f.n<0\/96<f.n
  .rw[if_pos E];refine⟨λh=>(by cases h),λh => ?_⟩;have:=h.1 f iM;unfold FN at this;omega
  rw[if_neg E]
  by_cases D:(f.b.length:Int)≠fw f.n
  .rw[if_pos D];exact⟨λh=>(by cases h),λh=>absurd (h.1 f iM).2.2.1 D⟩
  rw[if_neg D,nX,vC]
  by_cases A:iC c d f.b≠0
  .rw[if_pos A];refine⟨λh=>absurd h A,λh=>absurd (BN.2 ⟨(h.1 f iM).2.2.2,(wJ.1 h.2.1).1,λb m=>h.2.2 b (qg _ m)⟩) A⟩
  rw[if_neg A,Ho (fs:=r)];have s:=BN.1 (rf.1 A);constructor
  .intro ⟨h1,h2,h3⟩;refine⟨λx z => ?_,wJ.2 ⟨s.2.1,h2,λa H b m e => ?_⟩,λb m u p => ?_⟩
   .rcases dx.1 z with rfl|z
    .exact⟨by omega,by omega,rf.1 D,s.1⟩
    .exact h1 x z
   .subst e;exact h3 a (jP.1 m).1 (jP.1 m).2 (uQ _ (jP.1 H).1)
   rcases gH.1 m with m|m
   .exact s.2.2 b m u p
   .exact h3 b m u (qg _ p)
  intro ⟨h1,h2,h3⟩;obtain⟨M,G,F⟩:=wJ.1 h2;refine⟨λx z=>h1 x (jW _ z),G,λb m u p => ?_⟩;rcases gH.1 p with p|p
  .exact h3 b (uQ _ m) u p
  .exact F b (jP.2 ⟨p,u⟩) b (jP.2 ⟨m,u⟩) rfl
theorem mJ{s:St}:aR s=0↔(s.fs.length<=5/\0<=s.count/\s.count<=80)/\(∀f∈s.fs,FN s.count f)/\(lh (kJ s)).Nodup:=by
 unfold aR
 by_cases g:5<s.fs.length\/s.count<0\/80<s.count
 .rw[if_pos g];exact⟨λh=>(by cases h),λh=>by omega⟩
 rw[if_neg g,Ho];exact⟨λh=>⟨by omega,h.1,h.2.1⟩,λh=>⟨h.2.1,h.2.2,λb _ _ d=>by cases d⟩⟩
def xw(N:Nat)(seen:List Int):List Bool:=(List.range N).map λi:Nat=>decide ((i:Int)∈seen)
theorem zR(N:Nat)(d:List Int):(xw N d).length=N:=by simp[xw]
theorem SX(N:Nat):xw N []=List.replicate N false:=by
 apply nY;intro i;unfold xw
 by_cases d:i<N
 .simp[d,qa]
 .rw[eY (by simp;omega),eY (by simp;omega)]
theorem JA(N:Nat)(d:List Int)(i:Nat)(h:i<N):(xw N d)[i]?=some (decide ((i:Int)∈d)):=by simp[xw,h]
theorem UH(N:Nat)(d:List Int)(x:Int)(h:x<0):xw N (d++[x])=xw N d:=by
 unfold xw;apply AP;intro i _;have:¬(i:Int)=x:=by omega
 simp[this]
theorem Uq(N:Nat)(d:List Int)(X:Nat)(m:X<N):(xw N d).set X true=xw N (d++[(X:Int)]):=by
 apply nY;intro i
 by_cases h:i<N
 .rw[JA N _ i h,oq]
  by_cases e:X=i
  .subst e;rw[if_pos rfl,if_pos (by rw[zR];exact h)];simp
  rw[if_neg e,JA N _ i h];have:¬(i:Int)=(X:Int):=by omega
  simp[this]
 .rw[eY (by simp[zR];omega),eY (by simp[zR];omega)]
structure Ar where
 fr:Int
 en:Int
 rd:Bool
 wr:Bool
 sh:Bool
 fi:Int
 ba:Int
 deriving DecidableEq
def aU(a:Ar):Int:=if a.fr<0\/a.en<=a.fr\/64<a.en\/a.fi < -1\/5<=a.fi\/a.ba<0 then 3 else if(a.fi<0/\(a.ba≠0\/a.sh=true))\/0<=a.fi/\12-(a.en-a.fr)<a.ba then 7 else 0
def kH(a:Ar):Int:=if 0<=a.fi then a.ba+a.en-a.fr else 0
def dN(a b:Ar):Bool:=a.en==b.fr&&a.rd==b.rd&&a.wr==b.wr&&a.sh==b.sh&&a.fi==b.fi&&b.ba==kH a
def vk(a:Ar):Prop:=(0<=a.ba/\a.ba<=12)/\(0<=a.fr/\a.fr<=64)/\0<=a.en/\a.en<=64
theorem bM{a:Ar}(h:aU a=0):vk a/\a.fr<a.en/\-1<=a.fi/\a.fi<5/\(a.fi<0->a.ba=0/\a.sh=false)/\(0<=a.fi->a.ba<=12-(a.en-a.fr)):=by
 unfold aU at h;split at h
 .omega
 rename_i s;split at h
 .omega
 rename_i h2;have m:a.fi<0->a.ba=0/\a.sh=false:=λd=>⟨rV λh=>h2 (.inl ⟨d,.inl h⟩),by
  cases hsh:a.sh
  .rfl
  .exact absurd (.inl ⟨d,.inr hsh⟩) h2⟩
 have p:0<=a.fi->a.ba<=12-(a.en-a.fr):=λd=>by omega
 unfold vk;refine⟨⟨⟨by omega,?_⟩,by omega,by omega,by omega⟩,by omega,by omega,by omega,m,p⟩
 by_cases d:a.fi<0
 .have:=(m d).1;omega
 .have:=p (by omega);omega
def jQ(p:Option Ar)(i:Nat):List Ar->Int × Int
 | []=>(0,0)
 | a::r=>if aU a≠0 then(aU a,i)else if(match p with | some q=>decide (a.fr<q.en)||dN q a | none=>false)then(2,i)else jQ (some a) (i+1) r
def bP(l:List Ar):Int × Int:=if 16<l.length then(4,0)else jQ none 0 l
def qM(l:List Ar)(k:Nat):Option Ar:=if k=0 then none else l[k-1]?
theorem FB{l:List Ar}(d:k<l.length):qM l (k+1)=some l[k]:=by simp[qM,d]
def wS(p:Option Ar)(a:Ar):Bool:=match p with | some q=>decide (a.fr<q.en)||dN q a | none=>false
theorem oI(p:Option Ar)(i:Nat)(a:Ar)(r:List Ar):jQ p i (a::r)=if aU a≠0 then(aU a,(i:Int))else if wS p a then(2,(i:Int))else jQ (some a) (i+1) r:=rfl
theorem wI{l:List Ar}(d:k<l.length)(m:aU l[k]=0)(h:wS (qM l k) l[k]=false):jQ (qM l k) k (l.drop k)=jQ (qM l (k+1)) (k+1) (l.drop (k+1)):=by
 rw[vY d,oI,if_neg (by rw[m];simp),h,FB d];rfl
theorem wo{l:List Ar}(h:k<l.length)(m:aU l[k]=0)(d:wS (qM l k) l[k]=true):jQ (qM l k) k (l.drop k)=(2,(k:Int)):=by
 rw[vY h,oI,if_neg (by rw[m];simp),d];rfl
theorem Ik{l:List Ar}(d:k<l.length)(h:aU l[k]≠0):jQ (qM l k) k (l.drop k)=(aU l[k],(k:Int)):=by
 rw[vY d,oI,if_pos h]
theorem LM{l:List Ar}{m:Nat}(d:m+1<l.length):wS (qM l (m+1)) l[m+1]=(decide (l[m+1].fr<l[m].en)||dN l[m] l[m+1]):=by
 rw[FB (show m<l.length by omega)];rfl
def oD(n:Int)(a:Ar):Bool:=decide (a.fr<=n)&&decide (n<a.en)
def il(l:List Ar)(n:Int):Int:=idx (oD n) l
def qW(b a:Ar):Bool:=decide (a.fr<b.en)&&decide (b.fr<a.en)
def Ai(b a:Ar):Bool:=decide (b.fr<a.fr)
def zAr:Ar:=⟨0,0,false,false,false,0,0⟩
def Aw(acc:List Ar)(a:Ar):List Ar:=match acc.getLast? with
 | some q=>if dN q a then acc.set (acc.length-1) { q with en:=a.en }else acc++[a]
 | none=>acc++[a]
def uk(l:List Ar):List Ar:=l.foldl Aw []
theorem sI{l:List Ar}(h:(bP l).1=0):l.length<=16/\∀a∈l,aU a=0:=by
 unfold bP at h;split at h
 .exact absurd h (by decide)
 refine⟨by omega,?_⟩;have m:∀(l:List Ar) (p:Option Ar) (i:Nat),(jQ p i l).1=0->∀a∈l,aU a=0:=by
  intro l
  induction l with
  | nil=>intro p i _ a d;cases d
  | cons b r ih=>
   intro p i h a d;rw[oI]at h;split at h
   .rename_i s;exact absurd h s
   rename_i s;split at h
   .exact absurd (show(2:Int)=0 from h) (by decide)
   rcases dx.1 d with rfl|d
   .exact rV s
   .exact ih _ _ h a d
 exact m l none 0 h
def WJ(l:List Ar)(x:Ar):Nat:=match l.findIdx? (Ai x)with
 | some k=>k
 | none=>l.length
def Ep(l:List Ar)(x:Ar):List Ar:=l.take (WJ l x)++x::l.drop (WJ l x)
def Ca(l:List Ar)(x:Ar):Int:=if(bP l).1≠0 then(bP l).1 else if aU x≠0 then aU x else if l.any (qW x)=true then 6 else if 16<(uk (Ep l x)).length then 4 else 0
def zn(l:List Ar)(x:Ar):List Ar:=if Ca l x≠0 then[]else uk (Ep l x)
theorem Iu{l:List Ar}{x:Ar}{e:Int}(h:Ca l x=e)(d:e≠0):Ca l x=e/\zn l x=[]:=by
 refine⟨h,?_⟩;unfold zn;rw[if_pos (by rw[h];exact d)]
def Ex(n:Nat):Int:=if 16<n then 4 else 0
def aa:Ar:=⟨2,8,true,false,false,-1,0⟩
structure Pg where
 rd:Bool
 wr:Bool
 sh:Bool
 fi:Int
 pg:Int
 deriving DecidableEq
def kN(a:Ar)(n:Int):Pg:=⟨a.rd,a.wr,a.sh,a.fi,if 0<=a.fi then a.ba+n-a.fr else 0⟩
def onA:List Ar->Int->Option Pg
 | [],_=>none
 | a::r,n=>if oD n a then some (kN a n)else onA r n
theorem dM{a:Ar}:oD n a=true↔a.fr<=n/\n<a.en:=by unfold oD;simp
theorem dn(a:Ar)(r:List Ar)(n:Int):onA (a::r) n=if oD n a then some (kN a n)else onA r n:=rfl
theorem Js(l m:List Ar)(n:Int):onA (l++m) n=(onA l n).or (onA m n):=by
 induction l with
 | nil=>simp[onA]
 | cons a r ih=>rw[IQ,dn,dn];split<;>simp[ih]
def srtF:Int->List Ar->Prop
 | _,[]=>True
 | lo,a::r=>aU a=0/\lo<=a.fr/\srtF a.en r
theorem srtF_ok:∀ {l:List Ar} {lo:Int},srtF lo l->∀a∈l,aU a=0/\lo<=a.fr
 | b::r,lo,h,a,ha=>by
  rcases dx.1 ha with rfl|ha
  .exact⟨h.1,h.2.1⟩
  have d:=srtF_ok h.2.2 a ha;have h2:=(bM h.1).2.1;have m:=h.2.1;exact⟨d.1,by omega⟩
theorem on_low:∀ {l:List Ar} {lo n:Int},srtF lo l->n<lo->onA l n=none
 | [],_,_,_,_=>rfl
 | a::r,lo,n,h,hn=>by have d:=h.2.1;have h2:=(bM h.1).2.1;rw[dn,if_neg (by rw[dM];omega)];exact on_low h.2.2 (by omega)
def okF(p:Option Ar):List Ar->Prop
 | []=>True
 | a::r=>aU a=0/\wS p a=false/\okF (some a) r
theorem Ad{q a:Ar}:wS (some q) a=false↔q.en<=a.fr/\dN q a=false:=by
 unfold wS;simp
theorem okF_srt:∀ {l:List Ar} {q:Ar},okF (some q) l->srtF q.en l
 | [],_,_=>trivial
 | a::r,q,h=>⟨h.1,(Ad.1 h.2.1).1,okF_srt h.2.2⟩
theorem lI{l:List Ar}(h:okF none l):srtF 0 l:=by
 match l,h with
 | [],_=>trivial
 | a::r,h=>exact⟨h.1,by have:=(bM h.1).1.2.1.1;exact this,okF_srt h.2.2⟩
theorem wrongAt_iff:∀ {l:List Ar} {p:Option Ar} {i:Nat},(jQ p i l).1=0↔okF p l
 | [],_,_=>⟨λ_=>trivial,λ_=>rfl⟩
 | a::r,p,i=>by
  rw[oI]
  by_cases h:aU a=0
  .rw[if_neg (by rw[h];simp)];cases hb:wS p a
   .rw[if_neg (by simp),wrongAt_iff];exact⟨λh2=>⟨h,hb,h2⟩,λh2=>h2.2.2⟩
   rw[if_pos rfl];refine⟨λh2=>absurd (show(2:Int)=0 from h2) (by decide),λh2 => ?_⟩;have d:=h2.2.1;rw[hb]at d;cases d
  rw[if_pos h];exact⟨λh2=>absurd h2 h,λh2=>absurd h2.1 h⟩
theorem iZ{l:List Ar}:(bP l).1=0↔l.length<=16/\okF none l:=by
 unfold bP
 by_cases h:16<l.length
 .rw[if_pos h];exact⟨λh2=>absurd (show(4:Int)=0 from h2) (by decide),λh2=>by omega⟩
 rw[if_neg h,wrongAt_iff];exact⟨λh2=>⟨by omega,h2⟩,λh2=>h2.2⟩
theorem vz{q a:Ar}:dN q a=true↔q.en=a.fr/\q.rd=a.rd/\q.wr=a.wr/\q.sh=a.sh/\q.fi=a.fi/\a.ba=kH q:=by
 unfold dN;simp[and_assoc]
theorem UF{q a:Ar}(h:dN q a=true)(n:Int):kN a n=kN q n:=by
 obtain⟨z,h2,u,s,p,m⟩:=vz.1 h;unfold kN kH at *
 rw[<-h2,<-u,<-s,<-p];split
 .rename_i d;rw[m,if_pos d];congr 1;omega
 .rfl
theorem on_uniq:∀ {l m:List Ar} {p q:Option Ar},okF p l->okF q m->(∀n,onA l n=onA m n)->l=m
 | [],[],_,_,_,_,_=>rfl
 | [],b::s,_,_,_,hm,h=>by have:=h b.fr;rw[dn,if_pos (dM.2 ⟨ul _,(bM hm.1).2.1⟩)]at this;cases this
 | a::r,[],_,_,hl,_,h=>by have:=h a.fr;rw[dn,if_pos (dM.2 ⟨ul _,(bM hl.1).2.1⟩)]at this;cases this
 | a::r,b::s,p,q,hl,hm,h=>by
  have ea:=bM hl.1;have eb:=bM hm.1;have U:=okF_srt hl.2.2;have S:=okF_srt hm.2.2;have A:∀ {a b:Ar} {r s:List Ar},aU a=0->aU b=0->srtF a.en r->srtF b.en s->(∀n,onA (a::r) n=onA (b::s) n)->¬a.fr<b.fr:=by intro a b r s ha hb D hs h F;have d:=h a.fr;have h2:=(bM ha).2.1;have h3:=(bM hb).2.1;rw[dn,if_pos (dM.2 ⟨ul _,h2⟩),dn,if_neg (by rw[dM];omega),on_low hs (by omega)]at d;cases d
  have G:a.fr=b.fr:=by have d:=A hl.1 hm.1 U S h;have h2:=A hm.1 hl.1 S U (λn=>(h n).symm);omega
  have d:=h a.fr;rw[dn,if_pos (dM.2 ⟨ul _,ea.2.1⟩),dn,if_pos (dM.2 ⟨by omega,by have:=eb.2.1;omega⟩)]at d;have E:=aM d;unfold kN at E;simp only[Pg.mk.injEq]at E;obtain⟨R,O,N,g4,g5⟩:=E;have H:a.ba=b.ba:=by
   by_cases M:0<=a.fi
   .rw[if_pos M,if_pos (by omega)]at g5;omega
   .rw[(ea.2.2.2.2.1 (by omega)).1,(eb.2.2.2.2.1 (by omega)).1]
  have z:∀ {a b:Ar} {r s:List Ar},aU a=0->aU b=0->okF (some a) r->a.fr=b.fr->a.rd=b.rd->a.wr=b.wr->a.sh=b.sh->a.fi=b.fi->a.ba=b.ba->(∀n,onA (a::r) n=onA (b::s) n)->¬a.en<b.en:=by
   intro a b r s ha hb D k1 k2 k3 k4 k5 k6 h F;have d:=h a.en;have h2:=(bM ha).2.1;rw[dn,if_neg (by rw[dM];omega),dn,if_pos (dM.2 ⟨by omega,F⟩)]at d
   match r,D with
   | [],_=>cases d
   | c::t,D=>
    have hc:=Ad.1 D.2.1;rw[dn]at d;split at d
    .rename_i u;rw[dM]at u;have X:=aM d;unfold kN at X;simp only[Pg.mk.injEq]at X;obtain⟨R,O,N,g4,g5⟩:=X;have:dN a c=true:=by
      rw[vz];refine⟨by omega,by rw[k2,R],by rw[k3,O],by rw[k4,N],by omega,?_⟩;unfold kH
      by_cases M:0<=a.fi
      .rw[if_pos (by omega),if_pos (by omega)]at g5;rw[if_pos M];omega
      rw[if_neg M];exact((bM D.1).2.2.2.2.1 (by omega)).1
     rw[hc.2]at this;cases this
    rename_i u;rw[dM]at u;have:=(bM D.1).2.1;rw[on_low (okF_srt D.2.2) (by omega)]at d;cases d
  have hen:a.en=b.en:=by have d:=z hl.1 hm.1 hl.2.2 G R O N g4 H h;have h2:=z hm.1 hl.1 hm.2.2 G.symm R.symm O.symm N.symm g4.symm H.symm (λn=>(h n).symm);omega
  have hab:a=b:=by
   cases a;cases b
   simp_all
  subst hab;congr 1;refine on_uniq hl.2.2 hm.2.2 λn => ?_;have d:=h n;rw[dn,dn]at d;split at d
  .rename_i u;rw[dM]at u;rw[on_low U (by omega),on_low S (by omega)]
  .exact d
def uP(q:Ar):List Ar->List Ar
 | []=>[q]
 | a::r=>if dN q a then uP { q with en:=a.en } r else q::uP a r
theorem KO(d:List Ar)(q a:Ar):Aw (d++[q]) a=if dN q a then d++[{ q with en:=a.en }]else d++[q]++[a]:=by
 unfold Aw;rw[DZ];simp only[];split
 .simp
 .rfl
theorem tidy_go:∀(r:List Ar) (d:List Ar) (q:Ar),r.foldl Aw (d++[q])=d++uP q r
 | [],d,q=>rfl
 | a::r,d,q=>by
  rw[Am,KO];unfold uP;split
  .exact tidy_go r d _
  .rw[tidy_go r (d++[q]) a,jN];rfl
theorem zg(a:Ar)(r:List Ar):uk (a::r)=uP a r:=by
 unfold uk;rw[Am];exact tidy_go r [] a
theorem CR{q a:Ar}(s:aU q=0)(u:aU a=0)(h:dN q a=true):aU { q with en:=a.en }=0:=by
 obtain⟨F,h2,E,D,A,d⟩:=vz.1 h;have m:=bM s;have p:=bM u;unfold vk at m p;unfold aU;rw[if_neg (by simp only[];omega),if_neg];simp only[];rintro(⟨k1,k2⟩|⟨k1,k2⟩)
 .have:=m.2.2.2.2.1 k1;rcases k2 with k2|k2
  .exact k2 this.1
  .rw[this.2]at k2;cases k2
 have z:=p.2.2.2.2.2 (by omega);unfold kH at d;rw[if_pos k1]at d;omega
theorem SG{q a:Ar}{r:List Ar}(p:aU q=0)(u:aU a=0)(h:dN q a=true)(n:Int):onA ({ q with en:=a.en }::r) n=onA (q::a::r) n:=by
 have s:=UF h n;obtain⟨A,_⟩:=vz.1 h;have h2:=(bM p).2.1;have z:=(bM u).2.1;rw[dn,dn,dn];have b:kN { q with en:=a.en } n=kN q n:=rfl
 by_cases m:oD n q=true
 .rw[if_pos m,if_pos (by rw[dM]at m ⊢; simp only[];omega),b]
 rw[if_neg m]
 by_cases d:oD n a=true
 .rw[if_pos d,if_pos (by rw[dM]at d ⊢; simp only[];omega),b,s]
 rw[if_neg d,if_neg];rw[dM]at m d ⊢;simp only[];omega
theorem tdOn:∀ {r:List Ar} {q:Ar},aU q=0->srtF q.en r->∀n,onA (uP q r) n=onA (q::r) n
 | [],q,_,_,n=>rfl
 | a::r,q,hq,h,n=>by
  unfold uP;split
  .rename_i d;rw[tdOn (CR hq h.1 d) (by simpa using h.2.2) n,SG hq h.1 d]
  .rw[dn,tdOn h.1 h.2.2 n,<-dn]
theorem tdOk:∀ {r:List Ar} {q:Ar} {p:Option Ar},aU q=0->srtF q.en r->wS p q=false->okF p (uP q r)
 | [],q,p,hq,_,hb=>⟨hq,hb,trivial⟩
 | a::r,q,p,hq,h,hb=>by
  unfold uP;split
  .rename_i d;refine tdOk (CR hq h.1 d) (by simpa using h.2.2) ?_;cases p with
   | none=>rfl
   | some z=>exact hb
  rename_i d;exact⟨hq,hb,tdOk h.1 h.2.2 (Ad.2 ⟨h.2.1,by simpa using d⟩)⟩
theorem Jf{l:List Ar}(h:srtF lo l)(n:Int):onA (uk l) n=onA l n:=by
 match l,h with
 | [],_=>rfl
 | a::r,h=>rw[zg,tdOn h.1 h.2.2]
theorem JJ{l:List Ar}(h:srtF lo l):okF none (uk l):=by
 match l,h with
 | [],_=>trivial
 | a::r,h=>rw[zg];exact tdOk h.1 h.2.2 rfl
def Od(x:Ar):List Ar->List Ar
 | []=>[x]
 | a::r=>if x.fr<a.fr then x::a::r else a::Od x r
theorem DY(x:Ar):∀l:List Ar,Ep l x=Od x l
 | []=>rfl
 | a::r=>by
  have d:=DY x r;unfold Ep WJ at d ⊢;unfold Od;rw[zJ]
  by_cases h:x.fr<a.fr
  .rw[if_pos h,if_pos (show Ai x a=true from decide_eq_true h)];rfl
  rw[if_neg h,if_neg (show ¬Ai x a=true by unfold Ai;simpa using h)];cases hq:r.findIdx? (Ai x)with
  | none=>rw[hq]at d;simp only[IL]at *; rw[<-d];simp
  | some k=>rw[hq]at d;simp only[rY]at *; rw[<-d];simp
theorem II{x:Ar}(p:aU x=0)(n:Int):∀ {l:List Ar} {lo:Int},srtF lo l->(∀a∈l,qW x a=false)->onA (Od x l) n=if oD n x then some (kN x n)else onA l n
 | [],_,_,_=>rfl
 | a::r,lo,h,hm=>by
  unfold Od;split
  .rfl
  rename_i s;rw[dn,dn,II p n h.2.2 (λb u=>hm b (jW _ u))]
  by_cases m:oD n a=true
  .rw[if_pos m,if_pos m];rw[if_neg];rw[dM]at m ⊢;have d:=hm a iM;unfold qW at d;have h2:=(bM p).2.1;have z:=(bM h.1).2.1;simp only[IY,decide_eq_false_iff_not]at d;omega
  .rw[if_neg m,if_neg m]
theorem FD{x:Ar}(m:aU x=0):∀ {l:List Ar} {lo:Int},srtF lo l->lo<=x.fr->(∀a∈l,qW x a=false)->srtF lo (Od x l)
 | [],lo,_,hl,_=>⟨m,hl,trivial⟩
 | a::r,lo,h,hl,hm=>by
  have d:=hm a iM;unfold qW at d;have h2:=(bM m).2.1;have u:=(bM h.1).2.1;simp only[IY,decide_eq_false_iff_not]at d;unfold Od;split
  .exact⟨m,hl,h.1,by omega,h.2.2⟩
  rename_i p;exact⟨h.1,h.2.1,FD m h.2.2 (by omega) (λb s=>hm b (jW _ s))⟩
theorem Uj{a:Ar}(h:aU a=0){k:Int}(d:oD k a=true):0<=k/\k<64:=by
 have:=(bM h).1;unfold vk at this;rw[dM]at d;omega
theorem toList_map{α β:Type}(o:Option α)(f:α->β):(o.map f).toList=o.toList.map f:=by cases o<;>rfl
theorem yM(l:List Ar)(n:Int):(0<=il l n)↔onA l n≠none:=by
 have h:=pK (oD n) l;have h2:l.any (oD n)=true↔onA l n≠none:=by
  induction l with
  | nil=>simp[onA]
  | cons a r ih=>rw[List.any_cons,dn];cases oD n a<;>simp[ih (pK _ _)]
 rw[<-h2,<-h,decide_eq_true_eq];exact Iff.rfl
def oR(o:Option Pg):Bool:=match o with | some p=>p.rd | none=>false
def oW(o:Option Pg):Bool:=match o with | some p=>p.wr | none=>false
def oH(o:Option Pg):Bool:=match o with | some p=>p.sh | none=>false
def oF(o:Option Pg):Int:=match o with | some p=>p.fi | none=>0
def oP(o:Option Pg):Int:=match o with | some p=>p.pg | none=>0
def OG(f:Nat->Option Pg):List (Option Pg):=(List.range 64).map f
theorem yF(f:Nat->Option Pg):(OG f).length=64:=by simp[OG]
theorem VE(f:Nat->Option Pg)(k:Nat)(x:Option Pg):(OG f).set k x=OG (λi=>if i=k then x else f i):=by
 unfold OG;apply nY;intro i;rw[oq]
 by_cases h:k=i
 .subst h
  by_cases d:k<64
  .simp[d]
  .simp[d]
 rw[if_neg h]
 by_cases m:i<64
 .simp[m,pu h]
 .simp[m]
def f0:Nat->Option Pg:=λ_=>none
def LB(A:Ar)(K:Int)(f:Nat->Option Pg):Nat->Option Pg:=λi=>if A.fr<=(i:Int)/\(i:Int)<K then some (kN A i)else f i
theorem PL(A:Ar)(f:Nat->Option Pg):LB A A.fr f=f:=by funext i;unfold LB;rw[if_neg (by omega)]
theorem Rw{A:Ar}(d:A.fr<=(K:Int))(f:Nat->Option Pg):(λi=>if i=K then some (kN A K)else LB A K f i)=LB A ((K:Int)+1) f:=by
 funext i;unfold LB
 by_cases h:i=K
 .subst h;rw[if_pos rfl,if_pos (by omega)]
 rw[if_neg h]
 by_cases c:A.fr<=(i:Int)/\(i:Int)<K
 .rw[if_pos c,if_pos (by omega)]
 .rw[if_neg c,if_neg (by omega)]
def cZ(l:List Ar):Nat->Option Pg:=l.foldl (λf A=>LB A A.en f) f0
theorem MC{l:List Ar}(d:k<l.length):cZ (l.take (k+1))=LB l[k] l[k].en (cZ (l.take k)):=by
 unfold cZ;rw[nR,aF d,Option.toList_some,DI];rfl
def rC(p q:Pg):Pg:=if 0<=p.fi then{ q with pg:=q.pg+1 }else q
def nD(f:Nat->Option Pg)(k:Nat)(p:Pg):Bool:=match k with
 | 0=>false
 | m+1=>match f m with
  | some q=>rC p q==p
  | none=>false
def gD(k:Nat)(p:Pg):Ar:=⟨k,(k:Int)+1,p.rd,p.wr,p.sh,p.fi,p.pg⟩
def xg(l:List Ar)(e:Int):List Ar:=match l.getLast? with
 | some q=>l.set (l.length-1) { q with en:=e }
 | none=>l
def lX(f:Nat->Option Pg):Nat->List Ar
 | 0=>[]
 | k+1=>match f k with
  | none=>lX f k
  | some p=>if nD f k p then xg (lX f k) ((k:Int)+1)else lX f k++[gD k p]
theorem Hm(l:List Ar)(e:Int):(xg l e).length=l.length:=by unfold xg;split<;>simp
theorem IG(f:Nat->Option Pg):∀k,(lX f k).length<=k
 | 0=>az _
 | k+1=>by
  have d:=IG f k;unfold lX;split
  .omega
  split
  .rw[Hm];omega
  .rw[jk,Ec];omega
theorem TB(f:Nat->Option Pg){m:Nat}{q:Pg}(h:f m=some q):0<(lX f (m+1)).length:=by
 have a:∀k (q:Pg),f k=some q->0<(lX f (k+1)).length:=by
  intro k
  induction k with
  | zero=>intro q h;unfold lX;rw[h];simp[nD]
  | succ k ih=>
   intro q h;rw[lX,h];simp only[]
   by_cases d:nD f (k+1) q=true
   .rw[if_pos d,Hm];cases hf:f k with
    | none=>
     have h2:nD f (k+1) q=false:=by simp only[nD,hf]
     rw[h2]at d;cases d
    | some z=>exact ih z hf
   .rw[if_neg d,jk,Ec];omega
 exact a m q h
theorem Xr(p q:Pg):(p==q)=(p.rd==q.rd&&(p.wr==q.wr&&(p.sh==q.sh&&(p.fi==q.fi&&p.pg==q.pg)))):=by
 cases p;cases q;rw[nC];simp
theorem TT{f:Nat->Option Pg}(h:f k=none):lX f (k+1)=lX f k:=by rw[lX,h]
theorem UD{f:Nat->Option Pg}{p:Pg}(h:f k=some p)(d:nD f k p=true):lX f (k+1)=xg (lX f k) ((k:Int)+1):=by
 rw[lX,h];simp only[];rw[if_pos d]
theorem DL{f:Nat->Option Pg}{p:Pg}(h:f k=some p)(d:nD f k p=false):lX f (k+1)=lX f k++[gD k p]:=by
 rw[lX,h];simp only[];rw[d];rfl
theorem Lm{l:List Ar}{n:Nat}(d:l.length=n+1)(e:Int):xg l e=l.set n { (l[n]'(by omega))with en:=e }:=by
 unfold xg;have:l.getLast?=some (l[n]'(by omega)):=by rw[List.getLast?_eq_getElem?,aF (by omega)];simp[d]
 rw[this];simp[d]
theorem PK{f:Nat->Option Pg}(h:f k=none):lX f (k+1)=lX f k:=by rw[lX,h]
theorem Vy{f:Nat->Option Pg}{p:Pg}(h:f k=some p)(d:nD f k p=true):lX f (k+1)=xg (lX f k) ((k:Int)+1):=by
 rw[lX,h];simp only[];rw[if_pos d]
theorem Sa{f:Nat->Option Pg}{p:Pg}(h:f k=some p)(d:nD f k p=false):lX f (k+1)=lX f k++[gD k p]:=by
 rw[lX,h];simp only[];rw[d];rfl
def Px(p:Pg):Prop:=-1<=p.fi/\p.fi<5/\0<=p.pg/\(p.fi<0->p.pg=0/\p.sh=false)/\(0<=p.fi->p.pg<=11)
theorem DX{l:List Ar}(h:∀a∈l,a.en<=n):onA l n=none:=by
 induction l with
 | nil=>rfl
 | cons a r ih=>
  have:=h a iM;rw[dn,if_neg (by rw[dM];omega),ih (λb d=>h b (jW _ d))]
theorem Sb{l:List Ar}{a:Ar}(h:a∈l)(d:oD n a=true):onA l n≠none:=by
 induction l with
 | nil=>cases h
 | cons b r ih=>
  rw[dn];split
  .simp
  rename_i m;rcases dx.1 h with rfl|h
  .exact absurd d m
  .exact ih h
theorem Lg{x y:Ar}(d:aU y=0)(m:∀p,wS p x=false->wS p y=false):∀ {l:List Ar} {p:Option Ar},okF p (l++[x])->okF p (l++[y])
 | [],p,h=>⟨d,m p h.2.1,trivial⟩
 | a::r,p,h=>⟨h.1,h.2.1,Lg d m h.2.2⟩
theorem KZ{x y:Ar}(d:aU y=0)(m:wS (some x) y=false):∀ {l:List Ar} {p:Option Ar},okF p (l++[x])->okF p (l++[x]++[y])
 | [],p,h=>⟨h.1,h.2.1,d,m,trivial⟩
 | a::r,p,h=>⟨h.1,h.2.1,KZ d m h.2.2⟩
theorem Cj{x:Ar}:∀ {l:List Ar} {p:Option Ar},okF p (l++[x])->aU x=0
 | [],p,h=>h.1
 | a::r,p,h=>Cj h.2.2
theorem Ps(s:k<64){p:Pg}(d:Px p):aU (gD k p)=0:=by
 obtain⟨z,h2,u,m,h⟩:=d;unfold aU gD;simp only[];rw[if_neg (by omega),if_neg];rintro(⟨a,b⟩|⟨a,b⟩)
 .have:=m a;rcases b with b|b
  .exact b this.1
  .rw[this.2]at b;cases b
 .have:=h a;omega
theorem Qi{a:Ar}{m:Nat}{p:Pg}(h:rC p (kN a m)=p):kN a ((m:Int)+1)=p:=by
 unfold rC at h
 by_cases d:0<=p.fi
 .rw[if_pos d]at h;have b:a.fi=p.fi:=by rw[<-h];rfl
  rw[<-h];unfold kN;simp only[];rw[if_pos (by omega),if_pos (by omega)];congr 1;omega
 rw[if_neg d]at h;have b:a.fi=p.fi:=by rw[<-h];rfl
 rw[<-h];unfold kN;rw[if_neg (by omega),if_neg (by omega)]
structure XM (f:Nat->Option Pg) (k:Nat):Prop where
 ok:okF none (lX f k)
 en:∀a∈lX f k,a.en<=(k:Int)
 on:∀i:Nat,i<k->onA (lX f k) i=f i
 last:∀m q,k=m+1->f m=some q->∃init a,lX f k=init++[a]/\a.en=(k:Int)/\a.fr<=(m:Int)/\kN a m=q
theorem TL{f:Nat->Option Pg}(hf:∀i p,i<64->f i=some p->Px p):∀k,k<=64->XM f k
 | 0,_=>⟨trivial,λa H=>(by cases H),λi hi=>absurd hi (fq _),λm q h=>(by cases h)⟩
 | k+1,hk=>by
  have M:=TL hf k (by omega);have R:=M.en;cases hfk:f k with
  | none=>
   have d:=PK hfk;refine⟨by rw[d];exact M.ok,λa H=>by rw[d]at H;have:=R a H;omega,λi hi => ?_,λm q hm hq => ?_⟩
   .rw[d]
    by_cases u:i=k
    .subst u;rw[hfk];exact DX R
    .exact M.on i (by omega)
   obtain rfl:m=k:=by omega
   rw[hfk]at hq;cases hq
  | some p=>
   have hp:=hf k p (by omega) hfk;cases hs:nD f k p
   .have d:=Sa hfk hs;have hx:=Ps (by omega:k<64) hp;have F:okF none (lX f (k+1)):=by
     rw[d];rcases List.eq_nil_or_concat (lX f k)with h0|⟨A,a,h0⟩
     .rw[h0];exact⟨hx,rfl,trivial⟩
     rw[List.concat_eq_append]at h0;have E:=M.ok;have D:=M.on;rw[h0]at E D R ⊢;have hae:=R a (uQ _ iM);refine KZ hx (Ad.2 ⟨hae,?_⟩) E;cases hj:dN a (gD k p)
     .rfl
     exfalso;obtain⟨j1,j2,j3,j4,j5,j6⟩:=vz.1 hj;have j1' : a.en=(k:Int):=j1;have O:=Cj E;have hfr:=(bM O).1.2.1.1;have hlt:=(bM O).2.1;obtain⟨m,rfl⟩:∃m,k=m+1:=⟨k-1,by omega⟩;have hin:oD (m:Int) a=true:=dM.2 ⟨by omega,by omega⟩;cases hfm:f m with
     | none=>
      have h1:=D m (by omega);rw[hfm]at h1;exact Sb (uQ _ iM) hin h1
     | some q=>
      obtain⟨init',a',e1,e2,e3,e4⟩:=M.last m q rfl hfm;rw[h0]at e1;have haa:a=a':=by have:=congrArg List.getLast? e1;rw[DZ,DZ]at this;exact aM this
      subst haa;have N:nD f (m+1) p=(rC p q==p):=by simp only[nD,hfm]
      rw[N]at hs;have:rC p q=p:=by
       rw[<-e4];have k2:a.rd=p.rd:=j2;have k3:a.wr=p.wr:=j3;have k4:a.sh=p.sh:=j4;have k5:a.fi=p.fi:=j5;have k6:p.pg=kH a:=j6;unfold kH at k6;clear hx hfk hp d hj hs e4 j2 j3 j4 j5 j6 N;cases p with
       | mk prd pwr psh pfi ppg=>
        have k2:a.rd=prd:=k2;have k3:a.wr=pwr:=k3;have k4:a.sh=psh:=k4;have k5:a.fi=pfi:=k5;have k6:ppg=if 0<=a.fi then a.ba+a.en-a.fr else 0:=k6;subst k2 k3 k4 k5 k6;unfold rC kN;show(if 0<=a.fi then(⟨a.rd,a.wr,a.sh,a.fi,(if 0<=a.fi then a.ba+(m:Int)-a.fr else 0)+1⟩:Pg)else⟨a.rd,a.wr,a.sh,a.fi,if 0<=a.fi then a.ba+(m:Int)-a.fr else 0⟩)=_
        by_cases s:0<=a.fi
        .rw[if_pos s,if_pos s,if_pos s];congr 1;omega
        .rw[if_neg s,if_neg s,if_neg s]
      rw[this]at hs;simp at hs
    refine⟨F,λa H => ?_,λi hi => ?_,λm q hm hq => ?_⟩
    .rw[d]at H;rcases gH.1 H with H|H
     .have:=R a H;omega
     .rw[bB.1 H];show(k:Int)+1<=_;omega
    .rw[d,Js];have hone:onA [gD k p] (i:Int)=if i=k then some p else none:=by
      rw[dn]
      by_cases u:i=k
      .subst u;rw[if_pos rfl,if_pos (show oD (i:Int) (gD i p)=true from dM.2 ⟨ul _,by show(i:Int)<i+1;omega⟩)];unfold kN gD;simp only[];congr 1;obtain⟨_,_,_,h4,_⟩:=hp;cases p with
       | mk rd wr sh fi pg=>
        simp only[Pg.mk.injEq,true_and];simp only[]at h4;split
        .omega
        .exact(h4 (by omega)).1.symm
      rw[if_neg u,if_neg]
      .rfl
      rw[dM];show ¬((k:Int)<=i/\(i:Int)<k+1);omega
     rw[hone]
     by_cases u:i=k
     .subst u;rw[if_pos rfl,DX R,hfk];rfl
     .rw[if_neg u,M.on i (by omega),Option.or_none]
    obtain rfl:m=k:=by omega
    rw[hfk]at hq;cases hq;refine⟨lX f m,gD m p,d,by show(m:Int)+1=_;omega,ul _,?_⟩;unfold kN gD;simp only[];obtain⟨_,_,_,h4,_⟩:=hp;cases p with
    | mk rd wr sh fi pg=>
     simp only[Pg.mk.injEq,true_and];simp only[]at h4;split
     .omega
     .exact(h4 (by omega)).1.symm
   have d:=Vy hfk hs;obtain⟨m,rfl⟩:∃m,k=m+1:=by
    cases k with
    | zero=>cases hs
    | succ m=>exact⟨m,rfl⟩
   have N:nD f (m+1) p=(match f m with | some q=>rC p q==p | none=>false):=rfl;rw[N]at hs;cases hfm:f m with
   | none=>rw[hfm]at hs;cases hs
   | some q=>
    rw[hfm]at hs;have hnx:rC p q=p:=by simpa using hs
    obtain⟨A,a,e1,e2,e3,e4⟩:=M.last m q rfl hfm;have F:=M.ok;have D:=M.on;rw[e1]at F D R d;have O:=Cj F;have ef:=bM O;rw[<-e4]at hnx;have U:=Qi hnx;have X:xg (A++[a]) (((m+1:Nat):Int)+1)=A++[{ a with en:=((m+1:Nat):Int)+1 }]:=by unfold xg;rw[DZ];simp
    rw[X]at d;have hy:aU { a with en:=((m+1:Nat):Int)+1 }=0:=by
     unfold vk at ef;have e5:=ef.2.2.2.2.1;unfold aU;simp only[];rw[if_neg (by omega),if_neg];rintro(⟨b1,b2⟩|⟨b1,b2⟩)
     .have:=e5 b1;rcases b2 with b2|b2
      .exact b2 this.1
      .rw[this.2]at b2;cases b2
     have h5:=hp.2.2.2.2;rw[<-U]at h5;have h6:=h5 b1;unfold kN at h6;simp only[]at h6;rw[if_pos b1]at h6;omega
    have G:∀b∈A,b.en<=((m+1:Nat):Int):=λb S=>R b (qg _ S);have s:∀n,kN { a with en:=((m+1:Nat):Int)+1 } n=kN a n:=λn=>rfl;refine⟨?_,λb S => ?_,λi hi => ?_,λm' q' hm' hq' => ?_⟩
    .rw[d];refine Lg hy (λz hz => ?_) F;cases z with
     | none=>rfl
     | some z=>exact hz
    .rw[d]at S;rcases gH.1 S with S|S
     .have:=G b S;omega
     .rw[bB.1 S];show((m+1:Nat):Int)+1<=_;omega
    .rw[d,Js]
     by_cases u:i=m+1
     .subst u;rw[DX G,dn,if_pos (dM.2 ⟨by show a.fr<=((m+1:Nat):Int);omega,by show((m+1:Nat):Int)<((m+1:Nat):Int)+1;omega⟩),s,hfk];show some (kN a ((m+1:Nat):Int))=some p;rw[show((m+1:Nat):Int)=(m:Int)+1 by omega,U]
     have h1:=D i (by omega);rw[Js]at h1;rw[<-h1];congr 1;rw[dn,dn,s]
     by_cases c:oD (i:Int) a=true
     .rw[if_pos c,if_pos (by rw[dM]at c ⊢; show a.fr<=(i:Int)/\(i:Int)<((m+1:Nat):Int)+1;omega)]
     .rw[if_neg c,if_neg (by rw[dM]at c ⊢; show ¬(a.fr<=(i:Int)/\(i:Int)<((m+1:Nat):Int)+1);omega)]
    obtain rfl:m' = m+1:=by omega
    rw[hfk]at hq';cases hq';refine⟨A,_,d,by show((m+1:Nat):Int)+1=_;omega,by show a.fr<=_;omega,?_⟩;rw[s,show((m+1:Nat):Int)=(m:Int)+1 by omega,U]
theorem Qd{f:Nat->Option Pg}(s:∀i p,i<64->f i=some p->Px p):okF none (lX f 64)/\∀n:Int,onA (lX f 64) n=if 0<=n/\n<64 then f n.toNat else none:=by
 have h:=TL s 64 (az _);refine⟨h.ok,λn => ?_⟩
 by_cases d:0<=n/\n<64
 .rw[if_pos d];have:=h.on n.toNat (by omega);rwa [show((n.toNat:Nat):Int)=n by omega]at this
 rw[if_neg d];cases ho:onA (lX f 64) n with
 | none=>rfl
 | some p=>
  exfalso;have m:=lI h.ok
  by_cases z:n<0
  .rw[on_low m z]at ho;cases ho
  .rw[DX (λa u=>by have:=h.en a u;omega)]at ho;cases ho
theorem fold_on:∀ {l:List Ar} {lo:Int} (g:Nat->Option Pg),srtF lo l->∀i:Nat,(l.foldl (λf A=>LB A A.en f) g) i=(onA l i).or (g i)
 | [],_,g,_,i=>by simp[onA]
 | a::r,lo,g,h,i=>by
  rw[Am,fold_on _ h.2.2,dn]
  by_cases c:oD (i:Int) a=true
  .rw[if_pos c,on_low h.2.2 (dM.1 c).2];unfold LB;rw[if_pos (dM.1 c)];rfl
  rw[if_neg c];unfold LB;rw[if_neg (λh=>c (dM.2 h))]
theorem pJ{l:List Ar}(h:srtF lo l)(i:Nat):cZ l i=onA l i:=by
 unfold cZ;rw[fold_on _ h];simp[f0]
theorem OZ{a:Ar}(m:aU a=0)(d:oD n a=true):Px (kN a n):=by
 have e:=bM m;unfold vk at e;rw[dM]at d;have s:=e.2.2.2.2.1;have p:=e.2.2.2.2.2;unfold Px kN;simp only[];refine⟨by omega,by omega,by split<;>omega,λh=>⟨by rw[if_neg (by omega)],(s h).2⟩,λh=>by rw[if_pos h];have:=p h;omega⟩
theorem Sd{l:List Ar}(h:srtF lo l){p:Pg}(d:onA l n=some p):Px p:=by
 induction l generalizing lo with
 | nil=>cases d
 | cons a r ih=>
  rw[dn]at d;split at d
  .rename_i m;cases d;exact OZ h.1 m
  .exact ih h.2.2 d
theorem NG{f:Nat->Option Pg}{m:List Ar}(s:okF none m)(u:∀i:Nat,i<64->f i=onA m i):lX f 64=m:=by
 have d:=lI s;obtain⟨F,h2⟩:=Qd (f:=f) (λi p A z=>Sd d (by rw[<-u i A];exact z));refine on_uniq F s λn => ?_;rw[h2]
 by_cases h:0<=n/\n<64
 .rw[if_pos h,u _ (by omega),show((n.toNat:Nat):Int)=n by omega]
 rw[if_neg h];symm;cases ho:onA m n with
 | none=>rfl
 | some p=>
  exfalso;have:∃a∈m,oD n a=true:=by have D:=(yM m n).2 (by rw[ho];simp);have:=pK (oD n) m;rw[show decide (0<=idx (oD n) m)=true from decide_eq_true D]at this;exact jK.1 this.symm
  obtain⟨a,E,b⟩:=this;have:=Uj (srtF_ok d a E).1 b;omega
theorem RY{a b:Ar}(m:aU a=0)(p:aU b=0)(h:a.en<=b.fr):(lX (cZ [a,b]) 64).length=if dN a b=true then 1 else 2:=by
 have d:srtF 0 [a,b]:=⟨m,(bM m).1.2.1.1,p,h,trivial⟩;have e:lX (cZ [a,b]) 64=uk [a,b]:=NG (JJ d) λi _=>by rw[pJ d,Jf d]
 rw[e,zg];unfold uP;split<;>rfl
theorem KG{l:List Ar}(h:srtF lo l):∀i p,cZ l i=some p->0<=p.pg/\p.pg<=100:=by
 intro i p d;rw[pJ h]at d;obtain⟨_,_,z,u,s⟩:=Sd h d;refine⟨z,?_⟩
 by_cases m:p.fi<0
 .rw[(u m).1];decide
 .have:=s (by omega);omega
def uM(x:Ar)(n:Nat)(f:Nat->Option Pg):Nat->Option Pg:=λi=>if oD (i:Int) x=true/\i<n then some (kN x i)else f i
theorem Oe(x:Ar)(f:Nat->Option Pg):uM x 0 f=f:=by funext i;unfold uM;rw[if_neg (by omega)]
theorem VD(x:Ar)(n:Nat)(f:Nat->Option Pg):uM x n f n=f n:=by unfold uM;rw[if_neg (by omega)]
theorem QV{x:Ar}{n:Nat}(h:¬oD (n:Int) x=true)(f:Nat->Option Pg):uM x (n+1) f=uM x n f:=by
 funext i;unfold uM
 by_cases c:i=n
 .subst c;rw[if_neg (λq=>h q.1),if_neg (λq=>h q.1)]
 by_cases d:oD (i:Int) x=true/\i<n
 .rw[if_pos d,if_pos ⟨d.1,by omega⟩]
 .rw[if_neg d,if_neg (λq=>d ⟨q.1,by omega⟩)]
theorem RH{x:Ar}{n:Nat}(h:oD (n:Int) x=true)(f:Nat->Option Pg):(λi=>if i=n then some (kN x n)else uM x n f i)=uM x (n+1) f:=by
 funext i;unfold uM
 by_cases c:i=n
 .subst c;rw[if_pos rfl,if_pos ⟨h,by omega⟩]
 rw[if_neg c]
 by_cases d:oD (i:Int) x=true/\i<n
 .rw[if_pos d,if_pos ⟨d.1,by omega⟩]
 .rw[if_neg d,if_neg (λq=>d ⟨q.1,by omega⟩)]
theorem Sj(x:Ar)(i:Nat):cZ [x] i=if oD (i:Int) x=true then some (kN x i)else none:=by
 unfold cZ;simp only[Am,List.foldl_nil];unfold LB f0
 by_cases c:oD (i:Int) x=true
 .rw[if_pos c,if_pos (dM.1 c)]
 .rw[if_neg c,if_neg (λh=>c (dM.2 h))]
theorem Sz{l:List Ar}{x:Ar}{i:Int}(d:oD i x=true)(h:onA l i≠none):l.any (qW x)=true:=by
 have m:=(yM l i).2 h;have:=pK (oD i) l;rw[show decide (0<=idx (oD i) l)=true from decide_eq_true m]at this;obtain⟨a,p,b⟩:=jK.1 this.symm;refine jK.2 ⟨a,p,?_⟩;rw[dM]at d b;unfold qW;rw[decide_eq_true (by omega),decide_eq_true (by omega)];rfl
theorem Vg{l:List Ar}{x:Ar}(d:okF none l)(s:aU x=0)(h:∀i:Nat,i<64->¬(oD (i:Int) x=true/\onA l i≠none)):l.any (qW x)=false:=by
 rw[uX];intro a p m;have b:=(srtF_ok (lI d) a p).1;have z:=bM b;have u:=bM s;unfold vk at z u;unfold qW at m;rw[dW,decide_eq_true_eq,decide_eq_true_eq]at m;refine h (max a.fr x.fr).toNat (by omega) ⟨dM.2 (by omega),Sb p (dM.2 (by omega))⟩
theorem FO{e:En}(h:eF e=0):qi e=Jl e:=by
 unfold eF at h;unfold qi Jl;split at h
 .cases h
 rename_i d;rw[nC];simp;omega
theorem Ae{h:List En}(s:mY h=0):∀e∈h,eF e=0:=by
 intro e D;obtain⟨i,A,rfl⟩:=jM.1 D;have E:=qc s
 by_cases m:∀j (z:j<h.length),eF h[j]=0
 .exact m i A
 exfalso;have p:firstE (h.map eF)≠0:=by
  intro p;apply m;intro j z;have u:∀(l:List Int),firstE l=0->∀x∈l,x=0:=by
   intro l
   induction l with
   | nil=>intro _ x d;cases d
   | cons y r ih=>
    intro h x d
    by_cases e:y=0
    .simp only[firstE,e,if_true]at h;rcases dx.1 d with rfl|d
     .exact e
     .exact ih h x d
    .simp only[firstE,e,if_false]at h
  exact u _ p _ (eU.2 ⟨h[j],eu z,rfl⟩)
 unfold mY at s;rw[if_neg (by omega),if_pos p]at s;exact p s
theorem GN{t:Tb}(p:i<8)(h:mY t[i]=0):mF (dE t) i=if t[i].length=0 then List.replicate 8 zEn else t[i]:=by
 have d:=qc h;apply nY;intro r;unfold mF dE;rw[mg]
 by_cases m:r<8
 .rw[if_pos m,qQ,iV,rT (by omega)];simp only[rY];rcases d with d|d
  .rw[if_pos d,qa,if_pos m,Ce p m d]
  .rw[if_neg (by omega),aF (by omega),Hu p m d (aF (by omega))]
 rw[if_neg m,eY];split
 .simp;omega
 .omega
theorem JS{h:List En}(p:∀e∈h,eF e=0):h.any Jl=h.any qi:=by
 rw[nC];simp only[jK];constructor
 .rintro⟨e,d,m⟩;exact⟨e,d,by rw[FO (p e d)];exact m⟩
 .rintro⟨e,d,m⟩;exact⟨e,d,by rw[<-FO (p e d)];exact m⟩
theorem Td{h:List En}(m:mY h=0)(u:h.length≠0):h.any qi=true:=by
 have d:=xR (qc m) (λi s=>Ae m _ (eu s));rw[m]at d
 by_cases p:h.any (λe=>decide (e.k≠0))=false
 .rw[if_pos ⟨by omega,p⟩]at d;cases d
 .simpa[qi]using p
theorem Cu{t:Tb}(m:i<8)(h:mY t[i]=0):nz (dE t) i=t[i]:=by
 unfold nz;rw[GN m h]
 by_cases d:t[i].length=0
 .rw[if_pos d];have:t[i]=[]:=kU d;rw[this];decide
 rw[if_neg d,JS (Ae h),Td h d];rfl
theorem Ez{t:Tb}{e:En}(h:setE t n e=0):setT t n e=ig ((dE t).set n.toNat e):=by
 have A:dB t=0:=by
  unfold setE at h
  by_cases D:dB t=0
  .exact D
  .rw[if_pos D]at h;exact h
 have u:0<=n/\n<64:=by
  unfold setE at h;rw[if_neg (by rw[A];simp)]at h
  by_cases u:n<0\/64<=n
  .rw[if_pos u]at h;cases h
  .omega
 have M:eF e=0:=by unfold setE at h;rwa [if_neg (by rw[A];simp),if_neg (by omega)]at h
 obtain⟨q,r,E,H,a,_,_⟩:=yc u;have N:n.toNat=8*q+r:=by omega
 rw[Pd h E H a,N];apply yL;intro i p;simp only[ig,qY];have z:=mQ A i p
 by_cases G:i=q
 .subst G;rw[Vector.getElem_set_self];have s:mF ((dE t).set (8*i+r) e) i=(mF (dE t) i).set r e:=by
   apply nY;intro k;have b:(dE t).length=64:=by simp[dE]
   by_cases d:k<8
   .unfold mF;rw[mg,if_pos d,qQ]
    by_cases F:k=r
    .subst F;rw[wy (by omega),wy (by simp;omega)]
    .rw[uw (by omega),uw (λh=>F h.symm),mg,if_pos d,qQ]
   .rw[eY (by simp[mF];omega),eY (by simp[mF];omega)]
  unfold nz;rw[s,GN p z];unfold setH Wv;rw[JS];intro x m;rcases lU m with m|rfl
  .split at m
   .rw[(Dl.1 m).2];rfl
   .exact Ae z x m
  .exact M
 rw[yw E p (λh=>G h.symm)];have s:mF ((dE t).set (8*q+r) e) i=mF (dE t) i:=by
  apply nY;intro k;unfold mF;rw[mg,mg]
  by_cases d:k<8
  .rw[if_pos d,if_pos d,qQ,qQ,uw (by omega)]
  .rw[if_neg d,if_neg d]
 have:nz ((dE t).set (8*q+r) e) i=nz (dE t) i:=by unfold nz;rw[s]
 rw[this,Cu p z]
theorem Rm{m:List Int}(d:l.length=m.length)(h:∀i (s:i<l.length),l[i]=m[i]'(by omega)):(l==m)=true:=by
 rw[beq_iff_eq];exact qZ d λi p h2=>h i p
theorem QU{m:List Int}(k:Nat)(d:k<l.length)(h2:k<m.length)(h:l[k]≠m[k]):(l==m)=false:=by
 rw[beq_eq_false_iff_ne];rintro rfl;exact h rfl
theorem AR(t:Tb)(k:Nat)(h:k<64):(dE t)[k]?=some (dK t (k:Int)):=by
 unfold dE;simp[h]
theorem nP(t:Tb):(dE t).length=64:=by simp[dE]
theorem Nw(t:Tb):Ht t t=true:=Hd λ_ _=>rfl
theorem qL{t:Tb}(h:dB t=0)(n:Int):eF (dK t n)=0:=by
 by_cases p:0<=n/\n<64
 .obtain⟨q,r,d,m,rfl,_,_⟩:=yc p;rw[zX d m];split
  .rename_i s;rw[aY,aF (by omega)];exact Ae (mQ h q d) _ (eu _)
  .rfl
 .rw[sZ (by omega)];rfl
theorem Uw{e:En}(h:eF e=0)(h2:Jl e=false):e=zEn:=by
 have s:=FO h;rw[h2]at s;have m:e.k=0:=by simpa[qi]using s
 unfold eF at h;obtain⟨k,n,w⟩:=e;simp only at m;subst m;simp at h
 by_cases p:n<0\/60<=n
 .rw[if_pos p]at h;cases h
 rw[if_neg p]at h
 by_cases d:¬n=0\/w=true
 .rw[if_pos d]at h;cases h
 simp only[not_or,rf,Bool.not_eq_true]at d;obtain⟨rfl,rfl⟩:=d;rfl
theorem EM{l:List En}{x:En}(h:x∈mF l i):x∈l:=List.mem_of_mem_drop (List.mem_of_mem_take h)
theorem JN{l:List En}(h:∀x∈l,eF x=0)(s:l.length=64)(z:i<8):mY (nz l i)=0:=by
 unfold nz
 by_cases d:(mF l i).any Jl=true
 .rw[if_pos d];have a:(mF l i).length=8:=Fx s z (by omega);rw[xR (.inr a) (λj u=>h _ (EM (eu u))),if_neg];rintro⟨_,h2⟩;have m:=JS (h:=mF l i) (λx p=>h x (EM p));rw[d]at m;have A:(mF l i).any qi=false:=h2;rw[A]at m;cases m
 .rw[if_neg d];rfl
theorem CB{l:List En}(h:∀x∈l,eF x=0)(d:l.length=64):dB (ig l)=0:=
 xm λi m=>by simp only[ig,qY];exact JN h d m
theorem zt{l:List En}(h:∀x∈l,eF x=0)(u:l.length=64){n:Nat}(z:n<64):dK (ig l) (n:Int)=l[n]'(by omega):=by
 obtain⟨q,r,p,s,d,_,_⟩:=yc (n:=(n:Int)) (by omega);have c : n=8*q+r:=by omega
 subst c;rw[zX p s];simp only[ig,qY];unfold nz;have b:(mF l q).length=8:=Fx u p (by omega);have a:(mF l q)[r]'(by omega)=l[8*q+r]'(by omega):=by simp[mF]
 by_cases m:(mF l q).any Jl=true
 .simp only[if_pos m,if_pos b];rw[aY,aF (by omega),<-a];rfl
 simp only[if_neg m];rw[if_neg (by decide),<-a];symm;refine Uw (h _ (EM (eu _))) ?_;simp only[jK,not_exists,not_and,Bool.not_eq_true]at m;exact m _ (eu _)
theorem zC{t:Tb}(h:dB t=0):ig (dE t)=t:=by
 apply yL;intro i d;simp only[ig,qY];exact Cu d (mQ h i d)
theorem EP{l:List En}(h:∀x∈l,eF x=0)(d:l.length=64):dE (ig l)=l:=by
 apply qZ
 .rw[nP,d]
 intro i m h2;have:=AR (ig l) i (by omega);rw[zt h d (by omega),aF m]at this;exact aM this
theorem Ux{t:Tb}(h:dB t=0):∀x∈dE t,eF x=0:=by
 intro x d;obtain⟨i,m,rfl⟩:=eU.1 d;exact qL h _
theorem wP{t:Tb}{e:En}(h:setE t n e=0):dB t=0/\(0<=n/\n<64)/\eF e=0:=by
 unfold setE at h
 by_cases d:dB t=0
 .rw[if_neg (by rw[d];simp)]at h
  by_cases m:n<0\/64<=n
  .rw[if_pos m]at h;cases h
  rw[if_neg m]at h;exact⟨d,by omega,h⟩
 .rw[if_pos d]at h;exact absurd h d
theorem Bn{t:Tb}{e:En}(h:dB t=0)(h2:0<=n/\n<64)(d:eF e=0):setE t n e=0:=by
 unfold setE;rw[if_neg (by rw[h];simp),if_neg (by omega),d]
theorem IV{t:Tb}{n:Nat}{e:En}(m:dB t=0)(h:eF e=0):∀x∈(dE t).set n e,eF x=0:=by
 intro x d;rcases lU d with d|rfl
 .exact Ux m x d
 .exact h
theorem qm{t:Tb}{e:En}(h:setE t n e=0):dB (setT t n e)=0:=by
 obtain⟨m,h2,d⟩:=wP h;rw[Ez h];exact CB (IV m d) (by rw[bL,nP])
theorem Bp{t:Tb}{e:En}(h:setE t n e=0)(k:Int):dK (setT t n e) k=if k=n then e else dK t k:=by
 obtain⟨s,h2,p⟩:=wP h;rw[Ez h]
 by_cases m:0<=k/\k<64
 .obtain⟨j,rfl⟩:=iL m.1;rw[zt (IV s p) (by rw[bL,nP]) (by omega)];rw[DC]
  by_cases d:(j:Int)=n
  .rw[if_pos (by omega),if_pos d]
  rw[if_neg (by omega),if_neg d];have:=AR t j (by omega);rw[aF (by rw[nP];omega)]at this;exact aM this
 .rw[if_neg (by omega),sZ (by omega),sZ (by omega)]
theorem TN(t:Tb):∀n∈aT t,0<=n/\n<64:=by
 intro n d;unfold aT kC at d;obtain⟨m,h,rfl⟩:=eU.1 d;have:=dG.1 (uO.1 h).1;omega
theorem Me{t:Tb}(h:dB t=0):Gi t:=λk d=>by
 have:=qc (mQ h k d);omega
theorem zTb_right:dB zTb=0:=by decide
theorem EX{m:Mem}{f:Fr}(d:bv m=0)(s:bR f=0):bv ⟨m.fs.set k f,m.hand⟩=0:=by
 obtain⟨A,h2,z,u⟩:=(dO m).1 d;rw[dO];simp only[bL];refine⟨A,λg p => ?_,z,u⟩;rcases lU p with h|rfl
 .exact h2 g h
 .exact s
theorem Ev(f:Fr):bR f=0\/bR f=3\/bR f=7:=by
 unfold bR;split
 .exact .inr (.inl rfl)
 split
 .exact .inr (.inr rfl)
 .exact .inl rfl
theorem firstEf_mem:∀l:List Fr,firstEf l=0\/firstEf l=3\/firstEf l=7
 | [] => .inl rfl
 | f::r=>by
  unfold firstEf;split
  .exact Ev f
  .exact firstEf_mem r
theorem NP(m:Mem):bv m=0\/bv m=3\/bv m=4\/bv m=7:=by
 unfold bv;have:=firstEf_mem m.fs;split
 .omega
 split
 .omega
 .split<;>omega
theorem Rl{l:List Fr}(h:wT l=some k):∃d:k<l.length,l[k].r=0:=by
 unfold wT at h;rw[sj]at h;obtain⟨d,m,_⟩:=h;exact⟨d,by simpa using m⟩
theorem Um{l:List Fr}(h:wT l=none):dR l=0:=by
 unfold wT at h;rw[vU]at h;unfold dR;rw[Di,List.filter_eq_nil_iff];exactλf d=>by simpa using h f d
theorem QR{m:Mem}{p:Page}(h:iq m p file index=10):dR m.fs=0:=by
 unfold iq at h;have d:=NP m;have h2:=Ev (bK p file index);split at h
 .omega
 split at h
 .omega
 split at h
 .exact Um ‹_›
 .cases h
theorem Vs{m:Mem}{p:Page}(h:iq m p file index=0):bv m=0/\bR (bK p file index)=0/\∃k,∃d:k<m.fs.length,m.fs[k].r=0/\iJ m p file index=k/\fB m p file index=⟨m.fs.set k (bK p file index),m.hand⟩:=by
 have u:=h;unfold iq at h;split at h
 .exact absurd h ‹_›
 rename_i D;split at h
 .exact absurd h ‹_›
 rename_i h2;split at h
 .cases h
 rename_i A;cases hf:wT m.fs with
 | none=>exact absurd hf A
 | some k=>
  obtain⟨d,z⟩:=Rl hf;have s:iJ m p file index=k:=by unfold iJ;rw[if_pos u,hf];rfl
  exact⟨by omega,by omega,k,d,z,s,by unfold fB;rw[if_pos u,s]⟩
theorem Ox{f:Fr}(h:bR f=0)(m:f.r=0):f=frZ:=by
 obtain⟨⟨_,_,H,_,_,_⟩,h2,G⟩:=(dL f).1 h;obtain⟨F,E,D,A⟩:=h2 m;have z:=G D;have s:f.f = -1:=by omega
 obtain⟨p,r,u,d,M,i⟩:=f;simp only at *
 subst m F E A z s;rfl
theorem ET(h:dH l=0):∀x∈l,rU x=false:=by
 unfold dH at h;split at h
 .omega
 split at h
 .omega
 rename_i m;intro x d;have:=uX.1 (by simpa using m) x d;simpa using this
theorem He(m:l.length<=60)(h:∀x∈l,rU x=false):dH l=0:=by
 unfold dH;rw[if_neg (by omega),if_neg];simp only[jK,not_exists,not_and];intro x d;simp[h x d]
theorem EY(k:Nat)(x:Int)(h:dH l=0)(s:0<=x)(p:x<=1000):dH (l.set k x)=0:=by
 refine He (by rw[bL];exact lu h) λy d => ?_;rcases lU d with m|rfl
 .exact ET h _ m
 .simp[rU];omega
theorem Ha{α:Type}{l:List α}{x:α}(h:l[i]?=some x)(y:α):l=l.take i++x::l.drop (i+1)/\l.set i y=l.take i++y::l.drop (i+1):=by
 obtain⟨d,rfl⟩:=cz.1 h;refine⟨?_,?_⟩
 .rw[List.getElem_cons_drop,rX]
 .rw[List.set_eq_take_append_cons_drop,if_pos d]
theorem Sy{x:Int}(h:x<0)(l:List Int):lh (x::l)=lh l:=by unfold lh;rw[ou,if_neg (by simp;omega)]
theorem Ju{x:Int}(h:0<=x)(l:List Int):lh (x::l)=x::lh l:=by unfold lh;rw[ou,if_pos (by simpa using h)]
theorem LW{s:St}{F:Nat}{f:Fi}(u:s.fs[F]?=some f){v:Int}(m:f.b[I]?=some v)(p:v<0){X:Int}(z:0<=X)(n c:Int) :
  (lh (kJ ⟨s.fs.set F ⟨n,f.b.set I X⟩,c⟩)).Perm (X::lh (kJ s)):=by
 have h:=Ha u ⟨n,f.b.set I X⟩;have d:=Ha m X;unfold kJ;show(lh ((s.fs.set F ⟨n,f.b.set I X⟩).flatMap Fi.b)).Perm (X::lh (s.fs.flatMap Fi.b));rw[h.2]
 conv=>rhs;rw[h.1]
 simp only[fI,nX,vC];rw[d.2]
 conv=>rhs;rw[show f.b=f.b.take I++v::f.b.drop (I+1)from d.1]
 simp only[vC,Sy p,Ju z];refine List.Perm.trans ?_ List.perm_middle;refine List.Perm.append_left _ ?_;rw[jN,jN];exact List.perm_middle
theorem GK{s:St}(h:0<=iD s):iD s<s.count/\iH s (iD s)=false:=by
 unfold iD at h ⊢;cases hf:(List.range s.count.toNat).find? (λb:Nat => !iH s b)with
 | none=>rw[hf]at h;simp at h
 | some b=>
  have d:=dG.1 (rR hf);have h2:=ut hf;simp only;refine⟨by omega,by simpa using h2⟩
theorem CF{s:St}{k i:Int}(h:dJ s k i=0):aR s=0/\∃(F I:Nat) (f:Fi) (v:Int),k=F/\i=I/\s.fs[F]?=some f/\f.b[I]?=some v/\aN s k=f/\bN s k i=v /\
  ((0<=v/\eG s k i=s/\eX s k i=v)\/(v<0/\0<=iD s/\eX s k i=iD s/\eG s k i=⟨s.fs.set F ⟨f.n,f.b.set I (iD s)⟩,s.count⟩)):=by
 have d:=h;unfold dJ at d
 by_cases p:aR s≠0
 .rw[if_pos p]at d; exact absurd d p
 rw[if_neg p]at d
 by_cases E:k<0\/(s.fs.length:Int)<=k
 .rw[if_pos E]at d; cases d
 rw[if_neg E]at d
 by_cases u:i<0\/((aN s k).b.length:Int)<=i
 .rw[if_pos u]at d; cases d
 rw[if_neg u]at d
 by_cases D:bN s k i<0/\iD s<0
 .rw[if_pos D]at d; cases d
 obtain⟨F,rfl⟩:=iL (show 0<=k by omega);obtain⟨I,rfl⟩:=iL (show 0<=i by omega);have A:F<s.fs.length:=by omega
 have a:aN s F=s.fs[F]:=by unfold aN;rw[if_pos (by omega),bu,aY,aF A];rfl
 rw[a]at u;have z:I<s.fs[F].b.length:=by omega
 have c:bN s F I=s.fs[F].b[I]:=by unfold bN;rw[a,bu,aY,aF z];rfl
 refine⟨rf.1 p,F,I,s.fs[F],s.fs[F].b[I],rfl,rfl,aF A,aF z,a,c,?_⟩;have G:eG s F I=if bN s F I<0 then zW s F ⟨(aN s F).n,(aN s F).b.set ((I:Int)).toNat (iD s)⟩else s:=by unfold eG;rw[if_neg (by rw[h];simp)]
 have H:eX s F I=if bN s F I<0 then iD s else bN s F I:=by unfold eX;rw[if_neg (by rw[h];simp)]
 rw[G,H,c];rw[c]at D
 by_cases m:s.fs[F].b[I]<0
 .refine .inr ⟨m,by omega,if_pos m,?_⟩;rw[if_pos m,a,bu];unfold zW;rw[bu]
 .exact .inl ⟨by omega,if_neg m,if_neg m⟩
theorem JW{s:St}{x:Int}(h:iH s x=false):¬x∈kJ s:=by
 unfold iH at h;simpa using h
theorem QN{s:St}{F:Nat}{f:Fi}{v:Int}(h:aR s=0)(p:s.fs[F]?=some f)(m:f.b[I]?=some v)(A:0<=v):dJ s F I=0/\eX s F I=v/\eG s F I=s:=by
 have z:=(cz.1 p).1;have u:=(cz.1 m).1;have c:aN s F=f:=by unfold aN;rw[if_pos (by omega),bu,aY,p];rfl
 have a:bN s F I=v:=by unfold bN;rw[c,bu,aY,m];rfl
 have d:dJ s F I=0:=by unfold dJ;rw[if_neg (by rw[h];simp),if_neg (by omega),c,if_neg (by omega),a,if_neg (by omega)]
 refine⟨d,?_,?_⟩
 .unfold eX;rw[if_neg (by rw[d];simp),a,if_neg (by omega)]
 .unfold eG;rw[if_neg (by rw[d];simp),a,if_neg (by omega)]
theorem CW{s:St}(h:aR s=0){F:Nat}{f:Fi}{v:Int}(p:s.fs[F]?=some f)(u:f.b[I]?=some v)(A:v<0){X:Int}(G:0<=X)(E:X<s.count)(z:iH s X=false) :
  aR ⟨s.fs.set F ⟨f.n,f.b.set I X⟩,s.count⟩=0:=by
 obtain⟨M,h2,H⟩:=mJ.1 h;have a:=h2 f (bS p);refine mJ.2 ⟨by simpa using M,λg d => ?_,?_⟩
 .rcases lU d with d|rfl
  .exact h2 g d
  refine⟨a.1,a.2.1,by simpa using a.2.2.1,λb m => ?_⟩;rcases lU m with m|rfl
  .exact a.2.2.2 b m
  show -1<=b/\b<s.count;omega
 .exact(LW p u A G f.n s.count).nodup_iff.2 (uD.2 ⟨λD=>JW z (jP.1 D).1,H⟩)
theorem Kt{s:St}{k i:Int}(h:dJ s k i=0):aR (eG s k i)=0/\dJ (eG s k i) k i=0/\eX (eG s k i) k i=eX s k i/\eG (eG s k i) k i=eG s k i /\
  ((0<=bN s k i/\eG s k i=s)\/(bN s k i<0/\iH s (eX s k i)=false/\zh (eG s k i)=zh s-1)):=by
 obtain⟨E,F,I,f,v,rfl,rfl,A,u,e,c,N⟩:=CF h;rcases N with⟨m,p,H⟩|⟨z,m,H,p⟩
 .rw[p];exact⟨E,h,rfl,p,.inl ⟨by rw[c];exact m,rfl⟩⟩
 obtain⟨d,G⟩:=GK m;have a:=CW E A u z m d G;have R:=(cz.1 A).1;have O:=(cz.1 u).1;have D:=QN (F:=F) (I:=I) (f:=⟨f.n,f.b.set I (iD s)⟩) (v:=iD s) a (wy R) (wy O) m;rw[p,H];refine⟨a,D.1,D.2.1,D.2.2,.inr ⟨by rw[c];exact z,G,?_⟩⟩;have M:=(LW A u z m f.n s.count).length_eq;unfold zh;show s.count-((lh _).length:Int)=s.count-((lh _).length:Int)-1;rw[M,lF];omega
structure Cc where
 f:Int
 i:Int
 k:Int
 deriving DecidableEq
def xe(c:Cc):Array Value:=#[.int .i64 c.f,.int .i64 c.i,.int .i64 c.k]
def iQ(c:Cc):List Value:=(xe c).toList
theorem jc(c:Cc):(iQ c).length=3:=rfl
structure Sp where
 lv:Bool
 ar:List Ar
 tb:Tb
 deriving DecidableEq
structure Ma where
 m:Mem
 sl:List Int
 sw:vQ
 dk:vQ
 st:St
 ca:List Cc
 sp:List Sp
def zCc:Cc:=⟨0,0,0⟩
def zSp:Sp:=⟨false,[],zTb⟩
def zMa:Ma:=⟨noM,[],⟨[],[]⟩,⟨[],[]⟩,zSt,[],[]⟩
def cnt(l:List Int)(k:Int):Nat:=l.countP λx=>decide (x=k)
def trimB(m:Ma):Bool:=
 (List.range m.dk.blocks.length).all (λb:Nat=>decide ((b:Int)∈kJ m.st)||decide (m.dk.blocks.getD b zPg=zPg))&&m.dk.queue.all λq=>decide (q.1∈kJ m.st)
def kM(s:Sp):Int:=if(bP s.ar).1≠0 then(bP s.ar).1 else if dB s.tb≠0 then dB s.tb else if s.lv=false/\0<s.ar.length+(aT s.tb).length then 7 else 0
def lG(m:Ma):Int:=
 if bv m.m≠0 then bv m.m else if dH m.sl≠0 then dH m.sl else if bV m.sw≠0 then bV m.sw else if bV m.dk≠0 then bV m.dk else if aR m.st≠0 then aR m.st
 else if m.sw.blocks.length≠m.sl.length\/(m.dk.blocks.length:Int)≠m.st.count\/trimB m=false then 7
 else if 4<m.sp.length then 4 else firstE (m.sp.map kM)
def jv(m:Ma)(k:Int):Fr:=m.m.fs.getD k.toNat fr0
def uS(m:Ma)(p:Option Cc)(c:Cc):Int:=
 if c.f<0\/(m.st.fs.length:Int)<=c.f\/c.i<0\/((aN m.st c.f).b.length:Int)<=c.i\/c.k<0\/(m.m.fs.length:Int)<=c.k then 3
 else if(jv m c.k).r<1\/(jv m c.k).f≠c.f\/(jv m c.k).i≠c.i then 7
 else match p with
  | none=>0
  | some q=>if c.f<q.f\/q.f=c.f/\c.i<=q.i then 2 else 0
def zb(l:List Cc)(k:Nat):Option Cc:=if k=0 then none else l[k-1]?
def cachedE(m:Ma):Int:=firstE ((List.range m.ca.length).map λk=>uS m (zb m.ca k) (m.ca.getD k zCc))
def dU(m:Ma)(s:Sp)(n:Int):Int:=
 if il s.ar n<0 then 5 else
 let a:=s.ar.getD (il s.ar n).toNat zAr;let e:=dK s.tb n
 if e.k=2 then(if(m.sl.length:Int)<=e.n\/a.sh=true then 7 else 0)
 else if(m.m.fs.length:Int)<=e.n then 3 else
 let f:=jv m e.n;let of:=decide (0<=a.fi)&&decide (f.f=a.fi)&&decide (f.i=a.ba+n-a.fr)
 if 0<=f.f/\of=false\/a.sh=true/\of=false\/a.sh=false/\of=true/\e.w=true\/e.w=true/\a.wr=false then 7
 else if f.f<0/\e.w=true/\1<f.r then 7 else 0
def nI(m:Ma):Int:=firstE (m.sp.flatMap λs=>(aT s.tb).map (dU m s))
def pG(t:Tb)(l:List Int):List Int:=(l.filter λn=>decide ((dK t n).k=1)).map λn=>(dK t n).n
def swapT(t:Tb)(l:List Int):List Int:=(l.filter λn => !decide ((dK t n).k=1)).map λn=>(dK t n).n
def vG(m:Ma):List Int:=m.ca.map Cc.k++m.sp.flatMap λs=>pG s.tb (aT s.tb)
def qJ(m:Ma):List Int:=m.sp.flatMap λs=>swapT s.tb (aT s.tb)
def lC(n:Nat)(l:List Int):List Int:=(List.range n).map λi:Nat=>(cnt l i:Int)
def countB(m:Ma):Bool:=
 (List.range m.m.fs.length).all (λi:Nat=>decide ((jv m i).r=cnt (vG m) i)&&(decide ((jv m i).f<0)||m.ca.any λc=>decide (c.k=i)))&&decide (m.sl=lC m.sl.length (qJ m))
def lV(m:Ma):Int:=if lG m≠0 then lG m else if cachedE m≠0 then cachedE m else if nI m≠0 then nI m else if countB m=true then 0 else 7
def aW(m:Ma)(f i:Int):Page:=
 match m.ca.find? λc=>decide (c.f=f)&&decide (c.i=i)with
 | some c=>(jv m c.k).p
 | none=>if 0<=bN m.st f i then dw (dA m.dk (bN m.st f i)) ((aN m.st f).n-i*8)else zPg
def pq(s:St)(f i:Int):Bool:=decide (fw (aN s f).n<=i)
structure Kp where
 m:Ma
 e:Int
def jw(k e:Int):Int:=if k=0 then e else k
def dD(m:Ma)(p:Nat):Sp:=m.sp.getD p zSp
def setTb(m:Ma)(p:Nat)(t:Tb):Ma:={ m with sp:=m.sp.set p { dD m p with tb:=t } }
def eZ(k:Kp)(p:Nat)(n:Int)(x:En):Kp:=
 if setE (dD k.m p).tb n x=0 then⟨setTb k.m p (setT (dD k.m p).tb n x),k.e⟩else⟨k.m,jw k.e (setE (dD k.m p).tb n x)⟩
def gF(k:Kp)(f n:Int):Kp:=
 if oC k.m.m f n=0 then⟨{ k.m with m:=lW k.m.m f n },k.e⟩else⟨k.m,jw k.e (oC k.m.m f n)⟩
def nS(k:Kp)(s n:Int):Kp:=
 if dC k.m.sl s n=0 then⟨{ k.m with sl:=cB k.m.sl s n },k.e⟩else⟨k.m,jw k.e (dC k.m.sl s n)⟩
def jT(k:Kp)(p:Nat)(n:Int):Kp:=
 let x:=dK (dD k.m p).tb n
 if x.k=1 then eZ (gF k x.n (-1)) p n zEn else if x.k=2 then eZ (nS k x.n (-1)) p n zEn else k
def Cf(f i:Int)(c:Cc):Bool:=decide (f<c.f)||(decide (c.f=f)&&decide (i<=c.i))
def sS(l:List Cc)(f i:Int):Nat:=(l.findIdx? (Cf f i)).getD l.length
def JZ(l:List Cc)(f i:Int):Bool:=match l[sS l f i]? with
 | some c=>decide (c.f=f)&&decide (c.i=i)
 | none=>false
def setFr(m:Ma)(f:Nat)(x:Fr):Ma:={ m with m:={ m.m with fs:=m.m.fs.set f x } }
def aD(m:Ma)(f:Nat):Fr:=m.m.fs.getD f fr0
def lT(m:Ma)(f:Nat):Bool:=decide ((aD m f).f<0)||!(aD m f).d||decide (dJ m.st (aD m f).f (aD m f).i=0)
def lD(k:Kp)(f:Nat):Kp:=
 let x:=aD k.m f
 if x.f<0\/x.d=false\/dJ k.m.st x.f x.i≠0 then k
 else⟨setFr { k.m with st:=eG k.m.st x.f x.i,dk:=dP k.m.dk (eX k.m.st x.f x.i) x.p } f { x with d:=false },jw k.e (aJ k.m.dk (eX k.m.st x.f x.i))⟩
def bC(m:Ma)(f:Int):List (Nat × Int):=(List.range m.sp.length).flatMap λp=>(pU (dD m p).tb 1 f).map λn=>(p,n)
def lN(k:Kp)(l:List (Nat × Int)):Kp:=l.foldl (λk u=>jT k u.1 u.2) k
def Ic(f n:Int)(k:Kp)(u:Nat × Int):Kp:=eZ (gF k f (-1)) u.1 u.2 ⟨2,n,false⟩
def tC(k:Kp)(f n:Int)(l:List (Nat × Int)):Kp:=l.foldl (Ic f n) k
def nE(m:Ma)(f:Nat):Bool:=if 0<=(aD m f).f then lT m f else decide (ja m.sl (bC m f).length=0)
def gG(k:Kp)(f:Nat):Kp:=
 let x:=aD k.m f;let l:=bC k.m f
 if 0<=x.f then
  if lT k.m f=false then k else
  let k2:=lN (lD k f) l
  if JZ k2.m.ca x.f x.i=true then gF ⟨{ k2.m with ca:=k2.m.ca.eraseIdx (sS k2.m.ca x.f x.i) },k2.e⟩ f (-1)else k2
 else if ja k.m.sl l.length≠0 then k
 else tC ⟨{ k.m with sl:=ng k.m.sl l.length,sw:=dP k.m.sw (kI k.m.sl l.length) x.p },jw k.e (aJ k.m.sw (kI k.m.sl l.length))⟩ f (kI k.m.sl l.length) l
def reclaimN:Nat->Kp->Kp × Bool
 | 0,k=>(k,false)
 | t+1,k=>
  if bv k.m.m≠0\/jq k.m.m<0 then(⟨k.m,jw k.e (bv k.m.m)⟩,false)else
  let k1:Kp:=⟨{ k.m with m:=gP k.m.m },k.e⟩
  if nE k1.m (jq k.m.m).toNat=true then(gG k1 (jq k.m.m).toNat,true)else reclaimN t (gG k1 (jq k.m.m).toNat)
def gV(k:Kp):Kp × Bool:=reclaimN (2*k.m.m.fs.length+1) k
def kT(k:Kp)(p:Page)(f i:Int):Kp × Int:=
 if iq k.m.m p f i≠0 then(k,-1)else(⟨{ k.m with m:=fB k.m.m p f i },k.e⟩,iJ k.m.m p f i)
def eO(k:Kp)(p:Page)(f i:Int):Kp × Int:=
 if dR k.m.m.fs=0 then(if(gV k).2=true then kT (gV k).1 p f i else((gV k).1,-1))else kT k p f i
def lm(x:Fr):Fr:={ x with u:=true }
def BZ(m:Ma)(i:Nat):Cc:=m.ca.getD i zCc
def dz(m:Ma)(f i:Int):Page:=if 0<=bN m.st f i then dw (dA m.dk (bN m.st f i)) ((aN m.st f).n-i*8)else zPg
def Fz(k:Kp)(f i:Int):Int:=if 0<=bN k.m.st f i then jw k.e (aJ k.m.dk (bN k.m.st f i))else k.e
def fu(k:Kp)(f i:Int):Kp × Int:=
 if JZ k.m.ca f i=true then
  let g:=(BZ k.m (sS k.m.ca f i)).k
  (⟨setFr k.m g.toNat (lm (aD k.m g.toNat)),k.e⟩,g)
 else
  let r:=eO ⟨k.m,Fz k f i⟩ (dz k.m f i) f i
  if r.2<0 then(r.1,-1)else(⟨{ r.1.m with ca:=r.1.m.ca.insertIdx (sS r.1.m.ca f i) ⟨f,i,r.2⟩ },r.1.e⟩,r.2)
def Eg(k:Kp)(i:Nat):Kp:=
 let c:=BZ k.m i;let k1:=lN k (bC k.m c.k)
 gF ⟨{ k1.m with ca:=k1.m.ca.eraseIdx i },k1.e⟩ c.k (-1)
end Go.Proofs.YthihaopabbpalaaGreat
namespace Pw
open Go Go.RowKit
variable {B B' b base c cap f fuel g i id k off sz:Nat} {L spare:Nat -> Bool} {P:Program} {Q:Exit -> Act -> World -> Prop} {T TX TY TZ e t t' ty:TypeId} {V v vx vy:Value} {W w' w0 w1:World} {Y Z args cs t0:Array Value} {a:Option Addr} {a0:Act} {held:Bool} {l:List Int} {o op:Oper} {ops:Array Oper} {rest:List Oper} {tm vs xs:List Value} {x:Operand} {y:Nat -> Value} {ρ:Operand -> Value}
theorem aX{k:IntKind}{a b:Int}(h:a=b):Ending.returned (.int k a) = .returned (.int k b):=by rw[h]
theorem bX{a b:Bool}(h:a=b):Ending.returned (.bool a) = .returned (.bool b):=by rw[h]
theorem ag{w:World}(h:Below w.heap.size w W)(d:Below W.heap.size W w1):Below w.heap.size w w1:=
 h.trans (d.mono h.size)
theorem gU(w:World)(o:Obj):w.heap.size<=(w.alloc o).heap.size:=((Below.refl 0 w).alloc (bq _) o).size
theorem dI{w:World}(h:B<=w.heap.size)(o:Obj):B<=(w.alloc o).heap.size:=bi h (gU w o)
def aG(w:World)(b:Nat)(cs:Array Value)(T:TypeId):Prop:=w.heap[b]?=some (.cells cs T (0,0))
theorem aG.cell{w:World}(h:aG w b cs T):∀o,w.cell? ⟨b,o,none⟩=cs[o]?:=by
 intro o;unfold aG at h;simp[World.cell?,h]
theorem aG.free{w:World}(h:aG w b cs T):∀o,w.frozen? ⟨b,o,none⟩=false:=by
 intro o;unfold aG at h;simp[World.frozen?,h]
theorem aG.lt{w:World}(h:aG w b cs T):b<w.heap.size:=lt_of_block h
theorem aG.below{w:World}(h:aG w b cs T)(d:Below B w w')(m:b<B):aG w' b cs T:=
 (d.block b m).trans h
theorem aG.ext{w:World}(h:aG w b cs T)(d:Below w.heap.size w w'):aG w' b cs T:=h.below d h.lt
theorem aG.new(w:World)(cs:Array Value)(T:TypeId):aG (w.alloc (.cells cs T)) w.heap.size cs T:=heap_alloc_new w _
theorem aG.alloc{w:World}(h:aG w b cs T)(o:Obj):aG (w.alloc o) b cs T:=(Below.heap_alloc w o b h.lt).trans h
theorem aG.drewN{w:World}(h:aG w b cs T)(n:Nat):aG (w.drewN n) b cs T:=h
theorem aG.drew{w:World}(h:aG w b cs T):aG w.drew b cs T:=h
def eB(w:World)(a:Option Addr)(vs:List Value):Prop:=
 ∀i u,vs[i]?=some u->∃b off,a=some ⟨b,off,none⟩/\w.cell? ⟨b,off+i,none⟩=some u
theorem eB.below{w:World}(h:eB w a vs)(p:Below w.heap.size w w'):eB w' a vs:=by
 intro i u d;obtain⟨b,off,s,m⟩:=h i u d;exact⟨b,off,s,cell_later p m⟩
theorem eB.nil{w:World} :eB w a []:=λi u h=>by simp at h
theorem eB.at{w:World}{a:Option Addr}{vs:List Value}(h:eB w a vs)(m:0<vs.length):∃b off,a=some ⟨b,off,none⟩/\∀i u,vs[i]?=some u->w.cell? ⟨b,off+i,none⟩=some u:=by
 obtain⟨b,off,rfl,s⟩:=h 0 _ (aF m);refine⟨b,off,rfl,λi u p => ?_⟩;obtain⟨z,d,e,c⟩:=h i u p;simp only[jA,ui,and_true]at e;obtain⟨rfl,rfl⟩:=e;exact c
theorem flat_get{α:Type}(enc:α->List Value)(sz:Nat)(d:∀x,(enc x).length=sz):∀(l:List α) (i:Nat) (h:i<l.length) (j:Nat) (u:Value),(enc l[i])[j]?=some u->(l.flatMap enc)[i*sz+j]?=some u
 | [],i,h,_,_,_=>absurd h (fq _)
 | x::l,0,_,j,u,hj=>by
  simp only[nX,vS,ed];simp only[El]at hj;have m:j<(enc x).length:=by
   rcases gu j (enc x).length with h|h
   .exact h
   .simp[eY h]at hj
  rw[kK m];exact hj
 | x::l,i+1,h,j,u,hj=>by
  simp only[nX];have e:(i+1)*sz+j=(enc x).length+(i*sz+j):=by rw[d x,uY];omega
  rw[e,jU (by omega),Bc];exact flat_get enc sz d l i (by simpa using h) j u (by simpa using hj)
theorem flat_len{α:Type}(enc:α->List Value)(sz:Nat)(d:∀x,(enc x).length=sz)(l:List α):(l.flatMap enc).length=l.length*sz:=by
 induction l with
 | nil=>simp
 | cons x l ih=>simp[nX,ih,d x,uY,Jb]
theorem eB.elem{α:Type}{enc:α->List Value}(d:∀x,(enc x).length=sz)(m:0<sz){w:World}{l:List α}(h:eB w a (l.flatMap enc))(i:Nat)(s:i<l.length) :
  ∃b off,a=some ⟨b,off,none⟩/\∀j u,(enc l[i])[j]?=some u->w.cell? ⟨b,off+i*sz+j,none⟩=some u:=by
 obtain⟨b,off,A,z⟩:=h.at (by rw[flat_len enc sz d];exact Nat.mul_pos (by omega) m);exact⟨b,off,A,λj u p=>by rw[nV];exact z _ _ (flat_get enc sz d l i s j u p)⟩
def bJ(cur:Array Value):Nat->List Value->Array Value
 | _,[]=>cur
 | o,v::r=>bJ (cur.setIfInBounds o v) (o+1) r
theorem size_putAt:∀(vs:List Value) (d:Array Value) (o:Nat),(bJ d o vs).size=d.size
 | [],_,_=>rfl
 | v::r,d,o=>by simp[bJ,size_putAt r]
theorem putAt_out:∀(vs:List Value) (d:Array Value) (o k:Nat),(k<o\/o+vs.length<=k)->(bJ d o vs)[k]?=d[k]?
 | [],_,_,_,_=>rfl
 | v::r,d,o,k,h=>by simp only[lF]at h;simp only[bJ];rw[putAt_out r _ _ _ (by omega),ib (by omega)]
theorem putAt_in:∀(vs:List Value) (d:Array Value) (o j:Nat) (u:Value),o+vs.length<=d.size->vs[j]?=some u->(bJ d o vs)[o+j]?=some u
 | [],_,_,_,_,_,h=>by simp at h
 | v::r,d,o,0,u,hs,h=>by simp only[lF]at hs;simp only[bJ];rw[putAt_out r _ _ _ (by omega)];simp at h;subst h;simp[show o<d.size by omega]
 | v::r,d,o,j+1,u,hs,h=>by simp only[lF]at hs;simp only[bJ];rw[show o+(j+1)=o+1+j by omega];exact putAt_in r _ _ _ u (by simp;omega) (by simpa using h)
theorem aG.setCell{w:World}(h:aG w b cs T)(o:Nat)(v:Value):aG (w.setCell ⟨b,o,none⟩ v) b (cs.setIfInBounds o v) T:=
 heap_setCell_same w b o cs T v h
theorem aG.setCell_other{w:World}(h:aG w b cs T)(a:Addr)(v:Value)(d:b≠a.block):aG (w.setCell a v) b cs T:=
 (heap_setCell_other w a b v d).trans h
theorem aG.setCells :∀(vs:List Value) (o:Nat) {w:World} {cs:Array Value},aG w b cs T->aG (w.setCells b o vs) b (bJ cs o vs) T
 | [],_,_,_,h=>h
 | v::r,o,_,_,h=>aG.setCells r (o+1) (h.setCell o v)
theorem heap_setCells_other(b:Nat):∀(vs:List Value) (o:Nat) (w:World) (k:Nat),k≠b->(w.setCells b o vs).heap[k]?=w.heap[k]?
 | [],_,_,_,_=>rfl
 | v::r,o,w,k,h=>(heap_setCells_other b r (o+1) _ k h).trans (heap_setCell_other w ⟨b,o,none⟩ k v h)
theorem size_setCells(b:Nat):∀(vs:List Value) (o:Nat) (w:World),(w.setCells b o vs).heap.size=w.heap.size
 | [],_,_=>rfl
 | v::r,o,w=>(size_setCells b r (o+1) _).trans (by simp[World.setCell])
theorem qC(b:Nat):∀(vs:List Value) (o:Nat) (w:World),(w.setCells b o vs).os=w.os/\(w.setCells b o vs).tape=w.tape/\(w.setCells b o vs).output=w.output
 | [],_,_=>⟨rfl,rfl,rfl⟩
 | _::r,o,_=>qC b r (o+1) _
theorem aC(w:World)(b o:Nat)(vs:List Value):w.grownBy (w.setCells b o vs) (some b):=
 ⟨(qC b vs o w).1,(qC b vs o w).2.1,(qC b vs o w).2.2,Ea (size_setCells b vs o w).symm,
  λk _ d=>heap_setCells_other b vs o w k (λe=>d (by rw[e]))⟩
def Own(w:World)(B:Nat)(e:TypeId)(sz:Nat)(v:Value)(n:Nat)(xs:List Value):Prop:=
 xs.length=n*sz/\((v = .slice none 0 0/\n=0) \/
  ∃g off cap cur,v = .slice (some ⟨g,off,none⟩) n cap/\B<=g/\aG w g cur e/\n<=cap/\cap<=maxLen/\off+cap*sz<=cur.size/\∀j u,xs[j]?=some u->cur[off+j]?=some u)
theorem Own.nil(w:World)(B:Nat)(e:TypeId)(sz:Nat):Own w B e sz (.slice none 0 0) 0 []:=⟨by simp,.inl ⟨rfl,rfl⟩⟩
theorem Own.of_owns{w:World}{n:Nat}(h:w.ownsRow B e sz v n xs):Own w B e sz v n xs:=by
 obtain⟨A,h⟩:=h;refine⟨A,h.imp id λ⟨g,cap,m,p,F,D,E,z,G,s⟩=>⟨g,0,cap,m,p,F,D,E,z,by omega,λj u d => ?_⟩⟩;rw[ed,<-uZ];rw[<-s,mg]at d;split at d
 .exact d
 .cases d
theorem Own.mono{w:World}{n:Nat}(h:Own w B e sz v n xs)(s:B'<=B):Own w B' e sz v n xs:=
 ⟨h.1,h.2.imp id λ⟨g,off,cap,d,m,p,r⟩=>⟨g,off,cap,d,m,bi s p,r⟩⟩
theorem Own.below{w:World}{n:Nat}(h:Own w B e sz v n xs)(u:Below w.heap.size w w'):Own w' B e sz v n xs:=
 ⟨h.1,h.2.imp id λ⟨g,off,cap,d,m,s,p,r⟩=>⟨g,off,cap,d,m,s,p.ext u,r⟩⟩
theorem Own.grown{w:World}{row:Option Nat}{n:Nat}(h:Own w B e sz v n xs)(u:w.grownBy w' row)(d:∀g,v.ownBlock=some g->row≠some g):Own w' B e sz v n xs:=
 ⟨h.1,h.2.imp id λ⟨g,off,cap,m,p,z,s,r⟩=>⟨g,off,cap,m,p,z,(u.block g s.lt (λe=>d g (by rw[p];rfl) e.symm)).trans s,r⟩⟩
theorem Own.rd{w:World}{n:Nat}(h:Own w B e sz v n xs):∃a c,v = .slice a n c/\n<=c/\c<=maxLen/\(a=none->c=0)/\eB w a xs:=by
 obtain⟨p,h⟩:=h;rcases h with⟨rfl,rfl⟩|⟨g,off,cap,D,rfl,_,z,A,m,E,d⟩
 .have:xs=[]:=kU (by simpa using p);subst this;exact⟨none,0,rfl,az _,bq _,λ_=>rfl,eB.nil⟩
 .exact⟨_,cap,rfl,A,m,λe=>(Option.some_ne_none _ e).elim,λi u s=>⟨g,off,rfl,by rw[z.cell];exact d i u s⟩⟩
theorem Own.ge{w:World}{n:Nat}(h:Own w B e sz v n xs):∀k,v.ownBlock=some k->B<=k:=by
 rcases h.2 with⟨rfl,_⟩|⟨g,off,cap,p,rfl,m,_⟩
 .intro k d;cases d
 .intro k d;cases d;exact m
theorem aG.grown{w:World}{row:Option Nat}(h:aG w b cs T)(m:w.grownBy w' row)(d:row≠some b):aG w' b cs T:=
 (m.block b h.lt (λe=>d e.symm)).trans h
theorem Own.alloc{w:World}{n:Nat}(h:Own w B e sz v n xs)(o:Obj):Own (w.alloc o) B e sz v n xs:=
 h.below ((Below.refl _ _).alloc (az _) _)
theorem eB.one(w:World)(v:Value)(T:TypeId):eB (w.alloc (.cells #[v] T)) (some ⟨w.heap.size,0,none⟩) [v]:=by
 intro i u d;refine⟨_,_,rfl,?_⟩;rw[(aG.new w #[v] T).cell];cases i with
 | zero=>simpa using d
 | succ i=>simp at d
theorem eB.new(w:World)(cs:Array Value)(T:TypeId):eB (w.alloc (.cells cs T)) (some ⟨w.heap.size,0,none⟩) cs.toList:=by
 intro i u d;refine⟨_,_,rfl,?_⟩;rw[(aG.new w cs T).cell,ed];simpa using d
theorem IM(k:IntKind)(n:Int):∀u∈[Value.int k n],u.oneCell' = true:=by
 intro u d;cases bB.1 d;rfl
theorem fT{w:World}{a:Act}(hg:o.guard=none)(s x:Operand)(t:TypeId)
 (M:o.op=Op.call { callee:=Callee.builtin Builtin.append,args:=#[s,x],argTypes:=#[t,t] })
 (B:Nat) (e:TypeId) (z:Value) (A E:Nat) (h1:P.underlying t=some (.slice e)) (h2:(P.info? e).map (λi=>(i.zero,i.size,i.bytes))=some (some z,A,E)) (h6:z.cells.size=A) (h7:0<A)
 (v:Value) (n:Nat) (xs:List Value) (hs:a.eval s=v) (H:Own w B e A v n xs)
 (ao:Option Addr) (m c:Nat) (D:List Value) (hx:a.eval x = .slice ao m c) (R:ao=none->c=0) (hmc:m<=c) (hn:D.length=m*A) (hrd:eB w ao D) (h1c:∀u∈D,u.oneCell' = true)
 (b1:n+m<=maxLen) (b2:(n+m)*E<=140737488355328) (hB:B<=w.heap.size)
 (hK:∀v' w',Own w' B e A v' (n+m) (xs++D)->w.grownBy w' v.ownBlock->wpList P ops Q rest (a.put o.dst v') w') :
  wpList P ops Q (o::rest) a w:=by
 obtain⟨i,hi,hz,f,h⟩:=info_parts h2;cases ao with
 | none=>
  obtain rfl:=R rfl;obtain rfl:m=0:=by omega
  obtain rfl:D=[]:=kU (by simpa using hn);have U:wpList P ops Q rest (a.put o.dst v) w:=by have:=hK v w (by simpa using H) (Jo _ _);exact this
  rcases H with⟨hl,⟨rfl,rfl⟩|⟨g,off,cap,S,rfl,hBg,hk,hc,hm,G,F⟩⟩
  .obtain rfl:xs=[]:=kU (by simpa using hl);exact wpList_append_own_none hg s x t M B e i A h1 hi _ 0 [] hs (Jv w B e A) hx U
  refine wpList_plain hg λK p => ?_;unfold Oper.wp;simp[execOp,M,resolve,invoke,builtin,hs,hx,Builtin.append_,run_underlying h1,Go.sizeOf,typeInfo,hi,Builtin.lenOf,Builtin.firstCells,hc,storeCells,Result.andThen];exact p _ _ U
 | some ad=>
  have d:∀j u,D[j]?=some u->w.cell? (ad.add j)=some u:=by intro j u N;obtain⟨b,off,e',hc⟩:=hrd j u N;cases e';rw[qo];exact hc
  rcases H with⟨hl,⟨rfl,rfl⟩|⟨g,off,cap,S,rfl,hBg,hk,hc,hm,G,F⟩⟩
  .obtain rfl:xs=[]:=kU (by simpa using hl);exact wpList_append_own w hg s x t M B e i z A E h1 hi hz f h h6 h7 _ 0 [] hs (Jv w B e A) ad m c D hx hn d h1c b1 b2 hB
    λv' w' r1 O _=>hK v' w' (.of_owns r1) O
  have q:n*A<=cap*A:=uH _ hc;refine wpList_append_arg w hg s x t M e i z A E h1 hi hz f h h6 h7 g off n cap xs hs hl (λj u N=>by rw[hk.cell];exact F j u N) ad m c D hx hn d h1c (λX j N => ?_) b1 b2 (λX => ?_) (λX v' w' r1 O => ?_)
  .have h3:(n+m)*A<=cap*A:=uH _ X;rw[uY]at h3;have:off+n*A+j<S.size:=by omega
   exact⟨by rw[hk.cell];simp[this],hk.free _⟩
  .have h3:(n+m)*A<=cap*A:=uH _ X;rw[uY]at h3;refine hK _ _ ⟨by rw[jk,hl,hn,uY],.inr ⟨g,off,cap,_,rfl,hBg,hk.setCells D (off+n*A),X,hm,by rw[size_putAt];exact G,λj u N => ?_⟩⟩ (aC _ _ _ _)
   by_cases hjl:j<xs.length
   .rw[kK hjl]at N;rw[putAt_out _ _ _ _ (.inl (by omega))];exact F j u N
   rw[jU (by omega)]at N;have:=putAt_in D S (off+n*A) (j-xs.length) u (by omega) N;rwa [show off+n*A+(j-xs.length)=off+j by omega]at this
  have r2' : w.grownBy w' (Value.ownBlock (.slice (some ⟨g,off,none⟩) n cap)):=⟨O.os,O.tape,O.output,O.size,λk l _=>O.block k l (by simp)⟩;exact hK v' w' ((Own.of_owns r1).mono hB) r2'
theorem gK(d cs:Array Value)(h:cs.size=d.size):bJ d 0 cs.toList=cs:=by
 apply mI;intro i
 by_cases m:i<cs.size
 .have:=putAt_in cs.toList d 0 i cs[i] (by simp;omega) (by simp[m]);rw[ed]at this;rw[this];simp[m]
 .rw[mP (by rw[size_putAt];omega),mP (by omega)]
theorem gN{w:World}{a:Act}(m:op.guard=none)(ty:TypeId)(x y:Operand)(A:op.op = .store ty x y)
 (b o:Nat) (cells:Array Value) (z:a.eval x = .pointer (some ⟨b,o,none⟩)) (u:a.eval y = .agg cells) (d:Array Value) (T:TypeId) (p:aG w b d T)
 (s:o+cells.size<=d.size) (D:(P.info? ty).map (·.size)=some cells.size) (E:cells.all (·.oneCell')=true)
 (h:∀w',aG w' b (bJ d o cells.toList) T->w.grownBy w' (some b)->wpList P ops Q rest (a.put op.dst undef) w'):wpList P ops Q (op::rest) a w:=by
 refine wpList_store_mid m ty x y A b o cells z u (λj F=>⟨?_,p.free _⟩) D E (h _ (p.setCells _ _) (aC _ _ _ _));rw[p.cell];simp[show o+j<d.size by omega]
theorem aA{w:World}{a:Act}(p:op.guard=none)(ty:TypeId)(x y:Operand)(A:op.op = .store ty x y)
 (b:Nat) (cells:Array Value) (z:a.eval x = .pointer (some ⟨b,0,none⟩)) (u:a.eval y = .agg cells) (d:Array Value) (T:TypeId) (E:aG w b d T)
 (m:cells.size=d.size) (D:(P.info? ty).map (·.size)=some cells.size) (F:cells.all (·.oneCell')=true)
 (h:∀w',aG w' b cells T->w.grownBy w' (some b)->wpList P ops Q rest (a.put op.dst undef) w'):wpList P ops Q (op::rest) a w:=by
 refine gN p ty x y A b 0 cells z u d T E (by omega) D F λw' s c => ?_;rw[gK d cells m]at s;exact h w' s c
theorem kv{α:Type}(f:α->Value)(l:List α):l.flatMap (λx=>[f x])=l.map f:=by
 induction l with
 | nil=>rfl
 | cons x l ih=>simp[ih]
def CY(b:UInt8):Value:=.int .u8 b.toNat
def gB(n:Int):Value:=.int .i64 n
def eQ(p:Page):Array Value:=#[Value.int .u8 p[0].toNat,Value.int .u8 p[1].toNat,Value.int .u8 p[2].toNat,Value.int .u8 p[3].toNat,Value.int .u8 p[4].toNat,Value.int .u8 p[5].toNat,Value.int .u8 p[6].toNat,Value.int .u8 p[7].toNat]
theorem TV(p:Page):(eQ p).size=8:=rfl
theorem OA(p:Page)(k:Nat)(h:k<8):(eQ p)[k]?=some (Value.int .u8 p[k].toNat):=by
 match k,h with
 | 0,_=>rfl
 | 1,_=>rfl
 | 2,_=>rfl
 | 3,_=>rfl
 | 4,_=>rfl
 | 5,_=>rfl
 | 6,_=>rfl
 | 7,_=>rfl
 | n+8,h=>omega
theorem Aj(p:Page)(k:Nat)(h:k<8)(b:UInt8):(eQ p).setIfInBounds k (.int .u8 b.toNat)=eQ (p.set k b):=by
 match k,h with
 | 0,_=>simp[eQ]
 | 1,_=>simp[eQ]
 | 2,_=>simp[eQ]
 | 3,_=>simp[eQ]
 | 4,_=>simp[eQ]
 | 5,_=>simp[eQ]
 | 6,_=>simp[eQ]
 | 7,_=>simp[eQ]
 | n+8,h=>omega
theorem yD(p:Page):(eQ p)[0]?=some (Value.int .u8 p[0].toNat)/\(eQ p)[1]?=some (Value.int .u8 p[1].toNat)/\(eQ p)[2]?=some (Value.int .u8 p[2].toNat)/\(eQ p)[3]?=some (Value.int .u8 p[3].toNat)/\(eQ p)[4]?=some (Value.int .u8 p[4].toNat)/\(eQ p)[5]?=some (Value.int .u8 p[5].toNat)/\(eQ p)[6]?=some (Value.int .u8 p[6].toNat)/\(eQ p)[7]?=some (Value.int .u8 p[7].toNat):=
 ⟨rfl,rfl,rfl,rfl,rfl,rfl,rfl,rfl⟩
theorem fM(p:Page):(eQ p).all (·.oneCell')=true:=by simp[eQ,Value.oneCell']
theorem FY(w:World)(e:TypeId)(k:IntKind)(cs:Array Value)(off:Nat)(v:Value)(h:P.underlying e=some (.int k))(d:cs[off]?=some v) :
  (part e cs off).run P w = .ok v w:=by
 simp[part,isAgg,run_underlying h,d]
theorem CJ(w:World)(d:Nat)(t e:TypeId)(u:P.underlying t=some (.array 8 e))(s:P.underlying e=some (.int .u8))(m:(P.info? e).map (·.size)=some 1)(p q:Page) :
  (Op.equalIn (d+2) t (.agg (eQ p)) (.agg (eQ q))).run P w = .ok (p==q) w:=by
 cases hq:P.info? e with
 | none=>simp[hq]at m
 | some i=>
 have z:i.size=1:=by simpa[hq]using m
 rw[Sc];unfold Op.equalIn;simp only[kY,run_underlying u,rA,Go.sizeOf,typeInfo,run_program,hq,z,qR];simp only[Std.Legacy.Range.forIn_eq_forIn_range',List.range',Std.Legacy.Range.size];have g:∀(r:Page) (k:Nat) (h:k<8) (w:World),(part e (eQ r) k).run P w = .ok (.int .u8 r[k].toNat) w:=λr k h w=>FY w e .u8 _ _ _ s (OA r k h);have c:∀(a b:UInt8) (w:World),(Op.equalIn (d+1) e (.int .u8 a.toNat) (.int .u8 b.toNat)).run P w = .ok (a==b) w:=λa b w=>by rw[run_equalIn_int w d e .u8 .u8 _ _ s,WI]
 simp[g,c]
 repeat' split
 all_goals simp_all
def Gives(P:Program)(o:Oper)(a:Act)(w:World)(F:Value->World->Prop):Prop:=
 match (execOp a.eval o).run P w with
 | .ok (.value v) w'=>F v w'
 | .ok .skip w'=>F undef w'
 | .ok (.enter f args) w'=>Calls P f args w' fun | .returned v,w''=>F v w'' | _,_=>False
 | _=>False
def lay(L:Nat->Bool)(y:Nat->Value):List Oper->Nat->Array Value->Array Value
 | [],_,t=>t
 | o::r,i,t=>lay L y r (i+1) (match o.dst with | some d=>if L i then t.setIfInBounds d (y i)else t | none=>t)
theorem lay_size(L:Nat->Bool)(y:Nat->Value):∀(l:List Oper) (i:Nat) (t:Array Value),(lay L y l i t).size=t.size
 | [],_,_=>rfl
 | o::r,i,t=>by
  simp only[lay];rw[lay_size L y r];cases o.dst with
  | none=>rfl
  | some d=>simp only[];split<;>simp
theorem jr(L:Nat->Bool)(y:Nat->Value)(s:Nat):∀(l:List Oper) (i:Nat) (t:Array Value),(∀k o,l[k]?=some o->o.dst=some s->L (i+k)=false)->(lay L y l i t)[s]?=t[s]?
 | [],_,_,_=>rfl
 | o::r,i,t,h=>by
  simp only[lay];rw[jr L y s r (i+1) _ (λk u z p=>by have:=h (k+1) u (by simpa using z) p;rwa [show i+(k+1)=i+1+k by omega]at this)];cases p:o.dst with
  | none=>rfl
  | some d=>
   simp only[];split
   .rename_i A;have m:d≠s:=by intro e;subst e;have:=h 0 o (by simp) p;simp[A]at this
    rw[ib m]
   .rfl
theorem mG(L:Nat->Bool)(y:Nat->Value)(s:Nat):∀(l:List Oper) (i:Nat) (t:Array Value) (k:Nat) (o:Oper),l[k]?=some o->o.dst=some s->L (i+k)=true ->
  (∀z u,l[z]?=some u->u.dst=some s->z = k)->s<t.size->(lay L y l i t)[s]?=some (y (i+k))
 | [],_,_,_,_,h,_,_,_,_=>by simp at h
 | o0::r,i,t,0,o,hk,hd,hL,hu,hs=>by simp at hk;subst hk;simp only[lay,hd];rw[jr L y s r (i+1) _ (λk u m p=>by have:=hu (k+1) u (by simpa using m) p; omega)];rw[iP]at hL;simp[hL,hs]
 | o0::r,i,t,k+1,o,hk,hd,hL,hu,hs=>by
  simp only[lay];have:=mG L y s r (i+1) (match o0.dst with | some d=>if L i then t.setIfInBounds d (y i)else t | none=>t) k o (by simpa using hk) hd (by rwa [show i+1+k=i+(k+1) by omega])
   (λz u m p=>by have:=hu (z + 1) u (by simpa using m) p; omega)
   (by cases o0.dst with
     | none=>exact hs
     | some d=>simp only[];split<;>simpa using hs)
  rw[this];congr 2;omega
theorem sP(L L' : Nat->Bool)(y:Nat->Value):∀(l:List Oper) (i:Nat) (t:Array Value),(∀k,k<l.length->L (i+k)=L' (i+k))->lay L y l i t=lay L' y l i t
 | [],_,_,_=>rfl
 | o::r,i,t,h=>by
  simp only[lay];have d:L i=L' i:=by simpa using h 0 (by simp)
  rw[d];exact sP L L' y r (i+1) _ λk m=>by have:=h (k+1) (by simp;omega);rwa [show i+(k+1)=i+1+k by omega]at this
def jY(ops:Array Oper):Bool:=
 (List.range ops.size).all λi=>match ops[i]? with
  | none=>true
  | some o=>
   (match o.op with | .select ..=>false | _=>true) &&
   o.after.toList.all (λe=>Region.binds .any e&&decide (e.on<i)) &&
   (List.range ops.size).all λj=>match ops[j]? with
    | none=>true
    | some p=>match p.dst with
     | none=>true
     | some d=>(decide (i=j)||o.dst != some d)&&(!(o.looksAt ops).contains d||o.after.toList.any (λe=>decide (e.on=j)))
theorem iy(h:jY ops=true)(A:ops[i]?=some o) :
  (∀cs b,o.op ≠ .select cs b)/\(∀e∈o.after,Region.binds .any e=true/\e.on<i) /\
  ∀j p d,ops[j]?=some p->p.dst=some d->(i=j\/o.dst≠some d)/\(d∈o.looksAt ops->∃e∈o.after,e.on=j):=by
 have c:i<ops.size:=(iX.1 A).1;have D:=fA.1 h i (dG.2 c);simp only[A,dW]at D;obtain⟨⟨h2,H⟩,G⟩:=D;refine⟨?_,?_,?_⟩
 .intro cs b e;simp[e]at h2
 .intro e s;have:=fA.1 H e (nZ.2 s);simpa using this
 intro j p d z E;have f:j<ops.size:=(iX.1 z).1;have u:=fA.1 G j (dG.2 f);simp only[z,E,dW,qy,decide_eq_true_eq,bne_iff_ne,ne_eq,uy,jK]at u;refine⟨u.1,λa => ?_⟩;rcases u.2 with m|⟨e,s,m⟩
 .have F:(o.looksAt ops).contains d=true:=List.contains_iff_mem.2 a;rw[F]at m;cases m
 .exact⟨e,nZ.1 s,m⟩
theorem BC(z:jY ops=true)(M:ops[i]?=some o)(O:∀e∈o.after,L e.on=true)(t:Nat)(H:t∈o.looksAt ops) :
  (lay L y ops.toList 0 a0.tmps)[t]?=(lay (λ_=>true) y ops.toList 0 a0.tmps)[t]?:=by
 obtain⟨_,_,G⟩:=iy z M
 by_cases u:t<a0.tmps.size
 .by_cases s:∃(j:Nat) (p:Oper),ops[j]?=some p/\p.dst=some t
  .obtain⟨j,p,D,m⟩:=s;obtain⟨e,N,b⟩:=(G j p t D m).2 H;have F:∀A d,ops.toList[A]?=some d->d.dst=some t->A = j:=by
    intro A d a c;have:=(iy z (i:=A) (o:=d) (by simpa using a)).2.2 j p t D m;rcases this.1 with h|h
    .exact h
    .exact absurd c h
   rw[mG L y t _ 0 _ j p (by simpa using D) m (by rw[ed,<-b];exact O e N) F u,
    mG (λ_=>true) y t _ 0 _ j p (by simpa using D) m rfl F u]
  .rw[jr L y t _ 0 _ (λk d E m=>absurd ⟨k,d,by simpa using E,m⟩ s),jr (λ_=>true) y t _ 0 _ (λk d E m=>absurd ⟨k,d,by simpa using E,m⟩ s)]
 .rw[mP (by rw[lay_size];omega),mP (by rw[lay_size];omega)]
theorem Jg(S:jY ops=true){m:Array Bool}(M:ops[i]?=some o)(U:m.size=ops.size)(v:Value) :
  ({ a0 with tmps:=lay (λi=>m.getD i false) y ops.toList 0 a0.tmps }:Act).put o.dst v =
   { a0 with tmps:=lay (λk=>(m.setIfInBounds i true).getD k false) (λk=>if k=i then v else y k) ops.toList 0 a0.tmps }:=by
 have l:i<ops.size:=(iX.1 M).1;have g:(m.setIfInBounds i true).getD i false=true:=by simp[dh,show i<m.size by omega]
 have c:∀k,k≠i->(m.setIfInBounds i true).getD k false=m.getD k false:=λk D=>by simp[dh,ib (pu D)]
 have u:(({ a0 with tmps:=lay (λi=>m.getD i false) y ops.toList 0 a0.tmps }:Act).put o.dst v).tmps=lay (λk=>(m.setIfInBounds i true).getD k false) (λk=>if k=i then v else y k) ops.toList 0 a0.tmps:=by
  apply mI;intro s
  by_cases R:s<a0.tmps.size
  .by_cases E:∃(j:Nat) (p:Oper),ops[j]?=some p/\p.dst=some s
   .obtain⟨j,p,H,F⟩:=E;have G:∀O z,ops.toList[O]?=some z->z.dst=some s->O = j:=by
     intro O z f a;rcases((iy S (i:=O) (o:=z) (by simpa using f)).2.2 j p s H F).1 with h|h
     .exact h
     .exact absurd a h
    by_cases A:j=i
    .subst A;obtain rfl:o=p:=by rw[M]at H;exact aM H
     rw[mG (λk=>(m.setIfInBounds j true).getD k false) _ s _ 0 _ j o (by simpa using M) F (by simpa using g) G R];simp only[Act.put,F,ed,if_true];rw[sQ (by rw[lay_size];exact R)]
    have b:o.dst≠some s:=λe=>A ((G i o (by simpa using M) e).symm);have N:(({ a0 with tmps:=lay (λi=>m.getD i false) y ops.toList 0 a0.tmps }:Act).put o.dst v).tmps[s]?=(lay (λi=>m.getD i false) y ops.toList 0 a0.tmps)[s]?:=by
     cases ho:o.dst with
     | none=>rfl
     | some d=>
      have:d≠s:=λe=>b (by rw[ho,e]);simp only[Act.put];rw[ib this]
    rw[N];cases hLj:m.getD j false with
    | true=>
     rw[mG (λi=>m.getD i false) y s _ 0 _ j p (by simpa using H) F (by simpa using hLj) G R,
      mG (λk=>(m.setIfInBounds i true).getD k false) _ s _ 0 _ j p (by simpa using H) F (by rw[ed,c j A];exact hLj) G R]
     simp[A]
    | false=>
     rw[jr (λi=>m.getD i false) y s _ 0 _ (λk z D a=>by rw[ed,G k z D a];exact hLj),
      jr (λk=>(m.setIfInBounds i true).getD k false) _ s _ 0 _ (λk z D a=>by rw[ed,G k z D a,c j A];exact hLj)]
   have b:o.dst≠some s:=λe=>E ⟨i,o,M,e⟩;have N:(({ a0 with tmps:=lay (λi=>m.getD i false) y ops.toList 0 a0.tmps }:Act).put o.dst v).tmps[s]?=(lay (λi=>m.getD i false) y ops.toList 0 a0.tmps)[s]?:=by
    cases ho:o.dst with
    | none=>rfl
    | some d=>
     have:d≠s:=λe=>b (by rw[ho,e]);simp only[Act.put];rw[ib this]
   rw[N,jr _ y s _ 0 _ (λk z D F=>absurd ⟨k,z,by simpa using D,F⟩ E),jr _ _ s _ 0 _ (λk z D F=>absurd ⟨k,z,by simpa using D,F⟩ E)]
  have N:(({ a0 with tmps:=lay (λi=>m.getD i false) y ops.toList 0 a0.tmps }:Act).put o.dst v).tmps.size=a0.tmps.size:=by
   cases o.dst with
   | none=>exact lay_size _ _ _ _ _
   | some d=>simp[Act.put,lay_size]
  rw[mP (by rw[N];omega),mP (by rw[lay_size];omega)]
 cases hdst:o.dst with
 | none=>rw[hdst]at u;simp only[Act.put]at u ⊢; rw[u]
 | some d=>rw[hdst]at u;simp only[Act.put]at u ⊢; rw[u]
theorem tH{a b:Act}{w:World}{F:Value->World->Prop}{K:Act->World->Prop}(z:ops[i]?=some o)
 (d:Region.wanted o (yielded ops a.tmps)=true) (m:execOp a.eval o=execOp b.eval o) (h:Gives P o b w F) (s:∀v w',F v w'->K (a.put o.dst v) w'):wpOp P ops Q i K a w:=by
 unfold wpOp;simp only[z,d,if_true];refine .inl ?_;unfold Oper.wp;rw[m];unfold Gives at h;generalize (execOp b.eval o).run P w=r at h ⊢;cases r with
 | ok n w'=>
  cases n with
  | value v=>exact s _ _ h
  | skip=>exact s _ _ h
  | enter f args=>
   refine xZ h λe u p => ?_;cases e with
   | returned v=>exact s _ _ p
   | panicked c=>exact p.elim
   | outgrown=>exact p.elim
  | _=>exact h.elim
 | halt x w'=>exact h.elim
def writer(ops:Array Oper)(t:Nat):Option Nat:=(List.range ops.size).find? λi=>match ops[i]? with | some o=>o.dst==some t | none=>false
def iw(ρ:Operand->Value)(ops:Array Oper)(g:Nat):Option Bool:=
 match (ops[g]?).bind (·.dst)with
 | some d=>match ρ (.tmp d)with | .bool b=>some b | _=>none
 | none=>none
def dZ(P:Program)(o:Oper)(ρ:Operand->Value)(w:World)(F:Value->World->Prop):Prop:=
 match (execOp ρ o).run P w with
 | .ok (.value v) w'=>F v w'
 | .ok .skip w'=>F undef w'
 | .ok (.enter f args) w'=>Calls P f args w' fun | .returned v,w''=>F v w'' | _,_=>False
 | _=>False
structure mV where
 r:Value->World->Prop
 st:∀v w w',Below w.heap.size w w'->r v w->r v w'
def mZ(V:Value):mV:=⟨λv _=>v=V,λ_ _ _ _ h=>h⟩
def anyR:mV:=⟨λ_ _=>True,λ_ _ _ _ _=>trivial⟩
def YF(n:Nat)(vs:List Value):mV:=⟨λv w => ∃a c,v = .slice a n c/\n<=c/\c<=maxLen/\(a=none->c=0)/\eB w a vs,
 λ_ _ _ hb ⟨a,c,h1,h2,h3,h4,h5⟩=>⟨a,c,h1,h2,h3,h4,h5.below hb⟩⟩
def rl(l:List mV)(i:Nat)(v:Value)(w:World):Prop:=(l.getD i anyR).r v w
def bn(C:Nat->Oper->Prop):Nat->List Oper->Prop
 | _,[]=>True
 | k,o::r=>C k o/\bn C (k+1) r
theorem aI{C:Nat->Oper->Prop} :bn C k []:=trivial
theorem ah{C:Nat->Oper->Prop}{r:List Oper}(h:C k o)(d:bn C (k+1) r):bn C k (o::r):=⟨h,d⟩
theorem bn.at{C:Nat->Oper->Prop}:∀ {l:List Oper} {k:Nat},bn C k l->∀i o,l[i]?=some o->C (k+i) o
 | [],_,_,_,_,h=>by simp at h
 | o::r,k,h,0,o',hi=>by simp at hi;subst hi;exact h.1
 | o::r,k,h,i+1,o',hi=>by have:=bn.at h.2 i o' (by simpa using hi);rwa [show k+(i+1)=k+1+i by omega]
def pO(P:Program)(ops:Array Oper)(a0:Act)(w0:World)(l:List mV)(i:Nat)(o:Oper):Prop:=
 ∀(ρ:Operand->Value) (y:Nat->Value) (w:World),(∀t j,writer ops t=some j->ρ (.tmp t)=y j)->(∀x,(match x with | .tmp t=>writer ops t=none | _=>True)->ρ x=a0.eval x) ->
  Below w0.heap.size w0 w->(∀j,o.after.toList.any (λe=>e.on==j)=true->rl l j (y j) w) ->
  if Region.wanted o (iw ρ ops)=true then dZ P o ρ w (λv w'=>Below w.heap.size w w'/\rl l i v w')else rl l i undef w
def kS(ops:Array Oper)(n:Nat):Bool:=ops.toList.all λo=>match o.dst with | some d=>decide (d<n) | none=>true
theorem ak{w:World}{l:List mV}(v:Value)(h:Region.wanted o (iw ρ ops)=true)(d:(execOp ρ o).run P w = .ok (.value v) w)(m:rl l i v w) :
  if Region.wanted o (iw ρ ops)=true then dZ P o ρ w (λv w'=>Below w.heap.size w w'/\rl l i v w')else rl l i undef w:=by
 rw[if_pos h];unfold dZ;rw[d];exact⟨Below.refl _ _,m⟩
theorem Fw{w:World}{l:List mV}(d:Region.wanted o (iw ρ ops)=false)(h:rl l i undef w) :
  if Region.wanted o (iw ρ ops)=true then dZ P o ρ w (λv w'=>Below w.heap.size w w'/\rl l i v w')else rl l i undef w:=by
 rw[if_neg (by rw[d];exact Bool.false_ne_true)];exact h
theorem aO{w:World}{l:List mV}(f:FuncId)(args:Array Value)(m:Region.wanted o (iw ρ ops)=true)(d:(execOp ρ o).run P w = .ok (.enter f args) w)
 (p:Calls P f args w λe w' => ∃v,e = .returned v/\Below w.heap.size w w'/\rl l i v w') :
  if Region.wanted o (iw ρ ops)=true then dZ P o ρ w (λv w'=>Below w.heap.size w w'/\rl l i v w')else rl l i undef w:=by
 rw[if_pos m];unfold dZ;rw[d];refine p.mono λe w' ⟨v,he,h⟩ => ?_;subst he;exact h
theorem aj{y:Nat->Option Bool}(d:o.guard=none):Region.wanted o y=true:=by simp[Region.wanted,d]
theorem bG(g d:Nat)(b h:Bool)(p:o.guard=some (g,h))(s:(ops[g]?).bind (·.dst)=some d)(m:ρ (.tmp d) = .bool b):Region.wanted o (iw ρ ops)=(b==h):=by
 simp only[Region.wanted,p,iw,s,m];cases b<;>cases h<;>rfl
theorem eD{w:World}{d:TypeDesc}(p:o.op = .load ty x)(h:ρ x = .pointer (some ⟨b,0,none⟩))(z:aG w b cs T)
 (m:P.underlying ty=some d) (u:(match d with | .struct _ | .array _ _=>true | _=>false)=true) (s:(P.info? ty).map (·.size)=some cs.size):(execOp ρ o).run P w = .ok (.value (.agg cs)) w:=by
 unfold execOp;simp only[p,h,Instr.loadAt,Instr.sureAddr,kY,qR,rA,run_loadVar_row w b T ty cs (0,0) d z m u s]
theorem run_move{w:World}(d:o.op = .move x\/o.op = .assign x)(h:ρ x=v):(execOp ρ o).run P w = .ok (.value v) w:=by
 rcases d with d|d<;>simp[execOp,d,h]
theorem aS{w:World}{f:FuncId}{xs:Array Operand}{m:Array TypeId}{d:Func}(p:o.op = .call { callee:=.value (.func f),args:=xs,argTypes:=m })
 (hρ : ρ (.func f) = .func (.func f) #[] #[]) (hf : P.funcs[f]? = some d) (hn : (d.name == "runtime.NumGoroutine") = false) (hb : d.body.isNone = false) (ha : xs.map ρ = args) : (execOp ρ o).run P w = .ok (.enter f args) w := by
 have u:execOp ρ o=callFunc f args:=by
  unfold execOp;simp only[p];have s:resolve ρ { callee:=.value (.func f),args:=xs,argTypes:=m } o.type=Sem.pure { target:=.fn (.func f) #[],args:=args }:=by unfold resolve;simp only[hρ,ha];simp[Deferred.ofValue];rfl
  rw[s];show callFunc f (args++#[])=_;simp
 rw[u];have a : ¬ d.name = "runtime.NumGoroutine" := by simpa using hn
 have b : ¬d.body=none:=λh=>by simp[h]at hb
 unfold callFunc;simp[hf,a,b]
theorem qz{w:World}{op:BinOp}{y:Operand}(p:o.op = .binOp op t x y t')(h:ρ x=vx)(d:ρ y=vy)
 (m:(do eqGuard op t x y vx vy;binOp op t vx vy:Sem Value).run P w = .ok v w):(execOp ρ o).run P w = .ok (.value v) w:=by
 unfold execOp;simp only[p,h,d];rw[kY,m];rfl
theorem qI{w:World}{c y:Operand}{b:Bool}(h:o.op = .pick c x y)(m:ρ c = .bool b)(d:(if b then ρ x else ρ y)=v):(execOp ρ o).run P w = .ok (.value v) w:=by
 unfold execOp;simp only[h,m];subst d;cases b<;>rfl
theorem Ei{w:World}{b:Bool}(h:o.op = .unOp .not t x)(d:ρ x = .bool b):(execOp ρ o).run P w = .ok (.value (.bool (!b))) w:=by
 unfold execOp;simp only[h,d];rfl
theorem Ki{w:World}{n:Nat}(m:o.op = .call { callee:=.builtin .len,args:=#[x],argTypes:=#[t] })(d:ρ x = .slice a n c)(h:P.underlying t=some (.slice (P.elem t))):(execOp ρ o).run P w = .ok (.value (.int .i64 n)) w:=by
 unfold execOp;simp only[m];simp[d,resolve,invoke,builtin,run_len_slice _ t o.type a n c h];rfl
theorem FX{w:World}(m:o.op = .fieldAddr t x f)(d:ρ x=vx)(h:(Instr.fieldAt t vx f).run P w = .ok v w):(execOp ρ o).run P w = .ok (.value v) w:=by
 unfold execOp;simp only[m,d];rw[kY,h];rfl
theorem run_load{w:World}(m:o.op = .load t x)(d:ρ x=vx)(h:(Instr.loadAt t vx).run P w = .ok v w):(execOp ρ o).run P w = .ok (.value v) w:=by
 unfold execOp;simp only[m,d];rw[kY,h];rfl
def KV(ops:Array Oper)(a0:Act)(l:List mV)(o:Oper)(t:Nat)(v:Value):Prop:=
 (∃k,writer ops t=some k/\o.after.toList.any (λe=>e.on==k)=true/\l.getD k anyR=mZ v)\/(writer ops t=none/\a0.eval (.tmp t)=v)
theorem YJ{l:List mV}{t:Nat}(d:writer ops t=none)(h2:a0.eval (.tmp t)=v):KV ops a0 l o t v:=.inr ⟨d,h2⟩
def YC(P:Program)(ops:Array Oper)(a0:Act)(l:List mV)(i:Nat)(o:Oper):Prop:=
 ∀(ρ:Operand->Value) (y:Nat->Value) (w:World),(∀t j,writer ops t=some j->ρ (.tmp t)=y j)->(∀x,(match x with | .tmp t=>writer ops t=none | _=>True)->ρ x=a0.eval x) ->
  (∀j,o.after.toList.any (λe=>e.on==j)=true->rl l j (y j) w)->∃v,(execOp ρ o).run P w = .ok (.value v) w/\rl l i v w
def OkW(ops:Array Oper)(l:List mV)(o:Oper)(b:Bool):Prop:=
 ∀(ρ:Operand->Value) (y:Nat->Value) (w:World),(∀t j,writer ops t=some j->ρ (.tmp t)=y j)->(∀j,o.after.toList.any (λe=>e.on==j)=true->rl l j (y j) w)->Region.wanted o (iw ρ ops)=b
theorem YD{l:List mV}(d:o.guard=none):OkW ops l o true:=λ_ _ _ _ _=>aj d
section
variable {P:Program} {ops:Array Oper} {a0:Act} {w0:World} {l:List mV} {i:Nat} {o:Oper}
theorem KV.at{t:Nat}{v:Value}(h:KV ops a0 l o t v){ρ:Operand->Value}{y:Nat->Value}{w:World}(p:∀t j,writer ops t=some j->ρ (.tmp t)=y j)(s:∀x,(match x with | .tmp t=>writer ops t=none | _=>True)->ρ x=a0.eval x)(u:∀j,o.after.toList.any (λe=>e.on==j)=true->rl l j (y j) w):ρ (.tmp t)=v:=by
 rcases h with⟨k,m,h2,z⟩|⟨m,h2⟩
 .have d:=u k h2;unfold rl at d;rw[z]at d;exact(p t k m).trans d
 .exact(s (.tmp t) m).trans h2
theorem Yd{w:World}(d:l.getD i anyR=mZ V)(e:v=V):rl l i v w:=by unfold rl;rw[d];exact e
theorem YI{t:Nat}(p:o.op = .move (.tmp t))(d:KV ops a0 l o t V)(m:l.getD i anyR=mZ V):YC P ops a0 l i o:=λρ y w h s u=>⟨V,run_move (.inl p) (d.at h s u),Yd m rfl⟩
theorem YH(s:OkW ops l o true)(h:YC P ops a0 l i o):pO P ops a0 w0 l i o:=λρ y w d p _ m=>by
 obtain⟨v,u,h2⟩:=h ρ y w d p m;exact ak v (s ρ y w d m) u h2
end
theorem jZ{α:Type}(enc:α->List Value)(sz:Nat)(d:∀x,(enc x).length=sz)(l:List α)(i:Nat)(h:i<l.length)(j:Nat)(m:j<sz):(l.flatMap enc)[i*sz+j]?=(enc l[i])[j]?:=by
 have e:(enc l[i])[j]?=some ((enc l[i])[j]'(by rw[d];exact m)):=aF _;rw[e];exact flat_get enc sz d l i h j _ e
theorem Lx{α:Type}(enc:α->List Value)(sz:Nat)(d:∀x,(enc x).length=sz)(D:0<sz)(l:List α)(m:Nat)(u:Value)(h:(l.flatMap enc)[m]?=some u) :
  ∃i j,∃p:i<l.length,m=i*sz+j/\j<sz/\(enc l[i])[j]?=some u:=by
 have E:m<l.length*sz:=by
  rcases gu m (l.flatMap enc).length with s|s
  .rwa [flat_len enc sz d]at s
  .rw[eY s]at h;cases h
 have z:=uB m D;have A:=Nat.div_add_mod m sz;have p:m / sz<l.length:=Nat.div_lt_of_lt_mul (by rw[yt];exact E);refine⟨m / sz,m%sz,p,by rw[yt];exact A.symm,z,?_⟩;rw[<-jZ enc sz d l _ p _ z,yt,A];exact h
theorem AB{α:Type}(enc:α->List Value)(sz:Nat)(d:∀x,(enc x).length=sz)(D:0<sz)(l:List α)(k:Nat)(F:k<l.length)(x:α)(off:Nat)(s:Array Value)(A:off+l.length*sz<=s.size)
 (h:∀j u,(l.flatMap enc)[j]?=some u->s[off+j]?=some u):∀j u,((l.set k x).flatMap enc)[j]?=some u->(bJ s (off+k*sz) (enc x))[off+j]?=some u:=by
 intro m u E;obtain⟨i,j,H,rfl,G,e⟩:=Lx enc sz d D _ m u E;have b : i<l.length:=by simpa using H
 by_cases p:i=k
 .subst p;rw[show off+(i*sz+j)=(off+i*sz)+j from by omega];have z:(i+1)*sz<=l.length*sz:=uH _ F;rw[uY]at z;exact putAt_in _ _ _ _ _ (by rw[d];omega) (by simpa using e)
 have a:off+(i*sz+j)<off+k*sz\/off+k*sz+(enc x).length<=off+(i*sz+j):=by
  rw[d];rcases wC p with z|z
  .have:=uH sz z;rw[De]at this;omega
  have:=uH sz z;rw[De]at this;omega
 rw[putAt_out _ _ _ _ a];refine h _ _ ?_;rw[jZ enc sz d l i b j G];rw[Dw (λe=>p e.symm)]at e;exact e
theorem Own.put{α:Type}{enc:α->List Value}(m:∀x,(enc x).length=sz)(H:0<sz){w:World}{l:List α}(h:Own w B e sz v l.length (l.flatMap enc))(k:Nat)(p:k<l.length) :
  ∃g off cap d,v = .slice (some ⟨g,off,none⟩) l.length cap/\B<=g/\aG w g d e/\off+k*sz+sz<=d.size/\(∀j u,(enc l[k])[j]?=some u->w.cell? ⟨g,off+k*sz+j,none⟩=some u) /\
   ∀w' x,aG w' g (bJ d (off+k*sz) (enc x)) e->Own w' B e sz v l.length ((l.set k x).flatMap enc):=by
 obtain⟨O,h⟩:=h;rcases h with⟨_,R⟩|⟨g,off,cap,d,rfl,E,A,D,M,G,z⟩
 .omega
 have N:(k+1)*sz<=l.length*sz:=uH _ p;have h2:l.length*sz<=cap*sz:=uH _ D;rw[uY]at N;refine⟨g,off,cap,d,rfl,E,A,by omega,λj u s => ?_,λw' x F=>⟨?_,.inr ⟨g,off,cap,_,rfl,E,F,D,M,by rw[size_putAt];exact G,?_⟩⟩⟩
 .rw[A.cell,nV];refine z _ _ ?_;have a : j<sz:=by
   rcases gu j sz with h|h
   .exact h
   .rw[eY (by rw[m];exact h)]at s;cases s
  rw[jZ enc sz m l k p j a];exact s
 .rw[flat_len enc sz m,bL]
 .exact AB enc sz m H l k p x off d (by omega) z
theorem Own.put1{f:Int->Value}{w:World}(h:Own w B e 1 v l.length (l.map f))(k:Nat)(u:k<l.length) :
  ∃g off cap,v = .slice (some ⟨g,off,none⟩) l.length cap/\B<=g/\g<w.heap.size/\w.cell? ⟨g,off+k,none⟩=some (f l[k])/\w.frozen? ⟨g,off+k,none⟩=false /\
   ∀x,Own (w.setCell ⟨g,off+k,none⟩ (f x)) B e 1 v l.length ((l.set k x).map f):=by
 rw[<-kv]at h;obtain⟨g,off,cap,A,rfl,z,d,s,p,m⟩:=h.put (sz:=1) (λ_=>rfl) Nat.one_pos k u;rw[uu]at s p m;refine⟨g,off,cap,rfl,z,d.lt,by simpa using p 0 _ rfl,d.free _,λx => ?_⟩;rw[<-kv];exact m _ x (by simpa[bJ]using d.setCell (off+k) (f x))
theorem GM{α:Type}(enc:α->List Value)(sz:Nat)(d:∀x,(enc x).length=sz)(s:0<sz)(z:Array Value)(x:α)(p:z.toList=enc x)(n:Nat):(madeCells z (n*sz)).toList=(List.replicate n x).flatMap enc:=by
 have b:z.size=sz:=by rw[<-d x,<-p];simp
 apply qZ
 .rw[flat_len enc sz d];simp[size_madeCells]
 intro m D h2;have E:m<n*sz:=by simpa[size_madeCells]using D
 have A:((List.replicate n x).flatMap enc)[m]?=some ((List.replicate n x).flatMap enc)[m]:=aF h2;obtain⟨i,j,F,e,u,h⟩:=Lx enc sz d s _ m _ A;rw[List.getElem_replicate]at h;have a:m%z.size=j:=by rw[b,e,yt,Nat.mul_add_mod,rQ u]
 simp only[madeCells,Array.toList_map,wR,Array.toList_range,Je,a];rw[<-p,uZ]at h;rw[Array.getElem!_eq_getD,dh,h];rfl
theorem GX(w:World){a:Act} 
 (N:o.guard=none) (l c:Operand) (t:TypeId) (s:o.op=Op.makeSlice t l c)
 {α:Type} (enc:α->List Value) (e:TypeId) (z:Value) (h m:Nat) (x:α) (p:∀x,(enc x).length=h) (G:0<h) (h1:P.underlying t=some (.slice e)) (h2:(P.info? e).map (λi=>(i.zero,i.size,i.bytes))=some (some z,h,m)) (E:z.cells.toList=enc x)
 (u A:IntKind) (L C:Int) (n:Nat) (H:a.eval l = .int u L) (O:a.eval c = .int A C) (S:L=(n:Int)) (X:C=(n:Int)) (b2:m*n<=281474976710656) (b3:n<=maxLen)
 (U:∀w',Own w' w.heap.size e h (.slice (some ⟨w.heap.size,0,none⟩) n n) n ((List.replicate n x).flatMap enc)->w.grownBy w' none->wpList P ops Q rest (a.put o.dst (.slice (some ⟨w.heap.size,0,none⟩) n n)) w') :
  wpList P ops Q (o::rest) a w:=by
 obtain⟨i,M,b,F,R⟩:=info_parts h2;refine wpList_make_full w N l c t s w.heap.size e i z h h1 M b F u A L C n H O S X (by rw[R];exact b2) b3 (az _) λw' D d=>U w' ?_ d;rw[GM enc h p G z.cells x E]at D;exact Own.of_owns D
theorem own_ne{w:World}{n:Nat}(h:Own w B e sz v n xs)(p:aG w g cs T)(u:T≠e):∀m,v.ownBlock=some m->some g≠some m:=by
 intro m a s;cases s;rcases h.2 with⟨rfl,_⟩|⟨A,off,cap,z,rfl,_,d,_⟩
 .cases a
 cases a;unfold aG at p d;rw[p]at d;simp only[jA,uj]at d;exact u d.2.1
theorem ax{w:World}{n:Nat}(h:Own w B e sz v n xs)(m:aG w g cs T)(p:T≠e)(d:w.grownBy w' (some g)):Own w' B e sz v n xs:=
 h.grown d (own_ne h m p)
def nA(B:Nat)(e:TypeId)(sz n:Nat)(xs:List Value):mV:=⟨λv w=>Own w B e sz v n xs,λ_ _ _ hb h=>h.below hb⟩
theorem iG{w:World}{X:Array Value}(m:World->Prop)(h:∀W,Below w.heap.size w W->aG W w.heap.size X TX->W.heap.size=w.heap.size+1->m W):m (w.alloc (.cells X TX)):=
 h _ ((Below.refl _ _).alloc (az _) _) (aG.new _ _ _) (by simp)
theorem uT{w:World}{X:Array Value}(m:World->Prop)(h:∀W,Below w.heap.size w W->aG W w.heap.size X TX->aG W (w.heap.size+1) Y TY->W.heap.size=w.heap.size+2->m W) :
  m ((w.alloc (.cells X TX)).alloc (.cells Y TY)):=by
 refine iG (λW=>m (W.alloc (.cells Y TY))) λA u p s => ?_;refine iG m λz a d b => ?_;rw[s]at d b;exact h z (ag u a) (p.ext a) d (by omega)
theorem Nb{w:World}{X:Array Value}(m:World->Prop)(h:∀W,Below w.heap.size w W->aG W w.heap.size X TX->aG W (w.heap.size+1) Y TY->aG W (w.heap.size+2) Z TZ->W.heap.size=w.heap.size+3->m W) :
  m (((w.alloc (.cells X TX)).alloc (.cells Y TY)).alloc (.cells Z TZ)):=by
 refine uT (λW=>m (W.alloc (.cells Z TZ))) λD z s p u => ?_;refine iG m λA a d b => ?_;rw[u]at d b;exact h A (ag z a) (s.ext a) (p.ext a) d (by omega)
theorem Own.drop{α:Type}{enc:α->List Value}(d:∀x,(enc x).length=sz){w:World}{l:List α}(h:Own w B e sz (.slice (some ⟨g,off,none⟩) l.length cap) l.length (l.flatMap enc))(k:Nat)(s:k<=l.length) :
  Own w B e sz (.slice (some ⟨g,off+k*sz,none⟩) (l.drop k).length (cap-k)) (l.drop k).length ((l.drop k).flatMap enc):=by
 obtain⟨O,h⟩:=h;rcases h with⟨H,_⟩|⟨S,p,z,m,A,G,F,R,N,M,D⟩
 .cases H
 cases A;refine⟨flat_len enc sz d _,.inr ⟨g,off+k*sz,cap-k,m,rfl,G,F,by simp;omega,by omega,?_,λj u E => ?_⟩⟩
 .have:(cap-k)*sz+k*sz=cap*sz:=by rw[<-uY];congr 1;omega
  omega
 rw[nV];refine D _ _ ?_;have e:l.flatMap enc=(l.take k).flatMap enc++(l.drop k).flatMap enc:=by rw[<-fI,rX]
 rw[e,jU (by rw[flat_len enc sz d,iO,uz s];omega),flat_len enc sz d,iO,uz s,Bc];exact E
theorem jh{w:World}{l:List mV}(v:Value)(h:Region.wanted o (iw ρ ops)=true)(d:(execOp ρ o).run P w = .ok (.value v) w')(m:Below w.heap.size w w')(p:rl l i v w') :
  if Region.wanted o (iw ρ ops)=true then dZ P o ρ w (λv w'=>Below w.heap.size w w'/\rl l i v w')else rl l i undef w:=by
 rw[if_pos h];unfold dZ;rw[d];exact⟨m,p⟩
theorem lc{w:World}(h:w.grownBy w' none):Below w.heap.size w w':=(Below.refl _ _).grown h (az _) (λk d=>by cases d)
theorem Own.empty(w:World)(T:TypeId)(d:B<=w.heap.size):Own (w.alloc (.cells #[] T)) B T sz (.slice (some ⟨w.heap.size,0,none⟩) 0 0) 0 []:=
 ⟨by simp,.inr ⟨w.heap.size,0,0,#[],rfl,d,aG.new _ _ _,az _,bq _,by simp,λj u h=>by simp at h⟩⟩
def yP(ops:Array Oper):Nat->Nat->List Nat
 | 0,_=>[]
 | f+1,i=>match ops[i]? with
  | none=>[]
  | some o=>o.after.toList.flatMap λe=>e.on::yP ops f e.on
def jg(ops:Array Oper)(m:Nat):Bool:=
 (List.range ops.size).all λi=>decide (i<m)||(List.range i).all λj=>(yP ops ops.size i).contains j
theorem wF{ops:Array Oper}{d:Array Bool}(s:∀i o,ops[i]?=some o->d.getD i false=true->∀e∈o.after,d.getD e.on false=true):∀(f i:Nat),(∀o,ops[i]?=some o->∀e∈o.after,d.getD e.on false=true)->∀j∈yP ops f i,d.getD j false=true
 | 0,_,_,j,hj=>by simp[yP]at hj
 | f+1,i,h,j,hj=>by
  unfold yP at hj;cases ho:ops[i]? with
  | none=>simp[ho]at hj
  | some o=>
   simp only[ho,jV]at hj;obtain⟨e,z,hj⟩:=hj;have m:=nZ.1 z;rcases dx.1 hj with rfl|hj
   .exact h o ho e m
   .exact wF s f e.on (λu p=>s e.on u p (h o ho e m)) j hj
theorem wG{m:Nat}(h:jg ops m=true){d:Array Bool}(z:∀i o,ops[i]?=some o->d.getD i false=true->∀e∈o.after,d.getD e.on false=true)(s:ops[i]?=some o)(A:∀e∈o.after,d.getD e.on false=true)(E:m<=i)(j:Nat)(u:j<i):d.getD j false=true:=by
 have b:i<ops.size:=(iX.1 s).1;have p:=fA.1 h i (dG.2 b);simp only[qy,decide_eq_true_eq]at p;rcases p with p|p
 .omega
 have h2:=fA.1 p j (dG.2 u);refine wF z ops.size i (λD a => ?_) j (by simpa using h2);rw[s]at a;cases a;exact A
theorem vw{m:Nat}(A:jY ops=true)(S:jg ops m=true):∀(fuel k:Nat) (s:Array Bool) (a:Act) (w:World),
  m<=k->k<=ops.size->ops.size-k<=fuel->s.size=ops.size->(∀i,i<ops.size->s.getD i false=decide (i<k))->wpList P ops Q (ops.toList.drop k) a w->wpAny P .any ops Q fuel s a w:=by
 intro fuel
 induction fuel with
 | zero=>
  intro k s a w p U hf g z h;obtain rfl:k=ops.size:=by omega
  refine⟨?_,?_⟩
  .rw[List.eq_nil_iff_forall_not_mem];intro i D;obtain⟨M,o,u,_⟩:=mem_ready.1 D;have b:i<ops.size:=(iX.1 u).1;have:=z i b;simp[dh,show i<s.size by omega]at M this;rw[M]at this;simp[b]at this
  rw[qX (by simp)]at h;simpa[wpList]using h
 | succ fuel ih=>
  intro k s a w p U hf g z h;have only:∀i∈Region.ready .any ops s,i=k:=by
   intro i D;obtain⟨M,o,u,f⟩:=mem_ready.1 D;have b:i<ops.size:=(iX.1 u).1;have h2:=z i b;have h3:s.getD i false=false:=by simp[dh,show i<s.size by omega]at M ⊢;exact M
   rw[h3]at h2;have r:k<=i:=by have:=h2.symm;simpa using this
   rcases gu k i with F | H
   .exfalso;have h4:s.getD k false=true:=wG S (λN o' l n e E=>by
     have q : N < ops.size:=(iX.1 l).1;have h8:=(iy A l).2.1 e E;rw[z N q]at n;have h9:N < k:=by simpa using n
     rw[z e.on (by omega)];simp;omega) u (λe E=>f e E ((iy A u).2.1 e E).1) (by omega) k F
    have O:=z k (by omega);rw[h4]at O;simp at O
   .omega
  refine⟨λc => ?_,λi D => ?_⟩
  .rcases gu k ops.size with b|H
   .exfalso;have:k∈Region.ready .any ops s:=by
     rw[mem_ready];refine⟨?_,ops[k],by simp[b],λe E hb => ?_⟩
     .have:=z k b;simp[dh,show k<s.size by omega]at this ⊢;exact this
     have h6:=(iy A (i:=k) (o:=ops[k]) (by simp[b])).2.1 e E;rw[z e.on (by omega)];simp[h6.2]
    rw[c]at this;cases this
   rw[qX (by simpa using H)]at h;simpa[wpList]using h
  obtain rfl:=only i D;obtain⟨_,o,u,_⟩:=mem_ready.1 D;have b:i<ops.size:=(iX.1 u).1;have d:ops.toList.drop i=o::ops.toList.drop (i+1):=by rw[vY (by simpa using b)];congr 1;have:=(iX.1 u).2;simpa using this
  rw[d]at h;have R:wpOp P ops Q i (wpList P ops Q (ops.toList.drop (i+1))) a w:=by unfold wpOp;simp only[u];simpa[wpList]using h
  refine wpOp_mono (λa' w' h'=>ih (i+1) _ a' w' (by omega) (by omega) (by omega) (by simp[g]) (λj X => ?_) h') R
  by_cases G:j=i
  .subst G;simp[dh,show j<s.size by omega]
  have:=z j X;simp only[dh,ib (pu G)]at this ⊢;rw[this];congr 1;simp;omega
def Fixed:List mV->Prop
 | []=>True
 | R::l=>(∀v w w',R.r v w->R.r v w')/\Fixed l
theorem fix_nil:Fixed []:=trivial
theorem LV{R:mV}{l:List mV}(h:∀v w w',R.r v w->R.r v w')(d:Fixed l):Fixed (R::l):=⟨h,d⟩
theorem Fixed.at:∀ {l:List mV},Fixed l->∀i v w w',rl l i v w->rl l i v w'
 | [],_,_,_,_,_,_=>by unfold rl;simp[anyR]
 | R::l,h,0,v,w,w',hr=>by unfold rl at hr ⊢; simpa using h.1 v w w' (by simpa using hr)
 | R::l,h,i+1,v,w,w',hr=>by have:=Fixed.at h.2 i v w w';unfold rl at hr this ⊢;simp only[List.getD_cons_succ]at hr ⊢;exact this hr
def dF(F:Value->Prop):mV:=⟨λv _=>F v,λ_ _ _ _ h=>h⟩
def fE(y:Nat->Value)(i:Nat)(v:Value):Nat->Value:=λk=>if k=i then v else y k
def Ya(ops:Array Oper)(m:Nat)(R:Nat->Value->World->Prop)(a0:Act)(J:(Nat->Bool)->(Nat->Value)->World->Prop)(listed:Array Bool)(a:Act)(w:World):Prop:=
 (∀i,m<=i->listed.getD i false=false)/\(∀i o,ops[i]?=some o->listed.getD i false=true->∀e∈o.after,listed.getD e.on false=true)/\∃y:Nat->Value,a = { a0 with tmps:=lay (λi=>listed.getD i false) y ops.toList 0 a0.tmps }/\J (λi=>listed.getD i false) y w/\∀i,i<ops.size->listed.getD i false=true->R i (y i) w
theorem BK(m:Nat)(H:jY ops=true)(ht:jg ops m=true)(hmn:m<=ops.size)
 (R:Nat->Value->World->Prop) (J:(Nat->Bool)->(Nat->Value)->World->Prop) (hJ0:∀y,J (λ_=>false) y w0.drew) (hstab:∀i v w w',R i v w->R i v w')
 (hstep:∀i o,i<m->ops[i]?=some o->∀L y w,L i=false->(∀j,o.after.toList.any (λe=>e.on==j)=true->L j=true)->J L y w->(∀j,o.after.toList.any (λe=>e.on==j)=true->R j (y j) w) ->
 if Region.wanted o (yielded ops (lay (λ_=>true) y ops.toList 0 a0.tmps))=true then Gives P o { a0 with tmps:=lay (λ_=>true) y ops.toList 0 a0.tmps } w (λv w'=>J (dQ L i) (fE y i v) w'/\R i v w')else J (dQ L i) (fE y i undef) w/\R i undef w)
 (X:∀y w,J (λi=>decide (i<m)) y w->(∀i,i<m->R i (y i) w)->wpList P ops Q (ops.toList.drop m) { a0 with tmps:=lay (λi=>decide (i<m)) y ops.toList 0 a0.tmps } w) :
  wpAny P .any ops Q ops.size (Array.replicate ops.size false) a0 w0.drew:=by
 have hG:∀(fuel:Nat) (A:Array Bool) (a:Act) (w:World),A.size=ops.size->A.toList.countP (!·)<=fuel->Ya ops m R a0 J A a w->wpAny P .any ops Q fuel A a w:=by
  intro fuel
  induction fuel with
  | zero=>
   intro A a w n hc hA;have hl:∀i,i<ops.size->A.getD i false=true:=by
    intro i hH;have h0:A.toList.countP (!·)=0:=by omega
    have:=yl.1 h0 (A[i]'(by omega)) (by simp);simpa[dh,show i<A.size by omega]using this
   obtain⟨b,hz,y,ha,hb,hR⟩:=hA;have hC : m=ops.size:=by
    rcases gu m ops.size with h|h
    .have h1:=hl m h;rw[b m (az _)]at h1;cases h1
    .omega
   refine vw (m:=m) H ht 0 ops.size A a w (by omega) (az _) (by omega) n (λi D=>by rw[hl i D];simp[D]) ?_;have hf:(λi=>A.getD i false)=λi=>decide (i<m):=by
    funext i
    by_cases D:i<m
    .rw[hl i (by omega)];simp[D]
    .rw[b i (by omega)];simp[D]
   rw[hf]at hb;have:=X y w hb λi D=>hR i (by omega) (hl i (by omega));rw[ha,sP (λi=>A.getD i false) (λi=>decide (i<m)) y ops.toList 0 a0.tmps (λk O=>by
    have hI : k<ops.size:=by simpa using O
    simp only[ed];rw[hl k hI];simp;omega)]
   rw[hC]at this ⊢;exact this
  | succ fuel ih=>
   intro A a w n hc hA
   by_cases E:∀i,i<m->A.getD i false=true
   .obtain⟨b,hz,y,ha,hb,hR⟩:=hA;have N:∀i,i<ops.size->A.getD i false=decide (i<m):=by
     intro i D
     by_cases G:i<m
     .rw[E i G];simp[G]
     .rw[b i (by omega)];simp[G]
    have hp:ops.size-m<=fuel+1:=by
     have h1:A.toList.countP (!·)=ops.size-m:=by
      have e:A.toList=List.replicate m true++List.replicate (ops.size-m) false:=by
       apply nY;intro i
       by_cases D:i<ops.size
       .have h2:=N i D;rw[uZ,Ag (show i<A.size by omega)];simp only[dh,Ag (show i<A.size by omega),qh]at h2;rw[h2]
        by_cases G:i<m
        .rw[kK (by simpa using G)];simp[G]
        rw[jU (by simp;omega)];rw[kL,qa,if_pos (by omega)];simp[G]
       .rw[eY (by simp;omega),eY (by simp;omega)]
      rw[e];simp[Db,List.countP_replicate]
     omega
    refine vw (m:=m) H ht (fuel+1) m A a w (az _) hmn hp n N ?_;have hf:(λi=>A.getD i false)=λi=>decide (i<m):=by
     funext i
     by_cases D:i<m
     .rw[E i D];simp[D]
     .rw[b i (by omega)];simp[D]
    rw[hf]at hb;have:=X y w hb λi D=>hR i (by omega) (E i D);rw[ha,sP (λi=>A.getD i false) (λi=>decide (i<m)) y ops.toList 0 a0.tmps (λk O=>by simp only[ed];exact N k (by simpa using O))];exact this
   have r:Region.ready .any ops A≠[]:=by
    intro hn;apply E;intro i
    induction i using Nat.strongRecOn with
    | ind i ih'=>
     intro G
     by_cases hc' : A.getD i false=true
     .exact hc'
     exfalso;have D:i<ops.size:=by omega
     have hr:i∈Region.ready .any ops A:=by
      rw[mem_ready];refine⟨?_,ops[i],by simp[D],λe M _ => ?_⟩
      .simpa[dh,show i<A.size by omega]using hc'
      have:=(iy H (i:=i) (o:=ops[i]) (by simp[D])).2.1 e M;exact ih' e.on this.2 (by omega)
     rw[hn]at hr;cases hr
   refine⟨λh=>absurd h r,λi D => ?_⟩;obtain⟨h1,o,U,hy⟩:=mem_ready.1 D;have hH:i<ops.size:=(iX.1 U).1;obtain⟨hB,d,_⟩:=iy H U;have N:∀e∈o.after,A.getD e.on false=true:=λe M=>hy e M (d e M).1;have G:i<m:=by
    rcases gu i m with h|h
    .exact h
    exfalso;apply E;intro j hj;exact wG ht hA.2.1 U N h j (by omega)
   obtain⟨b,hz,y,ha,hb,hR⟩:=hA;have z:∀v w',J (dQ (λi=>A.getD i false) i) (fE y i v) w'->R i v w'->wpAny P .any ops Q fuel (A.setIfInBounds i true) (a.put o.dst v) w':=by
    intro v w' hF hv;have hf:dQ (λi=>A.getD i false) i=λk=>(A.setIfInBounds i true).getD k false:=by
     funext k;unfold dQ
     by_cases F:k=i
     .subst F;simp[dh,show k<A.size by omega]
     rw[if_neg F];simp[dh,ib (pu F)]
    rw[hf]at hF;refine ih _ _ _ (by simp[n]) ?_ ⟨λk O => ?_,λk o' u O e M => ?_,λk=>if k=i then v else y k,?_,hF,?_⟩
    .have hD:i<A.toList.length:=by simp;omega
     have c:A.toList[i]=false:=by simpa[dh,show i<A.size by omega]using h1
     have:=List.countP_set (p:=(!·)) (l:=A.toList) (i:=i) (a:=true) hD;rw[c]at this;have hK:0<A.toList.countP (!·):=xV.2 ⟨A.toList[i],eu hD,by rw[c];rfl⟩;simp only[Dg];simp only[Bool.not_false,Bool.not_true,if_true,uU,if_false]at this;omega
    .have:=b k O;simp only[dh,ib (show i≠k by omega)]at this ⊢;exact this
    .have up:∀q,A.getD q false=true->(A.setIfInBounds i true).getD q false=true:=by
      intro q hq
      by_cases hqi:q=i
      .subst hqi;simp[dh,show q<A.size by omega]
      .simpa[dh,ib (pu hqi)]using hq
     apply up
     by_cases F:k=i
     .subst F;rw[U]at u;cases u;exact N e M
     .exact hz k o' u (by simpa[dh,ib (pu F)]using O) e M
    .rw[ha,Jg H U n v]
    intro k O hJ
    by_cases F:k=i
    .subst F;simpa using hv
    have:A.getD k false=true:=by simpa[dh,ib (pu F)]using hJ
    simp only[F,if_false];exact hstab _ _ _ _ (hR k O this)
   have hh:∀t∈o.looksAt ops,a.tmps[t]?=(lay (λ_=>true) y ops.toList 0 a0.tmps)[t]?:=λt ht=>by rw[ha];exact BC H U N t ht
   have hu:execOp a.eval o=execOp ({ a0 with tmps:=lay (λ_=>true) y ops.toList 0 a0.tmps }:Act).eval o:=by
    refine execOp_congr o hB λx hx => ?_;cases x with
    | tmp t=>
     have:=hh t (qg _ (JQ.2 ⟨.tmp t,by simpa using hx,rfl⟩));simp[Act.eval,this]
    | _=>rfl
   have f:Region.wanted o (yielded ops a.tmps)=Region.wanted o (yielded ops (lay (λ_=>true) y ops.toList 0 a0.tmps)):=by
    unfold Region.wanted;cases hg:o.guard with
    | none=>rfl
    | some gw=>
     obtain⟨g,want⟩:=gw;have:yielded ops a.tmps g=yielded ops (lay (λ_=>true) y ops.toList 0 a0.tmps) g:=by
      unfold yielded;cases hd:(ops[g]?).bind (·.dst)with
      | none=>rfl
      | some t=>
       have:=hh t (uQ _ (by simp[hg,hd]));simp[this]
     simp only[this]
   have hs:=hstep i o G U (λi=>A.getD i false) y w (by simpa[dh,show i<A.size by omega]using h1) (λj hj=>by
    obtain⟨e,M,hw⟩:=jK.1 hj;have hm : e.on=j:=by simpa using hw
    subst hm;exact N e (nZ.1 M)) hb (λj hj=>by
    obtain⟨e,M,hw⟩:=jK.1 hj;have hm : e.on=j:=by simpa using hw
    subst hm;have hE:=nZ.1 M;exact hR e.on (by have:=(d e hE).2;omega) (N e hE))
   by_cases S:Region.wanted o (yielded ops (lay (λ_=>true) y ops.toList 0 a0.tmps))=true
   .rw[if_pos S]at hs;exact tH U (by rw[f];exact S) hu hs λv w' h=>z v w' h.1 h.2
   rw[if_neg S]at hs;unfold wpOp;simp only[U];rw[if_neg (by rw[f];exact S)];exact z undef w hs.1 hs.2
 refine hG ops.size _ _ _ (by simp) ?_ ⟨λi _ => ?_,λi o' u D => ?_,λ_=>undef,?_,?_,?_⟩
 .simpa using yG (p:=(!·)) (l:=List.replicate ops.size false)
 .simp[dh,su];split<;>rfl
 .exfalso;have:i<ops.size:=(iX.1 u).1;simp[dh,this]at D
 .have e:lay (λi=>(Array.replicate ops.size false).getD i false) (λ_=>undef) ops.toList 0 a0.tmps=a0.tmps:=by apply mI;intro s;exact jr _ _ s _ 0 _ λk o' O hd=>by simp[dh,su];split<;>rfl
  rw[e]
 .have e:(λi=>(Array.replicate ops.size false).getD i false)=λ_=>false:=by funext i;simp[dh,su];split<;>rfl
  rw[e];exact hJ0 _
 intro i D N;simp[dh,D]at N
def nu(P:Program)(ops:Array Oper)(a0:Act)(J:(Nat->Bool)->(Nat->Value)->World->Prop)(l:List mV)(i:Nat)(o:Oper):Prop:=
 ∀(ρ:Operand->Value) (y:Nat->Value) (w:World) (L:Nat->Bool),(∀t j,writer ops t=some j->ρ (.tmp t)=y j)->(∀x,(match x with | .tmp t=>writer ops t=none | _=>True)->ρ x=a0.eval x) ->
  L i=false->(∀j,o.after.toList.any (λe=>e.on==j)=true->L j=true)->J L y w->(∀j,o.after.toList.any (λe=>e.on==j)=true->rl l j (y j) w) ->
  if Region.wanted o (iw ρ ops)=true then dZ P o ρ w (λv w'=>J (dQ L i) (fE y i v) w'/\rl l i v w')else J (dQ L i) (fE y i undef) w/\rl l i undef w
theorem Ib(m:Nat)(l:List mV)(J:(Nat->Bool)->(Nat->Value)->World->Prop)(O:∀L y w w',Below w.heap.size w w'->J L y w->J L y w')(S:∀y,J (λ_=>false) y w0)(F:Fixed l)(E:jY ops=true)(ht:jg ops m=true)(R:m<=ops.size)
 (n:Nat) (hn:a0.tmps.size=n) (N:kS ops n=true)
 (A:bn (nu P ops a0 J l) 0 (ops.toList.take m))
 (G:∀y w,J (λi=>decide (i<m)) y w->(∀i,i<m->rl l i (y i) w)->wpList P ops Q (ops.toList.drop m) { a0 with tmps:=lay (λi=>decide (i<m)) y ops.toList 0 a0.tmps } w) :
  wpAny P .any ops Q ops.size (Array.replicate ops.size false) a0 w0.drew:=by
 refine BK m E ht R (rl l) J (λy=>O _ y w0 w0.drew ⟨rfl,rfl,rfl,az _,λ_ _=>rfl⟩ (S y)) (λi v w w' h=>F.at i v w w' h) (λi o u hi L y w hc hf hb hd => ?_) G;have f:∀t j,writer ops t=some j->({ a0 with tmps:=lay (λ_=>true) y ops.toList 0 a0.tmps }:Act).eval (.tmp t)=y j:=by
  intro t j M;unfold writer at M;have X:=ut M;have h2:=dG.1 (rR M);cases ho:ops[j]? with
  | none=>simp[ho]at X
  | some p=>
   have a : p.dst=some t:=by simpa[ho]using X
   have s:t<a0.tmps.size:=by have:=fA.1 N p (nZ.2 (Ab ho));rw[hn];simpa[a]using this
   have hu:∀H D,ops.toList[H]?=some D->D.dst=some t->H = j:=by
    intro H D b ha;rcases((iy E (i:=H) (o:=D) (by simpa using b)).2.2 j p t ho a).1 with h|h
    .exact h
    .exact absurd ha h
   have:=mG (λ_=>true) y t ops.toList 0 a0.tmps j p (by simpa using ho) a rfl hu s;simp[Act.eval,this]
 have r:∀x,(match x with | .tmp t=>writer ops t=none | _=>True)->({ a0 with tmps:=lay (λ_=>true) y ops.toList 0 a0.tmps }:Act).eval x=a0.eval x:=by
  intro x U;cases x with
  | tmp t=>
   have:(lay (λ_=>true) y ops.toList 0 a0.tmps)[t]?=a0.tmps[t]?:=by
    refine jr _ y t _ 0 _ λk D hk a => ?_;exfalso;simp only[writer]at U;have b : ops[k]?=some D:=by simpa using hk
    have e:k<ops.size:=(iX.1 b).1;have:=ru.1 U k (dG.2 e);simp[b,a]at this
   simp[Act.eval,this]
  | _=>rfl
 have c:Region.wanted o (yielded ops (lay (λ_=>true) y ops.toList 0 a0.tmps))=Region.wanted o (iw ({ a0 with tmps:=lay (λ_=>true) y ops.toList 0 a0.tmps }:Act).eval ops):=by
  congr 1;funext g;unfold yielded iw;cases (ops[g]?).bind (·.dst)with
  | none=>rfl
  | some d=>
   simp only[Bg,Act.eval,dh];generalize (lay (λ_=>true) y ops.toList 0 a0.tmps)[d]?=q;cases q with
   | none=>rfl
   | some v=>cases v<;>rfl
 have z : (ops.toList.take m)[i]?=some o:=by rw[mg,if_pos u];simpa using hi
 have:=bn.at A i o z _ y w L f r (by rw[ed];exact hc) hf hb hd;rw[ed]at this;rw[c];exact this
theorem TR(m:Nat)(l:List mV)(J:(Nat->Bool)->(Nat->Value)->World->Prop)(u:∀L y w w',Below w.heap.size w w'->J L y w->J L y w')(D:∀y,J (λ_=>false) y w0)(h:Fixed l)(G:P.follows .mixedOrders=true)(z:jY ops=true)(E:jg ops m=true)(A:m<=ops.size)
 (n:Nat) (F:a0.tmps.size=n) (s:kS ops n=true)
 (d:bn (nu P ops a0 J l) 0 (ops.toList.take m))
 (p:∀y w,J (λi=>decide (i<m)) y w->(∀i,i<m->rl l i (y i) w)->wpList P ops Q (ops.toList.drop m) { a0 with tmps:=lay (λi=>decide (i<m)) y ops.toList 0 a0.tmps } w) :
  (Code.region id ops true).wp P Q a0 w0:=
 wp_region_any G (Ib m l J u D h z E A n F s d p)
theorem fZ{w:World}{l:List mV}{J:(Nat->Bool)->(Nat->Value)->World->Prop}(m:∀L y w w',Below w.heap.size w w'->J L y w->J L y w')
 (d:∀v w,J L y w->J (dQ L i) (fE y i v) w) (s:J L y w)
 (h:if Region.wanted o (iw ρ ops)=true then dZ P o ρ w (λv w'=>Below w.heap.size w w'/\rl l i v w')else rl l i undef w) :
  if Region.wanted o (iw ρ ops)=true then dZ P o ρ w (λv w'=>J (dQ L i) (fE y i v) w'/\rl l i v w')else J (dQ L i) (fE y i undef) w/\rl l i undef w:=by
 split at h
 .rename_i u;rw[if_pos u];unfold dZ at h ⊢;split at h
  .exact⟨d _ _ (m _ _ _ _ h.1 s),h.2⟩
  .exact⟨d _ _ (m _ _ _ _ h.1 s),h.2⟩
  .refine xZ h λe z p => ?_;cases e with
   | returned v=>exact⟨d _ _ (m _ _ _ _ p.1 s),p.2⟩
   | panicked c=>exact p.elim
   | outgrown=>exact p.elim
  .exact h.elim
 rename_i u;rw[if_neg u];exact⟨d _ _ s,h⟩
theorem jd{w:World}{l:List mV}{J:(Nat->Bool)->(Nat->Value)->World->Prop}(f:FuncId)(args:Array Value)(m:Region.wanted o (iw ρ ops)=true)(d:(execOp ρ o).run P w = .ok (.enter f args) w)
 (p:Calls P f args w λe w' => ∃v,e = .returned v/\J (dQ L i) (fE y i v) w'/\rl l i v w') :
  if Region.wanted o (iw ρ ops)=true then dZ P o ρ w (λv w'=>J (dQ L i) (fE y i v) w'/\rl l i v w')else J (dQ L i) (fE y i undef) w/\rl l i undef w:=by
 rw[if_pos m];unfold dZ;rw[d];refine p.mono λe w' ⟨v,he,h⟩ => ?_;subst he;exact h
theorem fH{w:World}{l:List mV}{J:(Nat->Bool)->(Nat->Value)->World->Prop}(v:Value)(h:Region.wanted o (iw ρ ops)=true)(d:(execOp ρ o).run P w = .ok (.value v) w')
 (p:J (dQ L i) (fE y i v) w') (m:rl l i v w') :
  if Region.wanted o (iw ρ ops)=true then dZ P o ρ w (λv w'=>J (dQ L i) (fE y i v) w'/\rl l i v w')else J (dQ L i) (fE y i undef) w/\rl l i undef w:=by
 rw[if_pos h];unfold dZ;rw[d];exact⟨p,m⟩
theorem FJ{a:Act}{w:World}{F G:Value->World->Prop}(h:Gives P o a w F)(d:∀v w',F v w'->G v w'):Gives P o a w G:=by
 unfold Gives at h ⊢;generalize (execOp a.eval o).run P w=r at h;cases r with
 | ok n w'=>
  cases n<;>first
   | exact d _ _ h
   | exact xZ h λe p m=>by cases e<;>first | exact d _ _ m | exact m
   | exact h
 | halt x w'=>exact h
theorem Ow{R R' : Nat->Value->Prop}(h:∀k,L k=true->R k (y k))(m:R' i v)(p:∀k v,R k v->R' k v)(k:Nat)(d:dQ L i k=true):R' k (fE y i v k):=by
 unfold dQ at d;unfold fE
 by_cases e:k=i
 .rw[if_pos e,e];exact m
 rw[if_neg e]at d ⊢;exact p _ _ (h k d)
theorem CV(m:Nat)(S:P.follows .mixedOrders=true)(D:jY ops=true)(M:jg ops m=true)(E:m<=ops.size)
 (R:Nat->Value->World->Prop) (p:∀i v w w',Below w.heap.size w w'->R i v w->R i v w')
 (d:∀i o,i<m->ops[i]?=some o->∀y w,Below w0.heap.size w0 w->(∀j,o.after.toList.any (λe=>e.on==j)=true->R j (y j) w) ->
 if Region.wanted o (yielded ops (lay (λ_=>true) y ops.toList 0 a0.tmps))=true then Gives P o { a0 with tmps:=lay (λ_=>true) y ops.toList 0 a0.tmps } w (λv w'=>Below w.heap.size w w'/\R i v w')else R i undef w)
 (z:∀y w,Below w0.heap.size w0 w->(∀i,i<m->R i (y i) w)->wpList P ops Q (ops.toList.drop m) { a0 with tmps:=lay (λi=>decide (i<m)) y ops.toList 0 a0.tmps } w) :
  (Code.region id ops true).wp P Q a0 w0:=
 wp_region_any S (BK m D M E (λ_ _ _=>True) (λL y w=>Below w0.heap.size w0 w/\∀i,L i=true->R i (y i) w) (λy=>⟨⟨rfl,rfl,rfl,az _,λ_ _=>rfl⟩,λi h=>(by cases h)⟩) (λ_ _ _ _ _=>trivial) (λi o F O L y w hL hd s _=>by
  have h:=d i o F O y w s.1 (λj X=>s.2 j (hd j X));have u:∀v w',Below w.heap.size w w'->R i v w'->Below w0.heap.size w0 w'/\∀k,dQ L i k=true->R k (fE y i v k) w':=λv w' H N=>⟨ag s.1 H,λk U=>Ow s.2 N (λk v h=>p k v _ _ H h) k U⟩;split at h
  .rename_i A;rw[if_pos A];exact FJ h λv w' G=>⟨u v w' G.1 G.2,trivial⟩
  rename_i A;rw[if_neg A];exact⟨u undef w (Below.refl _ _) h,trivial⟩) (λy w s _=>z y w s.1 λi F=>s.2 i (decide_eq_true F)))
theorem Tu(m:Nat)(l:List mV)(hm:P.follows .mixedOrders=true)(E:jY ops=true)(X:jg ops m=true)(N:m<=ops.size)
 (n:Nat) (hn:a0.tmps.size=n) (M:kS ops n=true)
 (A:bn (pO P ops a0 w0 l) 0 (ops.toList.take m))
 (F:∀y w,Below w0.heap.size w0 w->(∀i,i<m->rl l i (y i) w)->wpList P ops Q (ops.toList.drop m) { a0 with tmps:=lay (λi=>decide (i<m)) y ops.toList 0 a0.tmps } w) :
  (Code.region id ops true).wp P Q a0 w0:=by
 refine CV m hm E X N (rl l) (λi v w w' O h=>(l.getD i anyR).st v w w' O h) (λi o u hi y w O hd => ?_) F;have f:∀t j,writer ops t=some j->({ a0 with tmps:=lay (λ_=>true) y ops.toList 0 a0.tmps }:Act).eval (.tmp t)=y j:=by
  intro t j H;unfold writer at H;have S:=ut H;have h2:=dG.1 (rR H);cases ho:ops[j]? with
  | none=>simp[ho]at S
  | some p=>
   have a : p.dst=some t:=by simpa[ho]using S
   have s:t<a0.tmps.size:=by have:=fA.1 M p (nZ.2 (Ab ho));rw[hn];simpa[a]using this
   have U:∀G D,ops.toList[G]?=some D->D.dst=some t->G = j:=by
    intro G D b ha;rcases((iy E (i:=G) (o:=D) (by simpa using b)).2.2 j p t ho a).1 with h|h
    .exact h
    .exact absurd ha h
   have:=mG (λ_=>true) y t ops.toList 0 a0.tmps j p (by simpa using ho) a rfl U s;simp[Act.eval,this]
 have r:∀x,(match x with | .tmp t=>writer ops t=none | _=>True)->({ a0 with tmps:=lay (λ_=>true) y ops.toList 0 a0.tmps }:Act).eval x=a0.eval x:=by
  intro x R;cases x with
  | tmp t=>
   have:(lay (λ_=>true) y ops.toList 0 a0.tmps)[t]?=a0.tmps[t]?:=by
    refine jr _ y t _ 0 _ λk D hk a => ?_;exfalso;simp only[writer]at R;have b : ops[k]?=some D:=by simpa using hk
    have e:k<ops.size:=(iX.1 b).1;have:=ru.1 R k (dG.2 e);simp[b,a]at this
   simp[Act.eval,this]
  | _=>rfl
 have c:Region.wanted o (yielded ops (lay (λ_=>true) y ops.toList 0 a0.tmps))=Region.wanted o (iw ({ a0 with tmps:=lay (λ_=>true) y ops.toList 0 a0.tmps }:Act).eval ops):=by
  congr 1;funext g;unfold yielded iw;cases (ops[g]?).bind (·.dst)with
  | none=>rfl
  | some d=>
   simp only[Bg,Act.eval,dh];generalize (lay (λ_=>true) y ops.toList 0 a0.tmps)[d]?=q;cases q with
   | none=>rfl
   | some v=>cases v<;>rfl
 have z : (ops.toList.take m)[i]?=some o:=by rw[mg,if_pos u];simpa using hi
 have:=bn.at A i o z _ y w f r O hd;rw[ed]at this;rw[c];exact this
inductive RV where
 | v (V:Value)
 | r (i:Nat) (R:mV)
def RV.R:RV->mV
 | .v V=>mZ V
 | .r _ R=>R
def rvs:List RV->List mV
 | []=>[]
 | a::l=>a.R::rvs l
def rvN:RV:=.r 0 anyR
theorem rvs_at:∀(l:List RV) (i:Nat),(rvs l).getD i anyR=(l.getD i rvN).R
 | [],_=>rfl
 | _::_,0=>rfl
 | _::l,i+1=>by have:=rvs_at l i;simpa[rvs]using this
theorem LC{l:List RV}{w:World}(d:l.getD i rvN = .v V)(e:v=V):rl (rvs l) i v w:=by
 unfold rl;rw[rvs_at,d];exact e
def rvK:List RV->Nat->Option Value
 | .v V::_,0=>some V
 | _::l,k+1=>rvK l k
 | _,_=>none
theorem rvK_at:∀ {l:List RV} {k:Nat} {V:Value},rvK l k=some V->l.getD k rvN = .v V
 | .v V::_,0,_,h=>by cases h;rfl
 | .v _::l,k+1,_,h=>by simpa using rvK_at (l:=l) (k:=k) h
 | .r _ _::l,k+1,_,h=>by simpa using rvK_at (l:=l) (k:=k) h
 | .r _ _::_,0,_,h=>by cases h
 | [],0,_,h=>by cases h
 | [],_+1,_,h=>by cases h
def kt(ops:Array Oper)(a0:Act)(l:List RV)(o:Oper)(t:Nat):Option Value:=
 match writer ops t with
 | some k=>cond (o.after.toList.any λe=>e.on==k) (rvK l k) none
 | none=>a0.tmps.toList[t]?
def kx(ops:Array Oper)(a0:Act)(l:List RV)(o:Oper):Operand->Option Value
 | .tmp t=>kt ops a0 l o t
 | .const v=>some v
 | .func f=>some (.func (.func f) #[] #[])
 | .global g=>some (.pointer (some ⟨g,0,none⟩))
def kg(ops:Array Oper)(a0:Act)(l:List RV)(o:Oper):Option Bool:=
 match o.guard with
 | none=>some true
 | some (g,want)=>match (ops[g]?).bind (·.dst)with
  | none=>none
  | some d=>match kt ops a0 l o d with
   | some (.bool b)=>some (b==want)
   | some (.tuple _)=>some false
   | _=>none
def Yj(ops:Array Oper)(a0:Act)(l:List RV)(o:Oper):Option Value:=
 match o.op with
 | .move x=>kx ops a0 l o x
 | .assign x=>kx ops a0 l o x
 | .nilCheck x=>match kx ops a0 l o x with
  | some (.pointer (some a))=>some (.pointer (some a))
  | _=>none
 | .unOp .not _ x=>match kx ops a0 l o x with
  | some (.bool true)=>some (.bool false)
  | some (.bool false)=>some (.bool true)
  | _=>none
 | .pick c x y=>match kx ops a0 l o c with
  | some (.bool true)=>kx ops a0 l o x
  | some (.bool false)=>kx ops a0 l o y
  | _=>none
 | _=>none
def ks(ops:Array Oper)(a0:Act)(l:List RV)(o:Oper):Option Value:=
 match kg ops a0 l o with
 | some true=>Yj ops a0 l o
 | some false=>some undef
 | none=>none
section
variable {P:Program} {ops:Array Oper} {a0:Act} {w0:World} {l:List RV} {i:Nat} {o:Oper}
def Kn(ops:Array Oper)(a0:Act)(l:List RV)(o:Oper)(ρ:Operand->Value)(y:Nat->Value)(w:World):Prop:=
 (∀t j,writer ops t=some j->ρ (.tmp t)=y j)/\(∀x,(match x with | .tmp t=>writer ops t=none | _=>True)->ρ x=a0.eval x)/\∀j,o.after.toList.any (λe=>e.on==j)=true->rl (rvs l) j (y j) w
theorem Ws{t:Nat}(h:kt ops a0 l o t=some v){w:World}(m:Kn ops a0 l o ρ y w):ρ (.tmp t)=v:=by
 unfold kt at h;cases hw:writer ops t with
 | none=>
  rw[hw]at h;have d : a0.tmps.toList[t]?=some v:=h;rw[m.2.1 (.tmp t) hw];simp only[uZ]at d;simp[Act.eval,d]
 | some k=>
  rw[hw]at h;have d : cond (o.after.toList.any λe=>e.on==k) (rvK l k) none=some v:=h;cases ha:o.after.toList.any λe=>e.on==k with
  | false=>rw[ha]at d; cases d
  | true=>
   rw[ha]at d;have p:=m.2.2 k ha;unfold rl at p;rw[rvs_at,rvK_at d]at p;exact(m.1 t k hw).trans p
theorem aL(h:kx ops a0 l o x=some v){w:World}(d:Kn ops a0 l o ρ y w):ρ x=v:=by
 cases x with
 | tmp t=>exact Ws h d
 | const c=>rw[d.2.1 (.const c) trivial];cases h;rfl
 | func f=>rw[d.2.1 (.func f) trivial];cases h;rfl
 | global g=>rw[d.2.1 (.global g) trivial];cases h;rfl
theorem EL{b:Bool}(h:kg ops a0 l o=some b){w:World}(p:Kn ops a0 l o ρ y w):Region.wanted o (iw ρ ops)=b:=by
 unfold kg at h;unfold Region.wanted;cases hg:o.guard with
 | none=>rw[hg]at h;cases h;rfl
 | some q=>
  obtain⟨g,m⟩:=q;rw[hg]at h;simp only at h;cases hd:(ops[g]?).bind (·.dst)with
  | none=>rw[hd]at h;cases h
  | some d=>
   rw[hd]at h;simp only at h;cases hv:kt ops a0 l o d with
   | none=>rw[hv]at h;cases h
   | some v=>
    rw[hv]at h;have e:=Ws hv p;unfold iw;simp only[hd,e];cases v with
    | bool c=>cases h;cases c<;>cases m<;>rfl
    | tuple c=>cases h;rfl
    | _=>cases h
def zH(P:Program)(ops:Array Oper)(a0:Act)(l:List RV)(i:Nat)(o:Oper):Prop:=
 ∀(ρ:Operand->Value) (y:Nat->Value) (w:World),Kn ops a0 l o ρ y w->(Region.wanted o (iw ρ ops)=false/\rl (rvs l) i undef w)\/(Region.wanted o (iw ρ ops)=true/\∃v,(execOp ρ o).run P w = .ok (.value v) w/\rl (rvs l) i v w)
theorem zH.run(p:kg ops a0 l o=some true)(m:l.getD i rvN = .v V)(h:∀ρ y w,Kn ops a0 l o ρ y w->(execOp ρ o).run P w = .ok (.value V) w):zH P ops a0 l i o:=λρ y w d => .inr ⟨EL p d,V,h ρ y w d,LC m rfl⟩
theorem Wy(h:ks ops a0 l o=some V)(z:l.getD i rvN = .v V):zH P ops a0 l i o:=by
 unfold ks at h;cases hg:kg ops a0 l o with
 | none=>rw[hg]at h;cases h
 | some b=>
  rw[hg]at h;cases b with
  | false=>
   cases h;exactλρ y w p => .inl ⟨EL hg p,LC z rfl⟩
  | true=>
   have d : Yj ops a0 l o=some V:=h;refine zH.run hg z λρ y w p => ?_;unfold Yj at d;split at d
   .rename_i x m;exact run_move (.inl m) (aL d p)
   .rename_i x m;exact run_move (.inr m) (aL d p)
   .rename_i x m;split at d
    .rename_i a s;cases d;have e:=aL s p;simp[execOp,go_sem,m,e]
    .cases d
   .rename_i t x m;split at d
    .rename_i s;cases d; exact Ei m (aL s p)
    .rename_i s;cases d; exact Ei m (aL s p)
    .cases d
   .rename_i c x A m;split at d
    .rename_i u;exact qI m (aL u p) (aL d p)
    .rename_i u;exact qI m (aL u p) (aL d p)
    .cases d
   .cases d
theorem zH.asked(h:zH P ops a0 l i o):pO P ops a0 w0 (rvs l) i o:=λρ y w m p _ s=>by
 rcases h ρ y w ⟨m,p,s⟩with⟨d,h2⟩|⟨d,v,h2,u⟩
 .exact Fw d h2
 .exact ak v d h2 u
theorem zH.askedQ{J:(Nat->Bool)->(Nat->Value)->World->Prop}(d:∀L y w w',Below w.heap.size w w'->J L y w->J L y w')(s:∀L y v w,(∀j,o.after.toList.any (λe=>e.on==j)=true->L j=true)->J L y w->J (dQ L i) (fE y i v) w)(h:zH P ops a0 l i o):nu P ops a0 J (rvs l) i o:=λρ y w L z A _ m u D=>by
 rcases h ρ y w ⟨z,A,D⟩with⟨p,h2⟩|⟨p,v,h2,E⟩
 .exact fZ d (λv w=>s L y v w m) u (Fw p h2)
 .exact fZ d (λv w=>s L y v w m) u (ak v p h2 E)
variable {C:Nat->Oper->Prop} {r:List Oper}
theorem Tj(m:zH P ops a0 l i o->C i o)(h:(ks ops a0 l o).map RV.v=some (l.getD i rvN))(d:bn C (i+1) r):bn C i (o::r):=⟨m (by
 cases hk:ks ops a0 l o with
 | none=>rw[hk]at h;cases h
 | some V=>
  rw[hk]at h;exact Wy hk (aM h).symm),d⟩
theorem Gk(h:(ks ops a0 l o).map RV.v=some (l.getD i rvN))(d:bn (pO P ops a0 w0 (rvs l)) (i+1) r):bn (pO P ops a0 w0 (rvs l)) i (o::r):=Tj zH.asked h d
def XH(ops:Array Oper)(a0:Act)(l:List RV)(o:Oper):Option (TypeId × Value × Nat):=
 match kg ops a0 l o with
 | some true=>match o.op with
  | .fieldAddr t x f=>(kx ops a0 l o x).map λv=>(t,v,f)
  | _=>none
 | _=>none
theorem MG(A:zH P ops a0 l i o->C i o)(b k:Nat)(h:XH ops a0 l o=some (t,v,f))(d:l.getD i rvN = .v (.pointer (some ⟨b,k,none⟩)))(p:bn C (i+1) r)(z:∀w,(Instr.fieldAt t v f).run P w = .ok (.pointer (some ⟨b,k,none⟩)) w:=by intro _;kernel_rfl):bn C i (o::r):=by
 refine⟨A ?_,p⟩;unfold XH at h;split at h
 .rename_i u;split at h
  .rename_i t' x D m;cases hx:kx ops a0 l o x with
   | none=>rw[hx]at h;cases h
   | some v'=>
    rw[hx]at h;cases h;exact zH.run u d λρ y w s=>FX m (aL hx s) (z w)
  .cases h
 .cases h
theorem Gf(b k:Nat)(h:XH ops a0 l o=some (t,v,f))(d:l.getD i rvN = .v (.pointer (some ⟨b,k,none⟩)))(m:bn (pO P ops a0 w0 (rvs l)) (i+1) r)(p:∀w,(Instr.fieldAt t v f).run P w = .ok (.pointer (some ⟨b,k,none⟩)) w:=by intro _;kernel_rfl):bn (pO P ops a0 w0 (rvs l)) i (o::r):=MG zH.asked b k h d m p
theorem Uy(A:zH P ops a0 l i o->C i o){n:Nat}(z:kg ops a0 l o=some true)(p:o.op = .call { callee:=.builtin .len,args:=#[x],argTypes:=#[t] })(d:kx ops a0 l o x=some (.slice a n c))(m:l.getD i rvN = .v (.int .i64 n))(s:bn C (i+1) r)(h:P.underlying t=some (.slice (P.elem t)):=by rfl):bn C i (o::r):=
 ⟨A (zH.run z m λρ y w u=>Ki p (aL d u) h),s⟩
theorem Gn{n:Nat}(u:kg ops a0 l o=some true)(p:o.op = .call { callee:=.builtin .len,args:=#[x],argTypes:=#[t] })(d:kx ops a0 l o x=some (.slice a n c))(m:l.getD i rvN = .v (.int .i64 n))(s:bn (pO P ops a0 w0 (rvs l)) (i+1) r)(h:P.underlying t=some (.slice (P.elem t)):=by rfl):bn (pO P ops a0 w0 (rvs l)) i (o::r):=Uy zH.asked u p d m s h
theorem Sl(D:zH P ops a0 l i o->C i o)(V:Value){op:BinOp}{y:Operand}(s:∀w,(do eqGuard op t x y vx vy;binOp op t vx vy:Sem Value).run P w = .ok V w)(A:kg ops a0 l o=some true)(u:o.op = .binOp op t x y t')(m:kx ops a0 l o x=some vx)(h:kx ops a0 l o y=some vy)(p:l.getD i rvN = .v V)(z:bn C (i+1) r):bn C i (o::r):=
 ⟨D (zH.run A p λρ y w d=>qz u (aL m d) (aL h d) (s w)),z⟩
theorem Gb(V:Value){op:BinOp}{y:Operand}(p:∀w,(do eqGuard op t x y vx vy;binOp op t vx vy:Sem Value).run P w = .ok V w)(z:kg ops a0 l o=some true)(s:o.op = .binOp op t x y t')(h:kx ops a0 l o x=some vx)(d:kx ops a0 l o y=some vy)(m:l.getD i rvN = .v V)(u:bn (pO P ops a0 w0 (rvs l)) (i+1) r):bn (pO P ops a0 w0 (rvs l)) i (o::r):=Sl zH.asked V p z s h d m u
theorem WG(s:zH P ops a0 l i o->C i o)(V:Value)(h:∀ρ y w,Kn ops a0 l o ρ y w->(execOp ρ o).run P w = .ok (.value V) w)(p:kg ops a0 l o=some true)(d:l.getD i rvN = .v V)(m:bn C (i+1) r):bn C i (o::r):=⟨s (zH.run p d h),m⟩
section
variable {J:(Nat->Bool)->(Nat->Value)->World->Prop}
theorem Qk(d:∀L y w w',Below w.heap.size w w'->J L y w->J L y w')(h:(ks ops a0 l o).map RV.v=some (l.getD i rvN))(p:bn (nu P ops a0 J (rvs l)) (i+1) r)(m:∀L y v w,(∀j,o.after.toList.any (λe=>e.on==j)=true->L j=true)->J L y w->J (dQ L i) (fE y i v) w:=by intro _ _ _ _ _ h;exact h):bn (nu P ops a0 J (rvs l)) i (o::r):=Tj (zH.askedQ d m) h p
theorem Qf(d:∀L y w w',Below w.heap.size w w'->J L y w->J L y w')(b k:Nat)(h:XH ops a0 l o=some (t,v,f))(m:l.getD i rvN = .v (.pointer (some ⟨b,k,none⟩)))(s:bn (nu P ops a0 J (rvs l)) (i+1) r)(p:∀L y v w,(∀j,o.after.toList.any (λe=>e.on==j)=true->L j=true)->J L y w->J (dQ L i) (fE y i v) w:=by intro _ _ _ _ _ h;exact h)(u:∀w,(Instr.fieldAt t v f).run P w = .ok (.pointer (some ⟨b,k,none⟩)) w:=by intro _;kernel_rfl):bn (nu P ops a0 J (rvs l)) i (o::r):=MG (zH.askedQ d p) b k h m s u
theorem Qn(d:∀L y w w',Below w.heap.size w w'->J L y w->J L y w'){n:Nat}(D:kg ops a0 l o=some true)(z:o.op = .call { callee:=.builtin .len,args:=#[x],argTypes:=#[t] })(m:kx ops a0 l o x=some (.slice a n c))(s:l.getD i rvN = .v (.int .i64 n))(A:bn (nu P ops a0 J (rvs l)) (i+1) r)(u:∀L y v w,(∀j,o.after.toList.any (λe=>e.on==j)=true->L j=true)->J L y w->J (dQ L i) (fE y i v) w:=by intro _ _ _ _ _ h;exact h)(p:P.underlying t=some (.slice (P.elem t)):=by rfl):bn (nu P ops a0 J (rvs l)) i (o::r):=Uy (zH.askedQ d u) D z m s A p
theorem Qb(d:∀L y w w',Below w.heap.size w w'->J L y w->J L y w')(V:Value){op:BinOp}{y:Operand}(u:∀w,(do eqGuard op t x y vx vy;binOp op t vx vy:Sem Value).run P w = .ok V w)(E:kg ops a0 l o=some true)(A:o.op = .binOp op t x y t')(p:kx ops a0 l o x=some vx)(m:kx ops a0 l o y=some vy)(s:l.getD i rvN = .v V)(D:bn (nu P ops a0 J (rvs l)) (i+1) r)(z:∀L y v w,(∀j,o.after.toList.any (λe=>e.on==j)=true->L j=true)->J L y w->J (dQ L i) (fE y i v) w:=by intro _ _ _ _ _ h;exact h):bn (nu P ops a0 J (rvs l)) i (o::r):=Sl (zH.askedQ d z) V u E A p m s D
theorem Qr(d:∀L y w w',Below w.heap.size w w'->J L y w->J L y w')(V:Value)(h:∀ρ y w,Kn ops a0 l o ρ y w->(execOp ρ o).run P w = .ok (.value V) w)(u:kg ops a0 l o=some true)(m:l.getD i rvN = .v V)(s:bn (nu P ops a0 J (rvs l)) (i+1) r)(p:∀L y v w,(∀j,o.after.toList.any (λe=>e.on==j)=true->L j=true)->J L y w->J (dQ L i) (fE y i v) w:=by intro _ _ _ _ _ h;exact h):bn (nu P ops a0 J (rvs l)) i (o::r):=WG (zH.askedQ d p) V h u m s
end
theorem Gr(V:Value)(h:∀ρ y w,Below w0.heap.size w0 w->Kn ops a0 l o ρ y w->(execOp ρ o).run P w = .ok (.value V) w)(z:kg ops a0 l o=some true)(s:l.getD i rvN = .v V)(u:bn (pO P ops a0 w0 (rvs l)) (i+1) r):bn (pO P ops a0 w0 (rvs l)) i (o::r):=
 ⟨λρ y w d m A p=>ak V (EL z ⟨d,m,p⟩) (h ρ y w A ⟨d,m,p⟩) (LC s rfl),u⟩
def XD(P:Program)(t:TypeId):Bool:=match P.underlying t with
 | some (.struct _)=>false
 | some (.array _ _)=>false
 | some _=>true
 | none=>false
theorem sW{w:World}(h:XD P t=true)(m:w.cell? ⟨b,k,none⟩=some V):(loadVar t ⟨b,k,none⟩).run P w = .ok V w:=by
 unfold XD at h;cases hu:P.underlying t with
 | none=>rw[hu]at h;cases h
 | some d=>
  have p:(isAgg t).run P w = .ok false w:=by unfold isAgg;rw[kY,run_underlying hu w];rw[hu]at h;cases d<;>first | rfl | cases h
  simp[loadVar,kY,p,go_sem,m]
theorem Gl(G:aG w0 b cs T)(s:cs.toList[k]?=some V)(E:kg ops a0 l o=some true)(A:o.op = .load t x)(p:kx ops a0 l o x=some (.pointer (some ⟨b,k,none⟩)))(z:l.getD i rvN = .v V)(D:bn (pO P ops a0 w0 (rvs l)) (i+1) r)(u:XD P t=true:=by kernel_rfl):bn (pO P ops a0 w0 (rvs l)) i (o::r):=by
 refine⟨λρ y w d h H m=>ak V (EL E ⟨d,h,m⟩) ?_ (LC z rfl),D⟩;have e:ρ x=_:=aL p ⟨d,h,m⟩;have F:w.cell? ⟨b,k,none⟩=some V:=by rw[(G.ext H).cell,<-uZ];exact s
 refine run_load A e ?_;simp only[Instr.loadAt,Instr.sureAddr,kY,qR,rA,sW u F]
theorem Gc(V:Value)(E:∀w,Below w0.heap.size w0 w->w.cell? ⟨b,k,none⟩=some V)(D:kg ops a0 l o=some true)(z:o.op = .load t x)(p:kx ops a0 l o x=some (.pointer (some ⟨b,k,none⟩)))(u:l.getD i rvN = .v V)(A:bn (pO P ops a0 w0 (rvs l)) (i+1) r)(s:XD P t=true:=by kernel_rfl):bn (pO P ops a0 w0 (rvs l)) i (o::r):=by
 refine⟨λρ y w d h F m=>ak V (EL D ⟨d,h,m⟩) ?_ (LC u rfl),A⟩;have e:ρ x=_:=aL p ⟨d,h,m⟩;refine run_load z e ?_;simp only[Instr.loadAt,Instr.sureAddr,kY,qR,rA,sW s (E w F)]
def revC:List Value->List Value->(List Value->Option (List Value))->Option (List Value)
 | [],r,k=>k r
 | a::l,r,k=>revC l (a::r) k
def ptC:List Value->Nat->Value->List Value->(List Value->Option (List Value))->Option (List Value)
 | [],_,_,acc,k=>revC acc [] k
 | _::l,0,v,acc,k=>revC acc (v::l) k
 | a::l,n+1,v,acc,k=>ptC l n v (a::acc) k
def zz(y:Nat->Value):List RV->List Oper->List Value->Option (List Value)
 | .v V::l,o::r,t=>match o.dst with
  | some d=>ptC t d V [] λt'=>zz y l r t'
  | none=>zz y l r t
 | .r j _::l,o::r,t=>match o.dst with
  | some d=>ptC t d (y j) [] λt'=>zz y l r t'
  | none=>zz y l r t
 | _,_,t=>some t
def idxOk:List RV->Nat->Bool
 | [],_=>true
 | .v _::l,i=>idxOk l (i+1)
 | .r j _::l,i=>(j==i)&&idxOk l (i+1)
theorem JO(k:List Value->Option (List Value)):∀(a r:List Value),revC a r k=k (a.reverse++r)
 | [],r=>rfl
 | x::a,r=>by rw[revC,JO k a];simp
theorem Nt(k:List Value->Option (List Value)):∀(t:List Value) (n:Nat) (v:Value) (d:List Value),ptC t n v d k=k (d.reverse++t.set n v)
 | [],n,v,d=>by simp[ptC,JO]
 | x::t,0,v,d=>by simp[ptC,JO]
 | x::t,n+1,v,d=>by rw[ptC,Nt k t];simp
theorem yo{y:Nat->Value}{w:World}{m:Nat}:∀(l:List RV) (r:List Oper) (k:Nat) (t:Array Value),idxOk l k=true->m=k+l.length->l.length<=r.length->(∀i,i<l.length->rl (rvs l) i (y (k+i)) w) ->
  zz y l r t.toList=some (lay (λi=>decide (i<m)) y r k t).toList
 | [],r,k,t,_,hm,_,_=>by
  have:zz y [] r t.toList=some t.toList:=by cases r<;>rfl
  rw[this];simp only[DW,iP]at hm;subst hm;have c:∀(r:List Oper) (j:Nat) (t:Array Value),m<=j->lay (λi=>decide (i<m)) y r j t=t:=by
   intro r
   induction r with
   | nil=>intro j t _;rfl
   | cons o r ih=>
    intro j t p;simp only[lay];rw[ih (j+1) _ (by omega)];cases o.dst with
    | none=>rfl
    | some d=>simp[show ¬j<m by omega]
  rw[c r m t (az _)]
 | a::l,[],k,t,_,_,hle,_=>by simp at hle
 | a::l,o::r,k,t,hi,hm,hle,hR=>by
  have h:k<m:=by simp at hm;omega
  have b:∀i,i<l.length->rl (rvs l) i (y (k+1+i)) w:=λi z=>by have:=hR (i+1) (by simp;omega);rw[show k+1+i=k+(i+1) by omega];unfold rl at this ⊢;simpa[rvs]using this
  cases a with
  | v V=>
   have s:y k=V:=by have:=hR 0 (by simp);exact this
   have ih:=λt'=>yo (m:=m) (w:=w) l r (k+1) t' hi (by rw[lF]at hm;omega) (by simpa using hle) b;cases ho:o.dst with
   | none=>simp only[lay,ho,h,decide_true,if_true,zz,ih]
   | some d=>
    simp only[lay,ho,h,decide_true,if_true,zz,Nt,s,List.reverse_nil,JC];rw[<-ih (t.setIfInBounds d V),Dg]
  | r j R=>
   have p:j=k/\idxOk l (k+1)=true:=by have u : ((j==k)&&idxOk l (k+1))=true:=hi;simpa using u
   obtain⟨rfl,e⟩:=p;have ih:=λt'=>yo (m:=m) (w:=w) l r (j+1) t' e (by rw[lF]at hm;omega) (by simpa using hle) b;cases ho:o.dst with
   | none=>simp only[lay,ho,h,decide_true,if_true,zz,ih]
   | some d=>
    simp only[lay,ho,h,decide_true,if_true,zz,Nt,List.reverse_nil,JC];rw[<-ih (t.setIfInBounds d (y j)),Dg]
end
theorem aV{s:List Deferred}(m:Nat)(l:List RV)
 (d:bn (pO P ops ⟨t0,s⟩ w0 (rvs l)) 0 (ops.toList.take m)) {tm:(Nat->Value)->List Value} (M:∀y,zz y l ops.toList t0.toList=some (tm y)) (N:wr (ops.toList.drop m)=some rest)
 (p:∀y w,Below w0.heap.size w0 w->(∀i,i<m->rl (rvs l) i (y i) w)->wpList P ops Q rest ⟨(tm y).toArray,s⟩ w)
 (G:P.follows .mixedOrders=true:=by kernel_rfl) (z:jY ops=true:=by kernel_rfl) (F:jg ops m=true:=by kernel_rfl) (A:m<=ops.size:=by decide) (H:l.length=m:=by rfl) (D:idxOk l 0=true:=by kernel_rfl)
 (u:kS ops t0.size=true:=by kernel_rfl):(Code.region id ops true).wp P Q ⟨t0,s⟩ w0:=by
 refine Tu m (rvs l) G z F A _ rfl u d λy w O E => ?_;have h:=p y w O E;rw[OJ N];have e:=yo (m:=m) (y:=y) (w:=w) l ops.toList 0 t0 D (by omega) (by simp;omega) λi U=>by rw[ed];exact E i (by omega)
 show wpList P ops Q rest ⟨lay (λi=>decide (i<m)) y ops.toList 0 t0,s⟩ w;have S:=aM (e.symm.trans (M y));have R:lay (λi=>decide (i<m)) y ops.toList 0 t0=(tm y).toArray:=by rw[<-S]
 rw[R];exact h
theorem iI{u:List Deferred}(m:Nat)(l:List RV)(J:(Nat->Bool)->(Nat->Value)->World->Prop)(A:∀L y w w',Below w.heap.size w w'->J L y w->J L y w')(G:∀y,J (λ_=>false) y w0)
 (d:bn (nu P ops ⟨t0,u⟩ J (rvs l)) 0 (ops.toList.take m)) {tm:(Nat->Value)->List Value} (R:∀y,zz y l ops.toList t0.toList=some (tm y)) (S:wr (ops.toList.drop m)=some rest)
 (s:∀y w,J (λi=>decide (i<m)) y w->(∀i,i<m->rl (rvs l) i (y i) w)->wpList P ops Q rest ⟨(tm y).toArray,u⟩ w)
 (p:Fixed (rvs l):=by repeat (first | exact fix_nil | refine LV (λ_ _ _ h=>h) ?_))
 (N:P.follows .mixedOrders=true:=by kernel_rfl) (D:jY ops=true:=by kernel_rfl) (M:jg ops m=true:=by kernel_rfl) (E:m<=ops.size:=by decide) (O:l.length=m:=by rfl) (F:idxOk l 0=true:=by kernel_rfl)
 (z:kS ops t0.size=true:=by kernel_rfl):(Code.region id ops true).wp P Q ⟨t0,u⟩ w0:=by
 refine TR m (rvs l) J A G p N D M E _ rfl z d λy w U H => ?_;have h:=s y w U H;rw[OJ S];have e:=yo (m:=m) (y:=y) (w:=w) l ops.toList 0 t0 F (by omega) (by simp;omega) λi hi=>by rw[ed];exact H i (by omega)
 show wpList P ops Q rest ⟨lay (λi=>decide (i<m)) y ops.toList 0 t0,u⟩ w;have e2:=aM (e.symm.trans (R y));have X:lay (λi=>decide (i<m)) y ops.toList 0 t0=(tm y).toArray:=by rw[<-e2]
 rw[X];exact h
theorem Pv{w:World}{m:Nat}{l:List RV}(d:idxOk l 0=true)(p:l.length=m)(h:m<=ops.size)(u:∀i,i<m->rl (rvs l) i (y i) w)(s:zz y l ops.toList t0.toList=some tm):lay (λi=>decide (i<m)) y ops.toList 0 t0=tm.toArray:=by
 have e:=yo (m:=m) (y:=y) (w:=w) l ops.toList 0 t0 d (by omega) (by simp;omega) λi A=>by rw[ed];exact u i (by omega)
 have z:=aM (e.symm.trans s);rw[<-z]
def LH{α:Type}(P:Program)(t:TypeId)(enc:α->List Value)(good:α->Prop):Prop:=
 ∀(H:Type) (e:TypeId × Value->H) (w:World) (base:Nat) (spare:Nat->Bool) (held:Bool) (fuel:Nat) (cs:List Value) (x:DataW H × List MemPlace),
  DataW.trod e P w base spare held fuel t cs=some x->∃a:α,cs=enc a/\good a
theorem Ck(d:P.underlying t=some (.int .i64)):LH P t (λn:Int=>[.int .i64 n]) i64:=by
 intro H e w base spare a fuel cs x h;obtain⟨n,rfl,_,m⟩:=DataW.trod_int d h;exact⟨n,rfl,bounds_i64 m⟩
theorem Ty(d:P.underlying t=some (.int .u8)):LH P t (λb:UInt8=>[CY b]) (λ_=>True):=by
 intro H e w base spare a fuel cs x h;obtain⟨n,rfl,_,m⟩:=DataW.trod_int d h;have p:=bounds_u8 m;refine⟨UInt8.ofNat n.toNat,?_,trivial⟩;simp[CY];omega
theorem open_list{α:Type}{enc:α->List Value}{good:α->Prop}(ht:P.underlying t=some (.slice e))(ho:LH P e enc good)(s:∀x,(enc x).length=P.cellsOf e)
 {H:Type} {en:TypeId × Value->H} {w:World} {cs:List Value} {x:DataW H × List MemPlace} (h:DataW.trod en P w base spare held fuel t cs=some x) :
  ∃(a:Option Addr) (l:List α) (c:Nat),cs=[.slice a l.length c]/\l.length<=c/\c<=maxLen/\(a=none->c=0)/\eB w a (l.flatMap enc)/\∀y∈l,good y:=by
 rcases DataW.trod_slice ht h with⟨rfl,_⟩|⟨a,z,cap,O,rest,n,_,rfl,_,_,M,D,U,N,_⟩
 .exact⟨none,[],0,rfl,az _,bq _,λ_=>rfl,eB.nil,λy G=>(by cases G)⟩
 have F:∀i,i<z->∃y:α,good y/\∀j u,(enc y)[j]?=some u->w.cell? ((a.add (i*P.cellsOf e)).add j)=some u:=by
  intro i A;have h1:=N i A;rw[aF (by omega)]at h1;obtain⟨cs',h2,h3⟩:=Option.bind_eq_some_iff.1 h1;obtain⟨y,rfl,G⟩:=ho H en w base spare held n cs' _ h3;refine⟨y,G,λj u E => ?_⟩;unfold World.cells? at h2;split at h2
  .have h4:=mapM_some_get h2 j j (by
    have:j<(enc y).length:=by
     rcases gu j (enc y).length with h|h
     .exact h
     .simp[eY h]at E
    rw[s y]at this;simp[this])
   rw[E]at h4;exact h4
  .cases h2
 have m:=Cs good (λi y => ∀j u,(enc y)[j]?=some u->w.cell? ((a.add (i*P.cellsOf e)).add j)=some u) z F;obtain⟨l,rfl,hg,S⟩:=m;refine⟨some a,l,cap,rfl,M,D,λe=>(Option.some_ne_none _ e).elim,?_,hg⟩
 by_cases R:P.cellsOf e=0
 .have:l.flatMap enc=[]:=by apply kU;rw[flat_len enc (P.cellsOf e) s l,R,Nat.mul_zero]
  rw[this];exact eB.nil
 intro k u X;have p:k<l.length*P.cellsOf e:=by
  rw[<-flat_len enc (P.cellsOf e) s l];rcases gu k (l.flatMap enc).length with h|h
  .exact h
  .simp[eY h]at X
 have A:k / P.cellsOf e<l.length:=Nat.div_lt_of_lt_mul (by rw[yt];exact p);have E:k%P.cellsOf e<P.cellsOf e:=uB _ (Nat.pos_of_ne_zero R);have f : k / P.cellsOf e*P.cellsOf e+k%P.cellsOf e=k:=by rw[yt];exact Nat.div_add_mod k _
 have g:(enc l[k / P.cellsOf e])[k%P.cellsOf e]?=some u:=by
  have h5:k%P.cellsOf e<(enc l[k / P.cellsOf e]).length:=by rw[s];exact E
  have h6:=flat_get enc (P.cellsOf e) s l _ A _ _ (aF h5);rw[f,X]at h6;rw[aF h5,h6]
 have h7:=S _ A _ u g;have d:a.spot=none:=by
  by_cases h8:a.spot=none
  .exact h8
  exfalso
  -- the first cell of all is read at the address itself
  have h0:0<l.length:=Nat.lt_of_le_of_lt (bq _) A;have h9:0<(enc l[0]).length:=by rw[s];omega
  have o:=S 0 h0 0 _ (aF h9);simp only[vS,Addr.add,if_true]at o;have:=World.cell?_spot o;exact h8 this
 obtain⟨b,off,sp⟩:=a;subst d;refine⟨b,off,rfl,?_⟩;rw[qo,qo,nV,f]at h7;exact h7
open Go.ChangeShapes Go.WideShapes Go.ChangeAt
def zw{α:Type}(P:Program)(t:TypeId)(enc:α->List Value)(good:World->α->Prop):Prop:=
 ∀(H:Type) (e:TypeId × Value->H) (w:World) (base:Nat) (spare:Nat->Bool) (held:Bool) (fuel:Nat) (cs:List Value) (x:DataW H × List MemPlace),
  DataW.trod e P w base spare held fuel t cs=some x->∃a:α,cs=enc a/\good w a
theorem LH.w{α:Type}{enc:α->List Value}{good:α->Prop}(h:LH P t enc good):zw P t enc (λ_=>good):=h
def yH{α:Type}(P:Program)(fs:Array Field)(L k off:Nat)(enc:α->List Value)(good:World->α->Prop):Prop:=
 ∀(H:Type) (e:TypeId × Value->H) (w:World) (base:Nat) (spare:Nat->Bool) (held:Bool) (n:Nat) (cs:List Value) (xs:List (DataW H × List MemPlace)),cs.length=L->xs.length=fs.size ->
  (∀(i:Nat) (f:Field),fs[i]?=some f->DataW.trod e P w base spare held n f.type ((cs.drop f.offset).take (P.cellsOf f.type))=xs[i]?)->∃a:α,cs.drop off=enc a/\good w a
theorem Ga{fs:Array Field}{L:Nat}(h:L=off):yH P fs L k off (λ_:Unit=>[]) (λ_ _=>True):=by
 intro H e w base spare a n cs xs d _ _;exact⟨(),by rw[qX (by omega)],trivial⟩
theorem tJ{α β:Type}{fs:Array Field}{L:Nat}{f:Field}{enc:α->List Value}{good:World->α->Prop}{enc' : β->List Value}{good' : World->β->Prop}(m:fs[k]?=some f)(off' : Nat)(p:f.offset=off)(s:off+P.cellsOf f.type=off')(F:zw P f.type enc good)
 (E:yH P fs L (k+1) off' enc' good'):yH P fs L k off (λx:α × β=>enc x.1++enc' x.2) (λw x=>good w x.1/\good' w x.2):=by
 intro H e w base spare c n cs xs u d h;subst s;obtain⟨b,A,G⟩:=E H e w base spare c n cs xs u d h;have z:k<xs.length:=by rw[d];exact(iX.1 m).1
 have h2:=h k f m;rw[aF z,p]at h2;obtain⟨a,D,M⟩:=F H e w base spare c n _ _ h2;refine⟨(a,b),?_,M,G⟩;show _=enc a++enc' b;rw[<-D,<-A,<-List.drop_drop,rX]
theorem Jz{α:Type}{fs:Array Field}{enc:α->List Value}{good:World->α->Prop}(m:P.underlying t=some (.struct fs))(h:yH P fs (P.cellsOf t) 0 0 enc good):zw P t enc good:=by
 intro H e w base spare a fuel cs x d;obtain⟨xs,n,_,_,s,p,b⟩:=DataW.trod_struct m d;exact h H e w base spare a n cs xs s p b
theorem zw.of{α β:Type}{enc:α->List Value}{good:World->α->Prop}{enc' : β->List Value}{good' : World->β->Prop}(h:zw P t enc good)(g:α->β)(p:∀a,enc a=enc' (g a))(m:∀w a,good w a->good' w (g a)):zw P t enc' good':=by
 intro H e w base spare b fuel cs x d;obtain⟨a,s,u⟩:=h H e w base spare b fuel cs x d;exact⟨g a,by rw[s,p],m w a u⟩
end Pw
namespace Go.Proofs.YthihaopabbpalaaGreat
open Go.ChangeShapes Go.WideShapes Go.ChangeAt Go.RowKit Go.Maps Pw
variable {B B' b cap g n' off sz sz':Nat} {P:Program} {T T' e e':TypeId} {cs cs':Array Value} {v v':Value} {vs xs xs':List Value} {w w':World}
theorem mR{n:Nat}(h:Own w B e sz v n xs)(g:Nat)(d:v.ownBlock=some g):∃cs,aG w g cs e:=by
 rcases h.2 with⟨rfl,_⟩|⟨s,off,cap,p,rfl,_,m,_⟩
 .cases d
 cases d;exact⟨_,m⟩
theorem lw{n:Nat}(h:aG w b cs T)(d:Own w B e sz v n xs)(s:T≠e)(m:w.grownBy w' v.ownBlock):aG w' b cs T:=
 h.grown m (λp=>own_ne d h s b p rfl)
theorem zQ{n:Nat}(h:Own w B e sz v n xs)(m:Own w B' e' sz' v' n' xs')(z:e'≠e)(s:w.grownBy w' v'.ownBlock):Own w' B e sz v n xs:=
 h.grown s (λg d u=>by obtain⟨cs,p⟩:=mR m g u;exact own_ne h p z g d rfl)
theorem wO{n:Nat}(h:Own w B e sz v n xs)(d:aG w g cs T)(m:T≠e)(o:Nat)(u:Value):Own (w.setCell ⟨g,o,none⟩ u) B e sz v n xs:=
 ax h d m (aC w g o [u])
theorem bY(h:aG w b cs T)(m:aG w g cs' T')(s:T'≠T)(d:w.grownBy w' (some g)):aG w' b cs T:=
 h.grown d (λp=>by cases p;unfold aG at h m;rw[m]at h;simp only[jA,uj]at h;exact s h.2.1)
theorem xG(a b:Option Addr)(n c m e:Nat):(#[Value.slice a n c,Value.slice b m e]:Array Value).all (·.oneCell')=true:=by simp[Value.oneCell']
theorem oO{α:Type}{enc:α->List Value}(m:∀x,(enc x).length=sz)(p:0<sz){n:Nat}{l:List α}(s:l.length=n)(h:Own w B e sz v n (l.flatMap enc))(k:Nat)(u:k<n) :
  ∃g off cap d,v = .slice (some ⟨g,off,none⟩) n cap/\B<=g/\aG w g d e/\off+k*sz+sz<=d.size /\
   ∀w' x,aG w' g (bJ d (off+k*sz) (enc x)) e->Own w' B e sz v n ((l.set k x).flatMap enc):=by
 subst s;obtain⟨g,off,cap,d,E,h2,D,A,_,z⟩:=h.put m p k u;exact⟨g,off,cap,d,E,h2,D,A,z⟩
theorem oh{a b c:World}{row:Option Nat}(h:a.grownBy b row)(k:b.grownBy c row):a.grownBy c row:=
 World.grownBy.andThen h k (λj d => .inr d)
theorem lK{n:Nat}(h:Own w B e sz v n xs)(d:w.grownBy w' none):Own w' B e sz v n xs:=h.grown d (by simp)
theorem uI(w:World)(t e ty:TypeId)(z:Value)(sz h:Nat)(F:P.underlying t=some (.slice e))(s:(P.info? e).map (λi=>(i.zero,i.size,i.bytes))=some (some z,sz,h))(H:∀u∈z.cells.toList,u.oneCell' = true)(M:0<z.cells.size)
 (b o n c:Nat) (N:0<n) (d:Array Value) (T:TypeId) (A:aG w b d T) (D:o+n*z.cells.size<=d.size) :
  (Builtin.clear_ #[t] ty #[.slice (some ⟨b,o,none⟩) n c]).run P w = .ok (.tuple #[]) (w.setCells b o (Builtin.zeroCells z.cells n).toList):=by
 have O:(Builtin.zeroCells z.cells n).toList.length=n*z.cells.size:=by simp[Builtin.zeroCells]
 have a:=run_storeCells_cells (P:=P) b o (Builtin.zeroCells z.cells n).toList 0 w
  (λj G=>by rw[iP,A.cell];simp[show o+j<d.size by omega]) (λj G=>A.free _)
  (λv p=>by simp only[Builtin.zeroCells,Array.toList_map,eU]at p;obtain⟨i,_,rfl⟩:=p;have:i%z.cells.size<z.cells.size:=uB _ M;rw[getElem!_pos z.cells _ this];exact H _ (by simp))
 simp only[iP]at a;obtain⟨m,rfl⟩:∃m,n=m+1:=⟨n-1,by omega⟩;have p:∀w,(zeroValue e).run P w = .ok z w:=by
  intro w;cases hq:P.info? e with
  | none=>simp[hq]at s
  | some i=>
   have E:i.zero=some z:=by simp[hq]at s;exact s.1
   simp[zeroValue,typeInfo,run_program,hq,E]
 simp[Builtin.clear_,run_underlying F,p,a]
theorem Rh{α:Type}{enc:α->List Value}(m:∀x,(enc x).length=sz){l:List α}{n:Nat}(h:Own w B e sz (.slice (some ⟨g,off,none⟩) n cap) n (l.flatMap enc))(i:Nat)(z:l.length=n)(R:i<=n)
 (D:∀d,aG w g d e->aG w' g (bJ d (off+i*sz) vs) e):Own w' B e sz (.slice (some ⟨g,off,none⟩) (l.take i).length cap) (l.take i).length ((l.take i).flatMap enc):=by
 subst z;obtain⟨z,h⟩:=h;rcases h with⟨O,_⟩|⟨U,s,A,d,E,N,M,S,H,G,F⟩
 .cases O
 cases E;have b:(l.take i).length=i:=by simp;omega
 refine⟨by rw[Pw.flat_len enc sz m],.inr ⟨g,off,cap,_,rfl,N,D d M,by omega,H,by rw[size_putAt];exact G,λj u p => ?_⟩⟩;have c : j<i*sz:=by
  rcases gu j (i*sz)with h|h
  .exact h
  rw[eY (by rw[Pw.flat_len enc sz m,b];exact h)]at p;cases p
 rw[putAt_out _ _ _ _ (.inl (by omega))];refine F j u ?_;have a:l.flatMap enc=(l.take i).flatMap enc++(l.drop i).flatMap enc:=by rw[<-fI,rX]
 rw[a,kK (by rw[Pw.flat_len enc sz m,b];exact c)];exact p
theorem zY{α:Type}{enc:α->List Value}(d:∀x,(enc x).length=sz)(E:0<sz){n:Nat}{l:List α}(G:l.length=n)(h:Own w B e sz v n (l.flatMap enc))(k:Nat)(H:k<n)(j:Nat)(R:j<sz)(u:Value)(x:α)
 (A:enc x=(enc (l[k]'(by omega))).set j u) :
  ∃g off cap,v = .slice (some ⟨g,off,none⟩) n cap/\B<=g/\g<w.heap.size/\(∃cs,aG w g cs e)/\(∀i y,(enc (l[k]'(by omega)))[i]?=some y->w.cell? ⟨g,off+k*sz+i,none⟩=some y)/\w.frozen? ⟨g,off+k*sz+j,none⟩=false /\
   Own (w.setCell ⟨g,off+k*sz+j,none⟩ u) B e sz v n ((l.set k x).flatMap enc):=by
 subst G;obtain⟨g,off,cap,z,O,h2,s,U,D,N⟩:=h.put d E k H;refine⟨g,off,cap,O,h2,s.lt,⟨_,s⟩,D,s.free _,N _ x ?_⟩;have M:bJ z (off+k*sz) (enc x)=z.setIfInBounds (off+k*sz+j) u:=by
  apply mI;intro i
  by_cases S:off+k*sz<=i/\i<off+k*sz+sz
  .obtain⟨m,rfl⟩:∃m,i=off+k*sz+m:=⟨i-(off+k*sz),by omega⟩;have F:m<(enc x).length:=by rw[d];omega
   rw[putAt_in _ _ _ m (enc x)[m] (by rw[d];omega) (aF F)]
   by_cases p:m=j
   .subst p;rw[sQ (by omega)];simp[A]
   rw[ib (by omega)];have a : m<(enc l[k]).length:=by rw[d];omega
   have:=D m (enc l[k])[m] (aF a);rw[s.cell]at this;rw[this];simp[A,Dw (λe=>p e.symm)]
  .rw[putAt_out _ _ _ _ (by rw[d];omega),ib (by omega)]
 rw[M];exact s.setCell _ _
theorem We{o:Nat}(h:w.cell? ⟨b,o,none⟩=some v):b<w.heap.size:=by
 rcases gu b w.heap.size with d|d
 .exact d
 .simp[World.cell?,mP d]at h
theorem NR{H:Type}{k:TypeId}{R:Value->Option (DataW H × List MemPlace)}{n:Nat}{D:DataW H}(h:w.ownsMap P k R b n D)(p:Below w.heap.size w w'):w'.ownsMap P k R b n D:=by
 have m:=h.lt;obtain⟨u,d,s,r⟩:=h;exact⟨u,d,(p.block b m).trans s,r⟩
end Go.Proofs.YthihaopabbpalaaGreat