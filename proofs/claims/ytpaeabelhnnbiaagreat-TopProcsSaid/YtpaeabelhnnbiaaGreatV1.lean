import Derived.WalkKit
import Derived.ProofKit
import Derived.SizedLaws
import Derived.Maps.Own
import Derived.WalkSpells
import Derived.WalkLawsBesides
import Derived.ArgAppend
import Derived.Deep.MidRow
import Derived.Deep.Slices
import Derived.Laws.AppendOwnNone
import Derived.Laws.CopyOwn
import Derived.Laws.OwnMore
import Derived.Lib.Hide
import Derived.Maps.Range
import Derived.Maps.Views
import Derived.OpenShut
import Derived.Orders
import Derived.OwnWalk
set_option linter.unusedSimpArgs false
set_option linter.unusedVariables false
set_option linter.defProp false
set_option maxHeartbeats 4000000
set_option maxRecDepth 100000
namespace Pw
def ae :=@Go.Lib.hid
def az :=@Nat.le_refl
def aN :=@List.getElem?_eq_getElem
def aT :=@Option.some.inj
def aY :=@Nat.le_trans
def bG :=@Int.toNat_natCast
def bH :=@List.map_cons
def bJ :=@List.getD_eq_getElem?_getD
def bL :=@List.map_nil
def bi :=@Array.getD_eq_getD_getElem?
def bF :=@List.mem_singleton
def bK :=@Nat.zero_le
def bT :=@List.map_toArray
def bX :=@List.mem_range
def cO :=@List.length_set
def dh :=@List.all_eq_true
def dn :=@List.mem_of_getElem?
def dA :=@Bool.and_eq_true
def dC :=@List.getElem?_eq_some_iff
def dM :=@Nat.zero_add
def dS :=@Go.IntWalk.i64_in
def eX :=@List.getElem_mem
def eT :=@List.mem_cons
def eU :=@List.getElem?_eq_none
def fF :=@List.mem_map
def fG :=@List.length_take
def fM :=@Nat.lt_or_ge
def gB :=@Array.getElem?_setIfInBounds_ne
def gK :=@List.length_map
def gW :=@List.flatMap_append
def gT :=@Nat.not_lt_zero
def gU :=@Array.getElem?_eq_some_iff
def iq :=@Option.some.injEq
def iD :=@List.getElem?_append_left
def iF :=@Array.all_toList
def iM :=@List.mem_cons_of_mem
def iN :=@List.mem_append
def jh :=@List.mem_cons_self
def jd :=@List.getElem?_map
def jg :=@List.getElem?_append_right
def jb :=@List.length_append
def jq :=@List.mem_flatMap
def jG :=@List.mem_iff_getElem
def jJ :=@List.map_append
def jU :=@List.any_eq_true
def kF :=@List.getElem?_take
def kJ :=@List.eq_nil_of_length_eq_zero
def kK :=@Go.Sem.run_bind
def kU :=@Array.length_toList
def kR :=@Bool.true_and
def lI :=@Ne.symm
def lF :=@List.mem_or_eq_of_mem_set
def lJ :=@Int.eq_ofNat_of_zero_le
def lu :=@List.not_mem_nil
def lC :=@Bool.false_and
def lw :=@Bool.and_false
def lZ :=@Nat.add_zero
def lW :=@Array.mem_toList_iff
def lX :=@List.length_replicate
def lU :=@Go.Lib.run_eql_slice_nil
def lV :=@Go.Value.slice.injEq
def mI :=@List.take_add_one
def mK :=@List.take_of_length_le
def mR :=@List.length_cons
def mH :=@Go.Addr.add_lit
def nH :=@Vector.getElem_ofFn
def nM :=@List.append_assoc
def nC :=@Bool.and_true
def nO :=@Nat.lt_of_lt_of_le
def oJ :=@Bool.eq_iff_iff
def oh :=@List.getElem?_set
def oK :=@List.append_nil
def pV :=@Bool.false_eq_true
def pX :=@Nat.add_assoc
def pW :=@List.find?_eq_none
def pO :=@List.flatMap_cons
def pM :=@List.ext_getElem?
def pQ :=@List.getElem?_drop
def pK :=@Array.getElem?_toList
def pJ :=@Array.ext_getElem?
def pY :=@Go.Result.andThen_ok
def qa :=@Go.Sem.run_pure
def rA :=@List.ext_getElem
def qU :=@Classical.not_not
def rE :=@Decidable.byContradiction
def qY :=@Bool.or_eq_true
def rD :=@Nat.min_eq_left
def qX :=@Array.getElem?_replicate
def tL :=@List.findIdx?_eq_some_iff_getElem
def sP :=@List.getElem?_replicate
def tK :=@Go.Addr.mk.injEq
def sS :=@Nat.add_mul
def sW :=@Nat.mul_le_mul_right
def tH :=@List.set_cons_zero
def sZ :=@List.set_cons_succ
def uX :=@List.filter_append
def uH :=@Nat.mod_lt
def vB :=@Nat.mod_eq_of_lt
def uG :=@List.mem_of_find?_eq_some
def qK :=@List.nodup_cons
def qw :=@List.mem_filter
def qp :=@List.take_append_drop
def qz :=@Array.getElem?_eq_none
def qh :=@Bool.not_eq_true'
def qi :=@List.getElem_map
def qx :=@Go.Obj.cells.injEq
def qG :=@List.getElem?_cons_zero
def qg :=@List.countP_cons
def sG :=@List.getElem?_set_ne
def sH :=@List.foldl_cons
def rX :=@List.find?_some
def sI :=@Array.getElem?_setIfInBounds_self_of_lt
def rY :=@List.countP_eq_zero
def rZ :=@Option.getD_some
def si :=@List.setIfInBounds_toArray
def sD :=@List.drop_succ_cons
def sj :=@List.drop_zero
def sK :=@List.drop_nil
def sO :=@Nat.min_def
def sJ :=@List.pairwise_cons
def sF :=@Classical.byContradiction
def uJ :=@List.any_eq_false
def uZ :=@List.getElem?_set_self
def uP :=@List.mem_append_right
def uO :=@List.mem_append_left
def vI :=@List.drop_eq_nil_of_le
def uE :=@Array.getElem?_eq_getElem
def uU :=@List.length_drop
def xI :=@List.countP_pos_iff
def wZ :=@List.findIdx?_eq_none_iff
def xG :=@List.foldl_append
def xM :=@List.length_filter_le
def xw :=@List.drop_eq_getElem_cons
def xy :=@List.nodup_append
def xh :=@Nat.le_of_lt
def xk :=@Option.map_some
def wX :=@List.getElem?_range
def xL :=@Go.Calls.mono
def xA :=@List.countP_le_length
def xe :=@List.take_length
def wW :=@Nat.eq_zero_or_pos
def xn :=@List.map_set
def wY :=@Go.Value.agg.injEq
def xH :=@List.countP_map
def zh :=@Array.toList_setIfInBounds
def yO :=@List.range_succ
def zM :=@List.findIdx?_cons
def zN :=@Iff.rfl
def zO :=@Nat.lt_or_gt_of_ne
def zy :=@Array.mem_of_getElem?
def yL :=@Option.bind_some
def zD :=@List.length_nil
def zz :=@Array.getElem?_setIfInBounds
def ze :=@List.length_eraseIdx_of_lt
def zg :=@List.sum_cons
def zG :=@List.nodup_range
def yY :=@List.map_congr_left
def zx :=@Array.size_push
def yI :=@List.length_range
def Cj :=@List.getElem_cons_succ
def CG :=@Bool.or_eq_false_iff
def BV :=@List.getElem_set
def CJ :=@Nat.add_mod_right
def Cg :=@List.mem_of_mem_take
def Ct :=@Bool.and_eq_false_iff
def BL :=@Vector.ext
def BQ :=@List.mem_replicate
def Ck :=@List.getElem_cons_zero
def CF :=@Nat.add_sub_cancel_left
def Cv :=@Go.World.grownBy.refl
def Ca :=@Nat.mul_comm
def BR :=@Nat.mul_one
def Ci :=@List.countP_append
def Cq :=@List.mem_filterMap
def Cx :=@List.mem_map_of_mem
def Cf :=@Int.toNat_of_nonneg
def CB :=@Bool.not_or
def BK :=@List.length_flatMap
def BN :=@List.pairwise_iff_getElem
def Cz :=@List.mem_insertIdx
def BO :=@Nat.sub_self
def Ig :=@List.countP_set
def Gx :=@Bool.not_false
def Gj :=@Bool.not_true
def Im :=@List.find?_range_eq_some
def Iu :=@List.filter_eq_self
def GR :=@List.filter_cons
def Gh :=@Vector.getElem_set_ne
def Ik :=@Go.World.ownsRow_nil
def GX :=@List.map_take
def GG :=@List.getElem_range
def Hd :=@List.countP_replicate
def Ie :=@List.getElem?_toArray
def GH :=@List.getElem?_cons_succ
def Ha :=@Nat.le_succ
def Hz :=@List.set_set
def Il :=@List.countP_eq_length_filter
def Hy :=@List.countP_filter
def Hw :=@Function.comp_apply
def FZ :=@Bool.eq_false_iff
def GD :=@Prod.mk.injEq
def GA :=@List.insertIdx_succ_cons
def Hq :=@List.cons_append
def Iw :=@List.Nodup.length_le_of_subset
def Hr :=@Int.ofNat_inj
def Gw :=@List.Nodup.sublist
def GJ :=@List.filter_sublist
open Go Go.RowKit
abbrev Page:=Vector UInt8 8
def eY (p:Page) (a:Int) (b:List UInt8):Page:=if 0≤a∧a<8 then Vector.ofFn fun i:Fin 8=>if a.toNat≤i.val then b.getD (i.val-a.toNat) p[i.val] else p[i.val] else p
theorem wM (p:Page) (a:Nat) (b:List UInt8) (ha:a<8) (i:Nat) (hi:i<8):(eY p a b)[i]=if a≤i then (b[i-a]?).getD p[i] else p[i]:=by
 have h:eY p a b=Vector.ofFn fun i:Fin 8=>if a≤i.val then b.getD (i.val-a) p[i.val] else p[i.val]:=by unfold eY;rw[if_pos (by omega)];rfl
 rw[h,nH];simp[List.getD]
theorem RY (p q:Page):(p==q)=((p[0]==q[0])&&(p[1]==q[1])&&(p[2]==q[2])&&(p[3]==q[3])&&(p[4]==q[4])&&(p[5]==q[5])&&(p[6]==q[6])&&(p[7]==q[7])):=by
 rw[oJ];simp only[beq_iff_eq,dA];constructor
 ·rintro rfl;simp
 rintro⟨⟨⟨⟨⟨⟨⟨h0,h1⟩,h2⟩,h3⟩,h4⟩,h5⟩,h6⟩,h7⟩
 ext i hi
 match i,hi with
 | 0,_=>rw[h0]
 | 1,_=>rw[h1]
 | 2,_=>rw[h2]
 | 3,_=>rw[h3]
 | 4,_=>rw[h4]
 | 5,_=>rw[h5]
 | 6,_=>rw[h6]
 | 7,_=>rw[h7]
 | n+8,h=>omega
theorem WI (a b:UInt8):((a.toNat:Int)==(b.toNat:Int))=(a==b):=by
 rw[oJ];simp only[beq_iff_eq,Int.natCast_inj,UInt8.toNat_inj]
def wG (p:Page) (a:Int) (k:Nat):Page:=Vector.ofFn fun i:Fin 8=>if a≤(i.val:Int)∧i.val<k then 0 else p[i.val]
def dm (p:Page) (a:Int):Page:=Vector.ofFn fun i:Fin 8=>if a≤(i.val:Int) then 0 else p[i.val]
theorem Oz (p:Page) (a:Int) (k:Nat) (h:8≤k):wG p a k=dm p a:=by
 ext i hi
 simp only[wG,dm,nH];have hk:i<k:=by omega
 simp[hk]
theorem JR (p:Page) (a:Int) (k:Nat) (h:k=a.toNat):wG p a k=p:=by
 ext i hi
 simp only[wG,nH];rw[if_neg (by omega)]
theorem PI (p:Page) (a:Int) (k:Nat) (h:k<8) (ha:a≤k):(wG p a k).set k 0=wG p a (k+1):=by
 ext i hi
 simp only[wG,nH,Vector.getElem_set]
 by_cases e:k=i
 ·subst e;simp[ha]
 simp only[e,if_false]
 by_cases c:a≤(i:Int)∧i<k
 ·rw[if_pos c,if_pos ⟨c.1,by omega⟩]
 ·rw[if_neg c,if_neg (by omega)]
def pE (L:Nat→Bool) (i:Nat):Nat→Bool:=fun k=>if k=i then true else L k
def wr {α:Type}:List α→Option (List α)
 | []=>some []
 | a::r=>some (a::r)
theorem QW {α:Type} {a b:List α} (h:wr a=some b):a=b:=by cases a<;>cases h<;>rfl
def i64 (n:Int):Prop:=-9223372036854775808≤n∧n≤9223372036854775807
end Pw
namespace Go.Proofs.YtpaeabelhnnbiaaGreat
open Go.ChangeShapes Go.WideShapes Go.ChangeAt Go.RowKit Go.Maps Pw
variable {k:Nat}
theorem nz {n:Nat} {P:∀i,i<n→Prop} (hp:∀i (h:i<n),i<k→P i h) (hlt:k<n) (hk:P k hlt):∀i (h:i<n),i<k+1→P i h:=by
 intro i h hi
 by_cases e:i=k
 ·subst e;exact hk
 ·exact hp i h (by omega)
end Go.Proofs.YtpaeabelhnnbiaaGreat
namespace Pw
open Go Go.RowKit
variable {fuel i q:Nat} {l:List Int}
theorem xz {listed:Array Bool} (hi:i<listed.size) (q:Nat) (hq:listed.getD q false=true):(listed.setIfInBounds i true).getD q false=true:=by
 by_cases hqi:q=i
 ·subst hqi;simp[bi,hi]
 ·simpa[bi,gB (lI hqi)] using hq
theorem qP {listed:Array Bool} (h:q≠i):(listed.setIfInBounds i true).getD q false=listed.getD q false:=by
 simp[bi,gB (lI h)]
theorem Jy {listed:Array Bool} (hi:i<listed.size):(listed.setIfInBounds i true).getD i false=true:=by
 simp[bi,hi]
theorem Ew {listed:Array Bool} (hi:i<listed.size) (h1:listed.getD i true=false) (hc:listed.toList.countP (!·)≤fuel+1):(listed.setIfInBounds i true).toList.countP (!·)≤fuel:=by
 have c:i<listed.toList.length:=by simp;omega
 have b:listed.toList[i]=false:=by simpa[bi,hi] using h1
 have:=Ig (p:=(!·)) (l:=listed.toList) (i:=i) (a:=true) c;rw[b] at this;have d:0<listed.toList.countP (!·):=xI.2 ⟨listed.toList[i],eX c,by rw[b];rfl⟩;simp only[zh];simp only[Gx,Gj,if_true,pV,if_false] at this;omega
open Go.ChangeShapes Go.WideShapes Go.ChangeAt
def firstE:List Int→Int
 | []=>0
 | x::r=>if x=0 then firstE r else x
theorem su (h:∀i (hi:i<l.length),l[i]=0):firstE l=0:=by
 induction l with
 | nil=>rfl
 | cons x r ih=>
  have h0:=h 0 (by simp);simp at h0;simp only[firstE,h0,if_true];exact ih fun i hi=>by have:=h (i+1) (by simpa using hi);simpa using this
theorem xQ (k:Nat) (hk:k<l.length) (h:∀i (hi:i<l.length),i<k→l[i]=0) (hne:l[k]≠0):firstE l=l[k]:=by
 induction l generalizing k with
 | nil=>simp at hk
 | cons x r ih=>
  cases k with
  | zero=>simp at hne;simp[firstE,hne]
  | succ k=>
   have h0:=h 0 (by simp) (by omega);simp at h0;simp only[firstE,h0,if_true,Cj];exact ih k (by simpa using hk) (fun i hi a=>by have:=h (i+1) (by simpa using hi) (by omega);simpa using this) (by simpa using hne)
theorem filter_all {α:Type} (p q:α→Bool) (l:List α):(l.filter p).all (fun e => !p e||q e)=l.all (fun e => !p e||q e):=by
 induction l with
 | nil=>rfl
 | cons x l ih=>
  cases hp:p x
  ·rw[List.filter_cons_of_neg (by simp[hp]),ih];simp[hp]
  ·rw[List.filter_cons_of_pos (by simp[hp])];simp[hp,ih]
end Pw
namespace Go.Proofs.YtpaeabelhnnbiaaGreat
open Go.RowKit Pw
variable {F I b i j k q r:Nat} {file index lo n:Int} {l:List Int}
def idx {α:Type} (f:α→Bool) (l:List α):Int:=match l.findIdx? f with
 | some k=>k
 | none => -1
theorem oI {α:Type} (f:α→Bool) (l:List α) (k:Nat) (h:k<l.length) (hp:∀i (h:i<l.length),i<k→f l[i]=false) (hk:f l[k]=true):idx f l=k:=by
 unfold idx;rw[tL.2 ⟨h,hk,fun j hj=>by simpa using hp j (by omega) hj⟩]
theorem jW {α:Type} (f:α→Bool) (l:List α) (hp:∀i (h:i<l.length),f l[i]=false):idx f l = -1:=by
 unfold idx;rw[wZ.2 fun x hx=>by obtain⟨i,hi,rfl⟩:=jG.1 hx;exact hp i hi]
theorem xx {α:Type} (f:α→Bool) (l:List α):(idx f l = -1∧∀i (h:i<l.length),f l[i]=false)∨∃k:Nat,∃h:k<l.length,idx f l=k∧f l[k]=true∧∀i (h:i<l.length),i<k→f l[i]=false:=by
 unfold idx;cases e:l.findIdx? f with
 | none=>exact .inl ⟨rfl,fun i h=>wZ.1 e _ (eX h)⟩
 | some k=>
  obtain⟨h,hk,hp⟩:=tL.1 e;exact .inr ⟨k,h,rfl,hk,fun i _ hi=>by simpa using hp i hi⟩
theorem qH {α:Type} (f:α→Bool) (l:List α):decide (0≤idx f l)=l.any f:=by
 rcases xx f l with ⟨e,h⟩|⟨k,hk,e,h,_⟩
 ·rw[e];symm;simp only[show decide ((0:Int)≤-1)=false from rfl,uJ];intro x hx;obtain⟨i,hi,rfl⟩:=jG.1 hx;simpa using h i hi
 rw[e];symm;simp only[show decide ((0:Int)≤(k:Int))=true from by simp,jU];exact⟨_,eX hk,h⟩
theorem upto {n:Nat} {P:∀i,i<n→Prop} (hp:∀i (h:i<n),i<k→P i h) (hlt:k<n) (hk:P k hlt):∀i (h:i<n),i<k+1→P i h:=by
 intro i h hi
 by_cases e:i=k
 ·subst e;exact hk
 ·exact hp i h (by omega)
open Go.Maps
structure Wt (D:DataW Unit) (f:Int→Bool):Prop where
 is:IsMap D
 at_:∀j:Int,D.atKey (.int .i64 j) (.lit (.bool false)) = .lit (.bool (f j))
theorem Wt.empty:Wt (.map []) (fun _=>false):=⟨isMap_empty,fun j=>rfl⟩
theorem Wt.put {D:DataW Unit} {f:Int→Bool} (h:Wt D f) (k:Int):Wt (D.put (.int .i64 k) (.lit (.bool true))) (fun j=>f j||decide (j=k)):=by
 refine⟨h.is.put _ _,fun j => ?_⟩
 by_cases e:j=k
 ·subst e;rw[atKey_put_same h.is (by trivial)];simp
 rw[atKey_put_other (by intro e2;exact e (by cases e2;rfl)),h.at_ j];simp[e]
theorem Nc (p:Page) (a n:Nat) (h:n≤8-a):((p.toList.drop a).take n).length=n:=by simp;omega
def vF (p:Page) (a n:Int):List UInt8:=if a<0∨n<0∨8<a∨8-a<n then [] else (p.toList.drop a.toNat).take n.toNat
def gG (n:Int):Int:=if n≤0 then 0 else (n-1) / 8+1
def qy (a n:Int):Bool:=decide (0≤a)&&decide (0≤n)&&decide (n≤8)&&decide (a%8≤8-n)
def xV (n:Int):Bool:=decide (n<0)||decide (1000<n)
def dH (l:List Int):Int:=if 60<l.length then 4 else if l.any xV then 3 else 0
def Ib (n:Int):Bool:=n==0
def Dc (n:Int):List Int:=if 0≤n∧n≤60 then List.replicate n.toNat 0 else []
def Ht (n:Int):Int:=if 0≤n∧n≤60 then 0 else 4
theorem Sk (l:List Int) (k:Nat) (hk:k<l.length) (h0:dH l=0):0≤l[k]∧l[k]≤1000:=by
 unfold dH at h0;split at h0
 ·omega
 split at h0
 ·omega
 rename_i h;have h1:xV l[k]=false:=by have:=uJ.1 (by simpa using h) _ (eX hk);simpa using this
 simp[xV] at h1;exact h1
theorem kM (h:dH l=0):l.length≤60:=by
 unfold dH at h;split at h
 ·omega
 ·omega
def ic (l:List Int) (n:Int):Int:=if dH l≠0 then dH l else if n<1∨1000<n then 3 else if idx Ib l<0 then 10 else 0
def jN (l:List Int) (n:Int):Int:=if ic l n=0 then idx Ib l else 0
def lS (l:List Int) (n:Int):List Int:=if ic l n=0 then l.set (idx Ib l).toNat n else []
theorem La (n:Int) (h:dH l≠0):ic l n=dH l∧jN l n=0∧lS l n=[]:=by
 have:ic l n=dH l:=by unfold ic;rw[if_pos h]
 exact⟨this,by unfold jN;rw[this,if_neg h],by unfold lS;rw[this,if_neg h]⟩
theorem Mt (h0:dH l=0) (h:n<1∨1000<n):ic l n=3∧jN l n=0∧lS l n=[]:=by
 have:ic l n=3:=by unfold ic;rw[if_neg (by omega),if_pos h]
 exact⟨this,by unfold jN;rw[this];rfl,by unfold lS;rw[this];rfl⟩
theorem Mw (h0:dH l=0) (h:1≤n∧n≤1000) (hf:idx Ib l = -1):ic l n=10∧jN l n=0∧lS l n=[]:=by
 have:ic l n=10:=by unfold ic;rw[if_neg (by omega),if_neg (by omega),if_pos (by omega)]
 exact⟨this,by unfold jN;rw[this];rfl,by unfold lS;rw[this];rfl⟩
theorem Oa (h0:dH l=0) (h:1≤n∧n≤1000) (hf:idx Ib l=k):ic l n=0∧jN l n=k∧lS l n=l.set k n:=by
 have:ic l n=0:=by unfold ic;rw[if_neg (by omega),if_neg (by omega),if_neg (by omega)]
 exact⟨this,by unfold jN;rw[this,if_pos rfl,hf],by unfold lS;rw[this,if_pos rfl,hf];rfl⟩
def Dg (l:List Int) (k:Int):Int:=l.getD k.toNat 0
def bA (l:List Int) (k n:Int):Int:=if dH l≠0 then dH l else if k<0∨l.length≤k∨Dg l k=0 then 5 else if n < -Dg l k∨1000-Dg l k<n then 3 else 0
def aU (l:List Int) (k n:Int):List Int:=if bA l k n=0 then l.set k.toNat (Dg l k+n) else []
theorem Lu (k n:Int) (h:dH l≠0):bA l k n=dH l∧aU l k n=[]:=by
 have:bA l k n=dH l:=by unfold bA;rw[if_pos h]
 exact⟨this,by unfold aU;rw[this,if_neg h]⟩
theorem Fa {k:Int} (h0:dH l=0) (h:k<0∨l.length≤k∨Dg l k=0):bA l k n=5∧aU l k n=[]:=by
 have:bA l k n=5:=by unfold bA;rw[if_neg (by omega),if_pos h]
 exact⟨this,by unfold aU;rw[this];rfl⟩
theorem Lc {k:Int} (h0:dH l=0) (h:¬(k<0∨l.length≤k∨Dg l k=0)) (hr:n < -Dg l k∨1000-Dg l k<n):bA l k n=3∧aU l k n=[]:=by
 have:bA l k n=3:=by unfold bA;rw[if_neg (by omega),if_neg h,if_pos hr]
 exact⟨this,by unfold aU;rw[this];rfl⟩
theorem OX {k:Int} (h0:dH l=0) (h:¬(k<0∨l.length≤k∨Dg l k=0)) (hr:¬(n < -Dg l k∨1000-Dg l k<n)):bA l k n=0∧aU l k n=l.set k.toNat (Dg l k+n):=by
 have:bA l k n=0:=by unfold bA;rw[if_neg (by omega),if_neg h,if_neg hr]
 exact⟨this,by unfold aU;rw[this,if_pos rfl]⟩
theorem TT (h:k<l.length):Dg l k=l[k]:=by simp[Dg,h]
structure tZ where
 blocks:List Page
 queue:List (Int × Page)
def zPg:Page:=#v[0,0,0,0,0,0,0,0]
def Dz (n:Nat) (q:Int × Page):Bool:=decide (q.1<0)||decide ((n:Int)≤q.1)
def cK (d:tZ):Int:=if 80<d.blocks.length∨400<d.queue.length then 4 else if d.queue.any (Dz d.blocks.length) then 3 else 0
def aK (d:tZ) (at_:Int):Int:=if cK d≠0 then cK d else if at_<0∨d.blocks.length≤at_ then 3 else 0
def over (k:Int) (p:Page) (q:List (Int × Page)):Page:=q.foldl (fun p x=>if x.1=k then x.2 else p) p
theorem Ap (k:Int) (p:Page) (q:List (Int × Page)) (x:Int × Page):over k p (q++[x])=if x.1=k then x.2 else over k p q:=by simp[over,xG]
theorem Ov (k:Int) (p:Page) (q:List (Int × Page)) (i:Nat) (h:i<q.length):over k p (q.take (i+1))=if q[i].1=k then q[i].2 else over k p (q.take i):=by
 rw[mI,aN h,Option.toList,Ap]
def dP (d:tZ) (k:Int):Page:=if aK d k=0 then over k (d.blocks.getD k.toNat zPg) d.queue else zPg
def ja (d:tZ) (x:Int × Page):tZ:=
 match d.queue with
 | []=>⟨d.blocks,[x]⟩
 | q::r=>if (q::r).length=400 then ⟨d.blocks.set q.1.toNat q.2,r++[x]⟩ else ⟨d.blocks,(q::r)++[x]⟩
theorem Ot (d:tZ) (x:Int × Page) (h:d.queue.length≠400):ja d x=⟨d.blocks,d.queue++[x]⟩:=by
 unfold ja;split
 ·rename_i e;rw[e];rfl
 ·rename_i q r e;rw[e] at h;rw[if_neg h,e]
theorem Qj (d:tZ) (x:Int × Page) (h:d.queue.length=400):ja d x=⟨d.blocks.set (d.queue[0]'(by omega)).1.toNat (d.queue[0]'(by omega)).2,d.queue.drop 1++[x]⟩:=by
 obtain⟨B,Q⟩:=d;unfold ja;cases Q with
 | nil=>simp at h
 | cons q r=>simp only[if_pos h];rfl
def dG (d:tZ) (k:Int) (p:Page):tZ:=if aK d k=0 then ja d (k,p) else ⟨[],[]⟩
theorem Fh {d:tZ} (h:cK d=0):d.blocks.length≤80∧d.queue.length≤400:=by
 unfold cK at h;split at h
 ·omega
 ·omega
theorem FM {d:tZ} (h:cK d=0) (i:Nat) (hi:i<d.queue.length):0≤d.queue[i].1∧d.queue[i].1<d.blocks.length:=by
 unfold cK at h;split at h
 ·omega
 split at h
 ·omega
 rename_i h1;have:=uJ.1 (by simpa using h1) _ (eX hi);simp[Dz] at this;omega
def VP (b:Int) (i:Nat):Bool:=Go.bits BinOp.and IntKind.i64 (b / 2 ^ (i%60)) 1==1
def vJ (n:Int):tZ:=if 0≤n∧n≤80 then ⟨List.replicate n.toNat zPg,[]⟩ else ⟨[],[]⟩
def NH (n:Int):Int:=if 0≤n∧n≤80 then 0 else 4
def keepN (f:Nat→Bool) (B:List Page) (Q:List (Int × Page)):Nat→List Page
 | 0=>B
 | k+1=>match Q[k]? with
  | some q=>if f k then (keepN f B Q k).set q.1.toNat q.2 else keepN f B Q k
  | none=>keepN f B Q k
def VH (f:Nat→Bool) (d:tZ):tZ:=if cK d=0 then ⟨keepN f d.blocks d.queue d.queue.length,[]⟩ else ⟨[],[]⟩
theorem PZ (k:Int) (p:Page) (q:Int × Page) (r:List (Int × Page)):over k p (q::r)=over k (if q.1=k then q.2 else p) r:=rfl
theorem kz (d:tZ):cK d=0↔d.blocks.length≤80∧d.queue.length≤400∧∀x∈d.queue,0≤x.1∧x.1<d.blocks.length:=by
 unfold cK;constructor
 ·intro h;split at h
  ·omega
  split at h
  ·omega
  rename_i h1 h2;refine⟨by omega,by omega,fun x hx => ?_⟩;have:=uJ.1 (by simpa using h2) x hx;simp[Dz] at this;omega
 rintro⟨h1,h2,h3⟩;rw[if_neg (by omega),if_neg];simp only[jU,not_exists,not_and];intro x hx;have:=h3 x hx;simp[Dz];omega
theorem iV {d:tZ} {k:Int}:aK d k=0↔cK d=0∧0≤k∧k<d.blocks.length:=by
 unfold aK;constructor
 ·intro h;split at h
  ·omega
  split at h
  ·omega
  ·omega
 rintro⟨h1,h2,h3⟩;rw[if_neg (by omega),if_neg (by omega)]
theorem wU (d:tZ) (x:Int × Page):(ja d x).blocks.length=d.blocks.length:=by
 unfold ja;split
 ·rfl
 split
 ·simp
 ·rfl
theorem yx {d:tZ} {x:Int × Page} (h:cK d=0) (h0:0≤x.1) (h1:x.1<d.blocks.length):cK (ja d x)=0:=by
 obtain⟨h2,h3,h4⟩:=(kz d).1 h;rw[kz,wU];refine⟨h2,?_,?_⟩
 ·unfold ja;split
  ·simp
  rename_i q r e;rw[e] at h3;split
  ·rename_i e4;simp at e4 ⊢; omega
  ·rename_i e4;simp at e4 h3 ⊢; omega
 intro y hy;have:y=x∨y∈d.queue:=by
  unfold ja at hy;split at hy
  ·simp at hy;exact .inl hy
  rename_i q r e;rw[e];split at hy
  ·simp at hy ⊢; rcases hy with h | h
   ·exact .inr (.inr h)
   ·exact .inl h
  simp at hy ⊢; rcases hy with h | h | h
  ·exact .inr (.inl h)
  ·exact .inr (.inr h)
  ·exact .inl h
 rcases this with rfl|h
 ·exact⟨h0,h1⟩
 ·exact h4 y h
theorem Ow (d:tZ) (x:Int × Page) (o:Int) (hq:∀y∈d.queue,0≤y.1∧y.1<d.blocks.length) (ho:0≤o) (ho' : o<d.blocks.length) :
  over o ((ja d x).blocks.getD o.toNat zPg) (ja d x).queue=if x.1=o then x.2 else over o (d.blocks.getD o.toNat zPg) d.queue:=by
 unfold ja;split
 ·rename_i e;rw[e];rfl
 rename_i q r e;split
 ·have a:=hq q (by rw[e];exact jh ..);rw[Ap];congr 1;rw[e,PZ];congr 1;simp only[bJ,oh]
  by_cases hqo:q.1=o
  ·rw[if_pos hqo,if_pos (by rw[hqo]),if_pos (by rw[hqo];omega)];rfl
  ·rw[if_neg hqo,if_neg (by omega)]
 ·rw[e,Ap]
theorem GN {d:tZ} {x:Int × Page} (h:cK d=0) (h0:0≤x.1) (h1:x.1<d.blocks.length) (o:Int):aK (ja d x) o=aK d o:=by
 unfold aK;rw[yx h h0 h1,h,wU]
theorem wV {d:tZ} {x:Int × Page} (h:cK d=0) (h0:0≤x.1) (h1:x.1<d.blocks.length) (o:Int):dP (ja d x) o=if aK d o=0∧x.1=o then x.2 else dP d o:=by
 unfold dP;rw[GN h h0 h1]
 by_cases ho:aK d o=0
 ·obtain⟨_,g0,g1⟩:=iV.1 ho;rw[if_pos ho,if_pos ho,Ow d x o ((kz d).1 h).2.2 g0 g1];simp[ho]
 ·rw[if_neg ho,if_neg ho,if_neg (fun h=>ho h.1)]
def pg5:Page:=#v[5,0,0,0,0,0,0,0]
def d3:tZ:=⟨[zPg,zPg,zPg],[]⟩
def Xp (k:Int) (l:List (Int × Page)):List (Int × Page):=l.filter (fun q => !(q.1==k))
def WW (d:tZ) (k:Int):tZ:=⟨d.blocks.set k.toNat zPg,Xp k d.queue⟩
def Xh (d:tZ) (k:Int):tZ:=if aK d k=0 then WW d k else ⟨[],[]⟩
structure Fr where
 p:Page
 r:Int
 u:Bool
 d:Bool
 f:Int
 i:Int
 deriving DecidableEq
def IC (f:Fr):Bool:=decide (f.r<0)||decide (1000<f.r)||decide (f.f < -1)||decide (5≤f.f)||decide (f.i<0)||decide (12≤f.i)
def KF (f:Fr):Bool:=decide (f.r=0)&&(f.u||f.d||decide (0≤f.f)||f.p != zPg)
def DY (f:Fr):Bool:=decide (f.f<0)&&decide (f.i≠0)
def bU (f:Fr):Int:=if IC f=true then 3 else if KF f=true∨DY f=true then 7 else 0
structure Mem where
 fs:List Fr
 hand:Int
 deriving DecidableEq
def firstEf:List Fr→Int
 | []=>0
 | f::r=>if bU f≠0 then bU f else firstEf r
theorem firstEf_at:∀(l:List Fr) (k:Nat) (hk:k<l.length),(∀i (h:i<l.length),i<k→bU l[i]=0)→bU l[k]≠0→firstEf l=bU l[k]
 | f::r,0,_,_,h=>by unfold firstEf;exact if_pos h
 | f::r,k+1,hk,hp,h=>by unfold firstEf;rw[if_neg (fun hh=>hh (hp 0 (by simp) (by omega)))];exact firstEf_at r k (by simpa using hk) (fun i hi hik=>hp (i+1) (by simpa using hi) (by omega)) h
theorem firstEf_none:∀(l:List Fr),(∀i (h:i<l.length),bU l[i]=0)→firstEf l=0
 | [],_=>rfl
 | f::r,hp=>by unfold firstEf;rw[if_neg (fun hh=>hh (hp 0 (by simp)))];exact firstEf_none r (fun i hi=>hp (i+1) (by simpa using hi))
def bI (m:Mem):Int:=if 40<m.fs.length then 4 else if firstEf m.fs≠0 then firstEf m.fs else if m.hand<0∨(0<m.hand∧(m.fs.length:Int)≤m.hand) then 3 else 0
def fB (l:List Fr):Nat:=(l.filter (fun f=>decide (f.r=0))).length
theorem Lb (l:List Fr) (k:Nat) (hk:k<l.length):fB (l.take (k+1))=if l[k].r=0 then fB (l.take k)+1 else fB (l.take k):=by
 unfold fB;rw[mI,aN hk,Option.toList,uX]
 by_cases h:l[k].r=0<;>simp[h]
theorem Dy (l:List Fr):fB l≤l.length:=xM _ _
def fr0:Fr:=⟨zPg,0,false,false,0,0⟩
def frZ:Fr:=⟨zPg,0,false,false,-1,0⟩
def vZ (n:Int):Mem:=if 0≤n∧n≤40 then ⟨List.replicate n.toNat frZ,0⟩ else ⟨[],0⟩
def ND (n:Int):Int:=if 0≤n∧n≤40 then 0 else 4
def vL (l:List Fr):Option Nat:=l.findIdx? (fun f=>decide (f.r=0))
theorem Mx {l:List Fr} (h:∀i (h:i<l.length),i<l.length→¬l[i].r=0):vL l=none:=by
 unfold vL;rw[wZ];intro x hx;obtain⟨i,hi,rfl⟩:=jG.1 hx;simpa using h i hi hi
theorem Lt {l:List Fr} (hi:i<l.length) (h:l[i].r=0) (hno:∀j (h:j<l.length),j<i→¬l[j].r=0):vL l=some i:=by
 unfold vL;rw[tL];exact⟨hi,by simpa using h,fun j hj=>by simpa using hno j (by omega) hj⟩
def noM:Mem:=⟨[],0⟩
def bz (p:Page) (file index:Int):Fr:=⟨p,1,true,false,file,index⟩
def gN (m:Mem) (p:Page) (file index:Int):Int:=if bI m≠0 then bI m else if bU (bz p file index)≠0 then bU (bz p file index) else if vL m.fs=none then 10 else 0
def gY (m:Mem) (p:Page) (file index:Int):Nat:=if gN m p file index=0 then (vL m.fs).getD 0 else 0
def eZ (m:Mem) (p:Page) (file index:Int):Mem:=if gN m p file index=0 then ⟨m.fs.set (gY m p file index) (bz p file index),m.hand⟩ else noM
theorem firstEf_all:∀(l:List Fr),firstEf l=0→∀f∈l,bU f=0
 | [],_,_,h=>by cases h
 | g::r,h,f,hf=>by
  unfold firstEf at h
  by_cases hg:bU g=0
  ·rw[if_neg (fun e=>e hg)] at h;rcases eT.1 hf with rfl|hf
   ·exact hg
   ·exact firstEf_all r h f hf
  rw[if_pos hg] at h;exact absurd h hg
theorem dN (m:Mem):bI m=0↔m.fs.length≤40∧(∀f∈m.fs,bU f=0)∧0≤m.hand∧(m.hand=0∨m.hand<m.fs.length):=by
 unfold bI;constructor
 ·intro h
  by_cases h1:40<m.fs.length
  ·rw[if_pos h1] at h;cases h
  rw[if_neg h1] at h
  by_cases h2:firstEf m.fs=0
  ·rw[if_neg (fun e=>e h2)] at h
   by_cases h3:m.hand<0∨(0<m.hand∧(m.fs.length:Int)≤m.hand)
   ·rw[if_pos h3] at h;cases h
   ·exact⟨by omega,firstEf_all _ h2,by omega,by omega⟩
  ·rw[if_pos h2] at h;exact absurd h h2
 rintro⟨h1,h2,h3,h4⟩;rw[if_neg (by omega)];have h5:firstEf m.fs=0:=firstEf_none _ (fun i hi=>h2 _ (eX hi));rw[h5,if_neg (fun e=>e rfl),if_neg (by omega)]
theorem dJ (f:Fr):bU f=0↔(0≤f.r∧f.r≤1000∧-1≤f.f∧f.f<5∧0≤f.i∧f.i<12)∧(f.r=0→f.u=false∧f.d=false∧f.f<0∧f.p=zPg)∧(f.f<0→f.i=0):=by
 unfold bU;have hb:IC f=false↔(0≤f.r∧f.r≤1000∧-1≤f.f∧f.f<5∧0≤f.i∧f.i<12):=by simp only[IC,CG,decide_eq_false_iff_not,Int.not_lt,Int.not_le];omega
 have hu:KF f=false↔(f.r=0→f.u=false∧f.d=false∧f.f<0∧f.p=zPg):=by
  unfold KF
  by_cases h:f.r=0
  ·simp[h,and_assoc]
  ·simp[h]
 have hf:DY f=false↔(f.f<0→f.i=0):=by
  unfold DY
  by_cases h:f.f<0
  ·simp[h]
  ·simp[h]
 rw[←hb,←hu,←hf];cases IC f<;>cases KF f<;>cases DY f<;>simp
def mY (m:Mem) (k n:Int):Int:=if bI m≠0 then bI m else if k<0∨(m.fs.length:Int)≤k∨(m.fs.getD k.toNat fr0).r=0 then 5 else if n < -(m.fs.getD k.toNat fr0).r∨1000-(m.fs.getD k.toNat fr0).r<n then 3 else 0
def gF (f:Fr) (n:Int):Fr:=if f.r+n=0 then frZ else { f with r:=f.r+n }
def lQ (m:Mem) (k n:Int):Mem:=if mY m k n=0 then ⟨m.fs.set k.toNat (gF (m.fs.getD k.toNat fr0) n),m.hand⟩ else noM
def iW (m:Mem) (s:Nat):Nat:=(m.hand.toNat+s)%m.fs.length
def Bu (m:Mem) (s i:Nat):Bool:=(List.range s).any (fun t=>iW m t==i)
def unused (f:Fr):Fr:={ f with u:=false }
def nI (m:Mem) (s:Nat):List Fr:=m.fs.mapIdx (fun i f=>if Bu m s i then unused f else f)
def vS (m:Mem) (s:Nat):Bool:=decide (0<(m.fs.getD (iW m s) fr0).r)&&(!(m.fs.getD (iW m s) fr0).u||decide (m.fs.length≤s))
def iw (m:Mem):Nat:=((List.range (2*m.fs.length)).find? (vS m)).getD 0
def fH (m:Mem):Mem:=if bI m≠0 then noM else if fB m.fs=m.fs.length then m else ⟨nI m (iw m),(iW m (iw m+1):Nat)⟩
def iy (m:Mem):Int:=if bI m≠0 then 0 else if fB m.fs=m.fs.length then -1 else (iW m (iw m):Nat)
theorem oq {m:Mem} (h:0<m.fs.length) (s:Nat):iW m s<m.fs.length:=uH _ h
theorem iU (m:Mem) (s:Nat):(nI m s).length=m.fs.length:=by simp[nI]
theorem vv (m:Mem) (s i:Nat) (hi:i<m.fs.length):(nI m s)[i]'(by rw[iU];exact hi)=if Bu m s i then unused m.fs[i] else m.fs[i]:=by simp[nI]
theorem PO (m:Mem) (s i:Nat):Bu m (s+1) i=(Bu m s i||iW m s==i):=by simp[Bu,yO]
theorem Tv (m:Mem):nI m 0=m.fs:=by
 apply rA
 ·rw[iU]
 intro i h1 h2;rw[vv m 0 i h2];rfl
theorem SF (m:Mem) (s:Nat) (h:0<m.fs.length):(nI m s).set (iW m s) (unused ((nI m s)[iW m s]'(by rw[iU];exact oq h s)))=nI m (s+1):=by
 apply rA
 ·simp[iU]
 intro i h1 h2;have hi:i<m.fs.length:=by rw[iU] at h2;exact h2
 rw[BV,vv m (s+1) i hi,PO]
 by_cases e:iW m s=i
 ·subst e;rw[if_pos rfl,vv m s _ hi];cases Bu m s (iW m s)<;>simp[unused]
 rw[if_neg e,vv m s i hi];have:(iW m s==i)=false:=by simpa using e
 rw[this,Bool.or_false]
theorem Ty (m:Mem) (s:Nat) (h:0<m.fs.length):Bu m s (iW m s)=decide (m.fs.length≤s):=by
 rw[oJ];simp only[Bu,jU,bX,beq_iff_eq,decide_eq_true_eq];constructor
 ·rintro⟨t,ht,he⟩;unfold iW at he;rcases fM s m.fs.length with hs|hs
  ·exfalso;have h1:(m.hand.toNat+s)%m.fs.length=(m.hand.toNat+t+(s-t))%m.fs.length:=by congr 1;omega
   rw[h1,Nat.add_mod (m.hand.toNat+t) (s-t)] at he;have h2:(s-t)%m.fs.length=s-t:=vB (by omega);rw[h2] at he;have h3:=uH (m.hand.toNat+t) h;generalize (m.hand.toNat+t)%m.fs.length=x at *
   rcases fM (x+(s-t)) m.fs.length with h4|h4
   ·rw[vB h4] at he;omega
   ·rw[Nat.mod_eq_sub_mod h4,vB (by omega)] at he;omega
  ·exact hs
 intro hs;refine⟨s-m.fs.length,by omega,?_⟩;unfold iW;have:m.hand.toNat+s=(m.hand.toNat+(s-m.fs.length))+m.fs.length:=by omega
 rw[this,CJ]
theorem Wq (m:Mem) (s:Nat) (h:0<m.fs.length):(nI m s)[iW m s]'(by rw[iU];exact oq h s)=if m.fs.length≤s then unused (m.fs[iW m s]'(oq h s)) else m.fs[iW m s]'(oq h s):=by
 rw[vv m s _ (oq h s),Ty m s h];simp
theorem Vp (m:Mem) (s:Nat) (h:0<m.fs.length):vS m s=(decide (0<((nI m s)[iW m s]'(by rw[iU];exact oq h s)).r)&&!((nI m s)[iW m s]'(by rw[iU];exact oq h s)).u):=by
 rw[Wq m s h];unfold vS;rw[show m.fs.getD (iW m s) fr0=m.fs[iW m s]'(oq h s) from by simp[oq h s]]
 by_cases hs:m.fs.length≤s
 ·rw[if_pos hs];simp[hs,unused];rfl
 ·rw[if_neg hs];simp[hs]
theorem OM (l:List Fr):fB l=l.length↔∀f∈l,f.r=0:=by
 unfold fB;rw[List.length_filter_eq_length_iff];simp
theorem stops (m:Mem) (hw:bI m=0) (hf:fB m.fs≠m.fs.length):∃s,s<2*m.fs.length∧vS m s=true:=by
 obtain⟨_,c,hh,_⟩:=(dN m).1 hw;rw[Ne,OM] at hf;obtain⟨f,d⟩:=Classical.not_forall.1 hf;obtain⟨hm,hr⟩:=Classical.not_imp.1 d;obtain⟨i,hi,rfl⟩:=jG.1 hm;have e:=((dJ _).1 (c _ hm)).1.1;have a:0<m.fs.length:=by omega
 have hx:=uH m.hand.toNat a;refine⟨(i+m.fs.length-m.hand.toNat%m.fs.length)%m.fs.length+m.fs.length,by have:=uH (i+m.fs.length-m.hand.toNat%m.fs.length) a;omega,?_⟩;have b:iW m ((i+m.fs.length-m.hand.toNat%m.fs.length)%m.fs.length+m.fs.length)=i:=by
  unfold iW;rw[←pX,CJ,Nat.add_mod,Nat.mod_mod];generalize m.hand.toNat%m.fs.length=x at *
  rcases fM i x with h|h
  ·rw[vB (show i+m.fs.length-x<m.fs.length by omega)];rw[show x+(i+m.fs.length-x)=i+m.fs.length from by omega,CJ,vB hi]
  have h3:i+m.fs.length-x=(i-x)+m.fs.length:=by omega
  rw[h3,CJ,vB (show i-x<m.fs.length by omega),show x+(i-x)=i from by omega,vB hi]
 unfold vS;rw[b];have:m.fs.getD i fr0=m.fs[i]:=by simp[hi]
 rw[this];have h1:0<m.fs[i].r:=by omega
 have h2:m.fs.length≤(i+m.fs.length-m.hand.toNat%m.fs.length)%m.fs.length+m.fs.length:=by omega
 simp[h1,h2]
theorem Sc (m:Mem) (hw:bI m=0) (hf:fB m.fs≠m.fs.length):iw m<2*m.fs.length∧vS m (iw m)=true∧∀t,t<iw m→vS m t=false:=by
 obtain⟨s,hs,a⟩:=stops m hw hf;unfold iw;cases hfd:(List.range (2*m.fs.length)).find? (vS m) with
 | none=>
  rw[pW] at hfd;exact absurd a (hfd s (bX.2 hs))
 | some r=>
  rw[Im] at hfd;obtain⟨h1,h2,h3⟩:=hfd;exact⟨bX.1 h2,h1,fun t ht=>by simpa using h3 t ht⟩
structure En where
 k:Int
 n:Int
 w:Bool
 deriving DecidableEq
def zEn:En:=⟨0,0,false⟩
abbrev Tb:=Vector (List En) 8
def gV (e:En):Int:=if e.k<0∨2<e.k then 1 else if e.n<0∨40≤e.n∧e.k=1∨60≤e.n then 3 else if e.k=0∧(e.n≠0∨e.w=true)∨e.k=2∧e.w=true then 7 else 0
def mf (h:List En):Int:=if h.length≠0∧h.length≠8 then 2 else if firstE (h.map gV)≠0 then firstE (h.map gV) else if 0<h.length∧h.any (fun e=>decide (e.k≠0))=false then 2 else 0
def dR (t:Tb):Int:=firstE (t.toList.map mf)
def Gp (h:List En) (k:Nat):Bool:=(h.take k).any (fun e=>decide (e.k≠0))
theorem NZ (h:List En) (k:Nat) (hk:k<h.length):Gp h (k+1)=(Gp h k||decide (h[k].k≠0)):=by
 unfold Gp;rw[mI,List.any_append,aN hk];simp
theorem QE (h:List En) (k:Nat) (hk:h.length≤k):Gp h k=h.any (fun e=>decide (e.k≠0)):=by
 unfold Gp;rw[mK hk]
theorem Bq {t:Tb} (h:∀i (hi:i<8),mf t[i]=0):dR t=0:=su fun i hi=>by simpa using h i (by simpa using hi)
theorem zY {t:Tb} (k:Nat) (hk:k<8) (h:∀i (hi:i<8),i<k→mf t[i]=0) (hne:mf t[k]≠0):dR t=mf t[k]:=by
 have:=xQ (l:=t.toList.map mf) k (by simpa using hk) (fun i hi a=>by simpa using h i (by simpa using hi) a) (by simpa using hne);rw[dR,this];simp
theorem DL {h:List En} (h1:h.length≠0∧h.length≠8):mf h=2:=by unfold mf;rw[if_pos h1]
theorem JU {h:List En} (h1:h.length=0∨h.length=8) (k:Nat) (hk:k<h.length) (hp:∀i (hi:i<h.length),i<k→gV h[i]=0) (hne:gV h[k]≠0):mf h=gV h[k]:=by
 have:=xQ (l:=h.map gV) k (by simpa using hk) (fun i hi a=>by simpa using hp i (by simpa using hi) a) (by simpa using hne);have e:firstE (h.map gV)=gV h[k]:=by rw[this];simp
 unfold mf;rw[if_neg (by omega),e,if_pos hne]
theorem AB {h:List En} (h1:h.length=0∨h.length=8) (hp:∀i (hi:i<h.length),gV h[i]=0):mf h=if 0<h.length∧h.any (fun e=>decide (e.k≠0))=false then 2 else 0:=by
 have:=su (l:=h.map gV) (fun i hi=>by simpa using hp i (by simpa using hi));unfold mf;rw[if_neg (by omega),this,if_neg (by omega)]
def Ay (t:Tb):Prop:=∀k (h:k<8),t[k].length*24≤140737488355328
def dB (t:Tb) (n:Int):En:=if h:0≤n∧n<64 then (if (t[n.toNat / 8]'(by omega)).length=8 then (t[n.toNat / 8]'(by omega)).getD (n.toNat%8) zEn else zEn) else zEn
theorem rF {t:Tb} (h:n<0∨64≤n):dB t n=zEn:=by unfold dB;rw[dif_neg (by omega)]
theorem yT {t:Tb} (hq:q<8) (hr:r<8):dB t ((8*q+r:Nat):Int)=if t[q].length=8 then t[q].getD r zEn else zEn:=by
 unfold dB;rw[dif_pos (by omega)];have e1:(((8*q+r:Nat):Int).toNat / 8)=q:=by rw[bG];omega
 have e2:(((8*q+r:Nat):Int).toNat%8)=r:=by rw[bG];omega
 simp only[e1,e2]
theorem xD (h:0≤n∧n<64):∃q r:Nat,q<8∧r<8∧n=((8*q+r:Nat):Int)∧n / 8=(q:Int)∧n%8=(r:Int):=by
 refine⟨(n / 8).toNat,(n%8).toNat,by omega,by omega,by omega,by omega,by omega⟩
def oz (e:En):Bool:=decide (e.k≠0)
def setE (t:Tb) (n:Int) (e:En):Int:=if dR t≠0 then dR t else if n<0∨64≤n then 3 else gV e
def Vz (h:List En):List En:=if h.any oz then h else []
def setH (h:List En) (r:Nat) (e:En):List En:=Vz ((if h.length=0 then List.replicate 8 zEn else h).set r e)
def zTb:Tb:=Vector.replicate 8 []
def setT (t:Tb) (n:Int) (e:En):Tb:=if h:(0≤n∧n<64)∧setE t n e=0 then t.set (n.toNat / 8) (setH (t[n.toNat / 8]'(by omega)) (n.toNat%8) e) (by omega) else zTb
theorem wN {t:Tb} {e:En} (h:setE t n e≠0):setT t n e=zTb:=by unfold setT;rw[dif_neg (fun h'=>h h'.2)]
theorem MZ {t:Tb} {e:En} (h:setE t n e=0) (hq:q<8) (hr:r<8) (hn:n=((8*q+r:Nat):Int)):setT t n e=t.set q (setH t[q] r e):=by
 unfold setT;subst hn;rw[dif_pos ⟨by omega,h⟩];have e1:(((8*q+r:Nat):Int).toNat / 8)=q:=by rw[bG];omega
 have e2:(((8*q+r:Nat):Int).toNat%8)=r:=by rw[bG];omega
 simp only[e1,e2]
theorem qL {h:List En} (h0:mf h=0):h.length=0∨h.length=8:=by
 by_cases e:h.length≠0∧h.length≠8
 ·rw[DL e] at h0;cases h0
 ·omega
theorem mW {t:Tb} (h:dR t=0) (k:Nat) (hk:k<8):mf t[k]=0:=by
 have key:∀(l:List Int),firstE l=0→∀x∈l,x=0:=by
  intro l
  induction l with
  | nil=>intro _ x hx;cases hx
  | cons y r ih=>
   intro h x hx
   by_cases e:y=0
   ·simp only[firstE,e,if_true] at h;rcases eT.1 hx with rfl|hx
    ·exact e
    ·exact ih h x hx
   ·simp only[firstE,e,if_false] at h
 exact key _ h _ (fF.2 ⟨t[k],by simp,rfl⟩)
def jC (t:Tb) (k:Nat):List Int:=((List.range k).filter fun n:Nat=>oz (dB t (n:Int))).map fun n:Nat=>(n:Int)
def aM (t:Tb):List Int:=jC t 64
theorem qW (t:Tb) (k:Nat):(jC t k).length≤k:=by
 unfold jC;rw[gK];exact aY (xM _ _) (by simp)
theorem JD {t:Tb} (h:oz (dB t (k:Int))=true):jC t (k+1)=jC t k++[(k:Int)]:=by
 unfold jC;rw[yO,uX,jJ];simp[h]
theorem Mg {t:Tb} (h:oz (dB t (k:Int))=false):jC t (k+1)=jC t k:=by
 unfold jC;rw[yO,uX,jJ];simp[h]
structure BH (p:Int→Bool) (l:List Int) (j i:Nat) (cur:List Int):Prop where
 len:cur.length=l.length
 lt:i<j
 le:j≤l.length
 done:cur.take i=(l.take j).filter (fun x => !p x)
 rest:∀t,j≤t→cur[t]?=l[t]?
theorem BH.start {p:Int→Bool} (hi:i<l.length) (he:p l[i]=true) (hno:∀j (h:j<l.length),j<i→p l[j]=false):BH p l (i+1) i l:=by
 refine⟨rfl,by omega,by omega,?_,fun _ _=>rfl⟩;rw[mI,uX,aN hi,Option.toList];have h1:(l.take i).filter (fun q => !p q)=l.take i:=by rw[Iu];intro q hq;obtain⟨j,hj,rfl⟩:=jG.1 hq;simp only[fG] at hj;rw[List.getElem_take];simpa using hno j (by omega) (by omega)
 simp[h1,he]
theorem BH.keep {p:Int→Bool} {cur:List Int} (h:BH p l j i cur) (hj:j<l.length) (hne:p l[j]=false):BH p l (j+1) (i+1) (cur.set i l[j]):=by
 have h1:=h.lt;have h2:=h.len;refine⟨by simp[h.len],by omega,by omega,?_,fun t ht => ?_⟩
 ·have hi:i<cur.length:=by omega
  rw[mI,uZ hi,Option.toList,List.take_set_of_le (az _),h.done];rw[mI,uX,aN hj,Option.toList];simp[hne]
 rw[sG (by omega)];exact h.rest t (by omega)
theorem BH.skip {p:Int→Bool} {cur:List Int} (h:BH p l j i cur) (hj:j<l.length) (he:p l[j]=true):BH p l (j+1) i cur:=by
 have h1:=h.lt;refine⟨h.len,by omega,by omega,?_,fun t ht=>h.rest t (by omega)⟩;rw[h.done];rw[mI,uX,aN hj,Option.toList];simp[he]
theorem BH.all {p:Int→Bool} (h:∀i (h:i<l.length),p l[i]=false):l.filter (fun x => !p x)=l:=by
 rw[Iu];intro q hq;obtain⟨j,hj,rfl⟩:=jG.1 hq;simpa using h j hj
def qc (t:Tb) (kind k:Int) (n:Int):Bool:=decide ((dB t n).k≠kind)||decide ((dB t n).n≠k)
def nX (t:Tb) (kind k:Int):List Int:=(aM t).filter fun n => !qc t kind k n
def fC (t:Tb):List En:=(List.range 64).map fun n:Nat=>dB t (n:Int)
structure XG (t:Tb) (m:Nat) (l:List En):Prop where
 len:l.length=64
 at' : ∀n (h:n<64),l[n]?=some (if n<m then dB t (n:Int) else zEn)
theorem XG.step {t:Tb} {m:Nat} {l:List En} (h:XG t m l) (hm:m<64) {E:En} (hE:dB t (m:Int)=E):XG t (m+1) (l.set m E):=by
 refine⟨by simp[h.len],fun n hn => ?_⟩
 by_cases e:n=m
 ·subst e;rw[uZ (by rw[h.len];exact hn),if_pos (by omega),hE]
 rw[sG (fun e2=>e e2.symm),h.at' n hn];congr 1
 by_cases e2:n<m
 ·rw[if_pos e2,if_pos (by omega)]
 ·rw[if_neg e2,if_neg (by omega)]
theorem FJ {t:Tb} (hq:q<8) (hr:r<8) (h:t[q].length=0):dB t ((8*q+r:Nat):Int)=zEn:=by
 rw[yT hq hr,if_neg (by omega)]
theorem PY {t:Tb} (hq:q<8) (hr:r<8) (h:t[q].length=8) {E:En} (hE:t[q][r]?=some E):dB t ((8*q+r:Nat):Int)=E:=by
 rw[yT hq hr,if_pos h,bJ,hE];rfl
def MU (e:En):Bool:=decide (0<e.k)
def mo (l:List En) (i:Nat):List En:=(l.drop (8*i)).take 8
def tJ (l:List En) (i:Nat):List En:=if (mo l i).any MU then mo l i else []
def rJ (l:List En):Tb:=Vector.ofFn fun i:Fin 8=>tJ l i.val
theorem Kz {l:List En} (hl:l.length=64) (hi:i<8) (hk:k≤8):((l.drop (8*i)).take k).length=k:=by
 simp;omega
structure Fi where
 n:Int
 b:List Int
 deriving DecidableEq
structure St where
 fs:List Fi
 count:Int
 deriving DecidableEq
theorem AO (h:n≤96):gG n≤12:=by unfold gG;split<;>omega
def kP (c:Int):List Int→List Int→Int
 | _,[]=>0
 | seen,b::r=>if b < -1∨c≤b then 3 else if 0≤b∧b∈seen then 7 else kP c (seen++[b]) r
def sM (c:Int):List Int→List Fi→Int
 | _,[]=>0
 | seen,f::r=>if f.n<0∨96<f.n then 3 else if (f.b.length:Int)≠gG f.n then 2 else if kP c seen f.b≠0 then kP c seen f.b else sM c (seen++f.b) r
theorem yw (c:Int) (seen:List Int) (b:Int) (r:List Int):kP c seen (b::r)=if b < -1∨c≤b then 3 else if 0≤b∧b∈seen then 7 else kP c (seen++[b]) r:=rfl
def aQ (s:St):Int:=if 5<s.fs.length∨s.count<0∨80<s.count then 4 else sM s.count [] s.fs
def rU (l:List Int) (j:Int):Bool:=decide (j∈l)
theorem DJ (l:List Int) (b:Int):(fun i=>rU l i||decide (i=b))=rU (l++[b]):=by
 funext i;unfold rU;rw[oJ];simp
theorem drop_at {α:Type} {l:List α} {x:α} (h:l[k]?=some x):l.drop k=x::l.drop (k+1):=by
 have hk:=(dC.1 h).1;rw[xw hk,(dC.1 h).2]
theorem take_at {α:Type} {l:List α} {x:α} (h:l[k]?=some x):l.take (k+1)=l.take k++[x]:=by
 rw[mI,h];rfl
def Vg (n:Int):Int:=if n<0∨80<n then 4 else 0
def Uk (n:Int):Int:=if n<0∨80<n then 0 else n
def iA (s:St):List Int:=s.fs.flatMap Fi.b
def UW (l:List Int):Nat:=(l.filter fun x=>decide (0≤x)).length
def rP (s:St):Int:=s.count-UW (iA s)
def jE (s:St) (b:Int):Bool:=decide (b∈iA s)
theorem Vf (l:List Int) (x:Int):l.any (fun y=>decide (x=y))=decide (x∈l):=by
 rw[oJ,jU,decide_eq_true_eq];constructor
 ·rintro⟨y,hy,h⟩;rw[of_decide_eq_true h];exact hy
 ·intro h;exact⟨x,h,decide_eq_true rfl⟩
def fA (s:St):Int:=match (List.range s.count.toNat).find? (fun b:Nat => !jE s b) with
 | some b=>b
 | none => -1
theorem Oe {s:St} (hb:(b:Int)<s.count) (h:∀i:Nat,i<b→jE s i=true) (hf:jE s b=false):fA s=b:=by
 unfold fA;have:(List.range s.count.toNat).find? (fun b:Nat => !jE s b)=some b:=by rw[Im];exact⟨by simp[hf],bX.2 (by omega),fun j hj=>by simp[h j hj]⟩
 rw[this]
theorem Kl {s:St} (h:∀i:Nat,(i:Int)<s.count→jE s i=true):fA s = -1:=by
 unfold fA;have:(List.range s.count.toNat).find? (fun b:Nat => !jE s b)=none:=by rw[pW];intro i hi;have:=bX.1 hi;simp[h i (by omega)]
 rw[this]
def zSt:St:=⟨[],0⟩
def lN (s:St):Int:=if aQ s≠0 then aQ s else if s.fs.length=5 then 4 else 0
def oU (s:St):St:=if lN s=0 then ⟨s.fs++[⟨0,[]⟩],s.count⟩ else zSt
def jR (s:St):Int:=if lN s=0 then s.fs.length else 0
theorem kw {s:St} (h:aQ s=0):s.fs.length≤5∧0≤s.count∧s.count≤80:=by
 unfold aQ at h
 by_cases g:5<s.fs.length∨s.count<0∨80<s.count
 ·rw[if_pos g] at h;cases h
 ·omega
theorem Dm {c:Int}:∀ {fs:List Fi} {seen:List Int},sM c seen fs=0→∀f∈fs,0≤f.n∧f.n≤96∧(f.b.length:Int)=gG f.n∧∀b∈f.b,-1≤b∧b<c
 | f0::r,seen,h,f,hf=>by
  unfold sM at h
  by_cases g1:f0.n<0∨96<f0.n
  ·rw[if_pos g1] at h;cases h
  rw[if_neg g1] at h
  by_cases g2:(f0.b.length:Int)≠gG f0.n
  ·rw[if_pos g2] at h;cases h
  rw[if_neg g2] at h
  by_cases g3:kP c seen f0.b≠0
  ·rw[if_pos g3] at h;exact absurd h g3
  rw[if_neg g3] at h;rcases eT.1 hf with rfl|hf
  ·refine⟨by omega,by omega,qU.1 g2,?_⟩;have key:∀(l:List Int) (sn:List Int),kP c sn l=0→∀b∈l,-1≤b∧b<c:=by
    intro l
    induction l with
    | nil=>intro _ _ b hb;cases hb
    | cons x r ih=>
     intro sn h b hb;rw[yw] at h
     by_cases k1:x < -1∨c≤x
     ·rw[if_pos k1] at h;cases h
     rw[if_neg k1] at h
     by_cases k2:0≤x∧x∈sn
     ·rw[if_pos k2] at h;cases h
     rw[if_neg k2] at h;rcases eT.1 hb with rfl|hb
     ·omega
     ·exact ih _ h b hb
   exact key _ _ (qU.1 g3)
  ·exact Dm h f hf
theorem yV {s:St} (h:aQ s=0):∀f∈s.fs,0≤f.n∧f.n≤96∧(f.b.length:Int)=gG f.n∧∀b∈f.b,-1≤b∧b<s.count:=by
 have h1:=kw h;unfold aQ at h;rw[if_neg (by omega)] at h;exact Dm h
theorem EA {s:St} {e:Int} (h:lN s=e) (he:e≠0):lN s=e∧jR s=0∧oU s=zSt:=by
 refine⟨h,?_,?_⟩
 ·unfold jR;rw[if_neg (by rw[h];exact he)]
 ·unfold oU;rw[if_neg (by rw[h];exact he)]
def aI (s:St) (k:Int):Fi:=if 0≤k then s.fs.getD k.toNat ⟨0,[]⟩ else ⟨0,[]⟩
def vU (s:St) (k:Int) (f:Fi):St:=⟨s.fs.set k.toNat f,s.count⟩
def bD (s:St) (k i:Int):Int:=(aI s k).b.getD i.toNat 0
def cB (s:St) (k i:Int):Int:=
 if aQ s≠0 then aQ s else if k<0∨(s.fs.length:Int)≤k then 5 else if i<0∨((aI s k).b.length:Int)≤i then 9
 else if bD s k i<0∧fA s<0 then 10 else 0
def dW (s:St) (k i:Int):Int:=if cB s k i≠0 then 0 else if bD s k i<0 then fA s else bD s k i
def dO (s:St) (k i:Int):St:=if cB s k i≠0 then zSt else if bD s k i<0 then vU s k ⟨(aI s k).n,(aI s k).b.set i.toNat (fA s)⟩ else s
theorem xP {s:St} {k i e:Int} (h:cB s k i=e) (he:e≠0):cB s k i=e∧dW s k i=0∧dO s k i=zSt:=by
 refine⟨h,?_,?_⟩
 ·unfold dW;rw[if_pos (by rw[h];exact he)]
 ·unfold dO;rw[if_pos (by rw[h];exact he)]
theorem OH {s:St} (h:s.count≤80):fA s<80∧-1≤fA s:=by
 unfold fA;cases hf:(List.range s.count.toNat).find? (fun b:Nat => !jE s b) with
 | none=>simp
 | some b=>
  have:=bX.1 (uG hf);simp;omega
def UZ (b:List Int) (kk:Nat):List Int:=b.take kk++List.replicate (kk-b.length) (-1)
def SC (s:St) (k n:Int):Int:=
 if aQ s≠0 then aQ s else if k<0∨(s.fs.length:Int)≤k then 5 else if n<0∨96<n then 3 else 0
def Xc (s:St) (k n:Int):St:=if SC s k n≠0 then zSt else vU s k ⟨n,UZ (aI s k).b (gG n).toNat⟩
def lH (l:List Int):List Int:=l.filter fun x=>decide (0≤x)
theorem yX (l m:List Int):lH (l++m)=lH l++lH m:=uX _ _
theorem iQ {x:Int}:x∈lH l↔x∈l∧0≤x:=by unfold lH;simp
theorem AX {c:Int}:∀ {l seen:List Int},kP c seen l=0↔(∀b∈l,-1≤b∧b<c)∧(lH l).Nodup∧∀b∈l,0≤b→¬b∈seen
 | [],seen=>by simp[kP,lH]
 | x::r,seen=>by
  rw[yw]
  by_cases k1:x < -1∨c≤x
  ·rw[if_pos k1];refine⟨fun h=>(by cases h),fun h => ?_⟩;have:=h.1 x jh;omega
  rw[if_neg k1]
  by_cases k2:0≤x∧x∈seen
  ·rw[if_pos k2];refine⟨fun h=>(by cases h),fun h=>absurd k2.2 (h.2.2 x jh k2.1)⟩
  rw[if_neg k2,AX (l:=r)];have hp:lH (x::r)=if 0≤x then x::lH r else lH r:=by unfold lH;rw[GR];simp
  rw[hp];constructor
  ·intro ⟨h1,h2,h3⟩;refine⟨fun b hb => ?_,?_,fun b hb h0 hs => ?_⟩
   ·rcases eT.1 hb with rfl|hb
    ·omega
    ·exact h1 b hb
   ·by_cases hx:0≤x
    ·rw[if_pos hx];refine qK.2 ⟨fun hm => ?_,h2⟩;exact h3 x (iQ.1 hm).1 hx (uP _ (bF.2 rfl))
    ·rw[if_neg hx];exact h2
   rcases eT.1 hb with rfl|hb
   ·exact k2 ⟨h0,hs⟩
   ·exact h3 b hb h0 (uO _ hs)
  intro ⟨h1,h2,h3⟩;refine⟨fun b hb=>h1 b (iM _ hb),?_,fun b hb h0 hs => ?_⟩
  ·by_cases hx:0≤x
   ·rw[if_pos hx] at h2;exact (qK.1 h2).2
   ·rw[if_neg hx] at h2;exact h2
  rcases iN.1 hs with hs|hs
  ·exact h3 b (iM _ hb) h0 hs
  rw[bF.1 hs] at hb h0;rw[if_pos h0] at h2;exact (qK.1 h2).1 (iQ.2 ⟨hb,h0⟩)
def Em (c:Int) (f:Fi):Prop:=0≤f.n∧f.n≤96∧(f.b.length:Int)=gG f.n∧∀b∈f.b,-1≤b∧b<c
theorem Fg {c:Int}:∀ {fs:List Fi} {seen:List Int},sM c seen fs=0↔(∀f∈fs,Em c f)∧(lH (fs.flatMap Fi.b)).Nodup∧∀b∈fs.flatMap Fi.b,0≤b→¬b∈seen
 | [],seen=>by simp[sM,lH]
 | f::r,seen=>by
  unfold sM
  by_cases g1:f.n<0∨96<f.n
  ·rw[if_pos g1];refine⟨fun h=>(by cases h),fun h => ?_⟩;have:=h.1 f jh;unfold Em at this;omega
  rw[if_neg g1]
  by_cases g2:(f.b.length:Int)≠gG f.n
  ·rw[if_pos g2];exact⟨fun h=>(by cases h),fun h=>absurd (h.1 f jh).2.2.1 g2⟩
  rw[if_neg g2,pO,yX]
  by_cases g3:kP c seen f.b≠0
  ·rw[if_pos g3];refine⟨fun h=>absurd h g3,fun h=>absurd (AX.2 ⟨(h.1 f jh).2.2.2,(xy.1 h.2.1).1,fun b hb=>h.2.2 b (uO _ hb)⟩) g3⟩
  rw[if_neg g3,Fg (fs:=r)];have g3':=AX.1 (qU.1 g3);constructor
  ·intro ⟨h1,h2,h3⟩;refine⟨fun x hx => ?_,xy.2 ⟨g3'.2.1,h2,fun a ha b hb e => ?_⟩,fun b hb h0 hs => ?_⟩
   ·rcases eT.1 hx with rfl|hx
    ·exact⟨by omega,by omega,qU.1 g2,g3'.1⟩
    ·exact h1 x hx
   ·subst e;exact h3 a (iQ.1 hb).1 (iQ.1 hb).2 (uP _ (iQ.1 ha).1)
   rcases iN.1 hb with hb|hb
   ·exact g3'.2.2 b hb h0 hs
   ·exact h3 b hb h0 (uO _ hs)
  intro ⟨h1,h2,h3⟩;obtain⟨n1,n2,n3⟩:=xy.1 h2;refine⟨fun x hx=>h1 x (iM _ hx),n2,fun b hb h0 hs => ?_⟩;rcases iN.1 hs with hs|hs
  ·exact h3 b (uP _ hb) h0 hs
  ·exact n3 b (iQ.2 ⟨hs,h0⟩) b (iQ.2 ⟨hb,h0⟩) rfl
theorem kZ {s:St}:aQ s=0↔(s.fs.length≤5∧0≤s.count∧s.count≤80)∧(∀f∈s.fs,Em s.count f)∧(lH (iA s)).Nodup:=by
 unfold aQ
 by_cases g:5<s.fs.length∨s.count<0∨80<s.count
 ·rw[if_pos g];exact⟨fun h=>(by cases h),fun h=>by omega⟩
 rw[if_neg g,Fg];exact⟨fun h=>⟨by omega,h.1,h.2.1⟩,fun h=>⟨h.2.1,h.2.2,fun b _ _ hm=>by cases hm⟩⟩
structure Ar where
 fr:Int
 en:Int
 rd:Bool
 wr:Bool
 sh:Bool
 fi:Int
 ba:Int
 deriving DecidableEq
def dx (a:Ar):Int:=if a.fr<0∨a.en≤a.fr∨64<a.en∨a.fi < -1∨5≤a.fi∨a.ba<0 then 3 else if (a.fi<0∧(a.ba≠0∨a.sh=true))∨0≤a.fi∧12-(a.en-a.fr)<a.ba then 7 else 0
def kT (a:Ar):Int:=if 0≤a.fi then a.ba+a.en-a.fr else 0
def dL (a b:Ar):Bool:=a.en==b.fr&&a.rd==b.rd&&a.wr==b.wr&&a.sh==b.sh&&a.fi==b.fi&&b.ba==kT a
def rG (a:Ar):Prop:=(0≤a.ba∧a.ba≤12)∧(0≤a.fr∧a.fr≤64)∧0≤a.en∧a.en≤64
theorem gu {a:Ar} (h:dx a=0):rG a∧a.fr<a.en∧-1≤a.fi∧a.fi<5∧(a.fi<0→a.ba=0∧a.sh=false)∧(0≤a.fi→a.ba≤12-(a.en-a.fr)):=by
 unfold dx at h;split at h
 ·omega
 rename_i h1;split at h
 ·omega
 rename_i h2;have hs:a.fi<0→a.ba=0∧a.sh=false:=fun hf=>⟨rE fun h=>h2 (.inl ⟨hf,.inl h⟩),by
  cases hsh:a.sh
  ·rfl
  ·exact absurd (.inl ⟨hf,.inr hsh⟩) h2⟩
 have hb:0≤a.fi→a.ba≤12-(a.en-a.fr):=fun hf=>by omega
 unfold rG;refine⟨⟨⟨by omega,?_⟩,by omega,by omega,by omega⟩,by omega,by omega,by omega,hs,hb⟩
 by_cases hf:a.fi<0
 ·have:=(hs hf).1;omega
 ·have:=hb (by omega);omega
def kY (p:Option Ar) (i:Nat):List Ar→Int × Int
 | []=>(0,0)
 | a::r=>if dx a≠0 then (dx a,i) else if (match p with | some q=>decide (a.fr<q.en)||dL q a | none=>false) then (2,i) else kY (some a) (i+1) r
def dI (l:List Ar):Int × Int:=if 16<l.length then (4,0) else kY none 0 l
def ul (l:List Ar) (k:Nat):Option Ar:=if k=0 then none else l[k-1]?
theorem Dj {l:List Ar} (hk:k<l.length):ul l (k+1)=some l[k]:=by simp[ul,hk]
def zu (p:Option Ar) (a:Ar):Bool:=match p with | some q=>decide (a.fr<q.en)||dL q a | none=>false
theorem nD (p:Option Ar) (i:Nat) (a:Ar) (r:List Ar):kY p i (a::r)=if dx a≠0 then (dx a,(i:Int)) else if zu p a then (2,(i:Int)) else kY (some a) (i+1) r:=rfl
theorem CY {l:List Ar} (hlt:k<l.length) (he:dx l[k]=0) (hno:zu (ul l k) l[k]=false):kY (ul l k) k (l.drop k)=kY (ul l (k+1)) (k+1) (l.drop (k+1)):=by
 rw[xw hlt,nD,if_neg (by rw[he];simp),hno,Dj hlt];rfl
theorem CW {l:List Ar} (hlt:k<l.length) (he:dx l[k]=0) (hno:zu (ul l k) l[k]=true):kY (ul l k) k (l.drop k)=(2,(k:Int)):=by
 rw[xw hlt,nD,if_neg (by rw[he];simp),hno];rfl
theorem PW {l:List Ar} (hlt:k<l.length) (he:dx l[k]≠0):kY (ul l k) k (l.drop k)=(dx l[k],(k:Int)):=by
 rw[xw hlt,nD,if_pos he]
theorem Sg {l:List Ar} {m:Nat} (hm:m+1<l.length):zu (ul l (m+1)) l[m+1]=(decide (l[m+1].fr<l[m].en)||dL l[m] l[m+1]):=by
 rw[Dj (show m<l.length by omega)];rfl
def uT (n:Int) (a:Ar):Bool:=decide (a.fr≤n)&&decide (n<a.en)
def eQ (l:List Ar) (n:Int):Int:=idx (uT n) l
def iT (b a:Ar):Bool:=decide (a.fr<b.en)&&decide (b.fr<a.en)
def kW (b a:Ar):Bool:=decide (b.fr<a.fr)
def NK (at_ n:Int):Int:=if at_<0∨n<1∨64≤at_∨64-at_<n then 3 else 0
def XU (a:Ar) (f:Int):Int:=if a.fr<f then f else a.fr
def Yi (a:Ar) (t:Int):Int:=if t<a.en then t else a.en
def IU (a:Ar) (f t:Int):Option Ar:=if Yi a t≤XU a f then none else some { a with fr:=XU a f,en:=Yi a t,ba:=if 0≤a.fi then a.ba+(XU a f-a.fr) else a.ba }
def zAr:Ar:=⟨0,0,false,false,false,0,0⟩
def nL (acc:List Ar) (a:Ar):List Ar:=match acc.getLast? with
 | some q=>if dL q a then acc.set (acc.length-1) { q with en:=a.en } else acc++[a]
 | none=>acc++[a]
def bO (l:List Ar):List Ar:=l.foldl nL []
theorem Am {l:List Ar} (hk:k<l.length):bO (l.take (k+1))=nL (bO (l.take k)) l[k]:=by
 have:l.take (k+1)=l.take k++[l[k]]:=by rw[mI,aN hk];rfl
 unfold bO;rw[this,xG];rfl
theorem IQ (l:List Ar):∀k,k≤l.length→(bO (l.take k)).length≤k
 | 0,_=>by simp[bO]
 | k+1,hk=>by
  rw[Am (show k<l.length by omega)];have:=IQ l k (by omega);unfold nL;split
  ·split<;>simp<;>omega
  ·simp;omega
theorem JS {l:List Ar} (h:∀a∈l,rG a):∀k,k≤l.length→∀a∈bO (l.take k),rG a
 | 0,_,a,ha=>by simp[bO] at ha
 | k+1,hk,a,ha=>by
  have ih:=JS h k (by omega);have hl:=h l[k] (eX _);rw[Am (show k<l.length by omega)] at ha;unfold nL at ha;split at ha
  ·rename_i q hq;have hfq:=ih q (List.mem_of_getLast? hq);split at ha
   ·rcases lF ha with ha|rfl
    ·exact ih a ha
    ·exact⟨hfq.1,hfq.2.1,hl.2.2⟩
   rcases iN.1 ha with ha|ha
   ·exact ih a ha
   ·rw[bF.1 ha];exact hl
  rcases iN.1 ha with ha|ha
  ·exact ih a ha
  ·rw[bF.1 ha];exact hl
theorem qO {l:List Ar} (h:(dI l).1=0):l.length≤16∧∀a∈l,dx a=0:=by
 unfold dI at h;split at h
 ·exact absurd h (by decide)
 refine⟨by omega,?_⟩;have key:∀(l:List Ar) (p:Option Ar) (i:Nat),(kY p i l).1=0→∀a∈l,dx a=0:=by
  intro l
  induction l with
  | nil=>intro p i _ a ha;cases ha
  | cons b r ih=>
   intro p i h a ha;rw[nD] at h;split at h
   ·rename_i hb;exact absurd h hb
   rename_i hb;split at h
   ·exact absurd (show (2:Int)=0 from h) (by decide)
   rcases eT.1 ha with rfl|ha
   ·exact rE hb
   ·exact ih _ _ h a ha
 exact key l none 0 h
def mM (n:Int):Int→List Ar→Int
 | t,[]=>t
 | t,a::r=>if n≤a.fr-t then t else mM n (if t<a.en then a.en else t) r
def rC (l:List Ar) (n:Int):Int:=if n<1∨64-mM n 0 l<n then -1 else mM n 0 l
theorem Jp (n t:Int) (a:Ar) (r:List Ar):mM n t (a::r)=if n≤a.fr-t then t else mM n (if t<a.en then a.en else t) r:=rfl
def GZ (l:List Ar) (x:Ar):Nat:=match l.findIdx? (kW x) with
 | some k=>k
 | none=>l.length
theorem UJ (l:List Ar) (x:Ar):GZ l x≤l.length:=by
 unfold GZ;split
 ·rename_i k hk;exact xh (tL.1 hk).1
 ·exact az _
def ed (l:List Ar) (x:Ar):List Ar:=l.take (GZ l x)++x::l.drop (GZ l x)
theorem zn (l:List Ar) (x:Ar):(ed l x).length=l.length+1:=by
 have:=UJ l x;unfold ed;simp;omega
theorem Tk {l:List Ar} {x y:Ar} (h:y∈ed l x):y=x∨y∈l:=by
 unfold ed at h;rcases iN.1 h with h|h
 ·exact .inr (Cg h)
 rcases eT.1 h with h|h
 ·exact .inl h
 ·exact .inr (List.mem_of_mem_drop h)
def mQ (l:List Ar) (x:Ar):Int:=if (dI l).1≠0 then (dI l).1 else if dx x≠0 then dx x else if l.any (iT x)=true then 6 else if 16<(bO (ed l x)).length then 4 else 0
def iP (l:List Ar) (x:Ar):List Ar:=if mQ l x≠0 then [] else bO (ed l x)
theorem Hf {l:List Ar} {x:Ar} {e:Int} (h:mQ l x=e) (he:e≠0):mQ l x=e∧iP l x=[]:=by
 refine⟨h,?_⟩;unfold iP;rw[if_pos (by rw[h];exact he)]
def xY (n:Nat):Int:=if 16<n then 4 else 0
def XL (s n:Int) (a:Ar):List Ar:=(IU a 0 s).toList++(IU a (s+n) 64).toList
def WQ (l:List Ar) (s n:Int):List Ar:=l.flatMap (XL s n)
def Sq (l:List Ar) (s n:Int):Int:=if (dI l).1≠0 then (dI l).1 else if NK s n≠0 then NK s n else xY (WQ l s n).length
def WT (l:List Ar) (s n:Int):List Ar:=if Sq l s n≠0 then [] else WQ l s n
def Xt (rd wr:Bool) (a:Ar):Ar:={ a with rd:=rd,wr:=wr }
def XF (s n:Int) (rd wr:Bool) (a:Ar):List Ar:=((IU a s (s+n)).map (Xt rd wr)).toList
def Ye (s n:Int) (rd wr:Bool) (a:Ar):List Ar:=(IU a 0 s).toList++XF s n rd wr a++(IU a (s+n) 64).toList
def Xk (l:List Ar) (s n:Int) (rd wr:Bool):List Ar:=l.flatMap (Ye s n rd wr)
def Xa (l:List Ar) (s n:Int):Bool:=(List.range n.toNat).any fun k:Nat=>decide (eQ l (s+k)<0)
def Tn (l:List Ar) (s n:Int) (rd wr:Bool):Int:=if (dI l).1≠0 then (dI l).1 else if NK s n≠0 then NK s n else if Xa l s n=true then 5 else xY (bO (Xk l s n rd wr)).length
def Xo (l:List Ar) (s n:Int) (rd wr:Bool):List Ar:=if Tn l s n rd wr≠0 then [] else bO (Xk l s n rd wr)
def aa:Ar:=⟨2,8,true,false,false,-1,0⟩
structure Pg where
 rd:Bool
 wr:Bool
 sh:Bool
 fi:Int
 pg:Int
 deriving DecidableEq
def vQ (a:Ar) (n:Int):Pg:=⟨a.rd,a.wr,a.sh,a.fi,if 0≤a.fi then a.ba+n-a.fr else 0⟩
def onA:List Ar→Int→Option Pg
 | [],_=>none
 | a::r,n=>if uT n a then some (vQ a n) else onA r n
theorem qI {a:Ar}:uT n a=true↔a.fr≤n∧n<a.en:=by unfold uT;simp
theorem jD (a:Ar) (r:List Ar) (n:Int):onA (a::r) n=if uT n a then some (vQ a n) else onA r n:=rfl
def srtF:Int→List Ar→Prop
 | _,[]=>True
 | lo,a::r=>dx a=0∧lo≤a.fr∧srtF a.en r
theorem on_low:∀ {l:List Ar} {lo n:Int},srtF lo l→n<lo→onA l n=none
 | [],_,_,_,_=>rfl
 | a::r,lo,n,h,hn=>by have h1:=h.2.1;have h2:=(gu h.1).2.1;rw[jD,if_neg (by rw[qI];omega)];exact on_low h.2.2 (by omega)
def okF (p:Option Ar):List Ar→Prop
 | []=>True
 | a::r=>dx a=0∧zu p a=false∧okF (some a) r
theorem JC {q a:Ar}:zu (some q) a=false↔q.en≤a.fr∧dL q a=false:=by
 unfold zu;simp
theorem okF_srt:∀ {l:List Ar} {q:Ar},okF (some q) l→srtF q.en l
 | [],_,_=>trivial
 | a::r,q,h=>⟨h.1,(JC.1 h.2.1).1,okF_srt h.2.2⟩
theorem Ee {l:List Ar} (h:okF none l):srtF 0 l:=by
 match l,h with
 | [],_=>trivial
 | a::r,h=>exact⟨h.1,by have:=(gu h.1).1.2.1.1;exact this,okF_srt h.2.2⟩
theorem wrongAt_iff:∀ {l:List Ar} {p:Option Ar} {i:Nat},(kY p i l).1=0↔okF p l
 | [],_,_=>⟨fun _=>trivial,fun _=>rfl⟩
 | a::r,p,i=>by
  rw[nD]
  by_cases h:dx a=0
  ·rw[if_neg (by rw[h];simp)];cases hb:zu p a
   ·rw[if_neg (by simp),wrongAt_iff];exact⟨fun h2=>⟨h,hb,h2⟩,fun h2=>h2.2.2⟩
   rw[if_pos rfl];refine⟨fun h2=>absurd (show (2:Int)=0 from h2) (by decide),fun h2 => ?_⟩;have h3:=h2.2.1;rw[hb] at h3;cases h3
  rw[if_pos h];exact⟨fun h2=>absurd h2 h,fun h2=>absurd h2.1 h⟩
theorem ou {l:List Ar}:(dI l).1=0↔l.length≤16∧okF none l:=by
 unfold dI
 by_cases h:16<l.length
 ·rw[if_pos h];exact⟨fun h2=>absurd (show (4:Int)=0 from h2) (by decide),fun h2=>by omega⟩
 rw[if_neg h,wrongAt_iff];exact⟨fun h2=>⟨by omega,h2⟩,fun h2=>h2.2⟩
theorem AR {q a:Ar}:dL q a=true↔q.en=a.fr∧q.rd=a.rd∧q.wr=a.wr∧q.sh=a.sh∧q.fi=a.fi∧a.ba=kT q:=by
 unfold dL;simp[and_assoc]
theorem SV {q a:Ar} (h:dL q a=true) (n:Int):vQ a n=vQ q n:=by
 obtain⟨h1,h2,h3,h4,h5,h6⟩:=AR.1 h;unfold vQ kT at *
 rw[←h2,←h3,←h4,←h5];split
 ·rename_i hf;rw[h6,if_pos hf];congr 1;omega
 ·rfl
def vk (q:Ar):List Ar→List Ar
 | []=>[q]
 | a::r=>if dL q a then vk { q with en:=a.en } r else q::vk a r
theorem Kb (init:List Ar) (q a:Ar):nL (init++[q]) a=if dL q a then init++[{ q with en:=a.en }] else init++[q]++[a]:=by
 unfold nL;rw[List.getLast?_concat];simp only[];split
 ·simp
 ·rfl
theorem tidy_go:∀(r:List Ar) (init:List Ar) (q:Ar),r.foldl nL (init++[q])=init++vk q r
 | [],init,q=>rfl
 | a::r,init,q=>by
  rw[sH,Kb];unfold vk;split
  ·exact tidy_go r init _
  ·rw[tidy_go r (init++[q]) a,nM];rfl
theorem DV (a:Ar) (r:List Ar):bO (a::r)=vk a r:=by
 unfold bO;rw[sH];exact tidy_go r [] a
theorem Bn {q a:Ar} (hq:dx q=0) (ha:dx a=0) (h:dL q a=true):dx { q with en:=a.en }=0:=by
 obtain⟨h1,h2,h3,h4,h5,h6⟩:=AR.1 h;have eq:=gu hq;have ea:=gu ha;unfold rG at eq ea;unfold dx;rw[if_neg (by simp only[];omega),if_neg];simp only[];rintro (⟨k1,k2⟩|⟨k1,k2⟩)
 ·have:=eq.2.2.2.2.1 k1;rcases k2 with k2|k2
  ·exact k2 this.1
  ·rw[this.2] at k2;cases k2
 have h7:=ea.2.2.2.2.2 (by omega);unfold kT at h6;rw[if_pos k1] at h6;omega
theorem TA {q a:Ar} {r:List Ar} (hq:dx q=0) (ha:dx a=0) (h:dL q a=true) (n:Int):onA ({ q with en:=a.en }::r) n=onA (q::a::r) n:=by
 have hp:=SV h n;obtain⟨h1,_⟩:=AR.1 h;have h2:=(gu hq).2.1;have h3:=(gu ha).2.1;rw[jD,jD,jD];have b:vQ { q with en:=a.en } n=vQ q n:=rfl
 by_cases c1:uT n q=true
 ·rw[if_pos c1,if_pos (by rw[qI] at c1 ⊢; simp only[];omega),b]
 rw[if_neg c1]
 by_cases c2:uT n a=true
 ·rw[if_pos c2,if_pos (by rw[qI] at c2 ⊢; simp only[];omega),b,hp]
 rw[if_neg c2,if_neg];rw[qI] at c1 c2 ⊢;simp only[];omega
theorem tdOn:∀ {r:List Ar} {q:Ar},dx q=0→srtF q.en r→∀n,onA (vk q r) n=onA (q::r) n
 | [],q,_,_,n=>rfl
 | a::r,q,hq,h,n=>by
  unfold vk;split
  ·rename_i hj;rw[tdOn (Bn hq h.1 hj) (by simpa using h.2.2) n,TA hq h.1 hj]
  ·rw[jD,tdOn h.1 h.2.2 n,←jD]
theorem tdOk:∀ {r:List Ar} {q:Ar} {p:Option Ar},dx q=0→srtF q.en r→zu p q=false→okF p (vk q r)
 | [],q,p,hq,_,hb=>⟨hq,hb,trivial⟩
 | a::r,q,p,hq,h,hb=>by
  unfold vk;split
  ·rename_i hj;refine tdOk (Bn hq h.1 hj) (by simpa using h.2.2) ?_;cases p with
   | none=>rfl
   | some z=>exact hb
  rename_i hj;exact⟨hq,hb,tdOk h.1 h.2.2 (JC.2 ⟨h.2.1,by simpa using hj⟩)⟩
theorem Uw {l:List Ar} (h:srtF lo l) (n:Int):onA (bO l) n=onA l n:=by
 match l,h with
 | [],_=>rfl
 | a::r,h=>rw[DV,tdOn h.1 h.2.2]
theorem Uo {l:List Ar} (h:srtF lo l):okF none (bO l):=by
 match l,h with
 | [],_=>trivial
 | a::r,h=>rw[DV];exact tdOk h.1 h.2.2 rfl
def MW (x:Ar):List Ar→List Ar
 | []=>[x]
 | a::r=>if x.fr<a.fr then x::a::r else a::MW x r
theorem NS (x:Ar):∀l:List Ar,ed l x=MW x l
 | []=>rfl
 | a::r=>by
  have ih:=NS x r;unfold ed GZ at ih ⊢;unfold MW;rw[zM]
  by_cases h:x.fr<a.fr
  ·rw[if_pos h,if_pos (show kW x a=true from decide_eq_true h)];rfl
  rw[if_neg h,if_neg (show ¬kW x a=true by unfold kW;simpa using h)];cases hq:r.findIdx? (kW x) with
  | none=>rw[hq] at ih;simp only[Option.map_none] at *; rw[←ih];simp
  | some k=>rw[hq] at ih;simp only[xk] at *; rw[←ih];simp
theorem Np {x:Ar} (hx:dx x=0) (n:Int):∀ {l:List Ar} {lo:Int},srtF lo l→(∀a∈l,iT x a=false)→onA (MW x l) n=if uT n x then some (vQ x n) else onA l n
 | [],_,_,_=>rfl
 | a::r,lo,h,hm=>by
  unfold MW;split
  ·rfl
  rename_i hlt;rw[jD,jD,Np hx n h.2.2 (fun b hb=>hm b (iM _ hb))]
  by_cases c1:uT n a=true
  ·rw[if_pos c1,if_pos c1];rw[if_neg];rw[qI] at c1 ⊢;have hm1:=hm a jh;unfold iT at hm1;have h2:=(gu hx).2.1;have h3:=(gu h.1).2.1;simp only[Ct,decide_eq_false_iff_not] at hm1;omega
  ·rw[if_neg c1,if_neg c1]
theorem KA {x:Ar} (hx:dx x=0):∀ {l:List Ar} {lo:Int},srtF lo l→lo≤x.fr→(∀a∈l,iT x a=false)→srtF lo (MW x l)
 | [],lo,_,hl,_=>⟨hx,hl,trivial⟩
 | a::r,lo,h,hl,hm=>by
  have hm1:=hm a jh;unfold iT at hm1;have h2:=(gu hx).2.1;have h3:=(gu h.1).2.1;simp only[Ct,decide_eq_false_iff_not] at hm1;unfold MW;split
  ·exact⟨hx,hl,h.1,by omega,h.2.2⟩
  rename_i hlt;exact⟨h.1,h.2.1,KA hx h.2.2 (by omega) (fun b hb=>hm b (iM _ hb))⟩
theorem toList_map {α β:Type} (o:Option α) (f:α→β):(o.map f).toList=o.toList.map f:=by cases o<;>rfl
theorem yQ (l:List Ar) (n:Int):(0≤eQ l n)↔onA l n≠none:=by
 have h:=qH (uT n) l;have h2:l.any (uT n)=true↔onA l n≠none:=by
  induction l with
  | nil=>simp[onA]
  | cons a r ih=>rw[List.any_cons,jD];cases uT n a<;>simp[ih (qH _ _)]
 rw[←h2,←h,decide_eq_true_eq];exact zN
def f0:Nat→Option Pg:=fun _=>none
theorem DT {e:En} (h:gV e=0):oz e=MU e:=by
 unfold gV at h;unfold oz MU;split at h
 ·cases h
 rename_i h1;rw[oJ];simp;omega
theorem zl {h:List En} (h0:mf h=0):∀e∈h,gV e=0:=by
 intro e he;obtain⟨i,hi,rfl⟩:=jG.1 he;have hl:=qL h0
 by_cases hne:∀j (hj:j<h.length),gV h[j]=0
 ·exact hne i hi
 exfalso;have hf:firstE (h.map gV)≠0:=by
  intro hf;apply hne;intro j hj;have key:∀(l:List Int),firstE l=0→∀x∈l,x=0:=by
   intro l
   induction l with
   | nil=>intro _ x hx;cases hx
   | cons y r ih=>
    intro h x hx
    by_cases e:y=0
    ·simp only[firstE,e,if_true] at h;rcases eT.1 hx with rfl|hx
     ·exact e
     ·exact ih h x hx
    ·simp only[firstE,e,if_false] at h
  exact key _ hf _ (fF.2 ⟨h[j],eX hj,rfl⟩)
 unfold mf at h0;rw[if_neg (by omega),if_pos hf] at h0;exact hf h0
theorem Fv {t:Tb} (hi:i<8) (h:mf t[i]=0):mo (fC t) i=if t[i].length=0 then List.replicate 8 zEn else t[i]:=by
 have hl:=qL h;apply pM;intro r;unfold mo fC;rw[kF]
 by_cases hr:r<8
 ·rw[if_pos hr,pQ,jd,wX (by omega)];simp only[xk];rcases hl with hl|hl
  ·rw[if_pos hl,sP,if_pos hr,FJ hi hr hl]
  ·rw[if_neg (by omega),aN (by omega),PY hi hr hl (aN (by omega))]
 rw[if_neg hr,eU];split
 ·simp;omega
 ·omega
theorem GL {h:List En} (h0:∀e∈h,gV e=0):h.any MU=h.any oz:=by
 rw[oJ];simp only[jU];constructor
 ·rintro⟨e,he,h1⟩;exact⟨e,he,by rw[DT (h0 e he)];exact h1⟩
 ·rintro⟨e,he,h1⟩;exact⟨e,he,by rw[←DT (h0 e he)];exact h1⟩
theorem Tg {h:List En} (h0:mf h=0) (hl:h.length≠0):h.any oz=true:=by
 have h1:=AB (qL h0) (fun i hi=>zl h0 _ (eX hi));rw[h0] at h1
 by_cases hh:h.any (fun e=>decide (e.k≠0))=false
 ·rw[if_pos ⟨by omega,hh⟩] at h1;cases h1
 ·simpa[oz] using hh
theorem BA {t:Tb} (hi:i<8) (h:mf t[i]=0):tJ (fC t) i=t[i]:=by
 unfold tJ;rw[Fv hi h]
 by_cases hl:t[i].length=0
 ·rw[if_pos hl];have:t[i]=[]:=kJ hl;rw[this];decide
 rw[if_neg hl,GL (zl h),Tg h hl];rfl
theorem Dt {t:Tb} {e:En} (h:setE t n e=0):setT t n e=rJ ((fC t).set n.toNat e):=by
 have h0:dR t=0:=by
  unfold setE at h
  by_cases hw:dR t=0
  ·exact hw
  ·rw[if_pos hw] at h;exact h
 have hn:0≤n∧n<64:=by
  unfold setE at h;rw[if_neg (by rw[h0];simp)] at h
  by_cases hn:n<0∨64≤n
  ·rw[if_pos hn] at h;cases h
  ·omega
 have he:gV e=0:=by unfold setE at h;rwa [if_neg (by rw[h0];simp),if_neg (by omega)] at h
 obtain⟨q,r,hq,hr,a,_,_⟩:=xD hn;have hN:n.toNat=8*q+r:=by omega
 rw[MZ h hq hr a,hN];apply BL;intro i hi;simp only[rJ,nH];have hh:=mW h0 i hi
 by_cases ei:i=q
 ·subst ei;rw[Vector.getElem_set_self];have hp:mo ((fC t).set (8*i+r) e) i=(mo (fC t) i).set r e:=by
   apply pM;intro k;have b:(fC t).length=64:=by simp[fC]
   by_cases hk:k<8
   ·unfold mo;rw[kF,if_pos hk,pQ]
    by_cases ek:k=r
    ·subst ek;rw[uZ (by omega),uZ (by simp;omega)]
    ·rw[sG (by omega),sG (fun h=>ek h.symm),kF,if_pos hk,pQ]
   ·rw[eU (by simp[mo];omega),eU (by simp[mo];omega)]
  unfold tJ;rw[hp,Fv hi hh];unfold setH Vz;rw[GL];intro x hx;rcases lF hx with hx|rfl
  ·split at hx
   ·rw[(BQ.1 hx).2];rfl
   ·exact zl hh x hx
  ·exact he
 rw[Gh hq hi (fun h=>ei h.symm)];have hp:mo ((fC t).set (8*q+r) e) i=mo (fC t) i:=by
  apply pM;intro k;unfold mo;rw[kF,kF]
  by_cases hk:k<8
  ·rw[if_pos hk,if_pos hk,pQ,pQ,sG (by omega)]
  ·rw[if_neg hk,if_neg hk]
 have:tJ ((fC t).set (8*q+r) e) i=tJ (fC t) i:=by unfold tJ;rw[hp]
 rw[this,BA hi hh]
theorem Oc {m:List Int} (hlm:l.length=m.length) (h:∀i (hi:i<l.length),l[i]=m[i]'(by omega)):(l==m)=true:=by
 rw[beq_iff_eq];exact rA hlm fun i h1 h2=>h i h1
theorem Qq {m:List Int} (k:Nat) (h1:k<l.length) (h2:k<m.length) (h:l[k]≠m[k]):(l==m)=false:=by
 rw[beq_eq_false_iff_ne];rintro rfl;exact h rfl
theorem yU (t:Tb) (k:Nat) (h:k<64):(fC t)[k]?=some (dB t (k:Int)):=by
 unfold fC;simp[h]
theorem mG (t:Tb):(fC t).length=64:=by simp[fC]
theorem wB {t:Tb} (h:dR t=0) (n:Int):gV (dB t n)=0:=by
 by_cases hn:0≤n∧n<64
 ·obtain⟨q,r,hq,hr,rfl,_,_⟩:=xD hn;rw[yT hq hr];split
  ·rename_i hl;rw[bJ,aN (by omega)];exact zl (mW h q hq) _ (eX _)
  ·rfl
 ·rw[rF (by omega)];rfl
theorem Ta {e:En} (h:gV e=0) (h2:MU e=false):e=zEn:=by
 have h3:=DT h;rw[h2] at h3;have hk:e.k=0:=by simpa[oz] using h3
 unfold gV at h;obtain⟨k,n,w⟩:=e;simp only at hk;subst hk;simp at h
 by_cases h4:n<0∨60≤n
 ·rw[if_pos h4] at h;cases h
 rw[if_neg h4] at h
 by_cases h5:¬n=0∨w=true
 ·rw[if_pos h5] at h;cases h
 simp only[not_or,qU,Bool.not_eq_true] at h5;obtain⟨rfl,rfl⟩:=h5;rfl
theorem CQ {l:List En} {x:En} (h:x∈mo l i):x∈l:=List.mem_of_mem_drop (Cg h)
theorem Ic {l:List En} (h:∀x∈l,gV x=0) (hl:l.length=64) (hi:i<8):mf (tJ l i)=0:=by
 unfold tJ
 by_cases hp:(mo l i).any MU=true
 ·rw[if_pos hp];have a:(mo l i).length=8:=Kz hl hi (by omega);rw[AB (.inr a) (fun j hj=>h _ (CQ (eX hj))),if_neg];rintro⟨_,h2⟩;have h3:=GL (h:=mo l i) (fun x hx=>h x (CQ hx));rw[hp] at h3;have h4:(mo l i).any oz=false:=h2;rw[h4] at h3;cases h3
 ·rw[if_neg hp];rfl
theorem Ji {l:List En} (h:∀x∈l,gV x=0) (hl:l.length=64):dR (rJ l)=0:=
 Bq fun i hi=>by simp only[rJ,nH];exact Ic h hl hi
theorem Dx {l:List En} (h:∀x∈l,gV x=0) (hl:l.length=64) {n:Nat} (hn:n<64):dB (rJ l) (n:Int)=l[n]'(by omega):=by
 obtain⟨q,r,hq,hr,d,_,_⟩:=xD (n:=(n:Int)) (by omega);have c : n=8*q+r:=by omega
 subst c;rw[yT hq hr];simp only[rJ,nH];unfold tJ;have b:(mo l q).length=8:=Kz hl hq (by omega);have a:(mo l q)[r]'(by omega)=l[8*q+r]'(by omega):=by simp[mo]
 by_cases hp:(mo l q).any MU=true
 ·simp only[if_pos hp,if_pos b];rw[bJ,aN (by omega),←a];rfl
 simp only[if_neg hp];rw[if_neg (by decide),←a];symm;refine Ta (h _ (CQ (eX _))) ?_;simp only[jU,not_exists,not_and,Bool.not_eq_true] at hp;exact hp _ (eX _)
theorem DF {t:Tb} (h:dR t=0):rJ (fC t)=t:=by
 apply BL;intro i hi;simp only[rJ,nH];exact BA hi (mW h i hi)
theorem LA {l:List En} (h:∀x∈l,gV x=0) (hl:l.length=64):fC (rJ l)=l:=by
 apply rA
 ·rw[mG,hl]
 intro i h1 h2;have:=yU (rJ l) i (by omega);rw[Dx h hl (by omega),aN h1] at this;exact aT this
theorem Si {t:Tb} (h:dR t=0):∀x∈fC t,gV x=0:=by
 intro x hx;obtain⟨i,hi,rfl⟩:=fF.1 hx;exact wB h _
theorem vz {t:Tb} {e:En} (h:setE t n e=0):dR t=0∧(0≤n∧n<64)∧gV e=0:=by
 unfold setE at h
 by_cases hw:dR t=0
 ·rw[if_neg (by rw[hw];simp)] at h
  by_cases hn:n<0∨64≤n
  ·rw[if_pos hn] at h;cases h
  rw[if_neg hn] at h;exact⟨hw,by omega,h⟩
 ·rw[if_pos hw] at h;exact absurd h hw
theorem BP {t:Tb} {e:En} (h1:dR t=0) (h2:0≤n∧n<64) (h3:gV e=0):setE t n e=0:=by
 unfold setE;rw[if_neg (by rw[h1];simp),if_neg (by omega),h3]
theorem Ia {t:Tb} {n:Nat} {e:En} (h1:dR t=0) (h3:gV e=0):∀x∈(fC t).set n e,gV x=0:=by
 intro x hx;rcases lF hx with hx|rfl
 ·exact Si h1 x hx
 ·exact h3
theorem rz {t:Tb} {e:En} (h:setE t n e=0):dR (setT t n e)=0:=by
 obtain⟨h1,h2,h3⟩:=vz h;rw[Dt h];exact Ji (Ia h1 h3) (by rw[cO,mG])
theorem zF {t:Tb} {e:En} (h:setE t n e=0) (k:Int):dB (setT t n e) k=if k=n then e else dB t k:=by
 obtain⟨h1,h2,h3⟩:=vz h;rw[Dt h]
 by_cases hk:0≤k∧k<64
 ·obtain⟨j,rfl⟩:=lJ hk.1;rw[Dx (Ia h1 h3) (by rw[cO,mG]) (by omega)];rw[BV]
  by_cases e0:(j:Int)=n
  ·rw[if_pos (by omega),if_pos e0]
  rw[if_neg (by omega),if_neg e0];have:=yU t j (by omega);rw[aN (by rw[mG];omega)] at this;exact aT this
 ·rw[if_neg (by omega),rF (by omega),rF (by omega)]
theorem IL (t:Tb):∀n∈aM t,0≤n∧n<64:=by
 intro n hn;unfold aM jC at hn;obtain⟨m,hm,rfl⟩:=fF.1 hn;have:=bX.1 (qw.1 hm).1;omega
theorem vT {t:Tb} (h:dR t=0):Ay t:=fun k hk=>by
 have:=qL (mW h k hk);omega
theorem zTb_right:dR zTb=0:=by decide
theorem Ij {m:Mem} {f:Fr} (hw:bI m=0) (hf:bU f=0):bI ⟨m.fs.set k f,m.hand⟩=0:=by
 obtain⟨h1,h2,h3,h4⟩:=(dN m).1 hw;rw[dN];simp only[cO];refine⟨h1,fun g hg => ?_,h3,h4⟩;rcases lF hg with h|rfl
 ·exact h2 g h
 ·exact hf
theorem Df (f:Fr):bU f=0∨bU f=3∨bU f=7:=by
 unfold bU;split
 ·exact .inr (.inl rfl)
 split
 ·exact .inr (.inr rfl)
 ·exact .inl rfl
theorem firstEf_mem:∀l:List Fr,firstEf l=0∨firstEf l=3∨firstEf l=7
 | [] => .inl rfl
 | f::r=>by
  unfold firstEf;split
  ·exact Df f
  ·exact firstEf_mem r
theorem MR (m:Mem):bI m=0∨bI m=3∨bI m=4∨bI m=7:=by
 unfold bI;have:=firstEf_mem m.fs;split
 ·omega
 split
 ·omega
 ·split<;>omega
theorem OC {l:List Fr} (h:vL l=some k):∃hk:k<l.length,l[k].r=0:=by
 unfold vL at h;rw[tL] at h;obtain⟨hk,h1,_⟩:=h;exact⟨hk,by simpa using h1⟩
theorem Sd {l:List Fr} (h:vL l=none):fB l=0:=by
 unfold vL at h;rw[wZ] at h;unfold fB;rw[List.length_eq_zero_iff,List.filter_eq_nil_iff];exact fun f hf=>by simpa using h f hf
theorem Pp {m:Mem} {p:Page} (h:gN m p file index=10):fB m.fs=0:=by
 unfold gN at h;have h1:=MR m;have h2:=Df (bz p file index);split at h
 ·omega
 split at h
 ·omega
 split at h
 ·exact Sd ‹_›
 ·cases h
theorem Vl {m:Mem} {p:Page} (h:gN m p file index=0):bI m=0∧bU (bz p file index)=0∧∃k,∃hk:k<m.fs.length,m.fs[k].r=0∧gY m p file index=k∧eZ m p file index=⟨m.fs.set k (bz p file index),m.hand⟩:=by
 have h0:=h;unfold gN at h;split at h
 ·exact absurd h ‹_›
 rename_i h1;split at h
 ·exact absurd h ‹_›
 rename_i h2;split at h
 ·cases h
 rename_i h3;cases hf:vL m.fs with
 | none=>exact absurd hf h3
 | some k=>
  obtain⟨hk,hr⟩:=OC hf;have hK:gY m p file index=k:=by unfold gY;rw[if_pos h0,hf];rfl
  exact⟨by omega,by omega,k,hk,hr,hK,by unfold eZ;rw[if_pos h0,hK]⟩
theorem NC {f:Fr} (h:bU f=0) (hr:f.r=0):f=frZ:=by
 obtain⟨⟨_,_,h1,_,_,_⟩,h2,h3⟩:=(dJ f).1 h;obtain⟨h4,h5,h6,h7⟩:=h2 hr;have h8:=h3 h6;have h9:f.f = -1:=by omega
 obtain⟨p,r,u,d,ff,i⟩:=f;simp only at *
 subst hr h4 h5 h7 h8 h9;rfl
theorem CP (h:dH l=0):∀x∈l,xV x=false:=by
 unfold dH at h;split at h
 ·omega
 split at h
 ·omega
 rename_i h1;intro x hx;have:=uJ.1 (by simpa using h1) x hx;simpa using this
theorem FU (hl:l.length≤60) (h:∀x∈l,xV x=false):dH l=0:=by
 unfold dH;rw[if_neg (by omega),if_neg];simp only[jU,not_exists,not_and];intro x hx;simp[h x hx]
theorem CR (k:Nat) (x:Int) (h:dH l=0) (h0:0≤x) (h1:x≤1000):dH (l.set k x)=0:=by
 refine FU (by rw[cO];exact kM h) fun y hy => ?_;rcases lF hy with hm|rfl
 ·exact CP h _ hm
 ·simp[xV];omega
theorem FB {α:Type} {l:List α} {x:α} (h:l[i]?=some x) (y:α):l=l.take i++x::l.drop (i+1)∧l.set i y=l.take i++y::l.drop (i+1):=by
 obtain⟨hi,rfl⟩:=dC.1 h;refine⟨?_,?_⟩
 ·rw[List.getElem_cons_drop,qp]
 ·rw[List.set_eq_take_append_cons_drop,if_pos hi]
theorem Rx {x:Int} (h:x<0) (l:List Int):lH (x::l)=lH l:=by unfold lH;rw[GR,if_neg (by simp;omega)]
theorem GU {x:Int} (h:0≤x) (l:List Int):lH (x::l)=x::lH l:=by unfold lH;rw[GR,if_pos (by simpa using h)]
theorem JQ {s:St} {f:Fi} (hf:s.fs[F]?=some f) {v:Int} (hv:f.b[I]?=some v) (hn:v<0) {X:Int} (hX:0≤X) (n c:Int) :
  (lH (iA ⟨s.fs.set F ⟨n,f.b.set I X⟩,c⟩)).Perm (X::lH (iA s)):=by
 have e1:=FB hf ⟨n,f.b.set I X⟩;have e2:=FB hv X;unfold iA;show (lH ((s.fs.set F ⟨n,f.b.set I X⟩).flatMap Fi.b)).Perm (X::lH (s.fs.flatMap Fi.b));rw[e1.2]
 conv=>rhs;rw[e1.1]
 simp only[gW,pO,yX];rw[e2.2]
 conv=>rhs;rw[show f.b=f.b.take I++v::f.b.drop (I+1) from e2.1]
 simp only[yX,Rx hn,GU hX];refine List.Perm.trans ?_ List.perm_middle;refine List.Perm.append_left _ ?_;rw[nM,nM];exact List.perm_middle
theorem EY {s:St} (h:0≤fA s):fA s<s.count∧jE s (fA s)=false:=by
 unfold fA at h ⊢;cases hf:(List.range s.count.toNat).find? (fun b:Nat => !jE s b) with
 | none=>rw[hf] at h;simp at h
 | some b=>
  have h1:=bX.1 (uG hf);have h2:=rX hf;simp only;refine⟨by omega,by simpa using h2⟩
theorem Mv {s:St} (h:fA s<0) (b:Nat) (hb:(b:Int)<s.count):jE s b=true:=by
 unfold fA at h;cases hf:(List.range s.count.toNat).find? (fun b:Nat => !jE s b) with
 | none=>
  have:=pW.1 hf b (bX.2 (by omega));simpa using this
 | some c=>
  rw[hf] at h;simp only at h;omega
theorem Bi {s:St} {k i:Int} (h:cB s k i=0):aQ s=0∧∃(F I:Nat) (f:Fi) (v:Int),k=F∧i=I∧s.fs[F]?=some f∧f.b[I]?=some v∧aI s k=f∧bD s k i=v ∧
  ((0≤v∧dO s k i=s∧dW s k i=v)∨(v<0∧0≤fA s∧dW s k i=fA s∧dO s k i=⟨s.fs.set F ⟨f.n,f.b.set I (fA s)⟩,s.count⟩)):=by
 have h':=h;unfold cB at h'
 by_cases g1:aQ s≠0
 ·rw[if_pos g1] at h'; exact absurd h' g1
 rw[if_neg g1] at h'
 by_cases g2:k<0∨(s.fs.length:Int)≤k
 ·rw[if_pos g2] at h'; cases h'
 rw[if_neg g2] at h'
 by_cases g3:i<0∨((aI s k).b.length:Int)≤i
 ·rw[if_pos g3] at h'; cases h'
 rw[if_neg g3] at h'
 by_cases g4:bD s k i<0∧fA s<0
 ·rw[if_pos g4] at h'; cases h'
 obtain⟨F,rfl⟩:=lJ (show 0≤k by omega);obtain⟨I,rfl⟩:=lJ (show 0≤i by omega);have hF:F<s.fs.length:=by omega
 have a:aI s F=s.fs[F]:=by unfold aI;rw[if_pos (by omega),bG,bJ,aN hF];rfl
 rw[a] at g3;have hI:I<s.fs[F].b.length:=by omega
 have c:bD s F I=s.fs[F].b[I]:=by unfold bD;rw[a,bG,bJ,aN hI];rfl
 refine⟨qU.1 g1,F,I,s.fs[F],s.fs[F].b[I],rfl,rfl,aN hF,aN hI,a,c,?_⟩;have hS:dO s F I=if bD s F I<0 then vU s F ⟨(aI s F).n,(aI s F).b.set ((I:Int)).toNat (fA s)⟩ else s:=by unfold dO;rw[if_neg (by rw[h];simp)]
 have hN:dW s F I=if bD s F I<0 then fA s else bD s F I:=by unfold dW;rw[if_neg (by rw[h];simp)]
 rw[hS,hN,c];rw[c] at g4
 by_cases g5:s.fs[F].b[I]<0
 ·refine .inr ⟨g5,by omega,if_pos g5,?_⟩;rw[if_pos g5,a,bG];unfold vU;rw[bG]
 ·exact .inl ⟨by omega,if_neg g5,if_neg g5⟩
theorem NU {s:St} {x:Int} (h:jE s x=false):¬x∈iA s:=by
 unfold jE at h;simpa using h
theorem Qv {s:St} {f:Fi} {v:Int} (h:aQ s=0) (hf:s.fs[F]?=some f) (hv:f.b[I]?=some v) (h0:0≤v):cB s F I=0∧dW s F I=v∧dO s F I=s:=by
 have hF:=(dC.1 hf).1;have hI:=(dC.1 hv).1;have c:aI s F=f:=by unfold aI;rw[if_pos (by omega),bG,bJ,hf];rfl
 have a:bD s F I=v:=by unfold bD;rw[c,bG,bJ,hv];rfl
 have hE:cB s F I=0:=by unfold cB;rw[if_neg (by rw[h];simp),if_neg (by omega),c,if_neg (by omega),a,if_neg (by omega)]
 refine⟨hE,?_,?_⟩
 ·unfold dW;rw[if_neg (by rw[hE];simp),a,if_neg (by omega)]
 ·unfold dO;rw[if_neg (by rw[hE];simp),a,if_neg (by omega)]
theorem BD {s:St} (h:aQ s=0) {f:Fi} {v:Int} (hf:s.fs[F]?=some f) (hv:f.b[I]?=some v) (hn:v<0) {X:Int} (hX:0≤X) (hXc:X<s.count) (hu:jE s X=false) :
  aQ ⟨s.fs.set F ⟨f.n,f.b.set I X⟩,s.count⟩=0:=by
 obtain⟨h1,h2,h3⟩:=kZ.1 h;have a:=h2 f (dn hf);refine kZ.2 ⟨by simpa using h1,fun g hg => ?_,?_⟩
 ·rcases lF hg with hg|rfl
  ·exact h2 g hg
  refine⟨a.1,a.2.1,by simpa using a.2.2.1,fun b hb => ?_⟩;rcases lF hb with hb|rfl
  ·exact a.2.2.2 b hb
  show -1≤b∧b<s.count;omega
 ·exact (JQ hf hv hn hX f.n s.count).nodup_iff.2 (qK.2 ⟨fun hm=>NU hu (iQ.1 hm).1,h3⟩)
theorem Ka {s:St} {k i:Int} (h:cB s k i=0):aQ (dO s k i)=0∧cB (dO s k i) k i=0∧dW (dO s k i) k i=dW s k i∧dO (dO s k i) k i=dO s k i ∧
  ((0≤bD s k i∧dO s k i=s)∨(bD s k i<0∧jE s (dW s k i)=false∧rP (dO s k i)=rP s-1)):=by
 obtain⟨hw,F,I,f,v,rfl,rfl,hf,hv,e,c,hc⟩:=Bi h;rcases hc with ⟨h0,hS,hN⟩|⟨hn,h0,hN,hS⟩
 ·rw[hS];exact⟨hw,h,rfl,hS,.inl ⟨by rw[c];exact h0,rfl⟩⟩
 obtain⟨d,hu⟩:=EY h0;have a:=BD hw hf hv hn h0 d hu;have hF:=(dC.1 hf).1;have hI:=(dC.1 hv).1;have hb:=Qv (F:=F) (I:=I) (f:=⟨f.n,f.b.set I (fA s)⟩) (v:=fA s) a (uZ hF) (uZ hI) h0;rw[hS,hN];refine⟨a,hb.1,hb.2.1,hb.2.2,.inr ⟨by rw[c];exact hn,hu,?_⟩⟩;have hp:=(JQ hf hv hn h0 f.n s.count).length_eq;unfold rP;show s.count-((lH _).length:Int)=s.count-((lH _).length:Int)-1;rw[hp,mR];omega
theorem PR (l:List Int):UW l=(lH l).length:=rfl
theorem all_once:∀(c:Nat) (l:List Int),l.Nodup→(∀x∈l,0≤x∧x<(c:Int))→(∀b:Nat,b<c→(b:Int)∈l)→l.length=c
 | 0,l,_,h,_=>by
  match l with
  | []=>rfl
  | x::r=>have:=h x jh;omega
 | c+1,l,hn,h,ha=>by
  have hm:=ha c (by omega);have hl:=List.length_erase_of_mem hm;have hpos:=List.length_pos_of_mem hm;have:=all_once c (l.erase (c:Int)) (hn.erase _) (fun x hx=>by
   have h1:=h x (List.mem_of_mem_erase hx);have h2:x≠(c:Int):=fun e=>by subst e;exact hn.not_mem_erase hx
   omega) (fun b hb=>by
   have h1:=ha b (by omega);exact (List.mem_erase_of_ne (by omega)).2 h1)
  omega
theorem MM {s:St} (h:aQ s=0) (hf:fA s<0):rP s=0:=by
 obtain⟨h1,h2,h3⟩:=kZ.1 h;have:=all_once s.count.toNat (lH (iA s)) h3 (fun x hx=>by
  obtain⟨hx,h0⟩:=iQ.1 hx;unfold iA at hx;obtain⟨f,c,a⟩:=jq.1 hx;have:=(h2 f c).2.2.2 x a;omega) (fun b hb=>by
  have:=Mv hf b (by omega);unfold jE at this;exact iQ.2 ⟨by simpa using this,by omega⟩)
 unfold rP;rw[PR,this];omega
theorem JK {l:List Ar} {x:Ar} (h:mQ l x=0):(l.length≤16∧okF none l)∧dx x=0∧(∀a∈l,iT x a=false)∧(bO (ed l x)).length≤16∧iP l x=bO (ed l x):=by
 have h0:=h;unfold mQ at h
 by_cases hw:(dI l).1=0
 ·rw[if_neg (by omega)] at h
  by_cases he:dx x=0
  ·rw[if_neg (by omega)] at h;cases hm:l.any (iT x)
   ·rw[hm,if_neg (by simp)] at h;refine⟨ou.1 hw,he,fun a ha => ?_,?_,?_⟩
    ·have:=uJ.1 hm a ha;simpa using this
    ·split at h
     ·omega
     ·omega
    ·unfold iP;rw[if_neg (by omega)]
   ·rw[hm,if_pos rfl] at h;omega
  ·rw[if_pos he] at h;exact absurd h he
 ·rw[if_pos hw] at h;exact absurd h hw
structure Cc where
 f:Int
 i:Int
 k:Int
 deriving DecidableEq
def AJ (c:Cc):Array Value:=#[.int .i64 c.f,.int .i64 c.i,.int .i64 c.k]
def jO (c:Cc):List Value:=(AJ c).toList
theorem jQ (c:Cc):(jO c).length=3:=rfl
structure Sp where
 lv:Bool
 ar:List Ar
 tb:Tb
 deriving DecidableEq
structure Ma where
 m:Mem
 sl:List Int
 sw:tZ
 dk:tZ
 st:St
 ca:List Cc
 sp:List Sp
def zCc:Cc:=⟨0,0,0⟩
def zSp:Sp:=⟨false,[],zTb⟩
def zMa:Ma:=⟨noM,[],⟨[],[]⟩,⟨[],[]⟩,zSt,[],[]⟩
def cnt (l:List Int) (k:Int):Nat:=l.countP fun x=>decide (x=k)
def trimB (m:Ma):Bool:=
 (List.range m.dk.blocks.length).all (fun b:Nat=>decide ((b:Int)∈iA m.st)||decide (m.dk.blocks.getD b zPg=zPg))&&m.dk.queue.all fun q=>decide (q.1∈iA m.st)
def jK (s:Sp):Int:=if (dI s.ar).1≠0 then (dI s.ar).1 else if dR s.tb≠0 then dR s.tb else if s.lv=false∧0<s.ar.length+(aM s.tb).length then 7 else 0
def il (m:Ma):Int:=
 if bI m.m≠0 then bI m.m else if dH m.sl≠0 then dH m.sl else if cK m.sw≠0 then cK m.sw else if cK m.dk≠0 then cK m.dk else if aQ m.st≠0 then aQ m.st
 else if m.sw.blocks.length≠m.sl.length∨(m.dk.blocks.length:Int)≠m.st.count∨trimB m=false then 7
 else if 4<m.sp.length then 4 else firstE (m.sp.map jK)
def gL (m:Ma) (k:Int):Fr:=m.m.fs.getD k.toNat fr0
def tN (m:Ma) (p:Option Cc) (c:Cc):Int:=
 if c.f<0∨(m.st.fs.length:Int)≤c.f∨c.i<0∨((aI m.st c.f).b.length:Int)≤c.i∨c.k<0∨(m.m.fs.length:Int)≤c.k then 3
 else if (gL m c.k).r<1∨(gL m c.k).f≠c.f∨(gL m c.k).i≠c.i then 7
 else match p with
  | none=>0
  | some q=>if c.f<q.f∨q.f=c.f∧c.i≤q.i then 2 else 0
def xZ (l:List Cc) (k:Nat):Option Cc:=if k=0 then none else l[k-1]?
def ig (m:Ma):Int:=firstE ((List.range m.ca.length).map fun k=>tN m (xZ m.ca k) (m.ca.getD k zCc))
def bV (m:Ma) (s:Sp) (n:Int):Int:=
 if eQ s.ar n<0 then 5 else
 let a:=s.ar.getD (eQ s.ar n).toNat zAr;let e:=dB s.tb n
 if e.k=2 then (if (m.sl.length:Int)≤e.n∨a.sh=true then 7 else 0)
 else if (m.m.fs.length:Int)≤e.n then 3 else
 let f:=gL m e.n;let of:=decide (0≤a.fi)&&decide (f.f=a.fi)&&decide (f.i=a.ba+n-a.fr)
 if 0≤f.f∧of=false∨a.sh=true∧of=false∨a.sh=false∧of=true∧e.w=true∨e.w=true∧a.wr=false then 7
 else if f.f<0∧e.w=true∧1<f.r then 7 else 0
def mh (m:Ma):Int:=firstE (m.sp.flatMap fun s=>(aM s.tb).map (bV m s))
def nN (t:Tb) (l:List Int):List Int:=(l.filter fun n=>decide ((dB t n).k=1)).map fun n=>(dB t n).n
def swapT (t:Tb) (l:List Int):List Int:=(l.filter fun n => !decide ((dB t n).k=1)).map fun n=>(dB t n).n
def rM (m:Ma):List Int:=m.ca.map Cc.k++m.sp.flatMap fun s=>nN s.tb (aM s.tb)
def oV (m:Ma):List Int:=m.sp.flatMap fun s=>swapT s.tb (aM s.tb)
def kD (n:Nat) (l:List Int):List Int:=(List.range n).map fun i:Nat=>(cnt l i:Int)
def countB (m:Ma):Bool:=
 (List.range m.m.fs.length).all (fun i:Nat=>decide ((gL m i).r=cnt (rM m) i)&&(decide ((gL m i).f<0)||m.ca.any fun c=>decide (c.k=i)))&&decide (m.sl=kD m.sl.length (oV m))
def jl (m:Ma):Int:=if il m≠0 then il m else if ig m≠0 then ig m else if mh m≠0 then mh m else if countB m=true then 0 else 7
def aR (m:Ma) (f i:Int):Page:=
 match m.ca.find? fun c=>decide (c.f=f)&&decide (c.i=i) with
 | some c=>(gL m c.k).p
 | none=>if 0≤bD m.st f i then dm (dP m.dk (bD m.st f i)) ((aI m.st f).n-i*8) else zPg
def nZ (s:St) (f i:Int):Bool:=decide (gG (aI s f).n≤i)
structure Kp where
 m:Ma
 e:Int
def iK (k e:Int):Int:=if k=0 then e else k
def bE (m:Ma) (p:Nat):Sp:=m.sp.getD p zSp
def setTb (m:Ma) (p:Nat) (t:Tb):Ma:={ m with sp:=m.sp.set p { bE m p with tb:=t } }
def cZ (k:Kp) (p:Nat) (n:Int) (x:En):Kp:=
 if setE (bE k.m p).tb n x=0 then ⟨setTb k.m p (setT (bE k.m p).tb n x),k.e⟩ else ⟨k.m,iK k.e (setE (bE k.m p).tb n x)⟩
def dK (k:Kp) (f n:Int):Kp:=
 if mY k.m.m f n=0 then ⟨{ k.m with m:=lQ k.m.m f n },k.e⟩ else ⟨k.m,iK k.e (mY k.m.m f n)⟩
def lY (k:Kp) (s n:Int):Kp:=
 if bA k.m.sl s n=0 then ⟨{ k.m with sl:=aU k.m.sl s n },k.e⟩ else ⟨k.m,iK k.e (bA k.m.sl s n)⟩
def iG (k:Kp) (p:Nat) (n:Int):Kp:=
 let x:=dB (bE k.m p).tb n
 if x.k=1 then cZ (dK k x.n (-1)) p n zEn else if x.k=2 then cZ (lY k x.n (-1)) p n zEn else k
def EN (f i:Int) (c:Cc):Bool:=decide (f<c.f)||(decide (c.f=f)&&decide (i≤c.i))
def tQ (l:List Cc) (f i:Int):Nat:=(l.findIdx? (EN f i)).getD l.length
def Gq (l:List Cc) (f i:Int):Bool:=match l[tQ l f i]? with
 | some c=>decide (c.f=f)&&decide (c.i=i)
 | none=>false
def setFr (m:Ma) (f:Nat) (x:Fr):Ma:={ m with m:={ m.m with fs:=m.m.fs.set f x } }
def aD (m:Ma) (f:Nat):Fr:=m.m.fs.getD f fr0
def iZ (m:Ma) (f:Nat):Bool:=decide ((aD m f).f<0)||!(aD m f).d||decide (cB m.st (aD m f).f (aD m f).i=0)
def jM (k:Kp) (f:Nat):Kp:=
 let x:=aD k.m f
 if x.f<0∨x.d=false∨cB k.m.st x.f x.i≠0 then k
 else ⟨setFr { k.m with st:=dO k.m.st x.f x.i,dk:=dG k.m.dk (dW k.m.st x.f x.i) x.p } f { x with d:=false },iK k.e (aK k.m.dk (dW k.m.st x.f x.i))⟩
def aZ (m:Ma) (f:Int):List (Nat × Int):=(List.range m.sp.length).flatMap fun p=>(nX (bE m p).tb 1 f).map fun n=>(p,n)
def kV (k:Kp) (l:List (Nat × Int)):Kp:=l.foldl (fun k u=>iG k u.1 u.2) k
def FI (f n:Int) (k:Kp) (u:Nat × Int):Kp:=cZ (dK k f (-1)) u.1 u.2 ⟨2,n,false⟩
def rf (k:Kp) (f n:Int) (l:List (Nat × Int)):Kp:=l.foldl (FI f n) k
def jr (m:Ma) (f:Nat):Bool:=if 0≤(aD m f).f then iZ m f else decide (ic m.sl (aZ m f).length=0)
def fU (k:Kp) (f:Nat):Kp:=
 let x:=aD k.m f;let l:=aZ k.m f
 if 0≤x.f then
  if iZ k.m f=false then k else
  let k2:=kV (jM k f) l
  if Gq k2.m.ca x.f x.i=true then dK ⟨{ k2.m with ca:=k2.m.ca.eraseIdx (tQ k2.m.ca x.f x.i) },k2.e⟩ f (-1) else k2
 else if ic k.m.sl l.length≠0 then k
 else rf ⟨{ k.m with sl:=lS k.m.sl l.length,sw:=dG k.m.sw (jN k.m.sl l.length) x.p },iK k.e (aK k.m.sw (jN k.m.sl l.length))⟩ f (jN k.m.sl l.length) l
def reclaimN:Nat→Kp→Kp × Bool
 | 0,k=>(k,false)
 | t+1,k=>
  if bI k.m.m≠0∨iy k.m.m<0 then (⟨k.m,iK k.e (bI k.m.m)⟩,false) else
  let k1:Kp:=⟨{ k.m with m:=fH k.m.m },k.e⟩
  if jr k1.m (iy k.m.m).toNat=true then (fU k1 (iy k.m.m).toNat,true) else reclaimN t (fU k1 (iy k.m.m).toNat)
def dY (k:Kp):Kp × Bool:=reclaimN (2*k.m.m.fs.length+1) k
def kG (k:Kp) (p:Page) (f i:Int):Kp × Int:=
 if gN k.m.m p f i≠0 then (k,-1) else (⟨{ k.m with m:=eZ k.m.m p f i },k.e⟩,gY k.m.m p f i)
def eP (k:Kp) (p:Page) (f i:Int):Kp × Int:=
 if fB k.m.m.fs=0 then (if (dY k).2=true then kG (dY k).1 p f i else ((dY k).1,-1)) else kG k p f i
def kC (x:Fr):Fr:={ x with u:=true }
def wz (m:Ma) (i:Nat):Cc:=m.ca.getD i zCc
def dF (m:Ma) (f i:Int):Page:=if 0≤bD m.st f i then dm (dP m.dk (bD m.st f i)) ((aI m.st f).n-i*8) else zPg
def Ef (k:Kp) (f i:Int):Int:=if 0≤bD k.m.st f i then iK k.e (aK k.m.dk (bD k.m.st f i)) else k.e
def fw (k:Kp) (f i:Int):Kp × Int:=
 if Gq k.m.ca f i=true then
  let g:=(wz k.m (tQ k.m.ca f i)).k
  (⟨setFr k.m g.toNat (kC (aD k.m g.toNat)),k.e⟩,g)
 else
  let r:=eP ⟨k.m,Ef k f i⟩ (dF k.m f i) f i
  if r.2<0 then (r.1,-1) else (⟨{ r.1.m with ca:=r.1.m.ca.insertIdx (tQ r.1.m.ca f i) ⟨f,i,r.2⟩ },r.1.e⟩,r.2)
def yM (k:Kp) (i:Nat):Kp:=
 let c:=wz k.m i;let k1:=kV k (aZ k.m c.k)
 dK ⟨{ k1.m with ca:=k1.m.ca.eraseIdx i },k1.e⟩ c.k (-1)
def GY (f i:Int):Nat→Kp→Kp
 | 0,k=>k
 | j+1,k=>if (wz k.m j).f≠f∨(wz k.m j).i<i then GY f i j k else GY f i j (yM k j)
def UB (k:Kp) (f i:Int):Kp:=GY f i k.m.ca.length k
def Sj (n:Int) (k:Kp):Nat→List Int→Kp
 | _,[]=>k
 | j,b::r=>Sj n (if 0≤b∧gG n≤j then ⟨{ k.m with dk:=Xh k.m.dk b },iK k.e (aK k.m.dk b)⟩ else k) (j+1) r
def WY (x:Fr) (n:Int):Fr:={ x with p:=dm x.p n,d:=true }
def Sb (k:Kp) (f n:Int):Kp × Int:=
 if SC k.m.st f n≠0 then (k,SC k.m.st f n) else
 let k1:=UB k f (gG n);let k2:=Sj n k1 0 (aI k1.m.st f).b
 (⟨{ k2.m with st:=Xc k.m.st f n },k2.e⟩,0)
def Vy (k:Kp) (f n:Int):Kp × Int:=
 let old:=(aI k.m.st f).n;let lo:=min n old
 if n≠old∧0<lo%8 then
  let r:=fw k f (lo / 8)
  if r.2<0 then (r.1,10) else Sb ⟨setFr r.1.m r.2.toNat (WY (aD r.1.m r.2.toNat) (lo%8)),r.1.e⟩ f n
 else Sb k f n
end Go.Proofs.YtpaeabelhnnbiaaGreat
namespace Pw
open Go Go.RowKit
variable {B B' b c cap f i id k off sz:Nat} {L:Nat → Bool} {P:Program} {Q:Exit → Act → World → Prop} {T TV TX TY TZ e t t' ty:TypeId} {V v vx vy:Value} {W w w' w0 w1:World} {X Y Z args cs t0:Array Value} {a:Option Addr} {a0:Act} {l:List Int} {o op:Oper} {ops:Array Oper} {rest:List Oper} {tm vs xs:List Value} {x:Operand} {y:Nat → Value} {ρ:Operand → Value}
theorem bq {k:IntKind} {a b:Int} (h:a=b):Ending.returned (.int k a) = .returned (.int k b):=by rw[h]
theorem bS {a b:Bool} (h:a=b):Ending.returned (.bool a) = .returned (.bool b):=by rw[h]
theorem ah (h:Below w.heap.size w W) (hb:Below W.heap.size W w1):Below w.heap.size w w1:=
 h.trans (hb.mono h.size)
theorem dZ (w:World) (o:Obj):w.heap.size≤(w.alloc o).heap.size:=((Below.refl 0 w).alloc (bK _) o).size
theorem eD (h:B≤w.heap.size) (o:Obj):B≤(w.alloc o).heap.size:=aY h (dZ w o)
def aJ (w:World) (b:Nat) (cs:Array Value) (T:TypeId):Prop:=w.heap[b]?=some (.cells cs T (0,0))
theorem aJ.cell (h:aJ w b cs T):∀o,w.cell? ⟨b,o,none⟩=cs[o]?:=by
 intro o;unfold aJ at h;simp[World.cell?,h]
theorem aJ.free (h:aJ w b cs T):∀o,w.frozen? ⟨b,o,none⟩=false:=by
 intro o;unfold aJ at h;simp[World.frozen?,h]
theorem aJ.lt (h:aJ w b cs T):b<w.heap.size:=lt_of_block h
theorem aJ.below (h:aJ w b cs T) (hb:Below B w w') (hB:b<B):aJ w' b cs T:=
 (hb.block b hB).trans h
theorem aJ.ext (h:aJ w b cs T) (hb:Below w.heap.size w w'):aJ w' b cs T:=h.below hb h.lt
theorem aJ.new (w:World) (cs:Array Value) (T:TypeId):aJ (w.alloc (.cells cs T)) w.heap.size cs T:=heap_alloc_new w _
theorem aJ.alloc (h:aJ w b cs T) (o:Obj):aJ (w.alloc o) b cs T:=(Below.heap_alloc w o b h.lt).trans h
theorem aJ.drewN (h:aJ w b cs T) (n:Nat):aJ (w.drewN n) b cs T:=h
theorem aJ.drew (h:aJ w b cs T):aJ w.drew b cs T:=h
def dV (w:World) (a:Option Addr) (vs:List Value):Prop:=
 ∀i u,vs[i]?=some u→∃b off,a=some ⟨b,off,none⟩∧w.cell? ⟨b,off+i,none⟩=some u
theorem dV.below (h:dV w a vs) (hb:Below w.heap.size w w'):dV w' a vs:=by
 intro i u hi;obtain⟨b,off,ha,hc⟩:=h i u hi;exact⟨b,off,ha,cell_later hb hc⟩
theorem dV.nil :dV w a []:=fun i u h=>by simp at h
theorem dV.at {w:World} {a:Option Addr} {vs:List Value} (h:dV w a vs) (hn:0<vs.length):∃b off,a=some ⟨b,off,none⟩∧∀i u,vs[i]?=some u→w.cell? ⟨b,off+i,none⟩=some u:=by
 obtain⟨b,off,rfl,hc⟩:=h 0 _ (aN hn);refine⟨b,off,rfl,fun i u hi => ?_⟩;obtain⟨b',off',e,c⟩:=h i u hi;simp only[iq,tK,and_true] at e;obtain⟨rfl,rfl⟩:=e;exact c
theorem flat_get {α:Type} (enc:α→List Value) (sz:Nat) (hsz:∀x,(enc x).length=sz):∀(l:List α) (i:Nat) (h:i<l.length) (j:Nat) (u:Value),(enc l[i])[j]?=some u→(l.flatMap enc)[i*sz+j]?=some u
 | [],i,h,_,_,_=>absurd h (gT _)
 | x::l,0,_,j,u,hj=>by
  simp only[pO,Nat.zero_mul,dM];simp only[Ck] at hj;have hl:j<(enc x).length:=by
   rcases fM j (enc x).length with h|h
   ·exact h
   ·simp[eU h] at hj
  rw[iD hl];exact hj
 | x::l,i+1,h,j,u,hj=>by
  simp only[pO];have e:(i+1)*sz+j=(enc x).length+(i*sz+j):=by rw[hsz x,sS];omega
  rw[e,jg (by omega),CF];exact flat_get enc sz hsz l i (by simpa using h) j u (by simpa using hj)
theorem flat_len {α:Type} (enc:α→List Value) (sz:Nat) (hsz:∀x,(enc x).length=sz) (l:List α):(l.flatMap enc).length=l.length*sz:=by
 induction l with
 | nil=>simp
 | cons x l ih=>simp[pO,ih,hsz x,sS,Nat.add_comm]
theorem dV.elem {α:Type} {enc:α→List Value} (hsz:∀x,(enc x).length=sz) (hp:0<sz) {l:List α} (h:dV w a (l.flatMap enc)) (i:Nat) (hi:i<l.length) :
  ∃b off,a=some ⟨b,off,none⟩∧∀j u,(enc l[i])[j]?=some u→w.cell? ⟨b,off+i*sz+j,none⟩=some u:=by
 obtain⟨b,off,ha,hc⟩:=h.at (by rw[flat_len enc sz hsz];exact Nat.mul_pos (by omega) hp);exact⟨b,off,ha,fun j u hj=>by rw[pX];exact hc _ _ (flat_get enc sz hsz l i hi j u hj)⟩
def dE (cur:Array Value):Nat→List Value→Array Value
 | _,[]=>cur
 | o,v::r=>dE (cur.setIfInBounds o v) (o+1) r
theorem size_putAt:∀(vs:List Value) (cur:Array Value) (o:Nat),(dE cur o vs).size=cur.size
 | [],_,_=>rfl
 | v::r,cur,o=>by simp[dE,size_putAt r]
theorem putAt_out:∀(vs:List Value) (cur:Array Value) (o k:Nat),(k<o∨o+vs.length≤k)→(dE cur o vs)[k]?=cur[k]?
 | [],_,_,_,_=>rfl
 | v::r,cur,o,k,h=>by simp only[mR] at h;simp only[dE];rw[putAt_out r _ _ _ (by omega),gB (by omega)]
theorem putAt_in:∀(vs:List Value) (cur:Array Value) (o j:Nat) (u:Value),o+vs.length≤cur.size→vs[j]?=some u→(dE cur o vs)[o+j]?=some u
 | [],_,_,_,_,_,h=>by simp at h
 | v::r,cur,o,0,u,hs,h=>by simp only[mR] at hs;simp only[dE];rw[putAt_out r _ _ _ (by omega)];simp at h;subst h;simp[show o<cur.size by omega]
 | v::r,cur,o,j+1,u,hs,h=>by simp only[mR] at hs;simp only[dE];rw[show o+(j+1)=o+1+j by omega];exact putAt_in r _ _ _ u (by simp;omega) (by simpa using h)
theorem aJ.setCell (h:aJ w b cs T) (o:Nat) (v:Value):aJ (w.setCell ⟨b,o,none⟩ v) b (cs.setIfInBounds o v) T:=
 heap_setCell_same w b o cs T v h
theorem aJ.setCell_other (h:aJ w b cs T) (a:Addr) (v:Value) (hne:b≠a.block):aJ (w.setCell a v) b cs T:=
 (heap_setCell_other w a b v hne).trans h
theorem aJ.setCells :∀(vs:List Value) (o:Nat) {w:World} {cs:Array Value},aJ w b cs T→aJ (w.setCells b o vs) b (dE cs o vs) T
 | [],_,_,_,h=>h
 | v::r,o,_,_,h=>aJ.setCells r (o+1) (h.setCell o v)
theorem heap_setCells_other (b:Nat):∀(vs:List Value) (o:Nat) (w:World) (k:Nat),k≠b→(w.setCells b o vs).heap[k]?=w.heap[k]?
 | [],_,_,_,_=>rfl
 | v::r,o,w,k,h=>(heap_setCells_other b r (o+1) _ k h).trans (heap_setCell_other w ⟨b,o,none⟩ k v h)
theorem size_setCells (b:Nat):∀(vs:List Value) (o:Nat) (w:World),(w.setCells b o vs).heap.size=w.heap.size
 | [],_,_=>rfl
 | v::r,o,w=>(size_setCells b r (o+1) _).trans (by simp[World.setCell])
theorem oN (b:Nat):∀(vs:List Value) (o:Nat) (w:World),(w.setCells b o vs).os=w.os∧(w.setCells b o vs).tape=w.tape∧(w.setCells b o vs).output=w.output
 | [],_,_=>⟨rfl,rfl,rfl⟩
 | _::r,o,_=>oN b r (o+1) _
theorem aB (w:World) (b o:Nat) (vs:List Value):w.grownBy (w.setCells b o vs) (some b):=
 ⟨(oN b vs o w).1,(oN b vs o w).2.1,(oN b vs o w).2.2,Nat.le_of_eq (size_setCells b vs o w).symm,
  fun k _ hk=>heap_setCells_other b vs o w k (fun e=>hk (by rw[e]))⟩
def Own (w:World) (B:Nat) (e:TypeId) (sz:Nat) (v:Value) (n:Nat) (xs:List Value):Prop:=
 xs.length=n*sz∧((v = .slice none 0 0∧n=0) ∨
  ∃g off cap cur,v = .slice (some ⟨g,off,none⟩) n cap∧B≤g∧aJ w g cur e∧n≤cap∧cap≤maxLen∧off+cap*sz≤cur.size∧∀j u,xs[j]?=some u→cur[off+j]?=some u)
theorem Own.nil (w:World) (B:Nat) (e:TypeId) (sz:Nat):Own w B e sz (.slice none 0 0) 0 []:=⟨by simp,.inl ⟨rfl,rfl⟩⟩
theorem Own.of_owns {n:Nat} (h:w.ownsRow B e sz v n xs):Own w B e sz v n xs:=by
 obtain⟨hl,h⟩:=h;refine⟨hl,h.imp id fun⟨g,cap,cur,hv,hB,hg,hc,hm,hs,ht⟩=>⟨g,0,cap,cur,hv,hB,hg,hc,hm,by omega,fun j u hj => ?_⟩⟩;rw[dM,←pK];rw[←ht,kF] at hj;split at hj
 ·exact hj
 ·cases hj
theorem Own.mono {n:Nat} (h:Own w B e sz v n xs) (hB:B'≤B):Own w B' e sz v n xs:=
 ⟨h.1,h.2.imp id fun⟨g,off,cap,cur,hv,hg,r⟩=>⟨g,off,cap,cur,hv,aY hB hg,r⟩⟩
theorem Own.below {n:Nat} (h:Own w B e sz v n xs) (hb:Below w.heap.size w w'):Own w' B e sz v n xs:=
 ⟨h.1,h.2.imp id fun⟨g,off,cap,cur,hv,hg,hk,r⟩=>⟨g,off,cap,cur,hv,hg,hk.ext hb,r⟩⟩
theorem Own.grown {row:Option Nat} {n:Nat} (h:Own w B e sz v n xs) (hg:w.grownBy w' row) (hne:∀g,v.ownBlock=some g→row≠some g):Own w' B e sz v n xs:=
 ⟨h.1,h.2.imp id fun⟨g,off,cap,cur,hv,hB,hk,r⟩=>⟨g,off,cap,cur,hv,hB,(hg.block g hk.lt (fun e=>hne g (by rw[hv];rfl) e.symm)).trans hk,r⟩⟩
theorem Own.rd {n:Nat} (h:Own w B e sz v n xs):∃a c,v = .slice a n c∧n≤c∧c≤maxLen∧(a=none→c=0)∧dV w a xs:=by
 obtain⟨hl,h⟩:=h;rcases h with ⟨rfl,rfl⟩|⟨g,off,cap,cur,rfl,_,hg,hc,hm,hs,ht⟩
 ·have:xs=[]:=kJ (by simpa using hl);subst this;exact⟨none,0,rfl,az _,bK _,fun _=>rfl,dV.nil⟩
 ·exact⟨_,cap,rfl,hc,hm,fun e=>(Option.some_ne_none _ e).elim,fun i u hi=>⟨g,off,rfl,by rw[hg.cell];exact ht i u hi⟩⟩
theorem Own.ge {n:Nat} (h:Own w B e sz v n xs):∀k,v.ownBlock=some k→B≤k:=by
 rcases h.2 with ⟨rfl,_⟩|⟨g,off,cap,cur,rfl,hB,_⟩
 ·intro k hk;cases hk
 ·intro k hk;cases hk;exact hB
theorem aJ.grown {row:Option Nat} (h:aJ w b cs T) (hg:w.grownBy w' row) (hne:row≠some b):aJ w' b cs T:=
 (hg.block b h.lt (fun e=>hne e.symm)).trans h
theorem Own.alloc {n:Nat} (h:Own w B e sz v n xs) (o:Obj):Own (w.alloc o) B e sz v n xs:=
 h.below ((Below.refl _ _).alloc (az _) _)
theorem dV.one (w:World) (v:Value) (T:TypeId):dV (w.alloc (.cells #[v] T)) (some ⟨w.heap.size,0,none⟩) [v]:=by
 intro i u hi;refine⟨_,_,rfl,?_⟩;rw[(aJ.new w #[v] T).cell];cases i with
 | zero=>simpa using hi
 | succ i=>simp at hi
theorem dV.new (w:World) (cs:Array Value) (T:TypeId):dV (w.alloc (.cells cs T)) (some ⟨w.heap.size,0,none⟩) cs.toList:=by
 intro i u hi;refine⟨_,_,rfl,?_⟩;rw[(aJ.new w cs T).cell,dM];simpa using hi
theorem Gm (k:IntKind) (n:Int):∀u∈[Value.int k n],u.oneCell' = true:=by
 intro u hu;cases bF.1 hu;rfl
theorem fo {a:Act} (hg:o.guard=none) (s x:Operand) (t:TypeId)
 (hop:o.op=Op.call { callee:=Callee.builtin Builtin.append,args:=#[s,x],argTypes:=#[t,t] })
 (B:Nat) (e:TypeId) (z:Value) (size bytes:Nat) (h1:P.underlying t=some (.slice e)) (h2:(P.info? e).map (fun i=>(i.zero,i.size,i.bytes))=some (some z,size,bytes)) (h6:z.cells.size=size) (h7:0<size)
 (v:Value) (n:Nat) (xs:List Value) (hs:a.eval s=v) (hown:Own w B e size v n xs)
 (ao:Option Addr) (m c:Nat) (news:List Value) (hx:a.eval x = .slice ao m c) (hnone:ao=none→c=0) (hmc:m≤c) (hn:news.length=m*size) (hrd:dV w ao news) (h1c:∀u∈news,u.oneCell' = true)
 (b1:n+m≤maxLen) (b2:(n+m)*bytes≤140737488355328) (hB:B≤w.heap.size)
 (hK:∀v' w',Own w' B e size v' (n+m) (xs++news)→w.grownBy w' v.ownBlock→wpList P ops Q rest (a.put o.dst v') w') :
  wpList P ops Q (o::rest) a w:=by
 obtain⟨i,hi,hz,f,h⟩:=info_parts h2;cases ao with
 | none=>
  obtain rfl:=hnone rfl;obtain rfl:m=0:=by omega
  obtain rfl:news=[]:=kJ (by simpa using hn);have key:wpList P ops Q rest (a.put o.dst v) w:=by have:=hK v w (by simpa using hown) (Cv _ _);exact this
  rcases hown with ⟨hl,⟨rfl,rfl⟩|⟨g,off,cap,cur,rfl,hBg,hk,hc,hm,hsize,hcell⟩⟩
  ·obtain rfl:xs=[]:=kJ (by simpa using hl);exact wpList_append_own_none hg s x t hop B e i size h1 hi _ 0 [] hs (Ik w B e size) hx key
  refine wpList_plain hg fun K p => ?_;unfold Oper.wp;simp[execOp,hop,resolve,invoke,builtin,hs,hx,Builtin.append_,run_underlying h1,Go.sizeOf,typeInfo,hi,Builtin.lenOf,Builtin.firstCells,hc,storeCells,Result.andThen];exact p _ _ key
 | some ad=>
  have d:∀j u,news[j]?=some u→w.cell? (ad.add j)=some u:=by intro j u hj;obtain⟨b,off,e',hc⟩:=hrd j u hj;cases e';rw[mH];exact hc
  rcases hown with ⟨hl,⟨rfl,rfl⟩|⟨g,off,cap,cur,rfl,hBg,hk,hc,hm,hsize,hcell⟩⟩
  ·obtain rfl:xs=[]:=kJ (by simpa using hl);exact wpList_append_own w hg s x t hop B e i z size bytes h1 hi hz f h h6 h7 _ 0 [] hs (Ik w B e size) ad m c news hx hn d h1c b1 b2 hB
    fun v' w' r1 r2 _=>hK v' w' (.of_owns r1) r2
  have q:n*size≤cap*size:=sW _ hc;refine wpList_append_arg w hg s x t hop e i z size bytes h1 hi hz f h h6 h7 g off n cap xs hs hl (fun j u hj=>by rw[hk.cell];exact hcell j u hj) ad m c news hx hn d h1c (fun hr j hj => ?_) b1 b2 (fun hr => ?_) (fun hr v' w' r1 r2 => ?_)
  ·have h3:(n+m)*size≤cap*size:=sW _ hr;rw[sS] at h3;have:off+n*size+j<cur.size:=by omega
   exact⟨by rw[hk.cell];simp[this],hk.free _⟩
  ·have h3:(n+m)*size≤cap*size:=sW _ hr;rw[sS] at h3;refine hK _ _ ⟨by rw[jb,hl,hn,sS],.inr ⟨g,off,cap,_,rfl,hBg,hk.setCells news (off+n*size),hr,hm,by rw[size_putAt];exact hsize,fun j u hj => ?_⟩⟩ (aB _ _ _ _)
   by_cases hjl:j<xs.length
   ·rw[iD hjl] at hj;rw[putAt_out _ _ _ _ (.inl (by omega))];exact hcell j u hj
   rw[jg (by omega)] at hj;have:=putAt_in news cur (off+n*size) (j-xs.length) u (by omega) hj;rwa [show off+n*size+(j-xs.length)=off+j by omega] at this
  have r2' : w.grownBy w' (Value.ownBlock (.slice (some ⟨g,off,none⟩) n cap)):=⟨r2.os,r2.tape,r2.output,r2.size,fun k l _=>r2.block k l (by simp)⟩;exact hK v' w' ((Own.of_owns r1).mono hB) r2'
theorem Lp {a:Act} (hgd:o.guard=none) (d s:Operand) (dT sT:TypeId)
 (ho:o.op = .call { callee:=.builtin .copy,args:=#[d,s],argTypes:=#[dT,sT] }) (elem:TypeId) (hu:P.underlying dT=some (.slice elem)) (hsz:(P.info? elem).map (·.size)=some 1)
 (g off dLen dCap:Nat) (sp:Option Addr) (sLen sCap:Nat) (hd:a.eval d = .slice (some ⟨g,off,none⟩) dLen dCap) (hs:a.eval s = .slice sp sLen sCap)
 (cur:List Value) (T:TypeId) (hg:aJ w g cur.toArray T) (vs:List Value) (hn:vs.length=sLen) (hrd:dV w sp vs)
 (hfit:off+dLen≤cur.length) (h1:∀v∈vs,v.oneCell' = true)
 (h:∀w',aJ w' g (splice cur off (vs.take dLen)).toArray T→w.grownBy w' (some g)→wpList P ops Q rest (a.put o.dst (goInt (Nat.min sLen dLen))) w') :
  wpList P ops Q (o::rest) a w:=by
 have c:(vs.take dLen).length=Nat.min sLen dLen:=by rw[fG,hn];exact Nat.min_comm _ _
 have i:Nat.min sLen dLen≤dLen:=Nat.min_le_right _ _
 by_cases h0:(vs.take dLen).length=0
 ·have e:vs.take dLen=[]:=kJ h0;have hm:Nat.min sLen dLen=0:=by rw[←c];exact h0
  refine wpList_copy_nothing hgd d s dT sT ho elem hu hsz _ sp dLen dCap sLen sCap hd hs hm ?_;have:=h w (by rw[e];simpa[splice] using hg) (Cv _ _);rw[hm] at this;exact this
 have f:0<vs.length:=by rw[fG] at h0;have:min dLen vs.length≤vs.length:=Nat.min_le_right _ _;omega
 obtain⟨b,so,rfl,hc⟩:=hrd.at f;refine wpList_copy_own hgd d s dT sT ho elem hu hsz g off dLen dCap _ sLen sCap hd hs cur.toArray T hg (vs.take dLen) c (fun j v hj => ?_) (by rw[c,List.size_toArray];omega) (fun v hv=>h1 v (Cg hv)) ?_
 ·rw[mH];rw[kF] at hj;split at hj
  ·exact hc j v hj
  ·cases hj
 have:=h (w.setRow g (splice cur off (vs.take dLen)).toArray) (setRow_heap w g _ _ T _ hg) ⟨rfl,rfl,rfl,by simp,fun k _ hk=>setRow_other w g k _ (fun e=>hk (by rw[e]))⟩;rw[c];simpa[splice,c,hn,Nat.min_comm] using this
theorem eB (cur cs:Array Value) (h:cs.size=cur.size):dE cur 0 cs.toList=cs:=by
 apply pJ;intro i
 by_cases hi:i<cs.size
 ·have:=putAt_in cs.toList cur 0 i cs[i] (by simp;omega) (by simp[hi]);rw[dM] at this;rw[this];simp[hi]
 ·rw[qz (by rw[size_putAt];omega),qz (by omega)]
theorem fI {a:Act} (hgd:op.guard=none) (ty:TypeId) (x y:Operand) (ho:op.op = .store ty x y)
 (b o:Nat) (cells:Array Value) (hx:a.eval x = .pointer (some ⟨b,o,none⟩)) (hy:a.eval y = .agg cells) (cur:Array Value) (T:TypeId) (hg:aJ w b cur T)
 (hfit:o+cells.size≤cur.size) (hi:(P.info? ty).map (·.size)=some cells.size) (h1:cells.all (·.oneCell')=true)
 (h:∀w',aJ w' b (dE cur o cells.toList) T→w.grownBy w' (some b)→wpList P ops Q rest (a.put op.dst undef) w'):wpList P ops Q (op::rest) a w:=by
 refine wpList_store_mid hgd ty x y ho b o cells hx hy (fun j hj=>⟨?_,hg.free _⟩) hi h1 (h _ (hg.setCells _ _) (aB _ _ _ _));rw[hg.cell];simp[show o+j<cur.size by omega]
theorem ax {a:Act} (hgd:op.guard=none) (ty:TypeId) (x y:Operand) (ho:op.op = .store ty x y)
 (b:Nat) (cells:Array Value) (hx:a.eval x = .pointer (some ⟨b,0,none⟩)) (hy:a.eval y = .agg cells) (cur:Array Value) (T:TypeId) (hg:aJ w b cur T)
 (hfit:cells.size=cur.size) (hi:(P.info? ty).map (·.size)=some cells.size) (h1:cells.all (·.oneCell')=true)
 (h:∀w',aJ w' b cells T→w.grownBy w' (some b)→wpList P ops Q rest (a.put op.dst undef) w'):wpList P ops Q (op::rest) a w:=by
 refine fI hgd ty x y ho b 0 cells hx hy cur T hg (by omega) hi h1 fun w' hb c => ?_;rw[eB cur cells hfit] at hb;exact h w' hb c
theorem nE {α:Type} (f:α→Value) (l:List α):l.flatMap (fun x=>[f x])=l.map f:=by
 induction l with
 | nil=>rfl
 | cons x l ih=>simp[ih]
def oZ (b:UInt8):Value:=.int .u8 b.toNat
def gQ (n:Int):Value:=.int .i64 n
def gZ (p:Page):Array Value:=#[Value.int .u8 p[0].toNat,Value.int .u8 p[1].toNat,Value.int .u8 p[2].toNat,Value.int .u8 p[3].toNat,Value.int .u8 p[4].toNat,Value.int .u8 p[5].toNat,Value.int .u8 p[6].toNat,Value.int .u8 p[7].toNat]
theorem IA (p:Page):(gZ p).size=8:=rfl
theorem Hm (p:Page) (k:Nat) (h:k<8):(gZ p)[k]?=some (Value.int .u8 p[k].toNat):=by
 match k,h with
 | 0,_=>rfl
 | 1,_=>rfl
 | 2,_=>rfl
 | 3,_=>rfl
 | 4,_=>rfl
 | 5,_=>rfl
 | 6,_=>rfl
 | 7,_=>rfl
 | n+8,h=>omega
theorem Uh (p:Page) (k:Nat) (h:k<8) (b:UInt8):(gZ p).setIfInBounds k (.int .u8 b.toNat)=gZ (p.set k b):=by
 match k,h with
 | 0,_=>simp[gZ]
 | 1,_=>simp[gZ]
 | 2,_=>simp[gZ]
 | 3,_=>simp[gZ]
 | 4,_=>simp[gZ]
 | 5,_=>simp[gZ]
 | 6,_=>simp[gZ]
 | 7,_=>simp[gZ]
 | n+8,h=>omega
theorem vC (p:Page):(gZ p)[0]?=some (Value.int .u8 p[0].toNat)∧(gZ p)[1]?=some (Value.int .u8 p[1].toNat)∧(gZ p)[2]?=some (Value.int .u8 p[2].toNat)∧(gZ p)[3]?=some (Value.int .u8 p[3].toNat)∧(gZ p)[4]?=some (Value.int .u8 p[4].toNat)∧(gZ p)[5]?=some (Value.int .u8 p[5].toNat)∧(gZ p)[6]?=some (Value.int .u8 p[6].toNat)∧(gZ p)[7]?=some (Value.int .u8 p[7].toNat):=
 ⟨rfl,rfl,rfl,rfl,rfl,rfl,rfl,rfl⟩
theorem qB (p:Page):(gZ p).all (·.oneCell')=true:=by simp[gZ,Value.oneCell']
theorem Kr (p:Page):(gZ p).toList=p.toList.map oZ:=by
 apply pM;intro i
 by_cases h:i<8
 ·rw[pK,Hm p i h];simp[h,oZ]
 ·rw[pK,qz (by rw[IA];omega),eU (by simp;omega)]
theorem Xu {p:Page} (h:aJ w b (gZ p) T) (a n:Nat):dV w (some ⟨b,a,none⟩) (((p.toList.drop a).take n).map oZ):=by
 intro i u hi;refine⟨b,a,rfl,?_⟩;rw[h.cell,←pK,Kr];rw[GX,List.map_drop,kF] at hi;split at hi
 ·rw[pQ] at hi;exact hi
 ·cases hi
theorem RF (l:List UInt8):∀u∈l.map oZ,u.oneCell' = true:=by
 intro u hu;obtain⟨_,_,rfl⟩:=fF.1 hu;rfl
theorem NI (p:Page):gZ p=(p.toList.map oZ).toArray:=by rw[←Kr]
theorem Lm (p:Page) (a:Nat) (b:List UInt8) (ha:a<8):(splice (p.toList.map oZ) a ((b.map oZ).take (8-a))).toArray=gZ (eY p a b):=by
 rw[NI];congr 1;unfold splice;rw[←GX,←GX,←List.map_drop,←jJ,←jJ];congr 1;apply pM;intro i;simp only[fG,gK]
 by_cases h:i<8
 ·have e:(eY p a b).toList[i]?=some (if a≤i then b.getD (i-a) p[i] else p[i]):=by simp[eY,h,show (a:Int)<8 by omega]
  rw[e];have hl:(List.take a p.toList).length=a:=by simp;omega
  by_cases h1:i<a
  ·rw[iD (by omega),if_neg (by omega)];simp[h1,h]
  rw[jg (by omega),if_pos (by omega),hl]
  by_cases h2:i-a<min (8-a) b.length
  ·rw[iD (by simpa using h2),kF,if_pos (by omega)];simp[List.getD,show i-a<b.length by omega]
  rw[jg (by simp;omega),pQ];have hm:(List.take (8-a) b).length=min (8-a) b.length:=by simp
  rw[hm,show a+min (8-a) b.length+(i-a-min (8-a) b.length)=i by omega];simp[List.getD,h,eU (show b.length≤i-a by omega)]
 ·rw[eU (by simp;omega),eU (by simp;omega)]
theorem EO (w:World) (e:TypeId) (k:IntKind) (cs:Array Value) (off:Nat) (v:Value) (he:P.underlying e=some (.int k)) (hv:cs[off]?=some v) :
  (part e cs off).run P w = .ok v w:=by
 simp[part,isAgg,run_underlying he,hv]
theorem JP (w:World) (d:Nat) (t e:TypeId) (ht:P.underlying t=some (.array 8 e)) (he:P.underlying e=some (.int .u8)) (hsz:(P.info? e).map (·.size)=some 1) (p q:Page) :
  (Op.equalIn (d+2) t (.agg (gZ p)) (.agg (gZ q))).run P w = .ok (p==q) w:=by
 cases hq:P.info? e with
 | none=>simp[hq] at hsz
 | some i=>
 have hi:i.size=1:=by simpa[hq] using hsz
 rw[RY];unfold Op.equalIn;simp only[kK,run_underlying ht,pY,Go.sizeOf,typeInfo,run_program,hq,hi,qa];simp only[Std.Legacy.Range.forIn_eq_forIn_range',List.range',Std.Legacy.Range.size];have g:∀(r:Page) (k:Nat) (h:k<8) (w:World),(part e (gZ r) k).run P w = .ok (.int .u8 r[k].toNat) w:=fun r k h w=>EO w e .u8 _ _ _ he (Hm r k h);have c:∀(a b:UInt8) (w:World),(Op.equalIn (d+1) e (.int .u8 a.toNat) (.int .u8 b.toNat)).run P w = .ok (a==b) w:=fun a b w=>by rw[run_equalIn_int w d e .u8 .u8 _ _ he,WI]
 simp[g,c]
 repeat' split
 all_goals simp_all
def Gives (P:Program) (o:Oper) (a:Act) (w:World) (F:Value→World→Prop):Prop:=
 match (execOp a.eval o).run P w with
 | .ok (.value v) w'=>F v w'
 | .ok .skip w'=>F undef w'
 | .ok (.enter f args) w'=>Calls P f args w' fun | .returned v,w''=>F v w'' | _,_=>False
 | _=>False
def lay (L:Nat→Bool) (y:Nat→Value):List Oper→Nat→Array Value→Array Value
 | [],_,t=>t
 | o::r,i,t=>lay L y r (i+1) (match o.dst with | some d=>if L i then t.setIfInBounds d (y i) else t | none=>t)
theorem lay_size (L:Nat→Bool) (y:Nat→Value):∀(l:List Oper) (i:Nat) (t:Array Value),(lay L y l i t).size=t.size
 | [],_,_=>rfl
 | o::r,i,t=>by
  simp only[lay];rw[lay_size L y r];cases o.dst with
  | none=>rfl
  | some d=>simp only[];split<;>simp
theorem iC (L:Nat→Bool) (y:Nat→Value) (s:Nat):∀(l:List Oper) (i:Nat) (t:Array Value),(∀k o,l[k]?=some o→o.dst=some s→L (i+k)=false)→(lay L y l i t)[s]?=t[s]?
 | [],_,_,_=>rfl
 | o::r,i,t,h=>by
  simp only[lay];rw[iC L y s r (i+1) _ (fun k o' hk hd=>by have:=h (k+1) o' (by simpa using hk) hd;rwa [show i+(k+1)=i+1+k by omega] at this)];cases hd:o.dst with
  | none=>rfl
  | some d=>
   simp only[];split
   ·rename_i hL;have hne:d≠s:=by intro e;subst e;have:=h 0 o (by simp) hd;simp[hL] at this
    rw[gB hne]
   ·rfl
theorem ll (L:Nat→Bool) (y:Nat→Value) (s:Nat):∀(l:List Oper) (i:Nat) (t:Array Value) (k:Nat) (o:Oper),l[k]?=some o→o.dst=some s→L (i+k)=true →
  (∀k' o',l[k']?=some o'→o'.dst=some s→k' = k)→s<t.size→(lay L y l i t)[s]?=some (y (i+k))
 | [],_,_,_,_,h,_,_,_,_=>by simp at h
 | o0::r,i,t,0,o,hk,hd,hL,hu,hs=>by simp at hk;subst hk;simp only[lay,hd];rw[iC L y s r (i+1) _ (fun k o' hk' hd'=>by have:=hu (k+1) o' (by simpa using hk') hd'; omega)];rw[lZ] at hL;simp[hL,hs]
 | o0::r,i,t,k+1,o,hk,hd,hL,hu,hs=>by
  simp only[lay];have:=ll L y s r (i+1) (match o0.dst with | some d=>if L i then t.setIfInBounds d (y i) else t | none=>t) k o (by simpa using hk) hd (by rwa [show i+1+k=i+(k+1) by omega])
   (fun k' o' hk' hd'=>by have:=hu (k' + 1) o' (by simpa using hk') hd'; omega)
   (by cases o0.dst with
     | none=>exact hs
     | some d=>simp only[];split<;>simpa using hs)
  rw[this];congr 2;omega
theorem mX (L L' : Nat→Bool) (y:Nat→Value):∀(l:List Oper) (i:Nat) (t:Array Value),(∀k,k<l.length→L (i+k)=L' (i+k))→lay L y l i t=lay L' y l i t
 | [],_,_,_=>rfl
 | o::r,i,t,h=>by
  simp only[lay];have h0:L i=L' i:=by simpa using h 0 (by simp)
  rw[h0];exact mX L L' y r (i+1) _ fun k hk=>by have:=h (k+1) (by simp;omega);rwa [show i+(k+1)=i+1+k by omega] at this
def jV (ops:Array Oper):Bool:=
 (List.range ops.size).all fun i=>match ops[i]? with
  | none=>true
  | some o=>
   (match o.op with | .select ..=>false | _=>true) &&
   o.after.toList.all (fun e=>Region.binds .any e&&decide (e.on<i)) &&
   (List.range ops.size).all fun j=>match ops[j]? with
    | none=>true
    | some p=>match p.dst with
     | none=>true
     | some d=>(decide (i=j)||o.dst != some d)&&(!(o.looksAt ops).contains d||o.after.toList.any (fun e=>decide (e.on=j)))
theorem fJ (h:jV ops=true) (hi:ops[i]?=some o) :
  (∀cs b,o.op ≠ .select cs b)∧(∀e∈o.after,Region.binds .any e=true∧e.on<i) ∧
  ∀j p d,ops[j]?=some p→p.dst=some d→(i=j∨o.dst≠some d)∧(d∈o.looksAt ops→∃e∈o.after,e.on=j):=by
 have c:i<ops.size:=(gU.1 hi).1;have h1:=dh.1 h i (bX.2 c);simp only[hi,dA] at h1;obtain⟨⟨h2,h3⟩,h4⟩:=h1;refine⟨?_,?_,?_⟩
 ·intro cs b e;simp[e] at h2
 ·intro e he;have:=dh.1 h3 e (lW.2 he);simpa using this
 intro j p d hj hd;have f:j<ops.size:=(gU.1 hj).1;have h5:=dh.1 h4 j (bX.2 f);simp only[hj,hd,dA,qY,decide_eq_true_eq,bne_iff_ne,ne_eq,qh,jU] at h5;refine⟨h5.1,fun a => ?_⟩;rcases h5.2 with h6|⟨e,he,h6⟩
 ·have h7:(o.looksAt ops).contains d=true:=List.contains_iff_mem.2 a;rw[h7] at h6;cases h6
 ·exact⟨e,lW.1 he,h6⟩
theorem xJ (hok:jV ops=true) (hi:ops[i]?=some o) (hL:∀e∈o.after,L e.on=true) (t:Nat) (ht:t∈o.looksAt ops) :
  (lay L y ops.toList 0 a0.tmps)[t]?=(lay (fun _=>true) y ops.toList 0 a0.tmps)[t]?:=by
 obtain⟨_,_,hw⟩:=fJ hok hi
 by_cases hsz:t<a0.tmps.size
 ·by_cases hex:∃(j:Nat) (p:Oper),ops[j]?=some p∧p.dst=some t
  ·obtain⟨j,p,hj,hd⟩:=hex;obtain⟨e,he,b⟩:=(hw j p t hj hd).2 ht;have hu:∀k' o',ops.toList[k']?=some o'→o'.dst=some t→k' = j:=by
    intro k' o' a c;have:=(fJ hok (i:=k') (o:=o') (by simpa using a)).2.2 j p t hj hd;rcases this.1 with h|h
    ·exact h
    ·exact absurd c h
   rw[ll L y t _ 0 _ j p (by simpa using hj) hd (by rw[dM,←b];exact hL e he) hu hsz,
    ll (fun _=>true) y t _ 0 _ j p (by simpa using hj) hd rfl hu hsz]
  ·rw[iC L y t _ 0 _ (fun k o' hk hd=>absurd ⟨k,o',by simpa using hk,hd⟩ hex),iC (fun _=>true) y t _ 0 _ (fun k o' hk hd=>absurd ⟨k,o',by simpa using hk,hd⟩ hex)]
 ·rw[qz (by rw[lay_size];omega),qz (by rw[lay_size];omega)]
theorem Cs (hok:jV ops=true) {listed:Array Bool} (hi:ops[i]?=some o) (hsz:listed.size=ops.size) (v:Value) :
  ({ a0 with tmps:=lay (fun i=>listed.getD i false) y ops.toList 0 a0.tmps }:Act).put o.dst v =
   { a0 with tmps:=lay (fun k=>(listed.setIfInBounds i true).getD k false) (fun k=>if k=i then v else y k) ops.toList 0 a0.tmps }:=by
 have l:i<ops.size:=(gU.1 hi).1;have g:(listed.setIfInBounds i true).getD i false=true:=by simp[bi,show i<listed.size by omega]
 have c:∀k,k≠i→(listed.setIfInBounds i true).getD k false=listed.getD k false:=fun k hk=>by simp[bi,gB (lI hk)]
 have key:(({ a0 with tmps:=lay (fun i=>listed.getD i false) y ops.toList 0 a0.tmps }:Act).put o.dst v).tmps=lay (fun k=>(listed.setIfInBounds i true).getD k false) (fun k=>if k=i then v else y k) ops.toList 0 a0.tmps:=by
  apply pJ;intro s
  by_cases hs:s<a0.tmps.size
  ·by_cases hex:∃(j:Nat) (p:Oper),ops[j]?=some p∧p.dst=some s
   ·obtain⟨j,p,hj,hd⟩:=hex;have hu:∀k' o',ops.toList[k']?=some o'→o'.dst=some s→k' = j:=by
     intro k' o' f a;rcases ((fJ hok (i:=k') (o:=o') (by simpa using f)).2.2 j p s hj hd).1 with h|h
     ·exact h
     ·exact absurd a h
    by_cases hji:j=i
    ·subst hji;obtain rfl:o=p:=by rw[hi] at hj;exact aT hj
     rw[ll (fun k=>(listed.setIfInBounds j true).getD k false) _ s _ 0 _ j o (by simpa using hi) hd (by simpa using g) hu hs];simp only[Act.put,hd,dM,if_true];rw[sI (by rw[lay_size];exact hs)]
    have b:o.dst≠some s:=fun e=>hji ((hu i o (by simpa using hi) e).symm);have e1:(({ a0 with tmps:=lay (fun i=>listed.getD i false) y ops.toList 0 a0.tmps }:Act).put o.dst v).tmps[s]?=(lay (fun i=>listed.getD i false) y ops.toList 0 a0.tmps)[s]?:=by
     cases ho:o.dst with
     | none=>rfl
     | some d=>
      have:d≠s:=fun e=>b (by rw[ho,e]);simp only[Act.put];rw[gB this]
    rw[e1];cases hLj:listed.getD j false with
    | true=>
     rw[ll (fun i=>listed.getD i false) y s _ 0 _ j p (by simpa using hj) hd (by simpa using hLj) hu hs,
      ll (fun k=>(listed.setIfInBounds i true).getD k false) _ s _ 0 _ j p (by simpa using hj) hd (by rw[dM,c j hji];exact hLj) hu hs]
     simp[hji]
    | false=>
     rw[iC (fun i=>listed.getD i false) y s _ 0 _ (fun k o' hk a=>by rw[dM,hu k o' hk a];exact hLj),
      iC (fun k=>(listed.setIfInBounds i true).getD k false) _ s _ 0 _ (fun k o' hk a=>by rw[dM,hu k o' hk a,c j hji];exact hLj)]
   have b:o.dst≠some s:=fun e=>hex ⟨i,o,hi,e⟩;have e1:(({ a0 with tmps:=lay (fun i=>listed.getD i false) y ops.toList 0 a0.tmps }:Act).put o.dst v).tmps[s]?=(lay (fun i=>listed.getD i false) y ops.toList 0 a0.tmps)[s]?:=by
    cases ho:o.dst with
    | none=>rfl
    | some d=>
     have:d≠s:=fun e=>b (by rw[ho,e]);simp only[Act.put];rw[gB this]
   rw[e1,iC _ y s _ 0 _ (fun k o' hk hd=>absurd ⟨k,o',by simpa using hk,hd⟩ hex),iC _ _ s _ 0 _ (fun k o' hk hd=>absurd ⟨k,o',by simpa using hk,hd⟩ hex)]
  have e1:(({ a0 with tmps:=lay (fun i=>listed.getD i false) y ops.toList 0 a0.tmps }:Act).put o.dst v).tmps.size=a0.tmps.size:=by
   cases o.dst with
   | none=>exact lay_size _ _ _ _ _
   | some d=>simp[Act.put,lay_size]
  rw[qz (by rw[e1];omega),qz (by rw[lay_size];omega)]
 cases hdst:o.dst with
 | none=>rw[hdst] at key;simp only[Act.put] at key ⊢; rw[key]
 | some d=>rw[hdst] at key;simp only[Act.put] at key ⊢; rw[key]
theorem ow {a b:Act} {F:Value→World→Prop} {K:Act→World→Prop} (hi:ops[i]?=some o)
 (hwant:Region.wanted o (yielded ops a.tmps)=true) (hexec:execOp a.eval o=execOp b.eval o) (h:Gives P o b w F) (hK:∀v w',F v w'→K (a.put o.dst v) w'):wpOp P ops Q i K a w:=by
 unfold wpOp;simp only[hi,hwant,if_true];refine .inl ?_;unfold Oper.wp;rw[hexec];unfold Gives at h;generalize (execOp b.eval o).run P w=r at h ⊢;cases r with
 | ok n w'=>
  cases n with
  | value v=>exact hK _ _ h
  | skip=>exact hK _ _ h
  | enter f args=>
   refine xL h fun e w'' he => ?_;cases e with
   | returned v=>exact hK _ _ he
   | panicked c=>exact he.elim
   | outgrown=>exact he.elim
  | _=>exact h.elim
 | halt x w'=>exact h.elim
def writer (ops:Array Oper) (t:Nat):Option Nat:=(List.range ops.size).find? fun i=>match ops[i]? with | some o=>o.dst==some t | none=>false
def iH (ρ:Operand→Value) (ops:Array Oper) (g:Nat):Option Bool:=
 match (ops[g]?).bind (·.dst) with
 | some d=>match ρ (.tmp d) with | .bool b=>some b | _=>none
 | none=>none
def dU (P:Program) (o:Oper) (ρ:Operand→Value) (w:World) (F:Value→World→Prop):Prop:=
 match (execOp ρ o).run P w with
 | .ok (.value v) w'=>F v w'
 | .ok .skip w'=>F undef w'
 | .ok (.enter f args) w'=>Calls P f args w' fun | .returned v,w''=>F v w'' | _,_=>False
 | _=>False
structure nR where
 r:Value→World→Prop
 st:∀v w w',Below w.heap.size w w'→r v w→r v w'
def gX (V:Value):nR:=⟨fun v _=>v=V,fun _ _ _ _ h=>h⟩
def anyR:nR:=⟨fun _ _=>True,fun _ _ _ _ _=>trivial⟩
def rl (l:List nR) (i:Nat) (v:Value) (w:World):Prop:=(l.getD i anyR).r v w
def bC (C:Nat→Oper→Prop):Nat→List Oper→Prop
 | _,[]=>True
 | k,o::r=>C k o∧bC C (k+1) r
theorem aG {C:Nat→Oper→Prop} :bC C k []:=trivial
theorem aj {C:Nat→Oper→Prop} {r:List Oper} (h:C k o) (hr:bC C (k+1) r):bC C k (o::r):=⟨h,hr⟩
theorem bC.at {C:Nat→Oper→Prop}:∀ {l:List Oper} {k:Nat},bC C k l→∀i o,l[i]?=some o→C (k+i) o
 | [],_,_,_,_,h=>by simp at h
 | o::r,k,h,0,o',hi=>by simp at hi;subst hi;exact h.1
 | o::r,k,h,i+1,o',hi=>by have:=bC.at h.2 i o' (by simpa using hi);rwa [show k+(i+1)=k+1+i by omega]
def nW (P:Program) (ops:Array Oper) (a0:Act) (w0:World) (l:List nR) (i:Nat) (o:Oper):Prop:=
 ∀(ρ:Operand→Value) (y:Nat→Value) (w:World),(∀t j,writer ops t=some j→ρ (.tmp t)=y j)→(∀x,(match x with | .tmp t=>writer ops t=none | _=>True)→ρ x=a0.eval x) →
  Below w0.heap.size w0 w→(∀j,o.after.toList.any (fun e=>e.on==j)=true→rl l j (y j) w) →
  if Region.wanted o (iH ρ ops)=true then dU P o ρ w (fun v w'=>Below w.heap.size w w'∧rl l i v w') else rl l i undef w
def lg (ops:Array Oper) (n:Nat):Bool:=ops.toList.all fun o=>match o.dst with | some d=>decide (d<n) | none=>true
theorem ak {l:List nR} (v:Value) (hw:Region.wanted o (iH ρ ops)=true) (hrun:(execOp ρ o).run P w = .ok (.value v) w) (hR:rl l i v w) :
  if Region.wanted o (iH ρ ops)=true then dU P o ρ w (fun v w'=>Below w.heap.size w w'∧rl l i v w') else rl l i undef w:=by
 rw[if_pos hw];unfold dU;rw[hrun];exact⟨Below.refl _ _,hR⟩
theorem Db {l:List nR} (hw:Region.wanted o (iH ρ ops)=false) (hR:rl l i undef w) :
  if Region.wanted o (iH ρ ops)=true then dU P o ρ w (fun v w'=>Below w.heap.size w w'∧rl l i v w') else rl l i undef w:=by
 rw[if_neg (by rw[hw];exact Bool.false_ne_true)];exact hR
theorem aL {l:List nR} (f:FuncId) (args:Array Value) (hw:Region.wanted o (iH ρ ops)=true) (hrun:(execOp ρ o).run P w = .ok (.enter f args) w)
 (hc:Calls P f args w fun e w' => ∃v,e = .returned v∧Below w.heap.size w w'∧rl l i v w') :
  if Region.wanted o (iH ρ ops)=true then dU P o ρ w (fun v w'=>Below w.heap.size w w'∧rl l i v w') else rl l i undef w:=by
 rw[if_pos hw];unfold dU;rw[hrun];refine hc.mono fun e w' ⟨v,he,h⟩ => ?_;subst he;exact h
theorem ag {y:Nat→Option Bool} (hg:o.guard=none):Region.wanted o y=true:=by simp[Region.wanted,hg]
theorem gJ (g d:Nat) (b want:Bool) (hg:o.guard=some (g,want)) (hd:(ops[g]?).bind (·.dst)=some d) (hv:ρ (.tmp d) = .bool b):Region.wanted o (iH ρ ops)=(b==want):=by
 simp only[Region.wanted,hg,iH,hd,hv];cases b<;>cases want<;>rfl
theorem bZ {d:TypeDesc} (ho:o.op = .load ty x) (hx:ρ x = .pointer (some ⟨b,0,none⟩)) (hb:aJ w b cs T)
 (hu:P.underlying ty=some d) (hd:(match d with | .struct _ | .array _ _=>true | _=>false)=true) (hi:(P.info? ty).map (·.size)=some cs.size):(execOp ρ o).run P w = .ok (.value (.agg cs)) w:=by
 unfold execOp;simp only[ho,hx,Instr.loadAt,Instr.sureAddr,kK,qa,pY,run_loadVar_row w b T ty cs (0,0) d hb hu hd hi]
theorem run_move (ho:o.op = .move x∨o.op = .assign x) (hx:ρ x=v):(execOp ρ o).run P w = .ok (.value v) w:=by
 rcases ho with ho|ho<;>simp[execOp,ho,hx]
theorem aS {f:FuncId} {xs:Array Operand} {ats:Array TypeId} {fn:Func} (ho:o.op = .call { callee:=.value (.func f),args:=xs,argTypes:=ats })
 (hρ : ρ (.func f) = .func (.func f) #[] #[]) (hf : P.funcs[f]? = some fn) (hn : (fn.name == "runtime.NumGoroutine") = false) (hb : fn.body.isNone = false) (ha : xs.map ρ = args) : (execOp ρ o).run P w = .ok (.enter f args) w := by
 have e1:execOp ρ o=callFunc f args:=by
  unfold execOp;simp only[ho];have e2:resolve ρ { callee:=.value (.func f),args:=xs,argTypes:=ats } o.type=Sem.pure { target:=.fn (.func f) #[],args:=args }:=by unfold resolve;simp only[hρ,ha];simp[Deferred.ofValue];rfl
  rw[e2];show callFunc f (args++#[])=_;simp
 rw[e1];have a : ¬ fn.name = "runtime.NumGoroutine" := by simpa using hn
 have b : ¬fn.body=none:=fun h=>by simp[h] at hb
 unfold callFunc;simp[hf,a,b]
theorem NP {op:BinOp} {y:Operand} (ho:o.op = .binOp op t x y t') (hx:ρ x=vx) (hy:ρ y=vy)
 (hr:(do eqGuard op t x y vx vy;binOp op t vx vy:Sem Value).run P w = .ok v w):(execOp ρ o).run P w = .ok (.value v) w:=by
 unfold execOp;simp only[ho,hx,hy];rw[kK,hr];rfl
theorem Kt {c y:Operand} {b:Bool} (ho:o.op = .pick c x y) (hc:ρ c = .bool b) (hx:(if b then ρ x else ρ y)=v):(execOp ρ o).run P w = .ok (.value v) w:=by
 unfold execOp;simp only[ho,hc];subst hx;cases b<;>rfl
theorem BS {b:Bool} (ho:o.op = .unOp .not t x) (hx:ρ x = .bool b):(execOp ρ o).run P w = .ok (.value (.bool (!b))) w:=by
 unfold execOp;simp only[ho,hx];rfl
theorem JL {n:Nat} (ho:o.op = .call { callee:=.builtin .len,args:=#[x],argTypes:=#[t] }) (hx:ρ x = .slice a n c) (ht:P.underlying t=some (.slice (P.elem t))):(execOp ρ o).run P w = .ok (.value (.int .i64 n)) w:=by
 unfold execOp;simp only[ho];simp[hx,resolve,invoke,builtin,run_len_slice _ t o.type a n c ht];rfl
theorem EP (ho:o.op = .fieldAddr t x f) (hx:ρ x=vx) (hr:(Instr.fieldAt t vx f).run P w = .ok v w):(execOp ρ o).run P w = .ok (.value v) w:=by
 unfold execOp;simp only[ho,hx];rw[kK,hr];rfl
theorem run_load (ho:o.op = .load t x) (hx:ρ x=vx) (hr:(Instr.loadAt t vx).run P w = .ok v w):(execOp ρ o).run P w = .ok (.value v) w:=by
 unfold execOp;simp only[ho,hx];rw[kK,hr];rfl
section
variable {P:Program} {ops:Array Oper} {a0:Act} {w0:World} {l:List nR} {i:Nat} {o:Oper}
end
theorem tX {α:Type} (enc:α→List Value) (sz:Nat) (hsz:∀x,(enc x).length=sz) (l:List α) (i:Nat) (h:i<l.length) (j:Nat) (hj:j<sz):(l.flatMap enc)[i*sz+j]?=(enc l[i])[j]?:=by
 have e:(enc l[i])[j]?=some ((enc l[i])[j]'(by rw[hsz];exact hj)):=aN _;rw[e];exact flat_get enc sz hsz l i h j _ e
theorem IW {α:Type} (enc:α→List Value) (sz:Nat) (hsz:∀x,(enc x).length=sz) (hp:0<sz) (l:List α) (m:Nat) (u:Value) (h:(l.flatMap enc)[m]?=some u) :
  ∃i j,∃hi:i<l.length,m=i*sz+j∧j<sz∧(enc l[i])[j]?=some u:=by
 have hm:m<l.length*sz:=by
  rcases fM m (l.flatMap enc).length with h1|h1
  ·rwa [flat_len enc sz hsz] at h1
  ·rw[eU h1] at h;cases h
 have hj:=uH m hp;have hd:=Nat.div_add_mod m sz;have hi:m / sz<l.length:=Nat.div_lt_of_lt_mul (by rw[Ca];exact hm);refine⟨m / sz,m%sz,hi,by rw[Ca];exact hd.symm,hj,?_⟩;rw[←tX enc sz hsz l _ hi _ hj,Ca,hd];exact h
theorem DI {α:Type} (enc:α→List Value) (sz:Nat) (hsz:∀x,(enc x).length=sz) (hp:0<sz) (l:List α) (k:Nat) (hk:k<l.length) (x:α) (off:Nat) (cur:Array Value) (hfit:off+l.length*sz≤cur.size)
 (h:∀j u,(l.flatMap enc)[j]?=some u→cur[off+j]?=some u):∀j u,((l.set k x).flatMap enc)[j]?=some u→(dE cur (off+k*sz) (enc x))[off+j]?=some u:=by
 intro m u hm;obtain⟨i,j,hi,rfl,hj,e⟩:=IW enc sz hsz hp _ m u hm;have b : i<l.length:=by simpa using hi
 by_cases hik:i=k
 ·subst hik;rw[show off+(i*sz+j)=(off+i*sz)+j from by omega];have h1:(i+1)*sz≤l.length*sz:=sW _ hk;rw[sS] at h1;exact putAt_in _ _ _ _ _ (by rw[hsz];omega) (by simpa using e)
 have a:off+(i*sz+j)<off+k*sz∨off+k*sz+(enc x).length≤off+(i*sz+j):=by
  rw[hsz];rcases zO hik with h1|h1
  ·have:=sW sz h1;rw[Nat.succ_mul] at this;omega
  have:=sW sz h1;rw[Nat.succ_mul] at this;omega
 rw[putAt_out _ _ _ _ a];refine h _ _ ?_;rw[tX enc sz hsz l i b j hj];rw[List.getElem_set_ne (fun e=>hik e.symm)] at e;exact e
theorem Own.put {α:Type} {enc:α→List Value} (hsz:∀x,(enc x).length=sz) (hp:0<sz) {l:List α} (h:Own w B e sz v l.length (l.flatMap enc)) (k:Nat) (hk:k<l.length) :
  ∃g off cap cur,v = .slice (some ⟨g,off,none⟩) l.length cap∧B≤g∧aJ w g cur e∧off+k*sz+sz≤cur.size∧(∀j u,(enc l[k])[j]?=some u→w.cell? ⟨g,off+k*sz+j,none⟩=some u) ∧
   ∀w' x,aJ w' g (dE cur (off+k*sz) (enc x)) e→Own w' B e sz v l.length ((l.set k x).flatMap enc):=by
 obtain⟨hl,h⟩:=h;rcases h with ⟨_,h0⟩|⟨g,off,cap,cur,rfl,hB,hg,hc,hm,hs,ht⟩
 ·omega
 have h1:(k+1)*sz≤l.length*sz:=sW _ hk;have h2:l.length*sz≤cap*sz:=sW _ hc;rw[sS] at h1;refine⟨g,off,cap,cur,rfl,hB,hg,by omega,fun j u hj => ?_,fun w' x hw=>⟨?_,.inr ⟨g,off,cap,_,rfl,hB,hw,hc,hm,by rw[size_putAt];exact hs,?_⟩⟩⟩
 ·rw[hg.cell,pX];refine ht _ _ ?_;have a : j<sz:=by
   rcases fM j sz with h|h
   ·exact h
   ·rw[eU (by rw[hsz];exact h)] at hj;cases hj
  rw[tX enc sz hsz l k hk j a];exact hj
 ·rw[flat_len enc sz hsz,cO]
 ·exact DI enc sz hsz hp l k hk x off cur (by omega) ht
theorem Own.put1 {f:Int→Value} (h:Own w B e 1 v l.length (l.map f)) (k:Nat) (hk:k<l.length) :
  ∃g off cap,v = .slice (some ⟨g,off,none⟩) l.length cap∧B≤g∧g<w.heap.size∧w.cell? ⟨g,off+k,none⟩=some (f l[k])∧w.frozen? ⟨g,off+k,none⟩=false ∧
   ∀x,Own (w.setCell ⟨g,off+k,none⟩ (f x)) B e 1 v l.length ((l.set k x).map f):=by
 rw[←nE] at h;obtain⟨g,off,cap,cur,rfl,hB,hg,hs,hc,hw⟩:=h.put (sz:=1) (fun _=>rfl) Nat.one_pos k hk;rw[BR] at hs hc hw;refine⟨g,off,cap,rfl,hB,hg.lt,by simpa using hc 0 _ rfl,hg.free _,fun x => ?_⟩;rw[←nE];exact hw _ x (by simpa[dE] using hg.setCell (off+k) (f x))
theorem Oy {α:Type} (enc:α→List Value) (sz:Nat) (hsz:∀x,(enc x).length=sz) (hp:0<sz) (z:Array Value) (x:α) (hz:z.toList=enc x) (n:Nat):(madeCells z (n*sz)).toList=(List.replicate n x).flatMap enc:=by
 have b:z.size=sz:=by rw[←hsz x,←hz];simp
 apply rA
 ·rw[flat_len enc sz hsz];simp[size_madeCells]
 intro m h1 h2;have hm:m<n*sz:=by simpa[size_madeCells] using h1
 have h3:((List.replicate n x).flatMap enc)[m]?=some ((List.replicate n x).flatMap enc)[m]:=aN h2;obtain⟨i,j,hi,e,hj,he⟩:=IW enc sz hsz hp _ m _ h3;rw[List.getElem_replicate] at he;have a:m%z.size=j:=by rw[b,e,Ca,Nat.mul_add_mod,vB hj]
 simp only[madeCells,Array.toList_map,qi,Array.toList_range,GG,a];rw[←hz,pK] at he;rw[Array.getElem!_eq_getD,bi,he];rfl
theorem xg (w:World) {a:Act} 
 (hg:o.guard=none) (l c:Operand) (t:TypeId) (hop:o.op=Op.makeSlice t l c)
 {α:Type} (enc:α→List Value) (e:TypeId) (z:Value) (size bytes:Nat) (x:α) (hsz:∀x,(enc x).length=size) (hp:0<size) (h1:P.underlying t=some (.slice e)) (h2:(P.info? e).map (fun i=>(i.zero,i.size,i.bytes))=some (some z,size,bytes)) (hz:z.cells.toList=enc x)
 (kl kc:IntKind) (L C:Int) (n:Nat) (hl:a.eval l = .int kl L) (hc:a.eval c = .int kc C) (hL:L=(n:Int)) (hC:C=(n:Int)) (b2:bytes*n≤281474976710656) (b3:n≤maxLen)
 (hK:∀w',Own w' w.heap.size e size (.slice (some ⟨w.heap.size,0,none⟩) n n) n ((List.replicate n x).flatMap enc)→w.grownBy w' none→wpList P ops Q rest (a.put o.dst (.slice (some ⟨w.heap.size,0,none⟩) n n)) w') :
  wpList P ops Q (o::rest) a w:=by
 obtain⟨i,hi,b,hs,hb⟩:=info_parts h2;refine wpList_make_full w hg l c t hop w.heap.size e i z size h1 hi b hs kl kc L C n hl hc hL hC (by rw[hb];exact b2) b3 (az _) fun w' ho d=>hK w' ?_ d;rw[Oy enc size hsz hp z.cells x hz] at ho;exact Own.of_owns ho
theorem own_ne {n:Nat} (h:Own w B e sz v n xs) {g:Nat} (hk:aJ w g cs T) (hT:T≠e):∀g',v.ownBlock=some g'→some g≠some g':=by
 intro g' a he;cases he;rcases h.2 with ⟨rfl,_⟩|⟨g2,off,cap,cur,rfl,_,hb,_⟩
 ·cases a
 cases a;unfold aJ at hk hb;rw[hk] at hb;simp only[iq,qx] at hb;exact hT hb.2.1
theorem ay {n:Nat} (h:Own w B e sz v n xs) {g:Nat} (hk:aJ w g cs T) (hT:T≠e) (hgr:w.grownBy w' (some g)):Own w' B e sz v n xs:=
 h.grown hgr (own_ne h hk hT)
def gM (B:Nat) (e:TypeId) (sz n:Nat) (xs:List Value):nR:=⟨fun v w=>Own w B e sz v n xs,fun _ _ _ hb h=>h.below hb⟩
theorem je (m:World→Prop) (h:∀W,Below w.heap.size w W→aJ W w.heap.size X TX→W.heap.size=w.heap.size+1→m W):m (w.alloc (.cells X TX)):=
 h _ ((Below.refl _ _).alloc (az _) _) (aJ.new _ _ _) (by simp)
theorem uj (m:World→Prop) (h:∀W,Below w.heap.size w W→aJ W w.heap.size X TX→aJ W (w.heap.size+1) Y TY→W.heap.size=w.heap.size+2→m W) :
  m ((w.alloc (.cells X TX)).alloc (.cells Y TY)):=by
 refine je (fun W=>m (W.alloc (.cells Y TY))) fun W1 hb hx hs => ?_;refine je m fun W2 a hy b => ?_;rw[hs] at hy b;exact h W2 (ah hb a) (hx.ext a) hy (by omega)
theorem Ri (m:World→Prop) (h:∀W,Below w.heap.size w W→aJ W w.heap.size X TX→aJ W (w.heap.size+1) Y TY→aJ W (w.heap.size+2) Z TZ→W.heap.size=w.heap.size+3→m W) :
  m (((w.alloc (.cells X TX)).alloc (.cells Y TY)).alloc (.cells Z TZ)):=by
 refine uj (fun W=>m (W.alloc (.cells Z TZ))) fun W1 hb hx hy hs => ?_;refine je m fun W2 a hz b => ?_;rw[hs] at hz b;exact h W2 (ah hb a) (hx.ext a) (hy.ext a) hz (by omega)
theorem XD {V:Array Value} (m:World→Prop) (h:∀W,Below w.heap.size w W→aJ W w.heap.size X TX→aJ W (w.heap.size+1) Y TY→aJ W (w.heap.size+2) Z TZ→aJ W (w.heap.size+3) V TV→W.heap.size=w.heap.size+4→m W) :
  m ((((w.alloc (.cells X TX)).alloc (.cells Y TY)).alloc (.cells Z TZ)).alloc (.cells V TV)):=by
 refine Ri (fun W=>m (W.alloc (.cells V TV))) fun W1 hb hx hy hz hs => ?_;refine je m fun W2 a hv b => ?_;rw[hs] at hv b;exact h W2 (ah hb a) (hx.ext a) (hy.ext a) (hz.ext a) hv (by omega)
theorem Own.drop {α:Type} {enc:α→List Value} (hsz:∀x,(enc x).length=sz) {l:List α} {g:Nat} (h:Own w B e sz (.slice (some ⟨g,off,none⟩) l.length cap) l.length (l.flatMap enc)) (k:Nat) (hk:k≤l.length) :
  Own w B e sz (.slice (some ⟨g,off+k*sz,none⟩) (l.drop k).length (cap-k)) (l.drop k).length ((l.drop k).flatMap enc):=by
 obtain⟨hl,h⟩:=h;rcases h with ⟨h1,_⟩|⟨g',off',cap',cur,hv,hB,hg,hc,hm,hs,ht⟩
 ·cases h1
 cases hv;refine⟨flat_len enc sz hsz _,.inr ⟨g,off+k*sz,cap-k,cur,rfl,hB,hg,by simp;omega,by omega,?_,fun j u hj => ?_⟩⟩
 ·have:(cap-k)*sz+k*sz=cap*sz:=by rw[←sS];congr 1;omega
  omega
 rw[pX];refine ht _ _ ?_;have e:l.flatMap enc=(l.take k).flatMap enc++(l.drop k).flatMap enc:=by rw[←gW,qp]
 rw[e,jg (by rw[flat_len enc sz hsz,fG,rD hk];omega),flat_len enc sz hsz,fG,rD hk,CF];exact hj
theorem gH {l:List nR} (v:Value) (hw:Region.wanted o (iH ρ ops)=true) (hrun:(execOp ρ o).run P w = .ok (.value v) w') (hb:Below w.heap.size w w') (hR:rl l i v w') :
  if Region.wanted o (iH ρ ops)=true then dU P o ρ w (fun v w'=>Below w.heap.size w w'∧rl l i v w') else rl l i undef w:=by
 rw[if_pos hw];unfold dU;rw[hrun];exact⟨hb,hR⟩
theorem wJ (h:w.grownBy w' none):Below w.heap.size w w':=(Below.refl _ _).grown h (az _) (fun k hk=>by cases hk)
def nG (ops:Array Oper):Nat→Nat→List Nat
 | 0,_=>[]
 | f+1,i=>match ops[i]? with
  | none=>[]
  | some o=>o.after.toList.flatMap fun e=>e.on::nG ops f e.on
def jm (ops:Array Oper) (m:Nat):Bool:=
 (List.range ops.size).all fun i=>decide (i<m)||(List.range i).all fun j=>(nG ops ops.size i).contains j
theorem qF {ops:Array Oper} {listed:Array Bool} (hc:∀i o,ops[i]?=some o→listed.getD i false=true→∀e∈o.after,listed.getD e.on false=true):∀(f i:Nat),(∀o,ops[i]?=some o→∀e∈o.after,listed.getD e.on false=true)→∀j∈nG ops f i,listed.getD j false=true
 | 0,_,_,j,hj=>by simp[nG] at hj
 | f+1,i,h,j,hj=>by
  unfold nG at hj;cases ho:ops[i]? with
  | none=>simp[ho] at hj
  | some o=>
   simp only[ho,jq] at hj;obtain⟨e,he,hj⟩:=hj;have he':=lW.1 he;rcases eT.1 hj with rfl|hj
   ·exact h o ho e he'
   ·exact qF hc f e.on (fun o' ho'=>hc e.on o' ho' (h o ho e he')) j hj
theorem qZ {m:Nat} (h:jm ops m=true) {listed:Array Bool} (hc:∀i o,ops[i]?=some o→listed.getD i false=true→∀e∈o.after,listed.getD e.on false=true) (hi:ops[i]?=some o) (hL:∀e∈o.after,listed.getD e.on false=true) (hm:m≤i) (j:Nat) (hj:j<i):listed.getD j false=true:=by
 have b:i<ops.size:=(gU.1 hi).1;have h1:=dh.1 h i (bX.2 b);simp only[qY,decide_eq_true_eq] at h1;rcases h1 with h1|h1
 ·omega
 have h2:=dh.1 h1 j (bX.2 hj);refine qF hc ops.size i (fun o' a => ?_) j (by simpa using h2);rw[hi] at a;cases a;exact hL
theorem oL {m:Nat} (hok:jV ops=true) (ht:jm ops m=true):∀(fuel k:Nat) (listed:Array Bool) (a:Act) (w:World),
  m≤k→k≤ops.size→ops.size-k≤fuel→listed.size=ops.size→(∀i,i<ops.size→listed.getD i false=decide (i<k))→wpList P ops Q (ops.toList.drop k) a w→wpAny P .any ops Q fuel listed a w:=by
 intro fuel
 induction fuel with
 | zero=>
  intro k listed a w p hk hf g hL h;obtain rfl:k=ops.size:=by omega
  refine⟨?_,?_⟩
  ·rw[List.eq_nil_iff_forall_not_mem];intro i hi;obtain⟨h1,o,ho,_⟩:=mem_ready.1 hi;have b:i<ops.size:=(gU.1 ho).1;have:=hL i b;simp[bi,show i<listed.size by omega] at h1 this;rw[h1] at this;simp[b] at this
  rw[vI (by simp)] at h;simpa[wpList] using h
 | succ fuel ih=>
  intro k listed a w p hk hf g hL h;have only:∀i∈Region.ready .any ops listed,i=k:=by
   intro i hi;obtain⟨h1,o,ho,f⟩:=mem_ready.1 hi;have b:i<ops.size:=(gU.1 ho).1;have h2:=hL i b;have h3:listed.getD i false=false:=by simp[bi,show i<listed.size by omega] at h1 ⊢;exact h1
   rw[h3] at h2;have r:k≤i:=by have:=h2.symm;simpa using this
   rcases fM k i with hlt' | hge
   ·exfalso;have h4:listed.getD k false=true:=qZ ht (fun i' o' l n e he=>by
     have q : i' < ops.size:=(gU.1 l).1;have h8:=(fJ hok l).2.1 e he;rw[hL i' q] at n;have h9:i' < k:=by simpa using n
     rw[hL e.on (by omega)];simp;omega) ho (fun e he=>f e he ((fJ hok ho).2.1 e he).1) (by omega) k hlt'
    have h5:=hL k (by omega);rw[h4] at h5;simp at h5
   ·omega
  refine⟨fun c => ?_,fun i hi => ?_⟩
  ·rcases fM k ops.size with b|hge
   ·exfalso;have:k∈Region.ready .any ops listed:=by
     rw[mem_ready];refine⟨?_,ops[k],by simp[b],fun e he hb => ?_⟩
     ·have:=hL k b;simp[bi,show k<listed.size by omega] at this ⊢;exact this
     have h6:=(fJ hok (i:=k) (o:=ops[k]) (by simp[b])).2.1 e he;rw[hL e.on (by omega)];simp[h6.2]
    rw[c] at this;cases this
   rw[vI (by simpa using hge)] at h;simpa[wpList] using h
  obtain rfl:=only i hi;obtain⟨_,o,ho,_⟩:=mem_ready.1 hi;have b:i<ops.size:=(gU.1 ho).1;have d:ops.toList.drop i=o::ops.toList.drop (i+1):=by rw[xw (by simpa using b)];congr 1;have:=(gU.1 ho).2;simpa using this
  rw[d] at h;have hw:wpOp P ops Q i (wpList P ops Q (ops.toList.drop (i+1))) a w:=by unfold wpOp;simp only[ho];simpa[wpList] using h
  refine wpOp_mono (fun a' w' h'=>ih (i+1) _ a' w' (by omega) (by omega) (by omega) (by simp[g]) (fun j hj => ?_) h') hw
  by_cases hji:j=i
  ·subst hji;simp[bi,show j<listed.size by omega]
  have:=hL j hj;simp only[bi,gB (lI hji)] at this ⊢;rw[this];congr 1;simp;omega
def Fixed:List nR→Prop
 | []=>True
 | R::l=>(∀v w w',R.r v w→R.r v w')∧Fixed l
theorem fix_nil:Fixed []:=trivial
theorem QD {R:nR} {l:List nR} (h:∀v w w',R.r v w→R.r v w') (hl:Fixed l):Fixed (R::l):=⟨h,hl⟩
theorem Fixed.at:∀ {l:List nR},Fixed l→∀i v w w',rl l i v w→rl l i v w'
 | [],_,_,_,_,_,_=>by unfold rl;simp[anyR]
 | R::l,h,0,v,w,w',hr=>by unfold rl at hr ⊢; simpa using h.1 v w w' (by simpa using hr)
 | R::l,h,i+1,v,w,w',hr=>by have:=Fixed.at h.2 i v w w';unfold rl at hr this ⊢;simp only[List.getD_cons_succ] at hr ⊢;exact this hr
def zW (F:Value→Prop):nR:=⟨fun v _=>F v,fun _ _ _ _ h=>h⟩
def uy (y:Nat→Value) (i:Nat) (v:Value):Nat→Value:=fun k=>if k=i then v else y k
def WV (ops:Array Oper) (m:Nat) (R:Nat→Value→World→Prop) (a0:Act) (J:(Nat→Bool)→(Nat→Value)→World→Prop) (listed:Array Bool) (a:Act) (w:World):Prop:=
 (∀i,m≤i→listed.getD i false=false)∧(∀i o,ops[i]?=some o→listed.getD i false=true→∀e∈o.after,listed.getD e.on false=true)∧∃y:Nat→Value,a = { a0 with tmps:=lay (fun i=>listed.getD i false) y ops.toList 0 a0.tmps }∧J (fun i=>listed.getD i false) y w∧∀i,i<ops.size→listed.getD i false=true→R i (y i) w
theorem Ff (m:Nat) (hok:jV ops=true) (ht:jm ops m=true) (hmn:m≤ops.size)
 (R:Nat→Value→World→Prop) (J:(Nat→Bool)→(Nat→Value)→World→Prop) (hJ0:∀y,J (fun _=>false) y w0.drew) (hstab:∀i v w w',R i v w→R i v w')
 (hstep:∀i o,i<m→ops[i]?=some o→∀L y w,L i=false→(∀j,o.after.toList.any (fun e=>e.on==j)=true→L j=true)→J L y w→(∀j,o.after.toList.any (fun e=>e.on==j)=true→R j (y j) w) →
 if Region.wanted o (yielded ops (lay (fun _=>true) y ops.toList 0 a0.tmps))=true then Gives P o { a0 with tmps:=lay (fun _=>true) y ops.toList 0 a0.tmps } w (fun v w'=>J (pE L i) (uy y i v) w'∧R i v w') else J (pE L i) (uy y i undef) w∧R i undef w)
 (hend:∀y w,J (fun i=>decide (i<m)) y w→(∀i,i<m→R i (y i) w)→wpList P ops Q (ops.toList.drop m) { a0 with tmps:=lay (fun i=>decide (i<m)) y ops.toList 0 a0.tmps } w) :
  wpAny P .any ops Q ops.size (Array.replicate ops.size false) a0 w0.drew:=by
 have hG:∀(fuel:Nat) (listed:Array Bool) (a:Act) (w:World),listed.size=ops.size→listed.toList.countP (!·)≤fuel→WV ops m R a0 J listed a w→wpAny P .any ops Q fuel listed a w:=by
  intro fuel
  induction fuel with
  | zero=>
   intro listed a w n hc hA;have hl:∀i,i<ops.size→listed.getD i false=true:=by
    intro i hH;have h0:listed.toList.countP (!·)=0:=by omega
    have:=rY.1 h0 (listed[i]'(by omega)) (by simp);simpa[bi,show i<listed.size by omega] using this
   obtain⟨b,hz,y,ha,hb,hR⟩:=hA;have hC : m=ops.size:=by
    rcases fM m ops.size with h|h
    ·have h1:=hl m h;rw[b m (az _)] at h1;cases h1
    ·omega
   refine oL (m:=m) hok ht 0 ops.size listed a w (by omega) (az _) (by omega) n (fun i hi=>by rw[hl i hi];simp[hi]) ?_;have hf:(fun i=>listed.getD i false)=fun i=>decide (i<m):=by
    funext i
    by_cases hi:i<m
    ·rw[hl i (by omega)];simp[hi]
    ·rw[b i (by omega)];simp[hi]
   rw[hf] at hb;have:=hend y w hb fun i hi=>hR i (by omega) (hl i (by omega));rw[ha,mX (fun i=>listed.getD i false) (fun i=>decide (i<m)) y ops.toList 0 a0.tmps (fun k hk=>by
    have hI : k<ops.size:=by simpa using hk
    simp only[dM];rw[hl k hI];simp;omega)]
   rw[hC] at this ⊢;exact this
  | succ fuel ih=>
   intro listed a w n hc hA
   by_cases hfull:∀i,i<m→listed.getD i false=true
   ·obtain⟨b,hz,y,ha,hb,hR⟩:=hA;have hL:∀i,i<ops.size→listed.getD i false=decide (i<m):=by
     intro i hi
     by_cases him:i<m
     ·rw[hfull i him];simp[him]
     ·rw[b i (by omega)];simp[him]
    have hp:ops.size-m≤fuel+1:=by
     have h1:listed.toList.countP (!·)=ops.size-m:=by
      have e:listed.toList=List.replicate m true++List.replicate (ops.size-m) false:=by
       apply pM;intro i
       by_cases hi:i<ops.size
       ·have h2:=hL i hi;rw[pK,uE (show i<listed.size by omega)];simp only[bi,uE (show i<listed.size by omega),rZ] at h2;rw[h2]
        by_cases him:i<m
        ·rw[iD (by simpa using him)];simp[him]
        rw[jg (by simp;omega)];rw[lX,sP,if_pos (by omega)];simp[him]
       ·rw[eU (by simp;omega),eU (by simp;omega)]
      rw[e];simp[Ci,Hd]
     omega
    refine oL (m:=m) hok ht (fuel+1) m listed a w (az _) hmn hp n hL ?_;have hf:(fun i=>listed.getD i false)=fun i=>decide (i<m):=by
     funext i
     by_cases hi:i<m
     ·rw[hfull i hi];simp[hi]
     ·rw[b i (by omega)];simp[hi]
    rw[hf] at hb;have:=hend y w hb fun i hi=>hR i (by omega) (hfull i hi);rw[ha,mX (fun i=>listed.getD i false) (fun i=>decide (i<m)) y ops.toList 0 a0.tmps (fun k hk=>by simp only[dM];exact hL k (by simpa using hk))];exact this
   have r:Region.ready .any ops listed≠[]:=by
    intro hn;apply hfull;intro i
    induction i using Nat.strongRecOn with
    | ind i ih'=>
     intro him
     by_cases hc' : listed.getD i false=true
     ·exact hc'
     exfalso;have hi:i<ops.size:=by omega
     have hr:i∈Region.ready .any ops listed:=by
      rw[mem_ready];refine⟨?_,ops[i],by simp[hi],fun e he _ => ?_⟩
      ·simpa[bi,show i<listed.size by omega] using hc'
      have:=(fJ hok (i:=i) (o:=ops[i]) (by simp[hi])).2.1 e he;exact ih' e.on this.2 (by omega)
     rw[hn] at hr;cases hr
   refine⟨fun h=>absurd h r,fun i hi => ?_⟩;obtain⟨h1,o,ho,hy⟩:=mem_ready.1 hi;have hH:i<ops.size:=(gU.1 ho).1;obtain⟨hB,d,_⟩:=fJ hok ho;have hL:∀e∈o.after,listed.getD e.on false=true:=fun e he=>hy e he (d e he).1;have him:i<m:=by
    rcases fM i m with h|h
    ·exact h
    exfalso;apply hfull;intro j hj;exact qZ ht hA.2.1 ho hL h j (by omega)
   obtain⟨b,hz,y,ha,hb,hR⟩:=hA;have z:∀v w',J (pE (fun i=>listed.getD i false) i) (uy y i v) w'→R i v w'→wpAny P .any ops Q fuel (listed.setIfInBounds i true) (a.put o.dst v) w':=by
    intro v w' hF hv;have hf:pE (fun i=>listed.getD i false) i=fun k=>(listed.setIfInBounds i true).getD k false:=by
     funext k;unfold pE
     by_cases hki:k=i
     ·subst hki;simp[bi,show k<listed.size by omega]
     rw[if_neg hki];simp[bi,gB (lI hki)]
    rw[hf] at hF;refine ih _ _ _ (by simp[n]) ?_ ⟨fun k hk => ?_,fun k o' u hk e he => ?_,fun k=>if k=i then v else y k,?_,hF,?_⟩
    ·have hD:i<listed.toList.length:=by simp;omega
     have c:listed.toList[i]=false:=by simpa[bi,show i<listed.size by omega] using h1
     have:=Ig (p:=(!·)) (l:=listed.toList) (i:=i) (a:=true) hD;rw[c] at this;have hK:0<listed.toList.countP (!·):=xI.2 ⟨listed.toList[i],eX hD,by rw[c];rfl⟩;simp only[zh];simp only[Gx,Gj,if_true,pV,if_false] at this;omega
    ·have:=b k hk;simp only[bi,gB (show i≠k by omega)] at this ⊢;exact this
    ·have up:∀q,listed.getD q false=true→(listed.setIfInBounds i true).getD q false=true:=by
      intro q hq
      by_cases hqi:q=i
      ·subst hqi;simp[bi,show q<listed.size by omega]
      ·simpa[bi,gB (lI hqi)] using hq
     apply up
     by_cases hki:k=i
     ·subst hki;rw[ho] at u;cases u;exact hL e he
     ·exact hz k o' u (by simpa[bi,gB (lI hki)] using hk) e he
    ·rw[ha,Cs hok ho n v]
    intro k hk hJ
    by_cases hki:k=i
    ·subst hki;simpa using hv
    have:listed.getD k false=true:=by simpa[bi,gB (lI hki)] using hJ
    simp only[hki,if_false];exact hstab _ _ _ _ (hR k hk this)
   have hh:∀t∈o.looksAt ops,a.tmps[t]?=(lay (fun _=>true) y ops.toList 0 a0.tmps)[t]?:=fun t ht=>by rw[ha];exact xJ hok ho hL t ht
   have hu:execOp a.eval o=execOp ({ a0 with tmps:=lay (fun _=>true) y ops.toList 0 a0.tmps }:Act).eval o:=by
    refine execOp_congr o hB fun x hx => ?_;cases x with
    | tmp t=>
     have:=hh t (uO _ (Cq.2 ⟨.tmp t,by simpa using hx,rfl⟩));simp[Act.eval,this]
    | _=>rfl
   have f:Region.wanted o (yielded ops a.tmps)=Region.wanted o (yielded ops (lay (fun _=>true) y ops.toList 0 a0.tmps)):=by
    unfold Region.wanted;cases hg:o.guard with
    | none=>rfl
    | some gw=>
     obtain⟨g,want⟩:=gw;have:yielded ops a.tmps g=yielded ops (lay (fun _=>true) y ops.toList 0 a0.tmps) g:=by
      unfold yielded;cases hd:(ops[g]?).bind (·.dst) with
      | none=>rfl
      | some t=>
       have:=hh t (uP _ (by simp[hg,hd]));simp[this]
     simp only[this]
   have hs:=hstep i o him ho (fun i=>listed.getD i false) y w (by simpa[bi,show i<listed.size by omega] using h1) (fun j hj=>by
    obtain⟨e,he,hw⟩:=jU.1 hj;have hm : e.on=j:=by simpa using hw
    subst hm;exact hL e (lW.1 he)) hb (fun j hj=>by
    obtain⟨e,he,hw⟩:=jU.1 hj;have hm : e.on=j:=by simpa using hw
    subst hm;have hE:=lW.1 he;exact hR e.on (by have:=(d e hE).2;omega) (hL e hE))
   by_cases hwt:Region.wanted o (yielded ops (lay (fun _=>true) y ops.toList 0 a0.tmps))=true
   ·rw[if_pos hwt] at hs;exact ow ho (by rw[f];exact hwt) hu hs fun v w' h=>z v w' h.1 h.2
   rw[if_neg hwt] at hs;unfold wpOp;simp only[ho];rw[if_neg (by rw[f];exact hwt)];exact z undef w hs.1 hs.2
 refine hG ops.size _ _ _ (by simp) ?_ ⟨fun i _ => ?_,fun i o' u hi => ?_,fun _=>undef,?_,?_,?_⟩
 ·simpa using xA (p:=(!·)) (l:=List.replicate ops.size false)
 ·simp[bi,qX];split<;>rfl
 ·exfalso;have:i<ops.size:=(gU.1 u).1;simp[bi,this] at hi
 ·have e:lay (fun i=>(Array.replicate ops.size false).getD i false) (fun _=>undef) ops.toList 0 a0.tmps=a0.tmps:=by apply pJ;intro s;exact iC _ _ s _ 0 _ fun k o' hk hd=>by simp[bi,qX];split<;>rfl
  rw[e]
 ·have e:(fun i=>(Array.replicate ops.size false).getD i false)=fun _=>false:=by funext i;simp[bi,qX];split<;>rfl
  rw[e];exact hJ0 _
 intro i hi hL;simp[bi,hi] at hL
def wL (P:Program) (ops:Array Oper) (a0:Act) (J:(Nat→Bool)→(Nat→Value)→World→Prop) (l:List nR) (i:Nat) (o:Oper):Prop:=
 ∀(ρ:Operand→Value) (y:Nat→Value) (w:World) (L:Nat→Bool),(∀t j,writer ops t=some j→ρ (.tmp t)=y j)→(∀x,(match x with | .tmp t=>writer ops t=none | _=>True)→ρ x=a0.eval x) →
  L i=false→(∀j,o.after.toList.any (fun e=>e.on==j)=true→L j=true)→J L y w→(∀j,o.after.toList.any (fun e=>e.on==j)=true→rl l j (y j) w) →
  if Region.wanted o (iH ρ ops)=true then dU P o ρ w (fun v w'=>J (pE L i) (uy y i v) w'∧rl l i v w') else J (pE L i) (uy y i undef) w∧rl l i undef w
theorem Pi (m:Nat) (l:List nR) (J:(Nat→Bool)→(Nat→Value)→World→Prop) (hst:∀L y w w',Below w.heap.size w w'→J L y w→J L y w') (hJ0:∀y,J (fun _=>false) y w0) (hfix:Fixed l) (hok:jV ops=true) (ht:jm ops m=true) (hmn:m≤ops.size)
 (n:Nat) (hn:a0.tmps.size=n) (hsz:lg ops n=true)
 (hstep:bC (wL P ops a0 J l) 0 (ops.toList.take m))
 (hend:∀y w,J (fun i=>decide (i<m)) y w→(∀i,i<m→rl l i (y i) w)→wpList P ops Q (ops.toList.drop m) { a0 with tmps:=lay (fun i=>decide (i<m)) y ops.toList 0 a0.tmps } w) :
  wpAny P .any ops Q ops.size (Array.replicate ops.size false) a0 w0.drew:=by
 refine Ff m hok ht hmn (rl l) J (fun y=>hst _ y w0 w0.drew ⟨rfl,rfl,rfl,az _,fun _ _=>rfl⟩ (hJ0 y)) (fun i v w w' h=>hfix.at i v w w' h) (fun i o u hi L y w hc hf hb hd => ?_) hend;have f:∀t j,writer ops t=some j→({ a0 with tmps:=lay (fun _=>true) y ops.toList 0 a0.tmps }:Act).eval (.tmp t)=y j:=by
  intro t j hw;unfold writer at hw;have h1:=rX hw;have h2:=bX.1 (uG hw);cases ho:ops[j]? with
  | none=>simp[ho] at h1
  | some p=>
   have a : p.dst=some t:=by simpa[ho] using h1
   have s:t<a0.tmps.size:=by have:=dh.1 hsz p (lW.2 (zy ho));rw[hn];simpa[a] using this
   have hu:∀k' o',ops.toList[k']?=some o'→o'.dst=some t→k' = j:=by
    intro k' o' b ha;rcases ((fJ hok (i:=k') (o:=o') (by simpa using b)).2.2 j p t ho a).1 with h|h
    ·exact h
    ·exact absurd ha h
   have:=ll (fun _=>true) y t ops.toList 0 a0.tmps j p (by simpa using ho) a rfl hu s;simp[Act.eval,this]
 have r:∀x,(match x with | .tmp t=>writer ops t=none | _=>True)→({ a0 with tmps:=lay (fun _=>true) y ops.toList 0 a0.tmps }:Act).eval x=a0.eval x:=by
  intro x hx;cases x with
  | tmp t=>
   have:(lay (fun _=>true) y ops.toList 0 a0.tmps)[t]?=a0.tmps[t]?:=by
    refine iC _ y t _ 0 _ fun k o' hk a => ?_;exfalso;simp only[writer] at hx;have b : ops[k]?=some o':=by simpa using hk
    have e:k<ops.size:=(gU.1 b).1;have:=pW.1 hx k (bX.2 e);simp[b,a] at this
   simp[Act.eval,this]
  | _=>rfl
 have c:Region.wanted o (yielded ops (lay (fun _=>true) y ops.toList 0 a0.tmps))=Region.wanted o (iH ({ a0 with tmps:=lay (fun _=>true) y ops.toList 0 a0.tmps }:Act).eval ops):=by
  congr 1;funext g;unfold yielded iH;cases (ops[g]?).bind (·.dst) with
  | none=>rfl
  | some d=>
   simp only[yL,Act.eval,bi];generalize (lay (fun _=>true) y ops.toList 0 a0.tmps)[d]?=q;cases q with
   | none=>rfl
   | some v=>cases v<;>rfl
 have z : (ops.toList.take m)[i]?=some o:=by rw[kF,if_pos u];simpa using hi
 have:=bC.at hstep i o z _ y w L f r (by rw[dM];exact hc) hf hb hd;rw[dM] at this;rw[c];exact this
theorem zV {l:List nR} {J:(Nat→Bool)→(Nat→Value)→World→Prop} (hst:∀L y w w',Below w.heap.size w w'→J L y w→J L y w')
 (hpure:∀v w,J L y w→J (pE L i) (uy y i v) w) (hJ:J L y w)
 (h:if Region.wanted o (iH ρ ops)=true then dU P o ρ w (fun v w'=>Below w.heap.size w w'∧rl l i v w') else rl l i undef w) :
  if Region.wanted o (iH ρ ops)=true then dU P o ρ w (fun v w'=>J (pE L i) (uy y i v) w'∧rl l i v w') else J (pE L i) (uy y i undef) w∧rl l i undef w:=by
 split at h
 ·rename_i hw;rw[if_pos hw];unfold dU at h ⊢;split at h
  ·exact⟨hpure _ _ (hst _ _ _ _ h.1 hJ),h.2⟩
  ·exact⟨hpure _ _ (hst _ _ _ _ h.1 hJ),h.2⟩
  ·refine xL h fun e w'' he => ?_;cases e with
   | returned v=>exact⟨hpure _ _ (hst _ _ _ _ he.1 hJ),he.2⟩
   | panicked c=>exact he.elim
   | outgrown=>exact he.elim
  ·exact h.elim
 rename_i hw;rw[if_neg hw];exact⟨hpure _ _ hJ,h⟩
theorem Mm {a:Act} {F G:Value→World→Prop} (h:Gives P o a w F) (hi:∀v w',F v w'→G v w'):Gives P o a w G:=by
 unfold Gives at h ⊢;generalize (execOp a.eval o).run P w=r at h;cases r with
 | ok n w'=>
  cases n<;>first
   | exact hi _ _ h
   | exact xL h fun e w'' he=>by cases e<;>first | exact hi _ _ he | exact he
   | exact h
 | halt x w'=>exact h
theorem UY {R R' : Nat→Value→Prop} (h:∀k,L k=true→R k (y k)) (hv:R' i v) (hs:∀k v,R k v→R' k v) (k:Nat) (hk:pE L i k=true):R' k (uy y i v k):=by
 unfold pE at hk;unfold uy
 by_cases e:k=i
 ·rw[if_pos e,e];exact hv
 rw[if_neg e] at hk ⊢;exact hs _ _ (h k hk)
theorem BJ (m:Nat) (hm:P.follows .mixedOrders=true) (hok:jV ops=true) (ht:jm ops m=true) (hmn:m≤ops.size)
 (R:Nat→Value→World→Prop) (hstab:∀i v w w',Below w.heap.size w w'→R i v w→R i v w')
 (hstep:∀i o,i<m→ops[i]?=some o→∀y w,Below w0.heap.size w0 w→(∀j,o.after.toList.any (fun e=>e.on==j)=true→R j (y j) w) →
 if Region.wanted o (yielded ops (lay (fun _=>true) y ops.toList 0 a0.tmps))=true then Gives P o { a0 with tmps:=lay (fun _=>true) y ops.toList 0 a0.tmps } w (fun v w'=>Below w.heap.size w w'∧R i v w') else R i undef w)
 (hend:∀y w,Below w0.heap.size w0 w→(∀i,i<m→R i (y i) w)→wpList P ops Q (ops.toList.drop m) { a0 with tmps:=lay (fun i=>decide (i<m)) y ops.toList 0 a0.tmps } w) :
  (Code.region id ops true).wp P Q a0 w0:=
 wp_region_any hm (Ff m hok ht hmn (fun _ _ _=>True) (fun L y w=>Below w0.heap.size w0 w∧∀i,L i=true→R i (y i) w) (fun y=>⟨⟨rfl,rfl,rfl,az _,fun _ _=>rfl⟩,fun i h=>(by cases h)⟩) (fun _ _ _ _ _=>trivial) (fun i o hi ho L y w hL hd hJ _=>by
  have h:=hstep i o hi ho y w hJ.1 (fun j hj=>hJ.2 j (hd j hj));have hup:∀v w',Below w.heap.size w w'→R i v w'→Below w0.heap.size w0 w'∧∀k,pE L i k=true→R k (uy y i v k) w':=fun v w' hb hr=>⟨ah hJ.1 hb,fun k hk=>UY hJ.2 hr (fun k v h=>hstab k v _ _ hb h) k hk⟩;split at h
  ·rename_i hw;rw[if_pos hw];exact Mm h fun v w' hh=>⟨hup v w' hh.1 hh.2,trivial⟩
  rename_i hw;rw[if_neg hw];exact⟨hup undef w (Below.refl _ _) h,trivial⟩) (fun y w hJ _=>hend y w hJ.1 fun i hi=>hJ.2 i (decide_eq_true hi)))
theorem Re (m:Nat) (l:List nR) (hm:P.follows .mixedOrders=true) (hok:jV ops=true) (ht:jm ops m=true) (hmn:m≤ops.size)
 (n:Nat) (hn:a0.tmps.size=n) (hsz:lg ops n=true)
 (hstep:bC (nW P ops a0 w0 l) 0 (ops.toList.take m))
 (hend:∀y w,Below w0.heap.size w0 w→(∀i,i<m→rl l i (y i) w)→wpList P ops Q (ops.toList.drop m) { a0 with tmps:=lay (fun i=>decide (i<m)) y ops.toList 0 a0.tmps } w) :
  (Code.region id ops true).wp P Q a0 w0:=by
 refine BJ m hm hok ht hmn (rl l) (fun i v w w' hb h=>(l.getD i anyR).st v w w' hb h) (fun i o u hi y w hb hd => ?_) hend;have f:∀t j,writer ops t=some j→({ a0 with tmps:=lay (fun _=>true) y ops.toList 0 a0.tmps }:Act).eval (.tmp t)=y j:=by
  intro t j hw;unfold writer at hw;have h1:=rX hw;have h2:=bX.1 (uG hw);cases ho:ops[j]? with
  | none=>simp[ho] at h1
  | some p=>
   have a : p.dst=some t:=by simpa[ho] using h1
   have s:t<a0.tmps.size:=by have:=dh.1 hsz p (lW.2 (zy ho));rw[hn];simpa[a] using this
   have hu:∀k' o',ops.toList[k']?=some o'→o'.dst=some t→k' = j:=by
    intro k' o' b ha;rcases ((fJ hok (i:=k') (o:=o') (by simpa using b)).2.2 j p t ho a).1 with h|h
    ·exact h
    ·exact absurd ha h
   have:=ll (fun _=>true) y t ops.toList 0 a0.tmps j p (by simpa using ho) a rfl hu s;simp[Act.eval,this]
 have r:∀x,(match x with | .tmp t=>writer ops t=none | _=>True)→({ a0 with tmps:=lay (fun _=>true) y ops.toList 0 a0.tmps }:Act).eval x=a0.eval x:=by
  intro x hx;cases x with
  | tmp t=>
   have:(lay (fun _=>true) y ops.toList 0 a0.tmps)[t]?=a0.tmps[t]?:=by
    refine iC _ y t _ 0 _ fun k o' hk a => ?_;exfalso;simp only[writer] at hx;have b : ops[k]?=some o':=by simpa using hk
    have e:k<ops.size:=(gU.1 b).1;have:=pW.1 hx k (bX.2 e);simp[b,a] at this
   simp[Act.eval,this]
  | _=>rfl
 have c:Region.wanted o (yielded ops (lay (fun _=>true) y ops.toList 0 a0.tmps))=Region.wanted o (iH ({ a0 with tmps:=lay (fun _=>true) y ops.toList 0 a0.tmps }:Act).eval ops):=by
  congr 1;funext g;unfold yielded iH;cases (ops[g]?).bind (·.dst) with
  | none=>rfl
  | some d=>
   simp only[yL,Act.eval,bi];generalize (lay (fun _=>true) y ops.toList 0 a0.tmps)[d]?=q;cases q with
   | none=>rfl
   | some v=>cases v<;>rfl
 have z : (ops.toList.take m)[i]?=some o:=by rw[kF,if_pos u];simpa using hi
 have:=bC.at hstep i o z _ y w f r hb hd;rw[dM] at this;rw[c];exact this
inductive RV where
 | v (V:Value)
 | r (i:Nat) (R:nR)
def RV.R:RV→nR
 | .v V=>gX V
 | .r _ R=>R
def rvs:List RV→List nR
 | []=>[]
 | a::l=>a.R::rvs l
def rvN:RV:=.r 0 anyR
theorem rvs_at:∀(l:List RV) (i:Nat),(rvs l).getD i anyR=(l.getD i rvN).R
 | [],_=>rfl
 | _::_,0=>rfl
 | _::l,i+1=>by have:=rvs_at l i;simpa[rvs] using this
theorem Jo {l:List RV} (hr:l.getD i rvN = .v V) (e:v=V):rl (rvs l) i v w:=by
 unfold rl;rw[rvs_at,hr];exact e
def rvK:List RV→Nat→Option Value
 | .v V::_,0=>some V
 | _::l,k+1=>rvK l k
 | _,_=>none
theorem rvK_at:∀ {l:List RV} {k:Nat} {V:Value},rvK l k=some V→l.getD k rvN = .v V
 | .v V::_,0,_,h=>by cases h;rfl
 | .v _::l,k+1,_,h=>by simpa using rvK_at (l:=l) (k:=k) h
 | .r _ _::l,k+1,_,h=>by simpa using rvK_at (l:=l) (k:=k) h
 | .r _ _::_,0,_,h=>by cases h
 | [],0,_,h=>by cases h
 | [],_+1,_,h=>by cases h
def kt (ops:Array Oper) (a0:Act) (l:List RV) (o:Oper) (t:Nat):Option Value:=
 match writer ops t with
 | some k=>cond (o.after.toList.any fun e=>e.on==k) (rvK l k) none
 | none=>a0.tmps.toList[t]?
def kx (ops:Array Oper) (a0:Act) (l:List RV) (o:Oper):Operand→Option Value
 | .tmp t=>kt ops a0 l o t
 | .const v=>some v
 | .func f=>some (.func (.func f) #[] #[])
 | .global g=>some (.pointer (some ⟨g,0,none⟩))
def kg (ops:Array Oper) (a0:Act) (l:List RV) (o:Oper):Option Bool:=
 match o.guard with
 | none=>some true
 | some (g,want)=>match (ops[g]?).bind (·.dst) with
  | none=>none
  | some d=>match kt ops a0 l o d with
   | some (.bool b)=>some (b==want)
   | some (.tuple _)=>some false
   | _=>none
def XZ (ops:Array Oper) (a0:Act) (l:List RV) (o:Oper):Option Value:=
 match o.op with
 | .move x=>kx ops a0 l o x
 | .assign x=>kx ops a0 l o x
 | .nilCheck x=>match kx ops a0 l o x with
  | some (.pointer (some a))=>some (.pointer (some a))
  | _=>none
 | .unOp .not _ x=>match kx ops a0 l o x with
  | some (.bool true)=>some (.bool false)
  | some (.bool false)=>some (.bool true)
  | _=>none
 | .pick c x y=>match kx ops a0 l o c with
  | some (.bool true)=>kx ops a0 l o x
  | some (.bool false)=>kx ops a0 l o y
  | _=>none
 | _=>none
def ks (ops:Array Oper) (a0:Act) (l:List RV) (o:Oper):Option Value:=
 match kg ops a0 l o with
 | some true=>XZ ops a0 l o
 | some false=>some undef
 | none=>none
section
variable {P:Program} {ops:Array Oper} {a0:Act} {w0:World} {l:List RV} {i:Nat} {o:Oper}
def Kn (ops:Array Oper) (a0:Act) (l:List RV) (o:Oper) (ρ:Operand→Value) (y:Nat→Value) (w:World):Prop:=
 (∀t j,writer ops t=some j→ρ (.tmp t)=y j)∧(∀x,(match x with | .tmp t=>writer ops t=none | _=>True)→ρ x=a0.eval x)∧∀j,o.after.toList.any (fun e=>e.on==j)=true→rl (rvs l) j (y j) w
theorem VM {t:Nat} (h:kt ops a0 l o t=some v) (hk:Kn ops a0 l o ρ y w):ρ (.tmp t)=v:=by
 unfold kt at h;cases hw:writer ops t with
 | none=>
  rw[hw] at h;have h' : a0.tmps.toList[t]?=some v:=h;rw[hk.2.1 (.tmp t) hw];simp only[pK] at h';simp[Act.eval,h']
 | some k=>
  rw[hw] at h;have h' : cond (o.after.toList.any fun e=>e.on==k) (rvK l k) none=some v:=h;cases ha:o.after.toList.any fun e=>e.on==k with
  | false=>rw[ha] at h'; cases h'
  | true=>
   rw[ha] at h';have h1:=hk.2.2 k ha;unfold rl at h1;rw[rvs_at,rvK_at h'] at h1;exact (hk.1 t k hw).trans h1
theorem aV (h:kx ops a0 l o x=some v) (hk:Kn ops a0 l o ρ y w):ρ x=v:=by
 cases x with
 | tmp t=>exact VM h hk
 | const c=>rw[hk.2.1 (.const c) trivial];cases h;rfl
 | func f=>rw[hk.2.1 (.func f) trivial];cases h;rfl
 | global g=>rw[hk.2.1 (.global g) trivial];cases h;rfl
theorem DN {b:Bool} (h:kg ops a0 l o=some b) (hk:Kn ops a0 l o ρ y w):Region.wanted o (iH ρ ops)=b:=by
 unfold kg at h;unfold Region.wanted;cases hg:o.guard with
 | none=>rw[hg] at h;cases h;rfl
 | some q=>
  obtain⟨g,want⟩:=q;rw[hg] at h;simp only at h;cases hd:(ops[g]?).bind (·.dst) with
  | none=>rw[hd] at h;cases h
  | some d=>
   rw[hd] at h;simp only at h;cases hv:kt ops a0 l o d with
   | none=>rw[hv] at h;cases h
   | some v=>
    rw[hv] at h;have e:=VM hv hk;unfold iH;simp only[hd,e];cases v with
    | bool c=>cases h;cases c<;>cases want<;>rfl
    | tuple c=>cases h;rfl
    | _=>cases h
def Bw (P:Program) (ops:Array Oper) (a0:Act) (l:List RV) (i:Nat) (o:Oper):Prop:=
 ∀(ρ:Operand→Value) (y:Nat→Value) (w:World),Kn ops a0 l o ρ y w→(Region.wanted o (iH ρ ops)=false∧rl (rvs l) i undef w)∨(Region.wanted o (iH ρ ops)=true∧∃v,(execOp ρ o).run P w = .ok (.value v) w∧rl (rvs l) i v w)
theorem Bw.run (hg:kg ops a0 l o=some true) (hr:l.getD i rvN = .v V) (h:∀ρ y w,Kn ops a0 l o ρ y w→(execOp ρ o).run P w = .ok (.value V) w):Bw P ops a0 l i o:=fun ρ y w hk => .inr ⟨DN hg hk,V,h ρ y w hk,Jo hr rfl⟩
theorem VI (h:ks ops a0 l o=some V) (hr:l.getD i rvN = .v V):Bw P ops a0 l i o:=by
 unfold ks at h;cases hg:kg ops a0 l o with
 | none=>rw[hg] at h;cases h
 | some b=>
  rw[hg] at h;cases b with
  | false=>
   cases h;exact fun ρ y w hk => .inl ⟨DN hg hk,Jo hr rfl⟩
  | true=>
   have h' : XZ ops a0 l o=some V:=h;refine Bw.run hg hr fun ρ y w hk => ?_;unfold XZ at h';split at h'
   ·rename_i x ho;exact run_move (.inl ho) (aV h' hk)
   ·rename_i x ho;exact run_move (.inr ho) (aV h' hk)
   ·rename_i x ho;split at h'
    ·rename_i a hx;cases h';have e:=aV hx hk;simp[execOp,go_sem,ho,e]
    ·cases h'
   ·rename_i t x ho;split at h'
    ·rename_i hx;cases h'; exact BS ho (aV hx hk)
    ·rename_i hx;cases h'; exact BS ho (aV hx hk)
    ·cases h'
   ·rename_i c x y' ho;split at h'
    ·rename_i hc;exact Kt ho (aV hc hk) (aV h' hk)
    ·rename_i hc;exact Kt ho (aV hc hk) (aV h' hk)
    ·cases h'
   ·cases h'
theorem Bw.asked (h:Bw P ops a0 l i o):nW P ops a0 w0 (rvs l) i o:=fun ρ y w hw hn _ hd=>by
 rcases h ρ y w ⟨hw,hn,hd⟩ with ⟨h1,h2⟩|⟨h1,v,h2,h3⟩
 ·exact Db h1 h2
 ·exact ak v h1 h2 h3
theorem Bw.askedQ {J:(Nat→Bool)→(Nat→Value)→World→Prop} (hst:∀L y w w',Below w.heap.size w w'→J L y w→J L y w') (hp:∀L y v w,(∀j,o.after.toList.any (fun e=>e.on==j)=true→L j=true)→J L y w→J (pE L i) (uy y i v) w) (h:Bw P ops a0 l i o):wL P ops a0 J (rvs l) i o:=fun ρ y w L hw hn _ hLd hJ hd=>by
 rcases h ρ y w ⟨hw,hn,hd⟩ with ⟨h1,h2⟩|⟨h1,v,h2,h3⟩
 ·exact zV hst (fun v w=>hp L y v w hLd) hJ (Db h1 h2)
 ·exact zV hst (fun v w=>hp L y v w hLd) hJ (ak v h1 h2 h3)
variable {C:Nat→Oper→Prop} {r:List Oper}
theorem SH (hC:Bw P ops a0 l i o→C i o) (h:(ks ops a0 l o).map RV.v=some (l.getD i rvN)) (hl:bC C (i+1) r):bC C i (o::r):=⟨hC (by
 cases hk:ks ops a0 l o with
 | none=>rw[hk] at h;cases h
 | some V=>
  rw[hk] at h;exact VI hk (aT h).symm),hl⟩
theorem Gk (h:(ks ops a0 l o).map RV.v=some (l.getD i rvN)) (hl:bC (nW P ops a0 w0 (rvs l)) (i+1) r):bC (nW P ops a0 w0 (rvs l)) i (o::r):=SH Bw.asked h hl
def Xe (ops:Array Oper) (a0:Act) (l:List RV) (o:Oper):Option (TypeId × Value × Nat):=
 match kg ops a0 l o with
 | some true=>match o.op with
  | .fieldAddr t x f=>(kx ops a0 l o x).map fun v=>(t,v,f)
  | _=>none
 | _=>none
theorem MV (hC:Bw P ops a0 l i o→C i o) (b k:Nat) (h:Xe ops a0 l o=some (t,v,f)) (hr:l.getD i rvN = .v (.pointer (some ⟨b,k,none⟩))) (hl:bC C (i+1) r) (hf:∀w,(Instr.fieldAt t v f).run P w = .ok (.pointer (some ⟨b,k,none⟩)) w:=by intro _;kernel_rfl):bC C i (o::r):=by
 refine⟨hC ?_,hl⟩;unfold Xe at h;split at h
 ·rename_i hg;split at h
  ·rename_i t' x f' ho;cases hx:kx ops a0 l o x with
   | none=>rw[hx] at h;cases h
   | some v'=>
    rw[hx] at h;cases h;exact Bw.run hg hr fun ρ y w hk=>EP ho (aV hx hk) (hf w)
  ·cases h
 ·cases h
theorem Gf (b k:Nat) (h:Xe ops a0 l o=some (t,v,f)) (hr:l.getD i rvN = .v (.pointer (some ⟨b,k,none⟩))) (hl:bC (nW P ops a0 w0 (rvs l)) (i+1) r) (hf:∀w,(Instr.fieldAt t v f).run P w = .ok (.pointer (some ⟨b,k,none⟩)) w:=by intro _;kernel_rfl):bC (nW P ops a0 w0 (rvs l)) i (o::r):=MV Bw.asked b k h hr hl hf
theorem VZ (hC:Bw P ops a0 l i o→C i o) {n:Nat} (hg:kg ops a0 l o=some true) (ho:o.op = .call { callee:=.builtin .len,args:=#[x],argTypes:=#[t] }) (hx:kx ops a0 l o x=some (.slice a n c)) (hr:l.getD i rvN = .v (.int .i64 n)) (hl:bC C (i+1) r) (ht:P.underlying t=some (.slice (P.elem t)):=by rfl):bC C i (o::r):=
 ⟨hC (Bw.run hg hr fun ρ y w hk=>JL ho (aV hx hk) ht),hl⟩
theorem Gn {n:Nat} (hg:kg ops a0 l o=some true) (ho:o.op = .call { callee:=.builtin .len,args:=#[x],argTypes:=#[t] }) (hx:kx ops a0 l o x=some (.slice a n c)) (hr:l.getD i rvN = .v (.int .i64 n)) (hl:bC (nW P ops a0 w0 (rvs l)) (i+1) r) (ht:P.underlying t=some (.slice (P.elem t)):=by rfl):bC (nW P ops a0 w0 (rvs l)) i (o::r):=VZ Bw.asked hg ho hx hr hl ht
theorem VX (hC:Bw P ops a0 l i o→C i o) (V:Value) {op:BinOp} {y:Operand} (hr:∀w,(do eqGuard op t x y vx vy;binOp op t vx vy:Sem Value).run P w = .ok V w) (hg:kg ops a0 l o=some true) (ho:o.op = .binOp op t x y t') (hx:kx ops a0 l o x=some vx) (hy:kx ops a0 l o y=some vy) (hv:l.getD i rvN = .v V) (hl:bC C (i+1) r):bC C i (o::r):=
 ⟨hC (Bw.run hg hv fun ρ y w hk=>NP ho (aV hx hk) (aV hy hk) (hr w)),hl⟩
theorem Gb (V:Value) {op:BinOp} {y:Operand} (hr:∀w,(do eqGuard op t x y vx vy;binOp op t vx vy:Sem Value).run P w = .ok V w) (hg:kg ops a0 l o=some true) (ho:o.op = .binOp op t x y t') (hx:kx ops a0 l o x=some vx) (hy:kx ops a0 l o y=some vy) (hv:l.getD i rvN = .v V) (hl:bC (nW P ops a0 w0 (rvs l)) (i+1) r):bC (nW P ops a0 w0 (rvs l)) i (o::r):=VX Bw.asked V hr hg ho hx hy hv hl
section
variable {J:(Nat→Bool)→(Nat→Value)→World→Prop}
theorem Qk (hst:∀L y w w',Below w.heap.size w w'→J L y w→J L y w') (h:(ks ops a0 l o).map RV.v=some (l.getD i rvN)) (hl:bC (wL P ops a0 J (rvs l)) (i+1) r) (hp:∀L y v w,(∀j,o.after.toList.any (fun e=>e.on==j)=true→L j=true)→J L y w→J (pE L i) (uy y i v) w:=by intro _ _ _ _ _ h;exact h):bC (wL P ops a0 J (rvs l)) i (o::r):=SH (Bw.askedQ hst hp) h hl
theorem Qf (hst:∀L y w w',Below w.heap.size w w'→J L y w→J L y w') (b k:Nat) (h:Xe ops a0 l o=some (t,v,f)) (hr:l.getD i rvN = .v (.pointer (some ⟨b,k,none⟩))) (hl:bC (wL P ops a0 J (rvs l)) (i+1) r) (hp:∀L y v w,(∀j,o.after.toList.any (fun e=>e.on==j)=true→L j=true)→J L y w→J (pE L i) (uy y i v) w:=by intro _ _ _ _ _ h;exact h) (hf:∀w,(Instr.fieldAt t v f).run P w = .ok (.pointer (some ⟨b,k,none⟩)) w:=by intro _;kernel_rfl):bC (wL P ops a0 J (rvs l)) i (o::r):=MV (Bw.askedQ hst hp) b k h hr hl hf
end
theorem Gr (V:Value) (h:∀ρ y w,Below w0.heap.size w0 w→Kn ops a0 l o ρ y w→(execOp ρ o).run P w = .ok (.value V) w) (hg:kg ops a0 l o=some true) (hv:l.getD i rvN = .v V) (hl:bC (nW P ops a0 w0 (rvs l)) (i+1) r):bC (nW P ops a0 w0 (rvs l)) i (o::r):=
 ⟨fun ρ y w hw hn hb hd=>ak V (DN hg ⟨hw,hn,hd⟩) (h ρ y w hb ⟨hw,hn,hd⟩) (Jo hv rfl),hl⟩
def WZ (P:Program) (t:TypeId):Bool:=match P.underlying t with
 | some (.struct _)=>false
 | some (.array _ _)=>false
 | some _=>true
 | none=>false
theorem rR (hs:WZ P t=true) (hc:w.cell? ⟨b,k,none⟩=some V):(loadVar t ⟨b,k,none⟩).run P w = .ok V w:=by
 unfold WZ at hs;cases hu:P.underlying t with
 | none=>rw[hu] at hs;cases hs
 | some d=>
  have ha:(isAgg t).run P w = .ok false w:=by unfold isAgg;rw[kK,run_underlying hu w];rw[hu] at hs;cases d<;>first | rfl | cases hs
  simp[loadVar,kK,ha,go_sem,hc]
theorem Gl (hb:aJ w0 b cs T) (hv:cs.toList[k]?=some V) (hg:kg ops a0 l o=some true) (ho:o.op = .load t x) (hx:kx ops a0 l o x=some (.pointer (some ⟨b,k,none⟩))) (hr:l.getD i rvN = .v V) (hl:bC (nW P ops a0 w0 (rvs l)) (i+1) r) (hs:WZ P t=true:=by kernel_rfl):bC (nW P ops a0 w0 (rvs l)) i (o::r):=by
 refine⟨fun ρ y w hw hn hB hd=>ak V (DN hg ⟨hw,hn,hd⟩) ?_ (Jo hr rfl),hl⟩;have e:ρ x=_:=aV hx ⟨hw,hn,hd⟩;have hc:w.cell? ⟨b,k,none⟩=some V:=by rw[(hb.ext hB).cell,←pK];exact hv
 refine run_load ho e ?_;simp only[Instr.loadAt,Instr.sureAddr,kK,qa,pY,rR hs hc]
theorem Gc (V:Value) (hc:∀w,Below w0.heap.size w0 w→w.cell? ⟨b,k,none⟩=some V) (hg:kg ops a0 l o=some true) (ho:o.op = .load t x) (hx:kx ops a0 l o x=some (.pointer (some ⟨b,k,none⟩))) (hr:l.getD i rvN = .v V) (hl:bC (nW P ops a0 w0 (rvs l)) (i+1) r) (hs:WZ P t=true:=by kernel_rfl):bC (nW P ops a0 w0 (rvs l)) i (o::r):=by
 refine⟨fun ρ y w hw hn hB hd=>ak V (DN hg ⟨hw,hn,hd⟩) ?_ (Jo hr rfl),hl⟩;have e:ρ x=_:=aV hx ⟨hw,hn,hd⟩;refine run_load ho e ?_;simp only[Instr.loadAt,Instr.sureAddr,kK,qa,pY,rR hs (hc w hB)]
def revC:List Value→List Value→(List Value→Option (List Value))→Option (List Value)
 | [],r,k=>k r
 | a::l,r,k=>revC l (a::r) k
def ptC:List Value→Nat→Value→List Value→(List Value→Option (List Value))→Option (List Value)
 | [],_,_,acc,k=>revC acc [] k
 | _::l,0,v,acc,k=>revC acc (v::l) k
 | a::l,n+1,v,acc,k=>ptC l n v (a::acc) k
def zw (y:Nat→Value):List RV→List Oper→List Value→Option (List Value)
 | .v V::l,o::r,t=>match o.dst with
  | some d=>ptC t d V [] fun t'=>zw y l r t'
  | none=>zw y l r t
 | .r j _::l,o::r,t=>match o.dst with
  | some d=>ptC t d (y j) [] fun t'=>zw y l r t'
  | none=>zw y l r t
 | _,_,t=>some t
def idxOk:List RV→Nat→Bool
 | [],_=>true
 | .v _::l,i=>idxOk l (i+1)
 | .r j _::l,i=>(j==i)&&idxOk l (i+1)
theorem Gi (k:List Value→Option (List Value)):∀(a r:List Value),revC a r k=k (a.reverse++r)
 | [],r=>rfl
 | x::a,r=>by rw[revC,Gi k a];simp
theorem LB (k:List Value→Option (List Value)):∀(t:List Value) (n:Nat) (v:Value) (acc:List Value),ptC t n v acc k=k (acc.reverse++t.set n v)
 | [],n,v,acc=>by simp[ptC,Gi]
 | x::t,0,v,acc=>by simp[ptC,Gi]
 | x::t,n+1,v,acc=>by rw[ptC,LB k t];simp
theorem yN {y:Nat→Value} {w:World} {m:Nat}:∀(l:List RV) (r:List Oper) (k:Nat) (t:Array Value),idxOk l k=true→m=k+l.length→l.length≤r.length→(∀i,i<l.length→rl (rvs l) i (y (k+i)) w) →
  zw y l r t.toList=some (lay (fun i=>decide (i<m)) y r k t).toList
 | [],r,k,t,_,hm,_,_=>by
  have:zw y [] r t.toList=some t.toList:=by cases r<;>rfl
  rw[this];simp only[zD,lZ] at hm;subst hm;have c:∀(r:List Oper) (j:Nat) (t:Array Value),m≤j→lay (fun i=>decide (i<m)) y r j t=t:=by
   intro r
   induction r with
   | nil=>intro j t _;rfl
   | cons o r ih=>
    intro j t hj;simp only[lay];rw[ih (j+1) _ (by omega)];cases o.dst with
    | none=>rfl
    | some d=>simp[show ¬j<m by omega]
  rw[c r m t (az _)]
 | a::l,[],k,t,_,_,hle,_=>by simp at hle
 | a::l,o::r,k,t,hi,hm,hle,hR=>by
  have hk:k<m:=by simp at hm;omega
  have b:∀i,i<l.length→rl (rvs l) i (y (k+1+i)) w:=fun i hl=>by have:=hR (i+1) (by simp;omega);rw[show k+1+i=k+(i+1) by omega];unfold rl at this ⊢;simpa[rvs] using this
  cases a with
  | v V=>
   have h0:y k=V:=by have:=hR 0 (by simp);exact this
   have ih:=fun t'=>yN (m:=m) (w:=w) l r (k+1) t' hi (by rw[mR] at hm;omega) (by simpa using hle) b;cases ho:o.dst with
   | none=>simp only[lay,ho,hk,decide_true,if_true,zw,ih]
   | some d=>
    simp only[lay,ho,hk,decide_true,if_true,zw,LB,h0,List.reverse_nil,List.nil_append];rw[←ih (t.setIfInBounds d V),zh]
  | r j R=>
   have hj:j=k∧idxOk l (k+1)=true:=by have h' : ((j==k)&&idxOk l (k+1))=true:=hi;simpa using h'
   obtain⟨rfl,e⟩:=hj;have ih:=fun t'=>yN (m:=m) (w:=w) l r (j+1) t' e (by rw[mR] at hm;omega) (by simpa using hle) b;cases ho:o.dst with
   | none=>simp only[lay,ho,hk,decide_true,if_true,zw,ih]
   | some d=>
    simp only[lay,ho,hk,decide_true,if_true,zw,LB,List.reverse_nil,List.nil_append];rw[←ih (t.setIfInBounds d (y j)),zh]
end
theorem aP {df:List Deferred} (m:Nat) (l:List RV)
 (hstep:bC (nW P ops ⟨t0,df⟩ w0 (rvs l)) 0 (ops.toList.take m)) {tm:(Nat→Value)→List Value} (hf:∀y,zw y l ops.toList t0.toList=some (tm y)) (hd:wr (ops.toList.drop m)=some rest)
 (hend:∀y w,Below w0.heap.size w0 w→(∀i,i<m→rl (rvs l) i (y i) w)→wpList P ops Q rest ⟨(tm y).toArray,df⟩ w)
 (hm:P.follows .mixedOrders=true:=by kernel_rfl) (hok:jV ops=true:=by kernel_rfl) (ht:jm ops m=true:=by kernel_rfl) (hmn:m≤ops.size:=by decide) (hll:l.length=m:=by rfl) (hix:idxOk l 0=true:=by kernel_rfl)
 (hsz:lg ops t0.size=true:=by kernel_rfl):(Code.region id ops true).wp P Q ⟨t0,df⟩ w0:=by
 refine Re m (rvs l) hm hok ht hmn _ rfl hsz hstep fun y w hb hR => ?_;have h:=hend y w hb hR;rw[QW hd];have e:=yN (m:=m) (y:=y) (w:=w) l ops.toList 0 t0 hix (by omega) (by simp;omega) fun i hi=>by rw[dM];exact hR i (by omega)
 show wpList P ops Q rest ⟨lay (fun i=>decide (i<m)) y ops.toList 0 t0,df⟩ w;have e2:=aT (e.symm.trans (hf y));have e3:lay (fun i=>decide (i<m)) y ops.toList 0 t0=(tm y).toArray:=by rw[←e2]
 rw[e3];exact h
theorem OD {m:Nat} {l:List RV} (hix:idxOk l 0=true) (hll:l.length=m) (hmn:m≤ops.size) (hR:∀i,i<m→rl (rvs l) i (y i) w) (hf:zw y l ops.toList t0.toList=some tm):lay (fun i=>decide (i<m)) y ops.toList 0 t0=tm.toArray:=by
 have e:=yN (m:=m) (y:=y) (w:=w) l ops.toList 0 t0 hix (by omega) (by simp;omega) fun i hi=>by rw[dM];exact hR i (by omega)
 have e2:=aT (e.symm.trans hf);rw[←e2]
open Go.ChangeShapes Go.WideShapes Go.ChangeAt
end Pw
namespace Go.Proofs.YtpaeabelhnnbiaaGreat
open Go.ChangeShapes Go.WideShapes Go.ChangeAt Go.RowKit Go.Maps Pw
variable {B B' b cap n' off sz sz':Nat} {P:Program} {T T' e:TypeId} {cs cs':Array Value} {v v':Value} {vs xs xs':List Value} {w w':World}
theorem qJ {n:Nat} (h:Own w B e sz v n xs) (g:Nat) (hg:v.ownBlock=some g):∃cs,aJ w g cs e:=by
 rcases h.2 with ⟨rfl,_⟩|⟨g2,off,cap,cur,rfl,_,hb,_⟩
 ·cases hg
 cases hg;exact⟨_,hb⟩
theorem oQ {n:Nat} (h:aJ w b cs T) (ho:Own w B e sz v n xs) (hT:T≠e) (hg:w.grownBy w' v.ownBlock):aJ w' b cs T:=
 h.grown hg (fun he=>own_ne ho h hT b he rfl)
theorem yH {e':TypeId} {n:Nat} (h:Own w B e sz v n xs) (ho:Own w B' e' sz' v' n' xs') (hT:e'≠e) (hg:w.grownBy w' v'.ownBlock):Own w' B e sz v n xs:=
 h.grown hg (fun g hv he=>by obtain⟨cs,hk⟩:=qJ ho g he;exact own_ne h hk hT g hv rfl)
theorem vG {n:Nat} (h:Own w B e sz v n xs) {g:Nat} (hk:aJ w g cs T) (hT:T≠e) (o:Nat) (u:Value):Own (w.setCell ⟨g,o,none⟩ u) B e sz v n xs:=
 ay h hk hT (aB w g o [u])
theorem aH {g:Nat} (h:aJ w b cs T) (hk:aJ w g cs' T') (hT:T'≠T) (hgr:w.grownBy w' (some g)):aJ w' b cs T:=
 h.grown hgr (fun he=>by cases he;unfold aJ at h hk;rw[hk] at h;simp only[iq,qx] at h;exact hT h.2.1)
theorem pU (a b:Option Addr) (n c m e:Nat):(#[Value.slice a n c,Value.slice b m e]:Array Value).all (·.oneCell')=true:=by simp[Value.oneCell']
theorem pq {α:Type} {enc:α→List Value} (hsz:∀x,(enc x).length=sz) (hp:0<sz) {n:Nat} {l:List α} (hl:l.length=n) (h:Own w B e sz v n (l.flatMap enc)) (k:Nat) (hk:k<n) :
  ∃g off cap cur,v = .slice (some ⟨g,off,none⟩) n cap∧B≤g∧aJ w g cur e∧off+k*sz+sz≤cur.size ∧
   ∀w' x,aJ w' g (dE cur (off+k*sz) (enc x)) e→Own w' B e sz v n ((l.set k x).flatMap enc):=by
 subst hl;obtain⟨g,off,cap,cur,h1,h2,h3,h4,_,h6⟩:=h.put hsz hp k hk;exact⟨g,off,cap,cur,h1,h2,h3,h4,h6⟩
theorem jI {a b c:World} {row:Option Nat} (h:a.grownBy b row) (k:b.grownBy c row):a.grownBy c row:=
 World.grownBy.andThen h k (fun j hj => .inr hj)
theorem jA {n:Nat} (h:Own w B e sz v n xs) (hg:w.grownBy w' none):Own w' B e sz v n xs:=h.grown hg (by simp)
theorem sV (w:World) (t e ty:TypeId) (z:Value) (sz bytes:Nat) (ht:P.underlying t=some (.slice e)) (hi:(P.info? e).map (fun i=>(i.zero,i.size,i.bytes))=some (some z,sz,bytes)) (h1:∀u∈z.cells.toList,u.oneCell' = true) (h0:0<z.cells.size)
 (b o n c:Nat) (hn:0<n) (cur:Array Value) (T:TypeId) (hg:aJ w b cur T) (hfit:o+n*z.cells.size≤cur.size) :
  (Builtin.clear_ #[t] ty #[.slice (some ⟨b,o,none⟩) n c]).run P w = .ok (.tuple #[]) (w.setCells b o (Builtin.zeroCells z.cells n).toList):=by
 have hl:(Builtin.zeroCells z.cells n).toList.length=n*z.cells.size:=by simp[Builtin.zeroCells]
 have a:=run_storeCells_cells (P:=P) b o (Builtin.zeroCells z.cells n).toList 0 w
  (fun j hj=>by rw[lZ,hg.cell];simp[show o+j<cur.size by omega]) (fun j hj=>hg.free _)
  (fun v hv=>by simp only[Builtin.zeroCells,Array.toList_map,fF] at hv;obtain⟨i,_,rfl⟩:=hv;have:i%z.cells.size<z.cells.size:=uH _ h0;rw[getElem!_pos z.cells _ this];exact h1 _ (by simp))
 simp only[lZ] at a;obtain⟨m,rfl⟩:∃m,n=m+1:=⟨n-1,by omega⟩;have hv:∀w,(zeroValue e).run P w = .ok z w:=by
  intro w;cases hq:P.info? e with
  | none=>simp[hq] at hi
  | some i=>
   have hz:i.zero=some z:=by simp[hq] at hi;exact hi.1
   simp[zeroValue,typeInfo,run_program,hq,hz]
 simp[Builtin.clear_,run_underlying ht,hv,a]
theorem Qd {α:Type} {enc:α→List Value} (hsz:∀x,(enc x).length=sz) {l:List α} {g n:Nat} (h:Own w B e sz (.slice (some ⟨g,off,none⟩) n cap) n (l.flatMap enc)) (i:Nat) (hl:l.length=n) (hi:i≤n)
 (hw:∀cur,aJ w g cur e→aJ w' g (dE cur (off+i*sz) vs) e):Own w' B e sz (.slice (some ⟨g,off,none⟩) (l.take i).length cap) (l.take i).length ((l.take i).flatMap enc):=by
 subst hl;obtain⟨hl,h⟩:=h;rcases h with ⟨h1,_⟩|⟨g',off',cap',cur,hv,hB,hg,hc,hm,hs,ht⟩
 ·cases h1
 cases hv;have b:(l.take i).length=i:=by simp;omega
 refine⟨by rw[Pw.flat_len enc sz hsz],.inr ⟨g,off,cap,_,rfl,hB,hw cur hg,by omega,hm,by rw[size_putAt];exact hs,fun j u hj => ?_⟩⟩;have c : j<i*sz:=by
  rcases fM j (i*sz) with h|h
  ·exact h
  rw[eU (by rw[Pw.flat_len enc sz hsz,b];exact h)] at hj;cases hj
 rw[putAt_out _ _ _ _ (.inl (by omega))];refine ht j u ?_;have a:l.flatMap enc=(l.take i).flatMap enc++(l.drop i).flatMap enc:=by rw[←gW,qp]
 rw[a,iD (by rw[Pw.flat_len enc sz hsz,b];exact c)];exact hj
theorem vX {α:Type} {enc:α→List Value} (hsz:∀x,(enc x).length=sz) (hp:0<sz) {n:Nat} {l:List α} (hl:l.length=n) (h:Own w B e sz v n (l.flatMap enc)) (k:Nat) (hk:k<n) (j:Nat) (hj:j<sz) (u:Value) (x:α)
 (hx:enc x=(enc (l[k]'(by omega))).set j u) :
  ∃g off cap,v = .slice (some ⟨g,off,none⟩) n cap∧B≤g∧g<w.heap.size∧(∃cs,aJ w g cs e)∧(∀i y,(enc (l[k]'(by omega)))[i]?=some y→w.cell? ⟨g,off+k*sz+i,none⟩=some y)∧w.frozen? ⟨g,off+k*sz+j,none⟩=false ∧
   Own (w.setCell ⟨g,off+k*sz+j,none⟩ u) B e sz v n ((l.set k x).flatMap enc):=by
 subst hl;obtain⟨g,off,cap,cur,h1,h2,h3,h4,h5,h6⟩:=h.put hsz hp k hk;refine⟨g,off,cap,h1,h2,h3.lt,⟨_,h3⟩,h5,h3.free _,h6 _ x ?_⟩;have he:dE cur (off+k*sz) (enc x)=cur.setIfInBounds (off+k*sz+j) u:=by
  apply pJ;intro i
  by_cases hi:off+k*sz≤i∧i<off+k*sz+sz
  ·obtain⟨m,rfl⟩:∃m,i=off+k*sz+m:=⟨i-(off+k*sz),by omega⟩;have hm:m<(enc x).length:=by rw[hsz];omega
   rw[putAt_in _ _ _ m (enc x)[m] (by rw[hsz];omega) (aN hm)]
   by_cases hmj:m=j
   ·subst hmj;rw[sI (by omega)];simp[hx]
   rw[gB (by omega)];have a : m<(enc l[k]).length:=by rw[hsz];omega
   have:=h5 m (enc l[k])[m] (aN a);rw[h3.cell] at this;rw[this];simp[hx,List.getElem_set_ne (fun e=>hmj e.symm)]
  ·rw[putAt_out _ _ _ _ (by rw[hsz];omega),gB (by omega)]
 rw[he];exact h3.setCell _ _
theorem Mc {H:Type} {k:TypeId} {R:Value→Option (DataW H × List MemPlace)} {n:Nat} {D:DataW H} (h:w.ownsMap P k R b n D) (hb:Below w.heap.size w w'):w'.ownsMap P k R b n D:=by
 have hl:=h.lt;obtain⟨es,clock,h1,r⟩:=h;exact⟨es,clock,(hb.block b hl).trans h1,r⟩
end Go.Proofs.YtpaeabelhnnbiaaGreat