import Derived.WalkKit
import Derived.ProofKit
import Derived.SizedLaws
import Derived.Maps.Own
import Derived.WalkSpells
import Derived.WalkLawsBesides
import Derived.ArgAppend
import Derived.Deep.MidRow
import Derived.Deep.Slices
import Derived.Laws.AppendOwnNone
import Derived.Laws.CopyOwn
import Derived.Laws.OwnMore
import Derived.Lib.Hide
import Derived.Maps.Range
import Derived.Maps.Views
import Derived.OpenShut
import Derived.Orders
import Derived.OwnWalk
set_option linter.unusedSimpArgs false
set_option linter.unusedVariables false
set_option linter.defProp false
set_option maxHeartbeats 4000000
set_option maxRecDepth 100000
namespace Pw
def ae :=@Go.Lib.hid
def az :=@Nat.le_refl
def aN :=@List.getElem?_eq_getElem
def aS :=@Option.some.inj
def aV :=@Nat.le_trans
def bD :=@Int.toNat_natCast
def bF :=@List.map_cons
def bI :=@List.map_nil
def bM :=@List.getD_eq_getElem?_getD
def aW :=@Array.getD_eq_getD_getElem?
def bB :=@Nat.zero_le
def bN :=@List.mem_singleton
def bP :=@Go.IntWalk.i64_in
def bT :=@List.map_toArray
def bV :=@List.mem_range
def cK :=@List.all_eq_true
def dh :=@Bool.and_eq_true
def dm :=@List.mem_of_getElem?
def dx :=@List.getElem?_eq_some_iff
def dA :=@Nat.zero_add
def dM :=@List.length_set
def eD :=@List.mem_map
def eZ :=@List.getElem_mem
def fq :=@List.length_take
def fo :=@List.getElem?_eq_none
def fE :=@List.mem_cons
def fO :=@Array.getElem?_setIfInBounds_ne
def fM :=@Nat.lt_or_ge
def fP :=@List.length_map
def gK :=@List.flatMap_append
def gL :=@Nat.not_lt_zero
def gN :=@Array.getElem?_eq_some_iff
def gX :=@List.map_append
def gY :=@Option.some.injEq
def il :=@List.getElem?_append_left
def iA :=@Array.all_toList
def iN :=@List.getElem?_append_right
def iK :=@List.length_append
def iY :=@List.getElem?_map
def ji :=@List.mem_flatMap
def jC :=@List.mem_iff_getElem
def jO :=@List.any_eq_true
def jM :=@List.mem_cons_of_mem
def jK :=@List.mem_append
def jN :=@List.getElem?_take
def kv :=@List.mem_cons_self
def jX :=@List.eq_nil_of_length_eq_zero
def jZ :=@Go.Sem.run_bind
def kH :=@Array.length_toList
def kF :=@Bool.true_and
def kT :=@Ne.symm
def kW :=@Int.eq_ofNat_of_zero_le
def kU :=@Nat.add_zero
def lg :=@Bool.false_and
def kZ :=@Bool.and_false
def lG :=@Array.mem_toList_iff
def lI :=@Go.Lib.run_eql_slice_nil
def lH :=@Go.Value.slice.injEq
def lZ :=@List.mem_or_eq_of_mem_set
def mr :=@Go.Addr.add_lit
def ni :=@Vector.getElem_ofFn
def mQ :=@List.append_assoc
def nz :=@List.length_cons
def ng :=@Bool.and_true
def nP :=@Bool.eq_iff_iff
def nT :=@List.take_add_one
def ou :=@List.take_of_length_le
def nO :=@List.ext_getElem?
def nK :=@List.getElem?_drop
def nZ :=@List.not_mem_nil
def nM :=@Nat.lt_of_lt_of_le
def nY :=@List.append_nil
def pq :=@Bool.false_eq_true
def oQ :=@Nat.add_assoc
def oV :=@List.flatMap_cons
def oP :=@Array.getElem?_toList
def oO :=@Array.ext_getElem?
def oZ :=@Go.Result.andThen_ok
def pu :=@Go.Sem.run_pure
def qL :=@List.getElem?_set
def qB :=@List.range_succ
def qH :=@List.ext_getElem
def qz :=@List.find?_eq_none
def qO :=@Classical.not_not
def qC :=@Decidable.byContradiction
def qJ :=@Bool.or_eq_true
def qN :=@Nat.min_eq_left
def qM :=@Array.getElem?_replicate
def sF :=@List.findIdx?_eq_some_iff_getElem
def rY :=@Nat.mod_eq_of_lt
def rV :=@List.getElem?_replicate
def rU :=@List.mem_filter
def sI :=@Go.Addr.mk.injEq
def su :=@Nat.add_mul
def sD :=@Nat.mul_le_mul_right
def sj :=@List.set_cons_zero
def rW :=@List.set_cons_succ
def ui :=@List.filter_append
def uj :=@Nat.mod_lt
def pV :=@List.mem_of_find?_eq_some
def pR :=@List.take_append_drop
def pO :=@Array.getElem?_eq_none
def pJ :=@Bool.not_eq_true'
def pM :=@Go.Obj.cells.injEq
def pQ :=@List.length_replicate
def qa :=@List.getElem?_cons_zero
def pU :=@List.countP_cons
def rf :=@List.nodup_cons
def rJ :=@List.getElem?_range
def rF :=@List.find?_some
def rA :=@Array.getElem?_setIfInBounds_self_of_lt
def rG :=@List.getElem_map
def rQ :=@Option.getD_some
def rR :=@List.setIfInBounds_toArray
def qY :=@List.drop_succ_cons
def rE :=@List.drop_zero
def rH :=@List.drop_nil
def ru :=@Nat.min_def
def rD :=@List.pairwise_cons
def rC :=@Classical.byContradiction
def tZ :=@List.any_eq_false
def uU :=@List.getElem?_set_self
def uo :=@List.getElem?_set_ne
def uQ :=@List.mem_append_right
def uI :=@List.mem_append_left
def uF :=@List.drop_eq_nil_of_le
def uz :=@List.countP_eq_zero
def tY :=@Array.getElem?_eq_getElem
def uJ :=@List.length_drop
def wz :=@List.countP_pos_iff
def xh :=@List.findIdx?_eq_none_iff
def wy :=@List.length_filter_le
def wV :=@List.drop_eq_getElem_cons
def xg :=@List.nodup_append
def wI :=@Nat.le_of_lt
def wT :=@Option.map_some
def wL :=@Go.Calls.mono
def wG :=@List.countP_le_length
def wu :=@List.length_nil
def wF :=@List.take_length
def wY :=@Nat.eq_zero_or_pos
def wW :=@Go.Value.agg.injEq
def wH :=@List.nodup_range
def ww :=@List.countP_map
def wS :=@List.length_range
def yu :=@Array.toList_setIfInBounds
def yG :=@List.findIdx?_cons
def yQ :=@Nat.add_sub_cancel_left
def yw :=@Nat.lt_or_gt_of_ne
def zk :=@Array.mem_of_getElem?
def xW :=@Option.bind_some
def ze :=@List.getElem?_cons_succ
def za :=@Array.getElem?_setIfInBounds
def yE :=@List.map_set
def yo :=@List.length_eraseIdx_of_lt
def yh :=@List.sum_cons
def yg :=@List.map_congr_left
def yZ :=@Array.size_push
def yl :=@List.flatMap_singleton
def Bi :=@List.getElem_cons_succ
def BM :=@List.foldl_append
def BG :=@List.getElem_set
def BR :=@Nat.add_mod_right
def Bj :=@List.mem_of_mem_take
def Bh :=@Bool.and_eq_false_iff
def BU :=@Vector.ext
def BN :=@List.mem_replicate
def Bv :=@List.getElem_cons_zero
def Bp :=@Go.World.grownBy.refl
def BV :=@Nat.mul_comm
def BX :=@Nat.mul_one
def BA :=@List.countP_append
def Bb :=@List.mem_filterMap
def Bu :=@Int.tmod_eq_emod_of_nonneg
def Bt :=@List.length_singleton
def Bn :=@List.mem_map_of_mem
def BI :=@Int.toNat_of_nonneg
def Br :=@Prod.ext
def BK :=@Bool.not_or
def Bc :=@List.length_flatMap
def BP :=@List.pairwise_iff_getElem
def BJ :=@List.mem_insertIdx
def Bl :=@Nat.sub_self
def BZ :=@List.cons_append
def Bo :=@List.Nodup.length_le_of_subset
def Bw :=@List.Nodup.sublist
def BC :=@List.filter_sublist
def FL :=@List.countP_set
def FQ :=@Bool.not_false
def Gv :=@Bool.not_true
def FN :=@Bool.or_eq_false_iff
def FT :=@List.filter_eq_self
def Hg :=@List.filter_cons
def Hf :=@List.foldl_cons
def GD :=@Vector.getElem_set_ne
def FM :=@Go.World.ownsRow_nil
def Hw :=@List.map_take
def Ha :=@List.getElem_range
def GU :=@List.countP_replicate
def GA :=@List.getElem?_toArray
def GY :=@Nat.le_succ
def GL :=@List.set_set
def Gg :=@List.countP_eq_length_filter
def Ho :=@List.countP_filter
def GJ :=@Function.comp_apply
def FY :=@Bool.eq_false_iff
def GK :=@Prod.mk.injEq
def GN :=@List.insertIdx_succ_cons
def FV :=@Int.ofNat_inj
open Go Go.RowKit
abbrev Page:=Vector UInt8 8
def dw (p:Page) (a:Int) (b:List UInt8):Page:=if 0≤a∧a<8 then Vector.ofFn fun i:Fin 8=>if a.toNat≤i.val then b.getD (i.val-a.toNat) p[i.val] else p[i.val] else p
theorem rM (p:Page) (a:Nat) (b:List UInt8) (ha:a<8) (i:Nat) (hi:i<8):(dw p a b)[i]=if a≤i then (b[i-a]?).getD p[i] else p[i]:=by
 have h:dw p a b=Vector.ofFn fun i:Fin 8=>if a≤i.val then b.getD (i.val-a) p[i.val] else p[i.val]:=by unfold dw;rw[if_pos (by omega)];rfl
 rw[h,ni];simp[List.getD]
theorem RJ (p q:Page):(p==q)=((p[0]==q[0])&&(p[1]==q[1])&&(p[2]==q[2])&&(p[3]==q[3])&&(p[4]==q[4])&&(p[5]==q[5])&&(p[6]==q[6])&&(p[7]==q[7])):=by
 rw[nP];simp only[beq_iff_eq,dh];constructor
 ·rintro rfl;simp
 rintro⟨⟨⟨⟨⟨⟨⟨h0,h1⟩,h2⟩,h3⟩,h4⟩,h5⟩,h6⟩,h7⟩
 ext i hi
 match i,hi with
 | 0,_=>rw[h0]
 | 1,_=>rw[h1]
 | 2,_=>rw[h2]
 | 3,_=>rw[h3]
 | 4,_=>rw[h4]
 | 5,_=>rw[h5]
 | 6,_=>rw[h6]
 | 7,_=>rw[h7]
 | n+8,h=>omega
theorem VU (a b:UInt8):((a.toNat:Int)==(b.toNat:Int))=(a==b):=by
 rw[nP];simp only[beq_iff_eq,Int.natCast_inj,UInt8.toNat_inj]
def vL (p:Page) (a:Int) (k:Nat):Page:=Vector.ofFn fun i:Fin 8=>if a≤(i.val:Int)∧i.val<k then 0 else p[i.val]
def cO (p:Page) (a:Int):Page:=Vector.ofFn fun i:Fin 8=>if a≤(i.val:Int) then 0 else p[i.val]
theorem Od (p:Page) (a:Int) (k:Nat) (h:8≤k):vL p a k=cO p a:=by
 ext i hi
 simp only[vL,cO,ni];have hk:i<k:=by omega
 simp[hk]
theorem JV (p:Page) (a:Int) (k:Nat) (h:k=a.toNat):vL p a k=p:=by
 ext i hi
 simp only[vL,ni];rw[if_neg (by omega)]
theorem OP (p:Page) (a:Int) (k:Nat) (h:k<8) (ha:a≤k):(vL p a k).set k 0=vL p a (k+1):=by
 ext i hi
 simp only[vL,ni,Vector.getElem_set]
 by_cases e:k=i
 ·subst e;simp[ha]
 simp only[e,if_false]
 by_cases c:a≤(i:Int)∧i<k
 ·rw[if_pos c,if_pos ⟨c.1,by omega⟩]
 ·rw[if_neg c,if_neg (by omega)]
def oJ (L:Nat→Bool) (i:Nat):Nat→Bool:=fun k=>if k=i then true else L k
def wr {α:Type}:List α→Option (List α)
 | []=>some []
 | a::r=>some (a::r)
theorem Rq {α:Type} {a b:List α} (h:wr a=some b):a=b:=by cases a<;>cases h<;>rfl
def i64 (n:Int):Prop:=-9223372036854775808≤n∧n≤9223372036854775807
end Pw
namespace Go.Proofs.YtpaeabelhnnbiaaGreat
open Go.ChangeShapes Go.WideShapes Go.ChangeAt Go.RowKit Go.Maps Pw
variable {k:Nat}
theorem nH {n:Nat} {P:∀i,i<n→Prop} (hp:∀i (h:i<n),i<k→P i h) (hlt:k<n) (hk:P k hlt):∀i (h:i<n),i<k+1→P i h:=by
 intro i h hi
 by_cases e:i=k
 ·subst e;exact hk
 ·exact hp i h (by omega)
end Go.Proofs.YtpaeabelhnnbiaaGreat
namespace Pw
open Go Go.RowKit
variable {fuel i q:Nat} {l:List Int}
theorem wZ {listed:Array Bool} (hi:i<listed.size) (q:Nat) (hq:listed.getD q false=true):(listed.setIfInBounds i true).getD q false=true:=by
 by_cases hqi:q=i
 ·subst hqi;simp[aW,hi]
 ·simpa[aW,fO (kT hqi)] using hq
theorem qo {listed:Array Bool} (h:q≠i):(listed.setIfInBounds i true).getD q false=listed.getD q false:=by
 simp[aW,fO (kT h)]
theorem Jy {listed:Array Bool} (hi:i<listed.size):(listed.setIfInBounds i true).getD i false=true:=by
 simp[aW,hi]
theorem Cj {listed:Array Bool} (hi:i<listed.size) (h1:listed.getD i true=false) (hc:listed.toList.countP (!·)≤fuel+1):(listed.setIfInBounds i true).toList.countP (!·)≤fuel:=by
 have c:i<listed.toList.length:=by simp;omega
 have b:listed.toList[i]=false:=by simpa[aW,hi] using h1
 have:=FL (p:=(!·)) (l:=listed.toList) (i:=i) (a:=true) c;rw[b] at this;have d:0<listed.toList.countP (!·):=wz.2 ⟨listed.toList[i],eZ c,by rw[b];rfl⟩;simp only[yu];simp only[FQ,Gv,if_true,pq,if_false] at this;omega
open Go.ChangeShapes Go.WideShapes Go.ChangeAt
def firstE:List Int→Int
 | []=>0
 | x::r=>if x=0 then firstE r else x
theorem rz (h:∀i (hi:i<l.length),l[i]=0):firstE l=0:=by
 induction l with
 | nil=>rfl
 | cons x r ih=>
  have h0:=h 0 (by simp);simp at h0;simp only[firstE,h0,if_true];exact ih fun i hi=>by have:=h (i+1) (by simpa using hi);simpa using this
theorem xk (k:Nat) (hk:k<l.length) (h:∀i (hi:i<l.length),i<k→l[i]=0) (hne:l[k]≠0):firstE l=l[k]:=by
 induction l generalizing k with
 | nil=>simp at hk
 | cons x r ih=>
  cases k with
  | zero=>simp at hne;simp[firstE,hne]
  | succ k=>
   have h0:=h 0 (by simp) (by omega);simp at h0;simp only[firstE,h0,if_true,Bi];exact ih k (by simpa using hk) (fun i hi a=>by have:=h (i+1) (by simpa using hi) (by omega);simpa using this) (by simpa using hne)
theorem filter_all {α:Type} (p q:α→Bool) (l:List α):(l.filter p).all (fun e => !p e||q e)=l.all (fun e => !p e||q e):=by
 induction l with
 | nil=>rfl
 | cons x l ih=>
  cases hp:p x
  ·rw[List.filter_cons_of_neg (by simp[hp]),ih];simp[hp]
  ·rw[List.filter_cons_of_pos (by simp[hp])];simp[hp,ih]
end Pw
namespace Go.Proofs.YtpaeabelhnnbiaaGreat
open Go.RowKit Pw
variable {F I b i j k q r:Nat} {file index lo n:Int} {l:List Int}
def idx {α:Type} (f:α→Bool) (l:List α):Int:=match l.findIdx? f with
 | some k=>k
 | none => -1
theorem pz {α:Type} (f:α→Bool) (l:List α) (k:Nat) (h:k<l.length) (hp:∀i (h:i<l.length),i<k→f l[i]=false) (hk:f l[k]=true):idx f l=k:=by
 unfold idx;rw[sF.2 ⟨h,hk,fun j hj=>by simpa using hp j (by omega) hj⟩]
theorem ky {α:Type} (f:α→Bool) (l:List α) (hp:∀i (h:i<l.length),f l[i]=false):idx f l = -1:=by
 unfold idx;rw[xh.2 fun x hx=>by obtain⟨i,hi,rfl⟩:=jC.1 hx;exact hp i hi]
theorem zO {α:Type} (f:α→Bool) (l:List α):(idx f l = -1∧∀i (h:i<l.length),f l[i]=false)∨∃k:Nat,∃h:k<l.length,idx f l=k∧f l[k]=true∧∀i (h:i<l.length),i<k→f l[i]=false:=by
 unfold idx;cases e:l.findIdx? f with
 | none=>exact .inl ⟨rfl,fun i h=>xh.1 e _ (eZ h)⟩
 | some k=>
  obtain⟨h,hk,hp⟩:=sF.1 e;exact .inr ⟨k,h,rfl,hk,fun i _ hi=>by simpa using hp i hi⟩
theorem pW {α:Type} (f:α→Bool) (l:List α):decide (0≤idx f l)=l.any f:=by
 rcases zO f l with ⟨e,h⟩|⟨k,hk,e,h,_⟩
 ·rw[e];symm;simp only[show decide ((0:Int)≤-1)=false from rfl,tZ];intro x hx;obtain⟨i,hi,rfl⟩:=jC.1 hx;simpa using h i hi
 rw[e];symm;simp only[show decide ((0:Int)≤(k:Int))=true from by simp,jO];exact⟨_,eZ hk,h⟩
theorem upto {n:Nat} {P:∀i,i<n→Prop} (hp:∀i (h:i<n),i<k→P i h) (hlt:k<n) (hk:P k hlt):∀i (h:i<n),i<k+1→P i h:=by
 intro i h hi
 by_cases e:i=k
 ·subst e;exact hk
 ·exact hp i h (by omega)
open Go.Maps
structure Vp (D:DataW Unit) (f:Int→Bool):Prop where
 is:IsMap D
 at_:∀j:Int,D.atKey (.int .i64 j) (.lit (.bool false)) = .lit (.bool (f j))
theorem Vp.empty:Vp (.map []) (fun _=>false):=⟨isMap_empty,fun j=>rfl⟩
theorem Vp.put {D:DataW Unit} {f:Int→Bool} (h:Vp D f) (k:Int):Vp (D.put (.int .i64 k) (.lit (.bool true))) (fun j=>f j||decide (j=k)):=by
 refine⟨h.is.put _ _,fun j => ?_⟩
 by_cases e:j=k
 ·subst e;rw[atKey_put_same h.is (by trivial)];simp
 rw[atKey_put_other (by intro e2;exact e (by cases e2;rfl)),h.at_ j];simp[e]
theorem MI (p:Page) (a n:Nat) (h:n≤8-a):((p.toList.drop a).take n).length=n:=by simp;omega
def qW (p:Page) (a n:Int):List UInt8:=if a<0∨n<0∨8<a∨8-a<n then [] else (p.toList.drop a.toNat).take n.toNat
def gu (n:Int):Int:=if n≤0 then 0 else (n-1) / 8+1
def ny (a n:Int):Bool:=decide (0≤a)&&decide (0≤n)&&decide (n≤8)&&decide (a%8≤8-n)
def xR (n:Int):Bool:=decide (n<0)||decide (1000<n)
def dD (l:List Int):Int:=if 60<l.length then 4 else if l.any xR then 3 else 0
def Gy (n:Int):Bool:=n==0
def Cn (n:Int):List Int:=if 0≤n∧n≤60 then List.replicate n.toNat 0 else []
def Gx (n:Int):Int:=if 0≤n∧n≤60 then 0 else 4
theorem PZ (l:List Int) (k:Nat) (hk:k<l.length) (h0:dD l=0):0≤l[k]∧l[k]≤1000:=by
 unfold dD at h0;split at h0
 ·omega
 split at h0
 ·omega
 rename_i h;have h1:xR l[k]=false:=by have:=tZ.1 (by simpa using h) _ (eZ hk);simpa using this
 simp[xR] at h1;exact h1
theorem mf (h:dD l=0):l.length≤60:=by
 unfold dD at h;split at h
 ·omega
 ·omega
def gT (l:List Int) (n:Int):Int:=if dD l≠0 then dD l else if n<1∨1000<n then 3 else if idx Gy l<0 then 10 else 0
def jD (l:List Int) (n:Int):Int:=if gT l n=0 then idx Gy l else 0
def lF (l:List Int) (n:Int):List Int:=if gT l n=0 then l.set (idx Gy l).toNat n else []
theorem LJ (n:Int) (h:dD l≠0):gT l n=dD l∧jD l n=0∧lF l n=[]:=by
 have:gT l n=dD l:=by unfold gT;rw[if_pos h]
 exact⟨this,by unfold jD;rw[this,if_neg h],by unfold lF;rw[this,if_neg h]⟩
theorem KT (h0:dD l=0) (h:n<1∨1000<n):gT l n=3∧jD l n=0∧lF l n=[]:=by
 have:gT l n=3:=by unfold gT;rw[if_neg (by omega),if_pos h]
 exact⟨this,by unfold jD;rw[this];rfl,by unfold lF;rw[this];rfl⟩
theorem KJ (h0:dD l=0) (h:1≤n∧n≤1000) (hf:idx Gy l = -1):gT l n=10∧jD l n=0∧lF l n=[]:=by
 have:gT l n=10:=by unfold gT;rw[if_neg (by omega),if_neg (by omega),if_pos (by omega)]
 exact⟨this,by unfold jD;rw[this];rfl,by unfold lF;rw[this];rfl⟩
theorem PR (h0:dD l=0) (h:1≤n∧n≤1000) (hf:idx Gy l=k):gT l n=0∧jD l n=k∧lF l n=l.set k n:=by
 have:gT l n=0:=by unfold gT;rw[if_neg (by omega),if_neg (by omega),if_neg (by omega)]
 exact⟨this,by unfold jD;rw[this,if_pos rfl,hf],by unfold lF;rw[this,if_pos rfl,hf];rfl⟩
def El (l:List Int) (k:Int):Int:=l.getD k.toNat 0
def bS (l:List Int) (k n:Int):Int:=if dD l≠0 then dD l else if k<0∨l.length≤k∨El l k=0 then 5 else if n < -El l k∨1000-El l k<n then 3 else 0
def bL (l:List Int) (k n:Int):List Int:=if bS l k n=0 then l.set k.toNat (El l k+n) else []
theorem Lf (k n:Int) (h:dD l≠0):bS l k n=dD l∧bL l k n=[]:=by
 have:bS l k n=dD l:=by unfold bS;rw[if_pos h]
 exact⟨this,by unfold bL;rw[this,if_neg h]⟩
theorem ED {k:Int} (h0:dD l=0) (h:k<0∨l.length≤k∨El l k=0):bS l k n=5∧bL l k n=[]:=by
 have:bS l k n=5:=by unfold bS;rw[if_neg (by omega),if_pos h]
 exact⟨this,by unfold bL;rw[this];rfl⟩
theorem Mr {k:Int} (h0:dD l=0) (h:¬(k<0∨l.length≤k∨El l k=0)) (hr:n < -El l k∨1000-El l k<n):bS l k n=3∧bL l k n=[]:=by
 have:bS l k n=3:=by unfold bS;rw[if_neg (by omega),if_neg h,if_pos hr]
 exact⟨this,by unfold bL;rw[this];rfl⟩
theorem NJ {k:Int} (h0:dD l=0) (h:¬(k<0∨l.length≤k∨El l k=0)) (hr:¬(n < -El l k∨1000-El l k<n)):bS l k n=0∧bL l k n=l.set k.toNat (El l k+n):=by
 have:bS l k n=0:=by unfold bS;rw[if_neg (by omega),if_neg h,if_neg hr]
 exact⟨this,by unfold bL;rw[this,if_pos rfl]⟩
theorem Tq (h:k<l.length):El l k=l[k]:=by simp[El,h]
structure sK where
 blocks:List Page
 queue:List (Int × Page)
def zPg:Page:=#v[0,0,0,0,0,0,0,0]
def Cs (n:Nat) (q:Int × Page):Bool:=decide (q.1<0)||decide ((n:Int)≤q.1)
def cB (d:sK):Int:=if 80<d.blocks.length∨400<d.queue.length then 4 else if d.queue.any (Cs d.blocks.length) then 3 else 0
def aI (d:sK) (at_:Int):Int:=if cB d≠0 then cB d else if at_<0∨d.blocks.length≤at_ then 3 else 0
def over (k:Int) (p:Page) (q:List (Int × Page)):Page:=q.foldl (fun p x=>if x.1=k then x.2 else p) p
theorem zT (k:Int) (p:Page) (q:List (Int × Page)) (x:Int × Page):over k p (q++[x])=if x.1=k then x.2 else over k p q:=by simp[over,BM]
theorem OH (k:Int) (p:Page) (q:List (Int × Page)) (i:Nat) (h:i<q.length):over k p (q.take (i+1))=if q[i].1=k then q[i].2 else over k p (q.take i):=by
 rw[nT,aN h,Option.toList,zT]
def dN (d:sK) (k:Int):Page:=if aI d k=0 then over k (d.blocks.getD k.toNat zPg) d.queue else zPg
def iV (d:sK) (x:Int × Page):sK:=
 match d.queue with
 | []=>⟨d.blocks,[x]⟩
 | q::r=>if (q::r).length=400 then ⟨d.blocks.set q.1.toNat q.2,r++[x]⟩ else ⟨d.blocks,(q::r)++[x]⟩
theorem Og (d:sK) (x:Int × Page) (h:d.queue.length≠400):iV d x=⟨d.blocks,d.queue++[x]⟩:=by
 unfold iV;split
 ·rename_i e;rw[e];rfl
 ·rename_i q r e;rw[e] at h;rw[if_neg h,e]
theorem NU (d:sK) (x:Int × Page) (h:d.queue.length=400):iV d x=⟨d.blocks.set (d.queue[0]'(by omega)).1.toNat (d.queue[0]'(by omega)).2,d.queue.drop 1++[x]⟩:=by
 obtain⟨B,Q⟩:=d;unfold iV;cases Q with
 | nil=>simp at h
 | cons q r=>simp only[if_pos h];rfl
def dz (d:sK) (k:Int) (p:Page):sK:=if aI d k=0 then iV d (k,p) else ⟨[],[]⟩
theorem EA {d:sK} (h:cB d=0):d.blocks.length≤80∧d.queue.length≤400:=by
 unfold cB at h;split at h
 ·omega
 ·omega
theorem FJ {d:sK} (h:cB d=0) (i:Nat) (hi:i<d.queue.length):0≤d.queue[i].1∧d.queue[i].1<d.blocks.length:=by
 unfold cB at h;split at h
 ·omega
 split at h
 ·omega
 rename_i h1;have:=tZ.1 (by simpa using h1) _ (eZ hi);simp[Cs] at this;omega
def VL (b:Int) (i:Nat):Bool:=Go.bits BinOp.and IntKind.i64 (b / 2 ^ (i%60)) 1==1
def uk (n:Int):sK:=if 0≤n∧n≤80 then ⟨List.replicate n.toNat zPg,[]⟩ else ⟨[],[]⟩
def Na (n:Int):Int:=if 0≤n∧n≤80 then 0 else 4
def MJ (f:Nat→Bool) (B:List Page) (Q:List (Int × Page)):Nat→List Page
 | 0=>B
 | k+1=>match Q[k]? with
  | some q=>if f k then (MJ f B Q k).set q.1.toNat q.2 else MJ f B Q k
  | none=>MJ f B Q k
def UV (f:Nat→Bool) (d:sK):sK:=if cB d=0 then ⟨MJ f d.blocks d.queue d.queue.length,[]⟩ else ⟨[],[]⟩
theorem NT (k:Int) (p:Page) (q:Int × Page) (r:List (Int × Page)):over k p (q::r)=over k (if q.1=k then q.2 else p) r:=rfl
theorem jY (d:sK):cB d=0↔d.blocks.length≤80∧d.queue.length≤400∧∀x∈d.queue,0≤x.1∧x.1<d.blocks.length:=by
 unfold cB;constructor
 ·intro h;split at h
  ·omega
  split at h
  ·omega
  rename_i h1 h2;refine⟨by omega,by omega,fun x hx => ?_⟩;have:=tZ.1 (by simpa using h2) x hx;simp[Cs] at this;omega
 rintro⟨h1,h2,h3⟩;rw[if_neg (by omega),if_neg];simp only[jO,not_exists,not_and];intro x hx;have:=h3 x hx;simp[Cs];omega
theorem iQ {d:sK} {k:Int}:aI d k=0↔cB d=0∧0≤k∧k<d.blocks.length:=by
 unfold aI;constructor
 ·intro h;split at h
  ·omega
  split at h
  ·omega
  ·omega
 rintro⟨h1,h2,h3⟩;rw[if_neg (by omega),if_neg (by omega)]
theorem vo (d:sK) (x:Int × Page):(iV d x).blocks.length=d.blocks.length:=by
 unfold iV;split
 ·rfl
 split
 ·simp
 ·rfl
theorem xH {d:sK} {x:Int × Page} (h:cB d=0) (h0:0≤x.1) (h1:x.1<d.blocks.length):cB (iV d x)=0:=by
 obtain⟨h2,h3,h4⟩:=(jY d).1 h;rw[jY,vo];refine⟨h2,?_,?_⟩
 ·unfold iV;split
  ·simp
  rename_i q r e;rw[e] at h3;split
  ·rename_i e4;simp at e4 ⊢; omega
  ·rename_i e4;simp at e4 h3 ⊢; omega
 intro y hy;have:y=x∨y∈d.queue:=by
  unfold iV at hy;split at hy
  ·simp at hy;exact .inl hy
  rename_i q r e;rw[e];split at hy
  ·simp at hy ⊢; rcases hy with h | h
   ·exact .inr (.inr h)
   ·exact .inl h
  simp at hy ⊢; rcases hy with h | h | h
  ·exact .inr (.inl h)
  ·exact .inr (.inr h)
  ·exact .inl h
 rcases this with rfl|h
 ·exact⟨h0,h1⟩
 ·exact h4 y h
theorem Ol (d:sK) (x:Int × Page) (o:Int) (hq:∀y∈d.queue,0≤y.1∧y.1<d.blocks.length) (ho:0≤o) (ho' : o<d.blocks.length) :
  over o ((iV d x).blocks.getD o.toNat zPg) (iV d x).queue=if x.1=o then x.2 else over o (d.blocks.getD o.toNat zPg) d.queue:=by
 unfold iV;split
 ·rename_i e;rw[e];rfl
 rename_i q r e;split
 ·have a:=hq q (by rw[e];exact kv ..);rw[zT];congr 1;rw[e,NT];congr 1;simp only[bM,qL]
  by_cases hqo:q.1=o
  ·rw[if_pos hqo,if_pos (by rw[hqo]),if_pos (by rw[hqo];omega)];rfl
  ·rw[if_neg hqo,if_neg (by omega)]
 ·rw[e,zT]
theorem GX {d:sK} {x:Int × Page} (h:cB d=0) (h0:0≤x.1) (h1:x.1<d.blocks.length) (o:Int):aI (iV d x) o=aI d o:=by
 unfold aI;rw[xH h h0 h1,h,vo]
theorem xm {d:sK} {x:Int × Page} (h:cB d=0) (h0:0≤x.1) (h1:x.1<d.blocks.length) (o:Int):dN (iV d x) o=if aI d o=0∧x.1=o then x.2 else dN d o:=by
 unfold dN;rw[GX h h0 h1]
 by_cases ho:aI d o=0
 ·obtain⟨_,g0,g1⟩:=iQ.1 ho;rw[if_pos ho,if_pos ho,Ol d x o ((jY d).1 h).2.2 g0 g1];simp[ho]
 ·rw[if_neg ho,if_neg ho,if_neg (fun h=>ho h.1)]
def pg5:Page:=#v[5,0,0,0,0,0,0,0]
def d3:sK:=⟨[zPg,zPg,zPg],[]⟩
def Wx (k:Int) (l:List (Int × Page)):List (Int × Page):=l.filter (fun q => !(q.1==k))
def WF (d:sK) (k:Int):sK:=⟨d.blocks.set k.toNat zPg,Wx k d.queue⟩
def Wq (d:sK) (k:Int):sK:=if aI d k=0 then WF d k else ⟨[],[]⟩
structure Fr where
 p:Page
 r:Int
 u:Bool
 d:Bool
 f:Int
 i:Int
 deriving DecidableEq
def Jm (f:Fr):Bool:=decide (f.r<0)||decide (1000<f.r)||decide (f.f < -1)||decide (5≤f.f)||decide (f.i<0)||decide (12≤f.i)
def JU (f:Fr):Bool:=decide (f.r=0)&&(f.u||f.d||decide (0≤f.f)||f.p != zPg)
def Dj (f:Fr):Bool:=decide (f.f<0)&&decide (f.i≠0)
def bO (f:Fr):Int:=if Jm f=true then 3 else if JU f=true∨Dj f=true then 7 else 0
structure Mem where
 fs:List Fr
 hand:Int
 deriving DecidableEq
def firstEf:List Fr→Int
 | []=>0
 | f::r=>if bO f≠0 then bO f else firstEf r
theorem firstEf_at:∀(l:List Fr) (k:Nat) (hk:k<l.length),(∀i (h:i<l.length),i<k→bO l[i]=0)→bO l[k]≠0→firstEf l=bO l[k]
 | f::r,0,_,_,h=>by unfold firstEf;exact if_pos h
 | f::r,k+1,hk,hp,h=>by unfold firstEf;rw[if_neg (fun hh=>hh (hp 0 (by simp) (by omega)))];exact firstEf_at r k (by simpa using hk) (fun i hi hik=>hp (i+1) (by simpa using hi) (by omega)) h
theorem firstEf_none:∀(l:List Fr),(∀i (h:i<l.length),bO l[i]=0)→firstEf l=0
 | [],_=>rfl
 | f::r,hp=>by unfold firstEf;rw[if_neg (fun hh=>hh (hp 0 (by simp)))];exact firstEf_none r (fun i hi=>hp (i+1) (by simpa using hi))
def bC (m:Mem):Int:=if 40<m.fs.length then 4 else if firstEf m.fs≠0 then firstEf m.fs else if m.hand<0∨(0<m.hand∧(m.fs.length:Int)≤m.hand) then 3 else 0
def fe (l:List Fr):Nat:=(l.filter (fun f=>decide (f.r=0))).length
theorem Lp (l:List Fr) (k:Nat) (hk:k<l.length):fe (l.take (k+1))=if l[k].r=0 then fe (l.take k)+1 else fe (l.take k):=by
 unfold fe;rw[nT,aN hk,Option.toList,ui]
 by_cases h:l[k].r=0<;>simp[h]
theorem CU (l:List Fr):fe l≤l.length:=wy _ _
def fr0:Fr:=⟨zPg,0,false,false,0,0⟩
def frZ:Fr:=⟨zPg,0,false,false,-1,0⟩
def vD (n:Int):Mem:=if 0≤n∧n≤40 then ⟨List.replicate n.toNat frZ,0⟩ else ⟨[],0⟩
def MC (n:Int):Int:=if 0≤n∧n≤40 then 0 else 4
def uX (l:List Fr):Option Nat:=l.findIdx? (fun f=>decide (f.r=0))
theorem KH {l:List Fr} (h:∀i (h:i<l.length),i<l.length→¬l[i].r=0):uX l=none:=by
 unfold uX;rw[xh];intro x hx;obtain⟨i,hi,rfl⟩:=jC.1 hx;simpa using h i hi hi
theorem KV {l:List Fr} (hi:i<l.length) (h:l[i].r=0) (hno:∀j (h:j<l.length),j<i→¬l[j].r=0):uX l=some i:=by
 unfold uX;rw[sF];exact⟨hi,by simpa using h,fun j hj=>by simpa using hno j (by omega) hj⟩
def noM:Mem:=⟨[],0⟩
def aZ (p:Page) (file index:Int):Fr:=⟨p,1,true,false,file,index⟩
def gF (m:Mem) (p:Page) (file index:Int):Int:=if bC m≠0 then bC m else if bO (aZ p file index)≠0 then bO (aZ p file index) else if uX m.fs=none then 10 else 0
def gJ (m:Mem) (p:Page) (file index:Int):Nat:=if gF m p file index=0 then (uX m.fs).getD 0 else 0
def eG (m:Mem) (p:Page) (file index:Int):Mem:=if gF m p file index=0 then ⟨m.fs.set (gJ m p file index) (aZ p file index),m.hand⟩ else noM
theorem firstEf_all:∀(l:List Fr),firstEf l=0→∀f∈l,bO f=0
 | [],_,_,h=>by cases h
 | g::r,h,f,hf=>by
  unfold firstEf at h
  by_cases hg:bO g=0
  ·rw[if_neg (fun e=>e hg)] at h;rcases fE.1 hf with rfl|hf
   ·exact hg
   ·exact firstEf_all r h f hf
  rw[if_pos hg] at h;exact absurd h hg
theorem dZ (m:Mem):bC m=0↔m.fs.length≤40∧(∀f∈m.fs,bO f=0)∧0≤m.hand∧(m.hand=0∨m.hand<m.fs.length):=by
 unfold bC;constructor
 ·intro h
  by_cases h1:40<m.fs.length
  ·rw[if_pos h1] at h;cases h
  rw[if_neg h1] at h
  by_cases h2:firstEf m.fs=0
  ·rw[if_neg (fun e=>e h2)] at h
   by_cases h3:m.hand<0∨(0<m.hand∧(m.fs.length:Int)≤m.hand)
   ·rw[if_pos h3] at h;cases h
   ·exact⟨by omega,firstEf_all _ h2,by omega,by omega⟩
  ·rw[if_pos h2] at h;exact absurd h h2
 rintro⟨h1,h2,h3,h4⟩;rw[if_neg (by omega)];have h5:firstEf m.fs=0:=firstEf_none _ (fun i hi=>h2 _ (eZ hi));rw[h5,if_neg (fun e=>e rfl),if_neg (by omega)]
theorem dC (f:Fr):bO f=0↔(0≤f.r∧f.r≤1000∧-1≤f.f∧f.f<5∧0≤f.i∧f.i<12)∧(f.r=0→f.u=false∧f.d=false∧f.f<0∧f.p=zPg)∧(f.f<0→f.i=0):=by
 unfold bO;have hb:Jm f=false↔(0≤f.r∧f.r≤1000∧-1≤f.f∧f.f<5∧0≤f.i∧f.i<12):=by simp only[Jm,FN,decide_eq_false_iff_not,Int.not_lt,Int.not_le];omega
 have hu:JU f=false↔(f.r=0→f.u=false∧f.d=false∧f.f<0∧f.p=zPg):=by
  unfold JU
  by_cases h:f.r=0
  ·simp[h,and_assoc]
  ·simp[h]
 have hf:Dj f=false↔(f.f<0→f.i=0):=by
  unfold Dj
  by_cases h:f.f<0
  ·simp[h]
  ·simp[h]
 rw[←hb,←hu,←hf];cases Jm f<;>cases JU f<;>cases Dj f<;>simp
def mI (m:Mem) (k n:Int):Int:=if bC m≠0 then bC m else if k<0∨(m.fs.length:Int)≤k∨(m.fs.getD k.toNat fr0).r=0 then 5 else if n < -(m.fs.getD k.toNat fr0).r∨1000-(m.fs.getD k.toNat fr0).r<n then 3 else 0
def gD (f:Fr) (n:Int):Fr:=if f.r+n=0 then frZ else { f with r:=f.r+n }
def lw (m:Mem) (k n:Int):Mem:=if mI m k n=0 then ⟨m.fs.set k.toNat (gD (m.fs.getD k.toNat fr0) n),m.hand⟩ else noM
def iR (m:Mem) (s:Nat):Nat:=(m.hand.toNat+s)%m.fs.length
def Aw (m:Mem) (s i:Nat):Bool:=(List.range s).any (fun t=>iR m t==i)
def unused (f:Fr):Fr:={ f with u:=false }
def mP (m:Mem) (s:Nat):List Fr:=m.fs.mapIdx (fun i f=>if Aw m s i then unused f else f)
def vG (m:Mem) (s:Nat):Bool:=decide (0<(m.fs.getD (iR m s) fr0).r)&&(!(m.fs.getD (iR m s) fr0).u||decide (m.fs.length≤s))
def ib (m:Mem):Nat:=((List.range (2*m.fs.length)).find? (vG m)).getD 0
def fu (m:Mem):Mem:=if bC m≠0 then noM else if fe m.fs=m.fs.length then m else ⟨mP m (ib m),(iR m (ib m+1):Nat)⟩
def ic (m:Mem):Int:=if bC m≠0 then 0 else if fe m.fs=m.fs.length then -1 else (iR m (ib m):Nat)
theorem nW {m:Mem} (h:0<m.fs.length) (s:Nat):iR m s<m.fs.length:=uj _ h
theorem iL (m:Mem) (s:Nat):(mP m s).length=m.fs.length:=by simp[mP]
theorem uK (m:Mem) (s i:Nat) (hi:i<m.fs.length):(mP m s)[i]'(by rw[iL];exact hi)=if Aw m s i then unused m.fs[i] else m.fs[i]:=by simp[mP]
theorem PK (m:Mem) (s i:Nat):Aw m (s+1) i=(Aw m s i||iR m s==i):=by simp[Aw,qB]
theorem Sl (m:Mem):mP m 0=m.fs:=by
 apply qH
 ·rw[iL]
 intro i h1 h2;rw[uK m 0 i h2];rfl
theorem Rb (m:Mem) (s:Nat) (h:0<m.fs.length):(mP m s).set (iR m s) (unused ((mP m s)[iR m s]'(by rw[iL];exact nW h s)))=mP m (s+1):=by
 apply qH
 ·simp[iL]
 intro i h1 h2;have hi:i<m.fs.length:=by rw[iL] at h2;exact h2
 rw[BG,uK m (s+1) i hi,PK]
 by_cases e:iR m s=i
 ·subst e;rw[if_pos rfl,uK m s _ hi];cases Aw m s (iR m s)<;>simp[unused]
 rw[if_neg e,uK m s i hi];have:(iR m s==i)=false:=by simpa using e
 rw[this,Bool.or_false]
theorem Qg (m:Mem) (s:Nat) (h:0<m.fs.length):Aw m s (iR m s)=decide (m.fs.length≤s):=by
 rw[nP];simp only[Aw,jO,bV,beq_iff_eq,decide_eq_true_eq];constructor
 ·rintro⟨t,ht,he⟩;unfold iR at he;rcases fM s m.fs.length with hs|hs
  ·exfalso;have h1:(m.hand.toNat+s)%m.fs.length=(m.hand.toNat+t+(s-t))%m.fs.length:=by congr 1;omega
   rw[h1,Nat.add_mod (m.hand.toNat+t) (s-t)] at he;have h2:(s-t)%m.fs.length=s-t:=rY (by omega);rw[h2] at he;have h3:=uj (m.hand.toNat+t) h;generalize (m.hand.toNat+t)%m.fs.length=x at *
   rcases fM (x+(s-t)) m.fs.length with h4|h4
   ·rw[rY h4] at he;omega
   ·rw[Nat.mod_eq_sub_mod h4,rY (by omega)] at he;omega
  ·exact hs
 intro hs;refine⟨s-m.fs.length,by omega,?_⟩;unfold iR;have:m.hand.toNat+s=(m.hand.toNat+(s-m.fs.length))+m.fs.length:=by omega
 rw[this,BR]
theorem Vj (m:Mem) (s:Nat) (h:0<m.fs.length):(mP m s)[iR m s]'(by rw[iL];exact nW h s)=if m.fs.length≤s then unused (m.fs[iR m s]'(nW h s)) else m.fs[iR m s]'(nW h s):=by
 rw[uK m s _ (nW h s),Qg m s h];simp
theorem TP (m:Mem) (s:Nat) (h:0<m.fs.length):vG m s=(decide (0<((mP m s)[iR m s]'(by rw[iL];exact nW h s)).r)&&!((mP m s)[iR m s]'(by rw[iL];exact nW h s)).u):=by
 rw[Vj m s h];unfold vG;rw[show m.fs.getD (iR m s) fr0=m.fs[iR m s]'(nW h s) from by simp[nW h s]]
 by_cases hs:m.fs.length≤s
 ·rw[if_pos hs];simp[hs,unused];rfl
 ·rw[if_neg hs];simp[hs]
theorem PD (l:List Fr):fe l=l.length↔∀f∈l,f.r=0:=by
 unfold fe;rw[List.length_filter_eq_length_iff];simp
theorem stops (m:Mem) (hw:bC m=0) (hf:fe m.fs≠m.fs.length):∃s,s<2*m.fs.length∧vG m s=true:=by
 obtain⟨_,c,hh,_⟩:=(dZ m).1 hw;rw[Ne,PD] at hf;obtain⟨f,d⟩:=Classical.not_forall.1 hf;obtain⟨hm,hr⟩:=Classical.not_imp.1 d;obtain⟨i,hi,rfl⟩:=jC.1 hm;have e:=((dC _).1 (c _ hm)).1.1;have a:0<m.fs.length:=by omega
 have hx:=uj m.hand.toNat a;refine⟨(i+m.fs.length-m.hand.toNat%m.fs.length)%m.fs.length+m.fs.length,by have:=uj (i+m.fs.length-m.hand.toNat%m.fs.length) a;omega,?_⟩;have b:iR m ((i+m.fs.length-m.hand.toNat%m.fs.length)%m.fs.length+m.fs.length)=i:=by
  unfold iR;rw[←oQ,BR,Nat.add_mod,Nat.mod_mod];generalize m.hand.toNat%m.fs.length=x at *
  rcases fM i x with h|h
  ·rw[rY (show i+m.fs.length-x<m.fs.length by omega)];rw[show x+(i+m.fs.length-x)=i+m.fs.length from by omega,BR,rY hi]
  have h3:i+m.fs.length-x=(i-x)+m.fs.length:=by omega
  rw[h3,BR,rY (show i-x<m.fs.length by omega),show x+(i-x)=i from by omega,rY hi]
 unfold vG;rw[b];have:m.fs.getD i fr0=m.fs[i]:=by simp[hi]
 rw[this];have h1:0<m.fs[i].r:=by omega
 have h2:m.fs.length≤(i+m.fs.length-m.hand.toNat%m.fs.length)%m.fs.length+m.fs.length:=by omega
 simp[h1,h2]
theorem Sk (m:Mem) (hw:bC m=0) (hf:fe m.fs≠m.fs.length):ib m<2*m.fs.length∧vG m (ib m)=true∧∀t,t<ib m→vG m t=false:=by
 obtain⟨s,hs,a⟩:=stops m hw hf;unfold ib;cases hfd:(List.range (2*m.fs.length)).find? (vG m) with
 | none=>
  rw[qz] at hfd;exact absurd a (hfd s (bV.2 hs))
 | some r=>
  rw[List.find?_range_eq_some] at hfd;obtain⟨h1,h2,h3⟩:=hfd;exact⟨bV.1 h2,h1,fun t ht=>by simpa using h3 t ht⟩
structure En where
 k:Int
 n:Int
 w:Bool
 deriving DecidableEq
def zEn:En:=⟨0,0,false⟩
abbrev Tb:=Vector (List En) 8
def gV (e:En):Int:=if e.k<0∨2<e.k then 1 else if e.n<0∨40≤e.n∧e.k=1∨60≤e.n then 3 else if e.k=0∧(e.n≠0∨e.w=true)∨e.k=2∧e.w=true then 7 else 0
def lT (h:List En):Int:=if h.length≠0∧h.length≠8 then 2 else if firstE (h.map gV)≠0 then firstE (h.map gV) else if 0<h.length∧h.any (fun e=>decide (e.k≠0))=false then 2 else 0
def dO (t:Tb):Int:=firstE (t.toList.map lT)
def He (h:List En) (k:Nat):Bool:=(h.take k).any (fun e=>decide (e.k≠0))
theorem Pz (h:List En) (k:Nat) (hk:k<h.length):He h (k+1)=(He h k||decide (h[k].k≠0)):=by
 unfold He;rw[nT,List.any_append,aN hk];simp
theorem QN (h:List En) (k:Nat) (hk:h.length≤k):He h k=h.any (fun e=>decide (e.k≠0)):=by
 unfold He;rw[ou hk]
theorem AJ {t:Tb} (h:∀i (hi:i<8),lT t[i]=0):dO t=0:=rz fun i hi=>by simpa using h i (by simpa using hi)
theorem zy {t:Tb} (k:Nat) (hk:k<8) (h:∀i (hi:i<8),i<k→lT t[i]=0) (hne:lT t[k]≠0):dO t=lT t[k]:=by
 have:=xk (l:=t.toList.map lT) k (by simpa using hk) (fun i hi a=>by simpa using h i (by simpa using hi) a) (by simpa using hne);rw[dO,this];simp
theorem Cy {h:List En} (h1:h.length≠0∧h.length≠8):lT h=2:=by unfold lT;rw[if_pos h1]
theorem Ja {h:List En} (h1:h.length=0∨h.length=8) (k:Nat) (hk:k<h.length) (hp:∀i (hi:i<h.length),i<k→gV h[i]=0) (hne:gV h[k]≠0):lT h=gV h[k]:=by
 have:=xk (l:=h.map gV) k (by simpa using hk) (fun i hi a=>by simpa using hp i (by simpa using hi) a) (by simpa using hne);have e:firstE (h.map gV)=gV h[k]:=by rw[this];simp
 unfold lT;rw[if_neg (by omega),e,if_pos hne]
theorem Ae {h:List En} (h1:h.length=0∨h.length=8) (hp:∀i (hi:i<h.length),gV h[i]=0):lT h=if 0<h.length∧h.any (fun e=>decide (e.k≠0))=false then 2 else 0:=by
 have:=rz (l:=h.map gV) (fun i hi=>by simpa using hp i (by simpa using hi));unfold lT;rw[if_neg (by omega),this,if_neg (by omega)]
def Dw (t:Tb):Prop:=∀k (h:k<8),t[k].length*24≤140737488355328
def dB (t:Tb) (n:Int):En:=if h:0≤n∧n<64 then (if (t[n.toNat / 8]'(by omega)).length=8 then (t[n.toNat / 8]'(by omega)).getD (n.toNat%8) zEn else zEn) else zEn
theorem qx {t:Tb} (h:n<0∨64≤n):dB t n=zEn:=by unfold dB;rw[dif_neg (by omega)]
theorem xY {t:Tb} (hq:q<8) (hr:r<8):dB t ((8*q+r:Nat):Int)=if t[q].length=8 then t[q].getD r zEn else zEn:=by
 unfold dB;rw[dif_pos (by omega)];have e1:(((8*q+r:Nat):Int).toNat / 8)=q:=by rw[bD];omega
 have e2:(((8*q+r:Nat):Int).toNat%8)=r:=by rw[bD];omega
 simp only[e1,e2]
theorem wJ (h:0≤n∧n<64):∃q r:Nat,q<8∧r<8∧n=((8*q+r:Nat):Int)∧n / 8=(q:Int)∧n%8=(r:Int):=by
 refine⟨(n / 8).toNat,(n%8).toNat,by omega,by omega,by omega,by omega,by omega⟩
def oq (e:En):Bool:=decide (e.k≠0)
def setE (t:Tb) (n:Int) (e:En):Int:=if dO t≠0 then dO t else if n<0∨64≤n then 3 else gV e
def Vg (h:List En):List En:=if h.any oq then h else []
def setH (h:List En) (r:Nat) (e:En):List En:=Vg ((if h.length=0 then List.replicate 8 zEn else h).set r e)
def zTb:Tb:=Vector.replicate 8 []
def setT (t:Tb) (n:Int) (e:En):Tb:=if h:(0≤n∧n<64)∧setE t n e=0 then t.set (n.toNat / 8) (setH (t[n.toNat / 8]'(by omega)) (n.toNat%8) e) (by omega) else zTb
theorem vX {t:Tb} {e:En} (h:setE t n e≠0):setT t n e=zTb:=by unfold setT;rw[dif_neg (fun h'=>h h'.2)]
theorem Mx {t:Tb} {e:En} (h:setE t n e=0) (hq:q<8) (hr:r<8) (hn:n=((8*q+r:Nat):Int)):setT t n e=t.set q (setH t[q] r e):=by
 unfold setT;subst hn;rw[dif_pos ⟨by omega,h⟩];have e1:(((8*q+r:Nat):Int).toNat / 8)=q:=by rw[bD];omega
 have e2:(((8*q+r:Nat):Int).toNat%8)=r:=by rw[bD];omega
 simp only[e1,e2]
theorem qg {h:List En} (h0:lT h=0):h.length=0∨h.length=8:=by
 by_cases e:h.length≠0∧h.length≠8
 ·rw[Cy e] at h0;cases h0
 ·omega
theorem mF {t:Tb} (h:dO t=0) (k:Nat) (hk:k<8):lT t[k]=0:=by
 have key:∀(l:List Int),firstE l=0→∀x∈l,x=0:=by
  intro l
  induction l with
  | nil=>intro _ x hx;cases hx
  | cons y r ih=>
   intro h x hx
   by_cases e:y=0
   ·simp only[firstE,e,if_true] at h;rcases fE.1 hx with rfl|hx
    ·exact e
    ·exact ih h x hx
   ·simp only[firstE,e,if_false] at h
 exact key _ h _ (eD.2 ⟨t[k],by simp,rfl⟩)
def jm (t:Tb) (k:Nat):List Int:=((List.range k).filter fun n:Nat=>oq (dB t (n:Int))).map fun n:Nat=>(n:Int)
def aM (t:Tb):List Int:=jm t 64
theorem qp (t:Tb) (k:Nat):(jm t k).length≤k:=by
 unfold jm;rw[fP];exact aV (wy _ _) (by simp)
theorem IP {t:Tb} (h:oq (dB t (k:Int))=true):jm t (k+1)=jm t k++[(k:Int)]:=by
 unfold jm;rw[qB,ui,gX];simp[h]
theorem KU {t:Tb} (h:oq (dB t (k:Int))=false):jm t (k+1)=jm t k:=by
 unfold jm;rw[qB,ui,gX];simp[h]
structure AP (p:Int→Bool) (l:List Int) (j i:Nat) (cur:List Int):Prop where
 len:cur.length=l.length
 lt:i<j
 le:j≤l.length
 done:cur.take i=(l.take j).filter (fun x => !p x)
 rest:∀t,j≤t→cur[t]?=l[t]?
theorem AP.start {p:Int→Bool} (hi:i<l.length) (he:p l[i]=true) (hno:∀j (h:j<l.length),j<i→p l[j]=false):AP p l (i+1) i l:=by
 refine⟨rfl,by omega,by omega,?_,fun _ _=>rfl⟩;rw[nT,ui,aN hi,Option.toList];have h1:(l.take i).filter (fun q => !p q)=l.take i:=by rw[FT];intro q hq;obtain⟨j,hj,rfl⟩:=jC.1 hq;simp only[fq] at hj;rw[List.getElem_take];simpa using hno j (by omega) (by omega)
 simp[h1,he]
theorem AP.keep {p:Int→Bool} {cur:List Int} (h:AP p l j i cur) (hj:j<l.length) (hne:p l[j]=false):AP p l (j+1) (i+1) (cur.set i l[j]):=by
 have h1:=h.lt;have h2:=h.len;refine⟨by simp[h.len],by omega,by omega,?_,fun t ht => ?_⟩
 ·have hi:i<cur.length:=by omega
  rw[nT,uU hi,Option.toList,List.take_set_of_le (az _),h.done];rw[nT,ui,aN hj,Option.toList];simp[hne]
 rw[uo (by omega)];exact h.rest t (by omega)
theorem AP.skip {p:Int→Bool} {cur:List Int} (h:AP p l j i cur) (hj:j<l.length) (he:p l[j]=true):AP p l (j+1) i cur:=by
 have h1:=h.lt;refine⟨h.len,by omega,by omega,?_,fun t ht=>h.rest t (by omega)⟩;rw[h.done];rw[nT,ui,aN hj,Option.toList];simp[he]
theorem AP.all {p:Int→Bool} (h:∀i (h:i<l.length),p l[i]=false):l.filter (fun x => !p x)=l:=by
 rw[FT];intro q hq;obtain⟨j,hj,rfl⟩:=jC.1 hq;simpa using h j hj
def oU (t:Tb) (kind k:Int) (n:Int):Bool:=decide ((dB t n).k≠kind)||decide ((dB t n).n≠k)
def nA (t:Tb) (kind k:Int):List Int:=(aM t).filter fun n => !oU t kind k n
def fU (t:Tb):List En:=(List.range 64).map fun n:Nat=>dB t (n:Int)
structure Xe (t:Tb) (m:Nat) (l:List En):Prop where
 len:l.length=64
 at' : ∀n (h:n<64),l[n]?=some (if n<m then dB t (n:Int) else zEn)
theorem Xe.step {t:Tb} {m:Nat} {l:List En} (h:Xe t m l) (hm:m<64) {E:En} (hE:dB t (m:Int)=E):Xe t (m+1) (l.set m E):=by
 refine⟨by simp[h.len],fun n hn => ?_⟩
 by_cases e:n=m
 ·subst e;rw[uU (by rw[h.len];exact hn),if_pos (by omega),hE]
 rw[uo (fun e2=>e e2.symm),h.at' n hn];congr 1
 by_cases e2:n<m
 ·rw[if_pos e2,if_pos (by omega)]
 ·rw[if_neg e2,if_neg (by omega)]
theorem Fs {t:Tb} (hq:q<8) (hr:r<8) (h:t[q].length=0):dB t ((8*q+r:Nat):Int)=zEn:=by
 rw[xY hq hr,if_neg (by omega)]
theorem OI {t:Tb} (hq:q<8) (hr:r<8) (h:t[q].length=8) {E:En} (hE:t[q][r]?=some E):dB t ((8*q+r:Nat):Int)=E:=by
 rw[xY hq hr,if_pos h,bM,hE];rfl
def Kw (e:En):Bool:=decide (0<e.k)
def lL (l:List En) (i:Nat):List En:=(l.drop (8*i)).take 8
def si (l:List En) (i:Nat):List En:=if (lL l i).any Kw then lL l i else []
def qP (l:List En):Tb:=Vector.ofFn fun i:Fin 8=>si l i.val
theorem JY {l:List En} (hl:l.length=64) (hi:i<8) (hk:k≤8):((l.drop (8*i)).take k).length=k:=by
 simp;omega
structure Fi where
 n:Int
 b:List Int
 deriving DecidableEq
structure St where
 fs:List Fi
 count:Int
 deriving DecidableEq
theorem zG (h:n≤96):gu n≤12:=by unfold gu;split<;>omega
def kD (c:Int):List Int→List Int→Int
 | _,[]=>0
 | seen,b::r=>if b < -1∨c≤b then 3 else if 0≤b∧b∈seen then 7 else kD c (seen++[b]) r
def rP (c:Int):List Int→List Fi→Int
 | _,[]=>0
 | seen,f::r=>if f.n<0∨96<f.n then 3 else if (f.b.length:Int)≠gu f.n then 2 else if kD c seen f.b≠0 then kD c seen f.b else rP c (seen++f.b) r
theorem xK (c:Int) (seen:List Int) (b:Int) (r:List Int):kD c seen (b::r)=if b < -1∨c≤b then 3 else if 0≤b∧b∈seen then 7 else kD c (seen++[b]) r:=rfl
def aO (s:St):Int:=if 5<s.fs.length∨s.count<0∨80<s.count then 4 else rP s.count [] s.fs
def qX (l:List Int) (j:Int):Bool:=decide (j∈l)
theorem DY (l:List Int) (b:Int):(fun i=>qX l i||decide (i=b))=qX (l++[b]):=by
 funext i;unfold qX;rw[nP];simp
theorem drop_at {α:Type} {l:List α} {x:α} (h:l[k]?=some x):l.drop k=x::l.drop (k+1):=by
 have hk:=(dx.1 h).1;rw[wV hk,(dx.1 h).2]
theorem take_at {α:Type} {l:List α} {x:α} (h:l[k]?=some x):l.take (k+1)=l.take k++[x]:=by
 rw[nT,h];rfl
def Ux (n:Int):Int:=if n<0∨80<n then 4 else 0
def TU (n:Int):Int:=if n<0∨80<n then 0 else n
def ig (s:St):List Int:=s.fs.flatMap Fi.b
def Ud (l:List Int):Nat:=(l.filter fun x=>decide (0≤x)).length
def qG (s:St):Int:=s.count-Ud (ig s)
def jy (s:St) (b:Int):Bool:=decide (b∈ig s)
theorem Us (l:List Int) (x:Int):l.any (fun y=>decide (x=y))=decide (x∈l):=by
 rw[nP,jO,decide_eq_true_eq];constructor
 ·rintro⟨y,hy,h⟩;rw[of_decide_eq_true h];exact hy
 ·intro h;exact⟨x,h,decide_eq_true rfl⟩
def eY (s:St):Int:=match (List.range s.count.toNat).find? (fun b:Nat => !jy s b) with
 | some b=>b
 | none => -1
theorem ND {s:St} (hb:(b:Int)<s.count) (h:∀i:Nat,i<b→jy s i=true) (hf:jy s b=false):eY s=b:=by
 unfold eY;have:(List.range s.count.toNat).find? (fun b:Nat => !jy s b)=some b:=by rw[List.find?_range_eq_some];exact⟨by simp[hf],bV.2 (by omega),fun j hj=>by simp[h j hj]⟩
 rw[this]
theorem Ij {s:St} (h:∀i:Nat,(i:Int)<s.count→jy s i=true):eY s = -1:=by
 unfold eY;have:(List.range s.count.toNat).find? (fun b:Nat => !jy s b)=none:=by rw[qz];intro i hi;have:=bV.1 hi;simp[h i (by omega)]
 rw[this]
def zSt:St:=⟨[],0⟩
def lh (s:St):Int:=if aO s≠0 then aO s else if s.fs.length=5 then 4 else 0
def oD (s:St):St:=if lh s=0 then ⟨s.fs++[⟨0,[]⟩],s.count⟩ else zSt
def jI (s:St):Int:=if lh s=0 then s.fs.length else 0
theorem jS {s:St} (h:aO s=0):s.fs.length≤5∧0≤s.count∧s.count≤80:=by
 unfold aO at h
 by_cases g:5<s.fs.length∨s.count<0∨80<s.count
 ·rw[if_pos g] at h;cases h
 ·omega
theorem Dc {c:Int}:∀ {fs:List Fi} {seen:List Int},rP c seen fs=0→∀f∈fs,0≤f.n∧f.n≤96∧(f.b.length:Int)=gu f.n∧∀b∈f.b,-1≤b∧b<c
 | f0::r,seen,h,f,hf=>by
  unfold rP at h
  by_cases g1:f0.n<0∨96<f0.n
  ·rw[if_pos g1] at h;cases h
  rw[if_neg g1] at h
  by_cases g2:(f0.b.length:Int)≠gu f0.n
  ·rw[if_pos g2] at h;cases h
  rw[if_neg g2] at h
  by_cases g3:kD c seen f0.b≠0
  ·rw[if_pos g3] at h;exact absurd h g3
  rw[if_neg g3] at h;rcases fE.1 hf with rfl|hf
  ·refine⟨by omega,by omega,qO.1 g2,?_⟩;have key:∀(l:List Int) (sn:List Int),kD c sn l=0→∀b∈l,-1≤b∧b<c:=by
    intro l
    induction l with
    | nil=>intro _ _ b hb;cases hb
    | cons x r ih=>
     intro sn h b hb;rw[xK] at h
     by_cases k1:x < -1∨c≤x
     ·rw[if_pos k1] at h;cases h
     rw[if_neg k1] at h
     by_cases k2:0≤x∧x∈sn
     ·rw[if_pos k2] at h;cases h
     rw[if_neg k2] at h;rcases fE.1 hb with rfl|hb
     ·omega
     ·exact ih _ h b hb
   exact key _ _ (qO.1 g3)
  ·exact Dc h f hf
theorem yR {s:St} (h:aO s=0):∀f∈s.fs,0≤f.n∧f.n≤96∧(f.b.length:Int)=gu f.n∧∀b∈f.b,-1≤b∧b<s.count:=by
 have h1:=jS h;unfold aO at h;rw[if_neg (by omega)] at h;exact Dc h
theorem Cm {s:St} {e:Int} (h:lh s=e) (he:e≠0):lh s=e∧jI s=0∧oD s=zSt:=by
 refine⟨h,?_,?_⟩
 ·unfold jI;rw[if_neg (by rw[h];exact he)]
 ·unfold oD;rw[if_neg (by rw[h];exact he)]
def aH (s:St) (k:Int):Fi:=if 0≤k then s.fs.getD k.toNat ⟨0,[]⟩ else ⟨0,[]⟩
def vK (s:St) (k:Int) (f:Fi):St:=⟨s.fs.set k.toNat f,s.count⟩
def bn (s:St) (k i:Int):Int:=(aH s k).b.getD i.toNat 0
def bZ (s:St) (k i:Int):Int:=
 if aO s≠0 then aO s else if k<0∨(s.fs.length:Int)≤k then 5 else if i<0∨((aH s k).b.length:Int)≤i then 9
 else if bn s k i<0∧eY s<0 then 10 else 0
def dR (s:St) (k i:Int):Int:=if bZ s k i≠0 then 0 else if bn s k i<0 then eY s else bn s k i
def dL (s:St) (k i:Int):St:=if bZ s k i≠0 then zSt else if bn s k i<0 then vK s k ⟨(aH s k).n,(aH s k).b.set i.toNat (eY s)⟩ else s
theorem wM {s:St} {k i e:Int} (h:bZ s k i=e) (he:e≠0):bZ s k i=e∧dR s k i=0∧dL s k i=zSt:=by
 refine⟨h,?_,?_⟩
 ·unfold dR;rw[if_pos (by rw[h];exact he)]
 ·unfold dL;rw[if_pos (by rw[h];exact he)]
theorem Ox {s:St} (h:s.count≤80):eY s<80∧-1≤eY s:=by
 unfold eY;cases hf:(List.range s.count.toNat).find? (fun b:Nat => !jy s b) with
 | none=>simp
 | some b=>
  have:=bV.1 (pV hf);simp;omega
def Un (b:List Int) (kk:Nat):List Int:=b.take kk++List.replicate (kk-b.length) (-1)
def PX (s:St) (k n:Int):Int:=
 if aO s≠0 then aO s else if k<0∨(s.fs.length:Int)≤k then 5 else if n<0∨96<n then 3 else 0
def WR (s:St) (k n:Int):St:=if PX s k n≠0 then zSt else vK s k ⟨n,Un (aH s k).b (gu n).toNat⟩
def kQ (l:List Int):List Int:=l.filter fun x=>decide (0≤x)
theorem yn (l m:List Int):kQ (l++m)=kQ l++kQ m:=ui _ _
theorem iJ {x:Int}:x∈kQ l↔x∈l∧0≤x:=by unfold kQ;simp
theorem zY {c:Int}:∀ {l seen:List Int},kD c seen l=0↔(∀b∈l,-1≤b∧b<c)∧(kQ l).Nodup∧∀b∈l,0≤b→¬b∈seen
 | [],seen=>by simp[kD,kQ]
 | x::r,seen=>by
  rw[xK]
  by_cases k1:x < -1∨c≤x
  ·rw[if_pos k1];refine⟨fun h=>(by cases h),fun h => ?_⟩;have:=h.1 x kv;omega
  rw[if_neg k1]
  by_cases k2:0≤x∧x∈seen
  ·rw[if_pos k2];refine⟨fun h=>(by cases h),fun h=>absurd k2.2 (h.2.2 x kv k2.1)⟩
  rw[if_neg k2,zY (l:=r)];have hp:kQ (x::r)=if 0≤x then x::kQ r else kQ r:=by unfold kQ;rw[Hg];simp
  rw[hp];constructor
  ·intro ⟨h1,h2,h3⟩;refine⟨fun b hb => ?_,?_,fun b hb h0 hs => ?_⟩
   ·rcases fE.1 hb with rfl|hb
    ·omega
    ·exact h1 b hb
   ·by_cases hx:0≤x
    ·rw[if_pos hx];refine rf.2 ⟨fun hm => ?_,h2⟩;exact h3 x (iJ.1 hm).1 hx (uQ _ (bN.2 rfl))
    ·rw[if_neg hx];exact h2
   rcases fE.1 hb with rfl|hb
   ·exact k2 ⟨h0,hs⟩
   ·exact h3 b hb h0 (uI _ hs)
  intro ⟨h1,h2,h3⟩;refine⟨fun b hb=>h1 b (jM _ hb),?_,fun b hb h0 hs => ?_⟩
  ·by_cases hx:0≤x
   ·rw[if_pos hx] at h2;exact (rf.1 h2).2
   ·rw[if_neg hx] at h2;exact h2
  rcases jK.1 hs with hs|hs
  ·exact h3 b (jM _ hb) h0 hs
  rw[bN.1 hs] at hb h0;rw[if_pos h0] at h2;exact (rf.1 h2).1 (iJ.2 ⟨hb,h0⟩)
def DW (c:Int) (f:Fi):Prop:=0≤f.n∧f.n≤96∧(f.b.length:Int)=gu f.n∧∀b∈f.b,-1≤b∧b<c
theorem EI {c:Int}:∀ {fs:List Fi} {seen:List Int},rP c seen fs=0↔(∀f∈fs,DW c f)∧(kQ (fs.flatMap Fi.b)).Nodup∧∀b∈fs.flatMap Fi.b,0≤b→¬b∈seen
 | [],seen=>by simp[rP,kQ]
 | f::r,seen=>by
  unfold rP
  by_cases g1:f.n<0∨96<f.n
  ·rw[if_pos g1];refine⟨fun h=>(by cases h),fun h => ?_⟩;have:=h.1 f kv;unfold DW at this;omega
  rw[if_neg g1]
  by_cases g2:(f.b.length:Int)≠gu f.n
  ·rw[if_pos g2];exact⟨fun h=>(by cases h),fun h=>absurd (h.1 f kv).2.2.1 g2⟩
  rw[if_neg g2,oV,yn]
  by_cases g3:kD c seen f.b≠0
  ·rw[if_pos g3];refine⟨fun h=>absurd h g3,fun h=>absurd (zY.2 ⟨(h.1 f kv).2.2.2,(xg.1 h.2.1).1,fun b hb=>h.2.2 b (uI _ hb)⟩) g3⟩
  rw[if_neg g3,EI (fs:=r)];have g3':=zY.1 (qO.1 g3);constructor
  ·intro ⟨h1,h2,h3⟩;refine⟨fun x hx => ?_,xg.2 ⟨g3'.2.1,h2,fun a ha b hb e => ?_⟩,fun b hb h0 hs => ?_⟩
   ·rcases fE.1 hx with rfl|hx
    ·exact⟨by omega,by omega,qO.1 g2,g3'.1⟩
    ·exact h1 x hx
   ·subst e;exact h3 a (iJ.1 hb).1 (iJ.1 hb).2 (uQ _ (iJ.1 ha).1)
   rcases jK.1 hb with hb|hb
   ·exact g3'.2.2 b hb h0 hs
   ·exact h3 b hb h0 (uI _ hs)
  intro ⟨h1,h2,h3⟩;obtain⟨n1,n2,n3⟩:=xg.1 h2;refine⟨fun x hx=>h1 x (jM _ hx),n2,fun b hb h0 hs => ?_⟩;rcases jK.1 hs with hs|hs
  ·exact h3 b (uQ _ hb) h0 hs
  ·exact n3 b (iJ.2 ⟨hs,h0⟩) b (iJ.2 ⟨hb,h0⟩) rfl
theorem kP {s:St}:aO s=0↔(s.fs.length≤5∧0≤s.count∧s.count≤80)∧(∀f∈s.fs,DW s.count f)∧(kQ (ig s)).Nodup:=by
 unfold aO
 by_cases g:5<s.fs.length∨s.count<0∨80<s.count
 ·rw[if_pos g];exact⟨fun h=>(by cases h),fun h=>by omega⟩
 rw[if_neg g,EI];exact⟨fun h=>⟨by omega,h.1,h.2.1⟩,fun h=>⟨h.2.1,h.2.2,fun b _ _ hm=>by cases hm⟩⟩
structure Ar where
 fr:Int
 en:Int
 rd:Bool
 wr:Bool
 sh:Bool
 fi:Int
 ba:Int
 deriving DecidableEq
def cZ (a:Ar):Int:=if a.fr<0∨a.en≤a.fr∨64<a.en∨a.fi < -1∨5≤a.fi∨a.ba<0 then 3 else if (a.fi<0∧(a.ba≠0∨a.sh=true))∨0≤a.fi∧12-(a.en-a.fr)<a.ba then 7 else 0
def kL (a:Ar):Int:=if 0≤a.fi then a.ba+a.en-a.fr else 0
def dI (a b:Ar):Bool:=a.en==b.fr&&a.rd==b.rd&&a.wr==b.wr&&a.sh==b.sh&&a.fi==b.fi&&b.ba==kL a
def qU (a:Ar):Prop:=(0≤a.ba∧a.ba≤12)∧(0≤a.fr∧a.fr≤64)∧0≤a.en∧a.en≤64
theorem fK {a:Ar} (h:cZ a=0):qU a∧a.fr<a.en∧-1≤a.fi∧a.fi<5∧(a.fi<0→a.ba=0∧a.sh=false)∧(0≤a.fi→a.ba≤12-(a.en-a.fr)):=by
 unfold cZ at h;split at h
 ·omega
 rename_i h1;split at h
 ·omega
 rename_i h2;have hs:a.fi<0→a.ba=0∧a.sh=false:=fun hf=>⟨qC fun h=>h2 (.inl ⟨hf,.inl h⟩),by
  cases hsh:a.sh
  ·rfl
  ·exact absurd (.inl ⟨hf,.inr hsh⟩) h2⟩
 have hb:0≤a.fi→a.ba≤12-(a.en-a.fr):=fun hf=>by omega
 unfold qU;refine⟨⟨⟨by omega,?_⟩,by omega,by omega,by omega⟩,by omega,by omega,by omega,hs,hb⟩
 by_cases hf:a.fi<0
 ·have:=(hs hf).1;omega
 ·have:=hb (by omega);omega
def kM (p:Option Ar) (i:Nat):List Ar→Int × Int
 | []=>(0,0)
 | a::r=>if cZ a≠0 then (cZ a,i) else if (match p with | some q=>decide (a.fr<q.en)||dI q a | none=>false) then (2,i) else kM (some a) (i+1) r
def dH (l:List Ar):Int × Int:=if 16<l.length then (4,0) else kM none 0 l
def tu (l:List Ar) (k:Nat):Option Ar:=if k=0 then none else l[k-1]?
theorem Di {l:List Ar} (hk:k<l.length):tu l (k+1)=some l[k]:=by simp[tu,hk]
def zq (p:Option Ar) (a:Ar):Bool:=match p with | some q=>decide (a.fr<q.en)||dI q a | none=>false
theorem mO (p:Option Ar) (i:Nat) (a:Ar) (r:List Ar):kM p i (a::r)=if cZ a≠0 then (cZ a,(i:Int)) else if zq p a then (2,(i:Int)) else kM (some a) (i+1) r:=rfl
theorem Cz {l:List Ar} (hlt:k<l.length) (he:cZ l[k]=0) (hno:zq (tu l k) l[k]=false):kM (tu l k) k (l.drop k)=kM (tu l (k+1)) (k+1) (l.drop (k+1)):=by
 rw[wV hlt,mO,if_neg (by rw[he];simp),hno,Di hlt];rfl
theorem Eh {l:List Ar} (hlt:k<l.length) (he:cZ l[k]=0) (hno:zq (tu l k) l[k]=true):kM (tu l k) k (l.drop k)=(2,(k:Int)):=by
 rw[wV hlt,mO,if_neg (by rw[he];simp),hno];rfl
theorem OO {l:List Ar} (hlt:k<l.length) (he:cZ l[k]≠0):kM (tu l k) k (l.drop k)=(cZ l[k],(k:Int)):=by
 rw[wV hlt,mO,if_pos he]
theorem Ru {l:List Ar} {m:Nat} (hm:m+1<l.length):zq (tu l (m+1)) l[m+1]=(decide (l[m+1].fr<l[m].en)||dI l[m] l[m+1]):=by
 rw[Di (show m<l.length by omega)];rfl
def uW (n:Int) (a:Ar):Bool:=decide (a.fr≤n)&&decide (n<a.en)
def fB (l:List Ar) (n:Int):Int:=idx (uW n) l
def iP (b a:Ar):Bool:=decide (a.fr<b.en)&&decide (b.fr<a.en)
def kN (b a:Ar):Bool:=decide (b.fr<a.fr)
def MG (at_ n:Int):Int:=if at_<0∨n<1∨64≤at_∨64-at_<n then 3 else 0
def Xk (a:Ar) (f:Int):Int:=if a.fr<f then f else a.fr
def XC (a:Ar) (t:Int):Int:=if t<a.en then t else a.en
def Ip (a:Ar) (f t:Int):Option Ar:=if XC a t≤Xk a f then none else some { a with fr:=Xk a f,en:=XC a t,ba:=if 0≤a.fi then a.ba+(Xk a f-a.fr) else a.ba }
def zAr:Ar:=⟨0,0,false,false,false,0,0⟩
def mZ (acc:List Ar) (a:Ar):List Ar:=match acc.getLast? with
 | some q=>if dI q a then acc.set (acc.length-1) { q with en:=a.en } else acc++[a]
 | none=>acc++[a]
def bH (l:List Ar):List Ar:=l.foldl mZ []
theorem zL {l:List Ar} (hk:k<l.length):bH (l.take (k+1))=mZ (bH (l.take k)) l[k]:=by
 have:l.take (k+1)=l.take k++[l[k]]:=by rw[nT,aN hk];rfl
 unfold bH;rw[this,BM];rfl
theorem IR (l:List Ar):∀k,k≤l.length→(bH (l.take k)).length≤k
 | 0,_=>by simp[bH]
 | k+1,hk=>by
  rw[zL (show k<l.length by omega)];have:=IR l k (by omega);unfold mZ;split
  ·split<;>simp<;>omega
  ·simp;omega
theorem IZ {l:List Ar} (h:∀a∈l,qU a):∀k,k≤l.length→∀a∈bH (l.take k),qU a
 | 0,_,a,ha=>by simp[bH] at ha
 | k+1,hk,a,ha=>by
  have ih:=IZ h k (by omega);have hl:=h l[k] (eZ _);rw[zL (show k<l.length by omega)] at ha;unfold mZ at ha;split at ha
  ·rename_i q hq;have hfq:=ih q (List.mem_of_getLast? hq);split at ha
   ·rcases lZ ha with ha|rfl
    ·exact ih a ha
    ·exact⟨hfq.1,hfq.2.1,hl.2.2⟩
   rcases jK.1 ha with ha|ha
   ·exact ih a ha
   ·rw[bN.1 ha];exact hl
  rcases jK.1 ha with ha|ha
  ·exact ih a ha
  ·rw[bN.1 ha];exact hl
theorem qm {l:List Ar} (h:(dH l).1=0):l.length≤16∧∀a∈l,cZ a=0:=by
 unfold dH at h;split at h
 ·exact absurd h (by decide)
 refine⟨by omega,?_⟩;have key:∀(l:List Ar) (p:Option Ar) (i:Nat),(kM p i l).1=0→∀a∈l,cZ a=0:=by
  intro l
  induction l with
  | nil=>intro p i _ a ha;cases ha
  | cons b r ih=>
   intro p i h a ha;rw[mO] at h;split at h
   ·rename_i hb;exact absurd h hb
   rename_i hb;split at h
   ·exact absurd (show (2:Int)=0 from h) (by decide)
   rcases fE.1 ha with rfl|ha
   ·exact qC hb
   ·exact ih _ _ h a ha
 exact key l none 0 h
def mg (n:Int):Int→List Ar→Int
 | t,[]=>t
 | t,a::r=>if n≤a.fr-t then t else mg n (if t<a.en then a.en else t) r
def qE (l:List Ar) (n:Int):Int:=if n<1∨64-mg n 0 l<n then -1 else mg n 0 l
theorem Je (n t:Int) (a:Ar) (r:List Ar):mg n t (a::r)=if n≤a.fr-t then t else mg n (if t<a.en then a.en else t) r:=rfl
def FO (l:List Ar) (x:Ar):Nat:=match l.findIdx? (kN x) with
 | some k=>k
 | none=>l.length
theorem UJ (l:List Ar) (x:Ar):FO l x≤l.length:=by
 unfold FO;split
 ·rename_i k hk;exact wI (sF.1 hk).1
 ·exact az _
def dW (l:List Ar) (x:Ar):List Ar:=l.take (FO l x)++x::l.drop (FO l x)
theorem yC (l:List Ar) (x:Ar):(dW l x).length=l.length+1:=by
 have:=UJ l x;unfold dW;simp;omega
theorem Rv {l:List Ar} {x y:Ar} (h:y∈dW l x):y=x∨y∈l:=by
 unfold dW at h;rcases jK.1 h with h|h
 ·exact .inr (Bj h)
 rcases fE.1 h with h|h
 ·exact .inl h
 ·exact .inr (List.mem_of_mem_drop h)
def lK (l:List Ar) (x:Ar):Int:=if (dH l).1≠0 then (dH l).1 else if cZ x≠0 then cZ x else if l.any (iP x)=true then 6 else if 16<(bH (dW l x)).length then 4 else 0
def iD (l:List Ar) (x:Ar):List Ar:=if lK l x≠0 then [] else bH (dW l x)
theorem GR {l:List Ar} {x:Ar} {e:Int} (h:lK l x=e) (he:e≠0):lK l x=e∧iD l x=[]:=by
 refine⟨h,?_⟩;unfold iD;rw[if_pos (by rw[h];exact he)]
def xE (n:Nat):Int:=if 16<n then 4 else 0
def Xa (s n:Int) (a:Ar):List Ar:=(Ip a 0 s).toList++(Ip a (s+n) 64).toList
def WE (l:List Ar) (s n:Int):List Ar:=l.flatMap (Xa s n)
def QL (l:List Ar) (s n:Int):Int:=if (dH l).1≠0 then (dH l).1 else if MG s n≠0 then MG s n else xE (WE l s n).length
def We (l:List Ar) (s n:Int):List Ar:=if QL l s n≠0 then [] else WE l s n
def Wn (rd wr:Bool) (a:Ar):Ar:={ a with rd:=rd,wr:=wr }
def Xm (s n:Int) (rd wr:Bool) (a:Ar):List Ar:=((Ip a s (s+n)).map (Wn rd wr)).toList
def Xv (s n:Int) (rd wr:Bool) (a:Ar):List Ar:=(Ip a 0 s).toList++Xm s n rd wr a++(Ip a (s+n) 64).toList
def WN (l:List Ar) (s n:Int) (rd wr:Bool):List Ar:=l.flatMap (Xv s n rd wr)
def Ws (l:List Ar) (s n:Int):Bool:=(List.range n.toNat).any fun k:Nat=>decide (fB l (s+k)<0)
def Qx (l:List Ar) (s n:Int) (rd wr:Bool):Int:=if (dH l).1≠0 then (dH l).1 else if MG s n≠0 then MG s n else if Ws l s n=true then 5 else xE (bH (WN l s n rd wr)).length
def Ww (l:List Ar) (s n:Int) (rd wr:Bool):List Ar:=if Qx l s n rd wr≠0 then [] else bH (WN l s n rd wr)
def aa:Ar:=⟨2,8,true,false,false,-1,0⟩
structure Pg where
 rd:Bool
 wr:Bool
 sh:Bool
 fi:Int
 pg:Int
 deriving DecidableEq
def uZ (a:Ar) (n:Int):Pg:=⟨a.rd,a.wr,a.sh,a.fi,if 0≤a.fi then a.ba+n-a.fr else 0⟩
def onA:List Ar→Int→Option Pg
 | [],_=>none
 | a::r,n=>if uW n a then some (uZ a n) else onA r n
theorem mR {a:Ar}:uW n a=true↔a.fr≤n∧n<a.en:=by unfold uW;simp
theorem jb (a:Ar) (r:List Ar) (n:Int):onA (a::r) n=if uW n a then some (uZ a n) else onA r n:=rfl
def srtF:Int→List Ar→Prop
 | _,[]=>True
 | lo,a::r=>cZ a=0∧lo≤a.fr∧srtF a.en r
theorem on_low:∀ {l:List Ar} {lo n:Int},srtF lo l→n<lo→onA l n=none
 | [],_,_,_,_=>rfl
 | a::r,lo,n,h,hn=>by have h1:=h.2.1;have h2:=(fK h.1).2.1;rw[jb,if_neg (by rw[mR];omega)];exact on_low h.2.2 (by omega)
def okF (p:Option Ar):List Ar→Prop
 | []=>True
 | a::r=>cZ a=0∧zq p a=false∧okF (some a) r
theorem JB {q a:Ar}:zq (some q) a=false↔q.en≤a.fr∧dI q a=false:=by
 unfold zq;simp
theorem okF_srt:∀ {l:List Ar} {q:Ar},okF (some q) l→srtF q.en l
 | [],_,_=>trivial
 | a::r,q,h=>⟨h.1,(JB.1 h.2.1).1,okF_srt h.2.2⟩
theorem Cq {l:List Ar} (h:okF none l):srtF 0 l:=by
 match l,h with
 | [],_=>trivial
 | a::r,h=>exact⟨h.1,by have:=(fK h.1).1.2.1.1;exact this,okF_srt h.2.2⟩
theorem wrongAt_iff:∀ {l:List Ar} {p:Option Ar} {i:Nat},(kM p i l).1=0↔okF p l
 | [],_,_=>⟨fun _=>trivial,fun _=>rfl⟩
 | a::r,p,i=>by
  rw[mO]
  by_cases h:cZ a=0
  ·rw[if_neg (by rw[h];simp)];cases hb:zq p a
   ·rw[if_neg (by simp),wrongAt_iff];exact⟨fun h2=>⟨h,hb,h2⟩,fun h2=>h2.2.2⟩
   rw[if_pos rfl];refine⟨fun h2=>absurd (show (2:Int)=0 from h2) (by decide),fun h2 => ?_⟩;have h3:=h2.2.1;rw[hb] at h3;cases h3
  rw[if_pos h];exact⟨fun h2=>absurd h2 h,fun h2=>absurd h2.1 h⟩
theorem qQ {l:List Ar}:(dH l).1=0↔l.length≤16∧okF none l:=by
 unfold dH
 by_cases h:16<l.length
 ·rw[if_pos h];exact⟨fun h2=>absurd (show (4:Int)=0 from h2) (by decide),fun h2=>by omega⟩
 rw[if_neg h,wrongAt_iff];exact⟨fun h2=>⟨by omega,h2⟩,fun h2=>h2.2⟩
theorem Aa {q a:Ar}:dI q a=true↔q.en=a.fr∧q.rd=a.rd∧q.wr=a.wr∧q.sh=a.sh∧q.fi=a.fi∧a.ba=kL q:=by
 unfold dI;simp[and_assoc]
theorem PY {q a:Ar} (h:dI q a=true) (n:Int):uZ a n=uZ q n:=by
 obtain⟨h1,h2,h3,h4,h5,h6⟩:=Aa.1 h;unfold uZ kL at *
 rw[←h2,←h3,←h4,←h5];split
 ·rename_i hf;rw[h6,if_pos hf];congr 1;omega
 ·rfl
def uw (q:Ar):List Ar→List Ar
 | []=>[q]
 | a::r=>if dI q a then uw { q with en:=a.en } r else q::uw a r
theorem IK (init:List Ar) (q a:Ar):mZ (init++[q]) a=if dI q a then init++[{ q with en:=a.en }] else init++[q]++[a]:=by
 unfold mZ;rw[List.getLast?_concat];simp only[];split
 ·simp
 ·rfl
theorem tidy_go:∀(r:List Ar) (init:List Ar) (q:Ar),r.foldl mZ (init++[q])=init++uw q r
 | [],init,q=>rfl
 | a::r,init,q=>by
  rw[Hf,IK];unfold uw;split
  ·exact tidy_go r init _
  ·rw[tidy_go r (init++[q]) a,mQ];rfl
theorem CQ (a:Ar) (r:List Ar):bH (a::r)=uw a r:=by
 unfold bH;rw[Hf];exact tidy_go r [] a
theorem AO {q a:Ar} (hq:cZ q=0) (ha:cZ a=0) (h:dI q a=true):cZ { q with en:=a.en }=0:=by
 obtain⟨h1,h2,h3,h4,h5,h6⟩:=Aa.1 h;have eq:=fK hq;have ea:=fK ha;unfold qU at eq ea;unfold cZ;rw[if_neg (by simp only[];omega),if_neg];simp only[];rintro (⟨k1,k2⟩|⟨k1,k2⟩)
 ·have:=eq.2.2.2.2.1 k1;rcases k2 with k2|k2
  ·exact k2 this.1
  ·rw[this.2] at k2;cases k2
 have h7:=ea.2.2.2.2.2 (by omega);unfold kL at h6;rw[if_pos k1] at h6;omega
theorem Rn {q a:Ar} {r:List Ar} (hq:cZ q=0) (ha:cZ a=0) (h:dI q a=true) (n:Int):onA ({ q with en:=a.en }::r) n=onA (q::a::r) n:=by
 have hp:=PY h n;obtain⟨h1,_⟩:=Aa.1 h;have h2:=(fK hq).2.1;have h3:=(fK ha).2.1;rw[jb,jb,jb];have b:uZ { q with en:=a.en } n=uZ q n:=rfl
 by_cases c1:uW n q=true
 ·rw[if_pos c1,if_pos (by rw[mR] at c1 ⊢; simp only[];omega),b]
 rw[if_neg c1]
 by_cases c2:uW n a=true
 ·rw[if_pos c2,if_pos (by rw[mR] at c2 ⊢; simp only[];omega),b,hp]
 rw[if_neg c2,if_neg];rw[mR] at c1 c2 ⊢;simp only[];omega
theorem tdOn:∀ {r:List Ar} {q:Ar},cZ q=0→srtF q.en r→∀n,onA (uw q r) n=onA (q::r) n
 | [],q,_,_,n=>rfl
 | a::r,q,hq,h,n=>by
  unfold uw;split
  ·rename_i hj;rw[tdOn (AO hq h.1 hj) (by simpa using h.2.2) n,Rn hq h.1 hj]
  ·rw[jb,tdOn h.1 h.2.2 n,←jb]
theorem tdOk:∀ {r:List Ar} {q:Ar} {p:Option Ar},cZ q=0→srtF q.en r→zq p q=false→okF p (uw q r)
 | [],q,p,hq,_,hb=>⟨hq,hb,trivial⟩
 | a::r,q,p,hq,h,hb=>by
  unfold uw;split
  ·rename_i hj;refine tdOk (AO hq h.1 hj) (by simpa using h.2.2) ?_;cases p with
   | none=>rfl
   | some z=>exact hb
  rename_i hj;exact⟨hq,hb,tdOk h.1 h.2.2 (JB.2 ⟨h.2.1,by simpa using hj⟩)⟩
theorem Ur {l:List Ar} (h:srtF lo l) (n:Int):onA (bH l) n=onA l n:=by
 match l,h with
 | [],_=>rfl
 | a::r,h=>rw[CQ,tdOn h.1 h.2.2]
theorem Tc {l:List Ar} (h:srtF lo l):okF none (bH l):=by
 match l,h with
 | [],_=>trivial
 | a::r,h=>rw[CQ];exact tdOk h.1 h.2.2 rfl
def Lc (x:Ar):List Ar→List Ar
 | []=>[x]
 | a::r=>if x.fr<a.fr then x::a::r else a::Lc x r
theorem Nk (x:Ar):∀l:List Ar,dW l x=Lc x l
 | []=>rfl
 | a::r=>by
  have ih:=Nk x r;unfold dW FO at ih ⊢;unfold Lc;rw[yG]
  by_cases h:x.fr<a.fr
  ·rw[if_pos h,if_pos (show kN x a=true from decide_eq_true h)];rfl
  rw[if_neg h,if_neg (show ¬kN x a=true by unfold kN;simpa using h)];cases hq:r.findIdx? (kN x) with
  | none=>rw[hq] at ih;simp only[Option.map_none] at *; rw[←ih];simp
  | some k=>rw[hq] at ih;simp only[wT] at *; rw[←ih];simp
theorem Nl {x:Ar} (hx:cZ x=0) (n:Int):∀ {l:List Ar} {lo:Int},srtF lo l→(∀a∈l,iP x a=false)→onA (Lc x l) n=if uW n x then some (uZ x n) else onA l n
 | [],_,_,_=>rfl
 | a::r,lo,h,hm=>by
  unfold Lc;split
  ·rfl
  rename_i hlt;rw[jb,jb,Nl hx n h.2.2 (fun b hb=>hm b (jM _ hb))]
  by_cases c1:uW n a=true
  ·rw[if_pos c1,if_pos c1];rw[if_neg];rw[mR] at c1 ⊢;have hm1:=hm a kv;unfold iP at hm1;have h2:=(fK hx).2.1;have h3:=(fK h.1).2.1;simp only[Bh,decide_eq_false_iff_not] at hm1;omega
  ·rw[if_neg c1,if_neg c1]
theorem Ir {x:Ar} (hx:cZ x=0):∀ {l:List Ar} {lo:Int},srtF lo l→lo≤x.fr→(∀a∈l,iP x a=false)→srtF lo (Lc x l)
 | [],lo,_,hl,_=>⟨hx,hl,trivial⟩
 | a::r,lo,h,hl,hm=>by
  have hm1:=hm a kv;unfold iP at hm1;have h2:=(fK hx).2.1;have h3:=(fK h.1).2.1;simp only[Bh,decide_eq_false_iff_not] at hm1;unfold Lc;split
  ·exact⟨hx,hl,h.1,by omega,h.2.2⟩
  rename_i hlt;exact⟨h.1,h.2.1,Ir hx h.2.2 (by omega) (fun b hb=>hm b (jM _ hb))⟩
theorem toList_map {α β:Type} (o:Option α) (f:α→β):(o.map f).toList=o.toList.map f:=by cases o<;>rfl
theorem BF (l:List Ar) (n:Int):(0≤fB l n)↔onA l n≠none:=by
 have h:=pW (uW n) l;have h2:l.any (uW n)=true↔onA l n≠none:=by
  induction l with
  | nil=>simp[onA]
  | cons a r ih=>rw[List.any_cons,jb];cases uW n a<;>simp[ih (pW _ _)]
 rw[←h2,←h,decide_eq_true_eq];exact Iff.rfl
def f0:Nat→Option Pg:=fun _=>none
theorem Ea {e:En} (h:gV e=0):oq e=Kw e:=by
 unfold gV at h;unfold oq Kw;split at h
 ·cases h
 rename_i h1;rw[nP];simp;omega
theorem yK {h:List En} (h0:lT h=0):∀e∈h,gV e=0:=by
 intro e he;obtain⟨i,hi,rfl⟩:=jC.1 he;have hl:=qg h0
 by_cases hne:∀j (hj:j<h.length),gV h[j]=0
 ·exact hne i hi
 exfalso;have hf:firstE (h.map gV)≠0:=by
  intro hf;apply hne;intro j hj;have key:∀(l:List Int),firstE l=0→∀x∈l,x=0:=by
   intro l
   induction l with
   | nil=>intro _ x hx;cases hx
   | cons y r ih=>
    intro h x hx
    by_cases e:y=0
    ·simp only[firstE,e,if_true] at h;rcases fE.1 hx with rfl|hx
     ·exact e
     ·exact ih h x hx
    ·simp only[firstE,e,if_false] at h
  exact key _ hf _ (eD.2 ⟨h[j],eZ hj,rfl⟩)
 unfold lT at h0;rw[if_neg (by omega),if_pos hf] at h0;exact hf h0
theorem EP {t:Tb} (hi:i<8) (h:lT t[i]=0):lL (fU t) i=if t[i].length=0 then List.replicate 8 zEn else t[i]:=by
 have hl:=qg h;apply nO;intro r;unfold lL fU;rw[jN]
 by_cases hr:r<8
 ·rw[if_pos hr,nK,iY,rJ (by omega)];simp only[wT];rcases hl with hl|hl
  ·rw[if_pos hl,rV,if_pos hr,Fs hi hr hl]
  ·rw[if_neg (by omega),aN (by omega),OI hi hr hl (aN (by omega))]
 rw[if_neg hr,fo];split
 ·simp;omega
 ·omega
theorem GQ {h:List En} (h0:∀e∈h,gV e=0):h.any Kw=h.any oq:=by
 rw[nP];simp only[jO];constructor
 ·rintro⟨e,he,h1⟩;exact⟨e,he,by rw[Ea (h0 e he)];exact h1⟩
 ·rintro⟨e,he,h1⟩;exact⟨e,he,by rw[←Ea (h0 e he)];exact h1⟩
theorem Rc {h:List En} (h0:lT h=0) (hl:h.length≠0):h.any oq=true:=by
 have h1:=Ae (qg h0) (fun i hi=>yK h0 _ (eZ hi));rw[h0] at h1
 by_cases hh:h.any (fun e=>decide (e.k≠0))=false
 ·rw[if_pos ⟨by omega,hh⟩] at h1;cases h1
 ·simpa[oq] using hh
theorem Ap {t:Tb} (hi:i<8) (h:lT t[i]=0):si (fU t) i=t[i]:=by
 unfold si;rw[EP hi h]
 by_cases hl:t[i].length=0
 ·rw[if_pos hl];have:t[i]=[]:=jX hl;rw[this];decide
 rw[if_neg hl,GQ (yK h),Rc h hl];rfl
theorem Cx {t:Tb} {e:En} (h:setE t n e=0):setT t n e=qP ((fU t).set n.toNat e):=by
 have h0:dO t=0:=by
  unfold setE at h
  by_cases hw:dO t=0
  ·exact hw
  ·rw[if_pos hw] at h;exact h
 have hn:0≤n∧n<64:=by
  unfold setE at h;rw[if_neg (by rw[h0];simp)] at h
  by_cases hn:n<0∨64≤n
  ·rw[if_pos hn] at h;cases h
  ·omega
 have he:gV e=0:=by unfold setE at h;rwa [if_neg (by rw[h0];simp),if_neg (by omega)] at h
 obtain⟨q,r,hq,hr,a,_,_⟩:=wJ hn;have hN:n.toNat=8*q+r:=by omega
 rw[Mx h hq hr a,hN];apply BU;intro i hi;simp only[qP,ni];have hh:=mF h0 i hi
 by_cases ei:i=q
 ·subst ei;rw[Vector.getElem_set_self];have hp:lL ((fU t).set (8*i+r) e) i=(lL (fU t) i).set r e:=by
   apply nO;intro k;have b:(fU t).length=64:=by simp[fU]
   by_cases hk:k<8
   ·unfold lL;rw[jN,if_pos hk,nK]
    by_cases ek:k=r
    ·subst ek;rw[uU (by omega),uU (by simp;omega)]
    ·rw[uo (by omega),uo (fun h=>ek h.symm),jN,if_pos hk,nK]
   ·rw[fo (by simp[lL];omega),fo (by simp[lL];omega)]
  unfold si;rw[hp,EP hi hh];unfold setH Vg;rw[GQ];intro x hx;rcases lZ hx with hx|rfl
  ·split at hx
   ·rw[(BN.1 hx).2];rfl
   ·exact yK hh x hx
  ·exact he
 rw[GD hq hi (fun h=>ei h.symm)];have hp:lL ((fU t).set (8*q+r) e) i=lL (fU t) i:=by
  apply nO;intro k;unfold lL;rw[jN,jN]
  by_cases hk:k<8
  ·rw[if_pos hk,if_pos hk,nK,nK,uo (by omega)]
  ·rw[if_neg hk,if_neg hk]
 have:si ((fU t).set (8*q+r) e) i=si (fU t) i:=by unfold si;rw[hp]
 rw[this,Ap hi hh]
theorem Oq {m:List Int} (hlm:l.length=m.length) (h:∀i (hi:i<l.length),l[i]=m[i]'(by omega)):(l==m)=true:=by
 rw[beq_iff_eq];exact qH hlm fun i h1 h2=>h i h1
theorem Oe {m:List Int} (k:Nat) (h1:k<l.length) (h2:k<m.length) (h:l[k]≠m[k]):(l==m)=false:=by
 rw[beq_eq_false_iff_ne];rintro rfl;exact h rfl
theorem yc (t:Tb) (k:Nat) (h:k<64):(fU t)[k]?=some (dB t (k:Int)):=by
 unfold fU;simp[h]
theorem mh (t:Tb):(fU t).length=64:=by simp[fU]
theorem vT {t:Tb} (h:dO t=0) (n:Int):gV (dB t n)=0:=by
 by_cases hn:0≤n∧n<64
 ·obtain⟨q,r,hq,hr,rfl,_,_⟩:=wJ hn;rw[xY hq hr];split
  ·rename_i hl;rw[bM,aN (by omega)];exact yK (mF h q hq) _ (eZ _)
  ·rfl
 ·rw[qx (by omega)];rfl
theorem QU {e:En} (h:gV e=0) (h2:Kw e=false):e=zEn:=by
 have h3:=Ea h;rw[h2] at h3;have hk:e.k=0:=by simpa[oq] using h3
 unfold gV at h;obtain⟨k,n,w⟩:=e;simp only at hk;subst hk;simp at h
 by_cases h4:n<0∨60≤n
 ·rw[if_pos h4] at h;cases h
 rw[if_neg h4] at h
 by_cases h5:¬n=0∨w=true
 ·rw[if_pos h5] at h;cases h
 simp only[not_or,qO,Bool.not_eq_true] at h5;obtain⟨rfl,rfl⟩:=h5;rfl
theorem Dr {l:List En} {x:En} (h:x∈lL l i):x∈l:=List.mem_of_mem_drop (Bj h)
theorem FR {l:List En} (h:∀x∈l,gV x=0) (hl:l.length=64) (hi:i<8):lT (si l i)=0:=by
 unfold si
 by_cases hp:(lL l i).any Kw=true
 ·rw[if_pos hp];have a:(lL l i).length=8:=JY hl hi (by omega);rw[Ae (.inr a) (fun j hj=>h _ (Dr (eZ hj))),if_neg];rintro⟨_,h2⟩;have h3:=GQ (h:=lL l i) (fun x hx=>h x (Dr hx));rw[hp] at h3;have h4:(lL l i).any oq=false:=h2;rw[h4] at h3;cases h3
 ·rw[if_neg hp];rfl
theorem Jd {l:List En} (h:∀x∈l,gV x=0) (hl:l.length=64):dO (qP l)=0:=
 AJ fun i hi=>by simp only[qP,ni];exact FR h hl hi
theorem Dy {l:List En} (h:∀x∈l,gV x=0) (hl:l.length=64) {n:Nat} (hn:n<64):dB (qP l) (n:Int)=l[n]'(by omega):=by
 obtain⟨q,r,hq,hr,d,_,_⟩:=wJ (n:=(n:Int)) (by omega);have c : n=8*q+r:=by omega
 subst c;rw[xY hq hr];simp only[qP,ni];unfold si;have b:(lL l q).length=8:=JY hl hq (by omega);have a:(lL l q)[r]'(by omega)=l[8*q+r]'(by omega):=by simp[lL]
 by_cases hp:(lL l q).any Kw=true
 ·simp only[if_pos hp,if_pos b];rw[bM,aN (by omega),←a];rfl
 simp only[if_neg hp];rw[if_neg (by decide),←a];symm;refine QU (h _ (Dr (eZ _))) ?_;simp only[jO,not_exists,not_and,Bool.not_eq_true] at hp;exact hp _ (eZ _)
theorem DU {t:Tb} (h:dO t=0):qP (fU t)=t:=by
 apply BU;intro i hi;simp only[qP,ni];exact Ap hi (mF h i hi)
theorem Lj {l:List En} (h:∀x∈l,gV x=0) (hl:l.length=64):fU (qP l)=l:=by
 apply qH
 ·rw[mh,hl]
 intro i h1 h2;have:=yc (qP l) i (by omega);rw[Dy h hl (by omega),aN h1] at this;exact aS this
theorem Rp {t:Tb} (h:dO t=0):∀x∈fU t,gV x=0:=by
 intro x hx;obtain⟨i,hi,rfl⟩:=eD.1 hx;exact vT h _
theorem uS {t:Tb} {e:En} (h:setE t n e=0):dO t=0∧(0≤n∧n<64)∧gV e=0:=by
 unfold setE at h
 by_cases hw:dO t=0
 ·rw[if_neg (by rw[hw];simp)] at h
  by_cases hn:n<0∨64≤n
  ·rw[if_pos hn] at h;cases h
  rw[if_neg hn] at h;exact⟨hw,by omega,h⟩
 ·rw[if_pos hw] at h;exact absurd h hw
theorem Bz {t:Tb} {e:En} (h1:dO t=0) (h2:0≤n∧n<64) (h3:gV e=0):setE t n e=0:=by
 unfold setE;rw[if_neg (by rw[h1];simp),if_neg (by omega),h3]
theorem Hl {t:Tb} {n:Nat} {e:En} (h1:dO t=0) (h3:gV e=0):∀x∈(fU t).set n e,gV x=0:=by
 intro x hx;rcases lZ hx with hx|rfl
 ·exact Rp h1 x hx
 ·exact h3
theorem qR {t:Tb} {e:En} (h:setE t n e=0):dO (setT t n e)=0:=by
 obtain⟨h1,h2,h3⟩:=uS h;rw[Cx h];exact Jd (Hl h1 h3) (by rw[dM,mh])
theorem yx {t:Tb} {e:En} (h:setE t n e=0) (k:Int):dB (setT t n e) k=if k=n then e else dB t k:=by
 obtain⟨h1,h2,h3⟩:=uS h;rw[Cx h]
 by_cases hk:0≤k∧k<64
 ·obtain⟨j,rfl⟩:=kW hk.1;rw[Dy (Hl h1 h3) (by rw[dM,mh]) (by omega)];rw[BG]
  by_cases e0:(j:Int)=n
  ·rw[if_pos (by omega),if_pos e0]
  rw[if_neg (by omega),if_neg e0];have:=yc t j (by omega);rw[aN (by rw[mh];omega)] at this;exact aS this
 ·rw[if_neg (by omega),qx (by omega),qx (by omega)]
theorem QW (t:Tb):∀n∈aM t,0≤n∧n<64:=by
 intro n hn;unfold aM jm at hn;obtain⟨m,hm,rfl⟩:=eD.1 hn;have:=bV.1 (rU.1 hm).1;omega
theorem Jr {t:Tb} (h:dO t=0):Dw t:=fun k hk=>by
 have:=qg (mF h k hk);omega
theorem zTb_right:dO zTb=0:=by decide
theorem Hz {m:Mem} {f:Fr} (hw:bC m=0) (hf:bO f=0):bC ⟨m.fs.set k f,m.hand⟩=0:=by
 obtain⟨h1,h2,h3,h4⟩:=(dZ m).1 hw;rw[dZ];simp only[dM];refine⟨h1,fun g hg => ?_,h3,h4⟩;rcases lZ hg with h|rfl
 ·exact h2 g h
 ·exact hf
theorem Cu (f:Fr):bO f=0∨bO f=3∨bO f=7:=by
 unfold bO;split
 ·exact .inr (.inl rfl)
 split
 ·exact .inr (.inr rfl)
 ·exact .inl rfl
theorem firstEf_mem:∀l:List Fr,firstEf l=0∨firstEf l=3∨firstEf l=7
 | [] => .inl rfl
 | f::r=>by
  unfold firstEf;split
  ·exact Cu f
  ·exact firstEf_mem r
theorem LF (m:Mem):bC m=0∨bC m=3∨bC m=4∨bC m=7:=by
 unfold bC;have:=firstEf_mem m.fs;split
 ·omega
 split
 ·omega
 ·split<;>omega
theorem PE {l:List Fr} (h:uX l=some k):∃hk:k<l.length,l[k].r=0:=by
 unfold uX at h;rw[sF] at h;obtain⟨hk,h1,_⟩:=h;exact⟨hk,by simpa using h1⟩
theorem RL {l:List Fr} (h:uX l=none):fe l=0:=by
 unfold uX at h;rw[xh] at h;unfold fe;rw[List.length_eq_zero_iff,List.filter_eq_nil_iff];exact fun f hf=>by simpa using h f hf
theorem Ow {m:Mem} {p:Page} (h:gF m p file index=10):fe m.fs=0:=by
 unfold gF at h;have h1:=LF m;have h2:=Cu (aZ p file index);split at h
 ·omega
 split at h
 ·omega
 split at h
 ·exact RL ‹_›
 ·cases h
theorem Uw {m:Mem} {p:Page} (h:gF m p file index=0):bC m=0∧bO (aZ p file index)=0∧∃k,∃hk:k<m.fs.length,m.fs[k].r=0∧gJ m p file index=k∧eG m p file index=⟨m.fs.set k (aZ p file index),m.hand⟩:=by
 have h0:=h;unfold gF at h;split at h
 ·exact absurd h ‹_›
 rename_i h1;split at h
 ·exact absurd h ‹_›
 rename_i h2;split at h
 ·cases h
 rename_i h3;cases hf:uX m.fs with
 | none=>exact absurd hf h3
 | some k=>
  obtain⟨hk,hr⟩:=PE hf;have hK:gJ m p file index=k:=by unfold gJ;rw[if_pos h0,hf];rfl
  exact⟨by omega,by omega,k,hk,hr,hK,by unfold eG;rw[if_pos h0,hK]⟩
theorem MM {f:Fr} (h:bO f=0) (hr:f.r=0):f=frZ:=by
 obtain⟨⟨_,_,h1,_,_,_⟩,h2,h3⟩:=(dC f).1 h;obtain⟨h4,h5,h6,h7⟩:=h2 hr;have h8:=h3 h6;have h9:f.f = -1:=by omega
 obtain⟨p,r,u,d,ff,i⟩:=f;simp only at *
 subst hr h4 h5 h7 h8 h9;rfl
theorem Mh (h:dD l=0):∀x∈l,xR x=false:=by
 unfold dD at h;split at h
 ·omega
 split at h
 ·omega
 rename_i h1;intro x hx;have:=tZ.1 (by simpa using h1) x hx;simpa using this
theorem EW (hl:l.length≤60) (h:∀x∈l,xR x=false):dD l=0:=by
 unfold dD;rw[if_neg (by omega),if_neg];simp only[jO,not_exists,not_and];intro x hx;simp[h x hx]
theorem Eb (k:Nat) (x:Int) (h:dD l=0) (h0:0≤x) (h1:x≤1000):dD (l.set k x)=0:=by
 refine EW (by rw[dM];exact mf h) fun y hy => ?_;rcases lZ hy with hm|rfl
 ·exact Mh h _ hm
 ·simp[xR];omega
theorem FD {α:Type} {l:List α} {x:α} (h:l[i]?=some x) (y:α):l=l.take i++x::l.drop (i+1)∧l.set i y=l.take i++y::l.drop (i+1):=by
 obtain⟨hi,rfl⟩:=dx.1 h;refine⟨?_,?_⟩
 ·rw[List.getElem_cons_drop,pR]
 ·rw[List.set_eq_take_append_cons_drop,if_pos hi]
theorem QJ {x:Int} (h:x<0) (l:List Int):kQ (x::l)=kQ l:=by unfold kQ;rw[Hg,if_neg (by simp;omega)]
theorem FW {x:Int} (h:0≤x) (l:List Int):kQ (x::l)=x::kQ l:=by unfold kQ;rw[Hg,if_pos (by simpa using h)]
theorem JI {s:St} {f:Fi} (hf:s.fs[F]?=some f) {v:Int} (hv:f.b[I]?=some v) (hn:v<0) {X:Int} (hX:0≤X) (n c:Int) :
  (kQ (ig ⟨s.fs.set F ⟨n,f.b.set I X⟩,c⟩)).Perm (X::kQ (ig s)):=by
 have e1:=FD hf ⟨n,f.b.set I X⟩;have e2:=FD hv X;unfold ig;show (kQ ((s.fs.set F ⟨n,f.b.set I X⟩).flatMap Fi.b)).Perm (X::kQ (s.fs.flatMap Fi.b));rw[e1.2]
 conv=>rhs;rw[e1.1]
 simp only[gK,oV,yn];rw[e2.2]
 conv=>rhs;rw[show f.b=f.b.take I++v::f.b.drop (I+1) from e2.1]
 simp only[yn,QJ hn,FW hX];refine List.Perm.trans ?_ List.perm_middle;refine List.Perm.append_left _ ?_;rw[mQ,mQ];exact List.perm_middle
theorem EJ {s:St} (h:0≤eY s):eY s<s.count∧jy s (eY s)=false:=by
 unfold eY at h ⊢;cases hf:(List.range s.count.toNat).find? (fun b:Nat => !jy s b) with
 | none=>rw[hf] at h;simp at h
 | some b=>
  have h1:=bV.1 (pV hf);have h2:=rF hf;simp only;refine⟨by omega,by simpa using h2⟩
theorem Kt {s:St} (h:eY s<0) (b:Nat) (hb:(b:Int)<s.count):jy s b=true:=by
 unfold eY at h;cases hf:(List.range s.count.toNat).find? (fun b:Nat => !jy s b) with
 | none=>
  have:=qz.1 hf b (bV.2 (by omega));simpa using this
 | some c=>
  rw[hf] at h;simp only at h;omega
theorem Az {s:St} {k i:Int} (h:bZ s k i=0):aO s=0∧∃(F I:Nat) (f:Fi) (v:Int),k=F∧i=I∧s.fs[F]?=some f∧f.b[I]?=some v∧aH s k=f∧bn s k i=v ∧
  ((0≤v∧dL s k i=s∧dR s k i=v)∨(v<0∧0≤eY s∧dR s k i=eY s∧dL s k i=⟨s.fs.set F ⟨f.n,f.b.set I (eY s)⟩,s.count⟩)):=by
 have h':=h;unfold bZ at h'
 by_cases g1:aO s≠0
 ·rw[if_pos g1] at h'; exact absurd h' g1
 rw[if_neg g1] at h'
 by_cases g2:k<0∨(s.fs.length:Int)≤k
 ·rw[if_pos g2] at h'; cases h'
 rw[if_neg g2] at h'
 by_cases g3:i<0∨((aH s k).b.length:Int)≤i
 ·rw[if_pos g3] at h'; cases h'
 rw[if_neg g3] at h'
 by_cases g4:bn s k i<0∧eY s<0
 ·rw[if_pos g4] at h'; cases h'
 obtain⟨F,rfl⟩:=kW (show 0≤k by omega);obtain⟨I,rfl⟩:=kW (show 0≤i by omega);have hF:F<s.fs.length:=by omega
 have a:aH s F=s.fs[F]:=by unfold aH;rw[if_pos (by omega),bD,bM,aN hF];rfl
 rw[a] at g3;have hI:I<s.fs[F].b.length:=by omega
 have c:bn s F I=s.fs[F].b[I]:=by unfold bn;rw[a,bD,bM,aN hI];rfl
 refine⟨qO.1 g1,F,I,s.fs[F],s.fs[F].b[I],rfl,rfl,aN hF,aN hI,a,c,?_⟩;have hS:dL s F I=if bn s F I<0 then vK s F ⟨(aH s F).n,(aH s F).b.set ((I:Int)).toNat (eY s)⟩ else s:=by unfold dL;rw[if_neg (by rw[h];simp)]
 have hN:dR s F I=if bn s F I<0 then eY s else bn s F I:=by unfold dR;rw[if_neg (by rw[h];simp)]
 rw[hS,hN,c];rw[c] at g4
 by_cases g5:s.fs[F].b[I]<0
 ·refine .inr ⟨g5,by omega,if_pos g5,?_⟩;rw[if_pos g5,a,bD];unfold vK;rw[bD]
 ·exact .inl ⟨by omega,if_neg g5,if_neg g5⟩
theorem MW {s:St} {x:Int} (h:jy s x=false):¬x∈ig s:=by
 unfold jy at h;simpa using h
theorem OE {s:St} {f:Fi} {v:Int} (h:aO s=0) (hf:s.fs[F]?=some f) (hv:f.b[I]?=some v) (h0:0≤v):bZ s F I=0∧dR s F I=v∧dL s F I=s:=by
 have hF:=(dx.1 hf).1;have hI:=(dx.1 hv).1;have c:aH s F=f:=by unfold aH;rw[if_pos (by omega),bD,bM,hf];rfl
 have a:bn s F I=v:=by unfold bn;rw[c,bD,bM,hv];rfl
 have hE:bZ s F I=0:=by unfold bZ;rw[if_neg (by rw[h];simp),if_neg (by omega),c,if_neg (by omega),a,if_neg (by omega)]
 refine⟨hE,?_,?_⟩
 ·unfold dR;rw[if_neg (by rw[hE];simp),a,if_neg (by omega)]
 ·unfold dL;rw[if_neg (by rw[hE];simp),a,if_neg (by omega)]
theorem Ba {s:St} (h:aO s=0) {f:Fi} {v:Int} (hf:s.fs[F]?=some f) (hv:f.b[I]?=some v) (hn:v<0) {X:Int} (hX:0≤X) (hXc:X<s.count) (hu:jy s X=false) :
  aO ⟨s.fs.set F ⟨f.n,f.b.set I X⟩,s.count⟩=0:=by
 obtain⟨h1,h2,h3⟩:=kP.1 h;have a:=h2 f (dm hf);refine kP.2 ⟨by simpa using h1,fun g hg => ?_,?_⟩
 ·rcases lZ hg with hg|rfl
  ·exact h2 g hg
  refine⟨a.1,a.2.1,by simpa using a.2.2.1,fun b hb => ?_⟩;rcases lZ hb with hb|rfl
  ·exact a.2.2.2 b hb
  show -1≤b∧b<s.count;omega
 ·exact (JI hf hv hn hX f.n s.count).nodup_iff.2 (rf.2 ⟨fun hm=>MW hu (iJ.1 hm).1,h3⟩)
theorem JJ {s:St} {k i:Int} (h:bZ s k i=0):aO (dL s k i)=0∧bZ (dL s k i) k i=0∧dR (dL s k i) k i=dR s k i∧dL (dL s k i) k i=dL s k i ∧
  ((0≤bn s k i∧dL s k i=s)∨(bn s k i<0∧jy s (dR s k i)=false∧qG (dL s k i)=qG s-1)):=by
 obtain⟨hw,F,I,f,v,rfl,rfl,hf,hv,e,c,hc⟩:=Az h;rcases hc with ⟨h0,hS,hN⟩|⟨hn,h0,hN,hS⟩
 ·rw[hS];exact⟨hw,h,rfl,hS,.inl ⟨by rw[c];exact h0,rfl⟩⟩
 obtain⟨d,hu⟩:=EJ h0;have a:=Ba hw hf hv hn h0 d hu;have hF:=(dx.1 hf).1;have hI:=(dx.1 hv).1;have hb:=OE (F:=F) (I:=I) (f:=⟨f.n,f.b.set I (eY s)⟩) (v:=eY s) a (uU hF) (uU hI) h0;rw[hS,hN];refine⟨a,hb.1,hb.2.1,hb.2.2,.inr ⟨by rw[c];exact hn,hu,?_⟩⟩;have hp:=(JI hf hv hn h0 f.n s.count).length_eq;unfold qG;show s.count-((kQ _).length:Int)=s.count-((kQ _).length:Int)-1;rw[hp,nz];omega
theorem Pq (l:List Int):Ud l=(kQ l).length:=rfl
theorem all_once:∀(c:Nat) (l:List Int),l.Nodup→(∀x∈l,0≤x∧x<(c:Int))→(∀b:Nat,b<c→(b:Int)∈l)→l.length=c
 | 0,l,_,h,_=>by
  match l with
  | []=>rfl
  | x::r=>have:=h x kv;omega
 | c+1,l,hn,h,ha=>by
  have hm:=ha c (by omega);have hl:=List.length_erase_of_mem hm;have hpos:=List.length_pos_of_mem hm;have:=all_once c (l.erase (c:Int)) (hn.erase _) (fun x hx=>by
   have h1:=h x (List.mem_of_mem_erase hx);have h2:x≠(c:Int):=fun e=>by subst e;exact hn.not_mem_erase hx
   omega) (fun b hb=>by
   have h1:=ha b (by omega);exact (List.mem_erase_of_ne (by omega)).2 h1)
  omega
theorem Lx {s:St} (h:aO s=0) (hf:eY s<0):qG s=0:=by
 obtain⟨h1,h2,h3⟩:=kP.1 h;have:=all_once s.count.toNat (kQ (ig s)) h3 (fun x hx=>by
  obtain⟨hx,h0⟩:=iJ.1 hx;unfold ig at hx;obtain⟨f,c,a⟩:=ji.1 hx;have:=(h2 f c).2.2.2 x a;omega) (fun b hb=>by
  have:=Kt hf b (by omega);unfold jy at this;exact iJ.2 ⟨by simpa using this,by omega⟩)
 unfold qG;rw[Pq,this];omega
theorem Iy {l:List Ar} {x:Ar} (h:lK l x=0):(l.length≤16∧okF none l)∧cZ x=0∧(∀a∈l,iP x a=false)∧(bH (dW l x)).length≤16∧iD l x=bH (dW l x):=by
 have h0:=h;unfold lK at h
 by_cases hw:(dH l).1=0
 ·rw[if_neg (by omega)] at h
  by_cases he:cZ x=0
  ·rw[if_neg (by omega)] at h;cases hm:l.any (iP x)
   ·rw[hm,if_neg (by simp)] at h;refine⟨qQ.1 hw,he,fun a ha => ?_,?_,?_⟩
    ·have:=tZ.1 hm a ha;simpa using this
    ·split at h
     ·omega
     ·omega
    ·unfold iD;rw[if_neg (by omega)]
   ·rw[hm,if_pos rfl] at h;omega
  ·rw[if_pos he] at h;exact absurd h he
 ·rw[if_pos hw] at h;exact absurd h hw
structure Cc where
 f:Int
 i:Int
 k:Int
 deriving DecidableEq
def zU (c:Cc):Array Value:=#[.int .i64 c.f,.int .i64 c.i,.int .i64 c.k]
def jG (c:Cc):List Value:=(zU c).toList
theorem jH (c:Cc):(jG c).length=3:=rfl
structure Sp where
 lv:Bool
 ar:List Ar
 tb:Tb
 deriving DecidableEq
structure Ma where
 m:Mem
 sl:List Int
 sw:sK
 dk:sK
 st:St
 ca:List Cc
 sp:List Sp
def zCc:Cc:=⟨0,0,0⟩
def zSp:Sp:=⟨false,[],zTb⟩
def zMa:Ma:=⟨noM,[],⟨[],[]⟩,⟨[],[]⟩,zSt,[],[]⟩
def cnt (l:List Int) (k:Int):Nat:=l.countP fun x=>decide (x=k)
def trimB (m:Ma):Bool:=
 (List.range m.dk.blocks.length).all (fun b:Nat=>decide ((b:Int)∈ig m.st)||decide (m.dk.blocks.getD b zPg=zPg))&&m.dk.queue.all fun q=>decide (q.1∈ig m.st)
def jv (s:Sp):Int:=if (dH s.ar).1≠0 then (dH s.ar).1 else if dO s.tb≠0 then dO s.tb else if s.lv=false∧0<s.ar.length+(aM s.tb).length then 7 else 0
def gW (m:Ma):Int:=
 if bC m.m≠0 then bC m.m else if dD m.sl≠0 then dD m.sl else if cB m.sw≠0 then cB m.sw else if cB m.dk≠0 then cB m.dk else if aO m.st≠0 then aO m.st
 else if m.sw.blocks.length≠m.sl.length∨(m.dk.blocks.length:Int)≠m.st.count∨trimB m=false then 7
 else if 4<m.sp.length then 4 else firstE (m.sp.map jv)
def gP (m:Ma) (k:Int):Fr:=m.m.fs.getD k.toNat fr0
def sG (m:Ma) (p:Option Cc) (c:Cc):Int:=
 if c.f<0∨(m.st.fs.length:Int)≤c.f∨c.i<0∨((aH m.st c.f).b.length:Int)≤c.i∨c.k<0∨(m.m.fs.length:Int)≤c.k then 3
 else if (gP m c.k).r<1∨(gP m c.k).f≠c.f∨(gP m c.k).i≠c.i then 7
 else match p with
  | none=>0
  | some q=>if c.f<q.f∨q.f=c.f∧c.i≤q.i then 2 else 0
def xD (l:List Cc) (k:Nat):Option Cc:=if k=0 then none else l[k-1]?
def gU (m:Ma):Int:=firstE ((List.range m.ca.length).map fun k=>sG m (xD m.ca k) (m.ca.getD k zCc))
def bQ (m:Ma) (s:Sp) (n:Int):Int:=
 if fB s.ar n<0 then 5 else
 let a:=s.ar.getD (fB s.ar n).toNat zAr;let e:=dB s.tb n
 if e.k=2 then (if (m.sl.length:Int)≤e.n∨a.sh=true then 7 else 0)
 else if (m.m.fs.length:Int)≤e.n then 3 else
 let f:=gP m e.n;let of:=decide (0≤a.fi)&&decide (f.f=a.fi)&&decide (f.i=a.ba+n-a.fr)
 if 0≤f.f∧of=false∨a.sh=true∧of=false∨a.sh=false∧of=true∧e.w=true∨e.w=true∧a.wr=false then 7
 else if f.f<0∧e.w=true∧1<f.r then 7 else 0
def lN (m:Ma):Int:=firstE (m.sp.flatMap fun s=>(aM s.tb).map (bQ m s))
def mY (t:Tb) (l:List Int):List Int:=(l.filter fun n=>decide ((dB t n).k=1)).map fun n=>(dB t n).n
def swapT (t:Tb) (l:List Int):List Int:=(l.filter fun n => !decide ((dB t n).k=1)).map fun n=>(dB t n).n
def qD (m:Ma):List Int:=m.ca.map Cc.k++m.sp.flatMap fun s=>mY s.tb (aM s.tb)
def oF (m:Ma):List Int:=m.sp.flatMap fun s=>swapT s.tb (aM s.tb)
def ku (n:Nat) (l:List Int):List Int:=(List.range n).map fun i:Nat=>(cnt l i:Int)
def countB (m:Ma):Bool:=
 (List.range m.m.fs.length).all (fun i:Nat=>decide ((gP m i).r=cnt (qD m) i)&&(decide ((gP m i).f<0)||m.ca.any fun c=>decide (c.k=i)))&&decide (m.sl=ku m.sl.length (oF m))
def je (m:Ma):Int:=if gW m≠0 then gW m else if gU m≠0 then gU m else if lN m≠0 then lN m else if countB m=true then 0 else 7
def aR (m:Ma) (f i:Int):Page:=
 match m.ca.find? fun c=>decide (c.f=f)&&decide (c.i=i) with
 | some c=>(gP m c.k).p
 | none=>if 0≤bn m.st f i then cO (dN m.dk (bn m.st f i)) ((aH m.st f).n-i*8) else zPg
def nU (s:St) (f i:Int):Bool:=decide (gu (aH s f).n≤i)
structure Kp where
 m:Ma
 e:Int
def iF (k e:Int):Int:=if k=0 then e else k
def bX (m:Ma) (p:Nat):Sp:=m.sp.getD p zSp
def setTb (m:Ma) (p:Nat) (t:Tb):Ma:={ m with sp:=m.sp.set p { bX m p with tb:=t } }
def dK (k:Kp) (p:Nat) (n:Int) (x:En):Kp:=
 if setE (bX k.m p).tb n x=0 then ⟨setTb k.m p (setT (bX k.m p).tb n x),k.e⟩ else ⟨k.m,iF k.e (setE (bX k.m p).tb n x)⟩
def fV (k:Kp) (f n:Int):Kp:=
 if mI k.m.m f n=0 then ⟨{ k.m with m:=lw k.m.m f n },k.e⟩ else ⟨k.m,iF k.e (mI k.m.m f n)⟩
def lY (k:Kp) (s n:Int):Kp:=
 if bS k.m.sl s n=0 then ⟨{ k.m with sl:=bL k.m.sl s n },k.e⟩ else ⟨k.m,iF k.e (bS k.m.sl s n)⟩
def iU (k:Kp) (p:Nat) (n:Int):Kp:=
 let x:=dB (bX k.m p).tb n
 if x.k=1 then dK (fV k x.n (-1)) p n zEn else if x.k=2 then dK (lY k x.n (-1)) p n zEn else k
def Eu (f i:Int) (c:Cc):Bool:=decide (f<c.f)||(decide (c.f=f)&&decide (i≤c.i))
def sJ (l:List Cc) (f i:Int):Nat:=(l.findIdx? (Eu f i)).getD l.length
def FX (l:List Cc) (f i:Int):Bool:=match l[sJ l f i]? with
 | some c=>decide (c.f=f)&&decide (c.i=i)
 | none=>false
def setFr (m:Ma) (f:Nat) (x:Fr):Ma:={ m with m:={ m.m with fs:=m.m.fs.set f x } }
def aD (m:Ma) (f:Nat):Fr:=m.m.fs.getD f fr0
def ja (m:Ma) (f:Nat):Bool:=decide ((aD m f).f<0)||!(aD m f).d||decide (bZ m.st (aD m f).f (aD m f).i=0)
def jB (k:Kp) (f:Nat):Kp:=
 let x:=aD k.m f
 if x.f<0∨x.d=false∨bZ k.m.st x.f x.i≠0 then k
 else ⟨setFr { k.m with st:=dL k.m.st x.f x.i,dk:=dz k.m.dk (dR k.m.st x.f x.i) x.p } f { x with d:=false },iF k.e (aI k.m.dk (dR k.m.st x.f x.i))⟩
def aX (m:Ma) (f:Int):List (Nat × Int):=(List.range m.sp.length).flatMap fun p=>(nA (bX m p).tb 1 f).map fun n=>(p,n)
def kI (k:Kp) (l:List (Nat × Int)):Kp:=l.foldl (fun k u=>iU k u.1 u.2) k
def Fg (f n:Int) (k:Kp) (u:Nat × Int):Kp:=dK (fV k f (-1)) u.1 u.2 ⟨2,n,false⟩
def qw (k:Kp) (f n:Int) (l:List (Nat × Int)):Kp:=l.foldl (Fg f n) k
def jg (m:Ma) (f:Nat):Bool:=if 0≤(aD m f).f then ja m f else decide (gT m.sl (aX m f).length=0)
def fF (k:Kp) (f:Nat):Kp:=
 let x:=aD k.m f;let l:=aX k.m f
 if 0≤x.f then
  if ja k.m f=false then k else
  let k2:=kI (jB k f) l
  if FX k2.m.ca x.f x.i=true then fV ⟨{ k2.m with ca:=k2.m.ca.eraseIdx (sJ k2.m.ca x.f x.i) },k2.e⟩ f (-1) else k2
 else if gT k.m.sl l.length≠0 then k
 else qw ⟨{ k.m with sl:=lF k.m.sl l.length,sw:=dz k.m.sw (jD k.m.sl l.length) x.p },iF k.e (aI k.m.sw (jD k.m.sl l.length))⟩ f (jD k.m.sl l.length) l
def reclaimN:Nat→Kp→Kp × Bool
 | 0,k=>(k,false)
 | t+1,k=>
  if bC k.m.m≠0∨ic k.m.m<0 then (⟨k.m,iF k.e (bC k.m.m)⟩,false) else
  let k1:Kp:=⟨{ k.m with m:=fu k.m.m },k.e⟩
  if jg k1.m (ic k.m.m).toNat=true then (fF k1 (ic k.m.m).toNat,true) else reclaimN t (fF k1 (ic k.m.m).toNat)
def dX (k:Kp):Kp × Bool:=reclaimN (2*k.m.m.fs.length+1) k
def jW (k:Kp) (p:Page) (f i:Int):Kp × Int:=
 if gF k.m.m p f i≠0 then (k,-1) else (⟨{ k.m with m:=eG k.m.m p f i },k.e⟩,gJ k.m.m p f i)
def eu (k:Kp) (p:Page) (f i:Int):Kp × Int:=
 if fe k.m.m.fs=0 then (if (dX k).2=true then jW (dX k).1 p f i else ((dX k).1,-1)) else jW k p f i
def jT (x:Fr):Fr:={ x with u:=true }
def vQ (m:Ma) (i:Nat):Cc:=m.ca.getD i zCc
def dJ (m:Ma) (f i:Int):Page:=if 0≤bn m.st f i then cO (dN m.dk (bn m.st f i)) ((aH m.st f).n-i*8) else zPg
def CY (k:Kp) (f i:Int):Int:=if 0≤bn k.m.st f i then iF k.e (aI k.m.dk (bn k.m.st f i)) else k.e
def eQ (k:Kp) (f i:Int):Kp × Int:=
 if FX k.m.ca f i=true then
  let g:=(vQ k.m (sJ k.m.ca f i)).k
  (⟨setFr k.m g.toNat (jT (aD k.m g.toNat)),k.e⟩,g)
 else
  let r:=eu ⟨k.m,CY k f i⟩ (dJ k.m f i) f i
  if r.2<0 then (r.1,-1) else (⟨{ r.1.m with ca:=r.1.m.ca.insertIdx (sJ r.1.m.ca f i) ⟨f,i,r.2⟩ },r.1.e⟩,r.2)
def zh (k:Kp) (i:Nat):Kp:=
 let c:=vQ k.m i;let k1:=kI k (aX k.m c.k)
 fV ⟨{ k1.m with ca:=k1.m.ca.eraseIdx i },k1.e⟩ c.k (-1)
def Gm (f i:Int):Nat→Kp→Kp
 | 0,k=>k
 | j+1,k=>if (vQ k.m j).f≠f∨(vQ k.m j).i<i then Gm f i j k else Gm f i j (zh k j)
def Uc (k:Kp) (f i:Int):Kp:=Gm f i k.m.ca.length k
def RD (n:Int) (k:Kp):Nat→List Int→Kp
 | _,[]=>k
 | j,b::r=>RD n (if 0≤b∧gu n≤j then ⟨{ k.m with dk:=Wq k.m.dk b },iF k.e (aI k.m.dk b)⟩ else k) (j+1) r
def Wz (x:Fr) (n:Int):Fr:={ x with p:=cO x.p n,d:=true }
def Qs (k:Kp) (f n:Int):Kp × Int:=
 if PX k.m.st f n≠0 then (k,PX k.m.st f n) else
 let k1:=Uc k f (gu n);let k2:=RD n k1 0 (aH k1.m.st f).b
 (⟨{ k2.m with st:=WR k.m.st f n },k2.e⟩,0)
def Vi (k:Kp) (f n:Int):Kp × Int:=
 let old:=(aH k.m.st f).n;let lo:=min n old
 if n≠old∧0<lo%8 then
  let r:=eQ k f (lo / 8)
  if r.2<0 then (r.1,10) else Qs ⟨setFr r.1.m r.2.toNat (Wz (aD r.1.m r.2.toNat) (lo%8)),r.1.e⟩ f n
 else Qs k f n
end Go.Proofs.YtpaeabelhnnbiaaGreat
namespace Pw
open Go Go.RowKit
variable {B B' b c cap f g i id k off sz:Nat} {L:Nat → Bool} {P:Program} {Q:Exit → Act → World → Prop} {T TV TX TY TZ e t t' ty:TypeId} {V v vx vy:Value} {W w w' w0 w1:World} {X Y Z args cs t0:Array Value} {a:Option Addr} {a0:Act} {l:List Int} {o op:Oper} {ops:Array Oper} {rest:List Oper} {tm vs xs:List Value} {x:Operand} {y:Nat → Value} {ρ:Operand → Value}
theorem bi {k:IntKind} {a b:Int} (h:a=b):Ending.returned (.int k a) = .returned (.int k b):=by rw[h]
theorem bK {a b:Bool} (h:a=b):Ending.returned (.bool a) = .returned (.bool b):=by rw[h]
theorem ah (h:Below w.heap.size w W) (hb:Below W.heap.size W w1):Below w.heap.size w w1:=
 h.trans (hb.mono h.size)
theorem dV (w:World) (o:Obj):w.heap.size≤(w.alloc o).heap.size:=((Below.refl 0 w).alloc (bB _) o).size
theorem eF (h:B≤w.heap.size) (o:Obj):B≤(w.alloc o).heap.size:=aV h (dV w o)
def aJ (w:World) (b:Nat) (cs:Array Value) (T:TypeId):Prop:=w.heap[b]?=some (.cells cs T (0,0))
theorem aJ.cell (h:aJ w b cs T):∀o,w.cell? ⟨b,o,none⟩=cs[o]?:=by
 intro o;unfold aJ at h;simp[World.cell?,h]
theorem aJ.free (h:aJ w b cs T):∀o,w.frozen? ⟨b,o,none⟩=false:=by
 intro o;unfold aJ at h;simp[World.frozen?,h]
theorem aJ.lt (h:aJ w b cs T):b<w.heap.size:=lt_of_block h
theorem aJ.below (h:aJ w b cs T) (hb:Below B w w') (hB:b<B):aJ w' b cs T:=
 (hb.block b hB).trans h
theorem aJ.ext (h:aJ w b cs T) (hb:Below w.heap.size w w'):aJ w' b cs T:=h.below hb h.lt
theorem aJ.new (w:World) (cs:Array Value) (T:TypeId):aJ (w.alloc (.cells cs T)) w.heap.size cs T:=heap_alloc_new w _
theorem aJ.alloc (h:aJ w b cs T) (o:Obj):aJ (w.alloc o) b cs T:=(Below.heap_alloc w o b h.lt).trans h
theorem aJ.drewN (h:aJ w b cs T) (n:Nat):aJ (w.drewN n) b cs T:=h
theorem aJ.drew (h:aJ w b cs T):aJ w.drew b cs T:=h
def eB (w:World) (a:Option Addr) (vs:List Value):Prop:=
 ∀i u,vs[i]?=some u→∃b off,a=some ⟨b,off,none⟩∧w.cell? ⟨b,off+i,none⟩=some u
theorem eB.below (h:eB w a vs) (hb:Below w.heap.size w w'):eB w' a vs:=by
 intro i u hi;obtain⟨b,off,ha,hc⟩:=h i u hi;exact⟨b,off,ha,cell_later hb hc⟩
theorem eB.nil :eB w a []:=fun i u h=>by simp at h
theorem eB.at {w:World} {a:Option Addr} {vs:List Value} (h:eB w a vs) (hn:0<vs.length):∃b off,a=some ⟨b,off,none⟩∧∀i u,vs[i]?=some u→w.cell? ⟨b,off+i,none⟩=some u:=by
 obtain⟨b,off,rfl,hc⟩:=h 0 _ (aN hn);refine⟨b,off,rfl,fun i u hi => ?_⟩;obtain⟨b',off',e,c⟩:=h i u hi;simp only[gY,sI,and_true] at e;obtain⟨rfl,rfl⟩:=e;exact c
theorem flat_get {α:Type} (enc:α→List Value) (sz:Nat) (hsz:∀x,(enc x).length=sz):∀(l:List α) (i:Nat) (h:i<l.length) (j:Nat) (u:Value),(enc l[i])[j]?=some u→(l.flatMap enc)[i*sz+j]?=some u
 | [],i,h,_,_,_=>absurd h (gL _)
 | x::l,0,_,j,u,hj=>by
  simp only[oV,Nat.zero_mul,dA];simp only[Bv] at hj;have hl:j<(enc x).length:=by
   rcases fM j (enc x).length with h|h
   ·exact h
   ·simp[fo h] at hj
  rw[il hl];exact hj
 | x::l,i+1,h,j,u,hj=>by
  simp only[oV];have e:(i+1)*sz+j=(enc x).length+(i*sz+j):=by rw[hsz x,su];omega
  rw[e,iN (by omega),yQ];exact flat_get enc sz hsz l i (by simpa using h) j u (by simpa using hj)
theorem flat_len {α:Type} (enc:α→List Value) (sz:Nat) (hsz:∀x,(enc x).length=sz) (l:List α):(l.flatMap enc).length=l.length*sz:=by
 induction l with
 | nil=>simp
 | cons x l ih=>simp[oV,ih,hsz x,su,Nat.add_comm]
theorem eB.elem {α:Type} {enc:α→List Value} (hsz:∀x,(enc x).length=sz) (hp:0<sz) {l:List α} (h:eB w a (l.flatMap enc)) (i:Nat) (hi:i<l.length) :
  ∃b off,a=some ⟨b,off,none⟩∧∀j u,(enc l[i])[j]?=some u→w.cell? ⟨b,off+i*sz+j,none⟩=some u:=by
 obtain⟨b,off,ha,hc⟩:=h.at (by rw[flat_len enc sz hsz];exact Nat.mul_pos (by omega) hp);exact⟨b,off,ha,fun j u hj=>by rw[oQ];exact hc _ _ (flat_get enc sz hsz l i hi j u hj)⟩
def dF (cur:Array Value):Nat→List Value→Array Value
 | _,[]=>cur
 | o,v::r=>dF (cur.setIfInBounds o v) (o+1) r
theorem size_putAt:∀(vs:List Value) (cur:Array Value) (o:Nat),(dF cur o vs).size=cur.size
 | [],_,_=>rfl
 | v::r,cur,o=>by simp[dF,size_putAt r]
theorem putAt_out:∀(vs:List Value) (cur:Array Value) (o k:Nat),(k<o∨o+vs.length≤k)→(dF cur o vs)[k]?=cur[k]?
 | [],_,_,_,_=>rfl
 | v::r,cur,o,k,h=>by simp only[nz] at h;simp only[dF];rw[putAt_out r _ _ _ (by omega),fO (by omega)]
theorem putAt_in:∀(vs:List Value) (cur:Array Value) (o j:Nat) (u:Value),o+vs.length≤cur.size→vs[j]?=some u→(dF cur o vs)[o+j]?=some u
 | [],_,_,_,_,_,h=>by simp at h
 | v::r,cur,o,0,u,hs,h=>by simp only[nz] at hs;simp only[dF];rw[putAt_out r _ _ _ (by omega)];simp at h;subst h;simp[show o<cur.size by omega]
 | v::r,cur,o,j+1,u,hs,h=>by simp only[nz] at hs;simp only[dF];rw[show o+(j+1)=o+1+j by omega];exact putAt_in r _ _ _ u (by simp;omega) (by simpa using h)
theorem aJ.setCell (h:aJ w b cs T) (o:Nat) (v:Value):aJ (w.setCell ⟨b,o,none⟩ v) b (cs.setIfInBounds o v) T:=
 heap_setCell_same w b o cs T v h
theorem aJ.setCell_other (h:aJ w b cs T) (a:Addr) (v:Value) (hne:b≠a.block):aJ (w.setCell a v) b cs T:=
 (heap_setCell_other w a b v hne).trans h
theorem aJ.setCells :∀(vs:List Value) (o:Nat) {w:World} {cs:Array Value},aJ w b cs T→aJ (w.setCells b o vs) b (dF cs o vs) T
 | [],_,_,_,h=>h
 | v::r,o,_,_,h=>aJ.setCells r (o+1) (h.setCell o v)
theorem heap_setCells_other (b:Nat):∀(vs:List Value) (o:Nat) (w:World) (k:Nat),k≠b→(w.setCells b o vs).heap[k]?=w.heap[k]?
 | [],_,_,_,_=>rfl
 | v::r,o,w,k,h=>(heap_setCells_other b r (o+1) _ k h).trans (heap_setCell_other w ⟨b,o,none⟩ k v h)
theorem size_setCells (b:Nat):∀(vs:List Value) (o:Nat) (w:World),(w.setCells b o vs).heap.size=w.heap.size
 | [],_,_=>rfl
 | v::r,o,w=>(size_setCells b r (o+1) _).trans (by simp[World.setCell])
theorem ow (b:Nat):∀(vs:List Value) (o:Nat) (w:World),(w.setCells b o vs).os=w.os∧(w.setCells b o vs).tape=w.tape∧(w.setCells b o vs).output=w.output
 | [],_,_=>⟨rfl,rfl,rfl⟩
 | _::r,o,_=>ow b r (o+1) _
theorem aA (w:World) (b o:Nat) (vs:List Value):w.grownBy (w.setCells b o vs) (some b):=
 ⟨(ow b vs o w).1,(ow b vs o w).2.1,(ow b vs o w).2.2,Nat.le_of_eq (size_setCells b vs o w).symm,
  fun k _ hk=>heap_setCells_other b vs o w k (fun e=>hk (by rw[e]))⟩
def Own (w:World) (B:Nat) (e:TypeId) (sz:Nat) (v:Value) (n:Nat) (xs:List Value):Prop:=
 xs.length=n*sz∧((v = .slice none 0 0∧n=0) ∨
  ∃g off cap cur,v = .slice (some ⟨g,off,none⟩) n cap∧B≤g∧aJ w g cur e∧n≤cap∧cap≤maxLen∧off+cap*sz≤cur.size∧∀j u,xs[j]?=some u→cur[off+j]?=some u)
theorem Own.nil (w:World) (B:Nat) (e:TypeId) (sz:Nat):Own w B e sz (.slice none 0 0) 0 []:=⟨by simp,.inl ⟨rfl,rfl⟩⟩
theorem Own.of_owns {n:Nat} (h:w.ownsRow B e sz v n xs):Own w B e sz v n xs:=by
 obtain⟨hl,h⟩:=h;refine⟨hl,h.imp id fun⟨g,cap,cur,hv,hB,hg,hc,hm,hs,ht⟩=>⟨g,0,cap,cur,hv,hB,hg,hc,hm,by omega,fun j u hj => ?_⟩⟩;rw[dA,←oP];rw[←ht,jN] at hj;split at hj
 ·exact hj
 ·cases hj
theorem Own.mono {n:Nat} (h:Own w B e sz v n xs) (hB:B'≤B):Own w B' e sz v n xs:=
 ⟨h.1,h.2.imp id fun⟨g,off,cap,cur,hv,hg,r⟩=>⟨g,off,cap,cur,hv,aV hB hg,r⟩⟩
theorem Own.below {n:Nat} (h:Own w B e sz v n xs) (hb:Below w.heap.size w w'):Own w' B e sz v n xs:=
 ⟨h.1,h.2.imp id fun⟨g,off,cap,cur,hv,hg,hk,r⟩=>⟨g,off,cap,cur,hv,hg,hk.ext hb,r⟩⟩
theorem Own.grown {row:Option Nat} {n:Nat} (h:Own w B e sz v n xs) (hg:w.grownBy w' row) (hne:∀g,v.ownBlock=some g→row≠some g):Own w' B e sz v n xs:=
 ⟨h.1,h.2.imp id fun⟨g,off,cap,cur,hv,hB,hk,r⟩=>⟨g,off,cap,cur,hv,hB,(hg.block g hk.lt (fun e=>hne g (by rw[hv];rfl) e.symm)).trans hk,r⟩⟩
theorem Own.rd {n:Nat} (h:Own w B e sz v n xs):∃a c,v = .slice a n c∧n≤c∧c≤maxLen∧(a=none→c=0)∧eB w a xs:=by
 obtain⟨hl,h⟩:=h;rcases h with ⟨rfl,rfl⟩|⟨g,off,cap,cur,rfl,_,hg,hc,hm,hs,ht⟩
 ·have:xs=[]:=jX (by simpa using hl);subst this;exact⟨none,0,rfl,az _,bB _,fun _=>rfl,eB.nil⟩
 ·exact⟨_,cap,rfl,hc,hm,fun e=>(Option.some_ne_none _ e).elim,fun i u hi=>⟨g,off,rfl,by rw[hg.cell];exact ht i u hi⟩⟩
theorem Own.ge {n:Nat} (h:Own w B e sz v n xs):∀k,v.ownBlock=some k→B≤k:=by
 rcases h.2 with ⟨rfl,_⟩|⟨g,off,cap,cur,rfl,hB,_⟩
 ·intro k hk;cases hk
 ·intro k hk;cases hk;exact hB
theorem aJ.grown {row:Option Nat} (h:aJ w b cs T) (hg:w.grownBy w' row) (hne:row≠some b):aJ w' b cs T:=
 (hg.block b h.lt (fun e=>hne e.symm)).trans h
theorem Own.alloc {n:Nat} (h:Own w B e sz v n xs) (o:Obj):Own (w.alloc o) B e sz v n xs:=
 h.below ((Below.refl _ _).alloc (az _) _)
theorem eB.one (w:World) (v:Value) (T:TypeId):eB (w.alloc (.cells #[v] T)) (some ⟨w.heap.size,0,none⟩) [v]:=by
 intro i u hi;refine⟨_,_,rfl,?_⟩;rw[(aJ.new w #[v] T).cell];cases i with
 | zero=>simpa using hi
 | succ i=>simp at hi
theorem eB.new (w:World) (cs:Array Value) (T:TypeId):eB (w.alloc (.cells cs T)) (some ⟨w.heap.size,0,none⟩) cs.toList:=by
 intro i u hi;refine⟨_,_,rfl,?_⟩;rw[(aJ.new w cs T).cell,dA];simpa using hi
theorem HY (k:IntKind) (n:Int):∀u∈[Value.int k n],u.oneCell' = true:=by
 intro u hu;cases bN.1 hu;rfl
theorem eH {a:Act} (hg:o.guard=none) (s x:Operand) (t:TypeId)
 (hop:o.op=Op.call { callee:=Callee.builtin Builtin.append,args:=#[s,x],argTypes:=#[t,t] })
 (B:Nat) (e:TypeId) (z:Value) (size bytes:Nat) (h1:P.underlying t=some (.slice e)) (h2:(P.info? e).map (fun i=>(i.zero,i.size,i.bytes))=some (some z,size,bytes)) (h6:z.cells.size=size) (h7:0<size)
 (v:Value) (n:Nat) (xs:List Value) (hs:a.eval s=v) (hown:Own w B e size v n xs)
 (ao:Option Addr) (m c:Nat) (news:List Value) (hx:a.eval x = .slice ao m c) (hnone:ao=none→c=0) (hmc:m≤c) (hn:news.length=m*size) (hrd:eB w ao news) (h1c:∀u∈news,u.oneCell' = true)
 (b1:n+m≤maxLen) (b2:(n+m)*bytes≤140737488355328) (hB:B≤w.heap.size)
 (hK:∀v' w',Own w' B e size v' (n+m) (xs++news)→w.grownBy w' v.ownBlock→wpList P ops Q rest (a.put o.dst v') w') :
  wpList P ops Q (o::rest) a w:=by
 obtain⟨i,hi,hz,f,h⟩:=info_parts h2;cases ao with
 | none=>
  obtain rfl:=hnone rfl;obtain rfl:m=0:=by omega
  obtain rfl:news=[]:=jX (by simpa using hn);have key:wpList P ops Q rest (a.put o.dst v) w:=by have:=hK v w (by simpa using hown) (Bp _ _);exact this
  rcases hown with ⟨hl,⟨rfl,rfl⟩|⟨g,off,cap,cur,rfl,hBg,hk,hc,hm,hsize,hcell⟩⟩
  ·obtain rfl:xs=[]:=jX (by simpa using hl);exact wpList_append_own_none hg s x t hop B e i size h1 hi _ 0 [] hs (FM w B e size) hx key
  refine wpList_plain hg fun K p => ?_;unfold Oper.wp;simp[execOp,hop,resolve,invoke,builtin,hs,hx,Builtin.append_,run_underlying h1,Go.sizeOf,typeInfo,hi,Builtin.lenOf,Builtin.firstCells,hc,storeCells,Result.andThen];exact p _ _ key
 | some ad=>
  have d:∀j u,news[j]?=some u→w.cell? (ad.add j)=some u:=by intro j u hj;obtain⟨b,off,e',hc⟩:=hrd j u hj;cases e';rw[mr];exact hc
  rcases hown with ⟨hl,⟨rfl,rfl⟩|⟨g,off,cap,cur,rfl,hBg,hk,hc,hm,hsize,hcell⟩⟩
  ·obtain rfl:xs=[]:=jX (by simpa using hl);exact wpList_append_own w hg s x t hop B e i z size bytes h1 hi hz f h h6 h7 _ 0 [] hs (FM w B e size) ad m c news hx hn d h1c b1 b2 hB
    fun v' w' r1 r2 _=>hK v' w' (.of_owns r1) r2
  have q:n*size≤cap*size:=sD _ hc;refine wpList_append_arg w hg s x t hop e i z size bytes h1 hi hz f h h6 h7 g off n cap xs hs hl (fun j u hj=>by rw[hk.cell];exact hcell j u hj) ad m c news hx hn d h1c (fun hr j hj => ?_) b1 b2 (fun hr => ?_) (fun hr v' w' r1 r2 => ?_)
  ·have h3:(n+m)*size≤cap*size:=sD _ hr;rw[su] at h3;have:off+n*size+j<cur.size:=by omega
   exact⟨by rw[hk.cell];simp[this],hk.free _⟩
  ·have h3:(n+m)*size≤cap*size:=sD _ hr;rw[su] at h3;refine hK _ _ ⟨by rw[iK,hl,hn,su],.inr ⟨g,off,cap,_,rfl,hBg,hk.setCells news (off+n*size),hr,hm,by rw[size_putAt];exact hsize,fun j u hj => ?_⟩⟩ (aA _ _ _ _)
   by_cases hjl:j<xs.length
   ·rw[il hjl] at hj;rw[putAt_out _ _ _ _ (.inl (by omega))];exact hcell j u hj
   rw[iN (by omega)] at hj;have:=putAt_in news cur (off+n*size) (j-xs.length) u (by omega) hj;rwa [show off+n*size+(j-xs.length)=off+j by omega] at this
  have r2' : w.grownBy w' (Value.ownBlock (.slice (some ⟨g,off,none⟩) n cap)):=⟨r2.os,r2.tape,r2.output,r2.size,fun k l _=>r2.block k l (by simp)⟩;exact hK v' w' ((Own.of_owns r1).mono hB) r2'
theorem KP {a:Act} (hgd:o.guard=none) (d s:Operand) (dT sT:TypeId)
 (ho:o.op = .call { callee:=.builtin .copy,args:=#[d,s],argTypes:=#[dT,sT] }) (elem:TypeId) (hu:P.underlying dT=some (.slice elem)) (hsz:(P.info? elem).map (·.size)=some 1)
 (g off dLen dCap:Nat) (sp:Option Addr) (sLen sCap:Nat) (hd:a.eval d = .slice (some ⟨g,off,none⟩) dLen dCap) (hs:a.eval s = .slice sp sLen sCap)
 (cur:List Value) (T:TypeId) (hg:aJ w g cur.toArray T) (vs:List Value) (hn:vs.length=sLen) (hrd:eB w sp vs)
 (hfit:off+dLen≤cur.length) (h1:∀v∈vs,v.oneCell' = true)
 (h:∀w',aJ w' g (splice cur off (vs.take dLen)).toArray T→w.grownBy w' (some g)→wpList P ops Q rest (a.put o.dst (goInt (Nat.min sLen dLen))) w') :
  wpList P ops Q (o::rest) a w:=by
 have c:(vs.take dLen).length=Nat.min sLen dLen:=by rw[fq,hn];exact Nat.min_comm _ _
 have i:Nat.min sLen dLen≤dLen:=Nat.min_le_right _ _
 by_cases h0:(vs.take dLen).length=0
 ·have e:vs.take dLen=[]:=jX h0;have hm:Nat.min sLen dLen=0:=by rw[←c];exact h0
  refine wpList_copy_nothing hgd d s dT sT ho elem hu hsz _ sp dLen dCap sLen sCap hd hs hm ?_;have:=h w (by rw[e];simpa[splice] using hg) (Bp _ _);rw[hm] at this;exact this
 have f:0<vs.length:=by rw[fq] at h0;have:min dLen vs.length≤vs.length:=Nat.min_le_right _ _;omega
 obtain⟨b,so,rfl,hc⟩:=hrd.at f;refine wpList_copy_own hgd d s dT sT ho elem hu hsz g off dLen dCap _ sLen sCap hd hs cur.toArray T hg (vs.take dLen) c (fun j v hj => ?_) (by rw[c,List.size_toArray];omega) (fun v hv=>h1 v (Bj hv)) ?_
 ·rw[mr];rw[jN] at hj;split at hj
  ·exact hc j v hj
  ·cases hj
 have:=h (w.setRow g (splice cur off (vs.take dLen)).toArray) (setRow_heap w g _ _ T _ hg) ⟨rfl,rfl,rfl,by simp,fun k _ hk=>setRow_other w g k _ (fun e=>hk (by rw[e]))⟩;rw[c];simpa[splice,c,hn,Nat.min_comm] using this
theorem dU (cur cs:Array Value) (h:cs.size=cur.size):dF cur 0 cs.toList=cs:=by
 apply oO;intro i
 by_cases hi:i<cs.size
 ·have:=putAt_in cs.toList cur 0 i cs[i] (by simp;omega) (by simp[hi]);rw[dA] at this;rw[this];simp[hi]
 ·rw[pO (by rw[size_putAt];omega),pO (by omega)]
theorem gy {a:Act} (hgd:op.guard=none) (ty:TypeId) (x y:Operand) (ho:op.op = .store ty x y)
 (b o:Nat) (cells:Array Value) (hx:a.eval x = .pointer (some ⟨b,o,none⟩)) (hy:a.eval y = .agg cells) (cur:Array Value) (T:TypeId) (hg:aJ w b cur T)
 (hfit:o+cells.size≤cur.size) (hi:(P.info? ty).map (·.size)=some cells.size) (h1:cells.all (·.oneCell')=true)
 (h:∀w',aJ w' b (dF cur o cells.toList) T→w.grownBy w' (some b)→wpList P ops Q rest (a.put op.dst undef) w'):wpList P ops Q (op::rest) a w:=by
 refine wpList_store_mid hgd ty x y ho b o cells hx hy (fun j hj=>⟨?_,hg.free _⟩) hi h1 (h _ (hg.setCells _ _) (aA _ _ _ _));rw[hg.cell];simp[show o+j<cur.size by omega]
theorem ax {a:Act} (hgd:op.guard=none) (ty:TypeId) (x y:Operand) (ho:op.op = .store ty x y)
 (b:Nat) (cells:Array Value) (hx:a.eval x = .pointer (some ⟨b,0,none⟩)) (hy:a.eval y = .agg cells) (cur:Array Value) (T:TypeId) (hg:aJ w b cur T)
 (hfit:cells.size=cur.size) (hi:(P.info? ty).map (·.size)=some cells.size) (h1:cells.all (·.oneCell')=true)
 (h:∀w',aJ w' b cells T→w.grownBy w' (some b)→wpList P ops Q rest (a.put op.dst undef) w'):wpList P ops Q (op::rest) a w:=by
 refine gy hgd ty x y ho b 0 cells hx hy cur T hg (by omega) hi h1 fun w' hb c => ?_;rw[dU cur cells hfit] at hb;exact h w' hb c
theorem mV {α:Type} (f:α→Value) (l:List α):l.flatMap (fun x=>[f x])=l.map f:=by
 induction l with
 | nil=>rfl
 | cons x l ih=>simp[ih]
def oG (b:UInt8):Value:=.int .u8 b.toNat
def iI (n:Int):Value:=.int .i64 n
def gQ (p:Page):Array Value:=#[Value.int .u8 p[0].toNat,Value.int .u8 p[1].toNat,Value.int .u8 p[2].toNat,Value.int .u8 p[3].toNat,Value.int .u8 p[4].toNat,Value.int .u8 p[5].toNat,Value.int .u8 p[6].toNat,Value.int .u8 p[7].toNat]
theorem IV (p:Page):(gQ p).size=8:=rfl
theorem HZ (p:Page) (k:Nat) (h:k<8):(gQ p)[k]?=some (Value.int .u8 p[k].toNat):=by
 match k,h with
 | 0,_=>rfl
 | 1,_=>rfl
 | 2,_=>rfl
 | 3,_=>rfl
 | 4,_=>rfl
 | 5,_=>rfl
 | 6,_=>rfl
 | 7,_=>rfl
 | n+8,h=>omega
theorem Uo (p:Page) (k:Nat) (h:k<8) (b:UInt8):(gQ p).setIfInBounds k (.int .u8 b.toNat)=gQ (p.set k b):=by
 match k,h with
 | 0,_=>simp[gQ]
 | 1,_=>simp[gQ]
 | 2,_=>simp[gQ]
 | 3,_=>simp[gQ]
 | 4,_=>simp[gQ]
 | 5,_=>simp[gQ]
 | 6,_=>simp[gQ]
 | 7,_=>simp[gQ]
 | n+8,h=>omega
theorem uO (p:Page):(gQ p)[0]?=some (Value.int .u8 p[0].toNat)∧(gQ p)[1]?=some (Value.int .u8 p[1].toNat)∧(gQ p)[2]?=some (Value.int .u8 p[2].toNat)∧(gQ p)[3]?=some (Value.int .u8 p[3].toNat)∧(gQ p)[4]?=some (Value.int .u8 p[4].toNat)∧(gQ p)[5]?=some (Value.int .u8 p[5].toNat)∧(gQ p)[6]?=some (Value.int .u8 p[6].toNat)∧(gQ p)[7]?=some (Value.int .u8 p[7].toNat):=
 ⟨rfl,rfl,rfl,rfl,rfl,rfl,rfl,rfl⟩
theorem qf (p:Page):(gQ p).all (·.oneCell')=true:=by simp[gQ,Value.oneCell']
theorem Iz (p:Page):(gQ p).toList=p.toList.map oG:=by
 apply nO;intro i
 by_cases h:i<8
 ·rw[oP,HZ p i h];simp[h,oG]
 ·rw[oP,pO (by rw[IV];omega),fo (by simp;omega)]
theorem WQ {p:Page} (h:aJ w b (gQ p) T) (a n:Nat):eB w (some ⟨b,a,none⟩) (((p.toList.drop a).take n).map oG):=by
 intro i u hi;refine⟨b,a,rfl,?_⟩;rw[h.cell,←oP,Iz];rw[Hw,List.map_drop,jN] at hi;split at hi
 ·rw[nK] at hi;exact hi
 ·cases hi
theorem Qq (l:List UInt8):∀u∈l.map oG,u.oneCell' = true:=by
 intro u hu;obtain⟨_,_,rfl⟩:=eD.1 hu;rfl
theorem MK (p:Page):gQ p=(p.toList.map oG).toArray:=by rw[←Iz]
theorem KI (p:Page) (a:Nat) (b:List UInt8) (ha:a<8):(splice (p.toList.map oG) a ((b.map oG).take (8-a))).toArray=gQ (dw p a b):=by
 rw[MK];congr 1;unfold splice;rw[←Hw,←Hw,←List.map_drop,←gX,←gX];congr 1;apply nO;intro i;simp only[fq,fP]
 by_cases h:i<8
 ·have e:(dw p a b).toList[i]?=some (if a≤i then b.getD (i-a) p[i] else p[i]):=by simp[dw,h,show (a:Int)<8 by omega]
  rw[e];have hl:(List.take a p.toList).length=a:=by simp;omega
  by_cases h1:i<a
  ·rw[il (by omega),if_neg (by omega)];simp[h1,h]
  rw[iN (by omega),if_pos (by omega),hl]
  by_cases h2:i-a<min (8-a) b.length
  ·rw[il (by simpa using h2),jN,if_pos (by omega)];simp[List.getD,show i-a<b.length by omega]
  rw[iN (by simp;omega),nK];have hm:(List.take (8-a) b).length=min (8-a) b.length:=by simp
  rw[hm,show a+min (8-a) b.length+(i-a-min (8-a) b.length)=i by omega];simp[List.getD,h,fo (show b.length≤i-a by omega)]
 ·rw[fo (by simp;omega),fo (by simp;omega)]
theorem Es (w:World) (e:TypeId) (k:IntKind) (cs:Array Value) (off:Nat) (v:Value) (he:P.underlying e=some (.int k)) (hv:cs[off]?=some v) :
  (part e cs off).run P w = .ok v w:=by
 simp[part,isAgg,run_underlying he,hv]
theorem Iw (w:World) (d:Nat) (t e:TypeId) (ht:P.underlying t=some (.array 8 e)) (he:P.underlying e=some (.int .u8)) (hsz:(P.info? e).map (·.size)=some 1) (p q:Page) :
  (Op.equalIn (d+2) t (.agg (gQ p)) (.agg (gQ q))).run P w = .ok (p==q) w:=by
 cases hq:P.info? e with
 | none=>simp[hq] at hsz
 | some i=>
 have hi:i.size=1:=by simpa[hq] using hsz
 rw[RJ];unfold Op.equalIn;simp only[jZ,run_underlying ht,oZ,Go.sizeOf,typeInfo,run_program,hq,hi,pu];simp only[Std.Legacy.Range.forIn_eq_forIn_range',List.range',Std.Legacy.Range.size];have g:∀(r:Page) (k:Nat) (h:k<8) (w:World),(part e (gQ r) k).run P w = .ok (.int .u8 r[k].toNat) w:=fun r k h w=>Es w e .u8 _ _ _ he (HZ r k h);have c:∀(a b:UInt8) (w:World),(Op.equalIn (d+1) e (.int .u8 a.toNat) (.int .u8 b.toNat)).run P w = .ok (a==b) w:=fun a b w=>by rw[run_equalIn_int w d e .u8 .u8 _ _ he,VU]
 simp[g,c]
 repeat' split
 all_goals simp_all
def Gives (P:Program) (o:Oper) (a:Act) (w:World) (F:Value→World→Prop):Prop:=
 match (execOp a.eval o).run P w with
 | .ok (.value v) w'=>F v w'
 | .ok .skip w'=>F undef w'
 | .ok (.enter f args) w'=>Calls P f args w' fun | .returned v,w''=>F v w'' | _,_=>False
 | _=>False
def lay (L:Nat→Bool) (y:Nat→Value):List Oper→Nat→Array Value→Array Value
 | [],_,t=>t
 | o::r,i,t=>lay L y r (i+1) (match o.dst with | some d=>if L i then t.setIfInBounds d (y i) else t | none=>t)
theorem lay_size (L:Nat→Bool) (y:Nat→Value):∀(l:List Oper) (i:Nat) (t:Array Value),(lay L y l i t).size=t.size
 | [],_,_=>rfl
 | o::r,i,t=>by
  simp only[lay];rw[lay_size L y r];cases o.dst with
  | none=>rfl
  | some d=>simp only[];split<;>simp
theorem iB (L:Nat→Bool) (y:Nat→Value) (s:Nat):∀(l:List Oper) (i:Nat) (t:Array Value),(∀k o,l[k]?=some o→o.dst=some s→L (i+k)=false)→(lay L y l i t)[s]?=t[s]?
 | [],_,_,_=>rfl
 | o::r,i,t,h=>by
  simp only[lay];rw[iB L y s r (i+1) _ (fun k o' hk hd=>by have:=h (k+1) o' (by simpa using hk) hd;rwa [show i+(k+1)=i+1+k by omega] at this)];cases hd:o.dst with
  | none=>rfl
  | some d=>
   simp only[];split
   ·rename_i hL;have hne:d≠s:=by intro e;subst e;have:=h 0 o (by simp) hd;simp[hL] at this
    rw[fO hne]
   ·rfl
theorem kR (L:Nat→Bool) (y:Nat→Value) (s:Nat):∀(l:List Oper) (i:Nat) (t:Array Value) (k:Nat) (o:Oper),l[k]?=some o→o.dst=some s→L (i+k)=true →
  (∀k' o',l[k']?=some o'→o'.dst=some s→k' = k)→s<t.size→(lay L y l i t)[s]?=some (y (i+k))
 | [],_,_,_,_,h,_,_,_,_=>by simp at h
 | o0::r,i,t,0,o,hk,hd,hL,hu,hs=>by simp at hk;subst hk;simp only[lay,hd];rw[iB L y s r (i+1) _ (fun k o' hk' hd'=>by have:=hu (k+1) o' (by simpa using hk') hd'; omega)];rw[kU] at hL;simp[hL,hs]
 | o0::r,i,t,k+1,o,hk,hd,hL,hu,hs=>by
  simp only[lay];have:=kR L y s r (i+1) (match o0.dst with | some d=>if L i then t.setIfInBounds d (y i) else t | none=>t) k o (by simpa using hk) hd (by rwa [show i+1+k=i+(k+1) by omega])
   (fun k' o' hk' hd'=>by have:=hu (k' + 1) o' (by simpa using hk') hd'; omega)
   (by cases o0.dst with
     | none=>exact hs
     | some d=>simp only[];split<;>simpa using hs)
  rw[this];congr 2;omega
theorem mH (L L' : Nat→Bool) (y:Nat→Value):∀(l:List Oper) (i:Nat) (t:Array Value),(∀k,k<l.length→L (i+k)=L' (i+k))→lay L y l i t=lay L' y l i t
 | [],_,_,_=>rfl
 | o::r,i,t,h=>by
  simp only[lay];have h0:L i=L' i:=by simpa using h 0 (by simp)
  rw[h0];exact mH L L' y r (i+1) _ fun k hk=>by have:=h (k+1) (by simp;omega);rwa [show i+(k+1)=i+1+k by omega] at this
def jL (ops:Array Oper):Bool:=
 (List.range ops.size).all fun i=>match ops[i]? with
  | none=>true
  | some o=>
   (match o.op with | .select ..=>false | _=>true) &&
   o.after.toList.all (fun e=>Region.binds .any e&&decide (e.on<i)) &&
   (List.range ops.size).all fun j=>match ops[j]? with
    | none=>true
    | some p=>match p.dst with
     | none=>true
     | some d=>(decide (i=j)||o.dst != some d)&&(!(o.looksAt ops).contains d||o.after.toList.any (fun e=>decide (e.on=j)))
theorem fw (h:jL ops=true) (hi:ops[i]?=some o) :
  (∀cs b,o.op ≠ .select cs b)∧(∀e∈o.after,Region.binds .any e=true∧e.on<i) ∧
  ∀j p d,ops[j]?=some p→p.dst=some d→(i=j∨o.dst≠some d)∧(d∈o.looksAt ops→∃e∈o.after,e.on=j):=by
 have c:i<ops.size:=(gN.1 hi).1;have h1:=cK.1 h i (bV.2 c);simp only[hi,dh] at h1;obtain⟨⟨h2,h3⟩,h4⟩:=h1;refine⟨?_,?_,?_⟩
 ·intro cs b e;simp[e] at h2
 ·intro e he;have:=cK.1 h3 e (lG.2 he);simpa using this
 intro j p d hj hd;have f:j<ops.size:=(gN.1 hj).1;have h5:=cK.1 h4 j (bV.2 f);simp only[hj,hd,dh,qJ,decide_eq_true_eq,bne_iff_ne,ne_eq,pJ,jO] at h5;refine⟨h5.1,fun a => ?_⟩;rcases h5.2 with h6|⟨e,he,h6⟩
 ·have h7:(o.looksAt ops).contains d=true:=List.contains_iff_mem.2 a;rw[h7] at h6;cases h6
 ·exact⟨e,lG.1 he,h6⟩
theorem wP (hok:jL ops=true) (hi:ops[i]?=some o) (hL:∀e∈o.after,L e.on=true) (t:Nat) (ht:t∈o.looksAt ops) :
  (lay L y ops.toList 0 a0.tmps)[t]?=(lay (fun _=>true) y ops.toList 0 a0.tmps)[t]?:=by
 obtain⟨_,_,hw⟩:=fw hok hi
 by_cases hsz:t<a0.tmps.size
 ·by_cases hex:∃(j:Nat) (p:Oper),ops[j]?=some p∧p.dst=some t
  ·obtain⟨j,p,hj,hd⟩:=hex;obtain⟨e,he,b⟩:=(hw j p t hj hd).2 ht;have hu:∀k' o',ops.toList[k']?=some o'→o'.dst=some t→k' = j:=by
    intro k' o' a c;have:=(fw hok (i:=k') (o:=o') (by simpa using a)).2.2 j p t hj hd;rcases this.1 with h|h
    ·exact h
    ·exact absurd c h
   rw[kR L y t _ 0 _ j p (by simpa using hj) hd (by rw[dA,←b];exact hL e he) hu hsz,
    kR (fun _=>true) y t _ 0 _ j p (by simpa using hj) hd rfl hu hsz]
  ·rw[iB L y t _ 0 _ (fun k o' hk hd=>absurd ⟨k,o',by simpa using hk,hd⟩ hex),iB (fun _=>true) y t _ 0 _ (fun k o' hk hd=>absurd ⟨k,o',by simpa using hk,hd⟩ hex)]
 ·rw[pO (by rw[lay_size];omega),pO (by rw[lay_size];omega)]
theorem Ca (hok:jL ops=true) {listed:Array Bool} (hi:ops[i]?=some o) (hsz:listed.size=ops.size) (v:Value) :
  ({ a0 with tmps:=lay (fun i=>listed.getD i false) y ops.toList 0 a0.tmps }:Act).put o.dst v =
   { a0 with tmps:=lay (fun k=>(listed.setIfInBounds i true).getD k false) (fun k=>if k=i then v else y k) ops.toList 0 a0.tmps }:=by
 have l:i<ops.size:=(gN.1 hi).1;have g:(listed.setIfInBounds i true).getD i false=true:=by simp[aW,show i<listed.size by omega]
 have c:∀k,k≠i→(listed.setIfInBounds i true).getD k false=listed.getD k false:=fun k hk=>by simp[aW,fO (kT hk)]
 have key:(({ a0 with tmps:=lay (fun i=>listed.getD i false) y ops.toList 0 a0.tmps }:Act).put o.dst v).tmps=lay (fun k=>(listed.setIfInBounds i true).getD k false) (fun k=>if k=i then v else y k) ops.toList 0 a0.tmps:=by
  apply oO;intro s
  by_cases hs:s<a0.tmps.size
  ·by_cases hex:∃(j:Nat) (p:Oper),ops[j]?=some p∧p.dst=some s
   ·obtain⟨j,p,hj,hd⟩:=hex;have hu:∀k' o',ops.toList[k']?=some o'→o'.dst=some s→k' = j:=by
     intro k' o' f a;rcases ((fw hok (i:=k') (o:=o') (by simpa using f)).2.2 j p s hj hd).1 with h|h
     ·exact h
     ·exact absurd a h
    by_cases hji:j=i
    ·subst hji;obtain rfl:o=p:=by rw[hi] at hj;exact aS hj
     rw[kR (fun k=>(listed.setIfInBounds j true).getD k false) _ s _ 0 _ j o (by simpa using hi) hd (by simpa using g) hu hs];simp only[Act.put,hd,dA,if_true];rw[rA (by rw[lay_size];exact hs)]
    have b:o.dst≠some s:=fun e=>hji ((hu i o (by simpa using hi) e).symm);have e1:(({ a0 with tmps:=lay (fun i=>listed.getD i false) y ops.toList 0 a0.tmps }:Act).put o.dst v).tmps[s]?=(lay (fun i=>listed.getD i false) y ops.toList 0 a0.tmps)[s]?:=by
     cases ho:o.dst with
     | none=>rfl
     | some d=>
      have:d≠s:=fun e=>b (by rw[ho,e]);simp only[Act.put];rw[fO this]
    rw[e1];cases hLj:listed.getD j false with
    | true=>
     rw[kR (fun i=>listed.getD i false) y s _ 0 _ j p (by simpa using hj) hd (by simpa using hLj) hu hs,
      kR (fun k=>(listed.setIfInBounds i true).getD k false) _ s _ 0 _ j p (by simpa using hj) hd (by rw[dA,c j hji];exact hLj) hu hs]
     simp[hji]
    | false=>
     rw[iB (fun i=>listed.getD i false) y s _ 0 _ (fun k o' hk a=>by rw[dA,hu k o' hk a];exact hLj),
      iB (fun k=>(listed.setIfInBounds i true).getD k false) _ s _ 0 _ (fun k o' hk a=>by rw[dA,hu k o' hk a,c j hji];exact hLj)]
   have b:o.dst≠some s:=fun e=>hex ⟨i,o,hi,e⟩;have e1:(({ a0 with tmps:=lay (fun i=>listed.getD i false) y ops.toList 0 a0.tmps }:Act).put o.dst v).tmps[s]?=(lay (fun i=>listed.getD i false) y ops.toList 0 a0.tmps)[s]?:=by
    cases ho:o.dst with
    | none=>rfl
    | some d=>
     have:d≠s:=fun e=>b (by rw[ho,e]);simp only[Act.put];rw[fO this]
   rw[e1,iB _ y s _ 0 _ (fun k o' hk hd=>absurd ⟨k,o',by simpa using hk,hd⟩ hex),iB _ _ s _ 0 _ (fun k o' hk hd=>absurd ⟨k,o',by simpa using hk,hd⟩ hex)]
  have e1:(({ a0 with tmps:=lay (fun i=>listed.getD i false) y ops.toList 0 a0.tmps }:Act).put o.dst v).tmps.size=a0.tmps.size:=by
   cases o.dst with
   | none=>exact lay_size _ _ _ _ _
   | some d=>simp[Act.put,lay_size]
  rw[pO (by rw[e1];omega),pO (by rw[lay_size];omega)]
 cases hdst:o.dst with
 | none=>rw[hdst] at key;simp only[Act.put] at key ⊢; rw[key]
 | some d=>rw[hdst] at key;simp only[Act.put] at key ⊢; rw[key]
theorem nS {a b:Act} {F:Value→World→Prop} {K:Act→World→Prop} (hi:ops[i]?=some o)
 (hwant:Region.wanted o (yielded ops a.tmps)=true) (hexec:execOp a.eval o=execOp b.eval o) (h:Gives P o b w F) (hK:∀v w',F v w'→K (a.put o.dst v) w'):wpOp P ops Q i K a w:=by
 unfold wpOp;simp only[hi,hwant,if_true];refine .inl ?_;unfold Oper.wp;rw[hexec];unfold Gives at h;generalize (execOp b.eval o).run P w=r at h ⊢;cases r with
 | ok n w'=>
  cases n with
  | value v=>exact hK _ _ h
  | skip=>exact hK _ _ h
  | enter f args=>
   refine wL h fun e w'' he => ?_;cases e with
   | returned v=>exact hK _ _ he
   | panicked c=>exact he.elim
   | outgrown=>exact he.elim
  | _=>exact h.elim
 | halt x w'=>exact h.elim
def writer (ops:Array Oper) (t:Nat):Option Nat:=(List.range ops.size).find? fun i=>match ops[i]? with | some o=>o.dst==some t | none=>false
def ik (ρ:Operand→Value) (ops:Array Oper) (g:Nat):Option Bool:=
 match (ops[g]?).bind (·.dst) with
 | some d=>match ρ (.tmp d) with | .bool b=>some b | _=>none
 | none=>none
def dP (P:Program) (o:Oper) (ρ:Operand→Value) (w:World) (F:Value→World→Prop):Prop:=
 match (execOp ρ o).run P w with
 | .ok (.value v) w'=>F v w'
 | .ok .skip w'=>F undef w'
 | .ok (.enter f args) w'=>Calls P f args w' fun | .returned v,w''=>F v w'' | _,_=>False
 | _=>False
structure nG where
 r:Value→World→Prop
 st:∀v w w',Below w.heap.size w w'→r v w→r v w'
def gI (V:Value):nG:=⟨fun v _=>v=V,fun _ _ _ _ h=>h⟩
def anyR:nG:=⟨fun _ _=>True,fun _ _ _ _ _=>trivial⟩
def rl (l:List nG) (i:Nat) (v:Value) (w:World):Prop:=(l.getD i anyR).r v w
def bq (C:Nat→Oper→Prop):Nat→List Oper→Prop
 | _,[]=>True
 | k,o::r=>C k o∧bq C (k+1) r
theorem aF {C:Nat→Oper→Prop} :bq C k []:=trivial
theorem aj {C:Nat→Oper→Prop} {r:List Oper} (h:C k o) (hr:bq C (k+1) r):bq C k (o::r):=⟨h,hr⟩
theorem bq.at {C:Nat→Oper→Prop}:∀ {l:List Oper} {k:Nat},bq C k l→∀i o,l[i]?=some o→C (k+i) o
 | [],_,_,_,_,h=>by simp at h
 | o::r,k,h,0,o',hi=>by simp at hi;subst hi;exact h.1
 | o::r,k,h,i+1,o',hi=>by have:=bq.at h.2 i o' (by simpa using hi);rwa [show k+(i+1)=k+1+i by omega]
def nE (P:Program) (ops:Array Oper) (a0:Act) (w0:World) (l:List nG) (i:Nat) (o:Oper):Prop:=
 ∀(ρ:Operand→Value) (y:Nat→Value) (w:World),(∀t j,writer ops t=some j→ρ (.tmp t)=y j)→(∀x,(match x with | .tmp t=>writer ops t=none | _=>True)→ρ x=a0.eval x) →
  Below w0.heap.size w0 w→(∀j,o.after.toList.any (fun e=>e.on==j)=true→rl l j (y j) w) →
  if Region.wanted o (ik ρ ops)=true then dP P o ρ w (fun v w'=>Below w.heap.size w w'∧rl l i v w') else rl l i undef w
def kV (ops:Array Oper) (n:Nat):Bool:=ops.toList.all fun o=>match o.dst with | some d=>decide (d<n) | none=>true
theorem ak {l:List nG} (v:Value) (hw:Region.wanted o (ik ρ ops)=true) (hrun:(execOp ρ o).run P w = .ok (.value v) w) (hR:rl l i v w) :
  if Region.wanted o (ik ρ ops)=true then dP P o ρ w (fun v w'=>Below w.heap.size w w'∧rl l i v w') else rl l i undef w:=by
 rw[if_pos hw];unfold dP;rw[hrun];exact⟨Below.refl _ _,hR⟩
theorem Dx {l:List nG} (hw:Region.wanted o (ik ρ ops)=false) (hR:rl l i undef w) :
  if Region.wanted o (ik ρ ops)=true then dP P o ρ w (fun v w'=>Below w.heap.size w w'∧rl l i v w') else rl l i undef w:=by
 rw[if_neg (by rw[hw];exact Bool.false_ne_true)];exact hR
theorem aK {l:List nG} (f:FuncId) (args:Array Value) (hw:Region.wanted o (ik ρ ops)=true) (hrun:(execOp ρ o).run P w = .ok (.enter f args) w)
 (hc:Calls P f args w fun e w' => ∃v,e = .returned v∧Below w.heap.size w w'∧rl l i v w') :
  if Region.wanted o (ik ρ ops)=true then dP P o ρ w (fun v w'=>Below w.heap.size w w'∧rl l i v w') else rl l i undef w:=by
 rw[if_pos hw];unfold dP;rw[hrun];refine hc.mono fun e w' ⟨v,he,h⟩ => ?_;subst he;exact h
theorem ag {y:Nat→Option Bool} (hg:o.guard=none):Region.wanted o y=true:=by simp[Region.wanted,hg]
theorem gB (g d:Nat) (b want:Bool) (hg:o.guard=some (g,want)) (hd:(ops[g]?).bind (·.dst)=some d) (hv:ρ (.tmp d) = .bool b):Region.wanted o (ik ρ ops)=(b==want):=by
 simp only[Region.wanted,hg,ik,hd,hv];cases b<;>cases want<;>rfl
theorem bY {d:TypeDesc} (ho:o.op = .load ty x) (hx:ρ x = .pointer (some ⟨b,0,none⟩)) (hb:aJ w b cs T)
 (hu:P.underlying ty=some d) (hd:(match d with | .struct _ | .array _ _=>true | _=>false)=true) (hi:(P.info? ty).map (·.size)=some cs.size):(execOp ρ o).run P w = .ok (.value (.agg cs)) w:=by
 unfold execOp;simp only[ho,hx,Instr.loadAt,Instr.sureAddr,jZ,pu,oZ,run_loadVar_row w b T ty cs (0,0) d hb hu hd hi]
theorem run_move (ho:o.op = .move x∨o.op = .assign x) (hx:ρ x=v):(execOp ρ o).run P w = .ok (.value v) w:=by
 rcases ho with ho|ho<;>simp[execOp,ho,hx]
theorem aQ {f:FuncId} {xs:Array Operand} {ats:Array TypeId} {fn:Func} (ho:o.op = .call { callee:=.value (.func f),args:=xs,argTypes:=ats })
 (hρ : ρ (.func f) = .func (.func f) #[] #[]) (hf : P.funcs[f]? = some fn) (hn : (fn.name == "runtime.NumGoroutine") = false) (hb : fn.body.isNone = false) (ha : xs.map ρ = args) : (execOp ρ o).run P w = .ok (.enter f args) w := by
 have e1:execOp ρ o=callFunc f args:=by
  unfold execOp;simp only[ho];have e2:resolve ρ { callee:=.value (.func f),args:=xs,argTypes:=ats } o.type=Sem.pure { target:=.fn (.func f) #[],args:=args }:=by unfold resolve;simp only[hρ,ha];simp[Deferred.ofValue];rfl
  rw[e2];show callFunc f (args++#[])=_;simp
 rw[e1];have a : ¬ fn.name = "runtime.NumGoroutine" := by simpa using hn
 have b : ¬fn.body=none:=fun h=>by simp[h] at hb
 unfold callFunc;simp[hf,a,b]
theorem Nj {op:BinOp} {y:Operand} (ho:o.op = .binOp op t x y t') (hx:ρ x=vx) (hy:ρ y=vy)
 (hr:(do eqGuard op t x y vx vy;binOp op t vx vy:Sem Value).run P w = .ok v w):(execOp ρ o).run P w = .ok (.value v) w:=by
 unfold execOp;simp only[ho,hx,hy];rw[jZ,hr];rfl
theorem IE {c y:Operand} {b:Bool} (ho:o.op = .pick c x y) (hc:ρ c = .bool b) (hx:(if b then ρ x else ρ y)=v):(execOp ρ o).run P w = .ok (.value v) w:=by
 unfold execOp;simp only[ho,hc];subst hx;cases b<;>rfl
theorem Bf {b:Bool} (ho:o.op = .unOp .not t x) (hx:ρ x = .bool b):(execOp ρ o).run P w = .ok (.value (.bool (!b))) w:=by
 unfold execOp;simp only[ho,hx];rfl
theorem Ke {n:Nat} (ho:o.op = .call { callee:=.builtin .len,args:=#[x],argTypes:=#[t] }) (hx:ρ x = .slice a n c) (ht:P.underlying t=some (.slice (P.elem t))):(execOp ρ o).run P w = .ok (.value (.int .i64 n)) w:=by
 unfold execOp;simp only[ho];simp[hx,resolve,invoke,builtin,run_len_slice _ t o.type a n c ht];rfl
theorem Em (ho:o.op = .fieldAddr t x f) (hx:ρ x=vx) (hr:(Instr.fieldAt t vx f).run P w = .ok v w):(execOp ρ o).run P w = .ok (.value v) w:=by
 unfold execOp;simp only[ho,hx];rw[jZ,hr];rfl
theorem run_load (ho:o.op = .load t x) (hx:ρ x=vx) (hr:(Instr.loadAt t vx).run P w = .ok v w):(execOp ρ o).run P w = .ok (.value v) w:=by
 unfold execOp;simp only[ho,hx];rw[jZ,hr];rfl
section
variable {P:Program} {ops:Array Oper} {a0:Act} {w0:World} {l:List nG} {i:Nat} {o:Oper}
end
theorem sQ {α:Type} (enc:α→List Value) (sz:Nat) (hsz:∀x,(enc x).length=sz) (l:List α) (i:Nat) (h:i<l.length) (j:Nat) (hj:j<sz):(l.flatMap enc)[i*sz+j]?=(enc l[i])[j]?:=by
 have e:(enc l[i])[j]?=some ((enc l[i])[j]'(by rw[hsz];exact hj)):=aN _;rw[e];exact flat_get enc sz hsz l i h j _ e
theorem Ik {α:Type} (enc:α→List Value) (sz:Nat) (hsz:∀x,(enc x).length=sz) (hp:0<sz) (l:List α) (m:Nat) (u:Value) (h:(l.flatMap enc)[m]?=some u) :
  ∃i j,∃hi:i<l.length,m=i*sz+j∧j<sz∧(enc l[i])[j]?=some u:=by
 have hm:m<l.length*sz:=by
  rcases fM m (l.flatMap enc).length with h1|h1
  ·rwa [flat_len enc sz hsz] at h1
  ·rw[fo h1] at h;cases h
 have hj:=uj m hp;have hd:=Nat.div_add_mod m sz;have hi:m / sz<l.length:=Nat.div_lt_of_lt_mul (by rw[BV];exact hm);refine⟨m / sz,m%sz,hi,by rw[BV];exact hd.symm,hj,?_⟩;rw[←sQ enc sz hsz l _ hi _ hj,BV,hd];exact h
theorem DF {α:Type} (enc:α→List Value) (sz:Nat) (hsz:∀x,(enc x).length=sz) (hp:0<sz) (l:List α) (k:Nat) (hk:k<l.length) (x:α) (off:Nat) (cur:Array Value) (hfit:off+l.length*sz≤cur.size)
 (h:∀j u,(l.flatMap enc)[j]?=some u→cur[off+j]?=some u):∀j u,((l.set k x).flatMap enc)[j]?=some u→(dF cur (off+k*sz) (enc x))[off+j]?=some u:=by
 intro m u hm;obtain⟨i,j,hi,rfl,hj,e⟩:=Ik enc sz hsz hp _ m u hm;have b : i<l.length:=by simpa using hi
 by_cases hik:i=k
 ·subst hik;rw[show off+(i*sz+j)=(off+i*sz)+j from by omega];have h1:(i+1)*sz≤l.length*sz:=sD _ hk;rw[su] at h1;exact putAt_in _ _ _ _ _ (by rw[hsz];omega) (by simpa using e)
 have a:off+(i*sz+j)<off+k*sz∨off+k*sz+(enc x).length≤off+(i*sz+j):=by
  rw[hsz];rcases yw hik with h1|h1
  ·have:=sD sz h1;rw[Nat.succ_mul] at this;omega
  have:=sD sz h1;rw[Nat.succ_mul] at this;omega
 rw[putAt_out _ _ _ _ a];refine h _ _ ?_;rw[sQ enc sz hsz l i b j hj];rw[List.getElem_set_ne (fun e=>hik e.symm)] at e;exact e
theorem Own.put {α:Type} {enc:α→List Value} (hsz:∀x,(enc x).length=sz) (hp:0<sz) {l:List α} (h:Own w B e sz v l.length (l.flatMap enc)) (k:Nat) (hk:k<l.length) :
  ∃g off cap cur,v = .slice (some ⟨g,off,none⟩) l.length cap∧B≤g∧aJ w g cur e∧off+k*sz+sz≤cur.size∧(∀j u,(enc l[k])[j]?=some u→w.cell? ⟨g,off+k*sz+j,none⟩=some u) ∧
   ∀w' x,aJ w' g (dF cur (off+k*sz) (enc x)) e→Own w' B e sz v l.length ((l.set k x).flatMap enc):=by
 obtain⟨hl,h⟩:=h;rcases h with ⟨_,h0⟩|⟨g,off,cap,cur,rfl,hB,hg,hc,hm,hs,ht⟩
 ·omega
 have h1:(k+1)*sz≤l.length*sz:=sD _ hk;have h2:l.length*sz≤cap*sz:=sD _ hc;rw[su] at h1;refine⟨g,off,cap,cur,rfl,hB,hg,by omega,fun j u hj => ?_,fun w' x hw=>⟨?_,.inr ⟨g,off,cap,_,rfl,hB,hw,hc,hm,by rw[size_putAt];exact hs,?_⟩⟩⟩
 ·rw[hg.cell,oQ];refine ht _ _ ?_;have a : j<sz:=by
   rcases fM j sz with h|h
   ·exact h
   ·rw[fo (by rw[hsz];exact h)] at hj;cases hj
  rw[sQ enc sz hsz l k hk j a];exact hj
 ·rw[flat_len enc sz hsz,dM]
 ·exact DF enc sz hsz hp l k hk x off cur (by omega) ht
theorem Own.put1 {f:Int→Value} (h:Own w B e 1 v l.length (l.map f)) (k:Nat) (hk:k<l.length) :
  ∃g off cap,v = .slice (some ⟨g,off,none⟩) l.length cap∧B≤g∧g<w.heap.size∧w.cell? ⟨g,off+k,none⟩=some (f l[k])∧w.frozen? ⟨g,off+k,none⟩=false ∧
   ∀x,Own (w.setCell ⟨g,off+k,none⟩ (f x)) B e 1 v l.length ((l.set k x).map f):=by
 rw[←mV] at h;obtain⟨g,off,cap,cur,rfl,hB,hg,hs,hc,hw⟩:=h.put (sz:=1) (fun _=>rfl) Nat.one_pos k hk;rw[BX] at hs hc hw;refine⟨g,off,cap,rfl,hB,hg.lt,by simpa using hc 0 _ rfl,hg.free _,fun x => ?_⟩;rw[←mV];exact hw _ x (by simpa[dF] using hg.setCell (off+k) (f x))
theorem OZ {α:Type} (enc:α→List Value) (sz:Nat) (hsz:∀x,(enc x).length=sz) (hp:0<sz) (z:Array Value) (x:α) (hz:z.toList=enc x) (n:Nat):(madeCells z (n*sz)).toList=(List.replicate n x).flatMap enc:=by
 have b:z.size=sz:=by rw[←hsz x,←hz];simp
 apply qH
 ·rw[flat_len enc sz hsz];simp[size_madeCells]
 intro m h1 h2;have hm:m<n*sz:=by simpa[size_madeCells] using h1
 have h3:((List.replicate n x).flatMap enc)[m]?=some ((List.replicate n x).flatMap enc)[m]:=aN h2;obtain⟨i,j,hi,e,hj,he⟩:=Ik enc sz hsz hp _ m _ h3;rw[List.getElem_replicate] at he;have a:m%z.size=j:=by rw[b,e,BV,Nat.mul_add_mod,rY hj]
 simp only[madeCells,Array.toList_map,rG,Array.toList_range,Ha,a];rw[←hz,oP] at he;rw[Array.getElem!_eq_getD,aW,he];rfl
theorem wB (w:World) {a:Act} 
 (hg:o.guard=none) (l c:Operand) (t:TypeId) (hop:o.op=Op.makeSlice t l c)
 {α:Type} (enc:α→List Value) (e:TypeId) (z:Value) (size bytes:Nat) (x:α) (hsz:∀x,(enc x).length=size) (hp:0<size) (h1:P.underlying t=some (.slice e)) (h2:(P.info? e).map (fun i=>(i.zero,i.size,i.bytes))=some (some z,size,bytes)) (hz:z.cells.toList=enc x)
 (kl kc:IntKind) (L C:Int) (n:Nat) (hl:a.eval l = .int kl L) (hc:a.eval c = .int kc C) (hL:L=(n:Int)) (hC:C=(n:Int)) (b2:bytes*n≤281474976710656) (b3:n≤maxLen)
 (hK:∀w',Own w' w.heap.size e size (.slice (some ⟨w.heap.size,0,none⟩) n n) n ((List.replicate n x).flatMap enc)→w.grownBy w' none→wpList P ops Q rest (a.put o.dst (.slice (some ⟨w.heap.size,0,none⟩) n n)) w') :
  wpList P ops Q (o::rest) a w:=by
 obtain⟨i,hi,b,hs,hb⟩:=info_parts h2;refine wpList_make_full w hg l c t hop w.heap.size e i z size h1 hi b hs kl kc L C n hl hc hL hC (by rw[hb];exact b2) b3 (az _) fun w' ho d=>hK w' ?_ d;rw[OZ enc size hsz hp z.cells x hz] at ho;exact Own.of_owns ho
theorem own_ne {n:Nat} (h:Own w B e sz v n xs) (hk:aJ w g cs T) (hT:T≠e):∀g',v.ownBlock=some g'→some g≠some g':=by
 intro g' a he;cases he;rcases h.2 with ⟨rfl,_⟩|⟨g2,off,cap,cur,rfl,_,hb,_⟩
 ·cases a
 cases a;unfold aJ at hk hb;rw[hk] at hb;simp only[gY,pM] at hb;exact hT hb.2.1
theorem ay {n:Nat} (h:Own w B e sz v n xs) (hk:aJ w g cs T) (hT:T≠e) (hgr:w.grownBy w' (some g)):Own w' B e sz v n xs:=
 h.grown hgr (own_ne h hk hT)
def iw (B:Nat) (e:TypeId) (sz n:Nat) (xs:List Value):nG:=⟨fun v w=>Own w B e sz v n xs,fun _ _ _ hb h=>h.below hb⟩
theorem jl (m:World→Prop) (h:∀W,Below w.heap.size w W→aJ W w.heap.size X TX→W.heap.size=w.heap.size+1→m W):m (w.alloc (.cells X TX)):=
 h _ ((Below.refl _ _).alloc (az _) _) (aJ.new _ _ _) (by simp)
theorem vg (m:World→Prop) (h:∀W,Below w.heap.size w W→aJ W w.heap.size X TX→aJ W (w.heap.size+1) Y TY→W.heap.size=w.heap.size+2→m W) :
  m ((w.alloc (.cells X TX)).alloc (.cells Y TY)):=by
 refine jl (fun W=>m (W.alloc (.cells Y TY))) fun W1 hb hx hs => ?_;refine jl m fun W2 a hy b => ?_;rw[hs] at hy b;exact h W2 (ah hb a) (hx.ext a) hy (by omega)
theorem RI (m:World→Prop) (h:∀W,Below w.heap.size w W→aJ W w.heap.size X TX→aJ W (w.heap.size+1) Y TY→aJ W (w.heap.size+2) Z TZ→W.heap.size=w.heap.size+3→m W) :
  m (((w.alloc (.cells X TX)).alloc (.cells Y TY)).alloc (.cells Z TZ)):=by
 refine vg (fun W=>m (W.alloc (.cells Z TZ))) fun W1 hb hx hy hs => ?_;refine jl m fun W2 a hz b => ?_;rw[hs] at hz b;exact h W2 (ah hb a) (hx.ext a) (hy.ext a) hz (by omega)
theorem Xl {V:Array Value} (m:World→Prop) (h:∀W,Below w.heap.size w W→aJ W w.heap.size X TX→aJ W (w.heap.size+1) Y TY→aJ W (w.heap.size+2) Z TZ→aJ W (w.heap.size+3) V TV→W.heap.size=w.heap.size+4→m W) :
  m ((((w.alloc (.cells X TX)).alloc (.cells Y TY)).alloc (.cells Z TZ)).alloc (.cells V TV)):=by
 refine RI (fun W=>m (W.alloc (.cells V TV))) fun W1 hb hx hy hz hs => ?_;refine jl m fun W2 a hv b => ?_;rw[hs] at hv b;exact h W2 (ah hb a) (hx.ext a) (hy.ext a) (hz.ext a) hv (by omega)
theorem Own.drop {α:Type} {enc:α→List Value} (hsz:∀x,(enc x).length=sz) {l:List α} (h:Own w B e sz (.slice (some ⟨g,off,none⟩) l.length cap) l.length (l.flatMap enc)) (k:Nat) (hk:k≤l.length) :
  Own w B e sz (.slice (some ⟨g,off+k*sz,none⟩) (l.drop k).length (cap-k)) (l.drop k).length ((l.drop k).flatMap enc):=by
 obtain⟨hl,h⟩:=h;rcases h with ⟨h1,_⟩|⟨g',off',cap',cur,hv,hB,hg,hc,hm,hs,ht⟩
 ·cases h1
 cases hv;refine⟨flat_len enc sz hsz _,.inr ⟨g,off+k*sz,cap-k,cur,rfl,hB,hg,by simp;omega,by omega,?_,fun j u hj => ?_⟩⟩
 ·have:(cap-k)*sz+k*sz=cap*sz:=by rw[←su];congr 1;omega
  omega
 rw[oQ];refine ht _ _ ?_;have e:l.flatMap enc=(l.take k).flatMap enc++(l.drop k).flatMap enc:=by rw[←gK,pR]
 rw[e,iN (by rw[flat_len enc sz hsz,fq,qN hk];omega),flat_len enc sz hsz,fq,qN hk,yQ];exact hj
theorem gz {l:List nG} (v:Value) (hw:Region.wanted o (ik ρ ops)=true) (hrun:(execOp ρ o).run P w = .ok (.value v) w') (hb:Below w.heap.size w w') (hR:rl l i v w') :
  if Region.wanted o (ik ρ ops)=true then dP P o ρ w (fun v w'=>Below w.heap.size w w'∧rl l i v w') else rl l i undef w:=by
 rw[if_pos hw];unfold dP;rw[hrun];exact⟨hb,hR⟩
theorem Av (h:w.grownBy w' none):Below w.heap.size w w':=(Below.refl _ _).grown h (az _) (fun k hk=>by cases hk)
def mX (ops:Array Oper):Nat→Nat→List Nat
 | 0,_=>[]
 | f+1,i=>match ops[i]? with
  | none=>[]
  | some o=>o.after.toList.flatMap fun e=>e.on::mX ops f e.on
def jd (ops:Array Oper) (m:Nat):Bool:=
 (List.range ops.size).all fun i=>decide (i<m)||(List.range i).all fun j=>(mX ops ops.size i).contains j
theorem pY {ops:Array Oper} {listed:Array Bool} (hc:∀i o,ops[i]?=some o→listed.getD i false=true→∀e∈o.after,listed.getD e.on false=true):∀(f i:Nat),(∀o,ops[i]?=some o→∀e∈o.after,listed.getD e.on false=true)→∀j∈mX ops f i,listed.getD j false=true
 | 0,_,_,j,hj=>by simp[mX] at hj
 | f+1,i,h,j,hj=>by
  unfold mX at hj;cases ho:ops[i]? with
  | none=>simp[ho] at hj
  | some o=>
   simp only[ho,ji] at hj;obtain⟨e,he,hj⟩:=hj;have he':=lG.1 he;rcases fE.1 hj with rfl|hj
   ·exact h o ho e he'
   ·exact pY hc f e.on (fun o' ho'=>hc e.on o' ho' (h o ho e he')) j hj
theorem qI {m:Nat} (h:jd ops m=true) {listed:Array Bool} (hc:∀i o,ops[i]?=some o→listed.getD i false=true→∀e∈o.after,listed.getD e.on false=true) (hi:ops[i]?=some o) (hL:∀e∈o.after,listed.getD e.on false=true) (hm:m≤i) (j:Nat) (hj:j<i):listed.getD j false=true:=by
 have b:i<ops.size:=(gN.1 hi).1;have h1:=cK.1 h i (bV.2 b);simp only[qJ,decide_eq_true_eq] at h1;rcases h1 with h1|h1
 ·omega
 have h2:=cK.1 h1 j (bV.2 hj);refine pY hc ops.size i (fun o' a => ?_) j (by simpa using h2);rw[hi] at a;cases a;exact hL
theorem nQ {m:Nat} (hok:jL ops=true) (ht:jd ops m=true):∀(fuel k:Nat) (listed:Array Bool) (a:Act) (w:World),
  m≤k→k≤ops.size→ops.size-k≤fuel→listed.size=ops.size→(∀i,i<ops.size→listed.getD i false=decide (i<k))→wpList P ops Q (ops.toList.drop k) a w→wpAny P .any ops Q fuel listed a w:=by
 intro fuel
 induction fuel with
 | zero=>
  intro k listed a w p hk hf g hL h;obtain rfl:k=ops.size:=by omega
  refine⟨?_,?_⟩
  ·rw[List.eq_nil_iff_forall_not_mem];intro i hi;obtain⟨h1,o,ho,_⟩:=mem_ready.1 hi;have b:i<ops.size:=(gN.1 ho).1;have:=hL i b;simp[aW,show i<listed.size by omega] at h1 this;rw[h1] at this;simp[b] at this
  rw[uF (by simp)] at h;simpa[wpList] using h
 | succ fuel ih=>
  intro k listed a w p hk hf g hL h;have only:∀i∈Region.ready .any ops listed,i=k:=by
   intro i hi;obtain⟨h1,o,ho,f⟩:=mem_ready.1 hi;have b:i<ops.size:=(gN.1 ho).1;have h2:=hL i b;have h3:listed.getD i false=false:=by simp[aW,show i<listed.size by omega] at h1 ⊢;exact h1
   rw[h3] at h2;have r:k≤i:=by have:=h2.symm;simpa using this
   rcases fM k i with hlt' | hge
   ·exfalso;have h4:listed.getD k false=true:=qI ht (fun i' o' l n e he=>by
     have q : i' < ops.size:=(gN.1 l).1;have h8:=(fw hok l).2.1 e he;rw[hL i' q] at n;have h9:i' < k:=by simpa using n
     rw[hL e.on (by omega)];simp;omega) ho (fun e he=>f e he ((fw hok ho).2.1 e he).1) (by omega) k hlt'
    have h5:=hL k (by omega);rw[h4] at h5;simp at h5
   ·omega
  refine⟨fun c => ?_,fun i hi => ?_⟩
  ·rcases fM k ops.size with b|hge
   ·exfalso;have:k∈Region.ready .any ops listed:=by
     rw[mem_ready];refine⟨?_,ops[k],by simp[b],fun e he hb => ?_⟩
     ·have:=hL k b;simp[aW,show k<listed.size by omega] at this ⊢;exact this
     have h6:=(fw hok (i:=k) (o:=ops[k]) (by simp[b])).2.1 e he;rw[hL e.on (by omega)];simp[h6.2]
    rw[c] at this;cases this
   rw[uF (by simpa using hge)] at h;simpa[wpList] using h
  obtain rfl:=only i hi;obtain⟨_,o,ho,_⟩:=mem_ready.1 hi;have b:i<ops.size:=(gN.1 ho).1;have d:ops.toList.drop i=o::ops.toList.drop (i+1):=by rw[wV (by simpa using b)];congr 1;have:=(gN.1 ho).2;simpa using this
  rw[d] at h;have hw:wpOp P ops Q i (wpList P ops Q (ops.toList.drop (i+1))) a w:=by unfold wpOp;simp only[ho];simpa[wpList] using h
  refine wpOp_mono (fun a' w' h'=>ih (i+1) _ a' w' (by omega) (by omega) (by omega) (by simp[g]) (fun j hj => ?_) h') hw
  by_cases hji:j=i
  ·subst hji;simp[aW,show j<listed.size by omega]
  have:=hL j hj;simp only[aW,fO (kT hji)] at this ⊢;rw[this];congr 1;simp;omega
def Fixed:List nG→Prop
 | []=>True
 | R::l=>(∀v w w',R.r v w→R.r v w')∧Fixed l
theorem fix_nil:Fixed []:=trivial
theorem QE {R:nG} {l:List nG} (h:∀v w w',R.r v w→R.r v w') (hl:Fixed l):Fixed (R::l):=⟨h,hl⟩
theorem Fixed.at:∀ {l:List nG},Fixed l→∀i v w w',rl l i v w→rl l i v w'
 | [],_,_,_,_,_,_=>by unfold rl;simp[anyR]
 | R::l,h,0,v,w,w',hr=>by unfold rl at hr ⊢; simpa using h.1 v w w' (by simpa using hr)
 | R::l,h,i+1,v,w,w',hr=>by have:=Fixed.at h.2 i v w w';unfold rl at hr this ⊢;simp only[List.getD_cons_succ] at hr ⊢;exact this hr
def yN (F:Value→Prop):nG:=⟨fun v _=>F v,fun _ _ _ _ h=>h⟩
def sZ (y:Nat→Value) (i:Nat) (v:Value):Nat→Value:=fun k=>if k=i then v else y k
def WM (ops:Array Oper) (m:Nat) (R:Nat→Value→World→Prop) (a0:Act) (J:(Nat→Bool)→(Nat→Value)→World→Prop) (listed:Array Bool) (a:Act) (w:World):Prop:=
 (∀i,m≤i→listed.getD i false=false)∧(∀i o,ops[i]?=some o→listed.getD i false=true→∀e∈o.after,listed.getD e.on false=true)∧∃y:Nat→Value,a = { a0 with tmps:=lay (fun i=>listed.getD i false) y ops.toList 0 a0.tmps }∧J (fun i=>listed.getD i false) y w∧∀i,i<ops.size→listed.getD i false=true→R i (y i) w
theorem FE (m:Nat) (hok:jL ops=true) (ht:jd ops m=true) (hmn:m≤ops.size)
 (R:Nat→Value→World→Prop) (J:(Nat→Bool)→(Nat→Value)→World→Prop) (hJ0:∀y,J (fun _=>false) y w0.drew) (hstab:∀i v w w',R i v w→R i v w')
 (hstep:∀i o,i<m→ops[i]?=some o→∀L y w,L i=false→(∀j,o.after.toList.any (fun e=>e.on==j)=true→L j=true)→J L y w→(∀j,o.after.toList.any (fun e=>e.on==j)=true→R j (y j) w) →
 if Region.wanted o (yielded ops (lay (fun _=>true) y ops.toList 0 a0.tmps))=true then Gives P o { a0 with tmps:=lay (fun _=>true) y ops.toList 0 a0.tmps } w (fun v w'=>J (oJ L i) (sZ y i v) w'∧R i v w') else J (oJ L i) (sZ y i undef) w∧R i undef w)
 (hend:∀y w,J (fun i=>decide (i<m)) y w→(∀i,i<m→R i (y i) w)→wpList P ops Q (ops.toList.drop m) { a0 with tmps:=lay (fun i=>decide (i<m)) y ops.toList 0 a0.tmps } w) :
  wpAny P .any ops Q ops.size (Array.replicate ops.size false) a0 w0.drew:=by
 have hG:∀(fuel:Nat) (listed:Array Bool) (a:Act) (w:World),listed.size=ops.size→listed.toList.countP (!·)≤fuel→WM ops m R a0 J listed a w→wpAny P .any ops Q fuel listed a w:=by
  intro fuel
  induction fuel with
  | zero=>
   intro listed a w n hc hA;have hl:∀i,i<ops.size→listed.getD i false=true:=by
    intro i hH;have h0:listed.toList.countP (!·)=0:=by omega
    have:=uz.1 h0 (listed[i]'(by omega)) (by simp);simpa[aW,show i<listed.size by omega] using this
   obtain⟨b,hz,y,ha,hb,hR⟩:=hA;have hC : m=ops.size:=by
    rcases fM m ops.size with h|h
    ·have h1:=hl m h;rw[b m (az _)] at h1;cases h1
    ·omega
   refine nQ (m:=m) hok ht 0 ops.size listed a w (by omega) (az _) (by omega) n (fun i hi=>by rw[hl i hi];simp[hi]) ?_;have hf:(fun i=>listed.getD i false)=fun i=>decide (i<m):=by
    funext i
    by_cases hi:i<m
    ·rw[hl i (by omega)];simp[hi]
    ·rw[b i (by omega)];simp[hi]
   rw[hf] at hb;have:=hend y w hb fun i hi=>hR i (by omega) (hl i (by omega));rw[ha,mH (fun i=>listed.getD i false) (fun i=>decide (i<m)) y ops.toList 0 a0.tmps (fun k hk=>by
    have hI : k<ops.size:=by simpa using hk
    simp only[dA];rw[hl k hI];simp;omega)]
   rw[hC] at this ⊢;exact this
  | succ fuel ih=>
   intro listed a w n hc hA
   by_cases hfull:∀i,i<m→listed.getD i false=true
   ·obtain⟨b,hz,y,ha,hb,hR⟩:=hA;have hL:∀i,i<ops.size→listed.getD i false=decide (i<m):=by
     intro i hi
     by_cases him:i<m
     ·rw[hfull i him];simp[him]
     ·rw[b i (by omega)];simp[him]
    have hp:ops.size-m≤fuel+1:=by
     have h1:listed.toList.countP (!·)=ops.size-m:=by
      have e:listed.toList=List.replicate m true++List.replicate (ops.size-m) false:=by
       apply nO;intro i
       by_cases hi:i<ops.size
       ·have h2:=hL i hi;rw[oP,tY (show i<listed.size by omega)];simp only[aW,tY (show i<listed.size by omega),rQ] at h2;rw[h2]
        by_cases him:i<m
        ·rw[il (by simpa using him)];simp[him]
        rw[iN (by simp;omega)];rw[pQ,rV,if_pos (by omega)];simp[him]
       ·rw[fo (by simp;omega),fo (by simp;omega)]
      rw[e];simp[BA,GU]
     omega
    refine nQ (m:=m) hok ht (fuel+1) m listed a w (az _) hmn hp n hL ?_;have hf:(fun i=>listed.getD i false)=fun i=>decide (i<m):=by
     funext i
     by_cases hi:i<m
     ·rw[hfull i hi];simp[hi]
     ·rw[b i (by omega)];simp[hi]
    rw[hf] at hb;have:=hend y w hb fun i hi=>hR i (by omega) (hfull i hi);rw[ha,mH (fun i=>listed.getD i false) (fun i=>decide (i<m)) y ops.toList 0 a0.tmps (fun k hk=>by simp only[dA];exact hL k (by simpa using hk))];exact this
   have r:Region.ready .any ops listed≠[]:=by
    intro hn;apply hfull;intro i
    induction i using Nat.strongRecOn with
    | ind i ih'=>
     intro him
     by_cases hc' : listed.getD i false=true
     ·exact hc'
     exfalso;have hi:i<ops.size:=by omega
     have hr:i∈Region.ready .any ops listed:=by
      rw[mem_ready];refine⟨?_,ops[i],by simp[hi],fun e he _ => ?_⟩
      ·simpa[aW,show i<listed.size by omega] using hc'
      have:=(fw hok (i:=i) (o:=ops[i]) (by simp[hi])).2.1 e he;exact ih' e.on this.2 (by omega)
     rw[hn] at hr;cases hr
   refine⟨fun h=>absurd h r,fun i hi => ?_⟩;obtain⟨h1,o,ho,hy⟩:=mem_ready.1 hi;have hH:i<ops.size:=(gN.1 ho).1;obtain⟨hB,d,_⟩:=fw hok ho;have hL:∀e∈o.after,listed.getD e.on false=true:=fun e he=>hy e he (d e he).1;have him:i<m:=by
    rcases fM i m with h|h
    ·exact h
    exfalso;apply hfull;intro j hj;exact qI ht hA.2.1 ho hL h j (by omega)
   obtain⟨b,hz,y,ha,hb,hR⟩:=hA;have z:∀v w',J (oJ (fun i=>listed.getD i false) i) (sZ y i v) w'→R i v w'→wpAny P .any ops Q fuel (listed.setIfInBounds i true) (a.put o.dst v) w':=by
    intro v w' hF hv;have hf:oJ (fun i=>listed.getD i false) i=fun k=>(listed.setIfInBounds i true).getD k false:=by
     funext k;unfold oJ
     by_cases hki:k=i
     ·subst hki;simp[aW,show k<listed.size by omega]
     rw[if_neg hki];simp[aW,fO (kT hki)]
    rw[hf] at hF;refine ih _ _ _ (by simp[n]) ?_ ⟨fun k hk => ?_,fun k o' u hk e he => ?_,fun k=>if k=i then v else y k,?_,hF,?_⟩
    ·have hD:i<listed.toList.length:=by simp;omega
     have c:listed.toList[i]=false:=by simpa[aW,show i<listed.size by omega] using h1
     have:=FL (p:=(!·)) (l:=listed.toList) (i:=i) (a:=true) hD;rw[c] at this;have hK:0<listed.toList.countP (!·):=wz.2 ⟨listed.toList[i],eZ hD,by rw[c];rfl⟩;simp only[yu];simp only[FQ,Gv,if_true,pq,if_false] at this;omega
    ·have:=b k hk;simp only[aW,fO (show i≠k by omega)] at this ⊢;exact this
    ·have up:∀q,listed.getD q false=true→(listed.setIfInBounds i true).getD q false=true:=by
      intro q hq
      by_cases hqi:q=i
      ·subst hqi;simp[aW,show q<listed.size by omega]
      ·simpa[aW,fO (kT hqi)] using hq
     apply up
     by_cases hki:k=i
     ·subst hki;rw[ho] at u;cases u;exact hL e he
     ·exact hz k o' u (by simpa[aW,fO (kT hki)] using hk) e he
    ·rw[ha,Ca hok ho n v]
    intro k hk hJ
    by_cases hki:k=i
    ·subst hki;simpa using hv
    have:listed.getD k false=true:=by simpa[aW,fO (kT hki)] using hJ
    simp only[hki,if_false];exact hstab _ _ _ _ (hR k hk this)
   have hh:∀t∈o.looksAt ops,a.tmps[t]?=(lay (fun _=>true) y ops.toList 0 a0.tmps)[t]?:=fun t ht=>by rw[ha];exact wP hok ho hL t ht
   have hu:execOp a.eval o=execOp ({ a0 with tmps:=lay (fun _=>true) y ops.toList 0 a0.tmps }:Act).eval o:=by
    refine execOp_congr o hB fun x hx => ?_;cases x with
    | tmp t=>
     have:=hh t (uI _ (Bb.2 ⟨.tmp t,by simpa using hx,rfl⟩));simp[Act.eval,this]
    | _=>rfl
   have f:Region.wanted o (yielded ops a.tmps)=Region.wanted o (yielded ops (lay (fun _=>true) y ops.toList 0 a0.tmps)):=by
    unfold Region.wanted;cases hg:o.guard with
    | none=>rfl
    | some gw=>
     obtain⟨g,want⟩:=gw;have:yielded ops a.tmps g=yielded ops (lay (fun _=>true) y ops.toList 0 a0.tmps) g:=by
      unfold yielded;cases hd:(ops[g]?).bind (·.dst) with
      | none=>rfl
      | some t=>
       have:=hh t (uQ _ (by simp[hg,hd]));simp[this]
     simp only[this]
   have hs:=hstep i o him ho (fun i=>listed.getD i false) y w (by simpa[aW,show i<listed.size by omega] using h1) (fun j hj=>by
    obtain⟨e,he,hw⟩:=jO.1 hj;have hm : e.on=j:=by simpa using hw
    subst hm;exact hL e (lG.1 he)) hb (fun j hj=>by
    obtain⟨e,he,hw⟩:=jO.1 hj;have hm : e.on=j:=by simpa using hw
    subst hm;have hE:=lG.1 he;exact hR e.on (by have:=(d e hE).2;omega) (hL e hE))
   by_cases hwt:Region.wanted o (yielded ops (lay (fun _=>true) y ops.toList 0 a0.tmps))=true
   ·rw[if_pos hwt] at hs;exact nS ho (by rw[f];exact hwt) hu hs fun v w' h=>z v w' h.1 h.2
   rw[if_neg hwt] at hs;unfold wpOp;simp only[ho];rw[if_neg (by rw[f];exact hwt)];exact z undef w hs.1 hs.2
 refine hG ops.size _ _ _ (by simp) ?_ ⟨fun i _ => ?_,fun i o' u hi => ?_,fun _=>undef,?_,?_,?_⟩
 ·simpa using wG (p:=(!·)) (l:=List.replicate ops.size false)
 ·simp[aW,qM];split<;>rfl
 ·exfalso;have:i<ops.size:=(gN.1 u).1;simp[aW,this] at hi
 ·have e:lay (fun i=>(Array.replicate ops.size false).getD i false) (fun _=>undef) ops.toList 0 a0.tmps=a0.tmps:=by apply oO;intro s;exact iB _ _ s _ 0 _ fun k o' hk hd=>by simp[aW,qM];split<;>rfl
  rw[e]
 ·have e:(fun i=>(Array.replicate ops.size false).getD i false)=fun _=>false:=by funext i;simp[aW,qM];split<;>rfl
  rw[e];exact hJ0 _
 intro i hi hL;simp[aW,hi] at hL
def vB (P:Program) (ops:Array Oper) (a0:Act) (J:(Nat→Bool)→(Nat→Value)→World→Prop) (l:List nG) (i:Nat) (o:Oper):Prop:=
 ∀(ρ:Operand→Value) (y:Nat→Value) (w:World) (L:Nat→Bool),(∀t j,writer ops t=some j→ρ (.tmp t)=y j)→(∀x,(match x with | .tmp t=>writer ops t=none | _=>True)→ρ x=a0.eval x) →
  L i=false→(∀j,o.after.toList.any (fun e=>e.on==j)=true→L j=true)→J L y w→(∀j,o.after.toList.any (fun e=>e.on==j)=true→rl l j (y j) w) →
  if Region.wanted o (ik ρ ops)=true then dP P o ρ w (fun v w'=>J (oJ L i) (sZ y i v) w'∧rl l i v w') else J (oJ L i) (sZ y i undef) w∧rl l i undef w
theorem OJ (m:Nat) (l:List nG) (J:(Nat→Bool)→(Nat→Value)→World→Prop) (hst:∀L y w w',Below w.heap.size w w'→J L y w→J L y w') (hJ0:∀y,J (fun _=>false) y w0) (hfix:Fixed l) (hok:jL ops=true) (ht:jd ops m=true) (hmn:m≤ops.size)
 (n:Nat) (hn:a0.tmps.size=n) (hsz:kV ops n=true)
 (hstep:bq (vB P ops a0 J l) 0 (ops.toList.take m))
 (hend:∀y w,J (fun i=>decide (i<m)) y w→(∀i,i<m→rl l i (y i) w)→wpList P ops Q (ops.toList.drop m) { a0 with tmps:=lay (fun i=>decide (i<m)) y ops.toList 0 a0.tmps } w) :
  wpAny P .any ops Q ops.size (Array.replicate ops.size false) a0 w0.drew:=by
 refine FE m hok ht hmn (rl l) J (fun y=>hst _ y w0 w0.drew ⟨rfl,rfl,rfl,az _,fun _ _=>rfl⟩ (hJ0 y)) (fun i v w w' h=>hfix.at i v w w' h) (fun i o u hi L y w hc hf hb hd => ?_) hend;have f:∀t j,writer ops t=some j→({ a0 with tmps:=lay (fun _=>true) y ops.toList 0 a0.tmps }:Act).eval (.tmp t)=y j:=by
  intro t j hw;unfold writer at hw;have h1:=rF hw;have h2:=bV.1 (pV hw);cases ho:ops[j]? with
  | none=>simp[ho] at h1
  | some p=>
   have a : p.dst=some t:=by simpa[ho] using h1
   have s:t<a0.tmps.size:=by have:=cK.1 hsz p (lG.2 (zk ho));rw[hn];simpa[a] using this
   have hu:∀k' o',ops.toList[k']?=some o'→o'.dst=some t→k' = j:=by
    intro k' o' b ha;rcases ((fw hok (i:=k') (o:=o') (by simpa using b)).2.2 j p t ho a).1 with h|h
    ·exact h
    ·exact absurd ha h
   have:=kR (fun _=>true) y t ops.toList 0 a0.tmps j p (by simpa using ho) a rfl hu s;simp[Act.eval,this]
 have r:∀x,(match x with | .tmp t=>writer ops t=none | _=>True)→({ a0 with tmps:=lay (fun _=>true) y ops.toList 0 a0.tmps }:Act).eval x=a0.eval x:=by
  intro x hx;cases x with
  | tmp t=>
   have:(lay (fun _=>true) y ops.toList 0 a0.tmps)[t]?=a0.tmps[t]?:=by
    refine iB _ y t _ 0 _ fun k o' hk a => ?_;exfalso;simp only[writer] at hx;have b : ops[k]?=some o':=by simpa using hk
    have e:k<ops.size:=(gN.1 b).1;have:=qz.1 hx k (bV.2 e);simp[b,a] at this
   simp[Act.eval,this]
  | _=>rfl
 have c:Region.wanted o (yielded ops (lay (fun _=>true) y ops.toList 0 a0.tmps))=Region.wanted o (ik ({ a0 with tmps:=lay (fun _=>true) y ops.toList 0 a0.tmps }:Act).eval ops):=by
  congr 1;funext g;unfold yielded ik;cases (ops[g]?).bind (·.dst) with
  | none=>rfl
  | some d=>
   simp only[xW,Act.eval,aW];generalize (lay (fun _=>true) y ops.toList 0 a0.tmps)[d]?=q;cases q with
   | none=>rfl
   | some v=>cases v<;>rfl
 have z : (ops.toList.take m)[i]?=some o:=by rw[jN,if_pos u];simpa using hi
 have:=bq.at hstep i o z _ y w L f r (by rw[dA];exact hc) hf hb hd;rw[dA] at this;rw[c];exact this
theorem yM {l:List nG} {J:(Nat→Bool)→(Nat→Value)→World→Prop} (hst:∀L y w w',Below w.heap.size w w'→J L y w→J L y w')
 (hpure:∀v w,J L y w→J (oJ L i) (sZ y i v) w) (hJ:J L y w)
 (h:if Region.wanted o (ik ρ ops)=true then dP P o ρ w (fun v w'=>Below w.heap.size w w'∧rl l i v w') else rl l i undef w) :
  if Region.wanted o (ik ρ ops)=true then dP P o ρ w (fun v w'=>J (oJ L i) (sZ y i v) w'∧rl l i v w') else J (oJ L i) (sZ y i undef) w∧rl l i undef w:=by
 split at h
 ·rename_i hw;rw[if_pos hw];unfold dP at h ⊢;split at h
  ·exact⟨hpure _ _ (hst _ _ _ _ h.1 hJ),h.2⟩
  ·exact⟨hpure _ _ (hst _ _ _ _ h.1 hJ),h.2⟩
  ·refine wL h fun e w'' he => ?_;cases e with
   | returned v=>exact⟨hpure _ _ (hst _ _ _ _ he.1 hJ),he.2⟩
   | panicked c=>exact he.elim
   | outgrown=>exact he.elim
  ·exact h.elim
 rename_i hw;rw[if_neg hw];exact⟨hpure _ _ hJ,h⟩
theorem Mj {a:Act} {F G:Value→World→Prop} (h:Gives P o a w F) (hi:∀v w',F v w'→G v w'):Gives P o a w G:=by
 unfold Gives at h ⊢;generalize (execOp a.eval o).run P w=r at h;cases r with
 | ok n w'=>
  cases n<;>first
   | exact hi _ _ h
   | exact wL h fun e w'' he=>by cases e<;>first | exact hi _ _ he | exact he
   | exact h
 | halt x w'=>exact h
theorem TJ {R R' : Nat→Value→Prop} (h:∀k,L k=true→R k (y k)) (hv:R' i v) (hs:∀k v,R k v→R' k v) (k:Nat) (hk:oJ L i k=true):R' k (sZ y i v k):=by
 unfold oJ at hk;unfold sZ
 by_cases e:k=i
 ·rw[if_pos e,e];exact hv
 rw[if_neg e] at hk ⊢;exact hs _ _ (h k hk)
theorem AZ (m:Nat) (hm:P.follows .mixedOrders=true) (hok:jL ops=true) (ht:jd ops m=true) (hmn:m≤ops.size)
 (R:Nat→Value→World→Prop) (hstab:∀i v w w',Below w.heap.size w w'→R i v w→R i v w')
 (hstep:∀i o,i<m→ops[i]?=some o→∀y w,Below w0.heap.size w0 w→(∀j,o.after.toList.any (fun e=>e.on==j)=true→R j (y j) w) →
 if Region.wanted o (yielded ops (lay (fun _=>true) y ops.toList 0 a0.tmps))=true then Gives P o { a0 with tmps:=lay (fun _=>true) y ops.toList 0 a0.tmps } w (fun v w'=>Below w.heap.size w w'∧R i v w') else R i undef w)
 (hend:∀y w,Below w0.heap.size w0 w→(∀i,i<m→R i (y i) w)→wpList P ops Q (ops.toList.drop m) { a0 with tmps:=lay (fun i=>decide (i<m)) y ops.toList 0 a0.tmps } w) :
  (Code.region id ops true).wp P Q a0 w0:=
 wp_region_any hm (FE m hok ht hmn (fun _ _ _=>True) (fun L y w=>Below w0.heap.size w0 w∧∀i,L i=true→R i (y i) w) (fun y=>⟨⟨rfl,rfl,rfl,az _,fun _ _=>rfl⟩,fun i h=>(by cases h)⟩) (fun _ _ _ _ _=>trivial) (fun i o hi ho L y w hL hd hJ _=>by
  have h:=hstep i o hi ho y w hJ.1 (fun j hj=>hJ.2 j (hd j hj));have hup:∀v w',Below w.heap.size w w'→R i v w'→Below w0.heap.size w0 w'∧∀k,oJ L i k=true→R k (sZ y i v k) w':=fun v w' hb hr=>⟨ah hJ.1 hb,fun k hk=>TJ hJ.2 hr (fun k v h=>hstab k v _ _ hb h) k hk⟩;split at h
  ·rename_i hw;rw[if_pos hw];exact Mj h fun v w' hh=>⟨hup v w' hh.1 hh.2,trivial⟩
  rename_i hw;rw[if_neg hw];exact⟨hup undef w (Below.refl _ _) h,trivial⟩) (fun y w hJ _=>hend y w hJ.1 fun i hi=>hJ.2 i (decide_eq_true hi)))
theorem Qb (m:Nat) (l:List nG) (hm:P.follows .mixedOrders=true) (hok:jL ops=true) (ht:jd ops m=true) (hmn:m≤ops.size)
 (n:Nat) (hn:a0.tmps.size=n) (hsz:kV ops n=true)
 (hstep:bq (nE P ops a0 w0 l) 0 (ops.toList.take m))
 (hend:∀y w,Below w0.heap.size w0 w→(∀i,i<m→rl l i (y i) w)→wpList P ops Q (ops.toList.drop m) { a0 with tmps:=lay (fun i=>decide (i<m)) y ops.toList 0 a0.tmps } w) :
  (Code.region id ops true).wp P Q a0 w0:=by
 refine AZ m hm hok ht hmn (rl l) (fun i v w w' hb h=>(l.getD i anyR).st v w w' hb h) (fun i o u hi y w hb hd => ?_) hend;have f:∀t j,writer ops t=some j→({ a0 with tmps:=lay (fun _=>true) y ops.toList 0 a0.tmps }:Act).eval (.tmp t)=y j:=by
  intro t j hw;unfold writer at hw;have h1:=rF hw;have h2:=bV.1 (pV hw);cases ho:ops[j]? with
  | none=>simp[ho] at h1
  | some p=>
   have a : p.dst=some t:=by simpa[ho] using h1
   have s:t<a0.tmps.size:=by have:=cK.1 hsz p (lG.2 (zk ho));rw[hn];simpa[a] using this
   have hu:∀k' o',ops.toList[k']?=some o'→o'.dst=some t→k' = j:=by
    intro k' o' b ha;rcases ((fw hok (i:=k') (o:=o') (by simpa using b)).2.2 j p t ho a).1 with h|h
    ·exact h
    ·exact absurd ha h
   have:=kR (fun _=>true) y t ops.toList 0 a0.tmps j p (by simpa using ho) a rfl hu s;simp[Act.eval,this]
 have r:∀x,(match x with | .tmp t=>writer ops t=none | _=>True)→({ a0 with tmps:=lay (fun _=>true) y ops.toList 0 a0.tmps }:Act).eval x=a0.eval x:=by
  intro x hx;cases x with
  | tmp t=>
   have:(lay (fun _=>true) y ops.toList 0 a0.tmps)[t]?=a0.tmps[t]?:=by
    refine iB _ y t _ 0 _ fun k o' hk a => ?_;exfalso;simp only[writer] at hx;have b : ops[k]?=some o':=by simpa using hk
    have e:k<ops.size:=(gN.1 b).1;have:=qz.1 hx k (bV.2 e);simp[b,a] at this
   simp[Act.eval,this]
  | _=>rfl
 have c:Region.wanted o (yielded ops (lay (fun _=>true) y ops.toList 0 a0.tmps))=Region.wanted o (ik ({ a0 with tmps:=lay (fun _=>true) y ops.toList 0 a0.tmps }:Act).eval ops):=by
  congr 1;funext g;unfold yielded ik;cases (ops[g]?).bind (·.dst) with
  | none=>rfl
  | some d=>
   simp only[xW,Act.eval,aW];generalize (lay (fun _=>true) y ops.toList 0 a0.tmps)[d]?=q;cases q with
   | none=>rfl
   | some v=>cases v<;>rfl
 have z : (ops.toList.take m)[i]?=some o:=by rw[jN,if_pos u];simpa using hi
 have:=bq.at hstep i o z _ y w f r hb hd;rw[dA] at this;rw[c];exact this
inductive RV where
 | v (V:Value)
 | r (i:Nat) (R:nG)
def RV.R:RV→nG
 | .v V=>gI V
 | .r _ R=>R
def rvs:List RV→List nG
 | []=>[]
 | a::l=>a.R::rvs l
def rvN:RV:=.r 0 anyR
theorem rvs_at:∀(l:List RV) (i:Nat),(rvs l).getD i anyR=(l.getD i rvN).R
 | [],_=>rfl
 | _::_,0=>rfl
 | _::l,i+1=>by have:=rvs_at l i;simpa[rvs] using this
theorem JW {l:List RV} (hr:l.getD i rvN = .v V) (e:v=V):rl (rvs l) i v w:=by
 unfold rl;rw[rvs_at,hr];exact e
def rvK:List RV→Nat→Option Value
 | .v V::_,0=>some V
 | _::l,k+1=>rvK l k
 | _,_=>none
theorem rvK_at:∀ {l:List RV} {k:Nat} {V:Value},rvK l k=some V→l.getD k rvN = .v V
 | .v V::_,0,_,h=>by cases h;rfl
 | .v _::l,k+1,_,h=>by simpa using rvK_at (l:=l) (k:=k) h
 | .r _ _::l,k+1,_,h=>by simpa using rvK_at (l:=l) (k:=k) h
 | .r _ _::_,0,_,h=>by cases h
 | [],0,_,h=>by cases h
 | [],_+1,_,h=>by cases h
def kt (ops:Array Oper) (a0:Act) (l:List RV) (o:Oper) (t:Nat):Option Value:=
 match writer ops t with
 | some k=>cond (o.after.toList.any fun e=>e.on==k) (rvK l k) none
 | none=>a0.tmps.toList[t]?
def kx (ops:Array Oper) (a0:Act) (l:List RV) (o:Oper):Operand→Option Value
 | .tmp t=>kt ops a0 l o t
 | .const v=>some v
 | .func f=>some (.func (.func f) #[] #[])
 | .global g=>some (.pointer (some ⟨g,0,none⟩))
def kg (ops:Array Oper) (a0:Act) (l:List RV) (o:Oper):Option Bool:=
 match o.guard with
 | none=>some true
 | some (g,want)=>match (ops[g]?).bind (·.dst) with
  | none=>none
  | some d=>match kt ops a0 l o d with
   | some (.bool b)=>some (b==want)
   | some (.tuple _)=>some false
   | _=>none
def Xb (ops:Array Oper) (a0:Act) (l:List RV) (o:Oper):Option Value:=
 match o.op with
 | .move x=>kx ops a0 l o x
 | .assign x=>kx ops a0 l o x
 | .nilCheck x=>match kx ops a0 l o x with
  | some (.pointer (some a))=>some (.pointer (some a))
  | _=>none
 | .unOp .not _ x=>match kx ops a0 l o x with
  | some (.bool true)=>some (.bool false)
  | some (.bool false)=>some (.bool true)
  | _=>none
 | .pick c x y=>match kx ops a0 l o c with
  | some (.bool true)=>kx ops a0 l o x
  | some (.bool false)=>kx ops a0 l o y
  | _=>none
 | _=>none
def ks (ops:Array Oper) (a0:Act) (l:List RV) (o:Oper):Option Value:=
 match kg ops a0 l o with
 | some true=>Xb ops a0 l o
 | some false=>some undef
 | none=>none
section
variable {P:Program} {ops:Array Oper} {a0:Act} {w0:World} {l:List RV} {i:Nat} {o:Oper}
def Kn (ops:Array Oper) (a0:Act) (l:List RV) (o:Oper) (ρ:Operand→Value) (y:Nat→Value) (w:World):Prop:=
 (∀t j,writer ops t=some j→ρ (.tmp t)=y j)∧(∀x,(match x with | .tmp t=>writer ops t=none | _=>True)→ρ x=a0.eval x)∧∀j,o.after.toList.any (fun e=>e.on==j)=true→rl (rvs l) j (y j) w
theorem UU {t:Nat} (h:kt ops a0 l o t=some v) (hk:Kn ops a0 l o ρ y w):ρ (.tmp t)=v:=by
 unfold kt at h;cases hw:writer ops t with
 | none=>
  rw[hw] at h;have h' : a0.tmps.toList[t]?=some v:=h;rw[hk.2.1 (.tmp t) hw];simp only[oP] at h';simp[Act.eval,h']
 | some k=>
  rw[hw] at h;have h' : cond (o.after.toList.any fun e=>e.on==k) (rvK l k) none=some v:=h;cases ha:o.after.toList.any fun e=>e.on==k with
  | false=>rw[ha] at h'; cases h'
  | true=>
   rw[ha] at h';have h1:=hk.2.2 k ha;unfold rl at h1;rw[rvs_at,rvK_at h'] at h1;exact (hk.1 t k hw).trans h1
theorem aU (h:kx ops a0 l o x=some v) (hk:Kn ops a0 l o ρ y w):ρ x=v:=by
 cases x with
 | tmp t=>exact UU h hk
 | const c=>rw[hk.2.1 (.const c) trivial];cases h;rfl
 | func f=>rw[hk.2.1 (.func f) trivial];cases h;rfl
 | global g=>rw[hk.2.1 (.global g) trivial];cases h;rfl
theorem Ec {b:Bool} (h:kg ops a0 l o=some b) (hk:Kn ops a0 l o ρ y w):Region.wanted o (ik ρ ops)=b:=by
 unfold kg at h;unfold Region.wanted;cases hg:o.guard with
 | none=>rw[hg] at h;cases h;rfl
 | some q=>
  obtain⟨g,want⟩:=q;rw[hg] at h;simp only at h;cases hd:(ops[g]?).bind (·.dst) with
  | none=>rw[hd] at h;cases h
  | some d=>
   rw[hd] at h;simp only at h;cases hv:kt ops a0 l o d with
   | none=>rw[hv] at h;cases h
   | some v=>
    rw[hv] at h;have e:=UU hv hk;unfold ik;simp only[hd,e];cases v with
    | bool c=>cases h;cases c<;>cases want<;>rfl
    | tuple c=>cases h;rfl
    | _=>cases h
def Al (P:Program) (ops:Array Oper) (a0:Act) (l:List RV) (i:Nat) (o:Oper):Prop:=
 ∀(ρ:Operand→Value) (y:Nat→Value) (w:World),Kn ops a0 l o ρ y w→(Region.wanted o (ik ρ ops)=false∧rl (rvs l) i undef w)∨(Region.wanted o (ik ρ ops)=true∧∃v,(execOp ρ o).run P w = .ok (.value v) w∧rl (rvs l) i v w)
theorem Al.run (hg:kg ops a0 l o=some true) (hr:l.getD i rvN = .v V) (h:∀ρ y w,Kn ops a0 l o ρ y w→(execOp ρ o).run P w = .ok (.value V) w):Al P ops a0 l i o:=fun ρ y w hk => .inr ⟨Ec hg hk,V,h ρ y w hk,JW hr rfl⟩
theorem Vd (h:ks ops a0 l o=some V) (hr:l.getD i rvN = .v V):Al P ops a0 l i o:=by
 unfold ks at h;cases hg:kg ops a0 l o with
 | none=>rw[hg] at h;cases h
 | some b=>
  rw[hg] at h;cases b with
  | false=>
   cases h;exact fun ρ y w hk => .inl ⟨Ec hg hk,JW hr rfl⟩
  | true=>
   have h' : Xb ops a0 l o=some V:=h;refine Al.run hg hr fun ρ y w hk => ?_;unfold Xb at h';split at h'
   ·rename_i x ho;exact run_move (.inl ho) (aU h' hk)
   ·rename_i x ho;exact run_move (.inr ho) (aU h' hk)
   ·rename_i x ho;split at h'
    ·rename_i a hx;cases h';have e:=aU hx hk;simp[execOp,go_sem,ho,e]
    ·cases h'
   ·rename_i t x ho;split at h'
    ·rename_i hx;cases h'; exact Bf ho (aU hx hk)
    ·rename_i hx;cases h'; exact Bf ho (aU hx hk)
    ·cases h'
   ·rename_i c x y' ho;split at h'
    ·rename_i hc;exact IE ho (aU hc hk) (aU h' hk)
    ·rename_i hc;exact IE ho (aU hc hk) (aU h' hk)
    ·cases h'
   ·cases h'
theorem Al.asked (h:Al P ops a0 l i o):nE P ops a0 w0 (rvs l) i o:=fun ρ y w hw hn _ hd=>by
 rcases h ρ y w ⟨hw,hn,hd⟩ with ⟨h1,h2⟩|⟨h1,v,h2,h3⟩
 ·exact Dx h1 h2
 ·exact ak v h1 h2 h3
theorem Al.askedQ {J:(Nat→Bool)→(Nat→Value)→World→Prop} (hst:∀L y w w',Below w.heap.size w w'→J L y w→J L y w') (hp:∀L y v w,(∀j,o.after.toList.any (fun e=>e.on==j)=true→L j=true)→J L y w→J (oJ L i) (sZ y i v) w) (h:Al P ops a0 l i o):vB P ops a0 J (rvs l) i o:=fun ρ y w L hw hn _ hLd hJ hd=>by
 rcases h ρ y w ⟨hw,hn,hd⟩ with ⟨h1,h2⟩|⟨h1,v,h2,h3⟩
 ·exact yM hst (fun v w=>hp L y v w hLd) hJ (Dx h1 h2)
 ·exact yM hst (fun v w=>hp L y v w hLd) hJ (ak v h1 h2 h3)
variable {C:Nat→Oper→Prop} {r:List Oper}
theorem RU (hC:Al P ops a0 l i o→C i o) (h:(ks ops a0 l o).map RV.v=some (l.getD i rvN)) (hl:bq C (i+1) r):bq C i (o::r):=⟨hC (by
 cases hk:ks ops a0 l o with
 | none=>rw[hk] at h;cases h
 | some V=>
  rw[hk] at h;exact Vd hk (aS h).symm),hl⟩
theorem Gk (h:(ks ops a0 l o).map RV.v=some (l.getD i rvN)) (hl:bq (nE P ops a0 w0 (rvs l)) (i+1) r):bq (nE P ops a0 w0 (rvs l)) i (o::r):=RU Al.asked h hl
def Wi (ops:Array Oper) (a0:Act) (l:List RV) (o:Oper):Option (TypeId × Value × Nat):=
 match kg ops a0 l o with
 | some true=>match o.op with
  | .fieldAddr t x f=>(kx ops a0 l o x).map fun v=>(t,v,f)
  | _=>none
 | _=>none
theorem Mc (hC:Al P ops a0 l i o→C i o) (b k:Nat) (h:Wi ops a0 l o=some (t,v,f)) (hr:l.getD i rvN = .v (.pointer (some ⟨b,k,none⟩))) (hl:bq C (i+1) r) (hf:∀w,(Instr.fieldAt t v f).run P w = .ok (.pointer (some ⟨b,k,none⟩)) w:=by intro _;kernel_rfl):bq C i (o::r):=by
 refine⟨hC ?_,hl⟩;unfold Wi at h;split at h
 ·rename_i hg;split at h
  ·rename_i t' x f' ho;cases hx:kx ops a0 l o x with
   | none=>rw[hx] at h;cases h
   | some v'=>
    rw[hx] at h;cases h;exact Al.run hg hr fun ρ y w hk=>Em ho (aU hx hk) (hf w)
  ·cases h
 ·cases h
theorem Gf (b k:Nat) (h:Wi ops a0 l o=some (t,v,f)) (hr:l.getD i rvN = .v (.pointer (some ⟨b,k,none⟩))) (hl:bq (nE P ops a0 w0 (rvs l)) (i+1) r) (hf:∀w,(Instr.fieldAt t v f).run P w = .ok (.pointer (some ⟨b,k,none⟩)) w:=by intro _;kernel_rfl):bq (nE P ops a0 w0 (rvs l)) i (o::r):=Mc Al.asked b k h hr hl hf
theorem Vm (hC:Al P ops a0 l i o→C i o) {n:Nat} (hg:kg ops a0 l o=some true) (ho:o.op = .call { callee:=.builtin .len,args:=#[x],argTypes:=#[t] }) (hx:kx ops a0 l o x=some (.slice a n c)) (hr:l.getD i rvN = .v (.int .i64 n)) (hl:bq C (i+1) r) (ht:P.underlying t=some (.slice (P.elem t)):=by rfl):bq C i (o::r):=
 ⟨hC (Al.run hg hr fun ρ y w hk=>Ke ho (aU hx hk) ht),hl⟩
theorem Gn {n:Nat} (hg:kg ops a0 l o=some true) (ho:o.op = .call { callee:=.builtin .len,args:=#[x],argTypes:=#[t] }) (hx:kx ops a0 l o x=some (.slice a n c)) (hr:l.getD i rvN = .v (.int .i64 n)) (hl:bq (nE P ops a0 w0 (rvs l)) (i+1) r) (ht:P.underlying t=some (.slice (P.elem t)):=by rfl):bq (nE P ops a0 w0 (rvs l)) i (o::r):=Vm Al.asked hg ho hx hr hl ht
theorem VQ (hC:Al P ops a0 l i o→C i o) (V:Value) {op:BinOp} {y:Operand} (hr:∀w,(do eqGuard op t x y vx vy;binOp op t vx vy:Sem Value).run P w = .ok V w) (hg:kg ops a0 l o=some true) (ho:o.op = .binOp op t x y t') (hx:kx ops a0 l o x=some vx) (hy:kx ops a0 l o y=some vy) (hv:l.getD i rvN = .v V) (hl:bq C (i+1) r):bq C i (o::r):=
 ⟨hC (Al.run hg hv fun ρ y w hk=>Nj ho (aU hx hk) (aU hy hk) (hr w)),hl⟩
theorem Gb (V:Value) {op:BinOp} {y:Operand} (hr:∀w,(do eqGuard op t x y vx vy;binOp op t vx vy:Sem Value).run P w = .ok V w) (hg:kg ops a0 l o=some true) (ho:o.op = .binOp op t x y t') (hx:kx ops a0 l o x=some vx) (hy:kx ops a0 l o y=some vy) (hv:l.getD i rvN = .v V) (hl:bq (nE P ops a0 w0 (rvs l)) (i+1) r):bq (nE P ops a0 w0 (rvs l)) i (o::r):=VQ Al.asked V hr hg ho hx hy hv hl
section
variable {J:(Nat→Bool)→(Nat→Value)→World→Prop}
theorem Qk (hst:∀L y w w',Below w.heap.size w w'→J L y w→J L y w') (h:(ks ops a0 l o).map RV.v=some (l.getD i rvN)) (hl:bq (vB P ops a0 J (rvs l)) (i+1) r) (hp:∀L y v w,(∀j,o.after.toList.any (fun e=>e.on==j)=true→L j=true)→J L y w→J (oJ L i) (sZ y i v) w:=by intro _ _ _ _ _ h;exact h):bq (vB P ops a0 J (rvs l)) i (o::r):=RU (Al.askedQ hst hp) h hl
theorem Qf (hst:∀L y w w',Below w.heap.size w w'→J L y w→J L y w') (b k:Nat) (h:Wi ops a0 l o=some (t,v,f)) (hr:l.getD i rvN = .v (.pointer (some ⟨b,k,none⟩))) (hl:bq (vB P ops a0 J (rvs l)) (i+1) r) (hp:∀L y v w,(∀j,o.after.toList.any (fun e=>e.on==j)=true→L j=true)→J L y w→J (oJ L i) (sZ y i v) w:=by intro _ _ _ _ _ h;exact h) (hf:∀w,(Instr.fieldAt t v f).run P w = .ok (.pointer (some ⟨b,k,none⟩)) w:=by intro _;kernel_rfl):bq (vB P ops a0 J (rvs l)) i (o::r):=Mc (Al.askedQ hst hp) b k h hr hl hf
end
theorem Gr (V:Value) (h:∀ρ y w,Below w0.heap.size w0 w→Kn ops a0 l o ρ y w→(execOp ρ o).run P w = .ok (.value V) w) (hg:kg ops a0 l o=some true) (hv:l.getD i rvN = .v V) (hl:bq (nE P ops a0 w0 (rvs l)) (i+1) r):bq (nE P ops a0 w0 (rvs l)) i (o::r):=
 ⟨fun ρ y w hw hn hb hd=>ak V (Ec hg ⟨hw,hn,hd⟩) (h ρ y w hb ⟨hw,hn,hd⟩) (JW hv rfl),hl⟩
def WB (P:Program) (t:TypeId):Bool:=match P.underlying t with
 | some (.struct _)=>false
 | some (.array _ _)=>false
 | some _=>true
 | none=>false
theorem qA (hs:WB P t=true) (hc:w.cell? ⟨b,k,none⟩=some V):(loadVar t ⟨b,k,none⟩).run P w = .ok V w:=by
 unfold WB at hs;cases hu:P.underlying t with
 | none=>rw[hu] at hs;cases hs
 | some d=>
  have ha:(isAgg t).run P w = .ok false w:=by unfold isAgg;rw[jZ,run_underlying hu w];rw[hu] at hs;cases d<;>first | rfl | cases hs
  simp[loadVar,jZ,ha,go_sem,hc]
theorem Gl (hb:aJ w0 b cs T) (hv:cs.toList[k]?=some V) (hg:kg ops a0 l o=some true) (ho:o.op = .load t x) (hx:kx ops a0 l o x=some (.pointer (some ⟨b,k,none⟩))) (hr:l.getD i rvN = .v V) (hl:bq (nE P ops a0 w0 (rvs l)) (i+1) r) (hs:WB P t=true:=by kernel_rfl):bq (nE P ops a0 w0 (rvs l)) i (o::r):=by
 refine⟨fun ρ y w hw hn hB hd=>ak V (Ec hg ⟨hw,hn,hd⟩) ?_ (JW hr rfl),hl⟩;have e:ρ x=_:=aU hx ⟨hw,hn,hd⟩;have hc:w.cell? ⟨b,k,none⟩=some V:=by rw[(hb.ext hB).cell,←oP];exact hv
 refine run_load ho e ?_;simp only[Instr.loadAt,Instr.sureAddr,jZ,pu,oZ,qA hs hc]
theorem Gc (V:Value) (hc:∀w,Below w0.heap.size w0 w→w.cell? ⟨b,k,none⟩=some V) (hg:kg ops a0 l o=some true) (ho:o.op = .load t x) (hx:kx ops a0 l o x=some (.pointer (some ⟨b,k,none⟩))) (hr:l.getD i rvN = .v V) (hl:bq (nE P ops a0 w0 (rvs l)) (i+1) r) (hs:WB P t=true:=by kernel_rfl):bq (nE P ops a0 w0 (rvs l)) i (o::r):=by
 refine⟨fun ρ y w hw hn hB hd=>ak V (Ec hg ⟨hw,hn,hd⟩) ?_ (JW hr rfl),hl⟩;have e:ρ x=_:=aU hx ⟨hw,hn,hd⟩;refine run_load ho e ?_;simp only[Instr.loadAt,Instr.sureAddr,jZ,pu,oZ,qA hs (hc w hB)]
def revC:List Value→List Value→(List Value→Option (List Value))→Option (List Value)
 | [],r,k=>k r
 | a::l,r,k=>revC l (a::r) k
def ptC:List Value→Nat→Value→List Value→(List Value→Option (List Value))→Option (List Value)
 | [],_,_,acc,k=>revC acc [] k
 | _::l,0,v,acc,k=>revC acc (v::l) k
 | a::l,n+1,v,acc,k=>ptC l n v (a::acc) k
def zn (y:Nat→Value):List RV→List Oper→List Value→Option (List Value)
 | .v V::l,o::r,t=>match o.dst with
  | some d=>ptC t d V [] fun t'=>zn y l r t'
  | none=>zn y l r t
 | .r j _::l,o::r,t=>match o.dst with
  | some d=>ptC t d (y j) [] fun t'=>zn y l r t'
  | none=>zn y l r t
 | _,_,t=>some t
def idxOk:List RV→Nat→Bool
 | [],_=>true
 | .v _::l,i=>idxOk l (i+1)
 | .r j _::l,i=>(j==i)&&idxOk l (i+1)
theorem Gi (k:List Value→Option (List Value)):∀(a r:List Value),revC a r k=k (a.reverse++r)
 | [],r=>rfl
 | x::a,r=>by rw[revC,Gi k a];simp
theorem LB (k:List Value→Option (List Value)):∀(t:List Value) (n:Nat) (v:Value) (acc:List Value),ptC t n v acc k=k (acc.reverse++t.set n v)
 | [],n,v,acc=>by simp[ptC,Gi]
 | x::t,0,v,acc=>by simp[ptC,Gi]
 | x::t,n+1,v,acc=>by rw[ptC,LB k t];simp
theorem yz {y:Nat→Value} {w:World} {m:Nat}:∀(l:List RV) (r:List Oper) (k:Nat) (t:Array Value),idxOk l k=true→m=k+l.length→l.length≤r.length→(∀i,i<l.length→rl (rvs l) i (y (k+i)) w) →
  zn y l r t.toList=some (lay (fun i=>decide (i<m)) y r k t).toList
 | [],r,k,t,_,hm,_,_=>by
  have:zn y [] r t.toList=some t.toList:=by cases r<;>rfl
  rw[this];simp only[wu,kU] at hm;subst hm;have c:∀(r:List Oper) (j:Nat) (t:Array Value),m≤j→lay (fun i=>decide (i<m)) y r j t=t:=by
   intro r
   induction r with
   | nil=>intro j t _;rfl
   | cons o r ih=>
    intro j t hj;simp only[lay];rw[ih (j+1) _ (by omega)];cases o.dst with
    | none=>rfl
    | some d=>simp[show ¬j<m by omega]
  rw[c r m t (az _)]
 | a::l,[],k,t,_,_,hle,_=>by simp at hle
 | a::l,o::r,k,t,hi,hm,hle,hR=>by
  have hk:k<m:=by simp at hm;omega
  have b:∀i,i<l.length→rl (rvs l) i (y (k+1+i)) w:=fun i hl=>by have:=hR (i+1) (by simp;omega);rw[show k+1+i=k+(i+1) by omega];unfold rl at this ⊢;simpa[rvs] using this
  cases a with
  | v V=>
   have h0:y k=V:=by have:=hR 0 (by simp);exact this
   have ih:=fun t'=>yz (m:=m) (w:=w) l r (k+1) t' hi (by rw[nz] at hm;omega) (by simpa using hle) b;cases ho:o.dst with
   | none=>simp only[lay,ho,hk,decide_true,if_true,zn,ih]
   | some d=>
    simp only[lay,ho,hk,decide_true,if_true,zn,LB,h0,List.reverse_nil,List.nil_append];rw[←ih (t.setIfInBounds d V),yu]
  | r j R=>
   have hj:j=k∧idxOk l (k+1)=true:=by have h' : ((j==k)&&idxOk l (k+1))=true:=hi;simpa using h'
   obtain⟨rfl,e⟩:=hj;have ih:=fun t'=>yz (m:=m) (w:=w) l r (j+1) t' e (by rw[nz] at hm;omega) (by simpa using hle) b;cases ho:o.dst with
   | none=>simp only[lay,ho,hk,decide_true,if_true,zn,ih]
   | some d=>
    simp only[lay,ho,hk,decide_true,if_true,zn,LB,List.reverse_nil,List.nil_append];rw[←ih (t.setIfInBounds d (y j)),yu]
end
theorem aP {df:List Deferred} (m:Nat) (l:List RV)
 (hstep:bq (nE P ops ⟨t0,df⟩ w0 (rvs l)) 0 (ops.toList.take m)) {tm:(Nat→Value)→List Value} (hf:∀y,zn y l ops.toList t0.toList=some (tm y)) (hd:wr (ops.toList.drop m)=some rest)
 (hend:∀y w,Below w0.heap.size w0 w→(∀i,i<m→rl (rvs l) i (y i) w)→wpList P ops Q rest ⟨(tm y).toArray,df⟩ w)
 (hm:P.follows .mixedOrders=true:=by kernel_rfl) (hok:jL ops=true:=by kernel_rfl) (ht:jd ops m=true:=by kernel_rfl) (hmn:m≤ops.size:=by decide) (hll:l.length=m:=by rfl) (hix:idxOk l 0=true:=by kernel_rfl)
 (hsz:kV ops t0.size=true:=by kernel_rfl):(Code.region id ops true).wp P Q ⟨t0,df⟩ w0:=by
 refine Qb m (rvs l) hm hok ht hmn _ rfl hsz hstep fun y w hb hR => ?_;have h:=hend y w hb hR;rw[Rq hd];have e:=yz (m:=m) (y:=y) (w:=w) l ops.toList 0 t0 hix (by omega) (by simp;omega) fun i hi=>by rw[dA];exact hR i (by omega)
 show wpList P ops Q rest ⟨lay (fun i=>decide (i<m)) y ops.toList 0 t0,df⟩ w;have e2:=aS (e.symm.trans (hf y));have e3:lay (fun i=>decide (i<m)) y ops.toList 0 t0=(tm y).toArray:=by rw[←e2]
 rw[e3];exact h
theorem Ob {m:Nat} {l:List RV} (hix:idxOk l 0=true) (hll:l.length=m) (hmn:m≤ops.size) (hR:∀i,i<m→rl (rvs l) i (y i) w) (hf:zn y l ops.toList t0.toList=some tm):lay (fun i=>decide (i<m)) y ops.toList 0 t0=tm.toArray:=by
 have e:=yz (m:=m) (y:=y) (w:=w) l ops.toList 0 t0 hix (by omega) (by simp;omega) fun i hi=>by rw[dA];exact hR i (by omega)
 have e2:=aS (e.symm.trans hf);rw[←e2]
open Go.ChangeShapes Go.WideShapes Go.ChangeAt
end Pw
namespace Go.Proofs.YtpaeabelhnnbiaaGreat
open Go.ChangeShapes Go.WideShapes Go.ChangeAt Go.RowKit Go.Maps Pw
variable {B B' b cap g n' off sz sz':Nat} {P:Program} {T T' e:TypeId} {cs cs':Array Value} {v v':Value} {vs xs xs':List Value} {w w':World}
theorem rO {n:Nat} (h:Own w B e sz v n xs) (g:Nat) (hg:v.ownBlock=some g):∃cs,aJ w g cs e:=by
 rcases h.2 with ⟨rfl,_⟩|⟨g2,off,cap,cur,rfl,_,hb,_⟩
 ·cases hg
 cases hg;exact⟨_,hb⟩
theorem oC {n:Nat} (h:aJ w b cs T) (ho:Own w B e sz v n xs) (hT:T≠e) (hg:w.grownBy w' v.ownBlock):aJ w' b cs T:=
 h.grown hg (fun he=>own_ne ho h hT b he rfl)
theorem yA {e':TypeId} {n:Nat} (h:Own w B e sz v n xs) (ho:Own w B' e' sz' v' n' xs') (hT:e'≠e) (hg:w.grownBy w' v'.ownBlock):Own w' B e sz v n xs:=
 h.grown hg (fun g hv he=>by obtain⟨cs,hk⟩:=rO ho g he;exact own_ne h hk hT g hv rfl)
theorem uN {n:Nat} (h:Own w B e sz v n xs) (hk:aJ w g cs T) (hT:T≠e) (o:Nat) (u:Value):Own (w.setCell ⟨g,o,none⟩ u) B e sz v n xs:=
 ay h hk hT (aA w g o [u])
theorem aG (h:aJ w b cs T) (hk:aJ w g cs' T') (hT:T'≠T) (hgr:w.grownBy w' (some g)):aJ w' b cs T:=
 h.grown hgr (fun he=>by cases he;unfold aJ at h hk;rw[hk] at h;simp only[gY,pM] at h;exact hT h.2.1)
theorem pE (a b:Option Addr) (n c m e:Nat):(#[Value.slice a n c,Value.slice b m e]:Array Value).all (·.oneCell')=true:=by simp[Value.oneCell']
theorem oM {α:Type} {enc:α→List Value} (hsz:∀x,(enc x).length=sz) (hp:0<sz) {n:Nat} {l:List α} (hl:l.length=n) (h:Own w B e sz v n (l.flatMap enc)) (k:Nat) (hk:k<n) :
  ∃g off cap cur,v = .slice (some ⟨g,off,none⟩) n cap∧B≤g∧aJ w g cur e∧off+k*sz+sz≤cur.size ∧
   ∀w' x,aJ w' g (dF cur (off+k*sz) (enc x)) e→Own w' B e sz v n ((l.set k x).flatMap enc):=by
 subst hl;obtain⟨g,off,cap,cur,h1,h2,h3,h4,_,h6⟩:=h.put hsz hp k hk;exact⟨g,off,cap,cur,h1,h2,h3,h4,h6⟩
theorem jw {a b c:World} {row:Option Nat} (h:a.grownBy b row) (k:b.grownBy c row):a.grownBy c row:=
 World.grownBy.andThen h k (fun j hj => .inr hj)
theorem jr {n:Nat} (h:Own w B e sz v n xs) (hg:w.grownBy w' none):Own w' B e sz v n xs:=h.grown hg (by simp)
theorem sH (w:World) (t e ty:TypeId) (z:Value) (sz bytes:Nat) (ht:P.underlying t=some (.slice e)) (hi:(P.info? e).map (fun i=>(i.zero,i.size,i.bytes))=some (some z,sz,bytes)) (h1:∀u∈z.cells.toList,u.oneCell' = true) (h0:0<z.cells.size)
 (b o n c:Nat) (hn:0<n) (cur:Array Value) (T:TypeId) (hg:aJ w b cur T) (hfit:o+n*z.cells.size≤cur.size) :
  (Builtin.clear_ #[t] ty #[.slice (some ⟨b,o,none⟩) n c]).run P w = .ok (.tuple #[]) (w.setCells b o (Builtin.zeroCells z.cells n).toList):=by
 have hl:(Builtin.zeroCells z.cells n).toList.length=n*z.cells.size:=by simp[Builtin.zeroCells]
 have a:=run_storeCells_cells (P:=P) b o (Builtin.zeroCells z.cells n).toList 0 w
  (fun j hj=>by rw[kU,hg.cell];simp[show o+j<cur.size by omega]) (fun j hj=>hg.free _)
  (fun v hv=>by simp only[Builtin.zeroCells,Array.toList_map,eD] at hv;obtain⟨i,_,rfl⟩:=hv;have:i%z.cells.size<z.cells.size:=uj _ h0;rw[getElem!_pos z.cells _ this];exact h1 _ (by simp))
 simp only[kU] at a;obtain⟨m,rfl⟩:∃m,n=m+1:=⟨n-1,by omega⟩;have hv:∀w,(zeroValue e).run P w = .ok z w:=by
  intro w;cases hq:P.info? e with
  | none=>simp[hq] at hi
  | some i=>
   have hz:i.zero=some z:=by simp[hq] at hi;exact hi.1
   simp[zeroValue,typeInfo,run_program,hq,hz]
 simp[Builtin.clear_,run_underlying ht,hv,a]
theorem Pf {α:Type} {enc:α→List Value} (hsz:∀x,(enc x).length=sz) {l:List α} {n:Nat} (h:Own w B e sz (.slice (some ⟨g,off,none⟩) n cap) n (l.flatMap enc)) (i:Nat) (hl:l.length=n) (hi:i≤n)
 (hw:∀cur,aJ w g cur e→aJ w' g (dF cur (off+i*sz) vs) e):Own w' B e sz (.slice (some ⟨g,off,none⟩) (l.take i).length cap) (l.take i).length ((l.take i).flatMap enc):=by
 subst hl;obtain⟨hl,h⟩:=h;rcases h with ⟨h1,_⟩|⟨g',off',cap',cur,hv,hB,hg,hc,hm,hs,ht⟩
 ·cases h1
 cases hv;have b:(l.take i).length=i:=by simp;omega
 refine⟨by rw[Pw.flat_len enc sz hsz],.inr ⟨g,off,cap,_,rfl,hB,hw cur hg,by omega,hm,by rw[size_putAt];exact hs,fun j u hj => ?_⟩⟩;have c : j<i*sz:=by
  rcases fM j (i*sz) with h|h
  ·exact h
  rw[fo (by rw[Pw.flat_len enc sz hsz,b];exact h)] at hj;cases hj
 rw[putAt_out _ _ _ _ (.inl (by omega))];refine ht j u ?_;have a:l.flatMap enc=(l.take i).flatMap enc++(l.drop i).flatMap enc:=by rw[←gK,pR]
 rw[a,il (by rw[Pw.flat_len enc sz hsz,b];exact c)];exact hj
theorem vS {α:Type} {enc:α→List Value} (hsz:∀x,(enc x).length=sz) (hp:0<sz) {n:Nat} {l:List α} (hl:l.length=n) (h:Own w B e sz v n (l.flatMap enc)) (k:Nat) (hk:k<n) (j:Nat) (hj:j<sz) (u:Value) (x:α)
 (hx:enc x=(enc (l[k]'(by omega))).set j u) :
  ∃g off cap,v = .slice (some ⟨g,off,none⟩) n cap∧B≤g∧g<w.heap.size∧(∃cs,aJ w g cs e)∧(∀i y,(enc (l[k]'(by omega)))[i]?=some y→w.cell? ⟨g,off+k*sz+i,none⟩=some y)∧w.frozen? ⟨g,off+k*sz+j,none⟩=false ∧
   Own (w.setCell ⟨g,off+k*sz+j,none⟩ u) B e sz v n ((l.set k x).flatMap enc):=by
 subst hl;obtain⟨g,off,cap,cur,h1,h2,h3,h4,h5,h6⟩:=h.put hsz hp k hk;refine⟨g,off,cap,h1,h2,h3.lt,⟨_,h3⟩,h5,h3.free _,h6 _ x ?_⟩;have he:dF cur (off+k*sz) (enc x)=cur.setIfInBounds (off+k*sz+j) u:=by
  apply oO;intro i
  by_cases hi:off+k*sz≤i∧i<off+k*sz+sz
  ·obtain⟨m,rfl⟩:∃m,i=off+k*sz+m:=⟨i-(off+k*sz),by omega⟩;have hm:m<(enc x).length:=by rw[hsz];omega
   rw[putAt_in _ _ _ m (enc x)[m] (by rw[hsz];omega) (aN hm)]
   by_cases hmj:m=j
   ·subst hmj;rw[rA (by omega)];simp[hx]
   rw[fO (by omega)];have a : m<(enc l[k]).length:=by rw[hsz];omega
   have:=h5 m (enc l[k])[m] (aN a);rw[h3.cell] at this;rw[this];simp[hx,List.getElem_set_ne (fun e=>hmj e.symm)]
  ·rw[putAt_out _ _ _ _ (by rw[hsz];omega),fO (by omega)]
 rw[he];exact h3.setCell _ _
theorem Lv {H:Type} {k:TypeId} {R:Value→Option (DataW H × List MemPlace)} {n:Nat} {D:DataW H} (h:w.ownsMap P k R b n D) (hb:Below w.heap.size w w'):w'.ownsMap P k R b n D:=by
 have hl:=h.lt;obtain⟨es,clock,h1,r⟩:=h;exact⟨es,clock,(hb.block b hl).trans h1,r⟩
end Go.Proofs.YtpaeabelhnnbiaaGreat