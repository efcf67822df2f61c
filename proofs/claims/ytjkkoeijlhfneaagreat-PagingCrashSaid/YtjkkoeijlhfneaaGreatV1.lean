import Derived.WalkKit
import Derived.ProofKit
import Derived.SizedLaws
import Derived.Maps.Own
import Derived.WalkSpells
import Derived.WalkLawsBesides
set_option linter.unusedSimpArgs false
set_option linter.unusedVariables false
set_option linter.defProp false
set_option maxHeartbeats 4000000
set_option maxRecDepth 100000
namespace Pw
def ay :=@Nat.le_refl
def aG :=@List.getElem?_eq_getElem
def aJ :=@Option.some.inj
def aS :=@Nat.zero_le
def aW :=@List.getD_eq_getElem?_getD
def aX :=@Nat.le_trans
def bq :=@List.mem_singleton
def bM :=@List.map_cons
def bN :=@List.map_nil
def bI :=@List.length_set
def bJ :=@Go.IntWalk.i64_in
def bO :=@Array.getD_eq_getD_getElem?
def bQ :=@List.mem_of_getElem?
def bP :=@List.map_toArray
def bU :=@Int.toNat_natCast
def bY :=@List.mem_cons
def bW :=@List.getElem?_eq_some_iff
def dE :=@List.mem_range
def dI :=@List.getElem?_eq_none
def dL :=@List.all_eq_true
def dS :=@Bool.and_eq_true
def dO :=@Nat.not_lt_zero
def dP :=@List.getElem_mem
def ed :=@Nat.zero_add
def eT :=@List.flatMap_append
def fe :=@List.length_map
def fA :=@Nat.lt_or_ge
def fE :=@Int.eq_ofNat_of_zero_le
def fJ :=@List.mem_append
def fK :=@Array.getElem?_setIfInBounds_ne
def fI :=@List.not_mem_nil
def gL :=@List.mem_cons_self
def gM :=@Nat.add_zero
def gW :=@Array.getElem?_eq_some_iff
def ib :=@List.mem_map
def iF :=@List.take_of_length_le
def iC :=@Array.length_toList
def iM :=@Option.some.injEq
def iW :=@List.any_eq_true
def jf :=@List.map_append
def jg :=@List.mem_cons_of_mem
def jE :=@List.mem_iff_getElem
def jy :=@List.length_replicate
def jC :=@List.append_assoc
def jG :=@List.length_append
def jM :=@List.getElem?_map
def jO :=@List.eq_nil_of_length_eq_zero
def jP :=@List.mem_flatMap
def ko :=@Go.Sem.run_bind
def ky :=@Array.all_toList
def kK :=@List.length_take
def kI :=@List.getElem?_append_right
def kL :=@Nat.succ.inj
def kV :=@List.getElem?_append_left
def lm :=@Bool.true_and
def kX :=@Array.getElem?_eq_none
def lS :=@Bool.eq_iff_iff
def mf :=@List.getElem?_set
def lZ :=@List.flatMap_cons
def lL :=@List.getElem?_take
def lV :=@Bool.false_and
def mg :=@Array.ext_getElem?
def lN :=@Go.Lib.run_eql_slice_nil
def lY :=@Go.Value.slice.injEq
def lU :=@Bool.and_false
def mQ :=@List.take_add_one
def mU :=@Nat.add_assoc
def mK :=@List.ext_getElem?
def mM :=@List.mem_or_eq_of_mem_set
def mJ :=@Array.mem_toList_iff
def mO :=@List.append_nil
def ny :=@List.getElem?_replicate
def nP :=@List.countP_cons
def mY :=@List.getElem?_cons_zero
def nD :=@Bool.and_true
def nQ :=@Go.Value.slice.inj
def nW :=@Ne.symm
def nX :=@List.find?_eq_none
def oM :=@List.mem_append_left
def oh :=@List.length_cons
def nV :=@Option.getD_some
def pV :=@List.drop_eq_nil_of_le
def pX :=@Nat.lt_of_lt_of_le
def ru :=@Vector.getElem_ofFn
def qN :=@List.getElem?_drop
def qJ :=@Go.Result.andThen_ok
def rE :=@Go.Sem.run_pure
def qP :=@Array.getElem?_setIfInBounds_self_of_lt
def sN :=@List.ext_getElem
def tQ :=@List.any_eq_false
def sV :=@Classical.not_not
def tN :=@List.mem_of_find?_eq_some
def sU :=@List.mem_append_right
def tC :=@Option.map_some
def sP :=@Bool.or_eq_true
def sS :=@Nat.sub_self
def sM :=@Nat.add_mul
def tO :=@Array.getElem?_toList
def tK :=@Nat.mul_le_mul_right
def qm :=@List.filter_append
def qf :=@Nat.mod_lt
def qh :=@Nat.mod_eq_of_lt
def qg :=@List.take_append_drop
def qo :=@List.find?_some
def qw :=@List.set_cons_zero
def qi :=@Nat.le_of_lt
def qp :=@Array.getElem?_replicate
def sF :=@List.getElem?_set_ne
def sK :=@List.nodup_cons
def rM :=@Int.le_refl
def sJ :=@List.getElem?_range
def sH :=@List.set_getElem_self
def rW :=@List.pairwise_cons
def si :=@Nat.eq_zero_or_pos
def rV :=@Go.Addr.add_lit
def rP :=@Nat.mul_one
def rY :=@Go.Obj.cells.injEq
def rJ :=@List.getElem?_toArray
def rT :=@List.getElem?_cons_succ
def uR :=@Bool.false_eq_true
def uG :=@List.findIdx?_eq_some_iff_getElem
def vo :=@List.getElem?_set_self
def vk :=@List.drop_eq_getElem_cons
def ve :=@List.set_cons_succ
def uZ :=@List.getElem_map
def vI :=@List.countP_map
def uJ :=@Nat.lt_or_gt_of_ne
def uT :=@Classical.byContradiction
def vD :=@List.countP_le_length
def vC :=@Go.Addr.mk.injEq
def wT :=@List.countP_pos_iff
def wX :=@Vector.ext
def wO :=@Vector.getElem_set_ne
def xx :=@List.nodup_append
def xh :=@Bool.not_eq_true'
def wU :=@List.countP_eq_zero
def wL :=@Nat.zero_mul
def wQ :=@Go.Calls.mono
def xg :=@Nat.mul_comm
def wP :=@Nat.min_eq_left
def zT :=@List.findIdx?_eq_none_iff
def yM :=@List.length_filter_le
def zg :=@Bool.or_eq_false_iff
def yK :=@List.range_succ
def zw :=@List.map_congr_left
def zF :=@List.foldl_cons
def zB :=@List.findIdx?_cons
def zL :=@List.getElem_cons_zero
def yG :=@List.sum_cons
def zz :=@Int.toNat_of_nonneg
def yN :=@List.pairwise_iff_getElem
def Aa :=@List.getElem_set_ne
def zP :=@Nat.add_sub_cancel_left
def za :=@Array.getElem?_eq_getElem
def zu :=@Array.mem_of_getElem?
def yX :=@Option.bind_some
def zV :=@Nat.one_mul
def zN :=@Nat.le_succ
def zC :=@List.drop_succ_cons
def zZ :=@List.drop_nil
def yY :=@List.take_length
def zM :=@Array.getElem?_setIfInBounds
def yH :=@List.length_eraseIdx_of_lt
def zO :=@Array.size_push
def CF :=@Array.toList_setIfInBounds
def Cw :=@List.getElem_cons_succ
def CJ :=@List.foldl_append
def Ct :=@List.getElem_set
def Cu :=@Nat.add_mod_right
def Ce :=@List.getLast?_concat
def Cn :=@List.length_singleton
def CE :=@List.mem_replicate
def Cs :=@List.map_set
def Ch :=@Bool.not_or
def Cq :=@List.mem_map_of_mem
def Cb :=@List.countP_append
def BQ :=@List.length_range
def Cv :=@Nat.le_of_eq
def Ca :=@Nat.succ_mul
def BL :=@List.length_nil
def Cj :=@List.setIfInBounds_toArray
def BS :=@List.drop_zero
def Cg :=@List.flatMap_map
def BN :=@Nat.not_lt
def Cy :=@Go.Value.agg.injEq
def Gi :=@Bool.not_eq_true
def GU :=@List.find?_range_eq_some
def IC :=@List.filter_cons
def GD :=@List.cons_append
def Gp :=@Option.map_none
def GA :=@Bool.and_eq_false_iff
def Gx :=@List.mem_filter
def Gu :=@List.set_set
def FZ :=@List.countP_eq_length_filter
def FX :=@List.countP_filter
def Iz :=@Function.comp_apply
def Ga :=@List.getElem_range
def Ik :=@Bool.eq_false_iff
def Il :=@List.insertIdx_succ_cons
def GM :=@List.mem_insertIdx
def Gv :=@Nat.add_comm
def Ht :=@Go.World.grownBy.refl
def Gz :=@Go.World.ownsRow_nil
def Hz :=@List.countP_replicate
def Hq :=@List.mem_filterMap
def Iu :=@List.nil_append
def GR :=@List.getElem_set_self
def IE :=@Int.natCast_emod
def Ir :=@Bool.or_true
def Gw :=@List.flatMap_nil
open Go Go.RowKit
abbrev Page:=Vector UInt8 8
theorem QI (p q:Page):(p==q)=((p[0]==q[0])&&(p[1]==q[1])&&(p[2]==q[2])&&(p[3]==q[3])&&(p[4]==q[4])&&(p[5]==q[5])&&(p[6]==q[6])&&(p[7]==q[7])):=by
 rw[lS];simp only[beq_iff_eq,dS];constructor
 ·rintro rfl;simp
 rintro⟨⟨⟨⟨⟨⟨⟨h0,h1⟩,h2⟩,h3⟩,h4⟩,h5⟩,h6⟩,h7⟩
 ext i hi
 match i,hi with
 | 0,_=>rw[h0]
 | 1,_=>rw[h1]
 | 2,_=>rw[h2]
 | 3,_=>rw[h3]
 | 4,_=>rw[h4]
 | 5,_=>rw[h5]
 | 6,_=>rw[h6]
 | 7,_=>rw[h7]
 | n+8,h=>omega
theorem Vk (a b:UInt8):((a.toNat:Int)==(b.toNat:Int))=(a==b):=by
 rw[lS];simp only[beq_iff_eq,Int.natCast_inj,UInt8.toNat_inj]
def iN (p:Page) (a:Int) (k:Nat):Page:=Vector.ofFn fun i:Fin 8=>if a≤(i.val:Int)∧i.val<k then 0 else p[i.val]
def fF (p:Page) (a:Int):Page:=Vector.ofFn fun i:Fin 8=>if a≤(i.val:Int) then 0 else p[i.val]
theorem Aw (p:Page) (a:Int) (k:Nat) (h:8≤k):iN p a k=fF p a:=by
 ext i hi
 simp only[iN,fF,ru];have hk:i<k:=by omega
 simp[hk]
theorem AC (p:Page) (a:Int) (k:Nat) (h:k<8) (ha:a≤k):(iN p a k).set k 0=iN p a (k+1):=by
 ext i hi
 simp only[iN,ru,Vector.getElem_set]
 by_cases e:k=i
 ·subst e;simp[ha]
 simp only[e,if_false]
 by_cases c:a≤(i:Int)∧i<k
 ·rw[if_pos c,if_pos ⟨c.1,by omega⟩]
 ·rw[if_neg c,if_neg (by omega)]
def cO (L:Nat→Bool) (i:Nat):Nat→Bool:=fun k=>if k=i then true else L k
def wr {α:Type}:List α→Option (List α)
 | []=>some []
 | a::r=>some (a::r)
theorem Nq {α:Type} {a b:List α} (h:wr a=some b):a=b:=by cases a<;>cases h<;>rfl
def i64 (n:Int):Prop:=-9223372036854775808≤n∧n≤9223372036854775807
theorem Bi {α:Type} (good:α→Prop) (R:Nat→α→Prop):∀(len:Nat),(∀i,i<len→∃y:α,good y∧R i y)→∃l:List α,l.length=len∧(∀y∈l,good y)∧∀i (hi:i<l.length),R i l[i]
 | 0,_=>⟨[],rfl,fun y hy=>(by cases hy),fun i hi=>absurd hi (dO _)⟩
 | len+1,key=>by
  obtain⟨l,hl,hg,hr⟩:=Bi good R len (fun i hi=>key i (by omega));obtain⟨y,hy,hyr⟩:=key len (by omega);refine⟨l++[y],by simp[hl],?_,?_⟩
  ·intro z hz;rcases fJ.1 hz with hz|hz
   ·exact hg z hz
   ·rw[bq.1 hz];exact hy
  intro i hi
  by_cases hil:i<l.length
  ·rw[List.getElem_append_left hil];exact hr i hil
  have hi' : i=len:=by simp at hi;omega
  subst hi';rw[List.getElem_append_right (by omega)];simpa[hl] using hyr
end Pw
namespace Go.Proofs.YtjkkoeijlhfneaaGreat
open Go.ChangeShapes Go.WideShapes Go.ChangeAt Go.RowKit Go.Maps Pw
variable {k n:Nat}
theorem lH {P:∀i,i<n→Prop} (hp:∀i (h:i<n),i<k→P i h) (hlt:k<n) (hk:P k hlt):∀i (h:i<n),i<k+1→P i h:=by
 intro i h hi
 by_cases e:i=k
 ·subst e;exact hk
 ·exact hp i h (by omega)
theorem NE {α:Type} {l m:List α} (k:Nat) (h:k<l.length) (h' : k<m.length) (hne:l[k]≠m[k]):l≠m:=by rintro rfl;exact hne rfl
theorem KJ {α:Type} {l m:List α} (hl:l.length=m.length) (k:Nat) (hk:¬k<l.length) (h:∀i (h:i<l.length),i<k→l[i]=m[i]'(by omega)):l=m:=
 sN hl fun i h1 h2=>h i h1 (by omega)
theorem Sg {α:Type} {l m:List α} (hl:l.length=m.length) (hk:k<l.length) (h:∀i (h:i<l.length),i<k→l[i]=m[i]'(by omega)) (he:l[k]=m[k]'(by omega)):∀i (h:i<l.length),i<k+1→l[i]=m[i]'(by omega):=by
 intro i h1 h2
 by_cases e:i=k
 ·subst e;exact he
 ·exact h i h1 (by omega)
end Go.Proofs.YtjkkoeijlhfneaaGreat
namespace Pw
open Go Go.RowKit
variable {fuel i q:Nat} {l:List Int}
theorem wZ {listed:Array Bool} (hi:i<listed.size) (q:Nat) (hq:listed.getD q false=true):(listed.setIfInBounds i true).getD q false=true:=by
 by_cases hqi:q=i
 ·subst hqi;simp[bO,hi]
 ·simpa[bO,fK (nW hqi)] using hq
theorem qE {listed:Array Bool} (h:q≠i):(listed.setIfInBounds i true).getD q false=listed.getD q false:=by
 simp[bO,fK (nW h)]
theorem Jl {listed:Array Bool} (hi:i<listed.size):(listed.setIfInBounds i true).getD i false=true:=by
 simp[bO,hi]
theorem CP {listed:Array Bool} (hi:i<listed.size) (h1:listed.getD i true=false) (hc:listed.toList.countP (!·)≤fuel+1):(listed.setIfInBounds i true).toList.countP (!·)≤fuel:=by
 have hil:i<listed.toList.length:=by simp;omega
 have hfalse:listed.toList[i]=false:=by simpa[bO,hi] using h1
 have:=List.countP_set (p:=(!·)) (l:=listed.toList) (i:=i) (a:=true) hil;rw[hfalse] at this;have hpos:0<listed.toList.countP (!·):=wT.2 ⟨listed.toList[i],dP hil,by rw[hfalse];rfl⟩;simp only[CF];simp only[Bool.not_false,Bool.not_true,if_true,uR,if_false] at this;omega
open Go.ChangeShapes Go.WideShapes Go.ChangeAt
def firstE:List Int→Int
 | []=>0
 | x::r=>if x=0 then firstE r else x
theorem rO (h:∀i (hi:i<l.length),l[i]=0):firstE l=0:=by
 induction l with
 | nil=>rfl
 | cons x r ih=>
  have h0:=h 0 (by simp);simp at h0;simp only[firstE,h0,if_true];exact ih fun i hi=>by have:=h (i+1) (by simpa using hi);simpa using this
theorem xk (k:Nat) (hk:k<l.length) (h:∀i (hi:i<l.length),i<k→l[i]=0) (hne:l[k]≠0):firstE l=l[k]:=by
 induction l generalizing k with
 | nil=>simp at hk
 | cons x r ih=>
  cases k with
  | zero=>simp at hne;simp[firstE,hne]
  | succ k=>
   have h0:=h 0 (by simp) (by omega);simp at h0;simp only[firstE,h0,if_true,Cw];exact ih k (by simpa using hk) (fun i hi hik=>by have:=h (i+1) (by simpa using hi) (by omega);simpa using this) (by simpa using hne)
theorem filter_all {α:Type} (p q:α→Bool) (l:List α):(l.filter p).all (fun e => !p e||q e)=l.all (fun e => !p e||q e):=by
 induction l with
 | nil=>rfl
 | cons x l ih=>
  cases hp:p x
  ·rw[List.filter_cons_of_neg (by simp[hp]),ih];simp[hp]
  ·rw[List.filter_cons_of_pos (by simp[hp])];simp[hp,ih]
end Pw
namespace Go.Proofs.YtjkkoeijlhfneaaGreat
open Go.RowKit Pw
variable {I K b c f g i j k n p q r s:Nat} {kd lo:Int} {l:List Int}
def idx {α:Type} (f:α→Bool) (l:List α):Int:=match l.findIdx? f with
 | some k=>k
 | none => -1
theorem tH {α:Type} (f:α→Bool) (l:List α) (k:Nat) (h:k<l.length) (hp:∀i (h:i<l.length),i<k→f l[i]=false) (hk:f l[k]=true):idx f l=k:=by
 unfold idx;rw[uG.2 ⟨h,hk,fun j hj=>by simpa using hp j (by omega) hj⟩]
theorem kT {α:Type} (f:α→Bool) (l:List α) (hp:∀i (h:i<l.length),f l[i]=false):idx f l = -1:=by
 unfold idx;rw[zT.2 fun x hx=>by obtain⟨i,hi,rfl⟩:=jE.1 hx;exact hp i hi]
theorem Ao {α:Type} (f:α→Bool) (l:List α):(idx f l = -1∧∀i (h:i<l.length),f l[i]=false)∨∃k:Nat,∃h:k<l.length,idx f l=k∧f l[k]=true∧∀i (h:i<l.length),i<k→f l[i]=false:=by
 unfold idx;cases e:l.findIdx? f with
 | none=>exact .inl ⟨rfl,fun i h=>zT.1 e _ (dP h)⟩
 | some k=>
  obtain⟨h,hk,hp⟩:=uG.1 e;exact .inr ⟨k,h,rfl,hk,fun i _ hi=>by simpa using hp i hi⟩
theorem nC {α:Type} (f:α→Bool) (l:List α):decide (0≤idx f l)=l.any f:=by
 rcases Ao f l with ⟨e,h⟩|⟨k,hk,e,h,_⟩
 ·rw[e];symm;simp only[show decide ((0:Int)≤-1)=false from rfl,tQ];intro x hx;obtain⟨i,hi,rfl⟩:=jE.1 hx;simpa using h i hi
 rw[e];symm;simp only[show decide ((0:Int)≤(k:Int))=true from by simp,iW];exact⟨_,dP hk,h⟩
theorem upto {P:∀i,i<n→Prop} (hp:∀i (h:i<n),i<k→P i h) (hlt:k<n) (hk:P k hlt):∀i (h:i<n),i<k+1→P i h:=by
 intro i h hi
 by_cases e:i=k
 ·subst e;exact hk
 ·exact hp i h (by omega)
open Go.Maps
structure UH (D:DataW Unit) (f:Int→Bool):Prop where
 is:IsMap D
 at_:∀j:Int,D.atKey (.int .i64 j) (.lit (.bool false)) = .lit (.bool (f j))
theorem UH.empty:UH (.map []) (fun _=>false):=⟨isMap_empty,fun j=>rfl⟩
theorem UH.put {D:DataW Unit} {f:Int→Bool} (h:UH D f) (k:Int):UH (D.put (.int .i64 k) (.lit (.bool true))) (fun j=>f j||decide (j=k)):=by
 refine⟨h.is.put _ _,fun j => ?_⟩
 by_cases e:j=k
 ·subst e;rw[atKey_put_same h.is (by trivial)];simp
 rw[atKey_put_other (by intro e2;exact e (by cases e2;rfl)),h.at_ j];simp[e]
def dZ (n:Int):Int:=if n≤0 then 0 else (n-1) / 8+1
def qx (n:Int):Bool:=decide (n<0)||decide (1000<n)
def dm (l:List Int):Int:=if 60<l.length then 4 else if l.any qx then 3 else 0
def IJ (n:Int):Bool:=n==0
def AQ (n:Int):List Int:=if 0≤n∧n≤60 then List.replicate n.toNat 0 else []
def GY (n:Int):Int:=if 0≤n∧n≤60 then 0 else 4
theorem RY (l:List Int) (k:Nat) (hk:k<l.length) (h0:dm l=0):0≤l[k]∧l[k]≤1000:=by
 unfold dm at h0;split at h0
 ·omega
 split at h0
 ·omega
 rename_i h;have h1:qx l[k]=false:=by have:=tQ.1 (by simpa using h) _ (dP hk);simpa using this
 simp[qx] at h1;exact h1
theorem iT (h:dm l=0):l.length≤60:=by
 unfold dm at h;split at h
 ·omega
 ·omega
def gP (l:List Int) (n:Int):Int:=if dm l≠0 then dm l else if n<1∨1000<n then 3 else if idx IJ l<0 then 10 else 0
def jA (l:List Int) (n:Int):Int:=if gP l n=0 then idx IJ l else 0
def lF (l:List Int) (n:Int):List Int:=if gP l n=0 then l.set (idx IJ l).toNat n else []
theorem Kt (n:Int) (h:dm l≠0):gP l n=dm l∧jA l n=0∧lF l n=[]:=by
 have:gP l n=dm l:=by unfold gP;rw[if_pos h]
 exact⟨this,by unfold jA;rw[this,if_neg h],by unfold lF;rw[this,if_neg h]⟩
theorem Lj {n:Int} (h0:dm l=0) (h:n<1∨1000<n):gP l n=3∧jA l n=0∧lF l n=[]:=by
 have:gP l n=3:=by unfold gP;rw[if_neg (by omega),if_pos h]
 exact⟨this,by unfold jA;rw[this];rfl,by unfold lF;rw[this];rfl⟩
theorem MB {n:Int} (h0:dm l=0) (h:1≤n∧n≤1000) (hf:idx IJ l = -1):gP l n=10∧jA l n=0∧lF l n=[]:=by
 have:gP l n=10:=by unfold gP;rw[if_neg (by omega),if_neg (by omega),if_pos (by omega)]
 exact⟨this,by unfold jA;rw[this];rfl,by unfold lF;rw[this];rfl⟩
theorem PK {n:Int} (h0:dm l=0) (h:1≤n∧n≤1000) (hf:idx IJ l=k):gP l n=0∧jA l n=k∧lF l n=l.set k n:=by
 have:gP l n=0:=by unfold gP;rw[if_neg (by omega),if_neg (by omega),if_neg (by omega)]
 exact⟨this,by unfold jA;rw[this,if_pos rfl,hf],by unfold lF;rw[this,if_pos rfl,hf];rfl⟩
def Hf (l:List Int) (k:Int):Int:=l.getD k.toNat 0
def fV (l:List Int) (k n:Int):Int:=if dm l≠0 then dm l else if k<0∨l.length≤k∨Hf l k=0 then 5 else if n < -Hf l k∨1000-Hf l k<n then 3 else 0
def fZ (l:List Int) (k n:Int):List Int:=if fV l k n=0 then l.set k.toNat (Hf l k+n) else []
theorem KL (k n:Int) (h:dm l≠0):fV l k n=dm l∧fZ l k n=[]:=by
 have:fV l k n=dm l:=by unfold fV;rw[if_pos h]
 exact⟨this,by unfold fZ;rw[this,if_neg h]⟩
theorem FO {k n:Int} (h0:dm l=0) (h:k<0∨l.length≤k∨Hf l k=0):fV l k n=5∧fZ l k n=[]:=by
 have:fV l k n=5:=by unfold fV;rw[if_neg (by omega),if_pos h]
 exact⟨this,by unfold fZ;rw[this];rfl⟩
theorem Mo {k n:Int} (h0:dm l=0) (h:¬(k<0∨l.length≤k∨Hf l k=0)) (hr:n < -Hf l k∨1000-Hf l k<n):fV l k n=3∧fZ l k n=[]:=by
 have:fV l k n=3:=by unfold fV;rw[if_neg (by omega),if_neg h,if_pos hr]
 exact⟨this,by unfold fZ;rw[this];rfl⟩
theorem Om {k n:Int} (h0:dm l=0) (h:¬(k<0∨l.length≤k∨Hf l k=0)) (hr:¬(n < -Hf l k∨1000-Hf l k<n)):fV l k n=0∧fZ l k n=l.set k.toNat (Hf l k+n):=by
 have:fV l k n=0:=by unfold fV;rw[if_neg (by omega),if_neg h,if_neg hr]
 exact⟨this,by unfold fZ;rw[this,if_pos rfl]⟩
theorem Tp (h:k<l.length):Hf l k=l[k]:=by simp[Hf,h]
structure mZ where
 blocks:List Page
 queue:List (Int × Page)
def zPg:Page:=#v[0,0,0,0,0,0,0,0]
def vP (n:Nat) (q:Int × Page):Bool:=decide (q.1<0)||decide ((n:Int)≤q.1)
def bn (d:mZ):Int:=if 80<d.blocks.length∨400<d.queue.length then 4 else if d.queue.any (vP d.blocks.length) then 3 else 0
def aL (d:mZ) (at_:Int):Int:=if bn d≠0 then bn d else if at_<0∨d.blocks.length≤at_ then 3 else 0
def over (k:Int) (p:Page) (q:List (Int × Page)):Page:=q.foldl (fun p x=>if x.1=k then x.2 else p) p
theorem AU (k:Int) (p:Page) (q:List (Int × Page)) (x:Int × Page):over k p (q++[x])=if x.1=k then x.2 else over k p q:=by simp[over,CJ]
theorem Pk (k:Int) (p:Page) (q:List (Int × Page)) (i:Nat) (h:i<q.length):over k p (q.take (i+1))=if q[i].1=k then q[i].2 else over k p (q.take i):=by
 rw[mQ,aG h,Option.toList,AU]
def kY (d:mZ) (k:Int):Page:=if aL d k=0 then over k (d.blocks.getD k.toNat zPg) d.queue else zPg
def iU (d:mZ) (x:Int × Page):mZ:=
 match d.queue with
 | []=>⟨d.blocks,[x]⟩
 | q::r=>if (q::r).length=400 then ⟨d.blocks.set q.1.toNat q.2,r++[x]⟩ else ⟨d.blocks,(q::r)++[x]⟩
theorem Ow (d:mZ) (x:Int × Page) (h:d.queue.length≠400):iU d x=⟨d.blocks,d.queue++[x]⟩:=by
 unfold iU;split
 ·rename_i e;rw[e];rfl
 ·rename_i q r e;rw[e] at h;rw[if_neg h,e]
theorem Pe (d:mZ) (x:Int × Page) (h:d.queue.length=400):iU d x=⟨d.blocks.set (d.queue[0]'(by omega)).1.toNat (d.queue[0]'(by omega)).2,d.queue.drop 1++[x]⟩:=by
 obtain⟨B,Q⟩:=d;unfold iU;cases Q with
 | nil=>simp at h
 | cons q r=>simp only[if_pos h];rfl
def dC (d:mZ) (k:Int) (p:Page):mZ:=if aL d k=0 then iU d (k,p) else ⟨[],[]⟩
theorem wW {d:mZ} (h:bn d=0):d.blocks.length≤80∧d.queue.length≤400:=by
 unfold bn at h;split at h
 ·omega
 ·omega
theorem wS {d:mZ} (h:bn d=0) (i:Nat) (hi:i<d.queue.length):0≤d.queue[i].1∧d.queue[i].1<d.blocks.length:=by
 unfold bn at h;split at h
 ·omega
 split at h
 ·omega
 rename_i h1;have:=tQ.1 (by simpa using h1) _ (dP hi);simp[vP] at this;omega
def jU (b:Int) (i:Nat):Bool:=Go.bits BinOp.and IntKind.i64 (b / 2 ^ (i%60)) 1==1
def oo (n:Int):mZ:=if 0≤n∧n≤80 then ⟨List.replicate n.toNat zPg,[]⟩ else ⟨[],[]⟩
def MR (n:Int):Int:=if 0≤n∧n≤80 then 0 else 4
def jX (f:Nat→Bool) (B:List Page) (Q:List (Int × Page)):Nat→List Page
 | 0=>B
 | k+1=>match Q[k]? with
  | some q=>if f k then (jX f B Q k).set q.1.toNat q.2 else jX f B Q k
  | none=>jX f B Q k
theorem lw (f:Nat→Bool) (B:List Page) (Q:List (Int × Page)) (k:Nat):(jX f B Q k).length=B.length:=by
 induction k with
 | zero=>rfl
 | succ k ih=>
  unfold jX;split
  ·split
   ·rw[bI,ih]
   ·exact ih
  ·exact ih
theorem xu {f:Nat→Bool} {B:List Page} {Q:List (Int × Page)} (h:k<Q.length) (hf:f k=true):jX f B Q (k+1)=(jX f B Q k).set Q[k].1.toNat Q[k].2:=by
 rw[jX,aG h];simp[hf]
theorem Al {f:Nat→Bool} {B:List Page} {Q:List (Int × Page)} (h:k<Q.length) (hf:f k=false):jX f B Q (k+1)=jX f B Q k:=by
 rw[jX,aG h];simp[hf]
def qa (f:Nat→Bool) (d:mZ):mZ:=if bn d=0 then ⟨jX f d.blocks d.queue d.queue.length,[]⟩ else ⟨[],[]⟩
theorem NW (k:Int) (p:Page) (q:Int × Page) (r:List (Int × Page)):over k p (q::r)=over k (if q.1=k then q.2 else p) r:=rfl
theorem gF (d:mZ):bn d=0↔d.blocks.length≤80∧d.queue.length≤400∧∀x∈d.queue,0≤x.1∧x.1<d.blocks.length:=by
 unfold bn;constructor
 ·intro h;split at h
  ·omega
  split at h
  ·omega
  rename_i h1 h2;refine⟨by omega,by omega,fun x hx => ?_⟩;have:=tQ.1 (by simpa using h2) x hx;simp[vP] at this;omega
 rintro⟨h1,h2,h3⟩;rw[if_neg (by omega),if_neg];simp only[iW,not_exists,not_and];intro x hx;have:=h3 x hx;simp[vP];omega
theorem sD {d:mZ} {k:Int}:aL d k=0↔bn d=0∧0≤k∧k<d.blocks.length:=by
 unfold aL;constructor
 ·intro h;split at h
  ·omega
  split at h
  ·omega
  ·omega
 rintro⟨h1,h2,h3⟩;rw[if_neg (by omega),if_neg (by omega)]
theorem vU (d:mZ) (x:Int × Page):(iU d x).blocks.length=d.blocks.length:=by
 unfold iU;split
 ·rfl
 split
 ·simp
 ·rfl
theorem xO {d:mZ} {x:Int × Page} (h:bn d=0) (h0:0≤x.1) (h1:x.1<d.blocks.length):bn (iU d x)=0:=by
 obtain⟨h2,h3,h4⟩:=(gF d).1 h;rw[gF,vU];refine⟨h2,?_,?_⟩
 ·unfold iU;split
  ·simp
  rename_i q r e;rw[e] at h3;split
  ·rename_i e4;simp at e4 ⊢; omega
  ·rename_i e4;simp at e4 h3 ⊢; omega
 intro y hy;have:y=x∨y∈d.queue:=by
  unfold iU at hy;split at hy
  ·simp at hy;exact .inl hy
  rename_i q r e;rw[e];split at hy
  ·simp at hy ⊢; rcases hy with h | h
   ·exact .inr (.inr h)
   ·exact .inl h
  simp at hy ⊢; rcases hy with h | h | h
  ·exact .inr (.inl h)
  ·exact .inr (.inr h)
  ·exact .inl h
 rcases this with rfl|h
 ·exact⟨h0,h1⟩
 ·exact h4 y h
theorem PD (d:mZ) (x:Int × Page) (o:Int) (hq:∀y∈d.queue,0≤y.1∧y.1<d.blocks.length) (ho:0≤o) (ho' : o<d.blocks.length) :
  over o ((iU d x).blocks.getD o.toNat zPg) (iU d x).queue=if x.1=o then x.2 else over o (d.blocks.getD o.toNat zPg) d.queue:=by
 unfold iU;split
 ·rename_i e;rw[e];rfl
 rename_i q r e;split
 ·have hq':=hq q (by rw[e];exact gL ..);rw[AU];congr 1;rw[e,NW];congr 1;simp only[aW,mf]
  by_cases hqo:q.1=o
  ·rw[if_pos hqo,if_pos (by rw[hqo]),if_pos (by rw[hqo];omega)];rfl
  ·rw[if_neg hqo,if_neg (by omega)]
 ·rw[e,AU]
theorem Ib {d:mZ} {x:Int × Page} (h:bn d=0) (h0:0≤x.1) (h1:x.1<d.blocks.length) (o:Int):aL (iU d x) o=aL d o:=by
 unfold aL;rw[xO h h0 h1,h,vU]
theorem xA {d:mZ} {x:Int × Page} (h:bn d=0) (h0:0≤x.1) (h1:x.1<d.blocks.length) (o:Int):kY (iU d x) o=if aL d o=0∧x.1=o then x.2 else kY d o:=by
 unfold kY;rw[Ib h h0 h1]
 by_cases ho:aL d o=0
 ·obtain⟨_,g0,g1⟩:=sD.1 ho;rw[if_pos ho,if_pos ho,PD d x o ((gF d).1 h).2.2 g0 g1];simp[ho]
 ·rw[if_neg ho,if_neg ho,if_neg (fun h=>ho h.1)]
def d3:mZ:=⟨[zPg,zPg,zPg],[]⟩
def MP (d d' : mZ):Bool:=d.blocks==d'.blocks&&d.queue==d'.queue
theorem AL {d d' : mZ}:MP d d' = true↔d=d':=by
 obtain⟨B,Q⟩:=d;obtain⟨B',Q'⟩:=d';simp[MP]
theorem uD {d d' : mZ} (h:d.blocks≠d'.blocks∨d.queue≠d'.queue):MP d d' = false:=by
 rw[←Gi,AL];rintro rfl;rcases h with h|h<;>exact h rfl
def BG (al:Bool) (bits:Int) (i:Nat):Bool:=al||jU bits i
theorem halves (b:Int) (s:Nat):b / 2 ^ s / 2=b / 2 ^ (s+1):=by
 rw[Int.ediv_ediv_of_nonneg (Int.le_of_lt (Int.pow_pos (by decide))),Int.pow_succ]
structure Fr where
 p:Page
 r:Int
 u:Bool
 d:Bool
 f:Int
 i:Int
 deriving DecidableEq
def De (f:Fr):Bool:=decide (f.r<0)||decide (1000<f.r)||decide (f.f < -1)||decide (5≤f.f)||decide (f.i<0)||decide (12≤f.i)
def Fx (f:Fr):Bool:=decide (f.r=0)&&(f.u||f.d||decide (0≤f.f)||f.p != zPg)
def Ak (f:Fr):Bool:=decide (f.f<0)&&decide (f.i≠0)
def dR (f:Fr):Int:=if De f=true then 3 else if Fx f=true∨Ak f=true then 7 else 0
structure Mem where
 fs:List Fr
 hand:Int
 deriving DecidableEq
def firstEf:List Fr→Int
 | []=>0
 | f::r=>if dR f≠0 then dR f else firstEf r
theorem firstEf_at:∀(l:List Fr) (k:Nat) (hk:k<l.length),(∀i (h:i<l.length),i<k→dR l[i]=0)→dR l[k]≠0→firstEf l=dR l[k]
 | f::r,0,_,_,h=>by unfold firstEf;exact if_pos h
 | f::r,k+1,hk,hp,h=>by unfold firstEf;rw[if_neg (fun hh=>hh (hp 0 (by simp) (by omega)))];exact firstEf_at r k (by simpa using hk) (fun i hi hik=>hp (i+1) (by simpa using hi) (by omega)) h
theorem firstEf_none:∀(l:List Fr),(∀i (h:i<l.length),dR l[i]=0)→firstEf l=0
 | [],_=>rfl
 | f::r,hp=>by unfold firstEf;rw[if_neg (fun hh=>hh (hp 0 (by simp)))];exact firstEf_none r (fun i hi=>hp (i+1) (by simpa using hi))
def bK (m:Mem):Int:=if 40<m.fs.length then 4 else if firstEf m.fs≠0 then firstEf m.fs else if m.hand<0∨(0<m.hand∧(m.fs.length:Int)≤m.hand) then 3 else 0
def mr (l:List Fr):Nat:=(l.filter (fun f=>decide (f.r=0))).length
theorem KX (l:List Fr) (k:Nat) (hk:k<l.length):mr (l.take (k+1))=if l[k].r=0 then mr (l.take k)+1 else mr (l.take k):=by
 unfold mr;rw[mQ,aG hk,Option.toList,qm]
 by_cases h:l[k].r=0<;>simp[h]
theorem CW (l:List Fr):mr l≤l.length:=yM _ _
def fr0:Fr:=⟨zPg,0,false,false,0,0⟩
def frZ:Fr:=⟨zPg,0,false,false,-1,0⟩
def tV (n:Int):Mem:=if 0≤n∧n≤40 then ⟨List.replicate n.toNat frZ,0⟩ else ⟨[],0⟩
def NA (n:Int):Int:=if 0≤n∧n≤40 then 0 else 4
def noM:Mem:=⟨[],0⟩
theorem firstEf_all:∀(l:List Fr),firstEf l=0→∀f∈l,dR f=0
 | [],_,_,h=>by cases h
 | g::r,h,f,hf=>by
  unfold firstEf at h
  by_cases hg:dR g=0
  ·rw[if_neg (fun e=>e hg)] at h;rcases bY.1 hf with rfl|hf
   ·exact hg
   ·exact firstEf_all r h f hf
  rw[if_pos hg] at h;exact absurd h hg
theorem eD (m:Mem):bK m=0↔m.fs.length≤40∧(∀f∈m.fs,dR f=0)∧0≤m.hand∧(m.hand=0∨m.hand<m.fs.length):=by
 unfold bK;constructor
 ·intro h
  by_cases h1:40<m.fs.length
  ·rw[if_pos h1] at h;cases h
  rw[if_neg h1] at h
  by_cases h2:firstEf m.fs=0
  ·rw[if_neg (fun e=>e h2)] at h
   by_cases h3:m.hand<0∨(0<m.hand∧(m.fs.length:Int)≤m.hand)
   ·rw[if_pos h3] at h;cases h
   ·exact⟨by omega,firstEf_all _ h2,by omega,by omega⟩
  ·rw[if_pos h2] at h;exact absurd h h2
 rintro⟨h1,h2,h3,h4⟩;rw[if_neg (by omega)];have h5:firstEf m.fs=0:=firstEf_none _ (fun i hi=>h2 _ (dP hi));rw[h5,if_neg (fun e=>e rfl),if_neg (by omega)]
theorem iD (f:Fr):dR f=0↔(0≤f.r∧f.r≤1000∧-1≤f.f∧f.f<5∧0≤f.i∧f.i<12)∧(f.r=0→f.u=false∧f.d=false∧f.f<0∧f.p=zPg)∧(f.f<0→f.i=0):=by
 unfold dR;have hb:De f=false↔(0≤f.r∧f.r≤1000∧-1≤f.f∧f.f<5∧0≤f.i∧f.i<12):=by simp only[De,zg,decide_eq_false_iff_not,Int.not_lt,Int.not_le];omega
 have hu:Fx f=false↔(f.r=0→f.u=false∧f.d=false∧f.f<0∧f.p=zPg):=by
  unfold Fx
  by_cases h:f.r=0
  ·simp[h,and_assoc]
  ·simp[h]
 have hf:Ak f=false↔(f.f<0→f.i=0):=by
  unfold Ak
  by_cases h:f.f<0
  ·simp[h]
  ·simp[h]
 rw[←hb,←hu,←hf];cases De f<;>cases Fx f<;>cases Ak f<;>simp
def mV (m:Mem) (k n:Int):Int:=if bK m≠0 then bK m else if k<0∨(m.fs.length:Int)≤k∨(m.fs.getD k.toNat fr0).r=0 then 5 else if n < -(m.fs.getD k.toNat fr0).r∨1000-(m.fs.getD k.toNat fr0).r<n then 3 else 0
def jo (f:Fr) (n:Int):Fr:=if f.r+n=0 then frZ else { f with r:=f.r+n }
def lC (m:Mem) (k n:Int):Mem:=if mV m k n=0 then ⟨m.fs.set k.toNat (jo (m.fs.getD k.toNat fr0) n),m.hand⟩ else noM
def iP (m:Mem) (s:Nat):Nat:=(m.hand.toNat+s)%m.fs.length
def Bq (m:Mem) (s i:Nat):Bool:=(List.range s).any (fun t=>iP m t==i)
def unused (f:Fr):Fr:={ f with u:=false }
def nN (m:Mem) (s:Nat):List Fr:=m.fs.mapIdx (fun i f=>if Bq m s i then unused f else f)
def vY (m:Mem) (s:Nat):Bool:=decide (0<(m.fs.getD (iP m s) fr0).r)&&(!(m.fs.getD (iP m s) fr0).u||decide (m.fs.length≤s))
def gZ (m:Mem):Nat:=((List.range (2*m.fs.length)).find? (vY m)).getD 0
def fG (m:Mem):Mem:=if bK m≠0 then noM else if mr m.fs=m.fs.length then m else ⟨nN m (gZ m),(iP m (gZ m+1):Nat)⟩
def iH (m:Mem):Int:=if bK m≠0 then 0 else if mr m.fs=m.fs.length then -1 else (iP m (gZ m):Nat)
theorem nY {m:Mem} (h:0<m.fs.length) (s:Nat):iP m s<m.fs.length:=qf _ h
theorem iJ (m:Mem) (s:Nat):(nN m s).length=m.fs.length:=by simp[nN]
theorem vw (m:Mem) (s i:Nat) (hi:i<m.fs.length):(nN m s)[i]'(by rw[iJ];exact hi)=if Bq m s i then unused m.fs[i] else m.fs[i]:=by simp[nN]
theorem Pi (m:Mem) (s i:Nat):Bq m (s+1) i=(Bq m s i||iP m s==i):=by simp[Bq,yK]
theorem Ry (m:Mem):nN m 0=m.fs:=by
 apply sN
 ·rw[iJ]
 intro i h1 h2;rw[vw m 0 i h2];rfl
theorem Sb (m:Mem) (s:Nat) (h:0<m.fs.length):(nN m s).set (iP m s) (unused ((nN m s)[iP m s]'(by rw[iJ];exact nY h s)))=nN m (s+1):=by
 apply sN
 ·simp[iJ]
 intro i h1 h2;have hi:i<m.fs.length:=by rw[iJ] at h2;exact h2
 rw[Ct,vw m (s+1) i hi,Pi]
 by_cases e:iP m s=i
 ·subst e;rw[if_pos rfl,vw m s _ hi];cases Bq m s (iP m s)<;>simp[unused]
 rw[if_neg e,vw m s i hi];have:(iP m s==i)=false:=by simpa using e
 rw[this,Bool.or_false]
theorem QR (m:Mem) (s:Nat) (h:0<m.fs.length):Bq m s (iP m s)=decide (m.fs.length≤s):=by
 rw[lS];simp only[Bq,iW,dE,beq_iff_eq,decide_eq_true_eq];constructor
 ·rintro⟨t,ht,he⟩;unfold iP at he;rcases fA s m.fs.length with hs|hs
  ·exfalso;have h1:(m.hand.toNat+s)%m.fs.length=(m.hand.toNat+t+(s-t))%m.fs.length:=by congr 1;omega
   rw[h1,Nat.add_mod (m.hand.toNat+t) (s-t)] at he;have h2:(s-t)%m.fs.length=s-t:=qh (by omega);rw[h2] at he;have h3:=qf (m.hand.toNat+t) h;generalize (m.hand.toNat+t)%m.fs.length=x at *
   rcases fA (x+(s-t)) m.fs.length with h4|h4
   ·rw[qh h4] at he;omega
   ·rw[Nat.mod_eq_sub_mod h4,qh (by omega)] at he;omega
  ·exact hs
 intro hs;refine⟨s-m.fs.length,by omega,?_⟩;unfold iP;have:m.hand.toNat+s=(m.hand.toNat+(s-m.fs.length))+m.fs.length:=by omega
 rw[this,Cu]
theorem UN (m:Mem) (s:Nat) (h:0<m.fs.length):(nN m s)[iP m s]'(by rw[iJ];exact nY h s)=if m.fs.length≤s then unused (m.fs[iP m s]'(nY h s)) else m.fs[iP m s]'(nY h s):=by
 rw[vw m s _ (nY h s),QR m s h];simp
theorem Td (m:Mem) (s:Nat) (h:0<m.fs.length):vY m s=(decide (0<((nN m s)[iP m s]'(by rw[iJ];exact nY h s)).r)&&!((nN m s)[iP m s]'(by rw[iJ];exact nY h s)).u):=by
 rw[UN m s h];unfold vY;rw[show m.fs.getD (iP m s) fr0=m.fs[iP m s]'(nY h s) from by simp[nY h s]]
 by_cases hs:m.fs.length≤s
 ·rw[if_pos hs];simp[hs,unused];rfl
 ·rw[if_neg hs];simp[hs]
theorem OV (l:List Fr):mr l=l.length↔∀f∈l,f.r=0:=by
 unfold mr;rw[List.length_filter_eq_length_iff];simp
theorem stops (m:Mem) (hw:bK m=0) (hf:mr m.fs≠m.fs.length):∃s,s<2*m.fs.length∧vY m s=true:=by
 obtain⟨_,hall,hh,_⟩:=(eD m).1 hw;rw[Ne,OV] at hf;obtain⟨f,hff⟩:=Classical.not_forall.1 hf;obtain⟨hm,hr⟩:=Classical.not_imp.1 hff;obtain⟨i,hi,rfl⟩:=jE.1 hm;have hr0:=((iD _).1 (hall _ hm)).1.1;have hpos:0<m.fs.length:=by omega
 have hx:=qf m.hand.toNat hpos;refine⟨(i+m.fs.length-m.hand.toNat%m.fs.length)%m.fs.length+m.fs.length,by have:=qf (i+m.fs.length-m.hand.toNat%m.fs.length) hpos;omega,?_⟩;have hidx:iP m ((i+m.fs.length-m.hand.toNat%m.fs.length)%m.fs.length+m.fs.length)=i:=by
  unfold iP;rw[←mU,Cu,Nat.add_mod,Nat.mod_mod];generalize m.hand.toNat%m.fs.length=x at *
  rcases fA i x with h|h
  ·rw[qh (show i+m.fs.length-x<m.fs.length by omega)];rw[show x+(i+m.fs.length-x)=i+m.fs.length from by omega,Cu,qh hi]
  have h3:i+m.fs.length-x=(i-x)+m.fs.length:=by omega
  rw[h3,Cu,qh (show i-x<m.fs.length by omega),show x+(i-x)=i from by omega,qh hi]
 unfold vY;rw[hidx];have:m.fs.getD i fr0=m.fs[i]:=by simp[hi]
 rw[this];have h1:0<m.fs[i].r:=by omega
 have h2:m.fs.length≤(i+m.fs.length-m.hand.toNat%m.fs.length)%m.fs.length+m.fs.length:=by omega
 simp[h1,h2]
theorem SB (m:Mem) (hw:bK m=0) (hf:mr m.fs≠m.fs.length):gZ m<2*m.fs.length∧vY m (gZ m)=true∧∀t,t<gZ m→vY m t=false:=by
 obtain⟨s,hs,hst⟩:=stops m hw hf;unfold gZ;cases hfd:(List.range (2*m.fs.length)).find? (vY m) with
 | none=>
  rw[nX] at hfd;exact absurd hst (hfd s (dE.2 hs))
 | some r=>
  rw[GU] at hfd;obtain⟨h1,h2,h3⟩:=hfd;exact⟨dE.1 h2,h1,fun t ht=>by simpa using h3 t ht⟩
structure En where
 k:Int
 n:Int
 w:Bool
 deriving DecidableEq
def zEn:En:=⟨0,0,false⟩
abbrev Tb:=Vector (List En) 8
def eQ (e:En):Int:=if e.k<0∨2<e.k then 1 else if e.n<0∨40≤e.n∧e.k=1∨60≤e.n then 3 else if e.k=0∧(e.n≠0∨e.w=true)∨e.k=2∧e.w=true then 7 else 0
def lD (h:List En):Int:=if h.length≠0∧h.length≠8 then 2 else if firstE (h.map eQ)≠0 then firstE (h.map eQ) else if 0<h.length∧h.any (fun e=>decide (e.k≠0))=false then 2 else 0
def cK (t:Tb):Int:=firstE (t.toList.map lD)
def xE (h:List En) (k:Nat):Bool:=(h.take k).any (fun e=>decide (e.k≠0))
theorem OY (h:List En):xE h 0=false:=rfl
theorem Fz (h:List En) (k:Nat) (hk:k<h.length):xE h (k+1)=(xE h k||decide (h[k].k≠0)):=by
 unfold xE;rw[mQ,List.any_append,aG hk];simp
theorem Ko (h:List En) (k:Nat) (hk:h.length≤k):xE h k=h.any (fun e=>decide (e.k≠0)):=by
 unfold xE;rw[iF hk]
theorem vS {t:Tb} (h:∀i (hi:i<8),lD t[i]=0):cK t=0:=rO fun i hi=>by simpa using h i (by simpa using hi)
theorem qF {t:Tb} (k:Nat) (hk:k<8) (h:∀i (hi:i<8),i<k→lD t[i]=0) (hne:lD t[k]≠0):cK t=lD t[k]:=by
 have:=xk (l:=t.toList.map lD) k (by simpa using hk) (fun i hi hik=>by simpa using h i (by simpa using hi) hik) (by simpa using hne);rw[cK,this];simp
theorem yl {h:List En} (h1:h.length≠0∧h.length≠8):lD h=2:=by unfold lD;rw[if_pos h1]
theorem ze {h:List En} (h1:h.length=0∨h.length=8) (k:Nat) (hk:k<h.length) (hp:∀i (hi:i<h.length),i<k→eQ h[i]=0) (hne:eQ h[k]≠0):lD h=eQ h[k]:=by
 have:=xk (l:=h.map eQ) k (by simpa using hk) (fun i hi hik=>by simpa using hp i (by simpa using hi) hik) (by simpa using hne);have e:firstE (h.map eQ)=eQ h[k]:=by rw[this];simp
 unfold lD;rw[if_neg (by omega),e,if_pos hne]
theorem wH {h:List En} (h1:h.length=0∨h.length=8) (hp:∀i (hi:i<h.length),eQ h[i]=0):lD h=if 0<h.length∧h.any (fun e=>decide (e.k≠0))=false then 2 else 0:=by
 have:=rO (l:=h.map eQ) (fun i hi=>by simpa using hp i (by simpa using hi));unfold lD;rw[if_neg (by omega),this,if_neg (by omega)]
def Ey (t:Tb):Prop:=∀k (h:k<8),t[k].length*24≤140737488355328
def dG (t:Tb) (n:Int):En:=if h:0≤n∧n<64 then (if (t[n.toNat / 8]'(by omega)).length=8 then (t[n.toNat / 8]'(by omega)).getD (n.toNat%8) zEn else zEn) else zEn
theorem qZ {t:Tb} {n:Int} (h:n<0∨64≤n):dG t n=zEn:=by unfold dG;rw[dif_neg (by omega)]
theorem zh {t:Tb} (hq:q<8) (hr:r<8):dG t ((8*q+r:Nat):Int)=if t[q].length=8 then t[q].getD r zEn else zEn:=by
 unfold dG;rw[dif_pos (by omega)];have e1:(((8*q+r:Nat):Int).toNat / 8)=q:=by rw[bU];omega
 have e2:(((8*q+r:Nat):Int).toNat%8)=r:=by rw[bU];omega
 simp only[e1,e2]
theorem wK {n:Int} (h:0≤n∧n<64):∃q r:Nat,q<8∧r<8∧n=((8*q+r:Nat):Int)∧n / 8=(q:Int)∧n%8=(r:Int):=by
 refine⟨(n / 8).toNat,(n%8).toNat,by omega,by omega,by omega,by omega,by omega⟩
def ou (e:En):Bool:=decide (e.k≠0)
def setE (t:Tb) (n:Int) (e:En):Int:=if cK t≠0 then cK t else if n<0∨64≤n then 3 else eQ e
def Ux (h:List En):List En:=if h.any ou then h else []
def setH (h:List En) (r:Nat) (e:En):List En:=Ux ((if h.length=0 then List.replicate 8 zEn else h).set r e)
def zTb:Tb:=Vector.replicate 8 []
def setT (t:Tb) (n:Int) (e:En):Tb:=if h:(0≤n∧n<64)∧setE t n e=0 then t.set (n.toNat / 8) (setH (t[n.toNat / 8]'(by omega)) (n.toNat%8) e) (by omega) else zTb
theorem vZ {t:Tb} {n:Int} {e:En} (h:setE t n e≠0):setT t n e=zTb:=by unfold setT;rw[dif_neg (fun h'=>h h'.2)]
theorem Np {t:Tb} {n:Int} {e:En} (h:setE t n e=0) (hq:q<8) (hr:r<8) (hn:n=((8*q+r:Nat):Int)):setT t n e=t.set q (setH t[q] r e):=by
 unfold setT;subst hn;rw[dif_pos ⟨by omega,h⟩];have e1:(((8*q+r:Nat):Int).toNat / 8)=q:=by rw[bU];omega
 have e2:(((8*q+r:Nat):Int).toNat%8)=r:=by rw[bU];omega
 simp only[e1,e2]
theorem oD {h:List En} (h0:lD h=0):h.length=0∨h.length=8:=by
 by_cases e:h.length≠0∧h.length≠8
 ·rw[yl e] at h0;cases h0
 ·omega
theorem kU {t:Tb} (h:cK t=0) (k:Nat) (hk:k<8):lD t[k]=0:=by
 have key:∀(l:List Int),firstE l=0→∀x∈l,x=0:=by
  intro l
  induction l with
  | nil=>intro _ x hx;cases hx
  | cons y r ih=>
   intro h x hx
   by_cases e:y=0
   ·simp only[firstE,e,if_true] at h;rcases bY.1 hx with rfl|hx
    ·exact e
    ·exact ih h x hx
   ·simp only[firstE,e,if_false] at h
 exact key _ h _ (ib.2 ⟨t[k],by simp,rfl⟩)
def jw (t:Tb) (k:Nat):List Int:=((List.range k).filter fun n:Nat=>ou (dG t (n:Int))).map fun n:Nat=>(n:Int)
def aN (t:Tb):List Int:=jw t 64
theorem qY (t:Tb) (k:Nat):(jw t k).length≤k:=by
 unfold jw;rw[fe];exact aX (yM _ _) (by simp)
theorem Jy {t:Tb} (h:ou (dG t (k:Int))=true):jw t (k+1)=jw t k++[(k:Int)]:=by
 unfold jw;rw[yK,qm,jf];simp[h]
theorem Mw {t:Tb} (h:ou (dG t (k:Int))=false):jw t (k+1)=jw t k:=by
 unfold jw;rw[yK,qm,jf];simp[h]
structure BJ (p:Int→Bool) (l:List Int) (j i:Nat) (cur:List Int):Prop where
 len:cur.length=l.length
 lt:i<j
 le:j≤l.length
 done:cur.take i=(l.take j).filter (fun x => !p x)
 rest:∀t,j≤t→cur[t]?=l[t]?
theorem BJ.start {p:Int→Bool} (hi:i<l.length) (he:p l[i]=true) (hno:∀j (h:j<l.length),j<i→p l[j]=false):BJ p l (i+1) i l:=by
 refine⟨rfl,by omega,by omega,?_,fun _ _=>rfl⟩;rw[mQ,qm,aG hi,Option.toList];have h1:(l.take i).filter (fun q => !p q)=l.take i:=by rw[List.filter_eq_self];intro q hq;obtain⟨j,hj,rfl⟩:=jE.1 hq;simp only[kK] at hj;rw[List.getElem_take];simpa using hno j (by omega) (by omega)
 simp[h1,he]
theorem BJ.keep {p:Int→Bool} {cur:List Int} (h:BJ p l j i cur) (hj:j<l.length) (hne:p l[j]=false):BJ p l (j+1) (i+1) (cur.set i l[j]):=by
 have h1:=h.lt;have h2:=h.len;refine⟨by simp[h.len],by omega,by omega,?_,fun t ht => ?_⟩
 ·have hi:i<cur.length:=by omega
  rw[mQ,vo hi,Option.toList,List.take_set_of_le (ay _),h.done];rw[mQ,qm,aG hj,Option.toList];simp[hne]
 rw[sF (by omega)];exact h.rest t (by omega)
theorem BJ.skip {p:Int→Bool} {cur:List Int} (h:BJ p l j i cur) (hj:j<l.length) (he:p l[j]=true):BJ p l (j+1) i cur:=by
 have h1:=h.lt;refine⟨h.len,by omega,by omega,?_,fun t ht=>h.rest t (by omega)⟩;rw[h.done];rw[mQ,qm,aG hj,Option.toList];simp[he]
theorem BJ.all {p:Int→Bool} (h:∀i (h:i<l.length),p l[i]=false):l.filter (fun x => !p x)=l:=by
 rw[List.filter_eq_self];intro q hq;obtain⟨j,hj,rfl⟩:=jE.1 hq;simpa using h j hj
def pU (t:Tb) (kind k:Int) (n:Int):Bool:=decide ((dG t n).k≠kind)||decide ((dG t n).n≠k)
def nT (t:Tb) (kind k:Int):List Int:=(aN t).filter fun n => !pU t kind k n
theorem RQ {h:List En} (hj:j<h.length) (hc:c=0↔xE h j=false) (h0:0≤h[j].k):((0<h[j].k)→(c+1=0↔xE h (j+1)=false))∧(¬0<h[j].k→(c=0↔xE h (j+1)=false)):=by
 rw[Fz h j hj];constructor
 ·intro hp;have:decide (h[j].k≠0)=true:=by simp;omega
  simp[this]
 intro hp;have:decide (h[j].k≠0)=false:=by simp;omega
 simp[this,hc]
theorem Vo (f g:En):(f==g)=(f.k==g.k&&(f.n==g.n&&f.w==g.w)):=by
 cases f;cases g;rw[lS];simp
def Fa (t u:Tb):Bool:=decide (t=u)
theorem FV {t u:Tb} (k:Nat) (hk:k<8) (h:t[k]≠u[k]):Fa t u=false:=by
 unfold Fa;rw[decide_eq_false_iff_not];rintro rfl;exact h rfl
theorem ES {t u:Tb} (h:∀i (hi:i<8),t[i]=u[i]):Fa t u=true:=by
 unfold Fa;rw[decide_eq_true_eq];exact wX h
def dB (t:Tb):List En:=(List.range 64).map fun n:Nat=>dG t (n:Int)
structure Kr (t:Tb) (m:Nat) (l:List En):Prop where
 len:l.length=64
 at' : ∀n (h:n<64),l[n]?=some (if n<m then dG t (n:Int) else zEn)
theorem Kr.start {t:Tb}:Kr t 0 (List.replicate 64 zEn):=⟨jy,fun n h=>by rw[ny,if_pos h,if_neg (dO _)]⟩
theorem Kr.step {t:Tb} {m:Nat} {l:List En} (h:Kr t m l) (hm:m<64) {E:En} (hE:dG t (m:Int)=E):Kr t (m+1) (l.set m E):=by
 refine⟨by simp[h.len],fun n hn => ?_⟩
 by_cases e:n=m
 ·subst e;rw[vo (by rw[h.len];exact hn),if_pos (by omega),hE]
 rw[sF (fun e2=>e e2.symm),h.at' n hn];congr 1
 by_cases e2:n<m
 ·rw[if_pos e2,if_pos (by omega)]
 ·rw[if_neg e2,if_neg (by omega)]
theorem Af {t:Tb} (hq:q<8) (hr:r<8) (h:t[q].length=0):dG t ((8*q+r:Nat):Int)=zEn:=by
 rw[zh hq hr,if_neg (by omega)]
theorem EQ {t:Tb} (hq:q<8) (hr:r<8) (h:t[q].length=8) {E:En} (hE:t[q][r]?=some E):dG t ((8*q+r:Nat):Int)=E:=by
 rw[zh hq hr,if_pos h,aW,hE];rfl
theorem Kr.skip {t:Tb} {l:List En} (h:Kr t (8*q) l) (hq:q<8) (h0:t[q].length=0):Kr t (8*(q+1)) l:=by
 refine⟨h.len,fun n hn => ?_⟩;rw[h.at' n hn];congr 1
 by_cases e2:n<8*q
 ·rw[if_pos e2,if_pos (by omega)]
 rw[if_neg e2]
 by_cases e3:n<8*(q+1)
 ·rw[if_pos e3];obtain⟨r,rfl⟩:∃r,n=8*q+r:=⟨n-8*q,by omega⟩;exact (Af hq (by omega) h0).symm
 ·rw[if_neg e3]
theorem Kr.fin {t:Tb} {l:List En} (h:Kr t 64 l):l=dB t:=by
 apply mK;intro n;unfold dB
 by_cases hn:n<64
 ·rw[h.at' n hn,if_pos hn];simp[hn]
 ·rw[dI (by rw[h.len];omega),dI (by simp;omega)]
def Hw (e:En):Bool:=decide (0<e.k)
def lc (l:List En) (i:Nat):List En:=(l.drop (8*i)).take 8
def lQ (l:List En) (i:Nat):List En:=if (lc l i).any Hw then lc l i else []
def fT (l:List En):Tb:=Vector.ofFn fun i:Fin 8=>lQ l i.val
def xI (l:List En) (i k:Nat):Bool:=((l.drop (8*i)).take k).any Hw
theorem JA {l:List En} (hl:l.length=64) (hi:i<8) (hk:k<8):∃E,l[8*i+k]?=some E∧(l.drop (8*i)).take (k+1)=(l.drop (8*i)).take k++[E]:=by
 refine⟨l[8*i+k]'(by omega),aG (by omega),?_⟩;rw[mQ,qN,aG (by omega)];rfl
theorem Dt {l:List En} (hl:l.length=64) (hi:i<8) (hk:k≤8):((l.drop (8*i)).take k).length=k:=by
 simp;omega
structure EL (l:List En) (i:Nat) (h:List En) (t:Tb):Prop where
 lo:∀j (hj:j<8),j<i→t[j]=lQ l j
 at' : ∀(hi:i<8),t[i]=h
 hi:∀j (hj:j<8),i<j→t[j]=[]
theorem EL.start {l:List En}:EL l 0 [] zTb:=⟨fun _ _ h=>absurd h (dO _),fun _=>by simp[zTb],fun j hj _=>by simp[zTb]⟩
theorem EL.next {l:List En} {t:Tb} (h:EL l i (lQ l i) t) (hi:i<8):EL l (i+1) [] t:=by
 refine⟨fun j hj hji => ?_,fun h2=>h.hi _ h2 (by omega),fun j hj hji=>h.hi j hj (by omega)⟩
 by_cases e:j=i
 ·subst e;exact h.at' hj
 ·exact h.lo j hj (by omega)
theorem EL.set {l:List En} {h h2:List En} {t:Tb} (hh:EL l i h t) (hi:i<8):EL l i h2 (t.set i h2):=
 ⟨fun j hj hji=>by rw[wO hi hj (by omega)];exact hh.lo j hj hji,fun _=>by simp,fun j hj hji=>by rw[wO hi hj (by omega)];exact hh.hi j hj hji⟩
theorem EL.fin {l:List En} {h:List En} {t:Tb} (hh:EL l 8 h t):t=fT l:=by
 apply wX;intro i hi;rw[hh.lo i hi hi];simp[fT]
theorem Tj {l:List En} (h:xI l i 8=false):lQ l i=[]:=by
 unfold lQ lc;unfold xI at h;rw[h];rfl
theorem QH {l:List En} (h:xI l i 8=true):lQ l i=(l.drop (8*i)).take 8:=by
 unfold lQ lc;unfold xI at h;rw[h];rfl
structure Fi where
 n:Int
 b:List Int
 deriving DecidableEq
structure St where
 fs:List Fi
 count:Int
 deriving DecidableEq
theorem xn {n:Int} (h:n≤96):dZ n≤12:=by unfold dZ;split<;>omega
def gu (c:Int):List Int→List Int→Int
 | _,[]=>0
 | seen,b::r=>if b < -1∨c≤b then 3 else if 0≤b∧b∈seen then 7 else gu c (seen++[b]) r
def ni (c:Int):List Int→List Fi→Int
 | _,[]=>0
 | seen,f::r=>if f.n<0∨96<f.n then 3 else if (f.b.length:Int)≠dZ f.n then 2 else if gu c seen f.b≠0 then gu c seen f.b else ni c (seen++f.b) r
theorem uF (c:Int) (seen:List Int) (b:Int) (r:List Int):gu c seen (b::r)=if b < -1∨c≤b then 3 else if 0≤b∧b∈seen then 7 else gu c (seen++[b]) r:=rfl
def aM (s:St):Int:=if 5<s.fs.length∨s.count<0∨80<s.count then 4 else ni s.count [] s.fs
def rH (l:List Int) (j:Int):Bool:=decide (j∈l)
theorem Ea (l:List Int) (b:Int):(fun i=>rH l i||decide (i=b))=rH (l++[b]):=by
 funext i;unfold rH;rw[lS];simp
theorem drop_at {α:Type} {l:List α} {x:α} (h:l[k]?=some x):l.drop k=x::l.drop (k+1):=by
 have hk:=(bW.1 h).1;rw[vk hk,(bW.1 h).2]
theorem take_at {α:Type} {l:List α} {x:α} (h:l[k]?=some x):l.take (k+1)=l.take k++[x]:=by
 rw[mQ,h];rfl
def newE (n:Int):Int:=if n<0∨80<n then 4 else 0
def Ta (n:Int):Int:=if n<0∨80<n then 0 else n
def kE (s:St):List Int:=s.fs.flatMap Fi.b
def Wo (l:List Int):Nat:=(l.filter fun x=>decide (0≤x)).length
def xQ (s:St):Int:=s.count-Wo (kE s)
def gD (s:St) (b:Int):Bool:=decide (b∈kE s)
theorem TS (l:List Int) (x:Int):l.any (fun y=>decide (x=y))=decide (x∈l):=by
 rw[lS,iW,decide_eq_true_eq];constructor
 ·rintro⟨y,hy,h⟩;rw[of_decide_eq_true h];exact hy
 ·intro h;exact⟨x,h,decide_eq_true rfl⟩
def gG (s:St):Int:=match (List.range s.count.toNat).find? (fun b:Nat => !gD s b) with
 | some b=>b
 | none => -1
theorem PE {s:St} (hb:(b:Int)<s.count) (h:∀i:Nat,i<b→gD s i=true) (hf:gD s b=false):gG s=b:=by
 unfold gG;have:(List.range s.count.toNat).find? (fun b:Nat => !gD s b)=some b:=by rw[GU];exact⟨by simp[hf],dE.2 (by omega),fun j hj=>by simp[h j hj]⟩
 rw[this]
theorem JR {s:St} (h:∀i:Nat,(i:Int)<s.count→gD s i=true):gG s = -1:=by
 unfold gG;have:(List.range s.count.toNat).find? (fun b:Nat => !gD s b)=none:=by rw[nX];intro i hi;have:=dE.1 hi;simp[h i (by omega)]
 rw[this]
def zSt:St:=⟨[],0⟩
theorem jv {s:St} (h:aM s=0):s.fs.length≤5∧0≤s.count∧s.count≤80:=by
 unfold aM at h
 by_cases g:5<s.fs.length∨s.count<0∨80<s.count
 ·rw[if_pos g] at h;cases h
 ·omega
theorem DD {c:Int}:∀ {fs:List Fi} {seen:List Int},ni c seen fs=0→∀f∈fs,0≤f.n∧f.n≤96∧(f.b.length:Int)=dZ f.n∧∀b∈f.b,-1≤b∧b<c
 | f0::r,seen,h,f,hf=>by
  unfold ni at h
  by_cases g1:f0.n<0∨96<f0.n
  ·rw[if_pos g1] at h;cases h
  rw[if_neg g1] at h
  by_cases g2:(f0.b.length:Int)≠dZ f0.n
  ·rw[if_pos g2] at h;cases h
  rw[if_neg g2] at h
  by_cases g3:gu c seen f0.b≠0
  ·rw[if_pos g3] at h;exact absurd h g3
  rw[if_neg g3] at h;rcases bY.1 hf with rfl|hf
  ·refine⟨by omega,by omega,sV.1 g2,?_⟩;have key:∀(l:List Int) (sn:List Int),gu c sn l=0→∀b∈l,-1≤b∧b<c:=by
    intro l
    induction l with
    | nil=>intro _ _ b hb;cases hb
    | cons x r ih=>
     intro sn h b hb;rw[uF] at h
     by_cases k1:x < -1∨c≤x
     ·rw[if_pos k1] at h;cases h
     rw[if_neg k1] at h
     by_cases k2:0≤x∧x∈sn
     ·rw[if_pos k2] at h;cases h
     rw[if_neg k2] at h;rcases bY.1 hb with rfl|hb
     ·omega
     ·exact ih _ h b hb
   exact key _ _ (sV.1 g3)
  ·exact DD h f hf
theorem zk {s:St} (h:aM s=0):∀f∈s.fs,0≤f.n∧f.n≤96∧(f.b.length:Int)=dZ f.n∧∀b∈f.b,-1≤b∧b<s.count:=by
 have h1:=jv h;unfold aM at h;rw[if_neg (by omega)] at h;exact DD h
def aU (s:St) (k:Int):Fi:=if 0≤k then s.fs.getD k.toNat ⟨0,[]⟩ else ⟨0,[]⟩
def zW (s:St) (k:Int) (f:Fi):St:=⟨s.fs.set k.toNat f,s.count⟩
def bL (s:St) (k i:Int):Int:=(aU s k).b.getD i.toNat 0
def dn (s:St) (k i:Int):Int:=
 if aM s≠0 then aM s else if k<0∨(s.fs.length:Int)≤k then 5 else if i<0∨((aU s k).b.length:Int)≤i then 9
 else if bL s k i<0∧gG s<0 then 10 else 0
def dQ (s:St) (k i:Int):Int:=if dn s k i≠0 then 0 else if bL s k i<0 then gG s else bL s k i
def dJ (s:St) (k i:Int):St:=if dn s k i≠0 then zSt else if bL s k i<0 then zW s k ⟨(aU s k).n,(aU s k).b.set i.toNat (gG s)⟩ else s
theorem xm {s:St} {k i e:Int} (h:dn s k i=e) (he:e≠0):dn s k i=e∧dQ s k i=0∧dJ s k i=zSt:=by
 refine⟨h,?_,?_⟩
 ·unfold dQ;rw[if_pos (by rw[h];exact he)]
 ·unfold dJ;rw[if_pos (by rw[h];exact he)]
theorem OH {s:St} (h:s.count≤80):gG s<80∧-1≤gG s:=by
 unfold gG;cases hf:(List.range s.count.toNat).find? (fun b:Nat => !gD s b) with
 | none=>simp
 | some b=>
  have:=dE.1 (tN hf);simp;omega
def jZ (l:List Int):List Int:=l.filter fun x=>decide (0≤x)
theorem uB (l m:List Int):jZ (l++m)=jZ l++jZ m:=qm _ _
theorem iX {x:Int}:x∈jZ l↔x∈l∧0≤x:=by unfold jZ;simp
theorem AP {c:Int}:∀ {l seen:List Int},gu c seen l=0↔(∀b∈l,-1≤b∧b<c)∧(jZ l).Nodup∧∀b∈l,0≤b→¬b∈seen
 | [],seen=>by simp[gu,jZ]
 | x::r,seen=>by
  rw[uF]
  by_cases k1:x < -1∨c≤x
  ·rw[if_pos k1];refine⟨fun h=>(by cases h),fun h => ?_⟩;have:=h.1 x gL;omega
  rw[if_neg k1]
  by_cases k2:0≤x∧x∈seen
  ·rw[if_pos k2];refine⟨fun h=>(by cases h),fun h=>absurd k2.2 (h.2.2 x gL k2.1)⟩
  rw[if_neg k2,AP (l:=r)];have hp:jZ (x::r)=if 0≤x then x::jZ r else jZ r:=by unfold jZ;rw[IC];simp
  rw[hp];constructor
  ·intro ⟨h1,h2,h3⟩;refine⟨fun b hb => ?_,?_,fun b hb h0 hs => ?_⟩
   ·rcases bY.1 hb with rfl|hb
    ·omega
    ·exact h1 b hb
   ·by_cases hx:0≤x
    ·rw[if_pos hx];refine sK.2 ⟨fun hm => ?_,h2⟩;exact h3 x (iX.1 hm).1 hx (sU _ (bq.2 rfl))
    ·rw[if_neg hx];exact h2
   rcases bY.1 hb with rfl|hb
   ·exact k2 ⟨h0,hs⟩
   ·exact h3 b hb h0 (oM _ hs)
  intro ⟨h1,h2,h3⟩;refine⟨fun b hb=>h1 b (jg _ hb),?_,fun b hb h0 hs => ?_⟩
  ·by_cases hx:0≤x
   ·rw[if_pos hx] at h2;exact (sK.1 h2).2
   ·rw[if_neg hx] at h2;exact h2
  rcases fJ.1 hs with hs|hs
  ·exact h3 b (jg _ hb) h0 hs
  rw[bq.1 hs] at hb h0;rw[if_pos h0] at h2;exact (sK.1 h2).1 (iX.2 ⟨hb,h0⟩)
def DI (c:Int) (f:Fi):Prop:=0≤f.n∧f.n≤96∧(f.b.length:Int)=dZ f.n∧∀b∈f.b,-1≤b∧b<c
theorem Fy {c:Int}:∀ {fs:List Fi} {seen:List Int},ni c seen fs=0↔(∀f∈fs,DI c f)∧(jZ (fs.flatMap Fi.b)).Nodup∧∀b∈fs.flatMap Fi.b,0≤b→¬b∈seen
 | [],seen=>by simp[ni,jZ]
 | f::r,seen=>by
  unfold ni
  by_cases g1:f.n<0∨96<f.n
  ·rw[if_pos g1];refine⟨fun h=>(by cases h),fun h => ?_⟩;have:=h.1 f gL;unfold DI at this;omega
  rw[if_neg g1]
  by_cases g2:(f.b.length:Int)≠dZ f.n
  ·rw[if_pos g2];exact⟨fun h=>(by cases h),fun h=>absurd (h.1 f gL).2.2.1 g2⟩
  rw[if_neg g2,lZ,uB]
  by_cases g3:gu c seen f.b≠0
  ·rw[if_pos g3];refine⟨fun h=>absurd h g3,fun h=>absurd (AP.2 ⟨(h.1 f gL).2.2.2,(xx.1 h.2.1).1,fun b hb=>h.2.2 b (oM _ hb)⟩) g3⟩
  rw[if_neg g3,Fy (fs:=r)];have g3':=AP.1 (sV.1 g3);constructor
  ·intro ⟨h1,h2,h3⟩;refine⟨fun x hx => ?_,xx.2 ⟨g3'.2.1,h2,fun a ha b hb e => ?_⟩,fun b hb h0 hs => ?_⟩
   ·rcases bY.1 hx with rfl|hx
    ·exact⟨by omega,by omega,sV.1 g2,g3'.1⟩
    ·exact h1 x hx
   ·subst e;exact h3 a (iX.1 hb).1 (iX.1 hb).2 (sU _ (iX.1 ha).1)
   rcases fJ.1 hb with hb|hb
   ·exact g3'.2.2 b hb h0 hs
   ·exact h3 b hb h0 (oM _ hs)
  intro ⟨h1,h2,h3⟩;obtain⟨n1,n2,n3⟩:=xx.1 h2;refine⟨fun x hx=>h1 x (jg _ hx),n2,fun b hb h0 hs => ?_⟩;rcases fJ.1 hs with hs|hs
  ·exact h3 b (sU _ hb) h0 hs
  ·exact n3 b (iX.2 ⟨hs,h0⟩) b (iX.2 ⟨hb,h0⟩) rfl
theorem lh {s:St}:aM s=0↔(s.fs.length≤5∧0≤s.count∧s.count≤80)∧(∀f∈s.fs,DI s.count f)∧(jZ (kE s)).Nodup:=by
 unfold aM
 by_cases g:5<s.fs.length∨s.count<0∨80<s.count
 ·rw[if_pos g];exact⟨fun h=>(by cases h),fun h=>by omega⟩
 rw[if_neg g,Fy];exact⟨fun h=>⟨by omega,h.1,h.2.1⟩,fun h=>⟨h.2.1,h.2.2,fun b _ _ hm=>by cases hm⟩⟩
def wC (N:Nat) (seen:List Int):List Bool:=(List.range N).map fun i:Nat=>decide ((i:Int)∈seen)
theorem zA (N:Nat) (seen:List Int):(wC N seen).length=N:=by simp[wC]
theorem Si (N:Nat):wC N []=List.replicate N false:=by
 apply mK;intro i;unfold wC
 by_cases hi:i<N
 ·simp[hi,ny]
 ·rw[dI (by simp;omega),dI (by simp;omega)]
theorem Ic (N:Nat) (seen:List Int) (i:Nat) (hi:i<N):(wC N seen)[i]?=some (decide ((i:Int)∈seen)):=by simp[wC,hi]
theorem Qi (N:Nat) (seen:List Int) (x:Int) (hx:x<0):wC N (seen++[x])=wC N seen:=by
 unfold wC;apply zw;intro i _;have:¬(i:Int)=x:=by omega
 simp[this]
theorem RX (N:Nat) (seen:List Int) (X:Nat) (hX:X<N):(wC N seen).set X true=wC N (seen++[(X:Int)]):=by
 apply mK;intro i
 by_cases hi:i<N
 ·rw[Ic N _ i hi,mf]
  by_cases e:X=i
  ·subst e;rw[if_pos rfl,if_pos (by rw[zA];exact hi)];simp
  rw[if_neg e,Ic N _ i hi];have:¬(i:Int)=(X:Int):=by omega
  simp[this]
 ·rw[dI (by simp[zA];omega),dI (by simp[zA];omega)]
structure Ar where
 fr:Int
 en:Int
 rd:Bool
 wr:Bool
 sh:Bool
 fi:Int
 ba:Int
 deriving DecidableEq
def aP (a:Ar):Int:=if a.fr<0∨a.en≤a.fr∨64<a.en∨a.fi < -1∨5≤a.fi∨a.ba<0 then 3 else if (a.fi<0∧(a.ba≠0∨a.sh=true))∨0≤a.fi∧12-(a.en-a.fr)<a.ba then 7 else 0
def jB (a:Ar):Int:=if 0≤a.fi then a.ba+a.en-a.fr else 0
def dz (a b:Ar):Bool:=a.en==b.fr&&a.rd==b.rd&&a.wr==b.wr&&a.sh==b.sh&&a.fi==b.fi&&b.ba==jB a
def Bj (a:Ar):Prop:=(0≤a.ba∧a.ba≤12)∧(0≤a.fr∧a.fr≤64)∧0≤a.en∧a.en≤64
theorem bC {a:Ar} (h:aP a=0):Bj a∧a.fr<a.en∧-1≤a.fi∧a.fi<5∧(a.fi<0→a.ba=0∧a.sh=false)∧(0≤a.fi→a.ba≤12-(a.en-a.fr)):=by
 unfold aP at h;split at h
 ·omega
 rename_i h1;split at h
 ·omega
 rename_i h2;have hs:a.fi<0→a.ba=0∧a.sh=false:=fun hf=>⟨Decidable.byContradiction fun h=>h2 (.inl ⟨hf,.inl h⟩),by
  cases hsh:a.sh
  ·rfl
  ·exact absurd (.inl ⟨hf,.inr hsh⟩) h2⟩
 have hb:0≤a.fi→a.ba≤12-(a.en-a.fr):=fun hf=>by omega
 unfold Bj;refine⟨⟨⟨by omega,?_⟩,by omega,by omega,by omega⟩,by omega,by omega,by omega,hs,hb⟩
 by_cases hf:a.fi<0
 ·have:=(hs hf).1;omega
 ·have:=hb (by omega);omega
def jb (p:Option Ar) (i:Nat):List Ar→Int × Int
 | []=>(0,0)
 | a::r=>if aP a≠0 then (aP a,i) else if (match p with | some q=>decide (a.fr<q.en)||dz q a | none=>false) then (2,i) else jb (some a) (i+1) r
def bG (l:List Ar):Int × Int:=if 16<l.length then (4,0) else jb none 0 l
def pI (l:List Ar) (k:Nat):Option Ar:=if k=0 then none else l[k-1]?
theorem Dx {l:List Ar} (hk:k<l.length):pI l (k+1)=some l[k]:=by simp[pI,hk]
def vL (p:Option Ar) (a:Ar):Bool:=match p with | some q=>decide (a.fr<q.en)||dz q a | none=>false
theorem nz (p:Option Ar) (i:Nat) (a:Ar) (r:List Ar):jb p i (a::r)=if aP a≠0 then (aP a,(i:Int)) else if vL p a then (2,(i:Int)) else jb (some a) (i+1) r:=rfl
theorem uI {l:List Ar} (hlt:k<l.length) (he:aP l[k]=0) (hno:vL (pI l k) l[k]=false):jb (pI l k) k (l.drop k)=jb (pI l (k+1)) (k+1) (l.drop (k+1)):=by
 rw[vk hlt,nz,if_neg (by rw[he];simp),hno,Dx hlt];rfl
theorem uH {l:List Ar} (hlt:k<l.length) (he:aP l[k]=0) (hno:vL (pI l k) l[k]=true):jb (pI l k) k (l.drop k)=(2,(k:Int)):=by
 rw[vk hlt,nz,if_neg (by rw[he];simp),hno];rfl
theorem Fw {l:List Ar} (hlt:k<l.length) (he:aP l[k]≠0):jb (pI l k) k (l.drop k)=(aP l[k],(k:Int)):=by
 rw[vk hlt,nz,if_pos he]
theorem JV {l:List Ar} {m:Nat} (hm:m+1<l.length):vL (pI l (m+1)) l[m+1]=(decide (l[m+1].fr<l[m].en)||dz l[m] l[m+1]):=by
 rw[Dx (show m<l.length by omega)];rfl
def nS (n:Int) (a:Ar):Bool:=decide (a.fr≤n)&&decide (n<a.en)
def kD (l:List Ar) (n:Int):Int:=idx (nS n) l
def pR (b a:Ar):Bool:=decide (a.fr<b.en)&&decide (b.fr<a.en)
def zt (b a:Ar):Bool:=decide (b.fr<a.fr)
def zAr:Ar:=⟨0,0,false,false,false,0,0⟩
def yU (acc:List Ar) (a:Ar):List Ar:=match acc.getLast? with
 | some q=>if dz q a then acc.set (acc.length-1) { q with en:=a.en } else acc++[a]
 | none=>acc++[a]
def sj (l:List Ar):List Ar:=l.foldl yU []
theorem AZ {l:List Ar} (h:(bG l).1=0):l.length≤16∧∀a∈l,aP a=0:=by
 unfold bG at h;split at h
 ·exact absurd h (by decide)
 refine⟨by omega,?_⟩;have key:∀(l:List Ar) (p:Option Ar) (i:Nat),(jb p i l).1=0→∀a∈l,aP a=0:=by
  intro l
  induction l with
  | nil=>intro p i _ a ha;cases ha
  | cons b r ih=>
   intro p i h a ha;rw[nz] at h;split at h
   ·rename_i hb;exact absurd h hb
   rename_i hb;split at h
   ·exact absurd (show (2:Int)=0 from h) (by decide)
   rcases bY.1 ha with rfl|ha
   ·exact Decidable.byContradiction hb
   ·exact ih _ _ h a ha
 exact key l none 0 h
def UW (l:List Ar) (x:Ar):Nat:=match l.findIdx? (zt x) with
 | some k=>k
 | none=>l.length
def Du (l:List Ar) (x:Ar):List Ar:=l.take (UW l x)++x::l.drop (UW l x)
def AA (l:List Ar) (x:Ar):Int:=if (bG l).1≠0 then (bG l).1 else if aP x≠0 then aP x else if l.any (pR x)=true then 6 else if 16<(sj (Du l x)).length then 4 else 0
def xY (l:List Ar) (x:Ar):List Ar:=if AA l x≠0 then [] else sj (Du l x)
theorem GQ {l:List Ar} {x:Ar} {e:Int} (h:AA l x=e) (he:e≠0):AA l x=e∧xY l x=[]:=by
 refine⟨h,?_⟩;unfold xY;rw[if_pos (by rw[h];exact he)]
def DL (n:Nat):Int:=if 16<n then 4 else 0
def aa:Ar:=⟨2,8,true,false,false,-1,0⟩
structure Pg where
 rd:Bool
 wr:Bool
 sh:Bool
 fi:Int
 pg:Int
 deriving DecidableEq
def jV (a:Ar) (n:Int):Pg:=⟨a.rd,a.wr,a.sh,a.fi,if 0≤a.fi then a.ba+n-a.fr else 0⟩
def onA:List Ar→Int→Option Pg
 | [],_=>none
 | a::r,n=>if nS n a then some (jV a n) else onA r n
theorem dF {n:Int} {a:Ar}:nS n a=true↔a.fr≤n∧n<a.en:=by unfold nS;simp
theorem dh (a:Ar) (r:List Ar) (n:Int):onA (a::r) n=if nS n a then some (jV a n) else onA r n:=rfl
theorem Hu (l m:List Ar) (n:Int):onA (l++m) n=(onA l n).or (onA m n):=by
 induction l with
 | nil=>simp[onA]
 | cons a r ih=>rw[GD,dh,dh];split<;>simp[ih]
def srtF:Int→List Ar→Prop
 | _,[]=>True
 | lo,a::r=>aP a=0∧lo≤a.fr∧srtF a.en r
theorem srtF_ok:∀ {l:List Ar} {lo:Int},srtF lo l→∀a∈l,aP a=0∧lo≤a.fr
 | b::r,lo,h,a,ha=>by
  rcases bY.1 ha with rfl|ha
  ·exact⟨h.1,h.2.1⟩
  have h1:=srtF_ok h.2.2 a ha;have h2:=(bC h.1).2.1;have h3:=h.2.1;exact⟨h1.1,by omega⟩
theorem on_low:∀ {l:List Ar} {lo n:Int},srtF lo l→n<lo→onA l n=none
 | [],_,_,_,_=>rfl
 | a::r,lo,n,h,hn=>by have h1:=h.2.1;have h2:=(bC h.1).2.1;rw[dh,if_neg (by rw[dF];omega)];exact on_low h.2.2 (by omega)
def okF (p:Option Ar):List Ar→Prop
 | []=>True
 | a::r=>aP a=0∧vL p a=false∧okF (some a) r
theorem yF {q a:Ar}:vL (some q) a=false↔q.en≤a.fr∧dz q a=false:=by
 unfold vL;simp
theorem okF_srt:∀ {l:List Ar} {q:Ar},okF (some q) l→srtF q.en l
 | [],_,_=>trivial
 | a::r,q,h=>⟨h.1,(yF.1 h.2.1).1,okF_srt h.2.2⟩
theorem nI {l:List Ar} (h:okF none l):srtF 0 l:=by
 match l,h with
 | [],_=>trivial
 | a::r,h=>exact⟨h.1,by have:=(bC h.1).1.2.1.1;exact this,okF_srt h.2.2⟩
theorem wrongAt_iff:∀ {l:List Ar} {p:Option Ar} {i:Nat},(jb p i l).1=0↔okF p l
 | [],_,_=>⟨fun _=>trivial,fun _=>rfl⟩
 | a::r,p,i=>by
  rw[nz]
  by_cases h:aP a=0
  ·rw[if_neg (by rw[h];simp)];cases hb:vL p a
   ·rw[if_neg (by simp),wrongAt_iff];exact⟨fun h2=>⟨h,hb,h2⟩,fun h2=>h2.2.2⟩
   rw[if_pos rfl];refine⟨fun h2=>absurd (show (2:Int)=0 from h2) (by decide),fun h2 => ?_⟩;have h3:=h2.2.1;rw[hb] at h3;cases h3
  rw[if_pos h];exact⟨fun h2=>absurd h2 h,fun h2=>absurd h2.1 h⟩
theorem jD {l:List Ar}:(bG l).1=0↔l.length≤16∧okF none l:=by
 unfold bG
 by_cases h:16<l.length
 ·rw[if_pos h];exact⟨fun h2=>absurd (show (4:Int)=0 from h2) (by decide),fun h2=>by omega⟩
 rw[if_neg h,wrongAt_iff];exact⟨fun h2=>⟨by omega,h2⟩,fun h2=>h2.2⟩
theorem uo {q a:Ar}:dz q a=true↔q.en=a.fr∧q.rd=a.rd∧q.wr=a.wr∧q.sh=a.sh∧q.fi=a.fi∧a.ba=jB q:=by
 unfold dz;simp[and_assoc]
theorem PZ {q a:Ar} (h:dz q a=true) (n:Int):jV a n=jV q n:=by
 obtain⟨h1,h2,h3,h4,h5,h6⟩:=uo.1 h;unfold jV jB at *
 rw[←h2,←h3,←h4,←h5];split
 ·rename_i hf;rw[h6,if_pos hf];congr 1;omega
 ·rfl
theorem on_uniq:∀ {l m:List Ar} {p q:Option Ar},okF p l→okF q m→(∀n,onA l n=onA m n)→l=m
 | [],[],_,_,_,_,_=>rfl
 | [],b::s,_,_,_,hm,h=>by have:=h b.fr;rw[dh,if_pos (dF.2 ⟨rM _,(bC hm.1).2.1⟩)] at this;cases this
 | a::r,[],_,_,hl,_,h=>by have:=h a.fr;rw[dh,if_pos (dF.2 ⟨rM _,(bC hl.1).2.1⟩)] at this;cases this
 | a::r,b::s,p,q,hl,hm,h=>by
  have ea:=bC hl.1;have eb:=bC hm.1;have sr:=okF_srt hl.2.2;have ss:=okF_srt hm.2.2;have half:∀ {a b:Ar} {r s:List Ar},aP a=0→aP b=0→srtF a.en r→srtF b.en s→(∀n,onA (a::r) n=onA (b::s) n)→¬a.fr<b.fr:=by intro a b r s ha hb hr hs h hlt;have h1:=h a.fr;have h2:=(bC ha).2.1;have h3:=(bC hb).2.1;rw[dh,if_pos (dF.2 ⟨rM _,h2⟩),dh,if_neg (by rw[dF];omega),on_low hs (by omega)] at h1;cases h1
  have hfr:a.fr=b.fr:=by have h1:=half hl.1 hm.1 sr ss h;have h2:=half hm.1 hl.1 ss sr (fun n=>(h n).symm);omega
  have h1:=h a.fr;rw[dh,if_pos (dF.2 ⟨rM _,ea.2.1⟩),dh,if_pos (dF.2 ⟨by omega,by have:=eb.2.1;omega⟩)] at h1;have hpg:=aJ h1;unfold jV at hpg;simp only[Pg.mk.injEq] at hpg;obtain⟨g1,g2,g3,g4,g5⟩:=hpg;have hba:a.ba=b.ba:=by
   by_cases hf:0≤a.fi
   ·rw[if_pos hf,if_pos (by omega)] at g5;omega
   ·rw[(ea.2.2.2.2.1 (by omega)).1,(eb.2.2.2.2.1 (by omega)).1]
  have half2:∀ {a b:Ar} {r s:List Ar},aP a=0→aP b=0→okF (some a) r→a.fr=b.fr→a.rd=b.rd→a.wr=b.wr→a.sh=b.sh→a.fi=b.fi→a.ba=b.ba→(∀n,onA (a::r) n=onA (b::s) n)→¬a.en<b.en:=by
   intro a b r s ha hb hr k1 k2 k3 k4 k5 k6 h hlt;have h1:=h a.en;have h2:=(bC ha).2.1;rw[dh,if_neg (by rw[dF];omega),dh,if_pos (dF.2 ⟨by omega,hlt⟩)] at h1
   match r,hr with
   | [],_=>cases h1
   | c::t,hr=>
    have hc:=yF.1 hr.2.1;rw[dh] at h1;split at h1
    ·rename_i hin;rw[dF] at hin;have hp:=aJ h1;unfold jV at hp;simp only[Pg.mk.injEq] at hp;obtain⟨g1,g2,g3,g4,g5⟩:=hp;have:dz a c=true:=by
      rw[uo];refine⟨by omega,by rw[k2,g1],by rw[k3,g2],by rw[k4,g3],by omega,?_⟩;unfold jB
      by_cases hf:0≤a.fi
      ·rw[if_pos (by omega),if_pos (by omega)] at g5;rw[if_pos hf];omega
      rw[if_neg hf];exact ((bC hr.1).2.2.2.2.1 (by omega)).1
     rw[hc.2] at this;cases this
    rename_i hin;rw[dF] at hin;have:=(bC hr.1).2.1;rw[on_low (okF_srt hr.2.2) (by omega)] at h1;cases h1
  have hen:a.en=b.en:=by have h1:=half2 hl.1 hm.1 hl.2.2 hfr g1 g2 g3 g4 hba h;have h2:=half2 hm.1 hl.1 hm.2.2 hfr.symm g1.symm g2.symm g3.symm g4.symm hba.symm (fun n=>(h n).symm);omega
  have hab:a=b:=by
   cases a;cases b
   simp_all
  subst hab;congr 1;refine on_uniq hl.2.2 hm.2.2 fun n => ?_;have h1:=h n;rw[dh,dh] at h1;split at h1
  ·rename_i hin;rw[dF] at hin;rw[on_low sr (by omega),on_low ss (by omega)]
  ·exact h1
def sZ (q:Ar):List Ar→List Ar
 | []=>[q]
 | a::r=>if dz q a then sZ { q with en:=a.en } r else q::sZ a r
theorem Kb (init:List Ar) (q a:Ar):yU (init++[q]) a=if dz q a then init++[{ q with en:=a.en }] else init++[q]++[a]:=by
 unfold yU;rw[Ce];simp only[];split
 ·simp
 ·rfl
theorem tidy_go:∀(r:List Ar) (init:List Ar) (q:Ar),r.foldl yU (init++[q])=init++sZ q r
 | [],init,q=>rfl
 | a::r,init,q=>by
  rw[zF,Kb];unfold sZ;split
  ·exact tidy_go r init _
  ·rw[tidy_go r (init++[q]) a,jC];rfl
theorem yw (a:Ar) (r:List Ar):sj (a::r)=sZ a r:=by
 unfold sj;rw[zF];exact tidy_go r [] a
theorem Bc {q a:Ar} (hq:aP q=0) (ha:aP a=0) (h:dz q a=true):aP { q with en:=a.en }=0:=by
 obtain⟨h1,h2,h3,h4,h5,h6⟩:=uo.1 h;have eq:=bC hq;have ea:=bC ha;unfold Bj at eq ea;unfold aP;rw[if_neg (by simp only[];omega),if_neg];simp only[];rintro (⟨k1,k2⟩|⟨k1,k2⟩)
 ·have:=eq.2.2.2.2.1 k1;rcases k2 with k2|k2
  ·exact k2 this.1
  ·rw[this.2] at k2;cases k2
 have h7:=ea.2.2.2.2.2 (by omega);unfold jB at h6;rw[if_pos k1] at h6;omega
theorem Rh {q a:Ar} {r:List Ar} (hq:aP q=0) (ha:aP a=0) (h:dz q a=true) (n:Int):onA ({ q with en:=a.en }::r) n=onA (q::a::r) n:=by
 have hp:=PZ h n;obtain⟨h1,_⟩:=uo.1 h;have h2:=(bC hq).2.1;have h3:=(bC ha).2.1;rw[dh,dh,dh];have hpp:jV { q with en:=a.en } n=jV q n:=rfl
 by_cases c1:nS n q=true
 ·rw[if_pos c1,if_pos (by rw[dF] at c1 ⊢; simp only[];omega),hpp]
 rw[if_neg c1]
 by_cases c2:nS n a=true
 ·rw[if_pos c2,if_pos (by rw[dF] at c2 ⊢; simp only[];omega),hpp,hp]
 rw[if_neg c2,if_neg];rw[dF] at c1 c2 ⊢;simp only[];omega
def KG (x:Ar):List Ar→List Ar
 | []=>[x]
 | a::r=>if x.fr<a.fr then x::a::r else a::KG x r
theorem Ci (x:Ar):∀l:List Ar,Du l x=KG x l
 | []=>rfl
 | a::r=>by
  have ih:=Ci x r;unfold Du UW at ih ⊢;unfold KG;rw[zB]
  by_cases h:x.fr<a.fr
  ·rw[if_pos h,if_pos (show zt x a=true from decide_eq_true h)];rfl
  rw[if_neg h,if_neg (show ¬zt x a=true by unfold zt;simpa using h)];cases hq:r.findIdx? (zt x) with
  | none=>rw[hq] at ih;simp only[Gp] at *; rw[←ih];simp
  | some k=>rw[hq] at ih;simp only[tC] at *; rw[←ih];simp
theorem Hl {x:Ar} (hx:aP x=0) (n:Int):∀ {l:List Ar} {lo:Int},srtF lo l→(∀a∈l,pR x a=false)→onA (KG x l) n=if nS n x then some (jV x n) else onA l n
 | [],_,_,_=>rfl
 | a::r,lo,h,hm=>by
  unfold KG;split
  ·rfl
  rename_i hlt;rw[dh,dh,Hl hx n h.2.2 (fun b hb=>hm b (jg _ hb))]
  by_cases c1:nS n a=true
  ·rw[if_pos c1,if_pos c1];rw[if_neg];rw[dF] at c1 ⊢;have hm1:=hm a gL;unfold pR at hm1;have h2:=(bC hx).2.1;have h3:=(bC h.1).2.1;simp only[GA,decide_eq_false_iff_not] at hm1;omega
  ·rw[if_neg c1,if_neg c1]
theorem Dv {x:Ar} (hx:aP x=0):∀ {l:List Ar} {lo:Int},srtF lo l→lo≤x.fr→(∀a∈l,pR x a=false)→srtF lo (KG x l)
 | [],lo,_,hl,_=>⟨hx,hl,trivial⟩
 | a::r,lo,h,hl,hm=>by
  have hm1:=hm a gL;unfold pR at hm1;have h2:=(bC hx).2.1;have h3:=(bC h.1).2.1;simp only[GA,decide_eq_false_iff_not] at hm1;unfold KG;split
  ·exact⟨hx,hl,h.1,by omega,h.2.2⟩
  rename_i hlt;exact⟨h.1,h.2.1,Dv hx h.2.2 (by omega) (fun b hb=>hm b (jg _ hb))⟩
theorem Qe {a:Ar} (h:aP a=0) {k:Int} (hk:nS k a=true):0≤k∧k<64:=by
 have:=(bC h).1;unfold Bj at this;rw[dF] at hk;omega
theorem toList_map {α β:Type} (o:Option α) (f:α→β):(o.map f).toList=o.toList.map f:=by cases o<;>rfl
theorem Ie (l:List Ar) (n:Int):(0≤kD l n)↔onA l n≠none:=by
 have h:=nC (nS n) l;have h2:l.any (nS n)=true↔onA l n≠none:=by
  induction l with
  | nil=>simp[onA]
  | cons a r ih=>rw[List.any_cons,dh];cases nS n a<;>simp[ih (nC _ _)]
 rw[←h2,←h,decide_eq_true_eq];exact Iff.rfl
def oR (o:Option Pg):Bool:=match o with | some p=>p.rd | none=>false
def oW (o:Option Pg):Bool:=match o with | some p=>p.wr | none=>false
def oH (o:Option Pg):Bool:=match o with | some p=>p.sh | none=>false
def oF (o:Option Pg):Int:=match o with | some p=>p.fi | none=>0
def oP (o:Option Pg):Int:=match o with | some p=>p.pg | none=>0
def MO (f:Nat→Option Pg):List (Option Pg):=(List.range 64).map f
theorem xz (f:Nat→Option Pg):(MO f).length=64:=by simp[MO]
theorem Uo (f:Nat→Option Pg) (k:Nat) (x:Option Pg):(MO f).set k x=MO (fun i=>if i=k then x else f i):=by
 unfold MO;apply mK;intro i;rw[mf]
 by_cases h:k=i
 ·subst h
  by_cases hk:k<64
  ·simp[hk]
  ·simp[hk]
 rw[if_neg h]
 by_cases hi:i<64
 ·simp[hi,nW h]
 ·simp[hi]
def f0:Nat→Option Pg:=fun _=>none
def Ki (A:Ar) (K:Int) (f:Nat→Option Pg):Nat→Option Pg:=fun i=>if A.fr≤(i:Int)∧(i:Int)<K then some (jV A i) else f i
theorem Ph (A:Ar) (f:Nat→Option Pg):Ki A A.fr f=f:=by funext i;unfold Ki;rw[if_neg (by omega)]
theorem SN {A:Ar} (hK:A.fr≤(K:Int)) (f:Nat→Option Pg):(fun i=>if i=K then some (jV A K) else Ki A K f i)=Ki A ((K:Int)+1) f:=by
 funext i;unfold Ki
 by_cases h:i=K
 ·subst h;rw[if_pos rfl,if_pos (by omega)]
 rw[if_neg h]
 by_cases c:A.fr≤(i:Int)∧(i:Int)<K
 ·rw[if_pos c,if_pos (by omega)]
 ·rw[if_neg c,if_neg (by omega)]
def cz (l:List Ar):Nat→Option Pg:=l.foldl (fun f A=>Ki A A.en f) f0
theorem Lm {l:List Ar} (hk:k<l.length):cz (l.take (k+1))=Ki l[k] l[k].en (cz (l.take k)):=by
 unfold cz;rw[mQ,aG hk,Option.toList_some,CJ];rfl
def pW (p q:Pg):Pg:=if 0≤p.fi then { q with pg:=q.pg+1 } else q
def lT (f:Nat→Option Pg) (k:Nat) (p:Pg):Bool:=match k with
 | 0=>false
 | m+1=>match f m with
  | some q=>pW p q==p
  | none=>false
def fu (k:Nat) (p:Pg):Ar:=⟨k,(k:Int)+1,p.rd,p.wr,p.sh,p.fi,p.pg⟩
def wm (l:List Ar) (e:Int):List Ar:=match l.getLast? with
 | some q=>l.set (l.length-1) { q with en:=e }
 | none=>l
def kN (f:Nat→Option Pg):Nat→List Ar
 | 0=>[]
 | k+1=>match f k with
  | none=>kN f k
  | some p=>if lT f k p then wm (kN f k) ((k:Int)+1) else kN f k++[fu k p]
theorem FU (l:List Ar) (e:Int):(wm l e).length=l.length:=by unfold wm;split<;>simp
theorem HY (f:Nat→Option Pg):∀k,(kN f k).length≤k
 | 0=>ay _
 | k+1=>by
  have ih:=HY f k;unfold kN;split
  ·omega
  split
  ·rw[FU];omega
  ·rw[jG,Cn];omega
theorem PX (f:Nat→Option Pg) {m:Nat} {q:Pg} (h:f m=some q):0<(kN f (m+1)).length:=by
 have hall:∀k (q:Pg),f k=some q→0<(kN f (k+1)).length:=by
  intro k
  induction k with
  | zero=>intro q h;unfold kN;rw[h];simp[lT]
  | succ k ih=>
   intro q h;rw[kN,h];simp only[]
   by_cases hs:lT f (k+1) q=true
   ·rw[if_pos hs,FU];cases hf:f k with
    | none=>
     have h2:lT f (k+1) q=false:=by simp only[lT,hf]
     rw[h2] at hs;cases hs
    | some z=>exact ih z hf
   ·rw[if_neg hs,jG,Cn];omega
 exact hall m q h
theorem Vn (p q:Pg):(p==q)=(p.rd==q.rd&&(p.wr==q.wr&&(p.sh==q.sh&&(p.fi==q.fi&&p.pg==q.pg)))):=by
 cases p;cases q;rw[lS];simp
theorem QQ {f:Nat→Option Pg} (h:f k=none):kN f (k+1)=kN f k:=by rw[kN,h]
theorem Ri {f:Nat→Option Pg} {p:Pg} (h:f k=some p) (hs:lT f k p=true):kN f (k+1)=wm (kN f k) ((k:Int)+1):=by
 rw[kN,h];simp only[];rw[if_pos hs]
theorem BU {f:Nat→Option Pg} {p:Pg} (h:f k=some p) (hs:lT f k p=false):kN f (k+1)=kN f k++[fu k p]:=by
 rw[kN,h];simp only[];rw[hs];rfl
theorem Km {l:List Ar} (hn:l.length=n+1) (e:Int):wm l e=l.set n { (l[n]'(by omega)) with en:=e }:=by
 unfold wm;have:l.getLast?=some (l[n]'(by omega)):=by rw[List.getLast?_eq_getElem?,aG (by omega)];simp[hn]
 rw[this];simp[hn]
theorem NK {f:Nat→Option Pg} (h:f k=none):kN f (k+1)=kN f k:=by rw[kN,h]
theorem TP {f:Nat→Option Pg} {p:Pg} (h:f k=some p) (hs:lT f k p=true):kN f (k+1)=wm (kN f k) ((k:Int)+1):=by
 rw[kN,h];simp only[];rw[if_pos hs]
theorem Qz {f:Nat→Option Pg} {p:Pg} (h:f k=some p) (hs:lT f k p=false):kN f (k+1)=kN f k++[fu k p]:=by
 rw[kN,h];simp only[];rw[hs];rfl
def OP (p:Pg):Prop:=-1≤p.fi∧p.fi<5∧0≤p.pg∧(p.fi<0→p.pg=0∧p.sh=false)∧(0≤p.fi→p.pg≤11)
theorem Ck {l:List Ar} {n:Int} (h:∀a∈l,a.en≤n):onA l n=none:=by
 induction l with
 | nil=>rfl
 | cons a r ih=>
  have:=h a gL;rw[dh,if_neg (by rw[dF];omega),ih (fun b hb=>h b (jg _ hb))]
theorem QL {l:List Ar} {a:Ar} {n:Int} (h:a∈l) (hn:nS n a=true):onA l n≠none:=by
 induction l with
 | nil=>cases h
 | cons b r ih=>
  rw[dh];split
  ·simp
  rename_i hb;rcases bY.1 h with rfl|h
  ·exact absurd hn hb
  ·exact ih h
theorem Kj {x y:Ar} (hy:aP y=0) (hb:∀p,vL p x=false→vL p y=false):∀ {l:List Ar} {p:Option Ar},okF p (l++[x])→okF p (l++[y])
 | [],p,h=>⟨hy,hb p h.2.1,trivial⟩
 | a::r,p,h=>⟨h.1,h.2.1,Kj hy hb h.2.2⟩
theorem IY {x y:Ar} (hy:aP y=0) (hb:vL (some x) y=false):∀ {l:List Ar} {p:Option Ar},okF p (l++[x])→okF p (l++[x]++[y])
 | [],p,h=>⟨h.1,h.2.1,hy,hb,trivial⟩
 | a::r,p,h=>⟨h.1,h.2.1,IY hy hb h.2.2⟩
theorem Aq {x:Ar}:∀ {l:List Ar} {p:Option Ar},okF p (l++[x])→aP x=0
 | [],p,h=>h.1
 | a::r,p,h=>Aq h.2.2
theorem OW (hk:k<64) {p:Pg} (hp:OP p):aP (fu k p)=0:=by
 obtain⟨h1,h2,h3,h4,h5⟩:=hp;unfold aP fu;simp only[];rw[if_neg (by omega),if_neg];rintro (⟨a,b⟩|⟨a,b⟩)
 ·have:=h4 a;rcases b with b|b
  ·exact b this.1
  ·rw[this.2] at b;cases b
 ·have:=h5 a;omega
theorem OB {a:Ar} {m:Nat} {p:Pg} (h:pW p (jV a m)=p):jV a ((m:Int)+1)=p:=by
 unfold pW at h
 by_cases hf:0≤p.fi
 ·rw[if_pos hf] at h;have hfi:a.fi=p.fi:=by rw[←h];rfl
  rw[←h];unfold jV;simp only[];rw[if_pos (by omega),if_pos (by omega)];congr 1;omega
 rw[if_neg hf] at h;have hfi:a.fi=p.fi:=by rw[←h];rfl
 rw[←h];unfold jV;rw[if_neg (by omega),if_neg (by omega)]
structure Vw (f:Nat→Option Pg) (k:Nat):Prop where
 ok:okF none (kN f k)
 en:∀a∈kN f k,a.en≤(k:Int)
 on:∀i:Nat,i<k→onA (kN f k) i=f i
 last:∀m q,k=m+1→f m=some q→∃init a,kN f k=init++[a]∧a.en=(k:Int)∧a.fr≤(m:Int)∧jV a m=q
theorem Qo {f:Nat→Option Pg} (hf:∀i p,i<64→f i=some p→OP p):∀k,k≤64→Vw f k
 | 0,_=>⟨trivial,fun a ha=>(by cases ha),fun i hi=>absurd hi (dO _),fun m q h=>(by cases h)⟩
 | k+1,hk=>by
  have ih:=Qo hf k (by omega);have he:=ih.en;cases hfk:f k with
  | none=>
   have hst:=NK hfk;refine⟨by rw[hst];exact ih.ok,fun a ha=>by rw[hst] at ha;have:=he a ha;omega,fun i hi => ?_,fun m q hm hq => ?_⟩
   ·rw[hst]
    by_cases hik:i=k
    ·subst hik;rw[hfk];exact Ck he
    ·exact ih.on i (by omega)
   obtain rfl:m=k:=by omega
   rw[hfk] at hq;cases hq
  | some p=>
   have hp:=hf k p (by omega) hfk;cases hs:lT f k p
   ·have hst:=Qz hfk hs;have hx:=OW (by omega:k<64) hp;have hok:okF none (kN f (k+1)):=by
     rw[hst];rcases List.eq_nil_or_concat (kN f k) with h0|⟨init,a,h0⟩
     ·rw[h0];exact⟨hx,rfl,trivial⟩
     rw[List.concat_eq_append] at h0;have hoka:=ih.ok;have hon:=ih.on;rw[h0] at hoka hon he ⊢;have hae:=he a (sU _ gL);refine IY hx (yF.2 ⟨hae,?_⟩) hoka;cases hj:dz a (fu k p)
     ·rfl
     exfalso;obtain⟨j1,j2,j3,j4,j5,j6⟩:=uo.1 hj;have j1' : a.en=(k:Int):=j1;have ha0:=Aq hoka;have hfr:=(bC ha0).1.2.1.1;have hlt:=(bC ha0).2.1;obtain⟨m,rfl⟩:∃m,k=m+1:=⟨k-1,by omega⟩;have hin:nS (m:Int) a=true:=dF.2 ⟨by omega,by omega⟩;cases hfm:f m with
     | none=>
      have h1:=hon m (by omega);rw[hfm] at h1;exact QL (sU _ gL) hin h1
     | some q=>
      obtain⟨init',a',e1,e2,e3,e4⟩:=ih.last m q rfl hfm;rw[h0] at e1;have haa:a=a':=by have:=congrArg List.getLast? e1;rw[Ce,Ce] at this;exact aJ this
      subst haa;have hsn:lT f (m+1) p=(pW p q==p):=by simp only[lT,hfm]
      rw[hsn] at hs;have:pW p q=p:=by
       rw[←e4];have k2:a.rd=p.rd:=j2;have k3:a.wr=p.wr:=j3;have k4:a.sh=p.sh:=j4;have k5:a.fi=p.fi:=j5;have k6:p.pg=jB a:=j6;unfold jB at k6;clear hx hfk hp hst hj hs e4 j2 j3 j4 j5 j6 hsn;cases p with
       | mk prd pwr psh pfi ppg=>
        have k2:a.rd=prd:=k2;have k3:a.wr=pwr:=k3;have k4:a.sh=psh:=k4;have k5:a.fi=pfi:=k5;have k6:ppg=if 0≤a.fi then a.ba+a.en-a.fr else 0:=k6;subst k2 k3 k4 k5 k6;unfold pW jV;show (if 0≤a.fi then (⟨a.rd,a.wr,a.sh,a.fi,(if 0≤a.fi then a.ba+(m:Int)-a.fr else 0)+1⟩:Pg) else ⟨a.rd,a.wr,a.sh,a.fi,if 0≤a.fi then a.ba+(m:Int)-a.fr else 0⟩)=_
        by_cases hfi:0≤a.fi
        ·rw[if_pos hfi,if_pos hfi,if_pos hfi];congr 1;omega
        ·rw[if_neg hfi,if_neg hfi,if_neg hfi]
      rw[this] at hs;simp at hs
    refine⟨hok,fun a ha => ?_,fun i hi => ?_,fun m q hm hq => ?_⟩
    ·rw[hst] at ha;rcases fJ.1 ha with ha|ha
     ·have:=he a ha;omega
     ·rw[bq.1 ha];show (k:Int)+1≤_;omega
    ·rw[hst,Hu];have hone:onA [fu k p] (i:Int)=if i=k then some p else none:=by
      rw[dh]
      by_cases hik:i=k
      ·subst hik;rw[if_pos rfl,if_pos (show nS (i:Int) (fu i p)=true from dF.2 ⟨rM _,by show (i:Int)<i+1;omega⟩)];unfold jV fu;simp only[];congr 1;obtain⟨_,_,_,h4,_⟩:=hp;cases p with
       | mk rd wr sh fi pg=>
        simp only[Pg.mk.injEq,true_and];simp only[] at h4;split
        ·omega
        ·exact (h4 (by omega)).1.symm
      rw[if_neg hik,if_neg]
      ·rfl
      rw[dF];show ¬((k:Int)≤i∧(i:Int)<k+1);omega
     rw[hone]
     by_cases hik:i=k
     ·subst hik;rw[if_pos rfl,Ck he,hfk];rfl
     ·rw[if_neg hik,ih.on i (by omega),Option.or_none]
    obtain rfl:m=k:=by omega
    rw[hfk] at hq;cases hq;refine⟨kN f m,fu m p,hst,by show (m:Int)+1=_;omega,rM _,?_⟩;unfold jV fu;simp only[];obtain⟨_,_,_,h4,_⟩:=hp;cases p with
    | mk rd wr sh fi pg=>
     simp only[Pg.mk.injEq,true_and];simp only[] at h4;split
     ·omega
     ·exact (h4 (by omega)).1.symm
   have hst:=TP hfk hs;obtain⟨m,rfl⟩:∃m,k=m+1:=by
    cases k with
    | zero=>cases hs
    | succ m=>exact⟨m,rfl⟩
   have hsn:lT f (m+1) p=(match f m with | some q=>pW p q==p | none=>false):=rfl;rw[hsn] at hs;cases hfm:f m with
   | none=>rw[hfm] at hs;cases hs
   | some q=>
    rw[hfm] at hs;have hnx:pW p q=p:=by simpa using hs
    obtain⟨init,a,e1,e2,e3,e4⟩:=ih.last m q rfl hfm;have hok:=ih.ok;have hon:=ih.on;rw[e1] at hok hon he hst;have ha0:=Aq hok;have ef:=bC ha0;rw[←e4] at hnx;have hpk:=OB hnx;have hset:wm (init++[a]) (((m+1:Nat):Int)+1)=init++[{ a with en:=((m+1:Nat):Int)+1 }]:=by unfold wm;rw[Ce];simp
    rw[hset] at hst;have hy:aP { a with en:=((m+1:Nat):Int)+1 }=0:=by
     unfold Bj at ef;have e5:=ef.2.2.2.2.1;unfold aP;simp only[];rw[if_neg (by omega),if_neg];rintro (⟨b1,b2⟩|⟨b1,b2⟩)
     ·have:=e5 b1;rcases b2 with b2|b2
      ·exact b2 this.1
      ·rw[this.2] at b2;cases b2
     have h5:=hp.2.2.2.2;rw[←hpk] at h5;have h6:=h5 b1;unfold jV at h6;simp only[] at h6;rw[if_pos b1] at h6;omega
    have hinit:∀b∈init,b.en≤((m+1:Nat):Int):=fun b hb=>he b (oM _ hb);have hfi:∀n,jV { a with en:=((m+1:Nat):Int)+1 } n=jV a n:=fun n=>rfl;refine⟨?_,fun b hb => ?_,fun i hi => ?_,fun m' q' hm' hq' => ?_⟩
    ·rw[hst];refine Kj hy (fun z hz => ?_) hok;cases z with
     | none=>rfl
     | some z=>exact hz
    ·rw[hst] at hb;rcases fJ.1 hb with hb|hb
     ·have:=hinit b hb;omega
     ·rw[bq.1 hb];show ((m+1:Nat):Int)+1≤_;omega
    ·rw[hst,Hu]
     by_cases hik:i=m+1
     ·subst hik;rw[Ck hinit,dh,if_pos (dF.2 ⟨by show a.fr≤((m+1:Nat):Int);omega,by show ((m+1:Nat):Int)<((m+1:Nat):Int)+1;omega⟩),hfi,hfk];show some (jV a ((m+1:Nat):Int))=some p;rw[show ((m+1:Nat):Int)=(m:Int)+1 by omega,hpk]
     have h1:=hon i (by omega);rw[Hu] at h1;rw[←h1];congr 1;rw[dh,dh,hfi]
     by_cases c:nS (i:Int) a=true
     ·rw[if_pos c,if_pos (by rw[dF] at c ⊢; show a.fr≤(i:Int)∧(i:Int)<((m+1:Nat):Int)+1;omega)]
     ·rw[if_neg c,if_neg (by rw[dF] at c ⊢; show ¬(a.fr≤(i:Int)∧(i:Int)<((m+1:Nat):Int)+1);omega)]
    obtain rfl:m' = m+1:=by omega
    rw[hfk] at hq';cases hq';refine⟨init,_,hst,by show ((m+1:Nat):Int)+1=_;omega,by show a.fr≤_;omega,?_⟩;rw[hfi,show ((m+1:Nat):Int)=(m:Int)+1 by omega,hpk]
theorem PU {f:Nat→Option Pg} (hf:∀i p,i<64→f i=some p→OP p):okF none (kN f 64)∧∀n:Int,onA (kN f 64) n=if 0≤n∧n<64 then f n.toNat else none:=by
 have h:=Qo hf 64 (ay _);refine⟨h.ok,fun n => ?_⟩
 by_cases hn:0≤n∧n<64
 ·rw[if_pos hn];have:=h.on n.toNat (by omega);rwa [show ((n.toNat:Nat):Int)=n by omega] at this
 rw[if_neg hn];cases ho:onA (kN f 64) n with
 | none=>rfl
 | some p=>
  exfalso;have hs:=nI h.ok
  by_cases h0:n<0
  ·rw[on_low hs h0] at ho;cases ho
  ·rw[Ck (fun a ha=>by have:=h.en a ha;omega)] at ho;cases ho
theorem fold_on:∀ {l:List Ar} {lo:Int} (g:Nat→Option Pg),srtF lo l→∀i:Nat,(l.foldl (fun f A=>Ki A A.en f) g) i=(onA l i).or (g i)
 | [],_,g,_,i=>by simp[onA]
 | a::r,lo,g,h,i=>by
  rw[zF,fold_on _ h.2.2,dh]
  by_cases c:nS (i:Int) a=true
  ·rw[if_pos c,on_low h.2.2 (dF.1 c).2];unfold Ki;rw[if_pos (dF.1 c)];rfl
  rw[if_neg c];unfold Ki;rw[if_neg (fun h=>c (dF.2 h))]
theorem qX {l:List Ar} (h:srtF lo l) (i:Nat):cz l i=onA l i:=by
 unfold cz;rw[fold_on _ h];simp[f0]
theorem MM {a:Ar} (ha:aP a=0) {n:Int} (hn:nS n a=true):OP (jV a n):=by
 have e:=bC ha;unfold Bj at e;rw[dF] at hn;have e5:=e.2.2.2.2.1;have e6:=e.2.2.2.2.2;unfold OP jV;simp only[];refine⟨by omega,by omega,by split<;>omega,fun h=>⟨by rw[if_neg (by omega)],(e5 h).2⟩,fun h=>by rw[if_pos h];have:=e6 h;omega⟩
theorem Sr {l:List Ar} (h:srtF lo l) {n:Int} {p:Pg} (hp:onA l n=some p):OP p:=by
 induction l generalizing lo with
 | nil=>cases hp
 | cons a r ih=>
  rw[dh] at hp;split at hp
  ·rename_i hn;cases hp;exact MM h.1 hn
  ·exact ih h.2.2 hp
theorem KC {f:Nat→Option Pg} {m:List Ar} (hm:okF none m) (hf:∀i:Nat,i<64→f i=onA m i):kN f 64=m:=by
 have hs:=nI hm;obtain⟨h1,h2⟩:=PU (f:=f) (fun i p hi hp=>Sr hs (by rw[←hf i hi];exact hp));refine on_uniq h1 hm fun n => ?_;rw[h2]
 by_cases hn:0≤n∧n<64
 ·rw[if_pos hn,hf _ (by omega),show ((n.toNat:Nat):Int)=n by omega]
 rw[if_neg hn];symm;cases ho:onA m n with
 | none=>rfl
 | some p=>
  exfalso;have:∃a∈m,nS n a=true:=by have hh:=(Ie m n).2 (by rw[ho];simp);have:=nC (nS n) m;rw[show decide (0≤idx (nS n) m)=true from decide_eq_true hh] at this;exact iW.1 this.symm
  obtain⟨a,ha,hin⟩:=this;have:=Qe (srtF_ok hs a ha).1 hin;omega
theorem JE {l:List Ar} (h:srtF lo l):∀i p,cz l i=some p→0≤p.pg∧p.pg≤100:=by
 intro i p hp;rw[qX h] at hp;obtain⟨_,_,h3,h4,h5⟩:=Sr h hp;refine⟨h3,?_⟩
 by_cases hf:p.fi<0
 ·rw[(h4 hf).1];decide
 ·have:=h5 (by omega);omega
def sW (x:Ar) (n:Nat) (f:Nat→Option Pg):Nat→Option Pg:=fun i=>if nS (i:Int) x=true∧i<n then some (jV x i) else f i
theorem Mh (x:Ar) (f:Nat→Option Pg):sW x 0 f=f:=by funext i;unfold sW;rw[if_neg (by omega)]
theorem Uk (x:Ar) (n:Nat) (f:Nat→Option Pg):sW x n f n=f n:=by unfold sW;rw[if_neg (by omega)]
theorem OC {x:Ar} (h:¬nS (n:Int) x=true) (f:Nat→Option Pg):sW x (n+1) f=sW x n f:=by
 funext i;unfold sW
 by_cases c:i=n
 ·subst c;rw[if_neg (fun q=>h q.1),if_neg (fun q=>h q.1)]
 by_cases d:nS (i:Int) x=true∧i<n
 ·rw[if_pos d,if_pos ⟨d.1,by omega⟩]
 ·rw[if_neg d,if_neg (fun q=>d ⟨q.1,by omega⟩)]
theorem RA {x:Ar} (h:nS (n:Int) x=true) (f:Nat→Option Pg):(fun i=>if i=n then some (jV x n) else sW x n f i)=sW x (n+1) f:=by
 funext i;unfold sW
 by_cases c:i=n
 ·subst c;rw[if_pos rfl,if_pos ⟨h,by omega⟩]
 rw[if_neg c]
 by_cases d:nS (i:Int) x=true∧i<n
 ·rw[if_pos d,if_pos ⟨d.1,by omega⟩]
 ·rw[if_neg d,if_neg (fun q=>d ⟨q.1,by omega⟩)]
theorem Sd (x:Ar) (i:Nat):cz [x] i=if nS (i:Int) x=true then some (jV x i) else none:=by
 unfold cz;simp only[zF,List.foldl_nil];unfold Ki f0
 by_cases c:nS (i:Int) x=true
 ·rw[if_pos c,if_pos (dF.1 c)]
 ·rw[if_neg c,if_neg (fun h=>c (dF.2 h))]
theorem Sm {l:List Ar} {x:Ar} {i:Int} (hx:nS i x=true) (hl:onA l i≠none):l.any (pR x)=true:=by
 have hh:=(Ie l i).2 hl;have:=nC (nS i) l;rw[show decide (0≤idx (nS i) l)=true from decide_eq_true hh] at this;obtain⟨a,ha,hin⟩:=iW.1 this.symm;refine iW.2 ⟨a,ha,?_⟩;rw[dF] at hx hin;unfold pR;rw[decide_eq_true (by omega),decide_eq_true (by omega)];rfl
theorem Tv {l:List Ar} {x:Ar} (hok:okF none l) (hx:aP x=0) (h:∀i:Nat,i<64→¬(nS (i:Int) x=true∧onA l i≠none)):l.any (pR x)=false:=by
 rw[tQ];intro a ha hm;have ha0:=(srtF_ok (nI hok) a ha).1;have e1:=bC ha0;have e2:=bC hx;unfold Bj at e1 e2;unfold pR at hm;rw[dS,decide_eq_true_eq,decide_eq_true_eq] at hm;refine h (max a.fr x.fr).toNat (by omega) ⟨dF.2 (by omega),QL ha (dF.2 (by omega))⟩
theorem CK {e:En} (h:eQ e=0):ou e=Hw e:=by
 unfold eQ at h;unfold ou Hw;split at h
 ·cases h
 rename_i h1;rw[lS];simp;omega
theorem zy {h:List En} (h0:lD h=0):∀e∈h,eQ e=0:=by
 intro e he;obtain⟨i,hi,rfl⟩:=jE.1 he;have hl:=oD h0
 by_cases hne:∀j (hj:j<h.length),eQ h[j]=0
 ·exact hne i hi
 exfalso;have hf:firstE (h.map eQ)≠0:=by
  intro hf;apply hne;intro j hj;have key:∀(l:List Int),firstE l=0→∀x∈l,x=0:=by
   intro l
   induction l with
   | nil=>intro _ x hx;cases hx
   | cons y r ih=>
    intro h x hx
    by_cases e:y=0
    ·simp only[firstE,e,if_true] at h;rcases bY.1 hx with rfl|hx
     ·exact e
     ·exact ih h x hx
    ·simp only[firstE,e,if_false] at h
  exact key _ hf _ (ib.2 ⟨h[j],dP hj,rfl⟩)
 unfold lD at h0;rw[if_neg (by omega),if_pos hf] at h0;exact hf h0
theorem EW {t:Tb} (hi:i<8) (h:lD t[i]=0):lc (dB t) i=if t[i].length=0 then List.replicate 8 zEn else t[i]:=by
 have hl:=oD h;apply mK;intro r;unfold lc dB;rw[lL]
 by_cases hr:r<8
 ·rw[if_pos hr,qN,jM,sJ (by omega)];simp only[tC];rcases hl with hl|hl
  ·rw[if_pos hl,ny,if_pos hr,Af hi hr hl]
  ·rw[if_neg (by omega),aG (by omega),EQ hi hr hl (aG (by omega))]
 rw[if_neg hr,dI];split
 ·simp;omega
 ·omega
theorem IG {h:List En} (h0:∀e∈h,eQ e=0):h.any Hw=h.any ou:=by
 rw[lS];simp only[iW];constructor
 ·rintro⟨e,he,h1⟩;exact⟨e,he,by rw[CK (h0 e he)];exact h1⟩
 ·rintro⟨e,he,h1⟩;exact⟨e,he,by rw[←CK (h0 e he)];exact h1⟩
theorem RI {h:List En} (h0:lD h=0) (hl:h.length≠0):h.any ou=true:=by
 have h1:=wH (oD h0) (fun i hi=>zy h0 _ (dP hi));rw[h0] at h1
 by_cases hh:h.any (fun e=>decide (e.k≠0))=false
 ·rw[if_pos ⟨by omega,hh⟩] at h1;cases h1
 ·simpa[ou] using hh
theorem Bf {t:Tb} (hi:i<8) (h:lD t[i]=0):lQ (dB t) i=t[i]:=by
 unfold lQ;rw[EW hi h]
 by_cases hl:t[i].length=0
 ·rw[if_pos hl];have:t[i]=[]:=jO hl;rw[this];decide
 rw[if_neg hl,IG (zy h),RI h hl];rfl
theorem Eb {t:Tb} {n:Int} {e:En} (h:setE t n e=0):setT t n e=fT ((dB t).set n.toNat e):=by
 have h0:cK t=0:=by
  unfold setE at h
  by_cases hw:cK t=0
  ·exact hw
  ·rw[if_pos hw] at h;exact h
 have hn:0≤n∧n<64:=by
  unfold setE at h;rw[if_neg (by rw[h0];simp)] at h
  by_cases hn:n<0∨64≤n
  ·rw[if_pos hn] at h;cases h
  ·omega
 have he:eQ e=0:=by unfold setE at h;rwa [if_neg (by rw[h0];simp),if_neg (by omega)] at h
 obtain⟨q,r,hq,hr,hnn,_,_⟩:=wK hn;have hN:n.toNat=8*q+r:=by omega
 rw[Np h hq hr hnn,hN];apply wX;intro i hi;simp only[fT,ru];have hh:=kU h0 i hi
 by_cases ei:i=q
 ·subst ei;rw[Vector.getElem_set_self];have hp:lc ((dB t).set (8*i+r) e) i=(lc (dB t) i).set r e:=by
   apply mK;intro k;have hlen:(dB t).length=64:=by simp[dB]
   by_cases hk:k<8
   ·unfold lc;rw[lL,if_pos hk,qN]
    by_cases ek:k=r
    ·subst ek;rw[vo (by omega),vo (by simp;omega)]
    ·rw[sF (by omega),sF (fun h=>ek h.symm),lL,if_pos hk,qN]
   ·rw[dI (by simp[lc];omega),dI (by simp[lc];omega)]
  unfold lQ;rw[hp,EW hi hh];unfold setH Ux;rw[IG];intro x hx;rcases mM hx with hx|rfl
  ·split at hx
   ·rw[(CE.1 hx).2];rfl
   ·exact zy hh x hx
  ·exact he
 rw[wO hq hi (fun h=>ei h.symm)];have hp:lc ((dB t).set (8*q+r) e) i=lc (dB t) i:=by
  apply mK;intro k;unfold lc;rw[lL,lL]
  by_cases hk:k<8
  ·rw[if_pos hk,if_pos hk,qN,qN,sF (by omega)]
  ·rw[if_neg hk,if_neg hk]
 have:lQ ((dB t).set (8*q+r) e) i=lQ (dB t) i:=by unfold lQ;rw[hp]
 rw[this,Bf hi hh]
theorem NU {m:List Int} (hlm:l.length=m.length) (h:∀i (hi:i<l.length),l[i]=m[i]'(by omega)):(l==m)=true:=by
 rw[beq_iff_eq];exact sN hlm fun i h1 h2=>h i h1
theorem Oh {m:List Int} (k:Nat) (h1:k<l.length) (h2:k<m.length) (h:l[k]≠m[k]):(l==m)=false:=by
 rw[beq_eq_false_iff_ne];rintro rfl;exact h rfl
theorem zR (t:Tb) (k:Nat) (h:k<64):(dB t)[k]?=some (dG t (k:Int)):=by
 unfold dB;simp[h]
theorem mR (t:Tb):(dB t).length=64:=by simp[dB]
theorem Kz (t:Tb):Fa t t=true:=ES fun _ _=>rfl
theorem qU {t:Tb} (h:cK t=0) (n:Int):eQ (dG t n)=0:=by
 by_cases hn:0≤n∧n<64
 ·obtain⟨q,r,hq,hr,rfl,_,_⟩:=wK hn;rw[zh hq hr];split
  ·rename_i hl;rw[aW,aG (by omega)];exact zy (kU h q hq) _ (dP _)
  ·rfl
 ·rw[qZ (by omega)];rfl
theorem QC {e:En} (h:eQ e=0) (h2:Hw e=false):e=zEn:=by
 have h3:=CK h;rw[h2] at h3;have hk:e.k=0:=by simpa[ou] using h3
 unfold eQ at h;obtain⟨k,n,w⟩:=e;simp only at hk;subst hk;simp at h
 by_cases h4:n<0∨60≤n
 ·rw[if_pos h4] at h;cases h
 rw[if_neg h4] at h
 by_cases h5:¬n=0∨w=true
 ·rw[if_pos h5] at h;cases h
 simp only[not_or,sV,Gi] at h5;obtain⟨rfl,rfl⟩:=h5;rfl
theorem DV {l:List En} {x:En} (h:x∈lc l i):x∈l:=List.mem_of_mem_drop (List.mem_of_mem_take h)
theorem Gh {l:List En} (h:∀x∈l,eQ x=0) (hl:l.length=64) (hi:i<8):lD (lQ l i)=0:=by
 unfold lQ
 by_cases hp:(lc l i).any Hw=true
 ·rw[if_pos hp];have hlen:(lc l i).length=8:=Dt hl hi (by omega);rw[wH (.inr hlen) (fun j hj=>h _ (DV (dP hj))),if_neg];rintro⟨_,h2⟩;have h3:=IG (h:=lc l i) (fun x hx=>h x (DV hx));rw[hp] at h3;have h4:(lc l i).any ou=false:=h2;rw[h4] at h3;cases h3
 ·rw[if_neg hp];rfl
theorem Br {l:List En} (h:∀x∈l,eQ x=0) (hl:l.length=64):cK (fT l)=0:=
 vS fun i hi=>by simp only[fT,ru];exact Gh h hl hi
theorem yu {l:List En} (h:∀x∈l,eQ x=0) (hl:l.length=64) (hn:n<64):dG (fT l) (n:Int)=l[n]'(by omega):=by
 obtain⟨q,r,hq,hr,hnn,_,_⟩:=wK (n:=(n:Int)) (by omega);have hn' : n=8*q+r:=by omega
 subst hn';rw[zh hq hr];simp only[fT,ru];unfold lQ;have hlen:(lc l q).length=8:=Dt hl hq (by omega);have hget:(lc l q)[r]'(by omega)=l[8*q+r]'(by omega):=by simp[lc]
 by_cases hp:(lc l q).any Hw=true
 ·simp only[if_pos hp,if_pos hlen];rw[aW,aG (by omega),←hget];rfl
 simp only[if_neg hp];rw[if_neg (by decide),←hget];symm;refine QC (h _ (DV (dP _))) ?_;simp only[iW,not_exists,not_and,Gi] at hp;exact hp _ (dP _)
theorem xV {t:Tb} (h:cK t=0):fT (dB t)=t:=by
 apply wX;intro i hi;simp only[fT,ru];exact Bf hi (kU h i hi)
theorem Dr {l:List En} (h:∀x∈l,eQ x=0) (hl:l.length=64):dB (fT l)=l:=by
 apply sN
 ·rw[mR,hl]
 intro i h1 h2;have:=zR (fT l) i (by omega);rw[yu h hl (by omega),aG h1] at this;exact aJ this
theorem Sq {t:Tb} (h:cK t=0):∀x∈dB t,eQ x=0:=by
 intro x hx;obtain⟨i,hi,rfl⟩:=ib.1 hx;exact qU h _
theorem uS {t:Tb} {n:Int} {e:En} (h:setE t n e=0):cK t=0∧(0≤n∧n<64)∧eQ e=0:=by
 unfold setE at h
 by_cases hw:cK t=0
 ·rw[if_neg (by rw[hw];simp)] at h
  by_cases hn:n<0∨64≤n
  ·rw[if_pos hn] at h;cases h
  rw[if_neg hn] at h;exact⟨hw,by omega,h⟩
 ·rw[if_pos hw] at h;exact absurd h hw
theorem MU {t:Tb} {n:Int} {e:En} (h1:cK t=0) (h2:0≤n∧n<64) (h3:eQ e=0):setE t n e=0:=by
 unfold setE;rw[if_neg (by rw[h1];simp),if_neg (by omega),h3]
theorem Hm {t:Tb} {e:En} (h1:cK t=0) (h3:eQ e=0):∀x∈(dB t).set n e,eQ x=0:=by
 intro x hx;rcases mM hx with hx|rfl
 ·exact Sq h1 x hx
 ·exact h3
theorem yj {t:Tb} {n:Int} {e:En} (h:setE t n e=0):cK (setT t n e)=0:=by
 obtain⟨h1,h2,h3⟩:=uS h;rw[Eb h];exact Br (Hm h1 h3) (by rw[bI,mR])
theorem Rq {t:Tb} {n:Int} {e:En} (h:setE t n e=0) (k:Int):dG (setT t n e) k=if k=n then e else dG t k:=by
 obtain⟨h1,h2,h3⟩:=uS h;rw[Eb h]
 by_cases hk:0≤k∧k<64
 ·obtain⟨j,rfl⟩:=fE hk.1;rw[yu (Hm h1 h3) (by rw[bI,mR]) (by omega)];rw[Ct]
  by_cases e0:(j:Int)=n
  ·rw[if_pos (by omega),if_pos e0]
  rw[if_neg (by omega),if_neg e0];have:=zR t j (by omega);rw[aG (by rw[mR];omega)] at this;exact aJ this
 ·rw[if_neg (by omega),qZ (by omega),qZ (by omega)]
theorem RJ (t:Tb):∀n∈aN t,0≤n∧n<64:=by
 intro n hn;unfold aN jw at hn;obtain⟨m,hm,rfl⟩:=ib.1 hn;have:=dE.1 (Gx.1 hm).1;omega
theorem Ji {t:Tb} (h:cK t=0):Ey t:=fun k hk=>by
 have:=oD (kU h k hk);omega
theorem zTb_right:cK zTb=0:=by decide
theorem LG {m:Mem} {f:Fr} (hw:bK m=0) (hf:dR f=0):bK ⟨m.fs.set k f,m.hand⟩=0:=by
 obtain⟨h1,h2,h3,h4⟩:=(eD m).1 hw;rw[eD];simp only[bI];refine⟨h1,fun g hg => ?_,h3,h4⟩;rcases mM hg with h|rfl
 ·exact h2 g h
 ·exact hf
theorem Tz {f:Fr} (h:dR f=0) (hr:f.r=0):f=frZ:=by
 obtain⟨⟨_,_,h1,_,_,_⟩,h2,h3⟩:=(iD f).1 h;obtain⟨h4,h5,h6,h7⟩:=h2 hr;have h8:=h3 h6;have h9:f.f = -1:=by omega
 obtain⟨p,r,u,d,ff,i⟩:=f;simp only at *
 subst hr h4 h5 h7 h8 h9;rfl
theorem Dw (h:dm l=0):∀x∈l,qx x=false:=by
 unfold dm at h;split at h
 ·omega
 split at h
 ·omega
 rename_i h1;intro x hx;have:=tQ.1 (by simpa using h1) x hx;simpa using this
theorem FM (hl:l.length≤60) (h:∀x∈l,qx x=false):dm l=0:=by
 unfold dm;rw[if_neg (by omega),if_neg];simp only[iW,not_exists,not_and];intro x hx;simp[h x hx]
theorem Da (k:Nat) (x:Int) (h:dm l=0) (h0:0≤x) (h1:x≤1000):dm (l.set k x)=0:=by
 refine FM (by rw[bI];exact iT h) fun y hy => ?_;rcases mM hy with hm|rfl
 ·exact Dw h _ hm
 ·simp[qx];omega
theorem PW (f:Nat→Bool) (B:List Page) (Q:List (Int × Page)) (hq:∀x∈Q,0≤x.1) (n i:Nat) (hi:i<B.length):(jX f B Q n)[i]?=some B[i]∨∃x∈Q,x.1=(i:Int)∧(jX f B Q n)[i]?=some x.2:=by
 induction n with
 | zero=>exact .inl (aG hi)
 | succ n ih=>
  by_cases hn:n<Q.length
  ·cases hf:f n with
   | false=>rw[Al hn hf];exact ih
   | true=>
    rw[xu hn hf,mf]
    by_cases he:Q[n].1.toNat=i
    ·have h0:=hq _ (dP hn);rw[if_pos he,if_pos (by rw[lw];omega)];exact .inr ⟨Q[n],dP hn,by omega,rfl⟩
    ·rw[if_neg he];exact ih
  have:jX f B Q (n+1)=jX f B Q n:=by rw[jX,dI (by omega)]
  rw[this];exact ih
theorem Lr (f:Nat→Bool) {d:mZ} (hw:bn d=0):bn (qa f d)=0:=by
 obtain⟨h2,h3,h4⟩:=(gF d).1 hw;rw[gF];unfold qa;rw[if_pos hw];simp only[lw];exact⟨h2,by simp,by simp⟩
theorem EO {α:Type} {l:List α} {x:α} (h:l[i]?=some x) (y:α):l=l.take i++x::l.drop (i+1)∧l.set i y=l.take i++y::l.drop (i+1):=by
 obtain⟨hi,rfl⟩:=bW.1 h;refine⟨?_,?_⟩
 ·rw[List.getElem_cons_drop,qg]
 ·rw[List.set_eq_take_append_cons_drop,if_pos hi]
theorem Rf {x:Int} (h:x<0) (l:List Int):jZ (x::l)=jZ l:=by unfold jZ;rw[IC,if_neg (by simp;omega)]
theorem Ho {x:Int} (h:0≤x) (l:List Int):jZ (x::l)=x::jZ l:=by unfold jZ;rw[IC,if_pos (by simpa using h)]
theorem Jt {s:St} {F:Nat} {f:Fi} (hf:s.fs[F]?=some f) {v:Int} (hv:f.b[I]?=some v) (hn:v<0) {X:Int} (hX:0≤X) (n c:Int) :
  (jZ (kE ⟨s.fs.set F ⟨n,f.b.set I X⟩,c⟩)).Perm (X::jZ (kE s)):=by
 have e1:=EO hf ⟨n,f.b.set I X⟩;have e2:=EO hv X;unfold kE;show (jZ ((s.fs.set F ⟨n,f.b.set I X⟩).flatMap Fi.b)).Perm (X::jZ (s.fs.flatMap Fi.b));rw[e1.2]
 conv=>rhs;rw[e1.1]
 simp only[eT,lZ,uB];rw[e2.2]
 conv=>rhs;rw[show f.b=f.b.take I++v::f.b.drop (I+1) from e2.1]
 simp only[uB,Rf hn,Ho hX];refine List.Perm.trans ?_ List.perm_middle;refine List.Perm.append_left _ ?_;rw[jC,jC];exact List.perm_middle
theorem EN {s:St} (h:0≤gG s):gG s<s.count∧gD s (gG s)=false:=by
 unfold gG at h ⊢;cases hf:(List.range s.count.toNat).find? (fun b:Nat => !gD s b) with
 | none=>rw[hf] at h;simp at h
 | some b=>
  have h1:=dE.1 (tN hf);have h2:=qo hf;simp only;refine⟨by omega,by simpa using h2⟩
theorem Bn {s:St} {k i:Int} (h:dn s k i=0):aM s=0∧∃(F I:Nat) (f:Fi) (v:Int),k=F∧i=I∧s.fs[F]?=some f∧f.b[I]?=some v∧aU s k=f∧bL s k i=v ∧
  ((0≤v∧dJ s k i=s∧dQ s k i=v)∨(v<0∧0≤gG s∧dQ s k i=gG s∧dJ s k i=⟨s.fs.set F ⟨f.n,f.b.set I (gG s)⟩,s.count⟩)):=by
 have h':=h;unfold dn at h'
 by_cases g1:aM s≠0
 ·rw[if_pos g1] at h'; exact absurd h' g1
 rw[if_neg g1] at h'
 by_cases g2:k<0∨(s.fs.length:Int)≤k
 ·rw[if_pos g2] at h'; cases h'
 rw[if_neg g2] at h'
 by_cases g3:i<0∨((aU s k).b.length:Int)≤i
 ·rw[if_pos g3] at h'; cases h'
 rw[if_neg g3] at h'
 by_cases g4:bL s k i<0∧gG s<0
 ·rw[if_pos g4] at h'; cases h'
 obtain⟨F,rfl⟩:=fE (show 0≤k by omega);obtain⟨I,rfl⟩:=fE (show 0≤i by omega);have hF:F<s.fs.length:=by omega
 have hfa:aU s F=s.fs[F]:=by unfold aU;rw[if_pos (by omega),bU,aW,aG hF];rfl
 rw[hfa] at g3;have hI:I<s.fs[F].b.length:=by omega
 have hba:bL s F I=s.fs[F].b[I]:=by unfold bL;rw[hfa,bU,aW,aG hI];rfl
 refine⟨sV.1 g1,F,I,s.fs[F],s.fs[F].b[I],rfl,rfl,aG hF,aG hI,hfa,hba,?_⟩;have hS:dJ s F I=if bL s F I<0 then zW s F ⟨(aU s F).n,(aU s F).b.set ((I:Int)).toNat (gG s)⟩ else s:=by unfold dJ;rw[if_neg (by rw[h];simp)]
 have hN:dQ s F I=if bL s F I<0 then gG s else bL s F I:=by unfold dQ;rw[if_neg (by rw[h];simp)]
 rw[hS,hN,hba];rw[hba] at g4
 by_cases g5:s.fs[F].b[I]<0
 ·refine .inr ⟨g5,by omega,if_pos g5,?_⟩;rw[if_pos g5,hfa,bU];unfold zW;rw[bU]
 ·exact .inl ⟨by omega,if_neg g5,if_neg g5⟩
theorem GL {s:St} {x:Int} (h:gD s x=false):¬x∈kE s:=by
 unfold gD at h;simpa using h
theorem Oo {s:St} {F:Nat} {f:Fi} {v:Int} (h:aM s=0) (hf:s.fs[F]?=some f) (hv:f.b[I]?=some v) (h0:0≤v):dn s F I=0∧dQ s F I=v∧dJ s F I=s:=by
 have hF:=(bW.1 hf).1;have hI:=(bW.1 hv).1;have hfa:aU s F=f:=by unfold aU;rw[if_pos (by omega),bU,aW,hf];rfl
 have hba:bL s F I=v:=by unfold bL;rw[hfa,bU,aW,hv];rfl
 have hE:dn s F I=0:=by unfold dn;rw[if_neg (by rw[h];simp),if_neg (by omega),hfa,if_neg (by omega),hba,if_neg (by omega)]
 refine⟨hE,?_,?_⟩
 ·unfold dQ;rw[if_neg (by rw[hE];simp),hba,if_neg (by omega)]
 ·unfold dJ;rw[if_neg (by rw[hE];simp),hba,if_neg (by omega)]
theorem Bz {s:St} (h:aM s=0) {F:Nat} {f:Fi} {v:Int} (hf:s.fs[F]?=some f) (hv:f.b[I]?=some v) (hn:v<0) {X:Int} (hX:0≤X) (hXc:X<s.count) (hu:gD s X=false) :
  aM ⟨s.fs.set F ⟨f.n,f.b.set I X⟩,s.count⟩=0:=by
 obtain⟨h1,h2,h3⟩:=lh.1 h;have hok:=h2 f (bQ hf);refine lh.2 ⟨by simpa using h1,fun g hg => ?_,?_⟩
 ·rcases mM hg with hg|rfl
  ·exact h2 g hg
  refine⟨hok.1,hok.2.1,by simpa using hok.2.2.1,fun b hb => ?_⟩;rcases mM hb with hb|rfl
  ·exact hok.2.2.2 b hb
  show -1≤b∧b<s.count;omega
 ·exact (Jt hf hv hn hX f.n s.count).nodup_iff.2 (sK.2 ⟨fun hm=>GL hu (iX.1 hm).1,h3⟩)
theorem Ja {s:St} {k i:Int} (h:dn s k i=0):aM (dJ s k i)=0∧dn (dJ s k i) k i=0∧dQ (dJ s k i) k i=dQ s k i∧dJ (dJ s k i) k i=dJ s k i ∧
  ((0≤bL s k i∧dJ s k i=s)∨(bL s k i<0∧gD s (dQ s k i)=false∧xQ (dJ s k i)=xQ s-1)):=by
 obtain⟨hw,F,I,f,v,rfl,rfl,hf,hv,hfa,hba,hc⟩:=Bn h;rcases hc with ⟨h0,hS,hN⟩|⟨hn,h0,hN,hS⟩
 ·rw[hS];exact⟨hw,h,rfl,hS,.inl ⟨by rw[hba];exact h0,rfl⟩⟩
 obtain⟨hXc,hu⟩:=EN h0;have hw':=Bz hw hf hv hn h0 hXc hu;have hF:=(bW.1 hf).1;have hI:=(bW.1 hv).1;have hb:=Oo (F:=F) (I:=I) (f:=⟨f.n,f.b.set I (gG s)⟩) (v:=gG s) hw' (vo hF) (vo hI) h0;rw[hS,hN];refine⟨hw',hb.1,hb.2.1,hb.2.2,.inr ⟨by rw[hba];exact hn,hu,?_⟩⟩;have hp:=(Jt hf hv hn h0 f.n s.count).length_eq;unfold xQ;show s.count-((jZ _).length:Int)=s.count-((jZ _).length:Int)-1;rw[hp,oh];omega
structure Cc where
 f:Int
 i:Int
 k:Int
 deriving DecidableEq
def Ab (c:Cc):Array Value:=#[.int .i64 c.f,.int .i64 c.i,.int .i64 c.k]
def mh (c:Cc):List Value:=(Ab c).toList
theorem oV (c:Cc):(mh c).length=3:=rfl
structure Sp where
 lv:Bool
 ar:List Ar
 tb:Tb
 deriving DecidableEq
structure Ma where
 m:Mem
 sl:List Int
 sw:mZ
 dk:mZ
 st:St
 ca:List Cc
 sp:List Sp
def zCc:Cc:=⟨0,0,0⟩
def zSp:Sp:=⟨false,[],zTb⟩
def zMa:Ma:=⟨noM,[],⟨[],[]⟩,⟨[],[]⟩,zSt,[],[]⟩
def cnt (l:List Int) (k:Int):Nat:=l.countP fun x=>decide (x=k)
def trimB (m:Ma):Bool:=
 (List.range m.dk.blocks.length).all (fun b:Nat=>decide ((b:Int)∈kE m.st)||decide (m.dk.blocks.getD b zPg=zPg))&&m.dk.queue.all fun q=>decide (q.1∈kE m.st)
def jF (s:Sp):Int:=if (bG s.ar).1≠0 then (bG s.ar).1 else if cK s.tb≠0 then cK s.tb else if s.lv=false∧0<s.ar.length+(aN s.tb).length then 7 else 0
def gU (m:Ma):Int:=
 if bK m.m≠0 then bK m.m else if dm m.sl≠0 then dm m.sl else if bn m.sw≠0 then bn m.sw else if bn m.dk≠0 then bn m.dk else if aM m.st≠0 then aM m.st
 else if m.sw.blocks.length≠m.sl.length∨(m.dk.blocks.length:Int)≠m.st.count∨trimB m=false then 7
 else if 4<m.sp.length then 4 else firstE (m.sp.map jF)
def rA (m:Ma) (k:Int):Fr:=m.m.fs.getD k.toNat fr0
def sQ (m:Ma) (p:Option Cc) (c:Cc):Int:=
 if c.f<0∨(m.st.fs.length:Int)≤c.f∨c.i<0∨((aU m.st c.f).b.length:Int)≤c.i∨c.k<0∨(m.m.fs.length:Int)≤c.k then 3
 else if (rA m c.k).r<1∨(rA m c.k).f≠c.f∨(rA m c.k).i≠c.i then 7
 else match p with
  | none=>0
  | some q=>if c.f<q.f∨q.f=c.f∧c.i≤q.i then 2 else 0
def xK (l:List Cc) (k:Nat):Option Cc:=if k=0 then none else l[k-1]?
def cachedE (m:Ma):Int:=firstE ((List.range m.ca.length).map fun k=>sQ m (xK m.ca k) (m.ca.getD k zCc))
def bS (m:Ma) (s:Sp) (n:Int):Int:=
 if kD s.ar n<0 then 5 else
 let a:=s.ar.getD (kD s.ar n).toNat zAr;let e:=dG s.tb n
 if e.k=2 then (if (m.sl.length:Int)≤e.n∨a.sh=true then 7 else 0)
 else if (m.m.fs.length:Int)≤e.n then 3 else
 let f:=rA m e.n;let of:=decide (0≤a.fi)&&decide (f.f=a.fi)&&decide (f.i=a.ba+n-a.fr)
 if 0≤f.f∧of=false∨a.sh=true∧of=false∨a.sh=false∧of=true∧e.w=true∨e.w=true∧a.wr=false then 7
 else if f.f<0∧e.w=true∧1<f.r then 7 else 0
def mo (m:Ma):Int:=firstE (m.sp.flatMap fun s=>(aN s.tb).map (bS m s))
def nA (t:Tb) (l:List Int):List Int:=(l.filter fun n=>decide ((dG t n).k=1)).map fun n=>(dG t n).n
def swapT (t:Tb) (l:List Int):List Int:=(l.filter fun n => !decide ((dG t n).k=1)).map fun n=>(dG t n).n
def qQ (m:Ma):List Int:=m.ca.map Cc.k++m.sp.flatMap fun s=>nA s.tb (aN s.tb)
def pG (m:Ma):List Int:=m.sp.flatMap fun s=>swapT s.tb (aN s.tb)
def ku (n:Nat) (l:List Int):List Int:=(List.range n).map fun i:Nat=>(cnt l i:Int)
def countB (m:Ma):Bool:=
 (List.range m.m.fs.length).all (fun i:Nat=>decide ((rA m i).r=cnt (qQ m) i)&&(decide ((rA m i).f<0)||m.ca.any fun c=>decide (c.k=i)))&&decide (m.sl=ku m.sl.length (pG m))
def jK (m:Ma):Int:=if gU m≠0 then gU m else if cachedE m≠0 then cachedE m else if mo m≠0 then mo m else if countB m=true then 0 else 7
def cB (m:Ma) (f i:Int):Page:=
 match m.ca.find? fun c=>decide (c.f=f)&&decide (c.i=i) with
 | some c=>(rA m c.k).p
 | none=>if 0≤bL m.st f i then fF (kY m.dk (bL m.st f i)) ((aU m.st f).n-i*8) else zPg
def BC (s:St) (f i:Int):Bool:=decide (dZ (aU s f).n≤i)
structure Kp where
 m:Ma
 e:Int
def jd (k e:Int):Int:=if k=0 then e else k
def fq (m:Ma) (p:Nat):Sp:=m.sp.getD p zSp
def setTb (m:Ma) (p:Nat) (t:Tb):Ma:={ m with sp:=m.sp.set p { fq m p with tb:=t } }
def jT (k:Kp) (p:Nat) (n:Int) (x:En):Kp:=
 if setE (fq k.m p).tb n x=0 then ⟨setTb k.m p (setT (fq k.m p).tb n x),k.e⟩ else ⟨k.m,jd k.e (setE (fq k.m p).tb n x)⟩
def iE (k:Kp) (f n:Int):Kp:=
 if mV k.m.m f n=0 then ⟨{ k.m with m:=lC k.m.m f n },k.e⟩ else ⟨k.m,jd k.e (mV k.m.m f n)⟩
def oL (k:Kp) (s n:Int):Kp:=
 if fV k.m.sl s n=0 then ⟨{ k.m with sl:=fZ k.m.sl s n },k.e⟩ else ⟨k.m,jd k.e (fV k.m.sl s n)⟩
def qd (k:Kp) (p:Nat) (n:Int):Kp:=
 let x:=dG (fq k.m p).tb n
 if x.k=1 then jT (iE k x.n (-1)) p n zEn else if x.k=2 then jT (oL k x.n (-1)) p n zEn else k
def Ap (f i:Int) (c:Cc):Bool:=decide (f<c.f)||(decide (c.f=f)&&decide (i≤c.i))
def yx (l:List Cc) (f i:Int):Nat:=(l.findIdx? (Ap f i)).getD l.length
def PV (l:List Cc) (f i:Int):Bool:=match l[yx l f i]? with
 | some c=>decide (c.f=f)&&decide (c.i=i)
 | none=>false
def setFr (m:Ma) (f:Nat) (x:Fr):Ma:={ m with m:={ m.m with fs:=m.m.fs.set f x } }
def aT (m:Ma) (f:Nat):Fr:=m.m.fs.getD f fr0
def iY (m:Ma) (f:Nat):Bool:=decide ((aT m f).f<0)||!(aT m f).d||decide (dn m.st (aT m f).f (aT m f).i=0)
def je (k:Kp) (f:Nat):Kp:=
 let x:=aT k.m f
 if x.f<0∨x.d=false∨dn k.m.st x.f x.i≠0 then k
 else ⟨setFr { k.m with st:=dJ k.m.st x.f x.i,dk:=dC k.m.dk (dQ k.m.st x.f x.i) x.p } f { x with d:=false },jd k.e (aL k.m.dk (dQ k.m.st x.f x.i))⟩
def bi (m:Ma) (f:Int):List (Nat × Int):=(List.range m.sp.length).flatMap fun p=>(nT (fq m p).tb 1 f).map fun n=>(p,n)
def kG (k:Kp) (l:List (Nat × Int)):Kp:=l.foldl (fun k u=>qd k u.1 u.2) k
def Fg (f n:Int) (k:Kp) (u:Nat × Int):Kp:=jT (iE k f (-1)) u.1 u.2 ⟨2,n,false⟩
def qL (k:Kp) (f n:Int) (l:List (Nat × Int)):Kp:=l.foldl (Fg f n) k
def lK (m:Ma) (f:Nat):Bool:=if 0≤(aT m f).f then iY m f else decide (gP m.sl (bi m f).length=0)
def fw (k:Kp) (f:Nat):Kp:=
 let x:=aT k.m f;let l:=bi k.m f
 if 0≤x.f then
  if iY k.m f=false then k else
  let k2:=kG (je k f) l
  if PV k2.m.ca x.f x.i=true then iE ⟨{ k2.m with ca:=k2.m.ca.eraseIdx (yx k2.m.ca x.f x.i) },k2.e⟩ f (-1) else k2
 else if gP k.m.sl l.length≠0 then k
 else qL ⟨{ k.m with sl:=lF k.m.sl l.length,sw:=dC k.m.sw (jA k.m.sl l.length) x.p },jd k.e (aL k.m.sw (jA k.m.sl l.length))⟩ f (jA k.m.sl l.length) l
def reclaimN:Nat→Kp→Kp × Bool
 | 0,k=>(k,false)
 | t+1,k=>
  if bK k.m.m≠0∨iH k.m.m<0 then (⟨k.m,jd k.e (bK k.m.m)⟩,false) else
  let k1:Kp:=⟨{ k.m with m:=fG k.m.m },k.e⟩
  if lK k1.m (iH k.m.m).toNat=true then (fw k1 (iH k.m.m).toNat,true) else reclaimN t (fw k1 (iH k.m.m).toNat)
def eX (k:Kp):Kp × Bool:=reclaimN (2*k.m.m.fs.length+1) k
def Rj (m:Ma) (i:Nat):Cc:=m.ca.getD i zCc
def ig (m:Ma) (f i:Int):Page:=if 0≤bL m.st f i then fF (kY m.dk (bL m.st f i)) ((aU m.st f).n-i*8) else zPg
def BM (k:Kp) (i:Nat):Kp:=
 let c:=Rj k.m i;let k1:=kG k (bi k.m c.k)
 iE ⟨{ k1.m with ca:=k1.m.ca.eraseIdx i },k1.e⟩ c.k (-1)
def ent (m:Ma) (p:Nat) (n:Int):En:=dG (fq m p).tb n
structure Pt (m:Ma):Prop where
 fr:bK m.m=0
 sl:dm m.sl=0
 sw:bn m.sw=0
 dk:bn m.dk=0
 st:aM m.st=0
 swl:m.sw.blocks.length=m.sl.length
 dkl:(m.dk.blocks.length:Int)=m.st.count
 spl:m.sp.length≤4
 ar:∀s∈m.sp,(bG s.ar).1=0
 tb:∀s∈m.sp,cK s.tb=0
theorem Dg {m:Ma} (h:p<m.sp.length):m.sp[p]?=some (fq m p):=by
 unfold fq;rw[aW,aG h];rfl
theorem BZ {m:Ma} (h:p<m.sp.length):fq m p∈m.sp:=bQ (Dg h)
theorem nE {m:Ma} (h:m.sp.length≤p):fq m p=zSp:=by
 unfold fq;rw[aW,dI h];rfl
theorem Ni {m:Ma} {s:Sp} (h:s∈m.sp):∃p,p<m.sp.length∧s=fq m p:=by
 obtain⟨i,hi,rfl⟩:=jE.1 h;refine⟨i,hi,?_⟩;have:=Dg (m:=m) hi;rw[aG hi] at this;exact aJ this
theorem Pt.tbN {m:Ma} (h:Pt m) (p:Nat):cK (fq m p).tb=0:=by
 rcases fA p m.sp.length with hp|hp
 ·exact h.tb _ (BZ hp)
 ·rw[nE hp];decide
theorem Pt.arN {m:Ma} (h:Pt m) (p:Nat):(bG (fq m p).ar).1=0:=by
 rcases fA p m.sp.length with hp|hp
 ·exact h.ar _ (BZ hp)
 ·rw[nE hp];decide
theorem tJ {m:Ma} (h:Pt m) (p:Nat) (n:Int):eQ (ent m p n)=0:=qU (h.tbN p) n
theorem Na {m:Ma} (p:Nat) {n:Int} (h:n<0∨64≤n):ent m p n=zEn:=qZ h
theorem dw (e:En):eQ e=0↔(e.k=0∧e.n=0∧e.w=false)∨(e.k=1∧0≤e.n∧e.n<40)∨(e.k=2∧0≤e.n∧e.n<60∧e.w=false):=by
 obtain⟨k,n,w⟩:=e;unfold eQ;simp only;cases w
 all_goals
  simp only[uR,reduceCtorEq,and_true,and_false,or_false,false_or,or_true];constructor
  ·intro h;split at h
   ·omega
   split at h
   ·omega
   ·split at h<;>omega
  intro h;split
  ·omega
  split
  ·omega
  split
  ·omega
  ·rfl
theorem Fp {m:Ma} {t:Tb} (hp:p<m.sp.length) (q:Nat):fq (setTb m p t) q=if q=p then { fq m p with tb:=t } else fq m q:=by
 unfold setTb;show (m.sp.set p _).getD q zSp=_;rw[aW,mf]
 by_cases e:q=p
 ·subst e;rw[if_pos rfl,if_pos hp,if_pos rfl];rfl
 ·rw[if_neg (fun h=>e h.symm),if_neg e];unfold fq;rw[aW]
theorem Px {m:Ma} {t:Tb} (hp:p<m.sp.length) (q:Nat) (n:Int):ent (setTb m p t) q n=if q=p then dG t n else ent m q n:=by
 unfold ent;rw[Fp hp]
 by_cases e:q=p
 ·rw[if_pos e,if_pos e]
 ·rw[if_neg e,if_neg e]
theorem uw {m:Ma} {t:Tb}:(setTb m p t).sp.length=m.sp.length:=bI
theorem Pt.setTb {m:Ma} (h:Pt m) {p:Nat} {t:Tb} (ht:cK t=0):Pt (setTb m p t):=by
 by_cases hp:p<m.sp.length
 ·refine { h with spl:=by rw[uw];exact h.spl,ar:=fun s hs => ?_,tb:=fun s hs => ?_ }
  ·rcases mM hs with hs|rfl
   ·exact h.ar s hs
   ·exact h.arN p
  rcases mM hs with hs|rfl
  ·exact h.tb s hs
  ·exact ht
 have:Go.Proofs.YtjkkoeijlhfneaaGreat.setTb m p t=m:=by unfold Go.Proofs.YtjkkoeijlhfneaaGreat.setTb;rw[List.set_eq_of_length_le (by omega)]
 rw[this];exact h
def qy (kd i:Int) (e:En):Bool:=decide (e.k=kd)&&decide (e.n=i)
def dA (m:Ma) (kd i:Int):Nat:=(m.sp.map fun s=>(dB s.tb).countP (qy kd i)).sum
def vO (b:Bool):Nat:=if b=true then 1 else 0
theorem countP_set {α:Type} (q:α→Bool):∀(l:List α) (k:Nat) (h:k<l.length) (x:α),(l.set k x).countP q+vO (q l[k])=l.countP q+vO (q x)
 | a::l,0,_,x=>by simp only[qw,zL,nP,vO];omega
 | a::l,k+1,h,x=>by have:=countP_set q l k (by simpa using h) x;simp only[ve,Cw,nP];omega
theorem sum_set:∀(l:List Nat) (k:Nat) (h:k<l.length) (x:Nat),(l.set k x).sum+l[k]=l.sum+x
 | a::l,0,_,x=>by simp only[qw,zL,yG];omega
 | a::l,k+1,h,x=>by have:=sum_set l k (by simpa using h) x;simp only[ve,Cw,yG];omega
theorem yJ {t:Tb} {n:Int} {e:En} (h:setE t n e=0):dB (setT t n e)=(dB t).set n.toNat e:=by
 obtain⟨h1,h2,h3⟩:=uS h;rw[Eb h,Dr (Hm h1 h3) (by rw[bI,mR])]
theorem KT {t:Tb} {n:Int} {e:En} (h:setE t n e=0) (q:En→Bool):(dB (setT t n e)).countP q+vO (q (dG t n))=(dB t).countP q+vO (q e):=by
 obtain⟨h1,h2,h3⟩:=uS h;have hl:n.toNat<(dB t).length:=by rw[mR];omega
 have h4:=countP_set q (dB t) n.toNat hl e;have h5:=zR t n.toNat (by omega);rw[aG hl,zz h2.1] at h5;rw[aJ h5] at h4;rw[yJ h];exact h4
theorem vT {m:Ma} (hp:p<m.sp.length) {n:Int} {x:En} (h:setE (fq m p).tb n x=0) (kd i:Int) :
  dA (setTb m p (setT (fq m p).tb n x)) kd i+vO (qy kd i (ent m p n))=dA m kd i+vO (qy kd i x):=by
 have h1:=KT h (qy kd i);have h2:=sum_set (m.sp.map fun s=>(dB s.tb).countP (qy kd i)) p (by simpa using hp) ((dB (setT (fq m p).tb n x)).countP (qy kd i));unfold dA setTb;rw[Cs];have h3:(m.sp.map fun s=>(dB s.tb).countP (qy kd i))[p]'(by simpa using hp)=(dB (fq m p).tb).countP (qy kd i):=by rw[uZ];have:=Dg hp;rw[aG hp] at this;rw[aJ this]
 rw[h3] at h2;have h4:vO (qy kd i (ent m p n))=vO (qy kd i (dG (fq m p).tb n)):=rfl;simp only;omega
theorem TQ {l:List Nat}:0<l.sum↔∃k,∃h:k<l.length,0<l[k]:=by
 induction l with
 | nil=>simp
 | cons a l ih=>
  rw[yG];constructor
  ·intro h
   by_cases ha:0<a
   ·exact⟨0,by simp,by simpa using ha⟩
   obtain⟨k,hk,hx⟩:=ih.1 (by omega);exact⟨k+1,by simpa using hk,by simpa using hx⟩
  rintro⟨k,hk,hx⟩;cases k with
  | zero=>simp at hx;omega
  | succ k=>
   have:=ih.2 ⟨k,by simpa using hk,by simpa using hx⟩;omega
theorem yP {m:Ma} {i:Int} (hk:kd≠0):0<dA m kd i↔∃p n,p<m.sp.length∧(0≤n∧n<64)∧(ent m p n).k=kd∧(ent m p n).n=i:=by
 unfold dA;rw[TQ];constructor
 ·rintro⟨p,hp,h⟩;have hp' : p<m.sp.length:=by simpa using hp
  rw[uZ] at h;obtain⟨e,he,hq⟩:=wT.1 h;obtain⟨j,hj,rfl⟩:=jE.1 he;have hj' : j<64:=by rw[mR] at hj;exact hj
  have hs:m.sp[p]=fq m p:=by have:=Dg hp';rw[aG hp'] at this;exact aJ this
  have h5:=zR m.sp[p].tb j hj';rw[aG hj] at h5;rw[aJ h5,hs] at hq;unfold qy at hq;simp only[dS,decide_eq_true_eq] at hq;exact⟨p,j,hp',by omega,hq.1,hq.2⟩
 rintro⟨p,n,hp,hn,h1,h2⟩;refine⟨p,by simpa using hp,?_⟩;rw[uZ,wT];have hs:m.sp[p]=fq m p:=by have:=Dg hp;rw[aG hp] at this;exact aJ this
 refine⟨ent m p n,?_,by unfold qy;rw[h1,h2];simp⟩;rw[hs];have h5:=zR (fq m p).tb n.toNat (by omega);rw[zz hn.1] at h5;exact bQ h5
theorem xN {m:Ma} (h:f<m.m.fs.length):m.m.fs[f]?=some (aT m f):=by
 unfold aT;rw[aW,aG h];rfl
theorem Te {m:Ma} (h:f<m.m.fs.length):aT m f∈m.m.fs:=bQ (xN h)
theorem Nc {m:Ma} (h:m.m.fs.length≤f):aT m f=fr0:=by
 unfold aT;rw[aW,dI h];rfl
theorem nJ {m:Ma} {x:Fr} (h:f<m.m.fs.length) (g:Nat):aT (setFr m f x) g=if g=f then x else aT m g:=by
 unfold aT setFr;simp only;rw[aW,mf]
 by_cases e:g=f
 ·subst e;rw[if_pos rfl,if_pos h,if_pos rfl];rfl
 ·rw[if_neg (fun e'=>e e'.symm),if_neg e,aW]
theorem mX {m:Ma} {x:Fr}:(setFr m f x).m.fs.length=m.m.fs.length:=bI
theorem Pt.frE {m:Ma} (h:Pt m) (hf:f<m.m.fs.length):dR (aT m f)=0:=((eD _).1 h.fr).2.1 _ (Te hf)
theorem Pt.setFr {m:Ma} (h:Pt m) {f:Nat} {x:Fr} (hx:dR x=0):Pt (setFr m f x):={ h with fr:=LG h.fr hx }
theorem Rb {x:Fr} {n:Int} (h:dR x=0) (hr:x.r≠0) (h1 : -x.r≤n) (h2:n≤1000-x.r):dR (jo x n)=0:=by
 unfold jo
 by_cases h0:x.r+n=0
 ·rw[if_pos h0];decide
 rw[if_neg h0,iD];have:=(iD x).1 h;refine⟨by simp only;omega,fun h3=>absurd h3 h0,this.2.2⟩
theorem Qa {m:Mem} {k n:Int} (h:bK m=0) (hk:0≤k∧k<m.fs.length) (hr:(m.fs.getD k.toNat fr0).r≠0) (h1 : -(m.fs.getD k.toNat fr0).r≤n) (h2:n≤1000-(m.fs.getD k.toNat fr0).r):mV m k n=0:=by
 unfold mV;rw[if_neg (by rw[h];simp),if_neg (by omega),if_neg (by omega)]
theorem JS {k:Kp} {n:Int} (h:Pt k.m) (hf:f<k.m.m.fs.length) (hr:(aT k.m f).r≠0) (h1 : -(aT k.m f).r≤n) (h2:n≤1000-(aT k.m f).r) :
  iE k f n=⟨setFr k.m f (jo (aT k.m f) n),k.e⟩∧Pt (setFr k.m f (jo (aT k.m f) n)):=by
 have h0:mV k.m.m (f:Int) n=0:=Qa h.fr (by omega) hr h1 h2;refine⟨?_,h.setFr (Rb (h.frE hf) hr h1 h2)⟩;unfold iE;rw[if_pos h0];congr 1;unfold lC;rw[if_pos h0];rfl
def oG (m:Ma) (s:Nat):Int:=m.sl.getD s 0
def setSl (m:Ma) (s:Nat) (n:Int):Ma:={ m with sl:=m.sl.set s n }
theorem LU {m:Ma} (h:f<m.sl.length):m.sl[f]?=some (oG m f):=by
 unfold oG;rw[aW,aG h];rfl
theorem Nn {m:Ma} {x:Int} (h:f<m.sl.length) (g:Nat):oG (setSl m f x) g=if g=f then x else oG m g:=by
 unfold oG setSl;simp only;rw[aW,mf]
 by_cases e:g=f
 ·subst e;rw[if_pos rfl,if_pos h,if_pos rfl];rfl
 ·rw[if_neg (fun e'=>e e'.symm),if_neg e,aW]
theorem Pt.slB {m:Ma} (h:Pt m) (s:Nat):0≤oG m s∧oG m s≤1000:=by
 rcases fA s m.sl.length with hs|hs
 ·have:=Dw h.sl _ (bQ (LU hs));unfold qx at this;simp only[zg,decide_eq_false_iff_not] at this;omega
 ·unfold oG;rw[aW,dI hs];simp
theorem Pt.setSl {m:Ma} (h:Pt m) {s:Nat} {n:Int} (h0:0≤n) (h1:n≤1000):Pt (setSl m s n):=
 { h with sl:=Da s n h.sl h0 h1,swl:=h.swl.trans bI.symm }
theorem ug {k:Kp} {n:Int} {x:En} (h:Pt k.m) (hn:0≤n∧n<64) (hx:eQ x=0) :
  setE (fq k.m p).tb n x=0∧jT k p n x=⟨setTb k.m p (setT (fq k.m p).tb n x),k.e⟩∧Pt (setTb k.m p (setT (fq k.m p).tb n x)):=by
 have h0:=MU (h.tbN p) hn hx;refine⟨h0,?_,h.setTb (yj h0)⟩;unfold jT;rw[if_pos h0]
theorem wV {m:Ma} {n:Int} {x:En} (hp:p<m.sp.length) (h:setE (fq m p).tb n x=0) (q:Nat) (j:Int):ent (setTb m p (setT (fq m p).tb n x)) q j=if q=p∧j=n then x else ent m q j:=by
 rw[Px hp]
 by_cases e:q=p
 ·subst e;rw[if_pos rfl,Rq h]
  by_cases e2:j=n
  ·rw[if_pos e2,if_pos ⟨rfl,e2⟩]
  ·rw[if_neg e2,if_neg (fun h'=>e2 h'.2)];rfl
 ·rw[if_neg e,if_neg (fun h'=>e h'.1)]
structure kH (m m' : Ma):Prop where
 len:m'.sp.length=m.sp.length
 lv:∀p,(fq m' p).lv=(fq m p).lv
 ar:∀p,(fq m' p).ar=(fq m p).ar
theorem kH.refl (m:Ma):kH m m:=⟨rfl,fun _=>rfl,fun _=>rfl⟩
theorem kH.trans {a b c:Ma} (h:kH a b) (k:kH b c):kH a c:=⟨k.len.trans h.len,fun p=>(k.lv p).trans (h.lv p),fun p=>(k.ar p).trans (h.ar p)⟩
theorem kH.of {m m' : Ma} (h:m'.sp=m.sp):kH m m':=⟨by rw[h],fun p=>by unfold fq;rw[h],fun p=>by unfold fq;rw[h]⟩
theorem kH.setTb {m:Ma} {p:Nat} {t:Tb}:kH m (setTb m p t):=by
 by_cases hp:p<m.sp.length
 ·refine⟨uw,fun q => ?_,fun q => ?_⟩
  all_goals
   rw[Fp hp]
   by_cases e:q=p
   ·rw[if_pos e,e]
   ·rw[if_neg e]
 have:Go.Proofs.YtjkkoeijlhfneaaGreat.setTb m p t=m:=by unfold Go.Proofs.YtjkkoeijlhfneaaGreat.setTb;rw[List.set_eq_of_length_le (by omega)]
 rw[this];exact .refl _
structure Rest (m m' : Ma):Prop where
 sl:m'.sl=m.sl
 sw:m'.sw=m.sw
 dk:m'.dk=m.dk
 st:m'.st=m.st
 ca:m'.ca=m.ca
theorem Rest.refl (m:Ma):Rest m m:=⟨rfl,rfl,rfl,rfl,rfl⟩
theorem Rest.trans {a b c:Ma} (h:Rest a b) (k:Rest b c):Rest a c:=⟨k.sl.trans h.sl,k.sw.trans h.sw,k.dk.trans h.dk,k.st.trans h.st,k.ca.trans h.ca⟩
structure Ut (m:Ma) (f:Nat) (l:List (Nat × Int)):Prop where
 nd:l.Nodup
 mem:∀u∈l,u.1<m.sp.length∧(0≤u.2∧u.2<64)∧(ent m u.1 u.2).k=1∧(ent m u.1 u.2).n=f
theorem Fh {x:Fr} (h:dR x=0):jo x 0=x:=by
 unfold jo
 by_cases h0:x.r=0
 ·rw[if_pos (by omega)];exact (Tz h h0).symm
 rw[if_neg (by omega)];obtain⟨p,r,u,d,f,i⟩:=x;simp
theorem Oz {x:Fr} (h:dR x=0) (j:Nat) (hr:(j:Int)+1≤x.r):jo (jo x (-1)) (-(j:Int))=jo x (-((j:Int)+1)):=by
 by_cases h0:x.r=1
 ·have:j=0:=by omega
  subst this;have h1:jo x (-1)=frZ:=by unfold jo;rw[if_pos (by omega)]
  rw[show -((0:Nat):Int)=0 from rfl,show -(((0:Nat):Int)+1) = -1 from rfl,h1];exact Fh (by decide)
 have h1:jo x (-1) = { x with r:=x.r + -1 }:=by unfold jo;rw[if_neg (by omega)]
 rw[h1];unfold jo;simp only
 by_cases h2:x.r=(j:Int)+1
 ·rw[if_pos (by omega),if_pos (by omega)]
 rw[if_neg (by omega),if_neg (by omega)];congr 1;omega
def Tu (f:Nat) (e' : En) (k:Kp) (u:Nat × Int):Kp:=jT (iE k f (-1)) u.1 u.2 e'
theorem CL {m:Ma} (hf:f<m.m.fs.length):setFr m f (aT m f)=m:=by
 have h2:m.m.fs.set f (aT m f)=m.m.fs:=by have:=xN hf;rw[aG hf] at this;rw[←aJ this,sH]
 unfold setFr;rw[h2]
theorem Cr {f:Nat} {e' : En} (he:eQ e' = 0) (step:Kp→(Nat × Int)→Kp) (hstep:∀k u,(ent k.m u.1 u.2).k=1→(ent k.m u.1 u.2).n=f→step k u=Tu f e' k u):∀(l:List (Nat × Int)) (k:Kp),Pt k.m→Ut k.m f l→f<k.m.m.fs.length→(l.length:Int)≤(aT k.m f).r →
  (l.foldl step k).e=k.e∧Pt (l.foldl step k).m∧Rest k.m (l.foldl step k).m∧kH k.m (l.foldl step k).m∧(l.foldl step k).m.m=(setFr k.m f (jo (aT k.m f) (-(l.length:Int)))).m ∧
   (∀p n,ent (l.foldl step k).m p n=if (p,n)∈l then e' else ent k.m p n)∧∀kd i,dA (l.foldl step k).m kd i+(if kd=1∧i=f then l.length else 0)=dA k.m kd i+(if kd=e'.k∧i=e'.n then l.length else 0)
 | [],k,h,hu,hf,hr=>by refine⟨rfl,h,.refl _,.refl _,?_,fun p n=>by simp,fun kd i=>by simp⟩;show k.m.m=_;rw[show -(([]:List (Nat × Int)).length:Int)=0 from rfl,Fh (h.frE hf),CL hf]
 | u::l,k,h,hu,hf,hr=>by
  obtain⟨hp,hn,hk1,hkn⟩:=hu.mem u gL;simp only[oh] at hr;have hfr:=h.frE hf;have hb:=((iD _).1 hfr).1;obtain⟨e1,p1⟩:=JS (k:=k) (f:=f) (n:=-1) h hf (by omega) (by omega) (by omega);have hheld:=Oz hfr l.length (by omega);generalize hX:jo (aT k.m f) (-1)=X at e1 p1 hheld;obtain⟨s0,e2,p2⟩:=ug (k:=⟨setFr k.m f X,k.e⟩) (p:=u.1) (n:=u.2) (x:=e') p1 hn he;have hd:step k u=⟨setTb (setFr k.m f X) u.1 (setT (fq k.m u.1).tb u.2 e'),k.e⟩:=by rw[hstep k u hk1 hkn];unfold Tu;rw[e1,e2];rfl
  have hent:=fun q j=>wV (m:=setFr k.m f X) (p:=u.1) (n:=u.2) (x:=e') hp s0 q j;have hhold:=fun kd i=>vT (m:=setFr k.m f X) (p:=u.1) (n:=u.2) (x:=e') hp s0 kd i;have hnd:=sK.1 hu.nd;have hm1:(step k u).m.m=(setFr k.m f X).m:=by rw[hd];rfl
  have hfN:aT (step k u).m f=X:=by
   have:aT (step k u).m f=aT (setFr k.m f X) f:=by unfold aT;rw[hm1]
   rw[this,nJ hf,if_pos rfl]
  have hentd:∀q j,ent (step k u).m q j=if q=u.1∧j=u.2 then e' else ent k.m q j:=fun q j=>by rw[hd];exact hent q j
  have hlen:(step k u).m.sp.length=k.m.sp.length:=by rw[hd];exact uw
  have hXr:X.r=(aT k.m f).r-1:=by
   rw[←hX];unfold jo
   by_cases h0:(aT k.m f).r + -1=0
   ·rw[if_pos h0];show (0:Int)=_;omega
   ·rw[if_neg h0];rfl
  have ih:=Cr he step hstep l (step k u) (by rw[hd];exact p2) ⟨hnd.2,fun v hv=>by obtain⟨a1,a2,a3,a4⟩:=hu.mem v (jg _ hv);have hne:¬(v.1=u.1∧v.2=u.2):=fun e=>hnd.1 (by rw[←show v=u from Prod.ext e.1 e.2];exact hv);rw[hlen,hentd,if_neg hne];exact⟨a1,a2,a3,a4⟩⟩ (by rw[hm1,mX];exact hf) (by rw[hfN,hXr];omega);obtain⟨i1,i2,i3,i4,i5,i6,i7⟩:=ih;rw[zF];refine⟨by rw[i1,hd],i2,Rest.trans (by rw[hd];exact⟨rfl,rfl,rfl,rfl,rfl⟩) i3,kH.trans (by rw[hd];exact kH.trans (b:=setFr k.m f X) (kH.of rfl) kH.setTb) i4,?_,fun q j => ?_,fun kd i => ?_⟩
  ·rw[i5,hfN,hheld];unfold setFr;simp only;rw[hm1];unfold setFr;simp only[Gu,oh];rfl
  ·rw[i6,hentd]
   by_cases e1:(q,j)∈l
   ·rw[if_pos e1,if_pos (jg _ e1)]
   rw[if_neg e1]
   by_cases e2:q=u.1∧j=u.2
   ·rw[if_pos e2,if_pos (by rw[show (q,j)=u from Prod.ext e2.1 e2.2];exact gL)]
   rw[if_neg e2,if_neg];intro e3;rcases bY.1 e3 with e3|e3
   ·exact e2 ⟨congrArg Prod.fst e3,congrArg Prod.snd e3⟩
   ·exact e1 e3
  have a1:=i7 kd i;have a2:=hhold kd i;have a3:dA (step k u).m kd i=dA (setTb (setFr k.m f X) u.1 (setT (fq (setFr k.m f X) u.1).tb u.2 e')) kd i:=by rw[hd];rfl
  have a4:dA (setFr k.m f X) kd i=dA k.m kd i:=rfl;have a5:vO (qy kd i (ent (setFr k.m f X) u.1 u.2))=if kd=1∧i=f then 1 else 0:=by
   have:ent (setFr k.m f X) u.1 u.2=ent k.m u.1 u.2:=rfl;rw[this];unfold qy vO;rw[hk1,hkn]
   by_cases e:kd=1∧i=f
   ·rw[if_pos e,e.1,e.2];simp
   rw[if_neg e,if_neg];simp only[dS,decide_eq_true_eq];exact fun h'=>e ⟨h'.1.symm,h'.2.symm⟩
  have a6:vO (qy kd i e')=if kd=e'.k∧i=e'.n then 1 else 0:=by
   unfold qy vO
   by_cases e:kd=e'.k∧i=e'.n
   ·rw[if_pos e,e.1,e.2];simp
   rw[if_neg e,if_neg];simp only[dS,decide_eq_true_eq];exact fun h'=>e ⟨h'.1.symm,h'.2.symm⟩
  rw[a3] at a1;rw[a4,a5,a6] at a2;rw[oh]
  by_cases c1:kd=1∧i=f
  ·rw[if_pos c1] at a1 a2 ⊢
   by_cases c2:kd=e'.k∧i=e'.n
   ·rw[if_pos c2] at a1 a2 ⊢; omega
   ·rw[if_neg c2] at a1 a2 ⊢; omega
  rw[if_neg c1] at a1 a2 ⊢
  by_cases c2:kd=e'.k∧i=e'.n
  ·rw[if_pos c2] at a1 a2 ⊢; omega
  ·rw[if_neg c2] at a1 a2 ⊢; omega
theorem FR {α β:Type} {f:α→β} (hf:∀a b,f a=f b→a=b) {l:List α} (h:l.Nodup):(l.map f).Nodup:=List.Pairwise.map _ (fun a b hne e=>hne (hf a b e)) h
theorem oz {t:Tb} {n:Int}:n∈aN t↔(0≤n∧n<64)∧(dG t n).k≠0:=by
 unfold aN jw;simp only[ib,Gx,dE,ou,decide_eq_true_eq];constructor
 ·rintro⟨j,⟨h1,h2⟩,rfl⟩;exact⟨by omega,h2⟩
 rintro⟨h1,h2⟩;refine⟨n.toNat,⟨by omega,?_⟩,by omega⟩;rw[zz h1.1];exact h2
theorem Jv {t:Tb} {i n:Int} (hk:kd≠0):n∈nT t kd i↔(0≤n∧n<64)∧(dG t n).k=kd∧(dG t n).n=i:=by
 unfold nT pU;rw[Gx,oz];simp only[Ch,dS,xh,decide_eq_false_iff_not,sV];constructor
 ·rintro⟨⟨h1,_⟩,h2⟩;exact⟨h1,h2⟩
 ·rintro⟨h1,h2⟩;exact⟨⟨h1,by rw[h2.1];exact hk⟩,h2⟩
theorem Kq (t:Tb):(aN t).Nodup:=by
 unfold aN jw;exact FR (fun a b h=>by have h' : (a:Int)=b:=h;omega) (List.nodup_range.filter _)
theorem DK {t:Tb} {i:Int} (hk:kd≠0):(nT t kd i).length=(dB t).countP (qy kd i):=by
 unfold nT aN jw dB;rw[←FZ,vI,FX,vI];congr 1;funext n;simp only[Iz,pU,qy,ou,Ch];rw[lS];simp only[dS,xh,decide_eq_false_iff_not,sV,decide_eq_true_eq];constructor
 ·rintro⟨h,_⟩;exact h
 ·intro h;exact⟨h,by rw[h.1];exact hk⟩
theorem uu {m:Ma} {f:Int} {u:Nat × Int}:u∈bi m f↔u.1<m.sp.length∧(0≤u.2∧u.2<64)∧(ent m u.1 u.2).k=1∧(ent m u.1 u.2).n=f:=by
 unfold bi;simp only[jP,dE,ib];constructor
 ·rintro⟨p,hp,n,hn,rfl⟩;exact⟨hp,(Jv (by decide)).1 hn⟩
 rintro⟨hp,h⟩;exact⟨u.1,hp,u.2,(Jv (by decide)).2 h,rfl⟩
theorem CS {α β:Type} (g:α→List β):∀(l:List α),l.Nodup→(∀x∈l,(g x).Nodup)→(∀x∈l,∀y∈l,∀z,z∈g x→z∈g y→x=y)→(l.flatMap g).Nodup
 | [],_,_,_=>by simp
 | a::l,h1,h2,h3=>by rw[lZ,xx];have h4:=sK.1 h1;refine⟨h2 a gL,CS g l h4.2 (fun x hx=>h2 x (jg _ hx)) (fun x hx y hy=>h3 x (jg _ hx) y (jg _ hy)),?_⟩;rintro z hz w hw rfl;obtain⟨y,hy,hzy⟩:=jP.1 hw;exact h4.1 (by rw[h3 a gL y (jg _ hy) z hz hzy];exact hy)
theorem JL (m:Ma) (f:Int):(bi m f).Nodup:=by
 unfold bi;refine CS _ _ List.nodup_range (fun p hp => ?_) (fun p _ q _ z h1 h2 => ?_)
 ·unfold nT;exact FR (fun a b h=>by simpa using h) ((Kq _).filter _)
 obtain⟨_,_,rfl⟩:=ib.1 h1;obtain⟨_,_,e⟩:=ib.1 h2;exact (congrArg Prod.fst e).symm
theorem DJ (m:Ma) (f:Nat):Ut m f (bi m f):=⟨JL m f,fun u hu=>uu.1 hu⟩
theorem OM {α:Type} (l:List α) (d:α) {β:Type} (g:α→β):(List.range l.length).map (fun p=>g (l.getD p d))=l.map g:=by
 apply sN
 ·simp
 intro i h1 h2;simp only[uZ,Ga];rw[aW,aG (by simpa using h2)];rfl
theorem uh (m:Ma) (f:Int):(bi m f).length=dA m 1 f:=by
 unfold bi dA;rw[List.length_flatMap];simp only[fe,DK (show (1:Int)≠0 by decide)];rw[←OM m.sp zSp];rfl
def zn (s:St) (f i:Int):Prop:=(0≤f∧f<s.fs.length)∧0≤i∧i<(aU s f).b.length
theorem oJ {s:St} {F:Nat} {x:Fi} (h:s.fs[F]?=some x):aU s F=x:=by
 unfold aU;rw[if_pos (by omega),bU,aW,h];rfl
theorem yT {s:St} {f:Int} (h:0≤f∧f<s.fs.length):s.fs[f.toNat]?=some (aU s f):=by
 unfold aU;rw[if_pos h.1,aW,aG (by omega)];rfl
theorem um {s:St} {f i:Int} (h:zn s f i):(aU s f).b[i.toNat]?=some (bL s f i):=by
 unfold bL;rw[aW,aG (by have:=h.2;omega)];rfl
theorem ul {s:St} {f i:Int} (h:zn s f i):bL s f i∈kE s:=
 jP.2 ⟨_,bQ (yT h.1),bQ (um h)⟩
theorem JX {s:St} {x:Int} (h:x∈kE s):∃f i,zn s f i∧bL s f i=x:=by
 obtain⟨fi,h1,h2⟩:=jP.1 h;obtain⟨F,hF,rfl⟩:=jE.1 h1;obtain⟨I,hI,rfl⟩:=jE.1 h2;have hf:aU s F=s.fs[F]:=oJ (aG hF);have hin:zn s F I:=⟨by omega,by omega,by rw[hf];omega⟩;refine⟨F,I,hin,?_⟩;have:=um hin;rw[hf,bU,aG hI] at this;exact (aJ this).symm
theorem posB_inj:∀ {l:List Int} {I J:Nat} {v:Int},(jZ l).Nodup→l[I]?=some v→l[J]?=some v→0≤v→I=J
 | [],_,_,_,_,h,_,_=>by simp at h
 | a::l,0,0,_,_,_,_,_=>rfl
 | a::l,0,J+1,v,hn,h1,h2,h0=>by simp only[mY,iM] at h1;subst h1;rw[Ho h0] at hn;exact ((sK.1 hn).1 (iX.2 ⟨bQ (by simpa using h2:l[J]?=some a),h0⟩)).elim
 | a::l,I+1,0,v,hn,h1,h2,h0=>by simp only[mY,iM] at h2;subst h2;rw[Ho h0] at hn;exact ((sK.1 hn).1 (iX.2 ⟨bQ (by simpa using h1:l[I]?=some a),h0⟩)).elim
 | a::l,I+1,J+1,v,hn,h1,h2,h0=>by
  have:(jZ l).Nodup:=by have hs:(jZ l).Sublist (jZ (a::l)):=(List.sublist_cons_self a l).filter _;exact hn.sublist hs
  have h3:=posB_inj (I:=I) (J:=J) this (by simpa using h1) (by simpa using h2) h0;omega
theorem flat_inj:∀ {fs:List Fi} {F G I J:Nat} {x y:Fi} {v:Int},(jZ (fs.flatMap Fi.b)).Nodup→fs[F]?=some x→fs[G]?=some y→x.b[I]?=some v→y.b[J]?=some v→0≤v→F=G∧I=J
 | [],_,_,_,_,_,_,_,_,h,_,_,_,_=>by simp at h
 | a::fs,F,G,I,J,x,y,v,hn,hF,hG,hI,hJ,h0=>by
  rw[lZ,uB,xx] at hn;obtain⟨n1,n2,n3⟩:=hn;cases F with
  | zero=>
   simp only[mY,iM] at hF;subst hF;cases G with
   | zero=>
    simp only[mY,iM] at hG;subst hG;exact⟨rfl,posB_inj n1 hI hJ h0⟩
   | succ G=>
    exact absurd rfl (n3 v (iX.2 ⟨bQ hI,h0⟩) v (iX.2 ⟨jP.2 ⟨y,bQ (by simpa using hG),bQ hJ⟩,h0⟩))
  | succ F=>
   cases G with
   | zero=>
    simp only[mY,iM] at hG;subst hG;exact absurd rfl (n3 v (iX.2 ⟨bQ hJ,h0⟩) v (iX.2 ⟨jP.2 ⟨x,bQ (by simpa using hF),bQ hI⟩,h0⟩))
   | succ G=>
    obtain⟨e1,e2⟩:=flat_inj n2 (by simpa using hF) (by simpa using hG) hI hJ h0;exact⟨by omega,e2⟩
theorem Me {s:St} (h:aM s=0) {f i g j:Int} (h1:zn s f i) (h2:zn s g j) (h0:0≤bL s f i) (he:bL s f i=bL s g j):f=g∧i=j:=by
 have hn:=(lh.1 h).2.2;obtain⟨e1,e2⟩:=flat_inj hn (yT h1.1) (yT h2.1) (um h1) (by rw[he];exact um h2) h0;have:=h1.1;have:=h1.2;have:=h2.1;have:=h2.2;omega
theorem yD {s:St} (h:aM s=0) {f:Int} (hf:0≤f∧f<s.fs.length):DI s.count (aU s f):=(lh.1 h).2.1 _ (bQ (yT hf))
theorem block_lt {s:St} (h:aM s=0) {f i:Int} (hi:zn s f i) : -1≤bL s f i∧bL s f i<s.count:=
 (yD h hi.1).2.2.2 _ (bQ (um hi))
theorem Hg {s:St} (h:aM s=0) {f i:Int} (hi:zn s f i):f<5∧i<12∧i*8<(aU s f).n∧(aU s f).n≤96:=by
 have h1:=(lh.1 h).1;obtain⟨a1,a2,a3,_⟩:=yD h hi.1;have h2:=hi.1;have h3:=hi.2;rw[a3] at h3;unfold dZ at h3;split at h3<;>omega
structure Blocked (s s' : St) (f i b:Int):Prop where
 right:aM s' = 0
 count:s'.count=s.count
 len:s'.fs.length=s.fs.length
 size:∀g,(aU s' g).n=(aU s g).n
 lenb:∀g,(aU s' g).b.length=(aU s g).b.length
 at_:bL s' f i=b
 other:∀g j,0≤j→¬(g=f∧j=i)→bL s' g j=bL s g j
 b0:0≤b
 bc:b<s.count
 used:∀x,0≤x→(x∈kE s'↔x=b∨x∈kE s)
 was:(bL s f i=b∧s' = s)∨(bL s f i<0∧b ∉ kE s∧xQ s' = xQ s-1)
theorem zn.same {s s' : St} {f i:Int} (h:zn s f i) (h1:s'.fs.length=s.fs.length) (h2:∀g,(aU s' g).b.length=(aU s g).b.length):zn s' f i:=⟨by rw[h1];exact h.1,by rw[h2];exact h.2⟩
theorem blocked {s:St} {f i:Int} (h:dn s f i=0):zn s f i∧Blocked s (dJ s f i) f i (dQ s f i):=by
 have ha:=Ja h;obtain⟨hw,F,I,x,v,rfl,rfl,hf,hv,hfa,hba,hc⟩:=Bn h;have hF:=(bW.1 hf).1;have hI:=(bW.1 hv).1;have hin:zn s F I:=⟨by omega,by omega,by rw[hfa];omega⟩;refine⟨hin,?_⟩;have hb:=block_lt hw hin;rcases hc with ⟨h0,hS,hN⟩|⟨hn,h0,hN,hS⟩
 ·rw[hS,hN];rw[hba] at hb;exact⟨hw,rfl,rfl,fun _=>rfl,fun _=>rfl,hba,fun _ _ _ _=>rfl,h0,hb.2,fun y _=>⟨.inr,fun h=>h.elim (fun e=>by rw[e,←hba];exact ul hin) id⟩,.inl ⟨hba,rfl⟩⟩
 obtain⟨hXc,hu⟩:=EN h0;have hbk:=GL hu;have hleft:=ha.2.2.2.2;rw[hba] at hleft;have hleft:xQ (dJ s F I)=xQ s-1:=by
  rcases hleft with ⟨e,_⟩|⟨_,_,e⟩
  ·omega
  ·exact e
 have hright:=ha.1;rw[hS] at hright hleft;rw[hS,hN];generalize hs' : (⟨s.fs.set F ⟨x.n,x.b.set I (gG s)⟩,s.count⟩:St)=s' at *
 have hfile:∀g,aU s' g=if g=F then ⟨x.n,x.b.set I (gG s)⟩ else aU s g:=by
  intro g;rw[←hs'];unfold aU;simp only
  by_cases g0:0≤g
  ·rw[if_pos g0,if_pos g0,aW,mf]
   by_cases e:g=F
   ·rw[if_pos e,if_pos (by omega),if_pos (by omega)];rfl
   ·rw[if_neg e,if_neg (by omega),aW]
  ·rw[if_neg g0,if_neg g0,if_neg (by omega)]
 have hlen:s'.fs.length=s.fs.length:=by rw[←hs'];exact bI
 have hlenb:∀g,(aU s' g).b.length=(aU s g).b.length:=by
  intro g;rw[hfile]
  by_cases e:g=F
  ·rw[if_pos e,e,hfa];exact bI
  ·rw[if_neg e]
 have hat:bL s' F I=gG s:=by unfold bL;rw[hfile,if_pos rfl,bU,aW,vo hI];rfl
 have hoth:∀g j,0≤j→¬(g=(F:Int)∧j=(I:Int))→bL s' g j=bL s g j:=by
  intro g j hj hne;unfold bL;rw[hfile]
  by_cases e:g=F
  ·rw[if_pos e,e,hfa];simp only;rw[aW,sF (by omega),aW]
  ·rw[if_neg e]
 refine⟨hright,by rw[←hs'],hlen,fun g => ?_,hlenb,hat,hoth,h0,hXc,fun y hy => ?_,.inr ⟨by rw[hba];exact hn,hbk,hleft⟩⟩
 ·rw[hfile]
  by_cases e:g=F
  ·rw[if_pos e,e,hfa]
  ·rw[if_neg e]
 constructor
 ·intro hm;obtain⟨g,j,hin',hbe⟩:=JX hm
  by_cases e:g=(F:Int)∧j=(I:Int)
  ·rw[e.1,e.2,hat] at hbe;exact .inl hbe.symm
  rw[hoth g j hin'.2.1 e] at hbe;refine .inr ?_;rw[←hbe];exact ul ⟨by rw[←hlen];exact hin'.1,by rw[←hlenb];exact hin'.2⟩
 rintro (e|hm)
 ·rw[e,←hat];exact ul (hin.same hlen hlenb)
 obtain⟨g,j,hin',hbe⟩:=JX hm;have e:¬(g=(F:Int)∧j=(I:Int)):=by rintro⟨e1,e2⟩;rw[e1,e2,hba] at hbe;omega
 rw[←hbe,←hoth g j hin'.2.1 e];exact ul (hin'.same hlen hlenb)
def pM (m:Ma) (p:Nat) (n:Int):Option Pg:=onA (fq m p).ar n
def BB (a b:Cc):Prop:=a.f<b.f∨a.f=b.f∧a.i<b.i
def Ot (x:Fr) (g:Pg) (w:Bool):Prop:=
 (0≤x.f→x.f=g.fi∧x.i=g.pg)∧(g.sh=true→0≤x.f)∧(w=true→g.wr=true)∧(w=true→0≤x.f→g.sh=true)∧(w=true→x.f<0→x.r≤1)
structure Ur (m:Ma) (g:Pg) (e:En):Prop where
 sw:e.k=2→e.n<m.sl.length∧g.sh=false
 lt:e.k=1→e.n<m.m.fs.length
 fr:e.k=1→Ot (aT m e.n.toNat) g e.w
structure vG (m:Ma):Prop where
 file:∀c∈m.ca,zn m.st c.f c.i
 lt:∀c∈m.ca,0≤c.k∧c.k<m.m.fs.length
 fr:∀c∈m.ca,1≤(aT m c.k.toNat).r∧(aT m c.k.toNat).f=c.f∧(aT m c.k.toNat).i=c.i
 srt:m.ca.Pairwise BB
def wy (m:Ma) (i:Int):Nat:=m.ca.countP fun c=>decide (c.k=i)
structure Rt (m:Ma):Prop where
 pt:Pt m
 trim:(∀b:Int,0≤b→b<m.dk.blocks.length→b∈kE m.st∨m.dk.blocks.getD b.toNat zPg=zPg)∧∀q∈m.dk.queue,q.1∈kE m.st
 live:∀p,(fq m p).lv=false→(fq m p).ar=[]∧∀n,(ent m p n).k=0
 ca:vG m
 en:∀p n,(ent m p n).k≠0→∃g,pM m p n=some g∧Ur m g (ent m p n)
 cf:∀i:Nat,i<m.m.fs.length→(aT m i).r=wy m i+dA m 1 i
 fc:∀i:Nat,i<m.m.fs.length→0≤(aT m i).f→∃c∈m.ca,c.k=i
 cs:∀s:Nat,s<m.sl.length→oG m s=dA m 2 s
structure Co (m:Ma):Prop where
 tail:∀c∈m.ca,fF (aT m c.k.toNat).p ((aU m.st c.f).n-c.i*8)=(aT m c.k.toNat).p
 clean:∀c∈m.ca,(aT m c.k.toNat).d=false→(aT m c.k.toNat).p=ig m c.f c.i
 anon:∀i:Nat,i<m.m.fs.length→(aT m i).d=true→0≤(aT m i).f
def OG (m:Ma) (p:Nat) (n:Int):Page × Bool × Int:=
 match pM m p n with
 | none=>(zPg,false,5)
 | some g=>
  if (ent m p n).k=1 then ((rA m (ent m p n).n).p,decide ((rA m (ent m p n).n).f<0),0)
  else if (ent m p n).k=2 then (kY m.sw (ent m p n).n,true,aL m.sw (ent m p n).n)
  else if g.fi<0 then (zPg,false,0)
  else if (m.st.fs.length:Int)≤g.fi∨BC m.st g.fi g.pg=true then (zPg,false,9)
  else (cB m g.fi g.pg,false,0)
structure MQ (m m' : Ma):Prop where
 sk:kH m m'
 files:m'.st.fs.length=m.st.fs.length
 size:∀f,(aU m'.st f).n=(aU m.st f).n
 lenb:∀f,(aU m'.st f).b.length=(aU m.st f).b.length
 see:∀p n,OG m' p n=OG m p n
 con:∀f i,zn m.st f i→cB m' f i=cB m f i
theorem MQ.refl (m:Ma):MQ m m:=⟨.refl m,rfl,fun _=>rfl,fun _=>rfl,fun _ _=>rfl,fun _ _ _=>rfl⟩
theorem MQ.trans {a b c:Ma} (h:MQ a b) (k:MQ b c):MQ a c:=
 ⟨h.sk.trans k.sk,k.files.trans h.files,fun f=>(k.size f).trans (h.size f),fun f=>(k.lenb f).trans (h.lenb f),fun p n=>(k.see p n).trans (h.see p n),fun f i hi=>(k.con f i (hi.same h.files h.lenb)).trans (h.con f i hi)⟩
theorem Gq (a:Cc):¬BB a a:=fun h=>by unfold BB at h;omega
theorem srt_eq:∀ {l:List Cc},l.Pairwise BB→∀ {a b:Cc},a∈l→b∈l→a.f=b.f→a.i=b.i→a=b
 | [],_,_,_,h,_,_,_=>by cases h
 | c::l,hs,a,b,ha,hb,e1,e2=>by
  obtain⟨h1,h2⟩:=rW.1 hs;rcases bY.1 ha with e|ha<;>rcases bY.1 hb with e' | hb
  ·rw[e,e']
  ·have:=h1 b hb;rw[e] at e1 e2;unfold BB at this;omega
  ·have:=h1 a ha;rw[e'] at e1 e2;unfold BB at this;omega
  ·exact srt_eq h2 ha hb e1 e2
theorem vG.uniq {m:Ma} (h:vG m) {a b:Cc} (ha:a∈m.ca) (hb:b∈m.ca) (hk:a.k=b.k):a=b:=by
 have h1:=h.fr a ha;have h2:=h.fr b hb;rw[hk] at h1;exact srt_eq h.srt ha hb (h1.2.1.symm.trans h2.2.1) (h1.2.2.symm.trans h2.2.2)
theorem AV {k:Int}:∀ {l:List Cc},l.Pairwise BB→(∀a∈l,∀b∈l,a.k=b.k→a=b)→l.countP (fun c=>decide (c.k=k))≤1
 | [],_,_=>aS _
 | c::l,hs,hu=>by
  obtain⟨h1,h2⟩:=rW.1 hs;have ih:=AV (k:=k) h2 (fun a ha b hb=>hu a (jg _ ha) b (jg _ hb));rw[nP]
  by_cases hc:c.k=k
  ·rw[if_pos (by simpa using hc)];have:l.countP (fun c=>decide (c.k=k))=0:=by rw[wU];intro d hd hdk;have e:=hu c gL d (jg _ hd) (by rw[hc];exact (of_decide_eq_true hdk).symm);have:=h1 d hd;rw[←e] at this;exact Gq _ this
   omega
  ·rw[if_neg (by simpa using hc)];omega
theorem vG.one {m:Ma} (h:vG m) {c:Cc} (hc:c∈m.ca):wy m c.k=1:=by
 have h1:=AV (k:=c.k) h.srt (fun a ha b hb=>h.uniq ha hb);have h2:0<m.ca.countP (fun d=>decide (d.k=c.k)):=wT.2 ⟨c,hc,by simp⟩;unfold wy;omega
theorem vG.none {m:Ma} {i:Int} (h:∀c∈m.ca,c.k≠i):wy m i=0:=by
 unfold wy;rw[wU];intro c hc hk;exact h c hc (of_decide_eq_true hk)
theorem wR {f i:Int} {c:Cc}:Ap f i c=true↔f<c.f∨c.f=f∧i≤c.i:=by unfold Ap;simp
theorem Rk (l:List Cc) (f i:Int):yx l f i≤l.length:=by
 unfold yx;cases h:l.findIdx? (Ap f i) with
 | none=>exact ay _
 | some k=>exact qi (uG.1 h).1
theorem Ng {l:List Cc} (hs:l.Pairwise BB) {f i:Int}:PV l f i=true↔∃c∈l,c.f=f∧c.i=i:=by
 unfold PV;constructor
 ·intro h;cases hc:l[yx l f i]? with
  | none=>rw[hc] at h;cases h
  | some c=>
   rw[hc] at h;simp only[dS,decide_eq_true_eq] at h;exact⟨c,bQ hc,h⟩
 rintro⟨c,hc,h1,h2⟩;obtain⟨j,hj,rfl⟩:=jE.1 hc;unfold yx;cases h:l.findIdx? (Ap f i) with
 | none=>
  have:=zT.1 h _ hc;rw[Ik] at this;exact absurd (wR.2 (.inr ⟨h1,by omega⟩)) this
 | some k=>
  obtain⟨hk,hg,hno⟩:=uG.1 h;have hkj:¬j<k:=fun hlt=>hno j hlt (wR.2 (.inr ⟨h1,by omega⟩));have hg:=wR.1 hg;have:k=j:=by
   rcases fA k j with hlt|hge
   ·have:=yN.1 hs k j hk hj hlt;unfold BB at this;omega
   ·omega
  subst this;simp only[nV,aG hk,h1,h2,decide_true,Bool.and_self]
theorem Qs {l:List Cc} {f i:Int} (h:PV l f i=true):∃c,l[yx l f i]?=some c∧c.f=f∧c.i=i:=by
 unfold PV at h;cases hc:l[yx l f i]? with
 | none=>rw[hc] at h;cases h
 | some c=>
  rw[hc] at h;simp only[dS,decide_eq_true_eq] at h;exact⟨c,rfl,h⟩
def rZ (m:Ma) (f i:Int):Option Cc:=m.ca.find? fun c=>decide (c.f=f)&&decide (c.i=i)
theorem Pz {m:Ma} (h:vG m) {c:Cc} (hc:c∈m.ca):rZ m c.f c.i=some c:=by
 cases hl:rZ m c.f c.i with
 | none=>
  have:=nX.1 hl c hc;simp at this
 | some d=>
  have h1:=qo hl;simp only[dS,decide_eq_true_eq] at h1;rw[srt_eq h.srt (tN hl) hc h1.1 h1.2]
theorem PR {m:Ma} {f i:Int} (h:∀c∈m.ca,¬(c.f=f∧c.i=i)):rZ m f i=none:=by
 unfold rZ;rw[nX];intro c hc hk;simp only[dS,decide_eq_true_eq] at hk;exact h c hc hk
theorem yh (m:Ma) (f i:Int):(∃c,rZ m f i=some c∧c∈m.ca∧c.f=f∧c.i=i)∨(rZ m f i=none∧∀c∈m.ca,¬(c.f=f∧c.i=i)):=by
 cases hl:rZ m f i with
 | none=>
  refine .inr ⟨rfl,fun c hc hk => ?_⟩;have:=nX.1 hl c hc;simp only[dS,decide_eq_true_eq] at this;exact this hk
 | some d=>
  have h1:=qo hl;simp only[dS,decide_eq_true_eq] at h1;exact .inl ⟨d,rfl,tN hl,h1⟩
theorem nZ (m:Ma) (f i:Int):cB m f i=match rZ m f i with
  | some c=>(rA m c.k).p
  | none=>ig m f i:=rfl
theorem oC {m:Ma} (h:vG m) {c:Cc} (hc:c∈m.ca):cB m c.f c.i=(aT m c.k.toNat).p:=by
 rw[nZ,Pz h hc];rfl
theorem pK {m:Ma} {f i:Int} (h:∀c∈m.ca,¬(c.f=f∧c.i=i)):cB m f i=ig m f i:=by
 rw[nZ,PR h]
theorem yB {m:Ma} (k:Nat):rA m (k:Int)=aT m k:=rfl
theorem Nf {l:List Ar} {n:Int} (h:0≤kD l n):onA l n=some (jV (l.getD (kD l n).toNat zAr) n)∧nS n (l.getD (kD l n).toNat zAr)=true:=by
 induction l with
 | nil=>unfold kD idx at h;simp at h
 | cons a r ih=>
  rw[dh]
  by_cases ha:nS n a=true
  ·have h0:kD (a::r) n=0:=by unfold kD idx;rw[zB,if_pos ha];rfl
   rw[h0,if_pos ha];exact⟨rfl,ha⟩
  have h1:kD (a::r) n=if 0≤kD r n then kD r n+1 else -1:=by
   unfold kD idx;rw[zB,if_neg ha];cases r.findIdx? (nS n) with
   | none=>rfl
   | some k=>
    simp only[tC];rw[if_pos (by omega)];rfl
  rw[if_neg ha]
  by_cases h2:0≤kD r n
  ·rw[h1,if_pos h2];have e:(kD r n+1).toNat=(kD r n).toNat+1:=by omega
   rw[e];exact ih h2
  rw[h1,if_neg h2] at h;omega
def EG (m:Ma) (g:Pg) (e:En):Page × Bool × Int:=
 if e.k=1 then ((rA m e.n).p,decide ((rA m e.n).f<0),0)
 else if e.k=2 then (kY m.sw e.n,true,aL m.sw e.n)
 else if g.fi<0 then (zPg,false,0)
 else if (m.st.fs.length:Int)≤g.fi∨BC m.st g.fi g.pg=true then (zPg,false,9)
 else (cB m g.fi g.pg,false,0)
theorem FI {m:Ma} {n:Int} {g:Pg} (h:pM m p n=some g):OG m p n=EG m g (ent m p n):=by
 unfold OG;rw[h];rfl
theorem FJ {m:Ma} {n:Int} (h:pM m p n=none):OG m p n=(zPg,false,5):=by
 unfold OG;rw[h]
theorem pg_in:∀ {l:List Ar} {lo:Int} {n:Int} {g:Pg},srtF lo l→onA l n=some g→0≤g.pg∧g.pg<12∧-1≤g.fi∧g.fi<5∧(g.fi<0→g.sh=false∧g.pg=0)∧0≤n∧n<64
 | [],_,_,_,_,h=>by cases h
 | a::r,lo,n,g,hs,h=>by
  rw[dh] at h
  by_cases ha:nS n a=true
  ·rw[if_pos ha] at h;have h1:=dF.1 ha;have h2:=hs.1;unfold aP at h2;split at h2
   ·cases h2
   split at h2
   ·cases h2
   rename_i h3 h4;cases h;unfold jV;simp only;have h5:¬(a.fi<0∧(a.ba≠0∨a.sh=true)):=fun h=>h4 (.inl h);have h6:¬(0≤a.fi∧12-(a.en-a.fr)<a.ba):=fun h=>h4 (.inr h);refine⟨?_,?_,by omega,by omega,fun h7=>⟨?_,if_neg (by omega)⟩,by omega,by omega⟩
   ·split<;>omega
   ·split<;>omega
   cases hsh:a.sh with
   | false=>rfl
   | true=>exact absurd ⟨h7,.inr hsh⟩ h5
  rw[if_neg ha] at h;exact pg_in hs.2.2 h
theorem Pt.pg {m:Ma} (h:Pt m) {n:Int} {g:Pg} (hg:pM m p n=some g):0≤g.pg∧g.pg<12∧-1≤g.fi∧g.fi<5∧(g.fi<0→g.sh=false∧g.pg=0)∧0≤n∧n<64:=
 pg_in (nI (jD.1 (h.arN p)).2) hg
theorem TF {s:St} (h:aM s=0) {f i:Int} (hf:0≤f) (hi:0≤i) (hn:¬((s.fs.length:Int)≤f∨BC s f i=true)):zn s f i:=by
 have h1:¬(s.fs.length:Int)≤f:=fun h=>hn (.inl h);have h2:¬BC s f i=true:=fun h=>hn (.inr h);have h3:=(yD h (f:=f) (by omega)).2.2.1;refine⟨by omega,hi,?_⟩;rw[h3];unfold BC at h2;simpa using h2
theorem Mq {s:St} (h:aM s=0) {f i:Int} (hi:zn s f i):¬((s.fs.length:Int)≤f∨BC s f i=true):=by
 have h3:=(yD h hi.1).2.2.1;have h4:=hi.1;have h5:=hi.2;rintro (h|h)
 ·omega
 unfold BC at h;have:=of_decide_eq_true h;omega
structure rR (s s' : St):Prop where
 len:s'.fs.length=s.fs.length
 size:∀f,(aU s' f).n=(aU s f).n
 lenb:∀f,(aU s' f).b.length=(aU s f).b.length
theorem rR.refl (s:St):rR s s:=⟨rfl,fun _=>rfl,fun _=>rfl⟩
theorem rR.of {s s' : St} (h:s' = s):rR s s':=by subst h;exact .refl _
theorem OQ {s s' : St} (h:rR s s') (f i:Int):BC s' f i=BC s f i:=by unfold BC;rw[h.size]
theorem yS {m m' : Ma} {g:Pg} {e:En} (hw:aM m.st=0) (hg:0≤g.pg) (hf:rR m.st m'.st) (hc:∀f i,zn m.st f i→cB m' f i=cB m f i)
 (h1:e.k=1→(rA m' e.n).p=(rA m e.n).p∧(rA m' e.n).f=(rA m e.n).f) (h2:e.k=2→kY m'.sw e.n=kY m.sw e.n∧aL m'.sw e.n=aL m.sw e.n):EG m' g e=EG m g e:=by
 unfold EG
 by_cases k1:e.k=1
 ·rw[if_pos k1,if_pos k1,(h1 k1).1,(h1 k1).2]
 rw[if_neg k1,if_neg k1]
 by_cases k2:e.k=2
 ·rw[if_pos k2,if_pos k2,(h2 k2).1,(h2 k2).2]
 rw[if_neg k2,if_neg k2,hf.len,OQ hf]
 by_cases g0:g.fi<0
 ·rw[if_pos g0,if_pos g0]
 rw[if_neg g0,if_neg g0]
 by_cases he:(m.st.fs.length:Int)≤g.fi∨BC m.st g.fi g.pg=true
 ·rw[if_pos he,if_pos he]
 ·rw[if_neg he,if_neg he,hc _ _ (TF hw (by omega) hg he)]
theorem GI {m m' : Ma} (h:Pt m) (sk:kH m m') (hf:rR m.st m'.st) (hc:∀f i,zn m.st f i→cB m' f i=cB m f i)
 (hs:∀p n g,pM m p n=some g→EG m' g (ent m' p n)=EG m g (ent m p n)):MQ m m':=by
 refine⟨sk,hf.len,hf.size,hf.lenb,fun p n => ?_,hc⟩;have hp:pM m' p n=pM m p n:=by unfold pM;rw[sk.ar]
 cases hg:pM m p n with
 | none=>rw[FJ hg,FJ (hp.trans hg)]
 | some g=>rw[FI hg,FI (hp.trans hg)];exact hs p n g hg
theorem Ps {x:Fr} (h:dR x=0):dR { x with d:=false }=0:=by
 rw[iD] at h ⊢;exact⟨h.1,fun h0=>⟨(h.2.1 h0).1,rfl,(h.2.1 h0).2.2.1,(h.2.1 h0).2.2.2⟩,h.2.2⟩
theorem QB {d:mZ} {x:Int × Page} {b:Int} (h0:0≤b) (hq:∀q∈d.queue,q.1≠b∧0≤q.1):(iU d x).blocks.getD b.toNat zPg=d.blocks.getD b.toNat zPg:=by
 unfold iU;cases hd:d.queue with
 | nil=>rfl
 | cons q r=>
  simp only;split
  ·have:=hq q (by rw[hd];exact gL);rw[aW,sF (by omega),aW]
  ·rfl
theorem SH {d:mZ} {x q:Int × Page} (h:q∈(iU d x).queue):q∈d.queue∨q=x:=by
 unfold iU at h;cases hd:d.queue with
 | nil=>rw[hd] at h;simp at h;exact .inr h
 | cons a r=>
  rw[hd] at h;simp only at h;split at h
  ·rcases fJ.1 h with h|h
   ·exact .inl (jg _ h)
   ·exact .inr (bq.1 h)
  rcases fJ.1 h with h|h
  ·exact .inl h
  ·exact .inr (bq.1 h)
def gK (m:Ma) (f:Nat):Ma:=
 let x:=aT m f
 setFr { m with st:=dJ m.st x.f x.i,dk:=iU m.dk (dQ m.st x.f x.i,x.p) } f { x with d:=false }
theorem Ee {k:Kp} (h:Rt k.m) (hf:f<k.m.m.fs.length):je k f=if (aT k.m f).f<0∨(aT k.m f).d=false∨dn k.m.st (aT k.m f).f (aT k.m f).i≠0 then k else ⟨gK k.m f,k.e⟩:=by
 unfold je
 by_cases hc:(aT k.m f).f<0∨(aT k.m f).d=false∨dn k.m.st (aT k.m f).f (aT k.m f).i≠0
 ·simp only[if_pos hc]
 have hb:dn k.m.st (aT k.m f).f (aT k.m f).i=0:=by
  by_cases e:dn k.m.st (aT k.m f).f (aT k.m f).i=0
  ·exact e
  ·exact absurd (.inr (.inr e)) hc
 have hB:=(blocked hb).2;have hwo:aL k.m.dk (dQ k.m.st (aT k.m f).f (aT k.m f).i)=0:=sD.2 ⟨h.pt.dk,hB.b0,by rw[h.pt.dkl];exact hB.bc⟩;simp only[if_neg hc];unfold gK dC;rw[hwo];simp only[jd,if_true];congr 1;split<;>simp_all
structure Cleaned (m m' : Ma) (f:Nat):Prop where
 rt:Rt m'
 co:Co m'
 vis:MQ m m'
 sl:m'.sl=m.sl
 sw:m'.sw=m.sw
 ca:m'.ca=m.ca
 sp:m'.sp=m.sp
 fs:m'.m=(setFr m f { aT m f with d:=false }).m
theorem EP {m:Ma} (h:Rt m) (hc:Co m) (hf:f<m.m.fs.length) (h0:0≤(aT m f).f) (hb:dn m.st (aT m f).f (aT m f).i=0):Cleaned m (gK m f) f:=by
 obtain⟨hin,hB⟩:=blocked hb;obtain⟨c,hcm,hck⟩:=h.fc f hf h0;have hcf:=h.ca.fr c hcm;rw[hck,bU] at hcf;have hwo:aL m.dk (dQ m.st (aT m f).f (aT m f).i)=0:=sD.2 ⟨h.pt.dk,hB.b0,by rw[h.pt.dkl];exact hB.bc⟩;have hlt:dQ m.st (aT m f).f (aT m f).i<m.dk.blocks.length:=by rw[h.pt.dkl];exact hB.bc
 have hfr:∀g,aT (gK m f) g=if g=f then { aT m f with d:=false } else aT m g:=fun g=>nJ (m:={ m with st:=dJ m.st (aT m f).f (aT m f).i,dk:=iU m.dk (dQ m.st (aT m f).f (aT m f).i,(aT m f).p) }) (x:={ aT m f with d:=false }) hf g;have hfp:∀g,(aT (gK m f) g).p=(aT m g).p∧(aT (gK m f) g).f=(aT m g).f∧(aT (gK m f) g).i=(aT m g).i∧(aT (gK m f) g).r=(aT m g).r:=by
  intro g;rw[hfr]
  by_cases e:g=f
  ·rw[if_pos e,e];exact⟨rfl,rfl,rfl,rfl⟩
  ·rw[if_neg e];exact⟨rfl,rfl,rfl,rfl⟩
 have hlen:(gK m f).m.fs.length=m.m.fs.length:=bI;have hfiles:rR m.st (gK m f).st:=⟨hB.len,hB.size,hB.lenb⟩;have hent:∀p n,ent (gK m f) p n=ent m p n:=fun _ _=>rfl;have hdk:∀g j,zn m.st g j→¬(g=(aT m f).f∧j=(aT m f).i)→ig (gK m f) g j=ig m g j:=by
  intro g j hgj hne;have hbk:bL (gK m f).st g j=bL m.st g j:=hB.other g j hgj.2.1 hne;unfold ig;rw[hbk,hB.size g |> (fun e=>show (aU (gK m f).st g).n=(aU m.st g).n from e)]
  by_cases hb0:0≤bL m.st g j
  ·rw[if_pos hb0,if_pos hb0];congr 1;show kY (iU m.dk _) _=_;rw[xA h.pt.dk hB.b0 hlt,if_neg];rintro⟨_,e⟩;simp only at e;rcases hB.was with ⟨hw,_⟩|⟨_,hn,_⟩
   ·exact hne (Me h.pt.st hgj hin (by omega) (by omega))
   ·exact hn (by rw[e];exact ul hgj)
  ·rw[if_neg hb0,if_neg hb0]
 have hown:ig (gK m f) (aT m f).f (aT m f).i=(aT m f).p:=by have hbk:bL (gK m f).st (aT m f).f (aT m f).i=dQ m.st (aT m f).f (aT m f).i:=hB.at_;have ht:=hc.tail c hcm;rw[hck,bU,←hcf.2.1,←hcf.2.2] at ht;unfold ig;rw[hbk,if_pos hB.b0,show (aU (gK m f).st (aT m f).f).n=(aU m.st (aT m f).f).n from hB.size _];show fF (kY (iU m.dk _) _) _=_;rw[xA h.pt.dk hB.b0 hlt,if_pos ⟨hwo,rfl⟩];exact ht
 have hcon:∀g j,zn m.st g j→cB (gK m f) g j=cB m g j:=by
  intro g j hgj;have hl:rZ (gK m f) g j=rZ m g j:=rfl;rw[nZ,nZ,hl];rcases yh m g j with ⟨d,hd,hdm,_⟩|⟨hd,hno⟩
  ·rw[hd];exact (hfp d.k.toNat).1
  rw[hd];exact hdk g j hgj fun e=>hno c hcm ⟨by rw[e.1];exact hcf.2.1.symm,by rw[e.2];exact hcf.2.2.symm⟩
 have hpt:Pt (gK m f):=by have hd:bn (iU m.dk (dQ m.st (aT m f).f (aT m f).i,(aT m f).p))=0:=xO h.pt.dk hB.b0 hlt;exact { fr:=LG h.pt.fr (Ps (h.pt.frE hf)),sl:=h.pt.sl,sw:=h.pt.sw,dk:=hd,st:=hB.right,swl:=h.pt.swl,dkl:=by show ((iU m.dk _).blocks.length:Int)=_;rw[vU,h.pt.dkl];exact hB.count.symm,spl:=h.pt.spl,ar:=h.pt.ar,tb:=h.pt.tb }
 have hcaok:vG (gK m f):=⟨fun d hd=>(h.ca.file d hd).same hB.len hB.lenb,fun d hd=>by rw[hlen];exact h.ca.lt d hd,fun d hd=>by have:=hfp d.k.toNat;rw[this.2.1,this.2.2.1,this.2.2.2];exact h.ca.fr d hd,h.ca.srt⟩;refine⟨⟨hpt,⟨fun b hb0 hbl => ?_,fun q hq => ?_⟩,h.live,hcaok,fun p n hk => ?_,fun i hi => ?_,fun i hi hi0 => ?_,h.cs⟩,⟨fun d hd => ?_,fun d hd hdd => ?_,fun i hi hid => ?_⟩,?_,rfl,rfl,rfl,rfl,rfl⟩
 ·have hbl' : b<m.dk.blocks.length:=by have:((gK m f).dk.blocks.length)=m.dk.blocks.length:=vU _ _;omega
  by_cases hu:b∈kE m.st
  ·exact .inl ((hB.used b hb0).2 (.inr hu))
  by_cases e:b=dQ m.st (aT m f).f (aT m f).i
  ·exact .inl ((hB.used b hb0).2 (.inl e))
  refine .inr ?_;show (iU m.dk _).blocks.getD b.toNat zPg=zPg;rw[QB hb0 (fun q hq=>⟨fun e=>hu (by rw[←e];exact h.trim.2 q hq),((gF _).1 h.pt.dk).2.2 q hq |>.1⟩)];exact (h.trim.1 b hb0 hbl').resolve_left hu
 ·rcases SH hq with hq|rfl
  ·exact (hB.used _ (((gF _).1 h.pt.dk).2.2 q hq).1).2 (.inr (h.trim.2 q hq))
  ·exact (hB.used _ hB.b0).2 (.inl rfl)
 ·obtain⟨g,hg,hfit⟩:=h.en p n hk;refine⟨g,hg,hfit.sw,fun hk1=>by rw[hlen];exact hfit.lt hk1,fun hk1 => ?_⟩;have h1:=hfit.fr hk1;have h2:=hfp (ent m p n).n.toNat;unfold Ot at h1 ⊢;rw[hent,h2.2.1,h2.2.2.1,h2.2.2.2];exact h1
 ·rw[(hfp i).2.2.2];exact h.cf i (by rw[←hlen];exact hi)
 ·rw[(hfp i).2.1] at hi0;exact h.fc i (by rw[←hlen];exact hi) hi0
 ·rw[(hfp d.k.toNat).1,show (aU (gK m f).st d.f).n=(aU m.st d.f).n from hB.size _];exact hc.tail d hd
 ·by_cases e:d.k.toNat=f
  ·have hdc:d=c:=h.ca.uniq hd hcm (by have:=h.ca.lt d hd;omega);subst hdc;rw[(hfp d.k.toNat).1,e];rw[←hcf.2.1,←hcf.2.2];exact hown.symm
  rw[hfr,if_neg e] at hdd;rw[(hfp d.k.toNat).1,hc.clean d hd hdd];refine (hdk d.f d.i (h.ca.file d hd) fun e2=>e ?_).symm;have hdc:d=c:=srt_eq h.ca.srt hd hcm (by rw[e2.1];exact hcf.2.1) (by rw[e2.2];exact hcf.2.2);rw[hdc,hck];exact bU f
 ·rw[(hfp i).2.1];rw[hfr] at hid
  by_cases e:i=f
  ·rw[e];exact h0
  ·rw[if_neg e] at hid;exact hc.anon i (by rw[←hlen];exact hi) hid
 refine GI h.pt (kH.of rfl) hfiles hcon fun p n g hg => ?_;rw[hent];exact yS h.pt.st (h.pt.pg hg).1 hfiles hcon (fun _=>⟨(hfp _).1,(hfp _).2.1⟩) (fun _=>⟨rfl,rfl⟩)
theorem vH (n:Int):dG zTb n=zEn:=by
 by_cases h:0≤n∧n<64
 ·obtain⟨q,r,hq,hr,rfl,_,_⟩:=wK h;exact Af hq hr (by simp[zTb])
 ·exact qZ (by omega)
theorem xM {m m' : Ma} (h:m'.m=m.m) (g:Nat):aT m' g=aT m g:=by unfold aT;rw[h]
theorem qK {m:Ma} {n:Int} (h:(ent m p n).k≠0):p<m.sp.length∧0≤n∧n<64:=by
 refine⟨?_,?_⟩
 ·rcases fA p m.sp.length with hp|hp
  ·exact hp
  refine absurd ?_ h;unfold ent;rw[nE hp,show zSp.tb=zTb from rfl,vH];rfl
 by_cases hn:n<0∨64≤n
 ·exact absurd (by rw[Na p hn];rfl) h
 ·omega
theorem Jr (k:Kp) (u:Nat × Int) (h1:(ent k.m u.1 u.2).k=1) (h2:(ent k.m u.1 u.2).n=f):qd k u.1 u.2=Tu f zEn k u:=by
 unfold qd Tu;have h1' : (dG (fq k.m u.1).tb u.2).k=1:=h1;have h2' : (dG (fq k.m u.1).tb u.2).n=f:=h2;simp only[h1',h2',if_true]
theorem ET {k:Kp} (h:Rt k.m) (hc:Co k.m) (hf:f<k.m.m.fs.length) (h0:0≤(aT k.m f).f) (hb:iY k.m f=true):∃m1,je k f=⟨m1,k.e⟩∧Cleaned k.m m1 f:=by
 rw[Ee h hf]
 by_cases hd:(aT k.m f).d=false
 ·rw[if_pos (.inr (.inl hd))];refine⟨k.m,rfl,h,hc,.refl _,rfl,rfl,rfl,rfl,?_⟩;have:({ aT k.m f with d:=false }:Fr)=aT k.m f:=by rw[←hd]
  rw[this,CL hf]
 have hbe:dn k.m.st (aT k.m f).f (aT k.m f).i=0:=by
  unfold iY at hb;simp only[sP,decide_eq_true_eq,xh] at hb;rcases hb with (h1|h1)|h1
  ·omega
  ·exact absurd h1 hd
  ·exact h1
 rw[if_neg]
 ·exact⟨_,rfl,EP h hc hf h0 hbe⟩
 rintro (h1|h1|h1)
 ·omega
 ·exact hd h1
 ·exact h1 hbe
theorem Qm {k:Kp} (h:Rt k.m) (hf:f<k.m.m.fs.length) (hb:iY k.m f=false):je k f=k:=by
 rw[Ee h hf,if_pos];unfold iY at hb;simp only[zg,decide_eq_false_iff_not] at hb;exact .inr (.inr hb.2)
structure vz (m m' : Ma) (f:Nat):Prop where
 rt:Rt m'
 co:Co m'
 vis:MQ m m'
 len:m'.m.fs.length=m.m.fs.length
 hand:m'.m.hand=m.m.hand
 free:aT m' f=frZ
 oth:∀g,g≠f→aT m' g=aT m g
 sll:m'.sl.length=m.sl.length
 ents:∀p n,¬((ent m p n).k=1∧(ent m p n).n=f)→ent m' p n=ent m p n
 cas:∀c,c∈m'.ca↔c∈m.ca∧c.k≠f
 std:(m'.st=m.st∧m'.dk=m.dk)∨(0≤(aT m f).f∧(aT m f).d=true∧dn m.st (aT m f).f (aT m f).i=0∧m'.st=(gK m f).st∧m'.dk=(gK m f).dk)
theorem Pj {l:List Cc} (hs:l.Pairwise BB) {c:Cc} (hj:l[j]?=some c) (d:Cc):d∈l.eraseIdx j↔d∈l∧¬(d.f=c.f∧d.i=c.i):=by
 have hjl:=(bW.1 hj).1;have hje:=(bW.1 hj).2;rw[List.mem_eraseIdx_iff_getElem];constructor
 ·rintro⟨i,hi,hne,rfl⟩;refine⟨dP _,fun e => ?_⟩;have:=srt_eq hs (dP hi) (bQ hj) e.1 e.2;rcases uJ hne with h1|h1
  ·have h2:=yN.1 hs i j hi hjl h1;rw[hje,this] at h2;exact Gq _ h2
  have h2:=yN.1 hs j i hjl hi h1;rw[hje,this] at h2;exact Gq _ h2
 rintro⟨hd,hne⟩;obtain⟨i,hi,rfl⟩:=jE.1 hd;exact⟨i,hi,fun e=>hne (by subst e;rw[hje];exact⟨rfl,rfl⟩),rfl⟩
theorem zY {α:Type} (q:α→Bool):∀(l:List α) (j:Nat) (h:j<l.length),(l.eraseIdx j).countP q+vO (q l[j])=l.countP q
 | a::l,0,_=>by simp only[List.eraseIdx_cons_zero,zL,nP,vO]
 | a::l,j+1,h=>by have:=zY q l j (by simpa using h);simp only[List.eraseIdx_cons_succ,Cw,nP];omega
structure Wl (m M:Ma) (j:Nat) (d:Cc):Prop where
 rt:Rt M
 co:Co M
 sk:kH m M
 len:M.m.fs.length=m.m.fs.length
 hand:M.m.hand=m.m.hand
 sl:M.sl=m.sl
 sw:M.sw=m.sw
 dk:M.dk=m.dk
 st:M.st=m.st
 ca:M.ca=m.ca.eraseIdx j
 fr:∀g,aT M g=if g=d.k.toNat then frZ else aT m g
 cas:∀e,e∈M.ca↔e∈m.ca∧¬(e.f=d.f∧e.i=d.i)
 cak:∀e,e∈M.ca→e∈m.ca∧e.k.toNat≠d.k.toNat
 ents:∀p n,ent M p n=if (ent m p n).k=1∧(ent m p n).n=d.k then zEn else ent m p n
theorem Vi {k:Kp} (h:Rt k.m) (hc:Co k.m) {d:Cc} (hd:k.m.ca[j]?=some d):∃M,BM k j=⟨M,k.e⟩∧Wl k.m M j d:=by
 have hdm:=bQ hd;have hlt:=h.ca.lt d hdm;obtain⟨f,hk⟩:∃f:Nat,d.k=f:=⟨d.k.toNat,by omega⟩;have hf:f<k.m.m.fs.length:=by omega
 have hcf:=h.ca.fr d hdm;rw[hk,bU] at hcf;have hone:wy k.m f=1:=by rw[←hk];exact h.ca.one hdm
 have hr:=h.cf f hf;rw[hone,←uh] at hr;have hreps:=Cr (f:=f) (e':=zEn) (by decide) (fun k u=>qd k u.1 u.2) Jr (bi k.m f) k h.pt (DJ k.m f) hf (by omega);obtain⟨r1,r2,r3,r4,r5,r6,r7⟩:=hreps;have hdef:(bi k.m f).foldl (fun k u=>qd k u.1 u.2) k=kG k (bi k.m f):=rfl;rw[hdef] at r1 r2 r3 r4 r5 r6 r7;generalize hk2:kG k (bi k.m f)=k2 at r1 r2 r3 r4 r5 r6 r7;have hheld:jo (aT k.m f) (-((bi k.m f).length:Int)) = { aT k.m f with r:=1 }:=by unfold jo;rw[if_neg (by omega)];congr 1;omega
 simp only[hheld] at r5;have hca:Rj k.m j=d:=by unfold Rj;rw[aW,hd];rfl
 have hev:BM k j=iE ⟨{ k2.m with ca:=k2.m.ca.eraseIdx j },k2.e⟩ f (-1):=by unfold BM;simp only[hca,hk,hk2]
 have hf2:f<k2.m.m.fs.length:=by rw[r5,mX];exact hf
 have hx2:aT k2.m f = { aT k.m f with r:=1 }:=by have:aT k2.m f=aT (setFr k.m f { aT k.m f with r:=1 }) f:=xM r5 f;rw[this,nJ hf,if_pos rfl]
 have hoth2:∀g,g≠f→aT k2.m g=aT k.m g:=by intro g hg;have:aT k2.m g=aT (setFr k.m f { aT k.m f with r:=1 }) g:=xM r5 g;rw[this,nJ hf,if_neg hg]
 have hpt3:Pt { k2.m with ca:=k2.m.ca.eraseIdx j }:={ fr:=r2.fr,sl:=r2.sl,sw:=r2.sw,dk:=r2.dk,st:=r2.st,swl:=r2.swl,dkl:=r2.dkl,spl:=r2.spl,ar:=r2.ar,tb:=r2.tb };obtain⟨e3,p3⟩:=JS (k:=⟨{ k2.m with ca:=k2.m.ca.eraseIdx j },k2.e⟩) (f:=f) (n:=-1) hpt3 hf2 (by show (aT k2.m f).r≠0;rw[hx2];show (1:Int)≠0;decide) (by show -(aT k2.m f).r≤-1;rw[hx2];show -(1:Int)≤-1;decide) (by show -1≤1000-(aT k2.m f).r;rw[hx2];show -1≤(1000:Int)-1;decide);have hz:jo (aT { k2.m with ca:=k2.m.ca.eraseIdx j } f) (-1)=frZ:=by show jo (aT k2.m f) (-1)=frZ;rw[hx2];rfl
 rw[hz] at e3 p3;refine⟨_,hev.trans (e3.trans (by rw[r1])),?_⟩;generalize hM:setFr { k2.m with ca:=k2.m.ca.eraseIdx j } f frZ=M at p3 ⊢;have hfr:∀g,aT M g=if g=f then frZ else aT k.m g:=by
  intro g;rw[←hM,nJ (m:={ k2.m with ca:=k2.m.ca.eraseIdx j }) hf2]
  by_cases e:g=f
  ·rw[if_pos e,if_pos e]
  ·rw[if_neg e,if_neg e,←hoth2 g e];rfl
 have hlen:M.m.fs.length=k.m.m.fs.length:=by rw[←hM,mX];show k2.m.m.fs.length=_;rw[r5,mX]
 have hMsl:M.sl=k.m.sl:=by rw[←hM];exact r3.sl
 have hMsw:M.sw=k.m.sw:=by rw[←hM];exact r3.sw
 have hMdk:M.dk=k.m.dk:=by rw[←hM];exact r3.dk
 have hMst:M.st=k.m.st:=by rw[←hM];exact r3.st
 have hMca:M.ca=k.m.ca.eraseIdx j:=by rw[←hM];show k2.m.ca.eraseIdx j=_;rw[r3.ca]
 have hjl:=(bW.1 hd).1;have hsk:kH k.m M:=by rw[←hM];exact r4.trans (kH.of rfl)
 have hmemU:∀p n,(p,n)∈bi k.m f↔(ent k.m p n).k=1∧(ent k.m p n).n=f:=by
  intro p n;rw[uu];constructor
  ·rintro⟨_,_,h3⟩;exact h3
  intro h3;have h4:=qK (m:=k.m) (p:=p) (n:=n) (by rw[h3.1];decide);exact⟨h4.1,h4.2,h3⟩
 have hentM:∀p n,ent M p n=if (ent k.m p n).k=1∧(ent k.m p n).n=f then zEn else ent k.m p n:=fun p n=>by
  have:ent M p n=if (p,n)∈bi k.m f then zEn else ent k.m p n:=by rw[←hM];exact r6 p n
  rw[this];simp only[hmemU]
 have hholdM:∀kd i,dA M kd i+(if kd=1∧i=f then (bi k.m f).length else 0)=dA k.m kd i+(if kd=zEn.k∧i=zEn.n then (bi k.m f).length else 0):=fun kd i=>by rw[←hM];exact r7 kd i
 have hcam:∀e,e∈M.ca↔e∈k.m.ca∧¬(e.f=d.f∧e.i=d.i):=fun e=>by rw[hMca];exact Pj h.ca.srt hd e
 have hcak:∀e,e∈M.ca→e∈k.m.ca∧e.k.toNat≠f:=fun e he=>by have h1:=(hcam e).1 he;refine⟨h1.1,fun h2=>h1.2 ?_⟩;have h3:=h.ca.uniq h1.1 hdm (by have:=h.ca.lt e h1.1;omega);rw[h3];exact⟨rfl,rfl⟩
 have hfr1:∀g,g≠f→aT M g=aT k.m g:=fun g hg=>by rw[hfr,if_neg hg]
 have hcaok:vG M:=⟨fun e he=>by rw[hMst];exact h.ca.file e (hcak e he).1,fun e he=>by rw[hlen];exact h.ca.lt e (hcak e he).1,
  fun e he=>by rw[hfr1 _ (hcak e he).2];exact h.ca.fr e (hcak e he).1,by rw[hMca];exact h.ca.srt.sublist (List.eraseIdx_sublist _ _)⟩
 have hdisk:∀g i,ig M g i=ig k.m g i:=fun g i=>by unfold ig;rw[hMst,hMdk]
 refine⟨⟨p3,⟨?_,?_⟩,fun p hp => ?_,hcaok,fun p n hk' => ?_,fun i hi => ?_,fun i hi hi0 => ?_,fun s hs => ?_⟩,⟨fun e he => ?_,fun e he hed => ?_,fun i hi hid => ?_⟩,hsk,hlen,?_,hMsl,hMsw,hMdk,hMst,hMca,by rw[hk,bU];exact hfr,hcam,by rw[hk,bU];exact hcak,by rw[hk];exact hentM⟩
 ·rw[hMdk,hMst];exact h.trim.1
 ·rw[hMdk,hMst];exact h.trim.2
 ·rw[hsk.lv] at hp;have h1:=h.live p hp;rw[hsk.ar];refine⟨h1.1,fun n => ?_⟩;rw[hentM]
  by_cases hu:(ent k.m p n).k=1∧(ent k.m p n).n=f
  ·rw[if_pos hu];rfl
  ·rw[if_neg hu];exact h1.2 n
 ·rw[hentM] at hk' ⊢
  by_cases hu:(ent k.m p n).k=1∧(ent k.m p n).n=f
  ·rw[if_pos hu] at hk'; exact absurd rfl hk'
  rw[if_neg hu] at hk' ⊢;obtain⟨g,hg,hfit⟩:=h.en p n hk';refine⟨g,by unfold pM;rw[hsk.ar];exact hg,by rw[hMsl];exact hfit.sw,by rw[hlen];exact hfit.lt,fun hk1 => ?_⟩;have hne:(ent k.m p n).n.toNat≠f:=by intro e;have h5:=((dw _).1 (tJ h.pt p n));exact hu ⟨hk1,by omega⟩
  rw[hfr,if_neg hne];exact hfit.fr hk1
 ·have a1:=hholdM 1 i;have hz0:¬((1:Int)=zEn.k∧(i:Int)=zEn.n):=fun e=>by cases e.1
  rw[if_neg hz0] at a1;have a2:=zY (fun c=>decide (c.k=(i:Int))) k.m.ca j hjl;have hjd:=(bW.1 hd).2;rw[hjd] at a2;have a3:wy M i=(k.m.ca.eraseIdx j).countP (fun c=>decide (c.k=(i:Int))):=by unfold wy;rw[hMca]
  by_cases e:i=f
  ·subst e;rw[if_pos ⟨rfl,rfl⟩] at a1;have a4:vO (decide (d.k=(i:Int)))=1:=by rw[hk];simp[vO]
   have a5:k.m.ca.countP (fun c=>decide (c.k=(i:Int)))=1:=hone;rw[uh] at a1;rw[hfr,if_pos rfl,a3];show (0:Int)=_;omega
  rw[if_neg (fun h'=>e (by have:=h'.2;omega))] at a1;have a4:vO (decide (d.k=(i:Int)))=0:=by unfold vO;rw[if_neg];simp only[decide_eq_true_eq,hk];omega
  have a5:=h.cf i (by rw[←hlen];exact hi);have a6:wy k.m i=k.m.ca.countP (fun c=>decide (c.k=(i:Int))):=rfl;rw[hfr1 i e,a3];omega
 ·by_cases e:i=f
  ·subst e;rw[hfr,if_pos rfl] at hi0;exact absurd hi0 (by decide)
  rw[hfr1 i e] at hi0;obtain⟨c',hc',hck'⟩:=h.fc i (by rw[←hlen];exact hi) hi0;refine⟨c',(hcam c').2 ⟨hc',fun h2 => ?_⟩,hck'⟩;have:=srt_eq h.ca.srt hc' hdm h2.1 h2.2;rw[this,hk] at hck';omega
 ·have a1:=hholdM 2 s;rw[if_neg (fun e=>by cases e.1),if_neg (fun e=>by cases e.1)] at a1;have a2:=h.cs s (by rw[←hMsl];exact hs);have a3:oG M s=oG k.m s:=by unfold oG;rw[hMsl]
  rw[a3,a2];omega
 ·have h1:=hcak e he;rw[hfr1 _ h1.2,hMst];exact hc.tail e h1.1
 ·have h1:=hcak e he;rw[hfr1 _ h1.2] at hed ⊢;rw[hdisk];exact hc.clean e h1.1 hed
 ·by_cases e:i=f
  ·rw[hfr,if_pos e] at hid;cases hid
  rw[hfr1 i e] at hid ⊢;exact hc.anon i (by rw[←hlen];exact hi) hid
 rw[←hM];show k2.m.m.hand=_;rw[r5];rfl
theorem Wl.con {m M:Ma} {d:Cc} (h:Rt m) (U:Wl m M j d) {g i:Int} (hn:¬(g=d.f∧i=d.i)):cB M g i=cB m g i:=by
 rcases yh m g i with ⟨e,he,hem,hef,hei⟩|⟨he,hno⟩
 ·subst hef;subst hei;have heM:=(U.cas e).2 ⟨hem,hn⟩;rw[oC h.ca hem,oC U.rt.ca heM,U.fr,if_neg (U.cak e heM).2]
 rw[pK hno,pK (fun e' he'=>hno e' ((U.cas e').1 he').1)];unfold ig;rw[U.st,U.dk]
theorem KQ {k:Kp} (h:Rt k.m) (hc:Co k.m) (hf:f<k.m.m.fs.length) (h0:0≤(aT k.m f).f) (hb:iY k.m f=true) :
  (fw k f).e=k.e∧vz k.m (fw k f).m f:=by
 obtain⟨m1,hk1,hC⟩:=ET h hc hf h0 hb;have hul:bi k.m f=bi m1 f:=by unfold bi fq;rw[hC.sp]
 have hx1:aT m1 f = { aT k.m f with d:=false }:=by have:aT m1 f=aT (setFr k.m f { aT k.m f with d:=false }) f:=xM hC.fs f;rw[this,nJ hf,if_pos rfl]
 have hoth1:∀g,g≠f→aT m1 g=aT k.m g:=by intro g hg;have:aT m1 g=aT (setFr k.m f { aT k.m f with d:=false }) g:=xM hC.fs g;rw[this,nJ hf,if_neg hg]
 have hl1:m1.m.fs.length=k.m.m.fs.length:=by rw[hC.fs];exact mX
 have hf1:f<m1.m.fs.length:=by rw[hl1];exact hf
 obtain⟨c,hcm,hck⟩:=hC.rt.fc f hf1 (by rw[hx1];exact h0);have hcf:=hC.rt.ca.fr c hcm;rw[hck,bU] at hcf;have hf' : (aT k.m f).f=c.f∧(aT k.m f).i=c.i:=by rw[←hcf.2.1,←hcf.2.2,hx1];exact⟨rfl,rfl⟩
 obtain⟨d,hd,hdf,hdi⟩:=Qs ((Ng hC.rt.ca.srt).2 ⟨c,hcm,hf'.1.symm,hf'.2.symm⟩:PV m1.ca (aT k.m f).f (aT k.m f).i=true);have hdc:d=c:=srt_eq hC.rt.ca.srt (bQ hd) hcm (hdf.trans hf'.1) (hdi.trans hf'.2);subst hdc;obtain⟨M,hM,U⟩:=Vi (k:=⟨m1,k.e⟩) hC.rt hC.co hd;have hca2:(kG ⟨m1,k.e⟩ (bi m1 f)).m.ca=m1.ca:=by have:=Cr (f:=f) (e':=zEn) (by decide) (fun k u=>qd k u.1 u.2) Jr (bi m1 f) ⟨m1,k.e⟩ hC.rt.pt (DJ m1 f) hf1 (by have hr:=hC.rt.cf f hf1;rw[←uh] at hr;show _≤(aT m1 f).r;omega);exact this.2.2.1.ca
 have hev:fw k f=⟨M,k.e⟩:=by
  rw[←hM];unfold fw BM;simp only;have hcc:Rj m1 (yx m1.ca (aT k.m f).f (aT k.m f).i)=d:=by unfold Rj;rw[aW,hd];rfl
  rw[if_pos h0,if_neg (by rw[hb];decide),hk1,hul,hcc,hck];simp only[hca2];rw[if_pos ((Ng hC.rt.ca.srt).2 ⟨d,hcm,hf'.1.symm,hf'.2.symm⟩)]
 rw[hev];refine⟨rfl,?_⟩;change vz k.m M f;have hkf:d.k.toNat=f:=by omega
 have hfr:∀g,aT M g=if g=f then frZ else aT k.m g:=fun g=>by
  rw[U.fr,hkf]
  by_cases e:g=f
  ·rw[if_pos e,if_pos e]
  ·rw[if_neg e,if_neg e];exact hoth1 g e
 have hsk1:kH k.m m1:=hC.vis.sk;have hsk:kH k.m M:=hsk1.trans U.sk;have hent1:∀p n,ent m1 p n=ent k.m p n:=fun p n=>by unfold ent fq;rw[hC.sp]
 have hfiles:rR m1.st M.st:=rR.of U.st;have hcon:∀g i,zn m1.st g i→cB M g i=cB m1 g i:=by
  intro g i _
  by_cases hed:g=d.f∧i=d.i
  ·rw[hed.1,hed.2,oC hC.rt.ca hcm,pK (fun e' he'=>((U.cas e').1 he').2)];rw[show ig M d.f d.i=ig m1 d.f d.i by unfold ig;rw[U.st,U.dk]];exact (hC.co.clean d hcm (by rw[hck,bU,hx1])).symm
  ·exact U.con hC.rt hed
 have hvis1:MQ m1 M:=by
  refine GI hC.rt.pt U.sk hfiles hcon fun p n g hg => ?_;rw[U.ents]
  by_cases hu:(ent m1 p n).k=1∧(ent m1 p n).n=d.k
  ·rw[if_pos hu];obtain⟨g',hg',hfit⟩:=hC.rt.en p n (by rw[hu.1];decide);rw[hg] at hg';cases hg';have h2:=hfit.fr hu.1;rw[hu.2,hck,bU] at h2;have h3:=h2.1 (by rw[hx1];exact h0);have hin:zn m1.st g.fi g.pg:=by rw[←h3.1,←h3.2,hcf.2.1,hcf.2.2];exact hC.rt.ca.file d hcm
   have hg0:¬g.fi<0:=by have:=hin.1;omega
   have hne:¬((M.st.fs.length:Int)≤g.fi∨BC M.st g.fi g.pg=true):=by rw[U.st];exact Mq hC.rt.pt.st hin
   have hl:EG m1 g (ent m1 p n)=((aT m1 f).p,false,0):=by unfold EG;rw[if_pos hu.1,hu.2,hck,yB,hx1];simp only[Prod.mk.injEq,true_and,and_true];exact decide_eq_false (by omega)
   rw[hl];unfold EG;rw[if_neg (by decide),if_neg (by decide),if_neg hg0,if_neg hne,hcon _ _ hin];have:g.fi=d.f∧g.pg=d.i:=⟨by rw[←h3.1,hcf.2.1],by rw[←h3.2,hcf.2.2]⟩;rw[this.1,this.2,oC hC.rt.ca hcm,hck,bU]
  rw[if_neg hu];refine yS hC.rt.pt.st (hC.rt.pt.pg hg).1 hfiles hcon (fun hk => ?_) (fun hk=>by rw[U.sw];exact⟨rfl,rfl⟩);have hne:(ent m1 p n).n.toNat≠d.k.toNat:=by intro e;have h5:=((dw _).1 (tJ hC.rt.pt p n));exact hu ⟨hk,by omega⟩
  have:aT M (ent m1 p n).n.toNat=aT m1 (ent m1 p n).n.toNat:=by rw[U.fr,if_neg hne]
  exact⟨congrArg Fr.p this,congrArg Fr.f this⟩
 refine⟨U.rt,U.co,hC.vis.trans hvis1,U.len.trans hl1,?_,by rw[hfr,if_pos rfl],fun g hg=>by rw[hfr,if_neg hg],by rw[U.sl,hC.sl],fun p n hne=>by rw[U.ents,hent1,hck,if_neg hne],fun e => ?_,?_⟩
 ·rw[U.hand,hC.fs];rfl
 ·rw[U.cas,hC.ca];constructor
  ·rintro⟨h1,h2⟩;refine⟨h1,fun h3=>h2 ?_⟩;rw[h.ca.uniq h1 (by rw[←hC.ca];exact hcm) (by rw[h3,hck])];exact⟨rfl,rfl⟩
  rintro⟨h1,h2⟩;refine⟨h1,fun h3=>h2 ?_⟩;rw[srt_eq h.ca.srt h1 (by rw[←hC.ca];exact hcm) h3.1 h3.2,hck]
 rw[U.st,U.dk];have h1:=Ee h hf;rw[hk1] at h1
 by_cases hcd:(aT k.m f).f<0∨(aT k.m f).d=false∨dn k.m.st (aT k.m f).f (aT k.m f).i≠0
 ·rw[if_pos hcd] at h1;have h2:m1=k.m:=congrArg Kp.m h1;rw[h2];exact .inl ⟨rfl,rfl⟩
 rw[if_neg hcd] at h1;have h2:m1=gK k.m f:=congrArg Kp.m h1;rw[h2];refine .inr ⟨h0,?_,?_,rfl,rfl⟩
 ·cases e:(aT k.m f).d with
  | true=>rfl
  | false=>exact absurd (.inr (.inl e)) hcd
 by_cases e:dn k.m.st (aT k.m f).f (aT k.m f).i=0
 ·exact e
 ·exact absurd (.inr (.inr e)) hcd
def ND (m:Ma) (f i:Int) (P:Page):Prop:=∃c∈m.ca,c.f=f∧c.i=i∧(aT m c.k.toNat).d=true∧(aT m c.k.toNat).p=P
structure Uv (m m' : Ma):Prop where
 st:m'.st=m.st
 dk:m'.dk=m.dk
 di:∀f i P,ND m' f i P→ND m f i P
structure Wh (P:Ma→Prop):Prop where
 cl:∀m f,Rt m→Co m→P m→f<m.m.fs.length→0≤(aT m f).f→(aT m f).d=true→dn m.st (aT m f).f (aT m f).i=0→P (gK m f)
 sub:∀m m',Rt m→Co m→P m→Rt m'→Co m'→Uv m m'→P m'
def Inv (m m' : Ma):Prop:=∀P,Wh P→P m→P m'
theorem Inv.refl (m:Ma):Inv m m:=fun _ _ h=>h
theorem Inv.trans {a b c:Ma} (h:Inv a b) (k:Inv b c):Inv a c:=fun P hp ha=>k P hp (h P hp ha)
theorem Uv.inv {m m' : Ma} (h:Uv m m') (h1:Rt m) (h2:Co m) (h3:Rt m') (h4:Co m'):Inv m m':=fun P hp hm=>hp.sub m m' h1 h2 hm h3 h4 h
theorem Uv.of {m m' : Ma} (st:m'.st=m.st) (dk:m'.dk=m.dk) (hc:∀c∈m'.ca,(aT m' c.k.toNat).d=true→c∈m.ca∧(aT m' c.k.toNat).d=(aT m c.k.toNat).d∧(aT m' c.k.toNat).p=(aT m c.k.toNat).p):Uv m m':=
 ⟨st,dk,fun f i P ⟨c,a1,a2,a3,a4,a5⟩=>have ⟨b1,b2,b3⟩:=hc c a1 a4;⟨c,b1,a2,a3,by rw[←b2];exact a4,by rw[←b3];exact a5⟩⟩
theorem vz.inv {m m' : Ma} (h:Rt m) (hc:Co m) (hf:f<m.m.fs.length) (E:vz m m' f):Inv m m':=by
 have hck:∀c∈m'.ca,c∈m.ca∧c.k.toNat≠f:=fun c hcm=>by have h1:=(E.cas c).1 hcm;have h2:=h.ca.lt c h1.1;exact⟨h1.1,fun e=>h1.2 (by omega)⟩
 rcases E.std with ⟨h1,h2⟩|⟨h0,hd,hb,h1,h2⟩
 ·refine Uv.inv (.of h1 h2 fun c hcm _ => ?_) h hc E.rt E.co;rw[E.oth _ (hck c hcm).2];exact⟨(hck c hcm).1,rfl,rfl⟩
 have hC:=EP h hc hf h0 hb;refine Inv.trans (fun P hp hm=>hp.cl m f h hc hm hf h0 hd hb) (Uv.inv (.of h1 h2 fun c hcm _ => ?_) hC.rt hC.co E.rt E.co);have h3:aT (gK m f) c.k.toNat=aT m c.k.toNat:=by rw[xM hC.fs,nJ hf,if_neg (hck c hcm).2]
 rw[E.oth _ (hck c hcm).2,h3];exact⟨(hck c hcm).1,rfl,rfl⟩
theorem Ns {α:Type} {q:α→Bool} {l:List α} (h:0≤idx q l):∃k:Nat,idx q l=k∧∃hk:k<l.length,q l[k]=true:=by
 unfold idx at h ⊢;cases hf:l.findIdx? q with
 | none=>rw[hf] at h;simp at h
 | some k=>
  obtain⟨hk,hq,_⟩:=uG.1 hf;exact⟨k,rfl,hk,hq⟩
theorem Uq {α:Type} {q:α→Bool} {l:List α} (h:idx q l<0):∀x∈l,q x=false:=by
 unfold idx at h;cases hf:l.findIdx? q with
 | none=>exact zT.1 hf
 | some k=>rw[hf] at h;simp at h;omega
theorem Rv {m:Ma} (h:Pt m) {n:Int} (h1:1≤n) (h2:n≤1000) :
  (gP m.sl n=0∧∃s:Nat,s<m.sl.length∧oG m s=0∧jA m.sl n=s∧lF m.sl n=m.sl.set s n)∨(gP m.sl n=10∧∀s:Nat,s<m.sl.length→oG m s≠0):=by
 by_cases hi:idx IJ m.sl<0
 ·refine .inr ⟨?_,fun s hs he => ?_⟩
  ·unfold gP;rw[if_neg (by rw[h.sl];simp),if_neg (by omega),if_pos hi]
  have:=Uq hi _ (bQ (LU hs));rw[he] at this;simp[IJ] at this
 obtain⟨k,hk,hkl,hz⟩:=Ns (by omega:0≤idx IJ m.sl);have hE:gP m.sl n=0:=by unfold gP;rw[if_neg (by rw[h.sl];simp),if_neg (by omega),if_neg hi]
 refine .inl ⟨hE,k,hkl,?_,?_,?_⟩
 ·have h3:=LU hkl;rw[aG hkl] at h3;rw[←aJ h3];simpa[IJ] using hz
 ·unfold jA;rw[if_pos hE,hk]
 ·unfold lF;rw[if_pos hE,hk,bU]
theorem Oc {m:Ma} (h:Rt m) (hf:f<m.m.fs.length) (h0:(aT m f).f<0):wy m f=0∧(aT m f).r=(bi m f).length:=by
 have hc:wy m f=0:=vG.none (m:=m) (i:=f) fun c hc hk=>by have h1:=(h.ca.fr c hc).2.1;have h2:=(h.ca.file c hc).1;rw[hk,bU] at h1;omega
 refine⟨hc,?_⟩;have:=h.cf f hf;rw[hc,←uh] at this;omega
theorem KI {k:Kp} (h:Rt k.m) (hc:Co k.m) (hf:f<k.m.m.fs.length) (h0:(aT k.m f).f<0) (hr:(aT k.m f).r≠0) (hb:gP k.m.sl (bi k.m f).length=0) :
  (fw k f).e=k.e∧vz k.m (fw k f).m f:=by
 obtain⟨hca0,hlen0⟩:=Oc h hf h0;have hbd:=((iD _).1 (h.pt.frE hf)).1;obtain⟨_,s,hs,hsz,hsk,hsl⟩:=(Rv h.pt (n:=(bi k.m f).length) (by omega) (by omega)).resolve_right (fun e=>by rw[hb] at e;cases e.1);have hs60:s<60:=by have:=iT h.pt.sl;omega
 have hswb:(s:Int)<k.m.sw.blocks.length:=by rw[h.pt.swl];omega
 have hwo:aL k.m.sw (s:Int)=0:=sD.2 ⟨h.pt.sw,by omega,hswb⟩;have hl:∃L:Nat,L=(bi k.m f).length:=⟨_,rfl⟩;obtain⟨L,hL⟩:=hl;generalize hm1:({ k.m with sl:=k.m.sl.set s (L:Int),sw:=iU k.m.sw ((s:Int),(aT k.m f).p) }:Ma)=m1;have hev:fw k f=qL ⟨m1,k.e⟩ f s (bi k.m f):=by
  unfold fw;simp only;rw[if_neg (by omega),if_neg (by rw[hb];simp),hsk,hwo,hsl];have hw:dC k.m.sw (s:Int) (aT k.m f).p=iU k.m.sw ((s:Int),(aT k.m f).p):=by unfold dC;rw[if_pos hwo]
  have he:jd k.e 0=k.e:=by unfold jd;split<;>simp_all
  rw[hw,he,←hm1,hL]
 have hm1fs:m1.m=k.m.m:=by rw[←hm1]
 have hm1sp:m1.sp=k.m.sp:=by rw[←hm1]
 have hm1sl:m1.sl=k.m.sl.set s (L:Int):=by rw[←hm1]
 have hm1sw:m1.sw=iU k.m.sw ((s:Int),(aT k.m f).p):=by rw[←hm1]
 have hm1dk:m1.dk=k.m.dk:=by rw[←hm1]
 have hm1st:m1.st=k.m.st:=by rw[←hm1]
 have hm1ca:m1.ca=k.m.ca:=by rw[←hm1]
 have hpt1:Pt m1:={ fr:=by rw[hm1fs];exact h.pt.fr,sl:=by rw[hm1sl];exact Da s _ h.pt.sl (by omega) (by omega),sw:=by rw[hm1sw];exact xO h.pt.sw (by show (0:Int)≤s;omega) hswb,dk:=by rw[hm1dk];exact h.pt.dk,st:=by rw[hm1st];exact h.pt.st,swl:=by rw[hm1sw,hm1sl,vU,bI];exact h.pt.swl,dkl:=by rw[hm1dk,hm1st];exact h.pt.dkl,spl:=by rw[hm1sp];exact h.pt.spl,ar:=by rw[hm1sp];exact h.pt.ar,tb:=by rw[hm1sp];exact h.pt.tb };have hent1:∀p n,ent m1 p n=ent k.m p n:=fun p n=>by unfold ent fq;rw[hm1sp]
 have hul:bi k.m f=bi m1 f:=by unfold bi fq;rw[hm1sp]
 have hfr1:∀g,aT m1 g=aT k.m g:=fun g=>xM hm1fs g;have hreps:=Cr (f:=f) (e':=⟨2,s,false⟩) ((dw _).2 (.inr (.inr ⟨rfl,by show (0:Int)≤s;omega,by show (s:Int)<60;omega,rfl⟩))) (Fg f s) (fun _ _ _ _=>rfl) (bi k.m f) ⟨m1,k.e⟩ hpt1 (by rw[hul];exact DJ m1 f) (by show f<m1.m.fs.length;rw[hm1fs];exact hf) (by show _≤(aT m1 f).r;rw[hfr1];omega);obtain⟨r1,r2,r3,r4,r5,r6,r7⟩:=hreps;have hdef:(bi k.m f).foldl (Fg f s) ⟨m1,k.e⟩=qL ⟨m1,k.e⟩ f s (bi k.m f):=rfl;rw[hdef,←hev] at r1 r2 r3 r4 r5 r6 r7;refine⟨r1,?_⟩;generalize fw k f=k2 at *
 obtain⟨M,eM⟩:=k2;change vz k.m M f;simp only at r1 r2 r3 r4 r5 r6 r7;have hz:jo (aT m1 f) (-((bi k.m f).length:Int))=frZ:=by unfold jo;rw[if_pos (by rw[hfr1];omega)]
 rw[hz] at r5;have hfr:∀g,aT M g=if g=f then frZ else aT k.m g:=by intro g;rw[xM r5 g,nJ (by rw[hm1fs];exact hf),hfr1]
 have hfrn:∀g,g≠f→aT M g=aT k.m g:=fun g hg=>by rw[hfr,if_neg hg]
 have hlen:M.m.fs.length=k.m.m.fs.length:=by rw[r5,mX,hm1fs]
 have hMsl:M.sl=k.m.sl.set s (L:Int):=r3.sl.trans hm1sl;have hMsw:M.sw=iU k.m.sw ((s:Int),(aT k.m f).p):=r3.sw.trans hm1sw;have hMdk:M.dk=k.m.dk:=r3.dk.trans hm1dk;have hMst:M.st=k.m.st:=r3.st.trans hm1st;have hMca:M.ca=k.m.ca:=r3.ca.trans hm1ca;have hsk:kH k.m M:=(kH.of hm1sp).trans r4;have hentM:∀p n,ent M p n=if (p,n)∈bi k.m f then ⟨2,s,false⟩ else ent k.m p n:=fun p n=>by rw[r6,hent1]
 have hmemU:∀p n,(p,n)∈bi k.m f↔(ent k.m p n).k=1∧(ent k.m p n).n=f:=by
  intro p n;rw[uu];constructor
  ·rintro⟨_,_,h3⟩;exact h3
  intro h3;have h4:=qK (m:=k.m) (p:=p) (n:=n) (by rw[h3.1];decide);exact⟨h4.1,h4.2,h3⟩
 have hfiles:rR k.m.st M.st:=rR.of hMst;have hdisk:∀g i,ig M g i=ig k.m g i:=fun g i=>by unfold ig;rw[hMst,hMdk]
 have hck:∀c∈k.m.ca,c.k.toNat≠f:=fun c hc e=>by have h1:=(h.ca.fr c hc).2.1;have h2:=(h.ca.file c hc).1;rw[e] at h1;omega
 have hcaok:vG M:=⟨by rw[hMca,hMst];exact h.ca.file,by rw[hMca,hlen];exact h.ca.lt,fun c hc=>by rw[hMca] at hc;rw[hfrn _ (hck c hc)];exact h.ca.fr c hc,by rw[hMca];exact h.ca.srt⟩;have hcon:∀g i,zn k.m.st g i→cB M g i=cB k.m g i:=by
  intro g i hgi;rcases yh k.m g i with ⟨e,he,hem,hef,hei⟩|⟨he,hno⟩
  ·subst hef;subst hei;rw[oC h.ca hem,oC hcaok (by rw[hMca];exact hem),hfrn _ (hck e hem)]
  ·rw[pK hno,pK (by rw[hMca];exact hno),hdisk]
 have hno2:∀p n,(ent k.m p n).k=2→(ent k.m p n).n≠s:=by intro p n hk2 he;have h3:=qK (m:=k.m) (p:=p) (n:=n) (by rw[hk2];decide);have h4:=(yP (m:=k.m) (kd:=2) (i:=s) (by decide)).2 ⟨p,n,h3.1,h3.2,hk2,he⟩;have h5:=h.cs s hs;omega
 have hvis:MQ k.m M:=by
  refine GI h.pt hsk hfiles hcon fun p n g hg => ?_;rw[hentM]
  by_cases hu:(p,n)∈bi k.m f
  ·rw[if_pos hu];have h1:=(hmemU p n).1 hu;unfold EG;rw[if_neg (show ¬(2:Int)=1 by decide),if_pos rfl,if_pos h1.1,h1.2,yB,hMsw];rw[xA h.pt.sw (by show (0:Int)≤s;omega) hswb,if_pos ⟨hwo,rfl⟩,Ib h.pt.sw (by show (0:Int)≤s;omega) hswb,hwo,decide_eq_true h0]
  rw[if_neg hu];refine yS h.pt.st (h.pt.pg hg).1 hfiles hcon (fun hk => ?_) (fun hk => ?_)
  ·have hne:(ent k.m p n).n.toNat≠f:=by intro e;have h5:=((dw _).1 (tJ h.pt p n));exact hu ((hmemU p n).2 ⟨hk,by omega⟩)
   have:=hfrn _ hne;exact⟨congrArg Fr.p this,congrArg Fr.f this⟩
  rw[hMsw,xA h.pt.sw (by show (0:Int)≤s;omega) hswb,if_neg (fun e=>hno2 p n hk e.2.symm),Ib h.pt.sw (by show (0:Int)≤s;omega) hswb];exact⟨rfl,rfl⟩
 refine⟨⟨r2,by rw[hMdk,hMst];exact h.trim,fun p hp => ?_,hcaok,fun p n hk => ?_,fun i hi => ?_,fun i hi hi0 => ?_,fun j hj => ?_⟩,⟨fun e he => ?_,fun e he hed => ?_,fun i hi hid => ?_⟩,hvis,hlen,?_,by rw[hfr,if_pos rfl],hfrn,by rw[hMsl,bI],fun p n hne=>by rw[hentM,if_neg (fun hu=>hne ((hmemU p n).1 hu))],fun e => ?_,.inl ⟨hMst,hMdk⟩⟩
 ·rw[hsk.lv] at hp;have h1:=h.live p hp;rw[hsk.ar];refine⟨h1.1,fun n => ?_⟩;rw[hentM,if_neg]
  ·exact h1.2 n
  intro hu;have:=(hmemU p n).1 hu;rw[h1.2 n] at this;exact absurd this.1 (by decide)
 ·rw[hentM] at hk ⊢
  by_cases hu:(p,n)∈bi k.m f
  ·rw[if_pos hu];have h1:=(hmemU p n).1 hu;obtain⟨g,hg,hfit⟩:=h.en p n (by rw[h1.1];decide);refine⟨g,by unfold pM;rw[hsk.ar];exact hg,fun _=>⟨by rw[hMsl,bI];show (s:Int)<_;omega,?_⟩,fun (e:(2:Int)=1)=>absurd e (by decide),fun (e:(2:Int)=1)=>absurd e (by decide)⟩;have h2:=hfit.fr h1.1;rw[h1.2,bU] at h2;cases hsh:g.sh with
   | false=>rfl
   | true=>have:=h2.2.1 hsh;omega
  rw[if_neg hu] at hk ⊢;obtain⟨g,hg,hfit⟩:=h.en p n hk;refine⟨g,by unfold pM;rw[hsk.ar];exact hg,by rw[hMsl,bI];exact hfit.sw,by rw[hlen];exact hfit.lt,fun hk1 => ?_⟩;have hne:(ent k.m p n).n.toNat≠f:=by intro e;have h5:=((dw _).1 (tJ h.pt p n));exact hu ((hmemU p n).2 ⟨hk1,by omega⟩)
  rw[hfrn _ hne];exact hfit.fr hk1
 ·have a1:=r7 1 i;rw[if_neg (fun e=>by cases e.1:¬((1:Int)=(⟨2,s,false⟩:En).k∧(i:Int)=(⟨2,s,false⟩:En).n))] at a1;have a2:dA m1 1 i=dA k.m 1 i:=by unfold dA;rw[hm1sp]
  have a3:wy M i=wy k.m i:=by unfold wy;rw[hMca]
  by_cases e:i=f
  ·subst e;rw[if_pos ⟨rfl,rfl⟩] at a1;rw[uh] at a1;rw[hfr,if_pos rfl,a3,hca0];show (0:Int)=_;omega
  rw[if_neg (fun h'=>e (by have:=h'.2;omega))] at a1;have a5:=h.cf i (by rw[←hlen];exact hi);rw[hfrn i e,a3];omega
 ·by_cases e:i=f
  ·subst e;rw[hfr,if_pos rfl] at hi0;exact absurd hi0 (by decide)
  rw[hfrn i e] at hi0;rw[hMca];exact h.fc i (by rw[←hlen];exact hi) hi0
 ·have a1:=r7 2 j;rw[if_neg (fun e=>by cases e.1)] at a1;have a2:dA m1 2 j=dA k.m 2 j:=by unfold dA;rw[hm1sp]
  have hj' : j<k.m.sl.length:=by rw[hMsl,bI] at hj;exact hj
  have a3:oG M j=if j=s then (L:Int) else oG k.m j:=by have:=Nn (m:=k.m) (x:=(L:Int)) hs j;rw[←this];unfold oG setSl;rw[hMsl]
  have a4:=h.cs j hj';rw[a3]
  by_cases e:j=s
  ·subst e;rw[if_pos ⟨rfl,rfl⟩] at a1;rw[if_pos rfl];omega
  rw[if_neg (fun h'=>e (by have h2:(j:Int)=(s:Int):=h'.2;omega))] at a1;rw[if_neg e];omega
 ·rw[hMca] at he;rw[hfrn _ (hck e he),hMst];exact hc.tail e he
 ·rw[hMca] at he;rw[hfrn _ (hck e he)] at hed ⊢;rw[hdisk];exact hc.clean e he hed
 ·by_cases e:i=f
  ·rw[hfr,if_pos e] at hid;cases hid
  rw[hfrn i e] at hid ⊢;exact hc.anon i (by rw[←hlen];exact hi) hid
 ·rw[r5];show m1.m.hand=_;rw[hm1fs]
 rw[hMca];constructor
 ·intro h1;exact⟨h1,fun h2=>hck e h1 (by rw[h2];exact bU f)⟩
 ·exact fun h1=>h1.1
theorem Qx {k:Kp} (h:Rt k.m) (hc:Co k.m) (hf:f<k.m.m.fs.length) (hr:(aT k.m f).r≠0) :
  if lK k.m f=true then (fw k f).e=k.e∧vz k.m (fw k f).m f else fw k f=k:=by
 unfold lK
 by_cases h0:0≤(aT k.m f).f
 ·rw[if_pos h0]
  by_cases hb:iY k.m f=true
  ·rw[if_pos hb];exact KQ h hc hf h0 hb
  rw[if_neg hb];unfold fw;simp only;rw[if_pos h0,if_pos (by simpa using hb)]
 rw[if_neg h0]
 by_cases hb:gP k.m.sl (bi k.m f).length=0
 ·rw[if_pos (by simpa using hb)];exact KI h hc hf (by omega) hr hb
 rw[if_neg (by simpa using hb)];unfold fw;simp only;rw[if_neg h0,if_pos hb]
def zl (x y:Fr):Prop:=y.p=x.p∧y.r=x.r∧y.d=x.d∧y.f=x.f∧y.i=x.i
theorem zl.refl (x:Fr):zl x x:=⟨rfl,rfl,rfl,rfl,rfl⟩
theorem zl.trans {x y z:Fr} (h:zl x y) (k:zl y z):zl x z:=⟨k.1.trans h.1,k.2.1.trans h.2.1,k.2.2.1.trans h.2.2.1,k.2.2.2.1.trans h.2.2.2.1,k.2.2.2.2.trans h.2.2.2.2⟩
theorem Vf {m m' : Ma} (h:Rt m) (hc:Co m) (hr:Rest m m') (hs:m'.sp=m.sp) (hw:bK m'.m=0) (hl:m'.m.fs.length=m.m.fs.length) (hf:∀g,zl (aT m g) (aT m' g)):Rt m'∧Co m'∧MQ m m':=by
 have hent:∀p n,ent m' p n=ent m p n:=fun p n=>by unfold ent fq;rw[hs]
 have hpg:∀p n,pM m' p n=pM m p n:=fun p n=>by unfold pM fq;rw[hs]
 have hca:∀i,wy m' i=wy m i:=fun i=>by unfold wy;rw[hr.ca]
 have hho:∀kd i,dA m' kd i=dA m kd i:=fun kd i=>by unfold dA;rw[hs]
 have hdisk:∀f i,ig m' f i=ig m f i:=fun f i=>by unfold ig;rw[hr.st,hr.dk]
 have hpt:Pt m':={ fr:=hw,sl:=by rw[hr.sl];exact h.pt.sl,sw:=by rw[hr.sw];exact h.pt.sw,dk:=by rw[hr.dk];exact h.pt.dk,st:=by rw[hr.st];exact h.pt.st,swl:=by rw[hr.sw,hr.sl];exact h.pt.swl,dkl:=by rw[hr.dk,hr.st];exact h.pt.dkl,spl:=by rw[hs];exact h.pt.spl,ar:=by rw[hs];exact h.pt.ar,tb:=by rw[hs];exact h.pt.tb };have hcaok:vG m':=⟨by rw[hr.ca,hr.st];exact h.ca.file,by rw[hr.ca,hl];exact h.ca.lt,fun c hcm=>by rw[hr.ca] at hcm;have h1:=hf c.k.toNat;rw[h1.2.1,h1.2.2.2.1,h1.2.2.2.2];exact h.ca.fr c hcm,by rw[hr.ca];exact h.ca.srt⟩;have hcon:∀f i,cB m' f i=cB m f i:=by
  intro f i;have hl:rZ m' f i=rZ m f i:=by unfold rZ;rw[hr.ca]
  rw[nZ,nZ,hl];cases rZ m f i with
  | none=>exact hdisk f i
  | some c=>exact (hf c.k.toNat).1
 have hfiles:rR m.st m'.st:=rR.of hr.st;refine⟨⟨hpt,by rw[hr.dk,hr.st];exact h.trim,fun p hp => ?_,hcaok,fun p n hk => ?_,fun i hi => ?_,fun i hi h0 => ?_,fun s hs' => ?_⟩,⟨fun c hcm => ?_,fun c hcm hd => ?_,fun i hi hd => ?_⟩,?_⟩
 ·have:fq m' p=fq m p:=by unfold fq;rw[hs]
  rw[this] at hp ⊢;exact⟨(h.live p hp).1,fun n=>by rw[hent];exact (h.live p hp).2 n⟩
 ·rw[hent] at hk ⊢;obtain⟨g,hg,hfit⟩:=h.en p n hk;refine⟨g,by rw[hpg];exact hg,by rw[hr.sl];exact hfit.sw,by rw[hl];exact hfit.lt,fun hk1 => ?_⟩;have h1:=hfit.fr hk1;have h2:=hf (ent m p n).n.toNat;unfold Ot at h1 ⊢;rw[h2.2.1,h2.2.2.2.1,h2.2.2.2.2];exact h1
 ·rw[(hf i).2.1,hca,hho];exact h.cf i (by rw[←hl];exact hi)
 ·rw[(hf i).2.2.2.1] at h0;rw[hr.ca];exact h.fc i (by rw[←hl];exact hi) h0
 ·rw[hho];have:oG m' s=oG m s:=by unfold oG;rw[hr.sl]
  rw[this];exact h.cs s (by rw[←hr.sl];exact hs')
 ·rw[hr.ca] at hcm;rw[(hf c.k.toNat).1,hr.st];exact hc.tail c hcm
 ·rw[hr.ca] at hcm;rw[(hf c.k.toNat).2.2.1] at hd;rw[(hf c.k.toNat).1,hdisk];exact hc.clean c hcm hd
 ·rw[(hf i).2.2.1] at hd;rw[(hf i).2.2.2.1];exact hc.anon i (by rw[←hl];exact hi) hd
 refine GI h.pt (kH.of hs) hfiles (fun f i _=>hcon f i) fun p n g hg => ?_;rw[hent];exact yS h.pt.st (h.pt.pg hg).1 hfiles (fun f i _=>hcon f i) (fun _=>⟨(hf _).1,(hf _).2.2.2.1⟩) (fun _=>by rw[hr.sw];exact⟨rfl,rfl⟩)
def qc (m:Ma) (x:Mem):Ma:={ m with m:=x }
theorem Og {m:Ma} (hw:bK m.m=0) (hk:0≤iH m.m):(iH m.m).toNat<m.m.fs.length∧(aT m (iH m.m).toNat).r≠0∧bK (fG m.m)=0∧(fG m.m).fs.length=m.m.fs.length∧∀g,zl (aT m g) (aT (qc m (fG m.m)) g):=by
 have hf:mr m.m.fs≠m.m.fs.length:=fun e=>by unfold iH at hk;rw[if_neg (by rw[hw];simp),if_pos e] at hk;omega
 obtain⟨hS1,hS2,hS3⟩:=SB m.m hw hf;have hM:fG m.m=⟨nN m.m (gZ m.m),(iP m.m (gZ m.m+1):Nat)⟩:=by unfold fG;rw[if_neg (by rw[hw];simp),if_neg hf]
 have hK:iH m.m=(iP m.m (gZ m.m):Nat):=by unfold iH;rw[if_neg (by rw[hw];simp),if_neg hf]
 have hpos:0<m.m.fs.length:=by
  rcases si m.m.fs.length with h0|h0
  ·exact absurd (by have:=CW m.m.fs;omega) hf
  ·exact h0
 have hlt:=nY hpos (gZ m.m);have hlt2:=nY hpos (gZ m.m+1);obtain⟨w1,w2,w3,w4⟩:=(eD _).1 hw;rw[hK,hM,bU];refine⟨hlt,?_,(eD _).2 ⟨by simp only;rw[iJ];exact w1,fun x hx => ?_,by simp only;omega,by simp only;rw[iJ];omega⟩,iJ _ _,fun g => ?_⟩
 ·unfold vY at hS2;simp only[dS,decide_eq_true_eq] at hS2;have h1:(aT m (iP m.m (gZ m.m))).r=(m.m.fs.getD (iP m.m (gZ m.m)) fr0).r:=rfl;rw[h1];omega
 ·obtain⟨i,hi,rfl⟩:=jE.1 hx;simp only at hi ⊢;rw[iJ] at hi;rw[vw m.m _ i hi];have h3:=w2 m.m.fs[i] (dP hi);split
  ·rw[iD] at h3 ⊢;exact⟨h3.1,fun e=>⟨rfl,(h3.2.1 e).2.1,(h3.2.1 e).2.2.1,(h3.2.1 e).2.2.2⟩,h3.2.2⟩
  ·exact h3
 rcases fA g m.m.fs.length with hg|hg
 ·have e1:aT (qc m ⟨nN m.m (gZ m.m),(iP m.m (gZ m.m+1):Nat)⟩) g=(nN m.m (gZ m.m))[g]'(by rw[iJ];exact hg):=by show (nN m.m (gZ m.m)).getD g fr0=_;rw[aW,aG (by rw[iJ];exact hg)];rfl
  have e2:aT m g=m.m.fs[g]:=by have:=xN hg;rw[aG hg] at this;exact (aJ this).symm
  rw[e1,e2,vw m.m _ g hg];split
  ·exact⟨rfl,rfl,rfl,rfl,rfl⟩
  ·exact .refl _
 have e1:aT (qc m ⟨nN m.m (gZ m.m),(iP m.m (gZ m.m+1):Nat)⟩) g=fr0:=Nc (m:=qc m ⟨nN m.m (gZ m.m),(iP m.m (gZ m.m+1):Nat)⟩) (by show (nN m.m (gZ m.m)).length≤g;rw[iJ];exact hg);rw[e1,Nc hg];exact .refl _
structure CO (m m' : Ma) (o:Option Nat):Prop where
 rt:Rt m'
 co:Co m'
 vis:MQ m m'
 len:m'.m.fs.length=m.m.fs.length
 sll:m'.sl.length=m.sl.length
 fr:∀g,o≠some g→zl (aT m g) (aT m' g)
 free:∀f,o=some f→f<m.m.fs.length∧aT m' f=frZ∧(aT m f).r≠0
 ents:∀p n,((ent m p n).k=1→o≠some (ent m p n).n.toNat)→ent m' p n=ent m p n
 cas:∀c,c∈m'.ca↔c∈m.ca∧o≠some c.k.toNat
 inv:Inv m m'
theorem CO.refl {m:Ma} (h:Rt m) (hc:Co m):CO m m none:=⟨h,hc,.refl m,rfl,rfl,fun _ _ => .refl _,(fun _ e=>by cases e),fun _ _ _=>rfl,fun c=>⟨fun h=>⟨h,by simp⟩,fun h=>h.1⟩,.refl m⟩
theorem reclaimN_ok:∀(t:Nat) (k:Kp),Rt k.m→Co k.m→(reclaimN t k).1.e=k.e∧∃o,CO k.m (reclaimN t k).1.m o∧((reclaimN t k).2=true↔o≠none)
 | 0,k,h,hc=>⟨rfl,none,CO.refl h hc,by simp[reclaimN]⟩
 | t+1,k,h,hc=>by
  have hw:=h.pt.fr;have hmust:jd k.e (bK k.m.m)=k.e:=by rw[hw];unfold jd;split<;>simp_all
  by_cases hn:iH k.m.m<0
  ·have hd:reclaimN (t+1) k=(k,false):=by unfold reclaimN;rw[if_pos (.inr hn),hmust]
   rw[hd];exact⟨rfl,none,CO.refl h hc,by simp⟩
  obtain⟨n1,n2,n3,n4,n5⟩:=Og hw (by omega:0≤iH k.m.m);have hd:reclaimN (t+1) k=if lK (qc k.m (fG k.m.m)) (iH k.m.m).toNat=true then (fw ⟨qc k.m (fG k.m.m),k.e⟩ (iH k.m.m).toNat,true) else reclaimN t (fw ⟨qc k.m (fG k.m.m),k.e⟩ (iH k.m.m).toNat):=by
   conv=>lhs;unfold reclaimN
   rw[if_neg (by rintro (e | e);exact e hw;exact hn e)];rfl
  generalize hF:(iH k.m.m).toNat=F at *
  obtain⟨hr1,hc1,hv1⟩:=Vf (m:=k.m) (m':=qc k.m (fG k.m.m)) h hc ⟨rfl,rfl,rfl,rfl,rfl⟩ rfl n3 n4 n5;have hi1:Inv k.m (qc k.m (fG k.m.m)):=Uv.inv (.of rfl rfl fun c hcm _=>⟨hcm,(n5 _).2.2.1,(n5 _).1⟩) h hc hr1 hc1;have hF1:F<(qc k.m (fG k.m.m)).m.fs.length:=by show F<(fG k.m.m).fs.length;rw[n4];exact n1
  have hfr1:(aT (qc k.m (fG k.m.m)) F).r≠0:=by rw[(n5 F).2.1];exact n2
  have hev:=Qx (k:=⟨qc k.m (fG k.m.m),k.e⟩) hr1 hc1 hF1 hfr1;rw[hd]
  by_cases hb:lK (qc k.m (fG k.m.m)) F=true
  ·rw[if_pos hb] at hev;obtain⟨he,hE⟩:=hev;rw[if_pos hb];refine⟨he,some F,⟨hE.rt,hE.co,hv1.trans hE.vis,hE.len.trans n4,hE.sll,fun g hg => ?_,fun f e => ?_,fun p n hne => ?_,fun c => ?_,hi1.trans (hE.inv hr1 hc1 hF1)⟩,by simp⟩
   ·have hne:g≠F:=fun e=>hg (by rw[e]);exact (n5 g).trans (by rw[hE.oth g hne];exact .refl _)
   ·cases e;exact⟨n1,hE.free,n2⟩
   ·exact hE.ents p n (fun e=>by have h2:((ent k.m p n).n:Int)=F:=e.2;exact hne e.1 (by rw[h2,bU]))
   refine (hE.cas c).trans ⟨fun h1=>⟨h1.1,fun e=>h1.2 ?_⟩,fun h1=>⟨h1.1,fun e=>h1.2 (by rw[e,bU])⟩⟩;have:=(h.ca.lt c h1.1).1;simp only[iM] at e;omega
  rw[if_neg hb] at hev;rw[if_neg hb,hev];obtain⟨i1,o,hI,i2⟩:=reclaimN_ok t ⟨qc k.m (fG k.m.m),k.e⟩ hr1 hc1;refine⟨i1,o,⟨hI.rt,hI.co,hv1.trans hI.vis,hI.len.trans n4,hI.sll,fun g hg=>(n5 g).trans (hI.fr g hg),fun f e => ?_,hI.ents,hI.cas,hi1.trans hI.inv⟩,i2⟩;obtain⟨a1,a2,a3⟩:=hI.free f e;refine⟨?_,a2,?_⟩
  ·have a1:f<(qc k.m (fG k.m.m)).m.fs.length:=a1;have:(qc k.m (fG k.m.m)).m.fs.length=k.m.m.fs.length:=n4;omega
  ·rw[(n5 f).2.1] at a3;exact a3
theorem DY {k:Kp} (h:Rt k.m) (hc:Co k.m):(eX k).1.e=k.e∧∃o,CO k.m (eX k).1.m o∧((eX k).2=true↔o≠none):=reclaimN_ok _ k h hc
theorem Nb (p:Page) (n:Int):fF (fF p n) n=fF p n:=by
 apply wX;intro i hi;simp only[fF,ru];split<;>rfl
theorem SE (n:Int):fF zPg n=zPg:=by
 apply wX;intro i hi;simp only[fF,ru];have hz:zPg[i]=0:=by
  match i,hi with
  | 0,_=>rfl
  | 1,_=>rfl
  | 2,_=>rfl
  | 3,_=>rfl
  | 4,_=>rfl
  | 5,_=>rfl
  | 6,_=>rfl
  | 7,_=>rfl
  | n+8,h=>omega
 split<;>rw[hz]
theorem Oy (m:Ma) (f i:Int):fF (ig m f i) ((aU m.st f).n-i*8)=ig m f i:=by
 unfold ig;split
 ·exact Nb _ _
 ·exact SE _
theorem CU {f i k:Int}:∀ {l:List Cc},l.Pairwise BB→(∀c∈l,¬(c.f=f∧c.i=i))→(l.insertIdx (yx l f i) ⟨f,i,k⟩).Pairwise BB
 | [],_,_=>by simp[yx]
 | c::l,hs,hno=>by
  obtain⟨h1,h2⟩:=rW.1 hs;have hnc:=hno c gL
  by_cases hg:Ap f i c=true
  ·have:yx (c::l) f i=0:=by unfold yx;rw[zB,if_pos hg];rfl
   rw[this,List.insertIdx_zero];have hlt:BB ⟨f,i,k⟩ c:=by have:=wR.1 hg;unfold BB;simp only;omega
   refine rW.2 ⟨fun d hd => ?_,hs⟩;rcases bY.1 hd with rfl|hd
   ·exact hlt
   have:=h1 d hd;unfold BB at this hlt ⊢;omega
  have:yx (c::l) f i=yx l f i+1:=by unfold yx;rw[zB,if_neg hg];cases l.findIdx? (Ap f i)<;>rfl
  rw[this,Il];refine rW.2 ⟨fun d hd => ?_,CU h2 fun d hd=>hno d (jg _ hd)⟩;rcases (GM (Rk l f i)).1 hd with rfl|hd
  ·have:¬(f<c.f∨c.f=f∧i≤c.i):=fun h=>hg (wR.2 h);unfold BB;simp only;omega
  ·exact h1 d hd
theorem xJ {α:Type} (q:α→Bool) (x:α):∀(l:List α) (j:Nat),j≤l.length→(l.insertIdx j x).countP q=l.countP q+vO (q x)
 | l,0,_=>by rw[List.insertIdx_zero,nP];rfl
 | [],j+1,h=>by simp at h
 | a::l,j+1,h=>by rw[Il,nP,nP,xJ q x l j (by simpa using h)];omega
theorem firstE_zero:∀ {l:List Int},firstE l=0↔∀x∈l,x=0
 | []=>by simp[firstE]
 | x::l=>by
  unfold firstE
  by_cases hx:x=0
  ·rw[if_pos hx,firstE_zero];constructor
   ·intro h y hy;rcases bY.1 hy with e|hy
    ·rw[e,hx]
    ·exact h y hy
   ·exact fun h y hy=>h y (jg _ hy)
  rw[if_neg hx];exact⟨fun h=>absurd h hx,fun h=>absurd (h x gL) hx⟩
theorem mI {p:Prop} [Decidable p] {a b:Int} (ha:a≠0):(if p then a else b)=0↔¬p∧b=0:=by
 by_cases h:p
 ·rw[if_pos h];exact⟨fun h'=>absurd h' ha,fun h'=>absurd h h'.1⟩
 ·rw[if_neg h];exact⟨fun h'=>⟨h,h'⟩,fun h'=>h'.2⟩
theorem mi {a b:Int}:(if a≠0 then a else b)=0↔a=0∧b=0:=by
 by_cases h:a=0
 ·rw[if_neg (fun h'=>h' h)];exact⟨fun h'=>⟨h,h'⟩,fun h'=>h'.2⟩
 ·rw[if_pos h];exact⟨fun h'=>absurd h' h,fun h'=>absurd h'.1 h⟩
theorem Bu {s:Sp}:jF s=0↔(bG s.ar).1=0∧cK s.tb=0∧(s.lv=false→s.ar=[]∧∀n,(dG s.tb n).k=0):=by
 unfold jF;rw[mi,mi,mI (by decide)];refine and_congr_right fun _=>and_congr_right fun _ => ?_;constructor
 ·rintro⟨h,_⟩ hl;have h1:s.ar.length+(aN s.tb).length=0:=by
   rcases si (s.ar.length+(aN s.tb).length) with h0|h0
   ·exact h0
   ·exact absurd ⟨hl,h0⟩ h
  refine⟨jO (by omega),fun n => ?_⟩
  by_cases hn:0≤n∧n<64
  ·have h2:aN s.tb=[]:=jO (by omega)
   by_cases hk:(dG s.tb n).k=0
   ·exact hk
   have:=oz.2 ⟨hn,hk⟩;rw[h2] at this;cases this
  ·rw[qZ (by omega)];rfl
 refine fun h=>⟨?_,rfl⟩;rintro⟨hl,h0⟩;obtain⟨h1,h2⟩:=h hl;have h3:aN s.tb=[]:=by rw[List.eq_nil_iff_forall_not_mem];intro n hn;exact (oz.1 hn).2 (h2 n)
 rw[h1,h3] at h0;exact absurd h0 (by simp)
theorem Fq {m:Ma}:trimB m=true↔(∀b:Int,0≤b→b<m.dk.blocks.length→b∈kE m.st∨m.dk.blocks.getD b.toNat zPg=zPg)∧∀q∈m.dk.queue,q.1∈kE m.st:=by
 unfold trimB;rw[dS,dL,dL];refine and_congr ⟨fun h b h0 hb => ?_,fun h b hb => ?_⟩ ⟨fun h q hq=>by simpa using h q hq,fun h q hq=>by simpa using h q hq⟩
 ·have:=h b.toNat (dE.2 (by omega));rw[zz h0] at this;simpa using this
 have:=h (b:Int) (by omega) (by have:=dE.1 hb;omega);simpa using this
theorem vR {m:Ma}:gU m=0↔Pt m∧trimB m=true∧∀s∈m.sp,s.lv=false→s.ar=[]∧∀n,(dG s.tb n).k=0:=by
 unfold gU;rw[mi,mi,mi,mi,mi,mI (by decide),mI (by decide),firstE_zero];constructor
 ·rintro⟨h1,h2,h3,h4,h5,h6,h7,h8⟩;have h9:∀s∈m.sp,_:=fun s hs=>Bu.1 (h8 _ (Cq hs));refine⟨⟨h1,h2,h3,h4,h5,?_,?_,by omega,fun s hs=>(h9 s hs).1,fun s hs=>(h9 s hs).2.1⟩,?_,fun s hs=>(h9 s hs).2.2⟩
  ·exact uT fun h=>h6 (.inl h)
  ·exact uT fun h=>h6 (.inr (.inl h))
  cases h:trimB m with
  | true=>rfl
  | false=>exact absurd (.inr (.inr h)) h6
 rintro⟨h,ht,hl⟩;refine⟨h.fr,h.sl,h.sw,h.dk,h.st,?_,by have:=h.spl;omega,?_⟩
 ·rintro (h1|h1|h1)
  ·exact h1 h.swl
  ·exact h1 h.dkl
  ·rw[ht] at h1;cases h1
 intro x hx;obtain⟨s,hs,rfl⟩:=ib.1 hx;exact Bu.2 ⟨h.ar s hs,h.tb s hs,hl s hs⟩
theorem wh {m:Ma} {p:Option Cc} {c:Cc}:sQ m p c=0↔(zn m.st c.f c.i∧0≤c.k∧c.k<m.m.fs.length)∧(1≤(aT m c.k.toNat).r∧(aT m c.k.toNat).f=c.f∧(aT m c.k.toNat).i=c.i)∧∀q,p=some q→BB q c:=by
 have hfr:rA m c.k=aT m c.k.toNat:=rfl;unfold sQ;rw[mI (by decide),mI (by decide),hfr];refine and_congr ⟨fun h=>⟨⟨by omega,by omega⟩,by omega⟩,fun h=>by obtain⟨⟨_,_⟩,_⟩:=h;omega⟩ (and_congr ⟨fun h=>by omega,fun h=>by omega⟩ ?_);cases p with
 | none=>simp
 | some q=>
  simp only[iM,forall_eq'];rw[mI (by decide)];unfold BB;omega
theorem Ip {l:List Cc} (h:∀k (hk:k+1<l.length),BB (l[k]'(by omega)) l[k+1]):l.Pairwise BB:=by
 induction l with
 | nil=>exact List.Pairwise.nil
 | cons a l ih=>
  have ih:=ih fun k hk=>h (k+1) (by simpa using hk);refine rW.2 ⟨?_,ih⟩;cases l with
  | nil=>simp
  | cons b l=>
   have h0:BB a b:=h 0 (by simp);intro c hc;rcases bY.1 hc with e|hc
   ·rw[e];exact h0
   have h1:=(rW.1 ih).1 c hc;unfold BB at *; omega
theorem zq {m:Ma}:cachedE m=0↔vG m:=by
 unfold cachedE;rw[firstE_zero];constructor
 ·intro h;have h1:∀k (hk:k<m.ca.length),sQ m (xK m.ca k) m.ca[k]=0:=fun k hk=>by have:=h _ (Cq (dE.2 hk));rw[aW,aG hk] at this;exact this
  have h2:∀c∈m.ca,(zn m.st c.f c.i∧0≤c.k∧c.k<m.m.fs.length)∧(1≤(aT m c.k.toNat).r∧(aT m c.k.toNat).f=c.f∧(aT m c.k.toNat).i=c.i):=fun c hc=>by obtain⟨k,hk,rfl⟩:=jE.1 hc;have:=wh.1 (h1 k hk);exact⟨this.1,this.2.1⟩
  refine⟨fun c hc=>(h2 c hc).1.1,fun c hc=>(h2 c hc).1.2,fun c hc=>(h2 c hc).2,Ip fun k hk => ?_⟩;refine (wh.1 (h1 (k+1) hk)).2.2 _ ?_;unfold xK;rw[if_neg (by omega),Nat.add_sub_cancel,aG]
 intro h x hx;obtain⟨k,hk,rfl⟩:=ib.1 hx;have hk:=dE.1 hk;rw[aW,aG hk,nV];have hm:m.ca[k]∈m.ca:=dP hk;refine wh.2 ⟨⟨h.file _ hm,h.lt _ hm⟩,h.fr _ hm,fun q hq => ?_⟩;unfold xK at hq;split at hq
 ·cases hq
 rw[aG (by omega)] at hq;rw[←aJ hq];exact yN.1 h.srt _ _ (by omega) hk (by omega)
theorem Db {m:Ma} (hp:Pt m) {n:Int} (hk:(ent m p n).k≠0):bS m (fq m p) n=0↔∃g,pM m p n=some g∧Ur m g (ent m p n):=by
 have hE:=(dw _).1 (tJ hp p n);unfold bS;rw[mI (by decide)];have hon:=Ie (fq m p).ar n;constructor
 ·rintro⟨h1,h2⟩;obtain⟨h3,h4⟩:=Nf (l:=(fq m p).ar) (n:=n) (by omega);refine⟨_,h3,?_⟩;generalize (fq m p).ar.getD (kD (fq m p).ar n).toNat zAr=a at *
  have he:dG (fq m p).tb n=ent m p n:=rfl;rw[he] at h2;generalize ent m p n=e at *
  simp only at h2
  by_cases h5:e.k=2
  ·rw[if_pos h5,mI (by decide)] at h2;refine⟨fun _=>⟨by omega,?_⟩,fun h=>by omega,fun h=>by omega⟩;show a.sh=false;cases hs:a.sh with
   | false=>rfl
   | true=>exact absurd (.inr hs) h2.1
  rw[if_neg h5,mI (by decide),mI (by decide),mI (by decide)] at h2;have hfr:rA m e.n=aT m e.n.toNat:=rfl;rw[hfr] at h2;obtain⟨h6,h7,h8,_⟩:=h2;refine⟨fun h=>absurd h h5,fun _=>by omega,fun _ => ?_⟩;show Ot (aT m e.n.toNat) (jV a n) e.w;generalize aT m e.n.toNat=f at *
  have hof:0≤f.f→(0≤a.fi∧f.f=a.fi∧f.i=a.ba+n-a.fr):=fun h0=>by refine uT fun hn=>h7 (.inl ⟨h0,?_⟩);rw[Ik];simp only[ne_eq,dS,decide_eq_true_eq];exact fun h=>hn ⟨h.1.1,h.1.2,h.2⟩
  refine⟨fun h0 => ?_,fun hs => ?_,fun hw => ?_,fun hw h0 => ?_,fun hw h0 => ?_⟩
  ·obtain⟨k1,k2,k3⟩:=hof h0;refine⟨k2,?_⟩;unfold jV;simp only;rw[if_pos k1];exact k3
  ·refine uT fun hn=>h7 (.inr (.inl ⟨hs,?_⟩));rw[Ik];simp only[ne_eq,dS,decide_eq_true_eq];exact fun h=>by omega
  ·show a.wr=true;cases hs:a.wr with
   | true=>rfl
   | false=>exact absurd (.inr (.inr (.inr ⟨hw,hs⟩))) h7
  ·show a.sh=true;cases hs:a.sh with
   | true=>rfl
   | false=>
    refine absurd (.inr (.inr (.inl ⟨hs,?_,hw⟩))) h7;have:=hof h0;simp only[dS,decide_eq_true_eq];exact⟨⟨this.1,this.2.1⟩,this.2.2⟩
  ·exact uT fun hn=>h8 ⟨h0,hw,by omega⟩
 rintro⟨g,hg,hf⟩;have hne:onA (fq m p).ar n≠none:=by have:pM m p n=onA (fq m p).ar n:=rfl;rw[←this,hg];exact fun h=>by cases h
 have h1:=hon.2 hne;refine⟨by omega,?_⟩;obtain⟨h3,h4⟩:=Nf (l:=(fq m p).ar) (n:=n) h1;have hg' : g=jV ((fq m p).ar.getD (kD (fq m p).ar n).toNat zAr) n:=by have:pM m p n=onA (fq m p).ar n:=rfl;rw[this,h3] at hg;exact (aJ hg).symm
 subst hg';generalize (fq m p).ar.getD (kD (fq m p).ar n).toNat zAr=a at *
 have he:dG (fq m p).tb n=ent m p n:=rfl;rw[he];generalize ent m p n=e at *
 simp only
 by_cases h5:e.k=2
 ·obtain⟨k1,k2⟩:=hf.sw h5;have k2:a.sh=false:=k2;rw[if_pos h5,mI (by decide)];refine⟨?_,rfl⟩;rintro (h|h)
  ·omega
  ·rw[k2] at h;cases h
 have h1:e.k=1:=by omega
 have k1:=hf.lt h1;obtain⟨f1,f2,f3,f4,f5⟩:=hf.fr h1;have hfr:rA m e.n=aT m e.n.toNat:=rfl;rw[if_neg h5,mI (by decide),mI (by decide),mI (by decide),hfr];generalize aT m e.n.toNat=f at *
 have f2:a.sh=true→0≤f.f:=f2;have f3:e.w=true→a.wr=true:=f3;have f4:e.w=true→0≤f.f→a.sh=true:=f4;have hof:0≤f.f→(decide (0≤a.fi)&&decide (f.f=a.fi)&&decide (f.i=a.ba+n-a.fr))=true:=fun h0=>by obtain⟨k2,k3⟩:=f1 h0;have k2:f.f=a.fi:=k2;unfold jV at k3;simp only at k3;rw[if_pos (by omega)] at k3;simp only[dS,decide_eq_true_eq];exact⟨⟨by omega,k2⟩,k3⟩
 have hof' : (decide (0≤a.fi)&&decide (f.f=a.fi)&&decide (f.i=a.ba+n-a.fr))=true→0≤f.f:=fun h=>by simp only[dS,decide_eq_true_eq] at h;omega
 generalize (decide (0≤a.fi)&&decide (f.f=a.fi)&&decide (f.i=a.ba+n-a.fr))=of at *
 refine⟨by omega,?_,?_,rfl⟩
 ·rintro (⟨k2,k3⟩|⟨k2,k3⟩|⟨k2,k3,k4⟩|⟨k2,k3⟩)
  ·rw[hof k2] at k3;cases k3
  ·rw[hof (f2 k2)] at k3;cases k3
  ·rw[f4 k4 (hof' k3)] at k2;cases k2
  ·rw[f3 k2] at k3;cases k3
 rintro⟨k2,k3,k4⟩;have:=f5 k3 k2;omega
theorem yQ {m:Ma} (hp:Pt m):mo m=0↔∀p n,(ent m p n).k≠0→∃g,pM m p n=some g∧Ur m g (ent m p n):=by
 unfold mo;rw[firstE_zero];constructor
 ·intro h p n hk;have hp' : p<m.sp.length:=uT fun hn=>hk (by unfold ent;rw[nE (by omega)];have:dG zSp.tb n=zEn:=vH n;rw[this];rfl);have hn:0≤n∧n<64:=uT fun hn=>hk (by rw[Na p (by omega)];rfl);refine (Db hp hk).1 (h _ (jP.2 ⟨fq m p,BZ hp',Cq (oz.2 ⟨hn,hk⟩)⟩))
 intro h x hx;obtain⟨s,hs,hx⟩:=jP.1 hx;obtain⟨n,hn,rfl⟩:=ib.1 hx;obtain⟨p,hp',rfl⟩:=Ni hs;have hk:=(oz.1 hn).2;exact (Db hp hk).2 (h p n hk)
theorem Qg (t:Tb) (i:Int):cnt (nA t (aN t)) i=(dB t).countP (qy 1 i):=by
 rw[←DK (show (1:Int)≠0 by decide)];unfold cnt nA nT pU;rw[vI,FX,←FZ];congr 1;funext n;simp only[Iz,Ch];rw[lS];simp only[dS,xh,decide_eq_false_iff_not,sV,decide_eq_true_eq];exact and_comm
theorem QP {t:Tb} (h:cK t=0) (i:Int):cnt (swapT t (aN t)) i=(dB t).countP (qy 2 i):=by
 rw[←DK (show (2:Int)≠0 by decide)];unfold cnt swapT nT pU;rw[vI,FX,←FZ];refine List.countP_congr fun n hn => ?_;have hE:=(dw _).1 (qU h n);have hk:=(oz.1 hn).2;simp only[Iz,Ch,dS,xh,decide_eq_false_iff_not,sV,decide_eq_true_eq];constructor
 ·rintro⟨h1,h2⟩;exact⟨by omega,h1⟩
 ·rintro⟨h1,h2⟩;exact⟨h2,by omega⟩
theorem yV (l r:List Int) (i:Int):cnt (l++r) i=cnt l i+cnt r i:=by unfold cnt;rw[Cb]
theorem El {α:Type} (g:α→List Int) (i:Int):∀l:List α,cnt (l.flatMap g) i=(l.map fun s=>cnt (g s) i).sum
 | []=>rfl
 | a::l=>by rw[lZ,yV,El g i l,bM,yG]
theorem JU (m:Ma) (i:Int):cnt (qQ m) i=wy m i+dA m 1 i:=by
 unfold qQ;rw[yV,El];congr 1
 ·unfold cnt wy;rw[vI];rfl
 unfold dA;congr 1;exact zw fun s _=>Qg s.tb i
theorem EX {m:Ma} (hp:Pt m) (i:Int):cnt (pG m) i=dA m 2 i:=by
 unfold pG dA;rw[El];congr 1;exact zw fun s hs=>QP (hp.tb s hs) i
theorem DR {m:Ma} (hp:Pt m):countB m=true↔(∀i:Nat,i<m.m.fs.length→(aT m i).r=wy m i+dA m 1 i)∧(∀i:Nat,i<m.m.fs.length→0≤(aT m i).f→∃c∈m.ca,c.k=i)∧∀s:Nat,s<m.sl.length→oG m s=dA m 2 s:=by
 unfold countB;rw[dS,dL,decide_eq_true_eq];constructor
 ·rintro⟨h1,h2⟩;have h1:∀i:Nat,i<m.m.fs.length→_:=fun i hi=>h1 i (dE.2 hi);simp only[dS,decide_eq_true_eq,sP,iW,JU,yB] at h1;refine⟨fun i hi=>by rw[(h1 i hi).1];omega,fun i hi h0 => ?_,fun s hs => ?_⟩
  ·rcases (h1 i hi).2 with h|⟨c,hc,hk⟩
   ·have h:(aT m i).f<0:=of_decide_eq_true h;omega
   ·exact⟨c,hc,hk⟩
  have:oG m s=(ku m.sl.length (pG m)).getD s 0:=by rw[←h2];rfl
  rw[this];unfold ku;rw[aW,jM,sJ hs];show ((cnt (pG m) s:Nat):Int)=_;rw[EX hp]
 rintro⟨h1,h2,h3⟩;refine⟨fun i hi => ?_,?_⟩
 ·have hi:=dE.1 hi;simp only[dS,decide_eq_true_eq,sP,iW,JU,yB];refine⟨by rw[h1 i hi];omega,?_⟩
  by_cases h0:0≤(aT m i).f
  ·obtain⟨c,hc,hk⟩:=h2 i hi h0;exact .inr ⟨c,hc,hk⟩
  ·exact .inl (decide_eq_true (show (aT m i).f<0 by omega))
 apply sN
 ·unfold ku;simp
 intro s k1 k2;have:=h3 s k1;have e2:(ku m.sl.length (pG m))[s]'k2=((cnt (pG m) (s:Int):Nat):Int):=by simp[ku]
 rw[e2,EX hp,←this];unfold oG;rw[aW,aG k1];rfl
theorem GH {m:Ma}:jK m=0↔Rt m:=by
 unfold jK;rw[mi,mi,mi,vR,zq];constructor
 ·rintro⟨⟨hp,ht,hl⟩,hc,he,hb⟩;have hb:countB m=true:=by
   cases h:countB m with
   | true=>rfl
   | false=>rw[h] at hb;exact absurd hb (by decide)
  obtain⟨b1,b2,b3⟩:=(DR hp).1 hb;refine⟨hp,Fq.1 ht,fun p hp' => ?_,hc,(yQ hp).1 he,b1,b2,b3⟩;rcases fA p m.sp.length with h|h
  ·exact hl _ (BZ h) hp'
  rw[nE h];refine⟨rfl,fun n => ?_⟩;unfold ent;rw[nE h];have:dG zSp.tb n=zEn:=vH n;rw[this];rfl
 intro h;refine⟨⟨h.pt,Fq.2 h.trim,fun s hs hlv => ?_⟩,h.ca,(yQ h.pt).2 h.en,?_⟩
 ·obtain⟨p,hp,rfl⟩:=Ni hs;exact h.live p hlv
 ·rw[if_pos ((DR h.pt).2 ⟨h.cf,h.fc,h.cs⟩)]
def dV (m:Ma) (p:Nat) (n:Int) (x:En):Ma:=setTb m p (setT (fq m p).tb n x)
theorem Ed {i:Int} {e:En} (h:e.k=0) (hk:kd≠0):vO (qy kd i e)=0:=by
 unfold vO qy;rw[if_neg];simp only[dS,decide_eq_true_eq];intro h'; omega
theorem xL {i:Int} {e:En}:vO (qy kd i e)=if e.k=kd∧e.n=i then 1 else 0:=by
 unfold vO qy
 by_cases h:e.k=kd∧e.n=i
 ·rw[if_pos h,if_pos (by simp[h.1,h.2])]
 rw[if_neg h,if_neg];simp only[dS,decide_eq_true_eq];exact h
theorem Hy {m:Ma} (h:Rt m) {j:Int} (hk:(ent m q j).k=1) (he:(ent m q j).n.toNat=f):0<dA m 1 f∧f<m.m.fs.length:=by
 have h3:=qK (m:=m) (p:=q) (n:=j) (by rw[hk];decide);have h5:=(dw _).1 (tJ h.pt q j);have h4:=(yP (m:=m) (kd:=1) (i:=f) (by decide)).2 ⟨q,j,h3.1,h3.2,hk,by omega⟩;obtain⟨g,_,hg⟩:=h.en q j (by rw[hk];decide);have:=hg.lt hk;exact⟨h4,by omega⟩
theorem yc {m:Ma} (h:Rt m) (hc:Co m) {n:Int} {X:Fr} {x:En} {g:Pg} (hp:p<m.sp.length) (hn:0≤n∧n<64) (h0:(ent m p n).k=0) (hf:f<m.m.fs.length)
 (hxk:x.k=1) (hxn:x.n=f) (hX:dR X=0) (hr:X.r=(aT m f).r+1)
 (hold:(aT m f).r≠0→X.f=(aT m f).f∧X.i=(aT m f).i∧X.p=(aT m f).p∧X.d=(aT m f).d)
 (hnew:(aT m f).r=0→X.f<0∧X.d=false)
 (hw:X.f<0→∀q j,(ent m q j).k=1→(ent m q j).n.toNat=f→(ent m q j).w=false)
 (hg:pM m p n=some g) (hfit:Ot X g x.w):Rt (dV (setFr m f X) p n x)∧Co (dV (setFr m f X) p n x):=by
 have hpt1:Pt (setFr m f X):=h.pt.setFr hX;have hxE:eQ x=0:=(dw x).2 (.inr (.inl ⟨hxk,by have:=((eD _).1 h.pt.fr).1;omega⟩));obtain⟨hs0,_,hpt⟩:=ug (k:=⟨setFr m f X,0⟩) (p:=p) (n:=n) (x:=x) hpt1 hn hxE;have hp1:p<(setFr m f X).sp.length:=hp;have hent:∀q j,ent (dV (setFr m f X) p n x) q j=if q=p∧j=n then x else ent m q j:=fun q j=>wV hp1 hs0 q j;have hfr:∀y,aT (dV (setFr m f X) p n x) y=if y=f then X else aT m y:=fun y=>nJ hf y;have hlen:(dV (setFr m f X) p n x).m.fs.length=m.m.fs.length:=mX;have hcnt:∀kd i,kd≠0→dA (dV (setFr m f X) p n x) kd i=dA m kd i+vO (qy kd i x):=fun kd i hk=>by have h1:=vT hp1 hs0 kd i;have h2:vO (qy kd i (ent (setFr m f X) p n))=0:=Ed (e:=ent (setFr m f X) p n) h0 hk;have h3:dA (setFr m f X) kd i=dA m kd i:=rfl;unfold dV;omega
 have hsk0:kH m (setFr m f X):=kH.of rfl;have hsk:kH m (dV (setFr m f X) p n x):=hsk0.trans (kH.setTb (m:=setFr m f X) (p:=p) (t:=setT (fq (setFr m f X) p).tb n x));have hca:vG (dV (setFr m f X) p n x):=by
  refine⟨h.ca.file,fun c hcm => ?_,fun c hcm => ?_,h.ca.srt⟩
  ·rw[hlen];exact h.ca.lt c hcm
  have h1:=h.ca.fr c hcm;rw[hfr]
  by_cases e:c.k.toNat=f
  ·rw[if_pos e];rw[e] at h1;obtain⟨k1,k2,_⟩:=hold (by omega);exact⟨by omega,by omega,by omega⟩
  ·rw[if_neg e];exact h1
 refine⟨⟨hpt,h.trim,fun q hq => ?_,hca,fun q j hk => ?_,fun i hi => ?_,fun i hi hi0 => ?_,fun s hs => ?_⟩,⟨fun c hcm => ?_,fun c hcm hd => ?_,fun i hi hd => ?_⟩⟩
 ·rw[hsk.lv] at hq;obtain⟨a1,a2⟩:=h.live q hq;refine⟨by rw[hsk.ar];exact a1,fun j => ?_⟩;rw[hent,if_neg]
  ·exact a2 j
  rintro⟨rfl,rfl⟩;have:pM m q j=onA (fq m q).ar j:=rfl;rw[this,a1] at hg;cases hg
 ·have hpg:pM (dV (setFr m f X) p n x) q j=pM m q j:=by unfold pM;rw[hsk.ar]
  rw[hpg];rw[hent] at hk ⊢
  by_cases e:q=p∧j=n
  ·rw[if_pos e] at hk ⊢;rw[e.1,e.2];refine⟨g,hg,fun hk2=>by omega,fun _=>by rw[hlen];omega,fun _ => ?_⟩;rw[hfr,if_pos (by omega)];exact hfit
  rw[if_neg e] at hk ⊢;obtain⟨y,hy,hyf⟩:=h.en q j hk;refine⟨y,hy,hyf.sw,by rw[hlen];exact hyf.lt,fun hk1 => ?_⟩;rw[hfr]
  by_cases e2:(ent m q j).n.toNat=f
  ·rw[if_pos e2];have h1:=hyf.fr hk1;rw[e2] at h1;have h2:=Hy h hk1 e2;have h3:=h.cf f hf;obtain⟨k1,k2,_,_⟩:=hold (by omega);obtain⟨f1,f2,f3,f4,f5⟩:=h1;refine⟨by rw[k1,k2];exact f1,by rw[k1];exact f2,f3,by rw[k1];exact f4,fun hw1 hx0 => ?_⟩;rw[hw hx0 q j hk1 e2] at hw1;cases hw1
  ·rw[if_neg e2];exact hyf.fr hk1
 ·have a1:wy (dV (setFr m f X) p n x) i=wy m i:=rfl;rw[hfr,a1,hcnt 1 i (by decide),xL];have h3:=h.cf i (by rw[←hlen];exact hi)
  by_cases e:i=f
  ·subst e;rw[if_pos rfl,if_pos ⟨hxk,hxn⟩,hr];omega
  ·rw[if_neg e,if_neg (fun h'=>e (by omega))];omega
 ·rw[hfr] at hi0
  by_cases e:i=f
  ·subst e;rw[if_pos rfl] at hi0
   by_cases hr0:(aT m i).r=0
   ·have:=(hnew hr0).1;omega
   obtain⟨k1,_⟩:=hold hr0;exact h.fc i hf (by omega)
  rw[if_neg e] at hi0;exact h.fc i (by rw[←hlen];exact hi) hi0
 ·rw[hcnt 2 s (by decide),xL,if_neg (fun h'=>by omega)];exact h.cs s hs
 ·have h1:=h.ca.fr c hcm;rw[hfr]
  by_cases e:c.k.toNat=f
  ·rw[if_pos e];rw[e] at h1;obtain⟨_,_,k3,_⟩:=hold (by omega);rw[k3,←e];exact hc.tail c hcm
  ·rw[if_neg e];exact hc.tail c hcm
 ·have h1:=h.ca.fr c hcm;rw[hfr] at hd ⊢
  by_cases e:c.k.toNat=f
  ·rw[if_pos e] at hd ⊢;rw[e] at h1;obtain⟨_,_,k3,k4⟩:=hold (by omega);rw[k3,←e];exact hc.clean c hcm (by rw[e,←k4];exact hd)
  ·rw[if_neg e] at hd ⊢; exact hc.clean c hcm hd
 rw[hfr] at hd ⊢
 by_cases e:i=f
 ·subst e;rw[if_pos rfl] at hd ⊢
  by_cases hr0:(aT m i).r=0
  ·rw[(hnew hr0).2] at hd;cases hd
  obtain⟨k1,_,_,k4⟩:=hold hr0;rw[k1];exact hc.anon i hf (by rw[←k4];exact hd)
 ·rw[if_neg e] at hd ⊢; exact hc.anon i (by rw[←hlen];exact hi) hd
theorem Fv {m:Ma} (h:Rt m) (hc:Co m) {n:Int} {d:mZ} {x:En} {g:Pg} (hp:p<m.sp.length) (hn:0≤n∧n<64) (h0:(ent m p n).k=0) (hs:s<m.sl.length)
 (hxk:x.k=2) (hxn:x.n=s) (hxw:x.w=false) (h1k:oG m s+1≤1000) (hd:bn d=0) (hdl:d.blocks.length=m.sw.blocks.length) (hg:pM m p n=some g) (hsh:g.sh=false) :
  Rt (dV { setSl m s (oG m s+1) with sw:=d } p n x)∧Co (dV { setSl m s (oG m s+1) with sw:=d } p n x):=by
 have hb:=h.pt.slB s;have hpt0:Pt (setSl m s (oG m s+1)):=h.pt.setSl (by omega) h1k;have hpt1:Pt { setSl m s (oG m s+1) with sw:=d }:={ hpt0 with sw:=hd,swl:=by show d.blocks.length=_;rw[hdl];exact hpt0.swl };have hxE:eQ x=0:=(dw x).2 (.inr (.inr ⟨hxk,by have:=iT h.pt.sl;omega,by have:=iT h.pt.sl;omega,hxw⟩));obtain⟨hs0,_,hpt⟩:=ug (k:=⟨{ setSl m s (oG m s+1) with sw:=d },0⟩) (p:=p) (n:=n) (x:=x) hpt1 hn hxE;have hp1:p<({ setSl m s (oG m s+1) with sw:=d }:Ma).sp.length:=hp;generalize hm1:({ setSl m s (oG m s+1) with sw:=d }:Ma)=m1 at *
 have hsp:m1.sp=m.sp:=by rw[←hm1];rfl
 have hm:m1.m=m.m:=by rw[←hm1];rfl
 have hcaE:m1.ca=m.ca:=by rw[←hm1];rfl
 have hstE:m1.st=m.st:=by rw[←hm1];rfl
 have hdkE:m1.dk=m.dk:=by rw[←hm1];rfl
 have hslE:m1.sl=m.sl.set s (oG m s+1):=by rw[←hm1];rfl
 have hent1:∀q j,ent m1 q j=ent m q j:=fun q j=>by unfold ent fq;rw[hsp]
 have hent:∀q j,ent (dV m1 p n x) q j=if q=p∧j=n then x else ent m q j:=fun q j=>by rw[←hent1];exact wV hp1 hs0 q j
 have hfr:∀y,aT (dV m1 p n x) y=aT m y:=fun y=>by unfold aT dV setTb;simp only;rw[hm]
 have hlen:(dV m1 p n x).m.fs.length=m.m.fs.length:=by unfold dV setTb;simp only;rw[hm]
 have hcnt:∀kd i,kd≠0→dA (dV m1 p n x) kd i=dA m kd i+vO (qy kd i x):=fun kd i hk=>by
  have h1:=vT hp1 hs0 kd i;have h2:vO (qy kd i (ent m1 p n))=0:=Ed (by rw[hent1];exact h0) hk;have h3:dA m1 kd i=dA m kd i:=by unfold dA;rw[hsp]
  unfold dV;omega
 have hsk:kH m (dV m1 p n x):=(kH.of hsp).trans kH.setTb;have hcaS:(dV m1 p n x).ca=m.ca:=hcaE;have hstS:(dV m1 p n x).st=m.st:=hstE;have hdkS:(dV m1 p n x).dk=m.dk:=hdkE;have hdisk:∀a b,ig (dV m1 p n x) a b=ig m a b:=fun a b=>by unfold ig;rw[hstS,hdkS]
 refine⟨⟨hpt,by rw[hdkS,hstS];exact h.trim,fun q hq => ?_,⟨by rw[hcaS,hstS];exact h.ca.file,by rw[hcaS,hlen];exact h.ca.lt,fun c hcm=>by rw[hfr];exact h.ca.fr c (by rw[←hcaS];exact hcm),by rw[hcaS];exact h.ca.srt⟩,fun q j hk => ?_,fun i hi => ?_,fun i hi hi0 => ?_,fun i hi => ?_⟩,⟨fun c hcm => ?_,fun c hcm hd => ?_,fun i hi hd => ?_⟩⟩
 ·rw[hsk.lv] at hq;obtain⟨a1,a2⟩:=h.live q hq;refine⟨by rw[hsk.ar];exact a1,fun j => ?_⟩;rw[hent,if_neg]
  ·exact a2 j
  rintro⟨rfl,rfl⟩;have:pM m q j=onA (fq m q).ar j:=rfl;rw[this,a1] at hg;cases hg
 ·have hpg:pM (dV m1 p n x) q j=pM m q j:=by unfold pM;rw[hsk.ar]
  have hsll:(dV m1 p n x).sl.length=m.sl.length:=by show m1.sl.length=_;rw[hslE,bI]
  rw[hpg];rw[hent] at hk ⊢
  by_cases e:q=p∧j=n
  ·rw[if_pos e] at hk ⊢;rw[e.1,e.2];exact⟨g,hg,fun _=>⟨by rw[hsll];omega,hsh⟩,fun hk1=>by omega,fun hk1=>by omega⟩
  rw[if_neg e] at hk ⊢;obtain⟨y,hy,hyf⟩:=h.en q j hk;exact⟨y,hy,by rw[hsll];exact hyf.sw,by rw[hlen];exact hyf.lt,fun hk1=>by rw[hfr];exact hyf.fr hk1⟩
 ·have a1:wy (dV m1 p n x) i=wy m i:=by unfold wy;rw[hcaS]
  rw[hfr,a1,hcnt 1 i (by decide),xL,if_neg (fun h'=>by omega)];exact h.cf i (by rw[←hlen];exact hi)
 ·rw[hcaS];rw[hfr] at hi0;exact h.fc i (by rw[←hlen];exact hi) hi0
 ·have hi' : i<m.sl.length:=by have:(dV m1 p n x).sl=m1.sl:=rfl;rw[this,hslE,bI] at hi;exact hi
  have hsl:oG (dV m1 p n x) i=if i=s then oG m s+1 else oG m i:=by
   have h1:=Nn (x:=oG m s+1) hs i;have h2:oG (dV m1 p n x) i=oG (setSl m s (oG m s+1)) i:=by unfold oG;show m1.sl.getD i 0=_;rw[hslE];rfl
   rw[h2,h1]
  rw[hsl,hcnt 2 i (by decide),xL];have h3:=h.cs i hi'
  by_cases e:i=s
  ·subst e;rw[if_pos rfl,if_pos ⟨hxk,hxn⟩];omega
  ·rw[if_neg e,if_neg (fun h'=>e (by omega))];omega
 ·rw[hfr,hstS];rw[hcaS] at hcm;exact hc.tail c hcm
 ·rw[hcaS] at hcm;rw[hfr] at hd ⊢; rw[hdisk];exact hc.clean c hcm hd
 ·rw[hfr] at hd ⊢; exact hc.anon i (by rw[←hlen];exact hi) hd
theorem Mv {m:Ma} (h:Rt m) (hc:Co m) {n:Int} (hk:(ent m p n).k=1):Rt (dV m p n ⟨1,(ent m p n).n,false⟩)∧Co (dV m p n ⟨1,(ent m p n).n,false⟩):=by
 have hin:=qK (m:=m) (p:=p) (n:=n) (by rw[hk];decide);have hE:=(dw _).1 (tJ h.pt p n);have hxE:eQ ⟨1,(ent m p n).n,false⟩=0:=(dw _).2 (.inr (.inl ⟨rfl,by show 0≤(ent m p n).n;omega,by show (ent m p n).n<40;omega⟩));generalize hx:(⟨1,(ent m p n).n,false⟩:En)=x at *
 have hxk:x.k=1:=by rw[←hx]
 have hxn:x.n=(ent m p n).n:=by rw[←hx]
 have hxw:x.w=false:=by rw[←hx]
 obtain⟨hs0,_,hpt⟩:=ug (k:=⟨m,0⟩) (p:=p) (n:=n) (x:=x) h.pt hin.2 hxE;have hent:∀q j,ent (dV m p n x) q j=if q=p∧j=n then x else ent m q j:=fun q j=>wV hin.1 hs0 q j;have hcnt:∀kd i,dA (dV m p n x) kd i=dA m kd i:=fun kd i=>by
  have h1:=vT hin.1 hs0 kd i;have h2:vO (qy kd i (ent m p n))=vO (qy kd i x):=by rw[xL,xL,hxk,hxn,hk]
  unfold dV;omega
 have hsk:kH m (dV m p n x):=kH.setTb;refine⟨⟨hpt,h.trim,fun q hq => ?_,⟨h.ca.file,h.ca.lt,h.ca.fr,h.ca.srt⟩,fun q j hk' => ?_,fun i hi=>by rw[hcnt];exact h.cf i hi,h.fc,fun s hs=>by rw[hcnt];exact h.cs s hs⟩,⟨hc.tail,hc.clean,hc.anon⟩⟩
 ·rw[hsk.lv] at hq;obtain⟨a1,a2⟩:=h.live q hq;refine⟨by rw[hsk.ar];exact a1,fun j => ?_⟩;rw[hent,if_neg]
  ·exact a2 j
  rintro⟨rfl,rfl⟩;have:=a2 j;omega
 have hpg:pM (dV m p n x) q j=pM m q j:=by unfold pM;rw[hsk.ar]
 rw[hpg];rw[hent] at hk' ⊢
 by_cases e:q=p∧j=n
 ·rw[if_pos e] at hk' ⊢;rw[e.1,e.2];obtain⟨y,hy,hyf⟩:=h.en p n (by rw[hk];decide);have h1:=hyf.lt hk;obtain⟨f1,f2,f3,f4,f5⟩:=hyf.fr hk;refine⟨y,hy,fun hk2=>by omega,fun _=>by rw[hxn];exact h1,fun _ => ?_⟩;rw[hxn,hxw];exact⟨f1,f2,fun h=>(by cases h),fun h=>(by cases h),fun h=>(by cases h)⟩
 rw[if_neg e] at hk' ⊢;obtain⟨y,hy,hyf⟩:=h.en q j hk';exact⟨y,hy,hyf.sw,hyf.lt,hyf.fr⟩
theorem KE {m:Ma} (h:Rt m) (hc:Co m) {s:Sp} (hl:m.sp.length<4) (hv:s.lv=true) (ha:(bG s.ar).1=0) (ht:s.tb=zTb):Rt { m with sp:=m.sp++[s] }∧Co { m with sp:=m.sp++[s] }:=by
 have hspN:∀q,fq { m with sp:=m.sp++[s] } q=if q=m.sp.length then s else fq m q:=fun q=>by
  unfold fq;show (m.sp++[s]).getD q zSp=_;rw[aW,List.getElem?_append]
  by_cases e:q<m.sp.length
  ·rw[if_pos e,if_neg (by omega),aW]
  rw[if_neg e]
  by_cases e2:q=m.sp.length
  ·rw[if_pos e2,e2,sS];rfl
  ·rw[if_neg e2,aW,dI (by simp;omega),dI (by omega)]
 have hent:∀q j,ent { m with sp:=m.sp++[s] } q j=ent m q j:=fun q j=>by
  unfold ent;rw[hspN]
  by_cases e:q=m.sp.length
  ·rw[if_pos e,nE (by omega),ht];rfl
  ·rw[if_neg e]
 have hcnt:∀kd i,kd≠0→dA { m with sp:=m.sp++[s] } kd i=dA m kd i:=fun kd i hk=>by
  unfold dA;show ((m.sp++[s]).map _).sum=_;rw[jf,List.sum_append];have:([s].map fun s=>(dB s.tb).countP (qy kd i)).sum=0:=by rw[List.map_singleton,List.sum_singleton,ht,wU];intro e he;unfold dB at he;obtain⟨j,_,rfl⟩:=ib.1 he;rw[vH];unfold qy;simp only[dS,decide_eq_true_eq];rintro⟨h1,_⟩;exact hk h1.symm
  omega
 refine⟨⟨{ h.pt with spl:=by simp;omega,ar:=fun y hy => ?_,tb:=fun y hy => ?_ },h.trim,fun q hq => ?_,⟨h.ca.file,h.ca.lt,h.ca.fr,h.ca.srt⟩,fun q j hk => ?_,fun i hi=>by rw[hcnt 1 i (by decide)];exact h.cf i hi,h.fc,fun i hi=>by rw[hcnt 2 i (by decide)];exact h.cs i hi⟩,⟨hc.tail,hc.clean,hc.anon⟩⟩
 ·rcases fJ.1 hy with hy|hy
  ·exact h.pt.ar y hy
  ·rw[bq.1 hy];exact ha
 ·rcases fJ.1 hy with hy|hy
  ·exact h.pt.tb y hy
  ·rw[bq.1 hy,ht];decide
 ·rw[hspN] at hq ⊢
  by_cases e:q=m.sp.length
  ·rw[if_pos e,hv] at hq;cases hq
  rw[if_neg e] at hq ⊢;refine⟨(h.live q hq).1,fun j=>by rw[hent];exact (h.live q hq).2 j⟩
 rw[hent] at hk ⊢;obtain⟨y,hy,hyf⟩:=h.en q j hk;have hq:=qK hk;refine⟨y,?_,hyf.sw,hyf.lt,hyf.fr⟩;unfold pM at hy ⊢;rw[hspN,if_neg (by omega)];exact hy
def eP (T:List (List En)) (p:Nat):List En:=T.getD p []
def eU (T:List (List En)) (p n:Nat):En:=(eP T p).getD n zEn
def dU (m:Ma) (T:List (List En)):Ma:={ m with sp:=(List.range m.sp.length).map fun p => { fq m p with tb:=fT (eP T p) } }
structure Ac (m:Ma) (T:List (List En)):Prop where
 len:T.length=m.sp.length
 ln:∀t∈T,t.length=64
 en:∀t∈T,∀x∈t,eQ x=0
theorem kF {m:Ma} {T:List (List En)}:(dU m T).sp.length=m.sp.length:=by unfold dU;simp
theorem yC {m:Ma} {T:List (List En)} (hp:p<m.sp.length):fq (dU m T) p = { fq m p with tb:=fT (eP T p) }:=by
 have:fq (dU m T) p=((List.range m.sp.length).map fun p=>({ fq m p with tb:=fT (eP T p) }:Sp)).getD p zSp:=rfl;rw[this,aW,jM,sJ hp];rfl
theorem Ac.mem {m:Ma} {T:List (List En)} (h:Ac m T) (hp:p<m.sp.length):eP T p∈T:=by
 unfold eP;rw[aW,aG (by rw[h.len];exact hp)];exact dP _
theorem Ac.l64 {m:Ma} {T:List (List En)} (h:Ac m T) (hp:p<m.sp.length):(eP T p).length=64:=h.ln _ (h.mem hp)
theorem Ac.right {m:Ma} {T:List (List En)} (h:Ac m T) (hp:p<m.sp.length):cK (fT (eP T p))=0:=Br (h.en _ (h.mem hp)) (h.l64 hp)
theorem lu {m:Ma} {T:List (List En)} (h:Ac m T) (hp:p<m.sp.length) (hn:n<64):ent (dU m T) p n=eU T p n:=by
 unfold ent eU;rw[yC hp];show dG (fT (eP T p)) n=_;rw[yu (h.en _ (h.mem hp)) (h.l64 hp) hn,aW,aG (by rw[h.l64 hp];exact hn)];rfl
theorem xW {m:Ma} {T:List (List En)} (h:Ac m T) (hp:p<m.sp.length) (hn:n<64):eQ (eU T p n)=0:=by
 unfold eU;rw[aW,aG (by rw[h.l64 hp];exact hn)];exact h.en _ (h.mem hp) _ (dP _)
def setL (T:List (List En)) (p n:Nat) (x:En):List (List En):=T.set p ((eP T p).set n x)
theorem rC {T:List (List En)} (hp:p<T.length) {x:En} (q:Nat):eP (setL T p n x) q=if q=p then (eP T p).set n x else eP T q:=by
 unfold eP setL;rw[aW,mf]
 by_cases e:q=p
 ·subst e;rw[if_pos rfl,if_pos hp,if_pos rfl];rfl
 ·rw[if_neg (fun h=>e h.symm),if_neg e,aW]
theorem Ac.set {m:Ma} {T:List (List En)} (h:Ac m T) {x:En} (hp:p<m.sp.length) (hx:eQ x=0):Ac m (setL T p n x):=by
 refine⟨by unfold setL;rw[bI];exact h.len,fun t ht => ?_,fun t ht y hy => ?_⟩
 ·rcases mM ht with ht|rfl
  ·exact h.ln t ht
  ·rw[bI];exact h.l64 hp
 rcases mM ht with ht|rfl
 ·exact h.en t ht y hy
 rcases mM hy with hy|rfl
 ·exact h.en _ (h.mem hp) y hy
 ·exact hx
theorem wu {m:Ma} {T:List (List En)} (h:Ac m T) {x:En} (hp:p<m.sp.length) (hn:n<64) (q j:Nat):eU (setL T p n x) q j=if q=p∧j=n then x else eU T q j:=by
 unfold eU;rw[rC (by rw[h.len];exact hp)]
 by_cases e:q=p
 ·subst e;rw[if_pos rfl,aW,mf]
  by_cases e2:j=n
  ·subst e2;rw[if_pos rfl,if_pos (by rw[h.l64 hp];exact hn),if_pos ⟨rfl,rfl⟩];rfl
  ·rw[if_neg (fun h=>e2 h.symm),if_neg (fun h=>e2 h.2),aW]
 ·rw[if_neg e,if_neg (fun h=>e h.1)]
theorem qB {m:Ma} {T:List (List En)} (h:Ac m T) {x:En} (hp:p<m.sp.length) (hn:n<64) (hx:eQ x=0):dV (dU m T) p n x=dU m (setL T p n x):=by
 have hl:=h.l64 hp;have hw:=h.right hp;have hse:setE (fT (eP T p)) n x=0:=MU hw ⟨by omega,by omega⟩ hx;have ht:setT (fT (eP T p)) n x=fT ((eP T p).set n x):=by rw[←xV (yj hse),yJ hse,Dr (h.en _ (h.mem hp)) hl,bU]
 unfold dV setTb;rw[yC hp];show { dU m T with sp:=(dU m T).sp.set p { fq m p with tb:=setT (fT (eP T p)) n x } }=dU m (setL T p n x);rw[ht];refine congrArg (fun s=>({ m with sp:=s }:Ma)) (?_:((List.range m.sp.length).map fun p=>({ fq m p with tb:=fT (eP T p) }:Sp)).set p { fq m p with tb:=fT ((eP T p).set n x) }=(List.range m.sp.length).map fun q=>({ fq m q with tb:=fT (eP (setL T p n x) q) }:Sp));apply mK;intro q;rw[mf,jM,jM];simp only[fe,BQ]
 by_cases e:q=p
 ·subst e;rw[if_pos rfl,if_pos hp,sJ hp,tC,rC (by rw[h.len];exact hp),if_pos rfl]
 rw[if_neg (fun h=>e h.symm)]
 by_cases hq:q<m.sp.length
 ·rw[sJ hq,tC,tC,rC (by rw[h.len];exact hp),if_neg e]
 ·rw[dI (by simp;omega),Gp,Gp]
theorem zm {m:Ma} {T:List (List En)} {X:Fr}:setFr (dU m T) f X=dU (setFr m f X) T:=rfl
theorem Ac.fr {m:Ma} {T:List (List En)} (h:Ac m T) {X:Fr}:Ac (setFr m f X) T:=⟨h.len,h.ln,h.en⟩
theorem Ac.sps {m m' : Ma} {T:List (List En)} (h:Ac m T) (e:m'.sp.length=m.sp.length):Ac m' T:=⟨by rw[e];exact h.len,h.ln,h.en⟩
theorem nL {m:Ma} {T:List (List En)} (hp:p<m.sp.length) (n:Int):pM (dU m T) p n=onA (fq m p).ar n:=by
 unfold pM;rw[yC hp]
theorem KF {m:Ma} {T:List (List En)} (h:Ac m T) (s:Sp):dU { m with sp:=m.sp++[s] } (T++[List.replicate 64 zEn]) = { dU m T with sp:=(dU m T).sp++[{ s with tb:=zTb }] }:=by
 have hz:fT (List.replicate 64 zEn)=zTb:=by decide +kernel
 unfold dU;simp only[Ma.mk.injEq,true_and,jG,Cn];rw[yK,jf];congr 1
 ·apply zw;intro p hp;have hp':=dE.1 hp;unfold fq eP;simp only[aW];rw[kV hp',kV (by rw[h.len];exact hp')]
 unfold fq eP;simp only[bM,bN,aW];rw[kI (ay _),sS,←h.len,kI (ay _),sS];simp only[mY,nV];rw[hz]
theorem Ac.more {m:Ma} {T:List (List En)} (h:Ac m T) (s:Sp):Ac { m with sp:=m.sp++[s] } (T++[List.replicate 64 zEn]):=by
 refine⟨by simp[h.len],fun t ht => ?_,fun t ht x hx => ?_⟩
 ·rcases fJ.1 ht with ht|ht
  ·exact h.ln t ht
  ·rw[bq.1 ht,jy]
 rcases fJ.1 ht with ht|ht
 ·exact h.en t ht x hx
 rw[bq.1 ht] at hx;rw[(CE.1 hx).2];decide
def yZ (m1:Ma) (g:Nat) (X:Fr) (f i:Int):Ma:={ setFr m1 g X with ca:=m1.ca.insertIdx (yx m1.ca f i) ⟨f,i,g⟩ }
theorem TJ {m1:Ma} {f i:Int} {X:Fr} (h:Rt m1) (hc:Co m1) (hg:g<m1.m.fs.length) (hz:(aT m1 g).r=0) (hin:zn m1.st f i) (hno:∀c∈m1.ca,¬(c.f=f∧c.i=i))
 (hX:X.r=1∧X.f=f∧X.i=i) (ht:fF X.p ((aU m1.st f).n-i*8)=X.p) (hd:X.d=false→X.p=ig m1 f i) :
  Rt (yZ m1 g X f i)∧Co (yZ m1 g X f i):=by
 have hlim:=Hg h.pt.st hin;have hxE:dR X=0:=by rw[iD];have h1:=hin.1;have h2:=hin.2;exact⟨⟨by omega,by omega,by omega,by omega,by omega,by omega⟩,fun e=>by omega,fun e=>by omega⟩
 have hfr:∀x,aT (yZ m1 g X f i) x=if x=g then X else aT m1 x:=fun x=>nJ hg x;have hfrn:∀x,x≠g→aT (yZ m1 g X f i) x=aT m1 x:=fun x hx=>by rw[hfr,if_neg hx]
 have hlen:(yZ m1 g X f i).m.fs.length=m1.m.fs.length:=mX;have hmem:∀c,c∈(yZ m1 g X f i).ca↔c=⟨f,i,g⟩∨c∈m1.ca:=fun c=>GM (Rk _ _ _);have hkg:∀c∈m1.ca,c.k.toNat≠g:=fun c hcm e=>by have:=(h.ca.fr c hcm).1;rw[e,hz] at this;exact absurd this (by decide)
 have hdisk:∀f' i',ig (yZ m1 g X f i) f' i' = ig m1 f' i':=fun _ _=>rfl;have hholdg:dA m1 1 g=0∧wy m1 g=0:=by have:=h.cf g hg;omega
 have hpt:Pt (yZ m1 g X f i):={ fr:=LG h.pt.fr hxE,sl:=h.pt.sl,sw:=h.pt.sw,dk:=h.pt.dk,st:=h.pt.st,swl:=h.pt.swl,dkl:=h.pt.dkl,spl:=h.pt.spl,ar:=h.pt.ar,tb:=h.pt.tb };have hcaok:vG (yZ m1 g X f i):=by
  refine⟨fun c hcm => ?_,fun c hcm => ?_,fun c hcm => ?_,CU h.ca.srt hno⟩
  ·rcases (hmem c).1 hcm with rfl|hcm
   ·exact hin
   ·exact h.ca.file c hcm
  ·rw[hlen];rcases (hmem c).1 hcm with rfl|hcm
   ·show 0≤(g:Int)∧(g:Int)<_;omega
   ·exact h.ca.lt c hcm
  rcases (hmem c).1 hcm with rfl|hcm
  ·rw[hfr,if_pos (bU g)];exact⟨by omega,hX.2.1,hX.2.2⟩
  ·rw[hfrn _ (hkg c hcm)];exact h.ca.fr c hcm
 have hent:∀p n,ent (yZ m1 g X f i) p n=ent m1 p n:=fun _ _=>rfl;have hentg:∀p n,(ent m1 p n).k=1→(ent m1 p n).n.toNat≠g:=by intro p n hk e;have h3:=qK (m:=m1) (p:=p) (n:=n) (by rw[hk];decide);have h5:=(dw _).1 (tJ h.pt p n);have h4:=(yP (m:=m1) (kd:=1) (i:=g) (by decide)).2 ⟨p,n,h3.1,h3.2,hk,by omega⟩;omega
 refine⟨⟨hpt,h.trim,h.live,hcaok,fun p n hk => ?_,fun x hx => ?_,fun x hx h0 => ?_,h.cs⟩,⟨fun c hcm => ?_,fun c hcm hd' => ?_,fun x hx hd' => ?_⟩⟩
 ·rw[hent] at hk ⊢;obtain⟨y,hy,hfit⟩:=h.en p n hk;exact⟨y,hy,hfit.sw,by rw[hlen];exact hfit.lt,fun hk1=>by rw[hfrn _ (hentg p n hk1)];exact hfit.fr hk1⟩
 ·have a1:wy (yZ m1 g X f i) x=wy m1 x+vO (decide ((g:Int)=x)):=xJ _ _ _ _ (Rk _ _ _);have a2:dA (yZ m1 g X f i) 1 x=dA m1 1 x:=rfl;rw[hfr,a1,a2]
  by_cases e:x=g
  ·subst e;rw[if_pos rfl,hholdg.1,hholdg.2];have:vO (decide ((x:Int)=(x:Int)))=1:=by simp[vO]
   rw[this,hX.1];rfl
  rw[if_neg e];have:vO (decide ((g:Int)=(x:Int)))=0:=by unfold vO;rw[if_neg];simp only[decide_eq_true_eq];omega
  rw[this];exact h.cf x (by rw[←hlen];exact hx)
 ·by_cases e:x=g
  ·exact⟨⟨f,i,g⟩,(hmem _).2 (.inl rfl),by rw[e]⟩
  rw[hfrn x e] at h0;obtain⟨c,hcm,hck⟩:=h.fc x (by rw[←hlen];exact hx) h0;exact⟨c,(hmem c).2 (.inr hcm),hck⟩
 ·rcases (hmem c).1 hcm with rfl|hcm
  ·rw[hfr,if_pos (bU g)];exact ht
  ·rw[hfrn _ (hkg c hcm)];exact hc.tail c hcm
 ·rcases (hmem c).1 hcm with rfl|hcm
  ·rw[hfr,if_pos (bU g)] at hd' ⊢; rw[hdisk];exact hd hd'
  rw[hfrn _ (hkg c hcm)] at hd' ⊢;rw[hdisk];exact hc.clean c hcm hd'
 by_cases e:x=g
 ·rw[hfr,if_pos e];have:=hin.1.1;omega
 ·rw[hfrn x e] at hd' ⊢; exact hc.anon x (by rw[←hlen];exact hx) hd'
theorem TE {m:Ma} (h:Rt m) (hc:Co m) {x:Int} (hx:bK ⟨m.m.fs,x⟩=0):Rt { m with m:=⟨m.m.fs,x⟩ }∧Co { m with m:=⟨m.m.fs,x⟩ }:=
 ⟨⟨{ h.pt with fr:=hx },h.trim,h.live,⟨h.ca.file,h.ca.lt,h.ca.fr,h.ca.srt⟩,fun p n hk=>have ⟨y,hy,hf⟩:=h.en p n hk;⟨y,hy,hf.sw,hf.lt,hf.fr⟩,h.cf,h.fc,h.cs⟩,⟨hc.tail,hc.clean,hc.anon⟩⟩
end Go.Proofs.YtjkkoeijlhfneaaGreat