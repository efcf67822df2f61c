import Derived.WalkKit
import Derived.ProofKit
import Derived.SizedLaws
import Derived.Maps.Own
import Derived.WalkSpells
import Derived.WalkLawsBesides
import Derived.ArgAppend
import Derived.Deep.MidRow
import Derived.Deep.Slices
import Derived.Laws.AppendOwnNone
import Derived.Laws.CopyOwn
import Derived.Laws.OwnMore
import Derived.Lib.Hide
import Derived.Maps.Range
import Derived.Maps.Views
import Derived.OpenShut
import Derived.Orders
import Derived.OwnWalk
set_option linter.unusedSimpArgs false
set_option linter.unusedVariables false
set_option linter.defProp false
set_option maxHeartbeats 4000000
set_option maxRecDepth 100000
namespace Pw
def ae :=@Go.Lib.hid
def az :=@Nat.le_refl
def aH :=@List.getElem?_eq_getElem
def aM :=@Option.some.inj
def aX :=@List.getD_eq_getElem?_getD
def bi :=@Nat.le_trans
def aZ :=@Nat.zero_le
def bC :=@List.mem_singleton
def bR :=@List.map_cons
def aY :=@List.map_nil
def bA :=@Int.toNat_natCast
def bG :=@Go.IntWalk.i64_in
def bK :=@List.length_set
def bV :=@List.mem_of_getElem?
def bX :=@List.map_toArray
def cz :=@List.getElem?_eq_some_iff
def cO :=@Array.getD_eq_getD_getElem?
def dw :=@List.mem_cons
def dU :=@Bool.and_eq_true
def dV :=@Nat.zero_add
def eO :=@List.getElem_mem
def eG :=@List.mem_range
def fe :=@Nat.not_lt_zero
def eZ :=@List.all_eq_true
def fw :=@List.getElem?_eq_none
def fE :=@List.flatMap_append
def fH :=@List.length_map
def fQ :=@Nat.lt_or_ge
def gP :=@List.mem_append
def gM :=@Array.getElem?_setIfInBounds_ne
def gN :=@List.not_mem_nil
def iB :=@List.length_take
def iL :=@List.mem_cons_self
def iI :=@Int.eq_ofNat_of_zero_le
def iJ :=@Nat.add_zero
def iU :=@Array.getElem?_eq_some_iff
def ja :=@List.mem_map
def ji :=@List.take_of_length_le
def jf :=@List.length_append
def jg :=@Array.length_toList
def jv :=@List.getElem?_map
def jr :=@Option.some.injEq
def jI :=@List.mem_iff_getElem
def jK :=@List.any_eq_true
def jG :=@List.append_assoc
def jS :=@List.map_append
def jV :=@List.mem_cons_of_mem
def jU :=@List.getElem?_append_right
def kK :=@List.length_replicate
def kF :=@List.getElem?_append_left
def kS :=@List.eq_nil_of_length_eq_zero
def kW :=@Go.Sem.run_bind
def kT :=@List.mem_flatMap
def lL :=@List.mem_or_eq_of_mem_set
def lM :=@Bool.true_and
def lJ :=@Nat.succ.inj
def mI :=@List.getElem?_take
def mH :=@Array.ext_getElem?
def lW :=@Array.getElem?_eq_none
def mE :=@Array.all_toList
def mJ :=@Go.Value.slice.injEq
def lZ :=@Bool.false_and
def ni :=@Bool.eq_iff_iff
def mW :=@Go.Lib.run_eql_slice_nil
def mZ :=@Bool.and_false
def nO :=@List.take_add_one
def nR :=@List.getElem?_set
def nQ :=@Nat.add_assoc
def nX :=@List.flatMap_cons
def nN :=@Array.mem_toList_iff
def ou :=@Ne.symm
def pE :=@List.ext_getElem?
def oN :=@Bool.and_true
def oG :=@Nat.lt_of_lt_of_le
def oV :=@List.append_nil
def oJ :=@Go.Value.slice.inj
def pV :=@List.getElem?_replicate
def pO :=@List.mem_append_left
def qg :=@List.length_cons
def qa :=@Go.Addr.add_lit
def qc :=@Option.getD_some
def qH :=@Vector.getElem_ofFn
def qI :=@List.find?_eq_none
def qD :=@List.getElem?_drop
def qL :=@Classical.not_not
def qK :=@Go.Result.andThen_ok
def qP :=@Go.Sem.run_pure
def qO :=@List.drop_eq_nil_of_le
def qQ :=@List.getElem?_cons_zero
def sI :=@Array.getElem?_setIfInBounds_self_of_lt
def uH :=@List.ext_getElem
def uS :=@List.any_eq_false
def uM :=@List.mem_append_right
def uP :=@Nat.add_mul
def uz :=@Array.getElem?_toList
def uE :=@Nat.mul_le_mul_right
def uN :=@Bool.or_eq_true
def uF :=@List.set_cons_zero
def uD :=@List.countP_cons
def qh :=@Nat.sub_self
def rD :=@List.findIdx?_eq_some_iff_getElem
def rE :=@List.filter_append
def rF :=@Nat.mod_eq_of_lt
def rC :=@List.mem_of_find?_eq_some
def ru :=@Option.map_some
def qX :=@List.take_append_drop
def rz :=@Array.getElem?_replicate
def qZ :=@Nat.le_of_lt
def tY :=@Bool.false_eq_true
def tC :=@Nat.mod_lt
def um :=@List.getElem?_set_ne
def tF :=@List.nodup_cons
def tX :=@Int.le_refl
def tJ :=@List.getElem?_range
def uj :=@List.find?_some
def ui :=@Go.Addr.mk.injEq
def tO :=@Bool.not_eq_true'
def tN :=@Nat.mul_one
def ug :=@Go.Obj.cells.injEq
def tT :=@Nat.min_eq_left
def tK :=@Nat.eq_zero_or_pos
def tZ :=@List.set_cons_succ
def ut :=@List.pairwise_cons
def vB :=@List.findIdx?_eq_none_iff
def vO :=@List.getElem?_set_self
def wK :=@List.drop_eq_getElem_cons
def vD :=@List.filter_cons
def vC :=@Nat.zero_mul
def vN :=@Nat.lt_or_gt_of_ne
def wy :=@List.getElem_map
def wD :=@List.countP_le_length
def vM :=@List.set_getElem_self
def vP :=@Classical.byContradiction
def yg :=@List.countP_pos_iff
def xO :=@Vector.ext
def xL :=@Vector.getElem_set_ne
def ym :=@List.nodup_append
def xQ :=@Go.Calls.mono
def xY :=@Nat.mul_comm
def xK :=@List.countP_eq_zero
def yA :=@List.getElem?_toArray
def xR :=@List.getElem?_cons_succ
def yE :=@List.take_length
def yt :=@List.drop_succ_cons
def yC :=@List.drop_nil
def xU :=@Go.Value.agg.injEq
def yH :=@List.countP_map
def yF :=@List.mem_insertIdx
def AL :=@List.length_filter_le
def Ao :=@List.range_succ
def AR :=@List.map_congr_left
def AO :=@Decidable.byContradiction
def Ba :=@List.foldl_cons
def zZ :=@List.findIdx?_cons
def zU :=@List.mem_filter
def AU :=@Nat.add_sub_cancel_left
def AZ :=@Array.getElem?_eq_getElem
def Aw :=@Array.mem_of_getElem?
def Aj :=@Option.bind_some
def Ag :=@Nat.one_mul
def zK :=@List.setIfInBounds_toArray
def zL :=@List.drop_zero
def AA :=@Array.getElem?_setIfInBounds
def Be :=@List.map_set
def zH :=@List.length_drop
def Az :=@List.length_eraseIdx_of_lt
def Av :=@List.sum_cons
def zP :=@List.pairwise_iff_getElem
def CW :=@Array.toList_setIfInBounds
def CP :=@List.getElem_cons_succ
def DR :=@List.foldl_append
def DF :=@Bool.or_eq_false_iff
def DC :=@List.getElem_set
def Df :=@Nat.add_mod_right
def CR :=@List.getLast?_concat
def De :=@List.length_singleton
def CX :=@List.mem_replicate
def DN :=@List.length_eq_zero_iff
def Da :=@List.getElem_cons_zero
def Dt :=@Nat.le_of_eq
def Dy :=@Nat.succ_mul
def Dj :=@List.getElem_set_ne
def Dk :=@List.countP_append
def DL :=@List.length_nil
def Di :=@List.set_set
def Dn :=@List.flatMap_map
def Dm :=@List.mem_map_of_mem
def DW :=@Nat.not_lt
def DV :=@Int.toNat_of_nonneg
def Dz :=@Bool.not_or
def DI :=@List.countP_eq_length_filter
def CY :=@List.insertIdx_succ_cons
def DU :=@Nat.min_def
def CK :=@List.length_range
def CZ :=@Array.size_push
def Iu :=@List.cons_append
def Jg :=@Option.map_none
def Jh :=@Bool.and_eq_false_iff
def JD :=@Nat.add_comm
def IA :=@Go.World.grownBy.refl
def Il :=@Go.World.ownsRow_nil
def IW :=@List.getElem_range
def IK :=@List.mem_filterMap
def Jf :=@List.nil_append
def Ig :=@List.getElem_set_self
def Ii :=@Int.natCast_emod
def Je :=@Bool.or_true
def IC :=@List.countP_filter
def IL :=@Function.comp_apply
def Iz :=@Bool.eq_false_iff
open Go Go.RowKit
abbrev Page:=Vector UInt8 8
theorem Tp (p q:Page):(p==q)=((p[0]==q[0])&&(p[1]==q[1])&&(p[2]==q[2])&&(p[3]==q[3])&&(p[4]==q[4])&&(p[5]==q[5])&&(p[6]==q[6])&&(p[7]==q[7])):=by
 rw[ni];simp only[beq_iff_eq,dU];constructor
 ·rintro rfl;simp
 rintro⟨⟨⟨⟨⟨⟨⟨D,A⟩,h2⟩,z⟩,u⟩,s⟩,m⟩,d⟩
 ext i hi
 match i,hi with
 | 0,_=>rw[D]
 | 1,_=>rw[A]
 | 2,_=>rw[h2]
 | 3,_=>rw[z]
 | 4,_=>rw[u]
 | 5,_=>rw[s]
 | 6,_=>rw[m]
 | 7,_=>rw[d]
 | n+8,h=>omega
theorem WK (a b:UInt8):((a.toNat:Int)==(b.toNat:Int))=(a==b):=by
 rw[ni];simp only[beq_iff_eq,Int.natCast_inj,UInt8.toNat_inj]
def iH (p:Page) (a:Int) (k:Nat):Page:=Vector.ofFn λi:Fin 8=>if a<=(i.val:Int)/\i.val<k then 0 else p[i.val]
def dn (p:Page) (a:Int):Page:=Vector.ofFn λi:Fin 8=>if a<=(i.val:Int) then 0 else p[i.val]
theorem yJ (p:Page) (a:Int) (k:Nat) (h:8<=k):iH p a k=dn p a:=by
 ext i hi
 simp only[iH,dn,qH];have d:i<k:=by omega
 simp[d]
theorem Kw (p:Page) (a:Int) (k:Nat) (h:k=a.toNat):iH p a k=p:=by
 ext i hi
 simp only[iH,qH];rw[if_neg (by omega)]
theorem yf (p:Page) (a:Int) (k:Nat) (h:k<8) (d:a<=k):(iH p a k).set k 0=iH p a (k+1):=by
 ext i hi
 simp only[iH,qH,Vector.getElem_set]
 by_cases e:k=i
 ·subst e;simp[d]
 simp only[e,if_false]
 by_cases c:a<=(i:Int)/\i<k
 ·rw[if_pos c,if_pos ⟨c.1,by omega⟩]
 ·rw[if_neg c,if_neg (by omega)]
def dO (L:Nat->Bool) (i:Nat):Nat->Bool:=λk=>if k=i then true else L k
def wr {α:Type}:List α->Option (List α)
 | []=>some []
 | a::r=>some (a::r)
theorem OC {α:Type} {a b:List α} (h:wr a=some b):a=b:=by cases a<;>cases h<;>rfl
def i64 (n:Int):Prop:=-9223372036854775808<=n/\n<=9223372036854775807
theorem Cu {α:Type} (good:α->Prop) (R:Nat->α->Prop):∀(d:Nat),(∀i,i<d->∃y:α,good y/\R i y)->∃l:List α,l.length=d/\(∀y∈l,good y)/\∀i (p:i<l.length),R i l[i]
 | 0,_=>⟨[],rfl,λy u=>(by cases u),λi p=>absurd p (fe _)⟩
 | d+1,key=>by
  obtain⟨l,D,F,E⟩:=Cu good R d (λi p=>key i (by omega));obtain⟨y,u,s⟩:=key d (by omega);refine⟨l++[y],by simp[D],?_,?_⟩
  ·intro z h;rcases gP.1 h with h|h
   ·exact F z h
   ·rw[bC.1 h];exact u
  intro i p
  by_cases m:i<l.length
  ·rw[List.getElem_append_left m];exact E i m
  have A : i=d:=by simp at p;omega
  subst A;rw[List.getElem_append_right (by omega)];simpa[D] using s
end Pw
namespace Go.Proofs.YthihaopabbpalaaGreat
open Go.ChangeShapes Go.WideShapes Go.ChangeAt Go.RowKit Go.Maps Pw
variable {k:Nat}
theorem mG {n:Nat} {P:∀i,i<n->Prop} (m:∀i (h:i<n),i<k->P i h) (d:k<n) (p:P k d):∀i (h:i<n),i<k+1->P i h:=by
 intro i h s
 by_cases e:i=k
 ·subst e;exact p
 ·exact m i h (by omega)
theorem Xa {α:Type} {l m:List α} (k:Nat) (h:k<l.length) (h' : k<m.length) (d:l[k]≠m[k]):l≠m:=by rintro rfl;exact d rfl
theorem VW {α:Type} {l m:List α} (d:l.length=m.length) (k:Nat) (s:¬k<l.length) (h:∀i (h:i<l.length),i<k->l[i]=m[i]'(by omega)):l=m:=
 uH d λi p h2=>h i p (by omega)
theorem Xj {α:Type} {l m:List α} (s:l.length=m.length) (u:k<l.length) (h:∀i (h:i<l.length),i<k->l[i]=m[i]'(by omega)) (d:l[k]=m[k]'(by omega)):∀i (h:i<l.length),i<k+1->l[i]=m[i]'(by omega):=by
 intro i p h2
 by_cases e:i=k
 ·subst e;exact d
 ·exact h i p (by omega)
end Go.Proofs.YthihaopabbpalaaGreat
namespace Pw
open Go Go.RowKit
variable {fuel i q:Nat} {l:List Int}
theorem xS {d:Array Bool} (p:i<d.size) (q:Nat) (m:d.getD q false=true):(d.setIfInBounds i true).getD q false=true:=by
 by_cases h:q=i
 ·subst h;simp[cO,p]
 ·simpa[cO,gM (ou h)] using m
theorem rM {d:Array Bool} (h:q≠i):(d.setIfInBounds i true).getD q false=d.getD q false:=by
 simp[cO,gM (ou h)]
theorem Ka {d:Array Bool} (h:i<d.size):(d.setIfInBounds i true).getD i false=true:=by
 simp[cO,h]
theorem EA {h:Array Bool} (m:i<h.size) (s:h.getD i true=false) (u:h.toList.countP (!·)<=fuel+1):(h.setIfInBounds i true).toList.countP (!·)<=fuel:=by
 have c:i<h.toList.length:=by simp;omega
 have b:h.toList[i]=false:=by simpa[cO,m] using s
 have:=List.countP_set (p:=(!·)) (l:=h.toList) (i:=i) (a:=true) c;rw[b] at this;have d:0<h.toList.countP (!·):=yg.2 ⟨h.toList[i],eO c,by rw[b];rfl⟩;simp only[CW];simp only[Bool.not_false,Bool.not_true,if_true,tY,if_false] at this;omega
open Go.ChangeShapes Go.WideShapes Go.ChangeAt
def firstE:List Int->Int
 | []=>0
 | x::r=>if x=0 then firstE r else x
theorem tH (h:∀i (d:i<l.length),l[i]=0):firstE l=0:=by
 induction l with
 | nil=>rfl
 | cons x r ih=>
  have m:=h 0 (by simp);simp at m;simp only[firstE,m,if_true];exact ih λi d=>by have:=h (i+1) (by simpa using d);simpa using this
theorem xP (k:Nat) (m:k<l.length) (h:∀i (p:i<l.length),i<k->l[i]=0) (d:l[k]≠0):firstE l=l[k]:=by
 induction l generalizing k with
 | nil=>simp at m
 | cons x r ih=>
  cases k with
  | zero=>simp at d;simp[firstE,d]
  | succ k=>
   have s:=h 0 (by simp) (by omega);simp at s;simp only[firstE,s,if_true,CP];exact ih k (by simpa using m) (λi p a=>by have:=h (i+1) (by simpa using p) (by omega);simpa using this) (by simpa using d)
theorem filter_all {α:Type} (p q:α->Bool) (l:List α):(l.filter p).all (λe => !p e||q e)=l.all (λe => !p e||q e):=by
 induction l with
 | nil=>rfl
 | cons x l ih=>
  cases hp:p x
  ·rw[List.filter_cons_of_neg (by simp[hp]),ih];simp[hp]
  ·rw[List.filter_cons_of_pos (by simp[hp])];simp[hp,ih]
end Pw
namespace Go.Proofs.YthihaopabbpalaaGreat
open Go.RowKit Pw
variable {I K b c i j k q r:Nat} {file index lo n:Int} {l:List Int}
def idx {α:Type} (f:α->Bool) (l:List α):Int:=match l.findIdx? f with
 | some k=>k
 | none => -1
theorem uG {α:Type} (f:α->Bool) (l:List α) (k:Nat) (h:k<l.length) (d:∀i (h:i<l.length),i<k->f l[i]=false) (m:f l[k]=true):idx f l=k:=by
 unfold idx;rw[rD.2 ⟨h,m,λj p=>by simpa using d j (by omega) p⟩]
theorem lY {α:Type} (f:α->Bool) (l:List α) (m:∀i (h:i<l.length),f l[i]=false):idx f l = -1:=by
 unfold idx;rw[vB.2 λx d=>by obtain⟨i,p,rfl⟩:=jI.1 d;exact m i p]
theorem Br {α:Type} (f:α->Bool) (l:List α):(idx f l = -1/\∀i (h:i<l.length),f l[i]=false)\/∃k:Nat,∃h:k<l.length,idx f l=k/\f l[k]=true/\∀i (h:i<l.length),i<k->f l[i]=false:=by
 unfold idx;cases e:l.findIdx? f with
 | none=>exact .inl ⟨rfl,λi h=>vB.1 e _ (eO h)⟩
 | some k=>
  obtain⟨h,m,d⟩:=rD.1 e;exact .inr ⟨k,h,rfl,m,λi _ p=>by simpa using d i p⟩
theorem pu {α:Type} (f:α->Bool) (l:List α):decide (0<=idx f l)=l.any f:=by
 rcases Br f l with ⟨e,h⟩|⟨k,m,e,h,_⟩
 ·rw[e];symm;simp only[show decide ((0:Int)<=-1)=false from rfl,uS];intro x d;obtain⟨i,p,rfl⟩:=jI.1 d;simpa using h i p
 rw[e];symm;simp only[show decide ((0:Int)<=(k:Int))=true from by simp,jK];exact⟨_,eO m,h⟩
theorem upto {n:Nat} {P:∀i,i<n->Prop} (m:∀i (h:i<n),i<k->P i h) (d:k<n) (p:P k d):∀i (h:i<n),i<k+1->P i h:=by
 intro i h s
 by_cases e:i=k
 ·subst e;exact p
 ·exact m i h (by omega)
open Go.Maps
structure VU (D:DataW Unit) (f:Int->Bool):Prop where
 is:IsMap D
 at_:∀j:Int,D.atKey (.int .i64 j) (.lit (.bool false)) = .lit (.bool (f j))
theorem VU.empty:VU (.map []) (λ_=>false):=⟨isMap_empty,λj=>rfl⟩
theorem VU.put {D:DataW Unit} {f:Int->Bool} (h:VU D f) (k:Int):VU (D.put (.int .i64 k) (.lit (.bool true))) (λj=>f j||decide (j=k)):=by
 refine⟨h.is.put _ _,λj => ?_⟩
 by_cases e:j=k
 ·subst e;rw[atKey_put_same h.is (by trivial)];simp
 rw[atKey_put_other (by intro d;exact e (by cases d;rfl)),h.at_ j];simp[e]
def eY (n:Int):Int:=if n<=0 then 0 else (n-1) / 8+1
def rf (n:Int):Bool:=decide (n<0)||decide (1000<n)
def dF (l:List Int):Int:=if 60<l.length then 4 else if l.any rf then 3 else 0
def JF (n:Int):Bool:=n==0
def PV (n:Int):List Int:=if 0<=n/\n<=60 then List.replicate n.toNat 0 else []
theorem TL (l:List Int) (k:Nat) (p:k<l.length) (d:dF l=0):0<=l[k]/\l[k]<=1000:=by
 unfold dF at d;split at d
 ·omega
 split at d
 ·omega
 rename_i h;have m:rf l[k]=false:=by have:=uS.1 (by simpa using h) _ (eO p);simpa using this
 simp[rf] at m;exact m
theorem kE (h:dF l=0):l.length<=60:=by
 unfold dF at h;split at h
 ·omega
 ·omega
def iV (l:List Int) (n:Int):Int:=if dF l≠0 then dF l else if n<1\/1000<n then 3 else if idx JF l<0 then 10 else 0
def kJ (l:List Int) (n:Int):Int:=if iV l n=0 then idx JF l else 0
def mU (l:List Int) (n:Int):List Int:=if iV l n=0 then l.set (idx JF l).toNat n else []
theorem Nv (n:Int) (h:dF l≠0):iV l n=dF l/\kJ l n=0/\mU l n=[]:=by
 have:iV l n=dF l:=by unfold iV;rw[if_pos h]
 exact⟨this,by unfold kJ;rw[this,if_neg h],by unfold mU;rw[this,if_neg h]⟩
theorem NF (d:dF l=0) (h:n<1\/1000<n):iV l n=3/\kJ l n=0/\mU l n=[]:=by
 have:iV l n=3:=by unfold iV;rw[if_neg (by omega),if_pos h]
 exact⟨this,by unfold kJ;rw[this];rfl,by unfold mU;rw[this];rfl⟩
theorem Me (m:dF l=0) (h:1<=n/\n<=1000) (d:idx JF l = -1):iV l n=10/\kJ l n=0/\mU l n=[]:=by
 have:iV l n=10:=by unfold iV;rw[if_neg (by omega),if_neg (by omega),if_pos (by omega)]
 exact⟨this,by unfold kJ;rw[this];rfl,by unfold mU;rw[this];rfl⟩
theorem OE (m:dF l=0) (h:1<=n/\n<=1000) (d:idx JF l=k):iV l n=0/\kJ l n=k/\mU l n=l.set k n:=by
 have:iV l n=0:=by unfold iV;rw[if_neg (by omega),if_neg (by omega),if_neg (by omega)]
 exact⟨this,by unfold kJ;rw[this,if_pos rfl,d],by unfold mU;rw[this,if_pos rfl,d];rfl⟩
def FM (l:List Int) (k:Int):Int:=l.getD k.toNat 0
def dB (l:List Int) (k n:Int):Int:=if dF l≠0 then dF l else if k<0\/l.length<=k\/FM l k=0 then 5 else if n < -FM l k\/1000-FM l k<n then 3 else 0
def cB (l:List Int) (k n:Int):List Int:=if dB l k n=0 then l.set k.toNat (FM l k+n) else []
theorem Mh (k n:Int) (h:dF l≠0):dB l k n=dF l/\cB l k n=[]:=by
 have:dB l k n=dF l:=by unfold dB;rw[if_pos h]
 exact⟨this,by unfold cB;rw[this,if_neg h]⟩
theorem Gu {k:Int} (d:dF l=0) (h:k<0\/l.length<=k\/FM l k=0):dB l k n=5/\cB l k n=[]:=by
 have:dB l k n=5:=by unfold dB;rw[if_neg (by omega),if_pos h]
 exact⟨this,by unfold cB;rw[this];rfl⟩
theorem NJ {k:Int} (m:dF l=0) (h:¬(k<0\/l.length<=k\/FM l k=0)) (d:n < -FM l k\/1000-FM l k<n):dB l k n=3/\cB l k n=[]:=by
 have:dB l k n=3:=by unfold dB;rw[if_neg (by omega),if_neg h,if_pos d]
 exact⟨this,by unfold cB;rw[this];rfl⟩
theorem QD {k:Int} (m:dF l=0) (h:¬(k<0\/l.length<=k\/FM l k=0)) (d:¬(n < -FM l k\/1000-FM l k<n)):dB l k n=0/\cB l k n=l.set k.toNat (FM l k+n):=by
 have:dB l k n=0:=by unfold dB;rw[if_neg (by omega),if_neg h,if_neg d]
 exact⟨this,by unfold cB;rw[this,if_pos rfl]⟩
theorem UZ (h:k<l.length):FM l k=l[k]:=by simp[FM,h]
structure wC where
 blocks:List Page
 queue:List (Int × Page)
def zPg:Page:=#v[0,0,0,0,0,0,0,0]
def wQ (n:Nat) (q:Int × Page):Bool:=decide (q.1<0)||decide ((n:Int)<=q.1)
def bW (d:wC):Int:=if 80<d.blocks.length\/400<d.queue.length then 4 else if d.queue.any (wQ d.blocks.length) then 3 else 0
def aK (d:wC) (at_:Int):Int:=if bW d≠0 then bW d else if at_<0\/d.blocks.length<=at_ then 3 else 0
def over (k:Int) (p:Page) (q:List (Int × Page)):Page:=q.foldl (λp x=>if x.1=k then x.2 else p) p
theorem BF (k:Int) (p:Page) (q:List (Int × Page)) (x:Int × Page):over k p (q++[x])=if x.1=k then x.2 else over k p q:=by simp[over,DR]
theorem Hz (k:Int) (p:Page) (q:List (Int × Page)) (i:Nat) (h:i<q.length):over k p (q.take (i+1))=if q[i].1=k then q[i].2 else over k p (q.take i):=by
 rw[nO,aH h,Option.toList,BF]
def dL (d:wC) (k:Int):Page:=if aK d k=0 then over k (d.blocks.getD k.toNat zPg) d.queue else zPg
def jJ (d:wC) (x:Int × Page):wC:=
 match d.queue with
 | []=>⟨d.blocks,[x]⟩
 | q::r=>if (q::r).length=400 then ⟨d.blocks.set q.1.toNat q.2,r++[x]⟩ else ⟨d.blocks,(q::r)++[x]⟩
theorem QF (d:wC) (x:Int × Page) (h:d.queue.length≠400):jJ d x=⟨d.blocks,d.queue++[x]⟩:=by
 unfold jJ;split
 ·rename_i e;rw[e];rfl
 ·rename_i q r e;rw[e] at h;rw[if_neg h,e]
theorem OG (d:wC) (x:Int × Page) (h:d.queue.length=400):jJ d x=⟨d.blocks.set (d.queue[0]'(by omega)).1.toNat (d.queue[0]'(by omega)).2,d.queue.drop 1++[x]⟩:=by
 obtain⟨B,Q⟩:=d;unfold jJ;cases Q with
 | nil=>simp at h
 | cons q r=>simp only[if_pos h];rfl
def dP (d:wC) (k:Int) (p:Page):wC:=if aK d k=0 then jJ d (k,p) else ⟨[],[]⟩
theorem Hl {d:wC} (h:bW d=0):d.blocks.length<=80/\d.queue.length<=400:=by
 unfold bW at h;split at h
 ·omega
 ·omega
theorem Hf {d:wC} (h:bW d=0) (i:Nat) (m:i<d.queue.length):0<=d.queue[i].1/\d.queue[i].1<d.blocks.length:=by
 unfold bW at h;split at h
 ·omega
 split at h
 ·omega
 rename_i p;have:=uS.1 (by simpa using p) _ (eO m);simp[wQ] at this;omega
def Fz (n:Int):wC:=if 0<=n/\n<=80 then ⟨List.replicate n.toNat zPg,[]⟩ else ⟨[],[]⟩
theorem QS (k:Int) (p:Page) (q:Int × Page) (r:List (Int × Page)):over k p (q::r)=over k (if q.1=k then q.2 else p) r:=rfl
theorem jL (d:wC):bW d=0↔d.blocks.length<=80/\d.queue.length<=400/\∀x∈d.queue,0<=x.1/\x.1<d.blocks.length:=by
 unfold bW;constructor
 ·intro h;split at h
  ·omega
  split at h
  ·omega
  rename_i s h2;refine⟨by omega,by omega,λx m => ?_⟩;have:=uS.1 (by simpa using h2) x m;simp[wQ] at this;omega
 rintro⟨s,h2,p⟩;rw[if_neg (by omega),if_neg];simp only[jK,not_exists,not_and];intro x m;have:=p x m;simp[wQ];omega
theorem kZ {d:wC} {k:Int}:aK d k=0↔bW d=0/\0<=k/\k<d.blocks.length:=by
 unfold aK;constructor
 ·intro h;split at h
  ·omega
  split at h
  ·omega
  ·omega
 rintro⟨p,h2,m⟩;rw[if_neg (by omega),if_neg (by omega)]
theorem wV (d:wC) (x:Int × Page):(jJ d x).blocks.length=d.blocks.length:=by
 unfold jJ;split
 ·rfl
 split
 ·simp
 ·rfl
theorem yU {d:wC} {x:Int × Page} (h:bW d=0) (A:0<=x.1) (z:x.1<d.blocks.length):bW (jJ d x)=0:=by
 obtain⟨h2,s,u⟩:=(jL d).1 h;rw[jL,wV];refine⟨h2,?_,?_⟩
 ·unfold jJ;split
  ·simp
  rename_i q r e;rw[e] at s;split
  ·rename_i p;simp at p ⊢; omega
  ·rename_i p;simp at p s ⊢; omega
 intro y m;have:y=x\/y∈d.queue:=by
  unfold jJ at m;split at m
  ·simp at m;exact .inl m
  rename_i q r e;rw[e];split at m
  ·simp at m ⊢; rcases m with h | h
   ·exact .inr (.inr h)
   ·exact .inl h
  simp at m ⊢; rcases m with h | h | h
  ·exact .inr (.inl h)
  ·exact .inr (.inr h)
  ·exact .inl h
 rcases this with rfl|h
 ·exact⟨A,z⟩
 ·exact u y h
theorem Qe (d:wC) (x:Int × Page) (o:Int) (m:∀y∈d.queue,0<=y.1/\y.1<d.blocks.length) (p:0<=o) (ho' : o<d.blocks.length) :
  over o ((jJ d x).blocks.getD o.toNat zPg) (jJ d x).queue=if x.1=o then x.2 else over o (d.blocks.getD o.toNat zPg) d.queue:=by
 unfold jJ;split
 ·rename_i e;rw[e];rfl
 rename_i q r e;split
 ·have a:=m q (by rw[e];exact iL ..);rw[BF];congr 1;rw[e,QS];congr 1;simp only[aX,nR]
  by_cases h:q.1=o
  ·rw[if_pos h,if_pos (by rw[h]),if_pos (by rw[h];omega)];rfl
  ·rw[if_neg h,if_neg (by omega)]
 ·rw[e,BF]
theorem IR {d:wC} {x:Int × Page} (h:bW d=0) (p:0<=x.1) (m:x.1<d.blocks.length) (o:Int):aK (jJ d x) o=aK d o:=by
 unfold aK;rw[yU h p m,h,wV]
theorem xJ {d:wC} {x:Int × Page} (h:bW d=0) (s:0<=x.1) (p:x.1<d.blocks.length) (o:Int):dL (jJ d x) o=if aK d o=0/\x.1=o then x.2 else dL d o:=by
 unfold dL;rw[IR h s p]
 by_cases m:aK d o=0
 ·obtain⟨_,z,u⟩:=kZ.1 m;rw[if_pos m,if_pos m,Qe d x o ((jL d).1 h).2.2 z u];simp[m]
 ·rw[if_neg m,if_neg m,if_neg (λh=>m h.1)]
def pg5:Page:=#v[5,0,0,0,0,0,0,0]
def d3:wC:=⟨[zPg,zPg,zPg],[]⟩
structure Fr where
 p:Page
 r:Int
 u:Bool
 d:Bool
 f:Int
 i:Int
 deriving DecidableEq
def Es (f:Fr):Bool:=decide (f.r<0)||decide (1000<f.r)||decide (f.f < -1)||decide (5<=f.f)||decide (f.i<0)||decide (12<=f.i)
def GH (f:Fr):Bool:=decide (f.r=0)&&(f.u||f.d||decide (0<=f.f)||f.p != zPg)
def Ca (f:Fr):Bool:=decide (f.f<0)&&decide (f.i≠0)
def bS (f:Fr):Int:=if Es f=true then 3 else if GH f=true\/Ca f=true then 7 else 0
structure Mem where
 fs:List Fr
 hand:Int
 deriving DecidableEq
def firstEf:List Fr->Int
 | []=>0
 | f::r=>if bS f≠0 then bS f else firstEf r
theorem firstEf_at:∀(l:List Fr) (k:Nat) (d:k<l.length),(∀i (h:i<l.length),i<k->bS l[i]=0)->bS l[k]≠0->firstEf l=bS l[k]
 | f::r,0,_,_,h=>by unfold firstEf;exact if_pos h
 | f::r,k+1,d,hp,h=>by unfold firstEf;rw[if_neg (λs=>s (hp 0 (by simp) (by omega)))];exact firstEf_at r k (by simpa using d) (λi p m=>hp (i+1) (by simpa using p) (by omega)) h
theorem firstEf_none:∀(l:List Fr),(∀i (h:i<l.length),bS l[i]=0)->firstEf l=0
 | [],_=>rfl
 | f::r,hp=>by unfold firstEf;rw[if_neg (λm=>m (hp 0 (by simp)))];exact firstEf_none r (λi d=>hp (i+1) (by simpa using d))
def bu (m:Mem):Int:=if 40<m.fs.length then 4 else if firstEf m.fs≠0 then firstEf m.fs else if m.hand<0\/(0<m.hand/\(m.fs.length:Int)<=m.hand) then 3 else 0
def dQ (l:List Fr):Nat:=(l.filter (λf=>decide (f.r=0))).length
theorem NA (l:List Fr) (k:Nat) (d:k<l.length):dQ (l.take (k+1))=if l[k].r=0 then dQ (l.take k)+1 else dQ (l.take k):=by
 unfold dQ;rw[nO,aH d,Option.toList,rE]
 by_cases h:l[k].r=0<;>simp[h]
theorem Ee (l:List Fr):dQ l<=l.length:=AL _ _
def fr0:Fr:=⟨zPg,0,false,false,0,0⟩
def frZ:Fr:=⟨zPg,0,false,false,-1,0⟩
def MM (n:Int):Mem:=if 0<=n/\n<=40 then ⟨List.replicate n.toNat frZ,0⟩ else ⟨[],0⟩
def wN (l:List Fr):Option Nat:=l.findIdx? (λf=>decide (f.r=0))
theorem LK {l:List Fr} (h:∀i (h:i<l.length),i<l.length->¬l[i].r=0):wN l=none:=by
 unfold wN;rw[vB];intro x m;obtain⟨i,d,rfl⟩:=jI.1 m;simpa using h i d d
theorem ND {l:List Fr} (p:i<l.length) (h:l[i].r=0) (d:∀j (h:j<l.length),j<i->¬l[j].r=0):wN l=some i:=by
 unfold wN;rw[rD];exact⟨p,by simpa using h,λj m=>by simpa using d j (by omega) m⟩
def noM:Mem:=⟨[],0⟩
def bJ (p:Page) (file index:Int):Fr:=⟨p,1,true,false,file,index⟩
def ik (m:Mem) (p:Page) (file index:Int):Int:=if bu m≠0 then bu m else if bS (bJ p file index)≠0 then bS (bJ p file index) else if wN m.fs=none then 10 else 0
def iG (m:Mem) (p:Page) (file index:Int):Nat:=if ik m p file index=0 then (wN m.fs).getD 0 else 0
def fo (m:Mem) (p:Page) (file index:Int):Mem:=if ik m p file index=0 then ⟨m.fs.set (iG m p file index) (bJ p file index),m.hand⟩ else noM
theorem firstEf_all:∀(l:List Fr),firstEf l=0->∀f∈l,bS f=0
 | [],_,_,h=>by cases h
 | g::r,h,f,hf=>by
  unfold firstEf at h
  by_cases d:bS g=0
  ·rw[if_neg (λe=>e d)] at h;rcases dw.1 hf with rfl|hf
   ·exact d
   ·exact firstEf_all r h f hf
  rw[if_pos d] at h;exact absurd h d
theorem dH (m:Mem):bu m=0↔m.fs.length<=40/\(∀f∈m.fs,bS f=0)/\0<=m.hand/\(m.hand=0\/m.hand<m.fs.length):=by
 unfold bu;constructor
 ·intro h
  by_cases d:40<m.fs.length
  ·rw[if_pos d] at h;cases h
  rw[if_neg d] at h
  by_cases h2:firstEf m.fs=0
  ·rw[if_neg (λe=>e h2)] at h
   by_cases p:m.hand<0\/(0<m.hand/\(m.fs.length:Int)<=m.hand)
   ·rw[if_pos p] at h;cases h
   ·exact⟨by omega,firstEf_all _ h2,by omega,by omega⟩
  ·rw[if_pos h2] at h;exact absurd h h2
 rintro⟨d,h2,p,z⟩;rw[if_neg (by omega)];have u:firstEf m.fs=0:=firstEf_none _ (λi s=>h2 _ (eO s));rw[u,if_neg (λe=>e rfl),if_neg (by omega)]
theorem dK (f:Fr):bS f=0↔(0<=f.r/\f.r<=1000/\-1<=f.f/\f.f<5/\0<=f.i/\f.i<12)/\(f.r=0->f.u=false/\f.d=false/\f.f<0/\f.p=zPg)/\(f.f<0->f.i=0):=by
 unfold bS;have z:Es f=false↔(0<=f.r/\f.r<=1000/\-1<=f.f/\f.f<5/\0<=f.i/\f.i<12):=by simp only[Es,DF,decide_eq_false_iff_not,Int.not_lt,Int.not_le];omega
 have m:GH f=false↔(f.r=0->f.u=false/\f.d=false/\f.f<0/\f.p=zPg):=by
  unfold GH
  by_cases h:f.r=0
  ·simp[h,and_assoc]
  ·simp[h]
 have s:Ca f=false↔(f.f<0->f.i=0):=by
  unfold Ca
  by_cases h:f.f<0
  ·simp[h]
  ·simp[h]
 rw[<-z,<-m,<-s];cases Es f<;>cases GH f<;>cases Ca f<;>simp
def nZ (m:Mem) (k n:Int):Int:=if bu m≠0 then bu m else if k<0\/(m.fs.length:Int)<=k\/(m.fs.getD k.toNat fr0).r=0 then 5 else if n < -(m.fs.getD k.toNat fr0).r\/1000-(m.fs.getD k.toNat fr0).r<n then 3 else 0
def ig (f:Fr) (n:Int):Fr:=if f.r+n=0 then frZ else { f with r:=f.r+n }
def lT (m:Mem) (k n:Int):Mem:=if nZ m k n=0 then ⟨m.fs.set k.toNat (ig (m.fs.getD k.toNat fr0) n),m.hand⟩ else noM
def jF (m:Mem) (s:Nat):Nat:=(m.hand.toNat+s)%m.fs.length
def Cw (m:Mem) (s i:Nat):Bool:=(List.range s).any (λt=>jF m t==i)
def unused (f:Fr):Fr:={ f with u:=false }
def oK (m:Mem) (s:Nat):List Fr:=m.fs.mapIdx (λi f=>if Cw m s i then unused f else f)
def wU (m:Mem) (s:Nat):Bool:=decide (0<(m.fs.getD (jF m s) fr0).r)&&(!(m.fs.getD (jF m s) fr0).u||decide (m.fs.length<=s))
def iW (m:Mem):Nat:=((List.range (2*m.fs.length)).find? (wU m)).getD 0
def gJ (m:Mem):Mem:=if bu m≠0 then noM else if dQ m.fs=m.fs.length then m else ⟨oK m (iW m),(jF m (iW m+1):Nat)⟩
def jo (m:Mem):Int:=if bu m≠0 then 0 else if dQ m.fs=m.fs.length then -1 else (jF m (iW m):Nat)
theorem pU {m:Mem} (h:0<m.fs.length) (s:Nat):jF m s<m.fs.length:=tC _ h
theorem jw (m:Mem) (s:Nat):(oK m s).length=m.fs.length:=by simp[oK]
theorem wJ (m:Mem) (s i:Nat) (d:i<m.fs.length):(oK m s)[i]'(by rw[jw];exact d)=if Cw m s i then unused m.fs[i] else m.fs[i]:=by simp[oK]
theorem Pq (m:Mem) (s i:Nat):Cw m (s+1) i=(Cw m s i||jF m s==i):=by simp[Cw,Ao]
theorem Si (m:Mem):oK m 0=m.fs:=by
 apply uH
 ·rw[jw]
 intro i d h2;rw[wJ m 0 i h2];rfl
theorem TH (m:Mem) (s:Nat) (h:0<m.fs.length):(oK m s).set (jF m s) (unused ((oK m s)[jF m s]'(by rw[jw];exact pU h s)))=oK m (s+1):=by
 apply uH
 ·simp[jw]
 intro i p h2;have d:i<m.fs.length:=by rw[jw] at h2;exact h2
 rw[DC,wJ m (s+1) i d,Pq]
 by_cases e:jF m s=i
 ·subst e;rw[if_pos rfl,wJ m s _ d];cases Cw m s (jF m s)<;>simp[unused]
 rw[if_neg e,wJ m s i d];have:(jF m s==i)=false:=by simpa using e
 rw[this,Bool.or_false]
theorem TN (m:Mem) (s:Nat) (h:0<m.fs.length):Cw m s (jF m s)=decide (m.fs.length<=s):=by
 rw[ni];simp only[Cw,jK,eG,beq_iff_eq,decide_eq_true_eq];constructor
 ·rintro⟨t,A,d⟩;unfold jF at d;rcases fQ s m.fs.length with p|p
  ·exfalso;have z:(m.hand.toNat+s)%m.fs.length=(m.hand.toNat+t+(s-t))%m.fs.length:=by congr 1;omega
   rw[z,Nat.add_mod (m.hand.toNat+t) (s-t)] at d;have h2:(s-t)%m.fs.length=s-t:=rF (by omega);rw[h2] at d;have D:=tC (m.hand.toNat+t) h;generalize (m.hand.toNat+t)%m.fs.length=x at *
   rcases fQ (x+(s-t)) m.fs.length with u|u
   ·rw[rF u] at d;omega
   ·rw[Nat.mod_eq_sub_mod u,rF (by omega)] at d;omega
  ·exact p
 intro p;refine⟨s-m.fs.length,by omega,?_⟩;unfold jF;have:m.hand.toNat+s=(m.hand.toNat+(s-m.fs.length))+m.fs.length:=by omega
 rw[this,Df]
theorem VX (m:Mem) (s:Nat) (h:0<m.fs.length):(oK m s)[jF m s]'(by rw[jw];exact pU h s)=if m.fs.length<=s then unused (m.fs[jF m s]'(pU h s)) else m.fs[jF m s]'(pU h s):=by
 rw[wJ m s _ (pU h s),TN m s h];simp
theorem Ul (m:Mem) (s:Nat) (h:0<m.fs.length):wU m s=(decide (0<((oK m s)[jF m s]'(by rw[jw];exact pU h s)).r)&&!((oK m s)[jF m s]'(by rw[jw];exact pU h s)).u):=by
 rw[VX m s h];unfold wU;rw[show m.fs.getD (jF m s) fr0=m.fs[jF m s]'(pU h s) from by simp[pU h s]]
 by_cases d:m.fs.length<=s
 ·rw[if_pos d];simp[d,unused];rfl
 ·rw[if_neg d];simp[d]
theorem QT (l:List Fr):dQ l=l.length↔∀f∈l,f.r=0:=by
 unfold dQ;rw[List.length_filter_eq_length_iff];simp
theorem stops (m:Mem) (A:bu m=0) (z:dQ m.fs≠m.fs.length):∃s,s<2*m.fs.length/\wU m s=true:=by
 obtain⟨_,c,H,_⟩:=(dH m).1 A;rw[Ne,QT] at z;obtain⟨f,d⟩:=Classical.not_forall.1 z;obtain⟨u,G⟩:=Classical.not_imp.1 d;obtain⟨i,p,rfl⟩:=jI.1 u;have e:=((dK _).1 (c _ u)).1.1;have a:0<m.fs.length:=by omega
 have F:=tC m.hand.toNat a;refine⟨(i+m.fs.length-m.hand.toNat%m.fs.length)%m.fs.length+m.fs.length,by have:=tC (i+m.fs.length-m.hand.toNat%m.fs.length) a;omega,?_⟩;have b:jF m ((i+m.fs.length-m.hand.toNat%m.fs.length)%m.fs.length+m.fs.length)=i:=by
  unfold jF;rw[<-nQ,Df,Nat.add_mod,Nat.mod_mod];generalize m.hand.toNat%m.fs.length=x at *
  rcases fQ i x with h|h
  ·rw[rF (show i+m.fs.length-x<m.fs.length by omega)];rw[show x+(i+m.fs.length-x)=i+m.fs.length from by omega,Df,rF p]
  have D:i+m.fs.length-x=(i-x)+m.fs.length:=by omega
  rw[D,Df,rF (show i-x<m.fs.length by omega),show x+(i-x)=i from by omega,rF p]
 unfold wU;rw[b];have:m.fs.getD i fr0=m.fs[i]:=by simp[p]
 rw[this];have E:0<m.fs[i].r:=by omega
 have h2:m.fs.length<=(i+m.fs.length-m.hand.toNat%m.fs.length)%m.fs.length+m.fs.length:=by omega
 simp[E,h2]
theorem Rb (m:Mem) (d:bu m=0) (u:dQ m.fs≠m.fs.length):iW m<2*m.fs.length/\wU m (iW m)=true/\∀t,t<iW m->wU m t=false:=by
 obtain⟨s,p,a⟩:=stops m d u;unfold iW;cases hfd:(List.range (2*m.fs.length)).find? (wU m) with
 | none=>
  rw[qI] at hfd;exact absurd a (hfd s (eG.2 p))
 | some r=>
  rw[List.find?_range_eq_some] at hfd;obtain⟨A,h2,z⟩:=hfd;exact⟨eG.1 h2,A,λt h=>by simpa using z t h⟩
structure En where
 k:Int
 n:Int
 w:Bool
 deriving DecidableEq
def zEn:En:=⟨0,0,false⟩
abbrev Tb:=Vector (List En) 8
def eF (e:En):Int:=if e.k<0\/2<e.k then 1 else if e.n<0\/40<=e.n/\e.k=1\/60<=e.n then 3 else if e.k=0/\(e.n≠0\/e.w=true)\/e.k=2/\e.w=true then 7 else 0
def mR (h:List En):Int:=if h.length≠0/\h.length≠8 then 2 else if firstE (h.map eF)≠0 then firstE (h.map eF) else if 0<h.length/\h.any (λe=>decide (e.k≠0))=false then 2 else 0
def dA (t:Tb):Int:=firstE (t.toList.map mR)
def yN (h:List En) (k:Nat):Bool:=(h.take k).any (λe=>decide (e.k≠0))
theorem OO (h:List En):yN h 0=false:=rfl
theorem Gd (h:List En) (k:Nat) (d:k<h.length):yN h (k+1)=(yN h k||decide (h[k].k≠0)):=by
 unfold yN;rw[nO,List.any_append,aH d];simp
theorem KU (h:List En) (k:Nat) (d:h.length<=k):yN h k=h.any (λe=>decide (e.k≠0)):=by
 unfold yN;rw[ji d]
theorem xA {t:Tb} (h:∀i (d:i<8),mR t[i]=0):dA t=0:=tH λi d=>by simpa using h i (by simpa using d)
theorem rH {t:Tb} (k:Nat) (p:k<8) (h:∀i (m:i<8),i<k->mR t[i]=0) (d:mR t[k]≠0):dA t=mR t[k]:=by
 have:=xP (l:=t.toList.map mR) k (by simpa using p) (λi m a=>by simpa using h i (by simpa using m) a) (by simpa using d);rw[dA,this];simp
theorem zg {h:List En} (d:h.length≠0/\h.length≠8):mR h=2:=by unfold mR;rw[if_pos d]
theorem zF {h:List En} (u:h.length=0\/h.length=8) (k:Nat) (s:k<h.length) (p:∀i (m:i<h.length),i<k->eF h[i]=0) (d:eF h[k]≠0):mR h=eF h[k]:=by
 have:=xP (l:=h.map eF) k (by simpa using s) (λi m a=>by simpa using p i (by simpa using m) a) (by simpa using d);have e:firstE (h.map eF)=eF h[k]:=by rw[this];simp
 unfold mR;rw[if_neg (by omega),e,if_pos d]
theorem xM {h:List En} (p:h.length=0\/h.length=8) (m:∀i (d:i<h.length),eF h[i]=0):mR h=if 0<h.length/\h.any (λe=>decide (e.k≠0))=false then 2 else 0:=by
 have:=tH (l:=h.map eF) (λi d=>by simpa using m i (by simpa using d));unfold mR;rw[if_neg (by omega),this,if_neg (by omega)]
def FX (t:Tb):Prop:=∀k (h:k<8),t[k].length*24<=140737488355328
def dJ (t:Tb) (n:Int):En:=if h:0<=n/\n<64 then (if (t[n.toNat / 8]'(by omega)).length=8 then (t[n.toNat / 8]'(by omega)).getD (n.toNat%8) zEn else zEn) else zEn
theorem sj {t:Tb} (h:n<0\/64<=n):dJ t n=zEn:=by unfold dJ;rw[dif_neg (by omega)]
theorem Ay {t:Tb} (p:q<8) (m:r<8):dJ t ((8*q+r:Nat):Int)=if t[q].length=8 then t[q].getD r zEn else zEn:=by
 unfold dJ;rw[dif_pos (by omega)];have h:(((8*q+r:Nat):Int).toNat / 8)=q:=by rw[bA];omega
 have d:(((8*q+r:Nat):Int).toNat%8)=r:=by rw[bA];omega
 simp only[h,d]
theorem yj (h:0<=n/\n<64):∃q r:Nat,q<8/\r<8/\n=((8*q+r:Nat):Int)/\n / 8=(q:Int)/\n%8=(r:Int):=by
 refine⟨(n / 8).toNat,(n%8).toNat,by omega,by omega,by omega,by omega,by omega⟩
def pY (e:En):Bool:=decide (e.k≠0)
def setE (t:Tb) (n:Int) (e:En):Int:=if dA t≠0 then dA t else if n<0\/64<=n then 3 else eF e
def VE (h:List En):List En:=if h.any pY then h else []
def setH (h:List En) (r:Nat) (e:En):List En:=VE ((if h.length=0 then List.replicate 8 zEn else h).set r e)
def zTb:Tb:=Vector.replicate 8 []
def setT (t:Tb) (n:Int) (e:En):Tb:=if h:(0<=n/\n<64)/\setE t n e=0 then t.set (n.toNat / 8) (setH (t[n.toNat / 8]'(by omega)) (n.toNat%8) e) (by omega) else zTb
theorem wZ {t:Tb} {e:En} (h:setE t n e≠0):setT t n e=zTb:=by unfold setT;rw[dif_neg (λd=>h d.2)]
theorem Ov {t:Tb} {e:En} (h:setE t n e=0) (u:q<8) (s:r<8) (d:n=((8*q+r:Nat):Int)):setT t n e=t.set q (setH t[q] r e):=by
 unfold setT;subst d;rw[dif_pos ⟨by omega,h⟩];have p:(((8*q+r:Nat):Int).toNat / 8)=q:=by rw[bA];omega
 have m:(((8*q+r:Nat):Int).toNat%8)=r:=by rw[bA];omega
 simp only[p,m]
theorem pW {h:List En} (d:mR h=0):h.length=0\/h.length=8:=by
 by_cases e:h.length≠0/\h.length≠8
 ·rw[zg e] at d;cases d
 ·omega
theorem mD {t:Tb} (h:dA t=0) (k:Nat) (p:k<8):mR t[k]=0:=by
 have m:∀(l:List Int),firstE l=0->∀x∈l,x=0:=by
  intro l
  induction l with
  | nil=>intro _ x d;cases d
  | cons y r ih=>
   intro h x d
   by_cases e:y=0
   ·simp only[firstE,e,if_true] at h;rcases dw.1 d with rfl|d
    ·exact e
    ·exact ih h x d
   ·simp only[firstE,e,if_false] at h
 exact m _ h _ (ja.2 ⟨t[k],by simp,rfl⟩)
def kC (t:Tb) (k:Nat):List Int:=((List.range k).filter λn:Nat=>pY (dJ t (n:Int))).map λn:Nat=>(n:Int)
def aU (t:Tb):List Int:=kC t 64
theorem su (t:Tb) (k:Nat):(kC t k).length<=k:=by
 unfold kC;rw[fH];exact bi (AL _ _) (by simp)
theorem Ls {t:Tb} (h:pY (dJ t (k:Int))=true):kC t (k+1)=kC t k++[(k:Int)]:=by
 unfold kC;rw[Ao,rE,jS];simp[h]
theorem Mj {t:Tb} (h:pY (dJ t (k:Int))=false):kC t (k+1)=kC t k:=by
 unfold kC;rw[Ao,rE,jS];simp[h]
structure CB (p:Int->Bool) (l:List Int) (j i:Nat) (cur:List Int):Prop where
 len:cur.length=l.length
 lt:i<j
 le:j<=l.length
 done:cur.take i=(l.take j).filter (λx => !p x)
 rest:∀t,j<=t->cur[t]?=l[t]?
theorem CB.start {p:Int->Bool} (u:i<l.length) (z:p l[i]=true) (d:∀j (h:j<l.length),j<i->p l[j]=false):CB p l (i+1) i l:=by
 refine⟨rfl,by omega,by omega,?_,λ_ _=>rfl⟩;rw[nO,rE,aH u,Option.toList];have A:(l.take i).filter (λq => !p q)=l.take i:=by rw[List.filter_eq_self];intro q m;obtain⟨j,s,rfl⟩:=jI.1 m;simp only[iB] at s;rw[List.getElem_take];simpa using d j (by omega) (by omega)
 simp[A,z]
theorem CB.keep {p:Int->Bool} {d:List Int} (h:CB p l j i d) (s:j<l.length) (m:p l[j]=false):CB p l (j+1) (i+1) (d.set i l[j]):=by
 have A:=h.lt;have h2:=h.len;refine⟨by simp[h.len],by omega,by omega,?_,λt z => ?_⟩
 ·have u:i<d.length:=by omega
  rw[nO,vO u,Option.toList,List.take_set_of_le (az _),h.done];rw[nO,rE,aH s,Option.toList];simp[m]
 rw[um (by omega)];exact h.rest t (by omega)
theorem CB.skip {p:Int->Bool} {d:List Int} (h:CB p l j i d) (m:j<l.length) (s:p l[j]=true):CB p l (j+1) i d:=by
 have z:=h.lt;refine⟨h.len,by omega,by omega,?_,λt u=>h.rest t (by omega)⟩;rw[h.done];rw[nO,rE,aH m,Option.toList];simp[s]
theorem CB.all {p:Int->Bool} (h:∀i (h:i<l.length),p l[i]=false):l.filter (λx => !p x)=l:=by
 rw[List.filter_eq_self];intro q d;obtain⟨j,m,rfl⟩:=jI.1 d;simpa using h j m
def qG (t:Tb) (kind k:Int) (n:Int):Bool:=decide ((dJ t n).k≠kind)||decide ((dJ t n).n≠k)
def pJ (t:Tb) (kind k:Int):List Int:=(aU t).filter λn => !qG t kind k n
theorem Rp {h:List En} (m:j<h.length) (p:c=0↔yN h j=false) (s:0<=h[j].k):((0<h[j].k)->(c+1=0↔yN h (j+1)=false))/\(¬0<h[j].k->(c=0↔yN h (j+1)=false)):=by
 rw[Gd h j m];constructor
 ·intro d;have:decide (h[j].k≠0)=true:=by simp;omega
  simp[this]
 intro d;have:decide (h[j].k≠0)=false:=by simp;omega
 simp[this,p]
theorem Wm (f g:En):(f==g)=(f.k==g.k&&(f.n==g.n&&f.w==g.w)):=by
 cases f;cases g;rw[ni];simp
def Hg (t u:Tb):Bool:=decide (t=u)
theorem Gi {t u:Tb} (k:Nat) (d:k<8) (h:t[k]≠u[k]):Hg t u=false:=by
 unfold Hg;rw[decide_eq_false_iff_not];rintro rfl;exact h rfl
theorem Gz {t u:Tb} (h:∀i (d:i<8),t[i]=u[i]):Hg t u=true:=by
 unfold Hg;rw[decide_eq_true_eq];exact xO h
def dI (t:Tb):List En:=(List.range 64).map λn:Nat=>dJ t (n:Int)
structure LA (t:Tb) (m:Nat) (l:List En):Prop where
 len:l.length=64
 at' : ∀n (h:n<64),l[n]?=some (if n<m then dJ t (n:Int) else zEn)
theorem LA.start {t:Tb}:LA t 0 (List.replicate 64 zEn):=⟨kK,λn h=>by rw[pV,if_pos h,if_neg (fe _)]⟩
theorem LA.step {t:Tb} {m:Nat} {l:List En} (h:LA t m l) (u:m<64) {E:En} (s:dJ t (m:Int)=E):LA t (m+1) (l.set m E):=by
 refine⟨by simp[h.len],λn p => ?_⟩
 by_cases e:n=m
 ·subst e;rw[vO (by rw[h.len];exact p),if_pos (by omega),s]
 rw[um (λd=>e d.symm),h.at' n p];congr 1
 by_cases d:n<m
 ·rw[if_pos d,if_pos (by omega)]
 ·rw[if_neg d,if_neg (by omega)]
theorem Bn {t:Tb} (m:q<8) (d:r<8) (h:t[q].length=0):dJ t ((8*q+r:Nat):Int)=zEn:=by
 rw[Ay m d,if_neg (by omega)]
theorem GL {t:Tb} (m:q<8) (d:r<8) (h:t[q].length=8) {E:En} (p:t[q][r]?=some E):dJ t ((8*q+r:Nat):Int)=E:=by
 rw[Ay m d,if_pos h,aX,p];rfl
theorem LA.skip {t:Tb} {l:List En} (h:LA t (8*q) l) (p:q<8) (u:t[q].length=0):LA t (8*(q+1)) l:=by
 refine⟨h.len,λn s => ?_⟩;rw[h.at' n s];congr 1
 by_cases m:n<8*q
 ·rw[if_pos m,if_pos (by omega)]
 rw[if_neg m]
 by_cases d:n<8*(q+1)
 ·rw[if_pos d];obtain⟨r,rfl⟩:∃r,n=8*q+r:=⟨n-8*q,by omega⟩;exact (Bn p (by omega) u).symm
 ·rw[if_neg d]
theorem LA.fin {t:Tb} {l:List En} (h:LA t 64 l):l=dI t:=by
 apply pE;intro n;unfold dI
 by_cases d:n<64
 ·rw[h.at' n d,if_pos d];simp[d]
 ·rw[fw (by rw[h.len];omega),fw (by simp;omega)]
def Jw (e:En):Bool:=decide (0<e.k)
def mo (l:List En) (i:Nat):List En:=(l.drop (8*i)).take 8
def nk (l:List En) (i:Nat):List En:=if (mo l i).any Jw then mo l i else []
def ic (l:List En):Tb:=Vector.ofFn λi:Fin 8=>nk l i.val
def yS (l:List En) (i k:Nat):Bool:=((l.drop (8*i)).take k).any Jw
theorem La {l:List En} (d:l.length=64) (m:i<8) (h:k<8):∃E,l[8*i+k]?=some E/\(l.drop (8*i)).take (k+1)=(l.drop (8*i)).take k++[E]:=by
 refine⟨l[8*i+k]'(by omega),aH (by omega),?_⟩;rw[nO,qD,aH (by omega)];rfl
theorem EY {l:List En} (d:l.length=64) (m:i<8) (h:k<=8):((l.drop (8*i)).take k).length=k:=by
 simp;omega
structure Gw (l:List En) (i:Nat) (h:List En) (t:Tb):Prop where
 lo:∀j (hj:j<8),j<i->t[j]=nk l j
 at' : ∀(hi:i<8),t[i]=h
 hi:∀j (hj:j<8),i<j->t[j]=[]
theorem Gw.start {l:List En}:Gw l 0 [] zTb:=⟨λ_ _ h=>absurd h (fe _),λ_=>by simp[zTb],λj d _=>by simp[zTb]⟩
theorem Gw.next {l:List En} {t:Tb} (h:Gw l i (nk l i) t) (m:i<8):Gw l (i+1) [] t:=by
 refine⟨λj d a => ?_,λh2=>h.hi _ h2 (by omega),λj d a=>h.hi j d (by omega)⟩
 by_cases e:j=i
 ·subst e;exact h.at' d
 ·exact h.lo j d (by omega)
theorem Gw.set {l:List En} {h h2:List En} {t:Tb} (s:Gw l i h t) (p:i<8):Gw l i h2 (t.set i h2):=
 ⟨λj m d=>by rw[xL p m (by omega)];exact s.lo j m d,λ_=>by simp,λj m d=>by rw[xL p m (by omega)];exact s.hi j m d⟩
theorem Gw.fin {l:List En} {h:List En} {t:Tb} (m:Gw l 8 h t):t=ic l:=by
 apply xO;intro i d;rw[m.lo i d d];simp[ic]
theorem Vi {l:List En} (h:yS l i 8=false):nk l i=[]:=by
 unfold nk mo;unfold yS at h;rw[h];rfl
theorem Tv {l:List En} (h:yS l i 8=true):nk l i=(l.drop (8*i)).take 8:=by
 unfold nk mo;unfold yS at h;rw[h];rfl
structure Fi where
 n:Int
 b:List Int
 deriving DecidableEq
structure St where
 fs:List Fi
 count:Int
 deriving DecidableEq
theorem yx (h:n<=96):eY n<=12:=by unfold eY;split<;>omega
def iw (c:Int):List Int->List Int->Int
 | _,[]=>0
 | seen,b::r=>if b < -1\/c<=b then 3 else if 0<=b/\b∈seen then 7 else iw c (seen++[b]) r
def pz (c:Int):List Int->List Fi->Int
 | _,[]=>0
 | seen,f::r=>if f.n<0\/96<f.n then 3 else if (f.b.length:Int)≠eY f.n then 2 else if iw c seen f.b≠0 then iw c seen f.b else pz c (seen++f.b) r
theorem vJ (c:Int) (d:List Int) (b:Int) (r:List Int):iw c d (b::r)=if b < -1\/c<=b then 3 else if 0<=b/\b∈d then 7 else iw c (d++[b]) r:=rfl
def aR (s:St):Int:=if 5<s.fs.length\/s.count<0\/80<s.count then 4 else pz s.count [] s.fs
def tu (l:List Int) (j:Int):Bool:=decide (j∈l)
theorem Ev (l:List Int) (b:Int):(λi=>tu l i||decide (i=b))=tu (l++[b]):=by
 funext i;unfold tu;rw[ni];simp
theorem drop_at {α:Type} {l:List α} {x:α} (h:l[k]?=some x):l.drop k=x::l.drop (k+1):=by
 have d:=(cz.1 h).1;rw[wK d,(cz.1 h).2]
theorem take_at {α:Type} {l:List α} {x:α} (h:l[k]?=some x):l.take (k+1)=l.take k++[x]:=by
 rw[nO,h];rfl
def newE (n:Int):Int:=if n<0\/80<n then 4 else 0
def lK (s:St):List Int:=s.fs.flatMap Fi.b
def XF (l:List Int):Nat:=(l.filter λx=>decide (0<=x)).length
def za (s:St):Int:=s.count-XF (lK s)
def iD (s:St) (b:Int):Bool:=decide (b∈lK s)
theorem UK (l:List Int) (x:Int):l.any (λy=>decide (x=y))=decide (x∈l):=by
 rw[ni,jK,decide_eq_true_eq];constructor
 ·rintro⟨y,d,h⟩;rw[of_decide_eq_true h];exact d
 ·intro h;exact⟨x,h,decide_eq_true rfl⟩
def iy (s:St):Int:=match (List.range s.count.toNat).find? (λb:Nat => !iD s b) with
 | some b=>b
 | none => -1
theorem PH {s:St} (p:(b:Int)<s.count) (h:∀i:Nat,i<b->iD s i=true) (m:iD s b=false):iy s=b:=by
 unfold iy;have:(List.range s.count.toNat).find? (λb:Nat => !iD s b)=some b:=by rw[List.find?_range_eq_some];exact⟨by simp[m],eG.2 (by omega),λj d=>by simp[h j d]⟩
 rw[this]
theorem Lj {s:St} (h:∀i:Nat,(i:Int)<s.count->iD s i=true):iy s = -1:=by
 unfold iy;have:(List.range s.count.toNat).find? (λb:Nat => !iD s b)=none:=by rw[qI];intro i d;have:=eG.1 d;simp[h i (by omega)]
 rw[this]
def zSt:St:=⟨[],0⟩
theorem mr {s:St} (h:aR s=0):s.fs.length<=5/\0<=s.count/\s.count<=80:=by
 unfold aR at h
 by_cases g:5<s.fs.length\/s.count<0\/80<s.count
 ·rw[if_pos g] at h;cases h
 ·omega
theorem EW {c:Int}:∀ {fs:List Fi} {d:List Int},pz c d fs=0->∀f∈fs,0<=f.n/\f.n<=96/\(f.b.length:Int)=eY f.n/\∀b∈f.b,-1<=b/\b<c
 | f0::r,d,h,f,hf=>by
  unfold pz at h
  by_cases A:f0.n<0\/96<f0.n
  ·rw[if_pos A] at h;cases h
  rw[if_neg A] at h
  by_cases u:(f0.b.length:Int)≠eY f0.n
  ·rw[if_pos u] at h;cases h
  rw[if_neg u] at h
  by_cases p:iw c d f0.b≠0
  ·rw[if_pos p] at h;exact absurd h p
  rw[if_neg p] at h;rcases dw.1 hf with rfl|hf
  ·refine⟨by omega,by omega,qL.1 u,?_⟩;have s:∀(l:List Int) (sn:List Int),iw c sn l=0->∀b∈l,-1<=b/\b<c:=by
    intro l
    induction l with
    | nil=>intro _ _ b m;cases m
    | cons x r ih=>
     intro sn h b m;rw[vJ] at h
     by_cases k1:x < -1\/c<=x
     ·rw[if_pos k1] at h;cases h
     rw[if_neg k1] at h
     by_cases z:0<=x/\x∈sn
     ·rw[if_pos z] at h;cases h
     rw[if_neg z] at h;rcases dw.1 m with rfl|m
     ·omega
     ·exact ih _ h b m
   exact s _ _ (qL.1 p)
  ·exact EW h f hf
theorem Ak {s:St} (h:aR s=0):∀f∈s.fs,0<=f.n/\f.n<=96/\(f.b.length:Int)=eY f.n/\∀b∈f.b,-1<=b/\b<s.count:=by
 have d:=mr h;unfold aR at h;rw[if_neg (by omega)] at h;exact EW h
def aS (s:St) (k:Int):Fi:=if 0<=k then s.fs.getD k.toNat ⟨0,[]⟩ else ⟨0,[]⟩
def Am (s:St) (k:Int) (f:Fi):St:=⟨s.fs.set k.toNat f,s.count⟩
def bM (s:St) (k i:Int):Int:=(aS s k).b.getD i.toNat 0
def dG (s:St) (k i:Int):Int:=
 if aR s≠0 then aR s else if k<0\/(s.fs.length:Int)<=k then 5 else if i<0\/((aS s k).b.length:Int)<=i then 9
 else if bM s k i<0/\iy s<0 then 10 else 0
def eH (s:St) (k i:Int):Int:=if dG s k i≠0 then 0 else if bM s k i<0 then iy s else bM s k i
def eB (s:St) (k i:Int):St:=if dG s k i≠0 then zSt else if bM s k i<0 then Am s k ⟨(aS s k).n,(aS s k).b.set i.toNat (iy s)⟩ else s
theorem yn {s:St} {k i e:Int} (h:dG s k i=e) (d:e≠0):dG s k i=e/\eH s k i=0/\eB s k i=zSt:=by
 refine⟨h,?_,?_⟩
 ·unfold eH;rw[if_pos (by rw[h];exact d)]
 ·unfold eB;rw[if_pos (by rw[h];exact d)]
theorem Pm {s:St} (h:s.count<=80):iy s<80/\-1<=iy s:=by
 unfold iy;cases hf:(List.range s.count.toNat).find? (λb:Nat => !iD s b) with
 | none=>simp
 | some b=>
  have:=eG.1 (rC hf);simp;omega
def lm (l:List Int):List Int:=l.filter λx=>decide (0<=x)
theorem vo (l m:List Int):lm (l++m)=lm l++lm m:=rE _ _
theorem jH {x:Int}:x∈lm l↔x∈l/\0<=x:=by unfold lm;simp
theorem BX {c:Int}:∀ {l d:List Int},iw c d l=0↔(∀b∈l,-1<=b/\b<c)/\(lm l).Nodup/\∀b∈l,0<=b->¬b∈d
 | [],d=>by simp[iw,lm]
 | x::r,d=>by
  rw[vJ]
  by_cases k1:x < -1\/c<=x
  ·rw[if_pos k1];refine⟨λh=>(by cases h),λh => ?_⟩;have:=h.1 x iL;omega
  rw[if_neg k1]
  by_cases z:0<=x/\x∈d
  ·rw[if_pos z];refine⟨λh=>(by cases h),λh=>absurd z.2 (h.2.2 x iL z.1)⟩
  rw[if_neg z,BX (l:=r)];have A:lm (x::r)=if 0<=x then x::lm r else lm r:=by unfold lm;rw[vD];simp
  rw[A];constructor
  ·intro ⟨h1,h2,h3⟩;refine⟨λb m => ?_,?_,λb m s p => ?_⟩
   ·rcases dw.1 m with rfl|m
    ·omega
    ·exact h1 b m
   ·by_cases u:0<=x
    ·rw[if_pos u];refine tF.2 ⟨λD => ?_,h2⟩;exact h3 x (jH.1 D).1 u (uM _ (bC.2 rfl))
    ·rw[if_neg u];exact h2
   rcases dw.1 m with rfl|m
   ·exact z ⟨s,p⟩
   ·exact h3 b m s (pO _ p)
  intro ⟨h1,h2,h3⟩;refine⟨λb m=>h1 b (jV _ m),?_,λb m s p => ?_⟩
  ·by_cases u:0<=x
   ·rw[if_pos u] at h2;exact (tF.1 h2).2
   ·rw[if_neg u] at h2;exact h2
  rcases gP.1 p with p|p
  ·exact h3 b (jV _ m) s p
  rw[bC.1 p] at m s;rw[if_pos s] at h2;exact (tF.1 h2).1 (jH.2 ⟨m,s⟩)
def EP (c:Int) (f:Fi):Prop:=0<=f.n/\f.n<=96/\(f.b.length:Int)=eY f.n/\∀b∈f.b,-1<=b/\b<c
theorem Ga {c:Int}:∀ {fs:List Fi} {d:List Int},pz c d fs=0↔(∀f∈fs,EP c f)/\(lm (fs.flatMap Fi.b)).Nodup/\∀b∈fs.flatMap Fi.b,0<=b->¬b∈d
 | [],d=>by simp[pz,lm]
 | f::r,d=>by
  unfold pz
  by_cases E:f.n<0\/96<f.n
  ·rw[if_pos E];refine⟨λh=>(by cases h),λh => ?_⟩;have:=h.1 f iL;unfold EP at this;omega
  rw[if_neg E]
  by_cases D:(f.b.length:Int)≠eY f.n
  ·rw[if_pos D];exact⟨λh=>(by cases h),λh=>absurd (h.1 f iL).2.2.1 D⟩
  rw[if_neg D,nX,vo]
  by_cases A:iw c d f.b≠0
  ·rw[if_pos A];refine⟨λh=>absurd h A,λh=>absurd (BX.2 ⟨(h.1 f iL).2.2.2,(ym.1 h.2.1).1,λb m=>h.2.2 b (pO _ m)⟩) A⟩
  rw[if_neg A,Ga (fs:=r)];have s:=BX.1 (qL.1 A);constructor
  ·intro ⟨h1,h2,h3⟩;refine⟨λx z => ?_,ym.2 ⟨s.2.1,h2,λa H b m e => ?_⟩,λb m u p => ?_⟩
   ·rcases dw.1 z with rfl|z
    ·exact⟨by omega,by omega,qL.1 D,s.1⟩
    ·exact h1 x z
   ·subst e;exact h3 a (jH.1 m).1 (jH.1 m).2 (uM _ (jH.1 H).1)
   rcases gP.1 m with m|m
   ·exact s.2.2 b m u p
   ·exact h3 b m u (pO _ p)
  intro ⟨h1,h2,h3⟩;obtain⟨M,G,F⟩:=ym.1 h2;refine⟨λx z=>h1 x (jV _ z),G,λb m u p => ?_⟩;rcases gP.1 p with p|p
  ·exact h3 b (uM _ m) u p
  ·exact F b (jH.2 ⟨p,u⟩) b (jH.2 ⟨m,u⟩) rfl
theorem mF {s:St}:aR s=0↔(s.fs.length<=5/\0<=s.count/\s.count<=80)/\(∀f∈s.fs,EP s.count f)/\(lm (lK s)).Nodup:=by
 unfold aR
 by_cases g:5<s.fs.length\/s.count<0\/80<s.count
 ·rw[if_pos g];exact⟨λh=>(by cases h),λh=>by omega⟩
 rw[if_neg g,Ga];exact⟨λh=>⟨by omega,h.1,h.2.1⟩,λh=>⟨h.2.1,h.2.2,λb _ _ d=>by cases d⟩⟩
def xe (N:Nat) (seen:List Int):List Bool:=(List.range N).map λi:Nat=>decide ((i:Int)∈seen)
theorem Ab (N:Nat) (d:List Int):(xe N d).length=N:=by simp[xe]
theorem Ud (N:Nat):xe N []=List.replicate N false:=by
 apply pE;intro i;unfold xe
 by_cases d:i<N
 ·simp[d,pV]
 ·rw[fw (by simp;omega),fw (by simp;omega)]
theorem IX (N:Nat) (d:List Int) (i:Nat) (h:i<N):(xe N d)[i]?=some (decide ((i:Int)∈d)):=by simp[xe,h]
theorem SK (N:Nat) (d:List Int) (x:Int) (h:x<0):xe N (d++[x])=xe N d:=by
 unfold xe;apply AR;intro i _;have:¬(i:Int)=x:=by omega
 simp[this]
theorem TI (N:Nat) (d:List Int) (X:Nat) (m:X<N):(xe N d).set X true=xe N (d++[(X:Int)]):=by
 apply pE;intro i
 by_cases h:i<N
 ·rw[IX N _ i h,nR]
  by_cases e:X=i
  ·subst e;rw[if_pos rfl,if_pos (by rw[Ab];exact h)];simp
  rw[if_neg e,IX N _ i h];have:¬(i:Int)=(X:Int):=by omega
  simp[this]
 ·rw[fw (by simp[Ab];omega),fw (by simp[Ab];omega)]
structure Ar where
 fr:Int
 en:Int
 rd:Bool
 wr:Bool
 sh:Bool
 fi:Int
 ba:Int
 deriving DecidableEq
def aV (a:Ar):Int:=if a.fr<0\/a.en<=a.fr\/64<a.en\/a.fi < -1\/5<=a.fi\/a.ba<0 then 3 else if (a.fi<0/\(a.ba≠0\/a.sh=true))\/0<=a.fi/\12-(a.en-a.fr)<a.ba then 7 else 0
def kG (a:Ar):Int:=if 0<=a.fi then a.ba+a.en-a.fr else 0
def dM (a b:Ar):Bool:=a.en==b.fr&&a.rd==b.rd&&a.wr==b.wr&&a.sh==b.sh&&a.fi==b.fi&&b.ba==kG a
def uU (a:Ar):Prop:=(0<=a.ba/\a.ba<=12)/\(0<=a.fr/\a.fr<=64)/\0<=a.en/\a.en<=64
theorem bL {a:Ar} (h:aV a=0):uU a/\a.fr<a.en/\-1<=a.fi/\a.fi<5/\(a.fi<0->a.ba=0/\a.sh=false)/\(0<=a.fi->a.ba<=12-(a.en-a.fr)):=by
 unfold aV at h;split at h
 ·omega
 rename_i s;split at h
 ·omega
 rename_i h2;have m:a.fi<0->a.ba=0/\a.sh=false:=λd=>⟨AO λh=>h2 (.inl ⟨d,.inl h⟩),by
  cases hsh:a.sh
  ·rfl
  ·exact absurd (.inl ⟨d,.inr hsh⟩) h2⟩
 have p:0<=a.fi->a.ba<=12-(a.en-a.fr):=λd=>by omega
 unfold uU;refine⟨⟨⟨by omega,?_⟩,by omega,by omega,by omega⟩,by omega,by omega,by omega,m,p⟩
 by_cases d:a.fi<0
 ·have:=(m d).1;omega
 ·have:=p (by omega);omega
def jP (p:Option Ar) (i:Nat):List Ar->Int × Int
 | []=>(0,0)
 | a::r=>if aV a≠0 then (aV a,i) else if (match p with | some q=>decide (a.fr<q.en)||dM q a | none=>false) then (2,i) else jP (some a) (i+1) r
def bQ (l:List Ar):Int × Int:=if 16<l.length then (4,0) else jP none 0 l
def qy (l:List Ar) (k:Nat):Option Ar:=if k=0 then none else l[k-1]?
theorem Fg {l:List Ar} (d:k<l.length):qy l (k+1)=some l[k]:=by simp[qy,d]
def wM (p:Option Ar) (a:Ar):Bool:=match p with | some q=>decide (a.fr<q.en)||dM q a | none=>false
theorem oM (p:Option Ar) (i:Nat) (a:Ar) (r:List Ar):jP p i (a::r)=if aV a≠0 then (aV a,(i:Int)) else if wM p a then (2,(i:Int)) else jP (some a) (i+1) r:=rfl
theorem vE {l:List Ar} (d:k<l.length) (m:aV l[k]=0) (h:wM (qy l k) l[k]=false):jP (qy l k) k (l.drop k)=jP (qy l (k+1)) (k+1) (l.drop (k+1)):=by
 rw[wK d,oM,if_neg (by rw[m];simp),h,Fg d];rfl
theorem vH {l:List Ar} (h:k<l.length) (m:aV l[k]=0) (d:wM (qy l k) l[k]=true):jP (qy l k) k (l.drop k)=(2,(k:Int)):=by
 rw[wK h,oM,if_neg (by rw[m];simp),d];rfl
theorem HY {l:List Ar} (d:k<l.length) (h:aV l[k]≠0):jP (qy l k) k (l.drop k)=(aV l[k],(k:Int)):=by
 rw[wK d,oM,if_pos h]
theorem Lc {l:List Ar} {m:Nat} (d:m+1<l.length):wM (qy l (m+1)) l[m+1]=(decide (l[m+1].fr<l[m].en)||dM l[m] l[m+1]):=by
 rw[Fg (show m<l.length by omega)];rfl
def pF (n:Int) (a:Ar):Bool:=decide (a.fr<=n)&&decide (n<a.en)
def gU (l:List Ar) (n:Int):Int:=idx (pF n) l
def qJ (b a:Ar):Bool:=decide (a.fr<b.en)&&decide (b.fr<a.en)
def Bf (b a:Ar):Bool:=decide (b.fr<a.fr)
def zAr:Ar:=⟨0,0,false,false,false,0,0⟩
def AQ (acc:List Ar) (a:Ar):List Ar:=match acc.getLast? with
 | some q=>if dM q a then acc.set (acc.length-1) { q with en:=a.en } else acc++[a]
 | none=>acc++[a]
def uw (l:List Ar):List Ar:=l.foldl AQ []
theorem yI {l:List Ar} (h:(bQ l).1=0):l.length<=16/\∀a∈l,aV a=0:=by
 unfold bQ at h;split at h
 ·exact absurd h (by decide)
 refine⟨by omega,?_⟩;have m:∀(l:List Ar) (p:Option Ar) (i:Nat),(jP p i l).1=0->∀a∈l,aV a=0:=by
  intro l
  induction l with
  | nil=>intro p i _ a d;cases d
  | cons b r ih=>
   intro p i h a d;rw[oM] at h;split at h
   ·rename_i s;exact absurd h s
   rename_i s;split at h
   ·exact absurd (show (2:Int)=0 from h) (by decide)
   rcases dw.1 d with rfl|d
   ·exact AO s
   ·exact ih _ _ h a d
 exact m l none 0 h
def Wl (l:List Ar) (x:Ar):Nat:=match l.findIdx? (Bf x) with
 | some k=>k
 | none=>l.length
def EU (l:List Ar) (x:Ar):List Ar:=l.take (Wl l x)++x::l.drop (Wl l x)
def Bv (l:List Ar) (x:Ar):Int:=if (bQ l).1≠0 then (bQ l).1 else if aV x≠0 then aV x else if l.any (qJ x)=true then 6 else if 16<(uw (EU l x)).length then 4 else 0
def yT (l:List Ar) (x:Ar):List Ar:=if Bv l x≠0 then [] else uw (EU l x)
theorem Ic {l:List Ar} {x:Ar} {e:Int} (h:Bv l x=e) (d:e≠0):Bv l x=e/\yT l x=[]:=by
 refine⟨h,?_⟩;unfold yT;rw[if_pos (by rw[h];exact d)]
def Ej (n:Nat):Int:=if 16<n then 4 else 0
def aa:Ar:=⟨2,8,true,false,false,-1,0⟩
structure Pg where
 rd:Bool
 wr:Bool
 sh:Bool
 fi:Int
 pg:Int
 deriving DecidableEq
def kN (a:Ar) (n:Int):Pg:=⟨a.rd,a.wr,a.sh,a.fi,if 0<=a.fi then a.ba+n-a.fr else 0⟩
def onA:List Ar->Int->Option Pg
 | [],_=>none
 | a::r,n=>if pF n a then some (kN a n) else onA r n
theorem dN {a:Ar}:pF n a=true↔a.fr<=n/\n<a.en:=by unfold pF;simp
theorem dm (a:Ar) (r:List Ar) (n:Int):onA (a::r) n=if pF n a then some (kN a n) else onA r n:=rfl
theorem Im (l m:List Ar) (n:Int):onA (l++m) n=(onA l n).or (onA m n):=by
 induction l with
 | nil=>simp[onA]
 | cons a r ih=>rw[Iu,dm,dm];split<;>simp[ih]
def srtF:Int->List Ar->Prop
 | _,[]=>True
 | lo,a::r=>aV a=0/\lo<=a.fr/\srtF a.en r
theorem srtF_ok:∀ {l:List Ar} {lo:Int},srtF lo l->∀a∈l,aV a=0/\lo<=a.fr
 | b::r,lo,h,a,ha=>by
  rcases dw.1 ha with rfl|ha
  ·exact⟨h.1,h.2.1⟩
  have d:=srtF_ok h.2.2 a ha;have h2:=(bL h.1).2.1;have m:=h.2.1;exact⟨d.1,by omega⟩
theorem on_low:∀ {l:List Ar} {lo n:Int},srtF lo l->n<lo->onA l n=none
 | [],_,_,_,_=>rfl
 | a::r,lo,n,h,hn=>by have d:=h.2.1;have h2:=(bL h.1).2.1;rw[dm,if_neg (by rw[dN];omega)];exact on_low h.2.2 (by omega)
def okF (p:Option Ar):List Ar->Prop
 | []=>True
 | a::r=>aV a=0/\wM p a=false/\okF (some a) r
theorem AX {q a:Ar}:wM (some q) a=false↔q.en<=a.fr/\dM q a=false:=by
 unfold wM;simp
theorem okF_srt:∀ {l:List Ar} {q:Ar},okF (some q) l->srtF q.en l
 | [],_,_=>trivial
 | a::r,q,h=>⟨h.1,(AX.1 h.2.1).1,okF_srt h.2.2⟩
theorem nG {l:List Ar} (h:okF none l):srtF 0 l:=by
 match l,h with
 | [],_=>trivial
 | a::r,h=>exact⟨h.1,by have:=(bL h.1).1.2.1.1;exact this,okF_srt h.2.2⟩
theorem wrongAt_iff:∀ {l:List Ar} {p:Option Ar} {i:Nat},(jP p i l).1=0↔okF p l
 | [],_,_=>⟨λ_=>trivial,λ_=>rfl⟩
 | a::r,p,i=>by
  rw[oM]
  by_cases h:aV a=0
  ·rw[if_neg (by rw[h];simp)];cases hb:wM p a
   ·rw[if_neg (by simp),wrongAt_iff];exact⟨λh2=>⟨h,hb,h2⟩,λh2=>h2.2.2⟩
   rw[if_pos rfl];refine⟨λh2=>absurd (show (2:Int)=0 from h2) (by decide),λh2 => ?_⟩;have d:=h2.2.1;rw[hb] at d;cases d
  rw[if_pos h];exact⟨λh2=>absurd h2 h,λh2=>absurd h2.1 h⟩
theorem jM {l:List Ar}:(bQ l).1=0↔l.length<=16/\okF none l:=by
 unfold bQ
 by_cases h:16<l.length
 ·rw[if_pos h];exact⟨λh2=>absurd (show (4:Int)=0 from h2) (by decide),λh2=>by omega⟩
 rw[if_neg h,wrongAt_iff];exact⟨λh2=>⟨by omega,h2⟩,λh2=>h2.2⟩
theorem vv {q a:Ar}:dM q a=true↔q.en=a.fr/\q.rd=a.rd/\q.wr=a.wr/\q.sh=a.sh/\q.fi=a.fi/\a.ba=kG q:=by
 unfold dM;simp[and_assoc]
theorem Sq {q a:Ar} (h:dM q a=true) (n:Int):kN a n=kN q n:=by
 obtain⟨z,h2,u,s,p,m⟩:=vv.1 h;unfold kN kG at *
 rw[<-h2,<-u,<-s,<-p];split
 ·rename_i d;rw[m,if_pos d];congr 1;omega
 ·rfl
theorem on_uniq:∀ {l m:List Ar} {p q:Option Ar},okF p l->okF q m->(∀n,onA l n=onA m n)->l=m
 | [],[],_,_,_,_,_=>rfl
 | [],b::s,_,_,_,hm,h=>by have:=h b.fr;rw[dm,if_pos (dN.2 ⟨tX _,(bL hm.1).2.1⟩)] at this;cases this
 | a::r,[],_,_,hl,_,h=>by have:=h a.fr;rw[dm,if_pos (dN.2 ⟨tX _,(bL hl.1).2.1⟩)] at this;cases this
 | a::r,b::s,p,q,hl,hm,h=>by
  have ea:=bL hl.1;have eb:=bL hm.1;have U:=okF_srt hl.2.2;have S:=okF_srt hm.2.2;have A:∀ {a b:Ar} {r s:List Ar},aV a=0->aV b=0->srtF a.en r->srtF b.en s->(∀n,onA (a::r) n=onA (b::s) n)->¬a.fr<b.fr:=by intro a b r s ha hb D hs h F;have d:=h a.fr;have h2:=(bL ha).2.1;have h3:=(bL hb).2.1;rw[dm,if_pos (dN.2 ⟨tX _,h2⟩),dm,if_neg (by rw[dN];omega),on_low hs (by omega)] at d;cases d
  have G:a.fr=b.fr:=by have d:=A hl.1 hm.1 U S h;have h2:=A hm.1 hl.1 S U (λn=>(h n).symm);omega
  have d:=h a.fr;rw[dm,if_pos (dN.2 ⟨tX _,ea.2.1⟩),dm,if_pos (dN.2 ⟨by omega,by have:=eb.2.1;omega⟩)] at d;have E:=aM d;unfold kN at E;simp only[Pg.mk.injEq] at E;obtain⟨R,O,N,g4,g5⟩:=E;have H:a.ba=b.ba:=by
   by_cases M:0<=a.fi
   ·rw[if_pos M,if_pos (by omega)] at g5;omega
   ·rw[(ea.2.2.2.2.1 (by omega)).1,(eb.2.2.2.2.1 (by omega)).1]
  have z:∀ {a b:Ar} {r s:List Ar},aV a=0->aV b=0->okF (some a) r->a.fr=b.fr->a.rd=b.rd->a.wr=b.wr->a.sh=b.sh->a.fi=b.fi->a.ba=b.ba->(∀n,onA (a::r) n=onA (b::s) n)->¬a.en<b.en:=by
   intro a b r s ha hb D k1 k2 k3 k4 k5 k6 h F;have d:=h a.en;have h2:=(bL ha).2.1;rw[dm,if_neg (by rw[dN];omega),dm,if_pos (dN.2 ⟨by omega,F⟩)] at d
   match r,D with
   | [],_=>cases d
   | c::t,D=>
    have hc:=AX.1 D.2.1;rw[dm] at d;split at d
    ·rename_i u;rw[dN] at u;have X:=aM d;unfold kN at X;simp only[Pg.mk.injEq] at X;obtain⟨R,O,N,g4,g5⟩:=X;have:dM a c=true:=by
      rw[vv];refine⟨by omega,by rw[k2,R],by rw[k3,O],by rw[k4,N],by omega,?_⟩;unfold kG
      by_cases M:0<=a.fi
      ·rw[if_pos (by omega),if_pos (by omega)] at g5;rw[if_pos M];omega
      rw[if_neg M];exact ((bL D.1).2.2.2.2.1 (by omega)).1
     rw[hc.2] at this;cases this
    rename_i u;rw[dN] at u;have:=(bL D.1).2.1;rw[on_low (okF_srt D.2.2) (by omega)] at d;cases d
  have hen:a.en=b.en:=by have d:=z hl.1 hm.1 hl.2.2 G R O N g4 H h;have h2:=z hm.1 hl.1 hm.2.2 G.symm R.symm O.symm N.symm g4.symm H.symm (λn=>(h n).symm);omega
  have hab:a=b:=by
   cases a;cases b
   simp_all
  subst hab;congr 1;refine on_uniq hl.2.2 hm.2.2 λn => ?_;have d:=h n;rw[dm,dm] at d;split at d
  ·rename_i u;rw[dN] at u;rw[on_low U (by omega),on_low S (by omega)]
  ·exact d
def uO (q:Ar):List Ar->List Ar
 | []=>[q]
 | a::r=>if dM q a then uO { q with en:=a.en } r else q::uO a r
theorem JI (d:List Ar) (q a:Ar):AQ (d++[q]) a=if dM q a then d++[{ q with en:=a.en }] else d++[q]++[a]:=by
 unfold AQ;rw[CR];simp only[];split
 ·simp
 ·rfl
theorem tidy_go:∀(r:List Ar) (d:List Ar) (q:Ar),r.foldl AQ (d++[q])=d++uO q r
 | [],d,q=>rfl
 | a::r,d,q=>by
  rw[Ba,JI];unfold uO;split
  ·exact tidy_go r d _
  ·rw[tidy_go r (d++[q]) a,jG];rfl
theorem yX (a:Ar) (r:List Ar):uw (a::r)=uO a r:=by
 unfold uw;rw[Ba];exact tidy_go r [] a
theorem Cr {q a:Ar} (s:aV q=0) (u:aV a=0) (h:dM q a=true):aV { q with en:=a.en }=0:=by
 obtain⟨F,h2,E,D,A,d⟩:=vv.1 h;have m:=bL s;have p:=bL u;unfold uU at m p;unfold aV;rw[if_neg (by simp only[];omega),if_neg];simp only[];rintro (⟨k1,k2⟩|⟨k1,k2⟩)
 ·have:=m.2.2.2.2.1 k1;rcases k2 with k2|k2
  ·exact k2 this.1
  ·rw[this.2] at k2;cases k2
 have z:=p.2.2.2.2.2 (by omega);unfold kG at d;rw[if_pos k1] at d;omega
theorem Te {q a:Ar} {r:List Ar} (p:aV q=0) (u:aV a=0) (h:dM q a=true) (n:Int):onA ({ q with en:=a.en }::r) n=onA (q::a::r) n:=by
 have s:=Sq h n;obtain⟨A,_⟩:=vv.1 h;have h2:=(bL p).2.1;have z:=(bL u).2.1;rw[dm,dm,dm];have b:kN { q with en:=a.en } n=kN q n:=rfl
 by_cases m:pF n q=true
 ·rw[if_pos m,if_pos (by rw[dN] at m ⊢; simp only[];omega),b]
 rw[if_neg m]
 by_cases d:pF n a=true
 ·rw[if_pos d,if_pos (by rw[dN] at d ⊢; simp only[];omega),b,s]
 rw[if_neg d,if_neg];rw[dN] at m d ⊢;simp only[];omega
theorem tdOn:∀ {r:List Ar} {q:Ar},aV q=0->srtF q.en r->∀n,onA (uO q r) n=onA (q::r) n
 | [],q,_,_,n=>rfl
 | a::r,q,hq,h,n=>by
  unfold uO;split
  ·rename_i d;rw[tdOn (Cr hq h.1 d) (by simpa using h.2.2) n,Te hq h.1 d]
  ·rw[dm,tdOn h.1 h.2.2 n,<-dm]
theorem tdOk:∀ {r:List Ar} {q:Ar} {p:Option Ar},aV q=0->srtF q.en r->wM p q=false->okF p (uO q r)
 | [],q,p,hq,_,hb=>⟨hq,hb,trivial⟩
 | a::r,q,p,hq,h,hb=>by
  unfold uO;split
  ·rename_i d;refine tdOk (Cr hq h.1 d) (by simpa using h.2.2) ?_;cases p with
   | none=>rfl
   | some z=>exact hb
  rename_i d;exact⟨hq,hb,tdOk h.1 h.2.2 (AX.2 ⟨h.2.1,by simpa using d⟩)⟩
theorem Ju {l:List Ar} (h:srtF lo l) (n:Int):onA (uw l) n=onA l n:=by
 match l,h with
 | [],_=>rfl
 | a::r,h=>rw[yX,tdOn h.1 h.2.2]
theorem IV {l:List Ar} (h:srtF lo l):okF none (uw l):=by
 match l,h with
 | [],_=>trivial
 | a::r,h=>rw[yX];exact tdOk h.1 h.2.2 rfl
def Nw (x:Ar):List Ar->List Ar
 | []=>[x]
 | a::r=>if x.fr<a.fr then x::a::r else a::Nw x r
theorem DD (x:Ar):∀l:List Ar,EU l x=Nw x l
 | []=>rfl
 | a::r=>by
  have d:=DD x r;unfold EU Wl at d ⊢;unfold Nw;rw[zZ]
  by_cases h:x.fr<a.fr
  ·rw[if_pos h,if_pos (show Bf x a=true from decide_eq_true h)];rfl
  rw[if_neg h,if_neg (show ¬Bf x a=true by unfold Bf;simpa using h)];cases hq:r.findIdx? (Bf x) with
  | none=>rw[hq] at d;simp only[Jg] at *; rw[<-d];simp
  | some k=>rw[hq] at d;simp only[ru] at *; rw[<-d];simp
theorem Ji {x:Ar} (p:aV x=0) (n:Int):∀ {l:List Ar} {lo:Int},srtF lo l->(∀a∈l,qJ x a=false)->onA (Nw x l) n=if pF n x then some (kN x n) else onA l n
 | [],_,_,_=>rfl
 | a::r,lo,h,hm=>by
  unfold Nw;split
  ·rfl
  rename_i s;rw[dm,dm,Ji p n h.2.2 (λb u=>hm b (jV _ u))]
  by_cases m:pF n a=true
  ·rw[if_pos m,if_pos m];rw[if_neg];rw[dN] at m ⊢;have d:=hm a iL;unfold qJ at d;have h2:=(bL p).2.1;have z:=(bL h.1).2.1;simp only[Jh,decide_eq_false_iff_not] at d;omega
  ·rw[if_neg m,if_neg m]
theorem EI {x:Ar} (m:aV x=0):∀ {l:List Ar} {lo:Int},srtF lo l->lo<=x.fr->(∀a∈l,qJ x a=false)->srtF lo (Nw x l)
 | [],lo,_,hl,_=>⟨m,hl,trivial⟩
 | a::r,lo,h,hl,hm=>by
  have d:=hm a iL;unfold qJ at d;have h2:=(bL m).2.1;have u:=(bL h.1).2.1;simp only[Jh,decide_eq_false_iff_not] at d;unfold Nw;split
  ·exact⟨m,hl,h.1,by omega,h.2.2⟩
  rename_i p;exact⟨h.1,h.2.1,EI m h.2.2 (by omega) (λb s=>hm b (jV _ s))⟩
theorem RA {a:Ar} (h:aV a=0) {k:Int} (d:pF k a=true):0<=k/\k<64:=by
 have:=(bL h).1;unfold uU at this;rw[dN] at d;omega
theorem toList_map {α β:Type} (o:Option α) (f:α->β):(o.map f).toList=o.toList.map f:=by cases o<;>rfl
theorem yG (l:List Ar) (n:Int):(0<=gU l n)↔onA l n≠none:=by
 have h:=pu (pF n) l;have h2:l.any (pF n)=true↔onA l n≠none:=by
  induction l with
  | nil=>simp[onA]
  | cons a r ih=>rw[List.any_cons,dm];cases pF n a<;>simp[ih (pu _ _)]
 rw[<-h2,<-h,decide_eq_true_eq];exact Iff.rfl
def oR (o:Option Pg):Bool:=match o with | some p=>p.rd | none=>false
def oW (o:Option Pg):Bool:=match o with | some p=>p.wr | none=>false
def oH (o:Option Pg):Bool:=match o with | some p=>p.sh | none=>false
def oF (o:Option Pg):Int:=match o with | some p=>p.fi | none=>0
def oP (o:Option Pg):Int:=match o with | some p=>p.pg | none=>0
def Oh (f:Nat->Option Pg):List (Option Pg):=(List.range 64).map f
theorem xX (f:Nat->Option Pg):(Oh f).length=64:=by simp[Oh]
theorem UQ (f:Nat->Option Pg) (k:Nat) (x:Option Pg):(Oh f).set k x=Oh (λi=>if i=k then x else f i):=by
 unfold Oh;apply pE;intro i;rw[nR]
 by_cases h:k=i
 ·subst h
  by_cases d:k<64
  ·simp[d]
  ·simp[d]
 rw[if_neg h]
 by_cases m:i<64
 ·simp[m,ou h]
 ·simp[m]
def f0:Nat->Option Pg:=λ_=>none
def JO (A:Ar) (K:Int) (f:Nat->Option Pg):Nat->Option Pg:=λi=>if A.fr<=(i:Int)/\(i:Int)<K then some (kN A i) else f i
theorem Pv (A:Ar) (f:Nat->Option Pg):JO A A.fr f=f:=by funext i;unfold JO;rw[if_neg (by omega)]
theorem RN {A:Ar} (d:A.fr<=(K:Int)) (f:Nat->Option Pg):(λi=>if i=K then some (kN A K) else JO A K f i)=JO A ((K:Int)+1) f:=by
 funext i;unfold JO
 by_cases h:i=K
 ·subst h;rw[if_pos rfl,if_pos (by omega)]
 rw[if_neg h]
 by_cases c:A.fr<=(i:Int)/\(i:Int)<K
 ·rw[if_pos c,if_pos (by omega)]
 ·rw[if_neg c,if_neg (by omega)]
def dz (l:List Ar):Nat->Option Pg:=l.foldl (λf A=>JO A A.en f) f0
theorem Mt {l:List Ar} (d:k<l.length):dz (l.take (k+1))=JO l[k] l[k].en (dz (l.take k)):=by
 unfold dz;rw[nO,aH d,Option.toList_some,DR];rfl
def qE (p q:Pg):Pg:=if 0<=p.fi then { q with pg:=q.pg+1 } else q
def mX (f:Nat->Option Pg) (k:Nat) (p:Pg):Bool:=match k with
 | 0=>false
 | m+1=>match f m with
  | some q=>qE p q==p
  | none=>false
def gu (k:Nat) (p:Pg):Ar:=⟨k,(k:Int)+1,p.rd,p.wr,p.sh,p.fi,p.pg⟩
def xu (l:List Ar) (e:Int):List Ar:=match l.getLast? with
 | some q=>l.set (l.length-1) { q with en:=e }
 | none=>l
def lU (f:Nat->Option Pg):Nat->List Ar
 | 0=>[]
 | k+1=>match f k with
  | none=>lU f k
  | some p=>if mX f k p then xu (lU f k) ((k:Int)+1) else lU f k++[gu k p]
theorem Ho (l:List Ar) (e:Int):(xu l e).length=l.length:=by unfold xu;split<;>simp
theorem JC (f:Nat->Option Pg):∀k,(lU f k).length<=k
 | 0=>az _
 | k+1=>by
  have d:=JC f k;unfold lU;split
  ·omega
  split
  ·rw[Ho];omega
  ·rw[jf,De];omega
theorem Tu (f:Nat->Option Pg) {m:Nat} {q:Pg} (h:f m=some q):0<(lU f (m+1)).length:=by
 have a:∀k (q:Pg),f k=some q->0<(lU f (k+1)).length:=by
  intro k
  induction k with
  | zero=>intro q h;unfold lU;rw[h];simp[mX]
  | succ k ih=>
   intro q h;rw[lU,h];simp only[]
   by_cases d:mX f (k+1) q=true
   ·rw[if_pos d,Ho];cases hf:f k with
    | none=>
     have h2:mX f (k+1) q=false:=by simp only[mX,hf]
     rw[h2] at d;cases d
    | some z=>exact ih z hf
   ·rw[if_neg d,jf,De];omega
 exact a m q h
theorem WC (p q:Pg):(p==q)=(p.rd==q.rd&&(p.wr==q.wr&&(p.sh==q.sh&&(p.fi==q.fi&&p.pg==q.pg)))):=by
 cases p;cases q;rw[ni];simp
theorem SH {f:Nat->Option Pg} (h:f k=none):lU f (k+1)=lU f k:=by rw[lU,h]
theorem Sg {f:Nat->Option Pg} {p:Pg} (h:f k=some p) (d:mX f k p=true):lU f (k+1)=xu (lU f k) ((k:Int)+1):=by
 rw[lU,h];simp only[];rw[if_pos d]
theorem Dh {f:Nat->Option Pg} {p:Pg} (h:f k=some p) (d:mX f k p=false):lU f (k+1)=lU f k++[gu k p]:=by
 rw[lU,h];simp only[];rw[d];rfl
theorem Lh {l:List Ar} {n:Nat} (d:l.length=n+1) (e:Int):xu l e=l.set n { (l[n]'(by omega)) with en:=e }:=by
 unfold xu;have:l.getLast?=some (l[n]'(by omega)):=by rw[List.getLast?_eq_getElem?,aH (by omega)];simp[d]
 rw[this];simp[d]
theorem Pk {f:Nat->Option Pg} (h:f k=none):lU f (k+1)=lU f k:=by rw[lU,h]
theorem Vk {f:Nat->Option Pg} {p:Pg} (h:f k=some p) (d:mX f k p=true):lU f (k+1)=xu (lU f k) ((k:Int)+1):=by
 rw[lU,h];simp only[];rw[if_pos d]
theorem Sk {f:Nat->Option Pg} {p:Pg} (h:f k=some p) (d:mX f k p=false):lU f (k+1)=lU f k++[gu k p]:=by
 rw[lU,h];simp only[];rw[d];rfl
def Py (p:Pg):Prop:=-1<=p.fi/\p.fi<5/\0<=p.pg/\(p.fi<0->p.pg=0/\p.sh=false)/\(0<=p.fi->p.pg<=11)
theorem Dc {l:List Ar} (h:∀a∈l,a.en<=n):onA l n=none:=by
 induction l with
 | nil=>rfl
 | cons a r ih=>
  have:=h a iL;rw[dm,if_neg (by rw[dN];omega),ih (λb d=>h b (jV _ d))]
theorem Tk {l:List Ar} {a:Ar} (h:a∈l) (d:pF n a=true):onA l n≠none:=by
 induction l with
 | nil=>cases h
 | cons b r ih=>
  rw[dm];split
  ·simp
  rename_i m;rcases dw.1 h with rfl|h
  ·exact absurd d m
  ·exact ih h
theorem KY {x y:Ar} (d:aV y=0) (m:∀p,wM p x=false->wM p y=false):∀ {l:List Ar} {p:Option Ar},okF p (l++[x])->okF p (l++[y])
 | [],p,h=>⟨d,m p h.2.1,trivial⟩
 | a::r,p,h=>⟨h.1,h.2.1,KY d m h.2.2⟩
theorem Lv {x y:Ar} (d:aV y=0) (m:wM (some x) y=false):∀ {l:List Ar} {p:Option Ar},okF p (l++[x])->okF p (l++[x]++[y])
 | [],p,h=>⟨h.1,h.2.1,d,m,trivial⟩
 | a::r,p,h=>⟨h.1,h.2.1,Lv d m h.2.2⟩
theorem Bz {x:Ar}:∀ {l:List Ar} {p:Option Ar},okF p (l++[x])->aV x=0
 | [],p,h=>h.1
 | a::r,p,h=>Bz h.2.2
theorem QB (s:k<64) {p:Pg} (d:Py p):aV (gu k p)=0:=by
 obtain⟨z,h2,u,m,h⟩:=d;unfold aV gu;simp only[];rw[if_neg (by omega),if_neg];rintro (⟨a,b⟩|⟨a,b⟩)
 ·have:=m a;rcases b with b|b
  ·exact b this.1
  ·rw[this.2] at b;cases b
 ·have:=h a;omega
theorem PL {a:Ar} {m:Nat} {p:Pg} (h:qE p (kN a m)=p):kN a ((m:Int)+1)=p:=by
 unfold qE at h
 by_cases d:0<=p.fi
 ·rw[if_pos d] at h;have b:a.fi=p.fi:=by rw[<-h];rfl
  rw[<-h];unfold kN;simp only[];rw[if_pos (by omega),if_pos (by omega)];congr 1;omega
 rw[if_neg d] at h;have b:a.fi=p.fi:=by rw[<-h];rfl
 rw[<-h];unfold kN;rw[if_neg (by omega),if_neg (by omega)]
structure WN (f:Nat->Option Pg) (k:Nat):Prop where
 ok:okF none (lU f k)
 en:∀a∈lU f k,a.en<=(k:Int)
 on:∀i:Nat,i<k->onA (lU f k) i=f i
 last:∀m q,k=m+1->f m=some q->∃init a,lU f k=init++[a]/\a.en=(k:Int)/\a.fr<=(m:Int)/\kN a m=q
theorem Rh {f:Nat->Option Pg} (hf:∀i p,i<64->f i=some p->Py p):∀k,k<=64->WN f k
 | 0,_=>⟨trivial,λa H=>(by cases H),λi hi=>absurd hi (fe _),λm q h=>(by cases h)⟩
 | k+1,hk=>by
  have M:=Rh hf k (by omega);have R:=M.en;cases hfk:f k with
  | none=>
   have d:=Pk hfk;refine⟨by rw[d];exact M.ok,λa H=>by rw[d] at H;have:=R a H;omega,λi hi => ?_,λm q hm hq => ?_⟩
   ·rw[d]
    by_cases u:i=k
    ·subst u;rw[hfk];exact Dc R
    ·exact M.on i (by omega)
   obtain rfl:m=k:=by omega
   rw[hfk] at hq;cases hq
  | some p=>
   have hp:=hf k p (by omega) hfk;cases hs:mX f k p
   ·have d:=Sk hfk hs;have hx:=QB (by omega:k<64) hp;have F:okF none (lU f (k+1)):=by
     rw[d];rcases List.eq_nil_or_concat (lU f k) with h0|⟨A,a,h0⟩
     ·rw[h0];exact⟨hx,rfl,trivial⟩
     rw[List.concat_eq_append] at h0;have E:=M.ok;have D:=M.on;rw[h0] at E D R ⊢;have hae:=R a (uM _ iL);refine Lv hx (AX.2 ⟨hae,?_⟩) E;cases hj:dM a (gu k p)
     ·rfl
     exfalso;obtain⟨j1,j2,j3,j4,j5,j6⟩:=vv.1 hj;have j1' : a.en=(k:Int):=j1;have O:=Bz E;have hfr:=(bL O).1.2.1.1;have hlt:=(bL O).2.1;obtain⟨m,rfl⟩:∃m,k=m+1:=⟨k-1,by omega⟩;have hin:pF (m:Int) a=true:=dN.2 ⟨by omega,by omega⟩;cases hfm:f m with
     | none=>
      have h1:=D m (by omega);rw[hfm] at h1;exact Tk (uM _ iL) hin h1
     | some q=>
      obtain⟨init',a',e1,e2,e3,e4⟩:=M.last m q rfl hfm;rw[h0] at e1;have haa:a=a':=by have:=congrArg List.getLast? e1;rw[CR,CR] at this;exact aM this
      subst haa;have N:mX f (m+1) p=(qE p q==p):=by simp only[mX,hfm]
      rw[N] at hs;have:qE p q=p:=by
       rw[<-e4];have k2:a.rd=p.rd:=j2;have k3:a.wr=p.wr:=j3;have k4:a.sh=p.sh:=j4;have k5:a.fi=p.fi:=j5;have k6:p.pg=kG a:=j6;unfold kG at k6;clear hx hfk hp d hj hs e4 j2 j3 j4 j5 j6 N;cases p with
       | mk prd pwr psh pfi ppg=>
        have k2:a.rd=prd:=k2;have k3:a.wr=pwr:=k3;have k4:a.sh=psh:=k4;have k5:a.fi=pfi:=k5;have k6:ppg=if 0<=a.fi then a.ba+a.en-a.fr else 0:=k6;subst k2 k3 k4 k5 k6;unfold qE kN;show (if 0<=a.fi then (⟨a.rd,a.wr,a.sh,a.fi,(if 0<=a.fi then a.ba+(m:Int)-a.fr else 0)+1⟩:Pg) else ⟨a.rd,a.wr,a.sh,a.fi,if 0<=a.fi then a.ba+(m:Int)-a.fr else 0⟩)=_
        by_cases s:0<=a.fi
        ·rw[if_pos s,if_pos s,if_pos s];congr 1;omega
        ·rw[if_neg s,if_neg s,if_neg s]
      rw[this] at hs;simp at hs
    refine⟨F,λa H => ?_,λi hi => ?_,λm q hm hq => ?_⟩
    ·rw[d] at H;rcases gP.1 H with H|H
     ·have:=R a H;omega
     ·rw[bC.1 H];show (k:Int)+1<=_;omega
    ·rw[d,Im];have hone:onA [gu k p] (i:Int)=if i=k then some p else none:=by
      rw[dm]
      by_cases u:i=k
      ·subst u;rw[if_pos rfl,if_pos (show pF (i:Int) (gu i p)=true from dN.2 ⟨tX _,by show (i:Int)<i+1;omega⟩)];unfold kN gu;simp only[];congr 1;obtain⟨_,_,_,h4,_⟩:=hp;cases p with
       | mk rd wr sh fi pg=>
        simp only[Pg.mk.injEq,true_and];simp only[] at h4;split
        ·omega
        ·exact (h4 (by omega)).1.symm
      rw[if_neg u,if_neg]
      ·rfl
      rw[dN];show ¬((k:Int)<=i/\(i:Int)<k+1);omega
     rw[hone]
     by_cases u:i=k
     ·subst u;rw[if_pos rfl,Dc R,hfk];rfl
     ·rw[if_neg u,M.on i (by omega),Option.or_none]
    obtain rfl:m=k:=by omega
    rw[hfk] at hq;cases hq;refine⟨lU f m,gu m p,d,by show (m:Int)+1=_;omega,tX _,?_⟩;unfold kN gu;simp only[];obtain⟨_,_,_,h4,_⟩:=hp;cases p with
    | mk rd wr sh fi pg=>
     simp only[Pg.mk.injEq,true_and];simp only[] at h4;split
     ·omega
     ·exact (h4 (by omega)).1.symm
   have d:=Vk hfk hs;obtain⟨m,rfl⟩:∃m,k=m+1:=by
    cases k with
    | zero=>cases hs
    | succ m=>exact⟨m,rfl⟩
   have N:mX f (m+1) p=(match f m with | some q=>qE p q==p | none=>false):=rfl;rw[N] at hs;cases hfm:f m with
   | none=>rw[hfm] at hs;cases hs
   | some q=>
    rw[hfm] at hs;have hnx:qE p q=p:=by simpa using hs
    obtain⟨A,a,e1,e2,e3,e4⟩:=M.last m q rfl hfm;have F:=M.ok;have D:=M.on;rw[e1] at F D R d;have O:=Bz F;have ef:=bL O;rw[<-e4] at hnx;have U:=PL hnx;have X:xu (A++[a]) (((m+1:Nat):Int)+1)=A++[{ a with en:=((m+1:Nat):Int)+1 }]:=by unfold xu;rw[CR];simp
    rw[X] at d;have hy:aV { a with en:=((m+1:Nat):Int)+1 }=0:=by
     unfold uU at ef;have e5:=ef.2.2.2.2.1;unfold aV;simp only[];rw[if_neg (by omega),if_neg];rintro (⟨b1,b2⟩|⟨b1,b2⟩)
     ·have:=e5 b1;rcases b2 with b2|b2
      ·exact b2 this.1
      ·rw[this.2] at b2;cases b2
     have h5:=hp.2.2.2.2;rw[<-U] at h5;have h6:=h5 b1;unfold kN at h6;simp only[] at h6;rw[if_pos b1] at h6;omega
    have G:∀b∈A,b.en<=((m+1:Nat):Int):=λb S=>R b (pO _ S);have s:∀n,kN { a with en:=((m+1:Nat):Int)+1 } n=kN a n:=λn=>rfl;refine⟨?_,λb S => ?_,λi hi => ?_,λm' q' hm' hq' => ?_⟩
    ·rw[d];refine KY hy (λz hz => ?_) F;cases z with
     | none=>rfl
     | some z=>exact hz
    ·rw[d] at S;rcases gP.1 S with S|S
     ·have:=G b S;omega
     ·rw[bC.1 S];show ((m+1:Nat):Int)+1<=_;omega
    ·rw[d,Im]
     by_cases u:i=m+1
     ·subst u;rw[Dc G,dm,if_pos (dN.2 ⟨by show a.fr<=((m+1:Nat):Int);omega,by show ((m+1:Nat):Int)<((m+1:Nat):Int)+1;omega⟩),s,hfk];show some (kN a ((m+1:Nat):Int))=some p;rw[show ((m+1:Nat):Int)=(m:Int)+1 by omega,U]
     have h1:=D i (by omega);rw[Im] at h1;rw[<-h1];congr 1;rw[dm,dm,s]
     by_cases c:pF (i:Int) a=true
     ·rw[if_pos c,if_pos (by rw[dN] at c ⊢; show a.fr<=(i:Int)/\(i:Int)<((m+1:Nat):Int)+1;omega)]
     ·rw[if_neg c,if_neg (by rw[dN] at c ⊢; show ¬(a.fr<=(i:Int)/\(i:Int)<((m+1:Nat):Int)+1);omega)]
    obtain rfl:m' = m+1:=by omega
    rw[hfk] at hq';cases hq';refine⟨A,_,d,by show ((m+1:Nat):Int)+1=_;omega,by show a.fr<=_;omega,?_⟩;rw[s,show ((m+1:Nat):Int)=(m:Int)+1 by omega,U]
theorem OH {f:Nat->Option Pg} (s:∀i p,i<64->f i=some p->Py p):okF none (lU f 64)/\∀n:Int,onA (lU f 64) n=if 0<=n/\n<64 then f n.toNat else none:=by
 have h:=Rh s 64 (az _);refine⟨h.ok,λn => ?_⟩
 by_cases d:0<=n/\n<64
 ·rw[if_pos d];have:=h.on n.toNat (by omega);rwa [show ((n.toNat:Nat):Int)=n by omega] at this
 rw[if_neg d];cases ho:onA (lU f 64) n with
 | none=>rfl
 | some p=>
  exfalso;have m:=nG h.ok
  by_cases z:n<0
  ·rw[on_low m z] at ho;cases ho
  ·rw[Dc (λa u=>by have:=h.en a u;omega)] at ho;cases ho
theorem fold_on:∀ {l:List Ar} {lo:Int} (g:Nat->Option Pg),srtF lo l->∀i:Nat,(l.foldl (λf A=>JO A A.en f) g) i=(onA l i).or (g i)
 | [],_,g,_,i=>by simp[onA]
 | a::r,lo,g,h,i=>by
  rw[Ba,fold_on _ h.2.2,dm]
  by_cases c:pF (i:Int) a=true
  ·rw[if_pos c,on_low h.2.2 (dN.1 c).2];unfold JO;rw[if_pos (dN.1 c)];rfl
  rw[if_neg c];unfold JO;rw[if_neg (λh=>c (dN.2 h))]
theorem rX {l:List Ar} (h:srtF lo l) (i:Nat):dz l i=onA l i:=by
 unfold dz;rw[fold_on _ h];simp[f0]
theorem NT {a:Ar} (m:aV a=0) (d:pF n a=true):Py (kN a n):=by
 have e:=bL m;unfold uU at e;rw[dN] at d;have s:=e.2.2.2.2.1;have p:=e.2.2.2.2.2;unfold Py kN;simp only[];refine⟨by omega,by omega,by split<;>omega,λh=>⟨by rw[if_neg (by omega)],(s h).2⟩,λh=>by rw[if_pos h];have:=p h;omega⟩
theorem Sb {l:List Ar} (h:srtF lo l) {p:Pg} (d:onA l n=some p):Py p:=by
 induction l generalizing lo with
 | nil=>cases d
 | cons a r ih=>
  rw[dm] at d;split at d
  ·rename_i m;cases d;exact NT h.1 m
  ·exact ih h.2.2 d
theorem Ny {f:Nat->Option Pg} {m:List Ar} (s:okF none m) (u:∀i:Nat,i<64->f i=onA m i):lU f 64=m:=by
 have d:=nG s;obtain⟨F,h2⟩:=OH (f:=f) (λi p A z=>Sb d (by rw[<-u i A];exact z));refine on_uniq F s λn => ?_;rw[h2]
 by_cases h:0<=n/\n<64
 ·rw[if_pos h,u _ (by omega),show ((n.toNat:Nat):Int)=n by omega]
 rw[if_neg h];symm;cases ho:onA m n with
 | none=>rfl
 | some p=>
  exfalso;have:∃a∈m,pF n a=true:=by have D:=(yG m n).2 (by rw[ho];simp);have:=pu (pF n) m;rw[show decide (0<=idx (pF n) m)=true from decide_eq_true D] at this;exact jK.1 this.symm
  obtain⟨a,E,b⟩:=this;have:=RA (srtF_ok d a E).1 b;omega
theorem SE {a b:Ar} (m:aV a=0) (p:aV b=0) (h:a.en<=b.fr):(lU (dz [a,b]) 64).length=if dM a b=true then 1 else 2:=by
 have d:srtF 0 [a,b]:=⟨m,(bL m).1.2.1.1,p,h,trivial⟩;have e:lU (dz [a,b]) 64=uw [a,b]:=Ny (IV d) λi _=>by rw[rX d,Ju d]
 rw[e,yX];unfold uO;split<;>rfl
theorem KN {l:List Ar} (h:srtF lo l):∀i p,dz l i=some p->0<=p.pg/\p.pg<=100:=by
 intro i p d;rw[rX h] at d;obtain⟨_,_,z,u,s⟩:=Sb h d;refine⟨z,?_⟩
 by_cases m:p.fi<0
 ·rw[(u m).1];decide
 ·have:=s (by omega);omega
def uK (x:Ar) (n:Nat) (f:Nat->Option Pg):Nat->Option Pg:=λi=>if pF (i:Int) x=true/\i<n then some (kN x i) else f i
theorem Mm (x:Ar) (f:Nat->Option Pg):uK x 0 f=f:=by funext i;unfold uK;rw[if_neg (by omega)]
theorem UU (x:Ar) (n:Nat) (f:Nat->Option Pg):uK x n f n=f n:=by unfold uK;rw[if_neg (by omega)]
theorem Qa {x:Ar} {n:Nat} (h:¬pF (n:Int) x=true) (f:Nat->Option Pg):uK x (n+1) f=uK x n f:=by
 funext i;unfold uK
 by_cases c:i=n
 ·subst c;rw[if_neg (λq=>h q.1),if_neg (λq=>h q.1)]
 by_cases d:pF (i:Int) x=true/\i<n
 ·rw[if_pos d,if_pos ⟨d.1,by omega⟩]
 ·rw[if_neg d,if_neg (λq=>d ⟨q.1,by omega⟩)]
theorem Sa {x:Ar} {n:Nat} (h:pF (n:Int) x=true) (f:Nat->Option Pg):(λi=>if i=n then some (kN x n) else uK x n f i)=uK x (n+1) f:=by
 funext i;unfold uK
 by_cases c:i=n
 ·subst c;rw[if_pos rfl,if_pos ⟨h,by omega⟩]
 rw[if_neg c]
 by_cases d:pF (i:Int) x=true/\i<n
 ·rw[if_pos d,if_pos ⟨d.1,by omega⟩]
 ·rw[if_neg d,if_neg (λq=>d ⟨q.1,by omega⟩)]
theorem RU (x:Ar) (i:Nat):dz [x] i=if pF (i:Int) x=true then some (kN x i) else none:=by
 unfold dz;simp only[Ba,List.foldl_nil];unfold JO f0
 by_cases c:pF (i:Int) x=true
 ·rw[if_pos c,if_pos (dN.1 c)]
 ·rw[if_neg c,if_neg (λh=>c (dN.2 h))]
theorem TA {l:List Ar} {x:Ar} {i:Int} (d:pF i x=true) (h:onA l i≠none):l.any (qJ x)=true:=by
 have m:=(yG l i).2 h;have:=pu (pF i) l;rw[show decide (0<=idx (pF i) l)=true from decide_eq_true m] at this;obtain⟨a,p,b⟩:=jK.1 this.symm;refine jK.2 ⟨a,p,?_⟩;rw[dN] at d b;unfold qJ;rw[decide_eq_true (by omega),decide_eq_true (by omega)];rfl
theorem UO {l:List Ar} {x:Ar} (d:okF none l) (s:aV x=0) (h:∀i:Nat,i<64->¬(pF (i:Int) x=true/\onA l i≠none)):l.any (qJ x)=false:=by
 rw[uS];intro a p m;have b:=(srtF_ok (nG d) a p).1;have z:=bL b;have u:=bL s;unfold uU at z u;unfold qJ at m;rw[dU,decide_eq_true_eq,decide_eq_true_eq] at m;refine h (max a.fr x.fr).toNat (by omega) ⟨dN.2 (by omega),Tk p (dN.2 (by omega))⟩
theorem Ec {e:En} (h:eF e=0):pY e=Jw e:=by
 unfold eF at h;unfold pY Jw;split at h
 ·cases h
 rename_i d;rw[ni];simp;omega
theorem zT {h:List En} (s:mR h=0):∀e∈h,eF e=0:=by
 intro e D;obtain⟨i,A,rfl⟩:=jI.1 D;have E:=pW s
 by_cases m:∀j (z:j<h.length),eF h[j]=0
 ·exact m i A
 exfalso;have p:firstE (h.map eF)≠0:=by
  intro p;apply m;intro j z;have u:∀(l:List Int),firstE l=0->∀x∈l,x=0:=by
   intro l
   induction l with
   | nil=>intro _ x d;cases d
   | cons y r ih=>
    intro h x d
    by_cases e:y=0
    ·simp only[firstE,e,if_true] at h;rcases dw.1 d with rfl|d
     ·exact e
     ·exact ih h x d
    ·simp only[firstE,e,if_false] at h
  exact u _ p _ (ja.2 ⟨h[j],eO z,rfl⟩)
 unfold mR at s;rw[if_neg (by omega),if_pos p] at s;exact p s
theorem Hy {t:Tb} (p:i<8) (h:mR t[i]=0):mo (dI t) i=if t[i].length=0 then List.replicate 8 zEn else t[i]:=by
 have d:=pW h;apply pE;intro r;unfold mo dI;rw[mI]
 by_cases m:r<8
 ·rw[if_pos m,qD,jv,tJ (by omega)];simp only[ru];rcases d with d|d
  ·rw[if_pos d,pV,if_pos m,Bn p m d]
  ·rw[if_neg (by omega),aH (by omega),GL p m d (aH (by omega))]
 rw[if_neg m,fw];split
 ·simp;omega
 ·omega
theorem Jk {h:List En} (p:∀e∈h,eF e=0):h.any Jw=h.any pY:=by
 rw[ni];simp only[jK];constructor
 ·rintro⟨e,d,m⟩;exact⟨e,d,by rw[Ec (p e d)];exact m⟩
 ·rintro⟨e,d,m⟩;exact⟨e,d,by rw[<-Ec (p e d)];exact m⟩
theorem Ra {h:List En} (m:mR h=0) (u:h.length≠0):h.any pY=true:=by
 have d:=xM (pW m) (λi s=>zT m _ (eO s));rw[m] at d
 by_cases p:h.any (λe=>decide (e.k≠0))=false
 ·rw[if_pos ⟨by omega,p⟩] at d;cases d
 ·simpa[pY] using p
theorem Ck {t:Tb} (m:i<8) (h:mR t[i]=0):nk (dI t) i=t[i]:=by
 unfold nk;rw[Hy m h]
 by_cases d:t[i].length=0
 ·rw[if_pos d];have:t[i]=[]:=kS d;rw[this];decide
 rw[if_neg d,Jk (zT h),Ra h d];rfl
theorem Fx {t:Tb} {e:En} (h:setE t n e=0):setT t n e=ic ((dI t).set n.toNat e):=by
 have A:dA t=0:=by
  unfold setE at h
  by_cases D:dA t=0
  ·exact D
  ·rw[if_pos D] at h;exact h
 have u:0<=n/\n<64:=by
  unfold setE at h;rw[if_neg (by rw[A];simp)] at h
  by_cases u:n<0\/64<=n
  ·rw[if_pos u] at h;cases h
  ·omega
 have M:eF e=0:=by unfold setE at h;rwa [if_neg (by rw[A];simp),if_neg (by omega)] at h
 obtain⟨q,r,E,H,a,_,_⟩:=yj u;have N:n.toNat=8*q+r:=by omega
 rw[Ov h E H a,N];apply xO;intro i p;simp only[ic,qH];have z:=mD A i p
 by_cases G:i=q
 ·subst G;rw[Vector.getElem_set_self];have s:mo ((dI t).set (8*i+r) e) i=(mo (dI t) i).set r e:=by
   apply pE;intro k;have b:(dI t).length=64:=by simp[dI]
   by_cases d:k<8
   ·unfold mo;rw[mI,if_pos d,qD]
    by_cases F:k=r
    ·subst F;rw[vO (by omega),vO (by simp;omega)]
    ·rw[um (by omega),um (λh=>F h.symm),mI,if_pos d,qD]
   ·rw[fw (by simp[mo];omega),fw (by simp[mo];omega)]
  unfold nk;rw[s,Hy p z];unfold setH VE;rw[Jk];intro x m;rcases lL m with m|rfl
  ·split at m
   ·rw[(CX.1 m).2];rfl
   ·exact zT z x m
  ·exact M
 rw[xL E p (λh=>G h.symm)];have s:mo ((dI t).set (8*q+r) e) i=mo (dI t) i:=by
  apply pE;intro k;unfold mo;rw[mI,mI]
  by_cases d:k<8
  ·rw[if_pos d,if_pos d,qD,qD,um (by omega)]
  ·rw[if_neg d,if_neg d]
 have:nk ((dI t).set (8*q+r) e) i=nk (dI t) i:=by unfold nk;rw[s]
 rw[this,Ck p z]
theorem Qq {m:List Int} (d:l.length=m.length) (h:∀i (s:i<l.length),l[i]=m[i]'(by omega)):(l==m)=true:=by
 rw[beq_iff_eq];exact uH d λi p h2=>h i p
theorem PR {m:List Int} (k:Nat) (d:k<l.length) (h2:k<m.length) (h:l[k]≠m[k]):(l==m)=false:=by
 rw[beq_eq_false_iff_ne];rintro rfl;exact h rfl
theorem zD (t:Tb) (k:Nat) (h:k<64):(dI t)[k]?=some (dJ t (k:Int)):=by
 unfold dI;simp[h]
theorem nW (t:Tb):(dI t).length=64:=by simp[dI]
theorem MV (t:Tb):Hg t t=true:=Gz λ_ _=>rfl
theorem sK {t:Tb} (h:dA t=0) (n:Int):eF (dJ t n)=0:=by
 by_cases p:0<=n/\n<64
 ·obtain⟨q,r,d,m,rfl,_,_⟩:=yj p;rw[Ay d m];split
  ·rename_i s;rw[aX,aH (by omega)];exact zT (mD h q d) _ (eO _)
  ·rfl
 ·rw[sj (by omega)];rfl
theorem Sr {e:En} (h:eF e=0) (h2:Jw e=false):e=zEn:=by
 have s:=Ec h;rw[h2] at s;have m:e.k=0:=by simpa[pY] using s
 unfold eF at h;obtain⟨k,n,w⟩:=e;simp only at m;subst m;simp at h
 by_cases p:n<0\/60<=n
 ·rw[if_pos p] at h;cases h
 rw[if_neg p] at h
 by_cases d:¬n=0\/w=true
 ·rw[if_pos d] at h;cases h
 simp only[not_or,qL,Bool.not_eq_true] at d;obtain⟨rfl,rfl⟩:=d;rfl
theorem Eh {l:List En} {x:En} (h:x∈mo l i):x∈l:=List.mem_of_mem_drop (List.mem_of_mem_take h)
theorem Iq {l:List En} (h:∀x∈l,eF x=0) (s:l.length=64) (z:i<8):mR (nk l i)=0:=by
 unfold nk
 by_cases d:(mo l i).any Jw=true
 ·rw[if_pos d];have a:(mo l i).length=8:=EY s z (by omega);rw[xM (.inr a) (λj u=>h _ (Eh (eO u))),if_neg];rintro⟨_,h2⟩;have m:=Jk (h:=mo l i) (λx p=>h x (Eh p));rw[d] at m;have A:(mo l i).any pY=false:=h2;rw[A] at m;cases m
 ·rw[if_neg d];rfl
theorem Cf {l:List En} (h:∀x∈l,eF x=0) (d:l.length=64):dA (ic l)=0:=
 xA λi m=>by simp only[ic,qH];exact Iq h d m
theorem zk {l:List En} (h:∀x∈l,eF x=0) (u:l.length=64) {n:Nat} (z:n<64):dJ (ic l) (n:Int)=l[n]'(by omega):=by
 obtain⟨q,r,p,s,d,_,_⟩:=yj (n:=(n:Int)) (by omega);have c : n=8*q+r:=by omega
 subst c;rw[Ay p s];simp only[ic,qH];unfold nk;have b:(mo l q).length=8:=EY u p (by omega);have a:(mo l q)[r]'(by omega)=l[8*q+r]'(by omega):=by simp[mo]
 by_cases m:(mo l q).any Jw=true
 ·simp only[if_pos m,if_pos b];rw[aX,aH (by omega),<-a];rfl
 simp only[if_neg m];rw[if_neg (by decide),<-a];symm;refine Sr (h _ (Eh (eO _))) ?_;simp only[jK,not_exists,not_and,Bool.not_eq_true] at m;exact m _ (eO _)
theorem zu {t:Tb} (h:dA t=0):ic (dI t)=t:=by
 apply xO;intro i d;simp only[ic,qH];exact Ck d (mD h i d)
theorem EZ {l:List En} (h:∀x∈l,eF x=0) (d:l.length=64):dI (ic l)=l:=by
 apply uH
 ·rw[nW,d]
 intro i m h2;have:=zD (ic l) i (by omega);rw[zk h d (by omega),aH m] at this;exact aM this
theorem SS {t:Tb} (h:dA t=0):∀x∈dI t,eF x=0:=by
 intro x d;obtain⟨i,m,rfl⟩:=ja.1 d;exact sK h _
theorem ww {t:Tb} {e:En} (h:setE t n e=0):dA t=0/\(0<=n/\n<64)/\eF e=0:=by
 unfold setE at h
 by_cases d:dA t=0
 ·rw[if_neg (by rw[d];simp)] at h
  by_cases m:n<0\/64<=n
  ·rw[if_pos m] at h;cases h
  rw[if_neg m] at h;exact⟨d,by omega,h⟩
 ·rw[if_pos d] at h;exact absurd h d
theorem zW {t:Tb} {e:En} (h:dA t=0) (h2:0<=n/\n<64) (d:eF e=0):setE t n e=0:=by
 unfold setE;rw[if_neg (by rw[h];simp),if_neg (by omega),d]
theorem Jp {t:Tb} {n:Nat} {e:En} (m:dA t=0) (h:eF e=0):∀x∈(dI t).set n e,eF x=0:=by
 intro x d;rcases lL d with d|rfl
 ·exact SS m x d
 ·exact h
theorem qd {t:Tb} {e:En} (h:setE t n e=0):dA (setT t n e)=0:=by
 obtain⟨m,h2,d⟩:=ww h;rw[Fx h];exact Cf (Jp m d) (by rw[bK,nW])
theorem AC {t:Tb} {e:En} (h:setE t n e=0) (k:Int):dJ (setT t n e) k=if k=n then e else dJ t k:=by
 obtain⟨s,h2,p⟩:=ww h;rw[Fx h]
 by_cases m:0<=k/\k<64
 ·obtain⟨j,rfl⟩:=iI m.1;rw[zk (Jp s p) (by rw[bK,nW]) (by omega)];rw[DC]
  by_cases d:(j:Int)=n
  ·rw[if_pos (by omega),if_pos d]
  rw[if_neg (by omega),if_neg d];have:=zD t j (by omega);rw[aH (by rw[nW];omega)] at this;exact aM this
 ·rw[if_neg (by omega),sj (by omega),sj (by omega)]
theorem Ro (t:Tb):∀n∈aU t,0<=n/\n<64:=by
 intro n d;unfold aU kC at d;obtain⟨m,h,rfl⟩:=ja.1 d;have:=eG.1 (zU.1 h).1;omega
theorem Kr {t:Tb} (h:dA t=0):FX t:=λk d=>by
 have:=pW (mD h k d);omega
theorem zTb_right:dA zTb=0:=by decide
theorem Er {m:Mem} {f:Fr} (d:bu m=0) (s:bS f=0):bu ⟨m.fs.set k f,m.hand⟩=0:=by
 obtain⟨A,h2,z,u⟩:=(dH m).1 d;rw[dH];simp only[bK];refine⟨A,λg p => ?_,z,u⟩;rcases lL p with h|rfl
 ·exact h2 g h
 ·exact s
theorem DY (f:Fr):bS f=0\/bS f=3\/bS f=7:=by
 unfold bS;split
 ·exact .inr (.inl rfl)
 split
 ·exact .inr (.inr rfl)
 ·exact .inl rfl
theorem firstEf_mem:∀l:List Fr,firstEf l=0\/firstEf l=3\/firstEf l=7
 | [] => .inl rfl
 | f::r=>by
  unfold firstEf;split
  ·exact DY f
  ·exact firstEf_mem r
theorem Nj (m:Mem):bu m=0\/bu m=3\/bu m=4\/bu m=7:=by
 unfold bu;have:=firstEf_mem m.fs;split
 ·omega
 split
 ·omega
 ·split<;>omega
theorem Pj {l:List Fr} (h:wN l=some k):∃d:k<l.length,l[k].r=0:=by
 unfold wN at h;rw[rD] at h;obtain⟨d,m,_⟩:=h;exact⟨d,by simpa using m⟩
theorem Re {l:List Fr} (h:wN l=none):dQ l=0:=by
 unfold wN at h;rw[vB] at h;unfold dQ;rw[DN,List.filter_eq_nil_iff];exact λf d=>by simpa using h f d
theorem PD {m:Mem} {p:Page} (h:ik m p file index=10):dQ m.fs=0:=by
 unfold ik at h;have d:=Nj m;have h2:=DY (bJ p file index);split at h
 ·omega
 split at h
 ·omega
 split at h
 ·exact Re ‹_›
 ·cases h
theorem UC {m:Mem} {p:Page} (h:ik m p file index=0):bu m=0/\bS (bJ p file index)=0/\∃k,∃d:k<m.fs.length,m.fs[k].r=0/\iG m p file index=k/\fo m p file index=⟨m.fs.set k (bJ p file index),m.hand⟩:=by
 have u:=h;unfold ik at h;split at h
 ·exact absurd h ‹_›
 rename_i D;split at h
 ·exact absurd h ‹_›
 rename_i h2;split at h
 ·cases h
 rename_i A;cases hf:wN m.fs with
 | none=>exact absurd hf A
 | some k=>
  obtain⟨d,z⟩:=Pj hf;have s:iG m p file index=k:=by unfold iG;rw[if_pos u,hf];rfl
  exact⟨by omega,by omega,k,d,z,s,by unfold fo;rw[if_pos u,s]⟩
theorem NZ {f:Fr} (h:bS f=0) (m:f.r=0):f=frZ:=by
 obtain⟨⟨_,_,H,_,_,_⟩,h2,G⟩:=(dK f).1 h;obtain⟨F,E,D,A⟩:=h2 m;have z:=G D;have s:f.f = -1:=by omega
 obtain⟨p,r,u,d,M,i⟩:=f;simp only at *
 subst m F E A z s;rfl
theorem Fw (h:dF l=0):∀x∈l,rf x=false:=by
 unfold dF at h;split at h
 ·omega
 split at h
 ·omega
 rename_i m;intro x d;have:=uS.1 (by simpa using m) x d;simpa using this
theorem Gm (m:l.length<=60) (h:∀x∈l,rf x=false):dF l=0:=by
 unfold dF;rw[if_neg (by omega),if_neg];simp only[jK,not_exists,not_and];intro x d;simp[h x d]
theorem Eb (k:Nat) (x:Int) (h:dF l=0) (s:0<=x) (p:x<=1000):dF (l.set k x)=0:=by
 refine Gm (by rw[bK];exact kE h) λy d => ?_;rcases lL d with m|rfl
 ·exact Fw h _ m
 ·simp[rf];omega
theorem GG {α:Type} {l:List α} {x:α} (h:l[i]?=some x) (y:α):l=l.take i++x::l.drop (i+1)/\l.set i y=l.take i++y::l.drop (i+1):=by
 obtain⟨d,rfl⟩:=cz.1 h;refine⟨?_,?_⟩
 ·rw[List.getElem_cons_drop,qX]
 ·rw[List.set_eq_take_append_cons_drop,if_pos d]
theorem Tn {x:Int} (h:x<0) (l:List Int):lm (x::l)=lm l:=by unfold lm;rw[vD,if_neg (by simp;omega)]
theorem IE {x:Int} (h:0<=x) (l:List Int):lm (x::l)=x::lm l:=by unfold lm;rw[vD,if_pos (by simpa using h)]
theorem Kl {s:St} {F:Nat} {f:Fi} (u:s.fs[F]?=some f) {v:Int} (m:f.b[I]?=some v) (p:v<0) {X:Int} (z:0<=X) (n c:Int) :
  (lm (lK ⟨s.fs.set F ⟨n,f.b.set I X⟩,c⟩)).Perm (X::lm (lK s)):=by
 have h:=GG u ⟨n,f.b.set I X⟩;have d:=GG m X;unfold lK;show (lm ((s.fs.set F ⟨n,f.b.set I X⟩).flatMap Fi.b)).Perm (X::lm (s.fs.flatMap Fi.b));rw[h.2]
 conv=>rhs;rw[h.1]
 simp only[fE,nX,vo];rw[d.2]
 conv=>rhs;rw[show f.b=f.b.take I++v::f.b.drop (I+1) from d.1]
 simp only[vo,Tn p,IE z];refine List.Perm.trans ?_ List.perm_middle;refine List.Perm.append_left _ ?_;rw[jG,jG];exact List.perm_middle
theorem Hu {s:St} (h:0<=iy s):iy s<s.count/\iD s (iy s)=false:=by
 unfold iy at h ⊢;cases hf:(List.range s.count.toNat).find? (λb:Nat => !iD s b) with
 | none=>rw[hf] at h;simp at h
 | some b=>
  have d:=eG.1 (rC hf);have h2:=uj hf;simp only;refine⟨by omega,by simpa using h2⟩
theorem Cq {s:St} {k i:Int} (h:dG s k i=0):aR s=0/\∃(F I:Nat) (f:Fi) (v:Int),k=F/\i=I/\s.fs[F]?=some f/\f.b[I]?=some v/\aS s k=f/\bM s k i=v /\
  ((0<=v/\eB s k i=s/\eH s k i=v)\/(v<0/\0<=iy s/\eH s k i=iy s/\eB s k i=⟨s.fs.set F ⟨f.n,f.b.set I (iy s)⟩,s.count⟩)):=by
 have d:=h;unfold dG at d
 by_cases p:aR s≠0
 ·rw[if_pos p] at d; exact absurd d p
 rw[if_neg p] at d
 by_cases E:k<0\/(s.fs.length:Int)<=k
 ·rw[if_pos E] at d; cases d
 rw[if_neg E] at d
 by_cases u:i<0\/((aS s k).b.length:Int)<=i
 ·rw[if_pos u] at d; cases d
 rw[if_neg u] at d
 by_cases D:bM s k i<0/\iy s<0
 ·rw[if_pos D] at d; cases d
 obtain⟨F,rfl⟩:=iI (show 0<=k by omega);obtain⟨I,rfl⟩:=iI (show 0<=i by omega);have A:F<s.fs.length:=by omega
 have a:aS s F=s.fs[F]:=by unfold aS;rw[if_pos (by omega),bA,aX,aH A];rfl
 rw[a] at u;have z:I<s.fs[F].b.length:=by omega
 have c:bM s F I=s.fs[F].b[I]:=by unfold bM;rw[a,bA,aX,aH z];rfl
 refine⟨qL.1 p,F,I,s.fs[F],s.fs[F].b[I],rfl,rfl,aH A,aH z,a,c,?_⟩;have G:eB s F I=if bM s F I<0 then Am s F ⟨(aS s F).n,(aS s F).b.set ((I:Int)).toNat (iy s)⟩ else s:=by unfold eB;rw[if_neg (by rw[h];simp)]
 have H:eH s F I=if bM s F I<0 then iy s else bM s F I:=by unfold eH;rw[if_neg (by rw[h];simp)]
 rw[G,H,c];rw[c] at D
 by_cases m:s.fs[F].b[I]<0
 ·refine .inr ⟨m,by omega,if_pos m,?_⟩;rw[if_pos m,a,bA];unfold Am;rw[bA]
 ·exact .inl ⟨by omega,if_neg m,if_neg m⟩
theorem IQ {s:St} {x:Int} (h:iD s x=false):¬x∈lK s:=by
 unfold iD at h;simpa using h
theorem Qp {s:St} {F:Nat} {f:Fi} {v:Int} (h:aR s=0) (p:s.fs[F]?=some f) (m:f.b[I]?=some v) (A:0<=v):dG s F I=0/\eH s F I=v/\eB s F I=s:=by
 have z:=(cz.1 p).1;have u:=(cz.1 m).1;have c:aS s F=f:=by unfold aS;rw[if_pos (by omega),bA,aX,p];rfl
 have a:bM s F I=v:=by unfold bM;rw[c,bA,aX,m];rfl
 have d:dG s F I=0:=by unfold dG;rw[if_neg (by rw[h];simp),if_neg (by omega),c,if_neg (by omega),a,if_neg (by omega)]
 refine⟨d,?_,?_⟩
 ·unfold eH;rw[if_neg (by rw[d];simp),a,if_neg (by omega)]
 ·unfold eB;rw[if_neg (by rw[d];simp),a,if_neg (by omega)]
theorem CE {s:St} (h:aR s=0) {F:Nat} {f:Fi} {v:Int} (p:s.fs[F]?=some f) (u:f.b[I]?=some v) (A:v<0) {X:Int} (G:0<=X) (E:X<s.count) (z:iD s X=false) :
  aR ⟨s.fs.set F ⟨f.n,f.b.set I X⟩,s.count⟩=0:=by
 obtain⟨M,h2,H⟩:=mF.1 h;have a:=h2 f (bV p);refine mF.2 ⟨by simpa using M,λg d => ?_,?_⟩
 ·rcases lL d with d|rfl
  ·exact h2 g d
  refine⟨a.1,a.2.1,by simpa using a.2.2.1,λb m => ?_⟩;rcases lL m with m|rfl
  ·exact a.2.2.2 b m
  show -1<=b/\b<s.count;omega
 ·exact (Kl p u A G f.n s.count).nodup_iff.2 (tF.2 ⟨λD=>IQ z (jH.1 D).1,H⟩)
theorem JR {s:St} {k i:Int} (h:dG s k i=0):aR (eB s k i)=0/\dG (eB s k i) k i=0/\eH (eB s k i) k i=eH s k i/\eB (eB s k i) k i=eB s k i /\
  ((0<=bM s k i/\eB s k i=s)\/(bM s k i<0/\iD s (eH s k i)=false/\za (eB s k i)=za s-1)):=by
 obtain⟨E,F,I,f,v,rfl,rfl,A,u,e,c,N⟩:=Cq h;rcases N with ⟨m,p,H⟩|⟨z,m,H,p⟩
 ·rw[p];exact⟨E,h,rfl,p,.inl ⟨by rw[c];exact m,rfl⟩⟩
 obtain⟨d,G⟩:=Hu m;have a:=CE E A u z m d G;have R:=(cz.1 A).1;have O:=(cz.1 u).1;have D:=Qp (F:=F) (I:=I) (f:=⟨f.n,f.b.set I (iy s)⟩) (v:=iy s) a (vO R) (vO O) m;rw[p,H];refine⟨a,D.1,D.2.1,D.2.2,.inr ⟨by rw[c];exact z,G,?_⟩⟩;have M:=(Kl A u z m f.n s.count).length_eq;unfold za;show s.count-((lm _).length:Int)=s.count-((lm _).length:Int)-1;rw[M,qg];omega
structure Cc where
 f:Int
 i:Int
 k:Int
 deriving DecidableEq
def vV (c:Cc):Array Value:=#[.int .i64 c.f,.int .i64 c.i,.int .i64 c.k]
def iK (c:Cc):List Value:=(vV c).toList
theorem iX (c:Cc):(iK c).length=3:=rfl
structure Sp where
 lv:Bool
 ar:List Ar
 tb:Tb
 deriving DecidableEq
structure Ma where
 m:Mem
 sl:List Int
 sw:wC
 dk:wC
 st:St
 ca:List Cc
 sp:List Sp
def zCc:Cc:=⟨0,0,0⟩
def zSp:Sp:=⟨false,[],zTb⟩
def zMa:Ma:=⟨noM,[],⟨[],[]⟩,⟨[],[]⟩,zSt,[],[]⟩
def cnt (l:List Int) (k:Int):Nat:=l.countP λx=>decide (x=k)
def trimB (m:Ma):Bool:=
 (List.range m.dk.blocks.length).all (λb:Nat=>decide ((b:Int)∈lK m.st)||decide (m.dk.blocks.getD b zPg=zPg))&&m.dk.queue.all λq=>decide (q.1∈lK m.st)
def kH (s:Sp):Int:=if (bQ s.ar).1≠0 then (bQ s.ar).1 else if dA s.tb≠0 then dA s.tb else if s.lv=false/\0<s.ar.length+(aU s.tb).length then 7 else 0
def iR (m:Ma):Int:=
 if bu m.m≠0 then bu m.m else if dF m.sl≠0 then dF m.sl else if bW m.sw≠0 then bW m.sw else if bW m.dk≠0 then bW m.dk else if aR m.st≠0 then aR m.st
 else if m.sw.blocks.length≠m.sl.length\/(m.dk.blocks.length:Int)≠m.st.count\/trimB m=false then 7
 else if 4<m.sp.length then 4 else firstE (m.sp.map kH)
def jD (m:Ma) (k:Int):Fr:=m.m.fs.getD k.toNat fr0
def uR (m:Ma) (p:Option Cc) (c:Cc):Int:=
 if c.f<0\/(m.st.fs.length:Int)<=c.f\/c.i<0\/((aS m.st c.f).b.length:Int)<=c.i\/c.k<0\/(m.m.fs.length:Int)<=c.k then 3
 else if (jD m c.k).r<1\/(jD m c.k).f≠c.f\/(jD m c.k).i≠c.i then 7
 else match p with
  | none=>0
  | some q=>if c.f<q.f\/q.f=c.f/\c.i<=q.i then 2 else 0
def yQ (l:List Cc) (k:Nat):Option Cc:=if k=0 then none else l[k-1]?
def cachedE (m:Ma):Int:=firstE ((List.range m.ca.length).map λk=>uR m (yQ m.ca k) (m.ca.getD k zCc))
def cZ (m:Ma) (s:Sp) (n:Int):Int:=
 if gU s.ar n<0 then 5 else
 let a:=s.ar.getD (gU s.ar n).toNat zAr;let e:=dJ s.tb n
 if e.k=2 then (if (m.sl.length:Int)<=e.n\/a.sh=true then 7 else 0)
 else if (m.m.fs.length:Int)<=e.n then 3 else
 let f:=jD m e.n;let of:=decide (0<=a.fi)&&decide (f.f=a.fi)&&decide (f.i=a.ba+n-a.fr)
 if 0<=f.f/\of=false\/a.sh=true/\of=false\/a.sh=false/\of=true/\e.w=true\/e.w=true/\a.wr=false then 7
 else if f.f<0/\e.w=true/\1<f.r then 7 else 0
def nH (m:Ma):Int:=firstE (m.sp.flatMap λs=>(aU s.tb).map (cZ m s))
def pq (t:Tb) (l:List Int):List Int:=(l.filter λn=>decide ((dJ t n).k=1)).map λn=>(dJ t n).n
def swapT (t:Tb) (l:List Int):List Int:=(l.filter λn => !decide ((dJ t n).k=1)).map λn=>(dJ t n).n
def rY (m:Ma):List Int:=m.ca.map Cc.k++m.sp.flatMap λs=>pq s.tb (aU s.tb)
def qA (m:Ma):List Int:=m.sp.flatMap λs=>swapT s.tb (aU s.tb)
def lu (n:Nat) (l:List Int):List Int:=(List.range n).map λi:Nat=>(cnt l i:Int)
def countB (m:Ma):Bool:=
 (List.range m.m.fs.length).all (λi:Nat=>decide ((jD m i).r=cnt (rY m) i)&&(decide ((jD m i).f<0)||m.ca.any λc=>decide (c.k=i)))&&decide (m.sl=lu m.sl.length (qA m))
def jQ (m:Ma):Int:=if iR m≠0 then iR m else if cachedE m≠0 then cachedE m else if nH m≠0 then nH m else if countB m=true then 0 else 7
def bq (m:Ma) (f i:Int):Page:=
 match m.ca.find? λc=>decide (c.f=f)&&decide (c.i=i) with
 | some c=>(jD m c.k).p
 | none=>if 0<=bM m.st f i then dn (dL m.dk (bM m.st f i)) ((aS m.st f).n-i*8) else zPg
def qF (s:St) (f i:Int):Bool:=decide (eY (aS s f).n<=i)
structure Kp where
 m:Ma
 e:Int
def jm (k e:Int):Int:=if k=0 then e else k
def dD (m:Ma) (p:Nat):Sp:=m.sp.getD p zSp
def setTb (m:Ma) (p:Nat) (t:Tb):Ma:={ m with sp:=m.sp.set p { dD m p with tb:=t } }
def eP (k:Kp) (p:Nat) (n:Int) (x:En):Kp:=
 if setE (dD k.m p).tb n x=0 then ⟨setTb k.m p (setT (dD k.m p).tb n x),k.e⟩ else ⟨k.m,jm k.e (setE (dD k.m p).tb n x)⟩
def gB (k:Kp) (f n:Int):Kp:=
 if nZ k.m.m f n=0 then ⟨{ k.m with m:=lT k.m.m f n },k.e⟩ else ⟨k.m,jm k.e (nZ k.m.m f n)⟩
def nS (k:Kp) (s n:Int):Kp:=
 if dB k.m.sl s n=0 then ⟨{ k.m with sl:=cB k.m.sl s n },k.e⟩ else ⟨k.m,jm k.e (dB k.m.sl s n)⟩
def jR (k:Kp) (p:Nat) (n:Int):Kp:=
 let x:=dJ (dD k.m p).tb n
 if x.k=1 then eP (gB k x.n (-1)) p n zEn else if x.k=2 then eP (nS k x.n (-1)) p n zEn else k
def BB (f i:Int) (c:Cc):Bool:=decide (f<c.f)||(decide (c.f=f)&&decide (i<=c.i))
def sH (l:List Cc) (f i:Int):Nat:=(l.findIdx? (BB f i)).getD l.length
def JH (l:List Cc) (f i:Int):Bool:=match l[sH l f i]? with
 | some c=>decide (c.f=f)&&decide (c.i=i)
 | none=>false
def setFr (m:Ma) (f:Nat) (x:Fr):Ma:={ m with m:={ m.m with fs:=m.m.fs.set f x } }
def aD (m:Ma) (f:Nat):Fr:=m.m.fs.getD f fr0
def lN (m:Ma) (f:Nat):Bool:=decide ((aD m f).f<0)||!(aD m f).d||decide (dG m.st (aD m f).f (aD m f).i=0)
def lw (k:Kp) (f:Nat):Kp:=
 let x:=aD k.m f
 if x.f<0\/x.d=false\/dG k.m.st x.f x.i≠0 then k
 else ⟨setFr { k.m with st:=eB k.m.st x.f x.i,dk:=dP k.m.dk (eH k.m.st x.f x.i) x.p } f { x with d:=false },jm k.e (aK k.m.dk (eH k.m.st x.f x.i))⟩
def bB (m:Ma) (f:Int):List (Nat × Int):=(List.range m.sp.length).flatMap λp=>(pJ (dD m p).tb 1 f).map λn=>(p,n)
def lQ (k:Kp) (l:List (Nat × Int)):Kp:=l.foldl (λk u=>jR k u.1 u.2) k
def Ia (f n:Int) (k:Kp) (u:Nat × Int):Kp:=eP (gB k f (-1)) u.1 u.2 ⟨2,n,false⟩
def sP (k:Kp) (f n:Int) (l:List (Nat × Int)):Kp:=l.foldl (Ia f n) k
def nA (m:Ma) (f:Nat):Bool:=if 0<=(aD m f).f then lN m f else decide (iV m.sl (bB m f).length=0)
def gz (k:Kp) (f:Nat):Kp:=
 let x:=aD k.m f;let l:=bB k.m f
 if 0<=x.f then
  if lN k.m f=false then k else
  let k2:=lQ (lw k f) l
  if JH k2.m.ca x.f x.i=true then gB ⟨{ k2.m with ca:=k2.m.ca.eraseIdx (sH k2.m.ca x.f x.i) },k2.e⟩ f (-1) else k2
 else if iV k.m.sl l.length≠0 then k
 else sP ⟨{ k.m with sl:=mU k.m.sl l.length,sw:=dP k.m.sw (kJ k.m.sl l.length) x.p },jm k.e (aK k.m.sw (kJ k.m.sl l.length))⟩ f (kJ k.m.sl l.length) l
def reclaimN:Nat->Kp->Kp × Bool
 | 0,k=>(k,false)
 | t+1,k=>
  if bu k.m.m≠0\/jo k.m.m<0 then (⟨k.m,jm k.e (bu k.m.m)⟩,false) else
  let k1:Kp:=⟨{ k.m with m:=gJ k.m.m },k.e⟩
  if nA k1.m (jo k.m.m).toNat=true then (gz k1 (jo k.m.m).toNat,true) else reclaimN t (gz k1 (jo k.m.m).toNat)
def gI (k:Kp):Kp × Bool:=reclaimN (2*k.m.m.fs.length+1) k
def kR (k:Kp) (p:Page) (f i:Int):Kp × Int:=
 if ik k.m.m p f i≠0 then (k,-1) else (⟨{ k.m with m:=fo k.m.m p f i },k.e⟩,iG k.m.m p f i)
def ed (k:Kp) (p:Page) (f i:Int):Kp × Int:=
 if dQ k.m.m.fs=0 then (if (gI k).2=true then kR (gI k).1 p f i else ((gI k).1,-1)) else kR k p f i
def lF (x:Fr):Fr:={ x with u:=true }
def Bt (m:Ma) (i:Nat):Cc:=m.ca.getD i zCc
def dx (m:Ma) (f i:Int):Page:=if 0<=bM m.st f i then dn (dL m.dk (bM m.st f i)) ((aS m.st f).n-i*8) else zPg
def Fu (k:Kp) (f i:Int):Int:=if 0<=bM k.m.st f i then jm k.e (aK k.m.dk (bM k.m.st f i)) else k.e
def eX (k:Kp) (f i:Int):Kp × Int:=
 if JH k.m.ca f i=true then
  let g:=(Bt k.m (sH k.m.ca f i)).k
  (⟨setFr k.m g.toNat (lF (aD k.m g.toNat)),k.e⟩,g)
 else
  let r:=ed ⟨k.m,Fu k f i⟩ (dx k.m f i) f i
  if r.2<0 then (r.1,-1) else (⟨{ r.1.m with ca:=r.1.m.ca.insertIdx (sH r.1.m.ca f i) ⟨f,i,r.2⟩ },r.1.e⟩,r.2)
def DT (k:Kp) (i:Nat):Kp:=
 let c:=Bt k.m i;let k1:=lQ k (bB k.m c.k)
 gB ⟨{ k1.m with ca:=k1.m.ca.eraseIdx i },k1.e⟩ c.k (-1)
end Go.Proofs.YthihaopabbpalaaGreat
namespace Pw
open Go Go.RowKit
variable {B B' b base c cap f fuel g i id k off sz:Nat} {L spare:Nat -> Bool} {P:Program} {Q:Exit -> Act -> World -> Prop} {T TX TY TZ e t t' ty:TypeId} {V v vx vy:Value} {W w' w0 w1:World} {Y Z args cs t0:Array Value} {a:Option Addr} {a0:Act} {held:Bool} {l:List Int} {o op:Oper} {ops:Array Oper} {rest:List Oper} {tm vs xs:List Value} {x:Operand} {y:Nat -> Value} {ρ:Operand -> Value}
theorem aW {k:IntKind} {a b:Int} (h:a=b):Ending.returned (.int k a) = .returned (.int k b):=by rw[h]
theorem bY {a b:Bool} (h:a=b):Ending.returned (.bool a) = .returned (.bool b):=by rw[h]
theorem ag {w:World} (h:Below w.heap.size w W) (d:Below W.heap.size W w1):Below w.heap.size w w1:=
 h.trans (d.mono h.size)
theorem gK (w:World) (o:Obj):w.heap.size<=(w.alloc o).heap.size:=((Below.refl 0 w).alloc (aZ _) o).size
theorem dE {w:World} (h:B<=w.heap.size) (o:Obj):B<=(w.alloc o).heap.size:=bi h (gK w o)
def aG (w:World) (b:Nat) (cs:Array Value) (T:TypeId):Prop:=w.heap[b]?=some (.cells cs T (0,0))
theorem aG.cell {w:World} (h:aG w b cs T):∀o,w.cell? ⟨b,o,none⟩=cs[o]?:=by
 intro o;unfold aG at h;simp[World.cell?,h]
theorem aG.free {w:World} (h:aG w b cs T):∀o,w.frozen? ⟨b,o,none⟩=false:=by
 intro o;unfold aG at h;simp[World.frozen?,h]
theorem aG.lt {w:World} (h:aG w b cs T):b<w.heap.size:=lt_of_block h
theorem aG.below {w:World} (h:aG w b cs T) (d:Below B w w') (m:b<B):aG w' b cs T:=
 (d.block b m).trans h
theorem aG.ext {w:World} (h:aG w b cs T) (d:Below w.heap.size w w'):aG w' b cs T:=h.below d h.lt
theorem aG.new (w:World) (cs:Array Value) (T:TypeId):aG (w.alloc (.cells cs T)) w.heap.size cs T:=heap_alloc_new w _
theorem aG.alloc {w:World} (h:aG w b cs T) (o:Obj):aG (w.alloc o) b cs T:=(Below.heap_alloc w o b h.lt).trans h
theorem aG.drewN {w:World} (h:aG w b cs T) (n:Nat):aG (w.drewN n) b cs T:=h
theorem aG.drew {w:World} (h:aG w b cs T):aG w.drew b cs T:=h
def dZ (w:World) (a:Option Addr) (vs:List Value):Prop:=
 ∀i u,vs[i]?=some u->∃b off,a=some ⟨b,off,none⟩/\w.cell? ⟨b,off+i,none⟩=some u
theorem dZ.below {w:World} (h:dZ w a vs) (p:Below w.heap.size w w'):dZ w' a vs:=by
 intro i u d;obtain⟨b,off,s,m⟩:=h i u d;exact⟨b,off,s,cell_later p m⟩
theorem dZ.nil {w:World} :dZ w a []:=λi u h=>by simp at h
theorem dZ.at {w:World} {a:Option Addr} {vs:List Value} (h:dZ w a vs) (m:0<vs.length):∃b off,a=some ⟨b,off,none⟩/\∀i u,vs[i]?=some u->w.cell? ⟨b,off+i,none⟩=some u:=by
 obtain⟨b,off,rfl,s⟩:=h 0 _ (aH m);refine⟨b,off,rfl,λi u p => ?_⟩;obtain⟨z,d,e,c⟩:=h i u p;simp only[jr,ui,and_true] at e;obtain⟨rfl,rfl⟩:=e;exact c
theorem flat_get {α:Type} (enc:α->List Value) (sz:Nat) (d:∀x,(enc x).length=sz):∀(l:List α) (i:Nat) (h:i<l.length) (j:Nat) (u:Value),(enc l[i])[j]?=some u->(l.flatMap enc)[i*sz+j]?=some u
 | [],i,h,_,_,_=>absurd h (fe _)
 | x::l,0,_,j,u,hj=>by
  simp only[nX,vC,dV];simp only[Da] at hj;have m:j<(enc x).length:=by
   rcases fQ j (enc x).length with h|h
   ·exact h
   ·simp[fw h] at hj
  rw[kF m];exact hj
 | x::l,i+1,h,j,u,hj=>by
  simp only[nX];have e:(i+1)*sz+j=(enc x).length+(i*sz+j):=by rw[d x,uP];omega
  rw[e,jU (by omega),AU];exact flat_get enc sz d l i (by simpa using h) j u (by simpa using hj)
theorem flat_len {α:Type} (enc:α->List Value) (sz:Nat) (d:∀x,(enc x).length=sz) (l:List α):(l.flatMap enc).length=l.length*sz:=by
 induction l with
 | nil=>simp
 | cons x l ih=>simp[nX,ih,d x,uP,JD]
theorem dZ.elem {α:Type} {enc:α->List Value} (d:∀x,(enc x).length=sz) (m:0<sz) {w:World} {l:List α} (h:dZ w a (l.flatMap enc)) (i:Nat) (s:i<l.length) :
  ∃b off,a=some ⟨b,off,none⟩/\∀j u,(enc l[i])[j]?=some u->w.cell? ⟨b,off+i*sz+j,none⟩=some u:=by
 obtain⟨b,off,A,z⟩:=h.at (by rw[flat_len enc sz d];exact Nat.mul_pos (by omega) m);exact⟨b,off,A,λj u p=>by rw[nQ];exact z _ _ (flat_get enc sz d l i s j u p)⟩
def bI (cur:Array Value):Nat->List Value->Array Value
 | _,[]=>cur
 | o,v::r=>bI (cur.setIfInBounds o v) (o+1) r
theorem size_putAt:∀(vs:List Value) (d:Array Value) (o:Nat),(bI d o vs).size=d.size
 | [],_,_=>rfl
 | v::r,d,o=>by simp[bI,size_putAt r]
theorem putAt_out:∀(vs:List Value) (d:Array Value) (o k:Nat),(k<o\/o+vs.length<=k)->(bI d o vs)[k]?=d[k]?
 | [],_,_,_,_=>rfl
 | v::r,d,o,k,h=>by simp only[qg] at h;simp only[bI];rw[putAt_out r _ _ _ (by omega),gM (by omega)]
theorem putAt_in:∀(vs:List Value) (d:Array Value) (o j:Nat) (u:Value),o+vs.length<=d.size->vs[j]?=some u->(bI d o vs)[o+j]?=some u
 | [],_,_,_,_,_,h=>by simp at h
 | v::r,d,o,0,u,hs,h=>by simp only[qg] at hs;simp only[bI];rw[putAt_out r _ _ _ (by omega)];simp at h;subst h;simp[show o<d.size by omega]
 | v::r,d,o,j+1,u,hs,h=>by simp only[qg] at hs;simp only[bI];rw[show o+(j+1)=o+1+j by omega];exact putAt_in r _ _ _ u (by simp;omega) (by simpa using h)
theorem aG.setCell {w:World} (h:aG w b cs T) (o:Nat) (v:Value):aG (w.setCell ⟨b,o,none⟩ v) b (cs.setIfInBounds o v) T:=
 heap_setCell_same w b o cs T v h
theorem aG.setCell_other {w:World} (h:aG w b cs T) (a:Addr) (v:Value) (d:b≠a.block):aG (w.setCell a v) b cs T:=
 (heap_setCell_other w a b v d).trans h
theorem aG.setCells :∀(vs:List Value) (o:Nat) {w:World} {cs:Array Value},aG w b cs T->aG (w.setCells b o vs) b (bI cs o vs) T
 | [],_,_,_,h=>h
 | v::r,o,_,_,h=>aG.setCells r (o+1) (h.setCell o v)
theorem heap_setCells_other (b:Nat):∀(vs:List Value) (o:Nat) (w:World) (k:Nat),k≠b->(w.setCells b o vs).heap[k]?=w.heap[k]?
 | [],_,_,_,_=>rfl
 | v::r,o,w,k,h=>(heap_setCells_other b r (o+1) _ k h).trans (heap_setCell_other w ⟨b,o,none⟩ k v h)
theorem size_setCells (b:Nat):∀(vs:List Value) (o:Nat) (w:World),(w.setCells b o vs).heap.size=w.heap.size
 | [],_,_=>rfl
 | v::r,o,w=>(size_setCells b r (o+1) _).trans (by simp[World.setCell])
theorem qo (b:Nat):∀(vs:List Value) (o:Nat) (w:World),(w.setCells b o vs).os=w.os/\(w.setCells b o vs).tape=w.tape/\(w.setCells b o vs).output=w.output
 | [],_,_=>⟨rfl,rfl,rfl⟩
 | _::r,o,_=>qo b r (o+1) _
theorem aC (w:World) (b o:Nat) (vs:List Value):w.grownBy (w.setCells b o vs) (some b):=
 ⟨(qo b vs o w).1,(qo b vs o w).2.1,(qo b vs o w).2.2,Dt (size_setCells b vs o w).symm,
  λk _ d=>heap_setCells_other b vs o w k (λe=>d (by rw[e]))⟩
def Own (w:World) (B:Nat) (e:TypeId) (sz:Nat) (v:Value) (n:Nat) (xs:List Value):Prop:=
 xs.length=n*sz/\((v = .slice none 0 0/\n=0) \/
  ∃g off cap cur,v = .slice (some ⟨g,off,none⟩) n cap/\B<=g/\aG w g cur e/\n<=cap/\cap<=maxLen/\off+cap*sz<=cur.size/\∀j u,xs[j]?=some u->cur[off+j]?=some u)
theorem Own.nil (w:World) (B:Nat) (e:TypeId) (sz:Nat):Own w B e sz (.slice none 0 0) 0 []:=⟨by simp,.inl ⟨rfl,rfl⟩⟩
theorem Own.of_owns {w:World} {n:Nat} (h:w.ownsRow B e sz v n xs):Own w B e sz v n xs:=by
 obtain⟨A,h⟩:=h;refine⟨A,h.imp id λ⟨g,cap,m,p,F,D,E,z,G,s⟩=>⟨g,0,cap,m,p,F,D,E,z,by omega,λj u d => ?_⟩⟩;rw[dV,<-uz];rw[<-s,mI] at d;split at d
 ·exact d
 ·cases d
theorem Own.mono {w:World} {n:Nat} (h:Own w B e sz v n xs) (s:B'<=B):Own w B' e sz v n xs:=
 ⟨h.1,h.2.imp id λ⟨g,off,cap,d,m,p,r⟩=>⟨g,off,cap,d,m,bi s p,r⟩⟩
theorem Own.below {w:World} {n:Nat} (h:Own w B e sz v n xs) (u:Below w.heap.size w w'):Own w' B e sz v n xs:=
 ⟨h.1,h.2.imp id λ⟨g,off,cap,d,m,s,p,r⟩=>⟨g,off,cap,d,m,s,p.ext u,r⟩⟩
theorem Own.grown {w:World} {row:Option Nat} {n:Nat} (h:Own w B e sz v n xs) (u:w.grownBy w' row) (d:∀g,v.ownBlock=some g->row≠some g):Own w' B e sz v n xs:=
 ⟨h.1,h.2.imp id λ⟨g,off,cap,m,p,z,s,r⟩=>⟨g,off,cap,m,p,z,(u.block g s.lt (λe=>d g (by rw[p];rfl) e.symm)).trans s,r⟩⟩
theorem Own.rd {w:World} {n:Nat} (h:Own w B e sz v n xs):∃a c,v = .slice a n c/\n<=c/\c<=maxLen/\(a=none->c=0)/\dZ w a xs:=by
 obtain⟨p,h⟩:=h;rcases h with ⟨rfl,rfl⟩|⟨g,off,cap,D,rfl,_,z,A,m,E,d⟩
 ·have:xs=[]:=kS (by simpa using p);subst this;exact⟨none,0,rfl,az _,aZ _,λ_=>rfl,dZ.nil⟩
 ·exact⟨_,cap,rfl,A,m,λe=>(Option.some_ne_none _ e).elim,λi u s=>⟨g,off,rfl,by rw[z.cell];exact d i u s⟩⟩
theorem Own.ge {w:World} {n:Nat} (h:Own w B e sz v n xs):∀k,v.ownBlock=some k->B<=k:=by
 rcases h.2 with ⟨rfl,_⟩|⟨g,off,cap,p,rfl,m,_⟩
 ·intro k d;cases d
 ·intro k d;cases d;exact m
theorem aG.grown {w:World} {row:Option Nat} (h:aG w b cs T) (m:w.grownBy w' row) (d:row≠some b):aG w' b cs T:=
 (m.block b h.lt (λe=>d e.symm)).trans h
theorem Own.alloc {w:World} {n:Nat} (h:Own w B e sz v n xs) (o:Obj):Own (w.alloc o) B e sz v n xs:=
 h.below ((Below.refl _ _).alloc (az _) _)
theorem dZ.one (w:World) (v:Value) (T:TypeId):dZ (w.alloc (.cells #[v] T)) (some ⟨w.heap.size,0,none⟩) [v]:=by
 intro i u d;refine⟨_,_,rfl,?_⟩;rw[(aG.new w #[v] T).cell];cases i with
 | zero=>simpa using d
 | succ i=>simp at d
theorem dZ.new (w:World) (cs:Array Value) (T:TypeId):dZ (w.alloc (.cells cs T)) (some ⟨w.heap.size,0,none⟩) cs.toList:=by
 intro i u d;refine⟨_,_,rfl,?_⟩;rw[(aG.new w cs T).cell,dV];simpa using d
theorem IU (k:IntKind) (n:Int):∀u∈[Value.int k n],u.oneCell' = true:=by
 intro u d;cases bC.1 d;rfl
theorem fK {w:World} {a:Act} (hg:o.guard=none) (s x:Operand) (t:TypeId)
 (M:o.op=Op.call { callee:=Callee.builtin Builtin.append,args:=#[s,x],argTypes:=#[t,t] })
 (B:Nat) (e:TypeId) (z:Value) (A E:Nat) (h1:P.underlying t=some (.slice e)) (h2:(P.info? e).map (λi=>(i.zero,i.size,i.bytes))=some (some z,A,E)) (h6:z.cells.size=A) (h7:0<A)
 (v:Value) (n:Nat) (xs:List Value) (hs:a.eval s=v) (H:Own w B e A v n xs)
 (ao:Option Addr) (m c:Nat) (D:List Value) (hx:a.eval x = .slice ao m c) (R:ao=none->c=0) (hmc:m<=c) (hn:D.length=m*A) (hrd:dZ w ao D) (h1c:∀u∈D,u.oneCell' = true)
 (b1:n+m<=maxLen) (b2:(n+m)*E<=140737488355328) (hB:B<=w.heap.size)
 (hK:∀v' w',Own w' B e A v' (n+m) (xs++D)->w.grownBy w' v.ownBlock->wpList P ops Q rest (a.put o.dst v') w') :
  wpList P ops Q (o::rest) a w:=by
 obtain⟨i,hi,hz,f,h⟩:=info_parts h2;cases ao with
 | none=>
  obtain rfl:=R rfl;obtain rfl:m=0:=by omega
  obtain rfl:D=[]:=kS (by simpa using hn);have U:wpList P ops Q rest (a.put o.dst v) w:=by have:=hK v w (by simpa using H) (IA _ _);exact this
  rcases H with ⟨hl,⟨rfl,rfl⟩|⟨g,off,cap,S,rfl,hBg,hk,hc,hm,G,F⟩⟩
  ·obtain rfl:xs=[]:=kS (by simpa using hl);exact wpList_append_own_none hg s x t M B e i A h1 hi _ 0 [] hs (Il w B e A) hx U
  refine wpList_plain hg λK p => ?_;unfold Oper.wp;simp[execOp,M,resolve,invoke,builtin,hs,hx,Builtin.append_,run_underlying h1,Go.sizeOf,typeInfo,hi,Builtin.lenOf,Builtin.firstCells,hc,storeCells,Result.andThen];exact p _ _ U
 | some ad=>
  have d:∀j u,D[j]?=some u->w.cell? (ad.add j)=some u:=by intro j u N;obtain⟨b,off,e',hc⟩:=hrd j u N;cases e';rw[qa];exact hc
  rcases H with ⟨hl,⟨rfl,rfl⟩|⟨g,off,cap,S,rfl,hBg,hk,hc,hm,G,F⟩⟩
  ·obtain rfl:xs=[]:=kS (by simpa using hl);exact wpList_append_own w hg s x t M B e i z A E h1 hi hz f h h6 h7 _ 0 [] hs (Il w B e A) ad m c D hx hn d h1c b1 b2 hB
    λv' w' r1 O _=>hK v' w' (.of_owns r1) O
  have q:n*A<=cap*A:=uE _ hc;refine wpList_append_arg w hg s x t M e i z A E h1 hi hz f h h6 h7 g off n cap xs hs hl (λj u N=>by rw[hk.cell];exact F j u N) ad m c D hx hn d h1c (λX j N => ?_) b1 b2 (λX => ?_) (λX v' w' r1 O => ?_)
  ·have h3:(n+m)*A<=cap*A:=uE _ X;rw[uP] at h3;have:off+n*A+j<S.size:=by omega
   exact⟨by rw[hk.cell];simp[this],hk.free _⟩
  ·have h3:(n+m)*A<=cap*A:=uE _ X;rw[uP] at h3;refine hK _ _ ⟨by rw[jf,hl,hn,uP],.inr ⟨g,off,cap,_,rfl,hBg,hk.setCells D (off+n*A),X,hm,by rw[size_putAt];exact G,λj u N => ?_⟩⟩ (aC _ _ _ _)
   by_cases hjl:j<xs.length
   ·rw[kF hjl] at N;rw[putAt_out _ _ _ _ (.inl (by omega))];exact F j u N
   rw[jU (by omega)] at N;have:=putAt_in D S (off+n*A) (j-xs.length) u (by omega) N;rwa [show off+n*A+(j-xs.length)=off+j by omega] at this
  have r2' : w.grownBy w' (Value.ownBlock (.slice (some ⟨g,off,none⟩) n cap)):=⟨O.os,O.tape,O.output,O.size,λk l _=>O.block k l (by simp)⟩;exact hK v' w' ((Own.of_owns r1).mono hB) r2'
theorem gV (d cs:Array Value) (h:cs.size=d.size):bI d 0 cs.toList=cs:=by
 apply mH;intro i
 by_cases m:i<cs.size
 ·have:=putAt_in cs.toList d 0 i cs[i] (by simp;omega) (by simp[m]);rw[dV] at this;rw[this];simp[m]
 ·rw[lW (by rw[size_putAt];omega),lW (by omega)]
theorem gH {w:World} {a:Act} (m:op.guard=none) (ty:TypeId) (x y:Operand) (A:op.op = .store ty x y)
 (b o:Nat) (cells:Array Value) (z:a.eval x = .pointer (some ⟨b,o,none⟩)) (u:a.eval y = .agg cells) (d:Array Value) (T:TypeId) (p:aG w b d T)
 (s:o+cells.size<=d.size) (D:(P.info? ty).map (·.size)=some cells.size) (E:cells.all (·.oneCell')=true)
 (h:∀w',aG w' b (bI d o cells.toList) T->w.grownBy w' (some b)->wpList P ops Q rest (a.put op.dst undef) w'):wpList P ops Q (op::rest) a w:=by
 refine wpList_store_mid m ty x y A b o cells z u (λj F=>⟨?_,p.free _⟩) D E (h _ (p.setCells _ _) (aC _ _ _ _));rw[p.cell];simp[show o+j<d.size by omega]
theorem aA {w:World} {a:Act} (p:op.guard=none) (ty:TypeId) (x y:Operand) (A:op.op = .store ty x y)
 (b:Nat) (cells:Array Value) (z:a.eval x = .pointer (some ⟨b,0,none⟩)) (u:a.eval y = .agg cells) (d:Array Value) (T:TypeId) (E:aG w b d T)
 (m:cells.size=d.size) (D:(P.info? ty).map (·.size)=some cells.size) (F:cells.all (·.oneCell')=true)
 (h:∀w',aG w' b cells T->w.grownBy w' (some b)->wpList P ops Q rest (a.put op.dst undef) w'):wpList P ops Q (op::rest) a w:=by
 refine gH p ty x y A b 0 cells z u d T E (by omega) D F λw' s c => ?_;rw[gV d cells m] at s;exact h w' s c
theorem ko {α:Type} (f:α->Value) (l:List α):l.flatMap (λx=>[f x])=l.map f:=by
 induction l with
 | nil=>rfl
 | cons x l ih=>simp[ih]
def CQ (b:UInt8):Value:=.int .u8 b.toNat
def fZ (n:Int):Value:=.int .i64 n
def fP (p:Page):Array Value:=#[Value.int .u8 p[0].toNat,Value.int .u8 p[1].toNat,Value.int .u8 p[2].toNat,Value.int .u8 p[3].toNat,Value.int .u8 p[4].toNat,Value.int .u8 p[5].toNat,Value.int .u8 p[6].toNat,Value.int .u8 p[7].toNat]
theorem Tc (p:Page):(fP p).size=8:=rfl
theorem OB (p:Page) (k:Nat) (h:k<8):(fP p)[k]?=some (Value.int .u8 p[k].toNat):=by
 match k,h with
 | 0,_=>rfl
 | 1,_=>rfl
 | 2,_=>rfl
 | 3,_=>rfl
 | 4,_=>rfl
 | 5,_=>rfl
 | 6,_=>rfl
 | 7,_=>rfl
 | n+8,h=>omega
theorem Bg (p:Page) (k:Nat) (h:k<8) (b:UInt8):(fP p).setIfInBounds k (.int .u8 b.toNat)=fP (p.set k b):=by
 match k,h with
 | 0,_=>simp[fP]
 | 1,_=>simp[fP]
 | 2,_=>simp[fP]
 | 3,_=>simp[fP]
 | 4,_=>simp[fP]
 | 5,_=>simp[fP]
 | 6,_=>simp[fP]
 | 7,_=>simp[fP]
 | n+8,h=>omega
theorem xV (p:Page):(fP p)[0]?=some (Value.int .u8 p[0].toNat)/\(fP p)[1]?=some (Value.int .u8 p[1].toNat)/\(fP p)[2]?=some (Value.int .u8 p[2].toNat)/\(fP p)[3]?=some (Value.int .u8 p[3].toNat)/\(fP p)[4]?=some (Value.int .u8 p[4].toNat)/\(fP p)[5]?=some (Value.int .u8 p[5].toNat)/\(fP p)[6]?=some (Value.int .u8 p[6].toNat)/\(fP p)[7]?=some (Value.int .u8 p[7].toNat):=
 ⟨rfl,rfl,rfl,rfl,rfl,rfl,rfl,rfl⟩
theorem je (p:Page):(fP p).all (·.oneCell')=true:=by simp[fP,Value.oneCell']
theorem FQ (w:World) (e:TypeId) (k:IntKind) (cs:Array Value) (off:Nat) (v:Value) (h:P.underlying e=some (.int k)) (d:cs[off]?=some v) :
  (part e cs off).run P w = .ok v w:=by
 simp[part,isAgg,run_underlying h,d]
theorem Cv (w:World) (d:Nat) (t e:TypeId) (u:P.underlying t=some (.array 8 e)) (s:P.underlying e=some (.int .u8)) (m:(P.info? e).map (·.size)=some 1) (p q:Page) :
  (Op.equalIn (d+2) t (.agg (fP p)) (.agg (fP q))).run P w = .ok (p==q) w:=by
 cases hq:P.info? e with
 | none=>simp[hq] at m
 | some i=>
 have z:i.size=1:=by simpa[hq] using m
 rw[Tp];unfold Op.equalIn;simp only[kW,run_underlying u,qK,Go.sizeOf,typeInfo,run_program,hq,z,qP];simp only[Std.Legacy.Range.forIn_eq_forIn_range',List.range',Std.Legacy.Range.size];have g:∀(r:Page) (k:Nat) (h:k<8) (w:World),(part e (fP r) k).run P w = .ok (.int .u8 r[k].toNat) w:=λr k h w=>FQ w e .u8 _ _ _ s (OB r k h);have c:∀(a b:UInt8) (w:World),(Op.equalIn (d+1) e (.int .u8 a.toNat) (.int .u8 b.toNat)).run P w = .ok (a==b) w:=λa b w=>by rw[run_equalIn_int w d e .u8 .u8 _ _ s,WK]
 simp[g,c]
 repeat' split
 all_goals simp_all
def Gives (P:Program) (o:Oper) (a:Act) (w:World) (F:Value->World->Prop):Prop:=
 match (execOp a.eval o).run P w with
 | .ok (.value v) w'=>F v w'
 | .ok .skip w'=>F undef w'
 | .ok (.enter f args) w'=>Calls P f args w' fun | .returned v,w''=>F v w'' | _,_=>False
 | _=>False
def lay (L:Nat->Bool) (y:Nat->Value):List Oper->Nat->Array Value->Array Value
 | [],_,t=>t
 | o::r,i,t=>lay L y r (i+1) (match o.dst with | some d=>if L i then t.setIfInBounds d (y i) else t | none=>t)
theorem lay_size (L:Nat->Bool) (y:Nat->Value):∀(l:List Oper) (i:Nat) (t:Array Value),(lay L y l i t).size=t.size
 | [],_,_=>rfl
 | o::r,i,t=>by
  simp only[lay];rw[lay_size L y r];cases o.dst with
  | none=>rfl
  | some d=>simp only[];split<;>simp
theorem jk (L:Nat->Bool) (y:Nat->Value) (s:Nat):∀(l:List Oper) (i:Nat) (t:Array Value),(∀k o,l[k]?=some o->o.dst=some s->L (i+k)=false)->(lay L y l i t)[s]?=t[s]?
 | [],_,_,_=>rfl
 | o::r,i,t,h=>by
  simp only[lay];rw[jk L y s r (i+1) _ (λk u z p=>by have:=h (k+1) u (by simpa using z) p;rwa [show i+(k+1)=i+1+k by omega] at this)];cases p:o.dst with
  | none=>rfl
  | some d=>
   simp only[];split
   ·rename_i A;have m:d≠s:=by intro e;subst e;have:=h 0 o (by simp) p;simp[A] at this
    rw[gM m]
   ·rfl
theorem mg (L:Nat->Bool) (y:Nat->Value) (s:Nat):∀(l:List Oper) (i:Nat) (t:Array Value) (k:Nat) (o:Oper),l[k]?=some o->o.dst=some s->L (i+k)=true ->
  (∀z u,l[z]?=some u->u.dst=some s->z = k)->s<t.size->(lay L y l i t)[s]?=some (y (i+k))
 | [],_,_,_,_,h,_,_,_,_=>by simp at h
 | o0::r,i,t,0,o,hk,hd,hL,hu,hs=>by simp at hk;subst hk;simp only[lay,hd];rw[jk L y s r (i+1) _ (λk u m p=>by have:=hu (k+1) u (by simpa using m) p; omega)];rw[iJ] at hL;simp[hL,hs]
 | o0::r,i,t,k+1,o,hk,hd,hL,hu,hs=>by
  simp only[lay];have:=mg L y s r (i+1) (match o0.dst with | some d=>if L i then t.setIfInBounds d (y i) else t | none=>t) k o (by simpa using hk) hd (by rwa [show i+1+k=i+(k+1) by omega])
   (λz u m p=>by have:=hu (z + 1) u (by simpa using m) p; omega)
   (by cases o0.dst with
     | none=>exact hs
     | some d=>simp only[];split<;>simpa using hs)
  rw[this];congr 2;omega
theorem rR (L L' : Nat->Bool) (y:Nat->Value):∀(l:List Oper) (i:Nat) (t:Array Value),(∀k,k<l.length->L (i+k)=L' (i+k))->lay L y l i t=lay L' y l i t
 | [],_,_,_=>rfl
 | o::r,i,t,h=>by
  simp only[lay];have d:L i=L' i:=by simpa using h 0 (by simp)
  rw[d];exact rR L L' y r (i+1) _ λk m=>by have:=h (k+1) (by simp;omega);rwa [show i+(k+1)=i+1+k by omega] at this
def jX (ops:Array Oper):Bool:=
 (List.range ops.size).all λi=>match ops[i]? with
  | none=>true
  | some o=>
   (match o.op with | .select ..=>false | _=>true) &&
   o.after.toList.all (λe=>Region.binds .any e&&decide (e.on<i)) &&
   (List.range ops.size).all λj=>match ops[j]? with
    | none=>true
    | some p=>match p.dst with
     | none=>true
     | some d=>(decide (i=j)||o.dst != some d)&&(!(o.looksAt ops).contains d||o.after.toList.any (λe=>decide (e.on=j)))
theorem ib (h:jX ops=true) (A:ops[i]?=some o) :
  (∀cs b,o.op ≠ .select cs b)/\(∀e∈o.after,Region.binds .any e=true/\e.on<i) /\
  ∀j p d,ops[j]?=some p->p.dst=some d->(i=j\/o.dst≠some d)/\(d∈o.looksAt ops->∃e∈o.after,e.on=j):=by
 have c:i<ops.size:=(iU.1 A).1;have D:=eZ.1 h i (eG.2 c);simp only[A,dU] at D;obtain⟨⟨h2,H⟩,G⟩:=D;refine⟨?_,?_,?_⟩
 ·intro cs b e;simp[e] at h2
 ·intro e s;have:=eZ.1 H e (nN.2 s);simpa using this
 intro j p d z E;have f:j<ops.size:=(iU.1 z).1;have u:=eZ.1 G j (eG.2 f);simp only[z,E,dU,uN,decide_eq_true_eq,bne_iff_ne,ne_eq,tO,jK] at u;refine⟨u.1,λa => ?_⟩;rcases u.2 with m|⟨e,s,m⟩
 ·have F:(o.looksAt ops).contains d=true:=List.contains_iff_mem.2 a;rw[F] at m;cases m
 ·exact⟨e,nN.1 s,m⟩
theorem BR (z:jX ops=true) (M:ops[i]?=some o) (O:∀e∈o.after,L e.on=true) (t:Nat) (H:t∈o.looksAt ops) :
  (lay L y ops.toList 0 a0.tmps)[t]?=(lay (λ_=>true) y ops.toList 0 a0.tmps)[t]?:=by
 obtain⟨_,_,G⟩:=ib z M
 by_cases u:t<a0.tmps.size
 ·by_cases s:∃(j:Nat) (p:Oper),ops[j]?=some p/\p.dst=some t
  ·obtain⟨j,p,D,m⟩:=s;obtain⟨e,N,b⟩:=(G j p t D m).2 H;have F:∀A d,ops.toList[A]?=some d->d.dst=some t->A = j:=by
    intro A d a c;have:=(ib z (i:=A) (o:=d) (by simpa using a)).2.2 j p t D m;rcases this.1 with h|h
    ·exact h
    ·exact absurd c h
   rw[mg L y t _ 0 _ j p (by simpa using D) m (by rw[dV,<-b];exact O e N) F u,
    mg (λ_=>true) y t _ 0 _ j p (by simpa using D) m rfl F u]
  ·rw[jk L y t _ 0 _ (λk d E m=>absurd ⟨k,d,by simpa using E,m⟩ s),jk (λ_=>true) y t _ 0 _ (λk d E m=>absurd ⟨k,d,by simpa using E,m⟩ s)]
 ·rw[lW (by rw[lay_size];omega),lW (by rw[lay_size];omega)]
theorem IZ (S:jX ops=true) {m:Array Bool} (M:ops[i]?=some o) (U:m.size=ops.size) (v:Value) :
  ({ a0 with tmps:=lay (λi=>m.getD i false) y ops.toList 0 a0.tmps }:Act).put o.dst v =
   { a0 with tmps:=lay (λk=>(m.setIfInBounds i true).getD k false) (λk=>if k=i then v else y k) ops.toList 0 a0.tmps }:=by
 have l:i<ops.size:=(iU.1 M).1;have g:(m.setIfInBounds i true).getD i false=true:=by simp[cO,show i<m.size by omega]
 have c:∀k,k≠i->(m.setIfInBounds i true).getD k false=m.getD k false:=λk D=>by simp[cO,gM (ou D)]
 have u:(({ a0 with tmps:=lay (λi=>m.getD i false) y ops.toList 0 a0.tmps }:Act).put o.dst v).tmps=lay (λk=>(m.setIfInBounds i true).getD k false) (λk=>if k=i then v else y k) ops.toList 0 a0.tmps:=by
  apply mH;intro s
  by_cases R:s<a0.tmps.size
  ·by_cases E:∃(j:Nat) (p:Oper),ops[j]?=some p/\p.dst=some s
   ·obtain⟨j,p,H,F⟩:=E;have G:∀O z,ops.toList[O]?=some z->z.dst=some s->O = j:=by
     intro O z f a;rcases ((ib S (i:=O) (o:=z) (by simpa using f)).2.2 j p s H F).1 with h|h
     ·exact h
     ·exact absurd a h
    by_cases A:j=i
    ·subst A;obtain rfl:o=p:=by rw[M] at H;exact aM H
     rw[mg (λk=>(m.setIfInBounds j true).getD k false) _ s _ 0 _ j o (by simpa using M) F (by simpa using g) G R];simp only[Act.put,F,dV,if_true];rw[sI (by rw[lay_size];exact R)]
    have b:o.dst≠some s:=λe=>A ((G i o (by simpa using M) e).symm);have N:(({ a0 with tmps:=lay (λi=>m.getD i false) y ops.toList 0 a0.tmps }:Act).put o.dst v).tmps[s]?=(lay (λi=>m.getD i false) y ops.toList 0 a0.tmps)[s]?:=by
     cases ho:o.dst with
     | none=>rfl
     | some d=>
      have:d≠s:=λe=>b (by rw[ho,e]);simp only[Act.put];rw[gM this]
    rw[N];cases hLj:m.getD j false with
    | true=>
     rw[mg (λi=>m.getD i false) y s _ 0 _ j p (by simpa using H) F (by simpa using hLj) G R,
      mg (λk=>(m.setIfInBounds i true).getD k false) _ s _ 0 _ j p (by simpa using H) F (by rw[dV,c j A];exact hLj) G R]
     simp[A]
    | false=>
     rw[jk (λi=>m.getD i false) y s _ 0 _ (λk z D a=>by rw[dV,G k z D a];exact hLj),
      jk (λk=>(m.setIfInBounds i true).getD k false) _ s _ 0 _ (λk z D a=>by rw[dV,G k z D a,c j A];exact hLj)]
   have b:o.dst≠some s:=λe=>E ⟨i,o,M,e⟩;have N:(({ a0 with tmps:=lay (λi=>m.getD i false) y ops.toList 0 a0.tmps }:Act).put o.dst v).tmps[s]?=(lay (λi=>m.getD i false) y ops.toList 0 a0.tmps)[s]?:=by
    cases ho:o.dst with
    | none=>rfl
    | some d=>
     have:d≠s:=λe=>b (by rw[ho,e]);simp only[Act.put];rw[gM this]
   rw[N,jk _ y s _ 0 _ (λk z D F=>absurd ⟨k,z,by simpa using D,F⟩ E),jk _ _ s _ 0 _ (λk z D F=>absurd ⟨k,z,by simpa using D,F⟩ E)]
  have N:(({ a0 with tmps:=lay (λi=>m.getD i false) y ops.toList 0 a0.tmps }:Act).put o.dst v).tmps.size=a0.tmps.size:=by
   cases o.dst with
   | none=>exact lay_size _ _ _ _ _
   | some d=>simp[Act.put,lay_size]
  rw[lW (by rw[N];omega),lW (by rw[lay_size];omega)]
 cases hdst:o.dst with
 | none=>rw[hdst] at u;simp only[Act.put] at u ⊢; rw[u]
 | some d=>rw[hdst] at u;simp only[Act.put] at u ⊢; rw[u]
theorem sJ {a b:Act} {w:World} {F:Value->World->Prop} {K:Act->World->Prop} (z:ops[i]?=some o)
 (d:Region.wanted o (yielded ops a.tmps)=true) (m:execOp a.eval o=execOp b.eval o) (h:Gives P o b w F) (s:∀v w',F v w'->K (a.put o.dst v) w'):wpOp P ops Q i K a w:=by
 unfold wpOp;simp only[z,d,if_true];refine .inl ?_;unfold Oper.wp;rw[m];unfold Gives at h;generalize (execOp b.eval o).run P w=r at h ⊢;cases r with
 | ok n w'=>
  cases n with
  | value v=>exact s _ _ h
  | skip=>exact s _ _ h
  | enter f args=>
   refine xQ h λe u p => ?_;cases e with
   | returned v=>exact s _ _ p
   | panicked c=>exact p.elim
   | outgrown=>exact p.elim
  | _=>exact h.elim
 | halt x w'=>exact h.elim
def writer (ops:Array Oper) (t:Nat):Option Nat:=(List.range ops.size).find? λi=>match ops[i]? with | some o=>o.dst==some t | none=>false
def gW (ρ:Operand->Value) (ops:Array Oper) (g:Nat):Option Bool:=
 match (ops[g]?).bind (·.dst) with
 | some d=>match ρ (.tmp d) with | .bool b=>some b | _=>none
 | none=>none
def dS (P:Program) (o:Oper) (ρ:Operand->Value) (w:World) (F:Value->World->Prop):Prop:=
 match (execOp ρ o).run P w with
 | .ok (.value v) w'=>F v w'
 | .ok .skip w'=>F undef w'
 | .ok (.enter f args) w'=>Calls P f args w' fun | .returned v,w''=>F v w'' | _,_=>False
 | _=>False
structure mQ where
 r:Value->World->Prop
 st:∀v w w',Below w.heap.size w w'->r v w->r v w'
def mV (V:Value):mQ:=⟨λv _=>v=V,λ_ _ _ _ h=>h⟩
def anyR:mQ:=⟨λ_ _=>True,λ_ _ _ _ _=>trivial⟩
def XL (n:Nat) (vs:List Value):mQ:=⟨λv w => ∃a c,v = .slice a n c/\n<=c/\c<=maxLen/\(a=none->c=0)/\dZ w a vs,
 λ_ _ _ hb ⟨a,c,h1,h2,h3,h4,h5⟩=>⟨a,c,h1,h2,h3,h4,h5.below hb⟩⟩
def rl (l:List mQ) (i:Nat) (v:Value) (w:World):Prop:=(l.getD i anyR).r v w
def bn (C:Nat->Oper->Prop):Nat->List Oper->Prop
 | _,[]=>True
 | k,o::r=>C k o/\bn C (k+1) r
theorem aF {C:Nat->Oper->Prop} :bn C k []:=trivial
theorem ah {C:Nat->Oper->Prop} {r:List Oper} (h:C k o) (d:bn C (k+1) r):bn C k (o::r):=⟨h,d⟩
theorem bn.at {C:Nat->Oper->Prop}:∀ {l:List Oper} {k:Nat},bn C k l->∀i o,l[i]?=some o->C (k+i) o
 | [],_,_,_,_,h=>by simp at h
 | o::r,k,h,0,o',hi=>by simp at hi;subst hi;exact h.1
 | o::r,k,h,i+1,o',hi=>by have:=bn.at h.2 i o' (by simpa using hi);rwa [show k+(i+1)=k+1+i by omega]
def oz (P:Program) (ops:Array Oper) (a0:Act) (w0:World) (l:List mQ) (i:Nat) (o:Oper):Prop:=
 ∀(ρ:Operand->Value) (y:Nat->Value) (w:World),(∀t j,writer ops t=some j->ρ (.tmp t)=y j)->(∀x,(match x with | .tmp t=>writer ops t=none | _=>True)->ρ x=a0.eval x) ->
  Below w0.heap.size w0 w->(∀j,o.after.toList.any (λe=>e.on==j)=true->rl l j (y j) w) ->
  if Region.wanted o (gW ρ ops)=true then dS P o ρ w (λv w'=>Below w.heap.size w w'/\rl l i v w') else rl l i undef w
def kU (ops:Array Oper) (n:Nat):Bool:=ops.toList.all λo=>match o.dst with | some d=>decide (d<n) | none=>true
theorem ak {w:World} {l:List mQ} (v:Value) (h:Region.wanted o (gW ρ ops)=true) (d:(execOp ρ o).run P w = .ok (.value v) w) (m:rl l i v w) :
  if Region.wanted o (gW ρ ops)=true then dS P o ρ w (λv w'=>Below w.heap.size w w'/\rl l i v w') else rl l i undef w:=by
 rw[if_pos h];unfold dS;rw[d];exact⟨Below.refl _ _,m⟩
theorem ED {w:World} {l:List mQ} (d:Region.wanted o (gW ρ ops)=false) (h:rl l i undef w) :
  if Region.wanted o (gW ρ ops)=true then dS P o ρ w (λv w'=>Below w.heap.size w w'/\rl l i v w') else rl l i undef w:=by
 rw[if_neg (by rw[d];exact Bool.false_ne_true)];exact h
theorem aO {w:World} {l:List mQ} (f:FuncId) (args:Array Value) (m:Region.wanted o (gW ρ ops)=true) (d:(execOp ρ o).run P w = .ok (.enter f args) w)
 (p:Calls P f args w λe w' => ∃v,e = .returned v/\Below w.heap.size w w'/\rl l i v w') :
  if Region.wanted o (gW ρ ops)=true then dS P o ρ w (λv w'=>Below w.heap.size w w'/\rl l i v w') else rl l i undef w:=by
 rw[if_pos m];unfold dS;rw[d];refine p.mono λe w' ⟨v,he,h⟩ => ?_;subst he;exact h
theorem aj {y:Nat->Option Bool} (d:o.guard=none):Region.wanted o y=true:=by simp[Region.wanted,d]
theorem bD (g d:Nat) (b h:Bool) (p:o.guard=some (g,h)) (s:(ops[g]?).bind (·.dst)=some d) (m:ρ (.tmp d) = .bool b):Region.wanted o (gW ρ ops)=(b==h):=by
 simp only[Region.wanted,p,gW,s,m];cases b<;>cases h<;>rfl
theorem dW {w:World} {d:TypeDesc} (p:o.op = .load ty x) (h:ρ x = .pointer (some ⟨b,0,none⟩)) (z:aG w b cs T)
 (m:P.underlying ty=some d) (u:(match d with | .struct _ | .array _ _=>true | _=>false)=true) (s:(P.info? ty).map (·.size)=some cs.size):(execOp ρ o).run P w = .ok (.value (.agg cs)) w:=by
 unfold execOp;simp only[p,h,Instr.loadAt,Instr.sureAddr,kW,qP,qK,run_loadVar_row w b T ty cs (0,0) d z m u s]
theorem run_move {w:World} (d:o.op = .move x\/o.op = .assign x) (h:ρ x=v):(execOp ρ o).run P w = .ok (.value v) w:=by
 rcases d with d|d<;>simp[execOp,d,h]
theorem aT {w:World} {f:FuncId} {xs:Array Operand} {m:Array TypeId} {d:Func} (p:o.op = .call { callee:=.value (.func f),args:=xs,argTypes:=m })
 (hρ : ρ (.func f) = .func (.func f) #[] #[]) (hf : P.funcs[f]? = some d) (hn : (d.name == "runtime.NumGoroutine") = false) (hb : d.body.isNone = false) (ha : xs.map ρ = args) : (execOp ρ o).run P w = .ok (.enter f args) w := by
 have u:execOp ρ o=callFunc f args:=by
  unfold execOp;simp only[p];have s:resolve ρ { callee:=.value (.func f),args:=xs,argTypes:=m } o.type=Sem.pure { target:=.fn (.func f) #[],args:=args }:=by unfold resolve;simp only[hρ,ha];simp[Deferred.ofValue];rfl
  rw[s];show callFunc f (args++#[])=_;simp
 rw[u];have a : ¬ d.name = "runtime.NumGoroutine" := by simpa using hn
 have b : ¬d.body=none:=λh=>by simp[h] at hb
 unfold callFunc;simp[hf,a,b]
theorem qm {w:World} {op:BinOp} {y:Operand} (p:o.op = .binOp op t x y t') (h:ρ x=vx) (d:ρ y=vy)
 (m:(do eqGuard op t x y vx vy;binOp op t vx vy:Sem Value).run P w = .ok v w):(execOp ρ o).run P w = .ok (.value v) w:=by
 unfold execOp;simp only[p,h,d];rw[kW,m];rfl
theorem qB {w:World} {c y:Operand} {b:Bool} (h:o.op = .pick c x y) (m:ρ c = .bool b) (d:(if b then ρ x else ρ y)=v):(execOp ρ o).run P w = .ok (.value v) w:=by
 unfold execOp;simp only[h,m];subst d;cases b<;>rfl
theorem CJ {w:World} {b:Bool} (h:o.op = .unOp .not t x) (d:ρ x = .bool b):(execOp ρ o).run P w = .ok (.value (.bool (!b))) w:=by
 unfold execOp;simp only[h,d];rfl
theorem Lf {w:World} {n:Nat} (m:o.op = .call { callee:=.builtin .len,args:=#[x],argTypes:=#[t] }) (d:ρ x = .slice a n c) (h:P.underlying t=some (.slice (P.elem t))):(execOp ρ o).run P w = .ok (.value (.int .i64 n)) w:=by
 unfold execOp;simp only[m];simp[d,resolve,invoke,builtin,run_len_slice _ t o.type a n c h];rfl
theorem FW {w:World} (m:o.op = .fieldAddr t x f) (d:ρ x=vx) (h:(Instr.fieldAt t vx f).run P w = .ok v w):(execOp ρ o).run P w = .ok (.value v) w:=by
 unfold execOp;simp only[m,d];rw[kW,h];rfl
theorem run_load {w:World} (m:o.op = .load t x) (d:ρ x=vx) (h:(Instr.loadAt t vx).run P w = .ok v w):(execOp ρ o).run P w = .ok (.value v) w:=by
 unfold execOp;simp only[m,d];rw[kW,h];rfl
def KV (ops:Array Oper) (a0:Act) (l:List mQ) (o:Oper) (t:Nat) (v:Value):Prop:=
 (∃k,writer ops t=some k/\o.after.toList.any (λe=>e.on==k)=true/\l.getD k anyR=mV v)\/(writer ops t=none/\a0.eval (.tmp t)=v)
theorem XO {l:List mQ} {t:Nat} (d:writer ops t=none) (h2:a0.eval (.tmp t)=v):KV ops a0 l o t v:=.inr ⟨d,h2⟩
def XJ (P:Program) (ops:Array Oper) (a0:Act) (l:List mQ) (i:Nat) (o:Oper):Prop:=
 ∀(ρ:Operand->Value) (y:Nat->Value) (w:World),(∀t j,writer ops t=some j->ρ (.tmp t)=y j)->(∀x,(match x with | .tmp t=>writer ops t=none | _=>True)->ρ x=a0.eval x) ->
  (∀j,o.after.toList.any (λe=>e.on==j)=true->rl l j (y j) w)->∃v,(execOp ρ o).run P w = .ok (.value v) w/\rl l i v w
def OkW (ops:Array Oper) (l:List mQ) (o:Oper) (b:Bool):Prop:=
 ∀(ρ:Operand->Value) (y:Nat->Value) (w:World),(∀t j,writer ops t=some j->ρ (.tmp t)=y j)->(∀j,o.after.toList.any (λe=>e.on==j)=true->rl l j (y j) w)->Region.wanted o (gW ρ ops)=b
theorem XP {l:List mQ} (d:o.guard=none):OkW ops l o true:=λ_ _ _ _ _=>aj d
section
variable {P:Program} {ops:Array Oper} {a0:Act} {w0:World} {l:List mQ} {i:Nat} {o:Oper}
theorem KV.at {t:Nat} {v:Value} (h:KV ops a0 l o t v) {ρ:Operand->Value} {y:Nat->Value} {w:World} (p:∀t j,writer ops t=some j->ρ (.tmp t)=y j) (s:∀x,(match x with | .tmp t=>writer ops t=none | _=>True)->ρ x=a0.eval x) (u:∀j,o.after.toList.any (λe=>e.on==j)=true->rl l j (y j) w):ρ (.tmp t)=v:=by
 rcases h with ⟨k,m,h2,z⟩|⟨m,h2⟩
 ·have d:=u k h2;unfold rl at d;rw[z] at d;exact (p t k m).trans d
 ·exact (s (.tmp t) m).trans h2
theorem WZ {w:World} (d:l.getD i anyR=mV V) (e:v=V):rl l i v w:=by unfold rl;rw[d];exact e
theorem XN {t:Nat} (p:o.op = .move (.tmp t)) (d:KV ops a0 l o t V) (m:l.getD i anyR=mV V):XJ P ops a0 l i o:=λρ y w h s u=>⟨V,run_move (.inl p) (d.at h s u),WZ m rfl⟩
theorem XQ (s:OkW ops l o true) (h:XJ P ops a0 l i o):oz P ops a0 w0 l i o:=λρ y w d p _ m=>by
 obtain⟨v,u,h2⟩:=h ρ y w d p m;exact ak v (s ρ y w d m) u h2
end
theorem jY {α:Type} (enc:α->List Value) (sz:Nat) (d:∀x,(enc x).length=sz) (l:List α) (i:Nat) (h:i<l.length) (j:Nat) (m:j<sz):(l.flatMap enc)[i*sz+j]?=(enc l[i])[j]?:=by
 have e:(enc l[i])[j]?=some ((enc l[i])[j]'(by rw[d];exact m)):=aH _;rw[e];exact flat_get enc sz d l i h j _ e
theorem Lx {α:Type} (enc:α->List Value) (sz:Nat) (d:∀x,(enc x).length=sz) (D:0<sz) (l:List α) (m:Nat) (u:Value) (h:(l.flatMap enc)[m]?=some u) :
  ∃i j,∃p:i<l.length,m=i*sz+j/\j<sz/\(enc l[i])[j]?=some u:=by
 have E:m<l.length*sz:=by
  rcases fQ m (l.flatMap enc).length with s|s
  ·rwa [flat_len enc sz d] at s
  ·rw[fw s] at h;cases h
 have z:=tC m D;have A:=Nat.div_add_mod m sz;have p:m / sz<l.length:=Nat.div_lt_of_lt_mul (by rw[xY];exact E);refine⟨m / sz,m%sz,p,by rw[xY];exact A.symm,z,?_⟩;rw[<-jY enc sz d l _ p _ z,xY,A];exact h
theorem Ai {α:Type} (enc:α->List Value) (sz:Nat) (d:∀x,(enc x).length=sz) (D:0<sz) (l:List α) (k:Nat) (F:k<l.length) (x:α) (off:Nat) (s:Array Value) (A:off+l.length*sz<=s.size)
 (h:∀j u,(l.flatMap enc)[j]?=some u->s[off+j]?=some u):∀j u,((l.set k x).flatMap enc)[j]?=some u->(bI s (off+k*sz) (enc x))[off+j]?=some u:=by
 intro m u E;obtain⟨i,j,H,rfl,G,e⟩:=Lx enc sz d D _ m u E;have b : i<l.length:=by simpa using H
 by_cases p:i=k
 ·subst p;rw[show off+(i*sz+j)=(off+i*sz)+j from by omega];have z:(i+1)*sz<=l.length*sz:=uE _ F;rw[uP] at z;exact putAt_in _ _ _ _ _ (by rw[d];omega) (by simpa using e)
 have a:off+(i*sz+j)<off+k*sz\/off+k*sz+(enc x).length<=off+(i*sz+j):=by
  rw[d];rcases vN p with z|z
  ·have:=uE sz z;rw[Dy] at this;omega
  have:=uE sz z;rw[Dy] at this;omega
 rw[putAt_out _ _ _ _ a];refine h _ _ ?_;rw[jY enc sz d l i b j G];rw[Dj (λe=>p e.symm)] at e;exact e
theorem Own.put {α:Type} {enc:α->List Value} (m:∀x,(enc x).length=sz) (H:0<sz) {w:World} {l:List α} (h:Own w B e sz v l.length (l.flatMap enc)) (k:Nat) (p:k<l.length) :
  ∃g off cap d,v = .slice (some ⟨g,off,none⟩) l.length cap/\B<=g/\aG w g d e/\off+k*sz+sz<=d.size/\(∀j u,(enc l[k])[j]?=some u->w.cell? ⟨g,off+k*sz+j,none⟩=some u) /\
   ∀w' x,aG w' g (bI d (off+k*sz) (enc x)) e->Own w' B e sz v l.length ((l.set k x).flatMap enc):=by
 obtain⟨O,h⟩:=h;rcases h with ⟨_,R⟩|⟨g,off,cap,d,rfl,E,A,D,M,G,z⟩
 ·omega
 have N:(k+1)*sz<=l.length*sz:=uE _ p;have h2:l.length*sz<=cap*sz:=uE _ D;rw[uP] at N;refine⟨g,off,cap,d,rfl,E,A,by omega,λj u s => ?_,λw' x F=>⟨?_,.inr ⟨g,off,cap,_,rfl,E,F,D,M,by rw[size_putAt];exact G,?_⟩⟩⟩
 ·rw[A.cell,nQ];refine z _ _ ?_;have a : j<sz:=by
   rcases fQ j sz with h|h
   ·exact h
   ·rw[fw (by rw[m];exact h)] at s;cases s
  rw[jY enc sz m l k p j a];exact s
 ·rw[flat_len enc sz m,bK]
 ·exact Ai enc sz m H l k p x off d (by omega) z
theorem Own.put1 {f:Int->Value} {w:World} (h:Own w B e 1 v l.length (l.map f)) (k:Nat) (u:k<l.length) :
  ∃g off cap,v = .slice (some ⟨g,off,none⟩) l.length cap/\B<=g/\g<w.heap.size/\w.cell? ⟨g,off+k,none⟩=some (f l[k])/\w.frozen? ⟨g,off+k,none⟩=false /\
   ∀x,Own (w.setCell ⟨g,off+k,none⟩ (f x)) B e 1 v l.length ((l.set k x).map f):=by
 rw[<-ko] at h;obtain⟨g,off,cap,A,rfl,z,d,s,p,m⟩:=h.put (sz:=1) (λ_=>rfl) Nat.one_pos k u;rw[tN] at s p m;refine⟨g,off,cap,rfl,z,d.lt,by simpa using p 0 _ rfl,d.free _,λx => ?_⟩;rw[<-ko];exact m _ x (by simpa[bI] using d.setCell (off+k) (f x))
theorem GN {α:Type} (enc:α->List Value) (sz:Nat) (d:∀x,(enc x).length=sz) (s:0<sz) (z:Array Value) (x:α) (p:z.toList=enc x) (n:Nat):(madeCells z (n*sz)).toList=(List.replicate n x).flatMap enc:=by
 have b:z.size=sz:=by rw[<-d x,<-p];simp
 apply uH
 ·rw[flat_len enc sz d];simp[size_madeCells]
 intro m D h2;have E:m<n*sz:=by simpa[size_madeCells] using D
 have A:((List.replicate n x).flatMap enc)[m]?=some ((List.replicate n x).flatMap enc)[m]:=aH h2;obtain⟨i,j,F,e,u,h⟩:=Lx enc sz d s _ m _ A;rw[List.getElem_replicate] at h;have a:m%z.size=j:=by rw[b,e,xY,Nat.mul_add_mod,rF u]
 simp only[madeCells,Array.toList_map,wy,Array.toList_range,IW,a];rw[<-p,uz] at h;rw[Array.getElem!_eq_getD,cO,h];rfl
theorem GY (w:World) {a:Act} 
 (N:o.guard=none) (l c:Operand) (t:TypeId) (s:o.op=Op.makeSlice t l c)
 {α:Type} (enc:α->List Value) (e:TypeId) (z:Value) (h m:Nat) (x:α) (p:∀x,(enc x).length=h) (G:0<h) (h1:P.underlying t=some (.slice e)) (h2:(P.info? e).map (λi=>(i.zero,i.size,i.bytes))=some (some z,h,m)) (E:z.cells.toList=enc x)
 (u A:IntKind) (L C:Int) (n:Nat) (H:a.eval l = .int u L) (O:a.eval c = .int A C) (S:L=(n:Int)) (X:C=(n:Int)) (b2:m*n<=281474976710656) (b3:n<=maxLen)
 (U:∀w',Own w' w.heap.size e h (.slice (some ⟨w.heap.size,0,none⟩) n n) n ((List.replicate n x).flatMap enc)->w.grownBy w' none->wpList P ops Q rest (a.put o.dst (.slice (some ⟨w.heap.size,0,none⟩) n n)) w') :
  wpList P ops Q (o::rest) a w:=by
 obtain⟨i,M,b,F,R⟩:=info_parts h2;refine wpList_make_full w N l c t s w.heap.size e i z h h1 M b F u A L C n H O S X (by rw[R];exact b2) b3 (az _) λw' D d=>U w' ?_ d;rw[GN enc h p G z.cells x E] at D;exact Own.of_owns D
theorem own_ne {w:World} {n:Nat} (h:Own w B e sz v n xs) (p:aG w g cs T) (u:T≠e):∀m,v.ownBlock=some m->some g≠some m:=by
 intro m a s;cases s;rcases h.2 with ⟨rfl,_⟩|⟨A,off,cap,z,rfl,_,d,_⟩
 ·cases a
 cases a;unfold aG at p d;rw[p] at d;simp only[jr,ug] at d;exact u d.2.1
theorem ax {w:World} {n:Nat} (h:Own w B e sz v n xs) (m:aG w g cs T) (p:T≠e) (d:w.grownBy w' (some g)):Own w' B e sz v n xs:=
 h.grown d (own_ne h m p)
def nz (B:Nat) (e:TypeId) (sz n:Nat) (xs:List Value):mQ:=⟨λv w=>Own w B e sz v n xs,λ_ _ _ hb h=>h.below hb⟩
theorem iC {w:World} {X:Array Value} (m:World->Prop) (h:∀W,Below w.heap.size w W->aG W w.heap.size X TX->W.heap.size=w.heap.size+1->m W):m (w.alloc (.cells X TX)):=
 h _ ((Below.refl _ _).alloc (az _) _) (aG.new _ _ _) (by simp)
theorem wH {w:World} {X:Array Value} (m:World->Prop) (h:∀W,Below w.heap.size w W->aG W w.heap.size X TX->aG W (w.heap.size+1) Y TY->W.heap.size=w.heap.size+2->m W) :
  m ((w.alloc (.cells X TX)).alloc (.cells Y TY)):=by
 refine iC (λW=>m (W.alloc (.cells Y TY))) λA u p s => ?_;refine iC m λz a d b => ?_;rw[s] at d b;exact h z (ag u a) (p.ext a) d (by omega)
theorem MQ {w:World} {X:Array Value} (m:World->Prop) (h:∀W,Below w.heap.size w W->aG W w.heap.size X TX->aG W (w.heap.size+1) Y TY->aG W (w.heap.size+2) Z TZ->W.heap.size=w.heap.size+3->m W) :
  m (((w.alloc (.cells X TX)).alloc (.cells Y TY)).alloc (.cells Z TZ)):=by
 refine wH (λW=>m (W.alloc (.cells Z TZ))) λD z s p u => ?_;refine iC m λA a d b => ?_;rw[u] at d b;exact h A (ag z a) (s.ext a) (p.ext a) d (by omega)
theorem Own.drop {α:Type} {enc:α->List Value} (d:∀x,(enc x).length=sz) {w:World} {l:List α} (h:Own w B e sz (.slice (some ⟨g,off,none⟩) l.length cap) l.length (l.flatMap enc)) (k:Nat) (s:k<=l.length) :
  Own w B e sz (.slice (some ⟨g,off+k*sz,none⟩) (l.drop k).length (cap-k)) (l.drop k).length ((l.drop k).flatMap enc):=by
 obtain⟨O,h⟩:=h;rcases h with ⟨H,_⟩|⟨S,p,z,m,A,G,F,R,N,M,D⟩
 ·cases H
 cases A;refine⟨flat_len enc sz d _,.inr ⟨g,off+k*sz,cap-k,m,rfl,G,F,by simp;omega,by omega,?_,λj u E => ?_⟩⟩
 ·have:(cap-k)*sz+k*sz=cap*sz:=by rw[<-uP];congr 1;omega
  omega
 rw[nQ];refine D _ _ ?_;have e:l.flatMap enc=(l.take k).flatMap enc++(l.drop k).flatMap enc:=by rw[<-fE,qX]
 rw[e,jU (by rw[flat_len enc sz d,iB,tT s];omega),flat_len enc sz d,iB,tT s,AU];exact E
theorem jc {w:World} {l:List mQ} (v:Value) (h:Region.wanted o (gW ρ ops)=true) (d:(execOp ρ o).run P w = .ok (.value v) w') (m:Below w.heap.size w w') (p:rl l i v w') :
  if Region.wanted o (gW ρ ops)=true then dS P o ρ w (λv w'=>Below w.heap.size w w'/\rl l i v w') else rl l i undef w:=by
 rw[if_pos h];unfold dS;rw[d];exact⟨m,p⟩
theorem lg {w:World} (h:w.grownBy w' none):Below w.heap.size w w':=(Below.refl _ _).grown h (az _) (λk d=>by cases d)
theorem Own.empty (w:World) (T:TypeId) (d:B<=w.heap.size):Own (w.alloc (.cells #[] T)) B T sz (.slice (some ⟨w.heap.size,0,none⟩) 0 0) 0 []:=
 ⟨by simp,.inr ⟨w.heap.size,0,0,#[],rfl,d,aG.new _ _ _,az _,aZ _,by simp,λj u h=>by simp at h⟩⟩
def yD (ops:Array Oper):Nat->Nat->List Nat
 | 0,_=>[]
 | f+1,i=>match ops[i]? with
  | none=>[]
  | some o=>o.after.toList.flatMap λe=>e.on::yD ops f e.on
def jb (ops:Array Oper) (m:Nat):Bool:=
 (List.range ops.size).all λi=>decide (i<m)||(List.range i).all λj=>(yD ops ops.size i).contains j
theorem vZ {ops:Array Oper} {d:Array Bool} (s:∀i o,ops[i]?=some o->d.getD i false=true->∀e∈o.after,d.getD e.on false=true):∀(f i:Nat),(∀o,ops[i]?=some o->∀e∈o.after,d.getD e.on false=true)->∀j∈yD ops f i,d.getD j false=true
 | 0,_,_,j,hj=>by simp[yD] at hj
 | f+1,i,h,j,hj=>by
  unfold yD at hj;cases ho:ops[i]? with
  | none=>simp[ho] at hj
  | some o=>
   simp only[ho,kT] at hj;obtain⟨e,z,hj⟩:=hj;have m:=nN.1 z;rcases dw.1 hj with rfl|hj
   ·exact h o ho e m
   ·exact vZ s f e.on (λu p=>s e.on u p (h o ho e m)) j hj
theorem vz {m:Nat} (h:jb ops m=true) {d:Array Bool} (z:∀i o,ops[i]?=some o->d.getD i false=true->∀e∈o.after,d.getD e.on false=true) (s:ops[i]?=some o) (A:∀e∈o.after,d.getD e.on false=true) (E:m<=i) (j:Nat) (u:j<i):d.getD j false=true:=by
 have b:i<ops.size:=(iU.1 s).1;have p:=eZ.1 h i (eG.2 b);simp only[uN,decide_eq_true_eq] at p;rcases p with p|p
 ·omega
 have h2:=eZ.1 p j (eG.2 u);refine vZ z ops.size i (λD a => ?_) j (by simpa using h2);rw[s] at a;cases a;exact A
theorem uW {m:Nat} (A:jX ops=true) (S:jb ops m=true):∀(fuel k:Nat) (s:Array Bool) (a:Act) (w:World),
  m<=k->k<=ops.size->ops.size-k<=fuel->s.size=ops.size->(∀i,i<ops.size->s.getD i false=decide (i<k))->wpList P ops Q (ops.toList.drop k) a w->wpAny P .any ops Q fuel s a w:=by
 intro fuel
 induction fuel with
 | zero=>
  intro k s a w p U hf g z h;obtain rfl:k=ops.size:=by omega
  refine⟨?_,?_⟩
  ·rw[List.eq_nil_iff_forall_not_mem];intro i D;obtain⟨M,o,u,_⟩:=mem_ready.1 D;have b:i<ops.size:=(iU.1 u).1;have:=z i b;simp[cO,show i<s.size by omega] at M this;rw[M] at this;simp[b] at this
  rw[qO (by simp)] at h;simpa[wpList] using h
 | succ fuel ih=>
  intro k s a w p U hf g z h;have only:∀i∈Region.ready .any ops s,i=k:=by
   intro i D;obtain⟨M,o,u,f⟩:=mem_ready.1 D;have b:i<ops.size:=(iU.1 u).1;have h2:=z i b;have h3:s.getD i false=false:=by simp[cO,show i<s.size by omega] at M ⊢;exact M
   rw[h3] at h2;have r:k<=i:=by have:=h2.symm;simpa using this
   rcases fQ k i with F | H
   ·exfalso;have h4:s.getD k false=true:=vz S (λN o' l n e E=>by
     have q : N < ops.size:=(iU.1 l).1;have h8:=(ib A l).2.1 e E;rw[z N q] at n;have h9:N < k:=by simpa using n
     rw[z e.on (by omega)];simp;omega) u (λe E=>f e E ((ib A u).2.1 e E).1) (by omega) k F
    have O:=z k (by omega);rw[h4] at O;simp at O
   ·omega
  refine⟨λc => ?_,λi D => ?_⟩
  ·rcases fQ k ops.size with b|H
   ·exfalso;have:k∈Region.ready .any ops s:=by
     rw[mem_ready];refine⟨?_,ops[k],by simp[b],λe E hb => ?_⟩
     ·have:=z k b;simp[cO,show k<s.size by omega] at this ⊢;exact this
     have h6:=(ib A (i:=k) (o:=ops[k]) (by simp[b])).2.1 e E;rw[z e.on (by omega)];simp[h6.2]
    rw[c] at this;cases this
   rw[qO (by simpa using H)] at h;simpa[wpList] using h
  obtain rfl:=only i D;obtain⟨_,o,u,_⟩:=mem_ready.1 D;have b:i<ops.size:=(iU.1 u).1;have d:ops.toList.drop i=o::ops.toList.drop (i+1):=by rw[wK (by simpa using b)];congr 1;have:=(iU.1 u).2;simpa using this
  rw[d] at h;have R:wpOp P ops Q i (wpList P ops Q (ops.toList.drop (i+1))) a w:=by unfold wpOp;simp only[u];simpa[wpList] using h
  refine wpOp_mono (λa' w' h'=>ih (i+1) _ a' w' (by omega) (by omega) (by omega) (by simp[g]) (λj X => ?_) h') R
  by_cases G:j=i
  ·subst G;simp[cO,show j<s.size by omega]
  have:=z j X;simp only[cO,gM (ou G)] at this ⊢;rw[this];congr 1;simp;omega
def Fixed:List mQ->Prop
 | []=>True
 | R::l=>(∀v w w',R.r v w->R.r v w')/\Fixed l
theorem fix_nil:Fixed []:=trivial
theorem KW {R:mQ} {l:List mQ} (h:∀v w w',R.r v w->R.r v w') (d:Fixed l):Fixed (R::l):=⟨h,d⟩
theorem Fixed.at:∀ {l:List mQ},Fixed l->∀i v w w',rl l i v w->rl l i v w'
 | [],_,_,_,_,_,_=>by unfold rl;simp[anyR]
 | R::l,h,0,v,w,w',hr=>by unfold rl at hr ⊢; simpa using h.1 v w w' (by simpa using hr)
 | R::l,h,i+1,v,w,w',hr=>by have:=Fixed.at h.2 i v w w';unfold rl at hr this ⊢;simp only[List.getD_cons_succ] at hr ⊢;exact this hr
def dC (F:Value->Prop):mQ:=⟨λv _=>F v,λ_ _ _ _ h=>h⟩
def fq (y:Nat->Value) (i:Nat) (v:Value):Nat->Value:=λk=>if k=i then v else y k
def WW (ops:Array Oper) (m:Nat) (R:Nat->Value->World->Prop) (a0:Act) (J:(Nat->Bool)->(Nat->Value)->World->Prop) (listed:Array Bool) (a:Act) (w:World):Prop:=
 (∀i,m<=i->listed.getD i false=false)/\(∀i o,ops[i]?=some o->listed.getD i false=true->∀e∈o.after,listed.getD e.on false=true)/\∃y:Nat->Value,a = { a0 with tmps:=lay (λi=>listed.getD i false) y ops.toList 0 a0.tmps }/\J (λi=>listed.getD i false) y w/\∀i,i<ops.size->listed.getD i false=true->R i (y i) w
theorem BA (m:Nat) (H:jX ops=true) (ht:jb ops m=true) (hmn:m<=ops.size)
 (R:Nat->Value->World->Prop) (J:(Nat->Bool)->(Nat->Value)->World->Prop) (hJ0:∀y,J (λ_=>false) y w0.drew) (hstab:∀i v w w',R i v w->R i v w')
 (hstep:∀i o,i<m->ops[i]?=some o->∀L y w,L i=false->(∀j,o.after.toList.any (λe=>e.on==j)=true->L j=true)->J L y w->(∀j,o.after.toList.any (λe=>e.on==j)=true->R j (y j) w) ->
 if Region.wanted o (yielded ops (lay (λ_=>true) y ops.toList 0 a0.tmps))=true then Gives P o { a0 with tmps:=lay (λ_=>true) y ops.toList 0 a0.tmps } w (λv w'=>J (dO L i) (fq y i v) w'/\R i v w') else J (dO L i) (fq y i undef) w/\R i undef w)
 (X:∀y w,J (λi=>decide (i<m)) y w->(∀i,i<m->R i (y i) w)->wpList P ops Q (ops.toList.drop m) { a0 with tmps:=lay (λi=>decide (i<m)) y ops.toList 0 a0.tmps } w) :
  wpAny P .any ops Q ops.size (Array.replicate ops.size false) a0 w0.drew:=by
 have hG:∀(fuel:Nat) (A:Array Bool) (a:Act) (w:World),A.size=ops.size->A.toList.countP (!·)<=fuel->WW ops m R a0 J A a w->wpAny P .any ops Q fuel A a w:=by
  intro fuel
  induction fuel with
  | zero=>
   intro A a w n hc hA;have hl:∀i,i<ops.size->A.getD i false=true:=by
    intro i hH;have h0:A.toList.countP (!·)=0:=by omega
    have:=xK.1 h0 (A[i]'(by omega)) (by simp);simpa[cO,show i<A.size by omega] using this
   obtain⟨b,hz,y,ha,hb,hR⟩:=hA;have hC : m=ops.size:=by
    rcases fQ m ops.size with h|h
    ·have h1:=hl m h;rw[b m (az _)] at h1;cases h1
    ·omega
   refine uW (m:=m) H ht 0 ops.size A a w (by omega) (az _) (by omega) n (λi D=>by rw[hl i D];simp[D]) ?_;have hf:(λi=>A.getD i false)=λi=>decide (i<m):=by
    funext i
    by_cases D:i<m
    ·rw[hl i (by omega)];simp[D]
    ·rw[b i (by omega)];simp[D]
   rw[hf] at hb;have:=X y w hb λi D=>hR i (by omega) (hl i (by omega));rw[ha,rR (λi=>A.getD i false) (λi=>decide (i<m)) y ops.toList 0 a0.tmps (λk O=>by
    have hI : k<ops.size:=by simpa using O
    simp only[dV];rw[hl k hI];simp;omega)]
   rw[hC] at this ⊢;exact this
  | succ fuel ih=>
   intro A a w n hc hA
   by_cases E:∀i,i<m->A.getD i false=true
   ·obtain⟨b,hz,y,ha,hb,hR⟩:=hA;have N:∀i,i<ops.size->A.getD i false=decide (i<m):=by
     intro i D
     by_cases G:i<m
     ·rw[E i G];simp[G]
     ·rw[b i (by omega)];simp[G]
    have hp:ops.size-m<=fuel+1:=by
     have h1:A.toList.countP (!·)=ops.size-m:=by
      have e:A.toList=List.replicate m true++List.replicate (ops.size-m) false:=by
       apply pE;intro i
       by_cases D:i<ops.size
       ·have h2:=N i D;rw[uz,AZ (show i<A.size by omega)];simp only[cO,AZ (show i<A.size by omega),qc] at h2;rw[h2]
        by_cases G:i<m
        ·rw[kF (by simpa using G)];simp[G]
        rw[jU (by simp;omega)];rw[kK,pV,if_pos (by omega)];simp[G]
       ·rw[fw (by simp;omega),fw (by simp;omega)]
      rw[e];simp[Dk,List.countP_replicate]
     omega
    refine uW (m:=m) H ht (fuel+1) m A a w (az _) hmn hp n N ?_;have hf:(λi=>A.getD i false)=λi=>decide (i<m):=by
     funext i
     by_cases D:i<m
     ·rw[E i D];simp[D]
     ·rw[b i (by omega)];simp[D]
    rw[hf] at hb;have:=X y w hb λi D=>hR i (by omega) (E i D);rw[ha,rR (λi=>A.getD i false) (λi=>decide (i<m)) y ops.toList 0 a0.tmps (λk O=>by simp only[dV];exact N k (by simpa using O))];exact this
   have r:Region.ready .any ops A≠[]:=by
    intro hn;apply E;intro i
    induction i using Nat.strongRecOn with
    | ind i ih'=>
     intro G
     by_cases hc' : A.getD i false=true
     ·exact hc'
     exfalso;have D:i<ops.size:=by omega
     have hr:i∈Region.ready .any ops A:=by
      rw[mem_ready];refine⟨?_,ops[i],by simp[D],λe M _ => ?_⟩
      ·simpa[cO,show i<A.size by omega] using hc'
      have:=(ib H (i:=i) (o:=ops[i]) (by simp[D])).2.1 e M;exact ih' e.on this.2 (by omega)
     rw[hn] at hr;cases hr
   refine⟨λh=>absurd h r,λi D => ?_⟩;obtain⟨h1,o,U,hy⟩:=mem_ready.1 D;have hH:i<ops.size:=(iU.1 U).1;obtain⟨hB,d,_⟩:=ib H U;have N:∀e∈o.after,A.getD e.on false=true:=λe M=>hy e M (d e M).1;have G:i<m:=by
    rcases fQ i m with h|h
    ·exact h
    exfalso;apply E;intro j hj;exact vz ht hA.2.1 U N h j (by omega)
   obtain⟨b,hz,y,ha,hb,hR⟩:=hA;have z:∀v w',J (dO (λi=>A.getD i false) i) (fq y i v) w'->R i v w'->wpAny P .any ops Q fuel (A.setIfInBounds i true) (a.put o.dst v) w':=by
    intro v w' hF hv;have hf:dO (λi=>A.getD i false) i=λk=>(A.setIfInBounds i true).getD k false:=by
     funext k;unfold dO
     by_cases F:k=i
     ·subst F;simp[cO,show k<A.size by omega]
     rw[if_neg F];simp[cO,gM (ou F)]
    rw[hf] at hF;refine ih _ _ _ (by simp[n]) ?_ ⟨λk O => ?_,λk o' u O e M => ?_,λk=>if k=i then v else y k,?_,hF,?_⟩
    ·have hD:i<A.toList.length:=by simp;omega
     have c:A.toList[i]=false:=by simpa[cO,show i<A.size by omega] using h1
     have:=List.countP_set (p:=(!·)) (l:=A.toList) (i:=i) (a:=true) hD;rw[c] at this;have hK:0<A.toList.countP (!·):=yg.2 ⟨A.toList[i],eO hD,by rw[c];rfl⟩;simp only[CW];simp only[Bool.not_false,Bool.not_true,if_true,tY,if_false] at this;omega
    ·have:=b k O;simp only[cO,gM (show i≠k by omega)] at this ⊢;exact this
    ·have up:∀q,A.getD q false=true->(A.setIfInBounds i true).getD q false=true:=by
      intro q hq
      by_cases hqi:q=i
      ·subst hqi;simp[cO,show q<A.size by omega]
      ·simpa[cO,gM (ou hqi)] using hq
     apply up
     by_cases F:k=i
     ·subst F;rw[U] at u;cases u;exact N e M
     ·exact hz k o' u (by simpa[cO,gM (ou F)] using O) e M
    ·rw[ha,IZ H U n v]
    intro k O hJ
    by_cases F:k=i
    ·subst F;simpa using hv
    have:A.getD k false=true:=by simpa[cO,gM (ou F)] using hJ
    simp only[F,if_false];exact hstab _ _ _ _ (hR k O this)
   have hh:∀t∈o.looksAt ops,a.tmps[t]?=(lay (λ_=>true) y ops.toList 0 a0.tmps)[t]?:=λt ht=>by rw[ha];exact BR H U N t ht
   have hu:execOp a.eval o=execOp ({ a0 with tmps:=lay (λ_=>true) y ops.toList 0 a0.tmps }:Act).eval o:=by
    refine execOp_congr o hB λx hx => ?_;cases x with
    | tmp t=>
     have:=hh t (pO _ (IK.2 ⟨.tmp t,by simpa using hx,rfl⟩));simp[Act.eval,this]
    | _=>rfl
   have f:Region.wanted o (yielded ops a.tmps)=Region.wanted o (yielded ops (lay (λ_=>true) y ops.toList 0 a0.tmps)):=by
    unfold Region.wanted;cases hg:o.guard with
    | none=>rfl
    | some gw=>
     obtain⟨g,want⟩:=gw;have:yielded ops a.tmps g=yielded ops (lay (λ_=>true) y ops.toList 0 a0.tmps) g:=by
      unfold yielded;cases hd:(ops[g]?).bind (·.dst) with
      | none=>rfl
      | some t=>
       have:=hh t (uM _ (by simp[hg,hd]));simp[this]
     simp only[this]
   have hs:=hstep i o G U (λi=>A.getD i false) y w (by simpa[cO,show i<A.size by omega] using h1) (λj hj=>by
    obtain⟨e,M,hw⟩:=jK.1 hj;have hm : e.on=j:=by simpa using hw
    subst hm;exact N e (nN.1 M)) hb (λj hj=>by
    obtain⟨e,M,hw⟩:=jK.1 hj;have hm : e.on=j:=by simpa using hw
    subst hm;have hE:=nN.1 M;exact hR e.on (by have:=(d e hE).2;omega) (N e hE))
   by_cases S:Region.wanted o (yielded ops (lay (λ_=>true) y ops.toList 0 a0.tmps))=true
   ·rw[if_pos S] at hs;exact sJ U (by rw[f];exact S) hu hs λv w' h=>z v w' h.1 h.2
   rw[if_neg S] at hs;unfold wpOp;simp only[U];rw[if_neg (by rw[f];exact S)];exact z undef w hs.1 hs.2
 refine hG ops.size _ _ _ (by simp) ?_ ⟨λi _ => ?_,λi o' u D => ?_,λ_=>undef,?_,?_,?_⟩
 ·simpa using wD (p:=(!·)) (l:=List.replicate ops.size false)
 ·simp[cO,rz];split<;>rfl
 ·exfalso;have:i<ops.size:=(iU.1 u).1;simp[cO,this] at D
 ·have e:lay (λi=>(Array.replicate ops.size false).getD i false) (λ_=>undef) ops.toList 0 a0.tmps=a0.tmps:=by apply mH;intro s;exact jk _ _ s _ 0 _ λk o' O hd=>by simp[cO,rz];split<;>rfl
  rw[e]
 ·have e:(λi=>(Array.replicate ops.size false).getD i false)=λ_=>false:=by funext i;simp[cO,rz];split<;>rfl
  rw[e];exact hJ0 _
 intro i D N;simp[cO,D] at N
def nu (P:Program) (ops:Array Oper) (a0:Act) (J:(Nat->Bool)->(Nat->Value)->World->Prop) (l:List mQ) (i:Nat) (o:Oper):Prop:=
 ∀(ρ:Operand->Value) (y:Nat->Value) (w:World) (L:Nat->Bool),(∀t j,writer ops t=some j->ρ (.tmp t)=y j)->(∀x,(match x with | .tmp t=>writer ops t=none | _=>True)->ρ x=a0.eval x) ->
  L i=false->(∀j,o.after.toList.any (λe=>e.on==j)=true->L j=true)->J L y w->(∀j,o.after.toList.any (λe=>e.on==j)=true->rl l j (y j) w) ->
  if Region.wanted o (gW ρ ops)=true then dS P o ρ w (λv w'=>J (dO L i) (fq y i v) w'/\rl l i v w') else J (dO L i) (fq y i undef) w/\rl l i undef w
theorem He (m:Nat) (l:List mQ) (J:(Nat->Bool)->(Nat->Value)->World->Prop) (O:∀L y w w',Below w.heap.size w w'->J L y w->J L y w') (S:∀y,J (λ_=>false) y w0) (F:Fixed l) (E:jX ops=true) (ht:jb ops m=true) (R:m<=ops.size)
 (n:Nat) (hn:a0.tmps.size=n) (N:kU ops n=true)
 (A:bn (nu P ops a0 J l) 0 (ops.toList.take m))
 (G:∀y w,J (λi=>decide (i<m)) y w->(∀i,i<m->rl l i (y i) w)->wpList P ops Q (ops.toList.drop m) { a0 with tmps:=lay (λi=>decide (i<m)) y ops.toList 0 a0.tmps } w) :
  wpAny P .any ops Q ops.size (Array.replicate ops.size false) a0 w0.drew:=by
 refine BA m E ht R (rl l) J (λy=>O _ y w0 w0.drew ⟨rfl,rfl,rfl,az _,λ_ _=>rfl⟩ (S y)) (λi v w w' h=>F.at i v w w' h) (λi o u hi L y w hc hf hb hd => ?_) G;have f:∀t j,writer ops t=some j->({ a0 with tmps:=lay (λ_=>true) y ops.toList 0 a0.tmps }:Act).eval (.tmp t)=y j:=by
  intro t j M;unfold writer at M;have X:=uj M;have h2:=eG.1 (rC M);cases ho:ops[j]? with
  | none=>simp[ho] at X
  | some p=>
   have a : p.dst=some t:=by simpa[ho] using X
   have s:t<a0.tmps.size:=by have:=eZ.1 N p (nN.2 (Aw ho));rw[hn];simpa[a] using this
   have hu:∀H D,ops.toList[H]?=some D->D.dst=some t->H = j:=by
    intro H D b ha;rcases ((ib E (i:=H) (o:=D) (by simpa using b)).2.2 j p t ho a).1 with h|h
    ·exact h
    ·exact absurd ha h
   have:=mg (λ_=>true) y t ops.toList 0 a0.tmps j p (by simpa using ho) a rfl hu s;simp[Act.eval,this]
 have r:∀x,(match x with | .tmp t=>writer ops t=none | _=>True)->({ a0 with tmps:=lay (λ_=>true) y ops.toList 0 a0.tmps }:Act).eval x=a0.eval x:=by
  intro x U;cases x with
  | tmp t=>
   have:(lay (λ_=>true) y ops.toList 0 a0.tmps)[t]?=a0.tmps[t]?:=by
    refine jk _ y t _ 0 _ λk D hk a => ?_;exfalso;simp only[writer] at U;have b : ops[k]?=some D:=by simpa using hk
    have e:k<ops.size:=(iU.1 b).1;have:=qI.1 U k (eG.2 e);simp[b,a] at this
   simp[Act.eval,this]
  | _=>rfl
 have c:Region.wanted o (yielded ops (lay (λ_=>true) y ops.toList 0 a0.tmps))=Region.wanted o (gW ({ a0 with tmps:=lay (λ_=>true) y ops.toList 0 a0.tmps }:Act).eval ops):=by
  congr 1;funext g;unfold yielded gW;cases (ops[g]?).bind (·.dst) with
  | none=>rfl
  | some d=>
   simp only[Aj,Act.eval,cO];generalize (lay (λ_=>true) y ops.toList 0 a0.tmps)[d]?=q;cases q with
   | none=>rfl
   | some v=>cases v<;>rfl
 have z : (ops.toList.take m)[i]?=some o:=by rw[mI,if_pos u];simpa using hi
 have:=bn.at A i o z _ y w L f r (by rw[dV];exact hc) hf hb hd;rw[dV] at this;rw[c];exact this
theorem Rc (m:Nat) (l:List mQ) (J:(Nat->Bool)->(Nat->Value)->World->Prop) (u:∀L y w w',Below w.heap.size w w'->J L y w->J L y w') (D:∀y,J (λ_=>false) y w0) (h:Fixed l) (G:P.follows .mixedOrders=true) (z:jX ops=true) (E:jb ops m=true) (A:m<=ops.size)
 (n:Nat) (F:a0.tmps.size=n) (s:kU ops n=true)
 (d:bn (nu P ops a0 J l) 0 (ops.toList.take m))
 (p:∀y w,J (λi=>decide (i<m)) y w->(∀i,i<m->rl l i (y i) w)->wpList P ops Q (ops.toList.drop m) { a0 with tmps:=lay (λi=>decide (i<m)) y ops.toList 0 a0.tmps } w) :
  (Code.region id ops true).wp P Q a0 w0:=
 wp_region_any G (He m l J u D h z E A n F s d p)
theorem fT {w:World} {l:List mQ} {J:(Nat->Bool)->(Nat->Value)->World->Prop} (m:∀L y w w',Below w.heap.size w w'->J L y w->J L y w')
 (d:∀v w,J L y w->J (dO L i) (fq y i v) w) (s:J L y w)
 (h:if Region.wanted o (gW ρ ops)=true then dS P o ρ w (λv w'=>Below w.heap.size w w'/\rl l i v w') else rl l i undef w) :
  if Region.wanted o (gW ρ ops)=true then dS P o ρ w (λv w'=>J (dO L i) (fq y i v) w'/\rl l i v w') else J (dO L i) (fq y i undef) w/\rl l i undef w:=by
 split at h
 ·rename_i u;rw[if_pos u];unfold dS at h ⊢;split at h
  ·exact⟨d _ _ (m _ _ _ _ h.1 s),h.2⟩
  ·exact⟨d _ _ (m _ _ _ _ h.1 s),h.2⟩
  ·refine xQ h λe z p => ?_;cases e with
   | returned v=>exact⟨d _ _ (m _ _ _ _ p.1 s),p.2⟩
   | panicked c=>exact p.elim
   | outgrown=>exact p.elim
  ·exact h.elim
 rename_i u;rw[if_neg u];exact⟨d _ _ s,h⟩
theorem iZ {w:World} {l:List mQ} {J:(Nat->Bool)->(Nat->Value)->World->Prop} (f:FuncId) (args:Array Value) (m:Region.wanted o (gW ρ ops)=true) (d:(execOp ρ o).run P w = .ok (.enter f args) w)
 (p:Calls P f args w λe w' => ∃v,e = .returned v/\J (dO L i) (fq y i v) w'/\rl l i v w') :
  if Region.wanted o (gW ρ ops)=true then dS P o ρ w (λv w'=>J (dO L i) (fq y i v) w'/\rl l i v w') else J (dO L i) (fq y i undef) w/\rl l i undef w:=by
 rw[if_pos m];unfold dS;rw[d];refine p.mono λe w' ⟨v,he,h⟩ => ?_;subst he;exact h
theorem fF {w:World} {l:List mQ} {J:(Nat->Bool)->(Nat->Value)->World->Prop} (v:Value) (h:Region.wanted o (gW ρ ops)=true) (d:(execOp ρ o).run P w = .ok (.value v) w')
 (p:J (dO L i) (fq y i v) w') (m:rl l i v w') :
  if Region.wanted o (gW ρ ops)=true then dS P o ρ w (λv w'=>J (dO L i) (fq y i v) w'/\rl l i v w') else J (dO L i) (fq y i undef) w/\rl l i undef w:=by
 rw[if_pos h];unfold dS;rw[d];exact⟨p,m⟩
theorem Fy {a:Act} {w:World} {F G:Value->World->Prop} (h:Gives P o a w F) (d:∀v w',F v w'->G v w'):Gives P o a w G:=by
 unfold Gives at h ⊢;generalize (execOp a.eval o).run P w=r at h;cases r with
 | ok n w'=>
  cases n<;>first
   | exact d _ _ h
   | exact xQ h λe p m=>by cases e<;>first | exact d _ _ m | exact m
   | exact h
 | halt x w'=>exact h
theorem Oo {R R' : Nat->Value->Prop} (h:∀k,L k=true->R k (y k)) (m:R' i v) (p:∀k v,R k v->R' k v) (k:Nat) (d:dO L i k=true):R' k (fq y i v k):=by
 unfold dO at d;unfold fq
 by_cases e:k=i
 ·rw[if_pos e,e];exact m
 rw[if_neg e] at d ⊢;exact p _ _ (h k d)
theorem Cx (m:Nat) (S:P.follows .mixedOrders=true) (D:jX ops=true) (M:jb ops m=true) (E:m<=ops.size)
 (R:Nat->Value->World->Prop) (p:∀i v w w',Below w.heap.size w w'->R i v w->R i v w')
 (d:∀i o,i<m->ops[i]?=some o->∀y w,Below w0.heap.size w0 w->(∀j,o.after.toList.any (λe=>e.on==j)=true->R j (y j) w) ->
 if Region.wanted o (yielded ops (lay (λ_=>true) y ops.toList 0 a0.tmps))=true then Gives P o { a0 with tmps:=lay (λ_=>true) y ops.toList 0 a0.tmps } w (λv w'=>Below w.heap.size w w'/\R i v w') else R i undef w)
 (z:∀y w,Below w0.heap.size w0 w->(∀i,i<m->R i (y i) w)->wpList P ops Q (ops.toList.drop m) { a0 with tmps:=lay (λi=>decide (i<m)) y ops.toList 0 a0.tmps } w) :
  (Code.region id ops true).wp P Q a0 w0:=
 wp_region_any S (BA m D M E (λ_ _ _=>True) (λL y w=>Below w0.heap.size w0 w/\∀i,L i=true->R i (y i) w) (λy=>⟨⟨rfl,rfl,rfl,az _,λ_ _=>rfl⟩,λi h=>(by cases h)⟩) (λ_ _ _ _ _=>trivial) (λi o F O L y w hL hd s _=>by
  have h:=d i o F O y w s.1 (λj X=>s.2 j (hd j X));have u:∀v w',Below w.heap.size w w'->R i v w'->Below w0.heap.size w0 w'/\∀k,dO L i k=true->R k (fq y i v k) w':=λv w' H N=>⟨ag s.1 H,λk U=>Oo s.2 N (λk v h=>p k v _ _ H h) k U⟩;split at h
  ·rename_i A;rw[if_pos A];exact Fy h λv w' G=>⟨u v w' G.1 G.2,trivial⟩
  rename_i A;rw[if_neg A];exact⟨u undef w (Below.refl _ _) h,trivial⟩) (λy w s _=>z y w s.1 λi F=>s.2 i (decide_eq_true F)))
theorem Rs (m:Nat) (l:List mQ) (hm:P.follows .mixedOrders=true) (E:jX ops=true) (X:jb ops m=true) (N:m<=ops.size)
 (n:Nat) (hn:a0.tmps.size=n) (M:kU ops n=true)
 (A:bn (oz P ops a0 w0 l) 0 (ops.toList.take m))
 (F:∀y w,Below w0.heap.size w0 w->(∀i,i<m->rl l i (y i) w)->wpList P ops Q (ops.toList.drop m) { a0 with tmps:=lay (λi=>decide (i<m)) y ops.toList 0 a0.tmps } w) :
  (Code.region id ops true).wp P Q a0 w0:=by
 refine Cx m hm E X N (rl l) (λi v w w' O h=>(l.getD i anyR).st v w w' O h) (λi o u hi y w O hd => ?_) F;have f:∀t j,writer ops t=some j->({ a0 with tmps:=lay (λ_=>true) y ops.toList 0 a0.tmps }:Act).eval (.tmp t)=y j:=by
  intro t j H;unfold writer at H;have S:=uj H;have h2:=eG.1 (rC H);cases ho:ops[j]? with
  | none=>simp[ho] at S
  | some p=>
   have a : p.dst=some t:=by simpa[ho] using S
   have s:t<a0.tmps.size:=by have:=eZ.1 M p (nN.2 (Aw ho));rw[hn];simpa[a] using this
   have U:∀G D,ops.toList[G]?=some D->D.dst=some t->G = j:=by
    intro G D b ha;rcases ((ib E (i:=G) (o:=D) (by simpa using b)).2.2 j p t ho a).1 with h|h
    ·exact h
    ·exact absurd ha h
   have:=mg (λ_=>true) y t ops.toList 0 a0.tmps j p (by simpa using ho) a rfl U s;simp[Act.eval,this]
 have r:∀x,(match x with | .tmp t=>writer ops t=none | _=>True)->({ a0 with tmps:=lay (λ_=>true) y ops.toList 0 a0.tmps }:Act).eval x=a0.eval x:=by
  intro x R;cases x with
  | tmp t=>
   have:(lay (λ_=>true) y ops.toList 0 a0.tmps)[t]?=a0.tmps[t]?:=by
    refine jk _ y t _ 0 _ λk D hk a => ?_;exfalso;simp only[writer] at R;have b : ops[k]?=some D:=by simpa using hk
    have e:k<ops.size:=(iU.1 b).1;have:=qI.1 R k (eG.2 e);simp[b,a] at this
   simp[Act.eval,this]
  | _=>rfl
 have c:Region.wanted o (yielded ops (lay (λ_=>true) y ops.toList 0 a0.tmps))=Region.wanted o (gW ({ a0 with tmps:=lay (λ_=>true) y ops.toList 0 a0.tmps }:Act).eval ops):=by
  congr 1;funext g;unfold yielded gW;cases (ops[g]?).bind (·.dst) with
  | none=>rfl
  | some d=>
   simp only[Aj,Act.eval,cO];generalize (lay (λ_=>true) y ops.toList 0 a0.tmps)[d]?=q;cases q with
   | none=>rfl
   | some v=>cases v<;>rfl
 have z : (ops.toList.take m)[i]?=some o:=by rw[mI,if_pos u];simpa using hi
 have:=bn.at A i o z _ y w f r O hd;rw[dV] at this;rw[c];exact this
inductive RV where
 | v (V:Value)
 | r (i:Nat) (R:mQ)
def RV.R:RV->mQ
 | .v V=>mV V
 | .r _ R=>R
def rvs:List RV->List mQ
 | []=>[]
 | a::l=>a.R::rvs l
def rvN:RV:=.r 0 anyR
theorem rvs_at:∀(l:List RV) (i:Nat),(rvs l).getD i anyR=(l.getD i rvN).R
 | [],_=>rfl
 | _::_,0=>rfl
 | _::l,i+1=>by have:=rvs_at l i;simpa[rvs] using this
theorem JV {l:List RV} {w:World} (d:l.getD i rvN = .v V) (e:v=V):rl (rvs l) i v w:=by
 unfold rl;rw[rvs_at,d];exact e
def rvK:List RV->Nat->Option Value
 | .v V::_,0=>some V
 | _::l,k+1=>rvK l k
 | _,_=>none
theorem rvK_at:∀ {l:List RV} {k:Nat} {V:Value},rvK l k=some V->l.getD k rvN = .v V
 | .v V::_,0,_,h=>by cases h;rfl
 | .v _::l,k+1,_,h=>by simpa using rvK_at (l:=l) (k:=k) h
 | .r _ _::l,k+1,_,h=>by simpa using rvK_at (l:=l) (k:=k) h
 | .r _ _::_,0,_,h=>by cases h
 | [],0,_,h=>by cases h
 | [],_+1,_,h=>by cases h
def kt (ops:Array Oper) (a0:Act) (l:List RV) (o:Oper) (t:Nat):Option Value:=
 match writer ops t with
 | some k=>cond (o.after.toList.any λe=>e.on==k) (rvK l k) none
 | none=>a0.tmps.toList[t]?
def kx (ops:Array Oper) (a0:Act) (l:List RV) (o:Oper):Operand->Option Value
 | .tmp t=>kt ops a0 l o t
 | .const v=>some v
 | .func f=>some (.func (.func f) #[] #[])
 | .global g=>some (.pointer (some ⟨g,0,none⟩))
def kg (ops:Array Oper) (a0:Act) (l:List RV) (o:Oper):Option Bool:=
 match o.guard with
 | none=>some true
 | some (g,want)=>match (ops[g]?).bind (·.dst) with
  | none=>none
  | some d=>match kt ops a0 l o d with
   | some (.bool b)=>some (b==want)
   | some (.tuple _)=>some false
   | _=>none
def XE (ops:Array Oper) (a0:Act) (l:List RV) (o:Oper):Option Value:=
 match o.op with
 | .move x=>kx ops a0 l o x
 | .assign x=>kx ops a0 l o x
 | .nilCheck x=>match kx ops a0 l o x with
  | some (.pointer (some a))=>some (.pointer (some a))
  | _=>none
 | .unOp .not _ x=>match kx ops a0 l o x with
  | some (.bool true)=>some (.bool false)
  | some (.bool false)=>some (.bool true)
  | _=>none
 | .pick c x y=>match kx ops a0 l o c with
  | some (.bool true)=>kx ops a0 l o x
  | some (.bool false)=>kx ops a0 l o y
  | _=>none
 | _=>none
def ks (ops:Array Oper) (a0:Act) (l:List RV) (o:Oper):Option Value:=
 match kg ops a0 l o with
 | some true=>XE ops a0 l o
 | some false=>some undef
 | none=>none
section
variable {P:Program} {ops:Array Oper} {a0:Act} {w0:World} {l:List RV} {i:Nat} {o:Oper}
def Kn (ops:Array Oper) (a0:Act) (l:List RV) (o:Oper) (ρ:Operand->Value) (y:Nat->Value) (w:World):Prop:=
 (∀t j,writer ops t=some j->ρ (.tmp t)=y j)/\(∀x,(match x with | .tmp t=>writer ops t=none | _=>True)->ρ x=a0.eval x)/\∀j,o.after.toList.any (λe=>e.on==j)=true->rl (rvs l) j (y j) w
theorem VL {t:Nat} (h:kt ops a0 l o t=some v) {w:World} (m:Kn ops a0 l o ρ y w):ρ (.tmp t)=v:=by
 unfold kt at h;cases hw:writer ops t with
 | none=>
  rw[hw] at h;have d : a0.tmps.toList[t]?=some v:=h;rw[m.2.1 (.tmp t) hw];simp only[uz] at d;simp[Act.eval,d]
 | some k=>
  rw[hw] at h;have d : cond (o.after.toList.any λe=>e.on==k) (rvK l k) none=some v:=h;cases ha:o.after.toList.any λe=>e.on==k with
  | false=>rw[ha] at d; cases d
  | true=>
   rw[ha] at d;have p:=m.2.2 k ha;unfold rl at p;rw[rvs_at,rvK_at d] at p;exact (m.1 t k hw).trans p
theorem aI (h:kx ops a0 l o x=some v) {w:World} (d:Kn ops a0 l o ρ y w):ρ x=v:=by
 cases x with
 | tmp t=>exact VL h d
 | const c=>rw[d.2.1 (.const c) trivial];cases h;rfl
 | func f=>rw[d.2.1 (.func f) trivial];cases h;rfl
 | global g=>rw[d.2.1 (.global g) trivial];cases h;rfl
theorem EL {b:Bool} (h:kg ops a0 l o=some b) {w:World} (p:Kn ops a0 l o ρ y w):Region.wanted o (gW ρ ops)=b:=by
 unfold kg at h;unfold Region.wanted;cases hg:o.guard with
 | none=>rw[hg] at h;cases h;rfl
 | some q=>
  obtain⟨g,m⟩:=q;rw[hg] at h;simp only at h;cases hd:(ops[g]?).bind (·.dst) with
  | none=>rw[hd] at h;cases h
  | some d=>
   rw[hd] at h;simp only at h;cases hv:kt ops a0 l o d with
   | none=>rw[hv] at h;cases h
   | some v=>
    rw[hv] at h;have e:=VL hv p;unfold gW;simp only[hd,e];cases v with
    | bool c=>cases h;cases c<;>cases m<;>rfl
    | tuple c=>cases h;rfl
    | _=>cases h
def zw (P:Program) (ops:Array Oper) (a0:Act) (l:List RV) (i:Nat) (o:Oper):Prop:=
 ∀(ρ:Operand->Value) (y:Nat->Value) (w:World),Kn ops a0 l o ρ y w->(Region.wanted o (gW ρ ops)=false/\rl (rvs l) i undef w)\/(Region.wanted o (gW ρ ops)=true/\∃v,(execOp ρ o).run P w = .ok (.value v) w/\rl (rvs l) i v w)
theorem zw.run (p:kg ops a0 l o=some true) (m:l.getD i rvN = .v V) (h:∀ρ y w,Kn ops a0 l o ρ y w->(execOp ρ o).run P w = .ok (.value V) w):zw P ops a0 l i o:=λρ y w d => .inr ⟨EL p d,V,h ρ y w d,JV m rfl⟩
theorem VF (h:ks ops a0 l o=some V) (z:l.getD i rvN = .v V):zw P ops a0 l i o:=by
 unfold ks at h;cases hg:kg ops a0 l o with
 | none=>rw[hg] at h;cases h
 | some b=>
  rw[hg] at h;cases b with
  | false=>
   cases h;exact λρ y w p => .inl ⟨EL hg p,JV z rfl⟩
  | true=>
   have d : XE ops a0 l o=some V:=h;refine zw.run hg z λρ y w p => ?_;unfold XE at d;split at d
   ·rename_i x m;exact run_move (.inl m) (aI d p)
   ·rename_i x m;exact run_move (.inr m) (aI d p)
   ·rename_i x m;split at d
    ·rename_i a s;cases d;have e:=aI s p;simp[execOp,go_sem,m,e]
    ·cases d
   ·rename_i t x m;split at d
    ·rename_i s;cases d; exact CJ m (aI s p)
    ·rename_i s;cases d; exact CJ m (aI s p)
    ·cases d
   ·rename_i c x A m;split at d
    ·rename_i u;exact qB m (aI u p) (aI d p)
    ·rename_i u;exact qB m (aI u p) (aI d p)
    ·cases d
   ·cases d
theorem zw.asked (h:zw P ops a0 l i o):oz P ops a0 w0 (rvs l) i o:=λρ y w m p _ s=>by
 rcases h ρ y w ⟨m,p,s⟩ with ⟨d,h2⟩|⟨d,v,h2,u⟩
 ·exact ED d h2
 ·exact ak v d h2 u
theorem zw.askedQ {J:(Nat->Bool)->(Nat->Value)->World->Prop} (d:∀L y w w',Below w.heap.size w w'->J L y w->J L y w') (s:∀L y v w,(∀j,o.after.toList.any (λe=>e.on==j)=true->L j=true)->J L y w->J (dO L i) (fq y i v) w) (h:zw P ops a0 l i o):nu P ops a0 J (rvs l) i o:=λρ y w L z A _ m u D=>by
 rcases h ρ y w ⟨z,A,D⟩ with ⟨p,h2⟩|⟨p,v,h2,E⟩
 ·exact fT d (λv w=>s L y v w m) u (ED p h2)
 ·exact fT d (λv w=>s L y v w m) u (ak v p h2 E)
variable {C:Nat->Oper->Prop} {r:List Oper}
theorem Ty (m:zw P ops a0 l i o->C i o) (h:(ks ops a0 l o).map RV.v=some (l.getD i rvN)) (d:bn C (i+1) r):bn C i (o::r):=⟨m (by
 cases hk:ks ops a0 l o with
 | none=>rw[hk] at h;cases h
 | some V=>
  rw[hk] at h;exact VF hk (aM h).symm),d⟩
theorem Gk (h:(ks ops a0 l o).map RV.v=some (l.getD i rvN)) (d:bn (oz P ops a0 w0 (rvs l)) (i+1) r):bn (oz P ops a0 w0 (rvs l)) i (o::r):=Ty zw.asked h d
def Xl (ops:Array Oper) (a0:Act) (l:List RV) (o:Oper):Option (TypeId × Value × Nat):=
 match kg ops a0 l o with
 | some true=>match o.op with
  | .fieldAddr t x f=>(kx ops a0 l o x).map λv=>(t,v,f)
  | _=>none
 | _=>none
theorem Mx (A:zw P ops a0 l i o->C i o) (b k:Nat) (h:Xl ops a0 l o=some (t,v,f)) (d:l.getD i rvN = .v (.pointer (some ⟨b,k,none⟩))) (p:bn C (i+1) r) (z:∀w,(Instr.fieldAt t v f).run P w = .ok (.pointer (some ⟨b,k,none⟩)) w:=by intro _;kernel_rfl):bn C i (o::r):=by
 refine⟨A ?_,p⟩;unfold Xl at h;split at h
 ·rename_i u;split at h
  ·rename_i t' x D m;cases hx:kx ops a0 l o x with
   | none=>rw[hx] at h;cases h
   | some v'=>
    rw[hx] at h;cases h;exact zw.run u d λρ y w s=>FW m (aI hx s) (z w)
  ·cases h
 ·cases h
theorem Gf (b k:Nat) (h:Xl ops a0 l o=some (t,v,f)) (d:l.getD i rvN = .v (.pointer (some ⟨b,k,none⟩))) (m:bn (oz P ops a0 w0 (rvs l)) (i+1) r) (p:∀w,(Instr.fieldAt t v f).run P w = .ok (.pointer (some ⟨b,k,none⟩)) w:=by intro _;kernel_rfl):bn (oz P ops a0 w0 (rvs l)) i (o::r):=Mx zw.asked b k h d m p
theorem SN (A:zw P ops a0 l i o->C i o) {n:Nat} (z:kg ops a0 l o=some true) (p:o.op = .call { callee:=.builtin .len,args:=#[x],argTypes:=#[t] }) (d:kx ops a0 l o x=some (.slice a n c)) (m:l.getD i rvN = .v (.int .i64 n)) (s:bn C (i+1) r) (h:P.underlying t=some (.slice (P.elem t)):=by rfl):bn C i (o::r):=
 ⟨A (zw.run z m λρ y w u=>Lf p (aI d u) h),s⟩
theorem Gn {n:Nat} (u:kg ops a0 l o=some true) (p:o.op = .call { callee:=.builtin .len,args:=#[x],argTypes:=#[t] }) (d:kx ops a0 l o x=some (.slice a n c)) (m:l.getD i rvN = .v (.int .i64 n)) (s:bn (oz P ops a0 w0 (rvs l)) (i+1) r) (h:P.underlying t=some (.slice (P.elem t)):=by rfl):bn (oz P ops a0 w0 (rvs l)) i (o::r):=SN zw.asked u p d m s h
theorem QX (D:zw P ops a0 l i o->C i o) (V:Value) {op:BinOp} {y:Operand} (s:∀w,(do eqGuard op t x y vx vy;binOp op t vx vy:Sem Value).run P w = .ok V w) (A:kg ops a0 l o=some true) (u:o.op = .binOp op t x y t') (m:kx ops a0 l o x=some vx) (h:kx ops a0 l o y=some vy) (p:l.getD i rvN = .v V) (z:bn C (i+1) r):bn C i (o::r):=
 ⟨D (zw.run A p λρ y w d=>qm u (aI m d) (aI h d) (s w)),z⟩
theorem Gb (V:Value) {op:BinOp} {y:Operand} (p:∀w,(do eqGuard op t x y vx vy;binOp op t vx vy:Sem Value).run P w = .ok V w) (z:kg ops a0 l o=some true) (s:o.op = .binOp op t x y t') (h:kx ops a0 l o x=some vx) (d:kx ops a0 l o y=some vy) (m:l.getD i rvN = .v V) (u:bn (oz P ops a0 w0 (rvs l)) (i+1) r):bn (oz P ops a0 w0 (rvs l)) i (o::r):=QX zw.asked V p z s h d m u
theorem WI (s:zw P ops a0 l i o->C i o) (V:Value) (h:∀ρ y w,Kn ops a0 l o ρ y w->(execOp ρ o).run P w = .ok (.value V) w) (p:kg ops a0 l o=some true) (d:l.getD i rvN = .v V) (m:bn C (i+1) r):bn C i (o::r):=⟨s (zw.run p d h),m⟩
section
variable {J:(Nat->Bool)->(Nat->Value)->World->Prop}
theorem Qk (d:∀L y w w',Below w.heap.size w w'->J L y w->J L y w') (h:(ks ops a0 l o).map RV.v=some (l.getD i rvN)) (p:bn (nu P ops a0 J (rvs l)) (i+1) r) (m:∀L y v w,(∀j,o.after.toList.any (λe=>e.on==j)=true->L j=true)->J L y w->J (dO L i) (fq y i v) w:=by intro _ _ _ _ _ h;exact h):bn (nu P ops a0 J (rvs l)) i (o::r):=Ty (zw.askedQ d m) h p
theorem Qf (d:∀L y w w',Below w.heap.size w w'->J L y w->J L y w') (b k:Nat) (h:Xl ops a0 l o=some (t,v,f)) (m:l.getD i rvN = .v (.pointer (some ⟨b,k,none⟩))) (s:bn (nu P ops a0 J (rvs l)) (i+1) r) (p:∀L y v w,(∀j,o.after.toList.any (λe=>e.on==j)=true->L j=true)->J L y w->J (dO L i) (fq y i v) w:=by intro _ _ _ _ _ h;exact h) (u:∀w,(Instr.fieldAt t v f).run P w = .ok (.pointer (some ⟨b,k,none⟩)) w:=by intro _;kernel_rfl):bn (nu P ops a0 J (rvs l)) i (o::r):=Mx (zw.askedQ d p) b k h m s u
theorem Qn (d:∀L y w w',Below w.heap.size w w'->J L y w->J L y w') {n:Nat} (D:kg ops a0 l o=some true) (z:o.op = .call { callee:=.builtin .len,args:=#[x],argTypes:=#[t] }) (m:kx ops a0 l o x=some (.slice a n c)) (s:l.getD i rvN = .v (.int .i64 n)) (A:bn (nu P ops a0 J (rvs l)) (i+1) r) (u:∀L y v w,(∀j,o.after.toList.any (λe=>e.on==j)=true->L j=true)->J L y w->J (dO L i) (fq y i v) w:=by intro _ _ _ _ _ h;exact h) (p:P.underlying t=some (.slice (P.elem t)):=by rfl):bn (nu P ops a0 J (rvs l)) i (o::r):=SN (zw.askedQ d u) D z m s A p
theorem Qb (d:∀L y w w',Below w.heap.size w w'->J L y w->J L y w') (V:Value) {op:BinOp} {y:Operand} (u:∀w,(do eqGuard op t x y vx vy;binOp op t vx vy:Sem Value).run P w = .ok V w) (E:kg ops a0 l o=some true) (A:o.op = .binOp op t x y t') (p:kx ops a0 l o x=some vx) (m:kx ops a0 l o y=some vy) (s:l.getD i rvN = .v V) (D:bn (nu P ops a0 J (rvs l)) (i+1) r) (z:∀L y v w,(∀j,o.after.toList.any (λe=>e.on==j)=true->L j=true)->J L y w->J (dO L i) (fq y i v) w:=by intro _ _ _ _ _ h;exact h):bn (nu P ops a0 J (rvs l)) i (o::r):=QX (zw.askedQ d z) V u E A p m s D
theorem Qr (d:∀L y w w',Below w.heap.size w w'->J L y w->J L y w') (V:Value) (h:∀ρ y w,Kn ops a0 l o ρ y w->(execOp ρ o).run P w = .ok (.value V) w) (u:kg ops a0 l o=some true) (m:l.getD i rvN = .v V) (s:bn (nu P ops a0 J (rvs l)) (i+1) r) (p:∀L y v w,(∀j,o.after.toList.any (λe=>e.on==j)=true->L j=true)->J L y w->J (dO L i) (fq y i v) w:=by intro _ _ _ _ _ h;exact h):bn (nu P ops a0 J (rvs l)) i (o::r):=WI (zw.askedQ d p) V h u m s
end
theorem Gr (V:Value) (h:∀ρ y w,Below w0.heap.size w0 w->Kn ops a0 l o ρ y w->(execOp ρ o).run P w = .ok (.value V) w) (z:kg ops a0 l o=some true) (s:l.getD i rvN = .v V) (u:bn (oz P ops a0 w0 (rvs l)) (i+1) r):bn (oz P ops a0 w0 (rvs l)) i (o::r):=
 ⟨λρ y w d m A p=>ak V (EL z ⟨d,m,p⟩) (h ρ y w A ⟨d,m,p⟩) (JV s rfl),u⟩
def Xf (P:Program) (t:TypeId):Bool:=match P.underlying t with
 | some (.struct _)=>false
 | some (.array _ _)=>false
 | some _=>true
 | none=>false
theorem sS {w:World} (h:Xf P t=true) (m:w.cell? ⟨b,k,none⟩=some V):(loadVar t ⟨b,k,none⟩).run P w = .ok V w:=by
 unfold Xf at h;cases hu:P.underlying t with
 | none=>rw[hu] at h;cases h
 | some d=>
  have p:(isAgg t).run P w = .ok false w:=by unfold isAgg;rw[kW,run_underlying hu w];rw[hu] at h;cases d<;>first | rfl | cases h
  simp[loadVar,kW,p,go_sem,m]
theorem Gl (G:aG w0 b cs T) (s:cs.toList[k]?=some V) (E:kg ops a0 l o=some true) (A:o.op = .load t x) (p:kx ops a0 l o x=some (.pointer (some ⟨b,k,none⟩))) (z:l.getD i rvN = .v V) (D:bn (oz P ops a0 w0 (rvs l)) (i+1) r) (u:Xf P t=true:=by kernel_rfl):bn (oz P ops a0 w0 (rvs l)) i (o::r):=by
 refine⟨λρ y w d h H m=>ak V (EL E ⟨d,h,m⟩) ?_ (JV z rfl),D⟩;have e:ρ x=_:=aI p ⟨d,h,m⟩;have F:w.cell? ⟨b,k,none⟩=some V:=by rw[(G.ext H).cell,<-uz];exact s
 refine run_load A e ?_;simp only[Instr.loadAt,Instr.sureAddr,kW,qP,qK,sS u F]
theorem Gc (V:Value) (E:∀w,Below w0.heap.size w0 w->w.cell? ⟨b,k,none⟩=some V) (D:kg ops a0 l o=some true) (z:o.op = .load t x) (p:kx ops a0 l o x=some (.pointer (some ⟨b,k,none⟩))) (u:l.getD i rvN = .v V) (A:bn (oz P ops a0 w0 (rvs l)) (i+1) r) (s:Xf P t=true:=by kernel_rfl):bn (oz P ops a0 w0 (rvs l)) i (o::r):=by
 refine⟨λρ y w d h F m=>ak V (EL D ⟨d,h,m⟩) ?_ (JV u rfl),A⟩;have e:ρ x=_:=aI p ⟨d,h,m⟩;refine run_load z e ?_;simp only[Instr.loadAt,Instr.sureAddr,kW,qP,qK,sS s (E w F)]
def revC:List Value->List Value->(List Value->Option (List Value))->Option (List Value)
 | [],r,k=>k r
 | a::l,r,k=>revC l (a::r) k
def ptC:List Value->Nat->Value->List Value->(List Value->Option (List Value))->Option (List Value)
 | [],_,_,acc,k=>revC acc [] k
 | _::l,0,v,acc,k=>revC acc (v::l) k
 | a::l,n+1,v,acc,k=>ptC l n v (a::acc) k
def zn (y:Nat->Value):List RV->List Oper->List Value->Option (List Value)
 | .v V::l,o::r,t=>match o.dst with
  | some d=>ptC t d V [] λt'=>zn y l r t'
  | none=>zn y l r t
 | .r j _::l,o::r,t=>match o.dst with
  | some d=>ptC t d (y j) [] λt'=>zn y l r t'
  | none=>zn y l r t
 | _,_,t=>some t
def idxOk:List RV->Nat->Bool
 | [],_=>true
 | .v _::l,i=>idxOk l (i+1)
 | .r j _::l,i=>(j==i)&&idxOk l (i+1)
theorem Ib (k:List Value->Option (List Value)):∀(a r:List Value),revC a r k=k (a.reverse++r)
 | [],r=>rfl
 | x::a,r=>by rw[revC,Ib k a];simp
theorem NN (k:List Value->Option (List Value)):∀(t:List Value) (n:Nat) (v:Value) (d:List Value),ptC t n v d k=k (d.reverse++t.set n v)
 | [],n,v,d=>by simp[ptC,Ib]
 | x::t,0,v,d=>by simp[ptC,Ib]
 | x::t,n+1,v,d=>by rw[ptC,NN k t];simp
theorem xW {y:Nat->Value} {w:World} {m:Nat}:∀(l:List RV) (r:List Oper) (k:Nat) (t:Array Value),idxOk l k=true->m=k+l.length->l.length<=r.length->(∀i,i<l.length->rl (rvs l) i (y (k+i)) w) ->
  zn y l r t.toList=some (lay (λi=>decide (i<m)) y r k t).toList
 | [],r,k,t,_,hm,_,_=>by
  have:zn y [] r t.toList=some t.toList:=by cases r<;>rfl
  rw[this];simp only[DL,iJ] at hm;subst hm;have c:∀(r:List Oper) (j:Nat) (t:Array Value),m<=j->lay (λi=>decide (i<m)) y r j t=t:=by
   intro r
   induction r with
   | nil=>intro j t _;rfl
   | cons o r ih=>
    intro j t p;simp only[lay];rw[ih (j+1) _ (by omega)];cases o.dst with
    | none=>rfl
    | some d=>simp[show ¬j<m by omega]
  rw[c r m t (az _)]
 | a::l,[],k,t,_,_,hle,_=>by simp at hle
 | a::l,o::r,k,t,hi,hm,hle,hR=>by
  have h:k<m:=by simp at hm;omega
  have b:∀i,i<l.length->rl (rvs l) i (y (k+1+i)) w:=λi z=>by have:=hR (i+1) (by simp;omega);rw[show k+1+i=k+(i+1) by omega];unfold rl at this ⊢;simpa[rvs] using this
  cases a with
  | v V=>
   have s:y k=V:=by have:=hR 0 (by simp);exact this
   have ih:=λt'=>xW (m:=m) (w:=w) l r (k+1) t' hi (by rw[qg] at hm;omega) (by simpa using hle) b;cases ho:o.dst with
   | none=>simp only[lay,ho,h,decide_true,if_true,zn,ih]
   | some d=>
    simp only[lay,ho,h,decide_true,if_true,zn,NN,s,List.reverse_nil,Jf];rw[<-ih (t.setIfInBounds d V),CW]
  | r j R=>
   have p:j=k/\idxOk l (k+1)=true:=by have u : ((j==k)&&idxOk l (k+1))=true:=hi;simpa using u
   obtain⟨rfl,e⟩:=p;have ih:=λt'=>xW (m:=m) (w:=w) l r (j+1) t' e (by rw[qg] at hm;omega) (by simpa using hle) b;cases ho:o.dst with
   | none=>simp only[lay,ho,h,decide_true,if_true,zn,ih]
   | some d=>
    simp only[lay,ho,h,decide_true,if_true,zn,NN,List.reverse_nil,Jf];rw[<-ih (t.setIfInBounds d (y j)),CW]
end
theorem aN {s:List Deferred} (m:Nat) (l:List RV)
 (d:bn (oz P ops ⟨t0,s⟩ w0 (rvs l)) 0 (ops.toList.take m)) {tm:(Nat->Value)->List Value} (M:∀y,zn y l ops.toList t0.toList=some (tm y)) (N:wr (ops.toList.drop m)=some rest)
 (p:∀y w,Below w0.heap.size w0 w->(∀i,i<m->rl (rvs l) i (y i) w)->wpList P ops Q rest ⟨(tm y).toArray,s⟩ w)
 (G:P.follows .mixedOrders=true:=by kernel_rfl) (z:jX ops=true:=by kernel_rfl) (F:jb ops m=true:=by kernel_rfl) (A:m<=ops.size:=by decide) (H:l.length=m:=by rfl) (D:idxOk l 0=true:=by kernel_rfl)
 (u:kU ops t0.size=true:=by kernel_rfl):(Code.region id ops true).wp P Q ⟨t0,s⟩ w0:=by
 refine Rs m (rvs l) G z F A _ rfl u d λy w O E => ?_;have h:=p y w O E;rw[OC N];have e:=xW (m:=m) (y:=y) (w:=w) l ops.toList 0 t0 D (by omega) (by simp;omega) λi U=>by rw[dV];exact E i (by omega)
 show wpList P ops Q rest ⟨lay (λi=>decide (i<m)) y ops.toList 0 t0,s⟩ w;have S:=aM (e.symm.trans (M y));have R:lay (λi=>decide (i<m)) y ops.toList 0 t0=(tm y).toArray:=by rw[<-S]
 rw[R];exact h
theorem iF {u:List Deferred} (m:Nat) (l:List RV) (J:(Nat->Bool)->(Nat->Value)->World->Prop) (A:∀L y w w',Below w.heap.size w w'->J L y w->J L y w') (G:∀y,J (λ_=>false) y w0)
 (d:bn (nu P ops ⟨t0,u⟩ J (rvs l)) 0 (ops.toList.take m)) {tm:(Nat->Value)->List Value} (R:∀y,zn y l ops.toList t0.toList=some (tm y)) (S:wr (ops.toList.drop m)=some rest)
 (s:∀y w,J (λi=>decide (i<m)) y w->(∀i,i<m->rl (rvs l) i (y i) w)->wpList P ops Q rest ⟨(tm y).toArray,u⟩ w)
 (p:Fixed (rvs l):=by repeat (first | exact fix_nil | refine KW (λ_ _ _ h=>h) ?_))
 (N:P.follows .mixedOrders=true:=by kernel_rfl) (D:jX ops=true:=by kernel_rfl) (M:jb ops m=true:=by kernel_rfl) (E:m<=ops.size:=by decide) (O:l.length=m:=by rfl) (F:idxOk l 0=true:=by kernel_rfl)
 (z:kU ops t0.size=true:=by kernel_rfl):(Code.region id ops true).wp P Q ⟨t0,u⟩ w0:=by
 refine Rc m (rvs l) J A G p N D M E _ rfl z d λy w U H => ?_;have h:=s y w U H;rw[OC S];have e:=xW (m:=m) (y:=y) (w:=w) l ops.toList 0 t0 F (by omega) (by simp;omega) λi hi=>by rw[dV];exact H i (by omega)
 show wpList P ops Q rest ⟨lay (λi=>decide (i<m)) y ops.toList 0 t0,u⟩ w;have e2:=aM (e.symm.trans (R y));have X:lay (λi=>decide (i<m)) y ops.toList 0 t0=(tm y).toArray:=by rw[<-e2]
 rw[X];exact h
theorem QK {w:World} {m:Nat} {l:List RV} (d:idxOk l 0=true) (p:l.length=m) (h:m<=ops.size) (u:∀i,i<m->rl (rvs l) i (y i) w) (s:zn y l ops.toList t0.toList=some tm):lay (λi=>decide (i<m)) y ops.toList 0 t0=tm.toArray:=by
 have e:=xW (m:=m) (y:=y) (w:=w) l ops.toList 0 t0 d (by omega) (by simp;omega) λi A=>by rw[dV];exact u i (by omega)
 have z:=aM (e.symm.trans s);rw[<-z]
def Km {α:Type} (P:Program) (t:TypeId) (enc:α->List Value) (good:α->Prop):Prop:=
 ∀(H:Type) (e:TypeId × Value->H) (w:World) (base:Nat) (spare:Nat->Bool) (held:Bool) (fuel:Nat) (cs:List Value) (x:DataW H × List MemPlace),
  DataW.trod e P w base spare held fuel t cs=some x->∃a:α,cs=enc a/\good a
theorem Bi (d:P.underlying t=some (.int .i64)):Km P t (λn:Int=>[.int .i64 n]) i64:=by
 intro H e w base spare a fuel cs x h;obtain⟨n,rfl,_,m⟩:=DataW.trod_int d h;exact⟨n,rfl,bounds_i64 m⟩
theorem Rl (d:P.underlying t=some (.int .u8)):Km P t (λb:UInt8=>[CQ b]) (λ_=>True):=by
 intro H e w base spare a fuel cs x h;obtain⟨n,rfl,_,m⟩:=DataW.trod_int d h;have p:=bounds_u8 m;refine⟨UInt8.ofNat n.toNat,?_,trivial⟩;simp[CQ];omega
theorem open_list {α:Type} {enc:α->List Value} {good:α->Prop} (ht:P.underlying t=some (.slice e)) (ho:Km P e enc good) (s:∀x,(enc x).length=P.cellsOf e)
 {H:Type} {en:TypeId × Value->H} {w:World} {cs:List Value} {x:DataW H × List MemPlace} (h:DataW.trod en P w base spare held fuel t cs=some x) :
  ∃(a:Option Addr) (l:List α) (c:Nat),cs=[.slice a l.length c]/\l.length<=c/\c<=maxLen/\(a=none->c=0)/\dZ w a (l.flatMap enc)/\∀y∈l,good y:=by
 rcases DataW.trod_slice ht h with ⟨rfl,_⟩|⟨a,z,cap,O,rest,n,_,rfl,_,_,M,D,U,N,_⟩
 ·exact⟨none,[],0,rfl,az _,aZ _,λ_=>rfl,dZ.nil,λy G=>(by cases G)⟩
 have F:∀i,i<z->∃y:α,good y/\∀j u,(enc y)[j]?=some u->w.cell? ((a.add (i*P.cellsOf e)).add j)=some u:=by
  intro i A;have h1:=N i A;rw[aH (by omega)] at h1;obtain⟨cs',h2,h3⟩:=Option.bind_eq_some_iff.1 h1;obtain⟨y,rfl,G⟩:=ho H en w base spare held n cs' _ h3;refine⟨y,G,λj u E => ?_⟩;unfold World.cells? at h2;split at h2
  ·have h4:=mapM_some_get h2 j j (by
    have:j<(enc y).length:=by
     rcases fQ j (enc y).length with h|h
     ·exact h
     ·simp[fw h] at E
    rw[s y] at this;simp[this])
   rw[E] at h4;exact h4
  ·cases h2
 have m:=Cu good (λi y => ∀j u,(enc y)[j]?=some u->w.cell? ((a.add (i*P.cellsOf e)).add j)=some u) z F;obtain⟨l,rfl,hg,S⟩:=m;refine⟨some a,l,cap,rfl,M,D,λe=>(Option.some_ne_none _ e).elim,?_,hg⟩
 by_cases R:P.cellsOf e=0
 ·have:l.flatMap enc=[]:=by apply kS;rw[flat_len enc (P.cellsOf e) s l,R,Nat.mul_zero]
  rw[this];exact dZ.nil
 intro k u X;have p:k<l.length*P.cellsOf e:=by
  rw[<-flat_len enc (P.cellsOf e) s l];rcases fQ k (l.flatMap enc).length with h|h
  ·exact h
  ·simp[fw h] at X
 have A:k / P.cellsOf e<l.length:=Nat.div_lt_of_lt_mul (by rw[xY];exact p);have E:k%P.cellsOf e<P.cellsOf e:=tC _ (Nat.pos_of_ne_zero R);have f : k / P.cellsOf e*P.cellsOf e+k%P.cellsOf e=k:=by rw[xY];exact Nat.div_add_mod k _
 have g:(enc l[k / P.cellsOf e])[k%P.cellsOf e]?=some u:=by
  have h5:k%P.cellsOf e<(enc l[k / P.cellsOf e]).length:=by rw[s];exact E
  have h6:=flat_get enc (P.cellsOf e) s l _ A _ _ (aH h5);rw[f,X] at h6;rw[aH h5,h6]
 have h7:=S _ A _ u g;have d:a.spot=none:=by
  by_cases h8:a.spot=none
  ·exact h8
  exfalso
  -- the first cell of all is read at the address itself
  have h0:0<l.length:=Nat.lt_of_le_of_lt (aZ _) A;have h9:0<(enc l[0]).length:=by rw[s];omega
  have o:=S 0 h0 0 _ (aH h9);simp only[vC,Addr.add,if_true] at o;have:=World.cell?_spot o;exact h8 this
 obtain⟨b,off,sp⟩:=a;subst d;refine⟨b,off,rfl,?_⟩;rw[qa,qa,nQ,f] at h7;exact h7
open Go.ChangeShapes Go.WideShapes Go.ChangeAt
def zl {α:Type} (P:Program) (t:TypeId) (enc:α->List Value) (good:World->α->Prop):Prop:=
 ∀(H:Type) (e:TypeId × Value->H) (w:World) (base:Nat) (spare:Nat->Bool) (held:Bool) (fuel:Nat) (cs:List Value) (x:DataW H × List MemPlace),
  DataW.trod e P w base spare held fuel t cs=some x->∃a:α,cs=enc a/\good w a
theorem Km.w {α:Type} {enc:α->List Value} {good:α->Prop} (h:Km P t enc good):zl P t enc (λ_=>good):=h
def xZ {α:Type} (P:Program) (fs:Array Field) (L k off:Nat) (enc:α->List Value) (good:World->α->Prop):Prop:=
 ∀(H:Type) (e:TypeId × Value->H) (w:World) (base:Nat) (spare:Nat->Bool) (held:Bool) (n:Nat) (cs:List Value) (xs:List (DataW H × List MemPlace)),cs.length=L->xs.length=fs.size ->
  (∀(i:Nat) (f:Field),fs[i]?=some f->DataW.trod e P w base spare held n f.type ((cs.drop f.offset).take (P.cellsOf f.type))=xs[i]?)->∃a:α,cs.drop off=enc a/\good w a
theorem FJ {fs:Array Field} {L:Nat} (h:L=off):xZ P fs L k off (λ_:Unit=>[]) (λ_ _=>True):=by
 intro H e w base spare a n cs xs d _ _;exact⟨(),by rw[qO (by omega)],trivial⟩
theorem sO {α β:Type} {fs:Array Field} {L:Nat} {f:Field} {enc:α->List Value} {good:World->α->Prop} {enc' : β->List Value} {good' : World->β->Prop} (m:fs[k]?=some f) (off' : Nat) (p:f.offset=off) (s:off+P.cellsOf f.type=off') (F:zl P f.type enc good)
 (E:xZ P fs L (k+1) off' enc' good'):xZ P fs L k off (λx:α × β=>enc x.1++enc' x.2) (λw x=>good w x.1/\good' w x.2):=by
 intro H e w base spare c n cs xs u d h;subst s;obtain⟨b,A,G⟩:=E H e w base spare c n cs xs u d h;have z:k<xs.length:=by rw[d];exact (iU.1 m).1
 have h2:=h k f m;rw[aH z,p] at h2;obtain⟨a,D,M⟩:=F H e w base spare c n _ _ h2;refine⟨(a,b),?_,M,G⟩;show _=enc a++enc' b;rw[<-D,<-A,<-List.drop_drop,qX]
theorem Jm {α:Type} {fs:Array Field} {enc:α->List Value} {good:World->α->Prop} (m:P.underlying t=some (.struct fs)) (h:xZ P fs (P.cellsOf t) 0 0 enc good):zl P t enc good:=by
 intro H e w base spare a fuel cs x d;obtain⟨xs,n,_,_,s,p,b⟩:=DataW.trod_struct m d;exact h H e w base spare a n cs xs s p b
theorem zl.of {α β:Type} {enc:α->List Value} {good:World->α->Prop} {enc' : β->List Value} {good' : World->β->Prop} (h:zl P t enc good) (g:α->β) (p:∀a,enc a=enc' (g a)) (m:∀w a,good w a->good' w (g a)):zl P t enc' good':=by
 intro H e w base spare b fuel cs x d;obtain⟨a,s,u⟩:=h H e w base spare b fuel cs x d;exact⟨g a,by rw[s,p],m w a u⟩
end Pw
namespace Go.Proofs.YthihaopabbpalaaGreat
open Go.ChangeShapes Go.WideShapes Go.ChangeAt Go.RowKit Go.Maps Pw
variable {B B' b cap g n' off sz sz':Nat} {P:Program} {T T' e e':TypeId} {cs cs':Array Value} {v v':Value} {vs xs xs':List Value} {w w':World}
theorem mK {n:Nat} (h:Own w B e sz v n xs) (g:Nat) (d:v.ownBlock=some g):∃cs,aG w g cs e:=by
 rcases h.2 with ⟨rfl,_⟩|⟨s,off,cap,p,rfl,_,m,_⟩
 ·cases d
 cases d;exact⟨_,m⟩
theorem lD {n:Nat} (h:aG w b cs T) (d:Own w B e sz v n xs) (s:T≠e) (m:w.grownBy w' v.ownBlock):aG w' b cs T:=
 h.grown m (λp=>own_ne d h s b p rfl)
theorem Ae {n:Nat} (h:Own w B e sz v n xs) (m:Own w B' e' sz' v' n' xs') (z:e'≠e) (s:w.grownBy w' v'.ownBlock):Own w' B e sz v n xs:=
 h.grown s (λg d u=>by obtain⟨cs,p⟩:=mK m g u;exact own_ne h p z g d rfl)
theorem vI {n:Nat} (h:Own w B e sz v n xs) (d:aG w g cs T) (m:T≠e) (o:Nat) (u:Value):Own (w.setCell ⟨g,o,none⟩ u) B e sz v n xs:=
 ax h d m (aC w g o [u])
theorem bZ (h:aG w b cs T) (m:aG w g cs' T') (s:T'≠T) (d:w.grownBy w' (some g)):aG w' b cs T:=
 h.grown d (λp=>by cases p;unfold aG at h m;rw[m] at h;simp only[jr,ug] at h;exact s h.2.1)
theorem xD (a b:Option Addr) (n c m e:Nat):(#[Value.slice a n c,Value.slice b m e]:Array Value).all (·.oneCell')=true:=by simp[Value.oneCell']
theorem oO {α:Type} {enc:α->List Value} (m:∀x,(enc x).length=sz) (p:0<sz) {n:Nat} {l:List α} (s:l.length=n) (h:Own w B e sz v n (l.flatMap enc)) (k:Nat) (u:k<n) :
  ∃g off cap d,v = .slice (some ⟨g,off,none⟩) n cap/\B<=g/\aG w g d e/\off+k*sz+sz<=d.size /\
   ∀w' x,aG w' g (bI d (off+k*sz) (enc x)) e->Own w' B e sz v n ((l.set k x).flatMap enc):=by
 subst s;obtain⟨g,off,cap,d,E,h2,D,A,_,z⟩:=h.put m p k u;exact⟨g,off,cap,d,E,h2,D,A,z⟩
theorem nV {a b c:World} {row:Option Nat} (h:a.grownBy b row) (k:b.grownBy c row):a.grownBy c row:=
 World.grownBy.andThen h k (λj d => .inr d)
theorem lH {n:Nat} (h:Own w B e sz v n xs) (d:w.grownBy w' none):Own w' B e sz v n xs:=h.grown d (by simp)
theorem uQ (w:World) (t e ty:TypeId) (z:Value) (sz h:Nat) (F:P.underlying t=some (.slice e)) (s:(P.info? e).map (λi=>(i.zero,i.size,i.bytes))=some (some z,sz,h)) (H:∀u∈z.cells.toList,u.oneCell' = true) (M:0<z.cells.size)
 (b o n c:Nat) (N:0<n) (d:Array Value) (T:TypeId) (A:aG w b d T) (D:o+n*z.cells.size<=d.size) :
  (Builtin.clear_ #[t] ty #[.slice (some ⟨b,o,none⟩) n c]).run P w = .ok (.tuple #[]) (w.setCells b o (Builtin.zeroCells z.cells n).toList):=by
 have O:(Builtin.zeroCells z.cells n).toList.length=n*z.cells.size:=by simp[Builtin.zeroCells]
 have a:=run_storeCells_cells (P:=P) b o (Builtin.zeroCells z.cells n).toList 0 w
  (λj G=>by rw[iJ,A.cell];simp[show o+j<d.size by omega]) (λj G=>A.free _)
  (λv p=>by simp only[Builtin.zeroCells,Array.toList_map,ja] at p;obtain⟨i,_,rfl⟩:=p;have:i%z.cells.size<z.cells.size:=tC _ M;rw[getElem!_pos z.cells _ this];exact H _ (by simp))
 simp only[iJ] at a;obtain⟨m,rfl⟩:∃m,n=m+1:=⟨n-1,by omega⟩;have p:∀w,(zeroValue e).run P w = .ok z w:=by
  intro w;cases hq:P.info? e with
  | none=>simp[hq] at s
  | some i=>
   have E:i.zero=some z:=by simp[hq] at s;exact s.1
   simp[zeroValue,typeInfo,run_program,hq,E]
 simp[Builtin.clear_,run_underlying F,p,a]
theorem Pe {α:Type} {enc:α->List Value} (m:∀x,(enc x).length=sz) {l:List α} {n:Nat} (h:Own w B e sz (.slice (some ⟨g,off,none⟩) n cap) n (l.flatMap enc)) (i:Nat) (z:l.length=n) (R:i<=n)
 (D:∀d,aG w g d e->aG w' g (bI d (off+i*sz) vs) e):Own w' B e sz (.slice (some ⟨g,off,none⟩) (l.take i).length cap) (l.take i).length ((l.take i).flatMap enc):=by
 subst z;obtain⟨z,h⟩:=h;rcases h with ⟨O,_⟩|⟨U,s,A,d,E,N,M,S,H,G,F⟩
 ·cases O
 cases E;have b:(l.take i).length=i:=by simp;omega
 refine⟨by rw[Pw.flat_len enc sz m],.inr ⟨g,off,cap,_,rfl,N,D d M,by omega,H,by rw[size_putAt];exact G,λj u p => ?_⟩⟩;have c : j<i*sz:=by
  rcases fQ j (i*sz) with h|h
  ·exact h
  rw[fw (by rw[Pw.flat_len enc sz m,b];exact h)] at p;cases p
 rw[putAt_out _ _ _ _ (.inl (by omega))];refine F j u ?_;have a:l.flatMap enc=(l.take i).flatMap enc++(l.drop i).flatMap enc:=by rw[<-fE,qX]
 rw[a,kF (by rw[Pw.flat_len enc sz m,b];exact c)];exact p
theorem Ac {α:Type} {enc:α->List Value} (d:∀x,(enc x).length=sz) (E:0<sz) {n:Nat} {l:List α} (G:l.length=n) (h:Own w B e sz v n (l.flatMap enc)) (k:Nat) (H:k<n) (j:Nat) (R:j<sz) (u:Value) (x:α)
 (A:enc x=(enc (l[k]'(by omega))).set j u) :
  ∃g off cap,v = .slice (some ⟨g,off,none⟩) n cap/\B<=g/\g<w.heap.size/\(∃cs,aG w g cs e)/\(∀i y,(enc (l[k]'(by omega)))[i]?=some y->w.cell? ⟨g,off+k*sz+i,none⟩=some y)/\w.frozen? ⟨g,off+k*sz+j,none⟩=false /\
   Own (w.setCell ⟨g,off+k*sz+j,none⟩ u) B e sz v n ((l.set k x).flatMap enc):=by
 subst G;obtain⟨g,off,cap,z,O,h2,s,U,D,N⟩:=h.put d E k H;refine⟨g,off,cap,O,h2,s.lt,⟨_,s⟩,D,s.free _,N _ x ?_⟩;have M:bI z (off+k*sz) (enc x)=z.setIfInBounds (off+k*sz+j) u:=by
  apply mH;intro i
  by_cases S:off+k*sz<=i/\i<off+k*sz+sz
  ·obtain⟨m,rfl⟩:∃m,i=off+k*sz+m:=⟨i-(off+k*sz),by omega⟩;have F:m<(enc x).length:=by rw[d];omega
   rw[putAt_in _ _ _ m (enc x)[m] (by rw[d];omega) (aH F)]
   by_cases p:m=j
   ·subst p;rw[sI (by omega)];simp[A]
   rw[gM (by omega)];have a : m<(enc l[k]).length:=by rw[d];omega
   have:=D m (enc l[k])[m] (aH a);rw[s.cell] at this;rw[this];simp[A,Dj (λe=>p e.symm)]
  ·rw[putAt_out _ _ _ _ (by rw[d];omega),gM (by omega)]
 rw[M];exact s.setCell _ _
theorem UA {o:Nat} (h:w.cell? ⟨b,o,none⟩=some v):b<w.heap.size:=by
 rcases fQ b w.heap.size with d|d
 ·exact d
 ·simp[World.cell?,lW d] at h
theorem LJ {H:Type} {k:TypeId} {R:Value->Option (DataW H × List MemPlace)} {n:Nat} {D:DataW H} (h:w.ownsMap P k R b n D) (p:Below w.heap.size w w'):w'.ownsMap P k R b n D:=by
 have m:=h.lt;obtain⟨u,d,s,r⟩:=h;exact⟨u,d,(p.block b m).trans s,r⟩
end Go.Proofs.YthihaopabbpalaaGreat